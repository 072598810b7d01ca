import Derived.Test.YtggfbkekamomiaaKFnCodesHiddenA0
import Derived.RegionTactic
import Derived.ChangeAlike
import Derived.BigRegion
import Derived.Laws.RangeString
import Derived.Deep.RegionHeld3
import Derived.Shelf.Abstract
import Derived.Laws.StructEq
import Derived.Deep.RegionLaw
namespace Go.Proofs.Ytggfbkekamomiaa.P
open Go.RowKit Go.Proofs.YtggfbkekamomiaaW.PrintWords Go.Proofs.YtggfbkekamomiaaW.PrintLast Go.Proofs.YtggfbkekamomiaaW.PrintMore
attribute [local go_sem] max2_int min2_int max_two min_two max_three min_three max_four min_four
set_option linter.unusedVariables false
set_option linter.unusedSimpArgs false
/-! impl's code of a number, by hand. -/
def impl_Lock_code.f (a b c:Int):Option ByteArray:=if lockB a b=true∧0≤c∧c≤9223372036854775807 then some (codeB a b c) else none
theorem impl_Lock_code.is {a b c:Int} (h:lockB a b=true) (h0:0≤c) (h1:c≤9223372036854775807):impl_Lock_code.f a b c=some (codeB a b c):=by unfold impl_Lock_code.f;rw [if_pos ⟨h,h0,h1⟩]
set_option maxHeartbeats 4000000 in
set_option maxRecDepth 100000 in
theorem impl_Lock_code.calls (a0_0 a0_1 a1:Int) (r:ByteArray) (w:World) (h:impl_Lock_code.f a0_0 a0_1 a1=some r) :
    Calls Try.prog 54 #[.agg #[.int .i64 a0_0, .int .i64 a0_1], .int .i64 a1] w fun e w'=>e = .returned (.string r)∧Below w.heap.size w w':=by
  unfold impl_Lock_code.f at h
  by_cases hc:lockB a0_0 a0_1=true∧0≤a1∧a1≤9223372036854775807
  · rw [if_pos hc] at h
    obtain rfl:=Option.some.inj h
    clear h
    obtain ⟨hl,hn0,hn1⟩:=hc
    obtain ⟨w1,w2,d1,d2⟩:=lockB_iff.mp hl
    have HR:=amk (rfl:codeB a0_0 a0_1 a1=codeB a0_0 a0_1 a1)
    obtain ⟨kt,hkt⟩:=(impl_text.ev (digs a0_1 a0_0.toNat a1) (by rw [digs_length];omega)).rounds
    have HT:=amk hkt
    have hinfo:(Try.prog.info? 3).map (fun i=>(i.zero,i.size,i.bytes))=some (some (.int .i64 0),1,8):=by kernel_rfl
    have HI:=amk hinfo
    have hu:=Try.underlying25
    clear hkt hl hinfo HR
    show Calls Try.prog _ _ w fun e w'=>e = .returned (.string (textB (digs a0_1 a0_0.toNat a1)))∧Below w.heap.size w w'
    generalize hD:digs a0_1 a0_0.toNat a1=D at HT ⊢
    have HD:=amk hD
    clear hD
    go_enter Try.func54,Try.ntmps54
    go_wp2_with ((with_reducible refine gate_dst (N:=9) rfl ?_);refine Kd.R_make (Kd.int .i64) (w0:=w.alloc (.cells #[.int .i64 a0_0, .int .i64 a0_1] 25)) (w.heap.size + 1) 3 (by rfl) (N:=9) rfl 53 (.tmp 8) (.tmp 8) rfl a0_0 rfl rfl Try.underlying53 (.int .i64 0) 8 HI.out rfl (by decide) (by omega) (0:Int) (ok:=fun _=>True) (okp:=fun _=>False) rfl (fun _ h=>h.elim) trivial (by omega) (by omega) (by simpa using Below.refl _ _) (by simp) ?_;intro v1 w3 hr3 hb3 hg3 hat3;have hq0:w3.cell? ⟨w.heap.size,0,none⟩=some (.int .i64 a0_0):=(hb3.cell (p:=⟨w.heap.size,0,none⟩) (by simp)).trans (by simp);have hq1:w3.cell? ⟨w.heap.size,1,none⟩=some (.int .i64 a0_1):=(hb3.cell (p:=⟨w.heap.size,1,none⟩) (by simp)).trans (by simp);obtain ⟨m,hm⟩ : ∃ m,a0_0.toNat=m + 1:=⟨a0_0.toNat - 1,by omega⟩;obtain ⟨g,cap,rfl⟩:=row_form (n:=m) hr3 (by simpa using hm);have HR3:=amk hr3;have HB3:=amk hb3;have HM:=amk hm;clear hr3 hb3 hg3 hat3 hm)
    go_loopg [1,6] (m + 2) (fun gg s1 s6 wr=> ∃ (n i:Int) (T:List Int),s1 = .int .i64 n∧s6 = .int .i64 i∧Aside0 (0≤n∧n≤9223372036854775807)∧Aside0 (-1≤i∧i≤m∧i + 1≤gg)∧Aside0 (digs a0_1 (i + 1).toNat n ++ T=D)∧Aside0 ((Kd.int .i64).R 3 wr (w.heap.size + 1) (fun _=>True) (.slice (some ⟨g,0,none⟩) (m + 1) cap) (List.replicate (i + 1).toNat 0 ++ T))∧Aside0 (Below (w.heap.size + 1) (w.alloc (.cells #[.int .i64 a0_0, .int .i64 a0_1] 25)) wr))
    case atStart=>exact ⟨a1,a0_0 - 1,[],rfl,rfl,⟨hn0,hn1⟩,⟨by have:=HM.out;omega⟩,⟨by rw [List.append_nil,show a0_0 - 1 + 1=a0_0 by omega];exact HD.out⟩,⟨by rw [List.append_nil,show a0_0 - 1 + 1=a0_0 by omega];exact HR3.out⟩,HB3⟩
    case round =>
      obtain ⟨n,i,T,rfl,rfl,HN,HII,HDD,HRR,HBB⟩:=hrel
      clear hq0 hq1
      have hq1:wr.cell? ⟨w.heap.size,1,none⟩=some (.int .i64 a0_1):=(HBB.out.cell (p:=⟨w.heap.size,1,none⟩) (by simp)).trans (by simp)
      by_cases hi:0≤i
      · have hi2:decide (i ≥ 0)=true:=decide_eq_true hi
        obtain ⟨hn0',hn1'⟩:=HN.out
        obtain ⟨_,hi3,_⟩:=HII.out
        have him:i < ((m + 1:Nat):Int):=by omega
        obtain ⟨hbg,hlen,hcapm,hcap2,hcells⟩:=row_cells HRR.out
        have hlt:i.toNat < cap:=by omega
        obtain ⟨hci,hfi⟩:=hcells i.toNat (by show _ < cap * 1;omega)
        obtain ⟨vi,hvi⟩:=Option.isSome_iff_exists.mp hci
        clear hci hcells
        have hdn:(a0_1 == 0)=false:=by simp;omega
        have e1:n.tmod a0_1=n % a0_1:=Int.tmod_eq_emod_of_nonneg hn0'
        have e2:n.tdiv a0_1=n / a0_1:=Int.tdiv_eq_ediv_of_nonneg hn0'
        have r1:0≤n % a0_1:=Int.emod_nonneg _ (by omega)
        have r2:n % a0_1 < a0_1:=Int.emod_lt_of_pos _ (by omega)
        have r3:0≤n / a0_1:=Int.ediv_nonneg hn0' (by omega)
        have r4:n / a0_1≤n:=Int.ediv_le_self _ hn0'
        have z1:wrap64 (n % a0_1)=n % a0_1:=w64 (by omega) (by omega)
        have z2:wrap64 (n / a0_1)=n / a0_1:=w64 (by omega) (by omega)
        have z3:wrap64 (i - 1)=i - 1:=w64 (by omega) (by omega)
        go_wp2
        go_region
        have HR':=amk (Kd.R_drew (Kd.R_putn HRR.out i (n % a0_1)))
        have HB':Aside0 (Below (w.heap.size + 1) (w.alloc (.cells #[.int .i64 a0_0, .int .i64 a0_1] 25)) (wr.setCell ⟨g,i.toNat,none⟩ (.int .i64 (n % a0_1))).drew):=⟨bd_ (HBB.out.setCell (p:=⟨g,i.toNat,none⟩) hbg _)⟩
        go_wp2
        go_roundg i.toNat
        obtain ⟨k,rfl⟩ : ∃ k:Nat,i=(k:Int):=⟨i.toNat,by omega⟩
        rotate_left
        · omega
        refine ⟨n / a0_1,(k:Int) - 1,n % a0_1 :: T,rfl,rfl,⟨by omega,by omega⟩,⟨by omega,by omega,by omega⟩,⟨?_⟩,⟨?_⟩,HB'⟩
        · have:=HDD.out
          rw [show (k:Int) + 1=((k + 1:Nat):Int) by omega,Int.toNat_natCast] at this
          rw [show (k:Int) - 1 + 1=(k:Int) by omega,Int.toNat_natCast]
          rw [digs,List.append_assoc] at this
          exact this
        · have:=HR'.out
          rw [show (k:Int) + 1=((k + 1:Nat):Int) by omega,Int.toNat_natCast,Int.toNat_natCast,rep_set] at this
          rw [show (k:Int) - 1 + 1=(k:Int) by omega,Int.toNat_natCast]
          exact this
      · have hi2:decide (i ≥ 0)=false:=decide_eq_false hi
        have hT:T=D:=by
          have:=HDD.out
          rw [show (i + 1).toNat=0 by omega] at this
          exact this
        have HX:Aside0 ((Kd.int .i64).R 3 wr (w.heap.size + 1) (fun _=>True) (.slice (some ⟨g,0,none⟩) (m + 1) cap) D):=⟨by
          have:=HRR.out
          rw [show (i + 1).toNat=0 by omega,hT] at this
          exact this⟩
        obtain ⟨hlen,hcapm,hC⟩:=Kd.R_reads' HX.out
        have HC:Calls Try.prog 84 #[.slice (some ⟨g,0,none⟩) (m + 1) cap] wr fun e w'=>e = .returned (.string (textB D))∧Below wr.heap.size wr w':=by
          have:=impl_text.calls kt (some ⟨g,0,none⟩) cap D (textB D) wr hC (by omega) HT.out
          rw [←hlen] at this
          exact this
        clear hC hlen hcapm
        have HCA:=amk HC
        clear HC
        go_wp2_with (go_at_call 84;refine HCA.out.mono ?_;rintro e w9 ⟨rfl,hb9⟩)
        go_ret
        refine ⟨rfl,?_⟩
        have h1:Below w.heap.size w (w.alloc (.cells #[.int .i64 a0_0, .int .i64 a0_1] 25)):=ba_ (Below.refl _ _) _
        have h2:=HBB.out
        exact (below_then h1 (by simp) (h2.mono (by simp))).trans (hb9.mono (by have:=h2.size;simp at this;omega))
  · rw [if_neg hc] at h
    cases h
/-! The places and the digits that two codes share. -/
def plN (s t:ByteArray):Nat→Int
  | 0=>0
  | i + 1=>plN s t i + if bt s i=bt t i then 1 else 0
def ctN (s:ByteArray) (d:Int):Nat→Int
  | 0=>0
  | i + 1=>ctN s d i + if bt s i=d then 1 else 0
def lst (a b:Int):Int:=if a < b then a else b
def cmN (s t:ByteArray) (n:Nat):Nat→Int
  | 0=>0
  | m + 1=>cmN s t n m + lst (ctN s (48 + m) n) (ctN t (48 + m) n)
theorem plN_range (s t:ByteArray) : ∀ n,0≤plN s t n∧plN s t n≤n
  | 0=>by simp [plN]
  | n + 1=>by have:=plN_range s t n;simp only [plN];split <;> omega
theorem ctN_range (s:ByteArray) (d:Int) : ∀ n,0≤ctN s d n∧ctN s d n≤n
  | 0=>by simp [ctN]
  | n + 1=>by have:=ctN_range s d n;simp only [ctN];split <;> omega
theorem lst_range {a b:Int} {n:Nat} (h:0≤a∧a≤n) (k:0≤b∧b≤n):0≤lst a b∧lst a b≤n:=by
  unfold lst;split <;> omega
theorem cmN_range (s t:ByteArray) (n:Nat) : ∀ m,0≤cmN s t n m∧cmN s t n m≤n * m
  | 0=>by simp [cmN]
  | m + 1 => by
    have h:=cmN_range s t n m
    have h2:=lst_range (ctN_range s (48 + m) n) (ctN_range t (48 + m) n)
    have:(n:Int) * ((m + 1:Nat):Int)=n * m + n:=by rw [Int.natCast_succ,Int.mul_add,Int.mul_one]
    simp only [cmN]
    omega
/-- Texts of the same short length whose bytes are digits. -/
def hintB (a b:ByteArray):Bool:=decide (a.size=b.size∧1≤a.size∧a.size≤6∧(∀ i < a.size,48≤bt a (i:Nat)∧bt a (i:Nat)≤57)∧(∀ i < b.size,48≤bt b (i:Nat)∧bt b (i:Nat)≤57))
theorem hintB_iff {a b:ByteArray} : hintB a b=true ↔ (a.size=b.size∧1≤a.size∧a.size≤6∧(∀ i < a.size,48≤bt a (i:Nat)∧bt a (i:Nat)≤57)∧(∀ i < b.size,48≤bt b (i:Nat)∧bt b (i:Nat)≤57)):=by simp [hintB]
theorem bt_nat {a:ByteArray} {i:Nat} (h:i < a.size):((a[i]'h).toNat:Int)=bt a (i:Nat):=by simp [bt,h]
theorem beq_of (x y:Int):(x == y)=decide (x=y):=by by_cases h:x=y <;> simp [h]
/-! Declarations moved out of HHint. -/
theorem impl_digits_of {s:ByteArray} (h6:s.size≤6) (h : ∀ i < s.size,48≤bt s (i:Nat)∧bt s (i:Nat)≤57):Ev (fun k=>impl_digits.f k s) ((List.range s.size).map fun i=>bt s (i:Nat) - 48):=by
  have : ∀ m i:Nat,i + m=s.size→∀ xs:List Int,xs.length=i→Ev (fun k=>impl_digits.l0 k s xs (s.size:Int) (i:Nat)) (xs ++ (List.range' i m).map fun i=>bt s (i:Nat) - 48):=by
    intro m
    induction m with
    | zero =>
      intro i hi xs hx
      refine Ev.step (fun k=>rfl) ?_
      refine Ev.no (by omega) ?_
      exact Ev.id (by simp)
    | succ m ih =>
      intro i hi xs hx
      refine Ev.step (fun k=>rfl) ?_
      refine Ev.yes (by omega) (Ev.yes (by omega) (Ev.yes (by omega) (Ev.yes (by omega) ?_)))
      have:=ih (i + 1) (by omega) (xs ++ [bt s (i:Nat) - 48]) (by simp [hx])
      have hb:=h i (by omega)
      rw [show ((bt s (i:Nat)) - 48) % 256=bt s (i:Nat) - 48 by omega,show wrap64 ((i:Int) + 1)=((i + 1:Nat):Int) from w64 (by omega) (by omega)]
      refine Ev.eq this ?_
      rw [List.range'_succ]
      simp
  have:=this s.size 0 (by omega) [] rfl
  refine Ev.eq this ?_
  simp [List.range_eq_range']
section
/-! impl.hint, by hand: it counts in an array of ten. -/
def impl_hint.f (a b:ByteArray):Option (Int×Int):=if hintB a b=true then some (plN a b a.size,cmN a b a.size 10 - plN a b a.size) else none
theorem row_ints {e:Nat} {w:World} {base:Nat} {ok:Nat→Prop} {g n cap:Nat} {D:List Int} (h:(Kd.int .i64).R e w base ok (.slice (some ⟨g,0,none⟩) n cap) D) (i:Nat) (hi:i < n):w.cell? ⟨g,i,none⟩=some (.int .i64 (rd D (i:Nat))):=by
  obtain ⟨h1,h2,hC⟩:=Kd.R_reads' h
  obtain ⟨ad,e1,e2⟩:=Kd.at_int hC (i:Nat) (by omega) (by omega)
  obtain rfl:=Option.some.inj e1
  rw [show Addr.add ⟨g,0,none⟩ (i:Int).toNat=⟨g,i,none⟩ by cases i <;> simp [Addr.add]] at e2
  exact e2
def cmP (s t:ByteArray) (i n:Nat):Nat→Int
  | 0=>0
  | m + 1=>cmP s t i n m + lst (ctN s (48 + m) i) (ctN t (48 + m) n)
theorem cmP_all (s t:ByteArray) (n:Nat) : ∀ m,cmP s t n n m=cmN s t n m
  | 0=>rfl
  | m + 1=>by simp only [cmP,cmN,cmP_all s t n m]
theorem ctN_step {s:ByteArray} {i d k:Nat} (h:bt s (i:Nat)=48 + (d:Nat)):ctN s (48 + (k:Nat)) (i + 1)=ctN s (48 + (k:Nat)) i + if k=d then 1 else 0:=by
  simp only [ctN,h]
  by_cases e:k=d
  · subst e;simp
  · rw [if_neg (by omega),if_neg e]
theorem cmP_step {s t:ByteArray} {i n d:Nat} (h:bt s (i:Nat)=48 + (d:Nat)) : ∀ m,cmP s t (i + 1) n m=cmP s t i n m + if d < m then lst (ctN s (48 + (d:Nat)) i + 1) (ctN t (48 + (d:Nat)) n) - lst (ctN s (48 + (d:Nat)) i) (ctN t (48 + (d:Nat)) n) else 0
  | 0=>by simp [cmP]
  | m + 1 => by
    simp only [cmP]
    rw [cmP_step h m,ctN_step h]
    by_cases e:m=d
    · subst e
      rw [if_neg (Nat.lt_irrefl _),if_pos rfl,if_pos (Nat.lt_succ_self _)]
      omega
    · rw [if_neg e,Int.add_zero]
      by_cases e2:d < m
      · rw [if_pos e2,if_pos (by omega)];omega
      · rw [if_neg e2,if_neg (by omega)];omega
theorem cmP_zero (s t:ByteArray) (n:Nat) (h : ∀ d,0≤ctN t d n) : ∀ m,cmP s t 0 n m=0
  | 0=>rfl
  | m + 1 => by
    simp only [cmP,cmP_zero s t n h m]
    have:=h (48 + (m:Nat))
    simp only [lst]
    rw [show ctN s (48 + (m:Nat)) 0=0 from rfl]
    by_cases e:0 < ctN t (48 + (m:Nat)) n
    · rw [if_pos e];rfl
    · rw [if_neg e];omega
theorem cmP_range (s t:ByteArray) (i n:Nat) (hi:i≤n) : ∀ m,0≤cmP s t i n m∧cmP s t i n m≤n * m
  | 0=>by simp [cmP]
  | m + 1 => by
    have h:=cmP_range s t i n hi m
    have h1:=ctN_range s (48 + (m:Nat)) i
    have h2:=lst_range (n:=n) (a:=ctN s (48 + (m:Nat)) i) (by omega) (ctN_range t (48 + m) n)
    have:(n:Int) * ((m + 1:Nat):Int)=n * m + n:=by rw [Int.natCast_succ,Int.mul_add,Int.mul_one]
    simp only [cmP]
    omega
def usedAt (w:World) (g:Nat) (U:Nat→Int):Prop:=(∀ d < 10,w.cell? ⟨g,d,none⟩=some (.int .i64 (U d)))∧∀ d < 10,w.frozen? ⟨g,d,none⟩=false
theorem wpl {a b:ByteArray} {i m:Nat} (h:i≤m) (hm:m≤6):wrap64 (plN a b i + 1)=plN a b i + 1:=by
  have:=plN_range a b i
  exact w64 (by omega) (by omega)
theorem wct {a:ByteArray} {d:Int} {i m:Nat} (h:i≤m) (hm:m≤6):wrap64 (ctN a d i + 1)=ctN a d i + 1:=by
  have:=ctN_range a d i
  exact w64 (by omega) (by omega)
theorem wnat {n:Nat} (h:n < 1000):wrap64 ((n:Int) + 1)=(n:Int) + 1:=w64 (by omega) (by omega)
theorem lst_lt {a b:Int} (h:0 < b - lst a b):lst (a + 1) b=lst a b + 1:=by
  unfold lst at h ⊢
  by_cases e:a < b
  · rw [if_pos e]
    by_cases e2:a + 1 < b
    · rw [if_pos e2]
    · rw [if_neg e2];omega
  · rw [if_neg e] at h;omega
theorem lst_ge {a b:Int} (h : ¬ 0 < b - lst a b):lst (a + 1) b=lst a b:=by
  unfold lst at h ⊢
  by_cases e:a < b
  · rw [if_pos e] at h;omega
  · rw [if_neg e,if_neg (by omega)]
theorem wsub {y a b:Int} {n:Nat} (h1:0≤a∧a≤(n:Nat)) (h2:0≤b∧b≤(n:Nat)) (h:y=a - b) (hn:n < 1000):wrap64 (y - 1)=y - 1:=w64 (by omega) (by omega)
theorem frozen_new (w:World) (cs:Array Value) (t:TypeId) (d:Nat):(w.alloc (.cells cs t)).frozen? ⟨w.heap.size,d,none⟩=false:=
  blk_frozen (w:=w.alloc (.cells cs t)) (g:=w.heap.size) (t:=t) (cs:=cs) (by show (w.heap.push _)[w.heap.size]?=_;exact Array.getElem?_push_size) d
theorem usedAt_set {w:World} {g:Nat} {U V:Nat→Int} (h:usedAt w g U) {d:Nat} (hd:d < 10) (x:Int) (hx:V d=x) (hV : ∀ k < 10,k≠d→V k=U k):usedAt (w.setCell ⟨g,d,none⟩ (.int .i64 x)) g V:=by
  refine ⟨fun k hk=>?_,fun k hk=>by rw [World.frozen?_setCell];exact h.2 k hk⟩
  by_cases e:k=d
  · subst e
    rw [World.cell?_setCell_same' _ _ _ (by rw [h.1 k hk];rfl),hx]
  · rw [World.cell?_setCell_other (w:=w) (v:=Value.int .i64 x) (a:=⟨g,d,none⟩) (b:=⟨g,k,none⟩) (by intro hh;exact e (Addr.mk.inj hh).2.1.symm),h.1 k hk,hV k hk e]
theorem usedAt_congr {w:World} {g:Nat} {U V:Nat→Int} (h:usedAt w g U) (hV : ∀ k < 10,V k=U k):usedAt w g V:=⟨fun k hk=>by rw [hV k hk];exact h.1 k hk,h.2⟩
attribute [local irreducible] plN ctN cmN
set_option maxHeartbeats 4000000 in
set_option maxRecDepth 100000 in
theorem impl_hint.calls (a0 a1:ByteArray) (r1 r2:Int) (w:World) (h:impl_hint.f a0 a1=some (r1,r2)) :
    Calls Try.prog 58 #[.string a0, .string a1] w fun e w'=>e = .returned (.tuple #[.int .i64 r1, .int .i64 r2])∧Below w.heap.size w w':=by
  unfold impl_hint.f at h
  by_cases hc:hintB a0 a1=true
  · rw [if_pos hc] at h
    obtain ⟨rfl,rfl⟩:=Prod.mk.inj (Option.some.inj h)
    clear h
    obtain ⟨hs,h1,h6,ha,hb⟩:=hintB_iff.mp hc
    clear hc
    obtain ⟨k0,hk0⟩:=(impl_digits_of h6 ha).rounds
    obtain ⟨k1,hk1⟩:=(impl_digits_of (by omega) hb).rounds
    have HD0:=amk hk0
    have HD1:=amk hk1
    have HA:=amk ha
    have HB:=amk hb
    have HS:=amk hs
    have H6:=amk h6
    have hua:=Try.underlying110
    clear ha hb hk0 hk1
    clear hs h6
    go_enter Try.func58,Try.ntmps58
    obtain ⟨n,hn⟩ : ∃ n,a0.size=n + 1:=⟨a0.size - 1,by omega⟩
    have HN:=amk hn
    clear hn h1
    go_wp2_with (go_at_call 81;refine (impl_digits.calls k1 _ _ _ HD1.out).mono ?_;rintro e w1 ⟨v1,rfl,hr1,hb1⟩;obtain ⟨g,cap,rfl⟩:=row_form (n:=n) hr1 (by rw [List.length_map,List.length_range,←HS.out];exact HN.out);have hg1:w.heap.size < g:=(by have:=(row_cells hr1).1;simp at this;omega);have HC1:=amk (row_ints hr1);have HB1:=amk hb1;clear hr1 hb1)
    have HBW:Aside0 (Below w.heap.size w w1∧w.heap.size < w1.heap.size):=⟨below_then (ba_ (Below.refl _ w) _) (by simp) HB1.out,by have:=HB1.out.size;simp at this;omega⟩
    have HU:Aside0 (usedAt w1 w.heap.size (fun d=>ctN a1 (48 + (d:Nat)) 0)):=⟨by
      constructor
      · intro d hd
        rw [HB1.out.cell (p:=⟨w.heap.size,d,none⟩) (by simp)]
        have:d=0∨d=1∨d=2∨d=3∨d=4∨d=5∨d=6∨d=7∨d=8∨d=9:=by omega
        rcases this with rfl | rfl | rfl | rfl | rfl | rfl | rfl | rfl | rfl | rfl <;> simp [ctN]
      · intro d hd
        rw [HB1.out.frozen (p:=⟨w.heap.size,d,none⟩) (by simp)]
        exact frozen_new w _ _ d⟩
    clear HB1
    go_loopg [6,17] (n + 1) (fun gg s6 s17 wr=> ∃ (i:Nat) (x:Int),s6 = .int .i64 x∧s17 = .int .i64 i∧Aside0 (i≤n + 1∧n + 1≤i + gg)∧Aside0 (usedAt wr w.heap.size (fun d=>ctN a1 (48 + (d:Nat)) i))∧Aside0 (∀ d,wr.cell? ⟨g,d,none⟩=w1.cell? ⟨g,d,none⟩)∧Aside0 (Below w.heap.size w wr∧w.heap.size < wr.heap.size)∧Aside0 (x=plN a0 a1 i))
    case atStart=>exact ⟨0,0,rfl,rfl,⟨by omega⟩,HU,⟨fun _=>rfl⟩,HBW,⟨by rw [plN]⟩⟩
    case round =>
      obtain ⟨i,x,rfl,rfl,HI,HUU,HG,HBB,HX⟩:=hrel
      by_cases hi:i < n + 1
      · have hi0:i < a0.size:=by rw [HN.out];exact hi
        have hi1:i < a1.size:=by rw [←HS.out];exact hi0
        have hd:=HB.out i hi1
        obtain ⟨d,hdd⟩ : ∃ d:Nat,bt a1 (i:Nat)=48 + (d:Nat):=⟨(bt a1 (i:Nat) - 48).toNat,by omega⟩
        have hd10:d < 10:=by omega
        have hcg:wr.cell? ⟨g,i,none⟩=some (.int .i64 (d:Nat)):=by
          rw [HG.out,HC1.out i hi,rd_at (by simpa using hi1)]
          simp [hdd]
          omega
        have hcu:wr.cell? ⟨w.heap.size,d,none⟩=some (.int .i64 (ctN a1 (48 + (d:Nat)) i)):=HUU.out.1 d hd10
        have hfu:=HUU.out.2 d hd10
        have hli:decide ((i:Int) < (n:Int) + 1)=true:=decide_eq_true (by omega)
        have hw1:wrap64 (ctN a1 (48 + (d:Nat)) i + 1)=ctN a1 (48 + (d:Nat)) i + 1:=wct HI.out.1 (by have:=H6.out;have:=HN.out;omega)
        have e0:=bt_nat hi0
        have e1:=bt_nat hi1
        have p1:wrap64 (plN a0 a1 i + 1)=plN a0 a1 i + 1:=wpl HI.out.1 (by have:=H6.out;have:=HN.out;omega)
        have p2:wrap64 ((i:Int) + 1)=(i:Int) + 1:=wnat (n:=i) (by have:=H6.out;omega)
        have HDD:=amk hdd
        clear hd hdd
        obtain ⟨y,hy⟩ : ∃ y,y=ctN a1 (48 + (d:Nat)) i:=⟨_,rfl⟩
        rw [←hy] at hcu hw1
        rw [←HX.out] at p1
        have HY:=amk hy
        clear hy
        have HPL:=amk (show plN a0 a1 (i + 1)=plN a0 a1 i + if bt a0 (i:Nat)=bt a1 (i:Nat) then 1 else 0 by rw [plN])
        have hbq:=beq_of (bt a0 (i:Nat)) (bt a1 (i:Nat))
        have hd11:decide ((d:Int) < 10)=true:=decide_eq_true (by omega)
        have hne:g≠w.heap.size:=by omega
        by_cases he:bt a0 (i:Nat)=bt a1 (i:Nat)
        all_goals
          first | (rw [decide_eq_true he] at hbq;rw [if_pos he] at HPL) | (rw [decide_eq_false he] at hbq;rw [if_neg he,Int.add_zero] at HPL)
          clear he
          generalize bt a0 (i:Nat)=ba at e0 hbq
          generalize hbb:bt a1 (i:Nat)=bb at e1 hbq
          clear hbb
          go_wp2
          go_region
          go_wp2
          go_roundg (n + 1 - (i + 1))
          case measure=>have:=HI.out;omega
          case rel =>
            refine ⟨i + 1,_,rfl,congrArg _ (by omega),⟨by omega⟩,⟨usedAt_set (w:=wr.drew) (U:=fun d=>ctN a1 (48 + (d:Nat)) i) ⟨HUU.out.1,HUU.out.2⟩ hd10 _ ?_ ?_⟩,⟨fun d'=>?_⟩,⟨?_,?_⟩,⟨?_⟩⟩
            · show ctN a1 (48 + (d:Nat)) (i + 1)=_
              rw [ctN_step HDD.out,if_pos rfl,←HY.out]
              first | done | exact hw1.symm
            · intro k hk hkd
              show ctN a1 (48 + (k:Nat)) (i + 1)=_
              rw [ctN_step HDD.out,if_neg hkd,Int.add_zero]
            · exact (World.cell?_setCell_far _ _ _ _ (by simp;omega)).trans (HG.out d')
            · exact HBB.out.1.drew.setCell (p:=⟨w.heap.size,d,none⟩) (Nat.le_refl _) _
            · have:=HBB.out.2;simpa using this
            · rw [HPL.out,HX.out]
              first | done | (rw [←HX.out];exact p1)
      · have hli:decide ((i:Int) < (n:Int) + 1)=false:=decide_eq_false (by omega)
        have hin:i=n + 1:=by have:=HI.out;omega
        subst hin
        have HAS:Aside0 (a0.size=n + 1):=HN
        go_wp2_with (go_at_call 81;refine (impl_digits.calls k0 _ _ _ HD0.out).mono ?_;rintro e w2 ⟨v2,rfl,hr2,hb2⟩;obtain ⟨g2,cap2,rfl⟩:=row_form (n:=n) hr2 (by rw [List.length_map,List.length_range];exact HN.out);have hg2:wr.heap.size≤g2:=(row_cells hr2).1;have HC2:=amk (row_ints hr2);have HB2:=amk hb2;clear hr2 hb2)
        have HG2:Aside0 (w.heap.size < g2):=⟨by have:=HBB.out.2;omega⟩
        have HBW2:Aside0 (Below w.heap.size w w2∧w.heap.size < w2.heap.size):=⟨HBB.out.1.trans (HB2.out.mono (Nat.le_of_lt HBB.out.2)),Nat.lt_of_lt_of_le HBB.out.2 HB2.out.size⟩
        have HU2:Aside0 (usedAt w2 w.heap.size (fun d=>ctN a1 (48 + (d:Nat)) (n + 1) - lst (ctN a0 (48 + (d:Nat)) 0) (ctN a1 (48 + (d:Nat)) (n + 1)))):=⟨by
          refine usedAt_congr (U:=fun d=>ctN a1 (48 + (d:Nat)) (n + 1)) ⟨fun d hd=>?_,fun d hd=>?_⟩ ?_
          · rw [HB2.out.cell (p:=⟨w.heap.size,d,none⟩) HBB.out.2];exact HUU.out.1 d hd
          · rw [HB2.out.frozen (p:=⟨w.heap.size,d,none⟩) HBB.out.2];exact HUU.out.2 d hd
          · intro k hk
            have:=ctN_range a1 (48 + (k:Nat)) (n + 1)
            have e:lst (ctN a0 (48 + (k:Nat)) 0) (ctN a1 (48 + (k:Nat)) (n + 1))=0:=by
              rw [show ctN a0 (48 + (k:Nat)) 0=0 by rw [ctN],lst]
              by_cases e:0 < ctN a1 (48 + (k:Nat)) (n + 1)
              · rw [if_pos e]
              · rw [if_neg e];omega
            show _ - _=_
            rw [e,Int.sub_zero]⟩
        clear HB2 hg2 HUU HG HBB HBW HU HC1 hli hi HI
        go_loopg [7,40] (n + 1) (fun gg s7 s40 wr=> ∃ (i:Nat) (z:Int),s7 = .int .i64 z∧s40 = .int .i64 i∧Aside0 (i≤n + 1∧n + 1≤i + gg)∧Aside0 (usedAt wr w.heap.size (fun d=>ctN a1 (48 + (d:Nat)) (n + 1) - lst (ctN a0 (48 + (d:Nat)) i) (ctN a1 (48 + (d:Nat)) (n + 1))))∧Aside0 (∀ d,wr.cell? ⟨g2,d,none⟩=w2.cell? ⟨g2,d,none⟩)∧Aside0 (Below w.heap.size w wr∧w.heap.size < wr.heap.size)∧Aside0 (z=cmP a0 a1 i (n + 1) 10))
        case atStart=>exact ⟨0,0,rfl,rfl,⟨by omega⟩,HU2,⟨fun _=>rfl⟩,HBW2,⟨(cmP_zero a0 a1 (n + 1) (fun d=>(ctN_range a1 d _).1) 10).symm⟩⟩
        case round =>
          obtain ⟨i,z,rfl,rfl,HI,HUU,HG,HBB,HZ⟩:=hrel
          by_cases hi:i < n + 1
          · have hi0:i < a0.size:=by rw [HN.out];exact hi
            have hd:=HA.out i hi0
            obtain ⟨d,hdd⟩ : ∃ d:Nat,bt a0 (i:Nat)=48 + (d:Nat):=⟨(bt a0 (i:Nat) - 48).toNat,by omega⟩
            have hd10:d < 10:=by omega
            have hcg:wr.cell? ⟨g2,i,none⟩=some (.int .i64 (d:Nat)):=by
              rw [HG.out,HC2.out i hi,rd_at (by simpa using hi0)]
              simp [hdd]
              omega
            have hcu:wr.cell? ⟨w.heap.size,d,none⟩=some (.int .i64 (ctN a1 (48 + (d:Nat)) (n + 1) - lst (ctN a0 (48 + (d:Nat)) i) (ctN a1 (48 + (d:Nat)) (n + 1)))):=HUU.out.1 d hd10
            have hfu:=HUU.out.2 d hd10
            have hli:decide ((i:Int) < (n:Int) + 1)=true:=decide_eq_true (by omega)
            have p2:wrap64 ((i:Int) + 1)=(i:Int) + 1:=wnat (n:=i) (by have:=H6.out;have:=HN.out;omega)
            have hd11:decide ((d:Int) < 10)=true:=decide_eq_true (by omega)
            have hne:g2≠w.heap.size:=by have:=HG2.out;omega
            have HS10:=amk (cmP_step (s:=a0) (t:=a1) (i:=i) (n:=n + 1) hdd 10)
            have HZR:=amk (cmP_range a0 a1 i (n + 1) (by omega) 10)
            have HCR:=amk (ctN_range a1 (48 + (d:Nat)) (n + 1))
            have HLR:=amk (lst_range (n:=n + 1) (a:=ctN a0 (48 + (d:Nat)) i) (by have:=ctN_range a0 (48 + (d:Nat)) i;omega) (ctN_range a1 (48 + (d:Nat)) (n + 1)))
            have HDD:=amk hdd
            rw [if_pos hd10] at HS10
            clear hd hdd
            obtain ⟨y,hy⟩ : ∃ y,y=ctN a1 (48 + (d:Nat)) (n + 1) - lst (ctN a0 (48 + (d:Nat)) i) (ctN a1 (48 + (d:Nat)) (n + 1)):=⟨_,rfl⟩
            rw [←hy] at hcu
            have HY:=amk hy
            clear hy
            have p3:wrap64 (z + 1)=z + 1:=by have h1:=HZR.out;rw [←HZ.out] at h1;have:=H6.out;have:=HN.out;exact w64 (by omega) (by omega)
            have p4:wrap64 (y - 1)=y - 1:=by have h1:=HCR.out;have h2:=HLR.out;have h3:=HY.out;have:=H6.out;have:=HN.out;exact wsub h1 h2 h3 (by omega)
            by_cases hy:0 < y
            · have hdy:decide (y > 0)=true:=decide_eq_true hy
              have HYP:=amk hy
              clear hy
              go_wp2
              go_roundg (n + 1 - (i + 1))
              case measure=>have:=HI.out;omega
              case rel =>
                have hl:lst (ctN a0 (48 + (d:Nat)) i + 1) (ctN a1 (48 + (d:Nat)) (n + 1))=lst (ctN a0 (48 + (d:Nat)) i) (ctN a1 (48 + (d:Nat)) (n + 1)) + 1:=by
                  have h3:=HYP.out;rw [HY.out] at h3;exact lst_lt h3
                refine ⟨i + 1,_,rfl,congrArg _ (by omega),⟨by omega⟩,⟨usedAt_set (U:=fun d=>ctN a1 (48 + (d:Nat)) (n + 1) - lst (ctN a0 (48 + (d:Nat)) i) (ctN a1 (48 + (d:Nat)) (n + 1))) HUU.out hd10 _ ?_ ?_⟩,⟨fun d'=>?_⟩,⟨?_,?_⟩,⟨?_⟩⟩
                · show _ - lst (ctN a0 (48 + (d:Nat)) (i + 1)) _=_
                  rw [ctN_step HDD.out,if_pos rfl,hl,HY.out]
                  omega
                · intro k hk hkd
                  show _ - lst (ctN a0 (48 + (k:Nat)) (i + 1)) _=_
                  rw [ctN_step HDD.out,if_neg hkd,Int.add_zero]
                · exact (World.cell?_setCell_far _ _ _ _ (by simp;omega)).trans (HG.out d')
                · exact HBB.out.1.setCell (p:=⟨w.heap.size,d,none⟩) (Nat.le_refl _) _
                · have:=HBB.out.2;simpa using this
                · rw [HS10.out,hl,←HZ.out]
                  omega
            · have hdy:decide (y > 0)=false:=decide_eq_false hy
              have HYP:=amk hy
              clear hy
              go_wp2
              go_roundg (n + 1 - (i + 1))
              case measure=>have:=HI.out;omega
              case rel =>
                have hl:lst (ctN a0 (48 + (d:Nat)) i + 1) (ctN a1 (48 + (d:Nat)) (n + 1))=lst (ctN a0 (48 + (d:Nat)) i) (ctN a1 (48 + (d:Nat)) (n + 1)):=by
                  have h3:=HYP.out;rw [HY.out] at h3;exact lst_ge (by first | exact h3 | exact Int.not_lt.mpr h3)
                refine ⟨i + 1,_,rfl,congrArg _ (by omega),⟨by omega⟩,⟨usedAt_congr HUU.out ?_⟩,HG,HBB,⟨?_⟩⟩
                · intro k hk
                  show _ - lst (ctN a0 (48 + (k:Nat)) (i + 1)) _=_
                  rw [ctN_step HDD.out]
                  by_cases e:k=d
                  · subst e;rw [if_pos rfl,hl]
                  · rw [if_neg e,Int.add_zero]
                · rw [HS10.out,hl,←HZ.out]
                  omega
          · have hli:decide ((i:Int) < (n:Int) + 1)=false:=decide_eq_false (by omega)
            have hin:i=n + 1:=by have:=HI.out;omega
            subst hin
            have hw:wrap64 (z - x)=z - x:=by
              have h1:=cmP_range a0 a1 (n + 1) (n + 1) (Nat.le_refl _) 10
              rw [←HZ.out] at h1
              have h2:=plN_range a0 a1 (n + 1)
              rw [←HX.out] at h2
              have:=H6.out;have:=HN.out
              exact w64 (by omega) (by omega)
            have HR1:Aside0 (plN a0 a1 a0.size=x):=⟨by rw [HN.out,HX.out]⟩
            have HR2:Aside0 (cmN a0 a1 a0.size 10=z):=⟨by rw [HN.out,HZ.out,cmP_all]⟩
            go_wp2
            go_ret2
            rw [HR1.out,HR2.out]
            exact ⟨by first | rfl | (rw [hw];rfl),HBB.out.1⟩
  · rw [if_neg hc] at h
    cases h
end
/-! ### impl_Lock_told: function 45 -/
def impl_Lock_told.l0:Nat→Int→List Int→Int→Int→Option (Int×Int×Int)
  | 0,_,_,_,_=>none
  | k + 1,x9,x27,x28,x29=>if x29 < x28 then (if 0≤x29 then (if x29 < (x27.length:Int) then (impl_Lock_told.l0 k (wrap64 (x9 + (rd x27 x29))) x27 x28 (wrap64 (x29 + 1))) else (none)) else (none)) else (some (1,x9,0))
def impl_Lock_told.f (k:Nat) (a0_0:Int) (a0_1:Int) (a1:Int) (a2:Int) (a3:ByteArray):Option (Int×Int×Int):=if a1=0 then ((impl_digits.f k a3).bind fun t248=>(if 0≤a2 then (if a2 < (t248.length:Int) then (some (0,a2,rd t248 a2)) else (none)) else (none))) else (if a1=1 then ((impl_digits.f k a3).bind fun t252=>(impl_Lock_told.l0 k 0 t252 (t252.length:Int) 0)) else (if a1=2 then ((impl_Lock_code.f a0_0 a0_1 a2).bind fun t256=>((impl_hint.f t256 a3).bind fun bt257=>(some (2,a2,bt257.1)))) else (if a1=3 then ((impl_Lock_code.f a0_0 a0_1 a2).bind fun t259=>((impl_Lock_distance.f k a0_0 a0_1 t259 a3).bind fun t260=>(some (3,a2,t260)))) else ((impl_Lock_number.f k a0_0 a0_1 a3).bind fun t261=>(if a2=0 then (none) else (some (4,a2,Int.tmod t261 a2)))))))
def impl_Lock_told.T16:Bool×List (List Nat×List Nat):=(true,[([],[]),([],[]),([],[]),([],[]),([2,3],[2,3]),([],[]),([1,4,5,4],[1,4,5]),([0,6],[0,6]),([7,6,0,1,2,3,4,5,6,7],[7])])
def impl_Lock_told.B16:List Nat:=[0,0,0,0,12,0,62,127,255]
theorem impl_Lock_told.tab16:rtab .any (opsOf Try.f45 16)=impl_Lock_told.T16:=by kernel_rfl
theorem impl_Lock_told.bits16:waitsOk impl_Lock_told.T16.2 impl_Lock_told.B16=true:=by kernel_rfl
set_option maxHeartbeats 8000000 in
set_option maxRecDepth 100000 in
theorem impl_Lock_told.calls (k:Nat) (a0_0:Int) (a0_1:Int) (a1:Int) (a2:Int) (a3:ByteArray) (r1:Int) (r2:Int) (r3:Int) (w:World) (h:impl_Lock_told.f k a0_0 a0_1 a1 a2 a3=some (r1,r2,r3)) :
    Calls Try.prog 45 #[.agg #[.int .i64 a0_0, .int .i64 a0_1], .int .i64 a1, .int .i64 a2, .string a3] w fun e w'=>e = .returned (.agg #[.int .i64 r1, .int .i64 r2, .int .i64 r3])∧Below w.heap.size w w':=by
  have hu25:=Try.underlying25;have hu44:=Try.underlying44;have HB:=amk (Below.refl w.heap.size w);unfold impl_Lock_told.f at h;have H:=h;clear h
  by_cases c5:a1=0
  · rw [if_pos c5] at H;have c5b0:(a1 == 0)=true:=beq_iff_eq.mpr c5;have c5b1:(a1 != 0)=false:=bne_eq_false_iff_eq.mpr c5;clear c5;replace H:=bE H;obtain ⟨t248,A6,H⟩:=H;replace H:=iteN H;obtain ⟨c7b0,H⟩:=H;replace H:=iteN H;obtain ⟨c8b0,H⟩:=H;simp only [Option.some.injEq,Prod.mk.injEq] at H;obtain ⟨rfl,rfl,rfl⟩:=H;go_enter Try.func45,Try.ntmps45;go_wp2_with (first | ((with_reducible refine gate_dst (N:=4) rfl ?_);refine boxE_ HB 4 #[.int .i64 a0_0, .int .i64 a0_1] 25 ?_;clear HB;intro gb246 w9 HB BK246 GW246 GE246 hb;clear hb) | ((with_reducible refine gate_dst (N:=8) rfl ?_);refine boxG_ 8 #[.int .i64 0, .int .i64 0, .int .i64 0] 44 ?_;intro gb247 w10 hg BK247 hb;have GW247:=sZ HB hg;have GE247:=sZ HB hg;replace HB:=hB2 HB hb;have NB246_247:=neL BK246 hg;have NB247_246:=neR BK246 hg;replace BK246:=kb2 BK246 hb;clear hb hg) | (refine gc_ 81 19 Try.func81 #[.string a3] ?_;(with_reducible refine (impl_digits.calls k a3 t248 _ A6.out).mono ?_);rintro e w11 ⟨v249,rfl,ho0,hb⟩;refine ⟨_,rfl,?_⟩;have HO250:=amk (Kd.R_lower ho0 (below_size bB));replace BK246:=kb2 BK246 hb;replace BK247:=kb2 BK247 hb;replace HB:=hB2 HB hb;(try clear hb);(try clear ho0);obtain ⟨Ao12,co12,eo12⟩:=Kd.R_slice HO250.out;subst eo12;have p251:0≤(a2:Int):=dA_;have q251:a2 < (t248.length:Int):=dA_;obtain ⟨ad251,e251,hx251_0⟩:=Kd.at_int (Kd.R_reads' HO250.out).2.2 a2 p251 q251;cases e251;replace p251:=eq_true p251;replace q251:=eq_true q251;have hnb13:=NB247_246.out;have hnc13:=NB246_247.out;obtain ⟨hcz14_0,hcz14_1,hcz14_2,hfz14_0,hfz14_1,hfz14_2⟩:=cells3 BK247.out));refine bodyPost_ret (results_cell_row rfl _ _ gb247 44 #[.int .i64 0, .int .i64 a2, .int .i64 (rd t248 a2)] (0,0) _ rfl (kP BK247) Try.underlying44 rfl (by kernel_rfl)) rfl ?_;exact ⟨rF_,bB⟩
  · rw [if_neg c5] at H;have c5b0:(a1 == 0)=false:=beq_eq_false_iff_ne.mpr c5;have c5b1:(a1 != 0)=true:=bne_iff_ne.mpr c5
    by_cases c15:a1=1
    · rw [if_pos c15] at H;have c15b0:(a1 == 1)=true:=beq_iff_eq.mpr c15;have c15b1:(a1 != 1)=false:=bne_eq_false_iff_eq.mpr c15;clear c15;replace H:=bE H;obtain ⟨t252,A16,H⟩:=H;have H':=amk H;clear H;go_enter Try.func45,Try.ntmps45;go_wp2_with (first | ((with_reducible refine gate_dst (N:=4) rfl ?_);refine boxE_ HB 4 #[.int .i64 a0_0, .int .i64 a0_1] 25 ?_;clear HB;intro gb246 w17 HB BK246 GW246 GE246 hb;clear hb) | ((with_reducible refine gate_dst (N:=8) rfl ?_);refine boxG_ 8 #[.int .i64 0, .int .i64 0, .int .i64 0] 44 ?_;intro gb247 w18 hg BK247 hb;have GW247:=sZ HB hg;have GE247:=sZ HB hg;replace HB:=hB2 HB hb;have NB246_247:=neL BK246 hg;have NB247_246:=neR BK246 hg;replace BK246:=kb2 BK246 hb;clear hb hg) | (refine gc_ 81 27 Try.func81 #[.string a3] ?_;(with_reducible refine (impl_digits.calls k a3 t252 _ A16.out).mono ?_);rintro e w19 ⟨v253,rfl,ho0,hb⟩;refine ⟨_,rfl,?_⟩;have HO254:=amk (Kd.R_lower ho0 (below_size bB));replace BK246:=kb2 BK246 hb;replace BK247:=kb2 BK247 hb;replace HB:=hB2 HB hb;(try clear hb);(try clear ho0);obtain ⟨Ao20,co20,eo20⟩:=Kd.R_slice HO254.out;subst eo20))
      go_loopg [9,29] k (fun kq v9 v29 w'=> ∃ (x9_1:Int) (x29_1:Int),v9 = .int .i64 x9_1∧v29 = .int .i64 x29_1∧Aside0 (impl_Lock_told.l0 kq x9_1 t252 (t252.length:Int) x29_1=some (r1,r2,r3))∧Aside0 (kq≤k)∧Aside0 (Kd.R (Kd.int .i64) 3 w' w.heap.size (fun _=>True) (.slice Ao20 t252.length co20) t252)∧Aside0 (w'.heap[gb246]?=some (.cells #[.int .i64 a0_0, .int .i64 a0_1] 25 (0,0)))∧Aside0 (w'.heap[gb247]?=some (.cells #[.int .i64 0, .int .i64 0, .int .i64 0] 44 (0,0)))∧Aside0 (Below w.heap.size w w'))
      case atStart=>exact ⟨(0),(0),rS_,rS_,H',⟨Nat.le_refl _⟩,⟨oX HO254⟩,⟨kB BK246⟩,⟨kB BK247⟩,⟨bB⟩⟩
      case round =>
        clear H';(try clear c1);(try clear p2);(try clear q2);(try clear hx2);(try clear c4);(try clear c5);(try clear c5b0);(try clear c5b1);(try clear c7);(try clear c7b0);(try clear c8);(try clear c8b0);(try clear c13);(try clear c15);(try clear c15b0);(try clear c15b1);(try clear hcz14_0);(try clear hcz14_1);(try clear hcz14_2);(try clear hfz14_0);(try clear hfz14_1);(try clear hfz14_2);(try clear hx251_0);(try clear p251);(try clear q251);obtain ⟨x9_1,x29_1,rfl,rfl,HA,HK1,HO_27,BK246,BK247,HB⟩:=hrel
        cases gk with
        | zero=>exact absurd HA.out (by simp [impl_Lock_told.l0])
        | succ k1 =>
          have H:=HA.out;clear HA;simp only [impl_Lock_told.l0] at H;replace H:=iteE H;obtain ⟨c21b0,H⟩ | ⟨c21b0,H⟩:=H
          · replace H:=iteN H;obtain ⟨c22b0,H⟩:=H;replace H:=iteN H;obtain ⟨c23b0,H⟩:=H;have H':=amk H;clear H;have p255:0≤(x29_1:Int):=dA_;have q255:x29_1 < (t252.length:Int):=dA_;obtain ⟨ad255,e255,hx255_0⟩:=Kd.at_int (Kd.R_reads' HO_27.out).2.2 x29_1 p255 q255;cases e255;replace p255:=eq_true p255;replace q255:=eq_true q255;go_wp2;go_roundg k1
            case measure=>have:=HK1.out;omega
            case rel=>exact ⟨(wrap64 (x9_1 + (rd t252 x29_1))),(wrap64 (x29_1 + 1)),rS_,rS_,H',⟨by have:=HK1.out;omega⟩,⟨oX HO_27⟩,⟨kB BK246⟩,⟨kB BK247⟩,⟨bB⟩⟩
          · simp only [Option.some.injEq,Prod.mk.injEq] at H;obtain ⟨rfl,rfl,rfl⟩:=H;have hnb24:=NB247_246.out;have hnc24:=NB246_247.out;obtain ⟨hcz25_0,hcz25_1,hcz25_2,hfz25_0,hfz25_1,hfz25_2⟩:=cells3 BK247.out;go_wp2;refine bodyPost_ret (results_cell_row rfl _ _ gb247 44 #[.int .i64 1, .int .i64 x9_1, .int .i64 0] (0,0) _ rfl (kP BK247) Try.underlying44 rfl (by kernel_rfl)) rfl ?_;exact ⟨rF_,bB⟩
    · rw [if_neg c15] at H;have c15b0:(a1 == 1)=false:=beq_eq_false_iff_ne.mpr c15;have c15b1:(a1 != 1)=true:=bne_iff_ne.mpr c15
      by_cases c26:a1=2
      · rw [if_pos c26] at H;have c26b0:(a1 == 2)=true:=beq_iff_eq.mpr c26;have c26b1:(a1 != 2)=false:=bne_eq_false_iff_eq.mpr c26;clear c26;replace H:=bE H;obtain ⟨t256,A27,H⟩:=H;replace H:=bE H;obtain ⟨⟨t257,t258⟩,A28,H⟩:=H;(try dsimp only at H);simp only [Option.some.injEq,Prod.mk.injEq] at H;obtain ⟨rfl,rfl,rfl⟩:=H;go_enter Try.func45,Try.ntmps45;go_wp2_with (first | ((with_reducible refine gate_dst (N:=4) rfl ?_);refine boxE_ HB 4 #[.int .i64 a0_0, .int .i64 a0_1] 25 ?_;clear HB;intro gb246 w29 HB BK246 GW246 GE246 hb;clear hb) | ((with_reducible refine gate_dst (N:=8) rfl ?_);refine boxG_ 8 #[.int .i64 0, .int .i64 0, .int .i64 0] 44 ?_;intro gb247 w30 hg BK247 hb;have GW247:=sZ HB hg;have GE247:=sZ HB hg;replace HB:=hB2 HB hb;have NB246_247:=neL BK246 hg;have NB247_246:=neR BK246 hg;replace BK246:=kb2 BK246 hb;clear hb hg;have hnb31:=NB246_247.out;have hnc31:=NB247_246.out;obtain ⟨hcz32_0,hcz32_1,hfz32_0,hfz32_1⟩:=cells2 BK246.out) | (refine gc_ 54 44 Try.func54 #[.agg #[.int .i64 a0_0, .int .i64 a0_1], .int .i64 a2] ?_;(with_reducible refine (impl_Lock_code.calls a0_0 a0_1 a2 t256 _ A27.out).mono ?_);rintro e w33 ⟨rfl,hb⟩;refine ⟨_,rfl,?_⟩;replace BK246:=kb2 BK246 hb;replace BK247:=kb2 BK247 hb;replace HB:=hB2 HB hb;(try clear hb)) | (refine gc_ 58 46 Try.func58 #[.string t256, .string a3] ?_;(with_reducible refine (impl_hint.calls t256 a3 t257 t258 _ A28.out).mono ?_);rintro e w34 ⟨rfl,hb⟩;refine ⟨_,rfl,?_⟩;replace BK246:=kb2 BK246 hb;replace BK247:=kb2 BK247 hb;replace HB:=hB2 HB hb;(try clear hb);obtain ⟨hcz35_0,hcz35_1,hcz35_2,hfz35_0,hfz35_1,hfz35_2⟩:=cells3 BK247.out));refine bodyPost_ret (results_cell_row rfl _ _ gb247 44 #[.int .i64 2, .int .i64 a2, .int .i64 t257] (0,0) _ rfl (kP BK247) Try.underlying44 rfl (by kernel_rfl)) rfl ?_;exact ⟨rF_,bB⟩
      · rw [if_neg c26] at H;have c26b0:(a1 == 2)=false:=beq_eq_false_iff_ne.mpr c26;have c26b1:(a1 != 2)=true:=bne_iff_ne.mpr c26
        by_cases c36:a1=3
        · rw [if_pos c36] at H;have c36b0:(a1 == 3)=true:=beq_iff_eq.mpr c36;have c36b1:(a1 != 3)=false:=bne_eq_false_iff_eq.mpr c36;clear c36;replace H:=bE H;obtain ⟨t259,A37,H⟩:=H;replace H:=bE H;obtain ⟨t260,A38,H⟩:=H;simp only [Option.some.injEq,Prod.mk.injEq] at H;obtain ⟨rfl,rfl,rfl⟩:=H;go_enter Try.func45,Try.ntmps45;(try go_wp2_with (first | ((with_reducible refine gate_dst (N:=4) rfl ?_);refine boxE_ HB 4 #[.int .i64 a0_0, .int .i64 a0_1] 25 ?_;clear HB;intro gb246 w39 HB BK246 GW246 GE246 hb;clear hb) | ((with_reducible refine gate_dst (N:=8) rfl ?_);refine boxG_ 8 #[.int .i64 0, .int .i64 0, .int .i64 0] 44 ?_;intro gb247 w40 hg BK247 hb;have GW247:=sZ HB hg;have GE247:=sZ HB hg;replace HB:=hB2 HB hb;have NB246_247:=neL BK246 hg;have NB247_246:=neR BK246 hg;replace BK246:=kb2 BK246 hb;clear hb hg)));replace BK246:=amk (blk_drew BK246.out);replace BK247:=amk (blk_drew BK247.out);replace HB:=amk (bd_ HB.out);refine start_ (n:=9) (S:=fun w'=>w'.cell? ⟨gb246,0,none⟩=some (.int .i64 a0_0)∧w'.cell? ⟨gb246,1,none⟩=some (.int .i64 a0_1)) (ds:=[]) (bA 9 0) (by kernel_rfl) rfl rfl ⟨(blk_cell BK246.out 0).trans rfl,(blk_cell BK246.out 1).trans rfl⟩ (fun hHeld=>?_);refine with_tabW impl_Lock_told.tab16 impl_Lock_told.bits16 (fun HT_ HW_=>?_);generalize w40.drew=w41 at BK246 BK247 HB hHeld ⊢;refine pU_ HT_ 0 (some 54) (bA 9 1) ?_;refine pU_ HT_ 3 (some 57) (bA 9 9) ?_;refine pU_ HT_ 5 (some 59) (bA 9 41) ?_;refine tK_ HT_ HW_ hHeld 1 (some 55) (bA 9 43) ?_;refine tK_ HT_ HW_ hHeld 2 (some 56) (bA 9 47) ?_;refine oN_ HT_ 4 (some 58) (bA 9 63) (fun K hK=>?_);refine gs_ Try.func54 #[.agg #[.int .i64 a0_0, .int .i64 a0_1], .int .i64 a2] ?_;(with_reducible refine (impl_Lock_code.calls a0_0 a0_1 a2 t259 _ A37.out).mono ?_);rintro e w42 ⟨rfl,hb⟩;refine ⟨_,rfl,?_⟩;replace BK246:=kb2 BK246 hb;replace BK247:=kb2 BK247 hb;replace HB:=hB2 HB hb;(try clear hb);refine hK.out _ _ hC_ (fun hHeld=>?_);clear hK K;refine nN_ (some 58) ?_;refine oN_ HT_ 6 (some 60) (bA 9 127) (fun K hK=>?_);refine gs_ Try.func55 #[.agg #[.int .i64 a0_0, .int .i64 a0_1], .string t259, .string a3] ?_;(with_reducible refine (impl_Lock_distance.calls k a0_0 a0_1 t259 a3 t260 _ A38.out).mono ?_);rintro e w43 ⟨rfl,hb⟩;refine ⟨_,rfl,?_⟩;replace BK246:=kb2 BK246 hb;replace BK247:=kb2 BK247 hb;replace HB:=hB2 HB hb;(try clear hb);refine hK.out _ _ hC_ (fun hHeld=>?_);clear hK K;refine nN_ (some 60) ?_;refine pU_ HT_ 7 (some 61) (bA 9 255) ?_;refine oN_ HT_ 8 none (bA 9 511) (fun K hK=>?_);have hs44:w43.cell? ⟨gb247,0,none⟩=some (.int .i64 0):=(blk_cell BK247.out 0).trans rfl;have hfs44:=blk_frozen BK247.out 0;have hns44_0:=NB246_247.out;have hms44_0:=NB247_246.out;have hs45:w43.cell? ⟨gb247,1,none⟩=some (.int .i64 0):=(blk_cell BK247.out 1).trans rfl;have hfs45:=blk_frozen BK247.out 1;have hns45_0:=NB246_247.out;have hms45_0:=NB247_246.out;have hs46:w43.cell? ⟨gb247,2,none⟩=some (.int .i64 0):=(blk_cell BK247.out 2).trans rfl;have hfs46:=blk_frozen BK247.out 2;have hns46_0:=NB246_247.out;have hms46_0:=NB247_246.out;refine skip_ (w1:=?_) (by rfl) rfl ?_ ?_;rotate_left
          · go_simp
            rfl
          refine hK.out _ _ ⟨((cell_far (p:=⟨gb247,_,none⟩) NB246_247.out _).trans (((cell_far (p:=⟨gb247,_,none⟩) NB246_247.out _).trans (((cell_far (p:=⟨gb247,_,none⟩) NB246_247.out _).trans (hHeld.1)))))),((cell_far (p:=⟨gb247,_,none⟩) NB246_247.out _).trans (((cell_far (p:=⟨gb247,_,none⟩) NB246_247.out _).trans (((cell_far (p:=⟨gb247,_,none⟩) NB246_247.out _).trans (hHeld.2))))))⟩ (fun hHeld=>?_);clear hK K;refine done_ (done_of HT_.out (by kernel_rfl)) ?_;(try go_wp2);refine bodyPost_ret (results_cell_row rfl _ _ gb247 44 #[.int .i64 3, .int .i64 a2, .int .i64 t260] (0,0) _ rfl (kP BK247) Try.underlying44 rfl (by kernel_rfl)) rfl ?_;exact ⟨rF_,bB⟩
        · rw [if_neg c36] at H;have c36b0:(a1 == 3)=false:=beq_eq_false_iff_ne.mpr c36;have c36b1:(a1 != 3)=true:=bne_iff_ne.mpr c36;replace H:=bE H;obtain ⟨t261,A47,H⟩:=H
          by_cases c48:a2=0
          · rw [if_pos c48] at H;exact absurd H (by simp)
          · rw [if_neg c48] at H;have c48b0:(a2 == 0)=false:=beq_eq_false_iff_ne.mpr c48;have c48b1:(a2 != 0)=true:=bne_iff_ne.mpr c48;simp only [Option.some.injEq,Prod.mk.injEq] at H;obtain ⟨rfl,rfl,rfl⟩:=H;go_enter Try.func45,Try.ntmps45;go_wp2_with (first | ((with_reducible refine gate_dst (N:=4) rfl ?_);refine boxE_ HB 4 #[.int .i64 a0_0, .int .i64 a0_1] 25 ?_;clear HB;intro gb246 w49 HB BK246 GW246 GE246 hb;clear hb) | ((with_reducible refine gate_dst (N:=8) rfl ?_);refine boxG_ 8 #[.int .i64 0, .int .i64 0, .int .i64 0] 44 ?_;intro gb247 w50 hg BK247 hb;have GW247:=sZ HB hg;have GE247:=sZ HB hg;replace HB:=hB2 HB hb;have NB246_247:=neL BK246 hg;have NB247_246:=neR BK246 hg;replace BK246:=kb2 BK246 hb;clear hb hg;have hnb51:=NB246_247.out;have hnc51:=NB247_246.out;obtain ⟨hcz52_0,hcz52_1,hfz52_0,hfz52_1⟩:=cells2 BK246.out) | (refine gc_ 59 65 Try.func59 #[.agg #[.int .i64 a0_0, .int .i64 a0_1], .string a3] ?_;(with_reducible refine (impl_Lock_number.calls k a0_0 a0_1 a3 t261 _ A47.out).mono ?_);rintro e w53 ⟨rfl,hb⟩;refine ⟨_,rfl,?_⟩;replace BK246:=kb2 BK246 hb;replace BK247:=kb2 BK247 hb;replace HB:=hB2 HB hb;(try clear hb);obtain ⟨hcz54_0,hcz54_1,hcz54_2,hfz54_0,hfz54_1,hfz54_2⟩:=cells3 BK247.out));refine bodyPost_ret (results_cell_row rfl _ _ gb247 44 #[.int .i64 4, .int .i64 a2, .int .i64 (Int.tmod t261 a2)] (0,0) _ rfl (kP BK247) Try.underlying44 rfl (by kernel_rfl)) rfl ?_;exact ⟨rF_,bB⟩
/-! (impl.Lock).fit, by hand: it asks its clues through slices.ContainsFunc and a closure. -/
set_option maxHeartbeats 4000000 in
set_option maxRecDepth 100000 in
theorem fit_closure (k:Nat) (a b:Int) (s:ByteArray) (gl gs:Nat) (W:World) (hl:gl < W.heap.size) (hs:gs < W.heap.size)
    (h0:W.cell? ⟨gl,0,none⟩=some (.int .i64 a)) (h1:W.cell? ⟨gl,1,none⟩=some (.int .i64 b)) (h2:W.cell? ⟨gs,0,none⟩=some (.string s)) (x:S44) (r0 r1 r2:Int) (hk:impl_Lock_told.f k a b x.f0 x.f1 s=some (r0,r1,r2)) :
    Calls Try.prog 86 #[.agg #[.int .i64 x.f0, .int .i64 x.f1, .int .i64 x.f2], .pointer (some ⟨gl,0,none⟩), .pointer (some ⟨gs,0,none⟩)] W fun e w'=>e = .returned (.bool (!decide (r0=x.f0∧r1=x.f1∧r2=x.f2)))∧Below W.heap.size W w':=by
  have hu28:=Try.underlying25
  have hu30:=Try.underlying44
  have hus:=Try.underlying9
  have hne:gl≠W.heap.size:=by omega
  have hne2:gs≠W.heap.size:=by omega
  have HK:=amk hk
  clear hk
  obtain ⟨x0,x1,x2⟩:=x
  have B1:Below W.heap.size W (W.alloc (.cells #[.int .i64 x0, .int .i64 x1, .int .i64 x2] 44)).drew:=(ba_ (Below.refl _ W) _).drew
  have HS1:Aside0 ((W.alloc (.cells #[.int .i64 x0, .int .i64 x1, .int .i64 x2] 44)).drew.cell? ⟨gl,0,none⟩=some (.int .i64 a)∧(W.alloc (.cells #[.int .i64 x0, .int .i64 x1, .int .i64 x2] 44)).drew.cell? ⟨gl,1,none⟩=some (.int .i64 b)∧(W.alloc (.cells #[.int .i64 x0, .int .i64 x1, .int .i64 x2] 44)).drew.cell? ⟨gs,0,none⟩=some (.string s)∧(W.alloc (.cells #[.int .i64 x0, .int .i64 x1, .int .i64 x2] 44)).drew.cell? ⟨W.heap.size,0,none⟩=some (.int .i64 x0)∧(W.alloc (.cells #[.int .i64 x0, .int .i64 x1, .int .i64 x2] 44)).drew.cell? ⟨W.heap.size,1,none⟩=some (.int .i64 x1)∧(W.alloc (.cells #[.int .i64 x0, .int .i64 x1, .int .i64 x2] 44)).drew.cell? ⟨W.heap.size,2,none⟩=some (.int .i64 x2)∧Aside0 (Below W.heap.size W (W.alloc (.cells #[.int .i64 x0, .int .i64 x1, .int .i64 x2] 44)).drew)):=
    ⟨(B1.cell (p:=⟨gl,0,none⟩) hl).trans h0,(B1.cell (p:=⟨gl,1,none⟩) hl).trans h1,(B1.cell (p:=⟨gs,0,none⟩) hs).trans h2,by simp,by simp,by simp,⟨B1⟩⟩
  have hlt:gl < W.heap.size + 1:=by omega
  have hlt2:gs < W.heap.size + 1:=by omega
  have HLT:=amk (And.intro hlt hlt2)
  clear B1 hlt hlt2
  show Calls Try.prog _ _ _ fun e w'=>e = .returned (.bool (!decide (r0=x0∧r1=x1∧r2=x2)))∧Below W.heap.size W w'
  have fin : ∀ c:Bool,(c = !decide (r0=x0∧r1=x1∧r2=x2))→Calls Try.prog 86 #[.agg #[.int .i64 x0, .int .i64 x1, .int .i64 x2], .pointer (some ⟨gl,0,none⟩), .pointer (some ⟨gs,0,none⟩)] W (fun e w'=>e = .returned (.bool c)∧Below W.heap.size W w')→Calls Try.prog 86 #[.agg #[.int .i64 x0, .int .i64 x1, .int .i64 x2], .pointer (some ⟨gl,0,none⟩), .pointer (some ⟨gs,0,none⟩)] W (fun e w'=>e = .returned (.bool (!decide (r0=x0∧r1=x1∧r2=x2)))∧Below W.heap.size W w'):=by
    intro c hc h;rw [←hc];exact h
  by_cases q0:r0=x0
  · by_cases q1:r1=x1
    · by_cases q2:r2=x2
      · refine fin false (by simp [q0,q1,q2]) ?_
        clear fin
        subst q0 q1 q2
        go_enter Try.func86,Try.ntmps86
        go_wp2
        go_region_held3 (fun w'=>w'.cell? ⟨gl,0,none⟩=some (.int .i64 a)∧w'.cell? ⟨gl,1,none⟩=some (.int .i64 b)∧w'.cell? ⟨gs,0,none⟩=some (.string s)∧w'.cell? ⟨W.heap.size,0,none⟩=some (.int .i64 r0)∧w'.cell? ⟨W.heap.size,1,none⟩=some (.int .i64 r1)∧w'.cell? ⟨W.heap.size,2,none⟩=some (.int .i64 r2)∧Aside0 (Below W.heap.size W w')) (first | exact HS1.out | exact ⟨(hb9.cell (by simp;have:=HLT.out;omega)).trans HS1.out.1,(hb9.cell (by simp;have:=HLT.out;omega)).trans HS1.out.2.1,(hb9.cell (by simp;have:=HLT.out;omega)).trans HS1.out.2.2.1,(hb9.cell (by simp)).trans HS1.out.2.2.2.1,(hb9.cell (by simp)).trans HS1.out.2.2.2.2.1,(hb9.cell (by simp)).trans HS1.out.2.2.2.2.2.1,⟨HS1.out.2.2.2.2.2.2.out.trans (hb9.mono (by simp))⟩⟩) ((go_at_call 45;refine (impl_Lock_told.calls k a b r0 r1 s r0 r1 r2 _ HK.out).mono ?_;rintro e w9 ⟨rfl,hb9⟩))
        go_wp2
        go_ret
        exact ⟨rfl,HS1.out.2.2.2.2.2.2.out.trans (hb9.mono (by simp))⟩
      · refine fin true (by simp [q2]) ?_
        clear fin
        have d2:(r2 == x2)=false:=by simp [q2]
        subst q0 q1
        go_enter Try.func86,Try.ntmps86
        go_wp2
        go_region_held3 (fun w'=>w'.cell? ⟨gl,0,none⟩=some (.int .i64 a)∧w'.cell? ⟨gl,1,none⟩=some (.int .i64 b)∧w'.cell? ⟨gs,0,none⟩=some (.string s)∧w'.cell? ⟨W.heap.size,0,none⟩=some (.int .i64 r0)∧w'.cell? ⟨W.heap.size,1,none⟩=some (.int .i64 r1)∧w'.cell? ⟨W.heap.size,2,none⟩=some (.int .i64 x2)∧Aside0 (Below W.heap.size W w')) (first | exact HS1.out | exact ⟨(hb9.cell (by simp;have:=HLT.out;omega)).trans HS1.out.1,(hb9.cell (by simp;have:=HLT.out;omega)).trans HS1.out.2.1,(hb9.cell (by simp;have:=HLT.out;omega)).trans HS1.out.2.2.1,(hb9.cell (by simp)).trans HS1.out.2.2.2.1,(hb9.cell (by simp)).trans HS1.out.2.2.2.2.1,(hb9.cell (by simp)).trans HS1.out.2.2.2.2.2.1,⟨HS1.out.2.2.2.2.2.2.out.trans (hb9.mono (by simp))⟩⟩) ((go_at_call 45;refine (impl_Lock_told.calls k a b r0 r1 s r0 r1 r2 _ HK.out).mono ?_;rintro e w9 ⟨rfl,hb9⟩))
        go_wp2
        go_ret
        exact ⟨rfl,HS1.out.2.2.2.2.2.2.out.trans (hb9.mono (by simp))⟩
    · refine fin true (by simp [q1]) ?_
      clear fin
      have d1:(r1 == x1)=false:=by simp [q1]
      subst q0
      go_enter Try.func86,Try.ntmps86
      go_wp2
      go_region_held3 (fun w'=>w'.cell? ⟨gl,0,none⟩=some (.int .i64 a)∧w'.cell? ⟨gl,1,none⟩=some (.int .i64 b)∧w'.cell? ⟨gs,0,none⟩=some (.string s)∧w'.cell? ⟨W.heap.size,0,none⟩=some (.int .i64 r0)∧w'.cell? ⟨W.heap.size,1,none⟩=some (.int .i64 x1)∧w'.cell? ⟨W.heap.size,2,none⟩=some (.int .i64 x2)∧Aside0 (Below W.heap.size W w')) (first | exact HS1.out | exact ⟨(hb9.cell (by simp;have:=HLT.out;omega)).trans HS1.out.1,(hb9.cell (by simp;have:=HLT.out;omega)).trans HS1.out.2.1,(hb9.cell (by simp;have:=HLT.out;omega)).trans HS1.out.2.2.1,(hb9.cell (by simp)).trans HS1.out.2.2.2.1,(hb9.cell (by simp)).trans HS1.out.2.2.2.2.1,(hb9.cell (by simp)).trans HS1.out.2.2.2.2.2.1,⟨HS1.out.2.2.2.2.2.2.out.trans (hb9.mono (by simp))⟩⟩) ((go_at_call 45;refine (impl_Lock_told.calls k a b r0 x1 s r0 r1 r2 _ HK.out).mono ?_;rintro e w9 ⟨rfl,hb9⟩))
      go_wp2
      go_ret
      exact ⟨rfl,HS1.out.2.2.2.2.2.2.out.trans (hb9.mono (by simp))⟩
  · refine fin true (by simp [q0]) ?_
    clear fin
    have d0:(r0 == x0)=false:=by simp [q0]
    go_enter Try.func86,Try.ntmps86
    go_wp2
    go_region_held3 (fun w'=>w'.cell? ⟨gl,0,none⟩=some (.int .i64 a)∧w'.cell? ⟨gl,1,none⟩=some (.int .i64 b)∧w'.cell? ⟨gs,0,none⟩=some (.string s)∧w'.cell? ⟨W.heap.size,0,none⟩=some (.int .i64 x0)∧w'.cell? ⟨W.heap.size,1,none⟩=some (.int .i64 x1)∧w'.cell? ⟨W.heap.size,2,none⟩=some (.int .i64 x2)∧Aside0 (Below W.heap.size W w')) (first | exact HS1.out | exact ⟨(hb9.cell (by simp;have:=HLT.out;omega)).trans HS1.out.1,(hb9.cell (by simp;have:=HLT.out;omega)).trans HS1.out.2.1,(hb9.cell (by simp;have:=HLT.out;omega)).trans HS1.out.2.2.1,(hb9.cell (by simp)).trans HS1.out.2.2.2.1,(hb9.cell (by simp)).trans HS1.out.2.2.2.2.1,(hb9.cell (by simp)).trans HS1.out.2.2.2.2.2.1,⟨HS1.out.2.2.2.2.2.2.out.trans (hb9.mono (by simp))⟩⟩) ((go_at_call 45;refine (impl_Lock_told.calls k a b x0 x1 s r0 r1 r2 _ HK.out).mono ?_;rintro e w9 ⟨rfl,hb9⟩))
    go_wp2
    go_ret
    exact ⟨rfl,HS1.out.2.2.2.2.2.2.out.trans (hb9.mono (by simp))⟩
def impl_Lock_fit.f (k:Nat) (a b:Int) (l:List S44) (s:ByteArray):Option Bool:=if (l.all fun c=>(impl_Lock_told.f k a b c.f0 c.f1 s).isSome)=true then some (l.all fun c=>decide (impl_Lock_told.f k a b c.f0 c.f1 s=some (c.f0,c.f1,c.f2))) else none
set_option maxHeartbeats 4000000 in
set_option maxRecDepth 100000 in
theorem impl_Lock_fit.calls (k:Nat) (a0_0 a0_1:Int) (A1:Option Addr) (c1:Nat) (l1:List S44) (a2:ByteArray) (r:Bool) (w:World) (hr1:Kd.C k44 w A1 l1.length l1) (hc1:l1.length≤c1) (h:impl_Lock_fit.f k a0_0 a0_1 l1 a2=some r) :
    Calls Try.prog 56 #[.agg #[.int .i64 a0_0, .int .i64 a0_1], .slice A1 l1.length c1, .string a2] w fun e w'=>e = .returned (.bool r)∧Below w.heap.size w w':=by
  unfold impl_Lock_fit.f at h
  by_cases hc:(l1.all fun c=>(impl_Lock_told.f k a0_0 a0_1 c.f0 c.f1 a2).isSome)=true
  · rw [if_pos hc] at h
    obtain rfl:=Option.some.inj h
    clear h
    have hu28:=Try.underlying25
    have hus:=Try.underlying9
    have eg : ∀ args w,(callFunc 86 args).run Try.prog w = .ok (.enter 86 args) w:=enters_of Try.func86 (by kernel_rfl) rfl
    have HE:=amk eg
    clear eg
    have HR:=amk hr1
    have HC:=amk hc
    clear hr1 hc
    rw [show (l1.all fun c=>decide (impl_Lock_told.f k a0_0 a0_1 c.f0 c.f1 a2=some (c.f0,c.f1,c.f2))) = !(l1.any fun c=> !decide (impl_Lock_told.f k a0_0 a0_1 c.f0 c.f1 a2=some (c.f0,c.f1,c.f2))) by simp [List.all_eq_not_any_not]]
    generalize hz:(l1.any fun c=> !decide (impl_Lock_told.f k a0_0 a0_1 c.f0 c.f1 a2=some (c.f0,c.f1,c.f2)))=z
    have HZ:=amk hz
    clear hz
    have B1:Below w.heap.size w ((w.alloc (.cells #[.int .i64 a0_0, .int .i64 a0_1] 25)).alloc (.cells #[.string a2] 9)):=ba_ (ba_ (Below.refl _ w) _) _
    have BW:=amk B1
    clear B1
    have HP:Aside0 (PredClue 86 #[.pointer (some ⟨w.heap.size,0,none⟩), .pointer (some ⟨w.heap.size + 1,0,none⟩)] (fun c=> !decide (impl_Lock_told.f k a0_0 a0_1 c.f0 c.f1 a2=some (c.f0,c.f1,c.f2))) l1 ((w.alloc (.cells #[.int .i64 a0_0, .int .i64 a0_1] 25)).alloc (.cells #[.string a2] 9))):=⟨by
      intro x hx V hV
      obtain ⟨⟨r0,r1,r2⟩,hv⟩:=Option.isSome_iff_exists.mp (List.all_eq_true.mp HC.out x hx)
      have hsz:=hV.size
      simp at hsz
      have:=fit_closure k a0_0 a0_1 a2 w.heap.size (w.heap.size + 1) V (by omega) (by omega) ((hV.cell (p:=⟨w.heap.size,0,none⟩) (by simp;omega)).trans (by simp)) ((hV.cell (p:=⟨w.heap.size,1,none⟩) (by simp;omega)).trans (by simp)) ((hV.cell (p:=⟨w.heap.size + 1,0,none⟩) (by simp)).trans (by simp)) x r0 r1 r2 hv
      refine this.mono (fun e w' ⟨h1,h2⟩=>⟨?_,hV.trans (h2.mono hV.size)⟩)
      rw [h1]
      show _=Ending.returned (.bool (!decide (impl_Lock_told.f k a0_0 a0_1 x.f0 x.f1 a2=some (x.f0,x.f1,x.f2))))
      rw [hv]
      simp⟩
    go_enter Try.func56,Try.ntmps56
    go_wp2_with (go_at_call 60;refine (contains_Clue 86 #[.pointer (some ⟨w.heap.size,0,none⟩), .pointer (some ⟨w.heap.size + 1,0,none⟩)] (fun c=> !decide (impl_Lock_told.f k a0_0 a0_1 c.f0 c.f1 a2=some (c.f0,c.f1,c.f2))) A1 c1 l1 _ HE.out (Kd.C_below HR.out BW.out) HP.out).mono ?_;rintro e w2 ⟨rfl,hb2⟩;have BW2:=amk (BW.out.trans (hb2.mono BW.out.size));clear hb2)
    go_ret
    exact ⟨by rw [HZ.out];rfl,BW2.out⟩
  · rw [if_neg hc] at h
    cases h
/-! ### impl_DoesFit: function 12 -/
def impl_DoesFit.f (k:Nat) (a0_0:Int) (a0_1:Int) (a1_0:Int) (a1_1:Int) (a1_2:Int) (a2:ByteArray):Option (Bool×Bool):=(impl_IsClue.f k a0_0 a0_1 a1_0 a1_1 a1_2).bind fun t441=>(if t441=true then ((impl_has.f k a0_0 a0_1 (([a2]:List ByteArray))).bind fun t445=>(if t445=true then ((impl_Lock_fit.f k a0_0 a0_1 (([(⟨a1_0,a1_1,a1_2⟩:S44)]:List (S44))) a2).bind fun t449=>(some (t449,true))) else (some (false,false)))) else (some (false,false)))
set_option maxHeartbeats 8000000 in
set_option maxRecDepth 100000 in
theorem impl_DoesFit.calls (k:Nat) (a0_0:Int) (a0_1:Int) (a1_0:Int) (a1_1:Int) (a1_2:Int) (a2:ByteArray) (r1:Bool) (r2:Bool) (w:World) (h:impl_DoesFit.f k a0_0 a0_1 a1_0 a1_1 a1_2 a2=some (r1,r2)) :
    Calls Try.prog 12 #[.agg #[.int .i64 a0_0, .int .i64 a0_1], .agg #[.int .i64 a1_0, .int .i64 a1_1, .int .i64 a1_2], .string a2] w fun e w'=>e = .returned (.tuple #[.bool r1, .bool r2])∧Below w.heap.size w w':=by
  have hu25:=Try.underlying25;have hu44:=Try.underlying44;have HB:=amk (Below.refl w.heap.size w);unfold impl_DoesFit.f at h;have H:=h;clear h;replace H:=bE H;obtain ⟨t441,A4,H⟩:=H;replace H:=iteB H;obtain ⟨rfl,H⟩ | ⟨rfl,H⟩:=H
  · (try rw [Option.bind_some] at H);generalize hy442:(([a2]:List ByteArray))=y442 at H;have Ny442:=amk hy442.symm;clear hy442;replace H:=bE H;obtain ⟨t445,A6,H⟩:=H;replace H:=iteB H;obtain ⟨rfl,H⟩ | ⟨rfl,H⟩:=H
    · (try rw [Option.bind_some] at H);generalize hy446:(([(⟨a1_0,a1_1,a1_2⟩:S44)]:List (S44)))=y446 at H;have Ny446:=amk hy446.symm;clear hy446;replace H:=bE H;obtain ⟨t449,A8,H⟩:=H;simp only [Option.some.injEq,Prod.mk.injEq] at H;obtain ⟨rfl,rfl⟩:=H;go_enter Try.func12,Try.ntmps12;go_wp2_with (first | ((with_reducible refine gate_dst (N:=3) rfl ?_);(try (refine gate_guard (by rfl) ?_;dsimp only));refine boxE_ HB 3 #[.int .i64 a0_0, .int .i64 a0_1] 25 ?_;clear HB;intro gb439 w9 HB BK439 GW439 GE439 hb;clear hb) | ((with_reducible refine gate_dst (N:=4) rfl ?_);(try (refine gate_guard (by rfl) ?_;dsimp only));refine boxG_ 4 #[.int .i64 a1_0, .int .i64 a1_1, .int .i64 a1_2] 44 ?_;intro gb440 w10 hg BK440 hb;have GW440:=sZ HB hg;have GE440:=sZ HB hg;replace HB:=hB2 HB hb;have NB439_440:=neL BK439 hg;have NB440_439:=neR BK439 hg;replace BK439:=kb2 BK439 hb;clear hb hg;have hnb11:=NB439_440.out;have hnc11:=NB440_439.out;obtain ⟨hcz12_0,hcz12_1,hfz12_0,hfz12_1⟩:=cells2 BK439.out;obtain ⟨hcz13_0,hcz13_1,hcz13_2,hfz13_0,hfz13_1,hfz13_2⟩:=cells3 BK440.out) | (refine gc_ 32 10 Try.func32 #[.agg #[.int .i64 a0_0, .int .i64 a0_1], .agg #[.int .i64 a1_0, .int .i64 a1_1, .int .i64 a1_2]] ?_;(with_reducible refine (impl_IsClue.calls k a0_0 a0_1 a1_0 a1_1 a1_2 true _ A4.out).mono ?_);rintro e w14 ⟨rfl,hb⟩;refine ⟨_,rfl,?_⟩;replace BK439:=kb2 BK439 hb;replace BK440:=kb2 BK440 hb;replace HB:=hB2 HB hb;(try clear hb);obtain ⟨hcz15_0,hcz15_1,hfz15_0,hfz15_1⟩:=cells2 BK439.out) | ((with_reducible refine gate_dst (N:=15) rfl ?_);(try (refine gate_guard (by rfl) ?_;dsimp only));refine Kd.R_lit Kd.string _ 9 ?hg (N:=15) ?hd (xs:=([a2]:List ByteArray)) (inner:=[.string a2]) (ok:=fun _=>True) (okp:=fun _=>True) ?hr ?hp (fun _ hk=>hk) trivial (Below.refl _ _) (Nat.le_refl _) (by simp) ?_;(case hd=>rfl);(case hg=>rfl);(case hr=>first | (go_simp;done) | (go_simp;rfl));(case hp=>exact (Reps.one (show Kd.M Kd.string _ _ _ a2 [.string a2] from rfl) (Reps.none _ _)));intro v443 w16 ho17 hb hg_ hnew_;clear hg_ hnew_;(first | rw [←Ny442.out] at ho17 | (simp only [Int.reduceToNat] at ho17;rw [←Ny442.out] at ho17));have HO444:=amk (Kd.R_lower ho17 (below_size bB));replace BK439:=kb2 BK439 hb;replace BK440:=kb2 BK440 hb;replace HB:=hB2 HB hb;clear hb ho17;obtain ⟨Ao18,co18,eo18⟩:=Kd.R_slice HO444.out;subst eo18) | (go_at_call 41;(with_reducible refine (impl_has.calls k a0_0 a0_1 _ _ y442 true _ ?_ ?_ A6.out).mono ?_);exact cB ((Kd.R_reads' HO444.out).2.2);exact (Kd.R_reads' HO444.out).2.1;rintro e w19 ⟨rfl,hb⟩;replace HO444:=amk (Kd.R_below (oX HO444) hb);replace BK439:=kb2 BK439 hb;replace BK440:=kb2 BK440 hb;replace HB:=hB2 HB hb;(try clear hb);obtain ⟨hcz20_0,hcz20_1,hfz20_0,hfz20_1⟩:=cells2 BK439.out;obtain ⟨hcz21_0,hcz21_1,hcz21_2,hfz21_0,hfz21_1,hfz21_2⟩:=cells3 BK440.out) | ((with_reducible refine gate_dst (N:=21) rfl ?_);(try (refine gate_guard (by rfl) ?_;dsimp only));refine Kd.R_lit k44 _ 44 ?hg (N:=21) ?hd (xs:=([(⟨a1_0,a1_1,a1_2⟩:S44)]:List (S44))) (inner:=[.int .i64 a1_0, .int .i64 a1_1, .int .i64 a1_2]) (ok:=fun _=>True) (okp:=fun _=>True) ?hr ?hp (fun _ hk=>hk) trivial (Below.refl _ _) (Nat.le_refl _) (by simp) ?_;(case hd=>rfl);(case hg=>rfl);(case hr=>first | (go_simp;done) | (go_simp;rfl));(case hp=>exact (Reps.c3 (show Kd.M k44 _ _ _ (⟨a1_0,a1_1,a1_2⟩:S44) [.int .i64 a1_0, .int .i64 a1_1, .int .i64 a1_2] from (k44_mkM _ _ _ (⟨a1_0,a1_1,a1_2⟩:S44) )) (Reps.none _ _)));intro v447 w22 ho23 hb hg_ hnew_;clear hg_ hnew_;(first | rw [←Ny446.out] at ho23 | (simp only [Int.reduceToNat] at ho23;rw [←Ny446.out] at ho23));replace HO444:=amk (Kd.R_below (oX HO444) hb);have HO448:=amk (Kd.R_lower (Kd.R_newB ho23 (g:=gb440) (o:= .cells #[.int .i64 a1_0, .int .i64 a1_1, .int .i64 a1_2] 44 (0,0)) (kB BK440)) (below_size bB));replace BK439:=kb2 BK439 hb;replace BK440:=kb2 BK440 hb;replace HB:=hB2 HB hb;clear hb ho23;obtain ⟨Ao24,co24,eo24⟩:=Kd.R_slice HO448.out;subst eo24) | (refine gc_ 56 23 Try.func56 #[.agg #[.int .i64 a0_0, .int .i64 a0_1], .slice Ao24 y446.length co24, .string a2] ?_;(with_reducible refine (impl_Lock_fit.calls k a0_0 a0_1 _ _ y446 a2 t449 _ ?_ ?_ A8.out).mono ?_);exact cB ((Kd.R_reads' HO448.out).2.2);exact (Kd.R_reads' HO448.out).2.1;rintro e w25 ⟨rfl,hb⟩;refine ⟨_,rfl,?_⟩;replace HO444:=amk (Kd.R_below (oX HO444) hb);replace HO448:=amk (Kd.R_below (oX HO448) hb);replace BK439:=kb2 BK439 hb;replace BK440:=kb2 BK440 hb;replace HB:=hB2 HB hb;(try clear hb)));go_ret2;exact ⟨rF_,bB⟩
    · simp only [Option.some.injEq,Prod.mk.injEq] at H;obtain ⟨rfl,rfl⟩:=H;go_enter Try.func12,Try.ntmps12;go_wp2_with (first | ((with_reducible refine gate_dst (N:=3) rfl ?_);(try (refine gate_guard (by rfl) ?_;dsimp only));refine boxE_ HB 3 #[.int .i64 a0_0, .int .i64 a0_1] 25 ?_;clear HB;intro gb439 w26 HB BK439 GW439 GE439 hb;clear hb) | ((with_reducible refine gate_dst (N:=4) rfl ?_);(try (refine gate_guard (by rfl) ?_;dsimp only));refine boxG_ 4 #[.int .i64 a1_0, .int .i64 a1_1, .int .i64 a1_2] 44 ?_;intro gb440 w27 hg BK440 hb;have GW440:=sZ HB hg;have GE440:=sZ HB hg;replace HB:=hB2 HB hb;have NB439_440:=neL BK439 hg;have NB440_439:=neR BK439 hg;replace BK439:=kb2 BK439 hb;clear hb hg;have hnb28:=NB439_440.out;have hnc28:=NB440_439.out;obtain ⟨hcz29_0,hcz29_1,hfz29_0,hfz29_1⟩:=cells2 BK439.out;obtain ⟨hcz30_0,hcz30_1,hcz30_2,hfz30_0,hfz30_1,hfz30_2⟩:=cells3 BK440.out) | (refine gc_ 32 10 Try.func32 #[.agg #[.int .i64 a0_0, .int .i64 a0_1], .agg #[.int .i64 a1_0, .int .i64 a1_1, .int .i64 a1_2]] ?_;(with_reducible refine (impl_IsClue.calls k a0_0 a0_1 a1_0 a1_1 a1_2 true _ A4.out).mono ?_);rintro e w31 ⟨rfl,hb⟩;refine ⟨_,rfl,?_⟩;replace BK439:=kb2 BK439 hb;replace BK440:=kb2 BK440 hb;replace HB:=hB2 HB hb;(try clear hb);obtain ⟨hcz32_0,hcz32_1,hfz32_0,hfz32_1⟩:=cells2 BK439.out) | ((with_reducible refine gate_dst (N:=15) rfl ?_);(try (refine gate_guard (by rfl) ?_;dsimp only));refine Kd.R_lit Kd.string _ 9 ?hg (N:=15) ?hd (xs:=([a2]:List ByteArray)) (inner:=[.string a2]) (ok:=fun _=>True) (okp:=fun _=>True) ?hr ?hp (fun _ hk=>hk) trivial (Below.refl _ _) (Nat.le_refl _) (by simp) ?_;(case hd=>rfl);(case hg=>rfl);(case hr=>first | (go_simp;done) | (go_simp;rfl));(case hp=>exact (Reps.one (show Kd.M Kd.string _ _ _ a2 [.string a2] from rfl) (Reps.none _ _)));intro v443 w33 ho34 hb hg_ hnew_;clear hg_ hnew_;(first | rw [←Ny442.out] at ho34 | (simp only [Int.reduceToNat] at ho34;rw [←Ny442.out] at ho34));have HO444:=amk (Kd.R_lower ho34 (below_size bB));replace BK439:=kb2 BK439 hb;replace BK440:=kb2 BK440 hb;replace HB:=hB2 HB hb;clear hb ho34;obtain ⟨Ao35,co35,eo35⟩:=Kd.R_slice HO444.out;subst eo35) | (go_at_call 41;(with_reducible refine (impl_has.calls k a0_0 a0_1 _ _ y442 false _ ?_ ?_ A6.out).mono ?_);exact cB ((Kd.R_reads' HO444.out).2.2);exact (Kd.R_reads' HO444.out).2.1;rintro e w36 ⟨rfl,hb⟩;replace HO444:=amk (Kd.R_below (oX HO444) hb);replace BK439:=kb2 BK439 hb;replace BK440:=kb2 BK440 hb;replace HB:=hB2 HB hb;(try clear hb)));go_ret2;exact ⟨rF_,bB⟩
  · simp only [Option.some.injEq,Prod.mk.injEq] at H;obtain ⟨rfl,rfl⟩:=H;go_enter Try.func12,Try.ntmps12;go_wp2_with (first | ((with_reducible refine gate_dst (N:=3) rfl ?_);(try (refine gate_guard (by rfl) ?_;dsimp only));refine boxE_ HB 3 #[.int .i64 a0_0, .int .i64 a0_1] 25 ?_;clear HB;intro gb439 w37 HB BK439 GW439 GE439 hb;clear hb) | ((with_reducible refine gate_dst (N:=4) rfl ?_);(try (refine gate_guard (by rfl) ?_;dsimp only));refine boxG_ 4 #[.int .i64 a1_0, .int .i64 a1_1, .int .i64 a1_2] 44 ?_;intro gb440 w38 hg BK440 hb;have GW440:=sZ HB hg;have GE440:=sZ HB hg;replace HB:=hB2 HB hb;have NB439_440:=neL BK439 hg;have NB440_439:=neR BK439 hg;replace BK439:=kb2 BK439 hb;clear hb hg;have hnb39:=NB439_440.out;have hnc39:=NB440_439.out;obtain ⟨hcz40_0,hcz40_1,hfz40_0,hfz40_1⟩:=cells2 BK439.out;obtain ⟨hcz41_0,hcz41_1,hcz41_2,hfz41_0,hfz41_1,hfz41_2⟩:=cells3 BK440.out) | (refine gc_ 32 10 Try.func32 #[.agg #[.int .i64 a0_0, .int .i64 a0_1], .agg #[.int .i64 a1_0, .int .i64 a1_1, .int .i64 a1_2]] ?_;(with_reducible refine (impl_IsClue.calls k a0_0 a0_1 a1_0 a1_1 a1_2 false _ A4.out).mono ?_);rintro e w42 ⟨rfl,hb⟩;refine ⟨_,rfl,?_⟩;replace BK439:=kb2 BK439 hb;replace BK440:=kb2 BK440 hb;replace HB:=hB2 HB hb;(try clear hb)));go_ret2;exact ⟨rF_,bB⟩
/-! slices.Delete at []impl.Clue, of one element of a row of the call's own: taken out in place. -/
set_option maxHeartbeats 4000000 in
set_option maxRecDepth 1000000 in
theorem slices_Delete_impl_Clue_impl_Clue_own (w0 w:World) (base g cap k n:Nat) (ok:Nat→Prop) (xs:List S44) (hn:xs.length=n + 1) (hk:k < n + 1) (HO:Kd.R k44 44 w base ok (.slice (some ⟨g,0,none⟩) (n + 1) cap) xs) (HB:Below base w0 w) (hbase:base≤w.heap.size) :
    Calls Try.prog 89 #[.slice (some ⟨g,0,none⟩) (n + 1) cap, .int .i64 (k:Nat), .int .i64 ((k:Int) + 1)] w fun e w'=>e = .returned (.slice (some ⟨g,0,none⟩) n cap) ∧
      Kd.R k44 44 w' base ok (.slice (some ⟨g,0,none⟩) n cap) (xs.eraseIdx k)∧Below base w0 w':=by
  have hu:=Try.underlying28
  have hinfo:(Try.prog.info? 44).map (·.size)=some 3:=by kernel_rfl
  have hzv : ∀ w,(zeroValue 44).run Try.prog w = .ok (.agg #[(.int .i64 0),(.int .i64 0),(.int .i64 0)]) w:=fun _=>by kernel_rfl
  have HI:=amk hinfo
  have HZ:=amk hzv
  clear hinfo hzv
  obtain ⟨hbg,hz1,hnc,hcm,hz2⟩:=row_cells (id HO)
  clear hz1 hz2
  have hne:((k:Int) == (k:Int) + 1)=false:=by simp;omega
  have HK:=amk hk
  have HN:=amk hn
  have HOA:=amk HO
  have HBA:=amk HB
  have HBS:=amk hbase
  have HBG:=amk hbg
  clear HO HB hbase hn hbg
  have hk1:k≤cap:=by omega
  have hk2:k + 1≤cap:=by omega
  have hk3:k + 1≤n + 1:=by omega
  have hk4:(k:Int)≤(cap:Int):=by omega
  have hk5:(k:Int) + 1≤(cap:Int):=by omega
  have hk7:0≤(k:Int) + 1:=by omega
  have hk6:(k:Int) + 1≤(n:Int) + 1:=by omega
  go_enter Try.func89,Try.ntmps89
  go_wp2_with fail
  have HA:Aside0 ((if cap=k + 1 then some (⟨g,0,none⟩:Addr) else some ⟨g,(k + 1) * 3,none⟩)=if cap=k + 1 then some ⟨g,0,none⟩ else (some (⟨g,0,none⟩:Addr)).map (·.add ((k + 1) * 3))):=⟨by
    split
    · rfl
    · simp [Addr.add]⟩
  have HR1:Aside0 (Kd.R k44 44 w.drew base ok (.slice (some ⟨g,0,none⟩) (n + 1) cap) xs):=⟨Kd.R_drew HOA.out⟩
  have HB1:Aside0 (Below base w0 w.drew):=⟨bd_ HBA.out⟩
  have HM:Aside0 (n - k=n + 1 - (k + 1)):=⟨by omega⟩
  go_region_law (refine Kd.R_delete_step k44 (w0:=w0) base rfl (.tmp 22) (.tmp 25) 28 44 rfl Try.underlying28 HI.out (g:=g) (n:=n + 1) (c:=cap) (k:=k) (m:=n - k) (c2:=cap - (k + 1)) (xs:=xs) (ok:=ok) (by simp [Act.eval,Act.put]) (by simp [Act.eval,Act.put]) HA.out HM.out HR1.out HK.out HB1.out HBS.out ?_;intro w1 hr1 hb1 hg1;clear hg1)
  have HR2:=amk hr1
  have HB2:=amk hb1
  obtain ⟨_,_,hnc1,_,hcells⟩:=row_cells (id hr1)
  have hcl : ∀ ty,(Builtin.clear_ #[28] ty #[.slice (some ⟨g,n * 3,none⟩) 1 (cap - n)]).run Try.prog w1 = .ok (.tuple #[]) (w1.setCells g (n * 3) [.int .i64 0, .int .i64 0, .int .i64 0]):=fun ty =>
    run_clear_one w1 28 44 ty (.agg #[(.int .i64 0),(.int .i64 0),(.int .i64 0)]) [.int .i64 0, .int .i64 0, .int .i64 0] Try.underlying28 HZ.out rfl (by intro u hu;simp at hu;simp [hu,Value.oneCell']) g (n * 3) _
      (fun j hj=>(hcells _ (by show _ < cap * 3;simp at hj;omega)).1) (fun j hj=>(hcells _ (by show _ < cap * 3;simp at hj;omega)).2)
  (try simp only [Nat.mul_one] at hcl)
  clear hr1 hb1 hcells
  have hn1:n≤cap:=by omega
  have hn2:n + 1≤cap:=by omega
  have hn3:(n:Int)≤(cap:Int):=by omega
  have hn4:(n:Int) + 1≤(cap:Int):=by omega
  clear hk1 hk2 hk3 hk4 hk5 hk6 hk7 hne
  go_wp2
  all_goals
    go_ret
    have hl:=List.length_eraseIdx_of_lt (l:=xs) (i:=k) (by have:=HK.out;have:=HN.out;omega)
    have hr:=R_spare HR2.out [.int .i64 0, .int .i64 0, .int .i64 0] (n * 3) (by rw [hl,HN.out];exact Nat.le_refl _) (by show n * 3 + 3≤cap * 3;omega)
    rw [Nat.add_sub_cancel] at hr
    (try simp only [Nat.mul_one] at hr)
    refine ⟨rfl,?_,below_cells HBG.out _ _ _ HB2.out⟩
    (try simp only [Nat.mul_one])
    first | exact hr | (have h_:cap=k + 1:=by assumption
                        rw [h_] at hr;exact hr)
/-! impl.but, by hand: clues without one. -/
def impl_but.f (l:List S44) (k:Int):Option (List S44):=if l.length < 5864062014805∧0≤k∧k < l.length then some (l.eraseIdx k.toNat) else none
set_option maxHeartbeats 2000000 in
set_option maxRecDepth 100000 in
theorem impl_but.calls (A0:Option Addr) (c0:Nat) (l0:List S44) (a1:Int) (r:List S44) (w:World) (hr0:Kd.C k44 w A0 l0.length l0) (hc0:l0.length≤c0) (h:impl_but.f l0 a1=some r) :
    Calls Try.prog 64 #[.slice A0 l0.length c0, .int .i64 a1] w fun e w'=> ∃ v0_:Value,e = .returned v0_∧Kd.R k44 44 w' w.heap.size (fun _=>True) v0_ r∧Below w.heap.size w w':=by
  unfold impl_but.f at h
  by_cases hl:l0.length < 5864062014805∧0≤a1∧a1 < l0.length
  · rw [if_pos hl] at h
    obtain rfl:=Option.some.inj h
    clear h
    obtain ⟨h1,h2,h3⟩:=hl
    obtain ⟨k,rfl⟩:=Int.eq_ofNat_of_zero_le h2
    have HC:=amk (slices_Clone_impl_Clue_impl_Clue.calls A0 c0 l0 l0 w hr0 hc0 (slices_Clone_impl_Clue_impl_Clue.is h1))
    obtain ⟨n,hn⟩ : ∃ n,l0.length=n + 1:=⟨l0.length - 1,by omega⟩
    have HN:=amk hn
    have HK:=amk (show k < n + 1 by omega)
    have HKW:=amk (show wrap64 ((k:Int) + 1)=(k:Int) + 1 from w64 (by omega) (by omega))
    have hk0:(k:Int) + 1≤9223372036854775807:=by omega
    clear hr0 hc0 h1 h2 h3 hn
    go_enter Try.func64,Try.ntmps64
    go_wp2_with (first | (go_at_call 63;refine HC.out.mono ?_;rintro e w1 ⟨v,rfl,hr1,hb1⟩;obtain ⟨g,cap,rfl⟩:=row_form hr1 HN.out;have HR1:=amk hr1;have HB1:=amk hb1;clear hr1 hb1) | (go_at_call 89;refine (slices_Delete_impl_Clue_impl_Clue_own w _ w.heap.size g cap k n (fun _=>True) l0 HN.out HK.out HR1.out HB1.out HB1.out.size).mono ?_;rintro e w2 ⟨rfl,hr2,hb2⟩;have HR2:=amk hr2;have HB2:=amk hb2;clear hr2 hb2))
    go_ret
    exact ⟨_,rfl,HR2.out,HB2.out⟩
  · rw [if_neg hl] at h
    cases h
theorem impl_but.is {l:List S44} {k:Int} (h:l.length < 5864062014805) (h0:0≤k) (h1:k < l.length):impl_but.f l k=some (l.eraseIdx k.toNat):=by unfold impl_but.f;rw [if_pos ⟨h,h0,h1⟩]
/-! ### impl_DropClue: function 27 -/
def impl_DropClue.f (a0_0:Int) (a0_1:Int) (l0_2:List (S44)) (a1:Int):Option (Int×Int×(List (S44))×Bool):=(impl_IsPuzzle.f a0_0 a0_1 l0_2).bind fun t707=>(if t707=true then ((impl_within.f a1 0 (wrap64 ((l0_2.length:Int) - 1))).bind fun t708=>(if t708=true then ((impl_but.f l0_2 a1).bind fun t709=>(some (a0_0,a0_1,t709,true))) else (some (0,0,([]:List (S44)),false)))) else (some (0,0,([]:List (S44)),false)))
def impl_DropClue.T3:Bool×List (List Nat×List Nat):=(true,[([],[]),([0],[0]),([],[]),([2],[2]),([],[]),([3,4],[3,4]),([1,5],[1,5]),([6,5,0,1,2,3,4,5,6],[6]),([7,0,1,2,3,4,5,6,7],[])])
def impl_DropClue.B3:List Nat:=[0,1,0,4,0,28,63,127,255]
theorem impl_DropClue.tab3:rtab .any (opsOf Try.f27 3)=impl_DropClue.T3:=by kernel_rfl
theorem impl_DropClue.bits3:waitsOk impl_DropClue.T3.2 impl_DropClue.B3=true:=by kernel_rfl
set_option maxHeartbeats 8000000 in
set_option maxRecDepth 100000 in
theorem impl_DropClue.calls (a0_0:Int) (a0_1:Int) (A0_2:Option Addr) (c0_2:Nat) (l0_2:List (S44)) (a1:Int) (r1:Int) (r2:Int) (r3:List (S44)) (r4:Bool) (w:World) (hr0_2:Kd.C k44 w A0_2 l0_2.length l0_2) (hc0_2:l0_2.length≤c0_2) (h:impl_DropClue.f a0_0 a0_1 l0_2 a1=some (r1,r2,r3,r4)) :
    Calls Try.prog 27 #[.agg #[.int .i64 a0_0, .int .i64 a0_1, .slice A0_2 l0_2.length c0_2], .int .i64 a1] w fun e w'=> ∃ v2_:Value,e = .returned (.tuple #[.agg #[.int .i64 r1, .int .i64 r2,v2_], .bool r4])∧Kd.R k44 44 w' w.heap.size (fun _=>True) v2_ r3∧Below w.heap.size w w':=by
  have hu30:=Try.underlying30;have hu25:=Try.underlying25;have HR0_2:=amk hr0_2;have HC0_2:=amk hc0_2;clear hr0_2 hc0_2;have HB:=amk (Below.refl w.heap.size w);unfold impl_DropClue.f at h;have H:=h;clear h;replace H:=bE H;obtain ⟨t707,A3,H⟩:=H;replace H:=iteB H;obtain ⟨rfl,H⟩ | ⟨rfl,H⟩:=H
  · replace H:=bE H;obtain ⟨t708,A5,H⟩:=H;replace H:=iteB H;obtain ⟨rfl,H⟩ | ⟨rfl,H⟩:=H
    · replace H:=bE H;obtain ⟨t709,A7,H⟩:=H;simp only [Option.some.injEq,Prod.mk.injEq] at H;obtain ⟨rfl,rfl,rfl,rfl⟩:=H;go_enter Try.func27,Try.ntmps27;(try go_wp2_with (first | ((with_reducible refine gate_dst (N:=2) rfl ?_);(try (refine gate_guard (by rfl) ?_;dsimp only));refine boxE_ HB 2 #[.int .i64 a0_0, .int .i64 a0_1, .slice A0_2 l0_2.length c0_2] 30 ?_;clear HB;intro gb705 w8 HB BK705 GW705 GE705 hb;clear hb) | ((with_reducible refine gate_dst (N:=4) rfl ?_);(try (refine gate_guard (by rfl) ?_;dsimp only));refine boxG_ 4 #[.int .i64 0, .int .i64 0, .slice none 0 0] 30 ?_;intro gb706 w9 hg BK706 hb;have GW706:=sZ HB hg;have GE706:=sZ HB hg;replace HB:=hB2 HB hb;have NB705_706:=neL BK705 hg;have NB706_705:=neR BK705 hg;replace BK705:=kb2 BK705 hb;clear hb hg;have hnb10:=NB705_706.out;have hnc10:=NB706_705.out;obtain ⟨hcz11_0,hcz11_1,hcz11_2,hfz11_0,hfz11_1,hfz11_2⟩:=cells3 BK705.out) | (refine gc_ 15 7 Try.func15 #[.agg #[.int .i64 a0_0, .int .i64 a0_1, .slice A0_2 l0_2.length c0_2]] ?_;(with_reducible refine (impl_IsPuzzle.calls a0_0 a0_1 _ _ l0_2 true _ ?_ ?_ A3.out).mono ?_);exact cB (Kd.C_below HR0_2.out HB.out);exact HC0_2.out;rintro e w12 ⟨rfl,hb⟩;refine ⟨_,rfl,?_⟩;replace BK705:=kb2 BK705 hb;replace BK706:=kb2 BK706 hb;replace HB:=hB2 HB hb;(try clear hb);obtain ⟨hcz13_0,hcz13_1,hcz13_2,hfz13_0,hfz13_1,hfz13_2⟩:=cells3 BK705.out) | (go_at_call 42;(with_reducible refine (impl_within.calls a1 0 (wrap64 ((l0_2.length:Int) - 1)) true _ A5.out).mono ?_);rintro e w' ⟨rfl,⟨nd,rfl⟩⟩;(try (rw [drewN_self w12];generalize hq_:World.drewN w12 _=w12;replace BK705:Aside0 (w12.heap[gb705]?=some (.cells #[.int .i64 a0_0, .int .i64 a0_1, .slice A0_2 l0_2.length c0_2] 30 (0,0))):=⟨by rw [←hq_];exact (kB BK705)⟩;replace BK706:Aside0 (w12.heap[gb706]?=some (.cells #[.int .i64 0, .int .i64 0, .slice none 0 0] 30 (0,0))):=⟨by rw [←hq_];exact (kB BK706)⟩;replace HB:Aside0 (Below w.heap.size w w12):=⟨by rw [←hq_];exact bB⟩;clear hq_)))));replace BK705:=amk (blk_drew BK705.out);replace BK706:=amk (blk_drew BK706.out);replace HB:=amk (bd_ HB.out);refine start_ (n:=9) (S:=fun w'=>w'.cell? ⟨gb705,0,none⟩=some (.int .i64 a0_0)∧w'.cell? ⟨gb705,1,none⟩=some (.int .i64 a0_1)∧w'.cell? ⟨gb705,2,none⟩=some (.slice A0_2 l0_2.length c0_2)) (ds:=[]) (bA 9 0) (by kernel_rfl) rfl rfl ⟨(blk_cell BK705.out 0).trans rfl,(blk_cell BK705.out 1).trans rfl,(blk_cell BK705.out 2).trans rfl⟩ (fun hHeld=>?_);refine with_tabW impl_DropClue.tab3 impl_DropClue.bits3 (fun HT_ HW_=>?_);generalize w12.drew=w14 at BK705 BK706 HB hHeld ⊢;refine pU_ HT_ 0 (some 19) (bA 9 1) ?_;refine pU_ HT_ 2 (some 21) (bA 9 5) ?_;refine pU_ HT_ 4 (some 23) (bA 9 21) ?_;refine tK_ HT_ HW_ hHeld 1 (some 20) (bA 9 23) ?_;refine tK_ HT_ HW_ hHeld 3 (some 22) (bA 9 31) ?_;refine oN_ HT_ 5 (some 24) (bA 9 63) (fun K hK=>?_);refine gs_ Try.func64 #[.slice A0_2 l0_2.length c0_2, .int .i64 a1] ?_;(with_reducible refine (impl_but.calls _ _ l0_2 a1 t709 _ ?_ ?_ A7.out).mono ?_);exact cB (Kd.C_below HR0_2.out HB.out);exact HC0_2.out;rintro e w15 ⟨v710,rfl,ho0,hb⟩;refine ⟨_,rfl,?_⟩;have HO711:=amk (Kd.R_lower ho0 (below_size bB));replace BK705:=kb2 BK705 hb;replace BK706:=kb2 BK706 hb;replace HB:=hB2 HB hb;(try clear hb);(try clear ho0);obtain ⟨Ao16,co16,eo16⟩:=Kd.R_slice HO711.out;(first | subst eo16 | (injection eo16 with f1_ f2_ f3_;have f4_:=f1_.symm;have f5_:=f3_.symm;clear f1_ f2_ f3_;subst f4_;subst f5_));refine hK.out _ _ hC_ (fun hHeld=>?_);clear hK K;refine nN_ (some 24) ?_;refine pU_ HT_ 6 (some 25) (bA 9 127) ?_;refine oN_ HT_ 7 none (bA 9 255) (fun K hK=>?_);have hs17:w15.cell? ⟨gb706,0,none⟩=some (.int .i64 0):=(blk_cell BK706.out 0).trans rfl;have hfs17:=blk_frozen BK706.out 0;have hns17_0:=NB705_706.out;have hms17_0:=NB706_705.out;have hs18:w15.cell? ⟨gb706,1,none⟩=some (.int .i64 0):=(blk_cell BK706.out 1).trans rfl;have hfs18:=blk_frozen BK706.out 1;have hns18_0:=NB705_706.out;have hms18_0:=NB706_705.out;have hs19:w15.cell? ⟨gb706,2,none⟩=some (.slice none 0 0):=(blk_cell BK706.out 2).trans rfl;have hfs19:=blk_frozen BK706.out 2;have hns19_0:=NB705_706.out;have hms19_0:=NB706_705.out;refine skip_ (w1:=?_) (by rfl) rfl ?_ ?_;rotate_left
      · go_simp
        rfl
      refine hK.out _ _ ⟨((cell_far (p:=⟨gb706,_,none⟩) NB705_706.out _).trans (((cell_far (p:=⟨gb706,_,none⟩) NB705_706.out _).trans (((cell_far (p:=⟨gb706,_,none⟩) NB705_706.out _).trans (hHeld.1)))))),((cell_far (p:=⟨gb706,_,none⟩) NB705_706.out _).trans (((cell_far (p:=⟨gb706,_,none⟩) NB705_706.out _).trans (((cell_far (p:=⟨gb706,_,none⟩) NB705_706.out _).trans (hHeld.2.1)))))),((cell_far (p:=⟨gb706,_,none⟩) NB705_706.out _).trans (((cell_far (p:=⟨gb706,_,none⟩) NB705_706.out _).trans (((cell_far (p:=⟨gb706,_,none⟩) NB705_706.out _).trans (hHeld.2.2))))))⟩ (fun hHeld=>?_);clear hK K;refine pU_ HT_ 8 (some 5) (bA 9 511) ?_;refine done_ (done_of HT_.out (by kernel_rfl)) ?_;(try go_wp2);refine bodyPost_ret (results_ct rfl _ _ gb706 30 #[.int .i64 a0_0, .int .i64 a0_1, .slice Ao16 t709.length co16] (0,0) _ rfl (kP BK706) Try.underlying30 rfl (by kernel_rfl)) rfl ?_;exact ⟨_,rF_,by (with_reducible repeat (first | apply Kd.R_alloc | apply Kd.R_drewN | apply Kd.R_drew));exact Kd.R_mono (Kd.R_far (p:=⟨gb706,2,none⟩) (Kd.R_far (p:=⟨gb706,1,none⟩) (Kd.R_far (p:=⟨gb706,0,none⟩) (Kd.R_types HO711.out BK706.out (by decide)) (fun _ hk=>hk.2) (.int .i64 a0_0)) (fun _ hk=>hk.2) (.int .i64 a0_1)) (fun _ hk=>hk.2) (.slice Ao16 t709.length co16)) (fun _ hk=>trivial),bB⟩
    · simp only [Option.some.injEq,Prod.mk.injEq] at H;obtain ⟨rfl,rfl,rfl,rfl⟩:=H;go_enter Try.func27,Try.ntmps27;go_wp2_with (first | ((with_reducible refine gate_dst (N:=2) rfl ?_);(try (refine gate_guard (by rfl) ?_;dsimp only));refine boxE_ HB 2 #[.int .i64 a0_0, .int .i64 a0_1, .slice A0_2 l0_2.length c0_2] 30 ?_;clear HB;intro gb705 w20 HB BK705 GW705 GE705 hb;clear hb) | ((with_reducible refine gate_dst (N:=4) rfl ?_);(try (refine gate_guard (by rfl) ?_;dsimp only));refine boxG_ 4 #[.int .i64 0, .int .i64 0, .slice none 0 0] 30 ?_;intro gb706 w21 hg BK706 hb;have GW706:=sZ HB hg;have GE706:=sZ HB hg;replace HB:=hB2 HB hb;have NB705_706:=neL BK705 hg;have NB706_705:=neR BK705 hg;replace BK705:=kb2 BK705 hb;clear hb hg;have hnb22:=NB705_706.out;have hnc22:=NB706_705.out;obtain ⟨hcz23_0,hcz23_1,hcz23_2,hfz23_0,hfz23_1,hfz23_2⟩:=cells3 BK705.out) | (refine gc_ 15 7 Try.func15 #[.agg #[.int .i64 a0_0, .int .i64 a0_1, .slice A0_2 l0_2.length c0_2]] ?_;(with_reducible refine (impl_IsPuzzle.calls a0_0 a0_1 _ _ l0_2 true _ ?_ ?_ A3.out).mono ?_);exact cB (Kd.C_below HR0_2.out HB.out);exact HC0_2.out;rintro e w24 ⟨rfl,hb⟩;refine ⟨_,rfl,?_⟩;replace BK705:=kb2 BK705 hb;replace BK706:=kb2 BK706 hb;replace HB:=hB2 HB hb;(try clear hb);obtain ⟨hcz25_0,hcz25_1,hcz25_2,hfz25_0,hfz25_1,hfz25_2⟩:=cells3 BK705.out) | (go_at_call 42;(with_reducible refine (impl_within.calls a1 0 (wrap64 ((l0_2.length:Int) - 1)) false _ A5.out).mono ?_);rintro e w' ⟨rfl,⟨nd,rfl⟩⟩;(try (rw [drewN_self w24];generalize hq_:World.drewN w24 _=w24;replace BK705:Aside0 (w24.heap[gb705]?=some (.cells #[.int .i64 a0_0, .int .i64 a0_1, .slice A0_2 l0_2.length c0_2] 30 (0,0))):=⟨by rw [←hq_];exact (kB BK705)⟩;replace BK706:Aside0 (w24.heap[gb706]?=some (.cells #[.int .i64 0, .int .i64 0, .slice none 0 0] 30 (0,0))):=⟨by rw [←hq_];exact (kB BK706)⟩;replace HB:Aside0 (Below w.heap.size w w24):=⟨by rw [←hq_];exact bB⟩;clear hq_));obtain ⟨hcz26_0,hcz26_1,hcz26_2,hfz26_0,hfz26_1,hfz26_2⟩:=cells3 BK706.out));refine bodyPost_ret (results_ct rfl _ _ gb706 30 #[.int .i64 0, .int .i64 0, .slice none 0 0] (0,0) _ rfl (kP BK706) Try.underlying30 rfl (by kernel_rfl)) rfl ?_;exact ⟨_,rF_,xN_,bB⟩
  · simp only [Option.some.injEq,Prod.mk.injEq] at H;obtain ⟨rfl,rfl,rfl,rfl⟩:=H;go_enter Try.func27,Try.ntmps27;go_wp2_with (first | ((with_reducible refine gate_dst (N:=2) rfl ?_);(try (refine gate_guard (by rfl) ?_;dsimp only));refine boxE_ HB 2 #[.int .i64 a0_0, .int .i64 a0_1, .slice A0_2 l0_2.length c0_2] 30 ?_;clear HB;intro gb705 w27 HB BK705 GW705 GE705 hb;clear hb) | ((with_reducible refine gate_dst (N:=4) rfl ?_);(try (refine gate_guard (by rfl) ?_;dsimp only));refine boxG_ 4 #[.int .i64 0, .int .i64 0, .slice none 0 0] 30 ?_;intro gb706 w28 hg BK706 hb;have GW706:=sZ HB hg;have GE706:=sZ HB hg;replace HB:=hB2 HB hb;have NB705_706:=neL BK705 hg;have NB706_705:=neR BK705 hg;replace BK705:=kb2 BK705 hb;clear hb hg;have hnb29:=NB705_706.out;have hnc29:=NB706_705.out;obtain ⟨hcz30_0,hcz30_1,hcz30_2,hfz30_0,hfz30_1,hfz30_2⟩:=cells3 BK705.out) | (refine gc_ 15 7 Try.func15 #[.agg #[.int .i64 a0_0, .int .i64 a0_1, .slice A0_2 l0_2.length c0_2]] ?_;(with_reducible refine (impl_IsPuzzle.calls a0_0 a0_1 _ _ l0_2 false _ ?_ ?_ A3.out).mono ?_);exact cB (Kd.C_below HR0_2.out HB.out);exact HC0_2.out;rintro e w31 ⟨rfl,hb⟩;refine ⟨_,rfl,?_⟩;replace BK705:=kb2 BK705 hb;replace BK706:=kb2 BK706 hb;replace HB:=hB2 HB hb;(try clear hb);obtain ⟨hcz32_0,hcz32_1,hcz32_2,hfz32_0,hfz32_1,hfz32_2⟩:=cells3 BK706.out));refine bodyPost_ret (results_ct rfl _ _ gb706 30 #[.int .i64 0, .int .i64 0, .slice none 0 0] (0,0) _ rfl (kP BK706) Try.underlying30 rfl (by kernel_rfl)) rfl ?_;exact ⟨_,rF_,xN_,bB⟩
/-! ### impl_FewestTurns: function 11 -/
def impl_FewestTurns.f (k:Nat) (a0_0:Int) (a0_1:Int) (a1:ByteArray) (a2:ByteArray):Option (Int×Bool):=(impl_has.f k a0_0 a0_1 (([a1,a2]:List ByteArray))).bind fun t437=>(if t437=true then ((impl_Lock_distance.f k a0_0 a0_1 a1 a2).bind fun t438=>(some (t438,true))) else (some (0,false)))
set_option maxHeartbeats 8000000 in
set_option maxRecDepth 100000 in
theorem impl_FewestTurns.calls (k:Nat) (a0_0:Int) (a0_1:Int) (a1:ByteArray) (a2:ByteArray) (r1:Int) (r2:Bool) (w:World) (h:impl_FewestTurns.f k a0_0 a0_1 a1 a2=some (r1,r2)) :
    Calls Try.prog 11 #[.agg #[.int .i64 a0_0, .int .i64 a0_1], .string a1, .string a2] w fun e w'=>e = .returned (.tuple #[.int .i64 r1, .bool r2])∧Below w.heap.size w w':=by
  have hu25:=Try.underlying25;have HB:=amk (Below.refl w.heap.size w);unfold impl_FewestTurns.f at h;have H:=h;clear h;(try rw [Option.bind_some] at H);generalize hy434:(([a1,a2]:List ByteArray))=y434 at H;have Ny434:=amk hy434.symm;clear hy434;replace H:=bE H;obtain ⟨t437,A4,H⟩:=H;replace H:=iteB H;obtain ⟨rfl,H⟩ | ⟨rfl,H⟩:=H
  · replace H:=bE H;obtain ⟨t438,A6,H⟩:=H;simp only [Option.some.injEq,Prod.mk.injEq] at H;obtain ⟨rfl,rfl⟩:=H;go_enter Try.func11,Try.ntmps11;go_wp2_with (first | ((with_reducible refine gate_dst (N:=3) rfl ?_);refine boxE_ HB 3 #[.int .i64 a0_0, .int .i64 a0_1] 25 ?_;clear HB;intro gb433 w7 HB BK433 GW433 GE433 hb;clear hb;obtain ⟨hcz8_0,hcz8_1,hfz8_0,hfz8_1⟩:=cells2 BK433.out) | ((with_reducible refine gate_dst (N:=11) rfl ?_);refine Kd.R_lit Kd.string _ 9 ?hg (N:=11) ?hd (xs:=([a1,a2]:List ByteArray)) (inner:=[.string a1, .string a2]) (ok:=fun _=>True) (okp:=fun _=>True) ?hr ?hp (fun _ hk=>hk) trivial (Below.refl _ _) (Nat.le_refl _) (by simp) ?_;(case hd=>rfl);(case hg=>rfl);(case hr=>first | (go_simp;done) | (go_simp;rfl));(case hp=>exact (Reps.one (show Kd.M Kd.string _ _ _ a1 [.string a1] from rfl) (Reps.one (show Kd.M Kd.string _ _ _ a2 [.string a2] from rfl) (Reps.none _ _))));intro v435 w9 ho10 hb hg_ hnew_;clear hg_ hnew_;(first | rw [←Ny434.out] at ho10 | (simp only [Int.reduceToNat] at ho10;rw [←Ny434.out] at ho10));have HO436:=amk (Kd.R_lower ho10 (below_size bB));replace BK433:=kb2 BK433 hb;replace HB:=hB2 HB hb;clear hb ho10;obtain ⟨Ao11,co11,eo11⟩:=Kd.R_slice HO436.out;subst eo11) | (refine gc_ 41 12 Try.func41 #[.agg #[.int .i64 a0_0, .int .i64 a0_1], .slice Ao11 y434.length co11] ?_;(with_reducible refine (impl_has.calls k a0_0 a0_1 _ _ y434 true _ ?_ ?_ A4.out).mono ?_);exact cB ((Kd.R_reads' HO436.out).2.2);exact (Kd.R_reads' HO436.out).2.1;rintro e w12 ⟨rfl,hb⟩;refine ⟨_,rfl,?_⟩;replace HO436:=amk (Kd.R_below (oX HO436) hb);replace BK433:=kb2 BK433 hb;replace HB:=hB2 HB hb;(try clear hb);obtain ⟨hcz13_0,hcz13_1,hfz13_0,hfz13_1⟩:=cells2 BK433.out) | (refine gc_ 55 17 Try.func55 #[.agg #[.int .i64 a0_0, .int .i64 a0_1], .string a1, .string a2] ?_;(with_reducible refine (impl_Lock_distance.calls k a0_0 a0_1 a1 a2 t438 _ A6.out).mono ?_);rintro e w14 ⟨rfl,hb⟩;refine ⟨_,rfl,?_⟩;replace HO436:=amk (Kd.R_below (oX HO436) hb);replace BK433:=kb2 BK433 hb;replace HB:=hB2 HB hb;(try clear hb)));go_ret2;exact ⟨rF_,bB⟩
  · simp only [Option.some.injEq,Prod.mk.injEq] at H;obtain ⟨rfl,rfl⟩:=H;go_enter Try.func11,Try.ntmps11;go_wp2_with (first | ((with_reducible refine gate_dst (N:=3) rfl ?_);refine boxE_ HB 3 #[.int .i64 a0_0, .int .i64 a0_1] 25 ?_;clear HB;intro gb433 w15 HB BK433 GW433 GE433 hb;clear hb;obtain ⟨hcz16_0,hcz16_1,hfz16_0,hfz16_1⟩:=cells2 BK433.out) | ((with_reducible refine gate_dst (N:=11) rfl ?_);refine Kd.R_lit Kd.string _ 9 ?hg (N:=11) ?hd (xs:=([a1,a2]:List ByteArray)) (inner:=[.string a1, .string a2]) (ok:=fun _=>True) (okp:=fun _=>True) ?hr ?hp (fun _ hk=>hk) trivial (Below.refl _ _) (Nat.le_refl _) (by simp) ?_;(case hd=>rfl);(case hg=>rfl);(case hr=>first | (go_simp;done) | (go_simp;rfl));(case hp=>exact (Reps.one (show Kd.M Kd.string _ _ _ a1 [.string a1] from rfl) (Reps.one (show Kd.M Kd.string _ _ _ a2 [.string a2] from rfl) (Reps.none _ _))));intro v435 w17 ho18 hb hg_ hnew_;clear hg_ hnew_;(first | rw [←Ny434.out] at ho18 | (simp only [Int.reduceToNat] at ho18;rw [←Ny434.out] at ho18));have HO436:=amk (Kd.R_lower ho18 (below_size bB));replace BK433:=kb2 BK433 hb;replace HB:=hB2 HB hb;clear hb ho18;obtain ⟨Ao19,co19,eo19⟩:=Kd.R_slice HO436.out;subst eo19) | (refine gc_ 41 12 Try.func41 #[.agg #[.int .i64 a0_0, .int .i64 a0_1], .slice Ao19 y434.length co19] ?_;(with_reducible refine (impl_has.calls k a0_0 a0_1 _ _ y434 false _ ?_ ?_ A4.out).mono ?_);exact cB ((Kd.R_reads' HO436.out).2.2);exact (Kd.R_reads' HO436.out).2.1;rintro e w20 ⟨rfl,hb⟩;refine ⟨_,rfl,?_⟩;replace HO436:=amk (Kd.R_below (oX HO436) hb);replace BK433:=kb2 BK433 hb;replace HB:=hB2 HB hb;(try clear hb)));go_ret2;exact ⟨rF_,bB⟩
/-! ### impl_Lock_solutions: function 52 -/
def impl_Lock_solutions.l0:Nat→List (S44)→List ByteArray→Int→Int→Int→Int→Option (List ByteArray)
  | 0,_,_,_,_,_,_=>none
  | k + 1,x1,x5,x10,x11,x119000,x119001=>if x11 < x10 then ((impl_Lock_code.f x119000 x119001 x11).bind fun t123=>((impl_Lock_fit.f k x119000 x119001 x1 t123).bind fun t124=>(if t124=true then (if x5.length < 8796093022208 then (impl_Lock_solutions.l0 k x1 (x5 ++ [t123]) x10 (wrap64 (x11 + 1)) x119000 x119001) else (none)) else (impl_Lock_solutions.l0 k x1 x5 x10 (wrap64 (x11 + 1)) x119000 x119001)))) else (some x5)
def impl_Lock_solutions.f (k:Nat) (a0_0:Int) (a0_1:Int) (l1:List (S44)):Option (List ByteArray):=(impl_Lock_count.f k a0_0 a0_1).bind fun t122=>(impl_Lock_solutions.l0 k l1 (([]:List ByteArray)) t122 0 a0_0 a0_1)
set_option maxHeartbeats 8000000 in
set_option maxRecDepth 100000 in
theorem impl_Lock_solutions.calls (k:Nat) (a0_0:Int) (a0_1:Int) (A1:Option Addr) (c1:Nat) (l1:List (S44)) (r:List ByteArray) (w:World) (hr1:Kd.C k44 w A1 l1.length l1) (hc1:l1.length≤c1) (h:impl_Lock_solutions.f k a0_0 a0_1 l1=some r) :
    Calls Try.prog 52 #[.agg #[.int .i64 a0_0, .int .i64 a0_1], .slice A1 l1.length c1] w fun e w'=> ∃ v0_:Value,e = .returned (v0_)∧Kd.R Kd.string 9 w' w.heap.size (fun _=>True) v0_ r∧Below w.heap.size w w':=by
  have hu25:=Try.underlying25;have HR1:=amk hr1;have HC1:=amk hc1;clear hr1 hc1;have HB:=amk (Below.refl w.heap.size w);unfold impl_Lock_solutions.f at h;have H:=h;clear h;(try rw [Option.bind_some] at H);generalize hy119:(([]:List ByteArray))=y119 at H;have Ny119:=amk hy119.symm;clear hy119;replace H:=bE H;obtain ⟨t122,A3,H⟩:=H;have H':=amk H;clear H;go_enter Try.func52,Try.ntmps52;go_wp2_with (first | ((with_reducible refine gate_dst (N:=2) rfl ?_);refine boxE_ HB 2 #[.int .i64 a0_0, .int .i64 a0_1] 25 ?_;clear HB;intro gb118 w4 HB BK118 GW118 GE118 hb;clear hb) | ((with_reducible refine gate_dst (N:=8) rfl ?_);refine Kd.R_lit Kd.string _ 9 ?hg (N:=8) ?hd (xs:=([]:List ByteArray)) (inner:=[]) (ok:=fun _=>True) (okp:=fun _=>True) ?hr ?hp (fun _ hk=>hk) trivial (Below.refl _ _) (Nat.le_refl _) (by simp) ?_;(case hd=>rfl);(case hg=>rfl);(case hr=>first | (go_simp;done) | (go_simp;rfl));(case hp=>exact (Reps.none _ _));intro v120 w5 ho6 hb hg_ hnew_;clear hg_ hnew_;(first | rw [←Ny119.out] at ho6 | (simp only [Int.reduceToNat] at ho6;rw [←Ny119.out] at ho6));have HO121:=amk (Kd.R_lower ho6 (below_size bB));replace BK118:=kb2 BK118 hb;replace HB:=hB2 HB hb;clear hb ho6;obtain ⟨hcz7_0,hcz7_1,hfz7_0,hfz7_1⟩:=cells2 BK118.out) | (refine gc_ 44 10 Try.func44 #[.agg #[.int .i64 a0_0, .int .i64 a0_1]] ?_;(with_reducible refine (impl_Lock_count.calls k a0_0 a0_1 t122 _ A3.out).mono ?_);rintro e w8 ⟨rfl,hb⟩;refine ⟨_,rfl,?_⟩;replace HO121:=amk (Kd.R_below (oX HO121) hb);replace BK118:=kb2 BK118 hb;replace HB:=hB2 HB hb;(try clear hb)))
  go_loopg [5,11] k (fun kq v5 v11 w'=> ∃ (x5_1:List ByteArray) (x11_1:Int),v11 = .int .i64 x11_1∧Aside0 (impl_Lock_solutions.l0 kq l1 x5_1 t122 x11_1 a0_0 a0_1=some r)∧Aside0 (kq≤k)∧Aside0 (Kd.R Kd.string 9 w' w.heap.size (fun _=>True) v5 x5_1)∧Aside0 (w'.heap[gb118]?=some (.cells #[.int .i64 a0_0, .int .i64 a0_1] 25 (0,0)))∧Aside0 (Below w.heap.size w w'))
  case atStart=>exact ⟨(y119),(0),rS_,H',⟨Nat.le_refl _⟩,⟨oX HO121⟩,⟨kB BK118⟩,⟨bB⟩⟩
  case round =>
    clear H';(try clear c1);(try clear p2);(try clear c4);(try clear c5);(try clear hcz7_0);(try clear hcz7_1);(try clear hfz7_0);(try clear hfz7_1);obtain ⟨x5_1,x11_1,rfl,HA,HK1,HO_5,BK118,HB⟩:=hrel
    cases gk with
    | zero=>exact absurd HA.out (by simp [impl_Lock_solutions.l0])
    | succ k1 =>
      have H:=HA.out;clear HA;simp only [impl_Lock_solutions.l0] at H;replace H:=iteE H;obtain ⟨c9b0,H⟩ | ⟨c9b0,H⟩:=H
      · replace H:=bE H;obtain ⟨t123,A10,H⟩:=H;replace H:=bE H;obtain ⟨t124,A11,H⟩:=H;replace H:=iteB H;obtain ⟨rfl,H⟩ | ⟨rfl,H⟩:=H
        · by_cases c13:x5_1.length < 8796093022208
          · rw [if_pos c13] at H;have LMc13:=amk c13;clear c13;(try rw [Option.bind_some] at H);generalize hy125:((x5_1 ++ [t123]):List ByteArray)=y125 at H;have Ny125:=amk hy125.symm;clear hy125;have H':=amk H;clear H;obtain ⟨hcz14_0,hcz14_1,hfz14_0,hfz14_1⟩:=cells2 BK118.out;go_wp2_with (first | (refine gc_ 54 16 Try.func54 #[.agg #[.int .i64 a0_0, .int .i64 a0_1], .int .i64 x11_1] ?_;(with_reducible refine (impl_Lock_code.calls a0_0 a0_1 x11_1 t123 _ A10.out).mono ?_);rintro e w15 ⟨rfl,hb⟩;refine ⟨_,rfl,?_⟩;replace HO_5:=amk (Kd.R_below (oX HO_5) hb);replace BK118:=kb2 BK118 hb;replace HB:=hB2 HB hb;(try clear hb);obtain ⟨hcz16_0,hcz16_1,hfz16_0,hfz16_1⟩:=cells2 BK118.out) | (refine gc_ 56 20 Try.func56 #[.agg #[.int .i64 a0_0, .int .i64 a0_1], .slice A1 l1.length c1, .string t123] ?_;(with_reducible refine (impl_Lock_fit.calls k1 a0_0 a0_1 _ _ l1 t123 true _ ?_ ?_ A11.out).mono ?_);exact cB (Kd.C_below HR1.out HB.out);exact HC1.out;rintro e w17 ⟨rfl,hb⟩;refine ⟨_,rfl,?_⟩;replace HO_5:=amk (Kd.R_below (oX HO_5) hb);replace BK118:=kb2 BK118 hb;replace HB:=hB2 HB hb;(try clear hb)) | ((with_reducible refine gate_builtin (b:= .append) (xs:= #[.tmp 21, .tmp 23]) rfl ?_);at_builtin;refine Kd.R_append Kd.string (w0:=w) w.heap.size rfl (.tmp 21) (.tmp 23) 34 9 (.string ⟨#[]⟩) 16 rfl Try.underlying34 info9 rfl (by decide) (by omega) u5 x5_1 t123 [.string t123] (fun _=>True) (fun _=>False) rfl rfl rfl (fun _ hk=>hk.elim) (fun _ _=>trivial) (oX HO_5) bB (below_size bB) (by have:=LMc13.out;omega) ?_;intro v126 w18 ho hb hg hat;rw [←Ny125.out] at ho;replace BK118:=bG BK118 hg (Kd.R_ne HO_5.out BK118.out (by decide));replace HB:=amk (hb);have HO127:=amk (ho);clear HO_5;clear ho hb hg hat));go_roundg k1
            case measure=>have:=HK1.out;omega
            case rel=>exact ⟨(y125),(wrap64 (x11_1 + 1)),rS_,H',⟨by have:=HK1.out;omega⟩,⟨oX HO127⟩,⟨kB BK118⟩,⟨bB⟩⟩
          · rw [if_neg c13] at H;exact absurd H (by simp)
        · have H':=amk H;clear H;obtain ⟨hcz19_0,hcz19_1,hfz19_0,hfz19_1⟩:=cells2 BK118.out;go_wp2_with (first | (refine gc_ 54 16 Try.func54 #[.agg #[.int .i64 a0_0, .int .i64 a0_1], .int .i64 x11_1] ?_;(with_reducible refine (impl_Lock_code.calls a0_0 a0_1 x11_1 t123 _ A10.out).mono ?_);rintro e w20 ⟨rfl,hb⟩;refine ⟨_,rfl,?_⟩;replace HO_5:=amk (Kd.R_below (oX HO_5) hb);replace BK118:=kb2 BK118 hb;replace HB:=hB2 HB hb;(try clear hb);obtain ⟨hcz21_0,hcz21_1,hfz21_0,hfz21_1⟩:=cells2 BK118.out) | (refine gc_ 56 20 Try.func56 #[.agg #[.int .i64 a0_0, .int .i64 a0_1], .slice A1 l1.length c1, .string t123] ?_;(with_reducible refine (impl_Lock_fit.calls k1 a0_0 a0_1 _ _ l1 t123 false _ ?_ ?_ A11.out).mono ?_);exact cB (Kd.C_below HR1.out HB.out);exact HC1.out;rintro e w22 ⟨rfl,hb⟩;refine ⟨_,rfl,?_⟩;replace HO_5:=amk (Kd.R_below (oX HO_5) hb);replace BK118:=kb2 BK118 hb;replace HB:=hB2 HB hb;(try clear hb)));go_roundg k1
          case measure=>have:=HK1.out;omega
          case rel=>exact ⟨(x5_1),(wrap64 (x11_1 + 1)),rS_,H',⟨by have:=HK1.out;omega⟩,⟨oX HO_5⟩,⟨kB BK118⟩,⟨bB⟩⟩
      · obtain rfl:=Option.some.inj H;go_wp2;go_ret;exact ⟨_,rF_,oX HO_5,bB⟩
/-! ### impl_Solutions: function 9 -/
def impl_Solutions.f (k:Nat) (a0_0:Int) (a0_1:Int) (l0_2:List (S44)):Option (List ByteArray×Bool):=(impl_IsPuzzle.f a0_0 a0_1 l0_2).bind fun t129=>(if t129=true then ((impl_Lock_solutions.f k a0_0 a0_1 l0_2).bind fun t130=>(some (t130,true))) else (some (([]:List ByteArray),false)))
set_option maxHeartbeats 8000000 in
set_option maxRecDepth 100000 in
theorem impl_Solutions.calls (k:Nat) (a0_0:Int) (a0_1:Int) (A0_2:Option Addr) (c0_2:Nat) (l0_2:List (S44)) (r1:List ByteArray) (r2:Bool) (w:World) (hr0_2:Kd.C k44 w A0_2 l0_2.length l0_2) (hc0_2:l0_2.length≤c0_2) (h:impl_Solutions.f k a0_0 a0_1 l0_2=some (r1,r2)) :
    Calls Try.prog 9 #[.agg #[.int .i64 a0_0, .int .i64 a0_1, .slice A0_2 l0_2.length c0_2]] w fun e w'=> ∃ v0_:Value,e = .returned (.tuple #[v0_, .bool r2])∧Kd.R Kd.string 9 w' w.heap.size (fun _=>True) v0_ r1∧Below w.heap.size w w':=by
  have hu30:=Try.underlying30;have hu25:=Try.underlying25;have HR0_2:=amk hr0_2;have HC0_2:=amk hc0_2;clear hr0_2 hc0_2;have HB:=amk (Below.refl w.heap.size w);unfold impl_Solutions.f at h;have H:=h;clear h;replace H:=bE H;obtain ⟨t129,A2,H⟩:=H;replace H:=iteB H;obtain ⟨rfl,H⟩ | ⟨rfl,H⟩:=H
  · replace H:=bE H;obtain ⟨t130,A4,H⟩:=H;simp only [Option.some.injEq,Prod.mk.injEq] at H;obtain ⟨rfl,rfl⟩:=H;go_enter Try.func9,Try.ntmps9;go_wp2_with (first | ((with_reducible refine gate_dst (N:=1) rfl ?_);refine boxE_ HB 1 #[.int .i64 a0_0, .int .i64 a0_1, .slice A0_2 l0_2.length c0_2] 30 ?_;clear HB;intro gb128 w5 HB BK128 GW128 GE128 hb;clear hb;obtain ⟨hcz6_0,hcz6_1,hcz6_2,hfz6_0,hfz6_1,hfz6_2⟩:=cells3 BK128.out) | (refine gc_ 15 5 Try.func15 #[.agg #[.int .i64 a0_0, .int .i64 a0_1, .slice A0_2 l0_2.length c0_2]] ?_;(with_reducible refine (impl_IsPuzzle.calls a0_0 a0_1 _ _ l0_2 true _ ?_ ?_ A2.out).mono ?_);exact cB (Kd.C_below HR0_2.out HB.out);exact HC0_2.out;rintro e w7 ⟨rfl,hb⟩;refine ⟨_,rfl,?_⟩;replace BK128:=kb2 BK128 hb;replace HB:=hB2 HB hb;(try clear hb);obtain ⟨hcz8_0,hcz8_1,hcz8_2,hfz8_0,hfz8_1,hfz8_2⟩:=cells3 BK128.out) | (refine gc_ 52 11 Try.func52 #[.agg #[.int .i64 a0_0, .int .i64 a0_1], .slice A0_2 l0_2.length c0_2] ?_;(with_reducible refine (impl_Lock_solutions.calls k a0_0 a0_1 _ _ l0_2 t130 _ ?_ ?_ A4.out).mono ?_);exact cB (Kd.C_below HR0_2.out HB.out);exact HC0_2.out;rintro e w9 ⟨v131,rfl,ho0,hb⟩;refine ⟨_,rfl,?_⟩;have HO132:=amk (Kd.R_lower ho0 (below_size bB));replace BK128:=kb2 BK128 hb;replace HB:=hB2 HB hb;(try clear hb);(try clear ho0)));go_ret2;exact ⟨_,rF_,oX HO132,bB⟩
  · simp only [Option.some.injEq,Prod.mk.injEq] at H;obtain ⟨rfl,rfl⟩:=H;go_enter Try.func9,Try.ntmps9;go_wp2_with (first | ((with_reducible refine gate_dst (N:=1) rfl ?_);refine boxE_ HB 1 #[.int .i64 a0_0, .int .i64 a0_1, .slice A0_2 l0_2.length c0_2] 30 ?_;clear HB;intro gb128 w10 HB BK128 GW128 GE128 hb;clear hb;obtain ⟨hcz11_0,hcz11_1,hcz11_2,hfz11_0,hfz11_1,hfz11_2⟩:=cells3 BK128.out) | (refine gc_ 15 5 Try.func15 #[.agg #[.int .i64 a0_0, .int .i64 a0_1, .slice A0_2 l0_2.length c0_2]] ?_;(with_reducible refine (impl_IsPuzzle.calls a0_0 a0_1 _ _ l0_2 false _ ?_ ?_ A2.out).mono ?_);exact cB (Kd.C_below HR0_2.out HB.out);exact HC0_2.out;rintro e w12 ⟨rfl,hb⟩;refine ⟨_,rfl,?_⟩;replace BK128:=kb2 BK128 hb;replace HB:=hB2 HB hb;(try clear hb)));go_ret2;exact ⟨_,rF_,xN_,bB⟩
/-! ### impl_IsSolved: function 20 -/
def impl_IsSolved.f (k:Nat) (a0_0:Int) (a0_1:Int) (l0_2:List (S44)):Option (Bool×Bool):=(impl_Solutions.f k a0_0 a0_1 l0_2).bind fun bt572=>(some (((bt572.1.length:Int) == 1),bt572.2))
set_option maxHeartbeats 8000000 in
set_option maxRecDepth 100000 in
theorem impl_IsSolved.calls (k:Nat) (a0_0:Int) (a0_1:Int) (A0_2:Option Addr) (c0_2:Nat) (l0_2:List (S44)) (r1:Bool) (r2:Bool) (w:World) (hr0_2:Kd.C k44 w A0_2 l0_2.length l0_2) (hc0_2:l0_2.length≤c0_2) (h:impl_IsSolved.f k a0_0 a0_1 l0_2=some (r1,r2)) :
    Calls Try.prog 20 #[.agg #[.int .i64 a0_0, .int .i64 a0_1, .slice A0_2 l0_2.length c0_2]] w fun e w'=>e = .returned (.tuple #[.bool r1, .bool r2])∧Below w.heap.size w w':=by
  have hu30:=Try.underlying30;have HR0_2:=amk hr0_2;have HC0_2:=amk hc0_2;clear hr0_2 hc0_2;have HB:=amk (Below.refl w.heap.size w);unfold impl_IsSolved.f at h;have H:=h;clear h;replace H:=bE H;obtain ⟨⟨t572,t575⟩,A2,H⟩:=H;(try dsimp only at H);simp only [Option.some.injEq,Prod.mk.injEq] at H;obtain ⟨rfl,rfl⟩:=H;go_enter Try.func20,Try.ntmps20;go_wp2_with (first | ((with_reducible refine gate_dst (N:=1) rfl ?_);refine boxE_ HB 1 #[.int .i64 a0_0, .int .i64 a0_1, .slice A0_2 l0_2.length c0_2] 30 ?_;clear HB;intro gb571 w3 HB BK571 GW571 GE571 hb;clear hb;obtain ⟨hcz4_0,hcz4_1,hcz4_2,hfz4_0,hfz4_1,hfz4_2⟩:=cells3 BK571.out) | (refine gc_ 9 8 Try.func9 #[.agg #[.int .i64 a0_0, .int .i64 a0_1, .slice A0_2 l0_2.length c0_2]] ?_;(with_reducible refine (impl_Solutions.calls k a0_0 a0_1 _ _ l0_2 t572 t575 _ ?_ ?_ A2.out).mono ?_);exact cB (Kd.C_below HR0_2.out HB.out);exact HC0_2.out;rintro e w5 ⟨v573,rfl,ho0,hb⟩;refine ⟨_,rfl,?_⟩;have HO574:=amk (Kd.R_lower ho0 (below_size bB));replace BK571:=kb2 BK571 hb;replace HB:=hB2 HB hb;(try clear hb);(try clear ho0);obtain ⟨Ao6,co6,eo6⟩:=Kd.R_slice HO574.out;subst eo6));go_ret2;exact ⟨rF_,bB⟩
/-! ### impl_HarderPuzzle: function 18 -/
def impl_HarderPuzzle.l0:Nat→List (S44)→Int→Int→Int→List (S44)→Option (Int×Int×(List (S44))×Bool)
  | 0,_,_,_,_,_=>none
  | k + 1,x6,x7,x577000,x577001,x577002=>if x7 < (x6.length:Int) then ((impl_but.f x6 x7).bind fun t583=>((impl_Lock_solutions.f k x577000 x577001 t583).bind fun t586=>(if (t586.length:Int)=1 then (impl_HarderPuzzle.l0 k t583 x7 x577000 x577001 x577002) else (impl_HarderPuzzle.l0 k x6 (wrap64 (x7 + 1)) x577000 x577001 x577002)))) else (some (x577000,x577001,x6,true))
def impl_HarderPuzzle.f (k:Nat) (a0_0:Int) (a0_1:Int) (l0_2:List (S44)):Option (Int×Int×(List (S44))×Bool):=(impl_IsSolved.f k a0_0 a0_1 l0_2).bind fun bt578=>(if bt578.1=true then ((slices_Clone_impl_Clue_impl_Clue.f l0_2).bind fun t580=>(impl_HarderPuzzle.l0 k t580 0 a0_0 a0_1 l0_2)) else (some (0,0,([]:List (S44)),false)))
set_option maxHeartbeats 8000000 in
set_option maxRecDepth 100000 in
theorem impl_HarderPuzzle.calls (k:Nat) (a0_0:Int) (a0_1:Int) (A0_2:Option Addr) (c0_2:Nat) (l0_2:List (S44)) (r1:Int) (r2:Int) (r3:List (S44)) (r4:Bool) (w:World) (hr0_2:Kd.C k44 w A0_2 l0_2.length l0_2) (hc0_2:l0_2.length≤c0_2) (h:impl_HarderPuzzle.f k a0_0 a0_1 l0_2=some (r1,r2,r3,r4)) :
    Calls Try.prog 18 #[.agg #[.int .i64 a0_0, .int .i64 a0_1, .slice A0_2 l0_2.length c0_2]] w fun e w'=> ∃ v2_:Value,e = .returned (.tuple #[.agg #[.int .i64 r1, .int .i64 r2,v2_], .bool r4])∧Kd.R k44 44 w' w.heap.size (fun _=>True) v2_ r3∧Below w.heap.size w w':=by
  have hu30:=Try.underlying30;have hu25:=Try.underlying25;have HR0_2:=amk hr0_2;have HC0_2:=amk hc0_2;clear hr0_2 hc0_2;have HB:=amk (Below.refl w.heap.size w);unfold impl_HarderPuzzle.f at h;have H:=h;clear h;replace H:=bE H;obtain ⟨⟨t578,t579⟩,A2,H⟩:=H;(try dsimp only at H);replace H:=iteB H;obtain ⟨rfl,H⟩ | ⟨rfl,H⟩:=H
  · replace H:=bE H;obtain ⟨t580,A4,H⟩:=H;have H':=amk H;clear H;go_enter Try.func18,Try.ntmps18;go_wp2_with (first | ((with_reducible refine gate_dst (N:=1) rfl ?_);refine boxE_ HB 1 #[.int .i64 a0_0, .int .i64 a0_1, .slice A0_2 l0_2.length c0_2] 30 ?_;clear HB;intro gb576 w5 HB BK576 GW576 GE576 hb;clear hb) | ((with_reducible refine gate_dst (N:=2) rfl ?_);refine boxG_ 2 #[.int .i64 0, .int .i64 0, .slice none 0 0] 30 ?_;intro gb577 w6 hg BK577 hb;have GW577:=sZ HB hg;have GE577:=sZ HB hg;replace HB:=hB2 HB hb;have NB576_577:=neL BK576 hg;have NB577_576:=neR BK576 hg;replace BK576:=kb2 BK576 hb;clear hb hg;have hnb7:=NB576_577.out;have hnc7:=NB577_576.out;obtain ⟨hcz8_0,hcz8_1,hcz8_2,hfz8_0,hfz8_1,hfz8_2⟩:=cells3 BK576.out) | (refine gc_ 20 11 Try.func20 #[.agg #[.int .i64 a0_0, .int .i64 a0_1, .slice A0_2 l0_2.length c0_2]] ?_;(with_reducible refine (impl_IsSolved.calls k a0_0 a0_1 _ _ l0_2 true t579 _ ?_ ?_ A2.out).mono ?_);exact cB (Kd.C_below HR0_2.out HB.out);exact HC0_2.out;rintro e w9 ⟨rfl,hb⟩;refine ⟨_,rfl,?_⟩;replace BK576:=kb2 BK576 hb;replace BK577:=kb2 BK577 hb;replace HB:=hB2 HB hb;(try clear hb);obtain ⟨hcz10_0,hcz10_1,hcz10_2,hfz10_0,hfz10_1,hfz10_2⟩:=cells3 BK576.out) | (refine gc_ 63 19 Try.func63 #[.slice A0_2 l0_2.length c0_2] ?_;(with_reducible refine (slices_Clone_impl_Clue_impl_Clue.calls _ _ l0_2 t580 _ ?_ ?_ A4.out).mono ?_);exact cB (Kd.C_below HR0_2.out HB.out);exact HC0_2.out;rintro e w11 ⟨v581,rfl,ho0,hb⟩;refine ⟨_,rfl,?_⟩;have HO582:=amk (Kd.R_lower ho0 (below_size bB));replace BK576:=kb2 BK576 hb;replace BK577:=kb2 BK577 hb;replace HB:=hB2 HB hb;(try clear hb);(try clear ho0)))
    go_loopg [6,7] k (fun kq v6 v7 w'=> ∃ (x6_1:List (S44)) (x7_1:Int),v7 = .int .i64 x7_1∧Aside0 (impl_HarderPuzzle.l0 kq x6_1 x7_1 a0_0 a0_1 l0_2=some (r1,r2,r3,r4))∧Aside0 (kq≤k)∧Aside0 (Kd.R k44 44 w' w.heap.size (fun _=>True) v6 x6_1)∧Aside0 (w'.heap[gb576]?=some (.cells #[.int .i64 a0_0, .int .i64 a0_1,(.slice A0_2 l0_2.length c0_2)] 30 (0,0)))∧Aside0 (w'.heap[gb577]?=some (.cells #[.int .i64 0, .int .i64 0,(.slice none 0 0)] 30 (0,0)))∧Aside0 (Below w.heap.size w w'))
    case atStart=>exact ⟨(t580),(0),rS_,H',⟨Nat.le_refl _⟩,⟨oX HO582⟩,⟨kB BK576⟩,⟨kB BK577⟩,⟨bB⟩⟩
    case round =>
      clear H';(try clear c1);(try clear c2);(try clear p2);(try clear c3);(try clear c6);(try clear c7);(try clear hcz10_0);(try clear hcz10_1);(try clear hcz10_2);(try clear hcz8_0);(try clear hcz8_1);(try clear hcz8_2);(try clear hfz10_0);(try clear hfz10_1);(try clear hfz10_2);(try clear hfz8_0);(try clear hfz8_1);(try clear hfz8_2);obtain ⟨x6_1,x7_1,rfl,HA,HK1,HO_6,BK576,BK577,HB⟩:=hrel
      cases gk with
      | zero=>exact absurd HA.out (by simp [impl_HarderPuzzle.l0])
      | succ k1 =>
        have H:=HA.out;clear HA;simp only [impl_HarderPuzzle.l0] at H;replace H:=iteE H;obtain ⟨c12b0,H⟩ | ⟨c12b0,H⟩:=H
        · replace H:=bE H;obtain ⟨t583,A13,H⟩:=H;replace H:=bE H;obtain ⟨t586,A14,H⟩:=H
          by_cases c15:(t586.length:Int)=1
          · rw [if_pos c15] at H;have c15b0:((t586.length:Int) == 1)=true:=beq_iff_eq.mpr c15;have c15b1:((t586.length:Int) != 1)=false:=bne_eq_false_iff_eq.mpr c15;clear c15;have H':=amk H;clear H;obtain ⟨Ao16,co16,eo16⟩:=Kd.R_slice HO_6.out;subst eo16;go_wp2_with (first | (refine gc_ 64 26 Try.func64 #[.slice Ao16 x6_1.length co16, .int .i64 x7_1] ?_;(with_reducible refine (impl_but.calls _ _ x6_1 x7_1 t583 _ ?_ ?_ A13.out).mono ?_);exact cB ((Kd.R_reads' HO_6.out).2.2);exact (Kd.R_reads' HO_6.out).2.1;rintro e w17 ⟨v584,rfl,ho0,hb⟩;refine ⟨_,rfl,?_⟩;have HO585:=amk (Kd.R_lower (Kd.R_new' ho0 (Kd.R_lt (oX HO_6))) (below_size bB));replace HO_6:=amk (Kd.R_elder' (oX HO_6) (Kd.R_base ho0) hb);replace BK576:=kb2 BK576 hb;replace BK577:=kb2 BK577 hb;replace HB:=hB2 HB hb;(try clear hb);(try clear ho0);have hnb18:=NB576_577.out;have hnc18:=NB577_576.out;obtain ⟨hcz19_0,hcz19_1,hcz19_2,hfz19_0,hfz19_1,hfz19_2⟩:=cells3 BK576.out;obtain ⟨Ao20,co20,eo20⟩:=Kd.R_slice HO585.out;subst eo20) | (refine gc_ 52 30 Try.func52 #[.agg #[.int .i64 a0_0, .int .i64 a0_1], .slice Ao20 t583.length co20] ?_;(with_reducible refine (impl_Lock_solutions.calls k1 a0_0 a0_1 _ _ t583 t586 _ ?_ ?_ A14.out).mono ?_);exact cB ((Kd.R_reads' HO585.out).2.2);exact (Kd.R_reads' HO585.out).2.1;rintro e w21 ⟨v587,rfl,ho0,hb⟩;refine ⟨_,rfl,?_⟩;replace HO_6:=amk (Kd.R_below (oX HO_6) hb);replace HO585:=amk (Kd.R_below (oX HO585) hb);have HO588:=amk (Kd.R_lower ho0 (below_size bB));replace BK576:=kb2 BK576 hb;replace BK577:=kb2 BK577 hb;replace HB:=hB2 HB hb;(try clear hb);(try clear ho0);obtain ⟨Ao22,co22,eo22⟩:=Kd.R_slice HO588.out;subst eo22));go_roundg k1
            case measure=>have:=HK1.out;omega
            case rel=>exact ⟨(t583),(x7_1),rS_,H',⟨by have:=HK1.out;omega⟩,⟨by (with_reducible repeat (first | apply Kd.R_alloc | apply Kd.R_drewN | apply Kd.R_drew));exact Kd.R_mono HO585.out (fun _ hk=>trivial)⟩,⟨kB BK576⟩,⟨kB BK577⟩,⟨bB⟩⟩
          · rw [if_neg c15] at H;have c15b0:((t586.length:Int) == 1)=false:=beq_eq_false_iff_ne.mpr c15;have c15b1:((t586.length:Int) != 1)=true:=bne_iff_ne.mpr c15;have H':=amk H;clear H;obtain ⟨Ao23,co23,eo23⟩:=Kd.R_slice HO_6.out;subst eo23;go_wp2_with (first | (refine gc_ 64 26 Try.func64 #[.slice Ao23 x6_1.length co23, .int .i64 x7_1] ?_;(with_reducible refine (impl_but.calls _ _ x6_1 x7_1 t583 _ ?_ ?_ A13.out).mono ?_);exact cB ((Kd.R_reads' HO_6.out).2.2);exact (Kd.R_reads' HO_6.out).2.1;rintro e w24 ⟨v584,rfl,ho0,hb⟩;refine ⟨_,rfl,?_⟩;have HO585:=amk (Kd.R_lower (Kd.R_new' ho0 (Kd.R_lt (oX HO_6))) (below_size bB));replace HO_6:=amk (Kd.R_elder' (oX HO_6) (Kd.R_base ho0) hb);replace BK576:=kb2 BK576 hb;replace BK577:=kb2 BK577 hb;replace HB:=hB2 HB hb;(try clear hb);(try clear ho0);have hnb25:=NB576_577.out;have hnc25:=NB577_576.out;obtain ⟨hcz26_0,hcz26_1,hcz26_2,hfz26_0,hfz26_1,hfz26_2⟩:=cells3 BK576.out;obtain ⟨Ao27,co27,eo27⟩:=Kd.R_slice HO585.out;subst eo27) | (refine gc_ 52 30 Try.func52 #[.agg #[.int .i64 a0_0, .int .i64 a0_1], .slice Ao27 t583.length co27] ?_;(with_reducible refine (impl_Lock_solutions.calls k1 a0_0 a0_1 _ _ t583 t586 _ ?_ ?_ A14.out).mono ?_);exact cB ((Kd.R_reads' HO585.out).2.2);exact (Kd.R_reads' HO585.out).2.1;rintro e w28 ⟨v587,rfl,ho0,hb⟩;refine ⟨_,rfl,?_⟩;replace HO_6:=amk (Kd.R_below (oX HO_6) hb);replace HO585:=amk (Kd.R_below (oX HO585) hb);have HO588:=amk (Kd.R_lower ho0 (below_size bB));replace BK576:=kb2 BK576 hb;replace BK577:=kb2 BK577 hb;replace HB:=hB2 HB hb;(try clear hb);(try clear ho0);obtain ⟨Ao29,co29,eo29⟩:=Kd.R_slice HO588.out;subst eo29));go_roundg k1
            case measure=>have:=HK1.out;omega
            case rel=>exact ⟨(x6_1),(wrap64 (x7_1 + 1)),rS_,H',⟨by have:=HK1.out;omega⟩,⟨by (with_reducible repeat (first | apply Kd.R_alloc | apply Kd.R_drewN | apply Kd.R_drew));exact Kd.R_mono HO_6.out (fun _ hk=>trivial)⟩,⟨kB BK576⟩,⟨kB BK577⟩,⟨bB⟩⟩
        · simp only [Option.some.injEq,Prod.mk.injEq] at H;obtain ⟨rfl,rfl,rfl,rfl⟩:=H;obtain ⟨Ao30,co30,eo30⟩:=Kd.R_slice HO_6.out;subst eo30;have hnb31:=NB576_577.out;have hnc31:=NB577_576.out;obtain ⟨hcz32_0,hcz32_1,hcz32_2,hfz32_0,hfz32_1,hfz32_2⟩:=cells3 BK576.out;obtain ⟨hcz33_0,hcz33_1,hcz33_2,hfz33_0,hfz33_1,hfz33_2⟩:=cells3 BK577.out;go_wp2;refine bodyPost_ret (results_ct rfl _ _ gb577 30 #[.int .i64 a0_0, .int .i64 a0_1, .slice Ao30 x6_1.length co30] (0,0) _ rfl (kP BK577) Try.underlying30 rfl (by kernel_rfl)) rfl ?_;exact ⟨_,rF_,by (with_reducible repeat (first | apply Kd.R_alloc | apply Kd.R_drewN | apply Kd.R_drew));exact Kd.R_mono (Kd.R_far (p:=⟨gb577,2,none⟩) (Kd.R_far (p:=⟨gb577,1,none⟩) (Kd.R_far (p:=⟨gb577,0,none⟩) (Kd.R_types HO_6.out BK577.out (by decide)) (fun _ hk=>hk.2) (.int .i64 a0_0)) (fun _ hk=>hk.2) (.int .i64 a0_1)) (fun _ hk=>hk.2) (.slice Ao30 x6_1.length co30)) (fun _ hk=>trivial),bB⟩
  · simp only [Option.some.injEq,Prod.mk.injEq] at H;obtain ⟨rfl,rfl,rfl,rfl⟩:=H;go_enter Try.func18,Try.ntmps18;go_wp2_with (first | ((with_reducible refine gate_dst (N:=1) rfl ?_);refine boxE_ HB 1 #[.int .i64 a0_0, .int .i64 a0_1, .slice A0_2 l0_2.length c0_2] 30 ?_;clear HB;intro gb576 w34 HB BK576 GW576 GE576 hb;clear hb) | ((with_reducible refine gate_dst (N:=2) rfl ?_);refine boxG_ 2 #[.int .i64 0, .int .i64 0, .slice none 0 0] 30 ?_;intro gb577 w35 hg BK577 hb;have GW577:=sZ HB hg;have GE577:=sZ HB hg;replace HB:=hB2 HB hb;have NB576_577:=neL BK576 hg;have NB577_576:=neR BK576 hg;replace BK576:=kb2 BK576 hb;clear hb hg;have hnb36:=NB576_577.out;have hnc36:=NB577_576.out;obtain ⟨hcz37_0,hcz37_1,hcz37_2,hfz37_0,hfz37_1,hfz37_2⟩:=cells3 BK576.out) | (refine gc_ 20 11 Try.func20 #[.agg #[.int .i64 a0_0, .int .i64 a0_1, .slice A0_2 l0_2.length c0_2]] ?_;(with_reducible refine (impl_IsSolved.calls k a0_0 a0_1 _ _ l0_2 false t579 _ ?_ ?_ A2.out).mono ?_);exact cB (Kd.C_below HR0_2.out HB.out);exact HC0_2.out;rintro e w38 ⟨rfl,hb⟩;refine ⟨_,rfl,?_⟩;replace BK576:=kb2 BK576 hb;replace BK577:=kb2 BK577 hb;replace HB:=hB2 HB hb;(try clear hb);obtain ⟨hcz39_0,hcz39_1,hcz39_2,hfz39_0,hfz39_1,hfz39_2⟩:=cells3 BK577.out));refine bodyPost_ret (results_ct rfl _ _ gb577 30 #[.int .i64 0, .int .i64 0, .slice none 0 0] (0,0) _ rfl (kP BK577) Try.underlying30 rfl (by kernel_rfl)) rfl ?_;exact ⟨_,rF_,xN_,bB⟩
/-! ### impl_isHinted: function 57 -/
def impl_isHinted.f (k:Nat) (a0_0:Int) (a0_1:Int) (l1:List ByteArray):Option (Bool):=(impl_isSmall.f k a0_0 a0_1 1000).bind fun t451=>(if t451=true then ((impl_has.f k a0_0 a0_1 l1).bind fun t452=>(some t452)) else (some false))
set_option maxHeartbeats 8000000 in
set_option maxRecDepth 100000 in
theorem impl_isHinted.calls (k:Nat) (a0_0:Int) (a0_1:Int) (A1:Option Addr) (c1:Nat) (l1:List ByteArray) (r:Bool) (w:World) (hr1:Kd.C Kd.string w A1 l1.length l1) (hc1:l1.length≤c1) (h:impl_isHinted.f k a0_0 a0_1 l1=some r) :
    Calls Try.prog 57 #[.agg #[.int .i64 a0_0, .int .i64 a0_1], .slice A1 l1.length c1] w fun e w'=>e = .returned (.bool r)∧Below w.heap.size w w':=by
  have hu25:=Try.underlying25;have HR1:=amk hr1;have HC1:=amk hc1;clear hr1 hc1;have HB:=amk (Below.refl w.heap.size w);unfold impl_isHinted.f at h;have H:=h;clear h;replace H:=bE H;obtain ⟨t451,A3,H⟩:=H;replace H:=iteB H;obtain ⟨rfl,H⟩ | ⟨rfl,H⟩:=H
  · replace H:=bE H;obtain ⟨t452,A5,H⟩:=H;obtain rfl:=Option.some.inj H;go_enter Try.func57,Try.ntmps57;go_wp2_with (first | ((with_reducible refine gate_dst (N:=2) rfl ?_);refine boxE_ HB 2 #[.int .i64 a0_0, .int .i64 a0_1] 25 ?_;clear HB;intro gb450 w6 HB BK450 GW450 GE450 hb;clear hb;obtain ⟨hcz7_0,hcz7_1,hfz7_0,hfz7_1⟩:=cells2 BK450.out) | (refine gc_ 78 6 Try.func78 #[.agg #[.int .i64 a0_0, .int .i64 a0_1], .int .i64 1000] ?_;(with_reducible refine (impl_isSmall.calls k a0_0 a0_1 1000 true _ A3.out).mono ?_);rintro e w8 ⟨rfl,hb⟩;refine ⟨_,rfl,?_⟩;replace BK450:=kb2 BK450 hb;replace HB:=hB2 HB hb;(try clear hb);obtain ⟨hcz9_0,hcz9_1,hfz9_0,hfz9_1⟩:=cells2 BK450.out) | (go_at_call 41;(with_reducible refine (impl_has.calls k a0_0 a0_1 _ _ l1 t452 _ ?_ ?_ A5.out).mono ?_);exact cB (Kd.C_below HR1.out HB.out);exact HC1.out;rintro e w10 ⟨rfl,hb⟩;replace BK450:=kb2 BK450 hb;replace HB:=hB2 HB hb;(try clear hb)));go_ret;exact ⟨rF_,bB⟩
  · obtain rfl:=Option.some.inj H;go_enter Try.func57,Try.ntmps57;go_wp2_with (first | ((with_reducible refine gate_dst (N:=2) rfl ?_);refine boxE_ HB 2 #[.int .i64 a0_0, .int .i64 a0_1] 25 ?_;clear HB;intro gb450 w11 HB BK450 GW450 GE450 hb;clear hb;obtain ⟨hcz12_0,hcz12_1,hfz12_0,hfz12_1⟩:=cells2 BK450.out) | (refine gc_ 78 6 Try.func78 #[.agg #[.int .i64 a0_0, .int .i64 a0_1], .int .i64 1000] ?_;(with_reducible refine (impl_isSmall.calls k a0_0 a0_1 1000 false _ A3.out).mono ?_);rintro e w13 ⟨rfl,hb⟩;refine ⟨_,rfl,?_⟩;replace BK450:=kb2 BK450 hb;replace HB:=hB2 HB hb;(try clear hb)));go_ret;exact ⟨rF_,bB⟩
/-! ### impl_HintOf: function 13 -/
def impl_HintOf.f (k:Nat) (a0_0:Int) (a0_1:Int) (a1:ByteArray) (a2:ByteArray):Option (Int×Int×Bool):=(impl_isHinted.f k a0_0 a0_1 (([a1,a2]:List ByteArray))).bind fun t457=>(if t457=true then ((impl_hint.f a1 a2).bind fun bt458=>(some (bt458.1,bt458.2,true))) else (some (0,0,false)))
set_option maxHeartbeats 8000000 in
set_option maxRecDepth 100000 in
theorem impl_HintOf.calls (k:Nat) (a0_0:Int) (a0_1:Int) (a1:ByteArray) (a2:ByteArray) (r1:Int) (r2:Int) (r3:Bool) (w:World) (h:impl_HintOf.f k a0_0 a0_1 a1 a2=some (r1,r2,r3)) :
    Calls Try.prog 13 #[.agg #[.int .i64 a0_0, .int .i64 a0_1], .string a1, .string a2] w fun e w'=>e = .returned (.tuple #[.int .i64 r1, .int .i64 r2, .bool r3])∧Below w.heap.size w w':=by
  have hu25:=Try.underlying25;have HB:=amk (Below.refl w.heap.size w);unfold impl_HintOf.f at h;have H:=h;clear h;(try rw [Option.bind_some] at H);generalize hy454:(([a1,a2]:List ByteArray))=y454 at H;have Ny454:=amk hy454.symm;clear hy454;replace H:=bE H;obtain ⟨t457,A4,H⟩:=H;replace H:=iteB H;obtain ⟨rfl,H⟩ | ⟨rfl,H⟩:=H
  · replace H:=bE H;obtain ⟨⟨t458,t459⟩,A6,H⟩:=H;(try dsimp only at H);simp only [Option.some.injEq,Prod.mk.injEq] at H;obtain ⟨rfl,rfl,rfl⟩:=H;go_enter Try.func13,Try.ntmps13;go_wp2_with (first | ((with_reducible refine gate_dst (N:=3) rfl ?_);refine boxE_ HB 3 #[.int .i64 a0_0, .int .i64 a0_1] 25 ?_;clear HB;intro gb453 w7 HB BK453 GW453 GE453 hb;clear hb;obtain ⟨hcz8_0,hcz8_1,hfz8_0,hfz8_1⟩:=cells2 BK453.out) | ((with_reducible refine gate_dst (N:=14) rfl ?_);refine Kd.R_lit Kd.string _ 9 ?hg (N:=14) ?hd (xs:=([a1,a2]:List ByteArray)) (inner:=[.string a1, .string a2]) (ok:=fun _=>True) (okp:=fun _=>True) ?hr ?hp (fun _ hk=>hk) trivial (Below.refl _ _) (Nat.le_refl _) (by simp) ?_;(case hd=>rfl);(case hg=>rfl);(case hr=>first | (go_simp;done) | (go_simp;rfl));(case hp=>exact (Reps.one (show Kd.M Kd.string _ _ _ a1 [.string a1] from rfl) (Reps.one (show Kd.M Kd.string _ _ _ a2 [.string a2] from rfl) (Reps.none _ _))));intro v455 w9 ho10 hb hg_ hnew_;clear hg_ hnew_;(first | rw [←Ny454.out] at ho10 | (simp only [Int.reduceToNat] at ho10;rw [←Ny454.out] at ho10));have HO456:=amk (Kd.R_lower ho10 (below_size bB));replace BK453:=kb2 BK453 hb;replace HB:=hB2 HB hb;clear hb ho10;obtain ⟨Ao11,co11,eo11⟩:=Kd.R_slice HO456.out;subst eo11) | (refine gc_ 57 15 Try.func57 #[.agg #[.int .i64 a0_0, .int .i64 a0_1], .slice Ao11 y454.length co11] ?_;(with_reducible refine (impl_isHinted.calls k a0_0 a0_1 _ _ y454 true _ ?_ ?_ A4.out).mono ?_);exact cB ((Kd.R_reads' HO456.out).2.2);exact (Kd.R_reads' HO456.out).2.1;rintro e w12 ⟨rfl,hb⟩;refine ⟨_,rfl,?_⟩;replace HO456:=amk (Kd.R_below (oX HO456) hb);replace BK453:=kb2 BK453 hb;replace HB:=hB2 HB hb;(try clear hb)) | (refine gc_ 58 20 Try.func58 #[.string a1, .string a2] ?_;(with_reducible refine (impl_hint.calls a1 a2 t458 t459 _ A6.out).mono ?_);rintro e w13 ⟨rfl,hb⟩;refine ⟨_,rfl,?_⟩;replace HO456:=amk (Kd.R_below (oX HO456) hb);replace BK453:=kb2 BK453 hb;replace HB:=hB2 HB hb;(try clear hb)));go_ret3;exact ⟨rF_,bB⟩
  · simp only [Option.some.injEq,Prod.mk.injEq] at H;obtain ⟨rfl,rfl,rfl⟩:=H;go_enter Try.func13,Try.ntmps13;go_wp2_with (first | ((with_reducible refine gate_dst (N:=3) rfl ?_);refine boxE_ HB 3 #[.int .i64 a0_0, .int .i64 a0_1] 25 ?_;clear HB;intro gb453 w14 HB BK453 GW453 GE453 hb;clear hb;obtain ⟨hcz15_0,hcz15_1,hfz15_0,hfz15_1⟩:=cells2 BK453.out) | ((with_reducible refine gate_dst (N:=14) rfl ?_);refine Kd.R_lit Kd.string _ 9 ?hg (N:=14) ?hd (xs:=([a1,a2]:List ByteArray)) (inner:=[.string a1, .string a2]) (ok:=fun _=>True) (okp:=fun _=>True) ?hr ?hp (fun _ hk=>hk) trivial (Below.refl _ _) (Nat.le_refl _) (by simp) ?_;(case hd=>rfl);(case hg=>rfl);(case hr=>first | (go_simp;done) | (go_simp;rfl));(case hp=>exact (Reps.one (show Kd.M Kd.string _ _ _ a1 [.string a1] from rfl) (Reps.one (show Kd.M Kd.string _ _ _ a2 [.string a2] from rfl) (Reps.none _ _))));intro v455 w16 ho17 hb hg_ hnew_;clear hg_ hnew_;(first | rw [←Ny454.out] at ho17 | (simp only [Int.reduceToNat] at ho17;rw [←Ny454.out] at ho17));have HO456:=amk (Kd.R_lower ho17 (below_size bB));replace BK453:=kb2 BK453 hb;replace HB:=hB2 HB hb;clear hb ho17;obtain ⟨Ao18,co18,eo18⟩:=Kd.R_slice HO456.out;subst eo18) | (refine gc_ 57 15 Try.func57 #[.agg #[.int .i64 a0_0, .int .i64 a0_1], .slice Ao18 y454.length co18] ?_;(with_reducible refine (impl_isHinted.calls k a0_0 a0_1 _ _ y454 false _ ?_ ?_ A4.out).mono ?_);exact cB ((Kd.R_reads' HO456.out).2.2);exact (Kd.R_reads' HO456.out).2.1;rintro e w19 ⟨rfl,hb⟩;refine ⟨_,rfl,?_⟩;replace HO456:=amk (Kd.R_below (oX HO456) hb);replace BK453:=kb2 BK453 hb;replace HB:=hB2 HB hb;(try clear hb)));go_ret3;exact ⟨rF_,bB⟩
/-! ### impl_NeedlessClues: function 21 -/
def impl_NeedlessClues.l0:Nat→List ByteArray→List Int→Int→Int→Int→Int→List (S44)→Option (List Int×Bool)
  | 0,_,_,_,_,_,_,_=>none
  | k + 1,x4,x6,x18,x19,x625000,x625001,x625002=>if x19 < x18 then ((impl_but.f x625002 x19).bind fun t632=>((impl_Lock_solutions.f k x625000 x625001 t632).bind fun t635=>(if (t635.length:Int)=(x4.length:Int) then (if x6.length < 17592186044416 then (impl_NeedlessClues.l0 k x4 (x6 ++ [x19]) x18 (wrap64 (x19 + 1)) x625000 x625001 x625002) else (none)) else (impl_NeedlessClues.l0 k x4 x6 x18 (wrap64 (x19 + 1)) x625000 x625001 x625002)))) else (some (x6,true))
def impl_NeedlessClues.f (k:Nat) (a0_0:Int) (a0_1:Int) (l0_2:List (S44)):Option (List Int×Bool):=(impl_Solutions.f k a0_0 a0_1 l0_2).bind fun bt625=>(if bt625.2=true then (impl_NeedlessClues.l0 k bt625.1 (([]:List Int)) (l0_2.length:Int) 0 a0_0 a0_1 l0_2) else (some (([]:List Int),false)))
def impl_NeedlessClues.T8:Bool×List (List Nat×List Nat):=(true,[([],[]),([0],[0]),([],[]),([2],[2]),([],[]),([3,4],[3,4]),([1,5,5],[1,5]),([6],[6]),([],[]),([8],[8]),([7,9],[7,9])])
def impl_NeedlessClues.B8:List Nat:=[0,1,0,4,0,28,63,127,0,256,1023]
theorem impl_NeedlessClues.tab8:rtab .any (opsOf Try.f21 8)=impl_NeedlessClues.T8:=by kernel_rfl
theorem impl_NeedlessClues.bits8:waitsOk impl_NeedlessClues.T8.2 impl_NeedlessClues.B8=true:=by kernel_rfl
set_option maxHeartbeats 8000000 in
set_option maxRecDepth 100000 in
theorem impl_NeedlessClues.calls (k:Nat) (a0_0:Int) (a0_1:Int) (A0_2:Option Addr) (c0_2:Nat) (l0_2:List (S44)) (r1:List Int) (r2:Bool) (w:World) (hr0_2:Kd.C k44 w A0_2 l0_2.length l0_2) (hc0_2:l0_2.length≤c0_2) (h:impl_NeedlessClues.f k a0_0 a0_1 l0_2=some (r1,r2)) :
    Calls Try.prog 21 #[.agg #[.int .i64 a0_0, .int .i64 a0_1, .slice A0_2 l0_2.length c0_2]] w fun e w'=> ∃ v0_:Value,e = .returned (.tuple #[v0_, .bool r2])∧Kd.R (Kd.int .i64) 3 w' w.heap.size (fun _=>True) v0_ r1∧Below w.heap.size w w':=by
  have hu30:=Try.underlying30;have hu25:=Try.underlying25;have HR0_2:=amk hr0_2;have HC0_2:=amk hc0_2;clear hr0_2 hc0_2;have HB:=amk (Below.refl w.heap.size w);unfold impl_NeedlessClues.f at h;have H:=h;clear h;replace H:=bE H;obtain ⟨⟨t625,t628⟩,A2,H⟩:=H;(try dsimp only at H);replace H:=iteB H;obtain ⟨rfl,H⟩ | ⟨rfl,H⟩:=H
  · (try rw [Option.bind_some] at H);generalize hy629:(([]:List Int))=y629 at H;have Ny629:=amk hy629.symm;clear hy629;have H':=amk H;clear H;go_enter Try.func21,Try.ntmps21;go_wp2_with (first | ((with_reducible refine gate_dst (N:=1) rfl ?_);refine boxE_ HB 1 #[.int .i64 a0_0, .int .i64 a0_1, .slice A0_2 l0_2.length c0_2] 30 ?_;clear HB;intro gb624 w4 HB BK624 GW624 GE624 hb;clear hb;obtain ⟨hcz5_0,hcz5_1,hcz5_2,hfz5_0,hfz5_1,hfz5_2⟩:=cells3 BK624.out) | (refine gc_ 9 10 Try.func9 #[.agg #[.int .i64 a0_0, .int .i64 a0_1, .slice A0_2 l0_2.length c0_2]] ?_;(with_reducible refine (impl_Solutions.calls k a0_0 a0_1 _ _ l0_2 t625 true _ ?_ ?_ A2.out).mono ?_);exact cB (Kd.C_below HR0_2.out HB.out);exact HC0_2.out;rintro e w6 ⟨v626,rfl,ho0,hb⟩;refine ⟨_,rfl,?_⟩;have HO627:=amk (Kd.R_lower ho0 (below_size bB));replace BK624:=kb2 BK624 hb;replace HB:=hB2 HB hb;(try clear hb);(try clear ho0)) | ((with_reducible refine gate_dst (N:=15) rfl ?_);refine Kd.R_lit (Kd.int .i64) _ 3 ?hg (N:=15) ?hd (xs:=([]:List Int)) (inner:=[]) (ok:=fun _=>True) (okp:=fun _=>True) ?hr ?hp (fun _ hk=>hk) trivial (Below.refl _ _) (Nat.le_refl _) (by simp) ?_;(case hd=>rfl);(case hg=>rfl);(case hr=>first | (go_simp;done) | (go_simp;rfl));(case hp=>exact (Reps.none _ _));intro v630 w7 ho8 hb hg_ hnew_;clear hg_ hnew_;(first | rw [←Ny629.out] at ho8 | (simp only [Int.reduceToNat] at ho8;rw [←Ny629.out] at ho8));replace HO627:=amk (Kd.R_below (oX HO627) hb);have HO631:=amk (Kd.R_lower ho8 (below_size bB));replace BK624:=kb2 BK624 hb;replace HB:=hB2 HB hb;clear hb ho8;obtain ⟨hcz9_0,hcz9_1,hcz9_2,hfz9_0,hfz9_1,hfz9_2⟩:=cells3 BK624.out))
    go_loopg [6,19] k (fun kq v6 v19 w'=> ∃ (x6_1:List Int) (x19_1:Int),v19 = .int .i64 x19_1∧Aside0 (impl_NeedlessClues.l0 kq t625 x6_1 (l0_2.length:Int) x19_1 a0_0 a0_1 l0_2=some (r1,r2))∧Aside0 (kq≤k)∧Aside0 (Kd.R Kd.string 9 w' w.heap.size (fun _=>True) v626 t625)∧Aside0 (Kd.R (Kd.int .i64) 3 w' w.heap.size (fun _=>True) v6 x6_1)∧Aside0 (w'.heap[gb624]?=some (.cells #[.int .i64 a0_0, .int .i64 a0_1,(.slice A0_2 l0_2.length c0_2)] 30 (0,0)))∧Aside0 (Below w.heap.size w w'))
    case atStart=>exact ⟨(y629),(0),rS_,H',⟨Nat.le_refl _⟩,⟨oX HO627⟩,⟨oX HO631⟩,⟨kB BK624⟩,⟨bB⟩⟩
    case round =>
      clear H';(try clear c2);(try clear p2);(try clear c3);(try clear c9);(try clear hcz5_0);(try clear hcz5_1);(try clear hcz5_2);(try clear hcz9_0);(try clear hcz9_1);(try clear hcz9_2);(try clear hfz5_0);(try clear hfz5_1);(try clear hfz5_2);(try clear hfz9_0);(try clear hfz9_1);(try clear hfz9_2);obtain ⟨x6_1,x19_1,rfl,HA,HK1,HO_4,HO_6,BK624,HB⟩:=hrel
      cases gk with
      | zero=>exact absurd HA.out (by simp [impl_NeedlessClues.l0])
      | succ k1 =>
        have H:=HA.out;clear HA;simp only [impl_NeedlessClues.l0] at H;replace H:=iteE H;obtain ⟨c10b0,H⟩ | ⟨c10b0,H⟩:=H
        · replace H:=bE H;obtain ⟨t632,A11,H⟩:=H;replace H:=bE H;obtain ⟨t635,A12,H⟩:=H
          by_cases c13:(t635.length:Int)=(t625.length:Int)
          · rw [if_pos c13] at H;have c13b0:((t635.length:Int) == (t625.length:Int))=true:=beq_iff_eq.mpr c13;have c13b1:((t635.length:Int) != (t625.length:Int))=false:=bne_eq_false_iff_eq.mpr c13;(have c13b2:(t635.length == t625.length)=true:=by first | simpa using c13 | (simp at c13 ⊢;omega));clear c13
            by_cases c14:x6_1.length < 17592186044416
            · rw [if_pos c14] at H;have LMc14:=amk c14;clear c14;(try rw [Option.bind_some] at H);generalize hy638:((x6_1 ++ [x19_1]):List Int)=y638 at H;have Ny638:=amk hy638.symm;clear hy638;have H':=amk H;clear H;(try go_wp2);replace HO_4:=amk (Kd.R_drew HO_4.out);replace HO_6:=amk (Kd.R_drew HO_6.out);replace BK624:=amk (blk_drew BK624.out);replace HB:=amk (bd_ HB.out);obtain ⟨Ao16,co16,eo16⟩:=Kd.R_slice HO_4.out;(first | subst eo16 | (injection eo16 with f1_ f2_ f3_;have f4_:=f1_.symm;have f5_:=f3_.symm;clear f1_ f2_ f3_;subst f4_;subst f5_));refine start_ (n:=11) (S:=fun w'=>w'.cell? ⟨gb624,0,none⟩=some (.int .i64 a0_0)∧w'.cell? ⟨gb624,1,none⟩=some (.int .i64 a0_1)∧w'.cell? ⟨gb624,2,none⟩=some (.slice A0_2 l0_2.length c0_2)) (ds:=[]) (bA 11 0) (by kernel_rfl) rfl rfl ⟨(blk_cell BK624.out 0).trans rfl,(blk_cell BK624.out 1).trans rfl,(blk_cell BK624.out 2).trans rfl⟩ (fun hHeld=>?_);refine with_tabW impl_NeedlessClues.tab8 impl_NeedlessClues.bits8 (fun HT_ HW_=>?_);generalize wr.drew=w15 at HO_4 HO_6 BK624 HB hHeld ⊢;refine pU_ HT_ 0 (some 22) (bA 11 1) ?_;refine pU_ HT_ 2 (some 24) (bA 11 5) ?_;refine pU_ HT_ 4 (some 26) (bA 11 21) ?_;refine pU_ HT_ 8 (some 30) (bA 11 277) ?_;refine pU_ HT_ 9 (some 31) (bA 11 789) ?_;refine tK_ HT_ HW_ hHeld 1 (some 23) (bA 11 791) ?_;refine tK_ HT_ HW_ hHeld 3 (some 25) (bA 11 799) ?_;refine oN_ HT_ 5 (some 27) (bA 11 831) (fun K hK=>?_);refine gs_ Try.func64 #[.slice A0_2 l0_2.length c0_2, .int .i64 x19_1] ?_;(with_reducible refine (impl_but.calls _ _ l0_2 x19_1 t632 _ ?_ ?_ A11.out).mono ?_);exact cB (Kd.C_below HR0_2.out HB.out);exact HC0_2.out;rintro e w17 ⟨v633,rfl,ho0,hb⟩;refine ⟨_,rfl,?_⟩;replace HO_4:=amk (Kd.R_below (oX HO_4) hb);replace HO_6:=amk (Kd.R_below (oX HO_6) hb);have HO634:=amk (Kd.R_lower ho0 (below_size bB));replace BK624:=kb2 BK624 hb;replace HB:=hB2 HB hb;(try clear hb);(try clear ho0);obtain ⟨Ao18,co18,eo18⟩:=Kd.R_slice HO634.out;(first | subst eo18 | (injection eo18 with f1_ f2_ f3_;have f4_:=f1_.symm;have f5_:=f3_.symm;clear f1_ f2_ f3_;subst f4_;subst f5_));refine hK.out _ _ hC_ (fun hHeld=>?_);clear hK K;refine nN_ (some 27) ?_;refine oN_ HT_ 6 (some 28) (bA 11 895) (fun K hK=>?_);refine gs_ Try.func52 #[.agg #[.int .i64 a0_0, .int .i64 a0_1], .slice Ao18 t632.length co18] ?_;(with_reducible refine (impl_Lock_solutions.calls k1 a0_0 a0_1 _ _ t632 t635 _ ?_ ?_ A12.out).mono ?_);exact cB ((Kd.R_reads' HO634.out).2.2);exact (Kd.R_reads' HO634.out).2.1;rintro e w19 ⟨v636,rfl,ho0,hb⟩;refine ⟨_,rfl,?_⟩;replace HO_6:=amk (Kd.R_below (oX HO_6) hb);replace HO634:=amk (Kd.R_below (oX HO634) hb);have HO637:=amk (Kd.R_lower (Kd.R_new' ho0 (Kd.R_lt (oX HO_4))) (below_size bB));replace HO_4:=amk (Kd.R_elder' (oX HO_4) (Kd.R_base ho0) hb);replace BK624:=kb2 BK624 hb;replace HB:=hB2 HB hb;(try clear hb);(try clear ho0);obtain ⟨Ao20,co20,eo20⟩:=Kd.R_slice HO637.out;(first | subst eo20 | (injection eo20 with f1_ f2_ f3_;have f4_:=f1_.symm;have f5_:=f3_.symm;clear f1_ f2_ f3_;subst f4_;subst f5_));refine hK.out _ _ hC_ (fun hHeld=>?_);clear hK K;refine nN_ (some 28) ?_;refine pU_ HT_ 7 (some 29) (bA 11 1023) ?_;refine pU_ HT_ 10 (some 32) (bA 11 2047) ?_;refine done_ (done_of HT_.out (by kernel_rfl)) ?_;(try go_wp2_with (first | ((with_reducible refine gate_builtin (b:= .append) (xs:= #[.tmp 33, .tmp 35]) rfl ?_);at_builtin;refine Kd.R_append (Kd.int .i64) (w0:=w) w.heap.size rfl (.tmp 33) (.tmp 35) 53 3 (.int .i64 0) 8 rfl Try.underlying53 info3 rfl (by decide) (by omega) u6 x6_1 x19_1 [.int .i64 x19_1] (fun _=>True) (fun _=>False) rfl rfl rfl (fun _ hk=>hk.elim) (fun _ _=>trivial) (oX HO_6) bB (below_size bB) (by have:=LMc14.out;omega) ?_;intro v639 w21 ho hb hg hat;rw [←Ny638.out] at ho;replace HO_4:=amk (Kd.R_over' (oX HO_4) (Kd.R_typed (oX HO_6)) (by decide) hg);replace BK624:=bG BK624 hg (Kd.R_ne HO_6.out BK624.out (by decide));replace HO634:=amk (Kd.R_over' (oX HO634) (Kd.R_typed (oX HO_6)) (by decide) hg);replace HO637:=amk (Kd.R_over' (oX HO637) (Kd.R_typed (oX HO_6)) (by decide) hg);replace HB:=amk (hb);have HO640:=amk (ho);clear HO_6;clear ho hb hg hat)));go_roundg k1
              case measure=>have:=HK1.out;omega
              case rel=>exact ⟨(y638),(wrap64 (x19_1 + 1)),rS_,H',⟨by have:=HK1.out;omega⟩,⟨by (with_reducible repeat (first | apply Kd.R_alloc | apply Kd.R_drewN | apply Kd.R_drew));exact Kd.R_mono HO_4.out (fun _ hk=>trivial)⟩,⟨oX HO640⟩,⟨kB BK624⟩,⟨bB⟩⟩
            · rw [if_neg c14] at H;exact absurd H (by simp)
          · rw [if_neg c13] at H;have c13b0:((t635.length:Int) == (t625.length:Int))=false:=beq_eq_false_iff_ne.mpr c13;have c13b1:((t635.length:Int) != (t625.length:Int))=true:=bne_iff_ne.mpr c13;(have c13b2:(t635.length == t625.length)=false:=by first | simpa using c13 | (simp at c13 ⊢;omega));have H':=amk H;clear H;(try go_wp2);replace HO_4:=amk (Kd.R_drew HO_4.out);replace HO_6:=amk (Kd.R_drew HO_6.out);replace BK624:=amk (blk_drew BK624.out);replace HB:=amk (bd_ HB.out);obtain ⟨Ao23,co23,eo23⟩:=Kd.R_slice HO_4.out;(first | subst eo23 | (injection eo23 with f1_ f2_ f3_;have f4_:=f1_.symm;have f5_:=f3_.symm;clear f1_ f2_ f3_;subst f4_;subst f5_));refine start_ (n:=11) (S:=fun w'=>w'.cell? ⟨gb624,0,none⟩=some (.int .i64 a0_0)∧w'.cell? ⟨gb624,1,none⟩=some (.int .i64 a0_1)∧w'.cell? ⟨gb624,2,none⟩=some (.slice A0_2 l0_2.length c0_2)) (ds:=[]) (bA 11 0) (by kernel_rfl) rfl rfl ⟨(blk_cell BK624.out 0).trans rfl,(blk_cell BK624.out 1).trans rfl,(blk_cell BK624.out 2).trans rfl⟩ (fun hHeld=>?_);refine with_tabW impl_NeedlessClues.tab8 impl_NeedlessClues.bits8 (fun HT_ HW_=>?_);generalize wr.drew=w22 at HO_4 HO_6 BK624 HB hHeld ⊢;refine pU_ HT_ 0 (some 22) (bA 11 1) ?_;refine pU_ HT_ 2 (some 24) (bA 11 5) ?_;refine pU_ HT_ 4 (some 26) (bA 11 21) ?_;refine pU_ HT_ 8 (some 30) (bA 11 277) ?_;refine pU_ HT_ 9 (some 31) (bA 11 789) ?_;refine tK_ HT_ HW_ hHeld 1 (some 23) (bA 11 791) ?_;refine tK_ HT_ HW_ hHeld 3 (some 25) (bA 11 799) ?_;refine oN_ HT_ 5 (some 27) (bA 11 831) (fun K hK=>?_);refine gs_ Try.func64 #[.slice A0_2 l0_2.length c0_2, .int .i64 x19_1] ?_;(with_reducible refine (impl_but.calls _ _ l0_2 x19_1 t632 _ ?_ ?_ A11.out).mono ?_);exact cB (Kd.C_below HR0_2.out HB.out);exact HC0_2.out;rintro e w24 ⟨v633,rfl,ho0,hb⟩;refine ⟨_,rfl,?_⟩;replace HO_4:=amk (Kd.R_below (oX HO_4) hb);replace HO_6:=amk (Kd.R_below (oX HO_6) hb);have HO634:=amk (Kd.R_lower ho0 (below_size bB));replace BK624:=kb2 BK624 hb;replace HB:=hB2 HB hb;(try clear hb);(try clear ho0);obtain ⟨Ao25,co25,eo25⟩:=Kd.R_slice HO634.out;(first | subst eo25 | (injection eo25 with f1_ f2_ f3_;have f4_:=f1_.symm;have f5_:=f3_.symm;clear f1_ f2_ f3_;subst f4_;subst f5_));refine hK.out _ _ hC_ (fun hHeld=>?_);clear hK K;refine nN_ (some 27) ?_;refine oN_ HT_ 6 (some 28) (bA 11 895) (fun K hK=>?_);refine gs_ Try.func52 #[.agg #[.int .i64 a0_0, .int .i64 a0_1], .slice Ao25 t632.length co25] ?_;(with_reducible refine (impl_Lock_solutions.calls k1 a0_0 a0_1 _ _ t632 t635 _ ?_ ?_ A12.out).mono ?_);exact cB ((Kd.R_reads' HO634.out).2.2);exact (Kd.R_reads' HO634.out).2.1;rintro e w26 ⟨v636,rfl,ho0,hb⟩;refine ⟨_,rfl,?_⟩;replace HO_6:=amk (Kd.R_below (oX HO_6) hb);replace HO634:=amk (Kd.R_below (oX HO634) hb);have HO637:=amk (Kd.R_lower (Kd.R_new' ho0 (Kd.R_lt (oX HO_4))) (below_size bB));replace HO_4:=amk (Kd.R_elder' (oX HO_4) (Kd.R_base ho0) hb);replace BK624:=kb2 BK624 hb;replace HB:=hB2 HB hb;(try clear hb);(try clear ho0);obtain ⟨Ao27,co27,eo27⟩:=Kd.R_slice HO637.out;(first | subst eo27 | (injection eo27 with f1_ f2_ f3_;have f4_:=f1_.symm;have f5_:=f3_.symm;clear f1_ f2_ f3_;subst f4_;subst f5_));refine hK.out _ _ hC_ (fun hHeld=>?_);clear hK K;refine nN_ (some 28) ?_;refine pU_ HT_ 7 (some 29) (bA 11 1023) ?_;refine pU_ HT_ 10 (some 32) (bA 11 2047) ?_;refine done_ (done_of HT_.out (by kernel_rfl)) ?_;(try go_wp2);go_roundg k1
            case measure=>have:=HK1.out;omega
            case rel=>exact ⟨(x6_1),(wrap64 (x19_1 + 1)),rS_,H',⟨by have:=HK1.out;omega⟩,⟨by (with_reducible repeat (first | apply Kd.R_alloc | apply Kd.R_drewN | apply Kd.R_drew));exact Kd.R_mono HO_4.out (fun _ hk=>trivial)⟩,⟨oX HO_6⟩,⟨kB BK624⟩,⟨bB⟩⟩
        · simp only [Option.some.injEq,Prod.mk.injEq] at H;obtain ⟨rfl,rfl⟩:=H;go_wp2;go_ret2;exact ⟨_,rF_,oX HO_6,bB⟩
  · simp only [Option.some.injEq,Prod.mk.injEq] at H;obtain ⟨rfl,rfl⟩:=H;go_enter Try.func21,Try.ntmps21;go_wp2_with (first | ((with_reducible refine gate_dst (N:=1) rfl ?_);refine boxE_ HB 1 #[.int .i64 a0_0, .int .i64 a0_1, .slice A0_2 l0_2.length c0_2] 30 ?_;clear HB;intro gb624 w28 HB BK624 GW624 GE624 hb;clear hb;obtain ⟨hcz29_0,hcz29_1,hcz29_2,hfz29_0,hfz29_1,hfz29_2⟩:=cells3 BK624.out) | (refine gc_ 9 10 Try.func9 #[.agg #[.int .i64 a0_0, .int .i64 a0_1, .slice A0_2 l0_2.length c0_2]] ?_;(with_reducible refine (impl_Solutions.calls k a0_0 a0_1 _ _ l0_2 t625 false _ ?_ ?_ A2.out).mono ?_);exact cB (Kd.C_below HR0_2.out HB.out);exact HC0_2.out;rintro e w30 ⟨v626,rfl,ho0,hb⟩;refine ⟨_,rfl,?_⟩;have HO627:=amk (Kd.R_lower ho0 (below_size bB));replace BK624:=kb2 BK624 hb;replace HB:=hB2 HB hb;(try clear hb);(try clear ho0)));go_ret2;exact ⟨_,rF_,xN_,bB⟩
/-! ### impl_NumberOfCode: function 14 -/
def impl_NumberOfCode.f (k:Nat) (a0_0:Int) (a0_1:Int) (a1:ByteArray):Option (Int×Bool):=(impl_has.f k a0_0 a0_1 (([a1]:List ByteArray))).bind fun t464=>(if t464=true then ((impl_Lock_number.f k a0_0 a0_1 a1).bind fun t465=>(some (t465,true))) else (some (0,false)))
set_option maxHeartbeats 8000000 in
set_option maxRecDepth 100000 in
theorem impl_NumberOfCode.calls (k:Nat) (a0_0:Int) (a0_1:Int) (a1:ByteArray) (r1:Int) (r2:Bool) (w:World) (h:impl_NumberOfCode.f k a0_0 a0_1 a1=some (r1,r2)) :
    Calls Try.prog 14 #[.agg #[.int .i64 a0_0, .int .i64 a0_1], .string a1] w fun e w'=>e = .returned (.tuple #[.int .i64 r1, .bool r2])∧Below w.heap.size w w':=by
  have hu25:=Try.underlying25;have HB:=amk (Below.refl w.heap.size w);unfold impl_NumberOfCode.f at h;have H:=h;clear h;(try rw [Option.bind_some] at H);generalize hy461:(([a1]:List ByteArray))=y461 at H;have Ny461:=amk hy461.symm;clear hy461;replace H:=bE H;obtain ⟨t464,A3,H⟩:=H;replace H:=iteB H;obtain ⟨rfl,H⟩ | ⟨rfl,H⟩:=H
  · replace H:=bE H;obtain ⟨t465,A5,H⟩:=H;simp only [Option.some.injEq,Prod.mk.injEq] at H;obtain ⟨rfl,rfl⟩:=H;go_enter Try.func14,Try.ntmps14;go_wp2_with (first | ((with_reducible refine gate_dst (N:=2) rfl ?_);refine boxE_ HB 2 #[.int .i64 a0_0, .int .i64 a0_1] 25 ?_;clear HB;intro gb460 w6 HB BK460 GW460 GE460 hb;clear hb;obtain ⟨hcz7_0,hcz7_1,hfz7_0,hfz7_1⟩:=cells2 BK460.out) | ((with_reducible refine gate_dst (N:=8) rfl ?_);refine Kd.R_lit Kd.string _ 9 ?hg (N:=8) ?hd (xs:=([a1]:List ByteArray)) (inner:=[.string a1]) (ok:=fun _=>True) (okp:=fun _=>True) ?hr ?hp (fun _ hk=>hk) trivial (Below.refl _ _) (Nat.le_refl _) (by simp) ?_;(case hd=>rfl);(case hg=>rfl);(case hr=>first | (go_simp;done) | (go_simp;rfl));(case hp=>exact (Reps.one (show Kd.M Kd.string _ _ _ a1 [.string a1] from rfl) (Reps.none _ _)));intro v462 w8 ho9 hb hg_ hnew_;clear hg_ hnew_;(first | rw [←Ny461.out] at ho9 | (simp only [Int.reduceToNat] at ho9;rw [←Ny461.out] at ho9));have HO463:=amk (Kd.R_lower ho9 (below_size bB));replace BK460:=kb2 BK460 hb;replace HB:=hB2 HB hb;clear hb ho9;obtain ⟨Ao10,co10,eo10⟩:=Kd.R_slice HO463.out;subst eo10) | (refine gc_ 41 9 Try.func41 #[.agg #[.int .i64 a0_0, .int .i64 a0_1], .slice Ao10 y461.length co10] ?_;(with_reducible refine (impl_has.calls k a0_0 a0_1 _ _ y461 true _ ?_ ?_ A3.out).mono ?_);exact cB ((Kd.R_reads' HO463.out).2.2);exact (Kd.R_reads' HO463.out).2.1;rintro e w11 ⟨rfl,hb⟩;refine ⟨_,rfl,?_⟩;replace HO463:=amk (Kd.R_below (oX HO463) hb);replace BK460:=kb2 BK460 hb;replace HB:=hB2 HB hb;(try clear hb);obtain ⟨hcz12_0,hcz12_1,hfz12_0,hfz12_1⟩:=cells2 BK460.out) | (refine gc_ 59 13 Try.func59 #[.agg #[.int .i64 a0_0, .int .i64 a0_1], .string a1] ?_;(with_reducible refine (impl_Lock_number.calls k a0_0 a0_1 a1 t465 _ A5.out).mono ?_);rintro e w13 ⟨rfl,hb⟩;refine ⟨_,rfl,?_⟩;replace HO463:=amk (Kd.R_below (oX HO463) hb);replace BK460:=kb2 BK460 hb;replace HB:=hB2 HB hb;(try clear hb)));go_ret2;exact ⟨rF_,bB⟩
  · simp only [Option.some.injEq,Prod.mk.injEq] at H;obtain ⟨rfl,rfl⟩:=H;go_enter Try.func14,Try.ntmps14;go_wp2_with (first | ((with_reducible refine gate_dst (N:=2) rfl ?_);refine boxE_ HB 2 #[.int .i64 a0_0, .int .i64 a0_1] 25 ?_;clear HB;intro gb460 w14 HB BK460 GW460 GE460 hb;clear hb;obtain ⟨hcz15_0,hcz15_1,hfz15_0,hfz15_1⟩:=cells2 BK460.out) | ((with_reducible refine gate_dst (N:=8) rfl ?_);refine Kd.R_lit Kd.string _ 9 ?hg (N:=8) ?hd (xs:=([a1]:List ByteArray)) (inner:=[.string a1]) (ok:=fun _=>True) (okp:=fun _=>True) ?hr ?hp (fun _ hk=>hk) trivial (Below.refl _ _) (Nat.le_refl _) (by simp) ?_;(case hd=>rfl);(case hg=>rfl);(case hr=>first | (go_simp;done) | (go_simp;rfl));(case hp=>exact (Reps.one (show Kd.M Kd.string _ _ _ a1 [.string a1] from rfl) (Reps.none _ _)));intro v462 w16 ho17 hb hg_ hnew_;clear hg_ hnew_;(first | rw [←Ny461.out] at ho17 | (simp only [Int.reduceToNat] at ho17;rw [←Ny461.out] at ho17));have HO463:=amk (Kd.R_lower ho17 (below_size bB));replace BK460:=kb2 BK460 hb;replace HB:=hB2 HB hb;clear hb ho17;obtain ⟨Ao18,co18,eo18⟩:=Kd.R_slice HO463.out;subst eo18) | (refine gc_ 41 9 Try.func41 #[.agg #[.int .i64 a0_0, .int .i64 a0_1], .slice Ao18 y461.length co18] ?_;(with_reducible refine (impl_has.calls k a0_0 a0_1 _ _ y461 false _ ?_ ?_ A3.out).mono ?_);exact cB ((Kd.R_reads' HO463.out).2.2);exact (Kd.R_reads' HO463.out).2.1;rintro e w19 ⟨rfl,hb⟩;refine ⟨_,rfl,?_⟩;replace HO463:=amk (Kd.R_below (oX HO463) hb);replace BK460:=kb2 BK460 hb;replace HB:=hB2 HB hb;(try clear hb)));go_ret2;exact ⟨rF_,bB⟩
/-! ### impl_ZeroCode: function 10 -/
def impl_ZeroCode.f (a0_0:Int) (a0_1:Int):Option (ByteArray×Bool):=(impl_IsLock.f a0_0 a0_1).bind fun t431=>(if t431=true then ((impl_Lock_code.f a0_0 a0_1 0).bind fun t432=>(some (t432,true))) else (some ((⟨#[]⟩:ByteArray),false)))
set_option maxHeartbeats 8000000 in
set_option maxRecDepth 100000 in
theorem impl_ZeroCode.calls (a0_0:Int) (a0_1:Int) (r1:ByteArray) (r2:Bool) (w:World) (h:impl_ZeroCode.f a0_0 a0_1=some (r1,r2)) :
    Calls Try.prog 10 #[.agg #[.int .i64 a0_0, .int .i64 a0_1]] w fun e w'=>e = .returned (.tuple #[.string r1, .bool r2])∧Below w.heap.size w w':=by
  have hu25:=Try.underlying25;have HB:=amk (Below.refl w.heap.size w);unfold impl_ZeroCode.f at h;have H:=h;clear h;replace H:=bE H;obtain ⟨t431,A2,H⟩:=H;replace H:=iteB H;obtain ⟨rfl,H⟩ | ⟨rfl,H⟩:=H
  · replace H:=bE H;obtain ⟨t432,A4,H⟩:=H;simp only [Option.some.injEq,Prod.mk.injEq] at H;obtain ⟨rfl,rfl⟩:=H;go_enter Try.func10,Try.ntmps10;go_wp2_with (first | ((with_reducible refine gate_dst (N:=1) rfl ?_);refine boxE_ HB 1 #[.int .i64 a0_0, .int .i64 a0_1] 25 ?_;clear HB;intro gb430 w5 HB BK430 GW430 GE430 hb;clear hb;obtain ⟨hcz6_0,hcz6_1,hfz6_0,hfz6_1⟩:=cells2 BK430.out) | (refine gc_ 53 5 Try.func53 #[.agg #[.int .i64 a0_0, .int .i64 a0_1]] ?_;(with_reducible refine (impl_IsLock.calls a0_0 a0_1 true _ A2.out).mono ?_);rintro e w7 ⟨rfl,hb⟩;refine ⟨_,rfl,?_⟩;replace BK430:=kb2 BK430 hb;replace HB:=hB2 HB hb;(try clear hb);obtain ⟨hcz8_0,hcz8_1,hfz8_0,hfz8_1⟩:=cells2 BK430.out) | (refine gc_ 54 8 Try.func54 #[.agg #[.int .i64 a0_0, .int .i64 a0_1], .int .i64 0] ?_;(with_reducible refine (impl_Lock_code.calls a0_0 a0_1 0 t432 _ A4.out).mono ?_);rintro e w9 ⟨rfl,hb⟩;refine ⟨_,rfl,?_⟩;replace BK430:=kb2 BK430 hb;replace HB:=hB2 HB hb;(try clear hb)));go_ret2;exact ⟨rF_,bB⟩
  · simp only [Option.some.injEq,Prod.mk.injEq] at H;obtain ⟨rfl,rfl⟩:=H;go_enter Try.func10,Try.ntmps10;go_wp2_with (first | ((with_reducible refine gate_dst (N:=1) rfl ?_);refine boxE_ HB 1 #[.int .i64 a0_0, .int .i64 a0_1] 25 ?_;clear HB;intro gb430 w10 HB BK430 GW430 GE430 hb;clear hb;obtain ⟨hcz11_0,hcz11_1,hfz11_0,hfz11_1⟩:=cells2 BK430.out) | (refine gc_ 53 5 Try.func53 #[.agg #[.int .i64 a0_0, .int .i64 a0_1]] ?_;(with_reducible refine (impl_IsLock.calls a0_0 a0_1 false _ A2.out).mono ?_);rintro e w12 ⟨rfl,hb⟩;refine ⟨_,rfl,?_⟩;replace BK430:=kb2 BK430 hb;replace HB:=hB2 HB hb;(try clear hb)));go_ret2;exact ⟨rF_,bB⟩
theorem eqA25 (d:Nat) (w:World) (x0 y0:Int) (x1 y1:Int) :
    (Op.equalIn (d + 2) 25 (.agg #[.int .i64 x0, .int .i64 x1]) (.agg #[.int .i64 y0, .int .i64 y1])).run Try.prog w = .ok (x0 == y0 && (x1 == y1)) w:=by
  refine eqA_of Try.underlying25 (by kernel_rfl) ?_;refine eqf_cons (by rfl) (by go_simp;rfl) (by go_simp;rfl) (by go_simp) ?_;exact eqf_last (by rfl) (by go_simp;rfl) (by go_simp;rfl) (by go_simp)
theorem eqA44 (d:Nat) (w:World) (x0 y0:Int) (x1 y1:Int) (x2 y2:Int) :
    (Op.equalIn (d + 2) 44 (.agg #[.int .i64 x0, .int .i64 x1, .int .i64 x2]) (.agg #[.int .i64 y0, .int .i64 y1, .int .i64 y2])).run Try.prog w = .ok (x0 == y0 && (x1 == y1 && (x2 == y2))) w:=by
  refine eqA_of Try.underlying44 (by kernel_rfl) ?_;refine eqf_cons (by rfl) (by go_simp;rfl) (by go_simp;rfl) (by go_simp) ?_;refine eqf_cons (by rfl) (by go_simp;rfl) (by go_simp;rfl) (by go_simp) ?_;exact eqf_last (by rfl) (by go_simp;rfl) (by go_simp;rfl) (by go_simp)
section
attribute [local go_sem high] eqA25 eqA44
/-! ### laws_ePuzzle: function 8 -/
mutual
def laws_ePuzzle.j0:Nat→Bool→Int→Int→List (S44)→Int→Int→List (S44)→Option (Bool)
  | 0,_,_,_,_,_,_,_=>none
  | k + 1,x19,x427000,x427001,x427002,x428000,x428001,x428002=>if x19=true then (some false) else (laws_ePuzzle.l0 k (x427002.length:Int) 0 x427000 x427001 x427002 x428000 x428001 x428002)
def laws_ePuzzle.l0:Nat→Int→Int→Int→Int→List (S44)→Int→Int→List (S44)→Option (Bool)
  | 0,_,_,_,_,_,_,_,_=>none
  | k + 1,x22,x23,x427000,x427001,x427002,x428000,x428001,x428002=>if x23 < x22 then (if 0≤x23 then (if x23 < (x427002.length:Int) then (if x23 < (x428002.length:Int) then (if (!(((rd_T44 x427002 x23).f0) == ((rd_T44 x428002 x23).f0)) || (!(((rd_T44 x427002 x23).f1) == ((rd_T44 x428002 x23).f1)) || (!(((rd_T44 x427002 x23).f2) == ((rd_T44 x428002 x23).f2)))))=true then (some false) else (laws_ePuzzle.l0 k x22 (wrap64 (x23 + 1)) x427000 x427001 x427002 x428000 x428001 x428002)) else (none)) else (none)) else (none)) else (some true)
end
def laws_ePuzzle.f (k:Nat) (a0_0:Int) (a0_1:Int) (l0_2:List (S44)) (a1_0:Int) (a1_1:Int) (l1_2:List (S44)):Option (Bool):=if (!(a0_0 == a1_0) || (!(a0_1 == a1_1)))=true then (laws_ePuzzle.j0 k true a0_0 a0_1 l0_2 a1_0 a1_1 l1_2) else (laws_ePuzzle.j0 k ((l0_2.length:Int) != (l1_2.length:Int)) a0_0 a0_1 l0_2 a1_0 a1_1 l1_2)
set_option maxHeartbeats 8000000 in
set_option maxRecDepth 100000 in
theorem laws_ePuzzle.calls (k:Nat) (a0_0:Int) (a0_1:Int) (A0_2:Option Addr) (c0_2:Nat) (l0_2:List (S44)) (a1_0:Int) (a1_1:Int) (A1_2:Option Addr) (c1_2:Nat) (l1_2:List (S44)) (r:Bool) (w:World) (hr0_2:Kd.C k44 w A0_2 l0_2.length l0_2) (hc0_2:l0_2.length≤c0_2) (hr1_2:Kd.C k44 w A1_2 l1_2.length l1_2) (hc1_2:l1_2.length≤c1_2) (h:laws_ePuzzle.f k a0_0 a0_1 l0_2 a1_0 a1_1 l1_2=some r) :
    Calls Try.prog 8 #[.agg #[.int .i64 a0_0, .int .i64 a0_1, .slice A0_2 l0_2.length c0_2], .agg #[.int .i64 a1_0, .int .i64 a1_1, .slice A1_2 l1_2.length c1_2]] w fun e w'=>e = .returned (.bool r)∧Below w.heap.size w w':=by
  have hu30:=Try.underlying30;have hu25:=Try.underlying25;have hu44:=Try.underlying44;have HR0_2:=amk hr0_2;have HC0_2:=amk hc0_2;clear hr0_2 hc0_2;have HR1_2:=amk hr1_2;have HC1_2:=amk hc1_2;clear hr1_2 hc1_2;have HB:=amk (Below.refl w.heap.size w);unfold laws_ePuzzle.f at h;have H:=h;clear h;have HC3:=amk H;clear H;go_enter Try.func8,Try.ntmps8
  go_upto_region 1 with (first | ((with_reducible refine gate_dst (N:=2) rfl ?_);(try (refine gate_guard (by rfl) ?_;dsimp only));refine boxE_ HB 2 #[.int .i64 a0_0, .int .i64 a0_1, .slice A0_2 l0_2.length c0_2] 30 ?_;clear HB;intro gb426 w4 HB BK426 GW426 GE426 hb;clear hb) | ((with_reducible refine gate_dst (N:=3) rfl ?_);(try (refine gate_guard (by rfl) ?_;dsimp only));refine boxG_ 3 #[.int .i64 a1_0, .int .i64 a1_1, .slice A1_2 l1_2.length c1_2] 30 ?_;intro gb427 w5 hg BK427 hb;have GW427:=sZ HB hg;have GE427:=sZ HB hg;replace HB:=hB2 HB hb;have NB426_427:=neL BK426 hg;have NB427_426:=neR BK426 hg;replace BK426:=kb2 BK426 hb;clear hb hg))
  repeat (go_quiet (first | ((with_reducible refine gate_dst (N:=2) rfl ?_);(try (refine gate_guard (by rfl) ?_;dsimp only));refine boxE_ HB 2 #[.int .i64 a0_0, .int .i64 a0_1, .slice A0_2 l0_2.length c0_2] 30 ?_;clear HB;intro gb426 w4 HB BK426 GW426 GE426 hb;clear hb) | ((with_reducible refine gate_dst (N:=3) rfl ?_);(try (refine gate_guard (by rfl) ?_;dsimp only));refine boxG_ 3 #[.int .i64 a1_0, .int .i64 a1_1, .slice A1_2 l1_2.length c1_2] 30 ?_;intro gb427 w5 hg BK427 hb;have GW427:=sZ HB hg;have GE427:=sZ HB hg;replace HB:=hB2 HB hb;have NB426_427:=neL BK426 hg;have NB427_426:=neR BK426 hg;replace BK426:=kb2 BK426 hb;clear hb hg));go_upto_region 1 with (first | ((with_reducible refine gate_dst (N:=2) rfl ?_);(try (refine gate_guard (by rfl) ?_;dsimp only));refine boxE_ HB 2 #[.int .i64 a0_0, .int .i64 a0_1, .slice A0_2 l0_2.length c0_2] 30 ?_;clear HB;intro gb426 w4 HB BK426 GW426 GE426 hb;clear hb) | ((with_reducible refine gate_dst (N:=3) rfl ?_);(try (refine gate_guard (by rfl) ?_;dsimp only));refine boxG_ 3 #[.int .i64 a1_0, .int .i64 a1_1, .slice A1_2 l1_2.length c1_2] 30 ?_;intro gb427 w5 hg BK427 hb;have GW427:=sZ HB hg;have GE427:=sZ HB hg;replace HB:=hB2 HB hb;have NB426_427:=neL BK426 hg;have NB427_426:=neR BK426 hg;replace BK426:=kb2 BK426 hb;clear hb hg)))
  (try simp only [Act.put,List.setIfInBounds_toArray,List.set_cons_zero,List.set_cons_succ])
  go_cut [19] (fun v19 wc=> ∃ (kq:Nat) (x19_2:Bool),v19 = .bool x19_2∧Aside0 (laws_ePuzzle.j0 kq x19_2 a0_0 a0_1 l0_2 a1_0 a1_1 l1_2=some r)∧Aside0 (kq≤k)∧Aside0 (wc.heap[gb426]?=some (.cells #[.int .i64 a0_0, .int .i64 a0_1,(.slice A0_2 l0_2.length c0_2)] 30 (0,0)))∧Aside0 (wc.heap[gb427]?=some (.cells #[.int .i64 a1_0, .int .i64 a1_1,(.slice A1_2 l1_2.length c1_2)] 30 (0,0)))∧Aside0 (Below w.heap.size w wc))
  case first =>
    have H:=HC3.out;clear HC3
    by_cases c6:(!(a0_0 == a1_0) || (!(a0_1 == a1_1)))=true
    · rw [if_pos c6] at H;have c6b0:(!(a0_0 == a1_0) || (!(a0_1 == a1_1)))=true:=c6;clear c6;(first | rw [c6b0] | (simp only [i64_w,i32_w];rw [c6b0]) | skip);have H':=amk H;clear H;have hnb7:=NB426_427.out;have hnc7:=NB427_426.out;obtain ⟨hcz8_0,hcz8_1,hcz8_2,hfz8_0,hfz8_1,hfz8_2⟩:=cells3 BK426.out;obtain ⟨hcz9_0,hcz9_1,hcz9_2,hfz9_0,hfz9_1,hfz9_2⟩:=cells3 BK427.out;go_wp2
      repeat (go_quiet (fail);try go_wp2)
      go_meet
      case rel=>exact ⟨_,(true),rS_,H',⟨by first | omega | exact Nat.le_refl _⟩,⟨kB BK426⟩,⟨kB BK427⟩,⟨bB⟩⟩
    · rw [if_neg c6] at H;(have c6b0:(!(a0_0 == a1_0) || (!(a0_1 == a1_1)))=false:=by simpa using c6);clear c6;(first | rw [c6b0] | (simp only [i64_w,i32_w];rw [c6b0]) | skip);have H':=amk H;clear H;have hnb10:=NB426_427.out;have hnc10:=NB427_426.out;obtain ⟨hcz11_0,hcz11_1,hcz11_2,hfz11_0,hfz11_1,hfz11_2⟩:=cells3 BK426.out;obtain ⟨hcz12_0,hcz12_1,hcz12_2,hfz12_0,hfz12_1,hfz12_2⟩:=cells3 BK427.out;go_wp2
      repeat (go_quiet (fail);try go_wp2)
      go_meet
      case rel=>exact ⟨_,(((l0_2.length:Int) != (l1_2.length:Int))),rS_,H',⟨by first | omega | exact Nat.le_refl _⟩,⟨kB BK426⟩,⟨kB BK427⟩,⟨bB⟩⟩
  case rest =>
    clear HC3;(try clear c1);(try clear p2);(try clear c6);(try clear c6b0);(try clear c7);(try clear c8);(try clear c10);(try clear hcz11_0);(try clear hcz11_1);(try clear hcz11_2);(try clear hcz12_0);(try clear hcz12_1);(try clear hcz12_2);(try clear hcz8_0);(try clear hcz8_1);(try clear hcz8_2);(try clear hcz9_0);(try clear hcz9_1);(try clear hcz9_2);(try clear hfz11_0);(try clear hfz11_1);(try clear hfz11_2);(try clear hfz12_0);(try clear hfz12_1);(try clear hfz12_2);(try clear hfz8_0);(try clear hfz8_1);(try clear hfz8_2);(try clear hfz9_0);(try clear hfz9_1);(try clear hfz9_2);obtain ⟨kq,x19_2,rfl,HA,HJ2,BK426,BK427,HB⟩:=hcut
    cases kq with
    | zero=>exact absurd HA.out (by simp [laws_ePuzzle.j0])
    | succ kj2 =>
      have H:=HA.out;clear HA;simp only [laws_ePuzzle.j0] at H;replace H:=iteB H;obtain ⟨rfl,H⟩ | ⟨rfl,H⟩:=H
      · obtain rfl:=Option.some.inj H;go_wp2
        repeat (go_quiet (fail);try go_wp2)
        go_ret;exact ⟨rF_,bB⟩
      · have H':=amk H;clear H;have hnb14:=NB426_427.out;have hnc14:=NB427_426.out;obtain ⟨hcz15_0,hcz15_1,hcz15_2,hfz15_0,hfz15_1,hfz15_2⟩:=cells3 BK426.out;go_wp2
        repeat (go_quiet (fail);try go_wp2)
        go_loopg [23] kj2 (fun kq v23 w'=> ∃ (x23_2:Int),v23 = .int .i64 x23_2∧Aside0 (laws_ePuzzle.l0 kq (l0_2.length:Int) x23_2 a0_0 a0_1 l0_2 a1_0 a1_1 l1_2=some r)∧Aside0 (kq≤kj2)∧Aside0 (w'.heap[gb426]?=some (.cells #[.int .i64 a0_0, .int .i64 a0_1,(.slice A0_2 l0_2.length c0_2)] 30 (0,0)))∧Aside0 (w'.heap[gb427]?=some (.cells #[.int .i64 a1_0, .int .i64 a1_1,(.slice A1_2 l1_2.length c1_2)] 30 (0,0)))∧Aside0 (Below w.heap.size w w'))
        case atStart=>exact ⟨(0),rS_,H',⟨Nat.le_refl _⟩,⟨kB BK426⟩,⟨kB BK427⟩,⟨bB⟩⟩
        case round =>
          clear H';(try clear c1);(try clear p2);(try clear c6);(try clear c6b0);(try clear c7);(try clear c8);(try clear c10);(try clear c13);(try clear c14);(try clear hcz11_0);(try clear hcz11_1);(try clear hcz11_2);(try clear hcz12_0);(try clear hcz12_1);(try clear hcz12_2);(try clear hcz15_0);(try clear hcz15_1);(try clear hcz15_2);(try clear hcz8_0);(try clear hcz8_1);(try clear hcz8_2);(try clear hcz9_0);(try clear hcz9_1);(try clear hcz9_2);(try clear hfz11_0);(try clear hfz11_1);(try clear hfz11_2);(try clear hfz12_0);(try clear hfz12_1);(try clear hfz12_2);(try clear hfz15_0);(try clear hfz15_1);(try clear hfz15_2);(try clear hfz8_0);(try clear hfz8_1);(try clear hfz8_2);(try clear hfz9_0);(try clear hfz9_1);(try clear hfz9_2);(try clear p2);obtain ⟨x23_2,rfl,HA,HK2,BK426,BK427,HB⟩:=hrel
          cases gk with
          | zero=>exact absurd HA.out (by simp [laws_ePuzzle.l0])
          | succ k2 =>
            have H:=HA.out;clear HA;simp only [laws_ePuzzle.l0] at H;replace H:=iteE H;obtain ⟨c16b0,H⟩ | ⟨c16b0,H⟩:=H
            · replace H:=iteN H;obtain ⟨c17b0,H⟩:=H;replace H:=iteN H;obtain ⟨c18b0,H⟩:=H;replace H:=iteN H;obtain ⟨c19b0,H⟩:=H
              by_cases c20:(!(((rd_T44 l0_2 x23_2).f0) == ((rd_T44 l1_2 x23_2).f0)) || (!(((rd_T44 l0_2 x23_2).f1) == ((rd_T44 l1_2 x23_2).f1)) || (!(((rd_T44 l0_2 x23_2).f2) == ((rd_T44 l1_2 x23_2).f2)))))=true
              · rw [if_pos c20] at H;have c20b0:(!(((rd_T44 l0_2 x23_2).f0) == ((rd_T44 l1_2 x23_2).f0)) || (!(((rd_T44 l0_2 x23_2).f1) == ((rd_T44 l1_2 x23_2).f1)) || (!(((rd_T44 l0_2 x23_2).f2) == ((rd_T44 l1_2 x23_2).f2)))))=true:=c20;clear c20;obtain rfl:=Option.some.inj H;have hnb21:=NB426_427.out;have hnc21:=NB427_426.out;obtain ⟨hcz22_0,hcz22_1,hcz22_2,hfz22_0,hfz22_1,hfz22_2⟩:=cells3 BK426.out;have p428:0≤(x23_2:Int):=dA_;have q428:x23_2 < (l0_2.length:Int):=dA_;obtain ⟨ad428,e428,hx428_0,hx428_1,hx428_2⟩:=at_T44 HR0_2.out x23_2 p428 q428;cases e428;replace hx428_0:=(HB.out.cell (World.block_lt_of_cell? w _ hx428_0)).trans hx428_0;replace hx428_1:=(HB.out.cell (World.block_lt_of_cell? w _ hx428_1)).trans hx428_1;replace hx428_2:=(HB.out.cell (World.block_lt_of_cell? w _ hx428_2)).trans hx428_2;replace p428:=eq_true p428;replace q428:=eq_true q428;obtain ⟨hcz23_0,hcz23_1,hcz23_2,hfz23_0,hfz23_1,hfz23_2⟩:=cells3 BK427.out;have p429:0≤(x23_2:Int):=dA_;have q429:x23_2 < (l1_2.length:Int):=dA_;obtain ⟨ad429,e429,hx429_0,hx429_1,hx429_2⟩:=at_T44 HR1_2.out x23_2 p429 q429;cases e429;replace hx429_0:=(HB.out.cell (World.block_lt_of_cell? w _ hx429_0)).trans hx429_0;replace hx429_1:=(HB.out.cell (World.block_lt_of_cell? w _ hx429_1)).trans hx429_1;replace hx429_2:=(HB.out.cell (World.block_lt_of_cell? w _ hx429_2)).trans hx429_2;replace p429:=eq_true p429;replace q429:=eq_true q429;go_wp2
                repeat (go_quiet (fail);try go_wp2)
                go_ret;exact ⟨rF_,bB⟩
              · rw [if_neg c20] at H;(have c20b0:(!(((rd_T44 l0_2 x23_2).f0) == ((rd_T44 l1_2 x23_2).f0)) || (!(((rd_T44 l0_2 x23_2).f1) == ((rd_T44 l1_2 x23_2).f1)) || (!(((rd_T44 l0_2 x23_2).f2) == ((rd_T44 l1_2 x23_2).f2)))))=false:=by simpa using c20);clear c20;have H':=amk H;clear H;have hnb24:=NB426_427.out;have hnc24:=NB427_426.out;obtain ⟨hcz25_0,hcz25_1,hcz25_2,hfz25_0,hfz25_1,hfz25_2⟩:=cells3 BK426.out;have p428:0≤(x23_2:Int):=dA_;have q428:x23_2 < (l0_2.length:Int):=dA_;obtain ⟨ad428,e428,hx428_0,hx428_1,hx428_2⟩:=at_T44 HR0_2.out x23_2 p428 q428;cases e428;replace hx428_0:=(HB.out.cell (World.block_lt_of_cell? w _ hx428_0)).trans hx428_0;replace hx428_1:=(HB.out.cell (World.block_lt_of_cell? w _ hx428_1)).trans hx428_1;replace hx428_2:=(HB.out.cell (World.block_lt_of_cell? w _ hx428_2)).trans hx428_2;replace p428:=eq_true p428;replace q428:=eq_true q428;obtain ⟨hcz26_0,hcz26_1,hcz26_2,hfz26_0,hfz26_1,hfz26_2⟩:=cells3 BK427.out;have p429:0≤(x23_2:Int):=dA_;have q429:x23_2 < (l1_2.length:Int):=dA_;obtain ⟨ad429,e429,hx429_0,hx429_1,hx429_2⟩:=at_T44 HR1_2.out x23_2 p429 q429;cases e429;replace hx429_0:=(HB.out.cell (World.block_lt_of_cell? w _ hx429_0)).trans hx429_0;replace hx429_1:=(HB.out.cell (World.block_lt_of_cell? w _ hx429_1)).trans hx429_1;replace hx429_2:=(HB.out.cell (World.block_lt_of_cell? w _ hx429_2)).trans hx429_2;replace p429:=eq_true p429;replace q429:=eq_true q429;go_wp2
                repeat (go_quiet (fail);try go_wp2)
                go_roundg k2
                case measure=>have:=HJ2.out;have:=HK2.out;omega
                case rel=>exact ⟨(wrap64 (x23_2 + 1)),rS_,H',⟨by have:=HJ2.out;have:=HK2.out;omega⟩,⟨kB BK426⟩,⟨kB BK427⟩,⟨bB⟩⟩
            · obtain rfl:=Option.some.inj H;go_wp2
              repeat (go_quiet (fail);try go_wp2)
              go_ret;exact ⟨rF_,bB⟩
end
/-! ### laws_eText: function 16 -/
def laws_eText.l0:Nat→ByteArray→List ByteArray→Int→Int→Option (Bool)
  | 0,_,_,_,_=>none
  | k + 1,x1,x7,x8,x9=>if x9 < x8 then (if 0≤x9 then (if x9 < (x7.length:Int) then (if (rdOf ByteArray.empty x7 x9).toList=x1.toList then (some true) else (laws_eText.l0 k x1 x7 x8 (wrap64 (x9 + 1)))) else (none)) else (none)) else (some false)
def laws_eText.f (k:Nat) (l0:List ByteArray) (a1:ByteArray):Option (Bool):=laws_eText.l0 k a1 l0 (l0.length:Int) 0
set_option maxHeartbeats 8000000 in
set_option maxRecDepth 100000 in
theorem laws_eText.calls (k:Nat) (A0:Option Addr) (c0:Nat) (l0:List ByteArray) (a1:ByteArray) (r:Bool) (w:World) (hr0:Kd.C Kd.string w A0 l0.length l0) (hc0:l0.length≤c0) (h:laws_eText.f k l0 a1=some r) :
    Calls Try.prog 16 #[.slice A0 l0.length c0, .string a1] w fun e w'=>e = .returned (.bool r)∧Drawn0 w w':=by
  have HR0:=amk hr0;have HC0:=amk hc0;clear hr0 hc0;unfold laws_eText.f at h;have H:=h;clear h;have H':=amk H;clear H;go_enter Try.func16,Try.ntmps16;go_wp2
  go_loopg [9] k (fun kq v9 w'=> ∃ (x9_1:Int),v9 = .int .i64 x9_1∧Aside0 (laws_eText.l0 kq a1 l0 (l0.length:Int) x9_1=some r)∧Aside0 (kq≤k)∧Drawn0 w w')
  case atStart=>exact ⟨(0),rS_,H',⟨Nat.le_refl _⟩,dR_⟩
  case round =>
    clear H';(try clear c1);(try clear p2);obtain ⟨x9_1,rfl,HA,HK1,⟨m1,rfl⟩⟩:=hrel
    cases gk with
    | zero=>exact absurd HA.out (by simp [laws_eText.l0])
    | succ k1 =>
      have H:=HA.out;clear HA;simp only [laws_eText.l0] at H;replace H:=iteE H;obtain ⟨c3b0,H⟩ | ⟨c3b0,H⟩:=H
      · replace H:=iteN H;obtain ⟨c4b0,H⟩:=H;replace H:=iteN H;obtain ⟨c5b0,H⟩:=H
        by_cases c6:(rdOf ByteArray.empty l0 x9_1).toList=a1.toList
        · rw [if_pos c6] at H;have c6b0:((rdOf ByteArray.empty l0 x9_1).toList == a1.toList)=true:=beq_iff_eq.mpr c6;have c6b1:((rdOf ByteArray.empty l0 x9_1).toList != a1.toList)=false:=bne_eq_false_iff_eq.mpr c6;clear c6;obtain rfl:=Option.some.inj H;have p466:0≤(x9_1:Int):=dA_;have q466:x9_1 < (l0.length:Int):=dA_;obtain ⟨ad466,e466,hx466_0⟩:=Kd.at_string HR0.out x9_1 p466 q466;cases e466;replace p466:=eq_true p466;replace q466:=eq_true q466;go_wp2;go_ret;exact ⟨rS_,dR_⟩
        · rw [if_neg c6] at H;have c6b0:((rdOf ByteArray.empty l0 x9_1).toList == a1.toList)=false:=beq_eq_false_iff_ne.mpr c6;have c6b1:((rdOf ByteArray.empty l0 x9_1).toList != a1.toList)=true:=bne_iff_ne.mpr c6;have H':=amk H;clear H;have p466:0≤(x9_1:Int):=dA_;have q466:x9_1 < (l0.length:Int):=dA_;obtain ⟨ad466,e466,hx466_0⟩:=Kd.at_string HR0.out x9_1 p466 q466;cases e466;replace p466:=eq_true p466;replace q466:=eq_true q466;go_wp2;go_roundg k1
          case measure=>have:=HK1.out;omega
          case rel=>exact ⟨(wrap64 (x9_1 + 1)),rS_,H',⟨by have:=HK1.out;omega⟩,dR_⟩
      · obtain rfl:=Option.some.inj H;go_wp2;go_ret;exact ⟨rS_,dR_⟩
/-! ### laws_eTexts: function 22 -/
def laws_eTexts.l0:Nat→List ByteArray→List ByteArray→Int→Int→Option (Bool)
  | 0,_,_,_,_=>none
  | k + 1,x0,x1,x12,x13=>if x13 < x12 then (if 0≤x13 then (if x13 < (x0.length:Int) then (if x13 < (x1.length:Int) then (if (rdOf ByteArray.empty x0 x13).toList=(rdOf ByteArray.empty x1 x13).toList then (laws_eTexts.l0 k x0 x1 x12 (wrap64 (x13 + 1))) else (some false)) else (none)) else (none)) else (none)) else (some true)
def laws_eTexts.f (k:Nat) (l0:List ByteArray) (l1:List ByteArray):Option (Bool):=if (l0.length:Int)=(l1.length:Int) then (laws_eTexts.l0 k l0 l1 (l0.length:Int) 0) else (some false)
set_option maxHeartbeats 8000000 in
set_option maxRecDepth 100000 in
theorem laws_eTexts.calls (k:Nat) (A0:Option Addr) (c0:Nat) (l0:List ByteArray) (A1:Option Addr) (c1:Nat) (l1:List ByteArray) (r:Bool) (w:World) (hr0:Kd.C Kd.string w A0 l0.length l0) (hc0:l0.length≤c0) (hr1:Kd.C Kd.string w A1 l1.length l1) (hc1:l1.length≤c1) (h:laws_eTexts.f k l0 l1=some r) :
    Calls Try.prog 22 #[.slice A0 l0.length c0, .slice A1 l1.length c1] w fun e w'=>e = .returned (.bool r)∧Drawn0 w w':=by
  have HR0:=amk hr0;have HC0:=amk hc0;clear hr0 hc0;have HR1:=amk hr1;have HC1:=amk hc1;clear hr1 hc1;unfold laws_eTexts.f at h;have H:=h;clear h
  by_cases c3:(l0.length:Int)=(l1.length:Int)
  · rw [if_pos c3] at H;have c3b0:((l0.length:Int) == (l1.length:Int))=true:=beq_iff_eq.mpr c3;have c3b1:((l0.length:Int) != (l1.length:Int))=false:=bne_eq_false_iff_eq.mpr c3;(have c3b2:(l0.length == l1.length)=true:=by first | simpa using c3 | (simp at c3 ⊢;omega));clear c3;have H':=amk H;clear H;go_enter Try.func22,Try.ntmps22;go_wp2
    repeat (go_quiet (fail);try go_wp2)
    go_loopg [13] k (fun kq v13 w'=> ∃ (x13_1:Int),v13 = .int .i64 x13_1∧Aside0 (laws_eTexts.l0 kq l0 l1 (l0.length:Int) x13_1=some r)∧Aside0 (kq≤k)∧Drawn0 w w')
    case atStart=>exact ⟨(0),rS_,H',⟨Nat.le_refl _⟩,dR_⟩
    case round =>
      clear H';(try clear c1);(try clear c2);(try clear p2);(try clear c3);(try clear c3b0);(try clear c3b1);(try clear c3b2);obtain ⟨x13_1,rfl,HA,HK1,⟨m1,rfl⟩⟩:=hrel
      cases gk with
      | zero=>exact absurd HA.out (by simp [laws_eTexts.l0])
      | succ k1 =>
        have H:=HA.out;clear HA;simp only [laws_eTexts.l0] at H;replace H:=iteE H;obtain ⟨c4b0,H⟩ | ⟨c4b0,H⟩:=H
        · replace H:=iteN H;obtain ⟨c5b0,H⟩:=H;replace H:=iteN H;obtain ⟨c6b0,H⟩:=H;replace H:=iteN H;obtain ⟨c7b0,H⟩:=H
          by_cases c8:(rdOf ByteArray.empty l0 x13_1).toList=(rdOf ByteArray.empty l1 x13_1).toList
          · rw [if_pos c8] at H;have c8b0:((rdOf ByteArray.empty l0 x13_1).toList == (rdOf ByteArray.empty l1 x13_1).toList)=true:=beq_iff_eq.mpr c8;have c8b1:((rdOf ByteArray.empty l0 x13_1).toList != (rdOf ByteArray.empty l1 x13_1).toList)=false:=bne_eq_false_iff_eq.mpr c8;clear c8;have H':=amk H;clear H;have p641:0≤(x13_1:Int):=dA_;have q641:x13_1 < (l0.length:Int):=dA_;obtain ⟨ad641,e641,hx641_0⟩:=Kd.at_string HR0.out x13_1 p641 q641;cases e641;replace p641:=eq_true p641;replace q641:=eq_true q641;have p642:0≤(x13_1:Int):=dA_;have q642:x13_1 < (l1.length:Int):=dA_;obtain ⟨ad642,e642,hx642_0⟩:=Kd.at_string HR1.out x13_1 p642 q642;cases e642;replace p642:=eq_true p642;replace q642:=eq_true q642;go_wp2
            repeat (go_quiet (fail);try go_wp2)
            go_roundg k1
            case measure=>have:=HK1.out;omega
            case rel=>exact ⟨(wrap64 (x13_1 + 1)),rS_,H',⟨by have:=HK1.out;omega⟩,dR_⟩
          · rw [if_neg c8] at H;have c8b0:((rdOf ByteArray.empty l0 x13_1).toList == (rdOf ByteArray.empty l1 x13_1).toList)=false:=beq_eq_false_iff_ne.mpr c8;have c8b1:((rdOf ByteArray.empty l0 x13_1).toList != (rdOf ByteArray.empty l1 x13_1).toList)=true:=bne_iff_ne.mpr c8;obtain rfl:=Option.some.inj H;have p641:0≤(x13_1:Int):=dA_;have q641:x13_1 < (l0.length:Int):=dA_;obtain ⟨ad641,e641,hx641_0⟩:=Kd.at_string HR0.out x13_1 p641 q641;cases e641;replace p641:=eq_true p641;replace q641:=eq_true q641;have p642:0≤(x13_1:Int):=dA_;have q642:x13_1 < (l1.length:Int):=dA_;obtain ⟨ad642,e642,hx642_0⟩:=Kd.at_string HR1.out x13_1 p642 q642;cases e642;replace p642:=eq_true p642;replace q642:=eq_true q642;go_wp2
            repeat (go_quiet (fail);try go_wp2)
            go_ret;exact ⟨rS_,dR_⟩
        · obtain rfl:=Option.some.inj H;go_wp2
          repeat (go_quiet (fail);try go_wp2)
          go_ret;exact ⟨rS_,dR_⟩
  · rw [if_neg c3] at H;have c3b0:((l0.length:Int) == (l1.length:Int))=false:=beq_eq_false_iff_ne.mpr c3;have c3b1:((l0.length:Int) != (l1.length:Int))=true:=bne_iff_ne.mpr c3;(have c3b2:(l0.length == l1.length)=false:=by first | simpa using c3 | (simp at c3 ⊢;omega));obtain rfl:=Option.some.inj H;go_enter Try.func22,Try.ntmps22;go_wp2
    repeat (go_quiet (fail);try go_wp2)
    go_ret;exact ⟨rS_,dR_⟩
/-! ### spec_l1In: function 48 -/
def spec_l1In.f (a0:Int) (a1:Int) (a2:Int):Option (Bool):=if a0 ≥ a1 then (some (decide (a0≤a2))) else (some false)
set_option maxHeartbeats 8000000 in
set_option maxRecDepth 100000 in
theorem spec_l1In.calls (a0:Int) (a1:Int) (a2:Int) (r:Bool) (w:World) (h:spec_l1In.f a0 a1 a2=some r) :
    Calls Try.prog 48 #[.int .i64 a0, .int .i64 a1, .int .i64 a2] w fun e w'=>e = .returned (.bool r)∧Drawn0 w w':=by
  unfold spec_l1In.f at h;have H:=h;clear h
  by_cases c4:a0 ≥ a1
  · rw [if_pos c4] at H;have c4b0:decide (a1≤a0)=true:=decide_eq_true c4;clear c4;obtain rfl:=Option.some.inj H;go_enter Try.func48,Try.ntmps48;go_wp2;go_ret;exact ⟨rS_,dR_⟩
  · rw [if_neg c4] at H;have c4b0:decide (a1≤a0)=false:=decide_eq_false c4;clear c4;obtain rfl:=Option.some.inj H;go_enter Try.func48,Try.ntmps48;go_wp2;go_ret;exact ⟨rS_,dR_⟩
/-! ### spec_whCount: function 50 -/
def spec_whCount.l0:Nat→Int→Int→Int→Int→Option (Int)
  | 0,_,_,_,_=>none
  | k + 1,x3,x4,x186000,x186001=>if x4 > 0 then (spec_whCount.l0 k (wrap64 (x3 * x186001)) (wrap64 (x4 - 1)) x186000 x186001) else (some x3)
def spec_whCount.f (k:Nat) (a0_0:Int) (a0_1:Int):Option (Int):=spec_whCount.l0 k 1 a0_0 a0_0 a0_1
set_option maxHeartbeats 8000000 in
set_option maxRecDepth 100000 in
theorem spec_whCount.calls (k:Nat) (a0_0:Int) (a0_1:Int) (r:Int) (w:World) (h:spec_whCount.f k a0_0 a0_1=some r) :
    Calls Try.prog 50 #[.agg #[.int .i64 a0_0, .int .i64 a0_1]] w fun e w'=>e = .returned (.int .i64 r)∧Below w.heap.size w w':=by
  have hu25:=Try.underlying25;have HB:=amk (Below.refl w.heap.size w);unfold spec_whCount.f at h;have H:=h;clear h;have H':=amk H;clear H;go_enter Try.func50,Try.ntmps50;go_wp2_with (first | ((with_reducible refine gate_dst (N:=1) rfl ?_);refine boxE_ HB 1 #[.int .i64 a0_0, .int .i64 a0_1] 25 ?_;clear HB;intro gb185 w2 HB BK185 GW185 GE185 hb;clear hb;obtain ⟨hcz3_0,hcz3_1,hfz3_0,hfz3_1⟩:=cells2 BK185.out))
  go_loopg [3,4] k (fun kq v3 v4 w'=> ∃ (x3_1:Int) (x4_1:Int),v3 = .int .i64 x3_1∧v4 = .int .i64 x4_1∧Aside0 (spec_whCount.l0 kq x3_1 x4_1 a0_0 a0_1=some r)∧Aside0 (kq≤k)∧Aside0 (w'.heap[gb185]?=some (.cells #[.int .i64 a0_0, .int .i64 a0_1] 25 (0,0)))∧Aside0 (Below w.heap.size w w'))
  case atStart=>exact ⟨(1),(a0_0),rS_,rS_,H',⟨Nat.le_refl _⟩,⟨kB BK185⟩,⟨bB⟩⟩
  case round =>
    clear H';(try clear p2);(try clear hcz3_0);(try clear hcz3_1);(try clear hfz3_0);(try clear hfz3_1);obtain ⟨x3_1,x4_1,rfl,rfl,HA,HK1,BK185,HB⟩:=hrel
    cases gk with
    | zero=>exact absurd HA.out (by simp [spec_whCount.l0])
    | succ k1 =>
      have H:=HA.out;clear HA;simp only [spec_whCount.l0] at H
      by_cases c4:x4_1 > 0
      · rw [if_pos c4] at H;have c4b0:decide (0 < x4_1)=true:=decide_eq_true c4;clear c4;have H':=amk H;clear H;obtain ⟨hcz5_0,hcz5_1,hfz5_0,hfz5_1⟩:=cells2 BK185.out;go_wp2;go_roundg k1
        case measure=>have:=HK1.out;omega
        case rel=>exact ⟨(wrap64 (x3_1 * a0_1)),(wrap64 (x4_1 - 1)),rS_,rS_,H',⟨by have:=HK1.out;omega⟩,⟨kB BK185⟩,⟨bB⟩⟩
      · rw [if_neg c4] at H;have c4b0:decide (0 < x4_1)=false:=decide_eq_false c4;clear c4;obtain rfl:=Option.some.inj H;go_wp2;go_ret;exact ⟨rF_,bB⟩
/-! ### spec_pzClue: function 69 -/
def spec_pzClue.f (k:Nat) (a0_0:Int) (a0_1:Int) (a1_0:Int) (a1_1:Int) (a1_2:Int):Option (Bool):=if a1_0=0 then ((spec_l1In.f a1_1 0 (wrap64 (a0_0 - 1))).bind fun t213=>(if t213=true then ((spec_l1In.f a1_2 0 (wrap64 (a0_1 - 1))).bind fun t214=>(some t214)) else (some false))) else (if a1_0=1 then ((spec_l1In.f a1_1 0 60).bind fun t215=>(if t215=true then (some (a1_2 == 0)) else (some false))) else (if a1_0=2 then ((spec_whCount.f k a0_0 a0_1).bind fun t216=>((spec_l1In.f a1_1 0 (wrap64 (t216 - 1))).bind fun t217=>(if t217=true then ((spec_l1In.f a1_2 0 a0_0).bind fun t218=>(some t218)) else (some false)))) else (if a1_0=3 then ((spec_whCount.f k a0_0 a0_1).bind fun t219=>((spec_l1In.f a1_1 0 (wrap64 (t219 - 1))).bind fun t220=>(if t220=true then ((spec_l1In.f a1_2 0 60).bind fun t221=>(some t221)) else (some false)))) else (if a1_0=4 then ((spec_l1In.f a1_1 2 9).bind fun t222=>(if t222=true then ((spec_l1In.f a1_2 0 (wrap64 (a1_1 - 1))).bind fun t223=>(some t223)) else (some false))) else (some false)))))
def spec_pzClue.T7:Bool×List (List Nat×List Nat):=(true,[([],[]),([0],[0]),([],[]),([2],[2]),([3],[3]),([1,4,3],[1,4]),([5,5],[5]),([6],[6]),([7,6],[6,7]),([6],[6]),([9,6],[6,9]),([8,10,6,6],[6,8,10]),([6,11],[6,11]),([12,11,0,1,2,3,4,5,6,7,8,9,10,11,12],[12])])
def spec_pzClue.B7:List Nat:=[0,1,0,4,12,31,63,127,255,127,639,2047,4095,8191]
theorem spec_pzClue.tab7:rtab .any (opsOf Try.f69 7)=spec_pzClue.T7:=by kernel_rfl
theorem spec_pzClue.bits7:waitsOk spec_pzClue.T7.2 spec_pzClue.B7=true:=by kernel_rfl
def spec_pzClue.T9:Bool×List (List Nat×List Nat):=(true,[([],[]),([0],[0]),([],[]),([2],[2]),([3],[3]),([1,4,3],[1,4]),([5,5],[5]),([6],[6]),([7,6],[6,7]),([8,6,6],[6,8]),([6,9],[6,9]),([10,9,0,1,2,3,4,5,6,7,8,9,10],[10])])
def spec_pzClue.B9:List Nat:=[0,1,0,4,12,31,63,127,255,511,1023,2047]
theorem spec_pzClue.tab9:rtab .any (opsOf Try.f69 9)=spec_pzClue.T9:=by kernel_rfl
theorem spec_pzClue.bits9:waitsOk spec_pzClue.T9.2 spec_pzClue.B9=true:=by kernel_rfl
set_option maxHeartbeats 8000000 in
set_option maxRecDepth 100000 in
theorem spec_pzClue.calls (k:Nat) (a0_0:Int) (a0_1:Int) (a1_0:Int) (a1_1:Int) (a1_2:Int) (r:Bool) (w:World) (h:spec_pzClue.f k a0_0 a0_1 a1_0 a1_1 a1_2=some r) :
    Calls Try.prog 69 #[.agg #[.int .i64 a0_0, .int .i64 a0_1], .agg #[.int .i64 a1_0, .int .i64 a1_1, .int .i64 a1_2]] w fun e w'=>e = .returned (.bool r)∧Below w.heap.size w w':=by
  have hu25:=Try.underlying25;have hu44:=Try.underlying44;have HB:=amk (Below.refl w.heap.size w);unfold spec_pzClue.f at h;have H:=h;clear h
  by_cases c3:a1_0=0
  · rw [if_pos c3] at H;have c3b0:(a1_0 == 0)=true:=beq_iff_eq.mpr c3;have c3b1:(a1_0 != 0)=false:=bne_eq_false_iff_eq.mpr c3;clear c3;replace H:=bE H;obtain ⟨t213,A4,H⟩:=H;replace H:=iteB H;obtain ⟨rfl,H⟩ | ⟨rfl,H⟩:=H
    · replace H:=bE H;obtain ⟨t214,A6,H⟩:=H;obtain rfl:=Option.some.inj H;go_enter Try.func69,Try.ntmps69;go_wp2_with (first | ((with_reducible refine gate_dst (N:=2) rfl ?_);refine boxE_ HB 2 #[.int .i64 a0_0, .int .i64 a0_1] 25 ?_;clear HB;intro gb211 w7 HB BK211 GW211 GE211 hb;clear hb) | ((with_reducible refine gate_dst (N:=3) rfl ?_);refine boxG_ 3 #[.int .i64 a1_0, .int .i64 a1_1, .int .i64 a1_2] 44 ?_;intro gb212 w8 hg BK212 hb;have GW212:=sZ HB hg;have GE212:=sZ HB hg;replace HB:=hB2 HB hb;have NB211_212:=neL BK211 hg;have NB212_211:=neR BK211 hg;replace BK211:=kb2 BK211 hb;clear hb hg;have hnb9:=NB212_211.out;have hnc9:=NB211_212.out;obtain ⟨hcz10_0,hcz10_1,hcz10_2,hfz10_0,hfz10_1,hfz10_2⟩:=cells3 BK212.out;obtain ⟨hcz11_0,hcz11_1,hfz11_0,hfz11_1⟩:=cells2 BK211.out) | (refine gc_ 48 14 Try.func48 #[.int .i64 a1_1, .int .i64 0, .int .i64 (wrap64 (a0_0 - 1))] ?_;(with_reducible refine (spec_l1In.calls a1_1 0 (wrap64 (a0_0 - 1)) true _ A4.out).mono ?_);rintro e w' ⟨rfl,⟨nd,rfl⟩⟩;refine ⟨_,rfl,?_⟩) | (go_at_call 48;(with_reducible refine (spec_l1In.calls a1_2 0 (wrap64 (a0_1 - 1)) t214 _ A6.out).mono ?_);rintro e w' ⟨rfl,⟨nd,rfl⟩⟩));go_ret;exact ⟨rF_,bB⟩
    · obtain rfl:=Option.some.inj H;go_enter Try.func69,Try.ntmps69;go_wp2_with (first | ((with_reducible refine gate_dst (N:=2) rfl ?_);refine boxE_ HB 2 #[.int .i64 a0_0, .int .i64 a0_1] 25 ?_;clear HB;intro gb211 w12 HB BK211 GW211 GE211 hb;clear hb) | ((with_reducible refine gate_dst (N:=3) rfl ?_);refine boxG_ 3 #[.int .i64 a1_0, .int .i64 a1_1, .int .i64 a1_2] 44 ?_;intro gb212 w13 hg BK212 hb;have GW212:=sZ HB hg;have GE212:=sZ HB hg;replace HB:=hB2 HB hb;have NB211_212:=neL BK211 hg;have NB212_211:=neR BK211 hg;replace BK211:=kb2 BK211 hb;clear hb hg;have hnb14:=NB212_211.out;have hnc14:=NB211_212.out;obtain ⟨hcz15_0,hcz15_1,hcz15_2,hfz15_0,hfz15_1,hfz15_2⟩:=cells3 BK212.out;obtain ⟨hcz16_0,hcz16_1,hfz16_0,hfz16_1⟩:=cells2 BK211.out) | (refine gc_ 48 14 Try.func48 #[.int .i64 a1_1, .int .i64 0, .int .i64 (wrap64 (a0_0 - 1))] ?_;(with_reducible refine (spec_l1In.calls a1_1 0 (wrap64 (a0_0 - 1)) false _ A4.out).mono ?_);rintro e w' ⟨rfl,⟨nd,rfl⟩⟩;refine ⟨_,rfl,?_⟩));go_ret;exact ⟨rF_,bB⟩
  · rw [if_neg c3] at H;have c3b0:(a1_0 == 0)=false:=beq_eq_false_iff_ne.mpr c3;have c3b1:(a1_0 != 0)=true:=bne_iff_ne.mpr c3
    by_cases c17:a1_0=1
    · rw [if_pos c17] at H;have c17b0:(a1_0 == 1)=true:=beq_iff_eq.mpr c17;have c17b1:(a1_0 != 1)=false:=bne_eq_false_iff_eq.mpr c17;clear c17;replace H:=bE H;obtain ⟨t215,A18,H⟩:=H;replace H:=iteB H;obtain ⟨rfl,H⟩ | ⟨rfl,H⟩:=H
      · obtain rfl:=Option.some.inj H;go_enter Try.func69,Try.ntmps69;go_wp2_with (first | ((with_reducible refine gate_dst (N:=2) rfl ?_);refine boxE_ HB 2 #[.int .i64 a0_0, .int .i64 a0_1] 25 ?_;clear HB;intro gb211 w20 HB BK211 GW211 GE211 hb;clear hb) | ((with_reducible refine gate_dst (N:=3) rfl ?_);refine boxG_ 3 #[.int .i64 a1_0, .int .i64 a1_1, .int .i64 a1_2] 44 ?_;intro gb212 w21 hg BK212 hb;have GW212:=sZ HB hg;have GE212:=sZ HB hg;replace HB:=hB2 HB hb;have NB211_212:=neL BK211 hg;have NB212_211:=neR BK211 hg;replace BK211:=kb2 BK211 hb;clear hb hg;have hnb22:=NB212_211.out;have hnc22:=NB211_212.out;obtain ⟨hcz23_0,hcz23_1,hcz23_2,hfz23_0,hfz23_1,hfz23_2⟩:=cells3 BK212.out) | (refine gc_ 48 27 Try.func48 #[.int .i64 a1_1, .int .i64 0, .int .i64 60] ?_;(with_reducible refine (spec_l1In.calls a1_1 0 60 true _ A18.out).mono ?_);rintro e w' ⟨rfl,⟨nd,rfl⟩⟩;refine ⟨_,rfl,?_⟩));go_ret;exact ⟨rF_,bB⟩
      · obtain rfl:=Option.some.inj H;go_enter Try.func69,Try.ntmps69;go_wp2_with (first | ((with_reducible refine gate_dst (N:=2) rfl ?_);refine boxE_ HB 2 #[.int .i64 a0_0, .int .i64 a0_1] 25 ?_;clear HB;intro gb211 w24 HB BK211 GW211 GE211 hb;clear hb) | ((with_reducible refine gate_dst (N:=3) rfl ?_);refine boxG_ 3 #[.int .i64 a1_0, .int .i64 a1_1, .int .i64 a1_2] 44 ?_;intro gb212 w25 hg BK212 hb;have GW212:=sZ HB hg;have GE212:=sZ HB hg;replace HB:=hB2 HB hb;have NB211_212:=neL BK211 hg;have NB212_211:=neR BK211 hg;replace BK211:=kb2 BK211 hb;clear hb hg;have hnb26:=NB212_211.out;have hnc26:=NB211_212.out;obtain ⟨hcz27_0,hcz27_1,hcz27_2,hfz27_0,hfz27_1,hfz27_2⟩:=cells3 BK212.out) | (refine gc_ 48 27 Try.func48 #[.int .i64 a1_1, .int .i64 0, .int .i64 60] ?_;(with_reducible refine (spec_l1In.calls a1_1 0 60 false _ A18.out).mono ?_);rintro e w' ⟨rfl,⟨nd,rfl⟩⟩;refine ⟨_,rfl,?_⟩));go_ret;exact ⟨rF_,bB⟩
    · rw [if_neg c17] at H;have c17b0:(a1_0 == 1)=false:=beq_eq_false_iff_ne.mpr c17;have c17b1:(a1_0 != 1)=true:=bne_iff_ne.mpr c17
      by_cases c28:a1_0=2
      · rw [if_pos c28] at H;have c28b0:(a1_0 == 2)=true:=beq_iff_eq.mpr c28;have c28b1:(a1_0 != 2)=false:=bne_eq_false_iff_eq.mpr c28;clear c28;replace H:=bE H;obtain ⟨t216,A29,H⟩:=H;replace H:=bE H;obtain ⟨t217,A30,H⟩:=H;replace H:=iteB H;obtain ⟨rfl,H⟩ | ⟨rfl,H⟩:=H
        · replace H:=bE H;obtain ⟨t218,A32,H⟩:=H;obtain rfl:=Option.some.inj H;go_enter Try.func69,Try.ntmps69;(try go_wp2_with (first | ((with_reducible refine gate_dst (N:=2) rfl ?_);refine boxE_ HB 2 #[.int .i64 a0_0, .int .i64 a0_1] 25 ?_;clear HB;intro gb211 w33 HB BK211 GW211 GE211 hb;clear hb) | ((with_reducible refine gate_dst (N:=3) rfl ?_);refine boxG_ 3 #[.int .i64 a1_0, .int .i64 a1_1, .int .i64 a1_2] 44 ?_;intro gb212 w34 hg BK212 hb;have GW212:=sZ HB hg;have GE212:=sZ HB hg;replace HB:=hB2 HB hb;have NB211_212:=neL BK211 hg;have NB212_211:=neR BK211 hg;replace BK211:=kb2 BK211 hb;clear hb hg;have hnb35:=NB212_211.out;have hnc35:=NB211_212.out;obtain ⟨hcz36_0,hcz36_1,hcz36_2,hfz36_0,hfz36_1,hfz36_2⟩:=cells3 BK212.out)));replace BK211:=amk (blk_drew BK211.out);replace BK212:=amk (blk_drew BK212.out);replace HB:=amk (bd_ HB.out);refine start_ (n:=14) (S:=fun w'=>w'.cell? ⟨gb212,0,none⟩=some (.int .i64 a1_0)∧w'.cell? ⟨gb212,1,none⟩=some (.int .i64 a1_1)∧w'.cell? ⟨gb212,2,none⟩=some (.int .i64 a1_2)∧w'.cell? ⟨gb211,0,none⟩=some (.int .i64 a0_0)∧w'.cell? ⟨gb211,1,none⟩=some (.int .i64 a0_1)) (ds:=[]) (bA 14 0) (by kernel_rfl) rfl rfl ⟨(blk_cell BK212.out 0).trans rfl,(blk_cell BK212.out 1).trans rfl,(blk_cell BK212.out 2).trans rfl,(blk_cell BK211.out 0).trans rfl,(blk_cell BK211.out 1).trans rfl⟩ (fun hHeld=>?_);refine with_tabW spec_pzClue.tab7 spec_pzClue.bits7 (fun HT_ HW_=>?_);generalize w34.drew=w37 at BK211 BK212 HB hHeld ⊢;refine pU_ HT_ 0 (some 35) (bA 14 1) ?_;refine tK_ HT_ HW_ hHeld 1 (some 36) (bA 14 3) ?_;refine tK_ HT_ HW_ hHeld 2 (some 37) (bA 14 7) ?_;refine oN_ HT_ 3 (some 38) (bA 14 15) (fun K hK=>?_);refine gs_ Try.func50 #[.agg #[.int .i64 a0_0, .int .i64 a0_1]] ?_;(with_reducible refine (spec_whCount.calls k a0_0 a0_1 t216 _ A29.out).mono ?_);rintro e w38 ⟨rfl,hb⟩;refine ⟨_,rfl,?_⟩;replace BK211:=kb2 BK211 hb;replace BK212:=kb2 BK212 hb;replace HB:=hB2 HB hb;(try clear hb);refine hK.out _ _ hC_ (fun hHeld=>?_);clear hK K;refine nN_ (some 38) ?_;refine pU_ HT_ 4 (some 39) (bA 14 31) ?_;refine oN_ HT_ 5 (some 40) (bA 14 63) (fun K hK=>?_);refine gs_ Try.func48 #[.int .i64 a1_1, .int .i64 0, .int .i64 (wrap64 (t216 - 1))] ?_;(with_reducible refine (spec_l1In.calls a1_1 0 (wrap64 (t216 - 1)) true _ A30.out).mono ?_);rintro e w' ⟨rfl,⟨nd,rfl⟩⟩;refine ⟨_,rfl,?_⟩;refine hK.out _ _ hC_ (fun hHeld=>?_);clear hK K;refine nN_ (some 40) ?_;refine pU_ HT_ 6 (some 41) (bA 14 127) ?_;refine pU_ HT_ 7 (some 42) (bA 14 255) ?_;refine pU_ HT_ 9 (some 44) (bA 14 767) ?_;refine tK_ HT_ HW_ hHeld 8 (some 43) (bA 14 1023) ?_;refine tK_ HT_ HW_ hHeld 10 (some 45) (bA 14 2047) ?_;refine oN_ HT_ 11 (some 46) (bA 14 4095) (fun K hK=>?_);refine gs_ Try.func48 #[.int .i64 a1_2, .int .i64 0, .int .i64 a0_0] ?_;(with_reducible refine (spec_l1In.calls a1_2 0 a0_0 t218 _ A32.out).mono ?_);rintro e w' ⟨rfl,⟨nd,rfl⟩⟩;refine ⟨_,rfl,?_⟩;refine hK.out _ _ hC_ (fun hHeld=>?_);clear hK K;refine nN_ (some 46) ?_;refine pU_ HT_ 12 (some 47) (bA 14 8191) ?_;refine pU_ HT_ 13 (some 4) (bA 14 16383) ?_;refine done_ (done_of HT_.out (by kernel_rfl)) ?_;(try go_wp2);go_ret;exact ⟨rF_,bB⟩
        · obtain rfl:=Option.some.inj H;go_enter Try.func69,Try.ntmps69;(try go_wp2_with (first | ((with_reducible refine gate_dst (N:=2) rfl ?_);refine boxE_ HB 2 #[.int .i64 a0_0, .int .i64 a0_1] 25 ?_;clear HB;intro gb211 w39 HB BK211 GW211 GE211 hb;clear hb) | ((with_reducible refine gate_dst (N:=3) rfl ?_);refine boxG_ 3 #[.int .i64 a1_0, .int .i64 a1_1, .int .i64 a1_2] 44 ?_;intro gb212 w40 hg BK212 hb;have GW212:=sZ HB hg;have GE212:=sZ HB hg;replace HB:=hB2 HB hb;have NB211_212:=neL BK211 hg;have NB212_211:=neR BK211 hg;replace BK211:=kb2 BK211 hb;clear hb hg;have hnb41:=NB212_211.out;have hnc41:=NB211_212.out;obtain ⟨hcz42_0,hcz42_1,hcz42_2,hfz42_0,hfz42_1,hfz42_2⟩:=cells3 BK212.out)));replace BK211:=amk (blk_drew BK211.out);replace BK212:=amk (blk_drew BK212.out);replace HB:=amk (bd_ HB.out);refine start_ (n:=14) (S:=fun w'=>w'.cell? ⟨gb212,0,none⟩=some (.int .i64 a1_0)∧w'.cell? ⟨gb212,1,none⟩=some (.int .i64 a1_1)∧w'.cell? ⟨gb212,2,none⟩=some (.int .i64 a1_2)∧w'.cell? ⟨gb211,0,none⟩=some (.int .i64 a0_0)∧w'.cell? ⟨gb211,1,none⟩=some (.int .i64 a0_1)) (ds:=[]) (bA 14 0) (by kernel_rfl) rfl rfl ⟨(blk_cell BK212.out 0).trans rfl,(blk_cell BK212.out 1).trans rfl,(blk_cell BK212.out 2).trans rfl,(blk_cell BK211.out 0).trans rfl,(blk_cell BK211.out 1).trans rfl⟩ (fun hHeld=>?_);refine with_tabW spec_pzClue.tab7 spec_pzClue.bits7 (fun HT_ HW_=>?_);generalize w40.drew=w43 at BK211 BK212 HB hHeld ⊢;refine pU_ HT_ 0 (some 35) (bA 14 1) ?_;refine tK_ HT_ HW_ hHeld 1 (some 36) (bA 14 3) ?_;refine tK_ HT_ HW_ hHeld 2 (some 37) (bA 14 7) ?_;refine oN_ HT_ 3 (some 38) (bA 14 15) (fun K hK=>?_);refine gs_ Try.func50 #[.agg #[.int .i64 a0_0, .int .i64 a0_1]] ?_;(with_reducible refine (spec_whCount.calls k a0_0 a0_1 t216 _ A29.out).mono ?_);rintro e w44 ⟨rfl,hb⟩;refine ⟨_,rfl,?_⟩;replace BK211:=kb2 BK211 hb;replace BK212:=kb2 BK212 hb;replace HB:=hB2 HB hb;(try clear hb);refine hK.out _ _ hC_ (fun hHeld=>?_);clear hK K;refine nN_ (some 38) ?_;refine pU_ HT_ 4 (some 39) (bA 14 31) ?_;refine oN_ HT_ 5 (some 40) (bA 14 63) (fun K hK=>?_);refine gs_ Try.func48 #[.int .i64 a1_1, .int .i64 0, .int .i64 (wrap64 (t216 - 1))] ?_;(with_reducible refine (spec_l1In.calls a1_1 0 (wrap64 (t216 - 1)) false _ A30.out).mono ?_);rintro e w' ⟨rfl,⟨nd,rfl⟩⟩;refine ⟨_,rfl,?_⟩;refine hK.out _ _ hC_ (fun hHeld=>?_);clear hK K;refine nN_ (some 40) ?_;refine pU_ HT_ 6 (some 41) (bA 14 127) ?_;refine pZ_ HT_ 7 (some 42) (bA 14 255) ?_;refine pZ_ HT_ 8 (some 43) (bA 14 511) ?_;refine pZ_ HT_ 9 (some 44) (bA 14 1023) ?_;refine pZ_ HT_ 10 (some 45) (bA 14 2047) ?_;refine pZ_ HT_ 11 (some 46) (bA 14 4095) ?_;refine pU_ HT_ 12 (some 47) (bA 14 8191) ?_;refine pU_ HT_ 13 (some 4) (bA 14 16383) ?_;refine done_ (done_of HT_.out (by kernel_rfl)) ?_;(try go_wp2);go_ret;exact ⟨rF_,bB⟩
      · rw [if_neg c28] at H;have c28b0:(a1_0 == 2)=false:=beq_eq_false_iff_ne.mpr c28;have c28b1:(a1_0 != 2)=true:=bne_iff_ne.mpr c28
        by_cases c45:a1_0=3
        · rw [if_pos c45] at H;have c45b0:(a1_0 == 3)=true:=beq_iff_eq.mpr c45;have c45b1:(a1_0 != 3)=false:=bne_eq_false_iff_eq.mpr c45;clear c45;replace H:=bE H;obtain ⟨t219,A46,H⟩:=H;replace H:=bE H;obtain ⟨t220,A47,H⟩:=H;replace H:=iteB H;obtain ⟨rfl,H⟩ | ⟨rfl,H⟩:=H
          · replace H:=bE H;obtain ⟨t221,A49,H⟩:=H;obtain rfl:=Option.some.inj H;go_enter Try.func69,Try.ntmps69;(try go_wp2_with (first | ((with_reducible refine gate_dst (N:=2) rfl ?_);refine boxE_ HB 2 #[.int .i64 a0_0, .int .i64 a0_1] 25 ?_;clear HB;intro gb211 w50 HB BK211 GW211 GE211 hb;clear hb) | ((with_reducible refine gate_dst (N:=3) rfl ?_);refine boxG_ 3 #[.int .i64 a1_0, .int .i64 a1_1, .int .i64 a1_2] 44 ?_;intro gb212 w51 hg BK212 hb;have GW212:=sZ HB hg;have GE212:=sZ HB hg;replace HB:=hB2 HB hb;have NB211_212:=neL BK211 hg;have NB212_211:=neR BK211 hg;replace BK211:=kb2 BK211 hb;clear hb hg;have hnb52:=NB212_211.out;have hnc52:=NB211_212.out;obtain ⟨hcz53_0,hcz53_1,hcz53_2,hfz53_0,hfz53_1,hfz53_2⟩:=cells3 BK212.out)));replace BK211:=amk (blk_drew BK211.out);replace BK212:=amk (blk_drew BK212.out);replace HB:=amk (bd_ HB.out);refine start_ (n:=12) (S:=fun w'=>w'.cell? ⟨gb212,0,none⟩=some (.int .i64 a1_0)∧w'.cell? ⟨gb212,1,none⟩=some (.int .i64 a1_1)∧w'.cell? ⟨gb212,2,none⟩=some (.int .i64 a1_2)∧w'.cell? ⟨gb211,0,none⟩=some (.int .i64 a0_0)∧w'.cell? ⟨gb211,1,none⟩=some (.int .i64 a0_1)) (ds:=[]) (bA 12 0) (by kernel_rfl) rfl rfl ⟨(blk_cell BK212.out 0).trans rfl,(blk_cell BK212.out 1).trans rfl,(blk_cell BK212.out 2).trans rfl,(blk_cell BK211.out 0).trans rfl,(blk_cell BK211.out 1).trans rfl⟩ (fun hHeld=>?_);refine with_tabW spec_pzClue.tab9 spec_pzClue.bits9 (fun HT_ HW_=>?_);generalize w51.drew=w54 at BK211 BK212 HB hHeld ⊢;refine pU_ HT_ 0 (some 50) (bA 12 1) ?_;refine tK_ HT_ HW_ hHeld 1 (some 51) (bA 12 3) ?_;refine tK_ HT_ HW_ hHeld 2 (some 52) (bA 12 7) ?_;refine oN_ HT_ 3 (some 53) (bA 12 15) (fun K hK=>?_);refine gs_ Try.func50 #[.agg #[.int .i64 a0_0, .int .i64 a0_1]] ?_;(with_reducible refine (spec_whCount.calls k a0_0 a0_1 t219 _ A46.out).mono ?_);rintro e w55 ⟨rfl,hb⟩;refine ⟨_,rfl,?_⟩;replace BK211:=kb2 BK211 hb;replace BK212:=kb2 BK212 hb;replace HB:=hB2 HB hb;(try clear hb);refine hK.out _ _ hC_ (fun hHeld=>?_);clear hK K;refine nN_ (some 53) ?_;refine pU_ HT_ 4 (some 54) (bA 12 31) ?_;refine oN_ HT_ 5 (some 55) (bA 12 63) (fun K hK=>?_);refine gs_ Try.func48 #[.int .i64 a1_1, .int .i64 0, .int .i64 (wrap64 (t219 - 1))] ?_;(with_reducible refine (spec_l1In.calls a1_1 0 (wrap64 (t219 - 1)) true _ A47.out).mono ?_);rintro e w' ⟨rfl,⟨nd,rfl⟩⟩;refine ⟨_,rfl,?_⟩;refine hK.out _ _ hC_ (fun hHeld=>?_);clear hK K;refine nN_ (some 55) ?_;refine pU_ HT_ 6 (some 56) (bA 12 127) ?_;refine pU_ HT_ 7 (some 57) (bA 12 255) ?_;refine tK_ HT_ HW_ hHeld 8 (some 58) (bA 12 511) ?_;refine oN_ HT_ 9 (some 59) (bA 12 1023) (fun K hK=>?_);refine gs_ Try.func48 #[.int .i64 a1_2, .int .i64 0, .int .i64 60] ?_;(with_reducible refine (spec_l1In.calls a1_2 0 60 t221 _ A49.out).mono ?_);rintro e w' ⟨rfl,⟨nd,rfl⟩⟩;refine ⟨_,rfl,?_⟩;refine hK.out _ _ hC_ (fun hHeld=>?_);clear hK K;refine nN_ (some 59) ?_;refine pU_ HT_ 10 (some 60) (bA 12 2047) ?_;refine pU_ HT_ 11 (some 4) (bA 12 4095) ?_;refine done_ (done_of HT_.out (by kernel_rfl)) ?_;(try go_wp2);go_ret;exact ⟨rF_,bB⟩
          · obtain rfl:=Option.some.inj H;go_enter Try.func69,Try.ntmps69;(try go_wp2_with (first | ((with_reducible refine gate_dst (N:=2) rfl ?_);refine boxE_ HB 2 #[.int .i64 a0_0, .int .i64 a0_1] 25 ?_;clear HB;intro gb211 w56 HB BK211 GW211 GE211 hb;clear hb) | ((with_reducible refine gate_dst (N:=3) rfl ?_);refine boxG_ 3 #[.int .i64 a1_0, .int .i64 a1_1, .int .i64 a1_2] 44 ?_;intro gb212 w57 hg BK212 hb;have GW212:=sZ HB hg;have GE212:=sZ HB hg;replace HB:=hB2 HB hb;have NB211_212:=neL BK211 hg;have NB212_211:=neR BK211 hg;replace BK211:=kb2 BK211 hb;clear hb hg;have hnb58:=NB212_211.out;have hnc58:=NB211_212.out;obtain ⟨hcz59_0,hcz59_1,hcz59_2,hfz59_0,hfz59_1,hfz59_2⟩:=cells3 BK212.out)));replace BK211:=amk (blk_drew BK211.out);replace BK212:=amk (blk_drew BK212.out);replace HB:=amk (bd_ HB.out);refine start_ (n:=12) (S:=fun w'=>w'.cell? ⟨gb212,0,none⟩=some (.int .i64 a1_0)∧w'.cell? ⟨gb212,1,none⟩=some (.int .i64 a1_1)∧w'.cell? ⟨gb212,2,none⟩=some (.int .i64 a1_2)∧w'.cell? ⟨gb211,0,none⟩=some (.int .i64 a0_0)∧w'.cell? ⟨gb211,1,none⟩=some (.int .i64 a0_1)) (ds:=[]) (bA 12 0) (by kernel_rfl) rfl rfl ⟨(blk_cell BK212.out 0).trans rfl,(blk_cell BK212.out 1).trans rfl,(blk_cell BK212.out 2).trans rfl,(blk_cell BK211.out 0).trans rfl,(blk_cell BK211.out 1).trans rfl⟩ (fun hHeld=>?_);refine with_tabW spec_pzClue.tab9 spec_pzClue.bits9 (fun HT_ HW_=>?_);generalize w57.drew=w60 at BK211 BK212 HB hHeld ⊢;refine pU_ HT_ 0 (some 50) (bA 12 1) ?_;refine tK_ HT_ HW_ hHeld 1 (some 51) (bA 12 3) ?_;refine tK_ HT_ HW_ hHeld 2 (some 52) (bA 12 7) ?_;refine oN_ HT_ 3 (some 53) (bA 12 15) (fun K hK=>?_);refine gs_ Try.func50 #[.agg #[.int .i64 a0_0, .int .i64 a0_1]] ?_;(with_reducible refine (spec_whCount.calls k a0_0 a0_1 t219 _ A46.out).mono ?_);rintro e w61 ⟨rfl,hb⟩;refine ⟨_,rfl,?_⟩;replace BK211:=kb2 BK211 hb;replace BK212:=kb2 BK212 hb;replace HB:=hB2 HB hb;(try clear hb);refine hK.out _ _ hC_ (fun hHeld=>?_);clear hK K;refine nN_ (some 53) ?_;refine pU_ HT_ 4 (some 54) (bA 12 31) ?_;refine oN_ HT_ 5 (some 55) (bA 12 63) (fun K hK=>?_);refine gs_ Try.func48 #[.int .i64 a1_1, .int .i64 0, .int .i64 (wrap64 (t219 - 1))] ?_;(with_reducible refine (spec_l1In.calls a1_1 0 (wrap64 (t219 - 1)) false _ A47.out).mono ?_);rintro e w' ⟨rfl,⟨nd,rfl⟩⟩;refine ⟨_,rfl,?_⟩;refine hK.out _ _ hC_ (fun hHeld=>?_);clear hK K;refine nN_ (some 55) ?_;refine pU_ HT_ 6 (some 56) (bA 12 127) ?_;refine pZ_ HT_ 7 (some 57) (bA 12 255) ?_;refine pZ_ HT_ 8 (some 58) (bA 12 511) ?_;refine pZ_ HT_ 9 (some 59) (bA 12 1023) ?_;refine pU_ HT_ 10 (some 60) (bA 12 2047) ?_;refine pU_ HT_ 11 (some 4) (bA 12 4095) ?_;refine done_ (done_of HT_.out (by kernel_rfl)) ?_;(try go_wp2);go_ret;exact ⟨rF_,bB⟩
        · rw [if_neg c45] at H;have c45b0:(a1_0 == 3)=false:=beq_eq_false_iff_ne.mpr c45;have c45b1:(a1_0 != 3)=true:=bne_iff_ne.mpr c45
          by_cases c62:a1_0=4
          · rw [if_pos c62] at H;have c62b0:(a1_0 == 4)=true:=beq_iff_eq.mpr c62;have c62b1:(a1_0 != 4)=false:=bne_eq_false_iff_eq.mpr c62;clear c62;replace H:=bE H;obtain ⟨t222,A63,H⟩:=H;replace H:=iteB H;obtain ⟨rfl,H⟩ | ⟨rfl,H⟩:=H
            · replace H:=bE H;obtain ⟨t223,A65,H⟩:=H;obtain rfl:=Option.some.inj H;go_enter Try.func69,Try.ntmps69;go_wp2_with (first | ((with_reducible refine gate_dst (N:=2) rfl ?_);refine boxE_ HB 2 #[.int .i64 a0_0, .int .i64 a0_1] 25 ?_;clear HB;intro gb211 w66 HB BK211 GW211 GE211 hb;clear hb) | ((with_reducible refine gate_dst (N:=3) rfl ?_);refine boxG_ 3 #[.int .i64 a1_0, .int .i64 a1_1, .int .i64 a1_2] 44 ?_;intro gb212 w67 hg BK212 hb;have GW212:=sZ HB hg;have GE212:=sZ HB hg;replace HB:=hB2 HB hb;have NB211_212:=neL BK211 hg;have NB212_211:=neR BK211 hg;replace BK211:=kb2 BK211 hb;clear hb hg;have hnb68:=NB212_211.out;have hnc68:=NB211_212.out;obtain ⟨hcz69_0,hcz69_1,hcz69_2,hfz69_0,hfz69_1,hfz69_2⟩:=cells3 BK212.out) | (refine gc_ 48 65 Try.func48 #[.int .i64 a1_1, .int .i64 2, .int .i64 9] ?_;(with_reducible refine (spec_l1In.calls a1_1 2 9 true _ A63.out).mono ?_);rintro e w' ⟨rfl,⟨nd,rfl⟩⟩;refine ⟨_,rfl,?_⟩) | (go_at_call 48;(with_reducible refine (spec_l1In.calls a1_2 0 (wrap64 (a1_1 - 1)) t223 _ A65.out).mono ?_);rintro e w' ⟨rfl,⟨nd,rfl⟩⟩));go_ret;exact ⟨rF_,bB⟩
            · obtain rfl:=Option.some.inj H;go_enter Try.func69,Try.ntmps69;go_wp2_with (first | ((with_reducible refine gate_dst (N:=2) rfl ?_);refine boxE_ HB 2 #[.int .i64 a0_0, .int .i64 a0_1] 25 ?_;clear HB;intro gb211 w70 HB BK211 GW211 GE211 hb;clear hb) | ((with_reducible refine gate_dst (N:=3) rfl ?_);refine boxG_ 3 #[.int .i64 a1_0, .int .i64 a1_1, .int .i64 a1_2] 44 ?_;intro gb212 w71 hg BK212 hb;have GW212:=sZ HB hg;have GE212:=sZ HB hg;replace HB:=hB2 HB hb;have NB211_212:=neL BK211 hg;have NB212_211:=neR BK211 hg;replace BK211:=kb2 BK211 hb;clear hb hg;have hnb72:=NB212_211.out;have hnc72:=NB211_212.out;obtain ⟨hcz73_0,hcz73_1,hcz73_2,hfz73_0,hfz73_1,hfz73_2⟩:=cells3 BK212.out) | (refine gc_ 48 65 Try.func48 #[.int .i64 a1_1, .int .i64 2, .int .i64 9] ?_;(with_reducible refine (spec_l1In.calls a1_1 2 9 false _ A63.out).mono ?_);rintro e w' ⟨rfl,⟨nd,rfl⟩⟩;refine ⟨_,rfl,?_⟩));go_ret;exact ⟨rF_,bB⟩
          · rw [if_neg c62] at H;have c62b0:(a1_0 == 4)=false:=beq_eq_false_iff_ne.mpr c62;have c62b1:(a1_0 != 4)=true:=bne_iff_ne.mpr c62;obtain rfl:=Option.some.inj H;go_enter Try.func69,Try.ntmps69;go_wp2_with (first | ((with_reducible refine gate_dst (N:=2) rfl ?_);refine boxE_ HB 2 #[.int .i64 a0_0, .int .i64 a0_1] 25 ?_;clear HB;intro gb211 w74 HB BK211 GW211 GE211 hb;clear hb) | ((with_reducible refine gate_dst (N:=3) rfl ?_);refine boxG_ 3 #[.int .i64 a1_0, .int .i64 a1_1, .int .i64 a1_2] 44 ?_;intro gb212 w75 hg BK212 hb;have GW212:=sZ HB hg;have GE212:=sZ HB hg;replace HB:=hB2 HB hb;have NB211_212:=neL BK211 hg;have NB212_211:=neR BK211 hg;replace BK211:=kb2 BK211 hb;clear hb hg;have hnb76:=NB212_211.out;have hnc76:=NB211_212.out;obtain ⟨hcz77_0,hcz77_1,hcz77_2,hfz77_0,hfz77_1,hfz77_2⟩:=cells3 BK212.out));go_ret;exact ⟨rF_,bB⟩
/-! ### spec_whGood: function 93 -/
def spec_whGood.f (a0_0:Int) (a0_1:Int):Option (Bool):=(spec_l1In.f a0_0 1 6).bind fun t204=>(if t204=true then ((spec_l1In.f a0_1 2 10).bind fun t205=>(some t205)) else (some false))
set_option maxHeartbeats 8000000 in
set_option maxRecDepth 100000 in
theorem spec_whGood.calls (a0_0:Int) (a0_1:Int) (r:Bool) (w:World) (h:spec_whGood.f a0_0 a0_1=some r) :
    Calls Try.prog 93 #[.agg #[.int .i64 a0_0, .int .i64 a0_1]] w fun e w'=>e = .returned (.bool r)∧Below w.heap.size w w':=by
  have hu25:=Try.underlying25;have HB:=amk (Below.refl w.heap.size w);unfold spec_whGood.f at h;have H:=h;clear h;replace H:=bE H;obtain ⟨t204,A2,H⟩:=H;replace H:=iteB H;obtain ⟨rfl,H⟩ | ⟨rfl,H⟩:=H
  · replace H:=bE H;obtain ⟨t205,A4,H⟩:=H;obtain rfl:=Option.some.inj H;go_enter Try.func93,Try.ntmps93;go_wp2_with (first | ((with_reducible refine gate_dst (N:=1) rfl ?_);refine boxE_ HB 1 #[.int .i64 a0_0, .int .i64 a0_1] 25 ?_;clear HB;intro gb203 w5 HB BK203 GW203 GE203 hb;clear hb;obtain ⟨hcz6_0,hcz6_1,hfz6_0,hfz6_1⟩:=cells2 BK203.out) | (refine gc_ 48 5 Try.func48 #[.int .i64 a0_0, .int .i64 1, .int .i64 6] ?_;(with_reducible refine (spec_l1In.calls a0_0 1 6 true _ A2.out).mono ?_);rintro e w' ⟨rfl,⟨nd,rfl⟩⟩;refine ⟨_,rfl,?_⟩) | (go_at_call 48;(with_reducible refine (spec_l1In.calls a0_1 2 10 t205 _ A4.out).mono ?_);rintro e w' ⟨rfl,⟨nd,rfl⟩⟩));go_ret;exact ⟨rF_,bB⟩
  · obtain rfl:=Option.some.inj H;go_enter Try.func93,Try.ntmps93;go_wp2_with (first | ((with_reducible refine gate_dst (N:=1) rfl ?_);refine boxE_ HB 1 #[.int .i64 a0_0, .int .i64 a0_1] 25 ?_;clear HB;intro gb203 w7 HB BK203 GW203 GE203 hb;clear hb;obtain ⟨hcz8_0,hcz8_1,hfz8_0,hfz8_1⟩:=cells2 BK203.out) | (refine gc_ 48 5 Try.func48 #[.int .i64 a0_0, .int .i64 1, .int .i64 6] ?_;(with_reducible refine (spec_l1In.calls a0_0 1 6 false _ A2.out).mono ?_);rintro e w' ⟨rfl,⟨nd,rfl⟩⟩;refine ⟨_,rfl,?_⟩));go_ret;exact ⟨rF_,bB⟩
/-! ### spec_hiLock: function 82 -/
def spec_hiLock.f (k:Nat) (a0_0:Int) (a0_1:Int) (a1:Int):Option (Bool):=(spec_whGood.f a0_0 a0_1).bind fun t207=>(if t207=true then ((spec_whCount.f k a0_0 a0_1).bind fun t208=>(some (decide (t208≤a1)))) else (some false))
set_option maxHeartbeats 8000000 in
set_option maxRecDepth 100000 in
theorem spec_hiLock.calls (k:Nat) (a0_0:Int) (a0_1:Int) (a1:Int) (r:Bool) (w:World) (h:spec_hiLock.f k a0_0 a0_1 a1=some r) :
    Calls Try.prog 82 #[.agg #[.int .i64 a0_0, .int .i64 a0_1], .int .i64 a1] w fun e w'=>e = .returned (.bool r)∧Below w.heap.size w w':=by
  have hu25:=Try.underlying25;have HB:=amk (Below.refl w.heap.size w);unfold spec_hiLock.f at h;have H:=h;clear h;replace H:=bE H;obtain ⟨t207,A3,H⟩:=H;replace H:=iteB H;obtain ⟨rfl,H⟩ | ⟨rfl,H⟩:=H
  · replace H:=bE H;obtain ⟨t208,A5,H⟩:=H;obtain rfl:=Option.some.inj H;go_enter Try.func82,Try.ntmps82;go_wp2_with (first | ((with_reducible refine gate_dst (N:=2) rfl ?_);refine boxE_ HB 2 #[.int .i64 a0_0, .int .i64 a0_1] 25 ?_;clear HB;intro gb206 w6 HB BK206 GW206 GE206 hb;clear hb;obtain ⟨hcz7_0,hcz7_1,hfz7_0,hfz7_1⟩:=cells2 BK206.out) | (refine gc_ 93 6 Try.func93 #[.agg #[.int .i64 a0_0, .int .i64 a0_1]] ?_;(with_reducible refine (spec_whGood.calls a0_0 a0_1 true _ A3.out).mono ?_);rintro e w8 ⟨rfl,hb⟩;refine ⟨_,rfl,?_⟩;replace BK206:=kb2 BK206 hb;replace HB:=hB2 HB hb;(try clear hb);obtain ⟨hcz9_0,hcz9_1,hfz9_0,hfz9_1⟩:=cells2 BK206.out) | (go_at_call 50;(with_reducible refine (spec_whCount.calls k a0_0 a0_1 t208 _ A5.out).mono ?_);rintro e w10 ⟨rfl,hb⟩;replace BK206:=kb2 BK206 hb;replace HB:=hB2 HB hb;(try clear hb)));go_ret;exact ⟨rF_,bB⟩
  · obtain rfl:=Option.some.inj H;go_enter Try.func82,Try.ntmps82;go_wp2_with (first | ((with_reducible refine gate_dst (N:=2) rfl ?_);refine boxE_ HB 2 #[.int .i64 a0_0, .int .i64 a0_1] 25 ?_;clear HB;intro gb206 w11 HB BK206 GW206 GE206 hb;clear hb;obtain ⟨hcz12_0,hcz12_1,hfz12_0,hfz12_1⟩:=cells2 BK206.out) | (refine gc_ 93 6 Try.func93 #[.agg #[.int .i64 a0_0, .int .i64 a0_1]] ?_;(with_reducible refine (spec_whGood.calls a0_0 a0_1 false _ A3.out).mono ?_);rintro e w13 ⟨rfl,hb⟩;refine ⟨_,rfl,?_⟩;replace BK206:=kb2 BK206 hb;replace HB:=hB2 HB hb;(try clear hb)));go_ret;exact ⟨rF_,bB⟩
/-! ### spec_pzLock: function 46 -/
def spec_pzLock.f (k:Nat) (a0_0:Int) (a0_1:Int):Option (Bool):=(spec_hiLock.f k a0_0 a0_1 125).bind fun t210=>(some t210)
set_option maxHeartbeats 8000000 in
set_option maxRecDepth 100000 in
theorem spec_pzLock.calls (k:Nat) (a0_0:Int) (a0_1:Int) (r:Bool) (w:World) (h:spec_pzLock.f k a0_0 a0_1=some r) :
    Calls Try.prog 46 #[.agg #[.int .i64 a0_0, .int .i64 a0_1]] w fun e w'=>e = .returned (.bool r)∧Below w.heap.size w w':=by
  have hu25:=Try.underlying25;have HB:=amk (Below.refl w.heap.size w);unfold spec_pzLock.f at h;have H:=h;clear h;replace H:=bE H;obtain ⟨t210,A2,H⟩:=H;obtain rfl:=Option.some.inj H;go_enter Try.func46,Try.ntmps46;go_wp2_with (first | ((with_reducible refine gate_dst (N:=1) rfl ?_);refine boxE_ HB 1 #[.int .i64 a0_0, .int .i64 a0_1] 25 ?_;clear HB;intro gb209 w3 HB BK209 GW209 GE209 hb;clear hb;obtain ⟨hcz4_0,hcz4_1,hfz4_0,hfz4_1⟩:=cells2 BK209.out) | (refine gc_ 82 4 Try.func82 #[.agg #[.int .i64 a0_0, .int .i64 a0_1], .int .i64 125] ?_;(with_reducible refine (spec_hiLock.calls k a0_0 a0_1 125 t210 _ A2.out).mono ?_);rintro e w5 ⟨rfl,hb⟩;refine ⟨_,rfl,?_⟩;replace BK209:=kb2 BK209 hb;replace HB:=hB2 HB hb;(try clear hb)));go_ret;exact ⟨rF_,bB⟩
/-! ### spec_pzGood: function 65 -/
mutual
def spec_pzGood.j0:Nat→Bool→Int→Int→List (S44)→Option (Bool)
  | 0,_,_,_,_=>none
  | k + 1,x14,x225000,x225001,x225002=>if x14=true then (some false) else (spec_pzGood.l0 k x225002 (x225002.length:Int) 0 x225000 x225001 x225002)
def spec_pzGood.l0:Nat→List (S44)→Int→Int→Int→Int→List (S44)→Option (Bool)
  | 0,_,_,_,_,_,_=>none
  | k + 1,x16,x17,x18,x225000,x225001,x225002=>if x18 < x17 then (if 0≤x18 then (if x18 < (x16.length:Int) then ((spec_pzClue.f k x225000 x225001 ((rd_T44 x16 x18).f0) ((rd_T44 x16 x18).f1) ((rd_T44 x16 x18).f2)).bind fun t228=>(if t228=true then (spec_pzGood.l0 k x16 x17 (wrap64 (x18 + 1)) x225000 x225001 x225002) else (some false))) else (none)) else (none)) else (some true)
end
def spec_pzGood.f (k:Nat) (a0_0:Int) (a0_1:Int) (l0_2:List (S44)):Option (Bool):=(spec_pzLock.f k a0_0 a0_1).bind fun t225=>(if t225=true then (spec_pzGood.j0 k (decide ((l0_2.length:Int) > 6)) a0_0 a0_1 l0_2) else (spec_pzGood.j0 k true a0_0 a0_1 l0_2))
set_option maxHeartbeats 8000000 in
set_option maxRecDepth 100000 in
theorem spec_pzGood.calls (k:Nat) (a0_0:Int) (a0_1:Int) (A0_2:Option Addr) (c0_2:Nat) (l0_2:List (S44)) (r:Bool) (w:World) (hr0_2:Kd.C k44 w A0_2 l0_2.length l0_2) (hc0_2:l0_2.length≤c0_2) (h:spec_pzGood.f k a0_0 a0_1 l0_2=some r) :
    Calls Try.prog 65 #[.agg #[.int .i64 a0_0, .int .i64 a0_1, .slice A0_2 l0_2.length c0_2]] w fun e w'=>e = .returned (.bool r)∧Below w.heap.size w w':=by
  have hu30:=Try.underlying30;have hu25:=Try.underlying25;have hu44:=Try.underlying44;have HR0_2:=amk hr0_2;have HC0_2:=amk hc0_2;clear hr0_2 hc0_2;have HB:=amk (Below.refl w.heap.size w);unfold spec_pzGood.f at h;have H:=h;clear h;have HC2:=amk H;clear H;go_enter Try.func65,Try.ntmps65
  go_upto_region 1 with (first | ((with_reducible refine gate_dst (N:=1) rfl ?_);(try (refine gate_guard (by rfl) ?_;dsimp only));refine boxE_ HB 1 #[.int .i64 a0_0, .int .i64 a0_1, .slice A0_2 l0_2.length c0_2] 30 ?_;clear HB;intro gb224 w3 HB BK224 GW224 GE224 hb;clear hb))
  (try simp only [Act.put,List.setIfInBounds_toArray,List.set_cons_zero,List.set_cons_succ])
  go_cut [14] (fun v14 wc=> ∃ (kq:Nat) (x14_1:Bool),v14 = .bool x14_1∧Aside0 (spec_pzGood.j0 kq x14_1 a0_0 a0_1 l0_2=some r)∧Aside0 (kq≤k)∧Aside0 (wc.heap[gb224]?=some (.cells #[.int .i64 a0_0, .int .i64 a0_1,(.slice A0_2 l0_2.length c0_2)] 30 (0,0)))∧Aside0 (Below w.heap.size w wc))
  case first =>
    have H:=HC2.out;clear HC2;replace H:=bE H;obtain ⟨t225,A4,H⟩:=H;replace H:=iteB H;obtain ⟨rfl,H⟩ | ⟨rfl,H⟩:=H
    · have H':=amk H;clear H;obtain ⟨hcz6_0,hcz6_1,hcz6_2,hfz6_0,hfz6_1,hfz6_2⟩:=cells3 BK224.out;go_wp2_with (first | (refine gc_ 46 7 Try.func46 #[.agg #[.int .i64 a0_0, .int .i64 a0_1]] ?_;(with_reducible refine (spec_pzLock.calls k a0_0 a0_1 true _ A4.out).mono ?_);rintro e w7 ⟨rfl,hb⟩;refine ⟨_,rfl,?_⟩;replace BK224:=kb2 BK224 hb;replace HB:=hB2 HB hb;(try clear hb);obtain ⟨hcz8_0,hcz8_1,hcz8_2,hfz8_0,hfz8_1,hfz8_2⟩:=cells3 BK224.out));go_meet
      case rel=>exact ⟨_,(decide ((l0_2.length:Int) > 6)),rS_,H',⟨by first | omega | exact Nat.le_refl _⟩,⟨kB BK224⟩,⟨bB⟩⟩
    · have H':=amk H;clear H;obtain ⟨hcz9_0,hcz9_1,hcz9_2,hfz9_0,hfz9_1,hfz9_2⟩:=cells3 BK224.out;go_wp2_with (first | (refine gc_ 46 7 Try.func46 #[.agg #[.int .i64 a0_0, .int .i64 a0_1]] ?_;(with_reducible refine (spec_pzLock.calls k a0_0 a0_1 false _ A4.out).mono ?_);rintro e w10 ⟨rfl,hb⟩;refine ⟨_,rfl,?_⟩;replace BK224:=kb2 BK224 hb;replace HB:=hB2 HB hb;(try clear hb)));go_meet
      case rel=>exact ⟨_,(true),rS_,H',⟨by first | omega | exact Nat.le_refl _⟩,⟨kB BK224⟩,⟨bB⟩⟩
  case rest =>
    clear HC2;(try clear p2);(try clear c4);(try clear c5);(try clear c6);(try clear hcz6_0);(try clear hcz6_1);(try clear hcz6_2);(try clear hcz8_0);(try clear hcz8_1);(try clear hcz8_2);(try clear hcz9_0);(try clear hcz9_1);(try clear hcz9_2);(try clear hfz6_0);(try clear hfz6_1);(try clear hfz6_2);(try clear hfz8_0);(try clear hfz8_1);(try clear hfz8_2);(try clear hfz9_0);(try clear hfz9_1);(try clear hfz9_2);obtain ⟨kq,x14_1,rfl,HA,HJ1,BK224,HB⟩:=hcut
    cases kq with
    | zero=>exact absurd HA.out (by simp [spec_pzGood.j0])
    | succ kj1 =>
      have H:=HA.out;clear HA;simp only [spec_pzGood.j0] at H;replace H:=iteB H;obtain ⟨rfl,H⟩ | ⟨rfl,H⟩:=H
      · obtain rfl:=Option.some.inj H;go_wp2;go_ret;exact ⟨rF_,bB⟩
      · have H':=amk H;clear H;obtain ⟨hcz12_0,hcz12_1,hcz12_2,hfz12_0,hfz12_1,hfz12_2⟩:=cells3 BK224.out;go_wp2
        go_loopg [18] kj1 (fun kq v18 w'=> ∃ (x18_2:Int),v18 = .int .i64 x18_2∧Aside0 (spec_pzGood.l0 kq l0_2 (l0_2.length:Int) x18_2 a0_0 a0_1 l0_2=some r)∧Aside0 (kq≤kj1)∧Aside0 (w'.heap[gb224]?=some (.cells #[.int .i64 a0_0, .int .i64 a0_1,(.slice A0_2 l0_2.length c0_2)] 30 (0,0)))∧Aside0 (Below w.heap.size w w'))
        case atStart=>exact ⟨(0),rS_,H',⟨Nat.le_refl _⟩,⟨kB BK224⟩,⟨bB⟩⟩
        case round =>
          clear H';(try clear c1);(try clear p2);(try clear c4);(try clear c5);(try clear c6);(try clear c11);(try clear hcz12_0);(try clear hcz12_1);(try clear hcz12_2);(try clear hcz6_0);(try clear hcz6_1);(try clear hcz6_2);(try clear hcz8_0);(try clear hcz8_1);(try clear hcz8_2);(try clear hcz9_0);(try clear hcz9_1);(try clear hcz9_2);(try clear hfz12_0);(try clear hfz12_1);(try clear hfz12_2);(try clear hfz6_0);(try clear hfz6_1);(try clear hfz6_2);(try clear hfz8_0);(try clear hfz8_1);(try clear hfz8_2);(try clear hfz9_0);(try clear hfz9_1);(try clear hfz9_2);(try clear p2);obtain ⟨x18_2,rfl,HA,HK2,BK224,HB⟩:=hrel
          cases gk with
          | zero=>exact absurd HA.out (by simp [spec_pzGood.l0])
          | succ k2 =>
            have H:=HA.out;clear HA;simp only [spec_pzGood.l0] at H;replace H:=iteE H;obtain ⟨c13b0,H⟩ | ⟨c13b0,H⟩:=H
            · replace H:=iteN H;obtain ⟨c14b0,H⟩:=H;replace H:=iteN H;obtain ⟨c15b0,H⟩:=H;replace H:=bE H;obtain ⟨t228,A16,H⟩:=H;replace H:=iteB H;obtain ⟨rfl,H⟩ | ⟨rfl,H⟩:=H
              · have H':=amk H;clear H;have p226:0≤(x18_2:Int):=dA_;have q226:x18_2 < (l0_2.length:Int):=dA_;obtain ⟨ad226,e226,hx226_0,hx226_1,hx226_2⟩:=at_T44 HR0_2.out x18_2 p226 q226;cases e226;replace hx226_0:=(HB.out.cell (World.block_lt_of_cell? w _ hx226_0)).trans hx226_0;replace hx226_1:=(HB.out.cell (World.block_lt_of_cell? w _ hx226_1)).trans hx226_1;replace hx226_2:=(HB.out.cell (World.block_lt_of_cell? w _ hx226_2)).trans hx226_2;replace p226:=eq_true p226;replace q226:=eq_true q226;go_wp2_with (first | ((with_reducible refine gate_dst (N:=4) rfl ?_);(try (refine gate_guard (by rfl) ?_;dsimp only));refine boxG_ 4 #[.int .i64 0, .int .i64 0, .int .i64 0] 44 ?_;intro gb227 w18 hg BK227 hb;have GW227:=sZ HB hg;have GE227:=sZ HB hg;replace HB:=hB2 HB hb;have NB224_227:=neL BK224 hg;have NB227_224:=neR BK224 hg;replace BK224:=kb2 BK224 hb;clear hb hg;have hnb19:=NB227_224.out;have hnc19:=NB224_227.out;obtain ⟨hcz20_0,hcz20_1,hcz20_2,hfz20_0,hfz20_1,hfz20_2⟩:=cells3 BK227.out;obtain ⟨hcz21_0,hcz21_1,hcz21_2,hfz21_0,hfz21_1,hfz21_2⟩:=cells3 BK224.out) | (refine gc_ 69 25 Try.func69 #[.agg #[.int .i64 a0_0, .int .i64 a0_1], .agg #[.int .i64 ((rd_T44 l0_2 x18_2).f0), .int .i64 ((rd_T44 l0_2 x18_2).f1), .int .i64 ((rd_T44 l0_2 x18_2).f2)]] ?_;(with_reducible refine (spec_pzClue.calls k2 a0_0 a0_1 ((rd_T44 l0_2 x18_2).f0) ((rd_T44 l0_2 x18_2).f1) ((rd_T44 l0_2 x18_2).f2) true _ A16.out).mono ?_);rintro e w22 ⟨rfl,hb⟩;refine ⟨_,rfl,?_⟩;replace BK224:=kb2 BK224 hb;replace BK227:=amk (blk_below (g:=gb227) (o:= .cells #[.int .i64 ((rd_T44 l0_2 x18_2).f0), .int .i64 ((rd_T44 l0_2 x18_2).f1), .int .i64 ((rd_T44 l0_2 x18_2).f2)] 44 (0,0)) (kP BK227) hb);replace HB:=hB2 HB hb;(try clear hb)));go_roundg k2
                case measure=>have:=HJ1.out;have:=HK2.out;omega
                case rel=>exact ⟨(wrap64 (x18_2 + 1)),rS_,H',⟨by have:=HJ1.out;have:=HK2.out;omega⟩,⟨kB BK224⟩,⟨bB⟩⟩
              · obtain rfl:=Option.some.inj H;have p226:0≤(x18_2:Int):=dA_;have q226:x18_2 < (l0_2.length:Int):=dA_;obtain ⟨ad226,e226,hx226_0,hx226_1,hx226_2⟩:=at_T44 HR0_2.out x18_2 p226 q226;cases e226;replace hx226_0:=(HB.out.cell (World.block_lt_of_cell? w _ hx226_0)).trans hx226_0;replace hx226_1:=(HB.out.cell (World.block_lt_of_cell? w _ hx226_1)).trans hx226_1;replace hx226_2:=(HB.out.cell (World.block_lt_of_cell? w _ hx226_2)).trans hx226_2;replace p226:=eq_true p226;replace q226:=eq_true q226;go_wp2_with (first | ((with_reducible refine gate_dst (N:=4) rfl ?_);(try (refine gate_guard (by rfl) ?_;dsimp only));refine boxG_ 4 #[.int .i64 0, .int .i64 0, .int .i64 0] 44 ?_;intro gb227 w23 hg BK227 hb;have GW227:=sZ HB hg;have GE227:=sZ HB hg;replace HB:=hB2 HB hb;have NB224_227:=neL BK224 hg;have NB227_224:=neR BK224 hg;replace BK224:=kb2 BK224 hb;clear hb hg;have hnb24:=NB227_224.out;have hnc24:=NB224_227.out;obtain ⟨hcz25_0,hcz25_1,hcz25_2,hfz25_0,hfz25_1,hfz25_2⟩:=cells3 BK227.out;obtain ⟨hcz26_0,hcz26_1,hcz26_2,hfz26_0,hfz26_1,hfz26_2⟩:=cells3 BK224.out) | (refine gc_ 69 25 Try.func69 #[.agg #[.int .i64 a0_0, .int .i64 a0_1], .agg #[.int .i64 ((rd_T44 l0_2 x18_2).f0), .int .i64 ((rd_T44 l0_2 x18_2).f1), .int .i64 ((rd_T44 l0_2 x18_2).f2)]] ?_;(with_reducible refine (spec_pzClue.calls k2 a0_0 a0_1 ((rd_T44 l0_2 x18_2).f0) ((rd_T44 l0_2 x18_2).f1) ((rd_T44 l0_2 x18_2).f2) false _ A16.out).mono ?_);rintro e w27 ⟨rfl,hb⟩;refine ⟨_,rfl,?_⟩;replace BK224:=kb2 BK224 hb;replace BK227:=amk (blk_below (g:=gb227) (o:= .cells #[.int .i64 ((rd_T44 l0_2 x18_2).f0), .int .i64 ((rd_T44 l0_2 x18_2).f1), .int .i64 ((rd_T44 l0_2 x18_2).f2)] 44 (0,0)) (kP BK227) hb);replace HB:=hB2 HB hb;(try clear hb)));go_ret;exact ⟨rF_,bB⟩
            · obtain rfl:=Option.some.inj H;go_wp2;go_ret;exact ⟨rF_,bB⟩
/-! ### spec_AddClue: function 25 -/
def spec_AddClue.f (k:Nat) (a0_0:Int) (a0_1:Int) (l0_2:List (S44)) (a1_0:Int) (a1_1:Int) (a1_2:Int):Option (Int×Int×(List (S44))×Bool):=(spec_pzGood.f k a0_0 a0_1 l0_2).bind fun t676=>(if t676=true then ((spec_pzClue.f k a0_0 a0_1 a1_0 a1_1 a1_2).bind fun t677=>(if t677=true then (if (l0_2.length:Int)=6 then (some (0,0,([]:List (S44)),false)) else ((some (([]:List (S44)):List (S44))).bind fun y678=>(if y678.length + l0_2.length < 5864062014805 then ((some (y678 ++ l0_2:List (S44))).bind fun y681=>((some (([(⟨a1_0,a1_1,a1_2⟩:S44)]:List (S44)):List (S44))).bind fun y684=>(if y681.length + y684.length < 5864062014805 then (some (a0_0,a0_1,(y681 ++ y684),true)) else (none)))) else (none)))) else (some (0,0,([]:List (S44)),false)))) else (some (0,0,([]:List (S44)),false)))
def spec_AddClue.T3:Bool×List (List Nat×List Nat):=(true,[([],[]),([0],[0]),([],[]),([],[]),([3],[3]),([2,4],[2,4]),([],[]),([6],[6]),([5,7,5],[5,7]),([1,8],[1,8]),([9,8,0,1,2,3,4,5,6,7,8,9],[9]),([10,0,1,2,3,4,5,6,7,8,9,10],[])])
def spec_AddClue.B3:List Nat:=[0,1,0,0,8,28,0,64,252,511,1023,2047]
theorem spec_AddClue.tab3:rtab .any (opsOf Try.f25 3)=spec_AddClue.T3:=by kernel_rfl
theorem spec_AddClue.bits3:waitsOk spec_AddClue.T3.2 spec_AddClue.B3=true:=by kernel_rfl
set_option maxHeartbeats 8000000 in
set_option maxRecDepth 100000 in
theorem spec_AddClue.calls (k:Nat) (a0_0:Int) (a0_1:Int) (A0_2:Option Addr) (c0_2:Nat) (l0_2:List (S44)) (a1_0:Int) (a1_1:Int) (a1_2:Int) (r1:Int) (r2:Int) (r3:List (S44)) (r4:Bool) (w:World) (hr0_2:Kd.C k44 w A0_2 l0_2.length l0_2) (hc0_2:l0_2.length≤c0_2) (h:spec_AddClue.f k a0_0 a0_1 l0_2 a1_0 a1_1 a1_2=some (r1,r2,r3,r4)) :
    Calls Try.prog 25 #[.agg #[.int .i64 a0_0, .int .i64 a0_1, .slice A0_2 l0_2.length c0_2], .agg #[.int .i64 a1_0, .int .i64 a1_1, .int .i64 a1_2]] w fun e w'=> ∃ v2_:Value,e = .returned (.tuple #[.agg #[.int .i64 r1, .int .i64 r2,v2_], .bool r4])∧Kd.R k44 44 w' w.heap.size (fun _=>True) v2_ r3∧Below w.heap.size w w':=by
  have hu30:=Try.underlying30;have hu44:=Try.underlying44;have hu25:=Try.underlying25;have HR0_2:=amk hr0_2;have HC0_2:=amk hc0_2;clear hr0_2 hc0_2;have HB:=amk (Below.refl w.heap.size w);unfold spec_AddClue.f at h;have H:=h;clear h;replace H:=bE H;obtain ⟨t676,A3,H⟩:=H;replace H:=iteB H;obtain ⟨rfl,H⟩ | ⟨rfl,H⟩:=H
  · replace H:=bE H;obtain ⟨t677,A5,H⟩:=H;replace H:=iteB H;obtain ⟨rfl,H⟩ | ⟨rfl,H⟩:=H
    · by_cases c7:(l0_2.length:Int)=6
      · rw [if_pos c7] at H;have c7b0:((l0_2.length:Int) == 6)=true:=beq_iff_eq.mpr c7;have c7b1:((l0_2.length:Int) != 6)=false:=bne_eq_false_iff_eq.mpr c7;clear c7;simp only [Option.some.injEq,Prod.mk.injEq] at H;obtain ⟨rfl,rfl,rfl,rfl⟩:=H;go_enter Try.func25,Try.ntmps25;go_wp2_with (first | ((with_reducible refine gate_dst (N:=2) rfl ?_);(try (refine gate_guard (by rfl) ?_;dsimp only));refine boxE_ HB 2 #[.int .i64 a0_0, .int .i64 a0_1, .slice A0_2 l0_2.length c0_2] 30 ?_;clear HB;intro gb673 w8 HB BK673 GW673 GE673 hb;clear hb) | ((with_reducible refine gate_dst (N:=3) rfl ?_);(try (refine gate_guard (by rfl) ?_;dsimp only));refine boxG_ 3 #[.int .i64 a1_0, .int .i64 a1_1, .int .i64 a1_2] 44 ?_;intro gb674 w9 hg BK674 hb;have GW674:=sZ HB hg;have GE674:=sZ HB hg;replace HB:=hB2 HB hb;have NB673_674:=neL BK673 hg;have NB674_673:=neR BK673 hg;replace BK673:=kb2 BK673 hb;clear hb hg) | ((with_reducible refine gate_dst (N:=4) rfl ?_);(try (refine gate_guard (by rfl) ?_;dsimp only));refine boxG_ 4 #[.int .i64 0, .int .i64 0, .slice none 0 0] 30 ?_;intro gb675 w10 hg BK675 hb;have GW675:=sZ HB hg;have GE675:=sZ HB hg;replace HB:=hB2 HB hb;have NB673_675:=neL BK673 hg;have NB675_673:=neR BK673 hg;replace BK673:=kb2 BK673 hb;have NB674_675:=neL BK674 hg;have NB675_674:=neR BK674 hg;replace BK674:=kb2 BK674 hb;clear hb hg;have hnb11:=NB673_674.out;have hnc11:=NB674_673.out;have hnb12:=NB673_675.out;have hnc12:=NB675_673.out;obtain ⟨hcz13_0,hcz13_1,hcz13_2,hfz13_0,hfz13_1,hfz13_2⟩:=cells3 BK673.out) | (refine gc_ 65 7 Try.func65 #[.agg #[.int .i64 a0_0, .int .i64 a0_1, .slice A0_2 l0_2.length c0_2]] ?_;(with_reducible refine (spec_pzGood.calls k a0_0 a0_1 _ _ l0_2 true _ ?_ ?_ A3.out).mono ?_);exact cB (Kd.C_below HR0_2.out HB.out);exact HC0_2.out;rintro e w14 ⟨rfl,hb⟩;refine ⟨_,rfl,?_⟩;replace BK673:=kb2 BK673 hb;replace BK674:=kb2 BK674 hb;replace BK675:=kb2 BK675 hb;replace HB:=hB2 HB hb;(try clear hb);obtain ⟨hcz15_0,hcz15_1,hcz15_2,hfz15_0,hfz15_1,hfz15_2⟩:=cells3 BK673.out;have hnb16:=NB674_675.out;have hnc16:=NB675_674.out;obtain ⟨hcz17_0,hcz17_1,hcz17_2,hfz17_0,hfz17_1,hfz17_2⟩:=cells3 BK674.out) | (go_at_call 69;(with_reducible refine (spec_pzClue.calls k a0_0 a0_1 a1_0 a1_1 a1_2 true _ A5.out).mono ?_);rintro e w18 ⟨rfl,hb⟩;replace BK673:=kb2 BK673 hb;replace BK674:=kb2 BK674 hb;replace BK675:=kb2 BK675 hb;replace HB:=hB2 HB hb;(try clear hb);obtain ⟨hcz19_0,hcz19_1,hcz19_2,hfz19_0,hfz19_1,hfz19_2⟩:=cells3 BK673.out;obtain ⟨hcz20_0,hcz20_1,hcz20_2,hfz20_0,hfz20_1,hfz20_2⟩:=cells3 BK675.out));refine bodyPost_ret (results_ct rfl _ _ gb675 30 #[.int .i64 0, .int .i64 0, .slice none 0 0] (0,0) _ rfl (kP BK675) Try.underlying30 rfl (by kernel_rfl)) rfl ?_;exact ⟨_,rF_,xN_,bB⟩
      · rw [if_neg c7] at H;have c7b0:((l0_2.length:Int) == 6)=false:=beq_eq_false_iff_ne.mpr c7;have c7b1:((l0_2.length:Int) != 6)=true:=bne_iff_ne.mpr c7;obtain ⟨y678,hy678⟩ : ∃ y_:List (S44),y_=(([]:List (S44))):=⟨_,rfl⟩;(replace H:(if y678.length + l0_2.length < 5864062014805 then ((some (y678 ++ l0_2:List (S44))).bind fun y681=>((some (([(⟨a1_0,a1_1,a1_2⟩:S44)]:List (S44)):List (S44))).bind fun y684=>(if y681.length + y684.length < 5864062014805 then (some (a0_0,a0_1,(y681 ++ y684),true)) else (none)))) else (none))=some (r1,r2,r3,r4):=by first | (rw [hy678];with_reducible exact H) | (have H2_:=(Option.bind_some _ _).symm.trans H;rw [hy678];with_reducible exact H2_) | (have H2_:=(Option.bind_some _ _).symm.trans H;with_reducible exact H2_) | with_reducible exact H | (rw [hy678];exact H) | exact H);have Ny678:=amk hy678;clear hy678
        by_cases c21:y678.length + l0_2.length < 5864062014805
        · rw [if_pos c21] at H;have LMc21:=amk c21;clear c21;obtain ⟨y681,hy681⟩ : ∃ y_:List (S44),y_=(y678 ++ l0_2):=⟨_,rfl⟩;(replace H:((some (([(⟨a1_0,a1_1,a1_2⟩:S44)]:List (S44)):List (S44))).bind fun y684=>(if y681.length + y684.length < 5864062014805 then (some (a0_0,a0_1,(y681 ++ y684),true)) else (none)))=some (r1,r2,r3,r4):=by first | (rw [hy681];with_reducible exact H) | (have H2_:=(Option.bind_some _ _).symm.trans H;rw [hy681];with_reducible exact H2_) | (have H2_:=(Option.bind_some _ _).symm.trans H;with_reducible exact H2_) | with_reducible exact H | (rw [hy681];exact H) | exact H);have Ny681:=amk hy681;clear hy681;obtain ⟨y684,hy684⟩ : ∃ y_:List (S44),y_=(([(⟨a1_0,a1_1,a1_2⟩:S44)]:List (S44))):=⟨_,rfl⟩;(replace H:(if y681.length + y684.length < 5864062014805 then (some (a0_0,a0_1,(y681 ++ y684),true)) else (none))=some (r1,r2,r3,r4):=by first | (rw [hy684];with_reducible exact H) | (have H2_:=(Option.bind_some _ _).symm.trans H;rw [hy684];with_reducible exact H2_) | (have H2_:=(Option.bind_some _ _).symm.trans H;with_reducible exact H2_) | with_reducible exact H | (rw [hy684];exact H) | exact H);have Ny684:=amk hy684;clear hy684
          by_cases c22:y681.length + y684.length < 5864062014805
          · rw [if_pos c22] at H;have LMc22:=amk c22;clear c22;obtain ⟨y687,hy687⟩ : ∃ y_:List (S44),y_=(y681 ++ y684):=⟨_,rfl⟩;(replace H:(some (a0_0,a0_1,y687,true))=some (r1,r2,r3,r4):=by first | (rw [hy687];with_reducible exact H) | (have H2_:=(Option.bind_some _ _).symm.trans H;rw [hy687];with_reducible exact H2_) | (have H2_:=(Option.bind_some _ _).symm.trans H;with_reducible exact H2_) | with_reducible exact H | (rw [hy687];exact H) | exact H);have Ny687:=amk hy687;clear hy687;simp only [Option.some.injEq,Prod.mk.injEq] at H;obtain ⟨rfl,rfl,rfl,rfl⟩:=H;go_enter Try.func25,Try.ntmps25;(try go_wp2_with (first | ((with_reducible refine gate_dst (N:=2) rfl ?_);(try (refine gate_guard (by rfl) ?_;dsimp only));refine boxE_ HB 2 #[.int .i64 a0_0, .int .i64 a0_1, .slice A0_2 l0_2.length c0_2] 30 ?_;clear HB;intro gb673 w23 HB BK673 GW673 GE673 hb;clear hb) | ((with_reducible refine gate_dst (N:=3) rfl ?_);(try (refine gate_guard (by rfl) ?_;dsimp only));refine boxG_ 3 #[.int .i64 a1_0, .int .i64 a1_1, .int .i64 a1_2] 44 ?_;intro gb674 w24 hg BK674 hb;have GW674:=sZ HB hg;have GE674:=sZ HB hg;replace HB:=hB2 HB hb;have NB673_674:=neL BK673 hg;have NB674_673:=neR BK673 hg;replace BK673:=kb2 BK673 hb;clear hb hg) | ((with_reducible refine gate_dst (N:=4) rfl ?_);(try (refine gate_guard (by rfl) ?_;dsimp only));refine boxG_ 4 #[.int .i64 0, .int .i64 0, .slice none 0 0] 30 ?_;intro gb675 w25 hg BK675 hb;have GW675:=sZ HB hg;have GE675:=sZ HB hg;replace HB:=hB2 HB hb;have NB673_675:=neL BK673 hg;have NB675_673:=neR BK673 hg;replace BK673:=kb2 BK673 hb;have NB674_675:=neL BK674 hg;have NB675_674:=neR BK674 hg;replace BK674:=kb2 BK674 hb;clear hb hg;have hnb26:=NB673_674.out;have hnc26:=NB674_673.out;have hnb27:=NB673_675.out;have hnc27:=NB675_673.out;obtain ⟨hcz28_0,hcz28_1,hcz28_2,hfz28_0,hfz28_1,hfz28_2⟩:=cells3 BK673.out) | (refine gc_ 65 7 Try.func65 #[.agg #[.int .i64 a0_0, .int .i64 a0_1, .slice A0_2 l0_2.length c0_2]] ?_;(with_reducible refine (spec_pzGood.calls k a0_0 a0_1 _ _ l0_2 true _ ?_ ?_ A3.out).mono ?_);exact cB (Kd.C_below HR0_2.out HB.out);exact HC0_2.out;rintro e w29 ⟨rfl,hb⟩;refine ⟨_,rfl,?_⟩;replace BK673:=kb2 BK673 hb;replace BK674:=kb2 BK674 hb;replace BK675:=kb2 BK675 hb;replace HB:=hB2 HB hb;(try clear hb);obtain ⟨hcz30_0,hcz30_1,hcz30_2,hfz30_0,hfz30_1,hfz30_2⟩:=cells3 BK673.out;have hnb31:=NB674_675.out;have hnc31:=NB675_674.out;obtain ⟨hcz32_0,hcz32_1,hcz32_2,hfz32_0,hfz32_1,hfz32_2⟩:=cells3 BK674.out) | (go_at_call 69;(with_reducible refine (spec_pzClue.calls k a0_0 a0_1 a1_0 a1_1 a1_2 true _ A5.out).mono ?_);rintro e w33 ⟨rfl,hb⟩;replace BK673:=kb2 BK673 hb;replace BK674:=kb2 BK674 hb;replace BK675:=kb2 BK675 hb;replace HB:=hB2 HB hb;(try clear hb);obtain ⟨hcz34_0,hcz34_1,hcz34_2,hfz34_0,hfz34_1,hfz34_2⟩:=cells3 BK673.out)));replace BK673:=amk (blk_drew BK673.out);replace BK674:=amk (blk_drew BK674.out);replace BK675:=amk (blk_drew BK675.out);replace HB:=amk (bd_ HB.out);refine start_ (n:=12) (S:=fun w'=>w'.cell? ⟨gb673,0,none⟩=some (.int .i64 a0_0)∧w'.cell? ⟨gb673,1,none⟩=some (.int .i64 a0_1)∧w'.cell? ⟨gb673,2,none⟩=some (.slice A0_2 l0_2.length c0_2)∧w'.cell? ⟨gb674,0,none⟩=some (.int .i64 a1_0)∧w'.cell? ⟨gb674,1,none⟩=some (.int .i64 a1_1)∧w'.cell? ⟨gb674,2,none⟩=some (.int .i64 a1_2)) (ds:=[]) (bA 12 0) (by kernel_rfl) rfl rfl ⟨(blk_cell BK673.out 0).trans rfl,(blk_cell BK673.out 1).trans rfl,(blk_cell BK673.out 2).trans rfl,(blk_cell BK674.out 0).trans rfl,(blk_cell BK674.out 1).trans rfl,(blk_cell BK674.out 2).trans rfl⟩ (fun hHeld=>?_);refine with_tabW spec_AddClue.tab3 spec_AddClue.bits3 (fun HT_ HW_=>?_);generalize w33.drew=w35 at BK673 BK674 BK675 HB hHeld ⊢;refine pU_ HT_ 0 (some 23) (bA 12 1) ?_;refine pU_ HT_ 3 (some 26) (bA 12 9) ?_;refine tK_ HT_ HW_ hHeld 1 (some 24) (bA 12 11) ?_;refine tK_ HT_ HW_ hHeld 4 (some 27) (bA 12 27) ?_;refine tK_ HT_ HW_ hHeld 6 (some 29) (bA 12 91) ?_;refine join_ (σ:=Value×Value×Value) 4 (bA 12 255) (fun s_=> [(25,s_.1),(28,s_.2.1),(30,s_.2.2)]) (fun s_ w'=>(w'.cell? ⟨gb673,0,none⟩=some (.int .i64 a0_0)∧w'.cell? ⟨gb673,1,none⟩=some (.int .i64 a0_1)∧w'.cell? ⟨gb673,2,none⟩=some (.slice A0_2 l0_2.length c0_2)∧w'.cell? ⟨gb674,0,none⟩=some (.int .i64 a1_0)∧w'.cell? ⟨gb674,1,none⟩=some (.int .i64 a1_1)∧w'.cell? ⟨gb674,2,none⟩=some (.int .i64 a1_2))∧(Kd.R k44 44 w' w.heap.size (fun k_=>some k_≠(s_.2.2:Value).ownBlock∧k_≠gb674) s_.2.1 y681)∧(Kd.R k44 44 w' w.heap.size (fun k_=>some k_≠(s_.2.1:Value).ownBlock∧k_≠gb674) s_.2.2 y684)∧(w'.heap[gb673]?=some (.cells #[.int .i64 a0_0, .int .i64 a0_1, .slice A0_2 l0_2.length c0_2] 30 (0,0)))∧(w'.heap[gb674]?=some (.cells #[.int .i64 a1_0, .int .i64 a1_1, .int .i64 a1_2] 44 (0,0)))∧(w'.heap[gb675]?=some (.cells #[.int .i64 0, .int .i64 0, .slice none 0 0] 30 (0,0)))∧(Below w.heap.size w w')) ?_ ?_;rotate_left
            · intro hCont;refine two_ (i:=2) (j:=7) (Ni:=some 25) (Nj:=some 30) (bA 12 95) (bA 12 219) rfl rfl rfl rfl (two_of HT_.out (by kernel_rfl)) (by decide) (by decide) (fun K hK=>?_) (fun K hK=>?_)
              · skip
                refine Kd.R_lit_step k44 _ 44 ?hg (N:=25) ?hd (xs:=([]:List (S44))) (inner:=[]) (ok:=fun _=>True) (okp:=fun _=>True) ?hr ?hp (fun _ hk=>hk) trivial (Below.refl _ _) (Nat.le_refl _) (by simp) ?_;(case hd=>rfl);(case hg=>rfl);(case hr=>first | (go_simp;done) | (go_simp;rfl));(case hp=>exact (Reps.none _ _));intro v679 w36 ho37 hb hg_ hnew_;clear hg_ hnew_;(first | rw [←Ny678.out] at ho37 | (simp only [Int.reduceToNat] at ho37;rw [←Ny678.out] at ho37));have HO680:=amk (Kd.R_lower (Kd.R_newB ho37 (g:=gb674) (o:= .cells #[.int .i64 a1_0, .int .i64 a1_1, .int .i64 a1_2] 44 (0,0)) (kB BK674)) (below_size bB));replace BK673:=kb2 BK673 hb;replace BK674:=kb2 BK674 hb;replace BK675:=kb2 BK675 hb;replace HB:=hB2 HB hb;clear hb ho37;refine hK.out _ _ hC_ (fun hHeld=>?_);clear hK K;refine nN_ (some 25) ?_;refine two_ (i:=5) (j:=7) (Ni:=some 28) (Nj:=some 30) (bA 12 127) (bA 12 223) rfl rfl rfl rfl (two_of HT_.out (by kernel_rfl)) (by decide) (by decide) (fun K hK=>?_) (fun K hK=>?_)
                · skip
                  refine Kd.R_append_rows_step k44 (w0:=w) w.heap.size (by rfl) (.tmp 25) (.tmp 27) 28 44 (.agg #[(.int .i64 0),(.int .i64 0),(.int .i64 0)]) 24 rfl Try.underlying28 info44 rfl (by decide) (by omega) v679 y678 l0_2 _ _ _ (fun k_=>k_≠gb674) (fun _=>False) rfl rfl ?aO ?aR (fun _ _ h=>h) (fun _ h=>h.elim) ?aF ?aB ?aS ?aL ?_;(case aR=>exact cB (Kd.C_below HR0_2.out HB.out));(case aB=>exact bB);(case aF=>exact (fun k_ hk=>Kd.freshB (g:=gb674) (o:= .cells #[.int .i64 a1_0, .int .i64 a1_1, .int .i64 a1_2] 44 (0,0)) (kB BK674) k_ hk));(case aO=>exact (by (with_reducible repeat (first | apply Kd.R_alloc | apply Kd.R_drewN | apply Kd.R_drew));exact Kd.R_mono HO680.out (fun _ hk=>hk.2)));(case aS=>exact (below_size bB));(case aL=>have:=LMc21.out;omega);intro v682 w38 ho hb hg hat;rw [←Ny681.out] at ho;replace BK673:=bG BK673 hg (Kd.R_ne HO680.out BK673.out (by decide));replace BK674:=bG BK674 hg (Kd.R_away HO680.out (fun _ hk=>hk.2));replace BK675:=bG BK675 hg (Kd.R_ne HO680.out BK675.out (by decide));replace HB:=amk (hb);have HO683:=amk (ho);clear HO680;clear ho hb hg hat;refine hK.out _ _ hC_ (fun hHeld=>?_);clear hK K;refine nN_ (some 28) ?_;refine oN_ HT_ 7 (some 30) (bA 12 255) (fun K hK=>?_);refine Kd.R_lit_step k44 _ 44 ?hg (N:=30) ?hd (xs:=([(⟨a1_0,a1_1,a1_2⟩:S44)]:List (S44))) (inner:=[.int .i64 a1_0, .int .i64 a1_1, .int .i64 a1_2]) (ok:=fun _=>True) (okp:=fun _=>True) ?hr ?hp (fun _ hk=>hk) trivial (Below.refl _ _) (Nat.le_refl _) (by simp) ?_;(case hd=>rfl);(case hg=>rfl);(case hr=>first | (go_simp;done) | (go_simp;rfl));(case hp=>exact (Reps.c3 (show Kd.M k44 _ _ _ (⟨a1_0,a1_1,a1_2⟩:S44) [.int .i64 a1_0, .int .i64 a1_1, .int .i64 a1_2] from (k44_mkM _ _ _ (⟨a1_0,a1_1,a1_2⟩:S44) )) (Reps.none _ _)));intro v685 w39 ho40 hb hg_ hnew_;clear hg_ hnew_;(first | rw [←Ny684.out] at ho40 | (simp only [Int.reduceToNat] at ho40;rw [←Ny684.out] at ho40));have HO686:=amk (Kd.R_lower (Kd.R_newB (Kd.R_new' ho40 (Kd.R_lt (oX HO683))) (g:=gb674) (o:= .cells #[.int .i64 a1_0, .int .i64 a1_1, .int .i64 a1_2] 44 (0,0)) (kB BK674)) (below_size bB));replace HO683:=amk (Kd.R_elder' (oX HO683) (Kd.R_base ho40) hb);replace BK673:=kb2 BK673 hb;replace BK674:=kb2 BK674 hb;replace BK675:=kb2 BK675 hb;replace HB:=hB2 HB hb;clear hb ho40;refine hK.out _ _ hC_ (fun hHeld=>?_);clear hK K;refine nN_ (some 30) ?_;exact norm_ (by simp only [putAll,Act.put,List.setIfInBounds_toArray,List.set_cons_zero,List.set_cons_succ]) (hCont (v679,v682,v685) _ ⟨hHeld,(by (with_reducible repeat (first | apply Kd.R_alloc | apply Kd.R_drewN | apply Kd.R_drew));exact Kd.R_mono HO683.out (fun _ hk=>⟨hk.2,hk.1⟩)),(by (with_reducible repeat (first | apply Kd.R_alloc | apply Kd.R_drewN | apply Kd.R_drew));exact Kd.R_mono HO686.out (fun _ hk=>⟨hk.1.2,hk.2⟩)),(kB BK673),(kB BK674),(kB BK675),bB⟩)
                · skip
                  refine Kd.R_lit_step k44 _ 44 ?hg (N:=30) ?hd (xs:=([(⟨a1_0,a1_1,a1_2⟩:S44)]:List (S44))) (inner:=[.int .i64 a1_0, .int .i64 a1_1, .int .i64 a1_2]) (ok:=fun _=>True) (okp:=fun _=>True) ?hr ?hp (fun _ hk=>hk) trivial (Below.refl _ _) (Nat.le_refl _) (by simp) ?_;(case hd=>rfl);(case hg=>rfl);(case hr=>first | (go_simp;done) | (go_simp;rfl));(case hp=>exact (Reps.c3 (show Kd.M k44 _ _ _ (⟨a1_0,a1_1,a1_2⟩:S44) [.int .i64 a1_0, .int .i64 a1_1, .int .i64 a1_2] from (k44_mkM _ _ _ (⟨a1_0,a1_1,a1_2⟩:S44) )) (Reps.none _ _)));intro v685 w38 ho39 hb hg_ hnew_;clear hg_ hnew_;(first | rw [←Ny684.out] at ho39 | (simp only [Int.reduceToNat] at ho39;rw [←Ny684.out] at ho39));have HO686:=amk (Kd.R_lower (Kd.R_newB (Kd.R_new' ho39 (Kd.R_lt (oX HO680))) (g:=gb674) (o:= .cells #[.int .i64 a1_0, .int .i64 a1_1, .int .i64 a1_2] 44 (0,0)) (kB BK674)) (below_size bB));replace HO680:=amk (Kd.R_elder' (oX HO680) (Kd.R_base ho39) hb);replace BK673:=kb2 BK673 hb;replace BK674:=kb2 BK674 hb;replace BK675:=kb2 BK675 hb;replace HB:=hB2 HB hb;clear hb ho39;refine hK.out _ _ hC_ (fun hHeld=>?_);clear hK K;refine nN_ (some 30) ?_;refine oN_ HT_ 5 (some 28) (bA 12 255) (fun K hK=>?_);refine Kd.R_append_rows_step k44 (w0:=w) w.heap.size (by rfl) (.tmp 25) (.tmp 27) 28 44 (.agg #[(.int .i64 0),(.int .i64 0),(.int .i64 0)]) 24 rfl Try.underlying28 info44 rfl (by decide) (by omega) v679 y678 l0_2 _ _ _ (fun k_=>some k_≠(v685:Value).ownBlock∧k_≠gb674) (fun _=>False) rfl rfl ?aO ?aR (fun _ _ h=>h) (fun _ h=>h.elim) ?aF ?aB ?aS ?aL ?_;(case aR=>exact cB (Kd.C_below HR0_2.out HB.out));(case aB=>exact bB);(case aF=>exact (fun k_ hk=>⟨Kd.fresh' (Kd.R_lt (oX HO686)) k_ hk,Kd.freshB (g:=gb674) (o:= .cells #[.int .i64 a1_0, .int .i64 a1_1, .int .i64 a1_2] 44 (0,0)) (kB BK674) k_ hk⟩));(case aO=>exact (by (with_reducible repeat (first | apply Kd.R_alloc | apply Kd.R_drewN | apply Kd.R_drew));exact Kd.R_mono HO680.out (fun _ hk=>⟨hk.2,hk.1.2⟩)));(case aS=>exact (below_size bB));(case aL=>have:=LMc21.out;omega);intro v682 w40 ho hb hg hat;rw [←Ny681.out] at ho;replace BK673:=bG BK673 hg (Kd.R_ne HO680.out BK673.out (by decide));replace BK674:=bG BK674 hg (Kd.R_away HO680.out (fun _ hk=>hk.1.2));replace BK675:=bG BK675 hg (Kd.R_ne HO680.out BK675.out (by decide));replace HO686:=amk (Kd.R_after (ok:=(fun k_=>k_≠gb674)) (by (with_reducible repeat (first | apply Kd.R_alloc | apply Kd.R_drewN | apply Kd.R_drew));exact Kd.R_mono HO686.out (fun _ hk=>⟨hk.2,hk.1.2⟩)) hg hat);replace HB:=amk (hb);have HO683:=amk (ho);clear HO680;clear ho hb hg hat;refine hK.out _ _ hC_ (fun hHeld=>?_);clear hK K;refine nN_ (some 28) ?_;exact norm_ (by simp only [putAll,Act.put,List.setIfInBounds_toArray,List.set_cons_zero,List.set_cons_succ]) (hCont (v679,v682,v685) _ ⟨hHeld,(oX HO683),(by (with_reducible repeat (first | apply Kd.R_alloc | apply Kd.R_drewN | apply Kd.R_drew));exact Kd.R_mono HO686.out (fun _ hk=>⟨hk.2,hk.1⟩)),(kB BK673),(kB BK674),(kB BK675),bB⟩)
              · skip
                refine Kd.R_lit_step k44 _ 44 ?hg (N:=30) ?hd (xs:=([(⟨a1_0,a1_1,a1_2⟩:S44)]:List (S44))) (inner:=[.int .i64 a1_0, .int .i64 a1_1, .int .i64 a1_2]) (ok:=fun _=>True) (okp:=fun _=>True) ?hr ?hp (fun _ hk=>hk) trivial (Below.refl _ _) (Nat.le_refl _) (by simp) ?_;(case hd=>rfl);(case hg=>rfl);(case hr=>first | (go_simp;done) | (go_simp;rfl));(case hp=>exact (Reps.c3 (show Kd.M k44 _ _ _ (⟨a1_0,a1_1,a1_2⟩:S44) [.int .i64 a1_0, .int .i64 a1_1, .int .i64 a1_2] from (k44_mkM _ _ _ (⟨a1_0,a1_1,a1_2⟩:S44) )) (Reps.none _ _)));intro v685 w36 ho37 hb hg_ hnew_;clear hg_ hnew_;(first | rw [←Ny684.out] at ho37 | (simp only [Int.reduceToNat] at ho37;rw [←Ny684.out] at ho37));have HO686:=amk (Kd.R_lower (Kd.R_newB ho37 (g:=gb674) (o:= .cells #[.int .i64 a1_0, .int .i64 a1_1, .int .i64 a1_2] 44 (0,0)) (kB BK674)) (below_size bB));replace BK673:=kb2 BK673 hb;replace BK674:=kb2 BK674 hb;replace BK675:=kb2 BK675 hb;replace HB:=hB2 HB hb;clear hb ho37;refine hK.out _ _ hC_ (fun hHeld=>?_);clear hK K;refine nN_ (some 30) ?_;refine oN_ HT_ 2 (some 25) (bA 12 223) (fun K hK=>?_);refine Kd.R_lit_step k44 _ 44 ?hg (N:=25) ?hd (xs:=([]:List (S44))) (inner:=[]) (ok:=fun _=>True) (okp:=fun _=>True) ?hr ?hp (fun _ hk=>hk) trivial (Below.refl _ _) (Nat.le_refl _) (by simp) ?_;(case hd=>rfl);(case hg=>rfl);(case hr=>first | (go_simp;done) | (go_simp;rfl));(case hp=>exact (Reps.none _ _));intro v679 w38 ho39 hb hg_ hnew_;clear hg_ hnew_;(first | rw [←Ny678.out] at ho39 | (simp only [Int.reduceToNat] at ho39;rw [←Ny678.out] at ho39));have HO680:=amk (Kd.R_lower (Kd.R_newB (Kd.R_new' ho39 (Kd.R_lt (oX HO686))) (g:=gb674) (o:= .cells #[.int .i64 a1_0, .int .i64 a1_1, .int .i64 a1_2] 44 (0,0)) (kB BK674)) (below_size bB));replace HO686:=amk (Kd.R_elder' (oX HO686) (Kd.R_base ho39) hb);replace BK673:=kb2 BK673 hb;replace BK674:=kb2 BK674 hb;replace BK675:=kb2 BK675 hb;replace HB:=hB2 HB hb;clear hb ho39;refine hK.out _ _ hC_ (fun hHeld=>?_);clear hK K;refine nN_ (some 25) ?_;refine oN_ HT_ 5 (some 28) (bA 12 255) (fun K hK=>?_);refine Kd.R_append_rows_step k44 (w0:=w) w.heap.size (by rfl) (.tmp 25) (.tmp 27) 28 44 (.agg #[(.int .i64 0),(.int .i64 0),(.int .i64 0)]) 24 rfl Try.underlying28 info44 rfl (by decide) (by omega) v679 y678 l0_2 _ _ _ (fun k_=>some k_≠(v685:Value).ownBlock∧k_≠gb674) (fun _=>False) rfl rfl ?aO ?aR (fun _ _ h=>h) (fun _ h=>h.elim) ?aF ?aB ?aS ?aL ?_;(case aR=>exact cB (Kd.C_below HR0_2.out HB.out));(case aB=>exact bB);(case aF=>exact (fun k_ hk=>⟨Kd.fresh' (Kd.R_lt (oX HO686)) k_ hk,Kd.freshB (g:=gb674) (o:= .cells #[.int .i64 a1_0, .int .i64 a1_1, .int .i64 a1_2] 44 (0,0)) (kB BK674) k_ hk⟩));(case aO=>exact (by (with_reducible repeat (first | apply Kd.R_alloc | apply Kd.R_drewN | apply Kd.R_drew));exact Kd.R_mono HO680.out (fun _ hk=>⟨hk.1.2,hk.2⟩)));(case aS=>exact (below_size bB));(case aL=>have:=LMc21.out;omega);intro v682 w40 ho hb hg hat;rw [←Ny681.out] at ho;replace BK673:=bG BK673 hg (Kd.R_ne HO680.out BK673.out (by decide));replace BK674:=bG BK674 hg (Kd.R_away HO680.out (fun _ hk=>hk.2));replace BK675:=bG BK675 hg (Kd.R_ne HO680.out BK675.out (by decide));replace HO686:=amk (Kd.R_after (ok:=(fun k_=>k_≠gb674)) (by (with_reducible repeat (first | apply Kd.R_alloc | apply Kd.R_drewN | apply Kd.R_drew));exact Kd.R_mono HO686.out (fun _ hk=>⟨hk.1.2,hk.2⟩)) hg hat);replace HB:=amk (hb);have HO683:=amk (ho);clear HO680;clear ho hb hg hat;refine hK.out _ _ hC_ (fun hHeld=>?_);clear hK K;refine nN_ (some 28) ?_;exact norm_ (by simp only [putAll,Act.put,List.setIfInBounds_toArray,List.set_cons_zero,List.set_cons_succ]) (hCont (v679,v682,v685) _ ⟨hHeld,(oX HO683),(by (with_reducible repeat (first | apply Kd.R_alloc | apply Kd.R_drewN | apply Kd.R_drew));exact Kd.R_mono HO686.out (fun _ hk=>⟨hk.2,hk.1⟩)),(kB BK673),(kB BK674),(kB BK675),bB⟩)
            rintro ⟨v679,v682,v685⟩ w41 ⟨hS_,h0_,h1_,h2_,h3_,h4_,h5_⟩;have HO683:=amk h0_;have HO686:=amk h1_;replace BK673:=amk h2_;replace BK674:=amk h3_;replace BK675:=amk h4_;replace HB:=amk h5_;clear h0_ h1_ h2_ h3_ h4_ h5_;have hHeld:=hS_;obtain ⟨Ao43,co43,eo43⟩:=Kd.R_slice HO686.out;(first | subst eo43 | (injection eo43 with f1_ f2_ f3_;have f4_:=f1_.symm;have f5_:=f3_.symm;clear f1_ f2_ f3_;subst f4_;subst f5_));refine norm_ (a':=?_) ?_ ?_;rotate_left
            · simp only [putAll,Act.put,List.setIfInBounds_toArray,List.set_cons_zero,List.set_cons_succ]
              rfl
            refine oN_ HT_ 8 (some 31) (bA 12 511) (fun K hK=>?_);refine Kd.R_append_rows_step k44 (w0:=w) w.heap.size (by rfl) (.tmp 28) (.tmp 30) 28 44 (.agg #[(.int .i64 0),(.int .i64 0),(.int .i64 0)]) 24 rfl Try.underlying28 info44 rfl (by decide) (by omega) v682 y681 y684 _ _ _ (fun k_=>some k_≠(.slice Ao43 y684.length co43:Value).ownBlock∧k_≠gb674) (fun _=>False) rfl rfl ?aO ?aR (fun _ _ h=>h) (fun _ h=>h.elim) ?aF ?aB ?aS ?aL ?_;(case aR=>exact cB ((Kd.R_reads' HO686.out).2.2));(case aB=>exact bB);(case aF=>exact (fun k_ hk=>⟨Kd.fresh' (Kd.R_lt (oX HO686)) k_ hk,Kd.freshB (g:=gb674) (o:= .cells #[.int .i64 a1_0, .int .i64 a1_1, .int .i64 a1_2] 44 (0,0)) (kB BK674) k_ hk⟩));(case aO=>exact (oX HO683));(case aS=>exact (below_size bB));(case aL=>have:=LMc22.out;omega);intro v688 w42 ho hb hg hat;rw [←Ny687.out] at ho;replace BK673:=bG BK673 hg (Kd.R_ne HO683.out BK673.out (by decide));replace BK674:=bG BK674 hg (Kd.R_away HO683.out (fun _ hk=>hk.2));replace BK675:=bG BK675 hg (Kd.R_ne HO683.out BK675.out (by decide));replace HO686:=amk (Kd.R_after (ok:=(fun k_=>k_≠gb674)) (by (with_reducible repeat (first | apply Kd.R_alloc | apply Kd.R_drewN | apply Kd.R_drew));exact Kd.R_mono HO686.out (fun _ hk=>⟨hk.2,hk.1⟩)) hg hat);replace HB:=amk (hb);have HO689:=amk (ho);clear HO683;clear ho hb hg hat;obtain ⟨Ao44,co44,eo44⟩:=Kd.R_slice HO689.out;(first | subst eo44 | (injection eo44 with f1_ f2_ f3_;have f4_:=f1_.symm;have f5_:=f3_.symm;clear f1_ f2_ f3_;subst f4_;subst f5_));refine hK.out _ _ hC_ (fun hHeld=>?_);clear hK K;refine nN_ (some 31) ?_;refine pU_ HT_ 9 (some 32) (bA 12 1023) ?_;refine oN_ HT_ 10 none (bA 12 2047) (fun K hK=>?_);have hs45:w42.cell? ⟨gb675,0,none⟩=some (.int .i64 0):=(blk_cell BK675.out 0).trans rfl;have hfs45:=blk_frozen BK675.out 0;have hns45_0:=NB673_675.out;have hns45_1:=NB674_675.out;have hms45_0:=NB675_673.out;have hms45_1:=NB675_674.out;have hs46:w42.cell? ⟨gb675,1,none⟩=some (.int .i64 0):=(blk_cell BK675.out 1).trans rfl;have hfs46:=blk_frozen BK675.out 1;have hns46_0:=NB673_675.out;have hns46_1:=NB674_675.out;have hms46_0:=NB675_673.out;have hms46_1:=NB675_674.out;have hs47:w42.cell? ⟨gb675,2,none⟩=some (.slice none 0 0):=(blk_cell BK675.out 2).trans rfl;have hfs47:=blk_frozen BK675.out 2;have hns47_0:=NB673_675.out;have hns47_1:=NB674_675.out;have hms47_0:=NB675_673.out;have hms47_1:=NB675_674.out;refine skip_ (w1:=?_) (by rfl) rfl ?_ ?_;rotate_left
            · go_simp
              rfl
            refine hK.out _ _ ⟨((cell_far (p:=⟨gb675,_,none⟩) NB673_675.out _).trans (((cell_far (p:=⟨gb675,_,none⟩) NB673_675.out _).trans (((cell_far (p:=⟨gb675,_,none⟩) NB673_675.out _).trans (hHeld.1)))))),((cell_far (p:=⟨gb675,_,none⟩) NB673_675.out _).trans (((cell_far (p:=⟨gb675,_,none⟩) NB673_675.out _).trans (((cell_far (p:=⟨gb675,_,none⟩) NB673_675.out _).trans (hHeld.2.1)))))),((cell_far (p:=⟨gb675,_,none⟩) NB673_675.out _).trans (((cell_far (p:=⟨gb675,_,none⟩) NB673_675.out _).trans (((cell_far (p:=⟨gb675,_,none⟩) NB673_675.out _).trans (hHeld.2.2.1)))))),((cell_far (p:=⟨gb675,_,none⟩) NB674_675.out _).trans (((cell_far (p:=⟨gb675,_,none⟩) NB674_675.out _).trans (((cell_far (p:=⟨gb675,_,none⟩) NB674_675.out _).trans (hHeld.2.2.2.1)))))),((cell_far (p:=⟨gb675,_,none⟩) NB674_675.out _).trans (((cell_far (p:=⟨gb675,_,none⟩) NB674_675.out _).trans (((cell_far (p:=⟨gb675,_,none⟩) NB674_675.out _).trans (hHeld.2.2.2.2.1)))))),((cell_far (p:=⟨gb675,_,none⟩) NB674_675.out _).trans (((cell_far (p:=⟨gb675,_,none⟩) NB674_675.out _).trans (((cell_far (p:=⟨gb675,_,none⟩) NB674_675.out _).trans (hHeld.2.2.2.2.2))))))⟩ (fun hHeld=>?_);clear hK K;refine pU_ HT_ 11 (some 5) (bA 12 4095) ?_;refine done_ (done_of HT_.out (by kernel_rfl)) ?_;(try go_wp2);refine bodyPost_ret (results_ct rfl _ _ gb675 30 #[.int .i64 a0_0, .int .i64 a0_1, .slice Ao44 y687.length co44] (0,0) _ rfl (kP BK675) Try.underlying30 rfl (by kernel_rfl)) rfl ?_;exact ⟨_,rF_,by (with_reducible repeat (first | apply Kd.R_alloc | apply Kd.R_drewN | apply Kd.R_drew));exact Kd.R_mono (Kd.R_far (p:=⟨gb675,2,none⟩) (Kd.R_far (p:=⟨gb675,1,none⟩) (Kd.R_far (p:=⟨gb675,0,none⟩) (Kd.R_types HO689.out BK675.out (by decide)) (fun _ hk=>hk.2) (.int .i64 a0_0)) (fun _ hk=>hk.2) (.int .i64 a0_1)) (fun _ hk=>hk.2) (.slice Ao44 y687.length co44)) (fun _ hk=>trivial),bB⟩
          · rw [if_neg c22] at H;exact absurd H (by simp)
        · rw [if_neg c21] at H;exact absurd H (by simp)
    · simp only [Option.some.injEq,Prod.mk.injEq] at H;obtain ⟨rfl,rfl,rfl,rfl⟩:=H;go_enter Try.func25,Try.ntmps25;go_wp2_with (first | ((with_reducible refine gate_dst (N:=2) rfl ?_);(try (refine gate_guard (by rfl) ?_;dsimp only));refine boxE_ HB 2 #[.int .i64 a0_0, .int .i64 a0_1, .slice A0_2 l0_2.length c0_2] 30 ?_;clear HB;intro gb673 w48 HB BK673 GW673 GE673 hb;clear hb) | ((with_reducible refine gate_dst (N:=3) rfl ?_);(try (refine gate_guard (by rfl) ?_;dsimp only));refine boxG_ 3 #[.int .i64 a1_0, .int .i64 a1_1, .int .i64 a1_2] 44 ?_;intro gb674 w49 hg BK674 hb;have GW674:=sZ HB hg;have GE674:=sZ HB hg;replace HB:=hB2 HB hb;have NB673_674:=neL BK673 hg;have NB674_673:=neR BK673 hg;replace BK673:=kb2 BK673 hb;clear hb hg) | ((with_reducible refine gate_dst (N:=4) rfl ?_);(try (refine gate_guard (by rfl) ?_;dsimp only));refine boxG_ 4 #[.int .i64 0, .int .i64 0, .slice none 0 0] 30 ?_;intro gb675 w50 hg BK675 hb;have GW675:=sZ HB hg;have GE675:=sZ HB hg;replace HB:=hB2 HB hb;have NB673_675:=neL BK673 hg;have NB675_673:=neR BK673 hg;replace BK673:=kb2 BK673 hb;have NB674_675:=neL BK674 hg;have NB675_674:=neR BK674 hg;replace BK674:=kb2 BK674 hb;clear hb hg;have hnb51:=NB673_674.out;have hnc51:=NB674_673.out;have hnb52:=NB673_675.out;have hnc52:=NB675_673.out;obtain ⟨hcz53_0,hcz53_1,hcz53_2,hfz53_0,hfz53_1,hfz53_2⟩:=cells3 BK673.out) | (refine gc_ 65 7 Try.func65 #[.agg #[.int .i64 a0_0, .int .i64 a0_1, .slice A0_2 l0_2.length c0_2]] ?_;(with_reducible refine (spec_pzGood.calls k a0_0 a0_1 _ _ l0_2 true _ ?_ ?_ A3.out).mono ?_);exact cB (Kd.C_below HR0_2.out HB.out);exact HC0_2.out;rintro e w54 ⟨rfl,hb⟩;refine ⟨_,rfl,?_⟩;replace BK673:=kb2 BK673 hb;replace BK674:=kb2 BK674 hb;replace BK675:=kb2 BK675 hb;replace HB:=hB2 HB hb;(try clear hb);obtain ⟨hcz55_0,hcz55_1,hcz55_2,hfz55_0,hfz55_1,hfz55_2⟩:=cells3 BK673.out;have hnb56:=NB674_675.out;have hnc56:=NB675_674.out;obtain ⟨hcz57_0,hcz57_1,hcz57_2,hfz57_0,hfz57_1,hfz57_2⟩:=cells3 BK674.out) | (go_at_call 69;(with_reducible refine (spec_pzClue.calls k a0_0 a0_1 a1_0 a1_1 a1_2 false _ A5.out).mono ?_);rintro e w58 ⟨rfl,hb⟩;replace BK673:=kb2 BK673 hb;replace BK674:=kb2 BK674 hb;replace BK675:=kb2 BK675 hb;replace HB:=hB2 HB hb;(try clear hb);obtain ⟨hcz59_0,hcz59_1,hcz59_2,hfz59_0,hfz59_1,hfz59_2⟩:=cells3 BK675.out));refine bodyPost_ret (results_ct rfl _ _ gb675 30 #[.int .i64 0, .int .i64 0, .slice none 0 0] (0,0) _ rfl (kP BK675) Try.underlying30 rfl (by kernel_rfl)) rfl ?_;exact ⟨_,rF_,xN_,bB⟩
  · simp only [Option.some.injEq,Prod.mk.injEq] at H;obtain ⟨rfl,rfl,rfl,rfl⟩:=H;go_enter Try.func25,Try.ntmps25;go_wp2_with (first | ((with_reducible refine gate_dst (N:=2) rfl ?_);(try (refine gate_guard (by rfl) ?_;dsimp only));refine boxE_ HB 2 #[.int .i64 a0_0, .int .i64 a0_1, .slice A0_2 l0_2.length c0_2] 30 ?_;clear HB;intro gb673 w60 HB BK673 GW673 GE673 hb;clear hb) | ((with_reducible refine gate_dst (N:=3) rfl ?_);(try (refine gate_guard (by rfl) ?_;dsimp only));refine boxG_ 3 #[.int .i64 a1_0, .int .i64 a1_1, .int .i64 a1_2] 44 ?_;intro gb674 w61 hg BK674 hb;have GW674:=sZ HB hg;have GE674:=sZ HB hg;replace HB:=hB2 HB hb;have NB673_674:=neL BK673 hg;have NB674_673:=neR BK673 hg;replace BK673:=kb2 BK673 hb;clear hb hg) | ((with_reducible refine gate_dst (N:=4) rfl ?_);(try (refine gate_guard (by rfl) ?_;dsimp only));refine boxG_ 4 #[.int .i64 0, .int .i64 0, .slice none 0 0] 30 ?_;intro gb675 w62 hg BK675 hb;have GW675:=sZ HB hg;have GE675:=sZ HB hg;replace HB:=hB2 HB hb;have NB673_675:=neL BK673 hg;have NB675_673:=neR BK673 hg;replace BK673:=kb2 BK673 hb;have NB674_675:=neL BK674 hg;have NB675_674:=neR BK674 hg;replace BK674:=kb2 BK674 hb;clear hb hg;have hnb63:=NB673_674.out;have hnc63:=NB674_673.out;have hnb64:=NB673_675.out;have hnc64:=NB675_673.out;obtain ⟨hcz65_0,hcz65_1,hcz65_2,hfz65_0,hfz65_1,hfz65_2⟩:=cells3 BK673.out) | (refine gc_ 65 7 Try.func65 #[.agg #[.int .i64 a0_0, .int .i64 a0_1, .slice A0_2 l0_2.length c0_2]] ?_;(with_reducible refine (spec_pzGood.calls k a0_0 a0_1 _ _ l0_2 false _ ?_ ?_ A3.out).mono ?_);exact cB (Kd.C_below HR0_2.out HB.out);exact HC0_2.out;rintro e w66 ⟨rfl,hb⟩;refine ⟨_,rfl,?_⟩;replace BK673:=kb2 BK673 hb;replace BK674:=kb2 BK674 hb;replace BK675:=kb2 BK675 hb;replace HB:=hB2 HB hb;(try clear hb);have hnb67:=NB675_674.out;have hnc67:=NB674_675.out;obtain ⟨hcz68_0,hcz68_1,hcz68_2,hfz68_0,hfz68_1,hfz68_2⟩:=cells3 BK675.out));refine bodyPost_ret (results_ct rfl _ _ gb675 30 #[.int .i64 0, .int .i64 0, .slice none 0 0] (0,0) _ rfl (kP BK675) Try.underlying30 rfl (by kernel_rfl)) rfl ?_;exact ⟨_,rF_,xN_,bB⟩
/-! ### spec_whDigits: function 94 -/
def spec_whDigits.l0:Nat→ByteArray→List Int→Int→Option (List Int)
  | 0,_,_,_=>none
  | k + 1,x0,x3,x4=>if x4 < (x0.size:Int) then (if 0≤x4 then (if x3.length < 17592186044416 then (spec_whDigits.l0 k x0 (x3 ++ [((bt x0 x4) - 48) % 256]) (wrap64 (x4 + 1))) else (none)) else (none)) else (some x3)
def spec_whDigits.f (k:Nat) (a0:ByteArray):Option (List Int):=spec_whDigits.l0 k a0 ([]:List Int) 0
set_option maxHeartbeats 8000000 in
set_option maxRecDepth 100000 in
theorem spec_whDigits.calls (k:Nat) (a0:ByteArray) (r:List Int) (w:World) (h:spec_whDigits.f k a0=some r) :
    Calls Try.prog 94 #[.string a0] w fun e w'=> ∃ v0_:Value,e = .returned (v0_)∧Kd.R (Kd.int .i64) 3 w' w.heap.size (fun _=>True) v0_ r∧Below w.heap.size w w':=by
  have HB:=amk (Below.refl w.heap.size w);unfold spec_whDigits.f at h;have H:=h;clear h;have H':=amk H;clear H;go_enter Try.func94,Try.ntmps94;go_wp2
  go_loopg [3,4] k (fun kq v3 v4 w'=> ∃ (x3_1:List Int) (x4_1:Int),v4 = .int .i64 x4_1∧Aside0 (spec_whDigits.l0 kq a0 x3_1 x4_1=some r)∧Aside0 (kq≤k)∧Aside0 (Kd.R (Kd.int .i64) 3 w' w.heap.size (fun _=>True) v3 x3_1)∧Aside0 (Below w.heap.size w w'))
  case atStart=>exact ⟨(([]:List Int)),(0),rS_,H',⟨Nat.le_refl _⟩,⟨xN_⟩,⟨bB⟩⟩
  case round =>
    clear H';obtain ⟨x3_1,x4_1,rfl,HA,HK1,HO_3,HB⟩:=hrel
    cases gk with
    | zero=>exact absurd HA.out (by simp [spec_whDigits.l0])
    | succ k1 =>
      have H:=HA.out;clear HA;simp only [spec_whDigits.l0] at H;replace H:=iteE H;obtain ⟨c2b0,H⟩ | ⟨c2b0,H⟩:=H
      · replace H:=iteN H;obtain ⟨c3b0,H⟩:=H
        by_cases c5:x3_1.length < 17592186044416
        · rw [if_pos c5] at H;have LMc5:=amk c5;clear c5;(try rw [Option.bind_some] at H);generalize hy148:((x3_1 ++ [((bt a0 x4_1) - 48) % 256]):List Int)=y148 at H;have Ny148:=amk hy148.symm;clear hy148;have H':=amk H;clear H;have p4:0≤(x4_1:Int):=dA_;have q4:x4_1 < (a0.size:Int):=dA_;have hx4:=bt_at a0 x4_1;replace p4:=eq_true p4;replace q4:=eq_true q4;go_wp2_with (first | ((with_reducible refine gate_builtin (b:= .append) (xs:= #[.tmp 11, .tmp 17]) rfl ?_);at_builtin;refine Kd.R_append (Kd.int .i64) (w0:=w) w.heap.size rfl (.tmp 11) (.tmp 17) 53 3 (.int .i64 0) 8 rfl Try.underlying53 info3 rfl (by decide) (by omega) u3 x3_1 (((bt a0 x4_1) - 48) % 256) [.int .i64 (((bt a0 x4_1) - 48) % 256)] (fun _=>True) (fun _=>False) rfl rfl rfl (fun _ hk=>hk.elim) (fun _ _=>trivial) (oX HO_3) bB (below_size bB) (by have:=LMc5.out;omega) ?_;intro v149 w6 ho hb hg hat;rw [←Ny148.out] at ho;replace HB:=amk (hb);have HO150:=amk (ho);clear HO_3;clear ho hb hg hat));go_roundg k1
          case measure=>have:=HK1.out;omega
          case rel=>exact ⟨(y148),(wrap64 (x4_1 + 1)),rS_,H',⟨by have:=HK1.out;omega⟩,⟨oX HO150⟩,⟨bB⟩⟩
        · rw [if_neg c5] at H;exact absurd H (by simp)
      · obtain rfl:=Option.some.inj H;go_wp2;go_ret;exact ⟨_,rF_,oX HO_3,bB⟩
/-! ### spec_l1Least: function 74 -/
def spec_l1Least.f (a0:Int) (a1:Int):Option (Int):=if a0 < a1 then (some a0) else (some a1)
set_option maxHeartbeats 8000000 in
set_option maxRecDepth 100000 in
theorem spec_l1Least.calls (a0:Int) (a1:Int) (r:Int) (w:World) (h:spec_l1Least.f a0 a1=some r) :
    Calls Try.prog 74 #[.int .i64 a0, .int .i64 a1] w fun e w'=>e = .returned (.int .i64 r)∧Drawn0 w w':=by
  unfold spec_l1Least.f at h;have H:=h;clear h;replace H:=iteE H;obtain ⟨c3b0,H⟩ | ⟨c3b0,H⟩:=H
  · obtain rfl:=Option.some.inj H;go_enter Try.func74,Try.ntmps74;go_wp2;go_ret;exact ⟨rS_,dR_⟩
  · obtain rfl:=Option.some.inj H;go_enter Try.func74,Try.ntmps74;go_wp2;go_ret;exact ⟨rS_,dR_⟩
/-! ### spec_l1Mod: function 102 -/
def spec_l1Mod.f (a0:Int) (a1:Int):Option (Int):=if a1=0 then (none) else (some (Int.tmod (wrap64 ((Int.tmod a0 a1) + a1)) a1))
set_option maxHeartbeats 8000000 in
set_option maxRecDepth 100000 in
theorem spec_l1Mod.calls (a0:Int) (a1:Int) (r:Int) (w:World) (h:spec_l1Mod.f a0 a1=some r) :
    Calls Try.prog 102 #[.int .i64 a0, .int .i64 a1] w fun e w'=>e = .returned (.int .i64 r)∧Drawn0 w w':=by
  unfold spec_l1Mod.f at h;have H:=h;clear h
  by_cases c3:a1=0
  · rw [if_pos c3] at H;exact absurd H (by simp)
  · rw [if_neg c3] at H;have c3b0:(a1 == 0)=false:=beq_eq_false_iff_ne.mpr c3;have c3b1:(a1 != 0)=true:=bne_iff_ne.mpr c3;obtain rfl:=Option.some.inj H;go_enter Try.func102,Try.ntmps102;go_wp2;go_ret;exact ⟨rS_,dR_⟩
/-! ### spec_whFar: function 100 -/
def spec_whFar.f (a0_0:Int) (a0_1:Int) (a1:Int) (a2:Int):Option (Int×Int):=(spec_l1Mod.f (wrap64 (a2 - a1)) a0_1).bind fun t152=>(if a0_1=0 then (none) else (some (t152,Int.tmod (wrap64 (a0_1 - t152)) a0_1)))
set_option maxHeartbeats 8000000 in
set_option maxRecDepth 100000 in
theorem spec_whFar.calls (a0_0:Int) (a0_1:Int) (a1:Int) (a2:Int) (r1:Int) (r2:Int) (w:World) (h:spec_whFar.f a0_0 a0_1 a1 a2=some (r1,r2)) :
    Calls Try.prog 100 #[.agg #[.int .i64 a0_0, .int .i64 a0_1], .int .i64 a1, .int .i64 a2] w fun e w'=>e = .returned (.tuple #[.int .i64 r1, .int .i64 r2])∧Below w.heap.size w w':=by
  have hu25:=Try.underlying25;have HB:=amk (Below.refl w.heap.size w);unfold spec_whFar.f at h;have H:=h;clear h;replace H:=bE H;obtain ⟨t152,A4,H⟩:=H
  by_cases c5:a0_1=0
  · rw [if_pos c5] at H;exact absurd H (by simp)
  · rw [if_neg c5] at H;have c5b0:(a0_1 == 0)=false:=beq_eq_false_iff_ne.mpr c5;have c5b1:(a0_1 != 0)=true:=bne_iff_ne.mpr c5;simp only [Option.some.injEq,Prod.mk.injEq] at H;obtain ⟨rfl,rfl⟩:=H;go_enter Try.func100,Try.ntmps100;go_wp2_with (first | ((with_reducible refine gate_dst (N:=3) rfl ?_);refine boxE_ HB 3 #[.int .i64 a0_0, .int .i64 a0_1] 25 ?_;clear HB;intro gb151 w6 HB BK151 GW151 GE151 hb;clear hb;obtain ⟨hcz7_0,hcz7_1,hfz7_0,hfz7_1⟩:=cells2 BK151.out) | (go_at_call 102;(with_reducible refine (spec_l1Mod.calls (wrap64 (a2 - a1)) a0_1 t152 _ A4.out).mono ?_);rintro e w' ⟨rfl,⟨nd,rfl⟩⟩;(try exact dN_)))
    repeat (go_quiet (first | ((with_reducible refine gate_dst (N:=3) rfl ?_);refine boxE_ HB 3 #[.int .i64 a0_0, .int .i64 a0_1] 25 ?_;clear HB;intro gb151 w6 HB BK151 GW151 GE151 hb;clear hb;obtain ⟨hcz7_0,hcz7_1,hfz7_0,hfz7_1⟩:=cells2 BK151.out) | (go_at_call 102;(with_reducible refine (spec_l1Mod.calls (wrap64 (a2 - a1)) a0_1 t152 _ A4.out).mono ?_);rintro e w' ⟨rfl,⟨nd,rfl⟩⟩;(try exact dN_)));try go_wp2_with (first | ((with_reducible refine gate_dst (N:=3) rfl ?_);refine boxE_ HB 3 #[.int .i64 a0_0, .int .i64 a0_1] 25 ?_;clear HB;intro gb151 w6 HB BK151 GW151 GE151 hb;clear hb;obtain ⟨hcz7_0,hcz7_1,hfz7_0,hfz7_1⟩:=cells2 BK151.out) | (go_at_call 102;(with_reducible refine (spec_l1Mod.calls (wrap64 (a2 - a1)) a0_1 t152 _ A4.out).mono ?_);rintro e w' ⟨rfl,⟨nd,rfl⟩⟩;(try exact dN_))))
    go_ret2;exact ⟨rF_,bB⟩
/-! ### spec_whDistance: function 96 -/
def spec_whDistance.l0:Nat→List Int→List Int→Int→Int→Int→Int→Int→Option (Int)
  | 0,_,_,_,_,_,_,_=>none
  | k + 1,x7,x8,x9,x18,x19,x154000,x154001=>if x19 < x18 then (if 0≤x19 then (if x19 < (x7.length:Int) then (if x19 < (x8.length:Int) then ((spec_whFar.f x154000 x154001 (rd x7 x19) (rd x8 x19)).bind fun bt162=>((spec_l1Least.f bt162.1 bt162.2).bind fun t164=>(spec_whDistance.l0 k x7 x8 (wrap64 (x9 + t164)) x18 (wrap64 (x19 + 1)) x154000 x154001))) else (none)) else (none)) else (none)) else (some x9)
def spec_whDistance.f (k:Nat) (a0_0:Int) (a0_1:Int) (a1:ByteArray) (a2:ByteArray):Option (Int):=(spec_whDigits.f k a1).bind fun t154=>((spec_whDigits.f k a2).bind fun t157=>(spec_whDistance.l0 k t154 t157 0 (t154.length:Int) 0 a0_0 a0_1))
def spec_whDistance.T6:Bool×List (List Nat×List Nat):=(true,[([],[]),([],[]),([],[]),([1,2],[1,2]),([3],[3]),([],[]),([],[]),([5,6],[5,6]),([7],[7]),([0,4,8],[0,4,8]),([9],[9]),([10],[10]),([10],[10]),([11,9,0,1,2,3,4,5,6,7,8,9,10,11],[11]),([12,13,0,1,2,3,4,5,6,7,8,9,10,11,12,13],[12])])
def spec_whDistance.B6:List Nat:=[0,0,0,6,14,0,0,96,224,511,1023,2047,2047,4095,16383]
theorem spec_whDistance.tab6:rtab .any (opsOf Try.f96 6)=spec_whDistance.T6:=by kernel_rfl
theorem spec_whDistance.bits6:waitsOk spec_whDistance.T6.2 spec_whDistance.B6=true:=by kernel_rfl
set_option maxHeartbeats 8000000 in
set_option maxRecDepth 100000 in
theorem spec_whDistance.calls (k:Nat) (a0_0:Int) (a0_1:Int) (a1:ByteArray) (a2:ByteArray) (r:Int) (w:World) (h:spec_whDistance.f k a0_0 a0_1 a1 a2=some r) :
    Calls Try.prog 96 #[.agg #[.int .i64 a0_0, .int .i64 a0_1], .string a1, .string a2] w fun e w'=>e = .returned (.int .i64 r)∧Below w.heap.size w w':=by
  have hu25:=Try.underlying25;have HB:=amk (Below.refl w.heap.size w);unfold spec_whDistance.f at h;have H:=h;clear h;replace H:=bE H;obtain ⟨t154,A4,H⟩:=H;replace H:=bE H;obtain ⟨t157,A5,H⟩:=H;have H':=amk H;clear H;go_enter Try.func96,Try.ntmps96;go_wp2_with (first | ((with_reducible refine gate_dst (N:=3) rfl ?_);refine boxE_ HB 3 #[.int .i64 a0_0, .int .i64 a0_1] 25 ?_;clear HB;intro gb153 w6 HB BK153 GW153 GE153 hb;clear hb) | (refine gc_ 94 14 Try.func94 #[.string a1] ?_;(with_reducible refine (spec_whDigits.calls k a1 t154 _ A4.out).mono ?_);rintro e w7 ⟨v155,rfl,ho0,hb⟩;refine ⟨_,rfl,?_⟩;have HO156:=amk (Kd.R_lower ho0 (below_size bB));replace BK153:=kb2 BK153 hb;replace HB:=hB2 HB hb;(try clear hb);(try clear ho0)) | (refine gc_ 94 16 Try.func94 #[.string a2] ?_;(with_reducible refine (spec_whDigits.calls k a2 t157 _ A5.out).mono ?_);rintro e w8 ⟨v158,rfl,ho0,hb⟩;refine ⟨_,rfl,?_⟩;have HO159:=amk (Kd.R_lower (Kd.R_new' ho0 (Kd.R_lt (oX HO156))) (below_size bB));replace HO156:=amk (Kd.R_elder' (oX HO156) (Kd.R_base ho0) hb);replace BK153:=kb2 BK153 hb;replace HB:=hB2 HB hb;(try clear hb);(try clear ho0);obtain ⟨Ao9,co9,eo9⟩:=Kd.R_slice HO156.out;subst eo9))
  go_loopg [9,19] k (fun kq v9 v19 w'=> ∃ (x9_1:Int) (x19_1:Int),v9 = .int .i64 x9_1∧v19 = .int .i64 x19_1∧Aside0 (spec_whDistance.l0 kq t154 t157 x9_1 (t154.length:Int) x19_1 a0_0 a0_1=some r)∧Aside0 (kq≤k)∧Aside0 (Kd.R (Kd.int .i64) 3 w' w.heap.size (fun k_=>some k_≠(v158:Value).ownBlock) (.slice Ao9 t154.length co9) t154)∧Aside0 (Kd.R (Kd.int .i64) 3 w' w.heap.size (fun k_=>some k_≠((.slice Ao9 t154.length co9):Value).ownBlock) v158 t157)∧Aside0 (w'.heap[gb153]?=some (.cells #[.int .i64 a0_0, .int .i64 a0_1] 25 (0,0)))∧Aside0 (Below w.heap.size w w'))
  case atStart=>exact ⟨(0),(0),rS_,rS_,H',⟨Nat.le_refl _⟩,⟨by (with_reducible repeat (first | apply Kd.R_alloc | apply Kd.R_drewN | apply Kd.R_drew));exact Kd.R_mono HO156.out (fun _ hk=>hk.2)⟩,⟨by (with_reducible repeat (first | apply Kd.R_alloc | apply Kd.R_drewN | apply Kd.R_drew));exact Kd.R_mono HO159.out (fun _ hk=>hk.2)⟩,⟨kB BK153⟩,⟨bB⟩⟩
  case round =>
    clear H';(try clear p2);(try clear c9);obtain ⟨x9_1,x19_1,rfl,rfl,HA,HK1,HO_7,HO_8,BK153,HB⟩:=hrel
    cases gk with
    | zero=>exact absurd HA.out (by simp [spec_whDistance.l0])
    | succ k1 =>
      have H:=HA.out;clear HA;simp only [spec_whDistance.l0] at H;replace H:=iteE H;obtain ⟨c10b0,H⟩ | ⟨c10b0,H⟩:=H
      · replace H:=iteN H;obtain ⟨c11b0,H⟩:=H;replace H:=iteN H;obtain ⟨c12b0,H⟩:=H;replace H:=iteN H;obtain ⟨c13b0,H⟩:=H;replace H:=bE H;obtain ⟨⟨t162,t163⟩,A14,H⟩:=H;(try dsimp only at H);replace H:=bE H;obtain ⟨t164,A15,H⟩:=H;have H':=amk H;clear H;(try go_wp2);replace HO_7:=amk (Kd.R_drew HO_7.out);replace HO_8:=amk (Kd.R_drew HO_8.out);replace BK153:=amk (blk_drew BK153.out);replace HB:=amk (bd_ HB.out);have p160:0≤(x19_1:Int):=dA_;have q160:x19_1 < (t154.length:Int):=dA_;obtain ⟨ad160,e160,hx160_0⟩:=Kd.at_int (Kd.R_reads' HO_7.out).2.2 x19_1 p160 q160;cases e160;replace p160:=eq_true p160;replace q160:=eq_true q160;obtain ⟨Ao17,co17,eo17⟩:=Kd.R_slice HO_8.out;(first | subst eo17 | (injection eo17 with f1_ f2_ f3_;have f4_:=f1_.symm;have f5_:=f3_.symm;clear f1_ f2_ f3_;subst f4_;subst f5_));have p161:0≤(x19_1:Int):=dA_;have q161:x19_1 < (t157.length:Int):=dA_;obtain ⟨ad161,e161,hx161_0⟩:=Kd.at_int (Kd.R_reads' HO_8.out).2.2 x19_1 p161 q161;cases e161;replace p161:=eq_true p161;replace q161:=eq_true q161;refine start_ (n:=15) (S:=fun w'=>w'.cell? ⟨gb153,0,none⟩=some (.int .i64 a0_0)∧w'.cell? ⟨gb153,1,none⟩=some (.int .i64 a0_1)∧w'.cell? (ad160.add (x19_1).toNat)=some (.int .i64 (rd t154 x19_1))∧w'.cell? (ad161.add (x19_1).toNat)=some (.int .i64 (rd t157 x19_1))) (ds:=[]) (bA 15 0) (by kernel_rfl) rfl rfl ⟨(blk_cell BK153.out 0).trans rfl,(blk_cell BK153.out 1).trans rfl,hx160_0,hx161_0⟩ (fun hHeld=>?_);refine with_tabW spec_whDistance.tab6 spec_whDistance.bits6 (fun HT_ HW_=>?_);generalize wr.drew=w16 at HO_7 HO_8 BK153 HB hx160_0 hx161_0 hHeld ⊢;refine pU_ HT_ 1 (some 24) (bA 15 2) ?_;refine pU_ HT_ 2 (some 25) (bA 15 6) ?_;refine pU_ HT_ 3 (some 26) (bA 15 14) ?_;refine pU_ HT_ 5 (some 28) (bA 15 46) ?_;refine pU_ HT_ 6 (some 29) (bA 15 110) ?_;refine pU_ HT_ 7 (some 30) (bA 15 238) ?_;refine tK_ HT_ HW_ hHeld 0 (some 23) (bA 15 239) ?_;refine tK_ HT_ HW_ hHeld 4 (some 27) (bA 15 255) ?_;refine tK_ HT_ HW_ hHeld 8 (some 31) (bA 15 511) ?_;refine oN_ HT_ 9 (some 32) (bA 15 1023) (fun K hK=>?_);refine gs_ Try.func100 #[.agg #[.int .i64 a0_0, .int .i64 a0_1], .int .i64 (rd t154 x19_1), .int .i64 (rd t157 x19_1)] ?_;(with_reducible refine (spec_whFar.calls a0_0 a0_1 (rd t154 x19_1) (rd t157 x19_1) t162 t163 _ A14.out).mono ?_);rintro e w18 ⟨rfl,hb⟩;have HS2_:=(hb.cell (World.block_lt_of_cell? _ _ (hHeld.2.2.1))).trans (hHeld.2.2.1);have HS3_:=(hb.cell (World.block_lt_of_cell? _ _ (hHeld.2.2.2))).trans (hHeld.2.2.2);refine ⟨_,rfl,?_⟩;replace HO_7:=amk (Kd.R_below (oX HO_7) hb);replace HO_8:=amk (Kd.R_below (oX HO_8) hb);replace BK153:=kb2 BK153 hb;replace HB:=hB2 HB hb;(try clear hb);refine hK.out _ _ ⟨(blk_cell BK153.out 0).trans rfl,(blk_cell BK153.out 1).trans rfl,HS2_,HS3_⟩ (fun hHeld=>?_);clear hK K;refine nN_ (some 32) ?_;refine pU_ HT_ 10 (some 22) (bA 15 2047) ?_;refine pU_ HT_ 11 (some 33) (bA 15 4095) ?_;refine pU_ HT_ 12 (some 34) (bA 15 8191) ?_;refine pU_ HT_ 13 (some 11) (bA 15 16383) ?_;refine pU_ HT_ 14 (some 12) (bA 15 32767) ?_;refine done_ (done_of HT_.out (by kernel_rfl)) ?_;(try go_wp2_with (first | (refine gc_ 74 38 Try.func74 #[.int .i64 t162, .int .i64 t163] ?_;(with_reducible refine (spec_l1Least.calls t162 t163 t164 _ A15.out).mono ?_);rintro e w' ⟨rfl,⟨nd,rfl⟩⟩;refine ⟨_,rfl,?_⟩)));go_roundg k1
        case measure=>have:=HK1.out;omega
        case rel=>exact ⟨(wrap64 (x9_1 + t164)),(wrap64 (x19_1 + 1)),rS_,rS_,H',⟨by have:=HK1.out;omega⟩,⟨oX HO_7⟩,⟨oX HO_8⟩,⟨kB BK153⟩,⟨bB⟩⟩
      · obtain rfl:=Option.some.inj H;go_wp2;go_ret;exact ⟨rF_,bB⟩
/-! ### spec_whNumber: function 97 -/
def spec_whNumber.l0:Nat→Int→List Int→Int→Int→Int→Int→Option (Int)
  | 0,_,_,_,_,_,_=>none
  | k + 1,x5,x9,x10,x11,x166000,x166001=>if x11 < x10 then (if 0≤x11 then (if x11 < (x9.length:Int) then (spec_whNumber.l0 k (wrap64 ((wrap64 (x5 * x166001)) + (rd x9 x11))) x9 x10 (wrap64 (x11 + 1)) x166000 x166001) else (none)) else (none)) else (some x5)
def spec_whNumber.f (k:Nat) (a0_0:Int) (a0_1:Int) (a1:ByteArray):Option (Int):=(spec_whDigits.f k a1).bind fun t166=>(spec_whNumber.l0 k 0 t166 (t166.length:Int) 0 a0_0 a0_1)
set_option maxHeartbeats 8000000 in
set_option maxRecDepth 100000 in
theorem spec_whNumber.calls (k:Nat) (a0_0:Int) (a0_1:Int) (a1:ByteArray) (r:Int) (w:World) (h:spec_whNumber.f k a0_0 a0_1 a1=some r) :
    Calls Try.prog 97 #[.agg #[.int .i64 a0_0, .int .i64 a0_1], .string a1] w fun e w'=>e = .returned (.int .i64 r)∧Below w.heap.size w w':=by
  have hu25:=Try.underlying25;have HB:=amk (Below.refl w.heap.size w);unfold spec_whNumber.f at h;have H:=h;clear h;replace H:=bE H;obtain ⟨t166,A3,H⟩:=H;have H':=amk H;clear H;go_enter Try.func97,Try.ntmps97;go_wp2_with (first | ((with_reducible refine gate_dst (N:=2) rfl ?_);refine boxE_ HB 2 #[.int .i64 a0_0, .int .i64 a0_1] 25 ?_;clear HB;intro gb165 w4 HB BK165 GW165 GE165 hb;clear hb) | (refine gc_ 94 9 Try.func94 #[.string a1] ?_;(with_reducible refine (spec_whDigits.calls k a1 t166 _ A3.out).mono ?_);rintro e w5 ⟨v167,rfl,ho0,hb⟩;refine ⟨_,rfl,?_⟩;have HO168:=amk (Kd.R_lower ho0 (below_size bB));replace BK165:=kb2 BK165 hb;replace HB:=hB2 HB hb;(try clear hb);(try clear ho0);obtain ⟨Ao6,co6,eo6⟩:=Kd.R_slice HO168.out;subst eo6))
  go_loopg [5,11] k (fun kq v5 v11 w'=> ∃ (x5_1:Int) (x11_1:Int),v5 = .int .i64 x5_1∧v11 = .int .i64 x11_1∧Aside0 (spec_whNumber.l0 kq x5_1 t166 (t166.length:Int) x11_1 a0_0 a0_1=some r)∧Aside0 (kq≤k)∧Aside0 (Kd.R (Kd.int .i64) 3 w' w.heap.size (fun _=>True) (.slice Ao6 t166.length co6) t166)∧Aside0 (w'.heap[gb165]?=some (.cells #[.int .i64 a0_0, .int .i64 a0_1] 25 (0,0)))∧Aside0 (Below w.heap.size w w'))
  case atStart=>exact ⟨(0),(0),rS_,rS_,H',⟨Nat.le_refl _⟩,⟨oX HO168⟩,⟨kB BK165⟩,⟨bB⟩⟩
  case round =>
    clear H';(try clear p2);obtain ⟨x5_1,x11_1,rfl,rfl,HA,HK1,HO_9,BK165,HB⟩:=hrel
    cases gk with
    | zero=>exact absurd HA.out (by simp [spec_whNumber.l0])
    | succ k1 =>
      have H:=HA.out;clear HA;simp only [spec_whNumber.l0] at H;replace H:=iteE H;obtain ⟨c7b0,H⟩ | ⟨c7b0,H⟩:=H
      · replace H:=iteN H;obtain ⟨c8b0,H⟩:=H;replace H:=iteN H;obtain ⟨c9b0,H⟩:=H;have H':=amk H;clear H;have p169:0≤(x11_1:Int):=dA_;have q169:x11_1 < (t166.length:Int):=dA_;obtain ⟨ad169,e169,hx169_0⟩:=Kd.at_int (Kd.R_reads' HO_9.out).2.2 x11_1 p169 q169;cases e169;replace p169:=eq_true p169;replace q169:=eq_true q169;obtain ⟨hcz10_0,hcz10_1,hfz10_0,hfz10_1⟩:=cells2 BK165.out;go_wp2;go_roundg k1
        case measure=>have:=HK1.out;omega
        case rel=>exact ⟨(wrap64 ((wrap64 (x5_1 * a0_1)) + (rd t166 x11_1))),(wrap64 (x11_1 + 1)),rS_,rS_,H',⟨by have:=HK1.out;omega⟩,⟨oX HO_9⟩,⟨kB BK165⟩,⟨bB⟩⟩
      · obtain rfl:=Option.some.inj H;go_wp2;go_ret;exact ⟨rF_,bB⟩
/-! ### spec_l1Num: function 73 -/
def spec_l1Num.f:Nat→Int→Option (ByteArray)
  | 0,_=>none
  | k + 1,a0=>if a0 < 10 then (some (strOfNums (([(wrap64 (48 + a0)) % 256]:List Int)))) else ((spec_l1Num.f k (wrap64 (Int.tdiv a0 10))).bind fun t136=>((some (([(wrap64 (48 + (Int.tmod a0 10))) % 256]:List Int):List Int)).bind fun y137=>(if t136.size + (strOfNums y137).size≤9223372036854775807 then (some (t136 ++ (strOfNums y137))) else (none))))
def spec_l1Num.T3:Bool×List (List Nat×List Nat):=(true,[([],[]),([0],[0]),([1],[1]),([],[]),([3],[3]),([4],[4]),([5],[5]),([6],[6]),([7],[7]),([2,8],[2,8]),([9,2,0,1,2,3,4,5,6,7,8,9],[9])])
def spec_l1Num.B3:List Nat:=[0,1,3,0,8,24,56,120,248,511,1023]
theorem spec_l1Num.tab3:rtab .any (opsOf Try.f73 3)=spec_l1Num.T3:=by kernel_rfl
theorem spec_l1Num.bits3:waitsOk spec_l1Num.T3.2 spec_l1Num.B3=true:=by kernel_rfl
set_option maxHeartbeats 8000000 in
set_option maxRecDepth 100000 in
theorem spec_l1Num.calls (k:Nat) : ∀ (a0:Int) (r:ByteArray) (w:World) (h:spec_l1Num.f k a0=some r),
    Calls Try.prog 73 #[.int .i64 a0] w fun e w'=>e = .returned (.string r)∧Below w.heap.size w w':=by
  induction k using Nat.strongRecOn with
  | _ k ih =>
  intro a0 r w h
  cases k with
  | zero=>exact absurd h (by simp [spec_l1Num.f])
  | succ k =>
  simp only [spec_l1Num.f] at h;have HB:=amk (Below.refl w.heap.size w);have H:(if a0 < 10 then (some (strOfNums (([(wrap64 (48 + a0)) % 256]:List Int)))) else ((spec_l1Num.f k (wrap64 (Int.tdiv a0 10))).bind fun t136=>((some (([(wrap64 (48 + (Int.tmod a0 10))) % 256]:List Int):List Int)).bind fun y137=>(if t136.size + (strOfNums y137).size≤9223372036854775807 then (some (t136 ++ (strOfNums y137))) else (none)))))=some r:=h;clear h;replace H:=iteE H;obtain ⟨c2b0,H⟩ | ⟨c2b0,H⟩:=H
  · (try rw [Option.bind_some] at H);generalize hy133:(([(wrap64 (48 + a0)) % 256]:List Int))=y133 at H;have Ny133:=amk hy133.symm;clear hy133;obtain rfl:=Option.some.inj H;go_enter Try.func73,Try.ntmps73;go_wp2_with (first | ((with_reducible refine gate_dst (N:=8) rfl ?_);refine Kd.R_lit (Kd.int .u8) _ 5 ?hg (N:=8) ?hd (xs:=([(wrap64 (48 + a0)) % 256]:List Int)) (inner:=[.int .u8 ((wrap64 (48 + a0)) % 256)]) (ok:=fun _=>True) (okp:=fun _=>True) ?hr ?hp (fun _ hk=>hk) trivial (Below.refl _ _) (Nat.le_refl _) (by simp) ?_;(case hd=>rfl);(case hg=>rfl);(case hr=>first | (go_simp;done) | (go_simp;rfl));(case hp=>exact (Reps.one (show Kd.M (Kd.int .u8) _ _ _ ((wrap64 (48 + a0)) % 256) [.int .u8 ((wrap64 (48 + a0)) % 256)] from rfl) (Reps.none _ _)));intro v134 w3 ho4 hb hg_ hnew_;clear hg_ hnew_;(first | rw [←Ny133.out] at ho4 | (simp only [Int.reduceToNat] at ho4;rw [←Ny133.out] at ho4));have HO135:=amk (Kd.R_lower ho4 (below_size bB));replace HB:=hB2 HB hb;clear hb ho4;have hcv5:=own_string (P:=Try.prog) Try.underlying22 Try.underlying5 Try.underlying9 (Kd.own_of_R HO135.out)));go_ret;exact ⟨rF_,bB⟩
  · replace H:=bE H;obtain ⟨t136,A6,H⟩:=H;(try rw [Option.bind_some] at H);generalize hy137:(([(wrap64 (48 + (Int.tmod a0 10))) % 256]:List Int))=y137 at H;have Ny137:=amk hy137.symm;clear hy137
    by_cases c7:t136.size + (strOfNums y137).size≤9223372036854775807
    · rw [if_pos c7] at H;have c7b0:=eq_true c7;have c7b1:decide (t136.size + (strOfNums y137).size≤9223372036854775807)=true:=decide_eq_true c7;(try have c7b2:(9223372036854775807 < t136.size + (strOfNums y137).size)=False:=eq_false (Nat.not_lt.2 c7));(try have c7b3:(9223372036854775807 < t136.size + strOfNums y137.size)=False:=eq_false (by have h9:=Nat.not_lt.2 c7;simp only [ByteArray.size_append] at h9;exact h9));(try have c7b4:decide (t136.size + strOfNums y137.size≤9223372036854775807)=true:=decide_eq_true (by have h9:=c7;simp only [ByteArray.size_append] at h9;exact h9));obtain rfl:=Option.some.inj H;go_enter Try.func73,Try.ntmps73;(try go_wp2);replace HB:=amk (bd_ HB.out);refine start_ (n:=11) (S:=fun w'=>True) (ds:=[]) (bA 11 0) (by kernel_rfl) rfl rfl trivial (fun hHeld=>?_);refine with_tabW spec_l1Num.tab3 spec_l1Num.bits3 (fun HT_ HW_=>?_);generalize w.drew=w8 at HB hHeld ⊢;refine pU_ HT_ 0 (some 10) (bA 11 1) ?_;refine pU_ HT_ 1 (some 11) (bA 11 3) ?_;refine pU_ HT_ 3 (some 13) (bA 11 11) ?_;refine pU_ HT_ 4 (some 14) (bA 11 27) ?_;refine pU_ HT_ 5 (some 15) (bA 11 59) ?_;refine pU_ HT_ 6 (some 16) (bA 11 123) ?_;refine join_ (σ:=Value) 2 (bA 11 511) (fun s_=> [(12, .string t136),(17,s_),(18, .string (strOfNums y137))]) (fun s_ w'=>(Kd.R (Kd.int .u8) 5 w' w.heap.size (fun _=>True) s_ y137)∧(Below w.heap.size w w')) ?_ ?_;rotate_left
      · intro hCont;refine two_ (i:=2) (j:=7) (Ni:=some 12) (Nj:=some 17) (bA 11 127) (bA 11 251) rfl rfl rfl rfl (two_of HT_.out (by kernel_rfl)) (by decide) (by decide) (fun K hK=>?_) (fun K hK=>?_)
        · skip
          refine gs_ Try.func73 #[.int .i64 (wrap64 (Int.tdiv a0 10))] ?_;(with_reducible refine (ih k (by omega) (wrap64 (Int.tdiv a0 10)) t136 _ A6.out).mono ?_);rintro e w9 ⟨rfl,hb⟩;refine ⟨_,rfl,?_⟩;replace HB:=hB2 HB hb;(try clear hb);refine hK.out _ _ trivial (fun hHeld=>?_);clear hK K;refine nN_ (some 12) ?_;refine oN_ HT_ 7 (some 17) (bA 11 255) (fun K hK=>?_);refine Kd.R_lit_step (Kd.int .u8) _ 5 ?hg (N:=17) ?hd (xs:=([(wrap64 (48 + (Int.tmod a0 10))) % 256]:List Int)) (inner:=[.int .u8 ((wrap64 (48 + (Int.tmod a0 10))) % 256)]) (ok:=fun _=>True) (okp:=fun _=>True) ?hr ?hp (fun _ hk=>hk) trivial (Below.refl _ _) (Nat.le_refl _) (by simp) ?_;(case hd=>rfl);(case hg=>rfl);(case hr=>first | (go_simp;done) | (go_simp;rfl));(case hp=>exact (Reps.one (show Kd.M (Kd.int .u8) _ _ _ ((wrap64 (48 + (Int.tmod a0 10))) % 256) [.int .u8 ((wrap64 (48 + (Int.tmod a0 10))) % 256)] from rfl) (Reps.none _ _)));intro v138 w10 ho11 hb hg_ hnew_;clear hg_ hnew_;(first | rw [←Ny137.out] at ho11 | (simp only [Int.reduceToNat] at ho11;rw [←Ny137.out] at ho11));have HO139:=amk (Kd.R_lower ho11 (below_size bB));replace HB:=hB2 HB hb;clear hb ho11;refine hK.out _ _ trivial (fun hHeld=>?_);clear hK K;refine nN_ (some 17) ?_;refine oN_ HT_ 8 (some 18) (bA 11 511) (fun K hK=>?_);have hcv12:=own_string (P:=Try.prog) Try.underlying22 Try.underlying5 Try.underlying9 (Kd.own_of_R HO139.out);refine value_ (w1:=?_) (v:=?_) (by rfl) rfl ?_ ?_;rotate_left 2
          · go_simp
            constructor
            · rfl
            · rfl
          clear hcv12;refine hK.out _ _ trivial (fun hHeld=>?_);clear hK K;refine nN_ (some 18) ?_;exact norm_ (by simp only [putAll,Act.put,List.setIfInBounds_toArray,List.set_cons_zero,List.set_cons_succ]) (hCont (v138) _ ⟨(oX HO139),bB⟩)
        · skip
          refine Kd.R_lit_step (Kd.int .u8) _ 5 ?hg (N:=17) ?hd (xs:=([(wrap64 (48 + (Int.tmod a0 10))) % 256]:List Int)) (inner:=[.int .u8 ((wrap64 (48 + (Int.tmod a0 10))) % 256)]) (ok:=fun _=>True) (okp:=fun _=>True) ?hr ?hp (fun _ hk=>hk) trivial (Below.refl _ _) (Nat.le_refl _) (by simp) ?_;(case hd=>rfl);(case hg=>rfl);(case hr=>first | (go_simp;done) | (go_simp;rfl));(case hp=>exact (Reps.one (show Kd.M (Kd.int .u8) _ _ _ ((wrap64 (48 + (Int.tmod a0 10))) % 256) [.int .u8 ((wrap64 (48 + (Int.tmod a0 10))) % 256)] from rfl) (Reps.none _ _)));intro v138 w9 ho10 hb hg_ hnew_;clear hg_ hnew_;(first | rw [←Ny137.out] at ho10 | (simp only [Int.reduceToNat] at ho10;rw [←Ny137.out] at ho10));have HO139:=amk (Kd.R_lower ho10 (below_size bB));replace HB:=hB2 HB hb;clear hb ho10;refine hK.out _ _ trivial (fun hHeld=>?_);clear hK K;refine nN_ (some 17) ?_;refine two_ (i:=2) (j:=8) (Ni:=some 12) (Nj:=some 18) (bA 11 255) (bA 11 507) rfl rfl rfl rfl (two_of HT_.out (by kernel_rfl)) (by decide) (by decide) (fun K hK=>?_) (fun K hK=>?_)
          · skip
            refine gs_ Try.func73 #[.int .i64 (wrap64 (Int.tdiv a0 10))] ?_;(with_reducible refine (ih k (by omega) (wrap64 (Int.tdiv a0 10)) t136 _ A6.out).mono ?_);rintro e w11 ⟨rfl,hb⟩;refine ⟨_,rfl,?_⟩;replace HO139:=amk (Kd.R_below (oX HO139) hb);replace HB:=hB2 HB hb;(try clear hb);refine hK.out _ _ trivial (fun hHeld=>?_);clear hK K;refine nN_ (some 12) ?_;refine oN_ HT_ 8 (some 18) (bA 11 511) (fun K hK=>?_);have hcv12:=own_string (P:=Try.prog) Try.underlying22 Try.underlying5 Try.underlying9 (Kd.own_of_R HO139.out);refine value_ (w1:=?_) (v:=?_) (by rfl) rfl ?_ ?_;rotate_left 2
            · go_simp
              constructor
              · rfl
              · rfl
            clear hcv12;refine hK.out _ _ trivial (fun hHeld=>?_);clear hK K;refine nN_ (some 18) ?_;exact norm_ (by simp only [putAll,Act.put,List.setIfInBounds_toArray,List.set_cons_zero,List.set_cons_succ]) (hCont (v138) _ ⟨(oX HO139),bB⟩)
          · skip
            have hcv11:=own_string (P:=Try.prog) Try.underlying22 Try.underlying5 Try.underlying9 (Kd.own_of_R HO139.out);refine value_ (w1:=?_) (v:=?_) (by rfl) rfl ?_ ?_;rotate_left 2
            · go_simp
              constructor
              · rfl
              · rfl
            clear hcv11;refine hK.out _ _ trivial (fun hHeld=>?_);clear hK K;refine nN_ (some 18) ?_;refine oN_ HT_ 2 (some 12) (bA 11 511) (fun K hK=>?_);refine gs_ Try.func73 #[.int .i64 (wrap64 (Int.tdiv a0 10))] ?_;(with_reducible refine (ih k (by omega) (wrap64 (Int.tdiv a0 10)) t136 _ A6.out).mono ?_);rintro e w12 ⟨rfl,hb⟩;refine ⟨_,rfl,?_⟩;replace HO139:=amk (Kd.R_below (oX HO139) hb);replace HB:=hB2 HB hb;(try clear hb);refine hK.out _ _ trivial (fun hHeld=>?_);clear hK K;refine nN_ (some 12) ?_;exact norm_ (by simp only [putAll,Act.put,List.setIfInBounds_toArray,List.set_cons_zero,List.set_cons_succ]) (hCont (v138) _ ⟨(oX HO139),bB⟩)
      rintro v138 w13 ⟨h0_,h1_⟩;have HO139:=amk h0_;replace HB:=amk h1_;clear h0_ h1_;have hHeld:=trivial;refine norm_ (a':=?_) ?_ ?_;rotate_left
      · simp only [putAll,Act.put,List.setIfInBounds_toArray,List.set_cons_zero,List.set_cons_succ]
        rfl
      refine pU_ HT_ 9 (some 19) (bA 11 1023) ?_;refine pU_ HT_ 10 (some 2) (bA 11 2047) ?_;refine done_ (done_of HT_.out (by kernel_rfl)) ?_;(try go_wp2);go_ret;exact ⟨rF_,bB⟩
    · rw [if_neg c7] at H;exact absurd H (by simp)
/-! ### spec_whText: function 91 -/
def spec_whText.l0:Nat→ByteArray→List Int→Int→Int→Option (ByteArray)
  | 0,_,_,_,_=>none
  | k + 1,x3,x6,x7,x8=>if x8 < x7 then (if 0≤x8 then (if x8 < (x6.length:Int) then ((spec_l1Num.f k (rd x6 x8)).bind fun t141=>(if x3.size + t141.size≤9223372036854775807 then (spec_whText.l0 k (x3 ++ t141) x6 x7 (wrap64 (x8 + 1))) else (none))) else (none)) else (none)) else (some x3)
def spec_whText.f (k:Nat) (l0:List Int):Option (ByteArray):=spec_whText.l0 k (⟨#[]⟩:ByteArray) l0 (l0.length:Int) 0
set_option maxHeartbeats 8000000 in
set_option maxRecDepth 100000 in
theorem spec_whText.calls (k:Nat) (A0:Option Addr) (c0:Nat) (l0:List Int) (r:ByteArray) (w:World) (hr0:Kd.C (Kd.int .i64) w A0 l0.length l0) (hc0:l0.length≤c0) (h:spec_whText.f k l0=some r) :
    Calls Try.prog 91 #[.slice A0 l0.length c0] w fun e w'=>e = .returned (.string r)∧Below w.heap.size w w':=by
  have HR0:=amk hr0;have HC0:=amk hc0;clear hr0 hc0;have HB:=amk (Below.refl w.heap.size w);unfold spec_whText.f at h;have H:=h;clear h;have H':=amk H;clear H;go_enter Try.func91,Try.ntmps91;go_wp2
  go_loopg [3,8] k (fun kq v3 v8 w'=> ∃ (x3_1:ByteArray) (x8_1:Int),v3 = .string x3_1∧v8 = .int .i64 x8_1∧Aside0 (spec_whText.l0 kq x3_1 l0 (l0.length:Int) x8_1=some r)∧Aside0 (kq≤k)∧Aside0 (Below w.heap.size w w'))
  case atStart=>exact ⟨((⟨#[]⟩:ByteArray)),(0),rS_,rS_,H',⟨Nat.le_refl _⟩,⟨bB⟩⟩
  case round =>
    clear H';obtain ⟨x3_1,x8_1,rfl,rfl,HA,HK1,HB⟩:=hrel
    cases gk with
    | zero=>exact absurd HA.out (by simp [spec_whText.l0])
    | succ k1 =>
      have H:=HA.out;clear HA;simp only [spec_whText.l0] at H;replace H:=iteE H;obtain ⟨c2b0,H⟩ | ⟨c2b0,H⟩:=H
      · replace H:=iteN H;obtain ⟨c3b0,H⟩:=H;replace H:=iteN H;obtain ⟨c4b0,H⟩:=H;replace H:=bE H;obtain ⟨t141,A5,H⟩:=H
        by_cases c6:x3_1.size + t141.size≤9223372036854775807
        · rw [if_pos c6] at H;have c6b0:=eq_true c6;have c6b1:decide (x3_1.size + t141.size≤9223372036854775807)=true:=decide_eq_true c6;(try have c6b2:(9223372036854775807 < x3_1.size + t141.size)=False:=eq_false (Nat.not_lt.2 c6));have H':=amk H;clear H;have p140:0≤(x8_1:Int):=dA_;have q140:x8_1 < (l0.length:Int):=dA_;obtain ⟨ad140,e140,hx140_0⟩:=Kd.at_int HR0.out x8_1 p140 q140;cases e140;replace hx140_0:=(HB.out.cell (World.block_lt_of_cell? w _ hx140_0)).trans hx140_0;replace p140:=eq_true p140;replace q140:=eq_true q140;go_wp2_with (first | (refine gc_ 73 14 Try.func73 #[.int .i64 (rd l0 x8_1)] ?_;(with_reducible refine (spec_l1Num.calls k1 (rd l0 x8_1) t141 _ A5.out).mono ?_);rintro e w7 ⟨rfl,hb⟩;refine ⟨_,rfl,?_⟩;replace HB:=hB2 HB hb;(try clear hb)));go_roundg k1
          case measure=>have:=HK1.out;omega
          case rel=>exact ⟨(x3_1 ++ t141),(wrap64 (x8_1 + 1)),rS_,rS_,H',⟨by have:=HK1.out;omega⟩,⟨bB⟩⟩
        · rw [if_neg c6] at H;exact absurd H (by simp)
      · obtain rfl:=Option.some.inj H;go_wp2;go_ret;exact ⟨rF_,bB⟩
/-! ### spec_whOf: function 76 -/
def spec_whOf.l0:Nat→Int→List Int→Int→Int→Int→Option (ByteArray)
  | 0,_,_,_,_,_=>none
  | k + 1,x1,x5,x6,x143000,x143001=>if x6 ≥ 0 then (if x143001=0 then (none) else (if 0≤x6 then (if x6 < (x5.length:Int) then (spec_whOf.l0 k (wrap64 (Int.tdiv x1 x143001)) (x5.set (x6:Int).toNat (Int.tmod x1 x143001)) (wrap64 (x6 - 1)) x143000 x143001) else (none)) else (none))) else ((spec_whText.f k x5).bind fun t147=>(some t147))
def spec_whOf.f (k:Nat) (a0_0:Int) (a0_1:Int) (a1:Int):Option (ByteArray):=if 0≤a0_0 then (if (a0_0:Int).toNat≤35184372088832 then (spec_whOf.l0 k a1 (List.replicate (a0_0:Int).toNat 0) (wrap64 (a0_0 - 1)) a0_0 a0_1) else (none)) else (none)
set_option maxHeartbeats 8000000 in
set_option maxRecDepth 100000 in
theorem spec_whOf.calls (k:Nat) (a0_0:Int) (a0_1:Int) (a1:Int) (r:ByteArray) (w:World) (h:spec_whOf.f k a0_0 a0_1 a1=some r) :
    Calls Try.prog 76 #[.agg #[.int .i64 a0_0, .int .i64 a0_1], .int .i64 a1] w fun e w'=>e = .returned (.string r)∧Below w.heap.size w w':=by
  have hu25:=Try.underlying25;have HB:=amk (Below.refl w.heap.size w);unfold spec_whOf.f at h;have H:=h;clear h
  by_cases c3:0≤a0_0
  · rw [if_pos c3] at H;have c3b0:=eq_true c3;have c3b1:decide (0≤a0_0)=true:=decide_eq_true c3;clear c3
    by_cases c4:(a0_0:Int).toNat≤35184372088832
    · rw [if_pos c4] at H;have c4b0:=eq_true c4;have c4b1:decide ((a0_0:Int).toNat≤35184372088832)=true:=decide_eq_true c4;clear c4;(try rw [Option.bind_some] at H);generalize hy143:((List.replicate (a0_0:Int).toNat 0):List Int)=y143 at H;have Ny143:=amk hy143.symm;clear hy143;have H':=amk H;clear H;go_enter Try.func76,Try.ntmps76;go_wp2_with (first | ((with_reducible refine gate_dst (N:=2) rfl ?_);refine boxE_ HB 2 #[.int .i64 a0_0, .int .i64 a0_1] 25 ?_;clear HB;intro gb142 w5 HB BK142 GW142 GE142 hb;clear hb;obtain ⟨hcz6_0,hcz6_1,hfz6_0,hfz6_1⟩:=cells2 BK142.out) | ((with_reducible refine gate_dst (N:=9) rfl ?_);refine Kd.R_make (Kd.int .i64) _ 3 rfl (N:=9) rfl 53 _ _ rfl a0_0 rfl rfl Try.underlying53 (.int .i64 0) 8 info3 rfl (by decide) (by omega) 0 (ok:=fun _=>True) (okp:=fun _=>True) rfl (fun _ hk=>hk) trivial (dA_) (Nat.le_trans (Nat.mul_le_mul_right _ (dA_:a0_0.toNat≤35184372088832)) (by omega)) (Below.refl _ _) (Nat.le_refl _) ?_;intro v144 w7 ho8 hb hg_ hnew_;clear hg_ hnew_;(first | rw [←Ny143.out] at ho8 | (simp only [Int.reduceToNat] at ho8;rw [←Ny143.out] at ho8));have HO145:=amk (Kd.R_lower ho8 (below_size bB));replace BK142:=kb2 BK142 hb;replace HB:=hB2 HB hb;clear hb ho8;obtain ⟨hcz9_0,hcz9_1,hfz9_0,hfz9_1⟩:=cells2 BK142.out))
      go_loopg [1,6] k (fun kq v1 v6 w'=> ∃ (x1_1:Int) (x5_1:List Int) (x6_1:Int),v1 = .int .i64 x1_1∧v6 = .int .i64 x6_1∧Aside0 (spec_whOf.l0 kq x1_1 x5_1 x6_1 a0_0 a0_1=some r)∧Aside0 (kq≤k)∧Aside0 (Kd.R (Kd.int .i64) 3 w' w.heap.size (fun _=>True) v144 x5_1)∧Aside0 (w'.heap[gb142]?=some (.cells #[.int .i64 a0_0, .int .i64 a0_1] 25 (0,0)))∧Aside0 (Below w.heap.size w w'))
      case atStart=>exact ⟨(a1),(y143),(wrap64 (a0_0 - 1)),rS_,rS_,H',⟨Nat.le_refl _⟩,⟨oX HO145⟩,⟨kB BK142⟩,⟨bB⟩⟩
      case round =>
        clear H';(try clear p2);(try clear c3);(try clear c3b0);(try clear c3b1);(try clear c4);(try clear c4b0);(try clear c4b1);(try clear p6);(try clear c7);(try clear hcz6_0);(try clear hcz6_1);(try clear hcz9_0);(try clear hcz9_1);(try clear hfz6_0);(try clear hfz6_1);(try clear hfz9_0);(try clear hfz9_1);obtain ⟨x1_1,x5_1,x6_1,rfl,rfl,HA,HK1,HO_5,BK142,HB⟩:=hrel
        cases gk with
        | zero=>exact absurd HA.out (by simp [spec_whOf.l0])
        | succ k1 =>
          have H:=HA.out;clear HA;simp only [spec_whOf.l0] at H
          by_cases c10:x6_1 ≥ 0
          · rw [if_pos c10] at H;have c10b0:decide (0≤x6_1)=true:=decide_eq_true c10;clear c10
            by_cases c11:a0_1=0
            · rw [if_pos c11] at H;exact absurd H (by simp)
            · rw [if_neg c11] at H;have c11b0:(a0_1 == 0)=false:=beq_eq_false_iff_ne.mpr c11;have c11b1:(a0_1 != 0)=true:=bne_iff_ne.mpr c11;replace H:=iteN H;obtain ⟨c12b0,H⟩:=H;replace H:=iteN H;obtain ⟨c13b0,H⟩:=H;(try rw [Option.bind_some] at H);generalize hy146:((x5_1.set (x6_1:Int).toNat (Int.tmod x1_1 a0_1)):List Int)=y146 at H;have Ny146:=amk hy146.symm;clear hy146;have H':=amk H;clear H;obtain ⟨hcz15_0,hcz15_1,hfz15_0,hfz15_1⟩:=cells2 BK142.out;have p14:0≤(x6_1:Int):=dA_;have q14:(x6_1:Int) < ((x5_1.length:Int):Int):=dA_;obtain ⟨go14,co14,eo14,gb14,gl14,cl14,HG14⟩:=Kd.R_form HO_5.out (by omega);(first | cases eo14 | (injection eo14 with ea_ en_ ec_;(first | subst ea_ | (injection ea_ with ea_;subst ea_));subst ec_;clear en_));have GB14:=amk gb14;have GG14:=amk HG14;clear gb14 gl14 HG14;obtain ⟨hx14_0,hf14_0⟩:=Kd.R_celln 0 HO_5.out (x6_1:Int) p14 q14;replace p14:=eq_true p14;replace q14:=eq_true q14;have HP16:=Kd.R_putg HO_5.out (x6_1:Int) (Int.tmod x1_1 a0_1);go_wp2_with (first | ((with_reducible refine gate_store (t:=3) (p:=23) rfl ?_);refine store_event (t:=3) (p:=23) (v:=?vo_w17) (w1:=(wr.setCell ⟨go14,(x6_1:Int).toNat,none⟩ (.int .i64 (Int.tmod x1_1 a0_1)))) ?hg ?ho ?hn ?hr ?_;(case ho=>rfl);(case hg=>rfl);(case hn=>rfl);(case hr=>first | (go_simp;done) | (go_simp;rfl));intro w17 hw;have hg:wr.grownBy w17 (some go14):=(by rw [hw];exact HP16.2);have hp_:Kd.R (Kd.int .i64) 3 w17 w.heap.size (fun _=>True) (.slice (some ⟨go14,0,none⟩) x5_1.length co14) y146:=(by rw [hw,Ny146.out];exact HP16.1);clear HP16;replace BK142:=bG BK142 hg (Kd.R_ne HO_5.out BK142.out (by decide));replace HO_5:=amk (hp_);replace HB:=amk ((by rw [hw];exact bs_ (HB.out) GB14.out:Below w.heap.size w w17));clear hg hw hp_;obtain ⟨hcz18_0,hcz18_1,hfz18_0,hfz18_1⟩:=cells2 BK142.out));go_roundg k1
              case measure=>have:=HK1.out;omega
              case rel=>exact ⟨(wrap64 (Int.tdiv x1_1 a0_1)),(y146),(wrap64 (x6_1 - 1)),rS_,rS_,H',⟨by have:=HK1.out;omega⟩,⟨oX HO_5⟩,⟨kB BK142⟩,⟨bB⟩⟩
          · rw [if_neg c10] at H;have c10b0:decide (0≤x6_1)=false:=decide_eq_false c10;clear c10;replace H:=bE H;obtain ⟨t147,A19,H⟩:=H;obtain rfl:=Option.some.inj H;obtain ⟨Ao20,co20,eo20⟩:=Kd.R_slice HO_5.out;subst eo20;go_wp2_with (first | (refine gc_ 91 29 Try.func91 #[.slice Ao20 x5_1.length co20] ?_;(with_reducible refine (spec_whText.calls k1 _ _ x5_1 t147 _ ?_ ?_ A19.out).mono ?_);exact cB ((Kd.R_reads' HO_5.out).2.2);exact (Kd.R_reads' HO_5.out).2.1;rintro e w21 ⟨rfl,hb⟩;refine ⟨_,rfl,?_⟩;replace HO_5:=amk (Kd.R_below (oX HO_5) hb);replace BK142:=kb2 BK142 hb;replace HB:=hB2 HB hb;(try clear hb)));go_ret;exact ⟨rF_,bB⟩
    · rw [if_neg c4] at H;exact absurd H (by simp)
  · rw [if_neg c3] at H;exact absurd H (by simp)
end Go.Proofs.Ytggfbkekamomiaa.P