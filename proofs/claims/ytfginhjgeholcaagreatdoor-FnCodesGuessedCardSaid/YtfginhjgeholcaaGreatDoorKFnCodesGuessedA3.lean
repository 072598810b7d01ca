import Derived.Test.YtfginhjgeholcaaGreatDoorKFnCodesGuessedA0
import Derived.Test.YtfginhjgeholcaaGreatDoorKFnCodesGuessedA1
import Derived.Test.YtfginhjgeholcaaGreatDoorKFnCodesGuessedA2
import Derived.Lib.OthersKept
namespace Go.Proofs.YtfginhjgeholcaaGreatDoor.P
open Go.RowKit Go.Proofs.YtfginhjgeholcaaGreatDoorW.PrintWords Go.Proofs.YtfginhjgeholcaaGreatDoorW.PrintLast Go.Proofs.YtfginhjgeholcaaGreatDoorW.PrintMore
attribute [local go_sem] max2_int min2_int max_two min_two max_three min_three max_four min_four
set_option linter.unusedVariables false
set_option linter.unusedSimpArgs false
/-! What clues tell of codes: impl's and spec's agree. -/
theorem spec_pzValue.lev (D:List Int) (hD:D.length≤6) : ∀ (m i:Nat),i + m=D.length→∀ acc,Ev (fun k=>spec_pzValue.l0 k acc D (D.length:Int) (i:Nat)) (sumF acc (D.drop i)):=by
  intro m
  induction m with
  | zero =>
    intro i hi acc
    refine Ev.step (fun k=>rfl) (Ev.no (by omega) (Ev.id ?_))
    rw [List.drop_eq_nil_of_le (by omega)];rfl
  | succ m ih =>
    intro i hi acc
    refine Ev.step (fun k=>rfl) (Ev.yes (by omega) (Ev.yes (by omega) (Ev.yes (by omega) ?_)))
    have hlt:i < D.length:=by omega
    rw [show wrap64 ((i:Int) + 1)=((i + 1:Nat):Int) from w64 (by omega) (by omega),List.drop_eq_getElem_cons hlt,rd_at (by simpa using hlt)]
    exact ih (i + 1) (by omega) _
theorem impl_Lock_told.lev (D:List Int) (hD:D.length≤6) : ∀ (m i:Nat),i + m=D.length→∀ acc,Ev (fun k=>impl_Lock_told.l0 k acc D (D.length:Int) (i:Nat)) (1,sumF acc (D.drop i),0):=by
  intro m
  induction m with
  | zero =>
    intro i hi acc
    refine Ev.step (fun k=>rfl) (Ev.no (by omega) (Ev.id ?_))
    rw [List.drop_eq_nil_of_le (by omega)];rfl
  | succ m ih =>
    intro i hi acc
    refine Ev.step (fun k=>rfl) (Ev.yes (by omega) (Ev.yes (by omega) (Ev.yes (by omega) ?_)))
    have hlt:i < D.length:=by omega
    rw [show wrap64 ((i:Int) + 1)=((i + 1:Nat):Int) from w64 (by omega) (by omega),List.drop_eq_getElem_cons hlt,rd_at (by simpa using hlt)]
    exact ih (i + 1) (by omega) _
/-! spec's texts of codes, distances: what they come to. -/
theorem spec_l1Least.is (a b:Int):spec_l1Least.f a b=some (lst a b):=by unfold spec_l1Least.f lst;split <;> rfl
theorem turnV_range {d x y:Int} (hd:2≤d) (J:d≤10) (hx : -300≤x∧x≤300) (hy : -300≤y∧y≤300):0≤turnV d x y∧turnV d x y < d:=by
  unfold turnV
  have e1:wrap64 (y - x)=y - x:=w64 (by omega) (by omega)
  have h1 : -d < Int.tmod (y - x) d:=Int.lt_tmod_of_pos _ (by omega)
  have h2:Int.tmod (y - x) d < d:=Int.tmod_lt_of_pos _ (by omega)
  rw [e1,w64 (by omega) (by omega),Int.tmod_eq_emod_of_nonneg (by omega)]
  exact ⟨Int.emod_nonneg _ (by omega),Int.emod_lt_of_pos _ (by omega)⟩
theorem spec_whDistance.lev {w d:Int} (hl:lockB w d=true) {s t:ByteArray} (hs:codeS w d s) (ht:codeS w d t) : ∀ (m i:Nat),i + m=s.size→Ev (fun k=>spec_whDistance.l0 k (dg s) (dg t) (distF d s t i) ((dg s).length:Int) (i:Nat) w d) (distF d s t s.size):=by
  obtain ⟨w1,w2,d1,d2⟩:=lockB_iff.mp hl
  have hsz:=hs.1
  have htz:=ht.1
  intro m
  induction m with
  | zero =>
    intro i hi
    refine Ev.step (fun k=>rfl) (Ev.no (by rw [dg_length];omega) (Ev.id ?_))
    rw [show i=s.size by omega]
  | succ m ih =>
    intro i hi
    have a1:=hs.2 i (by omega)
    have a2:=ht.2 i (by omega)
    refine Ev.step (fun k=>rfl) (Ev.yes (by rw [dg_length];omega) (Ev.yes (by omega) (Ev.yes (by rw [dg_length];omega) (Ev.yes (by rw [dg_length];omega) ?_))))
    rw [dg_at (by omega),dg_at (by omega)]
    have hf:spec_whFar.f w d (bt s (i:Nat) - 48) (bt t (i:Nat) - 48)=some (turnV d (bt s (i:Nat)) (bt t (i:Nat)),Int.tmod (wrap64 (d - turnV d (bt s (i:Nat)) (bt t (i:Nat)))) d):=by
      unfold spec_whFar.f spec_l1Mod.f turnV
      rw [if_neg (by omega),show bt t (i:Nat) - 48 - (bt s (i:Nat) - 48)=bt t (i:Nat) - bt s (i:Nat) by omega]
      simp only [Option.bind_some]
      rw [if_neg (by omega)]
    refine Ev.bindc hf (Ev.bindc (spec_l1Least.is _ _) ?_)
    rw [show wrap64 ((i:Int) + 1)=((i + 1:Nat):Int) from w64 (by omega) (by omega)]
    exact ih (i + 1) (by omega)
theorem impl_Lock_distance.lev {w d:Int} (hl:lockB w d=true) {s t:ByteArray} (hs:codeS w d s) (ht:codeS w d t) : ∀ (m i:Nat),i + m=s.size→Ev (fun k=>impl_Lock_distance.l0 k s t (distF d s t i) (s.size:Int) (i:Nat) w d) (distF d s t s.size):=by
  obtain ⟨w1,w2,d1,d2⟩:=lockB_iff.mp hl
  have hsz:=hs.1
  have htz:=ht.1
  intro m
  induction m with
  | zero =>
    intro i hi
    refine Ev.step (fun k=>rfl) (Ev.no (by omega) (Ev.id ?_))
    rw [show i=s.size by omega]
  | succ m ih =>
    intro i hi
    have a1:=hs.2 i (by omega)
    have a2:=ht.2 i (by omega)
    refine Ev.step (fun k=>rfl) (Ev.yes (by omega) (Ev.yes (by omega) (Ev.yes (by omega) (Ev.yes (by omega) ?_))))
    have hr:=turnV_range (d:=d) (x:=bt s (i:Nat)) (y:=bt t (i:Nat)) d1 d2 (by omega) (by omega)
    have hf:impl_Lock_near.f w d (wrap64 (bt s (i:Nat))) (wrap64 (bt t (i:Nat)))=some (nearV d (bt s (i:Nat)) (bt t (i:Nat))):=by
      unfold impl_Lock_near.f impl_Lock_gap.f impl_around.f
      rw [if_neg (by omega),w64 (x:=bt s (i:Nat)) (by omega) (by omega),w64 (x:=bt t (i:Nat)) (by omega) (by omega)]
      simp only [Option.bind_some]
      show some (mn (turnV d (bt s (i:Nat)) (bt t (i:Nat))) (wrap64 (d - turnV d (bt s (i:Nat)) (bt t (i:Nat)))))=_
      unfold nearV
      generalize turnV d (bt s (i:Nat)) (bt t (i:Nat))=q at hr
      rw [w64 (x:=d - q) (by omega) (by omega)]
      congr 1
      by_cases hq:q=0
      · subst hq
        rw [Int.sub_zero,Int.tmod_self]
        unfold mn lst
        simp
        omega
      · rw [Int.tmod_eq_of_lt (by omega) (by omega)]
        unfold mn lst
        by_cases e:q < d - q
        · simp [e];omega
        · simp [e];omega
    refine Ev.bindc hf ?_
    rw [show wrap64 ((i:Int) + 1)=((i + 1:Nat):Int) from w64 (by omega) (by omega)]
    exact ih (i + 1) (by omega)
theorem spec_whDistance.ev {w d:Int} (hl:lockB w d=true) {s t:ByteArray} (hs:codeS w d s) (ht:codeS w d t):Ev (fun k=>spec_whDistance.f k w d s t) (distF d s t w.toNat):=by
  unfold spec_whDistance.f
  rw [←hs.1]
  exact Ev.bind (spec_whDigits.evc hl hs) (Ev.bind (spec_whDigits.evc hl ht) (spec_whDistance.lev hl hs ht s.size 0 (by omega)))
theorem impl_Lock_distance.ev {w d:Int} (hl:lockB w d=true) {s t:ByteArray} (hs:codeS w d s) (ht:codeS w d t):Ev (fun k=>impl_Lock_distance.f k w d s t) (distF d s t w.toNat):=by
  unfold impl_Lock_distance.f
  rw [←hs.1]
  exact impl_Lock_distance.lev hl hs ht s.size 0 (by omega)
/-! Whether codes fit clues; all solutions: what both sides come to. -/
theorem clueB_cases {w d a b c:Int} (h:clueB w d a b c=true):(a=0∧0≤b∧b≤w - 1)∨(a=1∧c=0)∨(a=2∧0≤b∧b≤d ^ w.toNat - 1)∨(a=3∧0≤b∧b≤d ^ w.toNat - 1)∨(a=4∧2≤b∧b≤9):=by
  unfold clueB at h
  by_cases h0:a=0
  · rw [if_pos h0] at h;simp at h;omega
  rw [if_neg h0] at h
  by_cases h1:a=1
  · rw [if_pos h1] at h;simp at h;omega
  rw [if_neg h1] at h
  by_cases h2:a=2
  · rw [if_pos h2] at h;simp at h;omega
  rw [if_neg h2] at h
  by_cases h3:a=3
  · rw [if_pos h3] at h;simp at h;omega
  rw [if_neg h3] at h
  by_cases h4:a=4
  · rw [if_pos h4] at h;simp at h;omega
  rw [if_neg h4] at h;cases h
theorem spec_hiOf.is {a b:ByteArray} (h:hintB a b=true):spec_hiOf.f a b=some (plN a b a.size,cmN a b a.size 10 - plN a b a.size):=by unfold spec_hiOf.f;rw [if_pos h]
theorem impl_hint.is {a b:ByteArray} (h:hintB a b=true):impl_hint.f a b=some (plN a b a.size,cmN a b a.size 10 - plN a b a.size):=by unfold impl_hint.f;rw [if_pos h]
theorem spec_pzValue.ev {w d a b:Int} (hl:lockB w d=true) {s:ByteArray} (hs:codeS w d s) (h:(a=0∧0≤b∧b≤w - 1)∨a=1∨(a=2∧0≤b∧b≤d ^ w.toNat - 1)∨(a=3∧0≤b∧b≤d ^ w.toNat - 1)∨(a=4∧2≤b∧b≤9)) :
    Ev (fun k=>spec_pzValue.f k w d a b s) (valV w d a b s):=by
  obtain ⟨w1,w2,d1,d2⟩:=lockB_iff.mp hl
  have hsz:=hs.1
  have hcb:=count_bound hl
  have h6:(dg s).length≤6:=by rw [dg_length];omega
  unfold spec_pzValue.f
  rcases h with ⟨rfl,h1,h2⟩ | rfl | ⟨rfl,h1,h2⟩ | ⟨rfl,h1,h2⟩ | ⟨rfl,h1,h2⟩
  · rw [show valV w d 0 b s=bt s b - 48 by simp [valV]]
    have hb:=hs.2 b.toNat (by omega)
    rw [show ((b.toNat:Nat):Int)=b by omega] at hb
    refine Ev.yes rfl (Ev.yes h1 (Ev.yes (by omega) (Ev.id (by omega))))
  · rw [show valV w d 1 b s=sumF 0 (dg s) by simp [valV]]
    exact Ev.no (by omega) (Ev.yes rfl (Ev.bind (spec_whDigits.evc hl hs) (spec_pzValue.lev _ h6 (dg s).length 0 (by omega) 0)))
  · rw [show valV w d 2 b s=plN (codeB w d b) s w.toNat by simp [valV]]
    have hc:=codeB_code (a:=b) hl
    refine Ev.no (by omega) (Ev.no (by omega) (Ev.yes rfl (Ev.bind (spec_whOf.ev hl h1 (by omega)) (Ev.bindc (spec_hiOf.is (codeS_hint hl hc hs)) (Ev.id ?_)))))
    rw [hc.1]
  · rw [show valV w d 3 b s=distF d (codeB w d b) s w.toNat by simp [valV]]
    have hc:=codeB_code (a:=b) hl
    exact Ev.no (by omega) (Ev.no (by omega) (Ev.no (by omega) (Ev.yes rfl (Ev.bind (spec_whOf.ev hl h1 (by omega)) (Ev.bind (spec_whDistance.ev hl hc hs) (Ev.now _))))))
  · rw [show valV w d 4 b s=Int.tmod (numF d 0 (dg s)) b by simp [valV]]
    exact Ev.no (by omega) (Ev.no (by omega) (Ev.no (by omega) (Ev.no (by omega) (Ev.bind (spec_whNumber.ev hl hs) (Ev.no (by omega) (Ev.now _))))))
theorem impl_Lock_told.ev {w d a b c:Int} (hl:lockB w d=true) {s:ByteArray} (hs:codeS w d s) (h:clueB w d a b c=true) :
    Ev (fun k=>impl_Lock_told.f k w d a b s) (if a=1 then (1,valV w d 1 0 s,0) else (a,b,valV w d a b s)):=by
  obtain ⟨w1,w2,d1,d2⟩:=lockB_iff.mp hl
  have hsz:=hs.1
  have hcb:=count_bound hl
  have h6:(dg s).length≤6:=by rw [dg_length];omega
  unfold impl_Lock_told.f
  rcases clueB_cases h with ⟨rfl,h1,h2⟩ | ⟨rfl,h1⟩ | ⟨rfl,h1,h2⟩ | ⟨rfl,h1,h2⟩ | ⟨rfl,h1,h2⟩
  · rw [if_neg (show ¬ (0:Int)=1 by omega),show valV w d 0 b s=bt s b - 48 by simp [valV]]
    refine Ev.yes rfl (Ev.bind (impl_digits.ev hl hs) (Ev.yes h1 (Ev.yes (by rw [dg_length];omega) (Ev.id ?_))))
    have:=dg_at (s:=s) (i:=b.toNat) (by omega)
    rw [show ((b.toNat:Nat):Int)=b by omega] at this
    rw [this]
  · rw [if_pos rfl,show valV w d 1 0 s=sumF 0 (dg s) by simp [valV]]
    exact Ev.no (by omega) (Ev.yes rfl (Ev.bind (impl_digits.ev hl hs) (impl_Lock_told.lev _ h6 (dg s).length 0 (by omega) 0)))
  · rw [if_neg (show ¬ (2:Int)=1 by omega),show valV w d 2 b s=plN (codeB w d b) s w.toNat by simp [valV]]
    have hc:=codeB_code (a:=b) hl
    refine Ev.no (by omega) (Ev.no (by omega) (Ev.yes rfl (Ev.bindc (impl_Lock_code.is hl h1 (by omega)) (Ev.bindc (impl_hint.is (codeS_hint hl hc hs)) (Ev.id ?_)))))
    rw [hc.1]
  · rw [if_neg (show ¬ (3:Int)=1 by omega),show valV w d 3 b s=distF d (codeB w d b) s w.toNat by simp [valV]]
    have hc:=codeB_code (a:=b) hl
    exact Ev.no (by omega) (Ev.no (by omega) (Ev.no (by omega) (Ev.yes rfl (Ev.bindc (impl_Lock_code.is hl h1 (by omega)) (Ev.bind (impl_Lock_distance.ev hl hc hs) (Ev.now _))))))
  · rw [if_neg (show ¬ (4:Int)=1 by omega),show valV w d 4 b s=Int.tmod (numF d 0 (dg s)) b by simp [valV]]
    exact Ev.no (by omega) (Ev.no (by omega) (Ev.no (by omega) (Ev.no (by omega) (Ev.bind (impl_Lock_number.ev hl hs) (Ev.no (by omega) (Ev.now _))))))
theorem spec_pzFits.ev {w d a b c:Int} (hl:lockB w d=true) {s:ByteArray} (hs:codeS w d s) (h:clueB w d a b c=true):Ev (fun k=>spec_pzFits.f k w d a b c s) (fitV w d (a,b,c) s):=by
  unfold spec_pzFits.f fitV
  by_cases h1:a=1
  · rw [if_pos h1]
    exact Ev.yes h1 (Ev.bind (spec_pzValue.ev hl hs (Or.inr (Or.inl rfl))) (Ev.id (beq_of _ _)))
  · rw [if_neg h1]
    refine Ev.no h1 (Ev.bind (spec_pzValue.ev hl hs ?_) (Ev.id (beq_of _ _)))
    rcases clueB_cases h with h | h | h | h | h
    · exact Or.inl h
    · exact absurd h.1 h1
    · exact Or.inr (Or.inr (Or.inl h))
    · exact Or.inr (Or.inr (Or.inr (Or.inl h)))
    · exact Or.inr (Or.inr (Or.inr (Or.inr h)))
theorem told_fit {w d a b c:Int} {s:ByteArray} (h:clueB w d a b c=true):decide ((if a=1 then (1,valV w d 1 0 s,0) else (a,b,valV w d a b s))=(a,b,c))=fitV w d (a,b,c) s:=by
  unfold fitV
  by_cases h1:a=1
  · rw [if_pos h1,if_pos h1]
    rcases clueB_cases h with h | h | h | h | h
    · omega
    · subst h1;rw [h.2];simp
    · omega
    · omega
    · omega
  · rw [if_neg h1,if_neg h1];simp
def fitA (w d:Int) (l:List S48) (s:ByteArray):Bool:=l.all fun c=>fitV w d (c.f0,c.f1,c.f2) s
theorem impl_Lock_fit.ev {w d:Int} (hl:lockB w d=true) {s:ByteArray} (hs:codeS w d s) (l:List S48) (h : ∀ c∈l,clueB w d c.f0 c.f1 c.f2=true):Ev (fun k=>impl_Lock_fit.f k w d l s) (fitA w d l s):=by
  obtain ⟨K,hK⟩ : ∃ K,∀ k ≥ K,∀ c∈l,impl_Lock_told.f k w d c.f0 c.f1 s=some (if c.f0=1 then (1,valV w d 1 0 s,0) else (c.f0,c.f1,valV w d c.f0 c.f1 s)):=by
    induction l with
    | nil=>exact ⟨0,fun _ _ c hc=>by cases hc⟩
    | cons x xs ih =>
      obtain ⟨K1,h1⟩:=ih (fun c hc=>h c (List.mem_cons_of_mem _ hc))
      obtain ⟨K2,h2⟩:=impl_Lock_told.ev hl hs (h x (List.mem_cons_self ..))
      refine ⟨max K1 K2,fun k hk c hc=>?_⟩
      rcases List.mem_cons.mp hc with rfl | hc
      · exact h2 k (by omega)
      · exact h1 k (by omega) c hc
  refine ⟨K,fun k hk=>?_⟩
  have hk:=hK k hk
  show impl_Lock_fit.f k w d l s=_
  unfold impl_Lock_fit.f
  rw [if_pos (List.all_eq_true.mpr fun c hc=>by rw [hk c hc];rfl)]
  congr 1
  unfold fitA
  rw [Bool.eq_iff_iff,List.all_eq_true,List.all_eq_true]
  have e : ∀ c∈l,decide (impl_Lock_told.f k w d c.f0 c.f1 s=some (c.f0,c.f1,c.f2))=fitV w d (c.f0,c.f1,c.f2) s:=by
    intro c hc
    rw [hk c hc,←told_fit (h c hc)]
    simp
  exact ⟨fun h c hc=>by rw [←e c hc];exact h c hc,fun h c hc=>by rw [e c hc];exact h c hc⟩
def solA (w d:Int) (l:List S48):Nat→List ByteArray
  | 0=> []
  | n + 1=>solA w d l n ++ if fitA w d l (codeB w d (n:Nat))=true then [codeB w d (n:Nat)] else []
theorem solA_len (w d:Int) (l:List S48) : ∀ n,(solA w d l n).length≤n
  | 0=>by simp [solA]
  | n + 1 => by
    have:=solA_len w d l n
    simp only [solA,List.length_append]
    split <;> simp <;> omega
theorem impl_Lock_solutions.lev {w d:Int} (hl:lockB w d=true) (l:List S48) (h : ∀ c∈l,clueB w d c.f0 c.f1 c.f2=true) (N:Nat) (hN:(N:Int)≤1000000) : ∀ (m i:Nat),i + m=N→Ev (fun k=>impl_Lock_solutions.l0 k l (solA w d l i) (N:Int) (i:Nat) w d) (solA w d l N):=by
  intro m
  induction m with
  | zero =>
    intro i hi
    refine Ev.step (fun k=>rfl) (Ev.no (by omega) (Ev.id ?_))
    rw [show i=N by omega]
  | succ m ih =>
    intro i hi
    have hx:=solA_len w d l i
    refine Ev.step (fun k=>rfl) (Ev.yes (by omega) (Ev.bindc (impl_Lock_code.is hl (by omega) (by omega)) (Ev.bind (impl_Lock_fit.ev hl (codeB_code hl) l h) ?_)))
    rw [show wrap64 ((i:Int) + 1)=((i + 1:Nat):Int) from w64 (by omega) (by omega)]
    have hh:=ih (i + 1) (by omega)
    rw [solA] at hh
    cases hf:fitA w d l (codeB w d (i:Nat)) with
    | true =>
      rw [hf,if_pos rfl] at hh
      exact Ev.yes rfl (Ev.yes (by omega) hh)
    | false =>
      rw [hf,if_neg (by simp),List.append_nil] at hh
      exact Ev.no (by simp) hh
theorem impl_Lock_solutions.ev {w d:Int} (hl:lockB w d=true) (l:List S48) (h : ∀ c∈l,clueB w d c.f0 c.f1 c.f2=true):Ev (fun k=>impl_Lock_solutions.f k w d l) (solA w d l (d ^ w.toNat).toNat):=by
  have hcb:=count_bound hl
  unfold impl_Lock_solutions.f
  refine Ev.bind (impl_Lock_count.ev hl) ?_
  have:=impl_Lock_solutions.lev hl l h (d ^ w.toNat).toNat (by omega) (d ^ w.toNat).toNat 0 (by omega)
  rw [show (((d ^ w.toNat).toNat:Nat):Int)=d ^ w.toNat by omega] at this
  exact this
def allC (w d:Int) (n:Nat):List ByteArray:=(List.range n).map fun i=>codeB w d (i:Nat)
theorem spec_hiAll.lev {w d:Int} (hl:lockB w d=true) (N:Nat) (hN:(N:Int)=d ^ w.toNat) : ∀ (m i:Nat),i + m=N→Ev (fun k=>spec_hiAll.l0 k (allC w d i) (i:Nat) w d) (allC w d N):=by
  have hcb:=count_bound hl
  intro m
  induction m with
  | zero =>
    intro i hi
    refine Ev.step (fun k=>rfl) (Ev.bind (spec_whCount.ev hl) (Ev.no (by omega) (Ev.id ?_)))
    rw [show i=N by omega]
  | succ m ih =>
    intro i hi
    refine Ev.step (fun k=>rfl) (Ev.bind (spec_whCount.ev hl) (Ev.yes (by omega) (Ev.bind (spec_whOf.ev hl (by omega) (by omega)) (Ev.yes (by simp [allC];omega) ?_))))
    rw [show wrap64 ((i:Int) + 1)=((i + 1:Nat):Int) from w64 (by omega) (by omega)]
    have hh:=ih (i + 1) (by omega)
    rw [show allC w d (i + 1)=allC w d i ++ [codeB w d (i:Nat)] by simp [allC,List.range_succ]] at hh
    exact hh
theorem spec_hiAll.ev {w d:Int} (hl:lockB w d=true):Ev (fun k=>spec_hiAll.f k w d) (allC w d (d ^ w.toNat).toNat):=by
  have hcb:=count_bound hl
  unfold spec_hiAll.f
  exact spec_hiAll.lev hl (d ^ w.toNat).toNat (by omega) (d ^ w.toNat).toNat 0 (by omega)
theorem spec_pzAll.lev1 {w d:Int} (hl:lockB w d=true) (l:List S48) (hln:l.length≤6) (h : ∀ c∈l,clueB w d c.f0 c.f1 c.f2=true) {s:ByteArray} (hs:codeS w d s) (N i:Nat) (xs:List ByteArray) (r:List ByteArray) (C:List ByteArray)
    (hr:Ev (fun k=>if fitA w d l s=true then (if xs.length < 8796093022208 then (spec_pzAll.l0 k l (xs ++ [s]) C (N:Int) (wrap64 ((i:Int) + 1)) w d) else none) else (spec_pzAll.l0 k l xs C (N:Int) (wrap64 ((i:Int) + 1)) w d)) r) : ∀ (m j:Nat) (b:Bool),j + m=l.length→b=(l.take j).all (fun c=>fitV w d (c.f0,c.f1,c.f2) s) →
    Ev (fun k=>spec_pzAll.l1 k l xs s b C (N:Int) (i:Int) l (l.length:Int) (j:Nat) w d) r:=by
  intro m
  induction m with
  | zero =>
    intro j b hj hb
    refine Ev.step (fun k=>rfl) (Ev.no (by omega) ?_)
    rw [List.take_of_length_le (by omega)] at hb
    have:b=fitA w d l s:=hb
    rw [this];exact hr
  | succ m ih =>
    intro j b hj hb
    have hlt:j < l.length:=by omega
    refine Ev.step (fun k=>rfl) (Ev.yes (by omega) (Ev.yes (by omega) (Ev.yes (by omega) ?_)))
    rw [show wrap64 ((j:Int) + 1)=((j + 1:Nat):Int) from w64 (by omega) (by omega),rd_clue (i:=(j:Int)) (by simpa using hlt)]
    have ht:(l.take (j + 1)).all (fun c=>fitV w d (c.f0,c.f1,c.f2) s)=(b && fitV w d (l[j].f0,l[j].f1,l[j].f2) s):=by
      rw [List.take_succ_eq_append_getElem hlt,List.all_append,←hb];simp
    cases hbb:b with
    | true =>
      rw [hbb,Bool.true_and] at ht
      exact Ev.yes rfl (Ev.bind (spec_pzFits.ev hl hs (h _ (List.getElem_mem hlt))) (ih (j + 1) _ (by omega) ht.symm))
    | false =>
      rw [hbb,Bool.false_and] at ht
      exact Ev.no (by simp) (ih (j + 1) _ (by omega) ht.symm)
theorem spec_pzAll.lev {w d:Int} (hl:lockB w d=true) (l:List S48) (hln:l.length≤6) (h : ∀ c∈l,clueB w d c.f0 c.f1 c.f2=true) (N:Nat) (hN:(N:Int)≤1000000) : ∀ (m i:Nat),i + m=N→Ev (fun k=>spec_pzAll.l0 k l (solA w d l i) (allC w d N) (N:Int) (i:Nat) w d) (solA w d l N):=by
  intro m
  induction m with
  | zero =>
    intro i hi
    refine Ev.step (fun k=>rfl) (Ev.no (by omega) (Ev.id ?_))
    rw [show i=N by omega]
  | succ m ih =>
    intro i hi
    have hx:=solA_len w d l i
    have hcl:(allC w d N).length=N:=by simp [allC]
    refine Ev.step (fun k=>rfl) (Ev.yes (by omega) (Ev.yes (by omega) (Ev.yes (by omega) ?_)))
    have hrd:rdOf ByteArray.empty (allC w d N) (i:Int)=codeB w d (i:Nat):=by
      rw [rdOf_at (by rw [hcl];omega)];simp [allC]
    rw [hrd]
    refine spec_pzAll.lev1 hl l hln h (codeB_code hl) N i (solA w d l i) _ (allC w d N) ?_ l.length 0 true (by omega) (by simp)
    rw [show wrap64 ((i:Int) + 1)=((i + 1:Nat):Int) from w64 (by omega) (by omega)]
    have hh:=ih (i + 1) (by omega)
    rw [solA] at hh
    cases hf:fitA w d l (codeB w d (i:Nat)) with
    | true =>
      rw [hf,if_pos rfl] at hh
      exact Ev.yes rfl (Ev.yes (by omega) hh)
    | false =>
      rw [hf,if_neg (by simp),List.append_nil] at hh
      exact Ev.no (by simp) hh
theorem spec_pzAll.ev {w d:Int} (hl:lockB w d=true) (l:List S48) (hln:l.length≤6) (h : ∀ c∈l,clueB w d c.f0 c.f1 c.f2=true):Ev (fun k=>spec_pzAll.f k w d l) (solA w d l (d ^ w.toNat).toNat):=by
  have hcb:=count_bound hl
  unfold spec_pzAll.f
  refine Ev.bind (spec_hiAll.ev hl) ?_
  have:=spec_pzAll.lev hl l hln h (d ^ w.toNat).toNat (by omega) (d ^ w.toNat).toNat 0 (by omega)
  rw [show ((allC w d (d ^ w.toNat).toNat).length:Int)=(((d ^ w.toNat).toNat:Nat):Int) by simp [allC]]
  exact this
theorem puzzleB_parts {w d:Int} {l:List S48} (h:puzzleB w d l=true):lockB w d=true∧l.length≤6∧∀ c∈l,clueB w d c.f0 c.f1 c.f2=true:=by
  unfold puzzleB at h
  rw [Bool.and_eq_true,Bool.and_eq_true] at h
  exact ⟨smallB_lock h.1.1,of_decide_eq_true h.1.2,fun c hc=>List.all_eq_true.mp h.2 c hc⟩
theorem impl_Solutions.ev (w d:Int) (l:List S48):Ev (fun k=>impl_Solutions.f k w d l) (if puzzleB w d l=true then (solA w d l (d ^ w.toNat).toNat,true) else ([],false)):=by
  unfold impl_Solutions.f
  refine Ev.bindc (show impl_IsPuzzle.f w d l=some (puzzleB w d l) from rfl) ?_
  cases h:puzzleB w d l with
  | true =>
    obtain ⟨h1,h2,h3⟩:=puzzleB_parts h
    rw [if_pos rfl]
    exact Ev.yes rfl (Ev.bind (impl_Lock_solutions.ev h1 l h3) (Ev.now _))
  | false =>
    rw [if_neg (by simp)]
    exact Ev.no (by simp) (Ev.now _)
/-! ### spec_whCode: function 117 -/
def spec_whCode.l0:Nat→ByteArray→Int→Int→Int→Option (Bool)
  | 0,_,_,_,_=>none
  | k + 1,x1,x5,Y,J=>if x5 < (x1.size:Int) then (if 0≤x5 then ((spec_l1In.f (wrap64 ((wrap64 (bt x1 x5)) - 48)) 0 (wrap64 (J - 1))).bind fun Z=>(if Z=true then (spec_whCode.l0 k x1 (wrap64 (x5 + 1)) Y J) else (some false))) else (none)) else (some true)
def spec_whCode.f (k:Nat) (J:Int) (Y:Int) (a1:ByteArray):Option (Bool):=if (a1.size:Int)=J then (spec_whCode.l0 k a1 0 J Y) else (some false)
set_option maxHeartbeats 8000000 in
set_option maxRecDepth 100000 in
theorem spec_whCode.calls (k:Nat) (a6:Int) (Y:Int) (a1:ByteArray) (r:Bool) (w:World) (h:spec_whCode.f k a6 Y a1=some r) :
    Calls Tryz.prog 117 #[.agg #[.int .i64 a6, .int .i64 Y], .string a1] w fun e w'=>e = .returned (.bool r)∧Below w.heap.size w w':=by
  have aE:=Tryz.underlying25;have HB:=amk (Below.refl w.heap.size w);unfold spec_whCode.f at h;have H:=h;clear h
  by_cases c3:(a1.size:Int)=a6
  · rw [if_pos c3] at H;have ak:((a1.size:Int) == a6)=true:=beq_iff_eq.mpr c3;have al:((a1.size:Int) != a6)=false:=bne_eq_false_iff_eq.mpr c3;clear c3;have H':=amk H;clear H;go_enter Tryz.func117,Tryz.ntmps117;go_wp2_with (first | ((with_reducible refine gate_dst (N:=2) rfl ?_);refine boxE_ HB 2 #[.int .i64 a6, .int .i64 Y] 25 ?_;clear HB;intro a7 w4 HB J a8 aa hb;clear hb;obtain ⟨ab,ac,ae,af⟩:=cells2 J.out))
    repeat (go_quiet (first | ((with_reducible refine gate_dst (N:=2) rfl ?_);refine boxE_ HB 2 #[.int .i64 a6, .int .i64 Y] 25 ?_;clear HB;intro a7 w4 HB J a8 aa hb;clear hb;obtain ⟨ab,ac,ae,af⟩:=cells2 J.out));try go_wp2_with (first | ((with_reducible refine gate_dst (N:=2) rfl ?_);refine boxE_ HB 2 #[.int .i64 a6, .int .i64 Y] 25 ?_;clear HB;intro a7 w4 HB J a8 aa hb;clear hb;obtain ⟨ab,ac,ae,af⟩:=cells2 J.out)))
    go_loopg [5] k (fun kq v5 w'=> ∃ (Z:Int),v5 = .int .i64 Z∧Aside0 (spec_whCode.l0 kq a1 Z a6 Y=some r)∧Aside0 (kq≤k)∧Aside0 (w'.heap[a7]?=some (.cells #[.int .i64 a6, .int .i64 Y] 25 (0,0)))∧Aside0 (Below w.heap.size w w'))
    case atStart=>exact ⟨(0),rS_,H',⟨Nat.le_refl _⟩,⟨kB J⟩,⟨bB⟩⟩
    case round =>
      clear H';(try clear c1);(try clear p2);(try clear c3);(try clear ak);(try clear al);(try clear ab);(try clear ac);(try clear ae);(try clear af);obtain ⟨Z,rfl,HA,am,J,HB⟩:=hrel
      cases gk with
      | zero=>exact absurd HA.out (by simp [spec_whCode.l0])
      | succ k1 =>
        have H:=HA.out;clear HA;simp only [spec_whCode.l0] at H;replace H:=iteE H;obtain ⟨an,H⟩ | ⟨an,H⟩:=H
        · replace H:=iteN H;obtain ⟨aG,H⟩:=H;replace H:=bE H;obtain ⟨aH,A9,H⟩:=H;replace H:=iteB H;obtain ⟨rfl,H⟩ | ⟨rfl,H⟩:=H
          · have H':=amk H;clear H;have p8:0≤(Z:Int):=dA_;have q8:Z < (a1.size:Int):=dA_;have aD:=bt_at a1 Z;replace p8:=eq_true p8;replace q8:=eq_true q8;obtain ⟨ap,ar,au,av⟩:=cells2 J.out;go_wp2_with (first | (go_at_call 94;(with_reducible refine (spec_l1In.calls (wrap64 ((wrap64 (bt a1 Z)) - 48)) 0 (wrap64 (Y - 1)) true _ A9.out).mono ?_);rintro e w' ⟨rfl,⟨nd,rfl⟩⟩;(try exact dN_)))
            repeat (go_quiet (first | (go_at_call 94;(with_reducible refine (spec_l1In.calls (wrap64 ((wrap64 (bt a1 Z)) - 48)) 0 (wrap64 (Y - 1)) true _ A9.out).mono ?_);rintro e w' ⟨rfl,⟨nd,rfl⟩⟩;(try exact dN_)));try go_wp2_with (first | (go_at_call 94;(with_reducible refine (spec_l1In.calls (wrap64 ((wrap64 (bt a1 Z)) - 48)) 0 (wrap64 (Y - 1)) true _ A9.out).mono ?_);rintro e w' ⟨rfl,⟨nd,rfl⟩⟩;(try exact dN_))))
            go_roundg k1
            case measure=>have:=am.out;omega
            case rel=>exact ⟨(wrap64 (Z + 1)),rS_,H',⟨by have:=am.out;omega⟩,⟨kB J⟩,⟨bB⟩⟩
          · obtain rfl:=Option.some.inj H;have p8:0≤(Z:Int):=dA_;have q8:Z < (a1.size:Int):=dA_;have aD:=bt_at a1 Z;replace p8:=eq_true p8;replace q8:=eq_true q8;obtain ⟨ax,ay,az,aA⟩:=cells2 J.out;go_wp2_with (first | (go_at_call 94;(with_reducible refine (spec_l1In.calls (wrap64 ((wrap64 (bt a1 Z)) - 48)) 0 (wrap64 (Y - 1)) false _ A9.out).mono ?_);rintro e w' ⟨rfl,⟨nd,rfl⟩⟩;(try exact dN_)))
            repeat (go_quiet (first | (go_at_call 94;(with_reducible refine (spec_l1In.calls (wrap64 ((wrap64 (bt a1 Z)) - 48)) 0 (wrap64 (Y - 1)) false _ A9.out).mono ?_);rintro e w' ⟨rfl,⟨nd,rfl⟩⟩;(try exact dN_)));try go_wp2_with (first | (go_at_call 94;(with_reducible refine (spec_l1In.calls (wrap64 ((wrap64 (bt a1 Z)) - 48)) 0 (wrap64 (Y - 1)) false _ A9.out).mono ?_);rintro e w' ⟨rfl,⟨nd,rfl⟩⟩;(try exact dN_))))
            go_ret;exact ⟨rF_,bB⟩
        · obtain rfl:=Option.some.inj H;go_wp2
          repeat (go_quiet (fail);try go_wp2)
          go_ret;exact ⟨rF_,bB⟩
  · rw [if_neg c3] at H;have ak:((a1.size:Int) == a6)=false:=beq_eq_false_iff_ne.mpr c3;have al:((a1.size:Int) != a6)=true:=bne_iff_ne.mpr c3;obtain rfl:=Option.some.inj H;go_enter Tryz.func117,Tryz.ntmps117;go_wp2_with (first | ((with_reducible refine gate_dst (N:=2) rfl ?_);refine boxE_ HB 2 #[.int .i64 a6, .int .i64 Y] 25 ?_;clear HB;intro a7 aC HB J a8 aa hb;clear hb;obtain ⟨ag,ah,ai,aj⟩:=cells2 J.out))
    repeat (go_quiet (first | ((with_reducible refine gate_dst (N:=2) rfl ?_);refine boxE_ HB 2 #[.int .i64 a6, .int .i64 Y] 25 ?_;clear HB;intro a7 aC HB J a8 aa hb;clear hb;obtain ⟨ag,ah,ai,aj⟩:=cells2 J.out));try go_wp2_with (first | ((with_reducible refine gate_dst (N:=2) rfl ?_);refine boxE_ HB 2 #[.int .i64 a6, .int .i64 Y] 25 ?_;clear HB;intro a7 aC HB J a8 aa hb;clear hb;obtain ⟨ag,ah,ai,aj⟩:=cells2 J.out)))
    go_ret;exact ⟨rF_,bB⟩
/-! spec's test of a code. -/
theorem spec_whCode.lev {w d:Int} (hl:lockB w d=true) (s:ByteArray) (h6:s.size≤6) : ∀ (m i:Nat),i + m=s.size→Ev (fun k=>spec_whCode.l0 k s (i:Nat) w d) (restT d s m i):=by
  obtain ⟨w1,w2,d1,d2⟩:=lockB_iff.mp hl
  intro m
  induction m with
  | zero=>intro i hi;exact Ev.step (fun k=>rfl) (Ev.no (by omega) (Ev.now _))
  | succ m ih =>
    intro i hi
    have hb:=bt_range s (i:Nat)
    refine Ev.step (fun k=>rfl) (Ev.yes (by omega) (Ev.yes (by omega) ?_))
    rw [w64 (x:=bt s (i:Nat)) (by omega) (by omega),w64 (x:=bt s (i:Nat) - 48) (by omega) (by omega),w64 (x:=d - 1) (by omega) (by omega)]
    refine Ev.bindc (spec_l1In.is _ _ _) ?_
    rw [restT,show decide (0≤bt s (i:Nat) - 48∧bt s (i:Nat) - 48≤d - 1)=decide (48≤bt s (i:Nat)∧bt s (i:Nat) < 48 + d) from decide_eq_decide.mpr (by omega),w64 (x:=(i:Int) + 1) (by omega) (by omega)]
    cases decide (48≤bt s (i:Nat)∧bt s (i:Nat) < 48 + d) with
    | true=>exact Ev.yes rfl (ih (i + 1) (by omega))
    | false=>exact Ev.no (by simp) (Ev.now _)
theorem spec_whCode.ev {w d:Int} (hl:lockB w d=true) (s:ByteArray):Ev (fun k=>spec_whCode.f k w d s) (codeT w d s):=by
  obtain ⟨w1,w2,d1,d2⟩:=lockB_iff.mp hl
  unfold spec_whCode.f
  by_cases e:(s.size:Int)=w
  · rw [codeT_rest (by omega) e]
    exact Ev.yes e (spec_whCode.lev hl s (by omega) s.size 0 (by omega))
  · rw [codeT_no (by omega) e]
    exact Ev.no e (Ev.now _)
/-! ### spec_pzNext: function 118 -/
def spec_pzNext.f (a0:Int):Option (Int):=some (Int.tmod (wrap64 ((wrap64 (173 * a0)) + 2633)) 10007)
set_option maxHeartbeats 8000000 in
set_option maxRecDepth 100000 in
theorem spec_pzNext.calls (a0:Int) (r:Int) (w:World) (h:spec_pzNext.f a0=some r) :
    Calls Tryz.prog 118 #[.int .i64 a0] w fun e w'=>e = .returned (.int .i64 r)∧Drawn0 w w':=by
  unfold spec_pzNext.f at h;have H:=h;clear h;obtain rfl:=Option.some.inj H;go_enter Tryz.func118,Tryz.ntmps118;go_wp2;go_ret;exact ⟨rS_,dR_⟩
/-! ### spec_pzOf: function 119 -/
def spec_pzOf.f (k:Nat) (J:Int) (Y:Int) (a1:Int) (a2:Int) (a3:ByteArray):Option (Int×Int×Int):=if a1=1 then ((spec_pzValue.f k J Y 1 0 a3).bind fun Z=>(some (1,Z,0))) else ((spec_pzValue.f k J Y a1 a2 a3).bind fun a6=>(some (a1,a2,a6)))
set_option maxHeartbeats 8000000 in
set_option maxRecDepth 100000 in
theorem spec_pzOf.calls (k:Nat) (a7:Int) (a8:Int) (a1:Int) (a2:Int) (a3:ByteArray) (r1:Int) (r2:Int) (r3:Int) (w:World) (h:spec_pzOf.f k a7 a8 a1 a2 a3=some (r1,r2,r3)) :
    Calls Tryz.prog 119 #[.agg #[.int .i64 a7, .int .i64 a8], .int .i64 a1, .int .i64 a2, .string a3] w fun e w'=>e = .returned (.agg #[.int .i64 r1, .int .i64 r2, .int .i64 r3])∧Below w.heap.size w w':=by
  have aU:=Tryz.underlying25;have aV:=Tryz.underlying48;have HB:=amk (Below.refl w.heap.size w);unfold spec_pzOf.f at h;have H:=h;clear h
  by_cases c5:a1=1
  · rw [if_pos c5] at H;have aj:(a1 == 1)=true:=beq_iff_eq.mpr c5;have ak:(a1 != 1)=false:=bne_eq_false_iff_eq.mpr c5;clear c5;replace H:=bE H;obtain ⟨ab,A6,H⟩:=H;simp only [Option.some.injEq,Prod.mk.injEq] at H;obtain ⟨rfl,rfl,rfl⟩:=H;go_enter Tryz.func119,Tryz.ntmps119;go_wp2_with (first | ((with_reducible refine gate_dst (N:=4) rfl ?_);refine boxE_ HB 4 #[.int .i64 a7, .int .i64 a8] 25 ?_;clear HB;intro ae w7 HB J af ag hb;clear hb) | ((with_reducible refine gate_dst (N:=8) rfl ?_);refine boxG_ 8 #[.int .i64 0, .int .i64 0, .int .i64 0] 48 ?_;intro aa w8 hg Y hb;have ah:=sZ HB hg;have ai:=sZ HB hg;replace HB:=hB2 HB hb;have Z:=neL J hg;have a6:=neR J hg;replace J:=kb2 J hb;clear hb hg;have aW:=Z.out;have aX:=a6.out;obtain ⟨al,am,an,ap⟩:=cells2 J.out) | ((with_reducible refine gate_callee (f:=97) rfl ?_);refine goesL_ (some 13) rfl rfl Tryz.func97 (by kernel_rfl) rfl #[.agg #[.int .i64 a7, .int .i64 a8], .int .i64 1, .int .i64 0, .string a3] rfl gL_ ?_;(with_reducible refine (spec_pzValue.calls k a7 a8 1 0 a3 ab _ A6.out).mono ?_);rintro e aY ⟨rfl,hb⟩;refine ⟨_,rfl,?_⟩;replace J:=kb2 J hb;replace Y:=kb2 Y hb;replace HB:=hB2 HB hb;(try clear hb);obtain ⟨ar,au,av,ax,ay,az⟩:=cells3 Y.out));refine bodyPost_ret (results_cell_row rfl _ _ aa 48 #[.int .i64 1, .int .i64 ab, .int .i64 0] (0,0) _ rfl (kP Y) Tryz.underlying48 rfl (by kernel_rfl)) rfl ?_;exact ⟨rF_,bB⟩
  · rw [if_neg c5] at H;have aj:(a1 == 1)=false:=beq_eq_false_iff_ne.mpr c5;have ak:(a1 != 1)=true:=bne_iff_ne.mpr c5;replace H:=bE H;obtain ⟨ac,aN,H⟩:=H;simp only [Option.some.injEq,Prod.mk.injEq] at H;obtain ⟨rfl,rfl,rfl⟩:=H;go_enter Tryz.func119,Tryz.ntmps119;go_wp2_with (first | ((with_reducible refine gate_dst (N:=4) rfl ?_);refine boxE_ HB 4 #[.int .i64 a7, .int .i64 a8] 25 ?_;clear HB;intro ae aZ HB J af ag hb;clear hb) | ((with_reducible refine gate_dst (N:=8) rfl ?_);refine boxG_ 8 #[.int .i64 0, .int .i64 0, .int .i64 0] 48 ?_;intro aa b3 hg Y hb;have ah:=sZ HB hg;have ai:=sZ HB hg;replace HB:=hB2 HB hb;have Z:=neL J hg;have a6:=neR J hg;replace J:=kb2 J hb;clear hb hg;have aQ:=Z.out;have aT:=a6.out;obtain ⟨aA,aC,aD,aE⟩:=cells2 J.out) | ((with_reducible refine gate_callee (f:=97) rfl ?_);refine goesL_ (some 21) rfl rfl Tryz.func97 (by kernel_rfl) rfl #[.agg #[.int .i64 a7, .int .i64 a8], .int .i64 a1, .int .i64 a2, .string a3] rfl gL_ ?_;(with_reducible refine (spec_pzValue.calls k a7 a8 a1 a2 a3 ac _ aN.out).mono ?_);rintro e b4 ⟨rfl,hb⟩;refine ⟨_,rfl,?_⟩;replace J:=kb2 J hb;replace Y:=kb2 Y hb;replace HB:=hB2 HB hb;(try clear hb);obtain ⟨aG,aH,aI,aJ,aK,aM⟩:=cells3 Y.out));refine bodyPost_ret (results_cell_row rfl _ _ aa 48 #[.int .i64 a1, .int .i64 a2, .int .i64 ac] (0,0) _ rfl (kP Y) Tryz.underlying48 rfl (by kernel_rfl)) rfl ?_;exact ⟨rF_,bB⟩
/-! ### spec_MakePuzzle: function 86 -/
mutual
def spec_MakePuzzle.j0:Nat→ByteArray→Int→Int→Bool→Int→Int→Option (Int×Int×(List (S48))×Bool)
  | 0,_,_,_,_,_,_=>none
  | k + 1,x1,x2,x3,ag,J,Y=>if ag=true then (some (0,0,([]:List (S48)),false)) else (spec_MakePuzzle.l0 k x1 x2 x3 J Y J Y ([]:List (S48)))
def spec_MakePuzzle.l0:Nat→ByteArray→Int→Int→Int→Int→Int→Int→List (S48)→Option (Int×Int×(List (S48))×Bool)
  | 0,_,_,_,_,_,_,_,_=>none
  | k + 1,x1,x2,ah,J,Y,a1,a6,Z=>if x2 > 0 then ((spec_pzNext.f ah).bind fun a7=>(if (Int.tmod a7 5)=1 then ((spec_pzOf.f k J Y (Int.tmod a7 5) 0 x1).bind fun aa=>(if Z.length < 5864062014805 then (spec_MakePuzzle.l0 k x1 (wrap64 (x2 - 1)) a7 J Y a1 a6 (Z ++ [(⟨aa.1,aa.2.1,aa.2.2⟩:S48)])) else (none))) else ((spec_pzNext.f a7).bind fun a8=>(if (Int.tmod a7 5)=0 then (if J=0 then (none) else ((spec_pzOf.f k J Y (Int.tmod a7 5) (Int.tmod a8 J) x1).bind fun ab=>(if Z.length < 5864062014805 then (spec_MakePuzzle.l0 k x1 (wrap64 (x2 - 1)) a8 J Y a1 a6 (Z ++ [(⟨ab.1,ab.2.1,ab.2.2⟩:S48)])) else (none)))) else (if (Int.tmod a7 5)=4 then ((spec_pzOf.f k J Y (Int.tmod a7 5) (wrap64 ((Int.tmod a8 8) + 2)) x1).bind fun ac=>(if Z.length < 5864062014805 then (spec_MakePuzzle.l0 k x1 (wrap64 (x2 - 1)) a8 J Y a1 a6 (Z ++ [(⟨ac.1,ac.2.1,ac.2.2⟩:S48)])) else (none))) else ((spec_whCount.f k J Y).bind fun af=>(if af=0 then (none) else ((spec_pzOf.f k J Y (Int.tmod a7 5) (Int.tmod a8 af) x1).bind fun ae=>(if Z.length < 5864062014805 then (spec_MakePuzzle.l0 k x1 (wrap64 (x2 - 1)) a8 J Y a1 a6 (Z ++ [(⟨ae.1,ae.2.1,ae.2.2⟩:S48)])) else (none)))))))))) else (some (a1,a6,Z,true))
end
def spec_MakePuzzle.f (k:Nat) (J:Int) (Y:Int) (a1:ByteArray) (a2:Int) (a3:Int):Option (Int×Int×(List (S48))×Bool):=(spec_pzLock.f k J Y).bind fun Z=>(if Z=true then ((spec_whCode.f k J Y a1).bind fun a6=>(if a6=true then ((spec_l1In.f a2 0 6).bind fun a7=>(if a7=true then ((spec_l1In.f a3 0 9999).bind fun a8=>(spec_MakePuzzle.j0 k a1 a2 a3 (!a8) J Y)) else (spec_MakePuzzle.j0 k a1 a2 a3 true J Y))) else (spec_MakePuzzle.j0 k a1 a2 a3 true J Y))) else (spec_MakePuzzle.j0 k a1 a2 a3 true J Y))
def spec_MakePuzzle.T17:Bool×List (List Nat×List Nat):=(true,[([],[]),([0],[0]),([],[]),([],[]),([],[]),([],[]),([2,3,4,5],[2,3,4,5]),([6],[6]),([1,7,6],[1,7]),([0,1,2,3,4,5,6,7,8],[]),([9,8,8,0,1,2,3,4,5,6,7,8],[8,9])])
def spec_MakePuzzle.B17:List Nat:=[0,1,0,0,0,0,60,124,255,511,1023]
theorem spec_MakePuzzle.tab17:rtab .any (opsOf Tryz.f86 17)=spec_MakePuzzle.T17:=by kernel_rfl
theorem spec_MakePuzzle.bits17:waitsOk spec_MakePuzzle.T17.2 spec_MakePuzzle.B17=true:=by kernel_rfl
set_option maxHeartbeats 8000000 in
set_option maxRecDepth 100000 in
theorem spec_MakePuzzle.calls (k:Nat) (a7:Int) (aa:Int) (a1:ByteArray) (a2:Int) (a3:Int) (r1:Int) (r2:Int) (r3:List (S48)) (r4:Bool) (w:World) (h:spec_MakePuzzle.f k a7 aa a1 a2 a3=some (r1,r2,r3,r4)) :
    Calls Tryz.prog 86 #[.agg #[.int .i64 a7, .int .i64 aa], .string a1, .int .i64 a2, .int .i64 a3] w fun e w'=> ∃ v2_:Value,e = .returned (.tuple #[.agg #[.int .i64 r1, .int .i64 r2,v2_], .bool r4])∧Kd.R k48 48 w' w.heap.size (fun _=>True) v2_ r3∧Below w.heap.size w w':=by
  have eE:=Tryz.underlying25;have eF:=Tryz.underlying28;have HB:=amk (Below.refl w.heap.size w);unfold spec_MakePuzzle.f at h;have H:=h;clear h;have cr:=amk H;clear H;go_enter Tryz.func86,Tryz.ntmps86
  go_upto_region 1 with (first | ((with_reducible refine gate_dst (N:=4) rfl ?_);refine boxE_ HB 4 #[.int .i64 a7, .int .i64 aa] 25 ?_;clear HB;intro ag w6 HB J dD dE hb;clear hb) | ((with_reducible refine gate_dst (N:=8) rfl ?_);refine boxG_ 8 #[.int .i64 0, .int .i64 0, .slice none 0 0] 28 ?_;intro aj w7 hg Z hb;have dF:=sZ HB hg;have dG:=sZ HB hg;replace HB:=hB2 HB hb;have ae:=neL J hg;have af:=neR J hg;replace J:=kb2 J hb;clear hb hg))
  (try simp only [Act.put,List.setIfInBounds_toArray,List.set_cons_zero,List.set_cons_succ])
  go_cut [32] (fun v32 wc=> ∃ (kq:Nat) (bl:Bool),v32 = .bool bl∧Aside0 (spec_MakePuzzle.j0 kq a1 a2 a3 bl a7 aa=some (r1,r2,r3,r4))∧Aside0 (kq≤k)∧Aside0 (wc.heap[ag]?=some (.cells #[.int .i64 a7, .int .i64 aa] 25 (0,0)))∧Aside0 (wc.heap[aj]?=some (.cells #[.int .i64 0, .int .i64 0,(.slice none 0 0)] 28 (0,0)))∧Aside0 (Below w.heap.size w wc))
  case first =>
    have H:=cr.out;clear cr;replace H:=bE H;obtain ⟨eG,A8,H⟩:=H;replace H:=iteB H;obtain ⟨rfl,H⟩ | ⟨rfl,H⟩:=H
    · replace H:=bE H;obtain ⟨eH,cu,H⟩:=H;replace H:=iteB H;obtain ⟨rfl,H⟩ | ⟨rfl,H⟩:=H
      · replace H:=bE H;obtain ⟨eI,cO,H⟩:=H;replace H:=iteB H;obtain ⟨rfl,H⟩ | ⟨rfl,H⟩:=H
        · replace H:=bE H;obtain ⟨c7,dH,H⟩:=H;have H':=amk H;clear H;have dI:=ae.out;have dJ:=af.out;obtain ⟨au,av,ax,ay⟩:=cells2 J.out;go_wp2_with (first | ((with_reducible refine gate_callee (f:=65) rfl ?_);refine goesL_ (some 15) rfl rfl Tryz.func65 (by kernel_rfl) rfl #[.agg #[.int .i64 a7, .int .i64 aa]] rfl gL_ ?_;(with_reducible refine (spec_pzLock.calls k a7 aa true _ A8.out).mono ?_);rintro e eR ⟨rfl,hb⟩;refine ⟨_,rfl,?_⟩;replace J:=kb2 J hb;replace Z:=kb2 Z hb;replace HB:=hB2 HB hb;(try clear hb);obtain ⟨az,aA,aC,aD⟩:=cells2 J.out) | (go_at_call 117;(with_reducible refine (spec_whCode.calls k a7 aa a1 true _ cu.out).mono ?_);rintro e eS ⟨rfl,hb⟩;replace J:=kb2 J hb;replace Z:=kb2 Z hb;replace HB:=hB2 HB hb;(try clear hb)) | (go_at_call 94;(with_reducible refine (spec_l1In.calls a2 0 6 true _ cO.out).mono ?_);rintro e w' ⟨rfl,⟨nd,rfl⟩⟩) | (go_at_call 94;(with_reducible refine (spec_l1In.calls a3 0 9999 c7 _ dH.out).mono ?_);rintro e w' ⟨rfl,⟨nd,rfl⟩⟩));go_meet
          case rel=>exact ⟨_,(!c7),rS_,H',⟨by first | omega | exact Nat.le_refl _⟩,⟨kB J⟩,⟨kB Z⟩,⟨bB⟩⟩
        · have H':=amk H;clear H;have dK:=ae.out;have dL:=af.out;obtain ⟨aE,aG,aH,aI⟩:=cells2 J.out;go_wp2_with (first | ((with_reducible refine gate_callee (f:=65) rfl ?_);refine goesL_ (some 15) rfl rfl Tryz.func65 (by kernel_rfl) rfl #[.agg #[.int .i64 a7, .int .i64 aa]] rfl gL_ ?_;(with_reducible refine (spec_pzLock.calls k a7 aa true _ A8.out).mono ?_);rintro e eT ⟨rfl,hb⟩;refine ⟨_,rfl,?_⟩;replace J:=kb2 J hb;replace Z:=kb2 Z hb;replace HB:=hB2 HB hb;(try clear hb);obtain ⟨aJ,aK,aM,aN⟩:=cells2 J.out) | (go_at_call 117;(with_reducible refine (spec_whCode.calls k a7 aa a1 true _ cu.out).mono ?_);rintro e eU ⟨rfl,hb⟩;replace J:=kb2 J hb;replace Z:=kb2 Z hb;replace HB:=hB2 HB hb;(try clear hb)) | (go_at_call 94;(with_reducible refine (spec_l1In.calls a2 0 6 false _ cO.out).mono ?_);rintro e w' ⟨rfl,⟨nd,rfl⟩⟩));go_meet
          case rel=>exact ⟨_,(true),rS_,H',⟨by first | omega | exact Nat.le_refl _⟩,⟨kB J⟩,⟨kB Z⟩,⟨bB⟩⟩
      · have H':=amk H;clear H;have dM:=ae.out;have dN:=af.out;obtain ⟨aQ,aT,aU,aV⟩:=cells2 J.out;go_wp2_with (first | ((with_reducible refine gate_callee (f:=65) rfl ?_);refine goesL_ (some 15) rfl rfl Tryz.func65 (by kernel_rfl) rfl #[.agg #[.int .i64 a7, .int .i64 aa]] rfl gL_ ?_;(with_reducible refine (spec_pzLock.calls k a7 aa true _ A8.out).mono ?_);rintro e eV ⟨rfl,hb⟩;refine ⟨_,rfl,?_⟩;replace J:=kb2 J hb;replace Z:=kb2 Z hb;replace HB:=hB2 HB hb;(try clear hb);obtain ⟨aW,aX,aY,aZ⟩:=cells2 J.out) | (go_at_call 117;(with_reducible refine (spec_whCode.calls k a7 aa a1 false _ cu.out).mono ?_);rintro e eW ⟨rfl,hb⟩;replace J:=kb2 J hb;replace Z:=kb2 Z hb;replace HB:=hB2 HB hb;(try clear hb)));go_meet
        case rel=>exact ⟨_,(true),rS_,H',⟨by first | omega | exact Nat.le_refl _⟩,⟨kB J⟩,⟨kB Z⟩,⟨bB⟩⟩
    · have H':=amk H;clear H;have dO:=ae.out;have dP:=af.out;obtain ⟨b3,b4,b5,b6⟩:=cells2 J.out;go_wp2_with (first | ((with_reducible refine gate_callee (f:=65) rfl ?_);refine goesL_ (some 15) rfl rfl Tryz.func65 (by kernel_rfl) rfl #[.agg #[.int .i64 a7, .int .i64 aa]] rfl gL_ ?_;(with_reducible refine (spec_pzLock.calls k a7 aa false _ A8.out).mono ?_);rintro e eX ⟨rfl,hb⟩;refine ⟨_,rfl,?_⟩;replace J:=kb2 J hb;replace Z:=kb2 Z hb;replace HB:=hB2 HB hb;(try clear hb)));go_meet
      case rel=>exact ⟨_,(true),rS_,H',⟨by first | omega | exact Nat.le_refl _⟩,⟨kB J⟩,⟨kB Z⟩,⟨bB⟩⟩
  case rest =>
    clear cr;(try clear c1);(try clear c2);(try clear p2);(try clear c3);(try clear c6);(try clear c8);(try clear c9);(try clear c11);(try clear c13);(try clear c15);(try clear c20);(try clear c25);(try clear c30);(try clear au);(try clear av);(try clear az);(try clear aA);(try clear aE);(try clear aG);(try clear aJ);(try clear aK);(try clear aQ);(try clear aT);(try clear aW);(try clear aX);(try clear b3);(try clear b4);(try clear ax);(try clear ay);(try clear aC);(try clear aD);(try clear aH);(try clear aI);(try clear aM);(try clear aN);(try clear aU);(try clear aV);(try clear aY);(try clear aZ);(try clear b5);(try clear b6);obtain ⟨kq,bl,rfl,HA,b7,J,Z,HB⟩:=hcut
    cases kq with
    | zero=>exact absurd HA.out (by simp [spec_MakePuzzle.j0])
    | succ cP =>
      have H:=HA.out;clear HA;simp only [spec_MakePuzzle.j0] at H;replace H:=iteB H;obtain ⟨rfl,H⟩ | ⟨rfl,H⟩:=H
      · simp only [Option.some.injEq,Prod.mk.injEq] at H;obtain ⟨rfl,rfl,rfl,rfl⟩:=H;have dQ:=af.out;have dR:=ae.out;obtain ⟨bm,bn,bo,bp,bq,br⟩:=cells3 Z.out;go_wp2;refine bodyPost_ret (results_ct rfl _ _ aj 28 #[.int .i64 0, .int .i64 0, .slice none 0 0] (0,0) _ rfl (kP Z) Tryz.underlying28 rfl (by kernel_rfl)) rfl ?_;exact ⟨_,rF_,xN_,bB⟩
      · have H':=amk H;clear H;have dS:=ae.out;have dT:=af.out;obtain ⟨bu,bv,bw,bz⟩:=cells2 J.out;go_wp2_with (first | ((with_reducible refine gate_dst (N:=10) rfl ?_);refine boxG_ 10 #[.int .i64 0, .int .i64 0, .slice none 0 0] 28 ?_;intro ab eY hg Y hb;have dU:=sZ HB hg;have dV:=sZ HB hg;replace HB:=hB2 HB hb;have ah:=neL J hg;have ai:=neR J hg;replace J:=kb2 J hb;have ak:=neL Z hg;have al:=neR Z hg;replace Z:=kb2 Z hb;clear hb hg;have dW:=ai.out;have dX:=ah.out;have dY:=al.out;have dZ:=ak.out;obtain ⟨bC,bD,bF,bH,bJ,bL⟩:=cells3 Y.out))
        go_loopg [2,11] cP (fun kq v2 e1 w'=> ∃ (ap:Int) (am:Int) (a6:List (S48)) (a8:Value),v2 = .int .i64 ap∧e1 = .int .i64 am∧Aside0 (spec_MakePuzzle.l0 kq a1 ap am a7 aa a7 aa a6=some (r1,r2,r3,r4))∧Aside0 (kq≤cP)∧Aside0 (Kd.R k48 48 w' w.heap.size (fun _=>True) a8 a6)∧Aside0 (w'.heap[ag]?=some (.cells #[.int .i64 a7, .int .i64 aa] 25 (0,0)))∧Aside0 (w'.heap[aj]?=some (.cells #[.int .i64 0, .int .i64 0,(.slice none 0 0)] 28 (0,0)))∧Aside0 (w'.heap[ab]?=some (.cells #[.int .i64 a7, .int .i64 aa,a8] 28 (0,0)))∧Aside0 (Below w.heap.size w w'))
        case atStart=>exact ⟨(a2),(a3),(([]:List (S48))),(.slice none 0 0),rS_,rS_,H',⟨Nat.le_refl _⟩,⟨xN_⟩,⟨kB J⟩,⟨kB Z⟩,⟨kP Y⟩,⟨bB⟩⟩
        case round =>
          clear H';(try clear c1);(try clear c2);(try clear p2);(try clear c3);(try clear c4);(try clear c6);(try clear c8);(try clear c9);(try clear c11);(try clear c13);(try clear c15);(try clear c20);(try clear c25);(try clear c30);(try clear c33);(try clear c34);(try clear c36);(try clear c39);(try clear c40);(try clear au);(try clear av);(try clear az);(try clear aA);(try clear aE);(try clear aG);(try clear aJ);(try clear aK);(try clear aQ);(try clear aT);(try clear aW);(try clear aX);(try clear b3);(try clear b4);(try clear bm);(try clear bn);(try clear bo);(try clear bu);(try clear bv);(try clear bC);(try clear bD);(try clear bF);(try clear ax);(try clear ay);(try clear aC);(try clear aD);(try clear aH);(try clear aI);(try clear aM);(try clear aN);(try clear aU);(try clear aV);(try clear aY);(try clear aZ);(try clear b5);(try clear b6);(try clear bp);(try clear bq);(try clear br);(try clear bw);(try clear bz);(try clear bH);(try clear bJ);(try clear bL);(try clear p2);obtain ⟨ap,am,a6,a8,rfl,rfl,HA,b8,HO_315002,J,Z,Y,HB⟩:=hrel
          cases gk with
          | zero=>exact absurd HA.out (by simp [spec_MakePuzzle.l0])
          | succ k2 =>
            have H:=HA.out;clear HA;simp only [spec_MakePuzzle.l0] at H
            by_cases c42:ap > 0
            · rw [if_pos c42] at H;have cv:decide (0 < ap)=true:=decide_eq_true c42;clear c42;replace H:=bE H;obtain ⟨ac,bZ,H⟩:=H
              by_cases c44:(Int.tmod ac 5)=1
              · rw [if_pos c44] at H;have cw:((Int.tmod ac 5) == 1)=true:=beq_iff_eq.mpr c44;have cx:((Int.tmod ac 5) != 1)=false:=bne_eq_false_iff_eq.mpr c44;clear c44;replace H:=bE H;obtain ⟨⟨b9,ba,bb⟩,e2,H⟩:=H;(try dsimp only at H)
                by_cases c46:a6.length < 5864062014805
                · rw [if_pos c46] at H;have cy:=amk c46;clear c46;(try rw [Option.bind_some] at H);generalize bM:((a6 ++ [(⟨b9,ba,bb⟩:S48)]):List (S48))=bN at H;have cz:=amk bM.symm;clear bM;have H':=amk H;clear H;(try go_wp2_with (first | ((with_reducible refine gate_callee (f:=118) rfl ?_);refine goesL_ (some 42) rfl rfl Tryz.func118 (by kernel_rfl) rfl #[.int .i64 am] rfl gL_ ?_;(with_reducible refine (spec_pzNext.calls am ac _ bZ.out).mono ?_);rintro e w' ⟨rfl,⟨nd,rfl⟩⟩;refine ⟨_,rfl,?_⟩;(try (rw [drewN_self wr];generalize hq_:World.drewN wr _=wr;replace HO_315002:Aside0 (Kd.R k48 48 wr w.heap.size (fun _=>True) a8 a6):=⟨by rw [←hq_];exact (oX HO_315002)⟩;replace J:Aside0 (wr.heap[ag]?=some (.cells #[.int .i64 a7, .int .i64 aa] 25 (0,0))):=⟨by rw [←hq_];exact (kB J)⟩;replace Z:Aside0 (wr.heap[aj]?=some (.cells #[.int .i64 0, .int .i64 0, .slice none 0 0] 28 (0,0))):=⟨by rw [←hq_];exact (kB Z)⟩;replace Y:Aside0 (wr.heap[ab]?=some (.cells #[.int .i64 a7, .int .i64 aa,a8] 28 (0,0))):=⟨by rw [←hq_];exact (kB Y)⟩;replace HB:Aside0 (Below w.heap.size w wr):=⟨by rw [←hq_];exact bB⟩;clear hq_)))));replace HO_315002:=amk (Kd.R_drew HO_315002.out);replace J:=amk (blk_drew J.out);replace Z:=amk (blk_drew Z.out);replace Y:=amk (blk_drew Y.out);replace HB:=amk (bd_ HB.out);refine start_ (n:=11) (S:=fun w'=>w'.cell? ⟨ab,0,none⟩=some (.int .i64 a7)∧w'.cell? ⟨ab,1,none⟩=some (.int .i64 aa)∧w'.cell? ⟨ab,2,none⟩=some (a8)∧w'.cell? ⟨ag,0,none⟩=some (.int .i64 a7)∧w'.cell? ⟨ag,1,none⟩=some (.int .i64 aa)) (ds:=[10]) (bA 11 0) (by kernel_rfl) rfl rfl ⟨(blk_cell Y.out 0).trans rfl,(blk_cell Y.out 1).trans rfl,(blk_cell Y.out 2).trans rfl,(blk_cell J.out 0).trans rfl,(blk_cell J.out 1).trans rfl⟩ (fun hHeld=>?_);refine with_tabW spec_MakePuzzle.tab17 spec_MakePuzzle.bits17 (fun HT_ HW_=>?_);generalize wr.drew=eZ at HO_315002 J Z Y HB hHeld ⊢;refine pU_ HT_ 0 (some 65) (bA 11 1) ?_;refine pU_ HT_ 3 (some 68) (bA 11 9) ?_;refine pU_ HT_ 4 (some 69) (bA 11 25) ?_;refine pU_ HT_ 5 (some 70) (bA 11 57) ?_;refine tK_ HT_ HW_ hHeld 1 (some 66) (bA 11 59) ?_;refine tK_ HT_ HW_ hHeld 2 (some 67) (bA 11 63) ?_;refine oN_ HT_ 6 (some 71) (bA 11 127) (fun K hK=>?_);refine goes_ Tryz.func119 (by kernel_rfl) rfl #[.agg #[.int .i64 a7, .int .i64 aa], .int .i64 (Int.tmod ac 5), .int .i64 0, .string a1] (by rfl) rfl rfl gL_ ?_;(with_reducible refine (spec_pzOf.calls k2 a7 aa (Int.tmod ac 5) 0 a1 b9 ba bb _ e2.out).mono ?_);rintro e f3 ⟨rfl,hb⟩;refine ⟨_,rfl,?_⟩;replace HO_315002:=amk (Kd.R_below (oX HO_315002) hb);replace J:=kb2 J hb;replace Z:=kb2 Z hb;replace Y:=kb2 Y hb;replace HB:=hB2 HB hb;(try clear hb);refine hK.out _ _ hC_ (fun hHeld=>?_);clear hK K;refine nN_ (some 71) ?_;refine oN_ HT_ 7 (some 72) (bA 11 255) (fun K hK=>?_);refine value_ (w1:=?_) (v:=?_) (by rfl) rfl ?_ ?_;rotate_left 2
                  · go_simp
                    constructor
                    · rfl
                    · rfl
                  refine hK.out _ _ ⟨(blk_cell (ka_ Y.out _) 0).trans rfl,(blk_cell (ka_ Y.out _) 1).trans rfl,(blk_cell (ka_ Y.out _) 2).trans rfl,(blk_cell (ka_ J.out _) 0).trans rfl,(blk_cell (ka_ J.out _) 1).trans rfl⟩ (fun hHeld=>?_);clear hK K;refine nN_ (some 72) ?_;refine oN_ HT_ 8 (some 73) (bA 11 511) (fun K hK=>?_);refine Kd.R_append_step k48 (w0:=w) w.heap.size (by rfl) (.tmp 66) (.tmp 72) 26 48 (.agg #[(.int .i64 0),(.int .i64 0),(.int .i64 0)]) 24 rfl Tryz.underlying26 info48 rfl (by decide) (by omega) a8 a6 (⟨b9,ba,bb⟩:S48) [.int .i64 b9, .int .i64 ba, .int .i64 bb] (fun _=>True) (fun _=>False) rfl rfl ?aP (fun _ hk=>hk.elim) ?aF ?aO ?aB ?aS ?aL ?_;(case aP=>exact k48_mkM _ _ _ (⟨b9,ba,bb⟩:S48));(case aB=>exact bB);(case aF=>exact (fun _ _=>trivial));(case aO=>exact (oX HO_315002));(case aS=>exact (below_size bB));(case aL=>have:=cy.out;omega);intro eJ e3 ho hb hg hat;rw [←cz.out] at ho;replace J:=bG J hg (Kd.R_ne HO_315002.out J.out (by decide));replace Z:=bG Z hg (Kd.R_ne HO_315002.out Z.out (by decide));replace Y:=bG Y hg (Kd.R_ne HO_315002.out Y.out (by decide));replace HB:=amk (hb);have bO:=amk (ho);clear HO_315002;clear ho hb hg hat;obtain ⟨ca,cb,cd⟩:=Kd.R_slice bO.out;(first | subst cd | (injection cd with f1_ f2_ f3_;have f4_:=f1_.symm;have f5_:=f3_.symm;clear f1_ f2_ f3_;subst f4_;subst f5_));refine hK.out _ _ hC_ (fun hHeld=>?_);clear hK K;refine nN_ (some 73) ?_;refine pU_ HT_ 9 (some 74) (bA 11 1023) ?_;refine last_ (i:=10) (N:=none) (bA 11 2047) rfl rfl (one_of HT_.out (by kernel_rfl)) (by decide) (fun K hK=>?_);have eK:e3.cell? ⟨ab,2,none⟩=some (a8):=(blk_cell Y.out 2).trans rfl;have e4:=blk_frozen Y.out 2;have cQ:=ah.out;have cS:=ak.out;have cT:=ai.out;have cV:=al.out;refine skip_ (w1:=?_) (by rfl) rfl ?_ ?_;rotate_left
                  · go_simp
                    rfl
                  refine hK.out _ _ ?_;clear hK K;refine done_ (done_of HT_.out (by kernel_rfl)) ?_;(try go_wp2);go_roundg k2
                  case measure=>have:=b7.out;have:=b8.out;omega
                  case rel=>exact ⟨(wrap64 (ap - 1)),(ac),(bN),(.slice ca bN.length cb),rS_,rS_,H',⟨by have:=b7.out;have:=b8.out;omega⟩,⟨by (with_reducible repeat (first | apply Kd.R_alloc | apply Kd.R_drewN | apply Kd.R_drew));exact Kd.R_mono (Kd.R_far (p:=⟨ab,2,none⟩) (Kd.R_types bO.out Y.out (by decide)) (fun _ hk=>hk.2) (.slice ca bN.length cb)) (fun _ hk=>trivial)⟩,⟨kB J⟩,⟨kB Z⟩,⟨kP Y⟩,⟨bB⟩⟩
                · rw [if_neg c46] at H;exact absurd H (by simp)
              · rw [if_neg c44] at H;have cw:((Int.tmod ac 5) == 1)=false:=beq_eq_false_iff_ne.mpr c44;have cx:((Int.tmod ac 5) != 1)=true:=bne_iff_ne.mpr c44;replace H:=bE H;obtain ⟨an,cA,H⟩:=H
                by_cases c53:(Int.tmod ac 5)=0
                · rw [if_pos c53] at H;have cC:((Int.tmod ac 5) == 0)=true:=beq_iff_eq.mpr c53;have cE:((Int.tmod ac 5) != 0)=false:=bne_eq_false_iff_eq.mpr c53;clear c53
                  by_cases c54:a7=0
                  · rw [if_pos c54] at H;exact absurd H (by simp)
                  · rw [if_neg c54] at H;have e5:(a7 == 0)=false:=beq_eq_false_iff_ne.mpr c54;have e6:(a7 != 0)=true:=bne_iff_ne.mpr c54;replace H:=bE H;obtain ⟨⟨bc,bd,be⟩,e7,H⟩:=H;(try dsimp only at H)
                    by_cases c56:a6.length < 5864062014805
                    · rw [if_pos c56] at H;have cF:=amk c56;clear c56;(try rw [Option.bind_some] at H);generalize bQ:((a6 ++ [(⟨bc,bd,be⟩:S48)]):List (S48))=bR at H;have cG:=amk bQ.symm;clear bQ;have H':=amk H;clear H;(try go_wp2_with (first | ((with_reducible refine gate_callee (f:=118) rfl ?_);refine goesL_ (some 42) rfl rfl Tryz.func118 (by kernel_rfl) rfl #[.int .i64 am] rfl gL_ ?_;(with_reducible refine (spec_pzNext.calls am ac _ bZ.out).mono ?_);rintro e w' ⟨rfl,⟨nd,rfl⟩⟩;refine ⟨_,rfl,?_⟩;(try (rw [drewN_self wr];generalize hq_:World.drewN wr _=wr;replace HO_315002:Aside0 (Kd.R k48 48 wr w.heap.size (fun _=>True) a8 a6):=⟨by rw [←hq_];exact (oX HO_315002)⟩;replace J:Aside0 (wr.heap[ag]?=some (.cells #[.int .i64 a7, .int .i64 aa] 25 (0,0))):=⟨by rw [←hq_];exact (kB J)⟩;replace Z:Aside0 (wr.heap[aj]?=some (.cells #[.int .i64 0, .int .i64 0, .slice none 0 0] 28 (0,0))):=⟨by rw [←hq_];exact (kB Z)⟩;replace Y:Aside0 (wr.heap[ab]?=some (.cells #[.int .i64 a7, .int .i64 aa,a8] 28 (0,0))):=⟨by rw [←hq_];exact (kB Y)⟩;replace HB:Aside0 (Below w.heap.size w wr):=⟨by rw [←hq_];exact bB⟩;clear hq_))) | ((with_reducible refine gate_callee (f:=118) rfl ?_);refine goesL_ (some 48) rfl rfl Tryz.func118 (by kernel_rfl) rfl #[.int .i64 ac] rfl gL_ ?_;(with_reducible refine (spec_pzNext.calls ac an _ cA.out).mono ?_);rintro e w' ⟨rfl,⟨nd,rfl⟩⟩;refine ⟨_,rfl,?_⟩;(try (rw [drewN_self wr];generalize hq_:World.drewN wr _=wr;replace HO_315002:Aside0 (Kd.R k48 48 wr w.heap.size (fun _=>True) a8 a6):=⟨by rw [←hq_];exact (oX HO_315002)⟩;replace J:Aside0 (wr.heap[ag]?=some (.cells #[.int .i64 a7, .int .i64 aa] 25 (0,0))):=⟨by rw [←hq_];exact (kB J)⟩;replace Z:Aside0 (wr.heap[aj]?=some (.cells #[.int .i64 0, .int .i64 0, .slice none 0 0] 28 (0,0))):=⟨by rw [←hq_];exact (kB Z)⟩;replace Y:Aside0 (wr.heap[ab]?=some (.cells #[.int .i64 a7, .int .i64 aa,a8] 28 (0,0))):=⟨by rw [←hq_];exact (kB Y)⟩;replace HB:Aside0 (Below w.heap.size w wr):=⟨by rw [←hq_];exact bB⟩;clear hq_));have e8:=ae.out;have e9:=af.out;have ea:=ah.out;have eb:=ai.out;obtain ⟨cW,cX,cY,cZ⟩:=cells2 J.out)));replace HO_315002:=amk (Kd.R_drew HO_315002.out);replace J:=amk (blk_drew J.out);replace Z:=amk (blk_drew Z.out);replace Y:=amk (blk_drew Y.out);replace HB:=amk (bd_ HB.out);refine start_ (n:=11) (S:=fun w'=>w'.cell? ⟨ab,0,none⟩=some (.int .i64 a7)∧w'.cell? ⟨ab,1,none⟩=some (.int .i64 aa)∧w'.cell? ⟨ab,2,none⟩=some (a8)∧w'.cell? ⟨ag,0,none⟩=some (.int .i64 a7)∧w'.cell? ⟨ag,1,none⟩=some (.int .i64 aa)) (ds:=[10]) (bA 11 0) (by kernel_rfl) rfl rfl ⟨(blk_cell Y.out 0).trans rfl,(blk_cell Y.out 1).trans rfl,(blk_cell Y.out 2).trans rfl,(blk_cell J.out 0).trans rfl,(blk_cell J.out 1).trans rfl⟩ (fun hHeld=>?_);refine with_tabW spec_MakePuzzle.tab17 spec_MakePuzzle.bits17 (fun HT_ HW_=>?_);generalize wr.drew=fa at HO_315002 J Z Y HB hHeld ⊢;refine pU_ HT_ 0 (some 65) (bA 11 1) ?_;refine pU_ HT_ 3 (some 68) (bA 11 9) ?_;refine pU_ HT_ 4 (some 69) (bA 11 25) ?_;refine pU_ HT_ 5 (some 70) (bA 11 57) ?_;refine tK_ HT_ HW_ hHeld 1 (some 66) (bA 11 59) ?_;refine tK_ HT_ HW_ hHeld 2 (some 67) (bA 11 63) ?_;refine oN_ HT_ 6 (some 71) (bA 11 127) (fun K hK=>?_);refine goes_ Tryz.func119 (by kernel_rfl) rfl #[.agg #[.int .i64 a7, .int .i64 aa], .int .i64 (Int.tmod ac 5), .int .i64 (Int.tmod an a7), .string a1] (by rfl) rfl rfl gL_ ?_;(with_reducible refine (spec_pzOf.calls k2 a7 aa (Int.tmod ac 5) (Int.tmod an a7) a1 bc bd be _ e7.out).mono ?_);rintro e fb ⟨rfl,hb⟩;refine ⟨_,rfl,?_⟩;replace HO_315002:=amk (Kd.R_below (oX HO_315002) hb);replace J:=kb2 J hb;replace Z:=kb2 Z hb;replace Y:=kb2 Y hb;replace HB:=hB2 HB hb;(try clear hb);refine hK.out _ _ hC_ (fun hHeld=>?_);clear hK K;refine nN_ (some 71) ?_;refine oN_ HT_ 7 (some 72) (bA 11 255) (fun K hK=>?_);refine value_ (w1:=?_) (v:=?_) (by rfl) rfl ?_ ?_;rotate_left 2
                      · go_simp
                        constructor
                        · rfl
                        · rfl
                      refine hK.out _ _ ⟨(blk_cell (ka_ Y.out _) 0).trans rfl,(blk_cell (ka_ Y.out _) 1).trans rfl,(blk_cell (ka_ Y.out _) 2).trans rfl,(blk_cell (ka_ J.out _) 0).trans rfl,(blk_cell (ka_ J.out _) 1).trans rfl⟩ (fun hHeld=>?_);clear hK K;refine nN_ (some 72) ?_;refine oN_ HT_ 8 (some 73) (bA 11 511) (fun K hK=>?_);refine Kd.R_append_step k48 (w0:=w) w.heap.size (by rfl) (.tmp 66) (.tmp 72) 26 48 (.agg #[(.int .i64 0),(.int .i64 0),(.int .i64 0)]) 24 rfl Tryz.underlying26 info48 rfl (by decide) (by omega) a8 a6 (⟨bc,bd,be⟩:S48) [.int .i64 bc, .int .i64 bd, .int .i64 be] (fun _=>True) (fun _=>False) rfl rfl ?aP (fun _ hk=>hk.elim) ?aF ?aO ?aB ?aS ?aL ?_;(case aP=>exact k48_mkM _ _ _ (⟨bc,bd,be⟩:S48));(case aB=>exact bB);(case aF=>exact (fun _ _=>trivial));(case aO=>exact (oX HO_315002));(case aS=>exact (below_size bB));(case aL=>have:=cF.out;omega);intro eL ec ho hb hg hat;rw [←cG.out] at ho;replace J:=bG J hg (Kd.R_ne HO_315002.out J.out (by decide));replace Z:=bG Z hg (Kd.R_ne HO_315002.out Z.out (by decide));replace Y:=bG Y hg (Kd.R_ne HO_315002.out Y.out (by decide));replace HB:=amk (hb);have bS:=amk (ho);clear HO_315002;clear ho hb hg hat;obtain ⟨ce,cf,cg⟩:=Kd.R_slice bS.out;(first | subst cg | (injection cg with f1_ f2_ f3_;have f4_:=f1_.symm;have f5_:=f3_.symm;clear f1_ f2_ f3_;subst f4_;subst f5_));refine hK.out _ _ hC_ (fun hHeld=>?_);clear hK K;refine nN_ (some 73) ?_;refine pU_ HT_ 9 (some 74) (bA 11 1023) ?_;refine last_ (i:=10) (N:=none) (bA 11 2047) rfl rfl (one_of HT_.out (by kernel_rfl)) (by decide) (fun K hK=>?_);have eM:ec.cell? ⟨ab,2,none⟩=some (a8):=(blk_cell Y.out 2).trans rfl;have ed:=blk_frozen Y.out 2;have d5:=ah.out;have d6:=ak.out;have d7:=ai.out;have d8:=al.out;refine skip_ (w1:=?_) (by rfl) rfl ?_ ?_;rotate_left
                      · go_simp
                        rfl
                      refine hK.out _ _ ?_;clear hK K;refine done_ (done_of HT_.out (by kernel_rfl)) ?_;(try go_wp2);go_roundg k2
                      case measure=>have:=b7.out;have:=b8.out;omega
                      case rel=>exact ⟨(wrap64 (ap - 1)),(an),(bR),(.slice ce bR.length cf),rS_,rS_,H',⟨by have:=b7.out;have:=b8.out;omega⟩,⟨by (with_reducible repeat (first | apply Kd.R_alloc | apply Kd.R_drewN | apply Kd.R_drew));exact Kd.R_mono (Kd.R_far (p:=⟨ab,2,none⟩) (Kd.R_types bS.out Y.out (by decide)) (fun _ hk=>hk.2) (.slice ce bR.length cf)) (fun _ hk=>trivial)⟩,⟨kB J⟩,⟨kB Z⟩,⟨kP Y⟩,⟨bB⟩⟩
                    · rw [if_neg c56] at H;exact absurd H (by simp)
                · rw [if_neg c53] at H;have cC:((Int.tmod ac 5) == 0)=false:=beq_eq_false_iff_ne.mpr c53;have cE:((Int.tmod ac 5) != 0)=true:=bne_iff_ne.mpr c53
                  by_cases c65:(Int.tmod ac 5)=4
                  · rw [if_pos c65] at H;have cH:((Int.tmod ac 5) == 4)=true:=beq_iff_eq.mpr c65;have cJ:((Int.tmod ac 5) != 4)=false:=bne_eq_false_iff_eq.mpr c65;clear c65;replace H:=bE H;obtain ⟨⟨bf,bg,bh⟩,ee,H⟩:=H;(try dsimp only at H)
                    by_cases c67:a6.length < 5864062014805
                    · rw [if_pos c67] at H;have cK:=amk c67;clear c67;(try rw [Option.bind_some] at H);generalize bT:((a6 ++ [(⟨bf,bg,bh⟩:S48)]):List (S48))=bU at H;have cL:=amk bT.symm;clear bT;have H':=amk H;clear H;(try go_wp2_with (first | ((with_reducible refine gate_callee (f:=118) rfl ?_);refine goesL_ (some 42) rfl rfl Tryz.func118 (by kernel_rfl) rfl #[.int .i64 am] rfl gL_ ?_;(with_reducible refine (spec_pzNext.calls am ac _ bZ.out).mono ?_);rintro e w' ⟨rfl,⟨nd,rfl⟩⟩;refine ⟨_,rfl,?_⟩;(try (rw [drewN_self wr];generalize hq_:World.drewN wr _=wr;replace HO_315002:Aside0 (Kd.R k48 48 wr w.heap.size (fun _=>True) a8 a6):=⟨by rw [←hq_];exact (oX HO_315002)⟩;replace J:Aside0 (wr.heap[ag]?=some (.cells #[.int .i64 a7, .int .i64 aa] 25 (0,0))):=⟨by rw [←hq_];exact (kB J)⟩;replace Z:Aside0 (wr.heap[aj]?=some (.cells #[.int .i64 0, .int .i64 0, .slice none 0 0] 28 (0,0))):=⟨by rw [←hq_];exact (kB Z)⟩;replace Y:Aside0 (wr.heap[ab]?=some (.cells #[.int .i64 a7, .int .i64 aa,a8] 28 (0,0))):=⟨by rw [←hq_];exact (kB Y)⟩;replace HB:Aside0 (Below w.heap.size w wr):=⟨by rw [←hq_];exact bB⟩;clear hq_))) | ((with_reducible refine gate_callee (f:=118) rfl ?_);refine goesL_ (some 48) rfl rfl Tryz.func118 (by kernel_rfl) rfl #[.int .i64 ac] rfl gL_ ?_;(with_reducible refine (spec_pzNext.calls ac an _ cA.out).mono ?_);rintro e w' ⟨rfl,⟨nd,rfl⟩⟩;refine ⟨_,rfl,?_⟩;(try (rw [drewN_self wr];generalize hq_:World.drewN wr _=wr;replace HO_315002:Aside0 (Kd.R k48 48 wr w.heap.size (fun _=>True) a8 a6):=⟨by rw [←hq_];exact (oX HO_315002)⟩;replace J:Aside0 (wr.heap[ag]?=some (.cells #[.int .i64 a7, .int .i64 aa] 25 (0,0))):=⟨by rw [←hq_];exact (kB J)⟩;replace Z:Aside0 (wr.heap[aj]?=some (.cells #[.int .i64 0, .int .i64 0, .slice none 0 0] 28 (0,0))):=⟨by rw [←hq_];exact (kB Z)⟩;replace Y:Aside0 (wr.heap[ab]?=some (.cells #[.int .i64 a7, .int .i64 aa,a8] 28 (0,0))):=⟨by rw [←hq_];exact (kB Y)⟩;replace HB:Aside0 (Below w.heap.size w wr):=⟨by rw [←hq_];exact bB⟩;clear hq_)))));replace HO_315002:=amk (Kd.R_drew HO_315002.out);replace J:=amk (blk_drew J.out);replace Z:=amk (blk_drew Z.out);replace Y:=amk (blk_drew Y.out);replace HB:=amk (bd_ HB.out);refine start_ (n:=11) (S:=fun w'=>w'.cell? ⟨ab,0,none⟩=some (.int .i64 a7)∧w'.cell? ⟨ab,1,none⟩=some (.int .i64 aa)∧w'.cell? ⟨ab,2,none⟩=some (a8)∧w'.cell? ⟨ag,0,none⟩=some (.int .i64 a7)∧w'.cell? ⟨ag,1,none⟩=some (.int .i64 aa)) (ds:=[10]) (bA 11 0) (by kernel_rfl) rfl rfl ⟨(blk_cell Y.out 0).trans rfl,(blk_cell Y.out 1).trans rfl,(blk_cell Y.out 2).trans rfl,(blk_cell J.out 0).trans rfl,(blk_cell J.out 1).trans rfl⟩ (fun hHeld=>?_);refine with_tabW spec_MakePuzzle.tab17 spec_MakePuzzle.bits17 (fun HT_ HW_=>?_);generalize wr.drew=fc at HO_315002 J Z Y HB hHeld ⊢;refine pU_ HT_ 0 (some 65) (bA 11 1) ?_;refine pU_ HT_ 3 (some 68) (bA 11 9) ?_;refine pU_ HT_ 4 (some 69) (bA 11 25) ?_;refine pU_ HT_ 5 (some 70) (bA 11 57) ?_;refine tK_ HT_ HW_ hHeld 1 (some 66) (bA 11 59) ?_;refine tK_ HT_ HW_ hHeld 2 (some 67) (bA 11 63) ?_;refine oN_ HT_ 6 (some 71) (bA 11 127) (fun K hK=>?_);refine goes_ Tryz.func119 (by kernel_rfl) rfl #[.agg #[.int .i64 a7, .int .i64 aa], .int .i64 (Int.tmod ac 5), .int .i64 (wrap64 ((Int.tmod an 8) + 2)), .string a1] (by rfl) rfl rfl gL_ ?_;(with_reducible refine (spec_pzOf.calls k2 a7 aa (Int.tmod ac 5) (wrap64 ((Int.tmod an 8) + 2)) a1 bf bg bh _ ee.out).mono ?_);rintro e fe ⟨rfl,hb⟩;refine ⟨_,rfl,?_⟩;replace HO_315002:=amk (Kd.R_below (oX HO_315002) hb);replace J:=kb2 J hb;replace Z:=kb2 Z hb;replace Y:=kb2 Y hb;replace HB:=hB2 HB hb;(try clear hb);refine hK.out _ _ hC_ (fun hHeld=>?_);clear hK K;refine nN_ (some 71) ?_;refine oN_ HT_ 7 (some 72) (bA 11 255) (fun K hK=>?_);refine value_ (w1:=?_) (v:=?_) (by rfl) rfl ?_ ?_;rotate_left 2
                      · go_simp
                        constructor
                        · rfl
                        · rfl
                      refine hK.out _ _ ⟨(blk_cell (ka_ Y.out _) 0).trans rfl,(blk_cell (ka_ Y.out _) 1).trans rfl,(blk_cell (ka_ Y.out _) 2).trans rfl,(blk_cell (ka_ J.out _) 0).trans rfl,(blk_cell (ka_ J.out _) 1).trans rfl⟩ (fun hHeld=>?_);clear hK K;refine nN_ (some 72) ?_;refine oN_ HT_ 8 (some 73) (bA 11 511) (fun K hK=>?_);refine Kd.R_append_step k48 (w0:=w) w.heap.size (by rfl) (.tmp 66) (.tmp 72) 26 48 (.agg #[(.int .i64 0),(.int .i64 0),(.int .i64 0)]) 24 rfl Tryz.underlying26 info48 rfl (by decide) (by omega) a8 a6 (⟨bf,bg,bh⟩:S48) [.int .i64 bf, .int .i64 bg, .int .i64 bh] (fun _=>True) (fun _=>False) rfl rfl ?aP (fun _ hk=>hk.elim) ?aF ?aO ?aB ?aS ?aL ?_;(case aP=>exact k48_mkM _ _ _ (⟨bf,bg,bh⟩:S48));(case aB=>exact bB);(case aF=>exact (fun _ _=>trivial));(case aO=>exact (oX HO_315002));(case aS=>exact (below_size bB));(case aL=>have:=cK.out;omega);intro eN ef ho hb hg hat;rw [←cL.out] at ho;replace J:=bG J hg (Kd.R_ne HO_315002.out J.out (by decide));replace Z:=bG Z hg (Kd.R_ne HO_315002.out Z.out (by decide));replace Y:=bG Y hg (Kd.R_ne HO_315002.out Y.out (by decide));replace HB:=amk (hb);have bV:=amk (ho);clear HO_315002;clear ho hb hg hat;obtain ⟨ci,cj,ck⟩:=Kd.R_slice bV.out;(first | subst ck | (injection ck with f1_ f2_ f3_;have f4_:=f1_.symm;have f5_:=f3_.symm;clear f1_ f2_ f3_;subst f4_;subst f5_));refine hK.out _ _ hC_ (fun hHeld=>?_);clear hK K;refine nN_ (some 73) ?_;refine pU_ HT_ 9 (some 74) (bA 11 1023) ?_;refine last_ (i:=10) (N:=none) (bA 11 2047) rfl rfl (one_of HT_.out (by kernel_rfl)) (by decide) (fun K hK=>?_);have eO:ef.cell? ⟨ab,2,none⟩=some (a8):=(blk_cell Y.out 2).trans rfl;have eg:=blk_frozen Y.out 2;have d9:=ah.out;have da:=ak.out;have db:=ai.out;have dc:=al.out;refine skip_ (w1:=?_) (by rfl) rfl ?_ ?_;rotate_left
                      · go_simp
                        rfl
                      refine hK.out _ _ ?_;clear hK K;refine done_ (done_of HT_.out (by kernel_rfl)) ?_;(try go_wp2);go_roundg k2
                      case measure=>have:=b7.out;have:=b8.out;omega
                      case rel=>exact ⟨(wrap64 (ap - 1)),(an),(bU),(.slice ci bU.length cj),rS_,rS_,H',⟨by have:=b7.out;have:=b8.out;omega⟩,⟨by (with_reducible repeat (first | apply Kd.R_alloc | apply Kd.R_drewN | apply Kd.R_drew));exact Kd.R_mono (Kd.R_far (p:=⟨ab,2,none⟩) (Kd.R_types bV.out Y.out (by decide)) (fun _ hk=>hk.2) (.slice ci bU.length cj)) (fun _ hk=>trivial)⟩,⟨kB J⟩,⟨kB Z⟩,⟨kP Y⟩,⟨bB⟩⟩
                    · rw [if_neg c67] at H;exact absurd H (by simp)
                  · rw [if_neg c65] at H;have cH:((Int.tmod ac 5) == 4)=false:=beq_eq_false_iff_ne.mpr c65;have cJ:((Int.tmod ac 5) != 4)=true:=bne_iff_ne.mpr c65;replace H:=bE H;obtain ⟨ar,eh,H⟩:=H
                    by_cases c74:ar=0
                    · rw [if_pos c74] at H;exact absurd H (by simp)
                    · rw [if_neg c74] at H;have ei:(ar == 0)=false:=beq_eq_false_iff_ne.mpr c74;have ej:(ar != 0)=true:=bne_iff_ne.mpr c74;replace H:=bE H;obtain ⟨⟨bi,bj,bk⟩,ek,H⟩:=H;(try dsimp only at H)
                      by_cases c76:a6.length < 5864062014805
                      · rw [if_pos c76] at H;have cM:=amk c76;clear c76;(try rw [Option.bind_some] at H);generalize bW:((a6 ++ [(⟨bi,bj,bk⟩:S48)]):List (S48))=bX at H;have cN:=amk bW.symm;clear bW;have H':=amk H;clear H;(try go_wp2_with (first | ((with_reducible refine gate_callee (f:=118) rfl ?_);refine goesL_ (some 42) rfl rfl Tryz.func118 (by kernel_rfl) rfl #[.int .i64 am] rfl gL_ ?_;(with_reducible refine (spec_pzNext.calls am ac _ bZ.out).mono ?_);rintro e w' ⟨rfl,⟨nd,rfl⟩⟩;refine ⟨_,rfl,?_⟩;(try (rw [drewN_self wr];generalize hq_:World.drewN wr _=wr;replace HO_315002:Aside0 (Kd.R k48 48 wr w.heap.size (fun _=>True) a8 a6):=⟨by rw [←hq_];exact (oX HO_315002)⟩;replace J:Aside0 (wr.heap[ag]?=some (.cells #[.int .i64 a7, .int .i64 aa] 25 (0,0))):=⟨by rw [←hq_];exact (kB J)⟩;replace Z:Aside0 (wr.heap[aj]?=some (.cells #[.int .i64 0, .int .i64 0, .slice none 0 0] 28 (0,0))):=⟨by rw [←hq_];exact (kB Z)⟩;replace Y:Aside0 (wr.heap[ab]?=some (.cells #[.int .i64 a7, .int .i64 aa,a8] 28 (0,0))):=⟨by rw [←hq_];exact (kB Y)⟩;replace HB:Aside0 (Below w.heap.size w wr):=⟨by rw [←hq_];exact bB⟩;clear hq_))) | ((with_reducible refine gate_callee (f:=118) rfl ?_);refine goesL_ (some 48) rfl rfl Tryz.func118 (by kernel_rfl) rfl #[.int .i64 ac] rfl gL_ ?_;(with_reducible refine (spec_pzNext.calls ac an _ cA.out).mono ?_);rintro e w' ⟨rfl,⟨nd,rfl⟩⟩;refine ⟨_,rfl,?_⟩;(try (rw [drewN_self wr];generalize hq_:World.drewN wr _=wr;replace HO_315002:Aside0 (Kd.R k48 48 wr w.heap.size (fun _=>True) a8 a6):=⟨by rw [←hq_];exact (oX HO_315002)⟩;replace J:Aside0 (wr.heap[ag]?=some (.cells #[.int .i64 a7, .int .i64 aa] 25 (0,0))):=⟨by rw [←hq_];exact (kB J)⟩;replace Z:Aside0 (wr.heap[aj]?=some (.cells #[.int .i64 0, .int .i64 0, .slice none 0 0] 28 (0,0))):=⟨by rw [←hq_];exact (kB Z)⟩;replace Y:Aside0 (wr.heap[ab]?=some (.cells #[.int .i64 a7, .int .i64 aa,a8] 28 (0,0))):=⟨by rw [←hq_];exact (kB Y)⟩;replace HB:Aside0 (Below w.heap.size w wr):=⟨by rw [←hq_];exact bB⟩;clear hq_));have em:=ae.out;have en:=af.out;have eo:=ah.out;have ep:=ai.out;obtain ⟨de,df,dh,di⟩:=cells2 J.out) | ((with_reducible refine gate_callee (f:=95) rfl ?_);refine goesL_ (some 52) rfl rfl Tryz.func95 (by kernel_rfl) rfl #[.agg #[.int .i64 a7, .int .i64 aa]] rfl gL_ ?_;(with_reducible refine (spec_whCount.calls k2 a7 aa ar _ eh.out).mono ?_);rintro e er ⟨rfl,hb⟩;refine ⟨_,rfl,?_⟩;replace HO_315002:=amk (Kd.R_below (oX HO_315002) hb);replace J:=kb2 J hb;replace Z:=kb2 Z hb;replace Y:=kb2 Y hb;replace HB:=hB2 HB hb;(try clear hb))));replace HO_315002:=amk (Kd.R_drew HO_315002.out);replace J:=amk (blk_drew J.out);replace Z:=amk (blk_drew Z.out);replace Y:=amk (blk_drew Y.out);replace HB:=amk (bd_ HB.out);refine start_ (n:=11) (S:=fun w'=>w'.cell? ⟨ab,0,none⟩=some (.int .i64 a7)∧w'.cell? ⟨ab,1,none⟩=some (.int .i64 aa)∧w'.cell? ⟨ab,2,none⟩=some (a8)∧w'.cell? ⟨ag,0,none⟩=some (.int .i64 a7)∧w'.cell? ⟨ag,1,none⟩=some (.int .i64 aa)) (ds:=[10]) (bA 11 0) (by kernel_rfl) rfl rfl ⟨(blk_cell Y.out 0).trans rfl,(blk_cell Y.out 1).trans rfl,(blk_cell Y.out 2).trans rfl,(blk_cell J.out 0).trans rfl,(blk_cell J.out 1).trans rfl⟩ (fun hHeld=>?_);refine with_tabW spec_MakePuzzle.tab17 spec_MakePuzzle.bits17 (fun HT_ HW_=>?_);generalize er.drew=ff at HO_315002 J Z Y HB hHeld ⊢;refine pU_ HT_ 0 (some 65) (bA 11 1) ?_;refine pU_ HT_ 3 (some 68) (bA 11 9) ?_;refine pU_ HT_ 4 (some 69) (bA 11 25) ?_;refine pU_ HT_ 5 (some 70) (bA 11 57) ?_;refine tK_ HT_ HW_ hHeld 1 (some 66) (bA 11 59) ?_;refine tK_ HT_ HW_ hHeld 2 (some 67) (bA 11 63) ?_;refine oN_ HT_ 6 (some 71) (bA 11 127) (fun K hK=>?_);refine goes_ Tryz.func119 (by kernel_rfl) rfl #[.agg #[.int .i64 a7, .int .i64 aa], .int .i64 (Int.tmod ac 5), .int .i64 (Int.tmod an ar), .string a1] (by rfl) rfl rfl gL_ ?_;(with_reducible refine (spec_pzOf.calls k2 a7 aa (Int.tmod ac 5) (Int.tmod an ar) a1 bi bj bk _ ek.out).mono ?_);rintro e fg ⟨rfl,hb⟩;refine ⟨_,rfl,?_⟩;replace HO_315002:=amk (Kd.R_below (oX HO_315002) hb);replace J:=kb2 J hb;replace Z:=kb2 Z hb;replace Y:=kb2 Y hb;replace HB:=hB2 HB hb;(try clear hb);refine hK.out _ _ hC_ (fun hHeld=>?_);clear hK K;refine nN_ (some 71) ?_;refine oN_ HT_ 7 (some 72) (bA 11 255) (fun K hK=>?_);refine value_ (w1:=?_) (v:=?_) (by rfl) rfl ?_ ?_;rotate_left 2
                        · go_simp
                          constructor
                          · rfl
                          · rfl
                        refine hK.out _ _ ⟨(blk_cell (ka_ Y.out _) 0).trans rfl,(blk_cell (ka_ Y.out _) 1).trans rfl,(blk_cell (ka_ Y.out _) 2).trans rfl,(blk_cell (ka_ J.out _) 0).trans rfl,(blk_cell (ka_ J.out _) 1).trans rfl⟩ (fun hHeld=>?_);clear hK K;refine nN_ (some 72) ?_;refine oN_ HT_ 8 (some 73) (bA 11 511) (fun K hK=>?_);refine Kd.R_append_step k48 (w0:=w) w.heap.size (by rfl) (.tmp 66) (.tmp 72) 26 48 (.agg #[(.int .i64 0),(.int .i64 0),(.int .i64 0)]) 24 rfl Tryz.underlying26 info48 rfl (by decide) (by omega) a8 a6 (⟨bi,bj,bk⟩:S48) [.int .i64 bi, .int .i64 bj, .int .i64 bk] (fun _=>True) (fun _=>False) rfl rfl ?aP (fun _ hk=>hk.elim) ?aF ?aO ?aB ?aS ?aL ?_;(case aP=>exact k48_mkM _ _ _ (⟨bi,bj,bk⟩:S48));(case aB=>exact bB);(case aF=>exact (fun _ _=>trivial));(case aO=>exact (oX HO_315002));(case aS=>exact (below_size bB));(case aL=>have:=cM.out;omega);intro eP eu ho hb hg hat;rw [←cN.out] at ho;replace J:=bG J hg (Kd.R_ne HO_315002.out J.out (by decide));replace Z:=bG Z hg (Kd.R_ne HO_315002.out Z.out (by decide));replace Y:=bG Y hg (Kd.R_ne HO_315002.out Y.out (by decide));replace HB:=amk (hb);have bY:=amk (ho);clear HO_315002;clear ho hb hg hat;obtain ⟨cm,cn,co⟩:=Kd.R_slice bY.out;(first | subst co | (injection co with f1_ f2_ f3_;have f4_:=f1_.symm;have f5_:=f3_.symm;clear f1_ f2_ f3_;subst f4_;subst f5_));refine hK.out _ _ hC_ (fun hHeld=>?_);clear hK K;refine nN_ (some 73) ?_;refine pU_ HT_ 9 (some 74) (bA 11 1023) ?_;refine last_ (i:=10) (N:=none) (bA 11 2047) rfl rfl (one_of HT_.out (by kernel_rfl)) (by decide) (fun K hK=>?_);have eQ:eu.cell? ⟨ab,2,none⟩=some (a8):=(blk_cell Y.out 2).trans rfl;have ew:=blk_frozen Y.out 2;have dj:=ah.out;have dl:=ak.out;have dm:=ai.out;have dn:=al.out;refine skip_ (w1:=?_) (by rfl) rfl ?_ ?_;rotate_left
                        · go_simp
                          rfl
                        refine hK.out _ _ ?_;clear hK K;refine done_ (done_of HT_.out (by kernel_rfl)) ?_;(try go_wp2);go_roundg k2
                        case measure=>have:=b7.out;have:=b8.out;omega
                        case rel=>exact ⟨(wrap64 (ap - 1)),(an),(bX),(.slice cm bX.length cn),rS_,rS_,H',⟨by have:=b7.out;have:=b8.out;omega⟩,⟨by (with_reducible repeat (first | apply Kd.R_alloc | apply Kd.R_drewN | apply Kd.R_drew));exact Kd.R_mono (Kd.R_far (p:=⟨ab,2,none⟩) (Kd.R_types bY.out Y.out (by decide)) (fun _ hk=>hk.2) (.slice cm bX.length cn)) (fun _ hk=>trivial)⟩,⟨kB J⟩,⟨kB Z⟩,⟨kP Y⟩,⟨bB⟩⟩
                      · rw [if_neg c76] at H;exact absurd H (by simp)
            · rw [if_neg c42] at H;have cv:decide (0 < ap)=false:=decide_eq_false c42;clear c42;simp only [Option.some.injEq,Prod.mk.injEq] at H;obtain ⟨rfl,rfl,rfl,rfl⟩:=H;have ey:=ai.out;have ez:=ah.out;have eA:=al.out;have eB:=ak.out;obtain ⟨dp,dq,dr,dt,du,dv⟩:=cells3 Y.out;have eC:=af.out;have eD:=ae.out;obtain ⟨dw,dx,dy,dz,dA,dB⟩:=cells3 Z.out;obtain ⟨cp,cq,dC⟩:=Kd.R_slice HO_315002.out;subst dC;go_wp2;refine bodyPost_ret (results_ct rfl _ _ aj 28 #[.int .i64 a7, .int .i64 aa, .slice cp a6.length cq] (0,0) _ rfl (kP Z) Tryz.underlying28 rfl (by kernel_rfl)) rfl ?_;exact ⟨_,rF_,by (with_reducible repeat (first | apply Kd.R_alloc | apply Kd.R_drewN | apply Kd.R_drew));exact Kd.R_mono (Kd.R_far (p:=⟨aj,2,none⟩) (Kd.R_far (p:=⟨aj,1,none⟩) (Kd.R_far (p:=⟨aj,0,none⟩) (Kd.R_types HO_315002.out Z.out (by decide)) (fun _ hk=>hk.2) (.int .i64 a7)) (fun _ hk=>hk.2) (.int .i64 aa)) (fun _ hk=>hk.2) (.slice cp a6.length cq)) (fun _ hk=>trivial),bB⟩
/-! impl.within and spec.l1In, by hand: the world stays. -/
def winB (a b c:Int):Bool:=decide (b≤a∧a≤c)
/-! What MakePuzzle comes to, over numbers and lists alone. -/
def toldC (w d:Int) (s:ByteArray) (a b:Int):Int×Int×Int:=if a=1 then (1,valV w d 1 0 s,0) else (a,b,valV w d a b s)
def mkV (w d:Int) (s:ByteArray):Nat→Int→List S48→List S48
  | 0,_,cs=>cs
  | m + 1,z,cs=>mkV w d s m (mkZ z) (cs ++ [(⟨(toldC w d s (nxV z % 5) (mkA w (d ^ w.toNat) (nxV z % 5) (mkZ z))).1,(toldC w d s (nxV z % 5) (mkA w (d ^ w.toNat) (nxV z % 5) (mkZ z))).2.1,(toldC w d s (nxV z % 5) (mkA w (d ^ w.toNat) (nxV z % 5) (mkZ z))).2.2⟩:S48)])
theorem mkV_len (w d:Int) (s:ByteArray) : ∀ (m:Nat) (z:Int) (cs:List S48),(mkV w d s m z cs).length=cs.length + m
  | 0,_,_=>rfl
  | m + 1,z,cs=>by rw [mkV,mkV_len w d s m];simp;omega
theorem mkZ_range (z:Int):0≤mkZ z∧mkZ z≤10006:=by
  unfold mkZ;split
  · exact nxV_range z
  · exact nxV_range _
theorem mkA_ok {w cnt:Int} (hw:1≤w) (hc:1≤cnt) (z:Int):(nxV z % 5=0∧0≤mkA w cnt (nxV z % 5) (mkZ z)∧mkA w cnt (nxV z % 5) (mkZ z)≤w - 1)∨(nxV z % 5=1∧mkA w cnt (nxV z % 5) (mkZ z)=0)∨(nxV z % 5=2∧0≤mkA w cnt (nxV z % 5) (mkZ z)∧mkA w cnt (nxV z % 5) (mkZ z)≤cnt - 1)∨(nxV z % 5=3∧0≤mkA w cnt (nxV z % 5) (mkZ z)∧mkA w cnt (nxV z % 5) (mkZ z)≤cnt - 1)∨(nxV z % 5=4∧2≤mkA w cnt (nxV z % 5) (mkZ z)∧mkA w cnt (nxV z % 5) (mkZ z)≤9):=by
  have h1:=mkZ_range z
  generalize mkZ z=y at h1 ⊢
  have h2:nxV z % 5=0∨nxV z % 5=1∨nxV z % 5=2∨nxV z % 5=3∨nxV z % 5=4:=by omega
  generalize nxV z % 5=t at h2 ⊢
  have a1:=Int.emod_nonneg y (show w≠0 by omega)
  have a2:=Int.emod_lt_of_pos y (show 0 < w by omega)
  have a3:=Int.emod_nonneg y (show cnt≠0 by omega)
  have a4:=Int.emod_lt_of_pos y (show 0 < cnt by omega)
  unfold mkA
  rcases h2 with rfl | rfl | rfl | rfl | rfl <;> simp <;> omega
theorem pzOf_mk {w d:Int} (hl:lockB w d=true) {s:ByteArray} (hs:codeS w d s) (z:Int):Ev (fun k=>spec_pzOf.f k w d (nxV z % 5) (mkA w (d ^ w.toNat) (nxV z % 5) (mkZ z)) s) (toldC w d s (nxV z % 5) (mkA w (d ^ w.toNat) (nxV z % 5) (mkZ z))):=by
  obtain ⟨w1,w2,d1,d2⟩:=lockB_iff.mp hl
  have hc:=(count_bound hl).1
  have hk:=mkA_ok (w:=w) w1 hc z
  generalize mkA w (d ^ w.toNat) (nxV z % 5) (mkZ z)=A at hk ⊢
  generalize nxV z % 5=t at hk ⊢
  unfold toldC spec_pzOf.f
  by_cases h1:t=1
  · subst h1
    exact Ev.yes rfl (Ev.bind (spec_pzValue.ev hl hs (Or.inr (Or.inl rfl))) (Ev.id (by rw [if_pos rfl])))
  · exact Ev.no h1 (Ev.bind (spec_pzValue.ev hl hs (by omega)) (Ev.id (by rw [if_neg h1])))
theorem pzNext_is {z:Int} (h0:0≤z) (h1:z≤10006):spec_pzNext.f z=some (nxV z):=by
  unfold spec_pzNext.f nxV
  rw [show wrap64 (173 * z)=z * 173 from by unfold wrap64;omega,show wrap64 (z * 173 + 2633)=z * 173 + 2633 from by unfold wrap64;omega,Int.tmod_eq_emod_of_nonneg (by omega)]
theorem spec_MakePuzzle.lev {w d:Int} (hl:lockB w d=true) {s:ByteArray} (hs:codeS w d s) : ∀ (m:Nat) (z:Int) (cs:List S48),0≤z→z≤10006→cs.length + m≤6→Ev (fun k=>spec_MakePuzzle.l0 k s (m:Nat) z w d w d cs) (w,d,mkV w d s m z cs,true):=by
  obtain ⟨w1,w2,d1,d2⟩:=lockB_iff.mp hl
  have hcb:=(count_bound hl).1
  intro m
  induction m with
  | zero=>intro z cs h0 h1 h6;exact Ev.step (fun k=>rfl) (Ev.no (by omega) (Ev.now _))
  | succ m ih =>
    intro z cs h0 h1 h6
    have hr:=nxV_range z
    have J:=nxV_range (nxV z)
    have hof:=pzOf_mk hl hs z
    have hrec:=ih (mkZ z) (cs ++ [(⟨(toldC w d s (nxV z % 5) (mkA w (d ^ w.toNat) (nxV z % 5) (mkZ z))).1,(toldC w d s (nxV z % 5) (mkA w (d ^ w.toNat) (nxV z % 5) (mkZ z))).2.1,(toldC w d s (nxV z % 5) (mkA w (d ^ w.toNat) (nxV z % 5) (mkZ z))).2.2⟩:S48)]) (mkZ_range z).1 (mkZ_range z).2 (by simp;omega)
    have hm:wrap64 (((m + 1:Nat):Int) - 1)=(m:Nat):=by unfold wrap64;omega
    have ht:(nxV z).tmod 5=nxV z % 5:=Int.tmod_eq_emod_of_nonneg hr.1
    have hk:nxV z % 5=0∨nxV z % 5=1∨nxV z % 5=2∨nxV z % 5=3∨nxV z % 5=4:=by omega
    refine Ev.step (fun k=>rfl) (Ev.yes (by omega) (Ev.bindc (pzNext_is h0 h1) ?_))
    simp only [ht,hm]
    rw [mkV]
    rcases hk with hk | hk | hk | hk | hk
    · have hA:mkA w (d ^ w.toNat) (nxV z % 5) (mkZ z)=(nxV (nxV z)).tmod w:=by unfold mkA mkZ;rw [if_pos hk,if_neg (by omega),Int.tmod_eq_emod_of_nonneg J.1]
      have hZ:mkZ z=nxV (nxV z):=by unfold mkZ;rw [if_neg (by omega)]
      rw [hA] at hof;rw [hA,hZ] at hrec ⊢
      exact Ev.no (by omega) (Ev.bindc (pzNext_is hr.1 hr.2) (Ev.yes hk (Ev.no (by omega) (Ev.bind hof (Ev.yes (by omega) hrec)))))
    · have hA:mkA w (d ^ w.toNat) (nxV z % 5) (mkZ z)=0:=by unfold mkA;rw [if_neg (by omega),if_neg (by omega),if_neg (by omega)]
      have hZ:mkZ z=nxV z:=by unfold mkZ;rw [if_pos hk]
      rw [hA] at hof;rw [hA,hZ] at hrec ⊢
      exact Ev.yes hk (Ev.bind hof (Ev.yes (by omega) hrec))
    · have hA:mkA w (d ^ w.toNat) (nxV z % 5) (mkZ z)=(nxV (nxV z)).tmod (d ^ w.toNat):=by unfold mkA mkZ;rw [if_neg (by omega),if_pos (Or.inl hk),if_neg (by omega),Int.tmod_eq_emod_of_nonneg J.1]
      have hZ:mkZ z=nxV (nxV z):=by unfold mkZ;rw [if_neg (by omega)]
      rw [hA] at hof;rw [hA,hZ] at hrec ⊢
      exact Ev.no (by omega) (Ev.bindc (pzNext_is hr.1 hr.2) (Ev.no (by omega) (Ev.no (by omega) (Ev.bind (spec_whCount.ev hl) (Ev.no (by omega) (Ev.bind hof (Ev.yes (by omega) hrec)))))))
    · have hA:mkA w (d ^ w.toNat) (nxV z % 5) (mkZ z)=(nxV (nxV z)).tmod (d ^ w.toNat):=by unfold mkA mkZ;rw [if_neg (by omega),if_pos (Or.inr hk),if_neg (by omega),Int.tmod_eq_emod_of_nonneg J.1]
      have hZ:mkZ z=nxV (nxV z):=by unfold mkZ;rw [if_neg (by omega)]
      rw [hA] at hof;rw [hA,hZ] at hrec ⊢
      exact Ev.no (by omega) (Ev.bindc (pzNext_is hr.1 hr.2) (Ev.no (by omega) (Ev.no (by omega) (Ev.bind (spec_whCount.ev hl) (Ev.no (by omega) (Ev.bind hof (Ev.yes (by omega) hrec)))))))
    · have hA:mkA w (d ^ w.toNat) (nxV z % 5) (mkZ z)=wrap64 ((nxV (nxV z)).tmod 8 + 2):=by unfold mkA mkZ;rw [if_neg (by omega),if_neg (by omega),if_pos hk,if_neg (by omega),Int.tmod_eq_emod_of_nonneg J.1];unfold wrap64;omega
      have hZ:mkZ z=nxV (nxV z):=by unfold mkZ;rw [if_neg (by omega)]
      rw [hA] at hof;rw [hA,hZ] at hrec ⊢
      exact Ev.no (by omega) (Ev.bindc (pzNext_is hr.1 hr.2) (Ev.no (by omega) (Ev.yes hk (Ev.bind hof (Ev.yes (by omega) hrec)))))
def makeR (w d:Int) (s:ByteArray) (n z:Int):Int×Int×List S48×Bool:=
  if smallB w d 125=true∧codeT w d s=true∧winB n 0 6=true∧winB z 0 9999=true then (w,d,mkV w d s n.toNat z [],true) else (0,0,[],false)
theorem makeR_len (w d:Int) (s:ByteArray) (n z:Int):(makeR w d s n z).2.2.1.length≤6:=by
  unfold makeR
  by_cases e:smallB w d 125=true∧codeT w d s=true∧winB n 0 6=true∧winB z 0 9999=true
  · rw [if_pos e]
    have h3:=e.2.2.1
    unfold winB at h3
    have:=of_decide_eq_true h3
    show (mkV w d s n.toNat z []).length≤6
    rw [mkV_len];simp;omega
  · rw [if_neg e];exact Nat.zero_le _
theorem winB_eq (a b c:Int):decide (b≤a∧a≤c)=winB a b c:=rfl
theorem spec_MakePuzzle.ev (w d:Int) (s:ByteArray) (n z:Int):Ev (fun k=>spec_MakePuzzle.f k w d s n z) (makeR w d s n z):=by
  have fail : ∀ (h : ¬ (smallB w d 125=true∧codeT w d s=true∧winB n 0 6=true∧winB z 0 9999=true)),Ev (fun k=>spec_MakePuzzle.j0 k s n z true w d) (makeR w d s n z):=by
    intro h
    refine Ev.step (fun k=>rfl) ?_
    simp only [spec_MakePuzzle.j0]
    exact Ev.yes trivial (Ev.id (by unfold makeR;rw [if_neg h]))
  unfold spec_MakePuzzle.f
  refine Ev.bind (spec_pzLock.ev w d) ?_
  cases h:smallB w d 125 with
  | false=>exact Ev.no (by simp) (fail (by simp [h]))
  | true =>
    have hl:=smallB_lock h
    refine Ev.yes rfl (Ev.bind (spec_whCode.ev hl s) ?_)
    cases h2:codeT w d s with
    | false=>exact Ev.no (by simp) (fail (by simp [h2]))
    | true =>
      refine Ev.yes rfl (Ev.bindc (spec_l1In.is _ _ _) ?_)
      rw [winB_eq]
      cases h3:winB n 0 6 with
      | false=>exact Ev.no (by simp) (fail (by simp [h3]))
      | true =>
        refine Ev.yes rfl (Ev.bindc (spec_l1In.is _ _ _) ?_)
        rw [winB_eq]
        cases h4:winB z 0 9999 with
        | false=>exact fail (by simp [h4])
        | true =>
          have b3:=h3
          have b4:=h4
          unfold winB at b3 b4
          have c3:=of_decide_eq_true b3
          have c4:=of_decide_eq_true b4
          refine Ev.step (fun k=>rfl) ?_
          simp only [spec_MakePuzzle.j0]
          refine Ev.no (by simp) ?_
          obtain ⟨N,rfl⟩:=Int.eq_ofNat_of_zero_le c3.1
          refine Ev.eq (spec_MakePuzzle.lev hl (codeT_iff.mp h2) N z [] (by omega) (by omega) (by simp;omega)) ?_
          unfold makeR
          rw [if_pos ⟨h,h2,h3,h4⟩,Int.toNat_natCast]
/-! ### spec_l1Cur_clue: function 91 -/
def spec_l1Cur_clue.j0:Nat→Bool→List Int→Int→Int→Int→Int→Int→Option (Int×Int×Int×Int×Int)
  | 0,_,_,_,_,_,_,_=>none
  | k + 1,ab,a6,a7,a8,J,Y,aa=>if ab=true then ((spec_l1Cur_pick.f a6 a7 a8 4).bind fun Z=>((spec_l1Cur_pick.f a6 Z.2.1 Z.2.2 9).bind fun a1=>(some (J,Y,wrap64 (Z.1 - (wrap64 (Int.tdiv a1.1 8))),a1.2.1,a1.2.2)))) else (some (J,Y,aa,a7,a8))
def spec_l1Cur_clue.f (k:Nat) (Y:List Int) (a8:Int) (aa:Int):Option (Int×Int×Int×Int×Int):=(spec_l1Cur_pick.f Y a8 aa 5).bind fun Z=>((spec_l1Cur_pick.f Y Z.2.1 Z.2.2 9).bind fun a1=>((spec_l1Cur_pick.f Y a1.2.1 a1.2.2 6).bind fun a6=>((spec_l1Cur_pick.f Y a6.2.1 a6.2.2 9).bind fun J=>(if (wrap64 (Z.1 + (wrap64 (Int.tdiv a1.1 8))))=1 then ((spec_l1Cur_one.f Y J.2.1 J.2.2 8).bind fun a7=>(spec_l1Cur_clue.j0 k a7.1 Y a7.2.1 a7.2.2 (wrap64 (Z.1 + (wrap64 (Int.tdiv a1.1 8)))) (wrap64 (a6.1 - (wrap64 (Int.tdiv J.1 8)))) 0)) else (spec_l1Cur_clue.j0 k true Y J.2.1 J.2.2 (wrap64 (Z.1 + (wrap64 (Int.tdiv a1.1 8)))) (wrap64 (a6.1 - (wrap64 (Int.tdiv J.1 8)))) 0)))))
set_option maxHeartbeats 8000000 in
set_option maxRecDepth 100000 in
theorem spec_l1Cur_clue.calls (k:Nat) (g:Nat) (a7:List Int) (aj:Int) (ak:Int) (r1:Int) (r2:Int) (r3:Int) (r4:Int) (r5:Int) (w0 w:World) (hI:IsS80 w0 w g a7 aj ak) (hB:Below w0.heap.size w0 w) (h:spec_l1Cur_clue.f k a7 aj ak=some (r1,r2,r3,r4,r5)) :
    Calls Tryz.prog 91 #[.pointer (some ⟨g,0,none⟩)] w fun e w'=>e = .returned (.agg #[.int .i64 r1, .int .i64 r2, .int .i64 r3])∧IsS80 w0 w' g a7 r4 r5∧Below w0.heap.size w0 w'∧KeepBut w w' g none:=by
  have cx:=Tryz.underlying48;have HI0:=amk hI;have HK:=amk (KeepBut.refl w g none);have HL:=amk hB.size;clear hI;have bf:=amk hB.size;have HB:=amk hB;clear hB;unfold spec_l1Cur_clue.f at h;have H:=h;clear h;replace H:=bE H;obtain ⟨⟨aa,aW,aX⟩,A2,H⟩:=H;(try dsimp only at H);replace H:=bE H;obtain ⟨⟨ab,aY,aZ⟩,A3,H⟩:=H;(try dsimp only at H);replace H:=bE H;obtain ⟨⟨ah,b3,b4⟩,A4,H⟩:=H;(try dsimp only at H);replace H:=bE H;obtain ⟨⟨ai,al,am⟩,A5,H⟩:=H;(try dsimp only at H);have bc:=amk H;clear H;go_enter Tryz.func91,Tryz.ntmps91
  go_upto_region 2 with (first | ((with_reducible refine gate_dst (N:=2) rfl ?_);refine boxG_ 2 #[.int .i64 0, .int .i64 0, .int .i64 0] 48 ?_;intro ap w7 hg J hb;replace HB:=hBI HB hb;have bd:=kS HK hg;have bR:=kE bf bd;replace HK:=kT HK hb;have an:=iL a7 aj ak hg;have Y:=iR a7 aj ak hg;replace HI0:=amk (IsS80.below bI hb);clear hb hg) | ((with_reducible refine gate_callee (f:=87) rfl ?_);refine goesL_ (some 5) rfl rfl Tryz.func87 (by kernel_rfl) rfl #[.pointer (some ⟨g,0,none⟩), .int .i64 5] rfl gL_ ?_;(with_reducible refine (spec_l1Cur_pick.calls g a7 aj ak 5 aa aW aX w0 _ ?_ ?_ A2.out).mono ?_);exact bI;exact bBI;rintro e w8 ⟨rfl,hi,hb,hk⟩;refine ⟨_,rfl,?_⟩;replace J:=kQ J hk Y.out;replace HK:=kT2 HK hk;replace HB:=amk (hb);replace HI0:=amk (hi);(try clear hb);(try clear hk);(try clear hi)) | ((with_reducible refine gate_callee (f:=87) rfl ?_);refine goesL_ (some 7) rfl rfl Tryz.func87 (by kernel_rfl) rfl #[.pointer (some ⟨g,0,none⟩), .int .i64 9] rfl gL_ ?_;(with_reducible refine (spec_l1Cur_pick.calls g a7 aW aX 9 ab aY aZ w0 _ ?_ ?_ A3.out).mono ?_);exact bI;exact bBI;rintro e w9 ⟨rfl,hi,hb,hk⟩;refine ⟨_,rfl,?_⟩;replace J:=kQ J hk Y.out;replace HK:=kT2 HK hk;replace HB:=amk (hb);replace HI0:=amk (hi);(try clear hb);(try clear hk);(try clear hi)) | ((with_reducible refine gate_callee (f:=87) rfl ?_);refine goesL_ (some 11) rfl rfl Tryz.func87 (by kernel_rfl) rfl #[.pointer (some ⟨g,0,none⟩), .int .i64 6] rfl gL_ ?_;(with_reducible refine (spec_l1Cur_pick.calls g a7 aY aZ 6 ah b3 b4 w0 _ ?_ ?_ A4.out).mono ?_);exact bI;exact bBI;rintro e cy ⟨rfl,hi,hb,hk⟩;refine ⟨_,rfl,?_⟩;replace J:=kQ J hk Y.out;replace HK:=kT2 HK hk;replace HB:=amk (hb);replace HI0:=amk (hi);(try clear hb);(try clear hk);(try clear hi)) | ((with_reducible refine gate_callee (f:=87) rfl ?_);refine goesL_ (some 13) rfl rfl Tryz.func87 (by kernel_rfl) rfl #[.pointer (some ⟨g,0,none⟩), .int .i64 9] rfl gL_ ?_;(with_reducible refine (spec_l1Cur_pick.calls g a7 b3 b4 9 ai al am w0 _ ?_ ?_ A5.out).mono ?_);exact bI;exact bBI;rintro e cz ⟨rfl,hi,hb,hk⟩;refine ⟨_,rfl,?_⟩;replace J:=kQ J hk Y.out;replace HK:=kT2 HK hk;replace HB:=amk (hb);replace HI0:=amk (hi);(try clear hb);(try clear hk);(try clear hi)) | ((with_reducible refine gate_dst (N:=3) rfl ?_);refine boxG_ 3 #[.int .i64 0, .int .i64 0, .int .i64 0] 48 ?_;intro au cA hg Z hb;replace HB:=hBI HB hb;have be:=kS HK hg;have bS:=kE bf be;replace HK:=kT HK hb;have a1:=neL J hg;have a8:=neR J hg;replace J:=kb2 J hb;have ac:=iL a7 al am hg;have a6:=iR a7 al am hg;replace HI0:=amk (IsS80.below bI hb);clear hb hg;have bT:=a8.out;have bU:=a1.out;have bV:=a6.out;have bW:=ac.out;obtain ⟨av,ax,ay,az,aA,aC⟩:=cells3 Z.out))
  (try simp only [Act.put,List.setIfInBounds_toArray,List.set_cons_zero,List.set_cons_succ])
  go_cut [23] (fun v23 wc=> ∃ (kq:Nat) (ar:Bool) (ae:Int) (af:Int),v23 = .bool ar∧Aside0 (spec_l1Cur_clue.j0 kq ar a7 ae af (wrap64 (aa + (wrap64 (Int.tdiv ab 8)))) (wrap64 (ah - (wrap64 (Int.tdiv ai 8)))) 0=some (r1,r2,r3,r4,r5))∧Aside0 (kq≤k)∧Aside0 (wc.heap[ap]?=some (.cells #[.int .i64 0, .int .i64 0, .int .i64 0] 48 (0,0)))∧Aside0 (wc.heap[au]?=some (.cells #[.int .i64 (wrap64 (aa + (wrap64 (Int.tdiv ab 8)))), .int .i64 (wrap64 (ah - (wrap64 (Int.tdiv ai 8)))), .int .i64 0] 48 (0,0)))∧Aside0 (IsS80 w0 wc g a7 ae af)∧Aside0 (KeepBut w wc g none)∧Aside0 (Below w0.heap.size w0 wc))
  case first =>
    have H:=bc.out;clear bc
    by_cases c16:(wrap64 (aa + (wrap64 (Int.tdiv ab 8))))=1
    · rw [if_pos c16] at H;have ag:((wrap64 (aa + (wrap64 (Int.tdiv ab 8)))) == 1)=true:=beq_iff_eq.mpr c16;have aD:((wrap64 (aa + (wrap64 (Int.tdiv ab 8)))) != 1)=false:=bne_eq_false_iff_eq.mpr c16;clear c16;(first | rw [ag] | (simp only [i64_w,i32_w];rw [ag]) | skip);replace H:=bE H;obtain ⟨⟨b5,b6,b7⟩,bX,H⟩:=H;(try dsimp only at H);have H':=amk H;clear H;have bY:=a8.out;have bZ:=a1.out;have c6:=a6.out;have c7:=ac.out;obtain ⟨aE,aG,aH,aI,aJ,aK⟩:=cells3 Z.out;go_wp2_with (first | (go_at_call 60;(with_reducible refine (spec_l1Cur_one.calls g a7 al am 8 b5 b6 b7 w0 _ ?_ ?_ bX.out).mono ?_);exact bI;exact bBI;rintro e cC ⟨rfl,hi,hb,hk⟩;replace J:=kQ J hk Y.out;replace Z:=amk (KeepBut.blk hk (g':=au) (o:= .cells #[.int .i64 (wrap64 (aa + (wrap64 (Int.tdiv ab 8)))), .int .i64 (wrap64 (ah - (wrap64 (Int.tdiv ai 8)))), .int .i64 0] 48 (0,0)) (kP Z) a6.out (by simp));replace HK:=kT2 HK hk;replace HB:=amk (hb);replace HI0:=amk (hi);(try clear hb);(try clear hk);(try clear hi)));go_meet
      case rel=>exact ⟨_,(b5),(b6),(b7),rS_,H',⟨by first | omega | exact Nat.le_refl _⟩,⟨kB J⟩,⟨kB Z⟩,⟨bI⟩,⟨bK⟩,⟨bBI⟩⟩
    · rw [if_neg c16] at H;have ag:((wrap64 (aa + (wrap64 (Int.tdiv ab 8)))) == 1)=false:=beq_eq_false_iff_ne.mpr c16;have aD:((wrap64 (aa + (wrap64 (Int.tdiv ab 8)))) != 1)=true:=bne_iff_ne.mpr c16;(first | rw [ag] | (simp only [i64_w,i32_w];rw [ag]) | skip);have H':=amk H;clear H;have ca:=a8.out;have cb:=a1.out;have cd:=a6.out;have ce:=ac.out;obtain ⟨aM,aN,aQ,aT,aU,aV⟩:=cells3 Z.out;go_wp2;go_meet
      case rel=>exact ⟨_,(true),(al),(am),rS_,H',⟨by first | omega | exact Nat.le_refl _⟩,⟨kB J⟩,⟨kP Z⟩,⟨bI⟩,⟨bK⟩,⟨bBI⟩⟩
  case rest =>
    clear bc;(try clear c1);(try clear c2);(try clear p2);(try clear p6);(try clear c8);(try clear c9);(try clear c13);(try clear c14);(try clear c16);(try clear ag);(try clear aD);(try clear c18);(try clear c19);(try clear c22);(try clear c23);(try clear av);(try clear ax);(try clear ay);(try clear aE);(try clear aG);(try clear aH);(try clear aM);(try clear aN);(try clear aQ);(try clear az);(try clear aA);(try clear aC);(try clear aI);(try clear aJ);(try clear aK);(try clear aT);(try clear aU);(try clear aV);obtain ⟨kq,ar,ae,af,rfl,HA,cE,J,Z,HI0,HK,HB⟩:=hcut
    cases kq with
    | zero=>exact absurd HA.out (by simp [spec_l1Cur_clue.j0])
    | succ cF =>
      have H:=HA.out;clear HA;simp only [spec_l1Cur_clue.j0] at H;replace H:=iteB H;obtain ⟨rfl,H⟩ | ⟨rfl,H⟩:=H
      · replace H:=bE H;obtain ⟨⟨b8,b9,ba⟩,cf,H⟩:=H;(try dsimp only at H);replace H:=bE H;obtain ⟨⟨bb,bg,bh⟩,cg,H⟩:=H;(try dsimp only at H);simp only [Option.some.injEq,Prod.mk.injEq] at H;obtain ⟨rfl,rfl,rfl,rfl,rfl⟩:=H;go_wp2_with (first | ((with_reducible refine gate_callee (f:=87) rfl ?_);refine goesL_ (some 25) rfl rfl Tryz.func87 (by kernel_rfl) rfl #[.pointer (some ⟨g,0,none⟩), .int .i64 4] rfl gL_ ?_;(with_reducible refine (spec_l1Cur_pick.calls g a7 ae af 4 b8 b9 ba w0 _ ?_ ?_ cf.out).mono ?_);exact bI;exact bBI;rintro e cG ⟨rfl,hi,hb,hk⟩;refine ⟨_,rfl,?_⟩;replace J:=kQ J hk Y.out;replace Z:=kQ Z hk a6.out;replace HK:=kT2 HK hk;replace HB:=amk (hb);replace HI0:=amk (hi);(try clear hb);(try clear hk);(try clear hi)) | ((with_reducible refine gate_callee (f:=87) rfl ?_);refine goesL_ (some 27) rfl rfl Tryz.func87 (by kernel_rfl) rfl #[.pointer (some ⟨g,0,none⟩), .int .i64 9] rfl gL_ ?_;(with_reducible refine (spec_l1Cur_pick.calls g a7 b9 ba 9 bb bg bh w0 _ ?_ ?_ cg.out).mono ?_);exact bI;exact bBI;rintro e cH ⟨rfl,hi,hb,hk⟩;refine ⟨_,rfl,?_⟩;replace J:=kQ J hk Y.out;replace Z:=kQ Z hk a6.out;replace HK:=kT2 HK hk;replace HB:=amk (hb);replace HI0:=amk (hi);(try clear hb);(try clear hk);(try clear hi);have ci:=a8.out;have cj:=a1.out;have ck:=a6.out;have cm:=ac.out;obtain ⟨bi,bj,bk,bl,bm,bn⟩:=cells3 Z.out;have cn:=Y.out;have co:=an.out;obtain ⟨bo,bp,bq,br,bu,bv⟩:=cells3 J.out));refine bodyPost_ret (results_cell_row rfl _ _ ap 48 #[.int .i64 (wrap64 (aa + (wrap64 (Int.tdiv ab 8)))), .int .i64 (wrap64 (ah - (wrap64 (Int.tdiv ai 8)))), .int .i64 (wrap64 (b8 - (wrap64 (Int.tdiv bb 8))))] (0,0) _ rfl (by (with_reducible repeat (first | refine kn_ ?_ _ | refine blk_drew ?_ | refine ka_ ?_ _));refine blk_put (cs:= #[.int .i64 (wrap64 (aa + (wrap64 (Int.tdiv ab 8)))), .int .i64 (wrap64 (ah - (wrap64 (Int.tdiv ai 8)))), .int .i64 0]) ?_ 2 _ rfl;(with_reducible repeat (first | refine kn_ ?_ _ | refine blk_drew ?_ | refine ka_ ?_ _));refine blk_put (cs:= #[.int .i64 (wrap64 (aa + (wrap64 (Int.tdiv ab 8)))), .int .i64 0, .int .i64 0]) ?_ 1 _ rfl;(with_reducible repeat (first | refine kn_ ?_ _ | refine blk_drew ?_ | refine ka_ ?_ _));refine blk_put (cs:= #[.int .i64 0, .int .i64 0, .int .i64 0]) ?_ 0 _ rfl;(with_reducible repeat (first | refine kn_ ?_ _ | refine blk_drew ?_ | refine ka_ ?_ _));refine blk_far ?_ a1.out _;(with_reducible repeat (first | refine kn_ ?_ _ | refine blk_drew ?_ | refine ka_ ?_ _));exact J.out) Tryz.underlying48 rfl (by kernel_rfl)) rfl ?_;exact ⟨rF_,bI,bBI,bK⟩
      · simp only [Option.some.injEq,Prod.mk.injEq] at H;obtain ⟨rfl,rfl,rfl,rfl,rfl⟩:=H;have cp:=a8.out;have cq:=a1.out;have cr:=a6.out;have cu:=ac.out;obtain ⟨bw,bz,bC,bD,bF,bH⟩:=cells3 Z.out;have cv:=Y.out;have cw:=an.out;obtain ⟨bJ,bL,bM,bN,bO,bQ⟩:=cells3 J.out;go_wp2;refine bodyPost_ret (results_cell_row rfl _ _ ap 48 #[.int .i64 (wrap64 (aa + (wrap64 (Int.tdiv ab 8)))), .int .i64 (wrap64 (ah - (wrap64 (Int.tdiv ai 8)))), .int .i64 0] (0,0) _ rfl (kP J) Tryz.underlying48 rfl (by kernel_rfl)) rfl ?_;exact ⟨rF_,bI,bBI,bK⟩
/-! (*l1Cur).sureLock, by hand: one of eight locks. -/
def lockSr (x:Int):Int×Int:=[((1:Int),(10:Int)),(2,5),(3,3),(2,10),(4,2),(3,4),(1,2),(5,2)].getD x.toNat (0,0)
def spec_l1Cur_sureLock.f (J:List Int) (Y:Int) (Z:Int):Option (Int×Int×Int×Int):=(spec_l1Cur_pick.f J Y Z 8).bind fun p=>if 0≤p.1∧p.1 < 8 then some ((lockSr p.1).1,(lockSr p.1).2,p.2.1,p.2.2) else none
theorem idxLock (x:Int) (hx:0≤x∧x < 8) (w:World):(Instr.index 145 (.agg #[.int .i64 1, .int .i64 10, .int .i64 2, .int .i64 5, .int .i64 3, .int .i64 3, .int .i64 2, .int .i64 10, .int .i64 4, .int .i64 2, .int .i64 3, .int .i64 4, .int .i64 1, .int .i64 2, .int .i64 5, .int .i64 2]) (.int .i64 x)).run Tryz.prog w = .ok (.agg #[.int .i64 (lockSr x).1, .int .i64 (lockSr x).2]) w:=by
  have hu:=Tryz.underlying25
  have J:=Tryz.underlying145
  have hc:x=0∨x=1∨x=2∨x=3∨x=4∨x=5∨x=6∨x=7:=by omega
  rcases hc with rfl | rfl | rfl | rfl | rfl | rfl | rfl | rfl <;> simp [Instr.index,run_underlying J,asIntOf,go_sem,lockSr]
set_option maxHeartbeats 8000000 in
set_option maxRecDepth 100000 in
theorem spec_l1Cur_sureLock.walk (g:Nat) (s:List Int) (a b x a2 b2 n m:Int) (w0 w:World) (hI:IsS80 w0 w g s a b) (hB:Below w0.heap.size w0 w) (hp:spec_l1Cur_pick.f s a b 8=some (x,a2,b2)) (hx:0≤x∧x < 8) (hn:lockSr x=(n,m)) :
    Calls Tryz.prog 116 #[.pointer (some ⟨g,0,none⟩)] w fun e w'=>e = .returned (.agg #[.int .i64 n, .int .i64 m])∧IsS80 w0 w' g s a2 b2∧Below w0.heap.size w0 w'∧KeepBut w w' g none:=by
  have hu:=Tryz.underlying25
  have Y:=Tryz.underlying145
  have HI:=amk (hI.alloc (.cells #[.int .i64 0, .int .i64 0] 25 (0,0)))
  have HB:=amk (hB.alloc hB.size (.cells #[.int .i64 0, .int .i64 0] 25 (0,0)))
  have HK:=amk (KeepBut.of_below ((Below.refl _ w).alloc (Nat.le_refl _) (.cells #[.int .i64 0, .int .i64 0] 25 (0,0))) g none)
  have HZ:=amk (blk_new w (.cells #[.int .i64 0, .int .i64 0] 25 (0,0)))
  have HN:=amk (show w.heap.size≠g from Nat.ne_of_gt hI.lt)
  have HS:=amk hB.size
  have HP:=amk hp
  obtain ⟨rfl,rfl⟩:(lockSr x).1=n∧(lockSr x).2=m:=by rw [hn];exact ⟨rfl,rfl⟩
  have hix:=idxLock x hx
  clear hI hB hp hx hn Y
  go_enter Tryz.func116,Tryz.ntmps116
  go_wp2_with (go_at_call 87;refine Calls.mono (spec_l1Cur_pick.calls g s a b 8 _ a2 b2 w0 _ HI.out HB.out HP.out) ?_;rintro e wx ⟨rfl,hi,hb,hk⟩;have J:=amk ((hk.2 _ (blk_lt HZ.out) HN.out (by simp)).trans HZ.out);have Z:=amk hi;have a1:=amk hb;have a6:=amk (KeepBut.trans HK.out hk (.inl rfl));clear hi hb hk HI HB HK HZ;obtain ⟨z0,z1,z2,z3,_⟩:=two_cells J.out)
  (try simp only [Exit.inBlock,Exit.then])
  refine bodyPost_ret (results_cell_row rfl _ _ w.heap.size 25 #[_,_] (0,0) _ rfl (two_set J.out _ _) Tryz.underlying25 rfl (by kernel_rfl)) rfl ?_
  exact ⟨rfl,IsS80.far (IsS80.far Z.out HN.out.symm _) HN.out.symm _,bs_ (bs_ a1.out HS.out) HS.out,keep_far (keep_far a6.out (Nat.le_refl _) _) (Nat.le_refl _) _⟩
theorem spec_l1Cur_sureLock.calls (g:Nat) (J:List Int) (Y:Int) (Z:Int) (r1:Int) (r2:Int) (r3:Int) (r4:Int) (w0 w:World) (hI:IsS80 w0 w g J Y Z) (hB:Below w0.heap.size w0 w) (h:spec_l1Cur_sureLock.f J Y Z=some (r1,r2,r3,r4)) :
    Calls Tryz.prog 116 #[.pointer (some ⟨g,0,none⟩)] w fun e w'=>e = .returned (.agg #[.int .i64 r1, .int .i64 r2])∧IsS80 w0 w' g J r3 r4∧Below w0.heap.size w0 w'∧KeepBut w w' g none:=by
  obtain ⟨⟨x,a2,b2⟩,hp,h2⟩:=Option.bind_eq_some_iff.mp h
  by_cases hx:0≤x∧x < 8
  · have h3:some ((lockSr x).1,(lockSr x).2,a2,b2)=some (r1,r2,r3,r4):=by rw [←h2];exact (if_pos hx).symm
    simp only [Option.some.injEq,Prod.mk.injEq] at h3
    obtain ⟨rfl,rfl,rfl,rfl⟩:=h3
    exact spec_l1Cur_sureLock.walk g J Y Z x _ _ _ _ w0 w hI hB hp hx rfl
  · have h3:(none:Option (Int×Int×Int×Int))=some (r1,r2,r3,r4):=by rw [←h2];exact (if_neg hx).symm
    exact absurd h3 (by simp)
/-! ### spec_l1Cur_hidden: function 85 -/
def spec_l1Cur_hidden.f (k:Nat) (Z:List Int) (a1:Int) (a6:Int):Option (Int×Int×ByteArray×Int×Int):=(spec_l1Cur_sureLock.f Z a1 a6).bind fun J=>((spec_whCount.f k J.1 J.2.1).bind fun a7=>((spec_l1Cur_pick.f Z J.2.2.1 J.2.2.2 a7).bind fun Y=>((spec_whOf.f k J.1 J.2.1 Y.1).bind fun a8=>(some (J.1,J.2.1,a8,Y.2.1,Y.2.2)))))
def spec_l1Cur_hidden.T2:Bool×List (List Nat×List Nat):=(true,[([],[]),([],[]),([],[]),([],[]),([3],[3]),([2,4,4],[2,4]),([1,5,5],[1,5]),([0,6,0],[0]),([6,7,0,1,2,3,4,5,6,7],[6])])
def spec_l1Cur_hidden.B2:List Nat:=[0,0,0,0,8,28,62,127,255]
theorem spec_l1Cur_hidden.tab2:rtab .any (opsOf Tryz.f85 2)=spec_l1Cur_hidden.T2:=by kernel_rfl
theorem spec_l1Cur_hidden.bits2:waitsOk spec_l1Cur_hidden.T2.2 spec_l1Cur_hidden.B2=true:=by kernel_rfl
set_option maxHeartbeats 8000000 in
set_option maxRecDepth 100000 in
theorem spec_l1Cur_hidden.calls (k:Nat) (g:Nat) (aa:List Int) (ac:Int) (ae:Int) (r1:Int) (r2:Int) (r3:ByteArray) (r4:Int) (r5:Int) (w0 w:World) (hI:IsS80 w0 w g aa ac ae) (hB:Below w0.heap.size w0 w) (h:spec_l1Cur_hidden.f k aa ac ae=some (r1,r2,r3,r4,r5)) :
    Calls Tryz.prog 85 #[.pointer (some ⟨g,0,none⟩)] w fun e w'=>e = .returned (.tuple #[.agg #[.int .i64 r1, .int .i64 r2], .string r3])∧IsS80 w0 w' g aa r4 r5∧Below w0.heap.size w0 w'∧KeepBut w w' g none:=by
  have aV:=Tryz.underlying25;have HI0:=amk hI;have HK:=amk (KeepBut.refl w g none);have HL:=amk hB.size;clear hI;have ap:=amk hB.size;have HB:=amk hB;clear hB;unfold spec_l1Cur_hidden.f at h;have H:=h;clear h;replace H:=bE H;obtain ⟨⟨a6,a7,af,ag⟩,A2,H⟩:=H;(try dsimp only at H);replace H:=bE H;obtain ⟨aj,A3,H⟩:=H;replace H:=bE H;obtain ⟨⟨ak,ar,au⟩,A4,H⟩:=H;(try dsimp only at H);replace H:=bE H;obtain ⟨av,A5,H⟩:=H;simp only [Option.some.injEq,Prod.mk.injEq] at H;obtain ⟨rfl,rfl,rfl,rfl,rfl⟩:=H;go_enter Tryz.func85,Tryz.ntmps85;(try go_wp2_with (first | ((with_reducible refine gate_dst (N:=2) rfl ?_);refine boxG_ 2 #[.int .i64 0, .int .i64 0] 25 ?_;intro a8 w6 hg J hb;replace HB:=hBI HB hb;have am:=kS HK hg;have aJ:=kE ap am;replace HK:=kT HK hb;have ax:=iL aa ac ae hg;have ah:=iR aa ac ae hg;replace HI0:=amk (IsS80.below bI hb);clear hb hg) | ((with_reducible refine gate_callee (f:=116) rfl ?_);refine goesL_ (some 6) rfl rfl Tryz.func116 (by kernel_rfl) rfl #[.pointer (some ⟨g,0,none⟩)] rfl gL_ ?_;(with_reducible refine (spec_l1Cur_sureLock.calls g aa ac ae a6 a7 af ag w0 _ ?_ ?_ A2.out).mono ?_);exact bI;exact bBI;rintro e w7 ⟨rfl,hi,hb,hk⟩;refine ⟨_,rfl,?_⟩;replace J:=kQ J hk ah.out;replace HK:=kT2 HK hk;replace HB:=amk (hb);replace HI0:=amk (hi);(try clear hb);(try clear hk);(try clear hi)) | ((with_reducible refine gate_dst (N:=4) rfl ?_);refine boxG_ 4 #[.int .i64 0, .int .i64 0] 25 ?_;intro Y w8 hg a1 hb;replace HB:=hBI HB hb;have an:=kS HK hg;have aK:=kE ap an;replace HK:=kT HK hb;have ab:=neL J hg;have Z:=neR J hg;replace J:=kb2 J hb;have al:=iL aa af ag hg;have ai:=iR aa af ag hg;replace HI0:=amk (IsS80.below bI hb);clear hb hg;have aW:=Z.out;have aX:=ab.out;have aM:=ai.out;have aN:=al.out;obtain ⟨ay,az,aA,aC⟩:=cells2 a1.out)));have n0_:Aside0 (((w8.setCell ⟨Y,0,none⟩ (.int .i64 a6)).setCell ⟨Y,1,none⟩ (.int .i64 a7)).heap[a8]?=some (.cells #[.int .i64 0, .int .i64 0] 25 (0,0))):=⟨kB J⟩;have n1_:Aside0 (((w8.setCell ⟨Y,0,none⟩ (.int .i64 a6)).setCell ⟨Y,1,none⟩ (.int .i64 a7)).heap[Y]?=some (.cells #[.int .i64 a6, .int .i64 a7] 25 (0,0))):=⟨kP a1⟩;have n2_:Aside0 (IsS80 w0 ((w8.setCell ⟨Y,0,none⟩ (.int .i64 a6)).setCell ⟨Y,1,none⟩ (.int .i64 a7)) g aa af ag):=⟨bI⟩;have n3_:Aside0 (KeepBut w ((w8.setCell ⟨Y,0,none⟩ (.int .i64 a6)).setCell ⟨Y,1,none⟩ (.int .i64 a7)) g none):=⟨bK⟩;have n4_:Aside0 (Below w0.heap.size w0 ((w8.setCell ⟨Y,0,none⟩ (.int .i64 a6)).setCell ⟨Y,1,none⟩ (.int .i64 a7))):=⟨bBI⟩;generalize ((w8.setCell ⟨Y,0,none⟩ (.int .i64 a6)).setCell ⟨Y,1,none⟩ (.int .i64 a7))=aQ at n0_ n1_ n2_ n3_ n4_ ⊢;have J:=n0_;have a1:=n1_;have HI0:=n2_;have HK:=n3_;have HB:=n4_;clear n0_ n1_ n2_ n3_ n4_;replace J:=amk (blk_drew J.out);replace a1:=amk (blk_drew a1.out);replace HI0:=amk (IsS80.drew HI0.out);replace HK:=amk (keep_drew HK.out);replace HB:=amk (bd_ HB.out);refine start_ (n:=9) (S:=fun w'=>w'.cell? ⟨Y,0,none⟩=some (.int .i64 a6)∧w'.cell? ⟨Y,1,none⟩=some (.int .i64 a7)) (ds:=[]) (bA 9 0) (by kernel_rfl) rfl rfl ⟨(blk_cell a1.out 0).trans rfl,(blk_cell a1.out 1).trans rfl⟩ (fun hHeld=>?_);refine with_tabW spec_l1Cur_hidden.tab2 spec_l1Cur_hidden.bits2 (fun HT_ HW_=>?_);generalize aQ.drew=b3 at J a1 HI0 HK HB hHeld ⊢;refine pU_ HT_ 2 (some 9) (bA 9 4) ?_;refine tK_ HT_ HW_ hHeld 0 (some 7) (bA 9 5) ?_;refine tK_ HT_ HW_ hHeld 1 (some 8) (bA 9 7) ?_;refine tK_ HT_ HW_ hHeld 3 (some 10) (bA 9 15) ?_;refine oN_ HT_ 4 (some 11) (bA 9 31) (fun K hK=>?_);refine goes_ Tryz.func95 (by kernel_rfl) rfl #[.agg #[.int .i64 a6, .int .i64 a7]] (by rfl) rfl rfl gL_ ?_;(with_reducible refine (spec_whCount.calls k a6 a7 aj _ A3.out).mono ?_);rintro e b4 ⟨rfl,hb⟩;refine ⟨_,rfl,?_⟩;replace J:=kb2 J hb;replace a1:=kb2 a1 hb;replace HK:=kT HK hb;replace HB:=hBI HB hb;replace HI0:=amk (IsS80.below bI hb);(try clear hb);(try clear hk);(try clear hi);refine hK.out _ _ hC_ (fun hHeld=>?_);clear hK K;refine nN_ (some 11) ?_;refine oN_ HT_ 5 (some 12) (bA 9 63) (fun K hK=>?_);refine goes_ Tryz.func87 (by kernel_rfl) rfl #[.pointer (some ⟨g,0,none⟩), .int .i64 aj] (by rfl) rfl rfl gL_ ?_;(with_reducible refine (spec_l1Cur_pick.calls g aa af ag aj ak ar au w0 _ ?_ ?_ A4.out).mono ?_);exact bI;exact bBI;rintro e b5 ⟨rfl,hi,hb,hk⟩;refine ⟨_,rfl,?_⟩;replace J:=kQ J hk ah.out;replace a1:=kQ a1 hk ai.out;replace HK:=kT2 HK hk;replace HB:=amk (hb);replace HI0:=amk (hi);(try clear hb);(try clear hk);(try clear hi);refine hK.out _ _ hC_ (fun hHeld=>?_);clear hK K;refine nN_ (some 12) ?_;refine oN_ HT_ 6 (some 13) (bA 9 127) (fun K hK=>?_);refine goes_ Tryz.func96 (by kernel_rfl) rfl #[.agg #[.int .i64 a6, .int .i64 a7], .int .i64 ak] (by rfl) rfl rfl gL_ ?_;(with_reducible refine (spec_whOf.calls k a6 a7 ak av _ A5.out).mono ?_);rintro e aD ⟨rfl,hb⟩;refine ⟨_,rfl,?_⟩;replace J:=kb2 J hb;replace a1:=kb2 a1 hb;replace HK:=kT HK hb;replace HB:=hBI HB hb;replace HI0:=amk (IsS80.below bI hb);(try clear hb);(try clear hk);(try clear hi);refine hK.out _ _ hC_ (fun hHeld=>?_);clear hK K;refine nN_ (some 13) ?_;refine oN_ HT_ 7 none (bA 9 255) (fun K hK=>?_);have aY:aD.cell? ⟨a8,0,none⟩=some (.int .i64 0):=(blk_cell J.out 0).trans rfl;have aT:=blk_frozen J.out 0;have aE:=Z.out;have aG:=ab.out;have aZ:aD.cell? ⟨a8,1,none⟩=some (.int .i64 0):=(blk_cell J.out 1).trans rfl;have aU:=blk_frozen J.out 1;have aH:=Z.out;have aI:=ab.out;refine skip_ (w1:=?_) (by rfl) rfl ?_ ?_;rotate_left
  · go_simp
    rfl
  refine hK.out _ _ ⟨((cell_far (p:=⟨a8,_,none⟩) Z.out _).trans (((cell_far (p:=⟨a8,_,none⟩) Z.out _).trans (hHeld.1)))),((cell_far (p:=⟨a8,_,none⟩) Z.out _).trans (((cell_far (p:=⟨a8,_,none⟩) Z.out _).trans (hHeld.2))))⟩ (fun hHeld=>?_);clear hK K;refine pU_ HT_ 8 (some 3) (bA 9 511) ?_;refine done_ (done_of HT_.out (by kernel_rfl)) ?_;(try go_wp2);refine bodyPost_ret (results_ct rfl _ _ a8 25 #[.int .i64 a6, .int .i64 a7] (0,0) _ rfl (kP J) Tryz.underlying25 rfl (by kernel_rfl)) rfl ?_;exact ⟨rF_,bI,bBI,bK⟩
/-! ### spec_l1Cur_lock: function 90 -/
def spec_l1Cur_lock.f (a6:List Int) (a7:Int) (a8:Int):Option (Int×Int×Int×Int):=(spec_l1Cur_one.f a6 a7 a8 14).bind fun J=>(if J.1=true then ((spec_l1Cur_among.f a6 J.2.1 J.2.2 (([0,(-1),1,6,7,4611686018427387904]:List Int))).bind fun Z=>((spec_l1Cur_among.f a6 Z.2.1 Z.2.2 (([1,2,3,10,11,(-1)]:List Int))).bind fun a1=>(some (Z.1,a1.1,a1.2.1,a1.2.2)))) else ((spec_l1Cur_sureLock.f a6 J.2.1 J.2.2).bind fun Y=>(some (Y.1,Y.2.1,Y.2.2.1,Y.2.2.2))))
set_option maxHeartbeats 8000000 in
set_option maxRecDepth 100000 in
theorem spec_l1Cur_lock.calls (g:Nat) (Z:List Int) (a7:Int) (a8:Int) (r1:Int) (r2:Int) (r3:Int) (r4:Int) (w0 w:World) (hI:IsS80 w0 w g Z a7 a8) (hB:Below w0.heap.size w0 w) (h:spec_l1Cur_lock.f Z a7 a8=some (r1,r2,r3,r4)) :
    Calls Tryz.prog 90 #[.pointer (some ⟨g,0,none⟩)] w fun e w'=>e = .returned (.agg #[.int .i64 r1, .int .i64 r2])∧IsS80 w0 w' g Z r3 r4∧Below w0.heap.size w0 w'∧KeepBut w w' g none:=by
  have b8:=Tryz.underlying25;have HI0:=amk hI;have HK:=amk (KeepBut.refl w g none);have HL:=amk hB.size;clear hI;have aA:=amk hB.size;have HB:=amk hB;clear hB;unfold spec_l1Cur_lock.f at h;have H:=h;clear h;replace H:=bE H;obtain ⟨⟨b9,ac,ae⟩,A2,H⟩:=H;(try dsimp only at H);replace H:=iteB H;obtain ⟨rfl,H⟩ | ⟨rfl,H⟩:=H
  · (try rw [Option.bind_some] at H);generalize aj:(([0,(-1),1,6,7,4611686018427387904]:List Int))=ap at H;have ak:=amk aj.symm;clear aj;replace H:=bE H;obtain ⟨⟨ar,ah,ai⟩,A4,H⟩:=H;(try dsimp only at H);(try rw [Option.bind_some] at H);generalize al:(([1,2,3,10,11,(-1)]:List Int))=au at H;have am:=amk al.symm;clear al;replace H:=bE H;obtain ⟨⟨av,aC,aD⟩,A5,H⟩:=H;(try dsimp only at H);simp only [Option.some.injEq,Prod.mk.injEq] at H;obtain ⟨rfl,rfl,rfl,rfl⟩:=H;go_enter Tryz.func90,Tryz.ntmps90;go_wp2_with (first | ((with_reducible refine gate_dst (N:=2) rfl ?_);refine boxG_ 2 #[.int .i64 0, .int .i64 0] 25 ?_;intro af w6 hg J hb;replace HB:=hBI HB hb;have ag:=kS HK hg;have az:=kE aA ag;replace HK:=kT HK hb;have aa:=iL Z a7 a8 hg;have Y:=iR Z a7 a8 hg;replace HI0:=amk (IsS80.below bI hb);clear hb hg) | ((with_reducible refine gate_callee (f:=60) rfl ?_);refine goesL_ (some 4) rfl rfl Tryz.func60 (by kernel_rfl) rfl #[.pointer (some ⟨g,0,none⟩), .int .i64 14] rfl gL_ ?_;(with_reducible refine (spec_l1Cur_one.calls g Z a7 a8 14 true ac ae w0 _ ?_ ?_ A2.out).mono ?_);exact bI;exact bBI;rintro e w7 ⟨rfl,hi,hb,hk⟩;refine ⟨_,rfl,?_⟩;replace J:=kQ J hk Y.out;replace HK:=kT2 HK hk;replace HB:=amk (hb);replace HI0:=amk (hi);(try clear hb);(try clear hk);(try clear hi)) | ((with_reducible refine gate_dst (N:=6) rfl ?_);refine Kd.R_lit (Kd.int .i64) _ 3 ?hg (N:=6) ?hd (xs:=([0,(-1),1,6,7,4611686018427387904]:List Int)) (inner:=[.int .i64 0, .int .i64 (-1), .int .i64 1, .int .i64 6, .int .i64 7, .int .i64 4611686018427387904]) (ok:=fun _=>True) (okp:=fun _=>True) ?hr ?hp (fun _ hk=>hk) trivial (Below.refl _ _) (Nat.le_refl _) (by simp) ?_;(case hd=>rfl);(case hg=>rfl);(case hr=>first | (go_simp;done) | (go_simp;rfl));(case hp=>exact (Reps.one (show Kd.M (Kd.int .i64) _ _ _ 0 [.int .i64 0] from rfl) (Reps.one (show Kd.M (Kd.int .i64) _ _ _ (-1) [.int .i64 (-1)] from rfl) (Reps.one (show Kd.M (Kd.int .i64) _ _ _ 1 [.int .i64 1] from rfl) (Reps.one (show Kd.M (Kd.int .i64) _ _ _ 6 [.int .i64 6] from rfl) (Reps.one (show Kd.M (Kd.int .i64) _ _ _ 7 [.int .i64 7] from rfl) (Reps.one (show Kd.M (Kd.int .i64) _ _ _ 4611686018427387904 [.int .i64 4611686018427387904] from rfl) (Reps.none _ _))))))));intro ba w8 an hb hg_ hnew_;clear hg_ hnew_;(first | rw [←ak.out] at an | (simp only [Int.reduceToNat] at an;rw [←ak.out] at an));have a1:=amk (Kd.R_lower an (keep_size (w:=w) (g:=g) (row:=none) bK));replace J:=kb2 J hb;replace HK:=kT HK hb;replace HB:=hBI HB hb;replace HI0:=amk (IsS80.below bI hb);clear hb an;obtain ⟨aE,aG,aH⟩:=Kd.R_slice a1.out;subst aH) | ((with_reducible refine gate_callee (f:=121) rfl ?_);refine goesL_ (some 7) rfl rfl Tryz.func121 (by kernel_rfl) rfl #[.pointer (some ⟨g,0,none⟩), .slice aE ap.length aG] rfl gL_ ?_;(with_reducible refine (spec_l1Cur_among.calls g Z ac ae _ _ ap ar ah ai w0 _ ?_ ?_ ?_ ?_ ?_ A4.out).mono ?_);exact bI;exact bBI;exact cB ((Kd.R_reads' a1.out).2.2);exact (Kd.R_reads' a1.out).2.1;exact far_slice (IsS80.own_ne HI0.out a1.out (by decide));rintro e bc ⟨rfl,hi,hb,hk⟩;refine ⟨_,rfl,?_⟩;replace J:=kQ J hk Y.out;replace a1:=amk (Kd.R_mono (Kd.R_keep (IsS80.apart (show IsS80 w0 _ g Z ac ae from bI) (oX a1) (by decide)) hk (fun _ h=>h.2)) (fun _ h=>h.1));replace HK:=kT2 HK hk;replace HB:=amk (hb);replace HI0:=amk (hi);(try clear hb);(try clear hk);(try clear hi)) | ((with_reducible refine gate_dst (N:=9) rfl ?_);refine Kd.R_lit (Kd.int .i64) _ 3 ?hg (N:=9) ?hd (xs:=([1,2,3,10,11,(-1)]:List Int)) (inner:=[.int .i64 1, .int .i64 2, .int .i64 3, .int .i64 10, .int .i64 11, .int .i64 (-1)]) (ok:=fun _=>True) (okp:=fun _=>True) ?hr ?hp (fun _ hk=>hk) trivial (Below.refl _ _) (Nat.le_refl _) (by simp) ?_;(case hd=>rfl);(case hg=>rfl);(case hr=>first | (go_simp;done) | (go_simp;rfl));(case hp=>exact (Reps.one (show Kd.M (Kd.int .i64) _ _ _ 1 [.int .i64 1] from rfl) (Reps.one (show Kd.M (Kd.int .i64) _ _ _ 2 [.int .i64 2] from rfl) (Reps.one (show Kd.M (Kd.int .i64) _ _ _ 3 [.int .i64 3] from rfl) (Reps.one (show Kd.M (Kd.int .i64) _ _ _ 10 [.int .i64 10] from rfl) (Reps.one (show Kd.M (Kd.int .i64) _ _ _ 11 [.int .i64 11] from rfl) (Reps.one (show Kd.M (Kd.int .i64) _ _ _ (-1) [.int .i64 (-1)] from rfl) (Reps.none _ _))))))));intro bb bd ab hb hg_ hnew_;clear hg_ hnew_;(first | rw [←am.out] at ab | (simp only [Int.reduceToNat] at ab;rw [←am.out] at ab));have a6:=amk (Kd.R_lower (Kd.R_new' ab (Kd.R_lt (oX a1))) (keep_size (w:=w) (g:=g) (row:=none) bK));replace a1:=amk (Kd.R_elder' (oX a1) (Kd.R_base ab) hb);replace J:=kb2 J hb;replace HK:=kT HK hb;replace HB:=hBI HB hb;replace HI0:=amk (IsS80.below bI hb);clear hb ab;obtain ⟨aI,aJ,aK⟩:=Kd.R_slice a6.out;subst aK) | ((with_reducible refine gate_callee (f:=121) rfl ?_);refine goesL_ (some 10) rfl rfl Tryz.func121 (by kernel_rfl) rfl #[.pointer (some ⟨g,0,none⟩), .slice aI au.length aJ] rfl gL_ ?_;(with_reducible refine (spec_l1Cur_among.calls g Z ah ai _ _ au av aC aD w0 _ ?_ ?_ ?_ ?_ ?_ A5.out).mono ?_);exact bI;exact bBI;exact cB ((Kd.R_reads' a6.out).2.2);exact (Kd.R_reads' a6.out).2.1;exact far_slice (IsS80.own_ne HI0.out a6.out (by decide));rintro e be ⟨rfl,hi,hb,hk⟩;refine ⟨_,rfl,?_⟩;replace J:=kQ J hk Y.out;replace a1:=amk (Kd.R_mono (Kd.R_keep (IsS80.apart (show IsS80 w0 _ g Z ah ai from bI) (oX a1) (by decide)) hk (fun _ h=>h.2)) (fun _ h=>h.1));replace a6:=amk (Kd.R_mono (Kd.R_keep (IsS80.apart (show IsS80 w0 _ g Z ah ai from bI) (oX a6) (by decide)) hk (fun _ h=>h.2)) (fun _ h=>h.1));replace HK:=kT2 HK hk;replace HB:=amk (hb);replace HI0:=amk (hi);(try clear hb);(try clear hk);(try clear hi);have b3:=Y.out;have b4:=aa.out;obtain ⟨aM,aN,aQ,aT⟩:=cells2 J.out));refine bodyPost_ret (results_cell_row rfl _ _ af 25 #[.int .i64 ar, .int .i64 av] (0,0) _ rfl (kP J) Tryz.underlying25 rfl (by kernel_rfl)) rfl ?_;exact ⟨rF_,bI,bBI,bK⟩
  · replace H:=bE H;obtain ⟨⟨ax,ay,aU,aV⟩,b5,H⟩:=H;(try dsimp only at H);simp only [Option.some.injEq,Prod.mk.injEq] at H;obtain ⟨rfl,rfl,rfl,rfl⟩:=H;go_enter Tryz.func90,Tryz.ntmps90;go_wp2_with (first | ((with_reducible refine gate_dst (N:=2) rfl ?_);refine boxG_ 2 #[.int .i64 0, .int .i64 0] 25 ?_;intro af bf hg J hb;replace HB:=hBI HB hb;have ag:=kS HK hg;have az:=kE aA ag;replace HK:=kT HK hb;have aa:=iL Z a7 a8 hg;have Y:=iR Z a7 a8 hg;replace HI0:=amk (IsS80.below bI hb);clear hb hg) | ((with_reducible refine gate_callee (f:=60) rfl ?_);refine goesL_ (some 4) rfl rfl Tryz.func60 (by kernel_rfl) rfl #[.pointer (some ⟨g,0,none⟩), .int .i64 14] rfl gL_ ?_;(with_reducible refine (spec_l1Cur_one.calls g Z a7 a8 14 false ac ae w0 _ ?_ ?_ A2.out).mono ?_);exact bI;exact bBI;rintro e bg ⟨rfl,hi,hb,hk⟩;refine ⟨_,rfl,?_⟩;replace J:=kQ J hk Y.out;replace HK:=kT2 HK hk;replace HB:=amk (hb);replace HI0:=amk (hi);(try clear hb);(try clear hk);(try clear hi)) | ((with_reducible refine gate_callee (f:=116) rfl ?_);refine goesL_ (some 13) rfl rfl Tryz.func116 (by kernel_rfl) rfl #[.pointer (some ⟨g,0,none⟩)] rfl gL_ ?_;(with_reducible refine (spec_l1Cur_sureLock.calls g Z ac ae ax ay aU aV w0 _ ?_ ?_ b5.out).mono ?_);exact bI;exact bBI;rintro e bh ⟨rfl,hi,hb,hk⟩;refine ⟨_,rfl,?_⟩;replace J:=kQ J hk Y.out;replace HK:=kT2 HK hk;replace HB:=amk (hb);replace HI0:=amk (hi);(try clear hb);(try clear hk);(try clear hi);have b6:=Y.out;have b7:=aa.out;obtain ⟨aW,aX,aY,aZ⟩:=cells2 J.out));refine bodyPost_ret (results_cell_row rfl _ _ af 25 #[.int .i64 ax, .int .i64 ay] (0,0) _ rfl (kP J) Tryz.underlying25 rfl (by kernel_rfl)) rfl ?_;exact ⟨rF_,bI,bBI,bK⟩
/-! ### spec_l1Cur_surePuzzle: function 59 -/
def spec_l1Cur_surePuzzle.f (k:Nat) (a7:List Int) (a8:Int) (aa:Int) (a1:Int):Option (Int×Int×(List (S48))×Int×Int):=(spec_l1Cur_hidden.f k a7 a8 aa).bind fun J=>((spec_l1Cur_pick.f a7 J.2.2.2.1 J.2.2.2.2 (wrap64 (a1 + 1))).bind fun Y=>((spec_l1Cur_pick.f a7 Y.2.1 Y.2.2 10000).bind fun Z=>((spec_MakePuzzle.f k J.1 J.2.1 J.2.2.1 Y.1 Z.1).bind fun a6=>(some (a6.1,a6.2.1,a6.2.2.1,Z.2.1,Z.2.2)))))
def spec_l1Cur_surePuzzle.T2:Bool×List (List Nat×List Nat):=(true,[([],[]),([],[]),([],[]),([],[]),([3],[3]),([2,4],[2,4]),([],[]),([6,5],[6]),([0,1,5,7,7],[0,1,5,7]),([8],[8]),([9],[9]),([9],[9]),([],[]),([12,10,8,0,1,2,3,4,5,6,7,8,9,10,12],[10,12]),([11,13,0,1,2,3,4,5,6,7,8,9,10,11,12,13],[11])])
def spec_l1Cur_surePuzzle.B2:List Nat:=[0,0,0,0,8,28,0,124,255,511,1023,1023,0,6143,16383]
theorem spec_l1Cur_surePuzzle.tab2:rtab .any (opsOf Tryz.f59 2)=spec_l1Cur_surePuzzle.T2:=by kernel_rfl
theorem spec_l1Cur_surePuzzle.bits2:waitsOk spec_l1Cur_surePuzzle.T2.2 spec_l1Cur_surePuzzle.B2=true:=by kernel_rfl
set_option maxHeartbeats 8000000 in
set_option maxRecDepth 100000 in
theorem spec_l1Cur_surePuzzle.calls (k:Nat) (g:Nat) (af:List Int) (aM:Int) (aN:Int) (a1:Int) (r1:Int) (r2:Int) (r3:List (S48)) (r4:Int) (r5:Int) (w0 w:World) (hI:IsS80 w0 w g af aM aN) (hB:Below w0.heap.size w0 w) (h:spec_l1Cur_surePuzzle.f k af aM aN a1=some (r1,r2,r3,r4,r5)) :
    Calls Tryz.prog 59 #[.pointer (some ⟨g,0,none⟩), .int .i64 a1] w fun e w'=> ∃ v2_:Value,e = .returned (.agg #[.int .i64 r1, .int .i64 r2,v2_])∧Kd.R k48 48 w' w.heap.size (fun _=>True) v2_ r3∧IsS80 w0 w' g af r4 r5∧Below w0.heap.size w0 w'∧KeepBut w w' g none:=by
  have cd:=Tryz.underlying28;have ce:=Tryz.underlying25;have HI0:=amk hI;have HK:=amk (KeepBut.refl w g none);have HL:=amk hB.size;clear hI;have aU:=amk hB.size;have HB:=amk hB;clear hB;unfold spec_l1Cur_surePuzzle.f at h;have H:=h;clear h;replace H:=bE H;obtain ⟨⟨ag,ah,ay,az,aA⟩,A3,H⟩:=H;(try dsimp only at H);replace H:=bE H;obtain ⟨⟨ar,aH,aI⟩,A4,H⟩:=H;(try dsimp only at H);replace H:=bE H;obtain ⟨⟨an,aC,aD⟩,A5,H⟩:=H;(try dsimp only at H);replace H:=bE H;obtain ⟨⟨ap,au,aE,aJ⟩,A6,H⟩:=H;(try dsimp only at H);simp only [Option.some.injEq,Prod.mk.injEq] at H;obtain ⟨rfl,rfl,rfl,rfl,rfl⟩:=H;go_enter Tryz.func59,Tryz.ntmps59;(try go_wp2_with (first | ((with_reducible refine gate_dst (N:=4) rfl ?_);refine boxG_ 4 #[.int .i64 0, .int .i64 0, .slice none 0 0] 28 ?_;intro av w7 hg J hb;replace HB:=hBI HB hb;have b3:=kS HK hg;have bL:=kE aU b3;replace HK:=kT HK hb;have aV:=iL af aM aN hg;have al:=iR af aM aN hg;replace HI0:=amk (IsS80.below bI hb);clear hb hg) | ((with_reducible refine gate_callee (f:=85) rfl ?_);refine goesL_ (some 11) rfl rfl Tryz.func85 (by kernel_rfl) rfl #[.pointer (some ⟨g,0,none⟩)] rfl gL_ ?_;(with_reducible refine (spec_l1Cur_hidden.calls k g af aM aN ag ah ay az aA w0 _ ?_ ?_ A3.out).mono ?_);exact bI;exact bBI;rintro e w8 ⟨rfl,hi,hb,hk⟩;refine ⟨_,rfl,?_⟩;replace J:=kQ J hk al.out;replace HK:=kT2 HK hk;replace HB:=amk (hb);replace HI0:=amk (hi);(try clear hb);(try clear hk);(try clear hi)) | ((with_reducible refine gate_dst (N:=5) rfl ?_);refine boxG_ 5 #[.int .i64 0, .int .i64 0] 25 ?_;intro ab w9 hg Y hb;replace HB:=hBI HB hb;have b4:=kS HK hg;have bM:=kE aU b4;replace HK:=kT HK hb;have aQ:=neL J hg;have aT:=neR J hg;replace J:=kb2 J hb;have aW:=iL af az aA hg;have am:=iR af az aA hg;replace HI0:=amk (IsS80.below bI hb);clear hb hg;have bN:=aT.out;have bO:=aQ.out;have bQ:=am.out;have bR:=aW.out;obtain ⟨b8,b9,ba,bb⟩:=cells2 Y.out)));have n0_:Aside0 (((w9.setCell ⟨ab,0,none⟩ (.int .i64 ag)).setCell ⟨ab,1,none⟩ (.int .i64 ah)).heap[av]?=some (.cells #[.int .i64 0, .int .i64 0, .slice none 0 0] 28 (0,0))):=⟨kB J⟩;have n1_:Aside0 (((w9.setCell ⟨ab,0,none⟩ (.int .i64 ag)).setCell ⟨ab,1,none⟩ (.int .i64 ah)).heap[ab]?=some (.cells #[.int .i64 ag, .int .i64 ah] 25 (0,0))):=⟨kP Y⟩;have n2_:Aside0 (IsS80 w0 ((w9.setCell ⟨ab,0,none⟩ (.int .i64 ag)).setCell ⟨ab,1,none⟩ (.int .i64 ah)) g af az aA):=⟨bI⟩;have n3_:Aside0 (KeepBut w ((w9.setCell ⟨ab,0,none⟩ (.int .i64 ag)).setCell ⟨ab,1,none⟩ (.int .i64 ah)) g none):=⟨bK⟩;have n4_:Aside0 (Below w0.heap.size w0 ((w9.setCell ⟨ab,0,none⟩ (.int .i64 ag)).setCell ⟨ab,1,none⟩ (.int .i64 ah))):=⟨bBI⟩;(try clear J);(try clear Y);(try clear HI0);(try clear HK);(try clear HB);generalize ((w9.setCell ⟨ab,0,none⟩ (.int .i64 ag)).setCell ⟨ab,1,none⟩ (.int .i64 ah))=bS at n0_ n1_ n2_ n3_ n4_ ⊢;have J:=n0_;have Y:=n1_;have HI0:=n2_;have HK:=n3_;have HB:=n4_;clear n0_ n1_ n2_ n3_ n4_;replace J:=amk (blk_drew J.out);replace Y:=amk (blk_drew Y.out);replace HI0:=amk (IsS80.drew HI0.out);replace HK:=amk (keep_drew HK.out);replace HB:=amk (bd_ HB.out);refine start_ (n:=15) (S:=fun w'=>w'.cell? ⟨ab,0,none⟩=some (.int .i64 ag)∧w'.cell? ⟨ab,1,none⟩=some (.int .i64 ah)) (ds:=[]) (bA 15 0) (by kernel_rfl) rfl rfl ⟨(blk_cell Y.out 0).trans rfl,(blk_cell Y.out 1).trans rfl⟩ (fun hHeld=>?_);refine with_tabW spec_l1Cur_surePuzzle.tab2 spec_l1Cur_surePuzzle.bits2 (fun HT_ HW_=>?_);generalize bS.drew=cj at J Y HI0 HK HB hHeld ⊢;refine pU_ HT_ 1 (some 16) (bA 15 2) ?_;refine pU_ HT_ 2 (some 17) (bA 15 6) ?_;refine pU_ HT_ 3 (some 18) (bA 15 14) ?_;refine pU_ HT_ 4 (some 19) (bA 15 30) ?_;refine pU_ HT_ 6 (some 21) (bA 15 94) ?_;refine tK_ HT_ HW_ hHeld 0 (some 15) (bA 15 95) ?_;refine join_ (σ:=Value×Nat) 2 (bA 15 8191) (fun s_=> [(20, .int .i64 ar),(22, .int .i64 an),(23, .tuple #[.agg #[.int .i64 ap, .int .i64 au,s_.1], .bool aJ]),(7, .pointer (some ⟨s_.2,0,none⟩)),(14, .tuple #[.agg #[.int .i64 ap, .int .i64 au,s_.1], .bool aJ]),(24, .agg #[.int .i64 ap, .int .i64 au,s_.1]),(25, .bool aJ)]) (fun s_ w'=>(w'.cell? ⟨ab,0,none⟩=some (.int .i64 ag)∧w'.cell? ⟨ab,1,none⟩=some (.int .i64 ah))∧(Kd.R k48 48 w' w.heap.size (fun _=>True) s_.1 aE)∧(w'.heap[av]?=some (.cells #[.int .i64 0, .int .i64 0, .slice none 0 0] 28 (0,0)))∧(w'.heap[ab]?=some (.cells #[.int .i64 ag, .int .i64 ah] 25 (0,0)))∧(w'.heap[s_.2]?=some (.cells #[.int .i64 0, .int .i64 0, .slice none 0 0] 28 (0,0)))∧(w.heap.size≤s_.2)∧(w0.heap.size≤s_.2)∧(g≠s_.2)∧(s_.2≠g)∧(av≠s_.2)∧(s_.2≠av)∧(ab≠s_.2)∧(s_.2≠ab)∧(IsS80 w0 w' g af aC aD)∧(KeepBut w w' g none)∧(Below w0.heap.size w0 w')) ?_ ?_;rotate_left
  · intro hCont;refine two_ (i:=5) (j:=12) (Ni:=some 20) (Nj:=some 7) (bA 15 127) (bA 15 4191) rfl rfl rfl rfl (two_of HT_.out (by kernel_rfl)) (by decide) (by decide) (fun K hK=>?_) (fun K hK=>?_)
    · skip
      refine goes_ Tryz.func87 (by kernel_rfl) rfl #[.pointer (some ⟨g,0,none⟩), .int .i64 (wrap64 (a1 + 1))] (by rfl) rfl rfl gL_ ?_;(with_reducible refine (spec_l1Cur_pick.calls g af az aA (wrap64 (a1 + 1)) ar aH aI w0 _ ?_ ?_ A4.out).mono ?_);exact bI;exact bBI;rintro e bT ⟨rfl,hi,hb,hk⟩;refine ⟨_,rfl,?_⟩;replace J:=kQ J hk al.out;replace Y:=kQ Y hk am.out;replace HK:=kT2 HK hk;replace HB:=amk (hb);replace HI0:=amk (hi);(try clear hb);(try clear hk);(try clear hi);refine hK.out _ _ hC_ (fun hHeld=>?_);clear hK K;refine nN_ (some 20) ?_;refine two_ (i:=7) (j:=12) (Ni:=some 22) (Nj:=some 7) (bA 15 255) (bA 15 4223) rfl rfl rfl rfl (two_of HT_.out (by kernel_rfl)) (by decide) (by decide) (fun K hK=>?_) (fun K hK=>?_)
      · skip
        refine goes_ Tryz.func87 (by kernel_rfl) rfl #[.pointer (some ⟨g,0,none⟩), .int .i64 10000] (by rfl) rfl rfl gL_ ?_;(with_reducible refine (spec_l1Cur_pick.calls g af aH aI 10000 an aC aD w0 _ ?_ ?_ A5.out).mono ?_);exact bI;exact bBI;rintro e bc ⟨rfl,hi,hb,hk⟩;refine ⟨_,rfl,?_⟩;replace J:=kQ J hk al.out;replace Y:=kQ Y hk am.out;replace HK:=kT2 HK hk;replace HB:=amk (hb);replace HI0:=amk (hi);(try clear hb);(try clear hk);(try clear hi);refine hK.out _ _ hC_ (fun hHeld=>?_);clear hK K;refine nN_ (some 22) ?_;refine two_ (i:=8) (j:=12) (Ni:=some 23) (Nj:=some 7) (bA 15 511) (bA 15 4351) rfl rfl rfl rfl (two_of HT_.out (by kernel_rfl)) (by decide) (by decide) (fun K hK=>?_) (fun K hK=>?_)
        · skip
          refine goes_ Tryz.func86 (by kernel_rfl) rfl #[.agg #[.int .i64 ag, .int .i64 ah], .string ay, .int .i64 ar, .int .i64 an] (by rfl) rfl rfl gL_ ?_;(with_reducible refine (spec_MakePuzzle.calls k ag ah ay ar an ap au aE aJ _ A6.out).mono ?_);rintro e b5 ⟨aG,rfl,aK,hb⟩;refine ⟨_,rfl,?_⟩;have aj:=amk (Kd.R_lower aK (keep_size (w:=w) (g:=g) (row:=none) bK));replace J:=kb2 J hb;replace Y:=kb2 Y hb;replace HK:=kT HK hb;replace HB:=hBI HB hb;replace HI0:=amk (IsS80.below bI hb);(try clear hb);(try clear aK);refine hK.out _ _ hC_ (fun hHeld=>?_);clear hK K;refine nN_ (some 23) ?_;refine pU_ HT_ 9 (some 14) (bA 15 1023) ?_;refine pU_ HT_ 10 (some 24) (bA 15 2047) ?_;refine pU_ HT_ 11 (some 25) (bA 15 4095) ?_;refine oN_ HT_ 12 (some 7) (bA 15 8191) (fun K hK=>?_);refine box_step ?hg (N:=7) ?hd (cs:= #[.int .i64 0, .int .i64 0, .slice none 0 0]) (t:=28) ?hr ?_;(case hd=>rfl);(case hg=>rfl);(case hr=>first | (go_simp;done) | (go_simp;rfl));intro ac hg b6 hbox hb;replace aj:=amk (Kd.R_below (oX aj) hb);replace HB:=hBI HB hb;have a7:=amk (hbox);have ak:=kS HK hg;have ax:=kE aU ak;replace HK:=kT HK hb;have a6:=neL J hg;have a8:=neR J hg;replace J:=kb2 J hb;have Z:=neL Y hg;have aa:=neR Y hg;replace Y:=kb2 Y hb;have ai:=iL af aC aD hg;have ae:=iR af aC aD hg;replace HI0:=amk (IsS80.below bI hb);clear hb hbox hg;refine hK.out _ _ hC_ (fun hHeld=>?_);clear hK K;refine nN_ (some 7) ?_;exact norm_ (by simp only [putAll,Act.put,List.setIfInBounds_toArray,List.set_cons_zero,List.set_cons_succ]) (hCont (aG,ac) _ ⟨hHeld,(oX aj),(kB J),(kB Y),(kB a7),ak.out,ax.out,ai.out,ae.out,a6.out,a8.out,Z.out,aa.out,bI,bK,bBI⟩)
        · skip
          refine box_step ?hg (N:=7) ?hd (cs:= #[.int .i64 0, .int .i64 0, .slice none 0 0]) (t:=28) ?hr ?_;(case hd=>rfl);(case hg=>rfl);(case hr=>first | (go_simp;done) | (go_simp;rfl));intro ac hg b5 hbox hb;replace HB:=hBI HB hb;have a7:=amk (hbox);have ak:=kS HK hg;have ax:=kE aU ak;replace HK:=kT HK hb;have a6:=neL J hg;have a8:=neR J hg;replace J:=kb2 J hb;have Z:=neL Y hg;have aa:=neR Y hg;replace Y:=kb2 Y hb;have ai:=iL af aC aD hg;have ae:=iR af aC aD hg;replace HI0:=amk (IsS80.below bI hb);clear hb hbox hg;refine hK.out _ _ hC_ (fun hHeld=>?_);clear hK K;refine nN_ (some 7) ?_;refine oN_ HT_ 8 (some 23) (bA 15 4607) (fun K hK=>?_);refine goes_ Tryz.func86 (by kernel_rfl) rfl #[.agg #[.int .i64 ag, .int .i64 ah], .string ay, .int .i64 ar, .int .i64 an] (by rfl) rfl rfl gL_ ?_;(with_reducible refine (spec_MakePuzzle.calls k ag ah ay ar an ap au aE aJ _ A6.out).mono ?_);rintro e b6 ⟨aG,rfl,aK,hb⟩;refine ⟨_,rfl,?_⟩;have aj:=amk (Kd.R_lower aK (keep_size (w:=w) (g:=g) (row:=none) bK));replace J:=kb2 J hb;replace Y:=kb2 Y hb;replace a7:=kb2 a7 hb;replace HK:=kT HK hb;replace HB:=hBI HB hb;replace HI0:=amk (IsS80.below bI hb);(try clear hb);(try clear aK);refine hK.out _ _ hC_ (fun hHeld=>?_);clear hK K;refine nN_ (some 23) ?_;refine pU_ HT_ 9 (some 14) (bA 15 5119) ?_;refine pU_ HT_ 10 (some 24) (bA 15 6143) ?_;refine pU_ HT_ 11 (some 25) (bA 15 8191) ?_;exact norm_ (by simp only [putAll,Act.put,List.setIfInBounds_toArray,List.set_cons_zero,List.set_cons_succ]) (hCont (aG,ac) _ ⟨hHeld,(oX aj),(kB J),(kB Y),(kB a7),ak.out,ax.out,ai.out,ae.out,a6.out,a8.out,Z.out,aa.out,bI,bK,bBI⟩)
      · skip
        refine box_step ?hg (N:=7) ?hd (cs:= #[.int .i64 0, .int .i64 0, .slice none 0 0]) (t:=28) ?hr ?_;(case hd=>rfl);(case hg=>rfl);(case hr=>first | (go_simp;done) | (go_simp;rfl));intro ac hg bc hbox hb;replace HB:=hBI HB hb;have a7:=amk (hbox);have ak:=kS HK hg;have ax:=kE aU ak;replace HK:=kT HK hb;have a6:=neL J hg;have a8:=neR J hg;replace J:=kb2 J hb;have Z:=neL Y hg;have aa:=neR Y hg;replace Y:=kb2 Y hb;have ai:=iL af aH aI hg;have ae:=iR af aH aI hg;replace HI0:=amk (IsS80.below bI hb);clear hb hbox hg;refine hK.out _ _ hC_ (fun hHeld=>?_);clear hK K;refine nN_ (some 7) ?_;refine oN_ HT_ 7 (some 22) (bA 15 4351) (fun K hK=>?_);refine goes_ Tryz.func87 (by kernel_rfl) rfl #[.pointer (some ⟨g,0,none⟩), .int .i64 10000] (by rfl) rfl rfl gL_ ?_;(with_reducible refine (spec_l1Cur_pick.calls g af aH aI 10000 an aC aD w0 _ ?_ ?_ A5.out).mono ?_);exact bI;exact bBI;rintro e b5 ⟨rfl,hi,hb,hk⟩;refine ⟨_,rfl,?_⟩;replace J:=kQ J hk al.out;replace Y:=kQ Y hk am.out;replace a7:=kQ a7 hk ae.out;replace HK:=kT2 HK hk;replace HB:=amk (hb);replace HI0:=amk (hi);(try clear hb);(try clear hk);(try clear hi);refine hK.out _ _ hC_ (fun hHeld=>?_);clear hK K;refine nN_ (some 22) ?_;refine oN_ HT_ 8 (some 23) (bA 15 4607) (fun K hK=>?_);refine goes_ Tryz.func86 (by kernel_rfl) rfl #[.agg #[.int .i64 ag, .int .i64 ah], .string ay, .int .i64 ar, .int .i64 an] (by rfl) rfl rfl gL_ ?_;(with_reducible refine (spec_MakePuzzle.calls k ag ah ay ar an ap au aE aJ _ A6.out).mono ?_);rintro e b6 ⟨aG,rfl,aK,hb⟩;refine ⟨_,rfl,?_⟩;have aj:=amk (Kd.R_lower aK (keep_size (w:=w) (g:=g) (row:=none) bK));replace J:=kb2 J hb;replace Y:=kb2 Y hb;replace a7:=kb2 a7 hb;replace HK:=kT HK hb;replace HB:=hBI HB hb;replace HI0:=amk (IsS80.below bI hb);(try clear hb);(try clear hk);(try clear hi);(try clear aK);refine hK.out _ _ hC_ (fun hHeld=>?_);clear hK K;refine nN_ (some 23) ?_;refine pU_ HT_ 9 (some 14) (bA 15 5119) ?_;refine pU_ HT_ 10 (some 24) (bA 15 6143) ?_;refine pU_ HT_ 11 (some 25) (bA 15 8191) ?_;exact norm_ (by simp only [putAll,Act.put,List.setIfInBounds_toArray,List.set_cons_zero,List.set_cons_succ]) (hCont (aG,ac) _ ⟨hHeld,(oX aj),(kB J),(kB Y),(kB a7),ak.out,ax.out,ai.out,ae.out,a6.out,a8.out,Z.out,aa.out,bI,bK,bBI⟩)
    · skip
      refine box_step ?hg (N:=7) ?hd (cs:= #[.int .i64 0, .int .i64 0, .slice none 0 0]) (t:=28) ?hr ?_;(case hd=>rfl);(case hg=>rfl);(case hr=>first | (go_simp;done) | (go_simp;rfl));intro ac hg bT hbox hb;replace HB:=hBI HB hb;have a7:=amk (hbox);have ak:=kS HK hg;have ax:=kE aU ak;replace HK:=kT HK hb;have a6:=neL J hg;have a8:=neR J hg;replace J:=kb2 J hb;have Z:=neL Y hg;have aa:=neR Y hg;replace Y:=kb2 Y hb;have ai:=iL af az aA hg;have ae:=iR af az aA hg;replace HI0:=amk (IsS80.below bI hb);clear hb hbox hg;refine hK.out _ _ hC_ (fun hHeld=>?_);clear hK K;refine nN_ (some 7) ?_;refine oN_ HT_ 5 (some 20) (bA 15 4223) (fun K hK=>?_);refine goes_ Tryz.func87 (by kernel_rfl) rfl #[.pointer (some ⟨g,0,none⟩), .int .i64 (wrap64 (a1 + 1))] (by rfl) rfl rfl gL_ ?_;(with_reducible refine (spec_l1Cur_pick.calls g af az aA (wrap64 (a1 + 1)) ar aH aI w0 _ ?_ ?_ A4.out).mono ?_);exact bI;exact bBI;rintro e bc ⟨rfl,hi,hb,hk⟩;refine ⟨_,rfl,?_⟩;replace J:=kQ J hk al.out;replace Y:=kQ Y hk am.out;replace a7:=kQ a7 hk ae.out;replace HK:=kT2 HK hk;replace HB:=amk (hb);replace HI0:=amk (hi);(try clear hb);(try clear hk);(try clear hi);refine hK.out _ _ hC_ (fun hHeld=>?_);clear hK K;refine nN_ (some 20) ?_;refine oN_ HT_ 7 (some 22) (bA 15 4351) (fun K hK=>?_);refine goes_ Tryz.func87 (by kernel_rfl) rfl #[.pointer (some ⟨g,0,none⟩), .int .i64 10000] (by rfl) rfl rfl gL_ ?_;(with_reducible refine (spec_l1Cur_pick.calls g af aH aI 10000 an aC aD w0 _ ?_ ?_ A5.out).mono ?_);exact bI;exact bBI;rintro e b5 ⟨rfl,hi,hb,hk⟩;refine ⟨_,rfl,?_⟩;replace J:=kQ J hk al.out;replace Y:=kQ Y hk am.out;replace a7:=kQ a7 hk ae.out;replace HK:=kT2 HK hk;replace HB:=amk (hb);replace HI0:=amk (hi);(try clear hb);(try clear hk);(try clear hi);refine hK.out _ _ hC_ (fun hHeld=>?_);clear hK K;refine nN_ (some 22) ?_;refine oN_ HT_ 8 (some 23) (bA 15 4607) (fun K hK=>?_);refine goes_ Tryz.func86 (by kernel_rfl) rfl #[.agg #[.int .i64 ag, .int .i64 ah], .string ay, .int .i64 ar, .int .i64 an] (by rfl) rfl rfl gL_ ?_;(with_reducible refine (spec_MakePuzzle.calls k ag ah ay ar an ap au aE aJ _ A6.out).mono ?_);rintro e b6 ⟨aG,rfl,aK,hb⟩;refine ⟨_,rfl,?_⟩;have aj:=amk (Kd.R_lower aK (keep_size (w:=w) (g:=g) (row:=none) bK));replace J:=kb2 J hb;replace Y:=kb2 Y hb;replace a7:=kb2 a7 hb;replace HK:=kT HK hb;replace HB:=hBI HB hb;replace HI0:=amk (IsS80.below bI hb);(try clear hb);(try clear hk);(try clear hi);(try clear aK);refine hK.out _ _ hC_ (fun hHeld=>?_);clear hK K;refine nN_ (some 23) ?_;refine pU_ HT_ 9 (some 14) (bA 15 5119) ?_;refine pU_ HT_ 10 (some 24) (bA 15 6143) ?_;refine pU_ HT_ 11 (some 25) (bA 15 8191) ?_;exact norm_ (by simp only [putAll,Act.put,List.setIfInBounds_toArray,List.set_cons_zero,List.set_cons_succ]) (hCont (aG,ac) _ ⟨hHeld,(oX aj),(kB J),(kB Y),(kB a7),ak.out,ax.out,ai.out,ae.out,a6.out,a8.out,Z.out,aa.out,bI,bK,bBI⟩)
  rintro ⟨aG,ac⟩ b7 ⟨hS_,h0_,h1_,h2_,h3_,h4_,h5_,h6_,h7_,h8_,h9_,h10_,h11_,h12_,h13_,h14_⟩;have aj:=amk h0_;replace J:=amk h1_;replace Y:=amk h2_;have a7:=amk h3_;have ak:=amk h4_;have ax:=amk h5_;have ai:=amk h6_;have ae:=amk h7_;have a6:=amk h8_;have a8:=amk h9_;have Z:=amk h10_;have aa:=amk h11_;replace HI0:=amk h12_;replace HK:=amk h13_;replace HB:=amk h14_;clear h0_ h1_ h2_ h3_ h4_ h5_ h6_ h7_ h8_ h9_ h10_ h11_ h12_ h13_ h14_;have hHeld:=hS_;obtain ⟨aX,aY,aZ⟩:=Kd.R_slice aj.out;(first | subst aZ | (injection aZ with f1_ f2_ f3_;have f4_:=f1_.symm;have f5_:=f3_.symm;clear f1_ f2_ f3_;subst f4_;subst f5_));refine norm_ (a':=?_) ?_ ?_;rotate_left
  · simp only [putAll,Act.put,List.setIfInBounds_toArray,List.set_cons_zero,List.set_cons_succ]
    rfl
  refine oN_ HT_ 13 none (bA 15 16383) (fun K hK=>?_);have cf:b7.cell? ⟨ac,0,none⟩=some (.int .i64 0):=(blk_cell a7.out 0).trans rfl;have bU:=blk_frozen a7.out 0;have bd:=a6.out;have be:=Z.out;have bf:=a8.out;have bg:=aa.out;have cg:b7.cell? ⟨ac,1,none⟩=some (.int .i64 0):=(blk_cell a7.out 1).trans rfl;have bV:=blk_frozen a7.out 1;have bh:=a6.out;have bi:=Z.out;have bj:=a8.out;have bk:=aa.out;have ci:b7.cell? ⟨ac,2,none⟩=some (.slice none 0 0):=(blk_cell a7.out 2).trans rfl;have bW:=blk_frozen a7.out 2;have bl:=a6.out;have bm:=Z.out;have bn:=a8.out;have bo:=aa.out;refine skip_ (w1:=?_) (by rfl) rfl ?_ ?_;rotate_left
  · go_simp
    rfl
  refine hK.out _ _ ⟨((cell_far (p:=⟨ac,_,none⟩) Z.out _).trans (((cell_far (p:=⟨ac,_,none⟩) Z.out _).trans (((cell_far (p:=⟨ac,_,none⟩) Z.out _).trans (hHeld.1)))))),((cell_far (p:=⟨ac,_,none⟩) Z.out _).trans (((cell_far (p:=⟨ac,_,none⟩) Z.out _).trans (((cell_far (p:=⟨ac,_,none⟩) Z.out _).trans (hHeld.2))))))⟩ (fun hHeld=>?_);clear hK K;refine pU_ HT_ 14 (some 8) (bA 15 32767) ?_;refine done_ (done_of HT_.out (by kernel_rfl)) ?_;have bX:=a8.out;have bY:=a6.out;have bZ:=aa.out;have c6:=Z.out;have c7:=ae.out;have c8:=ai.out;obtain ⟨bp,bq,br,bu,bv,bw⟩:=cells3 a7.out;have ca:=al.out;have cb:=aV.out;obtain ⟨bz,bC,bD,bF,bH,bJ⟩:=cells3 J.out;(try go_wp2);refine bodyPost_ret (results_cell_row rfl _ _ av 28 #[.int .i64 ap, .int .i64 au, .slice aX aE.length aY] (0,0) _ rfl (by (with_reducible repeat (first | refine kn_ ?_ _ | refine blk_drew ?_ | refine ka_ ?_ _));refine blk_put (cs:= #[.int .i64 ap, .int .i64 au, .slice none 0 0]) ?_ 2 _ rfl;(with_reducible repeat (first | refine kn_ ?_ _ | refine blk_drew ?_ | refine ka_ ?_ _));refine blk_put (cs:= #[.int .i64 ap, .int .i64 0, .slice none 0 0]) ?_ 1 _ rfl;(with_reducible repeat (first | refine kn_ ?_ _ | refine blk_drew ?_ | refine ka_ ?_ _));refine blk_put (cs:= #[.int .i64 0, .int .i64 0, .slice none 0 0]) ?_ 0 _ rfl;(with_reducible repeat (first | refine kn_ ?_ _ | refine blk_drew ?_ | refine ka_ ?_ _));refine blk_far ?_ a6.out _;(with_reducible repeat (first | refine kn_ ?_ _ | refine blk_drew ?_ | refine ka_ ?_ _));refine blk_far ?_ a6.out _;(with_reducible repeat (first | refine kn_ ?_ _ | refine blk_drew ?_ | refine ka_ ?_ _));refine blk_far ?_ a6.out _;(with_reducible repeat (first | refine kn_ ?_ _ | refine blk_drew ?_ | refine ka_ ?_ _));exact J.out) Tryz.underlying28 rfl (by kernel_rfl)) rfl ?_;exact ⟨_,rF_,by (with_reducible repeat (first | apply Kd.R_alloc | apply Kd.R_drewN | apply Kd.R_drew));exact Kd.R_mono (Kd.R_far (p:=⟨av,2,none⟩) (Kd.R_far (p:=⟨av,1,none⟩) (Kd.R_far (p:=⟨av,0,none⟩) (Kd.R_far (p:=⟨ac,2,none⟩) (Kd.R_far (p:=⟨ac,1,none⟩) (Kd.R_far (p:=⟨ac,0,none⟩) (Kd.R_types (Kd.R_types aj.out a7.out (by decide)) J.out (by decide)) (fun _ hk=>hk.1.2) (.int .i64 ap)) (fun _ hk=>hk.1.2) (.int .i64 au)) (fun _ hk=>hk.1.2) (.slice aX aE.length aY)) (fun _ hk=>hk.2) (.int .i64 ap)) (fun _ hk=>hk.2) (.int .i64 au)) (fun _ hk=>hk.2) (.slice aX aE.length aY)) (fun _ hk=>trivial),bI,bBI,bK⟩
/-! ### spec_l1Cur_puzzle: function 63 -/
def spec_l1Cur_puzzle.l0:Nat→List Int→Int→Int→Int→Int→List (S48)→Option (Int×Int×(List (S48))×Int×Int)
  | 0,_,_,_,_,_,_=>none
  | k + 1,a6,a7,a8,Z,a1,J=>(spec_l1Cur_pick.f a6 a7 a8 2).bind fun Y=>(if (J.length:Int) < (wrap64 (6 + Y.1)) then (if J.length < 5864062014805 then (spec_l1Cur_puzzle.l0 k a6 Y.2.1 Y.2.2 Z a1 (J ++ [(⟨4,2,0⟩:S48)])) else (none)) else (some (Z,a1,J,Y.2.1,Y.2.2)))
def spec_l1Cur_puzzle.f (k:Nat) (a6:List Int) (a7:Int) (a8:Int):Option (Int×Int×(List (S48))×Int×Int):=(spec_l1Cur_surePuzzle.f k a6 a7 a8 5).bind fun J=>((spec_l1Cur_pick.f a6 J.2.2.2.1 J.2.2.2.2 12).bind fun Y=>(if Y.1=0 then ((spec_l1Cur_lock.f a6 Y.2.1 Y.2.2).bind fun a1=>(some (a1.1,a1.2.1,J.2.2.1,a1.2.2.1,a1.2.2.2))) else (if Y.1=1 then ((spec_l1Cur_clue.f k a6 Y.2.1 Y.2.2).bind fun Z=>(if J.2.2.1.length < 5864062014805 then (some (J.1,J.2.1,(J.2.2.1 ++ [(⟨Z.1,Z.2.1,Z.2.2.1⟩:S48)]),Z.2.2.2.1,Z.2.2.2.2)) else (none))) else (if Y.1=2 then (spec_l1Cur_puzzle.l0 k a6 Y.2.1 Y.2.2 J.1 J.2.1 J.2.2.1) else (some (J.1,J.2.1,J.2.2.1,Y.2.1,Y.2.2))))))
def spec_l1Cur_puzzle.T6:Bool×List (List Nat×List Nat):=(true,[([],[]),([0],[0]),([],[]),([2],[2]),([3],[3]),([1,4,3],[1,4]),([0,1,2,3,4,5],[]),([6,5,5,0,1,2,3,4,5],[5,6])])
def spec_l1Cur_puzzle.B6:List Nat:=[0,1,0,4,12,31,63,127]
theorem spec_l1Cur_puzzle.tab6:rtab .any (opsOf Tryz.f63 6)=spec_l1Cur_puzzle.T6:=by kernel_rfl
theorem spec_l1Cur_puzzle.bits6:waitsOk spec_l1Cur_puzzle.T6.2 spec_l1Cur_puzzle.B6=true:=by kernel_rfl
set_option maxHeartbeats 8000000 in
set_option maxRecDepth 100000 in
theorem spec_l1Cur_puzzle.calls (k:Nat) (g:Nat) (a6:List Int) (ar:Int) (au:Int) (r1:Int) (r2:Int) (r3:List (S48)) (r4:Int) (r5:Int) (w0 w:World) (hI:IsS80 w0 w g a6 ar au) (hB:Below w0.heap.size w0 w) (h:spec_l1Cur_puzzle.f k a6 ar au=some (r1,r2,r3,r4,r5)) :
    Calls Tryz.prog 63 #[.pointer (some ⟨g,0,none⟩)] w fun e w'=> ∃ v2_:Value,e = .returned (.agg #[.int .i64 r1, .int .i64 r2,v2_])∧Kd.R k48 48 w' w.heap.size (fun _=>True) v2_ r3∧IsS80 w0 w' g a6 r4 r5∧Below w0.heap.size w0 w'∧KeepBut w w' g none:=by
  have ek:=Tryz.underlying28;have em:=Tryz.underlying25;have en:=Tryz.underlying48;have HI0:=amk hI;have HK:=amk (KeepBut.refl w g none);have HL:=amk hB.size;clear hI;have aE:=amk hB.size;have HB:=amk hB;clear hB;unfold spec_l1Cur_puzzle.f at h;have H:=h;clear h;replace H:=bE H;obtain ⟨⟨af,ag,ah,ai,aj⟩,A2,H⟩:=H;(try dsimp only at H);replace H:=bE H;obtain ⟨⟨ak,ay,az⟩,A3,H⟩:=H;(try dsimp only at H)
  by_cases c4:ak=0
  · rw [if_pos c4] at H;have cm:(ak == 0)=true:=beq_iff_eq.mpr c4;have cn:(ak != 0)=false:=bne_eq_false_iff_eq.mpr c4;clear c4;replace H:=bE H;obtain ⟨⟨aD,aG,cF,cG⟩,A5,H⟩:=H;(try dsimp only at H);simp only [Option.some.injEq,Prod.mk.injEq] at H;obtain ⟨rfl,rfl,rfl,rfl,rfl⟩:=H;go_enter Tryz.func63,Tryz.ntmps63;go_wp2_with (first | ((with_reducible refine gate_dst (N:=2) rfl ?_);refine boxG_ 2 #[.int .i64 0, .int .i64 0, .slice none 0 0] 28 ?_;intro ae w6 hg J hb;replace HB:=hBI HB hb;have av:=kS HK hg;have aN:=kE aE av;replace HK:=kT HK hb;have am:=iL a6 ar au hg;have a7:=iR a6 ar au hg;replace HI0:=amk (IsS80.below bI hb);clear hb hg) | ((with_reducible refine gate_callee (f:=59) rfl ?_);refine goesL_ (some 5) rfl rfl Tryz.func59 (by kernel_rfl) rfl #[.pointer (some ⟨g,0,none⟩), .int .i64 5] rfl gL_ ?_;(with_reducible refine (spec_l1Cur_surePuzzle.calls k g a6 ar au 5 af ag ah ai aj w0 _ ?_ ?_ A2.out).mono ?_);exact bI;exact bBI;rintro e w7 ⟨aX,rfl,aA,hi,hb,hk⟩;refine ⟨_,rfl,?_⟩;replace J:=kQ J hk a7.out;have Z:=amk (Kd.R_lower aA (keep_size (w:=w) (g:=g) (row:=none) bK));replace HK:=kT2 HK hk;replace HB:=amk (hb);replace HI0:=amk (hi);(try clear hb);(try clear hk);(try clear hi);(try clear aA)) | ((with_reducible refine gate_dst (N:=3) rfl ?_);refine boxG_ 3 #[.int .i64 0, .int .i64 0, .slice none 0 0] 28 ?_;intro a1 w8 hg Y hb;replace Z:=amk (Kd.R_below (oX Z) hb);replace HB:=hBI HB hb;have ax:=kS HK hg;have aQ:=kE aE ax;replace HK:=kT HK hb;have a8:=neL J hg;have ac:=neR J hg;replace J:=kb2 J hb;have al:=iL a6 ai aj hg;have aa:=iR a6 ai aj hg;replace HI0:=amk (IsS80.below bI hb);clear hb hg;have eo:=ac.out;have ep:=a8.out;have dL:=aa.out;have dM:=al.out;obtain ⟨aY,aZ,b3,b4,b5,b6⟩:=cells3 Y.out;obtain ⟨aT,aU,cH⟩:=Kd.R_slice Z.out;subst cH) | ((with_reducible refine gate_callee (f:=87) rfl ?_);refine goesL_ (some 7) rfl rfl Tryz.func87 (by kernel_rfl) rfl #[.pointer (some ⟨g,0,none⟩), .int .i64 12] rfl gL_ ?_;(with_reducible refine (spec_l1Cur_pick.calls g a6 ai aj 12 ak ay az w0 _ ?_ ?_ A3.out).mono ?_);exact bI;exact bBI;rintro e ey ⟨rfl,hi,hb,hk⟩;refine ⟨_,rfl,?_⟩;replace J:=kQ J hk a7.out;replace Z:=amk (Kd.R_mono (Kd.R_keep (IsS80.apart (show IsS80 w0 _ g a6 ai aj from bI) (by (with_reducible repeat (first | apply Kd.R_alloc | apply Kd.R_drewN | apply Kd.R_drew));exact (Kd.R_mono (Kd.R_far (p:=⟨a1,2,none⟩) (Kd.R_far (p:=⟨a1,1,none⟩) (Kd.R_far (p:=⟨a1,0,none⟩) (Kd.R_types Z.out Y.out (by decide)) (fun _ hk=>hk.2) (.int .i64 af)) (fun _ hk=>hk.2) (.int .i64 ag)) (fun _ hk=>hk.2) (.slice aT ah.length aU)) (fun _ h_=>h_.1))) (by decide)) hk (fun _ h=>h.2)) (fun _ h=>h.1));replace Y:=amk (KeepBut.blk hk (g':=a1) (o:= .cells #[.int .i64 af, .int .i64 ag, .slice aT ah.length aU] 28 (0,0)) (kP Y) aa.out (by simp));replace HK:=kT2 HK hk;replace HB:=amk (hb);replace HI0:=amk (hi);(try clear hb);(try clear hk);(try clear hi)) | ((with_reducible refine gate_callee (f:=90) rfl ?_);refine goesL_ (some 11) rfl rfl Tryz.func90 (by kernel_rfl) rfl #[.pointer (some ⟨g,0,none⟩)] rfl gL_ ?_;(with_reducible refine (spec_l1Cur_lock.calls g a6 ay az aD aG cF cG w0 _ ?_ ?_ A5.out).mono ?_);exact bI;exact bBI;rintro e ez ⟨rfl,hi,hb,hk⟩;refine ⟨_,rfl,?_⟩;replace J:=kQ J hk a7.out;replace Z:=amk (Kd.R_mono (Kd.R_keep (IsS80.apart (show IsS80 w0 _ g a6 ay az from bI) (oX Z) (by decide)) hk (fun _ h=>h.2)) (fun _ h=>h.1));replace Y:=kQ Y hk aa.out;replace HK:=kT2 HK hk;replace HB:=amk (hb);replace HI0:=amk (hi);(try clear hb);(try clear hk);(try clear hi);obtain ⟨b7,b8,b9,ba,bb,bc⟩:=cells3 Y.out;have dN:=a7.out;have dO:=am.out;obtain ⟨bd,be,bf,bg,bh,bi⟩:=cells3 J.out));refine bodyPost_ret (results_cell_row rfl _ _ ae 28 #[.int .i64 aD, .int .i64 aG, .slice aT ah.length aU] (0,0) _ rfl (by (with_reducible repeat (first | refine kn_ ?_ _ | refine blk_drew ?_ | refine ka_ ?_ _));refine blk_put (cs:= #[.int .i64 aD, .int .i64 aG, .slice none 0 0]) ?_ 2 _ rfl;(with_reducible repeat (first | refine kn_ ?_ _ | refine blk_drew ?_ | refine ka_ ?_ _));refine blk_put (cs:= #[.int .i64 aD, .int .i64 0, .slice none 0 0]) ?_ 1 _ rfl;(with_reducible repeat (first | refine kn_ ?_ _ | refine blk_drew ?_ | refine ka_ ?_ _));refine blk_put (cs:= #[.int .i64 0, .int .i64 0, .slice none 0 0]) ?_ 0 _ rfl;(with_reducible repeat (first | refine kn_ ?_ _ | refine blk_drew ?_ | refine ka_ ?_ _));refine blk_far ?_ a8.out _;(with_reducible repeat (first | refine kn_ ?_ _ | refine blk_drew ?_ | refine ka_ ?_ _));refine blk_far ?_ a8.out _;(with_reducible repeat (first | refine kn_ ?_ _ | refine blk_drew ?_ | refine ka_ ?_ _));exact J.out) Tryz.underlying28 rfl (by kernel_rfl)) rfl ?_;exact ⟨_,rF_,by (with_reducible repeat (first | apply Kd.R_alloc | apply Kd.R_drewN | apply Kd.R_drew));exact Kd.R_mono (Kd.R_far (p:=⟨ae,2,none⟩) (Kd.R_far (p:=⟨ae,1,none⟩) (Kd.R_far (p:=⟨ae,0,none⟩) (Kd.R_far (p:=⟨a1,1,none⟩) (Kd.R_far (p:=⟨a1,0,none⟩) (Kd.R_types (Kd.R_types Z.out Y.out (by decide)) J.out (by decide)) (fun _ hk=>hk.1.2) (.int .i64 aD)) (fun _ hk=>hk.1.2) (.int .i64 aG)) (fun _ hk=>hk.2) (.int .i64 aD)) (fun _ hk=>hk.2) (.int .i64 aG)) (fun _ hk=>hk.2) (.slice aT ah.length aU)) (fun _ hk=>trivial),bI,bBI,bK⟩
  · rw [if_neg c4] at H;have cm:(ak == 0)=false:=beq_eq_false_iff_ne.mpr c4;have cn:(ak != 0)=true:=bne_iff_ne.mpr c4
    by_cases c18:ak=1
    · rw [if_pos c18] at H;have bj:(ak == 1)=true:=beq_iff_eq.mpr c18;have bk:(ak != 1)=false:=bne_eq_false_iff_eq.mpr c18;clear c18;replace H:=bE H;obtain ⟨⟨aH,aI,aJ,cJ,cK⟩,dP,H⟩:=H;(try dsimp only at H)
      by_cases c20:ah.length < 5864062014805
      · rw [if_pos c20] at H;have cy:=amk c20;clear c20;(try rw [Option.bind_some] at H);generalize bl:((ah ++ [(⟨aH,aI,aJ⟩:S48)]):List (S48))=bm at H;have cz:=amk bl.symm;clear bl;simp only [Option.some.injEq,Prod.mk.injEq] at H;obtain ⟨rfl,rfl,rfl,rfl,rfl⟩:=H;go_enter Tryz.func63,Tryz.ntmps63;(try go_wp2_with (first | ((with_reducible refine gate_dst (N:=2) rfl ?_);refine boxG_ 2 #[.int .i64 0, .int .i64 0, .slice none 0 0] 28 ?_;intro ae eA hg J hb;replace HB:=hBI HB hb;have av:=kS HK hg;have aN:=kE aE av;replace HK:=kT HK hb;have am:=iL a6 ar au hg;have a7:=iR a6 ar au hg;replace HI0:=amk (IsS80.below bI hb);clear hb hg) | ((with_reducible refine gate_callee (f:=59) rfl ?_);refine goesL_ (some 5) rfl rfl Tryz.func59 (by kernel_rfl) rfl #[.pointer (some ⟨g,0,none⟩), .int .i64 5] rfl gL_ ?_;(with_reducible refine (spec_l1Cur_surePuzzle.calls k g a6 ar au 5 af ag ah ai aj w0 _ ?_ ?_ A2.out).mono ?_);exact bI;exact bBI;rintro e eB ⟨aX,rfl,aA,hi,hb,hk⟩;refine ⟨_,rfl,?_⟩;replace J:=kQ J hk a7.out;have Z:=amk (Kd.R_lower aA (keep_size (w:=w) (g:=g) (row:=none) bK));replace HK:=kT2 HK hk;replace HB:=amk (hb);replace HI0:=amk (hi);(try clear hb);(try clear hk);(try clear hi);(try clear aA)) | ((with_reducible refine gate_dst (N:=3) rfl ?_);refine boxG_ 3 #[.int .i64 0, .int .i64 0, .slice none 0 0] 28 ?_;intro a1 eC hg Y hb;replace Z:=amk (Kd.R_below (oX Z) hb);replace HB:=hBI HB hb;have ax:=kS HK hg;have aQ:=kE aE ax;replace HK:=kT HK hb;have a8:=neL J hg;have ac:=neR J hg;replace J:=kb2 J hb;have al:=iL a6 ai aj hg;have aa:=iR a6 ai aj hg;replace HI0:=amk (IsS80.below bI hb);clear hb hg;have dQ:=ac.out;have dR:=a8.out;have dS:=aa.out;have dT:=al.out;obtain ⟨bn,bo,bp,bq,br,bu⟩:=cells3 Y.out;obtain ⟨aK,aM,cL⟩:=Kd.R_slice Z.out;subst cL) | ((with_reducible refine gate_callee (f:=87) rfl ?_);refine goesL_ (some 7) rfl rfl Tryz.func87 (by kernel_rfl) rfl #[.pointer (some ⟨g,0,none⟩), .int .i64 12] rfl gL_ ?_;(with_reducible refine (spec_l1Cur_pick.calls g a6 ai aj 12 ak ay az w0 _ ?_ ?_ A3.out).mono ?_);exact bI;exact bBI;rintro e dU ⟨rfl,hi,hb,hk⟩;refine ⟨_,rfl,?_⟩;replace J:=kQ J hk a7.out;replace Z:=amk (Kd.R_mono (Kd.R_keep (IsS80.apart (show IsS80 w0 _ g a6 ai aj from bI) (by (with_reducible repeat (first | apply Kd.R_alloc | apply Kd.R_drewN | apply Kd.R_drew));exact (Kd.R_mono (Kd.R_far (p:=⟨a1,2,none⟩) (Kd.R_far (p:=⟨a1,1,none⟩) (Kd.R_far (p:=⟨a1,0,none⟩) (Kd.R_types Z.out Y.out (by decide)) (fun _ hk=>hk.2) (.int .i64 af)) (fun _ hk=>hk.2) (.int .i64 ag)) (fun _ hk=>hk.2) (.slice aK ah.length aM)) (fun _ h_=>h_.1))) (by decide)) hk (fun _ h=>h.2)) (fun _ h=>h.1));replace Y:=amk (KeepBut.blk hk (g':=a1) (o:= .cells #[.int .i64 af, .int .i64 ag, .slice aK ah.length aM] 28 (0,0)) (kP Y) aa.out (by simp));replace HK:=kT2 HK hk;replace HB:=amk (hb);replace HI0:=amk (hi);(try clear hb);(try clear hk);(try clear hi))));replace Z:=amk (Kd.R_drew Z.out);replace J:=amk (blk_drew J.out);replace Y:=amk (blk_drew Y.out);replace HI0:=amk (IsS80.drew HI0.out);replace HK:=amk (keep_drew HK.out);replace HB:=amk (bd_ HB.out);refine start_ (n:=8) (S:=fun w'=>w'.cell? ⟨a1,0,none⟩=some (.int .i64 af)∧w'.cell? ⟨a1,1,none⟩=some (.int .i64 ag)∧w'.cell? ⟨a1,2,none⟩=some (.slice aK ah.length aM)) (ds:=[7]) (bA 8 0) (by kernel_rfl) rfl rfl ⟨(blk_cell Y.out 0).trans rfl,(blk_cell Y.out 1).trans rfl,(blk_cell Y.out 2).trans rfl⟩ (fun hHeld=>?_);refine with_tabW spec_l1Cur_puzzle.tab6 spec_l1Cur_puzzle.bits6 (fun HT_ HW_=>?_);generalize dU.drew=eD at Z J Y HI0 HK HB hHeld ⊢;refine pU_ HT_ 0 (some 15) (bA 8 1) ?_;refine pU_ HT_ 2 (some 17) (bA 8 5) ?_;refine tK_ HT_ HW_ hHeld 1 (some 16) (bA 8 7) ?_;refine oN_ HT_ 3 (some 18) (bA 8 15) (fun K hK=>?_);refine goes_ Tryz.func91 (by kernel_rfl) rfl #[.pointer (some ⟨g,0,none⟩)] (by rfl) rfl rfl gL_ ?_;(with_reducible refine (spec_l1Cur_clue.calls k g a6 ay az aH aI aJ cJ cK w0 _ ?_ ?_ dP.out).mono ?_);exact bI;exact bBI;rintro e eE ⟨rfl,hi,hb,hk⟩;refine ⟨_,rfl,?_⟩;replace J:=kQ J hk a7.out;replace Z:=amk (Kd.R_mono (Kd.R_keep (IsS80.apart (show IsS80 w0 _ g a6 ay az from bI) (oX Z) (by decide)) hk (fun _ h=>h.2)) (fun _ h=>h.1));replace Y:=kQ Y hk aa.out;replace HK:=kT2 HK hk;replace HB:=amk (hb);replace HI0:=amk (hi);(try clear hb);(try clear hk);(try clear hi);refine hK.out _ _ hC_ (fun hHeld=>?_);clear hK K;refine nN_ (some 18) ?_;refine oN_ HT_ 4 (some 19) (bA 8 31) (fun K hK=>?_);refine value_ (w1:=?_) (v:=?_) (by rfl) rfl ?_ ?_;rotate_left 2
        · go_simp
          constructor
          · rfl
          · rfl
        refine hK.out _ _ ⟨(blk_cell (ka_ Y.out _) 0).trans rfl,(blk_cell (ka_ Y.out _) 1).trans rfl,(blk_cell (ka_ Y.out _) 2).trans rfl⟩ (fun hHeld=>?_);clear hK K;refine nN_ (some 19) ?_;refine oN_ HT_ 5 (some 20) (bA 8 63) (fun K hK=>?_);refine Kd.R_append_step k48 w.heap.size (by rfl) (.tmp 16) (.tmp 19) 26 48 (.agg #[(.int .i64 0),(.int .i64 0),(.int .i64 0)]) 24 rfl Tryz.underlying26 info48 rfl (by decide) (by omega) (.slice aK ah.length aM) ah (⟨aH,aI,aJ⟩:S48) [.int .i64 aH, .int .i64 aI, .int .i64 aJ] (fun _=>True) (fun _=>False) rfl rfl ?aP (fun _ hk=>hk.elim) ?aF ?aO (Below.refl _ _) ?aS ?aL ?_;(case aP=>exact k48_mkM _ _ _ (⟨aH,aI,aJ⟩:S48));(case aF=>exact (fun _ _=>trivial));(case aO=>exact (oX Z));(case aS=>exact (keep_size (w:=w) (g:=g) (row:=none) bK));(case aL=>have:=cy.out;omega);intro er dV ho hb hg hat;rw [←cz.out] at ho;replace J:=bG J hg (Kd.R_ne Z.out J.out (by decide));replace Y:=bG Y hg (Kd.R_ne Z.out Y.out (by decide));replace HB:=amk (below_weaken bBI HL.out hb);replace HI0:=amk (IsS80.grown bI hg (IsS80.own_ne HI0.out Z.out (by decide)));replace HK:=amk (KeepBut.trans bK (KeepBut.of_grown hg g) (Kd.R_base2 Z.out));have bv:=amk (ho);clear Z;clear ho hb hg hat;obtain ⟨bw,bz,co⟩:=Kd.R_slice bv.out;(first | subst co | (injection co with f1_ f2_ f3_;have f4_:=f1_.symm;have f5_:=f3_.symm;clear f1_ f2_ f3_;subst f4_;subst f5_));refine hK.out _ _ hC_ (fun hHeld=>?_);clear hK K;refine nN_ (some 20) ?_;refine pU_ HT_ 6 (some 21) (bA 8 127) ?_;refine last_ (i:=7) (N:=none) (bA 8 255) rfl rfl (one_of HT_.out (by kernel_rfl)) (by decide) (fun K hK=>?_);have eu:dV.cell? ⟨a1,2,none⟩=some (.slice aK ah.length aM):=(blk_cell Y.out 2).trans rfl;have dW:=blk_frozen Y.out 2;have cM:=a8.out;have cN:=ac.out;refine skip_ (w1:=?_) (by rfl) rfl ?_ ?_;rotate_left
        · go_simp
          rfl
        refine hK.out _ _ ?_;clear hK K;refine done_ (done_of HT_.out (by kernel_rfl)) ?_;obtain ⟨bC,bD,bF,bH,bJ,bL⟩:=cells3 Y.out;have dX:=a7.out;have dY:=am.out;obtain ⟨bM,bN,bO,bQ,bR,bS⟩:=cells3 J.out;(try go_wp2);refine bodyPost_ret (results_cell_row rfl _ _ ae 28 #[.int .i64 af, .int .i64 ag, .slice bw bm.length bz] (0,0) _ rfl (by (with_reducible repeat (first | refine kn_ ?_ _ | refine blk_drew ?_ | refine ka_ ?_ _));refine blk_put (cs:= #[.int .i64 af, .int .i64 ag, .slice none 0 0]) ?_ 2 _ rfl;(with_reducible repeat (first | refine kn_ ?_ _ | refine blk_drew ?_ | refine ka_ ?_ _));refine blk_put (cs:= #[.int .i64 af, .int .i64 0, .slice none 0 0]) ?_ 1 _ rfl;(with_reducible repeat (first | refine kn_ ?_ _ | refine blk_drew ?_ | refine ka_ ?_ _));refine blk_put (cs:= #[.int .i64 0, .int .i64 0, .slice none 0 0]) ?_ 0 _ rfl;(with_reducible repeat (first | refine kn_ ?_ _ | refine blk_drew ?_ | refine ka_ ?_ _));refine blk_far ?_ a8.out _;(with_reducible repeat (first | refine kn_ ?_ _ | refine blk_drew ?_ | refine ka_ ?_ _));exact J.out) Tryz.underlying28 rfl (by kernel_rfl)) rfl ?_;exact ⟨_,rF_,by (with_reducible repeat (first | apply Kd.R_alloc | apply Kd.R_drewN | apply Kd.R_drew));exact Kd.R_mono (Kd.R_far (p:=⟨ae,2,none⟩) (Kd.R_far (p:=⟨ae,1,none⟩) (Kd.R_far (p:=⟨ae,0,none⟩) (Kd.R_far (p:=⟨a1,2,none⟩) (Kd.R_types (Kd.R_types bv.out Y.out (by decide)) J.out (by decide)) (fun _ hk=>hk.1.2) (.slice bw bm.length bz)) (fun _ hk=>hk.2) (.int .i64 af)) (fun _ hk=>hk.2) (.int .i64 ag)) (fun _ hk=>hk.2) (.slice bw bm.length bz)) (fun _ hk=>trivial),bI,bBI,bK⟩
      · rw [if_neg c20] at H;exact absurd H (by simp)
    · rw [if_neg c18] at H;have bj:(ak == 1)=false:=beq_eq_false_iff_ne.mpr c18;have bk:(ak != 1)=true:=bne_iff_ne.mpr c18
      by_cases c37:ak=2
      · rw [if_pos c37] at H;have bT:(ak == 2)=true:=beq_iff_eq.mpr c37;have bU:(ak != 2)=false:=bne_eq_false_iff_eq.mpr c37;clear c37;have H':=amk H;clear H;go_enter Tryz.func63,Tryz.ntmps63;go_wp2_with (first | ((with_reducible refine gate_dst (N:=2) rfl ?_);refine boxG_ 2 #[.int .i64 0, .int .i64 0, .slice none 0 0] 28 ?_;intro ae eF hg J hb;replace HB:=hBI HB hb;have av:=kS HK hg;have aN:=kE aE av;replace HK:=kT HK hb;have am:=iL a6 ar au hg;have a7:=iR a6 ar au hg;replace HI0:=amk (IsS80.below bI hb);clear hb hg) | ((with_reducible refine gate_callee (f:=59) rfl ?_);refine goesL_ (some 5) rfl rfl Tryz.func59 (by kernel_rfl) rfl #[.pointer (some ⟨g,0,none⟩), .int .i64 5] rfl gL_ ?_;(with_reducible refine (spec_l1Cur_surePuzzle.calls k g a6 ar au 5 af ag ah ai aj w0 _ ?_ ?_ A2.out).mono ?_);exact bI;exact bBI;rintro e eG ⟨aX,rfl,aA,hi,hb,hk⟩;refine ⟨_,rfl,?_⟩;replace J:=kQ J hk a7.out;have Z:=amk (Kd.R_lower aA (keep_size (w:=w) (g:=g) (row:=none) bK));replace HK:=kT2 HK hk;replace HB:=amk (hb);replace HI0:=amk (hi);(try clear hb);(try clear hk);(try clear hi);(try clear aA)) | ((with_reducible refine gate_dst (N:=3) rfl ?_);refine boxG_ 3 #[.int .i64 0, .int .i64 0, .slice none 0 0] 28 ?_;intro a1 eH hg Y hb;replace Z:=amk (Kd.R_below (oX Z) hb);replace HB:=hBI HB hb;have ax:=kS HK hg;have aQ:=kE aE ax;replace HK:=kT HK hb;have a8:=neL J hg;have ac:=neR J hg;replace J:=kb2 J hb;have al:=iL a6 ai aj hg;have aa:=iR a6 ai aj hg;replace HI0:=amk (IsS80.below bI hb);clear hb hg;have dZ:=ac.out;have e1:=a8.out;have e2:=aa.out;have e3:=al.out;obtain ⟨bV,bW,bX,bY,bZ,c7⟩:=cells3 Y.out;obtain ⟨ca,cb,cO⟩:=Kd.R_slice Z.out;subst cO) | ((with_reducible refine gate_callee (f:=87) rfl ?_);refine goesL_ (some 7) rfl rfl Tryz.func87 (by kernel_rfl) rfl #[.pointer (some ⟨g,0,none⟩), .int .i64 12] rfl gL_ ?_;(with_reducible refine (spec_l1Cur_pick.calls g a6 ai aj 12 ak ay az w0 _ ?_ ?_ A3.out).mono ?_);exact bI;exact bBI;rintro e eI ⟨rfl,hi,hb,hk⟩;refine ⟨_,rfl,?_⟩;replace J:=kQ J hk a7.out;replace Z:=amk (Kd.R_mono (Kd.R_keep (IsS80.apart (show IsS80 w0 _ g a6 ai aj from bI) (by (with_reducible repeat (first | apply Kd.R_alloc | apply Kd.R_drewN | apply Kd.R_drew));exact (Kd.R_mono (Kd.R_far (p:=⟨a1,2,none⟩) (Kd.R_far (p:=⟨a1,1,none⟩) (Kd.R_far (p:=⟨a1,0,none⟩) (Kd.R_types Z.out Y.out (by decide)) (fun _ hk=>hk.2) (.int .i64 af)) (fun _ hk=>hk.2) (.int .i64 ag)) (fun _ hk=>hk.2) (.slice ca ah.length cb)) (fun _ h_=>h_.1))) (by decide)) hk (fun _ h=>h.2)) (fun _ h=>h.1));replace Y:=amk (KeepBut.blk hk (g':=a1) (o:= .cells #[.int .i64 af, .int .i64 ag, .slice ca ah.length cb] 28 (0,0)) (kP Y) aa.out (by simp));replace HK:=kT2 HK hk;replace HB:=amk (hb);replace HI0:=amk (hi);(try clear hb);(try clear hk);(try clear hi)))
        go_loopg [] k (fun kq w'=> ∃ (an:Int) (ap:Int) (ab:List (S48)) (aC:Value),Aside0 (spec_l1Cur_puzzle.l0 kq a6 an ap af ag ab=some (r1,r2,r3,r4,r5))∧Aside0 (kq≤k)∧Aside0 (Kd.R k48 48 w' w.heap.size (fun _=>True) aC ab)∧Aside0 (w'.heap[ae]?=some (.cells #[.int .i64 0, .int .i64 0,(.slice none 0 0)] 28 (0,0)))∧Aside0 (w'.heap[a1]?=some (.cells #[.int .i64 af, .int .i64 ag,aC] 28 (0,0)))∧Aside0 (IsS80 w0 w' g a6 an ap)∧Aside0 (KeepBut w w' g none)∧Aside0 (Below w0.heap.size w0 w'))
        case atStart=>exact ⟨(ay),(az),(ah),(.slice ca ah.length cb),H',⟨Nat.le_refl _⟩,⟨oX Z⟩,⟨kB J⟩,⟨kB Y⟩,⟨bI⟩,⟨bK⟩,⟨bBI⟩⟩
        case round =>
          clear H';(try clear c1);(try clear c2);(try clear p2);(try clear c3);(try clear c4);(try clear cm);(try clear cn);(try clear c5);(try clear c6);(try clear c8);(try clear c9);(try clear c10);(try clear c16);(try clear c18);(try clear bj);(try clear bk);(try clear c20);(try clear c24);(try clear c25);(try clear c35);(try clear c37);(try clear bT);(try clear bU);(try clear c41);(try clear c42);(try clear aY);(try clear aZ);(try clear b3);(try clear b7);(try clear b8);(try clear b9);(try clear bd);(try clear be);(try clear bf);(try clear bn);(try clear bo);(try clear bp);(try clear bC);(try clear bD);(try clear bF);(try clear bM);(try clear bN);(try clear bO);(try clear bV);(try clear bW);(try clear bX);(try clear b4);(try clear b5);(try clear b6);(try clear ba);(try clear bb);(try clear bc);(try clear bg);(try clear bh);(try clear bi);(try clear bq);(try clear br);(try clear bu);(try clear bH);(try clear bJ);(try clear bL);(try clear bQ);(try clear bR);(try clear bS);(try clear bY);(try clear bZ);(try clear c7);obtain ⟨an,ap,ab,aC,HA,cP,HO_421002,J,Y,HI0,HK,HB⟩:=hrel
          cases gk with
          | zero=>exact absurd HA.out (by simp [spec_l1Cur_puzzle.l0])
          | succ k1 =>
            have H:=HA.out;clear HA;simp only [spec_l1Cur_puzzle.l0] at H;replace H:=bE H;obtain ⟨⟨cp,cd,ce⟩,cQ,H⟩:=H;(try dsimp only at H);replace H:=iteE H;obtain ⟨cA,H⟩ | ⟨cA,H⟩:=H
            · by_cases c48:ab.length < 5864062014805
              · rw [if_pos c48] at H;have cC:=amk c48;clear c48;(try rw [Option.bind_some] at H);generalize cf:((ab ++ [(⟨4,2,0⟩:S48)]):List (S48))=cg at H;have cE:=amk cf.symm;clear cf;have H':=amk H;clear H;(try go_wp2);replace HO_421002:=amk (Kd.R_drew HO_421002.out);replace J:=amk (blk_drew J.out);replace Y:=amk (blk_drew Y.out);replace HI0:=amk (IsS80.drew HI0.out);replace HK:=amk (keep_drew HK.out);replace HB:=amk (bd_ HB.out);obtain ⟨cq,cr,cu⟩:=Kd.R_slice HO_421002.out;(first | subst cu | (injection cu with f1_ f2_ f3_;have f4_:=f1_.symm;have f5_:=f3_.symm;clear f1_ f2_ f3_;subst f4_;subst f5_));refine start_ (n:=7) (S:=fun w'=>w'.cell? ⟨a1,0,none⟩=some (.int .i64 af)∧w'.cell? ⟨a1,1,none⟩=some (.int .i64 ag)∧w'.cell? ⟨a1,2,none⟩=some (.slice cq ab.length cr)) (ds:=[]) (bA 7 0) (by kernel_rfl) rfl rfl ⟨(blk_cell Y.out 0).trans rfl,(blk_cell Y.out 1).trans rfl,(blk_cell Y.out 2).trans rfl⟩ (fun hHeld=>?_);generalize wr.drew=eJ at HO_421002 J Y HI0 HK HB hHeld ⊢;refine pure_ (i:=0) (N:=some 24) (v:=?_) (a':=?_) #[true,false,false,false,false,false,false] rfl rfl (by kernel_rfl) (fun _ _ _ h=>h) (Or.inl ⟨by rfl,?_⟩) ?_ ?_;rotate_left
                · intro w'
                  go_simp
                  (with_reducible rfl)
                rotate_left
                · simp only [Act.put,List.setIfInBounds_toArray,List.set_cons_zero,List.set_cons_succ,i64_w,i32_w]
                  rfl
                refine pure_ (i:=3) (N:=some 27) (v:=?_) (a':=?_) #[true,false,false,true,false,false,false] rfl rfl (by kernel_rfl) (fun _ _ _ h=>h) (Or.inl ⟨by rfl,?_⟩) ?_ ?_;rotate_left
                · intro w'
                  go_simp
                  (with_reducible rfl)
                rotate_left
                · simp only [Act.put,List.setIfInBounds_toArray,List.set_cons_zero,List.set_cons_succ,i64_w,i32_w]
                  rfl
                refine take_ (i:=1) (N:=some 25) (v:=?_) (a':=?_) #[true,true,false,true,false,false,false] rfl rfl (by kernel_rfl) (fun _ _ _ h=>h) (Or.inl ⟨by rfl,?_⟩) hHeld ?_ ?_;rotate_left
                · rintro w' ⟨s0,s1,s2⟩
                  go_simp
                  (with_reducible rfl)
                rotate_left
                · simp only [Act.put,List.setIfInBounds_toArray,List.set_cons_zero,List.set_cons_succ,i64_w,i32_w]
                  rfl
                refine pure_ (i:=2) (N:=some 26) (v:=?_) (a':=?_) #[true,true,true,true,false,false,false] rfl rfl (by kernel_rfl) (fun _ _ _ h=>h) (Or.inl ⟨by rfl,?_⟩) ?_ ?_;rotate_left
                · intro w'
                  go_simp
                  (with_reducible rfl)
                rotate_left
                · simp only [Act.put,List.setIfInBounds_toArray,List.set_cons_zero,List.set_cons_succ,i64_w,i32_w]
                  rfl
                refine one_ (i:=4) (N:=some 28) #[true,true,true,true,true,false,false] rfl rfl (by kernel_rfl) (by decide) (fun K hK=>?_);refine goes_ Tryz.func87 (by kernel_rfl) rfl #[.pointer (some ⟨g,0,none⟩), .int .i64 2] (by rfl) rfl rfl gL_ ?_;(with_reducible refine (spec_l1Cur_pick.calls g a6 an ap 2 cp cd ce w0 _ ?_ ?_ cQ.out).mono ?_);exact bI;exact bBI;rintro e eK ⟨rfl,hi,hb,hk⟩;refine ⟨_,rfl,?_⟩;replace HO_421002:=amk (Kd.R_mono (Kd.R_keep (IsS80.apart (show IsS80 w0 _ g a6 an ap from bI) (oX HO_421002) (by decide)) hk (fun _ h=>h.2)) (fun _ h=>h.1));replace J:=kQ J hk a7.out;replace Y:=kQ Y hk aa.out;replace HK:=kT2 HK hk;replace HB:=amk (hb);replace HI0:=amk (hi);(try clear hb);(try clear hk);(try clear hi);refine hK.out _ _ hC_ (fun hHeld=>?_);clear hK K;refine nN_ (some 28) ?_;refine pure_ (i:=5) (N:=some 29) (v:=?_) (a':=?_) #[true,true,true,true,true,true,false] rfl rfl (by kernel_rfl) (fun _ _ _ h=>h) (Or.inl ⟨by rfl,?_⟩) ?_ ?_;rotate_left
                · intro w'
                  go_simp
                  (with_reducible rfl)
                rotate_left
                · simp only [Act.put,List.setIfInBounds_toArray,List.set_cons_zero,List.set_cons_succ,i64_w,i32_w]
                  rfl
                refine pure_ (i:=6) (N:=some 30) (v:=?_) (a':=?_) #[true,true,true,true,true,true,true] rfl rfl (by kernel_rfl) (fun _ _ _ h=>h) (Or.inl ⟨by rfl,?_⟩) ?_ ?_;rotate_left
                · intro w'
                  go_simp
                  (with_reducible rfl)
                rotate_left
                · simp only [Act.put,List.setIfInBounds_toArray,List.set_cons_zero,List.set_cons_succ,i64_w,i32_w]
                  rfl
                refine done_ (by kernel_rfl) ?_;have e4:=ac.out;have e5:=a8.out;have e6:=aa.out;have e7:=al.out;obtain ⟨cS,cT,cV,cW,cX,cY⟩:=cells3 Y.out;(try go_wp2_with (first | ((with_reducible refine gate_builtin (b:= .append) (xs:= #[.tmp 32, .tmp 34]) rfl ?_);at_builtin;refine Kd.R_append k48 w.heap.size rfl (.tmp 32) (.tmp 34) 26 48 (.agg #[(.int .i64 0),(.int .i64 0),(.int .i64 0)]) 24 rfl Tryz.underlying26 info48 rfl (by decide) (by omega) (.slice cq ab.length cr) ab (⟨4,2,0⟩:S48) [.int .i64 4, .int .i64 2, .int .i64 0] (fun _=>True) (fun _=>False) rfl rfl (k48_mkM _ _ _ (⟨4,2,0⟩:S48)) (fun _ hk=>hk.elim) (fun _ _=>trivial) (oX HO_421002) (Below.refl _ _) (keep_size (w:=w) (g:=g) (row:=none) bK) (by have:=cC.out;omega) ?_;intro ew eL ho hb hg hat;rw [←cE.out] at ho;replace J:=bG J hg (Kd.R_ne HO_421002.out J.out (by decide));replace Y:=bG Y hg (Kd.R_ne HO_421002.out Y.out (by decide));replace HB:=amk (below_weaken bBI HL.out hb);replace HI0:=amk (IsS80.grown bI hg (IsS80.own_ne HI0.out HO_421002.out (by decide)));replace HK:=amk (KeepBut.trans bK (KeepBut.of_grown hg g) (Kd.R_base2 HO_421002.out));have ci:=amk (ho);clear HO_421002;clear ho hb hg hat;obtain ⟨cv,cw,cZ⟩:=Kd.R_slice ci.out;subst cZ;obtain ⟨d5,d6,d7,d8,d9,da⟩:=cells3 Y.out)));go_roundg k1
                case measure=>have:=cP.out;omega
                case rel=>exact ⟨(cd),(ce),(cg),(.slice cv cg.length cw),H',⟨by have:=cP.out;omega⟩,⟨by (with_reducible repeat (first | apply Kd.R_alloc | apply Kd.R_drewN | apply Kd.R_drew));exact Kd.R_mono (Kd.R_far (p:=⟨a1,2,none⟩) (Kd.R_types ci.out Y.out (by decide)) (fun _ hk=>hk.2) (.slice cv cg.length cw)) (fun _ hk=>trivial)⟩,⟨kB J⟩,⟨kP Y⟩,⟨bI⟩,⟨bK⟩,⟨bBI⟩⟩
              · rw [if_neg c48] at H;exact absurd H (by simp)
            · simp only [Option.some.injEq,Prod.mk.injEq] at H;obtain ⟨rfl,rfl,rfl,rfl,rfl⟩:=H;(try go_wp2);replace HO_421002:=amk (Kd.R_drew HO_421002.out);replace J:=amk (blk_drew J.out);replace Y:=amk (blk_drew Y.out);replace HI0:=amk (IsS80.drew HI0.out);replace HK:=amk (keep_drew HK.out);replace HB:=amk (bd_ HB.out);obtain ⟨cj,ck,cx⟩:=Kd.R_slice HO_421002.out;(first | subst cx | (injection cx with f1_ f2_ f3_;have f4_:=f1_.symm;have f5_:=f3_.symm;clear f1_ f2_ f3_;subst f4_;subst f5_));refine start_ (n:=7) (S:=fun w'=>w'.cell? ⟨a1,0,none⟩=some (.int .i64 af)∧w'.cell? ⟨a1,1,none⟩=some (.int .i64 ag)∧w'.cell? ⟨a1,2,none⟩=some (.slice cj ab.length ck)) (ds:=[]) (bA 7 0) (by kernel_rfl) rfl rfl ⟨(blk_cell Y.out 0).trans rfl,(blk_cell Y.out 1).trans rfl,(blk_cell Y.out 2).trans rfl⟩ (fun hHeld=>?_);generalize wr.drew=eM at HO_421002 J Y HI0 HK HB hHeld ⊢;refine pure_ (i:=0) (N:=some 24) (v:=?_) (a':=?_) #[true,false,false,false,false,false,false] rfl rfl (by kernel_rfl) (fun _ _ _ h=>h) (Or.inl ⟨by rfl,?_⟩) ?_ ?_;rotate_left
              · intro w'
                go_simp
                (with_reducible rfl)
              rotate_left
              · simp only [Act.put,List.setIfInBounds_toArray,List.set_cons_zero,List.set_cons_succ,i64_w,i32_w]
                rfl
              refine pure_ (i:=3) (N:=some 27) (v:=?_) (a':=?_) #[true,false,false,true,false,false,false] rfl rfl (by kernel_rfl) (fun _ _ _ h=>h) (Or.inl ⟨by rfl,?_⟩) ?_ ?_;rotate_left
              · intro w'
                go_simp
                (with_reducible rfl)
              rotate_left
              · simp only [Act.put,List.setIfInBounds_toArray,List.set_cons_zero,List.set_cons_succ,i64_w,i32_w]
                rfl
              refine take_ (i:=1) (N:=some 25) (v:=?_) (a':=?_) #[true,true,false,true,false,false,false] rfl rfl (by kernel_rfl) (fun _ _ _ h=>h) (Or.inl ⟨by rfl,?_⟩) hHeld ?_ ?_;rotate_left
              · rintro w' ⟨s0,s1,s2⟩
                go_simp
                (with_reducible rfl)
              rotate_left
              · simp only [Act.put,List.setIfInBounds_toArray,List.set_cons_zero,List.set_cons_succ,i64_w,i32_w]
                rfl
              refine pure_ (i:=2) (N:=some 26) (v:=?_) (a':=?_) #[true,true,true,true,false,false,false] rfl rfl (by kernel_rfl) (fun _ _ _ h=>h) (Or.inl ⟨by rfl,?_⟩) ?_ ?_;rotate_left
              · intro w'
                go_simp
                (with_reducible rfl)
              rotate_left
              · simp only [Act.put,List.setIfInBounds_toArray,List.set_cons_zero,List.set_cons_succ,i64_w,i32_w]
                rfl
              refine one_ (i:=4) (N:=some 28) #[true,true,true,true,true,false,false] rfl rfl (by kernel_rfl) (by decide) (fun K hK=>?_);refine goes_ Tryz.func87 (by kernel_rfl) rfl #[.pointer (some ⟨g,0,none⟩), .int .i64 2] (by rfl) rfl rfl gL_ ?_;(with_reducible refine (spec_l1Cur_pick.calls g a6 an ap 2 cp cd ce w0 _ ?_ ?_ cQ.out).mono ?_);exact bI;exact bBI;rintro e eN ⟨rfl,hi,hb,hk⟩;refine ⟨_,rfl,?_⟩;replace HO_421002:=amk (Kd.R_mono (Kd.R_keep (IsS80.apart (show IsS80 w0 _ g a6 an ap from bI) (oX HO_421002) (by decide)) hk (fun _ h=>h.2)) (fun _ h=>h.1));replace J:=kQ J hk a7.out;replace Y:=kQ Y hk aa.out;replace HK:=kT2 HK hk;replace HB:=amk (hb);replace HI0:=amk (hi);(try clear hb);(try clear hk);(try clear hi);refine hK.out _ _ hC_ (fun hHeld=>?_);clear hK K;refine nN_ (some 28) ?_;refine pure_ (i:=5) (N:=some 29) (v:=?_) (a':=?_) #[true,true,true,true,true,true,false] rfl rfl (by kernel_rfl) (fun _ _ _ h=>h) (Or.inl ⟨by rfl,?_⟩) ?_ ?_;rotate_left
              · intro w'
                go_simp
                (with_reducible rfl)
              rotate_left
              · simp only [Act.put,List.setIfInBounds_toArray,List.set_cons_zero,List.set_cons_succ,i64_w,i32_w]
                rfl
              refine pure_ (i:=6) (N:=some 30) (v:=?_) (a':=?_) #[true,true,true,true,true,true,true] rfl rfl (by kernel_rfl) (fun _ _ _ h=>h) (Or.inl ⟨by rfl,?_⟩) ?_ ?_;rotate_left
              · intro w'
                go_simp
                (with_reducible rfl)
              rotate_left
              · simp only [Act.put,List.setIfInBounds_toArray,List.set_cons_zero,List.set_cons_succ,i64_w,i32_w]
                rfl
              refine done_ (by kernel_rfl) ?_;have e8:=ac.out;have e9:=a8.out;have ea:=aa.out;have eb:=al.out;obtain ⟨db,dc,de,df,dh,di⟩:=cells3 Y.out;have ec:=a7.out;have ed:=am.out;obtain ⟨dj,dl,dm,dn,dp,dq⟩:=cells3 J.out;(try go_wp2);refine bodyPost_ret (results_cell_row rfl _ _ ae 28 #[.int .i64 af, .int .i64 ag, .slice cj ab.length ck] (0,0) _ rfl (kP J) Tryz.underlying28 rfl (by kernel_rfl)) rfl ?_;exact ⟨_,rF_,by (with_reducible repeat (first | apply Kd.R_alloc | apply Kd.R_drewN | apply Kd.R_drew));exact Kd.R_mono (Kd.R_far (p:=⟨ae,2,none⟩) (Kd.R_far (p:=⟨ae,1,none⟩) (Kd.R_far (p:=⟨ae,0,none⟩) (Kd.R_types HO_421002.out J.out (by decide)) (fun _ hk=>hk.2) (.int .i64 af)) (fun _ hk=>hk.2) (.int .i64 ag)) (fun _ hk=>hk.2) (.slice cj ab.length ck)) (fun _ hk=>trivial),bI,bBI,bK⟩
      · rw [if_neg c37] at H;have bT:(ak == 2)=false:=beq_eq_false_iff_ne.mpr c37;have bU:(ak != 2)=true:=bne_iff_ne.mpr c37;simp only [Option.some.injEq,Prod.mk.injEq] at H;obtain ⟨rfl,rfl,rfl,rfl,rfl⟩:=H;go_enter Tryz.func63,Tryz.ntmps63;go_wp2_with (first | ((with_reducible refine gate_dst (N:=2) rfl ?_);refine boxG_ 2 #[.int .i64 0, .int .i64 0, .slice none 0 0] 28 ?_;intro ae eO hg J hb;replace HB:=hBI HB hb;have av:=kS HK hg;have aN:=kE aE av;replace HK:=kT HK hb;have am:=iL a6 ar au hg;have a7:=iR a6 ar au hg;replace HI0:=amk (IsS80.below bI hb);clear hb hg) | ((with_reducible refine gate_callee (f:=59) rfl ?_);refine goesL_ (some 5) rfl rfl Tryz.func59 (by kernel_rfl) rfl #[.pointer (some ⟨g,0,none⟩), .int .i64 5] rfl gL_ ?_;(with_reducible refine (spec_l1Cur_surePuzzle.calls k g a6 ar au 5 af ag ah ai aj w0 _ ?_ ?_ A2.out).mono ?_);exact bI;exact bBI;rintro e eP ⟨aX,rfl,aA,hi,hb,hk⟩;refine ⟨_,rfl,?_⟩;replace J:=kQ J hk a7.out;have Z:=amk (Kd.R_lower aA (keep_size (w:=w) (g:=g) (row:=none) bK));replace HK:=kT2 HK hk;replace HB:=amk (hb);replace HI0:=amk (hi);(try clear hb);(try clear hk);(try clear hi);(try clear aA)) | ((with_reducible refine gate_dst (N:=3) rfl ?_);refine boxG_ 3 #[.int .i64 0, .int .i64 0, .slice none 0 0] 28 ?_;intro a1 eQ hg Y hb;replace Z:=amk (Kd.R_below (oX Z) hb);replace HB:=hBI HB hb;have ax:=kS HK hg;have aQ:=kE aE ax;replace HK:=kT HK hb;have a8:=neL J hg;have ac:=neR J hg;replace J:=kb2 J hb;have al:=iL a6 ai aj hg;have aa:=iR a6 ai aj hg;replace HI0:=amk (IsS80.below bI hb);clear hb hg;have ee:=ac.out;have ef:=a8.out;have eg:=aa.out;have eh:=al.out;obtain ⟨dr,dt,du,dv,dw,dx⟩:=cells3 Y.out;obtain ⟨aV,aW,dy⟩:=Kd.R_slice Z.out;subst dy) | ((with_reducible refine gate_callee (f:=87) rfl ?_);refine goesL_ (some 7) rfl rfl Tryz.func87 (by kernel_rfl) rfl #[.pointer (some ⟨g,0,none⟩), .int .i64 12] rfl gL_ ?_;(with_reducible refine (spec_l1Cur_pick.calls g a6 ai aj 12 ak ay az w0 _ ?_ ?_ A3.out).mono ?_);exact bI;exact bBI;rintro e eR ⟨rfl,hi,hb,hk⟩;refine ⟨_,rfl,?_⟩;replace J:=kQ J hk a7.out;replace Z:=amk (Kd.R_mono (Kd.R_keep (IsS80.apart (show IsS80 w0 _ g a6 ai aj from bI) (by (with_reducible repeat (first | apply Kd.R_alloc | apply Kd.R_drewN | apply Kd.R_drew));exact (Kd.R_mono (Kd.R_far (p:=⟨a1,2,none⟩) (Kd.R_far (p:=⟨a1,1,none⟩) (Kd.R_far (p:=⟨a1,0,none⟩) (Kd.R_types Z.out Y.out (by decide)) (fun _ hk=>hk.2) (.int .i64 af)) (fun _ hk=>hk.2) (.int .i64 ag)) (fun _ hk=>hk.2) (.slice aV ah.length aW)) (fun _ h_=>h_.1))) (by decide)) hk (fun _ h=>h.2)) (fun _ h=>h.1));replace Y:=amk (KeepBut.blk hk (g':=a1) (o:= .cells #[.int .i64 af, .int .i64 ag, .slice aV ah.length aW] 28 (0,0)) (kP Y) aa.out (by simp));replace HK:=kT2 HK hk;replace HB:=amk (hb);replace HI0:=amk (hi);(try clear hb);(try clear hk);(try clear hi);obtain ⟨dz,dA,dB,dC,dD,dE⟩:=cells3 Y.out;have ei:=a7.out;have ej:=am.out;obtain ⟨dF,dG,dH,dI,dJ,dK⟩:=cells3 J.out));refine bodyPost_ret (results_cell_row rfl _ _ ae 28 #[.int .i64 af, .int .i64 ag, .slice aV ah.length aW] (0,0) _ rfl (kP J) Tryz.underlying28 rfl (by kernel_rfl)) rfl ?_;exact ⟨_,rF_,by (with_reducible repeat (first | apply Kd.R_alloc | apply Kd.R_drewN | apply Kd.R_drew));exact Kd.R_mono (Kd.R_far (p:=⟨ae,2,none⟩) (Kd.R_far (p:=⟨ae,1,none⟩) (Kd.R_far (p:=⟨ae,0,none⟩) (Kd.R_types Z.out J.out (by decide)) (fun _ hk=>hk.2) (.int .i64 af)) (fun _ hk=>hk.2) (.int .i64 ag)) (fun _ hk=>hk.2) (.slice aV ah.length aW)) (fun _ hk=>trivial),bI,bBI,bK⟩
/-! The draws of locks, codes, clues and puzzles come to an end, and what they give is small. -/
theorem dpickB_ok {s:List Int} (hs:BytesV s) {a:Int} (h0:0≤a) (h1:a≤100000000) (b:Int) {n:Int} (hn:200 < n) : ∃ r a' b',spec_l1Cur_pick.f s a b n=some (r,a',b')∧0≤r∧r < n∧a≤a'∧a'≤a + 2:=by
  unfold spec_l1Cur_pick.f
  obtain ⟨r,b1,e,r0,r1⟩:=dnext_ok hs h0 (by omega) b
  obtain ⟨r2,b2,e2,s0,s1⟩:=dnext_ok hs (a:=a + 1) (by omega) (by omega) b1
  rw [if_neg (by omega),e]
  show ∃ r_ a' b'_,(if n > 200 then (spec_l1Cur_next.f s (a + 1) b1).bind _ else _)=some (r_,a',b'_)∧_
  rw [if_pos (by omega),e2]
  show ∃ r_ a' b'_,(if n=0 then none else some _)=some (r_,a',b'_)∧_
  rw [if_neg (by omega)]
  have hw:wrap64 (wrap64 (r * 256) + r2)=r * 256 + r2:=by rw [w64 (x:=r * 256) (by omega) (by omega),w64 (by omega) (by omega)]
  refine ⟨_,a + 1 + 1,b2,rfl,?_,?_,by omega,by omega⟩
  · dsimp only;rw [hw];exact Int.tmod_nonneg _ (by omega)
  · exact Int.tmod_lt_of_pos _ (by omega)
theorem lockT_ok {x:Int} (h:0≤x∧x < 8):lockB (lockSr x).1 (lockSr x).2=true∧(lockSr x).2 ^ (lockSr x).1.toNat≤100:=by
  have hc:x=0∨x=1∨x=2∨x=3∨x=4∨x=5∨x=6∨x=7:=by omega
  rcases hc with rfl | rfl | rfl | rfl | rfl | rfl | rfl | rfl <;> decide
theorem dsure_ok {s:List Int} (hs:BytesV s) {a:Int} (h0:0≤a) (h1:a≤100000000) (b:Int) : ∃ w d a' b',spec_l1Cur_sureLock.f s a b=some (w,d,a',b')∧lockB w d=true∧d ^ w.toNat≤100∧a≤a'∧a'≤a + 1:=by
  obtain ⟨r,a',b',e,r0,r1,h2,h3⟩:=dpick_ok hs h0 (by omega) b (n:=8) (by omega)
  have hr:0≤r∧r < 8:=by omega
  unfold spec_l1Cur_sureLock.f
  rw [e]
  show ∃ w d a'_ b'_,(if 0≤r∧r < 8 then some _ else none)=some (w,d,a'_,b'_)∧_
  rw [if_pos hr]
  exact ⟨_,_,_,_,rfl,(lockT_ok hr).1,(lockT_ok hr).2,h2,h3⟩
theorem dlock_ok {s:List Int} (hs:BytesV s) {a:Int} (h0:0≤a) (h1:a≤90000000) (b:Int) : ∃ w d a' b',spec_l1Cur_lock.f s a b=some (w,d,a',b')∧a≤a'∧a'≤a + 3:=by
  obtain ⟨r,a1,b1,e1,g1,g2⟩:=done_ok hs h0 (by omega) b (n:=14) (by omega)
  unfold spec_l1Cur_lock.f
  rw [e1,Option.bind_some]
  cases r with
  | true =>
    obtain ⟨x,a2,b2,e2,_,g3,g4⟩:=damong_ok hs (a:=a1) (by omega) (by omega) b1 (l:=[0,(-1),1,6,7,4611686018427387904]) (by decide) (by decide)
    obtain ⟨y,a3,b3,e3,_,g5,g6⟩:=damong_ok hs (a:=a2) (by omega) (by omega) b2 (l:=[1,2,3,10,11,(-1)]) (by decide) (by decide)
    dsimp only
    rw [if_pos rfl,e2,Option.bind_some]
    dsimp only
    rw [e3,Option.bind_some]
    exact ⟨x,y,a3,b3,rfl,by omega,by omega⟩
  | false =>
    obtain ⟨w,d,a2,b2,e2,_,_,g3,g4⟩:=dsure_ok hs (a:=a1) (by omega) (by omega) b1
    dsimp only
    rw [if_neg (by decide),e2,Option.bind_some]
    exact ⟨w,d,a2,b2,rfl,by omega,by omega⟩
theorem dhidden_ok {s:List Int} (hs:BytesV s) {a:Int} (h0:0≤a) (h1:a≤90000000) (b:Int) : ∃ w d t a' b',Ev (fun k=>spec_l1Cur_hidden.f k s a b) (w,d,t,a',b')∧lockB w d=true∧d ^ w.toNat≤100∧codeS w d t∧a≤a'∧a'≤a + 2:=by
  obtain ⟨w,d,a1,b1,e1,hl,hc,g1,g2⟩:=dsure_ok hs h0 (by omega) b
  obtain ⟨x,a2,b2,e2,x0,x1,g3,g4⟩:=dpick_ok hs (a:=a1) (by omega) (by omega) b1 (n:=d ^ w.toNat) (by omega)
  refine ⟨w,d,codeB w d x,a2,b2,?_,hl,hc,codeB_code hl,by omega,by omega⟩
  unfold spec_l1Cur_hidden.f
  have hcb:=count_bound hl
  exact Ev.bindc e1 (Ev.bind (spec_whCount.ev hl) (Ev.bindc e2 (Ev.bind (spec_whOf.ev hl x0 (by omega)) (Ev.now _))))
theorem dclue_ok {s:List Int} (hs:BytesV s) {a:Int} (h0:0≤a) (h1:a≤90000000) (b:Int) : ∃ x y z a' b',Ev (fun k=>spec_l1Cur_clue.f k s a b) (x,y,z,a',b')∧a≤a'∧a'≤a + 7:=by
  obtain ⟨r1,a1,b1,e1,_,_,g1,g2⟩:=dpick_ok hs h0 (by omega) b (n:=5) (by omega)
  obtain ⟨r2,a2,b2,e2,_,_,g3,g4⟩:=dpick_ok hs (a:=a1) (by omega) (by omega) b1 (n:=9) (by omega)
  obtain ⟨r3,a3,b3,e3,_,_,g5,g6⟩:=dpick_ok hs (a:=a2) (by omega) (by omega) b2 (n:=6) (by omega)
  obtain ⟨r4,a4,b4,e4,_,_,g7,g8⟩:=dpick_ok hs (a:=a3) (by omega) (by omega) b3 (n:=9) (by omega)
  have hj : ∀ (q:Bool) (a5 b5 x y z:Int),0≤a5→a5≤90000010→∃ z' a' b',Ev (fun k=>spec_l1Cur_clue.j0 k q s a5 b5 x y z) (x,y,z',a',b')∧a5≤a'∧a'≤a5 + 2:=by
    intro q a5 b5 x y z J Y
    cases q with
    | true =>
      obtain ⟨r5,a6,b6,e5,_,_,g9,g10⟩:=dpick_ok hs J (by omega) b5 (n:=4) (by omega)
      obtain ⟨r6,a7,b7,e6,_,_,g11,g12⟩:=dpick_ok hs (a:=a6) (by omega) (by omega) b6 (n:=9) (by omega)
      refine ⟨wrap64 (r5 - wrap64 (Int.tdiv r6 8)),a7,b7,Ev.step (fun k=>rfl) ?_,by omega,by omega⟩
      simp only [spec_l1Cur_clue.j0]
      first
      | exact Ev.yes trivial (Ev.bindc e5 (Ev.bindc e6 (Ev.now _)))
      | exact Ev.bindc e5 (Ev.bindc e6 (Ev.now _))
    | false =>
      refine ⟨z,a5,b5,Ev.step (fun k=>rfl) ?_,by omega,by omega⟩
      simp only [spec_l1Cur_clue.j0]
      first
      | exact Ev.no (by decide) (Ev.now _)
      | exact Ev.no (by simp) (Ev.now _)
      | exact Ev.now _
  unfold spec_l1Cur_clue.f
  by_cases hk:wrap64 (r1 + wrap64 (Int.tdiv r2 8))=1
  · obtain ⟨q,a5,b5,e5,g9,g10⟩:=done_ok hs (a:=a4) (by omega) (by omega) b4 (n:=8) (by omega)
    obtain ⟨z',a',b',ej,g11,g12⟩:=hj q a5 b5 (wrap64 (r1 + wrap64 (Int.tdiv r2 8))) (wrap64 (r3 - wrap64 (Int.tdiv r4 8))) 0 (by omega) (by omega)
    exact ⟨_,_,_,_,_,Ev.bindc e1 (Ev.bindc e2 (Ev.bindc e3 (Ev.bindc e4 (Ev.yes hk (Ev.bindc e5 ej))))),by omega,by omega⟩
  · obtain ⟨z',a',b',ej,g11,g12⟩:=hj true a4 b4 (wrap64 (r1 + wrap64 (Int.tdiv r2 8))) (wrap64 (r3 - wrap64 (Int.tdiv r4 8))) 0 (by omega) (by omega)
    exact ⟨_,_,_,_,_,Ev.bindc e1 (Ev.bindc e2 (Ev.bindc e3 (Ev.bindc e4 (Ev.no hk ej)))),by omega,by omega⟩
theorem dsureP_ok {s:List Int} (hs:BytesV s) {a:Int} (h0:0≤a) (h1:a≤80000000) (b:Int) {n:Int} (hn:0≤n∧n≤5) : ∃ w d l a' b',Ev (fun k=>spec_l1Cur_surePuzzle.f k s a b n) (w,d,l,a',b')∧l.length≤6∧a≤a'∧a'≤a + 6:=by
  obtain ⟨w,d,t,a1,b1,e1,_,_,_,g1,g2⟩:=dhidden_ok hs h0 (by omega) b
  obtain ⟨x,a2,b2,e2,_,_,g3,g4⟩:=dpick_ok hs (a:=a1) (by omega) (by omega) b1 (n:=wrap64 (n + 1)) (by rw [w64 (by omega) (by omega)];omega)
  obtain ⟨y,a3,b3,e3,_,_,g5,g6⟩:=dpickB_ok hs (a:=a2) (by omega) (by omega) b2 (n:=10000) (by omega)
  unfold spec_l1Cur_surePuzzle.f
  exact ⟨(makeR w d t x y).1,(makeR w d t x y).2.1,(makeR w d t x y).2.2.1,a3,b3,Ev.bind e1 (Ev.bindc e2 (Ev.bindc e3 (Ev.bind (spec_MakePuzzle.ev w d t x y) (Ev.now _)))),makeR_len w d t x y,by omega,by omega⟩
theorem dpuzzle_ok {s:List Int} (hs:BytesV s) {a:Int} (h0:0≤a) (h1:a≤80000000) (b:Int) : ∃ w d l a' b',Ev (fun k=>spec_l1Cur_puzzle.f k s a b) (w,d,l,a',b')∧l.length≤20∧a≤a'∧a'≤a + 60:=by
  obtain ⟨w,d,l,a1,b1,e1,hl,g1,g2⟩:=dsureP_ok hs h0 h1 b (n:=5) (by omega)
  obtain ⟨x,a2,b2,e2,_,_,g3,g4⟩:=dpick_ok hs (a:=a1) (by omega) (by omega) b1 (n:=12) (by omega)
  have loop : ∀ (m:Nat) (l:List S48) (a b:Int),0≤a→a + m≤80001000→l.length + m=10→∃ l' a' b',Ev (fun k=>spec_l1Cur_puzzle.l0 k s a b w d l) (w,d,l',a',b')∧l'.length≤10∧a≤a'∧a'≤a + m + 1:=by
    intro m
    induction m with
    | zero =>
      intro l a b q0 q1 q2
      obtain ⟨r,a2,b2,e2,r0,r1,g3,g4⟩:=dpick_ok hs q0 (by omega) b (n:=2) (by omega)
      exact ⟨l,a2,b2,Ev.step (fun k=>rfl) (Ev.bindc e2 (Ev.no (by rw [w64 (by omega) (by omega)];omega) (Ev.now _))),by omega,by omega,by omega⟩
    | succ m ih =>
      intro l a b q0 q1 q2
      obtain ⟨r,a2,b2,e2,r0,r1,g3,g4⟩:=dpick_ok hs q0 (by omega) b (n:=2) (by omega)
      by_cases hc:(l.length:Int) < wrap64 (6 + r)
      · obtain ⟨l',a',b',e3,g5,g6,g7⟩:=ih (l ++ [(⟨4,2,0⟩:S48)]) a2 b2 (by omega) (by omega) (by rw [List.length_append,List.length_singleton];omega)
        exact ⟨l',a',b',Ev.step (fun k=>rfl) (Ev.bindc e2 (Ev.yes hc (Ev.yes (by omega) e3))),g5,by omega,by omega⟩
      · exact ⟨l,a2,b2,Ev.step (fun k=>rfl) (Ev.bindc e2 (Ev.no hc (Ev.now _))),by omega,by omega,by omega⟩
  unfold spec_l1Cur_puzzle.f
  by_cases c0:x=0
  · obtain ⟨w2,d2,a3,b3,e3,g5,g6⟩:=dlock_ok hs (a:=a2) (by omega) (by omega) b2
    exact ⟨w2,d2,l,a3,b3,Ev.bind e1 (Ev.bindc e2 (Ev.yes c0 (Ev.bindc e3 (Ev.now _)))),by omega,by omega,by omega⟩
  · by_cases c1:x=1
    · obtain ⟨p,q,z,a3,b3,e3,g5,g6⟩:=dclue_ok hs (a:=a2) (by omega) (by omega) b2
      exact ⟨w,d,l ++ [(⟨p,q,z⟩:S48)],a3,b3,Ev.bind e1 (Ev.bindc e2 (Ev.no c0 (Ev.yes c1 (Ev.bind e3 (Ev.yes (by dsimp only;omega) (Ev.now _)))))),by rw [List.length_append,List.length_singleton];omega,by omega,by omega⟩
    · by_cases c2:x=2
      · obtain ⟨l',a3,b3,e3,g5,g6,g7⟩:=loop (10 - l.length) l a2 b2 (by omega) (by omega) (by omega)
        exact ⟨w,d,l',a3,b3,Ev.bind e1 (Ev.bindc e2 (Ev.no c0 (Ev.no c1 (Ev.yes c2 e3)))),by omega,by omega,by omega⟩
      · exact ⟨w,d,l,a2,b2,Ev.bind e1 (Ev.bindc e2 (Ev.no c0 (Ev.no c1 (Ev.no c2 (Ev.now _))))),by omega,by omega,by omega⟩
/-! Breadth first search over codes, as values. -/
def numV (d:Int) (s:ByteArray):Int:=numF d 0 (dg s)
theorem numF_range {d:Int} (hd:2≤d) (J:d≤10) : ∀ (D:List Int) (acc:Int),(∀ x∈D,0≤x∧x < d)→0≤acc→(acc + 1) * d ^ D.length≤1000000→0≤numF d acc D∧numF d acc D < (acc + 1) * d ^ D.length
  | [], acc, _, h0, h1 => by
    simp only [numF,List.length_nil,Int.pow_zero,Int.mul_one] at h1 ⊢
    omega
  | x :: D, acc, hD, h0, h1 => by
    have hx:=hD x List.mem_cons_self
    have hp:1≤d ^ D.length:=(by have h9:0 < d ^ D.length:=Int.pow_pos (by omega);omega)
    have e:(acc + 1) * d ^ (x :: D).length=((acc + 1) * d) * d ^ D.length:=by
      rw [List.length_cons,Int.pow_succ,Int.mul_comm (d ^ D.length) d,Int.mul_assoc]
    have hle:(acc + 1) * d≤((acc + 1) * d) * d ^ D.length:=by
      have:=Int.mul_le_mul_of_nonneg_left hp (show 0≤(acc + 1) * d from Int.mul_nonneg (by omega) (by omega))
      rwa [Int.mul_one] at this
    rw [e] at h1 ⊢
    have hb:(acc + 1) * d≤1000000:=Int.le_trans hle h1
    have Y:(acc + 1) * d=acc * d + d:=by rw [Int.add_mul,Int.one_mul]
    have hn:0≤acc * d:=Int.mul_nonneg h0 (by omega)
    have hs:acc * d + x + 1≤(acc + 1) * d:=by omega
    have hm:(acc * d + x + 1) * d ^ D.length≤((acc + 1) * d) * d ^ D.length:=Int.mul_le_mul_of_nonneg_right hs (by omega)
    unfold numF
    rw [w64 (x:=acc * d) (by omega) (by omega),w64 (x:=acc * d + x) (by omega) (by omega)]
    have:=numF_range hd J D (acc * d + x) (fun y hy=>hD y (List.mem_cons_of_mem _ hy)) (by omega) (Int.le_trans hm h1)
    exact ⟨this.1,Int.lt_of_lt_of_le this.2 hm⟩
theorem numV_range {w d:Int} (hl:lockB w d=true) {s:ByteArray} (hs:codeS w d s):0≤numV d s∧numV d s < d ^ w.toNat:=by
  obtain ⟨w1,w2,d1,d2⟩:=lockB_iff.mp hl
  have hcb:=count_bound hl
  have:=numF_range d1 d2 (dg s) 0 (fun x hx=>by
    obtain ⟨i,hi,rfl⟩:=List.getElem_of_mem hx
    have J:i < s.size:=by rw [dg_length] at hi;exact hi
    have h1:=dg_at J
    rw [rd_at (by simpa using hi)] at h1
    simp only [Int.toNat_natCast] at h1
    have:=hs.2 i J
    omega) (Int.le_refl 0) (by rw [dg_length,hs.1];omega)
  rw [dg_length,hs.1] at this
  unfold numV
  omega
/-! What DoesFit comes to. -/
def doesV (w d a b c:Int) (s:ByteArray):Bool×Bool:=if (smallB w d 125 && clueB w d a b c && codeT w d s)=true then (fitV w d (a,b,c) s,true) else (false,false)
/-! The digits of a text, and the text of digits. -/
def dgK (s:ByteArray):List Int:=(List.range s.size).map fun i=>bt s (i:Nat) - 48
theorem dgK_len (s:ByteArray):(dgK s).length=s.size:=by unfold dgK;simp
theorem dgK_at {s:ByteArray} {i:Nat} (h:i < (dgK s).length):(dgK s)[i]=bt s (i:Nat) - 48:=by simp only [dgK,List.getElem_map,List.getElem_range]
/-- A text of digits is the text of its digits. -/
theorem text_dgK {s:ByteArray} (h : ∀ i < s.size,48≤bt s (i:Nat)∧bt s (i:Nat)≤57):textB (dgK s)=s:=by
  have hd : ∀ d∈dgK s,0≤d∧d < 10:=by
    intro d hd
    obtain ⟨j,hj,rfl⟩:=List.getElem_of_mem hd
    rw [dgK_at]
    have:=h j (by rw [←dgK_len];exact hj)
    omega
  apply ByteArray.ext
  apply Array.toList_inj.mp
  rw [textB_bytes hd]
  apply List.ext_getElem
  · rw [List.length_map,dgK_len];rfl
  · intro i h1 h2
    have hi:i < s.size:=by rw [List.length_map,dgK_len] at h1;exact h1
    have hb:=h i hi
    have e:=bt_nat hi
    rw [List.getElem_map,dgK_at]
    apply UInt8.toNat_inj.mp
    have hn:(s.data.toList[i]'h2).toNat=(s[i]'hi).toNat:=rfl
    rw [hn,UInt8.toNat_ofNat']
    omega
/-! A code is the code of its number. -/
def numP (d:Int):Int→List Int→Int
  | acc,[]=> acc
  | acc,x :: xs=>numP d (acc * d + x) xs
theorem numP_snoc (d:Int) : ∀ (D:List Int) (acc x:Int),numP d acc (D ++ [x])=numP d acc D * d + x
  | [],_,_=>rfl
  | y :: D,acc,x=>numP_snoc d D (acc * d + y) x
theorem numF_numP {d:Int} (hd:2≤d) (J:d≤10) : ∀ (D:List Int) (acc:Int),(∀ x∈D,0≤x∧x < d)→0≤acc→(acc + 1) * d ^ D.length≤1000000→numF d acc D=numP d acc D
  | [],acc,_,_,_=>rfl
  | x :: D, acc, hD, h0, h1 => by
    have hx:=hD x List.mem_cons_self
    have hp:1≤d ^ D.length:=(by have h9:0 < d ^ D.length:=Int.pow_pos (by omega);omega)
    have e:(acc + 1) * d ^ (x :: D).length=((acc + 1) * d) * d ^ D.length:=by
      rw [List.length_cons,Int.pow_succ,Int.mul_comm (d ^ D.length) d,Int.mul_assoc]
    have hle:(acc + 1) * d≤((acc + 1) * d) * d ^ D.length:=by
      have:=Int.mul_le_mul_of_nonneg_left hp (show 0≤(acc + 1) * d from Int.mul_nonneg (by omega) (by omega))
      rwa [Int.mul_one] at this
    rw [e] at h1
    have hb:(acc + 1) * d≤1000000:=Int.le_trans hle h1
    have Y:(acc + 1) * d=acc * d + d:=by rw [Int.add_mul,Int.one_mul]
    have hn:0≤acc * d:=Int.mul_nonneg h0 (by omega)
    have hs:acc * d + x + 1≤(acc + 1) * d:=by omega
    have hm:(acc * d + x + 1) * d ^ D.length≤((acc + 1) * d) * d ^ D.length:=Int.mul_le_mul_of_nonneg_right hs (by omega)
    unfold numF numP
    rw [w64 (x:=acc * d) (by omega) (by omega),w64 (x:=acc * d + x) (by omega) (by omega)]
    exact numF_numP hd J D (acc * d + x) (fun y hy=>hD y (List.mem_cons_of_mem _ hy)) (by omega) (Int.le_trans hm h1)
theorem digs_numP {d:Int} (hd:2≤d) : ∀ (m:Nat) (D:List Int),D.length=m→(∀ x∈D,0≤x∧x < d)→digs d m (numP d 0 D)=D
  | 0,D,hl,_=>by rw [List.length_eq_zero_iff.mp hl];rfl
  | m + 1, D, hl, h => by
    have hne:D≠[]:=by intro hc;rw [hc] at hl;simp at hl
    obtain ⟨E,x,rfl⟩ : ∃ E x,D=E ++ [x]:=⟨D.dropLast,D.getLast hne,(List.dropLast_concat_getLast hne).symm⟩
    have hx:=h x (by simp)
    unfold digs
    rw [numP_snoc,show (numP d 0 E * d + x) / d=numP d 0 E by rw [Int.add_comm,Int.add_mul_ediv_right _ _ (by omega),Int.ediv_eq_zero_of_lt hx.1 hx.2,Int.zero_add],show (numP d 0 E * d + x) % d=x by rw [Int.add_comm,Int.add_mul_emod_self_right];exact Int.emod_eq_of_lt hx.1 hx.2]
    rw [digs_numP hd m E (by simpa using hl) (fun y hy=>h y (by simp [hy]))]
theorem dg_range {w d:Int} {s:ByteArray} (hs:codeS w d s) : ∀ x∈dg s,0≤x∧x < d:=by
  intro x hx
  obtain ⟨i,hi,rfl⟩:=List.getElem_of_mem hx
  have J:i < s.size:=by rw [dg_length] at hi;exact hi
  have h1:=dg_at J
  rw [rd_at (by simpa using hi)] at h1
  simp only [Int.toNat_natCast] at h1
  have:=hs.2 i J
  rw [h1]
  omega
theorem textB_dg {w d:Int} (hl:lockB w d=true) {s:ByteArray} (hs:codeS w d s):textB (dg s)=s:=by
  obtain ⟨w1,w2,d1,d2⟩:=lockB_iff.mp hl
  exact text_dgK (fun i hi=>by have:=hs.2 i hi;omega)
theorem codeB_num {w d:Int} (hl:lockB w d=true) {s:ByteArray} (hs:codeS w d s):codeB w d (numV d s)=s:=by
  obtain ⟨w1,w2,d1,d2⟩:=lockB_iff.mp hl
  have hcb:=count_bound hl
  have hlen:(dg s).length=w.toNat:=by rw [dg_length];exact hs.1
  have hr:=dg_range hs
  unfold codeB numV
  rw [numF_numP d1 d2 (dg s) 0 hr (by omega) (by rw [hlen];omega),digs_numP d1 w.toNat (dg s) hlen hr]
  exact textB_dg hl hs
/-! A made puzzle: its clues are ones, and its code fits them. -/
theorem sumF_range : ∀ (D:List Int) (acc:Int),(∀ x∈D,0≤x∧x < 10)→0≤acc→acc + 10 * D.length≤1000→0≤sumF acc D∧sumF acc D≤acc + 9 * D.length
  | [],acc,_,h0,h1=>by simp only [sumF,List.length_nil];omega
  | x :: D, acc, h, h0, h1 => by
    have hx:=h x List.mem_cons_self
    rw [List.length_cons] at h1 ⊢
    unfold sumF
    rw [w64 (by omega) (by omega)]
    have:=sumF_range D (acc + x) (fun y hy=>h y (List.mem_cons_of_mem _ hy)) (by omega) (by omega)
    omega
theorem tmod_range {x m:Int} (h0:0≤x) (hm:0 < m):0≤Int.tmod x m∧Int.tmod x m < m:=⟨Int.tmod_nonneg m h0,Int.tmod_lt_of_pos x hm⟩
theorem turnV_rngM {d x y:Int} (hd:2≤d) (J:d≤10) (hx : -1000≤x∧x≤1000) (hy : -1000≤y∧y≤1000):0≤turnV d x y∧turnV d x y < d:=by
  unfold turnV
  have h1 : -d < Int.tmod (y - x) d∧Int.tmod (y - x) d < d:=by
    have a:=Int.tmod_lt_of_pos (y - x) (show 0 < d by omega)
    have b : -d < Int.tmod (y - x) d:=Int.lt_tmod_of_pos (y - x) (show 0 < d by omega)
    exact ⟨b,a⟩
  rw [w64 (x:=y - x) (by omega) (by omega),w64 (by omega) (by omega)]
  exact tmod_range (by omega) (by omega)
theorem nearV_rngM {d x y:Int} (hd:2≤d) (J:d≤10) (hx : -1000≤x∧x≤1000) (hy : -1000≤y∧y≤1000):0≤nearV d x y∧nearV d x y < d:=by
  unfold nearV
  have h1:=turnV_rngM hd J hx hy
  rw [w64 (by omega) (by omega)]
  have h2:=tmod_range (x:=d - turnV d x y) (m:=d) (by omega) (by omega)
  unfold lst
  split <;> omega
theorem bt_byte (s:ByteArray) (i:Int):0≤bt s i∧bt s i≤255:=by
  unfold bt
  split
  · have:=UInt8.toNat_lt (s[i.toNat])
    omega
  · omega
theorem distF_range {d:Int} (hd:2≤d) (J:d≤10) (s t:ByteArray) : ∀ n:Nat,n≤6→0≤distF d s t n∧distF d s t n≤9 * n
  | 0,_=>by simp [distF]
  | n + 1, h => by
    have h1:=distF_range hd J s t n (by omega)
    have h2:=nearV_rngM (x:=bt s (n:Nat)) (y:=bt t (n:Nat)) hd J (by have:=bt_byte s (n:Nat);omega) (by have:=bt_byte t (n:Nat);omega)
    unfold distF
    rw [w64 (by omega) (by omega)]
    omega
theorem told_clue {w d:Int} (hl:lockB w d=true) {s:ByteArray} (hs:codeS w d s) {a b:Int} (h:(a=0∧0≤b∧b≤w - 1)∨(a=1∧b=0)∨(a=2∧0≤b∧b≤d ^ w.toNat - 1)∨(a=3∧0≤b∧b≤d ^ w.toNat - 1)∨(a=4∧2≤b∧b≤9)) :
    clueB w d (toldC w d s a b).1 (toldC w d s a b).2.1 (toldC w d s a b).2.2=true∧fitV w d (toldC w d s a b) s=true:=by
  obtain ⟨w1,w2,d1,d2⟩:=lockB_iff.mp hl
  have hlen:(dg s).length=w.toNat:=by rw [dg_length];exact hs.1
  have hr:=dg_range hs
  have hn:=numV_range hl hs
  unfold numV at hn
  unfold toldC
  rcases h with ⟨rfl,h0,h1⟩ | ⟨rfl,rfl⟩ | ⟨rfl,h0,h1⟩ | ⟨rfl,h0,h1⟩ | ⟨rfl,h0,h1⟩
  · have hb:=hs.2 b.toNat (by have:=hs.1;omega)
    rw [show ((b.toNat:Nat):Int)=b by omega] at hb
    rw [if_neg (by omega)]
    refine ⟨?_,by simp [fitV]⟩
    simp only [clueB,valV]
    simp
    omega
  · have hq:=sumF_range (dg s) 0 (fun x hx=>by have:=hr x hx;omega) (by omega) (by omega)
    rw [if_pos rfl]
    refine ⟨?_,by simp [fitV]⟩
    simp only [clueB,valV]
    simp
    omega
  · have hq:=plN_range (codeB w d b) s w.toNat
    rw [if_neg (by omega)]
    refine ⟨?_,by simp [fitV]⟩
    simp only [clueB,valV]
    simp
    omega
  · have hq:=distF_range d1 d2 (codeB w d b) s w.toNat (by omega)
    rw [if_neg (by omega)]
    refine ⟨?_,by simp [fitV]⟩
    simp only [clueB,valV]
    simp
    omega
  · have hq:=tmod_range (x:=numF d 0 (dg s)) (m:=b) hn.1 (by omega)
    rw [if_neg (by omega)]
    refine ⟨?_,by simp [fitV]⟩
    simp only [clueB,valV]
    simp
    omega
theorem mkV_all {w d:Int} (hl:lockB w d=true) {s:ByteArray} (hs:codeS w d s) : ∀ (m:Nat) (z:Int) (cs:List S48),(∀ c∈cs,clueB w d c.f0 c.f1 c.f2=true∧fitV w d (c.f0,c.f1,c.f2) s=true)→∀ c∈mkV w d s m z cs,clueB w d c.f0 c.f1 c.f2=true∧fitV w d (c.f0,c.f1,c.f2) s=true
  | 0,_,cs,h=>h
  | m + 1, z, cs, h => by
    obtain ⟨w1,w2,d1,d2⟩:=lockB_iff.mp hl
    have hk:=mkA_ok (w:=w) w1 (count_bound hl).1 z
    have ht:=told_clue hl hs (a:=nxV z % 5) (b:=mkA w (d ^ w.toNat) (nxV z % 5) (mkZ z)) (by omega)
    unfold mkV
    refine mkV_all hl hs m _ _ (fun c hc=>?_)
    rcases List.mem_append.mp hc with hc | hc
    · exact h c hc
    · rw [List.mem_singleton.mp hc];exact ht
theorem solA_has {w d:Int} {l:List S48} {s:ByteArray} {k:Nat} (hk:codeB w d (k:Nat)=s) (hf:fitA w d l s=true) : ∀ n,k < n→s∈solA w d l n
  | 0,h=>absurd h (Nat.not_lt_zero _)
  | n + 1, h => by
    unfold solA
    by_cases hkn:k=n
    · subst hkn
      rw [hk,if_pos hf]
      simp
    · exact List.mem_append_left _ (solA_has hk hf n (by omega))
/-- All that is asked of a made puzzle. -/
theorem made_all {w d:Int} (h1:smallB w d 125=true) {s:ByteArray} (hs:codeS w d s) {n:Int} (hn:0≤n∧n≤6) (z:Int) :
    puzzleB w d (mkV w d s n.toNat z [])=true∧((mkV w d s n.toNat z []).length:Int)=n∧((solA w d (mkV w d s n.toNat z []) (d ^ w.toNat).toNat).any fun x=>decide (x.toList=s.toList))=true:=by
  have hl:=smallB_lock h1
  have hc:=mkV_all hl hs n.toNat z [] (fun c hc=>by cases hc)
  have hlen:(mkV w d s n.toNat z []).length=n.toNat:=by rw [mkV_len];simp
  have hnum:=numV_range hl hs
  have hcode:=codeB_num hl hs
  refine ⟨?_,by omega,?_⟩
  · unfold puzzleB
    simp only [Bool.and_eq_true,decide_eq_true_eq,List.all_eq_true]
    exact ⟨⟨h1,by omega⟩,fun c hm=>(hc c hm).1⟩
  · rw [List.any_eq_true]
    refine ⟨s,solA_has (k:=(numV d s).toNat) (by rw [show (((numV d s).toNat:Nat):Int)=numV d s by omega];exact hcode) ?_ _ (by omega),by simp⟩
    unfold fitA
    rw [List.all_eq_true]
    exact fun c hm=>(hc c hm).2
/-! A sure puzzle, drawn: it is a puzzle. -/
theorem dsureB_ok {s:List Int} (hs:BytesV s) {a:Int} (h0:0≤a) (h1:a≤80000000) (b:Int) {n:Int} (hn:0≤n∧n≤5) : ∃ w d l a' b',Ev (fun k=>spec_l1Cur_surePuzzle.f k s a b n) (w,d,l,a',b')∧puzzleB w d l=true∧a≤a'∧a'≤a + 6:=by
  obtain ⟨w,d,t,a1,b1,e1,hl,hc,hcs,g1,g2⟩:=dhidden_ok hs h0 (by omega) b
  have hwn:wrap64 (n + 1)=n + 1:=w64 (by omega) (by omega)
  obtain ⟨x,a2,b2,e2,x0,x1,g3,g4⟩:=dpick_ok hs (a:=a1) (by omega) (by omega) b1 (n:=wrap64 (n + 1)) (by omega)
  obtain ⟨y,a3,b3,e3,y0,y1,g5,g6⟩:=dpickB_ok hs (a:=a2) (by omega) (by omega) b2 (n:=10000) (by omega)
  have h2:smallB w d 125=true:=by unfold smallB;rw [hl,Bool.true_and,decide_eq_true_eq];omega
  have hx:0≤x∧x≤6:=by omega
  have e:makeR w d t x y=(w,d,mkV w d t x.toNat y [],true):=by
    unfold makeR
    exact if_pos ⟨h2,codeT_iff.mpr hcs,by unfold winB;exact decide_eq_true hx,by unfold winB;exact decide_eq_true (by omega)⟩
  have hm:=(made_all h2 hcs hx y).1
  have hv:=spec_MakePuzzle.ev w d t x y
  rw [e] at hv
  unfold spec_l1Cur_surePuzzle.f
  exact ⟨w,d,mkV w d t x.toNat y [],a3,b3,Ev.bind e1 (Ev.bindc e2 (Ev.bindc e3 (Ev.bind hv (Ev.now _)))),hm,by omega,by omega⟩
/-! ### spec_l1Cur_spoilt: function 61 -/
mutual
def spec_l1Cur_spoilt.l0:Nat→ByteArray→ByteArray→Int→List Int→Int→Int→Option (ByteArray×Int×Int)
  | 0,_,_,_,_,_,_=>none
  | k + 1,x1,x2,x7,Y,a1,a6=>if x7 > 0 then (spec_l1Cur_spoilt.j1 k x1 x2 x7 (decide ((x1.size:Int) > 0)) Y a1 a6) else (spec_l1Cur_spoilt.j1 k x1 x2 x7 false Y a1 a6)
def spec_l1Cur_spoilt.j1:Nat→ByteArray→ByteArray→Int→Bool→List Int→Int→Int→Option (ByteArray×Int×Int)
  | 0,_,_,_,_,_,_,_=>none
  | k + 1,x1,x2,x7,aa,Y,a1,a6=>if aa=true then ((spec_l1Cur_pick.f Y a1 a6 (x1.size:Int)).bind fun J=>((spec_l1Cur_pick.f Y J.2.1 J.2.2 (x2.size:Int)).bind fun a7=>(if 0≤a7.1 then (if a7.1 < (x2.size:Int) then ((some (([bt x2 a7.1]:List Int):List Int)).bind fun a8=>((spec_l1Cur_pick.f Y a7.2.1 a7.2.2 3).bind fun Z=>(if Z.1=0 then (if 0≤J.1 then (if J.1≤(x1.size:Int) then (if (x1.extract 0 (J.1:Int).toNat).size + (strOfNums a8).size≤9223372036854775807 then (if ((x1.extract 0 (J.1:Int).toNat) ++ (strOfNums a8)).size + (x1.extract (J.1:Int).toNat x1.size).size≤9223372036854775807 then (spec_l1Cur_spoilt.l0 k (((x1.extract 0 (J.1:Int).toNat) ++ (strOfNums a8)) ++ (x1.extract (J.1:Int).toNat x1.size)) x2 (wrap64 (x7 - 1)) Y Z.2.1 Z.2.2) else (none)) else (none)) else (none)) else (none)) else (if Z.1=1 then (if 0≤J.1 then (if J.1≤(x1.size:Int) then (if (x1.extract 0 (J.1:Int).toNat).size + (strOfNums a8).size≤9223372036854775807 then (if 0≤(wrap64 (J.1 + 1)) then (if (wrap64 (J.1 + 1))≤(x1.size:Int) then (if ((x1.extract 0 (J.1:Int).toNat) ++ (strOfNums a8)).size + (x1.extract ((wrap64 (J.1 + 1)):Int).toNat x1.size).size≤9223372036854775807 then (spec_l1Cur_spoilt.l0 k (((x1.extract 0 (J.1:Int).toNat) ++ (strOfNums a8)) ++ (x1.extract ((wrap64 (J.1 + 1)):Int).toNat x1.size)) x2 (wrap64 (x7 - 1)) Y Z.2.1 Z.2.2) else (none)) else (none)) else (none)) else (none)) else (none)) else (none)) else (if 0≤J.1 then (if J.1≤(x1.size:Int) then (if 0≤(wrap64 (J.1 + 1)) then (if (wrap64 (J.1 + 1))≤(x1.size:Int) then (if (x1.extract 0 (J.1:Int).toNat).size + (x1.extract ((wrap64 (J.1 + 1)):Int).toNat x1.size).size≤9223372036854775807 then (spec_l1Cur_spoilt.l0 k ((x1.extract 0 (J.1:Int).toNat) ++ (x1.extract ((wrap64 (J.1 + 1)):Int).toNat x1.size)) x2 (wrap64 (x7 - 1)) Y Z.2.1 Z.2.2) else (none)) else (none)) else (none)) else (none)) else (none)))))) else (none)) else (none)))) else (some (x1,a1,a6))
end
def spec_l1Cur_spoilt.f (k:Nat) (Y:List Int) (Z:Int) (a6:Int) (a1:ByteArray) (a2:ByteArray):Option (ByteArray×Int×Int):=(spec_l1Cur_pick.f Y Z a6 2).bind fun J=>(spec_l1Cur_spoilt.l0 k a1 a2 (wrap64 (1 + J.1)) Y J.2.1 J.2.2)
set_option maxHeartbeats 8000000 in
set_option maxRecDepth 100000 in
theorem spec_l1Cur_spoilt.calls (k:Nat) (g:Nat) (a6:List Int) (aH:Int) (aI:Int) (a1:ByteArray) (a2:ByteArray) (r1:ByteArray) (r2:Int) (r3:Int) (w0 w:World) (hI:IsS80 w0 w g a6 aH aI) (hB:Below w0.heap.size w0 w) (h:spec_l1Cur_spoilt.f k a6 aH aI a1 a2=some (r1,r2,r3)) :
    Calls Tryz.prog 61 #[.pointer (some ⟨g,0,none⟩), .string a1, .string a2] w fun e w'=>e = .returned (.string r1)∧IsS80 w0 w' g a6 r2 r3∧Below w0.heap.size w0 w'∧KeepBut w w' g none:=by
  have HI0:=amk hI;have HK:=amk (KeepBut.refl w g none);have HL:=amk hB.size;clear hI;have cw:=amk hB.size;have HB:=amk hB;clear hB;unfold spec_l1Cur_spoilt.f at h;have H:=h;clear h;replace H:=bE H;obtain ⟨⟨aM,aN,aQ⟩,A4,H⟩:=H;(try dsimp only at H);have H':=amk H;clear H;go_enter Tryz.func61,Tryz.ntmps61;go_wp2_with (first | (go_at_call 87;(with_reducible refine (spec_l1Cur_pick.calls g a6 aH aI 2 aM aN aQ w0 _ ?_ ?_ A4.out).mono ?_);exact bI;exact bBI;rintro e w5 ⟨rfl,hi,hb,hk⟩;replace HK:=kT2 HK hk;replace HB:=amk (hb);replace HI0:=amk (hi);(try clear hb);(try clear hk);(try clear hi)))
  repeat (go_quiet (first | (go_at_call 87;(with_reducible refine (spec_l1Cur_pick.calls g a6 aH aI 2 aM aN aQ w0 _ ?_ ?_ A4.out).mono ?_);exact bI;exact bBI;rintro e w5 ⟨rfl,hi,hb,hk⟩;replace HK:=kT2 HK hk;replace HB:=amk (hb);replace HI0:=amk (hi);(try clear hb);(try clear hk);(try clear hi)));try go_wp2_with (first | (go_at_call 87;(with_reducible refine (spec_l1Cur_pick.calls g a6 aH aI 2 aM aN aQ w0 _ ?_ ?_ A4.out).mono ?_);exact bI;exact bBI;rintro e w5 ⟨rfl,hi,hb,hk⟩;replace HK:=kT2 HK hk;replace HB:=amk (hb);replace HI0:=amk (hi);(try clear hb);(try clear hk);(try clear hi))))
  go_loopg [1,7] k (fun kq v1 v7 w'=> ∃ (J:ByteArray) (ax:Int) (a8:Int) (aa:Int),v1 = .string J∧v7 = .int .i64 ax∧Aside0 (spec_l1Cur_spoilt.l0 kq J a2 ax a6 a8 aa=some (r1,r2,r3))∧Aside0 (kq≤k)∧Aside0 (IsS80 w0 w' g a6 a8 aa)∧Aside0 (KeepBut w w' g none)∧Aside0 (Below w0.heap.size w0 w'))
  case atStart=>exact ⟨(a1),(wrap64 (1 + aM)),(aN),(aQ),rS_,rS_,H',⟨Nat.le_refl _⟩,⟨bI⟩,⟨bK⟩,⟨bBI⟩⟩
  case round =>
    clear H';(try clear p2);obtain ⟨J,ax,a8,aa,rfl,rfl,HA,aJ,HI0,HK,HB⟩:=hrel
    cases gk with
    | zero=>exact absurd HA.out (by simp [spec_l1Cur_spoilt.l0])
    | succ k1 =>
      have H:=HA.out;clear HA;simp only [spec_l1Cur_spoilt.l0] at H;have aZ:=amk H;clear H
      go_upto_region 2 with (fail)
      repeat (go_quiet (fail);go_upto_region 2 with (fail))
      go_cut [19] (fun bj wc=> ∃ (kq:Nat) (aK:Bool),bj = .bool aK∧Aside0 (spec_l1Cur_spoilt.j1 kq J a2 ax aK a6 a8 aa=some (r1,r2,r3))∧Aside0 (kq≤k1)∧Aside0 (IsS80 w0 wc g a6 a8 aa)∧Aside0 (KeepBut w wc g none)∧Aside0 (Below w0.heap.size w0 wc))
      case first =>
        have H:=aZ.out;clear aZ
        by_cases c7:ax > 0
        · rw [if_pos c7] at H;have aG:decide (0 < ax)=true:=decide_eq_true c7;clear c7;(first | rw [aG] | (simp only [i64_w,i32_w];rw [aG]) | skip);have H':=amk H;clear H;go_wp2
          repeat (go_quiet (fail);try go_wp2)
          go_meet
          case rel=>exact ⟨_,(decide ((J.size:Int) > 0)),rS_,H',⟨by have:=aJ.out;first | omega | exact Nat.le_refl _⟩,⟨bI⟩,⟨bK⟩,⟨bBI⟩⟩
        · rw [if_neg c7] at H;have aG:decide (0 < ax)=false:=decide_eq_false c7;clear c7;(first | rw [aG] | (simp only [i64_w,i32_w];rw [aG]) | skip);have H':=amk H;clear H;go_wp2
          repeat (go_quiet (fail);try go_wp2)
          go_meet
          case rel=>exact ⟨_,(false),rS_,H',⟨by have:=aJ.out;first | omega | exact Nat.le_refl _⟩,⟨bI⟩,⟨bK⟩,⟨bBI⟩⟩
      case rest =>
        clear aZ;(try clear p2);(try clear c6);(try clear p6);(try clear c7);(try clear aG);(try clear p2);obtain ⟨kq,aK,rfl,HA,aT,HI0,HK,HB⟩:=hcut
        cases kq with
        | zero=>exact absurd HA.out (by simp [spec_l1Cur_spoilt.j1])
        | succ aU =>
          have H:=HA.out;clear HA;simp only [spec_l1Cur_spoilt.j1] at H;replace H:=iteB H;obtain ⟨rfl,H⟩ | ⟨rfl,H⟩:=H
          · replace H:=bE H;obtain ⟨⟨Z,ah,ai⟩,A9,H⟩:=H;(try dsimp only at H);replace H:=bE H;obtain ⟨⟨Y,ab,ac⟩,aD,H⟩:=H;(try dsimp only at H);replace H:=iteN H;obtain ⟨bk,H⟩:=H;replace H:=iteN H;obtain ⟨bl,H⟩:=H;(try rw [Option.bind_some] at H);generalize aV:(([bt a2 Y]:List Int))=af at H;have ae:=amk aV.symm;clear aV;replace H:=bE H;obtain ⟨⟨ag,au,av⟩,aE,H⟩:=H;(try dsimp only at H)
            by_cases c15:ag=0
            · rw [if_pos c15] at H;have b3:(ag == 0)=true:=beq_iff_eq.mpr c15;have b4:(ag != 0)=false:=bne_eq_false_iff_eq.mpr c15;clear c15
              by_cases c16:0≤Z
              · rw [if_pos c16] at H;have bm:=eq_true c16;have bn:decide (0≤Z)=true:=decide_eq_true c16;clear c16
                by_cases c17:Z≤(J.size:Int)
                · rw [if_pos c17] at H;have bo:=eq_true c17;have bp:decide (Z≤(J.size:Int))=true:=decide_eq_true c17;clear c17
                  by_cases c18:(J.extract 0 (Z:Int).toNat).size + (strOfNums af).size≤9223372036854775807
                  · rw [if_pos c18] at H;have bq:=eq_true c18;have br:decide ((J.extract 0 (Z:Int).toNat).size + (strOfNums af).size≤9223372036854775807)=true:=decide_eq_true c18;(try have bu:(9223372036854775807 < (J.extract 0 (Z:Int).toNat).size + (strOfNums af).size)=False:=eq_false (Nat.not_lt.2 c18));(try have bv:(9223372036854775807 < J.extract 0 (Z:Int).toNat.size + strOfNums af.size)=False:=eq_false (by have h9:=Nat.not_lt.2 c18;simp only [ByteArray.size_append] at h9;exact h9));(try have bw:decide (J.extract 0 (Z:Int).toNat.size + strOfNums af.size≤9223372036854775807)=true:=decide_eq_true (by have h9:=c18;simp only [ByteArray.size_append] at h9;exact h9));have bz:=eq_true (dA_:0≤Z);have bC:=eq_true (dA_:Z≤(J.size:Int))
                    by_cases c21:((J.extract 0 (Z:Int).toNat) ++ (strOfNums af)).size + (J.extract (Z:Int).toNat J.size).size≤9223372036854775807
                    · rw [if_pos c21] at H;have bD:=eq_true c21;have bF:decide (((J.extract 0 (Z:Int).toNat) ++ (strOfNums af)).size + (J.extract (Z:Int).toNat J.size).size≤9223372036854775807)=true:=decide_eq_true c21;(try have bH:(9223372036854775807 < ((J.extract 0 (Z:Int).toNat) ++ (strOfNums af)).size + (J.extract (Z:Int).toNat J.size).size)=False:=eq_false (Nat.not_lt.2 c21));(try have bJ:(9223372036854775807 < J.extract 0 (Z:Int).toNat.size + strOfNums af.size + J.extract (Z:Int).toNat J.size.size)=False:=eq_false (by have h9:=Nat.not_lt.2 c21;simp only [ByteArray.size_append] at h9;exact h9));(try have bL:decide (J.extract 0 (Z:Int).toNat.size + strOfNums af.size + J.extract (Z:Int).toNat J.size.size≤9223372036854775807)=true:=decide_eq_true (by have h9:=c21;simp only [ByteArray.size_append] at h9;exact h9));have H':=amk H;clear H;go_wp2_with (first | (go_at_call 87;(with_reducible refine (spec_l1Cur_pick.calls g a6 a8 aa (J.size:Int) Z ah ai w0 _ ?_ ?_ A9.out).mono ?_);exact bI;exact bBI;rintro e b7 ⟨rfl,hi,hb,hk⟩;replace HK:=kT2 HK hk;replace HB:=amk (hb);replace HI0:=amk (hi);(try clear hb);(try clear hk);(try clear hi)) | (go_at_call 87;(with_reducible refine (spec_l1Cur_pick.calls g a6 ah ai (a2.size:Int) Y ab ac w0 _ ?_ ?_ aD.out).mono ?_);exact bI;exact bBI;rintro e b8 ⟨rfl,hi,hb,hk⟩;replace HK:=kT2 HK hk;replace HB:=amk (hb);replace HI0:=amk (hi);(try clear hb);(try clear hk);(try clear hi);have aj:0≤(Y:Int):=dA_;have ak:Y < (a2.size:Int):=dA_;have aA:=bt_at a2 Y;replace aj:=eq_true aj;replace ak:=eq_true ak) | ((with_reducible refine gate_dst (N:=32) rfl ?_);(try (refine gate_guard (by rfl) ?_;dsimp only));refine Kd.R_lit (Kd.int .u8) _ 5 ?hg (N:=32) ?hd (xs:=([bt a2 Y]:List Int)) (inner:=[.int .u8 (bt a2 Y)]) (ok:=fun _=>True) (okp:=fun _=>True) ?hr ?hp (fun _ hk=>hk) trivial (Below.refl _ _) (Nat.le_refl _) (by simp) ?_;(case hd=>rfl);(case hg=>rfl);(case hr=>first | (go_simp;done) | (go_simp;rfl));(case hp=>exact (Reps.one (show Kd.M (Kd.int .u8) _ _ _ (bt a2 Y) [.int .u8 (bt a2 Y)] from rfl) (Reps.none _ _)));intro aC b9 al hb hg_ hnew_;clear hg_ hnew_;(first | rw [←ae.out] at al | (simp only [Int.reduceToNat] at al;rw [←ae.out] at al));have a7:=amk (Kd.R_lower al (keep_size (w:=w) (g:=g) (row:=none) bK));replace HK:=kT HK hb;replace HB:=hBI HB hb;replace HI0:=amk (IsS80.below bI hb);clear hb al;have aW:=own_string (P:=Tryz.prog) Tryz.underlying22 Tryz.underlying5 Tryz.underlying9 (Kd.own_of_R a7.out)) | (go_at_call 87;(with_reducible refine (spec_l1Cur_pick.calls g a6 ab ac 3 ag au av w0 _ ?_ ?_ aE.out).mono ?_);exact bI;exact bBI;rintro e ba ⟨rfl,hi,hb,hk⟩;replace a7:=amk (Kd.R_mono (Kd.R_keep (IsS80.apart (show IsS80 w0 _ g a6 ab ac from bI) (oX a7) (by decide)) hk (fun _ h=>h.2)) (fun _ h=>h.1));replace HK:=kT2 HK hk;replace HB:=amk (hb);replace HI0:=amk (hi);(try clear hb);(try clear hk);(try clear hi)))
                      repeat (go_quiet (first | (go_at_call 87;(with_reducible refine (spec_l1Cur_pick.calls g a6 a8 aa (J.size:Int) Z ah ai w0 _ ?_ ?_ A9.out).mono ?_);exact bI;exact bBI;rintro e b7 ⟨rfl,hi,hb,hk⟩;replace HK:=kT2 HK hk;replace HB:=amk (hb);replace HI0:=amk (hi);(try clear hb);(try clear hk);(try clear hi)) | (go_at_call 87;(with_reducible refine (spec_l1Cur_pick.calls g a6 ah ai (a2.size:Int) Y ab ac w0 _ ?_ ?_ aD.out).mono ?_);exact bI;exact bBI;rintro e b8 ⟨rfl,hi,hb,hk⟩;replace HK:=kT2 HK hk;replace HB:=amk (hb);replace HI0:=amk (hi);(try clear hb);(try clear hk);(try clear hi);have aj:0≤(Y:Int):=dA_;have ak:Y < (a2.size:Int):=dA_;have aA:=bt_at a2 Y;replace aj:=eq_true aj;replace ak:=eq_true ak) | ((with_reducible refine gate_dst (N:=32) rfl ?_);(try (refine gate_guard (by rfl) ?_;dsimp only));refine Kd.R_lit (Kd.int .u8) _ 5 ?hg (N:=32) ?hd (xs:=([bt a2 Y]:List Int)) (inner:=[.int .u8 (bt a2 Y)]) (ok:=fun _=>True) (okp:=fun _=>True) ?hr ?hp (fun _ hk=>hk) trivial (Below.refl _ _) (Nat.le_refl _) (by simp) ?_;(case hd=>rfl);(case hg=>rfl);(case hr=>first | (go_simp;done) | (go_simp;rfl));(case hp=>exact (Reps.one (show Kd.M (Kd.int .u8) _ _ _ (bt a2 Y) [.int .u8 (bt a2 Y)] from rfl) (Reps.none _ _)));intro aC b9 al hb hg_ hnew_;clear hg_ hnew_;(first | rw [←ae.out] at al | (simp only [Int.reduceToNat] at al;rw [←ae.out] at al));have a7:=amk (Kd.R_lower al (keep_size (w:=w) (g:=g) (row:=none) bK));replace HK:=kT HK hb;replace HB:=hBI HB hb;replace HI0:=amk (IsS80.below bI hb);clear hb al;have aW:=own_string (P:=Tryz.prog) Tryz.underlying22 Tryz.underlying5 Tryz.underlying9 (Kd.own_of_R a7.out)) | (go_at_call 87;(with_reducible refine (spec_l1Cur_pick.calls g a6 ab ac 3 ag au av w0 _ ?_ ?_ aE.out).mono ?_);exact bI;exact bBI;rintro e ba ⟨rfl,hi,hb,hk⟩;replace a7:=amk (Kd.R_mono (Kd.R_keep (IsS80.apart (show IsS80 w0 _ g a6 ab ac from bI) (oX a7) (by decide)) hk (fun _ h=>h.2)) (fun _ h=>h.1));replace HK:=kT2 HK hk;replace HB:=amk (hb);replace HI0:=amk (hi);(try clear hb);(try clear hk);(try clear hi)));try go_wp2_with (first | (go_at_call 87;(with_reducible refine (spec_l1Cur_pick.calls g a6 a8 aa (J.size:Int) Z ah ai w0 _ ?_ ?_ A9.out).mono ?_);exact bI;exact bBI;rintro e b7 ⟨rfl,hi,hb,hk⟩;replace HK:=kT2 HK hk;replace HB:=amk (hb);replace HI0:=amk (hi);(try clear hb);(try clear hk);(try clear hi)) | (go_at_call 87;(with_reducible refine (spec_l1Cur_pick.calls g a6 ah ai (a2.size:Int) Y ab ac w0 _ ?_ ?_ aD.out).mono ?_);exact bI;exact bBI;rintro e b8 ⟨rfl,hi,hb,hk⟩;replace HK:=kT2 HK hk;replace HB:=amk (hb);replace HI0:=amk (hi);(try clear hb);(try clear hk);(try clear hi);have aj:0≤(Y:Int):=dA_;have ak:Y < (a2.size:Int):=dA_;have aA:=bt_at a2 Y;replace aj:=eq_true aj;replace ak:=eq_true ak) | ((with_reducible refine gate_dst (N:=32) rfl ?_);(try (refine gate_guard (by rfl) ?_;dsimp only));refine Kd.R_lit (Kd.int .u8) _ 5 ?hg (N:=32) ?hd (xs:=([bt a2 Y]:List Int)) (inner:=[.int .u8 (bt a2 Y)]) (ok:=fun _=>True) (okp:=fun _=>True) ?hr ?hp (fun _ hk=>hk) trivial (Below.refl _ _) (Nat.le_refl _) (by simp) ?_;(case hd=>rfl);(case hg=>rfl);(case hr=>first | (go_simp;done) | (go_simp;rfl));(case hp=>exact (Reps.one (show Kd.M (Kd.int .u8) _ _ _ (bt a2 Y) [.int .u8 (bt a2 Y)] from rfl) (Reps.none _ _)));intro aC b9 al hb hg_ hnew_;clear hg_ hnew_;(first | rw [←ae.out] at al | (simp only [Int.reduceToNat] at al;rw [←ae.out] at al));have a7:=amk (Kd.R_lower al (keep_size (w:=w) (g:=g) (row:=none) bK));replace HK:=kT HK hb;replace HB:=hBI HB hb;replace HI0:=amk (IsS80.below bI hb);clear hb al;have aW:=own_string (P:=Tryz.prog) Tryz.underlying22 Tryz.underlying5 Tryz.underlying9 (Kd.own_of_R a7.out)) | (go_at_call 87;(with_reducible refine (spec_l1Cur_pick.calls g a6 ab ac 3 ag au av w0 _ ?_ ?_ aE.out).mono ?_);exact bI;exact bBI;rintro e ba ⟨rfl,hi,hb,hk⟩;replace a7:=amk (Kd.R_mono (Kd.R_keep (IsS80.apart (show IsS80 w0 _ g a6 ab ac from bI) (oX a7) (by decide)) hk (fun _ h=>h.2)) (fun _ h=>h.1));replace HK:=kT2 HK hk;replace HB:=amk (hb);replace HI0:=amk (hi);(try clear hb);(try clear hk);(try clear hi))))
                      go_roundg aU
                      case measure=>have:=aJ.out;have:=aT.out;omega
                      case rel=>exact ⟨(((J.extract 0 (Z:Int).toNat) ++ (strOfNums af)) ++ (J.extract (Z:Int).toNat J.size)),(wrap64 (ax - 1)),(au),(av),rS_,rS_,H',⟨by have:=aJ.out;have:=aT.out;omega⟩,⟨bI⟩,⟨bK⟩,⟨bBI⟩⟩
                    · rw [if_neg c21] at H;exact absurd H (by simp)
                  · rw [if_neg c18] at H;exact absurd H (by simp)
                · rw [if_neg c17] at H;exact absurd H (by simp)
              · rw [if_neg c16] at H;exact absurd H (by simp)
            · rw [if_neg c15] at H;have b3:(ag == 0)=false:=beq_eq_false_iff_ne.mpr c15;have b4:(ag != 0)=true:=bne_iff_ne.mpr c15
              by_cases c28:ag=1
              · rw [if_pos c28] at H;have b5:(ag == 1)=true:=beq_iff_eq.mpr c28;have b6:(ag != 1)=false:=bne_eq_false_iff_eq.mpr c28;clear c28
                by_cases c29:0≤Z
                · rw [if_pos c29] at H;have bM:=eq_true c29;have bN:decide (0≤Z)=true:=decide_eq_true c29;clear c29
                  by_cases c30:Z≤(J.size:Int)
                  · rw [if_pos c30] at H;have bO:=eq_true c30;have bQ:decide (Z≤(J.size:Int))=true:=decide_eq_true c30;clear c30
                    by_cases c31:(J.extract 0 (Z:Int).toNat).size + (strOfNums af).size≤9223372036854775807
                    · rw [if_pos c31] at H;have bR:=eq_true c31;have bS:decide ((J.extract 0 (Z:Int).toNat).size + (strOfNums af).size≤9223372036854775807)=true:=decide_eq_true c31;(try have bT:(9223372036854775807 < (J.extract 0 (Z:Int).toNat).size + (strOfNums af).size)=False:=eq_false (Nat.not_lt.2 c31));(try have bU:(9223372036854775807 < J.extract 0 (Z:Int).toNat.size + strOfNums af.size)=False:=eq_false (by have h9:=Nat.not_lt.2 c31;simp only [ByteArray.size_append] at h9;exact h9));(try have bV:decide (J.extract 0 (Z:Int).toNat.size + strOfNums af.size≤9223372036854775807)=true:=decide_eq_true (by have h9:=c31;simp only [ByteArray.size_append] at h9;exact h9));obtain ⟨ap,ay⟩ : ∃ j_:Int,(wrap64 (Z + 1))=j_:=⟨_,rfl⟩;(replace H:(if 0≤(ap) then (if (ap)≤(J.size:Int) then (if ((J.extract 0 (Z:Int).toNat) ++ (strOfNums af)).size + (J.extract ((ap):Int).toNat J.size).size≤9223372036854775807 then (spec_l1Cur_spoilt.l0 aU (((J.extract 0 (Z:Int).toNat) ++ (strOfNums af)) ++ (J.extract ((ap):Int).toNat J.size)) a2 (wrap64 (ax - 1)) a6 au av) else (none)) else (none)) else (none))=some (r1,r2,r3):=by first | (rw [ay] at H;exact H) | (simp only [ay] at H ⊢;exact H));(try rw [ay] at A9);(try rw [ay] at aD);(try rw [ay] at aE);have hji32w:(IntKind.i64.wrap (Z + 1))=ap:=(i64_w _).trans ay
                      by_cases c33:0≤(ap)
                      · rw [if_pos c33] at H;have bW:=eq_true c33;have bX:decide (0≤(ap))=true:=decide_eq_true c33;clear c33
                        by_cases c34:(ap)≤(J.size:Int)
                        · rw [if_pos c34] at H;have bY:=eq_true c34;have bZ:decide ((ap)≤(J.size:Int))=true:=decide_eq_true c34;clear c34
                          by_cases c35:((J.extract 0 (Z:Int).toNat) ++ (strOfNums af)).size + (J.extract ((ap):Int).toNat J.size).size≤9223372036854775807
                          · rw [if_pos c35] at H;have c8:=eq_true c35;have ca:decide (((J.extract 0 (Z:Int).toNat) ++ (strOfNums af)).size + (J.extract ((ap):Int).toNat J.size).size≤9223372036854775807)=true:=decide_eq_true c35;(try have cb:(9223372036854775807 < ((J.extract 0 (Z:Int).toNat) ++ (strOfNums af)).size + (J.extract ((ap):Int).toNat J.size).size)=False:=eq_false (Nat.not_lt.2 c35));(try have cd:(9223372036854775807 < J.extract 0 (Z:Int).toNat.size + strOfNums af.size + J.extract ((ap):Int).toNat J.size.size)=False:=eq_false (by have h9:=Nat.not_lt.2 c35;simp only [ByteArray.size_append] at h9;exact h9));(try have ce:decide (J.extract 0 (Z:Int).toNat.size + strOfNums af.size + J.extract ((ap):Int).toNat J.size.size≤9223372036854775807)=true:=decide_eq_true (by have h9:=c35;simp only [ByteArray.size_append] at h9;exact h9));have H':=amk H;clear H;go_wp2_with (first | (go_at_call 87;(with_reducible refine (spec_l1Cur_pick.calls g a6 a8 aa (J.size:Int) Z ah ai w0 _ ?_ ?_ A9.out).mono ?_);exact bI;exact bBI;rintro e bb ⟨rfl,hi,hb,hk⟩;replace HK:=kT2 HK hk;replace HB:=amk (hb);replace HI0:=amk (hi);(try clear hb);(try clear hk);(try clear hi)) | (go_at_call 87;(with_reducible refine (spec_l1Cur_pick.calls g a6 ah ai (a2.size:Int) Y ab ac w0 _ ?_ ?_ aD.out).mono ?_);exact bI;exact bBI;rintro e bc ⟨rfl,hi,hb,hk⟩;replace HK:=kT2 HK hk;replace HB:=amk (hb);replace HI0:=amk (hi);(try clear hb);(try clear hk);(try clear hi);have aj:0≤(Y:Int):=dA_;have ak:Y < (a2.size:Int):=dA_;have aA:=bt_at a2 Y;replace aj:=eq_true aj;replace ak:=eq_true ak) | ((with_reducible refine gate_dst (N:=32) rfl ?_);(try (refine gate_guard (by rfl) ?_;dsimp only));refine Kd.R_lit (Kd.int .u8) _ 5 ?hg (N:=32) ?hd (xs:=([bt a2 Y]:List Int)) (inner:=[.int .u8 (bt a2 Y)]) (ok:=fun _=>True) (okp:=fun _=>True) ?hr ?hp (fun _ hk=>hk) trivial (Below.refl _ _) (Nat.le_refl _) (by simp) ?_;(case hd=>rfl);(case hg=>rfl);(case hr=>first | (go_simp;done) | (go_simp;rfl));(case hp=>exact (Reps.one (show Kd.M (Kd.int .u8) _ _ _ (bt a2 Y) [.int .u8 (bt a2 Y)] from rfl) (Reps.none _ _)));intro aC bd am hb hg_ hnew_;clear hg_ hnew_;(first | rw [←ae.out] at am | (simp only [Int.reduceToNat] at am;rw [←ae.out] at am));have a7:=amk (Kd.R_lower am (keep_size (w:=w) (g:=g) (row:=none) bK));replace HK:=kT HK hb;replace HB:=hBI HB hb;replace HI0:=amk (IsS80.below bI hb);clear hb am;have aX:=own_string (P:=Tryz.prog) Tryz.underlying22 Tryz.underlying5 Tryz.underlying9 (Kd.own_of_R a7.out)) | (go_at_call 87;(with_reducible refine (spec_l1Cur_pick.calls g a6 ab ac 3 ag au av w0 _ ?_ ?_ aE.out).mono ?_);exact bI;exact bBI;rintro e be ⟨rfl,hi,hb,hk⟩;replace a7:=amk (Kd.R_mono (Kd.R_keep (IsS80.apart (show IsS80 w0 _ g a6 ab ac from bI) (oX a7) (by decide)) hk (fun _ h=>h.2)) (fun _ h=>h.1));replace HK:=kT2 HK hk;replace HB:=amk (hb);replace HI0:=amk (hi);(try clear hb);(try clear hk);(try clear hi)))
                            repeat (go_quiet (first | (go_at_call 87;(with_reducible refine (spec_l1Cur_pick.calls g a6 a8 aa (J.size:Int) Z ah ai w0 _ ?_ ?_ A9.out).mono ?_);exact bI;exact bBI;rintro e bb ⟨rfl,hi,hb,hk⟩;replace HK:=kT2 HK hk;replace HB:=amk (hb);replace HI0:=amk (hi);(try clear hb);(try clear hk);(try clear hi)) | (go_at_call 87;(with_reducible refine (spec_l1Cur_pick.calls g a6 ah ai (a2.size:Int) Y ab ac w0 _ ?_ ?_ aD.out).mono ?_);exact bI;exact bBI;rintro e bc ⟨rfl,hi,hb,hk⟩;replace HK:=kT2 HK hk;replace HB:=amk (hb);replace HI0:=amk (hi);(try clear hb);(try clear hk);(try clear hi);have aj:0≤(Y:Int):=dA_;have ak:Y < (a2.size:Int):=dA_;have aA:=bt_at a2 Y;replace aj:=eq_true aj;replace ak:=eq_true ak) | ((with_reducible refine gate_dst (N:=32) rfl ?_);(try (refine gate_guard (by rfl) ?_;dsimp only));refine Kd.R_lit (Kd.int .u8) _ 5 ?hg (N:=32) ?hd (xs:=([bt a2 Y]:List Int)) (inner:=[.int .u8 (bt a2 Y)]) (ok:=fun _=>True) (okp:=fun _=>True) ?hr ?hp (fun _ hk=>hk) trivial (Below.refl _ _) (Nat.le_refl _) (by simp) ?_;(case hd=>rfl);(case hg=>rfl);(case hr=>first | (go_simp;done) | (go_simp;rfl));(case hp=>exact (Reps.one (show Kd.M (Kd.int .u8) _ _ _ (bt a2 Y) [.int .u8 (bt a2 Y)] from rfl) (Reps.none _ _)));intro aC bd am hb hg_ hnew_;clear hg_ hnew_;(first | rw [←ae.out] at am | (simp only [Int.reduceToNat] at am;rw [←ae.out] at am));have a7:=amk (Kd.R_lower am (keep_size (w:=w) (g:=g) (row:=none) bK));replace HK:=kT HK hb;replace HB:=hBI HB hb;replace HI0:=amk (IsS80.below bI hb);clear hb am;have aX:=own_string (P:=Tryz.prog) Tryz.underlying22 Tryz.underlying5 Tryz.underlying9 (Kd.own_of_R a7.out)) | (go_at_call 87;(with_reducible refine (spec_l1Cur_pick.calls g a6 ab ac 3 ag au av w0 _ ?_ ?_ aE.out).mono ?_);exact bI;exact bBI;rintro e be ⟨rfl,hi,hb,hk⟩;replace a7:=amk (Kd.R_mono (Kd.R_keep (IsS80.apart (show IsS80 w0 _ g a6 ab ac from bI) (oX a7) (by decide)) hk (fun _ h=>h.2)) (fun _ h=>h.1));replace HK:=kT2 HK hk;replace HB:=amk (hb);replace HI0:=amk (hi);(try clear hb);(try clear hk);(try clear hi)));try go_wp2_with (first | (go_at_call 87;(with_reducible refine (spec_l1Cur_pick.calls g a6 a8 aa (J.size:Int) Z ah ai w0 _ ?_ ?_ A9.out).mono ?_);exact bI;exact bBI;rintro e bb ⟨rfl,hi,hb,hk⟩;replace HK:=kT2 HK hk;replace HB:=amk (hb);replace HI0:=amk (hi);(try clear hb);(try clear hk);(try clear hi)) | (go_at_call 87;(with_reducible refine (spec_l1Cur_pick.calls g a6 ah ai (a2.size:Int) Y ab ac w0 _ ?_ ?_ aD.out).mono ?_);exact bI;exact bBI;rintro e bc ⟨rfl,hi,hb,hk⟩;replace HK:=kT2 HK hk;replace HB:=amk (hb);replace HI0:=amk (hi);(try clear hb);(try clear hk);(try clear hi);have aj:0≤(Y:Int):=dA_;have ak:Y < (a2.size:Int):=dA_;have aA:=bt_at a2 Y;replace aj:=eq_true aj;replace ak:=eq_true ak) | ((with_reducible refine gate_dst (N:=32) rfl ?_);(try (refine gate_guard (by rfl) ?_;dsimp only));refine Kd.R_lit (Kd.int .u8) _ 5 ?hg (N:=32) ?hd (xs:=([bt a2 Y]:List Int)) (inner:=[.int .u8 (bt a2 Y)]) (ok:=fun _=>True) (okp:=fun _=>True) ?hr ?hp (fun _ hk=>hk) trivial (Below.refl _ _) (Nat.le_refl _) (by simp) ?_;(case hd=>rfl);(case hg=>rfl);(case hr=>first | (go_simp;done) | (go_simp;rfl));(case hp=>exact (Reps.one (show Kd.M (Kd.int .u8) _ _ _ (bt a2 Y) [.int .u8 (bt a2 Y)] from rfl) (Reps.none _ _)));intro aC bd am hb hg_ hnew_;clear hg_ hnew_;(first | rw [←ae.out] at am | (simp only [Int.reduceToNat] at am;rw [←ae.out] at am));have a7:=amk (Kd.R_lower am (keep_size (w:=w) (g:=g) (row:=none) bK));replace HK:=kT HK hb;replace HB:=hBI HB hb;replace HI0:=amk (IsS80.below bI hb);clear hb am;have aX:=own_string (P:=Tryz.prog) Tryz.underlying22 Tryz.underlying5 Tryz.underlying9 (Kd.own_of_R a7.out)) | (go_at_call 87;(with_reducible refine (spec_l1Cur_pick.calls g a6 ab ac 3 ag au av w0 _ ?_ ?_ aE.out).mono ?_);exact bI;exact bBI;rintro e be ⟨rfl,hi,hb,hk⟩;replace a7:=amk (Kd.R_mono (Kd.R_keep (IsS80.apart (show IsS80 w0 _ g a6 ab ac from bI) (oX a7) (by decide)) hk (fun _ h=>h.2)) (fun _ h=>h.1));replace HK:=kT2 HK hk;replace HB:=amk (hb);replace HI0:=amk (hi);(try clear hb);(try clear hk);(try clear hi))))
                            go_roundg aU
                            case measure=>have:=aJ.out;have:=aT.out;omega
                            case rel=>exact ⟨(((J.extract 0 (Z:Int).toNat) ++ (strOfNums af)) ++ (J.extract ((ap):Int).toNat J.size)),(wrap64 (ax - 1)),(au),(av),(by first | rfl | (simp;done) | (simp only [←ay] <;> (first | rfl | simp)) | (simp [*];done)),rS_,H',⟨by have:=aJ.out;have:=aT.out;omega⟩,⟨bI⟩,⟨bK⟩,⟨bBI⟩⟩
                          · rw [if_neg c35] at H;exact absurd H (by simp)
                        · rw [if_neg c34] at H;exact absurd H (by simp)
                      · rw [if_neg c33] at H;exact absurd H (by simp)
                    · rw [if_neg c31] at H;exact absurd H (by simp)
                  · rw [if_neg c30] at H;exact absurd H (by simp)
                · rw [if_neg c29] at H;exact absurd H (by simp)
              · rw [if_neg c28] at H;have b5:(ag == 1)=false:=beq_eq_false_iff_ne.mpr c28;have b6:(ag != 1)=true:=bne_iff_ne.mpr c28
                by_cases c42:0≤Z
                · rw [if_pos c42] at H;have cf:=eq_true c42;have cg:decide (0≤Z)=true:=decide_eq_true c42;clear c42
                  by_cases c43:Z≤(J.size:Int)
                  · rw [if_pos c43] at H;have ci:=eq_true c43;have cj:decide (Z≤(J.size:Int))=true:=decide_eq_true c43;clear c43;obtain ⟨ar,az⟩ : ∃ j_:Int,(wrap64 (Z + 1))=j_:=⟨_,rfl⟩;(replace H:(if 0≤(ar) then (if (ar)≤(J.size:Int) then (if (J.extract 0 (Z:Int).toNat).size + (J.extract ((ar):Int).toNat J.size).size≤9223372036854775807 then (spec_l1Cur_spoilt.l0 aU ((J.extract 0 (Z:Int).toNat) ++ (J.extract ((ar):Int).toNat J.size)) a2 (wrap64 (ax - 1)) a6 au av) else (none)) else (none)) else (none))=some (r1,r2,r3):=by first | (rw [az] at H;exact H) | (simp only [az] at H ⊢;exact H));(try rw [az] at A9);(try rw [az] at aD);(try rw [az] at aE);have hji44w:(IntKind.i64.wrap (Z + 1))=ar:=(i64_w _).trans az
                    by_cases c45:0≤(ar)
                    · rw [if_pos c45] at H;have ck:=eq_true c45;have cm:decide (0≤(ar))=true:=decide_eq_true c45;clear c45
                      by_cases c46:(ar)≤(J.size:Int)
                      · rw [if_pos c46] at H;have cn:=eq_true c46;have co:decide ((ar)≤(J.size:Int))=true:=decide_eq_true c46;clear c46
                        by_cases c47:(J.extract 0 (Z:Int).toNat).size + (J.extract ((ar):Int).toNat J.size).size≤9223372036854775807
                        · rw [if_pos c47] at H;have cp:=eq_true c47;have cq:decide ((J.extract 0 (Z:Int).toNat).size + (J.extract ((ar):Int).toNat J.size).size≤9223372036854775807)=true:=decide_eq_true c47;(try have cr:(9223372036854775807 < (J.extract 0 (Z:Int).toNat).size + (J.extract ((ar):Int).toNat J.size).size)=False:=eq_false (Nat.not_lt.2 c47));(try have cu:(9223372036854775807 < J.extract 0 (Z:Int).toNat.size + J.extract ((ar):Int).toNat J.size.size)=False:=eq_false (by have h9:=Nat.not_lt.2 c47;simp only [ByteArray.size_append] at h9;exact h9));(try have cv:decide (J.extract 0 (Z:Int).toNat.size + J.extract ((ar):Int).toNat J.size.size≤9223372036854775807)=true:=decide_eq_true (by have h9:=c47;simp only [ByteArray.size_append] at h9;exact h9));have H':=amk H;clear H;go_wp2_with (first | (go_at_call 87;(with_reducible refine (spec_l1Cur_pick.calls g a6 a8 aa (J.size:Int) Z ah ai w0 _ ?_ ?_ A9.out).mono ?_);exact bI;exact bBI;rintro e bf ⟨rfl,hi,hb,hk⟩;replace HK:=kT2 HK hk;replace HB:=amk (hb);replace HI0:=amk (hi);(try clear hb);(try clear hk);(try clear hi)) | (go_at_call 87;(with_reducible refine (spec_l1Cur_pick.calls g a6 ah ai (a2.size:Int) Y ab ac w0 _ ?_ ?_ aD.out).mono ?_);exact bI;exact bBI;rintro e bg ⟨rfl,hi,hb,hk⟩;replace HK:=kT2 HK hk;replace HB:=amk (hb);replace HI0:=amk (hi);(try clear hb);(try clear hk);(try clear hi);have aj:0≤(Y:Int):=dA_;have ak:Y < (a2.size:Int):=dA_;have aA:=bt_at a2 Y;replace aj:=eq_true aj;replace ak:=eq_true ak) | ((with_reducible refine gate_dst (N:=32) rfl ?_);(try (refine gate_guard (by rfl) ?_;dsimp only));refine Kd.R_lit (Kd.int .u8) _ 5 ?hg (N:=32) ?hd (xs:=([bt a2 Y]:List Int)) (inner:=[.int .u8 (bt a2 Y)]) (ok:=fun _=>True) (okp:=fun _=>True) ?hr ?hp (fun _ hk=>hk) trivial (Below.refl _ _) (Nat.le_refl _) (by simp) ?_;(case hd=>rfl);(case hg=>rfl);(case hr=>first | (go_simp;done) | (go_simp;rfl));(case hp=>exact (Reps.one (show Kd.M (Kd.int .u8) _ _ _ (bt a2 Y) [.int .u8 (bt a2 Y)] from rfl) (Reps.none _ _)));intro aC bh an hb hg_ hnew_;clear hg_ hnew_;(first | rw [←ae.out] at an | (simp only [Int.reduceToNat] at an;rw [←ae.out] at an));have a7:=amk (Kd.R_lower an (keep_size (w:=w) (g:=g) (row:=none) bK));replace HK:=kT HK hb;replace HB:=hBI HB hb;replace HI0:=amk (IsS80.below bI hb);clear hb an;have aY:=own_string (P:=Tryz.prog) Tryz.underlying22 Tryz.underlying5 Tryz.underlying9 (Kd.own_of_R a7.out)) | (go_at_call 87;(with_reducible refine (spec_l1Cur_pick.calls g a6 ab ac 3 ag au av w0 _ ?_ ?_ aE.out).mono ?_);exact bI;exact bBI;rintro e bi ⟨rfl,hi,hb,hk⟩;replace a7:=amk (Kd.R_mono (Kd.R_keep (IsS80.apart (show IsS80 w0 _ g a6 ab ac from bI) (oX a7) (by decide)) hk (fun _ h=>h.2)) (fun _ h=>h.1));replace HK:=kT2 HK hk;replace HB:=amk (hb);replace HI0:=amk (hi);(try clear hb);(try clear hk);(try clear hi)))
                          repeat (go_quiet (first | (go_at_call 87;(with_reducible refine (spec_l1Cur_pick.calls g a6 a8 aa (J.size:Int) Z ah ai w0 _ ?_ ?_ A9.out).mono ?_);exact bI;exact bBI;rintro e bf ⟨rfl,hi,hb,hk⟩;replace HK:=kT2 HK hk;replace HB:=amk (hb);replace HI0:=amk (hi);(try clear hb);(try clear hk);(try clear hi)) | (go_at_call 87;(with_reducible refine (spec_l1Cur_pick.calls g a6 ah ai (a2.size:Int) Y ab ac w0 _ ?_ ?_ aD.out).mono ?_);exact bI;exact bBI;rintro e bg ⟨rfl,hi,hb,hk⟩;replace HK:=kT2 HK hk;replace HB:=amk (hb);replace HI0:=amk (hi);(try clear hb);(try clear hk);(try clear hi);have aj:0≤(Y:Int):=dA_;have ak:Y < (a2.size:Int):=dA_;have aA:=bt_at a2 Y;replace aj:=eq_true aj;replace ak:=eq_true ak) | ((with_reducible refine gate_dst (N:=32) rfl ?_);(try (refine gate_guard (by rfl) ?_;dsimp only));refine Kd.R_lit (Kd.int .u8) _ 5 ?hg (N:=32) ?hd (xs:=([bt a2 Y]:List Int)) (inner:=[.int .u8 (bt a2 Y)]) (ok:=fun _=>True) (okp:=fun _=>True) ?hr ?hp (fun _ hk=>hk) trivial (Below.refl _ _) (Nat.le_refl _) (by simp) ?_;(case hd=>rfl);(case hg=>rfl);(case hr=>first | (go_simp;done) | (go_simp;rfl));(case hp=>exact (Reps.one (show Kd.M (Kd.int .u8) _ _ _ (bt a2 Y) [.int .u8 (bt a2 Y)] from rfl) (Reps.none _ _)));intro aC bh an hb hg_ hnew_;clear hg_ hnew_;(first | rw [←ae.out] at an | (simp only [Int.reduceToNat] at an;rw [←ae.out] at an));have a7:=amk (Kd.R_lower an (keep_size (w:=w) (g:=g) (row:=none) bK));replace HK:=kT HK hb;replace HB:=hBI HB hb;replace HI0:=amk (IsS80.below bI hb);clear hb an;have aY:=own_string (P:=Tryz.prog) Tryz.underlying22 Tryz.underlying5 Tryz.underlying9 (Kd.own_of_R a7.out)) | (go_at_call 87;(with_reducible refine (spec_l1Cur_pick.calls g a6 ab ac 3 ag au av w0 _ ?_ ?_ aE.out).mono ?_);exact bI;exact bBI;rintro e bi ⟨rfl,hi,hb,hk⟩;replace a7:=amk (Kd.R_mono (Kd.R_keep (IsS80.apart (show IsS80 w0 _ g a6 ab ac from bI) (oX a7) (by decide)) hk (fun _ h=>h.2)) (fun _ h=>h.1));replace HK:=kT2 HK hk;replace HB:=amk (hb);replace HI0:=amk (hi);(try clear hb);(try clear hk);(try clear hi)));try go_wp2_with (first | (go_at_call 87;(with_reducible refine (spec_l1Cur_pick.calls g a6 a8 aa (J.size:Int) Z ah ai w0 _ ?_ ?_ A9.out).mono ?_);exact bI;exact bBI;rintro e bf ⟨rfl,hi,hb,hk⟩;replace HK:=kT2 HK hk;replace HB:=amk (hb);replace HI0:=amk (hi);(try clear hb);(try clear hk);(try clear hi)) | (go_at_call 87;(with_reducible refine (spec_l1Cur_pick.calls g a6 ah ai (a2.size:Int) Y ab ac w0 _ ?_ ?_ aD.out).mono ?_);exact bI;exact bBI;rintro e bg ⟨rfl,hi,hb,hk⟩;replace HK:=kT2 HK hk;replace HB:=amk (hb);replace HI0:=amk (hi);(try clear hb);(try clear hk);(try clear hi);have aj:0≤(Y:Int):=dA_;have ak:Y < (a2.size:Int):=dA_;have aA:=bt_at a2 Y;replace aj:=eq_true aj;replace ak:=eq_true ak) | ((with_reducible refine gate_dst (N:=32) rfl ?_);(try (refine gate_guard (by rfl) ?_;dsimp only));refine Kd.R_lit (Kd.int .u8) _ 5 ?hg (N:=32) ?hd (xs:=([bt a2 Y]:List Int)) (inner:=[.int .u8 (bt a2 Y)]) (ok:=fun _=>True) (okp:=fun _=>True) ?hr ?hp (fun _ hk=>hk) trivial (Below.refl _ _) (Nat.le_refl _) (by simp) ?_;(case hd=>rfl);(case hg=>rfl);(case hr=>first | (go_simp;done) | (go_simp;rfl));(case hp=>exact (Reps.one (show Kd.M (Kd.int .u8) _ _ _ (bt a2 Y) [.int .u8 (bt a2 Y)] from rfl) (Reps.none _ _)));intro aC bh an hb hg_ hnew_;clear hg_ hnew_;(first | rw [←ae.out] at an | (simp only [Int.reduceToNat] at an;rw [←ae.out] at an));have a7:=amk (Kd.R_lower an (keep_size (w:=w) (g:=g) (row:=none) bK));replace HK:=kT HK hb;replace HB:=hBI HB hb;replace HI0:=amk (IsS80.below bI hb);clear hb an;have aY:=own_string (P:=Tryz.prog) Tryz.underlying22 Tryz.underlying5 Tryz.underlying9 (Kd.own_of_R a7.out)) | (go_at_call 87;(with_reducible refine (spec_l1Cur_pick.calls g a6 ab ac 3 ag au av w0 _ ?_ ?_ aE.out).mono ?_);exact bI;exact bBI;rintro e bi ⟨rfl,hi,hb,hk⟩;replace a7:=amk (Kd.R_mono (Kd.R_keep (IsS80.apart (show IsS80 w0 _ g a6 ab ac from bI) (oX a7) (by decide)) hk (fun _ h=>h.2)) (fun _ h=>h.1));replace HK:=kT2 HK hk;replace HB:=amk (hb);replace HI0:=amk (hi);(try clear hb);(try clear hk);(try clear hi))))
                          go_roundg aU
                          case measure=>have:=aJ.out;have:=aT.out;omega
                          case rel=>exact ⟨((J.extract 0 (Z:Int).toNat) ++ (J.extract ((ar):Int).toNat J.size)),(wrap64 (ax - 1)),(au),(av),(by first | rfl | (simp;done) | (simp only [←az] <;> (first | rfl | simp)) | (simp [*];done)),rS_,H',⟨by have:=aJ.out;have:=aT.out;omega⟩,⟨bI⟩,⟨bK⟩,⟨bBI⟩⟩
                        · rw [if_neg c47] at H;exact absurd H (by simp)
                      · rw [if_neg c46] at H;exact absurd H (by simp)
                    · rw [if_neg c45] at H;exact absurd H (by simp)
                  · rw [if_neg c43] at H;exact absurd H (by simp)
                · rw [if_neg c42] at H;exact absurd H (by simp)
          · simp only [Option.some.injEq,Prod.mk.injEq] at H;obtain ⟨rfl,rfl,rfl⟩:=H;go_wp2
            repeat (go_quiet (fail);try go_wp2)
            go_ret;exact ⟨rF_,bI,bBI,bK⟩
/-! Spoilt texts: the draw comes to an end. -/
theorem ex_size (t:ByteArray) (i j:Nat):(t.extract i j).size=min j t.size - i:=by rw [ByteArray.size_extract]
theorem dspoil_lev {s:List Int} (hs:BytesV s) (u:ByteArray) (hu:0 < u.size) (Y:u.size≤200) : ∀ (m:Nat) (z:Int) (t:ByteArray) (a b:Int),z=(m:Int)→m≤2→0≤a→a + 4 * m≤80001000→t.size + m≤190→∃ r a' b',Ev (fun k=>spec_l1Cur_spoilt.l0 k t u z s a b) (r,a',b')∧r.size≤t.size + m:=by
  intro m
  induction m with
  | zero =>
    intro z t a b hzz _ _ _ _
    refine ⟨t,a,b,?_,by omega⟩
    refine Ev.step (fun k=>rfl) (Ev.no (by omega) ?_)
    have hf : ∀ bo:Bool,bo=false→Ev (fun k=>spec_l1Cur_spoilt.j1 k t u z bo s a b) (t,a,b):=fun bo hbo=>Ev.step (fun k=>rfl) (Ev.no (by rw [hbo];simp) (Ev.now _))
    exact hf _ rfl
  | succ m ih =>
    intro z t a b hzz hm ha hb ht
    by_cases hz:t.size=0
    · refine ⟨t,a,b,?_,by omega⟩
      refine Ev.step (fun k=>rfl) (Ev.yes (by omega) ?_)
      have hf : ∀ bo:Bool,bo=false→Ev (fun k=>spec_l1Cur_spoilt.j1 k t u z bo s a b) (t,a,b):=fun bo hbo=>Ev.step (fun k=>rfl) (Ev.no (by rw [hbo];simp) (Ev.now _))
      exact hf _ (decide_eq_false (by omega))
    · obtain ⟨i,a1,b1,e1,i0,i1,g1,g2⟩:=dpick_ok hs ha (by omega) b (n:=(t.size:Int)) (by omega)
      obtain ⟨q,a2,b2,e2,q0,q1,g3,g4⟩:=dpick_ok hs (a:=a1) (by omega) (by omega) b1 (n:=(u.size:Int)) (by omega)
      obtain ⟨x,a3,b3,e3,x0,x1,g5,g6⟩:=dpick_ok hs (a:=a2) (by omega) (by omega) b2 (n:=3) (by omega)
      have hw:wrap64 (z - 1)=(m:Int):=by rw [w64 (by omega) (by omega)];omega
      have J:wrap64 (i + 1)=i + 1:=w64 (by omega) (by omega)
      have z1:(t.extract 0 i.toNat).size=i.toNat:=by rw [ex_size];omega
      have z2:(strOfNums [bt u q]).size=1:=by rw [strOfNums_size];rfl
      have z3:(t.extract i.toNat t.size).size=t.size - i.toNat:=by rw [ex_size];omega
      have z4:(t.extract (i + 1).toNat t.size).size=t.size - (i + 1).toNat:=by rw [ex_size];omega
      have key : ∃ t':ByteArray,t'.size≤t.size + 1∧∀ (r:ByteArray) (a' b':Int),Ev (fun k=>spec_l1Cur_spoilt.l0 k t' u (m:Int) s a3 b3) (r,a',b')→∀ bo:Bool,bo=true→Ev (fun k=>spec_l1Cur_spoilt.j1 k t u z bo s a b) (r,a',b'):=by
        by_cases c0:x=0
        · refine ⟨(t.extract 0 i.toNat ++ strOfNums [bt u q]) ++ t.extract i.toNat t.size,by rw [ByteArray.size_append,ByteArray.size_append,z1,z2,z3];omega,fun r a' b' h bo hbo=>?_⟩
          refine Ev.step (fun k=>rfl) (Ev.yes hbo (Ev.bindc e1 (Ev.bindc e2 (Ev.yes q0 (Ev.yes (by dsimp only;omega) (Ev.bindc rfl (Ev.bindc e3 (Ev.yes c0 (Ev.yes i0 (Ev.yes (by dsimp only;omega) (Ev.yes (by dsimp only;omega) (Ev.yes (by dsimp only;rw [ByteArray.size_append];omega) ?_))))))))))))
          rw [hw];exact h
        · by_cases c1:x=1
          · refine ⟨(t.extract 0 i.toNat ++ strOfNums [bt u q]) ++ t.extract (i + 1).toNat t.size,by rw [ByteArray.size_append,ByteArray.size_append,z1,z2,z4];omega,fun r a' b' h bo hbo=>?_⟩
            refine Ev.step (fun k=>rfl) (Ev.yes hbo (Ev.bindc e1 (Ev.bindc e2 (Ev.yes q0 (Ev.yes (by dsimp only;omega) (Ev.bindc rfl (Ev.bindc e3 (Ev.no c0 (Ev.yes c1 (Ev.yes i0 (Ev.yes (by dsimp only;omega) (Ev.yes (by dsimp only;omega) ?_))))))))))))
            dsimp only
            rw [hw,J]
            exact Ev.yes (by omega) (Ev.yes (by omega) (Ev.yes (by rw [ByteArray.size_append];omega) h))
          · refine ⟨t.extract 0 i.toNat ++ t.extract (i + 1).toNat t.size,by rw [ByteArray.size_append,z1,z4];omega,fun r a' b' h bo hbo=>?_⟩
            refine Ev.step (fun k=>rfl) (Ev.yes hbo (Ev.bindc e1 (Ev.bindc e2 (Ev.yes q0 (Ev.yes (by dsimp only;omega) (Ev.bindc rfl (Ev.bindc e3 (Ev.no c0 (Ev.no c1 (Ev.yes i0 (Ev.yes (by dsimp only;omega) ?_)))))))))))
            dsimp only
            rw [hw,J]
            exact Ev.yes (by omega) (Ev.yes (by omega) (Ev.yes (by omega) h))
      obtain ⟨t',ht',hk⟩:=key
      obtain ⟨r,a',b',he,hr⟩:=ih (m:Int) t' a3 b3 rfl (by omega) (by omega) (by omega) (by omega)
      refine ⟨r,a',b',?_,by omega⟩
      refine Ev.step (fun k=>rfl) (Ev.yes (by omega) ?_)
      exact hk r a' b' he _ (decide_eq_true (by omega))
theorem dspoil_ok {s:List Int} (hs:BytesV s) {a:Int} (h0:0≤a) (h1:a≤80000000) (b:Int) (t u:ByteArray) (ht:t.size≤180) (hu:0 < u.size) (J:u.size≤200) : ∃ r a' b',Ev (fun k=>spec_l1Cur_spoilt.f k s a b t u) (r,a',b')∧r.size≤200:=by
  obtain ⟨n,a1,b1,e1,n0,n1,g1,g2⟩:=dpick_ok hs h0 (by omega) b (n:=2) (by omega)
  have hw:wrap64 (1 + n)=(((1 + n).toNat:Nat):Int):=by rw [w64 (by omega) (by omega)];omega
  obtain ⟨r,a',b',he,hr⟩:=dspoil_lev hs u hu J (1 + n).toNat _ t a1 b1 rfl (by omega) (by omega) (by omega) (by omega)
  refine ⟨r,a',b',?_,by omega⟩
  unfold spec_l1Cur_spoilt.f
  refine Ev.bindc e1 ?_
  dsimp only
  rw [hw]
  exact he
/-! What the draws of puzzles lay in memory. -/
abbrev zPz:Obj:= .cells #[.int .i64 0, .int .i64 0, .slice none 0 0] 28 (0,0)
abbrev zCu (A:Option Addr) (n c:Nat):Obj:= .cells #[.slice A n c, .int .i64 0, .int .u64 0] 80 (0,0)
abbrev st3 (W:World) (q:Nat) (x y z:Value):World:=((W.setCell ⟨q,0,none⟩ x).setCell ⟨q,1,none⟩ y).setCell ⟨q,2,none⟩ z
theorem below3 {w W:World} {q:Nat} (h:Below w.heap.size w W) (hq:w.heap.size≤q) (x y z:Value):Below w.heap.size w (st3 W q x y z):=bs_ (bs_ (bs_ h hq) hq) hq
section
variable {α:Type} {d:Kd α} {e:Nat} {W:World} {base q:Nat} {ok:Nat→Prop} {v:Value} {xs:List α}
theorem R_st3 (h:d.R e W base ok v xs) (hq : ∀ k,ok k→k≠q) (x y z:Value):d.R e (st3 W q x y z) base ok v xs:=Kd.R_far (Kd.R_far (Kd.R_far h (p:=⟨q,0,none⟩) hq x) (p:=⟨q,1,none⟩) hq y) (p:=⟨q,2,none⟩) hq z
theorem R_lo {B:Nat} (h:d.R e W base ok v xs) (hb:B < base):d.R e W base (fun k=>B < k) v xs:=Kd.R_mono (Kd.R_bound h) (fun _ hk=>Nat.lt_of_lt_of_le hb hk.2.1)
end
/-- One cell of results, and the cursor behind it. -/
def DB (w:World) (o1:Obj) (l:List Int) (W:World) (a b:Int):Prop:=IsS80 w W (w.heap.size + 1) l a b∧Below w.heap.size w W∧W.heap[w.heap.size]?=some o1
theorem DB_keep {w W W2:World} {o1:Obj} {l:List Int} {a b a2 b2:Int} (h:DB w o1 l W a b) (i2:IsS80 w W2 (w.heap.size + 1) l a2 b2) (hb:Below w.heap.size w W2) (hk:KeepBut W W2 (w.heap.size + 1) none):DB w o1 l W2 a2 b2:=
  ⟨i2,hb,(hk.2 _ (blk_lt h.2.2) (by omega) (by simp)).trans h.2.2⟩
theorem DB_new {w:World} {A:Option Addr} {c:Nat} {l:List Int} (o1:Obj) (hr:Kd.C (Kd.int .u8) w A l.length l):DB w o1 l ((w.alloc o1).alloc (zCu A l.length c)) 0 0:=by
  refine ⟨⟨A,c,by simpa using blk_new (w.alloc o1) (zCu A l.length c),by omega,hr⟩,((Below.refl w.heap.size w).alloc (Nat.le_refl _) _).alloc (by simp) _,?_⟩
  simpa using ((Below.refl _ _).alloc (Nat.le_refl _) _).block _ (by simp) |>.trans (blk_new w o1)
/-! The draw of a puzzle's text, spoilt at times, by hand. -/
set_option maxHeartbeats 8000000 in
set_option maxRecDepth 100000 in
theorem spec_DrawParsePuzzle.calls (A:Option Addr) (c:Nat) (l:List Int) (w:World) (hs:BytesV l) (hr:Kd.C (Kd.int .u8) w A l.length l) :
    Calls Tryz.prog 35 #[.slice A l.length c] w fun e w'=> ∃ s:ByteArray,e = .returned (.string s)∧s.size≤1048576∧Below w.heap.size w w':=by
  have hu:=Tryz.underlying80
  have J:=Tryz.underlying28
  obtain ⟨p,d,L,a1,b1,h3,hp,u1,v1⟩:=dsureB_ok hs (a:=0) (by omega) (by omega) 0 (n:=4) (by omega)
  obtain ⟨q,a2,b2,e5,u2,v2⟩:=done_ok hs (a:=a1) (by omega) (by omega) b1 (n:=3) (by omega)
  obtain ⟨t1,t2,t3⟩:=puzzleB_txt hp
  obtain ⟨w1,w2,d1,d2⟩:=lockB_iff.mp (smallB_lock t1)
  have ht:=puzzleT_small hp
  obtain ⟨r,a3,b3,h6,hz⟩:=dspoil_ok hs (a:=a2) (by omega) (by omega) b2 (puzzleT p d L) ⟨#[48,49,50,51,52,53,54,46,44,58,120]⟩ (by omega) (by decide) (by decide)
  obtain ⟨k3,e3⟩:=h3.rounds
  obtain ⟨k4,e4⟩:=(spec_pzText.ev p d ⟨w1,w2⟩ ⟨d1,d2⟩ L t2 t3).rounds
  obtain ⟨k6,e6⟩:=h6.rounds
  generalize puzzleT p d L=t at ht e4 e6
  have S0:Aside0 (IsS80 w (w.alloc (zCu A l.length c)) w.heap.size l 0 0):=⟨A,c,blk_new w (zCu A l.length c),Nat.le_refl _,hr⟩
  have B0:=amk ((Below.refl w.heap.size w).alloc (Nat.le_refl _) (zCu A l.length c))
  have E3:=amk e3;have E4:=amk e4;have E5:=amk e5;have E6:=amk e6;have HT:=amk ht;have HZ:=amk hz
  clear hs hr h3 hp u1 v1 e5 u2 v2 t1 t2 t3 w1 w2 d1 d2 ht h6 hz e3 e4 e6
  go_enter Tryz.func35,Tryz.ntmps35
  go_wp2_with (go_at_call 59;refine Calls.mono (spec_l1Cur_surePuzzle.calls k3 w.heap.size l 0 0 4 p d L a1 b1 w _ S0.out B0.out E3.out) ?_;rintro e wx ⟨v3,rfl,hn,hi,hb,hk⟩;obtain ⟨A2,c2,rfl⟩:=Kd.R_slice hn;have S1:=amk hi;have B1:=amk hb;have R1:=amk (Kd.R_reads' hn).2.2;have I1:=amk (Kd.R_reads' hn).2.1;clear hn hi hb hk)
  go_wp2_with (go_at_call 46;refine Calls.mono (spec_pzText.calls k4 p d _ _ L t _ R1.out I1.out E4.out) ?_;rintro e wy ⟨rfl,hb⟩;have S2:=amk (S1.out.below hb);have B2:=amk (bp_ B1.out hb);clear hb R1 I1)
  cases q with
  | false =>
    go_wp2_with (go_at_call 60;refine Calls.mono (spec_l1Cur_one.calls w.heap.size l a1 b1 3 false a2 b2 w _ S2.out B2.out E5.out) ?_;rintro e wz ⟨rfl,hi,hb,hk⟩;have S3:=amk hi;have B3:=amk hb;clear hi hb hk)
    go_ret
    exact ⟨t,rfl,by have:=HT.out;omega,B3.out⟩
  | true =>
    go_wp2_with (go_at_call 60;refine Calls.mono (spec_l1Cur_one.calls w.heap.size l a1 b1 3 true a2 b2 w _ S2.out B2.out E5.out) ?_;rintro e wz ⟨rfl,hi,hb,hk⟩;have S3:=amk hi;have B3:=amk hb;clear hi hb hk)
    go_wp2_with (go_at_call 61;refine Calls.mono (spec_l1Cur_spoilt.calls k6 w.heap.size l a2 b2 t ⟨#[48,49,50,51,52,53,54,46,44,58,120]⟩ r a3 b3 w _ S3.out B3.out E6.out) ?_;rintro e wu ⟨rfl,hi,hb,hk⟩;have B4:=amk hb;clear hi hb hk)
    go_ret
    exact ⟨r,rfl,by have:=HZ.out;omega,B4.out⟩
/-! A single result cell. -/
theorem results_oneB {P:Program} {fn:Func} {p:Tmp} {ty:TypeId} (h:fn.results = #[.cell p ty]) (tmps:Array Value) (w:World) (g:Nat) (t:TypeId) (cs:Array Value) (fr:Nat×Nat) (d:TypeDesc)
    (hp:tmps.getD p undef = .pointer (some ⟨g,0,none⟩)) (hg:w.heap[g]?=some (.cells cs t fr))
    (hu:P.underlying ty=some d) (hd:(match d with | .struct _ | .array _ _=>true | _=>false)=true) (hi:(P.info? ty).map (·.size)=some cs.size) :
    (results fn tmps).run P w = .ok (.agg cs) w:=results_single h (.cell g t cs fr d hp hg hu hd hi .nil)
/-! The draws of the law FnCodesGuessed, by hand: a puzzle; a text of a puzzle, spoilt at times. -/
set_option maxHeartbeats 8000000 in
set_option maxRecDepth 100000 in
theorem spec_DrawIsPuzzle.calls (A:Option Addr) (c:Nat) (l:List Int) (w:World) (hs:BytesV l) (hr:Kd.C (Kd.int .u8) w A l.length l) :
    Calls Tryz.prog 37 #[.slice A l.length c] w fun e w'=> ∃ (p d:Int) (v:Value) (L:List S48) (B:Nat),e = .returned (.agg #[.int .i64 p, .int .i64 d,v])∧Kd.R k48 48 w' B (fun k=>w.heap.size < k) v L∧L.length≤20∧Below w.heap.size w w':=by
  have hu:=Tryz.underlying80
  have a7:=Tryz.underlying28
  have a8:=Tryz.underlying48
  obtain ⟨p,d,L,a1,b1,h3,hL,u2,v2⟩:=dpuzzle_ok hs (a:=0) (by omega) (by omega) 0
  obtain ⟨k3,e3⟩:=h3.rounds
  have S0:=amk (DB_new (c:=c) zPz hr);have E3:=amk e3;have HL:=amk hL
  clear hs hr h3 e3 hL u2 v2
  go_enter Tryz.func37,Tryz.ntmps37
  go_wp2_with (go_at_call 63;refine Calls.mono (spec_l1Cur_puzzle.calls k3 (w.heap.size + 1) l 0 0 p d L a1 b1 w _ S0.out.1 S0.out.2.1 E3.out) ?_;rintro e wx ⟨v3,rfl,hn,J,Y,Z⟩;obtain ⟨A2,c2,rfl⟩:=Kd.R_slice hn;have HZ:=amk S0.out.1.lt;have S3:=amk (DB_keep S0.out J Y Z);have N3:=amk (R_lo hn HZ.out);clear hn J Y Z;obtain ⟨y0,y1,y2,f0,f1,f2⟩:=cells3 S3.out.2.2)
  (try simp only [Exit.inBlock,Exit.then])
  have a6 : ∀ k,w.heap.size + 1 < k→k≠w.heap.size:=fun k hk=>by omega
  have N4:=R_st3 N3.out a6 (.int .i64 p) (.int .i64 d) (.slice A2 L.length c2)
  refine bodyPost_ret (results_oneB rfl _ _ w.heap.size 28 #[.int .i64 p, .int .i64 d, .slice A2 L.length c2] (0,0) _ rfl (three_set S3.out.2.2 _ _ _) Tryz.underlying28 rfl (by kernel_rfl)) rfl ?_
  exact ⟨p,d,_,L,_,rfl,Kd.R_mono N4 (fun k hk=>by omega),HL.out,below3 S3.out.2.1 (Nat.le_refl _) _ _ _⟩
set_option maxHeartbeats 8000000 in
set_option maxRecDepth 100000 in
theorem spec_DrawSolutions.calls (A:Option Addr) (c:Nat) (l:List Int) (w:World) (hs:BytesV l) (hr:Kd.C (Kd.int .u8) w A l.length l) :
    Calls Tryz.prog 5 #[.slice A l.length c] w fun e w'=> ∃ (p d:Int) (A2:Option Addr) (c2:Nat) (L:List S48),e = .returned (.agg #[.int .i64 p, .int .i64 d, .slice A2 L.length c2])∧L.length≤c2∧Kd.C k48 w' A2 L.length L∧L.length≤20∧Below w.heap.size w w':=by
  have a6:=Tryz.underlying28
  have a7:=Tryz.underlying48
  have HS:=amk hs
  have J:=(Below.refl w.heap.size w).alloc (Nat.le_refl _) zPz
  have HR:=amk (Kd.C_below hr J);have Y:=amk J
  clear hs hr J
  go_enter Tryz.func5,Tryz.ntmps5
  go_wp2_with (go_at_call 37;refine Calls.mono (spec_DrawIsPuzzle.calls A c l _ HS.out HR.out) ?_;rintro e wx ⟨p,d,v3,L,B,rfl,hn,hL,hb⟩;obtain ⟨A2,c2,rfl⟩:=Kd.R_slice hn;have HL:=amk hL;have BK:=amk (blk_below (blk_new w zPz) hb);have N3:=amk hn;have Z:=amk (bp_ Y.out hb);clear hn hL hb;obtain ⟨y0,y1,y2,f0,f1,f2⟩:=cells3 BK.out)
  (try simp only [Exit.inBlock,Exit.then])
  have a1 : ∀ k,(w.alloc zPz).heap.size < k→k≠w.heap.size:=fun k hk=>by simp at hk;omega
  have N4:=R_st3 N3.out a1 (.int .i64 p) (.int .i64 d) (.slice A2 L.length c2)
  refine bodyPost_ret (results_oneB rfl _ _ w.heap.size 28 #[.int .i64 p, .int .i64 d, .slice A2 L.length c2] (0,0) _ rfl (three_set BK.out _ _ _) Tryz.underlying28 rfl (by kernel_rfl)) rfl ?_
  exact ⟨p,d,A2,c2,L,rfl,(Kd.R_reads' N4).2.1,(Kd.R_reads' N4).2.2,HL.out,below3 Z.out (Nat.le_refl _) _ _ _⟩
/-! laws.FnCodesGuessedOfAll, by hand: what lies in memory is ONE predicate: the boxes and the rows of any kind. -/
abbrev clG (x y z:Int):Obj:= .cells #[.int .i64 x, .int .i64 y, .int .i64 z] 48 (0,0)
abbrev pzG (p d:Int) (A:Option Addr) (n c:Nat):Obj:= .cells #[.int .i64 p, .int .i64 d, .slice A n c] 28 (0,0)
def Rw:Type:= { r:World→Prop // ∀ W W2,r W→Below W.heap.size W W2→r W2 }
def rwC (A:Option Addr) (L:List S48):Rw:=⟨fun W=>Kd.C k48 W A L.length L,fun _ _ h hb=>Kd.C_below h hb⟩
def rwS (A:Option Addr) (L:List ByteArray):Rw:=⟨fun W=>Kd.C Kd.string W A L.length L,fun _ _ h hb=>Kd.C_below h hb⟩
def rwI (A:Option Addr) (L:List Int):Rw:=⟨fun W=>Kd.C (Kd.int .i64) W A L.length L,fun _ _ h hb=>Kd.C_below h hb⟩
def rwE:Rw:=⟨EnvP,fun _ _ h hb=>h.below hb⟩
def Mg (w:World) (bs:List (Nat×Obj)) (rs:List Rw) (W:World):Prop:=
  Below w.heap.size w W∧(∀ b∈bs,W.heap[b.1]?=some b.2)∧∀ r∈rs,r.1 W
section
variable {w W W2:World} {bs:List (Nat×Obj)} {rs:List Rw}
theorem Mg_below (h:Mg w bs rs W) (hb:Below W.heap.size W W2):Mg w bs rs W2:=⟨bp_ h.1 hb,fun b m=>blk_below (h.2.1 b m) hb,fun r m=>r.2 _ _ (h.2.2 r m) hb⟩
theorem Mg_box (h:Mg w bs rs W) (o:Obj):Mg w ((W.heap.size,o) :: bs) rs (W.alloc o):=
  have hb:=(Below.refl W.heap.size W).alloc (Nat.le_refl _) o
  ⟨bp_ h.1 hb,fun b m=>by (cases m with | head=>exact blk_new W o | tail _ m=>exact blk_below (h.2.1 b m) hb),fun r m=>r.2 _ _ (h.2.2 r m) hb⟩
theorem Mg_row (h:Mg w bs rs W) (r:Rw) (hc:r.1 W):Mg w bs (r :: rs) W:=
  ⟨h.1,h.2.1,fun q m=>by (cases m with | head=>exact hc | tail _ m=>exact h.2.2 q m)⟩
theorem Mg_pop {b:Nat×Obj} (h:Mg w (b :: bs) rs W):Mg w bs rs W:=⟨h.1,fun x m=>h.2.1 x (.tail _ m),h.2.2⟩
theorem rC {A:Option Addr} {L:List S48} (h:Mg w bs rs W) (m:rwC A L∈rs):Kd.C k48 W A L.length L:=h.2.2 _ m
theorem rS {A:Option Addr} {L:List ByteArray} (h:Mg w bs rs W) (m:rwS A L∈rs):Kd.C Kd.string W A L.length L:=h.2.2 _ m
theorem rI {A:Option Addr} {L:List Int} (h:Mg w bs rs W) (m:rwI A L∈rs):Kd.C (Kd.int .i64) W A L.length L:=h.2.2 _ m
theorem rE (h:Mg w bs rs W) (m:rwE∈rs):EnvP W:=h.2.2 _ m
theorem gx3 {g:Nat} {u v x:Value} {T:Nat} (h:Mg w bs rs W) (m:(g,Obj.cells #[u,v,x] T (0,0))∈bs):W.cell? ⟨g,0,none⟩=some u∧W.cell? ⟨g,1,none⟩=some v∧W.cell? ⟨g,2,none⟩=some x:=⟨(cells3 (h.2.1 _ m)).1,(cells3 (h.2.1 _ m)).2.1,(cells3 (h.2.1 _ m)).2.2.1⟩
/-- With an iterator of a text behind it. -/
def Mi (w:World) (bs:List (Nat×Obj)) (rs:List Rw) (s:ByteArray) (i g:Nat) (W:World):Prop:= ∃ W0,Mg w bs rs W0∧Below W0.heap.size W0 W∧W0.heap.size≤g∧W.heap[g]?=some (.stringIter s i)
theorem Mi_of (h:Mg w bs rs W) (s:ByteArray):Mi w bs rs s 0 W.heap.size (W.iter s 0):=⟨W,h,(Below.refl _ _).alloc (Nat.le_refl _) _,Nat.le_refl _,World.iter_heap W s 0⟩
theorem Mi_mg {s:ByteArray} {i g:Nat} (h:Mi w bs rs s i g W):Mg w bs rs W:=by obtain ⟨W0,h0,hb,_⟩:=h;exact Mg_below h0 hb
theorem Mi_below {s:ByteArray} {i g:Nat} (h:Mi w bs rs s i g W) (hb:Below W.heap.size W W2):Mi w bs rs s i g W2:=by obtain ⟨W0,h0,J,hg,hi⟩:=h;exact ⟨W0,h0,below_then J J.size hb,hg,blk_below hi hb⟩
theorem Mi_iter {s:ByteArray} {i g:Nat} (h:Mi w bs rs s i g W) (j:Nat):Mi w bs rs s j g (W.iterAt g s j):=by obtain ⟨W0,h0,J,hg,hi⟩:=h;exact ⟨W0,h0,Lib.below_iterAt J hg s j,hg,Lib.iterAt_heap W g s i j hi⟩
end
theorem wr_g {i n:Nat} (h:i < n) (hn:n≤1000000):wrap64 ((i:Int) + 1)=((i + 1:Nat):Int):=w64 (by omega) (by omega)
theorem mg1 {i n g:Nat} (h:i < n) (hi:i≤n∧n≤i + g):n - (i + 1) < g:=by omega
theorem mg2 {i n:Nat} (h:i < n):i + 1≤n∧n≤i + 1 + (n - (i + 1)):=by omega
theorem Mg_drop {w W:World} {bs:List (Nat×Obj)} {rs:List Rw} {b:Nat×Obj} {r:Rw} (h:Mg w (b :: bs) (r :: rs) W):Mg w bs rs W:=⟨h.1,fun x m=>h.2.1 x (.tail _ m),fun x m=>h.2.2 x (.tail _ m)⟩
def bP (n i:Nat):Array Bool:=bA n (2 ^ i - 1)
/-! The steps of CBr where what follows a panic is told by a hypothesis 'hQ' of the place of use. -/
section
variable {P:Program} {md:Region.Mode} {ops:Array Oper} {S:World→Prop} {ds:List Nat} {fuel:Nat} {l:Array Bool} {a a':Act} {w:World} {oi:Oper} {Q:Exit→Act→World→Prop} {T:Bool×List (List Nat×List Nat)} {B:List Nat}
theorem pV_ (HT:Aside0 (rtab md ops=T)) (i:Nat) (N:Option Tmp) (l':Array Bool) {v:Value} (h:wpAnyLast P md ops Q S ds fuel l' a' w)
    (hi:ops[i]?=some oi:=by rfl) (hN:oi.dst=N:=by rfl) (hc:anyT T l.toList l'.toList i=true:=by kernel_rfl) (hP : ∀ c a w,Q (.panic c) (a.put oi.dst v) w→Q (.panic c) a w:=by intro c a w2 h;exact hQ c _ a.tmps a.defers w2 h)
    (hw:Region.wanted oi (yielded ops a.tmps)=true:=by rfl) (hy : ∀ w,(execOp a.eval oi).run P w = .ok (.value v) w:=by (intro w';go_simp;with_reducible rfl)) (ha:a.put N v=a':=by (simp only [Act.put,List.setIfInBounds_toArray,List.set_cons_zero,List.set_cons_succ,i64_w,i32_w];rfl)):wpAnyLast P md ops Q S ds (fuel + 1) l a w:=
  pU_ HT i N l' h hi hN hc hP hw hy ha
theorem zV_ (HT:Aside0 (rtab md ops=T)) (i:Nat) (N:Option Tmp) (l':Array Bool) (h:wpAnyLast P md ops Q S ds fuel l' a' w)
    (hi:ops[i]?=some oi:=by rfl) (hN:oi.dst=N:=by rfl) (hc:anyT T l.toList l'.toList i=true:=by kernel_rfl) (hP : ∀ c a w,Q (.panic c) (a.put oi.dst undef) w→Q (.panic c) a w:=by intro c a w2 h;exact hQ c _ a.tmps a.defers w2 h)
    (hw:Region.wanted oi (yielded ops a.tmps)=false:=by rfl) (ha:a.put N undef=a':=by (simp only [Act.put,List.setIfInBounds_toArray,List.set_cons_zero,List.set_cons_succ,i64_w,i32_w];rfl)):wpAnyLast P md ops Q S ds (fuel + 1) l a w:=
  pZ_ HT i N l' h hi hN hc hP hw ha
theorem tV_ (HT:Aside0 (rtab md ops=T)) (HW:Aside0 (waitsOk T.2 B=true)) (hS:S w) (i:Nat) (N:Option Tmp) (l':Array Bool) {v:Value} (h:wpAnyLast P md ops Q S ds fuel l' a' w)
    (hi:ops[i]?=some oi:=by rfl) (hN:oi.dst=N:=by rfl) (hc:takeW T B ds l.toList l'.toList i=true:=by kernel_rfl) (hP : ∀ c a w,Q (.panic c) (a.put oi.dst v) w→Q (.panic c) a w:=by intro c a w2 h;exact hQ c _ a.tmps a.defers w2 h)
    (hw:Region.wanted oi (yielded ops a.tmps)=true:=by rfl) (hy : ∀ w,S w→(execOp a.eval oi).run P w = .ok (.value v) w:=by (intro w' s;repeat (have:=And.left s;replace s:=And.right s);go_simp;with_reducible rfl)) (ha:a.put N v=a':=by (simp only [Act.put,List.setIfInBounds_toArray,List.set_cons_zero,List.set_cons_succ,i64_w,i32_w];rfl)):wpAnyLast P md ops Q S ds (fuel + 1) l a w:=
  tK_ HT HW hS i N l' h hi hN hc hP hw hy ha
end
/-! A region, or an 'if', out of a function's code. -/
def regOn (n:Nat):Code→Option Code
  | .region i o b=>if i=n then some (.region i o b) else none
  | .seq a b=>match regOn n a with | some c=>some c | none=>regOn n b
  | .cond _ a b=>match regOn n a with | some c=>some c | none=>regOn n b
  | .block _ a=>regOn n a
  | .loop a=>regOn n a
  | _=>none
def condOn (n:Nat):Code→Option Code
  | .cond (.tmp i) a b=>if i=n then some (.cond (.tmp i) a b) else match condOn n a with | some c=>some c | none=>condOn n b
  | .seq a b=>match condOn n a with | some c=>some c | none=>condOn n b
  | .block _ a=>condOn n a
  | .loop a=>condOn n a
  | _=>none
/-! laws.FnCodesGuessedOfAll, a part of its walk: printed by gengu.py. -/
noncomputable def regV (n:Nat):Code:=(Tryz.f3.body.bind (regOn n)).getD .skip
noncomputable def condV (n:Nat):Code:=(Tryz.f3.body.bind (condOn n)).getD .skip
end Go.Proofs.YtfginhjgeholcaaGreatDoor.P