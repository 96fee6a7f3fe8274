/-
  Texts that the proof stands on.
-/
import Derived.Test.YthfddkcnegkbhaaGreatDoorKRwTopMerged5
set_option linter.all false
section
namespace Ab
open Go
theorem half_eq{i j:Int}(h0:0≤i)(h1:i≤j)(h2:j≤1000000):w64 (shrW .u64 ((IntKind.u64).wrap (w64 (i+j))) 1)=(i+j) / 2:=by
 rw [x5 (n:=i+j) (by omega) (by omega),IntKind.wrap_u64,Int.emod_eq_of_lt (by omega) (by omega)]
 have:shrW .u64 (i+j) 1=(i+j) / 2:=by
  simp only [shrW,IntKind.bits]
  rw [show min (1:Int).toNat 64=1 by rfl,Int.fdiv_eq_ediv_of_nonneg _ (by decide)]
  rfl
 rw [this]
 exact x5 (by omega) (by omega)
theorem less_eq(a b:Int):U9 a b=some (decide (a<b)):=by simp [U9,cmp_isNaN_int]
theorem bsearch_eq{xs:List Int}(hs:Inc xs)(hl:xs.length≤500000)(t:Int):∃ i,q9 xs t=some (i,dec (t ∈ xs))∧0≤i∧i≤xs.length∧(∀ k a,0≤k→k<i→ix xs k=some a→a<t)∧(∀ k a,i≤k→ix xs k=some a→t≤a):=by
 unfold q9
 obtain ⟨i,h1,h2,h3,h4,h5⟩:=U6 (body:=y8 xs t) (fun p=>(0≤p.1∧p.1≤p.2∧p.2≤xs.length)∧(∀ k a,0≤k→k<p.1→ix xs k=some a→a<t)∧(∀ k a,p.2≤k→ix xs k=some a→t≤a))
  (fun i=>0≤i∧i≤xs.length∧(∀ k a,0≤k→k<i→ix xs k=some a→a<t)∧(∀ k a,i≤k→ix xs k=some a→t≤a)) (fun p=>(p.2 - p.1).toNat) (s:=(0,(xs.length:Int)))
  ⟨⟨by simp,by simp,by simp⟩,fun k a h1 h2=>by simp at h2; omega,fun k a h1 h2=>by have:=(o6 h2).2.1; simp at h1; omega⟩ (fun ⟨i,j⟩ ⟨⟨g1,g2,g3⟩,g4,g5⟩=>by
  dsimp only at g1 g2 g3 g4 g5 ⊢
  unfold y8
  dsimp only
  by_cases c:i<j
  ·rw [if_pos c,half_eq g1 g2 (by omega)]
   obtain ⟨a,ha,ga⟩:=m9 (l:=xs) (i:=(i+j) / 2) (by omega) (by omega)
   rw [ha]
   simp only [oB,less_eq,decide_eq_true_eq]
   by_cases c2:a<t
   ·rw [if_pos c2,x5 (by omega) (by omega)]
    refine .inl ⟨_,rfl,⟨⟨by dsimp only; omega,by dsimp only; omega,g3⟩,fun k b k0 k1 hb=> ?_,g5⟩,by dsimp only; omega⟩
    dsimp only at k1
    obtain ⟨_,_,gb⟩:=o6 hb
    by_cases e:k=(i+j) / 2
    ·subst e; rw [ha] at hb; cases hb; exact c2
    ·have:=hs.get gb ga (by omega); omega
   ·rw [if_neg c2]
    refine .inl ⟨_,rfl,⟨⟨g1,by dsimp only; omega,by dsimp only; omega⟩,g4,fun k b k0 hb=> ?_⟩,by dsimp only; omega⟩
    dsimp only at k0
    obtain ⟨_,_,gb⟩:=o6 hb
    by_cases e:k=(i+j) / 2
    ·subst e; rw [ha] at hb; cases hb; omega
    ·have:=hs.get ga gb (by omega); omega
  ·rw [if_neg c]
   have:i=j:=by omega
   subst this
   exact .inr ⟨i,rfl,g1,g3,g4,g5⟩)
 rw [h1]
 simp only [oB]
 refine ⟨i, ?_,h2,h3,h4,h5⟩
 have nin:(∀ a,ix xs i=some a→a ≠ t)→t ∉ xs:=fun hne hin=>by
  obtain ⟨k,k0,k1,hk⟩:=w8 hin
  rcases Int.lt_trichotomy k i with c | c | c
  ·have:=h4 k t k0 c hk; omega
  ·subst c; exact hne t hk rfl
  ·obtain ⟨b,hb,gb⟩:=m9 (l:=xs) (i:=i) (by omega) (by omega)
   obtain ⟨_,_,gk⟩:=o6 hk
   have:=hs.get gb gk (by omega)
   have:=h5 i b (Int.le_refl _) hb
   omega
 by_cases c:i<xs.length
 ·obtain ⟨a,ha,ga⟩:=m9 (l:=xs) (i:=i) (by omega) c
  rw [if_pos c,ha]
  simp only [oB]
  by_cases c2:a=t
  ·subst c2
   rw [if_pos rfl,l8 (o5 ha)]
   rfl
  ·rw [if_neg c2]
   simp only [K7,decide_true,Bool.not_true,Bool.false_eq_true,if_false,oB]
   rw [y6 (nin fun b hb=>by rw [ha] at hb; cases hb; exact c2)]
 ·rw [if_neg c]
  simp only [oB]
  rw [y6 (nin fun b hb=>by have:=(o6 hb).2.1; omega)]
theorem bsearch2{xs:List Int}(hs:Inc xs)(hl:xs.length≤500000)(t:Int):∃ i,q9 xs t=some (i,dec (t ∈ xs)):=
 let ⟨i,h,_⟩:=bsearch_eq hs hl t
 ⟨i,h⟩
theorem containsFunc_eq{l:List Int}{f:Int→Option Bool}(p:Int→Prop)(hf:∀ x ∈ l,f x=some (dec (p x))):w7 l f=some (dec (∃ x ∈ l,p x)):=by
 unfold w7 E6
 rcases V0 (body:=B8 l f) (n:=(l.length:Int)) (fun j=>if dec (∀ a,ix l j=some a→¬ p a)=true then none else some j) (by omega) (fun j h0 h1 _=>by
  obtain ⟨a,ha,_⟩:=m9 (l:=l) h0 h1
  unfold B8
  rw [ha]
  simp only [oB,hf a (o5 ha)]
  by_cases c:p a
  ·rw [if_pos (l8 c),if_neg (by rw [k7]; exact fun h=>h a rfl c)]
  ·rw [if_neg (by rw [y6 c]; simp),if_pos (l8 fun b hb=>by cases hb; exact c)]) with ⟨h1,h2⟩ | ⟨j,o,h0,h1,h2,_,h4⟩
 ·rw [h1]
  simp only [oB]
  rw [y6]
  ·rfl
  ·rintro ⟨x,hx,hp⟩
   obtain ⟨i,g1,g2,g3⟩:=w8 hx
   have:=h2 i g1 g2
   split at this
   ·rename_i h; exact k7.1 h x g3 hp
   ·cases this
 ·rw [h4]
  split at h2
  ·cases h2
  ·rename_i h
   cases h2
   simp only [oB]
   rw [l8]
   ·simp [h0]
   ·simp only [k7] at h
    obtain ⟨a,g1,_⟩:=m9 (l:=l) h0 h1
    refine ⟨a,o5 g1, ?_⟩
    rcases Classical.em (p a) with c | c
    ·exact c
    ·exact absurd (fun b hb=>by rw [g1] at hb; cases hb; exact c) h
theorem meets_eq{a b:List Int}(hb:Inc b)(hl:b.length≤500000):T5 a b=some (dec (∃ x ∈ a,x ∈ b)):=by
 unfold T5
 rw [containsFunc_eq (fun x=>x ∈ b) (fun x _=>by
  unfold V3
  obtain ⟨i,h⟩:=bsearch2 hb hl x
  rw [h]; rfl)]
 rfl
/-! ### Sorted, and equal neighbours made one -/
theorem compact_spec{l:List Int}(hs:l.Pairwise (· ≤ ·)):Inc (aa9 l)∧∀ x,x ∈ aa9 l↔x ∈ l:=by
 have key:∀ m,m≤l.length→Inc (Go.Lib.compactUpTo l.toArray m)∧(∀ x,x ∈ Go.Lib.compactUpTo l.toArray m↔x ∈ l.take m):=by
  intro m
  induction m with
  | zero=>intro _; simp [Go.Lib.compactUpTo]
  | succ m ih=>
   intro hm
   obtain ⟨h1,h2⟩:=ih (by omega)
   have hlt:m<l.length:=by omega
   have hd:l.toArray[m]! =l[m]:=by simp [hlt]
   have ht:l.take (m+1)=l.take m++[l[m]]:=by rw [List.take_add_one]; simp [hlt]
   rw [Go.Lib.compactUpTo_succ,ht]
   by_cases hk:Go.Lib.keeps l.toArray m=true
   ·rw [if_pos hk,hd]
    refine ⟨List.pairwise_append.2 ⟨h1,by simp,fun a ha b hb=> ?_⟩,fun x=>by rw [List.mem_append,List.mem_append,h2]⟩
    simp only [List.mem_singleton] at hb
    subst hb
    have ha':=(h2 a).1 ha
    obtain ⟨i,hi,rfl⟩:=List.mem_iff_getElem.1 ha'
    rw [List.length_take] at hi
    rw [List.getElem_take]
    simp only [Go.Lib.keeps,decide_eq_true_eq] at hk
    rcases hk with hk | hk
    ·omega
    ·have hm1:l.toArray[m - 1]! =l[m - 1]:=by simp [show m - 1<l.length by omega]
     rw [hd,hm1] at hk
     have e1:l[m - 1]≤l[m]:=List.pairwise_iff_getElem.1 hs (m - 1) m (by omega) hlt (by omega)
     have e2:l[i]≤l[m - 1]:=by
      rcases Nat.lt_or_ge i (m - 1) with c | c
      ·exact List.pairwise_iff_getElem.1 hs i (m - 1) (by omega) (by omega) c
      ·have:i=m - 1:=by omega
       subst this; exact Int.le_refl _
     omega
   ·rw [if_neg hk,List.append_nil]
    refine ⟨h1,fun x=> ?_⟩
    rw [h2,List.mem_append]
    refine ⟨.inl,fun h=> ?_⟩
    rcases h with h | h
    ·exact h
    ·simp only [List.mem_singleton] at h
     subst h
     have hm0:m ≠ 0:=fun e=>hk (by simp [Go.Lib.keeps,e])
     have hm1:l.toArray[m - 1]! =l[m - 1]:=by simp [show m - 1<l.length by omega]
     have he:l[m]=l[m - 1]:=by
      simp only [Go.Lib.keeps,decide_eq_true_eq,not_or] at hk
      have h3:l.toArray[m]! =l.toArray[m - 1]! :=Classical.not_not.1 (fun h=>hk.2 h)
      rw [hd,hm1] at h3; exact h3
     rw [he,List.mem_take_iff_getElem]
     exact ⟨m - 1,by omega,rfl⟩
 obtain ⟨h1,h2⟩:=key l.length (Nat.le_refl _)
 refine ⟨?_,fun x=> ?_⟩
 ·simpa [aa9,Go.Lib.compact] using h1
 ·have:=h2 x
  rw [List.take_length] at this
  simpa [aa9,Go.Lib.compact] using this
theorem srt_spec(l:List Int):(srt l).Pairwise (· ≤ ·)∧∀ x,x ∈ srt l↔x ∈ l:=by
 refine ⟨?_,fun x=>by simp [srt]⟩
 have:=List.pairwise_mergeSort (le:=fun x y:Int=>decide (x≤y)) (fun a b c h1 h2=>by simp at h1 h2 ⊢; omega) (fun a b=>by simp; omega) l
 refine this.imp fun h=>by simpa using h
theorem sortL_eq{l:List Int}(h:l.length<4611686018427387904):sortL l=some (srt l):=by rw [sortL,if_pos h]
theorem update_inc{s add del:List Int}(hd:Inc del)(hl:del.length≤500000)(h1:s.length≤500000)(h2:add.length≤500000):
  ∃ r,C3 s add del=some r∧Inc r∧∀ x,x ∈ r↔(x ∈ s∧x ∉ del)∨x ∈ add:=by
 unfold C3
 rw [forR_filter (l:=s) (b:=8) (fun a=>a ∉ del) (fun j a c h=>by
  obtain ⟨i,hi⟩:=bsearch2 hd hl a
  unfold aa7
  rw [h]
  simp only [oB,hi,B6]
  refine ⟨fun hq=> ?_,fun hq=> ?_⟩
  ·rw [if_pos (l8 hq)]
   cases app 8 c [a]<;>rfl
  ·rw [if_neg (by simpa using hq)]; rfl) [] (by simp; omega)]
 simp only [oB,List.nil_append]
 have hle:(s.filter fun a=>dec (a ∉ del)).length≤s.length:=List.length_filter_le _ _
 rw [show app 8 (s.filter fun a=>dec (a ∉ del)) add=some ((s.filter fun a=>dec (a ∉ del))++add) by rw [app,if_pos]; omega]
 simp only [oB]
 rw [sortL_eq (by rw [List.length_append]; omega)]
 simp only [oB]
 obtain ⟨e1,e2⟩:=srt_spec ((s.filter fun a=>dec (a ∉ del))++add)
 obtain ⟨e3,e4⟩:=compact_spec e1
 refine ⟨_,rfl,e3,fun x=> ?_⟩
 rw [e4,e2,List.mem_append,List.mem_filter,k7]
theorem update_eq{s add del:List Int}{n:Int}(hn:n≤1000)(hd:Inc del)(hl:del.length≤500000)(hs:SetN s n)(ha:SetN add n):
  C3 s add del=some (F4 (fun x=>(x ∈ s∧x ∉ del)∨x ∈ add) n):=by
 have h1:=hs.len; have h2:=ha.len
 obtain ⟨r,e1,e2,e3⟩:=update_inc (s:=s) (add:=add) hd hl (by omega) (by omega)
 rw [e1,SetN.eq_of (n:=n) ⟨e2,fun x hx=> ?_⟩ (fun x _ _=>e3 x)]
 rcases (e3 x).1 hx with h | h
 ·exact hs.2 x h.1
 ·exact ha.2 x h
theorem union_eq{a b:List Int}{n:Int}(hn:n≤1000)(ha:SetN a n)(hb:SetN b n):U3 a b=some (F4 (fun x=>x ∈ a∨x ∈ b) n):=by
 unfold U3
 rw [update_eq hn .nil (by simp) ha hb]
 simp
end Ab
end
section
namespace Ab
open Go
def R1(o:f9)(n:Int):Prop:=SetN o.pre n∧SetN o.add n∧SetN o.del n∧∀ x ∈ o.add,x ∉ o.del
def W6(o:f9):Prop:=0≤o.cost∧o.cost≤100
noncomputable def R2(o:f9)(n:Int):Int:=if dec (R1 o n)=true then if dec (W6 o)=true then 0 else 3 else 5
structure j6(t:d7):Prop where
 n0:0≤t.facts
 n1:t.facts≤24
 init:SetN t.init t.facts
 goal:SetN t.goal t.facts
 ops:t.operators.length≤40
 op:∀ o ∈ t.operators,R1 o t.facts∧W6 o
def PlanOk(t:d7)(plan:List Int):Prop:=plan.length≤60∧∀ x ∈ plan,0≤x∧x<t.operators.length
theorem opCode_zero{o:f9}{n:Int}:R2 o n=0↔R1 o n∧W6 o:=by
 unfold R2
 by_cases h:R1 o n
 ·rw [if_pos (l8 h)]
  by_cases g:W6 o
  ·rw [if_pos (l8 g)]; simp [h,g]
  ·rw [if_neg (by rw [y6 g]; simp)]; simp [g]
 ·rw [if_neg (by rw [y6 h]; simp)]; simp [h]
theorem operator_eq{o:f9}{n:Int}(h0:0≤n)(h1:n≤24):N6 o n=some (R2 o n):=by
 unfold N6 R2
 simp only [aq4,oB,B6]
 have bad:¬ R1 o n→dec (R1 o n)=true→False:=fun h g=>h (k7.1 g)
 by_cases c1:SetN o.pre n
 ·rw [if_neg (by simpa using c1)]
  by_cases c2:SetN o.add n
  ·rw [if_neg (by simpa using c2)]
   by_cases c3:SetN o.del n
   ·rw [if_neg (by simpa using c3)]
    have hl:=c3.len
    rw [meets_eq c3.1 (by omega)]
    simp only [oB]
    by_cases c4:∃ x ∈ o.add,x ∈ o.del
    ·rw [if_pos (l8 c4),if_neg]
     rw [k7]
     obtain ⟨x,g1,g2⟩:=c4
     exact fun h=>h.2.2.2 x g1 g2
    ·have hs:R1 o n:=⟨c1,c2,c3,fun x g1 g2=>c4 ⟨x,g1,g2⟩⟩
     rw [if_neg (by rw [y6 c4]; simp),if_pos (l8 hs)]
     by_cases c5:W6 o
     ·rw [if_pos (l8 c5),if_neg]
      have:=c5.1; have:=c5.2
      simp; omega
     ·rw [if_neg (fun h=>c5 (k7.1 h)),if_pos]
      unfold W6 at c5
      simp; omega
   ·rw [if_pos (by simpa using c3)]
    simp only [oB,if_true]
    rw [if_neg fun h=>c3 (k7.1 h).2.2.1]
  ·rw [if_pos (by simpa using c2)]
   simp only [oB,if_true]
   rw [if_neg fun h=>c2 (k7.1 h).2.1]
 ·rw [if_pos (by simpa using c1)]
  simp only [oB,if_true]
  rw [if_neg fun h=>c1 (k7.1 h).1]
theorem W7(t:d7):∃ f,s6 t=some f∧V7 t=some f∧((f=⟨0,0⟩∧j6 t)∨(f.code ≠ 0∧¬ j6 t)):=by
 unfold s6 V7
 simp only [in_eq,at_eq,oB,B6]
 by_cases c1:0≤t.facts∧t.facts≤24
 ·rw [if_neg (by simp; omega),ifNN c1]
  simp only [aq4,rIsSet_eq (n:=t.facts) _ (by omega) (by omega),oB,B6]
  by_cases c2:SetN t.init t.facts
  ·rw [ifNN c2,ifNN c2]
   by_cases c3:SetN t.goal t.facts
   ·rw [ifNN c3,ifNN c3]
    by_cases c4:40<(t.operators.length:Int)
    ·rw [if_pos c4,if_pos c4]
     exact ⟨_,rfl,rfl,.inr ⟨by simp,fun h=>by have:=h.ops; omega⟩⟩
    ·rw [if_neg c4,if_neg c4]
     have hb:∀ j:Int,0≤j→j<t.operators.length→∃ o,ix t.operators j=some o∧G8 t j ()=some (if R2 o t.facts=0 then .inl () else .inr ⟨R2 o t.facts,j⟩)∧I9 t j ()=some (if R2 o t.facts=0 then .inl () else .inr ⟨R2 o t.facts,j⟩):=fun j h0 h1=>by
      obtain ⟨o,ho,_⟩:=m9 (l:=t.operators) h0 h1
      refine ⟨o,ho, ?_, ?_⟩
      ·unfold G8
       rw [ho]
       simp only [oB,operator_eq c1.1 c1.2]
       by_cases e:R2 o t.facts=0
       ·rw [if_pos e,if_pos e]
       ·rw [if_neg e,if_neg e]
      ·unfold I9
       rw [ho]
       simp only [oB,rIsSet_eq (n:=t.facts) _ (show -9223372036854775808<t.facts by omega) (show t.facts≤9223372036854775807 by omega),disjoint_eq,in_eq,at_eq,B6]
       have hp:(if dec (¬ SetN o.pre t.facts)=true then some true else if dec (¬ SetN o.add t.facts)=true then some true else if dec (¬ SetN o.del t.facts)=true then some true else some (dec (¬ ∀ x ∈ o.add,x ∉ o.del)))=some (dec (¬ R1 o t.facts)):=by
        unfold R1
        by_cases g1:SetN o.pre t.facts
        ·rw [if_neg (by simpa using g1)]
         by_cases g2:SetN o.add t.facts
         ·rw [if_neg (by simpa using g2)]
          by_cases g3:SetN o.del t.facts
          ·rw [if_neg (by simpa using g3)]
           exact congrArg some (F1 ⟨fun h g=>h g.2.2.2,fun h g=>h ⟨g1,g2,g3,g⟩⟩)
          ·rw [if_pos (by simpa using g3),l8 (fun g=>g3 g.2.2.1)]
         ·rw [if_pos (by simpa using g2),l8 (fun g=>g2 g.2.1)]
        ·rw [if_pos (by simpa using g1),l8 (fun g=>g1 g.1)]
       rw [hp]
       simp only [oB]
       unfold R2
       by_cases g1:R1 o t.facts
       ·rw [if_neg (by simpa using g1),if_pos (l8 g1)]
        by_cases g2:W6 o
        ·rw [ifP g2,ifNN (p:=0≤o.cost∧o.cost≤100) g2]; rfl
        ·rw [ifN g2,ifP (p:=¬ (0≤o.cost∧o.cost≤100)) g2]; rfl
       ·rw [if_pos (l8 g1),if_neg (fun h=>g1 (k7.1 h))]; rfl
     have heq:rngX 0 (t.operators.length:Int) (G8 t) ()=rngX 0 (t.operators.length:Int) (I9 t) ():=
      (rngX_eq (fun _ _=>True) (by omega) trivial (fun j s h0 h1 _=>by
       obtain ⟨o,_,e1,e2⟩:=hb j h0 h1
       exact ⟨by rw [e1,e2],by rw [e1]; simp,fun _ _=>trivial⟩)).1
     rcases V0 (body:=I9 t) (n:=(t.operators.length:Int)) (fun j=>match ix t.operators j with | some o=>if R2 o t.facts=0 then none else some (⟨R2 o t.facts,j⟩:g8) | none=>none) (by omega) (fun j h0 h1 _=>by
      obtain ⟨o,e0,_,e2⟩:=hb j h0 h1
      rw [e2,e0]
      dsimp only
      split<;>rfl) with ⟨h1,h2⟩ | ⟨j,f,h0,h1,h2,_,h4⟩
     ·rw [heq,h1]
      refine ⟨⟨0,0⟩,rfl,rfl,.inl ⟨rfl,c1.1,c1.2,c2,c3,by omega,fun o ho=> ?_⟩⟩
      obtain ⟨j,g0,g1,g2⟩:=w8 ho
      have:=h2 j g0 g1
      rw [g2] at this
      dsimp only at this
      split at this
      ·rename_i e; exact opCode_zero.1 e
      ·cases this
     ·rw [heq,h4]
      obtain ⟨o,e0,_,_⟩:=hb j h0 h1
      rw [e0] at h2
      dsimp only at h2
      split at h2
      ·cases h2
      ·rename_i e
       cases h2
       exact ⟨_,rfl,rfl,.inr ⟨e,fun h=>e (opCode_zero.2 (h.op o (o5 e0)))⟩⟩
   ·rw [ifP c3,ifP c3]
    exact ⟨_,rfl,rfl,.inr ⟨by simp,fun h=>c3 h.goal⟩⟩
  ·rw [ifP c2,ifP c2]
   exact ⟨_,rfl,rfl,.inr ⟨by simp,fun h=>c2 h.init⟩⟩
 ·rw [if_pos (by simp; omega),if_pos (l8 c1)]
  exact ⟨_,rfl,rfl,.inr ⟨by simp,fun h=>c1 ⟨h.n0,h.n1⟩⟩⟩
theorem fault_no{f:g8}(h:f.code ≠ 0):(!((decide (f.code=0)) && (decide (f.index=0))))=true:=by simp [h]
theorem rSteps_eq{n:Int}(h0:0≤n)(h1:n≤9223372036854775807)(plan:List Int):∃ f,I0 n plan=some f∧((f=⟨0,0⟩∧plan.length≤60∧∀ x ∈ plan,0≤x∧x<n)∨(f.code ≠ 0∧¬ (plan.length≤60∧∀ x ∈ plan,0≤x∧x<n))):=by
 unfold I0
 by_cases c:60<(plan.length:Int)
 ·rw [if_pos c]
  exact ⟨⟨2, -5⟩,rfl,.inr ⟨by simp,fun h=>by omega⟩⟩
 ·rw [if_neg c]
  rw [af1 (l:=plan) (fun x=>0≤x∧x<n) (⟨3, -6⟩:g8) (fun j a h=>by
   unfold T6
   rw [h]
   simp only [oB,in_eq,at_eq,x5 (n:=n - 1) (by omega) (by omega),B6]
   by_cases g:0≤a∧a<n
   ·rw [if_neg (by simp; omega)]; exact .inl ⟨g,rfl⟩
   ·rw [if_pos (by rw [k7]; omega)]; exact .inr ⟨g,rfl⟩)]
  by_cases g:∀ x ∈ plan,0≤x∧x<n
  ·rw [if_pos (l8 g)]
   exact ⟨_,rfl,.inl ⟨rfl,by omega,g⟩⟩
  ·rw [if_neg (fun h=>g (k7.1 h))]
   exact ⟨_,rfl,.inr ⟨by simp,fun h=>g h.2⟩⟩
theorem steps_eq{n:Int}(h0:0≤n)(h1:n≤9223372036854775807)(plan:List Int):∃ f,U7 n plan=some f∧I0 n plan=some f∧((f=⟨0,0⟩∧plan.length≤60∧∀ x ∈ plan,0≤x∧x<n)∨(f.code ≠ 0∧¬ (plan.length≤60∧∀ x ∈ plan,0≤x∧x<n))):=by
 unfold U7 I0
 by_cases c:60<(plan.length:Int)
 ·rw [if_pos c,if_pos c]
  exact ⟨⟨2, -5⟩,rfl,rfl,.inr ⟨by simp,fun h=>by omega⟩⟩
 ·rw [if_neg c,if_neg c]
  rw [af1 (l:=plan) (fun x=>0≤x∧x<n) (⟨3, -6⟩:g8) (fun j a h=>by
   unfold ae6
   rw [h]
   simp only [oB]
   by_cases g:0≤a∧a<n
   ·rw [if_neg (by simp; omega)]; exact .inl ⟨g,rfl⟩
   ·rw [if_pos (by simp; omega)]; exact .inr ⟨g,rfl⟩)]
  rw [af1 (l:=plan) (fun x=>0≤x∧x<n) (⟨3, -6⟩:g8) (fun j a h=>by
   unfold T6
   rw [h]
   simp only [oB,in_eq,at_eq,x5 (n:=n - 1) (by omega) (by omega),B6]
   by_cases g:0≤a∧a<n
   ·rw [if_neg (by simp; omega)]; exact .inl ⟨g,rfl⟩
   ·rw [if_pos (by rw [k7]; omega)]; exact .inr ⟨g,rfl⟩)]
  by_cases g:∀ x ∈ plan,0≤x∧x<n
  ·rw [if_pos (l8 g)]
   exact ⟨_,rfl,rfl,.inl ⟨rfl,by omega,g⟩⟩
  ·rw [if_neg (fun h=>g (k7.1 h))]
   exact ⟨_,rfl,rfl,.inr ⟨by simp,fun h=>g h.2⟩⟩
theorem planFault_eq(t:d7)(plan:List Int):∃ f,K6 t plan=some f∧ap3 t plan=some f∧((f=⟨0,0⟩∧j6 t∧PlanOk t plan)∨(f.code ≠ 0∧¬ (j6 t∧PlanOk t plan))):=by
 obtain ⟨f,h1,h2,h3⟩:=W7 t
 unfold K6 ap3
 rw [h1,h2]
 simp only [oB]
 rcases h3 with ⟨rfl,ht⟩ | ⟨hc,ht⟩
 ·obtain ⟨g,g1,g2,g3⟩:=steps_eq (n:=(t.operators.length:Int)) (by omega) (by have:=ht.ops; omega) plan
  rw [if_neg (by simp),if_pos rfl,g1,g2]
  refine ⟨g,rfl,rfl, ?_⟩
  rcases g3 with ⟨e,k⟩ | ⟨e,k⟩
  ·exact .inl ⟨e,ht,k⟩
  ·exact .inr ⟨e,fun h=>k h.2⟩
 ·rw [if_pos (fault_no hc),if_neg hc]
  exact ⟨f,rfl,rfl,.inr ⟨hc,fun h=>ht h.1⟩⟩
/-! ### What operators and plans do -/
def noOp:f9:=⟨[],[],[],0⟩
def opAt(t:d7)(op:Int):f9:=(t.operators[op.toNat]?).getD noOp
theorem ix_op{t:d7}{op:Int}(h0:0≤op)(h1:op<t.operators.length):ix t.operators op=some (opAt t op):=by
 obtain ⟨a,h2,h3⟩:=m9 h0 h1
 rw [h2,opAt,h3]; rfl
theorem j6.at{t:d7}(h:j6 t){op:Int}(h0:0≤op)(h1:op<t.operators.length):R1 (opAt t op) t.facts∧W6 (opAt t op):=h.op _ (o5 (ix_op h0 h1))
def can(t:d7)(s:List Int)(op:Int):Prop:=∀ x ∈ (opAt t op).pre,x ∈ s
noncomputable def aft(t:d7)(s:List Int)(op:Int):List Int:=F4 (fun x=>x ∈ (opAt t op).add∨x ∈ s∧x ∉ (opAt t op).del) t.facts
theorem aa8(t:d7)(s:List Int)(op:Int):SetN (aft t s op) t.facts:=V4 _ _
theorem can_eq{t:d7}(ht:j6 t){op:Int}(h0:0≤op)(h1:op<t.operators.length){s:List Int}(hs:SetN s t.facts):V9 t s op=some (dec (can t s op)):=by
 have:=ht.n1; have:=hs.len
 unfold V9
 rw [ix_op h0 h1]
 simp only [oB]
 rw [af8 hs.1 (ht.at h0 h1).1.1.1 (by omega)]
 rfl
theorem next_eq{t:d7}(ht:j6 t){op:Int}(h0:0≤op)(h1:op<t.operators.length){s:List Int}(hs:SetN s t.facts):O7 t s op=some (aft t s op):=by
 have:=ht.n1
 obtain ⟨⟨_,k2,k3,_⟩,_⟩:=ht.at h0 h1
 have hl:=k3.len
 unfold O7
 rw [ix_op h0 h1]
 simp only [oB]
 rw [update_eq (n:=t.facts) (by omega) k3.1 (by omega) hs k2]
 simp only [oB,aft]
 exact congrArg some (af9 fun x _ _=>Or.comm)
noncomputable def ends(t:d7):List Int→List Int→Option (List Int)
 | s,[]=>some s
 | s,op::r=>if dec (can t s op)=true then ends t (aft t s op) r else none
theorem ends_setN{t:d7}:∀ {plan s e:List Int},SetN s t.facts→ends t s plan=some e→SetN e t.facts
 | [],s,e,hs,h=>by cases h; exact hs
 | op::r,s,e,hs,h=>by
  simp only [ends] at h
  split at h
  ·exact ends_setN (aa8 t s op) h
  ·cases h
theorem ends_append{t:d7}:∀ {p q s:List Int},ends t s (p++q)=(ends t s p).bind fun e=>ends t e q
 | [],q,s=>rfl
 | op::r,q,s=>by
  simp only [List.cons_append,ends]
  split
  ·exact ends_append
  ·rfl
def Y1(t:d7)(s plan:List Int):Prop:=∃ e,ends t s plan=some e∧∀ x ∈ t.goal,x ∈ e
theorem clone_eq{s:List Int}(h:s.length≤1000000):m7 s=some s:=by
 rw [m7,app,if_pos (by simp; omega)]; rfl
noncomputable def run(t:d7):List Int→List Int→List (List Int)
 | s,[]=>[s]
 | s,op::r=>s::if dec (can t s op)=true then run t (aft t s op) r else []
theorem run_ends{t:d7}:∀ {plan s:List Int},(ends t s plan=none→(run t s plan).length ≠ plan.length+1)∧∀ e,ends t s plan=some e→(run t s plan).length=plan.length+1∧(run t s plan)[plan.length]? =some e
 | [],s=>⟨fun h=>by simp [ends] at h,fun e h=>by cases h; simp [run]⟩
 | op::r,s=>by
  obtain ⟨h1,h2⟩:=run_ends (t:=t) (plan:=r) (s:=aft t s op)
  simp only [ends,run,List.length_cons]
  by_cases c:can t s op
  ·rw [ifP c,ifP c]
   exact ⟨fun h=>by have:=h1 h; omega,fun e h=>by obtain ⟨g1,g2⟩:=h2 e h; exact ⟨by omega,by simpa using g2⟩⟩
  ·rw [ifN c,ifN c]
   exact ⟨fun _=>by simp,fun e h=>by cases h⟩
theorem run_eq{t:d7}(ht:j6 t){plan:List Int}(hp:PlanOk t plan){s:List Int}(hs:SetN s t.facts):ae4 t s plan=some (run t s plan):=by
 have hl:=hp.1
 have hsl:=hs.len
 have hn:=ht.n1
 unfold ae4
 rw [clone_eq (by omega)]
 simp only [oB]
 obtain ⟨o,h1,h2⟩:=U6 (body:=Y5 t plan) (fun p=>0≤p.2.2∧p.2.2≤plan.length∧SetN p.2.1 t.facts∧p.1.length=p.2.2.toNat+1∧∃ pre,p.1=pre++[p.2.1]∧run t s plan=pre++run t p.2.1 (plan.drop p.2.2.toNat))
  (fun o=>o=run t s plan) (fun p=>(plan.length - p.2.2).toNat) (s:=([s],s,0)) ⟨by simp,by simp,hs,by simp,[],rfl,by simp⟩ (fun ⟨c,s',j⟩ ⟨g0,g1,g2,g3,pre,g4,g5⟩=>by
   dsimp only at g0 g1 g2 g3 g4 g5 ⊢
   unfold Y5
   dsimp only
   by_cases cj:j<plan.length
   ·obtain ⟨op,hop,gop⟩:=m9 (l:=plan) g0 cj
    have hm:=hp.2 op (o5 hop)
    have hd:plan.drop j.toNat=op::plan.drop (j.toNat+1):=by
     obtain ⟨hlt,rfl⟩:=List.getElem?_eq_some_iff.1 gop
     exact List.drop_eq_getElem_cons hlt
    rw [hd] at g5
    rw [if_pos cj,hop]
    simp only [oB,can_eq ht hm.1 hm.2 g2,B6,next_eq ht hm.1 hm.2 g2]
    by_cases cc:can t s' op
    ·rw [ifNN cc,app,if_pos (by simp; omega)]
     simp only [oB]
     rw [x5 (by omega) (by omega)]
     refine .inl ⟨_,rfl,⟨by dsimp only; omega,by dsimp only; omega,aa8 _ _ _,by simp; omega,c,rfl, ?_⟩,by dsimp only; omega⟩
     dsimp only
     rw [g5,run,ifP cc,g4,show (j+1).toNat=j.toNat+1 by omega]
     simp
    ·rw [ifP cc]
     refine .inr ⟨_,rfl, ?_⟩
     rw [g5,run,ifN cc,g4]
   ·rw [if_neg cj]
    refine .inr ⟨_,rfl, ?_⟩
    rw [g5,List.drop_of_length_le (by omega),run,g4])
 rw [h1,h2]; rfl
theorem sWorks_eq{t:d7}(ht:j6 t){plan:List Int}(hp:PlanOk t plan){s:List Int}(hs:SetN s t.facts):U0 t s plan=some (dec (Y1 t s plan)):=by
 have hl:=hp.1
 have hn:=ht.n1
 unfold U0
 rw [run_eq ht hp hs,x5 (by omega) (by omega)]
 simp only [oB]
 obtain ⟨h1,h2⟩:=run_ends (t:=t) (plan:=plan) (s:=s)
 cases h:ends t s plan with
 | none=>
  rw [if_neg (by have:=h1 h; omega)]
  simp only [oB]
  rw [y6]
  rintro ⟨e,g,_⟩
  rw [h] at g; cases g
 | some e=>
  obtain ⟨g1,g2⟩:=h2 e h
  have he:=ends_setN hs h
  have hel:=he.len
  rw [if_pos (by omega)]
  simp only [L6,g2,oB]
  rw [af8 he.1 ht.goal.1 (by omega)]
  simp only [oB]
  exact congrArg some (F1 ⟨fun g=>⟨e,h,g⟩,fun ⟨e',k1,k2⟩=>by rw [h] at k1; cases k1; exact k2⟩)
end Ab
end
section
namespace Ab
open Go
def dg(x:Int):List Int:=if x<10 then [48+x] else [48+x / 10,48+x % 10]
def encS(s:List Int):List Int:=s.flatMap (fun x=>dg x++[44])++[59]
def encK(l:List (List Int)):List Int:=l.flatMap encS
def small(s:List Int):Prop:=∀ x ∈ s,0≤x∧x<100
theorem dg_split{x y:Int}(hx:0≤x∧x<100)(hy:0≤y∧y<100){r r':List Int}(h:dg x++44::r=dg y++44::r'):x=y∧r=r':=by
 unfold dg at h
 split at h<;>split at h<;>simp only [List.cons_append,List.nil_append,List.cons.injEq] at h
 ·exact ⟨by omega,h.2.2⟩
 ·exfalso; omega
 ·exfalso; omega
 ·exact ⟨by omega,h.2.2.2⟩
theorem dg_head{x:Int}(hx:0≤x∧x<100):∃ a l,dg x=a::l∧48≤a∧a<58:=by
 unfold dg
 split
 ·exact ⟨_,_,rfl,by omega,by omega⟩
 ·exact ⟨_,_,rfl,by omega,by omega⟩
theorem ag9(x:Int)(s:List Int):encS (x::s)=dg x++44::encS s:=by simp [encS]
theorem encS_inj:∀ {s s' r r':List Int},small s→small s'→encS s++r=encS s'++r'→s=s'∧r=r'
 | [],[],r,r',_,_,h=>by simp [encS] at h; exact ⟨rfl,h⟩
 | [],y::s',r,r',_,h2,h=>by
  obtain ⟨a,l,ha,h3,h4⟩:=dg_head (h2 y (by simp))
  rw [ag9,ha] at h
  simp only [encS,List.flatMap_nil,List.nil_append,List.cons_append,List.cons.injEq] at h
  omega
 | x::s,[],r,r',h1,_,h=>by
  obtain ⟨a,l,ha,h3,h4⟩:=dg_head (h1 x (by simp))
  rw [ag9,ha] at h
  simp only [encS,List.flatMap_nil,List.nil_append,List.cons_append,List.cons.injEq] at h
  omega
 | x::s,y::s',r,r',h1,h2,h=>by
  rw [ag9,ag9,List.append_assoc,List.append_assoc,List.cons_append,List.cons_append] at h
  obtain ⟨rfl,g⟩:=dg_split (h1 x (by simp)) (h2 y (by simp)) h
  obtain ⟨e1,e2⟩:=encS_inj (s:=s) (s':=s') (fun z hz=>h1 z (List.mem_cons_of_mem _ hz)) (fun z hz=>h2 z (List.mem_cons_of_mem _ hz)) g
  exact ⟨by rw [e1],e2⟩
theorem encK_inj:∀ {l l':List (List Int)},(∀ s ∈ l,small s)→(∀ s ∈ l',small s)→encK l=encK l'→l=l'
 | [],[],_,_,_=>rfl
 | [],s::l',_,_,h=>by
  have h:=congrArg List.length h
  simp only [encK,encS,List.flatMap_nil,List.flatMap_cons,List.length_append,List.length_nil,List.length_cons] at h
  omega
 | s::l,[],_,_,h=>by
  have h:=congrArg List.length h
  simp only [encK,encS,List.flatMap_nil,List.flatMap_cons,List.length_append,List.length_nil,List.length_cons] at h
  omega
 | s::l,s'::l',h1,h2,h=>by
  have h:encS s++encK l=encS s'++encK l':=h
  obtain ⟨e1,e2⟩:=encS_inj (h1 s (List.mem_cons_self ..)) (h2 s' (List.mem_cons_self ..)) h
  have e3:=encK_inj (l:=l) (l':=l') (fun z hz=>h1 z (List.mem_cons_of_mem _ hz)) (fun z hz=>h2 z (List.mem_cons_of_mem _ hz)) e2
  rw [e1,e3]
theorem dg_byte{x:Int}(hx:0≤x∧x<100):∀ a ∈ dg x,0≤a∧a<256:=by
 intro a ha
 unfold dg at ha
 split at ha<;>simp at ha<;>omega
theorem encS_byte{s:List Int}(h:small s):∀ a ∈ encS s,0≤a∧a<256:=by
 intro a ha
 simp only [encS,List.mem_append,List.mem_flatMap,List.mem_singleton] at ha
 rcases ha with ⟨x,hx,h1 | h1⟩ | h1
 ·exact dg_byte (h x hx) a h1
 ·omega
 ·omega
theorem encK_byte{l:List (List Int)}(h:∀ s ∈ l,small s):∀ a ∈ encK l,0≤a∧a<256:=by
 intro a ha
 simp only [encK,List.mem_flatMap] at ha
 obtain ⟨s,hs,h1⟩:=ha
 exact encS_byte (h s hs) a h1
theorem strB_inj{l l':List Int}(h1:∀ a ∈ l,0≤a∧a<256)(h2:∀ a ∈ l',0≤a∧a<256)(h:strB l=strB l'):l=l':=by
 have h3:l.map (fun n=>UInt8.ofNat n.toNat)=l'.map (fun n=>UInt8.ofNat n.toNat):=by
  have:=congrArg ByteArray.data h
  simpa [strB] using this
 have back:∀ {m:List Int},(∀ a ∈ m,0≤a∧a<256)→(m.map (fun n=>UInt8.ofNat n.toNat)).map (fun b=>(b.toNat:Int))=m:=by
  intro m hm
  rw [List.map_map]
  conv=>rhs; rw [← List.map_id m]
  apply List.map_congr_left
  intro a ha
  have:=hm a ha
  simp only [Function.comp_apply,id_eq,UInt8.toNat_ofNat']
  omega
 rw [← back h1,← back h2,h3]
def keyK(l:List (List Int)):ByteArray:=strB (encK l)
theorem keyK_inj{l l':List (List Int)}(h1:∀ s ∈ l,small s)(h2:∀ s ∈ l',small s)(h:keyK l=keyK l'):l=l':=encK_inj h1 h2 (strB_inj (encK_byte h1) (encK_byte h2) h)
/-! ### Maps -/
theorem A0{K V:Type}[DecidableEq K](k k':K)(v:V):∀ m:List (K × V),mget (mset m k v) k'=if k'=k then some v else mget m k'
 | []=>by
  simp only [mset,mget]
 | p::r=>by
  simp only [mset]
  by_cases h:k=p.1
  ·rw [if_pos h]
   simp only [mget]
   by_cases h2:k'=k
   ·rw [if_pos h2,if_pos h2]
   ·rw [if_neg h2,if_neg h2,if_neg (by rw [← h]; exact h2)]
  ·rw [if_neg h]
   simp only [mget]
   rw [A0 k k' v r]
   by_cases h2:k'=p.1
   ·rw [if_pos h2,if_pos h2,if_neg (fun e=>h (e.symm.trans h2))]
   ·rw [if_neg h2,if_neg h2]
end Ab
end
section
namespace Ab
open Go
def lexLe:List Int→List Int→Prop
 | [],_=>True
 | _::_,[]=>False
 | a::l,b::m=>a<b∨a=b∧lexLe l m
theorem lexLe.refl:∀ l:List Int,lexLe l l
 | []=>trivial
 | a::l=>.inr ⟨rfl,lexLe.refl l⟩
def nxt(plans:List (List Int))(at_:List Int)(p:Int):Option Int:=(ix plans p).bind fun l=>(ix at_ p).bind fun a=>ix l a
def bump(at_:List Int)(p:Int):List Int:=at_.set p.toNat ((ix at_ p).getD 0+1)
structure AtOk(plans:List (List Int))(at_:List Int):Prop where
 len:at_.length=plans.length
 rng:∀ p l a,ix plans p=some l→ix at_ p=some a→0≤a∧a≤l.length
def allDone(plans:List (List Int))(at_:List Int):Prop:=∀ p l a,ix plans p=some l→ix at_ p=some a→a=l.length
def good(t:d7)(plans:List (List Int))(gs:List Int):List Int→List Int→List Int→Prop
 | s,at_,[]=>allDone plans at_∧∀ x ∈ gs,x ∈ s
 | s,at_,p::l=>∃ op,nxt plans at_ p=some op∧can t s op∧good t plans gs (aft t s op) (bump at_ p) l
def Least(t:d7)(plans:List (List Int))(gs:List Int)(s at_ l:List Int):Prop:=good t plans gs s at_ l∧∀ m,good t plans gs s at_ m→lexLe l m
theorem AtOk.get{plans:List (List Int)}{at_:List Int}(h:AtOk plans at_){p:Int}{l:List Int}(hp:ix plans p=some l):∃ a,ix at_ p=some a∧0≤a∧a≤l.length:=by
 obtain ⟨h0,h1,_⟩:=o6 hp
 obtain ⟨a,ha,_⟩:=m9 (l:=at_) h0 (by rw [h.len]; exact h1)
 exact ⟨a,ha,h.rng p l a hp ha⟩
theorem ak0{plans:List (List Int)}{at_:List Int}{p op:Int}(h:nxt plans at_ p=some op):∃ l a,ix plans p=some l∧ix at_ p=some a∧ix l a=some op:=by
 unfold nxt at h
 cases h1:ix plans p with
 | none=>rw [h1] at h; cases h
 | some l=>
  cases h2:ix at_ p with
  | none=>rw [h1,h2] at h; cases h
  | some a=>rw [h1,h2] at h; exact ⟨l,a,rfl,rfl,h⟩
theorem nxt_of{plans:List (List Int)}{at_:List Int}{p op a:Int}{l:List Int}(h1:ix plans p=some l)(h2:ix at_ p=some a)(h3:ix l a=some op):nxt plans at_ p=some op:=by
 unfold nxt
 rw [h1,h2]
 exact h3
theorem bump_eq{at_:List Int}{p a:Int}(h:ix at_ p=some a):bump at_ p=at_.set p.toNat (a+1):=by
 unfold bump
 rw [h]; rfl
theorem ix_bump{at_:List Int}{p a q:Int}(h:ix at_ p=some a)(hq:0≤q):ix (bump at_ p) q=if q=p then some (a+1) else ix at_ q:=by
 obtain ⟨h0,h1,_⟩:=o6 h
 rw [bump_eq h,ad7 h0 h1 hq]
theorem AtOk.bump{plans:List (List Int)}{at_:List Int}(h:AtOk plans at_){p op:Int}(hn:nxt plans at_ p=some op):AtOk plans (bump at_ p):=by
 obtain ⟨l,a,h1,h2,h3⟩:=ak0 hn
 refine ⟨by rw [bump_eq h2,List.length_set]; exact h.len,fun q m b hq hb=> ?_⟩
 obtain ⟨q0,_,_⟩:=o6 hq
 rw [ix_bump h2 q0] at hb
 split at hb
 ·rename_i e
  subst e
  rw [h1] at hq
  cases hq; cases hb
  obtain ⟨a0,a1,_⟩:=o6 h3
  omega
 ·exact h.rng q m b hq hb
def left(plans:List (List Int))(at_:List Int):Nat:=((List.zip plans at_).map fun x=>x.1.length - x.2.toNat).sum
theorem left_bump:∀ {plans:List (List Int)} {at_:List Int} {p:Nat} {l:List Int} {a:Int},plans[p]? =some l→at_[p]? =some a→0≤a→a<l.length→left plans (at_.set p (a+1))+1=left plans at_
 | l0::plans,a0::at_,0,l,a,h1,h2,h3,h4=>by
  simp only [List.getElem?_cons_zero,Option.some.injEq] at h1 h2
  subst h1 h2
  simp only [List.set_cons_zero,left,List.zip_cons_cons,List.map_cons,List.sum_cons]
  omega
 | l0::plans,a0::at_,p+1,l,a,h1,h2,h3,h4=>by
  have:=left_bump (plans:=plans) (at_:=at_) (p:=p) (by simpa using h1) (by simpa using h2) h3 h4
  simp only [List.set_cons_succ,left,List.zip_cons_cons,List.map_cons,List.sum_cons] at this ⊢
  omega
 | [],_,_,_,_,h,_,_,_=>by simp at h
 | _::_,[],_,_,_,_,h,_,_=>by simp at h
theorem nxt_left{plans:List (List Int)}{at_:List Int}{p op:Int}(hn:nxt plans at_ p=some op):left plans (bump at_ p)+1=left plans at_:=by
 obtain ⟨l,a,h1,h2,h3⟩:=ak0 hn
 obtain ⟨p0,p1,p2⟩:=o6 h1
 obtain ⟨_,_,q2⟩:=o6 h2
 obtain ⟨a0,a1,_⟩:=o6 h3
 rw [bump_eq h2]
 exact left_bump p2 q2 a0 a1
theorem good_len{t:d7}{plans:List (List Int)}{gs:List Int}:∀ {l s at_:List Int},AtOk plans at_→good t plans gs s at_ l→l.length=left plans at_
 | [],s,at_,ha,h=>by
  have:∀ (plans:List (List Int)) (at_:List Int),(∀ (k:Nat) (l:List Int) (a:Int),plans[k]? =some l→at_[k]? =some a→a=(l.length:Int))→left plans at_=0:=by
   intro plans
   induction plans with
   | nil=>intro at_ _; simp [left]
   | cons l plans ih=>
    intro at_ h
    cases at_ with
    | nil=>simp [left]
    | cons a at_=>
     have h0:=h 0 l a rfl rfl
     have h1:=ih at_ fun k l a h1 h2=>h (k+1) l a (by simpa using h1) (by simpa using h2)
     simp only [left,List.zip_cons_cons,List.map_cons,List.sum_cons] at h1 ⊢
     omega
  rw [this plans at_ fun k l a h1 h2=>h.1 k l a (by rw [L6]; exact h1) (by rw [L6]; exact h2)]
  rfl
 | p::l,s,at_,ha,h=>by
  obtain ⟨op,h1,_,h3⟩:=h
  have:=good_len (ha.bump h1) h3
  have:=nxt_left h1
  simp only [List.length_cons]
  omega
end Ab
end
section
namespace Ab
open Go
theorem setN1(a:Int){n:Int}(h0:0≤a)(h1:a<n):SetN [a] n:=⟨by simp,by simp [h0,h1]⟩
end Ab
end
section
namespace Ab
open Go
theorem as0{α β:Type}{l:List α}{body:Int→List β→Option (List β)}(g:α→List β)(N:Nat)(c0:List β)
  (hb:∀ j a c,ix l j=some a→c.length+(g a).length≤N→body j c=some (c++g a)) (hN:c0.length+(l.flatMap g).length≤N):
  forR 0 (l.length:Int) body c0=some (c0++l.flatMap g):=by
 obtain ⟨s',h1,h2⟩:=G2 (body:=body) (n:=(l.length:Int)) (s:=c0) (fun j c=>c=c0++(l.take j.toNat).flatMap g) (by omega) (by simp) (fun j c h0 h1 hP=>by
  obtain ⟨a,g1,g2⟩:=m9 h0 h1
  have e:(j+1).toNat=j.toNat+1:=by omega
  have ht:l.take (j+1).toNat=l.take j.toNat++[a]:=by rw [e,List.take_add_one,g2]; rfl
  refine ⟨c++g a,hb j a c g1 ?_, ?_⟩
  ·have hs:l=l.take j.toNat++[a]++l.drop (j+1).toNat:=by rw [← ht,List.take_append_drop]
   have hl:(l.flatMap g).length=((l.take j.toNat).flatMap g).length+(g a).length+((l.drop (j+1).toNat).flatMap g).length:=by
    conv=>lhs; rw [hs]
    simp [List.flatMap_append]; omega
   rw [hP,List.length_append]; omega
  ·rw [ht,List.flatMap_append,hP]; simp)
 rw [h1,h2]
 simp
theorem small_eq:∀ n:Fin 100,(internal_strconv_small (n:Nat)).map strL=some (dg (n:Nat)):=by decide+kernel
theorem appendInt_eq{x:Int}(hx:0≤x∧x<100){l:List Int}(hl:l.length≤1000000):B1 x 10 l=some (l++dg x):=by
 have h:=small_eq ⟨x.toNat,by omega⟩
 rw [show (((⟨x.toNat,by omega⟩:Fin 100):Nat):Int)=x by simp; omega] at h
 obtain ⟨b,h1,h2⟩:=Option.map_eq_some_iff.1 h
 first
  | unfold B1 z6 y5
  | unfold B1 internal_strconv_AppendInt_w2 internal_strconv_AppendUint_w3
 rw [if_neg (by omega),IntKind.wrap_u64,Int.emod_eq_of_lt (by omega) (by omega)]
 simp only [oB,if_true]
 rw [if_pos hx.2,x5 (by omega) (by omega),h1]
 simp only [oB,h2]
 have:(dg x).length≤2:=by unfold dg; split<;>simp
 rw [app,if_pos (by omega)]
 rfl
theorem dg_len(x:Int):(dg x).length≤2:=by unfold dg; split<;>simp
theorem key_eq{l:List (List Int)}(hs:∀ s ∈ l,small s)(hN:(encK l).length≤900000):y4 l=some (keyK l):=by
 unfold y4
 rw [as0 encS 900000 [] (fun j s c hj hc=>by
  unfold ah9
  rw [hj]
  simp only [oB]
  have hlen:(encS s).length=(s.flatMap fun x=>dg x++[44]).length+1:=by simp [encS]
  rw [as0 (fun x=>dg x++[44]) 900000 c (fun i x c' hi hc'=>by
   unfold ah8
   rw [hi]
   simp only [List.length_append,List.length_singleton] at hc'
   simp only [oB,appendInt_eq (hs s (o5 hj) x (o5 hi)) (l:=c') (by omega)]
   rw [app,if_pos (by simp; omega)]
   simp) (by omega)]
  simp only [oB]
  rw [app,if_pos (by rw [List.length_append]; simp only [List.length_singleton]; omega)]
  simp [encS]) (by simpa [encK] using hN)]
 rfl
theorem aq0:∀ s:List Int,(encS s).length≤3 * s.length+1
 | []=>by simp [encS]
 | x::s=>by
  have:=aq0 s
  have:=dg_len x
  rw [ag9]
  simp only [List.length_append,List.length_cons]
  omega
theorem key2_eq{s a:List Int}(hs:small s)(ha:small a)(h1:s.length≤1000)(h2:a.length≤1000):y4 [s,a]=some (keyK [s,a]):=by
 refine key_eq (by simp [hs,ha]) ?_
 have:=aq0 s; have:=aq0 a
 simp only [encK,List.flatMap_cons,List.flatMap_nil,List.length_append,List.append_nil]
 omega
end Ab
end
section
namespace Ab
open Go
structure ac3(t:d7)(goals plans:List (List Int)):Prop where
 task:j6 t
 n1:1≤plans.length
 n4:plans.length≤4
 len:goals.length=plans.length
 goal:∀ g ∈ goals,SetN g t.facts
 six:∀ p ∈ plans,p.length≤6
 op:∀ p ∈ plans,∀ x ∈ p,0≤x∧x<t.operators.length
theorem parties_eq(t:d7)(goals plans:List (List Int)):∃ f,R3 t goals plans=some f∧W3 t goals plans=some f∧((f=⟨0,0⟩∧ac3 t goals plans)∨(f.code ≠ 0∧¬ ac3 t goals plans)):=by
 obtain ⟨f,h1,h2,h3⟩:=W7 t
 unfold R3 W3
 rw [h1,h2]
 simp only [oB]
 rcases h3 with ⟨rfl,ht⟩ | ⟨hc,ht⟩
 ·rw [if_neg (by simp),if_pos rfl,in_eq]
  simp only [oB,B6,at_eq]
  by_cases c1:1≤(plans.length:Int)∧(plans.length:Int)≤4
  ·rw [if_neg (by rw [Bool.or_eq_true,decide_eq_true_eq,decide_eq_true_eq]; omega),ifNN c1]
   by_cases c2:(goals.length:Int)=plans.length
   ·rw [if_pos c2,if_pos c2]
    have b1:∀ j:Int,0≤j→j<goals.length→∃ g,ix goals j=some g∧L7 t goals j ()=some (if dec (SetN g t.facts)=true then .inl () else .inr ⟨5,w64 (-10 - j)⟩)∧D4 t goals j ()=some (if dec (SetN g t.facts)=true then .inl () else .inr ⟨5,w64 (-10 - j)⟩):=fun j h0 h1=>by
     obtain ⟨g,hg,_⟩:=m9 (l:=goals) h0 h1
     refine ⟨g,hg, ?_, ?_⟩
     ·unfold L7
      rw [hg]
      simp only [oB,aq4,B6]
      by_cases e:SetN g t.facts
      ·rw [ifNN e,ifP e]
      ·rw [ifP e,ifN e]
     ·unfold D4
      rw [hg]
      have:=ht.n0; have:=ht.n1
      simp only [oB,rIsSet_eq g (n:=t.facts) (by omega) (by omega),B6,at_eq]
      by_cases e:SetN g t.facts
      ·rw [ifNN e,ifP e]
      ·rw [ifP e,ifN e]
    have e1:rngX 0 (goals.length:Int) (L7 t goals) ()=rngX 0 (goals.length:Int) (D4 t goals) ():=
     (rngX_eq (fun _ _=>True) (by omega) trivial (fun j s h0 h1 _=>by
      obtain ⟨o,_,e1,e2⟩:=b1 j h0 h1
      exact ⟨by rw [e1,e2],by rw [e1]; simp,fun _ _=>trivial⟩)).1
    rw [e1]
    have rng:∀ a:Int,((decide (a<0)) || (decide ((t.operators.length:Int)≤a)))=true↔¬ (0≤a∧a<t.operators.length):=fun a=>by simp; omega
    have b2:∀ j:Int,0≤j→j<plans.length→∃ p,ix plans j=some p∧∃ r:Unit ⊕ g8,L5 t plans j ()=some r∧E0 t plans j ()=some r∧(r=.inl ()∨∃ f:g8,r=.inr f∧f.code ≠ 0)∧(r=.inl ()↔(p.length≤6∧∀ x ∈ p,0≤x∧x<t.operators.length)):=fun j h0 h1=>by
     obtain ⟨p,hp,_⟩:=m9 (l:=plans) h0 h1
     refine ⟨p,hp, ?_⟩
     unfold L5 E0
     rw [hp]
     simp only [oB]
     by_cases c3:6<(p.length:Int)
     ·rw [if_pos c3,if_pos c3]
      exact ⟨.inr ⟨2,w64 (-20 - j)⟩,rfl,rfl,.inr ⟨_,rfl,by simp⟩,⟨fun h=>by simp at h,fun h=>by omega⟩⟩
     ·rw [if_neg c3,if_neg c3]
      obtain ⟨q,q2,q3⟩:=rSteps_eq (n:=(t.operators.length:Int)) (by omega) (by have:=ht.ops; omega) p
      rw [q2,af1 (l:=p) (fun x=>0≤x∧x<t.operators.length) (⟨3,w64 (-20 - j)⟩:g8) (fun i a hi=>by
       unfold Y9
       rw [hi]
       simp only [oB]
       by_cases g:0≤a∧a<t.operators.length
       ·rw [if_neg (by rw [rng]; exact fun h=>h g)]; exact .inl ⟨g,rfl⟩
       ·rw [if_pos ((rng a).2 g)]; exact .inr ⟨g,rfl⟩)]
      simp only [oB,at_eq]
      by_cases g:∀ x ∈ p,0≤x∧x<t.operators.length
      ·rw [ifP g]
       rcases q3 with ⟨rfl,_⟩ | ⟨_,k⟩
       ·rw [if_pos rfl]
        exact ⟨.inl (),rfl,rfl,.inl rfl,⟨fun _=>⟨by omega,g⟩,fun _=>rfl⟩⟩
       ·exact absurd ⟨by omega,g⟩ k
      ·rw [ifN g]
       rcases q3 with ⟨_,k⟩ | ⟨k,_⟩
       ·exact absurd k.2 g
       ·rw [if_neg k]
        exact ⟨.inr ⟨3,w64 (-20 - j)⟩,rfl,rfl,.inr ⟨_,rfl,by simp⟩,⟨fun h=>by simp at h,fun h=>absurd h.2 g⟩⟩
    have e2:rngX 0 (plans.length:Int) (L5 t plans) ()=rngX 0 (plans.length:Int) (E0 t plans) ():=
     (rngX_eq (fun _ _=>True) (by omega) trivial (fun j s h0 h1 _=>by
      obtain ⟨o,_,r,e1,e2,_⟩:=b2 j h0 h1
      exact ⟨by rw [e1,e2],by rw [e1]; simp,fun _ _=>trivial⟩)).1
    rw [e2]
    rcases U2 (body:=D4 t goals) (n:=(goals.length:Int)) (fun j _=>∀ i g,0≤i→i<j→ix goals i=some g→SetN g t.facts) (fun o=>o.code ≠ 0∧¬ ac3 t goals plans) (s:=()) (by omega) (fun i g h0 h1=>by omega) (fun j s h0 h1 hP=>by
     obtain ⟨g,hg,_,e2⟩:=b1 j h0 h1
     rw [e2]
     by_cases e:SetN g t.facts
     ·rw [ifP e]
      refine .inl ⟨(),rfl,fun i g' g0 g1 hi=> ?_⟩
      by_cases e':i=j
      ·subst e'; rw [hg] at hi; cases hi; exact e
      ·exact hP i g' g0 (by omega) hi
     ·rw [ifN e]
      exact .inr ⟨_,rfl,by simp,fun h=>e (h.goal g (o5 hg))⟩) with ⟨u,r1,r2⟩ | ⟨o,r1,r2,r3⟩
    ·rw [r1]
     simp only [oB]
     rcases U2 (body:=E0 t plans) (n:=(plans.length:Int)) (fun j _=>∀ i p,0≤i→i<j→ix plans i=some p→p.length≤6∧∀ x ∈ p,0≤x∧x<t.operators.length) (fun o=>o.code ≠ 0∧¬ ac3 t goals plans) (s:=()) (by omega) (fun i g h0 h1=>by omega) (fun j s h0 h1 hP=>by
      obtain ⟨p,hp,r,_,e2,e3,e4⟩:=b2 j h0 h1
      rw [e2]
      rcases e3 with rfl | ⟨f,rfl,hf⟩
      ·refine .inl ⟨(),rfl,fun i p' g0 g1 hi=> ?_⟩
       by_cases e':i=j
       ·subst e'; rw [hp] at hi; cases hi; exact e4.1 rfl
       ·exact hP i p' g0 (by omega) hi
      ·exact .inr ⟨_,rfl,hf,fun h=>by have:=e4.2 ⟨h.six p (o5 hp),h.op p (o5 hp)⟩; cases this⟩) with ⟨v,s1,s2⟩ | ⟨o,s1,s2,s3⟩
     ·rw [s1]
      refine ⟨_,rfl,rfl,.inl ⟨rfl,ht,by omega,by omega,by omega,fun g hg=> ?_,fun p hp=> ?_,fun p hp=> ?_⟩⟩
      ·obtain ⟨i,i0,i1,hi⟩:=w8 hg; exact r2 i g i0 i1 hi
      ·obtain ⟨i,i0,i1,hi⟩:=w8 hp; exact (s2 i p i0 i1 hi).1
      ·obtain ⟨i,i0,i1,hi⟩:=w8 hp; exact (s2 i p i0 i1 hi).2
     ·rw [s1]
      exact ⟨_,rfl,rfl,.inr ⟨s2,s3⟩⟩
    ·rw [r1]
     exact ⟨_,rfl,rfl,.inr ⟨r2,r3⟩⟩
   ·rw [if_neg c2,if_neg c2]
    exact ⟨_,rfl,rfl,.inr ⟨by simp,fun h=>c2 (by rw [h.len])⟩⟩
  ·rw [if_pos (by rw [Bool.or_eq_true,decide_eq_true_eq,decide_eq_true_eq]; omega),ifP c1]
   exact ⟨_,rfl,rfl,.inr ⟨by simp,fun h=>c1 ⟨by have:=h.n1; omega,by have:=h.n4; omega⟩⟩⟩
 ·rw [if_pos (fault_no hc),if_neg hc]
  exact ⟨f,rfl,rfl,.inr ⟨hc,fun h=>ht h.task⟩⟩
noncomputable def Q5(t:d7)(goals:List (List Int)):List Int:=F4 (fun x=>∃ g ∈ goals,x ∈ g) t.facts
theorem union_all{t:d7}{goals:List (List Int)}(hn:t.facts≤24)(hg:∀ g ∈ goals,SetN g t.facts):R7 goals=some (Q5 t goals):=by
 unfold R7
 obtain ⟨s',h1,h2⟩:=G2 (body:=Q4 goals) (n:=(goals.length:Int)) (s:=[]) (fun j c=>c=F4 (fun x=>∃ i g,0≤i∧i<j∧ix goals i=some g∧x ∈ g) t.facts) (by omega) (by
  refine (O8 t.facts).eq_of fun x _ _=>⟨fun h=>(by cases h), ?_⟩
  rintro ⟨i,g,h0,h1,_⟩; omega) (fun j c h0 h1 hP=>by
  obtain ⟨g,hj,_⟩:=m9 (l:=goals) h0 h1
  unfold Q4
  rw [hj]
  simp only [oB]
  rw [hP,union_eq (n:=t.facts) (by omega) (V4 _ _) (hg g (o5 hj))]
  refine ⟨_,rfl,af9 fun x x0 x1=> ?_⟩
  rw [N2]
  constructor
  ·rintro (⟨_,_,i,g',i0,i1,hi,hx⟩ | hx)
   ·exact ⟨i,g',i0,by omega,hi,hx⟩
   ·exact ⟨j,g,h0,by omega,hj,hx⟩
  ·rintro ⟨i,g',i0,i1,hi,hx⟩
   by_cases e:i=j
   ·subst e; rw [hj] at hi; cases hi; exact .inr hx
   ·exact .inl ⟨x0,x1,i,g',i0,by omega,hi,hx⟩)
 rw [h1,h2]
 simp only [oB]
 refine congrArg some (af9 fun x _ _=>⟨fun ⟨i,g,_,_,hi,hx⟩=>⟨g,o5 hi,hx⟩,fun ⟨g,hm,hx⟩=> ?_⟩)
 obtain ⟨i,i0,i1,hi⟩:=w8 hm
 exact ⟨i,g,i0,i1,hi,hx⟩
theorem mkL_eq{α:Type}{b:Nat}{n:Nat}{z:α}(h:b * n≤281474976710656)(hn:n≤9223372036854775807):mkL b (n:Int) z=some (List.replicate n z):=by
 rw [mkL,if_pos ⟨by omega,by omega,by omega⟩]; simp
theorem ix_replicate{α:Type}{n:Nat}{z a:α}{i:Int}(h:ix (List.replicate n z) i=some a):a=z:=List.eq_of_mem_replicate (o5 h)
theorem atOk_zero(plans:List (List Int)):AtOk plans (List.replicate plans.length 0):=⟨by simp,fun p l a _ h=>by rw [ix_replicate h]; omega⟩
noncomputable def goodT(t:d7)(goals plans:List (List Int))(l:List Int):Prop:=good t plans (Q5 t goals) t.init (List.replicate plans.length 0) l
theorem good_rng{t:d7}{plans:List (List Int)}{gs:List Int}:∀ {l s at_:List Int},good t plans gs s at_ l→∀ p ∈ l,0≤p∧p<plans.length
 | [],_,_,_,p,hp=>by cases hp
 | q::l,s,at_,h,p,hp=>by
  obtain ⟨op,h1,_,h3⟩:=h
  obtain ⟨m,a,g1,_,_⟩:=ak0 h1
  rcases List.mem_cons.1 hp with rfl | hp
  ·exact ⟨(o6 g1).1,(o6 g1).2.1⟩
  ·exact good_rng h3 p hp
theorem drop_ix{α:Type}{l:List α}{j:Int}{a:α}(h:ix l j=some a):l.drop j.toNat=a::l.drop (j+1).toNat:=by
 obtain ⟨h0,h1,h2⟩:=o6 h
 obtain ⟨hlt,rfl⟩:=List.getElem?_eq_some_iff.1 h2
 rw [show (j+1).toNat=j.toNat+1 by omega]
 exact List.drop_eq_getElem_cons hlt
end Ab
end
section
namespace Ab
open Go
def Lt{α:Type}(x y:Option α):Prop:=∀ r,x=some r→y=some r
theorem Lt.rfl'{α:Type}{x:Option α}:Lt x x:=fun _ h=>h
theorem Lt.bind{α β:Type}{x y:Option α}{f g:α→Option β}(h:Lt x y)(k:∀ a,Lt (f a) (g a)):Lt (x.bind f) (y.bind g):=fun r hr=>by
 obtain ⟨a,h1,h2⟩:=bind_some hr
 rw [h a h1]; exact k a r h2
theorem Lt.ite{α:Type}{c:Prop}[Decidable c]{x y x' y':Option α}(h:Lt x y)(k:Lt x' y'):Lt (if c then x else x') (if c then y else y'):=fun r hr=>by
 split at hr
 ·rw [if_pos ‹_›]; exact h r hr
 ·rw [if_neg ‹_›]; exact k r hr
theorem Lt.rngN{S O:Type}{f g:Int→S→Option (S ⊕ O)}(h:∀ i s,Lt (f i s) (g i s)):∀ (k:Nat) (i:Int) (s:S),Lt (rngN f k i s) (rngN g k i s)
 | 0,_,_=>Lt.rfl'
 | k+1,i,s=>fun r hr=>by
  simp only [Ab.rngN] at hr ⊢
  cases hf:f i s with
  | none=>rw [hf] at hr; cases hr
  | some x=>
   rw [h i s x hf]
   rw [hf] at hr
   cases x with
   | inl s'=>exact Lt.rngN h k (i+1) s' r hr
   | inr o=>exact hr
theorem Lt.rngX{S O:Type}{f g:Int→S→Option (S ⊕ O)}{lo n:Int}{s:S}(h:∀ i s,Lt (f i s) (g i s)):Lt (rngX lo n f s) (rngX lo n g s):=Lt.rngN h _ _ _
theorem Lt.LoopN{S O:Type}{f g:S→Option (S ⊕ O)}(h:∀ s,Lt (f s) (g s)):∀ (k:Nat) (s:S),Lt (LoopN f k s) (LoopN g k s)
 | 0,_=>Lt.rfl'
 | k+1,s=>fun r hr=>by
  simp only [Ab.LoopN] at hr ⊢
  cases hf:f s with
  | none=>rw [hf] at hr; cases hr
  | some x=>
   rw [h s x hf]
   rw [hf] at hr
   cases x with
   | inl s'=>exact Lt.LoopN h k s' r hr
   | inr o=>exact hr
theorem Lt.Loop{S O:Type}{f g:S→Option (S ⊕ O)}{s:S}(h:∀ s,Lt (f s) (g s)):Lt (Loop f s) (Loop g s):=fun r hr=>by
 obtain ⟨n,hn⟩:=aa1.1 hr
 exact aa1.2 ⟨n,Lt.LoopN h n s r hn⟩
def Mono{A R:Type}(F:(A→Option R)→A→Option R):Prop:=∀ f g,(∀ a,Lt (f a) (g a))→∀ a,Lt (F f a) (F g a)
theorem recN_up{A R:Type}{F:(A→Option R)→A→Option R}(hF:Mono F):∀ (n:Nat) (a:A),Lt (recN F n a) (recN F (n+1) a)
 | 0,a=>fun r h=>by cases h
 | n+1,a=>hF _ _ (recN_up hF n) a
theorem recN_le{A R:Type}{F:(A→Option R)→A→Option R}(hF:Mono F){n m:Nat}(h:n≤m)(a:A):Lt (recN F n a) (recN F m a):=by
 induction h with
 | refl=>exact Lt.rfl'
 | step _ ih=>exact fun r hr=>recN_up hF _ a r (ih r hr)
theorem Rec_recN{A R:Type}{F:(A→Option R)→A→Option R}(hF:Mono F){n:Nat}{a:A}{r:R}(h:recN F n a=some r):Rec F a=some r:=by
 obtain ⟨r',h1,m,h2⟩:=Rec_of h
 have e1:=recN_le hF (Nat.le_max_left n m) a r h
 have e2:=recN_le hF (Nat.le_max_right n m) a r' h2
 rw [h1,← e2,e1]
theorem Rec_inv{A R:Type}{F:(A→Option R)→A→Option R}(hF:Mono F)(P:A→Prop)(V:A→R→Prop)(μ:A→Nat)
  (hb:∀ f a,P a→(∀ a',P a'→μ a'<μ a→∃ r,f a'=some r∧V a' r)→∃ r,F f a=some r∧V a r) {a:A} (ha:P a):∃ r,Rec F a=some r∧V a r:=by
 have key:∀ (n:Nat) (a:A),P a→μ a<n→∃ r,recN F n a=some r∧V a r:=by
  intro n
  induction n with
  | zero=>intro a _ h; omega
  | succ n ih=>exact fun a ha hn=>hb (recN F n) a ha fun a' ha' hm=>ih a' ha' (by omega)
 obtain ⟨r,h1,h2⟩:=key (μ a+1) a ha (by omega)
 exact ⟨r,Rec_recN hF h1,h2⟩
end Ab
end
section
namespace Ab
open Go
theorem turns_mono(t:d7)(plans:List (List Int)):Mono (n2 t plans):=by
 intro f g h ⟨sv,atv,l,l6⟩
 unfold n2
 dsimp only
 refine Lt.bind Lt.rfl' fun _=>Lt.ite Lt.rfl' (Lt.bind (Lt.rngX fun i s=> ?_) fun x=>Lt.rfl')
 obtain ⟨c12,c13,d⟩:=s
 unfold s5
 dsimp only
 repeat (first | exact Lt.rfl' | exact h _ | refine Lt.ite ?_ ?_ | refine Lt.bind ?_ fun _=> ?_)
section
variable {t:d7} {plans:List (List Int)} {gs:List Int}
def InvM(t:d7)(plans:List (List Int))(gs:List Int)(m:List (ByteArray × Int)):Prop:=∀ s at_:List Int,SetN s t.facts→AtOk plans at_→0<Option.getD (mget m (keyK [s,at_])) 0→∀ l,¬ good t plans gs s at_ l
structure Plans6(t:d7)(plans:List (List Int)):Prop where
 n4:plans.length≤4
 six:∀ p ∈ plans,p.length≤6
 op:∀ p ∈ plans,∀ x ∈ p,0≤x∧x<t.operators.length
theorem AtOk.small(hp:Plans6 t plans){at_:List Int}(h:AtOk plans at_):small at_:=fun x hx=>by
 obtain ⟨i,i0,i1,hi⟩:=w8 hx
 obtain ⟨l,hl,_⟩:=m9 (l:=plans) i0 (by rw [← h.len]; exact i1)
 have:=h.rng i l x hl hi
 have:=hp.six l (o5 hl)
 omega
theorem SetN.small(h1:t.facts≤24){s:List Int}(h:SetN s t.facts):small s:=fun x hx=>by have:=h.2 x hx; omega
theorem nodeKey(ht:j6 t)(hp:Plans6 t plans){s at_:List Int}(hs:SetN s t.facts)(ha:AtOk plans at_):y4 [s,at_]=some (keyK [s,at_]):=by
 have:=hs.len; have:=ht.n1; have:=ha.len; have:=hp.n4
 exact key2_eq (SetN.small ht.n1 hs) (ha.small hp) (by omega) (by omega)
def Found(t:d7)(plans:List (List Int))(gs s at_ out:List Int)(ok:Bool):Prop:=(ok=true∧Least t plans gs s at_ out)∨(ok=false∧out=[]∧∀ l,¬ good t plans gs s at_ l)
abbrev Node:=List Int × List Int × List Int × List (ByteArray × Int)
def MNodeOk(t:d7)(plans:List (List Int))(gs:List Int)(a:Node):Prop:=SetN a.1 t.facts∧AtOk plans a.2.1∧a.2.2.1=gs∧InvM t plans gs a.2.2.2
def NodeV(t:d7)(plans:List (List Int))(gs:List Int)(a:Node)(r:List Int × Bool × List Int × List (ByteArray × Int)):Prop:=r.2.2.1=gs∧InvM t plans gs r.2.2.2∧Found t plans gs a.1 a.2.1 r.1 r.2.1
theorem turnsLoop(ht:j6 t)(hp:Plans6 t plans){f:Node→Option (List Int × Bool × List Int × List (ByteArray × Int))}{s at_:List Int}(hs:SetN s t.facts)(ha:AtOk plans at_)
  (ih:∀ a:Node,MNodeOk t plans gs a→left plans a.2.1<left plans at_→∃ r,f a=some r∧NodeV t plans gs a r) {m:List (ByteArray × Int)} (hm:InvM t plans gs m):
  (∃ m' d,rngX 0 (plans.length:Int) (s5 s at_ t plans f) (gs,m,true)=some (.inl (gs,m',d))∧InvM t plans gs m'∧(∀ q l,¬ good t plans gs s at_ (q::l))∧(d=true↔allDone plans at_))∨
  ∃ r,rngX 0 (plans.length:Int) (s5 s at_ t plans f) (gs,m,true)=some (.inr r)∧NodeV t plans gs (s,at_,gs,m) r:=by
 have hlen:=ha.len
 have h4:=hp.n4
 rcases U2 (body:=s5 s at_ t plans f) (n:=(plans.length:Int)) (s:=(gs,m,true))
  (fun j x=>x.1=gs∧InvM t plans gs x.2.1∧(∀ q l,q<j→¬ good t plans gs s at_ (q::l))∧(x.2.2=true↔∀ p l a,0≤p→p<j→ix plans p=some l→ix at_ p=some a→a=l.length))
  (fun r=>NodeV t plans gs (s,at_,gs,m) r) (by omega)
  ⟨rfl,hm,fun q l hq h=>by have:=good_rng h q (by simp); omega,by simp; intro p l a h0 h1; omega⟩ (fun p ⟨g',m',d⟩ p0 p1 ⟨k1,k2,k3,k4⟩=>by
   dsimp only at k1 k2 k3 k4 ⊢
   subst k1
   obtain ⟨l,hl,_⟩:=m9 (l:=plans) p0 p1
   obtain ⟨a,hav,a0,a1⟩:=ha.get hl
   unfold s5
   simp only [hl,hav,oB]
   have step:∀ {q:Int} {l':List Int},q<p+1→(q=p→¬ good t plans g' s at_ (q::l'))→¬ good t plans g' s at_ (q::l'):=fun hq hn=>by
    rename_i q l'
    by_cases e:q=p
    ·exact hn e
    ·exact k3 q l' (by omega)
   have hj2:∀ x:List Int × List (ByteArray × Int) × Bool,u5 x=some (.inl x):=fun _=>rfl
   by_cases c1:a=(l.length:Int)
   ·rw [if_pos c1,hj2]
    refine .inl ⟨_,rfl,rfl,k2,fun q l' hq=>step hq ?_, ?_⟩
    ·rintro rfl ⟨op,g1,_⟩
     obtain ⟨l2,a2,e1,e2,e3⟩:=ak0 g1
     rw [hl] at e1; cases e1
     rw [hav] at e2; cases e2
     have:=(o6 e3).2.1
     omega
    ·dsimp only
     rw [k4]
     constructor
     ·intro h q l' a' q0 q1 e1 e2
      by_cases e:q=p
      ·subst e; rw [hl] at e1; cases e1; rw [hav] at e2; cases e2; exact c1
      ·exact h q l' a' q0 (by omega) e1 e2
     ·exact fun h q l' a' q0 q1=>h q l' a' q0 (by omega)
   ·rw [if_neg c1]
    obtain ⟨op,hop,_⟩:=m9 (l:=l) a0 (by omega)
    obtain ⟨o0,o1⟩:=hp.op l (o5 hl) op (o5 hop)
    have hnx:=nxt_of hl hav hop
    have hnd:∀ b:Bool,b=false→(b=true↔∀ q l a,0≤q→q<p+1→ix plans q=some l→ix at_ q=some a→a=l.length):=fun b hb=>by
     subst hb
     exact ⟨fun h=>(by cases h),fun h=>absurd (h p l a p0 (by omega) hl hav) c1⟩
    simp only [hop,oB,can_eq ht o0 o1 hs,B6]
    by_cases c2:can t s op
    ·rw [ifNN c2,clone_eq (by omega)]
     simp only [oB,hav,next_eq ht o0 o1 hs]
     have hl6:=hp.six l (o5 hl)
     rw [x5 (by omega) (by omega),← bump_eq hav]
     have hlt:=nxt_left hnx
     obtain ⟨r,r1,r2,r3,r4⟩:=ih (aft t s op,bump at_ p,g',m') ⟨aa8 _ _ _,ha.bump hnx,rfl,k2⟩ (by dsimp only; omega)
     rw [r1]
     simp only [oB]
     rcases r4 with ⟨ok,r4⟩ | ⟨ok,_,r4⟩
     ·rw [if_pos ok]
      have hlen:=good_len (ha.bump hnx) r4.1
      have hsum:left plans (bump at_ p)≤24:=by
       rw [← hlen]
       have:∀ (pl:List (List Int)) (b:List Int),(∀ x ∈ pl,x.length≤6)→left pl b≤6 * pl.length:=by
        intro pl
        induction pl with
        | nil=>intro b _; simp [left]
        | cons x pl ihp=>
         intro b hb
         cases b with
         | nil=>simp [left]
         | cons y b=>
          have h1:=hb x (by simp)
          have h2:=ihp b fun z hz=>hb z (by simp [hz])
          simp only [left,List.zip_cons_cons,List.map_cons,List.sum_cons,List.length_cons] at h2 ⊢
          omega
       have:=this plans (bump at_ p) hp.six
       rw [hlen]; omega
      rw [app,if_pos (by simp; omega)]
      simp only [oB]
      refine .inr ⟨_,rfl,r2,r3,.inl ⟨rfl,⟨op,hnx,c2,r4.1⟩,fun m2 hm2=> ?_⟩⟩
      match m2,hm2 with
      | [],hm2=>exact absurd (hm2.1 p l a hl hav) c1
      | q::m3,hm2=>
       rcases Int.lt_trichotomy q p with hq | hq | hq
       ·exact absurd hm2 (k3 q m3 hq)
       ·subst hq
        obtain ⟨op',e1,e2,e3⟩:=hm2
        rw [hnx] at e1; cases e1
        exact .inr ⟨rfl,r4.2 m3 e3⟩
       ·exact .inl hq
     ·rw [if_neg (by rw [ok]; simp),hj2]
      refine .inl ⟨_,rfl,r2,r3,fun q l' hq=>step hq ?_,hnd _ rfl⟩
      rintro rfl ⟨op',e1,e2,e3⟩
      rw [hnx] at e1; cases e1
      exact r4 l' e3
    ·rw [ifP c2,hj2]
     refine .inl ⟨_,rfl,rfl,k2,fun q l' hq=>step hq ?_,hnd _ rfl⟩
     rintro rfl ⟨op',e1,e2,e3⟩
     rw [hnx] at e1; cases e1
     exact c2 e2) with ⟨⟨g',m',d⟩,r1,r2,r3,r4,r5⟩ | ⟨r,r1,r2⟩
 ·dsimp only at r2 r3 r4 r5
  subst r2
  refine .inl ⟨m',d,r1,r3,fun q l h=>r4 q l (good_rng h q (by simp)).2 h,r5.trans ⟨fun h p l a e1 e2=>h p l a (o6 e1).1 (o6 e1).2.1 e1 e2,fun h p l a _ _ e1 e2=>h p l a e1 e2⟩⟩
 ·exact .inr ⟨r,r1,r2⟩
theorem InvM.set(ht:j6 t)(hp:Plans6 t plans){m:List (ByteArray × Int)}(hm:InvM t plans gs m){s at_:List Int}(hs:SetN s t.facts)(ha:AtOk plans at_)(hn:∀ l,¬ good t plans gs s at_ l):InvM t plans gs (mset m (keyK [s,at_]) 1):=fun s' a' hs' ha' h=>by
 rw [A0] at h
 split at h
 ·rename_i e
  have:=keyK_inj (l:=[s',a']) (l':=[s,at_]) (by simp [SetN.small ht.n1 hs',ha'.small hp]) (by simp [SetN.small ht.n1 hs,ha.small hp]) e
  simp only [List.cons.injEq,and_true] at this
  obtain ⟨rfl,rfl⟩:=this
  exact hn
 ·exact hm s' a' hs' ha' h
theorem turnsEnd(ht:j6 t)(hp:Plans6 t plans)(hg:SetN gs t.facts){s at_:List Int}(hs:SetN s t.facts)(ha:AtOk plans at_){d:Bool}(h1:∀ q l,¬ good t plans gs s at_ (q::l))(h2:d=true↔allDone plans at_):
  ∃ b,(Option.bind (if d=true then Option.bind (y7 s gs) fun a97=>some a97 else some false) fun t22=>some t22)=some b∧(b=true→Least t plans gs s at_ [])∧(b=false→∀ l,¬ good t plans gs s at_ l):=by
 have:=hs.len; have:=ht.n1
 rw [af8 hs.1 hg.1 (by omega)]
 by_cases c:d=true
 ·rw [if_pos c]
  refine ⟨_,rfl,fun h=>⟨⟨h2.1 c,k7.1 h⟩,fun m hm=> ?_⟩,fun h l hl=> ?_⟩
  ·cases m with
   | nil=>trivial
   | cons q m=>exact absurd hm (h1 q m)
  ·cases l with
   | nil=>rw [dec_false] at h; exact h hl.2
   | cons q l=>exact h1 q l hl
 ·rw [if_neg c]
  refine ⟨_,rfl,fun h=>by simp at h,fun h l hl=> ?_⟩
  cases l with
  | nil=>exact c (h2.2 hl.1)
  | cons q l=>exact h1 q l hl
theorem turns_rec(ht:j6 t)(hp:Plans6 t plans)(hg:SetN gs t.facts){a:Node}(h:MNodeOk t plans gs a):∃ r,Rec (n2 t plans) a=some r∧NodeV t plans gs a r:=by
 refine Rec_inv (turns_mono t plans) (MNodeOk t plans gs) (NodeV t plans gs) (fun a=>left plans a.2.1) (fun f ⟨s,at_,g,m⟩ ⟨k1,k2,k3,k4⟩ ih=> ?_) h
 dsimp only at k1 k2 k3 k4 ih
 subst k3
 unfold n2
 dsimp only
 rw [nodeKey ht hp k1 k2]
 simp only [oB]
 by_cases c:0<Option.getD (mget m (keyK [s,at_])) 0
 ·rw [if_pos c]
  exact ⟨_,rfl,rfl,k4,.inr ⟨rfl,rfl,k4 s at_ k1 k2 c⟩⟩
 ·rw [if_neg c]
  rcases turnsLoop ht hp k1 k2 ih k4 with ⟨m',d,r1,r2,r3,r4⟩ | ⟨r,r1,r2⟩
  ·rw [r1]
   simp only [oB]
   obtain ⟨b,b1,b2,b3⟩:=turnsEnd ht hp hg k1 k2 r3 r4
   obtain ⟨b',b4,b5⟩:=bind_some b1
   cases b5
   rw [b4]
   simp only [oB]
   cases b with
   | true=>exact ⟨_,rfl,rfl,r2,.inl ⟨rfl,b2 rfl⟩⟩
   | false=>exact ⟨_,rfl,rfl,r2.set ht hp k1 k2 (b3 rfl),.inr ⟨rfl,rfl,b3 rfl⟩⟩
  ·rw [r1]
   exact ⟨_,rfl,r2⟩
theorem turns_top(ht:j6 t)(hp:Plans6 t plans)(hg:SetN gs t.facts){s at_:List Int}{m:List (ByteArray × Int)}(hs:SetN s t.facts)(ha:AtOk plans at_)(hm:InvM t plans gs m):
  ∃ g' m' out ok,O9 s at_ t plans gs m=some (out,ok,g',m')∧Found t plans gs s at_ out ok:=by
 obtain ⟨⟨out,ok,g',m'⟩,r1,_,_,r2⟩:=turns_rec ht hp hg (a:=(s,at_,gs,m)) ⟨hs,ha,rfl,hm⟩
 exact ⟨g',m',out,ok,r1,r2⟩
end
theorem merge_eq(t:d7)(goals plans:List (List Int)):∃ l ok f,R6 t goals plans=some (l,ok,f)∧W3 t goals plans=some f∧
  ((f=⟨0,0⟩∧ac3 t goals plans∧((ok=true∧goodT t goals plans l∧∀ m,goodT t goals plans m→lexLe l m)∨(ok=false∧l=[]∧∀ m,¬ goodT t goals plans m)))∨(f.code ≠ 0∧¬ ac3 t goals plans∧l=[]∧ok=false)):=by
 obtain ⟨f,h1,h2,h3⟩:=parties_eq t goals plans
 unfold R6
 rw [h1]
 simp only [oB]
 rcases h3 with ⟨rfl,hp⟩ | ⟨hc,hn⟩
 ·rw [if_neg (by simp)]
  have h4:=hp.n4
  have hn:=hp.task.n1
  rw [union_all hn hp.goal]
  simp only [oB]
  rw [mkL_eq (by omega) (by omega)]
  simp only [oB]
  obtain ⟨_,_,out,ok,e1,e2⟩:=turns_top (gs:=Q5 t goals) hp.task ⟨hp.n4,hp.six,hp.op⟩ (V4 _ _) (m:=[]) hp.task.init (atOk_zero plans) (fun _ _ _ _ h=>by simp [mget] at h)
  rw [e1]
  refine ⟨_,_,_,rfl,h2,.inl ⟨rfl,hp, ?_⟩⟩
  rcases e2 with ⟨q1,q2⟩ | ⟨q1,q2,q3⟩
  ·exact .inl ⟨q1,q2.1,q2.2⟩
  ·exact .inr ⟨q1,q2,q3⟩
 ·rw [if_pos (fault_no hc)]
  exact ⟨_,_,_,rfl,h2,.inr ⟨hc,hn,rfl,rfl⟩⟩
end Ab
end
section
namespace Ab
open Go
def llt:List Int→List Int→Prop
 | [],[]=>False
 | [],_::_=>True
 | _::_,[]=>False
 | a::l,b::m=>a<b∨a=b∧llt l m
theorem V6:∀ l:List Int,¬ llt l l
 | []=>id
 | a::l=>fun h=>by
  rcases h with h | ⟨_,h⟩
  ·omega
  ·exact V6 l h
theorem ab8:∀ {a b c:List Int},llt a b→llt b c→llt a c
 | [],[],_,h,_=>h.elim
 | [],_::_,[],_,h=>h.elim
 | [],_::_,_::_,_,_=>trivial
 | _::_,[],_,h,_=>h.elim
 | _::_,_::_,[],_,h=>h.elim
 | x::a,y::b,z::c,h,g=>by
  rcases h with h | ⟨rfl,h⟩<;>rcases g with g | ⟨rfl,g⟩
  ·exact .inl (by omega)
  ·exact .inl h
  ·exact .inl g
  ·exact .inr ⟨rfl,ab8 h g⟩
theorem ab7:∀ a b:List Int,llt a b∨a=b∨llt b a
 | [],[]=>.inr (.inl rfl)
 | [],_::_=>.inl trivial
 | _::_,[]=>.inr (.inr trivial)
 | x::a,y::b=>by
  rcases Int.lt_trichotomy x y with h | rfl | h
  ·exact .inl (.inl h)
  ·rcases ab7 a b with h | rfl | h
   ·exact .inl (.inr ⟨rfl,h⟩)
   ·exact .inr (.inl rfl)
   ·exact .inr (.inr (.inr ⟨rfl,h⟩))
  ·exact .inr (.inr (.inl h))
theorem llt_asymm{a b:List Int}(h:llt a b)(g:llt b a):False:=V6 a (ab8 h g)
noncomputable def cmpL(a b:List Int):Int:=if dec (llt a b)=true then -1 else if dec (a=b)=true then 0 else 1
theorem ae9{a b:List Int}:cmpL a b<0↔llt a b:=by
 unfold cmpL
 by_cases h:llt a b
 ·rw [ifP h]; simp [h]
 ·rw [ifN h]
  split<;>simp [h]
theorem cmpL_eq{a b:List Int}:cmpL a b=0↔a=b:=by
 unfold cmpL
 by_cases h:llt a b
 ·rw [ifP h]
  constructor
  ·intro e; omega
  ·rintro rfl; exact absurd h (V6 _)
 ·rw [ifN h]
  by_cases g:a=b
  ·rw [ifP g]; simp [g]
  ·rw [ifN g]; simp [g]
theorem cmpInt_eq(x y:Int):cmp_Compare_int x y=some (if x<y then -1 else if y<x then 1 else 0):=by
 unfold cmp_Compare_int cmp_isNaN_int
 simp only [decide_true,Bool.not_true,oB,Bool.false_eq_true,if_false]
 split
 ·rfl
 ·split<;>rfl
theorem llt_drop:∀ {a b:List Int} (k:Nat),k≤a.length→k≤b.length→a.take k=b.take k→(llt a b↔llt (a.drop k) (b.drop k))
 | _,_,0,_,_,_=>by simp
 | [],_,k+1,h,_,_=>by simp at h
 | _::_,[],k+1,_,h,_=>by simp at h
 | x::a,y::b,k+1,h1,h2,h3=>by
  simp only [List.take_succ_cons,List.cons.injEq] at h3
  obtain ⟨rfl,h3⟩:=h3
  simp only [List.drop_succ_cons]
  rw [← llt_drop k (by simpa using h1) (by simpa using h2) h3]
  simp [llt]
theorem compare_eq(a b:List Int):u4 a b=some (cmpL a b):=by
 unfold u4
 rcases U2 (body:=D2 a b) (n:=(a.length:Int)) (s:=()) (fun j _=>j≤b.length∧a.take j.toNat=b.take j.toNat) (fun o=>o=cmpL a b) (by omega) ⟨by omega,by simp⟩ (fun j _ j0 j1 ⟨k1,k2⟩=>by
  obtain ⟨x,hx,gx⟩:=m9 (l:=a) j0 j1
  have hxl:=(List.getElem?_eq_some_iff.1 gx).2
  unfold D2
  rw [hx]
  simp only [oB]
  have hd:=llt_drop (a:=a) (b:=b) j.toNat (by omega) (by omega) k2
  have da:a.drop j.toNat=x::a.drop (j.toNat+1):=by rw [← hxl]; exact List.drop_eq_getElem_cons (by omega)
  by_cases c:(b.length:Int)≤j
  ·rw [if_pos c]
   refine .inr ⟨_,rfl, ?_⟩
   have db:b.drop j.toNat=[]:=List.drop_of_length_le (by omega)
   rw [da,db] at hd
   unfold cmpL
   rw [ifN (fun h=>(hd.1 h).elim),ifN]
   rintro rfl; omega
  ·rw [if_neg c]
   obtain ⟨y,hy,gy⟩:=m9 (l:=b) (i:=j) j0 (by omega)
   have hyl:=(List.getElem?_eq_some_iff.1 gy).2
   have db:b.drop j.toNat=y::b.drop (j.toNat+1):=by rw [← hyl]; exact List.drop_eq_getElem_cons (by omega)
   rw [hy]
   simp only [oB,cmpInt_eq]
   rw [da,db] at hd
   have hne:x ≠ y→a ≠ b:=fun h e=>by subst e; rw [hx] at hy; cases hy; exact h rfl
   rcases Int.lt_trichotomy x y with h | rfl | h
   ·rw [if_pos h,if_neg (by decide)]
    refine .inr ⟨_,rfl, ?_⟩
    unfold cmpL
    rw [ifP (hd.2 (.inl h))]
   ·simp only [Int.lt_irrefl,if_false,if_true]
    refine .inl ⟨(),trivial,by omega, ?_⟩
    rw [show (j+1).toNat=j.toNat+1 by omega,List.take_add_one,List.take_add_one,gx,gy,k2]
   ·rw [if_neg (show ¬ x<y by omega),if_pos h,if_neg (by decide)]
    refine .inr ⟨_,rfl, ?_⟩
    unfold cmpL
    rw [ifN,ifN (hne (by omega))]
    intro g
    rcases hd.1 g with g | ⟨g,_⟩<;>omega) with ⟨_,r1,r2,r3⟩ | ⟨o,r1,rfl⟩
 ·rw [r1]
  simp only [oB]
  have hd:=llt_drop (a:=a) (b:=b) a.length (Nat.le_refl _) (by omega) (by simpa using r3)
  have da:a.drop a.length=[]:=by simp
  rw [da] at hd
  have e3:a=b.take a.length:=by simpa using r3
  by_cases c:(a.length:Int)<b.length
  ·rw [if_pos c]
   have:b.drop a.length ≠ []:=by simp; omega
   unfold cmpL
   rw [ifP]
   rw [hd]
   cases h:b.drop a.length with
   | nil=>exact absurd h this
   | cons x l=>trivial
  ·rw [if_neg c]
   have:a=b:=by rw [e3,List.take_of_length_le (by omega)]
   rw [cmpL_eq.2 this]
 ·rw [r1]; rfl
theorem cmp_ok:CmpOk u4 cmpL:=by
 refine ⟨compare_eq,⟨fun x=> ?_,fun x y z h1 h2=> ?_,fun x y z h1 h2=> ?_⟩,fun a b h1 h2=> ?_⟩
 ·simp only [Go.Proofs.ltOf,decide_eq_false_iff_not,ae9]
  exact V6 x
 ·simp only [Go.Proofs.ltOf,decide_eq_true_eq,ae9] at h1 h2 ⊢
  exact ab8 h1 h2
 ·simp only [Go.Proofs.ltOf,decide_eq_false_iff_not,ae9] at h1 h2 ⊢
  intro h
  rcases ab7 x y with g | rfl | g
  ·exact h1 g
  ·exact h2 h
  ·exact h2 (ab8 g h)
 ·rw [ae9] at h1 h2
  rcases ab7 a b with g | g | g
  ·exact absurd g h1
  ·exact g
  ·exact absurd g h2
/-! ### Lists compared -/
theorem listEq{α:Type}{a b:List α}{body:Int→Unit→Option (Unit ⊕ Bool)}(hl:a.length=b.length)(hb:∀ j x y,ix a j=some x→ix b j=some y→(x=y∧body j ()=some (.inl ()))∨(x ≠ y∧body j ()=some (.inr false))):
  (Option.bind (rngX 0 (a.length:Int) body ()) fun | .inl _=>some true | .inr x=>some x)=some (dec (a=b)):=by
 rcases V0 (body:=body) (n:=(a.length:Int)) (fun j=>if dec (ix a j=ix b j)=true then none else some false) (by omega) (fun j h0 h1 _=>by
  obtain ⟨x,hx,_⟩:=m9 (l:=a) h0 h1
  obtain ⟨y,hy,_⟩:=m9 (l:=b) (i:=j) h0 (by omega)
  rcases hb j x y hx hy with ⟨e,h⟩ | ⟨e,h⟩
  ·rw [h,ifP (by rw [hx,hy,e])]
  ·rw [h,ifN (by rw [hx,hy]; simpa using e)]) with ⟨h1,h2⟩ | ⟨j,o,h0,h1,h2,_,h4⟩
 ·rw [h1,l8]
  ·rfl
  ·refine List.ext_getElem? fun k=> ?_
   by_cases hk:k<a.length
   ·have:=h2 k (by omega) (by omega)
    split at this
    ·rename_i e
     have:=k7.1 e
     rwa [L6,L6] at this
    ·cases this
   ·rw [List.getElem?_eq_none (by omega),List.getElem?_eq_none (by omega)]
 ·rw [h4]
  split at h2
  ·cases h2
  ·rename_i e
   cases h2
   rw [y6 (fun h=>e (l8 (by rw [h])))]; rfl
theorem ints_eq(a b:List Int):ah2 a b=some (dec (a=b)):=by
 unfold ah2
 by_cases hl:(a.length:Int)=b.length
 ·rw [if_pos hl]
  refine listEq (by omega) fun j x y hx hy=> ?_
  unfold al9
  simp only [hx,hy,oB]
  by_cases e:x=y
  ·rw [if_pos e]; exact .inl ⟨e,rfl⟩
  ·rw [if_neg e]; exact .inr ⟨e,rfl⟩
 ·rw [if_neg hl,y6 (fun h=>hl (by rw [h]))]
theorem equal_eq(a b:List Int):B2 a b=some (dec (a=b)):=by
 unfold B2
 by_cases hl:(a.length:Int)=b.length
 ·rw [if_pos hl]
  refine listEq (by omega) fun j x y hx hy=> ?_
  unfold M1
  simp only [hx,hy,oB]
  by_cases e:x=y
  ·rw [if_pos e]; exact .inl ⟨e,rfl⟩
  ·rw [if_neg e]; exact .inr ⟨e,rfl⟩
 ·rw [if_neg hl,y6 (fun h=>hl (by rw [h]))]
/-! ### Ordered lists -/
abbrev Ord(l:List (List Int)):Prop:=l.Pairwise llt
theorem Ord.ext:∀ {l m:List (List Int)},Ord l→Ord m→(∀ x,x ∈ l↔x ∈ m)→l=m
 | [],[],_,_,_=>rfl
 | [],b::m,_,_,h=>absurd ((h b).2 (by simp)) (by simp)
 | a::l,[],_,_,h=>absurd ((h a).1 (by simp)) (by simp)
 | a::l,b::m,hl,hm,h=>by
  obtain ⟨l1,l2⟩:=List.pairwise_cons.1 hl
  obtain ⟨m1,m2⟩:=List.pairwise_cons.1 hm
  have hab:a=b:=by
   rcases List.mem_cons.1 ((h a).1 (by simp)) with e | e
   ·exact e
   ·rcases List.mem_cons.1 ((h b).2 (by simp)) with e' | e'
    ·exact e'.symm
    ·exact (llt_asymm (l1 b e') (m1 a e)).elim
  subst hab
  rw [Ord.ext l2 m2 fun x=>⟨fun hx=> ?_,fun hx=> ?_⟩]
  ·rcases List.mem_cons.1 ((h x).1 (by simp [hx])) with e | e
   ·subst e; exact absurd (l1 x hx) (V6 x)
   ·exact e
  ·rcases List.mem_cons.1 ((h x).2 (by simp [hx])) with e | e
   ·subst e; exact absurd (m1 x hx) (V6 x)
   ·exact e
def ddN(l:List (List Int)):Nat→List (List Int)
 | 0=>[]
 | m+1=>ddN l m++if decide (m=0∨l[m]? ≠ l[m - 1]?)=true then l[m]?.toList else []
theorem ddN_spec{l:List (List Int)}(hs:l.Pairwise fun a b=>¬ llt b a):∀ m,m≤l.length→Ord (ddN l m)∧∀ x,x ∈ ddN l m↔x ∈ l.take m:=by
 intro m
 induction m with
 | zero=>intro _; simp [ddN]
 | succ m ih=>
  intro hm
  obtain ⟨h1,h2⟩:=ih (by omega)
  have hlt:m<l.length:=by omega
  have ht:l.take (m+1)=l.take m++[l[m]]:=by rw [List.take_add_one]; simp [hlt]
  rw [ddN,ht]
  by_cases hk:m=0∨l[m]? ≠ l[m - 1]?
  ·rw [if_pos (by simpa using hk)]
   simp only [List.getElem?_eq_getElem hlt,Option.toList_some]
   refine ⟨List.pairwise_append.2 ⟨h1,by simp,fun a ha b hb=> ?_⟩,fun x=>by rw [List.mem_append,List.mem_append,h2]⟩
   simp only [List.mem_singleton] at hb
   subst hb
   have ha':=(h2 a).1 ha
   obtain ⟨i,hi,rfl⟩:=List.mem_iff_getElem.1 ha'
   rw [List.length_take] at hi
   rw [List.getElem_take]
   rcases hk with hk | hk
   ·omega
   ·have hm1:m - 1<l.length:=by omega
    rw [List.getElem?_eq_getElem hlt,List.getElem?_eq_getElem hm1] at hk
    have e1:¬ llt l[m] l[m - 1]:=List.pairwise_iff_getElem.1 hs (m - 1) m hm1 hlt (by omega)
    have e2:llt l[m - 1] l[m]:=by
     rcases ab7 l[m - 1] l[m] with h | h | h
     ·exact h
     ·exact absurd (by rw [h]) hk
     ·exact absurd h e1
    by_cases hi2:i=m - 1
    ·subst hi2; exact e2
    ·have e3:¬ llt l[m - 1] l[i]:=List.pairwise_iff_getElem.1 hs i (m - 1) (by omega) hm1 (by omega)
     rcases ab7 l[i] l[m] with h | h | h
     ·exact h
     ·rw [h] at e3; exact absurd e2 e3
     ·exact absurd (ab8 e2 h) e3
  ·rw [if_neg (by simpa using hk),List.append_nil]
   refine ⟨h1,fun x=> ?_⟩
   rw [h2,List.mem_append]
   refine ⟨.inl,fun h=> ?_⟩
   rcases h with h | h
   ·exact h
   ·simp only [List.mem_singleton] at h
    subst h
    have hm0:m ≠ 0:=fun e=>hk (.inl e)
    have he:l[m]? =l[m - 1]? :=Classical.not_not.1 fun e=>hk (.inr e)
    rw [List.getElem?_eq_getElem hlt,List.getElem?_eq_getElem (show m - 1<l.length by omega)] at he
    rw [Option.some.inj he,List.mem_take_iff_getElem]
    exact ⟨m - 1,by omega,rfl⟩
theorem ddN_len(l:List (List Int)):∀ m,(ddN l m).length≤m
 | 0=>by simp [ddN]
 | m+1=>by
  have:=ddN_len l m
  rw [ddN,List.length_append]
  split
  ·have:(l[m]?.toList).length≤1:=by cases l[m]? <;>simp
   omega
  ·simp; omega
theorem ddN_all{l:List (List Int)}:∀ m,m≤l.length→(∀ i,0<i→i<m→l[i]? ≠ l[i - 1]?)→ddN l m=l.take m
 | 0,_,_=>by simp [ddN]
 | m+1,hm,h=>by
  rw [ddN,ddN_all m (by omega) fun i h0 h1=>h i h0 (by omega),if_pos,List.take_add_one]
  rw [decide_eq_true_eq]
  by_cases e:m=0
  ·exact .inl e
  ·exact .inr (h m (by omega) (by omega))
theorem compactF_eq{l:List (List Int)}(hl:l.length≤1000000):w4 l=some (ddN l l.length):=by
 unfold w4
 by_cases c0:(l.length:Int)<2
 ·rw [if_pos c0,ddN_all l.length (Nat.le_refl _) fun i h0 h1=>by omega,List.take_length]
 ·rw [if_neg c0]
  have key:=rngN_inv (body:=q8 l) (fun j _=>∀ i:Nat,0<i→(i:Int)<j→l[i]? ≠ l[i - 1]?) (fun o=>o=ddN l l.length) ((l.length:Int) - 1).toNat 1 () (fun i h0 h1=>by omega) (fun j _ j0 j1 hP=>by
   obtain ⟨a,ha,ga⟩:=m9 (l:=l) (i:=j) (by omega) (by omega)
   obtain ⟨b,hb,gb⟩:=m9 (l:=l) (i:=j - 1) (by omega) (by omega)
   unfold q8
   simp only [ha,hb,oB,equal_eq]
   have ej:(j - 1).toNat=j.toNat - 1:=by omega
   rw [ej] at gb
   by_cases c:a=b
   ·rw [ifP c]
    subst c
    right
    rw [show cutV (l.length:Int) j (l.length:Int)=some () by rw [cutV,if_pos (by omega)]]
    simp only [oB]
    obtain ⟨⟨cs,kv⟩,r1,r2,r3,r4,r5,r6⟩:=forN_inv (body:=s8 l j) (fun k2 p=>p.1.length=l.length∧j≤p.2∧p.2≤j+k2 - 1∧p.1.take p.2.toNat=ddN l (j+k2).toNat∧∀ i:Nat,j+k2 - 1≤i→p.1[i]? =l[i]?) ((l.length:Int) - j - 1).toNat 1 (l,j) ⟨rfl,by simp,by dsimp only; omega,by
      dsimp only
      rw [show (j+1).toNat=j.toNat+1 by omega,ddN,if_neg,List.append_nil,ddN_all j.toNat (by omega) fun i h0 h1=>hP i h0 (by omega)]
      rw [decide_eq_true_eq]
      rintro (h | h)
      ·omega
      ·exact h (ga.trans gb.symm),fun i _=>rfl⟩ (fun k2 ⟨cs,kv⟩ k0 k1 ⟨g1,g2,g3,g4,g5⟩=>by
      dsimp only at g1 g2 g3 g4 g5 ⊢
      obtain ⟨x,hx,gx⟩:=m9 (l:=l) (i:=j+k2) (by omega) (by omega)
      obtain ⟨y,hy,gy⟩:=m9 (l:=l) (i:=j+k2 - 1) (by omega) (by omega)
      have iv:∀ i:Int,0≤i→i<(l.length:Int) - j→ixV cs (0+j) ((l.length:Int) - j) i=ix cs (j+i):=fun i h0 h1=>by
       rw [ixV,if_pos (by omega),Int.zero_add]
      have same:∀ i:Int,j+k2 - 1≤i→ix cs i=ix l i:=fun i hi=>by
       have:=g5 i.toNat (by omega)
       simp only [ix]
       rw [this]
      unfold s8
      dsimp only
      rw [iv k2 (by omega) (by omega),iv (k2 - 1) (by omega) (by omega),show j+(k2 - 1)=j+k2 - 1 by omega,same _ (by omega),same _ (by omega),hx,hy]
      simp only [oB,equal_eq,B6]
      have ek:(j+(k2+1)).toNat=(j+k2).toNat+1:=by omega
      have ek1:(j+k2 - 1).toNat=(j+k2).toNat - 1:=by omega
      rw [ek1] at gy
      by_cases cx:x=y
      ·rw [ifNN cx]
       refine ⟨_,rfl,g1,g2,by omega, ?_,fun i hi=>g5 i (by omega)⟩
       dsimp only
       rw [ek,ddN,if_neg,List.append_nil]
       ·exact g4
       ·rw [decide_eq_true_eq]
        rintro (h | h)
        ·omega
        ·exact h (by rw [gx,gy,cx])
      ·rw [ifP cx]
       obtain ⟨z,hz,gz⟩:=m9 (l:=cs) (i:=kv) (by omega) (by omega)
       simp only [hz,oB]
       rw [x5 (by omega) (by omega)]
       refine ⟨_,rfl,by rw [List.length_set]; exact g1,by omega,by omega, ?_,fun i hi=> ?_⟩
       ·dsimp only
        rw [ek,ddN,if_pos,gx,show (kv+1).toNat=kv.toNat+1 by omega,List.take_add_one,List.getElem?_set,if_pos rfl,if_pos (by omega),List.take_set_of_le (Nat.le_refl _),g4]
        rw [decide_eq_true_eq]
        exact .inr (by rw [gx,gy]; simpa using cx)
       ·dsimp only
        rw [List.getElem?_set,if_neg (by omega)]
        exact g5 i (by omega))
    have ef:forR 1 ((l.length:Int) - j) (s8 l j) (l,j)=some (cs,kv):=r1
    dsimp only at r2 r3 r4 r5 r6
    rw [ef]
    simp only [oB]
    have hcl:(clrL cs (0+kv) ((cs.length:Int) - kv) []).length=cs.length:=by simp [clrL]; omega
    rw [show cutV (cs.length:Int) kv (cs.length:Int)=some () by rw [cutV,if_pos (by omega)]]
    simp only [oB,hcl]
    rw [show cutV (cs.length:Int) 0 kv=some () by rw [cutV,if_pos (by omega)]]
    refine ⟨_,rfl, ?_⟩
    have e1:n8 (clrL cs (0+kv) ((cs.length:Int) - kv) []) 0 kv=cs.take kv.toNat:=by
     simp only [n8,clrL,Int.zero_add,Int.toNat_zero,List.drop_zero]
     rw [List.append_assoc,List.take_append_of_le_length (by simp; omega),List.take_take,Nat.min_self]
    rw [e1,r5]
    congr 1
    omega
   ·rw [ifN c]
    left
    refine ⟨(),rfl,fun i h0 h1=> ?_⟩
    by_cases e:(i:Int)=j
    ·have:i=j.toNat:=by omega
     subst this
     rw [ga,gb]
     simpa using c
    ·exact hP i h0 (by omega))
  rcases key with ⟨_,h1,h2⟩ | ⟨o,h1,rfl⟩
  ·have:rngX 1 (l.length:Int) (q8 l) ()=some (.inl ()):=h1
   rw [this]
   simp only [oB]
   rw [ddN_all l.length (Nat.le_refl _) fun i h0 h1=>h2 i h0 (by omega),List.take_length]
  ·have:rngX 1 (l.length:Int) (q8 l) ()=some (.inr (ddN l l.length)):=h1
   rw [this]; rfl
theorem normal_eq{l:List (List Int)}(hl:l.length≤1000000):∃ r,I2 l=some r∧Ord r∧(∀ x,x ∈ r↔x ∈ l)∧r.length≤l.length:=by
 unfold I2
 rw [sortFL_eq (by omega) cmp_ok]
 simp only [oB]
 have hlen:(l.mergeSort fun x y=>decide (¬ cmpL y x<0)).length=l.length:=by simp
 rw [compactF_eq (by rw [hlen]; exact hl)]
 have hs:(l.mergeSort fun x y=>decide (¬ cmpL y x<0)).Pairwise fun a b=>¬ llt b a:=by
  have:=List.pairwise_mergeSort (le:=fun x y:List Int=>decide (¬ cmpL y x<0)) (fun a b c h1 h2=>by
   simp only [decide_eq_true_eq,ae9] at h1 h2 ⊢
   intro h
   rcases ab7 b a with g | g | g
   ·exact h1 g
   ·subst g; exact h2 h
   ·exact h2 (ab8 h g)) (fun a b=>by
   simp only [Bool.or_eq_true,decide_eq_true_eq,ae9]
   by_cases h:llt b a
   ·exact .inr fun g=>llt_asymm h g
   ·exact .inl h) l
  exact this.imp fun h=>by simpa [ae9] using h
 obtain ⟨h1,h2⟩:=ddN_spec hs _ (Nat.le_refl _)
 refine ⟨_,rfl,h1,fun x=> ?_, ?_⟩
 ·rw [h2,List.take_length]; simp
 ·have:=ddN_len (l.mergeSort fun x y=>decide (¬ cmpL y x<0)) (l.mergeSort fun x y=>decide (¬ cmpL y x<0)).length
  rw [hlen] at this
  rw [hlen]; exact this
end Ab
end
section
namespace Ab
open Go
inductive Ed:Nat→List Int→List Int→Prop
 | nil:Ed 0 [] []
 | keep {n:Nat} {x:Int} {a b:List Int} (h:Ed n a b):Ed n (x::a) (x::b)
 | del {n:Nat} {x:Int} {a b:List Int} (h:Ed n a b):Ed (n+1) (x::a) b
 | ins {n:Nat} {y:Int} {a b:List Int} (h:Ed n a b):Ed (n+1) a (y::b)
theorem Ed.symm{n:Nat}{a b:List Int}(h:Ed n a b):Ed n b a:=by
 induction h with
 | nil=>exact .nil
 | keep _ ih=>exact .keep ih
 | del _ ih=>exact .ins ih
 | ins _ ih=>exact .del ih
theorem Ed.refl:∀ a:List Int,Ed 0 a a
 | []=>.nil
 | _::a=>.keep (Ed.refl a)
theorem Ed.trans{n m:Nat}{a b c:List Int}(h:Ed n a b)(k:Ed m b c):∃ q,q≤n+m∧Ed q a c:=by
 induction h generalizing m c with
 | nil=>exact ⟨m,by omega,k⟩
 | @keep n x a b h ih=>
  generalize hb:x::b=b' at k
  induction k with
  | nil=>cases hb
  | keep k _=>
   cases hb
   obtain ⟨q,h1,h2⟩:=ih k
   exact ⟨q,h1,.keep h2⟩
  | del k _=>
   cases hb
   obtain ⟨q,h1,h2⟩:=ih k
   exact ⟨q+1,by omega,.del h2⟩
  | ins k ihk=>
   obtain ⟨q,h1,h2⟩:=ihk hb
   exact ⟨q+1,by omega,.ins h2⟩
 | del h ih=>
  obtain ⟨q,h1,h2⟩:=ih k
  exact ⟨q+1,by omega,.del h2⟩
 | @ins n y a b h ih=>
  generalize hb:y::b=b' at k
  induction k with
  | nil=>cases hb
  | keep k _=>
   cases hb
   obtain ⟨q,h1,h2⟩:=ih k
   exact ⟨q+1,by omega,.ins h2⟩
  | del k _=>
   cases hb
   obtain ⟨q,h1,h2⟩:=ih k
   exact ⟨q,by omega,h2⟩
  | ins k ihk=>
   obtain ⟨q,h1,h2⟩:=ihk hb
   exact ⟨q+1,by omega,.ins h2⟩
theorem Ed.all:∀ b:List Int,Ed b.length [] b
 | []=>.nil
 | _::b=>.ins (Ed.all b)
theorem Ed.none:∀ b:List Int,Ed b.length b []
 | []=>.nil
 | _::b=>.del (Ed.none b)
/-! ### Distance -/
def RowIs(m:Nat)(f:Nat→Nat)(row:List Int):Prop:=row.length=m+1∧∀ k,k≤m→row[k]? =some (f k:Int)
theorem RowIs.ix{m:Nat}{f:Nat→Nat}{row:List Int}(h:RowIs m f row){k:Nat}(hk:k≤m):ix row (k:Int)=some (f k:Int):=by rw [L6]; exact h.2 k hk
theorem RowIs.set{m:Nat}{f:Nat→Nat}{row:List Int}(h:RowIs m f row)(k v:Nat):RowIs m (fun i=>if i=k then v else f i) (row.set k (v:Int)):=by
 refine ⟨by rw [List.length_set]; exact h.1,fun i hi=> ?_⟩
 rw [List.getElem?_set]
 by_cases e:k=i
 ·subst e; simp [h.1]; omega
 ·rw [if_neg e,h.2 i hi]; simp [show ¬ i=k from fun e'=>e e'.symm]
theorem RowIs.congr{m:Nat}{f g:Nat→Nat}{row:List Int}(h:RowIs m f row)(hg:∀ k,k≤m→f k=g k):RowIs m g row:=⟨h.1,fun k hk=>by rw [h.2 k hk,hg k hk]⟩
end Ab
end
section
namespace Ab
open Go
end Ab
end
section
namespace Ab
open Go
theorem ag8{α:Type}[DecidableEq α]:∀ {c S:List α},c.Nodup→(∀ x ∈ c,x ∈ S)→c.length≤S.length
 | [],_,_,_=>Nat.zero_le _
 | a::c,S,h,hs=>by
  obtain ⟨h1,h2⟩:=List.nodup_cons.1 h
  have ha:=hs a (by simp)
  have:=ag8 (c:=c) (S:=S.erase a) h2 fun x hx=>by
   have hne:x ≠ a:=fun e=>h1 (e ▸ hx)
   exact (List.mem_erase_of_ne hne).2 (hs x (List.mem_cons_of_mem _ hx))
  rw [List.length_erase_of_mem ha] at this
  have:0<S.length:=List.length_pos_of_mem ha
  simp only [List.length_cons]
  omega
section
variable {α:Type}
def Dn(G L:α→Prop)(nx:α→List α):Nat→α→Prop
 | 0,s=>G s
 | k+1,s=>G s∨(L s∧∀ y ∈ nx s,Dn G L nx k y)
variable {G L:α→Prop} {nx:α→List α}
theorem Dn.goal{k:Nat}{s:α}(h:G s):Dn G L nx k s:=by
 cases k with
 | zero=>exact h
 | succ k=>exact .inl h
theorem Dn.succ:∀ {k:Nat} {s:α},Dn G L nx k s→Dn G L nx (k+1) s
 | 0,s,h=>.inl h
 | k+1,s,h=>by
  rcases h with h | ⟨h1,h2⟩
  ·exact .inl h
  ·exact .inr ⟨h1,fun y hy=>(h2 y hy).succ⟩
theorem Dn.mono{k m:Nat}{s:α}(h:Dn G L nx k s)(hm:k≤m):Dn G L nx m s:=by
 induction hm with
 | refl=>exact h
 | step _ ih=>exact ih.succ
def Ht(G L:α→Prop)(nx:α→List α)(k:Nat)(s:α):Prop:=Dn G L nx k s∧∀ j,j<k→¬ Dn G L nx j s
theorem Ht.unique{k m:Nat}{s:α}(h:Ht G L nx k s)(h':Ht G L nx m s):k=m:=by
 rcases Nat.lt_trichotomy k m with c | c | c
 ·exact absurd h.1 (h'.2 k c)
 ·exact c
 ·exact absurd h'.1 (h.2 m c)
theorem Ht.of_dn:∀ {k:Nat} {s:α},Dn G L nx k s→∃ m,m≤k∧Ht G L nx m s
 | 0,s,h=>⟨0,Nat.le_refl _,h,fun j hj=>by omega⟩
 | k+1,s,h=>by
  by_cases c:Dn G L nx k s
  ·obtain ⟨m,h1,h2⟩:=Ht.of_dn c
   exact ⟨m,by omega,h2⟩
  ·exact ⟨k+1,Nat.le_refl _,h,fun j hj hd=>c (hd.mono (by omega))⟩
theorem Ht.zero{s:α}(h:G s):Ht G L nx 0 s:=⟨h,fun j hj=>by omega⟩
theorem Ht.goal{k:Nat}{s:α}(h:Ht G L nx k s)(hg:G s):k=0:=h.unique (.zero hg)
theorem Ht.step{k:Nat}{s:α}(h:Ht G L nx k s)(hg:¬ G s)(hne:∀ s,L s→nx s ≠ []):∃ m,k=m+1∧L s∧(∀ y ∈ nx s,∃ j,j≤m∧Ht G L nx j y)∧∃ y ∈ nx s,Ht G L nx m y:=by
 cases k with
 | zero=>exact absurd h.1 hg
 | succ m=>
  rcases h.1 with g | ⟨h1,h2⟩
  ·exact absurd g hg
  ·refine ⟨m,rfl,h1,fun y hy=>Ht.of_dn (h2 y hy), ?_⟩
   cases m with
   | zero=>
    obtain ⟨y,hy⟩:=List.exists_mem_of_ne_nil _ (hne s h1)
    exact ⟨y,hy,h2 y hy,fun j hj=>by omega⟩
   | succ m=>
    have hn:=h.2 (m+1) (by omega)
    have:∃ y ∈ nx s,¬ Dn G L nx m y:=Classical.byContradiction fun hc=>hn (.inr ⟨h1,fun y hy=>Classical.byContradiction fun hy2=>hc ⟨y,hy,hy2⟩⟩)
    obtain ⟨y,hy,hy2⟩:=this
    exact ⟨y,hy,h2 y hy,fun j hj hd=>hy2 (hd.mono (by omega))⟩
end
end Ab
end
section
namespace Ab
open Go
/-! ### Maps -/
section
variable {K V:Type} [DecidableEq K]
theorem U8{k:K}{v:V}:∀ {m:List (K × V)},mget m k=none→mset m k v=m++[(k,v)]
 | [],_=>rfl
 | p::r,h=>by
  simp only [mget] at h
  split at h
  ·cases h
  ·rename_i hne
   simp only [mset,if_neg hne,U8 h,List.cons_append]
theorem mset_keys{k:K}{v:V}:∀ {m:List (K × V)},mget m k ≠ none→(mset m k v).map (·.1)=m.map (·.1)
 | [],h=>absurd rfl h
 | p::r,h=>by
  simp only [mget] at h
  simp only [mset]
  split
  ·rename_i e; simp [e]
  ·rename_i hne
   rw [if_neg hne] at h
   simp [mset_keys h]
theorem mget_mem{k:K}{v:V}:∀ {m:List (K × V)},mget m k=some v→(k,v) ∈ m
 | [],h=>by cases h
 | p::r,h=>by
  simp only [mget] at h
  split at h
  ·rename_i e; cases h; subst e; exact List.mem_cons_self
  ·exact List.mem_cons_of_mem _ (mget_mem h)
theorem mget_none{k:K}:∀ {m:List (K × V)},mget m k=none→k ∉ m.map (·.1)
 | [],_=>by simp
 | p::r,h=>by
  simp only [mget] at h
  split at h
  ·cases h
  ·rename_i hne
   have:=mget_none h
   simp only [List.map_cons,List.mem_cons,not_or]
   exact ⟨hne,this⟩
end
theorem N4{α:Type}{l:List α}{i:Int}(h:i<0):ix l i=none:=by
 unfold ix; rw [if_neg (by omega)]
theorem aj8{α:Type}{l:List α}{x:α}{i:Int}:ix (l++[x]) i=if i=l.length then some x else ix l i:=by
 by_cases h0:0≤i
 ·obtain ⟨k,rfl⟩:=Int.eq_ofNat_of_zero_le h0
  rw [L6,L6]
  by_cases e:k=l.length
  ·subst e; simp
  ·rw [if_neg (by omega)]
   rcases Nat.lt_or_ge k l.length with h | h
   ·rw [List.getElem?_append_left h]
   ·rw [List.getElem?_eq_none (by simp; omega),List.getElem?_eq_none h]
 ·rw [N4 (by omega),N4 (by omega),if_neg (by omega)]
theorem ao0{α:Type}{l:List α}{x a:α}{i:Int}(h:ix l i=some a):ix (l++[x]) i=some a:=by
 rw [aj8,if_neg (by have:=o6 h; omega),h]
theorem ix_snoc_new{α:Type}{l:List α}{x:α}:ix (l++[x]) (l.length:Int)=some x:=by rw [aj8,if_pos rfl]
end Ab
end
section
namespace Ab
open Go
inductive Rt(t:d7):List Int→Prop
 | init:Rt t t.init
 | step {s:List Int} {op:Int} (h:Rt t s) (h0:0≤op) (h1:op<t.operators.length) (hc:can t s op):Rt t (aft t s op)
theorem Rt.setN{t:d7}(ht:j6 t){s:List Int}(h:Rt t s):SetN s t.facts:=by
 cases h with
 | init=>exact ht.init
 | step=>exact aa8 _ _ _
theorem Rt.ends{t:d7}:∀ {plan s e:List Int},Rt t s→(∀ x ∈ plan,(0:Int)≤x∧x<t.operators.length)→ends t s plan=some e→Rt t e
 | [],s,e,hs,_,h=>by simp only [Ab.ends,Option.some.injEq] at h; subst h; exact hs
 | op::r,s,e,hs,hv,h=>by
  simp only [Ab.ends] at h
  split at h
  ·rename_i hc
   have:=hv op List.mem_cons_self
   exact Rt.ends (hs.step this.1 this.2 (k7.1 hc)) (fun x hx=>hv x (List.mem_cons_of_mem _ hx)) h
  ·cases h
def Cls(t:d7)(l:List (List Int))(s:List Int):Prop:=∀ op:Int,0≤op→op<t.operators.length→can t s op→aft t s op ∈ l
theorem Rt.mem{t:d7}{l:List (List Int)}(hi:t.init ∈ l)(hc:∀ s ∈ l,Cls t l s){s:List Int}(h:Rt t s):s ∈ l:=by
 induction h with
 | init=>exact hi
 | step h h0 h1 hcan ih=>exact hc _ ih _ h0 h1 hcan
def Many(t:d7):Prop:=∃ l:List (List Int),l.Nodup∧l.length=2001∧∀ s ∈ l,Rt t s
end Ab
end
section
namespace Ab
open Go
/-! ### All sets -/
/-! ### Keys -/
theorem ag7{t:d7}(ht:j6 t){s:List Int}(hs:SetN s t.facts):small s:=fun x hx=>by
 have:=ht.n1
 have:=hs.2 x hx
 omega
/-! ### Maps -/
section
variable {K V:Type} [DecidableEq K]
end
/-! ### What the search keeps -/
abbrev Mp':=List (ByteArray × Int)
end Ab
end
section
namespace Ab
open Go
theorem kone_eq{s:List Int}(hs:small s)(h1:s.length≤1000):y4 [s]=some (keyK [s]):=by
 refine key_eq (by simp [hs]) ?_
 have:=aq0 s
 simp only [encK,List.flatMap_cons,List.flatMap_nil,List.append_nil]
 omega
theorem kone_inj{t:d7}(ht:j6 t){s s':List Int}(h:SetN s t.facts)(h':SetN s' t.facts)(e:keyK [s]=keyK [s']):s=s':=by
 have:=keyK_inj (fun x hx=>by simp at hx; subst hx; exact ag7 ht h) (fun x hx=>by simp at hx; subst hx; exact ag7 ht h') e
 simpa using this
theorem containsAny_eq{l:List (List Int)}{f:List Int→Option Bool}{p:List Int→Prop}(h:∀ x ∈ l,f x=some (dec (p x))):x9 l f=some (dec (∃ x ∈ l,p x)):=by
 unfold x9 G4
 rcases V0 (body:=D1 l f) (n:=(l.length:Int)) (fun j=>if dec (∃ x,ix l j=some x∧p x)=true then some j else none) (by omega) (fun j h0 h1 _=>by
  obtain ⟨x,hx,_⟩:=m9 (l:=l) h0 h1
  unfold D1
  simp only [hx,oB,h x (o5 hx)]
  by_cases e:p x
  ·rw [ifP e,ifP ⟨x,rfl,e⟩]
  ·rw [ifN e,ifN (by rintro ⟨z,hz,hp⟩; cases hz; exact e hp)]) with ⟨h1,h2⟩ | ⟨j,o,h0,h1,h2,h3,h4⟩
 ·rw [h1]
  simp only [oB]
  rw [y6]
  ·rfl
  ·rintro ⟨x,hx,hp⟩
   obtain ⟨i,i0,i1,hi⟩:=w8 hx
   have:=h2 i i0 i1
   rw [ifP ⟨x,hi,hp⟩] at this
   cases this
 ·rw [h4]
  split at h2
  ·rename_i e
   cases h2
   simp only [oB]
   obtain ⟨x,hx,hp⟩:=k7.1 e
   rw [l8 ⟨x,o5 hx,hp⟩,decide_eq_true h0]
  ·cases h2
theorem aq1{s pre:List Int}(hs:Inc s)(hp:Inc pre)(hl:s.length≤1000000):K0 [s] pre=some (dec (∀ x ∈ pre,x ∈ s)):=by
 unfold K0
 rw [containsAny_eq (p:=fun y=>¬ ∀ x ∈ pre,x ∈ y) (fun x hx=>by
  simp only [List.mem_singleton] at hx
  subst hx
  unfold X9
  rw [af8 hs hp hl]
  simp only [oB,B6])]
 simp only [oB,B6]
 refine congrArg some (F1 ⟨fun h=>Classical.byContradiction fun g=>h ⟨s,by simp,g⟩,fun h=> ?_⟩)
 rintro ⟨x,hx,hn⟩
 simp only [List.mem_singleton] at hx
 subst hx
 exact hn h
theorem after_one{t:d7}(ht:j6 t){s:List Int}(hs:SetN s t.facts){op:Int}(h0:0≤op)(h1:op<t.operators.length):H1 t [s] op=some [aft t s op]:=by
 have e:forR 0 (([s]:List (List Int)).length:Int) (N8 t [s] op) []=some [aft t s op]:=by
  show forN (N8 t [s] op) 1 0 []=_
  simp only [forN]
  have e0:ix [s] 0=some s:=rfl
  have e1:app 24 ([]:List (List Int)) [aft t s op]=some [aft t s op]:=rfl
  unfold N8
  simp only [e0,oB,next_eq ht h0 h1 hs,e1]
 unfold H1
 rw [e]
 simp only [oB]
 obtain ⟨r,r1,r2,r3,_⟩:=normal_eq (l:=[aft t s op]) (by simp)
 rw [r1]
 simp only [oB]
 rw [Ord.ext r2 (by simp) r3]
structure Bq(t:d7)(l:List (List Int))(m:Mp')(qu:List d9):Prop where
 node:qu.map (·.node)=l.map (fun s=>[s])
 nd:l.Nodup
 rt:∀ s ∈ l,Rt t s
 map:∀ s,SetN s t.facts→(0<(mget m (keyK [s])).getD 0↔s ∈ l)
 len:l.length≤2000
theorem Bq.ql{t:d7}{l:List (List Int)}{m:Mp'}{qu:List d9}(h:Bq t l m qu):qu.length=l.length:=by
 have:=congrArg List.length h.node
 simpa using this
theorem Bq.at{t:d7}{l:List (List Int)}{m:Mp'}{qu:List d9}(h:Bq t l m qu){i:Int}{e:d9}(hi:ix qu i=some e):∃ s,ix l i=some s∧e.node=[s]:=by
 obtain ⟨h0,h1,h2⟩:=o6 hi
 have hg:=congrArg (fun l=>l[i.toNat]?) h.node
 simp only [List.getElem?_map,h2,Option.map_some] at hg
 cases hs:l[i.toNat]? with
 | none=>rw [hs] at hg; cases hg
 | some s=>
  rw [hs] at hg
  simp only [Option.map_some,Option.some.injEq] at hg
  refine ⟨s, ?_,hg⟩
  rw [show i=((i.toNat:Nat):Int) by omega,L6]
  exact hs
theorem breadth_in{t:d7}(ht:j6 t){l:List (List Int)}{m:Mp'}{qu:List d9}(h:Bq t l m qu){c:Int}{e:d9}{s:List Int}(hs:s ∈ l)(he:e.node=[s]):
  (∃ l' m' qu',B7 t.facts t.init t.goal t.operators qu m c e=some (.inl (m',qu'))∧Bq t l' m' qu'∧(∃ ex,l'=l++ex)∧Cls t l' s)∨(∃ y,B7 t.facts t.init t.goal t.operators qu m c e=some (.inr y)∧Many t):=by
 have hsN:=(h.rt s hs).setN ht
 have h24:=ht.n1
 unfold B7
 rcases U2 (body:=F8 t.facts t.init t.goal t.operators c e) (n:=(t.operators.length:Int)) (s:=(m,qu))
  (fun j st=>∃ l',Bq t l' st.1 st.2∧(∃ ex,l'=l++ex)∧∀ op:Int,0≤op→op<j→can t s op→aft t s op ∈ l')
  (fun o=>∃ y,o=.inr y∧Many t) (by omega) ⟨l,h,⟨[],by simp⟩,fun op o0 o1=>by omega⟩
  (fun j st j0 j1 hP=>by
   obtain ⟨m1,qu1⟩:=st
   obtain ⟨l1,g1,g2,g3⟩:=hP
   simp only at g1
   have hop:=ht.at j0 j1
   have hnew:=aa8 t s j
   unfold F8
   simp only [ix_op j0 j1,oB,he]
   rw [aq1 hsN.1 hop.1.1.1 (by have:=hsN.len; omega)]
   simp only [oB]
   by_cases hc:can t s j
   ·rw [if_pos (l8 (show ∀ x ∈ (opAt t j).pre,x ∈ s from hc))]
    have ea:H1 (⟨t.facts,t.init,t.goal,t.operators⟩:d7) [s] j=some [aft t s j]:=after_one ht hsN j0 j1
    rw [ea]
    simp only [oB,kone_eq (ag7 ht hnew) (by have:=hnew.len; omega)]
    by_cases hm:aft t s j ∈ l1
    ·rw [if_pos ((g1.map _ hnew).2 hm)]
     refine .inl ⟨_,rfl,l1,g1,g2,fun op o0 o1 oc=> ?_⟩
     by_cases eo:op=j
     ·subst eo; exact hm
     ·exact g3 op o0 (by omega) oc
    ·rw [if_neg (fun hx=>hm ((g1.map _ hnew).1 hx))]
     have hrt:Rt t (aft t s j):=(h.rt s hs).step j0 j1 hc
     have hnd:(l1++[aft t s j]).Nodup:=by
      rw [List.nodup_append]
      refine ⟨g1.nd,by simp,fun a ha b hb eab=> ?_⟩
      simp only [List.mem_singleton] at hb
      subst hb; subst eab; exact hm ha
     have hrs:∀ y ∈ l1++[aft t s j],Rt t y:=fun y hy=>by
      rcases List.mem_append.1 hy with hy | hy
      ·exact g1.rt y hy
      ·simp only [List.mem_singleton] at hy; subst hy; exact hrt
     have hql:=g1.ql
     have hlen:=g1.len
     by_cases hq:(qu1.length:Int)=2000
     ·rw [if_pos hq]
      exact .inr ⟨_,rfl,_,rfl,l1++[aft t s j],hnd,by simp; omega,hrs⟩
     ·rw [if_neg hq]
      have ha:app 40 qu1 [(⟨[aft t s j],c,j⟩:d9)]=some (qu1++[⟨[aft t s j],c,j⟩]):=by rw [app,if_pos (by simp; omega)]
      rw [ha]
      refine .inl ⟨_,rfl,l1++[aft t s j],⟨by simp [g1.node],hnd,hrs,fun y hy=> ?_,by simp; omega⟩, ?_,fun op o0 o1 oc=> ?_⟩
      ·simp only
       rw [A0]
       by_cases ek:keyK [y]=keyK [aft t s j]
       ·rw [if_pos ek,kone_inj ht hy hnew ek]; simp
       ·rw [if_neg ek,g1.map y hy,List.mem_append,List.mem_singleton]
        exact ⟨.inl,fun g=>g.elim id fun g=>absurd (by rw [g]) ek⟩
      ·obtain ⟨ex,rfl⟩:=g2
       exact ⟨ex++[aft t s j],by simp⟩
      ·by_cases eo:op=j
       ·subst eo; simp
       ·exact List.mem_append_left _ (g3 op o0 (by omega) oc)
   ·rw [if_neg (show ¬ dec (∀ x ∈ (opAt t j).pre,x ∈ s)=true from fun g=>hc (k7.1 g))]
    refine .inl ⟨_,rfl,l1,g1,g2,fun op o0 o1 oc=> ?_⟩
    by_cases eo:op=j
    ·subst eo; exact absurd oc hc
    ·exact g3 op o0 (by omega) oc) with ⟨⟨m',qu'⟩,h1,l',h2,h3,h4⟩ | ⟨o,h1,y,rfl,h2⟩
 ·left
  rw [h1]
  exact ⟨l',m',qu',rfl,h2,h3,h4⟩
 ·right
  rw [h1]
  exact ⟨y,rfl,h2⟩
theorem breadth_spec{t:d7}(ht:j6 t):∃ b,z8 [t.init] t.facts t.init t.goal t.operators=some b∧(b=false→Many t)∧(b=true→∃ l:List (List Int),l.Nodup∧l.length≤2000∧∀ s,s ∈ l↔Rt t s):=by
 have h24:=ht.n1
 unfold z8 J5
 rw [kone_eq (ag7 ht ht.init) (by have:=ht.init.len; omega)]
 simp only [oB]
 obtain ⟨o,h1,h2⟩:=U6 (body:=F5 t.facts t.init t.goal t.operators) (s:=([(⟨[t.init], -1,0⟩:d9)],mset ([]:List (ByteArray × Int)) (keyK [t.init]) 1,0))
  (fun s=>∃ l,Bq t l s.2.1 s.1∧t.init ∈ l∧0≤s.2.2∧s.2.2≤l.length∧∀ (k:Int) (x:List Int),k<s.2.2→ix l k=some x→Cls t l x)
  (fun o=>(o=.inl ()∧∃ l:List (List Int),l.Nodup∧l.length≤2000∧∀ s,s ∈ l↔Rt t s)∨(o=.inr ([],false,false)∧Many t))
  (fun s=>2001 - s.2.2.toNat) ⟨[t.init],⟨rfl,by simp,fun s hs=>by simp at hs; subst hs; exact .init,fun s hs=>by
   simp only
   rw [A0]
   by_cases ek:keyK [s]=keyK [t.init]
   ·rw [if_pos ek,kone_inj ht hs ht.init ek]; simp
   ·rw [if_neg ek]
    simp only [mget,Option.getD_none,List.mem_singleton]
    exact ⟨fun h=>by omega,fun g=>absurd (by rw [g]) ek⟩,by simp⟩,by simp,by simp only; omega,by simp only; omega,fun k x hk hx=>by have:=o6 hx; simp only at hk; omega⟩
  (fun s hP=>by
   obtain ⟨qu,m,c⟩:=s
   obtain ⟨l,g1,g2,g3,g4,g5⟩:=hP
   simp only at g1 g3 g4 g5
   have hql:=g1.ql
   have hlen:=g1.len
   unfold F5
   dsimp only
   by_cases cc:c<(qu.length:Int)
   ·rw [if_pos cc]
    obtain ⟨e,he,_⟩:=m9 (l:=qu) g3 cc
    obtain ⟨s,hs,hn⟩:=g1.at he
    simp only [he,oB,M7,H3,G1]
    rw [if_neg (by simp)]
    rcases breadth_in ht g1 (c:=c) (o5 hs) hn with ⟨l',m',qu',k1,k2,⟨ex,rfl⟩,k4⟩ | ⟨⟨y1,y2⟩,k1,k2⟩
    ·left
     rw [k1]
     refine ⟨(qu',m',c+1),by simp only [oB]; rw [x5 (by omega) (by omega)],⟨l++ex,k2,List.mem_append_left _ g2,by simp only; omega,by simp only [List.length_append]; omega,fun k x hk hx=> ?_⟩,by simp only; omega⟩
     simp only at hk
     have hx0:=o6 hx
     have hx2:ix l k=some x:=by
      rw [show k=((k.toNat:Nat):Int) by omega,L6] at hx ⊢
      rwa [List.getElem?_append_left (by omega)] at hx
     by_cases ek:k=c
     ·subst ek
      rw [hs] at hx2; cases hx2
      exact k4
     ·exact fun op o0 o1 oc=>List.mem_append_left _ (g5 k x (by omega) hx2 op o0 o1 oc)
    ·right
     rw [k1]
     exact ⟨_,rfl,.inr ⟨rfl,k2⟩⟩
   ·rw [if_neg cc]
    right
    refine ⟨_,rfl,.inl ⟨rfl,l,g1.nd,hlen,fun s=>⟨g1.rt s,fun hs=>hs.mem g2 fun x hx=> ?_⟩⟩⟩
    obtain ⟨k,k0,k1,k2⟩:=w8 hx
    exact g5 k x (by omega) k2)
 rw [h1]
 rcases h2 with ⟨rfl,h2⟩ | ⟨rfl,h2⟩
 ·exact ⟨true,rfl,by simp,fun _=>h2⟩
 ·exact ⟨false,rfl,fun _=>h2,by simp⟩
theorem small_of{t:d7}(ht:j6 t){S:List (List Int)}(hS:S.length≤2000)(hm:∀ s,Rt t s→s ∈ S):z8 [t.init] t.facts t.init t.goal t.operators=some true:=by
 obtain ⟨b,h1,h2,_⟩:=breadth_spec ht
 cases b with
 | true=>exact h1
 | false=>
  obtain ⟨l,l1,l2,l3⟩:=h2 rfl
  have:=ag8 l1 (fun s hs=>hm s (l3 s hs))
  omega
end Ab
end
section
namespace Ab
open Go
/-! ### States as' numbers -/
def wsN:List Int→Nat
 | []=>0
 | a::l=>2 ^ a.toNat+wsN l
theorem wsN_dvd{k:Nat}:∀ {l:List Int},(∀ x ∈ l,k≤x.toNat)→2 ^ k ∣ wsN l
 | [],_=>⟨0,rfl⟩
 | a::l,h=>Nat.dvd_add (Nat.pow_dvd_pow 2 (h a (by simp))) (wsN_dvd fun x hx=>h x (List.mem_cons_of_mem _ hx))
theorem two_pow_no{k:Nat}(h:2 ^ (k+1) ∣ 2 ^ k):False:=by
 have h1:=Nat.le_of_dvd (Nat.two_pow_pos k) h
 have h2:=Nat.two_pow_pos k
 rw [Nat.pow_succ] at h1
 omega
theorem wsN_ne{a:Int}{l m:List Int}(ha:0≤a)(hl:∀ x ∈ l,a<x)(hm:∀ x ∈ m,a<x):wsN (a::l) ≠ wsN m:=fun h=>by
 have d1:2 ^ (a.toNat+1) ∣ wsN l:=wsN_dvd fun x hx=>by have:=hl x hx; omega
 have d2:2 ^ (a.toNat+1) ∣ wsN m:=wsN_dvd fun x hx=>by have:=hm x hx; omega
 rw [← h,wsN] at d2
 exact two_pow_no ((Nat.dvd_add_left d1).1 d2)
theorem wsN_inj:∀ {l m:List Int},Inc l→Inc m→(∀ x ∈ l,0≤x)→(∀ x ∈ m,0≤x)→wsN l=wsN m→l=m
 | [],[],_,_,_,_,_=>rfl
 | [],b::m,_,_,_,_,h=>by
  have:=Nat.two_pow_pos b.toNat
  simp only [wsN] at h; omega
 | a::l,[],_,_,_,_,h=>by
  have:=Nat.two_pow_pos a.toNat
  simp only [wsN] at h; omega
 | a::l,b::m,h1,h2,h3,h4,h=>by
  obtain ⟨l1,l2⟩:=List.pairwise_cons.1 h1
  obtain ⟨m1,m2⟩:=List.pairwise_cons.1 h2
  rcases Int.lt_trichotomy a b with c | c | c
  ·exact absurd h (wsN_ne (h3 a (by simp)) l1 fun x hx=>by
    rcases List.mem_cons.1 hx with rfl | hx
    ·exact c
    ·have:=m1 x hx; omega)
  ·subst c
   simp only [wsN] at h
   rw [wsN_inj l2 m2 (fun x hx=>h3 x (List.mem_cons_of_mem _ hx)) (fun x hx=>h4 x (List.mem_cons_of_mem _ hx)) (by omega)]
  ·exact absurd h.symm (wsN_ne (h4 b (by simp)) m1 fun x hx=>by
    rcases List.mem_cons.1 hx with rfl | hx
    ·exact c
    ·have:=l1 x hx; omega)
theorem SetN.word_inj{s s':List Int}{n:Int}(h:SetN s n)(h':SetN s' n)(e:wsN s=wsN s'):s=s':=
 wsN_inj h.1 h'.1 (fun x hx=>(h.2 x hx).1) (fun x hx=>(h'.2 x hx).1) e
end Ab
end
section
namespace Ab
open Go
theorem wsN_tb:∀ {l:List Int},Inc l→(∀ x ∈ l,0≤x)→∀ k:Nat,(wsN l).testBit k=dec ((k:Int) ∈ l)
 | [],_,_,k=>by simp [wsN,dec]
 | a::l,h,h0,k=>by
  have hc:=List.pairwise_cons.1 h
  obtain ⟨q,hq⟩:2 ^ (a.toNat+1) ∣ wsN l:=wsN_dvd fun x hx=>by have:=hc.1 x hx; have:=h0 a (by simp); omega
  have ih:=wsN_tb hc.2 (fun x hx=>h0 x (List.mem_cons_of_mem _ hx)) k
  have e:wsN (a::l)=wsN l ||| 2 ^ a.toNat:=by
   rw [hq,← Nat.two_pow_add_eq_or_of_lt (Nat.pow_lt_pow_right (by omega) (by omega)) q,← hq]
   simp only [wsN]; omega
  rw [e,Nat.testBit_or,ih,Nat.testBit_two_pow]
  have ha:=h0 a (by simp)
  by_cases c:(k:Int)=a
  ·have:a.toNat=k:=by omega
   simp [this,c]
  ·have:¬ a.toNat=k:=by omega
   simp [this,c]
theorem SetN.tb{s:List Int}{n:Int}(h:SetN s n)(k:Nat):(wsN s).testBit k=dec ((k:Int) ∈ s):=wsN_tb h.1 (fun x hx=>(h.2 x hx).1) k
theorem SetN.w32{s:List Int}{n:Int}(h:SetN s n)(hn:n≤24):wsN s<4294967296:=by
 refine Nat.lt_pow_two_of_testBit (n:=32) _ fun i hi=> ?_
 rw [h.tb,dec_false]
 intro q
 have:=(h.2 _ q).2
 omega
theorem wrap32{n:Nat}(h:n<4294967296):IntKind.wrap .u32 (n:Int)=n:=by
 simp only [IntKind.wrap,IntKind.bits,IntKind.signed,Bool.false_and,Bool.false_eq_true,if_false]
 omega
theorem bit_and{a b:Nat}(ha:a<4294967296):Go.bits .and .u32 (a:Int) (b:Int)=((a &&& b:Nat):Int):=by
 have e:(BitVec.ofNat 32 a &&& BitVec.ofNat 32 b).toNat=a &&& b:=by
  rw [BitVec.toNat_and,BitVec.toNat_ofNat,BitVec.toNat_ofNat]
  refine Nat.eq_of_testBit_eq fun i=> ?_
  simp only [Nat.testBit_and,Nat.testBit_mod_two_pow]
  by_cases c:i<32
  ·simp [c]
  ·have:a.testBit i=false:=Nat.testBit_lt_two_pow (Nat.lt_of_lt_of_le ha (Nat.pow_le_pow_right (n:=2) (by omega) (show 32≤i by omega)))
   simp [this]
 rw [← e]
 simp only [Go.bits,BitVec.ofInt_natCast,IntKind.bits]
 exact wrap32 (BitVec.ofNat 32 a &&& BitVec.ofNat 32 b).isLt
theorem bit_or{a b:Nat}(ha:a<4294967296)(hb:b<4294967296):Go.bits .or .u32 (a:Int) (b:Int)=((a ||| b:Nat):Int):=by
 have e:(BitVec.ofNat 32 a ||| BitVec.ofNat 32 b).toNat=a ||| b:=by
  rw [BitVec.toNat_or,BitVec.toNat_ofNat,BitVec.toNat_ofNat,Nat.mod_eq_of_lt (by simpa using ha),Nat.mod_eq_of_lt (by simpa using hb)]
 rw [← e]
 simp only [Go.bits,BitVec.ofInt_natCast,IntKind.bits]
 exact wrap32 (BitVec.ofNat 32 a ||| BitVec.ofNat 32 b).isLt
theorem bit_andNot{a b:Nat}(ha:a<4294967296):∃ c:Nat,Go.bits .andNot .u32 (a:Int) (b:Int)=(c:Int)∧c<4294967296∧∀ k,c.testBit k=(a.testBit k && !b.testBit k):=by
 refine ⟨(BitVec.ofNat 32 a &&& ~~~BitVec.ofNat 32 b).toNat, ?_,(BitVec.ofNat 32 a &&& ~~~BitVec.ofNat 32 b).isLt,fun k=> ?_⟩
 ·simp only [Go.bits,BitVec.ofInt_natCast,IntKind.bits]
  exact wrap32 (BitVec.ofNat 32 a &&& ~~~BitVec.ofNat 32 b).isLt
 ·rw [BitVec.testBit_toNat,BitVec.getLsbD_and,BitVec.getLsbD_not,BitVec.getLsbD_ofNat,BitVec.getLsbD_ofNat]
  by_cases c:k<32
  ·simp [c]
  ·have:a.testBit k=false:=Nat.testBit_lt_two_pow (Nat.lt_of_lt_of_le ha (Nat.pow_le_pow_right (n:=2) (by omega) (show 32≤k by omega)))
   simp [c,this]
theorem sub_word{s p:List Int}{n:Int}(hs:SetN s n)(hp:SetN p n)(hn:n≤24):Go.bits .and .u32 (wsN s:Int) (wsN p:Int)=(wsN p:Int)↔∀ x ∈ p,x ∈ s:=by
 rw [bit_and (hs.w32 hn)]
 constructor
 ·intro h x hx
  have h0:=(hp.2 x hx).1
  have e:(wsN s &&& wsN p)=wsN p:=by omega
  have:=congrArg (fun n=>Nat.testBit n x.toNat) e
  simp only [Nat.testBit_and,hs.tb,hp.tb,show ((x.toNat:Nat):Int)=x by omega,l8 hx,Bool.and_true,k7] at this
  exact this
 ·intro h
  have e:(wsN s &&& wsN p)=wsN p:=by
   refine Nat.eq_of_testBit_eq fun i=> ?_
   rw [Nat.testBit_and,hs.tb,hp.tb,dec_and]
   exact F1 ⟨fun q=>q.2,fun q=>⟨h _ q,q⟩⟩
  rw [e]
theorem next_word{s d a:List Int}{n:Int}(hs:SetN s n)(hd:SetN d n)(ha:SetN a n)(hn:n≤24):
  Go.bits .or .u32 (Go.bits .andNot .u32 (wsN s:Int) (wsN d:Int)) (wsN a:Int)=(wsN (F4 (fun x=>x ∈ a∨x ∈ s∧x ∉ d) n):Int):=by
 obtain ⟨c,c1,c2,c3⟩:=bit_andNot (b:=wsN d) (hs.w32 hn)
 have hr:SetN (F4 (fun x=>x ∈ a∨x ∈ s∧x ∉ d) n) n:=V4 _ _
 rw [c1,bit_or c2 (ha.w32 hn)]
 have e:c ||| wsN a=wsN (F4 (fun x=>x ∈ a∨x ∈ s∧x ∉ d) n):=by
  refine Nat.eq_of_testBit_eq fun i=> ?_
  rw [Nat.testBit_or,c3,hs.tb,hd.tb,ha.tb,hr.tb,B6,dec_and,dec_or]
  refine F1 ?_
  rw [N2]
  constructor
  ·rintro (⟨q1,q2⟩ | q)
   ·exact ⟨(hs.2 _ q1).1,(hs.2 _ q1).2,.inr ⟨q1,q2⟩⟩
   ·exact ⟨(ha.2 _ q).1,(ha.2 _ q).2,.inl q⟩
  ·rintro ⟨_,_,q | q⟩
   ·exact .inr q
   ·exact .inl q
 rw [e]
theorem al7{s:List Int}{n:Int}(hs:SetN s n)(hn:n≤24):J8 s=some (wsN s:Int):=by
 unfold J8
 obtain ⟨w,h1,h2⟩:=G2 (body:=Y6 s) (n:=(s.length:Int)) (s:=0) (fun j w=>w=(wsN (s.take j.toNat):Int)) (by omega) (by simp [wsN]) (fun j w j0 j1 hP=>by
  obtain ⟨a,ha,ga⟩:=m9 (l:=s) j0 j1
  have hb:=hs.2 a (o5 ha)
  have ht:s.take (j+1).toNat=s.take j.toNat++[a]:=by rw [show (j+1).toNat=j.toNat+1 by omega,List.take_add_one,ga]; rfl
  have h1:SetN (s.take j.toNat) n:=⟨List.Pairwise.sublist (List.take_sublist _ _) hs.1,fun x hx=>hs.2 x (List.mem_of_mem_take hx)⟩
  have h2:SetN (s.take j.toNat++[a]) n:=by rw [← ht]; exact ⟨List.Pairwise.sublist (List.take_sublist _ _) hs.1,fun x hx=>hs.2 x (List.mem_of_mem_take hx)⟩
  have h3:SetN [a] n:=⟨List.pairwise_singleton _ _,fun x hx=>by simp at hx; subst hx; exact hb⟩
  have e1:shlW .u32 1 a=(wsN [a]:Int):=by
   have:=h3.w32 hn
   unfold shlW
   simp only [wsN,Nat.add_zero] at this ⊢
   rw [show min a.toNat (IntKind.u32).bits=a.toNat by simp only [IntKind.bits]; omega,Int.one_mul]
   have ep:(2:Int) ^ a.toNat=((2 ^ a.toNat:Nat):Int):=by push_cast; rfl
   rw [ep]; exact wrap32 this
  refine ⟨Go.bits .or .u32 w (shlW .u32 1 a),by simp only [Y6,ha,oB,chk0,if_neg (show ¬ a<0 by omega)], ?_⟩
  rw [e1,hP,bit_or (h1.w32 hn) (h3.w32 hn),ht]
  have e:wsN (s.take j.toNat) ||| wsN [a]=wsN (s.take j.toNat++[a]):=by
   refine Nat.eq_of_testBit_eq fun i=> ?_
   rw [Nat.testBit_or,h1.tb,h2.tb,h3.tb,dec_or]
   exact F1 (by simp)
  rw [e])
 rw [h1,h2,Int.toNat_natCast,List.take_length]
 rfl
noncomputable def J1(w:Nat)(n:Nat):List Int:=(nums 0 n).filter fun x=>w.testBit x.toNat
theorem facts_eq{w:Nat}(hw:w<4294967296):S1 (w:Int)=some (J1 w 32):=by
 unfold S1
 obtain ⟨r,h1,h2⟩:=G2 (body:=V5 (w:Int)) (n:=32) (s:=[]) (fun j c=>c=J1 w j.toNat) (by omega) (by simp [J1,nums]) (fun j c j0 j1 hP=>by
  subst hP
  have hlen:(J1 w j.toNat).length≤32:=by
   refine Nat.le_trans (List.length_filter_le _ _) ?_
   rw [len_nums]; omega
  have hn:nums 0 (j+1).toNat=nums 0 j.toNat++[j]:=by
   refine Inc.ext (ap6 _ _) (List.pairwise_append.2 ⟨ap6 _ _,List.pairwise_singleton _ _,fun x hx y hy=> ?_⟩) fun x=> ?_
   ·simp at hy; subst hy; have:=U5.1 hx; omega
   ·rw [List.mem_append,U5,U5,List.mem_singleton]; omega
  have e1:shrW .u32 (w:Int) j=((w>>>j.toNat:Nat):Int):=by
   unfold shrW
   rw [show min j.toNat (IntKind.u32).bits=j.toNat by simp only [IntKind.bits]; omega]
   have ep:(2:Int) ^ j.toNat=((2 ^ j.toNat:Nat):Int):=by push_cast; rfl
   rw [ep,Nat.shiftRight_eq_div_pow,Int.fdiv_eq_ediv_of_nonneg _ (Int.natCast_nonneg _)]
   rfl
  have h2:w>>>j.toNat<4294967296:=Nat.lt_of_le_of_lt (Nat.shiftRight_le _ _) hw
  have e2:Go.bits .and .u32 ((w>>>j.toNat:Nat):Int) 1=((w>>>j.toNat &&& 1:Nat):Int):=bit_and (b:=1) h2
  have e3:(w>>>j.toNat &&& 1=1)↔w.testBit j.toNat=true:=by
   rw [Nat.testBit]; simp [Nat.and_comm]
  unfold V5
  rw [e1,e2]
  by_cases c:w.testBit j.toNat=true
  ·rw [if_pos (by have:=e3.2 c; omega),app,if_pos (by simp; omega)]
   exact ⟨_,rfl,by simp [J1,hn,List.filter_append,c]⟩
  ·rw [if_neg (fun q=>c (e3.1 (by omega)))]
   exact ⟨_,rfl,by simp [J1,hn,List.filter_append,c]⟩)
 rw [h1,h2]; rfl
theorem bitsOf_inj{a b:Nat}(ha:a<4294967296)(hb:b<4294967296)(h:J1 a 32=J1 b 32):a=b:=by
 refine Nat.eq_of_testBit_eq fun i=> ?_
 by_cases c:i<32
 ·have key:∀ w:Nat,(i:Int) ∈ J1 w 32↔w.testBit i=true:=fun w=>by
   simp only [J1,List.mem_filter,U5,Int.toNat_natCast]
   exact ⟨fun q=>q.2,fun q=>⟨by omega,q⟩⟩
  have:=(key a).symm.trans ((by rw [h]):((i:Int) ∈ J1 a 32↔(i:Int) ∈ J1 b 32)) |>.trans (key b)
  cases h1:a.testBit i<;>cases h2:b.testBit i<;>simp [h1,h2] at this ⊢
 ·have low:∀ w:Nat,w<4294967296→w.testBit i=false:=fun w hw=>Nat.testBit_lt_two_pow (Nat.lt_of_lt_of_le hw (Nat.pow_le_pow_right (n:=2) (by omega) (show 32≤i by omega)))
  rw [low a ha,low b hb]
theorem words_cmp:CmpOk (fun a b:U32=>H9 a.1 b.1) (fun a b=>cmpL (J1 a.1.toNat 32) (J1 b.1.toNat 32)):=by
 obtain ⟨h1,h2,h3⟩:=cmp_ok
 refine ⟨fun a b=> ?_,⟨fun x=>h2.irrefl _,fun x y z=>h2.trans _ _ _,fun x y z=>h2.ntrans _ _ _⟩,fun a b q1 q2=> ?_⟩
 ·have ea:=facts_eq (w:=a.1.toNat) (by have:=a.2; omega)
  have eb:=facts_eq (w:=b.1.toNat) (by have:=b.2; omega)
  rw [show ((a.1.toNat:Nat):Int)=a.1 by have:=a.2; omega] at ea
  rw [show ((b.1.toNat:Nat):Int)=b.1 by have:=b.2; omega] at eb
  simp only [H9,ea,eb,oB,h1]
 ·have:=bitsOf_inj (a:=a.1.toNat) (b:=b.1.toNat) (by have:=a.2; omega) (by have:=b.2; omega) (h3 _ _ q1 q2)
  have ha:=a.2; have hb:=b.2
  exact Subtype.ext (by omega)
theorem sortW{l:List Int}(hl:l.length≤1000000)(hw:∀ x ∈ l,0≤x∧x<4294967296):∃ l',sortFU H9 l=some l'∧l'.Perm l:=by
 unfold sortFU
 rw [dif_pos hw,sortFL_eq (by simp; omega) words_cmp]
 refine ⟨_,rfl, ?_⟩
 have:=(List.mergeSort_perm (l.attach.map fun x=>(⟨x.1,hw x.1 x.2⟩:U32)) (fun x y=>decide (¬ cmpL (J1 y.1.toNat 32) (J1 x.1.toNat 32)<0))).map (fun z:U32=>z.1)
 simpa using this
end Ab
end
section
namespace Ab
open Go
abbrev Mk:=i7
def wd(s:List Int):Int:=(wsN s:Int)
def mkOf(o:f9):Mk:=⟨wd o.pre,wd o.add,wd o.del,o.cost⟩
def mks(t:d7):List Mk:=t.operators.map mkOf
def canW(m:Mk)(x:Int):Prop:=Go.bits .and .u32 x m.pre=m.pre
def tgtW(m:Mk)(x:Int):Int:=Go.bits .or .u32 (Go.bits .andNot .u32 x m.del) m.add
theorem wd_inj{t:d7}(ht:j6 t){s s':List Int}(h:SetN s t.facts)(h':SetN s' t.facts)(e:wd s=wd s'):s=s':=
 h.word_inj h' (by unfold wd at e; omega)
theorem wd_u32{t:d7}(ht:j6 t){s:List Int}(h:SetN s t.facts):0≤wd s∧wd s<4294967296:=by
 have:=h.w32 ht.n1; unfold wd; omega
theorem op_ok{t:d7}(ht:j6 t){op:Int}(h0:0≤op)(h1:op<t.operators.length):R1 (opAt t op) t.facts∧W6 (opAt t op):=ht.op _ (o5 (ix_op h0 h1))
theorem aq5{t:d7}(ht:j6 t){s:List Int}(h:SetN s t.facts){op:Int}(h0:0≤op)(h1:op<t.operators.length):canW (mkOf (opAt t op)) (wd s)↔can t s op:=
 sub_word h (op_ok ht h0 h1).1.1 ht.n1
theorem tgtW_eq{t:d7}(ht:j6 t){s:List Int}(h:SetN s t.facts){op:Int}(h0:0≤op)(h1:op<t.operators.length):tgtW (mkOf (opAt t op)) (wd s)=wd (aft t s op):=
 next_word h (op_ok ht h0 h1).1.2.2.1 (op_ok ht h0 h1).1.2.1 ht.n1
theorem mks_mem{t:d7}{m:Mk}(h:m ∈ mks t):∃ op:Int,0≤op∧op<t.operators.length∧m=mkOf (opAt t op):=by
 obtain ⟨o,ho,rfl⟩:=List.mem_map.1 h
 obtain ⟨i,h0,h1,h2⟩:=w8 ho
 rw [ix_op h0 h1] at h2; cases h2
 exact ⟨i,h0,h1,rfl⟩
theorem mks_of{t:d7}{op:Int}(h0:0≤op)(h1:op<t.operators.length):mkOf (opAt t op) ∈ mks t:=List.mem_map.2 ⟨_,o5 (ix_op h0 h1),rfl⟩
theorem of_eq{t:d7}(ht:j6 t):ae5 t=some (wd t.init,wd t.goal,mks t):=by
 unfold ae5
 rw [al7 ht.init ht.n1,al7 ht.goal ht.n1]
 simp only [oB]
 obtain ⟨r,h1,h2⟩:=G2 (body:=Y3 t) (n:=(t.operators.length:Int)) (s:=[]) (fun j c=>c=(t.operators.take j.toNat).map mkOf) (by omega) (by simp) (fun j c j0 j1 hP=>by
  have ho:=op_ok ht j0 j1
  have hx:=ix_op j0 j1
  have ga:=(o6 hx).2.2
  have hl:=ht.ops
  have htk:t.operators.take (j+1).toNat=t.operators.take j.toNat++[opAt t j]:=by rw [show (j+1).toNat=j.toNat+1 by omega,List.take_add_one,ga]; rfl
  unfold Y3
  rw [hx]
  simp only [oB,al7 ho.1.1 ht.n1,al7 ho.1.2.1 ht.n1,al7 ho.1.2.2.1 ht.n1]
  refine ⟨c++[mkOf (opAt t j)], ?_, ?_⟩
  ·unfold app
   rw [if_pos (by rw [hP]; simp; omega)]; rfl
  ·rw [hP,htk]; simp)
 rw [h1,h2,Int.toNat_natCast,List.take_length]
 rfl
def Rwd(t:d7)(x:Int):Prop:=∃ s,Rt t s∧x=wd s
theorem states_of{t:d7}:∀ {l:List Int},(∀ x ∈ l,Rwd t x)→∃ ss:List (List Int),ss.map wd=l∧∀ s ∈ ss,Rt t s
 | [],_=>⟨[],rfl,by simp⟩
 | x::l,h=>by
  obtain ⟨s,s1,s2⟩:=h x (by simp)
  obtain ⟨ss,h1,h2⟩:=states_of (l:=l) fun y hy=>h y (List.mem_cons_of_mem _ hy)
  exact ⟨s::ss,by simp [h1,s2],by simp [s1]; exact h2⟩
theorem ak4{α β:Type}{f:α→β}:∀ {l:List α},(l.map f).Nodup→l.Nodup
 | [],_=>List.nodup_nil
 | x::l,h=>by
  simp only [List.map_cons,List.nodup_cons] at h
  exact List.nodup_cons.2 ⟨fun hx=>h.1 (List.mem_map.2 ⟨x,hx,rfl⟩),ak4 h.2⟩
theorem many_of{t:d7}{l:List Int}(hn:l.Nodup)(hl:2000<l.length)(h:∀ x ∈ l,Rwd t x):Many t:=by
 obtain ⟨ss,h1,h2⟩:=states_of (l:=l.take 2001) fun x hx=>h x (List.mem_of_mem_take hx)
 refine ⟨ss,ak4 (f:=wd) (by rw [h1]; exact hn.sublist (List.take_sublist _ _)), ?_,h2⟩
 have:=congrArg List.length h1
 simp only [List.length_map,List.length_take] at this
 omega
theorem Rwd.next{t:d7}(ht:j6 t){x:Int}(h:Rwd t x){m:Mk}(hm:m ∈ mks t)(hc:canW m x):Rwd t (tgtW m x):=by
 obtain ⟨s,s1,rfl⟩:=h
 obtain ⟨op,h0,h1,rfl⟩:=mks_mem hm
 have hs:=s1.setN ht
 exact ⟨_,.step s1 h0 h1 ((aq5 ht hs h0 h1).1 hc),tgtW_eq ht hs h0 h1⟩
theorem Rwd.all{t:d7}(ht:j6 t){l:List Int}(hi:wd t.init ∈ l)(hc:∀ x ∈ l,∀ m ∈ mks t,canW m x→tgtW m x ∈ l){x:Int}(h:Rwd t x):x ∈ l:=by
 obtain ⟨s,h,rfl⟩:=h
 induction h with
 | init=>exact hi
 | step h h0 h1 hcan ih=>
  have hs:=h.setN ht
  have:=hc _ ih _ (mks_of h0 h1) ((aq5 ht hs h0 h1).2 hcan)
  rwa [tgtW_eq ht hs h0 h1] at this
abbrev MpU:=List (Int × Unit)
theorem mgetU{m:MpU}{x:Int}:mget m x=none↔x ∉ m.map (·.1):=by
 constructor
 ·exact mget_none
 ·intro h
  cases e:mget m x with
  | none=>rfl
  | some u=>exact absurd (List.mem_map.2 ⟨_,mget_mem e,rfl⟩) h
structure AlW(t:d7)(q:List Int)(f:MpU)(a:List Int):Prop where
 nd:(f.map (·.1)).Nodup
 pm:(f.map (·.1)).Perm (q++a)
 rw:∀ x ∈ f.map (·.1),Rwd t x
theorem all_in{t:d7}(ht:j6 t){q a:List Int}{f:MpU}{x:Int}(hx:Rwd t x)(h:AlW t q f a)(hf:f.length≤2000)(u:Unit){c:List Int}(hc:n8 c 0 ((c.length:Int) - 1)=q):
  ∃ f' q',I3 (mks t) c f x u=some (f',q')∧AlW t q' f' a∧(∀ y ∈ f.map (·.1),y ∈ f'.map (·.1))∧∀ m ∈ mks t,canW m x→tgtW m x ∈ f'.map (·.1):=by
 unfold I3
 have hml:(mks t).length≤40:=by simp [mks]; exact ht.ops
 obtain ⟨r,h1,h2,h3,h4,h5⟩:=G2 (body:=H8 (mks t) x u) (n:=((mks t).length:Int)) (s:=(f,n8 c 0 ((c.length:Int) - 1)))
  (fun j s=>AlW t s.2 s.1 a∧(∀ y ∈ f.map (·.1),y ∈ s.1.map (·.1))∧s.1.length≤2000+j∧∀ i m,i<j→ix (mks t) i=some m→canW m x→tgtW m x ∈ s.1.map (·.1)) (by omega)
  ⟨by rw [hc]; exact h,fun _ h=>h,by simp only; omega,fun i m hi hm=>by have:=(o6 hm).1; omega⟩ (fun j s j0 j1 hP=>by
   obtain ⟨f',q'⟩:=s
   obtain ⟨p1,p2,p3,p4⟩:=hP
   simp only at p1 p2 p3 p4
   obtain ⟨m,hm,_⟩:=m9 j0 j1
   have hmm:=o5 hm
   unfold H8
   simp only [hm,oB]
   by_cases c1:Go.bits .and .u32 x m.pre=m.pre
   ·rw [if_pos c1]
    have c1':canW m x:=c1
    have ee:Go.bits .or .u32 (Go.bits .andNot .u32 x m.del) m.add=tgtW m x:=rfl
    rw [ee]
    by_cases c2:mget f' (tgtW m x)=none
    ·rw [if_pos (by simp [c2])]
     have hq:q'.length≤f'.length:=by have:=p1.pm.length_eq; simp at this; omega
     have ha:app 4 q' [tgtW m x]=some (q'++[tgtW m x]):=by unfold app; rw [if_pos (by simp; omega)]
     simp only [ha,oB]
     have hmem:=mgetU.1 c2
     refine ⟨_,rfl,⟨?_, ?_, ?_⟩, ?_, ?_, ?_⟩
     ·simp only [U8 c2,List.map_append]
      refine List.nodup_append.2 ⟨p1.nd,by simp,fun y hy z hz e=> ?_⟩
      simp at hz; subst hz; subst e; exact hmem hy
     ·simp only [U8 c2,List.map_append,List.map_cons,List.map_nil]
      refine (p1.pm.append_right _).trans ?_
      rw [List.append_assoc,List.append_assoc]
      exact List.Perm.append_left _ List.perm_append_comm
     ·intro y hy
      simp only [U8 c2,List.map_append,List.mem_append,List.map_cons,List.map_nil,List.mem_singleton] at hy
      rcases hy with hy | rfl
      ·exact p1.rw y hy
      ·exact hx.next ht hmm c1'
     ·intro y hy
      simp only [U8 c2,List.map_append,List.mem_append]
      exact .inl (p2 y hy)
     ·simp only [U8 c2,List.length_append,List.length_singleton]; omega
     ·intro i m' hi hm' hc'
      simp only [U8 c2,List.map_append,List.mem_append]
      by_cases e:i=j
      ·subst e; rw [hm] at hm'; cases hm'; exact .inr (by simp)
      ·exact .inl (p4 i m' (by omega) hm' hc')
    ·rw [if_neg (by simp; cases e:mget f' (tgtW m x) with | none=>exact absurd e c2 | some _=>simp)]
     refine ⟨_,rfl,p1,p2,by simp only; omega,fun i m' hi hm' hc'=> ?_⟩
     by_cases e:i=j
     ·subst e; rw [hm] at hm'; cases hm'
      exact Classical.byContradiction fun q=>c2 (mgetU.2 q)
     ·exact p4 i m' (by omega) hm' hc'
   ·rw [if_neg c1]
    refine ⟨_,rfl,p1,p2,by simp only; omega,fun i m' hi hm' hc'=> ?_⟩
    by_cases e:i=j
    ·subst e; rw [hm] at hm'; cases hm'; exact absurd hc' c1
    ·exact p4 i m' (by omega) hm' hc')
 refine ⟨r.1,r.2,by rw [h1]; rfl,h2,h3,fun m hm hcan=> ?_⟩
 obtain ⟨i,i0,i1,hi⟩:=w8 hm
 exact h5 i m i1 hi hcan
theorem all_spec{t:d7}(ht:j6 t)(goal:Int):∃ l b,H2 (wd t.init) goal (mks t)=some (l,b)∧(b=false→Many t)∧(b=true→l.Nodup∧l.length≤2000∧∀ x,x ∈ l↔Rwd t x):=by
 unfold H2
 simp only [x8,oB]
 have hi0:Rwd t (wd t.init):=⟨_,.init,rfl⟩
 obtain ⟨o,h1,h2⟩:=U6 (body:=H6 (wd t.init) goal (mks t)) (s:=([wd t.init],mset ([]:MpU) (wd t.init) (),[]))
  (fun s=>AlW t s.1 s.2.1 s.2.2∧wd t.init ∈ s.2.1.map (·.1)∧s.2.1.length≤2000∧∀ x ∈ s.2.2,∀ m ∈ mks t,canW m x→tgtW m x ∈ s.2.1.map (·.1))
  (fun o=>match o with | .inl l=>l.Nodup∧l.length≤2000∧∀ x,x ∈ l↔Rwd t x | .inr x=>x=([],false)∧Many t)
  (fun s=>2000 - s.2.2.length) ⟨⟨by simp [mset],by simp [mset],by simp [mset]; exact hi0⟩,by simp [mset],by simp [mset],by simp⟩ (by
   rintro ⟨q,f,a⟩ ⟨p1,p2,p3,p4⟩
   simp only at p1 p2 p3 p4
   have hlen:f.length=q.length+a.length:=by have:=p1.pm.length_eq; simpa using this
   unfold H6
   by_cases c:0<q.length
   ·simp only [show (0:Int)<(q.length:Int) by omega,if_true]
    obtain ⟨x,hx,gx⟩:=m9 (l:=q) (i:=(q.length:Int) - 1) (by omega) (by omega)
    have hq:n8 q 0 ((q.length:Int) - 1)++[x]=q:=by
     have:n8 q 0 ((q.length:Int) - 1)=q.take (q.length - 1):=by
      simp only [n8,Int.toNat_zero,List.drop_zero]
      rw [show ((q.length:Int) - 1).toNat=q.length - 1 by omega]
     rw [this]
     have e:q.take (q.length - 1+1)=q.take (q.length - 1)++[x]:=by
      rw [List.take_add_one]
      rw [show ((q.length:Int) - 1).toNat=q.length - 1 by omega] at gx
      rw [gx]; rfl
     rw [← e,show q.length - 1+1=q.length by omega,List.take_length]
    have hxm:x ∈ f.map (·.1):=p1.pm.mem_iff.2 (List.mem_append_left _ (o5 hx))
    have hxr:=p1.rw x hxm
    have ha:app 4 a [x]=some (a++[x]):=by unfold app; rw [if_pos (by simp; omega)]
    have p1':AlW t (n8 q 0 ((q.length:Int) - 1)) f (a++[x]):=⟨p1.nd,p1.pm.trans (by
     rw (occs:=.pos [1]) [← hq]
     rw [List.append_assoc]
     exact List.Perm.append_left _ List.perm_append_comm),p1.rw⟩
    obtain ⟨f',q',k1,k2,k3,k4⟩:=all_in ht hxr p1' p3 () rfl
    simp only [hx,ha,cutV,oB,C0]
    rw [if_pos (by omega)]
    simp only [oB,k1]
    by_cases big:2000<f'.length
    ·rw [if_pos (by omega)]
     exact .inr ⟨_,rfl,rfl,many_of k2.nd (by simpa using big) k2.rw⟩
    ·rw [if_neg (by omega)]
     have hlen':f'.length=q'.length+(a++[x]).length:=by have:=k2.pm.length_eq; simpa using this
     refine .inl ⟨_,rfl,⟨k2,k3 _ p2,by simp only; omega,fun y hy m hm hc=> ?_⟩,by simp only [List.length_append,List.length_singleton] at hlen' ⊢; omega⟩
     simp only [List.mem_append,List.mem_singleton] at hy
     rcases hy with hy | rfl
     ·exact k3 _ (p4 y hy m hm hc)
     ·exact k4 m hm hc
   ·have:q=[]:=List.eq_nil_of_length_eq_zero (by omega)
    subst this
    refine .inr ⟨.inl a,by simp, ?_⟩
    have hp:(f.map (·.1)).Perm a:=by simpa using p1.pm
    refine ⟨hp.nodup_iff.1 p1.nd,by simp at hlen; omega,fun x=>⟨fun hx=>p1.rw x (hp.mem_iff.2 hx),fun hx=> ?_⟩⟩
    exact Rwd.all ht (hp.mem_iff.1 p2) (fun y hy m hm hc=>hp.mem_iff.1 (p4 y hy m hm hc)) hx)
 rw [h1]
 rcases o with l | o
 ·exact ⟨l,true,rfl,by simp,fun _=>h2⟩
 ·obtain ⟨rfl,h3⟩:=h2
  exact ⟨[],false,rfl,fun _=>h3,by simp⟩
end Ab
end
section
namespace Ab
open Go
abbrev En:=c8
def Hp(L:List Int)(E:List En):Prop:=∀ i h,ix L i=some h→∃ e,ix E h=some e∧e.fat=i
structure Sme(L:List Int)(E:List En)(L':List Int)(E':List En):Prop where
 len:L'.length=L.length
 mem:∀ h,h ∈ L'↔h ∈ L
 elen:E'.length=E.length
 e:∀ h a,ix E h=some a→∃ a',ix E' h=some a'∧a'.item=a.item∧a'.key=a.key
theorem Sme.refl(L:List Int)(E:List En):Sme L E L E:=⟨rfl,fun _=>Iff.rfl,rfl,fun h a ha=>⟨a,ha,rfl,rfl⟩⟩
theorem Sme.trans{L L' L'':List Int}{E E' E'':List En}(h:Sme L E L' E')(g:Sme L' E' L'' E''):Sme L E L'' E'':=by
 refine ⟨g.len.trans h.len,fun x=>(g.mem x).trans (h.mem x),g.elen.trans h.elen,fun x a ha=> ?_⟩
 obtain ⟨b,b1,b2,b3⟩:=h.e x a ha
 obtain ⟨c,c1,c2,c3⟩:=g.e x b b1
 exact ⟨c,c1,c2.trans b2,c3.trans b3⟩
theorem Hp.inj{L:List Int}{E:List En}(h:Hp L E){i j x:Int}(h1:ix L i=some x)(h2:ix L j=some x):i=j:=by
 obtain ⟨e,e1,e2⟩:=h i x h1
 obtain ⟨f,f1,f2⟩:=h j x h2
 rw [e1] at f1; cases f1; rw [← e2,← f2]
theorem mem_ixI{α:Type}{l:List α}{x:α}:x ∈ l↔∃ i:Int,ix l i=some x:=by
 constructor
 ·intro h
  obtain ⟨k,hk⟩:=List.getElem?_of_mem h
  exact ⟨k,by rw [L6]; exact hk⟩
 ·rintro ⟨i,h⟩; exact o5 h
theorem less_ok{L:List Int}{E:List En}(h:Hp L E){i k:Int}(hi:0≤i)(hi':i<L.length)(hk:0≤k)(hk':k<L.length):∃ b,m6 i k L E=some b:=by
 obtain ⟨x,x1,_⟩:=m9 hi hi'
 obtain ⟨y,y1,_⟩:=m9 hk hk'
 obtain ⟨e,e1,_⟩:=h i x x1
 obtain ⟨f,f1,_⟩:=h k y y1
 exact ⟨_,by simp only [m6,x1,y1,e1,f1,oB]; rfl⟩
theorem swap_ok{L:List Int}{E:List En}(h:Hp L E){i k:Int}(hi:0≤i)(hi':i<L.length)(hk:0≤k)(hk':k<L.length):
  ∃ L' E',m4 i k L E=some (L',E')∧Hp L' E'∧Sme L E L' E'∧(∀ x,ix L i=some x→ix L' k=some x):=by
 obtain ⟨x,x1,_⟩:=m9 hi hi'
 obtain ⟨y,y1,_⟩:=m9 hk hk'
 obtain ⟨e,e1,e2⟩:=h i x x1
 obtain ⟨f,f1,f2⟩:=h k y y1
 obtain ⟨ex0,ex1,_⟩:=o6 e1
 obtain ⟨ey0,ey1,_⟩:=o6 f1
 have hL:∀ j,ix ((L.set i.toNat y).set k.toNat x) j=if j=k then some x else if j=i then some y else ix L j:=by
  intro j
  by_cases hj:0≤j
  ·rw [ad7 hk (by simp; omega) hj]
   split
   ·rfl
   ·rw [ad7 hi hi' hj]
  ·rw [N4 (by omega),N4 (by omega),if_neg (by omega),if_neg (by omega)]
 have q1:ix ((L.set i.toNat y).set k.toNat x) i=some y:=by
  rw [hL]
  by_cases c:i=k
  ·subst c; rw [x1] at y1; cases y1; simp
  ·rw [if_neg c,if_pos rfl]
 have q2:ix ((L.set i.toNat y).set k.toNat x) k=some x:=by rw [hL,if_pos rfl]
 have hE:∀ j,ix (E.set y.toNat (⟨f.item,f.key,f.time,i⟩:En)) j=if j=y then some ⟨f.item,f.key,f.time,i⟩ else ix E j:=by
  intro j
  by_cases hj:0≤j
  ·rw [ad7 ey0 ey1 hj]
  ·rw [N4 (by omega),N4 (by omega),if_neg (by omega)]
 obtain ⟨g,g1,g2,g3⟩:∃ g,ix (E.set y.toNat (⟨f.item,f.key,f.time,i⟩:En)) x=some g∧g.item=e.item∧g.key=e.key:=by
  rw [hE]
  by_cases c:x=y
  ·subst c; rw [e1] at f1; cases f1; exact ⟨_,if_pos rfl,rfl,rfl⟩
  ·exact ⟨e,by rw [if_neg c,e1],rfl,rfl⟩
 have hE2:∀ j,ix ((E.set y.toNat (⟨f.item,f.key,f.time,i⟩:En)).set x.toNat (⟨g.item,g.key,g.time,k⟩:En)) j=if j=x then some ⟨g.item,g.key,g.time,k⟩ else if j=y then some ⟨f.item,f.key,f.time,i⟩ else ix E j:=by
  intro j
  by_cases hj:0≤j
  ·rw [ad7 ex0 (by simp; omega) hj,hE]
  ·rw [N4 (by omega),N4 (by omega),if_neg (by omega),if_neg (by omega)]
 refine ⟨_,_,by simp only [m4,x1,y1,q1,q2,f1,g1,oB]; rfl, ?_,⟨by simp,fun z=> ?_,by simp,fun z a ha=> ?_⟩, ?_⟩
 ·intro j z hz
  rw [hL] at hz
  by_cases c:j=k
  ·rw [if_pos c] at hz; cases hz
   exact ⟨_,by rw [hE2,if_pos rfl],c.symm⟩
  ·rw [if_neg c] at hz
   by_cases d:j=i
   ·rw [if_pos d] at hz; cases hz
    have:y ≠ x:=fun q=>by subst q; exact c (d.trans (h.inj x1 y1))
    exact ⟨_,by rw [hE2,if_neg this,if_pos rfl],d.symm⟩
   ·rw [if_neg d] at hz
    obtain ⟨a,a1,a2⟩:=h j z hz
    refine ⟨a, ?_,a2⟩
    rw [hE2,if_neg (fun q=>by subst q; exact d (h.inj hz x1)),if_neg (fun q=>by subst q; exact c (h.inj hz y1)),a1]
 ·rw [mem_ixI,mem_ixI]
  constructor
  ·rintro ⟨j,hj⟩
   rw [hL] at hj
   split at hj
   ·cases hj; exact ⟨i,x1⟩
   ·split at hj
    ·cases hj; exact ⟨k,y1⟩
    ·exact ⟨j,hj⟩
  ·rintro ⟨j,hj⟩
   by_cases c:j=k
   ·subst c; rw [y1] at hj; cases hj; exact ⟨i,q1⟩
   ·by_cases d:j=i
    ·subst d; rw [x1] at hj; cases hj; exact ⟨k,q2⟩
    ·exact ⟨j,by rw [hL,if_neg c,if_neg d,hj]⟩
 ·rw [hE2]
  by_cases c:z=x
  ·subst c; rw [e1] at ha; cases ha; exact ⟨_,if_pos rfl,g2,g3⟩
  ·rw [if_neg c]
   by_cases d:z=y
   ·subst d; rw [f1] at ha; cases ha; exact ⟨_,if_pos rfl,rfl,rfl⟩
   ·exact ⟨a,by rw [if_neg d,ha],rfl,rfl⟩
 ·intro z hz; rw [x1] at hz; cases hz; exact q2
theorem same_swap:u9=m4:=rfl
theorem same_down:G5=y9:=rfl
structure Kp(nv:Int)(L:List Int)(E:List En)(l:List Int)(e:List En):Prop where
 hp:Hp l e
 sm:Sme L E l e
 hi:∀ j,nv≤j→ix l j=ix L j
theorem ix_sw{L L':List Int}{E E':List En}{i k:Int}(h:m4 i k L E=some (L',E'))(hk0:0≤k)(hi0:0≤i)(hi1:i<L.length)(hk1:k<L.length){j:Int}(h1:j ≠ i)(h2:j ≠ k):ix L' j=ix L j:=by
 unfold m4 at h
 simp only [Option.bind_eq_some_iff] at h
 obtain ⟨a,_,b,_,c,_,d,_,e,_,f,_,g⟩:=h
 cases g
 by_cases hj:0≤j
 ·rw [ad7 hk0 (by simp; omega) hj,if_neg h2,ad7 hi0 hi1 hj,if_neg h1]
 ·rw [N4 (by omega),N4 (by omega)]
theorem down_body{nv i:Int}{L l:List Int}{E e:List En}(g:Kp nv L E l e)(hn:nv≤L.length)(hb:L.length≤1000000){c:Int}(hc:0≤c)(hc':c<L.length):
  (∃ l' e' c',v8 nv (l,e,c)=some (.inl (l',e',c'))∧Kp nv L E l' e'∧c<c'∧c'<nv)∨v8 nv (l,e,c)=some (.inr (l,e,c)):=by
 have hl:=g.sm.len
 unfold v8
 have e1:w64 (w64 (2 * c)+1)=2 * c+1:=by rw [x5 (n:=2 * c) (by omega) (by omega),x5 (by omega) (by omega)]
 simp only [e1]
 by_cases c1:nv≤2 * c+1
 ·rw [if_pos (by simp [c1])]; exact .inr rfl
 rw [if_neg (by simp; omega)]
 have e2:w64 (2 * c+1+1)=2 * c+2:=by rw [x5 (by omega) (by omega)]; omega
 simp only [e2]
 obtain ⟨j,j1,j2,j3⟩:∃ j,(Option.bind (if 2 * c+2<nv then Option.bind (m6 (2 * c+2) (2 * c+1) l e) fun a32=>some a32 else some false) fun t69=>if t69=true then some (2 * c+2) else some (2 * c+1))=some j∧c<j∧j<nv:=by
  by_cases c2:2 * c+2<nv
  ·obtain ⟨b,hb'⟩:=less_ok g.hp (i:=2 * c+2) (k:=2 * c+1) (by omega) (by omega) (by omega) (by omega)
   rw [if_pos c2,hb']
   cases b
   ·exact ⟨2 * c+1,rfl,by omega,by omega⟩
   ·exact ⟨2 * c+2,rfl,by omega,by omega⟩
  ·rw [if_neg c2]
   exact ⟨2 * c+1,rfl,by omega,by omega⟩
 rw [j1,Option.bind_some]
 obtain ⟨b,hb'⟩:=less_ok g.hp (i:=j) (k:=c) (by omega) (by omega) (by omega) (by omega)
 rw [hb',Option.bind_some]
 cases b
 ·exact .inr rfl
 ·obtain ⟨l',e',s1,s2,s3,_⟩:=swap_ok g.hp (i:=c) (k:=j) (by omega) (by omega) (by omega) (by omega)
  simp only [s1,oB,ad9,s3.len]
  refine .inl ⟨l',e',j,rfl,⟨s2,g.sm.trans s3,fun q hq=> ?_⟩,j2,j3⟩
  rw [ix_sw s1 (by omega) (by omega) (by omega) (by omega) (by omega) (by omega),g.hi q hq]
theorem down_ok{nv t0:Int}{L:List Int}{M:List (Int × Int)}{E:List En}(h:Hp L E){i:Int}(hi:0≤i)(hi':i<L.length)(hn:nv≤L.length)(hb:L.length≤1000000):
  ∃ L' E' b,y9 i nv t0 L M E=some (L',E',b)∧Kp nv L E L' E':=by
 unfold y9
 obtain ⟨o,o1,o2⟩:=U6 (body:=v8 nv) (s:=(L,E,i))
  (fun s=>Kp nv L E s.1 s.2.1∧0≤s.2.2∧s.2.2<L.length) (fun o=>Kp nv L E o.1 o.2.1) (fun s=>(nv - s.2.2).toNat)
  ⟨⟨h,.refl _ _,fun _ _=>rfl⟩,hi,hi'⟩ (by
   rintro ⟨l,e,c⟩ ⟨g1,g2,g3⟩
   simp only at g1 g2 g3
   rcases down_body (i:=i) g1 hn hb g2 g3 with ⟨l',e',c',q1,q2,q3,q4⟩ | q
   ·exact .inl ⟨_,q1,⟨q2,by change 0≤c'; omega,by change c'<_; omega⟩,by change (nv - c').toNat<(nv - c).toNat; omega⟩
   ·exact .inr ⟨_,q,g1⟩)
 obtain ⟨a,b,c⟩:=o
 exact ⟨a,b,_,by rw [o1]; rfl,o2⟩
theorem up_ok{t0:Int}{L:List Int}{M:List (Int × Int)}{E:List En}(h:Hp L E){i:Int}(hi:0≤i)(hi':i<L.length)(hb:L.length≤1000000):
  ∃ L' E',C1 i t0 L M E=some (L',E')∧Hp L' E'∧Sme L E L' E':=by
 unfold C1
 obtain ⟨o,o1,o2⟩:=U6 (body:=G6) (s:=(L,E,i))
  (fun s=>(Hp s.1 s.2.1∧Sme L E s.1 s.2.1)∧0≤s.2.2∧s.2.2<L.length) (fun o=>Hp o.1 o.2∧Sme L E o.1 o.2) (fun s=>s.2.2.toNat)
  ⟨⟨h,.refl _ _⟩,hi,hi'⟩ (by
   rintro ⟨l,e,c⟩ ⟨⟨g1,g4⟩,g2,g3⟩
   simp only at g1 g2 g3 g4
   have hl:=g4.len
   unfold G6
   have e1:w64 (c - 1)=c - 1:=x5 (by omega) (by omega)
   have e3:(c - 1).tdiv 2=if c=0 then 0 else (c - 1) / 2:=by
    split
    ·rename_i q; subst q; rfl
    ·rw [Int.tdiv_eq_ediv_of_nonneg (by omega)]
   have e2:w64 ((c - 1).tdiv 2)=if c=0 then 0 else (c - 1) / 2:=by
    rw [e3]; split
    ·rfl
    ·exact x5 (by omega) (by omega)
   simp only [e1,e2,chkN,show ((2:Int)=0)=False by simp,if_false,oB]
   by_cases c0:c=0
   ·subst c0
    rw [if_pos (by simp)]
    exact .inr ⟨_,rfl,g1,g4⟩
   ·simp only [if_neg c0]
    rw [if_neg (by omega)]
    obtain ⟨b,hb'⟩:=less_ok g1 (i:=c) (k:=(c - 1) / 2) (by omega) (by omega) (by omega) (by omega)
    rw [hb']
    cases b
    ·exact .inr ⟨_,rfl,g1,g4⟩
    ·obtain ⟨l',e',s1,s2,s3,_⟩:=swap_ok g1 (i:=(c - 1) / 2) (k:=c) (by omega) (by omega) (by omega) (by omega)
     simp only [oB,Bool.not_true,Bool.false_eq_true,if_false,s1,ad9,s3.len,if_true]
     exact .inl ⟨_,rfl,⟨⟨s2,g4.trans s3⟩,by simp only; omega,by simp only; omega⟩,by simp only; omega⟩)
 exact ⟨o.1,o.2,by rw [o1]; rfl,o2⟩
theorem fix_ok{t0:Int}{L:List Int}{M:List (Int × Int)}{E:List En}(h:Hp L E){i:Int}(hi:0≤i)(hi':i<L.length)(hb:L.length≤1000000):
  ∃ L' E',B3 i t0 L M E=some (L',E')∧Hp L' E'∧Sme L E L' E':=by
 unfold B3
 obtain ⟨L',E',b,h1,h2⟩:=down_ok (nv:=L.length) (t0:=t0) (M:=M) h hi hi' (by omega) hb
 simp only [o4,h1,oB]
 cases b
 ·obtain ⟨L2,E2,k1,k2,k3⟩:=up_ok (t0:=t0) (M:=M) h2.hp hi (by rw [h2.sm.len]; exact hi') (by rw [h2.sm.len]; exact hb)
  exact ⟨L2,E2,by simp [k1],k2,h2.sm.trans k3⟩
 ·exact ⟨L',E',by simp,h2.hp,h2.sm⟩
theorem push_ok{t0:Int}{L:List Int}{M:List (Int × Int)}{E:List En}(h:Hp L E){x:Int}{e:En}(hx:ix E x=some e)(hn:x ∉ L)(hb:L.length≤999999):
  ∃ L' E',z2 x t0 E L M=some (E',L')∧Hp L' E'∧Sme (L++[x]) E L' E':=by
 unfold z2 z7
 obtain ⟨x0,x1,_⟩:=o6 hx
 have ha:app 8 L [x]=some (L++[x]):=by unfold app; rw [if_pos (by simp; omega)]
 have hE:∀ j,ix (E.set x.toNat (⟨e.item,e.key,e.time,(L.length:Int)⟩:En)) j=if j=x then some ⟨e.item,e.key,e.time,(L.length:Int)⟩ else ix E j:=by
  intro j
  by_cases hj:0≤j
  ·rw [ad7 x0 x1 hj]
  ·rw [N4 (by omega),N4 (by omega),if_neg (by omega)]
 simp only [hx,ha,oB,o4]
 have e1:w64 (((L++[x]).length:Int) - 1)=(L.length:Int):=by rw [show (((L++[x]).length:Int) - 1)=(L.length:Int) by simp]; exact x5 (by omega) (by omega)
 have hh:Hp (L++[x]) (E.set x.toNat (⟨e.item,e.key,e.time,(L.length:Int)⟩:En)):=by
  intro i z hz
  rw [aj8] at hz
  by_cases c:i=L.length
  ·rw [if_pos c] at hz; cases hz
   exact ⟨_,by rw [hE,if_pos rfl],c.symm⟩
  ·rw [if_neg c] at hz
   obtain ⟨a,a1,a2⟩:=h i z hz
   exact ⟨a,by rw [hE,if_neg (fun q=>by subst q; exact hn (o5 hz)),a1],a2⟩
 obtain ⟨L',E',k1,k2,k3⟩:=up_ok (t0:=t0) (M:=M) hh (i:=L.length) (by omega) (by simp; omega) (by simp; omega)
 refine ⟨L',E',by rw [e1,k1]; rfl,k2,Sme.trans ⟨rfl,fun _=>Iff.rfl,by simp,fun z a hz=> ?_⟩ k3⟩
 rw [hE]
 by_cases c:z=x
 ·subst c; rw [hx] at hz; cases hz; exact ⟨_,if_pos rfl,rfl,rfl⟩
 ·exact ⟨a,by rw [if_neg c,hz],rfl,rfl⟩
theorem pop_ok{t0:Int}{L:List Int}{M:List (Int × Int)}{E:List En}(h:Hp L E)(hl:0<L.length)(hb:L.length≤1000000):
  ∃ L' E' x,E8 t0 L M E=some (E',L',x)∧Hp L' E'∧Sme L E (L'++[x]) E'∧x ∉ L':=by
 unfold E8
 have e1:w64 ((L.length:Int) - 1)=(L.length:Int) - 1:=x5 (by omega) (by omega)
 obtain ⟨l,e,s1,s2,s3,_⟩:=swap_ok h (i:=0) (k:=(L.length:Int) - 1) (by omega) (by omega) (by omega) (by omega)
 have hl':=s3.len
 obtain ⟨L1,E1,b,d1,d2⟩:=down_ok (nv:=(L.length:Int) - 1) (t0:=t0) (M:=M) s2 (i:=0) (by omega) (by omega) (by omega) (by omega)
 have hs:=s3.trans d2.sm
 have hl1:=hs.len
 obtain ⟨x,x1,_⟩:=m9 (l:=L1) (i:=(L.length:Int) - 1) (by omega) (by omega)
 have hcut:subL L1 0 ((L1.length:Int) - 1)=some L1.dropLast:=by
  unfold subL
  rw [if_pos (by omega)]
  simp only [Int.toNat_zero,List.drop_zero,List.dropLast_eq_take]
  rw [show ((L1.length:Int) - 1).toNat=L1.length - 1 by omega]
 have hsnoc:L1.dropLast++[x]=L1:=by
  have hne:L1 ≠ []:=by intro q; rw [q] at hl1; simp at hl1; omega
  have:=(o6 x1).2.2
  rw [show ((L.length:Int) - 1).toNat=L1.length - 1 by omega] at this
  have hlast:L1.getLast hne=x:=by
   rw [List.getLast_eq_getElem]
   have:=List.getElem?_eq_some_iff.1 this
   exact this.2
  rw [← hlast]; exact List.dropLast_concat_getLast hne
 have hd:Hp L1.dropLast E1:=fun i z hz=>d2.hp i z (by
  have:=ao0 (x:=x) hz; rwa [hsnoc] at this)
 refine ⟨L1.dropLast,E1,x, ?_,hd,by rw [hsnoc]; exact hs,fun hx=> ?_⟩
 ·rw [same_swap,same_down]
  simp only [o4,e1,s1,oB,ad9,hl',if_true,d1,B0,hcut]
  rw [show (L1.length:Int) - 1=(L.length:Int) - 1 by omega,x1]; rfl
 ·obtain ⟨i,hi⟩:=mem_ixI.1 hx
  have h2:=ao0 (x:=x) hi
  rw [hsnoc] at h2
  have:=d2.hp.inj h2 x1
  have h3:=(o6 hi).2.1
  simp at h3; omega
end Ab
end
section
namespace Ab
open Go
theorem mset_nodup{k v:Int}{m:List (Int × Int)}(h:(m.map (·.1)).Nodup):((mset m k v).map (·.1)).Nodup:=by
 by_cases c:mget m k=none
 ·rw [U8 c,List.map_append]
  refine List.nodup_append.2 ⟨h,by simp,fun a ha b hb e=> ?_⟩
  simp at hb; subst hb; subst e; exact mget_none c ha
 ·rw [mset_keys c]; exact h
theorem mget_of_mem{k v:Int}:∀ {m:List (Int × Int)},(m.map (·.1)).Nodup→(k,v) ∈ m→mget m k=some v
 | [],_,h=>by simp at h
 | p::r,hn,h=>by
  simp only [List.map_cons,List.nodup_cons] at hn
  simp only [mget]
  rcases List.mem_cons.1 h with e | h
  ·subst e; simp
  ·rw [if_neg (fun e=>hn.1 (by rw [← e]; exact List.mem_map.2 ⟨_,h,rfl⟩))]
   exact mget_of_mem hn.2 h
theorem mdel_sub{k:Int}:∀ {m:List (Int × Int)},(mdel m k).Sublist m
 | []=>List.Sublist.slnil
 | p::r=>by
  simp only [mdel]
  split
  ·exact List.sublist_cons_self _ _
  ·exact mdel_sub.cons_cons _
theorem mget_mdel{k:Int}:∀ {m:List (Int × Int)},(m.map (·.1)).Nodup→∀ x,mget (mdel m k) x=if x=k then none else mget m x
 | [],_,x=>by simp [mdel,mget]
 | p::r,hn,x=>by
  simp only [List.map_cons,List.nodup_cons] at hn
  simp only [mdel]
  by_cases c:k=p.1
  ·rw [if_pos c]
   by_cases d:x=k
   ·rw [if_pos d]
    cases e:mget r x with
    | none=>rfl
    | some v=>exact absurd (List.mem_map.2 ⟨_,mget_mem e,rfl⟩) (by rw [d,c]; exact hn.1)
   ·rw [if_neg d]
    simp only [mget]
    rw [if_neg (fun e=>d (e.trans c.symm))]
  ·rw [if_neg c]
   simp only [mget,mget_mdel hn.2]
   by_cases d:x=k
   ·rw [if_pos d,if_pos d,if_neg (by rw [d]; exact c)]
   ·rw [if_neg d,if_neg d]
structure Qu(M:List (Int × Int))(L:List Int)(E:List En):Prop where
 hp:Hp L E
 keys:(M.map (·.1)).Nodup
 mem:∀ x h,mget M x=some h↔h ∈ L∧∃ e,ix E h=some e∧e.item=x
def qkey(M:List (Int × Int))(E:List En)(x:Int):Option Int:=(mget M x).bind fun h=>(ix E h).map (·.key)
theorem Sme.item{L L':List Int}{E E':List En}(h:Sme L E L' E')(x y:Int):(∃ e,ix E' x=some e∧e.item=y)↔∃ e,ix E x=some e∧e.item=y:=by
 constructor
 ·rintro ⟨e,e1,e2⟩
  obtain ⟨a,b,_⟩:=o6 e1
  obtain ⟨f,f1,_⟩:=m9 (l:=E) a (by rw [← h.elen]; exact b)
  obtain ⟨g,g1,g2,_⟩:=h.e x f f1
  rw [e1] at g1; cases g1
  exact ⟨f,f1,g2.symm.trans e2⟩
 ·rintro ⟨e,e1,e2⟩
  obtain ⟨g,g1,g2,_⟩:=h.e x e e1
  exact ⟨g,g1,g2.trans e2⟩
theorem Sme.key{L L':List Int}{E E':List En}(h:Sme L E L' E')(x:Int):(ix E' x).map (·.key)=(ix E x).map (·.key):=by
 cases e1:ix E x with
 | some e=>
  obtain ⟨g,g1,_,g3⟩:=h.e x e e1
  rw [g1]; simp [g3]
 | none=>
  cases e2:ix E' x with
  | none=>rfl
  | some e=>
   obtain ⟨a,b,_⟩:=o6 e2
   obtain ⟨f,f1,_⟩:=m9 (l:=E) a (by rw [← h.elen]; exact b)
   rw [e1] at f1; cases f1
theorem Qu.sme{M:List (Int × Int)}{L L':List Int}{E E':List En}(h:Qu M L E)(hp:Hp L' E')(hs:Sme L E L' E'):Qu M L' E'∧∀ x,qkey M E' x=qkey M E x:=by
 refine ⟨⟨hp,h.keys,fun x y=> ?_⟩,fun x=> ?_⟩
 ·rw [h.mem,hs.mem,hs.item]
 ·unfold qkey
  cases mget M x with
  | none=>rfl
  | some y=>simp [hs.key]
theorem Qu.nil:Qu [] [] []:=⟨fun i h e=>by simp [ix] at e,by simp,fun x h=>by simp [mget]⟩
theorem Qu.val{M:List (Int × Int)}{L:List Int}{E:List En}(h:Qu M L E){z:Int}(hz:z ∈ L):z.toNat<E.length:=by
 obtain ⟨i,_,_,hi⟩:=w8 hz
 obtain ⟨e,e1,_⟩:=h.hp i z hi
 exact h9 e1
theorem Qu.chk1{M:List (Int × Int)}{L:List Int}{E:List En}(h:Qu M L E):chkH E.length L=some ():=by
 unfold chkH; rw [if_pos (fun z hz=>h.val hz)]
theorem Qu.chk2{M:List (Int × Int)}{L:List Int}{E:List En}(h:Qu M L E):chkH E.length (M.map (·.2))=some ():=by
 unfold chkH
 rw [if_pos]
 intro z hz
 obtain ⟨p,hp,rfl⟩:=List.mem_map.1 hz
 exact h.val ((h.mem p.1 p.2).1 (mget_of_mem h.keys hp)).1
theorem Qu.item_inj{M:List (Int × Int)}{L:List Int}{E:List En}(h:Qu M L E){a b:Int}{e f:En}(ha:a ∈ L)(hb:b ∈ L)(he:ix E a=some e)(hf:ix E b=some f)(hi:e.item=f.item):a=b:=by
 have h1:=(h.mem e.item a).2 ⟨ha,e,he,rfl⟩
 have h2:=(h.mem e.item b).2 ⟨hb,f,hf,hi.symm⟩
 rw [h1] at h2; exact Option.some.inj h2
theorem Hp.nodup{L:List Int}{E:List En}(h:Hp L E):L.Nodup:=by
 refine List.pairwise_iff_getElem.2 fun i j hi hj hij e=> ?_
 have h1:ix L (j:Int)=some L[j]:=ix_ltN hj
 have h2:ix L (i:Int)=some L[j]:=by rw [← e]; exact ix_ltN hi
 have:=h.inj h1 h2
 omega
theorem Qu.le{M:List (Int × Int)}{L:List Int}{E:List En}(h:Qu M L E){vs:List Int}(hv:∀ x,qkey M E x ≠ none→x ∈ vs):L.length≤vs.length:=by
 have h1:(L.map fun z=>((ix E z).map (·.item)).getD 0).Nodup:=by
  refine List.pairwise_map.2 ?_
  have:=h.hp.nodup
  refine List.Pairwise.imp_of_mem (R:=(· ≠ ·)) (fun {a b} ha hb hab e=>hab ?_) this
  obtain ⟨i,_,_,hi⟩:=w8 ha
  obtain ⟨j,_,_,hj⟩:=w8 hb
  obtain ⟨x,x1,_⟩:=h.hp i a hi
  obtain ⟨y,y1,_⟩:=h.hp j b hj
  refine h.item_inj ha hb x1 y1 ?_
  simpa [x1,y1] using e
 have:=ag8 h1 (S:=vs) (fun x hx=>by
  obtain ⟨a,ha,rfl⟩:=List.mem_map.1 hx
  obtain ⟨i,_,_,hi⟩:=w8 ha
  obtain ⟨e,e1,_⟩:=h.hp i a hi
  refine hv _ ?_
  have:=(h.mem e.item a).2 ⟨ha,e,e1,rfl⟩
  simp [e1,qkey,this])
 simpa using this
theorem set_ok{M:List (Int × Int)}{L:List Int}{E:List En}(h:Qu M L E)(hb:L.length≤999999)(item key t0:Int):
  ∃ M' L' E',p8 item key t0 L M E=some (M',L',E')∧Qu M' L' E'∧∀ x,qkey M' E' x=if x=item then some key else qkey M E x:=by
 unfold p8
 cases hm:mget M item with
 | some z=>
  simp only [Option.isSome_some,if_true,oB]
  obtain ⟨hz,e,e1,e2⟩:=(h.mem item z).1 hm
  obtain ⟨z0,z1,_⟩:=o6 e1
  obtain ⟨i,i0,i1,hi⟩:=w8 hz
  have hf:e.fat=i:=by
   obtain ⟨f,f1,f2⟩:=h.hp i z hi
   rw [e1] at f1; cases f1; exact f2
  simp only [e1,oB,List.set_set]
  have hE:∀ j,ix (E.set z.toNat (⟨e.item,key,w64 (t0+1),e.fat⟩:En)) j=if j=z then some ⟨e.item,key,w64 (t0+1),e.fat⟩ else ix E j:=by
   intro j
   by_cases hj:0≤j
   ·rw [ad7 z0 z1 hj]
   ·rw [N4 (by omega),N4 (by omega),if_neg (by omega)]
  have h1:Hp L (E.set z.toNat (⟨e.item,key,w64 (t0+1),e.fat⟩:En)):=by
   intro j y hy
   rw [hE]
   by_cases c:y=z
   ·subst c; exact ⟨_,if_pos rfl,hf.trans (h.hp.inj hi hy)⟩
   ·rw [if_neg c]; exact h.hp j y hy
  obtain ⟨L',E',k1,k2,k3⟩:=fix_ok (t0:=w64 (t0+1)) (M:=M) h1 (i:=e.fat) (by omega) (by omega) (by omega)
  have hq:Qu M L (E.set z.toNat (⟨e.item,key,w64 (t0+1),e.fat⟩:En)):=⟨h1,h.keys,fun x y=>by
   rw [h.mem,hE]
   by_cases c:y=z
   ·subst c
    simp [e1]
   ·rw [if_neg c]⟩
  obtain ⟨q1,q2⟩:=hq.sme k2 k3
  refine ⟨M,L',E',by rw [k1]; rfl,q1,fun x=> ?_⟩
  rw [q2]
  unfold qkey
  by_cases c:x=item
  ·subst c; rw [if_pos rfl,hm]; simp [hE]
  ·rw [if_neg c]
   cases hx:mget M x with
   | none=>rfl
   | some y=>
    have:y ≠ z:=fun q=>by
     subst q
     obtain ⟨_,f,f1,f2⟩:=(h.mem x y).1 hx
     rw [e1] at f1; cases f1; exact c (f2.symm.trans e2)
    simp [hE,if_neg this]
 | none=>
  simp only [Option.isSome_none,Bool.false_eq_true,if_false,h.chk1,h.chk2,oB]
  have hn:(E.length:Int) ∉ L:=fun q=>by have:=h.val q; simp at this
  have h1:Hp L (E++[(⟨item,key,w64 (t0+1),0⟩:En)]):=fun i z hz=>by
   obtain ⟨e,e1,e2⟩:=h.hp i z hz
   exact ⟨e,ao0 e1,e2⟩
  obtain ⟨L',E',k1,k2,k3⟩:=push_ok (t0:=w64 (t0+1)) (M:=mset M item (E.length:Int)) h1 (x:=(E.length:Int)) ix_snoc_new hn hb
  refine ⟨_,L',E',by rw [k1]; rfl,⟨k2,mset_nodup h.keys,fun x y=> ?_⟩,fun x=> ?_⟩
  ·rw [A0,k3.mem,k3.item,List.mem_append,List.mem_singleton,aj8]
   by_cases c:x=item
   ·subst c
    rw [if_pos rfl]
    by_cases d:y=(E.length:Int)
    ·rw [if_pos d]; simp [d]
    ·rw [if_neg d]
     constructor
     ·intro q; exact absurd (Option.some.inj q).symm d
     ·rintro ⟨a | a,b⟩
      ·exact absurd ((h.mem x y).2 ⟨a,b⟩) (by rw [hm]; simp)
      ·exact absurd a d
   ·rw [if_neg c,h.mem]
    by_cases d:y=(E.length:Int)
    ·rw [if_pos d]; subst d
     constructor
     ·rintro ⟨q,_⟩; exact absurd q hn
     ·rintro ⟨_,e,e1,e2⟩; cases e1; exact absurd e2.symm c
    ·rw [if_neg d]; simp [d]
  ·unfold qkey
   rw [A0]
   by_cases c:x=item
   ·rw [if_pos c,if_pos c]
    simp [k3.key,aj8]
   ·rw [if_neg c,if_neg c]
    cases hx:mget M x with
    | none=>rfl
    | some y=>
     have:y ≠ (E.length:Int):=fun q=>hn (by rw [← q]; exact ((h.mem x y).1 hx).1)
     simp [k3.key,aj8,if_neg this]
theorem take_ok{M:List (Int × Int)}{L:List Int}{E:List En}(h:Qu M L E)(hl:0<L.length)(hb:L.length≤1000000)(t0:Int):
  ∃ M' L' E' it k,v6 t0 L M E=some (M',E',L',it,k,true)∧Qu M' L' E'∧qkey M E it=some k∧(∀ x,qkey M' E' x=if x=it then none else qkey M E x)∧L'.length+1=L.length:=by
 unfold v6
 rw [if_neg (by omega)]
 obtain ⟨L',E',z,k1,k2,k3,k4⟩:=pop_ok (t0:=t0) (M:=M) h.hp hl hb
 have hz:z ∈ L:=(k3.mem z).1 (by simp)
 obtain ⟨i,_,_,hi⟩:=w8 hz
 obtain ⟨e,e1,e2⟩:=h.hp i z hi
 obtain ⟨f,f1,f2,f3⟩:=k3.e z e e1
 have hm:=(h.mem e.item z).2 ⟨hz,e,e1,rfl⟩
 refine ⟨mdel M f.item,L',E',f.item,f.key,by simp only [k1,oB,f1],⟨k2,List.Nodup.sublist (mdel_sub.map _) h.keys,fun x y=> ?_⟩, ?_,fun x=> ?_, ?_⟩
 ·rw [mget_mdel h.keys]
  by_cases c:x=f.item
  ·rw [if_pos c]
   constructor
   ·intro q; cases q
   ·rintro ⟨a,b⟩
    have:=(h.mem x y).2 ⟨(k3.mem y).1 (by simp [a]),(k3.item y x).1 b⟩
    rw [c,f2,hm] at this
    cases this; exact absurd a k4
  ·rw [if_neg c,h.mem,← k3.mem,k3.item,List.mem_append,List.mem_singleton]
   constructor
   ·rintro ⟨a | a,b⟩
    ·exact ⟨a,b⟩
    ·subst a
     obtain ⟨g,g1,g2⟩:=b
     rw [e1] at g1; cases g1
     exact absurd (g2.symm.trans f2.symm) c
   ·rintro ⟨a,b⟩; exact ⟨.inl a,b⟩
 ·unfold qkey; rw [f2,hm]; simp [e1,f3]
 ·unfold qkey
  rw [mget_mdel h.keys]
  by_cases c:x=f.item
  ·rw [if_pos c,if_pos c]; rfl
  ·rw [if_neg c,if_neg c]
   cases mget M x with
   | none=>rfl
   | some y=>simp [k3.key]
 ·have:=k3.len; simpa using this
theorem same_set:B4=p8:=rfl
end Ab
end
section
namespace Ab
open Go
abbrev MpI:=List (Int × Int)
def M9(g x:Int):Prop:=Go.bits .and .u32 x g=g
def cst(c:MpI)(x:Int):Int:=(mget c x).getD 0
inductive PthW(vs:List Int)(ms:List Mk)(g:Int):Int→Int→Prop
 | goal {x:Int} (h:x ∈ vs) (hg:M9 g x):PthW vs ms g x 0
 | step {x k:Int} {m:Mk} (h:x ∈ vs) (hm:m ∈ ms) (hc:canW m x) (hp:PthW vs ms g (tgtW m x) k):PthW vs ms g x (k+m.cost)
structure Gr(vs:List Int)(ms:List Mk):Prop where
 cl:∀ x ∈ vs,∀ m ∈ ms,canW m x→tgtW m x ∈ vs
 co:∀ m ∈ ms,0≤m.cost∧m.cost≤100
 ml:ms.length≤40
 vl:vs.length≤2000
structure Cd(vs:List Int)(ms:List Mk)(g:Int)(c:MpI):Prop where
 dom:∀ x ∈ vs,∃ k,mget c x=some k∧0≤k∧k≤1000000000∧(k=1000000000∨PthW vs ms g x k)
 goal:∀ x ∈ vs,M9 g x→mget c x=some 0
structure Iv(vs:List Int)(ms:List Mk)(g:Int)(c M:MpI)(L:List Int)(E:List En)(exc:Int→Prop):Prop where
 cd:Cd vs ms g c
 qu:Qu M L E
 qk:∀ x k,qkey M E x=some k→x ∈ vs∧mget c x=some k
 arc:∀ x ∈ vs,∀ m ∈ ms,canW m x→¬ exc (tgtW m x)→qkey M E (tgtW m x)=none→cst c x≤cst c (tgtW m x)+m.cost
theorem Iv.len{vs:List Int}{ms:List Mk}{g:Int}{c M:MpI}{L:List Int}{E:List En}{exc:Int→Prop}(h:Iv vs ms g c M L E exc):L.length≤vs.length:=
 h.qu.le fun x hx=>by
  cases e:qkey M E x with
  | none=>exact absurd e hx
  | some k=>exact (h.qk x k e).1
def sm(vs:List Int)(c:MpI):Nat:=(vs.map fun x=>(cst c x).toNat).sum
theorem sum_le{α:Type}{f g:α→Nat}:∀ {l:List α},(∀ x ∈ l,f x≤g x)→(l.map f).sum≤(l.map g).sum
 | [],_=>by simp
 | x::l,h=>by
  have h1:=h x (by simp)
  have h2:=sum_le (l:=l) fun y hy=>h y (List.mem_cons_of_mem _ hy)
  simp only [List.map_cons,List.sum_cons]; omega
theorem sum_lt{α:Type}{f g:α→Nat}:∀ {l:List α},(∀ x ∈ l,f x≤g x)→(∃ x ∈ l,f x<g x)→(l.map f).sum<(l.map g).sum
 | [],_,h=>by simp at h
 | x::l,h,⟨y,hy,hlt⟩=>by
  have h1:=h x (by simp)
  have h2:=sum_le (l:=l) fun y hy=>h y (List.mem_cons_of_mem _ hy)
  simp only [List.map_cons,List.sum_cons]
  rcases List.mem_cons.1 hy with rfl | hy
  ·omega
  ·have:=sum_lt (l:=l) (fun y hy=>h y (List.mem_cons_of_mem _ hy)) ⟨y,hy,hlt⟩
   omega
theorem ak6{c:MpI}{x v:Int}(z:Int):cst (mset c x v) z=if z=x then v else cst c z:=by
 unfold cst; rw [A0]; split<;>rfl
theorem sm_lt{vs:List Int}{c:MpI}{x v:Int}(hx:x ∈ vs)(h0:0≤v)(hv:v<cst c x):sm vs (mset c x v)<sm vs c:=by
 refine sum_lt (fun z _=> ?_) ⟨x,hx, ?_⟩
 ·rw [ak6]
  split
  ·rename_i e; subst e; omega
  ·exact Nat.le_refl _
 ·rw [ak6,if_pos rfl]; omega
theorem relax_ok{vs:List Int}{ms:List Mk}{g:Int}{c M:MpI}{L:List Int}{E:List En}{exc:Int→Prop}(hg:Gr vs ms)(h:Iv vs ms g c M L E exc){x v:Int}(hx:x ∈ vs)(h0:0≤v)(hv:v<cst c x)(hp:PthW vs ms g x v)(t0:Int):
  ∃ M' L' E',p8 x v t0 L M E=some (M',L',E')∧Iv vs ms g (mset c x v) M' L' E' exc∧∀ z,qkey M' E' z=if z=x then some v else qkey M E z:=by
 have hlen:=h.len
 have hvl:=hg.vl
 obtain ⟨M',L',E',k1,k2,k3⟩:=set_ok h.qu (by omega) x v t0
 refine ⟨M',L',E',k1,⟨⟨fun z hz=> ?_,fun z hz hgz=> ?_⟩,k2,fun z k hk=> ?_,fun z hz m hm hc he hq=> ?_⟩,k3⟩
 ·rw [A0]
  by_cases e:z=x
  ·subst e
   obtain ⟨k,q1,q2,q3,_⟩:=h.cd.dom z hz
   have:cst c z=k:=by unfold cst; rw [q1]; rfl
   exact ⟨v,if_pos rfl,h0,by omega,.inr hp⟩
  ·rw [if_neg e]; exact h.cd.dom z hz
 ·rw [A0]
  by_cases e:z=x
  ·subst e
   have:cst c z=0:=by unfold cst; rw [h.cd.goal z hz hgz]; rfl
   omega
  ·rw [if_neg e]; exact h.cd.goal z hz hgz
 ·rw [k3] at hk
  rw [A0]
  by_cases e:z=x
  ·rw [if_pos e] at hk ⊢; cases hk; exact ⟨by rw [e]; exact hx,rfl⟩
  ·rw [if_neg e] at hk ⊢; exact h.qk z k hk
 ·rw [k3] at hq
  by_cases e:tgtW m z=x
  ·rw [if_pos e] at hq; cases hq
  ·rw [if_neg e] at hq
   have:=h.arc z hz m hm hc he hq
   rw [ak6,ak6,if_neg e]
   by_cases f:z=x
   ·rw [if_pos f]; subst f; omega
   ·rw [if_neg f]; exact this
abbrev Bkm:=List (Int × List s9)
def BkOk(vs:List Int)(ms:List Mk)(b:Bkm):Prop:=∀ y a,a ∈ rowM b y↔∃ x ∈ vs,∃ m ∈ ms,canW m x∧tgtW m x=y∧a=⟨x,m.cost⟩
abbrev St5:=MpI × MpI × List En × Int × List Int
theorem relax_all{vs:List Int}{ms:List Mk}{g:Int}{b:Bkm}{c M:MpI}{L:List Int}{E:List En}{y k:Int}(hg:Gr vs ms)(hb:BkOk vs ms b)(h:Iv vs ms g c M L E (· =y))(hy:y ∈ vs)(hk:mget c y=some k)(hq:qkey M E y=none)(t0:Int)(bb:Bool):
  ∃ s:St5,forR 0 ((rowM b y).length:Int) (J2 b (M,E,L,y,k,bb)) (c,M,E,t0,L)=some s∧Iv vs ms g s.1 s.2.1 s.2.2.2.2 s.2.2.1 (fun _=>False)∧((sm vs s.1=sm vs c∧s.2.2.2.2=L)∨sm vs s.1<sm vs c):=by
 obtain ⟨s,h1,h2,h3,h4,h5,h6⟩:=G2 (body:=J2 b (M,E,L,y,k,bb)) (n:=((rowM b y).length:Int)) (s:=((c,M,E,t0,L):St5))
  (fun j s=>Iv vs ms g s.1 s.2.1 s.2.2.2.2 s.2.2.1 (· =y)∧mget s.1 y=some k∧qkey s.2.1 s.2.2.1 y=none∧(∀ i a,i<j→ix (rowM b y) i=some a→cst s.1 a.ffrom≤k+a.cost)∧((sm vs s.1=sm vs c∧s.2.2.2.2=L)∨sm vs s.1<sm vs c)) (by omega)
  ⟨h,hk,hq,fun i a hi ha=>by have:=(o6 ha).1; omega,.inl ⟨rfl,rfl⟩⟩ (fun j s j0 j1 hP=>by
   obtain ⟨c',M',E',t',L'⟩:=s
   obtain ⟨p1,p2,p3,p4,p5⟩:=hP
   simp only at p1 p2 p3 p4 p5
   obtain ⟨a,ha,_⟩:=m9 (l:=rowM b y) j0 j1
   obtain ⟨x,hx,m,hm,hc,hty,rfl⟩:=(hb y a).1 (o5 ha)
   have hco:=hg.co m hm
   obtain ⟨k',q1,q2,q3,q4⟩:=p1.cd.dom y hy
   rw [p2] at q1; cases q1
   have hw:w64 (k+m.cost)=k+m.cost:=x5 (by omega) (by omega)
   unfold J2
   simp only [ha,oB,hw]
   have hcx:Option.getD (mget c' x) 0=cst c' x:=rfl
   rw [hcx]
   by_cases cc:k+m.cost<cst c' x
   ·rw [if_pos cc]
    have hpy:PthW vs ms g y k:=by
     rcases q4 with q4 | q4
     ·obtain ⟨k2,r1,r2,r3,_⟩:=p1.cd.dom x hx
      have:cst c' x=k2:=by unfold cst; rw [r1]; rfl
      omega
     ·exact q4
    have hxy:x ≠ y:=fun e=>by
     subst e
     have:cst c' x=k:=by unfold cst; rw [p2]; rfl
     omega
    obtain ⟨M2,L2,E2,k1,k2,k3⟩:=relax_ok hg p1 hx (by omega) cc (.step hx hm hc (by rw [hty]; exact hpy)) t'
    rw [same_set,k1]
    have hsm:=sm_lt (vs:=vs) (c:=c') hx (by omega) cc
    refine ⟨_,rfl,k2, ?_, ?_,fun i a' hi ha'=> ?_,.inr (by simp only; rcases p5 with p5 | p5<;>omega)⟩
    ·simp only [A0]; rw [if_neg (Ne.symm hxy)]; exact p2
    ·simp only [k3]; rw [if_neg (Ne.symm hxy)]; exact p3
    ·simp only [ak6]
     by_cases e:i=j
     ·subst e; rw [ha] at ha'; cases ha'; simp
     ·have:=p4 i a' (by omega) ha'
      split
      ·rename_i f; rw [f] at this; omega
      ·exact this
   ·rw [if_neg cc]
    refine ⟨_,rfl,p1,p2,p3,fun i a' hi ha'=> ?_,p5⟩
    by_cases e:i=j
    ·subst e; rw [ha] at ha'; cases ha'; simp only; omega
    ·exact p4 i a' (by omega) ha')
 refine ⟨s,h1,⟨h2.cd,h2.qu,h2.qk,fun x hx m hm hc _ hqn=> ?_⟩,h6⟩
 by_cases e:tgtW m x=y
 ·have hmem:=(hb y ⟨x,m.cost⟩).2 ⟨x,hx,m,hm,hc,e,rfl⟩
  obtain ⟨i,i0,i1,hi⟩:=w8 hmem
  have:=h5 i _ i1 hi
  change cst s.1 x≤k+m.cost at this
  rw [e]
  have e2:cst s.1 y=k:=by unfold cst; rw [h3]; rfl
  omega
 ·exact h2.arc x hx m hm hc e hqn
structure Best(vs:List Int)(ms:List Mk)(g:Int)(c:MpI):Prop where
 cd:Cd vs ms g c
 least:∀ x k,PthW vs ms g x k→cst c x≤k
theorem main_ok{vs:List Int}{ms:List Mk}{g:Int}{b:Bkm}{c M:MpI}{L:List Int}{E:List En}(hg:Gr vs ms)(hb:BkOk vs ms b)(h:Iv vs ms g c M L E fun _=>False)(t0:Int):
  ∃ r,Loop (J3 b) (c,M,E,t0,L)=some r∧Best vs ms g r:=by
 have hvl:=hg.vl
 refine U6 (body:=J3 b) (s:=((c,M,E,t0,L):St5)) (fun s:St5=>Iv vs ms g s.1 s.2.1 s.2.2.2.2 s.2.2.1 fun _=>False) (fun r=>Best vs ms g r)
  (fun s=>sm vs s.1 * 2001+s.2.2.2.2.length) h ?_
 rintro ⟨c,M,E,t,L⟩ p
 simp only at p
 have hlen:=p.len
 unfold J3
 simp only [B9,oB]
 by_cases cl:0<L.length
 ·rw [if_pos (by omega)]
  obtain ⟨M',L',E',y,k,k1,k2,k3,k4,k5⟩:=take_ok p.qu cl (by omega) t
  obtain ⟨hy,hk⟩:=p.qk y k k3
  have h':Iv vs ms g c M' L' E' (· =y):=⟨p.cd,k2,fun x k hx=>by
    rw [k4] at hx
    by_cases e:x=y
    ·rw [if_pos e] at hx; cases hx
    ·rw [if_neg e] at hx; exact p.qk x k hx,fun x hx m hm hc he hq=>by
    rw [k4,if_neg he] at hq
    exact p.arc x hx m hm hc (fun q=>q) hq⟩
  obtain ⟨s,s1,s2,s3⟩:=relax_all hg hb h' hy hk (by rw [k4,if_pos rfl]) t true
  have hl2:=s2.len
  simp only [k1,oB,s1]
  refine .inl ⟨s,rfl,s2, ?_⟩
  change sm vs s.1 * 2001+s.2.2.2.2.length<sm vs c * 2001+L.length
  rcases s3 with ⟨s3,s4⟩ | s3
  ·rw [s3,s4]; omega
  ·omega
 ·rw [if_neg (by omega)]
  refine .inr ⟨c,rfl,p.cd, ?_⟩
  have hL:L=[]:=List.eq_nil_of_length_eq_zero (by omega)
  have hq:∀ x,qkey M E x=none:=fun x=>by
   unfold qkey
   cases e:mget M x with
   | none=>rfl
   | some z=>have:=((p.qu.mem x z).1 e).1; rw [hL] at this; cases this
  intro x k hp
  induction hp with
  | goal hx hgx=>unfold cst; rw [p.cd.goal _ hx hgx]; simp
  | step hx hm hc hp ih=>
   have:=p.arc _ hx _ hm hc (fun q=>q) (hq _)
   omega
theorem rowM_mset{b:Bkm}{k:Int}{v:List s9}(y:Int):rowM (mset b k v) y=if y=k then v else rowM b y:=by
 unfold rowM; rw [A0]; split<;>rfl
theorem back_ok{ms:List Mk}{b:Bkm}{x:Int}(hml:ms.length≤40){B:Nat}(hB:∀ y,(rowM b y).length≤B)(hB':B≤1000000):
  ∃ b',P0 ms b x=some b'∧(∀ y,(rowM b' y).length≤B+40)∧∀ y a,a ∈ rowM b' y↔a ∈ rowM b y∨∃ m ∈ ms,canW m x∧tgtW m x=y∧a=⟨x,m.cost⟩:=by
 unfold P0
 obtain ⟨b',h1,h2,h3⟩:=G2 (body:=P1 ms x) (n:=(ms.length:Int)) (s:=b)
  (fun j c=>(∀ y,((rowM c y).length:Int)≤B+j)∧∀ y a,a ∈ rowM c y↔a ∈ rowM b y∨∃ i m,i<j∧ix ms i=some m∧canW m x∧tgtW m x=y∧a=⟨x,m.cost⟩) (by omega)
  ⟨fun y=>by have:=hB y; omega,fun y a=>⟨.inl,fun q=>by
   rcases q with q | ⟨i,m,hi,hm,_⟩
   ·exact q
   ·have:=(o6 hm).1; omega⟩⟩ (fun j c j0 j1 hP=>by
   obtain ⟨p1,p2⟩:=hP
   obtain ⟨m,hm,_⟩:=m9 j0 j1
   unfold P1
   simp only [hm,oB]
   by_cases c1:Go.bits .and .u32 x m.pre=m.pre
   ·rw [if_pos c1]
    have ee:Go.bits .or .u32 (Go.bits .andNot .u32 x m.del) m.add=tgtW m x:=rfl
    rw [ee]
    have hl:=p1 (tgtW m x)
    have ha:app 16 (rowM c (tgtW m x)) [(⟨x,m.cost⟩:s9)]=some (rowM c (tgtW m x)++[⟨x,m.cost⟩]):=by unfold app; rw [if_pos (by simp; omega)]
    simp only [ha,oB]
    refine ⟨_,rfl,fun y=> ?_,fun y a=> ?_⟩
    ·rw [rowM_mset]
     split
     ·simp; omega
     ·have:=p1 y; omega
    ·rw [rowM_mset]
     have key:(∃ i m',i<j+1∧ix ms i=some m'∧canW m' x∧tgtW m' x=y∧a=⟨x,m'.cost⟩)↔(∃ i m',i<j∧ix ms i=some m'∧canW m' x∧tgtW m' x=y∧a=⟨x,m'.cost⟩)∨(tgtW m x=y∧a=⟨x,m.cost⟩):=by
      constructor
      ·rintro ⟨i,m',q1,q2,q3,q4,q5⟩
       by_cases e:i=j
       ·subst e; rw [hm] at q2; cases q2; exact .inr ⟨q4,q5⟩
       ·exact .inl ⟨i,m',by omega,q2,q3,q4,q5⟩
      ·rintro (⟨i,m',q1,q2⟩ | ⟨q1,q2⟩)
       ·exact ⟨i,m',by omega,q2⟩
       ·exact ⟨j,m,by omega,hm,c1,q1,q2⟩
     rw [key]
     by_cases e:y=tgtW m x
     ·rw [if_pos e,List.mem_append,List.mem_singleton,← e,p2]
      simp [or_assoc]
     ·rw [if_neg e,p2]
      have:¬ tgtW m x=y:=fun q=>e q.symm
      simp [this]
   ·rw [if_neg c1]
    refine ⟨_,rfl,fun y=>by have:=p1 y; omega,fun y a=> ?_⟩
    rw [p2]
    refine or_congr_right ⟨?_, ?_⟩
    ·rintro ⟨i,m',q1,q2⟩; exact ⟨i,m',by omega,q2⟩
    ·rintro ⟨i,m',q1,q2,q3,q4⟩
     by_cases e:i=j
     ·subst e; rw [hm] at q2; cases q2; exact absurd q3 c1
     ·exact ⟨i,m',by omega,q2,q3,q4⟩)
 refine ⟨b',by rw [h1]; rfl,fun y=>by have:=h2 y; omega,fun y a=> ?_⟩
 rw [h3]
 refine or_congr_right ⟨?_, ?_⟩
 ·rintro ⟨i,m,_,q2,q3⟩; exact ⟨m,o5 q2,q3⟩
 ·rintro ⟨m,q2,q3⟩
  obtain ⟨i,_,i1,hi⟩:=w8 q2
  exact ⟨i,m,i1,hi,q3⟩
abbrev St6:=Bkm × MpI × MpI × List En × Int × List Int
theorem first_ok{vs:List Int}{ms:List Mk}(start g:Int)(hg:Gr vs ms):
  ∃ s:St6,forR 0 (vs.length:Int) (J0 vs start g ms) ([],[],[],[],0,[])=some s∧BkOk vs ms s.1∧Iv vs ms g s.2.1 s.2.2.1 s.2.2.2.2.2 s.2.2.2.1 fun _=>False:=by
 have hvl:=hg.vl
 have hml:=hg.ml
 obtain ⟨s,h1,h2,h3,h4,h5,h6⟩:=G2 (body:=J0 vs start g ms) (n:=(vs.length:Int)) (s:=(([],[],[],[],0,[]):St6))
  (fun j s=>(∀ y a,a ∈ rowM s.1 y↔∃ x ∈ vs.take j.toNat,∃ m ∈ ms,canW m x∧tgtW m x=y∧a=⟨x,m.cost⟩)∧(∀ y,(rowM s.1 y).length≤j.toNat * 40)∧
   (∀ x,x ∈ vs.take j.toNat→mget s.2.1 x=some (if dec (M9 g x)=true then 0 else 1000000000))∧Qu s.2.2.1 s.2.2.2.2.2 s.2.2.2.1∧∀ x,qkey s.2.2.1 s.2.2.2.1 x=if dec (x ∈ vs.take j.toNat∧M9 g x)=true then some 0 else none) (by omega)
  ⟨fun y a=>by simp [rowM,mget],fun y=>by simp [rowM,mget],by simp,Qu.nil,fun x=>by simp [qkey,mget,dec]⟩ (fun j s j0 j1 hP=>by
   obtain ⟨b,c,M,E,t,L⟩:=s
   obtain ⟨p1,p2,p3,p4,p5⟩:=hP
   simp only at p1 p2 p3 p4 p5
   obtain ⟨x,hx,gx⟩:=m9 j0 j1
   have hj:(j+1).toNat=j.toNat+1:=by omega
   have htk:vs.take (j+1).toNat=vs.take j.toNat++[x]:=by rw [hj,List.take_add_one,gx]; rfl
   have hlen:L.length≤vs.length:=p4.le fun z hz=>by
    rw [p5] at hz
    by_cases e:z ∈ vs.take j.toNat∧M9 g z
    ·exact List.mem_of_mem_take e.1
    ·rw [if_neg (by rw [y6 e]; simp)] at hz; exact absurd rfl hz
   obtain ⟨b',b1,b2,b3⟩:=back_ok (x:=x) hml (B:=j.toNat * 40) p2 (by omega)
   have hback:∀ y a,a ∈ rowM b' y↔∃ x ∈ vs.take (j+1).toNat,∃ m ∈ ms,canW m x∧tgtW m x=y∧a=⟨x,m.cost⟩:=fun y a=>by
    rw [b3,p1,htk]
    simp only [List.mem_append,List.mem_singleton,or_and_right,exists_or,exists_eq_left]
   have hrow:∀ y,(rowM b' y).length≤(j+1).toNat * 40:=fun y=>by have:=b2 y; omega
   unfold J0
   simp only [hx,oB,L9,C0]
   by_cases cg:Go.bits .and .u32 x g=g
   ·rw [if_pos cg]
    have cg':M9 g x:=cg
    obtain ⟨M',L',E',k1,k2,k3⟩:=set_ok p4 (by omega) x 0 t
    simp only [k1,oB,b1]
    refine ⟨_,rfl,hback,hrow,fun z hz=> ?_,k2,fun z=> ?_⟩
    ·simp only [A0]
     by_cases e:z=x
     ·subst e; rw [if_pos rfl,if_pos (l8 cg')]
     ·rw [if_neg e,if_neg e]
      refine p3 z ?_
      rw [htk] at hz; simp [e] at hz; exact hz
    ·simp only [k3,p5,htk]
     by_cases e:z=x
     ·subst e; rw [if_pos rfl,if_pos (l8 ⟨by simp,cg'⟩)]
     ·rw [if_neg e]
      have:(z ∈ vs.take j.toNat++[x]∧M9 g z)↔(z ∈ vs.take j.toNat∧M9 g z):=by simp [e]
      rw [F1 this]
   ·rw [if_neg cg]
    have cg':¬ M9 g x:=cg
    simp only [oB,b1]
    refine ⟨_,rfl,hback,hrow,fun z hz=> ?_,p4,fun z=> ?_⟩
    ·simp only [A0]
     by_cases e:z=x
     ·subst e; rw [if_pos rfl,if_neg (by rw [y6 cg']; simp)]
     ·rw [if_neg e]
      refine p3 z ?_
      rw [htk] at hz; simp [e] at hz; exact hz
    ·simp only [p5,htk]
     have:(z ∈ vs.take j.toNat++[x]∧M9 g z)↔(z ∈ vs.take j.toNat∧M9 g z):=by
      constructor
      ·rintro ⟨q1,q2⟩
       rcases List.mem_append.1 q1 with q1 | q1
       ·exact ⟨q1,q2⟩
       ·simp at q1; subst q1; exact absurd q2 cg'
      ·rintro ⟨q1,q2⟩; exact ⟨List.mem_append_left _ q1,q2⟩
     rw [F1 this])
 have ht:vs.take (vs.length:Int).toNat=vs:=by rw [Int.toNat_natCast,List.take_length]
 rw [ht] at h2 h4 h6
 have hc:∀ x ∈ vs,¬ M9 g x→mget s.2.1 x=some 1000000000:=fun x hx hn=>by rw [h4 x hx,if_neg (by rw [y6 hn]; simp)]
 have hc0:∀ x ∈ vs,M9 g x→mget s.2.1 x=some 0:=fun x hx hn=>by rw [h4 x hx,if_pos (l8 hn)]
 refine ⟨s,h1,h2,⟨fun x hx=> ?_,hc0⟩,h5,fun x k hk=> ?_,fun x hx m hm hcan _ hq=> ?_⟩
 ·by_cases e:M9 g x
  ·exact ⟨0,hc0 x hx e,by omega,by omega,.inr (.goal hx e)⟩
  ·exact ⟨1000000000,hc x hx e,by omega,by omega,.inl rfl⟩
 ·rw [h6] at hk
  by_cases e:x ∈ vs∧M9 g x
  ·rw [if_pos (l8 e)] at hk; cases hk; exact ⟨e.1,hc0 x e.1 e.2⟩
  ·rw [if_neg (by rw [y6 e]; simp)] at hk; cases hk
 ·have hy:=hg.cl x hx m hm hcan
  rw [h6] at hq
  have hn:¬ M9 g (tgtW m x):=fun q=>by rw [if_pos (l8 ⟨hy,q⟩)] at hq; cases hq
  have h0:=(hg.co m hm).1
  unfold cst
  rw [hc _ hy hn,h4 x hx]
  simp only [Option.getD_some]
  split<;>omega
theorem costs_ok{vs:List Int}{ms:List Mk}(start g:Int)(hg:Gr vs ms):∃ c,P5 vs start g ms=some c∧Best vs ms g c:=by
 unfold P5
 obtain ⟨s,s1,s2,s3⟩:=first_ok start g hg
 obtain ⟨r,r1,r2⟩:=main_ok hg s2 s3 s.2.2.2.2.1
 refine ⟨r, ?_,r2⟩
 obtain ⟨a,b,c,d,e,f⟩:=s
 simp only [H5,oB,s1]
 rw [r1]; rfl
end Ab
end
section
namespace Ab
open Go
def Val(t:d7)(plan:List Int):Prop:=∀ x ∈ plan,(0:Int)≤x∧x<t.operators.length
def Q7(t:d7):List Int→Int
 | []=>0
 | op::r=>Q7 t r+(opAt t op).cost
def Few(t:d7):Prop:=∃ l:List (List Int),l.Nodup∧l.length≤2000∧∀ s,s ∈ l↔Rt t s
theorem as5{t:d7}(ht:j6 t):∀ {plan:List Int},Val t plan→0≤Q7 t plan
 | [],_=>by simp [Q7]
 | op::r,h=>by
  have h1:=as5 ht (plan:=r) fun x hx=>h x (List.mem_cons_of_mem _ hx)
  have h2:=h op (by simp)
  have h3:=(op_ok ht h2.1 h2.2).2.1
  simp only [Q7]; omega
section
variable {t:d7} {vs:List Int}
theorem pth_of(ht:j6 t)(hv:∀ x,x ∈ vs↔Rwd t x):∀ {plan s:List Int},Rt t s→Val t plan→Y1 t s plan→PthW vs (mks t) (wd t.goal) (wd s) (Q7 t plan)
 | [],s,hs,_,⟨e,h1,h2⟩=>by
  simp only [ends,Option.some.injEq] at h1; subst h1
  exact .goal ((hv _).2 ⟨s,hs,rfl⟩) ((sub_word (hs.setN ht) ht.goal ht.n1).2 h2)
 | op::r,s,hs,hp,⟨e,h1,h2⟩=>by
  have h3:=hp op (by simp)
  simp only [ends] at h1
  split at h1
  ·rename_i hc
   have hc:=k7.1 hc
   have ih:=pth_of ht hv (plan:=r) (hs.step h3.1 h3.2 hc) (fun x hx=>hp x (List.mem_cons_of_mem _ hx)) ⟨e,h1,h2⟩
   rw [← tgtW_eq ht (hs.setN ht) h3.1 h3.2] at ih
   exact .step ((hv _).2 ⟨s,hs,rfl⟩) (mks_of h3.1 h3.2) ((aq5 ht (hs.setN ht) h3.1 h3.2).2 hc) ih
  ·cases h1
theorem plan_of(ht:j6 t){x k:Int}(h:PthW vs (mks t) (wd t.goal) x k):∀ {s:List Int},Rt t s→x=wd s→∃ plan,Val t plan∧Y1 t s plan∧Q7 t plan=k:=by
 induction h with
 | goal hx hg=>
  intro s hs e; subst e
  exact ⟨[],by simp [Val],⟨s,rfl,(sub_word (hs.setN ht) ht.goal ht.n1).1 hg⟩,rfl⟩
 | step hx hm hc hp ih=>
  intro s hs e; subst e
  obtain ⟨op,h0,h1,rfl⟩:=mks_mem hm
  have hcan:=(aq5 ht (hs.setN ht) h0 h1).1 hc
  obtain ⟨plan,p1,⟨e,p2,p3⟩,p4⟩:=ih (hs.step h0 h1 hcan) (tgtW_eq ht (hs.setN ht) h0 h1)
  refine ⟨op::plan,fun y hy=> ?_,⟨e, ?_,p3⟩,by simp [Q7,p4,mkOf]⟩
  ·rcases List.mem_cons.1 hy with rfl | hy
   ·exact ⟨h0,h1⟩
   ·exact p1 y hy
  ·simp only [ends]; rw [if_pos (l8 hcan)]; exact p2
end
/-! ### A way that is not long -/
inductive Hop(vs:List Int)(ms:List Mk)(g:Int):Nat→Int→Prop
 | goal {x:Int} (h:x ∈ vs) (hg:M9 g x):Hop vs ms g 0 x
 | step {x:Int} {n:Nat} {m:Mk} (h:x ∈ vs) (hm:m ∈ ms) (hc:canW m x) (hp:Hop vs ms g n (tgtW m x)):Hop vs ms g (n+1) x
section
variable {vs:List Int} {ms:List Mk} {g:Int}
theorem Hop.of{x k:Int}(h:PthW vs ms g x k):∃ n,Hop vs ms g n x:=by
 induction h with
 | goal hx hg=>exact ⟨0,.goal hx hg⟩
 | step hx hm hc _ ih=>obtain ⟨n,hn⟩:=ih; exact ⟨n+1,.step hx hm hc hn⟩
theorem Hop.mem{n:Nat}{x:Int}(h:Hop vs ms g n x):x ∈ vs:=by cases h<;>assumption
theorem Hop.cost(hg:Gr vs ms){n:Nat}{x:Int}(h:Hop vs ms g n x):∃ k,PthW vs ms g x k∧k≤100 * n:=by
 induction h with
 | goal hx hgx=>exact ⟨0,.goal hx hgx,by omega⟩
 | step hx hm hc _ ih=>
  obtain ⟨k,k1,k2⟩:=ih
  have:=hg.co _ hm
  exact ⟨_,.step hx hm hc k1,by push_cast; omega⟩
def MHop(vs:List Int)(ms:List Mk)(g:Int)(n:Nat)(x:Int):Prop:=Hop vs ms g n x∧∀ m,m<n→¬ Hop vs ms g m x
theorem MHop.of:∀ {n:Nat} {x:Int},Hop vs ms g n x→∃ m,m≤n∧MHop vs ms g m x:=by
 intro n
 induction n using Nat.strongRecOn with
 | _ n ih=>
  intro x h
  by_cases c:∃ m,m<n∧Hop vs ms g m x
  ·obtain ⟨m,m1,m2⟩:=c
   obtain ⟨q,q1,q2⟩:=ih m m1 m2
   exact ⟨q,by omega,q2⟩
  ·exact ⟨n,Nat.le_refl _,h,fun m hm hh=>c ⟨m,hm,hh⟩⟩
theorem MHop.chain:∀ {n:Nat} {x:Int},MHop vs ms g n x→∃ l:List Int,l.length=n+1∧l.Nodup∧∀ y ∈ l,y ∈ vs∧∃ m,m≤n∧MHop vs ms g m y
 | 0,x,h=>⟨[x],rfl,by simp,fun y hy=>by simp at hy; subst hy; exact ⟨h.1.mem,0,Nat.le_refl _,h⟩⟩
 | n+1,x,h=>by
  cases h.1 with
  | @step _ _ m hx hm hc hp=>
   have h':MHop vs ms g n (tgtW m x):=⟨hp,fun q hq hh=>h.2 (q+1) (by omega) (.step hx hm hc hh)⟩
   obtain ⟨l,l1,l2,l3⟩:=MHop.chain h'
   refine ⟨x::l,by simp [l1],List.nodup_cons.2 ⟨fun hxl=> ?_,l2⟩,fun y hy=> ?_⟩
   ·obtain ⟨_,q,q1,q2⟩:=l3 x hxl
    exact h.2 q (by omega) q2.1
   ·rcases List.mem_cons.1 hy with rfl | hy
    ·exact ⟨hx,n+1,Nat.le_refl _,h⟩
    ·obtain ⟨y1,q,q1,q2⟩:=l3 y hy
     exact ⟨y1,q,by omega,q2⟩
theorem pth_small(hg:Gr vs ms){x k:Int}(h:PthW vs ms g x k):∃ k',PthW vs ms g x k'∧k'≤199900:=by
 obtain ⟨n,hn⟩:=Hop.of h
 obtain ⟨m,_,hm⟩:=MHop.of hn
 obtain ⟨l,l1,l2,l3⟩:=hm.chain
 have:=ag8 l2 (S:=vs) fun y hy=>(l3 y hy).1
 have hv:=hg.vl
 obtain ⟨k',k1,k2⟩:=hm.1.cost hg
 exact ⟨k',k1,by omega⟩
end
theorem words_of{t:d7}(ht:j6 t){vs:List Int}(hl:vs.length≤2000)(hv:∀ x,x ∈ vs↔Rwd t x):Gr vs (mks t):=⟨fun x hx m hm hc=>(hv _).2 (((hv x).1 hx).next ht hm hc),fun m hm=>by
 obtain ⟨op,h0,h1,rfl⟩:=mks_mem hm
 exact (op_ok ht h0 h1).2,by simp [mks]; exact ht.ops,hl⟩
theorem few_of{t:d7}(ht:j6 t){vs:List Int}(hn:vs.Nodup)(hl:vs.length≤2000)(hv:∀ x,x ∈ vs↔Rwd t x):Few t:=by
 obtain ⟨ss,h1,h2⟩:=states_of (t:=t) (l:=vs) fun x hx=>(hv x).1 hx
 refine ⟨ss,ak4 (f:=wd) (by rw [h1]; exact hn), ?_,fun s=>⟨h2 s,fun hs=> ?_⟩⟩
 ·have:=congrArg List.length h1
  simp only [List.length_map] at this; omega
 ·have:wd s ∈ ss.map wd:=by rw [h1]; exact (hv _).2 ⟨s,hs,rfl⟩
  obtain ⟨s',s1,s2⟩:=List.mem_map.1 this
  rw [wd_inj ht (hs.setN ht) ((h2 s' s1).setN ht) s2.symm]; exact s1
theorem checked_spec(t:d7):(¬ j6 t∧∃ f,s6 t=some f∧f.code ≠ 0∧E7 t=some (.inl (f.code,f.index)))∨(j6 t∧Many t∧E7 t=some (.inl (10, -7)))∨
  (j6 t∧Few t∧∃ vs:List Int,vs.Nodup∧vs.length≤2000∧(∀ x,x ∈ vs↔Rwd t x)∧E7 t=some (.inr (wd t.init,wd t.goal,mks t,vs))):=by
 obtain ⟨f,h1,_,h3⟩:=W7 t
 unfold E7
 rw [h1]
 simp only [oB]
 rcases h3 with ⟨rfl,ht⟩ | ⟨hc,hn⟩
 ·rw [if_neg (by simp),of_eq ht]
  obtain ⟨l,b,a1,a2,a3⟩:=all_spec ht (wd t.goal)
  simp only [oB,a1]
  cases b with
  | false=>exact .inr (.inl ⟨ht,a2 rfl,rfl⟩)
  | true=>
   obtain ⟨q1,q2,q3⟩:=a3 rfl
   obtain ⟨vs,v1,v2⟩:=sortW (l:=l) (by omega) (fun x hx=>by
    obtain ⟨s,s1,rfl⟩:=(q3 x).1 hx
    exact wd_u32 ht (s1.setN ht))
   have hv:∀ x,x ∈ vs↔Rwd t x:=fun x=>v2.mem_iff.trans (q3 x)
   have hvn:vs.Nodup:=v2.nodup_iff.2 q1
   have hvl:vs.length≤2000:=by rw [v2.length_eq]; exact q2
   exact .inr (.inr ⟨ht,few_of ht hvn hvl hv,vs,hvn,hvl,hv,by simp [v1]⟩)
 ·rw [if_pos (by simp [hc])]
  exact .inl ⟨hn,f,rfl,hc,rfl⟩
inductive OptR(t:d7):Int × g8→Prop
 | bad {f:g8} (h:¬ j6 t) (hf:s6 t=some f) (hc:f.code ≠ 0):OptR t (0,f)
 | many (h:j6 t) (hm:Many t):OptR t (0,⟨10, -7⟩)
 | none (h:j6 t) (hf:Few t) (hn:∀ plan,Val t plan→¬ Y1 t t.init plan):OptR t (1000000000,⟨0,0⟩)
 | some {k:Int} {plan:List Int} (h:j6 t) (hf:Few t) (h0:0≤k) (h1:k≤199900) (hv:Val t plan) (hw:Y1 t t.init plan) (hk:Q7 t plan=k) (hl:∀ p,Val t p→Y1 t t.init p→k≤Q7 t p):OptR t (k,⟨0,0⟩)
theorem optimal_spec(t:d7):∃ r,R4 t=some r∧OptR t r:=by
 unfold R4
 rcases checked_spec t with ⟨h,f,h1,h2,h3⟩ | ⟨h,h1,h2⟩ | ⟨ht,h1,vs,v1,v2,v3,h2⟩
 ·rw [h3]
  simp only [oB]
  rw [if_pos (by simp [h2])]
  exact ⟨_,rfl,.bad h h1 h2⟩
 ·rw [h2]
  simp only [oB]
  rw [if_pos (by simp)]
  exact ⟨_,rfl,.many h h1⟩
 ·rw [h2]
  simp only [oB]
  rw [if_neg (by simp)]
  have hg:=words_of ht v2 v3
  obtain ⟨c,c1,c2⟩:=costs_ok (wd t.init) (wd t.goal) hg
  simp only [c1,oB,x8]
  have hi:wd t.init ∈ vs:=(v3 _).2 ⟨_,.init,rfl⟩
  obtain ⟨k,k1,k2,k3,k4⟩:=c2.cd.dom _ hi
  have hck:cst c (wd t.init)=k:=by unfold cst; rw [k1]; rfl
  refine ⟨_,rfl, ?_⟩
  rw [k1]
  simp only [Option.getD_some]
  by_cases e:∃ k',PthW vs (mks t) (wd t.goal) (wd t.init) k'
  ·obtain ⟨k0,e⟩:=e
   obtain ⟨k',e1,e2⟩:=pth_small hg e
   have hle:=c2.least _ _ e1
   rcases k4 with k4 | k4
   ·omega
   ·obtain ⟨plan,p1,p2,p3⟩:=plan_of ht k4 .init rfl
    refine .some ht h1 k2 (by omega) p1 p2 p3 fun p q1 q2=> ?_
    have:=c2.least _ _ (pth_of ht v3 .init q1 q2)
    omega
  ·rcases k4 with rfl | k4
   ·exact .none ht h1 fun p q1 q2=>e ⟨_,pth_of ht v3 .init q1 q2⟩
   ·exact absurd ⟨_,k4⟩ e
end Ab
end
section
namespace Ab
open Go
def reqT(t:d7)(op:Int):d7:=⟨t.facts+1,t.init,t.goal++[t.facts],t.operators.set op.toNat ⟨(opAt t op).pre,(opAt t op).add++[t.facts],(opAt t op).del,(opAt t op).cost⟩⟩
def forT(t:d7)(op:Int):d7:=⟨t.facts,t.init,t.goal,t.operators.take op.toNat++t.operators.drop (op.toNat+1)⟩
theorem ag0{l:List Int}(h:l.length≤1000000):m7 l=some l:=by
 unfold m7 app
 rw [if_pos (by simp; omega)]; rfl
theorem SetN.len24{l:List Int}{n:Int}(h:SetN l n)(hn:n≤24):l.length≤24:=by have:=h.len; omega
theorem cclone_body{t:d7}(ht:j6 t){j:Int}(j0:0≤j)(j1:j<t.operators.length):G9 t j (t.operators.take j.toNat)=some (t.operators.take (j+1).toNat):=by
 have ho:=op_ok ht j0 j1
 have hx:=ix_op j0 j1
 have ga:=(o6 hx).2.2
 have hl:=ht.ops
 have htk:t.operators.take (j+1).toNat=t.operators.take j.toNat++[opAt t j]:=by rw [show (j+1).toNat=j.toNat+1 by omega,List.take_add_one,ga]; rfl
 have h1:=ho.1.1.len24 ht.n1
 have h2:=ho.1.2.1.len24 ht.n1
 have h3:=ho.1.2.2.1.len24 ht.n1
 unfold G9
 simp only [hx,oB,ag0 (show (opAt t j).pre.length≤1000000 by omega),ag0 (show (opAt t j).add.length≤1000000 by omega),ag0 (show (opAt t j).del.length≤1000000 by omega)]
 rw [app,if_pos (by simp; omega),htk]; rfl
theorem cclone_eq{t:d7}(ht:j6 t):N5 t=some (t.init,t.goal,t.operators):=by
 unfold N5
 have h1:=ht.init.len24 ht.n1
 have h2:=ht.goal.len24 ht.n1
 simp only [ag0 (show t.init.length≤1000000 by omega),ag0 (show t.goal.length≤1000000 by omega),oB]
 obtain ⟨r,r1,rfl⟩:=G2 (body:=G9 t) (n:=(t.operators.length:Int)) (s:=[]) (fun j c=>c=t.operators.take j.toNat) (by omega) (by simp) (fun j c j0 j1 hP=>⟨_,by rw [hP]; exact cclone_body ht j0 j1,rfl⟩)
 rw [r1,Int.toNat_natCast,List.take_length]; rfl
end Ab
end
section
namespace Ab
open Go
def up(n:Int)(s:List Int)(b:Bool):List Int:=s++if b=true then [n] else []
theorem ad6{n x:Int}{s:List Int}{b:Bool}:x ∈ up n s b↔x ∈ s∨b=true∧x=n:=by
 unfold up; cases b<;>simp
theorem setN_up{n:Int}{s:List Int}{b:Bool}(h0:0≤n)(h:SetN s n):SetN (up n s b) (n+1):=by
 refine ⟨?_,fun x hx=> ?_⟩
 ·unfold up
  refine List.pairwise_append.2 ⟨h.1,by cases b<;>simp,fun a ha c hc=> ?_⟩
  have:=h.2 a ha
  cases b
  ·simp at hc
  ·simp at hc; omega
 ·rcases ad6.1 hx with hx | ⟨_,rfl⟩
  ·have:=h.2 x hx; omega
  ·omega
section
variable {t:d7} {op:Int}
theorem req_len:(reqT t op).operators.length=t.operators.length:=by simp [reqT]
theorem aj9(h0:0≤op)(h1:op<t.operators.length){q:Int}(q0:0≤q):opAt (reqT t op) q=if q=op then ⟨(opAt t op).pre,(opAt t op).add++[t.facts],(opAt t op).del,(opAt t op).cost⟩ else opAt t q:=by
 show ((t.operators.set op.toNat _)[q.toNat]?).getD noOp=_
 rw [List.getElem?_set]
 by_cases e:q=op
 ·subst e; rw [if_pos rfl,if_pos rfl,if_pos (by omega)]; rfl
 ·rw [if_neg e,if_neg (by omega)]; rfl
theorem pre_req(h0:0≤op)(h1:op<t.operators.length){q:Int}(q0:0≤q):(opAt (reqT t op) q).pre=(opAt t q).pre:=by
 rw [aj9 h0 h1 q0]; split
 ·rename_i e; rw [e]
 ·rfl
theorem del_req(h0:0≤op)(h1:op<t.operators.length){q:Int}(q0:0≤q):(opAt (reqT t op) q).del=(opAt t q).del:=by
 rw [aj9 h0 h1 q0]; split
 ·rename_i e; rw [e]
 ·rfl
theorem cost_req(h0:0≤op)(h1:op<t.operators.length){q:Int}(q0:0≤q):(opAt (reqT t op) q).cost=(opAt t q).cost:=by
 rw [aj9 h0 h1 q0]; split
 ·rename_i e; rw [e]
 ·rfl
theorem add_req(h0:0≤op)(h1:op<t.operators.length){q x:Int}(q0:0≤q):x ∈ (opAt (reqT t op) q).add↔x ∈ (opAt t q).add∨q=op∧x=t.facts:=by
 rw [aj9 h0 h1 q0]; split
 ·rename_i e; subst e; simp
 ·rename_i e; simp [e]
theorem can_req(ht:j6 t)(h0:0≤op)(h1:op<t.operators.length){q:Int}(q0:0≤q)(q1:q<t.operators.length){s:List Int}{b:Bool}:can (reqT t op) (up t.facts s b) q↔can t s q:=by
 unfold can
 rw [pre_req h0 h1 q0]
 have hp:=(op_ok ht q0 q1).1.1
 refine ⟨fun h x hx=> ?_,fun h x hx=>ad6.2 (.inl (h x hx))⟩
 rcases ad6.1 (h x hx) with k | ⟨_,rfl⟩
 ·exact k
 ·have:=hp.2 _ hx; omega
theorem aft_req(ht:j6 t)(h0:0≤op)(h1:op<t.operators.length){q:Int}(q0:0≤q)(q1:q<t.operators.length){s:List Int}{b:Bool}(hs:SetN s t.facts):aft (reqT t op) (up t.facts s b) q=up t.facts (aft t s q) (b || decide (q=op)):=by
 obtain ⟨k1,k2,k3,k4⟩:=(op_ok ht q0 q1).1
 refine ((setN_up ht.n0 (aa8 t s q)).eq_of fun x x0 x1=> ?_).symm
 rw [add_req h0 h1 q0,del_req h0 h1 q0,ad6,ad6]
 unfold aft
 rw [N2]
 have d1:t.facts ∉ (opAt t q).del:=fun h=>by have:=k3.2 _ h; omega
 have d2:t.facts ∉ (opAt t q).add:=fun h=>by have:=k2.2 _ h; omega
 have d3:t.facts ∉ s:=fun h=>by have:=hs.2 _ h; omega
 by_cases e:x=t.facts
 ·subst e; simp [d1,d2,d3,or_comm]
 ·have:x<t.facts:=by change x<t.facts+1 at x1; omega
  simp [e,x0,this]
theorem ends_req(ht:j6 t)(h0:0≤op)(h1:op<t.operators.length):∀ {p s:List Int} {b:Bool},SetN s t.facts→Val t p→ends (reqT t op) (up t.facts s b) p=(ends t s p).map fun e=>up t.facts e (b || decide (op ∈ p))
 | [],s,b,_,_=>by simp [ends]
 | q::p,s,b,hs,hv=>by
  have hq:=hv q (by simp)
  simp only [ends]
  rw [F1 (can_req ht h0 h1 hq.1 hq.2)]
  split
  ·rw [aft_req ht h0 h1 hq.1 hq.2 hs,ends_req ht h0 h1 (aa8 t s q) (fun x hx=>hv x (List.mem_cons_of_mem _ hx))]
   have:(b || decide (q=op) || decide (op ∈ p))=(b || decide (op ∈ q::p)):=by
    rw [Bool.or_assoc]; congr 1
    rw [← Bool.decide_or]; apply decide_eq_decide.2
    rw [List.mem_cons,eq_comm]
   rw [this]
  ·rfl
theorem works_req(ht:j6 t)(h0:0≤op)(h1:op<t.operators.length){p s:List Int}{b:Bool}(hs:SetN s t.facts)(hv:Val t p):Y1 (reqT t op) (up t.facts s b) p↔Y1 t s p∧(b=true∨op ∈ p):=by
 unfold Y1
 rw [ends_req ht h0 h1 hs hv]
 have hg:∀ x ∈ t.goal,x<t.facts:=fun x hx=>(ht.goal.2 x hx).2
 constructor
 ·rintro ⟨e,e1,e2⟩
  cases e':ends t s p with
  | none=>rw [e'] at e1; cases e1
  | some u=>
   rw [e'] at e1
   simp only [Option.map_some,Option.some.injEq] at e1
   subst e1
   have hu:=ends_setN hs e'
   refine ⟨⟨u,rfl,fun x hx=> ?_⟩, ?_⟩
   ·rcases ad6.1 (e2 x (List.mem_append_left _ hx)) with k | ⟨_,rfl⟩
    ·exact k
    ·have:=hg _ hx; omega
   ·rcases ad6.1 (e2 t.facts (List.mem_append_right _ (by simp))) with k | ⟨k,_⟩
    ·have:=hu.2 _ k; omega
    ·simpa using k
 ·rintro ⟨⟨u,u1,u2⟩,k⟩
  rw [u1]
  refine ⟨_,rfl,fun x hx=> ?_⟩
  rcases List.mem_append.1 hx with hx | hx
  ·exact ad6.2 (.inl (u2 x hx))
  ·exact ad6.2 (.inr ⟨by simpa using k,by simpa using hx⟩)
theorem val_req{p:List Int}:Val (reqT t op) p↔Val t p:=by unfold Val; rw [req_len]
theorem pcost_req(h0:0≤op)(h1:op<t.operators.length):∀ {p:List Int},Val t p→Q7 (reqT t op) p=Q7 t p
 | [],_=>rfl
 | q::p,hv=>by
  simp only [Q7]
  rw [cost_req h0 h1 (hv q (by simp)).1,pcost_req h0 h1 fun x hx=>hv x (List.mem_cons_of_mem _ hx)]
theorem aq7(ht:j6 t)(h0:0≤op)(h1:op<t.operators.length){p:List Int}(hv:Val t p):Y1 (reqT t op) (reqT t op).init p↔Y1 t t.init p∧op ∈ p:=by
 have:=works_req ht h0 h1 (b:=false) ht.init hv
 have e:up t.facts t.init false=(reqT t op).init:=by simp [up,reqT]
 rw [e] at this; rw [this]; simp
theorem SetN.weak{l:List Int}{n m:Int}(h:SetN l n)(hm:n≤m):SetN l m:=⟨h.1,fun x hx=>by have:=h.2 x hx; omega⟩
theorem req_ok(ht:j6 t)(h0:0≤op)(h1:op<t.operators.length)(hf:t.facts<24):j6 (reqT t op) where
 n0:=by have:=ht.n0; show 0≤t.facts+1; omega
 n1:=by show t.facts+1≤24; omega
 init:=ht.init.weak (by show t.facts≤t.facts+1; omega)
 goal:=by
  have:=setN_up (b:=true) ht.n0 ht.goal
  simpa [up,reqT] using this
 ops:=by rw [req_len]; exact ht.ops
 op:=fun o ho=>by
  obtain ⟨q,q0,q1,q2⟩:=w8 ho
  rw [req_len] at q1
  rw [ix_op q0 (by rw [req_len]; exact q1)] at q2
  cases q2
  obtain ⟨⟨k1,k2,k3,k4⟩,k5⟩:=op_ok ht q0 q1
  have hle:t.facts≤(reqT t op).facts:=by show t.facts≤t.facts+1; omega
  refine ⟨⟨by rw [pre_req h0 h1 q0]; exact k1.weak hle, ?_,by rw [del_req h0 h1 q0]; exact k3.weak hle,fun x hx=> ?_⟩,by unfold W6; rw [cost_req h0 h1 q0]; exact k5⟩
  ·rw [aj9 h0 h1 q0]
   split
   ·rename_i e; subst e
    have:=setN_up (b:=true) ht.n0 k2
    simpa [up,reqT] using this
   ·exact k2.weak hle
  ·rw [del_req h0 h1 q0]
   rcases (add_req h0 h1 q0).1 hx with hx | ⟨_,rfl⟩
   ·exact k4 x hx
   ·exact fun h=>by have:=k3.2 _ h; omega
theorem rt_req(ht:j6 t)(h0:0≤op)(h1:op<t.operators.length){s:List Int}(h:Rt (reqT t op) s):∃ u b,Rt t u∧s=up t.facts u b:=by
 induction h with
 | init=>exact ⟨t.init,false,.init,by simp [up,reqT]⟩
 | @step s q h q0 q1 hc ih=>
  obtain ⟨u,b,hu,rfl⟩:=ih
  rw [req_len] at q1
  exact ⟨_,_,hu.step q0 q1 ((can_req ht h0 h1 q0 q1).1 hc),aft_req ht h0 h1 q0 q1 (hu.setN ht)⟩
theorem many_req(ht:j6 t)(h0:0≤op)(h1:op<t.operators.length){l:List (List Int)}(hl:l.length≤1000)(hm:∀ s,Rt t s→s ∈ l):¬ Many (reqT t op):=by
 rintro ⟨m,m1,m2,m3⟩
 have:=ag8 m1 (S:=l.map (up t.facts · false)++l.map (up t.facts · true)) fun s hs=>by
  obtain ⟨u,b,hu,rfl⟩:=rt_req ht h0 h1 (m3 s hs)
  cases b
  ·exact List.mem_append_left _ (List.mem_map.2 ⟨u,hm u hu,rfl⟩)
  ·exact List.mem_append_right _ (List.mem_map.2 ⟨u,hm u hu,rfl⟩)
 simp at this
 omega
/-! ### Without the operator -/
end
end Ab
end
section
namespace Ab
open Go
section
variable {t:d7} {op:Int}
end
end Ab
end
section
namespace Ab
open Go
section
variable {t:d7} {op:Int}
/-! ### With and Without -/
theorem contr_eq(t:d7)(op:Int):∃ f,G3 t op=some f∧E5 t op=some f∧((f=⟨0,0⟩∧j6 t∧0≤op∧op<t.operators.length)∨(f.code ≠ 0∧¬ (j6 t∧0≤op∧op<t.operators.length))):=by
 obtain ⟨f,h1,h2,h3⟩:=W7 t
 unfold G3 E5
 rw [h1]
 simp only [oB]
 rcases h3 with ⟨rfl,ht⟩ | ⟨hc,hn⟩
 ·by_cases c:0≤op∧op<t.operators.length
  ·refine ⟨⟨0,0⟩, ?_, ?_,.inl ⟨rfl,ht,c⟩⟩
   ·rw [if_neg (by simp),if_neg (by simp; omega)]
   ·rw [if_neg (by simp),if_neg (by simp; omega)]
  ·refine ⟨⟨3, -6⟩, ?_, ?_,.inr ⟨by simp,fun h=>c h.2⟩⟩
   ·rw [if_neg (by simp),if_pos (by simp; omega)]
   ·rw [if_neg (by simp),if_pos (by simp; omega)]
 ·refine ⟨f, ?_, ?_,.inr ⟨hc,fun h=>hn h.1⟩⟩
  ·rw [if_pos (by simp [hc])]
  ·rw [if_pos (by simp [hc])]
theorem require_eq(ht:j6 t)(h0:0≤op)(h1:op<t.operators.length)(hf:t.facts ≠ 24):H4 t op=some (reqT t op,⟨0,0⟩):=by
 obtain ⟨f,_,k2,k4⟩:=contr_eq t op
 rcases k4 with ⟨rfl,_⟩ | ⟨_,k4⟩
 ·have n0:=ht.n0; have n1:=ht.n1
  have l1:=ht.goal.len24 ht.n1
  have l2:=(op_ok ht h0 h1).1.2.1.len24 ht.n1
  unfold H4
  rw [k2]
  simp only [oB]
  have a1:app 8 t.goal [t.facts]=some (t.goal++[t.facts]):=by unfold app; rw [if_pos (by simp; omega)]
  have a2:app 8 (opAt t op).add [t.facts]=some ((opAt t op).add++[t.facts]):=by unfold app; rw [if_pos (by simp; omega)]
  rw [if_neg (by simp),if_neg hf,cclone_eq ht]
  simp only [oB,ix_op h0 h1,a1,a2,x5 (show -9223372036854775808≤t.facts+1 by omega) (by omega)]
  rfl
 ·exact absurd ⟨ht,h0,h1⟩ k4
inductive WithR(t:d7)(op:Int):Int × g8→Prop
 | bad {f:g8} (h:¬ (j6 t∧0≤op∧op<t.operators.length)) (hc:f.code ≠ 0) (hf:G3 t op=some f):WithR t op (0,f)
 | big (h:j6 t) (h0:0≤op) (h1:op<t.operators.length) (hf:t.facts=24):WithR t op (0,⟨10, -8⟩)
 | opt {r:Int × g8} (h:j6 t) (h0:0≤op) (h1:op<t.operators.length) (hf:t.facts<24) (hr:OptR (reqT t op) r):WithR t op r
inductive OutR(t:d7)(op:Int):Int × g8→Prop
 | bad {f:g8} (h:¬ (j6 t∧0≤op∧op<t.operators.length)) (hc:f.code ≠ 0) (hf:G3 t op=some f):OutR t op (0,f)
 | opt {r:Int × g8} (h:j6 t) (h0:0≤op) (h1:op<t.operators.length) (hr:OptR (forT t op) r):OutR t op r
theorem with_spec(t:d7)(op:Int):∃ r,M5 t op=some r∧WithR t op r:=by
 obtain ⟨f,k1,k2,k4⟩:=contr_eq t op
 unfold M5
 rw [k1]
 simp only [oB]
 rcases k4 with ⟨rfl,ht,h0,h1⟩ | ⟨hc,hn⟩
 ·rw [if_neg (by simp)]
  by_cases e:t.facts=24
  ·unfold H4
   rw [k2]
   simp only [oB]
   rw [if_neg (by simp),if_pos e]
   simp only [oB]
   rw [if_pos (by simp)]
   exact ⟨_,rfl,.big ht h0 h1 e⟩
  ·rw [require_eq ht h0 h1 e]
   obtain ⟨r,r1,r2⟩:=optimal_spec (reqT t op)
   simp only [oB]
   rw [if_neg (by simp),r1]
   exact ⟨r,rfl,.opt ht h0 h1 (by have:=ht.n1; omega) r2⟩
 ·rw [if_pos (by simp [hc])]
  exact ⟨_,rfl,.bad hn hc k1⟩
end
/-! ### The fixed task -/
end Ab
end
section
namespace Ab
open Go
def h11O:f9:=⟨[],[0],[],2⟩
def h11T:d7:=⟨1,[],[0],[h11O]⟩
theorem W9:j6 h11T where
 n0:=by decide
 n1:=by decide
 init:=O8 _
 goal:=setN1 0 (by decide) (by decide)
 ops:=by decide
 op o ho:=by
  simp only [h11T,List.mem_singleton] at ho
  subst ho
  exact ⟨⟨O8 _,setN1 0 (by decide) (by decide),O8 _,by simp [h11O]⟩,by decide,by decide⟩
theorem h11_at:opAt h11T 0=h11O:=rfl
theorem h11_aft0:aft h11T [] 0=[0]:=by
 refine ((setN1 0 (by decide) (by decide):SetN [0] 1).eq_of (p:=fun x=>x ∈ (opAt h11T 0).add∨x ∈ []∧x ∉ (opAt h11T 0).del) fun x h0 h1=> ?_).symm
 simp [h11_at,h11O]
theorem h11_aft1:aft h11T [0] 0=[0]:=by
 refine ((setN1 0 (by decide) (by decide):SetN [0] 1).eq_of (p:=fun x=>x ∈ (opAt h11T 0).add∨x ∈ [0]∧x ∉ (opAt h11T 0).del) fun x h0 h1=> ?_).symm
 simp [h11_at,h11O]
theorem h11_rt{s:List Int}(h:Rt h11T s):s ∈ [([]:List Int),[0]]:=by
 induction h with
 | init=>simp [h11T]
 | @step s op _ h0 h1 _ ih=>
  have:op=0:=by simp only [h11T,List.length_singleton] at h1; omega
  subst this
  simp only [List.mem_cons,List.not_mem_nil,or_false] at ih ⊢
  rcases ih with rfl | rfl
  ·exact .inr h11_aft0
  ·exact .inr h11_aft1
theorem h11_worlds:M3 h11T []=some [[]]:=by
 have e1:chk0 (([]:List Int).length:Int)=some ():=rfl
 have e2:shlW .i64 1 (([]:List Int).length:Int)=1:=by decide
 have e4:forR 0 (([]:List Int).length:Int) (Y7 [] 0) []=some []:=rfl
 have e5:C3 h11T.init [] []=some []:=by
  rw [show h11T.init=[] from rfl,update_eq (n:=1) (by decide) .nil (by simp) (O8 _) (O8 _)]
  exact congrArg some ((O8 1).eq_of fun x _ _=>by simp [h11T]).symm
 have e3:forR 0 1 (K4 h11T []) []=some [[]]:=by
  show forN (K4 h11T []) 1 0 []=_
  simp only [forN]
  unfold K4
  rw [e4]
  simp only [oB,e5]
  rfl
 unfold M3
 rw [e1,e2]
 simp only [oB]
 rw [if_pos (by decide),e3]
 simp only [oB]
 obtain ⟨r,r1,r2,r3,_⟩:=normal_eq (l:=[([]:List Int)]) (by simp)
 rw [r1,Ord.ext r2 (by simp) r3]
 rfl
def h11E0:d9:=⟨[[]], -1,0⟩
def h11E1:d9:=⟨[[0]],0,0⟩
theorem h11_breadth:C8 [[]] h11T.facts h11T.init h11T.goal h11T.operators h11T.facts h11T.init h11T.goal h11T.operators=some ([0],true,true):=by
 have hn:=W9.init
 have h0s:SetN [0] h11T.facts:=setN1 0 (by decide) (by decide)
 have k0:y4 [[]]=some (keyK [[]]):=kone_eq (fun x hx=>by cases hx) (by simp)
 have k1:y4 [[0]]=some (keyK [[0]]):=kone_eq (ag7 W9 h0s) (by simp)
 have ne:keyK [[0]] ≠ keyK [[]]:=fun e=>by
  have:=kone_inj W9 h0s (O8 _) e
  cases this
 have g0:I7 [[]] (⟨h11T.facts,h11T.init,h11T.goal,h11T.operators⟩:d7)=some false:=by
  unfold I7
  rw [aq1 .nil W9.goal.1 (by simp)]
  simp only [oB]
  rw [y6 (by simp [h11T])]
 have g1:I7 [[0]] (⟨h11T.facts,h11T.init,h11T.goal,h11T.operators⟩:d7)=some true:=by
  unfold I7
  rw [aq1 h0s.1 W9.goal.1 (by simp)]
  simp only [oB]
  rw [l8 (by simp [h11T])]
 have a0:H1 (⟨h11T.facts,h11T.init,h11T.goal,h11T.operators⟩:d7) [[]] 0=some [[0]]:=by
  have:=after_one W9 (s:=[]) (O8 _) (op:=0) (by decide) (by decide)
  rw [h11_aft0] at this
  exact this
 have m0:¬ 0<Option.getD (mget (mset ([]:List (ByteArray × Int)) (keyK [[]]) 1) (keyK [[0]])) 0:=by
  rw [A0,if_neg ne]
  simp [mget]
 have ix0:ix h11T.operators 0=some h11O:=rfl
 have s0:K0 [[]] h11O.pre=some true:=by
  rw [show h11O.pre=[] from rfl,aq1 .nil .nil (by simp),l8 (by simp)]
 have r4:D8 h11T.facts h11T.init h11T.goal h11T.operators [h11E0] (mset ([]:List (ByteArray × Int)) (keyK [[]]) 1) 0 h11E0=some (.inl (mset (mset ([]:List (ByteArray × Int)) (keyK [[]]) 1) (keyK [[0]]) 1,[h11E0,h11E1])):=by
  have q:rngX 0 (h11T.operators.length:Int) (w3 h11T.facts h11T.init h11T.goal h11T.operators 0 h11E0) (mset ([]:List (ByteArray × Int)) (keyK [[]]) 1,[h11E0])=some (.inl (mset (mset ([]:List (ByteArray × Int)) (keyK [[]]) 1) (keyK [[0]]) 1,[h11E0,h11E1])):=by
   show rngN (w3 h11T.facts h11T.init h11T.goal h11T.operators 0 h11E0) 1 0 (mset ([]:List (ByteArray × Int)) (keyK [[]]) 1,[h11E0])=_
   have b:w3 h11T.facts h11T.init h11T.goal h11T.operators 0 h11E0 0 (mset ([]:List (ByteArray × Int)) (keyK [[]]) 1,[h11E0])=some (.inl (mset (mset ([]:List (ByteArray × Int)) (keyK [[]]) 1) (keyK [[0]]) 1,[h11E0,h11E1])):=by
    unfold w3
    have en:h11E0.node=[[]]:=rfl
    dsimp only
    simp only [ix0,oB,en,s0,if_true,a0,k1]
    rw [if_neg m0,if_neg (by simp)]
    rfl
   simp only [rngN,b]
  unfold D8
  rw [q]
  rfl
 have st0:v7 h11T.facts h11T.init h11T.goal h11T.operators h11T.facts h11T.init h11T.goal h11T.operators ([h11E0],mset ([]:List (ByteArray × Int)) (keyK [[]]) 1,0)=some (.inl ([h11E0,h11E1],mset (mset ([]:List (ByteArray × Int)) (keyK [[]]) 1) (keyK [[0]]) 1,1)):=by
  unfold v7
  dsimp only
  have e0:ix [h11E0] 0=some h11E0:=rfl
  have en:h11E0.node=[[]]:=rfl
  rw [if_pos (by simp),e0]
  simp only [oB,en,g0,H3,G1]
  rw [if_neg (by simp),r4]
  simp only [oB]
  rw [x5 (by decide) (by decide)]
  rfl
 have lp:Loop (A7 [h11E0,h11E1]) ([],1)=some [0]:=by
  have b1:A7 [h11E0,h11E1] ([],1)=some (.inl ([0],0)):=rfl
  have b2:A7 [h11E0,h11E1] ([0],0)=some (.inr [0]):=rfl
  rw [Loop_eq,b1]
  dsimp only
  rw [Loop_eq,b2]
 have st1:v7 h11T.facts h11T.init h11T.goal h11T.operators h11T.facts h11T.init h11T.goal h11T.operators ([h11E0,h11E1],mset (mset ([]:List (ByteArray × Int)) (keyK [[]]) 1) (keyK [[0]]) 1,1)=some (.inr (.inr ([0],true,true))):=by
  unfold v7
  dsimp only
  have e0:ix [h11E0,h11E1] 1=some h11E1:=rfl
  have en:h11E1.node=[[0]]:=rfl
  rw [if_pos (by simp),e0]
  simp only [oB,en,g1,if_true,lp]
  rfl
 unfold C8
 rw [k0]
 simp only [oB]
 rw [show (⟨[[]], -1,0⟩:d9)=h11E0 from rfl,Loop_eq,st0]
 dsimp only
 rw [Loop_eq,st1]
 rfl
theorem h11_plan:X8 h11T []=some ([0],true,⟨0,0⟩):=by
 have u:F9 h11T []=some ⟨0,0⟩:=by
  obtain ⟨f,h1,_,h3⟩:=W7 h11T
  rcases h3 with ⟨rfl,_⟩ | ⟨_,hn⟩
  ·unfold F9
   rw [h1]
   simp only [oB]
   rw [if_neg (by simp),if_neg (by simp),aq4]
   simp only [oB,B6]
   rw [ifNN (O8 _)]
  ·exact absurd W9 hn
 have sm:z8 [[]] h11T.facts h11T.init h11T.goal h11T.operators=some true:=small_of W9 (S:=[[],[0]]) (by simp) fun s hs=>h11_rt hs
 unfold X8
 rw [u]
 simp only [oB]
 rw [if_neg (by simp)]
 simp only [Y2,oB,h11_worlds,sm]
 rw [if_neg (by simp),h11_breadth]
 rfl
theorem h11_works:Y1 h11T h11T.init [0]:=by
 refine ⟨[0], ?_,by simp [h11T]⟩
 have hc:can h11T [] 0:=by unfold can; rw [h11_at]; simp [h11O]
 show ends h11T [] [0]=_
 simp only [ends]
 rw [if_pos (l8 hc),h11_aft0]
theorem h11_val:Val h11T [0]:=fun x hx=>by
 rw [List.mem_singleton] at hx
 subst hx
 exact ⟨by decide,by decide⟩
theorem h11_least:∀ {p:List Int},Val h11T p→(0:Int) ∈ p→2≤Q7 h11T p
 | [],_,h=>by cases h
 | op::r,hv,_=>by
  have h1:=as5 W9 (plan:=r) fun x hx=>hv x (List.mem_cons_of_mem _ hx)
  have h2:=hv op (by simp)
  have:op=0:=by simp only [h11T,List.length_singleton] at h2; omega
  subst this
  simp only [Q7]
  rw [h11_at]
  simp only [h11O]
  omega
theorem h11_with:M5 h11T 0=some (2,⟨0,0⟩):=by
 obtain ⟨r,hr0,h2⟩:=with_spec h11T 0
 rw [hr0]
 cases h2 with
 | bad h hc hf=>exact absurd ⟨W9,by decide,by decide⟩ h
 | big h h0 h1 hf=>exact absurd hf (by decide)
 | opt h h0 h1 hf hr=>
  cases hr with
  | bad h' _ _=>exact absurd (req_ok h h0 h1 hf) h'
  | many _ hm=>exact absurd hm (many_req h h0 h1 (l:=[[],[0]]) (by simp) fun s hs=>h11_rt hs)
  | none _ _ hn=>exact absurd ((aq7 h h0 h1 h11_val).2 ⟨h11_works,by simp⟩) (hn [0] (val_req.2 h11_val))
  | @some k plan _ _ _ _ hv hw hk hl=>
   have hv':=val_req.1 hv
   have a:=hl [0] (val_req.2 h11_val) ((aq7 h h0 h1 h11_val).2 ⟨h11_works,by simp⟩)
   rw [pcost_req h0 h1 h11_val] at a
   have b:=h11_least hv' ((aq7 h h0 h1 hv').1 hw).2
   rw [pcost_req h0 h1 hv'] at hk
   have c:Q7 h11T [0]=2:=rfl
   have:k=2:=by omega
   rw [this]
theorem h11_eq:M6=some true:=by
 have ht:X7=some h11T:=rfl
 unfold M6
 simp only [ht,oB,h11_plan,h11_with,if_true,ints_eq,k7,decide_true]
end Ab
end
section
namespace Ab
open Go
theorem at0{t:d7}{g:List Int}:∀ {plan s:List Int},ends ⟨t.facts,t.init,g,t.operators⟩ s plan=ends t s plan
 | [],s=>rfl
 | op::r,s=>by
  simp only [ends]
  rw [at0 (t:=t) (plan:=r)]
  rfl
theorem tm_ends_snoc{t:d7}{p s:List Int}{op:Int}:ends t s (p++[op])=(ends t s p).bind fun e=>if dec (can t e op)=true then some (aft t e op) else none:=by
 rw [ends_append]
 cases ends t s p with
 | none=>rfl
 | some e=>simp only [oB,ends]
theorem tm_sum:∀ {plans:List (List Int)},(∀ p ∈ plans,p.length≤6)→left plans (List.replicate plans.length 0)≤6 * plans.length
 | [],_=>Nat.zero_le _
 | p::plans,h=>by
  have h1:=h p (by simp)
  have h2:=tm_sum (plans:=plans) fun q hq=>h q (List.mem_cons_of_mem _ hq)
  simp only [left,List.length_cons,List.replicate_succ,List.zip_cons_cons,List.map_cons,List.sum_cons] at h2 ⊢
  simp only [Int.toNat_zero,Nat.sub_zero]
  omega
theorem tm_wanted{goals:List (List Int)}(p:Int):forR 0 (goals.length:Int) (x4 goals p) false=some (dec (∃ g ∈ goals,p ∈ g)):=by
 obtain ⟨b,b1,b2⟩:=G2 (body:=x4 goals p) (n:=(goals.length:Int)) (s:=false) (fun j b=>b=dec (∃ (i:Int) (g:List Int),i<j∧ix goals i=some g∧p ∈ g)) (by omega) (by rw [y6]; rintro ⟨i,g,h0,h1,_⟩; have:=(o6 h1).1; omega) (fun j b j0 j1 hb=>by
  obtain ⟨g,hg,_⟩:=m9 (l:=goals) j0 j1
  unfold x4
  by_cases c:∃ (i:Int) (g:List Int),i<j∧ix goals i=some g∧p ∈ g
  ·rw [l8 c] at hb
   subst hb
   refine ⟨true,by simp, ?_⟩
   obtain ⟨i,g',h0,h1⟩:=c
   rw [l8 ⟨i,g',by omega,h1⟩]
  ·rw [y6 c] at hb
   subst hb
   refine ⟨dec (p ∈ g), ?_,F1 ⟨fun h=>⟨j,g,by omega,hg,h⟩, ?_⟩⟩
   ·rw [hg]
    simp only [oB,has_eq]
    rw [if_neg (by simp)]
    rfl
   ·rintro ⟨i,g',h0,h1,h2⟩
    by_cases e:i=j
    ·subst e; rw [hg] at h1; cases h1; exact h2
    ·exact absurd ⟨i,g',by omega,h1,h2⟩ c)
 rw [b1,b2]
 refine congrArg some (F1 ⟨?_, ?_⟩)
 ·rintro ⟨i,g,_,h1,h2⟩
  exact ⟨g,o5 h1,h2⟩
 ·rintro ⟨g,hg,h2⟩
  obtain ⟨i,i0,i1,hi⟩:=w8 hg
  exact ⟨i,g,i1,hi,h2⟩
theorem tm_goal{t:d7}{goals:List (List Int)}(n0:0≤t.facts)(n1:t.facts≤24):forR 0 t.facts (C5 goals) ([]:List Int)=some (Q5 t goals):=by
 rw [forR_setOf (b:=8) (fun x=>∃ g ∈ goals,x ∈ g) n0 (by omega) (fun j c g0 g1=>by
  unfold C5
  rw [tm_wanted]
  simp only [oB]
  refine ⟨fun hq=> ?_,fun hq=> ?_⟩
  ·rw [if_pos (l8 hq)]
   cases app 8 c [j]<;>rfl
  ·rw [if_neg (fun h=>hq (k7.1 h))]; rfl)]
 rfl
theorem al2(t:d7)(goals plans:List (List Int)):F6 t goals plans=some true:=by
 unfold F6
 obtain ⟨l,ok,f,m1,_,m3⟩:=merge_eq t goals plans
 rw [m1]
 simp only [oB,h11_eq]
 rcases m3 with ⟨rfl,hp,⟨rfl,hg,_⟩ | ⟨rfl,rfl,_⟩⟩ | ⟨hc,_,rfl,rfl⟩
 ·rw [if_neg (by simp)]
  have ht:=hp.task
  have hn:=ht.n1
  have h4:=hp.n4
  have hlen:l.length≤24:=by
   have h1:=good_len (atOk_zero plans) hg
   have h2:=tm_sum hp.six
   omega
  rw [mkL_eq (by omega) (by omega)]
  simp only [oB]
  have key:=U2 (body:=C2 plans (l,true,⟨0,0⟩)) (n:=(l.length:Int)) (s:=(List.replicate plans.length 0,[]))
   (fun j p=>AtOk plans p.1∧(p.2.length:Int)=j∧(∀ x ∈ p.2,0≤x∧x<t.operators.length)∧∃ s,ends t t.init p.2=some s∧good t plans (Q5 t goals) s p.1 (l.drop j.toNat))
   (fun _=>False) (by omega) ⟨atOk_zero _,rfl,by simp,t.init,rfl,by simpa [goodT] using hg⟩ (fun j ⟨c5,c6⟩ j0 j1 ⟨k1,k2,k2',s,k3,k4⟩=>by
   dsimp only at k1 k2 k2' k3 k4 ⊢
   obtain ⟨p,hj,_⟩:=m9 (l:=l) j0 j1
   rw [drop_ix hj] at k4
   obtain ⟨op,hnx,hcan,hgd⟩:=k4
   obtain ⟨pl,a,e1,e2,e3⟩:=ak0 hnx
   obtain ⟨a0,a1,_⟩:=o6 e3
   obtain ⟨p0,p1,_⟩:=o6 e1
   have hl6:=hp.six pl (o5 e1)
   have ho:=hp.op pl (o5 e1) op (o5 e3)
   unfold C2
   dsimp only
   simp only [hj,oB,e1,e2,e3,in_eq,B6]
   rw [x5 (by omega) (by omega),ifNN (show 0≤p∧p≤(plans.length:Int) - 1 by omega)]
   simp only [oB]
   rw [if_neg (by simp; omega),app,if_pos (by simp; omega)]
   simp only [oB]
   rw [x5 (by omega) (by omega),← bump_eq e2]
   refine .inl ⟨_,rfl,k1.bump hnx,by dsimp only; rw [List.length_append,List.length_singleton]; omega,fun x hx=> ?_,aft t s op, ?_, ?_⟩
   ·simp only [List.mem_append,List.mem_singleton] at hx
    rcases hx with hx | rfl
    ·exact k2' x hx
    ·exact ho
   ·dsimp only
    rw [tm_ends_snoc,k3]
    simp only [oB]
    rw [if_pos (l8 hcan)]
   ·exact hgd)
  rcases key with ⟨⟨c5,c6⟩,r1,r2,r3,r4,s,r5,r6⟩ | ⟨o,_,hF⟩
  ·dsimp only at r2 r3 r4 r5 r6
   rw [show l.drop (l.length:Int).toNat=[] by simp] at r6
   rw [r1]
   simp only [oB]
   rw [if_pos (by omega),tm_goal ht.n0 hn]
   simp only [oB]
   have hT:j6 ⟨t.facts,t.init,Q5 t goals,t.operators⟩:=⟨ht.n0,ht.n1,ht.init,V4 _ _,ht.ops,ht.op⟩
   have hpl:PlanOk ⟨t.facts,t.init,Q5 t goals,t.operators⟩ c6:=⟨by omega,r4⟩
   have hsol:R0 ⟨t.facts,t.init,Q5 t goals,t.operators⟩ c6=some (true,⟨0,0⟩):=by
    obtain ⟨f,b1,_,b3⟩:=planFault_eq ⟨t.facts,t.init,Q5 t goals,t.operators⟩ c6
    rcases b3 with ⟨rfl,_⟩ | ⟨_,b3⟩
    ·unfold R0
     rw [b1]
     simp only [oB]
     rw [if_neg (by simp),sWorks_eq hT hpl hT.init,l8]
     ·rfl
     ·exact ⟨s,by rw [at0]; exact r5,r6.2⟩
    ·exact absurd ⟨hT,hpl⟩ b3
   rw [hsol]
   simp
  ·exact hF.elim
 ·rw [if_pos (by simp)]
 ·rw [if_pos (by simp)]
end Ab
end
