/-
  Texts that the proof stands on.
-/
import Derived.Test.YtnkccobmgoikcaaGreatDoorKRwTopRepair5
set_option linter.all false
section
namespace Ab
open Go
theorem half_eq{i j:Int}(h0:0≤i)(h1:i≤j)(h2:j≤1000000):w64 (shrW .u64 ((IntKind.u64).wrap (w64 (i+j))) 1)=(i+j) / 2:=by
 rw[I2 (n:=i+j) (by omega) (by omega),IntKind.wrap_u64,Int.emod_eq_of_lt (by omega) (by omega)]
 have:shrW .u64 (i+j) 1=(i+j) / 2:=by
  simp only[shrW,IntKind.bits]
  rw[show min (1:Int).toNat 64=1 by rfl,Int.fdiv_eq_ediv_of_nonneg _ (by decide)]
  rfl
 rw[this]
 exact I2 (by omega) (by omega)
theorem less_eq(a b:Int):T5 a b=some (decide (a<b)):=by simp[T5,E5]
theorem bsearch_eq{xs:Li}(hs:Inc xs)(hl:xs.length≤500000)(t:Int):∃i,o8 xs t=some (i,dec (t ∈ xs))∧0≤i∧i≤xs.length∧(∀k a,0≤k→k<i→ix xs k=some a→a<t)∧(∀k a,i≤k→ix xs k=some a→t≤a):=by
 unfold o8
 obtain⟨i,h1,h2,h3,h4,h5⟩:=X6 (body:=y4 xs t) (fun p=>(0≤p.1∧p.1≤p.2∧p.2≤xs.length)∧(∀k a,0≤k→k<p.1→ix xs k=some a→a<t)∧(∀k a,p.2≤k→ix xs k=some a→t≤a))
  (fun i=>0≤i∧i≤xs.length∧(∀k a,0≤k→k<i→ix xs k=some a→a<t)∧(∀k a,i≤k→ix xs k=some a→t≤a)) (fun p=>(p.2 - p.1).toNat) (s:=(0,(xs.length:Int)))
  ⟨⟨by simp,by simp,by simp⟩,fun k a h1 h2=>by simp at h2;omega,fun k a h1 h2=>by have:=(p9 h2).2.1;simp at h1;omega⟩ (fun⟨i,j⟩ ⟨⟨g1,g2,g3⟩,g4,g5⟩=>by
  dsimp only at g1 g2 g3 g4 g5 ⊢
  unfold y4
  dsimp only
  by_cases c:i<j
  ·rw[if_pos c,half_eq g1 g2 (by omega)]
   obtain⟨a,ha,ga⟩:=o9 (l:=xs) (i:=(i+j) / 2) (by omega) (by omega)
   rw[ha]
   simp only[oB,less_eq,decide_eq_true_eq]
   by_cases c2:a<t
   ·rw[if_pos c2,I2 (by omega) (by omega)]
    refine .inl ⟨_,rfl,⟨⟨by dsimp only;omega,by dsimp only;omega,g3⟩,fun k b k0 k1 hb=> ?_,g5⟩,by dsimp only;omega⟩
    dsimp only at k1
    obtain⟨_,_,gb⟩:=p9 hb
    by_cases e:k=(i+j) / 2
    ·subst e;rw[ha] at hb;cases hb;exact c2
    ·have:=hs.get gb ga (by omega);omega
   ·rw[if_neg c2]
    refine .inl ⟨_,rfl,⟨⟨g1,by dsimp only;omega,by dsimp only;omega⟩,g4,fun k b k0 hb=> ?_⟩,by dsimp only;omega⟩
    dsimp only at k0
    obtain⟨_,_,gb⟩:=p9 hb
    by_cases e:k=(i+j) / 2
    ·subst e;rw[ha] at hb;cases hb;omega
    ·have:=hs.get ga gb (by omega);omega
  ·rw[if_neg c]
   have:i=j:=by omega
   subst this
   exact .inr ⟨i,rfl,g1,g3,g4,g5⟩)
 rw[h1]
 simp only[oB]
 refine⟨i,?_,h2,h3,h4,h5⟩
 have nin:(∀a,ix xs i=some a→a ≠ t)→t ∉ xs:=fun hne hin=>by
  obtain⟨k,k0,k1,hk⟩:=J9 hin
  rcases Int.lt_trichotomy k i with c|c|c
  ·have:=h4 k t k0 c hk;omega
  ·subst c;exact hne t hk rfl
  ·obtain⟨b,hb,gb⟩:=o9 (l:=xs) (i:=i) (by omega) (by omega)
   obtain⟨_,_,gk⟩:=p9 hk
   have:=hs.get gb gk (by omega)
   have:=h5 i b (Int.le_refl _) hb
   omega
 by_cases c:i<xs.length
 ·obtain⟨a,ha,ga⟩:=o9 (l:=xs) (i:=i) (by omega) c
  rw[if_pos c,ha]
  simp only[oB]
  by_cases c2:a=t
  ·subst c2
   rw[if_pos rfl,m8 (s8 ha)]
   rfl
  ·rw[if_neg c2]
   simp only[K0,decide_true,Bool.not_true,Bool.false_eq_true,if_false,oB]
   rw[F4 (nin fun b hb=>by rw[ha] at hb;cases hb;exact c2)]
 ·rw[if_neg c]
  simp only[oB]
  rw[F4 (nin fun b hb=>by have:=(p9 hb).2.1;omega)]
theorem bsearch2{xs:Li}(hs:Inc xs)(hl:xs.length≤500000)(t:Int):∃i,o8 xs t=some (i,dec (t ∈ xs)):=
 let ⟨i,h,_⟩:=bsearch_eq hs hl t
 ⟨i,h⟩
theorem containsFunc_eq{l:Li}{f:Int→Option Bool}(p:Int→Prop)(hf:∀x ∈ l,f x=some (dec (p x))):v8 l f=some (dec (∃x ∈ l,p x)):=by
 unfold v8 E3
 rcases T1 (body:=B0 l f) (n:=(l.length:Int)) (fun j=>if dec (∀a,ix l j=some a→¬ p a)=true then none else some j) (by omega) (fun j h0 h1 _=>by
  obtain⟨a,ha,_⟩:=o9 (l:=l) h0 h1
  unfold B0
  rw[ha]
  simp only[oB,hf a (s8 ha)]
  by_cases c:p a
  ·rw[if_pos (m8 c),if_neg (by rw[k7];exact fun h=>h a rfl c)]
  ·rw[if_neg (by rw[F4 c];simp),if_pos (m8 fun b hb=>by cases hb;exact c)]) with⟨h1,h2⟩|⟨j,o,h0,h1,h2,_,h4⟩
 ·rw[h1]
  simp only[oB]
  rw[F4]
  ·rfl
  ·rintro ⟨x,hx,hp⟩
   obtain⟨i,g1,g2,g3⟩:=J9 hx
   have:=h2 i g1 g2
   split at this
   ·rename_i h;exact k7.1 h x g3 hp
   ·cases this
 ·rw[h4]
  split at h2
  ·cases h2
  ·rename_i h
   cases h2
   simp only[oB]
   rw[m8]
   ·simp[h0]
   ·simp only[k7] at h
    obtain⟨a,g1,_⟩:=o9 (l:=l) h0 h1
    refine⟨a,s8 g1,?_⟩
    rcases Classical.em (p a) with c|c
    ·exact c
    ·exact absurd (fun b hb=>by rw[g1] at hb;cases hb;exact c) h
theorem meets_eq{a b:Li}(hb:Inc b)(hl:b.length≤500000):S2 a b=some (dec (∃x ∈ a,x ∈ b)):=by
 unfold S2
 rw[containsFunc_eq (fun x=>x ∈ b) (fun x _=>by
  unfold U7
  obtain⟨i,h⟩:=bsearch2 hb hl x
  rw[h];rfl)]
 rfl
/-! ### Sorted, and equal neighbours made one -/
theorem compact_spec{l:Li}(hs:l.Pairwise (· ≤ ·)):Inc (Y6 l)∧∀x,x ∈ Y6 l↔x ∈ l:=by
 have key:∀m,m≤l.length→Inc (Go.Lib.compactUpTo l.toArray m)∧(∀x,x ∈ Go.Lib.compactUpTo l.toArray m↔x ∈ l.take m):=by
  intro m
  induction m with
  |zero=>intro _;simp[Go.Lib.compactUpTo]
  |succ m ih=>
   intro hm
   obtain⟨h1,h2⟩:=ih (by omega)
   have hlt:m<l.length:=by omega
   have hd:l.toArray[m]! =l[m]:=by simp[hlt]
   have ht:l.take (m+1)=l.take m++[l[m]]:=by rw[List.take_add_one];simp[hlt]
   rw[Go.Lib.compactUpTo_succ,ht]
   by_cases hk:Go.Lib.keeps l.toArray m=true
   ·rw[if_pos hk,hd]
    refine⟨List.pairwise_append.2 ⟨h1,by simp,fun a ha b hb=> ?_⟩,fun x=>by rw[List.mem_append,List.mem_append,h2]⟩
    simp only[List.mem_singleton] at hb
    subst hb
    have ha':=(h2 a).1 ha
    obtain⟨i,hi,rfl⟩:=List.mem_iff_getElem.1 ha'
    rw[List.length_take] at hi
    rw[List.getElem_take]
    simp only[Go.Lib.keeps,decide_eq_true_eq] at hk
    rcases hk with hk|hk
    ·omega
    ·have hm1:l.toArray[m - 1]! =l[m - 1]:=by simp[show m - 1<l.length by omega]
     rw[hd,hm1] at hk
     have e1:l[m - 1]≤l[m]:=List.pairwise_iff_getElem.1 hs (m - 1) m (by omega) hlt (by omega)
     have e2:l[i]≤l[m - 1]:=by
      rcases Nat.lt_or_ge i (m - 1) with c|c
      ·exact List.pairwise_iff_getElem.1 hs i (m - 1) (by omega) (by omega) c
      ·have:i=m - 1:=by omega
       subst this;exact Int.le_refl _
     omega
   ·rw[if_neg hk,List.append_nil]
    refine⟨h1,fun x=> ?_⟩
    rw[h2,List.mem_append]
    refine⟨.inl,fun h=> ?_⟩
    rcases h with h|h
    ·exact h
    ·simp only[List.mem_singleton] at h
     subst h
     have hm0:m ≠ 0:=fun e=>hk (by simp[Go.Lib.keeps,e])
     have hm1:l.toArray[m - 1]! =l[m - 1]:=by simp[show m - 1<l.length by omega]
     have he:l[m]=l[m - 1]:=by
      simp only[Go.Lib.keeps,decide_eq_true_eq,not_or] at hk
      have h3:l.toArray[m]! =l.toArray[m - 1]! :=Classical.not_not.1 (fun h=>hk.2 h)
      rw[hd,hm1] at h3;exact h3
     rw[he,List.mem_take_iff_getElem]
     exact⟨m - 1,by omega,rfl⟩
 obtain⟨h1,h2⟩:=key l.length (Nat.le_refl _)
 refine⟨?_,fun x=> ?_⟩
 ·simpa[Y6,Go.Lib.compact] using h1
 ·have:=h2 x
  rw[List.take_length] at this
  simpa[Y6,Go.Lib.compact] using this
theorem srt_spec(l:Li):(srt l).Pairwise (· ≤ ·)∧∀x,x ∈ srt l↔x ∈ l:=by
 refine⟨?_,fun x=>by simp[srt]⟩
 have:=List.pairwise_mergeSort (le:=fun x y:Int=>decide (x≤y)) (fun a b c h1 h2=>by simp at h1 h2 ⊢;omega) (fun a b=>by simp;omega) l
 refine this.imp fun h=>by simpa using h
theorem sortL_eq{l:Li}(h:l.length<4611686018427387904):sortL l=some (srt l):=by rw[sortL,if_pos h]
theorem update_inc{s add del:Li}(hd:Inc del)(hl:del.length≤500000)(h1:s.length≤500000)(h2:add.length≤500000):
  ∃r,E4 s add del=some r∧Inc r∧∀x,x ∈ r↔(x ∈ s∧x ∉ del)∨x ∈ add:=by
 unfold E4
 rw[forR_filter (l:=s) (b:=8) (fun a=>a ∉ del) (fun j a c h=>by
  obtain⟨i,hi⟩:=bsearch2 hd hl a
  unfold Y1
  rw[h]
  simp only[oB,hi,K9]
  refine⟨fun hq=> ?_,fun hq=> ?_⟩
  ·rw[if_pos (m8 hq)]
   cases app 8 c [a]<;>rfl
  ·rw[if_neg (by simpa using hq)];rfl) [] (by simp;omega)]
 simp only[oB,List.nil_append]
 have hle:(s.filter fun a=>dec (a ∉ del)).length≤s.length:=List.length_filter_le _ _
 rw[show app 8 (s.filter fun a=>dec (a ∉ del)) add=some ((s.filter fun a=>dec (a ∉ del))++add) by rw[app,if_pos];omega]
 simp only[oB]
 rw[sortL_eq (by rw[List.length_append];omega)]
 simp only[oB]
 obtain⟨e1,e2⟩:=srt_spec ((s.filter fun a=>dec (a ∉ del))++add)
 obtain⟨e3,e4⟩:=compact_spec e1
 refine⟨_,rfl,e3,fun x=> ?_⟩
 rw[e4,e2,List.mem_append,List.mem_filter,k7]
theorem update_eq{s add del:Li}{n:Int}(hn:n≤1000)(hd:Inc del)(hl:del.length≤500000)(hs:SetN s n)(ha:SetN add n):
  E4 s add del=some (R4 (fun x=>(x ∈ s∧x ∉ del)∨x ∈ add) n):=by
 have h1:=hs.len;have h2:=ha.len
 obtain⟨r,e1,e2,e3⟩:=update_inc (s:=s) (add:=add) hd hl (by omega) (by omega)
 rw[e1,SetN.eq_of (n:=n) ⟨e2,fun x hx=> ?_⟩ (fun x _ _=>e3 x)]
 rcases(e3 x).1 hx with h|h
 ·exact hs.2 x h.1
 ·exact ha.2 x h
end Ab
end
section
namespace Ab
open Go
def P6(o:i4)(n:Int):Prop:=SetN o.pre n∧SetN o.add n∧SetN o.del n∧∀x ∈ o.add,x ∉ o.del
def ac5(o:i4):Prop:=0≤o.cost∧o.cost≤100
noncomputable def P8(o:i4)(n:Int):Int:=if dec (P6 o n)=true then if dec (ac5 o)=true then 0 else 3 else 5
structure l7(t:d6):Prop where
 n0:0≤t.facts
 n1:t.facts≤24
 init:SetN t.init t.facts
 goal:SetN t.goal t.facts
 ops:t.operators.length≤40
 op:∀o ∈ t.operators,P6 o t.facts∧ac5 o
def P7(t:d6)(plan:Li):Prop:=plan.length≤60∧∀x ∈ plan,0≤x∧x<t.operators.length
theorem opCode_zero{o:i4}{n:Int}:P8 o n=0↔P6 o n∧ac5 o:=by
 unfold P8
 by_cases h:P6 o n
 ·rw[if_pos (m8 h)]
  by_cases g:ac5 o
  ·rw[if_pos (m8 g)];simp[h,g]
  ·rw[if_neg (by rw[F4 g];simp)];simp[g]
 ·rw[if_neg (by rw[F4 h];simp)];simp[h]
theorem operator_eq{o:i4}{n:Int}(h0:0≤n)(h1:n≤24):M8 o n=some (P8 o n):=by
 unfold M8 P8
 simp only[isSet_eq,oB,K9]
 have bad:¬ P6 o n→dec (P6 o n)=true→False:=fun h g=>h (k7.1 g)
 by_cases c1:SetN o.pre n
 ·rw[if_neg (by simpa using c1)]
  by_cases c2:SetN o.add n
  ·rw[if_neg (by simpa using c2)]
   by_cases c3:SetN o.del n
   ·rw[if_neg (by simpa using c3)]
    have hl:=c3.len
    rw[meets_eq c3.1 (by omega)]
    simp only[oB]
    by_cases c4:∃x ∈ o.add,x ∈ o.del
    ·rw[if_pos (m8 c4),if_neg]
     rw[k7]
     obtain⟨x,g1,g2⟩:=c4
     exact fun h=>h.2.2.2 x g1 g2
    ·have hs:P6 o n:=⟨c1,c2,c3,fun x g1 g2=>c4 ⟨x,g1,g2⟩⟩
     rw[if_neg (by rw[F4 c4];simp),if_pos (m8 hs)]
     by_cases c5:ac5 o
     ·rw[if_pos (m8 c5),if_neg]
      have:=c5.1;have:=c5.2
      simp;omega
     ·rw[if_neg (fun h=>c5 (k7.1 h)),if_pos]
      unfold ac5 at c5
      simp;omega
   ·rw[if_pos (by simpa using c3)]
    simp only[oB,if_true]
    rw[if_neg fun h=>c3 (k7.1 h).2.2.1]
  ·rw[if_pos (by simpa using c2)]
   simp only[oB,if_true]
   rw[if_neg fun h=>c2 (k7.1 h).2.1]
 ·rw[if_pos (by simpa using c1)]
  simp only[oB,if_true]
  rw[if_neg fun h=>c1 (k7.1 h).1]
theorem al8(t:d6):∃f,q7 t=some f∧ac8 t=some f∧((f=⟨0,0⟩∧l7 t)∨(f.code ≠ 0∧¬ l7 t)):=by
 unfold q7 ac8
 simp only[in_eq,at_eq,oB,K9]
 by_cases c1:0≤t.facts∧t.facts≤24
 ·rw[if_neg (by simp;omega),ifNN c1]
  simp only[isSet_eq,rIsSet_eq (n:=t.facts) _ (by omega) (by omega),oB,K9]
  by_cases c2:SetN t.init t.facts
  ·rw[ifNN c2,ifNN c2]
   by_cases c3:SetN t.goal t.facts
   ·rw[ifNN c3,ifNN c3]
    by_cases c4:40<(t.operators.length:Int)
    ·rw[if_pos c4,if_pos c4]
     exact⟨_,rfl,rfl,.inr ⟨by simp,fun h=>by have:=h.ops;omega⟩⟩
    ·rw[if_neg c4,if_neg c4]
     have hb:∀j:Int,0≤j→j<t.operators.length→∃o,ix t.operators j=some o∧G3 t j ()=some (if P8 o t.facts=0 then .inl () else .inr ⟨P8 o t.facts,j⟩)∧I1 t j ()=some (if P8 o t.facts=0 then .inl () else .inr ⟨P8 o t.facts,j⟩):=fun j h0 h1=>by
      obtain⟨o,ho,_⟩:=o9 (l:=t.operators) h0 h1
      refine⟨o,ho,?_,?_⟩
      ·unfold G3
       rw[ho]
       simp only[oB,operator_eq c1.1 c1.2]
       by_cases e:P8 o t.facts=0
       ·rw[if_pos e,if_pos e]
       ·rw[if_neg e,if_neg e]
      ·unfold I1
       rw[ho]
       simp only[oB,rIsSet_eq (n:=t.facts) _ (show -9223372036854775808<t.facts by omega) (show t.facts≤9223372036854775807 by omega),disjoint_eq,in_eq,at_eq,K9]
       have hp:(if dec (¬ SetN o.pre t.facts)=true then some true else if dec (¬ SetN o.add t.facts)=true then some true else if dec (¬ SetN o.del t.facts)=true then some true else some (dec (¬ ∀x ∈ o.add,x ∉ o.del)))=some (dec (¬ P6 o t.facts)):=by
        unfold P6
        by_cases g1:SetN o.pre t.facts
        ·rw[if_neg (by simpa using g1)]
         by_cases g2:SetN o.add t.facts
         ·rw[if_neg (by simpa using g2)]
          by_cases g3:SetN o.del t.facts
          ·rw[if_neg (by simpa using g3)]
           exact congrArg some (R7 ⟨fun h g=>h g.2.2.2,fun h g=>h ⟨g1,g2,g3,g⟩⟩)
          ·rw[if_pos (by simpa using g3),m8 (fun g=>g3 g.2.2.1)]
         ·rw[if_pos (by simpa using g2),m8 (fun g=>g2 g.2.1)]
        ·rw[if_pos (by simpa using g1),m8 (fun g=>g1 g.1)]
       rw[hp]
       simp only[oB]
       unfold P8
       by_cases g1:P6 o t.facts
       ·rw[if_neg (by simpa using g1),if_pos (m8 g1)]
        by_cases g2:ac5 o
        ·rw[ifP g2,ifNN (p:=0≤o.cost∧o.cost≤100) g2];rfl
        ·rw[ifN g2,ifP (p:=¬ (0≤o.cost∧o.cost≤100)) g2];rfl
       ·rw[if_pos (m8 g1),if_neg (fun h=>g1 (k7.1 h))];rfl
     have heq:rngX 0 (t.operators.length:Int) (G3 t) ()=rngX 0 (t.operators.length:Int) (I1 t) ():=
      (rngX_eq (fun _ _=>True) (by omega) trivial (fun j s h0 h1 _=>by
       obtain⟨o,_,e1,e2⟩:=hb j h0 h1
       exact⟨by rw[e1,e2],by rw[e1];simp,fun _ _=>Y⟩)).1
     rcases T1 (body:=I1 t) (n:=(t.operators.length:Int)) (fun j=>match ix t.operators j with|some o=>if P8 o t.facts=0 then none else some (⟨P8 o t.facts,j⟩:i9)|none=>none) (by omega) (fun j h0 h1 _=>by
      obtain⟨o,e0,_,e2⟩:=hb j h0 h1
      rw[e2,e0]
      dsimp only
      split<;>rfl) with⟨h1,h2⟩|⟨j,f,h0,h1,h2,_,h4⟩
     ·rw[heq,h1]
      refine⟨⟨0,0⟩,rfl,rfl,.inl ⟨rfl,c1.1,c1.2,c2,c3,by omega,fun o ho=> ?_⟩⟩
      obtain⟨j,g0,g1,g2⟩:=J9 ho
      have:=h2 j g0 g1
      rw[g2] at this
      dsimp only at this
      split at this
      ·rename_i e;exact opCode_zero.1 e
      ·cases this
     ·rw[heq,h4]
      obtain⟨o,e0,_,_⟩:=hb j h0 h1
      rw[e0] at h2
      dsimp only at h2
      split at h2
      ·cases h2
      ·rename_i e
       cases h2
       exact⟨_,rfl,rfl,.inr ⟨e,fun h=>e (opCode_zero.2 (h.op o (s8 e0)))⟩⟩
   ·rw[ifP c3,ifP c3]
    exact⟨_,rfl,rfl,.inr ⟨by simp,fun h=>c3 h.goal⟩⟩
  ·rw[ifP c2,ifP c2]
   exact⟨_,rfl,rfl,.inr ⟨by simp,fun h=>c2 h.init⟩⟩
 ·rw[if_pos (by simp;omega),if_pos (m8 c1)]
  exact⟨_,rfl,rfl,.inr ⟨by simp,fun h=>c1 ⟨h.n0,h.n1⟩⟩⟩
theorem fault_no{f:i9}(h:f.code ≠ 0):(!((decide (f.code=0)) && (decide (f.index=0))))=true:=by simp[h]
theorem steps_eq{n:Int}(h0:0≤n)(h1:n≤9223372036854775807)(plan:Li):∃f,T0 n plan=some f∧ac3 n plan=some f∧((f=⟨0,0⟩∧plan.length≤60∧∀x ∈ plan,0≤x∧x<n)∨(f.code ≠ 0∧¬ (plan.length≤60∧∀x ∈ plan,0≤x∧x<n))):=by
 unfold T0 ac3
 by_cases c:60<(plan.length:Int)
 ·rw[if_pos c,if_pos c]
  exact⟨⟨2, -5⟩,rfl,rfl,.inr ⟨by simp,fun h=>by omega⟩⟩
 ·rw[if_neg c,if_neg c]
  rw[ao3 (l:=plan) (fun x=>0≤x∧x<n) (⟨3, -6⟩:i9) (fun j a h=>by
   unfold ac1
   rw[h]
   simp only[oB]
   by_cases g:0≤a∧a<n
   ·rw[if_neg (by simp;omega)];exact .inl ⟨g,rfl⟩
   ·rw[if_pos (by simp;omega)];exact .inr ⟨g,rfl⟩)]
  rw[ao3 (l:=plan) (fun x=>0≤x∧x<n) (⟨3, -6⟩:i9) (fun j a h=>by
   unfold ae0
   rw[h]
   simp only[oB,in_eq,at_eq,I2 (n:=n - 1) (by omega) (by omega),K9]
   by_cases g:0≤a∧a<n
   ·rw[if_neg (by simp;omega)];exact .inl ⟨g,rfl⟩
   ·rw[if_pos (by rw[k7];omega)];exact .inr ⟨g,rfl⟩)]
  by_cases g:∀x ∈ plan,0≤x∧x<n
  ·rw[if_pos (m8 g)]
   exact⟨_,rfl,rfl,.inl ⟨rfl,by omega,g⟩⟩
  ·rw[if_neg (fun h=>g (k7.1 h))]
   exact⟨_,rfl,rfl,.inr ⟨by simp,fun h=>g h.2⟩⟩
theorem planFault_eq(t:d6)(plan:Li):∃f,J6 t plan=some f∧ad2 t plan=some f∧((f=⟨0,0⟩∧l7 t∧P7 t plan)∨(f.code ≠ 0∧¬ (l7 t∧P7 t plan))):=by
 obtain⟨f,h1,h2,h3⟩:=al8 t
 unfold J6 ad2
 rw[h1,h2]
 simp only[oB]
 rcases h3 with⟨rfl,ht⟩|⟨hc,ht⟩
 ·obtain⟨g,g1,g2,g3⟩:=steps_eq (n:=(t.operators.length:Int)) (by omega) (by have:=ht.ops;omega) plan
  rw[if_neg (by simp),if_pos rfl,g1,g2]
  refine⟨g,rfl,rfl,?_⟩
  rcases g3 with⟨e,k⟩|⟨e,k⟩
  ·exact .inl ⟨e,ht,k⟩
  ·exact .inr ⟨e,fun h=>k h.2⟩
 ·rw[if_pos (fault_no hc),if_neg hc]
  exact⟨f,rfl,rfl,.inr ⟨hc,fun h=>ht h.1⟩⟩
/-! ### What operators and plans do -/
def noOp:i4:=⟨[],[],[],0⟩
def opAt(t:d6)(op:Int):i4:=(t.operators[op.toNat]?).getD noOp
theorem ix_op{t:d6}{op:Int}(h0:0≤op)(h1:op<t.operators.length):ix t.operators op=some (opAt t op):=by
 obtain⟨a,h2,h3⟩:=o9 h0 h1
 rw[h2,opAt,h3];rfl
theorem l7.at{t:d6}(h:l7 t){op:Int}(h0:0≤op)(h1:op<t.operators.length):P6 (opAt t op) t.facts∧ac5 (opAt t op):=h.op _ (s8 (ix_op h0 h1))
def can(t:d6)(s:Li)(op:Int):Prop:=∀x ∈ (opAt t op).pre,x ∈ s
noncomputable def aft(t:d6)(s:Li)(op:Int):Li:=R4 (fun x=>x ∈ (opAt t op).add∨x ∈ s∧x ∉ (opAt t op).del) t.facts
theorem Y5(t:d6)(s:Li)(op:Int):SetN (aft t s op) t.facts:=setN_setOf _ _
theorem can_eq{t:d6}(ht:l7 t){op:Int}(h0:0≤op)(h1:op<t.operators.length){s:Li}(hs:SetN s t.facts):U1 t s op=some (dec (can t s op)):=by
 have:=ht.n1;have:=hs.len
 unfold U1
 rw[ix_op h0 h1]
 simp only[oB]
 rw[am4 hs.1 (ht.at h0 h1).1.1.1 (by omega)]
 rfl
theorem next_eq{t:d6}(ht:l7 t){op:Int}(h0:0≤op)(h1:op<t.operators.length){s:Li}(hs:SetN s t.facts):N3 t s op=some (aft t s op):=by
 have:=ht.n1
 obtain⟨⟨_,k2,k3,_⟩,_⟩:=ht.at h0 h1
 have hl:=k3.len
 unfold N3
 rw[ix_op h0 h1]
 simp only[oB]
 rw[update_eq (n:=t.facts) (by omega) k3.1 (by omega) hs k2]
 simp only[oB,aft]
 exact congrArg some (setOf_congr fun x _ _=>Or.comm)
noncomputable def ends(t:d6):Li→Li→Option Li
 |s,[]=>some s
 |s,op::r=>if dec (can t s op)=true then ends t (aft t s op) r else none
theorem ends_setN{t:d6}:∀{plan s e:Li},SetN s t.facts→ends t s plan=some e→SetN e t.facts
 |[],s,e,hs,h=>by cases h;exact hs
 |op::r,s,e,hs,h=>by
  simp only[ends] at h
  split at h
  ·exact ends_setN (Y5 t s op) h
  ·cases h
theorem V7{t:d6}:∀{p q s:Li},ends t s (p++q)=(ends t s p).bind fun e=>ends t e q
 |[],q,s=>rfl
 |op::r,q,s=>by
  simp only[List.cons_append,ends]
  split
  ·exact V7
  ·rfl
def U3(t:d6)(s plan:Li):Prop:=∃e,ends t s plan=some e∧∀x ∈ t.goal,x ∈ e
end Ab
end
section
namespace Ab
open Go
/-! ### States as' numbers -/
def wsN:Li→Nat
 |[]=>0
 |a::l=>2 ^ a.toNat+wsN l
theorem wsN_dvd{k:Nat}:∀{l:Li},(∀x ∈ l,k≤x.toNat)→2 ^ k ∣ wsN l
 |[],_=>⟨0,rfl⟩
 |a::l,h=>Nat.dvd_add (Nat.pow_dvd_pow 2 (h a (by simp))) (wsN_dvd fun x hx=>h x (List.mem_cons_of_mem _ hx))
theorem two_pow_no{k:Nat}(h:2 ^ (k+1) ∣ 2 ^ k):False:=by
 have h1:=Nat.le_of_dvd (Nat.two_pow_pos k) h
 have h2:=Nat.two_pow_pos k
 rw[Nat.pow_succ] at h1
 omega
theorem wsN_ne{a:Int}{l m:Li}(ha:0≤a)(hl:∀x ∈ l,a<x)(hm:∀x ∈ m,a<x):wsN (a::l) ≠ wsN m:=fun h=>by
 have d1:2 ^ (a.toNat+1) ∣ wsN l:=wsN_dvd fun x hx=>by have:=hl x hx;omega
 have d2:2 ^ (a.toNat+1) ∣ wsN m:=wsN_dvd fun x hx=>by have:=hm x hx;omega
 rw[← h,wsN] at d2
 exact two_pow_no ((Nat.dvd_add_left d1).1 d2)
theorem wsN_inj:∀{l m:Li},Inc l→Inc m→(∀x ∈ l,0≤x)→(∀x ∈ m,0≤x)→wsN l=wsN m→l=m
 |[],[],_,_,_,_,_=>rfl
 |[],b::m,_,_,_,_,h=>by
  have:=Nat.two_pow_pos b.toNat
  simp only[wsN] at h;omega
 |a::l,[],_,_,_,_,h=>by
  have:=Nat.two_pow_pos a.toNat
  simp only[wsN] at h;omega
 |a::l,b::m,h1,h2,h3,h4,h=>by
  obtain⟨l1,l2⟩:=List.pairwise_cons.1 h1
  obtain⟨m1,m2⟩:=List.pairwise_cons.1 h2
  rcases Int.lt_trichotomy a b with c|c|c
  ·exact absurd h (wsN_ne (h3 a (by simp)) l1 fun x hx=>by
    rcases List.mem_cons.1 hx with rfl|hx
    ·exact c
    ·have:=m1 x hx;omega)
  ·subst c
   simp only[wsN] at h
   rw[wsN_inj l2 m2 (fun x hx=>h3 x (List.mem_cons_of_mem _ hx)) (fun x hx=>h4 x (List.mem_cons_of_mem _ hx)) (by omega)]
  ·exact absurd h.symm (wsN_ne (h4 b (by simp)) m1 fun x hx=>by
    rcases List.mem_cons.1 hx with rfl|hx
    ·exact c
    ·have:=l1 x hx;omega)
theorem SetN.word_inj{s s':Li}{n:Int}(h:SetN s n)(h':SetN s' n)(e:wsN s=wsN s'):s=s':=
 wsN_inj h.1 h'.1 (fun x hx=>(h.2 x hx).1) (fun x hx=>(h'.2 x hx).1) e
end Ab
end
section
namespace Ab
open Go
def dg(x:Int):Li:=if x<10 then [48+x] else [48+x / 10,48+x % 10]
def encS(s:Li):Li:=s.flatMap (fun x=>dg x++[44])++[59]
def encK(l:LL):Li:=l.flatMap encS
def small(s:Li):Prop:=∀x ∈ s,0≤x∧x<100
theorem dg_split{x y:Int}(hx:0≤x∧x<100)(hy:0≤y∧y<100){r r':Li}(h:dg x++44::r=dg y++44::r'):x=y∧r=r':=by
 unfold dg at h
 split at h<;>split at h<;>simp only[List.cons_append,List.nil_append,List.cons.injEq] at h
 ·exact⟨by omega,h.2.2⟩
 ·exfalso;omega
 ·exfalso;omega
 ·exact⟨by omega,h.2.2.2⟩
theorem dg_head{x:Int}(hx:0≤x∧x<100):∃a l,dg x=a::l∧48≤a∧a<58:=by
 unfold dg
 split
 ·exact⟨_,_,rfl,by omega,by omega⟩
 ·exact⟨_,_,rfl,by omega,by omega⟩
theorem af2(x:Int)(s:Li):encS (x::s)=dg x++44::encS s:=by simp[encS]
theorem encS_inj:∀{s s' r r':Li},small s→small s'→encS s++r=encS s'++r'→s=s'∧r=r'
 |[],[],r,r',_,_,h=>by simp[encS] at h;exact⟨rfl,h⟩
 |[],y::s',r,r',_,h2,h=>by
  obtain⟨a,l,ha,h3,h4⟩:=dg_head (h2 y (by simp))
  rw[af2,ha] at h
  simp only[encS,List.flatMap_nil,List.nil_append,List.cons_append,List.cons.injEq] at h
  omega
 |x::s,[],r,r',h1,_,h=>by
  obtain⟨a,l,ha,h3,h4⟩:=dg_head (h1 x (by simp))
  rw[af2,ha] at h
  simp only[encS,List.flatMap_nil,List.nil_append,List.cons_append,List.cons.injEq] at h
  omega
 |x::s,y::s',r,r',h1,h2,h=>by
  rw[af2,af2,List.append_assoc,List.append_assoc,List.cons_append,List.cons_append] at h
  obtain⟨rfl,g⟩:=dg_split (h1 x (by simp)) (h2 y (by simp)) h
  obtain⟨e1,e2⟩:=encS_inj (s:=s) (s':=s') (fun z hz=>h1 z (List.mem_cons_of_mem _ hz)) (fun z hz=>h2 z (List.mem_cons_of_mem _ hz)) g
  exact⟨by rw[e1],e2⟩
theorem encK_inj:∀{l l':LL},(∀s ∈ l,small s)→(∀s ∈ l',small s)→encK l=encK l'→l=l'
 |[],[],_,_,_=>rfl
 |[],s::l',_,_,h=>by
  have h:=congrArg List.length h
  simp only[encK,encS,List.flatMap_nil,List.flatMap_cons,List.length_append,List.length_nil,List.length_cons] at h
  omega
 |s::l,[],_,_,h=>by
  have h:=congrArg List.length h
  simp only[encK,encS,List.flatMap_nil,List.flatMap_cons,List.length_append,List.length_nil,List.length_cons] at h
  omega
 |s::l,s'::l',h1,h2,h=>by
  have h:encS s++encK l=encS s'++encK l':=h
  obtain⟨e1,e2⟩:=encS_inj (h1 s (List.mem_cons_self ..)) (h2 s' (List.mem_cons_self ..)) h
  have e3:=encK_inj (l:=l) (l':=l') (fun z hz=>h1 z (List.mem_cons_of_mem _ hz)) (fun z hz=>h2 z (List.mem_cons_of_mem _ hz)) e2
  rw[e1,e3]
theorem dg_byte{x:Int}(hx:0≤x∧x<100):∀a ∈ dg x,0≤a∧a<256:=by
 intro a ha
 unfold dg at ha
 split at ha<;>simp at ha<;>omega
theorem encS_byte{s:Li}(h:small s):∀a ∈ encS s,0≤a∧a<256:=by
 intro a ha
 simp only[encS,List.mem_append,List.mem_flatMap,List.mem_singleton] at ha
 rcases ha with⟨x,hx,h1|h1⟩|h1
 ·exact dg_byte (h x hx) a h1
 ·omega
 ·omega
theorem encK_byte{l:LL}(h:∀s ∈ l,small s):∀a ∈ encK l,0≤a∧a<256:=by
 intro a ha
 simp only[encK,List.mem_flatMap] at ha
 obtain⟨s,hs,h1⟩:=ha
 exact encS_byte (h s hs) a h1
theorem strB_inj{l l':Li}(h1:∀a ∈ l,0≤a∧a<256)(h2:∀a ∈ l',0≤a∧a<256)(h:strB l=strB l'):l=l':=by
 have h3:l.map (fun n=>UInt8.ofNat n.toNat)=l'.map (fun n=>UInt8.ofNat n.toNat):=by
  have:=congrArg ByteArray.data h
  simpa[strB] using this
 have back:∀{m:Li},(∀a ∈ m,0≤a∧a<256)→(m.map (fun n=>UInt8.ofNat n.toNat)).map (fun b=>(b.toNat:Int))=m:=by
  intro m hm
  rw[List.map_map]
  conv=>rhs;rw[← List.map_id m]
  apply List.map_congr_left
  intro a ha
  have:=hm a ha
  simp only[Function.comp_apply,id_eq,UInt8.toNat_ofNat']
  omega
 rw[← back h1,← back h2,h3]
def keyK(l:LL):ByteArray:=strB (encK l)
theorem keyK_inj{l l':LL}(h1:∀s ∈ l,small s)(h2:∀s ∈ l',small s)(h:keyK l=keyK l'):l=l':=encK_inj h1 h2 (strB_inj (encK_byte h1) (encK_byte h2) h)
/-! ### Maps -/
theorem aa5{K V:Type}[DecidableEq K](k k':K)(v:V):∀m:List (K×V),mget (mset m k v) k'=if k'=k then some v else mget m k'
 |[]=>by
  simp only[mset,mget]
 |p::r=>by
  simp only[mset]
  by_cases h:k=p.1
  ·rw[if_pos h]
   simp only[mget]
   by_cases h2:k'=k
   ·rw[if_pos h2,if_pos h2]
   ·rw[if_neg h2,if_neg h2,if_neg (by rw[← h];exact h2)]
  ·rw[if_neg h]
   simp only[mget]
   rw[aa5 k k' v r]
   by_cases h2:k'=p.1
   ·rw[if_pos h2,if_pos h2,if_neg (fun e=>h (e.symm.trans h2))]
   ·rw[if_neg h2,if_neg h2]
end Ab
end
section
namespace Ab
open Go
theorem O7{α:Type}[DecidableEq α]:∀{c S:List α},c.Nodup→(∀x ∈ c,x ∈ S)→c.length≤S.length
 |[],_,_,_=>Nat.zero_le _
 |a::c,S,h,hs=>by
  obtain⟨h1,h2⟩:=List.nodup_cons.1 h
  have ha:=hs a (by simp)
  have:=O7 (c:=c) (S:=S.erase a) h2 fun x hx=>by
   have hne:x ≠ a:=fun e=>h1 (e ▸ hx)
   exact(List.mem_erase_of_ne hne).2 (hs x (List.mem_cons_of_mem _ hx))
  rw[List.length_erase_of_mem ha] at this
  have:0<S.length:=List.length_pos_of_mem ha
  simp only[List.length_cons]
  omega
section
variable {α:Type}
def Dn(G L:α→Prop)(nx:α→List α):Nat→α→Prop
 |0,s=>G s
 |k+1,s=>G s∨(L s∧∀y ∈ nx s,Dn G L nx k y)
variable {G L:α→Prop}{nx:α→List α}
theorem Dn.goal{k:Nat}{s:α}(h:G s):Dn G L nx k s:=by
 cases k with
 |zero=>exact h
 |succ k=>exact .inl h
theorem Dn.succ:∀{k:Nat} {s:α},Dn G L nx k s→Dn G L nx (k+1) s
 |0,s,h=>.inl h
 |k+1,s,h=>by
  rcases h with h|⟨h1,h2⟩
  ·exact .inl h
  ·exact .inr ⟨h1,fun y hy=>(h2 y hy).succ⟩
theorem Dn.mono{k m:Nat}{s:α}(h:Dn G L nx k s)(hm:k≤m):Dn G L nx m s:=by
 induction hm with
 |refl=>exact h
 |step _ ih=>exact ih.succ
def Ht(G L:α→Prop)(nx:α→List α)(k:Nat)(s:α):Prop:=Dn G L nx k s∧∀j,j<k→¬ Dn G L nx j s
theorem Ht.unique{k m:Nat}{s:α}(h:Ht G L nx k s)(h':Ht G L nx m s):k=m:=by
 rcases Nat.lt_trichotomy k m with c|c|c
 ·exact absurd h.1 (h'.2 k c)
 ·exact c
 ·exact absurd h'.1 (h.2 m c)
theorem Ht.le{k m:Nat}{s:α}(h:Ht G L nx k s)(h':Dn G L nx m s):k≤m:=by
 rcases Nat.lt_or_ge m k with c|c
 ·exact absurd h' (h.2 m c)
 ·exact c
theorem Ht.of_dn:∀{k:Nat} {s:α},Dn G L nx k s→∃m,m≤k∧Ht G L nx m s
 |0,s,h=>⟨0,Nat.le_refl _,h,fun j hj=>by omega⟩
 |k+1,s,h=>by
  by_cases c:Dn G L nx k s
  ·obtain⟨m,h1,h2⟩:=Ht.of_dn c
   exact⟨m,by omega,h2⟩
  ·exact⟨k+1,Nat.le_refl _,h,fun j hj hd=>c (hd.mono (by omega))⟩
theorem Ht.zero{s:α}(h:G s):Ht G L nx 0 s:=⟨h,fun j hj=>by omega⟩
theorem Ht.goal{k:Nat}{s:α}(h:Ht G L nx k s)(hg:G s):k=0:=h.unique (.zero hg)
theorem Ht.step{k:Nat}{s:α}(h:Ht G L nx k s)(hg:¬ G s)(hne:∀s,L s→nx s ≠ []):∃m,k=m+1∧L s∧(∀y ∈ nx s,∃j,j≤m∧Ht G L nx j y)∧∃y ∈ nx s,Ht G L nx m y:=by
 cases k with
 |zero=>exact absurd h.1 hg
 |succ m=>
  rcases h.1 with g|⟨h1,h2⟩
  ·exact absurd g hg
  ·refine⟨m,rfl,h1,fun y hy=>Ht.of_dn (h2 y hy),?_⟩
   cases m with
   |zero=>
    obtain⟨y,hy⟩:=List.exists_mem_of_ne_nil _ (hne s h1)
    exact⟨y,hy,h2 y hy,fun j hj=>by omega⟩
   |succ m=>
    have hn:=h.2 (m+1) (by omega)
    have:∃y ∈ nx s,¬ Dn G L nx m y:=Classical.byContradiction fun hc=>hn (.inr ⟨h1,fun y hy=>Classical.byContradiction fun hy2=>hc ⟨y,hy,hy2⟩⟩)
    obtain⟨y,hy,hy2⟩:=this
    exact⟨y,hy,h2 y hy,fun j hj hd=>hy2 (hd.mono (by omega))⟩
end
end Ab
end
section
namespace Ab
open Go
/-! ### Maps -/
section
variable {K V:Type}[DecidableEq K]
theorem H5{k:K}{v:V}:∀{m:List (K×V)},mget m k=none→mset m k v=m++[(k,v)]
 |[],_=>rfl
 |p::r,h=>by
  simp only[mget] at h
  split at h
  ·cases h
  ·rename_i hne
   simp only[mset,if_neg hne,H5 h,List.cons_append]
theorem mset_keys{k:K}{v:V}:∀{m:List (K×V)},mget m k ≠ none→(mset m k v).map (·.1)=m.map (·.1)
 |[],h=>absurd rfl h
 |p::r,h=>by
  simp only[mget] at h
  simp only[mset]
  split
  ·rename_i e;simp[e]
  ·rename_i hne
   rw[if_neg hne] at h
   simp[mset_keys h]
theorem an9{k:K}{v:V}:∀{m:List (K×V)},mget m k=some v→(k,v) ∈ m
 |[],h=>by cases h
 |p::r,h=>by
  simp only[mget] at h
  split at h
  ·rename_i e;cases h;subst e;exact List.mem_cons_self
  ·exact List.mem_cons_of_mem _ (an9 h)
theorem ae4{k:K}:∀{m:List (K×V)},mget m k=none→k ∉ m.map (·.1)
 |[],_=>by simp
 |p::r,h=>by
  simp only[mget] at h
  split at h
  ·cases h
  ·rename_i hne
   have:=ae4 h
   simp only[List.map_cons,List.mem_cons,not_or]
   exact⟨hne,this⟩
end
theorem ix_neg{α:Type}{l:List α}{i:Int}(h:i<0):ix l i=none:=by
 unfold ix;rw[if_neg (by omega)]
theorem ah9{α:Type}{l:List α}{x:α}{i:Int}:ix (l++[x]) i=if i=l.length then some x else ix l i:=by
 by_cases h0:0≤i
 ·obtain⟨k,rfl⟩:=Int.eq_ofNat_of_zero_le h0
  rw[M1,M1]
  by_cases e:k=l.length
  ·subst e;simp
  ·rw[if_neg (by omega)]
   rcases Nat.lt_or_ge k l.length with h|h
   ·rw[List.getElem?_append_left h]
   ·rw[List.getElem?_eq_none (by simp;omega),List.getElem?_eq_none h]
 ·rw[ix_neg (by omega),ix_neg (by omega),if_neg (by omega)]
theorem am6{α:Type}{l:List α}{x a:α}{i:Int}(h:ix l i=some a):ix (l++[x]) i=some a:=by
 rw[ah9,if_neg (by have:=p9 h;omega),h]
theorem ad6{α:Type}{l:List α}{x:α}:ix (l++[x]) (l.length:Int)=some x:=by rw[ah9,if_pos rfl]
theorem mset_mem{K V:Type}[DecidableEq K]{k:K}{v:V}{p:K×V}:∀{m:List (K×V)},p ∈ mset m k v→p=(k,v)∨p ∈ m
 |[],h=>.inl (by simpa[mset] using h)
 |a::m,h=>by
  simp only[mset] at h
  split at h
  ·rcases List.mem_cons.1 h with h|h
   ·exact .inl h
   ·exact .inr (List.mem_cons_of_mem _ h)
  ·rcases List.mem_cons.1 h with h|h
   ·exact .inr (h ▸ List.mem_cons_self)
   ·rcases mset_mem h with h|h
    ·exact .inl h
    ·exact .inr (List.mem_cons_of_mem _ h)
end Ab
end
section
namespace Ab
open Go
theorem setN1(a:Int){n:Int}(h0:0≤a)(h1:a<n):SetN [a] n:=⟨by simp,by simp[h0,h1]⟩
end Ab
end
section
namespace Ab
open Go
def llt:Li→Li→Prop
 |[],[]=>False
 |[],_::_=>True
 |_::_,[]=>False
 |a::l,b::m=>a<b∨a=b∧llt l m
theorem U5:∀l:Li,¬ llt l l
 |[]=>id
 |a::l=>fun h=>by
  rcases h with h|⟨_,h⟩
  ·omega
  ·exact U5 l h
theorem aa4:∀{a b c:Li},llt a b→llt b c→llt a c
 |[],[],_,h,_=>h.elim
 |[],_::_,[],_,h=>h.elim
 |[],_::_,_::_,_,_=>trivial
 |_::_,[],_,h,_=>h.elim
 |_::_,_::_,[],_,h=>h.elim
 |x::a,y::b,z::c,h,g=>by
  rcases h with h|⟨rfl,h⟩<;>rcases g with g|⟨rfl,g⟩
  ·exact .inl (by omega)
  ·exact .inl h
  ·exact .inl g
  ·exact .inr ⟨rfl,aa4 h g⟩
theorem Y8:∀a b:Li,llt a b∨a=b∨llt b a
 |[],[]=>.inr (.inl rfl)
 |[],_::_=>.inl trivial
 |_::_,[]=>.inr (.inr trivial)
 |x::a,y::b=>by
  rcases Int.lt_trichotomy x y with h|rfl|h
  ·exact .inl (.inl h)
  ·rcases Y8 a b with h|rfl|h
   ·exact .inl (.inr ⟨rfl,h⟩)
   ·exact .inr (.inl rfl)
   ·exact .inr (.inr (.inr ⟨rfl,h⟩))
  ·exact .inr (.inr (.inl h))
theorem llt_asymm{a b:Li}(h:llt a b)(g:llt b a):False:=U5 a (aa4 h g)
noncomputable def cmpL(a b:Li):Int:=if dec (llt a b)=true then -1 else if dec (a=b)=true then 0 else 1
theorem ad5{a b:Li}:cmpL a b<0↔llt a b:=by
 unfold cmpL
 by_cases h:llt a b
 ·rw[ifP h];simp[h]
 ·rw[ifN h]
  split<;>simp[h]
theorem cmpL_eq{a b:Li}:cmpL a b=0↔a=b:=by
 unfold cmpL
 by_cases h:llt a b
 ·rw[ifP h]
  constructor
  ·intro e;omega
  ·rintro rfl;exact absurd h (U5 _)
 ·rw[ifN h]
  by_cases g:a=b
  ·rw[ifP g];simp[g]
  ·rw[ifN g];simp[g]
theorem cmpInt_eq(x y:Int):M6 x y=some (if x<y then -1 else if y<x then 1 else 0):=by
 unfold M6 E5
 simp only[decide_true,Bool.not_true,oB,Bool.false_eq_true,if_false]
 split
 ·rfl
 ·split<;>rfl
theorem llt_drop:∀{a b:Li} (k:Nat),k≤a.length→k≤b.length→a.take k=b.take k→(llt a b↔llt (a.drop k) (b.drop k))
 |_,_,0,_,_,_=>by simp
 |[],_,k+1,h,_,_=>by simp at h
 |_::_,[],k+1,_,h,_=>by simp at h
 |x::a,y::b,k+1,h1,h2,h3=>by
  simp only[List.take_succ_cons,List.cons.injEq] at h3
  obtain⟨rfl,h3⟩:=h3
  simp only[List.drop_succ_cons]
  rw[← llt_drop k (by simpa using h1) (by simpa using h2) h3]
  simp[llt]
theorem compare_eq(a b:Li):s6 a b=some (cmpL a b):=by
 unfold s6
 rcases ao2 (body:=C8 a b) (n:=(a.length:Int)) (s:=()) (fun j _=>j≤b.length∧a.take j.toNat=b.take j.toNat) (fun o=>o=cmpL a b) (by omega) ⟨by omega,by simp⟩ (fun j _ j0 j1 ⟨k1,k2⟩=>by
  obtain⟨x,hx,gx⟩:=o9 (l:=a) j0 j1
  have hxl:=(lG.1 gx).2
  unfold C8
  rw[hx]
  simp only[oB]
  have hd:=llt_drop (a:=a) (b:=b) j.toNat (by omega) (by omega) k2
  have da:a.drop j.toNat=x::a.drop (j.toNat+1):=by rw[← hxl];exact List.drop_eq_getElem_cons (by omega)
  by_cases c:(b.length:Int)≤j
  ·rw[if_pos c]
   refine .inr ⟨_,rfl,?_⟩
   have db:b.drop j.toNat=[]:=List.drop_of_length_le (by omega)
   rw[da,db] at hd
   unfold cmpL
   rw[ifN (fun h=>(hd.1 h).elim),ifN]
   rintro rfl;omega
  ·rw[if_neg c]
   obtain⟨y,hy,gy⟩:=o9 (l:=b) (i:=j) j0 (by omega)
   have hyl:=(lG.1 gy).2
   have db:b.drop j.toNat=y::b.drop (j.toNat+1):=by rw[← hyl];exact List.drop_eq_getElem_cons (by omega)
   rw[hy]
   simp only[oB,cmpInt_eq]
   rw[da,db] at hd
   have hne:x ≠ y→a ≠ b:=fun h e=>by subst e;rw[hx] at hy;cases hy;exact h rfl
   rcases Int.lt_trichotomy x y with h|rfl|h
   ·rw[if_pos h,if_neg (by decide)]
    refine .inr ⟨_,rfl,?_⟩
    unfold cmpL
    rw[ifP (hd.2 (.inl h))]
   ·simp only[Int.lt_irrefl,if_false,if_true]
    refine .inl ⟨(),Y,by omega,?_⟩
    rw[show(j+1).toNat=j.toNat+1 by omega,List.take_add_one,List.take_add_one,gx,gy,k2]
   ·rw[if_neg (show ¬ x<y by omega),if_pos h,if_neg (by decide)]
    refine .inr ⟨_,rfl,?_⟩
    unfold cmpL
    rw[ifN,ifN (hne (by omega))]
    intro g
    rcases hd.1 g with g|⟨g,_⟩<;>omega) with⟨_,r1,r2,r3⟩|⟨o,r1,rfl⟩
 ·rw[r1]
  simp only[oB]
  have hd:=llt_drop (a:=a) (b:=b) a.length (Nat.le_refl _) (by omega) (by simpa using r3)
  have da:a.drop a.length=[]:=by simp
  rw[da] at hd
  have e3:a=b.take a.length:=by simpa using r3
  by_cases c:(a.length:Int)<b.length
  ·rw[if_pos c]
   have:b.drop a.length ≠ []:=by simp;omega
   unfold cmpL
   rw[ifP]
   rw[hd]
   cases h:b.drop a.length with
   |nil=>exact absurd h this
   |cons x l=>trivial
  ·rw[if_neg c]
   have:a=b:=by rw[e3,List.take_of_length_le (by omega)]
   rw[cmpL_eq.2 this]
 ·rw[r1];rfl
theorem cmp_ok:CmpOk s6 cmpL:=by
 refine⟨compare_eq,⟨fun x=> ?_,fun x y z h1 h2=> ?_,fun x y z h1 h2=> ?_⟩,fun a b h1 h2=> ?_⟩
 ·simp only[Go.Proofs.ltOf,decide_eq_false_iff_not,ad5]
  exact U5 x
 ·simp only[Go.Proofs.ltOf,decide_eq_true_eq,ad5] at h1 h2 ⊢
  exact aa4 h1 h2
 ·simp only[Go.Proofs.ltOf,decide_eq_false_iff_not,ad5] at h1 h2 ⊢
  intro h
  rcases Y8 x y with g|rfl|g
  ·exact h1 g
  ·exact h2 h
  ·exact h2 (aa4 g h)
 ·rw[ad5] at h1 h2
  rcases Y8 a b with g|g|g
  ·exact absurd g h1
  ·exact g
  ·exact absurd g h2
/-! ### Lists compared -/
theorem listEq{α:Type}{a b:List α}{body:Int→Unit→Option (Unit⊕Bool)}(hl:a.length=b.length)(hb:∀j x y,ix a j=some x→ix b j=some y→(x=y∧body j ()=some (.inl ()))∨(x ≠ y∧body j ()=some (.inr false))):
  (Option.bind (rngX 0 (a.length:Int) body ()) fun| .inl _=>some true| .inr x=>some x)=some (dec (a=b)):=by
 rcases T1 (body:=body) (n:=(a.length:Int)) (fun j=>if dec (ix a j=ix b j)=true then none else some false) (by omega) (fun j h0 h1 _=>by
  obtain⟨x,hx,_⟩:=o9 (l:=a) h0 h1
  obtain⟨y,hy,_⟩:=o9 (l:=b) (i:=j) h0 (by omega)
  rcases hb j x y hx hy with⟨e,h⟩|⟨e,h⟩
  ·rw[h,ifP (by rw[hx,hy,e])]
  ·rw[h,ifN (by rw[hx,hy];simpa using e)]) with⟨h1,h2⟩|⟨j,o,h0,h1,h2,_,h4⟩
 ·rw[h1,m8]
  ·rfl
  ·refine List.ext_getElem? fun k=> ?_
   by_cases hk:k<a.length
   ·have:=h2 k (by omega) (by omega)
    split at this
    ·rename_i e
     have:=k7.1 e
     rwa [M1,M1] at this
    ·cases this
   ·rw[List.getElem?_eq_none (by omega),List.getElem?_eq_none (by omega)]
 ·rw[h4]
  split at h2
  ·cases h2
  ·rename_i e
   cases h2
   rw[F4 (fun h=>e (m8 (by rw[h])))];rfl
theorem ints_eq(a b:Li):ae2 a b=some (dec (a=b)):=by
 unfold ae2
 by_cases hl:(a.length:Int)=b.length
 ·rw[if_pos hl]
  refine listEq (by omega) fun j x y hx hy=> ?_
  unfold ai7
  simp only[hx,hy,oB]
  by_cases e:x=y
  ·rw[if_pos e];exact .inl ⟨e,rfl⟩
  ·rw[if_neg e];exact .inr ⟨e,rfl⟩
 ·rw[if_neg hl,F4 (fun h=>hl (by rw[h]))]
theorem equal_eq(a b:Li):A0 a b=some (dec (a=b)):=by
 unfold A0
 by_cases hl:(a.length:Int)=b.length
 ·rw[if_pos hl]
  refine listEq (by omega) fun j x y hx hy=> ?_
  unfold K4
  simp only[hx,hy,oB]
  by_cases e:x=y
  ·rw[if_pos e];exact .inl ⟨e,rfl⟩
  ·rw[if_neg e];exact .inr ⟨e,rfl⟩
 ·rw[if_neg hl,F4 (fun h=>hl (by rw[h]))]
/-! ### Ordered lists -/
abbrev Ord(l:LL):Prop:=l.Pairwise llt
theorem Ord.ext:∀{l m:LL},Ord l→Ord m→(∀x,x ∈ l↔x ∈ m)→l=m
 |[],[],_,_,_=>rfl
 |[],b::m,_,_,h=>absurd ((h b).2 (by simp)) (by simp)
 |a::l,[],_,_,h=>absurd ((h a).1 (by simp)) (by simp)
 |a::l,b::m,hl,hm,h=>by
  obtain⟨l1,l2⟩:=List.pairwise_cons.1 hl
  obtain⟨m1,m2⟩:=List.pairwise_cons.1 hm
  have hab:a=b:=by
   rcases List.mem_cons.1 ((h a).1 (by simp)) with e|e
   ·exact e
   ·rcases List.mem_cons.1 ((h b).2 (by simp)) with e'|e'
    ·exact e'.symm
    ·exact(llt_asymm (l1 b e') (m1 a e)).elim
  subst hab
  rw[Ord.ext l2 m2 fun x=>⟨fun hx=> ?_,fun hx=> ?_⟩]
  ·rcases List.mem_cons.1 ((h x).1 (by simp[hx])) with e|e
   ·subst e;exact absurd (l1 x hx) (U5 x)
   ·exact e
  ·rcases List.mem_cons.1 ((h x).2 (by simp[hx])) with e|e
   ·subst e;exact absurd (m1 x hx) (U5 x)
   ·exact e
def ddN(l:LL):Nat→LL
 |0=>[]
 |m+1=>ddN l m++if decide (m=0∨l[m]? ≠ l[m - 1]?)=true then l[m]?.toList else []
theorem ddN_spec{l:LL}(hs:l.Pairwise fun a b=>¬ llt b a):∀m,m≤l.length→Ord (ddN l m)∧∀x,x ∈ ddN l m↔x ∈ l.take m:=by
 intro m
 induction m with
 |zero=>intro _;simp[ddN]
 |succ m ih=>
  intro hm
  obtain⟨h1,h2⟩:=ih (by omega)
  have hlt:m<l.length:=by omega
  have ht:l.take (m+1)=l.take m++[l[m]]:=by rw[List.take_add_one];simp[hlt]
  rw[ddN,ht]
  by_cases hk:m=0∨l[m]? ≠ l[m - 1]?
  ·rw[if_pos (by simpa using hk)]
   simp only[List.getElem?_eq_getElem hlt,Option.toList_some]
   refine⟨List.pairwise_append.2 ⟨h1,by simp,fun a ha b hb=> ?_⟩,fun x=>by rw[List.mem_append,List.mem_append,h2]⟩
   simp only[List.mem_singleton] at hb
   subst hb
   have ha':=(h2 a).1 ha
   obtain⟨i,hi,rfl⟩:=List.mem_iff_getElem.1 ha'
   rw[List.length_take] at hi
   rw[List.getElem_take]
   rcases hk with hk|hk
   ·omega
   ·have hm1:m - 1<l.length:=by omega
    rw[List.getElem?_eq_getElem hlt,List.getElem?_eq_getElem hm1] at hk
    have e1:¬ llt l[m] l[m - 1]:=List.pairwise_iff_getElem.1 hs (m - 1) m hm1 hlt (by omega)
    have e2:llt l[m - 1] l[m]:=by
     rcases Y8 l[m - 1] l[m] with h|h|h
     ·exact h
     ·exact absurd (by rw[h]) hk
     ·exact absurd h e1
    by_cases hi2:i=m - 1
    ·subst hi2;exact e2
    ·have e3:¬ llt l[m - 1] l[i]:=List.pairwise_iff_getElem.1 hs i (m - 1) (by omega) hm1 (by omega)
     rcases Y8 l[i] l[m] with h|h|h
     ·exact h
     ·rw[h] at e3;exact absurd e2 e3
     ·exact absurd (aa4 e2 h) e3
  ·rw[if_neg (by simpa using hk),List.append_nil]
   refine⟨h1,fun x=> ?_⟩
   rw[h2,List.mem_append]
   refine⟨.inl,fun h=> ?_⟩
   rcases h with h|h
   ·exact h
   ·simp only[List.mem_singleton] at h
    subst h
    have hm0:m ≠ 0:=fun e=>hk (.inl e)
    have he:l[m]? =l[m - 1]? :=Classical.not_not.1 fun e=>hk (.inr e)
    rw[List.getElem?_eq_getElem hlt,List.getElem?_eq_getElem (show m - 1<l.length by omega)] at he
    rw[Option.some.inj he,List.mem_take_iff_getElem]
    exact⟨m - 1,by omega,rfl⟩
theorem ddN_len(l:LL):∀m,(ddN l m).length≤m
 |0=>by simp[ddN]
 |m+1=>by
  have:=ddN_len l m
  rw[ddN,List.length_append]
  split
  ·have:(l[m]?.toList).length≤1:=by cases l[m]? <;>simp
   omega
  ·simp;omega
theorem ddN_all{l:LL}:∀m,m≤l.length→(∀i,0<i→i<m→l[i]? ≠ l[i - 1]?)→ddN l m=l.take m
 |0,_,_=>by simp[ddN]
 |m+1,hm,h=>by
  rw[ddN,ddN_all m (by omega) fun i h0 h1=>h i h0 (by omega),if_pos,List.take_add_one]
  rw[decide_eq_true_eq]
  by_cases e:m=0
  ·exact .inl e
  ·exact .inr (h m (by omega) (by omega))
theorem compactF_eq{l:LL}(hl:l.length≤1000000):s7 l=some (ddN l l.length):=by
 unfold s7
 by_cases c0:(l.length:Int)<2
 ·rw[if_pos c0,ddN_all l.length (Nat.le_refl _) fun i h0 h1=>by omega,List.take_length]
 ·rw[if_neg c0]
  have key:=rngN_inv (body:=o7 l) (fun j _=>∀i:Nat,0<i→(i:Int)<j→l[i]? ≠ l[i - 1]?) (fun o=>o=ddN l l.length) ((l.length:Int) - 1).toNat 1 () (fun i h0 h1=>by omega) (fun j _ j0 j1 hP=>by
   obtain⟨a,ha,ga⟩:=o9 (l:=l) (i:=j) (by omega) (by omega)
   obtain⟨b,hb,gb⟩:=o9 (l:=l) (i:=j - 1) (by omega) (by omega)
   unfold o7
   simp only[ha,hb,oB,equal_eq]
   have ej:(j - 1).toNat=j.toNat - 1:=by omega
   rw[ej] at gb
   by_cases c:a=b
   ·rw[ifP c]
    subst c
    right
    rw[show cutV (l.length:Int) j (l.length:Int)=some () by rw[cutV,if_pos (by omega)]]
    simp only[oB]
    obtain⟨⟨cs,kv⟩,r1,r2,r3,r4,r5,r6⟩:=forN_inv (body:=r8 l j) (fun k2 p=>p.1.length=l.length∧j≤p.2∧p.2≤j+k2 - 1∧p.1.take p.2.toNat=ddN l (j+k2).toNat∧∀i:Nat,j+k2 - 1≤i→p.1[i]? =l[i]?) ((l.length:Int) - j - 1).toNat 1 (l,j) ⟨rfl,by simp,by dsimp only;omega,by
      dsimp only
      rw[show(j+1).toNat=j.toNat+1 by omega,ddN,if_neg,List.append_nil,ddN_all j.toNat (by omega) fun i h0 h1=>hP i h0 (by omega)]
      rw[decide_eq_true_eq]
      rintro (h|h)
      ·omega
      ·exact h (ga.trans gb.symm),fun i _=>rfl⟩ (fun k2 ⟨cs,kv⟩ k0 k1 ⟨g1,g2,g3,g4,g5⟩=>by
      dsimp only at g1 g2 g3 g4 g5 ⊢
      obtain⟨x,hx,gx⟩:=o9 (l:=l) (i:=j+k2) (by omega) (by omega)
      obtain⟨y,hy,gy⟩:=o9 (l:=l) (i:=j+k2 - 1) (by omega) (by omega)
      have iv:∀i:Int,0≤i→i<(l.length:Int) - j→ixV cs (0+j) ((l.length:Int) - j) i=ix cs (j+i):=fun i h0 h1=>by
       rw[ixV,if_pos (by omega),Int.zero_add]
      have same:∀i:Int,j+k2 - 1≤i→ix cs i=ix l i:=fun i hi=>by
       have:=g5 i.toNat (by omega)
       simp only[ix]
       rw[this]
      unfold r8
      dsimp only
      rw[iv k2 (by omega) (by omega),iv (k2 - 1) (by omega) (by omega),show j+(k2 - 1)=j+k2 - 1 by omega,same _ (by omega),same _ (by omega),hx,hy]
      simp only[oB,equal_eq,K9]
      have ek:(j+(k2+1)).toNat=(j+k2).toNat+1:=by omega
      have ek1:(j+k2 - 1).toNat=(j+k2).toNat - 1:=by omega
      rw[ek1] at gy
      by_cases cx:x=y
      ·rw[ifNN cx]
       refine⟨_,rfl,g1,g2,by omega,?_,fun i hi=>g5 i (by omega)⟩
       dsimp only
       rw[ek,ddN,if_neg,List.append_nil]
       ·exact g4
       ·rw[decide_eq_true_eq]
        rintro (h|h)
        ·omega
        ·exact h (by rw[gx,gy,cx])
      ·rw[ifP cx]
       obtain⟨z,hz,gz⟩:=o9 (l:=cs) (i:=kv) (by omega) (by omega)
       simp only[hz,oB]
       rw[I2 (by omega) (by omega)]
       refine⟨_,rfl,by rw[lS];exact g1,by omega,by omega,?_,fun i hi=> ?_⟩
       ·dsimp only
        rw[ek,ddN,if_pos,gx,show(kv+1).toNat=kv.toNat+1 by omega,List.take_add_one,List.getElem?_set,if_pos rfl,if_pos (by omega),List.take_set_of_le (Nat.le_refl _),g4]
        rw[decide_eq_true_eq]
        exact .inr (by rw[gx,gy];simpa using cx)
       ·dsimp only
        rw[List.getElem?_set,if_neg (by omega)]
        exact g5 i (by omega))
    have ef:forR 1 ((l.length:Int) - j) (r8 l j) (l,j)=some (cs,kv):=r1
    dsimp only at r2 r3 r4 r5 r6
    rw[ef]
    simp only[oB]
    have hcl:(clrL cs (0+kv) ((cs.length:Int) - kv) []).length=cs.length:=by simp[clrL];omega
    rw[show cutV (cs.length:Int) kv (cs.length:Int)=some () by rw[cutV,if_pos (by omega)]]
    simp only[oB,hcl]
    rw[show cutV (cs.length:Int) 0 kv=some () by rw[cutV,if_pos (by omega)]]
    refine⟨_,rfl,?_⟩
    have e1:k6 (clrL cs (0+kv) ((cs.length:Int) - kv) []) 0 kv=cs.take kv.toNat:=by
     simp only[k6,clrL,Int.zero_add,Int.toNat_zero,List.drop_zero]
     rw[List.append_assoc,List.take_append_of_le_length (by simp;omega),List.take_take,Nat.min_self]
    rw[e1,r5]
    congr 1
    omega
   ·rw[ifN c]
    left
    refine⟨(),rfl,fun i h0 h1=> ?_⟩
    by_cases e:(i:Int)=j
    ·have:i=j.toNat:=by omega
     subst this
     rw[ga,gb]
     simpa using c
    ·exact hP i h0 (by omega))
  rcases key with⟨_,h1,h2⟩|⟨o,h1,rfl⟩
  ·have:rngX 1 (l.length:Int) (o7 l) ()=some (.inl ()):=h1
   rw[this]
   simp only[oB]
   rw[ddN_all l.length (Nat.le_refl _) fun i h0 h1=>h2 i h0 (by omega),List.take_length]
  ·have:rngX 1 (l.length:Int) (o7 l) ()=some (.inr (ddN l l.length)):=h1
   rw[this];rfl
theorem normal_eq{l:LL}(hl:l.length≤1000000):∃r,G7 l=some r∧Ord r∧(∀x,x ∈ r↔x ∈ l)∧r.length≤l.length:=by
 unfold G7
 rw[sortFL_eq (by omega) cmp_ok]
 simp only[oB]
 have hlen:(l.mergeSort fun x y=>decide (¬ cmpL y x<0)).length=l.length:=by simp
 rw[compactF_eq (by rw[hlen];exact hl)]
 have hs:(l.mergeSort fun x y=>decide (¬ cmpL y x<0)).Pairwise fun a b=>¬ llt b a:=by
  have:=List.pairwise_mergeSort (le:=fun x y:Li=>decide (¬ cmpL y x<0)) (fun a b c h1 h2=>by
   simp only[decide_eq_true_eq,ad5] at h1 h2 ⊢
   intro h
   rcases Y8 b a with g|g|g
   ·exact h1 g
   ·subst g;exact h2 h
   ·exact h2 (aa4 h g)) (fun a b=>by
   simp only[Bool.or_eq_true,decide_eq_true_eq,ad5]
   by_cases h:llt b a
   ·exact .inr fun g=>llt_asymm h g
   ·exact .inl h) l
  exact this.imp fun h=>by simpa[ad5] using h
 obtain⟨h1,h2⟩:=ddN_spec hs _ (Nat.le_refl _)
 refine⟨_,rfl,h1,fun x=> ?_,?_⟩
 ·rw[h2,List.take_length];simp
 ·have:=ddN_len (l.mergeSort fun x y=>decide (¬ cmpL y x<0)) (l.mergeSort fun x y=>decide (¬ cmpL y x<0)).length
  rw[hlen] at this
  rw[hlen];exact this
end Ab
end
section
namespace Ab
open Go
theorem wsN_tb:∀{l:Li},Inc l→(∀x ∈ l,0≤x)→∀k:Nat,(wsN l).testBit k=dec ((k:Int) ∈ l)
 |[],_,_,k=>by simp[wsN,dec]
 |a::l,h,h0,k=>by
  have hc:=List.pairwise_cons.1 h
  obtain⟨q,hq⟩:2 ^ (a.toNat+1) ∣ wsN l:=wsN_dvd fun x hx=>by have:=hc.1 x hx;have:=h0 a (by simp);omega
  have ih:=wsN_tb hc.2 (fun x hx=>h0 x (List.mem_cons_of_mem _ hx)) k
  have e:wsN (a::l)=wsN l|||2 ^ a.toNat:=by
   rw[hq,← Nat.two_pow_add_eq_or_of_lt (Nat.pow_lt_pow_right (by omega) (by omega)) q,← hq]
   simp only[wsN];omega
  rw[e,Nat.testBit_or,ih,Nat.testBit_two_pow]
  have ha:=h0 a (by simp)
  by_cases c:(k:Int)=a
  ·have:a.toNat=k:=by omega
   simp[this,c]
  ·have:¬ a.toNat=k:=by omega
   simp[this,c]
theorem SetN.tb{s:Li}{n:Int}(h:SetN s n)(k:Nat):(wsN s).testBit k=dec ((k:Int) ∈ s):=wsN_tb h.1 (fun x hx=>(h.2 x hx).1) k
theorem SetN.w32{s:Li}{n:Int}(h:SetN s n)(hn:n≤24):wsN s<4294967296:=by
 refine Nat.lt_pow_two_of_testBit (n:=32) _ fun i hi=> ?_
 rw[h.tb,dec_false]
 intro q
 have:=(h.2 _ q).2
 omega
theorem wrap32{n:Nat}(h:n<4294967296):IntKind.wrap .u32 (n:Int)=n:=by
 simp only[IntKind.wrap,IntKind.bits,IntKind.signed,Bool.false_and,Bool.false_eq_true,if_false]
 omega
theorem bit_and{a b:Nat}(ha:a<4294967296):Go.bits .and .u32 (a:Int) (b:Int)=((a &&& b:Nat):Int):=by
 have e:(BitVec.ofNat 32 a &&& BitVec.ofNat 32 b).toNat=a &&& b:=by
  rw[BitVec.toNat_and,BitVec.toNat_ofNat,BitVec.toNat_ofNat]
  refine Nat.eq_of_testBit_eq fun i=> ?_
  simp only[Nat.testBit_and,Nat.testBit_mod_two_pow]
  by_cases c:i<32
  ·simp[c]
  ·have:a.testBit i=false:=Nat.testBit_lt_two_pow (Nat.lt_of_lt_of_le ha (Nat.pow_le_pow_right (n:=2) (by omega) (show 32≤i by omega)))
   simp[this]
 rw[← e]
 simp only[Go.bits,BitVec.ofInt_natCast,IntKind.bits]
 exact wrap32 (BitVec.ofNat 32 a &&& BitVec.ofNat 32 b).isLt
theorem bit_or{a b:Nat}(ha:a<4294967296)(hb:b<4294967296):Go.bits .or .u32 (a:Int) (b:Int)=((a|||b:Nat):Int):=by
 have e:(BitVec.ofNat 32 a|||BitVec.ofNat 32 b).toNat=a|||b:=by
  rw[BitVec.toNat_or,BitVec.toNat_ofNat,BitVec.toNat_ofNat,Nat.mod_eq_of_lt (by simpa using ha),Nat.mod_eq_of_lt (by simpa using hb)]
 rw[← e]
 simp only[Go.bits,BitVec.ofInt_natCast,IntKind.bits]
 exact wrap32 (BitVec.ofNat 32 a|||BitVec.ofNat 32 b).isLt
theorem bit_andNot{a b:Nat}(ha:a<4294967296):∃c:Nat,Go.bits .andNot .u32 (a:Int) (b:Int)=(c:Int)∧c<4294967296∧∀k,c.testBit k=(a.testBit k && !b.testBit k):=by
 refine⟨(BitVec.ofNat 32 a &&& ~~~BitVec.ofNat 32 b).toNat,?_,(BitVec.ofNat 32 a &&& ~~~BitVec.ofNat 32 b).isLt,fun k=> ?_⟩
 ·simp only[Go.bits,BitVec.ofInt_natCast,IntKind.bits]
  exact wrap32 (BitVec.ofNat 32 a &&& ~~~BitVec.ofNat 32 b).isLt
 ·rw[BitVec.testBit_toNat,BitVec.getLsbD_and,BitVec.getLsbD_not,BitVec.getLsbD_ofNat,BitVec.getLsbD_ofNat]
  by_cases c:k<32
  ·simp[c]
  ·have:a.testBit k=false:=Nat.testBit_lt_two_pow (Nat.lt_of_lt_of_le ha (Nat.pow_le_pow_right (n:=2) (by omega) (show 32≤k by omega)))
   simp[c,this]
theorem sub_word{s p:Li}{n:Int}(hs:SetN s n)(hp:SetN p n)(hn:n≤24):Go.bits .and .u32 (wsN s:Int) (wsN p:Int)=(wsN p:Int)↔∀x ∈ p,x ∈ s:=by
 rw[bit_and (hs.w32 hn)]
 constructor
 ·intro h x hx
  have h0:=(hp.2 x hx).1
  have e:(wsN s &&& wsN p)=wsN p:=by omega
  have:=congrArg (fun n=>Nat.testBit n x.toNat) e
  simp only[Nat.testBit_and,hs.tb,hp.tb,show((x.toNat:Nat):Int)=x by omega,m8 hx,Bool.and_true,k7] at this
  exact this
 ·intro h
  have e:(wsN s &&& wsN p)=wsN p:=by
   refine Nat.eq_of_testBit_eq fun i=> ?_
   rw[Nat.testBit_and,hs.tb,hp.tb,dec_and]
   exact R7 ⟨fun q=>q.2,fun q=>⟨h _ q,q⟩⟩
  rw[e]
theorem next_word{s d a:Li}{n:Int}(hs:SetN s n)(hd:SetN d n)(ha:SetN a n)(hn:n≤24):
  Go.bits .or .u32 (Go.bits .andNot .u32 (wsN s:Int) (wsN d:Int)) (wsN a:Int)=(wsN (R4 (fun x=>x ∈ a∨x ∈ s∧x ∉ d) n):Int):=by
 obtain⟨c,c1,c2,c3⟩:=bit_andNot (b:=wsN d) (hs.w32 hn)
 have hr:SetN (R4 (fun x=>x ∈ a∨x ∈ s∧x ∉ d) n) n:=setN_setOf _ _
 rw[c1,bit_or c2 (ha.w32 hn)]
 have e:c|||wsN a=wsN (R4 (fun x=>x ∈ a∨x ∈ s∧x ∉ d) n):=by
  refine Nat.eq_of_testBit_eq fun i=> ?_
  rw[Nat.testBit_or,c3,hs.tb,hd.tb,ha.tb,hr.tb,K9,dec_and,dec_or]
  refine R7 ?_
  rw[al0]
  constructor
  ·rintro (⟨q1,q2⟩|q)
   ·exact⟨(hs.2 _ q1).1,(hs.2 _ q1).2,.inr ⟨q1,q2⟩⟩
   ·exact⟨(ha.2 _ q).1,(ha.2 _ q).2,.inl q⟩
  ·rintro ⟨_,_,q|q⟩
   ·exact .inr q
   ·exact .inl q
 rw[e]
theorem aj7{s:Li}{n:Int}(hs:SetN s n)(hn:n≤24):I6 s=some (wsN s:Int):=by
 unfold I6
 obtain⟨w,h1,h2⟩:=S8 (body:=W6 s) (n:=(s.length:Int)) (s:=0) (fun j w=>w=(wsN (s.take j.toNat):Int)) (by omega) (by simp[wsN]) (fun j w j0 j1 hP=>by
  obtain⟨a,ha,ga⟩:=o9 (l:=s) j0 j1
  have hb:=hs.2 a (s8 ha)
  have ht:s.take (j+1).toNat=s.take j.toNat++[a]:=by rw[show(j+1).toNat=j.toNat+1 by omega,List.take_add_one,ga];rfl
  have h1:SetN (s.take j.toNat) n:=⟨List.Pairwise.sublist (List.take_sublist _ _) hs.1,fun x hx=>hs.2 x (List.mem_of_mem_take hx)⟩
  have h2:SetN (s.take j.toNat++[a]) n:=by rw[← ht];exact⟨List.Pairwise.sublist (List.take_sublist _ _) hs.1,fun x hx=>hs.2 x (List.mem_of_mem_take hx)⟩
  have h3:SetN [a] n:=⟨List.pairwise_singleton _ _,fun x hx=>by simp at hx;subst hx;exact hb⟩
  have e1:shlW .u32 1 a=(wsN [a]:Int):=by
   have:=h3.w32 hn
   unfold shlW
   simp only[wsN,Nat.add_zero] at this ⊢
   rw[show min a.toNat (IntKind.u32).bits=a.toNat by simp only[IntKind.bits];omega,Int.one_mul]
   have ep:(2:Int) ^ a.toNat=((2 ^ a.toNat:Nat):Int):=by push_cast;rfl
   rw[ep];exact wrap32 this
  refine⟨Go.bits .or .u32 w (shlW .u32 1 a),by simp only[W6,ha,oB,chk0,if_neg (show ¬ a<0 by omega)],?_⟩
  rw[e1,hP,bit_or (h1.w32 hn) (h3.w32 hn),ht]
  have e:wsN (s.take j.toNat)|||wsN [a]=wsN (s.take j.toNat++[a]):=by
   refine Nat.eq_of_testBit_eq fun i=> ?_
   rw[Nat.testBit_or,h1.tb,h2.tb,h3.tb,dec_or]
   exact R7 (by simp)
  rw[e])
 rw[h1,h2,Int.toNat_natCast,List.take_length]
 rfl
noncomputable def I3(w:Nat)(n:Nat):Li:=(nums 0 n).filter fun x=>w.testBit x.toNat
theorem facts_eq{w:Nat}(hw:w<4294967296):Q6 (w:Int)=some (I3 w 32):=by
 unfold Q6
 obtain⟨r,h1,h2⟩:=S8 (body:=U9 (w:Int)) (n:=32) (s:=[]) (fun j c=>c=I3 w j.toNat) (by omega) (by simp[I3,nums]) (fun j c j0 j1 hP=>by
  subst hP
  have hlen:(I3 w j.toNat).length≤32:=by
   refine Nat.le_trans (List.length_filter_le _ _) ?_
   rw[len_nums];omega
  have hn:nums 0 (j+1).toNat=nums 0 j.toNat++[j]:=by
   refine Inc.ext (an8 _ _) (List.pairwise_append.2 ⟨an8 _ _,List.pairwise_singleton _ _,fun x hx y hy=> ?_⟩) fun x=> ?_
   ·simp at hy;subst hy;have:=T3.1 hx;omega
   ·rw[List.mem_append,T3,T3,List.mem_singleton];omega
  have e1:shrW .u32 (w:Int) j=((w>>>j.toNat:Nat):Int):=by
   unfold shrW
   rw[show min j.toNat (IntKind.u32).bits=j.toNat by simp only[IntKind.bits];omega]
   have ep:(2:Int) ^ j.toNat=((2 ^ j.toNat:Nat):Int):=by push_cast;rfl
   rw[ep,Nat.shiftRight_eq_div_pow,Int.fdiv_eq_ediv_of_nonneg _ (Int.natCast_nonneg _)]
   rfl
  have h2:w>>>j.toNat<4294967296:=Nat.lt_of_le_of_lt (Nat.shiftRight_le _ _) hw
  have e2:Go.bits .and .u32 ((w>>>j.toNat:Nat):Int) 1=((w>>>j.toNat &&& 1:Nat):Int):=bit_and (b:=1) h2
  have e3:(w>>>j.toNat &&& 1=1)↔w.testBit j.toNat=true:=by
   rw[Nat.testBit];simp[Nat.and_comm]
  unfold U9
  rw[e1,e2]
  by_cases c:w.testBit j.toNat=true
  ·rw[if_pos (by have:=e3.2 c;omega),app,if_pos (by simp;omega)]
   exact⟨_,rfl,by simp[I3,hn,List.filter_append,c]⟩
  ·rw[if_neg (fun q=>c (e3.1 (by omega)))]
   exact⟨_,rfl,by simp[I3,hn,List.filter_append,c]⟩)
 rw[h1,h2];rfl
theorem bitsOf_inj{a b:Nat}(ha:a<4294967296)(hb:b<4294967296)(h:I3 a 32=I3 b 32):a=b:=by
 refine Nat.eq_of_testBit_eq fun i=> ?_
 by_cases c:i<32
 ·have key:∀w:Nat,(i:Int) ∈ I3 w 32↔w.testBit i=true:=fun w=>by
   simp only[I3,List.mem_filter,T3,Int.toNat_natCast]
   exact⟨fun q=>q.2,fun q=>⟨by omega,q⟩⟩
  have:=(key a).symm.trans ((by rw[h]):((i:Int) ∈ I3 a 32↔(i:Int) ∈ I3 b 32))|>.trans (key b)
  cases h1:a.testBit i<;>cases h2:b.testBit i<;>simp[h1,h2] at this ⊢
 ·have low:∀w:Nat,w<4294967296→w.testBit i=false:=fun w hw=>Nat.testBit_lt_two_pow (Nat.lt_of_lt_of_le hw (Nat.pow_le_pow_right (n:=2) (by omega) (show 32≤i by omega)))
  rw[low a ha,low b hb]
theorem words_cmp:CmpOk (fun a b:U32=>H4 a.1 b.1) (fun a b=>cmpL (I3 a.1.toNat 32) (I3 b.1.toNat 32)):=by
 obtain⟨h1,h2,h3⟩:=cmp_ok
 refine⟨fun a b=> ?_,⟨fun x=>h2.irrefl _,fun x y z=>h2.trans _ _ _,fun x y z=>h2.ntrans _ _ _⟩,fun a b q1 q2=> ?_⟩
 ·have ea:=facts_eq (w:=a.1.toNat) (by have:=a.2;omega)
  have eb:=facts_eq (w:=b.1.toNat) (by have:=b.2;omega)
  rw[show((a.1.toNat:Nat):Int)=a.1 by have:=a.2;omega] at ea
  rw[show((b.1.toNat:Nat):Int)=b.1 by have:=b.2;omega] at eb
  simp only[H4,ea,eb,oB,h1]
 ·have:=bitsOf_inj (a:=a.1.toNat) (b:=b.1.toNat) (by have:=a.2;omega) (by have:=b.2;omega) (h3 _ _ q1 q2)
  have ha:=a.2;have hb:=b.2
  exact Subtype.ext (by omega)
theorem sortW{l:Li}(hl:l.length≤1000000)(hw:∀x ∈ l,0≤x∧x<4294967296):∃l',sortFU H4 l=some l'∧l'.Perm l:=by
 unfold sortFU
 rw[dif_pos hw,sortFL_eq (by simp;omega) words_cmp]
 refine⟨_,rfl,?_⟩
 have:=(List.mergeSort_perm (l.attach.map fun x=>(⟨x.1,hw x.1 x.2⟩:U32)) (fun x y=>decide (¬ cmpL (I3 y.1.toNat 32) (I3 x.1.toNat 32)<0))).map (fun z:U32=>z.1)
 simpa using this
end Ab
end
section
namespace Ab
open Go
inductive Rt(t:d6):Li→Prop
 |init:Rt t t.init
 |step {s:Li} {op:Int} (h:Rt t s) (h0:0≤op) (h1:op<t.operators.length) (hc:can t s op):Rt t (aft t s op)
theorem Rt.setN{t:d6}(ht:l7 t){s:Li}(h:Rt t s):SetN s t.facts:=by
 cases h with
 |init=>exact ht.init
 |step=>exact Y5 _ _ _
theorem Rt.ends{t:d6}:∀{plan s e:Li},Rt t s→(∀x ∈ plan,(0:Int)≤x∧x<t.operators.length)→ends t s plan=some e→Rt t e
 |[],s,e,hs,_,h=>by simp only[Ab.ends,Option.some.injEq] at h;subst h;exact hs
 |op::r,s,e,hs,hv,h=>by
  simp only[Ab.ends] at h
  split at h
  ·rename_i hc
   have:=hv op List.mem_cons_self
   exact Rt.ends (hs.step this.1 this.2 (k7.1 hc)) (fun x hx=>hv x (List.mem_cons_of_mem _ hx)) h
  ·cases h
theorem Rt.way{t:d6}{s:Li}(h:Rt t s):∃plan:Li,(∀x ∈ plan,(0:Int)≤x∧x<t.operators.length)∧Ab.ends t t.init plan=some s:=by
 induction h with
 |init=>exact⟨[],by simp,rfl⟩
 |@step s op h h0 h1 hc ih=>
  obtain⟨p,p1,p2⟩:=ih
  refine⟨p++[op],fun x hx=> ?_,?_⟩
  ·rcases List.mem_append.1 hx with hx|hx
   ·exact p1 x hx
   ·simp only[List.mem_singleton] at hx;subst hx;exact⟨h0,h1⟩
  ·rw[V7,p2]
   simp only[oB,Ab.ends]
   rw[if_pos (m8 hc)]
def Cls(t:d6)(l:LL)(s:Li):Prop:=∀op:Int,0≤op→op<t.operators.length→can t s op→aft t s op ∈ l
theorem Rt.mem{t:d6}{l:LL}(hi:t.init ∈ l)(hc:∀s ∈ l,Cls t l s){s:Li}(h:Rt t s):s ∈ l:=by
 induction h with
 |init=>exact hi
 |step h h0 h1 hcan ih=>exact hc _ ih _ h0 h1 hcan
def Many(t:d6):Prop:=∃l:LL,l.Nodup∧l.length=2001∧∀s ∈ l,Rt t s
end Ab
end
section
namespace Ab
open Go
abbrev Mk:=i7
def wd(s:Li):Int:=(wsN s:Int)
def mkOf(o:i4):Mk:=⟨wd o.pre,wd o.add,wd o.del,o.cost⟩
def mks(t:d6):List Mk:=t.operators.map mkOf
def canW(m:Mk)(x:Int):Prop:=Go.bits .and .u32 x m.pre=m.pre
def tgtW(m:Mk)(x:Int):Int:=Go.bits .or .u32 (Go.bits .andNot .u32 x m.del) m.add
theorem wd_inj{t:d6}(ht:l7 t){s s':Li}(h:SetN s t.facts)(h':SetN s' t.facts)(e:wd s=wd s'):s=s':=
 h.word_inj h' (by unfold wd at e;omega)
theorem wd_u32{t:d6}(ht:l7 t){s:Li}(h:SetN s t.facts):0≤wd s∧wd s<4294967296:=by
 have:=h.w32 ht.n1;unfold wd;omega
theorem op_ok{t:d6}(ht:l7 t){op:Int}(h0:0≤op)(h1:op<t.operators.length):P6 (opAt t op) t.facts∧ac5 (opAt t op):=ht.op _ (s8 (ix_op h0 h1))
theorem ap3{t:d6}(ht:l7 t){s:Li}(h:SetN s t.facts){op:Int}(h0:0≤op)(h1:op<t.operators.length):canW (mkOf (opAt t op)) (wd s)↔can t s op:=
 sub_word h (op_ok ht h0 h1).1.1 ht.n1
theorem tgtW_eq{t:d6}(ht:l7 t){s:Li}(h:SetN s t.facts){op:Int}(h0:0≤op)(h1:op<t.operators.length):tgtW (mkOf (opAt t op)) (wd s)=wd (aft t s op):=
 next_word h (op_ok ht h0 h1).1.2.2.1 (op_ok ht h0 h1).1.2.1 ht.n1
theorem mks_mem{t:d6}{m:Mk}(h:m ∈ mks t):∃op:Int,0≤op∧op<t.operators.length∧m=mkOf (opAt t op):=by
 obtain⟨o,ho,rfl⟩:=List.mem_map.1 h
 obtain⟨i,h0,h1,h2⟩:=J9 ho
 rw[ix_op h0 h1] at h2;cases h2
 exact⟨i,h0,h1,rfl⟩
theorem mks_of{t:d6}{op:Int}(h0:0≤op)(h1:op<t.operators.length):mkOf (opAt t op) ∈ mks t:=List.mem_map.2 ⟨_,s8 (ix_op h0 h1),rfl⟩
theorem mks_ix{t:d6}{op:Int}(h0:0≤op)(h1:op<t.operators.length):ix (mks t) op=some (mkOf (opAt t op)):=by
 have:=(p9 (ix_op h0 h1)).2.2
 simp[mks,ix,h0,this]
theorem of_eq{t:d6}(ht:l7 t):U8 t=some (wd t.init,wd t.goal,mks t):=by
 unfold U8
 rw[aj7 ht.init ht.n1,aj7 ht.goal ht.n1]
 simp only[oB]
 obtain⟨r,h1,h2⟩:=S8 (body:=X1 t) (n:=(t.operators.length:Int)) (s:=[]) (fun j c=>c=(t.operators.take j.toNat).map mkOf) (by omega) (by simp) (fun j c j0 j1 hP=>by
  have ho:=op_ok ht j0 j1
  have hx:=ix_op j0 j1
  have ga:=(p9 hx).2.2
  have hl:=ht.ops
  have htk:t.operators.take (j+1).toNat=t.operators.take j.toNat++[opAt t j]:=by rw[show(j+1).toNat=j.toNat+1 by omega,List.take_add_one,ga];rfl
  unfold X1
  rw[hx]
  simp only[oB,aj7 ho.1.1 ht.n1,aj7 ho.1.2.1 ht.n1,aj7 ho.1.2.2.1 ht.n1]
  refine⟨c++[mkOf (opAt t j)],?_,?_⟩
  ·unfold app
   rw[if_pos (by rw[hP];simp;omega)];rfl
  ·rw[hP,htk];simp)
 rw[h1,h2,Int.toNat_natCast,List.take_length]
 rfl
def Rwd(t:d6)(x:Int):Prop:=∃s,Rt t s∧x=wd s
theorem states_of{t:d6}:∀{l:Li},(∀x ∈ l,Rwd t x)→∃ss:LL,ss.map wd=l∧∀s ∈ ss,Rt t s
 |[],_=>⟨[],rfl,by simp⟩
 |x::l,h=>by
  obtain⟨s,s1,s2⟩:=h x (by simp)
  obtain⟨ss,h1,h2⟩:=states_of (l:=l) fun y hy=>h y (List.mem_cons_of_mem _ hy)
  exact⟨s::ss,by simp[h1,s2],by simp[s1];exact h2⟩
theorem aj9{α β:Type}{f:α→β}:∀{l:List α},(l.map f).Nodup→l.Nodup
 |[],_=>List.nodup_nil
 |x::l,h=>by
  simp only[List.map_cons,List.nodup_cons] at h
  exact List.nodup_cons.2 ⟨fun hx=>h.1 (List.mem_map.2 ⟨x,hx,rfl⟩),aj9 h.2⟩
theorem many_of{t:d6}{l:Li}(hn:l.Nodup)(hl:2000<l.length)(h:∀x ∈ l,Rwd t x):Many t:=by
 obtain⟨ss,h1,h2⟩:=states_of (l:=l.take 2001) fun x hx=>h x (List.mem_of_mem_take hx)
 refine⟨ss,aj9 (f:=wd) (by rw[h1];exact hn.sublist (List.take_sublist _ _)),?_,h2⟩
 have:=congrArg List.length h1
 simp only[List.length_map,List.length_take] at this
 omega
theorem Rwd.next{t:d6}(ht:l7 t){x:Int}(h:Rwd t x){m:Mk}(hm:m ∈ mks t)(hc:canW m x):Rwd t (tgtW m x):=by
 obtain⟨s,s1,rfl⟩:=h
 obtain⟨op,h0,h1,rfl⟩:=mks_mem hm
 have hs:=s1.setN ht
 exact⟨_,.step s1 h0 h1 ((ap3 ht hs h0 h1).1 hc),tgtW_eq ht hs h0 h1⟩
theorem Rwd.all{t:d6}(ht:l7 t){l:Li}(hi:wd t.init ∈ l)(hc:∀x ∈ l,∀m ∈ mks t,canW m x→tgtW m x ∈ l){x:Int}(h:Rwd t x):x ∈ l:=by
 obtain⟨s,h,rfl⟩:=h
 induction h with
 |init=>exact hi
 |step h h0 h1 hcan ih=>
  have hs:=h.setN ht
  have:=hc _ ih _ (mks_of h0 h1) ((ap3 ht hs h0 h1).2 hcan)
  rwa [tgtW_eq ht hs h0 h1] at this
abbrev MpU:=List (Int×Unit)
theorem mgetU{m:MpU}{x:Int}:mget m x=none↔x ∉ m.map (·.1):=by
 constructor
 ·exact ae4
 ·intro h
  cases e:mget m x with
  |none=>rfl
  |some u=>exact absurd (List.mem_map.2 ⟨_,an9 e,rfl⟩) h
structure AlW(t:d6)(q:Li)(f:MpU)(a:Li):Prop where
 nd:(f.map (·.1)).Nodup
 pm:(f.map (·.1)).Perm (q++a)
 rw:∀x ∈ f.map (·.1),Rwd t x
theorem all_in{t:d6}(ht:l7 t){q a:Li}{f:MpU}{x:Int}(hx:Rwd t x)(h:AlW t q f a)(hf:f.length≤2000)(u:Unit){c:Li}(hc:k6 c 0 ((c.length:Int) - 1)=q):
  ∃f' q',H2 (mks t) c f x u=some (f',q')∧AlW t q' f' a∧(∀y ∈ f.map (·.1),y ∈ f'.map (·.1))∧∀m ∈ mks t,canW m x→tgtW m x ∈ f'.map (·.1):=by
 unfold H2
 have hml:(mks t).length≤40:=by simp[mks];exact ht.ops
 obtain⟨r,h1,h2,h3,h4,h5⟩:=S8 (body:=H1 (mks t) x u) (n:=((mks t).length:Int)) (s:=(f,k6 c 0 ((c.length:Int) - 1)))
  (fun j s=>AlW t s.2 s.1 a∧(∀y ∈ f.map (·.1),y ∈ s.1.map (·.1))∧s.1.length≤2000+j∧∀i m,i<j→ix (mks t) i=some m→canW m x→tgtW m x ∈ s.1.map (·.1)) (by omega)
  ⟨by rw[hc];exact h,fun _ h=>h,by simp only;omega,fun i m hi hm=>by have:=(p9 hm).1;omega⟩ (fun j s j0 j1 hP=>by
   obtain⟨f',q'⟩:=s
   obtain⟨p1,p2,p3,p4⟩:=hP
   simp only at p1 p2 p3 p4
   obtain⟨m,hm,_⟩:=o9 j0 j1
   have hmm:=s8 hm
   unfold H1
   simp only[hm,oB]
   by_cases c1:Go.bits .and .u32 x m.pre=m.pre
   ·rw[if_pos c1]
    have c1':canW m x:=c1
    have ee:Go.bits .or .u32 (Go.bits .andNot .u32 x m.del) m.add=tgtW m x:=rfl
    rw[ee]
    by_cases c2:mget f' (tgtW m x)=none
    ·rw[if_pos (by simp[c2])]
     have hq:q'.length≤f'.length:=by have:=p1.pm.length_eq;simp at this;omega
     have ha:app 4 q' [tgtW m x]=some (q'++[tgtW m x]):=by unfold app;rw[if_pos (by simp;omega)]
     simp only[ha,oB]
     have hmem:=mgetU.1 c2
     refine⟨_,rfl,⟨?_,?_,?_⟩,?_,?_,?_⟩
     ·simp only[H5 c2,List.map_append]
      refine List.nodup_append.2 ⟨p1.nd,by simp,fun y hy z hz e=> ?_⟩
      simp at hz;subst hz;subst e;exact hmem hy
     ·simp only[H5 c2,List.map_append,List.map_cons,List.map_nil]
      refine(p1.pm.append_right _).trans ?_
      rw[List.append_assoc,List.append_assoc]
      exact List.Perm.append_left _ List.perm_append_comm
     ·intro y hy
      simp only[H5 c2,List.map_append,List.mem_append,List.map_cons,List.map_nil,List.mem_singleton] at hy
      rcases hy with hy|rfl
      ·exact p1.rw y hy
      ·exact hx.next ht hmm c1'
     ·intro y hy
      simp only[H5 c2,List.map_append,List.mem_append]
      exact .inl (p2 y hy)
     ·simp only[H5 c2,List.length_append,List.length_singleton];omega
     ·intro i m' hi hm' hc'
      simp only[H5 c2,List.map_append,List.mem_append]
      by_cases e:i=j
      ·subst e;rw[hm] at hm';cases hm';exact .inr (by simp)
      ·exact .inl (p4 i m' (by omega) hm' hc')
    ·rw[if_neg (by simp;cases e:mget f' (tgtW m x) with|none=>exact absurd e c2|some _=>simp)]
     refine⟨_,rfl,p1,p2,by simp only;omega,fun i m' hi hm' hc'=> ?_⟩
     by_cases e:i=j
     ·subst e;rw[hm] at hm';cases hm'
      exact Classical.byContradiction fun q=>c2 (mgetU.2 q)
     ·exact p4 i m' (by omega) hm' hc'
   ·rw[if_neg c1]
    refine⟨_,rfl,p1,p2,by simp only;omega,fun i m' hi hm' hc'=> ?_⟩
    by_cases e:i=j
    ·subst e;rw[hm] at hm';cases hm';exact absurd hc' c1
    ·exact p4 i m' (by omega) hm' hc')
 refine⟨r.1,r.2,by rw[h1];rfl,h2,h3,fun m hm hcan=> ?_⟩
 obtain⟨i,i0,i1,hi⟩:=J9 hm
 exact h5 i m i1 hi hcan
theorem all_spec{t:d6}(ht:l7 t)(goal:Int):∃l b,C6 (wd t.init) goal (mks t)=some (l,b)∧(b=false→Many t)∧(b=true→l.Nodup∧l.length≤2000∧∀x,x ∈ l↔Rwd t x):=by
 unfold C6
 simp only[p8,oB]
 have hi0:Rwd t (wd t.init):=⟨_,.init,rfl⟩
 obtain⟨o,h1,h2⟩:=X6 (body:=H3 (wd t.init) goal (mks t)) (s:=([wd t.init],mset ([]:MpU) (wd t.init) (),[]))
  (fun s=>AlW t s.1 s.2.1 s.2.2∧wd t.init ∈ s.2.1.map (·.1)∧s.2.1.length≤2000∧∀x ∈ s.2.2,∀m ∈ mks t,canW m x→tgtW m x ∈ s.2.1.map (·.1))
  (fun o=>match o with| .inl l=>l.Nodup∧l.length≤2000∧∀x,x ∈ l↔Rwd t x| .inr x=>x=([],false)∧Many t)
  (fun s=>2000 - s.2.2.length) ⟨⟨by simp[mset],by simp[mset],by simp[mset];exact hi0⟩,by simp[mset],by simp[mset],by simp⟩ (by
   rintro ⟨q,f,a⟩ ⟨p1,p2,p3,p4⟩
   simp only at p1 p2 p3 p4
   have hlen:f.length=q.length+a.length:=by have:=p1.pm.length_eq;simpa using this
   unfold H3
   by_cases c:0<q.length
   ·simp only[show(0:Int)<(q.length:Int) by omega,if_true]
    obtain⟨x,hx,gx⟩:=o9 (l:=q) (i:=(q.length:Int) - 1) (by omega) (by omega)
    have hq:k6 q 0 ((q.length:Int) - 1)++[x]=q:=by
     have:k6 q 0 ((q.length:Int) - 1)=q.take (q.length - 1):=by
      simp only[k6,Int.toNat_zero,List.drop_zero]
      rw[show((q.length:Int) - 1).toNat=q.length - 1 by omega]
     rw[this]
     have e:q.take (q.length - 1+1)=q.take (q.length - 1)++[x]:=by
      rw[List.take_add_one]
      rw[show((q.length:Int) - 1).toNat=q.length - 1 by omega] at gx
      rw[gx];rfl
     rw[← e,show q.length - 1+1=q.length by omega,List.take_length]
    have hxm:x ∈ f.map (·.1):=p1.pm.mem_iff.2 (List.mem_append_left _ (s8 hx))
    have hxr:=p1.rw x hxm
    have ha:app 4 a [x]=some (a++[x]):=by unfold app;rw[if_pos (by simp;omega)]
    have p1':AlW t (k6 q 0 ((q.length:Int) - 1)) f (a++[x]):=⟨p1.nd,p1.pm.trans (by
     rw (occs:=.pos [1]) [← hq]
     rw[List.append_assoc]
     exact List.Perm.append_left _ List.perm_append_comm),p1.rw⟩
    obtain⟨f',q',k1,k2,k3,k4⟩:=all_in ht hxr p1' p3 () rfl
    simp only[hx,ha,cutV,oB,w7]
    rw[if_pos (by omega)]
    simp only[oB,k1]
    by_cases big:2000<f'.length
    ·rw[if_pos (by omega)]
     exact .inr ⟨_,rfl,rfl,many_of k2.nd (by simpa using big) k2.rw⟩
    ·rw[if_neg (by omega)]
     have hlen':f'.length=q'.length+(a++[x]).length:=by have:=k2.pm.length_eq;simpa using this
     refine .inl ⟨_,rfl,⟨k2,k3 _ p2,by simp only;omega,fun y hy m hm hc=> ?_⟩,by simp only[List.length_append,List.length_singleton] at hlen' ⊢;omega⟩
     simp only[List.mem_append,List.mem_singleton] at hy
     rcases hy with hy|rfl
     ·exact k3 _ (p4 y hy m hm hc)
     ·exact k4 m hm hc
   ·have:q=[]:=List.eq_nil_of_length_eq_zero (by omega)
    subst this
    refine .inr ⟨.inl a,by simp,?_⟩
    have hp:(f.map (·.1)).Perm a:=by simpa using p1.pm
    refine⟨hp.nodup_iff.1 p1.nd,by simp at hlen;omega,fun x=>⟨fun hx=>p1.rw x (hp.mem_iff.2 hx),fun hx=> ?_⟩⟩
    exact Rwd.all ht (hp.mem_iff.1 p2) (fun y hy m hm hc=>hp.mem_iff.1 (p4 y hy m hm hc)) hx)
 rw[h1]
 rcases o with l|o
 ·exact⟨l,true,rfl,by simp,fun _=>h2⟩
 ·obtain⟨rfl,h3⟩:=h2
  exact⟨[],false,rfl,fun _=>h3,by simp⟩
end Ab
end
section
namespace Ab
open Go
abbrev En:=c8
def Hp(L:Li)(E:List En):Prop:=∀i h,ix L i=some h→∃e,ix E h=some e∧e.fat=i
structure Sme(L:Li)(E:List En)(L':Li)(E':List En):Prop where
 len:L'.length=L.length
 mem:∀h,h ∈ L'↔h ∈ L
 elen:E'.length=E.length
 e:∀h a,ix E h=some a→∃a',ix E' h=some a'∧a'.item=a.item∧a'.key=a.key
theorem Sme.refl(L:Li)(E:List En):Sme L E L E:=⟨rfl,fun _=>Iff.rfl,rfl,fun h a ha=>⟨a,ha,rfl,rfl⟩⟩
theorem Sme.trans{L L' L'':Li}{E E' E'':List En}(h:Sme L E L' E')(g:Sme L' E' L'' E''):Sme L E L'' E'':=by
 refine⟨g.len.trans h.len,fun x=>(g.mem x).trans (h.mem x),g.elen.trans h.elen,fun x a ha=> ?_⟩
 obtain⟨b,b1,b2,b3⟩:=h.e x a ha
 obtain⟨c,c1,c2,c3⟩:=g.e x b b1
 exact⟨c,c1,c2.trans b2,c3.trans b3⟩
theorem Hp.inj{L:Li}{E:List En}(h:Hp L E){i j x:Int}(h1:ix L i=some x)(h2:ix L j=some x):i=j:=by
 obtain⟨e,e1,e2⟩:=h i x h1
 obtain⟨f,f1,f2⟩:=h j x h2
 rw[e1] at f1;cases f1;rw[← e2,← f2]
structure Kp(nv:Int)(L:Li)(E:List En)(l:Li)(e:List En):Prop where
 hp:Hp l e
 sm:Sme L E l e
 hi:∀j,nv≤j→ix l j=ix L j
end Ab
end
section
namespace Ab
open Go
structure Qu(M:List (Int×Int))(L:Li)(E:List En):Prop where
 hp:Hp L E
 keys:(M.map (·.1)).Nodup
 mem:∀x h,mget M x=some h↔h ∈ L∧∃e,ix E h=some e∧e.item=x
def qkey(M:List (Int×Int))(E:List En)(x:Int):Option Int:=(mget M x).bind fun h=>(ix E h).map (·.key)
theorem Sme.item{L L':Li}{E E':List En}(h:Sme L E L' E')(x y:Int):(∃e,ix E' x=some e∧e.item=y)↔∃e,ix E x=some e∧e.item=y:=by
 constructor
 ·rintro ⟨e,e1,e2⟩
  obtain⟨a,b,_⟩:=p9 e1
  obtain⟨f,f1,_⟩:=o9 (l:=E) a (by rw[← h.elen];exact b)
  obtain⟨g,g1,g2,_⟩:=h.e x f f1
  rw[e1] at g1;cases g1
  exact⟨f,f1,g2.symm.trans e2⟩
 ·rintro ⟨e,e1,e2⟩
  obtain⟨g,g1,g2,_⟩:=h.e x e e1
  exact⟨g,g1,g2.trans e2⟩
theorem Sme.key{L L':Li}{E E':List En}(h:Sme L E L' E')(x:Int):(ix E' x).map (·.key)=(ix E x).map (·.key):=by
 cases e1:ix E x with
 |some e=>
  obtain⟨g,g1,_,g3⟩:=h.e x e e1
  rw[g1];simp[g3]
 |none=>
  cases e2:ix E' x with
  |none=>rfl
  |some e=>
   obtain⟨a,b,_⟩:=p9 e2
   obtain⟨f,f1,_⟩:=o9 (l:=E) a (by rw[← h.elen];exact b)
   rw[e1] at f1;cases f1
theorem Qu.nil:Qu [] [] []:=⟨fun i h e=>by simp[ix] at e,by simp,fun x h=>by simp[mget]⟩
theorem Qu.item_inj{M:List (Int×Int)}{L:Li}{E:List En}(h:Qu M L E){a b:Int}{e f:En}(ha:a ∈ L)(hb:b ∈ L)(he:ix E a=some e)(hf:ix E b=some f)(hi:e.item=f.item):a=b:=by
 have h1:=(h.mem e.item a).2 ⟨ha,e,he,rfl⟩
 have h2:=(h.mem e.item b).2 ⟨hb,f,hf,hi.symm⟩
 rw[h1] at h2;exact Option.some.inj h2
theorem Hp.nodup{L:Li}{E:List En}(h:Hp L E):L.Nodup:=by
 refine List.pairwise_iff_getElem.2 fun i j hi hj hij e=> ?_
 have h1:ix L (j:Int)=some L[j]:=ix_ltN hj
 have h2:ix L (i:Int)=some L[j]:=by rw[← e];exact ix_ltN hi
 have:=h.inj h1 h2
 omega
theorem Qu.le{M:List (Int×Int)}{L:Li}{E:List En}(h:Qu M L E){vs:Li}(hv:∀x,qkey M E x ≠ none→x ∈ vs):L.length≤vs.length:=by
 have h1:(L.map fun z=>((ix E z).map (·.item)).getD 0).Nodup:=by
  refine List.pairwise_map.2 ?_
  have:=h.hp.nodup
  refine List.Pairwise.imp_of_mem (R:=(· ≠ ·)) (fun {a b} ha hb hab e=>hab ?_) this
  obtain⟨i,_,_,hi⟩:=J9 ha
  obtain⟨j,_,_,hj⟩:=J9 hb
  obtain⟨x,x1,_⟩:=h.hp i a hi
  obtain⟨y,y1,_⟩:=h.hp j b hj
  refine h.item_inj ha hb x1 y1 ?_
  simpa[x1,y1] using e
 have:=O7 h1 (S:=vs) (fun x hx=>by
  obtain⟨a,ha,rfl⟩:=List.mem_map.1 hx
  obtain⟨i,_,_,hi⟩:=J9 ha
  obtain⟨e,e1,_⟩:=h.hp i a hi
  refine hv _ ?_
  have:=(h.mem e.item a).2 ⟨ha,e,e1,rfl⟩
  simp[e1,qkey,this])
 simpa using this
end Ab
end
section
namespace Ab
open Go
abbrev MpI:=List (Int×Int)
def P5(g x:Int):Prop:=Go.bits .and .u32 x g=g
def cst(c:MpI)(x:Int):Int:=(mget c x).getD 0
inductive PthW(vs:Li)(ms:List Mk)(g:Int):Int→Int→Prop
 |goal {x:Int} (h:x ∈ vs) (hg:P5 g x):PthW vs ms g x 0
 |step {x k:Int} {m:Mk} (h:x ∈ vs) (hm:m ∈ ms) (hc:canW m x) (hp:PthW vs ms g (tgtW m x) k):PthW vs ms g x (k+m.cost)
structure Gr(vs:Li)(ms:List Mk):Prop where
 cl:∀x ∈ vs,∀m ∈ ms,canW m x→tgtW m x ∈ vs
 co:∀m ∈ ms,0≤m.cost∧m.cost≤100
 ml:ms.length≤40
 vl:vs.length≤2000
structure Cd(vs:Li)(ms:List Mk)(g:Int)(c:MpI):Prop where
 dom:∀x ∈ vs,∃k,mget c x=some k∧0≤k∧k≤1000000000∧(k=1000000000∨PthW vs ms g x k)
 goal:∀x ∈ vs,P5 g x→mget c x=some 0
structure Iv(vs:Li)(ms:List Mk)(g:Int)(c M:MpI)(L:Li)(E:List En)(exc:Int→Prop):Prop where
 cd:Cd vs ms g c
 qu:Qu M L E
 qk:∀x k,qkey M E x=some k→x ∈ vs∧mget c x=some k
 arc:∀x ∈ vs,∀m ∈ ms,canW m x→¬ exc (tgtW m x)→qkey M E (tgtW m x)=none→cst c x≤cst c (tgtW m x)+m.cost
theorem Iv.len{vs:Li}{ms:List Mk}{g:Int}{c M:MpI}{L:Li}{E:List En}{exc:Int→Prop}(h:Iv vs ms g c M L E exc):L.length≤vs.length:=
 h.qu.le fun x hx=>by
  cases e:qkey M E x with
  |none=>exact absurd e hx
  |some k=>exact(h.qk x k e).1
def sm(vs:Li)(c:MpI):Nat:=(vs.map fun x=>(cst c x).toNat).sum
end Ab
end
section
namespace Ab
open Go
def Val(t:d6)(plan:Li):Prop:=∀x ∈ plan,(0:Int)≤x∧x<t.operators.length
def pcost(t:d6):Li→Int
 |[]=>0
 |op::r=>pcost t r+(opAt t op).cost
def Few(t:d6):Prop:=∃l:LL,l.Nodup∧l.length≤2000∧∀s,s ∈ l↔Rt t s
section
variable {t:d6}{vs:Li}
end
/-! ### A way that is not long -/
inductive Hop(vs:Li)(ms:List Mk)(g:Int):Nat→Int→Prop
 |goal {x:Int} (h:x ∈ vs) (hg:P5 g x):Hop vs ms g 0 x
 |step {x:Int} {n:Nat} {m:Mk} (h:x ∈ vs) (hm:m ∈ ms) (hc:canW m x) (hp:Hop vs ms g n (tgtW m x)):Hop vs ms g (n+1) x
section
variable {vs:Li}{ms:List Mk}{g:Int}
theorem Hop.of{x k:Int}(h:PthW vs ms g x k):∃n,Hop vs ms g n x:=by
 induction h with
 |goal hx hg=>exact⟨0,.goal hx hg⟩
 |step hx hm hc _ ih=>obtain⟨n,hn⟩:=ih;exact⟨n+1,.step hx hm hc hn⟩
theorem Hop.mem{n:Nat}{x:Int}(h:Hop vs ms g n x):x ∈ vs:=by cases h<;>assumption
def MHop(vs:Li)(ms:List Mk)(g:Int)(n:Nat)(x:Int):Prop:=Hop vs ms g n x∧∀m,m<n→¬ Hop vs ms g m x
theorem MHop.of:∀{n:Nat} {x:Int},Hop vs ms g n x→∃m,m≤n∧MHop vs ms g m x:=by
 intro n
 induction n using Nat.strongRecOn with
 |_ n ih=>
  intro x h
  by_cases c:∃m,m<n∧Hop vs ms g m x
  ·obtain⟨m,m1,m2⟩:=c
   obtain⟨q,q1,q2⟩:=ih m m1 m2
   exact⟨q,by omega,q2⟩
  ·exact⟨n,Nat.le_refl _,h,fun m hm hh=>c ⟨m,hm,hh⟩⟩
end
theorem words_of{t:d6}(ht:l7 t){vs:Li}(hl:vs.length≤2000)(hv:∀x,x ∈ vs↔Rwd t x):Gr vs (mks t):=⟨fun x hx m hm hc=>(hv _).2 (((hv x).1 hx).next ht hm hc),fun m hm=>by
 obtain⟨op,h0,h1,rfl⟩:=mks_mem hm
 exact(op_ok ht h0 h1).2,by simp[mks];exact ht.ops,hl⟩
theorem few_of{t:d6}(ht:l7 t){vs:Li}(hn:vs.Nodup)(hl:vs.length≤2000)(hv:∀x,x ∈ vs↔Rwd t x):Few t:=by
 obtain⟨ss,h1,h2⟩:=states_of (t:=t) (l:=vs) fun x hx=>(hv x).1 hx
 refine⟨ss,aj9 (f:=wd) (by rw[h1];exact hn),?_,fun s=>⟨h2 s,fun hs=> ?_⟩⟩
 ·have:=congrArg List.length h1
  simp only[List.length_map] at this;omega
 ·have:wd s ∈ ss.map wd:=by rw[h1];exact(hv _).2 ⟨s,hs,rfl⟩
  obtain⟨s',s1,s2⟩:=List.mem_map.1 this
  rw[wd_inj ht (hs.setN ht) ((h2 s' s1).setN ht) s2.symm];exact s1
theorem checked_spec(t:d6):(¬ l7 t∧∃f,q7 t=some f∧f.code ≠ 0∧x6 t=some (.inl (f.code,f.index)))∨(l7 t∧Many t∧x6 t=some (.inl (10, -7)))∨
  (l7 t∧Few t∧∃vs:Li,vs.Nodup∧vs.length≤2000∧(∀x,x ∈ vs↔Rwd t x)∧x6 t=some (.inr (wd t.init,wd t.goal,mks t,vs))):=by
 obtain⟨f,h1,_,h3⟩:=al8 t
 unfold x6
 rw[h1]
 simp only[oB]
 rcases h3 with⟨rfl,ht⟩|⟨hc,hn⟩
 ·rw[if_neg (by simp),of_eq ht]
  obtain⟨l,b,a1,a2,a3⟩:=all_spec ht (wd t.goal)
  simp only[oB,a1]
  cases b with
  |false=>exact .inr (.inl ⟨ht,a2 rfl,rfl⟩)
  |true=>
   obtain⟨q1,q2,q3⟩:=a3 rfl
   obtain⟨vs,v1,v2⟩:=sortW (l:=l) (by omega) (fun x hx=>by
    obtain⟨s,s1,rfl⟩:=(q3 x).1 hx
    exact wd_u32 ht (s1.setN ht))
   have hv:∀x,x ∈ vs↔Rwd t x:=fun x=>v2.mem_iff.trans (q3 x)
   have hvn:vs.Nodup:=v2.nodup_iff.2 q1
   have hvl:vs.length≤2000:=by rw[v2.length_eq];exact q2
   exact .inr (.inr ⟨ht,few_of ht hvn hvl hv,vs,hvn,hvl,hv,by simp[v1]⟩)
 ·rw[if_pos (by simp[hc])]
  exact .inl ⟨hn,f,rfl,hc,rfl⟩
inductive OptR(t:d6):Int×i9→Prop
 |bad {f:i9} (h:¬ l7 t) (hf:q7 t=some f) (hc:f.code ≠ 0):OptR t (0,f)
 |many (h:l7 t) (hm:Many t):OptR t (0,⟨10, -7⟩)
 |none (h:l7 t) (hf:Few t) (hn:∀plan,Val t plan→¬ U3 t t.init plan):OptR t (1000000000,⟨0,0⟩)
 |some {k:Int} {plan:Li} (h:l7 t) (hf:Few t) (h0:0≤k) (h1:k≤199900) (hv:Val t plan) (hw:U3 t t.init plan) (hk:pcost t plan=k) (hl:∀p,Val t p→U3 t t.init p→k≤pcost t p):OptR t (k,⟨0,0⟩)
end Ab
end
section
namespace Ab
open Go
abbrev Bk:=d4
abbrev MpB:=List (Int×Bk)
inductive FwW(ms:List Mk)(s:Int):Li→Int→Prop
 |nil:FwW ms s [] s
 |snoc {l:Li} {x op:Int} {m:Mk} (h:FwW ms s l x) (hm:ix ms op=some m) (hc:canW m x):FwW ms s (l++[op]) (tgtW m x)
structure Lvl(vs:Li)(ms:List Mk)(s:Int)(p:MpB)(d:Int→Nat):Prop where
 start:d s=0
 key:s ∈ p.map (·.1)
 nd:(p.map (·.1)).Nodup
 dom:∀x ∈ p.map (·.1),x ∈ vs
 back:∀x b,mget p x=some b→x=s∨(b.fFrom ∈ p.map (·.1)∧d x=d b.fFrom+1∧∃m,ix ms b.op=some m∧canW m b.fFrom∧tgtW m b.fFrom=x)
section
variable {vs:Li}{ms:List Mk}{g s:Int}{p:MpB}{d:Int→Nat}
theorem mget_key{x:Int}(h:x ∈ p.map (·.1)):∃b,mget p x=some b:=by
 cases e:mget p x with
 |none=>exact absurd h (ae4 e)
 |some b=>exact⟨b,rfl⟩
theorem path_end{c:Li}:s5 s p (c,s)=some (.inr c):=by
 unfold s5
 dsimp only
 rw[if_pos rfl]
theorem path_step{x:Int}{b:Bk}{c:Li}(e:x ≠ s)(hb:mget p x=some b)(hc:c.length≤1000000):s5 s p (c,x)=some (.inl (c++[b.op],b.fFrom)):=by
 unfold s5
 dsimp only
 rw[if_neg e,hb]
 simp only[Option.getD_some]
 rw[app,if_pos (by simp;omega)]
 rfl
theorem path_back(h:Lvl vs ms s p d):∀(k:Nat) {x:Int},x ∈ p.map (·.1)→d x=k→∀c:Li,c.length+k≤1000000→∃l,Loop (s5 s p) (c,x)=some (c++l)∧l.length=k∧FwW ms s l.reverse x
 |k,x,hx,hd,c,hc=>by
  by_cases e:x=s
  ·subst e
   rw[ai1,path_end]
   have:=h.start
   exact⟨[],by simp,by simp;omega,.nil⟩
  ·obtain⟨b,hb⟩:=mget_key hx
   rcases h.back x b hb with e'|⟨b1,b2,m,b3,b4,b5⟩
   ·exact absurd e' e
   ·cases k with
    |zero=>omega
    |succ k=>
     obtain⟨l,l1,l2,l3⟩:=path_back h k b1 (by omega) (c++[b.op]) (by simp;omega)
     refine⟨b.op::l,?_,by simp[l2],?_⟩
     ·rw[ai1,path_step e hb (by omega)]
      dsimp only
      rw[l1]
      simp
     ·rw[List.reverse_cons,← b5]
      exact .snoc l3 b3 b4
end
theorem height_all{vs:Li}{ms:List Mk}{s:Int}{p:MpB}{d:Int→Nat}(h:Lvl vs ms s p d):∀(k:Nat) {y:Int},y ∈ p.map (·.1)→d y=k→∃l:Li,l.length=k+1∧l.Nodup∧∀z ∈ l,z ∈ p.map (·.1)∧d z≤k
 |0,y,hy,e=>⟨[y],rfl,by simp,fun z hz=>by simp at hz;subst hz;exact⟨hy,by omega⟩⟩
 |k+1,y,hy,e=>by
  obtain⟨b,hb⟩:=mget_key hy
  rcases h.back y b hb with r|⟨r1,r2,_⟩
  ·subst r;have:=h.start;omega
  ·obtain⟨l,l1,l2,l3⟩:=height_all h k r1 (by omega)
   refine⟨y::l,by simp[l1],List.nodup_cons.2 ⟨fun q=>by have:=(l3 y q).2;omega,l2⟩,fun z hz=> ?_⟩
   rcases List.mem_cons.1 hz with rfl|hz
   ·exact⟨hy,by omega⟩
   ·have:=l3 z hz;exact⟨this.1,by omega⟩
theorem height_lt{vs:Li}{ms:List Mk}{s:Int}{p:MpB}{d:Int→Nat}(h:Lvl vs ms s p d)(k:Nat){y:Int}(hy:y ∈ p.map (·.1))(e:d y=k):k<p.length:=by
 obtain⟨l,l1,l2,l3⟩:=height_all h k hy e
 have:=O7 l2 (S:=p.map (·.1)) fun z hz=>(l3 z hz).1
 simp at this;omega
/-! ### What the search keeps -/
section
variable {vs:Li}{ms:List Mk}{g s:Int}
structure InI(vs:Li)(ms:List Mk)(g s x:Int)(p:MpB)(L:Li)(d:Int→Nat):Prop where
 lvl:Lvl vs ms s p d
 sub:∀y ∈ L,y ∈ p.map (·.1)
 nd:L.Nodup
 xk:x ∈ p.map (·.1)
 xl:x ∉ L
 srt:L.Pairwise (d · ≤d ·)
 hi:∀y ∈ p.map (·.1),d y≤d x+1
 lo:∀y ∈ p.map (·.1),y ∉ L→d y≤d x
 up:∀y ∈ L,d x≤d y
 dn:∀y ∈ p.map (·.1),y ∉ L→¬ P5 g y∧(y ≠ x→∀m ∈ ms,canW m y→tgtW m y ∈ p.map (·.1)∧d (tgtW m y)≤d y+1)
structure BfI(vs:Li)(ms:List Mk)(g s:Int)(p:MpB)(L:Li)(d:Int→Nat):Prop where
 lvl:Lvl vs ms s p d
 sub:∀y ∈ L,y ∈ p.map (·.1)
 nd:L.Nodup
 srt:L.Pairwise (d · ≤d ·)
 hi:∀x ∈ L,∀y ∈ p.map (·.1),d y≤d x+1
 lo:∀y ∈ p.map (·.1),y ∉ L→∀x ∈ L,d y≤d x
 dn:∀y ∈ p.map (·.1),y ∉ L→¬ P5 g y∧∀m ∈ ms,canW m y→tgtW m y ∈ p.map (·.1)∧d (tgtW m y)≤d y+1
theorem InI.of{x:Int}{L:Li}{p:MpB}{d:Int→Nat}(h:BfI vs ms g s p (x::L) d)(hg:¬ P5 g x):InI vs ms g s x p L d:=by
 have hn:=List.nodup_cons.1 h.nd
 have hs:=List.pairwise_cons.1 h.srt
 have key:∀y,y ∉ L→y ≠ x→y ∉ x::L:=fun y h1 h2 q=>by
  rcases List.mem_cons.1 q with q|q
  ·exact h2 q
  ·exact h1 q
 refine⟨h.lvl,fun y hy=>h.sub y (List.mem_cons_of_mem _ hy),hn.2,h.sub x (by simp),hn.1,hs.2,h.hi x (by simp),fun y hy hl=> ?_,hs.1,fun y hy hl=> ?_⟩
 ·by_cases e:y=x
  ·rw[e];exact Nat.le_refl _
  ·exact h.lo y hy (key y hl e) x (by simp)
 ·by_cases e:y=x
  ·exact⟨e ▸ hg,fun q=>absurd e q⟩
  ·have:=h.dn y hy (key y hl e)
   exact⟨this.1,fun _=>this.2⟩
theorem InI.out{x:Int}{L:Li}{p:MpB}{d:Int→Nat}(h:InI vs ms g s x p L d)(hx:∀m ∈ ms,canW m x→tgtW m x ∈ p.map (·.1)):BfI vs ms g s p L d:=by
 refine⟨h.lvl,h.sub,h.nd,h.srt,fun z hz y hy=> ?_,fun y hy hl z hz=> ?_,fun y hy hl=> ?_⟩
 ·have:=h.hi y hy;have:=h.up z hz;omega
 ·have:=h.lo y hy hl;have:=h.up z hz;omega
 ·refine⟨(h.dn y hy hl).1,fun m hm hc=> ?_⟩
  by_cases e:y=x
  ·subst e;exact⟨hx m hm hc,h.hi _ (hx m hm hc)⟩
  ·exact(h.dn y hy hl).2 e m hm hc
theorem InI.step{x z op:Int}{L:Li}{p:MpB}{d:Int→Nat}{m:Mk}(h:InI vs ms g s x p L d)(hz:mget p z=none)(hm:ix ms op=some m)(hc:canW m x)(e:tgtW m x=z)(hv:z ∈ vs):InI vs ms g s x (mset p z ⟨x,op⟩) (L++[z]) (fun y=>if y=z then d x+1 else d y):=by
 have hzk:=ae4 hz
 have hk:(mset p z (⟨x,op⟩:Bk)).map (·.1)=p.map (·.1)++[z]:=by rw[H5 hz];simp
 have old:∀y ∈ p.map (·.1),y ≠ z:=fun y hy q=>hzk (q ▸ hy)
 have oldL:∀y ∈ L,y ≠ z:=fun y hy=>old y (h.sub y hy)
 have hxz:=old x h.xk
 have mem:∀y,y ∈ p.map (·.1)++[z]→y ≠ z→y ∈ p.map (·.1):=fun y hy q=>by
  rcases List.mem_append.1 hy with hy|hy
  ·exact hy
  ·exact absurd (List.mem_singleton.1 hy) q
 refine⟨⟨?_,?_,?_,?_,?_⟩,?_,?_,?_,?_,?_,?_,?_,?_,?_⟩
 ·try dsimp only
  rw[if_neg (old s h.lvl.key)];exact h.lvl.start
 ·rw[hk];exact List.mem_append_left _ h.lvl.key
 ·rw[hk];exact List.nodup_append.2 ⟨h.lvl.nd,by simp,fun y hy w hw=>by simp at hw;subst hw;exact old y hy⟩
 ·rw[hk];intro y hy
  by_cases q:y=z
  ·rw[q];exact hv
  ·exact h.lvl.dom y (mem y hy q)
 ·intro y b hb
  rw[hk]
  rw[aa5] at hb
  by_cases q:y=z
  ·rw[if_pos q] at hb;cases hb
   refine .inr ⟨List.mem_append_left _ h.xk,?_,m,hm,hc,by rw[e,q]⟩
   try dsimp only
   rw[if_pos q,if_neg hxz]
  ·rw[if_neg q] at hb
   rcases h.lvl.back y b hb with r|⟨r1,r2,r3⟩
   ·exact .inl r
   ·refine .inr ⟨List.mem_append_left _ r1,?_,r3⟩
    try dsimp only
    rw[if_neg q,if_neg (old _ r1)];exact r2
 ·rw[hk];intro y hy
  rcases List.mem_append.1 hy with hy|hy
  ·exact List.mem_append_left _ (h.sub y hy)
  ·exact List.mem_append_right _ hy
 ·exact List.nodup_append.2 ⟨h.nd,by simp,fun y hy w hw=>by simp at hw;subst hw;exact oldL y hy⟩
 ·rw[hk];exact List.mem_append_left _ h.xk
 ·intro q
  rcases List.mem_append.1 q with q|q
  ·exact h.xl q
  ·exact hxz (List.mem_singleton.1 q)
 ·refine List.pairwise_append.2 ⟨?_,List.pairwise_singleton _ _,fun y hy w hw=> ?_⟩
  ·refine List.Pairwise.imp_of_mem (fun {a b} ha hb hab=> ?_) h.srt
   try dsimp only
   rw[if_neg (oldL a ha),if_neg (oldL b hb)];exact hab
  ·simp at hw;subst hw
   try dsimp only
   rw[if_neg (oldL y hy),if_pos rfl];exact h.hi y (h.sub y hy)
 ·rw[hk];intro y hy
  try dsimp only
  rw[if_neg hxz]
  split
  ·omega
  ·rename_i q;exact h.hi y (mem y hy q)
 ·rw[hk];intro y hy hl
  have q:y ≠ z:=fun q=>hl (by rw[q];simp)
  try dsimp only
  rw[if_neg hxz,if_neg q]
  exact h.lo y (mem y hy q) fun r=>hl (List.mem_append_left _ r)
 ·intro y hy
  try dsimp only
  rw[if_neg hxz]
  rcases List.mem_append.1 hy with hy|hy
  ·rw[if_neg (oldL y hy)];exact h.up y hy
  ·rw[if_pos (List.mem_singleton.1 hy)];omega
 ·rw[hk];intro y hy hl
  have q:y ≠ z:=fun q=>hl (by rw[q];simp)
  obtain⟨k1,k2⟩:=h.dn y (mem y hy q) fun r=>hl (List.mem_append_left _ r)
  refine⟨k1,fun r m' hm' hc'=> ?_⟩
  obtain⟨l1,l2⟩:=k2 r m' hm' hc'
  refine⟨List.mem_append_left _ l1,?_⟩
  try dsimp only
  rw[if_neg (old _ l1),if_neg q];exact l2
theorem BfI.way{L:Li}{p:MpB}{d:Int→Nat}(h:BfI vs ms g s p L d){l:Li}{y:Int}(hw:FwW ms s l y):(y ∈ p.map (·.1)∧d y≤l.length)∨∃z ∈ L,d z≤l.length:=by
 induction hw with
 |nil=>exact .inl ⟨h.lvl.key,by rw[h.lvl.start];exact Nat.zero_le _⟩
 |@snoc l y op m hw hm hc ih=>
  simp only[List.length_append,List.length_singleton]
  rcases ih with⟨i1,i2⟩|⟨z,z1,z2⟩
  ·by_cases q:y ∈ L
   ·exact .inr ⟨y,q,by omega⟩
   ·obtain⟨k1,k2⟩:=(h.dn y i1 q).2 m (s8 hm) hc
    exact .inl ⟨k1,by omega⟩
  ·exact .inr ⟨z,z1,by omega⟩
theorem BfI.none{p:MpB}{d:Int→Nat}(h:BfI vs ms g s p [] d){l:Li}{y:Int}(hw:FwW ms s l y):¬ P5 g y:=by
 rcases h.way hw with⟨h1,_⟩|⟨z,z1,_⟩
 ·exact(h.dn y h1 (by simp)).1
 ·cases z1
theorem BfI.least{x:Int}{L:Li}{p:MpB}{d:Int→Nat}(h:BfI vs ms g s p (x::L) d){l:Li}{y:Int}(hw:FwW ms s l y)(hy:P5 g y):d x≤l.length:=by
 have hs:=List.pairwise_cons.1 h.srt
 have key:∀z ∈ x::L,d x≤d z:=fun z hz=>by
  rcases List.mem_cons.1 hz with rfl|hz
  ·exact Nat.le_refl _
  ·exact hs.1 z hz
 rcases h.way hw with⟨h1,h2⟩|⟨z,z1,z2⟩
 ·by_cases q:y ∈ x::L
  ·have:=key y q;omega
  ·exact absurd hy (h.dn y h1 q).1
 ·have:=key z z1;omega
end
/-! ### The search -/
section
variable {vs:Li}{ms:List Mk}{g s:Int}
theorem in_all(hg:Gr vs ms){x:Int}{p:MpB}{L:Li}{d:Int→Nat}(h:InI vs ms g s x p L d){c:Li}(hc:k6 c (0+1) ((c.length:Int) - 1)=L)(hl:L.length<p.length):
  ∃p' L' d',B7 ms p c x=some (p',L')∧BfI vs ms g s p' L' d'∧L'.length+p.length=L.length+p'.length∧p.length≤p'.length:=by
 have hvl:=hg.vl
 have hml:=hg.ml
 unfold B7
 obtain⟨⟨p',L'⟩,h1,⟨d',h2,h3,h4⟩,h5⟩:=S8 (body:=B4 ms x) (n:=(ms.length:Int)) (s:=(p,k6 c (0+1) ((c.length:Int) - 1)))
  (fun j q=>(∃d',InI vs ms g s x q.1 q.2 d'∧q.2.length+p.length=L.length+q.1.length∧p.length≤q.1.length)∧∀i m,i<j→ix ms i=some m→canW m x→tgtW m x ∈ q.1.map (·.1)) (by omega)
  ⟨⟨d,by rw[hc];exact h,by rw[hc],Nat.le_refl _⟩,fun i m hi hm=>by have:=(p9 hm).1;omega⟩ (fun j q j0 j1 hP=>by
   obtain⟨p',L'⟩:=q
   obtain⟨⟨d',q1,q2,q3⟩,q4⟩:=hP
   dsimp only at q1 q2 q3 q4
   obtain⟨m,hm,_⟩:=o9 j0 j1
   have hmm:=s8 hm
   unfold B4
   simp only[hm,oB]
   by_cases c1:Go.bits .and .u32 x m.pre=m.pre
   ·rw[if_pos c1]
    have c1':canW m x:=c1
    have ee:Go.bits .or .u32 (Go.bits .andNot .u32 x m.del) m.add=tgtW m x:=rfl
    rw[ee]
    by_cases c2:mget p' (tgtW m x)=none
    ·rw[if_pos (by simp[c2])]
     have hp:p'.length≤vs.length:=by
      have:=O7 q1.lvl.nd (S:=vs) q1.lvl.dom
      simpa using this
     have ha:app 4 L' [tgtW m x]=some (L'++[tgtW m x]):=by unfold app;rw[if_pos (by simp;omega)]
     simp only[ha,oB]
     refine⟨_,rfl,⟨_,q1.step c2 hm c1' rfl (hg.cl x (q1.lvl.dom x q1.xk) m hmm c1'),?_,?_⟩,fun i m' hi hm' hc'=> ?_⟩
     ·simp only[H5 c2,List.length_append,List.length_singleton];omega
     ·simp only[H5 c2,List.length_append,List.length_singleton];omega
     ·simp only[H5 c2,List.map_append,List.mem_append]
      by_cases e:i=j
      ·subst e;rw[hm] at hm';cases hm';exact .inr (by simp)
      ·exact .inl (q4 i m' (by omega) hm' hc')
    ·rw[if_neg (by simp;cases e:mget p' (tgtW m x) with|none=>exact absurd e c2|some _=>simp)]
     refine⟨_,rfl,⟨d',q1,q2,q3⟩,fun i m' hi hm' hc'=> ?_⟩
     by_cases e:i=j
     ·subst e;rw[hm] at hm';cases hm'
      cases e:mget p' (tgtW m x) with
      |none=>exact absurd e c2
      |some b=>exact List.mem_map.2 ⟨_,an9 e,rfl⟩
     ·exact q4 i m' (by omega) hm' hc'
   ·rw[if_neg c1]
    refine⟨_,rfl,⟨d',q1,q2,q3⟩,fun i m' hi hm' hc'=> ?_⟩
    by_cases e:i=j
    ·subst e;rw[hm] at hm';cases hm';exact absurd hc' c1
    ·exact q4 i m' (by omega) hm' hc')
 refine⟨p',L',d',by rw[h1];rfl,h2.out fun m hm hcan=> ?_,h3,h4⟩
 obtain⟨i,i0,i1,hi⟩:=J9 hm
 exact h5 i m i1 hi hcan
theorem first_spec(hg:Gr vs ms)(hn:vs.Nodup)(hs:s ∈ vs):∃r,A4 s g ms=some r∧((r=([],false)∧∀l y,FwW ms s l y→¬ P5 g y)∨
    ∃plan,r=(plan,true)∧∃y,FwW ms s plan y∧P5 g y∧∀l z,FwW ms s l z→P5 g z→plan.length≤l.length):=by
  have hvl:=hg.vl
  unfold A4
  simp only[p8,oB]
  have h0:BfI vs ms g s (mset ([]:MpB) s ⟨s,0⟩) [s] (fun _=>0):=by
    refine⟨⟨rfl,by simp[mset],by simp[mset],by simp[mset];exact hs,fun x b hb=> ?_⟩,by simp[mset],by simp,by simp,fun x _ y _=>by omega,fun y _ _ x _=>by omega,fun y hy hl=> ?_⟩
    · simp only[mset,mget] at hb
      split at hb
      · rename_i e;exact .inl e
      · cases hb
    · simp[mset] at hy;simp at hl;exact absurd hy hl
  obtain⟨o,o1,o2⟩:=X6 (body:=B6 s g ms) (s:=(mset ([]:MpB) s (⟨s,0⟩:Bk),[s]))
    (fun q=>(∃d,BfI vs ms g s q.1 q.2 d)∧q.2.length≤q.1.length)
    (fun o => match o with
      | .inl _=>∀l y,FwW ms s l y→¬ P5 g y
      | .inr r=>∃plan,r=(plan,true)∧∃y,FwW ms s plan y∧P5 g y∧∀l z,FwW ms s l z→P5 g z→plan.length≤l.length)
    (fun q=>2 * (vs.length - q.1.length)+q.2.length) ⟨⟨_,h0⟩,by simp[mset]⟩ (by
      rintro ⟨p,L⟩ ⟨⟨d,q1⟩,q2⟩
      dsimp only at q1 q2
      have hp:p.length≤vs.length:=by
        have:=O7 q1.lvl.nd (S:=vs) q1.lvl.dom
        simpa using this
      unfold B6
      dsimp only
      cases L with
      |nil=>
        rw[if_neg (by simp)]
        exact .inr ⟨_,rfl,fun l y hw=>q1.none hw⟩
      |cons x L=>
        rw[if_pos (by simp)]
        have e0:ix (x::L) 0=some x:=rfl
        simp only[e0,cutV,oB,G5,w7]
        rw[if_pos (by simp only[List.length_cons];omega)]
        simp only[oB]
        by_cases c:Go.bits .and .u32 x g=g
        · rw[if_pos c]
          have hx:=q1.sub x (by simp)
          have hdx:d x≤2000:=by
            have:=height_lt q1.lvl _ hx rfl
            omega
          obtain⟨l,l1,l2,l3⟩:=path_back q1.lvl (d x) hx rfl [] (by simp;omega)
          unfold K1
          rw[l1]
          simp only[oB,List.nil_append]
          exact .inr ⟨_,rfl,_,rfl,x,l3,c,fun l z hw hz=>by
            have:=q1.least hw hz
            rw[List.length_reverse,l2];exact this⟩
        · rw[if_neg c]
          obtain⟨p',L',d',k1,k2,k3,k4⟩:=in_all hg (InI.of q1 c) (c:=x::L) (by simp[k6]) (by simp at q2;omega)
          rw[k1]
          simp only[oB]
          have hp':p'.length≤vs.length:=by
            have:=O7 k2.lvl.nd (S:=vs) k2.lvl.dom
            simpa using this
          simp only[List.length_cons] at q2
          refine .inl ⟨_,rfl,⟨⟨d',k2⟩,by dsimp only;omega⟩,?_⟩
          simp only[List.length_cons]
          omega)
  rw[o1]
  rcases o with u|r
  · exact⟨_,rfl,.inl ⟨rfl,o2⟩⟩
  · exact⟨_,rfl,.inr o2⟩
end
end Ab
end
section
namespace Ab
open Go
inductive Ed:Nat→Li→Li→Prop
 |nil:Ed 0 [] []
 |keep {n:Nat} {x:Int} {a b:Li} (h:Ed n a b):Ed n (x::a) (x::b)
 |del {n:Nat} {x:Int} {a b:Li} (h:Ed n a b):Ed (n+1) (x::a) b
 |ins {n:Nat} {y:Int} {a b:Li} (h:Ed n a b):Ed (n+1) a (y::b)
theorem Ed.symm{n:Nat}{a b:Li}(h:Ed n a b):Ed n b a:=by
 induction h with
 |nil=>exact .nil
 |keep _ ih=>exact .keep ih
 |del _ ih=>exact .ins ih
 |ins _ ih=>exact .del ih
theorem Ed.refl:∀a:Li,Ed 0 a a
 |[]=>.nil
 |_::a=>.keep (Ed.refl a)
theorem Ed.trans{n m:Nat}{a b c:Li}(h:Ed n a b)(k:Ed m b c):∃q,q≤n+m∧Ed q a c:=by
 induction h generalizing m c with
 |nil=>exact⟨m,by omega,k⟩
 |@keep n x a b h ih=>
  generalize hb:x::b=b' at k
  induction k with
  |nil=>cases hb
  |keep k _=>
   cases hb
   obtain⟨q,h1,h2⟩:=ih k
   exact⟨q,h1,.keep h2⟩
  |del k _=>
   cases hb
   obtain⟨q,h1,h2⟩:=ih k
   exact⟨q+1,by omega,.del h2⟩
  |ins k ihk=>
   obtain⟨q,h1,h2⟩:=ihk hb
   exact⟨q+1,by omega,.ins h2⟩
 |del h ih=>
  obtain⟨q,h1,h2⟩:=ih k
  exact⟨q+1,by omega,.del h2⟩
 |@ins n y a b h ih=>
  generalize hb:y::b=b' at k
  induction k with
  |nil=>cases hb
  |keep k _=>
   cases hb
   obtain⟨q,h1,h2⟩:=ih k
   exact⟨q+1,by omega,.ins h2⟩
  |del k _=>
   cases hb
   obtain⟨q,h1,h2⟩:=ih k
   exact⟨q,by omega,h2⟩
  |ins k ihk=>
   obtain⟨q,h1,h2⟩:=ihk hb
   exact⟨q+1,by omega,.ins h2⟩
theorem Ed.keepR{n:Nat}{a b:Li}(x:Int)(h:Ed n a b):Ed n (a++[x]) (b++[x]):=by
 induction h with
 |nil=>exact .keep .nil
 |keep _ ih=>exact .keep ih
 |del _ ih=>exact .del ih
 |ins _ ih=>exact .ins ih
theorem Ed.delR{n:Nat}{a b:Li}(x:Int)(h:Ed n a b):Ed (n+1) (a++[x]) b:=by
 induction h with
 |nil=>exact .del .nil
 |keep _ ih=>exact .keep ih
 |del _ ih=>exact .del ih
 |ins _ ih=>exact .ins ih
theorem Ed.insR{n:Nat}{a b:Li}(x:Int)(h:Ed n a b):Ed (n+1) a (b++[x]):=by
 induction h with
 |nil=>exact .ins .nil
 |keep _ ih=>exact .keep ih
 |del _ ih=>exact .del ih
 |ins _ ih=>exact .ins ih
def dmG(x:Int)(f:Li→Nat)(n:Nat):Li→Nat
 |[]=>n
 |y::b=>if x=y then min (min (f (y::b)) (dmG x f n b)+1) (f b) else min (f (y::b)) (dmG x f n b)+1
def dm:Li→Li→Nat
 |[],b=>b.length
 |x::a,b=>dmG x (dm a) (a.length+1) b
theorem dm_nil:∀a:Li,dm a []=a.length
 |[]=>rfl
 |_::_=>rfl
theorem dm_cons(x y:Int)(a b:Li):dm (x::a) (y::b)=if x=y then min (min (dm a (y::b)) (dm (x::a) b)+1) (dm a b) else min (dm a (y::b)) (dm (x::a) b)+1:=rfl
theorem Ed.all:∀b:Li,Ed b.length [] b
 |[]=>.nil
 |_::b=>.ins (Ed.all b)
theorem Ed.none:∀b:Li,Ed b.length b []
 |[]=>.nil
 |_::b=>.del (Ed.none b)
theorem dm_ed:∀a b:Li,Ed (dm a b) a b
 |[],b=>Ed.all b
 |x::a,[]=>Ed.none (x::a)
 |x::a,y::b=>by
  have h1:=(dm_ed a (y::b)).del (x:=x)
  have h2:=(dm_ed (x::a) b).ins (y:=y)
  have h3:=dm_ed a b
  rw[dm_cons]
  have hmin:Ed (min (dm a (y::b)) (dm (x::a) b)+1) (x::a) (y::b):=by
   rcases Nat.le_total (dm a (y::b)) (dm (x::a) b) with h|h
   ·rw[Nat.min_eq_left h];exact h1
   ·rw[Nat.min_eq_right h];exact h2
  by_cases hxy:x=y
  ·subst hxy
   rw[if_pos rfl]
   rcases Nat.le_total (min (dm a (x::b)) (dm (x::a) b)+1) (dm a b) with h|h
   ·rw[Nat.min_eq_left h];exact hmin
   ·rw[Nat.min_eq_right h];exact .keep h3
  ·rw[if_neg hxy];exact hmin
termination_by a b=>a.length+b.length
theorem dm_le{n:Nat}{a b:Li}(h:Ed n a b):dm a b≤n:=by
 induction h with
 |nil=>exact Nat.le_refl _
 |keep _ ih=>rw[dm_cons,if_pos rfl];omega
 |@del n x a b h ih=>
  cases b with
  |nil=>rw[dm_nil] at ih ⊢;simp;omega
  |cons y b=>
   rw[dm_cons]
   split<;>omega
 |@ins n y a b h ih=>
  cases a with
  |nil=>simp only[dm,List.length_cons] at ih ⊢;omega
  |cons x a=>
   rw[dm_cons]
   split<;>omega
/-! ### Distance -/
def RowIs(m:Nat)(f:Nat→Nat)(row:Li):Prop:=row.length=m+1∧∀k,k≤m→row[k]? =some (f k:Int)
theorem RowIs.ix{m:Nat}{f:Nat→Nat}{row:Li}(h:RowIs m f row){k:Nat}(hk:k≤m):ix row (k:Int)=some (f k:Int):=by rw[M1];exact h.2 k hk
theorem RowIs.set{m:Nat}{f:Nat→Nat}{row:Li}(h:RowIs m f row)(k v:Nat):RowIs m (fun i=>if i=k then v else f i) (row.set k (v:Int)):=by
 refine⟨by rw[lS];exact h.1,fun i hi=> ?_⟩
 rw[List.getElem?_set]
 by_cases e:k=i
 ·subst e;simp[h.1];omega
 ·rw[if_neg e,h.2 i hi];simp[show ¬ i=k from fun e'=>e e'.symm]
end Ab
end
section
namespace Ab
open Go
end Ab
end
section
namespace Ab
open Go
theorem ap7{α β:Type}{l:List α}{body:Int→List β→Option (List β)}(g:α→List β)(N:Nat)(c0:List β)
  (hb:∀j a c,ix l j=some a→c.length+(g a).length≤N→body j c=some (c++g a)) (hN:c0.length+(l.flatMap g).length≤N):
  forR 0 (l.length:Int) body c0=some (c0++l.flatMap g):=by
 obtain⟨s',h1,h2⟩:=S8 (body:=body) (n:=(l.length:Int)) (s:=c0) (fun j c=>c=c0++(l.take j.toNat).flatMap g) (by omega) (by simp) (fun j c h0 h1 hP=>by
  obtain⟨a,g1,g2⟩:=o9 h0 h1
  have e:(j+1).toNat=j.toNat+1:=by omega
  have ht:l.take (j+1).toNat=l.take j.toNat++[a]:=by rw[e,List.take_add_one,g2];rfl
  refine⟨c++g a,hb j a c g1 ?_,?_⟩
  ·have hs:l=l.take j.toNat++[a]++l.drop (j+1).toNat:=by rw[← ht,List.take_append_drop]
   have hl:(l.flatMap g).length=((l.take j.toNat).flatMap g).length+(g a).length+((l.drop (j+1).toNat).flatMap g).length:=by
    conv=>lhs;rw[hs]
    simp[List.flatMap_append];omega
   rw[hP,List.length_append];omega
  ·rw[ht,List.flatMap_append,hP];simp)
 rw[h1,h2]
 simp
theorem small_eq:∀n:Fin 100,(F9 (n:Nat)).map strL=some (dg (n:Nat)):=by decide+kernel
theorem appendInt_eq{x:Int}(hx:0≤x∧x<100){l:Li}(hl:l.length≤1000000):z8 x 10 l=some (l++dg x):=by
 have h:=small_eq ⟨x.toNat,by omega⟩
 rw[show(((⟨x.toNat,by omega⟩:Fin 100):Nat):Int)=x by simp;omega] at h
 obtain⟨b,h1,h2⟩:=oM.1 h
 first
  |unfold z8 y6 w8
  |unfold z8 internal_strconv_AppendInt_w2 internal_strconv_AppendUint_w3
 rw[if_neg (by omega),IntKind.wrap_u64,Int.emod_eq_of_lt (by omega) (by omega)]
 simp only[oB,if_true]
 rw[if_pos hx.2,I2 (by omega) (by omega),h1]
 simp only[oB,h2]
 have:(dg x).length≤2:=by unfold dg;split<;>simp
 rw[app,if_pos (by omega)]
 rfl
theorem dg_len(x:Int):(dg x).length≤2:=by unfold dg;split<;>simp
theorem key_eq{l:LL}(hs:∀s ∈ l,small s)(hN:(encK l).length≤900000):x5 l=some (keyK l):=by
 unfold x5
 rw[ap7 encS 900000 [] (fun j s c hj hc=>by
  unfold af7
  rw[hj]
  simp only[oB]
  have hlen:(encS s).length=(s.flatMap fun x=>dg x++[44]).length+1:=by simp[encS]
  rw[ap7 (fun x=>dg x++[44]) 900000 c (fun i x c' hi hc'=>by
   unfold af9
   rw[hi]
   simp only[List.length_append,List.length_singleton] at hc'
   simp only[oB,appendInt_eq (hs s (s8 hj) x (s8 hi)) (l:=c') (by omega)]
   rw[app,if_pos (by simp;omega)]
   simp) (by omega)]
  simp only[oB]
  rw[app,if_pos (by rw[List.length_append];simp only[List.length_singleton];omega)]
  simp[encS]) (by simpa[encK] using hN)]
 rfl
theorem ao0:∀s:Li,(encS s).length≤3 * s.length+1
 |[]=>by simp[encS]
 |x::s=>by
  have:=ao0 s
  have:=dg_len x
  rw[af2]
  simp only[List.length_append,List.length_cons]
  omega
theorem key2_eq{s a:Li}(hs:small s)(ha:small a)(h1:s.length≤1000)(h2:a.length≤1000):x5 [s,a]=some (keyK [s,a]):=by
 refine key_eq (by simp[hs,ha]) ?_
 have:=ao0 s;have:=ao0 a
 simp only[encK,List.flatMap_cons,List.flatMap_nil,List.length_append,List.append_nil]
 omega
end Ab
end
section
namespace Ab
open Go
/-! ### All sets -/
def allS:Nat→Int→LL
 |0,_=>[[]]
 |n+1,k=>allS n (k+1)++(allS n (k+1)).map (k:: ·)
theorem ao7:∀{n:Nat} {k:Int} {l:Li},Inc l→(∀x ∈ l,k≤x∧x<k+n)→l ∈ allS n k
 |0,k,l,_,h=>by
  cases l with
  |nil=>simp[allS]
  |cons a l=>have:=h a (by simp);omega
 |n+1,k,l,hi,h=>by
  simp only[allS,List.mem_append,List.mem_map]
  cases l with
  |nil=>exact .inl (ao7 .nil (by simp))
  |cons a l=>
   have hi':=List.pairwise_cons.1 hi
   have ha:=h a (by simp)
   by_cases e:a=k
   ·subst e
    refine .inr ⟨l,ao7 hi'.2 fun x hx=> ?_,rfl⟩
    have:=hi'.1 x hx
    have:=h x (List.mem_cons_of_mem _ hx)
    omega
   ·refine .inl (ao7 hi fun x hx=> ?_)
    have h2:=h x hx
    rcases List.mem_cons.1 hx with rfl|hx
    ·omega
    ·have:=hi'.1 x hx;omega
theorem allS_len:∀(n:Nat) (k:Int),(allS n k).length=2 ^ n
 |0,_=>rfl
 |n+1,k=>by simp only[allS,List.length_append,List.length_map,allS_len n];rw[Nat.pow_succ];omega
/-! ### Keys -/
def kk(s:Li)(a:Int):ByteArray:=keyK [s,[a]]
def univ:List ByteArray:=(allS 24 0).flatMap fun s=>(List.range 61).map fun a:Nat=>kk s (a:Int)
theorem flat_lenP{α β:Type}(f:α→List β)(n:Nat)(hf:∀a,(f a).length=n):∀l:List α,(l.flatMap f).length=l.length * n
 |[]=>by simp
 |a::l=>by simp only[List.flatMap_cons,List.length_append,flat_lenP f n hf l,hf,List.length_cons,Nat.succ_mul];omega
theorem univ_lenN(n:Nat):((allS n 0).flatMap fun s=>(List.range 61).map fun a:Nat=>kk s (a:Int)).length=2 ^ n * 61:=by
 rw[flat_lenP _ 61 (fun a=>by simp),allS_len]
theorem univ_len:univ.length=2 ^ 24 * 61:=univ_lenN 24
theorem mem_univ{t:d6}(ht:l7 t){s:Li}(hs:SetN s t.facts){a:Int}(h0:0≤a)(h1:a≤60):kk s a ∈ univ:=by
 have:=ht.n1
 refine List.mem_flatMap.2 ⟨s,ao7 hs.1 fun x hx=>by have:=hs.2 x hx;omega,List.mem_map.2 ⟨a.toNat,by simp;omega,by rw[Int.toNat_of_nonneg h0]⟩⟩
theorem O8{t:d6}(ht:l7 t){s:Li}(hs:SetN s t.facts):small s:=fun x hx=>by
 have:=ht.n1
 have:=hs.2 x hx
 omega
theorem small_one{a:Int}(h0:0≤a)(h1:a≤60):small [a]:=fun x hx=>by
 simp at hx;subst hx;omega
theorem kk_eq{t:d6}(ht:l7 t){s:Li}(hs:SetN s t.facts){a:Int}(h0:0≤a)(h1:a≤60):x5 [s,[a]]=some (kk s a):=by
 have:=ht.n1
 have:=hs.len
 exact key2_eq (O8 ht hs) (small_one h0 h1) (by omega) (by simp)
theorem kk_inj{t:d6}(ht:l7 t){s s':Li}(hs:SetN s t.facts)(hs':SetN s' t.facts){a a':Int}(h0:0≤a)(h1:a≤60)(h0':0≤a')(h1':a'≤60)(h:kk s a=kk s' a'):s=s'∧a=a':=by
 have:=keyK_inj (fun x hx=>by
  rcases List.mem_cons.1 hx with rfl|hx
  ·exact O8 ht hs
  ·simp at hx;subst hx;exact small_one h0 h1) (fun x hx=>by
  rcases List.mem_cons.1 hx with rfl|hx
  ·exact O8 ht hs'
  ·simp at hx;subst hx;exact small_one h0' h1') h
 simpa using this
/-! ### Maps -/
section
variable {K V:Type}[DecidableEq K]
def late(c:Int)(m:List (K×Int)):Nat:=(m.filter fun p=>decide (c<p.2)).length
theorem late_app(c:Int)(m m':List (K×Int)):late c (m++m')=late c m+late c m':=by simp[late,List.filter_append]
theorem S0(c:Int)(p:K×Int)(m:List (K×Int)):late c (p::m)=(if c<p.2 then 1 else 0)+late c m:=by
 simp only[late,List.filter_cons]
 by_cases h:c<p.2
 ·simp[h];omega
 ·simp[h]
theorem late_one(c:Int)(p:K×Int):late c [p]≤1:=by
 rw[S0];simp only[late,List.filter_nil,List.length_nil];split<;>omega
theorem late_set{c v:Int}{k:K}(hv:v≤c):∀{m:List (K×Int)} {old:Int},mget m k=some old→c<old→late c (mset m k v)+1=late c m
 |[],old,h,_=>by cases h
 |p::r,old,h,ho=>by
  simp only[mget] at h
  simp only[mset]
  split at h
  ·rename_i e
   cases h
   rw[if_pos e,S0,S0,if_neg (by simp only;omega),if_pos ho];omega
  ·rename_i hne
   have:=late_set hv h ho
   rw[if_neg hne,S0,S0];omega
theorem late_mono{c c':Int}(h:c≤c'):∀m:List (K×Int),late c' m≤late c m
 |[]=>Nat.le_refl _
 |p::r=>by
  have:=late_mono h r
  rw[S0,S0]
  by_cases h1:c'<p.2
  ·rw[if_pos h1,if_pos (by omega)];omega
  ·rw[if_neg h1];omega
end
/-! ### What the search keeps -/
abbrev Mp':=List (ByteArray×Int)
inductive Chn(ns:List d5):Int→Li→Prop
 |root {i:Int} (h:i<0):Chn ns i []
 |op {i:Int} {n:d5} {st:Li} (h:ix ns i=some n) (ho:0≤n.op) (hf:n.ffrom<i) (hc:Chn ns n.ffrom st):Chn ns i (st++[n.op])
 |no {i:Int} {n:d5} {st:Li} (h:ix ns i=some n) (ho:n.op<0) (hf:n.ffrom<i) (hc:Chn ns n.ffrom st):Chn ns i st
theorem Chn.mono{ns ns':List d5}{i:Int}{st:Li}(hn:∀i n,ix ns i=some n→ix ns' i=some n)(h:Chn ns i st):Chn ns' i st:=by
 induction h with
 |root h=>exact .root h
 |op h ho hf _ ih=>exact .op (hn _ _ h) ho hf ih
 |no h ho hf _ ih=>exact .no (hn _ _ h) ho hf ih
def pot(c:Int)(m:Mp'):Nat:=2 * (univ.length - m.length)+late c m
structure NodeOk(t:d6)(plan:Li)(n:d5):Prop where
 set:SetN n.fs t.facts
 at0:0≤n.fat
 at1:n.fat≤plan.length
 ch0:0≤n.change
def Way(t:d6)(plan st:Li)(n:d5):Prop:=(∀x ∈ st,0≤x∧x<t.operators.length)∧ends t t.init st=some n.fs∧Ed n.change.toNat (plan.take n.fat.toNat) st
structure Bs(t:d6)(plan:Li)(c:Int)(m:Mp')(ns:List d5)(q:LL):Prop where
 node:∀i n,ix ns i=some n→NodeOk t plan n∧n.change≤c+1∧∃st,Chn ns i st∧Way t plan st n
 m1:∀i n,ix ns i=some n→∃v,mget m (kk n.fs n.fat)=some v∧v≤n.change
 m2:∀(s:Li) (a v:Int),SetN s t.facts→0≤a→a≤plan.length→mget m (kk s a)=some v→∃i n,ix ns i=some n∧n.fs=s∧n.fat=a∧n.change=v
 qs:∀b row,ix q b=some row→∀i ∈ row,∃n,ix ns i=some n∧n.change=b
 qn:∀i n,ix ns i=some n→∃row p,ix q n.change=some row∧ix row p=some i
 nd:(m.map (·.1)).Nodup
 un:∀k ∈ m.map (·.1),k ∈ univ
 vl:∀p ∈ m,p.2≤c+1
 ql:q.length≤ns.length
 rl:∀b row,ix q b=some row→row.length≤ns.length
structure Stp(c:Int)(m:Mp')(ns:List d5)(q:LL)(m':Mp')(ns':List d5)(q':LL):Prop where
 sat:∀k v,mget m k=some v→∃v',mget m' k=some v'∧v'≤v
 nst:∀i n,ix ns i=some n→ix ns' i=some n
 row:∀b row,ix q b=some row→∃e,ix q' b=some (row++e)
 old:∀b,b<c→ix q' b=ix q b
 len:q.length≤q'.length
 psi:q'.length+pot c m'≤q.length+pot c m
 pend:∀row,ix q c=some row→∃row',ix q' c=some row'∧row'.length+pot c m'≤row.length+pot c m
 nsl:ns'.length+pot c m'≤ns.length+pot c m
theorem Stp.refl(c:Int)(m:Mp')(ns:List d5)(q:LL):Stp c m ns q m ns q:=
 ⟨fun k v h=>⟨v,h,Int.le_refl _⟩,fun _ _ h=>h,fun b row h=>⟨[],by simpa using h⟩,fun _ _=>rfl,Nat.le_refl _,Nat.le_refl _,fun row h=>⟨row,h,Nat.le_refl _⟩,Nat.le_refl _⟩
theorem Stp.trans{c:Int}{m m' m'':Mp'}{ns ns' ns'':List d5}{q q' q'':LL}(h:Stp c m ns q m' ns' q')(k:Stp c m' ns' q' m'' ns'' q''):Stp c m ns q m'' ns'' q'' where
 sat a v g:=by
  obtain⟨v',g1,g2⟩:=h.sat a v g
  obtain⟨v'',g3,g4⟩:=k.sat a v' g1
  exact⟨v'',g3,by omega⟩
 nst i n g:=k.nst i n (h.nst i n g)
 row b row g:=by
  obtain⟨e,g1⟩:=h.row b row g
  obtain⟨e',g2⟩:=k.row b _ g1
  exact⟨e++e',by rw[g2,List.append_assoc]⟩
 old b hb:=(k.old b hb).trans (h.old b hb)
 len:=Nat.le_trans h.len k.len
 psi:=by have:=h.psi;have:=k.psi;omega
 pend row g:=by
  obtain⟨r',g1,g2⟩:=h.pend row g
  obtain⟨r'',g3,g4⟩:=k.pend r' g1
  exact⟨r'',g3,by omega⟩
 nsl:=by have:=h.nsl;have:=k.nsl;omega
def Sat(m:Mp')(s:Li)(a d:Int):Prop:=∃v,mget m (kk s a)=some v∧v≤d
theorem Stp.keep{c:Int}{m m':Mp'}{ns ns':List d5}{q q':LL}(h:Stp c m ns q m' ns' q'){s:Li}{a d:Int}(k:Sat m s a d):Sat m' s a d:=by
 obtain⟨v,h1,h2⟩:=k
 obtain⟨v',h3,h4⟩:=h.sat _ v h1
 exact⟨v',h3,by omega⟩
end Ab
end
section
namespace Ab
open Go
theorem grow_spec{nv:d5}{q:LL}(h0:0≤nv.change)(h1:nv.change≤q.length)(hq:q.length≤4000000000):
  ∃q1,Loop (x9 nv) q=some q1∧(∀b row,ix q b=some row→ix q1 b=some row)∧(∀b row,ix q1 b=some row→ix q b=some row∨(row=[]∧b=q.length∧nv.change=q.length))∧q.length≤q1.length∧q1.length≤q.length+1∧nv.change<q1.length:=by
 by_cases e:nv.change=q.length
 ·refine⟨q++[[]],T9.2 ⟨2,?_⟩,fun b row h=>am6 h,fun b row h=> ?_,by simp,by simp,by simp;omega⟩
  ·have e1:app 24 q ([[]]:LL)=some (q++[[]]):=by rw[app,if_pos (by simp;omega)]
   simp only[D1,x9]
   rw[if_pos (by omega),e1]
   simp only[oB]
   rw[if_neg (by simp;omega)]
  ·rw[ah9] at h
   split at h
   ·cases h;exact .inr ⟨rfl,by assumption,e⟩
   ·exact .inl h
 ·refine⟨q,T9.2 ⟨1,?_⟩,fun b row h=>h,fun b row h=>.inl h,Nat.le_refl _,by omega,by omega⟩
  simp only[D1,x9]
  rw[if_neg (by omega)]
theorem add_spec{t:d6}(ht:l7 t){plan:Li}(hp:plan.length≤60){c:Int}(hc:0≤c){m:Mp'}{ns:List d5}{q:LL}(hB:Bs t plan c m ns q)(hN:ns.length+pot c m≤2 * univ.length)
  {nv:d5} (hn:NodeOk t plan nv) (hch:nv.change=c∨nv.change=c+1) (hq:nv.change≤q.length) (hW:∃st,Chn ns nv.ffrom st∧nv.ffrom<ns.length∧Way t plan (if 0≤nv.op then st++[nv.op] else st) nv):
  ∃m' ns' q',m6 nv t plan ns q m=some (m',ns',q')∧Bs t plan c m' ns' q'∧Stp c m ns q m' ns' q'∧Sat m' nv.fs nv.fat nv.change:=by
 have hU:=univ_len
 have h60:nv.fat≤60:=by have:=hn.at1;omega
 unfold m6
 rw[kk_eq ht hn.set hn.at0 h60]
 simp only[oB]
 by_cases hf:∃v,mget m (kk nv.fs nv.fat)=some v∧v≤nv.change
 ·obtain⟨v,h1,h2⟩:=hf
  rw[if_pos (by simp[h1,h2])]
  exact⟨m,ns,q,rfl,hB,.refl ..,v,h1,h2⟩
 rw[if_neg (by
  intro h
  simp only[Bool.and_eq_true,decide_eq_true_eq,Option.isSome_iff_exists] at h
  obtain⟨⟨v,h1⟩,h2⟩:=h
  rw[h1] at h2
  exact hf ⟨v,h1,h2⟩)]
 have hql:=hB.ql
 have ha:app 56 ns [nv]=some (ns++[nv]):=by rw[app,if_pos (by simp;omega)]
 obtain⟨q1,g1,Q1,Q2,L1,L2,L3⟩:=grow_spec hn.ch0 hq (by omega)
 obtain⟨row,r1,_⟩:=o9 (l:=q1) hn.ch0 L3
 have hrl:row.length≤ns.length:=by
  rcases Q2 _ _ r1 with h|⟨h,_⟩
  ·exact hB.rl _ _ h
  ·simp[h]
 have hb:app 8 row [w64 (((ns++[nv]).length:Int) - 1)]=some (row++[(ns.length:Int)]):=by
  have e:(((ns++[nv]).length:Int) - 1)=(ns.length:Int):=by simp
  rw[e,I2 (by omega) (by omega),app,if_pos (by simp;omega)]
 rw[ha]
 simp only[oB]
 rw[g1]
 simp only[oB,r1,hb]
 have hmem:kk nv.fs nv.fat ∈ univ:=mem_univ ht hn.set hn.at0 h60
 -- what becomes of the map
 have hmap:pot c (mset m (kk nv.fs nv.fat) nv.change)+1≤pot c m∧((mset m (kk nv.fs nv.fat) nv.change).map (·.1)).Nodup∧∀k ∈ (mset m (kk nv.fs nv.fat) nv.change).map (·.1),k ∈ univ:=by
  cases hg:mget m (kk nv.fs nv.fat) with
  |none=>
   rw[H5 hg]
   have hnd:((m++[(kk nv.fs nv.fat,nv.change)]).map (·.1)).Nodup:=by
    rw[List.map_append,List.nodup_append]
    refine⟨hB.nd,by simp,fun a h1 b h2 e=> ?_⟩
    simp only[List.map_cons,List.map_nil,List.mem_singleton] at h2
    subst e;subst h2
    exact ae4 hg h1
   have hun:∀k ∈ (m++[(kk nv.fs nv.fat,nv.change)]).map (·.1),k ∈ univ:=fun k hk=>by
    rw[List.map_append,List.mem_append] at hk
    rcases hk with hk|hk
    ·exact hB.un k hk
    ·simp at hk;subst hk;exact hmem
   have hl:=O7 hnd hun
   simp only[List.length_map,List.length_append,List.length_singleton] at hl
   refine⟨?_,hnd,hun⟩
   have:=late_one c (kk nv.fs nv.fat,nv.change)
   simp only[pot,late_app,List.length_append,List.length_singleton]
   omega
  |some old=>
   have hne:mget m (kk nv.fs nv.fat) ≠ none:=by rw[hg];simp
   have hk:=mset_keys (v:=nv.change) hne
   have hlen:(mset m (kk nv.fs nv.fat) nv.change).length=m.length:=by
    have:=congrArg List.length hk
    simpa using this
   have ho:nv.change<old:=by
    rcases Int.lt_or_le nv.change old with h|h
    ·exact h
    ·exact absurd ⟨old,hg,h⟩ hf
   have:=hB.vl _ (an9 hg)
   simp only at this
   have hcc:nv.change=c:=by omega
   have hlt:=late_set (c:=c) (v:=nv.change) (by omega) hg (by omega)
   refine⟨?_,by rw[hk];exact hB.nd,by rw[hk];exact hB.un⟩
   simp only[pot,hlen]
   omega
 obtain⟨hpot,hnd,hun⟩:=hmap
 generalize hm':mset m (kk nv.fs nv.fat) nv.change=m' at *
 have hget:∀k,mget m' k=if k=kk nv.fs nv.fat then some nv.change else mget m k:=fun k=>by rw[← hm',aa5]
 have hlt:∀v,mget m (kk nv.fs nv.fat)=some v→nv.change<v:=fun v hv=>by
  rcases Int.lt_or_le nv.change v with h|h
  ·exact h
  ·exact absurd ⟨v,hv,h⟩ hf
 have hq':∀b,ix (q1.set nv.change.toNat (row++[(ns.length:Int)])) b=if b=nv.change then some (row++[(ns.length:Int)]) else ix q1 b:=fun b=>by
  by_cases h0:0≤b
  ·rw[ix_put hn.ch0 L3 h0]
  ·rw[ix_neg (by omega),ix_neg (by omega),if_neg (by have:=hn.ch0;omega)]
 have hold:∀i n,ix ns i=some n→ix (ns++[nv]) i=some n:=fun i n h=>am6 h
 refine⟨m',ns++[nv],_,rfl,?_,?_,nv.change,by rw[hget,if_pos rfl],Int.le_refl _⟩
 ·exact {
   node:=fun i n hi=>by
    rw[ah9] at hi
    split at hi
    ·rename_i e
     cases hi
     obtain⟨st,h1,h2,h3⟩:=hW
     refine⟨hn,by omega,_,?_,h3⟩
     have hx:ix (ns++[nv]) i=some nv:=by rw[e];exact ad6
     split
     ·exact .op hx (by assumption) (by omega) (h1.mono hold)
     ·exact .no hx (by omega) (by omega) (h1.mono hold)
    ·obtain⟨h1,h2,st,h3,h4⟩:=hB.node i n hi
     exact⟨h1,h2,st,h3.mono hold,h4⟩
   m1:=fun i n hi=>by
    rw[hget]
    rw[ah9] at hi
    split at hi
    ·cases hi
     rw[if_pos rfl]
     exact⟨_,rfl,Int.le_refl _⟩
    ·obtain⟨v,h1,h2⟩:=hB.m1 i n hi
     split
     ·rename_i e
      rw[e] at h1
      have:=hlt v h1
      exact⟨_,rfl,by omega⟩
     ·exact⟨v,h1,h2⟩
   m2:=fun s a v hs h0 h1 hv=>by
    rw[hget] at hv
    split at hv
    ·rename_i e
     obtain⟨rfl,rfl⟩:=kk_inj ht hs hn.set h0 (by omega) hn.at0 h60 e
     cases hv
     exact⟨ns.length,nv,ad6,rfl,rfl,rfl⟩
    ·obtain⟨i,n,g1,g2⟩:=hB.m2 s a v hs h0 h1 hv
     exact⟨i,n,hold _ _ g1,g2⟩
   qs:=fun b r hr i hi=>by
    rw[hq'] at hr
    split at hr
    ·rename_i e
     subst e
     cases hr
     rcases List.mem_append.1 hi with hi|hi
     ·rcases Q2 _ _ r1 with h|⟨h,_⟩
      ·obtain⟨n,k1,k2⟩:=hB.qs _ _ h i hi
       exact⟨n,hold _ _ k1,k2⟩
      ·rw[h] at hi;cases hi
     ·simp only[List.mem_singleton] at hi
      subst hi
      exact⟨nv,ad6,rfl⟩
    ·rcases Q2 _ _ hr with h|⟨h,_⟩
     ·obtain⟨n,k1,k2⟩:=hB.qs _ _ h i hi
      exact⟨n,hold _ _ k1,k2⟩
     ·rw[h] at hi;cases hi
   qn:=fun i n hi=>by
    rw[ah9] at hi
    split at hi
    ·rename_i e
     cases hi
     refine⟨row++[(ns.length:Int)],row.length,by rw[hq',if_pos rfl],?_⟩
     rw[ad6,e]
    ·obtain⟨r,p,k1,k2⟩:=hB.qn i n hi
     by_cases e:n.change=nv.change
     ·have:r=row:=by
       have:=Q1 _ _ k1
       rw[e,r1] at this
       exact(Option.some.inj this).symm
      subst this
      exact⟨_,p,by rw[hq',if_pos e],am6 k2⟩
     ·exact⟨r,p,by rw[hq',if_neg e];exact Q1 _ _ k1,k2⟩
   nd:=hnd
   un:=hun
   vl:=fun p hp=>by
    rw[← hm'] at hp
    rcases mset_mem hp with h|h
    ·subst h;simp only;omega
    ·exact hB.vl p h
   ql:=by simp only[lS,List.length_append,List.length_singleton];omega
   rl:=fun b r hr=>by
    rw[hq'] at hr
    simp only[List.length_append,List.length_singleton]
    split at hr
    ·cases hr;simp;omega
    ·rcases Q2 _ _ hr with h|⟨h,_⟩
     ·have:=hB.rl _ _ h;omega
     ·simp[h]}
 ·exact {
   sat:=fun k v hk=>by
    rw[hget]
    split
    ·rename_i e
     rw[e] at hk
     have:=hlt v hk
     exact⟨_,rfl,by omega⟩
    ·exact⟨v,hk,Int.le_refl _⟩
   nst:=hold
   row:=fun b r hr=>by
    rw[hq']
    split
    ·rename_i e
     subst e
     have:=Q1 _ _ hr
     rw[r1] at this
     cases this
     exact⟨[(ns.length:Int)],rfl⟩
    ·exact⟨[],by rw[Q1 _ _ hr,List.append_nil]⟩
   old:=fun b hb=>by
    rw[hq',if_neg (by omega)]
    cases h:ix q b with
    |some r=>exact Q1 _ _ h
    |none=>
     cases h2:ix q1 b with
     |none=>rfl
     |some r=>
      rcases Q2 _ _ h2 with k|⟨_,k1,k2⟩
      ·rw[h] at k;cases k
      ·omega
   len:=by simp only[lS];omega
   psi:=by simp only[lS];omega
   pend:=fun r hr=>by
    rw[hq']
    have h1:=Q1 _ _ hr
    split
    ·rename_i e
     subst e
     rw[r1] at h1
     cases h1
     exact⟨_,rfl,by simp;omega⟩
    ·exact⟨r,h1,by omega⟩
   nsl:=by simp only[List.length_append,List.length_singleton];omega}
theorem Chn.len{ns:List d5}{i:Int}{st:Li}(h:Chn ns i st):st.length≤(i+1).toNat:=by
 induction h with
 |root h=>simp
 |op h ho hf hc ih=>
  have:=p9 h
  simp only[List.length_append,List.length_singleton]
  omega
 |no h ho hf hc ih=>
  have:=p9 h
  omega
theorem steps_loop{ns:List d5}(hN:ns.length≤4000000000){i:Int}{st:Li}(h:Chn ns i st):∀acc:Li,acc.length+st.length≤4000000000→∃k,D1 (s4 ns) k (acc,i)=some (acc++st.reverse):=by
 induction h with
 |root h=>
  intro acc _
  refine⟨1,?_⟩
  simp only[D1,s4]
  rw[if_neg (by omega)]
  simp
 |@op i n st h ho hf hc ih=>
  intro acc hl
  simp only[List.length_append,List.length_singleton] at hl
  obtain⟨k,hk⟩:=ih (acc++[n.op]) (by simp;omega)
  refine⟨k+1,?_⟩
  have ha:app 8 acc [n.op]=some (acc++[n.op]):=by rw[app,if_pos (by simp;omega)]
  have:=p9 h
  simp only[D1,s4]
  rw[if_pos (by omega),h]
  simp only[oB]
  rw[if_pos ho,ha]
  simp only[oB]
  rw[hk]
  simp
 |@no i n st h ho hf hc ih=>
  intro acc hl
  obtain⟨k,hk⟩:=ih acc hl
  refine⟨k+1,?_⟩
  have:=p9 h
  simp only[D1,s4]
  rw[if_pos (by omega),h]
  simp only[oB]
  rw[if_neg (by omega)]
  simp only[oB]
  exact hk
theorem steps_spec{t:d6}{plan:Li}{ns:List d5}{q:LL}{m:Mp'}(hN:ns.length≤2100000000){i:Int}{st:Li}(h:Chn ns i st)(hi:i<ns.length):A7 i t plan ns q m=some st:=by
 have hl:=h.len
 obtain⟨k,hk⟩:=steps_loop (by omega) h [] (by simp;omega)
 unfold A7
 rw[T9.2 ⟨k,hk⟩]
 simp
end Ab
end
section
namespace Ab
open Go
structure Hd(t:d6)(plan:Li)(m:Mp')(n:d5):Prop where
 goal:n.fat=plan.length→¬ ∀x ∈ t.goal,x ∈ n.fs
 keep:∀op,ix plan n.fat=some op→can t n.fs op→Sat m (aft t n.fs op) (n.fat+1) n.change
 skip:n.fat<plan.length→Sat m n.fs (n.fat+1) (n.change+1)
 ins:∀op:Int,0≤op→op<t.operators.length→can t n.fs op→Sat m (aft t n.fs op) n.fat (n.change+1)
theorem Hd.mono{t:d6}{plan:Li}{c:Int}{m m':Mp'}{ns ns':List d5}{q q':LL}{n:d5}(h:Hd t plan m n)(hs:Stp c m ns q m' ns' q'):Hd t plan m' n:=
 ⟨h.goal,fun op h1 h2=>hs.keep (h.keep op h1 h2),fun h1=>hs.keep (h.skip h1),fun op h0 h1 h2=>hs.keep (h.ins op h0 h1 h2)⟩
structure Rd(t:d6)(plan:Li)(c:Int)(m:Mp')(ns:List d5)(q:LL):Prop where
 bs:Bs t plan c m ns q
 nb:ns.length+pot c m≤2 * univ.length
 ql:c<q.length
theorem Sat.le{m:Mp'}{s:Li}{a d d':Int}(h:Sat m s a d)(hd:d≤d'):Sat m s a d':=by
 obtain⟨v,h1,h2⟩:=h
 exact⟨v,h1,by omega⟩
theorem take_next{plan:Li}{a op:Int}(h:ix plan a=some op):plan.take (a+1).toNat=plan.take a.toNat++[op]:=by
 obtain⟨h0,h1,h2⟩:=p9 h
 rw[show(a+1).toNat=a.toNat+1 by omega,List.take_add_one,h2];rfl
theorem way_keep{t:d6}{plan st:Li}(hp:P7 t plan){n:d5}(h:Way t plan st n){op:Int}(hop:ix plan n.fat=some op)(hc:can t n.fs op)(i:Int):Way t plan (st++[op]) ⟨aft t n.fs op,n.fat+1,i,op,n.change⟩:=by
 obtain⟨h1,h2,h3⟩:=h
 refine⟨fun x hx=> ?_,?_,?_⟩
 ·rcases List.mem_append.1 hx with hx|hx
  ·exact h1 x hx
  ·simp only[List.mem_singleton] at hx;subst hx;exact hp.2 _ (s8 hop)
 ·rw[V7,h2]
  simp only[oB,ends]
  rw[if_pos (m8 hc)]
 ·show Ed n.change.toNat (plan.take (n.fat+1).toNat) (st++[op])
  rw[take_next hop]
  exact h3.keepR op
theorem way_skip{t:d6}{plan st:Li}{n:d5}(h:Way t plan st n)(hch:0≤n.change){op:Int}(hop:ix plan n.fat=some op)(i:Int):Way t plan st ⟨n.fs,n.fat+1,i, -1,n.change+1⟩:=by
 obtain⟨h1,h2,h3⟩:=h
 refine⟨h1,h2,?_⟩
 show Ed (n.change+1).toNat (plan.take (n.fat+1).toNat) st
 rw[take_next hop,show(n.change+1).toNat=n.change.toNat+1 by omega]
 exact h3.delR op
theorem way_ins{t:d6}{plan st:Li}{n:d5}(h:Way t plan st n)(hch:0≤n.change){op:Int}(h0:0≤op)(hl:op<t.operators.length)(hc:can t n.fs op)(i:Int):Way t plan (st++[op]) ⟨aft t n.fs op,n.fat,i,op,n.change+1⟩:=by
 obtain⟨h1,h2,h3⟩:=h
 refine⟨fun x hx=> ?_,?_,?_⟩
 ·rcases List.mem_append.1 hx with hx|hx
  ·exact h1 x hx
  ·simp only[List.mem_singleton] at hx;subst hx;exact⟨h0,hl⟩
 ·rw[V7,h2]
  simp only[oB,ends]
  rw[if_pos (m8 hc)]
 ·show Ed (n.change+1).toNat (plan.take n.fat.toNat) (st++[op])
  rw[show(n.change+1).toNat=n.change.toNat+1 by omega]
  exact h3.insR op
theorem add_rd{t:d6}(ht:l7 t){plan:Li}(hp:P7 t plan){c:Int}(hc:0≤c){m:Mp'}{ns:List d5}{q:LL}(h:Rd t plan c m ns q)
  {nv:d5} (hn:NodeOk t plan nv) (hch:nv.change=c∨nv.change=c+1) (hW:∃st,Chn ns nv.ffrom st∧nv.ffrom<ns.length∧Way t plan (if 0≤nv.op then st++[nv.op] else st) nv):
  ∃m' ns' q',m6 nv t plan ns q m=some (m',ns',q')∧Rd t plan c m' ns' q'∧Stp c m ns q m' ns' q'∧Sat m' nv.fs nv.fat nv.change:=by
 have:=h.ql
 obtain⟨m',ns',q',h1,h2,h3,h4⟩:=add_spec ht hp.1 hc h.bs h.nb hn hch (by omega) hW
 refine⟨m',ns',q',h1,⟨h2,?_,?_⟩,h3,h4⟩
 ·have:=h.nb;have:=h3.nsl;omega
 ·have:=h3.len;omega
theorem Rd.small{t:d6}{plan:Li}{c:Int}{m:Mp'}{ns:List d5}{q:LL}(h:Rd t plan c m ns q):c<2100000000∧ns.length≤2100000000:=by
 have:=h.nb;have:=h.ql;have:=h.bs.ql;have:=univ_len
 omega
theorem expand_tail{t:d6}(ht:l7 t){plan:Li}(hp:P7 t plan){c:Int}(hc:0≤c){m:Mp'}{ns:List d5}{q:LL}(h:Rd t plan c m ns q){i:Int}{n:d5}(hi:ix ns i=some n)(hnc:n.change=c):
  ∃m' ns' q',v6 i t plan n m ns q=some (m',ns',q')∧Rd t plan c m' ns' q'∧Stp c m ns q m' ns' q'∧∀op:Int,0≤op→op<t.operators.length→can t n.fs op→Sat m' (aft t n.fs op) n.fat (n.change+1):=by
 obtain⟨hok,_,st,hch,hway⟩:=h.bs.node i n hi
 have hsm:=h.small
 unfold v6
 obtain⟨⟨m',ns',q'⟩,h1,h2,h3,h4⟩:=S8 (body:=A9 i t plan n) (n:=(t.operators.length:Int)) (s:=(m,ns,q))
  (fun j s=>Rd t plan c s.1 s.2.1 s.2.2∧Stp c m ns q s.1 s.2.1 s.2.2∧∀op:Int,0≤op→op<j→can t n.fs op→Sat s.1 (aft t n.fs op) n.fat (n.change+1)) (by omega) ⟨h,.refl ..,fun op g0 g1=>by omega⟩
  (fun j s j0 j1 hP=>by
   obtain⟨m1,ns1,q1⟩:=s
   obtain⟨g1,g2,g3⟩:=hP
   simp only at g1 g2 g3
   unfold A9
   simp only[can_eq ht j0 j1 hok.set,next_eq ht j0 j1 hok.set,oB]
   by_cases hcan:can t n.fs j
   ·rw[if_pos (m8 hcan),I2 (by omega) (by omega)]
    have hs1:=g1.small
    obtain⟨m2,ns2,q2,k1,k2,k3,k4⟩:=add_rd ht hp hc g1 (nv:=⟨aft t n.fs j,n.fat,i,j,n.change+1⟩) ⟨Y5 _ _ _,hok.at0,hok.at1,by simp only;omega⟩ (by simp only;omega)
     ⟨st,hch.mono g2.nst,by have:=p9 (g2.nst i n hi);exact this.2.1,by simp only;rw[if_pos j0];exact way_ins hway hok.ch0 j0 j1 hcan i⟩
    rw[k1]
    refine⟨(m2,ns2,q2),rfl,k2,g2.trans k3,fun op o0 o1 ho=> ?_⟩
    by_cases e:op=j
    ·subst e;exact k4
    ·exact k3.keep (g3 op o0 (by omega) ho)
   ·rw[if_neg (by rw[k7];exact hcan)]
    refine⟨(m1,ns1,q1),rfl,g1,g2,fun op o0 o1 ho=> ?_⟩
    by_cases e:op=j
    ·subst e;exact absurd ho hcan
    ·exact g3 op o0 (by omega) ho)
 rw[h1]
 exact⟨m',ns',q',rfl,h2,h3,h4⟩
theorem expand_spec{t:d6}(ht:l7 t){plan:Li}(hp:P7 t plan){c:Int}(hc:0≤c){m:Mp'}{ns:List d5}{q:LL}(h:Rd t plan c m ns q){i:Int}{n:d5}(hi:ix ns i=some n)(hnc:n.change=c)(hg:n.fat=plan.length→¬ ∀x ∈ t.goal,x ∈ n.fs):
  ∃m' ns' q',y7 i t plan ns q m=some (m',ns',q')∧Rd t plan c m' ns' q'∧Stp c m ns q m' ns' q'∧Hd t plan m' n:=by
 obtain⟨hok,_,st,hch,hway⟩:=h.bs.node i n hi
 have hsm:=h.small
 have h60:=hp.1
 have hat0:=hok.at0
 have hat1:=hok.at1
 have fin:∀{m1:Mp'} {ns1:List d5} {q1:LL},Rd t plan c m1 ns1 q1→Stp c m ns q m1 ns1 q1→(∀op,ix plan n.fat=some op→can t n.fs op→Sat m1 (aft t n.fs op) (n.fat+1) n.change)→(n.fat<plan.length→Sat m1 n.fs (n.fat+1) (n.change+1))→
   ∃m' ns' q',(Option.bind (F2 t n.fs) fun a75=>Option.bind (v6 i t plan n m1 ns1 q1) fun⟨c71,c72,c73⟩=>some (c71,c72,c73))=some (m',ns',q')∧Rd t plan c m' ns' q'∧Stp c m ns q m' ns' q'∧Hd t plan m' n:=fun {m1 ns1 q1} g1 g2 g3 g4=>by
  obtain⟨m',ns',q',k1,k2,k3,k4⟩:=expand_tail ht hp hc g1 (g2.nst i n hi) hnc
  rw[F2]
  simp only[oB,k1]
  exact⟨m',ns',q',rfl,k2,g2.trans k3,hg,fun op o1 o2=>k3.keep (g3 op o1 o2),fun o=>k3.keep (g4 o),k4⟩
 unfold y7
 rw[hi]
 simp only[oB]
 by_cases c1:n.fat<(plan.length:Int)
 ·rw[if_pos c1]
  obtain⟨op,hop,_⟩:=o9 (l:=plan) hat0 c1
  have hv:=hp.2 op (s8 hop)
  rw[I2 (n:=n.fat+1) (by omega) (by omega),I2 (n:=n.change+1) (by omega) (by omega)]
  simp only[hop,oB,can_eq ht hv.1 hv.2 hok.set,next_eq ht hv.1 hv.2 hok.set]
  have skip:∀{m1:Mp'} {ns1:List d5} {q1:LL},Rd t plan c m1 ns1 q1→Stp c m ns q m1 ns1 q1→∃m' ns' q',m6 ⟨n.fs,n.fat+1,i, -1,n.change+1⟩ t plan ns1 q1 m1=some (m',ns',q')∧Rd t plan c m' ns' q'∧Stp c m1 ns1 q1 m' ns' q'∧Sat m' n.fs (n.fat+1) (n.change+1):=fun {m1 ns1 q1} g1 g2=>
   add_rd ht hp hc g1 (nv:=⟨n.fs,n.fat+1,i, -1,n.change+1⟩) ⟨hok.set,by simp only;omega,by simp only;omega,by simp only;omega⟩ (by simp only;omega)
    ⟨st,hch.mono g2.nst,(p9 (g2.nst i n hi)).2.1,by simp only;rw[if_neg (by omega)];exact way_skip hway hok.ch0 hop i⟩
  by_cases hcan:can t n.fs op
  ·rw[if_pos (m8 hcan)]
   obtain⟨m1,ns1,q1,k1,k2,k3,k4⟩:=add_rd ht hp hc h (nv:=⟨aft t n.fs op,n.fat+1,i,op,n.change⟩) ⟨Y5 _ _ _,by simp only;omega,by simp only;omega,hok.ch0⟩ (by simp only;omega)
    ⟨st,hch,(p9 hi).2.1,by simp only;rw[if_pos hv.1];exact way_keep hp hway hop hcan i⟩
   obtain⟨m2,ns2,q2,l1,l2,l3,l4⟩:=skip k2 k3
   simp only[k1,l1,oB]
   exact fin l2 (k3.trans l3) (fun op' o1 o2=>by rw[hop] at o1;cases o1;exact l3.keep k4) (fun _=>l4)
  ·rw[if_neg (by rw[k7];exact hcan)]
   obtain⟨m2,ns2,q2,l1,l2,l3,l4⟩:=skip h (.refl ..)
   simp only[l1,oB]
   exact fin l2 l3 (fun op' o1 o2=>by rw[hop] at o1;cases o1;exact absurd o2 hcan) (fun _=>l4)
 ·rw[if_neg c1]
  simp only[oB]
  exact fin h (.refl ..) (fun op' o1 _=>by have:=p9 o1;omega) (fun o=>absurd o c1)
theorem sat_ed{t:d6}{plan:Li}{c C:Int}{m:Mp'}{ns:List d5}{q:LL}(hB:Bs t plan c m ns q)(hall:∀i n,ix ns i=some n→n.change<C→Hd t plan m n)
  {k:Nat} {A B:Li} (h:Ed k A B):∀{s e:Li} {a d:Int},Sat m s a d→SetN s t.facts→0≤a→0≤d→(∃R,plan.drop a.toNat=A++R)→a+A.length≤plan.length→(∀x ∈ B,(0:Int)≤x∧x<t.operators.length)→ends t s B=some e→d+k<C→Sat m e (a+A.length) (d+k):=by
 have node:∀{s:Li} {a d:Int},Sat m s a d→SetN s t.facts→0≤a→a≤plan.length→d<C→∃n,Hd t plan m n∧n.fs=s∧n.fat=a∧n.change≤d:=fun {s a d} ⟨v,h1,h2⟩ hs h0 hl hd=>by
  obtain⟨i,n,g1,g2,g3,g4⟩:=hB.m2 s a v hs h0 hl h1
  exact⟨n,hall i n g1 (by omega),g2,g3,by omega⟩
 induction h with
 |nil=>
  intro s e a d hS hs h0 hd _ _ _ he _
  simp only[ends,Option.some.injEq] at he
  subst he
  simpa using hS
 |@keep k x A B h ih=>
  intro s e a d hS hs h0 hd hR hl hv he hC
  obtain⟨R,hR⟩:=hR
  simp only[List.length_cons] at hl ⊢
  obtain⟨n,g1,rfl,rfl,g4⟩:=node hS hs h0 (by omega) (by omega)
  have hx:ix plan n.fat=some x:=by
   rw[show n.fat=((n.fat.toNat:Nat):Int) by omega,M1]
   have:=congrArg (fun l=>l[0]?) hR
   simpa using this
  simp only[ends] at he
  split at he
  ·rename_i hc
   have hS2:=(g1.keep x hx (k7.1 hc)).le g4
   have:=ih hS2 (Y5 _ _ _) (by omega) hd ⟨R,by
    rw[show(n.fat+1).toNat=n.fat.toNat+1 by omega,← List.drop_drop,hR];rfl⟩ (by omega) (fun y hy=>hv y (List.mem_cons_of_mem _ hy)) he hC
   rw[show n.fat+((A.length+1:Nat):Int)=n.fat+1+A.length by omega]
   exact this
  ·cases he
 |@del k x A B h ih=>
  intro s e a d hS hs h0 hd hR hl hv he hC
  obtain⟨R,hR⟩:=hR
  simp only[List.length_cons] at hl ⊢
  obtain⟨n,g1,rfl,rfl,g4⟩:=node hS hs h0 (by omega) (by omega)
  have hS2:=(g1.skip (by omega)).le (d':=d+1) (by omega)
  have:=ih hS2 hs (by omega) (by omega) ⟨R,by
    rw[show(n.fat+1).toNat=n.fat.toNat+1 by omega,← List.drop_drop,hR];rfl⟩ (by omega) hv he (by omega)
  rw[show n.fat+((A.length+1:Nat):Int)=n.fat+1+A.length by omega,show d+((k+1:Nat):Int)=d+1+k by omega]
  exact this
 |@ins k y A B h ih=>
  intro s e a d hS hs h0 hd hR hl hv he hC
  obtain⟨n,g1,rfl,rfl,g4⟩:=node hS hs h0 (by omega) (by omega)
  have hvy:=hv y List.mem_cons_self
  simp only[ends] at he
  split at he
  ·rename_i hc
   have hS2:=(g1.ins y hvy.1 hvy.2 (k7.1 hc)).le (d':=d+1) (by omega)
   have:=ih hS2 (Y5 _ _ _) h0 (by omega) hR hl (fun y hy=>hv y (List.mem_cons_of_mem _ hy)) he (by omega)
   rw[show d+((k+1:Nat):Int)=d+1+k by omega]
   exact this
  ·cases he
theorem none_nearer{t:d6}(hi:SetN t.init t.facts){plan:Li}{c C:Int}{m:Mp'}{ns:List d5}{q:LL}(hB:Bs t plan c m ns q)(hall:∀i n,ix ns i=some n→n.change<C→Hd t plan m n)(h0:Sat m t.init 0 0)
  {st:Li} (hv:∀x ∈ st,(0:Int)≤x∧x<t.operators.length) (hw:U3 t t.init st):C≤dm plan st:=by
 obtain⟨e,h1,h2⟩:=hw
 rcases Int.lt_or_le (dm plan st:Int) C with h|h
 ·exfalso
  have hS:=sat_ed hB hall (dm_ed plan st) h0 hi (Int.le_refl 0) (Int.le_refl 0) ⟨[],by simp⟩ (by omega) hv h1 (by omega)
  obtain⟨v,g1,g2⟩:=hS
  obtain⟨i,n,k1,k2,k3,k4⟩:=hB.m2 e _ v (ends_setN hi h1) (by omega) (by omega) g1
  refine(hall i n k1 (by omega)).goal (by omega) ?_
  rw[k2];exact h2
 ·exact h
structure Found(t:d6)(plan st:Li)(d:Int):Prop where
 ok:∀x ∈ st,(0:Int)≤x∧x<t.operators.length
 sol:U3 t t.init st
 d0:0≤d
 ed:Ed d.toNat plan st
 low:∀other,(∀x ∈ other,(0:Int)≤x∧x<t.operators.length)→U3 t t.init other→d≤dm plan other
theorem Found.dist{t:d6}{plan st:Li}{d:Int}(h:Found t plan st d):(dm plan st:Int)=d:=by
 have h1:=h.low st h.ok h.sol
 have h2:=dm_le h.ed
 have:=h.d0
 omega
def Res(t:d6)(plan:Li)(o:Li×Int×Bool×i9):Prop:=
 ∃st d,Found t plan st d∧((st.length≤60∧o=(st,d,true,⟨0,0⟩))∨(60<st.length∧o=([],0,false,⟨10, -5⟩)))
theorem Bs.next{t:d6}{plan:Li}{c:Int}{m:Mp'}{ns:List d5}{q:LL}(h:Bs t plan c m ns q):Bs t plan (c+1) m ns q:=
 {h with
  node:=fun i n hi=>by obtain⟨h1,h2,h3⟩:=h.node i n hi;exact⟨h1,by omega,h3⟩
  vl:=fun p hp=>by have:=h.vl p hp;omega}
def allHd(t:d6)(plan:Li)(c:Int)(m:Mp')(ns:List d5):Prop:=∀i n,ix ns i=some n→n.change<c→Hd t plan m n
theorem allHd.step{t:d6}{plan:Li}{c:Int}{m m':Mp'}{ns ns':List d5}{q q':LL}(h:allHd t plan c m ns)(hB:Bs t plan c m ns q)(hB':Bs t plan c m' ns' q')(hs:Stp c m ns q m' ns' q'):allHd t plan c m' ns':=fun i n hi hl=>by
 obtain⟨row,p,g1,g2⟩:=hB'.qn i n hi
 rw[hs.old _ hl] at g1
 obtain⟨n0,k1,k2⟩:=hB.qs _ _ g1 i (s8 g2)
 have:=hs.nst i n0 k1
 rw[hi] at this
 cases this
 exact(h i n k1 hl).mono hs
theorem plan_inner{t:d6}(ht:l7 t){plan:Li}(hp:P7 t plan){c:Int}(hc:0≤c){m:Mp'}{ns:List d5}{q:LL}(h:Rd t plan c m ns q)(hall:allHd t plan c m ns)(hsat:Sat m t.init 0 0):
  ∃o,Loop (O0 t plan c) (m,ns,q,0)=some o∧((∃m' ns' q',o=.inl (m',ns',q')∧Rd t plan c m' ns' q'∧allHd t plan (c+1) m' ns'∧Sat m' t.init 0 0∧q'.length+pot c m'≤q.length+pot c m)∨∃x,o=.inr x∧Res t plan x):=by
 have hsm:=h.small
 refine X6 (body:=O0 t plan c) (s:=(m,ns,q,0))
  (fun s=>Rd t plan c s.1 s.2.1 s.2.2.1∧allHd t plan c s.1 s.2.1∧Sat s.1 t.init 0 0∧s.2.2.1.length+pot c s.1≤q.length+pot c m∧0≤s.2.2.2∧
   ∀row,ix s.2.2.1 c=some row→s.2.2.2≤row.length∧∀p i n,p<s.2.2.2→ix row p=some i→ix s.2.1 i=some n→Hd t plan s.1 n)
  (fun o=>(∃m' ns' q',o=.inl (m',ns',q')∧Rd t plan c m' ns' q'∧allHd t plan (c+1) m' ns'∧Sat m' t.init 0 0∧q'.length+pot c m'≤q.length+pot c m)∨∃x,o=.inr x∧Res t plan x)
  (fun s=>((ix s.2.2.1 c).getD []).length+pot c s.1 - s.2.2.2.toNat) ⟨h,hall,hsat,Nat.le_refl _,Int.le_refl _,fun row _=>⟨by simp only;omega,fun p i n hp' hi=>by have:=p9 hi;simp only at hp';omega⟩⟩
  (fun s hP=> ?_)
 obtain⟨m1,ns1,q1,j⟩:=s
 obtain⟨h1,h2,h3,h4,h5,h6⟩:=hP
 simp only at h1 h2 h3 h4 h5 h6
 have hs1:=h1.small
 obtain⟨row,hrow,_⟩:=o9 (l:=q1) hc h1.ql
 obtain⟨g1,g2⟩:=h6 row hrow
 have hrl:=h1.bs.rl _ _ hrow
 unfold O0
 simp only[hrow,oB]
 by_cases cj:j<(row.length:Int)
 ·rw[if_pos cj]
  obtain⟨i,hi,_⟩:=o9 (l:=row) h5 cj
  obtain⟨n,hn,hnc⟩:=h1.bs.qs _ _ hrow i (s8 hi)
  obtain⟨hok,_,st,hch,hway⟩:=h1.bs.node i n hn
  simp only[hi,oB,hn]
  have htest:(if n.fat=(plan.length:Int) then Option.bind (A8 n.fs t.goal) fun a92=>some a92 else some false)=some (dec (n.fat=plan.length∧∀x ∈ t.goal,x ∈ n.fs)):=by
   by_cases e:n.fat=(plan.length:Int)
   ·rw[if_pos e,am4 hok.set.1 ht.goal.1 (by have:=hok.set.len;have:=ht.n1;omega)]
    exact congrArg some (R7 ⟨fun g=>⟨e,g⟩,fun g=>g.2⟩)
   ·rw[if_neg e,F4 (fun g=>e g.1)]
  rw[htest]
  simp only[oB]
  by_cases cg:n.fat=plan.length∧∀x ∈ t.goal,x ∈ n.fs
  ·rw[if_pos (m8 cg),steps_spec hs1.2 hch (p9 hn).2.1]
   simp only[oB]
   have hF:Found t plan st c:={
    ok:=hway.1
    sol:=⟨n.fs,hway.2.1,cg.2⟩
    d0:=hc
    ed:=by
     have:=hway.2.2
     rw[hnc,cg.1] at this
     simpa using this
    low:=fun other ho hw=>none_nearer ht.init h1.bs h2 h3 ho hw}
   right
   by_cases c60:(60:Int)<st.length
   ·rw[if_pos c60]
    exact⟨_,rfl,.inr ⟨_,rfl,st,c,hF,.inr ⟨by omega,rfl⟩⟩⟩
   ·rw[if_neg c60]
    exact⟨_,rfl,.inr ⟨_,rfl,st,c,hF,.inl ⟨by omega,rfl⟩⟩⟩
  ·rw[if_neg (by rw[k7];exact cg)]
   obtain⟨m2,ns2,q2,k1,k2,k3,k4⟩:=expand_spec ht hp hc h1 hn hnc (fun e g=>cg ⟨e,g⟩)
   rw[k1,I2 (by omega) (by omega)]
   simp only[oB]
   left
   obtain⟨row2,r1,r2⟩:=k3.pend row hrow
   refine⟨(m2,ns2,q2,j+1),rfl,⟨k2,h2.step h1.bs k2.bs k3,k3.keep h3,by have:=k3.psi;simp only;omega,by simp only;omega,fun row' hr'=> ?_⟩,?_⟩
   ·obtain⟨e,he⟩:=k3.row c row hrow
    simp only at hr' ⊢
    rw[he] at hr'
    cases hr'
    refine⟨by simp;omega,fun p i' n' hp' hi' hn'=> ?_⟩
    have hp0:=(p9 hi').1
    obtain⟨i2,hi2,_⟩:=o9 (l:=row) hp0 (by omega)
    have e2:ix (row++e) p=ix row p:=by
     rw[show p=((p.toNat:Nat):Int) by omega,M1,M1,List.getElem?_append_left (by omega)]
    rw[e2,hi2] at hi'
    cases hi'
    obtain⟨n2,hn2,_⟩:=h1.bs.qs _ _ hrow i' (s8 hi2)
    have:=k3.nst _ _ hn2
    rw[hn'] at this
    cases this
    by_cases ep:p=j
    ·subst ep
     rw[hi] at hi2
     cases hi2
     rw[hn] at hn2
     cases hn2
     exact k4
    ·exact(g2 p i' n' (by omega) hi2 hn2).mono k3
   ·simp only[r1,hrow,Option.getD_some]
    omega
 ·rw[if_neg cj]
  right
  refine⟨_,rfl,.inl ⟨m1,ns1,q1,rfl,h1,fun i n hi hl=> ?_,h3,h4⟩⟩
  by_cases e:n.change=c
  ·obtain⟨r,p,k1,k2⟩:=h1.bs.qn i n hi
   rw[e,hrow] at k1
   cases k1
   exact g2 p i n (by have:=p9 k2;omega) k2 hi
  ·exact h2 i n hi (by omega)
theorem plan_outer{t:d6}(ht:l7 t){plan:Li}(hp:P7 t plan){m:Mp'}{ns:List d5}{q:LL}(h:Rd t plan 0 m ns q)(hsat:Sat m t.init 0 0):
  ∃o,Loop (N9 t plan) (m,ns,q,0)=some o∧((o=.inl ()∧∀st,(∀x ∈ st,(0:Int)≤x∧x<t.operators.length)→¬ U3 t t.init st)∨∃x,o=.inr x∧Res t plan x):=by
 refine X6 (body:=N9 t plan) (s:=(m,ns,q,0))
  (fun s=>0≤s.2.2.2∧s.2.2.2≤s.2.2.1.length∧Bs t plan s.2.2.2 s.1 s.2.1 s.2.2.1∧s.2.1.length+pot s.2.2.2 s.1≤2 * univ.length∧allHd t plan s.2.2.2 s.1 s.2.1∧Sat s.1 t.init 0 0)
  (fun o=>(o=.inl ()∧∀st,(∀x ∈ st,(0:Int)≤x∧x<t.operators.length)→¬ U3 t t.init st)∨∃x,o=.inr x∧Res t plan x)
  (fun s=>s.2.2.1.length+pot s.2.2.2 s.1 - s.2.2.2.toNat) ⟨Int.le_refl _,by simp only;omega,h.bs,h.nb,fun i n hi hl=>by have:=(h.bs.node i n hi).1.ch0;simp only at hl;omega,hsat⟩ (fun s hP=> ?_)
 obtain⟨m1,ns1,q1,c⟩:=s
 obtain⟨h1,h2,h3,h4,h5,h6⟩:=hP
 simp only at h1 h2 h3 h4 h5 h6
 unfold N9
 dsimp only
 by_cases cq:c<(q1.length:Int)
 ·rw[if_pos cq]
  obtain⟨o,g1,g2⟩:=plan_inner ht hp h1 ⟨h3,h4,cq⟩ h5 h6
  rw[g1]
  rcases g2 with⟨m2,ns2,q2,rfl,k1,k2,k3,k4⟩|⟨x,rfl,hx⟩
  ·left
   have:=k1.small
   refine⟨(m2,ns2,q2,c+1),by simp only[oB];rw[I2 (by omega) (by omega)],⟨by simp only;omega,?_,k1.bs.next,?_,k2,k3⟩,?_⟩
   ·have:=k1.ql;simp only;omega
   ·have:=k1.nb
    have:=late_mono (c:=c) (c':=c+1) (by omega) m2
    simp only[pot] at *
    omega
   ·have:=late_mono (c:=c) (c':=c+1) (by omega) m2
    simp only[pot] at *
    omega
  ·right
   exact⟨_,rfl,.inr ⟨x,rfl,hx⟩⟩
 ·rw[if_neg cq]
  right
  refine⟨_,rfl,.inl ⟨rfl,fun st hv hw=> ?_⟩⟩
  have hall:∀i n,ix ns1 i=some n→n.change<((dm plan st:Nat):Int)+1→Hd t plan m1 n:=fun i n hi _=>h5 i n hi (by
   obtain⟨r,p,k1,_⟩:=h3.qn i n hi
   have:=p9 k1
   omega)
  have:=none_nearer ht.init h3 hall h6 hv hw
  omega
end Ab
end
section
namespace Ab
open Go
theorem kone_eq{s:Li}(hs:small s)(h1:s.length≤1000):x5 [s]=some (keyK [s]):=by
 refine key_eq (by simp[hs]) ?_
 have:=ao0 s
 simp only[encK,List.flatMap_cons,List.flatMap_nil,List.append_nil]
 omega
theorem kone_inj{t:d6}(ht:l7 t){s s':Li}(h:SetN s t.facts)(h':SetN s' t.facts)(e:keyK [s]=keyK [s']):s=s':=by
 have:=keyK_inj (fun x hx=>by simp at hx;subst hx;exact O8 ht h) (fun x hx=>by simp at hx;subst hx;exact O8 ht h') e
 simpa using this
theorem containsAny_eq{l:LL}{f:Li→Option Bool}{p:Li→Prop}(h:∀x ∈ l,f x=some (dec (p x))):w9 l f=some (dec (∃x ∈ l,p x)):=by
 unfold w9 F7
 rcases T1 (body:=C9 l f) (n:=(l.length:Int)) (fun j=>if dec (∃x,ix l j=some x∧p x)=true then some j else none) (by omega) (fun j h0 h1 _=>by
  obtain⟨x,hx,_⟩:=o9 (l:=l) h0 h1
  unfold C9
  simp only[hx,oB,h x (s8 hx)]
  by_cases e:p x
  ·rw[ifP e,ifP ⟨x,rfl,e⟩]
  ·rw[ifN e,ifN (by rintro ⟨z,hz,hp⟩;cases hz;exact e hp)]) with⟨h1,h2⟩|⟨j,o,h0,h1,h2,h3,h4⟩
 ·rw[h1]
  simp only[oB]
  rw[F4]
  ·rfl
  ·rintro ⟨x,hx,hp⟩
   obtain⟨i,i0,i1,hi⟩:=J9 hx
   have:=h2 i i0 i1
   rw[ifP ⟨x,hi,hp⟩] at this
   cases this
 ·rw[h4]
  split at h2
  ·rename_i e
   cases h2
   simp only[oB]
   obtain⟨x,hx,hp⟩:=k7.1 e
   rw[m8 ⟨x,s8 hx,hp⟩,decide_eq_true h0]
  ·cases h2
theorem ao6{s pre:Li}(hs:Inc s)(hp:Inc pre)(hl:s.length≤1000000):J1 [s] pre=some (dec (∀x ∈ pre,x ∈ s)):=by
 unfold J1
 rw[containsAny_eq (p:=fun y=>¬ ∀x ∈ pre,x ∈ y) (fun x hx=>by
  simp only[List.mem_singleton] at hx
  subst hx
  unfold W7
  rw[am4 hs hp hl]
  simp only[oB,K9])]
 simp only[oB,K9]
 refine congrArg some (R7 ⟨fun h=>Classical.byContradiction fun g=>h ⟨s,by simp,g⟩,fun h=> ?_⟩)
 rintro ⟨x,hx,hn⟩
 simp only[List.mem_singleton] at hx
 subst hx
 exact hn h
theorem after_one{t:d6}(ht:l7 t){s:Li}(hs:SetN s t.facts){op:Int}(h0:0≤op)(h1:op<t.operators.length):G2 t [s] op=some [aft t s op]:=by
 have e:forR 0 (([s]:LL).length:Int) (M3 t [s] op) []=some [aft t s op]:=by
  show forN (M3 t [s] op) 1 0 []=_
  simp only[forN]
  have e0:ix [s] 0=some s:=rfl
  have e1:app 24 ([]:LL) [aft t s op]=some [aft t s op]:=rfl
  unfold M3
  simp only[e0,oB,next_eq ht h0 h1 hs,e1]
 unfold G2
 rw[e]
 simp only[oB]
 obtain⟨r,r1,r2,r3,_⟩:=normal_eq (l:=[aft t s op]) (by simp)
 rw[r1]
 simp only[oB]
 rw[Ord.ext r2 (by simp) r3]
structure Bq(t:d6)(l:LL)(m:Mp')(qu:List d8):Prop where
 node:qu.map (·.node)=l.map (fun s=>[s])
 nd:l.Nodup
 rt:∀s ∈ l,Rt t s
 map:∀s,SetN s t.facts→(0<(mget m (keyK [s])).getD 0↔s ∈ l)
 len:l.length≤2000
theorem Bq.ql{t:d6}{l:LL}{m:Mp'}{qu:List d8}(h:Bq t l m qu):qu.length=l.length:=by
 have:=congrArg List.length h.node
 simpa using this
theorem Bq.at{t:d6}{l:LL}{m:Mp'}{qu:List d8}(h:Bq t l m qu){i:Int}{e:d8}(hi:ix qu i=some e):∃s,ix l i=some s∧e.node=[s]:=by
 obtain⟨h0,h1,h2⟩:=p9 hi
 have hg:=congrArg (fun l=>l[i.toNat]?) h.node
 simp only[lM,h2,Option.map_some] at hg
 cases hs:l[i.toNat]? with
 |none=>rw[hs] at hg;cases hg
 |some s=>
  rw[hs] at hg
  simp only[Option.map_some,Option.some.injEq] at hg
  refine⟨s,?_,hg⟩
  rw[show i=((i.toNat:Nat):Int) by omega,M1]
  exact hs
theorem breadth_in{t:d6}(ht:l7 t){l:LL}{m:Mp'}{qu:List d8}(h:Bq t l m qu){c:Int}{e:d8}{s:Li}(hs:s ∈ l)(he:e.node=[s]):
  (∃l' m' qu',A6 t.facts t.init t.goal t.operators qu m c e=some (.inl (m',qu'))∧Bq t l' m' qu'∧(∃ex,l'=l++ex)∧Cls t l' s)∨(∃y,A6 t.facts t.init t.goal t.operators qu m c e=some (.inr y)∧Many t):=by
 have hsN:=(h.rt s hs).setN ht
 have h24:=ht.n1
 unfold A6
 rcases ao2 (body:=F0 t.facts t.init t.goal t.operators c e) (n:=(t.operators.length:Int)) (s:=(m,qu))
  (fun j st=>∃l',Bq t l' st.1 st.2∧(∃ex,l'=l++ex)∧∀op:Int,0≤op→op<j→can t s op→aft t s op ∈ l')
  (fun o=>∃y,o=.inr y∧Many t) (by omega) ⟨l,h,⟨[],by simp⟩,fun op o0 o1=>by omega⟩
  (fun j st j0 j1 hP=>by
   obtain⟨m1,qu1⟩:=st
   obtain⟨l1,g1,g2,g3⟩:=hP
   simp only at g1
   have hop:=ht.at j0 j1
   have hnew:=Y5 t s j
   unfold F0
   simp only[ix_op j0 j1,oB,he]
   rw[ao6 hsN.1 hop.1.1.1 (by have:=hsN.len;omega)]
   simp only[oB]
   by_cases hc:can t s j
   ·rw[if_pos (m8 (show ∀x ∈ (opAt t j).pre,x ∈ s from hc))]
    have ea:G2 (⟨t.facts,t.init,t.goal,t.operators⟩:d6) [s] j=some [aft t s j]:=after_one ht hsN j0 j1
    rw[ea]
    simp only[oB,kone_eq (O8 ht hnew) (by have:=hnew.len;omega)]
    by_cases hm:aft t s j ∈ l1
    ·rw[if_pos ((g1.map _ hnew).2 hm)]
     refine .inl ⟨_,rfl,l1,g1,g2,fun op o0 o1 oc=> ?_⟩
     by_cases eo:op=j
     ·subst eo;exact hm
     ·exact g3 op o0 (by omega) oc
    ·rw[if_neg (fun hx=>hm ((g1.map _ hnew).1 hx))]
     have hrt:Rt t (aft t s j):=(h.rt s hs).step j0 j1 hc
     have hnd:(l1++[aft t s j]).Nodup:=by
      rw[List.nodup_append]
      refine⟨g1.nd,by simp,fun a ha b hb eab=> ?_⟩
      simp only[List.mem_singleton] at hb
      subst hb;subst eab;exact hm ha
     have hrs:∀y ∈ l1++[aft t s j],Rt t y:=fun y hy=>by
      rcases List.mem_append.1 hy with hy|hy
      ·exact g1.rt y hy
      ·simp only[List.mem_singleton] at hy;subst hy;exact hrt
     have hql:=g1.ql
     have hlen:=g1.len
     by_cases hq:(qu1.length:Int)=2000
     ·rw[if_pos hq]
      exact .inr ⟨_,rfl,_,rfl,l1++[aft t s j],hnd,by simp;omega,hrs⟩
     ·rw[if_neg hq]
      have ha:app 40 qu1 [(⟨[aft t s j],c,j⟩:d8)]=some (qu1++[⟨[aft t s j],c,j⟩]):=by rw[app,if_pos (by simp;omega)]
      rw[ha]
      refine .inl ⟨_,rfl,l1++[aft t s j],⟨by simp[g1.node],hnd,hrs,fun y hy=> ?_,by simp;omega⟩,?_,fun op o0 o1 oc=> ?_⟩
      ·simp only
       rw[aa5]
       by_cases ek:keyK [y]=keyK [aft t s j]
       ·rw[if_pos ek,kone_inj ht hy hnew ek];simp
       ·rw[if_neg ek,g1.map y hy,List.mem_append,List.mem_singleton]
        exact⟨.inl,fun g=>g.elim id fun g=>absurd (by rw[g]) ek⟩
      ·obtain⟨ex,rfl⟩:=g2
       exact⟨ex++[aft t s j],by simp⟩
      ·by_cases eo:op=j
       ·subst eo;simp
       ·exact List.mem_append_left _ (g3 op o0 (by omega) oc)
   ·rw[if_neg (show ¬ dec (∀x ∈ (opAt t j).pre,x ∈ s)=true from fun g=>hc (k7.1 g))]
    refine .inl ⟨_,rfl,l1,g1,g2,fun op o0 o1 oc=> ?_⟩
    by_cases eo:op=j
    ·subst eo;exact absurd oc hc
    ·exact g3 op o0 (by omega) oc) with⟨⟨m',qu'⟩,h1,l',h2,h3,h4⟩|⟨o,h1,y,rfl,h2⟩
 ·left
  rw[h1]
  exact⟨l',m',qu',rfl,h2,h3,h4⟩
 ·right
  rw[h1]
  exact⟨y,rfl,h2⟩
theorem aq5{t:d6}(ht:l7 t):∃b,w3 [t.init] t.facts t.init t.goal t.operators=some b∧(b=false→Many t)∧(b=true→∃l:LL,l.Nodup∧l.length≤2000∧∀s,s ∈ l↔Rt t s):=by
 have h24:=ht.n1
 unfold w3 I4
 rw[kone_eq (O8 ht ht.init) (by have:=ht.init.len;omega)]
 simp only[oB]
 obtain⟨o,h1,h2⟩:=X6 (body:=E9 t.facts t.init t.goal t.operators) (s:=([(⟨[t.init], -1,0⟩:d8)],mset ([]:List (ByteArray×Int)) (keyK [t.init]) 1,0))
  (fun s=>∃l,Bq t l s.2.1 s.1∧t.init ∈ l∧0≤s.2.2∧s.2.2≤l.length∧∀(k:Int) (x:Li),k<s.2.2→ix l k=some x→Cls t l x)
  (fun o=>(o=.inl ()∧∃l:LL,l.Nodup∧l.length≤2000∧∀s,s ∈ l↔Rt t s)∨(o=.inr ([],false,false)∧Many t))
  (fun s=>2001 - s.2.2.toNat) ⟨[t.init],⟨rfl,by simp,fun s hs=>by simp at hs;subst hs;exact .init,fun s hs=>by
   simp only
   rw[aa5]
   by_cases ek:keyK [s]=keyK [t.init]
   ·rw[if_pos ek,kone_inj ht hs ht.init ek];simp
   ·rw[if_neg ek]
    simp only[mget,Option.getD_none,List.mem_singleton]
    exact⟨fun h=>by omega,fun g=>absurd (by rw[g]) ek⟩,by simp⟩,by simp,by simp only;omega,by simp only;omega,fun k x hk hx=>by have:=p9 hx;simp only at hk;omega⟩
  (fun s hP=>by
   obtain⟨qu,m,c⟩:=s
   obtain⟨l,g1,g2,g3,g4,g5⟩:=hP
   simp only at g1 g3 g4 g5
   have hql:=g1.ql
   have hlen:=g1.len
   unfold E9
   dsimp only
   by_cases cc:c<(qu.length:Int)
   ·rw[if_pos cc]
    obtain⟨e,he,_⟩:=o9 (l:=qu) g3 cc
    obtain⟨s,hs,hn⟩:=g1.at he
    simp only[he,oB,M7,G6,F5]
    rw[if_neg (by simp)]
    rcases breadth_in ht g1 (c:=c) (s8 hs) hn with⟨l',m',qu',k1,k2,⟨ex,rfl⟩,k4⟩|⟨⟨y1,y2⟩,k1,k2⟩
    ·left
     rw[k1]
     refine⟨(qu',m',c+1),by simp only[oB];rw[I2 (by omega) (by omega)],⟨l++ex,k2,List.mem_append_left _ g2,by simp only;omega,by simp only[List.length_append];omega,fun k x hk hx=> ?_⟩,by simp only;omega⟩
     simp only at hk
     have hx0:=p9 hx
     have hx2:ix l k=some x:=by
      rw[show k=((k.toNat:Nat):Int) by omega,M1] at hx ⊢
      rwa [List.getElem?_append_left (by omega)] at hx
     by_cases ek:k=c
     ·subst ek
      rw[hs] at hx2;cases hx2
      exact k4
     ·exact fun op o0 o1 oc=>List.mem_append_left _ (g5 k x (by omega) hx2 op o0 o1 oc)
    ·right
     rw[k1]
     exact⟨_,rfl,.inr ⟨rfl,k2⟩⟩
   ·rw[if_neg cc]
    right
    refine⟨_,rfl,.inl ⟨rfl,l,g1.nd,hlen,fun s=>⟨g1.rt s,fun hs=>hs.mem g2 fun x hx=> ?_⟩⟩⟩
    obtain⟨k,k0,k1,k2⟩:=J9 hx
    exact g5 k x (by omega) k2)
 rw[h1]
 rcases h2 with⟨rfl,h2⟩|⟨rfl,h2⟩
 ·exact⟨true,rfl,by simp,fun _=>h2⟩
 ·exact⟨false,rfl,fun _=>h2,by simp⟩
theorem small_of{t:d6}(ht:l7 t){S:LL}(hS:S.length≤2000)(hm:∀s,Rt t s→s ∈ S):w3 [t.init] t.facts t.init t.goal t.operators=some true:=by
 obtain⟨b,h1,h2,_⟩:=aq5 ht
 cases b with
 |true=>exact h1
 |false=>
  obtain⟨l,l1,l2,l3⟩:=h2 rfl
  have:=O7 l1 (fun s hs=>hm s (l3 s hs))
  omega
end Ab
end
section
namespace Ab
open Go
theorem bs_nil(t:d6)(plan:Li):Bs t plan 0 [] [] []:=
 have hnil:∀{α:Type} (i:Int),ix ([]:List α) i=none:=fun i=>by simp[ix]
 {node:=fun i n h=>by rw[hnil] at h;cases h
  m1:=fun i n h=>by rw[hnil] at h;cases h
  m2:=fun s a v _ _ _ h=>by cases h
  qs:=fun b row h=>by rw[hnil] at h;cases h
  qn:=fun i n h=>by rw[hnil] at h;cases h
  nd:=by simp
  un:=fun k hk=>by cases hk
  vl:=fun k hk=>by cases hk
  ql:=Nat.le_refl _
  rl:=fun b row h=>by rw[hnil] at h;cases h}
theorem pot_nil{U:Nat}(hU:univ.length=U){c:Int}{m:Mp'}(hm:m.length=0)(hl:late c m=0):pot c m=2 * U:=by
 unfold pot
 rw[hU,hm,hl,Nat.sub_zero,Nat.add_zero]
theorem first_add{t:d6}(ht:l7 t){plan:Li}(hp:P7 t plan):∃m ns q,m6 (⟨t.init,0, -1, -1,0⟩:d5) t plan ([]:List d5) ([]:LL) ([]:List (ByteArray×Int))=some (m,ns,q)∧Rd t plan 0 m ns q∧Sat m t.init 0 0:=by
 obtain⟨U,hU⟩:∃U,univ.length=U:=⟨_,rfl⟩
 have hpot:=pot_nil hU (c:=0) (m:=[]) rfl rfl
 have h0:([]:List d5).length+pot 0 ([]:Mp')≤2 * univ.length:=by
  rw[hpot,hU,List.length_nil,Nat.zero_add]
  exact Nat.le_refl _
 obtain⟨m,ns,q,h1,h2,h3,h4⟩:=add_spec ht hp.1 (Int.le_refl 0) (bs_nil t plan) h0 (nv:=⟨t.init,0, -1, -1,0⟩) ⟨ht.init,Int.le_refl 0,Int.natCast_nonneg _,Int.le_refl 0⟩ (.inl rfl) (Int.le_refl 0)
  ⟨[],.root (by show(-1:Int)<0;decide),by show(-1:Int)<0;decide,by
   simp only
   rw[if_neg (by decide)]
   exact⟨by simp,rfl,.nil⟩⟩
 have hN:ns.length+pot 0 m≤2 * univ.length:=by
  have:=h3.nsl
  rw[hpot,List.length_nil,Nat.zero_add] at this
  rw[hU];exact this
 clear h0 hpot hU
 refine⟨m,ns,q,h1,⟨h2,hN,?_⟩,h4⟩
 obtain⟨v,g1,g2⟩:=h4
 obtain⟨i,n,k1,_,_,k4⟩:=h2.m2 _ _ _ ht.init (by decide) (Int.natCast_nonneg _) g1
 have:=(h2.node i n k1).1.ch0
 obtain⟨row,p,l1,_⟩:=h2.qn i n k1
 have h9:=(p9 l1).2.1
 have g3:v≤0:=g2
 clear hN
 omega
theorem plan_spec(t:d6)(plan:Li):∃r e,V3 t plan=some r∧ad2 t plan=some e∧
  ((e.code ≠ 0∧¬ (l7 t∧P7 t plan)∧r=([],0,false,e))∨
   (e=⟨0,0⟩∧l7 t∧P7 t plan∧Many t∧r=([],0,false,⟨10, -7⟩))∨
   (e=⟨0,0⟩∧l7 t∧P7 t plan∧(∃l:LL,l.Nodup∧l.length≤2000∧∀s,s ∈ l↔Rt t s)∧((r=([],0,false,⟨0,0⟩)∧∀st,(∀x ∈ st,(0:Int)≤x∧x<t.operators.length)→¬ U3 t t.init st)∨Res t plan r))):=by
 obtain⟨e,h1,h2,h3⟩:=planFault_eq t plan
 unfold V3
 rw[h1]
 simp only[oB]
 rcases h3 with⟨rfl,ht,hp⟩|⟨hc,hn⟩
 ·rw[if_neg (by simp)]
  obtain⟨b,b1,b2,b3⟩:=aq5 ht
  rw[K5,b1]
  simp only[oB]
  cases b with
  |false=>
   rw[if_pos (by rfl)]
   exact⟨_,_,rfl,h2,.inr (.inl ⟨rfl,ht,hp,b2 rfl,rfl⟩)⟩
  |true=>
   rw[if_neg (by simp)]
   obtain⟨m,ns,q,a1,a2,a3⟩:=first_add ht hp
   rw[a1]
   simp only[oB]
   obtain⟨o,o1,o2⟩:=plan_outer ht hp a2 a3
   rw[o1]
   rcases o2 with⟨rfl,o2⟩|⟨x,rfl,o2⟩
   ·exact⟨_,_,rfl,h2,.inr (.inr ⟨rfl,ht,hp,b3 rfl,.inl ⟨rfl,o2⟩⟩)⟩
   ·exact⟨_,_,rfl,h2,.inr (.inr ⟨rfl,ht,hp,b3 rfl,.inr o2⟩)⟩
 ·rw[if_pos (fault_no hc)]
  exact⟨_,_,rfl,h2,.inl ⟨hc,hn,rfl⟩⟩
end Ab
end
section
namespace Ab
open Go
def h11O:i4:=⟨[],[0],[],2⟩
def h11T:d6:=⟨1,[],[0],[h11O]⟩
theorem ae6:l7 h11T where
 n0:=by decide
 n1:=by decide
 init:=P3 _
 goal:=setN1 0 (by decide) (by decide)
 ops:=by decide
 op o ho:=by
  simp only[h11T,List.mem_singleton] at ho
  subst ho
  exact⟨⟨P3 _,setN1 0 (by decide) (by decide),P3 _,by simp[h11O]⟩,by decide,by decide⟩
theorem h11_at:opAt h11T 0=h11O:=rfl
theorem h11_aft0:aft h11T [] 0=[0]:=by
 refine((setN1 0 (by decide) (by decide):SetN [0] 1).eq_of (p:=fun x=>x ∈ (opAt h11T 0).add∨x ∈ []∧x ∉ (opAt h11T 0).del) fun x h0 h1=> ?_).symm
 simp[h11_at,h11O]
theorem h11_aft1:aft h11T [0] 0=[0]:=by
 refine((setN1 0 (by decide) (by decide):SetN [0] 1).eq_of (p:=fun x=>x ∈ (opAt h11T 0).add∨x ∈ [0]∧x ∉ (opAt h11T 0).del) fun x h0 h1=> ?_).symm
 simp[h11_at,h11O]
theorem h11_rt{s:Li}(h:Rt h11T s):s ∈ [([]:Li),[0]]:=by
 induction h with
 |init=>simp[h11T]
 |@step s op _ h0 h1 _ ih=>
  have:op=0:=by simp only[h11T,List.length_singleton] at h1;omega
  subst this
  simp only[List.mem_cons,List.not_mem_nil,or_false] at ih ⊢
  rcases ih with rfl|rfl
  ·exact .inr h11_aft0
  ·exact .inr h11_aft1
theorem h11_worlds:K8 h11T []=some [[]]:=by
 have e1:chk0 (([]:Li).length:Int)=some ():=rfl
 have e2:shlW .i64 1 (([]:Li).length:Int)=1:=by decide
 have e4:forR 0 (([]:Li).length:Int) (Y2 [] 0) []=some []:=rfl
 have e5:E4 h11T.init [] []=some []:=by
  rw[show h11T.init=[] from rfl,update_eq (n:=1) (by decide) .nil (by simp) (P3 _) (P3 _)]
  exact congrArg some ((P3 1).eq_of fun x _ _=>by simp[h11T]).symm
 have e3:forR 0 1 (J5 h11T []) []=some [[]]:=by
  show forN (J5 h11T []) 1 0 []=_
  simp only[forN]
  unfold J5
  rw[e4]
  simp only[oB,e5]
  rfl
 unfold K8
 rw[e1,e2]
 simp only[oB]
 rw[if_pos (by decide),e3]
 simp only[oB]
 obtain⟨r,r1,r2,r3,_⟩:=normal_eq (l:=[([]:Li)]) (by simp)
 rw[r1,Ord.ext r2 (by simp) r3]
 rfl
def h11E0:d8:=⟨[[]], -1,0⟩
def h11E1:d8:=⟨[[0]],0,0⟩
theorem h11_breadth:C4 [[]] h11T.facts h11T.init h11T.goal h11T.operators h11T.facts h11T.init h11T.goal h11T.operators=some ([0],true,true):=by
 have hn:=ae6.init
 have h0s:SetN [0] h11T.facts:=setN1 0 (by decide) (by decide)
 have k0:x5 [[]]=some (keyK [[]]):=kone_eq (fun x hx=>by cases hx) (by simp)
 have k1:x5 [[0]]=some (keyK [[0]]):=kone_eq (O8 ae6 h0s) (by simp)
 have ne:keyK [[0]] ≠ keyK [[]]:=fun e=>by
  have:=kone_inj ae6 h0s (P3 _) e
  cases this
 have g0:I0 [[]] (⟨h11T.facts,h11T.init,h11T.goal,h11T.operators⟩:d6)=some false:=by
  unfold I0
  rw[ao6 .nil ae6.goal.1 (by simp)]
  simp only[oB]
  rw[F4 (by simp[h11T])]
 have g1:I0 [[0]] (⟨h11T.facts,h11T.init,h11T.goal,h11T.operators⟩:d6)=some true:=by
  unfold I0
  rw[ao6 h0s.1 ae6.goal.1 (by simp)]
  simp only[oB]
  rw[m8 (by simp[h11T])]
 have a0:G2 (⟨h11T.facts,h11T.init,h11T.goal,h11T.operators⟩:d6) [[]] 0=some [[0]]:=by
  have:=after_one ae6 (s:=[]) (P3 _) (op:=0) (by decide) (by decide)
  rw[h11_aft0] at this
  exact this
 have m0:¬ 0<Option.getD (mget (mset ([]:List (ByteArray×Int)) (keyK [[]]) 1) (keyK [[0]])) 0:=by
  rw[aa5,if_neg ne]
  simp[mget]
 have ix0:ix h11T.operators 0=some h11O:=rfl
 have s0:J1 [[]] h11O.pre=some true:=by
  rw[show h11O.pre=[] from rfl,ao6 .nil .nil (by simp),m8 (by simp)]
 have r4:D6 h11T.facts h11T.init h11T.goal h11T.operators [h11E0] (mset ([]:List (ByteArray×Int)) (keyK [[]]) 1) 0 h11E0=some (.inl (mset (mset ([]:List (ByteArray×Int)) (keyK [[]]) 1) (keyK [[0]]) 1,[h11E0,h11E1])):=by
  have q:rngX 0 (h11T.operators.length:Int) (s9 h11T.facts h11T.init h11T.goal h11T.operators 0 h11E0) (mset ([]:List (ByteArray×Int)) (keyK [[]]) 1,[h11E0])=some (.inl (mset (mset ([]:List (ByteArray×Int)) (keyK [[]]) 1) (keyK [[0]]) 1,[h11E0,h11E1])):=by
   show rngN (s9 h11T.facts h11T.init h11T.goal h11T.operators 0 h11E0) 1 0 (mset ([]:List (ByteArray×Int)) (keyK [[]]) 1,[h11E0])=_
   have b:s9 h11T.facts h11T.init h11T.goal h11T.operators 0 h11E0 0 (mset ([]:List (ByteArray×Int)) (keyK [[]]) 1,[h11E0])=some (.inl (mset (mset ([]:List (ByteArray×Int)) (keyK [[]]) 1) (keyK [[0]]) 1,[h11E0,h11E1])):=by
    unfold s9
    have en:h11E0.node=[[]]:=rfl
    dsimp only
    simp only[ix0,oB,en,s0,if_true,a0,k1]
    rw[if_neg m0,if_neg (by simp)]
    rfl
   simp only[rngN,b]
  unfold D6
  rw[q]
  rfl
 have st0:u5 h11T.facts h11T.init h11T.goal h11T.operators h11T.facts h11T.init h11T.goal h11T.operators ([h11E0],mset ([]:List (ByteArray×Int)) (keyK [[]]) 1,0)=some (.inl ([h11E0,h11E1],mset (mset ([]:List (ByteArray×Int)) (keyK [[]]) 1) (keyK [[0]]) 1,1)):=by
  unfold u5
  dsimp only
  have e0:ix [h11E0] 0=some h11E0:=rfl
  have en:h11E0.node=[[]]:=rfl
  rw[if_pos (by simp),e0]
  simp only[oB,en,g0,G6,F5]
  rw[if_neg (by simp),r4]
  simp only[oB]
  rw[I2 (by decide) (by decide)]
  rfl
 have lp:Loop (y8 [h11E0,h11E1]) ([],1)=some [0]:=by
  have b1:y8 [h11E0,h11E1] ([],1)=some (.inl ([0],0)):=rfl
  have b2:y8 [h11E0,h11E1] ([0],0)=some (.inr [0]):=rfl
  rw[ai1,b1]
  dsimp only
  rw[ai1,b2]
 have st1:u5 h11T.facts h11T.init h11T.goal h11T.operators h11T.facts h11T.init h11T.goal h11T.operators ([h11E0,h11E1],mset (mset ([]:List (ByteArray×Int)) (keyK [[]]) 1) (keyK [[0]]) 1,1)=some (.inr (.inr ([0],true,true))):=by
  unfold u5
  dsimp only
  have e0:ix [h11E0,h11E1] 1=some h11E1:=rfl
  have en:h11E1.node=[[0]]:=rfl
  rw[if_pos (by simp),e0]
  simp only[oB,en,g1,if_true,lp]
  rfl
 unfold C4
 rw[k0]
 simp only[oB]
 rw[show(⟨[[]], -1,0⟩:d8)=h11E0 from rfl,ai1,st0]
 dsimp only
 rw[ai1,st1]
 rfl
theorem h11_plan:V4 h11T []=some ([0],true,⟨0,0⟩):=by
 have u:F3 h11T []=some ⟨0,0⟩:=by
  obtain⟨f,h1,_,h3⟩:=al8 h11T
  rcases h3 with⟨rfl,_⟩|⟨_,hn⟩
  ·unfold F3
   rw[h1]
   simp only[oB]
   rw[if_neg (by simp),if_neg (by simp),isSet_eq]
   simp only[oB,K9]
   rw[ifNN (P3 _)]
  ·exact absurd ae6 hn
 have sm:w3 [[]] h11T.facts h11T.init h11T.goal h11T.operators=some true:=small_of ae6 (S:=[[],[0]]) (by simp) fun s hs=>h11_rt hs
 unfold V4
 rw[u]
 simp only[oB]
 rw[if_neg (by simp)]
 simp only[K5,oB,h11_worlds,sm]
 rw[if_neg (by simp),h11_breadth]
 rfl
def h11U:d6:=⟨2,[],[0,1],[⟨[],[0,1],[],2⟩]⟩
theorem h11_with:Q0 h11T 0=some (2,⟨0,0⟩):=by
 have e1:U4 h11T 0=some ⟨0,0⟩:=by kernel_rfl
 have e2:R3 h11T 0=some (h11U,⟨0,0⟩):=by kernel_rfl
 have e3:q7 h11U=some ⟨0,0⟩:=by kernel_rfl
 have e4:U8 h11U=some (0,3,[⟨0,3,0,2⟩]):=by kernel_rfl
 have e5:C6 0 3 [⟨0,3,0,2⟩]=some ([0,3],true):=by kernel_rfl
 have e6:O4 [0,3] 0 3 [⟨0,3,0,2⟩]=some [(0,2),(3,0)]:=by kernel_rfl
 have e7:O4 [3,0] 0 3 [⟨0,3,0,2⟩]=some [(3,0),(0,2)]:=by kernel_rfl
 obtain⟨l,h1,h2⟩:=sortW (l:=[0,3]) (by decide) (by simp)
 unfold Q0 W5 x6
 simp only[e1,e2,e3,e4,e5,h1,oB]
 have:l=[0,3]∨l=[3,0]:=by
  match l,h2 with
  |[a,b],h2=>
   have h3:=h2.mem_iff (a:=a)
   have h4:=h2.mem_iff (a:=b)
   have h5:=h2.nodup_iff.2 (by decide)
   simp at h3 h4 h5
   grind
  |[],h2=>have:=h2.length_eq;simp at this
  |[_],h2=>have:=h2.length_eq;simp at this
  |_::_::_::_,h2=>have:=h2.length_eq;simp at this
 rcases this with rfl|rfl
 ·simp[e6,p8,mget]
 ·simp[e7,p8,mget]
theorem h11_eq:H9=some true:=by
 have ht:V2=some h11T:=rfl
 unfold H9
 simp only[ht,oB,h11_plan,h11_with,if_true,ints_eq,k7,decide_true]
end Ab
end
section
namespace Ab
open Go
theorem mks_get{t:d6}{op:Int}{m:Mk}(h:ix (mks t) op=some m):0≤op∧op<t.operators.length∧m=mkOf (opAt t op):=by
 obtain⟨h0,h1,_⟩:=p9 h
 have h1:op<t.operators.length:=by simpa[mks] using h1
 rw[mks_ix h0 h1] at h
 exact⟨h0,h1,(Option.some.inj h).symm⟩
theorem ends_one{t:d6}{s:Li}{op:Int}(h:can t s op):ends t s [op]=some (aft t s op):=by
 simp only[ends];rw[if_pos (m8 h)]
theorem fw_plan{t:d6}(ht:l7 t){l:Li}{y:Int}(h:FwW (mks t) (wd t.init) l y):Val t l∧∃e,Rt t e∧ends t t.init l=some e∧y=wd e:=by
 induction h with
 |nil=>exact⟨by simp[Val],t.init,.init,rfl,rfl⟩
 |@snoc l y op m hw hm hc ih=>
  obtain⟨v,e,e1,e2,rfl⟩:=ih
  obtain⟨h0,h1,rfl⟩:=mks_get hm
  have hs:=e1.setN ht
  have hcan:=(ap3 ht hs h0 h1).1 hc
  refine⟨fun x hx=> ?_,aft t e op,e1.step h0 h1 hcan,?_,tgtW_eq ht hs h0 h1⟩
  ·rcases List.mem_append.1 hx with hx|hx
   ·exact v x hx
   ·rw[List.mem_singleton] at hx;subst hx;exact⟨h0,h1⟩
  ·rw[V7,e2]
   exact ends_one hcan
theorem plan_fw{t:d6}(ht:l7 t):∀{r q s e:Li},Rt t s→FwW (mks t) (wd t.init) q (wd s)→Val t r→ends t s r=some e→FwW (mks t) (wd t.init) (q++r) (wd e)
 |[],q,s,e,_,h,_,he=>by
  simp only[ends,Option.some.injEq] at he;subst he
  rw[List.append_nil];exact h
 |op::r,q,s,e,hs,h,hv,he=>by
  simp only[ends] at he
  split at he
  ·rename_i hc
   have hc:=k7.1 hc
   have h1:=hv op (by simp)
   have hn:=hs.setN ht
   have st:FwW (mks t) (wd t.init) (q++[op]) (wd (aft t s op)):=by
    rw[← tgtW_eq ht hn h1.1 h1.2]
    exact .snoc h (mks_ix h1.1 h1.2) ((ap3 ht hn h1.1 h1.2).2 hc)
   have:=plan_fw ht (hs.step h1.1 h1.2 hc) st (fun x hx=>hv x (List.mem_cons_of_mem _ hx)) he
   rwa [List.append_assoc] at this
  ·cases he
theorem fw_goal{t:d6}(ht:l7 t){p:Li}(hv:Val t p)(hw:U3 t t.init p):∃y,FwW (mks t) (wd t.init) p y∧P5 (wd t.goal) y:=by
 obtain⟨e,h1,h2⟩:=hw
 have hr:Rt t e:=Rt.ends .init hv h1
 exact⟨_,plan_fw ht .init .nil hv h1,(sub_word (hr.setN ht) ht.goal ht.n1).2 h2⟩
theorem as7(t:d6):∃r,T8 t=some r∧(r.2.2.code ≠ 0∨(l7 t∧
  ((r=([],false,⟨0,0⟩)∧∀p,Val t p→¬ U3 t t.init p)∨∃plan,r=(plan,true,⟨0,0⟩)∧Val t plan∧U3 t t.init plan∧∀p,Val t p→U3 t t.init p→plan.length≤p.length))):=by
 unfold T8
 rcases checked_spec t with⟨h,f,h1,h2,h3⟩|⟨h,h1,h2⟩|⟨ht,h1,vs,v1,v2,v3,h2⟩
 ·rw[h3]
  simp only[oB]
  rw[if_pos (by simp[h2])]
  exact⟨_,rfl,.inl h2⟩
 ·rw[h2]
  simp only[oB]
  rw[if_pos (by simp)]
  exact⟨_,rfl,.inl (by simp)⟩
 ·rw[h2]
  simp only[oB]
  rw[if_neg (by simp)]
  have hg:=words_of ht v2 v3
  obtain⟨r,r1,r2⟩:=first_spec (g:=wd t.goal) hg v1 ((v3 _).2 ⟨_,.init,rfl⟩)
  rw[r1]
  simp only[oB]
  unfold R1
  rcases r2 with⟨rfl,r2⟩|⟨plan,rfl,y,y1,y2,y3⟩
  ·rw[if_neg (by simp)]
   exact⟨_,rfl,.inr ⟨ht,.inl ⟨rfl,fun p hv hw=>by
    obtain⟨y,a,b⟩:=fw_goal ht hv hw
    exact r2 _ _ a b⟩⟩⟩
  ·by_cases c:(60:Int)<(plan.length:Int)
   ·rw[if_pos c]
    exact⟨_,rfl,.inl (by simp)⟩
   ·rw[if_neg c]
    obtain⟨hv,e,e1,e2,rfl⟩:=fw_plan ht y1
    refine⟨_,rfl,.inr ⟨ht,.inr ⟨plan,rfl,hv,⟨e,e2,(sub_word (e1.setN ht) ht.goal ht.n1).1 y2⟩,fun p pv pw=> ?_⟩⟩⟩
    obtain⟨z,a,b⟩:=fw_goal ht pv pw
    exact y3 _ _ a b
theorem ah7(t:d6):D7 t=some true:=by
 unfold D7
 obtain⟨r,e,h1,_,h3⟩:=plan_spec t []
 obtain⟨b,b1,b2⟩:=as7 t
 obtain⟨bp,bi,bf⟩:=b
 obtain⟨rp,rn,ri,rf⟩:=r
 rw[h1,b1]
 simp only[oB,h11_eq]
 dsimp only at b2
 by_cases c1:rf.code=0
 ·rcases b2 with b2|⟨ht,b2⟩
  ·rw[if_pos (by simp[b2])]
  ·rcases h3 with⟨k1,_,k3⟩|⟨_,_,_,_,k⟩|⟨_,_,_,_,k⟩
   ·cases k3;exact absurd c1 k1
   ·cases k;simp at c1
   ·have dz:∀p:Li,dm [] p=p.length:=fun p=>by cases p<;>rfl
    rcases k with⟨k,kn⟩|⟨st,d,hF,k⟩
    ·cases k
     rcases b2 with⟨b2,_⟩|⟨plan,b2,v,w,_⟩
     ·cases b2;simp
     ·exact absurd w (kn plan v)
    ·rcases k with⟨_,k⟩|⟨_,k⟩
     ·cases k
      rcases b2 with⟨b2,bn⟩|⟨plan,b2,v,w,l⟩
      ·exact absurd hF.sol (bn _ hF.ok)
      ·cases b2
       have a1:=hF.low _ v w
       have a2:=l _ hF.ok hF.sol
       have a3:=hF.dist
       rw[dz] at a1 a3
       rw[← a3] at a1 ⊢
       have e:rp.length=bp.length:=by omega
       simp[e]
     ·cases k;simp at c1
 ·rw[if_pos (by simp[c1])]
end Ab
end
