/-
  Texts that the proof stands on.
-/
import Derived.Test.YtnkccobmgoikcaaGreatDoorKRwTopRepair5
set_option linter.all false
section
namespace Ab
open Go
theorem half_eq{i j:Int}(h0:0≤i)(h1:i≤j)(h2:j≤1000000):w64 (shrW .u64 ((IntKind.u64).wrap (w64 (i+j))) 1)=(i+j) / 2:=by
 rw[x8 (n:=i+j) (by omega) (by omega),IntKind.wrap_u64,Int.emod_eq_of_lt (by omega) (by omega)]
 have:shrW .u64 (i+j) 1=(i+j) / 2:=by
  simp only[shrW,IntKind.bits]
  rw[show min (1:Int).toNat 64=1 by rfl,Int.fdiv_eq_ediv_of_nonneg _ (by decide)]
  rfl
 rw[this]
 exact x8 (by omega) (by omega)
theorem less_eq(a b:Int):U3 a b=some (decide (a<b)):=by simp[U3,G4]
theorem bsearch_eq{xs:Li}(hs:Inc xs)(hl:xs.length≤500000)(t:Int):∃i,r8 xs t=some (i,dec (t ∈ xs))∧0≤i∧i≤xs.length∧(∀k a,0≤k→k<i→ix xs k=some a→a<t)∧(∀k a,i≤k→ix xs k=some a→t≤a):=by
 unfold r8
 obtain⟨i,h1,h2,h3,h4,h5⟩:=Q3 (body:=y7 xs t) (fun p=>(0≤p.1∧p.1≤p.2∧p.2≤xs.length)∧(∀k a,0≤k→k<p.1→ix xs k=some a→a<t)∧(∀k a,p.2≤k→ix xs k=some a→t≤a))
  (fun i=>0≤i∧i≤xs.length∧(∀k a,0≤k→k<i→ix xs k=some a→a<t)∧(∀k a,i≤k→ix xs k=some a→t≤a)) (fun p=>(p.2 - p.1).toNat) (s:=(0,(xs.length:Int)))
  ⟨⟨by simp,by simp,by simp⟩,fun k a h1 h2=>by simp at h2;omega,fun k a h1 h2=>by have:=(o7 h2).2.1;simp at h1;omega⟩ (fun⟨i,j⟩ ⟨⟨g1,g2,g3⟩,g4,g5⟩=>by
  dsimp only at g1 g2 g3 g4 g5 ⊢
  unfold y7
  dsimp only
  by_cases c:i<j
  ·rw[if_pos c,half_eq g1 g2 (by omega)]
   obtain⟨a,ha,ga⟩:=n5 (l:=xs) (i:=(i+j) / 2) (by omega) (by omega)
   rw[ha]
   simp only[oB,less_eq,decide_eq_true_eq]
   by_cases c2:a<t
   ·rw[if_pos c2,x8 (by omega) (by omega)]
    refine .inl ⟨_,rfl,⟨⟨by dsimp only;omega,by dsimp only;omega,g3⟩,fun k b k0 k1 hb=> ?_,g5⟩,by dsimp only;omega⟩
    dsimp only at k1
    obtain⟨_,_,gb⟩:=o7 hb
    by_cases e:k=(i+j) / 2
    ·subst e;rw[ha] at hb;cases hb;exact c2
    ·have:=hs.get gb ga (by omega);omega
   ·rw[if_neg c2]
    refine .inl ⟨_,rfl,⟨⟨g1,by dsimp only;omega,by dsimp only;omega⟩,g4,fun k b k0 hb=> ?_⟩,by dsimp only;omega⟩
    dsimp only at k0
    obtain⟨_,_,gb⟩:=o7 hb
    by_cases e:k=(i+j) / 2
    ·subst e;rw[ha] at hb;cases hb;omega
    ·have:=hs.get ga gb (by omega);omega
  ·rw[if_neg c]
   have:i=j:=by omega
   subst this
   exact .inr ⟨i,rfl,g1,g3,g4,g5⟩)
 rw[h1]
 simp only[oB]
 refine⟨i,?_,h2,h3,h4,h5⟩
 have nin:(∀a,ix xs i=some a→a ≠ t)→t ∉ xs:=fun hne hin=>by
  obtain⟨k,k0,k1,hk⟩:=C5 hin
  rcases Int.lt_trichotomy k i with c|c|c
  ·have:=h4 k t k0 c hk;omega
  ·subst c;exact hne t hk rfl
  ·obtain⟨b,hb,gb⟩:=n5 (l:=xs) (i:=i) (by omega) (by omega)
   obtain⟨_,_,gk⟩:=o7 hk
   have:=hs.get gb gk (by omega)
   have:=h5 i b (Int.le_refl _) hb
   omega
 by_cases c:i<xs.length
 ·obtain⟨a,ha,ga⟩:=n5 (l:=xs) (i:=i) (by omega) c
  rw[if_pos c,ha]
  simp only[oB]
  by_cases c2:a=t
  ·subst c2
   rw[if_pos rfl,m4 (s7 ha)]
   rfl
  ·rw[if_neg c2]
   simp only[M6,decide_true,Bool.not_true,Bool.false_eq_true,if_false,oB]
   rw[B6 (nin fun b hb=>by rw[ha] at hb;cases hb;exact c2)]
 ·rw[if_neg c]
  simp only[oB]
  rw[B6 (nin fun b hb=>by have:=(o7 hb).2.1;omega)]
theorem bsearch2{xs:Li}(hs:Inc xs)(hl:xs.length≤500000)(t:Int):∃i,r8 xs t=some (i,dec (t ∈ xs)):=
 let ⟨i,h,_⟩:=bsearch_eq hs hl t
 ⟨i,h⟩
theorem containsFunc_eq{l:Li}{f:Int→Option Bool}(p:Int→Prop)(hf:∀x ∈ l,f x=some (dec (p x))):x6 l f=some (dec (∃x ∈ l,p x)):=by
 unfold x6 F2
 rcases U8 (body:=C1 l f) (n:=(l.length:Int)) (fun j=>if dec (∀a,ix l j=some a→¬ p a)=true then none else some j) (by omega) (fun j h0 h1 _=>by
  obtain⟨a,ha,_⟩:=n5 (l:=l) h0 h1
  unfold C1
  rw[ha]
  simp only[oB,hf a (s7 ha)]
  by_cases c:p a
  ·rw[if_pos (m4 c),if_neg (by rw[k7];exact fun h=>h a rfl c)]
  ·rw[if_neg (by rw[B6 c];simp),if_pos (m4 fun b hb=>by cases hb;exact c)]) with⟨h1,h2⟩|⟨j,o,h0,h1,h2,_,h4⟩
 ·rw[h1]
  simp only[oB]
  rw[B6]
  ·rfl
  ·rintro ⟨x,hx,hp⟩
   obtain⟨i,g1,g2,g3⟩:=C5 hx
   have:=h2 i g1 g2
   split at this
   ·rename_i h;exact k7.1 h x g3 hp
   ·cases this
 ·rw[h4]
  split at h2
  ·cases h2
  ·rename_i h
   cases h2
   simp only[oB]
   rw[m4]
   ·simp[h0]
   ·simp only[k7] at h
    obtain⟨a,g1,_⟩:=n5 (l:=l) h0 h1
    refine⟨a,s7 g1,?_⟩
    rcases Classical.em (p a) with c|c
    ·exact c
    ·exact absurd (fun b hb=>by rw[g1] at hb;cases hb;exact c) h
theorem meets_eq{a b:Li}(hb:Inc b)(hl:b.length≤500000):V4 a b=some (dec (∃x ∈ a,x ∈ b)):=by
 unfold V4
 rw[containsFunc_eq (fun x=>x ∈ b) (fun x _=>by
  unfold W5
  obtain⟨i,h⟩:=bsearch2 hb hl x
  rw[h];rfl)]
 rfl
/-! ### Sorted, and equal neighbours made one -/
theorem compact_spec{l:Li}(hs:l.Pairwise (· ≤ ·)):Inc (ab7 l)∧∀x,x ∈ ab7 l↔x ∈ l:=by
 have key:∀m,m≤l.length→Inc (Go.Lib.compactUpTo l.toArray m)∧(∀x,x ∈ Go.Lib.compactUpTo l.toArray m↔x ∈ l.take m):=by
  intro m
  induction m with
  |zero=>intro _;simp[Go.Lib.compactUpTo]
  |succ m ih=>
   intro hm
   obtain⟨h1,h2⟩:=ih (by omega)
   have hlt:m<l.length:=by omega
   have hd:l.toArray[m]! =l[m]:=by simp[hlt]
   have ht:l.take (m+1)=l.take m++[l[m]]:=by rw[List.take_add_one];simp[hlt]
   rw[Go.Lib.compactUpTo_succ,ht]
   by_cases hk:Go.Lib.keeps l.toArray m=true
   ·rw[if_pos hk,hd]
    refine⟨List.pairwise_append.2 ⟨h1,by simp,fun a ha b hb=> ?_⟩,fun x=>by rw[List.mem_append,List.mem_append,h2]⟩
    simp only[List.mem_singleton] at hb
    subst hb
    have ha':=(h2 a).1 ha
    obtain⟨i,hi,rfl⟩:=List.mem_iff_getElem.1 ha'
    rw[List.length_take] at hi
    rw[List.getElem_take]
    simp only[Go.Lib.keeps,decide_eq_true_eq] at hk
    rcases hk with hk|hk
    ·omega
    ·have hm1:l.toArray[m - 1]! =l[m - 1]:=by simp[show m - 1<l.length by omega]
     rw[hd,hm1] at hk
     have e1:l[m - 1]≤l[m]:=List.pairwise_iff_getElem.1 hs (m - 1) m (by omega) hlt (by omega)
     have e2:l[i]≤l[m - 1]:=by
      rcases Nat.lt_or_ge i (m - 1) with c|c
      ·exact List.pairwise_iff_getElem.1 hs i (m - 1) (by omega) (by omega) c
      ·have:i=m - 1:=by omega
       subst this;exact Int.le_refl _
     omega
   ·rw[if_neg hk,List.append_nil]
    refine⟨h1,fun x=> ?_⟩
    rw[h2,List.mem_append]
    refine⟨.inl,fun h=> ?_⟩
    rcases h with h|h
    ·exact h
    ·simp only[List.mem_singleton] at h
     subst h
     have hm0:m ≠ 0:=fun e=>hk (by simp[Go.Lib.keeps,e])
     have hm1:l.toArray[m - 1]! =l[m - 1]:=by simp[show m - 1<l.length by omega]
     have he:l[m]=l[m - 1]:=by
      simp only[Go.Lib.keeps,decide_eq_true_eq,not_or] at hk
      have h3:l.toArray[m]! =l.toArray[m - 1]! :=Classical.not_not.1 (fun h=>hk.2 h)
      rw[hd,hm1] at h3;exact h3
     rw[he,List.mem_take_iff_getElem]
     exact⟨m - 1,by omega,rfl⟩
 obtain⟨h1,h2⟩:=key l.length (Nat.le_refl _)
 refine⟨?_,fun x=> ?_⟩
 ·simpa[ab7,Go.Lib.compact] using h1
 ·have:=h2 x
  rw[List.take_length] at this
  simpa[ab7,Go.Lib.compact] using this
theorem srt_spec(l:Li):(srt l).Pairwise (· ≤ ·)∧∀x,x ∈ srt l↔x ∈ l:=by
 refine⟨?_,fun x=>by simp[srt]⟩
 have:=List.pairwise_mergeSort (le:=fun x y:Int=>decide (x≤y)) (fun a b c h1 h2=>by simp at h1 h2 ⊢;omega) (fun a b=>by simp;omega) l
 refine this.imp fun h=>by simpa using h
theorem sortL_eq{l:Li}(h:l.length<4611686018427387904):sortL l=some (srt l):=by rw[sortL,if_pos h]
theorem update_inc{s add del:Li}(hd:Inc del)(hl:del.length≤500000)(h1:s.length≤500000)(h2:add.length≤500000):
  ∃r,G5 s add del=some r∧Inc r∧∀x,x ∈ r↔(x ∈ s∧x ∉ del)∨x ∈ add:=by
 unfold G5
 rw[forR_filter (l:=s) (b:=8) (fun a=>a ∉ del) (fun j a c h=>by
  obtain⟨i,hi⟩:=bsearch2 hd hl a
  unfold aa6
  rw[h]
  simp only[oB,hi,N9]
  refine⟨fun hq=> ?_,fun hq=> ?_⟩
  ·rw[if_pos (m4 hq)]
   cases app 8 c [a]<;>rfl
  ·rw[if_neg (by simpa using hq)];rfl) [] (by simp;omega)]
 simp only[oB,List.nil_append]
 have hle:(s.filter fun a=>dec (a ∉ del)).length≤s.length:=List.length_filter_le _ _
 rw[show app 8 (s.filter fun a=>dec (a ∉ del)) add=some ((s.filter fun a=>dec (a ∉ del))++add) by rw[app,if_pos];omega]
 simp only[oB]
 rw[sortL_eq (by rw[List.length_append];omega)]
 simp only[oB]
 obtain⟨e1,e2⟩:=srt_spec ((s.filter fun a=>dec (a ∉ del))++add)
 obtain⟨e3,e4⟩:=compact_spec e1
 refine⟨_,rfl,e3,fun x=> ?_⟩
 rw[e4,e2,List.mem_append,List.mem_filter,k7]
theorem update_eq{s add del:Li}{n:Int}(hn:n≤1000)(hd:Inc del)(hl:del.length≤500000)(hs:SetN s n)(ha:SetN add n):
  G5 s add del=some (U2 (fun x=>(x ∈ s∧x ∉ del)∨x ∈ add) n):=by
 have h1:=hs.len;have h2:=ha.len
 obtain⟨r,e1,e2,e3⟩:=update_inc (s:=s) (add:=add) hd hl (by omega) (by omega)
 rw[e1,SetN.eq_of (n:=n) ⟨e2,fun x hx=> ?_⟩ (fun x _ _=>e3 x)]
 rcases(e3 x).1 hx with h|h
 ·exact hs.2 x h.1
 ·exact ha.2 x h
end Ab
end
section
namespace Ab
open Go
def S3(o:g8)(n:Int):Prop:=SetN o.pre n∧SetN o.add n∧SetN o.del n∧∀x ∈ o.add,x ∉ o.del
def X2(o:g8):Prop:=0≤o.cost∧o.cost≤100
noncomputable def S9(o:g8)(n:Int):Int:=if dec (S3 o n)=true then if dec (X2 o)=true then 0 else 3 else 5
structure i9(t:d4):Prop where
 n0:0≤t.facts
 n1:t.facts≤24
 init:SetN t.init t.facts
 goal:SetN t.goal t.facts
 ops:t.operators.length≤40
 op:∀o ∈ t.operators,S3 o t.facts∧X2 o
def T0(t:d4)(plan:Li):Prop:=plan.length≤60∧∀x ∈ plan,0≤x∧x<t.operators.length
theorem opCode_zero{o:g8}{n:Int}:S9 o n=0↔S3 o n∧X2 o:=by
 unfold S9
 by_cases h:S3 o n
 ·rw[if_pos (m4 h)]
  by_cases g:X2 o
  ·rw[if_pos (m4 g)];simp[h,g]
  ·rw[if_neg (by rw[B6 g];simp)];simp[g]
 ·rw[if_neg (by rw[B6 h];simp)];simp[h]
theorem operator_eq{o:g8}{n:Int}(h0:0≤n)(h1:n≤24):O5 o n=some (S9 o n):=by
 unfold O5 S9
 simp only[isSet_eq,oB,N9]
 have bad:¬ S3 o n→dec (S3 o n)=true→False:=fun h g=>h (k7.1 g)
 by_cases c1:SetN o.pre n
 ·rw[if_neg (by simpa using c1)]
  by_cases c2:SetN o.add n
  ·rw[if_neg (by simpa using c2)]
   by_cases c3:SetN o.del n
   ·rw[if_neg (by simpa using c3)]
    have hl:=c3.len
    rw[meets_eq c3.1 (by omega)]
    simp only[oB]
    by_cases c4:∃x ∈ o.add,x ∈ o.del
    ·rw[if_pos (m4 c4),if_neg]
     rw[k7]
     obtain⟨x,g1,g2⟩:=c4
     exact fun h=>h.2.2.2 x g1 g2
    ·have hs:S3 o n:=⟨c1,c2,c3,fun x g1 g2=>c4 ⟨x,g1,g2⟩⟩
     rw[if_neg (by rw[B6 c4];simp),if_pos (m4 hs)]
     by_cases c5:X2 o
     ·rw[if_pos (m4 c5),if_neg]
      have:=c5.1;have:=c5.2
      simp;omega
     ·rw[if_neg (fun h=>c5 (k7.1 h)),if_pos]
      unfold X2 at c5
      simp;omega
   ·rw[if_pos (by simpa using c3)]
    simp only[oB,if_true]
    rw[if_neg fun h=>c3 (k7.1 h).2.2.1]
  ·rw[if_pos (by simpa using c2)]
   simp only[oB,if_true]
   rw[if_neg fun h=>c2 (k7.1 h).2.1]
 ·rw[if_pos (by simpa using c1)]
  simp only[oB,if_true]
  rw[if_neg fun h=>c1 (k7.1 h).1]
theorem af8(t:d4):∃f,u6 t=some f∧af3 t=some f∧((f=⟨0,0⟩∧i9 t)∨(f.code ≠ 0∧¬ i9 t)):=by
 unfold u6 af3
 simp only[in_eq,at_eq,oB,N9]
 by_cases c1:0≤t.facts∧t.facts≤24
 ·rw[if_neg (by simp;omega),ifNN c1]
  simp only[isSet_eq,rIsSet_eq (n:=t.facts) _ (by omega) (by omega),oB,N9]
  by_cases c2:SetN t.init t.facts
  ·rw[ifNN c2,ifNN c2]
   by_cases c3:SetN t.goal t.facts
   ·rw[ifNN c3,ifNN c3]
    by_cases c4:40<(t.operators.length:Int)
    ·rw[if_pos c4,if_pos c4]
     exact⟨_,rfl,rfl,.inr ⟨by simp,fun h=>by have:=h.ops;omega⟩⟩
    ·rw[if_neg c4,if_neg c4]
     have hb:∀j:Int,0≤j→j<t.operators.length→∃o,ix t.operators j=some o∧I2 t j ()=some (if S9 o t.facts=0 then .inl () else .inr ⟨S9 o t.facts,j⟩)∧K7 t j ()=some (if S9 o t.facts=0 then .inl () else .inr ⟨S9 o t.facts,j⟩):=fun j h0 h1=>by
      obtain⟨o,ho,_⟩:=n5 (l:=t.operators) h0 h1
      refine⟨o,ho,?_,?_⟩
      ·unfold I2
       rw[ho]
       simp only[oB,operator_eq c1.1 c1.2]
       by_cases e:S9 o t.facts=0
       ·rw[if_pos e,if_pos e]
       ·rw[if_neg e,if_neg e]
      ·unfold K7
       rw[ho]
       simp only[oB,rIsSet_eq (n:=t.facts) _ (show -9223372036854775808<t.facts by omega) (show t.facts≤9223372036854775807 by omega),disjoint_eq,in_eq,at_eq,N9]
       have hp:(if dec (¬ SetN o.pre t.facts)=true then some true else if dec (¬ SetN o.add t.facts)=true then some true else if dec (¬ SetN o.del t.facts)=true then some true else some (dec (¬ ∀x ∈ o.add,x ∉ o.del)))=some (dec (¬ S3 o t.facts)):=by
        unfold S3
        by_cases g1:SetN o.pre t.facts
        ·rw[if_neg (by simpa using g1)]
         by_cases g2:SetN o.add t.facts
         ·rw[if_neg (by simpa using g2)]
          by_cases g3:SetN o.del t.facts
          ·rw[if_neg (by simpa using g3)]
           exact congrArg some (L9 ⟨fun h g=>h g.2.2.2,fun h g=>h ⟨g1,g2,g3,g⟩⟩)
          ·rw[if_pos (by simpa using g3),m4 (fun g=>g3 g.2.2.1)]
         ·rw[if_pos (by simpa using g2),m4 (fun g=>g2 g.2.1)]
        ·rw[if_pos (by simpa using g1),m4 (fun g=>g1 g.1)]
       rw[hp]
       simp only[oB]
       unfold S9
       by_cases g1:S3 o t.facts
       ·rw[if_neg (by simpa using g1),if_pos (m4 g1)]
        by_cases g2:X2 o
        ·rw[ifP g2,ifNN (p:=0≤o.cost∧o.cost≤100) g2];rfl
        ·rw[ifN g2,ifP (p:=¬ (0≤o.cost∧o.cost≤100)) g2];rfl
       ·rw[if_pos (m4 g1),if_neg (fun h=>g1 (k7.1 h))];rfl
     have heq:rngX 0 (t.operators.length:Int) (I2 t) ()=rngX 0 (t.operators.length:Int) (K7 t) ():=
      (rngX_eq (fun _ _=>True) (by omega) trivial (fun j s h0 h1 _=>by
       obtain⟨o,_,e1,e2⟩:=hb j h0 h1
       exact⟨by rw[e1,e2],by rw[e1];simp,fun _ _=>Y⟩)).1
     rcases U8 (body:=K7 t) (n:=(t.operators.length:Int)) (fun j=>match ix t.operators j with|some o=>if S9 o t.facts=0 then none else some (⟨S9 o t.facts,j⟩:i5)|none=>none) (by omega) (fun j h0 h1 _=>by
      obtain⟨o,e0,_,e2⟩:=hb j h0 h1
      rw[e2,e0]
      dsimp only
      split<;>rfl) with⟨h1,h2⟩|⟨j,f,h0,h1,h2,_,h4⟩
     ·rw[heq,h1]
      refine⟨⟨0,0⟩,rfl,rfl,.inl ⟨rfl,c1.1,c1.2,c2,c3,by omega,fun o ho=> ?_⟩⟩
      obtain⟨j,g0,g1,g2⟩:=C5 ho
      have:=h2 j g0 g1
      rw[g2] at this
      dsimp only at this
      split at this
      ·rename_i e;exact opCode_zero.1 e
      ·cases this
     ·rw[heq,h4]
      obtain⟨o,e0,_,_⟩:=hb j h0 h1
      rw[e0] at h2
      dsimp only at h2
      split at h2
      ·cases h2
      ·rename_i e
       cases h2
       exact⟨_,rfl,rfl,.inr ⟨e,fun h=>e (opCode_zero.2 (h.op o (s7 e0)))⟩⟩
   ·rw[ifP c3,ifP c3]
    exact⟨_,rfl,rfl,.inr ⟨by simp,fun h=>c3 h.goal⟩⟩
  ·rw[ifP c2,ifP c2]
   exact⟨_,rfl,rfl,.inr ⟨by simp,fun h=>c2 h.init⟩⟩
 ·rw[if_pos (by simp;omega),if_pos (m4 c1)]
  exact⟨_,rfl,rfl,.inr ⟨by simp,fun h=>c1 ⟨h.n0,h.n1⟩⟩⟩
theorem fault_no{f:i5}(h:f.code ≠ 0):(!((decide (f.code=0)) && (decide (f.index=0))))=true:=by simp[h]
theorem steps_eq{n:Int}(h0:0≤n)(h1:n≤9223372036854775807)(plan:Li):∃f,V2 n plan=some f∧ad7 n plan=some f∧((f=⟨0,0⟩∧plan.length≤60∧∀x ∈ plan,0≤x∧x<n)∨(f.code ≠ 0∧¬ (plan.length≤60∧∀x ∈ plan,0≤x∧x<n))):=by
 unfold V2 ad7
 by_cases c:60<(plan.length:Int)
 ·rw[if_pos c,if_pos c]
  exact⟨⟨2, -5⟩,rfl,rfl,.inr ⟨by simp,fun h=>by omega⟩⟩
 ·rw[if_neg c,if_neg c]
  rw[aq6 (l:=plan) (fun x=>0≤x∧x<n) (⟨3, -6⟩:i5) (fun j a h=>by
   unfold ae0
   rw[h]
   simp only[oB]
   by_cases g:0≤a∧a<n
   ·rw[if_neg (by simp;omega)];exact .inl ⟨g,rfl⟩
   ·rw[if_pos (by simp;omega)];exact .inr ⟨g,rfl⟩)]
  rw[aq6 (l:=plan) (fun x=>0≤x∧x<n) (⟨3, -6⟩:i5) (fun j a h=>by
   unfold ah0
   rw[h]
   simp only[oB,in_eq,at_eq,x8 (n:=n - 1) (by omega) (by omega),N9]
   by_cases g:0≤a∧a<n
   ·rw[if_neg (by simp;omega)];exact .inl ⟨g,rfl⟩
   ·rw[if_pos (by rw[k7];omega)];exact .inr ⟨g,rfl⟩)]
  by_cases g:∀x ∈ plan,0≤x∧x<n
  ·rw[if_pos (m4 g)]
   exact⟨_,rfl,rfl,.inl ⟨rfl,by omega,g⟩⟩
  ·rw[if_neg (fun h=>g (k7.1 h))]
   exact⟨_,rfl,rfl,.inr ⟨by simp,fun h=>g h.2⟩⟩
theorem planFault_eq(t:d4)(plan:Li):∃f,M9 t plan=some f∧af2 t plan=some f∧((f=⟨0,0⟩∧i9 t∧T0 t plan)∨(f.code ≠ 0∧¬ (i9 t∧T0 t plan))):=by
 obtain⟨f,h1,h2,h3⟩:=af8 t
 unfold M9 af2
 rw[h1,h2]
 simp only[oB]
 rcases h3 with⟨rfl,ht⟩|⟨hc,ht⟩
 ·obtain⟨g,g1,g2,g3⟩:=steps_eq (n:=(t.operators.length:Int)) (by omega) (by have:=ht.ops;omega) plan
  rw[if_neg (by simp),if_pos rfl,g1,g2]
  refine⟨g,rfl,rfl,?_⟩
  rcases g3 with⟨e,k⟩|⟨e,k⟩
  ·exact .inl ⟨e,ht,k⟩
  ·exact .inr ⟨e,fun h=>k h.2⟩
 ·rw[if_pos (fault_no hc),if_neg hc]
  exact⟨f,rfl,rfl,.inr ⟨hc,fun h=>ht h.1⟩⟩
/-! ### What operators and plans do -/
def noOp:g8:=⟨[],[],[],0⟩
def opAt(t:d4)(op:Int):g8:=(t.operators[op.toNat]?).getD noOp
theorem aa3{t:d4}{op:Int}(h0:0≤op)(h1:op<t.operators.length):ix t.operators op=some (opAt t op):=by
 obtain⟨a,h2,h3⟩:=n5 h0 h1
 rw[h2,opAt,h3];rfl
theorem i9.at{t:d4}(h:i9 t){op:Int}(h0:0≤op)(h1:op<t.operators.length):S3 (opAt t op) t.facts∧X2 (opAt t op):=h.op _ (s7 (aa3 h0 h1))
def can(t:d4)(s:Li)(op:Int):Prop:=∀x ∈ (opAt t op).pre,x ∈ s
noncomputable def aft(t:d4)(s:Li)(op:Int):Li:=U2 (fun x=>x ∈ (opAt t op).add∨x ∈ s∧x ∉ (opAt t op).del) t.facts
theorem R9(t:d4)(s:Li)(op:Int):SetN (aft t s op) t.facts:=setN_setOf _ _
theorem can_eq{t:d4}(ht:i9 t){op:Int}(h0:0≤op)(h1:op<t.operators.length){s:Li}(hs:SetN s t.facts):W3 t s op=some (dec (can t s op)):=by
 have:=ht.n1;have:=hs.len
 unfold W3
 rw[aa3 h0 h1]
 simp only[oB]
 rw[an6 hs.1 (ht.at h0 h1).1.1.1 (by omega)]
 rfl
theorem next_eq{t:d4}(ht:i9 t){op:Int}(h0:0≤op)(h1:op<t.operators.length){s:Li}(hs:SetN s t.facts):P9 t s op=some (aft t s op):=by
 have:=ht.n1
 obtain⟨⟨_,k2,k3,_⟩,_⟩:=ht.at h0 h1
 have hl:=k3.len
 unfold P9
 rw[aa3 h0 h1]
 simp only[oB]
 rw[update_eq (n:=t.facts) (by omega) k3.1 (by omega) hs k2]
 simp only[oB,aft]
 exact congrArg some (setOf_congr fun x _ _=>Or.comm)
noncomputable def ends(t:d4):Li→Li→Option Li
 |s,[]=>some s
 |s,op::r=>if dec (can t s op)=true then ends t (aft t s op) r else none
theorem ends_setN{t:d4}:∀{plan s e:Li},SetN s t.facts→ends t s plan=some e→SetN e t.facts
 |[],s,e,hs,h=>by cases h;exact hs
 |op::r,s,e,hs,h=>by
  simp only[ends] at h
  split at h
  ·exact ends_setN (R9 t s op) h
  ·cases h
theorem Y4{t:d4}:∀{p q s:Li},ends t s (p++q)=(ends t s p).bind fun e=>ends t e q
 |[],q,s=>rfl
 |op::r,q,s=>by
  simp only[List.cons_append,ends]
  split
  ·exact Y4
  ·rfl
def H6(t:d4)(s plan:Li):Prop:=∃e,ends t s plan=some e∧∀x ∈ t.goal,x ∈ e
end Ab
end
section
namespace Ab
open Go
/-! ### States as' numbers -/
def wsN:Li→Nat
 |[]=>0
 |a::l=>2 ^ a.toNat+wsN l
theorem wsN_dvd{k:Nat}:∀{l:Li},(∀x ∈ l,k≤x.toNat)→2 ^ k ∣ wsN l
 |[],_=>⟨0,rfl⟩
 |a::l,h=>Nat.dvd_add (Nat.pow_dvd_pow 2 (h a (by simp))) (wsN_dvd fun x hx=>h x (List.mem_cons_of_mem _ hx))
theorem two_pow_no{k:Nat}(h:2 ^ (k+1) ∣ 2 ^ k):False:=by
 have h1:=Nat.le_of_dvd (Nat.two_pow_pos k) h
 have h2:=Nat.two_pow_pos k
 rw[Nat.pow_succ] at h1
 omega
theorem wsN_ne{a:Int}{l m:Li}(ha:0≤a)(hl:∀x ∈ l,a<x)(hm:∀x ∈ m,a<x):wsN (a::l) ≠ wsN m:=fun h=>by
 have d1:2 ^ (a.toNat+1) ∣ wsN l:=wsN_dvd fun x hx=>by have:=hl x hx;omega
 have d2:2 ^ (a.toNat+1) ∣ wsN m:=wsN_dvd fun x hx=>by have:=hm x hx;omega
 rw[← h,wsN] at d2
 exact two_pow_no ((Nat.dvd_add_left d1).1 d2)
theorem wsN_inj:∀{l m:Li},Inc l→Inc m→(∀x ∈ l,0≤x)→(∀x ∈ m,0≤x)→wsN l=wsN m→l=m
 |[],[],_,_,_,_,_=>rfl
 |[],b::m,_,_,_,_,h=>by
  have:=Nat.two_pow_pos b.toNat
  simp only[wsN] at h;omega
 |a::l,[],_,_,_,_,h=>by
  have:=Nat.two_pow_pos a.toNat
  simp only[wsN] at h;omega
 |a::l,b::m,h1,h2,h3,h4,h=>by
  obtain⟨l1,l2⟩:=List.pairwise_cons.1 h1
  obtain⟨m1,m2⟩:=List.pairwise_cons.1 h2
  rcases Int.lt_trichotomy a b with c|c|c
  ·exact absurd h (wsN_ne (h3 a (by simp)) l1 fun x hx=>by
    rcases List.mem_cons.1 hx with rfl|hx
    ·exact c
    ·have:=m1 x hx;omega)
  ·subst c
   simp only[wsN] at h
   rw[wsN_inj l2 m2 (fun x hx=>h3 x (List.mem_cons_of_mem _ hx)) (fun x hx=>h4 x (List.mem_cons_of_mem _ hx)) (by omega)]
  ·exact absurd h.symm (wsN_ne (h4 b (by simp)) m1 fun x hx=>by
    rcases List.mem_cons.1 hx with rfl|hx
    ·exact c
    ·have:=l1 x hx;omega)
theorem SetN.word_inj{s s':Li}{n:Int}(h:SetN s n)(h':SetN s' n)(e:wsN s=wsN s'):s=s':=
 wsN_inj h.1 h'.1 (fun x hx=>(h.2 x hx).1) (fun x hx=>(h'.2 x hx).1) e
end Ab
end
section
namespace Ab
open Go
def dg(x:Int):Li:=if x<10 then [48+x] else [48+x / 10,48+x % 10]
def encS(s:Li):Li:=s.flatMap (fun x=>dg x++[44])++[59]
def encK(l:LL):Li:=l.flatMap encS
def small(s:Li):Prop:=∀x ∈ s,0≤x∧x<100
theorem dg_split{x y:Int}(hx:0≤x∧x<100)(hy:0≤y∧y<100){r r':Li}(h:dg x++44::r=dg y++44::r'):x=y∧r=r':=by
 unfold dg at h
 split at h<;>split at h<;>simp only[List.cons_append,List.nil_append,List.cons.injEq] at h
 ·exact⟨by omega,h.2.2⟩
 ·exfalso;omega
 ·exfalso;omega
 ·exact⟨by omega,h.2.2.2⟩
theorem dg_head{x:Int}(hx:0≤x∧x<100):∃a l,dg x=a::l∧48≤a∧a<58:=by
 unfold dg
 split
 ·exact⟨_,_,rfl,by omega,by omega⟩
 ·exact⟨_,_,rfl,by omega,by omega⟩
theorem ag7(x:Int)(s:Li):encS (x::s)=dg x++44::encS s:=by simp[encS]
theorem encS_inj:∀{s s' r r':Li},small s→small s'→encS s++r=encS s'++r'→s=s'∧r=r'
 |[],[],r,r',_,_,h=>by simp[encS] at h;exact⟨rfl,h⟩
 |[],y::s',r,r',_,h2,h=>by
  obtain⟨a,l,ha,h3,h4⟩:=dg_head (h2 y (by simp))
  rw[ag7,ha] at h
  simp only[encS,List.flatMap_nil,List.nil_append,List.cons_append,List.cons.injEq] at h
  omega
 |x::s,[],r,r',h1,_,h=>by
  obtain⟨a,l,ha,h3,h4⟩:=dg_head (h1 x (by simp))
  rw[ag7,ha] at h
  simp only[encS,List.flatMap_nil,List.nil_append,List.cons_append,List.cons.injEq] at h
  omega
 |x::s,y::s',r,r',h1,h2,h=>by
  rw[ag7,ag7,List.append_assoc,List.append_assoc,List.cons_append,List.cons_append] at h
  obtain⟨rfl,g⟩:=dg_split (h1 x (by simp)) (h2 y (by simp)) h
  obtain⟨e1,e2⟩:=encS_inj (s:=s) (s':=s') (fun z hz=>h1 z (List.mem_cons_of_mem _ hz)) (fun z hz=>h2 z (List.mem_cons_of_mem _ hz)) g
  exact⟨by rw[e1],e2⟩
theorem encK_inj:∀{l l':LL},(∀s ∈ l,small s)→(∀s ∈ l',small s)→encK l=encK l'→l=l'
 |[],[],_,_,_=>rfl
 |[],s::l',_,_,h=>by
  have h:=congrArg List.length h
  simp only[encK,encS,List.flatMap_nil,List.flatMap_cons,List.length_append,List.length_nil,List.length_cons] at h
  omega
 |s::l,[],_,_,h=>by
  have h:=congrArg List.length h
  simp only[encK,encS,List.flatMap_nil,List.flatMap_cons,List.length_append,List.length_nil,List.length_cons] at h
  omega
 |s::l,s'::l',h1,h2,h=>by
  have h:encS s++encK l=encS s'++encK l':=h
  obtain⟨e1,e2⟩:=encS_inj (h1 s (List.mem_cons_self ..)) (h2 s' (List.mem_cons_self ..)) h
  have e3:=encK_inj (l:=l) (l':=l') (fun z hz=>h1 z (List.mem_cons_of_mem _ hz)) (fun z hz=>h2 z (List.mem_cons_of_mem _ hz)) e2
  rw[e1,e3]
theorem dg_byte{x:Int}(hx:0≤x∧x<100):∀a ∈ dg x,0≤a∧a<256:=by
 intro a ha
 unfold dg at ha
 split at ha<;>simp at ha<;>omega
theorem encS_byte{s:Li}(h:small s):∀a ∈ encS s,0≤a∧a<256:=by
 intro a ha
 simp only[encS,List.mem_append,List.mem_flatMap,List.mem_singleton] at ha
 rcases ha with⟨x,hx,h1|h1⟩|h1
 ·exact dg_byte (h x hx) a h1
 ·omega
 ·omega
theorem encK_byte{l:LL}(h:∀s ∈ l,small s):∀a ∈ encK l,0≤a∧a<256:=by
 intro a ha
 simp only[encK,List.mem_flatMap] at ha
 obtain⟨s,hs,h1⟩:=ha
 exact encS_byte (h s hs) a h1
theorem strB_inj{l l':Li}(h1:∀a ∈ l,0≤a∧a<256)(h2:∀a ∈ l',0≤a∧a<256)(h:strB l=strB l'):l=l':=by
 have h3:l.map (fun n=>UInt8.ofNat n.toNat)=l'.map (fun n=>UInt8.ofNat n.toNat):=by
  have:=congrArg ByteArray.data h
  simpa[strB] using this
 have back:∀{m:Li},(∀a ∈ m,0≤a∧a<256)→(m.map (fun n=>UInt8.ofNat n.toNat)).map (fun b=>(b.toNat:Int))=m:=by
  intro m hm
  rw[List.map_map]
  conv=>rhs;rw[← List.map_id m]
  apply List.map_congr_left
  intro a ha
  have:=hm a ha
  simp only[Function.comp_apply,id_eq,UInt8.toNat_ofNat']
  omega
 rw[← back h1,← back h2,h3]
def keyK(l:LL):ByteArray:=strB (encK l)
theorem keyK_inj{l l':LL}(h1:∀s ∈ l,small s)(h2:∀s ∈ l',small s)(h:keyK l=keyK l'):l=l':=encK_inj h1 h2 (strB_inj (encK_byte h1) (encK_byte h2) h)
/-! ### Maps -/
theorem y4{K V:Type}[DecidableEq K](k k':K)(v:V):∀m:List (K×V),mget (mset m k v) k'=if k'=k then some v else mget m k'
 |[]=>by
  simp only[mset,mget]
 |p::r=>by
  simp only[mset]
  by_cases h:k=p.1
  ·rw[if_pos h]
   simp only[mget]
   by_cases h2:k'=k
   ·rw[if_pos h2,if_pos h2]
   ·rw[if_neg h2,if_neg h2,if_neg (by rw[← h];exact h2)]
  ·rw[if_neg h]
   simp only[mget]
   rw[y4 k k' v r]
   by_cases h2:k'=p.1
   ·rw[if_pos h2,if_pos h2,if_neg (fun e=>h (e.symm.trans h2))]
   ·rw[if_neg h2,if_neg h2]
end Ab
end
section
namespace Ab
open Go
theorem M1{α:Type}[DecidableEq α]:∀{c S:List α},c.Nodup→(∀x ∈ c,x ∈ S)→c.length≤S.length
 |[],_,_,_=>Nat.zero_le _
 |a::c,S,h,hs=>by
  obtain⟨h1,h2⟩:=List.nodup_cons.1 h
  have ha:=hs a (by simp)
  have:=M1 (c:=c) (S:=S.erase a) h2 fun x hx=>by
   have hne:x ≠ a:=fun e=>h1 (e ▸ hx)
   exact(List.mem_erase_of_ne hne).2 (hs x (List.mem_cons_of_mem _ hx))
  rw[List.length_erase_of_mem ha] at this
  have:0<S.length:=List.length_pos_of_mem ha
  simp only[List.length_cons]
  omega
section
variable {α:Type}
def Dn(G L:α→Prop)(nx:α→List α):Nat→α→Prop
 |0,s=>G s
 |k+1,s=>G s∨(L s∧∀y ∈ nx s,Dn G L nx k y)
variable {G L:α→Prop}{nx:α→List α}
theorem Dn.goal{k:Nat}{s:α}(h:G s):Dn G L nx k s:=by
 cases k with
 |zero=>exact h
 |succ k=>exact .inl h
theorem Dn.succ:∀{k:Nat} {s:α},Dn G L nx k s→Dn G L nx (k+1) s
 |0,s,h=>.inl h
 |k+1,s,h=>by
  rcases h with h|⟨h1,h2⟩
  ·exact .inl h
  ·exact .inr ⟨h1,fun y hy=>(h2 y hy).succ⟩
theorem Dn.mono{k m:Nat}{s:α}(h:Dn G L nx k s)(hm:k≤m):Dn G L nx m s:=by
 induction hm with
 |refl=>exact h
 |step _ ih=>exact ih.succ
def Ht(G L:α→Prop)(nx:α→List α)(k:Nat)(s:α):Prop:=Dn G L nx k s∧∀j,j<k→¬ Dn G L nx j s
theorem Ht.unique{k m:Nat}{s:α}(h:Ht G L nx k s)(h':Ht G L nx m s):k=m:=by
 rcases Nat.lt_trichotomy k m with c|c|c
 ·exact absurd h.1 (h'.2 k c)
 ·exact c
 ·exact absurd h'.1 (h.2 m c)
theorem Ht.le{k m:Nat}{s:α}(h:Ht G L nx k s)(h':Dn G L nx m s):k≤m:=by
 rcases Nat.lt_or_ge m k with c|c
 ·exact absurd h' (h.2 m c)
 ·exact c
theorem Ht.of_dn:∀{k:Nat} {s:α},Dn G L nx k s→∃m,m≤k∧Ht G L nx m s
 |0,s,h=>⟨0,Nat.le_refl _,h,fun j hj=>by omega⟩
 |k+1,s,h=>by
  by_cases c:Dn G L nx k s
  ·obtain⟨m,h1,h2⟩:=Ht.of_dn c
   exact⟨m,by omega,h2⟩
  ·exact⟨k+1,Nat.le_refl _,h,fun j hj hd=>c (hd.mono (by omega))⟩
theorem Ht.zero{s:α}(h:G s):Ht G L nx 0 s:=⟨h,fun j hj=>by omega⟩
theorem Ht.goal{k:Nat}{s:α}(h:Ht G L nx k s)(hg:G s):k=0:=h.unique (.zero hg)
theorem Ht.step{k:Nat}{s:α}(h:Ht G L nx k s)(hg:¬ G s)(hne:∀s,L s→nx s ≠ []):∃m,k=m+1∧L s∧(∀y ∈ nx s,∃j,j≤m∧Ht G L nx j y)∧∃y ∈ nx s,Ht G L nx m y:=by
 cases k with
 |zero=>exact absurd h.1 hg
 |succ m=>
  rcases h.1 with g|⟨h1,h2⟩
  ·exact absurd g hg
  ·refine⟨m,rfl,h1,fun y hy=>Ht.of_dn (h2 y hy),?_⟩
   cases m with
   |zero=>
    obtain⟨y,hy⟩:=List.exists_mem_of_ne_nil _ (hne s h1)
    exact⟨y,hy,h2 y hy,fun j hj=>by omega⟩
   |succ m=>
    have hn:=h.2 (m+1) (by omega)
    have:∃y ∈ nx s,¬ Dn G L nx m y:=Classical.byContradiction fun hc=>hn (.inr ⟨h1,fun y hy=>Classical.byContradiction fun hy2=>hc ⟨y,hy,hy2⟩⟩)
    obtain⟨y,hy,hy2⟩:=this
    exact⟨y,hy,h2 y hy,fun j hj hd=>hy2 (hd.mono (by omega))⟩
end
end Ab
end
section
namespace Ab
open Go
/-! ### Maps -/
section
variable {K V:Type}[DecidableEq K]
theorem H3{k:K}{v:V}:∀{m:List (K×V)},mget m k=none→mset m k v=m++[(k,v)]
 |[],_=>rfl
 |p::r,h=>by
  simp only[mget] at h
  split at h
  ·cases h
  ·rename_i hne
   simp only[mset,if_neg hne,H3 h,List.cons_append]
theorem mset_keys{k:K}{v:V}:∀{m:List (K×V)},mget m k ≠ none→(mset m k v).map (·.1)=m.map (·.1)
 |[],h=>absurd rfl h
 |p::r,h=>by
  simp only[mget] at h
  simp only[mset]
  split
  ·rename_i e;simp[e]
  ·rename_i hne
   rw[if_neg hne] at h
   simp[mset_keys h]
theorem al4{k:K}{v:V}:∀{m:List (K×V)},mget m k=some v→(k,v) ∈ m
 |[],h=>by cases h
 |p::r,h=>by
  simp only[mget] at h
  split at h
  ·rename_i e;cases h;subst e;exact List.mem_cons_self
  ·exact List.mem_cons_of_mem _ (al4 h)
theorem ac5{k:K}:∀{m:List (K×V)},mget m k=none→k ∉ m.map (·.1)
 |[],_=>by simp
 |p::r,h=>by
  simp only[mget] at h
  split at h
  ·cases h
  ·rename_i hne
   have:=ac5 h
   simp only[List.map_cons,List.mem_cons,not_or]
   exact⟨hne,this⟩
end
theorem K2{α:Type}{l:List α}{i:Int}(h:i<0):ix l i=none:=by
 unfold ix;rw[if_neg (by omega)]
theorem T3{α:Type}{l:List α}{x:α}{i:Int}:ix (l++[x]) i=if i=l.length then some x else ix l i:=by
 by_cases h0:0≤i
 ·obtain⟨k,rfl⟩:=Int.eq_ofNat_of_zero_le h0
  rw[M8,M8]
  by_cases e:k=l.length
  ·subst e;simp
  ·rw[if_neg (by omega)]
   rcases Nat.lt_or_ge k l.length with h|h
   ·rw[List.getElem?_append_left h]
   ·rw[List.getElem?_eq_none (by simp;omega),List.getElem?_eq_none h]
 ·rw[K2 (by omega),K2 (by omega),if_neg (by omega)]
theorem T2{α:Type}{l:List α}{x a:α}{i:Int}(h:ix l i=some a):ix (l++[x]) i=some a:=by
 rw[T3,if_neg (by have:=o7 h;omega),h]
theorem X3{α:Type}{l:List α}{x:α}:ix (l++[x]) (l.length:Int)=some x:=by rw[T3,if_pos rfl]
theorem mset_mem{K V:Type}[DecidableEq K]{k:K}{v:V}{p:K×V}:∀{m:List (K×V)},p ∈ mset m k v→p=(k,v)∨p ∈ m
 |[],h=>.inl (by simpa[mset] using h)
 |a::m,h=>by
  simp only[mset] at h
  split at h
  ·rcases List.mem_cons.1 h with h|h
   ·exact .inl h
   ·exact .inr (List.mem_cons_of_mem _ h)
  ·rcases List.mem_cons.1 h with h|h
   ·exact .inr (h ▸ List.mem_cons_self)
   ·rcases mset_mem h with h|h
    ·exact .inl h
    ·exact .inr (List.mem_cons_of_mem _ h)
end Ab
end
section
namespace Ab
open Go
theorem setN1(a:Int){n:Int}(h0:0≤a)(h1:a<n):SetN [a] n:=⟨by simp,by simp[h0,h1]⟩
end Ab
end
section
namespace Ab
open Go
def llt:Li→Li→Prop
 |[],[]=>False
 |[],_::_=>True
 |_::_,[]=>False
 |a::l,b::m=>a<b∨a=b∧llt l m
theorem W6:∀l:Li,¬ llt l l
 |[]=>id
 |a::l=>fun h=>by
  rcases h with h|⟨_,h⟩
  ·omega
  ·exact W6 l h
theorem ac1:∀{a b c:Li},llt a b→llt b c→llt a c
 |[],[],_,h,_=>h.elim
 |[],_::_,[],_,h=>h.elim
 |[],_::_,_::_,_,_=>trivial
 |_::_,[],_,h,_=>h.elim
 |_::_,_::_,[],_,h=>h.elim
 |x::a,y::b,z::c,h,g=>by
  rcases h with h|⟨rfl,h⟩<;>rcases g with g|⟨rfl,g⟩
  ·exact .inl (by omega)
  ·exact .inl h
  ·exact .inl g
  ·exact .inr ⟨rfl,ac1 h g⟩
theorem ac2:∀a b:Li,llt a b∨a=b∨llt b a
 |[],[]=>.inr (.inl rfl)
 |[],_::_=>.inl trivial
 |_::_,[]=>.inr (.inr trivial)
 |x::a,y::b=>by
  rcases Int.lt_trichotomy x y with h|rfl|h
  ·exact .inl (.inl h)
  ·rcases ac2 a b with h|rfl|h
   ·exact .inl (.inr ⟨rfl,h⟩)
   ·exact .inr (.inl rfl)
   ·exact .inr (.inr (.inr ⟨rfl,h⟩))
  ·exact .inr (.inr (.inl h))
theorem llt_asymm{a b:Li}(h:llt a b)(g:llt b a):False:=W6 a (ac1 h g)
noncomputable def cmpL(a b:Li):Int:=if dec (llt a b)=true then -1 else if dec (a=b)=true then 0 else 1
theorem af5{a b:Li}:cmpL a b<0↔llt a b:=by
 unfold cmpL
 by_cases h:llt a b
 ·rw[ifP h];simp[h]
 ·rw[ifN h]
  split<;>simp[h]
theorem cmpL_eq{a b:Li}:cmpL a b=0↔a=b:=by
 unfold cmpL
 by_cases h:llt a b
 ·rw[ifP h]
  constructor
  ·intro e;omega
  ·rintro rfl;exact absurd h (W6 _)
 ·rw[ifN h]
  by_cases g:a=b
  ·rw[ifP g];simp[g]
  ·rw[ifN g];simp[g]
theorem cmpInt_eq(x y:Int):P5 x y=some (if x<y then -1 else if y<x then 1 else 0):=by
 unfold P5 G4
 simp only[decide_true,Bool.not_true,oB,Bool.false_eq_true,if_false]
 split
 ·rfl
 ·split<;>rfl
theorem llt_drop:∀{a b:Li} (k:Nat),k≤a.length→k≤b.length→a.take k=b.take k→(llt a b↔llt (a.drop k) (b.drop k))
 |_,_,0,_,_,_=>by simp
 |[],_,k+1,h,_,_=>by simp at h
 |_::_,[],k+1,_,h,_=>by simp at h
 |x::a,y::b,k+1,h1,h2,h3=>by
  simp only[List.take_succ_cons,List.cons.injEq] at h3
  obtain⟨rfl,h3⟩:=h3
  simp only[List.drop_succ_cons]
  rw[← llt_drop k (by simpa using h1) (by simpa using h2) h3]
  simp[llt]
theorem compare_eq(a b:Li):v6 a b=some (cmpL a b):=by
 unfold v6
 rcases aq8 (body:=E9 a b) (n:=(a.length:Int)) (s:=()) (fun j _=>j≤b.length∧a.take j.toNat=b.take j.toNat) (fun o=>o=cmpL a b) (by omega) ⟨by omega,by simp⟩ (fun j _ j0 j1 ⟨k1,k2⟩=>by
  obtain⟨x,hx,gx⟩:=n5 (l:=a) j0 j1
  have hxl:=(lG.1 gx).2
  unfold E9
  rw[hx]
  simp only[oB]
  have hd:=llt_drop (a:=a) (b:=b) j.toNat (by omega) (by omega) k2
  have da:a.drop j.toNat=x::a.drop (j.toNat+1):=by rw[← hxl];exact List.drop_eq_getElem_cons (by omega)
  by_cases c:(b.length:Int)≤j
  ·rw[if_pos c]
   refine .inr ⟨_,rfl,?_⟩
   have db:b.drop j.toNat=[]:=List.drop_of_length_le (by omega)
   rw[da,db] at hd
   unfold cmpL
   rw[ifN (fun h=>(hd.1 h).elim),ifN]
   rintro rfl;omega
  ·rw[if_neg c]
   obtain⟨y,hy,gy⟩:=n5 (l:=b) (i:=j) j0 (by omega)
   have hyl:=(lG.1 gy).2
   have db:b.drop j.toNat=y::b.drop (j.toNat+1):=by rw[← hyl];exact List.drop_eq_getElem_cons (by omega)
   rw[hy]
   simp only[oB,cmpInt_eq]
   rw[da,db] at hd
   have hne:x ≠ y→a ≠ b:=fun h e=>by subst e;rw[hx] at hy;cases hy;exact h rfl
   rcases Int.lt_trichotomy x y with h|rfl|h
   ·rw[if_pos h,if_neg (by decide)]
    refine .inr ⟨_,rfl,?_⟩
    unfold cmpL
    rw[ifP (hd.2 (.inl h))]
   ·simp only[Int.lt_irrefl,if_false,if_true]
    refine .inl ⟨(),Y,by omega,?_⟩
    rw[show(j+1).toNat=j.toNat+1 by omega,List.take_add_one,List.take_add_one,gx,gy,k2]
   ·rw[if_neg (show ¬ x<y by omega),if_pos h,if_neg (by decide)]
    refine .inr ⟨_,rfl,?_⟩
    unfold cmpL
    rw[ifN,ifN (hne (by omega))]
    intro g
    rcases hd.1 g with g|⟨g,_⟩<;>omega) with⟨_,r1,r2,r3⟩|⟨o,r1,rfl⟩
 ·rw[r1]
  simp only[oB]
  have hd:=llt_drop (a:=a) (b:=b) a.length (Nat.le_refl _) (by omega) (by simpa using r3)
  have da:a.drop a.length=[]:=by simp
  rw[da] at hd
  have e3:a=b.take a.length:=by simpa using r3
  by_cases c:(a.length:Int)<b.length
  ·rw[if_pos c]
   have:b.drop a.length ≠ []:=by simp;omega
   unfold cmpL
   rw[ifP]
   rw[hd]
   cases h:b.drop a.length with
   |nil=>exact absurd h this
   |cons x l=>trivial
  ·rw[if_neg c]
   have:a=b:=by rw[e3,List.take_of_length_le (by omega)]
   rw[cmpL_eq.2 this]
 ·rw[r1];rfl
theorem cmp_ok:CmpOk v6 cmpL:=by
 refine⟨compare_eq,⟨fun x=> ?_,fun x y z h1 h2=> ?_,fun x y z h1 h2=> ?_⟩,fun a b h1 h2=> ?_⟩
 ·simp only[Go.Proofs.ltOf,decide_eq_false_iff_not,af5]
  exact W6 x
 ·simp only[Go.Proofs.ltOf,decide_eq_true_eq,af5] at h1 h2 ⊢
  exact ac1 h1 h2
 ·simp only[Go.Proofs.ltOf,decide_eq_false_iff_not,af5] at h1 h2 ⊢
  intro h
  rcases ac2 x y with g|rfl|g
  ·exact h1 g
  ·exact h2 h
  ·exact h2 (ac1 g h)
 ·rw[af5] at h1 h2
  rcases ac2 a b with g|g|g
  ·exact absurd g h1
  ·exact g
  ·exact absurd g h2
/-! ### Lists compared -/
theorem listEq{α:Type}{a b:List α}{body:Int→Unit→Option (Unit⊕Bool)}(hl:a.length=b.length)(hb:∀j x y,ix a j=some x→ix b j=some y→(x=y∧body j ()=some (.inl ()))∨(x ≠ y∧body j ()=some (.inr false))):
  (Option.bind (rngX 0 (a.length:Int) body ()) fun| .inl _=>some true| .inr x=>some x)=some (dec (a=b)):=by
 rcases U8 (body:=body) (n:=(a.length:Int)) (fun j=>if dec (ix a j=ix b j)=true then none else some false) (by omega) (fun j h0 h1 _=>by
  obtain⟨x,hx,_⟩:=n5 (l:=a) h0 h1
  obtain⟨y,hy,_⟩:=n5 (l:=b) (i:=j) h0 (by omega)
  rcases hb j x y hx hy with⟨e,h⟩|⟨e,h⟩
  ·rw[h,ifP (by rw[hx,hy,e])]
  ·rw[h,ifN (by rw[hx,hy];simpa using e)]) with⟨h1,h2⟩|⟨j,o,h0,h1,h2,_,h4⟩
 ·rw[h1,m4]
  ·rfl
  ·refine List.ext_getElem? fun k=> ?_
   by_cases hk:k<a.length
   ·have:=h2 k (by omega) (by omega)
    split at this
    ·rename_i e
     have:=k7.1 e
     rwa [M8,M8] at this
    ·cases this
   ·rw[List.getElem?_eq_none (by omega),List.getElem?_eq_none (by omega)]
 ·rw[h4]
  split at h2
  ·cases h2
  ·rename_i e
   cases h2
   rw[B6 (fun h=>e (m4 (by rw[h])))];rfl
theorem ints_eq(a b:Li):ag2 a b=some (dec (a=b)):=by
 unfold ag2
 by_cases hl:(a.length:Int)=b.length
 ·rw[if_pos hl]
  refine listEq (by omega) fun j x y hx hy=> ?_
  unfold am1
  simp only[hx,hy,oB]
  by_cases e:x=y
  ·rw[if_pos e];exact .inl ⟨e,rfl⟩
  ·rw[if_neg e];exact .inr ⟨e,rfl⟩
 ·rw[if_neg hl,B6 (fun h=>hl (by rw[h]))]
theorem equal_eq(a b:Li):B2 a b=some (dec (a=b)):=by
 unfold B2
 by_cases hl:(a.length:Int)=b.length
 ·rw[if_pos hl]
  refine listEq (by omega) fun j x y hx hy=> ?_
  unfold N4
  simp only[hx,hy,oB]
  by_cases e:x=y
  ·rw[if_pos e];exact .inl ⟨e,rfl⟩
  ·rw[if_neg e];exact .inr ⟨e,rfl⟩
 ·rw[if_neg hl,B6 (fun h=>hl (by rw[h]))]
/-! ### Ordered lists -/
abbrev Ord(l:LL):Prop:=l.Pairwise llt
theorem Ord.ext:∀{l m:LL},Ord l→Ord m→(∀x,x ∈ l↔x ∈ m)→l=m
 |[],[],_,_,_=>rfl
 |[],b::m,_,_,h=>absurd ((h b).2 (by simp)) (by simp)
 |a::l,[],_,_,h=>absurd ((h a).1 (by simp)) (by simp)
 |a::l,b::m,hl,hm,h=>by
  obtain⟨l1,l2⟩:=List.pairwise_cons.1 hl
  obtain⟨m1,m2⟩:=List.pairwise_cons.1 hm
  have hab:a=b:=by
   rcases List.mem_cons.1 ((h a).1 (by simp)) with e|e
   ·exact e
   ·rcases List.mem_cons.1 ((h b).2 (by simp)) with e'|e'
    ·exact e'.symm
    ·exact(llt_asymm (l1 b e') (m1 a e)).elim
  subst hab
  rw[Ord.ext l2 m2 fun x=>⟨fun hx=> ?_,fun hx=> ?_⟩]
  ·rcases List.mem_cons.1 ((h x).1 (by simp[hx])) with e|e
   ·subst e;exact absurd (l1 x hx) (W6 x)
   ·exact e
  ·rcases List.mem_cons.1 ((h x).2 (by simp[hx])) with e|e
   ·subst e;exact absurd (m1 x hx) (W6 x)
   ·exact e
def ddN(l:LL):Nat→LL
 |0=>[]
 |m+1=>ddN l m++if decide (m=0∨l[m]? ≠ l[m - 1]?)=true then l[m]?.toList else []
theorem ddN_spec{l:LL}(hs:l.Pairwise fun a b=>¬ llt b a):∀m,m≤l.length→Ord (ddN l m)∧∀x,x ∈ ddN l m↔x ∈ l.take m:=by
 intro m
 induction m with
 |zero=>intro _;simp[ddN]
 |succ m ih=>
  intro hm
  obtain⟨h1,h2⟩:=ih (by omega)
  have hlt:m<l.length:=by omega
  have ht:l.take (m+1)=l.take m++[l[m]]:=by rw[List.take_add_one];simp[hlt]
  rw[ddN,ht]
  by_cases hk:m=0∨l[m]? ≠ l[m - 1]?
  ·rw[if_pos (by simpa using hk)]
   simp only[List.getElem?_eq_getElem hlt,Option.toList_some]
   refine⟨List.pairwise_append.2 ⟨h1,by simp,fun a ha b hb=> ?_⟩,fun x=>by rw[List.mem_append,List.mem_append,h2]⟩
   simp only[List.mem_singleton] at hb
   subst hb
   have ha':=(h2 a).1 ha
   obtain⟨i,hi,rfl⟩:=List.mem_iff_getElem.1 ha'
   rw[List.length_take] at hi
   rw[List.getElem_take]
   rcases hk with hk|hk
   ·omega
   ·have hm1:m - 1<l.length:=by omega
    rw[List.getElem?_eq_getElem hlt,List.getElem?_eq_getElem hm1] at hk
    have e1:¬ llt l[m] l[m - 1]:=List.pairwise_iff_getElem.1 hs (m - 1) m hm1 hlt (by omega)
    have e2:llt l[m - 1] l[m]:=by
     rcases ac2 l[m - 1] l[m] with h|h|h
     ·exact h
     ·exact absurd (by rw[h]) hk
     ·exact absurd h e1
    by_cases hi2:i=m - 1
    ·subst hi2;exact e2
    ·have e3:¬ llt l[m - 1] l[i]:=List.pairwise_iff_getElem.1 hs i (m - 1) (by omega) hm1 (by omega)
     rcases ac2 l[i] l[m] with h|h|h
     ·exact h
     ·rw[h] at e3;exact absurd e2 e3
     ·exact absurd (ac1 e2 h) e3
  ·rw[if_neg (by simpa using hk),List.append_nil]
   refine⟨h1,fun x=> ?_⟩
   rw[h2,List.mem_append]
   refine⟨.inl,fun h=> ?_⟩
   rcases h with h|h
   ·exact h
   ·simp only[List.mem_singleton] at h
    subst h
    have hm0:m ≠ 0:=fun e=>hk (.inl e)
    have he:l[m]? =l[m - 1]? :=Classical.not_not.1 fun e=>hk (.inr e)
    rw[List.getElem?_eq_getElem hlt,List.getElem?_eq_getElem (show m - 1<l.length by omega)] at he
    rw[Option.some.inj he,List.mem_take_iff_getElem]
    exact⟨m - 1,by omega,rfl⟩
theorem ddN_len(l:LL):∀m,(ddN l m).length≤m
 |0=>by simp[ddN]
 |m+1=>by
  have:=ddN_len l m
  rw[ddN,List.length_append]
  split
  ·have:(l[m]?.toList).length≤1:=by cases l[m]? <;>simp
   omega
  ·simp;omega
theorem ddN_all{l:LL}:∀m,m≤l.length→(∀i,0<i→i<m→l[i]? ≠ l[i - 1]?)→ddN l m=l.take m
 |0,_,_=>by simp[ddN]
 |m+1,hm,h=>by
  rw[ddN,ddN_all m (by omega) fun i h0 h1=>h i h0 (by omega),if_pos,List.take_add_one]
  rw[decide_eq_true_eq]
  by_cases e:m=0
  ·exact .inl e
  ·exact .inr (h m (by omega) (by omega))
theorem compactF_eq{l:LL}(hl:l.length≤1000000):w7 l=some (ddN l l.length):=by
 unfold w7
 by_cases c0:(l.length:Int)<2
 ·rw[if_pos c0,ddN_all l.length (Nat.le_refl _) fun i h0 h1=>by omega,List.take_length]
 ·rw[if_neg c0]
  have key:=rngN_inv (body:=q8 l) (fun j _=>∀i:Nat,0<i→(i:Int)<j→l[i]? ≠ l[i - 1]?) (fun o=>o=ddN l l.length) ((l.length:Int) - 1).toNat 1 () (fun i h0 h1=>by omega) (fun j _ j0 j1 hP=>by
   obtain⟨a,ha,ga⟩:=n5 (l:=l) (i:=j) (by omega) (by omega)
   obtain⟨b,hb,gb⟩:=n5 (l:=l) (i:=j - 1) (by omega) (by omega)
   unfold q8
   simp only[ha,hb,oB,equal_eq]
   have ej:(j - 1).toNat=j.toNat - 1:=by omega
   rw[ej] at gb
   by_cases c:a=b
   ·rw[ifP c]
    subst c
    right
    rw[show cutV (l.length:Int) j (l.length:Int)=some () by rw[cutV,if_pos (by omega)]]
    simp only[oB]
    obtain⟨⟨cs,kv⟩,r1,r2,r3,r4,r5,r6⟩:=forN_inv (body:=s9 l j) (fun k2 p=>p.1.length=l.length∧j≤p.2∧p.2≤j+k2 - 1∧p.1.take p.2.toNat=ddN l (j+k2).toNat∧∀i:Nat,j+k2 - 1≤i→p.1[i]? =l[i]?) ((l.length:Int) - j - 1).toNat 1 (l,j) ⟨rfl,by simp,by dsimp only;omega,by
      dsimp only
      rw[show(j+1).toNat=j.toNat+1 by omega,ddN,if_neg,List.append_nil,ddN_all j.toNat (by omega) fun i h0 h1=>hP i h0 (by omega)]
      rw[decide_eq_true_eq]
      rintro (h|h)
      ·omega
      ·exact h (ga.trans gb.symm),fun i _=>rfl⟩ (fun k2 ⟨cs,kv⟩ k0 k1 ⟨g1,g2,g3,g4,g5⟩=>by
      dsimp only at g1 g2 g3 g4 g5 ⊢
      obtain⟨x,hx,gx⟩:=n5 (l:=l) (i:=j+k2) (by omega) (by omega)
      obtain⟨y,hy,gy⟩:=n5 (l:=l) (i:=j+k2 - 1) (by omega) (by omega)
      have iv:∀i:Int,0≤i→i<(l.length:Int) - j→ixV cs (0+j) ((l.length:Int) - j) i=ix cs (j+i):=fun i h0 h1=>by
       rw[ixV,if_pos (by omega),Int.zero_add]
      have same:∀i:Int,j+k2 - 1≤i→ix cs i=ix l i:=fun i hi=>by
       have:=g5 i.toNat (by omega)
       simp only[ix]
       rw[this]
      unfold s9
      dsimp only
      rw[iv k2 (by omega) (by omega),iv (k2 - 1) (by omega) (by omega),show j+(k2 - 1)=j+k2 - 1 by omega,same _ (by omega),same _ (by omega),hx,hy]
      simp only[oB,equal_eq,N9]
      have ek:(j+(k2+1)).toNat=(j+k2).toNat+1:=by omega
      have ek1:(j+k2 - 1).toNat=(j+k2).toNat - 1:=by omega
      rw[ek1] at gy
      by_cases cx:x=y
      ·rw[ifNN cx]
       refine⟨_,rfl,g1,g2,by omega,?_,fun i hi=>g5 i (by omega)⟩
       dsimp only
       rw[ek,ddN,if_neg,List.append_nil]
       ·exact g4
       ·rw[decide_eq_true_eq]
        rintro (h|h)
        ·omega
        ·exact h (by rw[gx,gy,cx])
      ·rw[ifP cx]
       obtain⟨z,hz,gz⟩:=n5 (l:=cs) (i:=kv) (by omega) (by omega)
       simp only[hz,oB]
       rw[x8 (by omega) (by omega)]
       refine⟨_,rfl,by rw[lS];exact g1,by omega,by omega,?_,fun i hi=> ?_⟩
       ·dsimp only
        rw[ek,ddN,if_pos,gx,show(kv+1).toNat=kv.toNat+1 by omega,List.take_add_one,List.getElem?_set,if_pos rfl,if_pos (by omega),List.take_set_of_le (Nat.le_refl _),g4]
        rw[decide_eq_true_eq]
        exact .inr (by rw[gx,gy];simpa using cx)
       ·dsimp only
        rw[List.getElem?_set,if_neg (by omega)]
        exact g5 i (by omega))
    have ef:forR 1 ((l.length:Int) - j) (s9 l j) (l,j)=some (cs,kv):=r1
    dsimp only at r2 r3 r4 r5 r6
    rw[ef]
    simp only[oB]
    have hcl:(clrL cs (0+kv) ((cs.length:Int) - kv) []).length=cs.length:=by simp[clrL];omega
    rw[show cutV (cs.length:Int) kv (cs.length:Int)=some () by rw[cutV,if_pos (by omega)]]
    simp only[oB,hcl]
    rw[show cutV (cs.length:Int) 0 kv=some () by rw[cutV,if_pos (by omega)]]
    refine⟨_,rfl,?_⟩
    have e1:k8 (clrL cs (0+kv) ((cs.length:Int) - kv) []) 0 kv=cs.take kv.toNat:=by
     simp only[k8,clrL,Int.zero_add,Int.toNat_zero,List.drop_zero]
     rw[List.append_assoc,List.take_append_of_le_length (by simp;omega),List.take_take,Nat.min_self]
    rw[e1,r5]
    congr 1
    omega
   ·rw[ifN c]
    left
    refine⟨(),rfl,fun i h0 h1=> ?_⟩
    by_cases e:(i:Int)=j
    ·have:i=j.toNat:=by omega
     subst this
     rw[ga,gb]
     simpa using c
    ·exact hP i h0 (by omega))
  rcases key with⟨_,h1,h2⟩|⟨o,h1,rfl⟩
  ·have:rngX 1 (l.length:Int) (q8 l) ()=some (.inl ()):=h1
   rw[this]
   simp only[oB]
   rw[ddN_all l.length (Nat.le_refl _) fun i h0 h1=>h2 i h0 (by omega),List.take_length]
  ·have:rngX 1 (l.length:Int) (q8 l) ()=some (.inr (ddN l l.length)):=h1
   rw[this];rfl
theorem normal_eq{l:LL}(hl:l.length≤1000000):∃r,J0 l=some r∧Ord r∧(∀x,x ∈ r↔x ∈ l)∧r.length≤l.length:=by
 unfold J0
 rw[sortFL_eq (by omega) cmp_ok]
 simp only[oB]
 have hlen:(l.mergeSort fun x y=>decide (¬ cmpL y x<0)).length=l.length:=by simp
 rw[compactF_eq (by rw[hlen];exact hl)]
 have hs:(l.mergeSort fun x y=>decide (¬ cmpL y x<0)).Pairwise fun a b=>¬ llt b a:=by
  have:=List.pairwise_mergeSort (le:=fun x y:Li=>decide (¬ cmpL y x<0)) (fun a b c h1 h2=>by
   simp only[decide_eq_true_eq,af5] at h1 h2 ⊢
   intro h
   rcases ac2 b a with g|g|g
   ·exact h1 g
   ·subst g;exact h2 h
   ·exact h2 (ac1 h g)) (fun a b=>by
   simp only[Bool.or_eq_true,decide_eq_true_eq,af5]
   by_cases h:llt b a
   ·exact .inr fun g=>llt_asymm h g
   ·exact .inl h) l
  exact this.imp fun h=>by simpa[af5] using h
 obtain⟨h1,h2⟩:=ddN_spec hs _ (Nat.le_refl _)
 refine⟨_,rfl,h1,fun x=> ?_,?_⟩
 ·rw[h2,List.take_length];simp
 ·have:=ddN_len (l.mergeSort fun x y=>decide (¬ cmpL y x<0)) (l.mergeSort fun x y=>decide (¬ cmpL y x<0)).length
  rw[hlen] at this
  rw[hlen];exact this
end Ab
end
section
namespace Ab
open Go
theorem wsN_tb:∀{l:Li},Inc l→(∀x ∈ l,0≤x)→∀k:Nat,(wsN l).testBit k=dec ((k:Int) ∈ l)
 |[],_,_,k=>by simp[wsN,dec]
 |a::l,h,h0,k=>by
  have hc:=List.pairwise_cons.1 h
  obtain⟨q,hq⟩:2 ^ (a.toNat+1) ∣ wsN l:=wsN_dvd fun x hx=>by have:=hc.1 x hx;have:=h0 a (by simp);omega
  have ih:=wsN_tb hc.2 (fun x hx=>h0 x (List.mem_cons_of_mem _ hx)) k
  have e:wsN (a::l)=wsN l|||2 ^ a.toNat:=by
   rw[hq,← Nat.two_pow_add_eq_or_of_lt (Nat.pow_lt_pow_right (by omega) (by omega)) q,← hq]
   simp only[wsN];omega
  rw[e,Nat.testBit_or,ih,Nat.testBit_two_pow]
  have ha:=h0 a (by simp)
  by_cases c:(k:Int)=a
  ·have:a.toNat=k:=by omega
   simp[this,c]
  ·have:¬ a.toNat=k:=by omega
   simp[this,c]
theorem SetN.tb{s:Li}{n:Int}(h:SetN s n)(k:Nat):(wsN s).testBit k=dec ((k:Int) ∈ s):=wsN_tb h.1 (fun x hx=>(h.2 x hx).1) k
theorem SetN.w32{s:Li}{n:Int}(h:SetN s n)(hn:n≤24):wsN s<4294967296:=by
 refine Nat.lt_pow_two_of_testBit (n:=32) _ fun i hi=> ?_
 rw[h.tb,dec_false]
 intro q
 have:=(h.2 _ q).2
 omega
theorem wrap32{n:Nat}(h:n<4294967296):IntKind.wrap .u32 (n:Int)=n:=by
 simp only[IntKind.wrap,IntKind.bits,IntKind.signed,Bool.false_and,Bool.false_eq_true,if_false]
 omega
theorem bit_and{a b:Nat}(ha:a<4294967296):Go.bits .and .u32 (a:Int) (b:Int)=((a &&& b:Nat):Int):=by
 have e:(BitVec.ofNat 32 a &&& BitVec.ofNat 32 b).toNat=a &&& b:=by
  rw[BitVec.toNat_and,BitVec.toNat_ofNat,BitVec.toNat_ofNat]
  refine Nat.eq_of_testBit_eq fun i=> ?_
  simp only[Nat.testBit_and,Nat.testBit_mod_two_pow]
  by_cases c:i<32
  ·simp[c]
  ·have:a.testBit i=false:=Nat.testBit_lt_two_pow (Nat.lt_of_lt_of_le ha (Nat.pow_le_pow_right (n:=2) (by omega) (show 32≤i by omega)))
   simp[this]
 rw[← e]
 simp only[Go.bits,BitVec.ofInt_natCast,IntKind.bits]
 exact wrap32 (BitVec.ofNat 32 a &&& BitVec.ofNat 32 b).isLt
theorem bit_or{a b:Nat}(ha:a<4294967296)(hb:b<4294967296):Go.bits .or .u32 (a:Int) (b:Int)=((a|||b:Nat):Int):=by
 have e:(BitVec.ofNat 32 a|||BitVec.ofNat 32 b).toNat=a|||b:=by
  rw[BitVec.toNat_or,BitVec.toNat_ofNat,BitVec.toNat_ofNat,Nat.mod_eq_of_lt (by simpa using ha),Nat.mod_eq_of_lt (by simpa using hb)]
 rw[← e]
 simp only[Go.bits,BitVec.ofInt_natCast,IntKind.bits]
 exact wrap32 (BitVec.ofNat 32 a|||BitVec.ofNat 32 b).isLt
theorem bit_andNot{a b:Nat}(ha:a<4294967296):∃c:Nat,Go.bits .andNot .u32 (a:Int) (b:Int)=(c:Int)∧c<4294967296∧∀k,c.testBit k=(a.testBit k && !b.testBit k):=by
 refine⟨(BitVec.ofNat 32 a &&& ~~~BitVec.ofNat 32 b).toNat,?_,(BitVec.ofNat 32 a &&& ~~~BitVec.ofNat 32 b).isLt,fun k=> ?_⟩
 ·simp only[Go.bits,BitVec.ofInt_natCast,IntKind.bits]
  exact wrap32 (BitVec.ofNat 32 a &&& ~~~BitVec.ofNat 32 b).isLt
 ·rw[BitVec.testBit_toNat,BitVec.getLsbD_and,BitVec.getLsbD_not,BitVec.getLsbD_ofNat,BitVec.getLsbD_ofNat]
  by_cases c:k<32
  ·simp[c]
  ·have:a.testBit k=false:=Nat.testBit_lt_two_pow (Nat.lt_of_lt_of_le ha (Nat.pow_le_pow_right (n:=2) (by omega) (show 32≤k by omega)))
   simp[c,this]
theorem ak1{s p:Li}{n:Int}(hs:SetN s n)(hp:SetN p n)(hn:n≤24):Go.bits .and .u32 (wsN s:Int) (wsN p:Int)=(wsN p:Int)↔∀x ∈ p,x ∈ s:=by
 rw[bit_and (hs.w32 hn)]
 constructor
 ·intro h x hx
  have h0:=(hp.2 x hx).1
  have e:(wsN s &&& wsN p)=wsN p:=by omega
  have:=congrArg (fun n=>Nat.testBit n x.toNat) e
  simp only[Nat.testBit_and,hs.tb,hp.tb,show((x.toNat:Nat):Int)=x by omega,m4 hx,Bool.and_true,k7] at this
  exact this
 ·intro h
  have e:(wsN s &&& wsN p)=wsN p:=by
   refine Nat.eq_of_testBit_eq fun i=> ?_
   rw[Nat.testBit_and,hs.tb,hp.tb,dec_and]
   exact L9 ⟨fun q=>q.2,fun q=>⟨h _ q,q⟩⟩
  rw[e]
theorem next_word{s d a:Li}{n:Int}(hs:SetN s n)(hd:SetN d n)(ha:SetN a n)(hn:n≤24):
  Go.bits .or .u32 (Go.bits .andNot .u32 (wsN s:Int) (wsN d:Int)) (wsN a:Int)=(wsN (U2 (fun x=>x ∈ a∨x ∈ s∧x ∉ d) n):Int):=by
 obtain⟨c,c1,c2,c3⟩:=bit_andNot (b:=wsN d) (hs.w32 hn)
 have hr:SetN (U2 (fun x=>x ∈ a∨x ∈ s∧x ∉ d) n) n:=setN_setOf _ _
 rw[c1,bit_or c2 (ha.w32 hn)]
 have e:c|||wsN a=wsN (U2 (fun x=>x ∈ a∨x ∈ s∧x ∉ d) n):=by
  refine Nat.eq_of_testBit_eq fun i=> ?_
  rw[Nat.testBit_or,c3,hs.tb,hd.tb,ha.tb,hr.tb,N9,dec_and,dec_or]
  refine L9 ?_
  rw[ag1]
  constructor
  ·rintro (⟨q1,q2⟩|q)
   ·exact⟨(hs.2 _ q1).1,(hs.2 _ q1).2,.inr ⟨q1,q2⟩⟩
   ·exact⟨(ha.2 _ q).1,(ha.2 _ q).2,.inl q⟩
  ·rintro ⟨_,_,q|q⟩
   ·exact .inr q
   ·exact .inl q
 rw[e]
theorem al3{s:Li}{n:Int}(hs:SetN s n)(hn:n≤24):L6 s=some (wsN s:Int):=by
 unfold L6
 obtain⟨w,h1,h2⟩:=J8 (body:=aa4 s) (n:=(s.length:Int)) (s:=0) (fun j w=>w=(wsN (s.take j.toNat):Int)) (by omega) (by simp[wsN]) (fun j w j0 j1 hP=>by
  obtain⟨a,ha,ga⟩:=n5 (l:=s) j0 j1
  have hb:=hs.2 a (s7 ha)
  have ht:s.take (j+1).toNat=s.take j.toNat++[a]:=by rw[show(j+1).toNat=j.toNat+1 by omega,List.take_add_one,ga];rfl
  have h1:SetN (s.take j.toNat) n:=⟨List.Pairwise.sublist (List.take_sublist _ _) hs.1,fun x hx=>hs.2 x (List.mem_of_mem_take hx)⟩
  have h2:SetN (s.take j.toNat++[a]) n:=by rw[← ht];exact⟨List.Pairwise.sublist (List.take_sublist _ _) hs.1,fun x hx=>hs.2 x (List.mem_of_mem_take hx)⟩
  have h3:SetN [a] n:=⟨List.pairwise_singleton _ _,fun x hx=>by simp at hx;subst hx;exact hb⟩
  have e1:shlW .u32 1 a=(wsN [a]:Int):=by
   have:=h3.w32 hn
   unfold shlW
   simp only[wsN,Nat.add_zero] at this ⊢
   rw[show min a.toNat (IntKind.u32).bits=a.toNat by simp only[IntKind.bits];omega,Int.one_mul]
   have ep:(2:Int) ^ a.toNat=((2 ^ a.toNat:Nat):Int):=by push_cast;rfl
   rw[ep];exact wrap32 this
  refine⟨Go.bits .or .u32 w (shlW .u32 1 a),by simp only[aa4,ha,oB,chk0,if_neg (show ¬ a<0 by omega)],?_⟩
  rw[e1,hP,bit_or (h1.w32 hn) (h3.w32 hn),ht]
  have e:wsN (s.take j.toNat)|||wsN [a]=wsN (s.take j.toNat++[a]):=by
   refine Nat.eq_of_testBit_eq fun i=> ?_
   rw[Nat.testBit_or,h1.tb,h2.tb,h3.tb,dec_or]
   exact L9 (by simp)
  rw[e])
 rw[h1,h2,Int.toNat_natCast,List.take_length]
 rfl
noncomputable def K6(w:Nat)(n:Nat):Li:=(nums 0 n).filter fun x=>w.testBit x.toNat
theorem facts_eq{w:Nat}(hw:w<4294967296):T6 (w:Int)=some (K6 w 32):=by
 unfold T6
 obtain⟨r,h1,h2⟩:=J8 (body:=W4 (w:Int)) (n:=32) (s:=[]) (fun j c=>c=K6 w j.toNat) (by omega) (by simp[K6,nums]) (fun j c j0 j1 hP=>by
  subst hP
  have hlen:(K6 w j.toNat).length≤32:=by
   refine Nat.le_trans (List.length_filter_le _ _) ?_
   rw[len_nums];omega
  have hn:nums 0 (j+1).toNat=nums 0 j.toNat++[j]:=by
   refine Inc.ext (aq4 _ _) (List.pairwise_append.2 ⟨aq4 _ _,List.pairwise_singleton _ _,fun x hx y hy=> ?_⟩) fun x=> ?_
   ·simp at hy;subst hy;have:=U7.1 hx;omega
   ·rw[List.mem_append,U7,U7,List.mem_singleton];omega
  have e1:shrW .u32 (w:Int) j=((w>>>j.toNat:Nat):Int):=by
   unfold shrW
   rw[show min j.toNat (IntKind.u32).bits=j.toNat by simp only[IntKind.bits];omega]
   have ep:(2:Int) ^ j.toNat=((2 ^ j.toNat:Nat):Int):=by push_cast;rfl
   rw[ep,Nat.shiftRight_eq_div_pow,Int.fdiv_eq_ediv_of_nonneg _ (Int.natCast_nonneg _)]
   rfl
  have h2:w>>>j.toNat<4294967296:=Nat.lt_of_le_of_lt (Nat.shiftRight_le _ _) hw
  have e2:Go.bits .and .u32 ((w>>>j.toNat:Nat):Int) 1=((w>>>j.toNat &&& 1:Nat):Int):=bit_and (b:=1) h2
  have e3:(w>>>j.toNat &&& 1=1)↔w.testBit j.toNat=true:=by
   rw[Nat.testBit];simp[Nat.and_comm]
  unfold W4
  rw[e1,e2]
  by_cases c:w.testBit j.toNat=true
  ·rw[if_pos (by have:=e3.2 c;omega),app,if_pos (by simp;omega)]
   exact⟨_,rfl,by simp[K6,hn,List.filter_append,c]⟩
  ·rw[if_neg (fun q=>c (e3.1 (by omega)))]
   exact⟨_,rfl,by simp[K6,hn,List.filter_append,c]⟩)
 rw[h1,h2];rfl
theorem bitsOf_inj{a b:Nat}(ha:a<4294967296)(hb:b<4294967296)(h:K6 a 32=K6 b 32):a=b:=by
 refine Nat.eq_of_testBit_eq fun i=> ?_
 by_cases c:i<32
 ·have key:∀w:Nat,(i:Int) ∈ K6 w 32↔w.testBit i=true:=fun w=>by
   simp only[K6,List.mem_filter,U7,Int.toNat_natCast]
   exact⟨fun q=>q.2,fun q=>⟨by omega,q⟩⟩
  have:=(key a).symm.trans ((by rw[h]):((i:Int) ∈ K6 a 32↔(i:Int) ∈ K6 b 32))|>.trans (key b)
  cases h1:a.testBit i<;>cases h2:b.testBit i<;>simp[h1,h2] at this ⊢
 ·have low:∀w:Nat,w<4294967296→w.testBit i=false:=fun w hw=>Nat.testBit_lt_two_pow (Nat.lt_of_lt_of_le hw (Nat.pow_le_pow_right (n:=2) (by omega) (show 32≤i by omega)))
  rw[low a ha,low b hb]
theorem words_cmp:CmpOk (fun a b:U32=>I6 a.1 b.1) (fun a b=>cmpL (K6 a.1.toNat 32) (K6 b.1.toNat 32)):=by
 obtain⟨h1,h2,h3⟩:=cmp_ok
 refine⟨fun a b=> ?_,⟨fun x=>h2.irrefl _,fun x y z=>h2.trans _ _ _,fun x y z=>h2.ntrans _ _ _⟩,fun a b q1 q2=> ?_⟩
 ·have ea:=facts_eq (w:=a.1.toNat) (by have:=a.2;omega)
  have eb:=facts_eq (w:=b.1.toNat) (by have:=b.2;omega)
  rw[show((a.1.toNat:Nat):Int)=a.1 by have:=a.2;omega] at ea
  rw[show((b.1.toNat:Nat):Int)=b.1 by have:=b.2;omega] at eb
  simp only[I6,ea,eb,oB,h1]
 ·have:=bitsOf_inj (a:=a.1.toNat) (b:=b.1.toNat) (by have:=a.2;omega) (by have:=b.2;omega) (h3 _ _ q1 q2)
  have ha:=a.2;have hb:=b.2
  exact Subtype.ext (by omega)
theorem sortW{l:Li}(hl:l.length≤1000000)(hw:∀x ∈ l,0≤x∧x<4294967296):∃l',sortFU I6 l=some l'∧l'.Perm l:=by
 unfold sortFU
 rw[dif_pos hw,sortFL_eq (by simp;omega) words_cmp]
 refine⟨_,rfl,?_⟩
 have:=(List.mergeSort_perm (l.attach.map fun x=>(⟨x.1,hw x.1 x.2⟩:U32)) (fun x y=>decide (¬ cmpL (K6 y.1.toNat 32) (K6 x.1.toNat 32)<0))).map (fun z:U32=>z.1)
 simpa using this
end Ab
end
section
namespace Ab
open Go
inductive Rt(t:d4):Li→Prop
 |init:Rt t t.init
 |step {s:Li} {op:Int} (h:Rt t s) (h0:0≤op) (h1:op<t.operators.length) (hc:can t s op):Rt t (aft t s op)
theorem Rt.setN{t:d4}(ht:i9 t){s:Li}(h:Rt t s):SetN s t.facts:=by
 cases h with
 |init=>exact ht.init
 |step=>exact R9 _ _ _
theorem Rt.ends{t:d4}:∀{plan s e:Li},Rt t s→(∀x ∈ plan,(0:Int)≤x∧x<t.operators.length)→ends t s plan=some e→Rt t e
 |[],s,e,hs,_,h=>by simp only[Ab.ends,Option.some.injEq] at h;subst h;exact hs
 |op::r,s,e,hs,hv,h=>by
  simp only[Ab.ends] at h
  split at h
  ·rename_i hc
   have:=hv op List.mem_cons_self
   exact Rt.ends (hs.step this.1 this.2 (k7.1 hc)) (fun x hx=>hv x (List.mem_cons_of_mem _ hx)) h
  ·cases h
theorem Rt.way{t:d4}{s:Li}(h:Rt t s):∃plan:Li,(∀x ∈ plan,(0:Int)≤x∧x<t.operators.length)∧Ab.ends t t.init plan=some s:=by
 induction h with
 |init=>exact⟨[],by simp,rfl⟩
 |@step s op h h0 h1 hc ih=>
  obtain⟨p,p1,p2⟩:=ih
  refine⟨p++[op],fun x hx=> ?_,?_⟩
  ·rcases List.mem_append.1 hx with hx|hx
   ·exact p1 x hx
   ·simp only[List.mem_singleton] at hx;subst hx;exact⟨h0,h1⟩
  ·rw[Y4,p2]
   simp only[oB,Ab.ends]
   rw[if_pos (m4 hc)]
def Cls(t:d4)(l:LL)(s:Li):Prop:=∀op:Int,0≤op→op<t.operators.length→can t s op→aft t s op ∈ l
theorem Rt.mem{t:d4}{l:LL}(hi:t.init ∈ l)(hc:∀s ∈ l,Cls t l s){s:Li}(h:Rt t s):s ∈ l:=by
 induction h with
 |init=>exact hi
 |step h h0 h1 hcan ih=>exact hc _ ih _ h0 h1 hcan
def Many(t:d4):Prop:=∃l:LL,l.Nodup∧l.length=2001∧∀s ∈ l,Rt t s
end Ab
end
section
namespace Ab
open Go
abbrev Mk:=i6
def wd(s:Li):Int:=(wsN s:Int)
def mkOf(o:g8):Mk:=⟨wd o.pre,wd o.add,wd o.del,o.cost⟩
def mks(t:d4):List Mk:=t.operators.map mkOf
def canW(m:Mk)(x:Int):Prop:=Go.bits .and .u32 x m.pre=m.pre
def tgtW(m:Mk)(x:Int):Int:=Go.bits .or .u32 (Go.bits .andNot .u32 x m.del) m.add
theorem wd_inj{t:d4}(ht:i9 t){s s':Li}(h:SetN s t.facts)(h':SetN s' t.facts)(e:wd s=wd s'):s=s':=
 h.word_inj h' (by unfold wd at e;omega)
theorem wd_u32{t:d4}(ht:i9 t){s:Li}(h:SetN s t.facts):0≤wd s∧wd s<4294967296:=by
 have:=h.w32 ht.n1;unfold wd;omega
theorem op_ok{t:d4}(ht:i9 t){op:Int}(h0:0≤op)(h1:op<t.operators.length):S3 (opAt t op) t.facts∧X2 (opAt t op):=ht.op _ (s7 (aa3 h0 h1))
theorem af1{t:d4}(ht:i9 t){s:Li}(h:SetN s t.facts){op:Int}(h0:0≤op)(h1:op<t.operators.length):canW (mkOf (opAt t op)) (wd s)↔can t s op:=
 ak1 h (op_ok ht h0 h1).1.1 ht.n1
theorem aj9{t:d4}(ht:i9 t){s:Li}(h:SetN s t.facts){op:Int}(h0:0≤op)(h1:op<t.operators.length):tgtW (mkOf (opAt t op)) (wd s)=wd (aft t s op):=
 next_word h (op_ok ht h0 h1).1.2.2.1 (op_ok ht h0 h1).1.2.1 ht.n1
theorem mks_mem{t:d4}{m:Mk}(h:m ∈ mks t):∃op:Int,0≤op∧op<t.operators.length∧m=mkOf (opAt t op):=by
 obtain⟨o,ho,rfl⟩:=List.mem_map.1 h
 obtain⟨i,h0,h1,h2⟩:=C5 ho
 rw[aa3 h0 h1] at h2;cases h2
 exact⟨i,h0,h1,rfl⟩
theorem mks_of{t:d4}{op:Int}(h0:0≤op)(h1:op<t.operators.length):mkOf (opAt t op) ∈ mks t:=List.mem_map.2 ⟨_,s7 (aa3 h0 h1),rfl⟩
theorem mks_ix{t:d4}{op:Int}(h0:0≤op)(h1:op<t.operators.length):ix (mks t) op=some (mkOf (opAt t op)):=by
 have:=(o7 (aa3 h0 h1)).2.2
 simp[mks,ix,h0,this]
theorem of_eq{t:d4}(ht:i9 t):ad5 t=some (wd t.init,wd t.goal,mks t):=by
 unfold ad5
 rw[al3 ht.init ht.n1,al3 ht.goal ht.n1]
 simp only[oB]
 obtain⟨r,h1,h2⟩:=J8 (body:=Y9 t) (n:=(t.operators.length:Int)) (s:=[]) (fun j c=>c=(t.operators.take j.toNat).map mkOf) (by omega) (by simp) (fun j c j0 j1 hP=>by
  have ho:=op_ok ht j0 j1
  have hx:=aa3 j0 j1
  have ga:=(o7 hx).2.2
  have hl:=ht.ops
  have htk:t.operators.take (j+1).toNat=t.operators.take j.toNat++[opAt t j]:=by rw[show(j+1).toNat=j.toNat+1 by omega,List.take_add_one,ga];rfl
  unfold Y9
  rw[hx]
  simp only[oB,al3 ho.1.1 ht.n1,al3 ho.1.2.1 ht.n1,al3 ho.1.2.2.1 ht.n1]
  refine⟨c++[mkOf (opAt t j)],?_,?_⟩
  ·unfold app
   rw[if_pos (by rw[hP];simp;omega)];rfl
  ·rw[hP,htk];simp)
 rw[h1,h2,Int.toNat_natCast,List.take_length]
 rfl
def Rwd(t:d4)(x:Int):Prop:=∃s,Rt t s∧x=wd s
theorem states_of{t:d4}:∀{l:Li},(∀x ∈ l,Rwd t x)→∃ss:LL,ss.map wd=l∧∀s ∈ ss,Rt t s
 |[],_=>⟨[],rfl,by simp⟩
 |x::l,h=>by
  obtain⟨s,s1,s2⟩:=h x (by simp)
  obtain⟨ss,h1,h2⟩:=states_of (l:=l) fun y hy=>h y (List.mem_cons_of_mem _ hy)
  exact⟨s::ss,by simp[h1,s2],by simp[s1];exact h2⟩
theorem al7{α β:Type}{f:α→β}:∀{l:List α},(l.map f).Nodup→l.Nodup
 |[],_=>List.nodup_nil
 |x::l,h=>by
  simp only[List.map_cons,List.nodup_cons] at h
  exact List.nodup_cons.2 ⟨fun hx=>h.1 (List.mem_map.2 ⟨x,hx,rfl⟩),al7 h.2⟩
theorem many_of{t:d4}{l:Li}(hn:l.Nodup)(hl:2000<l.length)(h:∀x ∈ l,Rwd t x):Many t:=by
 obtain⟨ss,h1,h2⟩:=states_of (l:=l.take 2001) fun x hx=>h x (List.mem_of_mem_take hx)
 refine⟨ss,al7 (f:=wd) (by rw[h1];exact hn.sublist (List.take_sublist _ _)),?_,h2⟩
 have:=congrArg List.length h1
 simp only[List.length_map,List.length_take] at this
 omega
theorem Rwd.next{t:d4}(ht:i9 t){x:Int}(h:Rwd t x){m:Mk}(hm:m ∈ mks t)(hc:canW m x):Rwd t (tgtW m x):=by
 obtain⟨s,s1,rfl⟩:=h
 obtain⟨op,h0,h1,rfl⟩:=mks_mem hm
 have hs:=s1.setN ht
 exact⟨_,.step s1 h0 h1 ((af1 ht hs h0 h1).1 hc),aj9 ht hs h0 h1⟩
theorem Rwd.all{t:d4}(ht:i9 t){l:Li}(hi:wd t.init ∈ l)(hc:∀x ∈ l,∀m ∈ mks t,canW m x→tgtW m x ∈ l){x:Int}(h:Rwd t x):x ∈ l:=by
 obtain⟨s,h,rfl⟩:=h
 induction h with
 |init=>exact hi
 |step h h0 h1 hcan ih=>
  have hs:=h.setN ht
  have:=hc _ ih _ (mks_of h0 h1) ((af1 ht hs h0 h1).2 hcan)
  rwa [aj9 ht hs h0 h1] at this
abbrev MpU:=List (Int×Unit)
theorem mgetU{m:MpU}{x:Int}:mget m x=none↔x ∉ m.map (·.1):=by
 constructor
 ·exact ac5
 ·intro h
  cases e:mget m x with
  |none=>rfl
  |some u=>exact absurd (List.mem_map.2 ⟨_,al4 e,rfl⟩) h
structure AlW(t:d4)(q:Li)(f:MpU)(a:Li):Prop where
 nd:(f.map (·.1)).Nodup
 pm:(f.map (·.1)).Perm (q++a)
 rw:∀x ∈ f.map (·.1),Rwd t x
theorem all_in{t:d4}(ht:i9 t){q a:Li}{f:MpU}{x:Int}(hx:Rwd t x)(h:AlW t q f a)(hf:f.length≤2000)(u:Unit){c:Li}(hc:k8 c 0 ((c.length:Int) - 1)=q):
  ∃f' q',J1 (mks t) c f x u=some (f',q')∧AlW t q' f' a∧(∀y ∈ f.map (·.1),y ∈ f'.map (·.1))∧∀m ∈ mks t,canW m x→tgtW m x ∈ f'.map (·.1):=by
 unfold J1
 have hml:(mks t).length≤40:=by simp[mks];exact ht.ops
 obtain⟨r,h1,h2,h3,h4,h5⟩:=J8 (body:=I8 (mks t) x u) (n:=((mks t).length:Int)) (s:=(f,k8 c 0 ((c.length:Int) - 1)))
  (fun j s=>AlW t s.2 s.1 a∧(∀y ∈ f.map (·.1),y ∈ s.1.map (·.1))∧s.1.length≤2000+j∧∀i m,i<j→ix (mks t) i=some m→canW m x→tgtW m x ∈ s.1.map (·.1)) (by omega)
  ⟨by rw[hc];exact h,fun _ h=>h,by simp only;omega,fun i m hi hm=>by have:=(o7 hm).1;omega⟩ (fun j s j0 j1 hP=>by
   obtain⟨f',q'⟩:=s
   obtain⟨p1,p2,p3,p4⟩:=hP
   simp only at p1 p2 p3 p4
   obtain⟨m,hm,_⟩:=n5 j0 j1
   have hmm:=s7 hm
   unfold I8
   simp only[hm,oB]
   by_cases c1:Go.bits .and .u32 x m.pre=m.pre
   ·rw[if_pos c1]
    have c1':canW m x:=c1
    have ee:Go.bits .or .u32 (Go.bits .andNot .u32 x m.del) m.add=tgtW m x:=rfl
    rw[ee]
    by_cases c2:mget f' (tgtW m x)=none
    ·rw[if_pos (by simp[c2])]
     have hq:q'.length≤f'.length:=by have:=p1.pm.length_eq;simp at this;omega
     have ha:app 4 q' [tgtW m x]=some (q'++[tgtW m x]):=by unfold app;rw[if_pos (by simp;omega)]
     simp only[ha,oB]
     have hmem:=mgetU.1 c2
     refine⟨_,rfl,⟨?_,?_,?_⟩,?_,?_,?_⟩
     ·simp only[H3 c2,List.map_append]
      refine List.nodup_append.2 ⟨p1.nd,by simp,fun y hy z hz e=> ?_⟩
      simp at hz;subst hz;subst e;exact hmem hy
     ·simp only[H3 c2,List.map_append,List.map_cons,List.map_nil]
      refine(p1.pm.append_right _).trans ?_
      rw[List.append_assoc,List.append_assoc]
      exact List.Perm.append_left _ List.perm_append_comm
     ·intro y hy
      simp only[H3 c2,List.map_append,List.mem_append,List.map_cons,List.map_nil,List.mem_singleton] at hy
      rcases hy with hy|rfl
      ·exact p1.rw y hy
      ·exact hx.next ht hmm c1'
     ·intro y hy
      simp only[H3 c2,List.map_append,List.mem_append]
      exact .inl (p2 y hy)
     ·simp only[H3 c2,List.length_append,List.length_singleton];omega
     ·intro i m' hi hm' hc'
      simp only[H3 c2,List.map_append,List.mem_append]
      by_cases e:i=j
      ·subst e;rw[hm] at hm';cases hm';exact .inr (by simp)
      ·exact .inl (p4 i m' (by omega) hm' hc')
    ·rw[if_neg (by simp;cases e:mget f' (tgtW m x) with|none=>exact absurd e c2|some _=>simp)]
     refine⟨_,rfl,p1,p2,by simp only;omega,fun i m' hi hm' hc'=> ?_⟩
     by_cases e:i=j
     ·subst e;rw[hm] at hm';cases hm'
      exact Classical.byContradiction fun q=>c2 (mgetU.2 q)
     ·exact p4 i m' (by omega) hm' hc'
   ·rw[if_neg c1]
    refine⟨_,rfl,p1,p2,by simp only;omega,fun i m' hi hm' hc'=> ?_⟩
    by_cases e:i=j
    ·subst e;rw[hm] at hm';cases hm';exact absurd hc' c1
    ·exact p4 i m' (by omega) hm' hc')
 refine⟨r.1,r.2,by rw[h1];rfl,h2,h3,fun m hm hcan=> ?_⟩
 obtain⟨i,i0,i1,hi⟩:=C5 hm
 exact h5 i m i1 hi hcan
theorem all_spec{t:d4}(ht:i9 t)(goal:Int):∃l b,I0 (wd t.init) goal (mks t)=some (l,b)∧(b=false→Many t)∧(b=true→l.Nodup∧l.length≤2000∧∀x,x ∈ l↔Rwd t x):=by
 unfold I0
 simp only[s8,oB]
 have hi0:Rwd t (wd t.init):=⟨_,.init,rfl⟩
 obtain⟨o,h1,h2⟩:=Q3 (body:=I7 (wd t.init) goal (mks t)) (s:=([wd t.init],mset ([]:MpU) (wd t.init) (),[]))
  (fun s=>AlW t s.1 s.2.1 s.2.2∧wd t.init ∈ s.2.1.map (·.1)∧s.2.1.length≤2000∧∀x ∈ s.2.2,∀m ∈ mks t,canW m x→tgtW m x ∈ s.2.1.map (·.1))
  (fun o=>match o with| .inl l=>l.Nodup∧l.length≤2000∧∀x,x ∈ l↔Rwd t x| .inr x=>x=([],false)∧Many t)
  (fun s=>2000 - s.2.2.length) ⟨⟨by simp[mset],by simp[mset],by simp[mset];exact hi0⟩,by simp[mset],by simp[mset],by simp⟩ (by
   rintro ⟨q,f,a⟩ ⟨p1,p2,p3,p4⟩
   simp only at p1 p2 p3 p4
   have hlen:f.length=q.length+a.length:=by have:=p1.pm.length_eq;simpa using this
   unfold I7
   by_cases c:0<q.length
   ·simp only[show(0:Int)<(q.length:Int) by omega,if_true]
    obtain⟨x,hx,gx⟩:=n5 (l:=q) (i:=(q.length:Int) - 1) (by omega) (by omega)
    have hq:k8 q 0 ((q.length:Int) - 1)++[x]=q:=by
     have:k8 q 0 ((q.length:Int) - 1)=q.take (q.length - 1):=by
      simp only[k8,Int.toNat_zero,List.drop_zero]
      rw[show((q.length:Int) - 1).toNat=q.length - 1 by omega]
     rw[this]
     have e:q.take (q.length - 1+1)=q.take (q.length - 1)++[x]:=by
      rw[List.take_add_one]
      rw[show((q.length:Int) - 1).toNat=q.length - 1 by omega] at gx
      rw[gx];rfl
     rw[← e,show q.length - 1+1=q.length by omega,List.take_length]
    have hxm:x ∈ f.map (·.1):=p1.pm.mem_iff.2 (List.mem_append_left _ (s7 hx))
    have hxr:=p1.rw x hxm
    have ha:app 4 a [x]=some (a++[x]):=by unfold app;rw[if_pos (by simp;omega)]
    have p1':AlW t (k8 q 0 ((q.length:Int) - 1)) f (a++[x]):=⟨p1.nd,p1.pm.trans (by
     rw (occs:=.pos [1]) [← hq]
     rw[List.append_assoc]
     exact List.Perm.append_left _ List.perm_append_comm),p1.rw⟩
    obtain⟨f',q',k1,k2,k3,k4⟩:=all_in ht hxr p1' p3 () rfl
    simp only[hx,ha,cutV,oB,w3]
    rw[if_pos (by omega)]
    simp only[oB,k1]
    by_cases big:2000<f'.length
    ·rw[if_pos (by omega)]
     exact .inr ⟨_,rfl,rfl,many_of k2.nd (by simpa using big) k2.rw⟩
    ·rw[if_neg (by omega)]
     have hlen':f'.length=q'.length+(a++[x]).length:=by have:=k2.pm.length_eq;simpa using this
     refine .inl ⟨_,rfl,⟨k2,k3 _ p2,by simp only;omega,fun y hy m hm hc=> ?_⟩,by simp only[List.length_append,List.length_singleton] at hlen' ⊢;omega⟩
     simp only[List.mem_append,List.mem_singleton] at hy
     rcases hy with hy|rfl
     ·exact k3 _ (p4 y hy m hm hc)
     ·exact k4 m hm hc
   ·have:q=[]:=List.eq_nil_of_length_eq_zero (by omega)
    subst this
    refine .inr ⟨.inl a,by simp,?_⟩
    have hp:(f.map (·.1)).Perm a:=by simpa using p1.pm
    refine⟨hp.nodup_iff.1 p1.nd,by simp at hlen;omega,fun x=>⟨fun hx=>p1.rw x (hp.mem_iff.2 hx),fun hx=> ?_⟩⟩
    exact Rwd.all ht (hp.mem_iff.1 p2) (fun y hy m hm hc=>hp.mem_iff.1 (p4 y hy m hm hc)) hx)
 rw[h1]
 rcases o with l|o
 ·exact⟨l,true,rfl,by simp,fun _=>h2⟩
 ·obtain⟨rfl,h3⟩:=h2
  exact⟨[],false,rfl,fun _=>h3,by simp⟩
end Ab
end
section
namespace Ab
open Go
abbrev En:=b9
def Hp(L:Li)(E:List En):Prop:=∀i h,ix L i=some h→∃e,ix E h=some e∧e.fat=i
structure Sme(L:Li)(E:List En)(L':Li)(E':List En):Prop where
 len:L'.length=L.length
 mem:∀h,h ∈ L'↔h ∈ L
 elen:E'.length=E.length
 e:∀h a,ix E h=some a→∃a',ix E' h=some a'∧a'.item=a.item∧a'.key=a.key
theorem Sme.refl(L:Li)(E:List En):Sme L E L E:=⟨rfl,fun _=>Iff.rfl,rfl,fun h a ha=>⟨a,ha,rfl,rfl⟩⟩
theorem Sme.trans{L L' L'':Li}{E E' E'':List En}(h:Sme L E L' E')(g:Sme L' E' L'' E''):Sme L E L'' E'':=by
 refine⟨g.len.trans h.len,fun x=>(g.mem x).trans (h.mem x),g.elen.trans h.elen,fun x a ha=> ?_⟩
 obtain⟨b,b1,b2,b3⟩:=h.e x a ha
 obtain⟨c,c1,c2,c3⟩:=g.e x b b1
 exact⟨c,c1,c2.trans b2,c3.trans b3⟩
theorem Hp.inj{L:Li}{E:List En}(h:Hp L E){i j x:Int}(h1:ix L i=some x)(h2:ix L j=some x):i=j:=by
 obtain⟨e,e1,e2⟩:=h i x h1
 obtain⟨f,f1,f2⟩:=h j x h2
 rw[e1] at f1;cases f1;rw[← e2,← f2]
theorem mem_ixI{α:Type}{l:List α}{x:α}:x ∈ l↔∃i:Int,ix l i=some x:=by
 constructor
 ·intro h
  obtain⟨k,hk⟩:=List.getElem?_of_mem h
  exact⟨k,by rw[M8];exact hk⟩
 ·rintro ⟨i,h⟩;exact s7 h
theorem less_ok{L:Li}{E:List En}(h:Hp L E){i k:Int}(hi:0≤i)(hi':i<L.length)(hk:0≤k)(hk':k<L.length):∃b,n3 i k L E=some b:=by
 obtain⟨x,x1,_⟩:=n5 hi hi'
 obtain⟨y,y1,_⟩:=n5 hk hk'
 obtain⟨e,e1,_⟩:=h i x x1
 obtain⟨f,f1,_⟩:=h k y y1
 exact⟨_,by simp only[n3,x1,y1,e1,f1,oB];rfl⟩
theorem swap_ok{L:Li}{E:List En}(h:Hp L E){i k:Int}(hi:0≤i)(hi':i<L.length)(hk:0≤k)(hk':k<L.length):
  ∃L' E',m7 i k L E=some (L',E')∧Hp L' E'∧Sme L E L' E'∧(∀x,ix L i=some x→ix L' k=some x):=by
 obtain⟨x,x1,_⟩:=n5 hi hi'
 obtain⟨y,y1,_⟩:=n5 hk hk'
 obtain⟨e,e1,e2⟩:=h i x x1
 obtain⟨f,f1,f2⟩:=h k y y1
 obtain⟨ex0,ex1,_⟩:=o7 e1
 obtain⟨ey0,ey1,_⟩:=o7 f1
 have hL:∀j,ix ((L.set i.toNat y).set k.toNat x) j=if j=k then some x else if j=i then some y else ix L j:=by
  intro j
  by_cases hj:0≤j
  ·rw[ae5 hk (by simp;omega) hj]
   split
   ·rfl
   ·rw[ae5 hi hi' hj]
  ·rw[K2 (by omega),K2 (by omega),if_neg (by omega),if_neg (by omega)]
 have q1:ix ((L.set i.toNat y).set k.toNat x) i=some y:=by
  rw[hL]
  by_cases c:i=k
  ·subst c;rw[x1] at y1;cases y1;simp
  ·rw[if_neg c,if_pos rfl]
 have q2:ix ((L.set i.toNat y).set k.toNat x) k=some x:=by rw[hL,if_pos rfl]
 have hE:∀j,ix (E.set y.toNat (⟨f.item,f.key,f.time,i⟩:En)) j=if j=y then some ⟨f.item,f.key,f.time,i⟩ else ix E j:=by
  intro j
  by_cases hj:0≤j
  ·rw[ae5 ey0 ey1 hj]
  ·rw[K2 (by omega),K2 (by omega),if_neg (by omega)]
 obtain⟨g,g1,g2,g3⟩:∃g,ix (E.set y.toNat (⟨f.item,f.key,f.time,i⟩:En)) x=some g∧g.item=e.item∧g.key=e.key:=by
  rw[hE]
  by_cases c:x=y
  ·subst c;rw[e1] at f1;cases f1;exact⟨_,if_pos rfl,rfl,rfl⟩
  ·exact⟨e,by rw[if_neg c,e1],rfl,rfl⟩
 have hE2:∀j,ix ((E.set y.toNat (⟨f.item,f.key,f.time,i⟩:En)).set x.toNat (⟨g.item,g.key,g.time,k⟩:En)) j=if j=x then some ⟨g.item,g.key,g.time,k⟩ else if j=y then some ⟨f.item,f.key,f.time,i⟩ else ix E j:=by
  intro j
  by_cases hj:0≤j
  ·rw[ae5 ex0 (by simp;omega) hj,hE]
  ·rw[K2 (by omega),K2 (by omega),if_neg (by omega),if_neg (by omega)]
 refine⟨_,_,by simp only[m7,x1,y1,q1,q2,f1,g1,oB];rfl,?_,⟨by simp,fun z=> ?_,by simp,fun z a ha=> ?_⟩,?_⟩
 ·intro j z hz
  rw[hL] at hz
  by_cases c:j=k
  ·rw[if_pos c] at hz;cases hz
   exact⟨_,by rw[hE2,if_pos rfl],c.symm⟩
  ·rw[if_neg c] at hz
   by_cases d:j=i
   ·rw[if_pos d] at hz;cases hz
    have:y ≠ x:=fun q=>by subst q;exact c (d.trans (h.inj x1 y1))
    exact⟨_,by rw[hE2,if_neg this,if_pos rfl],d.symm⟩
   ·rw[if_neg d] at hz
    obtain⟨a,a1,a2⟩:=h j z hz
    refine⟨a,?_,a2⟩
    rw[hE2,if_neg (fun q=>by subst q;exact d (h.inj hz x1)),if_neg (fun q=>by subst q;exact c (h.inj hz y1)),a1]
 ·rw[mem_ixI,mem_ixI]
  constructor
  ·rintro ⟨j,hj⟩
   rw[hL] at hj
   split at hj
   ·cases hj;exact⟨i,x1⟩
   ·split at hj
    ·cases hj;exact⟨k,y1⟩
    ·exact⟨j,hj⟩
  ·rintro ⟨j,hj⟩
   by_cases c:j=k
   ·subst c;rw[y1] at hj;cases hj;exact⟨i,q1⟩
   ·by_cases d:j=i
    ·subst d;rw[x1] at hj;cases hj;exact⟨k,q2⟩
    ·exact⟨j,by rw[hL,if_neg c,if_neg d,hj]⟩
 ·rw[hE2]
  by_cases c:z=x
  ·subst c;rw[e1] at ha;cases ha;exact⟨_,if_pos rfl,g2,g3⟩
  ·rw[if_neg c]
   by_cases d:z=y
   ·subst d;rw[f1] at ha;cases ha;exact⟨_,if_pos rfl,rfl,rfl⟩
   ·exact⟨a,by rw[if_neg d,ha],rfl,rfl⟩
 ·intro z hz;rw[x1] at hz;cases hz;exact q2
structure Kp(nv:Int)(L:Li)(E:List En)(l:Li)(e:List En):Prop where
 hp:Hp l e
 sm:Sme L E l e
 hi:∀j,nv≤j→ix l j=ix L j
theorem ix_sw{L L':Li}{E E':List En}{i k:Int}(h:m7 i k L E=some (L',E'))(hk0:0≤k)(hi0:0≤i)(hi1:i<L.length)(hk1:k<L.length){j:Int}(h1:j ≠ i)(h2:j ≠ k):ix L' j=ix L j:=by
 unfold m7 at h
 simp only[Option.bind_eq_some_iff] at h
 obtain⟨a,_,b,_,c,_,d,_,e,_,f,_,g⟩:=h
 cases g
 by_cases hj:0≤j
 ·rw[ae5 hk0 (by simp;omega) hj,if_neg h2,ae5 hi0 hi1 hj,if_neg h1]
 ·rw[K2 (by omega),K2 (by omega)]
theorem down_body{nv i:Int}{L l:Li}{E e:List En}(g:Kp nv L E l e)(hn:nv≤L.length)(hb:L.length≤1000000){c:Int}(hc:0≤c)(hc':c<L.length):
  (∃l' e' c',w5 nv (l,e,c)=some (.inl (l',e',c'))∧Kp nv L E l' e'∧c<c'∧c'<nv)∨w5 nv (l,e,c)=some (.inr (l,e,c)):=by
 have hl:=g.sm.len
 unfold w5
 have e1:w64 (w64 (2 * c)+1)=2 * c+1:=by rw[x8 (n:=2 * c) (by omega) (by omega),x8 (by omega) (by omega)]
 simp only[e1]
 by_cases c1:nv≤2 * c+1
 ·rw[if_pos (by simp[c1])];exact .inr rfl
 rw[if_neg (by simp;omega)]
 have e2:w64 (2 * c+1+1)=2 * c+2:=by rw[x8 (by omega) (by omega)];omega
 simp only[e2]
 obtain⟨j,j1,j2,j3⟩:∃j,(Option.bind (if 2 * c+2<nv then Option.bind (n3 (2 * c+2) (2 * c+1) l e) fun a32=>some a32 else some false) fun t69=>if t69=true then some (2 * c+2) else some (2 * c+1))=some j∧c<j∧j<nv:=by
  by_cases c2:2 * c+2<nv
  ·obtain⟨b,hb'⟩:=less_ok g.hp (i:=2 * c+2) (k:=2 * c+1) (by omega) (by omega) (by omega) (by omega)
   rw[if_pos c2,hb']
   cases b
   ·exact⟨2 * c+1,rfl,by omega,by omega⟩
   ·exact⟨2 * c+2,rfl,by omega,by omega⟩
  ·rw[if_neg c2]
   exact⟨2 * c+1,rfl,by omega,by omega⟩
 rw[j1,Option.bind_some]
 obtain⟨b,hb'⟩:=less_ok g.hp (i:=j) (k:=c) (by omega) (by omega) (by omega) (by omega)
 rw[hb',Option.bind_some]
 cases b
 ·exact .inr rfl
 ·obtain⟨l',e',s1,s2,s3,_⟩:=swap_ok g.hp (i:=c) (k:=j) (by omega) (by omega) (by omega) (by omega)
  simp only[s1,oB,ag6,s3.len]
  refine .inl ⟨l',e',j,rfl,⟨s2,g.sm.trans s3,fun q hq=> ?_⟩,j2,j3⟩
  rw[ix_sw s1 (by omega) (by omega) (by omega) (by omega) (by omega) (by omega),g.hi q hq]
theorem down_ok{nv t0:Int}{L:Li}{M:List (Int×Int)}{E:List En}(h:Hp L E){i:Int}(hi:0≤i)(hi':i<L.length)(hn:nv≤L.length)(hb:L.length≤1000000):
  ∃L' E' b,A0 i nv t0 L M E=some (L',E',b)∧Kp nv L E L' E':=by
 unfold A0
 obtain⟨o,o1,o2⟩:=Q3 (body:=w5 nv) (s:=(L,E,i))
  (fun s=>Kp nv L E s.1 s.2.1∧0≤s.2.2∧s.2.2<L.length) (fun o=>Kp nv L E o.1 o.2.1) (fun s=>(nv - s.2.2).toNat)
  ⟨⟨h,.refl _ _,fun _ _=>rfl⟩,hi,hi'⟩ (by
   rintro ⟨l,e,c⟩ ⟨g1,g2,g3⟩
   simp only at g1 g2 g3
   rcases down_body (i:=i) g1 hn hb g2 g3 with⟨l',e',c',q1,q2,q3,q4⟩|q
   ·exact .inl ⟨_,q1,⟨q2,by change 0≤c';omega,by change c'<_;omega⟩,by change (nv - c').toNat<(nv - c).toNat;omega⟩
   ·exact .inr ⟨_,q,g1⟩)
 obtain⟨a,b,c⟩:=o
 exact⟨a,b,_,by rw[o1];rfl,o2⟩
theorem up_ok{t0:Int}{L:Li}{M:List (Int×Int)}{E:List En}(h:Hp L E){i:Int}(hi:0≤i)(hi':i<L.length)(hb:L.length≤1000000):
  ∃L' E',C4 i t0 L M E=some (L',E')∧Hp L' E'∧Sme L E L' E':=by
 unfold C4
 obtain⟨o,o1,o2⟩:=Q3 (body:=H7) (s:=(L,E,i))
  (fun s=>(Hp s.1 s.2.1∧Sme L E s.1 s.2.1)∧0≤s.2.2∧s.2.2<L.length) (fun o=>Hp o.1 o.2∧Sme L E o.1 o.2) (fun s=>s.2.2.toNat)
  ⟨⟨h,.refl _ _⟩,hi,hi'⟩ (by
   rintro ⟨l,e,c⟩ ⟨⟨g1,g4⟩,g2,g3⟩
   simp only at g1 g2 g3 g4
   have hl:=g4.len
   unfold H7
   have e1:w64 (c - 1)=c - 1:=x8 (by omega) (by omega)
   have e3:(c - 1).tdiv 2=if c=0 then 0 else(c - 1) / 2:=by
    split
    ·rename_i q;subst q;rfl
    ·rw[Int.tdiv_eq_ediv_of_nonneg (by omega)]
   have e2:w64 ((c - 1).tdiv 2)=if c=0 then 0 else(c - 1) / 2:=by
    rw[e3];split
    ·rfl
    ·exact x8 (by omega) (by omega)
   simp only[e1,e2,chkN,show((2:Int)=0)=False by simp,if_false,oB]
   by_cases c0:c=0
   ·subst c0
    rw[if_pos (by simp)]
    exact .inr ⟨_,rfl,g1,g4⟩
   ·simp only[if_neg c0]
    rw[if_neg (by omega)]
    obtain⟨b,hb'⟩:=less_ok g1 (i:=c) (k:=(c - 1) / 2) (by omega) (by omega) (by omega) (by omega)
    rw[hb']
    cases b
    ·exact .inr ⟨_,rfl,g1,g4⟩
    ·obtain⟨l',e',s1,s2,s3,_⟩:=swap_ok g1 (i:=(c - 1) / 2) (k:=c) (by omega) (by omega) (by omega) (by omega)
     simp only[oB,Bool.not_true,Bool.false_eq_true,if_false,s1,ag6,s3.len,if_true]
     exact .inl ⟨_,rfl,⟨⟨s2,g4.trans s3⟩,by simp only;omega,by simp only;omega⟩,by simp only;omega⟩)
 exact⟨o.1,o.2,by rw[o1];rfl,o2⟩
theorem fix_ok{t0:Int}{L:Li}{M:List (Int×Int)}{E:List En}(h:Hp L E){i:Int}(hi:0≤i)(hi':i<L.length)(hb:L.length≤1000000):
  ∃L' E',F9 i t0 L M E=some (L',E')∧Hp L' E'∧Sme L E L' E':=by
 unfold F9
 obtain⟨L',E',b,h1,h2⟩:=down_ok (nv:=L.length) (t0:=t0) (M:=M) h hi hi' (by omega) hb
 simp only[n8,h1,oB]
 cases b
 ·obtain⟨L2,E2,k1,k2,k3⟩:=up_ok (t0:=t0) (M:=M) h2.hp hi (by rw[h2.sm.len];exact hi') (by rw[h2.sm.len];exact hb)
  exact⟨L2,E2,by simp[k1],k2,h2.sm.trans k3⟩
 ·exact⟨L',E',by simp,h2.hp,h2.sm⟩
theorem push_ok{t0:Int}{L:Li}{M:List (Int×Int)}{E:List En}(h:Hp L E){x:Int}{e:En}(hx:ix E x=some e)(hn:x ∉ L)(hb:L.length≤999999):
  ∃L' E',E0 x t0 E L M=some (E',L')∧Hp L' E'∧Sme (L++[x]) E L' E':=by
 unfold E0 A6
 obtain⟨x0,x1,_⟩:=o7 hx
 have ha:app 8 L [x]=some (L++[x]):=by unfold app;rw[if_pos (by simp;omega)]
 have hE:∀j,ix (E.set x.toNat (⟨e.item,e.key,e.time,(L.length:Int)⟩:En)) j=if j=x then some ⟨e.item,e.key,e.time,(L.length:Int)⟩ else ix E j:=by
  intro j
  by_cases hj:0≤j
  ·rw[ae5 x0 x1 hj]
  ·rw[K2 (by omega),K2 (by omega),if_neg (by omega)]
 simp only[hx,ha,oB,n8]
 have e1:w64 (((L++[x]).length:Int) - 1)=(L.length:Int):=by rw[show(((L++[x]).length:Int) - 1)=(L.length:Int) by simp];exact x8 (by omega) (by omega)
 have hh:Hp (L++[x]) (E.set x.toNat (⟨e.item,e.key,e.time,(L.length:Int)⟩:En)):=by
  intro i z hz
  rw[T3] at hz
  by_cases c:i=L.length
  ·rw[if_pos c] at hz;cases hz
   exact⟨_,by rw[hE,if_pos rfl],c.symm⟩
  ·rw[if_neg c] at hz
   obtain⟨a,a1,a2⟩:=h i z hz
   exact⟨a,by rw[hE,if_neg (fun q=>by subst q;exact hn (s7 hz)),a1],a2⟩
 obtain⟨L',E',k1,k2,k3⟩:=up_ok (t0:=t0) (M:=M) hh (i:=L.length) (by omega) (by simp;omega) (by simp;omega)
 refine⟨L',E',by rw[e1,k1];rfl,k2,Sme.trans ⟨rfl,fun _=>Iff.rfl,by simp,fun z a hz=> ?_⟩ k3⟩
 rw[hE]
 by_cases c:z=x
 ·subst c;rw[hx] at hz;cases hz;exact⟨_,if_pos rfl,rfl,rfl⟩
 ·exact⟨a,by rw[if_neg c,hz],rfl,rfl⟩
theorem pop_ok{t0:Int}{L:Li}{M:List (Int×Int)}{E:List En}(h:Hp L E)(hl:0<L.length)(hb:L.length≤1000000):
  ∃L' E' x,G3 t0 L M E=some (E',L',x)∧Hp L' E'∧Sme L E (L'++[x]) E'∧x ∉ L':=by
 unfold G3
 have e1:w64 ((L.length:Int) - 1)=(L.length:Int) - 1:=x8 (by omega) (by omega)
 obtain⟨l,e,s1,s2,s3,_⟩:=swap_ok h (i:=0) (k:=(L.length:Int) - 1) (by omega) (by omega) (by omega) (by omega)
 have hl':=s3.len
 obtain⟨L1,E1,b,d1,d2⟩:=down_ok (nv:=(L.length:Int) - 1) (t0:=t0) (M:=M) s2 (i:=0) (by omega) (by omega) (by omega) (by omega)
 have hs:=s3.trans d2.sm
 have hl1:=hs.len
 obtain⟨x,x1,_⟩:=n5 (l:=L1) (i:=(L.length:Int) - 1) (by omega) (by omega)
 have hcut:subL L1 0 ((L1.length:Int) - 1)=some L1.dropLast:=by
  unfold subL
  rw[if_pos (by omega)]
  simp only[Int.toNat_zero,List.drop_zero,List.dropLast_eq_take]
  rw[show((L1.length:Int) - 1).toNat=L1.length - 1 by omega]
 have hsnoc:L1.dropLast++[x]=L1:=by
  have hne:L1 ≠ []:=by intro q;rw[q] at hl1;simp at hl1;omega
  have:=(o7 x1).2.2
  rw[show((L.length:Int) - 1).toNat=L1.length - 1 by omega] at this
  have hlast:L1.getLast hne=x:=by
   rw[List.getLast_eq_getElem]
   have:=lG.1 this
   exact this.2
  rw[← hlast];exact List.dropLast_concat_getLast hne
 have hd:Hp L1.dropLast E1:=fun i z hz=>d2.hp i z (by
  have:=T2 (x:=x) hz;rwa [hsnoc] at this)
 refine⟨L1.dropLast,E1,x,?_,hd,by rw[hsnoc];exact hs,fun hx=> ?_⟩
 ·
  simp only[n8,e1,s1,oB,ag6,hl',if_true,d1,B1,hcut]
  rw[show(L1.length:Int) - 1=(L.length:Int) - 1 by omega,x1];rfl
 ·obtain⟨i,hi⟩:=mem_ixI.1 hx
  have h2:=T2 (x:=x) hi
  rw[hsnoc] at h2
  have:=d2.hp.inj h2 x1
  have h3:=(o7 hi).2.1
  simp at h3;omega
end Ab
end
section
namespace Ab
open Go
theorem mset_nodup{k v:Int}{m:List (Int×Int)}(h:(m.map (·.1)).Nodup):((mset m k v).map (·.1)).Nodup:=by
 by_cases c:mget m k=none
 ·rw[H3 c,List.map_append]
  refine List.nodup_append.2 ⟨h,by simp,fun a ha b hb e=> ?_⟩
  simp at hb;subst hb;subst e;exact ac5 c ha
 ·rw[mset_keys c];exact h
theorem mget_of_mem{k v:Int}:∀{m:List (Int×Int)},(m.map (·.1)).Nodup→(k,v) ∈ m→mget m k=some v
 |[],_,h=>by simp at h
 |p::r,hn,h=>by
  simp only[List.map_cons,List.nodup_cons] at hn
  simp only[mget]
  rcases List.mem_cons.1 h with e|h
  ·subst e;simp
  ·rw[if_neg (fun e=>hn.1 (by rw[← e];exact List.mem_map.2 ⟨_,h,rfl⟩))]
   exact mget_of_mem hn.2 h
theorem mdel_sub{k:Int}:∀{m:List (Int×Int)},(mdel m k).Sublist m
 |[]=>List.Sublist.slnil
 |p::r=>by
  simp only[mdel]
  split
  ·exact List.sublist_cons_self _ _
  ·exact mdel_sub.cons_cons _
theorem mget_mdel{k:Int}:∀{m:List (Int×Int)},(m.map (·.1)).Nodup→∀x,mget (mdel m k) x=if x=k then none else mget m x
 |[],_,x=>by simp[mdel,mget]
 |p::r,hn,x=>by
  simp only[List.map_cons,List.nodup_cons] at hn
  simp only[mdel]
  by_cases c:k=p.1
  ·rw[if_pos c]
   by_cases d:x=k
   ·rw[if_pos d]
    cases e:mget r x with
    |none=>rfl
    |some v=>exact absurd (List.mem_map.2 ⟨_,al4 e,rfl⟩) (by rw[d,c];exact hn.1)
   ·rw[if_neg d]
    simp only[mget]
    rw[if_neg (fun e=>d (e.trans c.symm))]
  ·rw[if_neg c]
   simp only[mget,mget_mdel hn.2]
   by_cases d:x=k
   ·rw[if_pos d,if_pos d,if_neg (by rw[d];exact c)]
   ·rw[if_neg d,if_neg d]
structure Qu(M:List (Int×Int))(L:Li)(E:List En):Prop where
 hp:Hp L E
 keys:(M.map (·.1)).Nodup
 mem:∀x h,mget M x=some h↔h ∈ L∧∃e,ix E h=some e∧e.item=x
def qkey(M:List (Int×Int))(E:List En)(x:Int):Option Int:=(mget M x).bind fun h=>(ix E h).map (·.key)
theorem Sme.item{L L':Li}{E E':List En}(h:Sme L E L' E')(x y:Int):(∃e,ix E' x=some e∧e.item=y)↔∃e,ix E x=some e∧e.item=y:=by
 constructor
 ·rintro ⟨e,e1,e2⟩
  obtain⟨a,b,_⟩:=o7 e1
  obtain⟨f,f1,_⟩:=n5 (l:=E) a (by rw[← h.elen];exact b)
  obtain⟨g,g1,g2,_⟩:=h.e x f f1
  rw[e1] at g1;cases g1
  exact⟨f,f1,g2.symm.trans e2⟩
 ·rintro ⟨e,e1,e2⟩
  obtain⟨g,g1,g2,_⟩:=h.e x e e1
  exact⟨g,g1,g2.trans e2⟩
theorem Sme.key{L L':Li}{E E':List En}(h:Sme L E L' E')(x:Int):(ix E' x).map (·.key)=(ix E x).map (·.key):=by
 cases e1:ix E x with
 |some e=>
  obtain⟨g,g1,_,g3⟩:=h.e x e e1
  rw[g1];simp[g3]
 |none=>
  cases e2:ix E' x with
  |none=>rfl
  |some e=>
   obtain⟨a,b,_⟩:=o7 e2
   obtain⟨f,f1,_⟩:=n5 (l:=E) a (by rw[← h.elen];exact b)
   rw[e1] at f1;cases f1
theorem Qu.sme{M:List (Int×Int)}{L L':Li}{E E':List En}(h:Qu M L E)(hp:Hp L' E')(hs:Sme L E L' E'):Qu M L' E'∧∀x,qkey M E' x=qkey M E x:=by
 refine⟨⟨hp,h.keys,fun x y=> ?_⟩,fun x=> ?_⟩
 ·rw[h.mem,hs.mem,hs.item]
 ·unfold qkey
  cases mget M x with
  |none=>rfl
  |some y=>simp[hs.key]
theorem Qu.nil:Qu [] [] []:=⟨fun i h e=>by simp[ix] at e,by simp,fun x h=>by simp[mget]⟩
theorem Qu.val{M:List (Int×Int)}{L:Li}{E:List En}(h:Qu M L E){z:Int}(hz:z ∈ L):z.toNat<E.length:=by
 obtain⟨i,_,_,hi⟩:=C5 hz
 obtain⟨e,e1,_⟩:=h.hp i z hi
 exact l8 e1
theorem Qu.chk1{M:List (Int×Int)}{L:Li}{E:List En}(h:Qu M L E):chkH E.length L=some ():=by
 unfold chkH;rw[if_pos (fun z hz=>h.val hz)]
theorem Qu.chk2{M:List (Int×Int)}{L:Li}{E:List En}(h:Qu M L E):chkH E.length (M.map (·.2))=some ():=by
 unfold chkH
 rw[if_pos]
 intro z hz
 obtain⟨p,hp,rfl⟩:=List.mem_map.1 hz
 exact h.val ((h.mem p.1 p.2).1 (mget_of_mem h.keys hp)).1
theorem Qu.item_inj{M:List (Int×Int)}{L:Li}{E:List En}(h:Qu M L E){a b:Int}{e f:En}(ha:a ∈ L)(hb:b ∈ L)(he:ix E a=some e)(hf:ix E b=some f)(hi:e.item=f.item):a=b:=by
 have h1:=(h.mem e.item a).2 ⟨ha,e,he,rfl⟩
 have h2:=(h.mem e.item b).2 ⟨hb,f,hf,hi.symm⟩
 rw[h1] at h2;exact Option.some.inj h2
theorem Hp.nodup{L:Li}{E:List En}(h:Hp L E):L.Nodup:=by
 refine List.pairwise_iff_getElem.2 fun i j hi hj hij e=> ?_
 have h1:ix L (j:Int)=some L[j]:=ix_ltN hj
 have h2:ix L (i:Int)=some L[j]:=by rw[← e];exact ix_ltN hi
 have:=h.inj h1 h2
 omega
theorem Qu.le{M:List (Int×Int)}{L:Li}{E:List En}(h:Qu M L E){vs:Li}(hv:∀x,qkey M E x ≠ none→x ∈ vs):L.length≤vs.length:=by
 have h1:(L.map fun z=>((ix E z).map (·.item)).getD 0).Nodup:=by
  refine List.pairwise_map.2 ?_
  have:=h.hp.nodup
  refine List.Pairwise.imp_of_mem (R:=(· ≠ ·)) (fun {a b} ha hb hab e=>hab ?_) this
  obtain⟨i,_,_,hi⟩:=C5 ha
  obtain⟨j,_,_,hj⟩:=C5 hb
  obtain⟨x,x1,_⟩:=h.hp i a hi
  obtain⟨y,y1,_⟩:=h.hp j b hj
  refine h.item_inj ha hb x1 y1 ?_
  simpa[x1,y1] using e
 have:=M1 h1 (S:=vs) (fun x hx=>by
  obtain⟨a,ha,rfl⟩:=List.mem_map.1 hx
  obtain⟨i,_,_,hi⟩:=C5 ha
  obtain⟨e,e1,_⟩:=h.hp i a hi
  refine hv _ ?_
  have:=(h.mem e.item a).2 ⟨ha,e,e1,rfl⟩
  simp[e1,qkey,this])
 simpa using this
theorem set_ok{M:List (Int×Int)}{L:Li}{E:List En}(h:Qu M L E)(hb:L.length≤999999)(item key t0:Int):
  ∃M' L' E',p8 item key t0 L M E=some (M',L',E')∧Qu M' L' E'∧∀x,qkey M' E' x=if x=item then some key else qkey M E x:=by
 unfold p8
 cases hm:mget M item with
 |some z=>
  simp only[Option.isSome_some,if_true,oB]
  obtain⟨hz,e,e1,e2⟩:=(h.mem item z).1 hm
  obtain⟨z0,z1,_⟩:=o7 e1
  obtain⟨i,i0,i1,hi⟩:=C5 hz
  have hf:e.fat=i:=by
   obtain⟨f,f1,f2⟩:=h.hp i z hi
   rw[e1] at f1;cases f1;exact f2
  simp only[e1,oB,List.set_set]
  have hE:∀j,ix (E.set z.toNat (⟨e.item,key,w64 (t0+1),e.fat⟩:En)) j=if j=z then some ⟨e.item,key,w64 (t0+1),e.fat⟩ else ix E j:=by
   intro j
   by_cases hj:0≤j
   ·rw[ae5 z0 z1 hj]
   ·rw[K2 (by omega),K2 (by omega),if_neg (by omega)]
  have h1:Hp L (E.set z.toNat (⟨e.item,key,w64 (t0+1),e.fat⟩:En)):=by
   intro j y hy
   rw[hE]
   by_cases c:y=z
   ·subst c;exact⟨_,if_pos rfl,hf.trans (h.hp.inj hi hy)⟩
   ·rw[if_neg c];exact h.hp j y hy
  obtain⟨L',E',k1,k2,k3⟩:=fix_ok (t0:=w64 (t0+1)) (M:=M) h1 (i:=e.fat) (by omega) (by omega) (by omega)
  have hq:Qu M L (E.set z.toNat (⟨e.item,key,w64 (t0+1),e.fat⟩:En)):=⟨h1,h.keys,fun x y=>by
   rw[h.mem,hE]
   by_cases c:y=z
   ·subst c
    simp[e1]
   ·rw[if_neg c]⟩
  obtain⟨q1,q2⟩:=hq.sme k2 k3
  refine⟨M,L',E',by rw[k1];rfl,q1,fun x=> ?_⟩
  rw[q2]
  unfold qkey
  by_cases c:x=item
  ·subst c;rw[if_pos rfl,hm];simp[hE]
  ·rw[if_neg c]
   cases hx:mget M x with
   |none=>rfl
   |some y=>
    have:y ≠ z:=fun q=>by
     subst q
     obtain⟨_,f,f1,f2⟩:=(h.mem x y).1 hx
     rw[e1] at f1;cases f1;exact c (f2.symm.trans e2)
    simp[hE,if_neg this]
 |none=>
  simp only[Option.isSome_none,Bool.false_eq_true,if_false,h.chk1,h.chk2,oB]
  have hn:(E.length:Int) ∉ L:=fun q=>by have:=h.val q;simp at this
  have h1:Hp L (E++[(⟨item,key,w64 (t0+1),0⟩:En)]):=fun i z hz=>by
   obtain⟨e,e1,e2⟩:=h.hp i z hz
   exact⟨e,T2 e1,e2⟩
  obtain⟨L',E',k1,k2,k3⟩:=push_ok (t0:=w64 (t0+1)) (M:=mset M item (E.length:Int)) h1 (x:=(E.length:Int)) X3 hn hb
  refine⟨_,L',E',by rw[k1];rfl,⟨k2,mset_nodup h.keys,fun x y=> ?_⟩,fun x=> ?_⟩
  ·rw[y4,k3.mem,k3.item,List.mem_append,List.mem_singleton,T3]
   by_cases c:x=item
   ·subst c
    rw[if_pos rfl]
    by_cases d:y=(E.length:Int)
    ·rw[if_pos d];simp[d]
    ·rw[if_neg d]
     constructor
     ·intro q;exact absurd (Option.some.inj q).symm d
     ·rintro ⟨a|a,b⟩
      ·exact absurd ((h.mem x y).2 ⟨a,b⟩) (by rw[hm];simp)
      ·exact absurd a d
   ·rw[if_neg c,h.mem]
    by_cases d:y=(E.length:Int)
    ·rw[if_pos d];subst d
     constructor
     ·rintro ⟨q,_⟩;exact absurd q hn
     ·rintro ⟨_,e,e1,e2⟩;cases e1;exact absurd e2.symm c
    ·rw[if_neg d];simp[d]
  ·unfold qkey
   rw[y4]
   by_cases c:x=item
   ·rw[if_pos c,if_pos c]
    simp[k3.key,T3]
   ·rw[if_neg c,if_neg c]
    cases hx:mget M x with
    |none=>rfl
    |some y=>
     have:y ≠ (E.length:Int):=fun q=>hn (by rw[← q];exact((h.mem x y).1 hx).1)
     simp[k3.key,T3,if_neg this]
theorem take_ok{M:List (Int×Int)}{L:Li}{E:List En}(h:Qu M L E)(hl:0<L.length)(hb:L.length≤1000000)(t0:Int):
  ∃M' L' E' it k,v8 t0 L M E=some (M',E',L',it,k,true)∧Qu M' L' E'∧qkey M E it=some k∧(∀x,qkey M' E' x=if x=it then none else qkey M E x)∧L'.length+1=L.length:=by
 unfold v8
 rw[if_neg (by omega)]
 obtain⟨L',E',z,k1,k2,k3,k4⟩:=pop_ok (t0:=t0) (M:=M) h.hp hl hb
 have hz:z ∈ L:=(k3.mem z).1 (by simp)
 obtain⟨i,_,_,hi⟩:=C5 hz
 obtain⟨e,e1,e2⟩:=h.hp i z hi
 obtain⟨f,f1,f2,f3⟩:=k3.e z e e1
 have hm:=(h.mem e.item z).2 ⟨hz,e,e1,rfl⟩
 refine⟨mdel M f.item,L',E',f.item,f.key,by simp only[k1,oB,f1],⟨k2,List.Nodup.sublist (mdel_sub.map _) h.keys,fun x y=> ?_⟩,?_,fun x=> ?_,?_⟩
 ·rw[mget_mdel h.keys]
  by_cases c:x=f.item
  ·rw[if_pos c]
   constructor
   ·intro q;cases q
   ·rintro ⟨a,b⟩
    have:=(h.mem x y).2 ⟨(k3.mem y).1 (by simp[a]),(k3.item y x).1 b⟩
    rw[c,f2,hm] at this
    cases this;exact absurd a k4
  ·rw[if_neg c,h.mem,← k3.mem,k3.item,List.mem_append,List.mem_singleton]
   constructor
   ·rintro ⟨a|a,b⟩
    ·exact⟨a,b⟩
    ·subst a
     obtain⟨g,g1,g2⟩:=b
     rw[e1] at g1;cases g1
     exact absurd (g2.symm.trans f2.symm) c
   ·rintro ⟨a,b⟩;exact⟨.inl a,b⟩
 ·unfold qkey;rw[f2,hm];simp[e1,f3]
 ·unfold qkey
  rw[mget_mdel h.keys]
  by_cases c:x=f.item
  ·rw[if_pos c,if_pos c];rfl
  ·rw[if_neg c,if_neg c]
   cases mget M x with
   |none=>rfl
   |some y=>simp[k3.key]
 ·have:=k3.len;simpa using this
end Ab
end
section
namespace Ab
open Go
abbrev MpI:=List (Int×Int)
def z8(g x:Int):Prop:=Go.bits .and .u32 x g=g
def cst(c:MpI)(x:Int):Int:=(mget c x).getD 0
inductive PthW(vs:Li)(ms:List Mk)(g:Int):Int→Int→Prop
 |goal {x:Int} (h:x ∈ vs) (hg:z8 g x):PthW vs ms g x 0
 |step {x k:Int} {m:Mk} (h:x ∈ vs) (hm:m ∈ ms) (hc:canW m x) (hp:PthW vs ms g (tgtW m x) k):PthW vs ms g x (k+m.cost)
structure Gr(vs:Li)(ms:List Mk):Prop where
 cl:∀x ∈ vs,∀m ∈ ms,canW m x→tgtW m x ∈ vs
 co:∀m ∈ ms,0≤m.cost∧m.cost≤100
 ml:ms.length≤40
 vl:vs.length≤2000
structure Cd(vs:Li)(ms:List Mk)(g:Int)(c:MpI):Prop where
 dom:∀x ∈ vs,∃k,mget c x=some k∧0≤k∧k≤1000000000∧(k=1000000000∨PthW vs ms g x k)
 goal:∀x ∈ vs,z8 g x→mget c x=some 0
structure Iv(vs:Li)(ms:List Mk)(g:Int)(c M:MpI)(L:Li)(E:List En)(exc:Int→Prop):Prop where
 cd:Cd vs ms g c
 qu:Qu M L E
 qk:∀x k,qkey M E x=some k→x ∈ vs∧mget c x=some k
 arc:∀x ∈ vs,∀m ∈ ms,canW m x→¬ exc (tgtW m x)→qkey M E (tgtW m x)=none→cst c x≤cst c (tgtW m x)+m.cost
theorem Iv.len{vs:Li}{ms:List Mk}{g:Int}{c M:MpI}{L:Li}{E:List En}{exc:Int→Prop}(h:Iv vs ms g c M L E exc):L.length≤vs.length:=
 h.qu.le fun x hx=>by
  cases e:qkey M E x with
  |none=>exact absurd e hx
  |some k=>exact(h.qk x k e).1
def sm(vs:Li)(c:MpI):Nat:=(vs.map fun x=>(cst c x).toNat).sum
theorem sum_le{α:Type}{f g:α→Nat}:∀{l:List α},(∀x ∈ l,f x≤g x)→(l.map f).sum≤(l.map g).sum
 |[],_=>by simp
 |x::l,h=>by
  have h1:=h x (by simp)
  have h2:=sum_le (l:=l) fun y hy=>h y (List.mem_cons_of_mem _ hy)
  simp only[List.map_cons,List.sum_cons];omega
theorem sum_lt{α:Type}{f g:α→Nat}:∀{l:List α},(∀x ∈ l,f x≤g x)→(∃x ∈ l,f x<g x)→(l.map f).sum<(l.map g).sum
 |[],_,h=>by simp at h
 |x::l,h,⟨y,hy,hlt⟩=>by
  have h1:=h x (by simp)
  have h2:=sum_le (l:=l) fun y hy=>h y (List.mem_cons_of_mem _ hy)
  simp only[List.map_cons,List.sum_cons]
  rcases List.mem_cons.1 hy with rfl|hy
  ·omega
  ·have:=sum_lt (l:=l) (fun y hy=>h y (List.mem_cons_of_mem _ hy)) ⟨y,hy,hlt⟩
   omega
theorem al0{c:MpI}{x v:Int}(z:Int):cst (mset c x v) z=if z=x then v else cst c z:=by
 unfold cst;rw[y4];split<;>rfl
theorem sm_lt{vs:Li}{c:MpI}{x v:Int}(hx:x ∈ vs)(h0:0≤v)(hv:v<cst c x):sm vs (mset c x v)<sm vs c:=by
 refine sum_lt (fun z _=> ?_) ⟨x,hx,?_⟩
 ·rw[al0]
  split
  ·rename_i e;subst e;omega
  ·exact Nat.le_refl _
 ·rw[al0,if_pos rfl];omega
theorem relax_ok{vs:Li}{ms:List Mk}{g:Int}{c M:MpI}{L:Li}{E:List En}{exc:Int→Prop}(hg:Gr vs ms)(h:Iv vs ms g c M L E exc){x v:Int}(hx:x ∈ vs)(h0:0≤v)(hv:v<cst c x)(hp:PthW vs ms g x v)(t0:Int):
  ∃M' L' E',p8 x v t0 L M E=some (M',L',E')∧Iv vs ms g (mset c x v) M' L' E' exc∧∀z,qkey M' E' z=if z=x then some v else qkey M E z:=by
 have hlen:=h.len
 have hvl:=hg.vl
 obtain⟨M',L',E',k1,k2,k3⟩:=set_ok h.qu (by omega) x v t0
 refine⟨M',L',E',k1,⟨⟨fun z hz=> ?_,fun z hz hgz=> ?_⟩,k2,fun z k hk=> ?_,fun z hz m hm hc he hq=> ?_⟩,k3⟩
 ·rw[y4]
  by_cases e:z=x
  ·subst e
   obtain⟨k,q1,q2,q3,_⟩:=h.cd.dom z hz
   have:cst c z=k:=by unfold cst;rw[q1];rfl
   exact⟨v,if_pos rfl,h0,by omega,.inr hp⟩
  ·rw[if_neg e];exact h.cd.dom z hz
 ·rw[y4]
  by_cases e:z=x
  ·subst e
   have:cst c z=0:=by unfold cst;rw[h.cd.goal z hz hgz];rfl
   omega
  ·rw[if_neg e];exact h.cd.goal z hz hgz
 ·rw[k3] at hk
  rw[y4]
  by_cases e:z=x
  ·rw[if_pos e] at hk ⊢;cases hk;exact⟨by rw[e];exact hx,rfl⟩
  ·rw[if_neg e] at hk ⊢;exact h.qk z k hk
 ·rw[k3] at hq
  by_cases e:tgtW m z=x
  ·rw[if_pos e] at hq;cases hq
  ·rw[if_neg e] at hq
   have:=h.arc z hz m hm hc he hq
   rw[al0,al0,if_neg e]
   by_cases f:z=x
   ·rw[if_pos f];subst f;omega
   ·rw[if_neg f];exact this
abbrev Bkm:=List (Int×List u9)
def BkOk(vs:Li)(ms:List Mk)(b:Bkm):Prop:=∀y a,a ∈ rowM b y↔∃x ∈ vs,∃m ∈ ms,canW m x∧tgtW m x=y∧a=⟨x,m.cost⟩
abbrev St5:=MpI×MpI×List En×Int×Li
theorem relax_all{vs:Li}{ms:List Mk}{g:Int}{b:Bkm}{c M:MpI}{L:Li}{E:List En}{y k:Int}(hg:Gr vs ms)(hb:BkOk vs ms b)(h:Iv vs ms g c M L E (· =y))(hy:y ∈ vs)(hk:mget c y=some k)(hq:qkey M E y=none)(t0:Int)(bb:Bool):
  ∃s:St5,forR 0 ((rowM b y).length:Int) (K3 b (M,E,L,y,k,bb)) (c,M,E,t0,L)=some s∧Iv vs ms g s.1 s.2.1 s.2.2.2.2 s.2.2.1 (fun _=>False)∧((sm vs s.1=sm vs c∧s.2.2.2.2=L)∨sm vs s.1<sm vs c):=by
 obtain⟨s,h1,h2,h3,h4,h5,h6⟩:=J8 (body:=K3 b (M,E,L,y,k,bb)) (n:=((rowM b y).length:Int)) (s:=((c,M,E,t0,L):St5))
  (fun j s=>Iv vs ms g s.1 s.2.1 s.2.2.2.2 s.2.2.1 (· =y)∧mget s.1 y=some k∧qkey s.2.1 s.2.2.1 y=none∧(∀i a,i<j→ix (rowM b y) i=some a→cst s.1 a.ffrom≤k+a.cost)∧((sm vs s.1=sm vs c∧s.2.2.2.2=L)∨sm vs s.1<sm vs c)) (by omega)
  ⟨h,hk,hq,fun i a hi ha=>by have:=(o7 ha).1;omega,.inl ⟨rfl,rfl⟩⟩ (fun j s j0 j1 hP=>by
   obtain⟨c',M',E',t',L'⟩:=s
   obtain⟨p1,p2,p3,p4,p5⟩:=hP
   simp only at p1 p2 p3 p4 p5
   obtain⟨a,ha,_⟩:=n5 (l:=rowM b y) j0 j1
   obtain⟨x,hx,m,hm,hc,hty,rfl⟩:=(hb y a).1 (s7 ha)
   have hco:=hg.co m hm
   obtain⟨k',q1,q2,q3,q4⟩:=p1.cd.dom y hy
   rw[p2] at q1;cases q1
   have hw:w64 (k+m.cost)=k+m.cost:=x8 (by omega) (by omega)
   unfold K3
   simp only[ha,oB,hw]
   have hcx:Option.getD (mget c' x) 0=cst c' x:=rfl
   rw[hcx]
   by_cases cc:k+m.cost<cst c' x
   ·rw[if_pos cc]
    have hpy:PthW vs ms g y k:=by
     rcases q4 with q4|q4
     ·obtain⟨k2,r1,r2,r3,_⟩:=p1.cd.dom x hx
      have:cst c' x=k2:=by unfold cst;rw[r1];rfl
      omega
     ·exact q4
    have hxy:x ≠ y:=fun e=>by
     subst e
     have:cst c' x=k:=by unfold cst;rw[p2];rfl
     omega
    obtain⟨M2,L2,E2,k1,k2,k3⟩:=relax_ok hg p1 hx (by omega) cc (.step hx hm hc (by rw[hty];exact hpy)) t'
    rw[k1]
    have hsm:=sm_lt (vs:=vs) (c:=c') hx (by omega) cc
    refine⟨_,rfl,k2,?_,?_,fun i a' hi ha'=> ?_,.inr (by simp only;rcases p5 with p5|p5<;>omega)⟩
    ·simp only[y4];rw[if_neg (Ne.symm hxy)];exact p2
    ·simp only[k3];rw[if_neg (Ne.symm hxy)];exact p3
    ·simp only[al0]
     by_cases e:i=j
     ·subst e;rw[ha] at ha';cases ha';simp
     ·have:=p4 i a' (by omega) ha'
      split
      ·rename_i f;rw[f] at this;omega
      ·exact this
   ·rw[if_neg cc]
    refine⟨_,rfl,p1,p2,p3,fun i a' hi ha'=> ?_,p5⟩
    by_cases e:i=j
    ·subst e;rw[ha] at ha';cases ha';simp only;omega
    ·exact p4 i a' (by omega) ha')
 refine⟨s,h1,⟨h2.cd,h2.qu,h2.qk,fun x hx m hm hc _ hqn=> ?_⟩,h6⟩
 by_cases e:tgtW m x=y
 ·have hmem:=(hb y ⟨x,m.cost⟩).2 ⟨x,hx,m,hm,hc,e,rfl⟩
  obtain⟨i,i0,i1,hi⟩:=C5 hmem
  have:=h5 i _ i1 hi
  change cst s.1 x≤k+m.cost at this
  rw[e]
  have e2:cst s.1 y=k:=by unfold cst;rw[h3];rfl
  omega
 ·exact h2.arc x hx m hm hc e hqn
structure Best(vs:Li)(ms:List Mk)(g:Int)(c:MpI):Prop where
 cd:Cd vs ms g c
 least:∀x k,PthW vs ms g x k→cst c x≤k
theorem main_ok{vs:Li}{ms:List Mk}{g:Int}{b:Bkm}{c M:MpI}{L:Li}{E:List En}(hg:Gr vs ms)(hb:BkOk vs ms b)(h:Iv vs ms g c M L E fun _=>False)(t0:Int):
  ∃r,Loop (K4 b) (c,M,E,t0,L)=some r∧Best vs ms g r:=by
 have hvl:=hg.vl
 refine Q3 (body:=K4 b) (s:=((c,M,E,t0,L):St5)) (fun s:St5=>Iv vs ms g s.1 s.2.1 s.2.2.2.2 s.2.2.1 fun _=>False) (fun r=>Best vs ms g r)
  (fun s=>sm vs s.1 * 2001+s.2.2.2.2.length) h ?_
 rintro ⟨c,M,E,t,L⟩ p
 simp only at p
 have hlen:=p.len
 unfold K4
 simp only[C2,oB]
 by_cases cl:0<L.length
 ·rw[if_pos (by omega)]
  obtain⟨M',L',E',y,k,k1,k2,k3,k4,k5⟩:=take_ok p.qu cl (by omega) t
  obtain⟨hy,hk⟩:=p.qk y k k3
  have h':Iv vs ms g c M' L' E' (· =y):=⟨p.cd,k2,fun x k hx=>by
    rw[k4] at hx
    by_cases e:x=y
    ·rw[if_pos e] at hx;cases hx
    ·rw[if_neg e] at hx;exact p.qk x k hx,fun x hx m hm hc he hq=>by
    rw[k4,if_neg he] at hq
    exact p.arc x hx m hm hc (fun q=>q) hq⟩
  obtain⟨s,s1,s2,s3⟩:=relax_all hg hb h' hy hk (by rw[k4,if_pos rfl]) t true
  have hl2:=s2.len
  simp only[k1,oB,s1]
  refine .inl ⟨s,rfl,s2,?_⟩
  change sm vs s.1 * 2001+s.2.2.2.2.length<sm vs c * 2001+L.length
  rcases s3 with⟨s3,s4⟩|s3
  ·rw[s3,s4];omega
  ·omega
 ·rw[if_neg (by omega)]
  refine .inr ⟨c,rfl,p.cd,?_⟩
  have hL:L=[]:=List.eq_nil_of_length_eq_zero (by omega)
  have hq:∀x,qkey M E x=none:=fun x=>by
   unfold qkey
   cases e:mget M x with
   |none=>rfl
   |some z=>have:=((p.qu.mem x z).1 e).1;rw[hL] at this;cases this
  intro x k hp
  induction hp with
  |goal hx hgx=>unfold cst;rw[p.cd.goal _ hx hgx];simp
  |step hx hm hc hp ih=>
   have:=p.arc _ hx _ hm hc (fun q=>q) (hq _)
   omega
theorem rowM_mset{b:Bkm}{k:Int}{v:List u9}(y:Int):rowM (mset b k v) y=if y=k then v else rowM b y:=by
 unfold rowM;rw[y4];split<;>rfl
theorem back_ok{ms:List Mk}{b:Bkm}{x:Int}(hml:ms.length≤40){B:Nat}(hB:∀y,(rowM b y).length≤B)(hB':B≤1000000):
  ∃b',Q5 ms b x=some b'∧(∀y,(rowM b' y).length≤B+40)∧∀y a,a ∈ rowM b' y↔a ∈ rowM b y∨∃m ∈ ms,canW m x∧tgtW m x=y∧a=⟨x,m.cost⟩:=by
 unfold Q5
 obtain⟨b',h1,h2,h3⟩:=J8 (body:=Q4 ms x) (n:=(ms.length:Int)) (s:=b)
  (fun j c=>(∀y,((rowM c y).length:Int)≤B+j)∧∀y a,a ∈ rowM c y↔a ∈ rowM b y∨∃i m,i<j∧ix ms i=some m∧canW m x∧tgtW m x=y∧a=⟨x,m.cost⟩) (by omega)
  ⟨fun y=>by have:=hB y;omega,fun y a=>⟨.inl,fun q=>by
   rcases q with q|⟨i,m,hi,hm,_⟩
   ·exact q
   ·have:=(o7 hm).1;omega⟩⟩ (fun j c j0 j1 hP=>by
   obtain⟨p1,p2⟩:=hP
   obtain⟨m,hm,_⟩:=n5 j0 j1
   unfold Q4
   simp only[hm,oB]
   by_cases c1:Go.bits .and .u32 x m.pre=m.pre
   ·rw[if_pos c1]
    have ee:Go.bits .or .u32 (Go.bits .andNot .u32 x m.del) m.add=tgtW m x:=rfl
    rw[ee]
    have hl:=p1 (tgtW m x)
    have ha:app 16 (rowM c (tgtW m x)) [(⟨x,m.cost⟩:u9)]=some (rowM c (tgtW m x)++[⟨x,m.cost⟩]):=by unfold app;rw[if_pos (by simp;omega)]
    simp only[ha,oB]
    refine⟨_,rfl,fun y=> ?_,fun y a=> ?_⟩
    ·rw[rowM_mset]
     split
     ·simp;omega
     ·have:=p1 y;omega
    ·rw[rowM_mset]
     have key:(∃i m',i<j+1∧ix ms i=some m'∧canW m' x∧tgtW m' x=y∧a=⟨x,m'.cost⟩)↔(∃i m',i<j∧ix ms i=some m'∧canW m' x∧tgtW m' x=y∧a=⟨x,m'.cost⟩)∨(tgtW m x=y∧a=⟨x,m.cost⟩):=by
      constructor
      ·rintro ⟨i,m',q1,q2,q3,q4,q5⟩
       by_cases e:i=j
       ·subst e;rw[hm] at q2;cases q2;exact .inr ⟨q4,q5⟩
       ·exact .inl ⟨i,m',by omega,q2,q3,q4,q5⟩
      ·rintro (⟨i,m',q1,q2⟩|⟨q1,q2⟩)
       ·exact⟨i,m',by omega,q2⟩
       ·exact⟨j,m,by omega,hm,c1,q1,q2⟩
     rw[key]
     by_cases e:y=tgtW m x
     ·rw[if_pos e,List.mem_append,List.mem_singleton,← e,p2]
      simp[or_assoc]
     ·rw[if_neg e,p2]
      have:¬ tgtW m x=y:=fun q=>e q.symm
      simp[this]
   ·rw[if_neg c1]
    refine⟨_,rfl,fun y=>by have:=p1 y;omega,fun y a=> ?_⟩
    rw[p2]
    refine or_congr_right ⟨?_,?_⟩
    ·rintro ⟨i,m',q1,q2⟩;exact⟨i,m',by omega,q2⟩
    ·rintro ⟨i,m',q1,q2,q3,q4⟩
     by_cases e:i=j
     ·subst e;rw[hm] at q2;cases q2;exact absurd q3 c1
     ·exact⟨i,m',by omega,q2,q3,q4⟩)
 refine⟨b',by rw[h1];rfl,fun y=>by have:=h2 y;omega,fun y a=> ?_⟩
 rw[h3]
 refine or_congr_right ⟨?_,?_⟩
 ·rintro ⟨i,m,_,q2,q3⟩;exact⟨m,s7 q2,q3⟩
 ·rintro ⟨m,q2,q3⟩
  obtain⟨i,_,i1,hi⟩:=C5 q2
  exact⟨i,m,i1,hi,q3⟩
abbrev St6:=Bkm×MpI×MpI×List En×Int×Li
theorem first_ok{vs:Li}{ms:List Mk}(start g:Int)(hg:Gr vs ms):
  ∃s:St6,forR 0 (vs.length:Int) (K5 vs start g ms) ([],[],[],[],0,[])=some s∧BkOk vs ms s.1∧Iv vs ms g s.2.1 s.2.2.1 s.2.2.2.2.2 s.2.2.2.1 fun _=>False:=by
 have hvl:=hg.vl
 have hml:=hg.ml
 obtain⟨s,h1,h2,h3,h4,h5,h6⟩:=J8 (body:=K5 vs start g ms) (n:=(vs.length:Int)) (s:=(([],[],[],[],0,[]):St6))
  (fun j s=>(∀y a,a ∈ rowM s.1 y↔∃x ∈ vs.take j.toNat,∃m ∈ ms,canW m x∧tgtW m x=y∧a=⟨x,m.cost⟩)∧(∀y,(rowM s.1 y).length≤j.toNat * 40)∧
   (∀x,x ∈ vs.take j.toNat→mget s.2.1 x=some (if dec (z8 g x)=true then 0 else 1000000000))∧Qu s.2.2.1 s.2.2.2.2.2 s.2.2.2.1∧∀x,qkey s.2.2.1 s.2.2.2.1 x=if dec (x ∈ vs.take j.toNat∧z8 g x)=true then some 0 else none) (by omega)
  ⟨fun y a=>by simp[rowM,mget],fun y=>by simp[rowM,mget],by simp,Qu.nil,fun x=>by simp[qkey,mget,dec]⟩ (fun j s j0 j1 hP=>by
   obtain⟨b,c,M,E,t,L⟩:=s
   obtain⟨p1,p2,p3,p4,p5⟩:=hP
   simp only at p1 p2 p3 p4 p5
   obtain⟨x,hx,gx⟩:=n5 j0 j1
   have hj:(j+1).toNat=j.toNat+1:=by omega
   have htk:vs.take (j+1).toNat=vs.take j.toNat++[x]:=by rw[hj,List.take_add_one,gx];rfl
   have hlen:L.length≤vs.length:=p4.le fun z hz=>by
    rw[p5] at hz
    by_cases e:z ∈ vs.take j.toNat∧z8 g z
    ·exact List.mem_of_mem_take e.1
    ·rw[if_neg (by rw[B6 e];simp)] at hz;exact absurd rfl hz
   obtain⟨b',b1,b2,b3⟩:=back_ok (x:=x) hml (B:=j.toNat * 40) p2 (by omega)
   have hback:∀y a,a ∈ rowM b' y↔∃x ∈ vs.take (j+1).toNat,∃m ∈ ms,canW m x∧tgtW m x=y∧a=⟨x,m.cost⟩:=fun y a=>by
    rw[b3,p1,htk]
    simp only[List.mem_append,List.mem_singleton,or_and_right,exists_or,exists_eq_left]
   have hrow:∀y,(rowM b' y).length≤(j+1).toNat * 40:=fun y=>by have:=b2 y;omega
   unfold K5
   simp only[hx,oB,D7,w3]
   by_cases cg:Go.bits .and .u32 x g=g
   ·rw[if_pos cg]
    have cg':z8 g x:=cg
    obtain⟨M',L',E',k1,k2,k3⟩:=set_ok p4 (by omega) x 0 t
    simp only[k1,oB,b1]
    refine⟨_,rfl,hback,hrow,fun z hz=> ?_,k2,fun z=> ?_⟩
    ·simp only[y4]
     by_cases e:z=x
     ·subst e;rw[if_pos rfl,if_pos (m4 cg')]
     ·rw[if_neg e,if_neg e]
      refine p3 z ?_
      rw[htk] at hz;simp[e] at hz;exact hz
    ·simp only[k3,p5,htk]
     by_cases e:z=x
     ·subst e;rw[if_pos rfl,if_pos (m4 ⟨by simp,cg'⟩)]
     ·rw[if_neg e]
      have:(z ∈ vs.take j.toNat++[x]∧z8 g z)↔(z ∈ vs.take j.toNat∧z8 g z):=by simp[e]
      rw[L9 this]
   ·rw[if_neg cg]
    have cg':¬ z8 g x:=cg
    simp only[oB,b1]
    refine⟨_,rfl,hback,hrow,fun z hz=> ?_,p4,fun z=> ?_⟩
    ·simp only[y4]
     by_cases e:z=x
     ·subst e;rw[if_pos rfl,if_neg (by rw[B6 cg'];simp)]
     ·rw[if_neg e]
      refine p3 z ?_
      rw[htk] at hz;simp[e] at hz;exact hz
    ·simp only[p5,htk]
     have:(z ∈ vs.take j.toNat++[x]∧z8 g z)↔(z ∈ vs.take j.toNat∧z8 g z):=by
      constructor
      ·rintro ⟨q1,q2⟩
       rcases List.mem_append.1 q1 with q1|q1
       ·exact⟨q1,q2⟩
       ·simp at q1;subst q1;exact absurd q2 cg'
      ·rintro ⟨q1,q2⟩;exact⟨List.mem_append_left _ q1,q2⟩
     rw[L9 this])
 have ht:vs.take (vs.length:Int).toNat=vs:=by rw[Int.toNat_natCast,List.take_length]
 rw[ht] at h2 h4 h6
 have hc:∀x ∈ vs,¬ z8 g x→mget s.2.1 x=some 1000000000:=fun x hx hn=>by rw[h4 x hx,if_neg (by rw[B6 hn];simp)]
 have hc0:∀x ∈ vs,z8 g x→mget s.2.1 x=some 0:=fun x hx hn=>by rw[h4 x hx,if_pos (m4 hn)]
 refine⟨s,h1,h2,⟨fun x hx=> ?_,hc0⟩,h5,fun x k hk=> ?_,fun x hx m hm hcan _ hq=> ?_⟩
 ·by_cases e:z8 g x
  ·exact⟨0,hc0 x hx e,by omega,by omega,.inr (.goal hx e)⟩
  ·exact⟨1000000000,hc x hx e,by omega,by omega,.inl rfl⟩
 ·rw[h6] at hk
  by_cases e:x ∈ vs∧z8 g x
  ·rw[if_pos (m4 e)] at hk;cases hk;exact⟨e.1,hc0 x e.1 e.2⟩
  ·rw[if_neg (by rw[B6 e];simp)] at hk;cases hk
 ·have hy:=hg.cl x hx m hm hcan
  rw[h6] at hq
  have hn:¬ z8 g (tgtW m x):=fun q=>by rw[if_pos (m4 ⟨hy,q⟩)] at hq;cases hq
  have h0:=(hg.co m hm).1
  unfold cst
  rw[hc _ hy hn,h4 x hx]
  simp only[Option.getD_some]
  split<;>omega
theorem costs_ok{vs:Li}{ms:List Mk}(start g:Int)(hg:Gr vs ms):∃c,R5 vs start g ms=some c∧Best vs ms g c:=by
 unfold R5
 obtain⟨s,s1,s2,s3⟩:=first_ok start g hg
 obtain⟨r,r1,r2⟩:=main_ok hg s2 s3 s.2.2.2.2.1
 refine⟨r,?_,r2⟩
 obtain⟨a,b,c,d,e,f⟩:=s
 simp only[J5,oB,s1]
 rw[r1];rfl
end Ab
end
section
namespace Ab
open Go
def Val(t:d4)(plan:Li):Prop:=∀x ∈ plan,(0:Int)≤x∧x<t.operators.length
def S1(t:d4):Li→Int
 |[]=>0
 |op::r=>S1 t r+(opAt t op).cost
def Few(t:d4):Prop:=∃l:LL,l.Nodup∧l.length≤2000∧∀s,s ∈ l↔Rt t s
theorem ar4{t:d4}(ht:i9 t):∀{plan:Li},Val t plan→0≤S1 t plan
 |[],_=>by simp[S1]
 |op::r,h=>by
  have h1:=ar4 ht (plan:=r) fun x hx=>h x (List.mem_cons_of_mem _ hx)
  have h2:=h op (by simp)
  have h3:=(op_ok ht h2.1 h2.2).2.1
  simp only[S1];omega
section
variable {t:d4}{vs:Li}
theorem pth_of(ht:i9 t)(hv:∀x,x ∈ vs↔Rwd t x):∀{plan s:Li},Rt t s→Val t plan→H6 t s plan→PthW vs (mks t) (wd t.goal) (wd s) (S1 t plan)
 |[],s,hs,_,⟨e,h1,h2⟩=>by
  simp only[ends,Option.some.injEq] at h1;subst h1
  exact .goal ((hv _).2 ⟨s,hs,rfl⟩) ((ak1 (hs.setN ht) ht.goal ht.n1).2 h2)
 |op::r,s,hs,hp,⟨e,h1,h2⟩=>by
  have h3:=hp op (by simp)
  simp only[ends] at h1
  split at h1
  ·rename_i hc
   have hc:=k7.1 hc
   have ih:=pth_of ht hv (plan:=r) (hs.step h3.1 h3.2 hc) (fun x hx=>hp x (List.mem_cons_of_mem _ hx)) ⟨e,h1,h2⟩
   rw[← aj9 ht (hs.setN ht) h3.1 h3.2] at ih
   exact .step ((hv _).2 ⟨s,hs,rfl⟩) (mks_of h3.1 h3.2) ((af1 ht (hs.setN ht) h3.1 h3.2).2 hc) ih
  ·cases h1
theorem plan_of(ht:i9 t){x k:Int}(h:PthW vs (mks t) (wd t.goal) x k):∀{s:Li},Rt t s→x=wd s→∃plan,Val t plan∧H6 t s plan∧S1 t plan=k:=by
 induction h with
 |goal hx hg=>
  intro s hs e;subst e
  exact⟨[],by simp[Val],⟨s,rfl,(ak1 (hs.setN ht) ht.goal ht.n1).1 hg⟩,rfl⟩
 |step hx hm hc hp ih=>
  intro s hs e;subst e
  obtain⟨op,h0,h1,rfl⟩:=mks_mem hm
  have hcan:=(af1 ht (hs.setN ht) h0 h1).1 hc
  obtain⟨plan,p1,⟨e,p2,p3⟩,p4⟩:=ih (hs.step h0 h1 hcan) (aj9 ht (hs.setN ht) h0 h1)
  refine⟨op::plan,fun y hy=> ?_,⟨e,?_,p3⟩,by simp[S1,p4,mkOf]⟩
  ·rcases List.mem_cons.1 hy with rfl|hy
   ·exact⟨h0,h1⟩
   ·exact p1 y hy
  ·simp only[ends];rw[if_pos (m4 hcan)];exact p2
end
/-! ### A way that is not long -/
inductive Hop(vs:Li)(ms:List Mk)(g:Int):Nat→Int→Prop
 |goal {x:Int} (h:x ∈ vs) (hg:z8 g x):Hop vs ms g 0 x
 |step {x:Int} {n:Nat} {m:Mk} (h:x ∈ vs) (hm:m ∈ ms) (hc:canW m x) (hp:Hop vs ms g n (tgtW m x)):Hop vs ms g (n+1) x
section
variable {vs:Li}{ms:List Mk}{g:Int}
theorem Hop.of{x k:Int}(h:PthW vs ms g x k):∃n,Hop vs ms g n x:=by
 induction h with
 |goal hx hg=>exact⟨0,.goal hx hg⟩
 |step hx hm hc _ ih=>obtain⟨n,hn⟩:=ih;exact⟨n+1,.step hx hm hc hn⟩
theorem Hop.mem{n:Nat}{x:Int}(h:Hop vs ms g n x):x ∈ vs:=by cases h<;>assumption
theorem Hop.cost(hg:Gr vs ms){n:Nat}{x:Int}(h:Hop vs ms g n x):∃k,PthW vs ms g x k∧k≤100 * n:=by
 induction h with
 |goal hx hgx=>exact⟨0,.goal hx hgx,by omega⟩
 |step hx hm hc _ ih=>
  obtain⟨k,k1,k2⟩:=ih
  have:=hg.co _ hm
  exact⟨_,.step hx hm hc k1,by push_cast;omega⟩
def MHop(vs:Li)(ms:List Mk)(g:Int)(n:Nat)(x:Int):Prop:=Hop vs ms g n x∧∀m,m<n→¬ Hop vs ms g m x
theorem MHop.of:∀{n:Nat} {x:Int},Hop vs ms g n x→∃m,m≤n∧MHop vs ms g m x:=by
 intro n
 induction n using Nat.strongRecOn with
 |_ n ih=>
  intro x h
  by_cases c:∃m,m<n∧Hop vs ms g m x
  ·obtain⟨m,m1,m2⟩:=c
   obtain⟨q,q1,q2⟩:=ih m m1 m2
   exact⟨q,by omega,q2⟩
  ·exact⟨n,Nat.le_refl _,h,fun m hm hh=>c ⟨m,hm,hh⟩⟩
theorem MHop.chain:∀{n:Nat} {x:Int},MHop vs ms g n x→∃l:Li,l.length=n+1∧l.Nodup∧∀y ∈ l,y ∈ vs∧∃m,m≤n∧MHop vs ms g m y
 |0,x,h=>⟨[x],rfl,by simp,fun y hy=>by simp at hy;subst hy;exact⟨h.1.mem,0,Nat.le_refl _,h⟩⟩
 |n+1,x,h=>by
  cases h.1 with
  |@step _ _ m hx hm hc hp=>
   have h':MHop vs ms g n (tgtW m x):=⟨hp,fun q hq hh=>h.2 (q+1) (by omega) (.step hx hm hc hh)⟩
   obtain⟨l,l1,l2,l3⟩:=MHop.chain h'
   refine⟨x::l,by simp[l1],List.nodup_cons.2 ⟨fun hxl=> ?_,l2⟩,fun y hy=> ?_⟩
   ·obtain⟨_,q,q1,q2⟩:=l3 x hxl
    exact h.2 q (by omega) q2.1
   ·rcases List.mem_cons.1 hy with rfl|hy
    ·exact⟨hx,n+1,Nat.le_refl _,h⟩
    ·obtain⟨y1,q,q1,q2⟩:=l3 y hy
     exact⟨y1,q,by omega,q2⟩
theorem pth_small(hg:Gr vs ms){x k:Int}(h:PthW vs ms g x k):∃k',PthW vs ms g x k'∧k'≤199900:=by
 obtain⟨n,hn⟩:=Hop.of h
 obtain⟨m,_,hm⟩:=MHop.of hn
 obtain⟨l,l1,l2,l3⟩:=hm.chain
 have:=M1 l2 (S:=vs) fun y hy=>(l3 y hy).1
 have hv:=hg.vl
 obtain⟨k',k1,k2⟩:=hm.1.cost hg
 exact⟨k',k1,by omega⟩
end
theorem words_of{t:d4}(ht:i9 t){vs:Li}(hl:vs.length≤2000)(hv:∀x,x ∈ vs↔Rwd t x):Gr vs (mks t):=⟨fun x hx m hm hc=>(hv _).2 (((hv x).1 hx).next ht hm hc),fun m hm=>by
 obtain⟨op,h0,h1,rfl⟩:=mks_mem hm
 exact(op_ok ht h0 h1).2,by simp[mks];exact ht.ops,hl⟩
theorem few_of{t:d4}(ht:i9 t){vs:Li}(hn:vs.Nodup)(hl:vs.length≤2000)(hv:∀x,x ∈ vs↔Rwd t x):Few t:=by
 obtain⟨ss,h1,h2⟩:=states_of (t:=t) (l:=vs) fun x hx=>(hv x).1 hx
 refine⟨ss,al7 (f:=wd) (by rw[h1];exact hn),?_,fun s=>⟨h2 s,fun hs=> ?_⟩⟩
 ·have:=congrArg List.length h1
  simp only[List.length_map] at this;omega
 ·have:wd s ∈ ss.map wd:=by rw[h1];exact(hv _).2 ⟨s,hs,rfl⟩
  obtain⟨s',s1,s2⟩:=List.mem_map.1 this
  rw[wd_inj ht (hs.setN ht) ((h2 s' s1).setN ht) s2.symm];exact s1
theorem as3(t:d4):(¬ i9 t∧∃f,u6 t=some f∧f.code ≠ 0∧B9 t=some (.inl (f.code,f.index)))∨(i9 t∧Many t∧B9 t=some (.inl (10, -7)))∨
  (i9 t∧Few t∧∃vs:Li,vs.Nodup∧vs.length≤2000∧(∀x,x ∈ vs↔Rwd t x)∧B9 t=some (.inr (wd t.init,wd t.goal,mks t,vs))):=by
 obtain⟨f,h1,_,h3⟩:=af8 t
 unfold B9
 rw[h1]
 simp only[oB]
 rcases h3 with⟨rfl,ht⟩|⟨hc,hn⟩
 ·rw[if_neg (by simp),of_eq ht]
  obtain⟨l,b,a1,a2,a3⟩:=all_spec ht (wd t.goal)
  simp only[oB,a1]
  cases b with
  |false=>exact .inr (.inl ⟨ht,a2 rfl,rfl⟩)
  |true=>
   obtain⟨q1,q2,q3⟩:=a3 rfl
   obtain⟨vs,v1,v2⟩:=sortW (l:=l) (by omega) (fun x hx=>by
    obtain⟨s,s1,rfl⟩:=(q3 x).1 hx
    exact wd_u32 ht (s1.setN ht))
   have hv:∀x,x ∈ vs↔Rwd t x:=fun x=>v2.mem_iff.trans (q3 x)
   have hvn:vs.Nodup:=v2.nodup_iff.2 q1
   have hvl:vs.length≤2000:=by rw[v2.length_eq];exact q2
   exact .inr (.inr ⟨ht,few_of ht hvn hvl hv,vs,hvn,hvl,hv,by simp[v1]⟩)
 ·rw[if_pos (by simp[hc])]
  exact .inl ⟨hn,f,rfl,hc,rfl⟩
inductive OptR(t:d4):Int×i5→Prop
 |bad {f:i5} (h:¬ i9 t) (hf:u6 t=some f) (hc:f.code ≠ 0):OptR t (0,f)
 |many (h:i9 t) (hm:Many t):OptR t (0,⟨10, -7⟩)
 |none (h:i9 t) (hf:Few t) (hn:∀plan,Val t plan→¬ H6 t t.init plan):OptR t (1000000000,⟨0,0⟩)
 |some {k:Int} {plan:Li} (h:i9 t) (hf:Few t) (h0:0≤k) (h1:k≤199900) (hv:Val t plan) (hw:H6 t t.init plan) (hk:S1 t plan=k) (hl:∀p,Val t p→H6 t t.init p→k≤S1 t p):OptR t (k,⟨0,0⟩)
theorem optimal_spec(t:d4):∃r,S8 t=some r∧OptR t r:=by
 unfold S8
 rcases as3 t with⟨h,f,h1,h2,h3⟩|⟨h,h1,h2⟩|⟨ht,h1,vs,v1,v2,v3,h2⟩
 ·rw[h3]
  simp only[oB]
  rw[if_pos (by simp[h2])]
  exact⟨_,rfl,.bad h h1 h2⟩
 ·rw[h2]
  simp only[oB]
  rw[if_pos (by simp)]
  exact⟨_,rfl,.many h h1⟩
 ·rw[h2]
  simp only[oB]
  rw[if_neg (by simp)]
  have hg:=words_of ht v2 v3
  obtain⟨c,c1,c2⟩:=costs_ok (wd t.init) (wd t.goal) hg
  simp only[c1,oB,s8]
  have hi:wd t.init ∈ vs:=(v3 _).2 ⟨_,.init,rfl⟩
  obtain⟨k,k1,k2,k3,k4⟩:=c2.cd.dom _ hi
  have hck:cst c (wd t.init)=k:=by unfold cst;rw[k1];rfl
  refine⟨_,rfl,?_⟩
  rw[k1]
  simp only[Option.getD_some]
  by_cases e:∃k',PthW vs (mks t) (wd t.goal) (wd t.init) k'
  ·obtain⟨k0,e⟩:=e
   obtain⟨k',e1,e2⟩:=pth_small hg e
   have hle:=c2.least _ _ e1
   rcases k4 with k4|k4
   ·omega
   ·obtain⟨plan,p1,p2,p3⟩:=plan_of ht k4 .init rfl
    refine .some ht h1 k2 (by omega) p1 p2 p3 fun p q1 q2=> ?_
    have:=c2.least _ _ (pth_of ht v3 .init q1 q2)
    omega
  ·rcases k4 with rfl|k4
   ·exact .none ht h1 fun p q1 q2=>e ⟨_,pth_of ht v3 .init q1 q2⟩
   ·exact absurd ⟨_,k4⟩ e
end Ab
end
section
namespace Ab
open Go
abbrev Bk:=d5
abbrev MpB:=List (Int×Bk)
inductive FwW(ms:List Mk)(s:Int):Li→Int→Prop
 |nil:FwW ms s [] s
 |snoc {l:Li} {x op:Int} {m:Mk} (h:FwW ms s l x) (hm:ix ms op=some m) (hc:canW m x):FwW ms s (l++[op]) (tgtW m x)
structure Lvl(vs:Li)(ms:List Mk)(s:Int)(p:MpB)(d:Int→Nat):Prop where
 start:d s=0
 key:s ∈ p.map (·.1)
 nd:(p.map (·.1)).Nodup
 dom:∀x ∈ p.map (·.1),x ∈ vs
 back:∀x b,mget p x=some b→x=s∨(b.fFrom ∈ p.map (·.1)∧d x=d b.fFrom+1∧∃m,ix ms b.op=some m∧canW m b.fFrom∧tgtW m b.fFrom=x)
section
variable {vs:Li}{ms:List Mk}{g s:Int}{p:MpB}{d:Int→Nat}
theorem mget_key{x:Int}(h:x ∈ p.map (·.1)):∃b,mget p x=some b:=by
 cases e:mget p x with
 |none=>exact absurd h (ac5 e)
 |some b=>exact⟨b,rfl⟩
theorem path_end{c:Li}:v7 s p (c,s)=some (.inr c):=by
 unfold v7
 dsimp only
 rw[if_pos rfl]
theorem path_step{x:Int}{b:Bk}{c:Li}(e:x ≠ s)(hb:mget p x=some b)(hc:c.length≤1000000):v7 s p (c,x)=some (.inl (c++[b.op],b.fFrom)):=by
 unfold v7
 dsimp only
 rw[if_neg e,hb]
 simp only[Option.getD_some]
 rw[app,if_pos (by simp;omega)]
 rfl
theorem path_back(h:Lvl vs ms s p d):∀(k:Nat) {x:Int},x ∈ p.map (·.1)→d x=k→∀c:Li,c.length+k≤1000000→∃l,Loop (v7 s p) (c,x)=some (c++l)∧l.length=k∧FwW ms s l.reverse x
 |k,x,hx,hd,c,hc=>by
  by_cases e:x=s
  ·subst e
   rw[ak0,path_end]
   have:=h.start
   exact⟨[],by simp,by simp;omega,.nil⟩
  ·obtain⟨b,hb⟩:=mget_key hx
   rcases h.back x b hb with e'|⟨b1,b2,m,b3,b4,b5⟩
   ·exact absurd e' e
   ·cases k with
    |zero=>omega
    |succ k=>
     obtain⟨l,l1,l2,l3⟩:=path_back h k b1 (by omega) (c++[b.op]) (by simp;omega)
     refine⟨b.op::l,?_,by simp[l2],?_⟩
     ·rw[ak0,path_step e hb (by omega)]
      dsimp only
      rw[l1]
      simp
     ·rw[List.reverse_cons,← b5]
      exact .snoc l3 b3 b4
end
theorem height_all{vs:Li}{ms:List Mk}{s:Int}{p:MpB}{d:Int→Nat}(h:Lvl vs ms s p d):∀(k:Nat) {y:Int},y ∈ p.map (·.1)→d y=k→∃l:Li,l.length=k+1∧l.Nodup∧∀z ∈ l,z ∈ p.map (·.1)∧d z≤k
 |0,y,hy,e=>⟨[y],rfl,by simp,fun z hz=>by simp at hz;subst hz;exact⟨hy,by omega⟩⟩
 |k+1,y,hy,e=>by
  obtain⟨b,hb⟩:=mget_key hy
  rcases h.back y b hb with r|⟨r1,r2,_⟩
  ·subst r;have:=h.start;omega
  ·obtain⟨l,l1,l2,l3⟩:=height_all h k r1 (by omega)
   refine⟨y::l,by simp[l1],List.nodup_cons.2 ⟨fun q=>by have:=(l3 y q).2;omega,l2⟩,fun z hz=> ?_⟩
   rcases List.mem_cons.1 hz with rfl|hz
   ·exact⟨hy,by omega⟩
   ·have:=l3 z hz;exact⟨this.1,by omega⟩
theorem height_lt{vs:Li}{ms:List Mk}{s:Int}{p:MpB}{d:Int→Nat}(h:Lvl vs ms s p d)(k:Nat){y:Int}(hy:y ∈ p.map (·.1))(e:d y=k):k<p.length:=by
 obtain⟨l,l1,l2,l3⟩:=height_all h k hy e
 have:=M1 l2 (S:=p.map (·.1)) fun z hz=>(l3 z hz).1
 simp at this;omega
/-! ### What the search keeps -/
section
variable {vs:Li}{ms:List Mk}{g s:Int}
structure InI(vs:Li)(ms:List Mk)(g s x:Int)(p:MpB)(L:Li)(d:Int→Nat):Prop where
 lvl:Lvl vs ms s p d
 sub:∀y ∈ L,y ∈ p.map (·.1)
 nd:L.Nodup
 xk:x ∈ p.map (·.1)
 xl:x ∉ L
 srt:L.Pairwise (d · ≤d ·)
 hi:∀y ∈ p.map (·.1),d y≤d x+1
 lo:∀y ∈ p.map (·.1),y ∉ L→d y≤d x
 up:∀y ∈ L,d x≤d y
 dn:∀y ∈ p.map (·.1),y ∉ L→¬ z8 g y∧(y ≠ x→∀m ∈ ms,canW m y→tgtW m y ∈ p.map (·.1)∧d (tgtW m y)≤d y+1)
structure BfI(vs:Li)(ms:List Mk)(g s:Int)(p:MpB)(L:Li)(d:Int→Nat):Prop where
 lvl:Lvl vs ms s p d
 sub:∀y ∈ L,y ∈ p.map (·.1)
 nd:L.Nodup
 srt:L.Pairwise (d · ≤d ·)
 hi:∀x ∈ L,∀y ∈ p.map (·.1),d y≤d x+1
 lo:∀y ∈ p.map (·.1),y ∉ L→∀x ∈ L,d y≤d x
 dn:∀y ∈ p.map (·.1),y ∉ L→¬ z8 g y∧∀m ∈ ms,canW m y→tgtW m y ∈ p.map (·.1)∧d (tgtW m y)≤d y+1
theorem InI.of{x:Int}{L:Li}{p:MpB}{d:Int→Nat}(h:BfI vs ms g s p (x::L) d)(hg:¬ z8 g x):InI vs ms g s x p L d:=by
 have hn:=List.nodup_cons.1 h.nd
 have hs:=List.pairwise_cons.1 h.srt
 have key:∀y,y ∉ L→y ≠ x→y ∉ x::L:=fun y h1 h2 q=>by
  rcases List.mem_cons.1 q with q|q
  ·exact h2 q
  ·exact h1 q
 refine⟨h.lvl,fun y hy=>h.sub y (List.mem_cons_of_mem _ hy),hn.2,h.sub x (by simp),hn.1,hs.2,h.hi x (by simp),fun y hy hl=> ?_,hs.1,fun y hy hl=> ?_⟩
 ·by_cases e:y=x
  ·rw[e];exact Nat.le_refl _
  ·exact h.lo y hy (key y hl e) x (by simp)
 ·by_cases e:y=x
  ·exact⟨e ▸ hg,fun q=>absurd e q⟩
  ·have:=h.dn y hy (key y hl e)
   exact⟨this.1,fun _=>this.2⟩
theorem InI.out{x:Int}{L:Li}{p:MpB}{d:Int→Nat}(h:InI vs ms g s x p L d)(hx:∀m ∈ ms,canW m x→tgtW m x ∈ p.map (·.1)):BfI vs ms g s p L d:=by
 refine⟨h.lvl,h.sub,h.nd,h.srt,fun z hz y hy=> ?_,fun y hy hl z hz=> ?_,fun y hy hl=> ?_⟩
 ·have:=h.hi y hy;have:=h.up z hz;omega
 ·have:=h.lo y hy hl;have:=h.up z hz;omega
 ·refine⟨(h.dn y hy hl).1,fun m hm hc=> ?_⟩
  by_cases e:y=x
  ·subst e;exact⟨hx m hm hc,h.hi _ (hx m hm hc)⟩
  ·exact(h.dn y hy hl).2 e m hm hc
theorem InI.step{x z op:Int}{L:Li}{p:MpB}{d:Int→Nat}{m:Mk}(h:InI vs ms g s x p L d)(hz:mget p z=none)(hm:ix ms op=some m)(hc:canW m x)(e:tgtW m x=z)(hv:z ∈ vs):InI vs ms g s x (mset p z ⟨x,op⟩) (L++[z]) (fun y=>if y=z then d x+1 else d y):=by
 have hzk:=ac5 hz
 have hk:(mset p z (⟨x,op⟩:Bk)).map (·.1)=p.map (·.1)++[z]:=by rw[H3 hz];simp
 have old:∀y ∈ p.map (·.1),y ≠ z:=fun y hy q=>hzk (q ▸ hy)
 have oldL:∀y ∈ L,y ≠ z:=fun y hy=>old y (h.sub y hy)
 have hxz:=old x h.xk
 have mem:∀y,y ∈ p.map (·.1)++[z]→y ≠ z→y ∈ p.map (·.1):=fun y hy q=>by
  rcases List.mem_append.1 hy with hy|hy
  ·exact hy
  ·exact absurd (List.mem_singleton.1 hy) q
 refine⟨⟨?_,?_,?_,?_,?_⟩,?_,?_,?_,?_,?_,?_,?_,?_,?_⟩
 ·try dsimp only
  rw[if_neg (old s h.lvl.key)];exact h.lvl.start
 ·rw[hk];exact List.mem_append_left _ h.lvl.key
 ·rw[hk];exact List.nodup_append.2 ⟨h.lvl.nd,by simp,fun y hy w hw=>by simp at hw;subst hw;exact old y hy⟩
 ·rw[hk];intro y hy
  by_cases q:y=z
  ·rw[q];exact hv
  ·exact h.lvl.dom y (mem y hy q)
 ·intro y b hb
  rw[hk]
  rw[y4] at hb
  by_cases q:y=z
  ·rw[if_pos q] at hb;cases hb
   refine .inr ⟨List.mem_append_left _ h.xk,?_,m,hm,hc,by rw[e,q]⟩
   try dsimp only
   rw[if_pos q,if_neg hxz]
  ·rw[if_neg q] at hb
   rcases h.lvl.back y b hb with r|⟨r1,r2,r3⟩
   ·exact .inl r
   ·refine .inr ⟨List.mem_append_left _ r1,?_,r3⟩
    try dsimp only
    rw[if_neg q,if_neg (old _ r1)];exact r2
 ·rw[hk];intro y hy
  rcases List.mem_append.1 hy with hy|hy
  ·exact List.mem_append_left _ (h.sub y hy)
  ·exact List.mem_append_right _ hy
 ·exact List.nodup_append.2 ⟨h.nd,by simp,fun y hy w hw=>by simp at hw;subst hw;exact oldL y hy⟩
 ·rw[hk];exact List.mem_append_left _ h.xk
 ·intro q
  rcases List.mem_append.1 q with q|q
  ·exact h.xl q
  ·exact hxz (List.mem_singleton.1 q)
 ·refine List.pairwise_append.2 ⟨?_,List.pairwise_singleton _ _,fun y hy w hw=> ?_⟩
  ·refine List.Pairwise.imp_of_mem (fun {a b} ha hb hab=> ?_) h.srt
   try dsimp only
   rw[if_neg (oldL a ha),if_neg (oldL b hb)];exact hab
  ·simp at hw;subst hw
   try dsimp only
   rw[if_neg (oldL y hy),if_pos rfl];exact h.hi y (h.sub y hy)
 ·rw[hk];intro y hy
  try dsimp only
  rw[if_neg hxz]
  split
  ·omega
  ·rename_i q;exact h.hi y (mem y hy q)
 ·rw[hk];intro y hy hl
  have q:y ≠ z:=fun q=>hl (by rw[q];simp)
  try dsimp only
  rw[if_neg hxz,if_neg q]
  exact h.lo y (mem y hy q) fun r=>hl (List.mem_append_left _ r)
 ·intro y hy
  try dsimp only
  rw[if_neg hxz]
  rcases List.mem_append.1 hy with hy|hy
  ·rw[if_neg (oldL y hy)];exact h.up y hy
  ·rw[if_pos (List.mem_singleton.1 hy)];omega
 ·rw[hk];intro y hy hl
  have q:y ≠ z:=fun q=>hl (by rw[q];simp)
  obtain⟨k1,k2⟩:=h.dn y (mem y hy q) fun r=>hl (List.mem_append_left _ r)
  refine⟨k1,fun r m' hm' hc'=> ?_⟩
  obtain⟨l1,l2⟩:=k2 r m' hm' hc'
  refine⟨List.mem_append_left _ l1,?_⟩
  try dsimp only
  rw[if_neg (old _ l1),if_neg q];exact l2
theorem BfI.way{L:Li}{p:MpB}{d:Int→Nat}(h:BfI vs ms g s p L d){l:Li}{y:Int}(hw:FwW ms s l y):(y ∈ p.map (·.1)∧d y≤l.length)∨∃z ∈ L,d z≤l.length:=by
 induction hw with
 |nil=>exact .inl ⟨h.lvl.key,by rw[h.lvl.start];exact Nat.zero_le _⟩
 |@snoc l y op m hw hm hc ih=>
  simp only[List.length_append,List.length_singleton]
  rcases ih with⟨i1,i2⟩|⟨z,z1,z2⟩
  ·by_cases q:y ∈ L
   ·exact .inr ⟨y,q,by omega⟩
   ·obtain⟨k1,k2⟩:=(h.dn y i1 q).2 m (s7 hm) hc
    exact .inl ⟨k1,by omega⟩
  ·exact .inr ⟨z,z1,by omega⟩
theorem BfI.none{p:MpB}{d:Int→Nat}(h:BfI vs ms g s p [] d){l:Li}{y:Int}(hw:FwW ms s l y):¬ z8 g y:=by
 rcases h.way hw with⟨h1,_⟩|⟨z,z1,_⟩
 ·exact(h.dn y h1 (by simp)).1
 ·cases z1
theorem BfI.least{x:Int}{L:Li}{p:MpB}{d:Int→Nat}(h:BfI vs ms g s p (x::L) d){l:Li}{y:Int}(hw:FwW ms s l y)(hy:z8 g y):d x≤l.length:=by
 have hs:=List.pairwise_cons.1 h.srt
 have key:∀z ∈ x::L,d x≤d z:=fun z hz=>by
  rcases List.mem_cons.1 hz with rfl|hz
  ·exact Nat.le_refl _
  ·exact hs.1 z hz
 rcases h.way hw with⟨h1,h2⟩|⟨z,z1,z2⟩
 ·by_cases q:y ∈ x::L
  ·have:=key y q;omega
  ·exact absurd hy (h.dn y h1 q).1
 ·have:=key z z1;omega
end
/-! ### The search -/
section
variable {vs:Li}{ms:List Mk}{g s:Int}
theorem in_all(hg:Gr vs ms){x:Int}{p:MpB}{L:Li}{d:Int→Nat}(h:InI vs ms g s x p L d){c:Li}(hc:k8 c (0+1) ((c.length:Int) - 1)=L)(hl:L.length<p.length):
  ∃p' L' d',D0 ms p c x=some (p',L')∧BfI vs ms g s p' L' d'∧L'.length+p.length=L.length+p'.length∧p.length≤p'.length:=by
 have hvl:=hg.vl
 have hml:=hg.ml
 unfold D0
 obtain⟨⟨p',L'⟩,h1,⟨d',h2,h3,h4⟩,h5⟩:=J8 (body:=D2 ms x) (n:=(ms.length:Int)) (s:=(p,k8 c (0+1) ((c.length:Int) - 1)))
  (fun j q=>(∃d',InI vs ms g s x q.1 q.2 d'∧q.2.length+p.length=L.length+q.1.length∧p.length≤q.1.length)∧∀i m,i<j→ix ms i=some m→canW m x→tgtW m x ∈ q.1.map (·.1)) (by omega)
  ⟨⟨d,by rw[hc];exact h,by rw[hc],Nat.le_refl _⟩,fun i m hi hm=>by have:=(o7 hm).1;omega⟩ (fun j q j0 j1 hP=>by
   obtain⟨p',L'⟩:=q
   obtain⟨⟨d',q1,q2,q3⟩,q4⟩:=hP
   dsimp only at q1 q2 q3 q4
   obtain⟨m,hm,_⟩:=n5 j0 j1
   have hmm:=s7 hm
   unfold D2
   simp only[hm,oB]
   by_cases c1:Go.bits .and .u32 x m.pre=m.pre
   ·rw[if_pos c1]
    have c1':canW m x:=c1
    have ee:Go.bits .or .u32 (Go.bits .andNot .u32 x m.del) m.add=tgtW m x:=rfl
    rw[ee]
    by_cases c2:mget p' (tgtW m x)=none
    ·rw[if_pos (by simp[c2])]
     have hp:p'.length≤vs.length:=by
      have:=M1 q1.lvl.nd (S:=vs) q1.lvl.dom
      simpa using this
     have ha:app 4 L' [tgtW m x]=some (L'++[tgtW m x]):=by unfold app;rw[if_pos (by simp;omega)]
     simp only[ha,oB]
     refine⟨_,rfl,⟨_,q1.step c2 hm c1' rfl (hg.cl x (q1.lvl.dom x q1.xk) m hmm c1'),?_,?_⟩,fun i m' hi hm' hc'=> ?_⟩
     ·simp only[H3 c2,List.length_append,List.length_singleton];omega
     ·simp only[H3 c2,List.length_append,List.length_singleton];omega
     ·simp only[H3 c2,List.map_append,List.mem_append]
      by_cases e:i=j
      ·subst e;rw[hm] at hm';cases hm';exact .inr (by simp)
      ·exact .inl (q4 i m' (by omega) hm' hc')
    ·rw[if_neg (by simp;cases e:mget p' (tgtW m x) with|none=>exact absurd e c2|some _=>simp)]
     refine⟨_,rfl,⟨d',q1,q2,q3⟩,fun i m' hi hm' hc'=> ?_⟩
     by_cases e:i=j
     ·subst e;rw[hm] at hm';cases hm'
      cases e:mget p' (tgtW m x) with
      |none=>exact absurd e c2
      |some b=>exact List.mem_map.2 ⟨_,al4 e,rfl⟩
     ·exact q4 i m' (by omega) hm' hc'
   ·rw[if_neg c1]
    refine⟨_,rfl,⟨d',q1,q2,q3⟩,fun i m' hi hm' hc'=> ?_⟩
    by_cases e:i=j
    ·subst e;rw[hm] at hm';cases hm';exact absurd hc' c1
    ·exact q4 i m' (by omega) hm' hc')
 refine⟨p',L',d',by rw[h1];rfl,h2.out fun m hm hcan=> ?_,h3,h4⟩
 obtain⟨i,i0,i1,hi⟩:=C5 hm
 exact h5 i m i1 hi hcan
theorem first_spec(hg:Gr vs ms)(hn:vs.Nodup)(hs:s ∈ vs):∃r,B8 s g ms=some r∧((r=([],false)∧∀l y,FwW ms s l y→¬ z8 g y)∨
    ∃plan,r=(plan,true)∧∃y,FwW ms s plan y∧z8 g y∧∀l z,FwW ms s l z→z8 g z→plan.length≤l.length):=by
  have hvl:=hg.vl
  unfold B8
  simp only[s8,oB]
  have h0:BfI vs ms g s (mset ([]:MpB) s ⟨s,0⟩) [s] (fun _=>0):=by
    refine⟨⟨rfl,by simp[mset],by simp[mset],by simp[mset];exact hs,fun x b hb=> ?_⟩,by simp[mset],by simp,by simp,fun x _ y _=>by omega,fun y _ _ x _=>by omega,fun y hy hl=> ?_⟩
    · simp only[mset,mget] at hb
      split at hb
      · rename_i e;exact .inl e
      · cases hb
    · simp[mset] at hy;simp at hl;exact absurd hy hl
  obtain⟨o,o1,o2⟩:=Q3 (body:=D1 s g ms) (s:=(mset ([]:MpB) s (⟨s,0⟩:Bk),[s]))
    (fun q=>(∃d,BfI vs ms g s q.1 q.2 d)∧q.2.length≤q.1.length)
    (fun o => match o with
      | .inl _=>∀l y,FwW ms s l y→¬ z8 g y
      | .inr r=>∃plan,r=(plan,true)∧∃y,FwW ms s plan y∧z8 g y∧∀l z,FwW ms s l z→z8 g z→plan.length≤l.length)
    (fun q=>2 * (vs.length - q.1.length)+q.2.length) ⟨⟨_,h0⟩,by simp[mset]⟩ (by
      rintro ⟨p,L⟩ ⟨⟨d,q1⟩,q2⟩
      dsimp only at q1 q2
      have hp:p.length≤vs.length:=by
        have:=M1 q1.lvl.nd (S:=vs) q1.lvl.dom
        simpa using this
      unfold D1
      dsimp only
      cases L with
      |nil=>
        rw[if_neg (by simp)]
        exact .inr ⟨_,rfl,fun l y hw=>q1.none hw⟩
      |cons x L=>
        rw[if_pos (by simp)]
        have e0:ix (x::L) 0=some x:=rfl
        simp only[e0,cutV,oB,D7,w3]
        rw[if_pos (by simp only[List.length_cons];omega)]
        simp only[oB]
        by_cases c:Go.bits .and .u32 x g=g
        · rw[if_pos c]
          have hx:=q1.sub x (by simp)
          have hdx:d x≤2000:=by
            have:=height_lt q1.lvl _ hx rfl
            omega
          obtain⟨l,l1,l2,l3⟩:=path_back q1.lvl (d x) hx rfl [] (by simp;omega)
          unfold N2
          rw[l1]
          simp only[oB,List.nil_append]
          exact .inr ⟨_,rfl,_,rfl,x,l3,c,fun l z hw hz=>by
            have:=q1.least hw hz
            rw[List.length_reverse,l2];exact this⟩
        · rw[if_neg c]
          obtain⟨p',L',d',k1,k2,k3,k4⟩:=in_all hg (InI.of q1 c) (c:=x::L) (by simp[k8]) (by simp at q2;omega)
          rw[k1]
          simp only[oB]
          have hp':p'.length≤vs.length:=by
            have:=M1 k2.lvl.nd (S:=vs) k2.lvl.dom
            simpa using this
          simp only[List.length_cons] at q2
          refine .inl ⟨_,rfl,⟨⟨d',k2⟩,by dsimp only;omega⟩,?_⟩
          simp only[List.length_cons]
          omega)
  rw[o1]
  rcases o with u|r
  · exact⟨_,rfl,.inl ⟨rfl,o2⟩⟩
  · exact⟨_,rfl,.inr o2⟩
end
end Ab
end
section
namespace Ab
open Go
inductive Ed:Nat→Li→Li→Prop
 |nil:Ed 0 [] []
 |keep {n:Nat} {x:Int} {a b:Li} (h:Ed n a b):Ed n (x::a) (x::b)
 |del {n:Nat} {x:Int} {a b:Li} (h:Ed n a b):Ed (n+1) (x::a) b
 |ins {n:Nat} {y:Int} {a b:Li} (h:Ed n a b):Ed (n+1) a (y::b)
theorem Ed.symm{n:Nat}{a b:Li}(h:Ed n a b):Ed n b a:=by
 induction h with
 |nil=>exact .nil
 |keep _ ih=>exact .keep ih
 |del _ ih=>exact .ins ih
 |ins _ ih=>exact .del ih
theorem Ed.refl:∀a:Li,Ed 0 a a
 |[]=>.nil
 |_::a=>.keep (Ed.refl a)
theorem Ed.trans{n m:Nat}{a b c:Li}(h:Ed n a b)(k:Ed m b c):∃q,q≤n+m∧Ed q a c:=by
 induction h generalizing m c with
 |nil=>exact⟨m,by omega,k⟩
 |@keep n x a b h ih=>
  generalize hb:x::b=b' at k
  induction k with
  |nil=>cases hb
  |keep k _=>
   cases hb
   obtain⟨q,h1,h2⟩:=ih k
   exact⟨q,h1,.keep h2⟩
  |del k _=>
   cases hb
   obtain⟨q,h1,h2⟩:=ih k
   exact⟨q+1,by omega,.del h2⟩
  |ins k ihk=>
   obtain⟨q,h1,h2⟩:=ihk hb
   exact⟨q+1,by omega,.ins h2⟩
 |del h ih=>
  obtain⟨q,h1,h2⟩:=ih k
  exact⟨q+1,by omega,.del h2⟩
 |@ins n y a b h ih=>
  generalize hb:y::b=b' at k
  induction k with
  |nil=>cases hb
  |keep k _=>
   cases hb
   obtain⟨q,h1,h2⟩:=ih k
   exact⟨q+1,by omega,.ins h2⟩
  |del k _=>
   cases hb
   obtain⟨q,h1,h2⟩:=ih k
   exact⟨q,by omega,h2⟩
  |ins k ihk=>
   obtain⟨q,h1,h2⟩:=ihk hb
   exact⟨q+1,by omega,.ins h2⟩
theorem Ed.keepR{n:Nat}{a b:Li}(x:Int)(h:Ed n a b):Ed n (a++[x]) (b++[x]):=by
 induction h with
 |nil=>exact .keep .nil
 |keep _ ih=>exact .keep ih
 |del _ ih=>exact .del ih
 |ins _ ih=>exact .ins ih
theorem Ed.delR{n:Nat}{a b:Li}(x:Int)(h:Ed n a b):Ed (n+1) (a++[x]) b:=by
 induction h with
 |nil=>exact .del .nil
 |keep _ ih=>exact .keep ih
 |del _ ih=>exact .del ih
 |ins _ ih=>exact .ins ih
theorem Ed.insR{n:Nat}{a b:Li}(x:Int)(h:Ed n a b):Ed (n+1) a (b++[x]):=by
 induction h with
 |nil=>exact .ins .nil
 |keep _ ih=>exact .keep ih
 |del _ ih=>exact .del ih
 |ins _ ih=>exact .ins ih
def dmG(x:Int)(f:Li→Nat)(n:Nat):Li→Nat
 |[]=>n
 |y::b=>if x=y then min (min (f (y::b)) (dmG x f n b)+1) (f b) else min (f (y::b)) (dmG x f n b)+1
def dm:Li→Li→Nat
 |[],b=>b.length
 |x::a,b=>dmG x (dm a) (a.length+1) b
theorem dm_nil:∀a:Li,dm a []=a.length
 |[]=>rfl
 |_::_=>rfl
theorem dm_cons(x y:Int)(a b:Li):dm (x::a) (y::b)=if x=y then min (min (dm a (y::b)) (dm (x::a) b)+1) (dm a b) else min (dm a (y::b)) (dm (x::a) b)+1:=rfl
theorem Ed.all:∀b:Li,Ed b.length [] b
 |[]=>.nil
 |_::b=>.ins (Ed.all b)
theorem Ed.none:∀b:Li,Ed b.length b []
 |[]=>.nil
 |_::b=>.del (Ed.none b)
theorem dm_ed:∀a b:Li,Ed (dm a b) a b
 |[],b=>Ed.all b
 |x::a,[]=>Ed.none (x::a)
 |x::a,y::b=>by
  have h1:=(dm_ed a (y::b)).del (x:=x)
  have h2:=(dm_ed (x::a) b).ins (y:=y)
  have h3:=dm_ed a b
  rw[dm_cons]
  have hmin:Ed (min (dm a (y::b)) (dm (x::a) b)+1) (x::a) (y::b):=by
   rcases Nat.le_total (dm a (y::b)) (dm (x::a) b) with h|h
   ·rw[Nat.min_eq_left h];exact h1
   ·rw[Nat.min_eq_right h];exact h2
  by_cases hxy:x=y
  ·subst hxy
   rw[if_pos rfl]
   rcases Nat.le_total (min (dm a (x::b)) (dm (x::a) b)+1) (dm a b) with h|h
   ·rw[Nat.min_eq_left h];exact hmin
   ·rw[Nat.min_eq_right h];exact .keep h3
  ·rw[if_neg hxy];exact hmin
termination_by a b=>a.length+b.length
theorem dm_le{n:Nat}{a b:Li}(h:Ed n a b):dm a b≤n:=by
 induction h with
 |nil=>exact Nat.le_refl _
 |keep _ ih=>rw[dm_cons,if_pos rfl];omega
 |@del n x a b h ih=>
  cases b with
  |nil=>rw[dm_nil] at ih ⊢;simp;omega
  |cons y b=>
   rw[dm_cons]
   split<;>omega
 |@ins n y a b h ih=>
  cases a with
  |nil=>simp only[dm,List.length_cons] at ih ⊢;omega
  |cons x a=>
   rw[dm_cons]
   split<;>omega
/-! ### Distance -/
def RowIs(m:Nat)(f:Nat→Nat)(row:Li):Prop:=row.length=m+1∧∀k,k≤m→row[k]? =some (f k:Int)
theorem RowIs.ix{m:Nat}{f:Nat→Nat}{row:Li}(h:RowIs m f row){k:Nat}(hk:k≤m):ix row (k:Int)=some (f k:Int):=by rw[M8];exact h.2 k hk
theorem RowIs.set{m:Nat}{f:Nat→Nat}{row:Li}(h:RowIs m f row)(k v:Nat):RowIs m (fun i=>if i=k then v else f i) (row.set k (v:Int)):=by
 refine⟨by rw[lS];exact h.1,fun i hi=> ?_⟩
 rw[List.getElem?_set]
 by_cases e:k=i
 ·subst e;simp[h.1];omega
 ·rw[if_neg e,h.2 i hi];simp[show ¬ i=k from fun e'=>e e'.symm]
theorem RowIs.congr{m:Nat}{f g:Nat→Nat}{row:Li}(h:RowIs m f row)(hg:∀k,k≤m→f k=g k):RowIs m g row:=⟨h.1,fun k hk=>by rw[h.2 k hk,hg k hk]⟩
end Ab
end
section
namespace Ab
open Go
end Ab
end
section
namespace Ab
open Go
theorem at6{α β:Type}{l:List α}{body:Int→List β→Option (List β)}(g:α→List β)(N:Nat)(c0:List β)
  (hb:∀j a c,ix l j=some a→c.length+(g a).length≤N→body j c=some (c++g a)) (hN:c0.length+(l.flatMap g).length≤N):
  forR 0 (l.length:Int) body c0=some (c0++l.flatMap g):=by
 obtain⟨s',h1,h2⟩:=J8 (body:=body) (n:=(l.length:Int)) (s:=c0) (fun j c=>c=c0++(l.take j.toNat).flatMap g) (by omega) (by simp) (fun j c h0 h1 hP=>by
  obtain⟨a,g1,g2⟩:=n5 h0 h1
  have e:(j+1).toNat=j.toNat+1:=by omega
  have ht:l.take (j+1).toNat=l.take j.toNat++[a]:=by rw[e,List.take_add_one,g2];rfl
  refine⟨c++g a,hb j a c g1 ?_,?_⟩
  ·have hs:l=l.take j.toNat++[a]++l.drop (j+1).toNat:=by rw[← ht,List.take_append_drop]
   have hl:(l.flatMap g).length=((l.take j.toNat).flatMap g).length+(g a).length+((l.drop (j+1).toNat).flatMap g).length:=by
    conv=>lhs;rw[hs]
    simp[List.flatMap_append];omega
   rw[hP,List.length_append];omega
  ·rw[ht,List.flatMap_append,hP];simp)
 rw[h1,h2]
 simp
theorem small_eq:∀n:Fin 100,(H8 (n:Nat)).map strL=some (dg (n:Nat)):=by decide+kernel
theorem appendInt_eq{x:Int}(hx:0≤x∧x<100){l:Li}(hl:l.length≤1000000):B0 x 10 l=some (l++dg x):=by
 have h:=small_eq ⟨x.toNat,by omega⟩
 rw[show(((⟨x.toNat,by omega⟩:Fin 100):Nat):Int)=x by simp;omega] at h
 obtain⟨b,h1,h2⟩:=oM.1 h
 first
  |unfold B0 A5 y9
  |unfold B0 internal_strconv_AppendInt_w2 internal_strconv_AppendUint_w3
 rw[if_neg (by omega),IntKind.wrap_u64,Int.emod_eq_of_lt (by omega) (by omega)]
 simp only[oB,if_true]
 rw[if_pos hx.2,x8 (by omega) (by omega),h1]
 simp only[oB,h2]
 have:(dg x).length≤2:=by unfold dg;split<;>simp
 rw[app,if_pos (by omega)]
 rfl
theorem dg_len(x:Int):(dg x).length≤2:=by unfold dg;split<;>simp
theorem key_eq{l:LL}(hs:∀s ∈ l,small s)(hN:(encK l).length≤900000):y5 l=some (keyK l):=by
 unfold y5
 rw[at6 encS 900000 [] (fun j s c hj hc=>by
  unfold ai5
  rw[hj]
  simp only[oB]
  have hlen:(encS s).length=(s.flatMap fun x=>dg x++[44]).length+1:=by simp[encS]
  rw[at6 (fun x=>dg x++[44]) 900000 c (fun i x c' hi hc'=>by
   unfold ah8
   rw[hi]
   simp only[List.length_append,List.length_singleton] at hc'
   simp only[oB,appendInt_eq (hs s (s7 hj) x (s7 hi)) (l:=c') (by omega)]
   rw[app,if_pos (by simp;omega)]
   simp) (by omega)]
  simp only[oB]
  rw[app,if_pos (by rw[List.length_append];simp only[List.length_singleton];omega)]
  simp[encS]) (by simpa[encK] using hN)]
 rfl
theorem aq7:∀s:Li,(encS s).length≤3 * s.length+1
 |[]=>by simp[encS]
 |x::s=>by
  have:=aq7 s
  have:=dg_len x
  rw[ag7]
  simp only[List.length_append,List.length_cons]
  omega
theorem key2_eq{s a:Li}(hs:small s)(ha:small a)(h1:s.length≤1000)(h2:a.length≤1000):y5 [s,a]=some (keyK [s,a]):=by
 refine key_eq (by simp[hs,ha]) ?_
 have:=aq7 s;have:=aq7 a
 simp only[encK,List.flatMap_cons,List.flatMap_nil,List.length_append,List.append_nil]
 omega
end Ab
end
section
namespace Ab
open Go
/-! ### All sets -/
def allS:Nat→Int→LL
 |0,_=>[[]]
 |n+1,k=>allS n (k+1)++(allS n (k+1)).map (k:: ·)
theorem aq1:∀{n:Nat} {k:Int} {l:Li},Inc l→(∀x ∈ l,k≤x∧x<k+n)→l ∈ allS n k
 |0,k,l,_,h=>by
  cases l with
  |nil=>simp[allS]
  |cons a l=>have:=h a (by simp);omega
 |n+1,k,l,hi,h=>by
  simp only[allS,List.mem_append,List.mem_map]
  cases l with
  |nil=>exact .inl (aq1 .nil (by simp))
  |cons a l=>
   have hi':=List.pairwise_cons.1 hi
   have ha:=h a (by simp)
   by_cases e:a=k
   ·subst e
    refine .inr ⟨l,aq1 hi'.2 fun x hx=> ?_,rfl⟩
    have:=hi'.1 x hx
    have:=h x (List.mem_cons_of_mem _ hx)
    omega
   ·refine .inl (aq1 hi fun x hx=> ?_)
    have h2:=h x hx
    rcases List.mem_cons.1 hx with rfl|hx
    ·omega
    ·have:=hi'.1 x hx;omega
theorem allS_len:∀(n:Nat) (k:Int),(allS n k).length=2 ^ n
 |0,_=>rfl
 |n+1,k=>by simp only[allS,List.length_append,List.length_map,allS_len n];rw[Nat.pow_succ];omega
/-! ### Keys -/
def kk(s:Li)(a:Int):ByteArray:=keyK [s,[a]]
def univ:List ByteArray:=(allS 24 0).flatMap fun s=>(List.range 61).map fun a:Nat=>kk s (a:Int)
theorem flat_lenP{α β:Type}(f:α→List β)(n:Nat)(hf:∀a,(f a).length=n):∀l:List α,(l.flatMap f).length=l.length * n
 |[]=>by simp
 |a::l=>by simp only[List.flatMap_cons,List.length_append,flat_lenP f n hf l,hf,List.length_cons,Nat.succ_mul];omega
theorem univ_len:univ.length=2 ^ 24 * 61:=by
 rw[univ,flat_lenP _ 61 (fun a=>by simp),allS_len]
theorem mem_univ{t:d4}(ht:i9 t){s:Li}(hs:SetN s t.facts){a:Int}(h0:0≤a)(h1:a≤60):kk s a ∈ univ:=by
 have:=ht.n1
 refine List.mem_flatMap.2 ⟨s,aq1 hs.1 fun x hx=>by have:=hs.2 x hx;omega,List.mem_map.2 ⟨a.toNat,by simp;omega,by rw[Int.toNat_of_nonneg h0]⟩⟩
theorem R7{t:d4}(ht:i9 t){s:Li}(hs:SetN s t.facts):small s:=fun x hx=>by
 have:=ht.n1
 have:=hs.2 x hx
 omega
theorem small_one{a:Int}(h0:0≤a)(h1:a≤60):small [a]:=fun x hx=>by
 simp at hx;subst hx;omega
theorem kk_eq{t:d4}(ht:i9 t){s:Li}(hs:SetN s t.facts){a:Int}(h0:0≤a)(h1:a≤60):y5 [s,[a]]=some (kk s a):=by
 have:=ht.n1
 have:=hs.len
 exact key2_eq (R7 ht hs) (small_one h0 h1) (by omega) (by simp)
theorem kk_inj{t:d4}(ht:i9 t){s s':Li}(hs:SetN s t.facts)(hs':SetN s' t.facts){a a':Int}(h0:0≤a)(h1:a≤60)(h0':0≤a')(h1':a'≤60)(h:kk s a=kk s' a'):s=s'∧a=a':=by
 have:=keyK_inj (fun x hx=>by
  rcases List.mem_cons.1 hx with rfl|hx
  ·exact R7 ht hs
  ·simp at hx;subst hx;exact small_one h0 h1) (fun x hx=>by
  rcases List.mem_cons.1 hx with rfl|hx
  ·exact R7 ht hs'
  ·simp at hx;subst hx;exact small_one h0' h1') h
 simpa using this
/-! ### Maps -/
section
variable {K V:Type}[DecidableEq K]
def late(c:Int)(m:List (K×Int)):Nat:=(m.filter fun p=>decide (c<p.2)).length
theorem late_app(c:Int)(m m':List (K×Int)):late c (m++m')=late c m+late c m':=by simp[late,List.filter_append]
theorem V6(c:Int)(p:K×Int)(m:List (K×Int)):late c (p::m)=(if c<p.2 then 1 else 0)+late c m:=by
 simp only[late,List.filter_cons]
 by_cases h:c<p.2
 ·simp[h];omega
 ·simp[h]
theorem late_one(c:Int)(p:K×Int):late c [p]≤1:=by
 rw[V6];simp only[late,List.filter_nil,List.length_nil];split<;>omega
theorem late_set{c v:Int}{k:K}(hv:v≤c):∀{m:List (K×Int)} {old:Int},mget m k=some old→c<old→late c (mset m k v)+1=late c m
 |[],old,h,_=>by cases h
 |p::r,old,h,ho=>by
  simp only[mget] at h
  simp only[mset]
  split at h
  ·rename_i e
   cases h
   rw[if_pos e,V6,V6,if_neg (by simp only;omega),if_pos ho];omega
  ·rename_i hne
   have:=late_set hv h ho
   rw[if_neg hne,V6,V6];omega
theorem late_mono{c c':Int}(h:c≤c'):∀m:List (K×Int),late c' m≤late c m
 |[]=>Nat.le_refl _
 |p::r=>by
  have:=late_mono h r
  rw[V6,V6]
  by_cases h1:c'<p.2
  ·rw[if_pos h1,if_pos (by omega)];omega
  ·rw[if_neg h1];omega
end
/-! ### What the search keeps -/
abbrev Mp':=List (ByteArray×Int)
inductive Chn(ns:List d6):Int→Li→Prop
 |root {i:Int} (h:i<0):Chn ns i []
 |op {i:Int} {n:d6} {st:Li} (h:ix ns i=some n) (ho:0≤n.op) (hf:n.ffrom<i) (hc:Chn ns n.ffrom st):Chn ns i (st++[n.op])
 |no {i:Int} {n:d6} {st:Li} (h:ix ns i=some n) (ho:n.op<0) (hf:n.ffrom<i) (hc:Chn ns n.ffrom st):Chn ns i st
theorem Chn.mono{ns ns':List d6}{i:Int}{st:Li}(hn:∀i n,ix ns i=some n→ix ns' i=some n)(h:Chn ns i st):Chn ns' i st:=by
 induction h with
 |root h=>exact .root h
 |op h ho hf _ ih=>exact .op (hn _ _ h) ho hf ih
 |no h ho hf _ ih=>exact .no (hn _ _ h) ho hf ih
def pot(c:Int)(m:Mp'):Nat:=2 * (univ.length - m.length)+late c m
structure NodeOk(t:d4)(plan:Li)(n:d6):Prop where
 set:SetN n.fs t.facts
 at0:0≤n.fat
 at1:n.fat≤plan.length
 ch0:0≤n.change
def Way(t:d4)(plan st:Li)(n:d6):Prop:=(∀x ∈ st,0≤x∧x<t.operators.length)∧ends t t.init st=some n.fs∧Ed n.change.toNat (plan.take n.fat.toNat) st
structure Bs(t:d4)(plan:Li)(c:Int)(m:Mp')(ns:List d6)(q:LL):Prop where
 node:∀i n,ix ns i=some n→NodeOk t plan n∧n.change≤c+1∧∃st,Chn ns i st∧Way t plan st n
 m1:∀i n,ix ns i=some n→∃v,mget m (kk n.fs n.fat)=some v∧v≤n.change
 m2:∀(s:Li) (a v:Int),SetN s t.facts→0≤a→a≤plan.length→mget m (kk s a)=some v→∃i n,ix ns i=some n∧n.fs=s∧n.fat=a∧n.change=v
 qs:∀b row,ix q b=some row→∀i ∈ row,∃n,ix ns i=some n∧n.change=b
 qn:∀i n,ix ns i=some n→∃row p,ix q n.change=some row∧ix row p=some i
 nd:(m.map (·.1)).Nodup
 un:∀k ∈ m.map (·.1),k ∈ univ
 vl:∀p ∈ m,p.2≤c+1
 ql:q.length≤ns.length
 rl:∀b row,ix q b=some row→row.length≤ns.length
structure Stp(c:Int)(m:Mp')(ns:List d6)(q:LL)(m':Mp')(ns':List d6)(q':LL):Prop where
 sat:∀k v,mget m k=some v→∃v',mget m' k=some v'∧v'≤v
 nst:∀i n,ix ns i=some n→ix ns' i=some n
 row:∀b row,ix q b=some row→∃e,ix q' b=some (row++e)
 old:∀b,b<c→ix q' b=ix q b
 len:q.length≤q'.length
 psi:q'.length+pot c m'≤q.length+pot c m
 pend:∀row,ix q c=some row→∃row',ix q' c=some row'∧row'.length+pot c m'≤row.length+pot c m
 nsl:ns'.length+pot c m'≤ns.length+pot c m
theorem Stp.refl(c:Int)(m:Mp')(ns:List d6)(q:LL):Stp c m ns q m ns q:=
 ⟨fun k v h=>⟨v,h,Int.le_refl _⟩,fun _ _ h=>h,fun b row h=>⟨[],by simpa using h⟩,fun _ _=>rfl,Nat.le_refl _,Nat.le_refl _,fun row h=>⟨row,h,Nat.le_refl _⟩,Nat.le_refl _⟩
theorem Stp.trans{c:Int}{m m' m'':Mp'}{ns ns' ns'':List d6}{q q' q'':LL}(h:Stp c m ns q m' ns' q')(k:Stp c m' ns' q' m'' ns'' q''):Stp c m ns q m'' ns'' q'' where
 sat a v g:=by
  obtain⟨v',g1,g2⟩:=h.sat a v g
  obtain⟨v'',g3,g4⟩:=k.sat a v' g1
  exact⟨v'',g3,by omega⟩
 nst i n g:=k.nst i n (h.nst i n g)
 row b row g:=by
  obtain⟨e,g1⟩:=h.row b row g
  obtain⟨e',g2⟩:=k.row b _ g1
  exact⟨e++e',by rw[g2,List.append_assoc]⟩
 old b hb:=(k.old b hb).trans (h.old b hb)
 len:=Nat.le_trans h.len k.len
 psi:=by have:=h.psi;have:=k.psi;omega
 pend row g:=by
  obtain⟨r',g1,g2⟩:=h.pend row g
  obtain⟨r'',g3,g4⟩:=k.pend r' g1
  exact⟨r'',g3,by omega⟩
 nsl:=by have:=h.nsl;have:=k.nsl;omega
def Sat(m:Mp')(s:Li)(a d:Int):Prop:=∃v,mget m (kk s a)=some v∧v≤d
theorem Stp.keep{c:Int}{m m':Mp'}{ns ns':List d6}{q q':LL}(h:Stp c m ns q m' ns' q'){s:Li}{a d:Int}(k:Sat m s a d):Sat m' s a d:=by
 obtain⟨v,h1,h2⟩:=k
 obtain⟨v',h3,h4⟩:=h.sat _ v h1
 exact⟨v',h3,by omega⟩
end Ab
end
section
namespace Ab
open Go
theorem grow_spec{nv:d6}{q:LL}(h0:0≤nv.change)(h1:nv.change≤q.length)(hq:q.length≤4000000000):
  ∃q1,Loop (z7 nv) q=some q1∧(∀b row,ix q b=some row→ix q1 b=some row)∧(∀b row,ix q1 b=some row→ix q b=some row∨(row=[]∧b=q.length∧nv.change=q.length))∧q.length≤q1.length∧q1.length≤q.length+1∧nv.change<q1.length:=by
 by_cases e:nv.change=q.length
 ·refine⟨q++[[]],W0.2 ⟨2,?_⟩,fun b row h=>T2 h,fun b row h=> ?_,by simp,by simp,by simp;omega⟩
  ·have e1:app 24 q ([[]]:LL)=some (q++[[]]):=by rw[app,if_pos (by simp;omega)]
   simp only[E6,z7]
   rw[if_pos (by omega),e1]
   simp only[oB]
   rw[if_neg (by simp;omega)]
  ·rw[T3] at h
   split at h
   ·cases h;exact .inr ⟨rfl,by assumption,e⟩
   ·exact .inl h
 ·refine⟨q,W0.2 ⟨1,?_⟩,fun b row h=>h,fun b row h=>.inl h,Nat.le_refl _,by omega,by omega⟩
  simp only[E6,z7]
  rw[if_neg (by omega)]
theorem add_spec{t:d4}(ht:i9 t){plan:Li}(hp:plan.length≤60){c:Int}(hc:0≤c){m:Mp'}{ns:List d6}{q:LL}(hB:Bs t plan c m ns q)(hN:ns.length+pot c m≤2 * univ.length)
  {nv:d6} (hn:NodeOk t plan nv) (hch:nv.change=c∨nv.change=c+1) (hq:nv.change≤q.length) (hW:∃st,Chn ns nv.ffrom st∧nv.ffrom<ns.length∧Way t plan (if 0≤nv.op then st++[nv.op] else st) nv):
  ∃m' ns' q',m9 nv t plan ns q m=some (m',ns',q')∧Bs t plan c m' ns' q'∧Stp c m ns q m' ns' q'∧Sat m' nv.fs nv.fat nv.change:=by
 have hU:=univ_len
 have h60:nv.fat≤60:=by have:=hn.at1;omega
 unfold m9
 rw[kk_eq ht hn.set hn.at0 h60]
 simp only[oB]
 by_cases hf:∃v,mget m (kk nv.fs nv.fat)=some v∧v≤nv.change
 ·obtain⟨v,h1,h2⟩:=hf
  rw[if_pos (by simp[h1,h2])]
  exact⟨m,ns,q,rfl,hB,.refl ..,v,h1,h2⟩
 rw[if_neg (by
  intro h
  simp only[Bool.and_eq_true,decide_eq_true_eq,Option.isSome_iff_exists] at h
  obtain⟨⟨v,h1⟩,h2⟩:=h
  rw[h1] at h2
  exact hf ⟨v,h1,h2⟩)]
 have hql:=hB.ql
 have ha:app 56 ns [nv]=some (ns++[nv]):=by rw[app,if_pos (by simp;omega)]
 obtain⟨q1,g1,Q1,Q2,L1,L2,L3⟩:=grow_spec hn.ch0 hq (by omega)
 obtain⟨row,r1,_⟩:=n5 (l:=q1) hn.ch0 L3
 have hrl:row.length≤ns.length:=by
  rcases Q2 _ _ r1 with h|⟨h,_⟩
  ·exact hB.rl _ _ h
  ·simp[h]
 have hb:app 8 row [w64 (((ns++[nv]).length:Int) - 1)]=some (row++[(ns.length:Int)]):=by
  have e:(((ns++[nv]).length:Int) - 1)=(ns.length:Int):=by simp
  rw[e,x8 (by omega) (by omega),app,if_pos (by simp;omega)]
 rw[ha]
 simp only[oB]
 rw[g1]
 simp only[oB,r1,hb]
 have hmem:kk nv.fs nv.fat ∈ univ:=mem_univ ht hn.set hn.at0 h60
 -- what becomes of the map
 have hmap:pot c (mset m (kk nv.fs nv.fat) nv.change)+1≤pot c m∧((mset m (kk nv.fs nv.fat) nv.change).map (·.1)).Nodup∧∀k ∈ (mset m (kk nv.fs nv.fat) nv.change).map (·.1),k ∈ univ:=by
  cases hg:mget m (kk nv.fs nv.fat) with
  |none=>
   rw[H3 hg]
   have hnd:((m++[(kk nv.fs nv.fat,nv.change)]).map (·.1)).Nodup:=by
    rw[List.map_append,List.nodup_append]
    refine⟨hB.nd,by simp,fun a h1 b h2 e=> ?_⟩
    simp only[List.map_cons,List.map_nil,List.mem_singleton] at h2
    subst e;subst h2
    exact ac5 hg h1
   have hun:∀k ∈ (m++[(kk nv.fs nv.fat,nv.change)]).map (·.1),k ∈ univ:=fun k hk=>by
    rw[List.map_append,List.mem_append] at hk
    rcases hk with hk|hk
    ·exact hB.un k hk
    ·simp at hk;subst hk;exact hmem
   have hl:=M1 hnd hun
   simp only[List.length_map,List.length_append,List.length_singleton] at hl
   refine⟨?_,hnd,hun⟩
   have:=late_one c (kk nv.fs nv.fat,nv.change)
   simp only[pot,late_app,List.length_append,List.length_singleton]
   omega
  |some old=>
   have hne:mget m (kk nv.fs nv.fat) ≠ none:=by rw[hg];simp
   have hk:=mset_keys (v:=nv.change) hne
   have hlen:(mset m (kk nv.fs nv.fat) nv.change).length=m.length:=by
    have:=congrArg List.length hk
    simpa using this
   have ho:nv.change<old:=by
    rcases Int.lt_or_le nv.change old with h|h
    ·exact h
    ·exact absurd ⟨old,hg,h⟩ hf
   have:=hB.vl _ (al4 hg)
   simp only at this
   have hcc:nv.change=c:=by omega
   have hlt:=late_set (c:=c) (v:=nv.change) (by omega) hg (by omega)
   refine⟨?_,by rw[hk];exact hB.nd,by rw[hk];exact hB.un⟩
   simp only[pot,hlen]
   omega
 obtain⟨hpot,hnd,hun⟩:=hmap
 generalize hm':mset m (kk nv.fs nv.fat) nv.change=m' at *
 have hget:∀k,mget m' k=if k=kk nv.fs nv.fat then some nv.change else mget m k:=fun k=>by rw[← hm',y4]
 have hlt:∀v,mget m (kk nv.fs nv.fat)=some v→nv.change<v:=fun v hv=>by
  rcases Int.lt_or_le nv.change v with h|h
  ·exact h
  ·exact absurd ⟨v,hv,h⟩ hf
 have hq':∀b,ix (q1.set nv.change.toNat (row++[(ns.length:Int)])) b=if b=nv.change then some (row++[(ns.length:Int)]) else ix q1 b:=fun b=>by
  by_cases h0:0≤b
  ·rw[ae5 hn.ch0 L3 h0]
  ·rw[K2 (by omega),K2 (by omega),if_neg (by have:=hn.ch0;omega)]
 have hold:∀i n,ix ns i=some n→ix (ns++[nv]) i=some n:=fun i n h=>T2 h
 refine⟨m',ns++[nv],_,rfl,?_,?_,nv.change,by rw[hget,if_pos rfl],Int.le_refl _⟩
 ·exact {
   node:=fun i n hi=>by
    rw[T3] at hi
    split at hi
    ·rename_i e
     cases hi
     obtain⟨st,h1,h2,h3⟩:=hW
     refine⟨hn,by omega,_,?_,h3⟩
     have hx:ix (ns++[nv]) i=some nv:=by rw[e];exact X3
     split
     ·exact .op hx (by assumption) (by omega) (h1.mono hold)
     ·exact .no hx (by omega) (by omega) (h1.mono hold)
    ·obtain⟨h1,h2,st,h3,h4⟩:=hB.node i n hi
     exact⟨h1,h2,st,h3.mono hold,h4⟩
   m1:=fun i n hi=>by
    rw[hget]
    rw[T3] at hi
    split at hi
    ·cases hi
     rw[if_pos rfl]
     exact⟨_,rfl,Int.le_refl _⟩
    ·obtain⟨v,h1,h2⟩:=hB.m1 i n hi
     split
     ·rename_i e
      rw[e] at h1
      have:=hlt v h1
      exact⟨_,rfl,by omega⟩
     ·exact⟨v,h1,h2⟩
   m2:=fun s a v hs h0 h1 hv=>by
    rw[hget] at hv
    split at hv
    ·rename_i e
     obtain⟨rfl,rfl⟩:=kk_inj ht hs hn.set h0 (by omega) hn.at0 h60 e
     cases hv
     exact⟨ns.length,nv,X3,rfl,rfl,rfl⟩
    ·obtain⟨i,n,g1,g2⟩:=hB.m2 s a v hs h0 h1 hv
     exact⟨i,n,hold _ _ g1,g2⟩
   qs:=fun b r hr i hi=>by
    rw[hq'] at hr
    split at hr
    ·rename_i e
     subst e
     cases hr
     rcases List.mem_append.1 hi with hi|hi
     ·rcases Q2 _ _ r1 with h|⟨h,_⟩
      ·obtain⟨n,k1,k2⟩:=hB.qs _ _ h i hi
       exact⟨n,hold _ _ k1,k2⟩
      ·rw[h] at hi;cases hi
     ·simp only[List.mem_singleton] at hi
      subst hi
      exact⟨nv,X3,rfl⟩
    ·rcases Q2 _ _ hr with h|⟨h,_⟩
     ·obtain⟨n,k1,k2⟩:=hB.qs _ _ h i hi
      exact⟨n,hold _ _ k1,k2⟩
     ·rw[h] at hi;cases hi
   qn:=fun i n hi=>by
    rw[T3] at hi
    split at hi
    ·rename_i e
     cases hi
     refine⟨row++[(ns.length:Int)],row.length,by rw[hq',if_pos rfl],?_⟩
     rw[X3,e]
    ·obtain⟨r,p,k1,k2⟩:=hB.qn i n hi
     by_cases e:n.change=nv.change
     ·have:r=row:=by
       have:=Q1 _ _ k1
       rw[e,r1] at this
       exact(Option.some.inj this).symm
      subst this
      exact⟨_,p,by rw[hq',if_pos e],T2 k2⟩
     ·exact⟨r,p,by rw[hq',if_neg e];exact Q1 _ _ k1,k2⟩
   nd:=hnd
   un:=hun
   vl:=fun p hp=>by
    rw[← hm'] at hp
    rcases mset_mem hp with h|h
    ·subst h;simp only;omega
    ·exact hB.vl p h
   ql:=by simp only[lS,List.length_append,List.length_singleton];omega
   rl:=fun b r hr=>by
    rw[hq'] at hr
    simp only[List.length_append,List.length_singleton]
    split at hr
    ·cases hr;simp;omega
    ·rcases Q2 _ _ hr with h|⟨h,_⟩
     ·have:=hB.rl _ _ h;omega
     ·simp[h]}
 ·exact {
   sat:=fun k v hk=>by
    rw[hget]
    split
    ·rename_i e
     rw[e] at hk
     have:=hlt v hk
     exact⟨_,rfl,by omega⟩
    ·exact⟨v,hk,Int.le_refl _⟩
   nst:=hold
   row:=fun b r hr=>by
    rw[hq']
    split
    ·rename_i e
     subst e
     have:=Q1 _ _ hr
     rw[r1] at this
     cases this
     exact⟨[(ns.length:Int)],rfl⟩
    ·exact⟨[],by rw[Q1 _ _ hr,List.append_nil]⟩
   old:=fun b hb=>by
    rw[hq',if_neg (by omega)]
    cases h:ix q b with
    |some r=>exact Q1 _ _ h
    |none=>
     cases h2:ix q1 b with
     |none=>rfl
     |some r=>
      rcases Q2 _ _ h2 with k|⟨_,k1,k2⟩
      ·rw[h] at k;cases k
      ·omega
   len:=by simp only[lS];omega
   psi:=by simp only[lS];omega
   pend:=fun r hr=>by
    rw[hq']
    have h1:=Q1 _ _ hr
    split
    ·rename_i e
     subst e
     rw[r1] at h1
     cases h1
     exact⟨_,rfl,by simp;omega⟩
    ·exact⟨r,h1,by omega⟩
   nsl:=by simp only[List.length_append,List.length_singleton];omega}
theorem Chn.len{ns:List d6}{i:Int}{st:Li}(h:Chn ns i st):st.length≤(i+1).toNat:=by
 induction h with
 |root h=>simp
 |op h ho hf hc ih=>
  have:=o7 h
  simp only[List.length_append,List.length_singleton]
  omega
 |no h ho hf hc ih=>
  have:=o7 h
  omega
theorem steps_loop{ns:List d6}(hN:ns.length≤4000000000){i:Int}{st:Li}(h:Chn ns i st):∀acc:Li,acc.length+st.length≤4000000000→∃k,E6 (u4 ns) k (acc,i)=some (acc++st.reverse):=by
 induction h with
 |root h=>
  intro acc _
  refine⟨1,?_⟩
  simp only[E6,u4]
  rw[if_neg (by omega)]
  simp
 |@op i n st h ho hf hc ih=>
  intro acc hl
  simp only[List.length_append,List.length_singleton] at hl
  obtain⟨k,hk⟩:=ih (acc++[n.op]) (by simp;omega)
  refine⟨k+1,?_⟩
  have ha:app 8 acc [n.op]=some (acc++[n.op]):=by rw[app,if_pos (by simp;omega)]
  have:=o7 h
  simp only[E6,u4]
  rw[if_pos (by omega),h]
  simp only[oB]
  rw[if_pos ho,ha]
  simp only[oB]
  rw[hk]
  simp
 |@no i n st h ho hf hc ih=>
  intro acc hl
  obtain⟨k,hk⟩:=ih acc hl
  refine⟨k+1,?_⟩
  have:=o7 h
  simp only[E6,u4]
  rw[if_pos (by omega),h]
  simp only[oB]
  rw[if_neg (by omega)]
  simp only[oB]
  exact hk
theorem steps_spec{t:d4}{plan:Li}{ns:List d6}{q:LL}{m:Mp'}(hN:ns.length≤2100000000){i:Int}{st:Li}(h:Chn ns i st)(hi:i<ns.length):B7 i t plan ns q m=some st:=by
 have hl:=h.len
 obtain⟨k,hk⟩:=steps_loop (by omega) h [] (by simp;omega)
 unfold B7
 rw[W0.2 ⟨k,hk⟩]
 simp
end Ab
end
section
namespace Ab
open Go
structure Hd(t:d4)(plan:Li)(m:Mp')(n:d6):Prop where
 goal:n.fat=plan.length→¬ ∀x ∈ t.goal,x ∈ n.fs
 keep:∀op,ix plan n.fat=some op→can t n.fs op→Sat m (aft t n.fs op) (n.fat+1) n.change
 skip:n.fat<plan.length→Sat m n.fs (n.fat+1) (n.change+1)
 ins:∀op:Int,0≤op→op<t.operators.length→can t n.fs op→Sat m (aft t n.fs op) n.fat (n.change+1)
theorem Hd.mono{t:d4}{plan:Li}{c:Int}{m m':Mp'}{ns ns':List d6}{q q':LL}{n:d6}(h:Hd t plan m n)(hs:Stp c m ns q m' ns' q'):Hd t plan m' n:=
 ⟨h.goal,fun op h1 h2=>hs.keep (h.keep op h1 h2),fun h1=>hs.keep (h.skip h1),fun op h0 h1 h2=>hs.keep (h.ins op h0 h1 h2)⟩
structure Rd(t:d4)(plan:Li)(c:Int)(m:Mp')(ns:List d6)(q:LL):Prop where
 bs:Bs t plan c m ns q
 nb:ns.length+pot c m≤2 * univ.length
 ql:c<q.length
theorem Sat.le{m:Mp'}{s:Li}{a d d':Int}(h:Sat m s a d)(hd:d≤d'):Sat m s a d':=by
 obtain⟨v,h1,h2⟩:=h
 exact⟨v,h1,by omega⟩
theorem take_next{plan:Li}{a op:Int}(h:ix plan a=some op):plan.take (a+1).toNat=plan.take a.toNat++[op]:=by
 obtain⟨h0,h1,h2⟩:=o7 h
 rw[show(a+1).toNat=a.toNat+1 by omega,List.take_add_one,h2];rfl
theorem way_keep{t:d4}{plan st:Li}(hp:T0 t plan){n:d6}(h:Way t plan st n){op:Int}(hop:ix plan n.fat=some op)(hc:can t n.fs op)(i:Int):Way t plan (st++[op]) ⟨aft t n.fs op,n.fat+1,i,op,n.change⟩:=by
 obtain⟨h1,h2,h3⟩:=h
 refine⟨fun x hx=> ?_,?_,?_⟩
 ·rcases List.mem_append.1 hx with hx|hx
  ·exact h1 x hx
  ·simp only[List.mem_singleton] at hx;subst hx;exact hp.2 _ (s7 hop)
 ·rw[Y4,h2]
  simp only[oB,ends]
  rw[if_pos (m4 hc)]
 ·show Ed n.change.toNat (plan.take (n.fat+1).toNat) (st++[op])
  rw[take_next hop]
  exact h3.keepR op
theorem way_skip{t:d4}{plan st:Li}{n:d6}(h:Way t plan st n)(hch:0≤n.change){op:Int}(hop:ix plan n.fat=some op)(i:Int):Way t plan st ⟨n.fs,n.fat+1,i, -1,n.change+1⟩:=by
 obtain⟨h1,h2,h3⟩:=h
 refine⟨h1,h2,?_⟩
 show Ed (n.change+1).toNat (plan.take (n.fat+1).toNat) st
 rw[take_next hop,show(n.change+1).toNat=n.change.toNat+1 by omega]
 exact h3.delR op
theorem way_ins{t:d4}{plan st:Li}{n:d6}(h:Way t plan st n)(hch:0≤n.change){op:Int}(h0:0≤op)(hl:op<t.operators.length)(hc:can t n.fs op)(i:Int):Way t plan (st++[op]) ⟨aft t n.fs op,n.fat,i,op,n.change+1⟩:=by
 obtain⟨h1,h2,h3⟩:=h
 refine⟨fun x hx=> ?_,?_,?_⟩
 ·rcases List.mem_append.1 hx with hx|hx
  ·exact h1 x hx
  ·simp only[List.mem_singleton] at hx;subst hx;exact⟨h0,hl⟩
 ·rw[Y4,h2]
  simp only[oB,ends]
  rw[if_pos (m4 hc)]
 ·show Ed (n.change+1).toNat (plan.take n.fat.toNat) (st++[op])
  rw[show(n.change+1).toNat=n.change.toNat+1 by omega]
  exact h3.insR op
theorem add_rd{t:d4}(ht:i9 t){plan:Li}(hp:T0 t plan){c:Int}(hc:0≤c){m:Mp'}{ns:List d6}{q:LL}(h:Rd t plan c m ns q)
  {nv:d6} (hn:NodeOk t plan nv) (hch:nv.change=c∨nv.change=c+1) (hW:∃st,Chn ns nv.ffrom st∧nv.ffrom<ns.length∧Way t plan (if 0≤nv.op then st++[nv.op] else st) nv):
  ∃m' ns' q',m9 nv t plan ns q m=some (m',ns',q')∧Rd t plan c m' ns' q'∧Stp c m ns q m' ns' q'∧Sat m' nv.fs nv.fat nv.change:=by
 have:=h.ql
 obtain⟨m',ns',q',h1,h2,h3,h4⟩:=add_spec ht hp.1 hc h.bs h.nb hn hch (by omega) hW
 refine⟨m',ns',q',h1,⟨h2,?_,?_⟩,h3,h4⟩
 ·have:=h.nb;have:=h3.nsl;omega
 ·have:=h3.len;omega
theorem Rd.small{t:d4}{plan:Li}{c:Int}{m:Mp'}{ns:List d6}{q:LL}(h:Rd t plan c m ns q):c<2100000000∧ns.length≤2100000000:=by
 have:=h.nb;have:=h.ql;have:=h.bs.ql;have:=univ_len
 omega
theorem expand_tail{t:d4}(ht:i9 t){plan:Li}(hp:T0 t plan){c:Int}(hc:0≤c){m:Mp'}{ns:List d6}{q:LL}(h:Rd t plan c m ns q){i:Int}{n:d6}(hi:ix ns i=some n)(hnc:n.change=c):
  ∃m' ns' q',x5 i t plan n m ns q=some (m',ns',q')∧Rd t plan c m' ns' q'∧Stp c m ns q m' ns' q'∧∀op:Int,0≤op→op<t.operators.length→can t n.fs op→Sat m' (aft t n.fs op) n.fat (n.change+1):=by
 obtain⟨hok,_,st,hch,hway⟩:=h.bs.node i n hi
 have hsm:=h.small
 unfold x5
 obtain⟨⟨m',ns',q'⟩,h1,h2,h3,h4⟩:=J8 (body:=C0 i t plan n) (n:=(t.operators.length:Int)) (s:=(m,ns,q))
  (fun j s=>Rd t plan c s.1 s.2.1 s.2.2∧Stp c m ns q s.1 s.2.1 s.2.2∧∀op:Int,0≤op→op<j→can t n.fs op→Sat s.1 (aft t n.fs op) n.fat (n.change+1)) (by omega) ⟨h,.refl ..,fun op g0 g1=>by omega⟩
  (fun j s j0 j1 hP=>by
   obtain⟨m1,ns1,q1⟩:=s
   obtain⟨g1,g2,g3⟩:=hP
   simp only at g1 g2 g3
   unfold C0
   simp only[can_eq ht j0 j1 hok.set,next_eq ht j0 j1 hok.set,oB]
   by_cases hcan:can t n.fs j
   ·rw[if_pos (m4 hcan),x8 (by omega) (by omega)]
    have hs1:=g1.small
    obtain⟨m2,ns2,q2,k1,k2,k3,k4⟩:=add_rd ht hp hc g1 (nv:=⟨aft t n.fs j,n.fat,i,j,n.change+1⟩) ⟨R9 _ _ _,hok.at0,hok.at1,by simp only;omega⟩ (by simp only;omega)
     ⟨st,hch.mono g2.nst,by have:=o7 (g2.nst i n hi);exact this.2.1,by simp only;rw[if_pos j0];exact way_ins hway hok.ch0 j0 j1 hcan i⟩
    rw[k1]
    refine⟨(m2,ns2,q2),rfl,k2,g2.trans k3,fun op o0 o1 ho=> ?_⟩
    by_cases e:op=j
    ·subst e;exact k4
    ·exact k3.keep (g3 op o0 (by omega) ho)
   ·rw[if_neg (by rw[k7];exact hcan)]
    refine⟨(m1,ns1,q1),rfl,g1,g2,fun op o0 o1 ho=> ?_⟩
    by_cases e:op=j
    ·subst e;exact absurd ho hcan
    ·exact g3 op o0 (by omega) ho)
 rw[h1]
 exact⟨m',ns',q',rfl,h2,h3,h4⟩
theorem expand_spec{t:d4}(ht:i9 t){plan:Li}(hp:T0 t plan){c:Int}(hc:0≤c){m:Mp'}{ns:List d6}{q:LL}(h:Rd t plan c m ns q){i:Int}{n:d6}(hi:ix ns i=some n)(hnc:n.change=c)(hg:n.fat=plan.length→¬ ∀x ∈ t.goal,x ∈ n.fs):
  ∃m' ns' q',A8 i t plan ns q m=some (m',ns',q')∧Rd t plan c m' ns' q'∧Stp c m ns q m' ns' q'∧Hd t plan m' n:=by
 obtain⟨hok,_,st,hch,hway⟩:=h.bs.node i n hi
 have hsm:=h.small
 have h60:=hp.1
 have hat0:=hok.at0
 have hat1:=hok.at1
 have fin:∀{m1:Mp'} {ns1:List d6} {q1:LL},Rd t plan c m1 ns1 q1→Stp c m ns q m1 ns1 q1→(∀op,ix plan n.fat=some op→can t n.fs op→Sat m1 (aft t n.fs op) (n.fat+1) n.change)→(n.fat<plan.length→Sat m1 n.fs (n.fat+1) (n.change+1))→
   ∃m' ns' q',(Option.bind (H0 t n.fs) fun a75=>Option.bind (x5 i t plan n m1 ns1 q1) fun⟨c71,c72,c73⟩=>some (c71,c72,c73))=some (m',ns',q')∧Rd t plan c m' ns' q'∧Stp c m ns q m' ns' q'∧Hd t plan m' n:=fun {m1 ns1 q1} g1 g2 g3 g4=>by
  obtain⟨m',ns',q',k1,k2,k3,k4⟩:=expand_tail ht hp hc g1 (g2.nst i n hi) hnc
  rw[H0]
  simp only[oB,k1]
  exact⟨m',ns',q',rfl,k2,g2.trans k3,hg,fun op o1 o2=>k3.keep (g3 op o1 o2),fun o=>k3.keep (g4 o),k4⟩
 unfold A8
 rw[hi]
 simp only[oB]
 by_cases c1:n.fat<(plan.length:Int)
 ·rw[if_pos c1]
  obtain⟨op,hop,_⟩:=n5 (l:=plan) hat0 c1
  have hv:=hp.2 op (s7 hop)
  rw[x8 (n:=n.fat+1) (by omega) (by omega),x8 (n:=n.change+1) (by omega) (by omega)]
  simp only[hop,oB,can_eq ht hv.1 hv.2 hok.set,next_eq ht hv.1 hv.2 hok.set]
  have skip:∀{m1:Mp'} {ns1:List d6} {q1:LL},Rd t plan c m1 ns1 q1→Stp c m ns q m1 ns1 q1→∃m' ns' q',m9 ⟨n.fs,n.fat+1,i, -1,n.change+1⟩ t plan ns1 q1 m1=some (m',ns',q')∧Rd t plan c m' ns' q'∧Stp c m1 ns1 q1 m' ns' q'∧Sat m' n.fs (n.fat+1) (n.change+1):=fun {m1 ns1 q1} g1 g2=>
   add_rd ht hp hc g1 (nv:=⟨n.fs,n.fat+1,i, -1,n.change+1⟩) ⟨hok.set,by simp only;omega,by simp only;omega,by simp only;omega⟩ (by simp only;omega)
    ⟨st,hch.mono g2.nst,(o7 (g2.nst i n hi)).2.1,by simp only;rw[if_neg (by omega)];exact way_skip hway hok.ch0 hop i⟩
  by_cases hcan:can t n.fs op
  ·rw[if_pos (m4 hcan)]
   obtain⟨m1,ns1,q1,k1,k2,k3,k4⟩:=add_rd ht hp hc h (nv:=⟨aft t n.fs op,n.fat+1,i,op,n.change⟩) ⟨R9 _ _ _,by simp only;omega,by simp only;omega,hok.ch0⟩ (by simp only;omega)
    ⟨st,hch,(o7 hi).2.1,by simp only;rw[if_pos hv.1];exact way_keep hp hway hop hcan i⟩
   obtain⟨m2,ns2,q2,l1,l2,l3,l4⟩:=skip k2 k3
   simp only[k1,l1,oB]
   exact fin l2 (k3.trans l3) (fun op' o1 o2=>by rw[hop] at o1;cases o1;exact l3.keep k4) (fun _=>l4)
  ·rw[if_neg (by rw[k7];exact hcan)]
   obtain⟨m2,ns2,q2,l1,l2,l3,l4⟩:=skip h (.refl ..)
   simp only[l1,oB]
   exact fin l2 l3 (fun op' o1 o2=>by rw[hop] at o1;cases o1;exact absurd o2 hcan) (fun _=>l4)
 ·rw[if_neg c1]
  simp only[oB]
  exact fin h (.refl ..) (fun op' o1 _=>by have:=o7 o1;omega) (fun o=>absurd o c1)
theorem sat_ed{t:d4}{plan:Li}{c C:Int}{m:Mp'}{ns:List d6}{q:LL}(hB:Bs t plan c m ns q)(hall:∀i n,ix ns i=some n→n.change<C→Hd t plan m n)
  {k:Nat} {A B:Li} (h:Ed k A B):∀{s e:Li} {a d:Int},Sat m s a d→SetN s t.facts→0≤a→0≤d→(∃R,plan.drop a.toNat=A++R)→a+A.length≤plan.length→(∀x ∈ B,(0:Int)≤x∧x<t.operators.length)→ends t s B=some e→d+k<C→Sat m e (a+A.length) (d+k):=by
 have node:∀{s:Li} {a d:Int},Sat m s a d→SetN s t.facts→0≤a→a≤plan.length→d<C→∃n,Hd t plan m n∧n.fs=s∧n.fat=a∧n.change≤d:=fun {s a d} ⟨v,h1,h2⟩ hs h0 hl hd=>by
  obtain⟨i,n,g1,g2,g3,g4⟩:=hB.m2 s a v hs h0 hl h1
  exact⟨n,hall i n g1 (by omega),g2,g3,by omega⟩
 induction h with
 |nil=>
  intro s e a d hS hs h0 hd _ _ _ he _
  simp only[ends,Option.some.injEq] at he
  subst he
  simpa using hS
 |@keep k x A B h ih=>
  intro s e a d hS hs h0 hd hR hl hv he hC
  obtain⟨R,hR⟩:=hR
  simp only[List.length_cons] at hl ⊢
  obtain⟨n,g1,rfl,rfl,g4⟩:=node hS hs h0 (by omega) (by omega)
  have hx:ix plan n.fat=some x:=by
   rw[show n.fat=((n.fat.toNat:Nat):Int) by omega,M8]
   have:=congrArg (fun l=>l[0]?) hR
   simpa using this
  simp only[ends] at he
  split at he
  ·rename_i hc
   have hS2:=(g1.keep x hx (k7.1 hc)).le g4
   have:=ih hS2 (R9 _ _ _) (by omega) hd ⟨R,by
    rw[show(n.fat+1).toNat=n.fat.toNat+1 by omega,← List.drop_drop,hR];rfl⟩ (by omega) (fun y hy=>hv y (List.mem_cons_of_mem _ hy)) he hC
   rw[show n.fat+((A.length+1:Nat):Int)=n.fat+1+A.length by omega]
   exact this
  ·cases he
 |@del k x A B h ih=>
  intro s e a d hS hs h0 hd hR hl hv he hC
  obtain⟨R,hR⟩:=hR
  simp only[List.length_cons] at hl ⊢
  obtain⟨n,g1,rfl,rfl,g4⟩:=node hS hs h0 (by omega) (by omega)
  have hS2:=(g1.skip (by omega)).le (d':=d+1) (by omega)
  have:=ih hS2 hs (by omega) (by omega) ⟨R,by
    rw[show(n.fat+1).toNat=n.fat.toNat+1 by omega,← List.drop_drop,hR];rfl⟩ (by omega) hv he (by omega)
  rw[show n.fat+((A.length+1:Nat):Int)=n.fat+1+A.length by omega,show d+((k+1:Nat):Int)=d+1+k by omega]
  exact this
 |@ins k y A B h ih=>
  intro s e a d hS hs h0 hd hR hl hv he hC
  obtain⟨n,g1,rfl,rfl,g4⟩:=node hS hs h0 (by omega) (by omega)
  have hvy:=hv y List.mem_cons_self
  simp only[ends] at he
  split at he
  ·rename_i hc
   have hS2:=(g1.ins y hvy.1 hvy.2 (k7.1 hc)).le (d':=d+1) (by omega)
   have:=ih hS2 (R9 _ _ _) h0 (by omega) hR hl (fun y hy=>hv y (List.mem_cons_of_mem _ hy)) he (by omega)
   rw[show d+((k+1:Nat):Int)=d+1+k by omega]
   exact this
  ·cases he
theorem none_nearer{t:d4}(hi:SetN t.init t.facts){plan:Li}{c C:Int}{m:Mp'}{ns:List d6}{q:LL}(hB:Bs t plan c m ns q)(hall:∀i n,ix ns i=some n→n.change<C→Hd t plan m n)(h0:Sat m t.init 0 0)
  {st:Li} (hv:∀x ∈ st,(0:Int)≤x∧x<t.operators.length) (hw:H6 t t.init st):C≤dm plan st:=by
 obtain⟨e,h1,h2⟩:=hw
 rcases Int.lt_or_le (dm plan st:Int) C with h|h
 ·exfalso
  have hS:=sat_ed hB hall (dm_ed plan st) h0 hi (Int.le_refl 0) (Int.le_refl 0) ⟨[],by simp⟩ (by omega) hv h1 (by omega)
  obtain⟨v,g1,g2⟩:=hS
  obtain⟨i,n,k1,k2,k3,k4⟩:=hB.m2 e _ v (ends_setN hi h1) (by omega) (by omega) g1
  refine(hall i n k1 (by omega)).goal (by omega) ?_
  rw[k2];exact h2
 ·exact h
structure Found(t:d4)(plan st:Li)(d:Int):Prop where
 ok:∀x ∈ st,(0:Int)≤x∧x<t.operators.length
 sol:H6 t t.init st
 d0:0≤d
 ed:Ed d.toNat plan st
 low:∀other,(∀x ∈ other,(0:Int)≤x∧x<t.operators.length)→H6 t t.init other→d≤dm plan other
theorem Found.dist{t:d4}{plan st:Li}{d:Int}(h:Found t plan st d):(dm plan st:Int)=d:=by
 have h1:=h.low st h.ok h.sol
 have h2:=dm_le h.ed
 have:=h.d0
 omega
def Res(t:d4)(plan:Li)(o:Li×Int×Bool×i5):Prop:=
 ∃st d,Found t plan st d∧((st.length≤60∧o=(st,d,true,⟨0,0⟩))∨(60<st.length∧o=([],0,false,⟨10, -5⟩)))
theorem Bs.next{t:d4}{plan:Li}{c:Int}{m:Mp'}{ns:List d6}{q:LL}(h:Bs t plan c m ns q):Bs t plan (c+1) m ns q:=
 {h with
  node:=fun i n hi=>by obtain⟨h1,h2,h3⟩:=h.node i n hi;exact⟨h1,by omega,h3⟩
  vl:=fun p hp=>by have:=h.vl p hp;omega}
def allHd(t:d4)(plan:Li)(c:Int)(m:Mp')(ns:List d6):Prop:=∀i n,ix ns i=some n→n.change<c→Hd t plan m n
theorem allHd.step{t:d4}{plan:Li}{c:Int}{m m':Mp'}{ns ns':List d6}{q q':LL}(h:allHd t plan c m ns)(hB:Bs t plan c m ns q)(hB':Bs t plan c m' ns' q')(hs:Stp c m ns q m' ns' q'):allHd t plan c m' ns':=fun i n hi hl=>by
 obtain⟨row,p,g1,g2⟩:=hB'.qn i n hi
 rw[hs.old _ hl] at g1
 obtain⟨n0,k1,k2⟩:=hB.qs _ _ g1 i (s7 g2)
 have:=hs.nst i n0 k1
 rw[hi] at this
 cases this
 exact(h i n k1 hl).mono hs
theorem plan_inner{t:d4}(ht:i9 t){plan:Li}(hp:T0 t plan){c:Int}(hc:0≤c){m:Mp'}{ns:List d6}{q:LL}(h:Rd t plan c m ns q)(hall:allHd t plan c m ns)(hsat:Sat m t.init 0 0):
  ∃o,Loop (Q9 t plan c) (m,ns,q,0)=some o∧((∃m' ns' q',o=.inl (m',ns',q')∧Rd t plan c m' ns' q'∧allHd t plan (c+1) m' ns'∧Sat m' t.init 0 0∧q'.length+pot c m'≤q.length+pot c m)∨∃x,o=.inr x∧Res t plan x):=by
 have hsm:=h.small
 refine Q3 (body:=Q9 t plan c) (s:=(m,ns,q,0))
  (fun s=>Rd t plan c s.1 s.2.1 s.2.2.1∧allHd t plan c s.1 s.2.1∧Sat s.1 t.init 0 0∧s.2.2.1.length+pot c s.1≤q.length+pot c m∧0≤s.2.2.2∧
   ∀row,ix s.2.2.1 c=some row→s.2.2.2≤row.length∧∀p i n,p<s.2.2.2→ix row p=some i→ix s.2.1 i=some n→Hd t plan s.1 n)
  (fun o=>(∃m' ns' q',o=.inl (m',ns',q')∧Rd t plan c m' ns' q'∧allHd t plan (c+1) m' ns'∧Sat m' t.init 0 0∧q'.length+pot c m'≤q.length+pot c m)∨∃x,o=.inr x∧Res t plan x)
  (fun s=>((ix s.2.2.1 c).getD []).length+pot c s.1 - s.2.2.2.toNat) ⟨h,hall,hsat,Nat.le_refl _,Int.le_refl _,fun row _=>⟨by simp only;omega,fun p i n hp' hi=>by have:=o7 hi;simp only at hp';omega⟩⟩
  (fun s hP=> ?_)
 obtain⟨m1,ns1,q1,j⟩:=s
 obtain⟨h1,h2,h3,h4,h5,h6⟩:=hP
 simp only at h1 h2 h3 h4 h5 h6
 have hs1:=h1.small
 obtain⟨row,hrow,_⟩:=n5 (l:=q1) hc h1.ql
 obtain⟨g1,g2⟩:=h6 row hrow
 have hrl:=h1.bs.rl _ _ hrow
 unfold Q9
 simp only[hrow,oB]
 by_cases cj:j<(row.length:Int)
 ·rw[if_pos cj]
  obtain⟨i,hi,_⟩:=n5 (l:=row) h5 cj
  obtain⟨n,hn,hnc⟩:=h1.bs.qs _ _ hrow i (s7 hi)
  obtain⟨hok,_,st,hch,hway⟩:=h1.bs.node i n hn
  simp only[hi,oB,hn]
  have htest:(if n.fat=(plan.length:Int) then Option.bind (C3 n.fs t.goal) fun a92=>some a92 else some false)=some (dec (n.fat=plan.length∧∀x ∈ t.goal,x ∈ n.fs)):=by
   by_cases e:n.fat=(plan.length:Int)
   ·rw[if_pos e,an6 hok.set.1 ht.goal.1 (by have:=hok.set.len;have:=ht.n1;omega)]
    exact congrArg some (L9 ⟨fun g=>⟨e,g⟩,fun g=>g.2⟩)
   ·rw[if_neg e,B6 (fun g=>e g.1)]
  rw[htest]
  simp only[oB]
  by_cases cg:n.fat=plan.length∧∀x ∈ t.goal,x ∈ n.fs
  ·rw[if_pos (m4 cg),steps_spec hs1.2 hch (o7 hn).2.1]
   simp only[oB]
   have hF:Found t plan st c:={
    ok:=hway.1
    sol:=⟨n.fs,hway.2.1,cg.2⟩
    d0:=hc
    ed:=by
     have:=hway.2.2
     rw[hnc,cg.1] at this
     simpa using this
    low:=fun other ho hw=>none_nearer ht.init h1.bs h2 h3 ho hw}
   right
   by_cases c60:(60:Int)<st.length
   ·rw[if_pos c60]
    exact⟨_,rfl,.inr ⟨_,rfl,st,c,hF,.inr ⟨by omega,rfl⟩⟩⟩
   ·rw[if_neg c60]
    exact⟨_,rfl,.inr ⟨_,rfl,st,c,hF,.inl ⟨by omega,rfl⟩⟩⟩
  ·rw[if_neg (by rw[k7];exact cg)]
   obtain⟨m2,ns2,q2,k1,k2,k3,k4⟩:=expand_spec ht hp hc h1 hn hnc (fun e g=>cg ⟨e,g⟩)
   rw[k1,x8 (by omega) (by omega)]
   simp only[oB]
   left
   obtain⟨row2,r1,r2⟩:=k3.pend row hrow
   refine⟨(m2,ns2,q2,j+1),rfl,⟨k2,h2.step h1.bs k2.bs k3,k3.keep h3,by have:=k3.psi;simp only;omega,by simp only;omega,fun row' hr'=> ?_⟩,?_⟩
   ·obtain⟨e,he⟩:=k3.row c row hrow
    simp only at hr' ⊢
    rw[he] at hr'
    cases hr'
    refine⟨by simp;omega,fun p i' n' hp' hi' hn'=> ?_⟩
    have hp0:=(o7 hi').1
    obtain⟨i2,hi2,_⟩:=n5 (l:=row) hp0 (by omega)
    have e2:ix (row++e) p=ix row p:=by
     rw[show p=((p.toNat:Nat):Int) by omega,M8,M8,List.getElem?_append_left (by omega)]
    rw[e2,hi2] at hi'
    cases hi'
    obtain⟨n2,hn2,_⟩:=h1.bs.qs _ _ hrow i' (s7 hi2)
    have:=k3.nst _ _ hn2
    rw[hn'] at this
    cases this
    by_cases ep:p=j
    ·subst ep
     rw[hi] at hi2
     cases hi2
     rw[hn] at hn2
     cases hn2
     exact k4
    ·exact(g2 p i' n' (by omega) hi2 hn2).mono k3
   ·simp only[r1,hrow,Option.getD_some]
    omega
 ·rw[if_neg cj]
  right
  refine⟨_,rfl,.inl ⟨m1,ns1,q1,rfl,h1,fun i n hi hl=> ?_,h3,h4⟩⟩
  by_cases e:n.change=c
  ·obtain⟨r,p,k1,k2⟩:=h1.bs.qn i n hi
   rw[e,hrow] at k1
   cases k1
   exact g2 p i n (by have:=o7 k2;omega) k2 hi
  ·exact h2 i n hi (by omega)
theorem plan_outer{t:d4}(ht:i9 t){plan:Li}(hp:T0 t plan){m:Mp'}{ns:List d6}{q:LL}(h:Rd t plan 0 m ns q)(hsat:Sat m t.init 0 0):
  ∃o,Loop (R0 t plan) (m,ns,q,0)=some o∧((o=.inl ()∧∀st,(∀x ∈ st,(0:Int)≤x∧x<t.operators.length)→¬ H6 t t.init st)∨∃x,o=.inr x∧Res t plan x):=by
 refine Q3 (body:=R0 t plan) (s:=(m,ns,q,0))
  (fun s=>0≤s.2.2.2∧s.2.2.2≤s.2.2.1.length∧Bs t plan s.2.2.2 s.1 s.2.1 s.2.2.1∧s.2.1.length+pot s.2.2.2 s.1≤2 * univ.length∧allHd t plan s.2.2.2 s.1 s.2.1∧Sat s.1 t.init 0 0)
  (fun o=>(o=.inl ()∧∀st,(∀x ∈ st,(0:Int)≤x∧x<t.operators.length)→¬ H6 t t.init st)∨∃x,o=.inr x∧Res t plan x)
  (fun s=>s.2.2.1.length+pot s.2.2.2 s.1 - s.2.2.2.toNat) ⟨Int.le_refl _,by simp only;omega,h.bs,h.nb,fun i n hi hl=>by have:=(h.bs.node i n hi).1.ch0;simp only at hl;omega,hsat⟩ (fun s hP=> ?_)
 obtain⟨m1,ns1,q1,c⟩:=s
 obtain⟨h1,h2,h3,h4,h5,h6⟩:=hP
 simp only at h1 h2 h3 h4 h5 h6
 unfold R0
 dsimp only
 by_cases cq:c<(q1.length:Int)
 ·rw[if_pos cq]
  obtain⟨o,g1,g2⟩:=plan_inner ht hp h1 ⟨h3,h4,cq⟩ h5 h6
  rw[g1]
  rcases g2 with⟨m2,ns2,q2,rfl,k1,k2,k3,k4⟩|⟨x,rfl,hx⟩
  ·left
   have:=k1.small
   refine⟨(m2,ns2,q2,c+1),by simp only[oB];rw[x8 (by omega) (by omega)],⟨by simp only;omega,?_,k1.bs.next,?_,k2,k3⟩,?_⟩
   ·have:=k1.ql;simp only;omega
   ·have:=k1.nb
    have:=late_mono (c:=c) (c':=c+1) (by omega) m2
    simp only[pot] at *
    omega
   ·have:=late_mono (c:=c) (c':=c+1) (by omega) m2
    simp only[pot] at *
    omega
  ·right
   exact⟨_,rfl,.inr ⟨x,rfl,hx⟩⟩
 ·rw[if_neg cq]
  right
  refine⟨_,rfl,.inl ⟨rfl,fun st hv hw=> ?_⟩⟩
  have hall:∀i n,ix ns1 i=some n→n.change<((dm plan st:Nat):Int)+1→Hd t plan m1 n:=fun i n hi _=>h5 i n hi (by
   obtain⟨r,p,k1,_⟩:=h3.qn i n hi
   have:=o7 k1
   omega)
  have:=none_nearer ht.init h3 hall h6 hv hw
  omega
end Ab
end
section
namespace Ab
open Go
theorem kone_eq{s:Li}(hs:small s)(h1:s.length≤1000):y5 [s]=some (keyK [s]):=by
 refine key_eq (by simp[hs]) ?_
 have:=aq7 s
 simp only[encK,List.flatMap_cons,List.flatMap_nil,List.append_nil]
 omega
theorem kone_inj{t:d4}(ht:i9 t){s s':Li}(h:SetN s t.facts)(h':SetN s' t.facts)(e:keyK [s]=keyK [s']):s=s':=by
 have:=keyK_inj (fun x hx=>by simp at hx;subst hx;exact R7 ht h) (fun x hx=>by simp at hx;subst hx;exact R7 ht h') e
 simpa using this
theorem containsAny_eq{l:LL}{f:Li→Option Bool}{p:Li→Prop}(h:∀x ∈ l,f x=some (dec (p x))):y8 l f=some (dec (∃x ∈ l,p x)):=by
 unfold y8 H9
 rcases U8 (body:=E8 l f) (n:=(l.length:Int)) (fun j=>if dec (∃x,ix l j=some x∧p x)=true then some j else none) (by omega) (fun j h0 h1 _=>by
  obtain⟨x,hx,_⟩:=n5 (l:=l) h0 h1
  unfold E8
  simp only[hx,oB,h x (s7 hx)]
  by_cases e:p x
  ·rw[ifP e,ifP ⟨x,rfl,e⟩]
  ·rw[ifN e,ifN (by rintro ⟨z,hz,hp⟩;cases hz;exact e hp)]) with⟨h1,h2⟩|⟨j,o,h0,h1,h2,h3,h4⟩
 ·rw[h1]
  simp only[oB]
  rw[B6]
  ·rfl
  ·rintro ⟨x,hx,hp⟩
   obtain⟨i,i0,i1,hi⟩:=C5 hx
   have:=h2 i i0 i1
   rw[ifP ⟨x,hi,hp⟩] at this
   cases this
 ·rw[h4]
  split at h2
  ·rename_i e
   cases h2
   simp only[oB]
   obtain⟨x,hx,hp⟩:=k7.1 e
   rw[m4 ⟨x,s7 hx,hp⟩,decide_eq_true h0]
  ·cases h2
theorem aq3{s pre:Li}(hs:Inc s)(hp:Inc pre)(hl:s.length≤1000000):M0 [s] pre=some (dec (∀x ∈ pre,x ∈ s)):=by
 unfold M0
 rw[containsAny_eq (p:=fun y=>¬ ∀x ∈ pre,x ∈ y) (fun x hx=>by
  simp only[List.mem_singleton] at hx
  subst hx
  unfold aa2
  rw[an6 hs hp hl]
  simp only[oB,N9])]
 simp only[oB,N9]
 refine congrArg some (L9 ⟨fun h=>Classical.byContradiction fun g=>h ⟨s,by simp,g⟩,fun h=> ?_⟩)
 rintro ⟨x,hx,hn⟩
 simp only[List.mem_singleton] at hx
 subst hx
 exact hn h
theorem after_one{t:d4}(ht:i9 t){s:Li}(hs:SetN s t.facts){op:Int}(h0:0≤op)(h1:op<t.operators.length):I3 t [s] op=some [aft t s op]:=by
 have e:forR 0 (([s]:LL).length:Int) (P8 t [s] op) []=some [aft t s op]:=by
  show forN (P8 t [s] op) 1 0 []=_
  simp only[forN]
  have e0:ix [s] 0=some s:=rfl
  have e1:app 24 ([]:LL) [aft t s op]=some [aft t s op]:=rfl
  unfold P8
  simp only[e0,oB,next_eq ht h0 h1 hs,e1]
 unfold I3
 rw[e]
 simp only[oB]
 obtain⟨r,r1,r2,r3,_⟩:=normal_eq (l:=[aft t s op]) (by simp)
 rw[r1]
 simp only[oB]
 rw[Ord.ext r2 (by simp) r3]
structure Bq(t:d4)(l:LL)(m:Mp')(qu:List d8):Prop where
 node:qu.map (·.node)=l.map (fun s=>[s])
 nd:l.Nodup
 rt:∀s ∈ l,Rt t s
 map:∀s,SetN s t.facts→(0<(mget m (keyK [s])).getD 0↔s ∈ l)
 len:l.length≤2000
theorem Bq.ql{t:d4}{l:LL}{m:Mp'}{qu:List d8}(h:Bq t l m qu):qu.length=l.length:=by
 have:=congrArg List.length h.node
 simpa using this
theorem Bq.at{t:d4}{l:LL}{m:Mp'}{qu:List d8}(h:Bq t l m qu){i:Int}{e:d8}(hi:ix qu i=some e):∃s,ix l i=some s∧e.node=[s]:=by
 obtain⟨h0,h1,h2⟩:=o7 hi
 have hg:=congrArg (fun l=>l[i.toNat]?) h.node
 simp only[lM,h2,Option.map_some] at hg
 cases hs:l[i.toNat]? with
 |none=>rw[hs] at hg;cases hg
 |some s=>
  rw[hs] at hg
  simp only[Option.map_some,Option.some.injEq] at hg
  refine⟨s,?_,hg⟩
  rw[show i=((i.toNat:Nat):Int) by omega,M8]
  exact hs
theorem breadth_in{t:d4}(ht:i9 t){l:LL}{m:Mp'}{qu:List d8}(h:Bq t l m qu){c:Int}{e:d8}{s:Li}(hs:s ∈ l)(he:e.node=[s]):
  (∃l' m' qu',B5 t.facts t.init t.goal t.operators qu m c e=some (.inl (m',qu'))∧Bq t l' m' qu'∧(∃ex,l'=l++ex)∧Cls t l' s)∨(∃y,B5 t.facts t.init t.goal t.operators qu m c e=some (.inr y)∧Many t):=by
 have hsN:=(h.rt s hs).setN ht
 have h24:=ht.n1
 unfold B5
 rcases aq8 (body:=G8 t.facts t.init t.goal t.operators c e) (n:=(t.operators.length:Int)) (s:=(m,qu))
  (fun j st=>∃l',Bq t l' st.1 st.2∧(∃ex,l'=l++ex)∧∀op:Int,0≤op→op<j→can t s op→aft t s op ∈ l')
  (fun o=>∃y,o=.inr y∧Many t) (by omega) ⟨l,h,⟨[],by simp⟩,fun op o0 o1=>by omega⟩
  (fun j st j0 j1 hP=>by
   obtain⟨m1,qu1⟩:=st
   obtain⟨l1,g1,g2,g3⟩:=hP
   simp only at g1
   have hop:=ht.at j0 j1
   have hnew:=R9 t s j
   unfold G8
   simp only[aa3 j0 j1,oB,he]
   rw[aq3 hsN.1 hop.1.1.1 (by have:=hsN.len;omega)]
   simp only[oB]
   by_cases hc:can t s j
   ·rw[if_pos (m4 (show ∀x ∈ (opAt t j).pre,x ∈ s from hc))]
    have ea:I3 (⟨t.facts,t.init,t.goal,t.operators⟩:d4) [s] j=some [aft t s j]:=after_one ht hsN j0 j1
    rw[ea]
    simp only[oB,kone_eq (R7 ht hnew) (by have:=hnew.len;omega)]
    by_cases hm:aft t s j ∈ l1
    ·rw[if_pos ((g1.map _ hnew).2 hm)]
     refine .inl ⟨_,rfl,l1,g1,g2,fun op o0 o1 oc=> ?_⟩
     by_cases eo:op=j
     ·subst eo;exact hm
     ·exact g3 op o0 (by omega) oc
    ·rw[if_neg (fun hx=>hm ((g1.map _ hnew).1 hx))]
     have hrt:Rt t (aft t s j):=(h.rt s hs).step j0 j1 hc
     have hnd:(l1++[aft t s j]).Nodup:=by
      rw[List.nodup_append]
      refine⟨g1.nd,by simp,fun a ha b hb eab=> ?_⟩
      simp only[List.mem_singleton] at hb
      subst hb;subst eab;exact hm ha
     have hrs:∀y ∈ l1++[aft t s j],Rt t y:=fun y hy=>by
      rcases List.mem_append.1 hy with hy|hy
      ·exact g1.rt y hy
      ·simp only[List.mem_singleton] at hy;subst hy;exact hrt
     have hql:=g1.ql
     have hlen:=g1.len
     by_cases hq:(qu1.length:Int)=2000
     ·rw[if_pos hq]
      exact .inr ⟨_,rfl,_,rfl,l1++[aft t s j],hnd,by simp;omega,hrs⟩
     ·rw[if_neg hq]
      have ha:app 40 qu1 [(⟨[aft t s j],c,j⟩:d8)]=some (qu1++[⟨[aft t s j],c,j⟩]):=by rw[app,if_pos (by simp;omega)]
      rw[ha]
      refine .inl ⟨_,rfl,l1++[aft t s j],⟨by simp[g1.node],hnd,hrs,fun y hy=> ?_,by simp;omega⟩,?_,fun op o0 o1 oc=> ?_⟩
      ·simp only
       rw[y4]
       by_cases ek:keyK [y]=keyK [aft t s j]
       ·rw[if_pos ek,kone_inj ht hy hnew ek];simp
       ·rw[if_neg ek,g1.map y hy,List.mem_append,List.mem_singleton]
        exact⟨.inl,fun g=>g.elim id fun g=>absurd (by rw[g]) ek⟩
      ·obtain⟨ex,rfl⟩:=g2
       exact⟨ex++[aft t s j],by simp⟩
      ·by_cases eo:op=j
       ·subst eo;simp
       ·exact List.mem_append_left _ (g3 op o0 (by omega) oc)
   ·rw[if_neg (show ¬ dec (∀x ∈ (opAt t j).pre,x ∈ s)=true from fun g=>hc (k7.1 g))]
    refine .inl ⟨_,rfl,l1,g1,g2,fun op o0 o1 oc=> ?_⟩
    by_cases eo:op=j
    ·subst eo;exact absurd oc hc
    ·exact g3 op o0 (by omega) oc) with⟨⟨m',qu'⟩,h1,l',h2,h3,h4⟩|⟨o,h1,y,rfl,h2⟩
 ·left
  rw[h1]
  exact⟨l',m',qu',rfl,h2,h3,h4⟩
 ·right
  rw[h1]
  exact⟨y,rfl,h2⟩
theorem as4{t:d4}(ht:i9 t):∃b,x4 [t.init] t.facts t.init t.goal t.operators=some b∧(b=false→Many t)∧(b=true→∃l:LL,l.Nodup∧l.length≤2000∧∀s,s ∈ l↔Rt t s):=by
 have h24:=ht.n1
 unfold x4 L5
 rw[kone_eq (R7 ht ht.init) (by have:=ht.init.len;omega)]
 simp only[oB]
 obtain⟨o,h1,h2⟩:=Q3 (body:=G7 t.facts t.init t.goal t.operators) (s:=([(⟨[t.init], -1,0⟩:d8)],mset ([]:List (ByteArray×Int)) (keyK [t.init]) 1,0))
  (fun s=>∃l,Bq t l s.2.1 s.1∧t.init ∈ l∧0≤s.2.2∧s.2.2≤l.length∧∀(k:Int) (x:Li),k<s.2.2→ix l k=some x→Cls t l x)
  (fun o=>(o=.inl ()∧∃l:LL,l.Nodup∧l.length≤2000∧∀s,s ∈ l↔Rt t s)∨(o=.inr ([],false,false)∧Many t))
  (fun s=>2001 - s.2.2.toNat) ⟨[t.init],⟨rfl,by simp,fun s hs=>by simp at hs;subst hs;exact .init,fun s hs=>by
   simp only
   rw[y4]
   by_cases ek:keyK [s]=keyK [t.init]
   ·rw[if_pos ek,kone_inj ht hs ht.init ek];simp
   ·rw[if_neg ek]
    simp only[mget,Option.getD_none,List.mem_singleton]
    exact⟨fun h=>by omega,fun g=>absurd (by rw[g]) ek⟩,by simp⟩,by simp,by simp only;omega,by simp only;omega,fun k x hk hx=>by have:=o7 hx;simp only at hk;omega⟩
  (fun s hP=>by
   obtain⟨qu,m,c⟩:=s
   obtain⟨l,g1,g2,g3,g4,g5⟩:=hP
   simp only at g1 g3 g4 g5
   have hql:=g1.ql
   have hlen:=g1.len
   unfold G7
   dsimp only
   by_cases cc:c<(qu.length:Int)
   ·rw[if_pos cc]
    obtain⟨e,he,_⟩:=n5 (l:=qu) g3 cc
    obtain⟨s,hs,hn⟩:=g1.at he
    simp only[he,oB,P1,J4,H2]
    rw[if_neg (by simp)]
    rcases breadth_in ht g1 (c:=c) (s7 hs) hn with⟨l',m',qu',k1,k2,⟨ex,rfl⟩,k4⟩|⟨⟨y1,y2⟩,k1,k2⟩
    ·left
     rw[k1]
     refine⟨(qu',m',c+1),by simp only[oB];rw[x8 (by omega) (by omega)],⟨l++ex,k2,List.mem_append_left _ g2,by simp only;omega,by simp only[List.length_append];omega,fun k x hk hx=> ?_⟩,by simp only;omega⟩
     simp only at hk
     have hx0:=o7 hx
     have hx2:ix l k=some x:=by
      rw[show k=((k.toNat:Nat):Int) by omega,M8] at hx ⊢
      rwa [List.getElem?_append_left (by omega)] at hx
     by_cases ek:k=c
     ·subst ek
      rw[hs] at hx2;cases hx2
      exact k4
     ·exact fun op o0 o1 oc=>List.mem_append_left _ (g5 k x (by omega) hx2 op o0 o1 oc)
    ·right
     rw[k1]
     exact⟨_,rfl,.inr ⟨rfl,k2⟩⟩
   ·rw[if_neg cc]
    right
    refine⟨_,rfl,.inl ⟨rfl,l,g1.nd,hlen,fun s=>⟨g1.rt s,fun hs=>hs.mem g2 fun x hx=> ?_⟩⟩⟩
    obtain⟨k,k0,k1,k2⟩:=C5 hx
    exact g5 k x (by omega) k2)
 rw[h1]
 rcases h2 with⟨rfl,h2⟩|⟨rfl,h2⟩
 ·exact⟨true,rfl,by simp,fun _=>h2⟩
 ·exact⟨false,rfl,fun _=>h2,by simp⟩
theorem small_of{t:d4}(ht:i9 t){S:LL}(hS:S.length≤2000)(hm:∀s,Rt t s→s ∈ S):x4 [t.init] t.facts t.init t.goal t.operators=some true:=by
 obtain⟨b,h1,h2,_⟩:=as4 ht
 cases b with
 |true=>exact h1
 |false=>
  obtain⟨l,l1,l2,l3⟩:=h2 rfl
  have:=M1 l1 (fun s hs=>hm s (l3 s hs))
  omega
end Ab
end
section
namespace Ab
open Go
theorem bs_nil(t:d4)(plan:Li):Bs t plan 0 [] [] []:=
 have hnil:∀{α:Type} (i:Int),ix ([]:List α) i=none:=fun i=>by simp[ix]
 {node:=fun i n h=>by rw[hnil] at h;cases h
  m1:=fun i n h=>by rw[hnil] at h;cases h
  m2:=fun s a v _ _ _ h=>by cases h
  qs:=fun b row h=>by rw[hnil] at h;cases h
  qn:=fun i n h=>by rw[hnil] at h;cases h
  nd:=by simp
  un:=fun k hk=>by cases hk
  vl:=fun k hk=>by cases hk
  ql:=Nat.le_refl _
  rl:=fun b row h=>by rw[hnil] at h;cases h}
theorem pot_nil{U:Nat}(hU:univ.length=U){c:Int}{m:Mp'}(hm:m.length=0)(hl:late c m=0):pot c m=2 * U:=by
 unfold pot
 rw[hU,hm,hl,Nat.sub_zero,Nat.add_zero]
theorem first_add{t:d4}(ht:i9 t){plan:Li}(hp:T0 t plan):∃m ns q,m9 (⟨t.init,0, -1, -1,0⟩:d6) t plan ([]:List d6) ([]:LL) ([]:List (ByteArray×Int))=some (m,ns,q)∧Rd t plan 0 m ns q∧Sat m t.init 0 0:=by
 obtain⟨U,hU⟩:∃U,univ.length=U:=⟨_,rfl⟩
 have hpot:=pot_nil hU (c:=0) (m:=[]) rfl rfl
 have h0:([]:List d6).length+pot 0 ([]:Mp')≤2 * univ.length:=by
  rw[hpot,hU,List.length_nil,Nat.zero_add]
  exact Nat.le_refl _
 obtain⟨m,ns,q,h1,h2,h3,h4⟩:=add_spec ht hp.1 (Int.le_refl 0) (bs_nil t plan) h0 (nv:=⟨t.init,0, -1, -1,0⟩) ⟨ht.init,Int.le_refl 0,Int.natCast_nonneg _,Int.le_refl 0⟩ (.inl rfl) (Int.le_refl 0)
  ⟨[],.root (by show(-1:Int)<0;decide),by show(-1:Int)<0;decide,by
   simp only
   rw[if_neg (by decide)]
   exact⟨by simp,rfl,.nil⟩⟩
 have hN:ns.length+pot 0 m≤2 * univ.length:=by
  have:=h3.nsl
  rw[hpot,List.length_nil,Nat.zero_add] at this
  rw[hU];exact this
 clear h0 hpot hU
 refine⟨m,ns,q,h1,⟨h2,hN,?_⟩,h4⟩
 obtain⟨v,g1,g2⟩:=h4
 obtain⟨i,n,k1,_,_,k4⟩:=h2.m2 _ _ _ ht.init (by decide) (Int.natCast_nonneg _) g1
 have:=(h2.node i n k1).1.ch0
 obtain⟨row,p,l1,_⟩:=h2.qn i n k1
 have h9:=(o7 l1).2.1
 have g3:v≤0:=g2
 clear hN
 omega
theorem plan_spec(t:d4)(plan:Li):∃r e,Y2 t plan=some r∧af2 t plan=some e∧
  ((e.code ≠ 0∧¬ (i9 t∧T0 t plan)∧r=([],0,false,e))∨
   (e=⟨0,0⟩∧i9 t∧T0 t plan∧Many t∧r=([],0,false,⟨10, -7⟩))∨
   (e=⟨0,0⟩∧i9 t∧T0 t plan∧(∃l:LL,l.Nodup∧l.length≤2000∧∀s,s ∈ l↔Rt t s)∧((r=([],0,false,⟨0,0⟩)∧∀st,(∀x ∈ st,(0:Int)≤x∧x<t.operators.length)→¬ H6 t t.init st)∨Res t plan r))):=by
 obtain⟨e,h1,h2,h3⟩:=planFault_eq t plan
 unfold Y2
 rw[h1]
 simp only[oB]
 rcases h3 with⟨rfl,ht,hp⟩|⟨hc,hn⟩
 ·rw[if_neg (by simp)]
  obtain⟨b,b1,b2,b3⟩:=as4 ht
  rw[O2,b1]
  simp only[oB]
  cases b with
  |false=>
   rw[if_pos (by rfl)]
   exact⟨_,_,rfl,h2,.inr (.inl ⟨rfl,ht,hp,b2 rfl,rfl⟩)⟩
  |true=>
   rw[if_neg (by simp)]
   obtain⟨m,ns,q,a1,a2,a3⟩:=first_add ht hp
   rw[a1]
   simp only[oB]
   obtain⟨o,o1,o2⟩:=plan_outer ht hp a2 a3
   rw[o1]
   rcases o2 with⟨rfl,o2⟩|⟨x,rfl,o2⟩
   ·exact⟨_,_,rfl,h2,.inr (.inr ⟨rfl,ht,hp,b3 rfl,.inl ⟨rfl,o2⟩⟩)⟩
   ·exact⟨_,_,rfl,h2,.inr (.inr ⟨rfl,ht,hp,b3 rfl,.inr o2⟩)⟩
 ·rw[if_pos (fault_no hc)]
  exact⟨_,_,rfl,h2,.inl ⟨hc,hn,rfl⟩⟩
end Ab
end
section
namespace Ab
open Go
def reqT(t:d4)(op:Int):d4:=⟨t.facts+1,t.init,t.goal++[t.facts],t.operators.set op.toNat ⟨(opAt t op).pre,(opAt t op).add++[t.facts],(opAt t op).del,(opAt t op).cost⟩⟩
def forT(t:d4)(op:Int):d4:=⟨t.facts,t.init,t.goal,t.operators.take op.toNat++t.operators.drop (op.toNat+1)⟩
theorem ah5{l:Li}(h:l.length≤1000000):r9 l=some l:=by
 unfold r9 app
 rw[if_pos (by simp;omega)];rfl
theorem SetN.len24{l:Li}{n:Int}(h:SetN l n)(hn:n≤24):l.length≤24:=by have:=h.len;omega
theorem cclone_body{t:d4}(ht:i9 t){j:Int}(j0:0≤j)(j1:j<t.operators.length):I5 t j (t.operators.take j.toNat)=some (t.operators.take (j+1).toNat):=by
 have ho:=op_ok ht j0 j1
 have hx:=aa3 j0 j1
 have ga:=(o7 hx).2.2
 have hl:=ht.ops
 have htk:t.operators.take (j+1).toNat=t.operators.take j.toNat++[opAt t j]:=by rw[show(j+1).toNat=j.toNat+1 by omega,List.take_add_one,ga];rfl
 have h1:=ho.1.1.len24 ht.n1
 have h2:=ho.1.2.1.len24 ht.n1
 have h3:=ho.1.2.2.1.len24 ht.n1
 unfold I5
 simp only[hx,oB,ah5 (show(opAt t j).pre.length≤1000000 by omega),ah5 (show(opAt t j).add.length≤1000000 by omega),ah5 (show(opAt t j).del.length≤1000000 by omega)]
 rw[app,if_pos (by simp;omega),htk];rfl
theorem cclone_eq{t:d4}(ht:i9 t):O8 t=some (t.init,t.goal,t.operators):=by
 unfold O8
 have h1:=ht.init.len24 ht.n1
 have h2:=ht.goal.len24 ht.n1
 simp only[ah5 (show t.init.length≤1000000 by omega),ah5 (show t.goal.length≤1000000 by omega),oB]
 obtain⟨r,r1,rfl⟩:=J8 (body:=I5 t) (n:=(t.operators.length:Int)) (s:=[]) (fun j c=>c=t.operators.take j.toNat) (by omega) (by simp) (fun j c j0 j1 hP=>⟨_,by rw[hP];exact cclone_body ht j0 j1,rfl⟩)
 rw[r1,Int.toNat_natCast,List.take_length];rfl
end Ab
end
section
namespace Ab
open Go
def up(n:Int)(s:Li)(b:Bool):Li:=s++if b=true then [n] else []
theorem ad8{n x:Int}{s:Li}{b:Bool}:x ∈ up n s b↔x ∈ s∨b=true∧x=n:=by
 unfold up;cases b<;>simp
theorem setN_up{n:Int}{s:Li}{b:Bool}(h0:0≤n)(h:SetN s n):SetN (up n s b) (n+1):=by
 refine⟨?_,fun x hx=> ?_⟩
 ·unfold up
  refine List.pairwise_append.2 ⟨h.1,by cases b<;>simp,fun a ha c hc=> ?_⟩
  have:=h.2 a ha
  cases b
  ·simp at hc
  ·simp at hc;omega
 ·rcases ad8.1 hx with hx|⟨_,rfl⟩
  ·have:=h.2 x hx;omega
  ·omega
section
variable {t:d4}{op:Int}
theorem req_len:(reqT t op).operators.length=t.operators.length:=by simp[reqT]
theorem ak7(h0:0≤op)(h1:op<t.operators.length){q:Int}(q0:0≤q):opAt (reqT t op) q=if q=op then⟨(opAt t op).pre,(opAt t op).add++[t.facts],(opAt t op).del,(opAt t op).cost⟩ else opAt t q:=by
 show((t.operators.set op.toNat _)[q.toNat]?).getD noOp=_
 rw[List.getElem?_set]
 by_cases e:q=op
 ·subst e;rw[if_pos rfl,if_pos rfl,if_pos (by omega)];rfl
 ·rw[if_neg e,if_neg (by omega)];rfl
theorem pre_req(h0:0≤op)(h1:op<t.operators.length){q:Int}(q0:0≤q):(opAt (reqT t op) q).pre=(opAt t q).pre:=by
 rw[ak7 h0 h1 q0];split
 ·rename_i e;rw[e]
 ·rfl
theorem del_req(h0:0≤op)(h1:op<t.operators.length){q:Int}(q0:0≤q):(opAt (reqT t op) q).del=(opAt t q).del:=by
 rw[ak7 h0 h1 q0];split
 ·rename_i e;rw[e]
 ·rfl
theorem cost_req(h0:0≤op)(h1:op<t.operators.length){q:Int}(q0:0≤q):(opAt (reqT t op) q).cost=(opAt t q).cost:=by
 rw[ak7 h0 h1 q0];split
 ·rename_i e;rw[e]
 ·rfl
theorem add_req(h0:0≤op)(h1:op<t.operators.length){q x:Int}(q0:0≤q):x ∈ (opAt (reqT t op) q).add↔x ∈ (opAt t q).add∨q=op∧x=t.facts:=by
 rw[ak7 h0 h1 q0];split
 ·rename_i e;subst e;simp
 ·rename_i e;simp[e]
theorem can_req(ht:i9 t)(h0:0≤op)(h1:op<t.operators.length){q:Int}(q0:0≤q)(q1:q<t.operators.length){s:Li}{b:Bool}:can (reqT t op) (up t.facts s b) q↔can t s q:=by
 unfold can
 rw[pre_req h0 h1 q0]
 have hp:=(op_ok ht q0 q1).1.1
 refine⟨fun h x hx=> ?_,fun h x hx=>ad8.2 (.inl (h x hx))⟩
 rcases ad8.1 (h x hx) with k|⟨_,rfl⟩
 ·exact k
 ·have:=hp.2 _ hx;omega
theorem aft_req(ht:i9 t)(h0:0≤op)(h1:op<t.operators.length){q:Int}(q0:0≤q)(q1:q<t.operators.length){s:Li}{b:Bool}(hs:SetN s t.facts):aft (reqT t op) (up t.facts s b) q=up t.facts (aft t s q) (b||decide (q=op)):=by
 obtain⟨k1,k2,k3,k4⟩:=(op_ok ht q0 q1).1
 refine((setN_up ht.n0 (R9 t s q)).eq_of fun x x0 x1=> ?_).symm
 rw[add_req h0 h1 q0,del_req h0 h1 q0,ad8,ad8]
 unfold aft
 rw[ag1]
 have d1:t.facts ∉ (opAt t q).del:=fun h=>by have:=k3.2 _ h;omega
 have d2:t.facts ∉ (opAt t q).add:=fun h=>by have:=k2.2 _ h;omega
 have d3:t.facts ∉ s:=fun h=>by have:=hs.2 _ h;omega
 by_cases e:x=t.facts
 ·subst e;simp[d1,d2,d3,or_comm]
 ·have:x<t.facts:=by change x<t.facts+1 at x1;omega
  simp[e,x0,this]
theorem ends_req(ht:i9 t)(h0:0≤op)(h1:op<t.operators.length):∀{p s:Li} {b:Bool},SetN s t.facts→Val t p→ends (reqT t op) (up t.facts s b) p=(ends t s p).map fun e=>up t.facts e (b||decide (op ∈ p))
 |[],s,b,_,_=>by simp[ends]
 |q::p,s,b,hs,hv=>by
  have hq:=hv q (by simp)
  simp only[ends]
  rw[L9 (can_req ht h0 h1 hq.1 hq.2)]
  split
  ·rw[aft_req ht h0 h1 hq.1 hq.2 hs,ends_req ht h0 h1 (R9 t s q) (fun x hx=>hv x (List.mem_cons_of_mem _ hx))]
   have:(b||decide (q=op)||decide (op ∈ p))=(b||decide (op ∈ q::p)):=by
    rw[Bool.or_assoc];congr 1
    rw[← Bool.decide_or];apply decide_eq_decide.2
    rw[List.mem_cons,eq_comm]
   rw[this]
  ·rfl
theorem works_req(ht:i9 t)(h0:0≤op)(h1:op<t.operators.length){p s:Li}{b:Bool}(hs:SetN s t.facts)(hv:Val t p):H6 (reqT t op) (up t.facts s b) p↔H6 t s p∧(b=true∨op ∈ p):=by
 unfold H6
 rw[ends_req ht h0 h1 hs hv]
 have hg:∀x ∈ t.goal,x<t.facts:=fun x hx=>(ht.goal.2 x hx).2
 constructor
 ·rintro ⟨e,e1,e2⟩
  cases e':ends t s p with
  |none=>rw[e'] at e1;cases e1
  |some u=>
   rw[e'] at e1
   simp only[Option.map_some,Option.some.injEq] at e1
   subst e1
   have hu:=ends_setN hs e'
   refine⟨⟨u,rfl,fun x hx=> ?_⟩,?_⟩
   ·rcases ad8.1 (e2 x (List.mem_append_left _ hx)) with k|⟨_,rfl⟩
    ·exact k
    ·have:=hg _ hx;omega
   ·rcases ad8.1 (e2 t.facts (List.mem_append_right _ (by simp))) with k|⟨k,_⟩
    ·have:=hu.2 _ k;omega
    ·simpa using k
 ·rintro ⟨⟨u,u1,u2⟩,k⟩
  rw[u1]
  refine⟨_,rfl,fun x hx=> ?_⟩
  rcases List.mem_append.1 hx with hx|hx
  ·exact ad8.2 (.inl (u2 x hx))
  ·exact ad8.2 (.inr ⟨by simpa using k,by simpa using hx⟩)
theorem val_req{p:Li}:Val (reqT t op) p↔Val t p:=by unfold Val;rw[req_len]
theorem pcost_req(h0:0≤op)(h1:op<t.operators.length):∀{p:Li},Val t p→S1 (reqT t op) p=S1 t p
 |[],_=>rfl
 |q::p,hv=>by
  simp only[S1]
  rw[cost_req h0 h1 (hv q (by simp)).1,pcost_req h0 h1 fun x hx=>hv x (List.mem_cons_of_mem _ hx)]
theorem aq2(ht:i9 t)(h0:0≤op)(h1:op<t.operators.length){p:Li}(hv:Val t p):H6 (reqT t op) (reqT t op).init p↔H6 t t.init p∧op ∈ p:=by
 have:=works_req ht h0 h1 (b:=false) ht.init hv
 have e:up t.facts t.init false=(reqT t op).init:=by simp[up,reqT]
 rw[e] at this;rw[this];simp
theorem SetN.weak{l:Li}{n m:Int}(h:SetN l n)(hm:n≤m):SetN l m:=⟨h.1,fun x hx=>by have:=h.2 x hx;omega⟩
theorem req_ok(ht:i9 t)(h0:0≤op)(h1:op<t.operators.length)(hf:t.facts<24):i9 (reqT t op) where
 n0:=by have:=ht.n0;show 0≤t.facts+1;omega
 n1:=by show t.facts+1≤24;omega
 init:=ht.init.weak (by show t.facts≤t.facts+1;omega)
 goal:=by
  have:=setN_up (b:=true) ht.n0 ht.goal
  simpa[up,reqT] using this
 ops:=by rw[req_len];exact ht.ops
 op:=fun o ho=>by
  obtain⟨q,q0,q1,q2⟩:=C5 ho
  rw[req_len] at q1
  rw[aa3 q0 (by rw[req_len];exact q1)] at q2
  cases q2
  obtain⟨⟨k1,k2,k3,k4⟩,k5⟩:=op_ok ht q0 q1
  have hle:t.facts≤(reqT t op).facts:=by show t.facts≤t.facts+1;omega
  refine⟨⟨by rw[pre_req h0 h1 q0];exact k1.weak hle,?_,by rw[del_req h0 h1 q0];exact k3.weak hle,fun x hx=> ?_⟩,by unfold X2;rw[cost_req h0 h1 q0];exact k5⟩
  ·rw[ak7 h0 h1 q0]
   split
   ·rename_i e;subst e
    have:=setN_up (b:=true) ht.n0 k2
    simpa[up,reqT] using this
   ·exact k2.weak hle
  ·rw[del_req h0 h1 q0]
   rcases(add_req h0 h1 q0).1 hx with hx|⟨_,rfl⟩
   ·exact k4 x hx
   ·exact fun h=>by have:=k3.2 _ h;omega
theorem rt_req(ht:i9 t)(h0:0≤op)(h1:op<t.operators.length){s:Li}(h:Rt (reqT t op) s):∃u b,Rt t u∧s=up t.facts u b:=by
 induction h with
 |init=>exact⟨t.init,false,.init,by simp[up,reqT]⟩
 |@step s q h q0 q1 hc ih=>
  obtain⟨u,b,hu,rfl⟩:=ih
  rw[req_len] at q1
  exact⟨_,_,hu.step q0 q1 ((can_req ht h0 h1 q0 q1).1 hc),aft_req ht h0 h1 q0 q1 (hu.setN ht)⟩
theorem many_req(ht:i9 t)(h0:0≤op)(h1:op<t.operators.length){l:LL}(hl:l.length≤1000)(hm:∀s,Rt t s→s ∈ l):¬ Many (reqT t op):=by
 rintro ⟨m,m1,m2,m3⟩
 have:=M1 m1 (S:=l.map (up t.facts · false)++l.map (up t.facts · true)) fun s hs=>by
  obtain⟨u,b,hu,rfl⟩:=rt_req ht h0 h1 (m3 s hs)
  cases b
  ·exact List.mem_append_left _ (List.mem_map.2 ⟨u,hm u hu,rfl⟩)
  ·exact List.mem_append_right _ (List.mem_map.2 ⟨u,hm u hu,rfl⟩)
 simp at this
 omega
/-! ### Without the operator -/
end
end Ab
end
section
namespace Ab
open Go
section
variable {t:d4}{op:Int}
end
end Ab
end
section
namespace Ab
open Go
section
variable {t:d4}{op:Int}
/-! ### With and Without -/
theorem contr_eq(t:d4)(op:Int):∃f,H4 t op=some f∧G2 t op=some f∧((f=⟨0,0⟩∧i9 t∧0≤op∧op<t.operators.length)∨(f.code ≠ 0∧¬ (i9 t∧0≤op∧op<t.operators.length))):=by
 obtain⟨f,h1,h2,h3⟩:=af8 t
 unfold H4 G2
 rw[h1]
 simp only[oB]
 rcases h3 with⟨rfl,ht⟩|⟨hc,hn⟩
 ·by_cases c:0≤op∧op<t.operators.length
  ·refine⟨⟨0,0⟩,?_,?_,.inl ⟨rfl,ht,c⟩⟩
   ·rw[if_neg (by simp),if_neg (by simp;omega)]
   ·rw[if_neg (by simp),if_neg (by simp;omega)]
  ·refine⟨⟨3, -6⟩,?_,?_,.inr ⟨by simp,fun h=>c h.2⟩⟩
   ·rw[if_neg (by simp),if_pos (by simp;omega)]
   ·rw[if_neg (by simp),if_pos (by simp;omega)]
 ·refine⟨f,?_,?_,.inr ⟨hc,fun h=>hn h.1⟩⟩
  ·rw[if_pos (by simp[hc])]
  ·rw[if_pos (by simp[hc])]
theorem require_eq(ht:i9 t)(h0:0≤op)(h1:op<t.operators.length)(hf:t.facts ≠ 24):I9 t op=some (reqT t op,⟨0,0⟩):=by
 obtain⟨f,_,k2,k4⟩:=contr_eq t op
 rcases k4 with⟨rfl,_⟩|⟨_,k4⟩
 ·have n0:=ht.n0;have n1:=ht.n1
  have l1:=ht.goal.len24 ht.n1
  have l2:=(op_ok ht h0 h1).1.2.1.len24 ht.n1
  unfold I9
  rw[k2]
  simp only[oB]
  have a1:app 8 t.goal [t.facts]=some (t.goal++[t.facts]):=by unfold app;rw[if_pos (by simp;omega)]
  have a2:app 8 (opAt t op).add [t.facts]=some ((opAt t op).add++[t.facts]):=by unfold app;rw[if_pos (by simp;omega)]
  rw[if_neg (by simp),if_neg hf,cclone_eq ht]
  simp only[oB,aa3 h0 h1,a1,a2,x8 (show -9223372036854775808≤t.facts+1 by omega) (by omega)]
  rfl
 ·exact absurd ⟨ht,h0,h1⟩ k4
inductive WithR(t:d4)(op:Int):Int×i5→Prop
 |bad {f:i5} (h:¬ (i9 t∧0≤op∧op<t.operators.length)) (hc:f.code ≠ 0) (hf:H4 t op=some f):WithR t op (0,f)
 |big (h:i9 t) (h0:0≤op) (h1:op<t.operators.length) (hf:t.facts=24):WithR t op (0,⟨10, -8⟩)
 |opt {r:Int×i5} (h:i9 t) (h0:0≤op) (h1:op<t.operators.length) (hf:t.facts<24) (hr:OptR (reqT t op) r):WithR t op r
inductive OutR(t:d4)(op:Int):Int×i5→Prop
 |bad {f:i5} (h:¬ (i9 t∧0≤op∧op<t.operators.length)) (hc:f.code ≠ 0) (hf:H4 t op=some f):OutR t op (0,f)
 |opt {r:Int×i5} (h:i9 t) (h0:0≤op) (h1:op<t.operators.length) (hr:OptR (forT t op) r):OutR t op r
theorem with_spec(t:d4)(op:Int):∃r,N8 t op=some r∧WithR t op r:=by
 obtain⟨f,k1,k2,k4⟩:=contr_eq t op
 unfold N8
 rw[k1]
 simp only[oB]
 rcases k4 with⟨rfl,ht,h0,h1⟩|⟨hc,hn⟩
 ·rw[if_neg (by simp)]
  by_cases e:t.facts=24
  ·unfold I9
   rw[k2]
   simp only[oB]
   rw[if_neg (by simp),if_pos e]
   simp only[oB]
   rw[if_pos (by simp)]
   exact⟨_,rfl,.big ht h0 h1 e⟩
  ·rw[require_eq ht h0 h1 e]
   obtain⟨r,r1,r2⟩:=optimal_spec (reqT t op)
   simp only[oB]
   rw[if_neg (by simp),r1]
   exact⟨r,rfl,.opt ht h0 h1 (by have:=ht.n1;omega) r2⟩
 ·rw[if_pos (by simp[hc])]
  exact⟨_,rfl,.bad hn hc k1⟩
end
/-! ### The fixed task -/
end Ab
end
section
namespace Ab
open Go
def h11O:g8:=⟨[],[0],[],2⟩
def h11T:d4:=⟨1,[],[0],[h11O]⟩
theorem X7:i9 h11T where
 n0:=by decide
 n1:=by decide
 init:=S0 _
 goal:=setN1 0 (by decide) (by decide)
 ops:=by decide
 op o ho:=by
  simp only[h11T,List.mem_singleton] at ho
  subst ho
  exact⟨⟨S0 _,setN1 0 (by decide) (by decide),S0 _,by simp[h11O]⟩,by decide,by decide⟩
theorem h11_at:opAt h11T 0=h11O:=rfl
theorem h11_aft0:aft h11T [] 0=[0]:=by
 refine((setN1 0 (by decide) (by decide):SetN [0] 1).eq_of (p:=fun x=>x ∈ (opAt h11T 0).add∨x ∈ []∧x ∉ (opAt h11T 0).del) fun x h0 h1=> ?_).symm
 simp[h11_at,h11O]
theorem h11_aft1:aft h11T [0] 0=[0]:=by
 refine((setN1 0 (by decide) (by decide):SetN [0] 1).eq_of (p:=fun x=>x ∈ (opAt h11T 0).add∨x ∈ [0]∧x ∉ (opAt h11T 0).del) fun x h0 h1=> ?_).symm
 simp[h11_at,h11O]
theorem h11_rt{s:Li}(h:Rt h11T s):s ∈ [([]:Li),[0]]:=by
 induction h with
 |init=>simp[h11T]
 |@step s op _ h0 h1 _ ih=>
  have:op=0:=by simp only[h11T,List.length_singleton] at h1;omega
  subst this
  simp only[List.mem_cons,List.not_mem_nil,or_false] at ih ⊢
  rcases ih with rfl|rfl
  ·exact .inr h11_aft0
  ·exact .inr h11_aft1
theorem h11_worlds:N6 h11T []=some [[]]:=by
 have e1:chk0 (([]:Li).length:Int)=some ():=rfl
 have e2:shlW .i64 1 (([]:Li).length:Int)=1:=by decide
 have e4:forR 0 (([]:Li).length:Int) (ab3 [] 0) []=some []:=rfl
 have e5:G5 h11T.init [] []=some []:=by
  rw[show h11T.init=[] from rfl,update_eq (n:=1) (by decide) .nil (by simp) (S0 _) (S0 _)]
  exact congrArg some ((S0 1).eq_of fun x _ _=>by simp[h11T]).symm
 have e3:forR 0 1 (N1 h11T []) []=some [[]]:=by
  show forN (N1 h11T []) 1 0 []=_
  simp only[forN]
  unfold N1
  rw[e4]
  simp only[oB,e5]
  rfl
 unfold N6
 rw[e1,e2]
 simp only[oB]
 rw[if_pos (by decide),e3]
 simp only[oB]
 obtain⟨r,r1,r2,r3,_⟩:=normal_eq (l:=[([]:Li)]) (by simp)
 rw[r1,Ord.ext r2 (by simp) r3]
 rfl
def h11E0:d8:=⟨[[]], -1,0⟩
def h11E1:d8:=⟨[[0]],0,0⟩
theorem h11_breadth:E3 [[]] h11T.facts h11T.init h11T.goal h11T.operators h11T.facts h11T.init h11T.goal h11T.operators=some ([0],true,true):=by
 have hn:=X7.init
 have h0s:SetN [0] h11T.facts:=setN1 0 (by decide) (by decide)
 have k0:y5 [[]]=some (keyK [[]]):=kone_eq (fun x hx=>by cases hx) (by simp)
 have k1:y5 [[0]]=some (keyK [[0]]):=kone_eq (R7 X7 h0s) (by simp)
 have ne:keyK [[0]] ≠ keyK [[]]:=fun e=>by
  have:=kone_inj X7 h0s (S0 _) e
  cases this
 have g0:J7 [[]] (⟨h11T.facts,h11T.init,h11T.goal,h11T.operators⟩:d4)=some false:=by
  unfold J7
  rw[aq3 .nil X7.goal.1 (by simp)]
  simp only[oB]
  rw[B6 (by simp[h11T])]
 have g1:J7 [[0]] (⟨h11T.facts,h11T.init,h11T.goal,h11T.operators⟩:d4)=some true:=by
  unfold J7
  rw[aq3 h0s.1 X7.goal.1 (by simp)]
  simp only[oB]
  rw[m4 (by simp[h11T])]
 have a0:I3 (⟨h11T.facts,h11T.init,h11T.goal,h11T.operators⟩:d4) [[]] 0=some [[0]]:=by
  have:=after_one X7 (s:=[]) (S0 _) (op:=0) (by decide) (by decide)
  rw[h11_aft0] at this
  exact this
 have m0:¬ 0<Option.getD (mget (mset ([]:List (ByteArray×Int)) (keyK [[]]) 1) (keyK [[0]])) 0:=by
  rw[y4,if_neg ne]
  simp[mget]
 have ix0:ix h11T.operators 0=some h11O:=rfl
 have s0:M0 [[]] h11O.pre=some true:=by
  rw[show h11O.pre=[] from rfl,aq3 .nil .nil (by simp),m4 (by simp)]
 have r4:F3 h11T.facts h11T.init h11T.goal h11T.operators [h11E0] (mset ([]:List (ByteArray×Int)) (keyK [[]]) 1) 0 h11E0=some (.inl (mset (mset ([]:List (ByteArray×Int)) (keyK [[]]) 1) (keyK [[0]]) 1,[h11E0,h11E1])):=by
  have q:rngX 0 (h11T.operators.length:Int) (w4 h11T.facts h11T.init h11T.goal h11T.operators 0 h11E0) (mset ([]:List (ByteArray×Int)) (keyK [[]]) 1,[h11E0])=some (.inl (mset (mset ([]:List (ByteArray×Int)) (keyK [[]]) 1) (keyK [[0]]) 1,[h11E0,h11E1])):=by
   show rngN (w4 h11T.facts h11T.init h11T.goal h11T.operators 0 h11E0) 1 0 (mset ([]:List (ByteArray×Int)) (keyK [[]]) 1,[h11E0])=_
   have b:w4 h11T.facts h11T.init h11T.goal h11T.operators 0 h11E0 0 (mset ([]:List (ByteArray×Int)) (keyK [[]]) 1,[h11E0])=some (.inl (mset (mset ([]:List (ByteArray×Int)) (keyK [[]]) 1) (keyK [[0]]) 1,[h11E0,h11E1])):=by
    unfold w4
    have en:h11E0.node=[[]]:=rfl
    dsimp only
    simp only[ix0,oB,en,s0,if_true,a0,k1]
    rw[if_neg m0,if_neg (by simp)]
    rfl
   simp only[rngN,b]
  unfold F3
  rw[q]
  rfl
 have st0:w6 h11T.facts h11T.init h11T.goal h11T.operators h11T.facts h11T.init h11T.goal h11T.operators ([h11E0],mset ([]:List (ByteArray×Int)) (keyK [[]]) 1,0)=some (.inl ([h11E0,h11E1],mset (mset ([]:List (ByteArray×Int)) (keyK [[]]) 1) (keyK [[0]]) 1,1)):=by
  unfold w6
  dsimp only
  have e0:ix [h11E0] 0=some h11E0:=rfl
  have en:h11E0.node=[[]]:=rfl
  rw[if_pos (by simp),e0]
  simp only[oB,en,g0,J4,H2]
  rw[if_neg (by simp),r4]
  simp only[oB]
  rw[x8 (by decide) (by decide)]
  rfl
 have lp:Loop (A7 [h11E0,h11E1]) ([],1)=some [0]:=by
  have b1:A7 [h11E0,h11E1] ([],1)=some (.inl ([0],0)):=rfl
  have b2:A7 [h11E0,h11E1] ([0],0)=some (.inr [0]):=rfl
  rw[ak0,b1]
  dsimp only
  rw[ak0,b2]
 have st1:w6 h11T.facts h11T.init h11T.goal h11T.operators h11T.facts h11T.init h11T.goal h11T.operators ([h11E0,h11E1],mset (mset ([]:List (ByteArray×Int)) (keyK [[]]) 1) (keyK [[0]]) 1,1)=some (.inr (.inr ([0],true,true))):=by
  unfold w6
  dsimp only
  have e0:ix [h11E0,h11E1] 1=some h11E1:=rfl
  have en:h11E1.node=[[0]]:=rfl
  rw[if_pos (by simp),e0]
  simp only[oB,en,g1,if_true,lp]
  rfl
 unfold E3
 rw[k0]
 simp only[oB]
 rw[show(⟨[[]], -1,0⟩:d8)=h11E0 from rfl,ak0,st0]
 dsimp only
 rw[ak0,st1]
 rfl
theorem h11_plan:Y5 h11T []=some ([0],true,⟨0,0⟩):=by
 have u:H1 h11T []=some ⟨0,0⟩:=by
  obtain⟨f,h1,_,h3⟩:=af8 h11T
  rcases h3 with⟨rfl,_⟩|⟨_,hn⟩
  ·unfold H1
   rw[h1]
   simp only[oB]
   rw[if_neg (by simp),if_neg (by simp),isSet_eq]
   simp only[oB,N9]
   rw[ifNN (S0 _)]
  ·exact absurd X7 hn
 have sm:x4 [[]] h11T.facts h11T.init h11T.goal h11T.operators=some true:=small_of X7 (S:=[[],[0]]) (by simp) fun s hs=>h11_rt hs
 unfold Y5
 rw[u]
 simp only[oB]
 rw[if_neg (by simp)]
 simp only[O2,oB,h11_worlds,sm]
 rw[if_neg (by simp),h11_breadth]
 rfl
theorem h11_works:H6 h11T h11T.init [0]:=by
 refine⟨[0],?_,by simp[h11T]⟩
 have hc:can h11T [] 0:=by unfold can;rw[h11_at];simp[h11O]
 show ends h11T [] [0]=_
 simp only[ends]
 rw[if_pos (m4 hc),h11_aft0]
theorem h11_val:Val h11T [0]:=fun x hx=>by
 rw[List.mem_singleton] at hx
 subst hx
 exact⟨by decide,by decide⟩
theorem h11_least:∀{p:Li},Val h11T p→(0:Int) ∈ p→2≤S1 h11T p
 |[],_,h=>by cases h
 |op::r,hv,_=>by
  have h1:=ar4 X7 (plan:=r) fun x hx=>hv x (List.mem_cons_of_mem _ hx)
  have h2:=hv op (by simp)
  have:op=0:=by simp only[h11T,List.length_singleton] at h2;omega
  subst this
  simp only[S1]
  rw[h11_at]
  simp only[h11O]
  omega
theorem h11_with:N8 h11T 0=some (2,⟨0,0⟩):=by
 obtain⟨r,hr0,h2⟩:=with_spec h11T 0
 rw[hr0]
 cases h2 with
 |bad h hc hf=>exact absurd ⟨X7,by decide,by decide⟩ h
 |big h h0 h1 hf=>exact absurd hf (by decide)
 |opt h h0 h1 hf hr=>
  cases hr with
  |bad h' _ _=>exact absurd (req_ok h h0 h1 hf) h'
  |many _ hm=>exact absurd hm (many_req h h0 h1 (l:=[[],[0]]) (by simp) fun s hs=>h11_rt hs)
  |none _ _ hn=>exact absurd ((aq2 h h0 h1 h11_val).2 ⟨h11_works,by simp⟩) (hn [0] (val_req.2 h11_val))
  |@some k plan _ _ _ _ hv hw hk hl=>
   have hv':=val_req.1 hv
   have a:=hl [0] (val_req.2 h11_val) ((aq2 h h0 h1 h11_val).2 ⟨h11_works,by simp⟩)
   rw[pcost_req h0 h1 h11_val] at a
   have b:=h11_least hv' ((aq2 h h0 h1 hv').1 hw).2
   rw[pcost_req h0 h1 hv'] at hk
   have c:S1 h11T [0]=2:=rfl
   have:k=2:=by omega
   rw[this]
theorem h11_eq:K1=some true:=by
 have ht:Y0=some h11T:=rfl
 unfold K1
 simp only[ht,oB,h11_plan,h11_with,if_true,ints_eq,k7,decide_true]
end Ab
end
section
namespace Ab
open Go
theorem mks_get{t:d4}{op:Int}{m:Mk}(h:ix (mks t) op=some m):0≤op∧op<t.operators.length∧m=mkOf (opAt t op):=by
 obtain⟨h0,h1,_⟩:=o7 h
 have h1:op<t.operators.length:=by simpa[mks] using h1
 rw[mks_ix h0 h1] at h
 exact⟨h0,h1,(Option.some.inj h).symm⟩
theorem ends_one{t:d4}{s:Li}{op:Int}(h:can t s op):ends t s [op]=some (aft t s op):=by
 simp only[ends];rw[if_pos (m4 h)]
theorem fw_plan{t:d4}(ht:i9 t){l:Li}{y:Int}(h:FwW (mks t) (wd t.init) l y):Val t l∧∃e,Rt t e∧ends t t.init l=some e∧y=wd e:=by
 induction h with
 |nil=>exact⟨by simp[Val],t.init,.init,rfl,rfl⟩
 |@snoc l y op m hw hm hc ih=>
  obtain⟨v,e,e1,e2,rfl⟩:=ih
  obtain⟨h0,h1,rfl⟩:=mks_get hm
  have hs:=e1.setN ht
  have hcan:=(af1 ht hs h0 h1).1 hc
  refine⟨fun x hx=> ?_,aft t e op,e1.step h0 h1 hcan,?_,aj9 ht hs h0 h1⟩
  ·rcases List.mem_append.1 hx with hx|hx
   ·exact v x hx
   ·rw[List.mem_singleton] at hx;subst hx;exact⟨h0,h1⟩
  ·rw[Y4,e2]
   exact ends_one hcan
theorem plan_fw{t:d4}(ht:i9 t):∀{r q s e:Li},Rt t s→FwW (mks t) (wd t.init) q (wd s)→Val t r→ends t s r=some e→FwW (mks t) (wd t.init) (q++r) (wd e)
 |[],q,s,e,_,h,_,he=>by
  simp only[ends,Option.some.injEq] at he;subst he
  rw[List.append_nil];exact h
 |op::r,q,s,e,hs,h,hv,he=>by
  simp only[ends] at he
  split at he
  ·rename_i hc
   have hc:=k7.1 hc
   have h1:=hv op (by simp)
   have hn:=hs.setN ht
   have st:FwW (mks t) (wd t.init) (q++[op]) (wd (aft t s op)):=by
    rw[← aj9 ht hn h1.1 h1.2]
    exact .snoc h (mks_ix h1.1 h1.2) ((af1 ht hn h1.1 h1.2).2 hc)
   have:=plan_fw ht (hs.step h1.1 h1.2 hc) st (fun x hx=>hv x (List.mem_cons_of_mem _ hx)) he
   rwa [List.append_assoc] at this
  ·cases he
theorem fw_goal{t:d4}(ht:i9 t){p:Li}(hv:Val t p)(hw:H6 t t.init p):∃y,FwW (mks t) (wd t.init) p y∧z8 (wd t.goal) y:=by
 obtain⟨e,h1,h2⟩:=hw
 have hr:Rt t e:=Rt.ends .init hv h1
 exact⟨_,plan_fw ht .init .nil hv h1,(ak1 (hr.setN ht) ht.goal ht.n1).2 h2⟩
theorem au4(t:d4):∃r,V0 t=some r∧(r.2.2.code ≠ 0∨(i9 t∧
  ((r=([],false,⟨0,0⟩)∧∀p,Val t p→¬ H6 t t.init p)∨∃plan,r=(plan,true,⟨0,0⟩)∧Val t plan∧H6 t t.init plan∧∀p,Val t p→H6 t t.init p→plan.length≤p.length))):=by
 unfold V0
 rcases as3 t with⟨h,f,h1,h2,h3⟩|⟨h,h1,h2⟩|⟨ht,h1,vs,v1,v2,v3,h2⟩
 ·rw[h3]
  simp only[oB]
  rw[if_pos (by simp[h2])]
  exact⟨_,rfl,.inl h2⟩
 ·rw[h2]
  simp only[oB]
  rw[if_pos (by simp)]
  exact⟨_,rfl,.inl (by simp)⟩
 ·rw[h2]
  simp only[oB]
  rw[if_neg (by simp)]
  have hg:=words_of ht v2 v3
  obtain⟨r,r1,r2⟩:=first_spec (g:=wd t.goal) hg v1 ((v3 _).2 ⟨_,.init,rfl⟩)
  rw[r1]
  simp only[oB]
  unfold T9
  rcases r2 with⟨rfl,r2⟩|⟨plan,rfl,y,y1,y2,y3⟩
  ·rw[if_neg (by simp)]
   exact⟨_,rfl,.inr ⟨ht,.inl ⟨rfl,fun p hv hw=>by
    obtain⟨y,a,b⟩:=fw_goal ht hv hw
    exact r2 _ _ a b⟩⟩⟩
  ·by_cases c:(60:Int)<(plan.length:Int)
   ·rw[if_pos c]
    exact⟨_,rfl,.inl (by simp)⟩
   ·rw[if_neg c]
    obtain⟨hv,e,e1,e2,rfl⟩:=fw_plan ht y1
    refine⟨_,rfl,.inr ⟨ht,.inr ⟨plan,rfl,hv,⟨e,e2,(ak1 (e1.setN ht) ht.goal ht.n1).1 y2⟩,fun p pv pw=> ?_⟩⟩⟩
    obtain⟨z,a,b⟩:=fw_goal ht pv pw
    exact y3 _ _ a b
theorem ai9(t:d4):F4 t=some true:=by
 unfold F4
 obtain⟨r,e,h1,_,h3⟩:=plan_spec t []
 obtain⟨b,b1,b2⟩:=au4 t
 obtain⟨bp,bi,bf⟩:=b
 obtain⟨rp,rn,ri,rf⟩:=r
 rw[h1,b1]
 simp only[oB,h11_eq]
 dsimp only at b2
 by_cases c1:rf.code=0
 ·rcases b2 with b2|⟨ht,b2⟩
  ·rw[if_pos (by simp[b2])]
  ·rcases h3 with⟨k1,_,k3⟩|⟨_,_,_,_,k⟩|⟨_,_,_,_,k⟩
   ·cases k3;exact absurd c1 k1
   ·cases k;simp at c1
   ·have dz:∀p:Li,dm [] p=p.length:=fun p=>by cases p<;>rfl
    rcases k with⟨k,kn⟩|⟨st,d,hF,k⟩
    ·cases k
     rcases b2 with⟨b2,_⟩|⟨plan,b2,v,w,_⟩
     ·cases b2;simp
     ·exact absurd w (kn plan v)
    ·rcases k with⟨_,k⟩|⟨_,k⟩
     ·cases k
      rcases b2 with⟨b2,bn⟩|⟨plan,b2,v,w,l⟩
      ·exact absurd hF.sol (bn _ hF.ok)
      ·cases b2
       have a1:=hF.low _ v w
       have a2:=l _ hF.ok hF.sol
       have a3:=hF.dist
       rw[dz] at a1 a3
       rw[← a3] at a1 ⊢
       have e:rp.length=bp.length:=by omega
       simp[e]
     ·cases k;simp at c1
 ·rw[if_pos (by simp[c1])]
end Ab
end
