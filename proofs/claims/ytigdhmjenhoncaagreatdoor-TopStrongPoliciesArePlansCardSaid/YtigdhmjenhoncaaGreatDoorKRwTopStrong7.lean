/-
  Texts that the proof stands on.
-/
import Derived.Test.YtigdhmjenhoncaaGreatDoorKRwTopStrong6
set_option linter.all false
open List renaming mem_singleton->ja,length_append->jb,mem_cons_of_mem->jc,mem_append->jd,mem_map->je,replicate->jf,getElem?_append_left->jg,length_cons->jh,length_singleton->ji,mem_cons->jj,mem_append_left->jl,flatMap_nil->jn,flatMap_cons->jq,cons_append->jr,mem_cons_self->js,nil_append->ju,nodup_cons->jv,append_assoc->jw,exists_mem_of_ne_nil->jx,mem_flatMap->jy,drop_of_length_le->jA,length_pos_of_mem->jB,take_append_drop->jE,getElem?_of_mem->jF,pairwise_append->jG,Pairwise->jJ,flatMap_append->jK,pairwise_cons->jL,filter_append->jN,take_add_one->jP,nodup_append->jR,length->jS
open Classical renaming byContradiction->jk
open Nat renaming le_refl->jm,testBit_lt_two_pow->jC,eq_of_testBit_eq->jH,pow_le_pow_right->jI,lt_of_lt_of_le->jM,lt_trichotomy->jQ
open Bool renaming or_eq_true->jo,and_eq_false_iff->jD,not_eq_true'->jO,and_eq_true->jU
open Option renaming bind->jp,map_some->jz,getD_none->jT
open Int renaming le_refl->jt
section
namespace Ab
open Go
noncomputable def chO(p:List e9)(s:Li):Int:=(K2 p s).getD (-1)
theorem rChosen_chO(p:List e9)(s:Li):K2 p s=some (chO p s):=by
 obtain⟨r,h,_⟩:=as2 p s
 rw[chO,h];rfl
theorem ad6{t:d5}{p:List e9}(hp:F2 t p)(s:Li):K5 p s=some (chO p s)/\(chO p s= -1\/(0<=chO p s/\chO p s<t.operators.length/\oCan t s (chO p s))):=by
 obtain⟨r,h1,h2,h3⟩:=chosen_eq hp s
 have:chO p s=r:=by rw[chO,h2];rfl
 rw[this]
 exact⟨h1,h3⟩
def noX:w8:=⟨[],[],0⟩
def xAt(o:m5)(i:Int):w8:=(o.outcomes[i.toNat]?).getD noX
theorem ix_x{o:m5}{i:Int}(h0:0<=i)(h1:i<o.outcomes.length):ix o.outcomes i=some (xAt o i):=by
 obtain⟨a,h2,h3⟩:=k6 h0 h1
 rw[h2,xAt,h3];rfl
noncomputable def fol(t:d5)(p:List e9):Li->Int->LL->Li->LL×g8
 |[],_,c,_=>(c,⟨0,0⟩)
 |i::r,j,c,s=>if dec (chO p s<0\/∀x ∈ t.goal,x ∈ s)=true then(c,⟨0,0⟩) else
  if dec (0<=i/\i<(ooAt t (chO p s)).outcomes.length)=true then fol t p r (j+1) (c++[efc t.facts s (xAt (ooAt t (chO p s)) i)]) (efc t.facts s (xAt (ooAt t (chO p s)) i)) else([],⟨3,j⟩)
theorem drop_ix{l:Li}{j:Int}{a:Int}(h:ix l j=some a):l.drop j.toNat=a::l.drop (j+1).toNat:=by
 obtain⟨j0,_,g⟩:=n7 h
 obtain⟨hlt,rfl⟩:=lG.1 g
 rw[show(j+1).toNat=j.toNat+1 by omega]
 exact List.drop_eq_getElem_cons hlt
theorem ifOr{a b:Prop}:(if dec a=true then some true else some (dec b))=some (dec (a\/b)):=by
 by_cases h:a
 ·rw[ifP h,o8 (.inl h)]
 ·rw[ifN h];exact congrArg some (C1 ⟨.inr,fun g=>g.resolve_left h⟩)
theorem follow_eq{t:d5}(ht:m8 t){p:List e9}(hp:F2 t p){outs:Li}(hl:outs.length<=60):(jp (Loop (P3 t p outs) ([t.init],t.init,0)) fun| .inl c9=>some (c9,(⟨0,0⟩:g8))| .inr x=>some x)=some (fol t p outs 0 [t.init] t.init):=by
 obtain⟨r,r1,r2⟩:=M7 (body:=P3 t p outs) (fun q=>0<=q.2.2/\q.2.2<=outs.length/\SetN q.2.1 t.facts/\q.1.length=q.2.2.toNat+1/\fol t p outs 0 [t.init] t.init=fol t p (outs.drop q.2.2.toNat) q.2.2 q.1 q.2.1) (fun r=>(match r with| .inl c9=>some (c9,(⟨0,0⟩:g8))| .inr x=>some x)=some (fol t p outs 0 [t.init] t.init)) (fun q=>(outs.length - q.2.2).toNat) (s:=([t.init],t.init,0)) ⟨by simp,by simp,ht.init,by simp,by simp⟩ (fun⟨c,s,j⟩ ⟨g0,g1,g2,g3,g4⟩=>by
  dsimp only at g0 g1 g2 g3 g4 ⊢
  have hn:=ht.n1
  have:=g2.len
  unfold P3
  dsimp only
  by_cases cj:j<outs.length
  ·obtain⟨i,hi,_⟩:=k6 (l:=outs) g0 cj
   rw[drop_ix hi,fol] at g4
   obtain⟨e1,e2⟩:=ad6 hp s
   rw[if_pos cj,hi]
   simp only[oB,e1,K1 g2.1 ht.goal.1 (by omega)]
   have key:(if chO p s<0 then some true else some (dec (∀x ∈ t.goal,x ∈ s)))=some (dec (chO p s<0\/∀x ∈ t.goal,x ∈ s)):=by
    rw[<- ifOr]
    by_cases h:chO p s<0
    ·rw[if_pos h,ifP h]
    ·rw[if_neg h,ifN h]
   rw[key]
   simp only[oB]
   by_cases cs:chO p s<0\/∀x ∈ t.goal,x ∈ s
   ·rw[ifP cs] at g4 ⊢
    exact .inr ⟨_,rfl,by dsimp only;rw[g4]⟩
   ·rw[ifN cs] at g4 ⊢
    have e3:0<=chO p s/\chO p s<t.operators.length:=by
     rcases e2 with e|e
     ·exact absurd (.inl (by omega)) cs
     ·exact⟨e.1,e.2.1⟩
    rw[ix_oo e3.1 e3.2]
    simp only[oB]
    by_cases ci:0<=i/\i<(ooAt t (chO p s)).outcomes.length
    ·rw[ifP ci] at g4
     rw[if_neg (show ¬ ((decide (i<0))||(decide (((ooAt t (chO p s)).outcomes.length:Int)<=i)))=true by rw[jo,decide_eq_true_eq,decide_eq_true_eq];omega),ix_x ci.1 ci.2]
     simp only[oB]
     rw[oUpdate_eq hn g2 ((ht.at e3.1 e3.2).xs _ (m9 (ix_x ci.1 ci.2))).1]
     simp only[oB]
     rw[app,if_pos (by simp;omega)]
     simp only[oB]
     rw[x9 (by omega) (by omega)]
     refine .inl ⟨_,rfl,⟨by dsimp only;omega,by dsimp only;omega,at1 _ _ _,by simp;omega,g4⟩,by dsimp only;omega⟩
    ·rw[ifN ci] at g4
     rw[if_pos (show((decide (i<0))||(decide (((ooAt t (chO p s)).outcomes.length:Int)<=i)))=true by rw[jo,decide_eq_true_eq,decide_eq_true_eq];omega)]
     exact .inr ⟨_,rfl,by dsimp only;rw[g4]⟩
  ·rw[if_neg cj]
   rw[jA (by omega),fol] at g4
   exact .inr ⟨_,rfl,by dsimp only;rw[g4]⟩)
 rw[r1]
 simp only[oB]
 exact r2
theorem rFollow_eq{t:d5}(ht:m8 t){p:List e9}(hp:F2 t p){outs:Li}(hl:outs.length<=60):ae7 t p outs=some (fol t p outs 0 [t.init] t.init):=by
 unfold ae7
 rw[if_neg (by omega)]
 rcases X3 (body:=an7 t p outs) (n:=(outs.length:Int)) (s:=[t.init]) (fun j c=>∃s,ix c j=some s/\c.length=j.toNat+1/\fol t p outs 0 [t.init] t.init=fol t p (outs.drop j.toNat) j c s) (fun o=>o=fol t p outs 0 [t.init] t.init) (by omega) ⟨t.init,rfl,by simp,by simp⟩ (fun j c j0 j1 ⟨s,k1,k2,k3⟩=>by
  obtain⟨i,hi,_⟩:=k6 (l:=outs) j0 j1
  rw[drop_ix hi,fol] at k3
  unfold an7
  rw[k1]
  simp only[oB,rChosen_chO]
  have key:(if chO p s<0 then some true else jp (ref8_Goal t s) fun a37=>some a37)=some (dec (chO p s<0\/∀x ∈ t.goal,x ∈ s)):=by
   unfold ref8_Goal
   rw[subset_eq,<- ifOr]
   simp only[oB]
   by_cases h:chO p s<0
   ·rw[if_pos h,ifP h]
   ·rw[if_neg h,ifN h]
  rw[key]
  simp only[oB]
  obtain⟨_,e2⟩:=ad6 hp s
  by_cases cs:chO p s<0\/∀x ∈ t.goal,x ∈ s
  ·rw[ifP cs] at k3 ⊢
   exact .inr ⟨_,rfl,k3.symm⟩
  ·rw[ifN cs] at k3 ⊢
   have e3:0<=chO p s/\chO p s<t.operators.length:=by
    rcases e2 with e|e
    ·exact absurd (.inl (by omega)) cs
    ·exact⟨e.1,e.2.1⟩
   have hlen:=(ht.at e3.1 e3.2).l1
   rw[ix_oo e3.1 e3.2,hi]
   simp only[oB,in_eq,at_eq,v6]
   rw[x9 (by omega) (by omega)]
   by_cases ci:0<=i/\i<(ooAt t (chO p s)).outcomes.length
   ·rw[ifP ci] at k3
    rw[ifN (show ¬ ¬ (0<=i/\i<=((ooAt t (chO p s)).outcomes.length:Int) - 1) by omega),ix_x ci.1 ci.2]
    simp only[oB,effect_eq ht]
    rw[app,if_pos (by simp;omega)]
    refine .inl ⟨_,rfl,efc t.facts s (xAt (ooAt t (chO p s)) i),?_,by simp;omega,k3⟩
    rw[show j+1=((c.length:Nat):Int) by omega,J2]
    simp
   ·rw[ifN ci] at k3
    rw[ifP (show ¬ (0<=i/\i<=((ooAt t (chO p s)).outcomes.length:Int) - 1) by omega)]
    exact .inr ⟨_,rfl,k3.symm⟩) with⟨c,r1,s,r2,r3,r4⟩|⟨o,r1,rfl⟩
 ·rw[r1,r4,jA (by omega)];rfl
 ·rw[r1];rfl
theorem oFollow_eq{t:d5}{p:List e9}{f:g8}(hv:x7 t p=some f)(outs:Li):O9 t p outs=if f.code ≠ 0\/f.index ≠ 0 then some ([],f) else if 60<(outs.length:Int) then some ([],⟨2, -5⟩) else(jp (k7 t.init) fun a28=>jp (k7 a28) fun a30=>jp (Loop (P3 t p outs) ([a30],a28,0)) fun| .inl c9=>some (c9,(⟨0,0⟩:g8))| .inr x=>some x):=by
 unfold O9
 rw[hv]
 simp only[oB]
 by_cases c:f.code ≠ 0\/f.index ≠ 0
 ·rw[if_pos c,if_pos]
  simp only[jO,jD,decide_eq_false_iff_not];exact c
 ·rw[if_neg c,if_neg (show ¬ (!((decide (f.code=0)) && (decide (f.index=0))))=true by
   simp only[jO,jD,decide_eq_false_iff_not];exact c)]
  rfl
theorem follow_all(t:d5)(p:List e9)(outs:Li):∃f,x7 t p=some f/\ai7 t p=some f/\((f.code ≠ 0/\O9 t p outs=some ([],f))\/(f=⟨0,0⟩/\m8 t/\F2 t p/\((60<outs.length/\O9 t p outs=some ([],⟨2, -5⟩)/\ae7 t p outs=some ([],⟨2, -5⟩))\/(outs.length<=60/\O9 t p outs=some (fol t p outs 0 [t.init] t.init)/\ae7 t p outs=some (fol t p outs 0 [t.init] t.init))))):=by
 obtain⟨f,h1,h2,h3⟩:=aw5 t p
 refine⟨f,h1,h2,?_⟩
 rcases h3 with⟨rfl,ht,hp⟩|⟨hc,_⟩
 ·refine .inr ⟨rfl,ht,hp,?_⟩
  rw[oFollow_eq h1,if_neg (by simp)]
  by_cases c:60<outs.length
  ·refine .inl ⟨c,by rw[if_pos (by omega)],?_⟩
   unfold ae7
   rw[if_pos (by omega),at_eq];rfl
  ·have:=ht.init.len
   have:=ht.n1
   refine .inr ⟨by omega,?_,rFollow_eq ht hp (by omega)⟩
   rw[if_neg (by omega),P6 (by omega)]
   simp only[oB]
   rw[P6 (by omega)]
   simp only[oB]
   exact follow_eq ht hp (by omega)
 ·exact .inl ⟨hc,by rw[oFollow_eq h1,if_pos (.inl hc)]⟩
end Ab
end
section
namespace Ab
open Go
def dzO(o:m5)(x:w8):h9:=⟨o.pre,x.add,x.del,o.cost⟩
structure Dz(t:d5)(a k:Int)(c:List (Int×Int))(d:List h9):Prop where
 len:c.length=d.length
 most:(c.length:Int)<=4 * a+k
 each:∀i p,ix c i=some p->(0<=p.1/\p.1<t.operators.length)/\∃x ∈ (ooAt t p.1).outcomes,ix d i=some (dzO (ooAt t p.1) x)
 all:∀(b m:Int) (x:w8),0<=b->b<t.operators.length->ix (ooAt t b).outcomes m=some x->(b<a\/b=a/\m<k)->∃i,ix c i=some (b,m)/\ix d i=some (dzO (ooAt t b) x)
theorem dz2{t:d5}(ht:m8 t){a:Int}(h0:0<=a)(h1:a<t.operators.length){k:Int}{x:w8}(hx:ix (ooAt t a).outcomes k=some x)(c:List (Int×Int))(d:List h9):z8 a (ooAt t a) k (c,d)=jp (app 80 d [dzO (ooAt t a) x]) fun a59=>jp (app 16 c [(a,k)]) fun a66=>some (a66,a59):=by
 have ho:=ht.at h0 h1
 have hn:=ht.n1
 have:=ho.pre.len;have:=(ho.xs x (m9 hx)).1.1.len;have:=(ho.xs x (m9 hx)).1.2.1.len
 unfold z8
 dsimp only
 rw[hx]
 simp only[oB]
 rw[P6 (by omega),P6 (by omega),P6 (by omega)]
 rfl
theorem dz_put{t:d5}{a k:Int}{x:w8}(h0:0<=a)(h1:a<t.operators.length)(hx:ix (ooAt t a).outcomes k=some x){c:List (Int×Int)}{d:List h9}(h:Dz t a k c d):Dz t a (k+1) (c++[(a,k)]) (d++[dzO (ooAt t a) x]):=by
 have old:∀{α:Type} {l:List α} {y z:α} {i:Int},ix l i=some y->ix (l++[z]) i=some y:=fun {α l y z i} hi=>by
  obtain⟨i0,i1,g⟩:=n7 hi
  rw[ix,if_pos i0,jg (by omega),g]
 have new:∀{α:Type} {l:List α} {z:α},ix (l++[z]) (l.length:Int)=some z:=fun {α l z}=>by rw[J2];simp
 refine⟨by simp[h.len],by have:=h.most;simp;omega,fun i p hi=> ?_,fun b m y b0 b1 hy hlt=> ?_⟩
 ·have ilo:=(n7 hi)
  by_cases e:i<c.length
  ·have:ix c i=some p:=by
    obtain⟨i0,i1,g⟩:=ilo
    rw[jg (by omega)] at g
    rw[ix,if_pos i0,g]
   obtain⟨g1,y,g2,g3⟩:=h.each i p this
   exact⟨g1,y,g2,old g3⟩
  ·have:i=(c.length:Int):=by have:=ilo.2.1;simp at this;omega
   subst this
   rw[new] at hi
   cases hi
   exact⟨⟨h0,h1⟩,x,m9 hx,by rw[h.len];exact new⟩
 ·by_cases e:b=a/\m=k
  ·obtain⟨rfl,rfl⟩:=e
   rw[hx] at hy;cases hy
   exact⟨(c.length:Int),new,by rw[h.len];exact new⟩
  ·obtain⟨i,g1,g2⟩:=h.all b m y b0 b1 hy (by omega)
   exact⟨i,old g1,old g2⟩
theorem dz_all{t:d5}(ht:m8 t):∃c d,forR 0 (t.operators.length:Int) (x6 t) ([],[])=some (c,d)/\Dz t t.operators.length 0 c d:=by
 have hops:=ht.ops
 obtain⟨⟨c,d⟩,r1,r2⟩:=z6 (body:=x6 t) (n:=(t.operators.length:Int)) (s:=([],[])) (fun a q=>Dz t a 0 q.1 q.2) (by omega) ⟨rfl,by simp,fun i p hi=>by simp[ix] at hi,fun b m x b0 _ hx hlt=>by have:=(n7 hx).1;omega⟩ (fun a ⟨c,d⟩ h0 h1 hP=>by
  dsimp only at hP
  have ho:=ht.at h0 h1
  have hl:=ho.l1
  unfold x6
  dsimp only
  rw[ix_oo h0 h1]
  simp only[oB]
  obtain⟨⟨c',d'⟩,q1,q2⟩:=z6 (body:=z8 a (ooAt t a)) (n:=((ooAt t a).outcomes.length:Int)) (s:=(c,d)) (fun k q=>Dz t a k q.1 q.2) (by omega) hP (fun k ⟨c,d⟩ k0 k1 hP=>by
   dsimp only at hP
   obtain⟨x,hx,_⟩:=k6 (l:=(ooAt t a).outcomes) k0 k1
   rw[dz2 ht h0 h1 hx]
   have:=hP.most;have:=hP.len
   rw[app,if_pos (by simp;omega)]
   simp only[oB]
   rw[app,if_pos (by simp;omega)]
   exact⟨_,rfl,dz_put h0 h1 hx hP⟩)
  rw[q1]
  refine⟨_,rfl,?_⟩
  dsimp only at q2 ⊢
  refine⟨q2.len,by have:=q2.most;omega,q2.each,fun b m x b0 b1 hx hlt=>q2.all b m x b0 b1 hx ?_⟩
  by_cases e:b=a
  ·subst e;exact .inr ⟨rfl,(n7 hx).2.1⟩
  ·have:=(n7 hx).1
   exact .inl (by omega))
 exact⟨c,d,r1,r2⟩
theorem ay3{t:d5}(ht:m8 t):∃c d,forR 0 (t.operators.length:Int) (x6 t) ([],[])=some (c,d)/\Dz t t.operators.length 0 c d/\D3 t=if 40<(c.length:Int) then some (⟨0,[],[],[]⟩,[],⟨10, -1⟩) else some (⟨t.facts,t.init,t.goal,d⟩,c,⟨0,0⟩):=by
 obtain⟨f,h1,_,h3⟩:=V2 t
 rcases h3 with⟨rfl,_⟩|⟨_,hn⟩
 ·obtain⟨c,d,r1,r2⟩:=dz_all ht
  refine⟨c,d,r1,r2,?_⟩
  have:=ht.init.len;have:=ht.goal.len;have:=ht.n1
  unfold D3
  rw[h1]
  simp only[oB]
  rw[if_neg (by simp),P6 (by omega),P6 (by omega),r1]
  rfl
 ·exact absurd ht hn
theorem determinize_bad{t:d5}{f:g8}(hv:D9 t=some f)(hc:f.code ≠ 0):D3 t=some (⟨0,[],[],[]⟩,[],f):=by
 unfold D3
 rw[hv]
 simp only[oB]
 rw[if_pos (am9 hc)]
theorem dz_task{t:d5}(ht:m8 t){c:List (Int×Int)}{d:List h9}(h:Dz t t.operators.length 0 c d)(hl:c.length<=40):I1 ⟨t.facts,t.init,t.goal,d⟩ where
 n0:=ht.n0
 n1:=ht.n1
 init:=ht.init
 goal:=ht.goal
 ops:=by have:=h.len;dsimp only;omega
 op o ho:=by
  obtain⟨i,i0,i1,hi⟩:=s6 (show o ∈ d from ho)
  obtain⟨p,hp,_⟩:=k6 (l:=c) (i:=i) i0 (by rw[h.len];exact i1)
  obtain⟨g1,x,g2,g3⟩:=h.each i p hp
  rw[hi] at g3
  cases g3
  have hO:=ht.at g1.1 g1.2
  obtain⟨x1,x2,x3⟩:=(hO.xs x g2).1
  exact⟨⟨hO.pre,x1,x2,x3⟩,hO.c0,hO.c1⟩
end Ab
end
section
namespace Ab
open Go
def dg(x:Int):Li:=if x<10 then [48+x] else [48+x / 10,48+x % 10]
def encS(s:Li):Li:=s.flatMap (fun x=>dg x++[44])++[59]
def encK(l:LL):Li:=l.flatMap encS
def small(s:Li):Prop:=∀x ∈ s,0<=x/\x<100
theorem dg_split{x y:Int}(hx:0<=x/\x<100)(hy:0<=y/\y<100){r r':Li}(h:dg x++44::r=dg y++44::r'):x=y/\r=r':=by
 unfold dg at h
 split at h<;>split at h<;>simp only[jr,ju,List.cons.injEq] at h
 ·exact⟨by omega,h.2.2⟩
 ·exfalso;omega
 ·exfalso;omega
 ·exact⟨by omega,h.2.2.2⟩
theorem dg_head{x:Int}(hx:0<=x/\x<100):∃a l,dg x=a::l/\48<=a/\a<58:=by
 unfold dg
 split
 ·exact⟨_,_,rfl,by omega,by omega⟩
 ·exact⟨_,_,rfl,by omega,by omega⟩
theorem ap8(x:Int)(s:Li):encS (x::s)=dg x++44::encS s:=by simp[encS]
theorem encS_inj:∀{s s' r r':Li},small s->small s'->encS s++r=encS s'++r'->s=s'/\r=r'
 |[],[],r,r',_,_,h=>by simp[encS] at h;exact⟨rfl,h⟩
 |[],y::s',r,r',_,h2,h=>by
  obtain⟨a,l,ha,h3,h4⟩:=dg_head (h2 y (by simp))
  rw[ap8,ha] at h
  simp only[encS,jn,ju,jr,List.cons.injEq] at h
  omega
 |x::s,[],r,r',h1,_,h=>by
  obtain⟨a,l,ha,h3,h4⟩:=dg_head (h1 x (by simp))
  rw[ap8,ha] at h
  simp only[encS,jn,ju,jr,List.cons.injEq] at h
  omega
 |x::s,y::s',r,r',h1,h2,h=>by
  rw[ap8,ap8,jw,jw,jr,jr] at h
  obtain⟨rfl,g⟩:=dg_split (h1 x (by simp)) (h2 y (by simp)) h
  obtain⟨e1,e2⟩:=encS_inj (s:=s) (s':=s') (fun z hz=>h1 z (jc _ hz)) (fun z hz=>h2 z (jc _ hz)) g
  exact⟨by rw[e1],e2⟩
theorem encK_inj:∀{l l':LL},(∀s ∈ l,small s)->(∀s ∈ l',small s)->encK l=encK l'->l=l'
 |[],[],_,_,_=>rfl
 |[],s::l',_,_,h=>by
  have h:=congrArg jS h
  simp only[encK,encS,jn,jq,jb,List.length_nil,jh] at h
  omega
 |s::l,[],_,_,h=>by
  have h:=congrArg jS h
  simp only[encK,encS,jn,jq,jb,List.length_nil,jh] at h
  omega
 |s::l,s'::l',h1,h2,h=>by
  have h:encS s++encK l=encS s'++encK l':=h
  obtain⟨e1,e2⟩:=encS_inj (h1 s (js ..)) (h2 s' (js ..)) h
  have e3:=encK_inj (l:=l) (l':=l') (fun z hz=>h1 z (jc _ hz)) (fun z hz=>h2 z (jc _ hz)) e2
  rw[e1,e3]
theorem dg_byte{x:Int}(hx:0<=x/\x<100):∀a ∈ dg x,0<=a/\a<256:=by
 intro a ha
 unfold dg at ha
 split at ha<;>simp at ha<;>omega
theorem encS_byte{s:Li}(h:small s):∀a ∈ encS s,0<=a/\a<256:=by
 intro a ha
 simp only[encS,jd,jy,ja] at ha
 rcases ha with⟨x,hx,h1|h1⟩|h1
 ·exact dg_byte (h x hx) a h1
 ·omega
 ·omega
theorem encK_byte{l:LL}(h:∀s ∈ l,small s):∀a ∈ encK l,0<=a/\a<256:=by
 intro a ha
 simp only[encK,jy] at ha
 obtain⟨s,hs,h1⟩:=ha
 exact encS_byte (h s hs) a h1
theorem strB_inj{l l':Li}(h1:∀a ∈ l,0<=a/\a<256)(h2:∀a ∈ l',0<=a/\a<256)(h:strB l=strB l'):l=l':=by
 have h3:l.map (fun n=>UInt8.ofNat n.toNat)=l'.map (fun n=>UInt8.ofNat n.toNat):=by
  have:=congrArg ByteArray.data h
  simpa[strB] using this
 have back:∀{m:Li},(∀a ∈ m,0<=a/\a<256)->(m.map (fun n=>UInt8.ofNat n.toNat)).map (fun b=>(b.toNat:Int))=m:=by
  intro m hm
  rw[List.map_map]
  conv=>rhs;rw[<- List.map_id m]
  apply List.map_congr_left
  intro a ha
  have:=hm a ha
  simp only[Function.comp_apply,id_eq,UInt8.toNat_ofNat']
  omega
 rw[<- back h1,<- back h2,h3]
def keyK(l:LL):ByteArray:=strB (encK l)
theorem keyK_inj{l l':LL}(h1:∀s ∈ l,small s)(h2:∀s ∈ l',small s)(h:keyK l=keyK l'):l=l':=encK_inj h1 h2 (strB_inj (encK_byte h1) (encK_byte h2) h)
/-! ### Maps -/
theorem aj5{K V:Type}[DecidableEq K](k k':K)(v:V):∀m:List (K×V),mget (mset m k v) k'=if k'=k then some v else mget m k'
 |[]=>by
  simp only[mset,mget]
 |p::r=>by
  simp only[mset]
  by_cases h:k=p.1
  ·rw[if_pos h]
   simp only[mget]
   by_cases h2:k'=k
   ·rw[if_pos h2,if_pos h2]
   ·rw[if_neg h2,if_neg h2,if_neg (by rw[<- h];exact h2)]
  ·rw[if_neg h]
   simp only[mget]
   rw[aj5 k k' v r]
   by_cases h2:k'=p.1
   ·rw[if_pos h2,if_pos h2,if_neg (fun e=>h (e.symm.trans h2))]
   ·rw[if_neg h2,if_neg h2]
end Ab
end
section
namespace Ab
open Go
theorem aC3{α β:Type}{l:List α}{body:Int->List β->Option (List β)}(g:α->List β)(N:Nat)(c0:List β)
  (hb:∀j a c,ix l j=some a->c.length+(g a).length<=N->body j c=some (c++g a)) (hN:c0.length+(l.flatMap g).length<=N):
  forR 0 (l.length:Int) body c0=some (c0++l.flatMap g):=by
 obtain⟨s',h1,h2⟩:=z6 (body:=body) (n:=(l.length:Int)) (s:=c0) (fun j c=>c=c0++(l.take j.toNat).flatMap g) (by omega) (by simp) (fun j c h0 h1 hP=>by
  obtain⟨a,g1,g2⟩:=k6 h0 h1
  have e:(j+1).toNat=j.toNat+1:=by omega
  have ht:l.take (j+1).toNat=l.take j.toNat++[a]:=by rw[e,jP,g2];rfl
  refine⟨c++g a,hb j a c g1 ?_,?_⟩
  ·have hs:l=l.take j.toNat++[a]++l.drop (j+1).toNat:=by rw[<- ht,jE]
   have hl:(l.flatMap g).length=((l.take j.toNat).flatMap g).length+(g a).length+((l.drop (j+1).toNat).flatMap g).length:=by
    conv=>lhs;rw[hs]
    simp[jK];omega
   rw[hP,jb];omega
  ·rw[ht,jK,hP];simp)
 rw[h1,h2]
 simp
theorem small_eq:∀n:Fin 100,(internal_strconv_small (n:Nat)).map strL=some (dg (n:Nat)):=by decide+kernel
theorem appendInt_eq{x:Int}(hx:0<=x/\x<100){l:Li}(hl:l.length<=1000000):E3 x 10 l=some (l++dg x):=by
 have h:=small_eq ⟨x.toNat,by omega⟩
 rw[show(((⟨x.toNat,by omega⟩:Fin 100):Nat):Int)=x by simp;omega] at h
 obtain⟨b,h1,h2⟩:=oM.1 h
 first
  |unfold E3 D2 C3
  |unfold E3 internal_strconv_AppendInt_w2 internal_strconv_AppendUint_w3
 rw[if_neg (by omega),IntKind.wrap_u64,Int.emod_eq_of_lt (by omega) (by omega)]
 simp only[oB,if_true]
 rw[if_pos hx.2,x9 (by omega) (by omega),h1]
 simp only[oB,h2]
 have:(dg x).length<=2:=by unfold dg;split<;>simp
 rw[app,if_pos (by omega)]
 rfl
theorem dg_len(x:Int):(dg x).length<=2:=by unfold dg;split<;>simp
theorem key_eq{l:LL}(hs:∀s ∈ l,small s)(hN:(encK l).length<=900000):C6 l=some (keyK l):=by
 unfold C6
 rw[aC3 encS 900000 [] (fun j s c hj hc=>by
  unfold aq7
  rw[hj]
  simp only[oB]
  have hlen:(encS s).length=(s.flatMap fun x=>dg x++[44]).length+1:=by simp[encS]
  rw[aC3 (fun x=>dg x++[44]) 900000 c (fun i x c' hi hc'=>by
   unfold aq4
   rw[hi]
   simp only[jb,ji] at hc'
   simp only[oB,appendInt_eq (hs s (m9 hj) x (m9 hi)) (l:=c') (by omega)]
   rw[app,if_pos (by simp;omega)]
   simp) (by omega)]
  simp only[oB]
  rw[app,if_pos (by rw[jb];simp only[ji];omega)]
  simp[encS]) (by simpa[encK] using hN)]
 rfl
theorem encS_len:∀s:Li,(encS s).length<=3 * s.length+1
 |[]=>by simp[encS]
 |x::s=>by
  have:=encS_len s
  have:=dg_len x
  rw[ap8]
  simp only[jb,jh]
  omega
end Ab
end
section
namespace Ab
open Go
/-! ### Loops side by side -/
theorem rngN_sim{S1 S2 O1 O2:Type}{b1:Int->S1->Option (S1⊕O1)}{b2:Int->S2->Option (S2⊕O2)}(R:Int->S1->S2->Prop)(Q:O1->O2->Prop):∀(k:Nat) (i:Int) (s1:S1) (s2:S2),R i s1 s2->
  (∀j s1 s2,i<=j->j<i+k->R j s1 s2->(∃t1 t2,b1 j s1=some (.inl t1)/\b2 j s2=some (.inl t2)/\R (j+1) t1 t2)\/∃o1 o2,b1 j s1=some (.inr o1)/\b2 j s2=some (.inr o2)/\Q o1 o2)->
  (∃t1 t2,rngN b1 k i s1=some (.inl t1)/\rngN b2 k i s2=some (.inl t2)/\R (i+k) t1 t2)\/∃o1 o2,rngN b1 k i s1=some (.inr o1)/\rngN b2 k i s2=some (.inr o2)/\Q o1 o2
 |0,i,s1,s2,h,_=>.inl ⟨s1,s2,rfl,rfl,by simpa using h⟩
 |k+1,i,s1,s2,h,hb=>by
  rcases hb i s1 s2 (jt _) (by omega) h with⟨t1,t2,h1,h2,h3⟩|⟨o1,o2,h1,h2,h3⟩
  ·rcases rngN_sim R Q k (i+1) t1 t2 h3 (fun j s1 s2 g1 g2=>hb j s1 s2 (by omega) (by omega)) with⟨u1,u2,g1,g2,g3⟩|⟨o1,o2,g1,g2,g3⟩
   ·exact .inl ⟨u1,u2,by simp only[rngN,h1];exact g1,by simp only[rngN,h2];exact g2,by rw[show i+((k+1:Nat):Int)=i+1+k by omega];exact g3⟩
   ·exact .inr ⟨o1,o2,by simp only[rngN,h1];exact g1,by simp only[rngN,h2];exact g2,g3⟩
  ·exact .inr ⟨o1,o2,by simp only[rngN,h1],by simp only[rngN,h2],h3⟩
theorem rngX_sim{S1 S2 O1 O2:Type}{b1:Int->S1->Option (S1⊕O1)}{b2:Int->S2->Option (S2⊕O2)}{n:Int}(R:Int->S1->S2->Prop)(Q:O1->O2->Prop){s1:S1}{s2:S2}(hn:0<=n)(h0:R 0 s1 s2)
  (hb:∀j s1 s2,0<=j->j<n->R j s1 s2->(∃t1 t2,b1 j s1=some (.inl t1)/\b2 j s2=some (.inl t2)/\R (j+1) t1 t2)\/∃o1 o2,b1 j s1=some (.inr o1)/\b2 j s2=some (.inr o2)/\Q o1 o2):
  (∃t1 t2,rngX 0 n b1 s1=some (.inl t1)/\rngX 0 n b2 s2=some (.inl t2)/\R n t1 t2)\/∃o1 o2,rngX 0 n b1 s1=some (.inr o1)/\rngX 0 n b2 s2=some (.inr o2)/\Q o1 o2:=by
 rcases rngN_sim R Q (n - 0).toNat 0 s1 s2 h0 (fun j s1 s2 g1 g2=>hb j s1 s2 g1 (by omega)) with⟨t1,t2,h1,h2,h3⟩|h
 ·exact .inl ⟨t1,t2,h1,h2,by rwa [show(0:Int)+((n - 0).toNat:Int)=n by omega] at h3⟩
 ·exact .inr h
theorem Loop_sim{S1 S2 O1 O2:Type}{b1:S1->Option (S1⊕O1)}{b2:S2->Option (S2⊕O2)}(R:S1->S2->Prop)(Q:O1->O2->Prop)(μ:S1->Nat)
  (hb:∀s1 s2,R s1 s2->(∃t1 t2,b1 s1=some (.inl t1)/\b2 s2=some (.inl t2)/\R t1 t2/\μ t1<μ s1)\/∃o1 o2,b1 s1=some (.inr o1)/\b2 s2=some (.inr o2)/\Q o1 o2):
  ∀(k:Nat) (s1:S1) (s2:S2),μ s1<k->R s1 s2->∃o1 o2,Loop b1 s1=some o1/\Loop b2 s2=some o2/\Q o1 o2
 |0,_,_,h,_=>by omega
 |k+1,s1,s2,h,hs=>by
  rcases hb s1 s2 hs with⟨t1,t2,h1,h2,h3,h4⟩|⟨o1,o2,h1,h2,h3⟩
  ·obtain⟨o1,o2,g1,g2,g3⟩:=Loop_sim R Q μ hb k t1 t2 (by omega) h3
   exact⟨o1,o2,by rw[ae0,h1];exact g1,by rw[ae0,h2];exact g2,g3⟩
  ·exact⟨o1,o2,by rw[ae0,h1],by rw[ae0,h2],h3⟩
theorem SetN.small{s:Li}{n:Int}(h:SetN s n)(hn:n<=24):small s:=fun x hx=>by have:=h.2 x hx;omega
theorem key1_eq{s:Li}(hs:small s)(h1:s.length<=1000):C6 [s]=some (keyK [s]):=by
 refine key_eq (by simpa using hs) ?_
 have:=encS_len s
 simp only[encK,jq,jn,jb,List.append_nil]
 omega
theorem SetN.key_inj{s s':Li}{n:Int}(hn:n<=24)(h:SetN s n)(h':SetN s' n)(e:keyK [s]=keyK [s']):s=s':=by
 have:=keyK_inj (l:=[s]) (l':=[s']) (by simpa using h.small hn) (by simpa using h'.small hn) e
 simpa using this
theorem oAfter_eq{t:d5}(ht:m8 t){op:Int}(h0:0<=op)(h1:op<t.operators.length){s:Li}(hs:SetN s t.facts):aA9 t s op=H7 t s op:=by
 obtain⟨st,w,r1,r2,r3,r4,r5,r6⟩:=Y4 ht h0 h1 hs
 have ho:=ht.at h0 h1
 have hl:=ho.l1
 have hn:=ht.n1
 rw[r1]
 unfold aA9
 rw[ix_oo h0 h1]
 simp only[oB]
 obtain⟨l,a1,a2,a3,a4,a5⟩:=z6 (body:=aq3 t s (ooAt t op)) (n:=((ooAt t op).outcomes.length:Int)) (s:=[]) (fun j l=>Ord l/\(l.length:Int)<=j/\(∀y ∈ l,y.length<=24)/\∀y,y ∈ l↔∃k x,k<j/\ix (ooAt t op).outcomes k=some x/\efc t.facts s x=y) (by omega) ⟨.nil,by simp,by simp,fun y=>⟨fun h=>by(cases h),fun⟨k,x,k1,k2,_⟩=>by have:=(n7 k2).1;omega⟩⟩ (fun j l j0 j1 ⟨p1,p2,p3,p4⟩=>by
  obtain⟨x,hx,_⟩:=k6 (l:=(ooAt t op).outcomes) j0 j1
  unfold aq3
  rw[hx]
  simp only[oB,effect_eq ht]
  obtain⟨l',m1,m2,m3,m4⟩:=insert_eq p1 (by omega) (fun y hy=>by have:=p3 y hy;omega) (efc t.facts s x)
  rw[m1]
  have e24:=(at1 t.facts s x).len
  refine⟨l',rfl,m2,by omega,fun y hy=> ?_,fun y=> ?_⟩
  ·rcases(m3 y).1 hy with rfl|h
   ·omega
   ·exact p3 y h
  ·rw[m3,p4]
   constructor
   ·rintro (rfl|⟨k,x',k1,k2⟩)
    ·exact⟨j,x,by omega,hx,rfl⟩
    ·exact⟨k,x',by omega,k2⟩
   ·rintro ⟨k,x',k1,k2,k3⟩
    by_cases ek:k=j
    ·subst ek
     rw[hx] at k2;cases k2
     exact .inl k3.symm
    ·exact .inr ⟨k,x',by omega,k2,k3⟩)
 have hst:l=st:=Ord.ext a2 r2 fun y=>by
  rw[a5,r3]
  constructor
  ·rintro ⟨k,x,_,k2,k3⟩;exact⟨x,m9 k2,k3⟩
  ·rintro ⟨x,hx,k3⟩
   obtain⟨k,k0,k1,k2⟩:=s6 hx
   exact⟨k,x,k1,k2,k3⟩
 subst hst
 have hm:mkL 8 (l.length:Int) (0:Int)=some (jf l.length 0):=by
  rw[mkL,if_pos (by omega)];simp
 rw[a1]
 simp only[oB,hm]
 have e:forR 0 ((ooAt t op).outcomes.length:Int) (aq2 t s (ooAt t op) l) (jf l.length 0)=some w:=by
  rw[<- r6]
  refine forR_congr fun j c j0 j1=> ?_
  obtain⟨x,hx,_⟩:=k6 (l:=(ooAt t op).outcomes) j0 j1
  obtain⟨i,e1,e2,e3⟩:=bsets_eq (t:=efc t.facts s x) r2 (by omega)
  obtain⟨r,g1,g2⟩:=place_eq l (efc t.facts s x)
  unfold aq2 M3
  rw[hx,ix_map,hx]
  simp only[oB,jz,effect_eq ht,e1,g1]
  rcases g2 with⟨_,h⟩|⟨_,_,h,_⟩
  ·exact absurd ((r3 _).2 ⟨x,m9 hx,rfl⟩) h
  ·rw[e3 r h]
 rw[e]
 rfl
end Ab
end
section
namespace Ab
open Go
def Ext(a b:LL):Prop:=∀k y,ix a k=some y->ix b k=some y
theorem Ext.refl(a:LL):Ext a a:=fun _ _ h=>h
theorem Ext.mem{a b:LL}(h:Ext a b){y:Li}(hy:y ∈ a):y ∈ b:=by
 obtain⟨k,_,_,hk⟩:=s6 hy
 exact m9 (h k y hk)
theorem Ext.snoc{a b:LL}(h:Ext a b)(z:Li):Ext a (b++[z]):=fun k y hk=>by
 obtain⟨i0,i1,g⟩:=n7 (h k y hk)
 rw[ix,if_pos i0,jg (by omega),g]
theorem Ext.len{a b:LL}(h:Ext a b):a.length<=b.length:=by
 by_cases c:a.length=0
 ·omega
 ·obtain⟨y,hy,_⟩:=k6 (l:=a) (i:=(a.length:Int) - 1) (by omega) (by omega)
  have:=(n7 (h _ y hy)).2.1
  omega
structure Rc(t:d5)(l:LL)(m:List (ByteArray×Int))(ws:Li):Prop where
 set:∀s ∈ l,SetN s t.facts
 len:l.length<=2000
 map:∀s,SetN s t.facts->(0<Option.getD (mget m (keyK [s])) 0↔s ∈ l)
 wrd:ws=l.map fun s=>(wsN s:Int)
theorem Rc.has{t:d5}{l:LL}{m:List (ByteArray×Int)}{ws:Li}(h:Rc t l m ws){s:Li}(hs:SetN s t.facts):(wsN s:Int) ∈ ws↔s ∈ l:=by
 rw[h.wrd,je]
 constructor
 ·rintro ⟨a,ha,e⟩
  have:a=s:=(h.set a ha).word_inj hs (by omega)
  exact this ▸ ha
 ·intro hm;exact⟨s,hm,rfl⟩
theorem Rc.put{t:d5}(hn:t.facts<=24){l:LL}{m:List (ByteArray×Int)}{ws:Li}(h:Rc t l m ws){s:Li}(hs:SetN s t.facts)(hl:l.length<2000):Rc t (l++[s]) (mset m (keyK [s]) 1) (ws++[(wsN s:Int)]):=by
 refine⟨fun y hy=> ?_,by simp;omega,fun y hy=> ?_,by rw[h.wrd];simp⟩
 ·rcases jd.1 hy with g|g
  ·exact h.set y g
  ·simp only[ja] at g;subst g;exact hs
 ·rw[aj5,jd,ja]
  by_cases e:keyK [y]=keyK [s]
  ·have:=SetN.key_inj hn hy hs e
   subst this
   rw[if_pos rfl]
   simp
  ·rw[if_neg e,h.map y hy]
   constructor
   ·exact .inl
   ·rintro (g|g)
    ·exact g
    ·exact absurd (by rw[g]) e
theorem reach4{t:d5}(ht:m8 t){st:LL}{w:Li}(hst:∀y ∈ st,SetN y t.facts){l0:LL}{m0:List (ByteArray×Int)}{ws0:Li}(h0:Rc t l0 m0 ws0):
  (∃p q,rngX 0 (st.length:Int) (R6 (st,w)) (l0,m0)=some (.inl p)/\rngX 0 (st.length:Int) (U3 2000 (st,w)) (l0,ws0)=some (.inl q)/\q.1=p.1/\Rc t p.1 p.2 q.2/\Ext l0 p.1/\∀y ∈ st,y ∈ p.1)\/∃o1 o2,rngX 0 (st.length:Int) (R6 (st,w)) (l0,m0)=some (.inr o1)/\rngX 0 (st.length:Int) (U3 2000 (st,w)) (l0,ws0)=some (.inr o2)/\o1=([],false)/\o2=([],false):=by
 have hn:=ht.n1
 rcases rngX_sim (b1:=R6 (st,w)) (b2:=U3 2000 (st,w)) (n:=(st.length:Int)) (s1:=(l0,m0)) (s2:=(l0,ws0)) (fun j p q=>q.1=p.1/\Rc t p.1 p.2 q.2/\Ext l0 p.1/\∀k y,k<j->ix st k=some y->y ∈ p.1) (fun o1 o2=>o1=([],false)/\o2=([],false)) (by omega) ⟨rfl,h0,.refl _,fun k y k0 hk=>by have:=(n7 hk).1;omega⟩ (fun j ⟨l,m⟩ ⟨l',ws⟩ j0 j1 ⟨e,g1,g2,g3⟩=>by
  dsimp only at e g1 g2 g3
  subst e
  obtain⟨y,hy,_⟩:=k6 (l:=st) j0 j1
  have hs:=hst y (m9 hy)
  have hyl:=hs.len
  unfold R6 U3
  dsimp only
  rw[hy]
  simp only[oB]
  rw[key1_eq (hs.small hn) (by omega),word_eq hs hn]
  simp only[oB,has_eq]
  have mono:∀{l2:LL},Ext l' l2->y ∈ l2->∀k z,k<j+1->ix st k=some z->z ∈ l2:=fun h1 h2 k z hk hz=>by
   by_cases ek:k=j
   ·subst ek;rw[hy] at hz;cases hz;exact h2
   ·exact h1.mem (g3 k z (by omega) hz)
  by_cases c:y ∈ l'
  ·rw[if_pos ((g1.map y hs).2 c),ifP ((g1.has hs).2 c)]
   exact .inl ⟨_,_,rfl,rfl,rfl,g1,g2,mono (.refl _) c⟩
  ·rw[if_neg (fun h=>c ((g1.map y hs).1 h)),ifN (fun h=>c ((g1.has hs).1 h))]
   have hlen:=g1.len
   by_cases c2:(l'.length:Int)=2000
   ·rw[if_pos c2,if_pos (by omega)]
    exact .inr ⟨_,_,rfl,rfl,rfl,rfl⟩
   ·rw[if_neg c2,if_neg (by omega),app,if_pos (by simp;omega)]
    simp only[oB]
    rw[app,if_pos (by rw[g1.wrd];simp;omega)]
    exact .inl ⟨_,_,rfl,rfl,rfl,g1.put hn hs (by omega),g2.snoc _,mono ((Ext.refl _).snoc _) (by simp)⟩) with⟨p,q,h1,h2,h3,h4,h5,h6⟩|h
 ·refine .inl ⟨p,q,h1,h2,h3,h4,h5,fun y hy=> ?_⟩
  obtain⟨k,_,k1,hk⟩:=s6 hy
  exact h6 k y k1 hk
 ·exact .inr h
def ClS(t:d5)(l:LL)(s:Li)(n:Int):Prop:=∀op:Int,0<=op->op<n->oCan t s op->∀x ∈ (ooAt t op).outcomes,efc t.facts s x ∈ l
theorem ClS.ext{t:d5}{l l':LL}{s:Li}{n:Int}(h:ClS t l s n)(e:Ext l l'):ClS t l' s n:=fun op h0 h1 hc x hx=>e.mem (h op h0 h1 hc x hx)
theorem reach2{t:d5}(ht:m8 t){l0:LL}{m0:List (ByteArray×Int)}{ws0:Li}(h0:Rc t l0 m0 ws0){at_:Int}{s:Li}(hs:ix l0 at_=some s):
  (∃p q,rngX 0 (t.operators.length:Int) (R9 t at_) (l0,m0)=some (.inl p)/\rngX 0 (t.operators.length:Int) (S7 t 2000 at_) (l0,ws0)=some (.inl q)/\q.1=p.1/\Rc t p.1 p.2 q.2/\Ext l0 p.1/\ClS t p.1 s t.operators.length)\/∃o1 o2,rngX 0 (t.operators.length:Int) (R9 t at_) (l0,m0)=some (.inr o1)/\rngX 0 (t.operators.length:Int) (S7 t 2000 at_) (l0,ws0)=some (.inr o2)/\o1=([],false)/\o2=([],false):=by
 have hset:=h0.set s (m9 hs)
 exact rngX_sim (b1:=R9 t at_) (b2:=S7 t 2000 at_) (n:=(t.operators.length:Int)) (s1:=(l0,m0)) (s2:=(l0,ws0)) (fun j p q=>q.1=p.1/\Rc t p.1 p.2 q.2/\Ext l0 p.1/\ClS t p.1 s j) (fun o1 o2=>o1=([],false)/\o2=([],false)) (by omega) ⟨rfl,h0,.refl _,fun op a b=>by omega⟩ (fun j ⟨l,m⟩ ⟨l',ws⟩ j0 j1 ⟨e,g1,g2,g3⟩=>by
  dsimp only at e g1 g2 g3
  subst e
  unfold R9 S7
  dsimp only
  rw[g2 _ _ hs]
  simp only[oB]
  rw[oCan_eq ht j0 j1 hset,oApplies_eq j0 j1]
  simp only[oB,v6]
  have step:∀{l2:LL},Ext l' l2->(oCan t s j->∀x ∈ (ooAt t j).outcomes,efc t.facts s x ∈ l2)->ClS t l2 s (j+1):=fun h1 h2 op a b hc x hx=>by
   by_cases eo:op=j
   ·subst eo;exact h2 hc x hx
   ·exact h1.mem (g3 op a (by omega) hc x hx)
  by_cases c:oCan t s j
  ·rw[ifNN c,ifNN c,oAfter_eq ht j0 j1 hset]
   obtain⟨st,w,r1,r2,r3,_⟩:=Y4 ht j0 j1 hset
   rw[r1]
   simp only[oB]
   rcases reach4 ht (st:=st) (w:=w) (fun y hy=>by
    obtain⟨x,_,rfl⟩:=(r3 y).1 hy
    exact at1 _ _ _) g1 with⟨p,q,h1,h2,h3,h4,h5,h6⟩|⟨o1,o2,h1,h2,h3,h4⟩
   ·rw[h1,h2]
    refine .inl ⟨p,q,rfl,rfl,h3,h4,fun k y hk=>h5 k y (g2 k y hk),step h5 fun _ x hx=>h6 _ ((r3 _).2 ⟨x,hx,rfl⟩)⟩
   ·rw[h1,h2]
    exact .inr ⟨o1,o2,rfl,rfl,h3,h4⟩
  ·rw[ifP c,ifP c]
   exact .inl ⟨_,_,rfl,rfl,rfl,g1,g2,step (.refl _) fun h=>absurd h c⟩)
structure Cl(t:d5)(l:LL):Prop where
 len:l.length<=2000
 set:∀s ∈ l,SetN s t.facts
 init:t.init ∈ l
 closed:∀s ∈ l,ClS t l s t.operators.length
theorem reach_full{t:d5}(ht:m8 t):(∃out,N8 t=some (out,true)/\ab4 t 2000=some (out,true)/\Cl t out/\Ord out/\∃l,Loop (aa7 t 2000) ([t.init],[(wsN t.init:Int)],0)=some (.inl l)/\out.length<=l.length)\/(N8 t=some ([],false)/\ab4 t 2000=some ([],false)):=by
 have hn:=ht.n1
 have hi:=ht.init
 have hil:=hi.len
 unfold N8 ab4
 rw[P6 (by omega)]
 simp only[oB]
 rw[key1_eq (hi.small hn) (by omega),word_eq hi hn]
 simp only[oB]
 rw[app,if_pos (by simp)]
 simp only[oB,ju]
 have r0:Rc t [t.init] (mset ([]:List (ByteArray×Int)) (keyK [t.init]) 1) [(wsN t.init:Int)]:=by
  refine⟨by simpa using hi,by simp,fun s hs=> ?_,rfl⟩
  rw[aj5]
  by_cases e:keyK [s]=keyK [t.init]
  ·rw[if_pos e,SetN.key_inj hn hs hi e];simp
  ·rw[if_neg e]
   simp only[mget,ja,jT]
   exact⟨fun h=>by omega,fun h=>absurd (by rw[h]) e⟩
 obtain⟨o1,o2,q1,q2,q3⟩:=Loop_sim (b1:=ag2 t) (b2:=aa7 t 2000) (fun p q=>q.1=p.1/\q.2.2=p.2.2/\Rc t p.1 p.2.1 q.2.1/\0<=p.2.2/\p.2.2<=p.1.length/\t.init ∈ p.1/\∀i s,i<p.2.2->ix p.1 i=some s->ClS t p.1 s t.operators.length) (fun o1 o2=>(∃l,o1=.inl l/\o2=.inl l/\Cl t l)\/(o1=.inr ([],false)/\o2=.inr ([],false))) (fun p=>(2000 - p.2.2).toNat) (fun⟨l,m,a⟩ ⟨l',ws,a'⟩ ⟨e1,e2,g1,g2,g3,g4,g5⟩=>by
  dsimp only at e1 e2 g1 g2 g3 g4 g5
  subst e1 e2
  have hlen:=g1.len
  unfold ag2 aa7
  dsimp only
  by_cases c:a'<l'.length
  ·rw[if_pos c,if_pos c]
   obtain⟨s,hs,_⟩:=k6 (l:=l') g2 c
   rcases reach2 ht g1 hs with⟨p,q,h1,h2,h3,h4,h5,h6⟩|⟨o1,o2,h1,h2,h3,h4⟩
   ·rw[h1,h2]
    have:=h5.len
    have:=h4.len
    simp only[oB]
    rw[x9 (by omega) (by omega)]
    refine .inl ⟨_,_,rfl,rfl,⟨h3,rfl,h4,by dsimp only;omega,by dsimp only;omega,h5.mem g4,fun i s' hi' hs'=> ?_⟩,by dsimp only;omega⟩
    dsimp only at hi' hs' ⊢
    by_cases ei:i=a'
    ·subst ei
     rw[h5 _ _ hs] at hs';cases hs'
     exact h6
    ·obtain⟨y,hy,_⟩:=k6 (l:=l') (i:=i) (n7 hs').1 (by omega)
     have hy2:=h5 _ _ hy
     rw[hs'] at hy2
     cases hy2
     exact(g5 i s' (by omega) hy).ext h5
   ·rw[h1,h2]
    refine .inr ⟨_,_,rfl,rfl,.inr ⟨by rw[h3],by rw[h4]⟩⟩
  ·rw[if_neg c,if_neg c]
   refine .inr ⟨_,_,rfl,rfl,.inl ⟨l',rfl,rfl,g1.len,g1.set,g4,fun s hs=> ?_⟩⟩
   obtain⟨i,i0,i1,hi⟩:=s6 hs
   exact g5 i s (by omega) hi) _ ([t.init],mset ([]:List (ByteArray×Int)) (keyK [t.init]) 1,0) ([t.init],[(wsN t.init:Int)],0) (Nat.lt_succ_self _) ⟨rfl,rfl,r0,by simp,by simp,by simp,fun i s hi hs=>by have:=(n7 hs).1;dsimp only at hi;omega⟩
 rw[q1,q2]
 rcases q3 with⟨l,rfl,rfl,hc⟩|⟨rfl,rfl⟩
 ·left
  simp only[oB]
  have hcl:=hc.len
  obtain⟨r,n1,n2,n3,n4⟩:=ap6 (l:=l) (by omega)
  rw[n1]
  obtain⟨l',a1,a2,a3,a4,a5⟩:=z6 (body:=am0 l) (n:=(l.length:Int)) (s:=[]) (fun j l'=>Ord l'/\(l'.length:Int)<=j/\(∀y ∈ l',y.length<=24)/\∀y,y ∈ l'↔∃k,k<j/\ix l k=some y) (by omega) ⟨.nil,by simp,by simp,fun y=>⟨fun h=>by(cases h),fun⟨k,k1,k2⟩=>by have:=(n7 k2).1;omega⟩⟩ (fun j l' j0 j1 ⟨p1,p2,p3,p4⟩=>by
   obtain⟨s,hs,_⟩:=k6 (l:=l) j0 j1
   unfold am0
   rw[hs]
   simp only[oB]
   obtain⟨l2,m1,m2,m3,m4⟩:=insert_eq p1 (by omega) (fun y hy=>by have:=p3 y hy;omega) s
   rw[m1]
   have e24:=(hc.set s (m9 hs)).len
   refine⟨l2,rfl,m2,by omega,fun y hy=> ?_,fun y=> ?_⟩
   ·rcases(m3 y).1 hy with rfl|h
    ·omega
    ·exact p3 y h
   ·rw[m3,p4]
    constructor
    ·rintro (rfl|⟨k,k1,k2⟩)
     ·exact⟨j,by omega,hs⟩
     ·exact⟨k,by omega,k2⟩
    ·rintro ⟨k,k1,k2⟩
     by_cases ek:k=j
     ·subst ek
      rw[hs] at k2;cases k2
      exact .inl rfl
     ·exact .inr ⟨k,by omega,k2⟩)
  rw[a1]
  have:l'=r:=Ord.ext a2 n2 fun y=>by
   rw[a5,n3]
   constructor
   ·rintro ⟨k,_,k2⟩;exact m9 k2
   ·intro hy
    obtain⟨k,_,k1,hk⟩:=s6 hy
    exact⟨k,k1,hk⟩
  subst this
  refine⟨l',rfl,rfl,⟨by omega,fun s hs=>hc.set s ((n3 s).1 hs),(n3 _).2 hc.init,fun s hs op h0 h1 hcan x hx=>(n3 _).2 (hc.closed s ((n3 s).1 hs) op h0 h1 hcan x hx)⟩,a2,l,rfl,n4⟩
 ·right
  exact⟨rfl,rfl⟩
theorem explore_ok{t:d5}(ht:m8 t):P7 t=(N8 t).bind fun r=>if r.2=true then some (r.1,⟨0,0⟩) else some ([],⟨10, -7⟩):=by
 obtain⟨f,h1,_,h3⟩:=V2 t
 rcases h3 with⟨rfl,_⟩|⟨_,hn⟩
 ·unfold P7
  rw[h1]
  simp only[oB]
  rw[if_neg (by simp)]
  congr 1
  funext r
  cases r.2<;>rfl
 ·exact absurd ht hn
theorem explore_bad{t:d5}{f:g8}(hv:D9 t=some f)(hc:f.code ≠ 0):P7 t=some ([],f):=by
 unfold P7
 rw[hv]
 simp only[oB]
 rw[if_pos (am9 hc)]
end Ab
end
section
namespace Ab
open Go
theorem ao4{α:Type}[DecidableEq α]:∀{c S:List α},c.Nodup->(∀x ∈ c,x ∈ S)->c.length<=S.length
 |[],_,_,_=>Nat.zero_le _
 |a::c,S,h,hs=>by
  obtain⟨h1,h2⟩:=jv.1 h
  have ha:=hs a (by simp)
  have:=ao4 (c:=c) (S:=S.erase a) h2 fun x hx=>by
   have hne:x ≠ a:=fun e=>h1 (e ▸ hx)
   exact(List.mem_erase_of_ne hne).2 (hs x (jc _ hx))
  rw[List.length_erase_of_mem ha] at this
  have:0<S.length:=jB ha
  simp only[jh]
  omega
section
variable {α:Type}
def Dn(G L:α->Prop)(nx:α->List α):Nat->α->Prop
 |0,s=>G s
 |k+1,s=>G s\/(L s/\∀y ∈ nx s,Dn G L nx k y)
variable {G L:α->Prop}{nx:α->List α}
theorem Dn.goal{k:Nat}{s:α}(h:G s):Dn G L nx k s:=by
 cases k with
 |zero=>exact h
 |succ k=>exact .inl h
theorem Dn.succ:∀{k:Nat} {s:α},Dn G L nx k s->Dn G L nx (k+1) s
 |0,s,h=>.inl h
 |k+1,s,h=>by
  rcases h with h|⟨h1,h2⟩
  ·exact .inl h
  ·exact .inr ⟨h1,fun y hy=>(h2 y hy).succ⟩
theorem Dn.mono{k m:Nat}{s:α}(h:Dn G L nx k s)(hm:k<=m):Dn G L nx m s:=by
 induction hm with
 |refl=>exact h
 |step _ ih=>exact ih.succ
def Ht(G L:α->Prop)(nx:α->List α)(k:Nat)(s:α):Prop:=Dn G L nx k s/\∀j,j<k->¬ Dn G L nx j s
theorem Ht.unique{k m:Nat}{s:α}(h:Ht G L nx k s)(h':Ht G L nx m s):k=m:=by
 rcases jQ k m with c|c|c
 ·exact absurd h.1 (h'.2 k c)
 ·exact c
 ·exact absurd h'.1 (h.2 m c)
theorem Ht.le{k m:Nat}{s:α}(h:Ht G L nx k s)(h':Dn G L nx m s):k<=m:=by
 rcases Nat.lt_or_ge m k with c|c
 ·exact absurd h' (h.2 m c)
 ·exact c
theorem Ht.of_dn:∀{k:Nat} {s:α},Dn G L nx k s->∃m,m<=k/\Ht G L nx m s
 |0,s,h=>⟨0,jm _,h,fun j hj=>by omega⟩
 |k+1,s,h=>by
  by_cases c:Dn G L nx k s
  ·obtain⟨m,h1,h2⟩:=Ht.of_dn c
   exact⟨m,by omega,h2⟩
  ·exact⟨k+1,jm _,h,fun j hj hd=>c (hd.mono (by omega))⟩
theorem Ht.zero{s:α}(h:G s):Ht G L nx 0 s:=⟨h,fun j hj=>by omega⟩
theorem Ht.goal{k:Nat}{s:α}(h:Ht G L nx k s)(hg:G s):k=0:=h.unique (.zero hg)
theorem Ht.step{k:Nat}{s:α}(h:Ht G L nx k s)(hg:¬ G s)(hne:∀s,L s->nx s ≠ []):∃m,k=m+1/\L s/\(∀y ∈ nx s,∃j,j<=m/\Ht G L nx j y)/\∃y ∈ nx s,Ht G L nx m y:=by
 cases k with
 |zero=>exact absurd h.1 hg
 |succ m=>
  rcases h.1 with g|⟨h1,h2⟩
  ·exact absurd g hg
  ·refine⟨m,rfl,h1,fun y hy=>Ht.of_dn (h2 y hy),?_⟩
   cases m with
   |zero=>
    obtain⟨y,hy⟩:=jx _ (hne s h1)
    exact⟨y,hy,h2 y hy,fun j hj=>by omega⟩
   |succ m=>
    have hn:=h.2 (m+1) (by omega)
    have:∃y ∈ nx s,¬ Dn G L nx m y:=jk fun hc=>hn (.inr ⟨h1,fun y hy=>jk fun hy2=>hc ⟨y,hy,hy2⟩⟩)
    obtain⟨y,hy,hy2⟩:=this
    exact⟨y,hy,h2 y hy,fun j hj hd=>hy2 (hd.mono (by omega))⟩
theorem Ht.of_succ{m:Nat}{s:α}(hg:¬ G s)(hL:L s)(h1:∀y ∈ nx s,∃j,j<=m/\Ht G L nx j y)(h2:∃y ∈ nx s,Ht G L nx m y):Ht G L nx (m+1) s:=by
 refine⟨.inr ⟨hL,fun y hy=>by obtain⟨j,hj,h⟩:=h1 y hy;exact h.1.mono hj⟩,fun j hj hd=> ?_⟩
 cases j with
 |zero=>exact hg hd
 |succ j=>
  rcases hd with g|⟨_,hd⟩
  ·exact hg g
  ·obtain⟨y,hy,h⟩:=h2
   have:=h.le (hd y hy)
   omega
theorem Ht.chain[DecidableEq α]{S:List α}(hcl:∀s ∈ S,¬ G s->L s->∀y ∈ nx s,y ∈ S)(hne:∀s,L s->nx s ≠ []):∀{k:Nat} {s:α},Ht G L nx k s->s ∈ S->∃c:List α,c.length=k+1/\c.Nodup/\(∀x ∈ c,x ∈ S)/\∀x ∈ c,∃j,j<=k/\Ht G L nx j x
 |0,s,h,hs=>⟨[s],rfl,by simp,by simpa using hs,fun x hx=>⟨0,jm _,by simp only[ja] at hx;exact hx ▸ h⟩⟩
 |k+1,s,h,hs=>by
  have hg:¬ G s:=fun g=>by have:=h.goal g;omega
  obtain⟨m,e,hL,_,y,hy,hy2⟩:=h.step hg hne
  have:m=k:=by omega
  subst this
  obtain⟨c,c1,c2,c3,c4⟩:=Ht.chain hcl hne hy2 (hcl s hs hg hL y hy)
  refine⟨s::c,by simp[c1],jv.2 ⟨fun hc=> ?_,c2⟩,fun x hx=> ?_,fun x hx=> ?_⟩
  ·obtain⟨j,hj,hj2⟩:=c4 s hc
   have:=hj2.unique h
   omega
  ·rcases jj.1 hx with rfl|hx
   ·exact hs
   ·exact c3 x hx
  ·rcases jj.1 hx with rfl|hx
   ·exact⟨_,jm _,h⟩
   ·obtain⟨j,hj,hj2⟩:=c4 x hx
    exact⟨j,by omega,hj2⟩
theorem Ht.lt[DecidableEq α]{S:List α}(hcl:∀s ∈ S,¬ G s->L s->∀y ∈ nx s,y ∈ S)(hne:∀s,L s->nx s ≠ []){k:Nat}{s:α}(h:Ht G L nx k s)(hs:s ∈ S):k<S.length:=by
 obtain⟨c,c1,c2,c3,_⟩:=Ht.chain hcl hne h hs
 have:=ao4 c2 c3
 omega
end
end Ab
end
section
namespace Ab
open Go
def q9(t:d5)(s:Li):Prop:=∀x ∈ t.goal,x ∈ s
noncomputable def M6(p:List e9)(s:Li):Prop:=0<=chO p s
noncomputable def nxS(t:d5)(p:List e9)(s:Li):LL:=(ooAt t (chO p s)).outcomes.map (efc t.facts s)
inductive Rch(t:d5)(p:List e9):Li->Prop
 |init:Rch t p t.init
 |step {s y:Li}:Rch t p s->¬ q9 t s->M6 p s->y ∈ nxS t p s->Rch t p y
theorem chO_mem{p:List e9}{s:Li}(h:0<=chO p s):∃c ∈ p,c.state=s/\chO p s=c.operator:=by
 obtain⟨r,h1,h2⟩:=as2 p s
 have e:chO p s=r:=by rw[chO,h1];rfl
 rw[e] at h ⊢
 rcases h2 with⟨rfl,_⟩|⟨c,h3,h4,h5⟩
 ·omega
 ·exact⟨c,h3,h4,h5⟩
theorem live_op{t:d5}{p:List e9}(hp:F2 t p){s:Li}(h:M6 p s):(0<=chO p s/\chO p s<t.operators.length)/\oCan t s (chO p s):=by
 obtain⟨_,e⟩:=ad6 hp s
 unfold M6 at h
 rcases e with e|e
 ·omega
 ·exact⟨⟨e.1,e.2.1⟩,e.2.2⟩
theorem Rch.set{t:d5}(ht:m8 t){p:List e9}{s:Li}(h:Rch t p s):SetN s t.facts:=by
 cases h with
 |init=>exact ht.init
 |step _ _ _ hy=>
  obtain⟨x,_,rfl⟩:=je.1 hy
  exact at1 _ _ _
noncomputable def candK(t:d5)(p:List e9):LL:=t.init::p.flatMap fun c=>(ooAt t c.operator).outcomes.map (efc t.facts c.state)
theorem flat_len{α β:Type}{f:α->List β}{n:Nat}:∀{l:List α},(∀a ∈ l,(f a).length<=n)->(l.flatMap f).length<=l.length * n
 |[],_=>by simp
 |a::l,h=>by
  have h1:=h a (by simp)
  have h2:=flat_len (l:=l) fun b hb=>h b (jc _ hb)
  rw[jq,jb,jh,Nat.succ_mul]
  omega
theorem candK_len{t:d5}(ht:m8 t){p:List e9}(hp:F2 t p):(candK t p).length<=801:=by
 have h:=flat_len (f:=fun c:e9=>(ooAt t c.operator).outcomes.map (efc t.facts c.state)) (n:=4) (l:=p) fun c hc=>by
  have:=hp.op c hc
  have:=(ht.at this.1 this.2).l1
  simpa using this
 have:=hp.len
 have h2:p.length * 4<=200 * 4:=Nat.mul_le_mul_right _ this
 unfold candK
 rw[jh]
 omega
theorem Rch.cand{t:d5}{p:List e9}{s:Li}(h:Rch t p s):s ∈ candK t p:=by
 cases h with
 |init=>exact js ..
 |@step s y _ _ hl hy=>
  obtain⟨c,h1,h2,h3⟩:=chO_mem hl
  refine jc _ (jy.2 ⟨c,h1,?_⟩)
  unfold nxS at hy
  rw[h3] at hy
  rw[h2]
  exact hy
theorem rch_len{t:d5}(ht:m8 t){p:List e9}(hp:F2 t p){l:LL}(hn:l.Nodup)(h:∀s ∈ l,Rch t p s):l.length<=801:=
 Nat.le_trans (ao4 hn fun s hs=>(h s hs).cand) (candK_len ht hp)
theorem Ord.nodup{l:LL}(h:Ord l):l.Nodup:=jJ.imp (fun {a b:Li} (hab:llt a b) (e:a=b)=>K3 a (by rw[<- e] at hab;exact hab)) h
def ClV(t:d5)(p:List e9)(l:LL)(s:Li):Prop:=¬ q9 t s->M6 p s->∀y ∈ nxS t p s,y ∈ l
structure Vis(t:d5)(p:List e9)(l:LL):Prop where
 ord:Ord l
 mem:∀s,s ∈ l↔Rch t p s
theorem vis_of{t:d5}{p:List e9}{l:LL}(ho:Ord l)(hi:t.init ∈ l)(hr:∀s ∈ l,Rch t p s)(hc:∀s ∈ l,ClV t p l s):Vis t p l:=by
 refine⟨ho,fun s=>⟨hr s,fun h=> ?_⟩⟩
 induction h with
 |init=>exact hi
 |step _ hg hl hy ih=>exact hc _ ih hg hl _ hy
theorem containsLL_eq{l:LL}{s:Li}:u4 l (fun y=>P5 y s)=some (dec (s ∈ l)):=by
 unfold u4 F4
 rcases D5 (body:=z7 l fun y=>P5 y s) (n:=(l.length:Int)) (fun j=>if dec (ix l j=some s)=true then some j else none) (by omega) (fun j h0 h1 _=>by
  obtain⟨x,hx,_⟩:=k6 (l:=l) h0 h1
  unfold z7 P5
  rw[hx]
  simp only[oB,equal_eq]
  by_cases e:x=s
  ·rw[ifP e,ifP (by rw[e])]
  ·rw[ifN e,ifN (by simpa using e)]) with⟨h1,h2⟩|⟨j,o,h0,h1,h2,h3,h4⟩
 ·rw[h1]
  simp only[oB]
  rw[z2]
  ·rfl
  ·intro hs
   obtain⟨i,i0,i1,hi⟩:=s6 hs
   have:=h2 i i0 i1
   rw[ifP hi] at this
   cases this
 ·rw[h4]
  split at h2
  ·rename_i e
   cases h2
   simp only[oB]
   rw[o8 (m9 (n8.1 e)),decide_eq_true h0]
  ·cases h2
theorem vis4{t:d5}(ht:m8 t){p:List e9}(hp:F2 t p){s:Li}(hs:Rch t p s)(hg:¬ q9 t s)(hl:M6 p s){st:LL}{w:Li}(hst:∀y,y ∈ st↔y ∈ nxS t p s){l0:LL}(hn:l0.Nodup)(hr:∀s ∈ l0,Rch t p s):
  ∃l,forR 0 (st.length:Int) (S3 (st,w)) l0=some l/\l.Nodup/\(∀s ∈ l,Rch t p s)/\Ext l0 l/\∀y ∈ st,y ∈ l:=by
 obtain⟨l,h1,h2,h3,h4,h5⟩:=z6 (body:=S3 (st,w)) (n:=(st.length:Int)) (s:=l0) (fun j l=>l.Nodup/\(∀s ∈ l,Rch t p s)/\Ext l0 l/\∀k y,k<j->ix st k=some y->y ∈ l) (by omega) ⟨hn,hr,.refl _,fun k y hk h=>by have:=(n7 h).1;omega⟩ (fun j l j0 j1 ⟨a1,a2,a3,a4⟩=>by
  obtain⟨y,hy,_⟩:=k6 (l:=st) j0 j1
  unfold S3
  dsimp only
  rw[hy]
  simp only[oB,containsLL_eq,v6]
  have mono:∀{l2:LL},Ext l l2->y ∈ l2->∀k z,k<j+1->ix st k=some z->z ∈ l2:=fun h1 h2 k z hk hz=>by
   by_cases ek:k=j
   ·subst ek;rw[hy] at hz;cases hz;exact h2
   ·exact h1.mem (a4 k z (by omega) hz)
  have hry:Rch t p y:=.step hs hg hl ((hst y).1 (m9 hy))
  by_cases c:y ∈ l
  ·rw[ifNN c]
   exact⟨l,rfl,a1,a2,a3,mono (.refl _) c⟩
  ·have hlen:=rch_len ht hp a1 a2
   rw[ifP c,app,if_pos (by simp;omega)]
   refine⟨_,rfl,jR.2 ⟨a1,by simp,fun a ha b hb=> ?_⟩,fun z hz=> ?_,a3.snoc _,mono ((Ext.refl _).snoc _) (by simp)⟩
   ·simp only[ja] at hb;subst hb;exact fun e=>c (e ▸ ha)
   ·rcases jd.1 hz with g|g
    ·exact a2 z g
    ·simp only[ja] at g;exact g ▸ hry)
 refine⟨l,h1,h2,h3,h4,fun y hy=> ?_⟩
 obtain⟨k,_,k1,hk⟩:=s6 hy
 exact h5 k y k1 hk
theorem oVisited_eq{t:d5}(ht:m8 t){p:List e9}(hp:F2 t p):∃l,ac0 t p=some l/\Vis t p l:=by
 have hn:=ht.n1
 have hil:=ht.init.len
 unfold ac0
 rw[P6 (by omega)]
 simp only[oB]
 obtain⟨l,h1,h2,h3,h4,h5⟩:=M7 (body:=aa8 t p) (fun q=>q.1.Nodup/\(∀s ∈ q.1,Rch t p s)/\t.init ∈ q.1/\(0<=q.2/\q.2<=q.1.length)/\∀i s,i<q.2->ix q.1 i=some s->ClV t p q.1 s) (fun l=>l.Nodup/\(∀s ∈ l,Rch t p s)/\t.init ∈ l/\∀s ∈ l,ClV t p l s) (fun q=>(801 - q.2).toNat) (s:=([t.init],0)) ⟨by simp,by simpa using Rch.init,by simp,by simp,fun i s hi h=>by have:=(n7 h).1;dsimp only at hi;omega⟩ (fun⟨l,a⟩ ⟨g1,g2,g3,g4,g5⟩=>by
  dsimp only at g1 g2 g3 g4 g5 ⊢
  have hlen:=rch_len ht hp g1 g2
  unfold aa8
  dsimp only
  by_cases c:a<l.length
  ·rw[if_pos c]
   obtain⟨s,hs,_⟩:=k6 (l:=l) g4.1 c
   have hrs:=g2 s (m9 hs)
   have hset:=hrs.set ht
   have hsl:=hset.len
   rw[hs]
   simp only[oB,(ad6 hp s).1,K1 hset.1 ht.goal.1 (show s.length<=1000000 by omega)]
   have key:(if chO p s<0 then some true else some (dec (∀x ∈ t.goal,x ∈ s)))=some (dec (chO p s<0\/q9 t s)):=by
    unfold q9
    rw[<- ifOr]
    by_cases h:chO p s<0
    ·rw[if_pos h,ifP h]
    ·rw[if_neg h,ifN h]
   rw[key]
   simp only[oB]
   have fin:∀{l2:LL},Ext l l2->ClV t p l2 s->∀i z,i<a+1->ix l2 i=some z->ClV t p l2 z:=fun h1 h2 i z hi hz=>by
    by_cases ei:i=a
    ·subst ei
     rw[h1 _ _ hs] at hz;cases hz;exact h2
    ·obtain⟨y,hy,_⟩:=k6 (l:=l) (i:=i) (n7 hz).1 (by omega)
     have:=h1 _ _ hy
     rw[hz] at this;cases this
     exact fun q1 q2 y hy2=>h1.mem (g5 i z (by omega) hy q1 q2 y hy2)
   by_cases cs:chO p s<0\/q9 t s
   ·rw[ifP cs]
    simp only[oB]
    rw[x9 (by omega) (by omega)]
    refine .inl ⟨_,rfl,⟨g1,g2,g3,by dsimp only;omega,fin (.refl _) fun q1 q2=> ?_⟩,by dsimp only;omega⟩
    rcases cs with c1|c1
    ·unfold M6 at q2;omega
    ·exact absurd c1 q1
   ·rw[ifN cs]
    have hl:M6 p s:=by unfold M6;have:=fun h=>cs (.inl h);omega
    have hg:¬ q9 t s:=fun h=>cs (.inr h)
    have ho:=live_op hp hl
    obtain⟨st,w,r1,_,r3,_⟩:=Y4 ht ho.1.1 ho.1.2 hset
    rw[r1]
    simp only[oB]
    obtain⟨l2,e1,e2,e3,e4,e5⟩:=vis4 ht hp hrs hg hl (st:=st) (w:=w) (fun y=>by rw[r3,nxS,je]) g1 g2
    rw[e1]
    simp only[oB]
    have:=e4.len
    rw[x9 (by omega) (by omega)]
    exact .inl ⟨_,rfl,⟨e2,e3,e4.mem g3,by dsimp only;omega,fin e4 fun _ _ y hy=>e5 y (by rw[r3];exact je.1 hy)⟩,by dsimp only;omega⟩
  ·rw[if_neg c]
   refine .inr ⟨l,rfl,g1,g2,g3,fun s hs=> ?_⟩
   obtain⟨i,i0,i1,hi⟩:=s6 hs
   exact g5 i s (by omega) hi)
 rw[h1]
 simp only[oB]
 have hlen:=rch_len ht hp h2 h3
 obtain⟨r,n1,n2,n3,n4⟩:=ap6 (l:=l) (by omega)
 rw[n1]
 exact⟨r,rfl,vis_of n2 ((n3 _).2 h4) (fun s hs=>h3 s ((n3 s).1 hs)) fun s hs q1 q2 y hy=>(n3 y).2 (h5 s ((n3 s).1 hs) q1 q2 y hy)⟩
end Ab
end
section
namespace Ab
open Go
abbrev HtS(t:d5)(p:List e9)(k:Nat)(s:Li):Prop:=Ht (q9 t) (M6 p) (nxS t p) k s
theorem nx_ne{t:d5}(ht:m8 t){p:List e9}(hp:F2 t p):∀s,M6 p s->nxS t p s ≠ []:=fun s hl h=>by
 have ho:=live_op hp hl
 have:=(ht.at ho.1.1 ho.1.2).l0
 unfold nxS at h
 rw[List.map_eq_nil_iff] at h
 rw[h] at this
 simp at this
theorem Vis.closed{t:d5}{p:List e9}{l:LL}(h:Vis t p l):∀s ∈ l,¬ q9 t s->M6 p s->∀y ∈ nxS t p s,y ∈ l:=fun s hs hg hl y hy=>(h.mem y).2 (.step ((h.mem s).1 hs) hg hl hy)
theorem Vis.lt{t:d5}(ht:m8 t){p:List e9}(hp:F2 t p){l:LL}(h:Vis t p l){k:Nat}{s:Li}(hk:HtS t p k s)(hs:s ∈ l):k<l.length:=Ht.lt h.closed (nx_ne ht hp) hk hs
theorem Vis.len{t:d5}(ht:m8 t){p:List e9}(hp:F2 t p){l:LL}(h:Vis t p l):l.length<=801:=rch_len ht hp h.ord.nodup fun s hs=>(h.mem s).1 hs
theorem find_eq{l:LL}(ho:Ord l)(hl:l.length<=500000){s:Li}{i:Int}(hi:ix l i=some s):ac6 l s=some i:=by
 unfold ac6
 obtain⟨k,h1,_,h3⟩:=bsets_eq (t:=s) ho hl
 rw[h1,h3 i hi];rfl
theorem contains1_eq{l:Li}{s:Int}:E7 l s=some (dec (s ∈ l)):=by
 unfold E7 N9
 rcases D5 (body:=J0 l s) (n:=(l.length:Int)) (fun j=>if dec (ix l j=some s)=true then some j else none) (by omega) (fun j h0 h1 _=>by
  obtain⟨x,hx,_⟩:=k6 (l:=l) h0 h1
  unfold J0
  rw[hx]
  simp only[oB]
  by_cases e:s=x
  ·rw[if_pos e,ifP (by rw[e])]
  ·rw[if_neg e,ifN (by simpa using fun h=>e h.symm)]) with⟨h1,h2⟩|⟨j,o,h0,h1,h2,h3,h4⟩
 ·rw[h1]
  simp only[oB]
  rw[z2]
  ·rfl
  ·intro hs
   obtain⟨i,i0,i1,hi⟩:=s6 hs
   have:=h2 i i0 i1
   rw[ifP hi] at this
   cases this
 ·rw[h4]
  split at h2
  ·rename_i e
   cases h2
   simp only[oB]
   rw[o8 (m9 (n8.1 e)),decide_eq_true h0]
  ·cases h2
theorem worst_eq{t:d5}(ht:m8 t){p:List e9}(hp:F2 t p){l:LL}(hv:Vis t p l){s:Li}(hs:s ∈ l)(hg:¬ q9 t s)(hl:M6 p s){v:Li}(hvl:v.length=l.length)(hvm:∀x ∈ v, -1<=x):
  ∃n,K9 t l v s (chO p s)=some n/\((n= -1/\∃y ∈ nxS t p s,∃i,ix l i=some y/\ix v i=some (-1))\/(0<=n/\(∀y ∈ nxS t p s,∀i x,ix l i=some y->ix v i=some x->0<=x/\x<=n)/\(n=0\/∃y ∈ nxS t p s,∃i,ix l i=some y/\ix v i=some n))):=by
 have ho:=live_op hp hl
 have hset:=((hv.mem s).1 hs).set ht
 obtain⟨st,w,r1,_,r3,_⟩:=Y4 ht ho.1.1 ho.1.2 hset
 have hlen:=hv.len ht hp
 unfold K9
 rw[r1]
 simp only[oB]
 have hst:∀y,y ∈ st↔y ∈ nxS t p s:=fun y=>by rw[r3,nxS,je]
 rcases X3 (body:=M5 l v (st,w)) (n:=(st.length:Int)) (s:=0) (fun j n=>0<=n/\(∀k y i x,k<j->ix st k=some y->ix l i=some y->ix v i=some x->0<=x/\x<=n)/\(n=0\/∃y ∈ nxS t p s,∃i,ix l i=some y/\ix v i=some n)) (fun o=>o= -1/\∃y ∈ nxS t p s,∃i,ix l i=some y/\ix v i=some (-1)) (by omega) ⟨jt _,fun k y i x hk h=>by have:=(n7 h).1;omega,.inl rfl⟩ (fun j n j0 j1 ⟨a1,a2,a3⟩=>by
  obtain⟨y,hy,_⟩:=k6 (l:=st) j0 j1
  have hyn:=(hst y).1 (m9 hy)
  obtain⟨i,i0,i1,hi⟩:=s6 (hv.closed s hs hg hl y hyn)
  obtain⟨x,hx,_⟩:=k6 (l:=v) i0 (by omega)
  unfold M5
  dsimp only
  rw[hy]
  simp only[oB,find_eq hv.ord (show l.length<=500000 by omega) hi,hx]
  by_cases c:x<0
  ·rw[if_pos c]
   have:x= -1:=by have:=hvm x (m9 hx);omega
   subst this
   exact .inr ⟨_,rfl,rfl,y,hyn,i,hi,hx⟩
  ·rw[if_neg c]
   refine .inl ⟨_,rfl,by omega,fun k z i' x' hk hz hi' hx'=> ?_,?_⟩
   ·by_cases ek:k=j
    ·subst ek
     rw[hy] at hz;cases hz
     have:=hv.ord.inj hi hi'
     subst this
     rw[hx] at hx';cases hx'
     omega
    ·have:=a2 k z i' x' (by omega) hz hi' hx'
     omega
   ·by_cases cm:n<=x
    ·rw[Int.max_eq_right cm]
     exact .inr ⟨y,hyn,i,hi,hx⟩
    ·rw[Int.max_eq_left (by omega)]
     exact a3) with⟨n,e1,e2,e3,e4⟩|⟨o,e1,rfl,e2⟩
 ·rw[e1]
  refine⟨n,rfl,.inr ⟨e2,fun y hy i x hi hx=> ?_,e4⟩⟩
  obtain⟨k,_,k1,hk⟩:=s6 ((hst y).2 hy)
  exact e3 k y i x k1 hk hi hx
 ·rw[e1]
  exact⟨-1,rfl,.inl ⟨rfl,e2⟩⟩
structure ValOk(t:d5)(p:List e9)(l:LL)(v:Li):Prop where
 len:v.length=l.length
 val:∀i s x,ix l i=some s->ix v i=some x->x= -1\/∃k:Nat,x=k/\HtS t p k s
 goal:∀i s x,ix l i=some s->ix v i=some x->q9 t s->x=0
theorem ValOk.m1{t:d5}{p:List e9}{l:LL}{v:Li}(h:ValOk t p l v):∀x ∈ v, -1<=x:=fun x hx=>by
 obtain⟨i,i0,i1,hi⟩:=s6 hx
 obtain⟨s,hs,_⟩:=k6 (l:=l) i0 (by have:=h.len;omega)
 rcases h.val i s x hs hi with e|⟨k,e,_⟩<;>omega
theorem set_ix{v:Li}{j:Int}{y:Int}(h0:0<=j)(h1:j<v.length){i:Int}{x:Int}(h:ix (v.set j.toNat y) i=some x):(i=j/\x=y)\/(i ≠ j/\ix v i=some x):=by
 rw[ix_put h0 h1 (n7 h).1] at h
 by_cases e:i=j
 ·rw[if_pos e] at h;cases h;exact .inl ⟨e,rfl⟩
 ·rw[if_neg e] at h;exact .inr ⟨e,h⟩
def Stays(v v':Li):Prop:=∀i x,ix v i=some x->x ≠ -1->ix v' i=some x
theorem check3{t:d5}(ht:m8 t){p:List e9}(hp:F2 t p){l:LL}(hv:Vis t p l){j:Int}{s:Li}(hs:ix l j=some s){v:Li}(h:ValOk t p l v):
  ∃v',S8 t p l j v=some v'/\ValOk t p l v'/\Stays v v'/\(¬ q9 t s->M6 p s->(∀y ∈ nxS t p s,∀i,ix l i=some y->ix v i ≠ some (-1))->ix v' j ≠ some (-1)):=by
 obtain⟨j0,j1,_⟩:=n7 hs
 have hlen:=hv.len ht hp
 have hvl:=h.len
 obtain⟨x,hx,_⟩:=k6 (l:=v) j0 (by omega)
 unfold S8
 rw[hs]
 simp only[oB,(ad6 hp s).1,hx]
 by_cases c:0<=x\/chO p s<0
 ·rw[if_pos (by rw[jo,decide_eq_true_eq,decide_eq_true_eq];exact c)]
  refine⟨v,rfl,h,fun i x h _=>h,fun _ hl _ he=> ?_⟩
  unfold M6 at hl
  rw[hx] at he
  have:=Option.some.inj he
  omega
 ·rw[if_neg (by rw[jo,decide_eq_true_eq,decide_eq_true_eq];exact c)]
  have hl:M6 p s:=by unfold M6;omega
  have hx1:x= -1:=by have:=h.m1 x (m9 hx);omega
  subst hx1
  have hg:¬ q9 t s:=fun hg=>by have:=h.goal j s _ hs hx hg;omega
  obtain⟨n,w1,w2⟩:=worst_eq ht hp hv (m9 hs) hg hl hvl h.m1
  rw[w1]
  simp only[oB]
  rcases w2 with⟨rfl,y,hy,i,hi,hvi⟩|⟨n0,w3,w4⟩
  ·rw[if_neg (by decide)]
   exact⟨v,rfl,h,fun i x h _=>h,fun _ _ hall=>absurd hvi (hall y hy i hi)⟩
  ·rw[if_pos n0]
   have ex:∀y ∈ nxS t p s,∃i x,ix l i=some y/\ix v i=some x/\∃k:Nat,x=k/\k<=n.toNat/\HtS t p k y:=fun y hy=>by
    obtain⟨i,i0,i1,hi⟩:=s6 (hv.closed s (m9 hs) hg hl y hy)
    obtain⟨x,hx,_⟩:=k6 (l:=v) i0 (by omega)
    have b:=w3 y hy i x hi hx
    rcases h.val i y x hi hx with e|⟨k,e,hk⟩
    ·omega
    ·exact⟨i,x,hi,hx,k,e,by omega,hk⟩
   have top:∃y ∈ nxS t p s,HtS t p n.toNat y:=by
    rcases w4 with rfl|⟨y,hy,i,hi,hvi⟩
    ·obtain⟨y,hy⟩:=jx _ (nx_ne ht hp s hl)
     obtain⟨_,_,_,_,k,_,k1,hk⟩:=ex y hy
     have:k=0:=by simpa using k1
     subst this
     exact⟨y,hy,hk⟩
    ·obtain⟨i',x,hi',hx',k,e,k1,hk⟩:=ex y hy
     have:=hv.ord.inj hi hi'
     subst this
     rw[hvi] at hx';cases hx'
     have:k=n.toNat:=by omega
     exact⟨y,hy,this ▸ hk⟩
   have hts:HtS t p (n.toNat+1) s:=Ht.of_succ hg hl (fun y hy=>by
    obtain⟨_,_,_,_,k,_,k1,hk⟩:=ex y hy
    exact⟨k,k1,hk⟩) top
   have hb:=hv.lt ht hp hts (m9 hs)
   rw[x9 (by omega) (by omega)]
   have hj:j<(v.length:Int):=by omega
   refine⟨_,rfl,⟨by rw[lS];exact hvl,fun i z x hz hx'=> ?_,fun i z x hz hx' hgz=> ?_⟩,fun i x hxi hne=> ?_,fun _ _ _ he=> ?_⟩
   ·rcases set_ix j0 hj hx' with⟨rfl,rfl⟩|⟨_,hx'⟩
    ·rw[hs] at hz;cases hz
     exact .inr ⟨n.toNat+1,by omega,hts⟩
    ·exact h.val i z x hz hx'
   ·rcases set_ix j0 hj hx' with⟨rfl,rfl⟩|⟨_,hx'⟩
    ·rw[hs] at hz;cases hz
     exact absurd hgz hg
    ·exact h.goal i z x hz hx' hgz
   ·rw[ix_put j0 hj (n7 hxi).1,if_neg]
    ·exact hxi
    ·rintro rfl;rw[hx] at hxi;cases hxi;exact hne rfl
   ·rcases set_ix j0 hj he with⟨_,e⟩|⟨e,_⟩
    ·omega
    ·exact e rfl
def KnownS(t:d5)(p:List e9)(l:LL)(r:Nat)(v:Li):Prop:=∀i s k,ix l i=some s->HtS t p k s->k<=r->ix v i ≠ some (-1)
theorem Stays.known{v v':Li}(h:Stays v v')(hl:v'.length=v.length){i:Int}(hn:ix v i ≠ some (-1)):ix v' i ≠ some (-1):=fun he=>by
 obtain⟨i0,i1,_⟩:=n7 he
 obtain⟨x,hx,_⟩:=k6 (l:=v) i0 (by omega)
 have hne:x ≠ -1:=fun e=>hn (e ▸ hx)
 rw[h i x hx hne] at he
 exact hne (Option.some.inj he)
theorem check2{t:d5}(ht:m8 t){p:List e9}(hp:F2 t p){l:LL}(hv:Vis t p l){v:Li}(h:ValOk t p l v){r:Nat}(hr:KnownS t p l r v)(j:Int):∃v',S0 t p l j v=some v'/\ValOk t p l v'/\KnownS t p l (r+1) v':=by
 unfold S0
 obtain⟨v',h1,h2,h3,h4⟩:=z6 (body:=S8 t p l) (n:=(l.length:Int)) (s:=v) (fun j v'=>ValOk t p l v'/\Stays v v'/\∀i s k,i<j->ix l i=some s->HtS t p k s->k<=r+1->ix v' i ≠ some (-1)) (by omega) ⟨h,fun i x h _=>h,fun i s k hi h=>by have:=(n7 h).1;omega⟩ (fun j v1 j0 j1 ⟨a1,a2,a3⟩=>by
  obtain⟨s,hs,_⟩:=k6 (l:=l) j0 j1
  obtain⟨v2,b1,b2,b3,b4⟩:=check3 ht hp hv hs a1
  have st:Stays v v2:=fun i x hx hne=>b3 i x (a2 i x hx hne) hne
  refine⟨v2,b1,b2,st,fun i z k hi hz hk hkr=> ?_⟩
  by_cases e:i=j
  ·subst e
   rw[hs] at hz;cases hz
   by_cases hg:q9 t s
   ·intro he
    have:=b2.goal i s _ hs he hg
    omega
   ·obtain⟨m,rfl,hl,hy,_⟩:=hk.step hg (nx_ne ht hp)
    refine b4 hg hl fun y hyn i' hi'=> ?_
    obtain⟨k',hk',hk2⟩:=hy y hyn
    exact a2.known (by rw[a1.len,h.len]) (hr i' y k' hi' hk2 (by omega))
  ·exact b3.known (by rw[b2.len,a1.len]) (a3 i z k (by omega) hz hk hkr))
 rw[h1]
 exact⟨v',rfl,h2,fun i s k hi hk hkr=>h4 i s k (n7 hi).2.1 hi hk hkr⟩
theorem check1{t:d5}(ht:m8 t){p:List e9}{l:LL}(hv:Vis t p l):∃v,forR 0 (l.length:Int) (T9 t l) (jf l.length 0)=some v/\ValOk t p l v/\KnownS t p l 0 v:=by
 have hn:=ht.n1
 obtain⟨v,h1,h2,h3⟩:=z6 (body:=T9 t l) (n:=(l.length:Int)) (s:=jf l.length 0) (fun j v=>v.length=l.length/\∀i s x,ix l i=some s->ix v i=some x->(i<j->¬ q9 t s->x= -1)/\((i<j->q9 t s)->x=0)) (by omega) ⟨by simp,fun i s x hi hx=>by
  refine⟨fun h=>by have:=(n7 hi).1;omega,fun _=> ?_⟩
  have:=m9 hx
  exact List.eq_of_mem_replicate this⟩ (fun j v j0 j1 ⟨a1,a2⟩=>by
  obtain⟨s,hs,_⟩:=k6 (l:=l) j0 j1
  have hset:=((hv.mem s).1 (m9 hs)).set ht
  have hsl:=hset.len
  obtain⟨x,hx,_⟩:=k6 (l:=v) j0 (by omega)
  unfold T9
  rw[hs]
  simp only[oB,K1 hset.1 ht.goal.1 (show s.length<=1000000 by omega),v6,hx]
  by_cases hg:q9 t s
  ·rw[ifNN (p:=∀x ∈ t.goal,x ∈ s) hg]
   refine⟨v,rfl,a1,fun i z y hz hy=> ?_⟩
   obtain⟨b1,b2⟩:=a2 i z y hz hy
   by_cases e:i=j
   ·subst e
    rw[hs] at hz;cases hz
    exact⟨fun _ h=>absurd hg h,fun _=>b2 fun h=>by omega⟩
   ·exact⟨fun h=>b1 (by omega),fun h=>b2 fun h'=>h (by omega)⟩
  ·rw[ifP (p:=¬ ∀x ∈ t.goal,x ∈ s) hg]
   refine⟨_,rfl,by rw[lS];exact a1,fun i z y hz hy=> ?_⟩
   rcases set_ix j0 (by omega) hy with⟨rfl,rfl⟩|⟨e,hy⟩
   ·rw[hs] at hz;cases hz
    exact⟨fun _ _=>rfl,fun h=>absurd (h (by omega)) hg⟩
   ·obtain⟨b1,b2⟩:=a2 i z y hz hy
    exact⟨fun h=>b1 (by omega),fun h=>b2 fun h'=>h (by omega)⟩)
 refine⟨v,h1,⟨h2,fun i s x hi hx=> ?_,fun i s x hi hx hg=>(h3 i s x hi hx).2 fun _=>hg⟩,fun i s k hi hk hk0 he=> ?_⟩
 ·obtain⟨b1,b2⟩:=h3 i s x hi hx
  by_cases hg:q9 t s
  ·exact .inr ⟨0,by rw[b2 fun _=>hg];rfl,.zero hg⟩
  ·exact .inl (b1 (n7 hi).2.1 hg)
 ·have:k=0:=by omega
  subst this
  have hg:q9 t s:=hk.1
  have:=(h3 i s _ hi he).2 fun _=>hg
  omega
theorem check_eq{t:d5}(ht:m8 t){p:List e9}(hp:F2 t p):∃l,Vis t p l/\((∃k:Nat,(∀s ∈ l,∃k,HtS t p k s)/\HtS t p k t.init/\B4 t p=some ((k:Int),true,⟨0,0⟩))\/((∃s ∈ l,∀k,¬ HtS t p k s)/\B4 t p=some (0,false,⟨0,0⟩))):=by
 obtain⟨l,g1,hv⟩:=oVisited_eq ht hp
 refine⟨l,hv,?_⟩
 have hlen:=hv.len ht hp
 obtain⟨f,f1,_,f3⟩:=aw5 t p
 have hf:f=⟨0,0⟩:=by
  rcases f3 with⟨rfl,_⟩|⟨_,h⟩
  ·rfl
  ·exact absurd ⟨ht,hp⟩ h
 subst hf
 obtain⟨v0,c1,c2,c3⟩:=check1 ht (p:=p) hv
 obtain⟨v,d1,d2,d3⟩:=z6 (body:=S0 t p l) (n:=(l.length:Int)) (s:=v0) (fun j v=>ValOk t p l v/\KnownS t p l j.toNat v) (by omega) ⟨c2,c3⟩ (fun j v j0 j1 ⟨a1,a2⟩=>by
  obtain⟨v',b1,b2,b3⟩:=check2 ht hp hv a1 a2 j
  exact⟨v',b1,b2,by rwa [show(j+1).toNat=j.toNat+1 by omega]⟩)
 unfold B4
 rw[f1]
 simp only[oB]
 rw[if_neg (by simp),g1]
 simp only[oB]
 rw[show mkL 8 (l.length:Int) (0:Int)=some (jf l.length 0) by rw[mkL,if_pos (by omega)];simp]
 simp only[oB,c1,d1,contains1_eq]
 by_cases c:(-1:Int) ∈ v
 ·right
  rw[ifP c]
  refine⟨?_,rfl⟩
  obtain⟨i,i0,i1,hi⟩:=s6 c
  obtain⟨s,hs,_⟩:=k6 (l:=l) i0 (by have:=d2.len;omega)
  refine⟨s,m9 hs,fun k hk=> ?_⟩
  have:=hv.lt ht hp hk (m9 hs)
  exact d3 i s k hs hk (by omega) hi
 ·left
  rw[ifN c]
  have all:∀i s x,ix l i=some s->ix v i=some x->∃k:Nat,x=k/\HtS t p k s:=fun i s x hi hx=>by
   rcases d2.val i s x hi hx with e|e
   ·exact absurd (e ▸ m9 hx) c
   ·exact e
  have hinit:t.init ∈ l:=(hv.mem _).2 .init
  obtain⟨i,i0,i1,hi⟩:=s6 hinit
  obtain⟨x,hx,_⟩:=k6 (l:=v) i0 (by have:=d2.len;omega)
  obtain⟨k,rfl,hk⟩:=all i _ x hi hx
  refine⟨k,fun s hs=> ?_,hk,?_⟩
  ·obtain⟨i,i0,i1,hi⟩:=s6 hs
   obtain⟨x,hx,_⟩:=k6 (l:=v) i0 (by have:=d2.len;omega)
   obtain⟨k,_,hk⟩:=all i s x hi hx
   exact⟨k,hk⟩
  ·rw[find_eq hv.ord (by omega) hi]
   simp only[oB,hx]
end Ab
end
section
namespace Ab
open Go
end Ab
end
section
namespace Ab
open Go
theorem check_bad{t:d5}{p:List e9}{f:g8}(hv:x7 t p=some f)(hc:f.code ≠ 0):B4 t p=some (0,false,f):=by
 unfold B4
 rw[hv]
 simp only[oB]
 rw[if_pos (am9 hc)]
end Ab
end
section
namespace Ab
open Go
end Ab
end
section
namespace Ab
open Go
noncomputable def nxC(t:d5)(ch:Li->Int)(s:Li):LL:=(ooAt t (ch s)).outcomes.map (efc t.facts s)
inductive RchC(t:d5)(ch:Li->Int):Li->Prop
 |init:RchC t ch t.init
 |step {s y:Li} (h:RchC t ch s) (hg:¬ q9 t s) (hy:y ∈ nxC t ch s):RchC t ch y
def ChOk(t:d5)(ch:Li->Int):Prop:=∀s,RchC t ch s->¬ q9 t s->(0<=ch s/\ch s<t.operators.length)/\oCan t s (ch s)
section
variable {t:d5}{ch:Li->Int}
theorem RchC.set(ht:m8 t){s:Li}(h:RchC t ch s):SetN s t.facts:=by
 cases h with
 |init=>exact ht.init
 |step _ _ hy=>obtain⟨x,_,rfl⟩:=je.1 hy;exact at1 _ _ _
structure PolB(t:d5)(ch:Li->Int)(p:List e9):Prop where
 ord:Ord (p.map e9.state)
 mem:∀s,(∃c ∈ p,c.state=s)↔RchC t ch s/\¬ q9 t s
 op:∀c ∈ p,c.operator=ch c.state
theorem PolB.rch{p:List e9}(h:PolB t ch p){c:e9}(hc:c ∈ p):RchC t ch c.state/\¬ q9 t c.state:=(h.mem _).1 ⟨c,hc,rfl⟩
theorem PolB.pol(ht:m8 t)(hk:ChOk t ch){p:List e9}(h:PolB t ch p)(hl:p.length<=200):F2 t p:=
 ⟨hl,h.ord,fun c hc=>(h.rch hc).1.set ht,fun c hc=>by rw[h.op c hc];exact(hk _ (h.rch hc).1 (h.rch hc).2).1,fun c hc=>by rw[h.op c hc];exact(hk _ (h.rch hc).1 (h.rch hc).2).2⟩
theorem chO_ch{p:List e9}(hop:∀c ∈ p,c.operator=ch c.state)(s:Li):(chO p s= -1/\∀c ∈ p,c.state ≠ s)\/((∃c ∈ p,c.state=s)/\chO p s=ch s):=by
 obtain⟨r,h1,h2⟩:=as2 p s
 have:chO p s=r:=by rw[chO,h1];rfl
 rw[this]
 rcases h2 with⟨rfl,h⟩|⟨c,hc,rfl,rfl⟩
 ·exact .inl ⟨rfl,h⟩
 ·exact .inr ⟨⟨c,hc,rfl⟩,hop c hc⟩
theorem rch_of{p:List e9}(hop:∀c ∈ p,c.operator=ch c.state){s:Li}(h:Rch t p s):RchC t ch s:=by
 induction h with
 |init=>exact .init
 |@step s y _ hg hl hy ih=>
  refine .step ih hg ?_
  rcases chO_ch hop s with⟨e,_⟩|⟨_,e⟩
  ·unfold M6 at hl;omega
  ·unfold nxS at hy;rw[e] at hy;exact hy
theorem PolB.live{p:List e9}(h:PolB t ch p){s:Li}(hs:RchC t ch s)(hg:¬ q9 t s):chO p s=ch s:=by
 rcases chO_ch h.op s with⟨_,e⟩|⟨_,e⟩
 ·obtain⟨c,hc,he⟩:=(h.mem s).2 ⟨hs,hg⟩
  exact absurd he (e c hc)
 ·exact e
/-! ### One choice put in its place -/
theorem mem_takeN{α:Type}{l:List α}{n:Nat}{a:α}(h:a ∈ l.take n):∃k:Int,0<=k/\k<n/\ix l k=some a:=by
 obtain⟨k,hk⟩:=jF h
 rw[List.getElem?_take] at hk
 split at hk
 ·exact⟨k,by omega,by omega,by rw[J2];exact hk⟩
 ·cases hk
theorem mem_dropN{α:Type}{l:List α}{n:Nat}{a:α}(h:a ∈ l.drop n):∃k:Int,(n:Int)<=k/\ix l k=some a:=by
 obtain⟨k,hk⟩:=jF h
 rw[List.getElem?_drop] at hk
 exact⟨(n+k:Nat),by omega,by rw[J2];exact hk⟩
theorem ins_ord{p:List e9}{c:e9}{i:Int}(ho:Ord (p.map e9.state))(h0:0<=i)(hlt:∀k a,0<=k->k<i->ix p k=some a->llt a.state c.state)(hge:∀k a,i<=k->ix p k=some a->¬ llt a.state c.state)(hns:∀a ∈ p,a.state ≠ c.state):
  Ord ((p.take i.toNat++c::p.drop i.toNat).map e9.state):=by
 have a1:∀a ∈ p.take i.toNat,llt a.state c.state:=fun a ha=>by
  obtain⟨k,k0,k1,hk⟩:=mem_takeN ha
  exact hlt k a k0 (by omega) hk
 have a2:∀a ∈ p.drop i.toNat,llt c.state a.state:=fun a ha=>by
  obtain⟨k,k1,hk⟩:=mem_dropN ha
  rcases O7 a.state c.state with h|h|h
  ·exact absurd h (hge k a (by omega) hk)
  ·exact absurd h (hns a (m9 hk))
  ·exact h
 have s1:Ord ((p.take i.toNat).map e9.state):=by rw[List.map_take];exact jJ.sublist (List.take_sublist _ _) ho
 have s2:Ord ((p.drop i.toNat).map e9.state):=by rw[List.map_drop];exact jJ.sublist (List.drop_sublist _ _) ho
 rw[List.map_append,List.map_cons]
 refine jG.2 ⟨s1,jL.2 ⟨fun x hx=> ?_,s2⟩,fun x hx y hy=> ?_⟩
 ·obtain⟨a,ha,rfl⟩:=je.1 hx
  exact a2 a ha
 ·obtain⟨a,ha,rfl⟩:=je.1 hx
  rcases jj.1 hy with rfl|hy
  ·exact a1 a ha
  ·obtain⟨b,hb,rfl⟩:=je.1 hy
   exact G0 (a1 a ha) (a2 b hb)
theorem ins_mem{α:Type}{p:List α}{c x:α}{n:Nat}:x ∈ p.take n++c::p.drop n↔x=c\/x ∈ p:=by
 have:x ∈ p↔x ∈ p.take n\/x ∈ p.drop n:=by
  rw[<- jd,jE]
 rw[this]
 simp only[jd,jj]
 constructor
 ·rintro (h|h|h)
  ·exact .inr (.inl h)
  ·exact .inl h
  ·exact .inr (.inr h)
 ·rintro (h|h|h)
  ·exact .inr (.inl h)
  ·exact .inl h
  ·exact .inr (.inr h)
theorem ins_len{α:Type}{p:List α}{c:α}{n:Nat}(h:n<=p.length):(p.take n++c::p.drop n).length=p.length+1:=by simp;omega
structure PolP(t:d5)(ch:Li->Int)(p:List e9):Prop where
 pol:F2 t p
 of:∀c ∈ p,(RchC t ch c.state/\¬ q9 t c.state)/\c.operator=ch c.state
theorem PolP.op{p:List e9}(h:PolP t ch p):∀c ∈ p,c.operator=ch c.state:=fun c hc=>(h.of c hc).2
theorem PolP.ins(ht:m8 t)(hk:ChOk t ch){p:List e9}(h:PolP t ch p){s:Li}(hs:RchC t ch s)(hg:¬ q9 t s){i:Int}(h0:0<=i)(h1:i<=p.length)(hlt:∀k a,0<=k->k<i->ix p k=some a->llt a.state s)(hge:∀k a,i<=k->ix p k=some a->¬ llt a.state s)(hns:∀a ∈ p,a.state ≠ s)(hl:p.length<200):
  PolP t ch (p.take i.toNat++⟨s,ch s⟩::p.drop i.toNat):=by
 have key:∀{q:e9->Prop},q ⟨s,ch s⟩->(∀c ∈ p,q c)->∀c ∈ p.take i.toNat++⟨s,ch s⟩::p.drop i.toNat,q c:=fun h1 h2 c hc=>by
  rcases ins_mem.1 hc with rfl|hc
  ·exact h1
  ·exact h2 c hc
 exact⟨⟨by rw[ins_len (by omega)];omega,ins_ord h.pol.ord h0 hlt hge hns,key (hs.set ht) h.pol.set,key (hk s hs hg).1 h.pol.op,key (hk s hs hg).2 h.pol.can⟩,key ⟨⟨hs,hg⟩,rfl⟩ h.of⟩
theorem states_nodup{p:List e9}(h:Ord (p.map e9.state)){s:Li}(hns:∀a ∈ p,a.state ≠ s):(s::p.map e9.state).Nodup:=
 jv.2 ⟨fun hm=>by obtain⟨a,ha,e⟩:=je.1 hm;exact hns a ha e,h.nodup⟩
structure BI(t:d5)(ch:Li->Int)(q:LL)(p:List e9)(a:Int):Prop where
 a0:0<=a
 a1:a<=q.length
 pp:PolP t ch p
 qr:∀s ∈ q,RchC t ch s
 qi:t.init ∈ q
 px:∀c ∈ p,∀y ∈ nxC t ch c.state,y ∈ q
 dn:∀k s,k<a->ix q k=some s->q9 t s\/∃c ∈ p,c.state=s
 ql:q.length<=1+4 * p.length
theorem build_prog(ht:m8 t)(hk:ChOk t ch){choose:Li->Option Int}(hch:∀s,RchC t ch s->¬ q9 t s->choose s=some (ch s)):
  ∃r,ab6 t choose=some r/\((r=([],false)/\∃l:LL,l.Nodup/\(∀s ∈ l,RchC t ch s/\¬ q9 t s)/\l.length=201)\/∃p,r=(p,true)/\PolB t ch p/\p.length<=200):=by
 have hn:=ht.n1
 obtain⟨o,o1,o2⟩:=M7 (body:=aa9 t choose) (fun x=>BI t ch x.1 x.2.1 x.2.2) (fun o=>(o=.inr ([],false)/\∃l:LL,l.Nodup/\(∀s ∈ l,RchC t ch s/\¬ q9 t s)/\l.length=201)\/∃p,o=.inl p/\PolB t ch p/\p.length<=200) (fun x=>(1000 - x.2.2).toNat)
  (s:=([t.init],[],0)) ⟨by dsimp only;omega,by simp,⟨⟨by simp,.nil,by simp,by simp,by simp⟩,by simp⟩,fun s hs=>by rw[ja.1 hs];exact .init,by simp,by simp,fun k s hk hs=>by have:=(n7 hs).1;dsimp only at hk;omega,by simp⟩ (fun⟨q,p,a⟩ h=>by
   have a0:0<=a:=h.a0
   have a1:a<=q.length:=h.a1
   have ql:q.length<=1+4 * p.length:=h.ql
   have pp:PolP t ch p:=h.pp
   have qr:∀s ∈ q,RchC t ch s:=h.qr
   have qi:t.init ∈ q:=h.qi
   have px:∀c ∈ p,∀y ∈ nxC t ch c.state,y ∈ q:=h.px
   have dn:∀k s,k<a->ix q k=some s->q9 t s\/∃c ∈ p,c.state=s:=h.dn
   have pl:p.length<=200:=pp.pol.len
   clear h
   dsimp only
   unfold aa9
   dsimp only
   by_cases c:a<q.length
   ·rw[if_pos c]
    obtain⟨s,hs,_⟩:=k6 (l:=q) a0 c
    have hr:=qr s (m9 hs)
    have hset:=hr.set ht
    have hsl:=hset.len
    rw[hs]
    simp only[oB,K1 hset.1 ht.goal.1 (show s.length<=1000000 by omega),(ad6 pp.pol s).1]
    have key:(if dec (∀x ∈ t.goal,x ∈ s)=true then some true else some (decide (0<=chO p s)))=some (dec (q9 t s\/0<=chO p s)):=by
     by_cases hg:q9 t s
     ·rw[ifP (p:=∀x ∈ t.goal,x ∈ s) hg,o8 (.inl hg)]
     ·rw[ifN (p:=∀x ∈ t.goal,x ∈ s) hg,W9]
      congr 1
      exact C1 ⟨.inr,fun h=>h.resolve_left hg⟩
    rw[key]
    simp only[oB]
    have hw:w64 (a+1)=a+1:=x9 (by omega) (by omega)
    by_cases cg:q9 t s\/0<=chO p s
    ·rw[ifP cg]
     unfold M2
     dsimp only
     refine .inl ⟨(q,p,a+1),by rw[hw],⟨by dsimp only;omega,by dsimp only;omega,pp,qr,qi,px,fun(k:Int) z hk2 hz=> ?_,ql⟩,by dsimp only;omega⟩
     dsimp only at hk2 hz
     by_cases e:k=a
     ·subst e
      rw[hs] at hz;cases hz
      refine cg.imp id fun hc=> ?_
      rcases chO_ch pp.op s with⟨e,_⟩|⟨e,_⟩
      ·omega
      ·exact e
     ·exact dn k z (by omega) hz
    ·rw[ifN cg]
     have hg:¬ q9 t s:=fun g=>cg (.inl g)
     have hns:∀c ∈ p,c.state ≠ s:=by
      rcases chO_ch pp.op s with⟨_,e⟩|⟨_,e⟩
      ·exact e
      ·exact absurd (.inr (by rw[e];exact(hk s hr hg).1.1)) cg
     by_cases cl:(p.length:Int)=200
     ·rw[if_pos cl]
      refine .inr ⟨_,rfl,.inl ⟨rfl,s::p.map e9.state,states_nodup pp.pol.ord hns,fun z hz=> ?_,by simp;omega⟩⟩
      rcases jj.1 hz with rfl|hz
      ·exact⟨hr,hg⟩
      ·obtain⟨c,hc,rfl⟩:=je.1 hz
       exact(pp.of c hc).1
     ·rw[if_neg cl,hch s hr hg]
      simp only[oB]
      have ho:=hk s hr hg
      obtain⟨i,i1,i0,_,i2,i3,i4⟩:=bsf_full (key:=e9.state) (xs:=p) (t:=s) (cmp:=P2) pp.pol.ord (by omega) (fun a=>by unfold P2;rw[al5];rfl)
      have hb:n9 p s P2=some (i,dec (∃a ∈ p,a.state=s)):=i1
      rw[hb]
      simp only[oB,P6 (show s.length<=1000000 by omega)]
      rw[insL,if_pos ⟨i0,i2,by omega⟩]
      obtain⟨st,w,r1,_,r3,r4,_⟩:=Y4 ht ho.1.1 ho.1.2 hset
      simp only[oB,r1]
      rw[app,if_pos (by omega)]
      simp only[oB]
      unfold M2
      dsimp only
      have hst:∀y,y ∈ st↔y ∈ nxC t ch s:=fun y=>by rw[r3,nxC,je]
      have pp':=pp.ins ht hk hr hg i0 i2 i3 i4 hns (by omega)
      refine .inl ⟨(q++st,p.take i.toNat++⟨s,ch s⟩::p.drop i.toNat,a+1),by rw[hw],⟨by dsimp only;omega,by simp;omega,pp',fun z hz=> ?_,jl _ qi,fun c hc y hy=> ?_,fun k z hk2 hz=> ?_,?_⟩,by dsimp only;omega⟩
      ·rcases jd.1 hz with hz|hz
       ·exact qr z hz
       ·exact .step hr hg ((hst z).1 hz)
      ·rcases ins_mem.1 hc with rfl|hc
       ·exact List.mem_append_right _ ((hst y).2 hy)
       ·exact jl _ (px c hc y hy)
      ·dsimp only at hk2 hz
       obtain⟨z',hz',_⟩:=k6 (l:=q) (i:=k) (n7 hz).1 (by omega)
       have e:z'=z:=by
        obtain⟨k0,_,g1⟩:=n7 hz
        obtain⟨_,k1,g2⟩:=n7 hz'
        rw[jg (by omega),g2] at g1
        exact Option.some.inj g1
       subst e
       by_cases e:k=a
       ·subst e
        rw[hs] at hz';cases hz'
        exact .inr ⟨⟨s,ch s⟩,ins_mem.2 (.inl rfl),rfl⟩
       ·refine(dn k _ (by omega) hz').imp id fun⟨c,hc,e⟩=>⟨c,ins_mem.2 (.inr hc),e⟩
      ·dsimp only
       rw[jb,ins_len (by omega)]
       omega
   ·rw[if_neg c]
    have all:∀s,RchC t ch s->s ∈ q:=fun s hs=>by
     induction hs with
     |init=>exact qi
     |@step s y _ hg hy ih=>
      obtain⟨k,k0,k1,hk1⟩:=s6 ih
      rcases dn k s (by omega) hk1 with g|⟨c,hc,rfl⟩
      ·exact absurd g hg
      ·exact px c hc y hy
    refine .inr ⟨_,rfl,.inr ⟨p,rfl,⟨pp.pol.ord,fun s=>⟨fun⟨c,hc,e⟩=>e ▸ (pp.of c hc).1,fun⟨hs,hg⟩=> ?_⟩,pp.op⟩,pl⟩⟩
    obtain⟨k,k0,k1,hk1⟩:=s6 (all s hs)
    exact(dn k s (by omega) hk1).resolve_left hg)
 unfold ab6
 rw[o1]
 rcases o2 with⟨rfl,h⟩|⟨p,rfl,h⟩
 ·exact⟨_,rfl,.inl ⟨rfl,h⟩⟩
 ·exact⟨_,rfl,.inr ⟨p,rfl,h⟩⟩
end
end Ab
end
section
namespace Ab
open Go
/-! ### Values of ordered states -/
noncomputable def sc(t:d5)(s:Li)(op:Int):LL:=(ooAt t op).outcomes.map (efc t.facts s)
structure Rep{A:Type}(all:LL)(v:List A)(f:Li->A):Prop where
 len:v.length=all.length
 get:∀{i:Int} {s:Li},ix all i=some s->ix v i=some (f s)
noncomputable def upd{A:Type}(f:Li->A)(s:Li)(x:A):Li->A:=fun z=>if dec (z=s)=true then x else f z
theorem upd_self{A:Type}{f:Li->A}{s:Li}{x:A}:upd f s x s=x:=ifP rfl
theorem upd_ne{A:Type}{f:Li->A}{s z:Li}{x:A}(h:z ≠ s):upd f s x z=f z:=ifN h
section
variable {A:Type}{all:LL}{v:List A}{f g:Li->A}
theorem Rep.of(h:Rep all v f){s:Li}(hs:s ∈ all):∃i,ix all i=some s/\ix v i=some (f s):=by
 obtain⟨i,_,_,hi⟩:=s6 hs
 exact⟨i,hi,h.get hi⟩
theorem Rep.set(ho:Ord all)(h:Rep all v f){i:Int}{s:Li}(hi:ix all i=some s)(x:A):Rep all (v.set i.toNat x) (upd f s x):=by
 obtain⟨i0,i1,_⟩:=n7 hi
 have hl:=h.len
 refine⟨by rw[lS];exact hl,fun {j z} hj=> ?_⟩
 rw[ix_put i0 (by omega) (n7 hj).1]
 by_cases e:j=i
 ·subst e
  rw[hi] at hj;cases hj
  rw[if_pos rfl,upd_self]
 ·rw[if_neg e,upd_ne (fun hz=>e (by subst hz;exact ho.inj hj hi))]
  exact h.get hj
theorem Rep.congr(h:Rep all v f)(e:∀s ∈ all,f s=g s):Rep all v g:=⟨h.len,fun hi=>by rw[<- e _ (m9 hi)];exact h.get hi⟩
theorem Rep.repl(c:A):Rep all (jf all.length c) fun _=>c:=⟨by simp,fun {i s} hi=>by
 obtain⟨i0,i1,g⟩:=n7 hi
 have:i.toNat<all.length:=(lG.1 g).1
 rw[ix,if_pos i0,List.getElem?_replicate,if_pos this]⟩
end
theorem repeat_eq(c:Int){n:Nat}(h1:1<=n)(hn:n<=100000):G2 [c] (n:Int)=some (jf n c):=by
 unfold G2
 dsimp only
 rw[if_pos (show(1:Int)<=n/\(n:Int)<=4294967295 by omega)]
 simp
def DnA(t:d5):Nat->Li->Prop
 |0,s=>q9 t s
 |k+1,s=>q9 t s\/∃op:Int,(0<=op/\op<t.operators.length)/\oCan t s op/\∀y ∈ sc t s op,DnA t k y
section
variable {t:d5}
theorem DnA.goal{k:Nat}{s:Li}(h:q9 t s):DnA t k s:=by
 cases k with
 |zero=>exact h
 |succ k=>exact .inl h
theorem DnA.succ:∀{k:Nat} {s:Li},DnA t k s->DnA t (k+1) s
 |0,s,h=>.inl h
 |k+1,s,h=>by
  rcases h with h|⟨op,h1,h2,h3⟩
  ·exact .inl h
  ·exact .inr ⟨op,h1,h2,fun y hy=>DnA.succ (h3 y hy)⟩
theorem DnA.mono{k m:Nat}{s:Li}(h:DnA t k s)(hm:k<=m):DnA t m s:=by
 induction hm with
 |refl=>exact h
 |step _ ih=>exact ih.succ
def HtA(t:d5)(k:Nat)(s:Li):Prop:=DnA t k s/\∀j,j<k->¬ DnA t j s
theorem HtA.unique{k m:Nat}{s:Li}(h:HtA t k s)(h':HtA t m s):k=m:=by
 rcases jQ k m with c|c|c
 ·exact absurd h.1 (h'.2 k c)
 ·exact c
 ·exact absurd h'.1 (h.2 m c)
theorem HtA.of_dn:∀{k:Nat} {s:Li},DnA t k s->∃m,m<=k/\HtA t m s
 |0,s,h=>⟨0,jm _,h,fun j hj=>by omega⟩
 |k+1,s,h=>by
  by_cases c:DnA t k s
  ·obtain⟨m,h1,h2⟩:=HtA.of_dn c
   exact⟨m,by omega,h2⟩
  ·exact⟨k+1,jm _,h,fun j hj hd=>c (hd.mono (by omega))⟩
theorem HtA.zero{s:Li}(h:q9 t s):HtA t 0 s:=⟨h,fun j hj=>by omega⟩
theorem HtA.of_not{k:Nat}{s:Li}(h:DnA t (k+1) s)(hn:¬ DnA t k s):HtA t (k+1) s:=⟨h,fun j hj hd=>hn (hd.mono (by omega))⟩
structure ClO(t:d5)(all:LL):Prop where
 cl:Cl t all
 ord:Ord all
theorem ClO.len{all:LL}(h:ClO t all):all.length<=2000:=h.cl.len
theorem ClO.set{all:LL}(h:ClO t all){s:Li}(hs:s ∈ all):SetN s t.facts:=h.cl.set s hs
theorem ClO.sc{all:LL}(h:ClO t all){s:Li}(hs:s ∈ all){op:Int}(h0:0<=op/\op<t.operators.length)(hc:oCan t s op){y:Li}(hy:y ∈ sc t s op):y ∈ all:=by
 obtain⟨x,hx,rfl⟩:=je.1 hy
 exact h.cl.closed s hs op h0.1 h0.2 hc x hx
theorem sc_ne(ht:m8 t){s:Li}{op:Int}(h0:0<=op/\op<t.operators.length):∃y,y ∈ sc t s op:=by
 have:=(ht.at h0.1 h0.2).l0
 cases h:(ooAt t op).outcomes with
 |nil=>rw[h] at this;simp at this
 |cons x l=>exact⟨efc t.facts s x,by unfold sc;rw[h];simp⟩
def WW(f:Li->Int)(l:LL)(w:Int):Prop:=0<=w/\(∀y ∈ l,0<=f y/\f y<=w)/\∃y ∈ l,f y=w
theorem WW.unique{f:Li->Int}{l:LL}{w w':Int}(h:WW f l w)(h':WW f l w'):w=w':=by
 obtain⟨_,a,y,hy,rfl⟩:=h
 obtain⟨_,b,z,hz,rfl⟩:=h'
 have:=(a z hz).2;have:=(b y hy).2
 omega
theorem worstG(ht:m8 t){all:LL}(ho:Ord all)(hl:all.length<=500000){s:Li}(hs:SetN s t.facts){op:Int}(h0:0<=op/\op<t.operators.length)(hcl:∀y ∈ sc t s op,y ∈ all){v:Li}{f:Li->Int}(hv:Rep all v f):
  ∃w,K9 t all v s op=some w/\((w= -1/\∃y ∈ sc t s op,f y<0)\/WW f (sc t s op) w):=by
 obtain⟨st,ws,r1,_,r3,_⟩:=Y4 ht h0.1 h0.2 hs
 have hst:∀y,y ∈ st↔y ∈ sc t s op:=fun y=>by rw[r3,sc,je]
 unfold K9
 rw[r1]
 simp only[oB]
 rcases X3 (body:=M5 all v (st,ws)) (n:=(st.length:Int)) (s:=0) (fun j n=>0<=n/\(∀k y,k<j->ix st k=some y->0<=f y/\f y<=n)/\(n=0\/∃y ∈ sc t s op,f y=n)) (fun o=>o= -1/\∃y ∈ sc t s op,f y<0) (by omega) ⟨jt _,fun k y hk h=>by have:=(n7 h).1;omega,.inl rfl⟩ (fun j n j0 j1 ⟨a1,a2,a3⟩=>by
  obtain⟨y,hy,_⟩:=k6 (l:=st) j0 j1
  have hyn:=(hst y).1 (m9 hy)
  obtain⟨i,hi,hvi⟩:=hv.of (hcl y hyn)
  unfold M5
  dsimp only
  rw[hy]
  simp only[oB,find_eq ho hl hi,hvi]
  by_cases c:f y<0
  ·rw[if_pos c]
   exact .inr ⟨_,rfl,rfl,y,hyn,c⟩
  ·rw[if_neg c]
   refine .inl ⟨_,rfl,by omega,fun k z hk hz=> ?_,?_⟩
   ·by_cases ek:k=j
    ·subst ek
     rw[hy] at hz;cases hz
     omega
    ·have:=a2 k z (by omega) hz
     omega
   ·by_cases cm:n<=f y
    ·rw[Int.max_eq_right cm]
     exact .inr ⟨y,hyn,rfl⟩
    ·rw[Int.max_eq_left (by omega)]
     exact a3) with⟨n,e1,e2,e3,e4⟩|⟨o,e1,rfl,e2⟩
 ·rw[e1]
  have a:∀y ∈ sc t s op,0<=f y/\f y<=n:=fun y hy=>by
   obtain⟨k,_,k1,hk⟩:=s6 ((hst y).2 hy)
   exact e3 k y k1 hk
  refine⟨n,rfl,.inr ⟨e2,a,?_⟩⟩
  rcases e4 with rfl|h
  ·obtain⟨y,hy⟩:=sc_ne (s:=s) ht h0
   exact⟨y,hy,by have:=a y hy;omega⟩
  ·exact h
 ·rw[e1]
  exact⟨-1,rfl,.inl ⟨rfl,e2⟩⟩
def BestV(t:d5)(f:Li->Int)(s:Li)(b:Int):Prop:=
 ((0<=b/\b<t.operators.length)/\oCan t s b)/\∃w,WW f (sc t s b) w/\∀op:Int,(0<=op/\op<t.operators.length)->oCan t s op->∀w',WW f (sc t s op) w'->w<=w'/\(op<b->w<w')
theorem best_eq(ht:m8 t){all:LL}(hc:ClO t all){s:Li}(hs:s ∈ all){v:Li}{f:Li->Int}(hv:Rep all v f):
  ∃b,x8 t all v s=some b/\((b= -1/\∀op:Int,(0<=op/\op<t.operators.length)->oCan t s op->∃y ∈ sc t s op,f y<0)\/BestV t f s b):=by
 have hset:=hc.set hs
 have hlen:=hc.len
 unfold x8
 obtain⟨⟨out,least⟩,e1,e2⟩:=z6 (body:=ad5 t all v s) (n:=(t.operators.length:Int)) (s:=(-1,0)) (fun j x=>(x.1= -1/\∀op:Int,0<=op->op<j->oCan t s op->∃y ∈ sc t s op,f y<0)\/((0<=x.1/\x.1<j)/\oCan t s x.1/\WW f (sc t s x.1) x.2/\∀op:Int,0<=op->op<j->oCan t s op->∀w',WW f (sc t s op) w'->x.2<=w'/\(op<x.1->x.2<w'))) (by omega) (.inl ⟨rfl,fun op h0 h1=>by omega⟩) (fun j ⟨out,least⟩ j0 j1 h=>by
  dsimp only at h
  unfold ad5
  dsimp only
  rw[oCan_eq ht j0 j1 hset]
  simp only[oB,v6]
  by_cases cc:oCan t s j
  ·rw[ifNN cc]
   obtain⟨w,w1,w2⟩:=worstG ht hc.ord (by omega) hset ⟨j0,j1⟩ (fun y hy=>hc.sc hs ⟨j0,j1⟩ cc hy) hv
   rw[w1]
   simp only[oB]
   rcases w2 with⟨rfl,y,hy,hyn⟩|w2
   ·rw[if_neg (by simp)]
    refine⟨_,rfl,?_⟩
    dsimp only
    rcases h with⟨h1,h2⟩|⟨h1,h2,h3,h4⟩
    ·refine .inl ⟨h1,fun op o0 o1 oc=> ?_⟩
     by_cases e:op=j
     ·subst e;exact⟨y,hy,hyn⟩
     ·exact h2 op o0 (by omega) oc
    ·refine .inr ⟨⟨h1.1,by omega⟩,h2,h3,fun op o0 o1 oc w' hw'=> ?_⟩
     by_cases e:op=j
     ·subst e;have:=(hw'.2.1 y hy).1;omega
     ·exact h4 op o0 (by omega) oc w' hw'
   ·have w0:=w2.1
    by_cases cb:out<0\/w<least
    ·rw[if_pos (by simp only[jU,jo,decide_eq_true_eq];exact⟨w0,cb⟩)]
     refine⟨_,rfl,.inr ⟨⟨j0,by dsimp only;omega⟩,cc,w2,fun op o0 o1 oc w' hw'=> ?_⟩⟩
     dsimp only at o1 ⊢
     by_cases e:op=j
     ·subst e;have:=w2.unique hw';omega
     ·rcases h with⟨h1,h2⟩|⟨h1,h2,h3,h4⟩
      ·obtain⟨y,hy,hyn⟩:=h2 op o0 (by omega) oc
       have:=(hw'.2.1 y hy).1;omega
      ·have:=h4 op o0 (by omega) oc w' hw'
       omega
    ·rw[if_neg (by simp only[jU,jo,decide_eq_true_eq];exact fun h=>cb h.2)]
     rcases h with⟨h1,h2⟩|⟨h1,h2,h3,h4⟩
     ·omega
     ·refine⟨_,rfl,.inr ⟨⟨h1.1,by dsimp only;omega⟩,h2,h3,fun op o0 o1 oc w' hw'=> ?_⟩⟩
      dsimp only at o1 ⊢
      by_cases e:op=j
      ·subst e;have:=w2.unique hw';omega
      ·exact h4 op o0 (by omega) oc w' hw'
  ·rw[ifP cc]
   refine⟨_,rfl,?_⟩
   dsimp only
   rcases h with⟨h1,h2⟩|⟨h1,h2,h3,h4⟩
   ·refine .inl ⟨h1,fun op o0 o1 oc=> ?_⟩
    by_cases e:op=j
    ·subst e;exact absurd oc cc
    ·exact h2 op o0 (by omega) oc
   ·refine .inr ⟨⟨h1.1,by omega⟩,h2,h3,fun op o0 o1 oc w' hw'=> ?_⟩
    by_cases e:op=j
    ·subst e;exact absurd oc cc
    ·exact h4 op o0 (by omega) oc w' hw')
 rw[e1]
 simp only[oB]
 dsimp only at e2
 refine⟨out,rfl,?_⟩
 rcases e2 with⟨h1,h2⟩|⟨h1,h2,h3,h4⟩
 ·exact .inl ⟨h1,fun op ho hc=>h2 op ho.1 ho.2 hc⟩
 ·exact .inr ⟨⟨h1,h2⟩,least,h3,fun op ho hc w' hw'=>h4 op ho.1 ho.2 hc w' hw'⟩
/-! ### Ranks, layer by layer -/
def RankL(t:d5)(all:LL)(f:Li->Int)(L:Nat):Prop:=∀s ∈ all,(f s= -1/\¬ DnA t L s)\/∃k:Nat,k<=L/\f s=k/\HtA t k s
theorem RankL.fresh{all:LL}(hc:ClO t all){f:Li->Int}{L:Nat}(h:RankL t all f L){s:Li}(hs:s ∈ all):
  HtA t (L+1) s↔f s<0/\∃op:Int,(0<=op/\op<t.operators.length)/\oCan t s op/\∀y ∈ sc t s op,0<=f y:=by
 constructor
 ·intro hh
  have hn:¬ DnA t L s:=hh.2 L (by omega)
  have hf:f s= -1:=by
   rcases h s hs with⟨e,_⟩|⟨k,k1,_,k2⟩
   ·exact e
   ·exact absurd (k2.1.mono k1) hn
  refine⟨by omega,?_⟩
  rcases hh.1 with g|⟨op,h1,h2,h3⟩
  ·exact absurd (DnA.goal g) hn
  ·refine⟨op,h1,h2,fun y hy=> ?_⟩
   rcases h y (hc.sc hs h1 h2 hy) with⟨_,e⟩|⟨k,_,e,_⟩
   ·exact absurd (h3 y hy) e
   ·omega
 ·rintro ⟨hf,op,h1,h2,h3⟩
  have hn:¬ DnA t L s:=by
   rcases h s hs with⟨_,e⟩|⟨k,_,e,_⟩
   ·exact e
   ·omega
  refine HtA.of_not (.inr ⟨op,h1,h2,fun y hy=> ?_⟩) hn
  have:=h3 y hy
  rcases h y (hc.sc hs h1 h2 hy) with⟨e,_⟩|⟨k,k1,_,k2⟩
  ·omega
  ·exact k2.1.mono k1
structure RankA(t:d5)(all:LL)(f:Li->Int):Prop where
 val:∀s ∈ all,(f s= -1/\∀k,¬ DnA t k s)\/∃k:Nat,f s=k/\HtA t k s
 le:∀s ∈ all,f s<=all.length
theorem ranks_eq(ht:m8 t){all:LL}(hc:ClO t all):∃v f,ab2 t all=some v/\Rep all v f/\RankA t all f:=by
 have hlen:=hc.len
 have hn:=ht.n1
 unfold ab2
 rw[repeat_eq (-1) (jB hc.cl.init) (by omega)]
 simp only[oB]
 obtain⟨v0,a1,f0,a2,a3⟩:=z6 (body:=aa0 t all) (n:=(all.length:Int)) (s:=jf all.length (-1)) (fun j v=>∃f,Rep all v f/\∀i s,ix all i=some s->(i<j->(q9 t s->f s=0)/\(¬ q9 t s->f s= -1))/\(j<=i->f s= -1)) (by omega) ⟨_,Rep.repl (-1),fun i s hi=>⟨fun h=>by have:=(n7 hi).1;omega,fun _=>rfl⟩⟩ (fun j v j0 j1 ⟨f,h1,h2⟩=>by
  obtain⟨s,hs,_⟩:=k6 (l:=all) j0 j1
  have hset:=hc.set (m9 hs)
  have hsl:=hset.len
  unfold aa0
  rw[hs]
  simp only[oB,K1 hset.1 ht.goal.1 (show s.length<=1000000 by omega),h1.get hs]
  by_cases hg:q9 t s
  ·rw[ifP (p:=∀x ∈ t.goal,x ∈ s) hg]
   refine⟨_,rfl,_,h1.set hc.ord hs 0,fun i z hz=> ?_⟩
   by_cases e:i=j
   ·subst e
    rw[hs] at hz;cases hz
    rw[upd_self]
    exact⟨fun _=>⟨fun _=>rfl,fun h=>absurd hg h⟩,fun h=>by omega⟩
   ·rw[upd_ne (fun hz'=>e (hc.ord.inj hz (by rw[hz'];exact hs)))]
    exact⟨fun h=>(h2 i z hz).1 (by omega),fun h=>(h2 i z hz).2 (by omega)⟩
  ·rw[ifN (p:=∀x ∈ t.goal,x ∈ s) hg]
   refine⟨_,rfl,_,h1,fun i z hz=> ?_⟩
   by_cases e:i=j
   ·subst e
    rw[hs] at hz;cases hz
    exact⟨fun _=>⟨fun h=>absurd h hg,fun _=>(h2 i s hs).2 (jt _)⟩,fun h=>by omega⟩
   ·exact⟨fun h=>(h2 i z hz).1 (by omega),fun h=>(h2 i z hz).2 (by omega)⟩)
 rw[a1]
 simp only[oB]
 have r0:RankL t all f0 0:=fun s hs=>by
  obtain⟨i,_,i1,hi⟩:=s6 hs
  have:=(a3 i s hi).1 i1
  by_cases hg:q9 t s
  ·exact .inr ⟨0,jm _,this.1 hg,.zero hg⟩
  ·exact .inl ⟨this.2 hg,hg⟩
 obtain⟨v,e1,f,e2,e3⟩:=M7 (body:=aa6 t all) (fun x=>∃f L,Rep all x.1 f/\x.2=((L:Nat):Int)+1/\RankL t all f L/\∃c:LL,c.Nodup/\c.length=L/\∀z ∈ c,z ∈ all/\∃j,j<=L/\HtA t j z) (fun v=>∃f,Rep all v f/\RankA t all f) (fun x=>(all.length+2 - x.2).toNat) (s:=(v0,1)) ⟨f0,0,a2,by simp,r0,[],by simp⟩ (fun⟨v,layer⟩ ⟨f,L,h1,h2,h3,c,c1,c2,c3⟩=>by
  dsimp only at h1 h2 ⊢
  subst h2
  have hL:L<=all.length:=by rw[<- c2];exact ao4 c1 fun z hz=>(c3 z hz).1
  have hcond:∀s ∈ all,∃b,x8 t all v s=some b/\(f s<0->(0<=b↔HtA t (L+1) s)):=fun s hs=>by
   obtain⟨b,b1,b2⟩:=best_eq ht hc hs h1
   refine⟨b,b1,fun hf=> ?_⟩
   rw[h3.fresh hc hs]
   rcases b2 with⟨rfl,b2⟩|⟨⟨b2,b3⟩,w,b4,_⟩
   ·refine⟨fun h=>by omega,fun⟨_,op,h1,h2,h3⟩=> ?_⟩
    obtain⟨y,hy,hyn⟩:=b2 op h1 h2
    have:=h3 y hy;omega
   ·exact⟨fun _=>⟨hf,b,b2,b3,fun y hy=>(b4.2.1 y hy).1⟩,fun _=>b2.1⟩
  unfold aa6
  dsimp only
  obtain⟨fr,g1,g2,g3⟩:=z6 (body:=aa4 t all v) (n:=(all.length:Int)) (s:=[]) (fun j l=>(l.length:Int)<=j/\∀i,i ∈ l↔0<=i/\i<j/\∃s,ix all i=some s/\HtA t (L+1) s) (by omega) ⟨by simp,fun i=>⟨fun h=>by(cases h),fun h=>by omega⟩⟩ (fun j l j0 j1 ⟨l1,l2⟩=>by
   obtain⟨s,hs,_⟩:=k6 (l:=all) j0 j1
   obtain⟨b,b1,b2⟩:=hcond s (m9 hs)
   unfold aa4
   rw[hs]
   simp only[oB,h1.get hs]
   have key:(if f s<0 then jp (x8 t all v s) fun a52=>some (decide (0<=a52)) else some false)=some (dec (HtA t (L+1) s)):=by
    by_cases hf:f s<0
    ·rw[if_pos hf,b1]
     simp only[oB,W9]
     rw[C1 (b2 hf)]
    ·rw[if_neg hf,z2]
     exact fun h=>hf ((h3.fresh hc (m9 hs)).1 h).1
   rw[key]
   simp only[oB]
   by_cases hh:HtA t (L+1) s
   ·rw[ifP hh,app,if_pos (by simp;omega)]
    refine⟨_,rfl,by simp;omega,fun i=> ?_⟩
    rw[jd,ja,l2]
    constructor
    ·rintro (⟨q0,q1,q2⟩|rfl)
     ·exact⟨q0,by omega,q2⟩
     ·exact⟨j0,by omega,s,hs,hh⟩
    ·rintro ⟨q0,q1,q2⟩
     by_cases e:i=j
     ·exact .inr e
     ·exact .inl ⟨q0,by omega,q2⟩
   ·rw[ifN hh]
    refine⟨_,rfl,by omega,fun i=> ?_⟩
    rw[l2]
    constructor
    ·rintro ⟨q0,q1,q2⟩;exact⟨q0,by omega,q2⟩
    ·rintro ⟨q0,q1,z,hz,hzh⟩
     by_cases e:i=j
     ·subst e;rw[hs] at hz;cases hz;exact absurd hzh hh
     ·exact⟨q0,by omega,z,hz,hzh⟩)
  rw[g1]
  simp only[oB]
  have frm:∀i,i ∈ fr↔∃s,ix all i=some s/\HtA t (L+1) s:=fun i=>by
   rw[g3]
   exact⟨fun h=>h.2.2,fun⟨s,h1,h2⟩=>⟨(n7 h1).1,(n7 h1).2.1,s,h1,h2⟩⟩
  by_cases cf:(fr.length:Int)=0
  ·rw[if_pos cf]
   have none:∀s ∈ all,¬ HtA t (L+1) s:=fun s hs hh=>by
    obtain⟨i,_,_,hi⟩:=s6 hs
    have:=(frm i).2 ⟨s,hi,hh⟩
    have e0:fr=[]:=List.eq_nil_of_length_eq_zero (by omega)
    rw[e0] at this
    cases this
   have top:∀k,∀s ∈ all,DnA t k s->DnA t L s:=fun k=>by
    induction k with
    |zero=>exact fun s _ h=>DnA.mono h (Nat.zero_le _)
    |succ k ih=>
     intro s hs h
     rcases h with h|⟨op,o1,o2,o3⟩
     ·exact .goal h
     ·by_cases hd:DnA t L s
      ·exact hd
      ·exact absurd (HtA.of_not (.inr ⟨op,o1,o2,fun y hy=>ih y (hc.sc hs o1 o2 hy) (o3 y hy)⟩) hd) (none s hs)
   refine .inr ⟨v,rfl,f,h1,fun s hs=> ?_,fun s hs=> ?_⟩
   ·rcases h3 s hs with⟨q1,q2⟩|⟨k,_,q1,q2⟩
    ·exact .inl ⟨q1,fun k hk=>q2 (top k s hs hk)⟩
    ·exact .inr ⟨k,q1,q2⟩
   ·rcases h3 s hs with⟨q1,q2⟩|⟨k,q0,q1,q2⟩<;>omega
  ·rw[if_neg cf]
   obtain⟨v',k1,k2,k3⟩:=z6 (body:=aa5 (((L:Nat):Int)+1) fr) (n:=(fr.length:Int)) (s:=v) (fun j x=>x.length=all.length/\∀i s,ix all i=some s->ix x i=some (if dec (∃k,k<j/\ix fr k=some i)=true then((L:Nat):Int)+1 else f s)) (by omega) ⟨h1.len,fun i s hi=>by
    rw[ifN (by rintro ⟨k,k1,k2⟩;have:=(n7 k2).1;omega)]
    exact h1.get hi⟩ (fun j x j0 j1 ⟨x1,x2⟩=>by
    obtain⟨i,hi,_⟩:=k6 (l:=fr) j0 j1
    obtain⟨s,hs,_⟩:=(frm i).1 (m9 hi)
    obtain⟨i0,i1,_⟩:=n7 hs
    unfold aa5
    rw[hi]
    simp only[oB,x2 i s hs]
    refine⟨_,rfl,by rw[lS];exact x1,fun i' z hz=> ?_⟩
    rw[ix_put i0 (by omega) (n7 hz).1]
    by_cases e:i'=i
    ·subst e
     rw[if_pos rfl,ifP ⟨j,by omega,hi⟩]
    ·rw[if_neg e,x2 i' z hz]
     congr 2
     have:(∃k,k<j/\ix fr k=some i')↔∃k,k<j+1/\ix fr k=some i':=⟨fun⟨k,k1,k2⟩=>⟨k,by omega,k2⟩,fun⟨k,k1,k2⟩=>by
      by_cases ek:k=j
      ·subst ek;rw[hi] at k2;cases k2;exact absurd rfl e
      ·exact⟨k,by omega,k2⟩⟩
     rw[C1 this])
   rw[k1]
   simp only[oB]
   rw[x9 (by omega) (by omega)]
   obtain⟨i,hif⟩:∃i,i ∈ fr:=by
    cases fr with
    |nil=>simp at cf
    |cons a l=>exact⟨a,by simp⟩
   obtain⟨s,hs,hh⟩:=(frm i).1 hif
   have hrep:Rep all v' (fun s=>if dec (HtA t (L+1) s)=true then((L:Nat):Int)+1 else f s):=⟨k2,fun {i s} hi=>by
    rw[k3 i s hi]
    have:(∃k,k<(fr.length:Int)/\ix fr k=some i)↔HtA t (L+1) s:=⟨fun⟨k,_,hk⟩=>by
     obtain⟨z,hz,hzh⟩:=(frm i).1 (m9 hk)
     rw[hi] at hz;cases hz;exact hzh,fun h=>by
     obtain⟨k,_,k1,hk⟩:=s6 ((frm i).2 ⟨s,hi,h⟩)
     exact⟨k,k1,hk⟩⟩
    rw[C1 this]⟩
   refine .inl ⟨_,rfl,⟨_,L+1,hrep,by dsimp only;omega,fun z hz=> ?_,s::c,jv.2 ⟨fun hm=> ?_,c1⟩,by simp[c2],fun z hz=> ?_⟩,by dsimp only;omega⟩
   ·dsimp only
    by_cases hzh:HtA t (L+1) z
    ·exact .inr ⟨L+1,jm _,by rw[ifP hzh];omega,hzh⟩
    ·rw[ifN hzh]
     rcases h3 z hz with⟨q1,q2⟩|⟨k,q0,q1,q2⟩
     ·exact .inl ⟨q1,fun hd=>hzh (.of_not hd q2)⟩
     ·exact .inr ⟨k,by omega,q1,q2⟩
   ·obtain⟨_,j,j1,j2⟩:=c3 s hm
    have:=j2.unique hh;omega
   ·rcases jj.1 hz with rfl|hz
    ·exact⟨m9 hs,L+1,jm _,hh⟩
    ·obtain⟨q0,j,q1,q2⟩:=c3 z hz
     exact⟨q0,j,by omega,q2⟩)
 rw[e1]
 exact⟨v,f,rfl,e2,e3⟩
theorem RankA.ht{all:LL}{f:Li->Int}(h:RankA t all f){s:Li}(hs:s ∈ all){k:Nat}(hk:HtA t k s):f s=k:=by
 rcases h.val s hs with⟨_,e⟩|⟨m,e,hm⟩
 ·exact absurd hk.1 (e k)
 ·rw[e,hm.unique hk]
theorem RankA.nn{all:LL}{f:Li->Int}(h:RankA t all f){s:Li}(hs:s ∈ all)(hf:0<=f s):∃k:Nat,f s=k/\HtA t k s:=by
 rcases h.val s hs with⟨e,_⟩|e
 ·omega
 ·exact e
theorem best_rank(ht:m8 t){all:LL}(hc:ClO t all){v:Li}{f:Li->Int}(hv:Rep all v f)(hr:RankA t all f){s:Li}(hs:s ∈ all)(hg:¬ q9 t s)(hf:0<=f s):
  ∃b,x8 t all v s=some b/\BestV t f s b/\∀y ∈ sc t s b,y ∈ all/\0<=f y/\f y<f s:=by
 obtain⟨b,b1,b2⟩:=best_eq ht hc hs hv
 obtain⟨k,k1,k2⟩:=hr.nn hs hf
 obtain⟨m,rfl⟩:∃m,k=m+1:=by
  cases k with
  |zero=>exact absurd k2.1 hg
  |succ m=>exact⟨m,rfl⟩
 rcases k2.1 with h|⟨op,o1,o2,o3⟩
 ·exact absurd h hg
 have hy:∀y ∈ sc t s op,0<=f y/\f y<=m:=fun y hy=>by
  obtain⟨j,j1,j2⟩:=HtA.of_dn (o3 y hy)
  rw[hr.ht (hc.sc hs o1 o2 hy) j2];omega
 rcases b2 with⟨_,b2⟩|b2
 ·obtain⟨y,hy1,hy2⟩:=b2 op o1 o2
  have:=hy y hy1;omega
 ·refine⟨b,b1,b2,fun y hyb=> ?_⟩
  obtain⟨⟨c1,c2⟩,w,c3,c4⟩:=b2
  have hya:=hc.sc hs c1 c2 hyb
  have:=c3.2.1 y hyb
  refine⟨hya,this.1,?_⟩
  -- the largest value after op
  obtain⟨w',hw'⟩:∃w',WW f (sc t s op) w':=by
   obtain⟨w',q1,q2⟩:=worstG ht hc.ord (by have:=hc.len;omega) (hc.set hs) o1 (fun y hy=>hc.sc hs o1 o2 hy) hv
   rcases q2 with⟨_,y,q3,q4⟩|q2
   ·have:=hy y q3;omega
   ·exact⟨w',q2⟩
  obtain⟨z,hz1,hz2⟩:=hw'.2.2
  have:=hy z hz1
  have:=c4 op o1 o2 w' hw'
  omega
end
section
variable {t:d5}
theorem policy_spec(ht:m8 t):(N8 t=some ([],false)/\ab4 t 2000=some ([],false)/\y7 t=some ([],false,⟨10, -7⟩))\/∃all v f,N8 t=some (all,true)/\ab4 t 2000=some (all,true)/\ClO t all/\Rep all v f/\RankA t all f/\
  ((f t.init= -1/\y7 t=some ([],false,⟨0,0⟩))\/∃ch,ChOk t ch/\(∀s,RchC t ch s->s ∈ all/\0<=f s)/\(∀s,RchC t ch s->¬ q9 t s->BestV t f s (ch s)/\∀y ∈ nxC t ch s,f y<f s)/\
   ((y7 t=some ([],false,⟨10, -8⟩)/\∃l:LL,l.Nodup/\(∀s ∈ l,RchC t ch s/\¬ q9 t s)/\l.length=201)\/∃p,y7 t=some (p,true,⟨0,0⟩)/\PolB t ch p/\p.length<=200)):=by
 unfold y7
 rw[explore_ok ht]
 rcases reach_full ht with⟨all,q1,q2,q3,q4,_⟩|⟨q1,q2⟩
 ·right
  have hc:ClO t all:=⟨q3,q4⟩
  have hlen:=hc.len
  obtain⟨v,f,r1,r2,r3⟩:=ranks_eq ht hc
  obtain⟨i,hi,hvi⟩:=r2.of q3.init
  refine⟨all,v,f,q1,q2,hc,r2,r3,?_⟩
  rw[q1]
  simp only[oB,if_true]
  rw[if_neg (by simp),r1]
  simp only[oB,find_eq q4 (show all.length<=500000 by omega) hi,hvi]
  by_cases cf:f t.init<0
  ·rw[if_pos cf]
   refine .inl ⟨?_,rfl⟩
   rcases r3.val _ q3.init with⟨e,_⟩|⟨k,e,_⟩<;>omega
  ·rw[if_neg cf]
   right
   have inv:∀s,RchC t (fun s=>(x8 t all v s).getD (-1)) s->s ∈ all/\0<=f s:=fun s hs=>by
    induction hs with
    |init=>exact⟨q3.init,by omega⟩
    |@step s y _ hg hy ih=>
     obtain⟨b,b1,b2,b3⟩:=best_rank ht hc r2 r3 ih.1 hg ih.2
     have e:(x8 t all v s).getD (-1)=b:=by rw[b1];rfl
     unfold nxC at hy
     dsimp only at hy
     rw[e] at hy
     have:=b3 y hy
     exact⟨this.1,this.2.1⟩
   have step:∀s,RchC t (fun s=>(x8 t all v s).getD (-1)) s->¬ q9 t s->∃b,x8 t all v s=some b/\BestV t f s b/\∀y ∈ sc t s b,y ∈ all/\0<=f y/\f y<f s:=fun s hs hg=>best_rank ht hc r2 r3 (inv s hs).1 hg (inv s hs).2
   have hk:ChOk t (fun s=>(x8 t all v s).getD (-1)):=fun s hs hg=>by
    obtain⟨b,b1,b2,b3⟩:=step s hs hg
    dsimp only
    rw[b1];exact b2.1
   refine⟨_,hk,inv,fun s hs hg=> ?_,?_⟩
   ·obtain⟨b,b1,b2,b3⟩:=step s hs hg
    have e:(x8 t all v s).getD (-1)=b:=by rw[b1];rfl
    have e2:(fun s=>(x8 t all v s).getD (-1)) s=b:=e
    refine⟨by first|(rw[e2];exact b2)|(rw[e];exact b2),fun y hy=> ?_⟩
    unfold nxC at hy
    rw[e2] at hy
    exact(b3 y hy).2.2
   ·obtain⟨r,p1,p2⟩:=build_prog ht hk (choose:=fun y1=>T4 y1 t all v) (fun s hs hg=>by
     obtain⟨b,b1,_⟩:=step s hs hg
     unfold T4
     rw[b1];rfl)
    rw[p1]
    rcases p2 with⟨rfl,p2⟩|⟨p,rfl,p2⟩
    ·exact .inl ⟨rfl,p2⟩
    ·exact .inr ⟨p,rfl,p2⟩
 ·left
  rw[q1]
  exact⟨rfl,q2,rfl⟩
theorem policy_bad{f:g8}(hv:D9 t=some f)(hc:f.code ≠ 0):y7 t=some ([],false,f):=by
 unfold y7
 rw[explore_bad hv hc]
 simp only[oB]
 rw[if_pos (am9 hc)]
theorem polB_dn(ht:m8 t){ch:Li->Int}(hk:ChOk t ch){f:Li->Int}(hf:∀s,RchC t ch s->0<=f s)(hs:∀s,RchC t ch s->¬ q9 t s->∀y ∈ nxC t ch s,f y<f s){p:List e9}(hp:PolB t ch p):
  ∀(k:Nat) (s:Li),RchC t ch s->f s<=k->Dn (q9 t) (M6 p) (nxS t p) k s
 |0,s,hr,h0=>by
  by_cases hg:q9 t s
  ·exact .goal hg
  ·obtain⟨y,hy⟩:=sc_ne (s:=s) ht (hk s hr hg).1
   have:=hs s hr hg y hy
   have:=hf y (.step hr hg hy)
   omega
 |k+1,s,hr,h0=>by
  by_cases hg:q9 t s
  ·exact .goal hg
  ·have e:=hp.live hr hg
   refine .inr ⟨by unfold M6;rw[e];exact(hk s hr hg).1.1,fun y hy=> ?_⟩
   have hy':y ∈ nxC t ch s:=by unfold nxS at hy;rw[e] at hy;exact hy
   have:=hs s hr hg y hy'
   exact polB_dn ht hk hf hs hp k y (.step hr hg hy') (by omega)
end
end Ab
end
section
namespace Ab
open Go
/-! ### Loops that do the same, till one of them gives up -/
section
variable {t:d5}{m:Int}
end
end Ab
end
section
namespace Ab
open Go
section
variable {t:d5}
theorem found_check(ht:m8 t){all:LL}{f:Li->Int}{ch:Li->Int}(hk:ChOk t ch)(h1:∀s,RchC t ch s->s ∈ all/\0<=f s)(h2:∀s,RchC t ch s->¬ q9 t s->BestV t f s (ch s)/\∀y ∈ nxC t ch s,f y<f s){p:List e9}(hp:PolB t ch p)(hl:p.length<=200):
  ∃k:Nat,(k:Int)<=f t.init/\B4 t p=some ((k:Int),true,⟨0,0⟩):=by
 have pol:=hp.pol ht hk hl
 have dn:∀s,RchC t ch s->Dn (q9 t) (M6 p) (nxS t p) (f s).toNat s:=fun s hs=>polB_dn ht hk (fun s hs=>(h1 s hs).2) (fun s hs hg=>(h2 s hs hg).2) hp _ s hs (by have:=(h1 s hs).2;omega)
 obtain⟨l,hv,hh⟩:=check_eq ht pol
 rcases hh with⟨k,_,k2,k3⟩|⟨⟨s,hs,hn⟩,_⟩
 ·refine⟨k,?_,k3⟩
  have:=Ht.le k2 (dn _ .init)
  have:=(h1 _ .init).2
  omega
 ·obtain⟨m,_,hm⟩:=Ht.of_dn (dn s (rch_of hp.op ((hv.mem s).1 hs)))
  exact absurd hm (hn m)
end
end Ab
end
section
namespace Ab
open Go
inductive Ed:Nat->Li->Li->Prop
 |nil:Ed 0 [] []
 |keep {n:Nat} {x:Int} {a b:Li} (h:Ed n a b):Ed n (x::a) (x::b)
 |del {n:Nat} {x:Int} {a b:Li} (h:Ed n a b):Ed (n+1) (x::a) b
 |ins {n:Nat} {y:Int} {a b:Li} (h:Ed n a b):Ed (n+1) a (y::b)
theorem Ed.symm{n:Nat}{a b:Li}(h:Ed n a b):Ed n b a:=by
 induction h with
 |nil=>exact .nil
 |keep _ ih=>exact .keep ih
 |del _ ih=>exact .ins ih
 |ins _ ih=>exact .del ih
theorem Ed.trans{n m:Nat}{a b c:Li}(h:Ed n a b)(k:Ed m b c):∃q,q<=n+m/\Ed q a c:=by
 induction h generalizing m c with
 |nil=>exact⟨m,by omega,k⟩
 |@keep n x a b h ih=>
  generalize hb:x::b=b' at k
  induction k with
  |nil=>cases hb
  |keep k _=>
   cases hb
   obtain⟨q,h1,h2⟩:=ih k
   exact⟨q,h1,.keep h2⟩
  |del k _=>
   cases hb
   obtain⟨q,h1,h2⟩:=ih k
   exact⟨q+1,by omega,.del h2⟩
  |ins k ihk=>
   obtain⟨q,h1,h2⟩:=ihk hb
   exact⟨q+1,by omega,.ins h2⟩
 |del h ih=>
  obtain⟨q,h1,h2⟩:=ih k
  exact⟨q+1,by omega,.del h2⟩
 |@ins n y a b h ih=>
  generalize hb:y::b=b' at k
  induction k with
  |nil=>cases hb
  |keep k _=>
   cases hb
   obtain⟨q,h1,h2⟩:=ih k
   exact⟨q+1,by omega,.ins h2⟩
  |del k _=>
   cases hb
   obtain⟨q,h1,h2⟩:=ih k
   exact⟨q,by omega,h2⟩
  |ins k ihk=>
   obtain⟨q,h1,h2⟩:=ihk hb
   exact⟨q+1,by omega,.ins h2⟩
theorem Ed.all:∀b:Li,Ed b.length [] b
 |[]=>.nil
 |_::b=>.ins (Ed.all b)
theorem Ed.none:∀b:Li,Ed b.length b []
 |[]=>.nil
 |_::b=>.del (Ed.none b)
/-! ### Distance -/
def RowIs(m:Nat)(f:Nat->Nat)(row:Li):Prop:=row.length=m+1/\∀k,k<=m->row[k]? =some (f k:Int)
theorem RowIs.ix{m:Nat}{f:Nat->Nat}{row:Li}(h:RowIs m f row){k:Nat}(hk:k<=m):ix row (k:Int)=some (f k:Int):=by rw[J2];exact h.2 k hk
end Ab
end
section
namespace Ab
open Go
end Ab
end
section
namespace Ab
open Go
/-! ### Maps -/
section
variable {K V:Type}[DecidableEq K]
end
end Ab
end
section
namespace Ab
open Go
inductive Rt(t:j3):Li->Prop
 |init:Rt t t.init
 |step {s:Li} {op:Int} (h:Rt t s) (h0:0<=op) (h1:op<t.operators.length) (hc:can t s op):Rt t (aft t s op)
theorem Rt.setN{t:j3}(ht:I1 t){s:Li}(h:Rt t s):SetN s t.facts:=by
 cases h with
 |init=>exact ht.init
 |step=>exact aB3 _ _ _
theorem Rt.ends{t:j3}:∀{plan s e:Li},Rt t s->(∀x ∈ plan,(0:Int)<=x/\x<t.operators.length)->ends t s plan=some e->Rt t e
 |[],s,e,hs,_,h=>by simp only[Ab.ends,Option.some.injEq] at h;subst h;exact hs
 |op::r,s,e,hs,hv,h=>by
  simp only[Ab.ends] at h
  split at h
  ·rename_i hc
   have:=hv op js
   exact Rt.ends (hs.step this.1 this.2 (n8.1 hc)) (fun x hx=>hv x (jc _ hx)) h
  ·cases h
theorem Rt.way{t:j3}{s:Li}(h:Rt t s):∃plan:Li,(∀x ∈ plan,(0:Int)<=x/\x<t.operators.length)/\Ab.ends t t.init plan=some s:=by
 induction h with
 |init=>exact⟨[],by simp,rfl⟩
 |@step s op h h0 h1 hc ih=>
  obtain⟨p,p1,p2⟩:=ih
  refine⟨p++[op],fun x hx=> ?_,?_⟩
  ·rcases jd.1 hx with hx|hx
   ·exact p1 x hx
   ·simp only[ja] at hx;subst hx;exact⟨h0,h1⟩
  ·rw[ends_append,p2]
   simp only[oB,Ab.ends]
   rw[if_pos (o8 hc)]
def Cls(t:j3)(l:LL)(s:Li):Prop:=∀op:Int,0<=op->op<t.operators.length->can t s op->aft t s op ∈ l
theorem Rt.mem{t:j3}{l:LL}(hi:t.init ∈ l)(hc:∀s ∈ l,Cls t l s){s:Li}(h:Rt t s):s ∈ l:=by
 induction h with
 |init=>exact hi
 |step h h0 h1 hcan ih=>exact hc _ ih _ h0 h1 hcan
def Many(t:j3):Prop:=∃l:LL,l.Nodup/\l.length=2001/\∀s ∈ l,Rt t s
end Ab
end
section
namespace Ab
open Go
/-! ### All sets -/
/-! ### Keys -/
theorem ao9{t:j3}(ht:I1 t){s:Li}(hs:SetN s t.facts):small s:=fun x hx=>by
 have:=ht.n1
 have:=hs.2 x hx
 omega
/-! ### Maps -/
section
variable {K V:Type}[DecidableEq K]
end
/-! ### What the search keeps -/
abbrev Mp':=List (ByteArray×Int)
end Ab
end
section
namespace Ab
open Go
theorem kone_eq{s:Li}(hs:small s)(h1:s.length<=1000):C6 [s]=some (keyK [s]):=by
 refine key_eq (by simp[hs]) ?_
 have:=encS_len s
 simp only[encK,jq,jn,List.append_nil]
 omega
theorem kone_inj{t:j3}(ht:I1 t){s s':Li}(h:SetN s t.facts)(h':SetN s' t.facts)(e:keyK [s]=keyK [s']):s=s':=by
 have:=keyK_inj (fun x hx=>by simp at hx;subst hx;exact ao9 ht h) (fun x hx=>by simp at hx;subst hx;exact ao9 ht h') e
 simpa using this
theorem containsAny_eq{l:LL}{f:Li->Option Bool}{p:Li->Prop}(h:∀x ∈ l,f x=some (dec (p x))):u4 l f=some (dec (∃x ∈ l,p x)):=by
 unfold u4 F4
 rcases D5 (body:=z7 l f) (n:=(l.length:Int)) (fun j=>if dec (∃x,ix l j=some x/\p x)=true then some j else none) (by omega) (fun j h0 h1 _=>by
  obtain⟨x,hx,_⟩:=k6 (l:=l) h0 h1
  unfold z7
  simp only[hx,oB,h x (m9 hx)]
  by_cases e:p x
  ·rw[ifP e,ifP ⟨x,rfl,e⟩]
  ·rw[ifN e,ifN (by rintro ⟨z,hz,hp⟩;cases hz;exact e hp)]) with⟨h1,h2⟩|⟨j,o,h0,h1,h2,h3,h4⟩
 ·rw[h1]
  simp only[oB]
  rw[z2]
  ·rfl
  ·rintro ⟨x,hx,hp⟩
   obtain⟨i,i0,i1,hi⟩:=s6 hx
   have:=h2 i i0 i1
   rw[ifP ⟨x,hi,hp⟩] at this
   cases this
 ·rw[h4]
  split at h2
  ·rename_i e
   cases h2
   simp only[oB]
   obtain⟨x,hx,hp⟩:=n8.1 e
   rw[o8 ⟨x,m9 hx,hp⟩,decide_eq_true h0]
  ·cases h2
theorem aA6{s pre:Li}(hs:Inc s)(hp:Inc pre)(hl:s.length<=1000000):O6 [s] pre=some (dec (∀x ∈ pre,x ∈ s)):=by
 unfold O6
 rw[containsAny_eq (p:=fun y=>¬ ∀x ∈ pre,x ∈ y) (fun x hx=>by
  simp only[ja] at hx
  subst hx
  unfold ag0
  rw[K1 hs hp hl]
  simp only[oB,v6])]
 simp only[oB,v6]
 refine congrArg some (C1 ⟨fun h=>jk fun g=>h ⟨s,by simp,g⟩,fun h=> ?_⟩)
 rintro ⟨x,hx,hn⟩
 simp only[ja] at hx
 subst hx
 exact hn h
theorem after_one{t:j3}(ht:I1 t){s:Li}(hs:SetN s t.facts){op:Int}(h0:0<=op)(h1:op<t.operators.length):K8 t [s] op=some [aft t s op]:=by
 have e:forR 0 (([s]:LL).length:Int) (T5 t [s] op) []=some [aft t s op]:=by
  show forN (T5 t [s] op) 1 0 []=_
  simp only[forN]
  have e0:ix [s] 0=some s:=rfl
  have e1:app 24 ([]:LL) [aft t s op]=some [aft t s op]:=rfl
  unfold T5
  simp only[e0,oB,next_eq ht h0 h1 hs,e1]
 unfold K8
 rw[e]
 simp only[oB]
 obtain⟨r,r1,r2,r3,_⟩:=ap6 (l:=[aft t s op]) (by simp)
 rw[r1]
 simp only[oB]
 rw[Ord.ext r2 (by simp) r3]
structure Bq(t:j3)(l:LL)(m:Mp')(qu:List f8):Prop where
 node:qu.map (·.node)=l.map (fun s=>[s])
 nd:l.Nodup
 rt:∀s ∈ l,Rt t s
 map:∀s,SetN s t.facts->(0<(mget m (keyK [s])).getD 0↔s ∈ l)
 len:l.length<=2000
theorem Bq.ql{t:j3}{l:LL}{m:Mp'}{qu:List f8}(h:Bq t l m qu):qu.length=l.length:=by
 have:=congrArg jS h.node
 simpa using this
theorem Bq.at{t:j3}{l:LL}{m:Mp'}{qu:List f8}(h:Bq t l m qu){i:Int}{e:f8}(hi:ix qu i=some e):∃s,ix l i=some s/\e.node=[s]:=by
 obtain⟨h0,h1,h2⟩:=n7 hi
 have hg:=congrArg (fun l=>l[i.toNat]?) h.node
 simp only[lM,h2,jz] at hg
 cases hs:l[i.toNat]? with
 |none=>rw[hs] at hg;cases hg
 |some s=>
  rw[hs] at hg
  simp only[jz,Option.some.injEq] at hg
  refine⟨s,?_,hg⟩
  rw[show i=((i.toNat:Nat):Int) by omega,J2]
  exact hs
theorem breadth_in{t:j3}(ht:I1 t){l:LL}{m:Mp'}{qu:List f8}(h:Bq t l m qu){c:Int}{e:f8}{s:Li}(hs:s ∈ l)(he:e.node=[s]):
  (∃l' m' qu',E8 t.facts t.init t.goal t.operators qu m c e=some (.inl (m',qu'))/\Bq t l' m' qu'/\(∃ex,l'=l++ex)/\Cls t l' s)\/(∃y,E8 t.facts t.init t.goal t.operators qu m c e=some (.inr y)/\Many t):=by
 have hsN:=(h.rt s hs).setN ht
 have h24:=ht.n1
 unfold E8
 rcases X3 (body:=I8 t.facts t.init t.goal t.operators c e) (n:=(t.operators.length:Int)) (s:=(m,qu))
  (fun j st=>∃l',Bq t l' st.1 st.2/\(∃ex,l'=l++ex)/\∀op:Int,0<=op->op<j->can t s op->aft t s op ∈ l')
  (fun o=>∃y,o=.inr y/\Many t) (by omega) ⟨l,h,⟨[],by simp⟩,fun op o0 o1=>by omega⟩
  (fun j st j0 j1 hP=>by
   obtain⟨m1,qu1⟩:=st
   obtain⟨l1,g1,g2,g3⟩:=hP
   simp only at g1
   have hop:=ht.at j0 j1
   have hnew:=aB3 t s j
   unfold I8
   simp only[ix_op j0 j1,oB,he]
   rw[aA6 hsN.1 hop.1.1.1 (by have:=hsN.len;omega)]
   simp only[oB]
   by_cases hc:can t s j
   ·rw[if_pos (o8 (show ∀x ∈ (opAt t j).pre,x ∈ s from hc))]
    have ea:K8 (⟨t.facts,t.init,t.goal,t.operators⟩:j3) [s] j=some [aft t s j]:=after_one ht hsN j0 j1
    rw[ea]
    simp only[oB,kone_eq (ao9 ht hnew) (by have:=hnew.len;omega)]
    by_cases hm:aft t s j ∈ l1
    ·rw[if_pos ((g1.map _ hnew).2 hm)]
     refine .inl ⟨_,rfl,l1,g1,g2,fun op o0 o1 oc=> ?_⟩
     by_cases eo:op=j
     ·subst eo;exact hm
     ·exact g3 op o0 (by omega) oc
    ·rw[if_neg (fun hx=>hm ((g1.map _ hnew).1 hx))]
     have hrt:Rt t (aft t s j):=(h.rt s hs).step j0 j1 hc
     have hnd:(l1++[aft t s j]).Nodup:=by
      rw[jR]
      refine⟨g1.nd,by simp,fun a ha b hb eab=> ?_⟩
      simp only[ja] at hb
      subst hb;subst eab;exact hm ha
     have hrs:∀y ∈ l1++[aft t s j],Rt t y:=fun y hy=>by
      rcases jd.1 hy with hy|hy
      ·exact g1.rt y hy
      ·simp only[ja] at hy;subst hy;exact hrt
     have hql:=g1.ql
     have hlen:=g1.len
     by_cases hq:(qu1.length:Int)=2000
     ·rw[if_pos hq]
      exact .inr ⟨_,rfl,_,rfl,l1++[aft t s j],hnd,by simp;omega,hrs⟩
     ·rw[if_neg hq]
      have ha:app 40 qu1 [(⟨[aft t s j],c,j⟩:f8)]=some (qu1++[⟨[aft t s j],c,j⟩]):=by rw[app,if_pos (by simp;omega)]
      rw[ha]
      refine .inl ⟨_,rfl,l1++[aft t s j],⟨by simp[g1.node],hnd,hrs,fun y hy=> ?_,by simp;omega⟩,?_,fun op o0 o1 oc=> ?_⟩
      ·simp only
       rw[aj5]
       by_cases ek:keyK [y]=keyK [aft t s j]
       ·rw[if_pos ek,kone_inj ht hy hnew ek];simp
       ·rw[if_neg ek,g1.map y hy,jd,ja]
        exact⟨.inl,fun g=>g.elim id fun g=>absurd (by rw[g]) ek⟩
      ·obtain⟨ex,rfl⟩:=g2
       exact⟨ex++[aft t s j],by simp⟩
      ·by_cases eo:op=j
       ·subst eo;simp
       ·exact jl _ (g3 op o0 (by omega) oc)
   ·rw[if_neg (show ¬ dec (∀x ∈ (opAt t j).pre,x ∈ s)=true from fun g=>hc (n8.1 g))]
    refine .inl ⟨_,rfl,l1,g1,g2,fun op o0 o1 oc=> ?_⟩
    by_cases eo:op=j
    ·subst eo;exact absurd oc hc
    ·exact g3 op o0 (by omega) oc) with⟨⟨m',qu'⟩,h1,l',h2,h3,h4⟩|⟨o,h1,y,rfl,h2⟩
 ·left
  rw[h1]
  exact⟨l',m',qu',rfl,h2,h3,h4⟩
 ·right
  rw[h1]
  exact⟨y,rfl,h2⟩
theorem breadth_spec{t:j3}(ht:I1 t):∃b,D4 [t.init] t.facts t.init t.goal t.operators=some b/\(b=false->Many t)/\(b=true->∃l:LL,l.Nodup/\l.length<=2000/\∀s,s ∈ l↔Rt t s):=by
 have h24:=ht.n1
 unfold D4 O4
 rw[kone_eq (ao9 ht ht.init) (by have:=ht.init.len;omega)]
 simp only[oB]
 obtain⟨o,h1,h2⟩:=M7 (body:=J1 t.facts t.init t.goal t.operators) (s:=([(⟨[t.init], -1,0⟩:f8)],mset ([]:List (ByteArray×Int)) (keyK [t.init]) 1,0))
  (fun s=>∃l,Bq t l s.2.1 s.1/\t.init ∈ l/\0<=s.2.2/\s.2.2<=l.length/\∀(k:Int) (x:Li),k<s.2.2->ix l k=some x->Cls t l x)
  (fun o=>(o=.inl ()/\∃l:LL,l.Nodup/\l.length<=2000/\∀s,s ∈ l↔Rt t s)\/(o=.inr ([],false,false)/\Many t))
  (fun s=>2001 - s.2.2.toNat) ⟨[t.init],⟨rfl,by simp,fun s hs=>by simp at hs;subst hs;exact .init,fun s hs=>by
   simp only
   rw[aj5]
   by_cases ek:keyK [s]=keyK [t.init]
   ·rw[if_pos ek,kone_inj ht hs ht.init ek];simp
   ·rw[if_neg ek]
    simp only[mget,jT,ja]
    exact⟨fun h=>by omega,fun g=>absurd (by rw[g]) ek⟩,by simp⟩,by simp,by simp only;omega,by simp only;omega,fun k x hk hx=>by have:=n7 hx;simp only at hk;omega⟩
  (fun s hP=>by
   obtain⟨qu,m,c⟩:=s
   obtain⟨l,g1,g2,g3,g4,g5⟩:=hP
   simp only at g1 g3 g4 g5
   have hql:=g1.ql
   have hlen:=g1.len
   unfold J1
   dsimp only
   by_cases cc:c<(qu.length:Int)
   ·rw[if_pos cc]
    obtain⟨e,he,_⟩:=k6 (l:=qu) g3 cc
    obtain⟨s,hs,hn⟩:=g1.at he
    simp only[he,oB,S4,L8,J5]
    rw[if_neg (by simp)]
    rcases breadth_in ht g1 (c:=c) (m9 hs) hn with⟨l',m',qu',k1,k2,⟨ex,rfl⟩,k4⟩|⟨⟨y1,y2⟩,k1,k2⟩
    ·left
     rw[k1]
     refine⟨(qu',m',c+1),by simp only[oB];rw[x9 (by omega) (by omega)],⟨l++ex,k2,jl _ g2,by simp only;omega,by simp only[jb];omega,fun k x hk hx=> ?_⟩,by simp only;omega⟩
     simp only at hk
     have hx0:=n7 hx
     have hx2:ix l k=some x:=by
      rw[show k=((k.toNat:Nat):Int) by omega,J2] at hx ⊢
      rwa [jg (by omega)] at hx
     by_cases ek:k=c
     ·subst ek
      rw[hs] at hx2;cases hx2
      exact k4
     ·exact fun op o0 o1 oc=>jl _ (g5 k x (by omega) hx2 op o0 o1 oc)
    ·right
     rw[k1]
     exact⟨_,rfl,.inr ⟨rfl,k2⟩⟩
   ·rw[if_neg cc]
    right
    refine⟨_,rfl,.inl ⟨rfl,l,g1.nd,hlen,fun s=>⟨g1.rt s,fun hs=>hs.mem g2 fun x hx=> ?_⟩⟩⟩
    obtain⟨k,k0,k1,k2⟩:=s6 hx
    exact g5 k x (by omega) k2)
 rw[h1]
 rcases h2 with⟨rfl,h2⟩|⟨rfl,h2⟩
 ·exact⟨true,rfl,by simp,fun _=>h2⟩
 ·exact⟨false,rfl,fun _=>h2,by simp⟩
theorem small_of{t:j3}(ht:I1 t){S:LL}(hS:S.length<=2000)(hm:∀s,Rt t s->s ∈ S):D4 [t.init] t.facts t.init t.goal t.operators=some true:=by
 obtain⟨b,h1,h2,_⟩:=breadth_spec ht
 cases b with
 |true=>exact h1
 |false=>
  obtain⟨l,l1,l2,l3⟩:=h2 rfl
  have:=ao4 l1 (fun s hs=>hm s (l3 s hs))
  omega
end Ab
end
section
namespace Ab
open Go
theorem wsN_tb:∀{l:Li},Inc l->(∀x ∈ l,0<=x)->∀k:Nat,(wsN l).testBit k=dec ((k:Int) ∈ l)
 |[],_,_,k=>by simp[wsN,dec]
 |a::l,h,h0,k=>by
  have hc:=jL.1 h
  obtain⟨q,hq⟩:2 ^ (a.toNat+1) ∣ wsN l:=wsN_dvd fun x hx=>by have:=hc.1 x hx;have:=h0 a (by simp);omega
  have ih:=wsN_tb hc.2 (fun x hx=>h0 x (jc _ hx)) k
  have e:wsN (a::l)=wsN l|||2 ^ a.toNat:=by
   rw[hq,<- Nat.two_pow_add_eq_or_of_lt (Nat.pow_lt_pow_right (by omega) (by omega)) q,<- hq]
   simp only[wsN];omega
  rw[e,Nat.testBit_or,ih,Nat.testBit_two_pow]
  have ha:=h0 a (by simp)
  by_cases c:(k:Int)=a
  ·have:a.toNat=k:=by omega
   simp[this,c]
  ·have:¬ a.toNat=k:=by omega
   simp[this,c]
theorem SetN.tb{s:Li}{n:Int}(h:SetN s n)(k:Nat):(wsN s).testBit k=dec ((k:Int) ∈ s):=wsN_tb h.1 (fun x hx=>(h.2 x hx).1) k
theorem wrap32{n:Nat}(h:n<4294967296):IntKind.wrap .u32 (n:Int)=n:=by
 simp only[IntKind.wrap,IntKind.bits,IntKind.signed,Bool.false_and,Bool.false_eq_true,if_false]
 omega
theorem bit_and{a b:Nat}(ha:a<4294967296):Go.bits .and .u32 (a:Int) (b:Int)=((a &&& b:Nat):Int):=by
 have e:(BitVec.ofNat 32 a &&& BitVec.ofNat 32 b).toNat=a &&& b:=by
  rw[BitVec.toNat_and,BitVec.toNat_ofNat,BitVec.toNat_ofNat]
  refine jH fun i=> ?_
  simp only[Nat.testBit_and,Nat.testBit_mod_two_pow]
  by_cases c:i<32
  ·simp[c]
  ·have:a.testBit i=false:=jC (jM ha (jI (n:=2) (by omega) (show 32<=i by omega)))
   simp[this]
 rw[<- e]
 simp only[Go.bits,BitVec.ofInt_natCast,IntKind.bits]
 exact wrap32 (BitVec.ofNat 32 a &&& BitVec.ofNat 32 b).isLt
noncomputable def N6(w:Nat)(n:Nat):Li:=(nums 0 n).filter fun x=>w.testBit x.toNat
theorem facts_eq{w:Nat}(hw:w<4294967296):Y3 (w:Int)=some (N6 w 32):=by
 unfold Y3
 obtain⟨r,h1,h2⟩:=z6 (body:=ad9 (w:Int)) (n:=32) (s:=[]) (fun j c=>c=N6 w j.toNat) (by omega) (by simp[N6,nums]) (fun j c j0 j1 hP=>by
  subst hP
  have hlen:(N6 w j.toNat).length<=32:=by
   refine Nat.le_trans (List.length_filter_le _ _) ?_
   rw[len_nums];omega
  have hn:nums 0 (j+1).toNat=nums 0 j.toNat++[j]:=by
   refine Inc.ext (aA3 _ _) (jG.2 ⟨aA3 _ _,List.pairwise_singleton _ _,fun x hx y hy=> ?_⟩) fun x=> ?_
   ·simp at hy;subst hy;have:=ac9.1 hx;omega
   ·rw[jd,ac9,ac9,ja];omega
  have e1:shrW .u32 (w:Int) j=((w>>>j.toNat:Nat):Int):=by
   unfold shrW
   rw[show min j.toNat (IntKind.u32).bits=j.toNat by simp only[IntKind.bits];omega]
   have ep:(2:Int) ^ j.toNat=((2 ^ j.toNat:Nat):Int):=by push_cast;rfl
   rw[ep,Nat.shiftRight_eq_div_pow,Int.fdiv_eq_ediv_of_nonneg _ (Int.natCast_nonneg _)]
   rfl
  have h2:w>>>j.toNat<4294967296:=Nat.lt_of_le_of_lt (Nat.shiftRight_le _ _) hw
  have e2:Go.bits .and .u32 ((w>>>j.toNat:Nat):Int) 1=((w>>>j.toNat &&& 1:Nat):Int):=bit_and (b:=1) h2
  have e3:(w>>>j.toNat &&& 1=1)↔w.testBit j.toNat=true:=by
   rw[Nat.testBit];simp[Nat.and_comm]
  unfold ad9
  rw[e1,e2]
  by_cases c:w.testBit j.toNat=true
  ·rw[if_pos (by have:=e3.2 c;omega),app,if_pos (by simp;omega)]
   exact⟨_,rfl,by simp[N6,hn,jN,c]⟩
  ·rw[if_neg (fun q=>c (e3.1 (by omega)))]
   exact⟨_,rfl,by simp[N6,hn,jN,c]⟩)
 rw[h1,h2];rfl
theorem bitsOf_inj{a b:Nat}(ha:a<4294967296)(hb:b<4294967296)(h:N6 a 32=N6 b 32):a=b:=by
 refine jH fun i=> ?_
 by_cases c:i<32
 ·have key:∀w:Nat,(i:Int) ∈ N6 w 32↔w.testBit i=true:=fun w=>by
   simp only[N6,List.mem_filter,ac9,Int.toNat_natCast]
   exact⟨fun q=>q.2,fun q=>⟨by omega,q⟩⟩
  have:=(key a).symm.trans ((by rw[h]):((i:Int) ∈ N6 a 32↔(i:Int) ∈ N6 b 32))|>.trans (key b)
  cases h1:a.testBit i<;>cases h2:b.testBit i<;>simp[h1,h2] at this ⊢
 ·have low:∀w:Nat,w<4294967296->w.testBit i=false:=fun w hw=>jC (jM hw (jI (n:=2) (by omega) (show 32<=i by omega)))
  rw[low a ha,low b hb]
theorem words_cmp:CmpOk (fun a b:U32=>L7 a.1 b.1) (fun a b=>cmpL (N6 a.1.toNat 32) (N6 b.1.toNat 32)):=by
 obtain⟨h1,h2,h3⟩:=cmp_ok
 refine⟨fun a b=> ?_,⟨fun x=>h2.irrefl _,fun x y z=>h2.trans _ _ _,fun x y z=>h2.ntrans _ _ _⟩,fun a b q1 q2=> ?_⟩
 ·have ea:=facts_eq (w:=a.1.toNat) (by have:=a.2;omega)
  have eb:=facts_eq (w:=b.1.toNat) (by have:=b.2;omega)
  rw[show((a.1.toNat:Nat):Int)=a.1 by have:=a.2;omega] at ea
  rw[show((b.1.toNat:Nat):Int)=b.1 by have:=b.2;omega] at eb
  simp only[L7,ea,eb,oB,h1]
 ·have:=bitsOf_inj (a:=a.1.toNat) (b:=b.1.toNat) (by have:=a.2;omega) (by have:=b.2;omega) (h3 _ _ q1 q2)
  have ha:=a.2;have hb:=b.2
  exact Subtype.ext (by omega)
theorem sortW{l:Li}(hl:l.length<=1000000)(hw:∀x ∈ l,0<=x/\x<4294967296):∃l',sortFU L7 l=some l'/\l'.Perm l:=by
 unfold sortFU
 rw[dif_pos hw,sortFL_eq (by simp;omega) words_cmp]
 refine⟨_,rfl,?_⟩
 have:=(List.mergeSort_perm (l.attach.map fun x=>(⟨x.1,hw x.1 x.2⟩:U32)) (fun x y=>decide (¬ cmpL (N6 y.1.toNat 32) (N6 x.1.toNat 32)<0))).map (fun z:U32=>z.1)
 simpa using this
end Ab
end
section
namespace Ab
open Go
def h11O:h9:=⟨[],[0],[],2⟩
def h11T:j3:=⟨1,[],[0],[h11O]⟩
theorem ap0:I1 h11T where
 n0:=by decide
 n1:=by decide
 init:=W6 _
 goal:=setN1 0 (by decide) (by decide)
 ops:=by decide
 op o ho:=by
  simp only[h11T,ja] at ho
  subst ho
  exact⟨⟨W6 _,setN1 0 (by decide) (by decide),W6 _,by simp[h11O]⟩,by decide,by decide⟩
theorem h11_at:opAt h11T 0=h11O:=rfl
theorem h11_aft0:aft h11T [] 0=[0]:=by
 refine((setN1 0 (by decide) (by decide):SetN [0] 1).eq_of (p:=fun x=>x ∈ (opAt h11T 0).add\/x ∈ []/\x ∉ (opAt h11T 0).del) fun x h0 h1=> ?_).symm
 simp[h11_at,h11O]
theorem h11_aft1:aft h11T [0] 0=[0]:=by
 refine((setN1 0 (by decide) (by decide):SetN [0] 1).eq_of (p:=fun x=>x ∈ (opAt h11T 0).add\/x ∈ [0]/\x ∉ (opAt h11T 0).del) fun x h0 h1=> ?_).symm
 simp[h11_at,h11O]
theorem h11_rt{s:Li}(h:Rt h11T s):s ∈ [([]:Li),[0]]:=by
 induction h with
 |init=>simp[h11T]
 |@step s op _ h0 h1 _ ih=>
  have:op=0:=by simp only[h11T,ji] at h1;omega
  subst this
  simp only[jj,List.not_mem_nil,or_false] at ih ⊢
  rcases ih with rfl|rfl
  ·exact .inr h11_aft0
  ·exact .inr h11_aft1
theorem h11_worlds:R4 h11T []=some [[]]:=by
 have e1:chk0 (([]:Li).length:Int)=some ():=rfl
 have e2:shlW .i64 1 (([]:Li).length:Int)=1:=by decide
 have e4:forR 0 (([]:Li).length:Int) (ai1 [] 0) []=some []:=rfl
 have e5:B8 h11T.init [] []=some []:=by
  rw[show h11T.init=[] from rfl,update_eq (n:=1) (by decide) .nil (by simp) (W6 _) (W6 _)]
  exact congrArg some ((W6 1).eq_of fun x _ _=>by simp[h11T]).symm
 have e3:forR 0 1 (Q0 h11T []) []=some [[]]:=by
  show forN (Q0 h11T []) 1 0 []=_
  simp only[forN]
  unfold Q0
  rw[e4]
  simp only[oB,e5]
  rfl
 unfold R4
 rw[e1,e2]
 simp only[oB]
 rw[if_pos (by decide),e3]
 simp only[oB]
 obtain⟨r,r1,r2,r3,_⟩:=ap6 (l:=[([]:Li)]) (by simp)
 rw[r1,Ord.ext r2 (by simp) r3]
 rfl
def h11E0:f8:=⟨[[]], -1,0⟩
def h11E1:f8:=⟨[[0]],0,0⟩
theorem h11_breadth:G3 [[]] h11T.facts h11T.init h11T.goal h11T.operators h11T.facts h11T.init h11T.goal h11T.operators=some ([0],true,true):=by
 have hn:=ap0.init
 have h0s:SetN [0] h11T.facts:=setN1 0 (by decide) (by decide)
 have k0:C6 [[]]=some (keyK [[]]):=kone_eq (fun x hx=>by cases hx) (by simp)
 have k1:C6 [[0]]=some (keyK [[0]]):=kone_eq (ao9 ap0 h0s) (by simp)
 have ne:keyK [[0]] ≠ keyK [[]]:=fun e=>by
  have:=kone_inj ap0 h0s (W6 _) e
  cases this
 have g0:M8 [[]] (⟨h11T.facts,h11T.init,h11T.goal,h11T.operators⟩:j3)=some false:=by
  unfold M8
  rw[aA6 .nil ap0.goal.1 (by simp)]
  simp only[oB]
  rw[z2 (by simp[h11T])]
 have g1:M8 [[0]] (⟨h11T.facts,h11T.init,h11T.goal,h11T.operators⟩:j3)=some true:=by
  unfold M8
  rw[aA6 h0s.1 ap0.goal.1 (by simp)]
  simp only[oB]
  rw[o8 (by simp[h11T])]
 have a0:K8 (⟨h11T.facts,h11T.init,h11T.goal,h11T.operators⟩:j3) [[]] 0=some [[0]]:=by
  have:=after_one ap0 (s:=[]) (W6 _) (op:=0) (by decide) (by decide)
  rw[h11_aft0] at this
  exact this
 have m0:¬ 0<Option.getD (mget (mset ([]:List (ByteArray×Int)) (keyK [[]]) 1) (keyK [[0]])) 0:=by
  rw[aj5,if_neg ne]
  simp[mget]
 have ix0:ix h11T.operators 0=some h11O:=rfl
 have s0:O6 [[]] h11O.pre=some true:=by
  rw[show h11O.pre=[] from rfl,aA6 .nil .nil (by simp),o8 (by simp)]
 have r4:H4 h11T.facts h11T.init h11T.goal h11T.operators [h11E0] (mset ([]:List (ByteArray×Int)) (keyK [[]]) 1) 0 h11E0=some (.inl (mset (mset ([]:List (ByteArray×Int)) (keyK [[]]) 1) (keyK [[0]]) 1,[h11E0,h11E1])):=by
  have q:rngX 0 (h11T.operators.length:Int) (A5 h11T.facts h11T.init h11T.goal h11T.operators 0 h11E0) (mset ([]:List (ByteArray×Int)) (keyK [[]]) 1,[h11E0])=some (.inl (mset (mset ([]:List (ByteArray×Int)) (keyK [[]]) 1) (keyK [[0]]) 1,[h11E0,h11E1])):=by
   show rngN (A5 h11T.facts h11T.init h11T.goal h11T.operators 0 h11E0) 1 0 (mset ([]:List (ByteArray×Int)) (keyK [[]]) 1,[h11E0])=_
   have b:A5 h11T.facts h11T.init h11T.goal h11T.operators 0 h11E0 0 (mset ([]:List (ByteArray×Int)) (keyK [[]]) 1,[h11E0])=some (.inl (mset (mset ([]:List (ByteArray×Int)) (keyK [[]]) 1) (keyK [[0]]) 1,[h11E0,h11E1])):=by
    unfold A5
    have en:h11E0.node=[[]]:=rfl
    dsimp only
    simp only[ix0,oB,en,s0,if_true,a0,k1]
    rw[if_neg m0,if_neg (by simp)]
    rfl
   simp only[rngN,b]
  unfold H4
  rw[q]
  rfl
 have st0:A0 h11T.facts h11T.init h11T.goal h11T.operators h11T.facts h11T.init h11T.goal h11T.operators ([h11E0],mset ([]:List (ByteArray×Int)) (keyK [[]]) 1,0)=some (.inl ([h11E0,h11E1],mset (mset ([]:List (ByteArray×Int)) (keyK [[]]) 1) (keyK [[0]]) 1,1)):=by
  unfold A0
  dsimp only
  have e0:ix [h11E0] 0=some h11E0:=rfl
  have en:h11E0.node=[[]]:=rfl
  rw[if_pos (by simp),e0]
  simp only[oB,en,g0,L8,J5]
  rw[if_neg (by simp),r4]
  simp only[oB]
  rw[x9 (by decide) (by decide)]
  rfl
 have lp:Loop (D7 [h11E0,h11E1]) ([],1)=some [0]:=by
  have b1:D7 [h11E0,h11E1] ([],1)=some (.inl ([0],0)):=rfl
  have b2:D7 [h11E0,h11E1] ([0],0)=some (.inr [0]):=rfl
  rw[ae0,b1]
  dsimp only
  rw[ae0,b2]
 have st1:A0 h11T.facts h11T.init h11T.goal h11T.operators h11T.facts h11T.init h11T.goal h11T.operators ([h11E0,h11E1],mset (mset ([]:List (ByteArray×Int)) (keyK [[]]) 1) (keyK [[0]]) 1,1)=some (.inr (.inr ([0],true,true))):=by
  unfold A0
  dsimp only
  have e0:ix [h11E0,h11E1] 1=some h11E1:=rfl
  have en:h11E1.node=[[0]]:=rfl
  rw[if_pos (by simp),e0]
  simp only[oB,en,g1,if_true,lp]
  rfl
 unfold G3
 rw[k0]
 simp only[oB]
 rw[show(⟨[[]], -1,0⟩:f8)=h11E0 from rfl,ae0,st0]
 dsimp only
 rw[ae0,st1]
 rfl
theorem h11_plan:af8 h11T []=some ([0],true,⟨0,0⟩):=by
 have u:J7 h11T []=some ⟨0,0⟩:=by
  obtain⟨f,h1,_,h3⟩:=validate_eq h11T
  rcases h3 with⟨rfl,_⟩|⟨_,hn⟩
  ·unfold J7
   rw[h1]
   simp only[oB]
   rw[if_neg (by simp),if_neg (by simp),ai6]
   simp only[oB,v6]
   rw[ifNN (W6 _)]
  ·exact absurd ap0 hn
 have sm:D4 [[]] h11T.facts h11T.init h11T.goal h11T.operators=some true:=small_of ap0 (S:=[[],[0]]) (by simp) fun s hs=>h11_rt hs
 unfold af8
 rw[u]
 simp only[oB]
 rw[if_neg (by simp)]
 simp only[ag1,oB,h11_worlds,sm]
 rw[if_neg (by simp),h11_breadth]
 rfl
def h11U:j3:=⟨2,[],[0,1],[⟨[],[0,1],[],2⟩]⟩
theorem h11_with:Y1 h11T 0=some (2,⟨0,0⟩):=by
 have e1:ae3 h11T 0=some ⟨0,0⟩:=by kernel_rfl
 have e2:aa1 h11T 0=some (h11U,⟨0,0⟩):=by kernel_rfl
 have e3:A9 h11U=some ⟨0,0⟩:=by kernel_rfl
 have e4:ar6 h11U=some (0,3,[⟨0,3,0,2⟩]):=by kernel_rfl
 have e5:T2 0 3 [⟨0,3,0,2⟩]=some ([0,3],true):=by kernel_rfl
 have e6:U8 [0,3] 0 3 [⟨0,3,0,2⟩]=some [(0,2),(3,0)]:=by kernel_rfl
 have e7:U8 [3,0] 0 3 [⟨0,3,0,2⟩]=some [(3,0),(0,2)]:=by kernel_rfl
 obtain⟨l,h1,h2⟩:=sortW (l:=[0,3]) (by decide) (by simp)
 unfold Y1 ag5 aa2
 simp only[e1,e2,e3,e4,e5,h1,oB]
 have:l=[0,3]\/l=[3,0]:=by
  match l,h2 with
  |[a,b],h2=>
   have h3:=h2.mem_iff (a:=a)
   have h4:=h2.mem_iff (a:=b)
   have h5:=h2.nodup_iff.2 (by decide)
   simp at h3 h4 h5
   grind
  |[],h2=>have:=h2.length_eq;simp at this
  |[_],h2=>have:=h2.length_eq;simp at this
  |_::_::_::_,h2=>have:=h2.length_eq;simp at this
 rcases this with rfl|rfl
 ·simp[e6,C2,mget]
 ·simp[e7,C2,mget]
theorem h11_eq:M9=some true:=by
 have ht:ae6=some h11T:=rfl
 unfold M9
 simp only[ht,oB,h11_plan,h11_with,if_true,ints_eq,n8,decide_true]
end Ab
end
section
namespace Ab
open Go
section
variable {t:d5}
def oneO(t:d5):Prop:=∀op:Int,0<=op->op<t.operators.length->((ooAt t op).outcomes.length:Int)=1
theorem oneO.x0(h:oneO t){op:Int}(h0:0<=op)(h1:op<t.operators.length):ix (ooAt t op).outcomes 0=some (xAt (ooAt t op) 0):=ix_x (jt _) (by rw[h op h0 h1];decide)
theorem oneO.map(h:oneO t){op:Int}(h0:0<=op)(h1:op<t.operators.length)(s:Li):(ooAt t op).outcomes.map (efc t.facts s)=[efc t.facts s (xAt (ooAt t op) 0)]:=by
 have hl:(ooAt t op).outcomes.length=1:=by have:=h op h0 h1;omega
 obtain⟨z,hz⟩:=List.length_eq_one_iff.1 hl
 have hx:=h.x0 h0 h1
 rw[hz] at hx ⊢
 have:z=xAt (ooAt t op) 0:=Option.some.inj hx
 rw[<- this];rfl
theorem dzs_all(ht:m8 t)(h:oneO t):∃c d,forR 0 (t.operators.length:Int) (x6 t) ([],[])=some (c,d)/\c.length=t.operators.length/\d.length=t.operators.length/\∀i:Int,0<=i->i<t.operators.length->ix d i=some (dzO (ooAt t i) (xAt (ooAt t i) 0)):=by
 have hops:=ht.ops
 obtain⟨⟨c,d⟩,r1,r2,r3,r4⟩:=z6 (body:=x6 t) (n:=(t.operators.length:Int)) (s:=([],[])) (fun a q=>(q.1.length:Int)=a/\(q.2.length:Int)=a/\∀i:Int,0<=i->i<a->ix q.2 i=some (dzO (ooAt t i) (xAt (ooAt t i) 0))) (by omega) ⟨rfl,rfl,fun i h0 h1=>by omega⟩ (fun a ⟨c,d⟩ h0 h1 ⟨p1,p2,p3⟩=>by
  dsimp only at p1 p2 p3
  have a1:app 80 d [dzO (ooAt t a) (xAt (ooAt t a) 0)]=some (d++[dzO (ooAt t a) (xAt (ooAt t a) 0)]):=by rw[app,if_pos (by simp;omega)]
  have a2:app 16 c [(a,(0:Int))]=some (c++[(a,0)]):=by rw[app,if_pos (by simp;omega)]
  have b:z8 a (ooAt t a) 0 (c,d)=some (c++[(a,0)],d++[dzO (ooAt t a) (xAt (ooAt t a) 0)]):=by
   rw[dz2 ht h0 h1 (h.x0 h0 h1),a1]
   simp only[oB,a2]
  have q:forR 0 ((ooAt t a).outcomes.length:Int) (z8 a (ooAt t a)) (c,d)=some (c++[(a,0)],d++[dzO (ooAt t a) (xAt (ooAt t a) 0)]):=by
   rw[h a h0 h1]
   show forN (z8 a (ooAt t a)) 1 0 (c,d)=_
   simp only[forN,b]
  unfold x6
  dsimp only
  rw[ix_oo h0 h1]
  simp only[oB]
  rw[q]
  refine⟨_,rfl,by dsimp only;rw[jb,ji];omega,by dsimp only;rw[jb,ji];omega,fun i i0 i1=> ?_⟩
  dsimp only
  by_cases e:i=a
  ·subst e
   have:i=((d.length:Nat):Int):=by omega
   rw[this,J2]
   simp
  ·have g:=p3 i i0 (by omega)
   obtain⟨_,i2,g2⟩:=n7 g
   rw[ix,if_pos i0,jg (by omega),g2])
 dsimp only at r2 r3 r4
 exact⟨c,d,r1,by omega,by omega,r4⟩
noncomputable def nxtS(t:d5)(p:List e9)(s:Li):Li:=efc t.facts s (xAt (ooAt t (chO p s)) 0)
noncomputable def wayS(t:d5)(p:List e9):Nat->Li->LL
 |0,_=>[]
 |m+1,s=>nxtS t p s::wayS t p m (nxtS t p s)
noncomputable def doS(t:d5)(p:List e9):Nat->Li->Li
 |0,_=>[]
 |m+1,s=>chO p s::doS t p m (nxtS t p s)
theorem doS_len{p:List e9}:∀{m:Nat} {s:Li},(doS t p m s).length=m
 |0,_=>rfl
 |m+1,s=>by simp only[doS,jh,doS_len]
theorem wayS_len{p:List e9}:∀{m:Nat} {s:Li},(wayS t p m s).length=m
 |0,_=>rfl
 |m+1,s=>by simp only[wayS,jh,wayS_len]
theorem do_way{p:List e9}:∀{m:Nat} {s:Li},((s::wayS t p m s).take m).map (chO p)=doS t p m s
 |0,_=>rfl
 |m+1,s=>by
  simp only[wayS,List.take_succ_cons,List.map_cons,doS]
  rw[do_way]
variable {p:List e9}
theorem ht_one(ht:m8 t)(h:oneO t)(hp:F2 t p){m:Nat}{s:Li}(hk:HtS t p (m+1) s):¬ q9 t s/\(0<=chO p s/\chO p s<t.operators.length)/\oCan t s (chO p s)/\HtS t p m (nxtS t p s):=by
 have hg:¬ q9 t s:=fun g=>by have:=hk.goal g;omega
 obtain⟨m',e,hL,_,y,hy,hy2⟩:=hk.step hg (nx_ne ht hp)
 have:m'=m:=by omega
 subst this
 have ho:=live_op hp hL
 refine⟨hg,ho.1,ho.2,?_⟩
 unfold nxS at hy
 rw[h.map ho.1.1 ho.1.2,ja] at hy
 rw[<- show y=nxtS t p s from hy]
 exact hy2
theorem fol_way(ht:m8 t)(h:oneO t)(hp:F2 t p):∀{m:Nat} {s:Li} {j:Int} {c:LL},HtS t p m s->fol t p (jf m 0) j c s=(c++wayS t p m s,⟨0,0⟩)
 |0,s,j,c,_=>by simp[fol,wayS]
 |m+1,s,j,c,hk=>by
  obtain⟨hg,ho,hc,hy⟩:=ht_one ht h hp hk
  rw[List.replicate_succ,fol,ifN (fun g=>g.elim (fun g=>by omega) hg),ifP (show(0:Int)<=0/\(0:Int)<(ooAt t (chO p s)).outcomes.length from⟨jt _,by rw[h _ ho.1 ho.2];decide⟩)]
  rw[show efc t.facts s (xAt (ooAt t (chO p s)) 0)=nxtS t p s from rfl,fol_way ht h hp hy,wayS,jw]
  rfl
variable {d:List h9}
theorem do_ok(ht:m8 t)(h:oneO t)(hp:F2 t p):∀{m:Nat} {s:Li},HtS t p m s->∀x ∈ doS t p m s,(0:Int)<=x/\x<t.operators.length
 |0,_,_,x,hx=>by cases hx
 |m+1,s,hk,x,hx=>by
  obtain⟨_,ho,_,hy⟩:=ht_one ht h hp hk
  rcases jj.1 hx with rfl|hx
  ·exact ho
  ·exact do_ok ht h hp hy x hx
theorem do_works(ht:m8 t)(h:oneO t)(hp:F2 t p)(hd:∀i:Int,0<=i->i<t.operators.length->ix d i=some (dzO (ooAt t i) (xAt (ooAt t i) 0))):∀{m:Nat} {s:Li},HtS t p m s->works ⟨t.facts,t.init,t.goal,d⟩ s (doS t p m s)
 |0,s,hk=>⟨s,rfl,hk.1⟩
 |m+1,s,hk=>by
  obtain⟨_,ho,hc,hy⟩:=ht_one ht h hp hk
  obtain⟨e,e1,e2⟩:=do_works ht h hp hd hy
  have hi:=hd _ ho.1 ho.2
  have hat:opAt ⟨t.facts,t.init,t.goal,d⟩ (chO p s)=dzO (ooAt t (chO p s)) (xAt (ooAt t (chO p s)) 0):=by
   have:=ix_op (t:=⟨t.facts,t.init,t.goal,d⟩) ho.1 (n7 hi).2.1
   rw[show ix (j3.mk t.facts t.init t.goal d).operators (chO p s)=some _ from hi] at this
   exact(Option.some.inj this).symm
  have haft:aft ⟨t.facts,t.init,t.goal,d⟩ s (chO p s)=nxtS t p s:=by
   unfold aft nxtS efc
   rw[hat];rfl
  refine⟨e,?_,e2⟩
  simp only[doS,ends]
  rw[if_pos (o8 (show can ⟨t.facts,t.init,t.goal,d⟩ s (chO p s) by unfold can;rw[hat];exact hc)),haft]
  exact e1
end
theorem do_loop{a37:(List e9)×Bool×g8}{a76:(LL)×g8}{k:Nat}(hk:k<=60)(hl:a76.1.length=k+1):forR 0 (k:Int) (x5 a37 a76) []=some ((a76.1.take k).map (chO a37.1)):=by
 obtain⟨c,r1,r2⟩:=z6 (body:=x5 a37 a76) (n:=(k:Int)) (s:=[]) (fun j c=>c=(a76.1.take j.toNat).map (chO a37.1)) (by omega) (by simp) (fun j c j0 j1 hP=>by
  obtain⟨s,hs,gs⟩:=k6 (l:=a76.1) j0 (by omega)
  unfold x5
  rw[hs]
  simp only[oB,rChosen_chO]
  have hlen:c.length<=60:=by rw[hP,List.length_map,List.length_take];omega
  rw[app,if_pos (by simp;omega)]
  refine⟨_,rfl,?_⟩
  rw[show(j+1).toNat=j.toNat+1 by omega,jP,gs,hP,List.map_append];rfl)
 rw[r1,r2]
 simp
theorem am4(t:d5):D1 t=some true:=by
 unfold D1
 rcases X3 (body:=B2 t) (n:=(t.operators.length:Int)) (s:=()) (fun j _=>∀op:Int,0<=op->op<j->((ooAt t op).outcomes.length:Int)=1) (fun o=>o=true) (by omega) (fun op h0 h1=>by omega) (fun j _ j0 j1 hP=>by
  unfold B2
  rw[ix_oo j0 j1]
  simp only[oB,h11_eq]
  by_cases e:((ooAt t j).outcomes.length:Int)=1
  ·rw[if_pos e]
   refine .inl ⟨_,rfl,fun op h0 h1=> ?_⟩
   by_cases ej:op=j
   ·rw[ej];exact e
   ·exact hP op h0 (by omega)
  ·rw[if_neg e]
   exact .inr ⟨_,rfl,rfl⟩) with⟨_,e1,h1⟩|⟨o,e1,rfl⟩
 ·rw[e1]
  simp only[oB,h11_eq]
  obtain⟨a43,hdt⟩:∃a43,D3 t=some a43:=by
   obtain⟨f,v1,_,v3⟩:=V2 t
   rcases v3 with⟨rfl,ht⟩|⟨hc,_⟩
   ·obtain⟨c,d,_,_,r3⟩:=ay3 ht
    rw[r3]
    split<;>exact⟨_,rfl⟩
   ·exact⟨_,determinize_bad v1 hc⟩
  have chk:∀p,∃a,B4 t p=some a:=fun p=>by
   obtain⟨f,p1,_,p3⟩:=aw5 t p
   rcases p3 with⟨rfl,ht,hp⟩|⟨hc,_⟩
   ·obtain⟨_,_,⟨k,_,_,q⟩|⟨_,q⟩⟩:=check_eq ht hp
    ·exact⟨_,q⟩
    ·exact⟨_,q⟩
   ·exact⟨_,check_bad p1 hc⟩
  have trivialP:∀a37 a50,y7 t=some a37->B4 t a37.1=some a50->(a37.2.2.code ≠ 0\/a43.2.2.code ≠ 0\/a37.2.1=false)->((((!(decide (a37.2.2.code=0)))||(!(decide (a43.2.2.code=0))))||(!a37.2.1))||(decide (60<a50.1)))=true:=fun a37 a50 _ _ h=>by
   rcases h with h|h|h<;>simp[h]
  rw[hdt]
  simp only[oB]
  by_cases hok:∃(p:List e9) (k:Nat),y7 t=some (p,true,⟨0,0⟩)/\B4 t p=some (((k:Nat):Int),true,(⟨0,0⟩:g8))/\a43.2.2.code=0/\k<=60
  ·obtain⟨p,k,q1,q2,q3,q4⟩:=hok
   rw[q1]
   simp only[oB,q2]
   rw[if_neg (by simp[q3];omega)]
   rw[show mkL 8 (k:Int) (0:Int)=some (jf k 0) by rw[mkL,if_pos (by omega)];simp]
   simp only[oB]
   obtain⟨f,p1,_,p3⟩:=aw5 t p
   rcases p3 with⟨rfl,ht,hp⟩|⟨hc,_⟩
   ·obtain⟨l,hv,hh⟩:=check_eq ht hp
    have hts:HtS t p k t.init:=by
     rcases hh with⟨k',_,g2,g3⟩|⟨_,g3⟩
     ·rw[q2] at g3
      have:k=k':=by injection g3 with g;injection g with g _;omega
      rw[this];exact g2
     ·rw[q2] at g3;simp at g3
    obtain⟨f',v1,v2,hf⟩:=follow_all t p (jf k 0)
    rw[p1] at v1
    obtain rfl:=Option.some.inj v1
    rcases hf with⟨hc,_⟩|⟨_,_,_,⟨hl,_⟩|⟨_,hf,_⟩⟩
    ·exact absurd rfl hc
    ·rw[List.length_replicate] at hl;omega
    ·rw[hf,fol_way ht h1 hp hts]
     simp only[oB]
     have hlen:([t.init]++wayS t p k t.init).length=k+1:=by simp[wayS_len]
     rw[if_neg (by rw[x9 (by omega) (by omega),hlen];simp),if_pos (by omega),do_loop q4 hlen]
     simp only[oB]
     rw[show([t.init]++wayS t p k t.init)=t.init::wayS t p k t.init from rfl,do_way]
     obtain⟨c,d,r1,_,r3⟩:=ay3 ht
     obtain⟨c',d',s1,s2,s3,s4⟩:=dzs_all ht h1
     rw[r1] at s1
     obtain⟨rfl,rfl⟩:c=c'/\d=d':=by injection s1 with s1;injection s1 with s1 s2;exact⟨s1,s2⟩
     have hops:=ht.ops
     rw[hdt,if_neg (by omega)] at r3
     obtain rfl:=Option.some.inj r3
     obtain⟨dz1,dz2,dz3,hdz⟩:=dz_all ht
     rw[r1] at dz3
     obtain⟨rfl,rfl⟩:c=dz1/\d=dz2:=by injection dz3 with s1;injection s1 with s1 s2;exact⟨s1,s2⟩
     have hT:=dz_task ht hdz (by omega)
     have hpl:PlanOk ⟨t.facts,t.init,t.goal,d⟩ (doS t p k t.init):=⟨by rw[doS_len];exact q4,fun x hx=>by
      have:=do_ok ht h1 hp hts x hx
      dsimp only
      omega⟩
     have hsol:X6 ⟨t.facts,t.init,t.goal,d⟩ (doS t p k t.init)=some (true,⟨0,0⟩):=by
      obtain⟨f,b1,_,b3⟩:=planFault_eq ⟨t.facts,t.init,t.goal,d⟩ (doS t p k t.init)
      rcases b3 with⟨rfl,_⟩|⟨_,b3⟩
      ·unfold X6
       rw[b1]
       simp only[oB]
       rw[if_neg (by simp),sWorks_eq hT hpl hT.init,o8 (do_works ht h1 hp s4 hts)]
       rfl
      ·exact absurd ⟨hT,hpl⟩ b3
     rw[hsol]
     simp
   ·rw[check_bad p1 hc] at q2
    simp at q2
  ·obtain⟨a37,hpl⟩:∃a37,y7 t=some a37:=by
    obtain⟨f,v1,_,v3⟩:=V2 t
    rcases v3 with⟨rfl,ht⟩|⟨hc,_⟩
    ·rcases policy_spec ht with⟨_,_,p⟩|⟨all,v,f,_,_,_,_,_,⟨_,p⟩|⟨ch,_,_,_,⟨p,_⟩|⟨p',p,_⟩⟩⟩<;>exact⟨_,p⟩
    ·exact⟨_,policy_bad v1 hc⟩
   obtain⟨a50,hck⟩:=chk a37.1
   rw[hpl]
   simp only[oB,hck]
   rw[if_pos]
   refine jk fun hno=>hok ?_
   rw[Bool.not_eq_true] at hno
   simp only[Bool.or_eq_false_iff,Bool.not_eq_false',decide_eq_true_eq,decide_eq_false_iff_not] at hno
   obtain⟨⟨⟨g1,g2⟩,g3⟩,g4⟩:=hno
   obtain⟨f,v1,_,v3⟩:=V2 t
   rcases v3 with⟨rfl,ht⟩|⟨hc,_⟩
   ·rcases policy_spec ht with⟨_,_,p⟩|⟨all,v,f,_,_,_,_,_,⟨_,p⟩|⟨ch,hk,hi1,hi2,⟨p,_⟩|⟨p',p,hb,hl⟩⟩⟩
    ·rw[hpl] at p;obtain rfl:=Option.some.inj p;simp at g3
    ·rw[hpl] at p;obtain rfl:=Option.some.inj p;simp at g3
    ·rw[hpl] at p;obtain rfl:=Option.some.inj p;simp at g3
    ·obtain⟨k,_,hk2⟩:=found_check ht hk hi1 hi2 hb hl
     rw[hpl] at p;obtain rfl:=Option.some.inj p
     rw[hk2] at hck
     obtain rfl:=Option.some.inj hck
     dsimp only at g4
     exact⟨p',k,hpl,hk2,g2,by omega⟩
   ·rw[policy_bad v1 hc] at hpl
    obtain rfl:=Option.some.inj hpl
    simp at g3
 ·rw[e1]
  rfl
end Ab
end
