/-
  Texts that the proof stands on.
-/
import Derived.Test.YtnjdfghkeijgnaaGreatDoorKRwChBest5
set_option linter.all false
open List renaming getElem?_eq_getElem->jo,length_append->jt,replicate->ju,getElem_mem->jv,getElem?_append_left->jw,mem_map->jx,length_singleton->jy,mem_singleton->jB,getElem?_of_mem->jC,getElem?_append_right->jG,getElem_of_mem->jH,mem_of_getElem?->jJ,mem_cons_of_mem->jM,length_take->jR,length_cons->jS,mem_append->jT,getElem?_set->jV,getElem?_replicate->jX,length_pos_of_mem->jY,mem_cons->kd,getElem?_take->kf,cons_append->kh,flatMap_nil->ki,nil_append->kl,nodup_cons->km,flatMap_cons->ko,Pairwise->kr,getElem?_eq_none->ku,mem_cons_self->kz,take_add_one->kB,append_assoc->kC,ext_getElem?->kD,drop_eq_getElem_cons->kF,mem_flatMap->kG,take_length->kH,getElem?_cons_zero->kI,length_map->kJ,map_append->kK,mem_filter->kM,take_append_drop->kO,length_filter_le->kQ,mem_append_left->kR,map_cons->kT,map_congr_left->kU,flatMap_append->kV,filter_eq_self->kW,getElem?_drop->kX,length_drop->ll,length->lm
open Int renaming eq_ofNat_of_zero_le->jp,toNat_natCast->js,le_refl->jA,mul_nonneg->jE,le_trans->jK,mul_le_mul->jN,mul_comm->jO,mul_le_mul_of_nonneg_right->jU,mul_le_mul_of_nonneg_left->jW,one_mul->kc,ofNat_tdiv->kg,le_of_mul_le_mul_right->kj,ofNat_tmod->ky,toNat_zero->kP,zero_mul->kY,add_mul->li
open Nat renaming gcd->jq,le_refl->jz,mul_div_cancel_left->jF,gcd_pos_of_pos_right->jI,Coprime->jZ,lt_trichotomy->kp,zero_le->kq,le_trans->kw,div_le_self->kx,coprime_div_gcd_div_gcd->kA,eq_zero_or_pos->lc,mul_comm->lf,gcd_dvd_right->lh,gcd_rec->lj
open Option renaming bind_some->jr,bind->jD,map_some->kL,getD_none->lk
open Classical renaming byContradiction->jL,not_imp->lg
open Bool renaming false_eq_true->ka,or_eq_true->ke,not_true->kS
namespace Ab
open Go
variable{x y:Int}{a:b9}{b g:Li}{c:List f8}{A B:Type}{d:LL}{f:Li->Prop}{i:List (ByteArray×Int)}{n k:Nat}{l:Li->Int}{o:Nat->LL}{p:Nat->Li}{q:List Bool}{r:List A}{s:A->Prop}{t:A}{v:Option A}{H:Li->A}{L:A->List A}{M P:Int->A->Option (A⊕B)}{Q V:A->Option (A⊕B)}{X:(A->Option B)->A->Option B}
def ae0(x:u6)(n:Int):Prop:=SetN x.add n/\SetN x.del n/\∀a ∈ x.add,a ∉ x.del
def xWt(x:u6):Prop:=1<=x.weight/\x.weight<=6
noncomputable def ae7(n:Int)(x:u6):Int:=if dec (ae0 x n)=true then if dec (xWt x)=true then 0 else 3 else 5
noncomputable def P4(n:Int):List u6->Int
 |[]=>0
 |x::l=>if ae7 n x=0 then P4 n l else ae7 n x
def xCode_zero{n:Int}{x:u6}:ae7 n x=0↔ae0 x n/\xWt x:=by unfold ae7;by_cases c1:ae0 x n;rw[ifP c1];by_cases a:xWt x;rw[ifP a];exact⟨fun _=>⟨c1,a⟩,fun _=>rfl⟩;rw[ifN a];exact⟨fun h=>by omega,fun h=>absurd h.2 a⟩;rw[ifN c1];exact⟨fun h=>by omega,fun h=>absurd h.1 c1⟩
def az1{n:Int}:∀{l:List u6},P4 n l=0↔∀x ∈ l,ae0 x n/\xWt x
 |[]=>by simp[P4]
 |x::l=>by rw[P4];by_cases c:ae7 n x=0;rw[if_pos c,az1];simp[xCode_zero.1 c];rw[if_neg c];exact⟨fun h=>absurd h c,fun h=>absurd (xCode_zero.2 (h x (by simp))) c⟩
structure OOk(o:i9)(n:Int):Prop where
 pre:SetN o.pre n
 c0:0<=o.cost
 c1:o.cost<=100
 l0:1<=lm o.outcomes
 l1:lm o.outcomes<=4
 xs:∀x ∈ o.outcomes,ae0 x n/\xWt x
noncomputable def ai6(o:i9)(n:Int):Int:=if dec (SetN o.pre n)=true then if dec (0<=o.cost/\o.cost<=100)=true then if dec (1<=(lm o.outcomes:Int)/\(lm o.outcomes:Int)<=4)=true then 0 else 9 else 3 else 5
noncomputable def aa9(o:i9)(n:Int):Int:=if ai6 o n=0 then P4 n o.outcomes else ai6 o n
def aA7{o:i9}{n:Int}:ai6 o n=0↔SetN o.pre n/\(0<=o.cost/\o.cost<=100)/\(1<=(lm o.outcomes:Int)/\(lm o.outcomes:Int)<=4):=by unfold ai6;by_cases c1:SetN o.pre n;rw[ifP c1];by_cases a:0<=o.cost/\o.cost<=100;rw[ifP a];by_cases b:1<=(lm o.outcomes:Int)/\(lm o.outcomes:Int)<=4;rw[ifP b];exact⟨fun _=>⟨c1,a,b⟩,fun _=>rfl⟩;rw[ifN b];exact⟨fun h=>by omega,fun h=>absurd h.2.2 b⟩;rw[ifN a];exact⟨fun h=>by omega,fun h=>absurd h.2.1 a⟩;rw[ifN c1];exact⟨fun h=>by omega,fun h=>absurd h.1 c1⟩
def oCode_of{o:i9}{n:Int}(h:OOk o n):aa9 o n=0:=by have:=h.l0;have:=h.l1;rw[aa9,if_pos (aA7.2 ⟨h.pre,⟨h.c0,h.c1⟩,by omega,by omega⟩),az1];exact h.xs
def oCode_ok{o:i9}{n:Int}(h:aa9 o n=0):OOk o n:=by unfold aa9 at h;by_cases c:ai6 o n=0;rw[if_pos c] at h;obtain⟨b,a,d⟩:=aA7.1 c;exact⟨b,a.1,a.2,by omega,by omega,az1.1 h⟩;rw[if_neg c] at h;exact absurd h c
def oc1{o:i9}{n:Int}(p:0<=n)(q:n<=24){j:Int}{x:u6}(k:ix o.outcomes j=some x):J8 o n j ()=some (if ae7 n x=0 then .inl () else .inr (ae7 n x)):=by unfold J8;rw[k];simp only[oB,isSet_eq,x8];by_cases d:SetN x.add n;rw[ifNN d];by_cases b:SetN x.del n;have:=b.len;rw[ifNN b,meets_eq b.1 (by omega)];simp only[oB];by_cases c:∀a ∈ x.add,a ∉ x.del;have g:ae0 x n:=⟨d,b,c⟩;rw[ifN (fun⟨a,e,l⟩=>c a e l)];unfold ae7;rw[ifP g];by_cases f:xWt x;have i:=f;unfold xWt at i;rw[ifP f,if_neg (by simp;omega)];rfl;have i:=f;unfold xWt at i;rw[ifN f,if_pos (by simp;omega)];rfl;have g:¬ ae0 x n:=fun h=>c h.2.2;rw[ifP (by rw[Classical.not_forall] at c;obtain⟨a,e⟩:=c;exact⟨a,lg.1 e|>.1,Classical.not_not.1 (lg.1 e).2⟩)];unfold ae7;rw[ifN g];rfl;have g:¬ ae0 x n:=fun h=>b h.2.1;rw[ifP b];unfold ae7;rw[ifN g];rfl;have g:¬ ae0 x n:=fun h=>d h.1;rw[ifP d];unfold ae7;rw[ifN g];rfl
def operatorCode_eq{o:i9}{n:Int}(i:0<=n)(k:n<=24):P6 o n=some (aa9 o n):=by
 unfold P6;simp only[isSet_eq,oB,x8];unfold aa9 ai6;by_cases c1:SetN o.pre n;rw[ifNN c1,ifP c1];by_cases f:0<=o.cost/\o.cost<=100;rw[if_neg (show ¬ ((decide (o.cost<0))||(decide (100<o.cost)))=true by rw[ke,decide_eq_true_eq,decide_eq_true_eq];omega),ifP f];by_cases g:1<=(lm o.outcomes:Int)/\(lm o.outcomes:Int)<=4;rw[if_neg (show ¬ ((decide ((lm o.outcomes:Int)=0))||(decide (4<(lm o.outcomes:Int))))=true by rw[ke,decide_eq_true_eq,decide_eq_true_eq];omega),ifP g,if_pos rfl];rcases ab5 (body:=J8 o n) (n:=(lm o.outcomes:Int)) (fun j _=>P4 n o.outcomes=P4 n (o.outcomes.drop j.toNat)) (fun c=>c=P4 n o.outcomes) (s:=()) (by omega) (by simp) (fun j _ p q a=>by
  obtain⟨x,r,t⟩:=j9 (l:=o.outcomes) p q;have u:o.outcomes.drop j.toNat=x::o.outcomes.drop (j.toNat+1):=by obtain⟨b,rfl⟩:=lG.1 t;exact kF b
  rw[oc1 i k r];rw[u,P4] at a;by_cases e:ae7 n x=0;rw[if_pos e] at a ⊢;exact .inl ⟨(),rfl,by rw[a,show(j+1).toNat=j.toNat+1 by omega]⟩;rw[if_neg e] at a ⊢;exact .inr ⟨_,rfl,a.symm⟩) with⟨_,d,v⟩|⟨c,d,rfl⟩
 rw[d,v];simp[P4];rw[d];rfl;rw[if_pos (show((decide ((lm o.outcomes:Int)=0))||(decide (4<(lm o.outcomes:Int))))=true by rw[ke,decide_eq_true_eq,decide_eq_true_eq];omega),ifN g];rfl;rw[if_pos (show((decide (o.cost<0))||(decide (100<o.cost)))=true by rw[ke,decide_eq_true_eq,decide_eq_true_eq];omega),ifN f];rfl;rw[ifP c1,ifN c1];rfl
def of2{t:b9}{o:i9}(G:0<=t.facts)(H:t.facts<=24)(J:lm o.outcomes<=1000000)(c:Int):Loop (E3 t o) (c,0)=some (if c=0 then P4 t.facts o.outcomes else c):=by
 obtain⟨r,y,z⟩:=x9 (body:=E3 t o) (fun p=>0<=p.2/\p.2<=lm o.outcomes/\(if c=0 then P4 t.facts o.outcomes else c)=if p.1=0 then P4 t.facts (o.outcomes.drop p.2.toNat) else p.1) (fun r=>r=if c=0 then P4 t.facts o.outcomes else c) (fun p=>(lm o.outcomes - p.2).toNat) (s:=(c,0)) ⟨by simp,by simp,by simp⟩ (fun⟨e,j⟩ ⟨w,A,g⟩=>by
  dsimp only at w A g ⊢;unfold E3;dsimp only;by_cases f:j<lm o.outcomes/\e=0;rw[if_pos (by simpa using f)];obtain⟨x,B,D⟩:=j9 (l:=o.outcomes) w f.1;have E:o.outcomes.drop j.toNat=x::o.outcomes.drop (j.toNat+1):=by obtain⟨i,rfl⟩:=lG.1 D;exact kF i
  rw[f.2,if_pos rfl,E,P4] at g;rw[B];simp only[oB,rIsSet_eq (n:=t.facts) _ (show -9223372036854775808<t.facts by omega) (show t.facts<=9223372036854775807 by omega),disjoint_eq,in_eq,x8,f.2];have F:(if dec (¬ SetN x.add t.facts)=true then some true else if dec (¬ SetN x.del t.facts)=true then some true else some (dec (¬ ∀a ∈ x.add,a ∉ x.del)))=some (dec (¬ ae0 x t.facts)):=by unfold ae0;by_cases b:SetN x.add t.facts;rw[ifNN b];by_cases d:SetN x.del t.facts;rw[ifNN d];exact congrArg some (r9 ⟨fun h k=>h k.2.2,fun h k=>h ⟨b,d,k⟩⟩);rw[ifP d,l8 (fun k=>d k.2.1)];rw[ifP b,l8 (fun k=>b k.1)]
  rw[F];simp only[oB];rw[k9 (by omega) (by omega)];have q:(if dec (¬ ae0 x t.facts)=true then some (5:Int) else if dec (¬ (1<=x.weight/\x.weight<=6))=true then some 3 else some 0)=some (ae7 t.facts x):=by unfold ae7;by_cases b:ae0 x t.facts;rw[ifNN b,ifP b];by_cases d:xWt x;rw[ifNN (p:=1<=x.weight/\x.weight<=6) d,ifP d];rw[ifP (p:=¬ (1<=x.weight/\x.weight<=6)) d,ifN d];rw[ifP b,ifN b]
  rw[q];simp only[oB];refine .inl ⟨_,rfl,⟨by dsimp only;omega,by dsimp only;omega,?_⟩,by dsimp only;omega⟩;dsimp only;rw[g,show(j+1).toNat=j.toNat+1 by omega];rw[if_neg (by simpa using f)];refine .inr ⟨e,rfl,?_⟩;rw[g];by_cases u:e=0;rw[if_pos u,List.drop_of_length_le (by omega),P4,u];rw[if_neg u])
 rw[y,z]
structure j6(t:b9):Prop where
 n0:0<=t.facts
 n1:t.facts<=24
 init:SetN t.init t.facts
 goal:SetN t.goal t.facts
 ops:lm t.operators<=40
 op:∀o ∈ t.operators,OOk o t.facts
def aE2(t:b9):∃f,P0 t=some f/\Y8 t=some f/\((f=⟨0,0⟩/\j6 t)\/(f.code ≠ 0/\¬ j6 t)):=by
 unfold P0 Y8;simp only[in_eq,at_eq,oB,x8];by_cases c1:0<=t.facts/\t.facts<=24;rw[if_neg (by simp;omega),ifNN c1];simp only[isSet_eq,rIsSet_eq (n:=t.facts) _ (show -9223372036854775808<t.facts by omega) (show t.facts<=9223372036854775807 by omega),oB,x8];by_cases d:SetN t.init t.facts;rw[ifNN d,ifNN d];by_cases g:SetN t.goal t.facts;rw[ifNN g,ifNN g];by_cases u:40<(lm t.operators:Int);rw[if_pos u,if_pos u];exact⟨_,rfl,rfl,.inr ⟨by simp,fun h=>by have:=h.ops;omega⟩⟩;rw[if_neg u,if_neg u];have x:∀j:Int,0<=j->j<lm t.operators->∃o,ix t.operators j=some o/\T1 t j ()=some (if aa9 o t.facts=0 then .inl () else .inr ⟨aa9 o t.facts,j⟩)/\K1 t j ()=some (if aa9 o t.facts=0 then .inl () else .inr ⟨aa9 o t.facts,j⟩):=fun j b a=>by
  obtain⟨o,p,_⟩:=j9 (l:=t.operators) b a;refine⟨o,p,?_,?_⟩;unfold T1;rw[p];simp only[oB,operatorCode_eq c1.1 c1.2];by_cases e:aa9 o t.facts=0;rw[if_pos e,if_pos e];rw[if_neg e,if_neg e];unfold K1;rw[p];simp only[oB,rIsSet_eq (n:=t.facts) _ (show -9223372036854775808<t.facts by omega) (show t.facts<=9223372036854775807 by omega),in_eq,at_eq,x8];have B:(if dec (¬ SetN o.pre t.facts)=true then some (5:Int) else if dec (¬ (0<=o.cost/\o.cost<=100))=true then some 3 else if dec (¬ (1<=(lm o.outcomes:Int)/\(lm o.outcomes:Int)<=4))=true then some 9 else some 0)=some (ai6 o t.facts):=by unfold ai6;by_cases i:SetN o.pre t.facts;rw[ifNN i,ifP i];by_cases k:0<=o.cost/\o.cost<=100;rw[ifNN k,ifP k];by_cases v:1<=(lm o.outcomes:Int)/\(lm o.outcomes:Int)<=4;rw[ifNN v,ifP v];rw[ifP v,ifN v];rw[ifP k,ifN k];rw[ifP i,ifN i]
  rw[B];simp only[oB];by_cases q:ai6 o t.facts=0;have:=aA7.1 q;rw[of2 c1.1 c1.2 (by omega),if_pos q];simp only[oB,aa9,q,if_true];split<;>rfl;have D:Loop (E3 t o) (ai6 o t.facts,0)=some (ai6 o t.facts):=by
   rw[av4];have:E3 t o (ai6 o t.facts,0)=some (.inr (ai6 o t.facts)):=by unfold E3;dsimp only;rw[if_neg (by simp[q])]
   rw[this]
  rw[D];simp only[oB,aa9,if_neg q]
 have r:rngX 0 (lm t.operators:Int) (T1 t) ()=rngX 0 (lm t.operators:Int) (K1 t) ():=
  (rngX_eq (fun _ _=>True) (by omega) trivial (fun j s b a _=>by obtain⟨o,_,z,y⟩:=x j b a;exact⟨by rw[z,y],by rw[z];simp,fun _ _=>Y⟩)).1
 rcases F5 (body:=K1 t) (n:=(lm t.operators:Int)) (fun j=>match ix t.operators j with|some o=>if aa9 o t.facts=0 then none else some (⟨aa9 o t.facts,j⟩:u5)|none=>none) (by omega) (fun j b a _=>by obtain⟨o,w,_,y⟩:=x j b a;rw[y,w];dsimp only;split<;>rfl) with⟨a,c⟩|⟨j,f,b,a,c,_,E⟩
 rw[r,a];refine⟨⟨0,0⟩,rfl,rfl,.inl ⟨rfl,c1.1,c1.2,d,g,by omega,fun o p=> ?_⟩⟩;obtain⟨j,F,i,k⟩:=n9 p;have:=c j F i;rw[k] at this;dsimp only at this;split at this;rename_i e;exact oCode_ok e;cases this;rw[r,E];obtain⟨o,w,_,_⟩:=x j b a;rw[w] at c;dsimp only at c;split at c;cases c;rename_i e;cases c;exact⟨_,rfl,rfl,.inr ⟨e,fun h=>e (oCode_of (h.op o (j8 w)))⟩⟩;rw[ifP g,ifP g];exact⟨_,rfl,rfl,.inr ⟨by simp,fun h=>g h.goal⟩⟩;rw[ifP d,ifP d];exact⟨_,rfl,rfl,.inr ⟨by simp,fun h=>d h.init⟩⟩;rw[if_pos (by simp;omega),if_pos (l8 c1)];exact⟨_,rfl,rfl,.inr ⟨by simp,fun h=>c1 ⟨h.n0,h.n1⟩⟩⟩
def noOO:i9:=⟨[],[],0⟩
def ooAt(t:b9)(op:Int):i9:=(t.operators[op.toNat]?).getD noOO
def ix_oo{t:b9}{op:Int}(b:0<=op)(c:op<lm t.operators):ix t.operators op=some (ooAt t op):=by obtain⟨a,d,e⟩:=j9 b c;rw[d,ooAt,e];rfl
def oCan(t:b9)(s:Li)(op:Int):Prop:=∀x ∈ (ooAt t op).pre,x ∈ s
noncomputable def efc(n:Int)(s:Li)(x:u6):Li:=V4 (fun p=>p ∈ x.add\/p ∈ s/\p ∉ x.del) n
def am1(n:Int)(s:Li)(x:u6):SetN (efc n s x) n:=aC5 _ _
def j6.at{t:b9}(h:j6 t){op:Int}(a:0<=op)(h1:op<lm t.operators):OOk (ooAt t op) t.facts:=h.op _ (j8 (ix_oo a h1))
def oCan_eq{t:b9}(a:j6 t){op:Int}(c:0<=op)(d:op<lm t.operators)(e:SetN b t.facts):ah0 t b op=some (dec (oCan t b op)):=by have:=a.n1;have:=e.len;unfold ah0;rw[ix_oo c d];simp only[oB];rw[X0 e.1 (a.at c d).pre.1 (by omega)];rfl
def ay7{t:b9}{op:Int}(a:0<=op)(b:op<lm t.operators)(s:Li):J6 t s op=some (dec (oCan t s op)):=by unfold J6;rw[ix_oo a b];simp only[oB,subset_eq];rfl
def effect_eq{t:b9}(f:j6 t)(s:Li)(x:u6):ad0 t s x=some (efc t.facts s x):=by
 have:=f.n1;unfold ad0;rw[if_pos (by omega)];rw[forR_setOf (b:=8) (fun p=>p ∈ x.add\/p ∈ s/\p ∉ x.del) f.n0 (by omega) (fun j c g i=>by
  unfold ar3;simp only[oB,has_eq,x8];have e:(if dec (j ∈ x.add)=true then some true else if dec (j ∈ s)=true then some (dec (j ∉ x.del)) else some false)=some (dec (j ∈ x.add\/j ∈ s/\j ∉ x.del)):=by by_cases c1:j ∈ x.add;rw[if_pos (l8 c1),l8 (.inl c1)];rw[if_neg (fun h=>c1 (n7.1 h))];by_cases a:j ∈ s;rw[if_pos (l8 a)];exact congrArg some (r9 ⟨fun h=>.inr ⟨a,h⟩,fun h=>(h.resolve_left c1).2⟩);rw[if_neg (fun h=>a (n7.1 h)),o8 (fun h=>a (h.resolve_left c1).1)]
  rw[e];simp only[oB];refine⟨fun d=> ?_,fun d=> ?_⟩;rw[if_pos (l8 d)];cases app 8 c [j]<;>rfl;rw[if_neg (fun h=>d (n7.1 h))];rfl)]
 rfl
def oUpdate_eq{n:Int}(d:n<=24)(c:SetN b n){x:u6}(a:ae0 x n):P2 b x.add x.del=some (efc n b x):=by have:=a.2.1.len;rw[update_eq (n:=n) (by omega) a.2.1.1 (by omega) c a.1];exact congrArg some (setOf_congr fun _ _ _=>Or.comm)
/-! ### Policies -/
structure ak9(t:b9)(p:List f8):Prop where
 len:lm p<=200
 ord:Ord (p.map f8.state)
 set:∀c ∈ p,SetN c.state t.facts
 op:∀c ∈ p,0<=c.operator/\c.operator<lm t.operators
 can:∀c ∈ p,oCan t c.state c.operator
def au9(p:List f8)(s:Li):∃r,I7 p s=some r/\((r= -1/\∀c ∈ p,c.state ≠ s)\/∃c,c ∈ p/\c.state=s/\r=c.operator):=by
 unfold I7;rcases F5 (body:=ai0 p s) (n:=(lm p:Int)) (fun j=>match ix p j with|some c=>if dec (c.state=s)=true then some c.operator else none|none=>none) (by omega) (fun j f b _=>by obtain⟨x,h,_⟩:=j9 (l:=p) f b;unfold ai0;simp only[h,oB,ints_eq];by_cases e:x.state=s;rw[ifP e,ifP e];rw[ifN e,ifN e]) with⟨b,a⟩|⟨j,o,f,b,a,w,k⟩
 rw[b];refine⟨-1,rfl,.inl ⟨rfl,fun c d q=> ?_⟩⟩;obtain⟨i,t,u,v⟩:=n9 d;have:=a i t u;rw[v] at this;dsimp only at this;rw[ifP q] at this;cases this;rw[k];obtain⟨c,d,_⟩:=j9 (l:=p) f b;rw[d] at a;dsimp only at a;split at a;rename_i e;cases a;exact⟨_,rfl,.inr ⟨c,j8 d,n7.1 e,rfl⟩⟩;cases a
def chosen_eq{t:b9}{p:List f8}(d:ak9 t p)(s:Li):∃r,M6 p s=some r/\I7 p s=some r/\(r= -1\/(0<=r/\r<lm t.operators/\oCan t s r)):=by obtain⟨r,j,g⟩:=au9 p s;refine⟨r,?_,j,?_⟩;unfold M6;obtain⟨i,l,u,n⟩:=bsf_eq (key:=f8.state) (xs:=p) (t:=s) (cmp:=open_Chosen_1) d.ord (by have:=d.len;omega) (fun a=>by unfold open_Chosen_1;rw[au4];rfl);have:m6 p s open_Chosen_1=bsf p s open_Chosen_1:=rfl;rw[this,l];simp only[oB,x8];rcases g with⟨rfl,h⟩|⟨c,b,f,rfl⟩;rw[ifP];rintro ⟨a,q,e⟩;exact h a q e;rw[ifNN ⟨c,b,f⟩];obtain⟨k,_,_,hk⟩:=n9 b;have:=n k c hk f;subst this;rw[hk];rfl;rcases g with⟨rfl,h⟩|⟨c,b,f,rfl⟩;exact .inl rfl;have:=d.op c b;exact .inr ⟨this.1,this.2,f ▸ d.can c b⟩
def ix_map{f:A->B}:ix (r.map f) x=(ix r x).map f:=by simp only[ix];split;rw[lM];rfl
def Ord.one{m:LL}(a:Ord d)(b:Ord m)(c:∀y,y ∈ d↔f y)(e:∀y,y ∈ m↔f y):d=m:=Ord.ext a b fun y=>(c y).trans (e y).symm
def cloneLL_eq(h:lm d<=1000000):C9 d=some d:=by
 rw[C9,app,if_pos (by simp;omega)];rfl
def results1{t:b9}{o:i9}(a:OOk o t.facts)(h:t.facts<=24)(i:SetN b t.facts):forR 0 (lm o.outcomes:Int) (W1 b o) []=some (o.outcomes.map (efc t.facts b)):=by
 have v:=a.l1;obtain⟨c,k,p⟩:=m5 (body:=W1 b o) (n:=(lm o.outcomes:Int)) (s:=[]) (fun j c=>c=(o.outcomes.take j.toNat).map (efc t.facts b)) (by omega) (by simp) (fun j c q r e=>by
  obtain⟨x,f,u⟩:=j9 (l:=o.outcomes) q r;unfold W1;rw[f];simp only[oB];rw[oUpdate_eq h i (a.xs x (j8 f)).1];simp only[oB];have g:lm c<=4:=by rw[e,kJ,jR];omega
  rw[app,if_pos (by simp;omega)];refine⟨_,rfl,?_⟩;rw[show(j+1).toNat=j.toNat+1 by omega,kB,u,e,kK];rfl)
 rw[k,p];simp
def J0{t:b9}(f:j6 t){op:Int}(g:0<=op)(h:op<lm t.operators)(v:SetN b t.facts):∃st w,A8 t b op=some (st,w)/\Ord st/\(∀y,y ∈ st↔∃x ∈ (ooAt t op).outcomes,efc t.facts b x=y)/\(lm st)<=4/\(lm w)=lm st/\forR 0 ((ooAt t op).outcomes.length:Int) (G8 ((ooAt t op).outcomes.map (efc t.facts b)) st (ooAt t op)) (ju (lm st) 0)=some w:=by
 have o:=f.at g h;have M:=o.l1;unfold A8;rw[ix_oo g h];simp only[oB];rw[results1 o f.n1 v];simp only[oB];rw[cloneLL_eq (by simp;omega)];simp only[oB];obtain⟨st,n1,p,q,A⟩:=normal_eq (l:=(ooAt t op).outcomes.map (efc t.facts b)) (by simp;omega);have d:lm st<=4:=by rw[kJ] at A;omega
 have B:mkL 8 (lm st:Int) (0:Int)=some (ju (lm st) 0):=by rw[mkL,if_pos (by omega)];simp
 obtain⟨w,r,D⟩:=m5 (body:=G8 ((ooAt t op).outcomes.map (efc t.facts b)) st (ooAt t op)) (n:=((ooAt t op).outcomes.length:Int)) (s:=ju (lm st) 0) (fun j c=>lm c=lm st) (by omega) (by simp) (fun j c E F G=>by obtain⟨x,e,N⟩:=j9 (l:=(ooAt t op).outcomes) E F;have a:efc t.facts b x ∈ st:=(q _).2 (jx.2 ⟨x,j8 e,rfl⟩);obtain⟨i,H,O,J⟩:=aw8 (t:=efc t.facts b x) p (by omega);obtain⟨k,K,P,hk⟩:=n9 a;have:=J k hk;subst this;obtain⟨z,L,Q⟩:=j9 (l:=c) (i:=k) K (by omega);unfold G8;rw[e,ix_map,e];simp only[oB,kL,H,L];exact⟨_,rfl,by rw[lS];exact G⟩);rw[n1];simp only[oB,B,r];exact⟨st,w,rfl,p,fun y=>by rw[q,jx],d,D,r⟩
/-! ### The coin -/
noncomputable def chO(p:List f8)(s:Li):Int:=(I7 p s).getD (-1)
def az3(p:List f8)(s:Li):I7 p s=some (chO p s):=by obtain⟨r,h,_⟩:=au9 p s;rw[chO,h];rfl
def aA8{t:b9}(a:ak9 t c)(s:Li):M6 c s=some (chO c s)/\(chO c s= -1\/(0<=chO c s/\chO c s<lm t.operators/\oCan t s (chO c s))):=by
 obtain⟨r,b,d,e⟩:=chosen_eq a s;have:chO c s=r:=by rw[chO,d];rfl
 rw[this];exact⟨b,e⟩
def ifOr{a b:Prop}:(if dec a=true then some true else some (dec b))=some (dec (a\/b)):=by by_cases h:a;rw[ifP h,l8 (.inl h)];rw[ifN h];exact congrArg some (r9 ⟨.inr,fun g=>g.resolve_left h⟩)
def dzO(o:i9)(x:u6):aa4:=⟨o.pre,x.add,x.del,o.cost⟩
structure Dz(t:b9)(a k:Int)(c:List (Int×Int))(d:List aa4):Prop where
 len:lm c=lm d
 most:(lm c:Int)<=4 * a+k
 each:∀i p,ix c i=some p->(0<=p.1/\p.1<lm t.operators)/\∃x ∈ (ooAt t p.1).outcomes,ix d i=some (dzO (ooAt t p.1) x)
 all:∀(b m:Int) (x:u6),0<=b->b<lm t.operators->ix (ooAt t b).outcomes m=some x->(b<a\/b=a/\m<k)->∃i,ix c i=some (b,m)/\ix d i=some (dzO (ooAt t b) x)
def dg(x:Int):Li:=if x<10 then [48+x] else [48+x / 10,48+x % 10]
def encS(s:Li):Li:=s.flatMap (fun x=>dg x++[44])++[59]
def encK(l:LL):Li:=l.flatMap encS
def small(s:Li):Prop:=∀x ∈ s,0<=x/\x<100
def dg_split{x:Int}(a:0<=x/\x<100)(c:0<=y/\y<100){r:Li}(h:dg x++44::r=dg y++44::b):x=y/\r=b:=by unfold dg at h;split at h<;>split at h<;>simp only[kh,kl,List.cons.injEq] at h;exact⟨by omega,h.2.2⟩;exfalso;omega;exfalso;omega;exact⟨by omega,h.2.2.2⟩
def dg_head{x:Int}(b:0<=x/\x<100):∃a l,dg x=a::l/\48<=a/\a<58:=by unfold dg;split;exact⟨_,_,rfl,by omega,by omega⟩;exact⟨_,_,rfl,by omega,by omega⟩
def as9(x:Int)(s:Li):encS (x::s)=dg x++44::encS s:=by simp[encS]
def encS_inj:∀{s s' r r':Li},small s->small s'->encS s++r=encS s'++r'->s=s'/\r=r'
 |[],[],r,r',_,_,h=>by simp[encS] at h;exact⟨rfl,h⟩
 |[],y::s',r,r',_,h2,h=>by obtain⟨a,l,ha,h3,h4⟩:=dg_head (h2 y (by simp));rw[as9,ha] at h;simp only[encS,ki,kl,kh,List.cons.injEq] at h;omega
 |x::s,[],r,r',h1,_,h=>by obtain⟨a,l,ha,h3,h4⟩:=dg_head (h1 x (by simp));rw[as9,ha] at h;simp only[encS,ki,kl,kh,List.cons.injEq] at h;omega
 |x::s,y::s',r,r',h1,h2,h=>by rw[as9,as9,kC,kC,kh,kh] at h;obtain⟨rfl,g⟩:=dg_split (h1 x (by simp)) (h2 y (by simp)) h;obtain⟨e1,e2⟩:=encS_inj (s:=s) (s':=s') (fun z hz=>h1 z (jM _ hz)) (fun z hz=>h2 z (jM _ hz)) g;exact⟨by rw[e1],e2⟩
def encK_inj:∀{l l':LL},(∀s ∈ l,small s)->(∀s ∈ l',small s)->encK l=encK l'->l=l'
 |[],[],_,_,_=>rfl
 |[],s::l',_,_,h=>by have h:=congrArg lm h;simp only[encK,encS,ki,ko,jt,List.length_nil,jS] at h;omega
 |s::l,[],_,_,h=>by have h:=congrArg lm h;simp only[encK,encS,ki,ko,jt,List.length_nil,jS] at h;omega
 |s::l,s'::l',h1,h2,h=>by have h:encS s++encK l=encS s'++encK l':=h;obtain⟨e1,e2⟩:=encS_inj (h1 s (kz ..)) (h2 s' (kz ..)) h;have e3:=encK_inj (l:=l) (l':=l') (fun z hz=>h1 z (jM _ hz)) (fun z hz=>h2 z (jM _ hz)) e2;rw[e1,e3]
def dg_byte{x:Int}(c:0<=x/\x<100):∀a ∈ dg x,0<=a/\a<256:=by intro a b;unfold dg at b;split at b<;>simp at b<;>omega
def encS_byte(h:small b):∀a ∈ encS b,0<=a/\a<256:=by intro a d;simp only[encS,jT,kG,jB] at d;rcases d with⟨x,e,c|c⟩|c;exact dg_byte (h x e) a c;omega;omega
def encK_byte(h:∀s ∈ d,small s):∀a ∈ encK d,0<=a/\a<256:=by intro a b;simp only[encK,kG] at b;obtain⟨s,c,e⟩:=b;exact encS_byte (h s c) a e
def strB_inj{d:Li}(e:∀a ∈ g,0<=a/\a<256)(f:∀a ∈ d,0<=a/\a<256)(h:strB g=strB d):g=d:=by
 have i:g.map (fun n=>UInt8.ofNat n.toNat)=d.map (fun n=>UInt8.ofNat n.toNat):=by have:=congrArg ByteArray.data h;simpa[strB] using this
 have c:∀{m:Li},(∀a ∈ m,0<=a/\a<256)->(m.map (fun n=>UInt8.ofNat n.toNat)).map (fun b=>(b.toNat:Int))=m:=by
  intro m j;rw[List.map_map];conv=>rhs;rw[<- List.map_id m]
  apply kU;intro a k;have:=j a k;simp only[Function.comp_apply,id_eq,UInt8.toNat_ofNat'];omega
 rw[<- c e,<- c f,i]
def keyK(l:LL):ByteArray:=strB (encK l)
def keyK_inj{l l':LL}(a:∀s ∈ l,small s)(b:∀s ∈ l',small s)(h:keyK l=keyK l'):l=l':=encK_inj a b (strB_inj (encK_byte a) (encK_byte b) h)
/-! ### Maps -/
def ay2{K:Type}[DecidableEq K](k b:K)(v:A):∀m:List (K×A),mget (mset m k v) b=if b=k then some v else mget m b
 |[]=>by simp only[mset,mget]
 |p::r=>by simp only[mset];by_cases h:k=p.1;rw[if_pos h];simp only[mget];by_cases a:b=k;rw[if_pos a,if_pos a];rw[if_neg a,if_neg a,if_neg (by rw[<- h];exact a)];rw[if_neg h];simp only[mget];rw[ay2 k b v r];by_cases a:b=p.1;rw[if_pos a,if_pos a,if_neg (fun e=>h (e.symm.trans a))];rw[if_neg a,if_neg a]
def aD6{b:Int->List B->Option (List B)}(g:A->List B)(N:Nat)(c0:List B)(i:∀j a c,ix r j=some a->lm c+(g a).length<=N->b j c=some (c++g a))(u:lm c0+(r.flatMap g).length<=N):
  forR 0 (lm r:Int) b c0=some (c0++r.flatMap g):=by
 obtain⟨v,d,k⟩:=m5 (body:=b) (n:=(lm r:Int)) (s:=c0) (fun j c=>c=c0++(r.take j.toNat).flatMap g) (by omega) (by simp) (fun j c o d f=>by
  obtain⟨a,p,q⟩:=j9 o d;have e:(j+1).toNat=j.toNat+1:=by omega
  have h:r.take (j+1).toNat=r.take j.toNat++[a]:=by rw[e,kB,q];rfl
  refine⟨c++g a,i j a c p ?_,?_⟩;have t:r=r.take j.toNat++[a]++r.drop (j+1).toNat:=by rw[<- h,kO]
  have w:(r.flatMap g).length=((r.take j.toNat).flatMap g).length+(g a).length+((r.drop (j+1).toNat).flatMap g).length:=by
   conv=>lhs;rw[t]
   simp[kV];omega
  rw[f,jt];omega;rw[h,kV,f];simp)
 rw[d,k]
 simp
def small_eq:∀n:Fin 100,(M7 (n:Nat)).map strL=some (dg (n:Nat)):=by decide+kernel
def appendInt_eq{x:Int}(d:0<=x/\x<100){l:Li}(g:lm l<=1000000):G4 x 10 l=some (l++dg x):=by
 have h:=small_eq ⟨x.toNat,by omega⟩;rw[show(((⟨x.toNat,by omega⟩:Fin 100):Nat):Int)=x by simp;omega] at h;obtain⟨b,e,f⟩:=oM.1 h;first
  |unfold G4 F0 E7
  |unfold G4 c a
 rw[if_neg (by omega),IntKind.wrap_u64,Int.emod_eq_of_lt (by omega) (by omega)];simp only[oB,if_true];rw[if_pos d.2,k9 (by omega) (by omega),e];simp only[oB,f];have:(dg x).length<=2:=by unfold dg;split<;>simp
 rw[app,if_pos (by omega)];rfl
def dg_len(x:Int):(dg x).length<=2:=by unfold dg;split<;>simp
def key_eq(g:∀s ∈ d,small s)(h:(encK d).length<=900000):ab3 d=some (keyK d):=by
 unfold ab3;rw[aD6 encS 900000 [] (fun j s c b n=>by
  unfold at6;rw[b];simp only[oB];have e:(encS s).length=(s.flatMap fun x=>dg x++[44]).length+1:=by simp[encS]
  rw[aD6 (fun x=>dg x++[44]) 900000 c (fun i x k f a=>by unfold at5;rw[f];simp only[jt,jy] at a;simp only[oB,appendInt_eq (g s (j8 b) x (j8 f)) (l:=k) (by omega)];rw[app,if_pos (by simp;omega)];simp) (by omega)];simp only[oB];rw[app,if_pos (by rw[jt];simp only[jy];omega)];simp[encS]) (by simpa[encK] using h)]
 rfl
def encS_len:∀s:Li,(encS s).length<=3 * (lm s)+1
 |[]=>by simp[encS]
 |x::s=>by have:=encS_len s;have:=dg_len x;rw[as9];simp only[jt,jS];omega
/-! ### Loops side by side -/
def rngN_sim{n o:Type}{b:Int->A->Option (A⊕n)}{b2:Int->B->Option (B⊕o)}(R:Int->A->B->Prop)(Q:n->o->Prop):∀(k:Nat) (i:Int) (s1:A) (a:B),R i s1 a->
  (∀j s1 a,i<=j->j<i+k->R j s1 a->(∃t1 t2,b j s1=some (.inl t1)/\b2 j a=some (.inl t2)/\R (j+1) t1 t2)\/∃o1 o2,b j s1=some (.inr o1)/\b2 j a=some (.inr o2)/\Q o1 o2)->
  (∃t1 t2,rngN b k i s1=some (.inl t1)/\rngN b2 k i a=some (.inl t2)/\R (i+k) t1 t2)\/∃o1 o2,rngN b k i s1=some (.inr o1)/\rngN b2 k i a=some (.inr o2)/\Q o1 o2
 |0,i,s1,a,h,_=>.inl ⟨s1,a,rfl,rfl,by simpa using h⟩
 |k+1,i,s1,a,h,p=>by rcases p i s1 a (jA _) (by omega) h with⟨t1,t2,c,d,g⟩|⟨o1,o2,c,d,g⟩;rcases rngN_sim R Q k (i+1) t1 t2 g (fun j s1 a e f=>p j s1 a (by omega) (by omega)) with⟨q,r,e,f,l⟩|⟨o1,o2,e,f,l⟩;exact .inl ⟨q,r,by simp only[rngN,c];exact e,by simp only[rngN,d];exact f,by rw[show i+((k+1:Nat):Int)=i+1+k by omega];exact l⟩;exact .inr ⟨o1,o2,by simp only[rngN,c];exact e,by simp only[rngN,d];exact f,l⟩;exact .inr ⟨o1,o2,by simp only[rngN,c],by simp only[rngN,d],g⟩
def rngX_sim{a b:Type}{b1:Int->A->Option (A⊕a)}{b2:Int->B->Option (B⊕b)}{n:Int}(R:Int->A->B->Prop)(Q:a->b->Prop){s1:A}{s2:B}(k:0<=n)(c:R 0 s1 s2)(d:∀j s1 s2,0<=j->j<n->R j s1 s2->(∃t1 t2,b1 j s1=some (.inl t1)/\b2 j s2=some (.inl t2)/\R (j+1) t1 t2)\/∃o1 o2,b1 j s1=some (.inr o1)/\b2 j s2=some (.inr o2)/\Q o1 o2):
  (∃t1 t2,rngX 0 n b1 s1=some (.inl t1)/\rngX 0 n b2 s2=some (.inl t2)/\R n t1 t2)\/∃o1 o2,rngX 0 n b1 s1=some (.inr o1)/\rngX 0 n b2 s2=some (.inr o2)/\Q o1 o2:=by
 rcases rngN_sim R Q (n - 0).toNat 0 s1 s2 c (fun j s1 s2 e l=>d j s1 s2 e (by omega)) with⟨t1,t2,f,g,i⟩|h
 ·exact .inl ⟨t1,t2,f,g,by rwa [show(0:Int)+((n - 0).toNat:Int)=n by omega] at i⟩
 ·exact .inr h
def Loop_sim{e f:Type}{b1:A->Option (A⊕e)}{b2:B->Option (B⊕f)}(R:A->B->Prop)(Q:e->f->Prop)(μ:A->Nat)(g:∀s1 a,R s1 a->(∃t1 t2,b1 s1=some (.inl t1)/\b2 a=some (.inl t2)/\R t1 t2/\μ t1<μ s1)\/∃o1 o2,b1 s1=some (.inr o1)/\b2 a=some (.inr o2)/\Q o1 o2):
  ∀(k:Nat) (s1:A) (a:B),μ s1<k->R s1 a->∃o1 o2,Loop b1 s1=some o1/\Loop b2 a=some o2/\Q o1 o2
 |0,_,_,h,_=>by omega
 |k+1,s1,a,h,i=>by rcases g s1 a i with⟨t1,t2,b,c,d,o⟩|⟨o1,o2,b,c,d⟩;obtain⟨o1,o2,j,l,n⟩:=Loop_sim R Q μ g k t1 t2 (by omega) d;exact⟨o1,o2,by rw[av4,b];exact j,by rw[av4,c];exact l,n⟩;exact⟨o1,o2,by rw[av4,b],by rw[av4,c],d⟩
def SetN.small{n:Int}(h:SetN b n)(c:n<=24):small b:=fun x a=>by have:=h.2 x a;omega
def key1_eq(a:small b)(c:lm b<=1000):ab3 [b]=some (keyK [b]):=by refine key_eq (by simpa using a) ?_;have:=encS_len b;simp only[encK,ko,ki,jt,List.append_nil];omega
def SetN.key_inj{n:Int}(a:n<=24)(h:SetN b n)(c:SetN g n)(e:keyK [b]=keyK [g]):b=g:=by have:=keyK_inj (l:=[b]) (l':=[g]) (by simpa using h.small a) (by simpa using c.small a) e;simpa using this
def an9{t:b9}(g:j6 t){op:Int}(p:0<=op)(q:op<lm t.operators)(J:SetN b t.facts):J7 t b op=A8 t b op:=by
 obtain⟨st,w,K,D,E,r4,r5,L⟩:=J0 g p q J;have M:=g.at p q;have hl:=M.l1;have hn:=g.n1;rw[K];unfold J7;rw[ix_oo p q];simp only[oB];obtain⟨l,a1,N,a3,a4,O⟩:=m5 (body:=al0 t b (ooAt t op)) (n:=((ooAt t op).outcomes.length:Int)) (s:=[]) (fun j l=>Ord l/\(lm l:Int)<=j/\(∀y ∈ l,lm y<=24)/\∀y,y ∈ l↔∃k x,k<j/\ix (ooAt t op).outcomes k=some x/\efc t.facts b x=y) (by omega) ⟨.nil,by simp,by simp,fun y=>⟨fun h=>by(cases h),fun⟨k,x,o,a,_⟩=>by have:=(m8 a).1;omega⟩⟩ (fun j l u v ⟨P,p2,G,Q⟩=>by obtain⟨x,d,_⟩:=j9 (l:=(ooAt t op).outcomes) u v;unfold al0;rw[d];simp only[oB,effect_eq g];obtain⟨U,V,X,H,m4⟩:=insert_eq P (by omega) (fun y z=>by have:=G y z;omega) (efc t.facts b x);rw[V];have s:=(am1 t.facts b x).len;refine⟨U,rfl,X,by omega,fun y z=> ?_,fun y=> ?_⟩;rcases(H y).1 z with rfl|h;omega;exact G y h;rw[H,Q];constructor;rintro (rfl|⟨k,A,o,a⟩);exact⟨j,x,by omega,d,rfl⟩;exact⟨k,A,by omega,a⟩;rintro ⟨k,A,o,a,f⟩;by_cases ek:k=j;subst ek;rw[d] at a;cases a;exact .inl f.symm;exact .inr ⟨k,A,by omega,a,f⟩);have B:l=st:=Ord.ext N D fun y=>by rw[O,E];constructor;rintro ⟨k,x,_,a,f⟩;exact⟨x,j8 a,f⟩;rintro ⟨x,d,f⟩;obtain⟨k,k0,o,a⟩:=n9 d;exact⟨k,x,o,a,f⟩
 subst B;have hm:mkL 8 (lm l:Int) (0:Int)=some (ju (lm l) 0):=by rw[mkL,if_pos (by omega)];simp
 rw[a1];simp only[oB,hm];have e:forR 0 ((ooAt t op).outcomes.length:Int) (ak4 t b (ooAt t op) l) (ju (lm l) 0)=some w:=by rw[<- L];refine forR_congr fun j c u v=> ?_;obtain⟨x,d,_⟩:=j9 (l:=(ooAt t op).outcomes) u v;obtain⟨i,e1,e2,e3⟩:=aw8 (t:=efc t.facts b x) D (by omega);obtain⟨r,g1,g2⟩:=aw1 l (efc t.facts b x);unfold ak4 G8;rw[d,ix_map,d];simp only[oB,kL,effect_eq g,e1,g1];rcases g2 with⟨_,h⟩|⟨_,_,h,_⟩;exact absurd ((E _).2 ⟨x,j8 d,rfl⟩) h;rw[e3 r h]
 rw[e];rfl
def Ext(a b:LL):Prop:=∀k y,ix a k=some y->ix b k=some y
def Ext.refl(a:LL):Ext a a:=fun _ _ h=>h
def Ext.mem{b:LL}(h:Ext d b)(c:g ∈ d):g ∈ b:=by obtain⟨k,_,_,hk⟩:=n9 c;exact j8 (h k g hk)
def Ext.snoc{b:LL}(h:Ext d b)(z:Li):Ext d (b++[z]):=fun k y hk=>by obtain⟨c,e,g⟩:=m8 (h k y hk);rw[ix,if_pos c,jw (by omega),g]
def Ext.len{b:LL}(h:Ext d b):lm d<=lm b:=by by_cases c:lm d=0;omega;obtain⟨y,e,_⟩:=j9 (l:=d) (i:=(lm d:Int) - 1) (by omega) (by omega);have:=(m8 (h _ y e)).2.1;omega
structure Rc(t:b9)(l:LL)(m:List (ByteArray×Int))(ws:Li):Prop where
 set:∀s ∈ l,SetN s t.facts
 len:lm l<=2000
 map:∀s,SetN s t.facts->(0<Option.getD (mget m (keyK [s])) 0↔s ∈ l)
 wrd:ws=l.map fun s=>(wsN s:Int)
def Rc.has{t:b9}{m:List (ByteArray×Int)}(h:Rc t d m b)(f:SetN g t.facts):(wsN g:Int) ∈ b↔g ∈ d:=by rw[h.wrd,jx];constructor;rintro ⟨a,c,e⟩;have:a=g:=(h.set a c).word_inj f (by omega);exact this ▸ c;intro i;exact⟨g,i,rfl⟩
def Rc.put{t:b9}(i:t.facts<=24){m:List (ByteArray×Int)}(h:Rc t d m b)(f:SetN g t.facts)(j:lm d<2000):Rc t (d++[g]) (mset m (keyK [g]) 1) (b++[(wsN g:Int)]):=by refine⟨fun y c=> ?_,by simp;omega,fun y c=> ?_,by rw[h.wrd];simp⟩;rcases jT.1 c with a|a;exact h.set y a;simp only[jB] at a;subst a;exact f;rw[ay2,jT,jB];by_cases e:keyK [y]=keyK [g];have:=SetN.key_inj i c f e;subst this;rw[if_pos rfl];simp;rw[if_neg e,h.map y c];constructor;exact .inl;rintro (a|a);exact a;exact absurd (by rw[a]) e
def reach4{t:b9}(G:j6 t){st:LL}{w:Li}(o:∀y ∈ st,SetN y t.facts){l0:LL}(H:Rc t l0 i b):
  (∃p q,rngX 0 (lm st:Int) (H4 (st,w)) (l0,i)=some (.inl p)/\rngX 0 (lm st:Int) (w5 2000 (st,w)) (l0,b)=some (.inl q)/\q.1=p.1/\Rc t p.1 p.2 q.2/\Ext l0 p.1/\∀y ∈ st,y ∈ p.1)\/∃o1 o2,rngX 0 (lm st:Int) (H4 (st,w)) (l0,i)=some (.inr o1)/\rngX 0 (lm st:Int) (w5 2000 (st,w)) (l0,b)=some (.inr o2)/\o1=([],false)/\o2=([],false):=by
 have r:=G.n1
 rcases rngX_sim (b1:=H4 (st,w)) (b2:=w5 2000 (st,w)) (n:=(lm st:Int)) (s1:=(l0,i)) (s2:=(l0,b)) (fun j p q=>q.1=p.1/\Rc t p.1 p.2 q.2/\Ext l0 p.1/\∀k y,k<j->ix st k=some y->y ∈ p.1) (fun o1 o2=>o1=([],false)/\o2=([],false)) (by omega) ⟨rfl,H,.refl _,fun k y k0 hk=>by have:=(m8 hk).1;omega⟩ (fun j ⟨l,m⟩ ⟨s,ws⟩ J K ⟨e,a,u,D⟩=>by
  dsimp only at e a u D;subst e;obtain⟨y,g,_⟩:=j9 (l:=st) J K;have d:=o y (j8 g);have L:=d.len;unfold H4 w5;dsimp only;rw[g];simp only[oB];rw[key1_eq (d.small r) (by omega),word_eq d r];simp only[oB,has_eq];have f:∀{v:LL},Ext s v->y ∈ v->∀k z,k<j+1->ix st k=some z->z ∈ v:=fun x A k z hk B=>by by_cases M:k=j;subst M;rw[g] at B;cases B;exact A;exact x.mem (D k z (by omega) B)
  by_cases c:y ∈ s;rw[if_pos ((a.map y d).2 c),ifP ((a.has d).2 c)];exact .inl ⟨_,_,rfl,rfl,rfl,a,u,f (.refl _) c⟩;rw[if_neg (fun h=>c ((a.map y d).1 h)),ifN (fun h=>c ((a.has d).1 h))];have E:=a.len;by_cases F:(lm s:Int)=2000;rw[if_pos F,if_pos (by omega)];exact .inr ⟨_,_,rfl,rfl,rfl,rfl⟩;rw[if_neg F,if_neg (by omega),app,if_pos (by simp;omega)];simp only[oB];rw[app,if_pos (by rw[a.wrd];simp;omega)];exact .inl ⟨_,_,rfl,rfl,rfl,a.put r d (by omega),u.snoc _,f ((Ext.refl _).snoc _) (by simp)⟩) with⟨p,q,x,A,N,O,P,Q⟩|h
 ·refine .inl ⟨p,q,x,A,N,O,P,fun y g=> ?_⟩
  obtain⟨k,_,U,hk⟩:=n9 g
  exact Q k y U hk
 ·exact .inr h
def ClS(t:b9)(l:LL)(s:Li)(n:Int):Prop:=∀op:Int,0<=op->op<n->oCan t s op->∀x ∈ (ooAt t op).outcomes,efc t.facts s x ∈ l
def ClS.ext{t:b9}{a:LL}{n:Int}(h:ClS t d b n)(e:Ext d a):ClS t a b n:=fun op c f g x i=>e.mem (h op c f g x i)
def reach2{t:b9}(u:j6 t){l0:LL}(H:Rc t l0 i g){s:Li}(J:ix l0 y=some s):
  (∃p q,rngX 0 (lm t.operators:Int) (H5 t y) (l0,i)=some (.inl p)/\rngX 0 (lm t.operators:Int) (u9 t 2000 y) (l0,g)=some (.inl q)/\q.1=p.1/\Rc t p.1 p.2 q.2/\Ext l0 p.1/\ClS t p.1 s (lm t.operators))\/∃o1 o2,rngX 0 (lm t.operators:Int) (H5 t y) (l0,i)=some (.inr o1)/\rngX 0 (lm t.operators:Int) (u9 t 2000 y) (l0,g)=some (.inr o2)/\o1=([],false)/\o2=([],false):=by
 have f:=H.set s (j8 J)
 exact rngX_sim (b1:=H5 t y) (b2:=u9 t 2000 y) (n:=(lm t.operators:Int)) (s1:=(l0,i)) (s2:=(l0,g)) (fun j p q=>q.1=p.1/\Rc t p.1 p.2 q.2/\Ext l0 p.1/\ClS t p.1 s j) (fun o1 o2=>o1=([],false)/\o2=([],false)) (by omega) ⟨rfl,H,.refl _,fun op a b=>by omega⟩ (fun j ⟨l,m⟩ ⟨O,ws⟩ v z ⟨e,D,A,K⟩=>by
  dsimp only at e D A K;subst e;unfold H5 u9;dsimp only;rw[A _ _ J];simp only[oB];rw[oCan_eq u v z f,ay7 v z];simp only[oB,x8];have step:∀{E:LL},Ext O E->(oCan t s j->∀x ∈ (ooAt t j).outcomes,efc t.facts s x ∈ E)->ClS t E s (j+1):=fun o r op a b L x B=>by by_cases P:op=j;subst P;exact r L x B;exact o.mem (K op a (by omega) L x B)
  by_cases c:oCan t s j;rw[ifNN c,ifNN c,an9 u v z f];obtain⟨st,w,Q,r2,M,_⟩:=J0 u v z f;rw[Q];simp only[oB];rcases reach4 u (st:=st) (w:=w) (fun d U=>by obtain⟨x,_,rfl⟩:=(M d).1 U;exact am1 _ _ _) D with⟨p,q,o,r,F,G,N,V⟩|⟨o1,o2,o,r,F,G⟩;rw[o,r];refine .inl ⟨p,q,rfl,rfl,F,G,fun k d hk=>N k d (A k d hk),step N fun _ x B=>V _ ((M _).2 ⟨x,B,rfl⟩)⟩;rw[o,r];exact .inr ⟨o1,o2,rfl,rfl,F,G⟩;rw[ifP c,ifP c];exact .inl ⟨_,_,rfl,rfl,rfl,D,A,step (.refl _) fun h=>absurd h c⟩)
structure Cl(t:b9)(l:LL):Prop where
 len:lm l<=2000
 set:∀s ∈ l,SetN s t.facts
 init:t.init ∈ l
 closed:∀s ∈ l,ClS t l s (lm t.operators)
def aB1{t:b9}(J:j6 t):(∃f,E6 t=some (f,true)/\A7 t 2000=some (f,true)/\Cl t f/\Ord f/\∃l,Loop (v8 t 2000) ([t.init],[(wsN t.init:Int)],0)=some (.inl l)/\(lm f)<=lm l)\/(E6 t=some ([],false)/\A7 t 2000=some ([],false)):=by
 have K:=J.n1;have o:=J.init;have ad:=o.len;unfold E6 A7;rw[aB0 (by omega)];simp only[oB];rw[key1_eq (o.small K) (by omega),word_eq o K];simp only[oB];rw[app,if_pos (by simp)];simp only[oB,kl];have r0:Rc t [t.init] (mset ([]:List (ByteArray×Int)) (keyK [t.init]) 1) [(wsN t.init:Int)]:=by refine⟨by simpa using o,by simp,fun s b=> ?_,rfl⟩;rw[ay2];by_cases e:keyK [s]=keyK [t.init];rw[if_pos e,SetN.key_inj K b o e];simp;rw[if_neg e];simp only[mget,jB,lk];exact⟨fun h=>by omega,fun h=>absurd (by rw[h]) e⟩
 obtain⟨o1,o2,q1,q2,q3⟩:=Loop_sim (b1:=U6 t) (b2:=v8 t 2000) (fun p q=>q.1=p.1/\q.2.2=p.2.2/\Rc t p.1 p.2.1 q.2.1/\0<=p.2.2/\p.2.2<=p.1.length/\t.init ∈ p.1/\∀i s,i<p.2.2->ix p.1 i=some s->ClS t p.1 s (lm t.operators)) (fun o1 o2=>(∃l,o1=.inl l/\o2=.inl l/\Cl t l)\/(o1=.inr ([],false)/\o2=.inr ([],false))) (fun p=>(2000 - p.2.2).toNat) (fun⟨l,m,a⟩ ⟨d,ws,Q⟩ ⟨U,V,w,X,g3,L,M⟩=>by dsimp only at U V w X g3 L M;subst U V;have aa:=w.len;unfold U6 v8;dsimp only;by_cases c:Q<lm d;rw[if_pos c,if_pos c];obtain⟨s,b,_⟩:=j9 (l:=d) X c;rcases reach2 J w b with⟨p,q,z,N,O,G,A,h6⟩|⟨o1,o2,z,N,O,G⟩;rw[z,N];have:=A.len;have:=G.len;simp only[oB];rw[k9 (by omega) (by omega)];refine .inl ⟨_,_,rfl,rfl,⟨O,rfl,G,by dsimp only;omega,by dsimp only;omega,A.mem L,fun i s' P g=> ?_⟩,by dsimp only;omega⟩;dsimp only at P g ⊢;by_cases ei:i=Q;subst ei;rw[A _ _ b] at g;cases g;exact h6;obtain⟨y,v,_⟩:=j9 (l:=d) (i:=i) (m8 g).1 (by omega);have B:=A _ _ v;rw[g] at B;cases B;exact(M i s' (by omega) v).ext A;rw[z,N];refine .inr ⟨_,_,rfl,rfl,.inr ⟨by rw[O],by rw[G]⟩⟩;rw[if_neg c,if_neg c];refine .inr ⟨_,_,rfl,rfl,.inl ⟨d,rfl,rfl,w.len,w.set,L,fun s b=> ?_⟩⟩;obtain⟨i,i0,i1,o⟩:=n9 b;exact M i s (by omega) o) _ ([t.init],mset ([]:List (ByteArray×Int)) (keyK [t.init]) 1,0) ([t.init],[(wsN t.init:Int)],0) (Nat.lt_succ_self _) ⟨rfl,rfl,r0,by simp,by simp,by simp,fun i s o b=>by have:=(m8 b).1;dsimp only at o;omega⟩;rw[q1,q2];rcases q3 with⟨l,rfl,rfl,D⟩|⟨rfl,rfl⟩;left;simp only[oB];have al:=D.len;obtain⟨r,n1,n2,E,n4⟩:=normal_eq (l:=l) (by omega);rw[n1];obtain⟨d,a1,a2,a3,a4,a5⟩:=m5 (body:=W6 l) (n:=(lm l:Int)) (s:=[]) (fun j d=>Ord d/\(lm d:Int)<=j/\(∀y ∈ d,lm y<=24)/\∀y,y ∈ d↔∃k,k<j/\ix l k=some y) (by omega) ⟨.nil,by simp,by simp,fun y=>⟨fun h=>by(cases h),fun⟨k,H,u⟩=>by have:=(m8 u).1;omega⟩⟩ (fun j d j0 j1 ⟨p1,p2,p3,p4⟩=>by obtain⟨s,b,_⟩:=j9 (l:=l) j0 j1;unfold W6;rw[b];simp only[oB];obtain⟨l2,m1,m2,m3,m4⟩:=insert_eq p1 (by omega) (fun y v=>by have:=p3 y v;omega) s;rw[m1];have an:=(D.set s (j8 b)).len;refine⟨l2,rfl,m2,by omega,fun y v=> ?_,fun y=> ?_⟩;rcases(m3 y).1 v with rfl|h;omega;exact p3 y h;rw[m3,p4];constructor;rintro (rfl|⟨k,H,u⟩);exact⟨j,by omega,b⟩;exact⟨k,by omega,u⟩;rintro ⟨k,H,u⟩;by_cases ek:k=j;subst ek;rw[b] at u;cases u;exact .inl rfl;exact .inr ⟨k,by omega,u⟩);rw[a1];have:d=r:=Ord.ext a2 n2 fun y=>by rw[a5,E];constructor;rintro ⟨k,_,u⟩;exact j8 u;intro v;obtain⟨k,_,H,hk⟩:=n9 v;exact⟨k,H,hk⟩
 subst this;refine⟨d,rfl,rfl,⟨by omega,fun s b=>D.set s ((E s).1 b),(E _).2 D.init,fun s b op h0 z F x hx=>(E _).2 (D.closed s ((E s).1 b) op h0 z F x hx)⟩,a2,l,rfl,n4⟩;right;exact⟨rfl,rfl⟩
def explore_ok{t:b9}(a:j6 t):N1 t=(E6 t).bind fun r=>if r.2=true then some (r.1,⟨0,0⟩) else some ([],⟨10, -7⟩):=by obtain⟨f,b,_,c⟩:=aE2 t;rcases c with⟨rfl,_⟩|⟨_,d⟩;unfold N1;rw[b];simp only[oB];rw[if_neg (by simp)];congr 1;funext r;cases r.2<;>rfl;exact absurd a d
def explore_bad{t:b9}{f:u5}(a:P0 t=some f)(b:f.code ≠ 0):N1 t=some ([],f):=by unfold N1;rw[a];simp only[oB];rw[if_pos (fault_no b)]
def V1[DecidableEq A]:∀{c S:List A},c.Nodup->(∀x ∈ c,x ∈ S)->lm c<=lm S
 |[],_,_,_=>kq _
 |a::c,S,h,d=>by
  obtain⟨i,j⟩:=km.1 h;have f:=d a (by simp);have:=V1 (c:=c) (S:=S.erase a) j fun x g=>by have b:x ≠ a:=fun e=>i (e ▸ g);exact(List.mem_erase_of_ne b).2 (d x (jM _ g))
  rw[List.length_erase_of_mem f] at this;have:0<lm S:=jY f;simp only[jS];omega
def Dn(G L:A->Prop)(a:A->List A):Nat->A->Prop
 |0,s=>G s
 |k+1,s=>G s\/(L s/\∀y ∈ a s,Dn G L a k y)
def Dn.goal{G:A->Prop}(h:G t):Dn G s L n t:=by
 cases n with
 |zero=>exact h
 |succ n=>exact .inl h
def Dn.succ{G:A->Prop}:∀{k:Nat} {a:A},Dn G s L k a->Dn G s L (k+1) a
 |0,a,h=>.inl h
 |k+1,a,h=>by rcases h with h|⟨b,c⟩;exact .inl h;exact .inr ⟨b,fun y d=>(c y d).succ⟩
def Dn.mono{G:A->Prop}{m:Nat}(h:Dn G s L n t)(a:n<=m):Dn G s L m t:=by
 induction a with
 |refl=>exact h
 |step _ b=>exact b.succ
def Ht(G L:A->Prop)(a:A->List A)(k:Nat)(s:A):Prop:=Dn G L a k s/\∀j,j<k->¬ Dn G L a j s
def Ht.unique{G:A->Prop}{m:Nat}(h:Ht G s L n t)(a:Ht G s L m t):n=m:=by rcases kp n m with c|c|c;exact absurd h.1 (a.2 n c);exact c;exact absurd a.1 (h.2 m c)
def Ht.le{G:A->Prop}{m:Nat}(h:Ht G s L n t)(a:Dn G s L m t):n<=m:=by rcases Nat.lt_or_ge m n with c|c;exact absurd a (h.2 m c);exact c
def Ht.of_dn{G:A->Prop}:∀{k:Nat} {a:A},Dn G s L k a->∃m,m<=k/\Ht G s L m a
 |0,a,h=>⟨0,jz _,h,fun j b=>by omega⟩
 |k+1,a,h=>by by_cases c:Dn G s L k a;obtain⟨m,f,d⟩:=Ht.of_dn c;exact⟨m,by omega,d⟩;exact⟨k+1,jz _,h,fun j b e=>c (e.mono (by omega))⟩
def Ht.zero{G:A->Prop}(h:G t):Ht G s L 0 t:=⟨h,fun j a=>by omega⟩
def Ht.goal{G:A->Prop}(h:Ht G s L n t)(a:G t):n=0:=h.unique (.zero a)
def Ht.step{α:Type}{G L:α->Prop}{nx:α->List α}{k:Nat}{s:α}(h:Ht G L nx k s)(f:¬ G s)(c:∀s,L s->nx s ≠ []):∃m,k=m+1/\L s/\(∀y ∈ nx s,∃j,j<=m/\Ht G L nx j y)/\∃y ∈ nx s,Ht G L nx m y:=by
 cases k with
 |zero=>exact absurd h.1 f
 |succ m=>
  rcases h.1 with g|⟨d,e⟩
  ·exact absurd g f
  ·refine⟨m,rfl,d,fun y a=>Ht.of_dn (e y a),?_⟩
   cases m with
   |zero=>
    obtain⟨y,a⟩:=List.exists_mem_of_ne_nil _ (c s d)
    exact⟨y,a,e y a,fun j i=>by omega⟩
   |succ m=>
    have l:=h.2 (m+1) (by omega)
    have:∃y ∈ nx s,¬ Dn G L nx m y:=jL fun n=>l (.inr ⟨d,fun y a=>jL fun b=>n ⟨y,a,b⟩⟩)
    obtain⟨y,a,b⟩:=this
    exact⟨y,a,e y a,fun j i o=>b (o.mono (by omega))⟩
def i6(t:b9)(s:Li):Prop:=∀x ∈ t.goal,x ∈ s
noncomputable def T9(p:List f8)(s:Li):Prop:=0<=chO p s
noncomputable def nxS(t:b9)(p:List f8)(s:Li):LL:=(ooAt t (chO p s)).outcomes.map (efc t.facts s)
inductive Rch(t:b9)(p:List f8):Li->Prop
 |init:Rch t p t.init
 |step {s y:Li}:Rch t p s->¬ i6 t s->T9 p s->y ∈ nxS t p s->Rch t p y
def chO_mem{p:List f8}(h:0<=chO p b):∃c ∈ p,c.state=b/\chO p b=c.operator:=by
 obtain⟨r,a,d⟩:=au9 p b;have e:chO p b=r:=by rw[chO,a];rfl
 rw[e] at h ⊢;rcases d with⟨rfl,_⟩|⟨c,f,g,i⟩;omega;exact⟨c,f,g,i⟩
def live_op{t:b9}(a:ak9 t c)(h:T9 c b):(0<=chO c b/\chO c b<lm t.operators)/\oCan t b (chO c b):=by obtain⟨_,e⟩:=aA8 a b;unfold T9 at h;rcases e with e|e;omega;exact⟨⟨e.1,e.2.1⟩,e.2.2⟩
def Rch.set{t:b9}(a:j6 t){s:Li}(h:Rch t c s):SetN s t.facts:=by
 cases h with
 |init=>exact a.init
 |step _ _ _ b=>
  obtain⟨x,_,rfl⟩:=jx.1 b
  exact am1 _ _ _
noncomputable def candK(t:b9)(p:List f8):LL:=t.init::p.flatMap fun c=>(ooAt t c.operator).outcomes.map (efc t.facts c.state)
def flat_len{f:A->List B}{n:Nat}:∀{l:List A},(∀a ∈ l,(f a).length<=n)->(l.flatMap f).length<=lm l * n
 |[],_=>by simp
 |a::l,h=>by have d:=h a (by simp);have e:=flat_len (l:=l) fun b c=>h b (jM _ c);rw[ko,jt,jS,Nat.succ_mul];omega
def candK_len{t:b9}(b:j6 t){p:List f8}(a:ak9 t p):(candK t p).length<=801:=by
 have h:=flat_len (f:=fun c:f8=>(ooAt t c.operator).outcomes.map (efc t.facts c.state)) (n:=4) (l:=p) fun c d=>by have:=a.op c d;have:=(b.at this.1 this.2).l1;simpa using this
 have:=a.len;have e:lm p * 4<=200 * 4:=Nat.mul_le_mul_right _ this;unfold candK;rw[jS];omega
def Rch.cand{t:b9}{p:List f8}(h:Rch t p b):b ∈ candK t p:=by
 cases h with
 |init=>exact kz ..
 |@step b y _ _ d a=>
  obtain⟨c,e,f,g⟩:=chO_mem d
  refine jM _ (kG.2 ⟨c,e,?_⟩)
  unfold nxS at a
  rw[g] at a
  rw[f]
  exact a
def rch_len{t:b9}(a:j6 t)(b:ak9 t c)(e:d.Nodup)(h:∀s ∈ d,Rch t c s):lm d<=801:=
 kw (V1 e fun s f=>(h s f).cand) (candK_len a b)
def Ord.nodup(h:Ord d):d.Nodup:=kr.imp (fun {a b:Li} (c:llt a b) (e:a=b)=>M3 a (by rw[<- e] at c;exact c)) h
def ClV(t:b9)(p:List f8)(l:LL)(s:Li):Prop:=¬ i6 t s->T9 p s->∀y ∈ nxS t p s,y ∈ l
structure Vis(t:b9)(p:List f8)(l:LL):Prop where
 ord:Ord l
 mem:∀s,s ∈ l↔Rch t p s
def vis_of{t:b9}(a:Ord d)(b:t.init ∈ d)(e:∀s ∈ d,Rch t c s)(f:∀s ∈ d,ClV t c d s):Vis t c d:=by
 refine⟨a,fun s=>⟨e s,fun h=> ?_⟩⟩;induction h with
 |init=>exact b
 |step _ g i j k=>exact f _ k g i _ j
def Vis.unique{t:b9}{m:LL}(h:Vis t c d)(a:Vis t c m):d=m:=Ord.one h.ord a.ord h.mem a.mem
def rvis3{t:b9}(i:j6 t){p:List f8}(M:ak9 t p)(N:Rch t p g)(O:¬ i6 t g)(P:T9 p g){st:LL}{w:Li}(o:∀y,y ∈ st↔y ∈ nxS t p g){l0:LL}{b0:Bool}(Q:Ord l0)(U:∀g ∈ l0,Rch t p g):
  ∃l b,forR 0 (lm st:Int) (W0 (st,w)) (l0,b0)=some (l,b)/\Ord l/\(∀g ∈ l,Rch t p g)/\(∀g ∈ l0,g ∈ l)/\(lm l0)<=lm l/\(b=false->b0=false/\l=l0/\∀y ∈ st,y ∈ l)/\(b=true->b0=true\/(lm l0)<lm l):=by
 have hn:=i.n1
 obtain⟨⟨l,b⟩,V,X,s,h4,h5,h6,h7⟩:=m5 (body:=W0 (st,w)) (n:=(lm st:Int)) (s:=(l0,b0)) (fun j q=>Ord q.1/\(∀g ∈ q.1,Rch t p g)/\(∀g ∈ l0,g ∈ q.1)/\(lm l0)<=q.1.length/\(q.2=false->b0=false/\q.1=l0/\∀k y,k<j->ix st k=some y->y ∈ q.1)/\(q.2=true->b0=true\/(lm l0)<q.1.length)) (by omega) ⟨Q,U,fun _ h=>h,jz _,fun h=>⟨h,rfl,fun k y hk h=>by have:=(m8 h).1;omega⟩,fun h=>.inl h⟩ (fun j ⟨l,b⟩ j0 j1 ⟨a1,e,r,G,H,J⟩=>by
  dsimp only at a1 e r G H J;obtain⟨y,a,_⟩:=j9 (l:=st) j0 j1;have u:Rch t p y:=.step N O P ((o y).1 (j8 a));unfold W0;dsimp only;rw[a];obtain⟨z,z1,z2⟩:=aw1 l y;simp only[oB,z1];rcases z2 with⟨rfl,v⟩|⟨z0,_,v,_⟩;rw[if_pos (by decide)];have K:=rch_len i M a1.nodup e;obtain⟨L,m1,m2,A,m4⟩:=insert_eq a1 (by omega) (fun y a=>by have:=((e y a).set i).len;omega) y;rw[m1];have aa:lm l<lm L:=by have:=V1 (c:=y::l) (S:=L) (km.2 ⟨v,a1.nodup⟩) fun x f=>(A x).2 (kd.1 f);simp only[jS] at this;omega
  refine⟨_,rfl,m2,fun x f=> ?_,fun x f=>(A x).2 (.inr (r x f)),by dsimp only;omega,fun h=>by(cases h),fun _=>.inr (by dsimp only;omega)⟩;rcases(A x).1 f with rfl|h;exact u;exact e x h;rw[if_neg (by omega)];refine⟨_,rfl,a1,e,r,G,fun h=> ?_,J⟩;obtain⟨B,D,E⟩:=H h;refine⟨B,D,fun k z' hk d=> ?_⟩;by_cases ek:k=j;subst ek;rw[a] at d;cases d;exact j8 v;exact E k z' (by omega) d)
 refine⟨l,b,V,X,s,h4,h5,fun h=> ?_,h7⟩
 obtain⟨B,D,E⟩:=h6 h
 refine⟨B,D,fun y a=> ?_⟩
 obtain⟨k,_,k1,hk⟩:=n9 a
 exact E k y k1 hk
def rVisited_eq{t:b9}(d:j6 t){p:List f8}(v:ak9 t p):∃l,Y5 t p=some l/\Vis t p l:=by
 have hn:=d.n1;unfold Y5;obtain⟨l,h1,h2⟩:=x9 (body:=ae8 t p) (fun q=>Ord q.1/\(∀s ∈ q.1,Rch t p s)/\t.init ∈ q.1/\(q.2=false->∀s ∈ q.1,ClV t p q.1 s)) (fun l=>Vis t p l) (fun q=>2 * (801 - q.1.length)+if q.2=true then 1 else 0) (s:=([t.init],true)) ⟨by simp,by simpa using Rch.init,by simp,fun h=>by cases h⟩ (fun⟨l0,E⟩ ⟨F,G,H,U⟩=>by
  dsimp only at F G H U ⊢;unfold ae8;dsimp only;by_cases J:E=true;subst J;rw[if_pos rfl];obtain⟨⟨l,b⟩,e1,K,L,V,e5,X,M⟩:=x9 (body:=af3 t p) (fun q=>Ord q.1/\(∀s ∈ q.1,Rch t p s)/\t.init ∈ q.1/\(lm l0)<=q.1.length/\0<=q.2.2/\(q.2.1=false->q.1=l0/\∀i s,i<q.2.2->ix q.1 i=some s->ClV t p q.1 s)/\(q.2.1=true->lm l0<q.1.length)) (fun r=>Ord r.1/\(∀s ∈ r.1,Rch t p s)/\t.init ∈ r.1/\(lm l0)<=r.1.length/\(r.2=false->∀s ∈ r.1,ClV t p r.1 s)/\(r.2=false->r.1=l0)/\(r.2=true->lm l0<r.1.length)) (fun q=>(801 - q.2.2).toNat) (s:=(l0,false,0)) ⟨F,G,H,jz _,by simp,fun _=>⟨rfl,fun i s hi h=>by have:=(m8 h).1;dsimp only at hi;omega⟩,fun h=>by(cases h)⟩ (fun⟨l,b,i⟩ ⟨a1,g,x,N,a5,e,A⟩=>by
   dsimp only at a1 g x N a5 e A ⊢;have o:=rch_len d v a1.nodup g;unfold af3;dsimp only;by_cases c:i<lm l;rw[if_pos c];obtain⟨s,j,_⟩:=j9 (l:=l) a5 c;have u:=g s (j8 j);have a:=u.set d;rw[j];simp only[oB,az3];have key:(if chO p s<0 then some true else jD (E4 t s) fun O=>some O)=some (dec (chO p s<0\/i6 t s)):=by unfold E4 i6;rw[subset_eq,<- ifOr];simp only[oB];by_cases h:chO p s<0;rw[if_pos h,ifP h];rw[if_neg h,ifN h]
   rw[key];simp only[oB];by_cases cs:chO p s<0\/i6 t s;rw[ifP cs];simp only[oB];rw[k9 (by omega) (by omega)];refine .inl ⟨_,rfl,⟨a1,g,x,N,by dsimp only;omega,fun h=>⟨(e h).1,fun k z hk f=> ?_⟩,A⟩,by dsimp only;omega⟩;dsimp only at hk;by_cases P:k=i;subst P;rw[j] at f;cases f;intro B Q;rcases cs with c1|c1;unfold T9 at Q;omega;exact absurd c1 B;exact(e h).2 k z (by omega) f;rw[ifN cs];have hl:T9 p s:=by unfold T9;have:=fun h=>cs (.inl h);omega
   have hg:¬ i6 t s:=fun h=>cs (.inr h);have D:=live_op v hl;rw[an9 d D.1.1 D.1.2 a];obtain⟨st,w,r1,_,r3,_⟩:=J0 d D.1.1 D.1.2 a;rw[r1];simp only[oB];obtain⟨l2,b2,f1,f2,f3,f4,f5,f6,f7⟩:=rvis3 d v u hg hl (st:=st) (w:=w) (fun y=>by rw[r3,nxS,jx]) (b0:=b) a1 g;rw[f1];simp only[oB];rw[k9 (by omega) (by omega)];refine .inl ⟨_,rfl,⟨f2,f3,f4 _ x,by dsimp only;omega,by dsimp only;omega,fun h=> ?_,fun h=> ?_⟩,by dsimp only;omega⟩;obtain⟨B,Q,q3⟩:=f6 h;subst Q;refine⟨(e B).1,fun k z hk f=> ?_⟩;dsimp only at hk;by_cases P:k=i;subst P;rw[j] at f;cases f;exact fun _ _ y hy=>q3 y (by rw[r3];exact jx.1 hy);exact(e B).2 k z (by omega) f;rcases f7 h with q|q;have:=A q;dsimp only;omega;dsimp only;omega;rw[if_neg c];refine .inr ⟨_,rfl,a1,g,x,N,fun h s j=> ?_,fun h=>(e h).1,A⟩;obtain⟨k,k0,k1,hk⟩:=n9 j;exact(e h).2 k s (by have:k<(lm l:Int):=k1;omega) hk)
  rw[e1];simp only[oB];dsimp only at K L V e5 X M;have o:=rch_len d v K.nodup L;refine .inl ⟨_,rfl,⟨K,L,V,X⟩,?_⟩;dsimp only;cases b with
  |false=>simp;have:=M.1 rfl;rw[this];omega
  |true=>have:=M.2 rfl;simp;omega
  rw[if_neg J];have hb:E=false:=by simpa using J
  exact .inr ⟨_,rfl,vis_of F H G (U hb)⟩)
 rw[h1];exact⟨l,rfl,h2⟩
def Vis.closed{t:b9}(h:Vis t c d):∀s ∈ d,¬ i6 t s->T9 c s->∀y ∈ nxS t c s,y ∈ d:=fun s a b e y f=>(h.mem y).2 (.step ((h.mem s).1 a) b e f)
def Vis.len{t:b9}(a:j6 t)(b:ak9 t c)(h:Vis t c d):lm d<=801:=rch_len a b h.ord.nodup fun s e=>(h.mem s).1 e
def ad3(a:Ord d)(c:lm d<=500000)(e:ix d x=some b):F6 d b=some x:=by unfold F6;obtain⟨k,f,_,g⟩:=aw8 (t:=b) a c;rw[f,g x e];rfl
def as5(c:Ord d)(a:ix d x=some b):C8 d b=some x:=by obtain⟨z,e,f⟩:=aw1 d b;rw[e];rcases f with⟨_,h⟩|⟨_,_,h,_⟩;exact absurd (j8 a) h;rw[c.inj h a]
def aF6(p:List f8):Y2 p p=some true:=by unfold Y2;rw[if_pos rfl,rngX_all (by omega) fun j a b=>by obtain⟨c,d,_⟩:=j9 (l:=p) a b;unfold ao3;rw[d];simp only[oB,decide_true,kS,ka,if_false,ints_eq,l8]];rfl
noncomputable def nxC(t:b9)(a:Li->Int)(s:Li):LL:=(ooAt t (a s)).outcomes.map (efc t.facts s)
inductive RchC(t:b9)(ch:Li->Int):Li->Prop
 |init:RchC t ch t.init
 |step {s y:Li} (h:RchC t ch s) (hg:¬ i6 t s) (hy:y ∈ nxC t ch s):RchC t ch y
def ChOk(t:b9)(a:Li->Int):Prop:=∀s,RchC t a s->¬ i6 t s->(0<=a s/\a s<lm t.operators)/\oCan t s (a s)
def RchC.set{t:b9}(a:j6 t){s:Li}(h:RchC t l s):SetN s t.facts:=by
 cases h with
 |init=>exact a.init
 |step _ _ b=>obtain⟨x,_,rfl⟩:=jx.1 b;exact am1 _ _ _
structure PolB(t:b9)(ch:Li->Int)(p:List f8):Prop where
 ord:Ord (p.map f8.state)
 mem:∀s,(∃c ∈ p,c.state=s)↔RchC t ch s/\¬ i6 t s
 op:∀c ∈ p,c.operator=ch c.state
def polB_eq{p:List f8}(h:∀c ∈ p,c.operator=l c.state):p=(p.map f8.state).map fun s=>(⟨s,l s⟩:f8):=by
 rw[List.map_map];have:p.map id=p.map ((fun s=>(⟨s,l s⟩:f8)) ∘ f8.state):=kU fun c a=>by
  have:=h c a;cases c with
  |mk s o=>dsimp only at this;simp only[id,Function.comp,this]
 rwa [List.map_id] at this
def PolB.unique{t:b9}{p q:List f8}(h:PolB t l p)(g:PolB t l q):p=q:=by
 have e:p.map f8.state=q.map f8.state:=by refine Ord.ext h.ord g.ord fun s=> ?_;have a:=h.mem s;have b:=g.mem s;simp only[jx];exact⟨fun⟨c,d,f⟩=>b.2 (a.1 ⟨c,d,f⟩),fun⟨c,d,f⟩=>a.2 (b.1 ⟨c,d,f⟩)⟩
 rw[polB_eq h.op,e,<- polB_eq g.op]
def PolB.rch{t:b9}{p:List f8}(h:PolB t l p){c:f8}(a:c ∈ p):RchC t l c.state/\¬ i6 t c.state:=(h.mem _).1 ⟨c,a,rfl⟩
def PolB.pol{t:b9}(b:j6 t)(hk:ChOk t l){p:List f8}(h:PolB t l p)(d:lm p<=200):ak9 t p:=
 ⟨d,h.ord,fun c a=>(h.rch a).1.set b,fun c a=>by rw[h.op c a];exact(hk _ (h.rch a).1 (h.rch a).2).1,fun c a=>by rw[h.op c a];exact(hk _ (h.rch a).1 (h.rch a).2).2⟩
def at1{p:List f8}(a:∀c ∈ p,c.operator=l c.state)(s:Li):(chO p s= -1/\∀c ∈ p,c.state ≠ s)\/((∃c ∈ p,c.state=s)/\chO p s=l s):=by
 obtain⟨r,d,e⟩:=au9 p s;have:chO p s=r:=by rw[chO,d];rfl
 rw[this];rcases e with⟨rfl,h⟩|⟨c,b,rfl,rfl⟩;exact .inl ⟨rfl,h⟩;exact .inr ⟨⟨c,b,rfl⟩,a c b⟩
def rch_of{t:b9}{p:List f8}(a:∀c ∈ p,c.operator=l c.state)(h:Rch t p b):RchC t l b:=by
 induction h with
 |init=>exact .init
 |@step b y _ f g d i=>
  refine .step i f ?_
  rcases at1 a b with⟨e,_⟩|⟨_,e⟩
  ·unfold T9 at g;omega
  ·unfold nxS at d;rw[e] at d;exact d
def PolB.live{t:b9}{p:List f8}(h:PolB t l p)(a:RchC t l b)(d:¬ i6 t b):chO p b=l b:=by rcases at1 h.op b with⟨_,e⟩|⟨_,e⟩;obtain⟨c,f,g⟩:=(h.mem b).2 ⟨a,d⟩;exact absurd g (e c f);exact e
def PolB.reach{t:b9}(hk:ChOk t l)(h:PolB t l c)(f:RchC t l b):Rch t c b:=by
 induction f with
 |init=>exact .init
 |@step b y d a g i=>
  have e:=h.live d a
  refine .step i a (by unfold T9;rw[e];exact(hk b d a).1.1) (by unfold nxS;rw[e];exact g)
/-! ### One choice put in its place -/
def mem_takeN{n:Nat}(h:t ∈ r.take n):∃k:Int,0<=k/\k<n/\ix r k=some t:=by obtain⟨k,hk⟩:=jC h;rw[kf] at hk;split at hk;exact⟨k,by omega,by omega,by rw[j7];exact hk⟩;cases hk
def mem_dropN{n:Nat}(h:t ∈ r.drop n):∃k:Int,(n:Int)<=k/\ix r k=some t:=by obtain⟨k,hk⟩:=jC h;rw[kX] at hk;exact⟨(n+k:Nat),by omega,by rw[j7];exact hk⟩
def ins_ord{p:List f8}{c:f8}(o:Ord (p.map f8.state))(v:0<=y)(f:∀k a,0<=k->k<y->ix p k=some a->llt a.state c.state)(g:∀k a,y<=k->ix p k=some a->¬ llt a.state c.state)(j:∀a ∈ p,a.state ≠ c.state):
  Ord ((p.take y.toNat++c::p.drop y.toNat).map f8.state):=by
 have a1:∀a ∈ p.take y.toNat,llt a.state c.state:=fun a e=>by obtain⟨k,r,s,hk⟩:=mem_takeN e;exact f k a r (by omega) hk
 have q:∀a ∈ p.drop y.toNat,llt c.state a.state:=fun a e=>by obtain⟨k,s,hk⟩:=mem_dropN e;rcases Q2 a.state c.state with h|h|h;exact absurd h (g k a (by omega) hk);exact absurd h (j a (j8 hk));exact h
 have s1:Ord ((p.take y.toNat).map f8.state):=by rw[List.map_take];exact kr.sublist (List.take_sublist _ _) o
 have t:Ord ((p.drop y.toNat).map f8.state):=by rw[List.map_drop];exact kr.sublist (List.drop_sublist _ _) o
 rw[kK,kT]
 refine List.pairwise_append.2 ⟨s1,List.pairwise_cons.2 ⟨fun x l=> ?_,t⟩,fun x l d n=> ?_⟩
 ·obtain⟨a,e,rfl⟩:=jx.1 l
  exact q a e
 ·obtain⟨a,e,rfl⟩:=jx.1 l
  rcases kd.1 n with rfl|n
  ·exact a1 a e
  ·obtain⟨b,u,rfl⟩:=jx.1 n
   exact I1 (a1 a e) (q b u)
def ins_mem{c x:A}{n:Nat}:x ∈ r.take n++c::r.drop n↔x=c\/x ∈ r:=by
 have:x ∈ r↔x ∈ r.take n\/x ∈ r.drop n:=by rw[<- jT,kO]
 rw[this];simp only[jT,kd];constructor;rintro (h|h|h);exact .inr (.inl h);exact .inl h;exact .inr (.inr h);rintro (h|h|h);exact .inr (.inl h);exact .inl h;exact .inr (.inr h)
def ins_len{c:A}{n:Nat}(h:n<=lm r):(r.take n++c::r.drop n).length=lm r+1:=by simp;omega
structure PolP(t:b9)(ch:Li->Int)(p:List f8):Prop where
 pol:ak9 t p
 of:∀c ∈ p,(RchC t ch c.state/\¬ i6 t c.state)/\c.operator=ch c.state
def PolP.op{t:b9}{p:List f8}(h:PolP t l p):∀c ∈ p,c.operator=l c.state:=fun c a=>(h.of c a).2
def PolP.ins{t:b9}(r:j6 t)(hk:ChOk t l){p:List f8}(h:PolP t l p)(d:RchC t l b)(e:¬ i6 t b)(u:0<=x)(o:x<=lm p)(f:∀k a,0<=k->k<x->ix p k=some a->llt a.state b)(g:∀k a,x<=k->ix p k=some a->¬ llt a.state b)(j:∀a ∈ p,a.state ≠ b)(w:lm p<200):
  PolP t l (p.take x.toNat++⟨b,l b⟩::p.drop x.toNat):=by
 have key:∀{q:f8->Prop},q ⟨b,l b⟩->(∀c ∈ p,q c)->∀c ∈ p.take x.toNat++⟨b,l b⟩::p.drop x.toNat,q c:=fun o v c n=>by rcases ins_mem.1 n with rfl|n;exact o;exact v c n
 exact⟨⟨by rw[ins_len (by omega)];omega,ins_ord h.pol.ord u f g j,key (d.set r) h.pol.set,key (hk b d e).1 h.pol.op,key (hk b d e).2 h.pol.can⟩,key ⟨⟨d,e⟩,rfl⟩ h.of⟩
def aF3(h:Ord (c.map f8.state))(d:∀a ∈ c,a.state ≠ b):(b::c.map f8.state).Nodup:=
 km.2 ⟨fun f=>by obtain⟨a,g,e⟩:=jx.1 f;exact d a g e,h.nodup⟩
structure BI(t:b9)(ch:Li->Int)(q:LL)(p:List f8)(a:Int):Prop where
 a0:0<=a
 a1:a<=lm q
 pp:PolP t ch p
 qr:∀s ∈ q,RchC t ch s
 qi:t.init ∈ q
 px:∀c ∈ p,∀y ∈ nxC t ch c.state,y ∈ q
 dn:∀k s,k<a->ix q k=some s->i6 t s\/∃c ∈ p,c.state=s
 ql:lm q<=1+4 * (lm p)
def build_prog{t:b9}(E:j6 t)(hk:ChOk t l){choose:Li->Option Int}(K:∀s,RchC t l s->¬ i6 t s->choose s=some (l s)):
  ∃r,Y1 t choose=some r/\((r=([],false)/\∃b:LL,b.Nodup/\(∀s ∈ b,RchC t l s/\¬ i6 t s)/\(lm b)=201)\/∃p,r=(p,true)/\PolB t l p/\(lm p)<=200):=by
 have hn:=E.n1
 obtain⟨o,o1,o2⟩:=x9 (body:=af1 t choose) (fun x=>BI t l x.1 x.2.1 x.2.2) (fun o=>(o=.inr ([],false)/\∃b:LL,b.Nodup/\(∀s ∈ b,RchC t l s/\¬ i6 t s)/\(lm b)=201)\/∃p,o=.inl p/\PolB t l p/\(lm p)<=200) (fun x=>(1000 - x.2.2).toNat)
  (s:=([t.init],[],0)) ⟨by dsimp only;omega,by simp,⟨⟨by simp,.nil,by simp,by simp,by simp⟩,by simp⟩,fun s j=>by rw[jB.1 j];exact .init,by simp,by simp,fun k s hk j=>by have:=(m8 j).1;dsimp only at hk;omega,by simp⟩ (fun⟨q,p,a⟩ h=>by
   have a0:0<=a:=h.a0;have a1:a<=lm q:=h.a1;have ql:lm q<=1+4 * (lm p):=h.ql;have pp:PolP t l p:=h.pp;have qr:∀s ∈ q,RchC t l s:=h.qr;have qi:t.init ∈ q:=h.qi;have px:∀c ∈ p,∀y ∈ nxC t l c.state,y ∈ q:=h.px;have dn:∀k s,k<a->ix q k=some s->i6 t s\/∃c ∈ p,c.state=s:=h.dn;have pl:lm p<=200:=pp.pol.len;clear h;dsimp only;unfold af1;dsimp only;by_cases c:a<lm q;rw[if_pos c];obtain⟨s,j,_⟩:=j9 (l:=q) a0 c;have A:=qr s (j8 j);have u:=A.set E;have aa:=u.len;rw[j];simp only[oB,X0 u.1 E.goal.1 (show (lm s)<=1000000 by omega),(aA8 pp.pol s).1];have key:(if dec (∀x ∈ t.goal,x ∈ s)=true then some true else some (decide (0<=chO p s)))=some (dec (i6 t s\/0<=chO p s)):=by by_cases f:i6 t s;rw[ifP (p:=∀x ∈ t.goal,x ∈ s) f,l8 (.inl f)];rw[ifN (p:=∀x ∈ t.goal,x ∈ s) f,G3];congr 1;exact r9 ⟨.inr,fun h=>h.resolve_left f⟩
   rw[key];simp only[oB];have N:w64 (a+1)=a+1:=k9 (by omega) (by omega);by_cases F:i6 t s\/0<=chO p s;rw[ifP F];unfold O5;dsimp only;refine .inl ⟨(q,p,a+1),by rw[N],⟨by dsimp only;omega,by dsimp only;omega,pp,qr,qi,px,fun(k:Int) z B d=> ?_,ql⟩,by dsimp only;omega⟩;dsimp only at B d;by_cases e:k=a;subst e;rw[j] at d;cases d;refine F.imp id fun n=> ?_;rcases at1 pp.op s with⟨e,_⟩|⟨e,_⟩;omega;exact e;exact dn k z (by omega) d;rw[ifN F];have f:¬ i6 t s:=fun g=>F (.inl g);have G:∀c ∈ p,c.state ≠ s:=by rcases at1 pp.op s with⟨_,e⟩|⟨_,e⟩;exact e;exact absurd (.inr (by rw[e];exact(hk s A f).1.1)) F
   by_cases cl:(lm p:Int)=200;rw[if_pos cl];refine .inr ⟨_,rfl,.inl ⟨rfl,s::p.map f8.state,aF3 pp.pol.ord G,fun z d=> ?_,by simp;omega⟩⟩;rcases kd.1 d with rfl|d;exact⟨A,f⟩;obtain⟨c,n,rfl⟩:=jx.1 d;exact(pp.of c n).1;rw[if_neg cl,K s A f];simp only[oB];have O:=hk s A f;obtain⟨i,i1,P,_,Q,i3,i4⟩:=bsf_full (key:=f8.state) (xs:=p) (t:=s) (cmp:=L3) pp.pol.ord (by omega) (fun a=>by unfold L3;rw[au4];rfl);have hb:m6 p s L3=some (i,dec (∃a ∈ p,a.state=s)):=i1;rw[hb];simp only[oB,aB0 (show (lm s)<=1000000 by omega)];rw[insL,if_pos ⟨P,Q,by omega⟩];obtain⟨st,w,r1,_,r3,r4,_⟩:=J0 E O.1.1 O.1.2 u;simp only[oB,r1];rw[app,if_pos (by omega)];simp only[oB];unfold O5;dsimp only;have H:∀y,y ∈ st↔y ∈ nxC t l s:=fun y=>by rw[r3,nxC,jx]
   have L:=pp.ins E hk A f P Q i3 i4 G (by omega);refine .inl ⟨(q++st,p.take i.toNat++⟨s,l s⟩::p.drop i.toNat,a+1),by rw[N],⟨by dsimp only;omega,by simp;omega,L,fun z d=> ?_,kR _ qi,fun c n y J=> ?_,fun k z B d=> ?_,?_⟩,by dsimp only;omega⟩;rcases jT.1 d with d|d;exact qr z d;exact .step A f ((H z).1 d);rcases ins_mem.1 n with rfl|n;exact List.mem_append_right _ ((H y).2 J);exact kR _ (px c n y J);dsimp only at B d;obtain⟨z',v,_⟩:=j9 (l:=q) (i:=k) (m8 d).1 (by omega);have e:z'=z:=by obtain⟨U,_,V⟩:=m8 d;obtain⟨_,X,g2⟩:=m8 v;rw[jw (by omega),g2] at V;exact Option.some.inj V
   subst e;by_cases e:k=a;subst e;rw[j] at v;cases v;exact .inr ⟨⟨s,l s⟩,ins_mem.2 (.inl rfl),rfl⟩;refine(dn k _ (by omega) v).imp id fun⟨c,n,e⟩=>⟨c,ins_mem.2 (.inr n),e⟩;dsimp only;rw[jt,ins_len (by omega)];omega;rw[if_neg c];have all:∀s,RchC t l s->s ∈ q:=fun s j=>by
    induction j with
    |init=>exact qi
    |@step s y _ f J ih=>
     obtain⟨k,U,X,D⟩:=n9 ih
     rcases dn k s (by omega) D with g|⟨c,n,rfl⟩
     ·exact absurd g f
     ·exact px c n y J
   refine .inr ⟨_,rfl,.inr ⟨p,rfl,⟨pp.pol.ord,fun s=>⟨fun⟨c,n,e⟩=>e ▸ (pp.of c n).1,fun⟨j,f⟩=> ?_⟩,pp.op⟩,pl⟩⟩;obtain⟨k,U,X,D⟩:=n9 (all s j);exact(dn k s (by omega) D).resolve_left f)
 unfold Y1
 rw[o1]
 rcases o2 with⟨rfl,h⟩|⟨p,rfl,h⟩
 ·exact⟨_,rfl,.inl ⟨rfl,h⟩⟩
 ·exact⟨_,rfl,.inr ⟨p,rfl,h⟩⟩
def ab2{t:b9}(s:Li):E4 t s=some (dec (i6 t s)):=by unfold E4 i6;rw[subset_eq];simp only[oB]
def build_ref{t:b9}(N:j6 t)(hk:ChOk t l){all:LL}{value:Li}{kind:Int}(D:∀s,RchC t l s->¬ i6 t s->s ∈ all)(av:lm all<=200)(hv:lm value=lm all)(ac:∀s,RchC t l s->¬ i6 t s->∀i v,ix all i=some s->ix value i=some v->(jD (if kind=1 then jD (X3 t all value s) fun ad=>some ad else some v) fun o=>if kind=2 then jD (X4 t all value s) fun al=>some al else some o)=some (l s)):
  ∃p,ap2 t all value kind=some p/\PolB t l p:=by
 have hn:=N.n1
 unfold ap2
 obtain⟨p,r,h2⟩:=x9 (body:=al1 t all value kind) (PolP t l) (PolB t l) (fun p=>201 - (lm p)) (s:=[]) ⟨⟨by simp,.nil,by simp,by simp,by simp⟩,by simp⟩ (fun p h=>by
  have pl:=h.pol.len;unfold al1;obtain⟨b,v1,g⟩:=rVisited_eq N h.pol;have ay:=g.len N h.pol;rw[v1];simp only[oB];obtain⟨f,f1,f2⟩:=m5 (body:=ak5 t p b) (n:=(lm b:Int)) (s:= -1) (fun j f=>(f= -1/\∀k s,k<j->ix b k=some s->i6 t s\/0<=chO p s)\/(0<=f/\∃s,ix b f=some s/\¬ i6 t s/\chO p s<0)) (by omega) (.inl ⟨rfl,fun k s hk u=>by have:=(m8 u).1;omega⟩) (fun j f j0 j1 hf=>by obtain⟨s,u,_⟩:=j9 (l:=b) j0 j1;unfold ak5;rw[u];simp only[oB,ab2,az3,x8];by_cases q:i6 t s;rw[ifNN q];simp only[oB,ka,if_false];refine⟨_,rfl,?_⟩;rcases hf with⟨e,r⟩|r;refine .inl ⟨e,fun k z hk w=> ?_⟩;by_cases e:k=j;subst e;rw[u] at w;cases w;exact .inl q;exact r k z (by omega) w;exact .inr r;rw[ifP q];simp only[oB];by_cases d:chO p s<0;rw[if_pos (decide_eq_true d)];exact⟨_,rfl,.inr ⟨j0,s,u,q,d⟩⟩;rw[if_neg (by simpa using d)];refine⟨_,rfl,?_⟩;rcases hf with⟨e,r⟩|r;refine .inl ⟨e,fun k z hk w=> ?_⟩;by_cases e:k=j;subst e;rw[u] at w;cases w;exact .inr (by omega);exact r k z (by omega) w;exact .inr r);rw[f1];simp only[oB];rcases f2 with⟨rfl,f2⟩|⟨f0,s,u,q,d⟩;rw[if_pos (by decide)];refine .inr ⟨p,rfl,⟨h.pol.ord,fun s=>⟨fun⟨c,d,e⟩=>e ▸ (h.of c d).1,fun⟨u,q⟩=> ?_⟩,h.op⟩⟩;have F:∀s,RchC t l s->Rch t p s:=fun s u=>by
   induction u with
   |init=>exact .init
   |@step s y K q hy ih=>
    obtain⟨k,L,G,H⟩:=n9 ((g.mem s).2 ih)
    have A:=(f2 k s G H).resolve_left q
    refine .step ih q A ?_
    rcases at1 h.op s with⟨e,_⟩|⟨_,e⟩
    ·omega
    ·unfold nxS;rw[e];exact hy
  obtain⟨k,L,G,H⟩:=n9 ((g.mem s).2 (F s u));have A:=(f2 k s G H).resolve_left q;rcases at1 h.op s with⟨e,_⟩|⟨e,_⟩;omega;exact e;rw[if_neg (by omega),u];have K:RchC t l s:=rch_of h.op ((g.mem s).1 (j8 u));have O:=K.set N;have a0:=O.len;have P:∀c ∈ p,c.state ≠ s:=by rcases at1 h.op s with⟨_,e⟩|⟨_,e⟩;exact e;have:=(hk s K q).1.1;omega
  obtain⟨Q,e1,e2⟩:=aw1 all s;have U:=D s K q;rcases e2 with⟨_,e2⟩|⟨e0,e3,e4,_⟩;exact absurd U e2;obtain⟨v,V,_⟩:=j9 (l:=value) (i:=Q) e0 (by omega);have J:=ac s K q Q v e4 V;simp only[oB,e1,V];rw[<- Option.bind_assoc,J];simp only[oB];obtain⟨⟨n,k⟩,g1,g2,g3,g4,g5,g6⟩:=x9 (body:=ak1 p s) (fun x=>0<=x.2/\x.2<=lm p/\x.1=p.take x.2.toNat/\∀j a,0<=j->j<x.2->ix p j=some a->llt a.state s) (fun x=>0<=x.2/\x.2<=lm p/\x.1=p.take x.2.toNat/\(∀j a,0<=j->j<x.2->ix p j=some a->llt a.state s)/\∀j a,x.2<=j->ix p j=some a->¬ llt a.state s) (fun x=>(lm p - x.2).toNat) (s:=([],0)) ⟨by dsimp only;omega,by simp,by simp,fun j a M r=>by dsimp only at r;omega⟩ (fun⟨n,k⟩ ⟨L,G,X,k3⟩=>by dsimp only at L G X k3 ⊢;unfold ak1;dsimp only;by_cases ck:k<lm p;rw[if_pos ck];obtain⟨c,d,an⟩:=j9 (l:=p) L ck;have a1:=(h.pol.set c (j8 d)).len;simp only[d,oB];rw[before_eq (by omega)];simp only[oB];by_cases cb:llt c.state s;rw[ifP cb,app,if_pos (by rw[X];simp;omega)];simp only[oB];rw[k9 (by omega) (by omega)];refine .inl ⟨_,rfl,⟨by dsimp only;omega,by dsimp only;omega,?_,fun j a M r B=> ?_⟩,by dsimp only;omega⟩;dsimp only;rw[X,show(k+1).toNat=k.toNat+1 by omega,kB,an];rfl;dsimp only at r;by_cases e:j=k;subst e;rw[d] at B;cases B;exact cb;exact k3 j a M (by omega) B;rw[ifN cb];refine .inr ⟨_,rfl,L,G,X,k3,fun j a M B aa=> ?_⟩;dsimp only at M;by_cases e:j=k;subst e;rw[d] at B;cases B;exact cb aa;exact cb (I1 (au2 h.pol.ord d B (by omega)) aa);rw[if_neg ck];simp only[oB,ka,if_false];exact .inr ⟨_,rfl,L,G,X,k3,fun j a M B=>by have:=(m8 B).2.1;dsimp only at M;omega⟩);dsimp only at g2 g3 g4 g5 g6;rw[g1];simp only[oB];have ao:=V1 (S:=all) (aF3 h.pol.ord P) (fun z w=>by rcases kd.1 w with rfl|w;exact U;obtain⟨c,d,rfl⟩:=jx.1 w;exact D _ (h.of c d).1.1 (h.of c d).1.2);simp only[jS,kJ] at ao;have nl:lm n<=lm p:=by rw[g4,jR];exact Nat.min_le_right _ _
  rw[app,if_pos (by simp;omega)];simp only[oB];rw[subL_drop g2 g3];simp only[oB];rw[app,if_pos (by simp;omega)];simp only[oB];have e:n++[(⟨s,l s⟩:f8)]++p.drop k.toNat=p.take k.toNat++⟨s,l s⟩::p.drop k.toNat:=by rw[g4];simp
  rw[e];refine .inl ⟨_,rfl,h.ins N hk K q g2 g3 g5 g6 P (by omega),?_⟩;rw[ins_len (by omega)];omega)
 rw[r]
 exact⟨p,rfl,h2⟩
def smN_upd{f g:Nat->Int}{n:Nat}(b:k<n)(h:∀a,a<n->a ≠ k->g a=f a):smN n g=smN n f+(g k - f k):=by
 have:smN n g=smN n fun a=>f a+if a=k then g k - f k else 0:=m7 fun a hk=>by by_cases e:a=k;subst e;rw[if_pos rfl];omega;rw[if_neg e,h a hk e];omega
 rw[this,O4,R3 (f:=fun a=>if a=k then g k - f k else 0) b fun a _ hk=>if_neg hk,if_pos rfl]
def wtj(w:Li)(j:Nat):Int:=(w[j]?).getD 0
def Q6{w:Li}{i:Nat}(h:i<lm w):ix w (i:Int)=some (wtj w i):=by
 rw[j7,jo h];unfold wtj;rw[jo h];rfl
def ar4{w:Li}{i:Nat}(h:i<lm w)(v:Int)(k:Nat):wtj (w.set i v) k=if k=i then v else wtj w k:=by unfold wtj;rw[jV];by_cases e:k=i;subst e;rw[if_pos rfl,if_pos h,if_pos rfl];rfl;rw[if_neg (fun q=>e q.symm),if_neg e]
structure Wok(t:b9)(s:Li)(op:Int)(st:LL)(w:Li):Prop where
 eq:A8 t s op=some (st,w)
 ord:Ord st
 mem:∀y,y ∈ st↔∃x ∈ (ooAt t op).outcomes,efc t.facts s x=y
 s4:lm st<=4
 len:lm w=lm st
 pos:∀k,k<lm st->1<=wtj w k
 sum:smN (lm st) (wtj w)<=24
def results_ok{t:b9}(y:j6 t){op:Int}(z:0<=op)(A:op<lm t.operators)(K:SetN b t.facts):∃st w,Wok t b op st w:=by
 have B:=y.at z A;have hl:=B.l1;obtain⟨st,w,L,D,r,M,N,O⟩:=J0 y z A K;obtain⟨w',u,k2,k3,k4,P⟩:=m5 (body:=G8 ((ooAt t op).outcomes.map (efc t.facts b)) st (ooAt t op)) (n:=((ooAt t op).outcomes.length:Int)) (s:=ju (lm st) 0)
  (fun j c=>lm c=lm st/\(∀k,0<=wtj c k)/\smN (lm st) (wtj c)<=6 * j/\∀(i:Int) x,0<=i->i<j->ix (ooAt t op).outcomes i=some x->∀k:Nat,st[k]? =some (efc t.facts b x)->1<=wtj c k) (by omega)
  ⟨by simp,fun k=>by unfold wtj;rw[jX];split<;>simp,by
   rw[am3 fun k _=>by unfold wtj;rw[jX];split<;>rfl];omega,fun i x q F=>by omega⟩ (fun j c Q U ⟨V,h,p3,X⟩=>by
   obtain⟨x,d,gx⟩:=j9 (l:=(ooAt t op).outcomes) Q U;have o:efc t.facts b x ∈ st:=(r _).2 ⟨x,j8 d,rfl⟩;obtain⟨i,s,e2,G⟩:=aw8 (t:=efc t.facts b x) D (by omega);obtain⟨k,k0,u,hk⟩:=n9 o;have:=G k hk;subst this;obtain⟨m,rfl⟩:=jp k0;have H:m<lm st:=by omega
   have hz:=Q6 (w:=c) (i:=m) (by omega);have hw:=(B.xs x (j8 d)).2;unfold xWt at hw;have aa:wtj c m<=smN (lm st) (wtj c):=by have:=ab0 (f:=wtj c) h (kq m) H;simpa[smN] using this
   have v:w64 (wtj c m+x.weight)=wtj c m+x.weight:=k9 (by have:=h m;omega) (by omega);unfold G8;rw[d,ix_map,d];simp only[oB,kL,s,hz,v,js];have a:=ar4 (w:=c) (i:=m) (by omega) (wtj c m+x.weight);refine⟨_,rfl,by rw[lS];exact V,fun k=> ?_,?_,fun J x' q ac g k p=> ?_⟩;rw[a];have:=h k;have:=h m;split<;>omega;rw[smN_upd H (f:=wtj c) (fun k _ hk=>by rw[a,if_neg hk]),a,if_pos rfl];omega;rw[a];by_cases e:k=m;subst e;rw[if_pos rfl];have:=h k;omega;rw[if_neg e];by_cases f:J=j;subst f;rw[d] at g;cases g;have h5:ix st (k:Int)=some (efc t.facts b x):=by rw[j7];exact p
   have:=G _ h5;omega;exact X J x' q (by omega) g k p)
 rw[O] at u;cases u;refine⟨st,w,L,D,r,M,N,fun k hk=> ?_,by omega⟩;obtain⟨x,d,e⟩:=(r st[k]).1 (jv hk);obtain⟨i,q,i1,F⟩:=n9 d;exact P i x q i1 F k (by rw[jo hk,e])
def twF(st:LL)(w:Li)(J:Nat)(y:Li):Int:=smN J fun j=>if st[j]? =some y then wtj w j else 0
structure Sys(t:b9)(S:LL)(op:Nat->Int)(st:Nat->LL)(w:Nat->Li):Prop where
 ord:Ord S
 n5:lm S<=5
 set:∀s ∈ S,SetN s t.facts
 ng:∀s ∈ S,¬ i6 t s
 rng:∀i,i<lm S->0<=op i/\op i<lm t.operators
 res:∀i s,S[i]? =some s->Wok t s (op i) (st i) (w i)
 cl:∀i,i<lm S->∀y ∈ st i,i6 t y\/y ∈ S
def WF(st:Nat->LL)(w:Nat->Li)(i:Nat):Int:=smN (st i).length (wtj (w i))
def wF(S:LL)(st:Nat->LL)(w:Nat->Li):Mtx:=fun i k=>match S[k]? with|some y=>twF (st i) (w i) (st i).length y|none=>0
def cF(t:b9)(op:Nat->Int)(i:Nat):Int:=(ooAt t (op i)).cost
def ag0{t:b9}{S:LL}{op:Nat->Int}{st:Nat->LL}{w:Nat->Li}(h:Sys t S op st w)(b:n<lm S)(j:Nat):0<=wtj (w n) j:=by have a:=h.res n S[n] (jo b);by_cases e:j<(st n).length;have:=a.pos j e;omega;unfold wtj;rw[ku (by rw[a.len];omega)];simp
def twF_nn{t:b9}{S:LL}{op:Nat->Int}{st:Nat->LL}{w:Nat->Li}(h:Sys t S op st w)(a:n<lm S)(J:Nat)(y:Li):0<=twF (st n) (w n) J y:=M8 fun j _=>by split;exact ag0 h a j;exact jA _
def twF_le{t:b9}{S:LL}{op:Nat->Int}{st:Nat->LL}{w:Nat->Li}(h:Sys t S op st w)(a:n<lm S){J:Nat}(b:J<=(st n).length)(y:Li):twF (st n) (w n) J y<=24:=by
 have c:twF (st n) (w n) J y<=smN J (wtj (w n)):=N8 fun j _=>by split;exact jA _;exact ag0 h a j
 have d:=L4 (f:=wtj (w n)) (ag0 h a) b;have e:=(h.res n S[n] (jo a)).sum;omega
def rowV(S:LL)(st:LL)(w:Li)(c:Int)(i J k:Nat):Int:=
 if k=lm S then smN J (wtj w) * c else(if k=i then smN J (wtj w) else 0) - match S[k]? with|some y=>twF st w J y|none=>0
def eq_row{t:b9}{S:LL}{op:Nat->Int}{st:Nat->LL}{w:Nat->Li}(X:j6 t)(h:Sys t S op st w)(d:k<lm S):
  ∃c:Li,forR 0 ((st k).length:Int) (U0 t S k (op k) (st k,w k)) (ju (lm S+1) 0)=some c/\(lm c)=lm S+1/\∀a,a<=lm S->wtj c a=rowV S (st k) (w k) (cF t op k) k (st k).length a:=by
 have E:=h.res k S[k] (jo d)
 have o:=h.rng k d
 have F:=(X.at o.1 o.2)
 have G:=F.c0;have i:=F.c1
 have an:=h.n5
 have ao:=E.s4
 have ad:=E.sum
 obtain⟨c,k1,k2,k3⟩:=m5 (body:=U0 t S k (op k) (st k,w k)) (n:=((st k).length:Int)) (s:=ju (lm S+1) 0)
  (fun q c=>lm c=lm S+1/\∀a,a<=lm S->wtj c a=rowV S (st k) (w k) (cF t op k) k q.toNat a) (by omega)
  ⟨by simp,fun a hk=>by
   unfold rowV wtj;rw[jX];simp only[kP,smN,twF,kY,ite_self];split<;>split<;>(try split)<;>simp⟩ (fun q c q0 q1 ⟨p1,B⟩=>by
   obtain⟨J,rfl⟩:=jp q0;have D:J<(st k).length:=by omega
   rw[js] at B;have hx:ix (st k) (J:Int)=some (st k)[J]:=by rw[j7];exact jo D
   have hw:=Q6 (w:=w k) (i:=J) (by rw[E.len];exact D);have av:=E.pos J D;have ci:=Q6 (w:=c) (i:=k) (by omega);have H:smN (J+1) (wtj (w k))=smN J (wtj (w k))+wtj (w k) J:=rfl;have b0:0<=smN J (wtj (w k)):=M8 fun j _=>ag0 h d j;have b1:=L4 (f:=wtj (w k)) (ag0 h d) (show J+1<=(st k).length by omega);have sc:∀x:Int,0<=x->x<=24->0<=x * (ooAt t (op k)).cost/\x * (ooAt t (op k)).cost<=2400:=fun x h0 h1=>⟨jE h0 G,by have:=jN h1 i G (by omega:(0:Int)<=24);omega⟩;have vi:=B k (by omega);unfold rowV at vi;rw[if_neg (by omega),if_pos rfl,jo d] at vi;dsimp only at vi;have t1:=twF_nn h d J S[k];have t2:=twF_le h d (J:=J) (by omega) S[k];have f1:w64 (wtj c k+wtj (w k) J)=wtj c k+wtj (w k) J:=k9 (by omega) (by omega);have s1:=ar4 (w:=c) (i:=k) (by omega) (wtj c k+wtj (w k) J);have cn:=Q6 (w:=c.set k (wtj c k+wtj (w k) J)) (i:=lm S) (by rw[lS];omega);rw[s1,if_neg (by omega)] at cn;have vn:=B (lm S) (jz _);unfold rowV at vn;rw[if_pos rfl] at vn;have m1:=sc (wtj (w k) J) (by omega) (by omega);have m2:=sc (smN J (wtj (w k))) b0 (by omega);have K:wtj c (lm S)=smN J (wtj (w k)) * (ooAt t (op k)).cost:=vn;have f2:w64 (wtj (w k) J * (ooAt t (op k)).cost)=wtj (w k) J * (ooAt t (op k)).cost:=k9 (by omega) (by omega);have f3:w64 (wtj c (lm S)+wtj (w k) J * (ooAt t (op k)).cost)=wtj c (lm S)+wtj (w k) J * (ooAt t (op k)).cost:=k9 (by omega) (by omega);generalize r:c.set k (wtj c k+wtj (w k) J)=c1 at *;have l1:lm c1=lm S+1:=by rw[<- r,lS];exact p1
   have P:=ar4 (w:=c1) (i:=lm S) (by omega) (wtj c (lm S)+wtj (w k) J * (ooAt t (op k)).cost);generalize u:c1.set (lm S) (wtj c (lm S)+wtj (w k) J * (ooAt t (op k)).cost)=z at *;have l2:lm z=lm S+1:=by rw[<- u,lS];exact l1
   have v:SetN (st k)[J] t.facts:=by obtain⟨x,_,e⟩:=(E.mem (st k)[J]).1 (jv D);rw[<- e];exact am1 _ _ _
   have L:u7 (st k)[J] t.goal=some (dec (i6 t (st k)[J])):=X0 v.1 X.goal.1 (by have:=v.len;have:=X.n1;omega);have M:∀y,twF (st k) (w k) (J+1) y=twF (st k) (w k) J y+if(st k)[J]? =some y then wtj (w k) J else 0:=fun y=>rfl;have N:(st k)[J]? =some (st k)[J]:=jo D;unfold U0;simp only[hx,hw,ci,oB,f1,ix_oo o.1 o.2,f2,f3,js,r,cn,L,u];by_cases Q:i6 t (st k)[J];rw[l8 Q];simp only[kS,ka,if_false,oB];refine⟨_,rfl,l2,fun a hk=> ?_⟩;rw[show((J:Int)+1).toNat=J+1 by omega,P];unfold rowV;by_cases e:a=lm S;subst e;rw[if_pos rfl,if_pos rfl,H,K,li];rfl;rw[if_neg e,if_neg e,s1];have b:a<lm S:=by omega
   rw[jo b];dsimp only;have A:¬ (st k)[J]? =some S[a]:=fun q=>by rw[N] at q;have:=Option.some.inj q;exact h.ng S[a] (jv b) (this ▸ Q)
   rw[M,if_neg A];have l:=B a hk;unfold rowV at l;rw[if_neg e,jo b] at l;dsimp only at l;by_cases f:a=k;subst f;rw[if_pos rfl,if_pos rfl,H];omega;rw[if_neg f,if_neg f];rw[if_neg f] at l;omega;rw[o8 Q];have hm:(st k)[J] ∈ S:=(h.cl k d _ (jv D)).resolve_left Q;obtain⟨p,p0,p3,U⟩:=n9 hm;obtain⟨m,rfl⟩:=jp p0;have O:m<lm S:=by omega
   have aa:S[m]=(st k)[J]:=by rw[j7,jo O] at U;exact Option.some.inj U
   have cm:=Q6 (w:=z) (i:=m) (by omega);have V:=B m (by omega);unfold rowV at V;rw[if_neg (by omega),jo O] at V;dsimp only at V;have t3:=twF_nn h d J S[m];have t4:=twF_le h d (J:=J) (by omega) S[m];have v2:wtj z m=(if m=k then wtj c k+wtj (w k) J else wtj c m):=by rw[P,if_neg (by omega),s1]
   have f4:w64 (wtj z m - wtj (w k) J)=wtj z m - wtj (w k) J:=by rw[v2];split;exact k9 (by omega) (by omega);rename_i q;rw[if_neg q] at V;exact k9 (by omega) (by omega)
   simp only[Bool.not_false,if_true,ad3 h.ord (by omega) U,cm,oB,f4,js];have s3:=ar4 (w:=z) (i:=m) (by omega) (wtj z m - wtj (w k) J);refine⟨_,rfl,by rw[lS];exact l2,fun a hk=> ?_⟩;rw[show((J:Int)+1).toNat=J+1 by omega,s3];unfold rowV;by_cases e:a=lm S;subst e;rw[if_neg (by omega),if_pos rfl,P,if_pos rfl,H,K,li];rfl;have b:a<lm S:=by omega
   rw[if_neg e,jo b];dsimp only;rw[M,N];have l:=B a hk;unfold rowV at l;rw[if_neg e,jo b] at l;dsimp only at l;by_cases g:a=m;subst g;have hq:some (st k)[J]=some S[a]:=by rw[aa]
   rw[if_pos rfl,if_pos hq,v2];by_cases f:a=k;subst f;rw[if_pos rfl,if_pos rfl,H];omega;rw[if_neg f,if_neg f];rw[if_neg f] at l;omega;have A:¬ some (st k)[J]=some S[a]:=fun q=>by
    have q1:=Option.some.inj q;have ac:ix S (a:Int)=some (st k)[J]:=by rw[j7,jo b,q1]
    have:=h.ord.inj U ac;omega
   rw[if_neg g,if_neg A,P,if_neg e,s1];by_cases f:a=k;subst f;rw[if_pos rfl,if_pos rfl,H];omega;rw[if_neg f,if_neg f];rw[if_neg f] at l;omega)
 refine⟨c,k1,k2,fun a hk=> ?_⟩
 rw[k3 a hk,js]
def wG(S:LL)(st:Nat->LL)(w:Nat->Li):Mtx:=fun i k=>if i<lm S then wF S st w i k else 0
abbrev eqN(t:b9)(S:LL)(op:Nat->Int)(st:Nat->LL)(w:Nat->Li):Mtx:=eqM (lm S) (WF st w) (wG S st w) fun i=>WF st w i * cF t op i
def rowV_eq{t:b9}{S:LL}{op:Nat->Int}{st:Nat->LL}{w:Nat->Li}(b:n<lm S)(hk:k<=lm S):rowV S (st n) (w n) (cF t op n) n (st n).length k=eqN t S op st w n k:=by
 unfold rowV eqN eqM;by_cases e:k=lm S;rw[if_pos e,if_pos e];rfl;have a:k<lm S:=by omega
 rw[if_neg e,if_neg e];unfold wG wF;rw[if_pos b,jo a];dsimp only;by_cases f:k=n;rw[if_pos f,if_pos f.symm];rfl;rw[if_neg f,if_neg (fun q=>f q.symm)]
def eqs_ok{t:b9}{S:LL}{op:Nat->Int}{st:Nat->LL}{w:Nat->Li}(v:j6 t)(h:Sys t S op st w){choose:Li->Option Int}(d:∀i s,S[i]? =some s->choose s=some (op i)):
  ∃L,forR 0 (lm S:Int) (H0 t S choose) []=some L/\Shp (lm S) L/\∀i k,i<lm S->k<=lm S->mE L i k=eqN t S op st w i k:=by
 have x:=h.n5
 obtain⟨L,y,M,p⟩:=m5 (body:=H0 t S choose) (n:=(lm S:Int)) (s:=[])
  (fun q c=>(lm c:Int)=q/\∀i:Nat,(i:Int)<q->∃row,c[i]? =some row/\(lm row)=lm S+1/\∀k,k<=lm S->wtj row k=eqN t S op st w i k) (by omega) ⟨rfl,fun i a=>by omega⟩ (fun q c z N ⟨O,A⟩=>by
   obtain⟨i,rfl⟩:=jp z;have a:i<lm S:=by omega
   have f:S[i]? =some S[i]:=jo a;obtain⟨row,B,D,E⟩:=eq_row v h a;have F:w64 ((lm S:Int)+1)=((lm S+1:Nat):Int):=by rw[k9 (by omega) (by omega)];omega
   have g:mkL 8 ((lm S+1:Nat):Int) (0:Int)=some (ju (lm S+1) 0):=by unfold mkL;rw[if_pos (by omega),js]
   have G:app 24 c [row]=some (c++[row]):=by unfold app;rw[if_pos (by simp;omega)]
   unfold H0;simp only[show ix S (i:Int)=some S[i] by rw[j7,f],jr,F,g,d i _ f,(h.res i _ f).eq,B,G];refine⟨_,rfl,by rw[jt,jy];omega,fun j H=> ?_⟩;by_cases e:j=i;subst e;refine⟨row,?_,D,fun k hk=>by rw[E k hk,rowV_eq a hk]⟩;have:j=lm c:=by omega
   rw[this];simp;obtain⟨J,a1,l,o⟩:=A j (by omega);exact⟨J,by rw[jw (by omega),a1],l,o⟩)
 have b:lm L=lm S:=by omega
 refine⟨L,y,⟨b,fun r K=> ?_⟩,fun i k a hk=> ?_⟩
 ·obtain⟨i,a,rfl⟩:=jH K
  obtain⟨row,a1,l,_⟩:=p i (by omega)
  rw[jo a] at a1
  cases a1;exact l
 ·obtain⟨row,a1,_,o⟩:=p i (by omega)
  have:mE L i k=wtj row k:=by unfold mE wtj;rw[a1];rfl
  rw[this,o k hk]
def lead_sum{t:b9}{S:LL}{op:Nat->Int}{st:Nat->LL}{w:Nat->Li}(h:Sys t S op st w)(d:n<lm S):smN (lm S) (wG S st w n)=smN (st n).length fun j=>if dec (∃y ∈ S,(st n)[j]? =some y)=true then wtj (w n) j else 0:=by
 have f:smN (lm S) (wG S st w n)=smN (lm S) fun k=>smN (st n).length fun j=>if(st n)[j]? =S[k]? then wtj (w n) j else 0:=m7 fun k hk=>by unfold wG wF;rw[if_pos d,jo hk];rfl
 rw[f,smN_comm];refine m7 fun j g=> ?_;have l:(st n)[j]? =some (st n)[j]:=jo g;by_cases e:∃y ∈ S,(st n)[j]? =some y;rw[if_pos (l8 e)];obtain⟨y,o,e⟩:=e;obtain⟨k,hk,rfl⟩:=jH o;rw[R3 (a:=k) hk fun p c r=> ?_,if_pos (by rw[e,jo hk])];rw[if_neg];intro q;rw[e,jo c] at q;have q:=Option.some.inj q;have a:ix S (k:Int)=some S[k]:=by rw[j7,jo hk]
 have b:ix S (p:Int)=some S[k]:=by rw[j7,jo c,q]
 have:=h.ord.inj a b;omega;rw[if_neg (by rw[o8 e];simp)];refine am3 fun k hk=> ?_;rw[if_neg];intro q;rw[jo hk] at q;exact e ⟨_,jv hk,q⟩
def as8{t:b9}{S:LL}{op:Nat->Int}{st:Nat->LL}{w:Nat->Li}(e:j6 t)(h:Sys t S op st w):Ms (lm S) (WF st w) (wG S st w):=by refine⟨fun i a=> ?_,fun i k=> ?_,fun i a=> ?_⟩;have c:=h.res i S[i] (jo a);have b:=h.rng i a;have l0:=(e.at b.1 b.2).l0;have g:efc t.facts S[i] ((ooAt t (op i)).outcomes[0]) ∈ st i:=(c.mem _).2 ⟨_,jv (by omega),rfl⟩;have d:=jY g;have n:=c.pos 0 d;have l:=ab0 (f:=wtj (w i)) (ag0 h a) (kq 0) d;simp only[smN] at l;unfold WF;omega;unfold wG;split;rename_i a;unfold wF;split;exact twF_nn h a _ _;exact jA _;exact jA _;rw[lead_sum h a];refine N8 fun j _=> ?_;split;exact jA _;exact ag0 h a j
def WF_le{t:b9}{S:LL}{op:Nat->Int}{st:Nat->LL}{w:Nat->Li}(h:Sys t S op st w){i:Nat}(a:i<lm S):WF st w i<=24:=(h.res i S[i] (jo a)).sum
def sys_exit{t:b9}{S:LL}{op:Nat->Int}{st:Nat->LL}{w:Nat->Li}(h:Sys t S op st w)(a:n<lm S)(l:b ∈ st n)(o:i6 t b):smN (lm S) (wG S st w n)<WF st w n:=by
 rw[lead_sum h a];have p:=h.res n S[n] (jo a);obtain⟨j,c,rfl⟩:=jH l;have d:smN (st n).length (fun q=>if dec (∃b ∈ S,(st n)[q]? =some b)=true then wtj (w n) q else 0)<=smN (st n).length fun q=>wtj (w n) q+if q=j then -(wtj (w n) j) else 0:=N8 fun q k=>by by_cases e:q=j;subst e;rw[if_pos rfl,if_neg];omega;rw[o8];simp;rintro ⟨b,g,e⟩;rw[jo c] at e;cases e;exact h.ng _ g o;rw[if_neg e];have:=ag0 h a q;split<;>omega
 rw[O4,R3 (f:=fun q=>if q=j then -(wtj (w n) j) else 0) c fun q _ k=>if_neg k,if_pos rfl] at d;have:=p.pos j c;show _<smN (st n).length (wtj (w n));omega
def sys_step{t:b9}{S:LL}{op:Nat->Int}{st:Nat->LL}{w:Nat->Li}(h:Sys t S op st w)(a:n<lm S)(hk:k<lm S)(d:S[k] ∈ st n):0<wG S st w n k:=by have g:=h.res n S[n] (jo a);unfold wG wF;rw[if_pos a,jo hk];dsimp only;obtain⟨j,b,e⟩:=jH d;have c:=ab0 (f:=fun q=>if(st n)[q]? =some S[k] then wtj (w n) q else 0) (fun q=>by split;exact ag0 h a q;exact jA _) (kq j) b;simp only[smN] at c;rw[if_pos (by rw[jo b,e])] at c;have:=g.pos j b;unfold twF;omega
inductive Wy(t:b9)(S:LL)(st:Nat->LL):Nat->Prop
 |exit {i:Nat} {y:Li} (h:i<lm S) (hy:y ∈ st i) (hg:i6 t y):Wy t S st i
 |step {i k:Nat} {y:Li} (h:i<lm S) (hk:S[k]? =some y) (hy:y ∈ st i) (hp:Wy t S st k):Wy t S st i
def Wy.px{t:b9}{S:LL}{op:Nat->Int}{st:Nat->LL}{w:Nat->Li}(h:Sys t S op st w)(d:Wy t S st n):Px (lm S) (WF st w) (wG S st w) n:=by
 induction d with
 |exit a c e=>exact .exit a (sys_exit h a c e)
 |@step n k y a hk c _ f=>
  obtain⟨b,rfl⟩:=lG.1 hk
  exact .step a b (sys_step h a b c) f
def sys_rb{t:b9}{S:LL}{op:Nat->Int}{st:Nat->LL}{w:Nat->Li}(g:j6 t)(h:Sys t S op st w):Rb (lm S) (eqN t S op st w) 48 2400:=by
 have d:=as8 g h;refine⟨by omega,by omega,fun i a=> ?_,fun i a=> ?_⟩;have j:smN (lm S) (fun k=>ab (eqN t S op st w i k))<=smN (lm S) fun k=>(if k=i then WF st w i else 0)+wG S st w i k:=N8 fun k hk=>by
  have r:=d.nn i k;have l:=d.pos i a;have e:eqN t S op st w i k=(if k=i then WF st w i else 0) - wG S st w i k:=by unfold eqN eqM;rw[if_neg (by omega)];by_cases f:k=i;rw[if_pos f,if_pos f.symm];rw[if_neg f,if_neg (fun q=>f q.symm)]
  rw[e];unfold ab;split<;>split<;>omega
 rw[O4,R3 (f:=fun k=>if k=i then WF st w i else 0) a fun k _ hk=>if_neg hk,if_pos rfl] at j;have:=d.le i a;have:=WF_le h a;omega;have e:eqN t S op st w i (lm S)=WF st w i * cF t op i:=by unfold eqN eqM;rw[if_pos rfl]
 rw[e];have c:=h.rng i a;have b:=g.at c.1 c.2;have l:=d.pos i a;have n:=WF_le h a;have o:0<=WF st w i * cF t op i:=jE (by omega) b.c0;have p:=jN n b.c1 b.c0 (by omega:(0:Int)<=24);unfold ab;rw[if_pos o];exact p
def Rb.congr{n:Nat}{A B:Mtx}{R C:Int}(h:Rb n A R C)(e:∀i k,i<n->k<=n->B i k=A i k):Rb n B R C:=
 ⟨h.R0,h.B0,fun i a=>by rw[m7 (g:=fun k=>ab (A i k)) fun k hk=>by rw[e i k a (by omega)]];exact h.row i a,fun i a=>by rw[e i n a (jz n)];exact h.rhs i a⟩
def GJ.congr{n c:Nat}{A B a:Mtx}{d:Int}(h:GJ n B c a d)(e:∀i k,i<n->k<=n->B i k=A i k)(o:c<=n):GJ n A c a d:=by
 refine⟨by rw[h.dd];exact N3 fun i j p g=>e i j (by omega) (by omega),h.nz,h.on,fun j r g b l=> ?_,fun j r g b l f=> ?_⟩;rw[<- e r j (by omega) b,<- h.top j r g b l];exact m7 fun k hk=>by rw[e r k (by omega) (by omega)]
 rw[h.low j r g b l f,e r j f b];congr 1;exact m7 fun k hk=>by rw[e r k f (by omega)]
def value_ok{t:b9}{S:LL}{op:Nat->Int}{st:Nat->LL}{w:Nat->Li}(f:j6 t)(h:Sys t S op st w)(q:∀i,i<lm S->Px (lm S) (WF st w) (wG S st w) i){choose:Li->Option Int}(j:∀i s,S[i]? =some s->choose s=some (op i)):
  ∃L num,forR 0 (lm S:Int) (H0 t S choose) []=some L/\D2 S L=some (num,det (lm S) (eqN t S op st w))/\(lm num)=lm S/\det (lm S) (eqN t S op st w) ≠ 0/\
   (∀l,l<lm S->num[l]? =some (det (lm S) (rep (eqN t S op st w) l fun r=>eqN t S op st w r (lm S))))/\
   ∀r,r<lm S->smN (lm S) (fun k=>eqN t S op st w r k * wtj num k)=det (lm S) (eqN t S op st w) * (WF st w r * cF t op r):=by
 obtain⟨L,l1,u,b⟩:=eqs_ok f h j
 have v:=as8 f h
 have o:det (lm S) (mE L)=det (lm S) (eqN t S op st w):=N3 fun i k e hk=>b i k e (by omega)
 obtain⟨num,s1,x,p,s4,y⟩:=solve_spec S h.n5 u ((sys_rb f h).congr b) (fun c a d z A=>(z.congr b (by omega)).pivot v q A)
 rw[o] at s1 p
 refine⟨L,num,l1,s1,x,p,fun l B=> ?_,fun r n=> ?_⟩
 ·rw[s4 l B]
  congr 1
  exact N3 fun i k e hk=>by unfold Ab.rep;split;exact b i _ e (jz _);exact b i k e (by omega)
 ·have:=y r n
  rw[o,b r _ n (jz _)] at this
  rw[m7 (g:=fun k=>mE L r k * (num[k]?).getD 0) fun k hk=>by rw[b r k n (by omega)];rfl,this]
  congr 1
  unfold eqN eqM;rw[if_pos rfl]
def euclid_eq{b:Nat}(h:0<n\/0<b):Loop S8 ((n:Int),(b:Int))=some ((jq n b:Nat):Int):=by
 obtain⟨o,f,g⟩:=x9 (body:=S8) (s:=((n:Int),(b:Int)))
  (fun s=>∃x y:Nat,s=((x:Int),(y:Int))/\jq x y=jq n b) (fun o=>o=((jq n b:Nat):Int)) (fun s=>s.2.toNat) ⟨n,b,rfl,rfl⟩ (by
   rintro s ⟨x,y,rfl,e⟩;unfold S8;dsimp only;by_cases c:0<y;rw[if_pos (by omega),chkN,if_neg (by omega)];simp only[oB];refine .inl ⟨_,rfl,⟨y,x % y,?_,?_⟩,?_⟩;rw[<- ky];rw[<- e,Nat.gcd_comm y,<- lj,Nat.gcd_comm];dsimp only;rw[<- ky,js,js];exact Nat.mod_lt _ c;rw[if_neg (by omega)];have:y=0:=by omega
   subst this;rw[Nat.gcd_zero_right] at e;exact .inr ⟨_,rfl,by rw[e]⟩)
 rw[f,g]
def w64N{n:Nat}(h:n<=4000000000000000000):w64 (n:Int)=n:=k9 (by omega) (by omega)
def binary_eq{a b:Nat}(B:a<=4000000000000000000)(D:b<=4000000000000000000)(f:0<b):aq8 (a:Int) (b:Int)=some ((jq a b:Nat):Int):=by
 have Q:jq a b<=b:=Nat.gcd_le_right a f;have E:0<jq a b:=jI a f;unfold aq8;obtain⟨o,F,x,y,G,H⟩:=x9 (body:=ar5) (s:=((a:Int),(b:Int),(1:Int)))
  (fun s=>∃x y k:Nat,s=((x:Int),(y:Int),(k:Int))/\0<y/\x<=4000000000000000000/\y<=4000000000000000000/\jq x y * k=jq a b)
  (fun o=>∃y k:Nat,o=((y:Int),(k:Int))/\y * k=jq a b) (fun s=>(s.1+s.2.1).toNat) ⟨a,b,1,rfl,f,B,D,Nat.mul_one _⟩ (by
   rintro s ⟨x,y,k,rfl,t,w,A,e⟩;have U:0<jq x y:=jI x t;have V:0<k:=by rcases lc k with q|q;rw[q,Nat.mul_zero] at e;omega;exact q
   unfold ar5;dsimp only;by_cases c:0<x/\x ≠ y;have cI:((decide (0<(x:Int))) && (!(decide ((x:Int)=y))))=true:=by simp;omega
   rw[if_pos cI];have J:((x:Int)).tmod 2=((x % 2:Nat):Int):=by rw[ky];rfl
   have K:((y:Int)).tmod 2=((y % 2:Nat):Int):=by rw[ky];rfl
   have L:((x:Int)).tdiv 2=((x / 2:Nat):Int):=by rw[kg];rfl
   have M:((y:Int)).tdiv 2=((y / 2:Nat):Int):=by rw[kg];rfl
   have N:chkN 2=some ():=rfl;simp only[N,oB,J,K,L,M,w64N (show x / 2<=4000000000000000000 by omega),w64N (show y / 2<=4000000000000000000 by omega)];by_cases p:x % 2=0;have i:((x % 2:Nat):Int)=0:=by omega
   have j:x=2 * (x / 2):=by omega
   rw[if_pos i];simp only[oB];by_cases q:y % 2=0;have g:((y % 2:Nat):Int)=0:=by omega
   have h:y=2 * (y / 2):=by omega
   rw[if_pos (by simpa using g)];have O:jq x y=2 * jq (x / 2) (y / 2):=by rw (occs:=.pos [1]) [j,h];exact Nat.gcd_mul_left 2 _ _
   have hk:jq (x / 2) (y / 2) * (2 * k)=jq a b:=by rw[<- e,O,lf 2 (jq _ _),Nat.mul_assoc]
   have P:2 * k<=jq a b:=by have:0<jq (x / 2) (y / 2):=jI _ (by omega);rw[<- hk];exact Nat.le_mul_of_pos_left _ this
   have l:w64 (2 * (k:Int))=((2 * k:Nat):Int):=by have:=w64N (n:=2 * k) (by omega);simpa using this
   rw[l];exact .inl ⟨_,rfl,⟨_,_,_,rfl,by omega,by omega,by omega,hk⟩,by dsimp only;omega⟩;have g:¬ ((y % 2:Nat):Int)=0:=by omega
   rw[if_neg (by simpa using g),if_pos i];refine .inl ⟨_,rfl,⟨_,_,_,rfl,t,by omega,A,?_⟩,by dsimp only;omega⟩;rw[<- e];congr 1;rw (occs:=.pos [2]) [j];have u:jZ 2 y:=by
    have:y % 2=1:=by omega
    rw[jZ,lj,this];decide
   exact(jZ.gcd_mul_left_cancel (x / 2) u).symm;have i:¬ ((x % 2:Nat):Int)=0:=by omega
   rw[if_neg i];simp only[oB];rw[if_neg (by simp),if_neg i];by_cases q:y % 2=0;have g:((y % 2:Nat):Int)=0:=by omega
   have h:y=2 * (y / 2):=by omega
   rw[if_pos g];refine .inl ⟨_,rfl,⟨_,_,_,rfl,by omega,w,by omega,?_⟩,by dsimp only;omega⟩;rw[<- e];congr 1;rw (occs:=.pos [2]) [h];have u:jZ 2 x:=by
    have:x % 2=1:=by omega
    rw[jZ,lj,this];decide
   exact(jZ.gcd_mul_left_cancel_right (y / 2) u).symm;have g:¬ ((y % 2:Nat):Int)=0:=by omega
   rw[if_neg g];by_cases r:y<x;rw[if_pos (by omega)];have l:w64 ((x:Int) - y)=((x - y:Nat):Int):=by rw[<- w64N (n:=x - y) (by omega)];congr 1;omega
   rw[l];refine .inl ⟨_,rfl,⟨_,_,_,rfl,t,by omega,A,?_⟩,by dsimp only;omega⟩;rw[<- e];congr 1;have:x=(x - y)+y:=by omega
   rw (occs:=.pos [2]) [this];exact(Nat.gcd_add_self_left _ _).symm;rw[if_neg (by omega)];have l:w64 ((y:Int) - x)=((y - x:Nat):Int):=by rw[<- w64N (n:=y - x) (by omega)];congr 1;omega
   rw[l];refine .inl ⟨_,rfl,⟨_,_,_,rfl,by omega,w,by omega,?_⟩,by dsimp only;omega⟩;rw[<- e];congr 1;have:y=(y - x)+x:=by omega
   rw (occs:=.pos [2]) [this];exact(Nat.gcd_add_self_right _ _).symm;have cI:¬ ((decide (0<(x:Int))) && (!(decide ((x:Int)=y))))=true:=by simp;omega
   rw[if_neg cI];refine .inr ⟨_,rfl,y,k,rfl,?_⟩;rw[<- e];congr 1;by_cases z:x=0;rw[z,Nat.gcd_zero_left];have:x=y:=by omega
   rw[this,Nat.gcd_self])
 rw[F,G];simp only[oB];have:w64 ((x:Int) * y)=((x * y:Nat):Int):=by have:=w64N (n:=x * y) (by omega);simpa using this
 rw[this,H]
def Lt(x y:Option A):Prop:=∀r,x=some r->y=some r
def Lt.rfl'{x:Option A}:Lt x x:=fun _ h=>h
def Lt.bind{x:Option A}{f g:A->Option B}(h:Lt x v)(k:∀a,Lt (f a) (g a)):Lt (x.bind f) (v.bind g):=fun r b=>by obtain⟨a,c,d⟩:=bind_some b;rw[h a c];exact k a r d
def Lt.ite{c:Prop}[Decidable c]{x b d:Option A}(h:Lt x v)(k:Lt b d):Lt (if c then x else b) (if c then v else d):=fun r a=>by split at a;rw[if_pos ‹_›];exact h r a;rw[if_neg ‹_›];exact k r a
def Lt.rngN{S O:Type}{f g:Int->S->Option (S⊕O)}(h:∀i s,Lt (f i s) (g i s)):∀(k:Nat) (i:Int) (s:S),Lt (rngN f k i s) (rngN g k i s)
 |0,_,_=>Lt.rfl'
 |k+1,i,s=>fun r a=>by
  simp only[Ab.rngN] at a ⊢;cases b:f i s with
  |none=>rw[b] at a;cases a
  |some x=>
   rw[h i s x b]
   rw[b] at a
   cases x with
   |inl c=>exact Lt.rngN h k (i+1) c r a
   |inr o=>exact a
def Lt.rngX{S O:Type}{f g:Int->S->Option (S⊕O)}{n:Int}{s:S}(h:∀i s,Lt (f i s) (g i s)):Lt (rngX x n f s) (rngX x n g s):=Lt.rngN h _ _ _
def Lt.LoopN{S O:Type}{f g:S->Option (S⊕O)}(h:∀s,Lt (f s) (g s)):∀(k:Nat) (s:S),Lt (LoopN f k s) (LoopN g k s)
 |0,_=>Lt.rfl'
 |k+1,s=>fun r a=>by
  simp only[Ab.LoopN] at a ⊢;cases b:f s with
  |none=>rw[b] at a;cases a
  |some x=>
   rw[h s x b]
   rw[b] at a
   cases x with
   |inl c=>exact Lt.LoopN h k c r a
   |inr o=>exact a
def Lt.Loop{S O:Type}{f g:S->Option (S⊕O)}{s:S}(h:∀s,Lt (f s) (g s)):Lt (Loop f s) (Loop g s):=fun r a=>by obtain⟨n,b⟩:=S7.1 a;exact S7.2 ⟨n,Lt.LoopN h n s r b⟩
def Mono{R:Type}(F:(A->Option R)->A->Option R):Prop:=∀f g,(∀a,Lt (f a) (g a))->∀a,Lt (F f a) (F g a)
def recN_up{R:Type}{F:(A->Option R)->A->Option R}(b:Mono F):∀(n:Nat) (a:A),Lt (recN F n a) (recN F (n+1) a)
 |0,a=>fun r h=>by cases h
 |n+1,a=>b _ _ (recN_up b n) a
def recN_le{R:Type}{F:(A->Option R)->A->Option R}(b:Mono F){n m:Nat}(h:n<=m)(a:A):Lt (recN F n a) (recN F m a):=by
 induction h with
 |refl=>exact Lt.rfl'
 |step _ c=>exact fun r d=>recN_up b _ a r (c r d)
def Rec_recN{R:Type}{F:(A->Option R)->A->Option R}(b:Mono F){n:Nat}{r:R}(h:recN F n t=some r):Rec F t=some r:=by obtain⟨c,d,m,e⟩:=Rec_of h;have f:=recN_le b (Nat.le_max_left n m) t r h;have g:=recN_le b (Nat.le_max_right n m) t c e;rw[d,<- g,f]
def Rec_inv{R:Type}{F:(A->Option R)->A->Option R}(e:Mono F)(P:A->Prop)(V:A->R->Prop)(μ:A->Nat)(g:∀f a,P a->(∀b,P b->μ b<μ a->∃r,f b=some r/\V b r)->∃r,F f a=some r/\V a r){a:A}(c:P a):∃r,Rec F a=some r/\V a r:=by
 have key:∀(n:Nat) (a:A),P a->μ a<n->∃r,recN F n a=some r/\V a r:=by
  intro n;induction n with
  |zero=>intro a _ h;omega
  |succ n i=>exact fun a c l=>g (recN F n) a c fun b d o=>i b d (by omega)
 obtain⟨r,j,k⟩:=key (μ a+1) a c (by omega)
 exact⟨r,Rec_recN e j,k⟩
def frN(a b:Nat):s8:=⟨((a / jq a b:Nat):Int),((b / jq a b:Nat):Int)⟩
def frN_eq{b c d:Nat}(D:0<b)(E:0<d)(h:n * d=c * b):frN n b=frN c d:=by
 have o:0<jq n b:=jI n D;have p:0<jq c d:=jI c E;obtain⟨j,u⟩:=Nat.gcd_dvd_left n b;obtain⟨g,t⟩:=lh n b;obtain⟨k,v⟩:=Nat.gcd_dvd_left c d;obtain⟨i,w⟩:=lh c d;have x:jZ j g:=by
  have r:j=n / jq n b:=by rw (occs:=.pos [1]) [u];exact(jF _ o).symm ▸ rfl
  have s:g=b / jq n b:=by rw (occs:=.pos [1]) [t];exact(jF _ o).symm ▸ rfl
  rw[r,s];exact kA o
 have y:jZ k i:=by
  have r:k=c / jq c d:=by rw (occs:=.pos [1]) [v];exact(jF _ p).symm ▸ rfl
  have s:i=d / jq c d:=by rw (occs:=.pos [1]) [w];exact(jF _ p).symm ▸ rfl
  rw[r,s];exact kA p
 have e:j * i=k * g:=by
  have r:(jq n b * jq c d) * (j * i)=(jq n b * jq c d) * (k * g):=by
   have s:(jq n b * jq c d) * (j * i)=n * d:=by
    have:(jq n b * jq c d) * (j * i)=(jq n b * j) * (jq c d * i):=by grind
    rw[this,<- u,<- w]
   have F:(jq n b * jq c d) * (k * g)=c * b:=by
    have:(jq n b * jq c d) * (k * g)=(jq c d * k) * (jq n b * g):=by grind
    rw[this,<- v,<- t]
   rw[s,F,h]
  exact Nat.eq_of_mul_eq_mul_left (Nat.mul_pos o p) r
 have z:i ∣ g:=by have:i ∣ k * g:=⟨j,by rw[<- e,lf]⟩;exact jZ.dvd_of_dvd_mul_left y.symm this
 have A:g ∣ i:=by have:g ∣ j * i:=⟨k,by rw[e,lf]⟩;exact jZ.dvd_of_dvd_mul_left x.symm this
 have l:g=i:=Nat.dvd_antisymm A z;have G:0<g:=by rcases lc g with q|q;rw[q,Nat.mul_zero] at t;omega;exact q
 have B:j=k:=by rw[<- l] at e;exact Nat.eq_of_mul_eq_mul_right G e
 have H:n / jq n b=j:=by rw (occs:=.pos [1]) [u];exact jF _ o
 have J:b / jq n b=g:=by rw (occs:=.pos [1]) [t];exact jF _ o
 have K:c / jq c d=k:=by rw (occs:=.pos [1]) [v];exact jF _ p
 have L:d / jq c d=i:=by rw (occs:=.pos [1]) [w];exact jF _ p
 unfold frN;rw[H,J,K,L,B,l]
def w64n{n:Nat}(h:n<=4000000000000000000):w64 (n:Int)=n:=k9 (by omega) (by omega)
def lowest_pos{a b:Nat}(ha:a<=4000000000000000000)(hb:b<=4000000000000000000)(hb0:0<b):G0 (a:Int) (b:Int)=some (frN a b,dec ((frN a b).num<=1000000000/\(frN a b).den<=1000000000)):=by
 have g0:0<jq a b:=jI a hb0;unfold G0;rw[if_neg (by omega)];simp only[oB];have hm:max (a:Int) (w64 (0 - (a:Int)))=a:=by rw[k9 (by omega) (by omega)];omega
 rw[hm,euclid_eq (.inr hb0)];have hg:chkN ((jq a b:Nat):Int)=some ():=by unfold chkN;rw[if_neg (by omega)]
 have da:((a:Int)).tdiv ((jq a b:Nat):Int)=((a / jq a b:Nat):Int):=(kg _ _).symm;have db:((b:Int)).tdiv ((jq a b:Nat):Int)=((b / jq a b:Nat):Int):=(kg _ _).symm;have la:a / jq a b<=4000000000000000000:=kw (kx _ _) ha;have lb:b / jq a b<=4000000000000000000:=kw (kx _ _) hb;simp only[hg,oB,da,db,w64n la,w64n lb];unfold frN;dsimp only;generalize a / jq a b=x at *;generalize b / jq a b=y at *;have hm2:max (x:Int) (w64 (0 - (x:Int)))=x:=by rw[k9 (by omega) (by omega)];omega
 rw[hm2];congr 2;by_cases c:(x:Int)<=1000000000/\(y:Int)<=1000000000;rw[l8 c];simp;omega;rw[o8 c];simp;omega
def lowest_neg{b:Nat}(c:n<=4000000000000000000)(d:b<=4000000000000000000)(e:0<b):G0 (-(n:Int)) (-(b:Int))=G0 (n:Int) (b:Int):=by
 unfold G0;rw[if_pos (by omega),if_neg (by omega)];have f:w64 (0 - -(n:Int))=n:=by rw[show(0:Int) - -(n:Int)=n by omega];exact w64n c
 have g:w64 (0 - -(b:Int))=b:=by rw[show(0:Int) - -(b:Int)=b by omega];exact w64n d
 rw[f,g]
def ah3{a b:Nat}(d:a<=4000000000000000000)(e:b<=4000000000000000000)(c:0<b):I8 (a:Int) (b:Int)=some (frN a b):=by
 have k:0<jq a b:=jI a c;unfold I8;rw[binary_eq d e c];have f:chkN ((jq a b:Nat):Int)=some ():=by unfold chkN;rw[if_neg (by omega)]
 have g:((a:Int)).tdiv ((jq a b:Nat):Int)=((a / jq a b:Nat):Int):=(kg _ _).symm;have h:((b:Int)).tdiv ((jq a b:Nat):Int)=((b / jq a b:Nat):Int):=(kg _ _).symm;have i:a / jq a b<=4000000000000000000:=kw (kx _ _) d;have j:b / jq a b<=4000000000000000000:=kw (kx _ _) e;simp only[f,oB,g,h,w64n i,w64n j];rfl
structure Sq(n:Nat)(M:LL):Prop where
 len:lm M=n
 row:∀r ∈ M,lm r=n
def Sq.get{n:Nat}(h:Sq n d){i:Nat}(f:i<n):∃row,d[i]? =some row/\(lm row)=n/\ix d (i:Int)=some row/\∀j,j<n->ix row (j:Int)=some (mE d i j)/\row[j]? =some (mE d i j):=by
 have b:i<lm d:=by rw[h.len];exact f
 have e:d[i]? =some d[i]:=jo b;have g:=h.row _ (jv b);refine⟨d[i],e,g,by rw[j7,e],fun j k=> ?_⟩;have a:j<d[i].length:=by omega
 have c:d[i][j]? =some d[i][j]:=jo a;have:mE d i j=d[i][j]:=by unfold mE;rw[e];simp[c]
 rw[j7,c,this];exact⟨rfl,rfl⟩
def Bd(n:Nat)(A:Mtx):Prop:=∃l,(∀i,i<n->smN n (fun j=>if j=l then 0 else ab (A i j))<=48)/\(l<n->∀i,i<n->ab (A i l)<=2400)
def Bd.minor{n:Nat}{A:Mtx}(h:Bd (n+1) A)(c:Nat):Bd n (mnr A c):=by
 obtain⟨l,d,o⟩:=h;have key:∀i,i<n->smN n (fun k=>if sk c k=l then 0 else ab (A (i+1) (sk c k)))<=48:=fun i a=>by have p:=d (i+1) (by omega);have s:=smN_sk (f:=fun k=>if k=l then 0 else ab (A (i+1) k)) (fun k=>by split;omega;exact y9 _) (n:=n) (j:=c);exact jK s p
 by_cases e:l=c;subst e;refine⟨n,fun i a=> ?_,fun b=>absurd b (Nat.lt_irrefl n)⟩;have:=key i a;rw[m7 (g:=fun k=>if sk l k=l then 0 else ab (A (i+1) (sk l k))) fun k hk=>by rw[if_neg (by omega),if_neg (by unfold sk;split<;>omega)];rfl];exact this;refine⟨if c<l then l - 1 else l,fun i a=> ?_,fun b i a=> ?_⟩;have:=key i a;rw[m7 (g:=fun k=>if sk c k=l then 0 else ab (A (i+1) (sk c k))) fun k hk=>by
  have:k=(if c<l then l - 1 else l)↔sk c k=l:=by unfold sk;split<;>split<;>omega
  unfold mnr;by_cases q:sk c k=l;rw[if_pos (this.2 q),if_pos q];rw[if_neg (fun r=>q (this.1 r)),if_neg q]]
 exact this;have t:sk c (if c<l then l - 1 else l)=l:=by unfold sk;split<;>split<;>omega
 unfold mnr;rw[t];exact o (by split at b<;>omega) (i+1) (by omega)
def Bd.entry{n:Nat}{A:Mtx}(h:Bd n A){i j:Nat}(a:i<n)(b:j<n):ab (A i j)<=2400:=by obtain⟨l,c,d⟩:=h;by_cases e:j=l;subst e;exact d b i a;have:=ab0 (f:=fun k=>if k=l then 0 else ab (A i k)) (fun k=>by split;omega;exact y9 _) (kq j) b;simp only[smN,if_neg e] at this;have:=c i a;omega
def Bd.det{n:Nat}{A:Mtx}(f:n<=5)(h:Bd n A):ab (det n A)<=63700992000:=by
 obtain⟨l,b,c⟩:=h;by_cases e:l<n;obtain⟨m,rfl⟩:∃m,n=m+1:=⟨n - 1,by omega⟩;have:=av1 (R:=48) (B:=2400) (by omega) (by omega) e b (c e);have a:m=0\/m=1\/m=2\/m=3\/m=4:=by omega
 refine jK this ?_;rcases a with rfl|rfl|rfl|rfl|rfl<;>decide;have:=an8 (n:=n) (A:=A) (r:=fun _=>48) (fun _=>by omega) fun i d=>by have:=b i d;rwa [m7 (g:=fun j=>ab (A i j)) fun j k=>by rw[if_neg (by omega)]] at this
 rw[an4] at this;have a:n=0\/n=1\/n=2\/n=3\/n=4\/n=5:=by omega
 refine jK this ?_;rcases a with rfl|rfl|rfl|rfl|rfl|rfl<;>decide
def Lt.forN{S:Type}{f g:Int->S->Option S}(h:∀i s,Lt (f i s) (g i s)):∀(k:Nat) (i:Int) (s:S),Lt (forN f k i s) (forN g k i s)
 |0,_,_=>Lt.rfl'
 |k+1,i,s=>fun r a=>by
  simp only[Ab.forN] at a ⊢;cases b:f i s with
  |none=>rw[b] at a;cases a
  |some x=>
   rw[h i s x b]
   rw[b] at a
   exact Lt.forN h k (i+1) x r a
def Lt.forR{S:Type}{f g:Int->S->Option S}{n:Int}{s:S}(h:∀i s,Lt (f i s) (g i s)):Lt (forR x n f s) (forR x n g s):=Lt.forN h _ _ _
def det_mono:Mono A0:=by intro f g h m;unfold A0;refine Lt.ite Lt.rfl' (Lt.bind (Lt.forR fun i s=> ?_) fun x=>Lt.rfl');unfold H9;repeat (first|exact Lt.rfl'|exact h _|refine Lt.ite ?_ ?_|refine Lt.bind ?_ fun _=> ?_)
def sgn_succ(c:Nat):sgn (c+1)= - sgn c:=by unfold sgn;split<;>split<;>omega
def sgn_ab(c:Nat):sgn c=1\/sgn c= -1:=by unfold sgn;split<;>omega
def minor_rows{n:Nat}{m:LL}(G:n<=5)(h:Sq (n+1) m){c:Nat}(H:c<n+1):
  ∃M,forR 1 (lm m:Int) (I0 m c) []=some M/\Sq n M/\∀i k,i<n->k<n->mE M i k=mnr (mE m) c i k:=by
 have J:=h.len
 obtain⟨M,v,K,o⟩:=forR_from (body:=I0 m c) (lo:=1) (n:=(lm m:Int)) (s:=[])
  (fun q s=>(lm s:Int)=q - 1/\∀i:Nat,(i:Int)<q - 1->∃row,s[i]? =some row/\(lm row)=n/\∀k,k<n->row[k]? =some (mE m (i+1) (sk c k))) (by omega) ⟨by simp,fun i d=>by omega⟩ (fun q s N O ⟨P,w⟩=>by
   obtain⟨j,rfl⟩:∃j:Nat,q=((j+1:Nat):Int):=⟨(q - 1).toNat,by omega⟩;obtain⟨row,a1,t,g,u⟩:=h.get (i:=j+1) (by omega);have x:subL row 0 (c:Int)=some (row.take c):=by unfold subL;rw[if_pos (by omega)];simp
   have y:subL row ((c:Int)+1) (lm row:Int)=some (row.drop (c+1)):=by unfold subL;rw[if_pos (by omega)];rw[show((lm row:Int)).toNat=lm row by omega,kH,show((c:Int)+1).toNat=c+1 by omega]
   have a:(row.take c).length=c:=by rw[jR];omega
   have b:(row.drop (c+1)).length=n - c:=by rw[ll];omega
   have z:app 8 ([]:Li) (row.take c)=some (row.take c):=by unfold app;rw[if_pos (by rw[a];simp;omega)];rfl
   have A:app 8 (row.take c) (row.drop (c+1))=some (row.take c++row.drop (c+1)):=by unfold app;rw[if_pos (by rw[a,b];omega)]
   have B:app 24 s [row.take c++row.drop (c+1)]=some (s++[row.take c++row.drop (c+1)]):=by unfold app;rw[if_pos (by simp;omega)]
   unfold I0;simp only[g,x,y,z,A,B,oB];refine⟨_,rfl,by rw[jt,jy];omega,fun i d=> ?_⟩;by_cases e:i=j;subst e;refine⟨row.take c++row.drop (c+1),?_,by rw[jt,a,b];omega,fun k hk=> ?_⟩;have:i=lm s:=by omega
   rw[this];simp;unfold sk;by_cases f:k<c;rw[if_pos f,jw (by omega),kf,if_pos f];exact(u k (by omega)).2;rw[if_neg f,jG (by omega),a,kX,show c+1+(k - c)=k+1 by omega];exact(u (k+1) (by omega)).2;obtain⟨D,E,b2,b3⟩:=w i (by omega);exact⟨D,by rw[jw (by omega),E],b2,b3⟩)
 have l:lm M=n:=by omega
 refine⟨M,v,⟨l,fun r F=> ?_⟩,fun i k d hk=> ?_⟩
 ·obtain⟨i,d,rfl⟩:=jH F
  obtain⟨row,a1,t,_⟩:=o i (by omega)
  rw[jo d] at a1
  cases a1;exact t
 ·obtain⟨row,a1,_,g⟩:=o i (by omega)
  unfold mE
  rw[a1]
  simp only[Option.getD_some,g k hk]
  rfl
def det_eq{n:Nat}{m:LL}(f:n<=5)(h:Sq n m)(J:Bd n (mE m)):N4 m=some (det n (mE m)):=by
 obtain⟨r,K,L⟩:=Rec_inv det_mono (fun m=>lm m<=5/\Sq (lm m) m/\Bd (lm m) (mE m)) (fun m r=>r=det (lm m) (mE m)) (fun m=>lm m) (fun u m ⟨N,v,o⟩ w=>by
  unfold A0;by_cases c0:lm m=0;rw[if_pos (by omega)];exact⟨_,rfl,by rw[c0];rfl⟩;rw[if_neg (by omega)];obtain⟨n,f⟩:∃n,lm m=n+1:=⟨lm m - 1,by omega⟩;rw[f] at N v o;obtain⟨row,r1,r2,O,P⟩:=v.get (i:=0) (by omega);have key:∀q:Nat,q<=n+1->ab (smN q fun j=>sgn j * mE m 0 j * det n (mnr (mE m) j))<=q * 153000000000000:=by
   intro q hq;refine jK (ab_sum q) ?_;have:smN q (fun j=>ab (sgn j * mE m 0 j * det n (mnr (mE m) j)))<=smN q fun _=>153000000000000:=N8 fun j D=>by rw[af8,af8,ab_sgn,kc];have a1:=o.entry (i:=0) (j:=j) (by omega) (by omega);have p:=(o.minor j).det (by omega);refine jK (jN a1 p (y9 _) (by omega)) (by decide)
   have e:∀q:Nat,smN q (fun _=>(153000000000000:Int))=q * 153000000000000:=fun q=>by
    induction q with
    |zero=>simp[smN]
    |succ q w=>simp only[smN,w];push_cast;omega
   rw[e] at this;exact this
  obtain⟨⟨sum,b⟩,Q,E,k3⟩:=m5 (body:=H9 m u) (n:=(lm m:Int)) (s:=((0:Int),(1:Int)))
   (fun q s=>s.1=smN q.toNat (fun j=>sgn j * mE m 0 j * det n (mnr (mE m) j))/\s.2=sgn q.toNat) (by omega) ⟨rfl,rfl⟩ (fun q s U q1 ⟨a1,p⟩=>by
    obtain⟨sum,b⟩:=s;obtain⟨c,rfl⟩:=jp U;have x:c<n+1:=by omega
    dsimp only at a1 p;rw[js] at a1 p;have V:ix m 0=some row:=O;have X:=(P c x).1;have y:w64 (0 - b)=sgn (c+1):=by rw[p,sgn_succ];rcases sgn_ab c with e|e<;>rw[e]<;>decide
    have G:smN (c+1) (fun j=>sgn j * mE m 0 j * det n (mnr (mE m) j))=sum+sgn c * mE m 0 c * det n (mnr (mE m) c):=by rw[a1];rfl
    unfold H9;dsimp only;simp only[V,X,oB,y];by_cases z:mE m 0 c=0;rw[if_pos z];refine⟨_,rfl,?_,?_⟩;dsimp only;rw[show((c:Int)+1).toNat=c+1 by omega,G,z];simp;dsimp only;rw[show((c:Int)+1).toNat=c+1 by omega];rw[if_neg z];obtain⟨M,m1,t,A⟩:=minor_rows (by omega) v x;have hd:det n (mE M)=det n (mnr (mE m) c):=N3 fun i k d hk=>A i k d hk;have B:Bd n (mE M):=by obtain⟨l,b1,b2⟩:=o.minor c;refine⟨l,fun i d=> ?_,fun H i d=> ?_⟩;rw[m7 (g:=fun j=>if j=l then 0 else ab (mnr (mE m) c i j)) fun j D=>by rw[A i j d D]];exact b1 i d;rw[A i l d H];exact b2 H i d
    obtain⟨r',d1,d2⟩:=w M ⟨by rw[t.len];omega,by rw[t.len];exact t,by rw[t.len];exact B⟩ (by rw[t.len,f];omega);rw[t.len,hd] at d2;have t1:=o.entry (i:=0) (j:=c) (by omega) x;have t2:=(o.minor c).det (n:=n) (by omega);have aa:=ab_le t1;have w1:w64 (b * mE m 0 c)=sgn c * mE m 0 c:=by rw[p];refine w64_eq ?_;rcases sgn_ab c with e|e<;>rw[e]<;>omega
    have t3:ab (sgn c * mE m 0 c * det n (mnr (mE m) c))<=153000000000000:=by rw[af8,af8,ab_sgn,kc];exact jK (jN t1 t2 (y9 _) (by omega)) (by decide)
    have ac:=ab_le t3;have w2:w64 (sgn c * mE m 0 c * det n (mnr (mE m) c))=sgn c * mE m 0 c * det n (mnr (mE m) c):=k9 (by omega) (by omega);have t4:=ab_le (key c (by omega));rw[<- a1] at t4;have w3:w64 (sum+sgn c * mE m 0 c * det n (mnr (mE m) c))=sum+sgn c * mE m 0 c * det n (mnr (mE m) c):=k9 (by omega) (by omega);simp only[m1,d1,d2,oB,w1,w2,w3];refine⟨_,rfl,?_,?_⟩;dsimp only;rw[show((c:Int)+1).toNat=c+1 by omega,G];dsimp only;rw[show((c:Int)+1).toNat=c+1 by omega])
  rw[Q];refine⟨_,rfl,?_⟩;rw[f];dsimp only at E;rw[E,f];rfl) (a:=m) ⟨by rw[h.len];exact f,by rw[h.len];exact h,by rw[h.len];exact J⟩
 unfold N4;rw[K,L,h.len]
def ex_row{t:b9}{S:LL}{op:Nat->Int}{st:Nat->LL}{w:Nat->Li}(ht:j6 t)(h:Sys t S op st w){ops:Li}(b:k<lm S)(z:ix ops (k:Int)=some (op k)):
  ∃c:Li,forR 0 ((st k).length:Int) (R6 t S ops k (st k,w k)) (ju (lm S) 0,0)=some (c,WF st w k * cF t op k)/\(lm c)=lm S/\∀a,a<lm S->wtj c a=eqN t S op st w k a:=by
 have H:=h.res k S[k] (jo b)
 have o:=h.rng k b
 have A:=(ht.at o.1 o.2)
 have B:=A.c0;have O:=A.c1
 have ac:=h.n5
 have ad:=H.s4
 have X:=H.sum
 obtain⟨⟨c,sum⟩,k1,i,k3,k4⟩:=m5 (body:=R6 t S ops k (st k,w k)) (n:=((st k).length:Int)) (s:=(ju (lm S) 0,(0:Int)))
  (fun q s=>s.1.length=lm S/\s.2=smN q.toNat (wtj (w k)) * (ooAt t (op k)).cost/\∀a,a<lm S->wtj s.1 a=rowV S (st k) (w k) (cF t op k) k q.toNat a) (by omega)
  ⟨by simp,by simp[smN],fun a hk=>by
   unfold rowV wtj;rw[jX,if_pos hk,if_neg (show ¬ a=lm S by omega)];simp only[kP,smN,twF,ite_self];split<;>simp⟩ (fun q s q0 q1 ⟨p1,P,v⟩=>by
   obtain⟨c,sum⟩:=s;obtain⟨J,rfl⟩:=jp q0;have D:J<(st k).length:=by omega
   dsimp only at p1 P v;rw[js] at v P;have hx:ix (st k) (J:Int)=some (st k)[J]:=by rw[j7];exact jo D
   have hw:=Q6 (w:=w k) (i:=J) (by rw[H.len];exact D);have al:=H.pos J D;have ci:=Q6 (w:=c) (i:=k) (by omega);have K:smN (J+1) (wtj (w k))=smN J (wtj (w k))+wtj (w k) J:=rfl;have b0:0<=smN J (wtj (w k)):=M8 fun j _=>ag0 h b j;have b1:=L4 (f:=wtj (w k)) (ag0 h b) (show J+1<=(st k).length by omega);have sc:∀x:Int,0<=x->x<=24->0<=x * (ooAt t (op k)).cost/\x * (ooAt t (op k)).cost<=2400:=fun x h0 h1=>⟨jE h0 B,by have:=jN h1 O B (by omega:(0:Int)<=24);omega⟩;have Q:=v k (by omega);unfold rowV at Q;rw[if_neg (by omega),if_pos rfl,jo b] at Q;dsimp only at Q;have t1:=twF_nn h b J S[k];have t2:=twF_le h b (J:=J) (by omega) S[k];have f1:w64 (wtj c k+wtj (w k) J)=wtj c k+wtj (w k) J:=k9 (by omega) (by omega);have s1:=ar4 (w:=c) (i:=k) (by omega) (wtj c k+wtj (w k) J);have m1:=sc (wtj (w k) J) (by omega) (by omega);have m2:=sc (smN J (wtj (w k))) b0 (by omega);have f2:w64 (wtj (w k) J * (ooAt t (op k)).cost)=wtj (w k) J * (ooAt t (op k)).cost:=k9 (by omega) (by omega);have f3:w64 (sum+wtj (w k) J * (ooAt t (op k)).cost)=sum+wtj (w k) J * (ooAt t (op k)).cost:=k9 (by omega) (by omega);have d:sum+wtj (w k) J * (ooAt t (op k)).cost=smN (J+1) (wtj (w k)) * (ooAt t (op k)).cost:=by rw[K,li,P]
   generalize r:c.set k (wtj c k+wtj (w k) J)=c1 at *;have l1:lm c1=lm S:=by rw[<- r,lS];exact p1
   have E:∀y,twF (st k) (w k) (J+1) y=twF (st k) (w k) J y+if(st k)[J]? =some y then wtj (w k) J else 0:=fun y=>rfl;have F:(st k)[J]? =some (st k)[J]:=jo D;unfold R6;simp only[hx,hw,ci,z,oB,f1,ix_oo o.1 o.2,f2,f3,js,r,ab2];by_cases L:i6 t (st k)[J];rw[l8 L];simp only[kS,ka,if_false,oB];refine⟨_,rfl,l1,by dsimp only;rw[show((J:Int)+1).toNat=J+1 by omega];exact d,fun a hk=> ?_⟩;rw[show((J:Int)+1).toNat=J+1 by omega];dsimp only;rw[s1];unfold rowV;have e:¬ a=lm S:=by omega
   rw[if_neg e,jo hk];dsimp only;have u:¬ (st k)[J]? =some S[a]:=fun q=>by rw[F] at q;have:=Option.some.inj q;exact h.ng S[a] (jv hk) (this ▸ L)
   rw[E,if_neg u];have l:=v a hk;unfold rowV at l;rw[if_neg e,jo hk] at l;dsimp only at l;by_cases f:a=k;subst f;rw[if_pos rfl,if_pos rfl,K];omega;rw[if_neg f,if_neg f];rw[if_neg f] at l;omega;rw[o8 L];have hm:(st k)[J] ∈ S:=(h.cl k b _ (jv D)).resolve_left L;obtain⟨p,p0,p3,M⟩:=n9 hm;obtain⟨m,rfl⟩:=jp p0;have G:m<lm S:=by omega
   have U:S[m]=(st k)[J]:=by rw[j7,jo G] at M;exact Option.some.inj M
   have cm:=Q6 (w:=c1) (i:=m) (by omega);have N:=v m (by omega);unfold rowV at N;rw[if_neg (by omega),jo G] at N;dsimp only at N;have t3:=twF_nn h b J S[m];have t4:=twF_le h b (J:=J) (by omega) S[m];have v2:wtj c1 m=(if m=k then wtj c k+wtj (w k) J else wtj c m):=s1 m;have f4:w64 (wtj c1 m - wtj (w k) J)=wtj c1 m - wtj (w k) J:=by rw[v2];split;exact k9 (by omega) (by omega);rename_i q;rw[if_neg q] at N;exact k9 (by omega) (by omega)
   simp only[Bool.not_false,if_true,as5 h.ord M,cm,oB,f4,js];have s3:=ar4 (w:=c1) (i:=m) (by omega) (wtj c1 m - wtj (w k) J);refine⟨_,rfl,by dsimp only;rw[lS];exact l1,by dsimp only;rw[show((J:Int)+1).toNat=J+1 by omega];exact d,fun a hk=> ?_⟩;rw[show((J:Int)+1).toNat=J+1 by omega];dsimp only;rw[s3];unfold rowV;have e:¬ a=lm S:=by omega
   rw[if_neg e,jo hk];dsimp only;rw[E,F];have l:=v a hk;unfold rowV at l;rw[if_neg e,jo hk] at l;dsimp only at l;by_cases g:a=m;subst g;have hq:some (st k)[J]=some S[a]:=by rw[U]
   rw[if_pos rfl,if_pos hq,v2];by_cases f:a=k;subst f;rw[if_pos rfl,if_pos rfl,K];omega;rw[if_neg f,if_neg f];rw[if_neg f] at l;omega;have u:¬ some (st k)[J]=some S[a]:=fun q=>by
    have q1:=Option.some.inj q;have V:ix S (a:Int)=some (st k)[J]:=by rw[j7,jo hk,q1]
    have:=h.ord.inj M V;omega
   rw[if_neg g,if_neg u,s1];by_cases f:a=k;subst f;rw[if_pos rfl,if_pos rfl,K];omega;rw[if_neg f,if_neg f];rw[if_neg f] at l;omega)
 dsimp only at i k3 k4
 refine⟨c,?_,i,fun a hk=> ?_⟩
 ·rw[k1,k3,js];rfl
 ·rw[k4 a hk,js,rowV_eq b (by omega)]
def sys_bd{t:b9}{S:LL}{op:Nat->Int}{st:Nat->LL}{w:Nat->Li}(a:j6 t)(h:Sys t S op st w):Bd (lm S) (eqN t S op st w):=by have b:=sys_rb a h;refine⟨lm S,fun i c=> ?_,fun d=>absurd d (Nat.lt_irrefl _)⟩;rw[m7 (g:=fun k=>ab (eqN t S op st w i k)) fun k hk=>by rw[if_neg (by omega)]];exact b.row i c
def sys_bdr{t:b9}{S:LL}{op:Nat->Int}{st:Nat->LL}{w:Nat->Li}(c:j6 t)(h:Sys t S op st w)(d:n<lm S):Bd (lm S) (rep (eqN t S op st w) n fun r=>eqN t S op st w r (lm S)):=by have b:=sys_rb c h;refine⟨n,fun i a=> ?_,fun _ i a=> ?_⟩;refine jK (N8 (g:=fun k=>ab (eqN t S op st w i k)) fun k hk=> ?_) (b.row i a);by_cases e:k=n;rw[if_pos e];exact y9 _;rw[if_neg e];unfold Ab.rep;rw[if_neg e];exact jA _;unfold Ab.rep;rw[if_pos rfl];exact b.rhs i a
def expected_ok{t:b9}{S:LL}{op:Nat->Int}{st:Nat->LL}{w:Nat->Li}(F:j6 t)(h:Sys t S op st w){ops:Li}(y:∀i:Nat,i<lm S->ix ops (i:Int)=some (op i)):
  ∃num:Li,lm num=lm S/\
   U4 t S ops=some (num,if det (lm S) (eqN t S op st w)<0 then - det (lm S) (eqN t S op st w) else det (lm S) (eqN t S op st w))/\
   ∀l,l<lm S->ix num (l:Int)=some (if det (lm S) (eqN t S op st w)<0 then - det (lm S) (rep (eqN t S op st w) l fun r=>eqN t S op st w r (lm S)) else det (lm S) (rep (eqN t S op st w) l fun r=>eqN t S op st w r (lm S))):=by
 have u:=h.n5
 generalize G:eqN t S op st w=A
 obtain⟨⟨m,right⟩,a1,a2,a3⟩:=m5 (body:=ac0 t S ops) (n:=(lm S:Int)) (s:=(([]:LL),([]:Li)))
  (fun q s=>((s.1.length:Int)=q/\(s.2.length:Int)=q)/\∀i:Nat,(i:Int)<q->(∃row,s.1[i]? =some row/\(lm row)=lm S/\∀k,k<lm S->wtj row k=A i k)/\s.2[i]? =some (A i (lm S))) (by omega) ⟨⟨rfl,rfl⟩,fun i a=>by omega⟩ (fun q s z q1 ⟨⟨H,al⟩,v⟩=>by
   obtain⟨J,c5⟩:=s;obtain⟨i,rfl⟩:=jp z;dsimp only at H al v;have a:i<lm S:=by omega
   have hs:S[i]? =some S[i]:=jo a;have K:=h.rng i a;have L:=h.set S[i] (jv a);obtain⟨row,r1,r2,r3⟩:=ex_row F h a (y i a);have an:mkL 8 (lm S:Int) (0:Int)=some (ju (lm S) 0):=by unfold mkL;rw[if_pos (by omega),js]
   have ha:app 24 J [row]=some (J++[row]):=by unfold app;rw[if_pos (by simp;omega)]
   have hb:app 8 c5 [WF st w i * cF t op i]=some (c5++[WF st w i * cF t op i]):=by unfold app;rw[if_pos (by simp;omega)]
   have ao:A i (lm S)=WF st w i * cF t op i:=by rw[<- G];unfold eqN eqM;rw[if_pos rfl]
   unfold ac0;dsimp only;simp only[an,show ix S (i:Int)=some S[i] by rw[j7,hs],y i a,an9 F K.1 K.2 L,(h.res i _ hs).eq,jr,r1,ha,hb];refine⟨_,rfl,⟨by dsimp only;rw[jt,jy];omega,by dsimp only;rw[jt,jy];omega⟩,fun p av=> ?_⟩;dsimp only;by_cases e:p=i;subst e;have E:p=lm J:=by omega
   have e2:p=lm c5:=by omega
   refine⟨⟨row,by rw[E];simp,r2,fun k hk=>by rw[r3 k hk,G]⟩,?_⟩;rw[ao,jG (by omega),show p - (lm c5)=0 by omega];rfl;obtain⟨⟨r',b1,b2,b3⟩,b4⟩:=v p (by omega);exact⟨⟨r',by rw[jw (by omega),b1],b2,b3⟩,by rw[jw (by omega),b4]⟩)
 dsimp only at a2 a3
 have ay:lm m=lm S:=by omega
 have a0:Sq (lm S) m:=⟨ay,fun r hr=>by obtain⟨i,a,rfl⟩:=jH hr;obtain⟨⟨row,c1,M,_⟩,_⟩:=a3 i (by omega);rw[jo a] at c1;cases c1;exact M⟩
 have N:∀i k,i<lm S->k<lm S->mE m i k=A i k:=fun i k a hk=>by
  obtain⟨⟨row,c1,_,O⟩,_⟩:=a3 i (by omega);have:mE m i k=wtj row k:=by unfold mE wtj;rw[c1];rfl
  rw[this,O k hk]
 have b:∀{B C:Mtx},Bd (lm S) B->(∀i k,i<lm S->k<lm S->C i k=B i k)->Bd (lm S) C:=fun {B C} hB e=>by obtain⟨l,d1,d2⟩:=hB;refine⟨l,fun i a=> ?_,fun d i a=> ?_⟩;rw[m7 (g:=fun j=>if j=l then 0 else ab (B i j)) fun j hj=>by rw[e i j a hj]];exact d1 i a;rw[e i l a d];exact d2 d i a
 have hD:=det_eq u a0 (b (by rw[<- G];exact sys_bd F h) N)
 rw[N3 (A:=mE m) (B:=A) fun i k a hk=>N i k a hk] at hD
 have P:∀l,l<lm S->Bd (lm S) (rep A l fun r=>A r (lm S)):=fun l d=>by rw[<- G];exact sys_bdr F h d
 -- the numerators
 obtain⟨num,n1,n2,n3⟩:=m5 (body:=ac1 S m right) (n:=(lm S:Int)) (s:=([]:Li))
  (fun q s=>(lm s:Int)=q/\∀l:Nat,(l:Int)<q->s[l]? =some (det (lm S) (rep A l fun r=>A r (lm S)))) (by omega) ⟨rfl,fun l d=>by omega⟩ (fun q s z q1 ⟨H,v⟩=>by
   obtain⟨l,rfl⟩:=jp z;have d:l<lm S:=by omega
   obtain⟨X,x1,x2,x3⟩:=m5 (body:=aa7 m right l) (n:=(lm S:Int)) (s:=([]:LL))
    (fun q s=>(lm s:Int)=q/\∀i:Nat,(i:Int)<q->∃row,s[i]? =some row/\(lm row)=lm S/\∀k,k<lm S->wtj row k=rep A l (fun r=>A r (lm S)) i k) (by omega) ⟨rfl,fun i a=>by omega⟩ (fun q s z q1 ⟨H,v⟩=>by
     obtain⟨i,rfl⟩:=jp z;have a:i<lm S:=by omega
     obtain⟨⟨row,c1,M,O⟩,J⟩:=a3 i (by omega);have E:app 8 ([]:Li) row=some row:=by unfold app;rw[if_pos (by simp;omega)];rfl
     have e2:=Q6 (w:=row) (i:=l) (by omega);have Q:app 24 s [row.set l (A i (lm S))]=some (s++[row.set l (A i (lm S))]):=by unfold app;rw[if_pos (by simp;omega)]
     unfold aa7;simp only[show ix m (i:Int)=some row by rw[j7,c1],E,show ix right (i:Int)=some (A i (lm S)) by rw[j7,J],e2,jr,js,Q];refine⟨_,rfl,by rw[jt,jy];omega,fun p av=> ?_⟩;by_cases e:p=i;subst e;have e4:p=lm s:=by omega
     refine⟨row.set l (A p (lm S)),by rw[jG (by omega),show p - (lm s)=0 by omega];rfl,by rw[lS];exact M,fun k hk=> ?_⟩;rw[ar4 (by omega),O k hk];rfl;obtain⟨r',b1,b2,b3⟩:=v p (by omega);exact⟨r',by rw[jw (by omega),b1],b2,b3⟩)
   have a4:lm X=lm S:=by omega
   have a5:Sq (lm S) X:=⟨a4,fun r hr=>by obtain⟨i,a,rfl⟩:=jH hr;obtain⟨row,c1,M,_⟩:=x3 i (by omega);rw[jo a] at c1;cases c1;exact M⟩;have U:∀i k,i<lm S->k<lm S->mE X i k=rep A l (fun r=>A r (lm S)) i k:=fun i k a hk=>by
    obtain⟨row,c1,_,O⟩:=x3 i (by omega);have:mE X i k=wtj row k:=by unfold mE wtj;rw[c1];rfl
    rw[this,O k hk]
   have V:=det_eq u a5 (b (P l d) U);rw[N3 (A:=mE X) fun i k a hk=>U i k a hk] at V;have Q:∀x:Int,app 8 s [x]=some (s++[x]):=fun x=>by unfold app;rw[if_pos (by simp;omega)]
   unfold ac1;simp only[x1,V,Q,oB];refine⟨_,rfl,by rw[jt,jy];omega,fun D aa=> ?_⟩;by_cases e:D=l;subst e;rw[jG (by omega),show D - (lm s)=0 by omega];rfl;rw[jw (by omega)];exact v D (by omega))
 unfold U4
 simp only[a1,oB,hD,n1]
 have ac:lm num=lm S:=by omega
 by_cases c:det (lm S) A<0
 ·rw[if_pos c,if_pos c]
  have a6:=ab_le ((b (by rw[<- G];exact sys_bd F h) fun i k _ _=>rfl:Bd (lm S) A).det u)
  obtain⟨ad,m1,m2,m3⟩:=m5 (body:=ab8) (n:=(lm S:Int)) (s:=num)
   (fun q s=>lm s=lm S/\∀l:Nat,l<lm S->s[l]? =some (if(l:Int)<q then - det (lm S) (rep A l fun r=>A r (lm S)) else det (lm S) (rep A l fun r=>A r (lm S)))) (by omega) ⟨ac,fun l d=>by rw[n3 l (by omega),if_neg (by omega)]⟩ (fun q s z q1 ⟨H,v⟩=>by
    obtain⟨l,rfl⟩:=jp z;have d:l<lm S:=by omega
    have E:=v l d;rw[if_neg (by omega)] at E;have a7:=ab_le ((P l d).det u);have e2:w64 (0 - det (lm S) (rep A l fun r=>A r (lm S)))= - det (lm S) (rep A l fun r=>A r (lm S)):=by rw[k9 (by omega) (by omega)];omega
    unfold ab8;simp only[show ix s (l:Int)=some (det (lm S) (rep A l fun r=>A r (lm S))) by rw[j7,E],jr,e2,js];refine⟨_,rfl,by rw[lS];exact H,fun D aa=> ?_⟩;rw[jV];by_cases e:l=D;subst e;rw[if_pos rfl,if_pos (by omega),if_pos (by omega)];rw[if_neg e,v D aa];by_cases f:(D:Int)<l;rw[if_pos f,if_pos (by omega)];rw[if_neg f,if_neg (by omega)])
  have Q:w64 (0 - det (lm S) A)= - det (lm S) A:=by rw[k9 (by omega) (by omega)];omega
  rw[m1]
  simp only[oB,Q]
  refine⟨ad,m2,rfl,fun l d=> ?_⟩
  rw[if_pos c,j7,m3 l d,if_pos (by omega)]
 ·rw[if_neg c,if_neg c]
  refine⟨num,ac,rfl,fun l d=> ?_⟩
  rw[if_neg c,j7,n3 l (by omega)]
/-! ### Values of ordered states -/
noncomputable def sc(t:b9)(s:Li)(op:Int):LL:=(ooAt t op).outcomes.map (efc t.facts s)
structure Rep{A:Type}(all:LL)(v:List A)(f:Li->A):Prop where
 len:lm v=lm all
 get:∀{i:Int} {s:Li},ix all i=some s->ix v i=some (f s)
noncomputable def gOf(f:Li->Int)(s:Li):Int:=if f s<0 then 1000000000 else f s
noncomputable def upd(f:Li->A)(s:Li)(x:A):Li->A:=fun z=>if dec (z=s)=true then x else f z
def P1{x:A}:upd H b x b=x:=ifP rfl
def T0{x:A}(h:g ≠ b):upd H b x g=H g:=ifN h
def Rep.of{all:LL}{v:List A}(h:Rep all v H)(c:b ∈ all):∃i,ix all i=some b/\ix v i=some (H b):=by obtain⟨i,_,_,a⟩:=n9 c;exact⟨i,a,h.get a⟩
def Rep.set{all:LL}{v:List A}(c:Ord all)(h:Rep all v H){s:Li}(b:ix all y=some s)(x:A):Rep all (v.set y.toNat x) (upd H s x):=by obtain⟨d,l,_⟩:=m8 b;have g:=h.len;refine⟨by rw[lS];exact g,fun {j z} a=> ?_⟩;rw[as3 d (by omega) (m8 a).1];by_cases e:j=y;subst e;rw[b] at a;cases a;rw[if_pos rfl,P1];rw[if_neg e,T0 (fun k=>e (by subst k;exact c.inj a b))];exact h.get a
def Rep.congr{all:LL}{v:List A}{g:Li->A}(h:Rep all v H)(e:∀s ∈ all,H s=g s):Rep all v g:=⟨h.len,fun a=>by rw[<- e _ (j8 a)];exact h.get a⟩
def Rep.repl{all:LL}(c:A):Rep all (ju (lm all) c) fun _=>c:=⟨by simp,fun {i s} a=>by obtain⟨b,d,g⟩:=m8 a;have:i.toNat<lm all:=(lG.1 g).1;rw[ix,if_pos b,jX,if_pos this]⟩
def repeat_eq(c:Int){n:Nat}(a:1<=n)(b:n<=100000):E9 [c] (n:Int)=some (ju n c):=by unfold E9;dsimp only;rw[if_pos (show(1:Int)<=n/\(n:Int)<=4294967295 by omega)];simp
def DnA(t:b9):Nat->Li->Prop
 |0,s=>i6 t s
 |k+1,s=>i6 t s\/∃op:Int,(0<=op/\op<lm t.operators)/\oCan t s op/\∀y ∈ sc t s op,DnA t k y
def DnA.goal{t:b9}(h:i6 t b):DnA t n b:=by
 cases n with
 |zero=>exact h
 |succ n=>exact .inl h
def DnA.succ{t:b9}:∀{k:Nat} {s:Li},DnA t k s->DnA t (k+1) s
 |0,s,h=>.inl h
 |k+1,s,h=>by rcases h with h|⟨op,a,b,c⟩;exact .inl h;exact .inr ⟨op,a,b,fun y d=>DnA.succ (c y d)⟩
def DnA.mono{t:b9}{m:Nat}(h:DnA t n b)(a:n<=m):DnA t m b:=by
 induction a with
 |refl=>exact h
 |step _ c=>exact c.succ
def HtA(t:b9)(k:Nat)(s:Li):Prop:=DnA t k s/\∀j,j<k->¬ DnA t j s
def HtA.unique{t:b9}{m:Nat}(h:HtA t n b)(a:HtA t m b):n=m:=by rcases kp n m with c|c|c;exact absurd h.1 (a.2 n c);exact c;exact absurd a.1 (h.2 m c)
def HtA.zero{t:b9}(h:i6 t b):HtA t 0 b:=⟨h,fun j a=>by omega⟩
def HtA.of_not{t:b9}(h:DnA t (n+1) b)(a:¬ DnA t n b):HtA t (n+1) b:=⟨h,fun j d c=>a (c.mono (by omega))⟩
structure ClO(t:b9)(all:LL):Prop where
 cl:Cl t all
 ord:Ord all
def ClO.len{t:b9}{all:LL}(h:ClO t all):lm all<=2000:=h.cl.len
def ClO.set{t:b9}{all:LL}(h:ClO t all){s:Li}(a:s ∈ all):SetN s t.facts:=h.cl.set s a
def ClO.sc{t:b9}{all:LL}(h:ClO t all)(c:b ∈ all){op:Int}(a:0<=op/\op<lm t.operators)(d:oCan t b op)(e:g ∈ sc t b op):g ∈ all:=by obtain⟨x,f,rfl⟩:=jx.1 e;exact h.cl.closed b c op a.1 a.2 d x f
def WW(f:Li->Int)(l:LL)(w:Int):Prop:=0<=w/\(∀y ∈ l,0<=f y/\f y<=w)/\∃y ∈ l,f y=w
def WW.unique{w:Int}(h:WW l d w)(c:WW l d x):w=x:=by obtain⟨_,a,y,e,rfl⟩:=h;obtain⟨_,b,z,g,rfl⟩:=c;have:=(a z g).2;have:=(b y e).2;omega
/-! ### Loops that do the same, till one of them gives up -/
def rngN_follow{S O:Type}{a b2:Int->S->Option (S⊕O)}(F:O->Prop):∀(k:Nat) (i:Int) (s:S) (r:S⊕O),rngN a k i s=some r->
  (∀j s r,i<=j->j<i+k->a j s=some r->b2 j s=some r\/∃o,b2 j s=some (.inr o)/\F o)->rngN b2 k i s=some r\/∃o,rngN b2 k i s=some (.inr o)/\F o
 |0,_,s,r,h,_=>.inl h
 |k+1,i,s,r,h,d=>by
  simp only[rngN] at h ⊢;cases b:a i s with
  |none=>rw[b] at h;cases h
  |some x=>
   rw[b] at h
   rcases d i s x (jA _) (by omega) b with c|⟨o,c,e⟩
   ·rw[c]
    cases x with
    |inl f=>exact rngN_follow F k (i+1) f r h fun j s r g l=>d j s r (by omega) (by omega)
    |inr o=>exact .inl h
   ·rw[c]
    exact .inr ⟨o,rfl,e⟩
def rngX_follow{S O:Type}{a b2:Int->S->Option (S⊕O)}(F:O->Prop){n:Int}{s:S}{r:S⊕O}(h:rngX 0 n a s=some r)
  (b:∀j s r,0<=j->j<n->a j s=some r->b2 j s=some r\/∃o,b2 j s=some (.inr o)/\F o):rngX 0 n b2 s=some r\/∃o,rngX 0 n b2 s=some (.inr o)/\F o:=
 rngN_follow F _ _ _ _ h fun j s r c d=>b j s r c (by omega)
def aE6{S O:Type}{a b2:S->Option (S⊕O)}(F:O->Prop)(d:∀s r,a s=some r->b2 s=some r\/∃o,b2 s=some (.inr o)/\F o):∀(k:Nat) (s:S) (r:O),LoopN a k s=some r->LoopN b2 k s=some r\/∃o,LoopN b2 k s=some o/\F o
 |0,_,_,h=>by cases h
 |k+1,s,r,h=>by
  simp only[LoopN] at h ⊢;cases b:a s with
  |none=>rw[b] at h;cases h
  |some x=>
   rw[b] at h
   rcases d s x b with c|⟨o,c,e⟩
   ·rw[c]
    cases x with
    |inl f=>exact aE6 F d k f r h
    |inr o=>exact .inl h
   ·rw[c]
    exact .inr ⟨o,rfl,e⟩
def Loop_follow{S O:Type}{a b2:S->Option (S⊕O)}(F:O->Prop)(b:∀s r,a s=some r->b2 s=some r\/∃o,b2 s=some (.inr o)/\F o){s:S}{r:O}(h:Loop a s=some r):Loop b2 s=some r\/∃o,Loop b2 s=some o/\F o:=by obtain⟨k,hk⟩:=S7.1 h;rcases aE6 F b k s r hk with h|⟨o,c,d⟩;exact .inl (S7.2 ⟨k,h⟩);exact .inr ⟨o,S7.2 ⟨k,c⟩,d⟩
def rngN_post{S O:Type}{b:Int->S->Option (S⊕O)}(P:S->Prop)(Q:O->Prop):∀(k:Nat) (i:Int) (s:S) (r:S⊕O),P s->rngN b k i s=some r->
  (∀j s,P s->(∀a,b j s=some (.inl a)->P a)/\∀o,b j s=some (.inr o)->Q o)->(∀a,r=.inl a->P a)/\∀o,r=.inr o->Q o
 |0,_,s,r,c,h,_=>by simp only[rngN,Option.some.injEq] at h;subst h;exact⟨fun a e=>by cases e;exact c,fun o e=>by cases e⟩
 |k+1,i,s,r,c,h,f=>by
  simp only[rngN] at h;cases d:b i s with
  |none=>rw[d] at h;cases h
  |some x=>
   rw[d] at h
   cases x with
   |inl a=>exact rngN_post P Q k (i+1) a r ((f i s c).1 a d) h f
   |inr o=>
    cases h
    exact⟨fun a e=>(by cases e),fun g e=>by cases e;exact(f i s c).2 o d⟩
def LoopN_post{S O:Type}{b:S->Option (S⊕O)}(P:S->Prop)(Q:O->Prop)(d:∀s,P s->(∀a,b s=some (.inl a)->P a)/\∀o,b s=some (.inr o)->Q o):∀(k:Nat) (s:S) (o:O),P s->LoopN b k s=some o->Q o
 |0,_,_,_,h=>by cases h
 |k+1,s,o,e,h=>by
  simp only[LoopN] at h;cases c:b s with
  |none=>rw[c] at h;cases h
  |some x=>
   rw[c] at h
   cases x with
   |inl a=>exact LoopN_post P Q d k a o ((d s e).1 a c) h
   |inr f=>cases h;exact(d s e).2 o c
def low4{m:Int}(i:m<=2000)(a:(LL)×Li)(j:Int)(s:(LL)×Li)(r:((LL)×Li)⊕((LL)×Bool))(h:w5 2000 a j s=some r):
  w5 m a j s=some r\/∃o,w5 m a j s=some (.inr o)/\o=([],false):=by
 obtain⟨c1,b⟩:=s
 unfold w5 at h ⊢
 dsimp only at h ⊢
 obtain⟨k,d,h⟩:=bind_some h
 rw[d]
 simp only[oB]
 obtain⟨l,e,h⟩:=bind_some h
 rw[e]
 simp only[oB]
 obtain⟨f,g,h⟩:=bind_some h
 rw[g]
 simp only[oB]
 by_cases c:f=true
 ·rw[if_pos c] at h ⊢
  exact .inl h
 ·rw[if_neg c] at h ⊢
  by_cases b:m<=(lm c1:Int)
  ·rw[if_pos b]
   exact .inr ⟨_,rfl,rfl⟩
  ·rw[if_neg (by omega)] at h
   rw[if_neg b]
   left
   simp only[d,oB,e] at h ⊢
   exact h
def len4{m:Int}(e:(LL)×Li)(j:Int)(s:(LL)×Li)(i:(s.1.length:Int)<=m):(∀d,w5 m e j s=some (.inl d)->(d.1.length:Int)<=m)/\∀o,w5 m e j s=some (.inr o)->o=([],false):=by
 obtain⟨c1,g⟩:=s;dsimp only at i;unfold w5;dsimp only;cases ix e.1 j with
 |none=>exact⟨fun d h=>(by cases h),fun o h=>by cases h⟩
 |some k=>
  simp only[oB]
  cases aa1 k with
  |none=>exact⟨fun d h=>(by cases h),fun o h=>by cases h⟩
  |some l=>
   simp only[oB]
   cases S5 g l with
   |none=>exact⟨fun d h=>(by cases h),fun o h=>by cases h⟩
   |some n=>
    simp only[oB]
    unfold W5
    dsimp only
    by_cases c:n=true
    ·rw[if_pos c]
     exact⟨fun d h=>by cases h;exact i,fun o h=>by cases h⟩
    ·rw[if_neg c]
     by_cases g:m<=(lm c1:Int)
     ·rw[if_pos g]
      exact⟨fun d h=>(by cases h),fun o h=>by cases h;rfl⟩
     ·rw[if_neg g]
      refine⟨fun d h=> ?_,fun o h=> ?_⟩
      ·obtain⟨a,f,h⟩:=bind_some h
       obtain⟨b,_,h⟩:=bind_some h
       cases h
       rw[app] at f
       split at f
       ·cases f;simp;omega
       ·cases f
      ·obtain⟨a,f,h⟩:=bind_some h
       obtain⟨b,_,h⟩:=bind_some h
       cases h
def low2{t:b9}{m:Int}(hm:m<=2000)(i j:Int)(s:(LL)×Li)(r:((LL)×Li)⊕((LL)×Bool))(h:u9 t 2000 i j s=some r):
  u9 t m i j s=some r\/∃o,u9 t m i j s=some (.inr o)/\o=([],false):=by
 obtain⟨c1,c2⟩:=s
 unfold u9 at h ⊢
 dsimp only at h ⊢
 obtain⟨x1,h1,h⟩:=bind_some h
 rw[h1]
 simp only[oB]
 obtain⟨x2,h2,h⟩:=bind_some h
 rw[h2]
 simp only[oB]
 by_cases c:(!x2)=true
 ·rw[if_pos c] at h ⊢
  exact .inl h
 ·rw[if_neg c,h1] at h
  rw[if_neg c]
  simp only[oB] at h
  obtain⟨x3,h3,h⟩:=bind_some h
  rw[h3]
  simp only[oB]
  obtain⟨x4,h4,h⟩:=bind_some h
  rcases rngX_follow (b2:=w5 m x3) (fun o=>o=(([],false):(LL)×Bool)) h4 (fun j s r _ _ hh=>low4 hm x3 j s r hh) with h5|⟨o,h5,rfl⟩
  ·rw[h5]
   exact .inl h
  ·rw[h5]
   exact .inr ⟨_,rfl,rfl⟩
def len2{t:b9}{m:Int}(i j:Int)(s:(LL)×Li)(hs:(s.1.length:Int)<=m):(∀s',u9 t m i j s=some (.inl s')->(s'.1.length:Int)<=m)/\∀o,u9 t m i j s=some (.inr o)->o=([],false):=by
 obtain⟨c1,c2⟩:=s;dsimp only at hs;have key:∀r,u9 t m i j (c1,c2)=some r->(∀s',r=.inl s'->(s'.1.length:Int)<=m)/\∀o,r=.inr o->o=([],false):=fun r h=>by
  unfold u9 at h;dsimp only at h;obtain⟨x1,h1,h⟩:=bind_some h;obtain⟨x2,h2,h⟩:=bind_some h;unfold W2 at h;by_cases c:(!x2)=true;rw[if_pos c] at h;cases h;exact⟨fun s' e=>by cases e;exact hs,fun o e=>by cases e⟩;rw[if_neg c] at h;obtain⟨x0,_,h⟩:=bind_some h;obtain⟨x3,h3,h⟩:=bind_some h;obtain⟨x4,h4,h⟩:=bind_some h;have p:=rngN_post (b:=w5 m x3) (fun s=>(s.1.length:Int)<=m) (fun o=>o=([],false)) _ _ _ x4 hs h4 (fun j s hs=>len4 x3 j s hs);cases x4 with
  |inl s'=>
   obtain⟨d1,d2⟩:=s'
   cases h
   exact⟨fun s' e=>by cases e;exact p.1 _ rfl,fun o e=>by cases e⟩
  |inr o=>
   cases h
   exact⟨fun s' e=>(by cases e),fun o' e=>by cases e;exact p.2 _ rfl⟩
 exact⟨fun s' h=>(key _ h).1 s' rfl,fun o h=>(key _ h).2 o rfl⟩
def reached_low{t:b9}{m:Int}(u:j6 t)(F:1<=m)(G:m<=2000):A7 t m=some ([],false)\/∃a,E6 t=some (a,true)/\A7 t 2000=some (a,true)/\ClO t a/\A7 t m=some (a,true)/\(lm a:Int)<=m:=by
 have H:=u.init;have low:∀s r,v8 t 2000 s=some r->v8 t m s=some r\/∃o,v8 t m s=some (.inr o)/\o=.inr ([],false):=fun⟨c1,A,i⟩ r h=>by unfold v8 at h ⊢;dsimp only at h ⊢;by_cases c:i<(lm c1:Int);rw[if_pos c] at h ⊢;obtain⟨v,w,h⟩:=bind_some h;rcases rngX_follow (b2:=u9 t m i) (fun o=>o=(([],false):(LL)×Bool)) w (fun j s r _ _ J=>low2 G i j s r J) with y|⟨o,y,rfl⟩;rw[y];exact .inl h;rw[y];exact .inr ⟨_,rfl,rfl⟩;rw[if_neg c] at h ⊢;exact .inl h
 have len:∀s:(LL)×Li×Int,(s.1.length:Int)<=m->(∀d,v8 t m s=some (.inl d)->(d.1.length:Int)<=m)/\∀o,v8 t m s=some (.inr o)->∀l,o=.inl l->(lm l:Int)<=m:=fun⟨c1,A,i⟩ g=>by
  dsimp only at g;have key:∀r,v8 t m (c1,A,i)=some r->(∀d,r=.inl d->(d.1.length:Int)<=m)/\∀o,r=.inr o->∀l,o=.inl l->(lm l:Int)<=m:=fun r h=>by
   unfold v8 at h;dsimp only at h;by_cases c:i<(lm c1:Int);rw[if_pos c] at h;obtain⟨v,w,h⟩:=bind_some h;have p:=rngN_post (b:=u9 t m i) (fun s=>(s.1.length:Int)<=m) (fun o=>o=([],false)) _ _ _ v g w (fun j s g=>len2 i j s g);cases v with
   |inl d=>
    obtain⟨d1,d2⟩:=d
    cases h
    exact⟨fun d e=>by cases e;exact p.1 _ rfl,fun o e=>by cases e⟩
   |inr o=>
    cases h
    exact⟨fun d e=>(by cases e),fun N e l n=>by cases e;cases n⟩
   rw[if_neg c] at h;cases h;exact⟨fun d e=>(by cases e),fun o e l n=>by cases e;cases n;exact g⟩
  exact⟨fun d h=>(key _ h).1 d rfl,fun o h=>(key _ h).2 o rfl⟩
 have start:∀z,A7 t z=jD (Loop (v8 t z) ([t.init],[(wsN t.init:Int)],0)) fun| .inl B=>(jD (forR 0 (lm B:Int) (W6 B) []) fun f=>some (f,true))| .inr x=>some x:=fun z=>by unfold A7;rw[word_eq H u.n1];simp only[oB];rw[app,if_pos (by simp)];rfl
 rcases aB1 u with⟨a,D,q,K,L,l,E,O⟩|⟨D,q⟩;rcases Loop_follow _ low E with h|⟨o,h,rfl⟩;right;have P:(lm l:Int)<=m:=by obtain⟨k,hk⟩:=S7.1 h;exact LoopN_post (b:=v8 t m) (fun s=>(s.1.length:Int)<=m) (fun o=>∀l,o=.inl l->(lm l:Int)<=m) len k _ _ (by simpa using F) hk l rfl
 refine⟨a,D,q,⟨K,L⟩,?_,by omega⟩;rw[start,h];have e:=q;rw[start,E] at e;exact e;left;rw[start,h];rfl;left;have e:=q;rw[start] at e;obtain⟨o,M,n⟩:=bind_some e;rcases Loop_follow _ low M with h|⟨o,h,rfl⟩;rw[start,h];exact n;rw[start,h];rfl
def sumN(l:Li):Nat:=(l.map Int.toNat).sum
def aw3:∀{l:Li} {i:Nat} {x y:Int},l[i]? =some y->0<=x->x<y->sumN (l.set i x)<sumN l
 |[],_,_,_,h,_,_=>by simp at h
 |a::l,0,x,y,h,b,c=>by simp only[kI,Option.some.injEq] at h;subst h;simp only[sumN,List.set_cons_zero,kT,List.sum_cons];omega
 |a::l,i+1,x,y,h,b,c=>by have:=aw3 (l:=l) (i:=i) (by simpa using h) b c;simp only[sumN,List.set_cons_succ,kT,List.sum_cons] at this ⊢;omega
def DsC(t:b9)(S:Li->Prop):Nat->Li->Prop
 |0,s=>i6 t s
 |k+1,s=>i6 t s\/(S s/\∃op:Int,(0<=op/\op<lm t.operators)/\oCan t s op/\(∀y ∈ sc t s op,S y)/\∃y ∈ sc t s op,DsC t S k y)
def DsC.goal{t:b9}{S:Li->Prop}(h:i6 t b):DsC t S n b:=by
 cases n with
 |zero=>exact h
 |succ n=>exact .inl h
def DsC.succ{t:b9}{S:Li->Prop}:∀{k:Nat} {s:Li},DsC t S k s->DsC t S (k+1) s
 |0,s,h=>.inl h
 |k+1,s,h=>by rcases h with h|⟨a,op,b,c,d,y,e,f⟩;exact .inl h;exact .inr ⟨a,op,b,c,d,y,e,f.succ⟩
def DsC.mono{t:b9}{S:Li->Prop}{m:Nat}(h:DsC t S n b)(a:n<=m):DsC t S m b:=by
 induction a with
 |refl=>exact h
 |step _ c=>exact c.succ
def DsC.sub{t:b9}{S T:Li->Prop}(a:∀s,S s->T s):∀{k:Nat} {s:Li},DsC t S k s->DsC t T k s
 |0,s,h=>h
 |k+1,s,h=>by rcases h with h|⟨b,op,c,d,e,y,f,g⟩;exact .inl h;exact .inr ⟨a s b,op,c,d,fun z i=>a z (e z i),y,f,g.sub a⟩
def HtD(t:b9)(S:Li->Prop)(k:Nat)(s:Li):Prop:=DsC t S k s/\∀j,j<k->¬ DsC t S j s
def HtD.unique{t:b9}{S:Li->Prop}{m:Nat}(h:HtD t S n b)(a:HtD t S m b):n=m:=by rcases kp n m with c|c|c;exact absurd h.1 (a.2 n c);exact c;exact absurd a.1 (h.2 m c)
def HtD.of_dn{t:b9}{S:Li->Prop}:∀{k:Nat} {s:Li},DsC t S k s->∃m,m<=k/\HtD t S m s
 |0,s,h=>⟨0,jz _,h,fun j a=>by omega⟩
 |k+1,s,h=>by by_cases c:DsC t S k s;obtain⟨m,e,b⟩:=HtD.of_dn c;exact⟨m,by omega,b⟩;exact⟨k+1,jz _,h,fun j a d=>c (d.mono (by omega))⟩
def HtD.of_not{t:b9}{S:Li->Prop}(h:DsC t S (n+1) b)(a:¬ DsC t S n b):HtD t S (n+1) b:=⟨h,fun j d c=>a (c.mono (by omega))⟩
def HtD.step{t:b9}{S:Li->Prop}{k:Nat}{s:Li}(h:HtD t S (k+1) s):¬ i6 t s/\S s/\∃op:Int,(0<=op/\op<lm t.operators)/\oCan t s op/\(∀y ∈ sc t s op,S y)/\∃y ∈ sc t s op,HtD t S k y:=by have a:¬ i6 t s:=fun g=>h.2 0 (by omega) g;rcases h.1 with g|⟨b,op,c,d,e,y,f,i⟩;exact absurd g a;exact ⟨a,b,op,c,d,e,y,f,i,fun j n l=> (h.2 (j+1) (by omega) (.inr ⟨b,op,c,d,e,y,f,l⟩))⟩
def HtD.chain{t:b9}{S:Li->Prop}{all:LL}(d:ClO t all):∀{k:Nat} {s:Li},s ∈ all->HtD t S k s->∃c:LL,lm c=k+1/\c.Nodup/\∀x ∈ c,x ∈ all/\∃j,j<=k/\HtD t S j x
 |0,s,b,h=>⟨[s],rfl,by simp,fun x a=>by rw[jB.1 a];exact⟨b,0,jz _,h⟩⟩
 |k+1,s,b,h=>by obtain⟨_,_,op,f,g,_,y,i,l⟩:=h.step;obtain⟨c,c1,n,e⟩:=HtD.chain d (d.sc b f g i) l;refine⟨s::c,by simp[c1],km.2 ⟨fun o=> ?_,n⟩,fun x a=> ?_⟩;obtain⟨_,j,u,p⟩:=e s o;have:=p.unique h;omega;rcases kd.1 a with rfl|a;exact⟨b,k+1,jz _,h⟩;obtain⟨q,j,v,r⟩:=e x a;exact⟨q,j,by omega,r⟩
def HtD.lt{t:b9}{S:Li->Prop}{all:LL}(a:ClO t all)(d:b ∈ all)(h:HtD t S n b):n<lm all:=by obtain⟨c,c1,e,f⟩:=h.chain a d;have:=V1 e fun x g=>(f x g).1;omega
/-! ### Lists of numbers -/
def aE3{f:Int->Option Bool}{p:Int->Prop}(h:∀x ∈ b,f x=some (dec (p x))):r8 b f=some (dec (∃x ∈ b,p x)):=by unfold r8 F7;rcases F5 (body:=B1 b f) (n:=(lm b:Int)) (fun j=>if dec (∃x,ix b j=some x/\p x)=true then some j else none) (by omega) (fun j k g _=>by obtain⟨x,a,_⟩:=j9 (l:=b) k g;unfold B1;simp only[a,oB,h x (j8 a)];by_cases e:p x;rw[ifP e,ifP ⟨x,rfl,e⟩];rw[ifN e,ifN (by rintro ⟨z,r,c⟩;cases r;exact e c)]) with⟨g,d⟩|⟨j,o,k,g,d,w,s⟩;rw[g];simp only[oB];rw[o8];rfl;rintro ⟨x,a,c⟩;obtain⟨i,t,u,v⟩:=n9 a;have:=d i t u;rw[ifP ⟨x,v,c⟩] at this;cases this;rw[s];split at d;rename_i e;cases d;simp only[oB];obtain⟨x,a,c⟩:=n7.1 e;rw[l8 ⟨x,j8 a,c⟩,decide_eq_true k];cases d
def containsFL_eq{f:Li->Option Bool}{p:Li->Prop}(h:∀x ∈ d,f x=some (dec (p x))):C6 d f=some (dec (∃x ∈ d,p x)):=by unfold C6 A5;rcases F5 (body:=C4 d f) (n:=(lm d:Int)) (fun j=>if dec (∃x,ix d j=some x/\p x)=true then some j else none) (by omega) (fun j k g _=>by obtain⟨x,a,_⟩:=j9 (l:=d) k g;unfold C4;simp only[a,oB,h x (j8 a)];by_cases e:p x;rw[ifP e,ifP ⟨x,rfl,e⟩];rw[ifN e,ifN (by rintro ⟨z,r,b⟩;cases r;exact e b)]) with⟨g,c⟩|⟨j,o,k,g,c,w,s⟩;rw[g];simp only[oB];rw[o8];rfl;rintro ⟨x,a,b⟩;obtain⟨i,t,u,v⟩:=n9 a;have:=c i t u;rw[ifP ⟨x,v,b⟩] at this;cases this;rw[s];split at c;rename_i e;cases c;simp only[oB];obtain⟨x,a,b⟩:=n7.1 e;rw[l8 ⟨x,j8 a,b⟩,decide_eq_true k];cases c
/-! ### The numbers of the states after an operator -/
def ArcL(t:b9)(all:LL)(s:Li)(op:Int)(l:Li):Prop:=(oCan t s op/\∀k,k ∈ l↔∃y ∈ sc t s op,ix all k=some y)\/(¬ oCan t s op/\l=[])
structure ArcsOk(t:b9)(all:LL)(nx:List (LL)):Prop where
 len:lm nx=lm all
 row:∀i s,ix all i=some s->∃r,ix nx i=some r/\(lm r)=lm t.operators/\∀op l,ix r op=some l->ArcL t all s op l
def ix_set_same{x:A}(h:ix r y=some t):ix (r.set y.toNat x) y=some x:=by obtain⟨a,b,_⟩:=m8 h;rw[as3 a b a,if_pos rfl]
def arcs_eq{t:b9}(J:j6 t){all:LL}(E:ClO t all):∃c,aj7 t all=some c/\ArcsOk t all c:=by
 have P:=E.len;have Q:=J.ops;unfold aj7;rw[show mkL 24 (lm all:Int) ([]:LL)=some (ju (lm all) []) by rw[mkL,if_pos (by omega)];simp];simp only[oB];obtain⟨c,X,h2,h3⟩:=m5 (body:=ai5 t all) (n:=(lm all:Int)) (s:=ju (lm all) ([]:LL)) (fun j c=>lm c=lm all/\∀i s,i<j->ix all i=some s->∃r,ix c i=some r/\(lm r)=lm t.operators/\∀op l,ix r op=some l->ArcL t all s op l) (by omega) ⟨by simp,fun i s hi f=>by have:=(m8 f).1;omega⟩ (fun j c K j1 ⟨a1,a2⟩=>by
  obtain⟨s,f,_⟩:=j9 (l:=all) K j1;have F:=j8 f;have g:=E.set F;obtain⟨r0,G,_⟩:=j9 (l:=c) K (by omega);unfold ai5;rw[f];simp only[oB];rw[show mkL 24 (lm t.operators:Int) ([]:Li)=some (ju (lm t.operators) []) by rw[mkL,if_pos (by omega)];simp];simp only[oB,G];obtain⟨r,r1,r2,r3⟩:=m5 (body:=ah6 t all s) (n:=(lm t.operators:Int)) (s:=ju (lm t.operators) ([]:Li)) (fun k r=>lm r=lm t.operators/\(∀op l,op<k->ix r op=some l->ArcL t all s op l)/\∀op l,k<=op->ix r op=some l->l=[]) (by omega) ⟨by simp,fun op l h0 h=>by have:=(m8 h).1;omega,fun op l _ h=>List.eq_of_mem_replicate (j8 h)⟩ (fun k r x L ⟨b1,b2,b3⟩=>by
   unfold ah6;rw[oCan_eq J x L g];simp only[oB,x8];by_cases H:oCan t s k;rw[ifNN H];obtain⟨st,ws,A,_,o,q4,_⟩:=J0 J x L g;have p:∀y,y ∈ st↔y ∈ sc t s k:=fun y=>by rw[o,sc,jx]
   rw[A];simp only[oB];obtain⟨l0,u,_⟩:=j9 (l:=r) x (by omega);have e0:l0=[]:=b3 k l0 (jA _) u;subst e0;obtain⟨v,d1,d2,l',d3,d4,d5⟩:=m5 (body:=ai4 all k (st,ws)) (n:=(lm st:Int)) (s:=r) (fun m v=>lm v=lm r/\∃l,v=r.set k.toNat l/\(lm l:Int)<=m/\∀z,z ∈ l↔∃q y,0<=q/\q<m/\ix st q=some y/\ix all z=some y) (by omega) ⟨rfl,[],(by have:=(m8 u).2.2;refine(kD fun i=> ?_);rw[jV];split;rename_i e;subst e;rw[if_pos (lG.1 this).1,this];rfl),by simp,fun z=>⟨fun h=>by(cases h),fun⟨q,y,B,A,_⟩=>by omega⟩⟩ (fun m v U m1 ⟨e1,l,V,e3,e4⟩=>by
    obtain⟨y,D,_⟩:=j9 (l:=st) U m1
    have M:=E.sc F ⟨x,L⟩ H ((p y).1 (j8 D))
    obtain⟨z,z0,z1,b⟩:=n9 M
    have hg:ix v k=some l:=by rw[V];exact ix_set_same u
    unfold ai4
    dsimp only
    rw[D]
    simp only[oB,hg,ad3 E.ord (show (lm all)<=500000 by omega) b]
    rw[app,if_pos (by simp;omega)]
    simp only[oB]
    refine⟨_,rfl,by rw[lS];exact e1,l++[z],by rw[V,List.set_set],by simp;omega,fun z'=> ?_⟩
    rw[jT,jB,e4]
    constructor
    ·rintro (⟨q,N,B,A,w,o⟩|rfl)
     ·exact⟨q,N,B,by omega,w,o⟩
     ·exact⟨m,y,U,by omega,D,b⟩
    ·rintro ⟨q,N,B,A,w,o⟩
     by_cases e:q=m
     ·subst e;rw[D] at w;cases w
      exact .inr (E.ord.inj o b)
     ·exact .inl ⟨q,N,B,by omega,w,o⟩)
   rw[d1];simp only[oB];refine⟨_,rfl,by omega,fun op l O a=> ?_,fun op l O a=> ?_⟩;rw[d3] at a;rcases(by have:=(m8 a).1;rw[as3 x (by omega) this] at a;by_cases e:op=k;rw[if_pos e] at a;exact .inl ⟨e,Option.some.inj a⟩;rw[if_neg e] at a;exact .inr ⟨e,a⟩:(op=k/\l'=l)\/(op ≠ k/\ix r op=some l)) with⟨rfl,rfl⟩|⟨e,a⟩;refine .inl ⟨H,fun z=> ?_⟩;rw[d5];constructor;rintro ⟨q,y,_,_,w,o⟩;exact⟨y,(p y).1 (j8 w),o⟩;rintro ⟨y,D,b⟩;obtain⟨q,B,A,hq⟩:=n9 ((p y).2 D);exact⟨q,y,B,A,hq,b⟩;exact b2 op l (by omega) a;rw[d3,as3 x (by omega) (by omega),if_neg (by omega)] at a;exact b3 op l (by omega) a;rw[ifP H];refine⟨_,rfl,b1,fun op l O a=> ?_,fun op l O a=>b3 op l (by omega) a⟩;by_cases e:op=k;subst e;exact .inr ⟨H,b3 op l (jA _) a⟩;exact b2 op l (by omega) a)
  rw[r1];simp only[oB];refine⟨_,rfl,by rw[lS];exact a1,fun i z hi b=> ?_⟩;by_cases e:i=j;subst e;rw[f] at b;cases b;exact⟨r,ix_set_same G,r2,fun op l a=>r3.1 op l (by have:=(m8 a).2.1;omega) a⟩;obtain⟨v,g1,g2⟩:=a2 i z (by omega) b;exact⟨v,by rw[as3 K (by omega) (m8 b).1,if_neg e];exact g1,g2⟩)
 rw[X];exact⟨c,rfl,h2,fun i s f=>h3 i s (m8 f).2.1 f⟩
def sumN_le{x:Int}(h:b[n]? =some y)(a:0<=x)(c:x<=y):sumN (b.set n x)<=sumN b:=by
 by_cases e:x=y;subst e;have:b.set n x=b:=by refine kD fun k=> ?_;rw[jV];split;rename_i e;subst e;rw[if_pos (lG.1 h).1,h];rfl
 rw[this];exact jz _;exact Nat.le_of_lt (aw3 h a (by omega))
noncomputable def sfl(S:Li->Prop)(s:Li):Int:=if dec (S s)=true then 1 else 0
def ad1{S:Li->Prop}(h:S b):sfl S b=1:=ifP h
def an7{S:Li->Prop}(h:¬ S b):sfl S b=0:=ifN h
def measure1{S:Li->Prop}{all:LL}{d:Li}(o:Rep all b (sfl S))(q:Rep all d l)(t:0<=x/\x<=1000000)(hk:∀k ∈ g,∃s,ix all k=some s):
  K9 g b d x=some (dec (g ≠ []/\(∀k ∈ g,∀s,ix all k=some s->S s)/\∃k ∈ g,∃s,ix all k=some s/\l s=x - 1)):=by
 have r:ac6 g b=some (dec (g ≠ []/\∀k ∈ g,∀s,ix all k=some s->S s)):=by unfold ac6;by_cases c:0<(lm g:Int);rw[if_pos c,aE3 (p:=fun k=>∃s,ix all k=some s/\¬ S s) (fun k i=>by obtain⟨s,a⟩:=hk k i;unfold ad8;rw[o.get a];simp only[oB];by_cases e:S s;rw[ad1 e,o8 (by rintro ⟨z,j,n⟩;rw[a] at j;cases j;exact n e)];rfl;rw[an7 e,l8 ⟨s,a,e⟩];rfl)];simp only[oB,x8];congr 1;refine r9 ⟨fun h=>⟨fun e=>by rw[e] at c;simp at c,fun k i s a=>jL fun n=>h ⟨k,i,s,a,n⟩⟩,fun h=> ?_⟩;rintro ⟨k,i,s,a,n⟩;exact n (h.2 k i s a);rw[if_neg c,o8];rfl;exact fun h=>h.1 (List.eq_nil_of_length_eq_zero (by omega))
 unfold K9
 rw[r]
 simp only[oB]
 by_cases c:g ≠ []/\∀k ∈ g,∀s,ix all k=some s->S s
 ·rw[ifP c,aE3 (p:=fun k=>∃s,ix all k=some s/\l s=x - 1) (fun k i=>by obtain⟨s,a⟩:=hk k i;unfold V2;rw[q.get a,k9 (by omega) (by omega)];simp only[oB,G3];congr 1;refine r9 ⟨fun e=>⟨s,a,e⟩,?_⟩;rintro ⟨z,j,e⟩;rw[a] at j;cases j;exact e)]
  simp only[oB]
  congr 1
  exact r9 ⟨fun h=>⟨c.1,c.2,h⟩,fun h=>h.2.2⟩
 ·rw[ifN c]
  simp only[oB]
  rw[o8]
  exact fun h=>c ⟨h.1,h.2.1⟩
def StepC(t:b9)(S:Li->Prop)(f:Li->Int)(s:Li)(v:Int):Prop:=∃op:Int,(0<=op/\op<lm t.operators)/\oCan t s op/\(∀y ∈ sc t s op,S y)/\∃y ∈ sc t s op,f y=v
def measureR{t:b9}{S:Li->Prop}{all:LL}(s:j6 t)(K:ClO t all){L:List (LL)}(O:ArcsOk t all L){d:Li}(P:Rep all b (sfl S))(Q:Rep all d l){layer:Int}(U:0<=layer/\layer<=1000000)(M:ix all y=some g):
  ∃r,ix L y=some r/\C6 r (fun V=>K9 V b d layer)=some (dec (StepC t S l g (layer - 1))):=by
 obtain⟨r,X,r2,N⟩:=O.row y g M
 have w:=j8 M
 refine⟨r,X,?_⟩
 have inr:∀x ∈ r,∃op,ix r op=some x/\(0<=op/\op<lm t.operators)/\ArcL t all g op x:=fun x u=>by obtain⟨op,f,o1,n⟩:=n9 u;exact⟨op,n,⟨f,by omega⟩,N op x n⟩
 rw[containsFL_eq (p:=fun a=>a ≠ []/\(∀k ∈ a,∀g,ix all k=some g->S g)/\∃k ∈ a,∃g,ix all k=some g/\l g=layer - 1) (fun x u=>by obtain⟨op,_,n,j⟩:=inr x u;refine measure1 P Q U fun k hk=> ?_;rcases j with⟨_,j⟩|⟨_,rfl⟩;obtain⟨c,_,o⟩:=(j k).1 hk;exact⟨c,o⟩;cases hk)]
 congr 1
 refine r9 ⟨?_,?_⟩
 ·rintro ⟨x,u,E,i,k,hk,z,F,G⟩
  obtain⟨op,_,n,j⟩:=inr x u
  rcases j with⟨h,j⟩|⟨_,rfl⟩
  ·refine⟨op,n,h,fun c o=> ?_,z,?_,G⟩
   ·obtain⟨q,_,_,A⟩:=n9 (K.sc w n h o)
    exact i q ((j q).2 ⟨c,o,A⟩) c A
   ·obtain⟨c,o,B⟩:=(j k).1 hk
    rw[F] at B;cases B;exact o
  ·exact absurd rfl E
 ·rintro ⟨op,n,h,E,c,o,G⟩
  obtain⟨x,u,_⟩:=j9 (l:=r) n.1 (by omega)
  rcases N op x u with⟨_,j⟩|⟨H,_⟩
  ·obtain⟨q,_,_,A⟩:=n9 (K.sc w n h o)
   have v:=(j q).2 ⟨c,o,A⟩
   refine⟨x,j8 u,⟨fun e=>(by rw[e] at v;cases v),fun k hk z F=> ?_,q,v,c,A,G⟩⟩
   obtain⟨z',J,D⟩:=(j k).1 hk
   rw[F] at D;cases D
   exact E z J
  ·exact absurd h H
def RankD(t:b9)(S:Li->Prop)(all:LL)(f:Li->Int)(L:Nat):Prop:=∀s ∈ all,(f s= -1/\¬ DsC t S L s)\/∃k:Nat,k<=L/\f s=k/\HtD t S k s
def RankD.fresh{t:b9}{S:Li->Prop}{all:LL}(q:ClO t all)(h:RankD t S all l n)(g:b ∈ all):HtD t S (n+1) b↔l b<0/\S b/\StepC t S l b n:=by
 constructor;intro r;have i:¬ DsC t S n b:=r.2 n (by omega);have u:l b= -1:=by rcases h b g with⟨e,_⟩|⟨k,v,_,w⟩;exact e;exact absurd (w.1.mono v) i
 obtain⟨_,j,op,a,c,o,y,d,p⟩:=r.step;refine⟨by omega,j,op,a,c,o,y,d,?_⟩;rcases h y (q.sc g a c d) with⟨_,e⟩|⟨k,_,e,hk⟩;exact absurd p.1 e;rw[e,hk.unique p];rintro ⟨u,j,op,a,c,o,y,d,p⟩;have i:¬ DsC t S n b:=by rcases h b g with⟨_,e⟩|⟨k,_,e,_⟩;exact e;omega
 refine HtD.of_not (.inr ⟨j,op,a,c,o,y,d,?_⟩) i;rcases h y (q.sc g a c d) with⟨e,_⟩|⟨k,_,e,hk⟩;omega;have:k=n:=by omega
 subst this;exact hk.1
def measure_eq{t:b9}{S:Li->Prop}{all:LL}(ht:j6 t)(q:ClO t all){nx:List (LL)}(hn:ArcsOk t all nx)(A:Rep all g (sfl S)):
  ∃v f,Y6 t all nx g=some v/\Rep all v f/\∀s ∈ all,(f s= -1/\∀k,¬ DsC t S k s)\/∃k:Nat,f s=k/\HtD t S k s:=by
 have ac:=q.len
 have ad:=ht.n1
 unfold Y6
 rw[repeat_eq (-1) (jY q.cl.init) (by omega)]
 simp only[oB]
 obtain⟨v0,a1,f0,a2,a3⟩:=m5 (body:=X5 t all) (n:=(lm all:Int)) (s:=ju (lm all) (-1)) (fun j v=>∃f,Rep all v f/\∀i s,ix all i=some s->(i<j->(i6 t s->f s=0)/\(¬ i6 t s->f s= -1))/\(j<=i->f s= -1)) (by omega) ⟨_,Rep.repl (-1),fun i s F=>⟨fun h=>by have:=(m8 F).1;omega,fun _=>rfl⟩⟩ (fun j v j0 j1 ⟨f,O,J⟩=>by obtain⟨s,A,_⟩:=j9 (l:=all) j0 j1;have K:=q.set (j8 A);have al:=K.len;unfold X5;rw[A];simp only[oB,X0 K.1 ht.goal.1 (show (lm s)<=1000000 by omega),O.get A];by_cases G:i6 t s;rw[ifP (p:=∀x ∈ t.goal,x ∈ s) G];refine⟨_,rfl,_,O.set q.ord A 0,fun i z d=> ?_⟩;by_cases e:i=j;subst e;rw[A] at d;cases d;rw[P1];exact⟨fun _=>⟨fun _=>rfl,fun h=>absurd G h⟩,fun h=>by omega⟩;rw[T0 (fun P=>e (q.ord.inj d (by rw[P];exact A)))];exact⟨fun h=>(J i z d).1 (by omega),fun h=>(J i z d).2 (by omega)⟩;rw[ifN (p:=∀x ∈ t.goal,x ∈ s) G];refine⟨_,rfl,_,O,fun i z d=> ?_⟩;by_cases e:i=j;subst e;rw[A] at d;cases d;exact⟨fun _=>⟨fun h=>absurd h G,fun _=>(J i s A).2 (jA _)⟩,fun h=>by omega⟩;exact⟨fun h=>(J i z d).1 (by omega),fun h=>(J i z d).2 (by omega)⟩)
 rw[a1]
 simp only[oB]
 have r0:RankD t S all f0 0:=fun s A=>by obtain⟨i,_,i1,F⟩:=n9 A;have:=(a3 i s F).1 i1;by_cases G:i6 t s;exact .inr ⟨0,jz _,this.1 G,G,fun j hj=>by omega⟩;exact .inl ⟨this.2 G,G⟩
 obtain⟨v,e1,f,L,e2,e3,e4⟩:=x9 (body:=X8 all nx g) (fun x=>∃f L,Rep all x.1 f/\x.2=((L:Nat):Int)+1/\RankD t S all f L/\L<=lm all) (fun v=>∃f L,Rep all v f/\RankD t S all f L/\(lm all)<=L) (fun x=>(lm all+2 - x.2).toNat) (s:=(v0,1)) ⟨f0,0,a2,by simp,r0,by omega⟩ (fun⟨v,Q⟩ ⟨f,L,O,J,U,h4⟩=>by
  dsimp only at O J ⊢;subst J;unfold X8;dsimp only;by_cases c:((L:Nat):Int)+1<=lm all;rw[if_pos c];obtain⟨v',g1,D,g2,g3⟩:=m5 (body:=X2 nx g (((L:Nat):Int)+1)) (n:=(lm all:Int)) (s:=v) (fun j v'=>∃D,Rep all v' D/\∀i s,ix all i=some s->(i<j->(HtD t S (L+1) s->D s=((L:Nat):Int)+1)/\(¬ HtD t S (L+1) s->D s=f s))/\(j<=i->D s=f s)) (by omega) ⟨f,O,fun i s F=>⟨fun h=>by have:=(m8 F).1;omega,fun _=>rfl⟩⟩ (fun j v' j0 j1 ⟨D,B,E⟩=>by
   obtain⟨s,o,_⟩:=j9 (l:=all) j0 j1;have a:=j8 o;have M:∀y ∈ all,D y=(L:Int)↔f y=L:=fun y N=>by obtain⟨i,_,_,F⟩:=n9 N;have b:=E i y F;by_cases ci:i<j;by_cases u:HtD t S (L+1) y;have:=(U.fresh q N).1 u;rw[(b.1 ci).1 u];omega;rw[(b.1 ci).2 u];rw[b.2 (by omega)]
   have V:D s=f s:=(E j s o).2 (jA _);obtain⟨r,r1,r2⟩:=measureR ht q hn A B (layer:=((L:Nat):Int)+1) (by omega) o;have aa:StepC t S D s (((L:Nat):Int)+1 - 1)↔StepC t S f s L:=by rw[show((L:Nat):Int)+1 - 1=L by omega];constructor;rintro ⟨op,o1,o2,o3,y,N,e⟩;exact⟨op,o1,o2,o3,y,N,(M y (q.sc a o1 o2 N)).1 e⟩;rintro ⟨op,o1,o2,o3,y,N,e⟩;exact⟨op,o1,o2,o3,y,N,(M y (q.sc a o1 o2 N)).2 e⟩
   unfold X2;rw[B.get o,A.get o];simp only[oB];have key:(if 0<=D s then some true else some (decide (sfl S s=0)))=some (dec (¬ (f s<0/\S s))):=by rw[V];by_cases c1:0<=f s;rw[if_pos c1,l8 (fun h=>by omega)];rw[if_neg c1];by_cases c2:S s;rw[ad1 c2,o8 (fun h=>h ⟨by omega,c2⟩)];rfl;rw[an7 c2,l8 (fun h=>c2 h.2)];rfl
   rw[key];simp only[oB];have keep:∀w:Li->Int,(∀z ∈ all,z ≠ s->w z=D z)->((HtD t S (L+1) s->w s=((L:Nat):Int)+1)/\(¬ HtD t S (L+1) s->w s=f s))->∀i z,ix all i=some z->(i<j+1->(HtD t S (L+1) z->w z=((L:Nat):Int)+1)/\(¬ HtD t S (L+1) z->w z=f z))/\(j+1<=i->w z=f z):=fun w k1 k2 i z d=>by by_cases e:i=j;subst e;rw[o] at d;cases d;exact⟨fun _=>k2,fun h=>by omega⟩;have X:z ≠ s:=fun P=>e (q.ord.inj d (by rw[P];exact o));rw[k1 z (j8 d) X];exact⟨fun h=>(E i z d).1 (by omega),fun h=>(E i z d).2 (by omega)⟩
   by_cases cs:f s<0/\S s;rw[ifNN cs,r1];simp only[oB,r2];rw[r9 aa];by_cases ch:StepC t S f s L;rw[ifP ch];have u:=(U.fresh q a).2 ⟨cs.1,cs.2,ch⟩;exact⟨_,rfl,_,B.set q.ord o _,keep _ (fun z _ X=>T0 X) ⟨fun _=>P1,fun h=>absurd u h⟩⟩;rw[ifN ch];have u:¬ HtD t S (L+1) s:=fun h=>ch ((U.fresh q a).1 h).2.2;exact⟨_,rfl,_,B,keep _ (fun z _ _=>rfl) ⟨fun h=>absurd h u,fun _=>V⟩⟩;rw[ifP cs];have u:¬ HtD t S (L+1) s:=fun h=>cs ⟨((U.fresh q a).1 h).1,((U.fresh q a).1 h).2.1⟩;exact⟨_,rfl,_,B,keep _ (fun z _ _=>rfl) ⟨fun h=>absurd h u,fun _=>V⟩⟩)
  rw[g1];simp only[oB];rw[k9 (by omega) (by omega)];refine .inl ⟨_,rfl,⟨D,L+1,g2,by dsimp only;omega,fun s a=> ?_,by omega⟩,by dsimp only;omega⟩;obtain⟨i,_,i1,F⟩:=n9 a;have b:=(g3 i s F).1 i1;by_cases u:HtD t S (L+1) s;exact .inr ⟨L+1,jz _,by rw[b.1 u];omega,u⟩;rcases U s a with⟨B,E⟩|⟨k,q0,B,E⟩;exact .inl ⟨by rw[b.2 u];exact B,fun hd=>u (.of_not hd E)⟩;exact .inr ⟨k,by omega,by rw[b.2 u];exact B,E⟩;rw[if_neg c];exact .inr ⟨_,rfl,f,L,O,U,by omega⟩)
 rw[e1]
 refine⟨v,f,rfl,e2,fun s a=> ?_⟩
 rcases e3 s a with⟨B,E⟩|⟨k,_,B,E⟩
 ·refine .inl ⟨B,fun k hk=>E ?_⟩
  obtain⟨m,_,hm⟩:=HtD.of_dn hk
  have:=hm.lt q a
  exact hm.1.mono (by omega)
 ·exact .inr ⟨k,B,E⟩
def PostF(t:b9)(all:LL)(T:Li->Prop):Prop:=∀s,T s->s ∈ all/\∃k,DsC t T k s
def Sd(all:LL)(f:Li->Int)(s:Li):Prop:=s ∈ all/\0<=f s
structure E1(t:b9)(all:LL)(f:Li->Int):Prop where
 val:∀s ∈ all,(f s= -1/\∀k,¬ DsC t (Sd all f) k s)\/∃k:Nat,f s=k/\HtD t (Sd all f) k s
 gr:∀T,PostF t all T->∀s,T s->0<=f s
def E1.post{t:b9}{all:LL}(h:E1 t all l):PostF t all (Sd all l):=fun s a=>by refine⟨a.1,?_⟩;rcases h.val s a.1 with⟨e,_⟩|⟨k,_,hk⟩;have:=a.2;omega;exact⟨k,hk.1⟩
def E1.unique{t:b9}{all:LL}{g:Li->Int}(h:E1 t all l)(d:E1 t all g):∀s ∈ all,l s=g s:=by have e:Sd all l=Sd all g:=funext fun s=>propext ⟨fun q=>⟨q.1,d.gr _ h.post s q⟩,fun q=>⟨q.1,h.gr _ d.post s q⟩⟩;intro s i;have a:=h.val s i;have b:=d.val s i;rw[<- e] at b;rcases a with⟨a1,c⟩|⟨k,a1,c⟩<;>rcases b with⟨j,b2⟩|⟨m,j,b2⟩;omega;exact absurd b2.1 (c m);exact absurd c.1 (b2 k);rw[a1,j,c.unique b2]
def E1.lt{t:b9}{all:LL}(c:ClO t all)(h:E1 t all l)(a:b ∈ all):l b<lm all:=by rcases h.val b a with⟨e,_⟩|⟨k,e,hk⟩;omega;have:=hk.lt c a;omega
theorem aF2{t:b9}{all:LL}(ht:j6 t)(hc:ClO t all):∃v f,L8 t all=some v/\Rep all v f/\E1 t all f:=by
 have hlen:=hc.len
 unfold L8
 obtain⟨nx,n1,n2⟩:=arcs_eq ht hc
 rw[n1]
 simp only[oB]
 rw[repeat_eq 1 (jY hc.cl.init) (by omega)]
 simp only[oB]
 obtain⟨v,e1,f,e2,e3⟩:=x9 (body:=T7 t all nx) (fun x=>∃S:Li->Prop,(∀s,S s->s ∈ all)/\Rep all x (sfl S)/\(∀s ∈ all,i6 t s->S s)/\∀T,PostF t all T->∀s,T s->S s) (fun v=>∃f,Rep all v f/\E1 t all f) sumN (s:=ju (lm all) 1) ⟨fun s=>s ∈ all,fun s h=>h,(Rep.repl 1).congr fun s hs=>(ad1 hs).symm,fun s hs _=>hs,fun T hT s hs=>(hT s hs).1⟩ (fun sv ⟨S,s1,s2,s3,s4⟩=>by
  obtain⟨d,f,d1,d2,d3⟩:=measure_eq ht hc n2 s2
  have sub:∀s ∈ all,0<=f s->S s:=fun s hs hf=>by
   rcases d3 s hs with⟨e,_⟩|⟨k,_,hk⟩
   ·omega
   ·cases k with
    |zero=>exact s3 s hs hk.1
    |succ k=>exact hk.step.2.1
  unfold T7
  rw[d1]
  simp only[oB]
  rw[d2.len]
  obtain⟨⟨sv',b⟩,g1,g2,g3,g4,g5⟩:=m5 (body:=T8 d) (n:=(lm all:Int)) (s:=(sv,true)) (fun j x=>x.1.length=lm all/\(∀i s,ix all i=some s->ix x.1 i=some (if i<j then sfl (Sd all f) s else sfl S s))/\(x.2=dec (∀i s,i<j->ix all i=some s->(0<=f s↔S s)))/\sumN x.1+(if x.2=true then 0 else 1)<=sumN sv) (by omega) ⟨s2.len,fun i s hi=>by rw[if_neg (by have:=(m8 hi).1;omega)];exact s2.get hi,(l8 fun i s hi h=>by have:=(m8 h).1;omega).symm,by simp⟩ (fun j ⟨x,bx⟩ j0 j1 ⟨q1,q2,q3,q4⟩=>by
   dsimp only at q1 q2 q3 q4 ⊢
   obtain⟨s,hs,_⟩:=j9 (l:=all) j0 j1
   have hsm:=j8 hs
   have hfl:f s<=lm all/\ -1<=f s:=by
    rcases d3 s hsm with⟨e,_⟩|⟨k,e,hk⟩
    ·omega
    ·have:=hk.lt hc hsm;omega
   have hx:=q2 j s hs
   rw[if_neg (by omega)] at hx
   unfold T8
   dsimp only
   rw[d2.get hs,hx]
   simp only[oB]
   rw[k9 (by omega) (by omega)]
   have hmin:min 1 (f s+1)=sfl (Sd all f) s:=by
    by_cases c:0<=f s
    ·rw[ad1 ⟨hsm,c⟩];omega
    ·rw[an7 (fun h=>c h.2)];omega
   have key:(if bx=true then some (decide ((decide (0<=f s))=(decide (0<sfl S s)))) else some false)=some (dec (∀i s,i<j+1->ix all i=some s->(0<=f s↔S s))):=by
    have h2:(decide ((decide (0<=f s))=(decide (0<sfl S s))))=dec (0<=f s↔S s):=by
     have:decide (0<sfl S s)=dec (S s):=by
      by_cases c:S s
      ·rw[ad1 c,l8 c];rfl
      ·rw[an7 c,o8 c];rfl
     rw[this,G3 (p:=0<=f s),G3]
     exact r9 dec_inj
    by_cases cb:bx=true
    ·rw[if_pos cb,h2]
     congr 1
     rw[cb] at q3
     have h3:=n7.1 q3.symm
     refine r9 ⟨fun h i z hi hz=> ?_,fun h=>h j s (by omega) hs⟩
     by_cases e:i=j
     ·subst e;rw[hs] at hz;cases hz;exact h
     ·exact h3 i z (by omega) hz
    ·rw[if_neg cb,o8]
     intro h
     exact cb (by rw[q3];exact l8 fun i z hi hz=>h i z (by omega) hz)
   rw[key]
   simp only[oB]
   rw[hmin]
   refine⟨_,rfl,by rw[lS];exact q1,fun i z hz=> ?_,rfl,?_⟩
   ·rw[as3 j0 (by omega) (m8 hz).1]
    by_cases e:i=j
    ·subst e
     rw[hs] at hz;cases hz
     rw[if_pos rfl,if_pos (by omega)]
    ·rw[if_neg e,q2 i z hz]
     congr 1
     by_cases c:i<j
     ·rw[if_pos c,if_pos (by omega)]
     ·rw[if_neg c,if_neg (by omega)]
   ·dsimp only
    have hxg:=(m8 hx).2.2
    by_cases ca:(∀i s,i<j+1->ix all i=some s->(0<=f s↔S s))
    ·rw[if_pos (l8 ca)]
     have hbx:bx=true:=by rw[q3];exact l8 fun i z hi hz=>ca i z (by omega) hz
     rw[if_pos hbx] at q4
     have e:sfl (Sd all f) s=sfl S s:=by
      have:=ca j s (by omega) hs
      by_cases c:S s
      ·rw[ad1 c,ad1 ⟨hsm,this.2 c⟩]
      ·rw[an7 c,an7 (fun h=>c (this.1 h.2))]
     rw[e]
     have:=sumN_le (x:=sfl S s) hxg (by unfold sfl;split<;>omega) (jA _)
     omega
    ·rw[if_neg (by rw[o8 ca];simp)]
     by_cases hbx:bx=true
     ·rw[if_pos hbx] at q4
      -- it is here that they differ
      have hd:¬ (0<=f s↔S s):=fun h=>ca fun i z hi hz=>by
       by_cases e:i=j
       ·subst e;rw[hs] at hz;cases hz;exact h
       ·exact n7.1 (q3.symm.trans hbx) i z (by omega) hz
      have h1:¬ 0<=f s:=fun h=>hd ⟨fun _=>sub s hsm h,fun _=>h⟩
      have h2:S s:=jL fun h=>hd ⟨fun h'=>absurd h' h1,fun h'=>absurd h' h⟩
      have:=aw3 (x:=sfl (Sd all f) s) hxg (by unfold sfl;split<;>omega) (by rw[ad1 h2,an7 (fun h=>h1 h.2)];omega)
      omega
     ·rw[if_neg hbx] at q4
      have:=sumN_le (x:=sfl (Sd all f) s) hxg (by unfold sfl;split<;>omega) (by
       by_cases c:0<=f s
       ·rw[ad1 ⟨hsm,c⟩,ad1 (sub s hsm c)];exact jA _
       ·rw[an7 (fun h=>c h.2)];unfold sfl;split<;>omega)
      omega)
  rw[g1]
  simp only[oB]
  dsimp only at g2 g3 g4 g5
  by_cases cb:b=true
  ·rw[if_pos cb]
   rw[cb] at g4
   have h4:=n7.1 g4.symm
   have e:S=Sd all f:=funext fun s=>propext ⟨fun h=>by
    have hm:=s1 s h
    obtain⟨i,_,i1,hi⟩:=n9 hm
    exact⟨hm,(h4 i s i1 hi).2 h⟩,fun h=>by
    obtain⟨i,_,i1,hi⟩:=n9 h.1
    exact(h4 i s i1 hi).1 h.2⟩
   refine .inr ⟨d,rfl,f,d2,⟨by rw[e] at d3;exact d3,fun T hT s hs=> ?_⟩⟩
   have:=s4 T hT s hs
   rw[e] at this
   exact this.2
  ·rw[if_neg cb]
   rw[if_neg cb] at g5
   refine .inl ⟨sv',rfl,⟨Sd all f,fun s h=>h.1,⟨g2,fun {i s} hi=>by rw[g3 i s hi,if_pos (m8 hi).2.1]⟩,fun s hs hg=>⟨hs,?_⟩,fun T hT s hs=>⟨(hT s hs).1,?_⟩⟩,by omega⟩
   ·rcases d3 s hs with⟨_,e⟩|⟨k,e,_⟩
    ·exact absurd (DsC.goal hg) (e 0)
    ·omega
   ·obtain⟨hm,k,hk⟩:=hT s hs
    rcases d3 s hm with⟨_,e⟩|⟨k,e,_⟩
    ·exact absurd (hk.sub (s4 T hT)) (e k)
    ·omega)
 rw[e1]
 exact⟨v,f,rfl,e2,e3⟩
def CycP(t:b9)(f:Li->Int)(s:Li)(op:Int):Prop:=((0<=op/\op<lm t.operators)/\oCan t s op)/\(∀y ∈ sc t s op,0<=f y)/\∃y ∈ sc t s op,f y=f s - 1
def FirstC(t:b9)(f:Li->Int)(s:Li)(b:Int):Prop:=CycP t f s b/\∀op,0<=op->op<b->¬ CycP t f s op
def cycChoice{t:b9}{all:LL}(N:j6 t)(F:ClO t all){v:Li}(O:Rep all v l)(X:∀g ∈ all, -1<=l g/\l g<=100000)(J:g ∈ all):
  ∃b,w7 g v all t=some b/\((b= -1/\∀op,¬ CycP t l g op)\/FirstC t l g b):=by
 have P:=F.len
 have w:=F.set J
 obtain⟨i,f,K⟩:=O.of J
 have s:=X g J
 unfold w7
 rw[ad3 F.ord (by omega) f]
 simp only[oB,K]
 have one:∀op:Int,0<=op->op<lm t.operators->M9 g v all t (l g) op ()=some (match (if dec (CycP t l g op)=true then some op else none) with|none=>.inl ()|some o=>.inr o):=fun op A o1=>by
  unfold M9;rw[oCan_eq N A o1 w];simp only[oB,x8];unfold N2;by_cases G:oCan t g op;rw[ifNN G];obtain⟨st,ws,B,_,q3,_⟩:=J0 N A o1 w;have r:∀y,y ∈ st↔y ∈ sc t g op:=fun y=>by rw[q3,sc,jx]
  rw[B];simp only[oB];obtain⟨⟨d,p⟩,g1,Q,U⟩:=m5 (body:=W4 v all (l g) (st,ws)) (n:=(lm st:Int)) (s:=(true,false)) (fun j x=>x.1=dec (∀k y,k<j->ix st k=some y->0<=l y)/\x.2=dec (∃k y,k<j/\ix st k=some y/\l y=l g - 1)) (by omega) ⟨(l8 fun k y hk h=>by have:=(m8 h).1;omega).symm,(o8 (by rintro ⟨k,y,hk,h,_⟩;have:=(m8 h).1;omega)).symm⟩ (fun j ⟨d,p⟩ j0 j1 ⟨a1,V⟩=>by
   dsimp only at a1 V;obtain⟨y,u,_⟩:=j9 (l:=st) j0 j1;obtain⟨z,c,L⟩:=O.of (F.sc J ⟨A,o1⟩ G ((r y).1 (j8 u)));unfold W4;dsimp only;rw[u];simp only[oB,ad3 F.ord (show (lm all)<=500000 by omega) c,L];rw[k9 (by omega) (by omega)];have e1:dec (∀k y,k<j+1->ix st k=some y->0<=l y)=(d && decide (0<=l y)):=by rw[a1,G3,dec_and];refine r9 ⟨fun h=>⟨fun k z hk c=>h k z (by omega) c,h j y (by omega) u⟩,fun⟨D,E⟩ k z hk c=> ?_⟩;by_cases e:k=j;subst e;rw[u] at c;cases c;exact E;exact D k z (by omega) c
   have e2:dec (∃k y,k<j+1/\ix st k=some y/\l y=l g - 1)=(p||decide (l y=l g - 1)):=by rw[V,G3,dec_or];refine r9 ⟨fun⟨k,z,hk,c,e⟩=> ?_,?_⟩;by_cases ek:k=j;subst ek;rw[u] at c;cases c;exact .inr e;exact .inl ⟨k,z,by omega,c,e⟩;rintro (⟨k,z,hk,c,e⟩|e);exact⟨k,z,by omega,c,e⟩;exact⟨j,y,by omega,u,e⟩
   rw[e1,e2];cases d<;>cases p<;>simp)
  rw[g1];simp only[oB];dsimp only at Q U;have e:(d && p)=dec (CycP t l g op):=by rw[Q,U,dec_and];refine r9 ⟨fun⟨D,k,y,_,u,e⟩=>⟨⟨⟨A,o1⟩,G⟩,fun z c=> ?_,y,(r y).1 (j8 u),e⟩,fun⟨_,D,y,u,e⟩=>⟨fun k z _ c=>D z ((r z).1 (j8 c)),?_⟩⟩;obtain⟨q,_,B,M⟩:=n9 ((r z).2 c);exact D q z B M;obtain⟨q,_,B,M⟩:=n9 ((r y).2 u);exact⟨q,y,B,M,e⟩
  rw[e];by_cases h:CycP t l g op;rw[ifP h,ifP h];rw[ifN h,ifN h];rw[ifP G,ifN (fun h=>G h.1.2)]
 rcases F5 (body:=M9 g v all t (l g)) (n:=(lm t.operators:Int)) (fun op=>if dec (CycP t l g op)=true then some op else none) (by omega) (fun op A o1 _=>by rw[one op A o1];by_cases h:CycP t l g op;rw[ifP h];rw[ifN h]) with⟨D,E⟩|⟨op,o,A,o1,E,h3,h4⟩
 ·rw[D]
  refine⟨-1,rfl,.inl ⟨rfl,fun op h=> ?_⟩⟩
  have:=E op h.1.1.1 h.1.1.2
  rw[ifP h] at this;cases this
 ·rw[h4]
  split at E
  ·rename_i e
   cases E
   refine⟨op,rfl,.inr ⟨n7.1 e,fun q q0 B h=> ?_⟩⟩
   have:=h3 q q0 B
   rw[ifP h] at this;cases this
  ·cases E
def E1.bnd{t:b9}{all:LL}(a:ClO t all)(h:E1 t all l):∀s ∈ all, -1<=l s/\l s<=100000:=fun s b=>by have:=h.lt a b;have:=a.len;rcases h.val s b with⟨e,_⟩|⟨k,e,_⟩<;>omega
def E1.has{t:b9}{all:LL}(r:ClO t all)(h:E1 t all l)(g:b ∈ all)(u:0<=l b)(i:¬ i6 t b):∃op,CycP t l b op:=by
 rcases h.val b g with⟨e,_⟩|⟨k,e,hk⟩;omega;cases k with
 |zero=>exact absurd hk.1 i
 |succ k=>
  obtain⟨_,_,op,j,n,a,y,c,d⟩:=hk.step
  refine⟨op,⟨j,n⟩,fun z o=>(a z o).2,y,c,?_⟩
  rcases h.val y (a y c).1 with⟨_,q⟩|⟨m,q,p⟩
  ·exact absurd d.1 (q k)
  ·rw[q,p.unique d];omega
def cpolicy_spec{t:b9}(k:j6 t):(E6 t=some ([],false)/\A7 t 2000=some ([],false)/\F9 t=some ([],false,⟨10, -7⟩))\/∃all v f,E6 t=some (all,true)/\A7 t 2000=some (all,true)/\ClO t all/\Rep all v f/\E1 t all f/\
  ((f t.init= -1/\F9 t=some ([],false,⟨0,0⟩))\/∃j,ChOk t j/\(∀s,RchC t j s->s ∈ all/\0<=f s)/\(∀s,RchC t j s->¬ i6 t s->FirstC t f s (j s))/\
   ((F9 t=some ([],false,⟨10, -8⟩)/\∃l:LL,l.Nodup/\(∀s ∈ l,RchC t j s/\¬ i6 t s)/\(lm l)=201)\/∃p,F9 t=some (p,true,⟨0,0⟩)/\PolB t j p/\(lm p)<=200)):=by
 unfold F9
 rw[explore_ok k]
 rcases aB1 k with⟨all,q,x,u,D,_⟩|⟨q,x⟩
 ·right
  have h:ClO t all:=⟨u,D⟩
  have E:=h.len
  obtain⟨v,f,G,z,w⟩:=aF2 k h
  obtain⟨i,H,A⟩:=z.of u.init
  refine⟨all,v,f,q,x,h,z,w,?_⟩
  rw[q]
  simp only[oB,if_true]
  rw[if_neg (by simp),G]
  simp only[oB,ad3 D (show (lm all)<=500000 by omega) H,A]
  by_cases F:f t.init<0
  ·rw[if_pos F]
   refine .inl ⟨?_,rfl⟩
   have:=(w.bnd h _ u.init).1;omega
  ·rw[if_neg F]
   right
   have step:∀s,s ∈ all->0<=f s->¬ i6 t s->∃b,w7 s v all t=some b/\FirstC t f s b:=fun s c J d=>by obtain⟨b,g,b2⟩:=cycChoice k h z (w.bnd h) c;refine⟨b,g,?_⟩;rcases b2 with⟨_,b2⟩|b2;obtain⟨op,K⟩:=w.has h c J d;exact absurd K (b2 op);exact b2
   have a:∀s,RchC t (fun s=>(w7 s v all t).getD (-1)) s->s ∈ all/\0<=f s:=fun s c=>by
    induction c with
    |init=>exact⟨u.init,by omega⟩
    |@step s y _ d n B=>
     obtain⟨b,g,b2⟩:=step s B.1 B.2 d
     have e:(w7 s v all t).getD (-1)=b:=by rw[g];rfl
     unfold nxC at n
     dsimp only at n
     rw[e] at n
     exact⟨h.sc B.1 b2.1.1.1 b2.1.1.2 n,b2.1.2.1 y n⟩
   have hk:ChOk t (fun s=>(w7 s v all t).getD (-1)):=fun s c d=>by obtain⟨b,g,b2⟩:=step s (a s c).1 (a s c).2 d;dsimp only;rw[g];exact b2.1.1
   refine⟨_,hk,a,fun s c d=> ?_,?_⟩
   ·obtain⟨b,g,b2⟩:=step s (a s c).1 (a s c).2 d
    have e:(w7 s v all t).getD (-1)=b:=by rw[g];rfl
    exact(show FirstC t f s ((w7 s v all t).getD (-1)) by rw[e];exact b2)
   ·obtain⟨r,L,o⟩:=build_prog k hk (choose:=fun M=>w7 M v all t) (fun s c d=>by obtain⟨b,g,_⟩:=step s (a s c).1 (a s c).2 d;show w7 s v all t=some ((w7 s v all t).getD (-1));rw[g];rfl)
    rw[L]
    rcases o with⟨rfl,o⟩|⟨p,rfl,o⟩
    ·exact .inl ⟨rfl,o⟩
    ·exact .inr ⟨p,rfl,o⟩
 ·left
  rw[q]
  exact⟨rfl,x,rfl⟩
def RkP(t:b9)(p:List f8):Nat->Li->Prop
 |0,s=>i6 t s
 |k+1,s=>i6 t s\/(T9 p s/\∃y ∈ nxS t p s,RkP t p k y)
def RkP.goal{t:b9}(h:i6 t b):RkP t c n b:=by
 cases n with
 |zero=>exact h
 |succ n=>exact .inl h
def RkP.succ{t:b9}:∀{k:Nat} {s:Li},RkP t c k s->RkP t c (k+1) s
 |0,s,h=>.inl h
 |k+1,s,h=>by rcases h with h|⟨a,y,b,d⟩;exact .inl h;exact .inr ⟨a,y,b,d.succ⟩
def RkP.mono{t:b9}{m:Nat}(h:RkP t c n b)(a:n<=m):RkP t c m b:=by
 induction a with
 |refl=>exact h
 |step _ d=>exact d.succ
def HtR(t:b9)(p:List f8)(k:Nat)(s:Li):Prop:=RkP t p k s/\∀j,j<k->¬ RkP t p j s
def HtR.unique{t:b9}{p:List f8}{m:Nat}(h:HtR t p n b)(a:HtR t p m b):n=m:=by rcases kp n m with c|c|c;exact absurd h.1 (a.2 n c);exact c;exact absurd a.1 (h.2 m c)
def HtR.of_dn{t:b9}{p:List f8}:∀{k:Nat} {s:Li},RkP t p k s->∃m,m<=k/\HtR t p m s
 |0,s,h=>⟨0,jz _,h,fun j a=>by omega⟩
 |k+1,s,h=>by by_cases c:RkP t p k s;obtain⟨m,e,b⟩:=HtR.of_dn c;exact⟨m,by omega,b⟩;exact⟨k+1,jz _,h,fun j a d=>c (d.mono (by omega))⟩
def HtR.chain{t:b9}{p:List f8}(e:Vis t p d):∀{k:Nat} {s:Li},s ∈ d->HtR t p k s->∃c:LL,lm c=k+1/\c.Nodup/\∀x ∈ c,x ∈ d/\∃j,j<=k/\HtR t p j x
 |0,s,b,h=>⟨[s],rfl,by simp,fun x a=>by rw[jB.1 a];exact⟨b,0,jz _,h⟩⟩
 |k+1,s,b,h=>by have f:¬ i6 t s:=fun g=>h.2 0 (by omega) g;rcases h.1 with g|⟨i,y,n,q⟩;exact absurd g f;have r:HtR t p k y:=⟨q,fun j D u=>h.2 (j+1) (by omega) (.inr ⟨i,y,n,u⟩)⟩;obtain⟨c,c1,v,o⟩:=HtR.chain e (e.closed s b f i y n) r;refine⟨s::c,by simp[c1],km.2 ⟨fun w=> ?_,v⟩,fun x a=> ?_⟩;obtain⟨_,j,E,z⟩:=o s w;have:=z.unique h;omega;rcases kd.1 a with rfl|a;exact⟨b,k+1,jz _,h⟩;obtain⟨A,j,F,B⟩:=o x a;exact⟨A,j,by omega,B⟩
def HtR.lt{t:b9}{p:List f8}(a:Vis t p d)(e:b ∈ d)(h:HtR t p n b):n<lm d:=by obtain⟨c,c1,f,g⟩:=h.chain a e;have:=V1 f fun x i=>(g x i).1;omega
structure CanOk(t:b9)(p:List f8)(l:LL)(f:Li->Int):Prop where
 b:∀s ∈ l,f s=0\/f s=1
 ok:∀s ∈ l,f s=1->∃k,RkP t p k s
/-! ### The coin -/
def lower_loop{l:LL}{Low:(Li->Int)->Prop}{Fix:(Li->Int)->Li->Prop}{b3:Int->(Li×Bool)->Option (Li×Bool)}{body:(Li×Bool)->Option ((Li×Bool)⊕Li)}
  (f:∀v b,body (v,b)=if b=true then(forR 0 (lm l:Int) b3 (v,false)).bind fun x=>some (.inl (x.1,x.2)) else some (.inr v))
  (c:∀g a:Li->Int,(∀z ∈ l,g z=a z)->∀s ∈ l,Fix g s->Fix a s)
  (step:∀i s v g b,ix l i=some s->Rep l v g->Low g->∃p a u,b3 i (v,b)=some (p,u)/\Rep l p a/\Low a/\((u=b/\p=v/\Fix g s)\/(u=true/\sumN p<sumN v)))
  {v0:Li} {y:Li->Int} (J:Rep l v0 y) (K:Low y):∃v g,Loop body (v0,true)=some v/\Rep l v g/\Low g/\∀s ∈ l,Fix g s:=by
 obtain⟨v,L,g,M,N,O⟩:=x9 (body:=body) (fun x=>∃g,Rep l x.1 g/\Low g/\(x.2=false->∀s ∈ l,Fix g s)) (fun v=>∃g,Rep l v g/\Low g/\∀s ∈ l,Fix g s) (fun x=>2 * sumN x.1+(if x.2=true then 1 else 0)) (s:=(v0,true)) ⟨y,J,K,fun h=>by cases h⟩ (fun⟨v,b⟩ ⟨g,q,A,G⟩=>by
  dsimp only at q G ⊢;rw[f];cases b with
  |false=>
   rw[if_neg (by simp)]
   exact .inr ⟨v,rfl,g,q,A,G rfl⟩
  |true=>
   rw[if_pos rfl]
   obtain⟨⟨p,u⟩,P,a,H,Q,d⟩:=m5 (body:=b3) (n:=(lm l:Int)) (s:=(v,false)) (fun j x=>∃a,Rep l x.1 a/\Low a/\((x.2=false/\x.1=v/\∀i s,i<j->ix l i=some s->Fix g s)\/(x.2=true/\sumN x.1<sumN v))) (by omega) ⟨g,q,A,.inl ⟨rfl,rfl,fun i s B k=>by have:=(m8 k).1;omega⟩⟩ (fun j ⟨x,U⟩ V X ⟨a,D,q2,o⟩=>by dsimp only at D o ⊢;obtain⟨s,k,_⟩:=j9 (l:=l) V X;obtain⟨x',E,aa,w1,w2,w3,w⟩:=step j s x a U k D q2;rw[w1];refine⟨_,rfl,E,w2,w3,?_⟩;dsimp only;rcases w with⟨rfl,rfl,w⟩|⟨rfl,w⟩;rcases o with⟨p1,rfl,p3⟩|o;refine .inl ⟨p1,rfl,fun i z B r=> ?_⟩;by_cases e:i=j;subst e;rw[k] at r;cases r;refine c a g (fun z r=> ?_) s (j8 k) w;obtain⟨iz,F,t⟩:=q.of r;rw[D.get F] at t;exact Option.some.inj t;exact p3 i z (by omega) r;exact .inr o;right;refine⟨rfl,?_⟩;rcases o with⟨_,rfl,_⟩|⟨_,o⟩<;>omega)
   rw[P]
   simp only[oB]
   dsimp only at H d
   refine .inl ⟨_,rfl,?_,?_⟩
   ·rcases d with⟨rfl,rfl,d⟩|⟨rfl,d⟩
    ·exact⟨g,q,A,fun _ s k=>by obtain⟨i,_,i1,B⟩:=n9 k;exact d i s i1 B⟩
    ·exact⟨a,H,Q,fun h=>by cases h⟩
   ·dsimp only
    rcases d with⟨rfl,rfl,d⟩|⟨rfl,d⟩
    ·simp
    ·simp;omega)
 exact⟨v,g,L,M,N,O⟩
def MN(g:Li->Int)(l:LL)(m:Int):Prop:=m<=1000000000/\(∀y ∈ l,m<=g y)/\(m=1000000000\/∃y ∈ l,g y=m)
def MN.congr{b:Li->Int}{m:Int}(h:MN l d m)(e:∀y ∈ d,l y=b y):MN b d m:=by refine⟨h.1,fun y a=>by rw[<- e y a];exact h.2.1 y a,?_⟩;rcases h.2.2 with h|⟨y,a,c⟩;exact .inl h;exact .inr ⟨y,a,by rw[<- e y a];exact c⟩
def MN.unique{m:Int}(h:MN l d m)(e:MN l d x):m=x:=by obtain⟨a1,a,f⟩:=h;obtain⟨i,b2,b3⟩:=e;rcases f with rfl|⟨y,b,rfl⟩<;>rcases b3 with rfl|⟨z,c,rfl⟩;rfl;have:=a z c;omega;have:=b2 y b;omega;have:=a z c;have:=b2 y b;omega
def leastG{t:b9}(w:j6 t){all:LL}(D:Ord all)(x:SetN b t.facts){op:Int}(p:0<=op/\op<lm t.operators)(q:∀y ∈ sc t b op,y ∈ all){v:Li}(E:Rep all v l):
  ∃m,ab7 t all v b op=some m/\MN l (sc t b op) m:=by
 obtain⟨st,F,G,_,H,_⟩:=J0 w p.1 p.2 x
 have f:∀y,y ∈ st↔y ∈ sc t b op:=fun y=>by rw[H,sc,jx]
 unfold ab7
 rw[an9 w p.1 p.2 x,G]
 simp only[oB]
 obtain⟨m,J,K,L,M⟩:=m5 (body:=al4 all v (st,F)) (n:=(lm st:Int)) (s:=1000000000) (fun j n=>n<=1000000000/\(∀k y,k<j->ix st k=some y->n<=l y)/\(n=1000000000\/∃y ∈ sc t b op,l y=n)) (by omega) ⟨jA _,fun k y hk h=>by have:=(m8 h).1;omega,.inl rfl⟩ (fun j n N O ⟨a1,B,P⟩=>by obtain⟨y,e,_⟩:=j9 (l:=st) N O;have o:=(f y).1 (j8 e);obtain⟨i,Q,r⟩:=E.of (q y o);unfold al4;dsimp only;rw[e];simp only[oB,as5 D Q,r];by_cases c:l y<n;rw[if_pos c];refine⟨_,rfl,by omega,fun k z hk d=> ?_,.inr ⟨y,o,rfl⟩⟩;by_cases u:k=j;subst u;rw[e] at d;cases d;exact jA _;have:=B k z (by omega) d;omega;rw[if_neg c];refine⟨_,rfl,a1,fun k z hk d=> ?_,P⟩;by_cases u:k=j;subst u;rw[e] at d;cases d;omega;exact B k z (by omega) d)
 rw[J]
 refine⟨m,rfl,K,fun y e=> ?_,M⟩
 obtain⟨k,_,U,hk⟩:=n9 ((f y).2 e)
 exact L k y U hk
structure LowR(t:b9)(p:List f8)(l:LL)(g:Li->Int):Prop where
 b:∀s ∈ l,0<=g s/\g s<=1000000000
 dn:∀s ∈ l,g s<1000000000->RkP t p (g s).toNat s
 goal:∀s ∈ l,i6 t s->g s=0
def FixR(t:b9)(p:List f8)(g:Li->Int)(s:Li):Prop:=¬ i6 t s->T9 p s->∀m,MN g (nxS t p s) m->g s<=m+1
def rKeeps_eq{t:b9}{p:List f8}(G:j6 t)(P:ak9 t p):ab9 t p=some (dec (∀s,Rch t p s->∃k,RkP t p k s)):=by
 obtain⟨l,v1,q⟩:=rVisited_eq G P;have ad:=q.len G P;unfold ab9;rw[v1];simp only[oB];rw[show mkL 8 (lm l:Int) (0:Int)=some (ju (lm l) 0) by rw[mkL,if_pos (by omega)];simp];simp only[oB];obtain⟨v0,a1,U,a2,a3⟩:=m5 (body:=al2 t l) (n:=(lm l:Int)) (s:=ju (lm l) 0) (fun j v=>∃g,Rep l v g/\∀i s,ix l i=some s->(i<j->(i6 t s->g s=0)/\(¬ i6 t s->g s=1000000000))/\(j<=i->g s=0)) (by omega) ⟨_,Rep.repl 0,fun i s J=>⟨fun h=>by have:=(m8 J).1;omega,fun _=>rfl⟩⟩ (fun j v j0 j1 ⟨g,E,x⟩=>by obtain⟨s,a,_⟩:=j9 (l:=l) j0 j1;unfold al2;rw[a];simp only[oB,ab2,x8];by_cases d:i6 t s;rw[ifNN d];refine⟨_,rfl,g,E,fun i z f=> ?_⟩;by_cases e:i=j;subst e;rw[a] at f;cases f;exact⟨fun _=>⟨fun _=>(x i s a).2 (jA _),fun h=>absurd d h⟩,fun h=>by omega⟩;exact⟨fun h=>(x i z f).1 (by omega),fun h=>(x i z f).2 (by omega)⟩;rw[ifP d,E.get a];simp only[oB];refine⟨_,rfl,_,E.set q.ord a 1000000000,fun i z f=> ?_⟩;by_cases e:i=j;subst e;rw[a] at f;cases f;rw[P1];exact⟨fun _=>⟨fun h=>absurd h d,fun _=>rfl⟩,fun h=>by omega⟩;rw[T0 (fun V=>e (q.ord.inj f (by rw[V];exact a)))];exact⟨fun h=>(x i z f).1 (by omega),fun h=>(x i z f).2 (by omega)⟩);rw[a1];simp only[oB];have K:LowR t p l U:=by
  have key:∀s ∈ l,(i6 t s->U s=0)/\(¬ i6 t s->U s=1000000000):=fun s a=>by obtain⟨i,_,X,J⟩:=n9 a;exact(a3 i s J).1 X
  refine⟨fun s a=> ?_,fun s a h=> ?_,fun s a d=>(key s a).1 d⟩;by_cases d:i6 t s;rw[(key s a).1 d];omega;rw[(key s a).2 d];omega;by_cases d:i6 t s;exact .goal d;rw[(key s a).2 d] at h;omega
 obtain⟨v,g,e1,e2,e3,e4⟩:=lower_loop (l:=l) (Low:=LowR t p l) (Fix:=FixR t p) (b3:=al7 t p l) (body:=ak3 t p l) (fun v b=>by unfold ak3;rfl) (fun g g' e s a h d r m Q=>by
   rw[<- e s a];exact h d r m (Q.congr fun y w=>(e y (q.closed s a d r y w)).symm)) (fun i s v g b a H r=>by
   have A:=j8 a;have L:=((q.mem s).1 A).set G;unfold al7;dsimp only;rw[a];simp only[oB,az3,ab2];by_cases c:i6 t s\/chO p s<0;rw[if_pos (by rw[ke,n7,decide_eq_true_eq];exact c)];refine⟨v,g,b,rfl,H,r,.inl ⟨rfl,rfl,fun d u=> ?_⟩⟩;rcases c with c|c;exact absurd c d;unfold T9 at u;omega;rw[if_neg (by rw[ke,n7,decide_eq_true_eq];exact c)];have d:¬ i6 t s:=fun h=>c (.inl h);have u:T9 p s:=by unfold T9;exact Int.not_lt.1 fun h=>c (.inr h)
   have ho:=live_op P u;obtain⟨m,m1,F⟩:=leastG G q.ord L ho.1 (fun y w=>q.closed s A d u y w) H;have aa:MN g (nxS t p s) m:=F;rw[m1];simp only[oB,H.get a];have ao:=r.b s A;have av:0<=m:=by rcases F.2.2 with h|⟨y,w,h⟩;omega;have:=(r.b y (q.closed s A d u y w)).1;omega
   have ay:=F.1;rw[k9 (by omega) (by omega)];by_cases cm:m+1<g s;rw[if_pos cm];refine⟨_,upd g s (m+1),true,rfl,H.set q.ord a _,⟨fun z f=> ?_,fun z f=> ?_,fun z f M=> ?_⟩,.inr ⟨rfl,aw3 (m8 (H.get a)).2.2 (by omega) cm⟩⟩;by_cases e:z=s;subst e;rw[P1];omega;rw[T0 e];exact r.b z f;by_cases e:z=s;subst e;rw[P1];intro _;rcases F.2.2 with h|⟨y,w,h⟩;omega;rw[show(m+1).toNat=m.toNat+1 by omega];have:=r.dn y (q.closed z A d u y w) (by omega);rw[h] at this;exact .inr ⟨u,y,w,this⟩;rw[T0 e];exact r.dn z f;by_cases e:z=s;subst e;exact absurd M d;rw[T0 e];exact r.goal z f M;rw[if_neg cm];refine⟨v,g,b,rfl,H,r,.inl ⟨rfl,rfl,fun _ _ m' ac=> ?_⟩⟩;rw[ac.unique aa];omega) a2 K
 rw[e1];simp only[oB];have le:∀k:Nat,∀s ∈ l,RkP t p k s->g s<=k:=fun k=>by
  induction k with
  |zero=>exact fun s a h=>by rw[e3.goal s a h];omega
  |succ k ih=>
   intro s a h
   by_cases d:i6 t s
   ·rw[e3.goal s a d];omega
   ·rcases h with h|⟨r,y,w,hk⟩
    ·exact absurd h d
    ·have ho:=live_op P r
     obtain⟨m,_,F⟩:=leastG G q.ord (((q.mem s).1 a).set G) ho.1 (fun y w=>q.closed s a d r y w) e2
     have:=e4 s a d r m F
     have:=F.2.1 y w
     have:=ih y (q.closed s a d r y w) hk
     omega
 have B:∀s ∈ l,g s<1000000000↔∃k,RkP t p k s:=fun s a=>⟨fun h=>⟨_,e3.dn s a h⟩,fun⟨k,hk⟩=>by obtain⟨m,_,Q⟩:=HtR.of_dn hk;have:=Q.lt q a;have:=le m s a Q.1;omega⟩;rcases F5 (body:=al6 v) (n:=(lm l:Int)) (fun j=>if dec (∃s,ix l j=some s/\1000000000<=g s)=true then some false else none) (by omega) (fun j h0 E _=>by obtain⟨s,a,_⟩:=j9 (l:=l) h0 E;unfold al6;rw[e2.get a];simp only[oB];by_cases c:1000000000<=g s;rw[if_pos c,ifP ⟨s,a,c⟩];rw[if_neg c,ifN (by rintro ⟨z,f,h⟩;rw[a] at f;cases f;exact c h)]) with⟨E,x⟩|⟨j,o,h0,E,x,h3,h4⟩;rw[E,l8];rfl;intro s a;have N:=(q.mem s).2 a;obtain⟨i,i0,X,J⟩:=n9 N;have:=x i i0 X;refine(B s N).1 (Int.not_le.1 fun h=> ?_);rw[ifP ⟨s,J,h⟩] at this;cases this;rw[h4];split at x;rename_i e;cases x;obtain⟨s,a,h⟩:=n7.1 e;rw[o8];rfl;intro O;have:=(B s (j8 a)).2 (O s ((q.mem s).1 (j8 a)));omega;cases x
def delB(f:Li->Option Bool):((LL)×Int×Int)->Option (((LL)×Int×Int)⊕((LL)×Int)):=fun(c,i,j)=>if j<(lm c:Int) then jD (jD (ix c j) fun a=>jD (f a) fun b=>if(!b)=true then jD (ix c i) fun _=>some (c.set i.toNat a,w64 (i+1)) else some (c,i)) fun⟨d,e⟩=>some (.inl (d,e,w64 (j+1))) else some (.inr (c,i))
noncomputable def delA(f:Li->Option Bool)(l:LL):Option (LL):=jD (A5 l f) fun c=>if c=(-1) then some l else jD (Loop (delB f) (l,c,w64 (c+1))) fun⟨b,a⟩=>jD (cutV (lm b:Int) a (lm b:Int)) fun d=>jD (cutV ((clrL b (0+a) ((lm b:Int) - a) []).length:Int) 0 a) fun e=>some (A9 (clrL b (0+a) ((lm b:Int) - a) []) 0 a)
def ay9{p:Li->Bool}{j:Nat}(h:j<lm d):(d.take (j+1)).filter p=if p d[j] then(d.take j).filter p++[d[j]] else(d.take j).filter p:=by rw[List.take_succ_eq_append_getElem h,List.filter_append];by_cases e:p d[j]=true;rw[if_pos e];simp[e];rw[if_neg e];simp[e]
def del_eq{g:Li->Prop}(hl:lm d<=1000000){f:Li->Option Bool}(X:∀a ∈ d,f a=some (dec (g a))):delA f d=some (d.filter fun a=> !dec (g a)):=by
 generalize hp:(fun a=> !dec (g a))=p;have b:∀a,p a= !dec (g a):=fun a=>by rw[<- hp]
 unfold delA A5;rcases F5 (body:=C4 d f) (n:=(lm d:Int)) (fun j=>if dec (∃x,ix d j=some x/\g x)=true then some j else none) (by omega) (fun j L D _=>by obtain⟨x,v,_⟩:=j9 (l:=d) L D;unfold C4;rw[v];simp only[oB,X x (j8 v)];by_cases e:g x;rw[ifP e,ifP ⟨x,rfl,e⟩];rw[ifN e,ifN (by rintro ⟨y,hy,q⟩;cases hy;exact e q)]) with⟨D,w⟩|⟨j,o,L,D,w,h3,h4⟩;rw[D];simp only[oB,if_true];congr 1;refine(kW.2 fun a M=> ?_).symm;rw[b,o8];rfl;intro q;obtain⟨i,i0,i1,hi⟩:=n9 M;have:=w i i0 i1;rw[ifP ⟨a,hi,q⟩] at this;cases this;rw[h4];split at w;rename_i e;cases w;simp only[oB];rw[if_neg (by omega)];obtain⟨J,rfl⟩:=jp L;have l:J<lm d:=by omega
 obtain⟨x,v,N⟩:=n7.1 e;have hF:(d.take J).filter p=d.take J:=kW.2 fun a M=>by
  rw[b,o8];rfl;intro q;obtain⟨k,hk,rfl⟩:=jH M;rw[jR] at hk;have O:k<lm d:=by omega
  rw[List.getElem_take] at q;have:=h3 k (by omega) (by omega);rw[ifP ⟨d[k],by rw[j7];exact jo O,q⟩] at this;cases this
 have z:(d.take (J+1)).filter p=d.take J:=by rw[ay9 l,if_neg,hF];rw[j7,jo l] at v;rw[b,Option.some.inj v,l8 N];simp
 rw[show w64 ((J:Int)+1)=((J+1:Nat):Int) by rw[k9 (by omega) (by omega)];omega];obtain⟨⟨c,i⟩,k1,P⟩:=x9 (body:=delB f) (fun q=>∃i j:Nat,q.2=((i:Int),(j:Int))/\i<j/\j<=lm d/\q.1.length=lm d/\((d.take j).filter p).length=i/\(∀k,k<i->q.1[k]? =((d.take j).filter p)[k]?)/\∀k,j<=k->q.1[k]? =d[k]?)
  (fun r=>r.1.length=lm d/\(r.2=((d.filter p).length:Int))/\(d.filter p).length<=lm d/\∀k,k<(d.filter p).length->r.1[k]? =(d.filter p)[k]?) (fun q=>((lm d:Int) - q.2.2).toNat) (s:=(d,(J:Int),((J+1:Nat):Int)))
  ⟨J,J+1,rfl,by omega,by omega,rfl,by rw[z,jR];omega,fun k hk=>by rw[z,kf,if_pos hk],fun k _=>rfl⟩ (fun⟨c,q⟩ ⟨i,j,e0,e1,e2,E,G,A,H⟩=>by
  dsimp only at e0 E A H
  subst e0
  unfold delB
  dsimp only
  by_cases cj:(j:Int)<lm c
  ·rw[if_pos cj]
   have Q:j<lm d:=by omega
   have U:ix c (j:Int)=some d[j]:=by rw[j7,H j (jz _)];exact jo Q
   have V:ix c (i:Int)=some c[i]:=by rw[j7];exact jo (by omega)
   have wj:w64 ((j:Int)+1)=((j+1:Nat):Int):=by rw[k9 (by omega) (by omega)];omega
   have wi:w64 ((i:Int)+1)=((i+1:Nat):Int):=by rw[k9 (by omega) (by omega)];omega
   simp only[U,oB,X _ (jv Q),x8]
   have t:=ay9 (p:=p) Q
   by_cases K:g d[j]
   ·rw[ifNN K]
    simp only[oB,wj]
    rw[b,l8 K,if_neg (by simp)] at t
    refine .inl ⟨_,rfl,⟨i,j+1,rfl,by omega,by omega,E,by rw[t];exact G,fun k hk=>by rw[t];exact A k hk,fun k hk=>H k (by omega)⟩,by dsimp only;omega⟩
   ·rw[ifP K]
    simp only[V,oB,wi,wj,js]
    rw[b,o8 K,if_pos (by simp)] at t
    refine .inl ⟨_,rfl,⟨i+1,j+1,rfl,by omega,by omega,by rw[lS];exact E,by rw[t,jt,jy,G],fun k hk=> ?_,fun k hk=> ?_⟩,by dsimp only;omega⟩
    ·dsimp only
     rw[t,jV]
     by_cases h:i=k
     ·subst h;rw[if_pos rfl,if_pos (by omega),jG (by omega),G,Nat.sub_self];rfl
     ·rw[if_neg h,jw (by omega)];exact A k (by omega)
    ·dsimp only
     rw[jV,if_neg (by omega)];exact H k (by omega)
  ·rw[if_neg cj]
   have ej:j=lm d:=by omega
   rw[ej,kH] at G A
   exact .inr ⟨_,rfl,E,by dsimp only;omega,by omega,fun k hk=>A k (by omega)⟩)
 obtain⟨P,k3,k4,k5⟩:=P;dsimp only at P k3 k4 k5;subst k3;rw[k1];simp only[oB];generalize aa:d.filter p=F at *;have B:(clrL c (0+(lm F:Int)) ((lm c:Int) - (lm F)) []).length=lm c:=by unfold clrL;simp only[jt,jR,List.length_replicate,ll];omega
 rw[show cutV (lm c:Int) (lm F:Int) (lm c:Int)=some () by unfold cutV;rw[if_pos (by omega)],B,show cutV (lm c:Int) 0 (lm F:Int)=some () by unfold cutV;rw[if_pos (by omega)]];simp only[oB];congr 1;unfold A9 clrL;rw[show(0+(lm F:Int)).toNat=lm F by omega,js,kP,List.drop_zero];apply kD;intro k;rw[kf];by_cases h:k<lm F;rw[if_pos h,kC,jw (by rw[jR];omega),kf,if_pos h,k5 k h];rw[if_neg h,ku (by omega)];cases w
noncomputable def pnd(t:b9)(l:LL):LL:=l.filter fun a=> !dec (i6 t a)
def mem_pnd{t:b9}:b ∈ pnd t d↔b ∈ d/\¬ i6 t b:=by unfold pnd;rw[kM];by_cases c:i6 t b;rw[l8 c];simp[c];rw[o8 c];simp[c]
def Ord.pnd{t:b9}(h:Ord d):Ord (pnd t d):=kr.filter _ h
def pending_eq{t:b9}(c:j6 t)(e:lm d<=1000000)(f:∀s ∈ d,SetN s t.facts):L9 t d=some (pnd t d):=by have h:L9 t d=(delA (fun y=>M0 y t) d).bind fun a=>some a:=rfl;rw[h,del_eq (g:=i6 t) e fun a i=>by have b:=f a i;unfold M0;rw[X0 b.1 c.goal.1 (by have:=b.len;have:=c.n1;omega)];rfl];rfl
def rPending_eq{t:b9}{l:LL}(p:lm l<=1000000):ag4 t l=some (pnd t l):=by
 unfold ag4;obtain⟨r,h,b⟩:=m5 (body:=ae4 t l) (n:=(lm l:Int)) (s:=[]) (fun j c=>c=(l.take j.toNat).filter fun a=> !dec (i6 t a)) (by omega) (by simp) (fun j c i q e=>by
  obtain⟨J,rfl⟩:=jp i;have f:J<lm l:=by omega
  rw[js] at e;have k:ix l (J:Int)=some l[J]:=by rw[j7];exact jo f
  have u:lm c<=1000000:=by have:=kQ (fun a=> !dec (i6 t a)) (l.take J);rw[jR] at this;rw[e];omega
  unfold ae4;simp only[k,oB,ab2];rw[show((J:Int)+1).toNat=J+1 by omega,ay9 f,<- e];by_cases g:i6 t l[J];rw[l8 g];exact⟨_,rfl,rfl⟩;have o:app 24 c [l[J]]=some (c++[l[J]]):=by unfold app;rw[if_pos (by simp;omega)]
  rw[o8 g,o];exact⟨_,rfl,rfl⟩)
 rw[h];rw[js,kH] at b;rw[b];rfl
structure Sol(t:b9)(S:LL)(op:Nat->Int)(st:Nat->LL)(w:Nat->Li)(sg:Int)(num:Nat->Nat)(den:Nat):Prop where
 s1:sg=1\/sg= -1
 d0:0<den
 d1:den<=254803968
 n1:∀i,i<lm S->num i<=63700992000
 dd:det (lm S) (eqN t S op st w)=sg * den
 nn:∀l,l<lm S->det (lm S) (rep (eqN t S op st w) l fun r=>eqN t S op st w r (lm S))=sg * num l
 vf:Vf (lm S) (WF st w) (wG S st w) (cF t op) (fun i=>(num i:Int)) den
def solved{t:b9}{S:LL}{op:Nat->Int}{st:Nat->LL}{w:Nat->Li}(u:j6 t)(h:Sys t S op st w)(F:∀i,i<lm S->Px (lm S) (WF st w) (wG S st w) i){choose:Li->Option Int}(z:∀i s,S[i]? =some s->choose s=some (op i)):
  ∃a num den L N,Sol t S op st w a num den/\forR 0 (lm S:Int) (H0 t S choose) []=some L/\D2 S L=some (N,a * (den:Int))/\(lm N)=lm S/\∀i:Nat,i<lm S->ix N (i:Int)=some (a * (num i:Int)):=by
 obtain⟨L,N,Q,U,V,k4,X,G⟩:=value_ok u h F z
 have H:=as8 u h
 have J:=sys_rb u h
 have B:=h.n5
 generalize K:det (lm S) (eqN t S op st w)=D at *
 have q:=det_top J (jz _)
 rw[K] at q
 have E:ab D<=254803968:=by
  refine jK q ?_;have:∀n,n<=5->(48:Int) ^ n<=254803968:=by decide
  exact this _ B
 have M:∀l,l<lm S->wtj N l=det (lm S) (rep (eqN t S op st w) l fun r=>eqN t S op st w r (lm S)):=fun l g=>by unfold wtj;rw[X l g];rfl
 have hN:∀l,l<lm S->ab (wtj N l)<=63700992000:=fun l g=>by
  rw[M l g];obtain⟨m,hm⟩:∃m,lm S=m+1:=⟨lm S - 1,by omega⟩;have:=J.rep2 (c:=m) (i:=l) (by omega) (by omega);rw[hm] at this ⊢;refine jK this ?_;have:∀n:Nat,n<=4->((n:Int)+1) * 2400 * 48 ^ n<=63700992000:=by decide
  exact this m (by omega)
 obtain⟨a,den,p,v,e3⟩:∃(a:Int) (den:Nat),(a=1\/a= -1)/\D=a * (den:Int)/\0<den:=by by_cases c:0<D;obtain⟨d,rfl⟩:=jp (Int.le_of_lt c);exact⟨1,d,.inl rfl,by omega,by omega⟩;obtain⟨d,hd⟩:=jp (show 0<= -D by omega);exact⟨-1,d,.inr rfl,by omega,by omega⟩
 have pos:∀l,l<lm S->0<=a * wtj N l:=pos0 H (b:=fun _=>0) F (y:=fun k=>a * wtj N k) fun r x=>by
  have hx:smN (lm S) (fun k=>eqM (lm S) (WF st w) (wG S st w) (fun _=>0) r k * (a * wtj N k))=a * smN (lm S) (fun k=>eqN t S op st w r k * wtj N k):=by
   rw[<- B6];exact m7 fun k hk=>by
    have:eqM (lm S) (WF st w) (wG S st w) (fun _=>0) r k=eqN t S op st w r k:=by unfold eqN eqM;rw[if_neg (show ¬ k=lm S by omega),if_neg (show ¬ k=lm S by omega)]
    rw[this];grind
  rw[hx,G r x,v];have hc:=(u.at (h.rng r x).1 (h.rng r x).2).c0;have h3:=H.pos r x;have:0<=WF st w r * cF t op r:=jE (by omega) hc;have e:a * (a * (den:Int) * (WF st w r * cF t op r))=(den:Int) * (WF st w r * cF t op r):=by rcases p with rfl|rfl<;>grind
  rw[e];exact jE (by omega) this
 have num:∀l,((a * wtj N l).toNat:Int)=if l<lm S then a * wtj N l else((a * wtj N l).toNat:Int):=fun l=>by split;rename_i g;have:=pos l g;omega;rfl
 have f:∀l,l<lm S->((a * wtj N l).toNat:Int)=a * wtj N l:=fun l g=>by have:=num l;rw[if_pos g] at this;exact this
 have j:∀l,l<lm S->wtj N l=a * ((a * wtj N l).toNat:Int):=fun l g=>by rw[f l g];rcases p with rfl|rfl<;>omega
 refine⟨a,fun l=>(a * wtj N l).toNat,den,L,N,⟨p,e3,?_,fun i o=> ?_,by rw[K];exact v,fun l g=> ?_,?_,fun i o=> ?_⟩,Q,by rw[U,v],V,fun i o=> ?_⟩
 ·have:=ab_le E
  rcases p with rfl|rfl<;>omega
 ·have O:=ab_le (hN i o)
  have P:=f i o
  rcases p with rfl|rfl<;>omega
 ·rw[<- M l g];exact j l g
 ·omega
 ·have O:=G i o
  rw[av2 (jz _) o,v] at O
  unfold Qv
  have P:smN (lm S) (fun k=>wG S st w i k * ((a * wtj N k).toNat:Int))=a * smN (lm S) (fun k=>wG S st w i k * wtj N k):=by rw[<- B6];exact m7 fun k hk=>by rw[f k hk];grind
  rw[P,f i o]
  generalize smN (lm S) (fun k=>wG S st w i k * wtj N k)=A at *
  rcases p with rfl|rfl<;>grind
 ·rw[Q6 (by omega),<- j i o]
def report_eq{sg:Int}(f:sg=1\/sg= -1){a b:Nat}(g:a<=4000000000000000000)(h:b<=4000000000000000000)(d:0<b):
  ac4 (sg * (a:Int)) (sg * (b:Int))=some (if(frN a b).num<=1000000000/\(frN a b).den<=1000000000 then(frN a b,⟨0,0⟩) else(⟨0,0⟩,⟨10, -2⟩)):=by
 have e:G0 (sg * (a:Int)) (sg * (b:Int))=G0 (a:Int) (b:Int):=by rcases f with rfl|rfl;rw[kc,kc];rw[show -1 * (a:Int)= -(a:Int) by omega,show -1 * (b:Int)= -(b:Int) by omega,lowest_neg g h d]
 unfold ac4
 rw[e,lowest_pos g h d]
 simp only[oB]
 by_cases c:(frN a b).num<=1000000000/\(frN a b).den<=1000000000
 ·rw[l8 c,if_pos c];rfl
 ·rw[o8 c,if_neg c];rfl
noncomputable def rsO(t:b9)(s:Li)(op:Int):LL×Li:=(A8 t s op).getD ([],[])
def Wok.rs{t:b9}{op:Int}{st:LL}{w:Li}(h:Wok t b op st w):(rsO t b op).1=st/\(rsO t b op).2=w:=by unfold rsO;rw[h.eq];exact⟨rfl,rfl⟩
def at0{t:b9}(c:j6 t){op:Int}(a:0<=op/\op<lm t.operators)(d:SetN b t.facts):Wok t b op (rsO t b op).1 (rsO t b op).2:=by obtain⟨st,w,h⟩:=results_ok c a.1 a.2 d;rw[h.rs.1,h.rs.2];exact h
noncomputable def vG(t:b9)(v:Li->Int)(y:Li):Int:=if dec (i6 t y)=true then 0 else v y
noncomputable def WS(t:b9)(s:Li)(op:Int):Int:=smN (rsO t s op).1.length (wtj (rsO t s op).2)
noncomputable def CS(t:b9)(v:Li->Int)(s:Li)(op:Int):Int:=smN (rsO t s op).1.length fun j=>wtj (rsO t s op).2 j * vG t v (((rsO t s op).1[j]?).getD [])
noncomputable def QS(t:b9)(v:Li->Int)(den:Int)(s:Li)(op:Int):Int:=CS t v s op+WS t s op * (ooAt t op).cost * den
structure StS(t:b9)(S:LL):Prop where
 ord:Ord S
 n5:lm S<=5
 set:∀s ∈ S,SetN s t.facts
 ng:∀s ∈ S,¬ i6 t s
def Alw(t:b9)(S:LL)(s:Li)(op:Int):Prop:=(0<=op/\op<lm t.operators)/\oCan t s op/\∀y ∈ sc t s op,i6 t y\/y ∈ S
def sN(S:LL)(i:Nat):Li:=(S[i]?).getD []
def sN_eq{S:LL}(h:S[n]? =some b):sN S n=b:=by unfold sN;rw[h];rfl
def sys_op{t:b9}{S:LL}{op:Nat->Int}(g:j6 t)(b:StS t S)(c:∀i s,S[i]? =some s->Alw t S s (op i)):Sys t S op (fun i=>(rsO t (sN S i) (op i)).1) (fun i=>(rsO t (sN S i) (op i)).2):=by
 have a:∀i,i<lm S->S[i]? =some (sN S i):=fun i a=>by unfold sN;rw[jo a];rfl
 have d:∀i,i<lm S->Wok t (sN S i) (op i) (rsO t (sN S i) (op i)).1 (rsO t (sN S i) (op i)).2:=fun i h=>at0 g (c i _ (a i h)).1 (b.set _ (jJ (a i h)));refine⟨b.ord,b.n5,b.set,b.ng,fun i h=>(c i _ (a i h)).1,fun i s f=> ?_,fun i h y j=> ?_⟩;obtain⟨k,_⟩:=lG.1 f;have:=d i k;rw[sN_eq f] at this ⊢;exact this;obtain⟨x,l,e⟩:=((d i h).mem y).1 j;exact(c i _ (a i h)).2.2 y (jx.2 ⟨x,l,e⟩)
def Sys.ws{t:b9}{S:LL}{op:Nat->Int}{st:Nat->LL}{w:Nat->Li}(h:Sys t S op st w)(a:S[n]? =some b):WF st w n=WS t b (op n):=by obtain⟨c,d⟩:=(h.res n b a).rs;unfold WF WS;rw[c,d]
def Sys.cs{t:b9}{S:LL}{op:Nat->Int}{st:Nat->LL}{w:Nat->Li}(h:Sys t S op st w)(l:S[n]? =some g)(v:Li->Int):smN (lm S) (fun k=>wG S st w n k * v (sN S k))=CS t v g (op n):=by
 obtain⟨o,_⟩:=lG.1 l;obtain⟨u,x⟩:=(h.res n g l).rs;unfold CS;rw[u,x];have a:smN (lm S) (fun k=>wG S st w n k * v (sN S k))=smN (lm S) fun k=>smN (st n).length fun j=>(if(st n)[j]? =S[k]? then wtj (w n) j else 0) * v (sN S k):=m7 fun k hk=>by unfold wG wF;rw[if_pos o,jo hk,jO];unfold twF;rw[<- B6];exact m7 fun j _=>jO _ _
 rw[a,smN_comm];refine m7 fun j p=> ?_;have f:(st n)[j]? =some (st n)[j]:=jo p;rw[f];unfold vG;show _=wtj (w n) j * if dec (i6 t (st n)[j])=true then 0 else v (st n)[j];by_cases c:i6 t (st n)[j];rw[ifP c,Int.mul_zero];refine am3 fun k hk=> ?_;rw[if_neg,kY];intro q;exact h.ng _ (jJ q.symm) c;rw[ifN c];obtain⟨k,hk,e⟩:=jH ((h.cl n o _ (jv p)).resolve_left c);have d:S[k]? =some (st n)[j]:=by rw[jo hk,e]
 rw[R3 (a:=k) hk fun y r z=> ?_,if_pos d.symm,sN_eq d];rw[if_neg,kY];intro q;have a:ix S (k:Int)=some (st n)[j]:=by rw[j7,d]
 have b:ix S (y:Int)=some (st n)[j]:=by rw[j7,<- q]
 have:=h.ord.inj a b;omega
def Sys.qs{t:b9}{S:LL}{op:Nat->Int}{st:Nat->LL}{w:Nat->Li}(h:Sys t S op st w)(a:S[n]? =some b){v:Li->Int}{num:Nat->Int}(c:∀k,k<lm S->num k=v (sN S k)){den:Int}:Qv (lm S) (WF st w) (wG S st w) (cF t op) num den n=QS t v den b (op n):=by unfold Qv QS;rw[h.ws a,<- h.cs a v];rw[m7 (g:=fun k=>wG S st w n k * v (sN S k)) fun k hk=>by rw[c k hk]];rfl
def Sys.wy{t:b9}{S:LL}{op:Nat->Int}{st:Nat->LL}{w:Nat->Li}(h:Sys t S op st w)(l:Px (lm S) (WF st w) (wG S st w) n):Wy t S st n:=by
 induction l with
 |@exit n b a=>
  by_cases e:∃y ∈ st n,i6 t y
  ·obtain⟨y,o,p⟩:=e;exact .exit b o p
  ·exfalso
   rw[lead_sum h b] at a
   have:smN (st n).length (fun j=>if dec (∃y ∈ S,(st n)[j]? =some y)=true then wtj (w n) j else 0)=smN (st n).length (wtj (w n)):=m7 fun j f=>by rw[if_pos];refine l8 ⟨(st n)[j],(h.cl n b _ (jv f)).resolve_left fun g=>e ⟨_,jv f,g⟩,jo f⟩
   rw[this] at a
   exact Int.lt_irrefl _ a
 |@step n k b hk c _ r=>
  have d:S[k]? =some S[k]:=jo hk
  refine .step b d ?_ r
  refine jL fun s=> ?_
  unfold wG wF at c
  rw[if_pos b,d] at c
  dsimp only at c
  unfold twF at c
  rw[am3] at c
  ·omega
  ·intro j f
   rw[if_neg]
   intro q
   exact s (jJ q)
structure VB(S:LL)(v:Li->Int)(den:Int)(l7:Li):Prop where
 d0:0<den
 d1:den<=254803968
 v0:∀s ∈ S,0<=v s/\v s<=63700992000
 get:∀(i:Nat) s,S[i]? =some s->ix l7 (i:Int)=some (v s)
def wtj_le{m:Nat}{w:Li}(h:∀j,0<=wtj w j)(hk:n<m):wtj w n<=smN m (wtj w):=by have:=ab0 h (kq n) hk;simpa[smN] using this
def Wok.nn{t:b9}{op:Int}{st:LL}{w:Li}(h:Wok t b op st w)(j:Nat):0<=wtj w j:=by by_cases e:j<lm st;have:=h.pos j e;omega;unfold wtj;rw[ku (by rw[h.len];omega)];simp
def smN_bound{f w:Nat->Int}{m:Nat}(h:∀j,j<m->f j<=w j * x):smN m f<=smN m w * x:=by
 have a:=N8 h;have b:smN m (fun j=>w j * x)=smN m w * x:=by rw[jO,<- B6];exact m7 fun j _=>jO _ _
 omega
def ws_pos{t:b9}{op:Int}{st:LL}{w:Li}(d:j6 t)(a:0<=op/\op<lm t.operators)(h:Wok t b op st w):1<=WS t b op/\WS t b op<=24:=by obtain⟨e,f⟩:=h.rs;unfold WS;rw[e,f];refine⟨?_,h.sum⟩;have l0:=(d.at a.1 a.2).l0;have g:efc t.facts b ((ooAt t op).outcomes[0]) ∈ st:=(h.mem _).2 ⟨_,jv (by omega),rfl⟩;have c:=jY g;have i:=h.pos 0 c;have:=wtj_le h.nn c;omega
def InS(t:b9)(S:LL)(s:Li)(op:Int):Prop:=∀y ∈ sc t s op,i6 t y\/y ∈ S
def cval_eq{t:b9}{S:LL}{v:Li->Int}{den:Int}(G:j6 t)(hS:StS t S)(H:VB S v den g){s:Li}(hs:SetN s t.facts){op:Int}(B:0<=op/\op<lm t.operators)(l:Li):
  (InS t S s op/\E2 s op t S den l g=some (QS t v den s op,WS t s op,true)/\0<=QS t v den s op/\QS t v den s op<=4000000000000)\/(¬ InS t S s op/\∃a b,E2 s op t S den l g=some (a,b,false)):=by
 have p:=at0 G B hs
 generalize K:(rsO t s op).1=st at p
 generalize hw:(rsO t s op).2=w at p
 have a0:=hS.n5
 have a4:=H.d0;have aa:=H.d1
 have L:=G.at B.1 B.2
 have N:=L.c0;have ac:=L.c1
 have av:=p.sum
 have a5:=p.s4
 have u:∀y,y ∈ st↔y ∈ sc t s op:=fun y=>by rw[p.mem,sc,jx]
 have O:∀y,(i6 t y\/y ∈ S)->0<=vG t v y/\vG t v y<=63700992000:=fun y r=>by unfold vG;by_cases d:i6 t y;rw[ifP d];omega;rw[ifN d];exact H.v0 _ (r.resolve_left d)
 unfold E2
 rw[p.eq,jr]
 have P:∀y ∈ st,SetN y t.facts:=fun y r=>by obtain⟨x,_,rfl⟩:=(p.mem y).1 r;exact am1 _ _ _
 rcases ab5 (body:=I4 t S g (st,w)) (n:=(lm st:Int)) (s:=((0:Int),(0:Int)))
  (fun j q=>q.1=smN j.toNat (fun j=>wtj w j * vG t v ((st[j]?).getD []))/\q.2=smN j.toNat (wtj w)/\∀(k:Nat) y,(k:Int)<j->st[k]? =some y->i6 t y\/y ∈ S) (fun o=>o.2.2=false/\∃y ∈ st,¬ (i6 t y\/y ∈ S)) (by omega) ⟨rfl,rfl,fun k y hk=>by omega⟩ (fun j q j0 j1 ⟨X,p2,p3⟩=>by
   obtain⟨sum,all⟩:=q;obtain⟨J,rfl⟩:=jp j0;have D:J<lm st:=by omega
   dsimp only at X p2;rw[js] at X p2;have z:st[J]? =some st[J]:=jo D;have hx:ix st (J:Int)=some st[J]:=by rw[j7];exact z
   have ad:=Q6 (w:=w) (i:=J) (by rw[p.len];exact D);have a6:=p.pos J D;have a7:=wtj_le p.nn D;have sJ:=P _ (jv D);have Q:u7 st[J] t.goal=some (dec (i6 t st[J])):=X0 sJ.1 G.goal.1 (by have:=sJ.len;have:=G.n1;omega);have a1:smN (J+1) (wtj w)=smN J (wtj w)+wtj w J:=rfl;have a2:=L4 (f:=wtj w) p.nn (show J+1<=lm st by omega);have a3:0<=smN J (wtj w):=M8 fun j _=>p.nn j;have b1:smN (J+1) (fun j=>wtj w j * vG t v ((st[j]?).getD []))=smN J (fun j=>wtj w j * vG t v ((st[j]?).getD []))+wtj w J * vG t v st[J]:=by show _+wtj w J * vG t v ((st[J]?).getD [])=_;rw[z];rfl
   have U:∀k,k<J->0<=wtj w k * vG t v ((st[k]?).getD [])/\wtj w k * vG t v ((st[k]?).getD [])<=wtj w k * 63700992000:=fun k hk=>by have e:st[k]? =some st[k]:=jo (by omega);have:=O _ (p3 k st[k] (by omega) e);rw[e];exact⟨jE (p.nn k) this.1,jW this.2 (p.nn k)⟩
   have b2:0<=smN J fun j=>wtj w j * vG t v ((st[j]?).getD []):=M8 fun k hk=>(U k hk).1;have b3:=smN_bound (m:=J) fun k hk=>(U k hk).2;have f1:w64 (all+wtj w J)=smN (J+1) (wtj w):=by rw[k9 (by omega) (by omega),p2,a1]
   have nx:∀(y:Li),(i6 t st[J]\/st[J] ∈ S)->∀(k:Nat) y,(k:Int)<(J:Int)+1->st[k]? =some y->i6 t y\/y ∈ S:=fun _ h k y hk r=>by by_cases e:k=J;subst e;rw[z] at r;cases r;exact h;exact p3 k y (by omega) r
   unfold I4;simp only[hx,ad,Q,oB];by_cases E:i6 t st[J];rw[ifP E];unfold C0;refine .inl ⟨_,rfl,?_,?_,nx [] (.inl E)⟩;rw[show((J:Int)+1).toNat=J+1 by omega,b1,X];unfold vG;rw[ifP E,Int.mul_zero,Int.add_zero];rw[show((J:Int)+1).toNat=J+1 by omega];exact f1;rw[ifN E];obtain⟨i,i1,i2,i3⟩:=aw8 (t:=st[J]) hS.ord (by omega);rw[i1];simp only[oB,x8];by_cases cs:st[J] ∈ S;rw[ifNN cs];obtain⟨m,m0,m1,hm⟩:=n9 cs;have em:=i3 m hm;subst em;obtain⟨M,rfl⟩:=jp m0;rw[j7] at hm;have al:=H.get M _ hm;have V:=H.v0 _ cs;have e1:vG t v st[J]=v st[J]:=by unfold vG;rw[ifN E]
   have c1:0<=wtj w J * v st[J]:=jE (by omega) V.1;have c2:wtj w J * v st[J]<=wtj w J * 63700992000:=jW V.2 (by omega);have f2:w64 (wtj w J * v st[J])=wtj w J * v st[J]:=k9 (by omega) (by omega);have f3:w64 (sum+wtj w J * v st[J])=sum+wtj w J * v st[J]:=k9 (by omega) (by omega);simp only[al,oB,f2,f3];unfold C0;refine .inl ⟨_,rfl,?_,?_,nx [] (.inr cs)⟩;rw[show((J:Int)+1).toNat=J+1 by omega,b1,X,e1];rw[show((J:Int)+1).toNat=J+1 by omega];exact f1;rw[ifP cs];exact .inr ⟨_,rfl,rfl,_,jv D,fun h=>h.elim E cs⟩) with⟨⟨sum,all⟩,r1,A,F,r4⟩|⟨⟨a,b,c⟩,r1,A,y,r,F⟩
 ·left
  dsimp only at A F
  rw[js] at A F
  have an:InS t S s op:=fun y r=>by obtain⟨k,hk⟩:=jC ((u y).2 r);exact r4 k y (by have:=(lG.1 hk).1;omega) hk
  have U:∀k,k<lm st->0<=wtj w k * vG t v ((st[k]?).getD [])/\wtj w k * vG t v ((st[k]?).getD [])<=wtj w k * 63700992000:=fun k hk=>by have e:st[k]? =some st[k]:=jo (by omega);have:=O _ (r4 k st[k] (by omega) e);rw[e];exact⟨jE (p.nn k) this.1,jW this.2 (p.nn k)⟩
  have b2:0<=smN (lm st) fun j=>wtj w j * vG t v ((st[j]?).getD []):=M8 fun k hk=>(U k hk).1
  have b3:=smN_bound (m:=lm st) fun k hk=>(U k hk).2
  have ao:=ws_pos G B p
  have eW:WS t s op=smN (lm st) (wtj w):=by unfold WS;rw[K,hw]
  have eC:CS t v s op=smN (lm st) fun j=>wtj w j * vG t v ((st[j]?).getD []):=by unfold CS;rw[K,hw]
  rw[<- eW] at F b3
  rw[<- eC] at A b2 b3
  subst A F
  have d1:0<=WS t s op * (ooAt t op).cost:=jE (by omega) N
  have d2:WS t s op * (ooAt t op).cost<=2400:=by have:=jN ao.2 ac N (by omega:(0:Int)<=24);omega
  have d3:0<=WS t s op * (ooAt t op).cost * den:=jE d1 (by omega)
  have d4:WS t s op * (ooAt t op).cost * den<=2400 * 254803968:=jN d2 aa (by omega) (by omega)
  have g1:w64 (WS t s op * (ooAt t op).cost)=WS t s op * (ooAt t op).cost:=k9 (by omega) (by omega)
  have g2:w64 (WS t s op * (ooAt t op).cost * den)=WS t s op * (ooAt t op).cost * den:=k9 (by omega) (by omega)
  have g3:w64 (CS t v s op+WS t s op * (ooAt t op).cost * den)=CS t v s op+WS t s op * (ooAt t op).cost * den:=k9 (by omega) (by omega)
  rw[r1]
  simp only[oB,ix_oo B.1 B.2,g1,g2,g3]
  refine⟨an,rfl,?_,?_⟩<;>unfold QS<;>omega
 ·right
  dsimp only at A
  subst A
  rw[r1]
  exact⟨fun h=>F (h y ((u y).1 r)),a,b,rfl⟩
def Bst(t:b9)(S:LL)(v:Li->Int)(den:Int)(s:Li)(f:Int):Prop:=
 Alw t S s f/\(∀op,Alw t S s op->QS t v den s f * WS t s op<=QS t v den s op * WS t s f)/\∀op,op<f->Alw t S s op->QS t v den s f * WS t s op<QS t v den s op * WS t s f
def frac_lt{b c d e:Int}(k:0<d)(l:0<b)(g:0<y)(h:x * d<c * b)(i:c * y<=e * d):x * y<e * b:=by
 have n:x * d * y<c * b * y:=Int.mul_lt_mul_of_pos_right h g;have o:c * y * b<=e * d * b:=jU i (by omega);have j:(x * y) * d<(e * b) * d:=by
  have p:(x * y) * d=x * d * y:=by grind
  have q:(e * b) * d=e * d * b:=by grind
  have r:c * y * b=c * b * y:=by grind
  omega
 exact Int.lt_of_mul_lt_mul_right j (by omega)
def frac_le{b c d e:Int}(g:0<d)(k:0<b)(l:0<y)(h:x * d<=c * b)(i:c * y<=e * d):x * y<=e * b:=by
 have n:x * d * y<=c * b * y:=jU h (by omega);have o:c * y * b<=e * d * b:=jU i (by omega);have j:(x * y) * d<=(e * b) * d:=by
  have p:(x * y) * d=x * d * y:=by grind
  have q:(e * b) * d=e * d * b:=by grind
  have r:c * y * b=c * b * y:=by grind
  omega
 exact kj j g
def imp2{t:b9}{S:LL}{v:Li->Int}{den:Int}(k:j6 t)(Q:StS t S)(U:VB S v den b)(y:SetN g t.facts)(V:∃op,Alw t S g op)(l:Li):
  ∃f,forR 0 (lm t.operators:Int) (D5 t S den l b g) (-1,0,1)=some (f,QS t v den g f,WS t g f)/\Bst t S v den g f/\(0<=QS t v den g f/\QS t v den g f<=4000000000000)/\1<=WS t g f/\WS t g f<=24:=by
 obtain⟨⟨f,a,w⟩,X,s⟩:=m5 (body:=D5 t S den l b g) (n:=(lm t.operators:Int)) (s:=((-1:Int),(0:Int),(1:Int)))
  (fun j q=>(q=(-1,0,1)/\∀op,op<j->¬ Alw t S g op)\/∃f,q=(f,QS t v den g f,WS t g f)/\f<j/\Alw t S g f/\(0<=QS t v den g f/\QS t v den g f<=4000000000000)/\(1<=WS t g f/\WS t g f<=24)/\(∀op,op<j->Alw t S g op->QS t v den g f * WS t g op<=QS t v den g op * WS t g f)/\∀op,op<f->Alw t S g op->QS t v den g f * WS t g op<QS t v den g op * WS t g f) (by omega)
  (.inl ⟨rfl,fun op h E=>by have:=E.1.1;omega⟩) (fun j q z A N=>by
   have hW:=at0 k ⟨z,A⟩ y;have H:=ws_pos k ⟨z,A⟩ hW;have lift:∀{P:Int->Prop},(∀op,op<j->P op)->P j->∀op,op<j+1->P op:=fun F o op d=>by by_cases e:op=j;subst e;exact o;exact F op (by omega)
   unfold D5;obtain⟨f,a,w⟩:=q;simp only[oCan_eq k z A y,oB,x8];have p:¬ Alw t S g j->(((f,a,w)=((-1:Int),(0:Int),(1:Int))/\∀op,op<j+1->¬ Alw t S g op)\/∃c,(f,a,w)=(c,QS t v den g c,WS t g c)/\c<j+1/\Alw t S g c/\(0<=QS t v den g c/\QS t v den g c<=4000000000000)/\(1<=WS t g c/\WS t g c<=24)/\(∀op,op<j+1->Alw t S g op->QS t v den g c * WS t g op<=QS t v den g op * WS t g c)/\∀op,op<c->Alw t S g op->QS t v den g c * WS t g op<QS t v den g op * WS t g c):=fun O=>by rcases N with⟨e,h⟩|⟨c,e,F,o,r,x,u,B⟩;exact .inl ⟨e,lift h O⟩;exact .inr ⟨c,e,by omega,o,r,x,lift u fun h=>absurd h O,B⟩
   by_cases G:oCan t g j;rw[ifNN G];rcases cval_eq k Q U y ⟨z,A⟩ l with⟨c1,J,K,L⟩|⟨c1,a',b',J⟩;have E:Alw t S g j:=⟨⟨z,A⟩,G,c1⟩;rw[J];simp only[oB,Bool.true_and];rcases N with⟨e,h⟩|⟨c,e,F,o,r,x,u,B⟩;cases e;rw[if_pos (by simp)];exact⟨_,rfl,.inr ⟨j,rfl,by omega,E,⟨K,L⟩,H,lift (fun op d i=>absurd i (h op d)) fun _=>jA _,fun op d i=>absurd i (h op d)⟩⟩;cases e;have aa:=o.1.1;have p1:0<=QS t v den g j * WS t g f:=jE K (by omega);have p2:QS t v den g j * WS t g f<=4000000000000 * 24:=jN L x.2 (by omega) (by omega);have p3:0<=QS t v den g f * WS t g j:=jE r.1 (by omega);have p4:QS t v den g f * WS t g j<=4000000000000 * 24:=jN r.2 H.2 (by omega) (by omega);rw[k9 (by omega) (by omega),k9 (by omega) (by omega)];by_cases cl:QS t v den g j * WS t g f<QS t v den g f * WS t g j;rw[if_pos (by simp[cl])];refine⟨_,rfl,.inr ⟨j,rfl,by omega,E,⟨K,L⟩,H,lift (fun op d i=> ?_) fun _=>jA _,fun op d i=> ?_⟩⟩;have:=ws_pos k i.1 (at0 k i.1 y);exact Int.le_of_lt (frac_lt (by omega) (by omega) (by omega) cl (u op d i));have:=ws_pos k i.1 (at0 k i.1 y);exact frac_lt (by omega) (by omega) (by omega) cl (u op d i);rw[if_neg (by simp[cl];omega)];refine⟨_,rfl,.inr ⟨f,rfl,by omega,o,r,x,lift u fun _=>by omega,B⟩⟩;rw[J];simp only[oB,Bool.false_and,ka,if_false];exact⟨_,rfl,p fun h=>c1 h.2.2⟩;rw[ifP G];exact⟨_,rfl,p fun h=>G h.2.1⟩)
 rcases s with⟨_,h⟩|⟨c,e,F,o,r,x,u,B⟩
 ·obtain⟨op,D⟩:=V
  exact absurd D (h op D.1.2)
 ·cases e
  exact⟨f,X,⟨o,fun op D=>u op D.1.2 D,B⟩,r,x⟩
def improve_eq{t:b9}{S:LL}{v:Li->Int}{den:Int}(P:j6 t)(w:StS t S)(x:VB S v den g)(Q:∀s ∈ S,∃op,Alw t S s op){l:Li}(U:lm l=lm S):
  ∃o,F3 t S den l g=some (o,dec (∃(i:Nat) (s:Li) (f:Int),S[i]? =some s/\o[i]? =some f/\QS t v den s f<v s * WS t s f))/\(lm o)=lm S/\∀(i:Nat) s,S[i]? =some s->∃f,o[i]? =some f/\Bst t S v den s f:=by
 have V:=w.n5
 unfold F3
 rw[aB0 (by omega),jr]
 obtain⟨⟨o,b⟩,X,F,G,H⟩:=m5 (body:=G7 t S den l g) (n:=(lm S:Int)) (s:=(l,false))
  (fun j q=>q.1.length=lm S/\(∀(i:Nat) s,(i:Int)<j->S[i]? =some s->∃f,q.1[i]? =some f/\Bst t S v den s f)/\(q.2=true↔∃(i:Nat) (s:Li) (f:Int),(i:Int)<j/\S[i]? =some s/\q.1[i]? =some f/\QS t v den s f<v s * WS t s f)) (by omega) ⟨U,fun i s L=>by omega,by simp;intro i L;omega⟩ (fun j q j0 j1 ⟨M,N,O⟩=>by
   obtain⟨c,b⟩:=q;obtain⟨J,rfl⟩:=jp j0;have u:J<lm S:=by omega
   have a:S[J]? =some S[J]:=jo u;dsimp only at M N O;obtain⟨f,f1,f2,f3,f4⟩:=imp2 P w x (w.set _ (jv u)) (Q _ (jv u)) l;have y:=x.get J _ a;have r:=x.v0 _ (jv u);have hx:ix S (J:Int)=some S[J]:=by rw[j7];exact a
   have hc:ix c (J:Int)=some c[J]:=by rw[j7];exact jo (by omega)
   have g1:0<=v S[J] * WS t S[J] f:=jE r.1 (by omega);have g2:v S[J] * WS t S[J] f<=63700992000 * 24:=jN r.2 f4.2 (by omega) (by omega);have get:∀i:Nat,(c.set J f)[i]? =if i=J then some f else c[i]? :=fun i=>by rw[jV];by_cases e:J=i;rw[if_pos e,if_pos e.symm,if_pos (by omega)];rw[if_neg e,if_neg (Ne.symm e)]
   have hb:∃z,(if b=true then some true else jD (ix g (J:Int)) fun A=>some (decide (QS t v den S[J] f<w64 (A * WS t S[J] f))))=some z/\(z=true↔b=true\/QS t v den S[J] f<v S[J] * WS t S[J] f):=by
    cases b with
    |true=>exact⟨true,rfl,by simp⟩
    |false=>
     rw[if_neg (by simp),y,jr,k9 (by omega) (by omega)]
     exact⟨_,rfl,by simp⟩
   obtain⟨z,B,D⟩:=hb;unfold G7;simp only[hx,oB,f1,B,hc,js];refine⟨_,rfl,by dsimp only;rw[lS];exact M,fun i s L p=> ?_,?_⟩;dsimp only;rw[get];by_cases e:i=J;subst e;rw[a] at p;cases p;exact⟨f,if_pos rfl,f2⟩;rw[if_neg e];exact N i s (by omega) p;dsimp only;rw[D,O];constructor;rintro (⟨i,s,E,q1,h,d,k⟩|q);exact⟨i,s,E,by omega,h,by rw[get,if_neg (by omega)];exact d,k⟩;exact⟨J,S[J],f,by omega,a,by rw[get,if_pos rfl],q⟩;rintro ⟨i,s,E,q1,h,d,k⟩;rw[get] at d;by_cases e:i=J;subst e;rw[if_pos rfl] at d;rw[a] at h;cases h;cases d;exact .inr k;rw[if_neg e] at d;exact .inl ⟨i,s,E,by omega,h,d,k⟩)
 rw[X]
 dsimp only at F G H
 refine⟨o,?_,F,fun i s p=>G i s (by have:=(lG.1 p).1;omega) p⟩
 simp only[oB]
 congr 2
 rw[bool_dec b]
 refine r9 ?_
 rw[H]
 exact⟨fun⟨i,s,f,_,h,d,k⟩=>⟨i,s,f,h,d,k⟩,fun⟨i,s,f,h,d,k⟩=>⟨i,s,f,by have:=(lG.1 h).1;omega,h,d,k⟩⟩
noncomputable def posS(S:LL)(s:Li):Nat:=@Classical.epsilon Nat ⟨0⟩ fun k=>S[k]? =some s
def aq3{S:LL}(c:Ord S)(h:S[n]? =some g):posS S g=n:=by
 have e:S[posS S g]? =some g:=@Classical.epsilon_spec Nat (fun n=>S[n]? =some g) ⟨n,h⟩;have a:ix S (posS S g:Int)=some g:=by rw[j7,e]
 have b:ix S (n:Int)=some g:=by rw[j7,h]
 have:=c.inj a b;omega
noncomputable def atS(S:LL)(num:Nat->Nat)(s:Li):Int:=num (posS S s)
def atS_eq{S:LL}(a:Ord S){num:Nat->Nat}(h:S[n]? =some b):atS S num b=num n:=by unfold atS;rw[aq3 a h]
def P5{S:LL}(h:n<lm S):S[n]? =some (sN S n):=by unfold sN;rw[jo h];rfl
def oL(l:Li)(i:Nat):Int:=(l[i]?).getD 0
def ah7(h:b[n]? =some x):oL b n=x:=by unfold oL;rw[h];rfl
noncomputable def stL(t:b9)(S:LL)(l:Li)(i:Nat):LL:=(rsO t (sN S i) (oL l i)).1
noncomputable def wL(t:b9)(S:LL)(l:Li)(i:Nat):Li:=(rsO t (sN S i) (oL l i)).2
structure OkL(t:b9)(S:LL)(l:Li):Prop where
 len:lm l=lm S
 al:∀(i:Nat) s,S[i]? =some s->∃f,l[i]? =some f/\Alw t S s f
def PrL(t:b9)(S:LL)(l:Li):Prop:=∀i,i<lm S->Px (lm S) (WF (stL t S l) (wL t S l)) (wG S (stL t S l) (wL t S l)) i
noncomputable abbrev mxL(t:b9)(S:LL)(l:Li):Mtx:=eqN t S (oL l) (stL t S l) (wL t S l)
noncomputable def vD(t:b9)(S:LL)(l:Li):Int:=((det (lm S) (mxL t S l)).natAbs:Int)
noncomputable def vN(t:b9)(S:LL)(l:Li)(i:Nat):Int:=((det (lm S) (rep (mxL t S l) i fun r=>mxL t S l r (lm S))).natAbs:Int)
def ltL(t:b9)(S:LL)(x y:Li):Prop:=0<vD t S x/\0<vD t S y/\(∀i,i<lm S->vN t S x i * vD t S y<=vN t S y i * vD t S x)/\∃i,i<lm S/\vN t S x i * vD t S y<vN t S y i * vD t S x
def ltL_trans{t:b9}{S:LL}(x y z:Li)(h:ltL t S x y)(g:ltL t S y z):ltL t S x z:=by obtain⟨a,c,f,i,d,j⟩:=h;obtain⟨_,b,e,_⟩:=g;exact⟨a,b,fun k hk=>frac_le c a b (f k hk) (e k hk),i,d,frac_lt c a b j (e i d)⟩
def ltL_irrefl{t:b9}{S:LL}(x:Li):¬ ltL t S x x:=fun⟨_,_,_,_,_,h⟩=>Int.lt_irrefl _ h
def OkL.sys{t:b9}{S:LL}(a:j6 t)(c:StS t S)(h:OkL t S b):Sys t S (oL b) (stL t S b) (wL t S b):=sys_op a c fun i s d=>by obtain⟨f,e,g⟩:=h.al i s d;rw[ah7 e];exact g
def OkL.has{t:b9}{S:LL}(h:OkL t S b):∀s ∈ S,∃op,Alw t S s op:=fun s a=>by obtain⟨i,c⟩:=jC a;obtain⟨f,_,d⟩:=h.al i s c;exact⟨f,d⟩
def OkL.mem{t:b9}{S:LL}(h:OkL t S b):b ∈ lists (lm t.operators) (lm S):=mem_lists h.len fun x d=>by
 obtain⟨i,a⟩:=jC d;have e:i<lm S:=by have:=(lG.1 a).1;have:=h.len;omega
 obtain⟨f,c,g⟩:=h.al i _ (P5 e);rw[a] at c;cases c;exact g.1
def Sol.vD{t:b9}{S:LL}{num:Nat->Nat}{den:Nat}(h:Sol t S (oL b) (stL t S b) (wL t S b) x num den):Ab.vD t S b=den/\∀i,i<lm S->Ab.vN t S b i=num i:=by have a:=h.dd;have c:=h.nn;unfold Ab.vD Ab.vN;refine⟨?_,fun i d=> ?_⟩;rw[a];rcases h.s1 with e|e<;>rw[e]<;>omega;rw[c i d];rcases h.s1 with e|e<;>rw[e]<;>omega
def signs(q:x=1\/x= -1){num:Nat->Nat}{den n:Nat}(A:0<den)(r:den<=254803968)(t:∀i,i<n->num i<=63700992000){N:Li}(u:lm N=n)(h:∀i:Nat,i<n->ix N (i:Int)=some (x * (num i:Int))):
  ∃d,(if x * (den:Int)<0 then(jD (forR 0 (lm N:Int) Y0 N) fun g=>some (w64 (0 - x * (den:Int)),g)) else some (x * (den:Int),N))=some ((den:Int),d)/\∀i:Nat,i<n->ix d (i:Int)=some (num i:Int):=by
 rcases q with rfl|rfl
 ·rw[if_neg (by omega)]
  exact⟨N,by rw[kc],fun i a=>by rw[h i a,kc]⟩
 ·rw[if_pos (by omega),k9 (by omega) (by omega),show 0 - -1 * (den:Int)=den by omega]
  obtain⟨d,v,B,w⟩:=m5 (body:=Y0) (n:=(lm N:Int)) (s:=N)
   (fun j c=>lm c=n/\∀i:Nat,i<n->ix c (i:Int)=some (if(i:Int)<j then(num i:Int) else -1 * (num i:Int))) (by omega) ⟨u,fun i a=>by rw[if_neg (by omega)];exact h i a⟩ (fun j c y D ⟨z,l⟩=>by
    obtain⟨J,rfl⟩:=jp y;have o:J<n:=by omega
    have e:=l J o;rw[if_neg (by omega)] at e;have b:=t J o;unfold Y0;simp only[e,oB];rw[k9 (by omega) (by omega)];refine⟨_,rfl,by rw[lS];exact z,fun i a=> ?_⟩;rw[as3 (by omega) (by omega) (by omega)];by_cases p:(i:Int)=J;rw[if_pos p,if_pos (by omega)];have:i=J:=by omega
    subst this;congr 1;omega;rw[if_neg p,l i a];by_cases f:(i:Int)<J;rw[if_pos f,if_pos (by omega)];rw[if_neg f,if_neg (by omega)])
  rw[v]
  exact⟨d,rfl,fun i a=>by rw[w i a,if_pos (by omega)]⟩
def round_eq{t:b9}{S:LL}(r:j6 t)(x:∀op:Int,0<=op/\op<lm t.operators->1<=(ooAt t op).cost)(p:StS t S)(A:OkL t S g)(hp:PrL t S g)(B:Int)(q:Li):
  ∃den N j b v,R1 t S (B,g,q,true)=some (.inl (den,j,N,b))/\VB S v den N/\OkL t S j/\PrL t S j/\
   (∀(i:Nat) s,S[i]? =some s->∃f,j[i]? =some f/\Bst t S v den s f/\QS t v den s f<=v s * WS t s f/\(b=false->QS t v den s f=v s * WS t s f))/\(b=true->ltL t S j g):=by
 have ad:=p.n5
 have h:=A.sys r p
 have y:∀(i:Nat) s,S[i]? =some s->F6 S s=some (i:Int):=fun i s d=>ad3 p.ord (by omega) (by rw[j7,d])
 obtain⟨sg,num,den,L,N0,s1,s2,s3,s4,s5⟩:=solved r h hp (choose:=fun s=>x5 s t S B g q) (fun i s d=>by obtain⟨f,f1,_⟩:=A.al i s d;unfold x5;rw[y i s d,jr,j7,f1,ah7 f1];rfl)
 obtain⟨N,n1,n2⟩:=signs s1.s1 s1.d0 s1.d1 s1.n1 s4 s5
 have an:=s1.d0;have ao:=s1.d1
 have O:VB S (atS S num) den N:=⟨by omega,by omega,fun s d=>by obtain⟨i,n⟩:=jC d;have:=s1.n1 i (lG.1 n).1;rw[atS_eq p.ord n];omega,fun i s d=>by rw[atS_eq p.ord d];exact n2 i (lG.1 d).1⟩
 obtain⟨j,P,i2,J⟩:=improve_eq r p O A.has A.len
 generalize D:dec (∃(i:Nat) (s:Li) (f:Int),S[i]? =some s/\j[i]? =some f/\QS t (atS S num) den s f<atS S num s * WS t s f)=b at P
 have he:K6 t S t S B g q=some L:=by have:K6 t S t S B g q=(forR 0 (lm S:Int) (H0 t S fun s=>x5 s t S B g q) []).bind fun a=>some a:=rfl;rw[this,s2];rfl
 have E:OkL t S j:=⟨i2,fun i s d=>by obtain⟨f,f1,f2⟩:=J i s d;exact⟨f,f1,f2.1⟩⟩
 have w:=E.sys r p
 have u:∀k,k<lm S->((num k:Nat):Int)=atS S num (sN S k):=fun k hk=>(atS_eq p.ord (P5 hk)).symm
 have old:∀(i:Nat) s,S[i]? =some s->QS t (atS S num) den s (oL g i)=WS t s (oL g i) * atS S num s:=fun i s d=>by have n:=(lG.1 d).1;rw[<- h.qs d (num:=fun k=>(num k:Int)) u,s1.vf.eq i n,h.ws d,atS_eq p.ord d]
 have F:∀s ∈ S,∀op,Alw t S s op->1<=WS t s op:=fun s d op Q=>(ws_pos r Q.1 (at0 r Q.1 (p.set s d))).1
 have o:∀(i:Nat) s f,S[i]? =some s->Bst t S (atS S num) den s f->QS t (atS S num) den s f<=atS S num s * WS t s f:=fun i s f d G=>by
  obtain⟨c,g1,U⟩:=A.al i s d;have e:=old i s d;rw[ah7 g1] at e;have V:=G.2.1 c U;rw[e] at V;have w1:=F s (jJ d) c U;have e2:QS t (atS S num) den s f * WS t s c<=(atS S num s * WS t s f) * WS t s c:=by rw[show atS S num s * WS t s f * WS t s c=WS t s c * atS S num s * WS t s f by grind];exact V
  exact kj e2 (by omega)
 have X:∀i,i<lm S->Qv (lm S) (WF (stL t S j) (wL t S j)) (wG S (stL t S j) (wL t S j)) (cF t (oL j)) (fun k=>(num k:Int)) den i<=WF (stL t S j) (wL t S j) i * (num i:Int):=fun i n=>by obtain⟨f,f1,f2⟩:=J i _ (P5 n);have:=o i _ f (P5 n) f2;rw[w.qs (P5 n) u,w.ws (P5 n),ah7 f1,u i n,jO];exact this
 have z:PrL t S j:=proper_of (as8 r w) (fun i n=>x _ (w.rng i n)) (den:=(den:Int)) (by omega) X
 refine⟨den,N,j,b,atS S num,?_,O,E,z,fun i s d=> ?_,fun G=> ?_⟩
 ·unfold R1
  simp only[if_true,he,oB,s3,n1,P]
 ·obtain⟨f,f1,f2⟩:=J i s d
  have b1:=o i s f d f2
  refine⟨f,f1,f2,b1,fun G=> ?_⟩
  have:¬ QS t (atS S num) den s f<atS S num s * WS t s f:=fun K=>dec_false.1 (D.trans G) ⟨i,s,f,d,f1,K⟩
  omega
 ·obtain⟨i,s,f,H,q2,l⟩:=n7.1 (D.trans G)
  have n:=(lG.1 H).1
  obtain⟨av,aa,ac,_,_,M,_⟩:=solved r w z (choose:=fun s=>some (oL j (posS S s))) (fun i s d=>by rw[aq3 p.ord d])
  have key:=val_ge (as8 r w) z M.vf (den:=(den:Int)) (by omega) X
  have d':=M.d0
  obtain⟨a1,a2⟩:=s1.vD
  obtain⟨c1,c2⟩:=M.vD
  refine⟨by rw[c1];omega,by rw[a1];omega,fun k hk=> ?_,i,n,?_⟩
  ·rw[a1,c1,a2 k hk,c2 k hk,jO,jO (num k:Int)]
   exact(key k hk).1
  ·rw[a1,c1,a2 i n,c2 i n,jO,jO (num i:Int)]
   refine(key i n).2 ?_
   rw[w.qs H u,w.ws H,ah7 q2]
   rw[atS_eq p.ord H] at l
   rw[jO];exact l
structure Fin(t:b9)(S:LL)(v:Li->Int)(den:Int)(l N:Li):Prop where
 vb:VB S v den N
 ok:OkL t S l
 pr:PrL t S l
 bst:∀(i:Nat) s,S[i]? =some s->∃f,l[i]? =some f/\Bst t S v den s f/\QS t v den s f=v s * WS t s f
def rounds_eq{t:b9}{S:LL}(x:j6 t)(d:∀op:Int,0<=op/\op<lm t.operators->1<=(ooAt t op).cost)(y:StS t S)(z:OkL t S g)(A:PrL t S g)(h:Int)(c:Li):
  ∃den j N v,Loop (R1 t S) (h,g,c,true)=some (den,j,N)/\Fin t S v den j N:=by
 obtain⟨⟨den,j,N⟩,B,v,D⟩:=x9 (body:=R1 t S) (fun q=>OkL t S q.2.1/\PrL t S q.2.1/\(q.2.2.2=true\/∃v,Fin t S v q.1 q.2.1 q.2.2.1)) (fun o=>∃v,Fin t S v o.1 o.2.1 o.2.2)
  (fun q=>if q.2.2.2=true then rank (lists (lm t.operators) (lm S)) (ltL t S) q.2.1+1 else 0) (s:=(h,g,c,true)) ⟨z,A,.inl rfl⟩ (fun⟨h,g,c,a⟩ ⟨p,r,u⟩=>by
   dsimp only at p r u;cases a with
   |true=>
    obtain⟨den,N,j,b,v,E,F,k,w,G,H⟩:=round_eq x d y p r h c
    rw[E]
    refine .inl ⟨_,rfl,⟨k,w,?_⟩,?_⟩
    ·cases b with
     |true=>exact .inl rfl
     |false=>exact .inr ⟨v,F,k,w,fun i s J=>by obtain⟨f,f1,f2,_,f3⟩:=G i s J;exact⟨f,f1,f2,f3 rfl⟩⟩
    ·dsimp only
     rw[if_pos rfl]
     cases b with
     |true=>
      rw[if_pos rfl]
      have:=rank_lt (L:=lists (lm t.operators) (lm S)) ltL_trans ltL_irrefl k.mem (H rfl)
      omega
     |false=>rw[if_neg (by simp)];omega
   |false=>
    refine .inr ⟨(h,g,c),rfl,?_⟩
    rcases u with e|e
    ·cases e
    ·exact e)
 exact⟨den,j,N,v,B,D⟩
abbrev frT(t:b9)(s:Li):b9:=⟨t.facts,s,t.goal,t.operators⟩
def frT_ok{t:b9}(a:j6 t)(c:SetN b t.facts):j6 (frT t b):=⟨a.n0,a.n1,c,a.goal,a.ops,a.op⟩
structure CloS(t:b9)(all:LL):Prop where
 len:lm all<=2000
 init:t.init ∈ all
 sc:∀s ∈ all,∀op:Int,(0<=op/\op<lm t.operators)->oCan t s op->∀y ∈ sc t s op,y ∈ all
def ClO.fr{t:b9}{all:LL}(c:ClO t all)(d:b ∈ all):CloS (frT t b) all:=⟨c.len,d,fun _ e _ f a _ g=>c.sc e f a g⟩
def rin4{t:b9}{all:LL}(G:j6 t)(Q:lm all<=2000){st:LL}{w:Li}(k:∀y ∈ st,SetN y t.facts/\y ∈ all){l0:LL}(H:Rc t l0 i (l0.map fun s=>(wsN s:Int)))(J:l0.Nodup)(o:∀y ∈ l0,y ∈ all):
  ∃p,rngX 0 (lm st:Int) (H4 (st,w)) (l0,i)=some (.inl p)/\Rc t p.1 p.2 (p.1.map fun s=>(wsN s:Int))/\p.1.Nodup/\(∀y ∈ p.1,y ∈ all)/\Ext l0 p.1:=by
 have x:=G.n1
 rcases ab5 (body:=H4 (st,w)) (n:=(lm st:Int)) (s:=(l0,i)) (fun _ p=>Rc t p.1 p.2 (p.1.map fun s=>(wsN s:Int))/\p.1.Nodup/\(∀y ∈ p.1,y ∈ all)/\Ext l0 p.1) (fun _=>False) (by omega) ⟨H,J,o,.refl _⟩ (fun j ⟨l,m⟩ K L ⟨d,q,r,u⟩=>by
  dsimp only at d q r u;obtain⟨y,B,_⟩:=j9 (l:=st) K L;obtain⟨f,v⟩:=k y (j8 B);have M:=f.len;unfold H4;dsimp only;rw[B];simp only[oB];rw[key1_eq (f.small x) (by omega)];simp only[oB];by_cases c:y ∈ l;rw[if_pos ((d.map y f).2 c)];exact .inl ⟨_,rfl,d,q,r,u⟩;rw[if_neg (fun h=>c ((d.map y f).1 h))];have D:(l++[y]).Nodup:=List.nodup_append.2 ⟨q,by simp,fun a o b E e=>c (by simp only[jB] at E;rw[<- E,<- e];exact o)⟩;have F:∀z ∈ l++[y],z ∈ all:=fun z N=>by rcases jT.1 N with h|h;exact r z h;rw[jB.1 h];exact v
  have g:=V1 D F;rw[jt,jy] at g;rw[if_neg (by omega),app,if_pos (by simp;omega)];refine .inl ⟨_,rfl,?_,D,F,u.snoc _⟩;have:=d.put x f (by omega);rw[kK];exact this) with⟨p,O,P⟩|⟨_,_,h⟩
 ·exact⟨p,O,P⟩
 ·exact h.elim
def rin2{t:b9}{all:LL}(g:j6 t)(D:CloS t all){l0:LL}(E:Rc t l0 i (l0.map fun b=>(wsN b:Int)))(H:l0.Nodup)(F:∀a ∈ l0,a ∈ all)(o:ix l0 y=some b):
  ∃p,rngX 0 (lm t.operators:Int) (H5 t y) (l0,i)=some (.inl p)/\Rc t p.1 p.2 (p.1.map fun b=>(wsN b:Int))/\p.1.Nodup/\(∀a ∈ p.1,a ∈ all)/\Ext l0 p.1:=by
 have d:=E.set b (j8 o)
 rcases ab5 (body:=H5 t y) (n:=(lm t.operators:Int)) (s:=(l0,i)) (fun _ p=>Rc t p.1 p.2 (p.1.map fun b=>(wsN b:Int))/\p.1.Nodup/\(∀a ∈ p.1,a ∈ all)/\Ext l0 p.1) (fun _=>False) (by omega) ⟨E,H,F,.refl _⟩ (fun j ⟨l,m⟩ q r ⟨u,v,z,f⟩=>by dsimp only at u v z f;unfold H5;dsimp only;rw[f _ _ o];simp only[oB];rw[oCan_eq g q r d];simp only[oB,x8];by_cases c:oCan t b j;rw[ifNN c];obtain⟨st,w,J,Q,K,_⟩:=J0 g q r d;rw[J];simp only[oB];obtain⟨p,A,B,L,M,N⟩:=rin4 g D.len (st:=st) (w:=w) (fun a O=>by obtain⟨x,P,e⟩:=(K a).1 O;exact⟨e ▸ am1 _ _ _,D.sc b (F b (j8 o)) j ⟨q,r⟩ c a (jx.2 ⟨x,P,e⟩)⟩) u v z;rw[A];exact .inl ⟨p,rfl,B,L,M,fun k a hk=>N k a (f k a hk)⟩;rw[ifP c];exact .inl ⟨_,rfl,u,v,z,f⟩) with⟨p,A,B⟩|⟨_,_,h⟩
 ·exact⟨p,A,B⟩
 ·exact h.elim
def reach_in{t:b9}{all:LL}(g:j6 t)(q:CloS t all):∃b,E6 t=some (b,true)/\∀y ∈ b,y ∈ all:=by
 have u:=g.n1;have f:=g.init;have z:=f.len;unfold E6;rw[aB0 (by omega)];simp only[oB];rw[key1_eq (f.small u) (by omega)];simp only[oB];have A:Rc t [t.init] (mset ([]:List (ByteArray×Int)) (keyK [t.init]) 1) ([t.init].map fun s=>(wsN s:Int)):=by refine⟨by simpa using f,by simp,fun s i=> ?_,rfl⟩;rw[ay2];by_cases e:keyK [s]=keyK [t.init];rw[if_pos e,SetN.key_inj u i f e];simp;rw[if_neg e];simp only[mget,jB,lk];exact⟨fun h=>by omega,fun h=>absurd (by rw[h]) e⟩
 obtain⟨o,B,l,rfl,D,M⟩:=x9 (body:=U6 t) (fun p=>Rc t p.1 p.2.1 (p.1.map fun s=>(wsN s:Int))/\p.1.Nodup/\(∀y ∈ p.1,y ∈ all)/\0<=p.2.2/\p.2.2<=p.1.length) (fun o=>∃l,o=.inl l/\(∀y ∈ l,y ∈ all)/\(lm l)<=2000) (fun p=>(2000 - p.2.2).toNat) (s:=([t.init],mset ([]:List (ByteArray×Int)) (keyK [t.init]) 1,0)) ⟨A,by simp,fun y j=>by rw[jB.1 j];exact q.init,by simp,by simp⟩ (fun⟨l,m,a⟩ ⟨k,w,n,x,E⟩=>by dsimp only at k w n x E;have d:=k.len;unfold U6;dsimp only;by_cases c:a<lm l;rw[if_pos c];obtain⟨s,i,_⟩:=j9 (l:=l) x c;obtain⟨p,F,G,H,J,K⟩:=rin2 g q k w n i;rw[F];have:=K.len;simp only[oB];rw[k9 (by omega) (by omega)];exact .inl ⟨_,rfl,⟨G,H,J,by dsimp only;omega,by dsimp only;omega⟩,by dsimp only;omega⟩;rw[if_neg c];exact .inr ⟨_,rfl,l,rfl,n,d⟩);rw[B];simp only[oB];obtain⟨r,n1,N,L,O⟩:=normal_eq (l:=l) (by omega);rw[n1];exact⟨r,rfl,fun y j=>D y ((L y).1 j)⟩
def dsc_sub{t u:b9}{all:LL}(g:u.facts=t.facts)(i:u.goal=t.goal)(j:u.operators=t.operators)(a:∀x ∈ d,∀op:Int,(0<=op/\op<lm t.operators)->oCan t x op->∀y ∈ sc t x op,y ∈ d):∀(k:Nat) (x:Li),x ∈ d->DsC t (Sd all l) k x->DsC u (Sd d l) k x:=by
 obtain⟨v,w,A,B⟩:=u
 obtain⟨D,E,F,to⟩:=t
 dsimp only at g i j
 subst g i j
 intro k
 induction k with
 |zero=>exact fun x _ h=>h
 |succ k p=>
  intro x b h
  rcases h with h|⟨q,op,c,e,r,y,n,s⟩
  ·exact .inl h
  ·exact .inr ⟨⟨b,q.2⟩,op,c,e,fun z o=>⟨a x b op c e z o,(r z o).2⟩,y,n,p y (a x b op c e y n) s⟩
def dsc_fr{t:b9}{S:Li->Prop}:∀(k:Nat) (x:Li),DsC (frT t b) S k x->DsC t S k x:=fun k=>by
 induction k with
 |zero=>exact fun x h=>h
 |succ k a=>
  intro x h
  rcases h with h|⟨c,op,d,e,f,y,g,i⟩
  ·exact .inl h
  ·exact .inr ⟨c,op,d,e,f,y,g,a y i⟩
def cert_sub{t:b9}{all:LL}(E:ClO t all)(p:E1 t all l)(n:ClO (frT t b) d)(a:∀x ∈ d,x ∈ all):E1 (frT t b) d l:=by have q:∀(k:Nat) x,x ∈ d->DsC t (Sd all l) k x->DsC (frT t b) (Sd d l) k x:=dsc_sub (t:=t) (u:=frT t b) (all:=all) rfl rfl rfl fun x g op r o y v=>n.sc g r o v;have c:∀(k:Nat) x,DsC (frT t b) (Sd d l) k x->DsC t (Sd all l) k x:=fun k x h=>(dsc_fr k x h).sub fun z i=>⟨a z i.1,i.2⟩;refine⟨fun x g=> ?_,fun T w x g=> ?_⟩;rcases p.val x (a x g) with⟨e,h⟩|⟨k,e,h⟩;exact .inl ⟨e,fun k hk=>h k (c k x hk)⟩;exact .inr ⟨k,e,q k x g h.1,fun j A B=>h.2 j A (c j x B)⟩;refine p.gr T (fun z i=> ?_) x g;obtain⟨o,k,D⟩:=w z i;exact⟨a z o,k,dsc_fr k z D⟩
def begin_eq{t:b9}{all:LL}(M:j6 t)(r:ClO t all)(h5:(pnd t all).length<=200)(N:E1 t all l)(B:g ∈ all)(h0:0<=l g)(O:¬ i6 t g):
  ∃p b,F9 (frT t g)=some (p,true,⟨0,0⟩)/\M6 p g=some b/\CycP t l g b:=by
 have u:=frT_ok M (r.set B)
 obtain⟨j,D,E⟩:=reach_in u (r.fr B)
 rcases cpolicy_spec u with⟨e,_⟩|⟨F,v,a,G,_,w,r4,P,Q⟩
 ·rw[D] at e;cases e
 ·rw[D] at G
  cases G
  have z:=cert_sub r N w E
  have d:=P.unique z
  have h:g ∈ j:=w.cl.init
  rcases Q with⟨e,_⟩|⟨A,U,V,X,f⟩
  ·have:=d g h
   have e:a g= -1:=e
   omega
  ·rcases f with⟨_,c,l1,H,l3⟩|⟨p,s,J,p3⟩
   ·have:=V1 l1 fun x K=>(mem_pnd (t:=t)).2 ⟨E x (V x (H x K).1).1,(H x K).2⟩
    omega
   ·have k:RchC (frT t g) A g:=.init
    have n:¬ i6 (frT t g) g:=O
    have o:=J.pol u U p3
    refine⟨p,A g,s,?_,?_⟩
    ·rw[(aA8 o g).1,J.live k n]
    ·obtain⟨⟨⟨c1,L⟩,c3,y,i,c4⟩,_⟩:=X g k n
     have q:∀y ∈ sc t g (A g),y ∈ j:=fun y i=>w.sc h c1 L i
     refine⟨⟨c1,L⟩,fun y i=> ?_,y,i,?_⟩
     ·rw[<- d y (q y i)];exact c3 y i
     ·rw[<- d y (q y i),<- d g h];exact c4
noncomputable def cerS(t:b9)(all:LL)(f:Li->Int):LL:=pnd t (all.filter fun a=> !dec (f a<0))
def L6{t:b9}{all:LL}:b ∈ cerS t all l↔(b ∈ all/\0<=l b)/\¬ i6 t b:=by unfold cerS;rw[mem_pnd,kM];by_cases c:l b<0;rw[l8 c];simp;omega;rw[o8 c];simp;omega
def cer_sts{t:b9}{all:LL}(b:ClO t all)(c:(pnd t all).length<=5)(f:Li->Int):StS t (cerS t all f):=by refine⟨Ord.pnd (kr.filter _ b.ord),?_,fun s a=>b.set (L6.1 a).1.1,fun s a=>(L6.1 a).2⟩;have:(cerS t all f).length<=(pnd t all).length:=(List.Sublist.filter _ List.filter_sublist).length_le;omega
def cyc_alw{t:b9}{all:LL}(d:ClO t all)(e:g ∈ all){b:Int}(h:CycP t l g b):Alw t (cerS t all l) g b:=
 ⟨h.1.1,h.1.2,fun y c=>by by_cases a:i6 t y;exact .inl a;exact .inr (L6.2 ⟨⟨d.sc e h.1.1 h.1.2 c,h.2.1 y c⟩,a⟩)⟩
def begin_all{t:b9}{all:LL}(B:j6 t)(z:ClO t all)(G:(pnd t all).length<=5)(H:E1 t all l):
  ∃a,forR 0 ((cerS t all l).length:Int) (aa0 t (cerS t all l)) []=some a/\OkL t (cerS t all l) a/\PrL t (cerS t all l) a:=by
 have D:=cer_sts z G l
 have K:=D.n5
 obtain⟨a,L,k2,M⟩:=m5 (body:=aa0 t (cerS t all l)) (n:=((cerS t all l).length:Int)) (s:=([]:Li))
  (fun j c=>(lm c:Int)=j/\∀(i:Nat) s,(i:Int)<j->(cerS t all l)[i]? =some s->∃b,c[i]? =some b/\CycP t l s b) (by omega) ⟨rfl,fun i s q=>by omega⟩ (fun j c N j1 ⟨p1,O⟩=>by
   obtain⟨J,rfl⟩:=jp N;have P:J<(cerS t all l).length:=by omega
   have o:=P5 P;have r:=L6.1 (jJ o);obtain⟨p,b,u,b2,b3⟩:=begin_eq B z (by omega) H r.1.1 r.1.2 r.2;have Q:app 8 c [b]=some (c++[b]):=by unfold app;rw[if_pos (by simp;omega)]
   unfold aa0;simp only[show ix (cerS t all l) (J:Int)=some (sN (cerS t all l) J) by rw[j7,o],jr,show F9 (⟨t.facts,sN (cerS t all l) J,t.goal,t.operators⟩:b9)=_ from u,b2,Q];refine⟨_,rfl,by rw[jt,jy];omega,fun i s q d=> ?_⟩;by_cases e:i=J;subst e;rw[o] at d;cases d;exact⟨b,by rw[jG (by omega),show i - (lm c)=0 by omega];rfl,b3⟩;obtain⟨U,d1,d2⟩:=O i s (by omega) d;exact⟨U,by rw[jw (by omega),d1],d2⟩)
 have hk:∀(i:Nat) s,(cerS t all l)[i]? =some s->∃b,a[i]? =some b/\CycP t l s b:=fun i s d=>M i s (by have:=(lG.1 d).1;omega) d
 have v:OkL t (cerS t all l) a:=⟨by omega,fun i s d=>by obtain⟨b,u,b2⟩:=hk i s d;exact⟨b,u,cyc_alw z (L6.1 (jJ d)).1.1 b2⟩⟩
 refine⟨a,L,v,?_⟩
 have h:=v.sys B D
 have key:∀(k:Nat) (i:Nat) s,(cerS t all l)[i]? =some s->l s<=k->Wy t (cerS t all l) (stL t (cerS t all l) a) i:=fun k=>by
  induction k with
  |zero=>
   intro i s d V
   obtain⟨b,u,_,b2,y,A,e⟩:=hk i s d
   have:=b2 y A
   omega
  |succ k X=>
   intro i s d V
   obtain⟨b,u,b2⟩:=hk i s d
   have f:=b2
   obtain⟨_,b3,y,A,e⟩:=f
   have q:=(lG.1 d).1
   have w:y ∈ stL t (cerS t all l) a i:=((h.res i s d).mem y).2 (by rw[ah7 u];obtain⟨x,hx,e⟩:=jx.1 A;exact⟨x,hx,e⟩)
   by_cases g:i6 t y
   ·exact .exit q w g
   ·have r:=(L6.1 (jJ d)).1.1
    obtain⟨j,F⟩:=jC (((cyc_alw z r b2).2.2 y A).resolve_left g)
    exact .step q F w (X j y F (by omega))
 intro i q
 have d:=P5 q
 have r:=L6.1 (jJ d)
 exact(key (l (sN (cerS t all l) i)).toNat i _ d (by omega)).px h
def cost0_eq{l:List i9}:o7 l U5=some (dec (∃o ∈ l,o.cost=0)):=by unfold o7 v6;rcases F5 (body:=s6 l U5) (n:=(lm l:Int)) (fun j=>if dec (∃x,ix l j=some x/\x.cost=0)=true then some j else none) (by omega) (fun j c b _=>by obtain⟨x,d,_⟩:=j9 (l:=l) c b;unfold s6 U5;rw[d];simp only[oB];by_cases e:x.cost=0;rw[if_pos (by simp[e]),ifP ⟨x,rfl,e⟩];rw[if_neg (by simp[e]),ifN (by rintro ⟨y,h,q⟩;cases h;exact e q)]) with⟨b,a⟩|⟨j,o,c,b,a,u,k⟩;rw[b];simp only[oB];rw[o8];rfl;rintro ⟨o,p,f⟩;obtain⟨i,r,s,t⟩:=n9 p;have:=a i r s;rw[ifP ⟨o,t,f⟩] at this;cases this;rw[k];split at a;rename_i e;cases a;simp only[oB];obtain⟨x,d,f⟩:=n7.1 e;rw[l8 ⟨x,j8 d,f⟩,decide_eq_true c];cases a
def certain_eq{t:b9}{all:LL}(c:ClO t all){v:Li}(e:Rep all v l):D4 all all v=some (all.filter fun a=> !dec (l a<0)):=by have d:=c.len;have:D4 all all v=delA (fun y=>U7 y v all) all:=rfl;rw[this];exact del_eq (g:=fun a=>l a<0) (by omega) fun a h=>by obtain⟨i,j,b⟩:=e.of h;unfold U7;rw[ad3 c.ord (by omega) j,jr,b,jr,G3]
noncomputable def chL(S:LL)(l:Li)(s:Li):Int:=oL l (posS S s)
def chL_alw{t:b9}{S:LL}(d:Ord S)(h:OkL t S b)(e:g ∈ S):∃i:Nat,S[i]? =some g/\b[i]? =some (chL S b g)/\Alw t S g (chL S b g):=by
 obtain⟨i,a⟩:=jC e;obtain⟨f,c,j⟩:=h.al i g a;have:chL S b g=f:=by unfold chL;rw[aq3 d a,ah7 c]
 rw[this];exact⟨i,a,c,j⟩
def chL_in{t:b9}{S:LL}(a:StS t S)(h:OkL t S b)(c:i6 t t.init\/t.init ∈ S)(d:RchC t (chL S b) g):i6 t g\/g ∈ S:=by
 induction d with
 |init=>exact c
 |@step g y _ e f i=>
  obtain⟨_,_,_,j⟩:=chL_alw a.ord h (i.resolve_left e)
  exact j.2.2 y f
def chL_ok{t:b9}{S:LL}(a:StS t S)(h:OkL t S b)(d:i6 t t.init\/t.init ∈ S):ChOk t (chL S b):=fun s e f=>by obtain⟨_,_,_,c⟩:=chL_alw a.ord h ((chL_in a h d e).resolve_left f);exact⟨c.1,c.2.1⟩
def buildL{t:b9}(j:j6 t){S:LL}(a:StS t S)(h:OkL t S b)(c:i6 t t.init\/t.init ∈ S)(den:Int)(N:Li):∃p,Y9 t t S den b N=some (p,true)/\PolB t (chL S b) p/\(lm p)<=200:=by have k:=a.n5;have e:Y9 t t S den b N=Y1 t (fun s=>x5 s t S den b N):=rfl;obtain⟨r,n,d⟩:=build_prog j (chL_ok a h c) (choose:=fun s=>x5 s t S den b N) (fun s o u=>by obtain⟨i,v,w,z⟩:=chL_alw a.ord h ((chL_in a h c o).resolve_left u);unfold x5;rw[ad3 a.ord (by omega) (show ix S (i:Int)=some s by rw[j7,v]),jr,j7,w];rfl);rw[e,n];rcases d with⟨_,q,y,f,A⟩|⟨p,rfl,d⟩;have:=V1 y fun x g=>(chL_in a h c (f x g).1).resolve_left (f x g).2;omega;exact⟨p,rfl,d⟩
def best_spec{t:b9}(c:j6 t):(E6 t=some ([],false)/\A7 t 2000=some ([],false)/\B9 t=some ([],⟨0,0⟩,false,⟨10, -7⟩))\/∃all v f,E6 t=some (all,true)/\A7 t 2000=some (all,true)/\ClO t all/\Rep all v f/\E1 t all f/\
  (((∃o ∈ t.operators,o.cost=0)/\B9 t=some ([],⟨0,0⟩,false,⟨3, -5⟩))\/((¬ ∃o ∈ t.operators,o.cost=0)/\
   ((5<(pnd t all).length/\B9 t=some ([],⟨0,0⟩,false,⟨10, -7⟩))\/((pnd t all).length<=5/\
    ((f t.init<0/\B9 t=some ([],⟨0,0⟩,false,⟨0,0⟩))\/(0<=f t.init/\
     ((i6 t t.init/\B9 t=some ([],⟨0,1⟩,true,⟨0,0⟩))\/(¬ i6 t t.init/\
      ∃(den:Int) (l N:Li) (v:Li->Int),Fin t (cerS t all f) v den l N/\
       ((¬ ((frN (v t.init).toNat den.toNat).num<=1000000000/\(frN (v t.init).toNat den.toNat).den<=1000000000)/\B9 t=some ([],⟨0,0⟩,false,⟨10, -2⟩))\/
        (((frN (v t.init).toNat den.toNat).num<=1000000000/\(frN (v t.init).toNat den.toNat).den<=1000000000)/\∃p,PolB t (chL (cerS t all f) l) p/\(lm p)<=200/\B9 t=some (p,frN (v t.init).toNat den.toNat,true,⟨0,0⟩))))))))))):=by
 have hn:=c.n1
 unfold B9
 rw[explore_ok c]
 rcases aB1 c with⟨all,w,z,A,H,_⟩|⟨w,z⟩
 ·right
  have j:ClO t all:=⟨A,H⟩
  have J:=j.len
  obtain⟨v,f,O,B,K⟩:=aF2 c j
  obtain⟨i,P,D⟩:=B.of A.init
  refine⟨all,v,f,w,z,j,B,K,?_⟩
  rw[w]
  simp only[oB,if_true]
  rw[if_neg (by simp),cost0_eq,jr]
  by_cases q:∃o ∈ t.operators,o.cost=0
  ·rw[ifP q]
   exact .inl ⟨q,rfl⟩
  ·rw[ifN q]
   refine .inr ⟨q,?_⟩
   have k:∀op:Int,0<=op/\op<lm t.operators->1<=(ooAt t op).cost:=fun op h=>by have h1:=(c.at h.1 h.2).c0;have h2:(ooAt t op).cost ≠ 0:=fun e=>q ⟨_,j8 (ix_oo h.1 h.2),e⟩;omega
   have d:∀s ∈ all,SetN s t.facts:=fun s E=>j.set E
   have Q:(all.filter fun a=> !dec (f a<0)).length<=lm all:=kQ _ _
   rw[O,jr,cloneLL_eq (by omega),jr,certain_eq j B,jr,pending_eq c (by omega) (fun s E=>d s (kM.1 E).1),jr,jr,pending_eq c (by omega) d,jr]
   by_cases L:5<((pnd t all).length:Int)
   ·rw[if_pos L]
    exact .inl ⟨by omega,rfl⟩
   ·rw[if_neg L]
    have F:(pnd t all).length<=5:=by omega
    refine .inr ⟨F,?_⟩
    rw[ad3 H (by omega) P,jr,D,jr]
    by_cases G:f t.init<0
    ·rw[if_pos G]
     exact .inl ⟨G,rfl⟩
    ·rw[if_neg G]
     refine .inr ⟨by omega,?_⟩
     rw[show u7 t.init t.goal=some (dec (i6 t t.init)) from X0 c.init.1 c.goal.1 (by have:=c.init.len;omega),jr]
     by_cases r:i6 t t.init
     ·rw[ifP r]
      exact .inl ⟨r,rfl⟩
     ·rw[ifN r]
      refine .inr ⟨r,?_⟩
      have x:=cer_sts j F f
      have U:=x.n5
      obtain⟨l0,a1,V,X⟩:=begin_all c j F K
      obtain⟨den,l,N,v,b1,b2⟩:=rounds_eq c k x V X 0 []
      have n:t.init ∈ cerS t all f:=L6.2 ⟨⟨A.init,by omega⟩,r⟩
      obtain⟨M,u⟩:=jC n
      have aa:=b2.vb.v0 _ n
      have d0:=b2.vb.d0;have d1:=b2.vb.d1
      have g:=report_eq (sg:=1) (.inl rfl) (a:=(v t.init).toNat) (b:=den.toNat) (by omega) (by omega) (by omega)
      rw[kc,kc,show(((v t.init).toNat:Nat):Int)=v t.init by omega,show((den.toNat:Nat):Int)=den by omega] at g
      refine⟨den,l,N,v,b2,?_⟩
      rw[show pnd t (all.filter fun a=> !dec (f a<0))=cerS t all f from rfl,a1,jr,b1]
      simp only[oB]
      rw[ad3 x.ord (by omega) (show ix (cerS t all f) (M:Int)=some t.init by rw[j7,u]),jr,b2.vb.get M _ u,jr,g,jr]
      by_cases y:(frN (v t.init).toNat den.toNat).num<=1000000000/\(frN (v t.init).toNat den.toNat).den<=1000000000
      ·rw[if_pos y]
       refine .inr ⟨y,?_⟩
       obtain⟨p,e1,e2,e3⟩:=buildL c x b2.ok (.inr n) den N
       refine⟨p,e2,e3,?_⟩
       rw[if_neg (by simp),e1]
       rfl
      ·rw[if_neg y]
       exact .inl ⟨y,rfl⟩
 ·left
  rw[w]
  exact⟨rfl,z,rfl⟩
def best_bad{t:b9}{f:u5}(b:P0 t=some f)(a:f.code ≠ 0):B9 t=some ([],⟨0,0⟩,false,f):=by unfold B9;rw[explore_bad b a];simp only[oB];rw[if_pos (fault_no a)]
def Fin.le{t:b9}(a:j6 t){S:LL}(j:StS t S){v:Li->Int}{den:Int}{N:Li}(h:Fin t S v den b N)(c:g ∈ S){op:Int}(k:Alw t S g op):v g * WS t g op<=QS t v den g op:=by
 obtain⟨i,n⟩:=jC c;obtain⟨f,_,f2,f3⟩:=h.bst i g n;have d:=f2.2.1 op k;rw[f3] at d;have o:=(ws_pos a f2.1.1 (at0 a f2.1.1 (j.set g c))).1;have e:(v g * WS t g op) * WS t g f<=QS t v den g op * WS t g f:=by rw[show v g * WS t g op * WS t g f=v g * WS t g f * WS t g op by grind];exact d
 exact kj e (by omega)
def Fin.eq{t:b9}{S:LL}(a:StS t S){v:Li->Int}{den:Int}{l N:Li}(h:Fin t S v den l N)(c:b ∈ S):QS t v den b (chL S l b)=v b * WS t b (chL S l b):=by obtain⟨i,d,e,_⟩:=chL_alw a.ord h.ok c;obtain⟨f,f1,_,f3⟩:=h.bst i b d;rw[e] at f1;cases f1;exact f3
def filter_set:∀{l:List Bool} {i:Nat},l[i]? =some true->((l.set i false).filter id).length<(l.filter id).length
 |[],_,h=>by simp at h
 |a::l,0,h=>by simp only[kI,Option.some.injEq] at h;subst h;simp
 |a::l,i+1,h=>by have:=filter_set (l:=l) (i:=i) (by simpa using h);cases a<;>simp at this ⊢<;>exact this
noncomputable def bfl(S:Li->Prop)(s:Li):Bool:=dec (S s)
def insideG{t:b9}{all:LL}{S:Li->Prop}(w:j6 t)(B:Ord all)(x:SetN b t.facts){op:Int}(d:0<=op/\op<lm t.operators)(p:∀y ∈ sc t b op,y ∈ all){v:List Bool}(D:Rep all v (bfl S)):
  Q4 t all v b op=some (dec (∀y ∈ sc t b op,S y)):=by
 obtain⟨st,E,F,_,G,_⟩:=J0 w d.1 d.2 x
 have a:∀y,y ∈ st↔y ∈ sc t b op:=fun y=>by rw[G,sc,jx]
 unfold Q4
 rw[an9 w d.1 d.2 x,F]
 simp only[oB]
 rcases F5 (body:=ah4 all v (st,E)) (n:=(lm st:Int)) (fun j=>if dec (∃y,ix st j=some y/\¬ S y)=true then some false else none) (by omega) (fun j d q _=>by obtain⟨y,f,_⟩:=j9 (l:=st) d q;obtain⟨i,r,u⟩:=D.of (p y ((a y).1 (j8 f)));unfold ah4;dsimp only;rw[f];simp only[oB,as5 B r,u];unfold bfl;rw[x8];by_cases c:S y;rw[ifNN c,ifN (by rintro ⟨z,H,h⟩;cases H;exact h c)];rw[ifP c,ifP ⟨y,rfl,c⟩]) with⟨q,g⟩|⟨j,o,_,_,g,_,J⟩
 ·rw[q,l8]
  ·rfl
  intro y f
  obtain⟨i,K,L,r⟩:=n9 ((a y).2 f)
  have:=g i K L
  refine jL fun h=> ?_
  rw[ifP ⟨y,r,h⟩] at this
  cases this
 ·rw[J]
  split at g
  ·rename_i e
   cases g
   obtain⟨y,f,h⟩:=n7.1 e
   rw[o8]
   ·rfl
   exact fun k=>h (k y ((a y).1 (j8 f)))
  ·cases g
structure LowD(t:b9)(S:Li->Prop)(all:LL)(g:Li->Int):Prop where
 b:∀s ∈ all,0<=g s/\g s<=1000000000
 dn:∀s ∈ all,g s<1000000000->DsC t S (g s).toNat s
 goal:∀s ∈ all,i6 t s->g s=0
def FixD(t:b9)(S:Li->Prop)(g:Li->Int)(s:Li):Prop:=S s->∀op:Int,(0<=op/\op<lm t.operators)->oCan t s op->(∀y ∈ sc t s op,S y)->∀m,MN g (sc t s op) m->g s<=m+1
def cert5{t:b9}{all:LL}{S:Li->Prop}(ht:j6 t)(hc:ClO t all){inv:List Bool}(hi:Rep all inv (bfl S)){i:Int}{s:Li}(hs:ix all i=some s){v:Li}{g:Li->Int}(hv:Rep all v g)(hl:LowD t S all g)(b:Bool):
  ∃v' g' b',V0 t all inv i (v,b)=some (v',b')/\Rep all v' g'/\LowD t S all g'/\((b'=b/\v'=v/\FixD t S g s)\/(b'=true/\sumN v'<sumN v)):=by
 have hsm:=j8 hs
 have hset:=hc.set hsm
 have hops:=ht.ops
 obtain⟨⟨v',b'⟩,h1,g',h2,h3,h4⟩:=x9 (body:=af2 t all inv i) (fun x=>0<=x.2.2/\x.2.2<=lm t.operators/\∃g',Rep all x.1 g'/\LowD t S all g'/\((x.2.1=b/\x.1=v/\(S s->∀op:Int,0<=op->op<x.2.2->oCan t s op->(∀y ∈ sc t s op,S y)->∀m,MN g (sc t s op) m->g s<=m+1))\/(x.2.1=true/\sumN x.1<sumN v))) (fun x=>∃g',Rep all x.1 g'/\LowD t S all g'/\((x.2=b/\x.1=v/\FixD t S g s)\/(x.2=true/\sumN x.1<sumN v))) (fun x=>(lm t.operators - x.2.2).toNat) (s:=(v,b,0)) ⟨by dsimp only;omega,by dsimp only;omega,g,hv,hl,.inl ⟨rfl,rfl,fun _ op o0 o1=>by dsimp only at o1;omega⟩⟩ (fun⟨x,bx,j⟩ ⟨j0,j1,g',q1,q2,q3⟩=>by
  dsimp only at j0 j1 q1 q3 ⊢;unfold af2;dsimp only;have key:(if j<(lm t.operators:Int) then jD (ix inv i) fun a64=>some a64 else some false)=some (dec (j<(lm t.operators:Int)/\S s)):=by by_cases c:j<(lm t.operators:Int);rw[if_pos c,hi.get hs];simp only[oB];unfold bfl;exact congrArg some (r9 ⟨fun h=>⟨c,h⟩,fun h=>h.2⟩);rw[if_neg c,o8 (fun h=>c h.1)]
  rw[key];simp only[oB];by_cases c:j<(lm t.operators:Int)/\S s;rw[ifP c,hs];have hw:w64 (j+1)=j+1:=k9 (by omega) (by omega);simp only[oB,ay7 j0 c.1];have key2:(if(!dec (oCan t s j))=true then some true else jD (Q4 t all inv s j) fun a86=>some (!a86))=some (dec (¬ (oCan t s j/\∀y ∈ sc t s j,S y))):=by rw[x8];by_cases cc:oCan t s j;rw[ifNN cc,insideG ht hc.ord hset ⟨j0,c.1⟩ (fun y hy=>hc.sc hsm ⟨j0,c.1⟩ cc hy) hi];simp only[oB,x8];exact congrArg some (r9 ⟨fun h g=>h g.2,fun h g=>h ⟨cc,g⟩⟩);rw[ifP cc,l8 (fun h=>cc h.1)]
  rw[key2];simp only[oB];have next:∀{P:Prop},(S s->∀op:Int,0<=op->op<j->oCan t s op->(∀y ∈ sc t s op,S y)->∀m,MN g (sc t s op) m->g s<=m+1)->(oCan t s j->(∀y ∈ sc t s j,S y)->∀m,MN g (sc t s j) m->g s<=m+1)->(S s->∀op:Int,0<=op->op<j+1->oCan t s op->(∀y ∈ sc t s op,S y)->∀m,MN g (sc t s op) m->g s<=m+1):=fun h1 h2 hS op o0 o1 oc oi m hm=>by by_cases e:op=j;subst e;exact h2 oc oi m hm;exact h1 hS op o0 (by omega) oc oi m hm
  by_cases cc:oCan t s j/\∀y ∈ sc t s j,S y;rw[ifNN cc];have hcl:∀y ∈ sc t s j,y ∈ all:=fun y hy=>hc.sc hsm ⟨j0,c.1⟩ cc.1 hy;obtain⟨m,m1,m2⟩:=leastG ht hc.ord hset ⟨j0,c.1⟩ hcl q1;rw[m1];simp only[oB,q1.get hs];have hgs:=q2.b s hsm;have hm0:0<=m:=by rcases m2.2.2 with h|⟨y,hy,h⟩;omega;have:=(q2.b y (hcl y hy)).1;omega
  have hm1:=m2.1;have hw2:w64 (m+1)=m+1:=k9 (by omega) (by omega);rw[hw2];by_cases cm:m+1<g' s;rw[if_pos cm];simp only[oB];refine .inl ⟨(x.set i.toNat (m+1),true,j+1),by rw[hw],⟨by dsimp only;omega,by dsimp only;omega,upd g' s (m+1),q1.set hc.ord hs _,⟨fun z hz=> ?_,fun z hz=> ?_,fun z hz hgz=> ?_⟩,.inr ⟨rfl,?_⟩⟩,by dsimp only;omega⟩;by_cases e:z=s;subst e;rw[P1];omega;rw[T0 e];exact q2.b z hz;by_cases e:z=s;subst e;rw[P1];intro _;rcases m2.2.2 with h|⟨y,hy,h⟩;omega;rw[show(m+1).toNat=m.toNat+1 by omega];have:=q2.dn y (hcl y hy) (by omega);rw[h] at this;exact .inr ⟨c.2,j,⟨j0,c.1⟩,cc.1,cc.2,y,hy,this⟩;rw[T0 e];exact q2.dn z hz;by_cases e:z=s;subst e;have:=q2.goal z hz hgz;omega;rw[T0 e];exact q2.goal z hz hgz;have:=aw3 (l:=x) (i:=i.toNat) (x:=m+1) (y:=g' s) (m8 (q1.get hs)).2.2 (by omega) cm;rcases q3 with⟨_,e,_⟩|⟨_,e⟩;rw[<- e];exact this;exact Nat.lt_trans this e;rw[if_neg cm];simp only[oB];refine .inl ⟨(x,bx,j+1),by rw[hw],⟨by dsimp only;omega,by dsimp only;omega,g',q1,q2,?_⟩,by dsimp only;omega⟩;dsimp only;rcases q3 with⟨e1,e2,e3⟩|q3;refine .inl ⟨e1,e2,next (P:=True) e3 fun oc oi w hw=> ?_⟩
  subst e2;have hgg:∀z ∈ all,g z=g' z:=fun z hz=>by obtain⟨iz,hiz,hgz⟩:=hv.of hz;rw[q1.get hiz] at hgz;exact(Option.some.inj hgz).symm
  have:=(hw.congr fun y hy=>hgg y (hcl y hy)).unique m2;rw[hgg s hsm,this];omega;exact .inr q3;rw[ifP cc];simp only[oB];refine .inl ⟨(x,bx,j+1),by rw[hw],⟨by dsimp only;omega,by dsimp only;omega,g',q1,q2,?_⟩,by dsimp only;omega⟩;dsimp only;rcases q3 with⟨e1,e2,e3⟩|q3;exact .inl ⟨e1,e2,next (P:=True) e3 fun oc oi=>absurd ⟨oc,oi⟩ cc⟩
  exact .inr q3;rw[ifN c];refine .inr ⟨_,rfl,g',q1,q2,?_⟩;dsimp only;rcases q3 with⟨e1,e2,e3⟩|q3;refine .inl ⟨e1,e2,fun hS op ho oc oi m hm=>e3 hS op ho.1 ?_ oc oi m hm⟩;have:¬ j<(lm t.operators:Int):=fun h=>c ⟨h,hS⟩;omega;exact .inr q3)
 refine⟨v',g',b',?_,h2,h3,h4⟩
 unfold V0
 dsimp only
 rw[h1];rfl
def az5{t:b9}{all:LL}(ht:j6 t)(A:ClO t all)(hf:E1 t all l):∃v,S0 t all=some v/\Rep all v (gOf l):=by
 have an:=A.len;unfold S0;rw[show mkL 1 (lm all:Int) false=some (ju (lm all) false) by rw[mkL,if_pos (by omega)];simp];simp only[oB];obtain⟨V,a1,a2,a3⟩:=m5 (body:=ae5) (n:=(lm all:Int)) (s:=ju (lm all) false) (fun j v=>lm v=lm all/\∀i,0<=i->i<j->ix v i=some true) (by omega) ⟨by simp,fun i V X=>by omega⟩ (fun j v E O ⟨F,P⟩=>by obtain⟨b,f,_⟩:=j9 (l:=v) E (by omega);unfold ae5;rw[f];refine⟨_,rfl,by rw[lS];exact F,fun i V X=> ?_⟩;rw[as3 E (by omega) V];by_cases e:i=j;rw[if_pos e];rw[if_neg e];exact P i V (by omega));rw[a1];simp only[oB];obtain⟨v,e1,e2⟩:=x9 (body:=af0 t all) (fun u=>∃S:Li->Prop,(∀s,S s->s ∈ all)/\Rep all u (bfl S)/\(∀s ∈ all,i6 t s->S s)/\∀T,PostF t all T->∀s,T s->S s) (fun v=>Rep all v (gOf l)) (fun u=>(u.filter id).length) (s:=V) ⟨fun s=>s ∈ all,fun s h=>h,⟨a2,fun {i s} B=>by rw[a3 i (m8 B).1 (m8 B).2.1];unfold bfl;rw[l8 (j8 B)]⟩,fun s d _=>d,fun T J s d=>(J s d).1⟩ (fun u ⟨S,s1,Q,s3,s4⟩=>by
  unfold af0
  rw[show mkL 8 (lm all:Int) (0:Int)=some (ju (lm all) 0) by rw[mkL,if_pos (by omega)];simp]
  simp only[oB]
  obtain⟨v0,b1,g0,b2,b3⟩:=m5 (body:=ae6 t all) (n:=(lm all:Int)) (s:=ju (lm all) 0) (fun j v=>∃g,Rep all v g/\∀i s,ix all i=some s->i<j->(i6 t s->g s=0)/\(¬ i6 t s->g s=1000000000)) (by omega) ⟨_,Rep.repl 0,fun i s B h=>by have:=(m8 B).1;omega⟩ (fun j v E O ⟨g,F,P⟩=>by obtain⟨s,d,_⟩:=j9 (l:=all) E O;unfold ae6;rw[F.get d];simp only[oB,d,ab2];have hu:=F.set A.ord d 1000000000;by_cases p:i6 t s;rw[ifP p];simp only[hu.get d,oB];refine⟨_,rfl,_,hu.set A.ord d 0,fun i z o B=> ?_⟩;by_cases e:i=j;subst e;rw[d] at o;cases o;rw[P1];exact⟨fun _=>rfl,fun h=>absurd p h⟩;have aa:z ≠ s:=fun K=>e (A.ord.inj o (by rw[K];exact d));rw[T0 aa,T0 aa];exact P i z o (by omega);rw[ifN p];refine⟨_,rfl,_,hu,fun i z o B=> ?_⟩;by_cases e:i=j;subst e;rw[d] at o;cases o;rw[P1];exact⟨fun h=>absurd h p,fun _=>rfl⟩;rw[T0 (fun K=>e (A.ord.inj o (by rw[K];exact d)))];exact P i z o (by omega))
  rw[b1]
  simp only[oB]
  have key:∀s ∈ all,(i6 t s->g0 s=0)/\(¬ i6 t s->g0 s=1000000000):=fun s d=>by obtain⟨i,_,X,B⟩:=n9 d;exact b3 i s B X
  have ac:LowD t S all g0:=by refine⟨fun s d=> ?_,fun s d h=> ?_,fun s d p=>(key s d).1 p⟩;by_cases p:i6 t s;rw[(key s d).1 p];omega;rw[(key s d).2 p];omega;by_cases p:i6 t s;exact .goal p;rw[(key s d).2 p] at h;omega
  obtain⟨w,g,c1,c2,L,c4⟩:=lower_loop (l:=all) (Low:=LowD t S all) (Fix:=FixD t S) (b3:=V0 t all u) (body:=ae2 t all u) (fun v b=>by unfold ae2;rfl) (fun g g' e s d h hS op ho oc oi m M=>by rw[<- e s d];exact h hS op ho oc oi m (M.congr fun y U=>(e y (A.sc d ho oc U)).symm)) (fun i s v g b d hr hl=>cert5 ht A Q d hr hl b) b2 ac
  rw[c1]
  simp only[oB]
  -- what the values are
  have le:∀k:Nat,∀s ∈ all,DsC t S k s->g s<=k:=fun k=>by
   induction k with
   |zero=>exact fun s d h=>by rw[L.goal s d h];omega
   |succ k ih=>
    intro s d h
    by_cases p:i6 t s
    ·rw[L.goal s d p];omega
    ·rcases h with h|⟨hS,op,o1,o2,o3,y,U,hk⟩
     ·exact absurd h p
     ·obtain⟨m,_,m2⟩:=leastG ht A.ord (A.set d) o1 (fun y U=>A.sc d o1 o2 U) c2
      have:=c4 s d hS op o1 o2 o3 m m2
      have:=m2.2.1 y U
      have:=ih y (A.sc d o1 o2 U) hk
      omega
  have val:∀s ∈ all,(g s=1000000000/\∀k,¬ DsC t S k s)\/∃k:Nat,g s=k/\HtD t S k s:=fun s d=>by have f:=L.b s d;by_cases c:g s<1000000000;right;obtain⟨m,m1,m2⟩:=HtD.of_dn (L.dn s d c);have:=le m s d m2.1;exact⟨m,by omega,m2⟩;left;refine⟨by omega,fun k hk=> ?_⟩;obtain⟨m,_,M⟩:=HtD.of_dn hk;have:=M.lt A d;have:=le m s d M.1;omega
  obtain⟨ao,d1,d2⟩:=m5 (body:=ad9 u w) (n:=(lm all:Int)) (s:= -1) (fun j x=>(x= -1/\∀i s,i<j->ix all i=some s->¬ (S s/\1000000000<=g s))\/(0<=x/\∃s,ix all x=some s/\S s/\1000000000<=g s)) (by omega) (.inl ⟨rfl,fun i s B d=>by have:=(m8 d).1;omega⟩) (fun j x E O G=>by
   obtain⟨s,d,_⟩:=j9 (l:=all) E O;unfold ad9;rw[Q.get d,c2.get d];simp only[oB];have k2:(if bfl S s=true then some (decide (1000000000<=g s)) else some false)=some (dec (S s/\1000000000<=g s)):=by unfold bfl;by_cases c:S s;rw[ifP c,G3];exact congrArg some (r9 ⟨fun h=>⟨c,h⟩,fun h=>h.2⟩);rw[ifN c,o8 (fun h=>c h.1)]
   rw[k2];simp only[oB];by_cases c:S s/\1000000000<=g s;rw[ifP c];exact⟨_,rfl,.inr ⟨E,s,d,c⟩⟩;rw[ifN c];refine⟨_,rfl,?_⟩;rcases G with⟨F,P⟩|F;refine .inl ⟨F,fun i z B o=> ?_⟩;by_cases e:i=j;subst e;rw[d] at o;cases o;exact c;exact P i z (by omega) o;exact .inr F)
  rw[d1]
  simp only[oB]
  rcases d2 with⟨rfl,d2⟩|⟨d0,s,d,hS,av⟩
  ·rw[if_pos (by decide)]
   -- the set is the greatest
   have H:∀s,S s->g s<1000000000:=fun s h=>by obtain⟨i,_,X,B⟩:=n9 (s1 s h);exact Int.not_le.1 fun f=>d2 i s X B ⟨h,f⟩
   have ad:E1 t all (fun s=>if g s<1000000000 then g s else -1):=by
    have eS:Sd all (fun s=>if g s<1000000000 then g s else -1)=S:=funext fun s=>propext ⟨fun⟨M,h⟩=>by
     dsimp only at h;by_cases c:g s<1000000000;rcases val s M with⟨q,_⟩|⟨k,_,hk⟩;omega;cases k with
     |zero=>exact s3 s M hk.1
     |succ k=>exact hk.step.2.1
     rw[if_neg c] at h;omega,fun h=>⟨s1 s h,by
     show 0<=if g s<1000000000 then g s else -1;rw[if_pos (H s h)];exact(L.b s (s1 s h)).1⟩⟩
    refine⟨fun s d=> ?_,fun T J s d=> ?_⟩;rw[eS];rcases val s d with⟨q1,q2⟩|⟨k,q1,q2⟩;exact .inl ⟨by rw[if_neg (by omega)],q2⟩;have:=q2.lt A d;exact .inr ⟨k,by rw[if_pos (by omega)];exact q1,q2⟩;have h:=s4 T J s d;show 0<=if g s<1000000000 then g s else -1;rw[if_pos (H s h)];exact(L.b s (s1 s h)).1
   have al:=hf.unique ad
   have eq:∀s ∈ all,g s=gOf l s:=fun s d=>by have:=al s d;have f:=L.b s d;unfold gOf;by_cases c:g s<1000000000;rw[if_pos c] at this;rw[if_neg (by omega)];omega;rw[if_neg c] at this;rw[if_pos (by omega)];omega
   obtain⟨w',k1,k2⟩:=m5 (body:=ae3 u) (n:=(lm all:Int)) (s:=w) (fun j x=>Rep all x (gOf l)) (by omega) (c2.congr eq) (fun j x E O G=>by
    obtain⟨s,d,_⟩:=j9 (l:=all) E O;have N:=j8 d;unfold ae3;rw[Q.get d];simp only[oB];unfold bfl;rw[x8];by_cases c:S s;rw[ifNN c];exact⟨_,rfl,G⟩;rw[ifP c,G.get d];refine⟨_,rfl,(G.set A.ord d 1000000000).congr fun z o=> ?_⟩;by_cases e:z=s;subst e;rw[P1,<- eq z o];rcases val z o with⟨q,_⟩|⟨k,q,hk⟩;exact q.symm;cases k with
    |zero=>exact absurd (s3 z o hk.1) c
    |succ k=>exact absurd hk.step.2.1 c
    rw[T0 e])
   rw[k1]
   exact .inr ⟨_,rfl,k2⟩
  ·rw[if_neg (by omega),Q.get d]
   simp only[oB]
   have N:=j8 d
   have D:∀k,¬ DsC t S k s:=by rcases val s N with⟨_,q⟩|⟨k,q,hk⟩;exact q;have:=hk.lt A N;omega
   refine .inl ⟨_,rfl,⟨fun z=>S z/\z ≠ s,fun z h=>s1 z h.1,(Q.set A.ord d false).congr fun z o=> ?_,fun z o p=>⟨s3 z o p,fun e=> ?_⟩,fun T J z o=>⟨s4 T J z o,fun e=> ?_⟩⟩,?_⟩
   ·unfold bfl
    by_cases e:z=s
    ·subst e;rw[P1,o8 (fun h=>h.2 rfl)]
    ·rw[T0 e];exact r9 ⟨fun h=>⟨h,e⟩,fun h=>h.1⟩
   ·subst e;exact D 0 p
   ·subst e
    obtain⟨_,k,hk⟩:=J z o
    exact D k (hk.sub (s4 T J))
   ·have G:=(m8 (Q.get d)).2.2
    rw[show bfl S s=true by unfold bfl;exact l8 hS] at G
    exact filter_set G)
 rw[e1];exact⟨v,rfl,e2⟩
def det_bd1{R B:Int}(b:0<=R)(c:0<=B):∀{n:Nat} {A:Mtx},(∀i,i<n+1->smN (n+1) (fun j=>ab (A i j))<=R)->(∀i j,i<n+1->j<n+1->ab (A i j)<=B)->ab (det (n+1) A)<=B * R ^ n
 |0,A,_,h=>by have:=h 0 0 (by omega) (by omega);simpa[det,smN,sgn] using this
 |n+1,A,d,e=>by
  have g:0<=B * R ^ n:=jE c (pow_nn b n);rw[det];refine jK (ab_sum _) ?_;have l:∀j,j<n+1+1->ab (sgn j * A 0 j * det (n+1) (mnr A j))<=(B * R ^ n) * ab (A 0 j):=fun j q=>by rw[af8,af8,ab_sgn,kc,jO];refine jU (det_bd1 b c (fun i o=> ?_) fun i k o hk=> ?_) (y9 _);have a:=d (i+1) (by omega);have p:=smN_sk (f:=fun k=>ab (A (i+1) k)) (fun k=>y9 _) (n:=n+1) (j:=j);exact jK p a;unfold mnr;exact e _ _ (by omega) (by unfold sk;split<;>omega)
  refine jK (N8 l) ?_;rw[B6];have a:=jW (d 0 (by omega)) g;rw[Int.pow_succ,<- Int.mul_assoc];exact a
def den_small{t:b9}{S:LL}{op:Nat->Int}{st:Nat->LL}{w:Nat->Li}(c:j6 t)(h:Sys t S op st w):ab (det (lm S) (eqN t S op st w))<=127401984:=by
 have b:=as8 c h;have o:=sys_rb c h;have p:=h.n5;by_cases q:lm S=0;rw[q];simp[det,ab];obtain⟨m,d⟩:∃m,lm S=m+1:=⟨lm S - 1,by omega⟩;have:=det_bd1 (R:=48) (B:=24) (by omega) (by omega) (n:=m) (A:=eqN t S op st w) (fun i r=>by rw[<- d];exact o.row i (by omega)) fun i k r hk=>by
  have s:=b.nn i k;have u:=b.pos i (by omega);have v:=b.le i (by omega);have x:=WF_le h (i:=i) (by omega);have y:wG S st w i k<=smN (lm S) (wG S st w i):=by
   have:=N8 (n:=lm S) (f:=fun j=>if j=k then wG S st w i k else 0) (g:=wG S st w i) fun j l=>by split;rename_i e;rw[e];exact jA _;exact b.nn i j
   rw[R3 (a:=k) (by omega) fun j _ l=>if_neg l,if_pos rfl] at this;exact this
  have e:eqN t S op st w i k=(if i=k then WF st w i else 0) - wG S st w i k:=by unfold eqN eqM;rw[if_neg (by omega)]
  rw[e];unfold ab;split<;>split<;>omega
 rw[d];refine jK this ?_;have:∀n:Nat,n<=4->(24:Int) * 48 ^ n<=127401984:=by decide
 exact this m (by omega)
def certG{t:b9}{all:LL}(a:E1 t all l)(c:b ∈ all)(d:i6 t b):0<=l b:=by rcases a.val b c with⟨_,h⟩|⟨k,h,_⟩;exact absurd d (h 0);omega
abbrev Cer(f:Li->Int):Li->Prop:=fun s=>0<=f s
def marks_eq{t:b9}{all:LL}(o:ClO t all)(u:E1 t all l){v:Li}(p:Rep all v (gOf l)):∃m,aa8 v=some m/\Rep all m (bfl (Cer l)):=by
 have q:=o.len;have w:=p.len;obtain⟨m,x,G,y⟩:=m5 (body:=ak6 v) (n:=(lm v:Int)) (s:=([]:List Bool)) (fun j c=>(lm c:Int)=j/\∀(k:Nat) s,(k:Int)<j->all[k]? =some s->c[k]? =some (bfl (Cer l) s)) (by omega) ⟨rfl,fun k s hk=>by omega⟩ (fun j c z H ⟨L,A⟩=>by
  obtain⟨J,rfl⟩:=jp z;have a:J<lm all:=by omega
  have d:ix all (J:Int)=some all[J]:=by rw[j7,jo a]
  have M:=u.bnd o all[J] (jv a);have B:decide (gOf l all[J]<1000000000)=bfl (Cer l) all[J]:=by unfold gOf bfl;split;rw[o8 (by omega:¬ 0<=l all[J])];simp;rw[l8 (by omega:0<=l all[J])];simp;omega
  have D:∀b:Bool,app 1 c [b]=some (c++[b]):=fun b=>by unfold app;rw[if_pos (by simp;omega)]
  unfold ak6;simp only[p.get d,oB,B,D];refine⟨_,rfl,by rw[jt,jy];omega,fun k s hk g=> ?_⟩;by_cases e:k=J;subst e;rw[jo a] at g;cases g;rw[jG (by omega),show k - (lm c)=0 by omega];rfl;rw[jw (by omega)];exact A k s (by omega) g)
 refine⟨m,by unfold aa8;rw[x];rfl,by omega,fun {i s} E=> ?_⟩;obtain⟨F,N,h⟩:=m8 E;obtain⟨K,rfl⟩:=jp F;rw[j7];exact y K s (by omega) (by simpa using h)
def inS_iff{t:b9}{all:LL}(d:ClO t all)(j:E1 t all l)(e:b ∈ all){op:Int}(i:0<=op/\op<lm t.operators)(a:oCan t b op):(∀y ∈ sc t b op,Cer l y)↔∀y ∈ sc t b op,i6 t y\/y ∈ cerS t all l:=by constructor;intro h y c;by_cases g:i6 t y;exact .inl g;exact .inr (L6.2 ⟨⟨d.sc e i a c,h y c⟩,g⟩);intro h y c;rcases h y c with g|g;exact certG j (d.sc e i a c) g;exact(L6.1 g).1.2
noncomputable def optS(t:b9)(all:LL)(f:Li->Int)(s:Li):Li:=V4 (Alw t (cerS t all f) s) (lm t.operators)
def mem_optS{t:b9}{all:LL}{op:Int}:op ∈ optS t all l b↔Alw t (cerS t all l) b op:=by unfold optS;rw[ah2];exact⟨fun h=>h.2.2,fun h=>⟨h.1.1,h.1.2,h⟩⟩
def aB3{t:b9}{all:LL}(n:j6 t)(d:ClO t all)(o:E1 t all l){m:List Bool}(u:Rep all m (bfl (Cer l)))(h:g ∈ all):R5 t all m g=some (optS t all l g):=by have p:=n.ops;unfold R5 optS;rw[forR_setOf (b:=8) (Alw t (cerS t all l) g) (by omega) (by omega) fun j c q r=> ?_];rfl;have e:0<=j/\j<lm t.operators:=⟨q,r⟩;unfold ao2;rw[ay7 q r];simp only[oB];by_cases a:oCan t g j;rw[ifP a,insideG n d.ord (d.set h) e (fun y v=>d.sc h e a v) u];simp only[oB];by_cases i:∀y ∈ sc t g j,Cer l y;refine⟨fun _=> ?_,fun w=>absurd ⟨e,a,(inS_iff d o h e a).1 i⟩ w⟩;rw[ifP i];cases app 8 c [j]<;>rfl;refine⟨fun k=>absurd ((inS_iff d o h e a).2 k.2.2) i,fun _=> ?_⟩;rw[ifN i];rfl;rw[ifN a];exact⟨fun k=>absurd k.2.1 a,fun _=>rfl⟩
def states_eq{t:b9}{all:LL}(i:ClO t all){m:List Bool}(k:Rep all m (bfl (Cer l))):forR 0 (lm all:Int) (ab1 t all m) []=some (cerS t all l):=by have g:=i.len;rw[forR_filter (l:=all) (b:=24) (fun s=>0<=l s/\¬ i6 t s) (fun j a c h=>by have n:=m8 h;unfold ab1;rw[k.get h,h];unfold bfl;simp only[oB,ab2,x8];by_cases c1:0<=l a;rw[ifP (show Cer l a from c1)];simp only[oB];by_cases e:i6 t a;rw[ifNN e];exact⟨fun q=>absurd e q.2,fun _=>rfl⟩;rw[ifP e];exact⟨fun _=>by cases app 24 c [a]<;>rfl,fun q=>absurd ⟨c1,e⟩ q⟩;rw[ifN (show ¬ Cer l a from c1)];exact⟨fun q=>absurd q.1 c1,fun _=>rfl⟩) [] (by simp;omega)];rw[kl];congr 1;unfold cerS pnd;rw[List.filter_filter];refine List.filter_congr fun a _=> ?_;rw[x8,x8,dec_and];exact r9 ⟨fun h=>⟨h.2,by omega⟩,fun h=>⟨by omega,h.1⟩⟩
end Ab
