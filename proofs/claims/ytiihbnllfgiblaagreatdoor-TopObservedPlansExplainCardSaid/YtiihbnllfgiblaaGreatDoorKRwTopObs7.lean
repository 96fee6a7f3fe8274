/-
  Texts that the proof stands on.
-/
import Derived.Test.YtiihbnllfgiblaaGreatDoorKRwTopObs6
set_option linter.all false
open List renaming mem_singleton->jl,mem_append->jm,mem_cons_of_mem->jo,length_append->jp,mem_cons->jq,length_singleton->ju,take_add_one->jv,getElem?_eq_getElem->jx,take_length->jy,append_nil->jA,map_append->jB,mem_append_left->jD,length_cons->jE,eq_nil_of_length_eq_zero->jF,mem_of_mem_take->jH,pairwise_iff_getElem->jI,nodup_cons->jJ,mem_map->jK,append_assoc->jL,map_cons->jN,nil_append->jQ,pairwise_cons->jS,perm_append_singleton->jU,take_sublist->jV,nodup_append->jW,flatMap_cons->jX,drop_eq_getElem_cons->jZ,getElem?_append_left->kc,cons_append->kd,getElem?_take_of_lt->kg,pairwise_singleton->kh,length->kj,getElem?_eq_none->kl,drop_zero->ko,perm_append_comm->ku,dropLast_eq_take->kw,replicate->kA,pairwise_append->kB,flatMap_append->kC,filter_append->kD,getElem?_set->kE,length_take->kF,flatMap_nil->kG
open Int renaming le_refl->jr,toNat_natCast->jG,toNat_zero->km
open Option renaming bind->js,getD_some->jz,getD->jR,map_some->kH
open Nat renaming le_refl->jt,eq_of_testBit_eq->jC,testBit_lt_two_pow->jM,pow_le_pow_right->jP,lt_of_lt_of_le->jT,testBit_and->ki,testBit_or->kp
open Bool renaming false_eq_true->jw,or_eq_true->jO
open Classical renaming byContradiction->jY
section
namespace Ab
open Go
/-! ### Lists compared -/
def listEq{α:Type}{a b:List α}{body:Int->Unit->Option (Unit⊕Bool)}(hl:kj a=kj b)(q:∀j x y,ix a j=some x->ix b j=some y->(x=y/\body j ()=some (.inl ()))\/(x ≠ y/\body j ()=some (.inr false))):
  (js (rngX 0 (kj a:Int) body ()) fun| .inl _=>some true| .inr x=>some x)=some (dec (a=b)):=by
 rcases V9 (body:=body) (n:=(kj a:Int)) (fun j=>if dec (ix a j=ix b j)=true then none else some false) (by omega) (fun j c h1 _=>by obtain⟨x,hx,_⟩:=n5 (l:=a) c h1;obtain⟨y,hy,_⟩:=n5 (l:=b) (i:=j) c (by omega);rcases q j x y hx hy with⟨e,h⟩|⟨e,h⟩;rw[h,ifP (by rw[hx,hy,e])];rw[h,ifN (by rw[hx,hy];simpa using e)]) with⟨h1,h2⟩|⟨j,o,c,h1,h2,_,u⟩
 ·rw[h1,o9]
  ·rfl
  ·refine List.ext_getElem? fun k=> ?_
   by_cases hk:k<kj a
   ·have:=h2 k (by omega) (by omega)
    split at this
    ·rename_i e
     have:=q8.1 e
     rwa [aa3,aa3] at this
    ·cases this
   ·rw[kl (by omega),kl (by omega)]
 ·rw[u]
  split at h2
  ·cases h2
  ·rename_i e
   cases h2
   rw[A5 (fun h=>e (o9 (by rw[h])))];rfl
def ints_eq(a b:Li):aj0 a b=some (dec (a=b)):=by unfold aj0;by_cases hl:(kj a:Int)=kj b;rw[if_pos hl];refine listEq (by omega) fun j x y hx hy=> ?_;unfold at5;simp only[hx,hy,oB];by_cases e:x=y;rw[if_pos e];exact .inl ⟨e,rfl⟩;rw[if_neg e];exact .inr ⟨e,rfl⟩;rw[if_neg hl,A5 (fun h=>hl (by rw[h]))]
def equal_eq(a b:Li):F9 a b=some (dec (a=b)):=by unfold F9;by_cases hl:(kj a:Int)=kj b;rw[if_pos hl];refine listEq (by omega) fun j x y hx hy=> ?_;unfold T7;simp only[hx,hy,oB];by_cases e:x=y;rw[if_pos e];exact .inl ⟨e,rfl⟩;rw[if_neg e];exact .inr ⟨e,rfl⟩;rw[if_neg hl,A5 (fun h=>hl (by rw[h]))]
/-! ### Ordered lists -/
abbrev Ord(l:LL):Prop:=l.Pairwise llt
def Ord.ext:∀{l m:LL},Ord l->Ord m->(∀x,x ∈ l↔x ∈ m)->l=m
 |[],[],_,_,_=>rfl
 |[],b::m,_,_,h=>absurd ((h b).2 (by simp)) (by simp)
 |a::l,[],_,_,h=>absurd ((h a).1 (by simp)) (by simp)
 |a::l,b::m,hl,u,h=>by
  obtain⟨j,v⟩:=jS.1 hl;obtain⟨q,z⟩:=jS.1 u;have c:a=b:=by rcases jq.1 ((h a).1 (by simp)) with e|e;exact e;rcases jq.1 ((h b).2 (by simp)) with e'|e';exact e'.symm;exact(au9 (j b e') (q a e)).elim
  subst c;rw[Ord.ext v z fun x=>⟨fun hx=> ?_,fun hx=> ?_⟩];rcases jq.1 ((h x).1 (by simp[hx])) with e|e;subst e;exact absurd (j x hx) (ae8 x);exact e;rcases jq.1 ((h x).2 (by simp[hx])) with e|e;subst e;exact absurd (q x hx) (ae8 x);exact e
def Ord.get{l:LL}(h:Ord l){i j:Int}{a b:Li}(hi:ix l i=some a)(c:ix l j=some b)(e:i<j):llt a b:=by obtain⟨q,u,hi⟩:=u6 hi;obtain⟨v,z,c⟩:=u6 c;obtain⟨h1,rfl⟩:=lG.1 hi;obtain⟨h2,rfl⟩:=lG.1 c;exact jI.1 h _ _ h1 h2 (by omega)
def ddN(l:LL):Nat->LL
 |0=>[]
 |m+1=>ddN l m++if decide (m=0\/l[m]? ≠ l[m - 1]?)=true then l[m]?.toList else []
def ddN_spec{l:LL}(hs:l.Pairwise fun a b=>¬ llt b a):∀m,m<=kj l->Ord (ddN l m)/\∀x,x ∈ ddN l m↔x ∈ l.take m:=by
 intro m;induction m with
 |zero=>intro _;simp[ddN]
 |succ m F=>
  intro U
  obtain⟨h1,h2⟩:=F (by omega)
  have c:m<kj l:=by omega
  have ht:l.take (m+1)=l.take m++[l[m]]:=by rw[jv];simp[c]
  rw[ddN,ht]
  by_cases hk:m=0\/l[m]? ≠ l[m - 1]?
  ·rw[if_pos (by simpa using hk)]
   simp only[jx c,Option.toList_some]
   refine⟨kB.2 ⟨h1,by simp,fun a J b B=> ?_⟩,fun x=>by rw[jm,jm,h2]⟩
   simp only[jl] at B
   subst B
   have q:=(h2 a).1 J
   obtain⟨i,hi,rfl⟩:=List.mem_iff_getElem.1 q
   rw[kF] at hi
   rw[List.getElem_take]
   rcases hk with hk|hk
   ·omega
   ·have j:m - 1<kj l:=by omega
    rw[jx c,jx j] at hk
    have N:¬ llt l[m] l[m - 1]:=jI.1 hs (m - 1) m j c (by omega)
    have u:llt l[m - 1] l[m]:=by rcases Y3 l[m - 1] l[m] with h|h|h;exact h;exact absurd (by rw[h]) hk;exact absurd h N
    by_cases v:i=m - 1
    ·subst v;exact u
    ·have z:¬ llt l[m - 1] l[i]:=jI.1 hs i (m - 1) (by omega) j (by omega)
     rcases Y3 l[i] l[m] with h|h|h
     ·exact h
     ·rw[h] at z;exact absurd u z
     ·exact absurd (ad5 u h) z
  ·rw[if_neg (by simpa using hk),jA]
   refine⟨h1,fun x=> ?_⟩
   rw[h2,jm]
   refine⟨.inl,fun h=> ?_⟩
   rcases h with h|h
   ·exact h
   ·simp only[jl] at h
    subst h
    have O:m ≠ 0:=fun e=>hk (.inl e)
    have E:l[m]? =l[m - 1]? :=Classical.not_not.1 fun e=>hk (.inr e)
    rw[jx c,jx (show m - 1<kj l by omega)] at E
    rw[Option.some.inj E,List.mem_take_iff_getElem]
    exact⟨m - 1,by omega,rfl⟩
def ddN_len(l:LL):∀m,(ddN l m).length<=m
 |0=>by simp[ddN]
 |m+1=>by
  have:=ddN_len l m;rw[ddN,jp];split;have:(l[m]?.toList).length<=1:=by cases l[m]? <;>simp
  omega;simp;omega
def ddN_all{l:LL}:∀m,m<=kj l->(∀i,0<i->i<m->l[i]? ≠ l[i - 1]?)->ddN l m=l.take m
 |0,_,_=>by simp[ddN]
 |m+1,j,h=>by rw[ddN,ddN_all m (by omega) fun i c h1=>h i c (by omega),if_pos,jv];rw[decide_eq_true_eq];by_cases e:m=0;exact .inl e;exact .inr (h m (by omega) (by omega))
def compactF_eq{l:LL}(hl:kj l<=1000000):B8 l=some (ddN l (kj l)):=by
 unfold B8;by_cases c0:(kj l:Int)<2;rw[if_pos c0,ddN_all (kj l) (jt _) fun i v h1=>by omega,jy];rw[if_neg c0];have key:=rngN_inv (body:=y8 l) (fun j _=>∀i:Nat,0<i->(i:Int)<j->l[i]? ≠ l[i - 1]?) (fun o=>o=ddN l (kj l)) ((kj l:Int) - 1).toNat 1 () (fun i v h1=>by omega) (fun j _ j0 j1 hP=>by
  obtain⟨a,ha,ga⟩:=n5 (l:=l) (i:=j) (by omega) (by omega);obtain⟨b,hb,J⟩:=n5 (l:=l) (i:=j - 1) (by omega) (by omega);unfold y8;simp only[ha,hb,oB,equal_eq];have ej:(j - 1).toNat=j.toNat - 1:=by omega
  rw[ej] at J;by_cases c:a=b;rw[ifP c];subst c;right;rw[show cutV (kj l:Int) j (kj l:Int)=some () by rw[cutV,if_pos (by omega)]];simp only[oB];obtain⟨⟨cs,u⟩,r1,r2,r3,r4,r5,r6⟩:=forN_inv (body:=A8 l j) (fun q p=>p.1.length=kj l/\j<=p.2/\p.2<=j+q - 1/\p.1.take p.2.toNat=ddN l (j+q).toNat/\∀i:Nat,j+q - 1<=i->p.1[i]? =l[i]?) ((kj l:Int) - j - 1).toNat 1 (l,j) ⟨rfl,by simp,by dsimp only;omega,by
    dsimp only;rw[show(j+1).toNat=j.toNat+1 by omega,ddN,if_neg,jA,ddN_all j.toNat (by omega) fun i v h1=>hP i v (by omega)];rw[decide_eq_true_eq];rintro (h|h);omega;exact h (ga.trans J.symm),fun i _=>rfl⟩ (fun q ⟨cs,u⟩ k0 k1 ⟨g1,g2,g3,N,E⟩=>by
    dsimp only at g1 g2 g3 N E ⊢;obtain⟨x,hx,O⟩:=n5 (l:=l) (i:=j+q) (by omega) (by omega);obtain⟨y,hy,U⟩:=n5 (l:=l) (i:=j+q - 1) (by omega) (by omega);have iv:∀i:Int,0<=i->i<(kj l:Int) - j->ixV cs (0+j) ((kj l:Int) - j) i=ix cs (j+i):=fun i v h1=>by rw[ixV,if_pos (by omega),Int.zero_add]
    have B:∀i:Int,j+q - 1<=i->ix cs i=ix l i:=fun i hi=>by have:=E i.toNat (by omega);simp only[ix];rw[this]
    unfold A8;dsimp only;rw[iv q (by omega) (by omega),iv (q - 1) (by omega) (by omega),show j+(q - 1)=j+q - 1 by omega,B _ (by omega),B _ (by omega),hx,hy];simp only[oB,equal_eq,P5];have ek:(j+(q+1)).toNat=(j+q).toNat+1:=by omega
    have aa:(j+q - 1).toNat=(j+q).toNat - 1:=by omega
    rw[aa] at U;by_cases F:x=y;rw[ifNN F];refine⟨_,rfl,g1,g2,by omega,?_,fun i hi=>E i (by omega)⟩;dsimp only;rw[ek,ddN,if_neg,jA];exact N;rw[decide_eq_true_eq];rintro (h|h);omega;exact h (by rw[O,U,F]);rw[ifP F];obtain⟨z,hz,gz⟩:=n5 (l:=cs) (i:=u) (by omega) (by omega);simp only[hz,oB];rw[u9 (by omega) (by omega)];refine⟨_,rfl,by rw[lS];exact g1,by omega,by omega,?_,fun i hi=> ?_⟩;dsimp only;rw[ek,ddN,if_pos,O,show(u+1).toNat=u.toNat+1 by omega,jv,kE,if_pos rfl,if_pos (by omega),List.take_set_of_le (jt _),N];rw[decide_eq_true_eq];exact .inr (by rw[O,U];simpa using F);dsimp only;rw[kE,if_neg (by omega)];exact E i (by omega))
  have ef:forR 1 ((kj l:Int) - j) (A8 l j) (l,j)=some (cs,u):=r1;dsimp only at r2 r3 r4 r5 r6;rw[ef];simp only[oB];have ab:(clrL cs (0+u) ((kj cs:Int) - u) []).length=kj cs:=by simp[clrL];omega
  rw[show cutV (kj cs:Int) u (kj cs:Int)=some () by rw[cutV,if_pos (by omega)]];simp only[oB,ab];rw[show cutV (kj cs:Int) 0 u=some () by rw[cutV,if_pos (by omega)]];refine⟨_,rfl,?_⟩;have e1:m7 (clrL cs (0+u) ((kj cs:Int) - u) []) 0 u=cs.take u.toNat:=by simp only[m7,clrL,Int.zero_add,km,ko];rw[jL,List.take_append_of_le_length (by simp;omega),List.take_take,Nat.min_self]
  rw[e1,r5];congr 1;omega;rw[ifN c];left;refine⟨(),rfl,fun i v h1=> ?_⟩;by_cases e:(i:Int)=j;have:i=j.toNat:=by omega
  subst this;rw[ga,J];simpa using c;exact hP i v (by omega))
 rcases key with⟨_,h1,h2⟩|⟨o,h1,rfl⟩;have:rngX 1 (kj l:Int) (y8 l) ()=some (.inl ()):=h1;rw[this];simp only[oB];rw[ddN_all (kj l) (jt _) fun i v h1=>h2 i v (by omega),jy];have:rngX 1 (kj l:Int) (y8 l) ()=some (.inr (ddN l (kj l))):=h1;rw[this];rfl
def normal_eq{l:LL}(hl:kj l<=1000000):∃r,P7 l=some r/\Ord r/\(∀x,x ∈ r↔x ∈ l)/\(kj r)<=kj l:=by
 unfold P7;rw[sortLL_ms (by omega)];simp only[oB];have e:(l.mergeSort fun x y=>decide (¬ cmpL y x<0)).length=kj l:=by simp
 rw[compactF_eq (by rw[e];exact hl)];have hs:(l.mergeSort fun x y=>decide (¬ cmpL y x<0)).Pairwise fun a b=>¬ llt b a:=by
  have:=List.pairwise_mergeSort (le:=fun x y:Li=>decide (¬ cmpL y x<0)) (fun a b c h1 h2=>by
   simp only[decide_eq_true_eq,ab3] at h1 h2 ⊢;intro h;rcases Y3 b a with g|g|g;exact h1 g;subst g;exact h2 h;exact h2 (ad5 h g)) (fun a b=>by
   simp only[jO,decide_eq_true_eq,ab3];by_cases h:llt b a;exact .inr fun g=>au9 h g;exact .inl h) l
  exact this.imp fun h=>by simpa[ab3] using h
 obtain⟨h1,h2⟩:=ddN_spec hs _ (jt _);refine⟨_,rfl,h1,fun x=> ?_,?_⟩;rw[h2,jy];simp;have:=ddN_len (l.mergeSort fun x y=>decide (¬ cmpL y x<0)) (l.mergeSort fun x y=>decide (¬ cmpL y x<0)).length;rw[e] at this;rw[e];exact this
end Ab
end
section
namespace Ab
open Go
def wsN_tb:∀{l:Li},Inc l->(∀x ∈ l,0<=x)->∀k:Nat,(wsN l).testBit k=dec ((k:Int) ∈ l)
 |[],_,_,k=>by simp[wsN,dec]
 |a::l,h,j,k=>by
  have u:=jS.1 h;obtain⟨q,v⟩:2 ^ (a.toNat+1) ∣ wsN l:=wsN_dvd fun x hx=>by have:=u.1 x hx;have:=j a (by simp);omega
  have z:=wsN_tb u.2 (fun x hx=>j x (jo _ hx)) k;have e:wsN (a::l)=wsN l|||2 ^ a.toNat:=by rw[v,<- Nat.two_pow_add_eq_or_of_lt (Nat.pow_lt_pow_right (by omega) (by omega)) q,<- v];simp only[wsN];omega
  rw[e,kp,z,Nat.testBit_two_pow];have B:=j a (by simp);by_cases c:(k:Int)=a;have:a.toNat=k:=by omega
  simp[this,c];have:¬ a.toNat=k:=by omega
  simp[this,c]
def SetN.tb{s:Li}{n:Int}(h:SetN s n)(k:Nat):(wsN s).testBit k=dec ((k:Int) ∈ s):=wsN_tb h.1 (fun x hx=>(h.2 x hx).1) k
def SetN.w32{s:Li}{n:Int}(h:SetN s n)(c:n<=24):wsN s<4294967296:=by refine Nat.lt_pow_two_of_testBit (n:=32) _ fun i hi=> ?_;rw[h.tb,dec_false];intro q;have:=(h.2 _ q).2;omega
def wrap32{n:Nat}(h:n<4294967296):IntKind.wrap .u32 (n:Int)=n:=by simp only[IntKind.wrap,IntKind.bits,IntKind.signed,Bool.false_and,jw,if_false];omega
def bit_and{a b:Nat}(h:a<4294967296):Go.bits .and .u32 (a:Int) (b:Int)=((a &&& b:Nat):Int):=by
 have e:(BitVec.ofNat 32 a &&& BitVec.ofNat 32 b).toNat=a &&& b:=by rw[BitVec.toNat_and,BitVec.toNat_ofNat,BitVec.toNat_ofNat];refine jC fun i=> ?_;simp only[ki,Nat.testBit_mod_two_pow];by_cases c:i<32;simp[c];have:a.testBit i=false:=jM (jT h (jP (n:=2) (by omega) (show 32<=i by omega)));simp[this]
 rw[<- e];simp only[Go.bits,BitVec.ofInt_natCast,IntKind.bits];exact wrap32 (BitVec.ofNat 32 a &&& BitVec.ofNat 32 b).isLt
def bit_or{a b:Nat}(c:a<4294967296)(h:b<4294967296):Go.bits .or .u32 (a:Int) (b:Int)=((a|||b:Nat):Int):=by
 have e:(BitVec.ofNat 32 a|||BitVec.ofNat 32 b).toNat=a|||b:=by rw[BitVec.toNat_or,BitVec.toNat_ofNat,BitVec.toNat_ofNat,Nat.mod_eq_of_lt (by simpa using c),Nat.mod_eq_of_lt (by simpa using h)]
 rw[<- e];simp only[Go.bits,BitVec.ofInt_natCast,IntKind.bits];exact wrap32 (BitVec.ofNat 32 a|||BitVec.ofNat 32 b).isLt
def bit_andNot{a b:Nat}(e:a<4294967296):∃c:Nat,Go.bits .andNot .u32 (a:Int) (b:Int)=(c:Int)/\c<4294967296/\∀k,c.testBit k=(a.testBit k && !b.testBit k):=by refine⟨(BitVec.ofNat 32 a &&& ~~~BitVec.ofNat 32 b).toNat,?_,(BitVec.ofNat 32 a &&& ~~~BitVec.ofNat 32 b).isLt,fun k=> ?_⟩;simp only[Go.bits,BitVec.ofInt_natCast,IntKind.bits];exact wrap32 (BitVec.ofNat 32 a &&& ~~~BitVec.ofNat 32 b).isLt;rw[BitVec.testBit_toNat,BitVec.getLsbD_and,BitVec.getLsbD_not,BitVec.getLsbD_ofNat,BitVec.getLsbD_ofNat];by_cases c:k<32;simp[c];have:a.testBit k=false:=jM (jT e (jP (n:=2) (by omega) (show 32<=k by omega)));simp[c,this]
def ay0{s p:Li}{n:Int}(hs:SetN s n)(hp:SetN p n)(c:n<=24):Go.bits .and .u32 (wsN s:Int) (wsN p:Int)=(wsN p:Int)↔∀x ∈ p,x ∈ s:=by
 rw[bit_and (hs.w32 c)];constructor;intro h x hx;have j:=(hp.2 x hx).1;have e:(wsN s &&& wsN p)=wsN p:=by omega
 have:=congrArg (fun n=>Nat.testBit n x.toNat) e;simp only[ki,hs.tb,hp.tb,show((x.toNat:Nat):Int)=x by omega,o9 hx,Bool.and_true,q8] at this;exact this;intro h;have e:(wsN s &&& wsN p)=wsN p:=by refine jC fun i=> ?_;rw[ki,hs.tb,hp.tb,dec_and];exact W6 ⟨fun q=>q.2,fun q=>⟨h _ q,q⟩⟩
 rw[e]
def next_word{s d a:Li}{n:Int}(hs:SetN s n)(hd:SetN d n)(h:SetN a n)(j:n<=24):
  Go.bits .or .u32 (Go.bits .andNot .u32 (wsN s:Int) (wsN d:Int)) (wsN a:Int)=(wsN (N5 (fun x=>x ∈ a\/x ∈ s/\x ∉ d) n):Int):=by
 obtain⟨c,c1,u,v⟩:=bit_andNot (b:=wsN d) (hs.w32 j)
 have hr:SetN (N5 (fun x=>x ∈ a\/x ∈ s/\x ∉ d) n) n:=az3 _ _
 rw[c1,bit_or u (h.w32 j)]
 have e:c|||wsN a=wsN (N5 (fun x=>x ∈ a\/x ∈ s/\x ∉ d) n):=by refine jC fun i=> ?_;rw[kp,v,hs.tb,hd.tb,h.tb,hr.tb,P5,dec_and,dec_or];refine W6 ?_;rw[ae4];constructor;rintro (⟨q1,z⟩|q);exact⟨(hs.2 _ q1).1,(hs.2 _ q1).2,.inr ⟨q1,z⟩⟩;exact⟨(h.2 _ q).1,(h.2 _ q).2,.inl q⟩;rintro ⟨_,_,q|q⟩;exact .inr q;exact .inl q
 rw[e]
def ar3{s:Li}{n:Int}(hs:SetN s n)(hn:n<=24):R0 s=some (wsN s:Int):=by
 unfold R0;obtain⟨w,h1,h2⟩:=F2 (body:=ag8 s) (n:=(kj s:Int)) (s:=0) (fun j w=>w=(wsN (s.take j.toNat):Int)) (by omega) (by simp[wsN]) (fun j w j0 j1 hP=>by
  obtain⟨a,ha,ga⟩:=n5 (l:=s) j0 j1;have hb:=hs.2 a (y5 ha);have ht:s.take (j+1).toNat=s.take j.toNat++[a]:=by rw[show(j+1).toNat=j.toNat+1 by omega,jv,ga];rfl
  have h1:SetN (s.take j.toNat) n:=⟨List.Pairwise.sublist (jV _ _) hs.1,fun x hx=>hs.2 x (jH hx)⟩;have h2:SetN (s.take j.toNat++[a]) n:=by rw[<- ht];exact⟨List.Pairwise.sublist (jV _ _) hs.1,fun x hx=>hs.2 x (jH hx)⟩
  have h3:SetN [a] n:=⟨kh _ _,fun x hx=>by simp at hx;subst hx;exact hb⟩;have e1:shlW .u32 1 a=(wsN [a]:Int):=by
   have:=h3.w32 hn;unfold shlW;simp only[wsN,Nat.add_zero] at this ⊢;rw[show min a.toNat (IntKind.u32).bits=a.toNat by simp only[IntKind.bits];omega,Int.one_mul];have ep:(2:Int) ^ a.toNat=((2 ^ a.toNat:Nat):Int):=by push_cast;rfl
   rw[ep];exact wrap32 this
  refine⟨Go.bits .or .u32 w (shlW .u32 1 a),by simp only[ag8,ha,oB,chk0,if_neg (show ¬ a<0 by omega)],?_⟩;rw[e1,hP,bit_or (h1.w32 hn) (h3.w32 hn),ht];have e:wsN (s.take j.toNat)|||wsN [a]=wsN (s.take j.toNat++[a]):=by refine jC fun i=> ?_;rw[kp,h1.tb,h2.tb,h3.tb,dec_or];exact W6 (by simp)
  rw[e])
 rw[h1,h2,jG,jy];rfl
noncomputable def Q6(w:Nat)(n:Nat):Li:=(nums 0 n).filter fun x=>w.testBit x.toNat
def facts_eq{w:Nat}(hw:w<4294967296):N7 (w:Int)=some (Q6 w 32):=by
 unfold N7;obtain⟨r,h1,h2⟩:=F2 (body:=R9 (w:Int)) (n:=32) (s:=[]) (fun j c=>c=Q6 w j.toNat) (by omega) (by simp[Q6,nums]) (fun j c j0 j1 hP=>by
  subst hP;have hlen:(Q6 w j.toNat).length<=32:=by refine Nat.le_trans (List.length_filter_le _ _) ?_;rw[len_nums];omega
  have hn:nums 0 (j+1).toNat=nums 0 j.toNat++[j]:=by refine Inc.ext (ay5 _ _) (kB.2 ⟨ay5 _ _,kh _ _,fun x hx y hy=> ?_⟩) fun x=> ?_;simp at hy;subst hy;have:=ae1.1 hx;omega;rw[jm,ae1,ae1,jl];omega
  have e1:shrW .u32 (w:Int) j=((w>>>j.toNat:Nat):Int):=by
   unfold shrW;rw[show min j.toNat (IntKind.u32).bits=j.toNat by simp only[IntKind.bits];omega];have ep:(2:Int) ^ j.toNat=((2 ^ j.toNat:Nat):Int):=by push_cast;rfl
   rw[ep,Nat.shiftRight_eq_div_pow,Int.fdiv_eq_ediv_of_nonneg _ (Int.natCast_nonneg _)];rfl
  have h2:w>>>j.toNat<4294967296:=Nat.lt_of_le_of_lt (Nat.shiftRight_le _ _) hw;have e2:Go.bits .and .u32 ((w>>>j.toNat:Nat):Int) 1=((w>>>j.toNat &&& 1:Nat):Int):=bit_and (b:=1) h2;have e3:(w>>>j.toNat &&& 1=1)↔w.testBit j.toNat=true:=by rw[Nat.testBit];simp[Nat.and_comm]
  unfold R9;rw[e1,e2];by_cases c:w.testBit j.toNat=true;rw[if_pos (by have:=e3.2 c;omega),app,if_pos (by simp;omega)];exact⟨_,rfl,by simp[Q6,hn,kD,c]⟩;rw[if_neg (fun q=>c (e3.1 (by omega)))];exact⟨_,rfl,by simp[Q6,hn,kD,c]⟩)
 rw[h1,h2];rfl
def bitsOf_inj{a b:Nat}(j:a<4294967296)(u:b<4294967296)(h:Q6 a 32=Q6 b 32):a=b:=by
 refine jC fun i=> ?_;by_cases c:i<32;have key:∀w:Nat,(i:Int) ∈ Q6 w 32↔w.testBit i=true:=fun w=>by simp only[Q6,List.mem_filter,ae1,jG];exact⟨fun q=>q.2,fun q=>⟨by omega,q⟩⟩
 have:=(key a).symm.trans ((by rw[h]):((i:Int) ∈ Q6 a 32↔(i:Int) ∈ Q6 b 32))|>.trans (key b);cases h1:a.testBit i<;>cases h2:b.testBit i<;>simp[h1,h2] at this ⊢;have e:∀w:Nat,w<4294967296->w.testBit i=false:=fun w v=>jM (jT v (jP (n:=2) (by omega) (show 32<=i by omega)));rw[e a j,e b u]
def words_cmp:CmpOk (fun a b:U32=>O4 a.1 b.1) (fun a b=>cmpL (Q6 a.1.toNat 32) (Q6 b.1.toNat 32)):=by obtain⟨h1,h2,h⟩:=cmp_ok;refine⟨fun a b=> ?_,⟨fun x=>h2.irrefl _,fun x y z=>h2.trans _ _ _,fun x y z=>h2.ntrans _ _ _⟩,fun a b q1 j=> ?_⟩;have c:=facts_eq (w:=a.1.toNat) (by have:=a.2;omega);have e:=facts_eq (w:=b.1.toNat) (by have:=b.2;omega);rw[show((a.1.toNat:Nat):Int)=a.1 by have:=a.2;omega] at c;rw[show((b.1.toNat:Nat):Int)=b.1 by have:=b.2;omega] at e;simp only[O4,c,e,oB,h1];have:=bitsOf_inj (a:=a.1.toNat) (b:=b.1.toNat) (by have:=a.2;omega) (by have:=b.2;omega) (h _ _ q1 j);have q:=a.2;have u:=b.2;exact Subtype.ext (by omega)
def sortW{l:Li}(hl:kj l<=1000000)(c:∀x ∈ l,0<=x/\x<4294967296):∃l',sortFU O4 l=some l'/\l'.Perm l:=by unfold sortFU;rw[dif_pos c,sortFL_eq (by simp;omega) words_cmp];refine⟨_,rfl,?_⟩;have:=(List.mergeSort_perm (l.attach.map fun x=>(⟨x.1,c x.1 x.2⟩:U32)) (fun x y=>decide (¬ cmpL (Q6 y.1.toNat 32) (Q6 x.1.toNat 32)<0))).map (fun z:U32=>z.1);simpa using this
end Ab
end
section
namespace Ab
open Go
inductive Rt(t:i4):Li->Prop
 |init:Rt t t.init
 |step {s:Li} {op:Int} (h:Rt t s) (h0:0<=op) (h1:op<kj t.operators) (hc:can t s op):Rt t (aft t s op)
def Rt.setN{t:i4}(ht:s6 t){s:Li}(h:Rt t s):SetN s t.facts:=by
 cases h with
 |init=>exact ht.init
 |step=>exact setN_aft _ _ _
def Rt.ends{t:i4}:∀{plan s e:Li},Rt t s->(∀x ∈ plan,(0:Int)<=x/\x<kj t.operators)->ends t s plan=some e->Rt t e
 |[],s,e,hs,_,h=>by simp only[Ab.ends,Option.some.injEq] at h;subst h;exact hs
 |op::r,s,e,hs,c,h=>by simp only[Ab.ends] at h;split at h;rename_i j;have:=c op List.mem_cons_self;exact Rt.ends (hs.step this.1 this.2 (q8.1 j)) (fun x hx=>c x (jo _ hx)) h;cases h
def Rt.way{t:i4}{s:Li}(h:Rt t s):∃plan:Li,(∀x ∈ plan,(0:Int)<=x/\x<kj t.operators)/\Ab.ends t t.init plan=some s:=by
 induction h with
 |init=>exact⟨[],by simp,rfl⟩
 |@step s op h c h1 e j=>
  obtain⟨p,q,u⟩:=j
  refine⟨p++[op],fun x hx=> ?_,?_⟩
  ·rcases jm.1 hx with hx|hx
   ·exact q x hx
   ·simp only[jl] at hx;subst hx;exact⟨c,h1⟩
  ·rw[aw6,u]
   simp only[oB,Ab.ends]
   rw[if_pos (o9 e)]
def Cls(t:i4)(l:LL)(s:Li):Prop:=∀op:Int,0<=op->op<kj t.operators->can t s op->aft t s op ∈ l
def Rt.mem{t:i4}{l:LL}(hi:t.init ∈ l)(e:∀s ∈ l,Cls t l s){s:Li}(h:Rt t s):s ∈ l:=by
 induction h with
 |init=>exact hi
 |step h j h1 c q=>exact e _ q _ j h1 c
def Many(t:i4):Prop:=∃l:LL,l.Nodup/\(kj l)=2001/\∀s ∈ l,Rt t s
end Ab
end
section
namespace Ab
open Go
abbrev Mk:=k8
def wd(s:Li):Int:=(wsN s:Int)
def mkOf(o:j7):Mk:=⟨wd o.pre,wd o.add,wd o.del,o.cost⟩
def mks(t:i4):List Mk:=t.operators.map mkOf
def canW(m:Mk)(x:Int):Prop:=Go.bits .and .u32 x m.pre=m.pre
def tgtW(m:Mk)(x:Int):Int:=Go.bits .or .u32 (Go.bits .andNot .u32 x m.del) m.add
def wd_inj{t:i4}(ht:s6 t){s s':Li}(h:SetN s t.facts)(c:SetN s' t.facts)(e:wd s=wd s'):s=s':=
 h.word_inj c (by unfold wd at e;omega)
def wd_u32{t:i4}(ht:s6 t){s:Li}(h:SetN s t.facts):0<=wd s/\wd s<4294967296:=by
 have:=h.w32 ht.n1;unfold wd;omega
def ah2{t:i4}(ht:s6 t){op:Int}(c:0<=op)(h1:op<kj t.operators):ab0 (opAt t op) t.facts/\al0 (opAt t op):=ht.op _ (y5 (ix_op c h1))
def ar2{t:i4}(ht:s6 t){s:Li}(h:SetN s t.facts){op:Int}(c:0<=op)(h1:op<kj t.operators):canW (mkOf (opAt t op)) (wd s)↔can t s op:=
 ay0 h (ah2 ht c h1).1.1 ht.n1
def tgtW_eq{t:i4}(ht:s6 t){s:Li}(h:SetN s t.facts){op:Int}(c:0<=op)(h1:op<kj t.operators):tgtW (mkOf (opAt t op)) (wd s)=wd (aft t s op):=
 next_word h (ah2 ht c h1).1.2.2.1 (ah2 ht c h1).1.2.1 ht.n1
def mks_mem{t:i4}{m:Mk}(h:m ∈ mks t):∃op:Int,0<=op/\op<kj t.operators/\m=mkOf (opAt t op):=by obtain⟨o,ho,rfl⟩:=jK.1 h;obtain⟨i,c,h1,h2⟩:=D6 ho;rw[ix_op c h1] at h2;cases h2;exact⟨i,c,h1,rfl⟩
def mks_of{t:i4}{op:Int}(c:0<=op)(h1:op<kj t.operators):mkOf (opAt t op) ∈ mks t:=jK.2 ⟨_,y5 (ix_op c h1),rfl⟩
def mks_ix{t:i4}{op:Int}(c:0<=op)(h1:op<kj t.operators):ix (mks t) op=some (mkOf (opAt t op)):=by have:=(u6 (ix_op c h1)).2.2;simp[mks,ix,c,this]
def of_eq{t:i4}(ht:s6 t):ae5 t=some (wd t.init,wd t.goal,mks t):=by
 unfold ae5;rw[ar3 ht.init ht.n1,ar3 ht.goal ht.n1];simp only[oB];obtain⟨r,h1,h2⟩:=F2 (body:=ah0 t) (n:=(kj t.operators:Int)) (s:=[]) (fun j c=>c=(t.operators.take j.toNat).map mkOf) (by omega) (by simp) (fun j c h q u=>by
  have ho:=ah2 ht h q;have hx:=ix_op h q;have v:=(u6 hx).2.2;have hl:=ht.ops;have e:t.operators.take (j+1).toNat=t.operators.take j.toNat++[opAt t j]:=by rw[show(j+1).toNat=j.toNat+1 by omega,jv,v];rfl
  unfold ah0;rw[hx];simp only[oB,ar3 ho.1.1 ht.n1,ar3 ho.1.2.1 ht.n1,ar3 ho.1.2.2.1 ht.n1];refine⟨c++[mkOf (opAt t j)],?_,?_⟩;unfold app;rw[if_pos (by rw[u];simp;omega)];rfl;rw[u,e];simp)
 rw[h1,h2,jG,jy];rfl
def Rwd(t:i4)(x:Int):Prop:=∃s,Rt t s/\x=wd s
def states_of{t:i4}:∀{l:Li},(∀x ∈ l,Rwd t x)->∃c:LL,c.map wd=l/\∀s ∈ c,Rt t s
 |[],_=>⟨[],rfl,by simp⟩
 |x::l,h=>by obtain⟨s,s1,e⟩:=h x (by simp);obtain⟨c,h1,h2⟩:=states_of (l:=l) fun y hy=>h y (jo _ hy);exact⟨s::c,by simp[h1,e],by simp[s1];exact h2⟩
def as5{α β:Type}{f:α->β}:∀{l:List α},(l.map f).Nodup->l.Nodup
 |[],_=>List.nodup_nil
 |x::l,h=>by simp only[jN,jJ] at h;exact jJ.2 ⟨fun hx=>h.1 (jK.2 ⟨x,hx,rfl⟩),as5 h.2⟩
def many_of{t:i4}{l:Li}(c:l.Nodup)(hl:2000<kj l)(h:∀x ∈ l,Rwd t x):Many t:=by obtain⟨e,h1,h2⟩:=states_of (l:=l.take 2001) fun x hx=>h x (jH hx);refine⟨e,as5 (f:=wd) (by rw[h1];exact c.sublist (jV _ _)),?_,h2⟩;have:=congrArg kj h1;simp only[List.length_map,kF] at this;omega
def Rwd.next{t:i4}(ht:s6 t){x:Int}(h:Rwd t x){m:Mk}(e:m ∈ mks t)(j:canW m x):Rwd t (tgtW m x):=by obtain⟨s,s1,rfl⟩:=h;obtain⟨op,c,h1,rfl⟩:=mks_mem e;have hs:=s1.setN ht;exact⟨_,.step s1 c h1 ((ar2 ht hs c h1).1 j),tgtW_eq ht hs c h1⟩
def Rwd.all{t:i4}(ht:s6 t){l:Li}(hi:wd t.init ∈ l)(j:∀x ∈ l,∀m ∈ mks t,canW m x->tgtW m x ∈ l){x:Int}(h:Rwd t x):x ∈ l:=by
 obtain⟨s,h,rfl⟩:=h;induction h with
 |init=>exact hi
 |step h e h1 c q=>
  have hs:=h.setN ht
  have:=j _ q _ (mks_of e h1) ((ar2 ht hs e h1).2 c)
  rwa [tgtW_eq ht hs e h1] at this
abbrev MpU:=List (Int×Unit)
def mgetU{m:MpU}{x:Int}:mget m x=none↔x ∉ m.map (·.1):=by
 constructor;exact av1;intro h;cases e:mget m x with
 |none=>rfl
 |some u=>exact absurd (jK.2 ⟨_,mget_mem e,rfl⟩) h
structure AlW(t:i4)(q:Li)(f:MpU)(a:Li):Prop where
 nd:(f.map (·.1)).Nodup
 pm:(f.map (·.1)).Perm (q++a)
 rw:∀x ∈ f.map (·.1),Rwd t x
def all_in{t:i4}(ht:s6 t){q a:Li}{f:MpU}{x:Int}(hx:Rwd t x)(h:AlW t q f a)(hf:kj f<=2000)(u:Unit){c:Li}(hc:m7 c 0 ((kj c:Int) - 1)=q):
  ∃J O,P6 (mks t) c f x u=some (J,O)/\AlW t O J a/\(∀y ∈ f.map (·.1),y ∈ J.map (·.1))/\∀m ∈ mks t,canW m x->tgtW m x ∈ J.map (·.1):=by
 unfold P6
 have ad:(mks t).length<=40:=by simp[mks];exact ht.ops
 obtain⟨r,h1,h2,h3,h4,h5⟩:=F2 (body:=O6 (mks t) x u) (n:=((mks t).length:Int)) (s:=(f,m7 c 0 ((kj c:Int) - 1)))
  (fun j s=>AlW t s.2 s.1 a/\(∀y ∈ f.map (·.1),y ∈ s.1.map (·.1))/\s.1.length<=2000+j/\∀i m,i<j->ix (mks t) i=some m->canW m x->tgtW m x ∈ s.1.map (·.1)) (by omega)
  ⟨by rw[hc];exact h,fun _ h=>h,by simp only;omega,fun i m hi F=>by have:=(u6 F).1;omega⟩ (fun j s j0 j1 hP=>by
   obtain⟨J,O⟩:=s;obtain⟨N,p2,p3,p4⟩:=hP;simp only at N p2 p3 p4;obtain⟨m,F,_⟩:=n5 j0 j1;have ab:=y5 F;unfold O6;simp only[F,oB];by_cases c1:Go.bits .and .u32 x m.pre=m.pre;rw[if_pos c1];have ac:canW m x:=c1;have ee:Go.bits .or .u32 (Go.bits .andNot .u32 x m.del) m.add=tgtW m x:=rfl;rw[ee];by_cases E:mget J (tgtW m x)=none;rw[if_pos (by simp[E])];have hq:kj O<=kj J:=by have:=N.pm.length_eq;simp at this;omega
   have ha:app 4 O [tgtW m x]=some (O++[tgtW m x]):=by unfold app;rw[if_pos (by simp;omega)]
   simp only[ha,oB];have U:=mgetU.1 E;refine⟨_,rfl,⟨?_,?_,?_⟩,?_,?_,?_⟩;simp only[aa1 E,jB];refine jW.2 ⟨N.nd,by simp,fun y hy z hz e=> ?_⟩;simp at hz;subst hz;subst e;exact U hy;simp only[aa1 E,jB,jN,List.map_nil];refine(N.pm.append_right _).trans ?_;rw[jL,jL];exact List.Perm.append_left _ ku;intro y hy;simp only[aa1 E,jB,jm,jN,List.map_nil,jl] at hy;rcases hy with hy|rfl;exact N.rw y hy;exact hx.next ht ab ac;intro y hy;simp only[aa1 E,jB,jm];exact .inl (p2 y hy);simp only[aa1 E,jp,ju];omega;intro i m' hi v B;simp only[aa1 E,jB,jm];by_cases e:i=j;subst e;rw[F] at v;cases v;exact .inr (by simp);exact .inl (p4 i m' (by omega) v B);rw[if_neg (by simp;cases e:mget J (tgtW m x) with|none=>exact absurd e E|some _=>simp)];refine⟨_,rfl,N,p2,by simp only;omega,fun i m' hi v B=> ?_⟩;by_cases e:i=j;subst e;rw[F] at v;cases v;exact jY fun q=>E (mgetU.2 q);exact p4 i m' (by omega) v B;rw[if_neg c1];refine⟨_,rfl,N,p2,by simp only;omega,fun i m' hi v B=> ?_⟩;by_cases e:i=j;subst e;rw[F] at v;cases v;exact absurd B c1;exact p4 i m' (by omega) v B)
 refine⟨r.1,r.2,by rw[h1];rfl,h2,h3,fun m F aa=> ?_⟩
 obtain⟨i,i0,i1,hi⟩:=D6 F
 exact h5 i m i1 hi aa
theorem all_spec{t:i4}(ht:s6 t)(goal:Int):∃l b,H9 (wd t.init) goal (mks t)=some (l,b)/\(b=false->Many t)/\(b=true->l.Nodup/\(kj l)<=2000/\∀x,x ∈ l↔Rwd t x):=by
 unfold H9
 simp only[x8,oB]
 have hi0:Rwd t (wd t.init):=⟨_,.init,rfl⟩
 obtain⟨o,h1,h2⟩:=M9 (body:=P0 (wd t.init) goal (mks t)) (s:=([wd t.init],mset ([]:MpU) (wd t.init) (),[]))
  (fun s=>AlW t s.1 s.2.1 s.2.2/\wd t.init ∈ s.2.1.map (·.1)/\s.2.1.length<=2000/\∀x ∈ s.2.2,∀m ∈ mks t,canW m x->tgtW m x ∈ s.2.1.map (·.1))
  (fun o=>match o with| .inl l=>l.Nodup/\(kj l)<=2000/\∀x,x ∈ l↔Rwd t x| .inr x=>x=([],false)/\Many t)
  (fun s=>2000 - s.2.2.length) ⟨⟨by simp[mset],by simp[mset],by simp[mset];exact hi0⟩,by simp[mset],by simp[mset],by simp⟩ (by
   rintro ⟨q,f,a⟩ ⟨p1,p2,p3,p4⟩
   simp only at p1 p2 p3 p4
   have hlen:kj f=kj q+kj a:=by have:=p1.pm.length_eq;simpa using this
   unfold P0
   by_cases c:0<kj q
   ·simp only[show(0:Int)<(kj q:Int) by omega,if_true]
    obtain⟨x,hx,gx⟩:=n5 (l:=q) (i:=(kj q:Int) - 1) (by omega) (by omega)
    have hq:m7 q 0 ((kj q:Int) - 1)++[x]=q:=by
     have:m7 q 0 ((kj q:Int) - 1)=q.take (kj q - 1):=by
      simp only[m7,km,ko]
      rw[show((kj q:Int) - 1).toNat=kj q - 1 by omega]
     rw[this]
     have e:q.take (kj q - 1+1)=q.take (kj q - 1)++[x]:=by
      rw[jv]
      rw[show((kj q:Int) - 1).toNat=kj q - 1 by omega] at gx
      rw[gx];rfl
     rw[<- e,show (kj q) - 1+1=kj q by omega,jy]
    have hxm:x ∈ f.map (·.1):=p1.pm.mem_iff.2 (jD _ (y5 hx))
    have hxr:=p1.rw x hxm
    have ha:app 4 a [x]=some (a++[x]):=by unfold app;rw[if_pos (by simp;omega)]
    have p1':AlW t (m7 q 0 ((kj q:Int) - 1)) f (a++[x]):=⟨p1.nd,p1.pm.trans (by
     rw (occs:=.pos [1]) [<- hq]
     rw[jL]
     exact List.Perm.append_left _ ku),p1.rw⟩
    obtain⟨f',q',k1,k2,k3,k4⟩:=all_in ht hxr p1' p3 () rfl
    simp only[hx,ha,cutV,oB,B6]
    rw[if_pos (by omega)]
    simp only[oB,k1]
    by_cases big:2000<kj f'
    ·rw[if_pos (by omega)]
     exact .inr ⟨_,rfl,rfl,many_of k2.nd (by simpa using big) k2.rw⟩
    ·rw[if_neg (by omega)]
     have hlen':kj f'=kj q'+(a++[x]).length:=by have:=k2.pm.length_eq;simpa using this
     refine .inl ⟨_,rfl,⟨k2,k3 _ p2,by simp only;omega,fun y hy m hm hc=> ?_⟩,by simp only[jp,ju] at hlen' ⊢;omega⟩
     simp only[jm,jl] at hy
     rcases hy with hy|rfl
     ·exact k3 _ (p4 y hy m hm hc)
     ·exact k4 m hm hc
   ·have:q=[]:=jF (by omega)
    subst this
    refine .inr ⟨.inl a,by simp,?_⟩
    have hp:(f.map (·.1)).Perm a:=by simpa using p1.pm
    refine⟨hp.nodup_iff.1 p1.nd,by simp at hlen;omega,fun x=>⟨fun hx=>p1.rw x (hp.mem_iff.2 hx),fun hx=> ?_⟩⟩
    exact Rwd.all ht (hp.mem_iff.1 p2) (fun y hy m hm hc=>hp.mem_iff.1 (p4 y hy m hm hc)) hx)
 rw[h1]
 rcases o with l|o
 ·exact⟨l,true,rfl,by simp,fun _=>h2⟩
 ·obtain⟨rfl,h3⟩:=h2
  exact⟨[],false,rfl,fun _=>h3,by simp⟩
end Ab
end
section
namespace Ab
open Go
abbrev MpI:=List (Int×Int)
def E9(g x:Int):Prop:=Go.bits .and .u32 x g=g
def cst(c:MpI)(x:Int):Int:=(mget c x).getD 0
inductive PthW(vs:Li)(ms:List Mk)(g:Int):Int->Int->Prop
 |goal {x:Int} (h:x ∈ vs) (hg:E9 g x):PthW vs ms g x 0
 |step {x k:Int} {m:Mk} (h:x ∈ vs) (hm:m ∈ ms) (hc:canW m x) (hp:PthW vs ms g (tgtW m x) k):PthW vs ms g x (k+m.cost)
structure Gr(vs:Li)(ms:List Mk):Prop where
 cl:∀x ∈ vs,∀m ∈ ms,canW m x->tgtW m x ∈ vs
 co:∀m ∈ ms,0<=m.cost/\m.cost<=100
 ml:kj ms<=40
 vl:kj vs<=2000
structure Cd(vs:Li)(ms:List Mk)(g:Int)(c:MpI):Prop where
 dom:∀x ∈ vs,∃k,mget c x=some k/\0<=k/\k<=1000000000/\(k=1000000000\/PthW vs ms g x k)
 goal:∀x ∈ vs,E9 g x->mget c x=some 0
structure Iv(vs:Li)(ms:List Mk)(g:Int)(c M:MpI)(L:Li)(E:List En)(exc:Int->Prop):Prop where
 cd:Cd vs ms g c
 qu:Qu M L E
 qk:∀x k,qkey M E x=some k->x ∈ vs/\mget c x=some k
 arc:∀x ∈ vs,∀m ∈ ms,canW m x->¬ exc (tgtW m x)->qkey M E (tgtW m x)=none->cst c x<=cst c (tgtW m x)+m.cost
def Iv.len{vs:Li}{ms:List Mk}{g:Int}{c M:MpI}{L:Li}{E:List En}{j:Int->Prop}(h:Iv vs ms g c M L E j):kj L<=kj vs:=
 h.qu.le fun x hx=>by
  cases e:qkey M E x with
  |none=>exact absurd e hx
  |some k=>exact(h.qk x k e).1
def sm(vs:Li)(c:MpI):Nat:=(vs.map fun x=>(cst c x).toNat).sum
def sum_le{α:Type}{f g:α->Nat}:∀{l:List α},(∀x ∈ l,f x<=g x)->(l.map f).sum<=(l.map g).sum
 |[],_=>by simp
 |x::l,h=>by have h1:=h x (by simp);have h2:=sum_le (l:=l) fun y hy=>h y (jo _ hy);simp only[jN,List.sum_cons];omega
def sum_lt{α:Type}{f g:α->Nat}:∀{l:List α},(∀x ∈ l,f x<=g x)->(∃x ∈ l,f x<g x)->(l.map f).sum<(l.map g).sum
 |[],_,h=>by simp at h
 |x::l,h,⟨y,hy,c⟩=>by have h1:=h x (by simp);have h2:=sum_le (l:=l) fun y hy=>h y (jo _ hy);simp only[jN,List.sum_cons];rcases jq.1 hy with rfl|hy;omega;have:=sum_lt (l:=l) (fun y hy=>h y (jo _ hy)) ⟨y,hy,c⟩;omega
def ar6{c:MpI}{x v:Int}(z:Int):cst (mset c x v) z=if z=x then v else cst c z:=by
 unfold cst;rw[w6];split<;>rfl
def sm_lt{vs:Li}{c:MpI}{x v:Int}(hx:x ∈ vs)(h:0<=v)(j:v<cst c x):sm vs (mset c x v)<sm vs c:=by refine sum_lt (fun z _=> ?_) ⟨x,hx,?_⟩;rw[ar6];split;rename_i e;subst e;omega;exact jt _;rw[ar6,if_pos rfl];omega
def relax_ok{vs:Li}{ms:List Mk}{g:Int}{c M:MpI}{L:Li}{E:List En}{j:Int->Prop}(U:Gr vs ms)(h:Iv vs ms g c M L E j){x v:Int}(hx:x ∈ vs)(h0:0<=v)(hv:v<cst c x)(hp:PthW vs ms g x v)(t0:Int):
  ∃q J u,n9 x v t0 L M E=some (q,J,u)/\Iv vs ms g (mset c x v) q J u j/\∀z,qkey q u z=if z=x then some v else qkey M E z:=by
 have O:=h.len
 have aa:=U.vl
 obtain⟨q,J,u,k1,k2,N⟩:=set_ok h.qu (by omega) x v t0
 refine⟨q,J,u,k1,⟨⟨fun z hz=> ?_,fun z hz B=> ?_⟩,k2,fun z k hk=> ?_,fun z hz m hm hc he F=> ?_⟩,N⟩
 ·rw[w6]
  by_cases e:z=x
  ·subst e
   obtain⟨k,q1,q2,q3,_⟩:=h.cd.dom z hz
   have:cst c z=k:=by unfold cst;rw[q1];rfl
   exact⟨v,if_pos rfl,h0,by omega,.inr hp⟩
  ·rw[if_neg e];exact h.cd.dom z hz
 ·rw[w6]
  by_cases e:z=x
  ·subst e
   have:cst c z=0:=by unfold cst;rw[h.cd.goal z hz B];rfl
   omega
  ·rw[if_neg e];exact h.cd.goal z hz B
 ·rw[N] at hk
  rw[w6]
  by_cases e:z=x
  ·rw[if_pos e] at hk ⊢;cases hk;exact⟨by rw[e];exact hx,rfl⟩
  ·rw[if_neg e] at hk ⊢;exact h.qk z k hk
 ·rw[N] at F
  by_cases e:tgtW m z=x
  ·rw[if_pos e] at F;cases F
  ·rw[if_neg e] at F
   have:=h.arc z hz m hm hc he F
   rw[ar6,ar6,if_neg e]
   by_cases f:z=x
   ·rw[if_pos f];subst f;omega
   ·rw[if_neg f];exact this
abbrev Bkm:=List (Int×List A9)
def BkOk(vs:Li)(ms:List Mk)(b:Bkm):Prop:=∀y a,a ∈ rowM b y↔∃x ∈ vs,∃m ∈ ms,canW m x/\tgtW m x=y/\a=⟨x,m.cost⟩
abbrev St5:=MpI×MpI×List En×Int×Li
def relax_all{vs:Li}{ms:List Mk}{g:Int}{b:Bkm}{c M:MpI}{L:Li}{E:List En}{y k:Int}(hg:Gr vs ms)(hb:BkOk vs ms b)(h:Iv vs ms g c M L E (· =y))(hy:y ∈ vs)(hk:mget c y=some k)(hq:qkey M E y=none)(t0:Int)(bb:Bool):
  ∃s:St5,forR 0 ((rowM b y).length:Int) (Q4 b (M,E,L,y,k,bb)) (c,M,E,t0,L)=some s/\Iv vs ms g s.1 s.2.1 s.2.2.2.2 s.2.2.1 (fun _=>False)/\((sm vs s.1=sm vs c/\s.2.2.2.2=L)\/sm vs s.1<sm vs c):=by
 obtain⟨s,h1,h2,h3,h4,h5,h6⟩:=F2 (body:=Q4 b (M,E,L,y,k,bb)) (n:=((rowM b y).length:Int)) (s:=((c,M,E,t0,L):St5))
  (fun j s=>Iv vs ms g s.1 s.2.1 s.2.2.2.2 s.2.2.1 (· =y)/\mget s.1 y=some k/\qkey s.2.1 s.2.2.1 y=none/\(∀i a,i<j->ix (rowM b y) i=some a->cst s.1 a.ffrom<=k+a.cost)/\((sm vs s.1=sm vs c/\s.2.2.2.2=L)\/sm vs s.1<sm vs c)) (by omega)
  ⟨h,hk,hq,fun i a hi u=>by have:=(u6 u).1;omega,.inl ⟨rfl,rfl⟩⟩ (fun j s j0 j1 hP=>by
   obtain⟨c',M',E',t',L'⟩:=s;obtain⟨v,z,p3,p4,B⟩:=hP;simp only at v z p3 p4 B;obtain⟨a,u,_⟩:=n5 (l:=rowM b y) j0 j1;obtain⟨x,hx,m,F,O,aa,rfl⟩:=(hb y a).1 (y5 u);have ai:=hg.co m F;obtain⟨k',q1,q2,q3,U⟩:=v.cd.dom y hy;rw[z] at q1;cases q1;have hw:w64 (k+m.cost)=k+m.cost:=u9 (by omega) (by omega);unfold Q4;simp only[u,oB,hw];have ab:jR (mget c' x) 0=cst c' x:=rfl;rw[ab];by_cases cc:k+m.cost<cst c' x;rw[if_pos cc];have ac:PthW vs ms g y k:=by
    rcases U with U|U;obtain⟨k2,r1,r2,r3,_⟩:=v.cd.dom x hx;have:cst c' x=k2:=by unfold cst;rw[r1];rfl
    omega;exact U
   have J:x ≠ y:=fun e=>by
    subst e;have:cst c' x=k:=by unfold cst;rw[z];rfl
    omega
   obtain⟨M2,L2,E2,k1,k2,k3⟩:=relax_ok hg v hx (by omega) cc (.step hx F O (by rw[aa];exact ac)) t';rw[k1];have al:=sm_lt (vs:=vs) (c:=c') hx (by omega) cc;refine⟨_,rfl,k2,?_,?_,fun i a' hi q=> ?_,.inr (by simp only;rcases B with B|B<;>omega)⟩;simp only[w6];rw[if_neg (Ne.symm J)];exact z;simp only[k3];rw[if_neg (Ne.symm J)];exact p3;simp only[ar6];by_cases e:i=j;subst e;rw[u] at q;cases q;simp;have:=p4 i a' (by omega) q;split;rename_i f;rw[f] at this;omega;exact this;rw[if_neg cc];refine⟨_,rfl,v,z,p3,fun i a' hi q=> ?_,B⟩;by_cases e:i=j;subst e;rw[u] at q;cases q;simp only;omega;exact p4 i a' (by omega) q)
 refine⟨s,h1,⟨h2.cd,h2.qu,h2.qk,fun x hx m F O _ ad=> ?_⟩,h6⟩
 by_cases e:tgtW m x=y
 ·have N:=(hb y ⟨x,m.cost⟩).2 ⟨x,hx,m,F,O,e,rfl⟩
  obtain⟨i,i0,i1,hi⟩:=D6 N
  have:=h5 i _ i1 hi
  change cst s.1 x<=k+m.cost at this
  rw[e]
  have e2:cst s.1 y=k:=by unfold cst;rw[h3];rfl
  omega
 ·exact h2.arc x hx m F O e ad
structure Best(vs:Li)(ms:List Mk)(g:Int)(c:MpI):Prop where
 cd:Cd vs ms g c
 least:∀x k,PthW vs ms g x k->cst c x<=k
def main_ok{vs:Li}{ms:List Mk}{g:Int}{b:Bkm}{c M:MpI}{L:Li}{E:List En}(N:Gr vs ms)(hb:BkOk vs ms b)(h:Iv vs ms g c M L E fun _=>False)(t0:Int):
  ∃r,Loop (Q3 b) (c,M,E,t0,L)=some r/\Best vs ms g r:=by
 have aa:=N.vl
 refine M9 (body:=Q3 b) (s:=((c,M,E,t0,L):St5)) (fun s:St5=>Iv vs ms g s.1 s.2.1 s.2.2.2.2 s.2.2.1 fun _=>False) (fun r=>Best vs ms g r)
  (fun s=>sm vs s.1 * 2001+s.2.2.2.2.length) h ?_
 rintro ⟨c,M,E,t,L⟩ p
 simp only at p
 have O:=p.len
 unfold Q3
 simp only[A6,oB]
 by_cases cl:0<kj L
 ·rw[if_pos (by omega)]
  obtain⟨M',L',E',y,k,k1,k2,k3,v,k5⟩:=take_ok p.qu cl (by omega) t
  obtain⟨hy,hk⟩:=p.qk y k k3
  have h':Iv vs ms g c M' L' E' (· =y):=⟨p.cd,k2,fun x k hx=>by
    rw[v] at hx;by_cases e:x=y;rw[if_pos e] at hx;cases hx;rw[if_neg e] at hx;exact p.qk x k hx,fun x hx m B F he j=>by
    rw[v,if_neg he] at j;exact p.arc x hx m B F (fun q=>q) j⟩
  obtain⟨s,s1,U,u⟩:=relax_all N hb h' hy hk (by rw[v,if_pos rfl]) t true
  have ab:=U.len
  simp only[k1,oB,s1]
  refine .inl ⟨s,rfl,U,?_⟩
  change sm vs s.1 * 2001+s.2.2.2.2.length<sm vs c * 2001+kj L
  rcases u with⟨u,s4⟩|u
  ·rw[u,s4];omega
  ·omega
 ·rw[if_neg (by omega)]
  refine .inr ⟨c,rfl,p.cd,?_⟩
  have hL:L=[]:=jF (by omega)
  have j:∀x,qkey M E x=none:=fun x=>by
   unfold qkey;cases e:mget M x with
   |none=>rfl
   |some z=>have:=((p.qu.mem x z).1 e).1;rw[hL] at this;cases this
  intro x k hp
  induction hp with
  |goal hx J=>unfold cst;rw[p.cd.goal _ hx J];simp
  |step hx B F hp ih=>
   have:=p.arc _ hx _ B F (fun q=>q) (j _)
   omega
def rowM_mset{b:Bkm}{k:Int}{v:List A9}(y:Int):rowM (mset b k v) y=if y=k then v else rowM b y:=by
 unfold rowM;rw[w6];split<;>rfl
def back_ok{ms:List Mk}{b:Bkm}{x:Int}(U:kj ms<=40){B:Nat}(hB:∀y,(rowM b y).length<=B)(aa:B<=1000000):
  ∃E,X0 ms b x=some E/\(∀y,(rowM E y).length<=B+40)/\∀y a,a ∈ rowM E y↔a ∈ rowM b y\/∃m ∈ ms,canW m x/\tgtW m x=y/\a=⟨x,m.cost⟩:=by
 unfold X0
 obtain⟨E,h1,h2,h3⟩:=F2 (body:=X4 ms x) (n:=(kj ms:Int)) (s:=b)
  (fun j c=>(∀y,((rowM c y).length:Int)<=B+j)/\∀y a,a ∈ rowM c y↔a ∈ rowM b y\/∃i m,i<j/\ix ms i=some m/\canW m x/\tgtW m x=y/\a=⟨x,m.cost⟩) (by omega)
  ⟨fun y=>by have:=hB y;omega,fun y a=>⟨.inl,fun q=>by rcases q with q|⟨i,m,hi,z,_⟩;exact q;have:=(u6 z).1;omega⟩⟩ (fun j c j0 j1 hP=>by
   obtain⟨J,N⟩:=hP
   obtain⟨m,z,_⟩:=n5 j0 j1
   unfold X4
   simp only[z,oB]
   by_cases c1:Go.bits .and .u32 x m.pre=m.pre
   ·rw[if_pos c1]
    have ee:Go.bits .or .u32 (Go.bits .andNot .u32 x m.del) m.add=tgtW m x:=rfl
    rw[ee]
    have hl:=J (tgtW m x)
    have ha:app 16 (rowM c (tgtW m x)) [(⟨x,m.cost⟩:A9)]=some (rowM c (tgtW m x)++[⟨x,m.cost⟩]):=by unfold app;rw[if_pos (by simp;omega)]
    simp only[ha,oB]
    refine⟨_,rfl,fun y=> ?_,fun y a=> ?_⟩
    ·rw[rowM_mset]
     split
     ·simp;omega
     ·have:=J y;omega
    ·rw[rowM_mset]
     have key:(∃i h,i<j+1/\ix ms i=some h/\canW h x/\tgtW h x=y/\a=⟨x,h.cost⟩)↔(∃i h,i<j/\ix ms i=some h/\canW h x/\tgtW h x=y/\a=⟨x,h.cost⟩)\/(tgtW m x=y/\a=⟨x,m.cost⟩):=by constructor;rintro ⟨i,h,q1,u,v,F,O⟩;by_cases e:i=j;subst e;rw[z] at u;cases u;exact .inr ⟨F,O⟩;exact .inl ⟨i,h,by omega,u,v,F,O⟩;rintro (⟨i,h,q1,u⟩|⟨q1,u⟩);exact⟨i,h,by omega,u⟩;exact⟨j,m,by omega,z,c1,q1,u⟩
     rw[key]
     by_cases e:y=tgtW m x
     ·rw[if_pos e,jm,jl,<- e,N]
      simp[or_assoc]
     ·rw[if_neg e,N]
      have:¬ tgtW m x=y:=fun q=>e q.symm
      simp[this]
   ·rw[if_neg c1]
    refine⟨_,rfl,fun y=>by have:=J y;omega,fun y a=> ?_⟩
    rw[N]
    refine or_congr_right ⟨?_,?_⟩
    ·rintro ⟨i,h,q1,u⟩;exact⟨i,h,by omega,u⟩
    ·rintro ⟨i,h,q1,u,v,F⟩
     by_cases e:i=j
     ·subst e;rw[z] at u;cases u;exact absurd v c1
     ·exact⟨i,h,by omega,u,v,F⟩)
 refine⟨E,by rw[h1];rfl,fun y=>by have:=h2 y;omega,fun y a=> ?_⟩
 rw[h3]
 refine or_congr_right ⟨?_,?_⟩
 ·rintro ⟨i,m,_,u,v⟩;exact⟨m,y5 u,v⟩
 ·rintro ⟨m,u,v⟩
  obtain⟨i,_,i1,hi⟩:=D6 u
  exact⟨i,m,i1,hi,v⟩
abbrev St6:=Bkm×MpI×MpI×List En×Int×Li
def first_ok{vs:Li}{ms:List Mk}(start g:Int)(U:Gr vs ms):
  ∃s:St6,forR 0 (kj vs:Int) (Q5 vs start g ms) ([],[],[],[],0,[])=some s/\BkOk vs ms s.1/\Iv vs ms g s.2.1 s.2.2.1 s.2.2.2.2.2 s.2.2.2.1 fun _=>False:=by
 have ac:=U.vl
 have aa:=U.ml
 obtain⟨s,h1,h2,h3,h4,h5,h6⟩:=F2 (body:=Q5 vs start g ms) (n:=(kj vs:Int)) (s:=(([],[],[],[],0,[]):St6))
  (fun j s=>(∀y a,a ∈ rowM s.1 y↔∃x ∈ vs.take j.toNat,∃m ∈ ms,canW m x/\tgtW m x=y/\a=⟨x,m.cost⟩)/\(∀y,(rowM s.1 y).length<=j.toNat * 40)/\
   (∀x,x ∈ vs.take j.toNat->mget s.2.1 x=some (if dec (E9 g x)=true then 0 else 1000000000))/\Qu s.2.2.1 s.2.2.2.2.2 s.2.2.2.1/\∀x,qkey s.2.2.1 s.2.2.2.1 x=if dec (x ∈ vs.take j.toNat/\E9 g x)=true then some 0 else none) (by omega)
  ⟨fun y a=>by simp[rowM,mget],fun y=>by simp[rowM,mget],by simp,Qu.nil,fun x=>by simp[qkey,mget,dec]⟩ (fun j s j0 j1 hP=>by
   obtain⟨b,c,M,E,t,L⟩:=s;obtain⟨p1,p2,p3,p4,p5⟩:=hP;simp only at p1 p2 p3 p4 p5;obtain⟨x,hx,gx⟩:=n5 j0 j1;have hj:(j+1).toNat=j.toNat+1:=by omega
   have h:vs.take (j+1).toNat=vs.take j.toNat++[x]:=by rw[hj,jv,gx];rfl
   have ab:kj L<=kj vs:=p4.le fun z hz=>by rw[p5] at hz;by_cases e:z ∈ vs.take j.toNat/\E9 g z;exact jH e.1;rw[if_neg (by rw[A5 e];simp)] at hz;exact absurd rfl hz
   obtain⟨b',b1,b2,b3⟩:=back_ok (x:=x) aa (B:=j.toNat * 40) p2 (by omega);have u:∀y a,a ∈ rowM b' y↔∃x ∈ vs.take (j+1).toNat,∃m ∈ ms,canW m x/\tgtW m x=y/\a=⟨x,m.cost⟩:=fun y a=>by rw[b3,p1,h];simp only[jm,jl,or_and_right,exists_or,exists_eq_left]
   have F:∀y,(rowM b' y).length<=(j+1).toNat * 40:=fun y=>by have:=b2 y;omega
   unfold Q5;simp only[hx,oB,G7,B6];by_cases cg:Go.bits .and .u32 x g=g;rw[if_pos cg];have v:E9 g x:=cg;obtain⟨M',L',E',k1,k2,k3⟩:=set_ok p4 (by omega) x 0 t;simp only[k1,oB,b1];refine⟨_,rfl,u,F,fun z hz=> ?_,k2,fun z=> ?_⟩;simp only[w6];by_cases e:z=x;subst e;rw[if_pos rfl,if_pos (o9 v)];rw[if_neg e,if_neg e];refine p3 z ?_;rw[h] at hz;simp[e] at hz;exact hz;simp only[k3,p5,h];by_cases e:z=x;subst e;rw[if_pos rfl,if_pos (o9 ⟨by simp,v⟩)];rw[if_neg e];have:(z ∈ vs.take j.toNat++[x]/\E9 g z)↔(z ∈ vs.take j.toNat/\E9 g z):=by simp[e]
   rw[W6 this];rw[if_neg cg];have v:¬ E9 g x:=cg;simp only[oB,b1];refine⟨_,rfl,u,F,fun z hz=> ?_,p4,fun z=> ?_⟩;simp only[w6];by_cases e:z=x;subst e;rw[if_pos rfl,if_neg (by rw[A5 v];simp)];rw[if_neg e];refine p3 z ?_;rw[h] at hz;simp[e] at hz;exact hz;simp only[p5,h];have:(z ∈ vs.take j.toNat++[x]/\E9 g z)↔(z ∈ vs.take j.toNat/\E9 g z):=by constructor;rintro ⟨q1,q2⟩;rcases jm.1 q1 with q1|q1;exact⟨q1,q2⟩;simp at q1;subst q1;exact absurd q2 v;rintro ⟨q1,q2⟩;exact⟨jD _ q1,q2⟩
   rw[W6 this])
 have ht:vs.take (kj vs:Int).toNat=vs:=by rw[jG,jy]
 rw[ht] at h2 h4 h6
 have hc:∀x ∈ vs,¬ E9 g x->mget s.2.1 x=some 1000000000:=fun x hx N=>by rw[h4 x hx,if_neg (by rw[A5 N];simp)]
 have J:∀x ∈ vs,E9 g x->mget s.2.1 x=some 0:=fun x hx N=>by rw[h4 x hx,if_pos (o9 N)]
 refine⟨s,h1,h2,⟨fun x hx=> ?_,J⟩,h5,fun x k hk=> ?_,fun x hx m hm O _ hq=> ?_⟩
 ·by_cases e:E9 g x
  ·exact⟨0,J x hx e,by omega,by omega,.inr (.goal hx e)⟩
  ·exact⟨1000000000,hc x hx e,by omega,by omega,.inl rfl⟩
 ·rw[h6] at hk
  by_cases e:x ∈ vs/\E9 g x
  ·rw[if_pos (o9 e)] at hk;cases hk;exact⟨e.1,J x e.1 e.2⟩
  ·rw[if_neg (by rw[A5 e];simp)] at hk;cases hk
 ·have hy:=U.cl x hx m hm O
  rw[h6] at hq
  have N:¬ E9 g (tgtW m x):=fun q=>by rw[if_pos (o9 ⟨hy,q⟩)] at hq;cases hq
  have h0:=(U.co m hm).1
  unfold cst
  rw[hc _ hy N,h4 x hx]
  simp only[jz]
  split<;>omega
def costs_ok{vs:Li}{ms:List Mk}(start g:Int)(h:Gr vs ms):∃c,M7 vs start g ms=some c/\Best vs ms g c:=by unfold M7;obtain⟨s,s1,j,q⟩:=first_ok start g h;obtain⟨r,u,r2⟩:=main_ok h j q s.2.2.2.2.1;refine⟨r,?_,r2⟩;obtain⟨a,b,c,d,e,f⟩:=s;simp only[E8,oB,s1];rw[u];rfl
end Ab
end
section
namespace Ab
open Go
def Val(t:i4)(plan:Li):Prop:=∀x ∈ plan,(0:Int)<=x/\x<kj t.operators
def J5(t:i4):Li->Int
 |[]=>0
 |op::r=>J5 t r+(opAt t op).cost
def Few(t:i4):Prop:=∃l:LL,l.Nodup/\(kj l)<=2000/\∀s,s ∈ l↔Rt t s
section
variable {t:i4}{vs:Li}
def pth_of(ht:s6 t)(j:∀x,x ∈ vs↔Rwd t x):∀{plan s:Li},Rt t s->Val t plan->works t s plan->PthW vs (mks t) (wd t.goal) (wd s) (J5 t plan)
 |[],s,hs,_,⟨e,h1,h2⟩=>by simp only[ends,Option.some.injEq] at h1;subst h1;exact .goal ((j _).2 ⟨s,hs,rfl⟩) ((ay0 (hs.setN ht) ht.goal ht.n1).2 h2)
 |op::r,s,hs,hp,⟨e,h1,h2⟩=>by have c:=hp op (by simp);simp only[ends] at h1;split at h1;rename_i h;have h:=q8.1 h;have q:=pth_of ht j (plan:=r) (hs.step c.1 c.2 h) (fun x hx=>hp x (jo _ hx)) ⟨e,h1,h2⟩;rw[<- tgtW_eq ht (hs.setN ht) c.1 c.2] at q;exact .step ((j _).2 ⟨s,hs,rfl⟩) (mks_of c.1 c.2) ((ar2 ht (hs.setN ht) c.1 c.2).2 h) q;cases h1
def plan_of(ht:s6 t){x k:Int}(h:PthW vs (mks t) (wd t.goal) x k):∀{s:Li},Rt t s->x=wd s->∃plan,Val t plan/\works t s plan/\J5 t plan=k:=by
 induction h with
 |goal hx q=>
  intro s hs e;subst e
  exact⟨[],by simp[Val],⟨s,rfl,(ay0 (hs.setN ht) ht.goal ht.n1).1 q⟩,rfl⟩
 |step hx u v hp z=>
  intro s hs e;subst e
  obtain⟨op,j,h1,rfl⟩:=mks_mem u
  have c:=(ar2 ht (hs.setN ht) j h1).1 v
  obtain⟨plan,B,⟨e,E,F⟩,J⟩:=z (hs.step j h1 c) (tgtW_eq ht (hs.setN ht) j h1)
  refine⟨op::plan,fun y hy=> ?_,⟨e,?_,F⟩,by simp[J5,J,mkOf]⟩
  ·rcases jq.1 hy with rfl|hy
   ·exact⟨j,h1⟩
   ·exact B y hy
  ·simp only[ends];rw[if_pos (o9 c)];exact E
end
/-! ### A way that is not long -/
inductive Hop(vs:Li)(ms:List Mk)(g:Int):Nat->Int->Prop
 |goal {x:Int} (h:x ∈ vs) (hg:E9 g x):Hop vs ms g 0 x
 |step {x:Int} {n:Nat} {m:Mk} (h:x ∈ vs) (hm:m ∈ ms) (hc:canW m x) (hp:Hop vs ms g n (tgtW m x)):Hop vs ms g (n+1) x
section
variable {vs:Li}{ms:List Mk}{g:Int}
def Hop.of{x k:Int}(h:PthW vs ms g x k):∃n,Hop vs ms g n x:=by
 induction h with
 |goal hx c=>exact⟨0,.goal hx c⟩
 |step hx e j _ q=>obtain⟨n,u⟩:=q;exact⟨n+1,.step hx e j u⟩
def Hop.mem{n:Nat}{x:Int}(h:Hop vs ms g n x):x ∈ vs:=by cases h<;>assumption
def Hop.cost(hg:Gr vs ms){n:Nat}{x:Int}(h:Hop vs ms g n x):∃k,PthW vs ms g x k/\k<=100 * n:=by
 induction h with
 |goal hx hgx=>exact⟨0,.goal hx hgx,by omega⟩
 |step hx hm hc _ ih=>
  obtain⟨k,k1,k2⟩:=ih
  have:=hg.co _ hm
  exact⟨_,.step hx hm hc k1,by push_cast;omega⟩
def MHop(vs:Li)(ms:List Mk)(g:Int)(n:Nat)(x:Int):Prop:=Hop vs ms g n x/\∀m,m<n->¬ Hop vs ms g m x
def MHop.of:∀{n:Nat} {x:Int},Hop vs ms g n x->∃m,m<=n/\MHop vs ms g m x:=by
 intro n;induction n using Nat.strongRecOn with
 |_ n e=>
  intro x h
  by_cases c:∃m,m<n/\Hop vs ms g m x
  ·obtain⟨m,j,u⟩:=c
   obtain⟨q,q1,v⟩:=e m j u
   exact⟨q,by omega,v⟩
  ·exact⟨n,jt _,h,fun m z B=>c ⟨m,z,B⟩⟩
def MHop.chain:∀{n:Nat} {x:Int},MHop vs ms g n x->∃l:Li,kj l=n+1/\l.Nodup/\∀y ∈ l,y ∈ vs/\∃m,m<=n/\MHop vs ms g m y
 |0,x,h=>⟨[x],rfl,by simp,fun y hy=>by simp at hy;subst hy;exact⟨h.1.mem,0,jt _,h⟩⟩
 |n+1,x,h=>by
  cases h.1 with
  |@step _ _ m hx u v hp=>
   have z:MHop vs ms g n (tgtW m x):=⟨hp,fun q N B=>h.2 (q+1) (by omega) (.step hx u v B)⟩
   obtain⟨l,E,F,j⟩:=MHop.chain z
   refine⟨x::l,by simp[E],jJ.2 ⟨fun c=> ?_,F⟩,fun y hy=> ?_⟩
   ·obtain⟨_,q,q1,e⟩:=j x c
    exact h.2 q (by omega) e.1
   ·rcases jq.1 hy with rfl|hy
    ·exact⟨hx,n+1,jt _,h⟩
    ·obtain⟨J,q,q1,e⟩:=j y hy
     exact⟨J,q,by omega,e⟩
def pth_small(e:Gr vs ms){x k:Int}(h:PthW vs ms g x k):∃c,PthW vs ms g x c/\c<=199900:=by obtain⟨n,q⟩:=Hop.of h;obtain⟨m,_,j⟩:=MHop.of q;obtain⟨l,z,u,v⟩:=j.chain;have:=U6 u (S:=vs) fun y hy=>(v y hy).1;have B:=e.vl;obtain⟨c,k1,E⟩:=j.1.cost e;exact⟨c,k1,by omega⟩
end
def words_of{t:i4}(ht:s6 t){vs:Li}(hl:kj vs<=2000)(e:∀x,x ∈ vs↔Rwd t x):Gr vs (mks t):=⟨fun x hx m c h=>(e _).2 (((e x).1 hx).next ht c h),fun m c=>by obtain⟨op,j,h1,rfl⟩:=mks_mem c;exact(ah2 ht j h1).2,by simp[mks];exact ht.ops,hl⟩
def few_of{t:i4}(ht:s6 t){vs:Li}(h:vs.Nodup)(hl:kj vs<=2000)(c:∀x,x ∈ vs↔Rwd t x):Few t:=by
 obtain⟨e,h1,h2⟩:=states_of (t:=t) (l:=vs) fun x hx=>(c x).1 hx;refine⟨e,as5 (f:=wd) (by rw[h1];exact h),?_,fun s=>⟨h2 s,fun hs=> ?_⟩⟩;have:=congrArg kj h1;simp only[List.length_map] at this;omega;have:wd s ∈ e.map wd:=by rw[h1];exact(c _).2 ⟨s,hs,rfl⟩
 obtain⟨s',s1,j⟩:=jK.1 this;rw[wd_inj ht (hs.setN ht) ((h2 s' s1).setN ht) j.symm];exact s1
def aA0(t:i4):(¬ s6 t/\∃f,y4 t=some f/\f.code ≠ 0/\D5 t=some (.inl (f.code,f.index)))\/(s6 t/\Many t/\D5 t=some (.inl (10, -7)))\/
  (s6 t/\Few t/\∃vs:Li,vs.Nodup/\(kj vs)<=2000/\(∀x,x ∈ vs↔Rwd t x)/\D5 t=some (.inr (wd t.init,wd t.goal,mks t,vs))):=by
 obtain⟨f,h1,_,v⟩:=aw3 t
 unfold D5
 rw[h1]
 simp only[oB]
 rcases v with⟨rfl,ht⟩|⟨j,z⟩
 ·rw[if_neg (by simp),of_eq ht]
  obtain⟨l,b,a1,B,E⟩:=all_spec ht (wd t.goal)
  simp only[oB,a1]
  cases b with
  |false=>exact .inr (.inl ⟨ht,B rfl,rfl⟩)
  |true=>
   obtain⟨q1,F,q⟩:=E rfl
   obtain⟨vs,J,h⟩:=sortW (l:=l) (by omega) (fun x hx=>by obtain⟨s,s1,rfl⟩:=(q x).1 hx;exact wd_u32 ht (s1.setN ht))
   have u:∀x,x ∈ vs↔Rwd t x:=fun x=>h.mem_iff.trans (q x)
   have c:vs.Nodup:=h.nodup_iff.2 q1
   have e:kj vs<=2000:=by rw[h.length_eq];exact F
   exact .inr (.inr ⟨ht,few_of ht c e u,vs,c,e,u,by simp[J]⟩)
 ·rw[if_pos (by simp[j])]
  exact .inl ⟨z,f,rfl,j,rfl⟩
inductive OptR(t:i4):Int×TFault->Prop
 |bad {f:TFault} (h:¬ s6 t) (hf:y4 t=some f) (hc:f.code ≠ 0):OptR t (0,f)
 |many (h:s6 t) (hm:Many t):OptR t (0,⟨10, -7⟩)
 |none (h:s6 t) (hf:Few t) (hn:∀plan,Val t plan->¬ works t t.init plan):OptR t (1000000000,⟨0,0⟩)
 |some {k:Int} {plan:Li} (h:s6 t) (hf:Few t) (h0:0<=k) (h1:k<=199900) (hv:Val t plan) (hw:works t t.init plan) (hk:J5 t plan=k) (hl:∀p,Val t p->works t t.init p->k<=J5 t p):OptR t (k,⟨0,0⟩)
def optimal_spec(t:i4):∃r,P9 t=some r/\OptR t r:=by
 unfold P9;rcases aA0 t with⟨h,f,h1,h2,E⟩|⟨h,h1,h2⟩|⟨ht,h1,vs,v1,F,q,h2⟩;rw[E];simp only[oB];rw[if_pos (by simp[h2])];exact⟨_,rfl,.bad h h1 h2⟩;rw[h2];simp only[oB];rw[if_pos (by simp)];exact⟨_,rfl,.many h h1⟩;rw[h2];simp only[oB];rw[if_neg (by simp)];have z:=words_of ht F q;obtain⟨c,c1,u⟩:=costs_ok (wd t.init) (wd t.goal) z;simp only[c1,oB,x8];have hi:wd t.init ∈ vs:=(q _).2 ⟨_,.init,rfl⟩;obtain⟨k,k1,J,k3,j⟩:=u.cd.dom _ hi;have N:cst c (wd t.init)=k:=by unfold cst;rw[k1];rfl
 refine⟨_,rfl,?_⟩;rw[k1];simp only[jz];by_cases e:∃B,PthW vs (mks t) (wd t.goal) (wd t.init) B;obtain⟨k0,e⟩:=e;obtain⟨B,O,e2⟩:=pth_small z e;have U:=u.least _ _ O;rcases j with j|j;omega;obtain⟨plan,p1,p2,p3⟩:=plan_of ht j .init rfl;refine .some ht h1 J (by omega) p1 p2 p3 fun p q1 v=> ?_;have:=u.least _ _ (pth_of ht q .init q1 v);omega;rcases j with rfl|j;exact .none ht h1 fun p q1 v=>e ⟨_,pth_of ht q .init q1 v⟩;exact absurd ⟨_,j⟩ e
end Ab
end
section
namespace Ab
open Go
abbrev Bk:=f8
abbrev MpB:=List (Int×Bk)
abbrev pri(m:Mk):Int:=m.cost * 4096+1
inductive FwC(ms:List Mk)(s:Int):Li->Int->Int->Prop
 |nil:FwC ms s [] 0 s
 |snoc {l:Li} {k x op:Int} {m:Mk} (h:FwC ms s l k x) (hm:ix ms op=some m) (hc:canW m x):FwC ms s (l++[op]) (k+pri m) (tgtW m x)
structure AI(vs:Li)(ms:List Mk)(s:Int)(P:MpI)(p:MpB)(Q:Int->Option Int):Prop where
 s0:mget P s=some 0
 dom:∀x k,mget P x=some k->x ∈ vs/\0<=k
 wk:∀x k,mget P x=some k->∃W:Li,W.Nodup/\(∀y ∈ W,∃ky,mget P y=some ky/\ky<k)/\k<=409601 * (kj W:Int)
 back:∀x k,mget P x=some k->x=s\/∃b kf m,mget p x=some b/\mget P b.fFrom=some kf/\ix ms b.op=some m/\canW m b.fFrom/\tgtW m b.fFrom=x/\kf+pri m<=k
 q:∀x k,Q x=some k->mget P x=some k
def Don(ms:List Mk)(P:MpI)(x k:Int)(j:Int):Prop:=∀i m,i<j->ix ms i=some m->canW m x->∃c,mget P (tgtW m x)=some c/\c<=k+pri m
def lbl(P:MpI)(x:Int):Int:=(mget P x).getD 1000000000
def sml(vs:Li)(P:MpI):Nat:=(vs.map fun x=>(lbl P x).toNat).sum
section
variable {vs:Li}{ms:List Mk}{g s:Int}{P:MpI}{p:MpB}{Q:Int->Option Int}
def AI.le(h:AI vs ms s P p Q)(c:Gr vs ms){x k:Int}(hx:mget P x=some k):k<=819202000:=by
 obtain⟨W,e,j,u⟩:=h.wk x k hx;have:=U6 e (S:=vs) fun y hy=>by obtain⟨q,hk,_⟩:=j y hy;exact(h.dom y q hk).1
 have:=c.vl;omega
def AI.step(h:AI vs ms s P p Q)(hg:Gr vs ms){x k op:Int}{m:Mk}(hx:mget P x=some k)(U:ix ms op=some m)(hc:canW m x)(u:∀o,mget P (tgtW m x)=some o->k+pri m<o):
  AI vs ms s (mset P (tgtW m x) (k+pri m)) (mset p (tgtW m x) ⟨x,op⟩) (fun z=>if z=tgtW m x then some (k+pri m) else Q z):=by
 have ai:=hg.co m (y5 U)
 have aa:=h.dom x k hx
 have ab:tgtW m x ≠ s:=fun e=>by have:=u 0 (by rw[e];exact h.s0);unfold pri at this;omega
 have B:tgtW m x ≠ x:=fun e=>by have:=u k (by rw[e];exact hx);unfold pri at this;omega
 have hp:1<=pri m/\pri m<=409601:=by unfold pri;omega
 generalize hy:tgtW m x=y at *
 have c:∀z,mget (mset P y (k+pri m)) z=if z=y then some (k+pri m) else mget P z:=fun z=>w6 ..
 have E:∀z j,mget P z=some j->∃F,mget (mset P y (k+pri m)) z=some F/\F<=j:=fun z j hz=>by rw[c];by_cases e:z=y;subst e;exact⟨_,if_pos rfl,by have:=u j hz;omega⟩;exact⟨j,by rw[if_neg e];exact hz,jr _⟩
 refine⟨by rw[c,if_neg (Ne.symm ab)];exact h.s0,fun z j hz=> ?_,fun z j hz=> ?_,fun z j hz=> ?_,fun z j hz=> ?_⟩
 ·rw[c] at hz
  by_cases e:z=y
  ·rw[if_pos e] at hz;cases hz
   rw[e,<- hy]
   exact⟨hg.cl x aa.1 m (y5 U) hc,by omega⟩
  ·rw[if_neg e] at hz;exact h.dom z j hz
 ·rw[c] at hz
  by_cases e:z=y
  ·rw[if_pos e] at hz;cases hz
   obtain⟨W,w1,N,w3⟩:=h.wk x k hx
   refine⟨x::W,jJ.2 ⟨fun q=> ?_,w1⟩,fun a J=> ?_,by rw[jE];omega⟩
   ·obtain⟨ky,v,e2⟩:=N x q
    rw[hx] at v;cases v;omega
   ·rcases jq.1 J with rfl|J
    ·exact⟨k,by rw[c,if_neg (Ne.symm B)];exact hx,by omega⟩
    ·obtain⟨O,v,e2⟩:=N a J
     refine⟨O,?_,by omega⟩
     rw[c,if_neg]
     ·exact v
     ·intro q;subst q
      have:=u O v
      omega
  ·rw[if_neg e] at hz
   obtain⟨W,w1,N,w3⟩:=h.wk z j hz
   refine⟨W,w1,fun a J=> ?_,w3⟩
   obtain⟨O,v,e2⟩:=N a J
   obtain⟨ac,e3,e4⟩:=E a O v
   exact⟨ac,e3,by omega⟩
 ·rw[c] at hz
  by_cases e:z=y
  ·rw[if_pos e] at hz;cases hz
   refine .inr ⟨⟨x,op⟩,k,m,by rw[w6,if_pos e],by dsimp only;rw[c,if_neg (Ne.symm B)];exact hx,U,hc,by rw[e];exact hy,jr _⟩
  ·rw[if_neg e] at hz
   rcases h.back z j hz with r|⟨b,kf,m',b1,b2,b3,b4,b5,b6⟩
   ·exact .inl r
   ·obtain⟨ad,e3,e4⟩:=E b.fFrom kf b2
    exact .inr ⟨b,ad,m',by rw[w6,if_neg e];exact b1,e3,b3,b4,b5,by omega⟩
 ·rw[c]
  try dsimp only at hz
  by_cases e:z=y
  ·rw[if_pos e] at hz ⊢;exact hz
  ·rw[if_neg e] at hz ⊢;exact h.q z j hz
def Don.step{x k y n j:Int}(h:Don ms P x k j)(c:∀o,mget P y=some o->n<o):Don ms (mset P y n) x k j:=fun i m hi u v=>by obtain⟨q,h1,h2⟩:=h i m hi u v;rw[w6];by_cases e:tgtW m x=y;rw[if_pos e];rw[e] at h1;have:=c q h1;exact⟨n,rfl,by omega⟩;rw[if_neg e];exact⟨q,h1,h2⟩
def sml_lt(h:AI vs ms s P p Q){y n:Int}(hy:y ∈ vs)(q:0<=n)(j:n<1000000000)(c:∀o,mget P y=some o->n<o):sml vs (mset P y n)<sml vs P:=by
 have hl:n<lbl P y:=by
  unfold lbl;cases e:mget P y with
  |none=>exact j
  |some o=>exact c o e
 refine sum_lt (fun z _=> ?_) ⟨y,hy,?_⟩;unfold lbl at hl ⊢;rw[w6];by_cases e:z=y;subst e;rw[if_pos rfl,jz];omega;rw[if_neg e];exact jt _;unfold lbl at hl ⊢;rw[w6,if_pos rfl,jz];omega
def AI.way(h:AI vs ms s P p Q)(E:Gr vs ms)(hd:∀x k,mget P x=some k->Q x=none->Don ms P x k (kj ms)){l:Li}{c y:Int}(B:FwC ms s l c y):(∃k,mget P y=some k/\k<=c/\Q y=none)\/∃z j,Q z=some j/\j<=c:=by
 have u:∀y k c,mget P y=some k->k<=c->(∃k,mget P y=some k/\k<=c/\Q y=none)\/∃z j,Q z=some j/\j<=c:=fun y k c hy hk=>by
  cases e:Q y with
  |none=>exact .inl ⟨k,hy,hk,rfl⟩
  |some j=>
   have:=h.q y j e
   rw[hy] at this;cases this
   exact .inr ⟨y,k,e,hk⟩
 induction B with
 |nil=>exact u s 0 0 h.s0 (jr _)
 |@snoc l c y op m B v F J=>
  have N:=E.co m (y5 v)
  rcases J with⟨k,O,i2,U⟩|⟨z,j,z1,z2⟩
  ·obtain⟨k',k1,k2⟩:=hd y k O U op m (u6 v).2.1 v F
   exact u _ k' _ k1 (by omega)
  ·exact .inr ⟨z,j,z1,by unfold pri;omega⟩
def apath_end{c:Li}:B1 s p (c,s)=some (.inr c):=by unfold B1;dsimp only;rw[if_pos rfl]
def apath_step{x:Int}{b:Bk}{c:Li}(e:x ≠ s)(h:mget p x=some b)(j:kj c<=1000000000000):B1 s p (c,x)=some (.inl (c++[b.op],b.fFrom)):=by unfold B1;dsimp only;rw[if_neg e,h];simp only[jz];rw[app,if_pos (by simp;omega)];rfl
def AI.path(h:AI vs ms s P p Q)(j:Gr vs ms):∀(n:Nat) {x k:Int},mget P x=some k->k.toNat<=n->∀c:Li,kj c+n<=1000000000000->∃l,Loop (B1 s p) (c,x)=some (c++l)/\(kj l)<=n/\∃r,r<=k/\FwC ms s l.reverse r x
 |n,x,k,hx,hk,c,J=>by
  by_cases e:x=s;subst e;rw[am5,apath_end];have:=h.s0;rw[hx] at this;cases this;exact⟨[],by simp,by simp,0,jr _,.nil⟩;rcases h.back x k hx with e'|⟨b,N,m,b1,b2,b3,q,u,v⟩;exact absurd e' e;have z:=j.co m (y5 b3);have hd:=h.dom _ _ b2;unfold pri at v;cases n with
  |zero=>omega
  |succ n=>
   obtain⟨l,B,E,r,O,F⟩:=AI.path h j n b2 (by omega) (c++[b.op]) (by simp;omega)
   refine⟨b.op::l,?_,by simp[E],r+pri m,by unfold pri;omega,?_⟩
   ·rw[am5,apath_step e b1 (by omega)]
    dsimp only
    rw[B]
    simp
   ·rw[List.reverse_cons,<- u]
    exact .snoc F b3 q
end
/-! ### The least cost with few steps -/
inductive HopC(vs:Li)(ms:List Mk)(g:Int):Nat->Int->Int->Prop
 |goal {x:Int} (h:x ∈ vs) (hg:E9 g x):HopC vs ms g 0 0 x
 |step {x k:Int} {n:Nat} {m:Mk} (h:x ∈ vs) (hm:m ∈ ms) (hc:canW m x) (hp:HopC vs ms g n k (tgtW m x)):HopC vs ms g (n+1) (k+m.cost) x
section
variable {vs:Li}{ms:List Mk}{g:Int}
def HopC.of{x k:Int}(h:PthW vs ms g x k):∃n,HopC vs ms g n k x:=by
 induction h with
 |goal hx c=>exact⟨0,.goal hx c⟩
 |step hx e j _ q=>obtain⟨n,u⟩:=q;exact⟨n+1,.step hx e j u⟩
def HopC.mem{n:Nat}{k x:Int}(h:HopC vs ms g n k x):x ∈ vs:=by cases h<;>assumption
def LowC(vs:Li)(ms:List Mk)(g:Int)(n:Nat)(k x:Int):Prop:=∃c,c<=k/\HopC vs ms g n c x
def MinC(vs:Li)(ms:List Mk)(g:Int)(n:Nat)(k x:Int):Prop:=LowC vs ms g n k x/\∀m,m<n->¬ LowC vs ms g m k x
def MinC.of{k x:Int}:∀{n:Nat},LowC vs ms g n k x->∃m,m<=n/\MinC vs ms g m k x:=by
 intro n;induction n using Nat.strongRecOn with
 |_ n e=>
  intro h
  by_cases c:∃m,m<n/\LowC vs ms g m k x
  ·obtain⟨m,j,u⟩:=c
   obtain⟨q,q1,v⟩:=e m j u
   exact⟨q,by omega,v⟩
  ·exact⟨n,jt _,h,fun m z B=>c ⟨m,z,B⟩⟩
def MinC.chain(u:Gr vs ms):∀{n:Nat} {k x:Int},MinC vs ms g n k x->∃l:Li,kj l=n+1/\l.Nodup/\∀y ∈ l,y ∈ vs/\∃m c,m<=n/\c<=k/\MinC vs ms g m c y
 |0,k,x,h=>by obtain⟨c,_,hk⟩:=h.1;exact⟨[x],rfl,by simp,fun y hy=>by simp at hy;subst hy;exact⟨hk.mem,0,k,jt _,jr _,h⟩⟩
 |n+1,k,x,h=>by
  obtain⟨c,B,hk⟩:=h.1;cases hk with
  |@step _ k0 _ m hx v E hp=>
   have F:=u.co m v
   have J:MinC vs ms g n (k - m.cost) (tgtW m x):=⟨⟨k0,by omega,hp⟩,fun q hq N=>by obtain⟨e,e1,O⟩:=N;exact h.2 (q+1) (by omega) ⟨e+m.cost,by omega,.step hx v E O⟩⟩
   obtain⟨l,U,l2,z⟩:=MinC.chain u J
   refine⟨x::l,by simp[U],jJ.2 ⟨fun j=> ?_,l2⟩,fun y hy=> ?_⟩
   ·obtain⟨_,q,e,q1,q2,⟨kr,r1,r2⟩,_⟩:=z x j
    exact h.2 q (by omega) ⟨kr,by omega,r2⟩
   ·rcases jq.1 hy with rfl|hy
    ·exact⟨hx,n+1,k,jt _,jr _,h⟩
    ·obtain⟨y1,q,e,q1,q2,q3⟩:=z y hy
     exact⟨y1,q,e,by omega,by omega,q3⟩
def few_steps(e:Gr vs ms){x k:Int}(h:PthW vs ms g x k):∃n c,n<=2000/\c<=k/\HopC vs ms g n c x:=by obtain⟨n,q⟩:=HopC.of h;obtain⟨m,_,j⟩:=MinC.of (n:=n) ⟨k,jr _,q⟩;obtain⟨l,B,u,v⟩:=j.chain e;have:=U6 u (S:=vs) fun y hy=>(v y hy).1;have E:=e.vl;obtain⟨c,k1,z⟩:=j.1;exact⟨m,c,by omega,k1,z⟩
def hop_fw{s:Int}{n:Nat}{k x:Int}(h:HopC vs ms g n k x):∀{l:Li} {c:Int},FwC ms s l c x->∃l' y,FwC ms s l' (c+(k * 4096+n)) y/\E9 g y:=by
 induction h with
 |goal _ hg=>intro l c hl;exact⟨l,_,by simpa using hl,hg⟩
 |@step x k n m hx hm hc _ ih=>
  intro l c hl
  obtain⟨i,_,_,hi⟩:=D6 hm
  obtain⟨l',y,h1,h2⟩:=ih (.snoc hl hi hc)
  refine⟨l',y,?_,h2⟩
  have:c+pri m+(k * 4096+(n:Int))=c+((k+m.cost) * 4096+((n+1:Nat):Int)):=by unfold pri;push_cast;omega
  rwa [this] at h1
end
end Ab
end
section
namespace Ab
open Go
def K0(l:MpI):Prop:=∀x v,mget l x=some v->v=0
def facts_some(w:Int):∃r,N7 w=some r:=by unfold N7;obtain⟨r,h,_⟩:=F2 (body:=R9 w) (n:=32) (s:=[]) (fun j c=>(kj c:Int)<=j) (by omega) (by simp) (fun j c e q u=>by unfold R9;split;rw[app,if_pos (by simp;omega)];exact⟨_,rfl,by simp;omega⟩;exact⟨_,rfl,by omega⟩);exact⟨r,by rw[h];rfl⟩
def heur_ok{l:MpI}(hl:K0 l)(x F:Int)(I G:Li)(O:List j7):∃l',y6 x F I G O l=some (l',0)/\K0 l':=by
 unfold y6;cases h:mget l x with
 |none=>
  obtain⟨r,hr⟩:=facts_some x
  rw[if_pos (by simp),hr]
  refine⟨mset l x 0,rfl,fun y v c=> ?_⟩
  rw[w6] at c
  split at c
  ·cases c;rfl
  ·exact hl y v c
 |some v=>
  rw[if_neg (by simp)]
  have:=hl x v h
  subst this
  exact⟨l,rfl,hl⟩
section
variable {vs:Li}{ms:List Mk}{g s:Int}
def price_eq{m:Mk}(h:0<=m.cost/\m.cost<=100):af6 m.cost=some (pri m):=by unfold af6 pri;rw[u9 (n:=m.cost * 4096) (by omega) (by omega),u9 (by omega) (by omega)]
structure OI(vs:Li)(ms:List Mk)(g s:Int)(kn P:MpI)(p:MpB)(M:MpI)(L:Li)(E:List En):Prop where
 k0:K0 kn
 ai:AI vs ms s P p (qkey M E)
 qo:QO M L E
 dn:∀x k,mget P x=some k->qkey M E x=none->¬ E9 g x/\Don ms P x k (kj ms)
def qo_len{P:MpI}{p:MpB}{M:MpI}{L:Li}{E:List En}(h:AI vs ms s P p (qkey M E))(q:QO M L E):kj L<=kj vs:=q.qu.le fun x hx=>by
 cases e:qkey M E x with
 |none=>exact absurd e hx
 |some k=>exact(h.dom x k (h.q x k e)).1
def steps_ok(hg:Gr vs ms)(F:Int)(I G:Li)(O:List j7){kn P:MpI}{p:MpB}{M:MpI}{L:Li}{E:List En}{x k:Int}{time:Int}{q:Int×Bool}(h0:K0 kn)(ha:AI vs ms s P p (qkey M E))(hq:QO M L E)(hx:mget P x=some k)(hn:qkey M E x=none)(a6:¬ E9 g x)
  (hd:∀y J,y ≠ x->mget P y=some J->qkey M E y=none->¬ E9 g y/\Don ms P y J (kj ms)):
  ∃aa P' p' M' ab L' E',L6 F I G O ms kn P p time (M,E,L,x,q)=some (aa,P',p',M',ab,L',E')/\OI vs ms g s aa P' p' M' L' E'/\(sml vs P'<sml vs P\/(sml vs P'=sml vs P/\(kj L')=kj L)):=by
 have be:=hg.ml
 have bi:=hg.vl
 unfold L6
 obtain⟨⟨aa,P',p',M',t',L',E'⟩,r1,r2,r3,r4,r5,r6,r7,r8,r9⟩:=F2 (body:=L7 F I G O ms (M,E,L,x,q)) (n:=(kj ms:Int)) (s:=(kn,P,p,M,time,L,E))
  (fun j c=>K0 c.1/\AI vs ms s c.2.1 c.2.2.1 (qkey c.2.2.2.1 c.2.2.2.2.2.2)/\QO c.2.2.2.1 c.2.2.2.2.2.1 c.2.2.2.2.2.2/\mget c.2.1 x=some k/\qkey c.2.2.2.1 c.2.2.2.2.2.2 x=none/\
   (∀y J,y ≠ x->mget c.2.1 y=some J->qkey c.2.2.2.1 c.2.2.2.2.2.2 y=none->¬ E9 g y/\Don ms c.2.1 y J (kj ms))/\Don ms c.2.1 x k j/\(sml vs c.2.1<sml vs P\/(sml vs c.2.1=sml vs P/\c.2.2.2.2.2.1.length=kj L))) (by omega)
  ⟨h0,ha,hq,hx,hn,hd,fun i m hi hm=>by have:=(u6 hm).1;omega,.inr ⟨rfl,rfl⟩⟩ (fun j c j0 j1 hP=>by
   obtain⟨kn,P1,p1,M1,t1,L1,E1⟩:=c;obtain⟨b1,b2,b3,U,b5,b6,b7,b8⟩:=hP;dsimp only at b1 b2 b3 U b5 b6 b7 b8;obtain⟨m,hm,_⟩:=n5 j0 j1;have ai:=y5 hm;have a7:=hg.co m ai;have hk:=b2.le hg U;have al:=(b2.dom x k U).2;have bd:=qo_len b2 b3;have next:∀{P2:MpI},Don ms P2 x k j->(canW m x->∃k',mget P2 (tgtW m x)=some k'/\k'<=k+pri m)->Don ms P2 x k (j+1):=fun h1 h2 i m' hi ac an=>by by_cases e:i=j;subst e;rw[hm] at ac;cases ac;exact h2 an;exact h1 i m' (by omega) ac an
   unfold L7;simp only[hm,oB];by_cases c1:Go.bits .and .u32 x m.pre=m.pre;rw[if_pos c1];have av:canW m x:=c1;have ee:Go.bits .or .u32 (Go.bits .andNot .u32 x m.del) m.add=tgtW m x:=rfl;rw[ee,price_eq a7];have hw:w64 (k+pri m)=k+pri m:=by unfold pri;exact u9 (by omega) (by omega)
   simp only[oB,U,jz,hw];obtain⟨l1,ay,a2⟩:=heur_ok b1 (tgtW m x) F I G O;have a3:∀ad:MpI,K0 ad->(∀o,mget P1 (tgtW m x)=some o->k+pri m<o)->∃s',(js (y6 (tgtW m x) F I G O ad) fun N=>js (n9 (tgtW m x) (w64 (k+pri m+w64 (4096 * N.2))) t1 L1 M1 E1) fun u=>some (N.1,mset P1 (tgtW m x) (k+pri m),mset p1 (tgtW m x) (⟨x,j⟩:f8),u.1,w64 (t1+1),u.2.1,u.2.2))=some s'/\
     K0 s'.1/\AI vs ms s s'.2.1 s'.2.2.1 (qkey s'.2.2.2.1 s'.2.2.2.2.2.2)/\QO s'.2.2.2.1 s'.2.2.2.2.2.1 s'.2.2.2.2.2.2/\mget s'.2.1 x=some k/\qkey s'.2.2.2.1 s'.2.2.2.2.2.2 x=none/\
     (∀y J,y ≠ x->mget s'.2.1 y=some J->qkey s'.2.2.2.1 s'.2.2.2.2.2.2 y=none->¬ E9 g y/\Don ms s'.2.1 y J (kj ms))/\Don ms s'.2.1 x k (j+1)/\(sml vs s'.2.1<sml vs P\/(sml vs s'.2.1=sml vs P/\s'.2.2.2.2.2.1.length=kj L)):=fun ad a8 v=>by
    obtain⟨l2,a9,bb⟩:=heur_ok a8 (tgtW m x) F I G O
    have a4:tgtW m x ≠ x:=fun e=>by have:=v k (by rw[e];exact U);unfold pri at this;omega
    obtain⟨M2,L2,E2,u1,u2,u3⟩:=aset_ok b3 (by omega) (tgtW m x) (k+pri m) t1 fun k0 al=>v k0 (b2.q _ _ al)
    have e0:w64 (k+pri m+w64 (4096 * 0))=k+pri m:=by rw[show w64 (4096 * 0)=0 from rfl,Int.add_zero,hw]
    rw[a9]
    simp only[oB,e0,u1]
    have hQ:qkey M2 E2=fun z=>if z=tgtW m x then some (k+pri m) else qkey M1 E1 z:=funext u3
    have a5:=b2.step hg (op:=j) U hm av v
    rw[<- hQ] at a5
    have gx:∀z,z ≠ tgtW m x->mget (mset P1 (tgtW m x) (k+pri m)) z=mget P1 z:=fun z hz=>by rw[w6,if_neg hz]
    refine⟨_,rfl,bb,a5,u2,by dsimp only;rw[gx x (Ne.symm a4)];exact U,by dsimp only;rw[u3,if_neg (Ne.symm a4)];exact b5,fun y J hy hP B=> ?_,next (b7.step v) fun _=>⟨_,by dsimp only;rw[w6,if_pos rfl],jr _⟩,.inl ?_⟩
    ·dsimp only at hP B
     rw[u3] at B
     by_cases e:y=tgtW m x
     ·rw[if_pos e] at B;cases B
     ·rw[if_neg e] at B
      rw[gx y e] at hP
      obtain⟨d1,d2⟩:=b6 y J hy hP B
      exact⟨d1,d2.step v⟩
    ·dsimp only
     have:=sml_lt (y:=tgtW m x) (n:=k+pri m) b2 (hg.cl x (b2.dom x k U).1 m ai av) (by unfold pri;omega) (by unfold pri;omega) v
     omega
   cases ho:mget P1 (tgtW m x) with
   |none=>
    rw[if_neg (by simp),ay]
    simp only[oB]
    rw[if_neg (by simp)]
    exact a3 l1 a2 fun o h=>by rw[ho] at h;cases h
   |some o=>
    rw[if_pos (by simp)]
    simp only[jz]
    by_cases c2:o<=k+pri m
    ·rw[if_pos c2]
     simp only[oB,if_true]
     exact⟨_,rfl,b1,b2,b3,U,b5,b6,next b7 fun _=>⟨o,ho,c2⟩,b8⟩
    ·rw[if_neg c2,ay]
     simp only[oB]
     rw[if_neg (by simp)]
     exact a3 l1 a2 fun o' h=>by rw[ho] at h;cases h;omega
   rw[if_neg c1];exact⟨_,rfl,b1,b2,b3,U,b5,b6,next b7 fun h=>absurd h c1,b8⟩)
 dsimp only at r2 r3 r4 r5 r6 r7 r8 r9
 refine⟨aa,P',p',M',t',L',E',by rw[r1];rfl,⟨r2,r3,r4,fun y J hy hQ=> ?_⟩,r9⟩
 by_cases e:y=x
 ·subst e
  rw[r5] at hy;cases hy
  exact⟨a6,r8⟩
 ·exact r7 y J e hy hQ
theorem abest_ok(hg:Gr vs ms)(hs:s ∈ vs)(F:Int)(I G:Li)(O:List j7):∃kn plan n b,J8 s g F I G O ms []=some (kn,plan,n,b)/\
    ((b=false/\plan=[])\/(b=true/\∃c y,FwC ms s plan c y/\E9 g y/\∀l c' z,FwC ms s l c' z->E9 g z->c<=c')):=by
  have hvl:=hg.vl
  unfold J8
  obtain⟨k1,h1,h2⟩:=heur_ok (l:=[]) (fun x v h=>by simp[mget] at h) s F I G O
  obtain⟨k2,h3,h4⟩:=heur_ok h2 s F I G O
  obtain⟨M0,L0,E0,u1,u2,u3⟩:=aset_ok QO.nil (by simp) s 0 0 (fun k0 h=>by simp[qkey,mget] at h)
  simp only[x8,oB,h1,E8]
  rw[if_neg (by omega)]
  simp only[h3,oB,show w64 (4096 * 0)=0 from rfl,u1]
  have hP:∀x k,mget (mset ([]:MpI) s 0) x=some k->x=s/\k=0:=fun x k h=>by
    rw[w6] at h
    split at h
    · rename_i e;cases h;exact⟨e,rfl⟩
    · simp[mget] at h
  have hQ:∀x,qkey M0 E0 x=if x=s then some 0 else none:=fun x=>by rw[u3];split<;>simp[qkey,mget]
  have ai:AI vs ms s (mset ([]:MpI) s 0) (mset ([]:MpB) s ⟨s,0⟩) (qkey M0 E0):=
    ⟨by rw[w6,if_pos rfl],fun x k h=>by obtain⟨rfl,rfl⟩:=hP x k h;exact⟨hs,jr _⟩,fun x k h=>by obtain⟨rfl,rfl⟩:=hP x k h;exact⟨[],by simp,by simp,by simp⟩,fun x k h=>.inl (hP x k h).1,fun x k h=>by
      rw[hQ] at h
      split at h
      · rename_i e;cases h;rw[w6,if_pos e]
      · cases h⟩
  obtain⟨o,o1,o2⟩:=M9 (body:=L5 s g F I G O ms) (s:=(k2,mset ([]:MpI) s 0,mset ([]:MpB) s ⟨s,0⟩,M0,w64 (0+1),L0,E0,([]:List (Int×Unit))))
    (fun c=>OI vs ms g s c.1 c.2.1 c.2.2.1 c.2.2.2.1 c.2.2.2.2.2.1 c.2.2.2.2.2.2.1)
    (fun o => match o with
      | .inl _=>True
      | .inr r=>r.2.2.2=true/\∃c y,FwC ms s r.2.1 c y/\E9 g y/\∀l c' z,FwC ms s l c' z->E9 g z->c<=c')
    (fun c=>sml vs c.2.1 * 3000+c.2.2.2.2.2.1.length) ⟨h4,ai,u2,fun x k h h'=>by
      obtain⟨rfl,rfl⟩:=hP x k h
      rw[hQ,if_pos rfl] at h';cases h'⟩ (by
      rintro ⟨kn,P,p,M,t0,L,E,X⟩ hO
      dsimp only at hO
      have hlen:=qo_len hO.ai hO.qo
      unfold L5
      simp only[A6,oB]
      by_cases c:0<(kj L:Int)
      · rw[if_pos c]
        obtain⟨M',L',E',x,k,t1,t2,t3,t4,t5,t6⟩:=atake_ok hO.qo (by omega) (by omega) t0
        have hx:=hO.ai.q x k t3
        have hnx:qkey M' E' x=none:=by rw[t4,if_pos rfl]
        have ha:AI vs ms s P p (qkey M' E'):=⟨hO.ai.s0,hO.ai.dom,hO.ai.wk,hO.ai.back,fun z kz hz=>by
          rw[t4] at hz
          split at hz
          · cases hz
          · exact hO.ai.q z kz hz⟩
        simp only[t1,oB,G7,B6]
        by_cases cg:Go.bits .and .u32 x g=g
        · rw[if_pos cg]
          have hk:=hO.ai.le hg hx
          obtain⟨l,l1,_,r,l3,l4⟩:=hO.ai.path hg k.toNat hx (jt _) [] (by simp;omega)
          unfold T3
          rw[l1]
          simp only[oB,jQ]
          refine .inr ⟨_,rfl,rfl,r,x,l4,cg,fun l' c' z hw hz=> ?_⟩
          rcases hO.ai.way hg (fun y ky hy hQ=>(hO.dn y ky hy hQ).2) hw with⟨ky,y1,_,y3⟩|⟨z',kz,z1,z2⟩
          · exact absurd hz (hO.dn z ky y1 y3).1
          · have:=t6 z' kz z1;omega
        · rw[if_neg cg]
          obtain⟨kn',P',p',M2,t2',L2,E2,v1,v2,v3⟩:=steps_ok (q:=(k,true)) (time:=t0) hg F I G O hO.k0 ha t2 hx hnx cg fun y ky hy hP hQ=>by
            rw[t4,if_neg hy] at hQ
            exact hO.dn y ky hP hQ
          rw[v1]
          have hl2:=qo_len v2.ai v2.qo
          refine .inl ⟨_,rfl,v2,?_⟩
          dsimp only
          rcases v3 with v3|⟨v3,v4⟩
          · have:sml vs P' * 3000+3000<=sml vs P * 3000:=by omega
            omega
          · rw[v3];omega
      · rw[if_neg c]
        exact .inr ⟨_,rfl,Y⟩)
  rw[o1]
  rcases o with⟨a,b⟩|⟨a,b,n,d⟩
  · exact⟨_,_,_,_,rfl,.inl ⟨rfl,rfl⟩⟩
  · exact⟨_,_,_,_,rfl,.inr o2⟩
end
def pcost_snoc{t:i4}{op:Int}:∀{l:Li},J5 t (l++[op])=J5 t l+(opAt t op).cost
 |[]=>by simp[J5]
 |x::l=>by rw[kd,J5,pcost_snoc,J5];omega
def fwc_plan{t:i4}(ht:s6 t){l:Li}{c y:Int}(h:FwC (mks t) (wd t.init) l c y):Val t l/\(∃e,Rt t e/\ends t t.init l=some e/\y=wd e)/\c=J5 t l * 4096+(kj l:Int):=by
 induction h with
 |nil=>exact⟨by simp[Val],⟨t.init,.init,rfl,rfl⟩,by simp[J5]⟩
 |@snoc l k y op m hw hm hc ih=>
  obtain⟨v,⟨e,e1,e2,rfl⟩,e3⟩:=ih
  obtain⟨h0,h1,_⟩:=u6 hm
  have h1:op<kj t.operators:=by simpa[mks] using h1
  rw[mks_ix h0 h1] at hm
  cases hm
  have hs:=e1.setN ht
  have hcan:=(ar2 ht hs h0 h1).1 hc
  refine⟨fun x hx=> ?_,⟨aft t e op,e1.step h0 h1 hcan,?_,tgtW_eq ht hs h0 h1⟩,?_⟩
  ·rcases jm.1 hx with hx|hx
   ·exact v x hx
   ·rw[jl] at hx;subst hx;exact⟨h0,h1⟩
  ·rw[aw6,e2]
   simp only[oB,ends]
   rw[if_pos (o9 hcan)]
  ·rw[pcost_snoc,jp,ju,e3]
   unfold pri mkOf
   push_cast
   omega
def aplan_spec(t:i4):∃r,ad8 t=some r/\(r.2.2.2.2.1=0->r.1=true->s6 t/\Few t/\Val t r.2.1/\works t t.init r.2.1/\∀q,Val t q->works t t.init q->J5 t r.2.1<=J5 t q):=by unfold ad8;rw[show S8 0=some true by simp[S8]];simp only[oB];unfold ab9;rcases aA0 t with⟨h,f,h1,h2,E⟩|⟨h,h1,h2⟩|⟨ht,h1,vs,v1,F,u,h2⟩;rw[E];simp only[oB];rw[if_neg (by simp)];simp only[oB];rw[if_pos (by simp[h2])];exact⟨_,rfl,fun q=>absurd q h2⟩;rw[h2];simp only[oB];rw[if_neg (by simp)];simp only[oB];rw[if_pos (by simp)];exact⟨_,rfl,fun q=>by simp at q⟩;rw[h2];simp only[oB];rw[if_neg (by simp)];simp only[oB];rw[if_neg (by simp)];simp only[W5,oB];have v:=words_of ht F u;have hi:wd t.init ∈ vs:=(u _).2 ⟨_,.init,rfl⟩;obtain⟨kn,plan,n,b,b1,b2⟩:=abest_ok (g:=wd t.goal) v hi t.facts t.init t.goal t.operators;rw[b1];simp only[oB];unfold ak9;rcases b2 with⟨rfl,rfl⟩|⟨rfl,c,y,J,N,O⟩;rw[if_neg (by simp)];exact⟨_,rfl,fun _ h=>by cases h⟩;by_cases cl:(60:Int)<(kj plan:Int);rw[if_pos cl];exact⟨_,rfl,fun q=>by simp at q⟩;rw[if_neg cl];obtain⟨B,⟨e,U,e2,rfl⟩,e3⟩:=fwc_plan ht J;obtain⟨r,r1,_⟩:=F2 (body:=ac0 t plan) (n:=(kj plan:Int)) (s:=0) (fun _ _=>True) (by omega) trivial (fun j s j0 j1 _=>by obtain⟨x,hx,_⟩:=n5 j0 j1;have:=B x (y5 hx);unfold ac0;rw[hx];simp only[oB,ix_op this.1 this.2];exact⟨_,rfl,Y⟩);rw[r1];refine⟨_,rfl,fun _ _=>⟨ht,h1,B,⟨e,e2,(ay0 (U.setN ht) ht.goal ht.n1).1 N⟩,fun q q1 q2=> ?_⟩⟩;obtain⟨m,k',m1,m2,m3⟩:=few_steps v (pth_of ht u .init q1 q2);obtain⟨l',z,z1,z2⟩:=hop_fw m3 (FwC.nil (ms:=mks t) (s:=wd t.init));have:=O _ _ _ z1 z2;dsimp only;omega
end Ab
end
section
namespace Ab
open Go
end Ab
end
section
namespace Ab
open Go
section
variable {t:i4}{op:Int}
/-! ### Without the operator -/
def few_many(hf:Few t):¬ Many t:=by rintro ⟨m,c,j,e⟩;obtain⟨l,q,u,h⟩:=hf;have:=U6 c (S:=l) fun s hs=>(h s).2 (e s hs);omega
end
end Ab
end
section
namespace Ab
open Go
def LC(t:i4)(P:Li->Prop)(k:Int):Prop:=(∀p,P p->k<=J5 t p)/\0<=k/\((k=1000000000/\∀p,¬ P p)\/(k<1000000000/\∃p,P p/\J5 t p=k))
def Sol(t:i4)(s p:Li):Prop:=Val t p/\works t s p
def LC.eq{t:i4}{P:Li->Prop}{k u:Int}(h:LC t P k)(v:LC t P u):k=u:=by obtain⟨a1,B,j⟩:=h;obtain⟨b1,b2,b3⟩:=v;rcases j with⟨j,e⟩|⟨j,p,e,E⟩;rcases b3 with⟨b3,c⟩|⟨b3,q,c,z⟩;omega;exact absurd c (e q);rcases b3 with⟨b3,c⟩|⟨b3,q,c,z⟩;exact absurd e (c p);have:=a1 q c;have:=b1 p e;omega
def LC.fin{t:i4}{P:Li->Prop}{k:Int}(h:LC t P k):k<1000000000↔∃p,P p:=by obtain⟨a1,j,⟨e,c⟩|⟨e,p,c,q⟩⟩:=h;exact⟨fun g=>by omega,fun⟨p,hp⟩=>absurd hp (c p)⟩;exact⟨fun _=>⟨p,c⟩,fun _=>e⟩
def LC.le{t:i4}{P:Li->Prop}{k:Int}(h:LC t P k):k<=1000000000:=by
 obtain⟨a1,j,⟨c,e⟩|⟨c,p,e,q⟩⟩:=h<;>omega
def OptR.lc{t:i4}{r:Int×TFault}(h:OptR t r)(e:r.2.code=0):LC t (Sol t t.init) r.1:=by
 cases h with
 |bad _ _ c=>exact absurd e c
 |many=>simp at e
 |none h hf j=>exact⟨fun p hp=>absurd hp.2 (j p hp.1),by simp,.inl ⟨rfl,fun p hp=>j p hp.1 hp.2⟩⟩
 |some h hf q h1 u v hk hl=>exact⟨fun p hp=>hl p hp.1 hp.2,q,.inr ⟨by simp only;omega,_,⟨u,v⟩,hk⟩⟩
section
variable {t:i4}{op:Int}
end
end Ab
end
section
namespace Ab
open Go
inductive Ex(t:i4)(g:Li):Li->Li->Int->Prop
 |goal {s:Li} (h:∀x ∈ g,x ∈ s):Ex t g [] s 0
 |step {o s:Li} {op c:Int} (h0:0<=op) (h1:op<kj t.operators) (hc:can t s op) (h:Ex t g o (aft t s op) c):Ex t g o s (c+(opAt t op).cost)
 |obs {o s:Li} {op c:Int} (h0:0<=op) (h1:op<kj t.operators) (hc:can t s op) (h:Ex t g o (aft t s op) c):Ex t g (op::o) s (c+(opAt t op).cost)
inductive Rc(t:i4)(ob:Li):Li->Nat->Int->Prop
 |init:Rc t ob t.init 0 0
 |step {s:Li} {k:Nat} {op c:Int} (h:Rc t ob s k c) (h0:0<=op) (h1:op<kj t.operators) (hc:can t s op):Rc t ob (aft t s op) k (c+(opAt t op).cost)
 |obs {s:Li} {k:Nat} {op c:Int} (h:Rc t ob s k c) (h0:0<=op) (h1:op<kj t.operators) (hc:can t s op) (ho:ob[k]? =some op):Rc t ob (aft t s op) (k+1) (c+(opAt t op).cost)
section
variable {t:i4}{g ob:Li}
def Rc.rt{s:Li}{k:Nat}{c:Int}(h:Rc t ob s k c):Rt t s:=by
 induction h with
 |init=>exact .init
 |step _ e h1 j q=>exact q.step e h1 j
 |obs _ e h1 j _ q=>exact q.step e h1 j
def Rc.le{s:Li}{k:Nat}{c:Int}(h:Rc t ob s k c):k<=kj ob:=by
 induction h with
 |init=>exact Nat.zero_le _
 |step _ _ _ _ e=>exact e
 |obs _ _ _ _ ho e=>have:=(lG.1 ho).1;omega
def Rc.nonneg(ht:s6 t){s:Li}{k:Nat}{c:Int}(h:Rc t ob s k c):0<=c:=by
 induction h with
 |init=>exact jr 0
 |step _ e h1 _ j=>have:=(ah2 ht e h1).2.1;omega
 |obs _ e h1 _ _ j=>have:=(ah2 ht e h1).2.1;omega
def Rc.ex{s:Li}{k:Nat}{c:Int}(h:Rc t ob s k c):∀{c':Int},Ex t g (ob.drop k) s c'->Ex t g ob t.init (c+c'):=by
 induction h with
 |init=>intro c' h;simpa using h
 |@step s k op c _ j h1 q u=>
  intro c' h
  have:=u (.step j h1 q h)
  rwa [show c+(opAt t op).cost+c'=c+(c'+(opAt t op).cost) by omega]
 |@obs s k op c _ j h1 q ho u=>
  intro c' h
  obtain⟨hl,e⟩:=lG.1 ho
  have hd:ob.drop k=op::ob.drop (k+1):=by rw[jZ hl,e]
  have:=u (c':=c'+(opAt t op).cost) (by rw[hd];exact .obs j h1 q h)
  rwa [show c+(opAt t op).cost+c'=c+(c'+(opAt t op).cost) by omega]
def Ex.rc{o s:Li}{c:Int}(h:Ex t g o s c):∀{k:Nat} {j:Int},Rc t ob s k j->o=ob.drop k->∃e,Rc t ob e (kj ob) (j+c)/\∀x ∈ g,x ∈ e:=by
 induction h with
 |goal h=>
  intro k j hr e
  have hk:=hr.le
  have:k=kj ob:=by have:=congrArg kj e;simp at this;omega
  subst this
  exact⟨_,by simpa using hr,h⟩
 |@step o s op c q h1 u _ v=>
  intro k j hr e
  obtain⟨e',h2,z⟩:=v (hr.step q h1 u) e
  exact⟨e',by rwa [show j+(c+(opAt t op).cost)=j+(opAt t op).cost+c by omega],z⟩
 |@obs o s op c q h1 u _ v=>
  intro k j hr e
  have hk:k<kj ob:=by rcases Nat.lt_or_ge k (kj ob) with h|h;exact h;rw[List.drop_eq_nil_of_le h] at e;cases e
  rw[jZ hk] at e
  simp only[List.cons.injEq] at e
  obtain⟨e',h2,z⟩:=v (hr.obs q h1 u (lG.2 ⟨hk,e.1.symm⟩)) e.2
  exact⟨e',by rwa [show j+(c+(opAt t op).cost)=j+(opAt t op).cost+c by omega],z⟩
def Ex.nil{o s:Li}{c:Int}(h:Ex t g o s c):Ex t g [] s c:=by
 induction h with
 |goal h=>exact .goal h
 |step e h1 j _ q=>exact .step e h1 j q
 |obs e h1 j _ q=>exact .step e h1 j q
def Ex.plan{o s:Li}{c:Int}(h:Ex t g o s c):∃p,Val t p/\(∃e,ends t s p=some e/\∀x ∈ g,x ∈ e)/\J5 t p=c:=by
 induction h with
 |@goal s h=>exact⟨[],by simp[Val],⟨s,rfl,h⟩,rfl⟩
 |@step o s op c j h1 q _ u=>
  obtain⟨p,v,⟨e,z,B⟩,E⟩:=u
  refine⟨op::p,fun y hy=> ?_,⟨e,?_,B⟩,by simp[J5,E]⟩
  ·rcases jq.1 hy with rfl|hy
   ·exact⟨j,h1⟩
   ·exact v y hy
  ·simp only[ends];rw[if_pos (o9 q)];exact z
 |@obs o s op c j h1 q _ u=>
  obtain⟨p,v,⟨e,z,B⟩,E⟩:=u
  refine⟨op::p,fun y hy=> ?_,⟨e,?_,B⟩,by simp[J5,E]⟩
  ·rcases jq.1 hy with rfl|hy
   ·exact⟨j,h1⟩
   ·exact v y hy
  ·simp only[ends];rw[if_pos (o9 q)];exact z
def Ex.of:∀{a o b s e:Li},Val t (a++(o++b))->ends t s (a++(o++b))=some e->(∀x ∈ g,x ∈ e)->Ex t g o s (J5 t (a++(o++b)))
 |[],[],[],s,e,_,c,j=>by simp only[jA,ends,Option.some.injEq] at c;subst c;exact .goal j
 |[],[],op::b,s,e,h,c,j=>by simp only[jQ,ends] at c ⊢;have ho:=h op (by simp);split at c;rename_i q;exact .step ho.1 ho.2 (q8.1 q) (Ex.of (a:=[]) (o:=[]) (b:=b) (fun x hx=>h x (by simp at hx ⊢;exact .inr hx)) (by simpa using c) j);cases c
 |[],op::o,b,s,e,h,c,j=>by simp only[jQ,kd,ends] at c ⊢;have ho:=h op (by simp);split at c;rename_i q;exact .obs ho.1 ho.2 (q8.1 q) (Ex.of (a:=[]) (o:=o) (b:=b) (fun x hx=>h x (by simp at hx ⊢;exact .inr hx)) (by simpa using c) j);cases c
 |op::a,o,b,s,e,h,c,j=>by simp only[kd,ends] at c ⊢;have ho:=h op (by simp);split at c;rename_i q;exact .step ho.1 ho.2 (q8.1 q) (Ex.of (a:=a) (o:=o) (b:=b) (fun x hx=>h x (by simp at hx ⊢;exact .inr hx)) c j);cases c
def EC(t:i4)(g ob:Li)(k:Int):Prop:=(∀c,Ex t g ob t.init c->k<=c)/\0<=k/\((k=1000000000/\∀c,¬ Ex t g ob t.init c)\/(k<1000000000/\Ex t g ob t.init k))
def EC.le{k:Int}(h:EC t g ob k):k<=1000000000:=by
 obtain⟨a1,j,⟨c,e⟩|⟨c,e⟩⟩:=h<;>omega
def EC.mono{j e:Li}{k q:Int}(h:EC t g ob k)(v:EC t j e q)(z:∀c,Ex t j e t.init c->Ex t g ob t.init c):k<=q:=by obtain⟨b1,_,⟨b3,u⟩|⟨b3,u⟩⟩:=v;have:=h.le;omega;exact h.1 _ (z _ u)
def EC.lc{k:Int}(h:EC t t.goal [] k):LC t (Sol t t.init) k:=by have to:∀p,Sol t t.init p->Ex t t.goal [] t.init (J5 t p):=fun p ⟨u,e,v,z⟩=>Ex.of (a:=[]) (o:=[]) (b:=p) u v z;obtain⟨a1,q,⟨c,j⟩|⟨c,j⟩⟩:=h;exact⟨fun p hp=>a1 _ (to p hp),q,.inl ⟨c,fun p hp=>j _ (to p hp)⟩⟩;obtain⟨p,B,E,F⟩:=j.plan;exact⟨fun p hp=>a1 _ (to p hp),q,.inr ⟨c,p,⟨B,E⟩,F⟩⟩
/-! ### The search -/
abbrev Tr:=Li×Nat×Int
def Nx(t:i4)(ob:Li)(x y:Tr):Prop:=∃op:Int,0<=op/\op<kj t.operators/\can t x.1 op/\y.1=aft t x.1 op/\y.2.2=x.2.2+(opAt t op).cost/\(y.2.1=x.2.1\/ob[x.2.1]? =some op/\y.2.1=x.2.1+1)
def Cov(H D:Tr->Prop)(y:Tr):Prop:=(∃c,D (y.1,y.2.1,c)/\c<=y.2.2)\/∃c,H (y.1,y.2.1,c)/\c<=y.2.2
structure Dj(t:i4)(ob:Li)(H D:Tr->Prop)(B:Int):Prop where
 hr:∀x,H x->Rc t ob x.1 x.2.1 x.2.2/\B<=x.2.2
 dr:∀x,D x->Rc t ob x.1 x.2.1 x.2.2/\x.2.2<=B
 opt:∀x,D x->∀c,Rc t ob x.1 x.2.1 c->x.2.2<=c
 ini:Cov H D (t.init,0,0)
 nx:∀x y,D x->Nx t ob x y->Cov H D y
def Dj.front{H D:Tr->Prop}{B:Int}(ht:s6 t)(h:Dj t ob H D B){s:Li}{k:Nat}{c:Int}(hr:Rc t ob s k c):(∃d,D (s,k,d)/\d<=c)\/∃x,H x/\x.2.2<=c:=by
 have step:∀{s:Li} {k:Nat} {c op:Int} {u:Nat},0<=op->op<kj t.operators->can t s op->(u=k\/ob[k]? =some op/\u=k+1)->((∃d,D (s,k,d)/\d<=c)\/∃x,H x/\x.2.2<=c)->(∃d,D (aft t s op,u,d)/\d<=c+(opAt t op).cost)\/∃x,H x/\x.2.2<=c+(opAt t op).cost:=by intro s k c op u q h1 v hk z;have E:=(ah2 ht q h1).2.1;rcases z with⟨d,d1,d2⟩|⟨x,F,J⟩;rcases h.nx _ (aft t s op,u,d+(opAt t op).cost) d1 ⟨op,q,h1,v,rfl,rfl,hk⟩ with⟨c',e,j⟩|⟨c',e,j⟩;exact .inl ⟨c',e,by simp only at j;omega⟩;exact .inr ⟨_,e,by simp only at j ⊢;omega⟩;exact .inr ⟨x,F,by omega⟩
 induction hr with
 |init=>
  rcases h.ini with⟨c',e,j⟩|⟨c',e,j⟩
  ·exact .inl ⟨c',e,j⟩
  ·exact .inr ⟨_,e,j⟩
 |step _ q h1 v z=>exact step q h1 v (.inl rfl) z
 |obs _ q h1 v ho z=>exact step q h1 v (.inr ⟨ho,rfl⟩) z
def Dj.again{H H' D:Tr->Prop}{B:Int}(h:Dj t ob H D B){x:Tr}(u:∀y,H y↔y=x\/H' y)(z:∀y,H y->x.2.2<=y.2.2){d:Int}(hx:D (x.1,x.2.1,d)):Dj t ob H' D x.2.2:=by
 have j:=(u x).2 (.inl rfl);have hd:=h.opt _ hx _ (h.hr x j).1;have q:∀y,Cov H D y->Cov H' D y:=fun y hy=>by rcases hy with⟨c,c1,v⟩|⟨c,c1,v⟩;exact .inl ⟨c,c1,v⟩;rcases(u _).1 c1 with e|c1;subst e;exact .inl ⟨d,hx,by simp only at hd;omega⟩;exact .inr ⟨c,c1,v⟩
 exact⟨fun y hy=>⟨(h.hr y ((u y).2 (.inr hy))).1,z y ((u y).2 (.inr hy))⟩,fun y hy=>⟨(h.dr y hy).1,by have:=(h.dr y hy).2;have:=(h.hr x j).2;omega⟩,h.opt,q _ h.ini,fun a b E F=>q _ (h.nx a b E F)⟩
def Dj.next{H H' D:Tr->Prop}{B:Int}(ht:s6 t)(h:Dj t ob H D B){x:Tr}(hH:∀y,H y->y=x\/H' y)(F:∀y,H' y->H y\/Nx t ob x y)(J:∀y,Nx t ob x y->H' y)(hx:H x)(U:∀y,H y->x.2.2<=y.2.2)(hn:∀d,¬ D (x.1,x.2.1,d)):
  Dj t ob H' (fun y=>y=x\/D y) x.2.2:=by
 have j:=(h.hr x hx)
 have q:∀y,Cov H D y->Cov H' (fun y=>y=x\/D y) y:=fun y hy=>by rcases hy with⟨c,c1,E⟩|⟨c,c1,E⟩;exact .inl ⟨c,.inr c1,E⟩;rcases hH _ c1 with e|c1;exact .inl ⟨c,.inl e,E⟩;exact .inr ⟨c,c1,E⟩
 refine⟨fun y hy=> ?_,fun y hy=> ?_,fun y hy c u=> ?_,q _ h.ini,fun a b N hb=> ?_⟩
 ·rcases F y hy with hy|⟨op,O,h1,u,e1,e2,v⟩
  ·exact⟨(h.hr y hy).1,U y hy⟩
  ·have aa:=(ah2 ht O h1).2.1
   refine⟨?_,by omega⟩
   rw[e1,e2]
   rcases v with v|⟨v,e4⟩
   ·rw[v];exact j.1.step O h1 u
   ·rw[e4];exact j.1.obs O h1 u v
 ·rcases hy with rfl|hy
  ·exact⟨j.1,jr _⟩
  ·exact⟨(h.dr y hy).1,by have:=(h.dr y hy).2;omega⟩
 ·rcases hy with rfl|hy
  ·rcases h.front ht u with⟨d,d1,_⟩|⟨z,z1,z2⟩
   ·exact absurd d1 (hn d)
   ·have:=U z z1;omega
  ·exact h.opt y hy c u
 ·rcases N with rfl|N
  ·exact .inr ⟨b.2.2,J b hb,jr _⟩
  ·exact q b (h.nx a b N hb)
def Dj.start:Dj t ob (fun y=>y=(t.init,0,0)) (fun _=>False) 0:=
 ⟨fun x hx=>by subst hx;exact⟨.init,jr 0⟩,fun x hx=>hx.elim,fun x hx=>hx.elim,.inr ⟨0,rfl,jr 0⟩,fun x y hx=>hx.elim⟩
def Got(ob g:Li)(D:Tr->Prop)(k:Int):Prop:=(k=1000000000/\∀x,D x->x.2.1=kj ob->¬ ∀y ∈ g,y ∈ x.1)\/(k<1000000000/\∃x,D x/\x.2.1=kj ob/\(∀y ∈ g,y ∈ x.1)/\x.2.2=k/\∀z,D z->z.2.1=kj ob->(∀y ∈ g,y ∈ z.1)->k<=z.2.2)
def Got.ec{H D:Tr->Prop}{B k:Int}(ht:s6 t)(h:Dj t ob H D B)(J:∀x,¬ H x)(N:Got ob g D k):EC t g ob k:=by
 have all:∀c,Ex t g ob t.init c->∃z,D z/\z.2.1=kj ob/\(∀y ∈ g,y ∈ z.1)/\z.2.2<=c:=fun c j=>by obtain⟨e,h1,h2⟩:=j.rc (ob:=ob) .init (by simp);rcases h.front ht h1 with⟨d,d1,d2⟩|⟨x,q,_⟩;exact⟨_,d1,rfl,h2,by simpa using d2⟩;exact absurd q (J x)
 rcases N with⟨rfl,O⟩|⟨hk,x,q,U,x3,rfl,x4⟩;have F:∀c,¬ Ex t g ob t.init c:=fun c j=>by obtain⟨z,u,v,E,_⟩:=all c j;exact O z u v E
 exact⟨fun c j=>absurd j (F c),by omega,.inl ⟨rfl,F⟩⟩;refine⟨fun c j=> ?_,(h.dr x q).1.nonneg ht,.inr ⟨hk,?_⟩⟩;obtain⟨z,u,v,E,z4⟩:=all c j;have:=x4 z u v E;omega;have:=(h.dr x q).1.ex (g:=g) (c':=0) (by rw[U,List.drop_length];exact .goal x3);simpa using this
end
end Ab
end
section
namespace Ab
open Go
abbrev Nd:=h9
def nlt(a b:Nd):Prop:=a.cost<b.cost\/a.cost=b.cost/\a.sequence<b.sequence
def nle(a b:Nd):Prop:=¬ nlt b a
def ay9(a:Nd):nle a a:=by unfold nle nlt;omega
def nle_trans(a b c:Nd)(h:nle a b)(k:nle b c):nle a c:=by unfold nle nlt at *;omega
def nle_of{a b:Nd}(h:nlt a b):nle a b:=by unfold nle nlt at *;omega
def nle_cost{a b:Nd}(h:nle a b):a.cost<=b.cost:=by unfold nle nlt at h;omega
def nd0:Nd:=⟨[],0,0,0⟩
abbrev gN(l:List Nd):Nat->Nd:=gt l nd0
def HpN(l:List Nd):Prop:=HpO nle (gN l) (kj l)
def nless_eq{l:List Nd}{i k:Int}{x y:Nd}(hi:ix l i=some x)(hk:ix l k=some y):x9 i k l=some (dec (nlt x y)):=by unfold x9;simp only[hi,hk,oB];by_cases c1:x.cost<y.cost;rw[if_pos c1,o9 (.inl c1)];rfl;rw[if_neg c1];by_cases c:x.cost=y.cost;rw[if_pos c];simp only[oB];rw[ap9];exact congrArg some (W6 ⟨fun h=>.inr ⟨c,h⟩,fun h=>by unfold nlt at h;omega⟩);rw[if_neg c,A5 (by unfold nlt;omega)];rfl
def nswap_eq{l:List Nd}{i k:Int}{x y:Nd}(hi:ix l i=some x)(hk:ix l k=some y):A0 i k l=some (swp l i.toNat k.toNat x y):=by obtain⟨c,e,_⟩:=u6 hi;obtain⟨k0,k1,_⟩:=u6 hk;obtain⟨z,hz,_⟩:=n5 (l:=l.set i.toNat y) k0 (by simpa using k1);unfold A0;simp only[hi,hk,hz,oB];rfl
def gN_ix{l:List Nd}{i:Int}{x:Nd}(h:ix l i=some x):gN l i.toNat=x:=gt_of (u6 h).2.2
def nup_ok{l:List Nd}{j:Int}(hj:0<=j)(B:j<kj l)(hu:UpI nle (gN l) (kj l) j.toNat)(hb:kj l<=1000000000):
  ∃l',J6 j l=some l'/\HpN l'/\l'.Perm l:=by
 unfold J6
 obtain⟨o,o1,o2,o3⟩:=M9 (body:=L8) (s:=(l,j))
  (fun s=>s.1.Perm l/\0<=s.2/\s.2<s.1.length/\UpI nle (gN s.1) s.1.length s.2.toNat) (fun o=>HpN o/\o.Perm l) (fun s=>s.2.toNat)
  ⟨.refl _,hj,B,hu⟩ (by
   rintro ⟨c,j⟩ ⟨h,E,F,u⟩;simp only at h E F u;have hl:=h.length_eq;unfold L8;have e1:w64 (j - 1)=j - 1:=u9 (by omega) (by omega);have e3:(j - 1).tdiv 2=if j=0 then 0 else(j - 1) / 2:=by split;rename_i q;subst q;rfl;rw[Int.tdiv_eq_ediv_of_nonneg (by omega)]
   have e2:w64 ((j - 1).tdiv 2)=if j=0 then 0 else(j - 1) / 2:=by rw[e3];split;rfl;exact u9 (by omega) (by omega)
   simp only[e1,e2,chkN,show((2:Int)=0)=False by simp,if_false,oB];by_cases J:j=0;subst J;rw[if_pos (by simp)];exact .inr ⟨_,rfl,up_done u (.inl rfl),h⟩;simp only[if_neg J];rw[if_neg (by omega)];obtain⟨x,hx,_⟩:=n5 (l:=c) E F;obtain⟨y,hy,_⟩:=n5 (l:=c) (i:=(j - 1) / 2) (by omega) (by omega);have e:((j - 1) / 2).toNat=(j.toNat - 1) / 2:=by omega
   have N:=gN_ix hx;have O:=gN_ix hy;rw[nless_eq hx hy];by_cases v:nlt x y;try simp only[z]
   simp only[o9 v,oB,Bool.not_true,jw,if_false,nswap_eq hy hx,N8,al8,if_true];have U:=(u6 hy).2.2;have i2:=(u6 hx).2.2;refine .inl ⟨_,rfl,⟨(swp_perm U i2).trans h,by simp only;omega,by simp only[al8];omega,?_⟩,by simp only;omega⟩;simp only[al8];have:=up_step (le:=nle) nle_trans (a:=gN c) (n:=kj c) (j:=j.toNat) (by omega) u (by omega) (by rw[<- e,N,O];exact nle_of v);rw[<- e] at this;rw[show gN (swp c ((j - 1) / 2).toNat j.toNat y x)=sw (gN c) ((j - 1) / 2).toNat j.toNat from gt_swp U i2];exact this;simp only[A5 v,oB,Bool.not_false,if_true];exact .inr ⟨_,rfl,up_done u (.inr (by rw[<- e,N,O];exact v)),h⟩)
 exact⟨o,by rw[o1];rfl,o2,o3⟩
def npush_ok{l:List Nd}(h:HpN l)(x:Nd)(v:kj l<=10000000):∃l',D0 x l=some l'/\HpN l'/\l'.Perm (x::l):=by
 have c:app 48 l [x]=some (l++[x]):=by unfold app;rw[if_pos (by simp;omega)]
 have e:w64 (((l++[x]).length:Int) - 1)=(kj l:Int):=by rw[show(((l++[x]).length:Int) - 1)=(kj l:Int) by simp];exact u9 (by omega) (by omega)
 obtain⟨l',k1,q,u⟩:=nup_ok (l:=l++[x]) (j:=kj l) (by omega) (by simp;omega) (by rw[jG,jp,ju];refine hp_push (a:=gN l) h fun k hk=> ?_;unfold gN gt;rw[kc hk]) (by simp;omega);refine⟨l',?_,q,u.trans (jU _ _)⟩;unfold D0 I3 C1;simp only[c,oB,e,k1]
def ndown_ok{l:List Nd}{nv:Nat}(hn:nv<kj l)(hd:DnI nle (gN l) nv 0)(v:kj l<=1000000000):
  ∃l' b,G9 0 (nv:Int) l=some (l',b)/\HpO nle (gN l') nv/\l'.Perm l/\gN l' nv=gN l nv:=by
 unfold G9
 obtain⟨o,o1,o2,o3,o4⟩:=M9 (body:=I4 (nv:Int)) (s:=(l,(0:Int)))
  (fun s=>s.1.Perm l/\0<=s.2/\s.2<kj l/\DnI nle (gN s.1) nv s.2.toNat/\gN s.1 nv=gN l nv/\(s.2=0\/s.2<nv)) (fun o=>HpO nle (gN o.1) nv/\o.1.Perm l/\gN o.1 nv=gN l nv) (fun s=>(nv:Nat)+1 - s.2.toNat)
  ⟨.refl _,by simp,by simp;omega,hd,rfl,.inl rfl⟩ (by
   rintro ⟨c,i⟩ ⟨h,p2,p3,z,B,p6⟩;simp only at h p2 p3 z B p6;have hl:=h.length_eq;unfold I4;have e1:w64 (w64 (2 * i)+1)=2 * i+1:=by rw[u9 (n:=2 * i) (by omega) (by omega),u9 (by omega) (by omega)]
   simp only[e1];by_cases c1:(nv:Int)<=2 * i+1;rw[if_pos (by simp[c1])];exact .inr ⟨_,rfl,dn_done z fun k k0 k1 e=>by omega,h,B⟩;rw[if_neg (by simp;omega)];have e2:w64 (2 * i+1+1)=2 * i+2:=by rw[u9 (by omega) (by omega)];omega
   simp only[e2];obtain⟨x,hx,_⟩:=n5 (l:=c) p2 (by omega);have gx:=gN_ix hx;obtain⟨j,y,j1,hy,j2,j3,j4,j5⟩:∃j y,(js (if 2 * i+2<(nv:Int) then js (x9 (2 * i+2) (2 * i+1) c) fun O=>some O else some false) fun t63=>if t63=true then some (2 * i+2) else some (2 * i+1))=some j/\ix c j=some y/\i<j/\j<nv/\(j - 1) / 2=i/\∀k,0<k->k<nv->(k - 1) / 2=i.toNat->nle y (gN c k):=by
    obtain⟨a,E,_⟩:=n5 (l:=c) (i:=2 * i+1) (by omega) (by omega);have U:=gN_ix E;by_cases c2:2 * i+2<(nv:Int);obtain⟨b,v,_⟩:=n5 (l:=c) (i:=2 * i+2) (by omega) (by omega);have gb:=gN_ix v;rw[if_pos c2,nless_eq v E];have q:∀k,0<k->k<nv->(k - 1) / 2=i.toNat->k=(2 * i+1).toNat\/k=(2 * i+2).toNat:=fun k _ _ _=>by omega
    by_cases F:nlt b a;rw[o9 F];refine⟨2 * i+2,b,rfl,v,by omega,c2,by omega,fun k k0 k1 e=> ?_⟩;rcases q k k0 k1 e with rfl|rfl;rw[U];exact nle_of F;rw[gb];exact ay9 _;rw[A5 F];refine⟨2 * i+1,a,rfl,E,by omega,by omega,by omega,fun k k0 k1 e=> ?_⟩;rcases q k k0 k1 e with rfl|rfl;rw[U];exact ay9 _;rw[gb];exact F;rw[if_neg c2];refine⟨2 * i+1,a,rfl,E,by omega,by omega,by omega,fun k k0 k1 e=> ?_⟩;have:k=(2 * i+1).toNat:=by omega
    subst this;rw[U];exact ay9 _
   rw[j1,Option.bind_some];try rw[J]
   rw[nless_eq hy hx];simp only[oB];by_cases N:nlt y x;simp only[o9 N,Bool.not_true,jw,if_false,nswap_eq hx hy,oB,N8,al8,if_true];have i1:=(u6 hx).2.2;have i2:=(u6 hy).2.2;have u:gN (swp c i.toNat j.toNat x y)=sw (gN c) i.toNat j.toNat:=gt_swp i1 i2;refine .inl ⟨_,rfl,⟨(swp_perm i1 i2).trans h,by simp only;omega,by simp only;omega,?_,?_,.inr j3⟩,by simp only;omega⟩;simp only[u];exact dn_step z (by omega) (by omega) (by omega) (fun k k0 k1 e=>by rw[gN_ix hy];exact j5 k k0 k1 e) (by rw[gN_ix hy,gx];exact nle_of N);simp only[u];rw[sw_o (by omega) (by omega)];exact B;simp only[A5 N,Bool.not_false,if_true];refine .inr ⟨_,rfl,dn_done z fun k k0 k1 e=> ?_,h,B⟩;rw[gx];exact nle_trans _ _ _ N (j5 k k0 k1 e))
 exact⟨o.1,_,by rw[o1];rfl,o2,o3,o4⟩
def npop_ok{l:List Nd}(h:HpN l)(hl:0<kj l)(hb:kj l<=1000000000):∃l' x,H6 l=some (l',x)/\HpN l'/\l.Perm (x::l')/\∀y ∈ l,nle x y:=by
 have e1:w64 ((kj l:Int) - 1)=(kj l:Int) - 1:=u9 (by omega) (by omega);obtain⟨x,hx,_⟩:=n5 (l:=l) (i:=0) (by omega) (by omega);obtain⟨y,hy,_⟩:=n5 (l:=l) (i:=(kj l:Int) - 1) (by omega) (by omega);have U:=gN_ix hx;have j:((kj l:Int) - 1).toNat=kj l - 1:=by omega
 have i1:=(u6 hx).2.2;have i2:=(u6 hy).2.2;have F:gN (swp l (0:Int).toNat ((kj l:Int) - 1).toNat x y)=sw (gN l) 0 (kj l - 1):=by rw[<- j];exact gt_swp i1 i2
 obtain⟨u,b,d1,d2,d3,d4⟩:=ndown_ok (l:=swp l (0:Int).toNat ((kj l:Int) - 1).toNat x y) (nv:=kj l - 1) (by rw[al8];omega) (by rw[F];exact hp_pop (n:=kj l - 1) (by rw[show (kj l) - 1+1=kj l by omega];exact h)) (by rw[al8];exact hb);have J:=d3.trans (swp_perm i1 i2);have v:=J.length_eq;have c:gN u (kj l - 1)=x:=by rw[d4,F,sw_r];exact U
 obtain⟨z,hz,gz⟩:=n5 (l:=u) (i:=(kj l:Int) - 1) (by omega) (by omega);have O:z=x:=by rw[<- c,<- j];exact(gN_ix hz).symm
 subst O;have B:m7 u 0 ((kj l:Int) - 1)=u.dropLast:=by unfold m7;simp only[km,ko,kw,j,v]
 have E:u.dropLast++[z]=u:=by
  have N:u ≠ []:=by intro q;rw[q] at v;simp at v;omega
  have c:u.getLast N=z:=by
   rw[List.getLast_eq_getElem];have:=lG.1 gz;have e:((kj l:Int) - 1).toNat=kj u - 1:=by omega
   simp only[e] at this;exact this.2
  rw[<- c];exact List.dropLast_concat_getLast N
 refine⟨u.dropLast,z,?_,?_,?_,fun w hw=> ?_⟩;unfold H6 C1 I2;have e2:((kj l - 1:Nat):Int)=(kj l:Int) - 1:=by omega
 rw[e2] at d1;simp only[oB,e1,nswap_eq hx hy,N8,al8,if_true,d1,v,hz,cutV];rw[if_pos (by omega)];simp only[oB];rw[B];unfold HpN;have:kj u.dropLast=kj l - 1:=by rw[List.length_dropLast];omega
 rw[this];intro k k0 k1;have:=d2 k k0 k1;unfold gN gt at this ⊢;rw[kw,kg (by omega),kg (by omega)];exact this;have:=J.symm;rw[<- E] at this;exact this.trans (jU _ _);obtain⟨k,hk⟩:=List.getElem?_of_mem hw;have h1:=hp_root ay9 nle_trans h k (lG.1 hk).1;have e:gN l k=w:=gt_of hk;have e0:gN l 0=z:=U;rw[e,e0] at h1;exact h1
end Ab
end
section
namespace Ab
open Go
inductive Ed:Nat->Li->Li->Prop
 |nil:Ed 0 [] []
 |keep {n:Nat} {x:Int} {a b:Li} (h:Ed n a b):Ed n (x::a) (x::b)
 |del {n:Nat} {x:Int} {a b:Li} (h:Ed n a b):Ed (n+1) (x::a) b
 |ins {n:Nat} {y:Int} {a b:Li} (h:Ed n a b):Ed (n+1) a (y::b)
def Ed.symm{n:Nat}{a b:Li}(h:Ed n a b):Ed n b a:=by
 induction h with
 |nil=>exact .nil
 |keep _ c=>exact .keep c
 |del _ c=>exact .ins c
 |ins _ c=>exact .del c
def Ed.all:∀b:Li,Ed (kj b) [] b
 |[]=>.nil
 |_::b=>.ins (Ed.all b)
def Ed.none:∀b:Li,Ed (kj b) b []
 |[]=>.nil
 |_::b=>.del (Ed.none b)
/-! ### Distance -/
def RowIs(m:Nat)(f:Nat->Nat)(row:Li):Prop:=kj row=m+1/\∀k,k<=m->row[k]? =some (f k:Int)
def RowIs.ix{m:Nat}{f:Nat->Nat}{row:Li}(h:RowIs m f row){k:Nat}(hk:k<=m):ix row (k:Int)=some (f k:Int):=by rw[aa3];exact h.2 k hk
end Ab
end
section
namespace Ab
open Go
end Ab
end
section
namespace Ab
open Go
def aA5{α β:Type}{l:List α}{body:Int->List β->Option (List β)}(g:α->List β)(N:Nat)(h:List β)
  (u:∀j a c,ix l j=some a->kj c+(g a).length<=N->body j c=some (c++g a)) (B:kj h+(l.flatMap g).length<=N):
  forR 0 (kj l:Int) body h=some (h++l.flatMap g):=by
 obtain⟨s',h1,h2⟩:=F2 (body:=body) (n:=(kj l:Int)) (s:=h) (fun j c=>c=h++(l.take j.toNat).flatMap g) (by omega) (by simp) (fun j c v h1 q=>by
  obtain⟨a,g1,z⟩:=n5 v h1;have e:(j+1).toNat=j.toNat+1:=by omega
  have ht:l.take (j+1).toNat=l.take j.toNat++[a]:=by rw[e,jv,z];rfl
  refine⟨c++g a,u j a c g1 ?_,?_⟩;have hs:l=l.take j.toNat++[a]++l.drop (j+1).toNat:=by rw[<- ht,List.take_append_drop]
  have hl:(l.flatMap g).length=((l.take j.toNat).flatMap g).length+(g a).length+((l.drop (j+1).toNat).flatMap g).length:=by
   conv=>lhs;rw[hs]
   simp[kC];omega
  rw[q,jp];omega;rw[ht,kC,q];simp)
 rw[h1,h2]
 simp
def small_eq:∀n:Fin 100,(internal_strconv_small (n:Nat)).map strL=some (dg (n:Nat)):=by decide+kernel
def appendInt_eq{x:Int}(hx:0<=x/\x<100){l:Li}(hl:kj l<=1000000):G0 x 10 l=some (l++dg x):=by
 have h:=small_eq ⟨x.toNat,by omega⟩;rw[show(((⟨x.toNat,by omega⟩:Fin 100):Nat):Int)=x by simp;omega] at h;obtain⟨b,h1,h2⟩:=oM.1 h;first
  |unfold G0 F0 D3
  |unfold G0 e c
 rw[if_neg (by omega),IntKind.wrap_u64,Int.emod_eq_of_lt (by omega) (by omega)];simp only[oB,if_true];rw[if_pos hx.2,u9 (by omega) (by omega),h1];simp only[oB,h2];have:(dg x).length<=2:=by unfold dg;split<;>simp
 rw[app,if_pos (by omega)];rfl
def dg_len(x:Int):(dg x).length<=2:=by unfold dg;split<;>simp
def key_eq{l:LL}(hs:∀s ∈ l,ab8 s)(u:(encK l).length<=900000):D9 l=some (keyK l):=by
 unfold D9;rw[aA5 encS 900000 [] (fun j s c h v=>by
  unfold ap2;rw[h];simp only[oB];have q:(encS s).length=(s.flatMap fun x=>dg x++[44]).length+1:=by simp[encS]
  rw[aA5 (fun x=>dg x++[44]) 900000 c (fun i x c' hi e=>by unfold ao9;rw[hi];simp only[jp,ju] at e;simp only[oB,appendInt_eq (hs s (y5 h) x (y5 hi)) (l:=c') (by omega)];rw[app,if_pos (by simp;omega)];simp) (by omega)];simp only[oB];rw[app,if_pos (by rw[jp];simp only[ju];omega)];simp[encS]) (by simpa[encK] using u)]
 rfl
def ay1:∀s:Li,(encS s).length<=3 * (kj s)+1
 |[]=>by simp[encS]
 |x::s=>by have:=ay1 s;have:=dg_len x;rw[ao4];simp only[jp,jE];omega
def key2_eq{s a:Li}(hs:ab8 s)(c:ab8 a)(h1:kj s<=1000)(h2:kj a<=1000):D9 [s,a]=some (keyK [s,a]):=by refine key_eq (by simp[hs,c]) ?_;have:=ay1 s;have:=ay1 a;simp only[encK,jX,kG,jp,jA];omega
end Ab
end
section
namespace Ab
open Go
/-! ### All sets -/
/-! ### Keys -/
def flat_lenP{α β:Type}(f:α->List β)(n:Nat)(hf:∀a,(f a).length=n):∀l:List α,(l.flatMap f).length=kj l * n
 |[]=>by simp
 |a::l=>by simp only[jX,jp,flat_lenP f n hf l,hf,jE,Nat.succ_mul];omega
def Y5{t:i4}(ht:s6 t){s:Li}(hs:SetN s t.facts):ab8 s:=fun x hx=>by have:=ht.n1;have:=hs.2 x hx;omega
/-! ### Maps -/
section
variable {K V:Type}[DecidableEq K]
end
/-! ### What the search keeps -/
abbrev Mp':=List (ByteArray×Int)
end Ab
end
section
namespace Ab
open Go
def kone_eq{s:Li}(hs:ab8 s)(h1:kj s<=1000):D9 [s]=some (keyK [s]):=by refine key_eq (by simp[hs]) ?_;have:=ay1 s;simp only[encK,jX,kG,jA];omega
def kone_inj{t:i4}(ht:s6 t){s s':Li}(h:SetN s t.facts)(c:SetN s' t.facts)(e:keyK [s]=keyK [s']):s=s':=by have:=keyK_inj (fun x hx=>by simp at hx;subst hx;exact Y5 ht h) (fun x hx=>by simp at hx;subst hx;exact Y5 ht c) e;simpa using this
def containsAny_eq{l:LL}{f:Li->Option Bool}{p:Li->Prop}(h:∀x ∈ l,f x=some (dec (p x))):E4 l f=some (dec (∃x ∈ l,p x)):=by unfold E4 N4;rcases V9 (body:=I6 l f) (n:=(kj l:Int)) (fun j=>if dec (∃x,ix l j=some x/\p x)=true then some j else none) (by omega) (fun j c h1 _=>by obtain⟨x,hx,_⟩:=n5 (l:=l) c h1;unfold I6;simp only[hx,oB,h x (y5 hx)];by_cases e:p x;rw[ifP e,ifP ⟨x,rfl,e⟩];rw[ifN e,ifN (by rintro ⟨z,hz,hp⟩;cases hz;exact e hp)]) with⟨h1,h2⟩|⟨j,o,c,h1,h2,B,q⟩;rw[h1];simp only[oB];rw[A5];rfl;rintro ⟨x,hx,hp⟩;obtain⟨i,u,v,hi⟩:=D6 hx;have:=h2 i u v;rw[ifP ⟨x,hi,hp⟩] at this;cases this;rw[q];split at h2;rename_i e;cases h2;simp only[oB];obtain⟨x,hx,hp⟩:=q8.1 e;rw[o9 ⟨x,y5 hx,hp⟩,decide_eq_true c];cases h2
def ay7{s pre:Li}(hs:Inc s)(hp:Inc pre)(hl:kj s<=1000000):R5 [s] pre=some (dec (∀x ∈ pre,x ∈ s)):=by unfold R5;rw[containsAny_eq (p:=fun y=>¬ ∀x ∈ pre,x ∈ y) (fun x hx=>by simp only[jl] at hx;subst hx;unfold ag7;rw[av7 hs hp hl];simp only[oB,P5])];simp only[oB,P5];refine congrArg some (W6 ⟨fun h=>jY fun g=>h ⟨s,by simp,g⟩,fun h=> ?_⟩);rintro ⟨x,hx,c⟩;simp only[jl] at hx;subst hx;exact c h
def after_one{t:i4}(ht:s6 t){s:Li}(hs:SetN s t.facts){op:Int}(c:0<=op)(h1:op<kj t.operators):N9 t [s] op=some [aft t s op]:=by
 have e:forR 0 (([s]:LL).length:Int) (V7 t [s] op) []=some [aft t s op]:=by show forN (V7 t [s] op) 1 0 []=_;simp only[forN];have h:ix [s] 0=some s:=rfl;have j:app 24 ([]:LL) [aft t s op]=some [aft t s op]:=rfl;unfold V7;simp only[h,oB,next_eq ht c h1 hs,j]
 unfold N9;rw[e];simp only[oB];obtain⟨r,q,r2,u,_⟩:=normal_eq (l:=[aft t s op]) (by simp);rw[q];simp only[oB];rw[Ord.ext r2 (by simp) u]
structure Bq(t:i4)(l:LL)(m:Mp')(qu:List i5):Prop where
 node:qu.map (·.node)=l.map (fun s=>[s])
 nd:l.Nodup
 rt:∀s ∈ l,Rt t s
 map:∀s,SetN s t.facts->(0<(mget m (keyK [s])).getD 0↔s ∈ l)
 len:kj l<=2000
def Bq.ql{t:i4}{l:LL}{m:Mp'}{qu:List i5}(h:Bq t l m qu):kj qu=kj l:=by have:=congrArg kj h.node;simpa using this
def Bq.at{t:i4}{l:LL}{m:Mp'}{qu:List i5}(h:Bq t l m qu){i:Int}{e:i5}(hi:ix qu i=some e):∃s,ix l i=some s/\e.node=[s]:=by
 obtain⟨j,h1,h2⟩:=u6 hi;have c:=congrArg (fun l=>l[i.toNat]?) h.node;simp only[lM,h2,kH] at c;cases hs:l[i.toNat]? with
 |none=>rw[hs] at c;cases c
 |some s=>
  rw[hs] at c
  simp only[kH,Option.some.injEq] at c
  refine⟨s,?_,c⟩
  rw[show i=((i.toNat:Nat):Int) by omega,aa3]
  exact hs
def breadth_in{t:i4}(ht:s6 t){l:LL}{m:Mp'}{qu:List i5}(h:Bq t l m qu){c:Int}{e:i5}{s:Li}(hs:s ∈ l)(he:e.node=[s]):
  (∃l' O u,G1 t.facts t.init t.goal t.operators qu m c e=some (.inl (O,u))/\Bq t l' O u/\(∃ex,l'=l++ex)/\Cls t l' s)\/(∃y,G1 t.facts t.init t.goal t.operators qu m c e=some (.inr y)/\Many t):=by
 have v:=(h.rt s hs).setN ht
 have ai:=ht.n1
 unfold G1
 rcases az2 (body:=L3 t.facts t.init t.goal t.operators c e) (n:=(kj t.operators:Int)) (s:=(m,qu))
  (fun j st=>∃l',Bq t l' st.1 st.2/\(∃ex,l'=l++ex)/\∀op:Int,0<=op->op<j->can t s op->aft t s op ∈ l')
  (fun o=>∃y,o=.inr y/\Many t) (by omega) ⟨l,h,⟨[],by simp⟩,fun op E o1=>by omega⟩
  (fun j st U j1 hP=>by
   obtain⟨m1,z⟩:=st;obtain⟨B,g1,g2,g3⟩:=hP;simp only at g1;have aa:=ht.at U j1;have q:=setN_aft t s j;unfold L3;simp only[ix_op U j1,oB,he];rw[ay7 v.1 aa.1.1.1 (by have:=v.len;omega)];simp only[oB];by_cases hc:can t s j;rw[if_pos (o9 (show ∀x ∈ (opAt t j).pre,x ∈ s from hc))];have ea:N9 (⟨t.facts,t.init,t.goal,t.operators⟩:i4) [s] j=some [aft t s j]:=after_one ht v U j1;rw[ea];simp only[oB,kone_eq (Y5 ht q) (by have:=q.len;omega)];by_cases hm:aft t s j ∈ B;rw[if_pos ((g1.map _ q).2 hm)];refine .inl ⟨_,rfl,B,g1,g2,fun op E o1 oc=> ?_⟩;by_cases F:op=j;subst F;exact hm;exact g3 op E (by omega) oc;rw[if_neg (fun hx=>hm ((g1.map _ q).1 hx))];have ab:Rt t (aft t s j):=(h.rt s hs).step U j1 hc;have J:(B++[aft t s j]).Nodup:=by rw[jW];refine⟨g1.nd,by simp,fun a ha b hb ac=> ?_⟩;simp only[jl] at hb;subst hb;subst ac;exact hm ha
   have N:∀y ∈ B++[aft t s j],Rt t y:=fun y hy=>by rcases jm.1 hy with hy|hy;exact g1.rt y hy;simp only[jl] at hy;subst hy;exact ab
   have al:=g1.ql;have ad:=g1.len;by_cases hq:(kj z:Int)=2000;rw[if_pos hq];exact .inr ⟨_,rfl,_,rfl,B++[aft t s j],J,by simp;omega,N⟩;rw[if_neg hq];have ha:app 40 z [(⟨[aft t s j],c,j⟩:i5)]=some (z++[⟨[aft t s j],c,j⟩]):=by rw[app,if_pos (by simp;omega)]
   rw[ha];refine .inl ⟨_,rfl,B++[aft t s j],⟨by simp[g1.node],J,N,fun y hy=> ?_,by simp;omega⟩,?_,fun op E o1 oc=> ?_⟩;simp only;rw[w6];by_cases ek:keyK [y]=keyK [aft t s j];rw[if_pos ek,kone_inj ht hy q ek];simp;rw[if_neg ek,g1.map y hy,jm,jl];exact⟨.inl,fun g=>g.elim id fun g=>absurd (by rw[g]) ek⟩;obtain⟨ex,rfl⟩:=g2;exact⟨ex++[aft t s j],by simp⟩;by_cases F:op=j;subst F;simp;exact jD _ (g3 op E (by omega) oc);rw[if_neg (show ¬ dec (∀x ∈ (opAt t j).pre,x ∈ s)=true from fun g=>hc (q8.1 g))];refine .inl ⟨_,rfl,B,g1,g2,fun op E o1 oc=> ?_⟩;by_cases F:op=j;subst F;exact absurd oc hc;exact g3 op E (by omega) oc) with⟨⟨O,u⟩,h1,l',h2,h3,h4⟩|⟨o,h1,y,rfl,h2⟩
 ·left
  rw[h1]
  exact⟨l',O,u,rfl,h2,h3,h4⟩
 ·right
  rw[h1]
  exact⟨y,rfl,h2⟩
def aA2{t:i4}(ht:s6 t):∃b,C2 [t.init] t.facts t.init t.goal t.operators=some b/\(b=false->Many t)/\(b=true->∃l:LL,l.Nodup/\(kj l)<=2000/\∀s,s ∈ l↔Rt t s):=by
 have O:=ht.n1;unfold C2 R1;rw[kone_eq (Y5 ht ht.init) (by have:=ht.init.len;omega)];simp only[oB];obtain⟨o,h1,h2⟩:=M9 (body:=L9 t.facts t.init t.goal t.operators) (s:=([(⟨[t.init], -1,0⟩:i5)],mset ([]:List (ByteArray×Int)) (keyK [t.init]) 1,0))
  (fun s=>∃l,Bq t l s.2.1 s.1/\t.init ∈ l/\0<=s.2.2/\s.2.2<=kj l/\∀(k:Int) (x:Li),k<s.2.2->ix l k=some x->Cls t l x)
  (fun o=>(o=.inl ()/\∃l:LL,l.Nodup/\(kj l)<=2000/\∀s,s ∈ l↔Rt t s)\/(o=.inr ([],false,false)/\Many t))
  (fun s=>2001 - s.2.2.toNat) ⟨[t.init],⟨rfl,by simp,fun s hs=>by simp at hs;subst hs;exact .init,fun s hs=>by simp only;rw[w6];by_cases q:keyK [s]=keyK [t.init];rw[if_pos q,kone_inj ht hs ht.init q];simp;rw[if_neg q];simp only[mget,Option.getD_none,jl];exact⟨fun h=>by omega,fun g=>absurd (by rw[g]) q⟩,by simp⟩,by simp,by simp only;omega,by simp only;omega,fun k x hk hx=>by have:=u6 hx;simp only at hk;omega⟩
  (fun s U=>by
   obtain⟨qu,m,c⟩:=s;obtain⟨l,g1,F,J,g4,z⟩:=U;simp only at g1 J g4 z;have aa:=g1.ql;have u:=g1.len;unfold L9;dsimp only;by_cases B:c<(kj qu:Int);rw[if_pos B];obtain⟨e,N,_⟩:=n5 (l:=qu) J B;obtain⟨s,hs,hn⟩:=g1.at N;simp only[N,oB,U7,O7,M5];rw[if_neg (by simp)];rcases breadth_in ht g1 (c:=c) (y5 hs) hn with⟨l',m',E,k1,v,⟨ex,rfl⟩,k4⟩|⟨⟨y1,y2⟩,k1,v⟩;left;rw[k1];refine⟨(E,m',c+1),by simp only[oB];rw[u9 (by omega) (by omega)],⟨l++ex,v,jD _ F,by simp only;omega,by simp only[jp];omega,fun k x hk hx=> ?_⟩,by simp only;omega⟩;simp only at hk;have ab:=u6 hx;have j:ix l k=some x:=by rw[show k=((k.toNat:Nat):Int) by omega,aa3] at hx ⊢;rwa [kc (by omega)] at hx
   by_cases q:k=c;subst q;rw[hs] at j;cases j;exact k4;exact fun op o0 o1 oc=>jD _ (z k x (by omega) j op o0 o1 oc);right;rw[k1];exact⟨_,rfl,.inr ⟨rfl,v⟩⟩;rw[if_neg B];right;refine⟨_,rfl,.inl ⟨rfl,l,g1.nd,u,fun s=>⟨g1.rt s,fun hs=>hs.mem F fun x hx=> ?_⟩⟩⟩;obtain⟨k,k0,k1,v⟩:=D6 hx;exact z k x (by omega) v)
 rw[h1];rcases h2 with⟨rfl,h2⟩|⟨rfl,h2⟩;exact⟨true,rfl,by simp,fun _=>h2⟩;exact⟨false,rfl,fun _=>h2,by simp⟩
def small_of{t:i4}(ht:s6 t){S:LL}(j:kj S<=2000)(c:∀s,Rt t s->s ∈ S):C2 [t.init] t.facts t.init t.goal t.operators=some true:=by
 obtain⟨b,h1,h2,_⟩:=aA2 ht;cases b with
 |true=>exact h1
 |false=>
  obtain⟨l,e,q,h⟩:=h2 rfl
  have:=U6 e (fun s hs=>c s (h s hs))
  omega
end Ab
end
section
namespace Ab
open Go
def tri(n:Nd):Tr:=(n.fs,n.seen.toNat,n.cost)
def HS(H:List Nd)(y:Tr):Prop:=∃n ∈ H,tri n=y
def nkey(s:Li)(k:Int):ByteArray:=keyK [s,[k]]
def small1{k:Int}(c:0<=k)(h1:k<=60):ab8 [k]:=fun x hx=>by simp at hx;omega
def nkey_eq{t:i4}(ht:s6 t){s:Li}(hs:SetN s t.facts){k:Int}(c:0<=k)(h1:k<=60):D9 [s,[k]]=some (nkey s k):=
 key2_eq (Y5 ht hs) (small1 c h1) (by have:=hs.len;have:=ht.n1;omega) (by simp)
def nkey_inj{t:i4}(ht:s6 t){s s':Li}{k c:Int}(hs:SetN s t.facts)(j:SetN s' t.facts)(v:0<=k)(h1:k<=60)(q:0<=c)(u:c<=60)(e:nkey s k=nkey s' c):s=s'/\k=c:=by
 have:=keyK_inj (l:=[s,[k]]) (l':=[s',[c]]) (fun a h=>by
  simp at h;rcases h with rfl|rfl;exact Y5 ht hs;exact small1 v h1) (fun a h=>by
  simp at h;rcases h with rfl|rfl;exact Y5 ht j;exact small1 q u) e
 simpa using this
def repeat1_eq(c:Int){n:Nat}(h1:1<=n)(e:n<=100000):I0 [c] (n:Int)=some (kA n c):=by unfold I0;dsimp only;rw[if_pos (show(1:Int)<=n/\(n:Int)<=4294967295 by omega)];simp
section
variable {t:i4}{ob:Li}{goals:LL}{S:LL}
structure Rq(t:i4)(goals:LL)(ob:Li)(S:LL):Prop where
 ht:s6 t
 g0:1<=kj goals
 g1:kj goals<=4
 gs:∀g ∈ goals,SetN g t.facts
 o8:kj ob<=8
 sn:kj S<=2000
 sm:∀s,Rt t s->s ∈ S
def allK(S:LL):List ByteArray:=S.flatMap fun s=>(List.range 9).map fun k:Nat=>nkey s (k:Int)
def allK_len:(allK S).length<=kj S * 9:=by unfold allK;rw[flat_lenP _ 9 (fun a=>by simp)];exact jt _
def allK_mem{s:Li}(hs:s ∈ S){k:Int}(c:0<=k)(h1:k<=8):nkey s k ∈ allK S:=
 List.mem_flatMap.2 ⟨s,hs,jK.2 ⟨k.toNat,List.mem_range.2 (by omega),by rw[Int.toNat_of_nonneg c]⟩⟩
abbrev Mb:=List (ByteArray×Int)
structure Mk'(t:i4)(S:LL)(m:Mb)(D:Tr->Prop):Prop where
 nd:(m.map (·.1)).Nodup
 sub:∀k ∈ m.map (·.1),k ∈ allK S
 iff:∀s k,SetN s t.facts->0<=k->k<=8->(0<jR (mget m (nkey s k)) 0↔∃d,D (s,k.toNat,d))
def Mk'.len{m:Mb}{D:Tr->Prop}(h:Mk' t S m D):kj m<=kj S * 9:=by have:=U6 h.nd h.sub;have:=allK_len (S:=S);simp at *;omega
structure Wf(ob:Li)(C:Int)(n:Nd):Prop where
 s0:0<=n.seen
 s1:n.seen<=kj ob
 c1:n.cost<=C
structure Rv'(t:i4)(goals:LL)(ob:Li)(S:LL)(o:Li)(H:List Nd)(m:Mb)(cnt:Int)(D:Tr->Prop):Prop where
 hp:HpN H
 wf:∀n ∈ H,Wf ob (100 * (kj m)) n
 dj:∃B,Dj t ob (HS H) D B
 mp:Mk' t S m D
 ol:kj o=kj goals
 og:∀(i:Int) g k,ix goals i=some g->ix o i=some k->Got ob g D k
 hl:kj H<=1+80 * (kj m)
 cn:0<=cnt/\cnt<=1+80 * (kj m)
theorem rg_goals(hq:Rq t goals ob S){x:Nd}{o:Li}{D:Tr->Prop}{B:Int}(hs:SetN x.fs t.facts)(h0:0<=x.seen)(hc:x.cost<1000000000)(hD:∀y,D y->y.2.2<=B)(hB:B<=x.cost)(ol:kj o=kj goals)(og:∀(i:Int) g k,ix goals i=some g->ix o i=some k->Got ob g D k)(H:List Nd):
  ∃o',forR 0 (kj goals:Int) (O0 goals ob (H,x)) o=some o'/\(kj o')=kj goals/\∀(i:Int) g k,ix goals i=some g->ix o' i=some k->Got ob g (fun y=>y=tri x\/D y) k:=by
 have skip:∀g k,Got ob g D k->(¬ (x.seen=kj ob/\∀y ∈ g,y ∈ x.fs)\/k ≠ 1000000000)->Got ob g (fun y=>y=tri x\/D y) k:=fun g k hg h=>by
  have hsn:x.seen.toNat=kj ob↔x.seen=kj ob:=by omega
  rcases hg with⟨rfl,hn⟩|⟨hk,w,w1,w2,w3,w4,w5⟩
  ·refine .inl ⟨rfl,fun y hy h2 h3=> ?_⟩
   rcases hy with rfl|hy
   ·exact(h.resolve_right (by simp)) ⟨hsn.1 h2,h3⟩
   ·exact hn y hy h2 h3
  ·refine .inr ⟨hk,w,.inr w1,w2,w3,w4,fun z hz h2 h3=> ?_⟩
   rcases hz with rfl|hz
   ·have:=hD w w1
    simp only[tri];omega
   ·exact w5 z hz h2 h3
 obtain⟨o',h1,h2,h3⟩:=F2 (body:=O0 goals ob (H,x)) (n:=(kj goals:Int)) (s:=o)
  (fun j c=>kj c=kj goals/\∀(i:Int) g k,ix goals i=some g->ix c i=some k->(i<j->Got ob g (fun y=>y=tri x\/D y) k)/\(j<=i->Got ob g D k)) (by omega)
  ⟨ol,fun i g k hg hk=>⟨fun h=>by have:=(u6 hg).1;omega,fun _=>og i g k hg hk⟩⟩ (fun j c j0 j1 hP=>by
   obtain⟨p1,p2⟩:=hP
   obtain⟨g,hg,_⟩:=n5 j0 j1
   obtain⟨k,hk,_⟩:=n5 (l:=c) j0 (by omega)
   have hgot:=(p2 j g k hg hk).2 (jr j)
   have hgs:=hq.gs g (y5 hg)
   have n1:=hq.ht.n1
   unfold O0
   simp only[hg,hk,oB,av7 hs.1 hgs.1 (by have:=hs.len;omega)]
   -- the loop goes on
   have keep:Got ob g (fun y=>y=tri x\/D y) k->∃s',some c=some s'/\(kj s')=kj goals/\∀(i:Int) g k,ix goals i=some g->ix s' i=some k->(i<j+1->Got ob g (fun y=>y=tri x\/D y) k)/\(j+1<=i->Got ob g D k):=fun hnew=>⟨c,rfl,p1,fun i g' k' hg' hk'=>⟨fun hi=>by
    by_cases e:i=j
    ·subst e;rw[hg] at hg';rw[hk] at hk';cases hg';cases hk';exact hnew
    ·exact(p2 i g' k' hg' hk').1 (by omega),fun hi=>(p2 i g' k' hg' hk').2 (by omega)⟩⟩
   by_cases c1:x.seen=kj ob
   ·simp only[if_pos c1]
    by_cases c2:k=1000000000
    ·simp only[if_pos c2,oB]
     by_cases c3:∀y ∈ g,y ∈ x.fs
     ·simp only[o9 c3,if_true]
      refine⟨_,rfl,by simp[p1],fun i g' k' hg' hk'=> ?_⟩
      rw[ac9 j0 (by omega) (u6 hg').1] at hk'
      by_cases e:i=j
      ·subst e
       rw[hg] at hg';cases hg'
       rw[if_pos rfl] at hk';cases hk'
       refine⟨fun _=>.inr ⟨hc,tri x,.inl rfl,by simp only[tri];omega,c3,rfl,fun z hz h2 h3=> ?_⟩,fun h=>by omega⟩
       rcases hz with rfl|hz
       ·exact jr _
       ·rcases hgot with⟨_,hn⟩|⟨hk2,_⟩
        ·exact absurd h3 (hn z hz h2)
        ·omega
      ·rw[if_neg e] at hk'
       exact⟨fun hi=>(p2 i g' k' hg' hk').1 (by omega),fun hi=>(p2 i g' k' hg' hk').2 (by omega)⟩
     ·simp only[A5 c3,jw,if_false]
      exact keep (skip g k hgot (.inl fun h=>c3 h.2))
    ·simp only[if_neg c2,oB,jw,if_false]
     exact keep (skip g k hgot (.inr c2))
   ·simp only[if_neg c1,oB,jw,if_false]
    exact keep (skip g k hgot (.inl fun h=>c1 h.1)))
 exact⟨o',h1,h2,fun i g k hg hk=>(h3 i g k hg hk).1 (u6 hg).2.1⟩
def NxO(t:i4)(ob:Li)(x y:Tr)(op:Int):Prop:=can t x.1 op/\y.1=aft t x.1 op/\y.2.2=x.2.2+(opAt t op).cost/\(y.2.1=x.2.1\/ob[x.2.1]? =some op/\y.2.1=x.2.1+1)
def rg_next(hq:Rq t goals ob S){x:Nd}{H:List Nd}{cnt:Int}{C:Int}(hs:SetN x.fs t.facts)(h0:0<=x.seen)(h1:x.seen<=kj ob)(hx:x.cost<=C)(ay:0<=x.cost)(hC:C<=10000000)(hp:HpN H)(hw:∀n ∈ H,Wf ob (C+100) n)(hH:kj H<=5000000)(hc:0<=cnt/\cnt<=5000000):
  ∃v H',W8 t ob cnt (H,x)=some (v,H')/\HpN H'/\(∀n ∈ H',Wf ob (C+100) n)/\(kj H')<=kj H+80/\(0<=v/\v<=cnt+80)/\(∀y,HS H y->HS H' y)/\(∀y,HS H' y->HS H y\/Nx t ob (tri x) y)/\∀y,Nx t ob (tri x) y->HS H' y:=by
 have av:=hq.ht.ops
 have a4:=hq.o8
 unfold W8
 obtain⟨⟨v,H'⟩,r1,r2,r3,r4,r5,r6,r7,r8⟩:=F2 (body:=U5 t ob (H,x)) (n:=(kj t.operators:Int)) (s:=(cnt,H))
  (fun j c=>HpN c.2/\(∀n ∈ c.2,Wf ob (C+100) n)/\(c.2.length:Int)<=kj H+2 * j/\(0<=c.1/\c.1<=cnt+j)/\(∀y,HS H y->HS c.2 y)/\(∀y,HS c.2 y->HS H y\/∃op,0<=op/\op<j/\NxO t ob (tri x) y op)/\∀y op,0<=op->op<j->NxO t ob (tri x) y op->HS c.2 y) (by omega)
  ⟨hp,hw,by simp,by simp;omega,fun y h=>h,fun y h=>.inl h,fun y op a b=>by omega⟩ (fun j c J j1 hP=>by
   obtain⟨cn,K⟩:=c;obtain⟨p1,p2,p3,p4,p5,p6,p7⟩:=hP;simp only at p1 p2 p3 p4 p5 p6 p7;have E:=(ah2 hq.ht J j1).2;have ad:w64 (cn+1)=cn+1:=u9 (by omega) (by omega);have ai:w64 (x.cost+(opAt t j).cost)=x.cost+(opAt t j).cost:=u9 (by have:=E.1;omega) (by have:=E.2;omega);have al:w64 (x.seen+1)=x.seen+1:=u9 (by omega) (by omega);unfold U5;simp only[can_eq hq.ht J j1 hs,oB];by_cases u:can t x.fs j;rw[if_pos (o9 u)];simp only[next_eq hq.ht J j1 hs,ix_op J j1,oB,ad,ai,al];obtain⟨K1,a1,a2,a3⟩:=npush_ok p1 (⟨aft t x.fs j,x.seen,x.cost+(opAt t j).cost,cn⟩:Nd) (by omega);rw[a1];simp only[oB];have m1:∀n,n ∈ K1↔n=(⟨aft t x.fs j,x.seen,x.cost+(opAt t j).cost,cn⟩:Nd)\/n ∈ K:=fun n=>by rw[a3.mem_iff,jq]
   have l1:=a3.length_eq;have w1:∀n ∈ K1,Wf ob (C+100) n:=fun n z=>by rcases(m1 n).1 z with rfl|z;exact⟨h0,h1,by have:=E.2;simp only;omega⟩;exact p2 n z
   have N:tri (⟨aft t x.fs j,x.seen,x.cost+(opAt t j).cost,cn⟩:Nd)=(aft t x.fs j,x.seen.toNat,x.cost+(opAt t j).cost):=rfl;have ab:HS K1 (aft t x.fs j,x.seen.toNat,x.cost+(opAt t j).cost):=⟨_,(m1 _).2 (.inl rfl),N⟩;have F:∀y,HS K y->HS K1 y:=fun y ⟨n,n1,n2⟩=>⟨n,(m1 n).2 (.inr n1),n2⟩;simp only[jE] at l1;by_cases c2:x.seen<kj ob/\ob[x.seen.toNat]? =some j;have an:ix ob x.seen=some j:=by rw[ix,if_pos h0];exact c2.2
   simp only[if_pos c2.1,an,oB,decide_true,if_true];obtain⟨K2,b1,b2,b3⟩:=npush_ok a2 (⟨aft t x.fs j,x.seen+1,x.cost+(opAt t j).cost,cn⟩:Nd) (by omega);rw[b1];simp only[oB];have m2:∀n,n ∈ K2↔n=(⟨aft t x.fs j,x.seen+1,x.cost+(opAt t j).cost,cn⟩:Nd)\/n ∈ K1:=fun n=>by rw[b3.mem_iff,jq]
   have l2:=b3.length_eq;simp only[jE] at l2;have ac:tri (⟨aft t x.fs j,x.seen+1,x.cost+(opAt t j).cost,cn⟩:Nd)=(aft t x.fs j,x.seen.toNat+1,x.cost+(opAt t j).cost):=by
    have:(x.seen+1).toNat=x.seen.toNat+1:=by omega
    simp only[tri,this]
   have O:∀y,HS K1 y->HS K2 y:=fun y ⟨n,n1,n2⟩=>⟨n,(m2 n).2 (.inr n1),n2⟩;refine⟨_,rfl,b2,fun n z=> ?_,by simp only;omega,by simp only;omega,fun y hy=>O y (F y (p5 y hy)),fun y hy=> ?_,fun y op U o1 hy=> ?_⟩;rcases(m2 n).1 z with rfl|z;exact⟨by simp only;omega,by simp only;omega,by have:=E.2;simp only;omega⟩;exact w1 n z;obtain⟨n,z,rfl⟩:=hy;rcases(m2 n).1 z with rfl|z;rw[ac];exact .inr ⟨j,J,by omega,u,rfl,rfl,.inr ⟨c2.2,rfl⟩⟩;rcases(m1 n).1 z with rfl|z;rw[N];exact .inr ⟨j,J,by omega,u,rfl,rfl,.inl rfl⟩;rcases p6 _ ⟨n,z,rfl⟩ with q|⟨op,q0,q1,q2⟩;exact .inl q;exact .inr ⟨op,q0,by omega,q2⟩;by_cases e:op=j;subst e;obtain⟨y1,y2,y3⟩:=y;obtain⟨_,e1,e2,B⟩:=hy;simp only[tri] at e1 e2 B;rcases B with B|⟨_,B⟩;subst e1 e2 B;exact O _ ab;subst e1 e2 B;exact⟨_,(m2 _).2 (.inl rfl),ac⟩;exact O y (F y (p7 y op U (by omega) hy));have ef:(if x.seen<(kj ob:Int) then js (ix ob x.seen) fun aa=>some (decide (aa=j)) else some false)=some false:=by by_cases c3:x.seen<(kj ob:Int);rw[if_pos c3];obtain⟨a,ha,ga⟩:=n5 (l:=ob) h0 c3;rw[ha];simp only[oB];rw[decide_eq_false fun q=>c2 ⟨c3,by rw[ga,q]⟩];rw[if_neg c3]
   rw[ef];simp only[oB,jw,if_false];refine⟨_,rfl,a2,w1,by simp only;omega,by simp only;omega,fun y hy=>F y (p5 y hy),fun y hy=> ?_,fun y op U o1 hy=> ?_⟩;obtain⟨n,z,rfl⟩:=hy;rcases(m1 n).1 z with rfl|z;rw[N];exact .inr ⟨j,J,by omega,u,rfl,rfl,.inl rfl⟩;rcases p6 _ ⟨n,z,rfl⟩ with q|⟨op,q0,q1,q2⟩;exact .inl q;exact .inr ⟨op,q0,by omega,q2⟩;by_cases e:op=j;subst e;obtain⟨y1,y2,y3⟩:=y;obtain⟨_,e1,e2,B⟩:=hy;simp only[tri] at e1 e2 B;rcases B with B|⟨e4,B⟩;subst e1 e2 B;exact ab;have a5:=(lG.1 e4).1;exact absurd ⟨by omega,e4⟩ c2;exact F y (p7 y op U (by omega) hy);rw[if_neg (by rw[A5 u];simp)];refine⟨_,rfl,p1,p2,by simp only;omega,by simp only;omega,p5,fun y hy=> ?_,fun y op U o1 hy=> ?_⟩;rcases p6 y hy with q|⟨op,q0,q1,q2⟩;exact .inl q;exact .inr ⟨op,q0,by omega,q2⟩;by_cases e:op=j;subst e;exact absurd hy.1 u;exact p7 y op U (by omega) hy)
 refine⟨v,H',by rw[r1];rfl,r2,r3,by simp only at r4;omega,by simp only at r5;omega,r6,fun y hy=> ?_,fun y ⟨op,U,o1,hy⟩=>r8 y op U o1 hy⟩
 rcases r7 y hy with q|⟨op,q0,q1,q2⟩
 ·exact .inl q
 ·exact .inr ⟨op,q0,q1,q2⟩
end
end Ab
end
section
namespace Ab
open Go
section
variable {t:i4}{ob:Li}{goals:LL}{S:LL}
def rngN_congr{A O:Type}{b1 b2:Int->A->Option (A⊕O)}:∀(k:Nat) (i:Int) (s:A),(∀j s,i<=j->j<i+k->b1 j s=b2 j s)->rngN b1 k i s=rngN b2 k i s
 |0,_,_,_=>rfl
 |k+1,i,s,h=>by
  simp only[rngN];rw[h i s (jr i) (by omega)];cases b2 i s with
  |none=>rfl
  |some x=>
   cases x with
   |inl x=>exact rngN_congr k (i+1) x fun j s h1 h2=>h j s (by omega) (by omega)
   |inr x=>rfl
def rngX_congr{A O:Type}{b1 b2:Int->A->Option (A⊕O)}{n:Int}{s:A}(c:0<=n)(h:∀j s,0<=j->j<n->b1 j s=b2 j s):rngX 0 n b1 s=rngX 0 n b2 s:=
 rngN_congr _ 0 s fun j s h1 h2=>h j s h1 (by omega)
def Mk'.add(B:Rq t goals ob S){m:Mb}{D:Tr->Prop}(h:Mk' t S m D){x:Nd}(hr:Rt t x.fs)(E:0<=x.seen)(h1:x.seen<=kj ob)(F:¬ 0<jR (mget m (nkey x.fs x.seen)) 0)(u:∀k v,mget m k=some v->0<v):
  Mk' t S (mset m (nkey x.fs x.seen) 1) (fun y=>y=tri x\/D y)/\(mset m (nkey x.fs x.seen) 1).length=kj m+1:=by
 have h8:=B.o8
 have hs:=hr.setN B.ht
 have c:mget m (nkey x.fs x.seen)=none:=by
  cases e:mget m (nkey x.fs x.seen) with
  |none=>rfl
  |some v=>rw[e] at F;exact absurd (u _ _ e) F
 have j:=aa1 (v:=(1:Int)) c
 refine⟨⟨?_,fun k hk=> ?_,fun s k z k0 k1=> ?_⟩,by rw[j];simp⟩
 ·rw[j,jB]
  exact jW.2 ⟨h.nd,by simp,fun a N b J e=>by simp at J;subst J;subst e;exact av1 c N⟩
 ·rw[j,jB] at hk
  rcases jm.1 hk with hk|hk
  ·exact h.sub k hk
  ·simp at hk;subst hk
   exact allK_mem (B.sm _ hr) E (by omega)
 ·rw[w6]
  by_cases e:nkey s k=nkey x.fs x.seen
  ·obtain⟨O,U⟩:=nkey_inj B.ht z hs k0 (by omega) E (by omega) e
   subst O U
   rw[if_pos e]
   exact⟨fun _=>⟨x.cost,.inl rfl⟩,fun _=>by simp⟩
  ·rw[if_neg e,h.iff s k z k0 k1]
   refine⟨fun⟨d,hd⟩=>⟨d,.inr hd⟩,fun⟨d,hd⟩=>⟨d,hd.resolve_left fun q=>e ?_⟩⟩
   simp only[tri,Prod.mk.injEq] at q
   rw[q.1,show k=x.seen by omega]
def rg_loop(hq:Rq t goals ob S):∃o,O9 t goals ob=some o/\(kj o)=kj goals/\∀(i:Int) g k,ix goals i=some g->ix o i=some k->EC t g ob k:=by
 have hS:=hq.sn;have h8:=hq.o8;unfold O9;rw[repeat1_eq _ hq.g0 (by have:=hq.g1;omega)];simp only[oB];have init:Rv' t goals ob S (kA (kj goals) 1000000000) [(⟨t.init,0,0,0⟩:Nd)] ([]:Mb) 1 (fun _=>False):=by
  refine⟨?_,fun n hn=> ?_,⟨0,?_⟩,⟨by simp,by simp,fun s k _ _ _=>by simp[mget]⟩,by simp,fun i g k hg hk=> ?_,by simp,by simp⟩;intro k k0 k1;simp at k1;omega;simp at hn;subst hn;exact⟨by simp,by simp,by simp⟩;have e:HS [(⟨t.init,0,0,0⟩:Nd)]=fun y=>y=(t.init,0,0):=by funext y;exact propext ⟨fun⟨n,n1,n2⟩=>by simp at n1;subst n1;exact n2.symm,fun h=>⟨⟨t.init,0,0,0⟩,by simp,by rw[h];rfl⟩⟩
  rw[e];exact Dj.start;have:k=1000000000:=List.eq_of_mem_replicate (y5 hk);exact .inl ⟨this,fun x hx=>hx.elim⟩
 obtain⟨o,o1,o2,o3⟩:=M9 (body:=W2 t goals ob) (s:=(kA (kj goals) 1000000000,[(⟨t.init,0,0,0⟩:Nd)],([]:Mb),1))
  (fun s=>(∃D,Rv' t goals ob S s.1 s.2.1 s.2.2.1 s.2.2.2 D)/\∀k v,mget s.2.2.1 k=some v->0<v)
  (fun o=>kj o=kj goals/\∀(i:Int) g k,ix goals i=some g->ix o i=some k->EC t g ob k)
  (fun s=>(18000 - s.2.2.1.length) * 100+s.2.1.length)
  ⟨⟨_,init⟩,fun k v h=>by simp[mget] at h⟩ (by
   rintro ⟨o,H,m,cnt⟩ ⟨⟨D,p⟩,hpos⟩;simp only at p hpos;obtain⟨B,dj⟩:=p.dj;have hml:=p.mp.len;have hhl:=p.hl;unfold W2 N3;simp only[oB];by_cases c0:0<kj H;rw[if_pos (by omega)];obtain⟨H',x,a1,a2,a3,a4⟩:=npop_ok p.hp c0 (by omega);have hxH:x ∈ H:=a3.mem_iff.2 (by simp);have hl':=a3.length_eq;simp only[jE] at hl';have hwx:=p.wf x hxH;have hdx:=dj.hr (tri x) ⟨x,hxH,rfl⟩;have hrx:Rt t x.fs:=hdx.1.rt;have hsx:=hrx.setN hq.ht;have hcx:0<=x.cost:=hdx.1.nonneg hq.ht;have hmin:∀y,HS H y->x.cost<=y.2.2:=fun y ⟨n,n1,n2⟩=>by subst n2;exact nle_cost (a4 n n1)
   have s0:=hwx.s0;have s1:=hwx.s1;have c1:=hwx.c1;simp only[a1,oB,nkey_eq hq.ht hsx s0 (by omega)];by_cases c2:0<jR (mget m (nkey x.fs x.seen)) 0;rw[if_pos c2];obtain⟨d,hd⟩:=(p.mp.iff x.fs x.seen hsx s0 (by omega)).1 c2;have dj':=dj.again (H':=HS H') (x:=tri x) (fun y=>⟨fun⟨n,n1,n2⟩=>by
    rcases jq.1 (a3.mem_iff.1 n1) with rfl|n1;exact .inl n2.symm;exact .inr ⟨n,n1,n2⟩,fun h=>by
    rcases h with rfl|⟨n,n1,n2⟩;exact⟨x,hxH,rfl⟩;exact⟨n,a3.mem_iff.2 (jo _ n1),n2⟩⟩) hmin hd
   refine .inl ⟨_,rfl,⟨⟨D,a2,fun n hn=>p.wf n (a3.mem_iff.2 (jo _ hn)),⟨_,dj'⟩,p.mp,p.ol,p.og,by simp only;omega,p.cn⟩,hpos⟩,by simp only;omega⟩;rw[if_neg c2];have hnD:∀d,¬ D (x.fs,x.seen.toNat,d):=fun d hd=>c2 ((p.mp.iff x.fs x.seen hsx s0 (by omega)).2 ⟨d,hd⟩);obtain⟨o',b1,b2,b3⟩:=rg_goals hq (x:=x) (D:=D) (B:=B) hsx s0 (by omega) (fun y hy=>(dj.dr y hy).2) hdx.2 p.ol p.og H';obtain⟨m1,m2⟩:=p.mp.add hq hrx s0 s1 c2 hpos;have hml2:=m1.len;obtain⟨cnt',H2,d1,d2,d3,d4,d5,d6,d7,d8⟩:=rg_next hq (x:=x) (H:=H') (cnt:=cnt) (C:=100 * (kj m)) hsx s0 s1 c1 hcx (by omega) a2 (fun n hn=>by have:=p.wf n (a3.mem_iff.2 (jo _ hn));exact⟨this.s0,this.s1,by have:=this.c1;omega⟩) (by omega) ⟨p.cn.1,by have:=p.cn.2;omega⟩;simp only[b1,oB,T2,d1];have dj':=dj.next hq.ht (H':=HS H2) (x:=tri x) (fun y hy=>by obtain⟨n,n1,n2⟩:=hy;rcases jq.1 (a3.mem_iff.1 n1) with rfl|n1;exact .inl n2.symm;exact .inr (d6 _ ⟨n,n1,n2⟩)) (fun y hy=>(d7 y hy).imp_left fun⟨n,n1,n2⟩=>⟨n,a3.mem_iff.2 (jo _ n1),n2⟩) d8 ⟨x,hxH,rfl⟩ hmin hnD;have hcn:=p.cn;refine .inl ⟨_,rfl,⟨⟨fun y=>y=tri x\/D y,d2,fun n hn=> ?_,⟨_,dj'⟩,m1,b2,b3,by simp only[m2];omega,?_⟩,fun k v hk=> ?_⟩,by simp only[m2];omega⟩;have:=d3 n hn;exact⟨this.s0,this.s1,by have:=this.c1;simp only[m2];push_cast;omega⟩;simp only[m2];push_cast;omega;simp only[w6] at hk;split at hk;cases hk;omega;exact hpos k v hk;rw[if_neg (by omega)];have hH:H=[]:=jF (by omega);subst hH;exact .inr ⟨o,rfl,p.ol,fun i g k hg hk=>(p.og i g k hg hk).ec hq.ht dj fun y ⟨n,hn,_⟩=>by simp at hn⟩)
 exact⟨o,by rw[o1];rfl,o2,o3⟩
/-! ### The checks -/
structure ObsOk(t:i4)(goals:LL)(ob:Li):Prop where
 g0:1<=kj goals
 g1:kj goals<=4
 gs:∀g ∈ goals,SetN g t.facts
 o8:kj ob<=8
 ov:∀x ∈ ob,(0:Int)<=x/\x<kj t.operators
def X9(t:i4)(goals:LL):Int->Unit->Option (Unit⊕TFault):=fun iv7 _=>js (ix goals iv7) fun a21=>js (W7 a21 t.facts) fun a22=>if(!a22)=true then js (R8 5 (w64 ((-10) - iv7))) fun a23=>some (.inr a23) else some (.inl ())
def ad7(t:i4)(goals:LL)(observed:Li):Option TFault:=js (am0 t) fun a7=>if a7.code=0 then js (am1 (kj goals:Int) 1 4) fun a8=>if(!a8)=true then js (R8 9 (-8)) fun a9=>some a9 else(js (rngX 0 (kj goals:Int) (X9 t goals) ()) fun| .inl _=>if 8<(kj observed:Int) then js (R8 2 (-5)) fun a10=>some a10 else js (aj8 (kj t.operators:Int) observed) fun a11=>if a11.code=0 then some (⟨0,0⟩:TFault) else js (R8 3 (-6)) fun a12=>some a12| .inr x=>some x) else some a7
def rcheck_eq(t:i4)(goals:LL)(ob:Li):∃f e,U8 t goals ob=some f/\ad7 t goals ob=some e/\
  ((s6 t/\ObsOk t goals ob/\e=⟨0,0⟩/\((f=⟨0,0⟩/\∃S:LL,S.Nodup/\(kj S)<=2000/\∀s,s ∈ S↔Rt t s)\/(f=⟨10, -7⟩/\Many t)))\/(¬ (s6 t/\ObsOk t goals ob)/\e=f/\f.code ≠ 0/\(¬ s6 t->y4 t=some f))):=by
 obtain⟨f,h1,h2,h3⟩:=aw3 t
 unfold U8 ad7
 rw[h1,h2]
 simp only[oB,in_eq,at_eq,P5]
 rcases h3 with⟨rfl,ht⟩|⟨N,hn⟩
 ·rw[if_neg (by simp),if_pos rfl]
  by_cases c1:1<=kj goals/\(kj goals)<=4
  ·rw[if_neg (by simp only[jO,decide_eq_true_eq];omega),ifNN (by omega)]
   have n0:=ht.n0
   have n1:=ht.n1
   have g:Int->Option TFault:=fun j=>match ix goals j with|some g=>if dec (SetN g t.facts)=true then none else some (⟨5, -10 - j⟩:TFault)|none=>none
   have t1:=V9 (body:=H8 t goals) (n:=(kj goals:Int)) (fun j=>match ix goals j with|some g=>if dec (SetN g t.facts)=true then none else some (⟨5, -10 - j⟩:TFault)|none=>none) (by omega) (fun j c u _=>by obtain⟨g,F,_⟩:=n5 c u;have hw:w64 ((-10) - j)= -10 - j:=u9 (by omega) (by omega);unfold H8;simp only[F,oB,at1,P5,hw];by_cases q:SetN g t.facts;rw[ifP q,ifNN q];rw[ifN q,ifP q])
   have t2:rngX 0 (kj goals:Int) (X9 t goals) ()=rngX 0 (kj goals:Int) (H8 t goals) ():=by refine rngX_congr (by omega) fun j s c u=> ?_;obtain⟨g,F,_⟩:=n5 c u;unfold X9 H8;simp only[F,oB,at1,rIsSet_eq g (show -9223372036854775808<t.facts by omega) (by omega),at_eq]
   rw[t2]
   rcases t1 with⟨O,r2⟩|⟨j,f,c,u,r2,_,O⟩
   ·rw[O]
    simp only[oB]
    have J:∀g ∈ goals,SetN g t.facts:=fun g F=>by obtain⟨i,U,i1,hi⟩:=D6 F;have:=r2 i U i1;rw[hi] at this;by_cases q:SetN g t.facts;exact q;simp[q] at this
    by_cases c2:kj ob<=8
    ·rw[if_neg (by omega),if_neg (by omega)]
     have aa:=ht.ops
     obtain⟨e,e1,v⟩:=rSteps_eq (n:=kj t.operators) (by omega) (by omega) ob
     rw[e1]
     simp only[oB]
     rcases V9 (body:=U9 t ob) (n:=(kj ob:Int)) (fun j=>match ix ob j with|some a=>if dec (0<=a/\a<kj t.operators)=true then none else some (⟨3, -6⟩:TFault)|none=>none) (by omega) (fun j c u _=>by obtain⟨a,z,_⟩:=n5 c u;unfold U9;simp only[z,oB];by_cases q:0<=a/\a<kj t.operators;rw[ifP q,if_neg (by simp;omega)];rw[ifN q,if_pos (by simp;omega)]) with⟨q1,E⟩|⟨j,f,c,u,E,_,q1⟩
     ·rw[q1]
      simp only[oB,T9]
      have B:∀x ∈ ob,(0:Int)<=x/\x<kj t.operators:=fun x hx=>by obtain⟨i,U,i1,hi⟩:=D6 hx;have:=E i U i1;rw[hi] at this;by_cases q:0<=x/\x<kj t.operators;exact q;simp[q] at this
      have he:e.code=0:=by rcases v with⟨rfl,_⟩|⟨_,v⟩;rfl;exact absurd ⟨by omega,B⟩ v
      rw[if_pos he]
      obtain⟨b,b1,b2,b3⟩:=aA2 ht
      rw[b1]
      simp only[oB]
      cases b with
      |false=>exact⟨_,_,rfl,rfl,.inl ⟨ht,⟨c1.1,c1.2,J,c2,B⟩,rfl,.inr ⟨rfl,b2 rfl⟩⟩⟩
      |true=>exact⟨_,_,rfl,rfl,.inl ⟨ht,⟨c1.1,c1.2,J,c2,B⟩,rfl,.inl ⟨rfl,b3 rfl⟩⟩⟩
     ·rw[q1]
      obtain⟨a,z,_⟩:=n5 c u
      rw[z] at E
      by_cases q:0<=a/\a<kj t.operators
      ·simp[q] at E
      ·simp[q] at E;subst E
       have he:e.code ≠ 0:=by rcases v with⟨_,_,v⟩|⟨v,_⟩;exact absurd (v a (y5 z)) q;exact v
       rw[if_neg he]
       exact⟨_,_,rfl,rfl,.inr ⟨fun h=>q (h.2.ov a (y5 z)),rfl,by simp,fun h=>absurd ht h⟩⟩
    ·rw[if_pos (by omega),if_pos (by omega)]
     exact⟨_,_,rfl,rfl,.inr ⟨fun h=>c2 h.2.o8,rfl,by simp,fun h=>absurd ht h⟩⟩
   ·rw[O]
    obtain⟨a,z,_⟩:=n5 c u
    rw[z] at r2
    by_cases q:SetN a t.facts
    ·simp[q] at r2
    ·simp[q] at r2;subst r2
     exact⟨_,_,rfl,rfl,.inr ⟨fun h=>q (h.2.gs a (y5 z)),rfl,by simp,fun h=>absurd ht h⟩⟩
  ·rw[if_pos (by simp only[jO,decide_eq_true_eq];omega),ifP (by omega)]
   exact⟨_,_,rfl,rfl,.inr ⟨fun h=>c1 ⟨h.2.g0,h.2.g1⟩,rfl,by simp,fun h=>absurd ht h⟩⟩
 ·rw[if_pos (by simp[N]),if_neg N]
  exact⟨f,f,rfl,rfl,.inr ⟨fun h=>hn h.1,rfl,N,fun _=>rfl⟩⟩
end
end Ab
end
section
namespace Ab
open Go
section
variable {t:i4}{op:Int}
/-! ### With and Without -/
end
/-! ### The fixed task -/
end Ab
end
section
namespace Ab
open Go
section
variable {t:i4}{ob:Li}{goals:LL}
def Rg(t:i4)(goals:LL)(ob:Li)(l:List (Int×Int)):Prop:=kj l=kj goals/\∀(i:Int) g p,ix goals i=some g->ix l i=some p->EC t g ob p.1/\EC t g [] p.2
def rcosts_spec(t:i4)(goals:LL)(ob:Li):∃l f e,K3 t goals ob=some (l,f)/\ad7 t goals ob=some e/\
  ((s6 t/\ObsOk t goals ob/\e=⟨0,0⟩/\f=⟨0,0⟩/\¬ Many t/\Rg t goals ob l)\/(s6 t/\ObsOk t goals ob/\e=⟨0,0⟩/\f=⟨10, -7⟩/\Many t/\l=[])\/(¬ (s6 t/\ObsOk t goals ob)/\e=f/\f.code ≠ 0/\(¬ s6 t->y4 t=some f)/\l=[])):=by
 obtain⟨f,e,h1,h2,N⟩:=rcheck_eq t goals ob
 unfold K3
 rw[h1,h2]
 simp only[oB]
 rcases N with⟨ht,ho,rfl,⟨rfl,S,S1,O,v⟩|⟨rfl,U⟩⟩|⟨hn,rfl,z,hv⟩
 ·rw[if_neg (by simp)]
  have B:∀o:Li,kj o<=8->Rq t goals o S:=fun o u=>⟨ht,ho.g0,ho.g1,ho.gs,u,O,fun s hs=>(v s).2 hs⟩
  obtain⟨a,a1,a2,a3⟩:=rg_loop (B ob ho.o8)
  obtain⟨b,b1,b2,b3⟩:=rg_loop (B [] (by simp))
  rw[a1,b1]
  simp only[oB]
  have aa:=ho.g1
  obtain⟨l,l1,l2,E⟩:=F2 (body:=V1 a b) (n:=(kj goals:Int)) (s:=[])
   (fun j c=>(kj c:Int)=j/\∀(i:Int) p,ix c i=some p->ix a i=some p.1/\ix b i=some p.2) (by omega) ⟨by simp,fun i p h=>by simp[ix] at h⟩ (fun j c F j1 hP=>by
    obtain⟨p1,p2⟩:=hP;obtain⟨x,hx,_⟩:=n5 (l:=a) F (by omega);obtain⟨y,hy,_⟩:=n5 (l:=b) F (by omega);have ha:app 16 c [(x,y)]=some (c++[(x,y)]):=by unfold app;rw[if_pos (by simp;omega)]
    unfold V1;simp only[hx,hy,ha,oB];refine⟨_,rfl,by simp;omega,fun i p hp=> ?_⟩;rw[ai5] at hp;by_cases q:i=(kj c:Int);rw[if_pos q] at hp;cases hp;have:i=j:=by omega
    subst this;exact⟨hx,hy⟩;rw[if_neg q] at hp;exact p2 i p hp)
  rw[l1]
  refine⟨_,_,_,rfl,rfl,.inl ⟨ht,ho,rfl,rfl,?_,by omega,fun i g p J hp=>⟨a3 i g _ J (E i p hp).1,b3 i g _ J (E i p hp).2⟩⟩⟩
  rintro ⟨m,m1,m2,m3⟩
  have:=U6 m1 (S:=S) fun s hs=>(v s).2 (m3 s hs)
  omega
 ·rw[if_pos (by simp)]
  exact⟨_,_,_,rfl,rfl,.inr (.inl ⟨ht,ho,rfl,rfl,U,rfl⟩)⟩
 ·rw[if_pos (by simp[z])]
  exact⟨_,_,_,rfl,rfl,.inr (.inr ⟨hn,rfl,z,hv,rfl⟩)⟩
def Rg.bd{l:List (Int×Int)}(h:Rg t goals ob l){i:Int}{p:Int×Int}(hp:ix l i=some p):0<=p.2/\p.2<=p.1/\p.1<=1000000000:=by obtain⟨g,q,_⟩:=n5 (l:=goals) (u6 hp).1 (by have:=(u6 hp).2.1;have:=h.1;omega);obtain⟨e,j⟩:=h.2 i g p q hp;exact⟨j.2.1,j.mono e fun c u=>u.nil,e.le⟩
def Lst(l:List (Int×Int))(j v:Int):Prop:=(∀i p,i<j->ix l i=some p->p.1<1000000000->v<=p.1 - p.2)/\((v=1000000000/\∀i p,i<j->ix l i=some p->¬ p.1<1000000000)\/∃i p,i<j/\ix l i=some p/\p.1<1000000000/\v=p.1 - p.2)
def Lst.eq{l:List (Int×Int)}{j v w:Int}(h:Lst l j v)(g:Lst l j w):v=w:=by obtain⟨h1,⟨rfl,h2⟩|⟨i,p,h2,u,z,rfl⟩⟩:=h;obtain⟨g1,⟨rfl,c⟩|⟨i,p,c,e,q,rfl⟩⟩:=g;rfl;exact absurd q (h2 i p c e);obtain⟨g1,⟨rfl,c⟩|⟨B,E,c,e,q,rfl⟩⟩:=g;exact absurd z (c i p h2 u);have:=h1 B E c e q;have:=g1 i p h2 u z;omega
def Lst.zero(l:List (Int×Int)):Lst l 0 1000000000:=⟨fun i p hi hp=>by have:=(u6 hp).1;omega,.inl ⟨rfl,fun i p hi hp=>by have:=(u6 hp).1;omega⟩⟩
def Lst.step{l:List (Int×Int)}{j v:Int}{p:Int×Int}(h:Lst l j v)(hp:ix l j=some p)(hb:p.1<1000000000->p.1 - p.2<=1000000000):Lst l (j+1) (if p.1<1000000000 then min v (p.1 - p.2) else v):=by obtain⟨h1,h2⟩:=h;constructor;intro i q hi hq hf;by_cases e:i=j;subst e;rw[hp] at hq;cases hq;rw[if_pos hf];omega;have:=h1 i q (by omega) hq hf;split<;>omega;by_cases c:p.1<1000000000;rw[if_pos c];by_cases d:p.1 - p.2<v;exact .inr ⟨j,p,by omega,hp,c,by omega⟩;rw[show min v (p.1 - p.2)=v by omega];rcases h2 with⟨rfl,h2⟩|⟨i,q,q1,q2⟩;exact .inr ⟨j,p,by omega,hp,c,by have:=hb c;omega⟩;exact .inr ⟨i,q,by omega,q2⟩;rw[if_neg c];rcases h2 with⟨rfl,h2⟩|⟨i,q,q1,q2⟩;refine .inl ⟨rfl,fun i q hi hq=> ?_⟩;by_cases e:i=j;subst e;rw[hp] at hq;cases hq;exact c;exact h2 i q (by omega) hq;exact .inr ⟨i,q,by omega,q2⟩
def Bst(l:List (Int×Int))(v i:Int):Prop:=∃p,ix l i=some p/\p.1<1000000000/\p.1 - p.2=v
def rbest_spec{l:List (Int×Int)}{f:TFault}(hl:K3 t goals ob=some (l,f))(h:(f=⟨0,0⟩/\Rg t goals ob l/\(kj goals)<=4)\/f.code ≠ 0):
  (f.code ≠ 0/\S0 t goals ob=some ([],f))\/∃v,Lst l (kj l) v/\S0 t goals ob=some (N5 (Bst l v) (kj l),⟨0,0⟩):=by
 unfold S0
 rw[hl]
 simp only[oB]
 rcases h with⟨rfl,h,h4⟩|B
 ·rw[if_neg (by simp)]
  have E:kj l<=4:=by have:=h.1;omega
  obtain⟨v,F,J⟩:=F2 (body:=X2 (l,⟨0,0⟩)) (n:=(kj l:Int)) (s:=1000000000) (fun j v=>Lst l j v) (by omega) (Lst.zero l) (fun j v e u N=>by obtain⟨p,hp,_⟩:=n5 e u;have O:=h.bd hp;have z:w64 (p.1 - p.2)=p.1 - p.2:=u9 (by omega) (by omega);unfold X2;simp only[hp,oB,z];have:=N.step hp (by omega);by_cases c:p.1<1000000000;rw[if_pos c] at this ⊢;exact⟨_,rfl,this⟩;rw[if_neg c] at this ⊢;exact⟨_,rfl,this⟩)
  rw[F]
  simp only[oB]
  have:=forR_setOf (b:=8) (n:=(kj l:Int)) (body:=X3 (l,⟨0,0⟩) v) (Bst l v) (by omega) (by omega) (fun j c e u=>by obtain⟨p,hp,_⟩:=n5 e u;have O:=h.bd hp;have z:w64 (p.1 - p.2)=p.1 - p.2:=u9 (by omega) (by omega);unfold X3;simp only[hp,oB,z];refine⟨fun⟨q,q1,U,q3⟩=> ?_,fun hn=> ?_⟩;rw[hp] at q1;cases q1;rw[if_pos (by simp[U,q3])];cases app 8 c [j]<;>rfl;rw[if_neg (by simp only[Bool.and_eq_true,decide_eq_true_eq];exact fun q=>hn ⟨p,hp,q⟩)];rfl)
  rw[this]
  exact .inr ⟨v,J,rfl⟩
 ·rw[if_pos (by simp[B])]
  exact .inl ⟨B,rfl⟩
end
/-! ### The fixed task -/
def Ex.first{t:i4}(ht:s6 t){g:Li}{o s:Li}{c:Int}(h:Ex t g o s c):0<=c/\∀op r,o=op::r->(opAt t op).cost<=c:=by
 induction h with
 |goal=>exact⟨jr 0,fun op r e=>by cases e⟩
 |step j h1 _ _ q=>
  have:=(ah2 ht j h1).2.1
  exact⟨by omega,fun op r e=>by have:=q.2 op r e;omega⟩
 |obs j h1 _ _ q=>
  have:=(ah2 ht j h1).2.1
  exact⟨by omega,fun op r e=>by cases e;omega⟩
end Ab
end
section
namespace Ab
open Go
def h11O:j7:=⟨[],[0],[],2⟩
def h11T:i4:=⟨1,[],[0],[h11O]⟩
def ao0:s6 h11T where
 n0:=by decide
 n1:=by decide
 init:=Y8 _
 goal:=setN1 0 (by decide) (by decide)
 ops:=by decide
 op o ho:=by simp only[h11T,jl] at ho;subst ho;exact⟨⟨Y8 _,setN1 0 (by decide) (by decide),Y8 _,by simp[h11O]⟩,by decide,by decide⟩
def h11_at:opAt h11T 0=h11O:=rfl
def h11_aft0:aft h11T [] 0=[0]:=by refine((setN1 0 (by decide) (by decide):SetN [0] 1).eq_of (p:=fun x=>x ∈ (opAt h11T 0).add\/x ∈ []/\x ∉ (opAt h11T 0).del) fun x c h1=> ?_).symm;simp[h11_at,h11O]
def h11_aft1:aft h11T [0] 0=[0]:=by refine((setN1 0 (by decide) (by decide):SetN [0] 1).eq_of (p:=fun x=>x ∈ (opAt h11T 0).add\/x ∈ [0]/\x ∉ (opAt h11T 0).del) fun x c h1=> ?_).symm;simp[h11_at,h11O]
def h11_rt{s:Li}(h:Rt h11T s):s ∈ [([]:Li),[0]]:=by
 induction h with
 |init=>simp[h11T]
 |@step s op _ e h1 _ c=>
  have:op=0:=by simp only[h11T,ju] at h1;omega
  subst this
  simp only[jq,List.not_mem_nil,or_false] at c ⊢
  rcases c with rfl|rfl
  ·exact .inr h11_aft0
  ·exact .inr h11_aft1
def h11_worlds:T8 h11T []=some [[]]:=by
 have c:chk0 (([]:Li).length:Int)=some ():=rfl;have e:shlW .i64 1 (([]:Li).length:Int)=1:=by decide
 have h:forR 0 (([]:Li).length:Int) (ah9 [] 0) []=some []:=rfl;have j:K9 h11T.init [] []=some []:=by rw[show h11T.init=[] from rfl,update_eq (n:=1) (by decide) .nil (by simp) (Y8 _) (Y8 _)];exact congrArg some ((Y8 1).eq_of fun x _ _=>by simp[h11T]).symm
 have q:forR 0 1 (S7 h11T []) []=some [[]]:=by show forN (S7 h11T []) 1 0 []=_;simp only[forN];unfold S7;rw[h];simp only[oB,j];rfl
 unfold T8;rw[c,e];simp only[oB];rw[if_pos (by decide),q];simp only[oB];obtain⟨r,u,r2,v,_⟩:=normal_eq (l:=[([]:Li)]) (by simp);rw[u,Ord.ext r2 (by simp) v];rfl
def h11E0:i5:=⟨[[]], -1,0⟩
def h11E1:i5:=⟨[[0]],0,0⟩
def h11_breadth:I1 [[]] h11T.facts h11T.init h11T.goal h11T.operators h11T.facts h11T.init h11T.goal h11T.operators=some ([0],true,true):=by
 have N:=ao0.init;have c:SetN [0] h11T.facts:=setN1 0 (by decide) (by decide);have k0:D9 [[]]=some (keyK [[]]):=kone_eq (fun x hx=>by cases hx) (by simp);have k1:D9 [[0]]=some (keyK [[0]]):=kone_eq (Y5 ao0 c) (by simp);have B:keyK [[0]] ≠ keyK [[]]:=fun e=>by have:=kone_inj ao0 c (Y8 _) e;cases this
 have g0:P8 [[]] (⟨h11T.facts,h11T.init,h11T.goal,h11T.operators⟩:i4)=some false:=by unfold P8;rw[ay7 .nil ao0.goal.1 (by simp)];simp only[oB];rw[A5 (by simp[h11T])]
 have g1:P8 [[0]] (⟨h11T.facts,h11T.init,h11T.goal,h11T.operators⟩:i4)=some true:=by unfold P8;rw[ay7 c.1 ao0.goal.1 (by simp)];simp only[oB];rw[o9 (by simp[h11T])]
 have a0:N9 (⟨h11T.facts,h11T.init,h11T.goal,h11T.operators⟩:i4) [[]] 0=some [[0]]:=by have:=after_one ao0 (s:=[]) (Y8 _) (op:=0) (by decide) (by decide);rw[h11_aft0] at this;exact this
 have E:¬ 0<jR (mget (mset ([]:List (ByteArray×Int)) (keyK [[]]) 1) (keyK [[0]])) 0:=by rw[w6,if_neg B];simp[mget]
 have j:ix h11T.operators 0=some h11O:=rfl;have s0:R5 [[]] h11O.pre=some true:=by rw[show h11O.pre=[] from rfl,ay7 .nil .nil (by simp),o9 (by simp)]
 have F:J7 h11T.facts h11T.init h11T.goal h11T.operators [h11E0] (mset ([]:List (ByteArray×Int)) (keyK [[]]) 1) 0 h11E0=some (.inl (mset (mset ([]:List (ByteArray×Int)) (keyK [[]]) 1) (keyK [[0]]) 1,[h11E0,h11E1])):=by
  have q:rngX 0 (kj h11T.operators:Int) (C0 h11T.facts h11T.init h11T.goal h11T.operators 0 h11E0) (mset ([]:List (ByteArray×Int)) (keyK [[]]) 1,[h11E0])=some (.inl (mset (mset ([]:List (ByteArray×Int)) (keyK [[]]) 1) (keyK [[0]]) 1,[h11E0,h11E1])):=by
   show rngN (C0 h11T.facts h11T.init h11T.goal h11T.operators 0 h11E0) 1 0 (mset ([]:List (ByteArray×Int)) (keyK [[]]) 1,[h11E0])=_;have b:C0 h11T.facts h11T.init h11T.goal h11T.operators 0 h11E0 0 (mset ([]:List (ByteArray×Int)) (keyK [[]]) 1,[h11E0])=some (.inl (mset (mset ([]:List (ByteArray×Int)) (keyK [[]]) 1) (keyK [[0]]) 1,[h11E0,h11E1])):=by unfold C0;have h:h11E0.node=[[]]:=rfl;dsimp only;simp only[j,oB,h,s0,if_true,a0,k1];rw[if_neg E,if_neg (by simp)];rfl
   simp only[rngN,b]
  unfold J7;rw[q];rfl
 have u:B7 h11T.facts h11T.init h11T.goal h11T.operators h11T.facts h11T.init h11T.goal h11T.operators ([h11E0],mset ([]:List (ByteArray×Int)) (keyK [[]]) 1,0)=some (.inl ([h11E0,h11E1],mset (mset ([]:List (ByteArray×Int)) (keyK [[]]) 1) (keyK [[0]]) 1,1)):=by unfold B7;dsimp only;have v:ix [h11E0] 0=some h11E0:=rfl;have h:h11E0.node=[[]]:=rfl;rw[if_pos (by simp),v];simp only[oB,h,g0,O7,M5];rw[if_neg (by simp),F];simp only[oB];rw[u9 (by decide) (by decide)];rfl
 have J:Loop (F4 [h11E0,h11E1]) ([],1)=some [0]:=by have b1:F4 [h11E0,h11E1] ([],1)=some (.inl ([0],0)):=rfl;have b2:F4 [h11E0,h11E1] ([0],0)=some (.inr [0]):=rfl;rw[am5,b1];dsimp only;rw[am5,b2]
 have z:B7 h11T.facts h11T.init h11T.goal h11T.operators h11T.facts h11T.init h11T.goal h11T.operators ([h11E0,h11E1],mset (mset ([]:List (ByteArray×Int)) (keyK [[]]) 1) (keyK [[0]]) 1,1)=some (.inr (.inr ([0],true,true))):=by unfold B7;dsimp only;have v:ix [h11E0,h11E1] 1=some h11E1:=rfl;have h:h11E1.node=[[0]]:=rfl;rw[if_pos (by simp),v];simp only[oB,h,g1,if_true,J];rfl
 unfold I1;rw[k0];simp only[oB];rw[show(⟨[[]], -1,0⟩:i5)=h11E0 from rfl,am5,u];dsimp only;rw[am5,z];rfl
def h11_plan:ag3 h11T []=some ([0],true,⟨0,0⟩):=by
 have u:M6 h11T []=some ⟨0,0⟩:=by obtain⟨f,h1,_,c⟩:=aw3 h11T;rcases c with⟨rfl,_⟩|⟨_,e⟩;unfold M6;rw[h1];simp only[oB];rw[if_neg (by simp),if_neg (by simp),at1];simp only[oB,P5];rw[ifNN (Y8 _)];exact absurd ao0 e
 have sm:C2 [[]] h11T.facts h11T.init h11T.goal h11T.operators=some true:=small_of ao0 (S:=[[],[0]]) (by simp) fun s hs=>h11_rt hs;unfold ag3;rw[u];simp only[oB];rw[if_neg (by simp)];simp only[T9,oB,h11_worlds,sm];rw[if_neg (by simp),h11_breadth];rfl
def h11U:i4:=⟨2,[],[0,1],[⟨[],[0,1],[],2⟩]⟩
def h11_with:ab1 h11T 0=some (2,⟨0,0⟩):=by
 have e1:af1 h11T 0=some ⟨0,0⟩:=by kernel_rfl
 have e2:ab6 h11T 0=some (h11U,⟨0,0⟩):=by kernel_rfl
 have e3:y4 h11U=some ⟨0,0⟩:=by kernel_rfl
 have e4:ae5 h11U=some (0,3,[⟨0,3,0,2⟩]):=by kernel_rfl
 have e5:H9 0 3 [⟨0,3,0,2⟩]=some ([0,3],true):=by kernel_rfl
 have e6:M7 [0,3] 0 3 [⟨0,3,0,2⟩]=some [(0,2),(3,0)]:=by kernel_rfl
 have e7:M7 [3,0] 0 3 [⟨0,3,0,2⟩]=some [(3,0),(0,2)]:=by kernel_rfl
 obtain⟨l,h1,h2⟩:=sortW (l:=[0,3]) (by decide) (by simp);unfold ab1 P9 D5;simp only[e1,e2,e3,e4,e5,h1,oB];have:l=[0,3]\/l=[3,0]:=by
  match l,h2 with
  |[a,b],h2=>
   have h3:=h2.mem_iff (a:=a)
   have h4:=h2.mem_iff (a:=b)
   have h5:=h2.nodup_iff.2 (by decide)
   simp at h3 h4 h5
   grind
  |[],h2=>have:=h2.length_eq;simp at this
  |[_],h2=>have:=h2.length_eq;simp at this
  |_::_::_::_,h2=>have:=h2.length_eq;simp at this
 rcases this with rfl|rfl;simp[e6,x8,mget];simp[e7,x8,mget]
def h11_eq:U0=some true:=by have ht:af5=some h11T:=rfl;unfold U0;simp only[ht,oB,h11_plan,h11_with,if_true,ints_eq,q8,decide_true]
end Ab
end
section
namespace Ab
open Go
def al6(t:i4):G5 t=some true:=by
 unfold G5;obtain⟨r,r1,r2⟩:=aplan_spec t;obtain⟨o,o1,o2⟩:=optimal_spec t;rw[r1,o1];simp only[oB,h11_eq];split;rfl;rename_i hc;simp only[jO,Bool.not_eq_true',decide_eq_false_iff_not,decide_eq_true_eq,not_or,Decidable.not_not,Bool.not_eq_false] at hc;obtain⟨⟨⟨c1,c2⟩,c3⟩,c4⟩:=hc;obtain⟨ht,hf,hv,hw,hmin⟩:=r2 c1 c3;have hlc:=o2.lc c2;have hobs:ObsOk t [t.goal] r.2.1:=⟨by simp,by simp,fun g hg=>by simp at hg;subst hg;exact ht.goal,by omega,hv⟩;obtain⟨l,f,e,h1,_,h3⟩:=rcosts_spec t [t.goal] r.2.1;rcases h3 with⟨_,_,_,rfl,_,hr⟩|⟨_,_,_,_,hm,_⟩|⟨hn,_⟩;obtain⟨p,hp,_⟩:=n5 (l:=l) (i:=0) (by omega) (by rw[hr.1];simp);obtain⟨e1,e2⟩:=hr.2 0 t.goal p rfl hp;have q2:=e2.lc.eq hlc;have hpc:J5 t r.2.1=o.1:=by obtain⟨b1,b2,⟨b3,b4⟩|⟨b3,q,b4,b5⟩⟩:=hlc;exact absurd ⟨hv,hw⟩ (b4 _);have:=b1 _ ⟨hv,hw⟩;have:=hmin q b4.1 b4.2;omega
 have q1:p.1=o.1:=by obtain⟨x,x1,x2⟩:=hw;have hex:=Ex.of (t:=t) (g:=t.goal) (a:=[]) (o:=r.2.1) (b:=[]) (s:=t.init) (e:=x) (by simpa using hv) (by simpa using x1) x2;simp only[jQ,jA] at hex;have:=e1.1 _ hex;have:=e2.mono e1 fun c hc=>hc.nil;omega
 have hl:l=[(o.1,o.1)]:=by
  obtain⟨a,b⟩:=p;simp only at q1 q2;subst q1 q2;match l,hr.1,hp with
  |[x],_,hp=>simp[ix] at hp;rw[hp]
 have hfin:o.1<1000000000:=hlc.fin.2 ⟨_,hv,hw⟩;subst hl;rcases rbest_spec h1 (.inl ⟨rfl,hr,by simp⟩) with⟨hc,_⟩|⟨v,hv',hb⟩;exact absurd rfl hc;have:v=0:=hv'.eq (by have:=(Lst.zero [(o.1,o.1)]).step (p:=(o.1,o.1)) rfl (by omega);rw[if_pos hfin,show min (1000000000:Int) ((o.1,o.1).1 - (o.1,o.1).2)=0 by dsimp only;omega] at this;simpa using this);subst this;have hs:N5 (Bst [(o.1,o.1)] 0) (([(o.1,o.1)]:List (Int×Int)).length:Int)=[0]:=by
  refine((setN1 0 (by omega) (by simp)).eq_of fun x x0 x1=> ?_).symm;have:x=0:=by simp at x1;omega
  subst this;exact⟨fun _=>⟨(o.1,o.1),rfl,hfin,by dsimp only;omega⟩,fun _=>by simp⟩
 rw[h1,hb,hs];simp[ix,ints_eq,o9];exact absurd hm (few_many hf);exact absurd ⟨ht,hobs⟩ hn
end Ab
end
