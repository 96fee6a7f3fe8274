/-
  Texts that the proof stands on.
-/
import Derived.Test.YtnjdfghkeijgnaaGreatDoorKRwChWo6
set_option linter.all false
open List renaming getElem?_eq_getElem->kx,mem_singleton->kz,mem_cons_of_mem->kB,mem_map->kD,mem_of_getElem?->kE,getElem?_of_mem->kF,mem_append->kH,getElem_mem->kI,map_cons->kP,replicate->kQ,length_append->kR,length_singleton->kS,map_append->kT,getElem?_append_left->kW,mem_cons->kZ,nodup_cons->lc,eq_nil_of_length_eq_zero->lg,getElem?_set->li,getElem?_eq_none->lj,length_take->lk,take_length->ll,mem_of_mem_take->lm,append_assoc->lu,take_add_one->lv,length_pos_of_mem->lw,length_eq_one_iff->ly,Pairwise->lz,mem_filter->lA,filter_append->lD,getElem?_take->lE,sum_cons->lH,getElem?_append_right->lI,ext_getElem?->lJ,nodup_append->lK,take_sublist->lL,getElem?_cons_zero->lP,pairwise_singleton->lQ,drop_zero->lV,length_filter_le->lW,perm_append_comm->lY,mem_append_left->lZ,filter_eq_self->ma,getElem_of_mem->mb,mem_cons_self->md,length->mf
open Option renaming bind_some->ky,bind->kJ,getD_some->lO
open Nat renaming gcd->kA,mul_div_cancel_left->kG,le_refl->kL,eq_of_testBit_eq->kX,gcd_pos_of_pos_right->lq,testBit_lt_two_pow->lx,pow_le_pow_right->lB,coprime_div_gcd_div_gcd->lC,lt_of_lt_of_le->lF,testBit_and->lR,Coprime->lT,testBit_or->lX,le_trans->mc,gcd_dvd_right->me
open Int renaming eq_ofNat_of_zero_le->kC,mul_nonneg->kK,toNat_natCast->kM,mul_comm->kO,le_of_mul_le_mul_right->kU,le_refl->kY,mul_le_mul_of_nonneg_right->lf,mul_le_mul_of_nonneg_left->lh,one_mul->ln,toNat_of_nonneg->lp,mul_le_mul->ls,le_trans->lN,toNat_zero->lU
open Classical renaming byContradiction->kV
open Bool renaming false_eq_true->lr
namespace Ab
open Go
variable{n k:Nat}{a:LL}{A:Type}{x y q:Int}{b c:Li}{d:b8}{f:Li->Prop}{g:Li->Option Bool}{i l:Li->Int}{o:Nat->LL}{p:Nat->Li}{r:List (ByteArray×Int)}{s:n9}{B:List (Int×Int)}{L:List w7}{M:A}{P:Li->A}{Q:List A}{V X:Int->A->Option A}
def frN(a b:Nat):E6:=⟨((a / kA a b:Nat):Int),((b / kA a b:Nat):Int)⟩
def frN_eq{c d:Nat}(E:0<k)(F:0<d)(h:n * d=c * k):frN n k=frN c d:=by
 have p:0<kA n k:=lq n E;have r:0<kA c d:=lq c F;obtain⟨j,v⟩:=Nat.gcd_dvd_left n k;obtain⟨g,u⟩:=me n k;obtain⟨l,w⟩:=Nat.gcd_dvd_left c d;obtain⟨i,x⟩:=me c d;have y:lT j g:=by
  have s:j=n / kA n k:=by rw (occs:=.pos [1]) [v];exact(kG _ p).symm ▸ rfl
  have t:g=k / kA n k:=by rw (occs:=.pos [1]) [u];exact(kG _ p).symm ▸ rfl
  rw[s,t];exact lC p
 have z:lT l i:=by
  have s:l=c / kA c d:=by rw (occs:=.pos [1]) [w];exact(kG _ r).symm ▸ rfl
  have t:i=d / kA c d:=by rw (occs:=.pos [1]) [x];exact(kG _ r).symm ▸ rfl
  rw[s,t];exact lC r
 have e:j * i=l * g:=by
  have s:(kA n k * kA c d) * (j * i)=(kA n k * kA c d) * (l * g):=by
   have t:(kA n k * kA c d) * (j * i)=n * d:=by
    have:(kA n k * kA c d) * (j * i)=(kA n k * j) * (kA c d * i):=by grind
    rw[this,<- v,<- x]
   have G:(kA n k * kA c d) * (l * g)=c * k:=by
    have:(kA n k * kA c d) * (l * g)=(kA c d * l) * (kA n k * g):=by grind
    rw[this,<- w,<- u]
   rw[t,G,h]
  exact Nat.eq_of_mul_eq_mul_left (Nat.mul_pos p r) s
 have A:i ∣ g:=by have:i ∣ l * g:=⟨j,by rw[<- e,Nat.mul_comm]⟩;exact lT.dvd_of_dvd_mul_left z.symm this
 have B:g ∣ i:=by have:g ∣ j * i:=⟨l,by rw[e,Nat.mul_comm]⟩;exact lT.dvd_of_dvd_mul_left y.symm this
 have o:g=i:=Nat.dvd_antisymm B A;have H:0<g:=by rcases Nat.eq_zero_or_pos g with q|q;rw[q,Nat.mul_zero] at u;omega;exact q
 have D:j=l:=by rw[<- o] at e;exact Nat.eq_of_mul_eq_mul_right H e
 have J:n / kA n k=j:=by rw (occs:=.pos [1]) [v];exact kG _ p
 have K:k / kA n k=g:=by rw (occs:=.pos [1]) [u];exact kG _ p
 have L:c / kA c d=l:=by rw (occs:=.pos [1]) [w];exact kG _ r
 have M:d / kA c d=i:=by rw (occs:=.pos [1]) [x];exact kG _ r
 unfold frN;rw[J,K,L,M,D,o]
def w64n(h:n<=4000000000000000000):w64 (n:Int)=n:=p9 (by omega) (by omega)
def lowest_pos{a b:Nat}(ha:a<=4000000000000000000)(hb:b<=4000000000000000000)(hb0:0<b):G8 (a:Int) (b:Int)=some (frN a b,dec ((frN a b).num<=1000000000/\(frN a b).den<=1000000000)):=by
 have g0:0<kA a b:=lq a hb0;unfold G8;rw[if_neg (by omega)];simp only[oB];have hm:max (a:Int) (w64 (0 - (a:Int)))=a:=by rw[p9 (by omega) (by omega)];omega
 rw[hm,euclid_eq (.inr hb0)];have hg:chkN ((kA a b:Nat):Int)=some ():=by unfold chkN;rw[if_neg (by omega)]
 have da:((a:Int)).tdiv ((kA a b:Nat):Int)=((a / kA a b:Nat):Int):=(Int.ofNat_tdiv _ _).symm;have db:((b:Int)).tdiv ((kA a b:Nat):Int)=((b / kA a b:Nat):Int):=(Int.ofNat_tdiv _ _).symm;have la:a / kA a b<=4000000000000000000:=mc (Nat.div_le_self _ _) ha;have lb:b / kA a b<=4000000000000000000:=mc (Nat.div_le_self _ _) hb;simp only[hg,oB,da,db,w64n la,w64n lb];unfold frN;dsimp only;generalize a / kA a b=x at *;generalize b / kA a b=y at *;have hm2:max (x:Int) (w64 (0 - (x:Int)))=x:=by rw[p9 (by omega) (by omega)];omega
 rw[hm2];congr 2;by_cases c:(x:Int)<=1000000000/\(y:Int)<=1000000000;rw[i9 c];simp;omega;rw[s9 c];simp;omega
def lowest_neg(c:n<=4000000000000000000)(d:k<=4000000000000000000)(e:0<k):G8 (-(n:Int)) (-(k:Int))=G8 (n:Int) (k:Int):=by
 unfold G8;rw[if_pos (by omega),if_neg (by omega)];have f:w64 (0 - -(n:Int))=n:=by rw[show(0:Int) - -(n:Int)=n by omega];exact w64n c
 have g:w64 (0 - -(k:Int))=k:=by rw[show(0:Int) - -(k:Int)=k by omega];exact w64n d
 rw[f,g]
structure Sq(n:Nat)(M:LL):Prop where
 len:mf M=n
 row:∀r ∈ M,mf r=n
def Sq.get{n:Nat}(h:Sq n a){i:Nat}(hi:i<n):∃row,a[i]? =some row/\(mf row)=n/\ix a (i:Int)=some row/\∀j,j<n->ix row (j:Int)=some (mE a i j)/\row[j]? =some (mE a i j):=by
 have c:i<mf a:=by rw[h.len];exact hi
 have e:a[i]? =some a[i]:=kx c;have f:=h.row _ (kI c);refine⟨a[i],e,f,by rw[v8,e],fun j g=> ?_⟩;have b:j<a[i].length:=by omega
 have d:a[i][j]? =some a[i][j]:=kx b;have:mE a i j=a[i][j]:=by unfold mE;rw[e];simp[d]
 rw[v8,d,this];exact⟨rfl,rfl⟩
def Bd(n:Nat)(A:Mtx):Prop:=∃l,(∀i,i<n->smN n (fun j=>if j=l then 0 else ab (A i j))<=48)/\(l<n->∀i,i<n->ab (A i l)<=2400)
def Bd.entry{A:Mtx}(h:Bd n A){j:Nat}(hi:k<n)(b:j<n):ab (A k j)<=2400:=by obtain⟨l,c,d⟩:=h;by_cases e:j=l;subst e;exact d b k hi;have:=ad7 (f:=fun a=>if a=l then 0 else ab (A k a)) (fun a=>by split;omega;exact E5 _) (Nat.zero_le j) b;simp only[smN,if_neg e] at this;have:=c k hi;omega
def Bd.det{A:Mtx}(d:n<=5)(h:Bd n A):ab (det n A)<=63700992000:=by
 obtain⟨l,b,c⟩:=h;by_cases e:l<n;obtain⟨m,rfl⟩:∃m,n=m+1:=⟨n - 1,by omega⟩;have:=av3 (R:=48) (B:=2400) (by omega) (by omega) e b (c e);have a:m=0\/m=1\/m=2\/m=3\/m=4:=by omega
 refine lN this ?_;rcases a with rfl|rfl|rfl|rfl|rfl<;>decide;have:=an4 (n:=n) (A:=A) (r:=fun _=>48) (fun _=>by omega) fun i hi=>by have:=b i hi;rwa [o8 (g:=fun j=>ab (A i j)) fun j f=>by rw[if_neg (by omega)]] at this
 rw[am9] at this;have a:n=0\/n=1\/n=2\/n=3\/n=4\/n=5:=by omega
 refine lN this ?_;rcases a with rfl|rfl|rfl|rfl|rfl|rfl<;>decide
def Lt.forN(h:∀i s,Lt (V i s) (X i s)):∀(k:Nat) (i:Int) (s:A),Lt (forN V k i s) (forN X k i s)
 |0,_,_=>Lt.rfl'
 |k+1,i,s=>fun r a=>by
  simp only[Ab.forN] at a ⊢;cases b:V i s with
  |none=>rw[b] at a;cases a
  |some x=>
   rw[h i s x b]
   rw[b] at a
   exact Lt.forN h k (i+1) x r a
def Lt.forR(h:∀i M,Lt (V i M) (X i M)):Lt (forR x y V M) (forR x y X M):=Lt.forN h _ _ _
/-! ### Values of ordered states -/
noncomputable def sc(t:b8)(s:Li)(op:Int):LL:=(ooAt t op).outcomes.map (efc t.facts s)
structure Rep{A:Type}(all:LL)(v:List A)(f:Li->A):Prop where
 len:mf v=mf all
 get:∀{i:Int} {s:Li},ix all i=some s->ix v i=some (f s)
noncomputable def upd(f:Li->A)(s:Li)(x:A):Li->A:=fun z=>if dec (z=s)=true then x else f z
def upd_self:upd P b M b=M:=ifP rfl
def upd_ne(h:c ≠ b):upd P b M c=P c:=ifN h
def Rep.of(h:Rep a Q P)(c:b ∈ a):∃i,ix a i=some b/\ix Q i=some (P b):=by obtain⟨i,_,_,hi⟩:=p8 c;exact⟨i,hi,h.get hi⟩
def Rep.set{f:Li->A}(c:Ord a)(h:Rep a Q f){i:Int}{s:Li}(hi:ix a i=some s)(x:A):Rep a (Q.set i.toNat x) (upd f s x):=by obtain⟨d,l,_⟩:=n8 hi;have g:=h.len;refine⟨by rw[lS];exact g,fun {j z} b=> ?_⟩;rw[U5 d (by omega) (n8 b).1];by_cases e:j=i;subst e;rw[hi] at b;cases b;rw[if_pos rfl,upd_self];rw[if_neg e,upd_ne (fun k=>e (by subst k;exact c.inj b hi))];exact h.get b
def Rep.congr{g:Li->A}(h:Rep a Q P)(e:∀s ∈ a,P s=g s):Rep a Q g:=⟨h.len,fun hi=>by rw[<- e _ (l8 hi)];exact h.get hi⟩
def Rep.repl(c:A):Rep a (kQ (mf a) c) fun _=>c:=⟨by simp,fun {i s} hi=>by obtain⟨b,d,g⟩:=n8 hi;have:i.toNat<mf a:=(lG.1 g).1;rw[ix,if_pos b,List.getElem?_replicate,if_pos this]⟩
def repeat_eq(c:Int)(a:1<=n)(b:n<=100000):F6 [c] (n:Int)=some (kQ n c):=by unfold F6;dsimp only;rw[if_pos (show(1:Int)<=n/\(n:Int)<=4294967295 by omega)];simp
def DnA(t:b8):Nat->Li->Prop
 |0,s=>l9 t s
 |k+1,s=>l9 t s\/∃op:Int,(0<=op/\op<mf t.operators)/\oCan t s op/\∀y ∈ sc t s op,DnA t k y
def DnA.goal{t:b8}{k:Nat}{s:Li}(h:l9 t s):DnA t k s:=by
 cases k with
 |zero=>exact h
 |succ k=>exact .inl h
def DnA.succ:∀{k:Nat} {s:Li},DnA d k s->DnA d (k+1) s
 |0,s,h=>.inl h
 |k+1,s,h=>by rcases h with h|⟨op,a,b,c⟩;exact .inl h;exact .inr ⟨op,a,b,fun y e=>DnA.succ (c y e)⟩
def DnA.mono(h:DnA d n b)(a:n<=k):DnA d k b:=by
 induction a with
 |refl=>exact h
 |step _ c=>exact c.succ
def HtA(t:b8)(k:Nat)(s:Li):Prop:=DnA t k s/\∀j,j<k->¬ DnA t j s
def HtA.zero(h:l9 d b):HtA d 0 b:=⟨h,fun j a=>by omega⟩
def HtA.of_not(h:DnA d (n+1) b)(a:¬ DnA d n b):HtA d (n+1) b:=⟨h,fun j e c=>a (c.mono (by omega))⟩
structure ClO(t:b8)(all:LL):Prop where
 cl:Cl t all
 ord:Ord all
def ClO.len{t:b8}(h:ClO t a):mf a<=2000:=h.cl.len
def ClO.set(h:ClO d a){s:Li}(hs:s ∈ a):SetN s d.facts:=h.cl.set s hs
def ClO.sc{t:b8}{all:LL}(h:ClO t all)(d:b ∈ all){op:Int}(a:0<=op/\op<mf t.operators)(e:oCan t b op)(f:c ∈ sc t b op):c ∈ all:=by obtain⟨x,g,rfl⟩:=kD.1 f;exact h.cl.closed b d op a.1 a.2 e x g
/-! ### Loops that do the same, till one of them gives up -/
def sumN(l:Li):Nat:=(l.map Int.toNat).sum
def sumN_set:∀{l:Li} {i:Nat} {x y:Int},l[i]? =some y->0<=x->x<y->sumN (l.set i x)<sumN l
 |[],_,_,_,h,_,_=>by simp at h
 |a::l,0,x,y,h,b,c=>by simp only[lP,Option.some.injEq] at h;subst h;simp only[sumN,List.set_cons_zero,kP,lH];omega
 |a::l,i+1,x,y,h,b,c=>by have:=sumN_set (l:=l) (i:=i) (by simpa using h) b c;simp only[sumN,List.set_cons_succ,kP,lH] at this ⊢;omega
def DsC(t:b8)(S:Li->Prop):Nat->Li->Prop
 |0,s=>l9 t s
 |k+1,s=>l9 t s\/(S s/\∃op:Int,(0<=op/\op<mf t.operators)/\oCan t s op/\(∀y ∈ sc t s op,S y)/\∃y ∈ sc t s op,DsC t S k y)
def DsC.goal{t:b8}{k:Nat}{s:Li}(h:l9 t s):DsC t f k s:=by
 cases k with
 |zero=>exact h
 |succ k=>exact .inl h
def DsC.succ:∀{k:Nat} {s:Li},DsC d f k s->DsC d f (k+1) s
 |0,s,h=>.inl h
 |k+1,s,h=>by rcases h with h|⟨a,op,b,c,e,y,g,i⟩;exact .inl h;exact .inr ⟨a,op,b,c,e,y,g,i.succ⟩
def DsC.mono(h:DsC d f n b)(a:n<=k):DsC d f k b:=by
 induction a with
 |refl=>exact h
 |step _ c=>exact c.succ
def DsC.sub{T:Li->Prop}(a:∀s,f s->T s):∀{k:Nat} {s:Li},DsC d f k s->DsC d T k s
 |0,s,h=>h
 |k+1,s,h=>by rcases h with h|⟨b,op,c,e,g,y,i,j⟩;exact .inl h;exact .inr ⟨a s b,op,c,e,fun z l=>a z (g z l),y,i,j.sub a⟩
def HtD(t:b8)(S:Li->Prop)(k:Nat)(s:Li):Prop:=DsC t S k s/\∀j,j<k->¬ DsC t S j s
def HtD.unique(h:HtD d f n b)(a:HtD d f k b):n=k:=by rcases Nat.lt_trichotomy n k with c|c|c;exact absurd h.1 (a.2 n c);exact c;exact absurd a.1 (h.2 k c)
def HtD.of_dn:∀{k:Nat} {s:Li},DsC d f k s->∃m,m<=k/\HtD d f m s
 |0,s,h=>⟨0,kL _,h,fun j a=>by omega⟩
 |k+1,s,h=>by by_cases c:DsC d f k s;obtain⟨m,g,b⟩:=HtD.of_dn c;exact⟨m,by omega,b⟩;exact⟨k+1,kL _,h,fun j a e=>c (e.mono (by omega))⟩
def HtD.of_not(h:DsC d f (n+1) b)(a:¬ DsC d f n b):HtD d f (n+1) b:=⟨h,fun j e c=>a (c.mono (by omega))⟩
def HtD.step{t:b8}{S:Li->Prop}{k:Nat}{s:Li}(h:HtD t S (k+1) s):¬ l9 t s/\S s/\∃op:Int,(0<=op/\op<mf t.operators)/\oCan t s op/\(∀y ∈ sc t s op,S y)/\∃y ∈ sc t s op,HtD t S k y:=by have a:¬ l9 t s:=fun g=>h.2 0 (by omega) g;rcases h.1 with g|⟨b,op,c,d,e,y,f,i⟩;exact absurd g a;exact ⟨a,b,op,c,d,e,y,f,i,fun j n l=> (h.2 (j+1) (by omega) (.inr ⟨b,op,c,d,e,y,f,l⟩))⟩
def HtD.chain(g:ClO d a):∀{k:Nat} {s:Li},s ∈ a->HtD d f k s->∃c:LL,mf c=k+1/\c.Nodup/\∀x ∈ c,x ∈ a/\∃j,j<=k/\HtD d f j x
 |0,s,e,h=>⟨[s],rfl,by simp,fun x b=>by rw[kz.1 b];exact⟨e,0,kL _,h⟩⟩
 |k+1,s,e,h=>by obtain⟨_,_,op,l,n,_,y,o,p⟩:=h.step;obtain⟨c,c1,q,i⟩:=HtD.chain g (g.sc e l n o) p;refine⟨s::c,by simp[c1],lc.2 ⟨fun r=> ?_,q⟩,fun x b=> ?_⟩;obtain⟨_,j,z,u⟩:=i s r;have:=u.unique h;omega;rcases kZ.1 b with rfl|b;exact⟨e,k+1,kL _,h⟩;obtain⟨v,j,A,w⟩:=i x b;exact⟨v,j,by omega,w⟩
def HtD.lt(e:ClO d a)(g:b ∈ a)(h:HtD d f n b):n<mf a:=by obtain⟨c,c1,i,j⟩:=h.chain e g;have:=ad1 i fun x l=>(j x l).1;omega
/-! ### Lists of numbers -/
def aG4{f:Int->Option Bool}{p:Int->Prop}(h:∀x ∈ b,f x=some (dec (p x))):w3 b f=some (dec (∃x ∈ b,p x)):=by unfold w3 G4;rcases I2 (body:=A9 b f) (n:=(mf b:Int)) (fun j=>if dec (∃x,ix b j=some x/\p x)=true then some j else none) (by omega) (fun j g d _=>by obtain⟨x,a,_⟩:=j7 (l:=b) g d;unfold A9;simp only[a,oB,h x (l8 a)];by_cases e:p x;rw[ifP e,ifP ⟨x,rfl,e⟩];rw[ifN e,ifN (by rintro ⟨z,q,hp⟩;cases q;exact e hp)]) with⟨d,c⟩|⟨j,o,g,d,c,u,r⟩;rw[d];simp only[oB];rw[s9];rfl;rintro ⟨x,a,hp⟩;obtain⟨i,s,t,hi⟩:=p8 a;have:=c i s t;rw[ifP ⟨x,hi,hp⟩] at this;cases this;rw[r];split at c;rename_i e;cases c;simp only[oB];obtain⟨x,a,hp⟩:=m5.1 e;rw[i9 ⟨x,l8 a,hp⟩,decide_eq_true g];cases c
def containsFL_eq{p:Li->Prop}(h:∀x ∈ a,g x=some (dec (p x))):C5 a g=some (dec (∃x ∈ a,p x)):=by unfold C5 z8;rcases I2 (body:=C0 a g) (n:=(mf a:Int)) (fun j=>if dec (∃x,ix a j=some x/\p x)=true then some j else none) (by omega) (fun j k d _=>by obtain⟨x,b,_⟩:=j7 (l:=a) k d;unfold C0;simp only[b,oB,h x (l8 b)];by_cases e:p x;rw[ifP e,ifP ⟨x,rfl,e⟩];rw[ifN e,ifN (by rintro ⟨z,r,hp⟩;cases r;exact e hp)]) with⟨d,c⟩|⟨j,o,k,d,c,v,s⟩;rw[d];simp only[oB];rw[s9];rfl;rintro ⟨x,b,hp⟩;obtain⟨i,t,u,hi⟩:=p8 b;have:=c i t u;rw[ifP ⟨x,hi,hp⟩] at this;cases this;rw[s];split at c;rename_i e;cases c;simp only[oB];obtain⟨x,b,hp⟩:=m5.1 e;rw[i9 ⟨x,l8 b,hp⟩,decide_eq_true k];cases c
/-! ### The numbers of the states after an operator -/
def ArcL(t:b8)(all:LL)(s:Li)(op:Int)(l:Li):Prop:=(oCan t s op/\∀k,k ∈ l↔∃y ∈ sc t s op,ix all k=some y)\/(¬ oCan t s op/\l=[])
structure ArcsOk(t:b8)(all:LL)(nx:List (LL)):Prop where
 len:mf nx=mf all
 row:∀i s,ix all i=some s->∃r,ix nx i=some r/\(mf r)=mf t.operators/\∀op l,ix r op=some l->ArcL t all s op l
def ix_set_same{a:A}(h:ix Q y=some a):ix (Q.set y.toNat M) y=some M:=by obtain⟨b,c,_⟩:=n8 h;rw[U5 b c b,if_pos rfl]
def arcs_eq(L:k8 d)(G:ClO d a):∃f,ak1 d a=some f/\ArcsOk d a f:=by
 have U:=G.len;have V:=L.ops;unfold ak1;rw[show mkL 24 (mf a:Int) ([]:LL)=some (kQ (mf a) []) by rw[mkL,if_pos (by omega)];simp];simp only[oB];obtain⟨f,h1,h2,h3⟩:=u9 (body:=ai7 d a) (n:=(mf a:Int)) (s:=kQ (mf a) ([]:LL)) (fun j f=>mf f=mf a/\∀i s,i<j->ix a i=some s->∃r,ix f i=some r/\(mf r)=mf d.operators/\∀op l,ix r op=some l->ArcL d a s op l) (by omega) ⟨by simp,fun i s hi o=>by have:=(n8 o).1;omega⟩ (fun j f M j1 ⟨a1,a2⟩=>by
  obtain⟨s,o,_⟩:=j7 (l:=a) M j1;have H:=l8 o;have p:=G.set H;obtain⟨r0,J,_⟩:=j7 (l:=f) M (by omega);unfold ai7;rw[o];simp only[oB];rw[show mkL 24 (mf d.operators:Int) ([]:Li)=some (kQ (mf d.operators) []) by rw[mkL,if_pos (by omega)];simp];simp only[oB,J];obtain⟨r,r1,r2,r3⟩:=u9 (body:=ai0 d a s) (n:=(mf d.operators:Int)) (s:=kQ (mf d.operators) ([]:Li)) (fun k r=>mf r=mf d.operators/\(∀op l,op<k->ix r op=some l->ArcL d a s op l)/\∀op l,k<=op->ix r op=some l->l=[]) (by omega) ⟨by simp,fun op l h0 h=>by have:=(n8 h).1;omega,fun op l _ h=>List.eq_of_mem_replicate (l8 h)⟩ (fun k r B N ⟨b1,b2,b3⟩=>by
   unfold ai0;rw[oCan_eq L B N p];simp only[oB,B9];by_cases K:oCan d s k;rw[ifNN K];obtain⟨st,ws,D,_,u,q4,_⟩:=aa3 L B N p;have v:∀y,y ∈ st↔y ∈ sc d s k:=fun y=>by rw[u,sc,kD]
   rw[D];simp only[oB];obtain⟨l0,w,_⟩:=j7 (l:=r) B (by omega);have e0:l0=[]:=b3 k l0 (kY _) w;subst e0;obtain⟨x,d1,d2,l',d3,d4,d5⟩:=u9 (body:=ai6 a k (st,ws)) (n:=(mf st:Int)) (s:=r) (fun m x=>mf x=mf r/\∃l,x=r.set k.toNat l/\(mf l:Int)<=m/\∀z,z ∈ l↔∃q y,0<=q/\q<m/\ix st q=some y/\ix a z=some y) (by omega) ⟨rfl,[],(by have:=(n8 w).2.2;refine(lJ fun i=> ?_);rw[li];split;rename_i e;subst e;rw[if_pos (lG.1 this).1,this];rfl),by simp,fun z=>⟨fun h=>by(cases h),fun⟨q,y,E,D,_⟩=>by omega⟩⟩ (fun m x X m1 ⟨e1,l,t,e3,e4⟩=>by
    obtain⟨y,F,_⟩:=j7 (l:=st) X m1
    have O:=G.sc H ⟨B,N⟩ K ((v y).1 (l8 F))
    obtain⟨z,z0,z1,c⟩:=p8 O
    have hg:ix x k=some l:=by rw[t];exact ix_set_same w
    unfold ai6
    dsimp only
    rw[F]
    simp only[oB,hg,af1 G.ord (show (mf a)<=500000 by omega) c]
    rw[app,if_pos (by simp;omega)]
    simp only[oB]
    refine⟨_,rfl,by rw[lS];exact e1,l++[z],by rw[t,List.set_set],by simp;omega,fun z'=> ?_⟩
    rw[kH,kz,e4]
    constructor
    ·rintro (⟨q,P,E,D,A,u⟩|rfl)
     ·exact⟨q,P,E,by omega,A,u⟩
     ·exact⟨m,y,X,by omega,F,c⟩
    ·rintro ⟨q,P,E,D,A,u⟩
     by_cases e:q=m
     ·subst e;rw[F] at A;cases A
      exact .inr (G.ord.inj u c)
     ·exact .inl ⟨q,P,E,by omega,A,u⟩)
   rw[d1];simp only[oB];refine⟨_,rfl,by omega,fun op l Q b=> ?_,fun op l Q b=> ?_⟩;rw[d3] at b;rcases(by have:=(n8 b).1;rw[U5 B (by omega) this] at b;by_cases e:op=k;rw[if_pos e] at b;exact .inl ⟨e,Option.some.inj b⟩;rw[if_neg e] at b;exact .inr ⟨e,b⟩:(op=k/\l'=l)\/(op ≠ k/\ix r op=some l)) with⟨rfl,rfl⟩|⟨e,b⟩;refine .inl ⟨K,fun z=> ?_⟩;rw[d5];constructor;rintro ⟨q,y,_,_,A,u⟩;exact⟨y,(v y).1 (l8 A),u⟩;rintro ⟨y,F,c⟩;obtain⟨q,E,D,hq⟩:=p8 ((v y).2 F);exact⟨q,y,E,D,hq,c⟩;exact b2 op l (by omega) b;rw[d3,U5 B (by omega) (by omega),if_neg (by omega)] at b;exact b3 op l (by omega) b;rw[ifP K];refine⟨_,rfl,b1,fun op l Q b=> ?_,fun op l Q b=>b3 op l (by omega) b⟩;by_cases e:op=k;subst e;exact .inr ⟨K,b3 op l (kY _) b⟩;exact b2 op l (by omega) b)
  rw[r1];simp only[oB];refine⟨_,rfl,by rw[lS];exact a1,fun i z hi c=> ?_⟩;by_cases e:i=j;subst e;rw[o] at c;cases c;exact⟨r,ix_set_same J,r2,fun op l b=>r3.1 op l (by have:=(n8 b).2.1;omega) b⟩;obtain⟨x,g1,g2⟩:=a2 i z (by omega) c;exact⟨x,by rw[U5 M (by omega) (n8 c).1,if_neg e];exact g1,g2⟩)
 rw[h1];exact⟨f,rfl,h2,fun i s o=>h3 i s (n8 o).2.1 o⟩
def sumN_le{x:Int}(h:b[n]? =some y)(a:0<=x)(c:x<=y):sumN (b.set n x)<=sumN b:=by
 by_cases e:x=y;subst e;have:b.set n x=b:=by refine lJ fun k=> ?_;rw[li];split;rename_i e;subst e;rw[if_pos (lG.1 h).1,h];rfl
 rw[this];exact kL _;exact Nat.le_of_lt (sumN_set h a (by omega))
noncomputable def sfl(S:Li->Prop)(s:Li):Int:=if dec (S s)=true then 1 else 0
def af0{s:Li}(h:f s):sfl f s=1:=ifP h
def an3(h:¬ f b):sfl f b=0:=ifN h
def measure1{d:Li}(q:Rep a b (sfl f))(r:Rep a d i)(u:0<=x/\x<=1000000){l:Li}(hk:∀k ∈ l,∃s,ix a k=some s):
  N6 l b d x=some (dec (l ≠ []/\(∀k ∈ l,∀s,ix a k=some s->f s)/\∃k ∈ l,∃s,ix a k=some s/\i s=x - 1)):=by
 have t:ae5 l b=some (dec (l ≠ []/\∀k ∈ l,∀s,ix a k=some s->f s)):=by unfold ae5;by_cases c:0<(mf l:Int);rw[if_pos c,aG4 (p:=fun k=>∃s,ix a k=some s/\¬ f s) (fun k j=>by obtain⟨s,g⟩:=hk k j;unfold af3;rw[q.get g];simp only[oB];by_cases e:f s;rw[af0 e,s9 (by rintro ⟨z,n,o⟩;rw[g] at n;cases n;exact o e)];rfl;rw[an3 e,i9 ⟨s,g,e⟩];rfl)];simp only[oB,B9];congr 1;refine x7 ⟨fun h=>⟨fun e=>by rw[e] at c;simp at c,fun k j s g=>kV fun o=>h ⟨k,j,s,g,o⟩⟩,fun h=> ?_⟩;rintro ⟨k,j,s,g,o⟩;exact o (h.2 k j s g);rw[if_neg c,s9];rfl;exact fun h=>h.1 (lg (by omega))
 unfold N6
 rw[t]
 simp only[oB]
 by_cases c:l ≠ []/\∀k ∈ l,∀s,ix a k=some s->f s
 ·rw[ifP c,aG4 (p:=fun k=>∃s,ix a k=some s/\i s=x - 1) (fun k j=>by obtain⟨s,g⟩:=hk k j;unfold X1;rw[r.get g,p9 (by omega) (by omega)];simp only[oB,L8];congr 1;refine x7 ⟨fun e=>⟨s,g,e⟩,?_⟩;rintro ⟨z,n,e⟩;rw[g] at n;cases n;exact e)]
  simp only[oB]
  congr 1
  exact x7 ⟨fun h=>⟨c.1,c.2,h⟩,fun h=>h.2.2⟩
 ·rw[ifN c]
  simp only[oB]
  rw[s9]
  exact fun h=>c ⟨h.1,h.2.1⟩
def StepC(t:b8)(S:Li->Prop)(f:Li->Int)(s:Li)(v:Int):Prop:=∃op:Int,(0<=op/\op<mf t.operators)/\oCan t s op/\(∀y ∈ sc t s op,S y)/\∃y ∈ sc t s op,f y=v
def measureR{t:b8}(ht:k8 t)(K:ClO t a){L:List (LL)}(N:ArcsOk t a L)(O:Rep a b (sfl f))(P:Rep a c i){layer:Int}(Q:0<=layer/\layer<=1000000){s:Li}(hi:ix a y=some s):
  ∃r,ix L y=some r/\C5 r (fun U=>N6 U b c layer)=some (dec (StepC t f i s (layer - 1))):=by
 obtain⟨r,V,r2,M⟩:=N.row y s hi
 have w:=l8 hi
 refine⟨r,V,?_⟩
 have inr:∀x ∈ r,∃op,ix r op=some x/\(0<=op/\op<mf t.operators)/\ArcL t a s op x:=fun x u=>by obtain⟨op,X,o1,n⟩:=p8 u;exact⟨op,n,⟨X,by omega⟩,M op x n⟩
 rw[containsFL_eq (p:=fun l=>l ≠ []/\(∀k ∈ l,∀s,ix a k=some s->f s)/\∃k ∈ l,∃s,ix a k=some s/\i s=layer - 1) (fun x u=>by obtain⟨op,_,n,j⟩:=inr x u;refine measure1 O P Q fun k hk=> ?_;rcases j with⟨_,j⟩|⟨_,rfl⟩;obtain⟨g,_,o⟩:=(j k).1 hk;exact⟨g,o⟩;cases hk)]
 congr 1
 refine x7 ⟨?_,?_⟩
 ·rintro ⟨x,u,E,d,k,hk,z,F,G⟩
  obtain⟨op,_,n,j⟩:=inr x u
  rcases j with⟨h,j⟩|⟨_,rfl⟩
  ·refine⟨op,n,h,fun g o=> ?_,z,?_,G⟩
   ·obtain⟨q,_,_,A⟩:=p8 (K.sc w n h o)
    exact d q ((j q).2 ⟨g,o,A⟩) g A
   ·obtain⟨g,o,B⟩:=(j k).1 hk
    rw[F] at B;cases B;exact o
  ·exact absurd rfl E
 ·rintro ⟨op,n,h,E,g,o,G⟩
  obtain⟨x,u,_⟩:=j7 (l:=r) n.1 (by omega)
  rcases M op x u with⟨_,j⟩|⟨H,_⟩
  ·obtain⟨q,_,_,A⟩:=p8 (K.sc w n h o)
   have v:=(j q).2 ⟨g,o,A⟩
   refine⟨x,l8 u,⟨fun e=>(by rw[e] at v;cases v),fun k hk z F=> ?_,q,v,g,A,G⟩⟩
   obtain⟨z',J,D⟩:=(j k).1 hk
   rw[F] at D;cases D
   exact E z J
  ·exact absurd h H
def RankD(t:b8)(S:Li->Prop)(all:LL)(f:Li->Int)(L:Nat):Prop:=∀s ∈ all,(f s= -1/\¬ DsC t S L s)\/∃k:Nat,k<=L/\f s=k/\HtD t S k s
def RankD.fresh{S:Li->Prop}(r:ClO d a){f:Li->Int}(h:RankD d S a f n)(j:b ∈ a):HtD d S (n+1) b↔f b<0/\S b/\StepC d S f b n:=by
 constructor;intro u;have l:¬ DsC d S n b:=u.2 n (by omega);have v:f b= -1:=by rcases h b j with⟨e,_⟩|⟨k,w,_,x⟩;exact e;exact absurd (x.1.mono w) l
 obtain⟨_,o,op,c,g,p,y,i,q⟩:=u.step;refine⟨by omega,o,op,c,g,p,y,i,?_⟩;rcases h y (r.sc j c g i) with⟨_,e⟩|⟨k,_,e,hk⟩;exact absurd q.1 e;rw[e,hk.unique q];rintro ⟨v,o,op,c,g,p,y,i,q⟩;have l:¬ DsC d S n b:=by rcases h b j with⟨_,e⟩|⟨k,_,e,_⟩;exact e;omega
 refine HtD.of_not (.inr ⟨o,op,c,g,p,y,i,?_⟩) l;rcases h y (r.sc j c g i) with⟨e,_⟩|⟨k,_,e,hk⟩;omega;have:k=n:=by omega
 subst this;exact hk.1
def measure_eq(ht:k8 d)(w:ClO d a){nx:List (LL)}(hn:ArcsOk d a nx){sv:Li}(D:Rep a sv (sfl f)):
  ∃v g,ac4 d a nx sv=some v/\Rep a v g/\∀s ∈ a,(g s= -1/\∀k,¬ DsC d f k s)\/∃k:Nat,g s=k/\HtD d f k s:=by
 have ac:=w.len
 have ad:=ht.n1
 unfold ac4
 rw[repeat_eq (-1) (lw w.cl.init) (by omega)]
 simp only[oB]
 obtain⟨v0,a1,f0,a2,a3⟩:=u9 (body:=aa8 d a) (n:=(mf a:Int)) (s:=kQ (mf a) (-1)) (fun j v=>∃g,Rep a v g/\∀i s,ix a i=some s->(i<j->(l9 d s->g s=0)/\(¬ l9 d s->g s= -1))/\(j<=i->g s= -1)) (by omega) ⟨_,Rep.repl (-1),fun i s hi=>⟨fun h=>by have:=(n8 hi).1;omega,fun _=>rfl⟩⟩ (fun j v j0 j1 ⟨g,P,K⟩=>by obtain⟨s,D,_⟩:=j7 (l:=a) j0 j1;have M:=w.set (l8 D);have al:=M.len;unfold aa8;rw[D];simp only[oB,aa0 M.1 ht.goal.1 (show (mf s)<=1000000 by omega),P.get D];by_cases H:l9 d s;rw[ifP (p:=∀x ∈ d.goal,x ∈ s) H];refine⟨_,rfl,_,P.set w.ord D 0,fun i z q=> ?_⟩;by_cases e:i=j;subst e;rw[D] at q;cases q;rw[upd_self];exact⟨fun _=>⟨fun _=>rfl,fun h=>absurd H h⟩,fun h=>by omega⟩;rw[upd_ne (fun Q=>e (w.ord.inj q (by rw[Q];exact D)))];exact⟨fun h=>(K i z q).1 (by omega),fun h=>(K i z q).2 (by omega)⟩;rw[ifN (p:=∀x ∈ d.goal,x ∈ s) H];refine⟨_,rfl,_,P,fun i z q=> ?_⟩;by_cases e:i=j;subst e;rw[D] at q;cases q;exact⟨fun _=>⟨fun h=>absurd h H,fun _=>(K i s D).2 (kY _)⟩,fun h=>by omega⟩;exact⟨fun h=>(K i z q).1 (by omega),fun h=>(K i z q).2 (by omega)⟩)
 rw[a1]
 simp only[oB]
 have r0:RankD d f a f0 0:=fun s D=>by obtain⟨i,_,i1,hi⟩:=p8 D;have:=(a3 i s hi).1 i1;by_cases H:l9 d s;exact .inr ⟨0,kL _,this.1 H,H,fun j hj=>by omega⟩;exact .inl ⟨this.2 H,H⟩
 obtain⟨v,e1,g,L,e2,e3,e4⟩:=E8 (body:=ab1 a nx sv) (fun x=>∃g L,Rep a x.1 g/\x.2=((L:Nat):Int)+1/\RankD d f a g L/\L<=mf a) (fun v=>∃g L,Rep a v g/\RankD d f a g L/\(mf a)<=L) (fun x=>(mf a+2 - x.2).toNat) (s:=(v0,1)) ⟨f0,0,a2,by simp,r0,by omega⟩ (fun⟨v,U⟩ ⟨g,L,P,K,V,h4⟩=>by
  dsimp only at P K ⊢;subst K;unfold ab1;dsimp only;by_cases c:((L:Nat):Int)+1<=mf a;rw[if_pos c];obtain⟨v',g1,F,g2,g3⟩:=u9 (body:=aa5 nx sv (((L:Nat):Int)+1)) (n:=(mf a:Int)) (s:=v) (fun j v'=>∃F,Rep a v' F/\∀i s,ix a i=some s->(i<j->(HtD d f (L+1) s->F s=((L:Nat):Int)+1)/\(¬ HtD d f (L+1) s->F s=g s))/\(j<=i->F s=g s)) (by omega) ⟨g,P,fun i s hi=>⟨fun h=>by have:=(n8 hi).1;omega,fun _=>rfl⟩⟩ (fun j v' j0 j1 ⟨F,E,G⟩=>by
   obtain⟨s,u,_⟩:=j7 (l:=a) j0 j1;have o:=l8 u;have N:∀y ∈ a,F y=(L:Int)↔g y=L:=fun y O=>by obtain⟨i,_,_,hi⟩:=p8 O;have b:=G i y hi;by_cases ci:i<j;by_cases A:HtD d f (L+1) y;have:=(V.fresh w O).1 A;rw[(b.1 ci).1 A];omega;rw[(b.1 ci).2 A];rw[b.2 (by omega)]
   have X:F s=g s:=(G j s u).2 (kY _);obtain⟨r,r1,r2⟩:=measureR ht w hn D E (layer:=((L:Nat):Int)+1) (by omega) u;have aa:StepC d f F s (((L:Nat):Int)+1 - 1)↔StepC d f g s L:=by rw[show((L:Nat):Int)+1 - 1=L by omega];constructor;rintro ⟨op,o1,o2,o3,y,O,e⟩;exact⟨op,o1,o2,o3,y,O,(N y (w.sc o o1 o2 O)).1 e⟩;rintro ⟨op,o1,o2,o3,y,O,e⟩;exact⟨op,o1,o2,o3,y,O,(N y (w.sc o o1 o2 O)).2 e⟩
   unfold aa5;rw[E.get u,D.get u];simp only[oB];have key:(if 0<=F s then some true else some (decide (sfl f s=0)))=some (dec (¬ (g s<0/\f s))):=by rw[X];by_cases c1:0<=g s;rw[if_pos c1,i9 (fun h=>by omega)];rw[if_neg c1];by_cases c2:f s;rw[af0 c2,s9 (fun h=>h ⟨by omega,c2⟩)];rfl;rw[an3 c2,i9 (fun h=>c2 h.2)];rfl
   rw[key];simp only[oB];have keep:∀B:Li->Int,(∀z ∈ a,z ≠ s->B z=F z)->((HtD d f (L+1) s->B s=((L:Nat):Int)+1)/\(¬ HtD d f (L+1) s->B s=g s))->∀i z,ix a i=some z->(i<j+1->(HtD d f (L+1) z->B z=((L:Nat):Int)+1)/\(¬ HtD d f (L+1) z->B z=g z))/\(j+1<=i->B z=g z):=fun B k1 k2 i z q=>by by_cases e:i=j;subst e;rw[u] at q;cases q;exact⟨fun _=>k2,fun h=>by omega⟩;have t:z ≠ s:=fun Q=>e (w.ord.inj q (by rw[Q];exact u));rw[k1 z (l8 q) t];exact⟨fun h=>(G i z q).1 (by omega),fun h=>(G i z q).2 (by omega)⟩
   by_cases cs:g s<0/\f s;rw[ifNN cs,r1];simp only[oB,r2];rw[x7 aa];by_cases ch:StepC d f g s L;rw[ifP ch];have A:=(V.fresh w o).2 ⟨cs.1,cs.2,ch⟩;exact⟨_,rfl,_,E.set w.ord u _,keep _ (fun z _ t=>upd_ne t) ⟨fun _=>upd_self,fun h=>absurd A h⟩⟩;rw[ifN ch];have A:¬ HtD d f (L+1) s:=fun h=>ch ((V.fresh w o).1 h).2.2;exact⟨_,rfl,_,E,keep _ (fun z _ _=>rfl) ⟨fun h=>absurd h A,fun _=>X⟩⟩;rw[ifP cs];have A:¬ HtD d f (L+1) s:=fun h=>cs ⟨((V.fresh w o).1 h).1,((V.fresh w o).1 h).2.1⟩;exact⟨_,rfl,_,E,keep _ (fun z _ _=>rfl) ⟨fun h=>absurd h A,fun _=>X⟩⟩)
  rw[g1];simp only[oB];rw[p9 (by omega) (by omega)];refine .inl ⟨_,rfl,⟨F,L+1,g2,by dsimp only;omega,fun s o=> ?_,by omega⟩,by dsimp only;omega⟩;obtain⟨i,_,i1,hi⟩:=p8 o;have b:=(g3 i s hi).1 i1;by_cases A:HtD d f (L+1) s;exact .inr ⟨L+1,kL _,by rw[b.1 A];omega,A⟩;rcases V s o with⟨E,G⟩|⟨k,q0,E,G⟩;exact .inl ⟨by rw[b.2 A];exact E,fun hd=>A (.of_not hd G)⟩;exact .inr ⟨k,by omega,by rw[b.2 A];exact E,G⟩;rw[if_neg c];exact .inr ⟨_,rfl,g,L,P,V,by omega⟩)
 rw[e1]
 refine⟨v,g,rfl,e2,fun s o=> ?_⟩
 rcases e3 s o with⟨E,G⟩|⟨k,_,E,G⟩
 ·refine .inl ⟨E,fun k hk=>G ?_⟩
  obtain⟨m,_,hm⟩:=HtD.of_dn hk
  have:=hm.lt w o
  exact hm.1.mono (by omega)
 ·exact .inr ⟨k,E,G⟩
def PostF(t:b8)(all:LL)(T:Li->Prop):Prop:=∀s,T s->s ∈ all/\∃k,DsC t T k s
def Sd(all:LL)(f:Li->Int)(s:Li):Prop:=s ∈ all/\0<=f s
structure L4(t:b8)(all:LL)(f:Li->Int):Prop where
 val:∀s ∈ all,(f s= -1/\∀k,¬ DsC t (Sd all f) k s)\/∃k:Nat,f s=k/\HtD t (Sd all f) k s
 gr:∀T,PostF t all T->∀s,T s->0<=f s
def L4.post(h:L4 d a i):PostF d a (Sd a i):=fun s b=>by refine⟨b.1,?_⟩;rcases h.val s b.1 with⟨e,_⟩|⟨k,_,hk⟩;have:=b.2;omega;exact⟨k,hk.1⟩
def L4.unique(h:L4 d a i)(n:L4 d a l):∀s ∈ a,i s=l s:=by have e:Sd a i=Sd a l:=funext fun s=>propext ⟨fun q=>⟨q.1,n.gr _ h.post s q⟩,fun q=>⟨q.1,h.gr _ n.post s q⟩⟩;intro s o;have c:=h.val s o;have b:=n.val s o;rw[<- e] at b;rcases c with⟨a1,j⟩|⟨k,a1,j⟩<;>rcases b with⟨p,b2⟩|⟨m,p,b2⟩;omega;exact absurd b2.1 (j m);exact absurd j.1 (b2 k);rw[a1,p,j.unique b2]
def L4.lt(g:ClO d a)(h:L4 d a i)(c:b ∈ a):i b<mf a:=by rcases h.val b c with⟨e,_⟩|⟨k,e,hk⟩;omega;have:=hk.lt g c;omega
theorem aH5{t:b8}{all:LL}(ht:k8 t)(hc:ClO t all):∃v f,O0 t all=some v/\Rep all v f/\L4 t all f:=by
 have hlen:=hc.len
 unfold O0
 obtain⟨nx,n1,n2⟩:=arcs_eq ht hc
 rw[n1]
 simp only[oB]
 rw[repeat_eq 1 (lw hc.cl.init) (by omega)]
 simp only[oB]
 obtain⟨v,e1,f,e2,e3⟩:=E8 (body:=V4 t all nx) (fun x=>∃S:Li->Prop,(∀s,S s->s ∈ all)/\Rep all x (sfl S)/\(∀s ∈ all,l9 t s->S s)/\∀T,PostF t all T->∀s,T s->S s) (fun v=>∃f,Rep all v f/\L4 t all f) sumN (s:=kQ (mf all) 1) ⟨fun s=>s ∈ all,fun s h=>h,(Rep.repl 1).congr fun s hs=>(af0 hs).symm,fun s hs _=>hs,fun T hT s hs=>(hT s hs).1⟩ (fun sv ⟨S,s1,s2,s3,s4⟩=>by
  obtain⟨d,f,d1,d2,d3⟩:=measure_eq ht hc n2 s2
  have sub:∀s ∈ all,0<=f s->S s:=fun s hs hf=>by
   rcases d3 s hs with⟨e,_⟩|⟨k,_,hk⟩
   ·omega
   ·cases k with
    |zero=>exact s3 s hs hk.1
    |succ k=>exact hk.step.2.1
  unfold V4
  rw[d1]
  simp only[oB]
  rw[d2.len]
  obtain⟨⟨sv',b⟩,g1,g2,g3,g4,g5⟩:=u9 (body:=V6 d) (n:=(mf all:Int)) (s:=(sv,true)) (fun j x=>x.1.length=mf all/\(∀i s,ix all i=some s->ix x.1 i=some (if i<j then sfl (Sd all f) s else sfl S s))/\(x.2=dec (∀i s,i<j->ix all i=some s->(0<=f s↔S s)))/\sumN x.1+(if x.2=true then 0 else 1)<=sumN sv) (by omega) ⟨s2.len,fun i s hi=>by rw[if_neg (by have:=(n8 hi).1;omega)];exact s2.get hi,(i9 fun i s hi h=>by have:=(n8 h).1;omega).symm,by simp⟩ (fun j ⟨x,bx⟩ j0 j1 ⟨q1,q2,q3,q4⟩=>by
   dsimp only at q1 q2 q3 q4 ⊢
   obtain⟨s,hs,_⟩:=j7 (l:=all) j0 j1
   have hsm:=l8 hs
   have hfl:f s<=mf all/\ -1<=f s:=by
    rcases d3 s hsm with⟨e,_⟩|⟨k,e,hk⟩
    ·omega
    ·have:=hk.lt hc hsm;omega
   have hx:=q2 j s hs
   rw[if_neg (by omega)] at hx
   unfold V6
   dsimp only
   rw[d2.get hs,hx]
   simp only[oB]
   rw[p9 (by omega) (by omega)]
   have hmin:min 1 (f s+1)=sfl (Sd all f) s:=by
    by_cases c:0<=f s
    ·rw[af0 ⟨hsm,c⟩];omega
    ·rw[an3 (fun h=>c h.2)];omega
   have key:(if bx=true then some (decide ((decide (0<=f s))=(decide (0<sfl S s)))) else some false)=some (dec (∀i s,i<j+1->ix all i=some s->(0<=f s↔S s))):=by
    have h2:(decide ((decide (0<=f s))=(decide (0<sfl S s))))=dec (0<=f s↔S s):=by
     have:decide (0<sfl S s)=dec (S s):=by
      by_cases c:S s
      ·rw[af0 c,i9 c];rfl
      ·rw[an3 c,s9 c];rfl
     rw[this,L8 (p:=0<=f s),L8]
     exact x7 dec_inj
    by_cases cb:bx=true
    ·rw[if_pos cb,h2]
     congr 1
     rw[cb] at q3
     have h3:=m5.1 q3.symm
     refine x7 ⟨fun h i z hi hz=> ?_,fun h=>h j s (by omega) hs⟩
     by_cases e:i=j
     ·subst e;rw[hs] at hz;cases hz;exact h
     ·exact h3 i z (by omega) hz
    ·rw[if_neg cb,s9]
     intro h
     exact cb (by rw[q3];exact i9 fun i z hi hz=>h i z (by omega) hz)
   rw[key]
   simp only[oB]
   rw[hmin]
   refine⟨_,rfl,by rw[lS];exact q1,fun i z hz=> ?_,rfl,?_⟩
   ·rw[U5 j0 (by omega) (n8 hz).1]
    by_cases e:i=j
    ·subst e
     rw[hs] at hz;cases hz
     rw[if_pos rfl,if_pos (by omega)]
    ·rw[if_neg e,q2 i z hz]
     congr 1
     by_cases c:i<j
     ·rw[if_pos c,if_pos (by omega)]
     ·rw[if_neg c,if_neg (by omega)]
   ·dsimp only
    have hxg:=(n8 hx).2.2
    by_cases ca:(∀i s,i<j+1->ix all i=some s->(0<=f s↔S s))
    ·rw[if_pos (i9 ca)]
     have hbx:bx=true:=by rw[q3];exact i9 fun i z hi hz=>ca i z (by omega) hz
     rw[if_pos hbx] at q4
     have e:sfl (Sd all f) s=sfl S s:=by
      have:=ca j s (by omega) hs
      by_cases c:S s
      ·rw[af0 c,af0 ⟨hsm,this.2 c⟩]
      ·rw[an3 c,an3 (fun h=>c (this.1 h.2))]
     rw[e]
     have:=sumN_le (x:=sfl S s) hxg (by unfold sfl;split<;>omega) (kY _)
     omega
    ·rw[if_neg (by rw[s9 ca];simp)]
     by_cases hbx:bx=true
     ·rw[if_pos hbx] at q4
      -- it is here that they differ
      have hd:¬ (0<=f s↔S s):=fun h=>ca fun i z hi hz=>by
       by_cases e:i=j
       ·subst e;rw[hs] at hz;cases hz;exact h
       ·exact m5.1 (q3.symm.trans hbx) i z (by omega) hz
      have h1:¬ 0<=f s:=fun h=>hd ⟨fun _=>sub s hsm h,fun _=>h⟩
      have h2:S s:=kV fun h=>hd ⟨fun h'=>absurd h' h1,fun h'=>absurd h' h⟩
      have:=sumN_set (x:=sfl (Sd all f) s) hxg (by unfold sfl;split<;>omega) (by rw[af0 h2,an3 (fun h=>h1 h.2)];omega)
      omega
     ·rw[if_neg hbx] at q4
      have:=sumN_le (x:=sfl (Sd all f) s) hxg (by unfold sfl;split<;>omega) (by
       by_cases c:0<=f s
       ·rw[af0 ⟨hsm,c⟩,af0 (sub s hsm c)];exact kY _
       ·rw[an3 (fun h=>c h.2)];unfold sfl;split<;>omega)
      omega)
  rw[g1]
  simp only[oB]
  dsimp only at g2 g3 g4 g5
  by_cases cb:b=true
  ·rw[if_pos cb]
   rw[cb] at g4
   have h4:=m5.1 g4.symm
   have e:S=Sd all f:=funext fun s=>propext ⟨fun h=>by
    have hm:=s1 s h
    obtain⟨i,_,i1,hi⟩:=p8 hm
    exact⟨hm,(h4 i s i1 hi).2 h⟩,fun h=>by
    obtain⟨i,_,i1,hi⟩:=p8 h.1
    exact(h4 i s i1 hi).1 h.2⟩
   refine .inr ⟨d,rfl,f,d2,⟨by rw[e] at d3;exact d3,fun T hT s hs=> ?_⟩⟩
   have:=s4 T hT s hs
   rw[e] at this
   exact this.2
  ·rw[if_neg cb]
   rw[if_neg cb] at g5
   refine .inl ⟨sv',rfl,⟨Sd all f,fun s h=>h.1,⟨g2,fun {i s} hi=>by rw[g3 i s hi,if_pos (n8 hi).2.1]⟩,fun s hs hg=>⟨hs,?_⟩,fun T hT s hs=>⟨(hT s hs).1,?_⟩⟩,by omega⟩
   ·rcases d3 s hs with⟨_,e⟩|⟨k,e,_⟩
    ·exact absurd (DsC.goal hg) (e 0)
    ·omega
   ·obtain⟨hm,k,hk⟩:=hT s hs
    rcases d3 s hm with⟨_,e⟩|⟨k,e,_⟩
    ·exact absurd (hk.sub (s4 T hT)) (e k)
    ·omega)
 rw[e1]
 exact⟨v,f,rfl,e2,e3⟩
def CycP(t:b8)(f:Li->Int)(s:Li)(op:Int):Prop:=((0<=op/\op<mf t.operators)/\oCan t s op)/\(∀y ∈ sc t s op,0<=f y)/\∃y ∈ sc t s op,f y=f s - 1
def FirstC(t:b8)(f:Li->Int)(s:Li)(b:Int):Prop:=CycP t f s b/\∀op,0<=op->op<b->¬ CycP t f s op
def cycChoice(P:k8 d)(H:ClO d a)(Q:Rep a c i)(v:∀s ∈ a, -1<=i s/\i s<=100000){s:Li}(L:s ∈ a):
  ∃b,y4 s c a d=some b/\((b= -1/\∀op,¬ CycP d i s op)\/FirstC d i s b):=by
 have U:=H.len
 have B:=H.set L
 obtain⟨g,hi,M⟩:=Q.of L
 have f:=v s L
 unfold y4
 rw[af1 H.ord (by omega) hi]
 simp only[oB,M]
 have one:∀op:Int,0<=op->op<mf d.operators->P1 s c a d (i s) op ()=some (match (if dec (CycP d i s op)=true then some op else none) with|none=>.inl ()|some o=>.inr o):=fun op D o1=>by
  unfold P1;rw[oCan_eq P D o1 B];simp only[oB,B9];unfold P3;by_cases J:oCan d s op;rw[ifNN J];obtain⟨st,ws,E,_,q3,_⟩:=aa3 P D o1 B;have w:∀y,y ∈ st↔y ∈ sc d s op:=fun y=>by rw[q3,sc,kD]
  rw[E];simp only[oB];obtain⟨⟨r,u⟩,g1,V,X⟩:=u9 (body:=Y4 c a (i s) (st,ws)) (n:=(mf st:Int)) (s:=(true,false)) (fun j x=>x.1=dec (∀k y,k<j->ix st k=some y->0<=i y)/\x.2=dec (∃k y,k<j/\ix st k=some y/\i y=i s - 1)) (by omega) ⟨(i9 fun k y hk h=>by have:=(n8 h).1;omega).symm,(s9 (by rintro ⟨k,y,hk,h,_⟩;have:=(n8 h).1;omega)).symm⟩ (fun j ⟨r,u⟩ j0 j1 ⟨a1,t⟩=>by
   dsimp only at a1 t;obtain⟨y,A,_⟩:=j7 (l:=st) j0 j1;obtain⟨z,p,N⟩:=Q.of (H.sc L ⟨D,o1⟩ J ((w y).1 (l8 A)));unfold Y4;dsimp only;rw[A];simp only[oB,af1 H.ord (show (mf a)<=500000 by omega) p,N];rw[p9 (by omega) (by omega)];have e1:dec (∀k y,k<j+1->ix st k=some y->0<=i y)=(r && decide (0<=i y)):=by rw[a1,L8,dec_and];refine x7 ⟨fun h=>⟨fun k z hk p=>h k z (by omega) p,h j y (by omega) A⟩,fun⟨F,G⟩ k z hk p=> ?_⟩;by_cases e:k=j;subst e;rw[A] at p;cases p;exact G;exact F k z (by omega) p
   have e2:dec (∃k y,k<j+1/\ix st k=some y/\i y=i s - 1)=(u||decide (i y=i s - 1)):=by rw[t,L8,dec_or];refine x7 ⟨fun⟨k,z,hk,p,e⟩=> ?_,?_⟩;by_cases ek:k=j;subst ek;rw[A] at p;cases p;exact .inr e;exact .inl ⟨k,z,by omega,p,e⟩;rintro (⟨k,z,hk,p,e⟩|e);exact⟨k,z,by omega,p,e⟩;exact⟨j,y,by omega,A,e⟩
   rw[e1,e2];cases r<;>cases u<;>simp)
  rw[g1];simp only[oB];dsimp only at V X;have e:(r && u)=dec (CycP d i s op):=by rw[V,X,dec_and];refine x7 ⟨fun⟨F,k,y,_,A,e⟩=>⟨⟨⟨D,o1⟩,J⟩,fun z p=> ?_,y,(w y).1 (l8 A),e⟩,fun⟨_,F,y,A,e⟩=>⟨fun k z _ p=>F z ((w z).1 (l8 p)),?_⟩⟩;obtain⟨q,_,E,O⟩:=p8 ((w z).2 p);exact F q z E O;obtain⟨q,_,E,O⟩:=p8 ((w y).2 A);exact⟨q,y,E,O,e⟩
  rw[e];by_cases h:CycP d i s op;rw[ifP h,ifP h];rw[ifN h,ifN h];rw[ifP J,ifN (fun h=>J h.1.2)]
 rcases I2 (body:=P1 s c a d (i s)) (n:=(mf d.operators:Int)) (fun op=>if dec (CycP d i s op)=true then some op else none) (by omega) (fun op D o1 _=>by rw[one op D o1];by_cases h:CycP d i s op;rw[ifP h];rw[ifN h]) with⟨F,G⟩|⟨op,o,D,o1,G,h3,h4⟩
 ·rw[F]
  refine⟨-1,rfl,.inl ⟨rfl,fun op h=> ?_⟩⟩
  have:=G op h.1.1.1 h.1.1.2
  rw[ifP h] at this;cases this
 ·rw[h4]
  split at G
  ·rename_i e
   cases G
   refine⟨op,rfl,.inr ⟨m5.1 e,fun q q0 E h=> ?_⟩⟩
   have:=h3 q q0 E
   rw[ifP h] at this;cases this
  ·cases G
def L4.bnd(b:ClO d a)(h:L4 d a i):∀s ∈ a, -1<=i s/\i s<=100000:=fun s c=>by have:=h.lt b c;have:=b.len;rcases h.val s c with⟨e,_⟩|⟨k,e,_⟩<;>omega
def L4.has(v:ClO d a)(h:L4 d a i)(l:b ∈ a)(w:0<=i b)(n:¬ l9 d b):∃op,CycP d i b op:=by
 rcases h.val b l with⟨e,_⟩|⟨k,e,hk⟩;omega;cases k with
 |zero=>exact absurd hk.1 n
 |succ k=>
  obtain⟨_,_,op,o,p,c,y,g,j⟩:=hk.step
  refine⟨op,⟨o,p⟩,fun z r=>(c z r).2,y,g,?_⟩
  rcases h.val y (c y g).1 with⟨_,q⟩|⟨m,q,u⟩
  ·exact absurd j.1 (q k)
  ·rw[q,u.unique j];omega
def cpolicy_spec(n:k8 d):(G9 d=some ([],false)/\U3 d 2000=some ([],false)/\G6 d=some ([],false,⟨10, -7⟩))\/∃all v f,G9 d=some (all,true)/\U3 d 2000=some (all,true)/\ClO d all/\Rep all v f/\L4 d all f/\
  ((f d.init= -1/\G6 d=some ([],false,⟨0,0⟩))\/∃k,ChOk d k/\(∀s,RchC d k s->s ∈ all/\0<=f s)/\(∀s,RchC d k s->¬ l9 d s->FirstC d f s (k s))/\
   ((G6 d=some ([],false,⟨10, -8⟩)/\∃l:LL,l.Nodup/\(∀s ∈ l,RchC d k s/\¬ l9 d s)/\(mf l)=201)\/∃p,G6 d=some (p,true,⟨0,0⟩)/\PolB d k p/\(mf p)<=200)):=by
 unfold G6
 rw[explore_ok n]
 rcases reach_full n with⟨all,u,z,w,E,_⟩|⟨u,z⟩
 ·right
  have j:ClO d all:=⟨w,E⟩
  have F:=j.len
  obtain⟨v,f,H,A,x⟩:=aH5 n j
  obtain⟨i,hi,B⟩:=A.of w.init
  refine⟨all,v,f,u,z,j,A,x,?_⟩
  rw[u]
  simp only[oB,if_true]
  rw[if_neg (by simp),H]
  simp only[oB,af1 E (show (mf all)<=500000 by omega) hi,B]
  by_cases G:f d.init<0
  ·rw[if_pos G]
   refine .inl ⟨?_,rfl⟩
   have:=(x.bnd j _ w.init).1;omega
  ·rw[if_neg G]
   right
   have step:∀s,s ∈ all->0<=f s->¬ l9 d s->∃b,y4 s v all d=some b/\FirstC d f s b:=fun s c J g=>by obtain⟨b,h,b2⟩:=cycChoice n j A (x.bnd j) c;refine⟨b,h,?_⟩;rcases b2 with⟨_,b2⟩|b2;obtain⟨op,K⟩:=x.has j c J g;exact absurd K (b2 op);exact b2
   have a:∀s,RchC d (fun s=>(y4 s v all d).getD (-1)) s->s ∈ all/\0<=f s:=fun s c=>by
    induction c with
    |init=>exact⟨w.init,by omega⟩
    |@step s y _ g o D=>
     obtain⟨b,h,b2⟩:=step s D.1 D.2 g
     have e:(y4 s v all d).getD (-1)=b:=by rw[h];rfl
     unfold nxC at o
     dsimp only at o
     rw[e] at o
     exact⟨j.sc D.1 b2.1.1.1 b2.1.1.2 o,b2.1.2.1 y o⟩
   have hk:ChOk d (fun s=>(y4 s v all d).getD (-1)):=fun s c g=>by obtain⟨b,h,b2⟩:=step s (a s c).1 (a s c).2 g;dsimp only;rw[h];exact b2.1.1
   refine⟨_,hk,a,fun s c g=> ?_,?_⟩
   ·obtain⟨b,h,b2⟩:=step s (a s c).1 (a s c).2 g
    have e:(y4 s v all d).getD (-1)=b:=by rw[h];rfl
    exact(show FirstC d f s ((y4 s v all d).getD (-1)) by rw[e];exact b2)
   ·obtain⟨r,L,q⟩:=build_prog n hk (choose:=fun M=>y4 M v all d) (fun s c g=>by obtain⟨b,h,_⟩:=step s (a s c).1 (a s c).2 g;show y4 s v all d=some ((y4 s v all d).getD (-1));rw[h];rfl)
    rw[L]
    rcases q with⟨rfl,q⟩|⟨p,rfl,q⟩
    ·exact .inl ⟨rfl,q⟩
    ·exact .inr ⟨p,rfl,q⟩
 ·left
  rw[u]
  exact⟨rfl,z,rfl⟩
def RkP(t:b8)(p:List f9):Nat->Li->Prop
 |0,s=>l9 t s
 |k+1,s=>l9 t s\/(LiveS p s/\∃y ∈ nxS t p s,RkP t p k y)
def RkP.goal{t:b8}{p:List f9}{k:Nat}{s:Li}(h:l9 t s):RkP t p k s:=by
 cases k with
 |zero=>exact h
 |succ k=>exact .inl h
def RkP.succ{p:List f9}:∀{k:Nat} {s:Li},RkP d p k s->RkP d p (k+1) s
 |0,s,h=>.inl h
 |k+1,s,h=>by rcases h with h|⟨a,y,b,c⟩;exact .inl h;exact .inr ⟨a,y,b,c.succ⟩
structure CanOk(t:b8)(p:List f9)(l:LL)(f:Li->Int):Prop where
 b:∀s ∈ l,f s=0\/f s=1
 ok:∀s ∈ l,f s=1->∃k,RkP t p k s
/-! ### The coin -/
def MN(g:Li->Int)(l:LL)(m:Int):Prop:=m<=1000000000/\(∀y ∈ l,m<=g y)/\(m=1000000000\/∃y ∈ l,g y=m)
def MN.congr(h:MN i a x)(e:∀y ∈ a,i y=l y):MN l a x:=by refine⟨h.1,fun y b=>by rw[<- e y b];exact h.2.1 y b,?_⟩;rcases h.2.2 with h|⟨y,b,c⟩;exact .inl h;exact .inr ⟨y,b,by rw[<- e y b];exact c⟩
structure LowR(t:b8)(p:List f9)(l:LL)(g:Li->Int):Prop where
 b:∀s ∈ l,0<=g s/\g s<=1000000000
 dn:∀s ∈ l,g s<1000000000->RkP t p (g s).toNat s
 goal:∀s ∈ l,l9 t s->g s=0
def delB(f:Li->Option Bool):((LL)×Int×Int)->Option (((LL)×Int×Int)⊕((LL)×Int)):=fun(c,i,j)=>if j<(mf c:Int) then kJ (kJ (ix c j) fun a=>kJ (f a) fun b=>if(!b)=true then kJ (ix c i) fun _=>some (c.set i.toNat a,w64 (i+1)) else some (c,i)) fun⟨d,e⟩=>some (.inl (d,e,w64 (j+1))) else some (.inr (c,i))
noncomputable def delA(f:Li->Option Bool)(l:LL):Option (LL):=kJ (z8 l f) fun c=>if c=(-1) then some l else kJ (Loop (delB f) (l,c,w64 (c+1))) fun⟨b,a⟩=>kJ (cutV (mf b:Int) a (mf b:Int)) fun d=>kJ (cutV ((clrL b (0+a) ((mf b:Int) - a) []).length:Int) 0 a) fun e=>some (w4 (clrL b (0+a) ((mf b:Int) - a) []) 0 a)
def take_filter{p:Li->Bool}(h:n<mf a):(a.take (n+1)).filter p=if p a[n] then(a.take n).filter p++[a[n]] else(a.take n).filter p:=by rw[List.take_succ_eq_append_getElem h,lD];by_cases e:p a[n]=true;rw[if_pos e];simp[e];rw[if_neg e];simp[e]
def del_eq{g:Li->Prop}(hl:mf a<=1000000){f:Li->Option Bool}(X:∀b ∈ a,f b=some (dec (g b))):delA f a=some (a.filter fun b=> !dec (g b)):=by
 generalize hp:(fun b=> !dec (g b))=p;have d:∀b,p b= !dec (g b):=fun b=>by rw[<- hp]
 unfold delA z8;rcases I2 (body:=C0 a f) (n:=(mf a:Int)) (fun j=>if dec (∃x,ix a j=some x/\g x)=true then some j else none) (by omega) (fun j L D _=>by obtain⟨x,v,_⟩:=j7 (l:=a) L D;unfold C0;rw[v];simp only[oB,X x (l8 v)];by_cases e:g x;rw[ifP e,ifP ⟨x,rfl,e⟩];rw[ifN e,ifN (by rintro ⟨y,hy,q⟩;cases hy;exact e q)]) with⟨D,w⟩|⟨j,o,L,D,w,h3,h4⟩;rw[D];simp only[oB,if_true];congr 1;refine(ma.2 fun b M=> ?_).symm;rw[d,s9];rfl;intro q;obtain⟨i,i0,i1,hi⟩:=p8 M;have:=w i i0 i1;rw[ifP ⟨b,hi,q⟩] at this;cases this;rw[h4];split at w;rename_i e;cases w;simp only[oB];rw[if_neg (by omega)];obtain⟨J,rfl⟩:=kC L;have l:J<mf a:=by omega
 obtain⟨x,v,N⟩:=m5.1 e;have hF:(a.take J).filter p=a.take J:=ma.2 fun b M=>by
  rw[d,s9];rfl;intro q;obtain⟨k,hk,rfl⟩:=mb M;rw[lk] at hk;have O:k<mf a:=by omega
  rw[List.getElem_take] at q;have:=h3 k (by omega) (by omega);rw[ifP ⟨a[k],by rw[v8];exact kx O,q⟩] at this;cases this
 have z:(a.take (J+1)).filter p=a.take J:=by rw[take_filter l,if_neg,hF];rw[v8,kx l] at v;rw[d,Option.some.inj v,i9 N];simp
 rw[show w64 ((J:Int)+1)=((J+1:Nat):Int) by rw[p9 (by omega) (by omega)];omega];obtain⟨⟨c,i⟩,k1,P⟩:=E8 (body:=delB f) (fun q=>∃i j:Nat,q.2=((i:Int),(j:Int))/\i<j/\j<=mf a/\q.1.length=mf a/\((a.take j).filter p).length=i/\(∀k,k<i->q.1[k]? =((a.take j).filter p)[k]?)/\∀k,j<=k->q.1[k]? =a[k]?)
  (fun r=>r.1.length=mf a/\(r.2=((a.filter p).length:Int))/\(a.filter p).length<=mf a/\∀k,k<(a.filter p).length->r.1[k]? =(a.filter p)[k]?) (fun q=>((mf a:Int) - q.2.2).toNat) (s:=(a,(J:Int),((J+1:Nat):Int)))
  ⟨J,J+1,rfl,by omega,by omega,rfl,by rw[z,lk];omega,fun k hk=>by rw[z,lE,if_pos hk],fun k _=>rfl⟩ (fun⟨c,q⟩ ⟨i,j,e0,e1,e2,E,G,A,H⟩=>by
  dsimp only at e0 E A H
  subst e0
  unfold delB
  dsimp only
  by_cases cj:(j:Int)<mf c
  ·rw[if_pos cj]
   have Q:j<mf a:=by omega
   have U:ix c (j:Int)=some a[j]:=by rw[v8,H j (kL _)];exact kx Q
   have V:ix c (i:Int)=some c[i]:=by rw[v8];exact kx (by omega)
   have wj:w64 ((j:Int)+1)=((j+1:Nat):Int):=by rw[p9 (by omega) (by omega)];omega
   have wi:w64 ((i:Int)+1)=((i+1:Nat):Int):=by rw[p9 (by omega) (by omega)];omega
   simp only[U,oB,X _ (kI Q),B9]
   have t:=take_filter (p:=p) Q
   by_cases K:g a[j]
   ·rw[ifNN K]
    simp only[oB,wj]
    rw[d,i9 K,if_neg (by simp)] at t
    refine .inl ⟨_,rfl,⟨i,j+1,rfl,by omega,by omega,E,by rw[t];exact G,fun k hk=>by rw[t];exact A k hk,fun k hk=>H k (by omega)⟩,by dsimp only;omega⟩
   ·rw[ifP K]
    simp only[V,oB,wi,wj,kM]
    rw[d,s9 K,if_pos (by simp)] at t
    refine .inl ⟨_,rfl,⟨i+1,j+1,rfl,by omega,by omega,by rw[lS];exact E,by rw[t,kR,kS,G],fun k hk=> ?_,fun k hk=> ?_⟩,by dsimp only;omega⟩
    ·dsimp only
     rw[t,li]
     by_cases h:i=k
     ·subst h;rw[if_pos rfl,if_pos (by omega),lI (by omega),G,Nat.sub_self];rfl
     ·rw[if_neg h,kW (by omega)];exact A k (by omega)
    ·dsimp only
     rw[li,if_neg (by omega)];exact H k (by omega)
  ·rw[if_neg cj]
   have ej:j=mf a:=by omega
   rw[ej,ll] at G A
   exact .inr ⟨_,rfl,E,by dsimp only;omega,by omega,fun k hk=>A k (by omega)⟩)
 obtain⟨P,k3,k4,k5⟩:=P;dsimp only at P k3 k4 k5;subst k3;rw[k1];simp only[oB];generalize aa:a.filter p=F at *;have B:(clrL c (0+(mf F:Int)) ((mf c:Int) - (mf F)) []).length=mf c:=by unfold clrL;simp only[kR,lk,List.length_replicate,List.length_drop];omega
 rw[show cutV (mf c:Int) (mf F:Int) (mf c:Int)=some () by unfold cutV;rw[if_pos (by omega)],B,show cutV (mf c:Int) 0 (mf F:Int)=some () by unfold cutV;rw[if_pos (by omega)]];simp only[oB];congr 1;unfold w4 clrL;rw[show(0+(mf F:Int)).toNat=mf F by omega,kM,lU,lV];apply lJ;intro k;rw[lE];by_cases h:k<mf F;rw[if_pos h,lu,kW (by rw[lk];omega),lE,if_pos h,k5 k h];rw[if_neg h,lj (by omega)];cases w
noncomputable def pnd(t:b8)(l:LL):LL:=l.filter fun a=> !dec (l9 t a)
def mem_pnd{t:b8}:b ∈ pnd t a↔b ∈ a/\¬ l9 t b:=by unfold pnd;rw[lA];by_cases c:l9 t b;rw[i9 c];simp[c];rw[s9 c];simp[c]
def Ord.pnd(h:Ord a):Ord (pnd d a):=lz.filter _ h
def pending_eq(e:k8 d)(f:mf a<=1000000)(i:∀s ∈ a,SetN s d.facts):O3 d a=some (pnd d a):=by have h:O3 d a=(delA (fun y=>O4 y d) a).bind fun b=>some b:=rfl;rw[h,del_eq (g:=l9 d) f fun b j=>by have c:=i b j;unfold O4;rw[aa0 c.1 e.goal.1 (by have:=c.len;have:=e.n1;omega)];rfl];rfl
structure Sol(t:b8)(S:LL)(op:Nat->Int)(st:Nat->LL)(w:Nat->Li)(sg:Int)(num:Nat->Nat)(den:Nat):Prop where
 s1:sg=1\/sg= -1
 d0:0<den
 d1:den<=254803968
 n1:∀i,i<mf S->num i<=63700992000
 dd:det (mf S) (eqN t S op st w)=sg * den
 nn:∀l,l<mf S->det (mf S) (rep (eqN t S op st w) l fun r=>eqN t S op st w r (mf S))=sg * num l
 vf:Vf (mf S) (WF st w) (wG S st w) (cF t op) (fun i=>(num i:Int)) den
def solved{t:b8}{op:Nat->Int}(x:k8 t)(h:Sys t a op o p)(hp:∀i,i<mf a->Px (mf a) (WF o p) (wG a o p) i){choose:Li->Option Int}(E:∀i s,a[i]? =some s->choose s=some (op i)):
  ∃f num den L N,Sol t a op o p f num den/\forR 0 (mf a:Int) (I4 t a choose) []=some L/\D2 a L=some (N,f * (den:Int))/\(mf N)=mf a/\∀i:Nat,i<mf a->ix N (i:Int)=some (f * (num i:Int)):=by
 obtain⟨L,N,U,V,X,k4,w,H⟩:=value_ok x h hp E
 have J:=sys_ms x h
 have K:=sys_rb x h
 have F:=h.n5
 generalize M:det (mf a) (eqN t a op o p)=D at *
 have v:=det_top K (kL _)
 rw[M] at v
 have G:ab D<=254803968:=by
  refine lN v ?_;have:∀n,n<=5->(48:Int) ^ n<=254803968:=by decide
  exact this _ F
 have O:∀l,l<mf a->wtj N l=det (mf a) (rep (eqN t a op o p) l fun r=>eqN t a op o p r (mf a)):=fun l j=>by unfold wtj;rw[w l j];rfl
 have hN:∀l,l<mf a->ab (wtj N l)<=63700992000:=fun l j=>by
  rw[O l j];obtain⟨m,hm⟩:∃m,mf a=m+1:=⟨mf a - 1,by omega⟩;have:=K.rep2 (c:=m) (i:=l) (by omega) (by omega);rw[hm] at this ⊢;refine lN this ?_;have:∀n:Nat,n<=4->((n:Int)+1) * 2400 * 48 ^ n<=63700992000:=by decide
  exact this m (by omega)
 obtain⟨f,den,u,z,e3⟩:∃(f:Int) (den:Nat),(f=1\/f= -1)/\D=f * (den:Int)/\0<den:=by by_cases c:0<D;obtain⟨d,rfl⟩:=kC (Int.le_of_lt c);exact⟨1,d,.inl rfl,by omega,by omega⟩;obtain⟨d,hd⟩:=kC (show 0<= -D by omega);exact⟨-1,d,.inr rfl,by omega,by omega⟩
 have pos:∀l,l<mf a->0<=f * wtj N l:=pos0 J (b:=fun _=>0) hp (y:=fun k=>f * wtj N k) fun r B=>by
  have hx:smN (mf a) (fun k=>eqM (mf a) (WF o p) (wG a o p) (fun _=>0) r k * (f * wtj N k))=f * smN (mf a) (fun k=>eqN t a op o p r k * wtj N k):=by
   rw[<- C4];exact o8 fun k hk=>by
    have:eqM (mf a) (WF o p) (wG a o p) (fun _=>0) r k=eqN t a op o p r k:=by unfold eqN eqM;rw[if_neg (show ¬ k=mf a by omega),if_neg (show ¬ k=mf a by omega)]
    rw[this];grind
  rw[hx,H r B,z];have hc:=(x.at (h.rng r B).1 (h.rng r B).2).c0;have h3:=J.pos r B;have:0<=WF o p r * cF t op r:=kK (by omega) hc;have e:f * (f * (den:Int) * (WF o p r * cF t op r))=(den:Int) * (WF o p r * cF t op r):=by rcases u with rfl|rfl<;>grind
  rw[e];exact kK (by omega) this
 have num:∀l,((f * wtj N l).toNat:Int)=if l<mf a then f * wtj N l else((f * wtj N l).toNat:Int):=fun l=>by split;rename_i j;have:=pos l j;omega;rfl
 have g:∀l,l<mf a->((f * wtj N l).toNat:Int)=f * wtj N l:=fun l j=>by have:=num l;rw[if_pos j] at this;exact this
 have q:∀l,l<mf a->wtj N l=f * ((f * wtj N l).toNat:Int):=fun l j=>by rw[g l j];rcases u with rfl|rfl<;>omega
 refine⟨f,fun l=>(f * wtj N l).toNat,den,L,N,⟨u,e3,?_,fun i hi=> ?_,by rw[M];exact z,fun l j=> ?_,?_,fun i hi=> ?_⟩,U,by rw[V,z],X,fun i hi=> ?_⟩
 ·have:=ab_le G
  rcases u with rfl|rfl<;>omega
 ·have P:=ab_le (hN i hi)
  have Q:=g i hi
  rcases u with rfl|rfl<;>omega
 ·rw[<- O l j];exact q l j
 ·omega
 ·have P:=H i hi
  rw[eqM_sum (kL _) hi,z] at P
  unfold Qv
  have Q:smN (mf a) (fun k=>wG a o p i k * ((f * wtj N k).toNat:Int))=f * smN (mf a) (fun k=>wG a o p i k * wtj N k):=by rw[<- C4];exact o8 fun k hk=>by rw[g k hk];grind
  rw[Q,g i hi]
  generalize smN (mf a) (fun k=>wG a o p i k * wtj N k)=A at *
  rcases u with rfl|rfl<;>grind
 ·rw[ap9 (by omega),<- q i hi]
def report_eq{sg:Int}(f:sg=1\/sg= -1){a b:Nat}(g:a<=4000000000000000000)(h:b<=4000000000000000000)(d:0<b):
  ae2 (sg * (a:Int)) (sg * (b:Int))=some (if(frN a b).num<=1000000000/\(frN a b).den<=1000000000 then(frN a b,⟨0,0⟩) else(⟨0,0⟩,⟨10, -2⟩)):=by
 have e:G8 (sg * (a:Int)) (sg * (b:Int))=G8 (a:Int) (b:Int):=by rcases f with rfl|rfl;rw[ln,ln];rw[show -1 * (a:Int)= -(a:Int) by omega,show -1 * (b:Int)= -(b:Int) by omega,lowest_neg g h d]
 unfold ae2
 rw[e,lowest_pos g h d]
 simp only[oB]
 by_cases c:(frN a b).num<=1000000000/\(frN a b).den<=1000000000
 ·rw[i9 c,if_pos c];rfl
 ·rw[s9 c,if_neg c];rfl
noncomputable def rsO(t:b8)(s:Li)(op:Int):LL×Li:=(A7 t s op).getD ([],[])
def Wok.rs{op:Int}(h:Wok d b op a c):(rsO d b op).1=a/\(rsO d b op).2=c:=by unfold rsO;rw[h.eq];exact⟨rfl,rfl⟩
def ak0(c:k8 d){op:Int}(a:0<=op/\op<mf d.operators)(e:SetN b d.facts):Wok d b op (rsO d b op).1 (rsO d b op).2:=by obtain⟨st,w,h⟩:=results_ok c a.1 a.2 e;rw[h.rs.1,h.rs.2];exact h
noncomputable def vG(t:b8)(v:Li->Int)(y:Li):Int:=if dec (l9 t y)=true then 0 else v y
noncomputable def WS(t:b8)(s:Li)(op:Int):Int:=smN (rsO t s op).1.length (wtj (rsO t s op).2)
noncomputable def CS(t:b8)(v:Li->Int)(s:Li)(op:Int):Int:=smN (rsO t s op).1.length fun j=>wtj (rsO t s op).2 j * vG t v (((rsO t s op).1[j]?).getD [])
noncomputable def QS(t:b8)(v:Li->Int)(den:Int)(s:Li)(op:Int):Int:=CS t v s op+WS t s op * (ooAt t op).cost * den
structure StS(t:b8)(S:LL):Prop where
 ord:Ord S
 n5:mf S<=5
 set:∀s ∈ S,SetN s t.facts
 ng:∀s ∈ S,¬ l9 t s
def Alw(t:b8)(S:LL)(s:Li)(op:Int):Prop:=(0<=op/\op<mf t.operators)/\oCan t s op/\∀y ∈ sc t s op,l9 t y\/y ∈ S
def sN(S:LL)(i:Nat):Li:=(S[i]?).getD []
def sN_eq(h:a[n]? =some b):sN a n=b:=by unfold sN;rw[h];rfl
def sys_op{op:Nat->Int}(j:k8 d)(b:StS d a)(c:∀i s,a[i]? =some s->Alw d a s (op i)):Sys d a op (fun i=>(rsO d (sN a i) (op i)).1) (fun i=>(rsO d (sN a i) (op i)).2):=by
 have hi:∀i,i<mf a->a[i]? =some (sN a i):=fun i hi=>by unfold sN;rw[kx hi];rfl
 have f:∀i,i<mf a->Wok d (sN a i) (op i) (rsO d (sN a i) (op i)).1 (rsO d (sN a i) (op i)).2:=fun i h=>ak0 j (c i _ (hi i h)).1 (b.set _ (kE (hi i h)));refine⟨b.ord,b.n5,b.set,b.ng,fun i h=>(c i _ (hi i h)).1,fun i s g=> ?_,fun i h y k=> ?_⟩;obtain⟨l,_⟩:=lG.1 g;have:=f i l;rw[sN_eq g] at this ⊢;exact this;obtain⟨x,n,e⟩:=((f i h).mem y).1 k;exact(c i _ (hi i h)).2.2 y (kD.2 ⟨x,n,e⟩)
def Sys.ws{op:Nat->Int}(h:Sys d a op o p){s:Li}(b:a[n]? =some s):WF o p n=WS d s (op n):=by obtain⟨c,e⟩:=(h.res n s b).rs;unfold WF WS;rw[c,e]
def Sys.cs{t:b8}{op:Nat->Int}{w:Nat->Li}(h:Sys t a op o w){i:Nat}(hs:a[i]? =some c)(v:Li->Int):smN (mf a) (fun k=>wG a o w i k * v (sN a k))=CS t v c (op i):=by
 obtain⟨hi,_⟩:=lG.1 hs;obtain⟨r,u⟩:=(h.res i c hs).rs;unfold CS;rw[r,u];have d:smN (mf a) (fun k=>wG a o w i k * v (sN a k))=smN (mf a) fun k=>smN (o i).length fun j=>(if(o i)[j]? =a[k]? then wtj (w i) j else 0) * v (sN a k):=o8 fun k hk=>by unfold wG wF;rw[if_pos hi,kx hk,kO];unfold twF;rw[<- C4];exact o8 fun j _=>kO _ _
 rw[d,smN_comm];refine o8 fun j n=> ?_;have l:(o i)[j]? =some (o i)[j]:=kx n;rw[l];unfold vG;show _=wtj (w i) j * if dec (l9 t (o i)[j])=true then 0 else v (o i)[j];by_cases g:l9 t (o i)[j];rw[ifP g,Int.mul_zero];refine al5 fun k hk=> ?_;rw[if_neg,Int.zero_mul];intro q;exact h.ng _ (kE q.symm) g;rw[ifN g];obtain⟨k,hk,e⟩:=mb ((h.cl i hi _ (kI n)).resolve_left g);have f:a[k]? =some (o i)[j]:=by rw[kx hk,e]
 rw[W8 (a:=k) hk fun x p y=> ?_,if_pos f.symm,sN_eq f];rw[if_neg,Int.zero_mul];intro q;have d:ix a (k:Int)=some (o i)[j]:=by rw[v8,f]
 have b:ix a (x:Int)=some (o i)[j]:=by rw[v8,<- q]
 have:=h.ord.inj d b;omega
def Sys.qs{op:Nat->Int}(h:Sys d a op o p)(c:a[n]? =some b){num:Nat->Int}(e:∀k,k<mf a->num k=i (sN a k)):Qv (mf a) (WF o p) (wG a o p) (cF d op) num x n=QS d i x b (op n):=by unfold Qv QS;rw[h.ws c,<- h.cs c i];rw[o8 (g:=fun k=>wG a o p n k * i (sN a k)) fun k hk=>by rw[e k hk]];rfl
def Sys.wy{op:Nat->Int}(h:Sys d a op o p)(hp:Px (mf a) (WF o p) (wG a o p) n):Wy d a o n:=by
 induction hp with
 |@exit n hi b=>
  by_cases e:∃y ∈ o n,l9 d y
  ·obtain⟨y,r,s⟩:=e;exact .exit hi r s
  ·exfalso
   rw[lead_sum h hi] at b
   have:smN (o n).length (fun j=>if dec (∃y ∈ a,(o n)[j]? =some y)=true then wtj (p n) j else 0)=smN (o n).length (wtj (p n)):=o8 fun j l=>by rw[if_pos];refine i9 ⟨(o n)[j],(h.cl n hi _ (kI l)).resolve_left fun g=>e ⟨_,kI l,g⟩,kx l⟩
   rw[this] at b
   exact Int.lt_irrefl _ b
 |@step n k hi hk c _ u=>
  have f:a[k]? =some a[k]:=kx hk
  refine .step hi f ?_ u
  refine kV fun v=> ?_
  unfold wG wF at c
  rw[if_pos hi,f] at c
  dsimp only at c
  unfold twF at c
  rw[al5] at c
  ·omega
  ·intro j l
   rw[if_neg]
   intro q
   exact v (kE q)
structure VB(S:LL)(v:Li->Int)(den:Int)(l7:Li):Prop where
 d0:0<den
 d1:den<=254803968
 v0:∀s ∈ S,0<=v s/\v s<=63700992000
 get:∀(i:Nat) s,S[i]? =some s->ix l7 (i:Int)=some (v s)
def wtj_le(h:∀j,0<=wtj b j)(hk:k<n):wtj b k<=smN n (wtj b):=by have:=ad7 h (Nat.zero_le k) hk;simpa[smN] using this
def Wok.nn{op:Int}(h:Wok d b op a c)(j:Nat):0<=wtj c j:=by by_cases e:j<mf a;have:=h.pos j e;omega;unfold wtj;rw[lj (by rw[h.len];omega)];simp
def smN_bound{f w:Nat->Int}{m:Nat}(h:∀j,j<m->f j<=w j * x):smN m f<=smN m w * x:=by
 have a:=ac8 h;have b:smN m (fun j=>w j * x)=smN m w * x:=by rw[kO,<- C4];exact o8 fun j _=>kO _ _
 omega
def ar7{op:Int}(g:k8 d)(e:0<=op/\op<mf d.operators)(h:Wok d b op a c):1<=WS d b op/\WS d b op<=24:=by obtain⟨i,j⟩:=h.rs;unfold WS;rw[i,j];refine⟨?_,h.sum⟩;have l0:=(g.at e.1 e.2).l0;have k:efc d.facts b ((ooAt d op).outcomes[0]) ∈ a:=(h.mem _).2 ⟨_,kI (by omega),rfl⟩;have f:=lw k;have l:=h.pos 0 f;have:=wtj_le h.nn f;omega
def InS(t:b8)(S:LL)(s:Li)(op:Int):Prop:=∀y ∈ sc t s op,l9 t y\/y ∈ S
def cval_eq{l7:Li}(L:k8 d)(hS:StS d a)(N:VB a i y l7){s:Li}(hs:SetN s d.facts){op:Int}(F:0<=op/\op<mf d.operators)(l:Li):
  (InS d a s op/\E4 s op d a y l l7=some (QS d i y s op,WS d s op,true)/\0<=QS d i y s op/\QS d i y s op<=4000000000000)\/(¬ InS d a s op/\∃p b,E4 s op d a y l l7=some (p,b,false)):=by
 have z:=ak0 L F hs
 generalize O:(rsO d s op).1=st at z
 generalize hw:(rsO d s op).2=w at z
 have a0:=hS.n5
 have a4:=N.d0;have aa:=N.d1
 have P:=L.at F.1 F.2
 have Q:=P.c0;have ac:=P.c1
 have av:=z.sum
 have a5:=z.s4
 have B:∀r,r ∈ st↔r ∈ sc d s op:=fun r=>by rw[z.mem,sc,kD]
 have U:∀r,(l9 d r\/r ∈ a)->0<=vG d i r/\vG d i r<=63700992000:=fun r A=>by unfold vG;by_cases g:l9 d r;rw[ifP g];omega;rw[ifN g];exact N.v0 _ (A.resolve_left g)
 unfold E4
 rw[z.eq,ky]
 have V:∀r ∈ st,SetN r d.facts:=fun r A=>by obtain⟨x,_,rfl⟩:=(z.mem r).1 A;exact al2 _ _ _
 rcases ah0 (body:=K3 d a l7 (st,w)) (n:=(mf st:Int)) (s:=((0:Int),(0:Int)))
  (fun j q=>q.1=smN j.toNat (fun j=>wtj w j * vG d i ((st[j]?).getD []))/\q.2=smN j.toNat (wtj w)/\∀(k:Nat) r,(k:Int)<j->st[k]? =some r->l9 d r\/r ∈ a) (fun o=>o.2.2=false/\∃r ∈ st,¬ (l9 d r\/r ∈ a)) (by omega) ⟨rfl,rfl,fun k r hk=>by omega⟩ (fun j q j0 j1 ⟨p1,p2,p3⟩=>by
   obtain⟨sum,all⟩:=q;obtain⟨J,rfl⟩:=kC j0;have G:J<mf st:=by omega
   dsimp only at p1 p2;rw[kM] at p1 p2;have D:st[J]? =some st[J]:=kx G;have hx:ix st (J:Int)=some st[J]:=by rw[v8];exact D
   have ad:=ap9 (w:=w) (i:=J) (by rw[z.len];exact G);have a6:=z.pos J G;have a7:=wtj_le z.nn G;have sJ:=V _ (kI G);have X:w9 st[J] d.goal=some (dec (l9 d st[J])):=aa0 sJ.1 L.goal.1 (by have:=sJ.len;have:=L.n1;omega);have a1:smN (J+1) (wtj w)=smN J (wtj w)+wtj w J:=rfl;have a2:=aa1 (f:=wtj w) z.nn (show J+1<=mf st by omega);have a3:0<=smN J (wtj w):=ae0 fun j _=>z.nn j;have b1:smN (J+1) (fun j=>wtj w j * vG d i ((st[j]?).getD []))=smN J (fun j=>wtj w j * vG d i ((st[j]?).getD []))+wtj w J * vG d i st[J]:=by show _+wtj w J * vG d i ((st[J]?).getD [])=_;rw[D];rfl
   have t:∀k,k<J->0<=wtj w k * vG d i ((st[k]?).getD [])/\wtj w k * vG d i ((st[k]?).getD [])<=wtj w k * 63700992000:=fun k hk=>by have e:st[k]? =some st[k]:=kx (by omega);have:=U _ (p3 k st[k] (by omega) e);rw[e];exact⟨kK (z.nn k) this.1,lh this.2 (z.nn k)⟩
   have b2:0<=smN J fun j=>wtj w j * vG d i ((st[j]?).getD []):=ae0 fun k hk=>(t k hk).1;have b3:=smN_bound (m:=J) fun k hk=>(t k hk).2;have f1:w64 (all+wtj w J)=smN (J+1) (wtj w):=by rw[p9 (by omega) (by omega),p2,a1]
   have nx:∀(r:Li),(l9 d st[J]\/st[J] ∈ a)->∀(k:Nat) r,(k:Int)<(J:Int)+1->st[k]? =some r->l9 d r\/r ∈ a:=fun _ h k r hk A=>by by_cases e:k=J;subst e;rw[D] at A;cases A;exact h;exact p3 k r (by omega) A
   unfold K3;simp only[hx,ad,X,oB];by_cases H:l9 d st[J];rw[ifP H];unfold B8;refine .inl ⟨_,rfl,?_,?_,nx [] (.inl H)⟩;rw[show((J:Int)+1).toNat=J+1 by omega,b1,p1];unfold vG;rw[ifP H,Int.mul_zero,Int.add_zero];rw[show((J:Int)+1).toNat=J+1 by omega];exact f1;rw[ifN H];obtain⟨u,i1,i2,i3⟩:=ax8 (t:=st[J]) hS.ord (by omega);rw[i1];simp only[oB,B9];by_cases cs:st[J] ∈ a;rw[ifNN cs];obtain⟨m,m0,m1,hm⟩:=p8 cs;have em:=i3 m hm;subst em;obtain⟨M,rfl⟩:=kC m0;rw[v8] at hm;have al:=N.get M _ hm;have v:=N.v0 _ cs;have e1:vG d i st[J]=i st[J]:=by unfold vG;rw[ifN H]
   have c1:0<=wtj w J * i st[J]:=kK (by omega) v.1;have c2:wtj w J * i st[J]<=wtj w J * 63700992000:=lh v.2 (by omega);have f2:w64 (wtj w J * i st[J])=wtj w J * i st[J]:=p9 (by omega) (by omega);have f3:w64 (sum+wtj w J * i st[J])=sum+wtj w J * i st[J]:=p9 (by omega) (by omega);simp only[al,oB,f2,f3];unfold B8;refine .inl ⟨_,rfl,?_,?_,nx [] (.inr cs)⟩;rw[show((J:Int)+1).toNat=J+1 by omega,b1,p1,e1];rw[show((J:Int)+1).toNat=J+1 by omega];exact f1;rw[ifP cs];exact .inr ⟨_,rfl,rfl,_,kI G,fun h=>h.elim H cs⟩) with⟨⟨sum,all⟩,r1,E,K,r4⟩|⟨⟨p,b,c⟩,r1,E,r,A,K⟩
 ·left
  dsimp only at E K
  rw[kM] at E K
  have an:InS d a s op:=fun r A=>by obtain⟨k,hk⟩:=kF ((B r).2 A);exact r4 k r (by have:=(lG.1 hk).1;omega) hk
  have t:∀k,k<mf st->0<=wtj w k * vG d i ((st[k]?).getD [])/\wtj w k * vG d i ((st[k]?).getD [])<=wtj w k * 63700992000:=fun k hk=>by have e:st[k]? =some st[k]:=kx (by omega);have:=U _ (r4 k st[k] (by omega) e);rw[e];exact⟨kK (z.nn k) this.1,lh this.2 (z.nn k)⟩
  have b2:0<=smN (mf st) fun j=>wtj w j * vG d i ((st[j]?).getD []):=ae0 fun k hk=>(t k hk).1
  have b3:=smN_bound (m:=mf st) fun k hk=>(t k hk).2
  have ao:=ar7 L F z
  have eW:WS d s op=smN (mf st) (wtj w):=by unfold WS;rw[O,hw]
  have eC:CS d i s op=smN (mf st) fun j=>wtj w j * vG d i ((st[j]?).getD []):=by unfold CS;rw[O,hw]
  rw[<- eW] at K b3
  rw[<- eC] at E b2 b3
  subst E K
  have d1:0<=WS d s op * (ooAt d op).cost:=kK (by omega) Q
  have d2:WS d s op * (ooAt d op).cost<=2400:=by have:=ls ao.2 ac Q (by omega:(0:Int)<=24);omega
  have d3:0<=WS d s op * (ooAt d op).cost * y:=kK d1 (by omega)
  have d4:WS d s op * (ooAt d op).cost * y<=2400 * 254803968:=ls d2 aa (by omega) (by omega)
  have g1:w64 (WS d s op * (ooAt d op).cost)=WS d s op * (ooAt d op).cost:=p9 (by omega) (by omega)
  have g2:w64 (WS d s op * (ooAt d op).cost * y)=WS d s op * (ooAt d op).cost * y:=p9 (by omega) (by omega)
  have g3:w64 (CS d i s op+WS d s op * (ooAt d op).cost * y)=CS d i s op+WS d s op * (ooAt d op).cost * y:=p9 (by omega) (by omega)
  rw[r1]
  simp only[oB,ix_oo F.1 F.2,g1,g2,g3]
  refine⟨an,rfl,?_,?_⟩<;>unfold QS<;>omega
 ·right
  dsimp only at E
  subst E
  rw[r1]
  exact⟨fun h=>K (h r ((B r).1 A)),p,b,rfl⟩
def Bst(t:b8)(S:LL)(v:Li->Int)(den:Int)(s:Li)(f:Int):Prop:=
 Alw t S s f/\(∀op,Alw t S s op->QS t v den s f * WS t s op<=QS t v den s op * WS t s f)/\∀op,op<f->Alw t S s op->QS t v den s f * WS t s op<QS t v den s op * WS t s f
def frac_lt{d e f:Int}(k:0<d)(l:0<y)(g:0<f)(h:x * d<q * y)(i:q * f<=e * d):x * f<e * y:=by
 have n:x * d * f<q * y * f:=Int.mul_lt_mul_of_pos_right h g;have o:q * f * y<=e * d * y:=lf i (by omega);have j:(x * f) * d<(e * y) * d:=by
  have p:(x * f) * d=x * d * f:=by grind
  have r:(e * y) * d=e * d * y:=by grind
  have s:q * f * y=q * y * f:=by grind
  omega
 exact Int.lt_of_mul_lt_mul_right j (by omega)
def frac_le{d e f:Int}(g:0<d)(k:0<y)(l:0<f)(h:x * d<=q * y)(i:q * f<=e * d):x * f<=e * y:=by
 have n:x * d * f<=q * y * f:=lf h (by omega);have o:q * f * y<=e * d * y:=lf i (by omega);have j:(x * f) * d<=(e * y) * d:=by
  have p:(x * f) * d=x * d * f:=by grind
  have r:(e * y) * d=e * d * y:=by grind
  have s:q * f * y=q * y * f:=by grind
  omega
 exact kU j g
def imp2(r:k8 d)(t:StS d a)(v:VB a i x b)(D:SetN c d.facts)(s:∃op,Alw d a c op)(l:Li):
  ∃f,forR 0 (mf d.operators:Int) (D6 d a x l b c) (-1,0,1)=some (f,QS d i x c f,WS d c f)/\Bst d a i x c f/\(0<=QS d i x c f/\QS d i x c f<=4000000000000)/\1<=WS d c f/\WS d c f<=24:=by
 obtain⟨⟨f,g,w⟩,k1,k2⟩:=u9 (body:=D6 d a x l b c) (n:=(mf d.operators:Int)) (s:=((-1:Int),(0:Int),(1:Int)))
  (fun j q=>(q=(-1,0,1)/\∀op,op<j->¬ Alw d a c op)\/∃f,q=(f,QS d i x c f,WS d c f)/\f<j/\Alw d a c f/\(0<=QS d i x c f/\QS d i x c f<=4000000000000)/\(1<=WS d c f/\WS d c f<=24)/\(∀op,op<j->Alw d a c op->QS d i x c f * WS d c op<=QS d i x c op * WS d c f)/\∀op,op<f->Alw d a c op->QS d i x c f * WS d c op<QS d i x c op * WS d c f) (by omega)
  (.inl ⟨rfl,fun op h J=>by have:=J.1.1;omega⟩) (fun j q E F V=>by
   have hW:=ak0 r ⟨E,F⟩ D;have M:=ar7 r ⟨E,F⟩ hW;have lift:∀{P:Int->Prop},(∀op,op<j->P op)->P j->∀op,op<j+1->P op:=fun K u op o=>by by_cases e:op=j;subst e;exact u;exact K op (by omega)
   unfold D6;obtain⟨f,g,w⟩:=q;simp only[oCan_eq r E F D,oB,B9];have y:¬ Alw d a c j->(((f,g,w)=((-1:Int),(0:Int),(1:Int))/\∀op,op<j+1->¬ Alw d a c op)\/∃k,(f,g,w)=(k,QS d i x c k,WS d c k)/\k<j+1/\Alw d a c k/\(0<=QS d i x c k/\QS d i x c k<=4000000000000)/\(1<=WS d c k/\WS d c k<=24)/\(∀op,op<j+1->Alw d a c op->QS d i x c k * WS d c op<=QS d i x c op * WS d c k)/\∀op,op<k->Alw d a c op->QS d i x c k * WS d c op<QS d i x c op * WS d c k):=fun X=>by rcases V with⟨e,h⟩|⟨k,e,K,u,z,B,A,G⟩;exact .inl ⟨e,lift h X⟩;exact .inr ⟨k,e,by omega,u,z,B,lift A fun h=>absurd h X,G⟩
   by_cases L:oCan d c j;rw[ifNN L];rcases cval_eq r t v D ⟨E,F⟩ l with⟨c1,N,O,Q⟩|⟨c1,a',b',N⟩;have J:Alw d a c j:=⟨⟨E,F⟩,L,c1⟩;rw[N];simp only[oB,Bool.true_and];rcases V with⟨e,h⟩|⟨k,e,K,u,z,B,A,G⟩;cases e;rw[if_pos (by simp)];exact⟨_,rfl,.inr ⟨j,rfl,by omega,J,⟨O,Q⟩,M,lift (fun op o p=>absurd p (h op o)) fun _=>kY _,fun op o p=>absurd p (h op o)⟩⟩;cases e;have aa:=u.1.1;have p1:0<=QS d i x c j * WS d c f:=kK O (by omega);have p2:QS d i x c j * WS d c f<=4000000000000 * 24:=ls Q B.2 (by omega) (by omega);have p3:0<=QS d i x c f * WS d c j:=kK z.1 (by omega);have p4:QS d i x c f * WS d c j<=4000000000000 * 24:=ls z.2 M.2 (by omega) (by omega);rw[p9 (by omega) (by omega),p9 (by omega) (by omega)];by_cases cl:QS d i x c j * WS d c f<QS d i x c f * WS d c j;rw[if_pos (by simp[cl])];refine⟨_,rfl,.inr ⟨j,rfl,by omega,J,⟨O,Q⟩,M,lift (fun op o p=> ?_) fun _=>kY _,fun op o p=> ?_⟩⟩;have:=ar7 r p.1 (ak0 r p.1 D);exact Int.le_of_lt (frac_lt (by omega) (by omega) (by omega) cl (A op o p));have:=ar7 r p.1 (ak0 r p.1 D);exact frac_lt (by omega) (by omega) (by omega) cl (A op o p);rw[if_neg (by simp[cl];omega)];refine⟨_,rfl,.inr ⟨f,rfl,by omega,u,z,B,lift A fun _=>by omega,G⟩⟩;rw[N];simp only[oB,Bool.false_and,lr,if_false];exact⟨_,rfl,y fun h=>c1 h.2.2⟩;rw[ifP L];exact⟨_,rfl,y fun h=>L h.2.1⟩)
 rcases k2 with⟨_,h⟩|⟨k,e,K,u,z,B,A,G⟩
 ·obtain⟨op,H⟩:=s
  exact absurd H (h op H.1.2)
 ·cases e
  exact⟨f,k1,⟨u,fun op H=>A op H.1.2 H,G⟩,z,B⟩
def improve_eq{y:Li}(V:k8 d)(A:StS d a)(B:VB a i x y)(X:∀s ∈ a,∃op,Alw d a s op){l:Li}(t:mf l=mf a):
  ∃r,G1 d a x l y=some (r,dec (∃(g:Nat) (s:Li) (f:Int),a[g]? =some s/\r[g]? =some f/\QS d i x s f<i s * WS d s f))/\(mf r)=mf a/\∀(g:Nat) s,a[g]? =some s->∃f,r[g]? =some f/\Bst d a i x s f:=by
 have v:=A.n5
 unfold G1
 rw[ad5 (by omega),ky]
 obtain⟨⟨r,b⟩,k1,L,M,N⟩:=u9 (body:=H8 d a x l y) (n:=(mf a:Int)) (s:=(l,false))
  (fun j q=>q.1.length=mf a/\(∀(g:Nat) s,(g:Int)<j->a[g]? =some s->∃f,q.1[g]? =some f/\Bst d a i x s f)/\(q.2=true↔∃(g:Nat) (s:Li) (f:Int),(g:Int)<j/\a[g]? =some s/\q.1[g]? =some f/\QS d i x s f<i s * WS d s f)) (by omega) ⟨t,fun g s hi=>by omega,by simp;intro g hi;omega⟩ (fun j q j0 j1 ⟨P,Q,U⟩=>by
   obtain⟨c,b⟩:=q;obtain⟨J,rfl⟩:=kC j0;have z:J<mf a:=by omega
   have h:a[J]? =some a[J]:=kx z;dsimp only at P Q U;obtain⟨f,f1,f2,f3,f4⟩:=imp2 V A B (A.set _ (kI z)) (X _ (kI z)) l;have D:=B.get J _ h;have w:=B.v0 _ (kI z);have hx:ix a (J:Int)=some a[J]:=by rw[v8];exact h
   have hc:ix c (J:Int)=some c[J]:=by rw[v8];exact kx (by omega)
   have g1:0<=i a[J] * WS d a[J] f:=kK w.1 (by omega);have g2:i a[J] * WS d a[J] f<=63700992000 * 24:=ls w.2 f4.2 (by omega) (by omega);have get:∀g:Nat,(c.set J f)[g]? =if g=J then some f else c[g]? :=fun g=>by rw[li];by_cases e:J=g;rw[if_pos e,if_pos e.symm,if_pos (by omega)];rw[if_neg e,if_neg (Ne.symm e)]
   have hb:∃E,(if b=true then some true else kJ (ix y (J:Int)) fun F=>some (decide (QS d i x a[J] f<w64 (F * WS d a[J] f))))=some E/\(E=true↔b=true\/QS d i x a[J] f<i a[J] * WS d a[J] f):=by
    cases b with
    |true=>exact⟨true,rfl,by simp⟩
    |false=>
     rw[if_neg (by simp),D,ky,p9 (by omega) (by omega)]
     exact⟨_,rfl,by simp⟩
   obtain⟨E,G,H⟩:=hb;unfold H8;simp only[hx,oB,f1,G,hc,kM];refine⟨_,rfl,by dsimp only;rw[lS];exact P,fun g s hi u=> ?_,?_⟩;dsimp only;rw[get];by_cases e:g=J;subst e;rw[h] at u;cases u;exact⟨f,if_pos rfl,f2⟩;rw[if_neg e];exact Q g s (by omega) u;dsimp only;rw[H,U];constructor;rintro (⟨g,s,K,q1,o,k,p⟩|q);exact⟨g,s,K,by omega,o,by rw[get,if_neg (by omega)];exact k,p⟩;exact⟨J,a[J],f,by omega,h,by rw[get,if_pos rfl],q⟩;rintro ⟨g,s,K,q1,o,k,p⟩;rw[get] at k;by_cases e:g=J;subst e;rw[if_pos rfl] at k;rw[h] at o;cases o;cases k;exact .inr p;rw[if_neg e] at k;exact .inl ⟨g,s,K,by omega,o,k,p⟩)
 rw[k1]
 dsimp only at L M N
 refine⟨r,?_,L,fun g s u=>M g s (by have:=(lG.1 u).1;omega) u⟩
 simp only[oB]
 congr 2
 rw[bool_dec b]
 refine x7 ?_
 rw[N]
 exact⟨fun⟨g,s,f,_,o,k,p⟩=>⟨g,s,f,o,k,p⟩,fun⟨g,s,f,o,k,p⟩=>⟨g,s,f,by have:=(lG.1 o).1;omega,o,k,p⟩⟩
noncomputable def posS(S:LL)(s:Li):Nat:=@Classical.epsilon Nat ⟨0⟩ fun k=>S[k]? =some s
def posS_eq(f:Ord a)(h:a[n]? =some c):posS a c=n:=by
 have e:a[posS a c]? =some c:=@Classical.epsilon_spec Nat (fun n=>a[n]? =some c) ⟨n,h⟩;have d:ix a (posS a c:Int)=some c:=by rw[v8,e]
 have b:ix a (n:Int)=some c:=by rw[v8,h]
 have:=f.inj d b;omega
noncomputable def atS(S:LL)(num:Nat->Nat)(s:Li):Int:=num (posS S s)
def atS_eq(c:Ord a){num:Nat->Nat}(h:a[n]? =some b):atS a num b=num n:=by unfold atS;rw[posS_eq c h]
def as4(h:n<mf a):a[n]? =some (sN a n):=by unfold sN;rw[kx h];rfl
def oL(l:Li)(i:Nat):Int:=(l[i]?).getD 0
def oL_eq(h:b[n]? =some x):oL b n=x:=by unfold oL;rw[h];rfl
noncomputable def stL(t:b8)(S:LL)(l:Li)(i:Nat):LL:=(rsO t (sN S i) (oL l i)).1
noncomputable def wL(t:b8)(S:LL)(l:Li)(i:Nat):Li:=(rsO t (sN S i) (oL l i)).2
structure OkL(t:b8)(S:LL)(l:Li):Prop where
 len:mf l=mf S
 al:∀(i:Nat) s,S[i]? =some s->∃f,l[i]? =some f/\Alw t S s f
def PrL(t:b8)(S:LL)(l:Li):Prop:=∀i,i<mf S->Px (mf S) (WF (stL t S l) (wL t S l)) (wG S (stL t S l) (wL t S l)) i
noncomputable abbrev mxL(t:b8)(S:LL)(l:Li):Mtx:=eqN t S (oL l) (stL t S l) (wL t S l)
noncomputable def vD(t:b8)(S:LL)(l:Li):Int:=((det (mf S) (mxL t S l)).natAbs:Int)
noncomputable def vN(t:b8)(S:LL)(l:Li)(i:Nat):Int:=((det (mf S) (rep (mxL t S l) i fun r=>mxL t S l r (mf S))).natAbs:Int)
def ltL(t:b8)(S:LL)(x y:Li):Prop:=0<vD t S x/\0<vD t S y/\(∀i,i<mf S->vN t S x i * vD t S y<=vN t S y i * vD t S x)/\∃i,i<mf S/\vN t S x i * vD t S y<vN t S y i * vD t S x
def ltL_trans(x y z:Li)(h:ltL d a x y)(g:ltL d a y z):ltL d a x z:=by obtain⟨b,e,j,i,hi,l⟩:=h;obtain⟨_,c,f,_⟩:=g;exact⟨b,c,fun k hk=>frac_le e b c (j k hk) (f k hk),i,hi,frac_lt e b c l (f i hi)⟩
def ltL_irrefl(x:Li):¬ ltL d a x x:=fun⟨_,_,_,_,_,h⟩=>Int.lt_irrefl _ h
def OkL.sys(c:k8 d)(e:StS d a)(h:OkL d a b):Sys d a (oL b) (stL d a b) (wL d a b):=sys_op c e fun i s g=>by obtain⟨f,j,k⟩:=h.al i s g;rw[oL_eq j];exact k
def OkL.has(h:OkL d a b):∀s ∈ a,∃op,Alw d a s op:=fun s c=>by obtain⟨i,hi⟩:=kF c;obtain⟨f,_,e⟩:=h.al i s hi;exact⟨f,e⟩
def OkL.mem(h:OkL d a b):b ∈ lists (mf d.operators) (mf a):=mem_lists h.len fun x e=>by
 obtain⟨i,hi⟩:=kF e;have g:i<mf a:=by have:=(lG.1 hi).1;have:=h.len;omega
 obtain⟨f,c,j⟩:=h.al i _ (as4 g);rw[hi] at c;cases c;exact j.1
def Sol.vD{num:Nat->Nat}(h:Sol d a (oL b) (stL d a b) (wL d a b) x num n):Ab.vD d a b=n/\∀i,i<mf a->Ab.vN d a b i=num i:=by have c:=h.dd;have f:=h.nn;unfold Ab.vD Ab.vN;refine⟨?_,fun i hi=> ?_⟩;rw[c];rcases h.s1 with e|e<;>rw[e]<;>omega;rw[f i hi];rcases h.s1 with e|e<;>rw[e]<;>omega
def signs(q:x=1\/x= -1){num:Nat->Nat}(A:0<k)(r:k<=254803968)(t:∀i,i<n->num i<=63700992000){N:Li}(u:mf N=n)(g:∀i:Nat,i<n->ix N (i:Int)=some (x * (num i:Int))):
  ∃a,(if x * (k:Int)<0 then(kJ (forR 0 (mf N:Int) ab5 N) fun d=>some (w64 (0 - x * (k:Int)),d)) else some (x * (k:Int),N))=some ((k:Int),a)/\∀i:Nat,i<n->ix a (i:Int)=some (num i:Int):=by
 rcases q with rfl|rfl
 ·rw[if_neg (by omega)]
  exact⟨N,by rw[ln],fun i hi=>by rw[g i hi,ln]⟩
 ·rw[if_pos (by omega),p9 (by omega) (by omega),show 0 - -1 * (k:Int)=k by omega]
  obtain⟨a,v,B,w⟩:=u9 (body:=ab5) (n:=(mf N:Int)) (s:=N)
   (fun j c=>mf c=n/\∀i:Nat,i<n->ix c (i:Int)=some (if(i:Int)<j then(num i:Int) else -1 * (num i:Int))) (by omega) ⟨u,fun i hi=>by rw[if_neg (by omega)];exact g i hi⟩ (fun j c y D ⟨z,l⟩=>by
    obtain⟨J,rfl⟩:=kC y;have o:J<n:=by omega
    have e:=l J o;rw[if_neg (by omega)] at e;have b:=t J o;unfold ab5;simp only[e,oB];rw[p9 (by omega) (by omega)];refine⟨_,rfl,by rw[lS];exact z,fun i hi=> ?_⟩;rw[U5 (by omega) (by omega) (by omega)];by_cases p:(i:Int)=J;rw[if_pos p,if_pos (by omega)];have:i=J:=by omega
    subst this;congr 1;omega;rw[if_neg p,l i hi];by_cases f:(i:Int)<J;rw[if_pos f,if_pos (by omega)];rw[if_neg f,if_neg (by omega)])
  rw[v]
  exact⟨a,rfl,fun i hi=>by rw[w i hi,if_pos (by omega)]⟩
def round_eq(u:k8 d)(y:∀op:Int,0<=op/\op<mf d.operators->1<=(ooAt d op).cost)(q:StS d a)(B:OkL d a c)(hp:PrL d a c)(D:Int)(r:Li):
  ∃den N o b v,U2 d a (D,c,r,true)=some (.inl (den,o,N,b))/\VB a v den N/\OkL d a o/\PrL d a o/\
   (∀(i:Nat) s,a[i]? =some s->∃f,o[i]? =some f/\Bst d a v den s f/\QS d v den s f<=v s * WS d s f/\(b=false->QS d v den s f=v s * WS d s f))/\(b=true->ltL d a o c):=by
 have ad:=q.n5
 have h:=B.sys u q
 have z:∀(i:Nat) s,a[i]? =some s->G3 a s=some (i:Int):=fun i s n=>af1 q.ord (by omega) (by rw[v8,n])
 obtain⟨sg,num,den,L,N0,s1,s2,s3,s4,s5⟩:=solved u h hp (choose:=fun s=>y6 s d a D c r) (fun i s n=>by obtain⟨f,f1,_⟩:=B.al i s n;unfold y6;rw[z i s n,ky,v8,f1,oL_eq f1];rfl)
 obtain⟨N,n1,n2⟩:=signs s1.s1 s1.d0 s1.d1 s1.n1 s4 s5
 have an:=s1.d0;have ao:=s1.d1
 have P:VB a (atS a num) den N:=⟨by omega,by omega,fun s n=>by obtain⟨i,hi⟩:=kF n;have:=s1.n1 i (lG.1 hi).1;rw[atS_eq q.ord hi];omega,fun i s n=>by rw[atS_eq q.ord n];exact n2 i (lG.1 n).1⟩
 obtain⟨o,Q,i2,K⟩:=improve_eq u q P B.has B.len
 generalize E:dec (∃(i:Nat) (s:Li) (f:Int),a[i]? =some s/\o[i]? =some f/\QS d (atS a num) den s f<atS a num s * WS d s f)=b at Q
 have he:N3 d a d a D c r=some L:=by have:N3 d a d a D c r=(forR 0 (mf a:Int) (I4 d a fun s=>y6 s d a D c r) []).bind fun j=>some j:=rfl;rw[this,s2];rfl
 have F:OkL d a o:=⟨i2,fun i s n=>by obtain⟨f,f1,f2⟩:=K i s n;exact⟨f,f1,f2.1⟩⟩
 have x:=F.sys u q
 have w:∀k,k<mf a->((num k:Nat):Int)=atS a num (sN a k):=fun k hk=>(atS_eq q.ord (as4 hk)).symm
 have old:∀(i:Nat) s,a[i]? =some s->QS d (atS a num) den s (oL c i)=WS d s (oL c i) * atS a num s:=fun i s n=>by have hi:=(lG.1 n).1;rw[<- h.qs n (num:=fun k=>(num k:Int)) w,s1.vf.eq i hi,h.ws n,atS_eq q.ord n]
 have G:∀s ∈ a,∀op,Alw d a s op->1<=WS d s op:=fun s n op U=>(ar7 u U.1 (ak0 u U.1 (q.set s n))).1
 have p:∀(i:Nat) s f,a[i]? =some s->Bst d a (atS a num) den s f->QS d (atS a num) den s f<=atS a num s * WS d s f:=fun i s f n H=>by
  obtain⟨g,g1,V⟩:=B.al i s n;have e:=old i s n;rw[oL_eq g1] at e;have X:=H.2.1 g V;rw[e] at X;have w1:=G s (kE n) g V;have e2:QS d (atS a num) den s f * WS d s g<=(atS a num s * WS d s f) * WS d s g:=by rw[show atS a num s * WS d s f * WS d s g=WS d s g * atS a num s * WS d s f by grind];exact X
  exact kU e2 (by omega)
 have t:∀i,i<mf a->Qv (mf a) (WF (stL d a o) (wL d a o)) (wG a (stL d a o) (wL d a o)) (cF d (oL o)) (fun k=>(num k:Int)) den i<=WF (stL d a o) (wL d a o) i * (num i:Int):=fun i hi=>by obtain⟨f,f1,f2⟩:=K i _ (as4 hi);have:=p i _ f (as4 hi) f2;rw[x.qs (as4 hi) w,x.ws (as4 hi),oL_eq f1,w i hi,kO];exact this
 have A:PrL d a o:=proper_of (sys_ms u x) (fun i hi=>y _ (x.rng i hi)) (den:=(den:Int)) (by omega) t
 refine⟨den,N,o,b,atS a num,?_,P,F,A,fun i s n=> ?_,fun H=> ?_⟩
 ·unfold U2
  simp only[if_true,he,oB,s3,n1,Q]
 ·obtain⟨f,f1,f2⟩:=K i s n
  have b1:=p i s f n f2
  refine⟨f,f1,f2,b1,fun H=> ?_⟩
  have:¬ QS d (atS a num) den s f<atS a num s * WS d s f:=fun M=>dec_false.1 (E.trans H) ⟨i,s,f,n,f1,M⟩
  omega
 ·obtain⟨i,s,f,J,q2,l⟩:=m5.1 (E.trans H)
  have hi:=(lG.1 J).1
  obtain⟨av,aa,ac,_,_,O,_⟩:=solved u x A (choose:=fun s=>some (oL o (posS a s))) (fun i s n=>by rw[posS_eq q.ord n])
  have key:=val_ge (sys_ms u x) A O.vf (den:=(den:Int)) (by omega) t
  have d':=O.d0
  obtain⟨a1,a2⟩:=s1.vD
  obtain⟨c1,c2⟩:=O.vD
  refine⟨by rw[c1];omega,by rw[a1];omega,fun k hk=> ?_,i,hi,?_⟩
  ·rw[a1,c1,a2 k hk,c2 k hk,kO,kO (num k:Int)]
   exact(key k hk).1
  ·rw[a1,c1,a2 i hi,c2 i hi,kO,kO (num i:Int)]
   refine(key i hi).2 ?_
   rw[x.qs J w,x.ws J,oL_eq q2]
   rw[atS_eq q.ord J] at l
   rw[kO];exact l
structure Fin(t:b8)(S:LL)(v:Li->Int)(den:Int)(l N:Li):Prop where
 vb:VB S v den N
 ok:OkL t S l
 pr:PrL t S l
 bst:∀(i:Nat) s,S[i]? =some s->∃f,l[i]? =some f/\Bst t S v den s f/\QS t v den s f=v s * WS t s f
def rounds_eq(z:k8 d)(j:∀op:Int,0<=op/\op<mf d.operators->1<=(ooAt d op).cost)(A:StS d a)(B:OkL d a c)(hp:PrL d a c)(k:Int)(h:Li):
  ∃den n N v,Loop (U2 d a) (k,c,h,true)=some (den,n,N)/\Fin d a v den n N:=by
 obtain⟨⟨den,n,N⟩,D,v,E⟩:=E8 (body:=U2 d a) (fun q=>OkL d a q.2.1/\PrL d a q.2.1/\(q.2.2.2=true\/∃v,Fin d a v q.1 q.2.1 q.2.2.1)) (fun o=>∃v,Fin d a v o.1 o.2.1 o.2.2)
  (fun q=>if q.2.2.2=true then rank (lists (mf d.operators) (mf a)) (ltL d a) q.2.1+1 else 0) (s:=(k,c,h,true)) ⟨B,hp,.inl rfl⟩ (fun⟨k,c,h,g⟩ ⟨u,w,x⟩=>by
   dsimp only at u w x;cases g with
   |true=>
    obtain⟨den,N,n,b,v,F,G,p,y,H,J⟩:=round_eq z j A u w k h
    rw[F]
    refine .inl ⟨_,rfl,⟨p,y,?_⟩,?_⟩
    ·cases b with
     |true=>exact .inl rfl
     |false=>exact .inr ⟨v,G,p,y,fun i s K=>by obtain⟨f,f1,f2,_,f3⟩:=H i s K;exact⟨f,f1,f2,f3 rfl⟩⟩
    ·dsimp only
     rw[if_pos rfl]
     cases b with
     |true=>
      rw[if_pos rfl]
      have:=rank_lt (L:=lists (mf d.operators) (mf a)) ltL_trans ltL_irrefl p.mem (J rfl)
      omega
     |false=>rw[if_neg (by simp)];omega
   |false=>
    refine .inr ⟨(k,c,h),rfl,?_⟩
    rcases x with e|e
    ·cases e
    ·exact e)
 exact⟨den,n,N,v,D,E⟩
abbrev frT(t:b8)(s:Li):b8:=⟨t.facts,s,t.goal,t.operators⟩
def frT_ok(a:k8 d)(c:SetN b d.facts):k8 (frT d b):=⟨a.n0,a.n1,c,a.goal,a.ops,a.op⟩
structure CloS(t:b8)(all:LL):Prop where
 len:mf all<=2000
 init:t.init ∈ all
 sc:∀s ∈ all,∀op:Int,(0<=op/\op<mf t.operators)->oCan t s op->∀y ∈ sc t s op,y ∈ all
def ClO.fr(e:ClO d a)(f:b ∈ a):CloS (frT d b) a:=⟨e.len,f,fun _ g _ h c _ i=>e.sc g h c i⟩
def rin4(J:k8 d)(V:mf a<=2000){st:LL}{w:Li}(o:∀y ∈ st,SetN y d.facts/\y ∈ a){l0:LL}(K:Rc d l0 r (l0.map fun s=>(wsN s:Int)))(L:l0.Nodup)(q:∀y ∈ l0,y ∈ a):
  ∃p,rngX 0 (mf st:Int) (J3 (st,w)) (l0,r)=some (.inl p)/\Rc d p.1 p.2 (p.1.map fun s=>(wsN s:Int))/\p.1.Nodup/\(∀y ∈ p.1,y ∈ a)/\Ext l0 p.1:=by
 have B:=J.n1
 rcases ah0 (body:=J3 (st,w)) (n:=(mf st:Int)) (s:=(l0,r)) (fun _ p=>Rc d p.1 p.2 (p.1.map fun s=>(wsN s:Int))/\p.1.Nodup/\(∀y ∈ p.1,y ∈ a)/\Ext l0 p.1) (fun _=>False) (by omega) ⟨K,L,q,.refl _⟩ (fun j ⟨l,m⟩ M N ⟨g,u,v,x⟩=>by
  dsimp only at g u v x;obtain⟨y,E,_⟩:=j7 (l:=st) M N;obtain⟨i,A⟩:=o y (l8 E);have O:=i.len;unfold J3;dsimp only;rw[E];simp only[oB];rw[key1_eq (i.small B) (by omega)];simp only[oB];by_cases c:y ∈ l;rw[if_pos ((g.map y i).2 c)];exact .inl ⟨_,rfl,g,u,v,x⟩;rw[if_neg (fun h=>c ((g.map y i).1 h))];have F:(l++[y]).Nodup:=lK.2 ⟨u,by simp,fun f q b G e=>c (by simp only[kz] at G;rw[<- G,<- e];exact q)⟩;have H:∀z ∈ l++[y],z ∈ a:=fun z P=>by rcases kH.1 P with h|h;exact v z h;rw[kz.1 h];exact A
  have k:=ad1 F H;rw[kR,kS] at k;rw[if_neg (by omega),app,if_pos (by simp;omega)];refine .inl ⟨_,rfl,?_,F,H,x.snoc _⟩;have:=g.put B i (by omega);rw[kT];exact this) with⟨p,Q,U⟩|⟨_,_,h⟩
 ·exact⟨p,Q,U⟩
 ·exact h.elim
def rin2(o:k8 d)(F:CloS d a){l0:LL}(G:Rc d l0 r (l0.map fun b=>(wsN b:Int)))(K:l0.Nodup)(H:∀f ∈ l0,f ∈ a)(q:ix l0 y=some b):
  ∃p,rngX 0 (mf d.operators:Int) (J4 d y) (l0,r)=some (.inl p)/\Rc d p.1 p.2 (p.1.map fun b=>(wsN b:Int))/\p.1.Nodup/\(∀f ∈ p.1,f ∈ a)/\Ext l0 p.1:=by
 have g:=G.set b (l8 q)
 rcases ah0 (body:=J4 d y) (n:=(mf d.operators:Int)) (s:=(l0,r)) (fun _ p=>Rc d p.1 p.2 (p.1.map fun b=>(wsN b:Int))/\p.1.Nodup/\(∀f ∈ p.1,f ∈ a)/\Ext l0 p.1) (fun _=>False) (by omega) ⟨G,K,H,.refl _⟩ (fun j ⟨l,m⟩ u v ⟨z,A,B,i⟩=>by dsimp only at z A B i;unfold J4;dsimp only;rw[i _ _ q];simp only[oB];rw[oCan_eq o u v g];simp only[oB,B9];by_cases c:oCan d b j;rw[ifNN c];obtain⟨st,w,L,V,M,_⟩:=aa3 o u v g;rw[L];simp only[oB];obtain⟨p,D,E,N,O,P⟩:=rin4 o F.len (st:=st) (w:=w) (fun f Q=>by obtain⟨x,U,e⟩:=(M f).1 Q;exact⟨e ▸ al2 _ _ _,F.sc b (H b (l8 q)) j ⟨u,v⟩ c f (kD.2 ⟨x,U,e⟩)⟩) z A B;rw[D];exact .inl ⟨p,rfl,E,N,O,fun k f hk=>P k f (i k f hk)⟩;rw[ifP c];exact .inl ⟨_,rfl,z,A,B,i⟩) with⟨p,D,E⟩|⟨_,_,h⟩
 ·exact⟨p,D,E⟩
 ·exact h.elim
def reach_in(i:k8 d)(u:CloS d a):∃f,G9 d=some (f,true)/\∀y ∈ f,y ∈ a:=by
 have v:=i.n1;have hi:=i.init;have A:=hi.len;unfold G9;rw[ad5 (by omega)];simp only[oB];rw[key1_eq (hi.small v) (by omega)];simp only[oB];have B:Rc d [d.init] (mset ([]:List (ByteArray×Int)) (keyK [d.init]) 1) ([d.init].map fun s=>(wsN s:Int)):=by refine⟨by simpa using hi,by simp,fun s j=> ?_,rfl⟩;rw[I1];by_cases e:keyK [s]=keyK [d.init];rw[if_pos e,SetN.key_inj v j hi e];simp;rw[if_neg e];simp only[mget,kz,Option.getD_none];exact⟨fun h=>by omega,fun h=>absurd (by rw[h]) e⟩
 obtain⟨o,D,l,rfl,E,N⟩:=E8 (body:=W4 d) (fun p=>Rc d p.1 p.2.1 (p.1.map fun s=>(wsN s:Int))/\p.1.Nodup/\(∀y ∈ p.1,y ∈ a)/\0<=p.2.2/\p.2.2<=p.1.length) (fun o=>∃l,o=.inl l/\(∀y ∈ l,y ∈ a)/\(mf l)<=2000) (fun p=>(2000 - p.2.2).toNat) (s:=([d.init],mset ([]:List (ByteArray×Int)) (keyK [d.init]) 1,0)) ⟨B,by simp,fun y k=>by rw[kz.1 k];exact u.init,by simp,by simp⟩ (fun⟨l,m,b⟩ ⟨n,x,q,z,F⟩=>by dsimp only at n x q z F;have g:=n.len;unfold W4;dsimp only;by_cases c:b<mf l;rw[if_pos c];obtain⟨s,j,_⟩:=j7 (l:=l) z c;obtain⟨p,G,H,J,K,L⟩:=rin2 i u n x q j;rw[G];have:=L.len;simp only[oB];rw[p9 (by omega) (by omega)];exact .inl ⟨_,rfl,⟨H,J,K,by dsimp only;omega,by dsimp only;omega⟩,by dsimp only;omega⟩;rw[if_neg c];exact .inr ⟨_,rfl,l,rfl,q,g⟩);rw[D];simp only[oB];obtain⟨r,n1,O,M,P⟩:=normal_eq (l:=l) (by omega);rw[n1];exact⟨r,rfl,fun y k=>E y ((M y).1 k)⟩
def dsc_sub{t u:b8}{all:LL}(g:u.facts=t.facts)(j:u.goal=t.goal)(l:u.operators=t.operators)(b:∀x ∈ a,∀op:Int,(0<=op/\op<mf t.operators)->oCan t x op->∀y ∈ sc t x op,y ∈ a):∀(k:Nat) (x:Li),x ∈ a->DsC t (Sd all i) k x->DsC u (Sd a i) k x:=by
 obtain⟨v,w,A,B⟩:=u
 obtain⟨D,E,F,to⟩:=t
 dsimp only at g j l
 subst g j l
 intro k
 induction k with
 |zero=>exact fun x _ h=>h
 |succ k p=>
  intro x c h
  rcases h with h|⟨q,op,d,e,r,y,n,s⟩
  ·exact .inl h
  ·exact .inr ⟨⟨c,q.2⟩,op,d,e,fun z o=>⟨b x c op d e z o,(r z o).2⟩,y,n,p y (b x c op d e y n) s⟩
def dsc_fr:∀(k:Nat) (x:Li),DsC (frT d b) f k x->DsC d f k x:=fun k=>by
 induction k with
 |zero=>exact fun x h=>h
 |succ k a=>
  intro x h
  rcases h with h|⟨c,op,e,g,i,y,j,l⟩
  ·exact .inl h
  ·exact .inr ⟨c,op,e,g,i,y,j,a y l⟩
def cert_sub(G:ClO d a)(r:L4 d a i){c:LL}(p:ClO (frT d b) c)(g:∀x ∈ c,x ∈ a):L4 (frT d b) c i:=by have v:∀(k:Nat) x,x ∈ c->DsC d (Sd a i) k x->DsC (frT d b) (Sd c i) k x:=dsc_sub (t:=d) (u:=frT d b) (all:=a) rfl rfl rfl fun x n op w q y A=>p.sc n w q A;have l:∀(k:Nat) x,DsC (frT d b) (Sd c i) k x->DsC d (Sd a i) k x:=fun k x h=>(dsc_fr k x h).sub fun z o=>⟨g z o.1,o.2⟩;refine⟨fun x n=> ?_,fun T B x n=> ?_⟩;rcases r.val x (g x n) with⟨e,h⟩|⟨k,e,h⟩;exact .inl ⟨e,fun k hk=>h k (l k x hk)⟩;exact .inr ⟨k,e,v k x n h.1,fun j D E=>h.2 j D (l j x E)⟩;refine r.gr T (fun z o=> ?_) x n;obtain⟨q,k,F⟩:=B z o;exact⟨g z q,k,dsc_fr k z F⟩
def begin_eq(O:k8 d)(w:ClO d a)(h5:(pnd d a).length<=200)(P:L4 d a i)(E:c ∈ a)(h0:0<=i c)(Q:¬ l9 d c):
  ∃p b,G6 (frT d c)=some (p,true,⟨0,0⟩)/\O8 p c=some b/\CycP d i c b:=by
 have z:=frT_ok O (w.set E)
 obtain⟨n,F,G⟩:=reach_in z (w.fr E)
 rcases cpolicy_spec z with⟨e,_⟩|⟨H,v,g,J,_,A,r4,U,V⟩
 ·rw[F] at e;cases e
 ·rw[F] at J
  cases J
  have B:=cert_sub w P A G
  have h:=U.unique B
  have j:c ∈ n:=A.cl.init
  rcases V with⟨e,_⟩|⟨D,X,t,f,s⟩
  ·have:=h c j
   have e:g c= -1:=e
   omega
  ·rcases s with⟨_,l,l1,K,l3⟩|⟨p,p1,L,p3⟩
   ·have:=ad1 l1 fun x M=>(mem_pnd (t:=d)).2 ⟨G x (t x (K x M).1).1,(K x M).2⟩
    omega
   ·have o:RchC (frT d c) D c:=.init
    have q:¬ l9 (frT d c) c:=Q
    have r:=L.pol z X p3
    refine⟨p,D c,p1,?_,?_⟩
    ·rw[(chosen_chO r c).1,L.live o q]
    ·obtain⟨⟨⟨c1,N⟩,c3,y,k,c4⟩,_⟩:=f c o q
     have u:∀y ∈ sc d c (D c),y ∈ n:=fun y k=>A.sc j c1 N k
     refine⟨⟨c1,N⟩,fun y k=> ?_,y,k,?_⟩
     ·rw[<- h y (u y k)];exact c3 y k
     ·rw[<- h y (u y k),<- h c j];exact c4
noncomputable def cerS(t:b8)(all:LL)(f:Li->Int):LL:=pnd t (all.filter fun a=> !dec (f a<0))
def ac7:b ∈ cerS d a i↔(b ∈ a/\0<=i b)/\¬ l9 d b:=by unfold cerS;rw[mem_pnd,lA];by_cases c:i b<0;rw[i9 c];simp;omega;rw[s9 c];simp;omega
def cer_sts(c:ClO d a)(e:(pnd d a).length<=5)(f:Li->Int):StS d (cerS d a f):=by refine⟨Ord.pnd (lz.filter _ c.ord),?_,fun s b=>c.set (ac7.1 b).1.1,fun s b=>(ac7.1 b).2⟩;have:(cerS d a f).length<=(pnd d a).length:=(List.Sublist.filter _ List.filter_sublist).length_le;omega
def cyc_alw(j:ClO d a)(k:c ∈ a)(h:CycP d i c x):Alw d (cerS d a i) c x:=
 ⟨h.1.1,h.1.2,fun y e=>by by_cases g:l9 d y;exact .inl g;exact .inr (ac7.2 ⟨⟨j.sc k h.1.1 h.1.2 e,h.2.1 y e⟩,g⟩)⟩
def begin_all(D:k8 d)(A:ClO d a)(H:(pnd d a).length<=5)(K:L4 d a i):
  ∃l,forR 0 ((cerS d a i).length:Int) (ad0 d (cerS d a i)) []=some l/\OkL d (cerS d a i) l/\PrL d (cerS d a i) l:=by
 have E:=cer_sts A H i
 have L:=E.n5
 obtain⟨l,M,k2,N⟩:=u9 (body:=ad0 d (cerS d a i)) (n:=((cerS d a i).length:Int)) (s:=([]:Li))
  (fun j c=>(mf c:Int)=j/\∀(o:Nat) s,(o:Int)<j->(cerS d a i)[o]? =some s->∃b,c[o]? =some b/\CycP d i s b) (by omega) ⟨rfl,fun o s hi=>by omega⟩ (fun j c O j1 ⟨p1,P⟩=>by
   obtain⟨J,rfl⟩:=kC O;have Q:J<(cerS d a i).length:=by omega
   have r:=as4 Q;have u:=ac7.1 (kE r);obtain⟨p,b,v,b2,b3⟩:=begin_eq D A (by omega) K u.1.1 u.1.2 u.2;have U:app 8 c [b]=some (c++[b]):=by unfold app;rw[if_pos (by simp;omega)]
   unfold ad0;simp only[show ix (cerS d a i) (J:Int)=some (sN (cerS d a i) J) by rw[v8,r],ky,show G6 (⟨d.facts,sN (cerS d a i) J,d.goal,d.operators⟩:b8)=_ from v,b2,U];refine⟨_,rfl,by rw[kR,kS];omega,fun o s hi q=> ?_⟩;by_cases e:o=J;subst e;rw[r] at q;cases q;exact⟨b,by rw[lI (by omega),show o - (mf c)=0 by omega];rfl,b3⟩;obtain⟨V,d1,d2⟩:=P o s (by omega) q;exact⟨V,by rw[kW (by omega),d1],d2⟩)
 have hk:∀(o:Nat) s,(cerS d a i)[o]? =some s->∃b,l[o]? =some b/\CycP d i s b:=fun o s q=>N o s (by have:=(lG.1 q).1;omega) q
 have w:OkL d (cerS d a i) l:=⟨by omega,fun o s q=>by obtain⟨b,v,b2⟩:=hk o s q;exact⟨b,v,cyc_alw A (ac7.1 (kE q)).1.1 b2⟩⟩
 refine⟨l,M,w,?_⟩
 have h:=w.sys D E
 have key:∀(k:Nat) (o:Nat) s,(cerS d a i)[o]? =some s->i s<=k->Wy d (cerS d a i) (stL d (cerS d a i) l) o:=fun k=>by
  induction k with
  |zero=>
   intro o s q X
   obtain⟨b,v,_,b2,y,B,e⟩:=hk o s q
   have:=b2 y B
   omega
  |succ k t=>
   intro o s q X
   obtain⟨b,v,b2⟩:=hk o s q
   have f:=b2
   obtain⟨_,b3,y,B,e⟩:=f
   have hi:=(lG.1 q).1
   have z:y ∈ stL d (cerS d a i) l o:=((h.res o s q).mem y).2 (by rw[oL_eq v];obtain⟨x,hx,e⟩:=kD.1 B;exact⟨x,hx,e⟩)
   by_cases g:l9 d y
   ·exact .exit hi z g
   ·have u:=(ac7.1 (kE q)).1.1
    obtain⟨j,G⟩:=kF (((cyc_alw A u b2).2.2 y B).resolve_left g)
    exact .step hi G z (t j y G (by omega))
 intro o hi
 have q:=as4 hi
 have u:=ac7.1 (kE q)
 exact(key (i (sN (cerS d a i) o)).toNat o _ q (by omega)).px h
def cost0_eq{l:List g9}:q7 l W3=some (dec (∃o ∈ l,o.cost=0)):=by unfold q7 x5;rcases I2 (body:=w5 l W3) (n:=(mf l:Int)) (fun j=>if dec (∃x,ix l j=some x/\x.cost=0)=true then some j else none) (by omega) (fun j c b _=>by obtain⟨x,d,_⟩:=j7 (l:=l) c b;unfold w5 W3;rw[d];simp only[oB];by_cases e:x.cost=0;rw[if_pos (by simp[e]),ifP ⟨x,rfl,e⟩];rw[if_neg (by simp[e]),ifN (by rintro ⟨y,h,q⟩;cases h;exact e q)]) with⟨b,a⟩|⟨j,o,c,b,a,t,k⟩;rw[b];simp only[oB];rw[s9];rfl;rintro ⟨o,p,f⟩;obtain⟨i,r,s,hi⟩:=p8 p;have:=a i r s;rw[ifP ⟨o,hi,f⟩] at this;cases this;rw[k];split at a;rename_i e;cases a;simp only[oB];obtain⟨x,d,f⟩:=m5.1 e;rw[i9 ⟨x,l8 d,f⟩,decide_eq_true c];cases a
def certain_eq(j:ClO d a)(l:Rep a b i):D5 a a b=some (a.filter fun c=> !dec (i c<0)):=by have k:=j.len;have:D5 a a b=delA (fun y=>W6 y b a) a:=rfl;rw[this];exact del_eq (g:=fun c=>i c<0) (by omega) fun c n=>by obtain⟨e,hi,h⟩:=l.of n;unfold W6;rw[af1 j.ord (by omega) hi,ky,h,ky,L8]
noncomputable def chL(S:LL)(l:Li)(s:Li):Int:=oL l (posS S s)
def chL_alw(g:Ord a)(h:OkL d a b)(j:c ∈ a):∃i:Nat,a[i]? =some c/\b[i]? =some (chL a b c)/\Alw d a c (chL a b c):=by
 obtain⟨i,hi⟩:=kF j;obtain⟨f,e,k⟩:=h.al i c hi;have:chL a b c=f:=by unfold chL;rw[posS_eq g hi,oL_eq e]
 rw[this];exact⟨i,hi,e,k⟩
def chL_in(e:StS d a)(h:OkL d a b)(hi:l9 d d.init\/d.init ∈ a)(f:RchC d (chL a b) c):l9 d c\/c ∈ a:=by
 induction f with
 |init=>exact hi
 |@step c y _ g i j=>
  obtain⟨_,_,_,k⟩:=chL_alw e.ord h (j.resolve_left g)
  exact k.2.2 y i
def chL_ok(c:StS d a)(h:OkL d a b)(hi:l9 d d.init\/d.init ∈ a):ChOk d (chL a b):=fun s f g=>by obtain⟨_,_,_,e⟩:=chL_alw c.ord h ((chL_in c h hi f).resolve_left g);exact⟨e.1,e.2.1⟩
def buildL(k:k8 d)(c:StS d a)(h:OkL d a b)(hi:l9 d d.init\/d.init ∈ a)(den:Int)(N:Li):∃p,ac6 d d a den b N=some (p,true)/\PolB d (chL a b) p/\(mf p)<=200:=by have n:=c.n5;have e:ac6 d d a den b N=ab8 d (fun s=>y6 s d a den b N):=rfl;obtain⟨r,o,f⟩:=build_prog k (chL_ok c h hi) (choose:=fun s=>y6 s d a den b N) (fun s u v=>by obtain⟨i,w,y,A⟩:=chL_alw c.ord h ((chL_in c h hi u).resolve_left v);unfold y6;rw[af1 c.ord (by omega) (show ix a (i:Int)=some s by rw[v8,w]),ky,v8,y];rfl);rw[e,o];rcases f with⟨_,q,z,g,B⟩|⟨p,rfl,f⟩;have:=ad1 z fun x j=>(chL_in c h hi (g x j).1).resolve_left (g x j).2;omega;exact⟨p,rfl,f⟩
def best_spec(c:k8 d):(G9 d=some ([],false)/\U3 d 2000=some ([],false)/\A5 d=some ([],⟨0,0⟩,false,⟨10, -7⟩))\/∃all v f,G9 d=some (all,true)/\U3 d 2000=some (all,true)/\ClO d all/\Rep all v f/\L4 d all f/\
  (((∃o ∈ d.operators,o.cost=0)/\A5 d=some ([],⟨0,0⟩,false,⟨3, -5⟩))\/((¬ ∃o ∈ d.operators,o.cost=0)/\
   ((5<(pnd d all).length/\A5 d=some ([],⟨0,0⟩,false,⟨10, -7⟩))\/((pnd d all).length<=5/\
    ((f d.init<0/\A5 d=some ([],⟨0,0⟩,false,⟨0,0⟩))\/(0<=f d.init/\
     ((l9 d d.init/\A5 d=some ([],⟨0,1⟩,true,⟨0,0⟩))\/(¬ l9 d d.init/\
      ∃(den:Int) (l N:Li) (v:Li->Int),Fin d (cerS d all f) v den l N/\
       ((¬ ((frN (v d.init).toNat den.toNat).num<=1000000000/\(frN (v d.init).toNat den.toNat).den<=1000000000)/\A5 d=some ([],⟨0,0⟩,false,⟨10, -2⟩))\/
        (((frN (v d.init).toNat den.toNat).num<=1000000000/\(frN (v d.init).toNat den.toNat).den<=1000000000)/\∃p,PolB d (chL (cerS d all f) l) p/\(mf p)<=200/\A5 d=some (p,frN (v d.init).toNat den.toNat,true,⟨0,0⟩))))))))))):=by
 have hn:=c.n1
 unfold A5
 rw[explore_ok c]
 rcases reach_full c with⟨all,x,A,B,J,_⟩|⟨x,A⟩
 ·right
  have k:ClO d all:=⟨B,J⟩
  have K:=k.len
  obtain⟨v,f,P,D,L⟩:=aH5 c k
  obtain⟨i,hi,E⟩:=D.of B.init
  refine⟨all,v,f,x,A,k,D,L,?_⟩
  rw[x]
  simp only[oB,if_true]
  rw[if_neg (by simp),cost0_eq,ky]
  by_cases r:∃o ∈ d.operators,o.cost=0
  ·rw[ifP r]
   exact .inl ⟨r,rfl⟩
  ·rw[ifN r]
   refine .inr ⟨r,?_⟩
   have n:∀op:Int,0<=op/\op<mf d.operators->1<=(ooAt d op).cost:=fun op h=>by have h1:=(c.at h.1 h.2).c0;have h2:(ooAt d op).cost ≠ 0:=fun e=>r ⟨_,l8 (ix_oo h.1 h.2),e⟩;omega
   have g:∀s ∈ all,SetN s d.facts:=fun s F=>k.set F
   have Q:(all.filter fun a=> !dec (f a<0)).length<=mf all:=lW _ _
   rw[P,ky,cloneLL_eq (by omega),ky,certain_eq k D,ky,pending_eq c (by omega) (fun s F=>g s (lA.1 F).1),ky,ky,pending_eq c (by omega) g,ky]
   by_cases M:5<((pnd d all).length:Int)
   ·rw[if_pos M]
    exact .inl ⟨by omega,rfl⟩
   ·rw[if_neg M]
    have G:(pnd d all).length<=5:=by omega
    refine .inr ⟨G,?_⟩
    rw[af1 J (by omega) hi,ky,E,ky]
    by_cases H:f d.init<0
    ·rw[if_pos H]
     exact .inl ⟨H,rfl⟩
    ·rw[if_neg H]
     refine .inr ⟨by omega,?_⟩
     rw[show w9 d.init d.goal=some (dec (l9 d d.init)) from aa0 c.init.1 c.goal.1 (by have:=c.init.len;omega),ky]
     by_cases u:l9 d d.init
     ·rw[ifP u]
      exact .inl ⟨u,rfl⟩
     ·rw[ifN u]
      refine .inr ⟨u,?_⟩
      have y:=cer_sts k G f
      have U:=y.n5
      obtain⟨l0,a1,V,X⟩:=begin_all c k G L
      obtain⟨den,l,N,v,t,b2⟩:=rounds_eq c n y V X 0 []
      have q:d.init ∈ cerS d all f:=ac7.2 ⟨⟨B.init,by omega⟩,u⟩
      obtain⟨O,w⟩:=kF q
      have aa:=b2.vb.v0 _ q
      have d0:=b2.vb.d0;have d1:=b2.vb.d1
      have j:=report_eq (sg:=1) (.inl rfl) (a:=(v d.init).toNat) (b:=den.toNat) (by omega) (by omega) (by omega)
      rw[ln,ln,show(((v d.init).toNat:Nat):Int)=v d.init by omega,show((den.toNat:Nat):Int)=den by omega] at j
      refine⟨den,l,N,v,b2,?_⟩
      rw[show pnd d (all.filter fun a=> !dec (f a<0))=cerS d all f from rfl,a1,ky,t]
      simp only[oB]
      rw[af1 y.ord (by omega) (show ix (cerS d all f) (O:Int)=some d.init by rw[v8,w]),ky,b2.vb.get O _ w,ky,j,ky]
      by_cases z:(frN (v d.init).toNat den.toNat).num<=1000000000/\(frN (v d.init).toNat den.toNat).den<=1000000000
      ·rw[if_pos z]
       refine .inr ⟨z,?_⟩
       obtain⟨p,e1,e2,e3⟩:=buildL c y b2.ok (.inr q) den N
       refine⟨p,e2,e3,?_⟩
       rw[if_neg (by simp),e1]
       rfl
      ·rw[if_neg z]
       exact .inl ⟨z,rfl⟩
 ·left
  rw[x]
  exact⟨rfl,A,rfl⟩
def best_bad{f:m7}(b:J2 d=some f)(a:f.code ≠ 0):A5 d=some ([],⟨0,0⟩,false,f):=by unfold A5;rw[explore_bad b a];simp only[oB];rw[if_pos (fault_no a)]
def Fin.le(j:k8 d)(o:StS d a){N:Li}(h:Fin d a i x b N)(k:c ∈ a){op:Int}(p:Alw d a c op):i c * WS d c op<=QS d i x c op:=by
 obtain⟨g,hi⟩:=kF k;obtain⟨f,_,f2,f3⟩:=h.bst g c hi;have n:=f2.2.1 op p;rw[f3] at n;have q:=(ar7 j f2.1.1 (ak0 j f2.1.1 (o.set c k))).1;have e:(i c * WS d c op) * WS d c f<=QS d i x c op * WS d c f:=by rw[show i c * WS d c op * WS d c f=i c * WS d c f * WS d c op by grind];exact n
 exact kU e (by omega)
def Fin.eq(e:StS d a){l N:Li}(h:Fin d a i x l N)(g:b ∈ a):QS d i x b (chL a l b)=i b * WS d b (chL a l b):=by obtain⟨c,hi,j,_⟩:=chL_alw e.ord h.ok g;obtain⟨f,f1,_,f3⟩:=h.bst c b hi;rw[j] at f1;cases f1;exact f3
def awaited_eq:U7=some true:=by kernel_rfl
/-! ### Maps -/
section
variable {K V:Type}[DecidableEq K]
def ag9{k:K}{v:V}:∀{m:List (K×V)},mget m k=none->mset m k v=m++[(k,v)]
 |[],_=>rfl
 |p::r,h=>by simp only[mget] at h;split at h;cases h;rename_i a;simp only[mset,if_neg a,ag9 h,List.cons_append]
def mset_keys{k:K}{v:V}:∀{m:List (K×V)},mget m k ≠ none->(mset m k v).map (·.1)=m.map (·.1)
 |[],h=>absurd rfl h
 |p::r,h=>by simp only[mget] at h;simp only[mset];split;rename_i e;simp[e];rename_i a;rw[if_neg a] at h;simp[mset_keys h]
def mget_mem{k:K}{v:V}:∀{m:List (K×V)},mget m k=some v->(k,v) ∈ m
 |[],h=>by cases h
 |p::r,h=>by simp only[mget] at h;split at h;rename_i e;cases h;subst e;exact md;exact kB _ (mget_mem h)
def mget_none{k:K}:∀{m:List (K×V)},mget m k=none->k ∉ m.map (·.1)
 |[],_=>by simp
 |p::r,h=>by simp only[mget] at h;split at h;cases h;rename_i a;have:=mget_none h;simp only[kP,kZ,not_or];exact⟨a,this⟩
end
def X7(h:x<0):ix Q x=none:=by
 unfold ix;rw[if_neg (by omega)]
def av4:ix (Q++[M]) y=if y=mf Q then some M else ix Q y:=by by_cases a:0<=y;obtain⟨k,rfl⟩:=kC a;rw[v8,v8];by_cases e:k=mf Q;subst e;simp;rw[if_neg (by omega)];rcases Nat.lt_or_ge k (mf Q) with h|h;rw[kW h];rw[lj (by simp;omega),lj h];rw[X7 (by omega),X7 (by omega),if_neg (by omega)]
def aB0{x:A}(h:ix Q y=some M):ix (Q++[x]) y=some M:=by
 rw[av4,if_neg (by have:=n8 h;omega),h]
def ix_snoc_new{x:A}:ix (Q++[x]) (mf Q:Int)=some x:=by rw[av4,if_pos rfl]
def wsN_tb:∀{l:Li},Inc l->(∀x ∈ l,0<=x)->∀k:Nat,(wsN l).testBit k=dec ((k:Int) ∈ l)
 |[],_,_,k=>by simp[wsN,dec]
 |a::l,h,b,k=>by
  have f:=List.pairwise_cons.1 h;obtain⟨q,g⟩:2 ^ (a.toNat+1) ∣ wsN l:=wsN_dvd fun x d=>by have:=f.1 x d;have:=b a (by simp);omega
  have i:=wsN_tb f.2 (fun x d=>b x (kB _ d)) k;have e:wsN (a::l)=wsN l|||2 ^ a.toNat:=by rw[g,<- Nat.two_pow_add_eq_or_of_lt (Nat.pow_lt_pow_right (by omega) (by omega)) q,<- g];simp only[wsN];omega
  rw[e,lX,i,Nat.testBit_two_pow];have j:=b a (by simp);by_cases c:(k:Int)=a;have:a.toNat=k:=by omega
  simp[this,c];have:¬ a.toNat=k:=by omega
  simp[this,c]
def SetN.tb(h:SetN b y)(k:Nat):(wsN b).testBit k=dec ((k:Int) ∈ b):=wsN_tb h.1 (fun x a=>(h.2 x a).1) k
def SetN.w32(h:SetN b x)(a:x<=24):wsN b<4294967296:=by refine Nat.lt_pow_two_of_testBit (n:=32) _ fun i hi=> ?_;rw[h.tb,dec_false];intro q;have:=(h.2 _ q).2;omega
def wrap32(h:n<4294967296):IntKind.wrap .u32 (n:Int)=n:=by simp only[IntKind.wrap,IntKind.bits,IntKind.signed,Bool.false_and,lr,if_false];omega
def bit_and{b:Nat}(d:k<4294967296):Go.bits .and .u32 (k:Int) (b:Int)=((k &&& b:Nat):Int):=by
 have e:(BitVec.ofNat 32 k &&& BitVec.ofNat 32 b).toNat=k &&& b:=by rw[BitVec.toNat_and,BitVec.toNat_ofNat,BitVec.toNat_ofNat];refine kX fun i=> ?_;simp only[lR,Nat.testBit_mod_two_pow];by_cases c:i<32;simp[c];have:k.testBit i=false:=lx (lF d (lB (n:=2) (by omega) (show 32<=i by omega)));simp[this]
 rw[<- e];simp only[Go.bits,BitVec.ofInt_natCast,IntKind.bits];exact wrap32 (BitVec.ofNat 32 k &&& BitVec.ofNat 32 b).isLt
def bit_or(c:n<4294967296)(d:k<4294967296):Go.bits .or .u32 (n:Int) (k:Int)=((n|||k:Nat):Int):=by
 have e:(BitVec.ofNat 32 n|||BitVec.ofNat 32 k).toNat=n|||k:=by rw[BitVec.toNat_or,BitVec.toNat_ofNat,BitVec.toNat_ofNat,Nat.mod_eq_of_lt (by simpa using c),Nat.mod_eq_of_lt (by simpa using d)]
 rw[<- e];simp only[Go.bits,BitVec.ofInt_natCast,IntKind.bits];exact wrap32 (BitVec.ofNat 32 n|||BitVec.ofNat 32 k).isLt
def bit_andNot{b:Nat}(e:k<4294967296):∃c:Nat,Go.bits .andNot .u32 (k:Int) (b:Int)=(c:Int)/\c<4294967296/\∀d,c.testBit d=(k.testBit d && !b.testBit d):=by refine⟨(BitVec.ofNat 32 k &&& ~~~BitVec.ofNat 32 b).toNat,?_,(BitVec.ofNat 32 k &&& ~~~BitVec.ofNat 32 b).isLt,fun d=> ?_⟩;simp only[Go.bits,BitVec.ofInt_natCast,IntKind.bits];exact wrap32 (BitVec.ofNat 32 k &&& ~~~BitVec.ofNat 32 b).isLt;rw[BitVec.testBit_toNat,BitVec.getLsbD_and,BitVec.getLsbD_not,BitVec.getLsbD_ofNat,BitVec.getLsbD_ofNat];by_cases c:d<32;simp[c];have:k.testBit d=false:=lx (lF e (lB (n:=2) (by omega) (show 32<=d by omega)));simp[c,this]
def sub_word(a:SetN b y)(hp:SetN c y)(f:y<=24):Go.bits .and .u32 (wsN b:Int) (wsN c:Int)=(wsN c:Int)↔∀x ∈ c,x ∈ b:=by
 rw[bit_and (a.w32 f)];constructor;intro h x d;have g:=(hp.2 x d).1;have e:(wsN b &&& wsN c)=wsN c:=by omega
 have:=congrArg (fun y=>Nat.testBit y x.toNat) e;simp only[lR,a.tb,hp.tb,show((x.toNat:Nat):Int)=x by omega,i9 d,Bool.and_true,m5] at this;exact this;intro h;have e:(wsN b &&& wsN c)=wsN c:=by refine kX fun i=> ?_;rw[lR,a.tb,hp.tb,dec_and];exact x7 ⟨fun q=>q.2,fun q=>⟨h _ q,q⟩⟩
 rw[e]
def next_word{s d a:Li}(f:SetN s y)(k:SetN d y)(g:SetN a y)(j:y<=24):
  Go.bits .or .u32 (Go.bits .andNot .u32 (wsN s:Int) (wsN d:Int)) (wsN a:Int)=(wsN (Q5 (fun x=>x ∈ a\/x ∈ s/\x ∉ d) y):Int):=by
 obtain⟨c,c1,l,o⟩:=bit_andNot (b:=wsN d) (f.w32 j)
 have p:SetN (Q5 (fun x=>x ∈ a\/x ∈ s/\x ∉ d) y) y:=av1 _ _
 rw[c1,bit_or l (g.w32 j)]
 have e:c|||wsN a=wsN (Q5 (fun x=>x ∈ a\/x ∈ s/\x ∉ d) y):=by refine kX fun i=> ?_;rw[lX,o,f.tb,k.tb,g.tb,p.tb,B9,dec_and,dec_or];refine x7 ?_;rw[ah8];constructor;rintro (⟨h,r⟩|q);exact⟨(f.2 _ h).1,(f.2 _ h).2,.inr ⟨h,r⟩⟩;exact⟨(g.2 _ q).1,(g.2 _ q).2,.inl q⟩;rintro ⟨_,_,q|q⟩;exact .inr q;exact .inl q
 rw[e]
def aw4{s:Li}{n:Int}(hs:SetN s n)(hn:n<=24):T3 s=some (wsN s:Int):=by
 unfold T3;obtain⟨w,h1,h2⟩:=u9 (body:=ak5 s) (n:=(mf s:Int)) (s:=0) (fun j w=>w=(wsN (s.take j.toNat):Int)) (by omega) (by simp[wsN]) (fun j w j0 j1 hP=>by
  obtain⟨a,ha,ga⟩:=j7 (l:=s) j0 j1;have hb:=hs.2 a (l8 ha);have ht:s.take (j+1).toNat=s.take j.toNat++[a]:=by rw[show(j+1).toNat=j.toNat+1 by omega,lv,ga];rfl
  have h1:SetN (s.take j.toNat) n:=⟨lz.sublist (lL _ _) hs.1,fun x hx=>hs.2 x (lm hx)⟩;have h2:SetN (s.take j.toNat++[a]) n:=by rw[<- ht];exact⟨lz.sublist (lL _ _) hs.1,fun x hx=>hs.2 x (lm hx)⟩
  have h3:SetN [a] n:=⟨lQ _ _,fun x hx=>by simp at hx;subst hx;exact hb⟩;have e1:shlW .u32 1 a=(wsN [a]:Int):=by
   have:=h3.w32 hn;unfold shlW;simp only[wsN,Nat.add_zero] at this ⊢;rw[show min a.toNat (IntKind.u32).bits=a.toNat by simp only[IntKind.bits];omega,ln];have ep:(2:Int) ^ a.toNat=((2 ^ a.toNat:Nat):Int):=by push_cast;rfl
   rw[ep];exact wrap32 this
  refine⟨Go.bits .or .u32 w (shlW .u32 1 a),by simp only[ak5,ha,oB,chk0,if_neg (show ¬ a<0 by omega)],?_⟩;rw[e1,hP,bit_or (h1.w32 hn) (h3.w32 hn),ht];have e:wsN (s.take j.toNat)|||wsN [a]=wsN (s.take j.toNat++[a]):=by refine kX fun i=> ?_;rw[lX,h1.tb,h2.tb,h3.tb,dec_or];exact x7 (by simp)
  rw[e])
 rw[h1,h2,kM,ll];rfl
noncomputable def S9(w:Nat)(n:Nat):Li:=(nums 0 n).filter fun x=>w.testBit x.toNat
def facts_eq{w:Nat}(hw:w<4294967296):ae9 (w:Int)=some (S9 w 32):=by
 unfold ae9;obtain⟨r,h1,h2⟩:=u9 (body:=ai4 (w:Int)) (n:=32) (s:=[]) (fun j c=>c=S9 w j.toNat) (by omega) (by simp[S9,nums]) (fun j c j0 j1 hP=>by
  subst hP;have hlen:(S9 w j.toNat).length<=32:=by refine mc (lW _ _) ?_;rw[len_nums];omega
  have hn:nums 0 (j+1).toNat=nums 0 j.toNat++[j]:=by refine Inc.ext (aE3 _ _) (List.pairwise_append.2 ⟨aE3 _ _,lQ _ _,fun x hx y hy=> ?_⟩) fun x=> ?_;simp at hy;subst hy;have:=ah4.1 hx;omega;rw[kH,ah4,ah4,kz];omega
  have e1:shrW .u32 (w:Int) j=((w>>>j.toNat:Nat):Int):=by
   unfold shrW;rw[show min j.toNat (IntKind.u32).bits=j.toNat by simp only[IntKind.bits];omega];have ep:(2:Int) ^ j.toNat=((2 ^ j.toNat:Nat):Int):=by push_cast;rfl
   rw[ep,Nat.shiftRight_eq_div_pow,Int.fdiv_eq_ediv_of_nonneg _ (Int.natCast_nonneg _)];rfl
  have h2:w>>>j.toNat<4294967296:=Nat.lt_of_le_of_lt (Nat.shiftRight_le _ _) hw;have e2:Go.bits .and .u32 ((w>>>j.toNat:Nat):Int) 1=((w>>>j.toNat &&& 1:Nat):Int):=bit_and (b:=1) h2;have e3:(w>>>j.toNat &&& 1=1)↔w.testBit j.toNat=true:=by rw[Nat.testBit];simp[Nat.and_comm]
  unfold ai4;rw[e1,e2];by_cases c:w.testBit j.toNat=true;rw[if_pos (by have:=e3.2 c;omega),app,if_pos (by simp;omega)];exact⟨_,rfl,by simp[S9,hn,lD,c]⟩;rw[if_neg (fun q=>c (e3.1 (by omega)))];exact⟨_,rfl,by simp[S9,hn,lD,c]⟩)
 rw[h1,h2];rfl
def bitsOf_inj{a b:Nat}(d:a<4294967296)(e:b<4294967296)(h:S9 a 32=S9 b 32):a=b:=by
 refine kX fun i=> ?_;by_cases c:i<32;have key:∀w:Nat,(i:Int) ∈ S9 w 32↔w.testBit i=true:=fun w=>by simp only[S9,lA,ah4,kM];exact⟨fun q=>q.2,fun q=>⟨by omega,q⟩⟩
 have:=(key a).symm.trans ((by rw[h]):((i:Int) ∈ S9 a 32↔(i:Int) ∈ S9 b 32))|>.trans (key b);cases f:a.testBit i<;>cases g:b.testBit i<;>simp[f,g] at this ⊢;have low:∀w:Nat,w<4294967296->w.testBit i=false:=fun w j=>lx (lF j (lB (n:=2) (by omega) (show 32<=i by omega)));rw[low a d,low b e]
def words_cmp:CmpOk (fun a b:U32=>P8 a.1 b.1) (fun a b=>cmpL (S9 a.1.toNat 32) (S9 b.1.toNat 32)):=by obtain⟨f,c,g⟩:=cmp_ok;refine⟨fun a b=> ?_,⟨fun x=>c.irrefl _,fun x y z=>c.trans _ _ _,fun x y z=>c.ntrans _ _ _⟩,fun a b h i=> ?_⟩;have d:=facts_eq (w:=a.1.toNat) (by have:=a.2;omega);have e:=facts_eq (w:=b.1.toNat) (by have:=b.2;omega);rw[show((a.1.toNat:Nat):Int)=a.1 by have:=a.2;omega] at d;rw[show((b.1.toNat:Nat):Int)=b.1 by have:=b.2;omega] at e;simp only[P8,d,e,oB,f];have:=bitsOf_inj (a:=a.1.toNat) (b:=b.1.toNat) (by have:=a.2;omega) (by have:=b.2;omega) (g _ _ h i);have j:=a.2;have k:=b.2;exact Subtype.ext (by omega)
def sortW{l:Li}(c:mf l<=1000000)(a:∀x ∈ l,0<=x/\x<4294967296):∃b,sortFU P8 l=some b/\b.Perm l:=by unfold sortFU;rw[dif_pos a,sortFL_eq (by simp;omega) words_cmp];refine⟨_,rfl,?_⟩;have:=(List.mergeSort_perm (l.attach.map fun x=>(⟨x.1,a x.1 x.2⟩:U32)) (fun x y=>decide (¬ cmpL (S9 y.1.toNat 32) (S9 x.1.toNat 32)<0))).map (fun z:U32=>z.1);simpa using this
inductive Rt(t:n9):Li->Prop
 |init:Rt t t.init
 |step {s:Li} {op:Int} (h:Rt t s) (h0:0<=op) (h1:op<mf t.operators) (hc:can t s op):Rt t (aft t s op)
def Rt.setN(a:B6 s)(h:Rt s b):SetN b s.facts:=by
 cases h with
 |init=>exact a.init
 |step=>exact setN_aft _ _ _
def Rt.ends:∀{b a e:Li},Rt s a->(∀x ∈ b,(0:Int)<=x/\x<mf s.operators)->ends s a b=some e->Rt s e
 |[],a,e,c,_,h=>by simp only[Ab.ends,Option.some.injEq] at h;subst h;exact c
 |op::r,a,e,c,d,h=>by simp only[Ab.ends] at h;split at h;rename_i f;have:=d op md;exact Rt.ends (c.step this.1 this.2 (m5.1 f)) (fun x g=>d x (kB _ g)) h;cases h
def Cls(t:n9)(l:LL)(s:Li):Prop:=∀op:Int,0<=op->op<mf t.operators->can t s op->aft t s op ∈ l
def Rt.mem(hi:s.init ∈ a)(d:∀b ∈ a,Cls s a b)(h:Rt s b):b ∈ a:=by
 induction h with
 |init=>exact hi
 |step h e f c g=>exact d _ g _ e f c
def Many(t:n9):Prop:=∃l:LL,l.Nodup/\(mf l)=2001/\∀s ∈ l,Rt t s
abbrev Mk:=k7
variable{H:List Mk}
def wd(s:Li):Int:=(wsN s:Int)
def mkOf(o:w7):Mk:=⟨wd o.pre,wd o.add,wd o.del,o.cost⟩
def mks(t:n9):List Mk:=t.operators.map mkOf
def canW(m:Mk)(x:Int):Prop:=Go.bits .and .u32 x m.pre=m.pre
def tgtW(m:Mk)(x:Int):Int:=Go.bits .or .u32 (Go.bits .andNot .u32 x m.del) m.add
def wd_inj(d:B6 s)(h:SetN b s.facts)(a:SetN c s.facts)(e:wd b=wd c):b=c:=
 h.word_inj a (by unfold wd at e;omega)
def wd_u32(a:B6 s)(h:SetN b s.facts):0<=wd b/\wd b<4294967296:=by
 have:=h.w32 a.n1;unfold wd;omega
def op_ok(a:B6 s){op:Int}(b:0<=op)(c:op<mf s.operators):ae7 (opAt s op) s.facts/\ap3 (opAt s op):=a.op _ (l8 (ix_op b c))
def aD3(a:B6 s)(h:SetN b s.facts){op:Int}(c:0<=op)(d:op<mf s.operators):canW (mkOf (opAt s op)) (wd b)↔can s b op:=
 sub_word h (op_ok a c d).1.1 a.n1
def tgtW_eq(a:B6 s)(h:SetN b s.facts){op:Int}(c:0<=op)(d:op<mf s.operators):tgtW (mkOf (opAt s op)) (wd b)=wd (aft s b op):=
 next_word h (op_ok a c d).1.2.2.1 (op_ok a c d).1.2.1 a.n1
def mks_mem{m:Mk}(h:m ∈ mks s):∃op:Int,0<=op/\op<mf s.operators/\m=mkOf (opAt s op):=by obtain⟨o,d,rfl⟩:=kD.1 h;obtain⟨i,a,b,c⟩:=p8 d;rw[ix_op a b] at c;cases c;exact⟨i,a,b,rfl⟩
def mks_of{op:Int}(a:0<=op)(b:op<mf s.operators):mkOf (opAt s op) ∈ mks s:=kD.2 ⟨_,l8 (ix_op a b),rfl⟩
def of_eq(b:B6 s):ao2 s=some (wd s.init,wd s.goal,mks s):=by
 unfold ao2;rw[aw4 b.init b.n1,aw4 b.goal b.n1];simp only[oB];obtain⟨r,l,o⟩:=u9 (body:=ak7 s) (n:=(mf s.operators:Int)) (s:=[]) (fun j c=>c=(s.operators.take j.toNat).map mkOf) (by omega) (by simp) (fun j c g h i=>by
  have d:=op_ok b g h;have k:=ix_op g h;have p:=(n8 k).2.2;have q:=b.ops;have e:s.operators.take (j+1).toNat=s.operators.take j.toNat++[opAt s j]:=by rw[show(j+1).toNat=j.toNat+1 by omega,lv,p];rfl
  unfold ak7;rw[k];simp only[oB,aw4 d.1.1 b.n1,aw4 d.1.2.1 b.n1,aw4 d.1.2.2.1 b.n1];refine⟨c++[mkOf (opAt s j)],?_,?_⟩;unfold app;rw[if_pos (by rw[i];simp;omega)];rfl;rw[i,e];simp)
 rw[l,o,kM,ll];rfl
def Rwd(t:n9)(x:Int):Prop:=∃s,Rt t s/\x=wd s
def states_of{t:n9}:∀{l:Li},(∀x ∈ l,Rwd t x)->∃a:LL,a.map wd=l/\∀s ∈ a,Rt t s
 |[],_=>⟨[],rfl,by simp⟩
 |x::l,h=>by obtain⟨s,s1,b⟩:=h x (by simp);obtain⟨a,c,d⟩:=states_of (l:=l) fun y e=>h y (kB _ e);exact⟨s::a,by simp[c,b],by simp[s1];exact d⟩
def ax7{a:Type}{f:A->a}:∀{l:List A},(l.map f).Nodup->l.Nodup
 |[],_=>List.nodup_nil
 |x::l,h=>by simp only[kP,lc] at h;exact lc.2 ⟨fun b=>h.1 (kD.2 ⟨x,b,rfl⟩),ax7 h.2⟩
def many_of(c:b.Nodup)(i:2000<mf b)(h:∀x ∈ b,Rwd s x):Many s:=by obtain⟨d,a,e⟩:=states_of (l:=b.take 2001) fun x g=>h x (lm g);refine⟨d,ax7 (f:=wd) (by rw[a];exact c.sublist (lL _ _)),?_,e⟩;have:=congrArg mf a;simp only[List.length_map,lk] at this;omega
def Rwd.next(b:B6 s)(h:Rwd s x){m:Mk}(f:m ∈ mks s)(g:canW m x):Rwd s (tgtW m x):=by obtain⟨a,s1,rfl⟩:=h;obtain⟨op,c,d,rfl⟩:=mks_mem f;have e:=s1.setN b;exact⟨_,.step s1 c d ((aD3 b e c d).1 g),tgtW_eq b e c d⟩
def Rwd.all{t:n9}(b:B6 t){l:Li}(hi:wd t.init ∈ l)(f:∀x ∈ l,∀m ∈ mks t,canW m x->tgtW m x ∈ l){x:Int}(h:Rwd t x):x ∈ l:=by
 obtain⟨s,h,rfl⟩:=h;induction h with
 |init=>exact hi
 |step h c d a g=>
  have e:=h.setN b
  have:=f _ g _ (mks_of c d) ((aD3 b e c d).2 a)
  rwa [tgtW_eq b e c d] at this
abbrev MpU:=List (Int×Unit)
def mgetU{m:MpU}:mget m x=none↔x ∉ m.map (·.1):=by
 constructor;exact mget_none;intro h;cases e:mget m x with
 |none=>rfl
 |some u=>exact absurd (kD.2 ⟨_,mget_mem e,rfl⟩) h
structure AlW(t:n9)(q:Li)(f:MpU)(a:Li):Prop where
 nd:(f.map (·.1)).Nodup
 pm:(f.map (·.1)).Perm (q++a)
 rw:∀x ∈ f.map (·.1),Rwd t x
def all_in(K:B6 s){a:Li}{f:MpU}(N:Rwd s x)(h:AlW s b f a)(hf:mf f<=2000)(u:Unit)(O:w4 c 0 ((mf c:Int) - 1)=b):
  ∃p A,Q9 (mks s) c f x u=some (p,A)/\AlW s A p a/\(∀y ∈ f.map (·.1),y ∈ p.map (·.1))/\∀m ∈ mks s,canW m x->tgtW m x ∈ p.map (·.1):=by
 unfold Q9
 have P:(mks s).length<=40:=by simp[mks];exact K.ops
 obtain⟨r,Q,U,V,h4,X⟩:=u9 (body:=P9 (mks s) x u) (n:=((mks s).length:Int)) (s:=(f,w4 c 0 ((mf c:Int) - 1)))
  (fun j d=>AlW s d.2 d.1 a/\(∀y ∈ f.map (·.1),y ∈ d.1.map (·.1))/\d.1.length<=2000+j/\∀i m,i<j->ix (mks s) i=some m->canW m x->tgtW m x ∈ d.1.map (·.1)) (by omega)
  ⟨by rw[O];exact h,fun _ h=>h,by simp only;omega,fun i m hi o=>by have:=(n8 o).1;omega⟩ (fun j d t q hP=>by
   obtain⟨p,A⟩:=d;obtain⟨w,F,p3,G⟩:=hP;simp only at w F p3 G;obtain⟨m,o,_⟩:=j7 t q;have H:=l8 o;unfold P9;simp only[o,oB];by_cases c1:Go.bits .and .u32 x m.pre=m.pre;rw[if_pos c1];have J:canW m x:=c1;have ee:Go.bits .or .u32 (Go.bits .andNot .u32 x m.del) m.add=tgtW m x:=rfl;rw[ee];by_cases l:mget p (tgtW m x)=none;rw[if_pos (by simp[l])];have hq:mf A<=mf p:=by have:=w.pm.length_eq;simp at this;omega
   have ha:app 4 A [tgtW m x]=some (A++[tgtW m x]):=by unfold app;rw[if_pos (by simp;omega)]
   simp only[ha,oB];have B:=mgetU.1 l;refine⟨_,rfl,⟨?_,?_,?_⟩,?_,?_,?_⟩;simp only[ag9 l,kT];refine lK.2 ⟨w.nd,by simp,fun y v z M e=> ?_⟩;simp at M;subst M;subst e;exact B v;simp only[ag9 l,kT,kP,List.map_nil];refine(w.pm.append_right _).trans ?_;rw[lu,lu];exact List.Perm.append_left _ lY;intro y v;simp only[ag9 l,kT,kH,kP,List.map_nil,kz] at v;rcases v with v|rfl;exact w.rw y v;exact N.next K H J;intro y v;simp only[ag9 l,kT,kH];exact .inl (F y v);simp only[ag9 l,kR,kS];omega;intro i D hi g k;simp only[ag9 l,kT,kH];by_cases e:i=j;subst e;rw[o] at g;cases g;exact .inr (by simp);exact .inl (G i D (by omega) g k);rw[if_neg (by simp;cases e:mget p (tgtW m x) with|none=>exact absurd e l|some _=>simp)];refine⟨_,rfl,w,F,by simp only;omega,fun i D hi g k=> ?_⟩;by_cases e:i=j;subst e;rw[o] at g;cases g;exact kV fun b=>l (mgetU.2 b);exact G i D (by omega) g k;rw[if_neg c1];refine⟨_,rfl,w,F,by simp only;omega,fun i D hi g k=> ?_⟩;by_cases e:i=j;subst e;rw[o] at g;cases g;exact absurd k c1;exact G i D (by omega) g k)
 refine⟨r.1,r.2,by rw[Q];rfl,U,V,fun m o E=> ?_⟩
 obtain⟨i,i0,i1,hi⟩:=p8 o
 exact X i m i1 hi E
theorem all_spec{t:n9}(ht:B6 t)(goal:Int):∃l b,P4 (wd t.init) goal (mks t)=some (l,b)/\(b=false->Many t)/\(b=true->l.Nodup/\(mf l)<=2000/\∀x,x ∈ l↔Rwd t x):=by
 unfold P4
 simp only[E7,oB]
 have hi0:Rwd t (wd t.init):=⟨_,.init,rfl⟩
 obtain⟨o,h1,h2⟩:=E8 (body:=Q7 (wd t.init) goal (mks t)) (s:=([wd t.init],mset ([]:MpU) (wd t.init) (),[]))
  (fun s=>AlW t s.1 s.2.1 s.2.2/\wd t.init ∈ s.2.1.map (·.1)/\s.2.1.length<=2000/\∀x ∈ s.2.2,∀m ∈ mks t,canW m x->tgtW m x ∈ s.2.1.map (·.1))
  (fun o=>match o with| .inl l=>l.Nodup/\(mf l)<=2000/\∀x,x ∈ l↔Rwd t x| .inr x=>x=([],false)/\Many t)
  (fun s=>2000 - s.2.2.length) ⟨⟨by simp[mset],by simp[mset],by simp[mset];exact hi0⟩,by simp[mset],by simp[mset],by simp⟩ (by
   rintro ⟨q,f,a⟩ ⟨p1,p2,p3,p4⟩
   simp only at p1 p2 p3 p4
   have hlen:mf f=mf q+mf a:=by have:=p1.pm.length_eq;simpa using this
   unfold Q7
   by_cases c:0<mf q
   ·simp only[show(0:Int)<(mf q:Int) by omega,if_true]
    obtain⟨x,hx,gx⟩:=j7 (l:=q) (i:=(mf q:Int) - 1) (by omega) (by omega)
    have hq:w4 q 0 ((mf q:Int) - 1)++[x]=q:=by
     have:w4 q 0 ((mf q:Int) - 1)=q.take (mf q - 1):=by
      simp only[w4,lU,lV]
      rw[show((mf q:Int) - 1).toNat=mf q - 1 by omega]
     rw[this]
     have e:q.take (mf q - 1+1)=q.take (mf q - 1)++[x]:=by
      rw[lv]
      rw[show((mf q:Int) - 1).toNat=mf q - 1 by omega] at gx
      rw[gx];rfl
     rw[<- e,show (mf q) - 1+1=mf q by omega,ll]
    have hxm:x ∈ f.map (·.1):=p1.pm.mem_iff.2 (lZ _ (l8 hx))
    have hxr:=p1.rw x hxm
    have ha:app 4 a [x]=some (a++[x]):=by unfold app;rw[if_pos (by simp;omega)]
    have p1':AlW t (w4 q 0 ((mf q:Int) - 1)) f (a++[x]):=⟨p1.nd,p1.pm.trans (by
     rw (occs:=.pos [1]) [<- hq]
     rw[lu]
     exact List.Perm.append_left _ lY),p1.rw⟩
    obtain⟨f',q',k1,k2,k3,k4⟩:=all_in ht hxr p1' p3 () rfl
    simp only[hx,ha,cutV,oB,I9]
    rw[if_pos (by omega)]
    simp only[oB,k1]
    by_cases big:2000<mf f'
    ·rw[if_pos (by omega)]
     exact .inr ⟨_,rfl,rfl,many_of k2.nd (by simpa using big) k2.rw⟩
    ·rw[if_neg (by omega)]
     have hlen':mf f'=mf q'+(a++[x]).length:=by have:=k2.pm.length_eq;simpa using this
     refine .inl ⟨_,rfl,⟨k2,k3 _ p2,by simp only;omega,fun y hy m hm hc=> ?_⟩,by simp only[kR,kS] at hlen' ⊢;omega⟩
     simp only[kH,kz] at hy
     rcases hy with hy|rfl
     ·exact k3 _ (p4 y hy m hm hc)
     ·exact k4 m hm hc
   ·have:q=[]:=lg (by omega)
    subst this
    refine .inr ⟨.inl a,by simp,?_⟩
    have hp:(f.map (·.1)).Perm a:=by simpa using p1.pm
    refine⟨hp.nodup_iff.1 p1.nd,by simp at hlen;omega,fun x=>⟨fun hx=>p1.rw x (hp.mem_iff.2 hx),fun hx=> ?_⟩⟩
    exact Rwd.all ht (hp.mem_iff.1 p2) (fun y hy m hm hc=>hp.mem_iff.1 (p4 y hy m hm hc)) hx)
 rw[h1]
 rcases o with l|o
 ·exact⟨l,true,rfl,by simp,fun _=>h2⟩
 ·obtain⟨rfl,h3⟩:=h2
  exact⟨[],false,rfl,fun _=>h3,by simp⟩
abbrev En:=b9
variable{t v:List En}
def Hp(L:Li)(E:List En):Prop:=∀i h,ix L i=some h->∃e,ix E h=some e/\e.fat=i
structure Sme(L:Li)(E:List En)(L':Li)(E':List En):Prop where
 len:mf L'=mf L
 mem:∀h,h ∈ L'↔h ∈ L
 elen:mf E'=mf E
 e:∀h a,ix E h=some a->∃a',ix E' h=some a'/\a'.item=a.item/\a'.key=a.key
def Sme.refl(L:Li)(E:List En):Sme L E L E:=⟨rfl,fun _=>Iff.rfl,rfl,fun h a b=>⟨a,b,rfl,rfl⟩⟩
def Sme.trans{L i d:Li}{f:List En}(h:Sme L t i v)(g:Sme i v d f):Sme L t d f:=by refine⟨g.len.trans h.len,fun x=>(g.mem x).trans (h.mem x),g.elen.trans h.elen,fun x a j=> ?_⟩;obtain⟨b,k,b2,b3⟩:=h.e x a j;obtain⟨c,c1,l,n⟩:=g.e x b k;exact⟨c,c1,l.trans b2,n.trans b3⟩
def Hp.inj(h:Hp b t)(a:ix b y=some x)(c:ix b q=some x):y=q:=by obtain⟨e,d,g⟩:=h y x a;obtain⟨f,f1,f2⟩:=h q x c;rw[d] at f1;cases f1;rw[<- g,<- f2]
def mem_ixI:M ∈ Q↔∃i:Int,ix Q i=some M:=by constructor;intro h;obtain⟨k,hk⟩:=kF h;exact⟨k,by rw[v8];exact hk⟩;rintro ⟨i,h⟩;exact l8 h
def less_ok(h:Hp c t){i k:Int}(hi:0<=i)(a:i<mf c)(hk:0<=k)(d:k<mf c):∃b,x4 i k c t=some b:=by obtain⟨x,g,_⟩:=j7 hi a;obtain⟨y,j,_⟩:=j7 hk d;obtain⟨e,l,_⟩:=h i x g;obtain⟨f,f1,_⟩:=h k y j;exact⟨_,by simp only[x4,g,j,l,f1,oB];rfl⟩
def swap_ok(h:Hp b t){i k:Int}(hi:0<=i)(s:i<mf b)(hk:0<=k)(B:k<mf b):
  ∃w D,v7 i k b t=some (w,D)/\Hp w D/\Sme b t w D/\(∀x,ix b i=some x->ix w k=some x):=by
 obtain⟨x,p,_⟩:=j7 hi s
 obtain⟨y,r,_⟩:=j7 hk B
 obtain⟨e,A,V⟩:=h i x p
 obtain⟨f,f1,f2⟩:=h k y r
 obtain⟨F,N,_⟩:=n8 A
 obtain⟨G,H,_⟩:=n8 f1
 have u:∀j,ix ((b.set i.toNat y).set k.toNat x) j=if j=k then some x else if j=i then some y else ix b j:=by intro j;by_cases l:0<=j;rw[U5 hk (by simp;omega) l];split;rfl;rw[U5 hi s l];rw[X7 (by omega),X7 (by omega),if_neg (by omega),if_neg (by omega)]
 have K:ix ((b.set i.toNat y).set k.toNat x) i=some y:=by rw[u];by_cases c:i=k;subst c;rw[p] at r;cases r;simp;rw[if_neg c,if_pos rfl]
 have J:ix ((b.set i.toNat y).set k.toNat x) k=some x:=by rw[u,if_pos rfl]
 have M:∀j,ix (t.set y.toNat (⟨f.item,f.key,f.time,i⟩:En)) j=if j=y then some ⟨f.item,f.key,f.time,i⟩ else ix t j:=by intro j;by_cases l:0<=j;rw[U5 G H l];rw[X7 (by omega),X7 (by omega),if_neg (by omega)]
 obtain⟨g,O,P,Q⟩:∃g,ix (t.set y.toNat (⟨f.item,f.key,f.time,i⟩:En)) x=some g/\g.item=e.item/\g.key=e.key:=by rw[M];by_cases c:x=y;subst c;rw[A] at f1;cases f1;exact⟨_,if_pos rfl,rfl,rfl⟩;exact⟨e,by rw[if_neg c,A],rfl,rfl⟩
 have o:∀j,ix ((t.set y.toNat (⟨f.item,f.key,f.time,i⟩:En)).set x.toNat (⟨g.item,g.key,g.time,k⟩:En)) j=if j=x then some ⟨g.item,g.key,g.time,k⟩ else if j=y then some ⟨f.item,f.key,f.time,i⟩ else ix t j:=by intro j;by_cases l:0<=j;rw[U5 F (by simp;omega) l,M];rw[X7 (by omega),X7 (by omega),if_neg (by omega),if_neg (by omega)]
 refine⟨_,_,by simp only[v7,p,r,K,J,f1,O,oB];rfl,?_,⟨by simp,fun z=> ?_,by simp,fun z a v=> ?_⟩,?_⟩
 ·intro j z n
  rw[u] at n
  by_cases c:j=k
  ·rw[if_pos c] at n;cases n
   exact⟨_,by rw[o,if_pos rfl],c.symm⟩
  ·rw[if_neg c] at n
   by_cases d:j=i
   ·rw[if_pos d] at n;cases n
    have:y ≠ x:=fun q=>by subst q;exact c (d.trans (h.inj p r))
    exact⟨_,by rw[o,if_neg this,if_pos rfl],d.symm⟩
   ·rw[if_neg d] at n
    obtain⟨a,a1,U⟩:=h j z n
    refine⟨a,?_,U⟩
    rw[o,if_neg (fun q=>by subst q;exact d (h.inj n p)),if_neg (fun q=>by subst q;exact c (h.inj n r)),a1]
 ·rw[mem_ixI,mem_ixI]
  constructor
  ·rintro ⟨j,l⟩
   rw[u] at l
   split at l
   ·cases l;exact⟨i,p⟩
   ·split at l
    ·cases l;exact⟨k,r⟩
    ·exact⟨j,l⟩
  ·rintro ⟨j,l⟩
   by_cases c:j=k
   ·subst c;rw[r] at l;cases l;exact⟨i,K⟩
   ·by_cases d:j=i
    ·subst d;rw[p] at l;cases l;exact⟨k,J⟩
    ·exact⟨j,by rw[u,if_neg c,if_neg d,l]⟩
 ·rw[o]
  by_cases c:z=x
  ·subst c;rw[A] at v;cases v;exact⟨_,if_pos rfl,P,Q⟩
  ·rw[if_neg c]
   by_cases d:z=y
   ·subst d;rw[f1] at v;cases v;exact⟨_,if_pos rfl,rfl,rfl⟩
   ·exact⟨a,by rw[if_neg d,v],rfl,rfl⟩
 ·intro z n;rw[p] at n;cases n;exact J
structure Kp(nv:Int)(L:Li)(E:List En)(l:Li)(e:List En):Prop where
 hp:Hp l e
 sm:Sme L E l e
 hi:∀j,nv<=j->ix l j=ix L j
def ix_sw{L p:Li}(h:v7 x y L t=some (p,v))(l:0<=y)(n:0<=x)(o:x<mf L)(s:y<mf L)(u:q ≠ x)(w:q ≠ y):ix p q=ix L q:=by unfold v7 at h;simp only[Option.bind_eq_some_iff] at h;obtain⟨a,_,b,_,c,_,d,_,e,_,f,_,g⟩:=h;cases g;by_cases r:0<=q;rw[U5 l (by simp;omega) r,if_neg w,U5 n o r,if_neg u];rw[X7 (by omega),X7 (by omega)]
def down_body{i:Int}{L l:Li}(g:Kp x L t l v)(G:x<=mf L)(H:mf L<=1000000)(J:0<=y)(s:y<mf L):
  (∃d f h,D3 x (l,v,y)=some (.inl (d,f,h))/\Kp x L t d f/\y<h/\h<x)\/D3 x (l,v,y)=some (.inr (l,v,y)):=by
 have K:=g.sm.len
 unfold D3
 have u:w64 (w64 (2 * y)+1)=2 * y+1:=by rw[p9 (n:=2 * y) (by omega) (by omega),p9 (by omega) (by omega)]
 simp only[u]
 by_cases c1:x<=2 * y+1
 ·rw[if_pos (by simp[c1])];exact .inr rfl
 rw[if_neg (by simp;omega)]
 have w:w64 (2 * y+1+1)=2 * y+2:=by rw[p9 (by omega) (by omega)];omega
 simp only[w]
 obtain⟨j,z,A,B⟩:∃j,(kJ (if 2 * y+2<x then kJ (x4 (2 * y+2) (2 * y+1) l v) fun o=>some o else some false) fun t69=>if t69=true then some (2 * y+2) else some (2 * y+1))=some j/\y<j/\j<x:=by by_cases p:2 * y+2<x;obtain⟨b,a⟩:=less_ok g.hp (i:=2 * y+2) (k:=2 * y+1) (by omega) (by omega) (by omega) (by omega);rw[if_pos p,a];cases b;exact⟨2 * y+1,rfl,by omega,by omega⟩;exact⟨2 * y+2,rfl,by omega,by omega⟩;rw[if_neg p];exact⟨2 * y+1,rfl,by omega,by omega⟩
 rw[z,ky]
 obtain⟨b,a⟩:=less_ok g.hp (i:=j) (k:=y) (by omega) (by omega) (by omega) (by omega)
 rw[a,ky]
 cases b
 ·exact .inr rfl
 ·obtain⟨d,f,s1,D,r,_⟩:=swap_ok g.hp (i:=y) (k:=j) (by omega) (by omega) (by omega) (by omega)
  simp only[s1,oB,as1,r.len]
  refine .inl ⟨d,f,j,rfl,⟨D,g.sm.trans r,fun q F=> ?_⟩,A,B⟩
  rw[ix_sw s1 (by omega) (by omega) (by omega) (by omega) (by omega) (by omega),g.hi q F]
def down_ok{nv t0:Int}{L:Li}{M:List (Int×Int)}(h:Hp L t){i:Int}(hi:0<=i)(d:i<mf L)(u:nv<=mf L)(v:mf L<=1000000):
  ∃j k b,F3 i nv t0 L M t=some (j,k,b)/\Kp nv L t j k:=by
 unfold F3
 obtain⟨o,o1,o2⟩:=E8 (body:=D3 nv) (s:=(L,t,i))
  (fun s=>Kp nv L t s.1 s.2.1/\0<=s.2.2/\s.2.2<mf L) (fun o=>Kp nv L t o.1 o.2.1) (fun s=>(nv - s.2.2).toNat)
  ⟨⟨h,.refl _ _,fun _ _=>rfl⟩,hi,d⟩ (by rintro ⟨l,e,c⟩ ⟨f,p,r⟩;simp only at f p r;rcases down_body (i:=i) f u v p r with⟨y,z,g,w,x,A,B⟩|q;exact .inl ⟨_,w,⟨x,by change 0<=g;omega,by change g<_;omega⟩,by change (nv - g).toNat<(nv - c).toNat;omega⟩;exact .inr ⟨_,q,f⟩)
 obtain⟨a,b,c⟩:=o
 exact⟨a,b,_,by rw[o1];rfl,o2⟩
def up_ok{t0:Int}{L:Li}{M:List (Int×Int)}(h:Hp L t){i:Int}(hi:0<=i)(f:i<mf L)(A:mf L<=1000000):
  ∃g j,I5 i t0 L M t=some (g,j)/\Hp g j/\Sme L t g j:=by
 unfold I5
 obtain⟨o,o1,o2⟩:=E8 (body:=O7) (s:=(L,t,i))
  (fun s=>(Hp s.1 s.2.1/\Sme L t s.1 s.2.1)/\0<=s.2.2/\s.2.2<mf L) (fun o=>Hp o.1 o.2/\Sme L t o.1 o.2) (fun s=>s.2.2.toNat)
  ⟨⟨h,.refl _ _⟩,hi,f⟩ (by
   rintro ⟨l,e,c⟩ ⟨⟨a,d⟩,u,v⟩;simp only at a u v d;have B:=d.len;unfold O7;have w:w64 (c - 1)=c - 1:=p9 (by omega) (by omega);have x:(c - 1).tdiv 2=if c=0 then 0 else(c - 1) / 2:=by split;rename_i q;subst q;rfl;rw[Int.tdiv_eq_ediv_of_nonneg (by omega)]
   have y:w64 ((c - 1).tdiv 2)=if c=0 then 0 else(c - 1) / 2:=by rw[x];split;rfl;exact p9 (by omega) (by omega)
   simp only[w,y,chkN,show((2:Int)=0)=False by simp,if_false,oB];by_cases c0:c=0;subst c0;rw[if_pos (by simp)];exact .inr ⟨_,rfl,a,d⟩;simp only[if_neg c0];rw[if_neg (by omega)];obtain⟨b,n⟩:=less_ok a (i:=c) (k:=(c - 1) / 2) (by omega) (by omega) (by omega) (by omega);rw[n];cases b;exact .inr ⟨_,rfl,a,d⟩;obtain⟨D,F,s1,z,r,_⟩:=swap_ok a (i:=(c - 1) / 2) (k:=c) (by omega) (by omega) (by omega) (by omega);simp only[oB,Bool.not_true,lr,if_false,s1,as1,r.len,if_true];exact .inl ⟨_,rfl,⟨⟨z,d.trans r⟩,by simp only;omega,by simp only;omega⟩,by simp only;omega⟩)
 exact⟨o.1,o.2,by rw[o1];rfl,o2⟩
def fix_ok{t0:Int}{M:List (Int×Int)}(h:Hp c t){i:Int}(hi:0<=i)(d:i<mf c)(g:mf c<=1000000):
  ∃e f,L5 i t0 c M t=some (e,f)/\Hp e f/\Sme c t e f:=by
 unfold L5
 obtain⟨e,f,b,j,a⟩:=down_ok (nv:=mf c) (t0:=t0) (M:=M) h hi d (by omega) g
 simp only[x6,j,oB]
 cases b
 ·obtain⟨k,l,n,o,p⟩:=up_ok (t0:=t0) (M:=M) a.hp hi (by rw[a.sm.len];exact d) (by rw[a.sm.len];exact g)
  exact⟨k,l,by simp[n],o,a.sm.trans p⟩
 ·exact⟨e,f,by simp,a.hp,a.sm⟩
def push_ok{t0:Int}{M:List (Int×Int)}(h:Hp b t){x:Int}{e:En}(k:ix t x=some e)(n:x ∉ b)(D:mf b<=999999):
  ∃f g,J9 x t0 t b M=some (g,f)/\Hp f g/\Sme (b++[x]) t f g:=by
 unfold J9 F7
 obtain⟨o,p,_⟩:=n8 k
 have r:app 8 b [x]=some (b++[x]):=by unfold app;rw[if_pos (by simp;omega)]
 have l:∀j,ix (t.set x.toNat (⟨e.item,e.key,e.time,(mf b:Int)⟩:En)) j=if j=x then some ⟨e.item,e.key,e.time,(mf b:Int)⟩ else ix t j:=by intro j;by_cases s:0<=j;rw[U5 o p s];rw[X7 (by omega),X7 (by omega),if_neg (by omega)]
 simp only[k,r,oB,x6]
 have u:w64 (((b++[x]).length:Int) - 1)=(mf b:Int):=by rw[show(((b++[x]).length:Int) - 1)=(mf b:Int) by simp];exact p9 (by omega) (by omega)
 have v:Hp (b++[x]) (t.set x.toNat (⟨e.item,e.key,e.time,(mf b:Int)⟩:En)):=by intro i z d;rw[av4] at d;by_cases c:i=mf b;rw[if_pos c] at d;cases d;exact⟨_,by rw[l,if_pos rfl],c.symm⟩;rw[if_neg c] at d;obtain⟨a,a1,w⟩:=h i z d;exact⟨a,by rw[l,if_neg (fun q=>by subst q;exact n (l8 d)),a1],w⟩
 obtain⟨f,g,y,A,B⟩:=up_ok (t0:=t0) (M:=M) v (i:=mf b) (by omega) (by simp;omega) (by simp;omega)
 refine⟨f,g,by rw[u,y];rfl,A,Sme.trans ⟨rfl,fun _=>Iff.rfl,by simp,fun z a d=> ?_⟩ B⟩
 rw[l]
 by_cases c:z=x
 ·subst c;rw[k] at d;cases d;exact⟨_,if_pos rfl,rfl,rfl⟩
 ·exact⟨a,by rw[if_neg c,d],rfl,rfl⟩
def pop_ok{t0:Int}{M:List (Int×Int)}(h:Hp c t)(J:0<mf c)(K:mf c<=1000000):
  ∃o p x,M6 t0 c M t=some (p,o,x)/\Hp o p/\Sme c t (o++[x]) p/\x ∉ o:=by
 unfold M6
 have A:w64 ((mf c:Int) - 1)=(mf c:Int) - 1:=p9 (by omega) (by omega)
 obtain⟨l,e,s1,B,u,_⟩:=swap_ok h (i:=0) (k:=(mf c:Int) - 1) (by omega) (by omega) (by omega) (by omega)
 have r:=u.len
 obtain⟨d,v,b,d1,d2⟩:=down_ok (nv:=(mf c:Int) - 1) (t0:=t0) (M:=M) B (i:=0) (by omega) (by omega) (by omega) (by omega)
 have w:=u.trans d2.sm
 have g:=w.len
 obtain⟨x,s,_⟩:=j7 (l:=d) (i:=(mf c:Int) - 1) (by omega) (by omega)
 have j:subL d 0 ((mf d:Int) - 1)=some d.dropLast:=by unfold subL;rw[if_pos (by omega)];simp only[lU,lV,List.dropLast_eq_take];rw[show((mf d:Int) - 1).toNat=mf d - 1 by omega]
 have a:d.dropLast++[x]=d:=by
  have n:d ≠ []:=by intro q;rw[q] at g;simp at g;omega
  have:=(n8 s).2.2;rw[show((mf c:Int) - 1).toNat=mf d - 1 by omega] at this;have f:d.getLast n=x:=by rw[List.getLast_eq_getElem];have:=lG.1 this;exact this.2
  rw[<- f];exact List.dropLast_concat_getLast n
 have D:Hp d.dropLast v:=fun i z F=>d2.hp i z (by have:=aB0 (x:=x) F;rwa [a] at this)
 refine⟨d.dropLast,v,x,?_,D,by rw[a];exact w,fun G=> ?_⟩
 ·
  simp only[x6,A,s1,oB,as1,r,if_true,d1,H0,j]
  rw[show(mf d:Int) - 1=(mf c:Int) - 1 by omega,s];rfl
 ·obtain⟨i,hi⟩:=mem_ixI.1 G
  have y:=aB0 (x:=x) hi
  rw[a] at y
  have:=d2.hp.inj y s
  have H:=(n8 hi).2.1
  simp at H;omega
def mset_nodup(h:(B.map (·.1)).Nodup):((mset B x y).map (·.1)).Nodup:=by by_cases c:mget B x=none;rw[ag9 c,kT];refine lK.2 ⟨h,by simp,fun a f b d e=> ?_⟩;simp at d;subst d;subst e;exact mget_none c f;rw[mset_keys c];exact h
def mget_of_mem:∀{m:List (Int×Int)},(m.map (·.1)).Nodup->(x,y) ∈ m->mget m x=some y
 |[],_,h=>by simp at h
 |p::r,a,h=>by simp only[kP,lc] at a;simp only[mget];rcases kZ.1 h with e|h;subst e;simp;rw[if_neg (fun e=>a.1 (by rw[<- e];exact kD.2 ⟨_,h,rfl⟩))];exact mget_of_mem a.2 h
def mdel_sub:∀{m:List (Int×Int)},(mdel m x).Sublist m
 |[]=>List.Sublist.slnil
 |p::r=>by simp only[mdel];split;exact List.sublist_cons_self _ _;exact mdel_sub.cons_cons _
def mget_mdel:∀{m:List (Int×Int)},(m.map (·.1)).Nodup->∀x,mget (mdel m y) x=if x=y then none else mget m x
 |[],_,x=>by simp[mdel,mget]
 |p::r,a,x=>by
  simp only[kP,lc] at a;simp only[mdel];by_cases c:y=p.1;rw[if_pos c];by_cases d:x=y;rw[if_pos d];cases e:mget r x with
  |none=>rfl
  |some v=>exact absurd (kD.2 ⟨_,mget_mem e,rfl⟩) (by rw[d,c];exact a.1)
  rw[if_neg d];simp only[mget];rw[if_neg (fun e=>d (e.trans c.symm))];rw[if_neg c];simp only[mget,mget_mdel a.2];by_cases d:x=y;rw[if_pos d,if_pos d,if_neg (by rw[d];exact c)];rw[if_neg d,if_neg d]
structure Qu(M:List (Int×Int))(L:Li)(E:List En):Prop where
 hp:Hp L E
 keys:(M.map (·.1)).Nodup
 mem:∀x h,mget M x=some h↔h ∈ L/\∃e,ix E h=some e/\e.item=x
def qkey(M:List (Int×Int))(E:List En)(x:Int):Option Int:=(mget M x).bind fun h=>(ix E h).map (·.key)
def Sme.item{n:Li}(h:Sme c t n v)(x y:Int):(∃e,ix v x=some e/\e.item=y)↔∃e,ix t x=some e/\e.item=y:=by constructor;rintro ⟨e,d,j⟩;obtain⟨a,b,_⟩:=n8 d;obtain⟨f,f1,_⟩:=j7 (l:=t) a (by rw[<- h.elen];exact b);obtain⟨g,i,k,_⟩:=h.e x f f1;rw[d] at i;cases i;exact⟨f,f1,k.symm.trans j⟩;rintro ⟨e,d,j⟩;obtain⟨g,i,k,_⟩:=h.e x e d;exact⟨g,i,k.trans j⟩
def Sme.key{i:Li}(h:Sme c t i v)(x:Int):(ix v x).map (·.key)=(ix t x).map (·.key):=by
 cases d:ix t x with
 |some e=>
  obtain⟨g,j,_,k⟩:=h.e x e d
  rw[j];simp[k]
 |none=>
  cases n:ix v x with
  |none=>rfl
  |some e=>
   obtain⟨a,b,_⟩:=n8 n
   obtain⟨f,f1,_⟩:=j7 (l:=t) a (by rw[<- h.elen];exact b)
   rw[d] at f1;cases f1
def Qu.sme(h:Qu B b t)(hp:Hp c v)(a:Sme b t c v):Qu B c v/\∀x,qkey B v x=qkey B t x:=by
 refine⟨⟨hp,h.keys,fun x y=> ?_⟩,fun x=> ?_⟩;rw[h.mem,a.mem,a.item];unfold qkey;cases mget B x with
 |none=>rfl
 |some y=>simp[a.key]
def Qu.nil:Qu [] [] []:=⟨fun i h e=>by simp[ix] at e,by simp,fun x h=>by simp[mget]⟩
def Qu.val{M:List (Int×Int)}{L:Li}{E:List En}(h:Qu M L E){z:Int}(a:z ∈ L):z.toNat<mf E:=by obtain⟨i,_,_,hi⟩:=p8 a;obtain⟨e,b,_⟩:=h.hp i z hi;exact j8 b
def Qu.chk1(h:Qu B b t):chkH (mf t) b=some ():=by
 unfold chkH;rw[if_pos (fun z a=>h.val a)]
def Qu.chk2(h:Qu B b t):chkH (mf t) (B.map (·.2))=some ():=by unfold chkH;rw[if_pos];intro z a;obtain⟨p,hp,rfl⟩:=kD.1 a;exact h.val ((h.mem p.1 p.2).1 (mget_of_mem h.keys hp)).1
def Qu.item_inj(h:Qu B c t){e f:En}(g:x ∈ c)(i:y ∈ c)(j:ix t x=some e)(k:ix t y=some f)(hi:e.item=f.item):x=y:=by have l:=(h.mem e.item x).2 ⟨g,e,j,rfl⟩;have d:=(h.mem e.item y).2 ⟨i,f,k,hi.symm⟩;rw[l] at d;exact Option.some.inj d
def Hp.nodup(h:Hp b t):b.Nodup:=by
 refine List.pairwise_iff_getElem.2 fun i j hi a c e=> ?_;have d:ix b (j:Int)=some b[j]:=ix_ltN a;have f:ix b (i:Int)=some b[j]:=by rw[<- e];exact ix_ltN hi
 have:=h.inj d f;omega
def Qu.le(h:Qu B c t){vs:Li}(o:∀x,qkey B t x ≠ none->x ∈ vs):mf c<=mf vs:=by
 have p:(c.map fun z=>((ix t z).map (·.item)).getD 0).Nodup:=by refine List.pairwise_map.2 ?_;have:=h.hp.nodup;refine lz.imp_of_mem (R:=(· ≠ ·)) (fun {a b} d g f e=>f ?_) this;obtain⟨i,_,_,hi⟩:=p8 d;obtain⟨j,_,_,q⟩:=p8 g;obtain⟨x,k,_⟩:=h.hp i a hi;obtain⟨y,l,_⟩:=h.hp j b q;refine h.item_inj d g k l ?_;simpa[k,l] using e
 have:=ad1 p (S:=vs) (fun x r=>by obtain⟨a,d,rfl⟩:=kD.1 r;obtain⟨i,_,_,hi⟩:=p8 d;obtain⟨e,n,_⟩:=h.hp i a hi;refine o _ ?_;have:=(h.mem e.item a).2 ⟨d,e,n,rfl⟩;simp[n,qkey,this]);simpa using this
def set_ok{L:Li}(h:Qu B L t)(H:mf L<=999999)(item key t0:Int):
  ∃s l k,y5 item key t0 L B t=some (s,l,k)/\Qu s l k/\∀x,qkey s k x=if x=item then some key else qkey B t x:=by
 unfold y5
 cases u:mget B item with
 |some z=>
  simp only[Option.isSome_some,if_true,oB]
  obtain⟨v,e,g,o⟩:=(h.mem item z).1 u
  obtain⟨J,K,_⟩:=n8 g
  obtain⟨i,V,X,hi⟩:=p8 v
  have N:e.fat=i:=by obtain⟨f,f1,f2⟩:=h.hp i z hi;rw[g] at f1;cases f1;exact f2
  simp only[g,oB,List.set_set]
  have p:∀j,ix (t.set z.toNat (⟨e.item,key,w64 (t0+1),e.fat⟩:En)) j=if j=z then some ⟨e.item,key,w64 (t0+1),e.fat⟩ else ix t j:=by intro j;by_cases O:0<=j;rw[U5 J K O];rw[X7 (by omega),X7 (by omega),if_neg (by omega)]
  have r:Hp L (t.set z.toNat (⟨e.item,key,w64 (t0+1),e.fat⟩:En)):=by intro j y G;rw[p];by_cases c:y=z;subst c;exact⟨_,if_pos rfl,N.trans (h.hp.inj hi G)⟩;rw[if_neg c];exact h.hp j y G
  obtain⟨l,k,w,A,n⟩:=fix_ok (t0:=w64 (t0+1)) (M:=B) r (i:=e.fat) (by omega) (by omega) (by omega)
  have P:Qu B L (t.set z.toNat (⟨e.item,key,w64 (t0+1),e.fat⟩:En)):=⟨r,h.keys,fun x y=>by rw[h.mem,p];by_cases c:y=z;subst c;simp[g];rw[if_neg c]⟩
  obtain⟨Q,U⟩:=P.sme A n
  refine⟨B,l,k,by rw[w];rfl,Q,fun x=> ?_⟩
  rw[U]
  unfold qkey
  by_cases c:x=item
  ·subst c;rw[if_pos rfl,u];simp[p]
  ·rw[if_neg c]
   cases D:mget B x with
   |none=>rfl
   |some y=>
    have:y ≠ z:=fun q=>by subst q;obtain⟨_,f,f1,f2⟩:=(h.mem x y).1 D;rw[g] at f1;cases f1;exact c (f2.symm.trans o)
    simp[p,if_neg this]
 |none=>
  simp only[Option.isSome_none,lr,if_false,h.chk1,h.chk2,oB]
  have F:(mf t:Int) ∉ L:=fun q=>by have:=h.val q;simp at this
  have r:Hp L (t++[(⟨item,key,w64 (t0+1),0⟩:En)]):=fun i z v=>by obtain⟨e,g,o⟩:=h.hp i z v;exact⟨e,aB0 g,o⟩
  obtain⟨l,k,w,A,n⟩:=push_ok (t0:=w64 (t0+1)) (M:=mset B item (mf t:Int)) r (x:=(mf t:Int)) ix_snoc_new F H
  refine⟨_,l,k,by rw[w];rfl,⟨A,mset_nodup h.keys,fun x y=> ?_⟩,fun x=> ?_⟩
  ·rw[I1,n.mem,n.item,kH,kz,av4]
   by_cases c:x=item
   ·subst c
    rw[if_pos rfl]
    by_cases d:y=(mf t:Int)
    ·rw[if_pos d];simp[d]
    ·rw[if_neg d]
     constructor
     ·intro q;exact absurd (Option.some.inj q).symm d
     ·rintro ⟨a|a,b⟩
      ·exact absurd ((h.mem x y).2 ⟨a,b⟩) (by rw[u];simp)
      ·exact absurd a d
   ·rw[if_neg c,h.mem]
    by_cases d:y=(mf t:Int)
    ·rw[if_pos d];subst d
     constructor
     ·rintro ⟨q,_⟩;exact absurd q F
     ·rintro ⟨_,e,g,o⟩;cases g;exact absurd o.symm c
    ·rw[if_neg d];simp[d]
  ·unfold qkey
   rw[I1]
   by_cases c:x=item
   ·rw[if_pos c,if_pos c]
    simp[n.key,av4]
   ·rw[if_neg c,if_neg c]
    cases D:mget B x with
    |none=>rfl
    |some y=>
     have:y ≠ (mf t:Int):=fun q=>F (by rw[<- q];exact((h.mem x y).1 D).1)
     simp[n.key,av4,if_neg this]
def take_ok{L:Li}(h:Qu B L t)(v:0<mf L)(w:mf L<=1000000)(t0:Int):
  ∃o j l p k,C6 t0 L B t=some (o,l,j,p,k,true)/\Qu o j l/\qkey B t p=some k/\(∀x,qkey o l x=if x=p then none else qkey B t x)/\(mf j)+1=mf L:=by
 unfold C6
 rw[if_neg (by omega)]
 obtain⟨j,l,z,A,D,d,F⟩:=pop_ok (t0:=t0) (M:=B) h.hp v w
 have r:z ∈ L:=(d.mem z).1 (by simp)
 obtain⟨i,_,_,hi⟩:=p8 r
 obtain⟨e,n,H⟩:=h.hp i z hi
 obtain⟨f,f1,f2,f3⟩:=d.e z e n
 have s:=(h.mem e.item z).2 ⟨r,e,n,rfl⟩
 refine⟨mdel B f.item,j,l,f.item,f.key,by simp only[A,oB,f1],⟨D,List.Nodup.sublist (mdel_sub.map _) h.keys,fun x y=> ?_⟩,?_,fun x=> ?_,?_⟩
 ·rw[mget_mdel h.keys]
  by_cases c:x=f.item
  ·rw[if_pos c]
   constructor
   ·intro q;cases q
   ·rintro ⟨a,b⟩
    have:=(h.mem x y).2 ⟨(d.mem y).1 (by simp[a]),(d.item y x).1 b⟩
    rw[c,f2,s] at this
    cases this;exact absurd a F
  ·rw[if_neg c,h.mem,<- d.mem,d.item,kH,kz]
   constructor
   ·rintro ⟨a|a,b⟩
    ·exact⟨a,b⟩
    ·subst a
     obtain⟨g,u,G⟩:=b
     rw[n] at u;cases u
     exact absurd (G.symm.trans f2.symm) c
   ·rintro ⟨a,b⟩;exact⟨.inl a,b⟩
 ·unfold qkey;rw[f2,s];simp[n,f3]
 ·unfold qkey
  rw[mget_mdel h.keys]
  by_cases c:x=f.item
  ·rw[if_pos c,if_pos c];rfl
  ·rw[if_neg c,if_neg c]
   cases mget B x with
   |none=>rfl
   |some y=>simp[d.key]
 ·have:=d.len;simpa using this
abbrev MpI:=List (Int×Int)
def X0(g x:Int):Prop:=Go.bits .and .u32 x g=g
def cst(c:MpI)(x:Int):Int:=(mget c x).getD 0
inductive PthW(vs:Li)(ms:List Mk)(g:Int):Int->Int->Prop
 |goal {x:Int} (h:x ∈ vs) (hg:X0 g x):PthW vs ms g x 0
 |step {x k:Int} {m:Mk} (h:x ∈ vs) (hm:m ∈ ms) (hc:canW m x) (hp:PthW vs ms g (tgtW m x) k):PthW vs ms g x (k+m.cost)
structure Gr(vs:Li)(ms:List Mk):Prop where
 cl:∀x ∈ vs,∀m ∈ ms,canW m x->tgtW m x ∈ vs
 co:∀m ∈ ms,0<=m.cost/\m.cost<=100
 ml:mf ms<=40
 vl:mf vs<=2000
structure Cd(vs:Li)(ms:List Mk)(g:Int)(c:MpI):Prop where
 dom:∀x ∈ vs,∃k,mget c x=some k/\0<=k/\k<=1000000000/\(k=1000000000\/PthW vs ms g x k)
 goal:∀x ∈ vs,X0 g x->mget c x=some 0
structure Iv(vs:Li)(ms:List Mk)(g:Int)(c M:MpI)(L:Li)(E:List En)(exc:Int->Prop):Prop where
 cd:Cd vs ms g c
 qu:Qu M L E
 qk:∀x k,qkey M E x=some k->x ∈ vs/\mget c x=some k
 arc:∀x ∈ vs,∀m ∈ ms,canW m x->¬ exc (tgtW m x)->qkey M E (tgtW m x)=none->cst c x<=cst c (tgtW m x)+m.cost
def Iv.len{c M:MpI}{L:Li}{a:Int->Prop}(h:Iv b H y c M L t a):mf L<=mf b:=
 h.qu.le fun x d=>by
  cases e:qkey M t x with
  |none=>exact absurd e d
  |some k=>exact(h.qk x k e).1
def sm(vs:Li)(c:MpI):Nat:=(vs.map fun x=>(cst c x).toNat).sum
def sum_le{f g:A->Nat}:∀{l:List A},(∀x ∈ l,f x<=g x)->(l.map f).sum<=(l.map g).sum
 |[],_=>by simp
 |x::l,h=>by have b:=h x (by simp);have c:=sum_le (l:=l) fun y a=>h y (kB _ a);simp only[kP,lH];omega
def sum_lt{f g:A->Nat}:∀{l:List A},(∀x ∈ l,f x<=g x)->(∃x ∈ l,f x<g x)->(l.map f).sum<(l.map g).sum
 |[],_,h=>by simp at h
 |x::l,h,⟨y,a,b⟩=>by have c:=h x (by simp);have d:=sum_le (l:=l) fun y a=>h y (kB _ a);simp only[kP,lH];rcases kZ.1 a with rfl|a;omega;have:=sum_lt (l:=l) (fun y a=>h y (kB _ a)) ⟨y,a,b⟩;omega
def aw8{c:MpI}(z:Int):cst (mset c x y) z=if z=x then y else cst c z:=by
 unfold cst;rw[I1];split<;>rfl
def sm_lt{vs:Li}{c:MpI}(a:x ∈ vs)(b:0<=y)(d:y<cst c x):sm vs (mset c x y)<sm vs c:=by refine sum_lt (fun z _=> ?_) ⟨x,a,?_⟩;rw[aw8];split;rename_i e;subst e;omega;exact kL _;rw[aw8,if_pos rfl];omega
def relax_ok{c M:MpI}{L:Li}{d:Int->Prop}(s:Gr b H)(h:Iv b H y c M L t d)(u:x ∈ b)(w:0<=q)(N:q<cst c x)(hp:PthW b H y x q)(t0:Int):
  ∃i o j,y5 x q t0 L M t=some (i,o,j)/\Iv b H y (mset c x q) i o j d/\∀z,qkey i j z=if z=x then some q else qkey M t z:=by
 have r:=h.len
 have A:=s.vl
 obtain⟨i,o,j,B,D,p⟩:=set_ok h.qu (by omega) x q t0
 refine⟨i,o,j,B,⟨⟨fun z a=> ?_,fun z a l=> ?_⟩,D,fun z k hk=> ?_,fun z a m F G J n=> ?_⟩,p⟩
 ·rw[I1]
  by_cases e:z=x
  ·subst e
   obtain⟨k,K,O,P,_⟩:=h.cd.dom z a
   have:cst c z=k:=by unfold cst;rw[K];rfl
   exact⟨q,if_pos rfl,w,by omega,.inr hp⟩
  ·rw[if_neg e];exact h.cd.dom z a
 ·rw[I1]
  by_cases e:z=x
  ·subst e
   have:cst c z=0:=by unfold cst;rw[h.cd.goal z a l];rfl
   omega
  ·rw[if_neg e];exact h.cd.goal z a l
 ·rw[p] at hk
  rw[I1]
  by_cases e:z=x
  ·rw[if_pos e] at hk ⊢;cases hk;exact⟨by rw[e];exact u,rfl⟩
  ·rw[if_neg e] at hk ⊢;exact h.qk z k hk
 ·rw[p] at n
  by_cases e:tgtW m z=x
  ·rw[if_pos e] at n;cases n
  ·rw[if_neg e] at n
   have:=h.arc z a m F G J n
   rw[aw8,aw8,if_neg e]
   by_cases f:z=x
   ·rw[if_pos f];subst f;omega
   ·rw[if_neg f];exact this
abbrev Bkm:=List (Int×List C7)
def BkOk(vs:Li)(c:List Mk)(b:Bkm):Prop:=∀y a,a ∈ rowM b y↔∃x ∈ vs,∃m ∈ c,canW m x/\tgtW m x=y/\a=⟨x,m.cost⟩
abbrev St5:=MpI×MpI×List En×Int×Li
def relax_all{vs:Li}{b:Bkm}{c M:MpI}{L:Li}{k:Int}(g:Gr vs H)(E:BkOk vs H b)(h:Iv vs H y c M L t (· =q))(hy:q ∈ vs)(hk:mget c q=some k)(hq:qkey M t q=none)(t0:Int)(bb:Bool):
  ∃s:St5,forR 0 ((rowM b q).length:Int) (S0 b (M,t,L,q,k,bb)) (c,M,t,t0,L)=some s/\Iv vs H y s.1 s.2.1 s.2.2.2.2 s.2.2.1 (fun _=>False)/\((sm vs s.1=sm vs c/\s.2.2.2.2=L)\/sm vs s.1<sm vs c):=by
 obtain⟨s,h1,D,h3,h4,h5,h6⟩:=u9 (body:=S0 b (M,t,L,q,k,bb)) (n:=((rowM b q).length:Int)) (s:=((c,M,t,t0,L):St5))
  (fun j s=>Iv vs H y s.1 s.2.1 s.2.2.2.2 s.2.2.1 (· =q)/\mget s.1 q=some k/\qkey s.2.1 s.2.2.1 q=none/\(∀i a,i<j->ix (rowM b q) i=some a->cst s.1 a.ffrom<=k+a.cost)/\((sm vs s.1=sm vs c/\s.2.2.2.2=L)\/sm vs s.1<sm vs c)) (by omega)
  ⟨h,hk,hq,fun i a hi p=>by have:=(n8 p).1;omega,.inl ⟨rfl,rfl⟩⟩ (fun j s j0 j1 hP=>by
   obtain⟨r,M',E',t',L'⟩:=s;obtain⟨u,v,K,N,w⟩:=hP;simp only at u v K N w;obtain⟨a,p,_⟩:=j7 (l:=rowM b q) j0 j1;obtain⟨x,o,m,z,F,O,rfl⟩:=(E q a).1 (l8 p);have ac:=g.co m z;obtain⟨k',q1,q2,q3,G⟩:=u.cd.dom q hy;rw[v] at q1;cases q1;have hw:w64 (k+m.cost)=k+m.cost:=p9 (by omega) (by omega);unfold S0;simp only[p,oB,hw];have P:Option.getD (mget r x) 0=cst r x:=rfl;rw[P];by_cases J:k+m.cost<cst r x;rw[if_pos J];have Q:PthW vs H y q k:=by
    rcases G with G|G;obtain⟨U,r1,r2,r3,_⟩:=u.cd.dom x o;have:cst r x=U:=by unfold cst;rw[r1];rfl
    omega;exact G
   have A:x ≠ q:=fun e=>by
    subst e;have:cst r x=k:=by unfold cst;rw[v];rfl
    omega
   obtain⟨M2,L2,E2,k1,U,k3⟩:=relax_ok g u o (by omega) J (.step o z F (by rw[O];exact Q)) t';rw[k1];have ad:=sm_lt (vs:=vs) (c:=r) o (by omega) J;refine⟨_,rfl,U,?_,?_,fun i V hi d=> ?_,.inr (by simp only;rcases w with w|w<;>omega)⟩;simp only[I1];rw[if_neg (Ne.symm A)];exact v;simp only[k3];rw[if_neg (Ne.symm A)];exact K;simp only[aw8];by_cases e:i=j;subst e;rw[p] at d;cases d;simp;have:=N i V (by omega) d;split;rename_i f;rw[f] at this;omega;exact this;rw[if_neg J];refine⟨_,rfl,u,v,K,fun i V hi d=> ?_,w⟩;by_cases e:i=j;subst e;rw[p] at d;cases d;simp only;omega;exact N i V (by omega) d)
 refine⟨s,h1,⟨D.cd,D.qu,D.qk,fun x o m z F _ X=> ?_⟩,h6⟩
 by_cases e:tgtW m x=q
 ·have B:=(E q ⟨x,m.cost⟩).2 ⟨x,o,m,z,F,e,rfl⟩
  obtain⟨i,i0,i1,hi⟩:=p8 B
  have:=h5 i _ i1 hi
  change cst s.1 x<=k+m.cost at this
  rw[e]
  have e2:cst s.1 q=k:=by unfold cst;rw[h3];rfl
  omega
 ·exact D.arc x o m z F e X
structure Best(vs:Li)(ms:List Mk)(g:Int)(c:MpI):Prop where
 cd:Cd vs ms g c
 least:∀x k,PthW vs ms g x k->cst c x<=k
def main_ok{vs:Li}{b:Bkm}{c M:MpI}{L:Li}(u:Gr vs H)(D:BkOk vs H b)(h:Iv vs H y c M L v fun _=>False)(t0:Int):
  ∃r,Loop (R9 b) (c,M,v,t0,L)=some r/\Best vs H y r:=by
 have F:=u.vl
 refine E8 (body:=R9 b) (s:=((c,M,v,t0,L):St5)) (fun s:St5=>Iv vs H y s.1 s.2.1 s.2.2.2.2 s.2.2.1 fun _=>False) (fun r=>Best vs H y r)
  (fun s=>sm vs s.1 * 2001+s.2.2.2.2.length) h ?_
 rintro ⟨c,M,v,t,L⟩ p
 simp only at p
 have A:=p.len
 unfold R9
 simp only[I3,oB]
 by_cases cl:0<mf L
 ·rw[if_pos (by omega)]
  obtain⟨G,J,K,a,k,N,O,P,j,E⟩:=take_ok p.qu cl (by omega) t
  obtain⟨Q,hk⟩:=p.qk a k P
  have U:Iv vs H y c G J K (· =a):=⟨p.cd,O,fun x k d=>by
    rw[j] at d;by_cases e:x=a;rw[if_pos e] at d;cases d;rw[if_neg e] at d;exact p.qk x k d,fun x d m l n V f=>by
    rw[j,if_neg V] at f;exact p.arc x d m l n (fun q=>q) f⟩
  obtain⟨s,s1,B,i⟩:=relax_all u D U Q hk (by rw[j,if_pos rfl]) t true
  have X:=B.len
  simp only[N,oB,s1]
  refine .inl ⟨s,rfl,B,?_⟩
  change sm vs s.1 * 2001+s.2.2.2.2.length<sm vs c * 2001+mf L
  rcases i with⟨i,s4⟩|i
  ·rw[i,s4];omega
  ·omega
 ·rw[if_neg (by omega)]
  refine .inr ⟨c,rfl,p.cd,?_⟩
  have g:L=[]:=lg (by omega)
  have f:∀x,qkey M v x=none:=fun x=>by
   unfold qkey;cases e:mget M x with
   |none=>rfl
   |some z=>have:=((p.qu.mem x z).1 e).1;rw[g] at this;cases this
  intro x k hp
  induction hp with
  |goal d o=>unfold cst;rw[p.cd.goal _ d o];simp
  |step d l n hp ih=>
   have:=p.arc _ d _ l n (fun q=>q) (f _)
   omega
def rowM_mset{b:Bkm}{v:List C7}(y:Int):rowM (mset b x v) y=if y=x then v else rowM b y:=by
 unfold rowM;rw[I1];split<;>rfl
def back_ok{b:Bkm}{x:Int}(v:mf H<=40){B:Nat}(w:∀y,(rowM b y).length<=B)(z:B<=1000000):
  ∃k,aa7 H b x=some k/\(∀y,(rowM k y).length<=B+40)/\∀y a,a ∈ rowM k y↔a ∈ rowM b y\/∃m ∈ H,canW m x/\tgtW m x=y/\a=⟨x,m.cost⟩:=by
 unfold aa7
 obtain⟨k,A,D,E⟩:=u9 (body:=ab2 H x) (n:=(mf H:Int)) (s:=b)
  (fun j c=>(∀y,((rowM c y).length:Int)<=B+j)/\∀y a,a ∈ rowM c y↔a ∈ rowM b y\/∃i m,i<j/\ix H i=some m/\canW m x/\tgtW m x=y/\a=⟨x,m.cost⟩) (by omega)
  ⟨fun y=>by have:=w y;omega,fun y a=>⟨.inl,fun q=>by rcases q with q|⟨i,m,hi,h,_⟩;exact q;have:=(n8 h).1;omega⟩⟩ (fun j c F G J=>by
   obtain⟨p,r⟩:=J
   obtain⟨m,h,_⟩:=j7 F G
   unfold ab2
   simp only[h,oB]
   by_cases c1:Go.bits .and .u32 x m.pre=m.pre
   ·rw[if_pos c1]
    have K:Go.bits .or .u32 (Go.bits .andNot .u32 x m.del) m.add=tgtW m x:=rfl
    rw[K]
    have N:=p (tgtW m x)
    have L:app 16 (rowM c (tgtW m x)) [(⟨x,m.cost⟩:C7)]=some (rowM c (tgtW m x)++[⟨x,m.cost⟩]):=by unfold app;rw[if_pos (by simp;omega)]
    simp only[L,oB]
    refine⟨_,rfl,fun y=> ?_,fun y a=> ?_⟩
    ·rw[rowM_mset]
     split
     ·simp;omega
     ·have:=p y;omega
    ·rw[rowM_mset]
     have key:(∃i d,i<j+1/\ix H i=some d/\canW d x/\tgtW d x=y/\a=⟨x,d.cost⟩)↔(∃i d,i<j/\ix H i=some d/\canW d x/\tgtW d x=y/\a=⟨x,d.cost⟩)\/(tgtW m x=y/\a=⟨x,m.cost⟩):=by constructor;rintro ⟨i,d,l,f,g,o,u⟩;by_cases e:i=j;subst e;rw[h] at f;cases f;exact .inr ⟨o,u⟩;exact .inl ⟨i,d,by omega,f,g,o,u⟩;rintro (⟨i,d,l,f⟩|⟨l,f⟩);exact⟨i,d,by omega,f⟩;exact⟨j,m,by omega,h,c1,l,f⟩
     rw[key]
     by_cases e:y=tgtW m x
     ·rw[if_pos e,kH,kz,<- e,r]
      simp[or_assoc]
     ·rw[if_neg e,r]
      have:¬ tgtW m x=y:=fun q=>e q.symm
      simp[this]
   ·rw[if_neg c1]
    refine⟨_,rfl,fun y=>by have:=p y;omega,fun y a=> ?_⟩
    rw[r]
    refine or_congr_right ⟨?_,?_⟩
    ·rintro ⟨i,d,l,f⟩;exact⟨i,d,by omega,f⟩
    ·rintro ⟨i,d,l,f,g,o⟩
     by_cases e:i=j
     ·subst e;rw[h] at f;cases f;exact absurd g c1
     ·exact⟨i,d,by omega,f,g,o⟩)
 refine⟨k,by rw[A];rfl,fun y=>by have:=D y;omega,fun y a=> ?_⟩
 rw[E]
 refine or_congr_right ⟨?_,?_⟩
 ·rintro ⟨i,m,_,f,g⟩;exact⟨m,l8 f,g⟩
 ·rintro ⟨m,f,g⟩
  obtain⟨i,_,M,hi⟩:=p8 f
  exact⟨i,m,M,hi,g⟩
abbrev St6:=Bkm×MpI×MpI×List En×Int×Li
def first_ok{vs:Li}(start g:Int)(w:Gr vs H):
  ∃s:St6,forR 0 (mf vs:Int) (S6 vs start g H) ([],[],[],[],0,[])=some s/\BkOk vs H s.1/\Iv vs H g s.2.1 s.2.2.1 s.2.2.2.2.2 s.2.2.2.1 fun _=>False:=by
 have ac:=w.vl
 have K:=w.ml
 obtain⟨s,h1,Q,h3,A,h5,N⟩:=u9 (body:=S6 vs start g H) (n:=(mf vs:Int)) (s:=(([],[],[],[],0,[]):St6))
  (fun j s=>(∀y a,a ∈ rowM s.1 y↔∃x ∈ vs.take j.toNat,∃m ∈ H,canW m x/\tgtW m x=y/\a=⟨x,m.cost⟩)/\(∀y,(rowM s.1 y).length<=j.toNat * 40)/\
   (∀x,x ∈ vs.take j.toNat->mget s.2.1 x=some (if dec (X0 g x)=true then 0 else 1000000000))/\Qu s.2.2.1 s.2.2.2.2.2 s.2.2.2.1/\∀x,qkey s.2.2.1 s.2.2.2.1 x=if dec (x ∈ vs.take j.toNat/\X0 g x)=true then some 0 else none) (by omega)
  ⟨fun y a=>by simp[rowM,mget],fun y=>by simp[rowM,mget],by simp,Qu.nil,fun x=>by simp[qkey,mget,dec]⟩ (fun j s j0 j1 hP=>by
   obtain⟨b,c,M,E,t,L⟩:=s;obtain⟨V,X,O,D,F⟩:=hP;simp only at V X O D F;obtain⟨x,d,gx⟩:=j7 j0 j1;have hj:(j+1).toNat=j.toNat+1:=by omega
   have f:vs.take (j+1).toNat=vs.take j.toNat++[x]:=by rw[hj,lv,gx];rfl
   have aa:mf L<=mf vs:=D.le fun z h=>by rw[F] at h;by_cases e:z ∈ vs.take j.toNat/\X0 g z;exact lm e.1;rw[if_neg (by rw[s9 e];simp)] at h;exact absurd rfl h
   obtain⟨b',b1,b2,b3⟩:=back_ok (x:=x) K (B:=j.toNat * 40) X (by omega);have i:∀y a,a ∈ rowM b' y↔∃x ∈ vs.take (j+1).toNat,∃m ∈ H,canW m x/\tgtW m x=y/\a=⟨x,m.cost⟩:=fun y a=>by rw[b3,V,f];simp only[kH,kz,or_and_right,exists_or,exists_eq_left]
   have o:∀y,(rowM b' y).length<=(j+1).toNat * 40:=fun y=>by have:=b2 y;omega
   unfold S6;simp only[d,oB,V5,I9];by_cases G:Go.bits .and .u32 x g=g;rw[if_pos G];have l:X0 g x:=G;obtain⟨M',L',E',k1,k2,k3⟩:=set_ok D (by omega) x 0 t;simp only[k1,oB,b1];refine⟨_,rfl,i,o,fun z h=> ?_,k2,fun z=> ?_⟩;simp only[I1];by_cases e:z=x;subst e;rw[if_pos rfl,if_pos (i9 l)];rw[if_neg e,if_neg e];refine O z ?_;rw[f] at h;simp[e] at h;exact h;simp only[k3,F,f];by_cases e:z=x;subst e;rw[if_pos rfl,if_pos (i9 ⟨by simp,l⟩)];rw[if_neg e];have:(z ∈ vs.take j.toNat++[x]/\X0 g z)↔(z ∈ vs.take j.toNat/\X0 g z):=by simp[e]
   rw[x7 this];rw[if_neg G];have l:¬ X0 g x:=G;simp only[oB,b1];refine⟨_,rfl,i,o,fun z h=> ?_,D,fun z=> ?_⟩;simp only[I1];by_cases e:z=x;subst e;rw[if_pos rfl,if_neg (by rw[s9 l];simp)];rw[if_neg e];refine O z ?_;rw[f] at h;simp[e] at h;exact h;simp only[F,f];have:(z ∈ vs.take j.toNat++[x]/\X0 g z)↔(z ∈ vs.take j.toNat/\X0 g z):=by constructor;rintro ⟨p,J⟩;rcases kH.1 p with p|p;exact⟨p,J⟩;simp at p;subst p;exact absurd J l;rintro ⟨p,J⟩;exact⟨lZ _ p,J⟩
   rw[x7 this])
 have ht:vs.take (mf vs:Int).toNat=vs:=by rw[kM,ll]
 rw[ht] at Q A N
 have hc:∀x ∈ vs,¬ X0 g x->mget s.2.1 x=some 1000000000:=fun x d u=>by rw[A x d,if_neg (by rw[s9 u];simp)]
 have r:∀x ∈ vs,X0 g x->mget s.2.1 x=some 0:=fun x d u=>by rw[A x d,if_pos (i9 u)]
 refine⟨s,h1,Q,⟨fun x d=> ?_,r⟩,h5,fun x k hk=> ?_,fun x d m hm v _ P=> ?_⟩
 ·by_cases e:X0 g x
  ·exact⟨0,r x d e,by omega,by omega,.inr (.goal d e)⟩
  ·exact⟨1000000000,hc x d e,by omega,by omega,.inl rfl⟩
 ·rw[N] at hk
  by_cases e:x ∈ vs/\X0 g x
  ·rw[if_pos (i9 e)] at hk;cases hk;exact⟨e.1,r x e.1 e.2⟩
  ·rw[if_neg (by rw[s9 e];simp)] at hk;cases hk
 ·have hy:=w.cl x d m hm v
  rw[N] at P
  have u:¬ X0 g (tgtW m x):=fun q=>by rw[if_pos (i9 ⟨hy,q⟩)] at P;cases P
  have h0:=(w.co m hm).1
  unfold cst
  rw[hc _ hy u,A x d]
  simp only[lO]
  split<;>omega
def costs_ok{vs:Li}(start g:Int)(h:Gr vs H):∃c,ab7 vs start g H=some c/\Best vs H g c:=by unfold ab7;obtain⟨s,s1,i,j⟩:=first_ok start g h;obtain⟨r,k,l⟩:=main_ok h i j s.2.2.2.2.1;refine⟨r,?_,l⟩;obtain⟨a,b,c,d,e,f⟩:=s;simp only[R1,oB,s1];rw[k];rfl
def Val(t:n9)(a:Li):Prop:=∀x ∈ a,(0:Int)<=x/\x<mf t.operators
def Q4(t:n9):Li->Int
 |[]=>0
 |op::r=>Q4 t r+(opAt t op).cost
def Few(t:n9):Prop:=∃l:LL,l.Nodup/\(mf l)<=2000/\∀s,s ∈ l↔Rt t s
def aH1{t:n9}(ht:B6 t):∀{plan:Li},Val t plan->0<=Q4 t plan
 |[],_=>by simp[Q4]
 |op::r,h=>by have h1:=aH1 ht (plan:=r) fun x hx=>h x (kB _ hx);have h2:=h op (by simp);have h3:=(op_ok ht h2.1 h2.2).2.1;simp only[Q4];omega
def pth_of{t:n9}{vs:Li}(ht:B6 t)(hv:∀x,x ∈ vs↔Rwd t x):∀{plan s:Li},Rt t s->Val t plan->ah9 t s plan->PthW vs (mks t) (wd t.goal) (wd s) (Q4 t plan)
 |[],s,hs,_,⟨e,h1,h2⟩=>by simp only[ends,Option.some.injEq] at h1;subst h1;exact .goal ((hv _).2 ⟨s,hs,rfl⟩) ((sub_word (hs.setN ht) ht.goal ht.n1).2 h2)
 |op::r,s,hs,hp,⟨e,h1,h2⟩=>by have h3:=hp op (by simp);simp only[ends] at h1;split at h1;rename_i hc;have hc:=m5.1 hc;have ih:=pth_of ht hv (plan:=r) (hs.step h3.1 h3.2 hc) (fun x hx=>hp x (kB _ hx)) ⟨e,h1,h2⟩;rw[<- tgtW_eq ht (hs.setN ht) h3.1 h3.2] at ih;exact .step ((hv _).2 ⟨s,hs,rfl⟩) (mks_of h3.1 h3.2) ((aD3 ht (hs.setN ht) h3.1 h3.2).2 hc) ih;cases h1
def plan_of(g:B6 s)(h:PthW b (mks s) (wd s.goal) x y):∀{a:Li},Rt s a->x=wd a->∃d,Val s d/\ah9 s a d/\Q4 s d=y:=by
 induction h with
 |goal o p=>
  intro a i e;subst e
  exact⟨[],by simp[Val],⟨a,rfl,(sub_word (i.setN g) g.goal g.n1).1 p⟩,rfl⟩
 |step o q r hp u=>
  intro a i e;subst e
  obtain⟨op,j,l,rfl⟩:=mks_mem q
  have f:=(aD3 g (i.setN g) j l).1 r
  obtain⟨d,v,⟨e,w,z⟩,A⟩:=u (i.step j l f) (tgtW_eq g (i.setN g) j l)
  refine⟨op::d,fun c n=> ?_,⟨e,?_,z⟩,by simp[Q4,A,mkOf]⟩
  ·rcases kZ.1 n with rfl|n
   ·exact⟨j,l⟩
   ·exact v c n
  ·simp only[ends];rw[if_pos (i9 f)];exact w
/-! ### A way that is not long -/
inductive Hop(vs:Li)(ms:List Mk)(g:Int):Nat->Int->Prop
 |goal {x:Int} (h:x ∈ vs) (hg:X0 g x):Hop vs ms g 0 x
 |step {x:Int} {n:Nat} {m:Mk} (h:x ∈ vs) (hm:m ∈ ms) (hc:canW m x) (hp:Hop vs ms g n (tgtW m x)):Hop vs ms g (n+1) x
def Hop.of{k:Int}(h:PthW b H y x k):∃n,Hop b H y n x:=by
 induction h with
 |goal a c=>exact⟨0,.goal a c⟩
 |step a d e _ f=>obtain⟨n,i⟩:=f;exact⟨n+1,.step a d e i⟩
def Hop.mem(h:Hop b H y n x):x ∈ b:=by cases h<;>assumption
def Hop.cost(e:Gr b H){n:Nat}(h:Hop b H y n x):∃k,PthW b H y x k/\k<=100 * n:=by
 induction h with
 |goal a c=>exact⟨0,.goal a c,by omega⟩
 |step a d f _ i=>
  obtain⟨k,j,l⟩:=i
  have:=e.co _ d
  exact⟨_,.step a d f j,by push_cast;omega⟩
def MHop(vs:Li)(a:List Mk)(g:Int)(n:Nat)(x:Int):Prop:=Hop vs a g n x/\∀m,m<n->¬ Hop vs a g m x
def MHop.of:∀{n:Nat} {x:Int},Hop b H y n x->∃m,m<=n/\MHop b H y m x:=by
 intro n;induction n using Nat.strongRecOn with
 |_ n a=>
  intro x h
  by_cases c:∃m,m<n/\Hop b H y m x
  ·obtain⟨m,d,e⟩:=c
   obtain⟨q,k,f⟩:=a m d e
   exact⟨q,by omega,f⟩
  ·exact⟨n,kL _,h,fun m i j=>c ⟨m,i,j⟩⟩
def MHop.chain:∀{n:Nat} {x:Int},MHop b H y n x->∃l:Li,mf l=n+1/\l.Nodup/\∀a ∈ l,a ∈ b/\∃m,m<=n/\MHop b H y m a
 |0,x,h=>⟨[x],rfl,by simp,fun a c=>by simp at c;subst c;exact⟨h.1.mem,0,kL _,h⟩⟩
 |n+1,x,h=>by
  cases h.1 with
  |@step _ _ m f j k hp=>
   have o:MHop b H y n (tgtW m x):=⟨hp,fun q u p=>h.2 (q+1) (by omega) (.step f j k p)⟩
   obtain⟨l,l1,r,i⟩:=MHop.chain o
   refine⟨x::l,by simp[l1],lc.2 ⟨fun d=> ?_,r⟩,fun a c=> ?_⟩
   ·obtain⟨_,q,s,e⟩:=i x d
    exact h.2 q (by omega) e.1
   ·rcases kZ.1 c with rfl|c
    ·exact⟨f,n+1,kL _,h⟩
    ·obtain⟨t,q,s,e⟩:=i a c
     exact⟨t,q,by omega,e⟩
def pth_small(d:Gr b H)(h:PthW b H y x q):∃c,PthW b H y x c/\c<=199900:=by obtain⟨n,f⟩:=Hop.of h;obtain⟨m,_,e⟩:=MHop.of f;obtain⟨l,l1,i,j⟩:=e.chain;have:=ad1 i (S:=b) fun a o=>(j a o).1;have r:=d.vl;obtain⟨c,p,s⟩:=e.1.cost d;exact⟨c,p,by omega⟩
def words_of(a:B6 s)(e:mf b<=2000)(d:∀x,x ∈ b↔Rwd s x):Gr b (mks s):=⟨fun x f m c g=>(d _).2 (((d x).1 f).next a c g),fun m c=>by obtain⟨op,h,i,rfl⟩:=mks_mem c;exact(op_ok a h i).2,by simp[mks];exact a.ops,e⟩
def few_of(c:B6 s)(j:b.Nodup)(p:mf b<=2000)(e:∀x,x ∈ b↔Rwd s x):Few s:=by
 obtain⟨g,d,h⟩:=states_of (t:=s) (l:=b) fun x k=>(e x).1 k;refine⟨g,ax7 (f:=wd) (by rw[d];exact j),?_,fun a=>⟨h a,fun i=> ?_⟩⟩;have:=congrArg mf d;simp only[List.length_map] at this;omega;have:wd a ∈ g.map wd:=by rw[d];exact(e _).2 ⟨a,i,rfl⟩
 obtain⟨n,s1,o⟩:=kD.1 this;rw[wd_inj c (i.setN c) ((h n s1).setN c) o.symm];exact s1
def checked_spec(t:n9):(¬ B6 t/\∃f,M4 t=some f/\f.code ≠ 0/\L3 t=some (.inl (f.code,f.index)))\/(B6 t/\Many t/\L3 t=some (.inl (10, -7)))\/
  (B6 t/\Few t/\∃vs:Li,vs.Nodup/\(mf vs)<=2000/\(∀x,x ∈ vs↔Rwd t x)/\L3 t=some (.inr (wd t.init,wd t.goal,mks t,vs))):=by
 obtain⟨f,j,_,k⟩:=validate_eq t
 unfold L3
 rw[j]
 simp only[oB]
 rcases k with⟨rfl,a⟩|⟨g,n⟩
 ·rw[if_neg (by simp),of_eq a]
  obtain⟨l,b,a1,o,p⟩:=all_spec a (wd t.goal)
  simp only[oB,a1]
  cases b with
  |false=>exact .inr (.inl ⟨a,o rfl,rfl⟩)
  |true=>
   obtain⟨q,r,h⟩:=p rfl
   obtain⟨vs,u,e⟩:=sortW (l:=l) (by omega) (fun x v=>by obtain⟨s,s1,rfl⟩:=(h x).1 v;exact wd_u32 a (s1.setN a))
   have i:∀x,x ∈ vs↔Rwd t x:=fun x=>e.mem_iff.trans (h x)
   have c:vs.Nodup:=e.nodup_iff.2 q
   have d:mf vs<=2000:=by rw[e.length_eq];exact r
   exact .inr (.inr ⟨a,few_of a c d i,vs,c,d,i,by simp[u]⟩)
 ·rw[if_pos (by simp[g])]
  exact .inl ⟨n,f,rfl,g,rfl⟩
inductive OptR(t:n9):Int×m7->Prop
 |bad {f:m7} (h:¬ B6 t) (hf:M4 t=some f) (hc:f.code ≠ 0):OptR t (0,f)
 |many (h:B6 t) (hm:Many t):OptR t (0,⟨10, -7⟩)
 |none (h:B6 t) (hf:Few t) (hn:∀plan,Val t plan->¬ ah9 t t.init plan):OptR t (1000000000,⟨0,0⟩)
 |some {k:Int} {plan:Li} (h:B6 t) (hf:Few t) (h0:0<=k) (h1:k<=199900) (hv:Val t plan) (hw:ah9 t t.init plan) (hk:Q4 t plan=k) (hl:∀p,Val t p->ah9 t t.init p->k<=Q4 t p):OptR t (k,⟨0,0⟩)
def ap5(t:n9):∃r,R4 t=some r/\OptR t r:=by
 unfold R4;rcases checked_spec t with⟨h,f,b,d,v⟩|⟨h,b,d⟩|⟨g,b,vs,F,w,i,d⟩;rw[v];simp only[oB];rw[if_pos (by simp[d])];exact⟨_,rfl,.bad h b d⟩;rw[d];simp only[oB];rw[if_pos (by simp)];exact⟨_,rfl,.many h b⟩;rw[d];simp only[oB];rw[if_neg (by simp)];have o:=words_of g w i;obtain⟨c,c1,j⟩:=costs_ok (wd t.init) (wd t.goal) o;simp only[c1,oB,E7];have hi:wd t.init ∈ vs:=(i _).2 ⟨_,.init,rfl⟩;obtain⟨k,q,x,G,a⟩:=j.cd.dom _ hi;have y:cst c (wd t.init)=k:=by unfold cst;rw[q];rfl
 refine⟨_,rfl,?_⟩;rw[q];simp only[lO];by_cases e:∃s,PthW vs (mks t) (wd t.goal) (wd t.init) s;obtain⟨H,e⟩:=e;obtain⟨s,z,J⟩:=pth_small o e;have A:=j.least _ _ z;rcases a with a|a;omega;obtain⟨u,B,D,E⟩:=plan_of g a .init rfl;refine .some g b x (by omega) B D E fun p l n=> ?_;have:=j.least _ _ (pth_of g i .init l n);omega;rcases a with rfl|a;exact .none g b fun p l n=>e ⟨_,pth_of g i .init l n⟩;exact absurd ⟨_,a⟩ e
def One.sc{t:b8}{op:Int}{x:q9}(c:((ooAt t op).outcomes.length:Int)=1)(a:x ∈ (ooAt t op).outcomes)(s:Li):sc t s op=[efc t.facts s x]:=by obtain⟨z,b⟩:=ly.1 (by omega:(ooAt t op).outcomes.length=1);unfold Ab.sc;rw[b] at a ⊢;rw[kz] at a;subst a;rfl
def dz_at{t:b8}(h:Dz t (mf t.operators) 0 B L)(a:0<=y)(b:y<mf L):∃(op:Int) (x:q9),(0<=op/\op<mf t.operators)/\x ∈ (ooAt t op).outcomes/\opAt ⟨t.facts,t.init,t.goal,L⟩ y=dzO (ooAt t op) x:=by obtain⟨p,hp,_⟩:=j7 (l:=B) (i:=y) a (by rw[h.len];exact b);obtain⟨e,x,f,g⟩:=h.each y p hp;have:=ix_op (t:=⟨t.facts,t.init,t.goal,L⟩) a b;rw[show ix (n9.mk t.facts t.init t.goal L).operators y=some (dzO (ooAt t p.1) x) from g] at this;exact⟨p.1,x,e,f,(Option.some.inj this).symm⟩
def aft_dz{t:b8}{op:Int}{x:q9}(h:opAt ⟨t.facts,t.init,t.goal,L⟩ y=dzO (ooAt t op) x)(s:Li):aft ⟨t.facts,t.init,t.goal,L⟩ s y=efc t.facts s x:=by unfold aft efc;rw[h];rfl
def can_dz{t:b8}{op:Int}{x:q9}(h:opAt ⟨t.facts,t.init,t.goal,L⟩ y=dzO (ooAt t op) x)(s:Li):can ⟨t.facts,t.init,t.goal,L⟩ s y↔oCan t s op:=by unfold can oCan;rw[h];exact Iff.rfl
def One1(t:b8):Prop:=∀op:Int,0<=op->op<mf t.operators->((ooAt t op).outcomes.length:Int)=1
def one_rs(k:k8 d)(n:One1 d){op:Int}(h:0<=op/\op<mf d.operators)(o:SetN c d.facts):∃x ∈ (ooAt d op).outcomes,sc d c op=[efc d.facts c x]/\∀v den,QS d v den c op=WS d c op * (vG d v (efc d.facts c x)+(ooAt d op).cost * den):=by
 obtain⟨x,i⟩:=ly.1 (by have:=n op h.1 h.2;omega:(ooAt d op).outcomes.length=1);have j:=ak0 k h o;have f:∀y,y ∈ (rsO d c op).1↔y=efc d.facts c x:=fun y=>by rw[j.mem,i];constructor;rintro ⟨z,p,e⟩;rw[kz.1 p] at e;exact e.symm;rintro rfl;exact⟨x,by simp,rfl⟩
 have g:=j.ord.nodup;have q:(rsO d c op).1=[efc d.facts c x]:=by
  generalize (rsO d c op).1=l at f g;cases l with
  |nil=>have:=(f (efc d.facts c x)).2 rfl;cases this
  |cons a r=>
   rw[(f a).1 (.head _)] at g ⊢
   cases r with
   |nil=>rfl
   |cons b r=>
    rw[(f b).1 (.tail _ (.head _))] at g
    simp at g
 refine⟨x,by rw[i];simp,by unfold sc;rw[i];rfl,fun v den=> ?_⟩;unfold QS WS CS;rw[q];simp only[List.length_cons,List.length_nil,smN,lP,lO,Int.zero_add];grind
def dz_idx{t:b8}(h:Dz t (mf t.operators) 0 B L){op:Int}(b:0<=op/\op<mf t.operators){x:q9}(e:x ∈ (ooAt t op).outcomes)(f:One1 t):∃i:Int,(0<=i/\i<mf L)/\opAt ⟨t.facts,t.init,t.goal,L⟩ i=dzO (ooAt t op) x:=by
 obtain⟨z,g,_⟩:=j7 (l:=(ooAt t op).outcomes) (i:=0) (kY _) (by rw[f op b.1 b.2];decide);have o:z=x:=by obtain⟨y,p⟩:=ly.1 (by have:=f op b.1 b.2;omega:(ooAt t op).outcomes.length=1);have a:=l8 g;rw[p,kz] at a e;rw[a,e]
 subst o;obtain⟨i,_,j⟩:=h.all op 0 z b.1 b.2 g (.inl b.2);obtain⟨k,n,_⟩:=n8 j;refine⟨i,⟨k,n⟩,?_⟩;have:=ix_op (t:=⟨t.facts,t.init,t.goal,L⟩) k n;rw[show ix (n9.mk t.facts t.init t.goal L).operators i=some (dzO (ooAt t op) z) from j] at this;exact(Option.some.inj this).symm
def vG_goal(h:l9 d b):vG d i b=0:=by unfold vG;rw[ifP h]
def vG_no(h:¬ l9 d b):vG d i b=i b:=by unfold vG;rw[ifN h]
def cert_pre(u:ClO d a)(n:L4 d a i)(o:b ∈ a){op:Int}(p:0<=op/\op<mf d.operators)(g:oCan d b op)(e:sc d b op=[c])(q:0<=i c):0<=i b:=by
 have r:c ∈ a:=u.sc o p g (by rw[e];simp);have j:PostF d a (fun x=>Sd a i x\/x=b):=fun x l=>by rcases l with l|rfl;obtain⟨k,hk⟩:=(n.post x l).2;exact⟨l.1,k,hk.sub fun z h=>.inl h⟩;obtain⟨k,hk⟩:=(n.post c ⟨r,q⟩).2;refine⟨o,k+1,.inr ⟨.inr rfl,op,p,g,fun z h=> ?_,c,by rw[e];simp,hk.sub fun z h=>.inl h⟩⟩;rw[e,kz] at h;subst h;exact .inl ⟨r,q⟩
 exact n.gr _ j b (.inr rfl)
def cert_goal(c:L4 d a i)(e:b ∈ a)(g:l9 d b):0<=i b:=by rcases c.val b e with⟨_,h⟩|⟨k,h,_⟩;exact absurd g (h 0);omega
def az8{t:b8}(o:ClO t a)(p:L4 t a i)(u:One1 t)(v:Dz t (mf t.operators) 0 B L):∀{j s:Li},s ∈ a->Val ⟨t.facts,t.init,t.goal,L⟩ j->ah9 ⟨t.facts,t.init,t.goal,L⟩ s j->0<=i s
 |[],s,n,_,⟨e,h,q⟩=>by simp only[ends,Option.some.injEq] at h;subst h;exact cert_goal p n q
 |b::r,s,n,w,⟨e,h,q⟩=>by have hi:=w b (by simp);obtain⟨op,x,o1,o2,o3⟩:=dz_at v hi.1 hi.2;simp only[ends] at h;by_cases l:can ⟨t.facts,t.init,t.goal,L⟩ s b;rw[if_pos (i9 l)] at h;have y:=One.sc (u op o1.1 o1.2) o2 s;have k:=(can_dz o3 s).1 l;rw[aft_dz o3 s] at h;exact cert_pre o p n o1 k y (az8 o p u v (o.sc n o1 k (by rw[y];simp)) (fun z A=>w z (kB _ A)) ⟨e,h,q⟩);rw[if_neg (fun g=>l (m5.1 g))] at h;cases h
def plan_ge{t:b8}{N:Li}(D:k8 t)(w:ClO t a)(M:L4 t a l)(c:StS t (cerS t a l))(O:Fin t (cerS t a l) i y b N)(E:One1 t)(J:Dz t (mf t.operators) 0 B L)(F:B6 ⟨t.facts,t.init,t.goal,L⟩):∀{k s:Li},s ∈ a->Val ⟨t.facts,t.init,t.goal,L⟩ k->ah9 ⟨t.facts,t.init,t.goal,L⟩ s k->vG t i s<=Q4 ⟨t.facts,t.init,t.goal,L⟩ k * y
 |[],s,A,_,⟨e,n,G⟩=>by simp only[ends,Option.some.injEq] at n;subst n;rw[vG_goal G,Q4];omega
 |h::r,s,A,K,⟨e,n,G⟩=>by
  have hw:ah9 ⟨t.facts,t.init,t.goal,L⟩ s (h::r):=⟨e,n,G⟩;by_cases P:l9 t s;rw[vG_goal P];exact kK (aH1 F K) (by have:=O.vb.d0;omega);have hi:=K h (by simp);obtain⟨op,x,o1,o2,o3⟩:=dz_at J hi.1 hi.2;simp only[ends] at n;by_cases p:can ⟨t.facts,t.init,t.goal,L⟩ s h;rw[if_pos (i9 p)] at n;have Q:=One.sc (E op o1.1 o1.2) o2 s;have o:=(can_dz o3 s).1 p;rw[aft_dz o3 s] at n;have d:Val ⟨t.facts,t.init,t.goal,L⟩ r:=fun z hz=>K z (kB _ hz);have U:efc t.facts s x ∈ a:=w.sc A o1 o (by rw[Q];simp);have ih:=plan_ge D w M c O E J F U d ⟨e,n,G⟩;have fy:=az8 w M E J U d ⟨e,n,G⟩;have fs:=az8 w M E J A K hw;have V:s ∈ cerS t a l:=ac7.2 ⟨⟨A,fs⟩,P⟩;have X:Alw t (cerS t a l) s op:=⟨o1,o,fun j v=>by rw[Q,kz] at v;subst v;by_cases g:l9 t (efc t.facts s x);exact .inl g;exact .inr (ac7.2 ⟨⟨U,fy⟩,g⟩)⟩;obtain⟨x',aa,H,hq⟩:=one_rs D E o1 (w.set A);rw[Q] at H;have ex:efc t.facts s x'=efc t.facts s x:=by simpa using H.symm
  have q:=O.le D c V X;rw[hq,ex] at q;have w1:=(ar7 D o1 (ak0 D o1 (w.set A))).1;have f:i s<=vG t i (efc t.facts s x)+(ooAt t op).cost * y:=by rw[kO] at q;exact Int.le_of_mul_le_mul_left q (by omega)
  have u:(opAt ⟨t.facts,t.init,t.goal,L⟩ h).cost=(ooAt t op).cost:=by rw[o3];rfl
  rw[vG_no P,Q4,u,Int.add_mul];omega;rw[if_neg (fun g=>p (m5.1 g))] at n;cases n
def plan_le{t:b8}{N:Li}(F:k8 t)(u:StS t (cerS t a l))(G:Fin t (cerS t a l) i y b N)(U:One1 t)(d:Dz t (mf t.operators) 0 B L):∀(g:Nat) (s:Li),(cerS t a l)[g]? =some s->∃o,Val ⟨t.facts,t.init,t.goal,L⟩ o/\ah9 ⟨t.facts,t.init,t.goal,L⟩ s o/\Q4 ⟨t.facts,t.init,t.goal,L⟩ o * y=i s:=fun g s p=>by
 have q:=G.ok.sys F u;have key:∀g,Wy t (cerS t a l) (stL t (cerS t a l) b) g->∀s,(cerS t a l)[g]? =some s->∃o,Val ⟨t.facts,t.init,t.goal,L⟩ o/\ah9 ⟨t.facts,t.init,t.goal,L⟩ s o/\Q4 ⟨t.facts,t.init,t.goal,L⟩ o * y=i s:=fun g v=>by
  have step:∀(g:Nat) (n:Li),n ∈ stL t (cerS t a l) b g->∀s,(cerS t a l)[g]? =some s->(∃o,Val ⟨t.facts,t.init,t.goal,L⟩ o/\ah9 ⟨t.facts,t.init,t.goal,L⟩ n o/\Q4 ⟨t.facts,t.init,t.goal,L⟩ o * y=vG t i n)->∃o,Val ⟨t.facts,t.init,t.goal,L⟩ o/\ah9 ⟨t.facts,t.init,t.goal,L⟩ s o/\Q4 ⟨t.facts,t.init,t.goal,L⟩ o * y=i s:=fun g n A s p ⟨r,J,⟨e,K,M⟩,f⟩=>by
   have H:=kE p;obtain⟨j,hj,g2,D⟩:=chL_alw u.ord G.ok H;have eo:oL b g=chL (cerS t a l) b s:=by unfold chL;rw[posS_eq u.ord p]
   obtain⟨x,V,e1⟩:=((q.res g s p).mem n).1 A;rw[eo] at V;obtain⟨x',O,ec,hq⟩:=one_rs F U D.1 (u.set s H);have X:efc t.facts s x'=n:=by have:efc t.facts s x ∈ sc t s (chL (cerS t a l) b s):=kD.2 ⟨x,V,rfl⟩;rw[ec,kz] at this;rw[<- this,e1]
   obtain⟨k,hk,w⟩:=dz_idx d D.1 O U;have E:=G.eq u H;rw[hq,X,kO (i s)] at E;have w1:=(ar7 F D.1 (ak0 F D.1 (u.set s H))).1;have hv:=Int.eq_of_mul_eq_mul_left (by omega) E;refine⟨k::r,fun z P=> ?_,⟨e,?_,M⟩,?_⟩;rcases kZ.1 P with rfl|P;exact hk;exact J z P;simp only[ends];rw[if_pos (i9 ((can_dz w s).2 D.2.1)),aft_dz w s,X];exact K;rw[Q4,show(opAt ⟨t.facts,t.init,t.goal,L⟩ k).cost=(ooAt t (chL (cerS t a l) b s)).cost by rw[w];rfl,Int.add_mul,f,hv]
  induction v with
  |exit Q A c=>
   intro s p
   exact step _ _ A s p ⟨[],fun _ h=>by(cases h),⟨_,rfl,c⟩,by rw[vG_goal c,Q4];omega⟩
  |step Q hk A _ ih=>
   intro s p
   obtain⟨r,J,K,M⟩:=ih _ hk
   exact step _ _ A s p ⟨r,J,K,by rw[vG_no (u.ng _ (kE hk))];exact M⟩
 exact key g (q.wy (G.pr g (lG.1 p).1)) s p
def frN_one(hk:0<=x)(b:0<y)(h:x * y=q):frN q.toNat y.toNat=⟨x,1⟩:=by
 have e:frN q.toNat y.toNat=frN x.toNat 1:=frN_eq (by omega) (by decide) (by
  have:(q.toNat:Int)=x.toNat * y.toNat:=by rw[lp hk,lp (by omega:0<=y),h,lp];rw[<- h];exact kK hk (by omega)
  have:q.toNat=x.toNat * y.toNat:=by exact_mod_cast this
  omega)
 rw[e];unfold frN;simp[lp hk]
def aw3(t:b8):M0 t=some true:=by
 unfold M0;rcases ah0 (body:=I0 t) (n:=(mf t.operators:Int)) (s:=()) (fun j _=>∀op:Int,0<=op->op<j->((ooAt t op).outcomes.length:Int)=1) (fun o=>o=true) (by omega) (fun op h0 h1=>by omega) (fun j _ j0 j1 hP=>by unfold I0;rw[ix_oo j0 j1];simp only[oB,awaited_eq];by_cases e:((ooAt t j).outcomes.length:Int)=1;rw[if_pos e];refine .inl ⟨_,rfl,fun op h0 h1=> ?_⟩;by_cases ej:op=j;rw[ej];exact e;exact hP op h0 (by omega);rw[if_neg e];exact .inr ⟨_,rfl,rfl⟩) with⟨_,e1,h1⟩|⟨o,e1,rfl⟩;rw[e1];simp only[oB,awaited_eq];have bad:∀z:List f9×E6×Bool×m7,A5 t=some z->∀y:n9×List (Int×Int)×m7,D7 t=some y->(z.2.2.2.code ≠ 0\/y.2.2.code ≠ 0\/∀r,R4 y.1=some r->r.2.code ≠ 0\/(z.2.2.1=decide (r.1<1000000000)/\(z.2.2.1=true->z.2.1=⟨r.1,1⟩)))->
   (kJ (A5 t) fun a31=>kJ (D7 t) fun a38=>kJ (R4 a38.1) fun a44=>if(((!(decide (a31.2.2.2.code=0)))||(!(decide (a38.2.2.code=0))))||(!(decide (a44.2.code=0))))=true then some true else kJ (if a31.2.2.1=(decide (a44.1<1000000000)) then if(!a31.2.2.1)=true then some true else if((decide (a31.2.1.num=a44.1)) && (decide (a31.2.1.den=1)))=true then some true else some false else some false) fun t5=>some t5)=some true:=fun z hz y hy h=>by
  obtain⟨r,q1,_⟩:=ap5 y.1
  rw[hz,hy]
  simp only[oB,q1]
  by_cases c:(((!(decide (z.2.2.2.code=0)))||(!(decide (y.2.2.code=0))))||(!(decide (r.2.code=0))))=true
  ·rw[if_pos c]
  ·rw[if_neg c]
   simp only[Bool.or_eq_true,Bool.not_eq_true',decide_eq_false_iff_not,not_or,Decidable.not_not] at c
   rcases h with h|h|h
   ·exact absurd c.1.1 h
   ·exact absurd c.1.2 h
   ·rcases h r q1 with h|⟨h,h2⟩
    ·exact absurd c.2 h
    ·rw[if_pos h]
     cases hb:z.2.2.1 with
     |false=>rfl
     |true=>simp[h2 hb]
 obtain⟨f,v1,_,v3⟩:=aw7 t;rcases v3 with⟨rfl,ht⟩|⟨hc,_⟩;obtain⟨c,d,_,r2,r3⟩:=determinize_ok ht;by_cases c40:40<(mf c:Int);rw[if_pos c40] at r3;obtain⟨z,hz⟩:∃z,A5 t=some z:=by rcases best_spec ht with⟨_,_,h⟩|⟨_,_,_,_,_,_,_,_,⟨_,h⟩|⟨_,⟨_,h⟩|⟨_,⟨_,h⟩|⟨_,⟨_,h⟩|⟨_,_,_,_,_,_,⟨_,h⟩|⟨_,_,_,_,h⟩⟩⟩⟩⟩⟩<;>exact⟨_,h⟩
 exact bad _ hz _ r3 (.inr (.inl (by decide)));rw[if_neg c40] at r3;have htk:=dz_task ht r2 (by omega);rcases best_spec ht with⟨_,_,h⟩|⟨all,rv,f,_,_,hcl,_,hf,h⟩;exact bad _ h _ r3 (.inl (by decide));rcases h with⟨_,h⟩|⟨_,⟨_,h⟩|⟨hl5,⟨h0,h⟩|⟨h0,⟨hg,h⟩|⟨hg,den,lb,N,v,hF,⟨_,h⟩|⟨_,p,_,_,h⟩⟩⟩⟩⟩;exact bad _ h _ r3 (.inl (by decide));exact bad _ h _ r3 (.inl (by decide));refine bad _ h _ r3 (.inr (.inr fun r q1=> ?_));obtain⟨r',q1',q2⟩:=ap5 (⟨t.facts,t.init,t.goal,d⟩:n9);rw[q1'] at q1;cases q1;cases q2 with
 |bad _ _ hc=>exact .inl hc
 |many=>exact .inl (by decide)
 |none=>exact .inr ⟨rfl,fun e=>by cases e⟩
 |@some k plan _ _ _ _ hv hw _ _=>
  have:=az8 hcl hf h1 r2 hcl.cl.init hv hw
  omega
 refine bad _ h _ r3 (.inr (.inr fun r q1=> ?_));obtain⟨r',q1',q2⟩:=ap5 (⟨t.facts,t.init,t.goal,d⟩:n9);rw[q1'] at q1;cases q1;cases q2 with
 |bad _ _ hc=>exact .inl hc
 |many=>exact .inl (by decide)
 |none _ _ hn=>exact absurd (show ah9 ⟨t.facts,t.init,t.goal,d⟩ t.init [] from⟨_,rfl,hg⟩) (hn [] fun _ h=>by cases h)
 |@some k plan _ _ k0 k1 _ _ _ hl=>
  have:=hl [] (fun _ h=>by cases h) ⟨_,rfl,hg⟩
  rw[Q4] at this
  obtain rfl:k=0:=by omega
  exact .inr ⟨rfl,fun _=>rfl⟩
 exact bad _ h _ r3 (.inl (by decide));refine bad _ h _ r3 (.inr (.inr fun r q1=> ?_));have hS:=cer_sts hcl hl5 f;have hin:t.init ∈ cerS t all f:=ac7.2 ⟨⟨hcl.cl.init,h0⟩,hg⟩;obtain⟨i,hi⟩:=kF hin;obtain⟨plan',p1,p2,p3⟩:=plan_le ht hS hF h1 r2 i _ hi;have hd:=hF.vb.d0;obtain⟨r',q1',q2⟩:=ap5 (⟨t.facts,t.init,t.goal,d⟩:n9);rw[q1'] at q1;cases q1;cases q2 with
 |bad _ _ hc=>exact .inl hc
 |many=>exact .inl (by decide)
 |none _ _ hn=>exact absurd p2 (hn _ p1)
 |@some k plan _ _ k0 k1 hv hw hk hl=>
  have a:=hl _ p1 p2
  have b:=plan_ge ht hcl hf hS hF h1 r2 htk hcl.cl.init hv hw
  rw[vG_no hg,hk,<- p3] at b
  have b':=kU b hd
  obtain rfl:k=Q4 ⟨t.facts,t.init,t.goal,d⟩ plan':=by omega
  refine .inr ⟨by simp;omega,fun _=> ?_⟩
  exact frN_one k0 hd p3
 exact bad _ (best_bad v1 hc) _ (determinize_bad v1 hc) (.inl hc);rw[e1];rfl
end Ab
