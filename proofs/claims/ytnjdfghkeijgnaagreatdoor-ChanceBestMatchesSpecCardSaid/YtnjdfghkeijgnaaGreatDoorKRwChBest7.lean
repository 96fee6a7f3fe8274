/-
  Texts that the proof stands on.
-/
import Derived.Test.YtnjdfghkeijgnaaGreatDoorKRwChBest6
set_option linter.all false
open List renaming getElem?_eq_getElem->ln,mem_of_getElem?->lq,getElem?_of_mem->lr,getElem?_set_ne->ls,getElem_mem->lv,getElem?_set_self->lw,replicate->lx,length_replicate->lB,getElem?_cons_succ->lC,length_map->lH,getElem?_cons_zero->lI,getElem?_replicate->lJ,drop_eq_getElem_cons->lP,mem_map->lR,append_nil->lU,zipWith_cons_cons->lV,length_singleton->ma,length_pos_iff->md,filter_append->mf,length_append->mh,append_assoc->mj,length_cons->mn,length->mo
open Int renaming eq_ofNat_of_zero_le->lp,toNat_natCast->lu,natCast_mul->ly,mul_le_mul_of_nonneg_left->lD,mul_nonneg->lE,mul_le_mul->lF,mul_comm->lL,mul_le_mul_of_nonneg_right->lN,ofNat_tdiv->lZ,le_refl->ml
open Nat renaming mul_div_cancel_left->lz,gcd->lA,le_refl->lO,gcd_pos_of_pos_right->lQ,div_le_self->lT,le_mul_of_pos_left->lW,mul_le_mul->lY,le_of_dvd->mb,mul_le_mul_left->mc,eq_zero_or_pos->me,gcd_dvd_right->mi,zero_le->mm
open Option renaming bind_some->lK
open Iff renaming rfl->lX
open Bool renaming false_eq_true->mg
namespace Ab
open Go
variable{n k:Nat}{a:LL}{b d:Li}{c:b9}{f i:Li->Int}{x y:Int}{g:List Bool}
def ar2{a b:Nat}(j:0<b):∃g n d:Nat,frN a b=⟨(n:Int),(d:Int)⟩/\a=g * n/\b=g * d/\0<d/\0<g:=by
 have e:0<lA a b:=lQ a j;obtain⟨n,i⟩:=Nat.gcd_dvd_left a b;obtain⟨d,f⟩:=mi a b;have k:a / lA a b=n:=by rw (occs:=.pos [1]) [i];exact lz _ e
 have l:b / lA a b=d:=by rw (occs:=.pos [1]) [f];exact lz _ e
 refine⟨lA a b,n,d,by unfold frN;rw[k,l],i,f,?_,e⟩;rcases me d with h|h;rw[h,Nat.mul_zero] at f;omega;exact h
def frN_inj{b c d:Nat}(j:0<b)(l:0<d)(h:frN k b=frN c d):k * d=c * b:=by
 obtain⟨g,n,m,e,o,p,_,_⟩:=ar2 (a:=k) j;obtain⟨v,f,i,q,r,s,_,_⟩:=ar2 (a:=c) l;rw[e,q] at h;have w:(n:Int)=f:=congrArg s8.num h;have x:(m:Int)=i:=congrArg s8.den h;have t:n=f:=by omega
 have u:m=i:=by omega
 rw[o,p,r,s,t,u];grind
def frN_add{Z E n1 d1 p d2:Nat}(l:0<E)(x:frN k E=⟨(n1:Int),(d1:Int)⟩)(y:frN Z E=⟨(p:Int),(d2:Int)⟩):
  ∃a1 c,d1 / lA d1 d2=a1/\d2 / lA d1 d2=c/\0<d1/\0<d2/\d1<=E/\d2<=E/\0<lA d1 d2/\0<a1 * d2/\a1 * d2<=E/\n1 * c+p * a1<=k+Z/\frN (n1 * c+p * a1) (a1 * d2)=frN (k+Z) E:=by
 obtain⟨z,n,d,e,D,B,d0,F⟩:=ar2 (a:=k) l
 obtain⟨G,q,b,H,J,r,o,K⟩:=ar2 (a:=Z) l
 rw[e] at x;rw[H] at y
 have q1:(n:Int)=n1:=congrArg s8.num x
 have q2:(d:Int)=d1:=congrArg s8.den x
 have q3:(q:Int)=p:=congrArg s8.num y
 have q4:(b:Int)=d2:=congrArg s8.den y
 have L:n=n1:=by omega
 have M:d=d1:=by omega
 have N:q=p:=by omega
 have O:b=d2:=by omega
 subst L M N O
 have w:0<lA d b:=lQ d o
 obtain⟨a1,f⟩:=Nat.gcd_dvd_left d b
 obtain⟨c,s⟩:=mi d b
 have P:d / lA d b=a1:=by rw (occs:=.pos [1]) [f];exact lz _ w
 have Q:b / lA d b=c:=by rw (occs:=.pos [1]) [s];exact lz _ w
 generalize U:lA d b=g at *
 have A:0<a1:=by rcases me a1 with h|h;rw[h,Nat.mul_zero] at f;omega;exact h
 have t:d ∣ E:=⟨z,by rw[B,Nat.mul_comm]⟩
 have u:b ∣ E:=⟨G,by rw[r,Nat.mul_comm]⟩
 have V:Nat.lcm d b=a1 * b:=by unfold Nat.lcm;rw[U,show d * b=g * (a1 * b) by rw (occs:=.pos [1]) [f];rw[Nat.mul_assoc]];exact lz _ w
 have X:a1 * b ∣ E:=V ▸ Nat.lcm_dvd t u
 have j:=mb l X
 have v:0<a1 * b:=Nat.mul_pos A o
 have key:(n * c+q * a1) * E=(k+Z) * (a1 * b):=by
  have k1:n * c * E=k * (a1 * b):=by
   rw[D,B];have e2:n * c * (z * d)=z * n * (c * d):=by grind
   have e3:c * d=a1 * b:=by rw[f,s];grind
   rw[e2,e3]
  have k2:q * a1 * E=Z * (a1 * b):=by rw[J,r];grind
  rw[Nat.add_mul,Nat.add_mul,k1,k2]
 refine⟨a1,c,P,Q,d0,o,mb l t,mb l u,w,v,j,?_,frN_eq v l key⟩
 have:(n * c+q * a1) * E<=(k+Z) * E:=by rw[key];exact mc _ j
 exact Nat.le_of_mul_le_mul_right this l
/-! ### All combinations -/
def M2:LL->Nat
 |[]=>1
 |o::os=>mo o * M2 os
def digs:LL->Nat->Li
 |[],_=>[]
 |o::os,k=>(o[k % (mo o)]?).getD 0::digs os (k / (mo o))
def digs_len:∀{os:LL} {k:Nat},(digs os k).length=mo os
 |[],_=>rfl
 |o::os,k=>by rw[digs,mn,mn,digs_len]
def digs_get:∀{os:LL} {k i:Nat} {o:Li},(∀o ∈ os,o ≠ [])->os[i]? =some o->∃x,(digs os k)[i]? =some x/\x ∈ o
 |[],_,_,_,_,h=>by simp at h
 |a::os,k,0,o,b,h=>by simp only[lI,Option.some.injEq] at h;subst h;have c:0<mo a:=md.2 (b a (List.mem_cons_self ..));have:=Nat.mod_lt k c;refine⟨a[k % (mo a)],?_,lv _⟩;rw[digs,lI,ln this];rfl
 |a::os,k,i+1,o,b,h=>by rw[lC] at h;obtain⟨x,d,e⟩:=digs_get (k:=k / (mo a)) (fun o f=>b o (List.mem_cons_of_mem _ f)) h;exact⟨x,by rw[digs,lC];exact d,e⟩
def digs_ex:∀{os:LL} {l:Li},mo l=mo os->(∀(i:Nat) o,os[i]? =some o->∃x,l[i]? =some x/\x ∈ o)->∃k,k<M2 os/\digs os k=l
 |[],[],_,_=>⟨0,by decide,rfl⟩
 |[],x::l,h,_=>by simp at h
 |o::os,[],h,_=>by simp at h
 |o::os,x::l,h,b=>by
  obtain⟨y,c,d⟩:=b 0 o rfl;simp only[lI,Option.some.injEq] at c;subst c;obtain⟨k,f,g⟩:=digs_ex (os:=os) (l:=l) (by simpa using h) fun i j n=>by have:=b (i+1) j (by rw[lC];exact n);rwa [lC] at this
  obtain⟨i,a,e⟩:=List.getElem_of_mem d;refine⟨i+mo o * k,?_,?_⟩;have:mo o * (k+1)<=mo o * M2 os:=mc _ f;rw[Nat.mul_add] at this;show _<mo o * M2 os;omega;rw[digs,Nat.add_mul_mod_self_left,Nat.mod_eq_of_lt a,Nat.add_mul_div_left _ _ (by omega),Nat.div_eq_of_lt a,Nat.zero_add,g,ln a,e];rfl
def prodL_app:∀{os:LL} {o:Li},M2 (os++[o])=M2 os * (mo o)
 |[],o=>by simp[M2]
 |a::os,o=>by rw[List.cons_append,M2,prodL_app,M2,Nat.mul_assoc]
/-! ### A policy for all pending states -/
def pcL(S:LL)(l:Li):List f8:=List.zipWith f8.mk S l
def aC3:∀{S:LL} {l:Li},mo l=mo S->(pcL S l).map f8.state=S
 |[],_,_=>by simp[pcL]
 |s::S,[],h=>by simp at h
 |s::S,x::l,h=>by have:=aC3 (S:=S) (l:=l) (by simpa using h);unfold pcL at this ⊢;rw[lV,List.map_cons,this]
def mem_pcL{c:f8}(h:c ∈ pcL a d):∃i:Nat,a[i]? =some c.state/\d[i]? =some c.operator:=by obtain⟨i,f⟩:=lr h;unfold pcL at f;rw[List.getElem?_zipWith] at f;refine⟨i,?_⟩;split at f;rename_i e b g j;cases f;exact⟨g,j⟩;cases f
def pcL_op{t:b9}(d:StS t a):∀c ∈ pcL a b,c.operator=chL a b c.state:=fun c e=>by obtain⟨i,f,g⟩:=mem_pcL e;unfold chL;rw[aq3 d.ord f,ah7 g]
def pcL_ok{t:b9}(g:StS t a)(h:OkL t a b):ak9 t (pcL a b):=by
 have al:∀c ∈ pcL a b,c.state ∈ a/\Alw t a c.state c.operator:=fun c d=>by obtain⟨i,j,n⟩:=mem_pcL d;obtain⟨f,f1,f2⟩:=h.al i _ j;rw[n] at f1;cases f1;exact⟨lq j,f2⟩
 have e:=aC3 h.len;have k:(pcL a b).length=mo a:=by rw[<- e,lH,e]
 have o:=g.n5;exact⟨by omega,by rw[e];exact g.ord,fun c d=>g.set _ (al c d).1,fun c d=>(al c d).2.1,fun c d=>(al c d).2.2.1⟩
def pcL_ch{t:b9}(g:StS t a)(h:OkL t a b)(j:a[n]? =some d):chO (pcL a b) d=oL b n:=by
 have e:chL a b d=oL b n:=by unfold chL;rw[aq3 g.ord j]
 rcases at1 (pcL_op g) d with⟨_,f⟩|⟨_,f⟩;have:d ∈ (pcL a b).map f8.state:=by rw[aC3 h.len];exact lq j
 obtain⟨c,k,e⟩:=lR.1 this;exact absurd e (f c k);rw[f,e]
def rk_fr{p:List f8}:∀(k:Nat) (s:Li),RkP (frT c b) p k s↔RkP c p k s
 |0,_=>lX
 |k+1,s=>or_congr lX (and_congr lX (exists_congr fun y=>and_congr lX (rk_fr k y)))
def pcL_nx(k:j6 c)(j:StS c a)(h:OkL c a b){y:Li}(g:a[n]? =some d):(y ∈ nxS c (pcL a b) d↔y ∈ stL c a b n)/\T9 (pcL a b) d:=by have e:=pcL_ch j h g;have o:=(h.sys k j).res n d g;obtain⟨f,f1,f2⟩:=h.al n d g;refine⟨?_,?_⟩;rw[o.mem];unfold nxS;rw[e,lR];unfold T9;rw[e,ah7 f1];exact f2.1.1
def wy_of_rk(n:j6 c)(e:StS c a)(h:OkL c a b):∀(k i:Nat) (s:Li),a[i]? =some s->RkP c (pcL a b) k s->Wy c a (stL c a b) i
 |0,i,s,f,hk=>absurd hk (e.ng s (lq f))
 |k+1,i,s,f,hk=>by obtain⟨_,y,r,o⟩:=hk.resolve_left (e.ng s (lq f));have p:=(lG.1 f).1;have d:=(pcL_nx n e h f).1.1 r;rcases(h.sys n e).cl i p y d with g|g;exact .exit p d g;obtain⟨j,q⟩:=lr g;exact .step p q d (wy_of_rk n e h k j y q o)
def rk_of_wy(f:j6 c)(g:StS c a)(h:OkL c a b)(j:Wy c a (stL c a b) n):∀s,a[n]? =some s->∃k,RkP c (pcL a b) k s:=by
 induction j with
 |@exit n y _ d o=>
  intro s e
  have:=pcL_nx (y:=y) f g h e
  exact⟨1,.inr ⟨this.2,y,this.1.2 d,o⟩⟩
 |@step n k y _ hk d _ p=>
  intro s e
  have:=pcL_nx (y:=y) f g h e
  obtain⟨m,q⟩:=p y hk
  exact⟨m+1,.inr ⟨this.2,y,this.1.2 d,q⟩⟩
def pcL_keeps(g:j6 c)(f:StS c a)(h:OkL c a b)(i:d ∈ a):ab9 (frT c d) (pcL a b)=some (dec (∀x,Rch (frT c d) (pcL a b) x->∃k,RkP c (pcL a b) k x)):=by have e:=pcL_ok f h;rw[rKeeps_eq (frT_ok g (f.set d i)) ⟨e.len,e.ord,e.set,e.op,e.can⟩];congr 1;exact r9 (forall_congr' fun x=>imp_congr lX (exists_congr fun k=>rk_fr k x))
def pcL_in(e:j6 c)(f:StS c a)(h:OkL c a b)(j:d ∈ a){x:Li}(k:Rch (frT c d) (pcL a b) x):i6 c x\/x ∈ a:=by
 induction k with
 |init=>exact .inr j
 |@step x y _ n _ o p=>
  obtain⟨i,g⟩:=lr (p.resolve_left n)
  exact(h.sys e f).cl i (lG.1 g).1 y ((pcL_nx e f h g).1.1 o)
def pr_iff(f:j6 c)(j:StS c a)(h:OkL c a b):(∀s ∈ a,∀x,Rch (frT c s) (pcL a b) x->∃k,RkP c (pcL a b) k x)↔PrL c a b:=by have d:=h.sys f j;constructor;intro q i e;obtain⟨k,hk⟩:=q _ (lq (P5 e)) (sN a i) .init;exact(wy_of_rk f j h k i _ (P5 e) hk).px d;intro q s n x o;rcases pcL_in f j h n o with g|g;exact⟨0,g⟩;obtain⟨i,e⟩:=lr g;exact rk_of_wy f j h (d.wy (q i (lG.1 e).1)) x e
def exp_pr(n:j6 c)(r:StS c a)(h:OkL c a b)(u:PrL c a b):∃p num den N,Sol c a (oL b) (stL c a b) (wL c a b) p num den/\U4 c a b=some (N,(den:Int))/\(den:Int)<=127401984/\(mo N)=mo a/\∀i:Nat,i<mo a->ix N (i:Int)=some (num i:Int):=by
 have d:=h.sys n r;obtain⟨p,num,den,_,_,g,_⟩:=solved n d u (choose:=fun s=>some (oL b (posS a s))) (fun i s v=>by rw[aq3 r.ord v]);obtain⟨N,n1,w,x⟩:=expected_ok n d (ops:=b) (fun i o=>by obtain⟨f,f1,_⟩:=h.al i _ (P5 o);rw[j7,f1,ah7 f1]);have y:=g.d0;have q:=g.dd;have j:=ab_le (den_small n d);have k:(if det (mo a) (eqN c a (oL b) (stL c a b) (wL c a b))<0 then - det (mo a) (eqN c a (oL b) (stL c a b) (wL c a b)) else det (mo a) (eqN c a (oL b) (stL c a b) (wL c a b)))=(den:Int):=by rw[q];rcases g.s1 with e|e<;>rw[e]<;>split<;>omega
 refine⟨p,num,den,N,g,by rw[w,k],?_,n1,fun i o=> ?_⟩;rw[q] at j;rcases g.s1 with e|e<;>rw[e] at j<;>omega;rw[x i o,g.nn i o,q];rcases g.s1 with e|e<;>rw[e]<;>split<;>congr 1<;>omega
def fin_le(q:j6 c)(u:StS c a){w E:Li}(r:Fin c a f x w E)(h:OkL c a b)(z:PrL c a b){num:Nat->Nat}(A:Sol c a (oL b) (stL c a b) (wL c a b) y num n):
  (∀(i:Nat) s,a[i]? =some s->(n:Int) * f s<=x * (num i:Int))/\(b=w->∀(i:Nat) s,a[i]? =some s->x * (num i:Int)<=(n:Int) * f s):=by
 have s1:=h.sys q u
 have o:=r.vb.d0
 have B:∀i,i<mo a->∃g,b[i]? =some g/\Alw c a (sN a i) g/\Qv (mo a) (WF (stL c a b) (wL c a b)) (wG a (stL c a b) (wL c a b)) (cF c (oL b)) (fun k=>f (sN a k)) x i=QS c f x (sN a i) g/\WF (stL c a b) (wL c a b) i=WS c (sN a i) g:=fun i j=>by obtain⟨g,f1,f2⟩:=h.al i _ (P5 j);refine⟨g,f1,f2,?_,?_⟩;rw[s1.qs (P5 j) (v:=f) fun k _=>rfl,ah7 f1];rw[s1.ws (P5 j),ah7 f1]
 refine⟨fun i s p=> ?_,fun e i s p=> ?_⟩
 ·have key:=val_le (as8 q s1) z A.vf o (num:=fun k=>f (sN a k)) (fun i j=>by obtain⟨g,f1,f2,f3,f4⟩:=B i j;rw[f3,f4,lL];exact r.le q u (lq (P5 j)) f2) i (lG.1 p).1
  rw[sN_eq p] at key
  exact key
 ·have key:=(val_ge (as8 q s1) z A.vf o (num:=fun k=>f (sN a k)) (fun i j=>by obtain⟨g,f1,f2,f3,f4⟩:=B i j;rw[f3,f4];obtain⟨G,D,_,F⟩:=r.bst i _ (P5 j);rw[<- e,f1] at D;cases D;rw[F,lL];exact ml _) i (lG.1 p).1).1
  rw[sN_eq p] at key
  exact key
def LeF(S:LL)(v:Li->Int)(den:Int)(num dn:Li):Prop:=
 ∀(i:Nat) s,S[i]? =some s->∃a d:Nat,num[i]? =some (a:Int)/\dn[i]? =some (d:Int)/\0<d/\(d:Int)<=127401984/\(a:Int)<=63700992000/\(d:Int) * v s=den * (a:Int)
def frN_of(b:0<k)(f:0<y)(g:0<=x)(h:(k:Int) * x=y * (n:Int)):frN n k=frN x.toNat y.toNat:=frN_eq b (by omega) (by
 have c:(x.toNat:Int)=x:=by omega
 have e:(y.toNat:Int)=y:=by omega
 have:((n * y.toNat:Nat):Int)=((x.toNat * k:Nat):Int):=by rw[ly,ly,c,e,lL,<- h,lL]
 omega)
def chkN_pos(h:0<n):chkN (n:Int)=some ():=by unfold chkN;rw[if_neg (by omega)]
def attains_eq{num dn:Li}(ht:j6 c)(hS:StS c a)(K:0<x)(N:x<=254803968)(hv:∀s ∈ a,0<=f s/\f s<=63700992000)(hL:LeF a f x num dn){s:Li}(hs:a[k]? =some s){op:Int}(hA:Alw c a s op):
  T5 c a num dn (k:Int) op=some (dec (QS c f x s op=f s * WS c s op)):=by
 have D:=hA.1
 have F:=hS.set s (lq hs)
 have r:=at0 ht D F
 have O:=ws_pos ht D r
 generalize P:(rsO c s op).1=st at r
 generalize hw:(rsO c s op).2=w at r
 have eW:WS c s op=smN (mo st) (wtj w):=by unfold WS;rw[P,hw]
 have eC:CS c f s op=smN (mo st) fun j=>wtj w j * vG c f ((st[j]?).getD []):=by unfold CS;rw[P,hw]
 have Q:=ht.at D.1 D.2
 have U:=Q.c0;have ao:=Q.c1
 have a9:=r.s4
 have G:∀y,y ∈ st->i6 c y\/y ∈ a:=fun y hy=>hA.2.2 y (by rw[sc,lR];exact(r.mem y).1 hy)
 have av:∀y ∈ st,0<=vG c f y/\vG c f y<=63700992000:=fun y hy=>by unfold vG;by_cases g:i6 c y;rw[ifP g];omega;rw[ifN g];exact hv _ ((G y hy).resolve_left g)
 have hq:∀l,l<mo st->0<=wtj w l * vG c f ((st[l]?).getD [])/\wtj w l * vG c f ((st[l]?).getD [])<=wtj w l * 63700992000:=fun l hk=>by have e:st[l]? =some st[l]:=ln (by omega);have:=av _ (lv hk);rw[e];exact⟨lE (r.nn l) this.1,lD this.2 (r.nn l)⟩
 have d1:0<=WS c s op * (ooAt c op).cost:=lE (by omega) U
 have d2:WS c s op * (ooAt c op).cost<=2400:=by have:=lF O.2 ao U (by omega:(0:Int)<=24);omega
 have d3:0<=WS c s op * (ooAt c op).cost * x:=lE d1 (by omega)
 have d4:WS c s op * (ooAt c op).cost * x<=2400 * 254803968:=lF d2 N (by omega) (by omega)
 have ay:0<WS c s op * x:=Int.mul_pos (by omega) K
 have be:WS c s op * x<=24 * 254803968:=lF O.2 N (by omega) (by omega)
 have hP:∀J,J<=mo st->0<=smN J (fun j=>wtj w j * vG c f ((st[j]?).getD []))/\smN J (fun j=>wtj w j * vG c f ((st[j]?).getD []))<=24 * 63700992000:=fun J A=>by have b2:0<=smN J fun j=>wtj w j * vG c f ((st[j]?).getD []):=M8 fun l hk=>(hq l (by omega)).1;have b3:=smN_bound (m:=J) fun l hk=>(hq l (by omega)).2;have a2:=L4 (f:=wtj w) r.nn A;have a3:=r.sum;omega
 generalize a0:(WS c s op * x).toNat=E
 have L:(E:Int)=WS c s op * x:=by omega
 generalize V:WS c s op * (ooAt c op).cost * x=z at d3 d4
 unfold T5
 rw[j7,hs,lK,an9 ht D.1 D.2 F,r.eq]
 simp only[oB,ix_oo D.1 D.2]
 obtain⟨al,a1,a2⟩:=m5 (body:=af5 (st,w)) (n:=(mo w:Int)) (s:=(0:Int)) (fun j q=>q=smN j.toNat (wtj w)) (by omega) rfl (fun j q j0 j1 t=>by
  obtain⟨J,rfl⟩:=lp j0;have A:J<mo w:=by omega
  rw[lu] at t;have v:smN (J+1) (wtj w)=smN J (wtj w)+wtj w J:=rfl;have e2:=L4 (f:=wtj w) r.nn (show J+1<=mo st by rw[<- r.len];omega);have e3:0<=smN J (wtj w):=M8 fun j _=>r.nn j;have e4:=r.sum;have e5:=r.nn J;unfold af5;dsimp only;rw[Q6 A];refine⟨_,rfl,?_⟩;rw[show((J:Int)+1).toNat=J+1 by omega,t,k9 (by omega) (by omega),v])
 rw[lu,r.len,<- eW] at a2
 subst a2
 rw[a1,lK]
 obtain⟨⟨c9,bi⟩,x1,n1,u,x2,x3⟩:=m5 (body:=af4 c a num dn (st,w) (WS c s op)) (n:=(mo st:Int)) (s:=((ooAt c op).cost,(1:Int)))
  (fun j q=>∃n1 u:Nat,q=((n1:Int),(u:Int))/\frN (smN j.toNat (fun j=>wtj w j * vG c f ((st[j]?).getD []))+z).toNat E=⟨(n1:Int),(u:Int)⟩) (by omega)
  ⟨(ooAt c op).cost.toNat,1,by rw[show((ooAt c op).cost.toNat:Int)=(ooAt c op).cost by omega];rfl,by
   have:frN (ooAt c op).cost.toNat 1=frN z.toNat (WS c s op * x).toNat:=frN_of (by omega) ay d3 (by rw[<- V,show((ooAt c op).cost.toNat:Int)=(ooAt c op).cost by omega];grind);rw[a0] at this;rw[show(smN (0:Int).toNat fun j=>wtj w j * vG c f ((st[j]?).getD []))=0 from rfl,Int.zero_add,<- this];unfold frN;rw[Nat.gcd_one_right,Nat.div_one,Nat.div_one]⟩ (fun j q j0 j1 hj=>by
   obtain⟨n1,u,rfl,h2⟩:=hj;obtain⟨J,rfl⟩:=lp j0;have A:J<mo st:=by omega
   rw[lu] at h2;have i:st[J]? =some st[J]:=ln A;have hx:ix st (J:Int)=some st[J]:=by rw[j7];exact i
   have a4:=Q6 (w:=w) (i:=J) (by rw[r.len];exact A);have p1:=hP J (by omega);have p2:=hP (J+1) (by omega);have b1:smN (J+1) (fun j=>wtj w j * vG c f ((st[j]?).getD []))=smN J (fun j=>wtj w j * vG c f ((st[j]?).getD []))+wtj w J * vG c f st[J]:=by show _+wtj w J * vG c f ((st[J]?).getD [])=_;rw[i];rfl
   rw[show((J:Int)+1).toNat=J+1 by omega];unfold af4;simp only[hx,oB,ab2];by_cases g:i6 c st[J];rw[ifP g];refine⟨_,rfl,n1,u,rfl,?_⟩;rw[b1,vG,ifP g,Int.mul_zero,Int.add_zero];exact h2;rw[ifN g];have aa:=(G _ (lv A)).resolve_left g;obtain⟨m,hm⟩:=lr aa;obtain⟨p,d,l1,l2,l3,l4,l5,l6⟩:=hL m _ hm;have a5:=hv _ aa;rw[as5 hS.ord (show ix a (m:Int)=some st[J] by rw[j7,hm])];have w1:=r.pos J A;have w2:=wtj_le r.nn A;have w3:=r.sum;have v:vG c f st[J]=f st[J]:=by unfold vG;rw[ifN g]
   rw[v] at b1;simp only[oB,j7,l1,l2];rw[ah3 (by omega) (by omega) l3,frN_of l3 K a5.1 l6];obtain⟨gg,n,d',f1,f2,f3,f4,f5⟩:=ar2 (a:=(f st[J]).toNat) (b:=x.toNat) (by omega);rw[f1];have a6:w[J]? =some (wtj w J):=by rw[<- j7];exact a4
   have hn:n<=(f st[J]).toNat:=by rw[f2];exact lW _ f5
   have bj:d'<=x.toNat:=by rw[f3];exact lW _ f5
   obtain⟨M,H⟩:=lp (show 0<=wtj w J by omega);obtain⟨kn,ac⟩:=lp (show 0<=WS c s op by omega);simp only[oB,a6,H];have k1:n * M<=63700992000 * 24:=lY (by omega) (by omega);have k2:d' * kn<=254803968 * 24:=lY (by omega) (by omega);have k3:0<d' * kn:=Nat.mul_pos f4 (by omega);rw[ac,<- ly,<- ly,w64n (by omega),w64n (by omega),ah3 (by omega) (by omega) k3];have kE:E=kn * x.toNat:=by
    have:(E:Int)=((kn * x.toNat:Nat):Int):=by rw[ly,L,ac,show(x.toNat:Int)=x by omega]
    omega
   have kZ:frN (n * M) (d' * kn)=frN ((f st[J]).toNat * M) E:=frN_eq k3 (by omega) (by rw[kE,f2,f3];grind);rw[kZ];obtain⟨g2,n2,B,r1,_⟩:=ar2 (a:=(f st[J]).toNat * M) (b:=E) (by omega);rw[r1];obtain⟨u1,u2,q1,q2,q3,q4,q5,q6,q7,q8,q9,bk,a7⟩:=frN_add (by omega) h2 r1;have kv:(f st[J]).toNat * M<=63700992000 * 24:=lY (by omega) (by omega);have ad:(smN J (fun j=>wtj w j * vG c f ((st[j]?).getD []))+z).toNat+(f st[J]).toNat * M=(smN (J+1) (fun j=>wtj w j * vG c f ((st[j]?).getD []))+z).toNat:=by
    have:(((f st[J]).toNat * M:Nat):Int)=wtj w J * f st[J]:=by rw[ly,<- H,show((f st[J]).toNat:Int)=f st[J] by omega,lL]
    omega
   have gq:=binary_eq (a:=u) (b:=B) (by omega) (by omega) q4;have t1:((B:Nat):Int).tdiv ((lA u B:Nat):Int)=((B / lA u B:Nat):Int):=(lZ _ _).symm;have t2:((u:Nat):Int).tdiv ((lA u B:Nat):Int)=((u / lA u B:Nat):Int):=(lZ _ _).symm;have v1:u1<=u:=by rw[<- q1];exact lT _ _
   have v2:u2<=B:=by rw[<- q2];exact lT _ _
   simp only[oB,gq,chkN_pos q7,t1,t2,q1,q2];rw[w64n (n:=u2) (by omega),w64n (n:=u1) (by omega),<- ly,<- ly,<- ly,w64n (n:=n1 * u2) (by omega),w64n (n:=n2 * u1) (by omega),w64n (n:=u1 * B) (by omega),<- Int.natCast_add,w64n (n:=n1 * u2+n2 * u1) (by omega),ah3 (by omega) (by omega) q8,a7,ad];obtain⟨g3,n3,m3,z1,_⟩:=ar2 (a:=(smN (J+1) (fun j=>wtj w j * vG c f ((st[j]?).getD []))+z).toNat) (b:=E) (by omega);rw[z1];exact⟨_,rfl,n3,m3,rfl,rfl⟩)
 rw[lu,<- eC] at x3
 rw[x1]
 cases x2
 obtain⟨p,d,l1,l2,l3,l4,l5,l6⟩:=hL k s hs
 have a8:=hv s (lq hs)
 have pn:=hP (mo st) (lO _)
 rw[<- eC] at pn
 simp only[oB,j7,l1,l2]
 rw[ah3 (by omega) (by omega) l3,frN_of l3 K a8.1 l6]
 simp only[oB]
 congr 1
 have eQ:QS c f x s op=CS c f s op+z:=by unfold QS;rw[V]
 rw[<- Bool.decide_and]
 refine(G3).trans (r9 ?_)
 have key:((n1:Int)=(frN (f s).toNat x.toNat).num/\(u:Int)=(frN (f s).toNat x.toNat).den)↔frN (CS c f s op+z).toNat E=frN (f s).toNat x.toNat:=by rw[x3];constructor;rintro ⟨v,e2⟩;rw[v,e2];intro e;rw[<- e];exact⟨rfl,rfl⟩
 rw[key,eQ]
 have c1:(((CS c f s op+z).toNat:Nat):Int)=CS c f s op+z:=by omega
 have c2:(((f s).toNat:Nat):Int)=f s:=by omega
 have c3:((x.toNat:Nat):Int)=x:=by omega
 constructor
 ·intro e
  have:=frN_inj (by omega) (by omega) e
  have h:(CS c f s op+z) * x=f s * (WS c s op * x):=by rw[<- c1,<- L,<- c2];rw (occs:=.pos [1]) [<- c3];exact_mod_cast this
  rw[<- Int.mul_assoc] at h
  exact Int.eq_of_mul_eq_mul_right (by omega) h
 ·intro e
  refine frN_eq (by omega) (by omega) ?_
  have h:(CS c f s op+z) * x=f s * (WS c s op * x):=by rw[e,Int.mul_assoc]
  rw[<- c1,<- L,<- c2] at h
  rw (occs:=.pos [1]) [<- c3] at h
  exact_mod_cast h
def BsI(S:LL)(v:Li->Int)(den:Int)(h:Prop)(j:Nat->Prop)(num dn:Li):Prop:=
 (mo num)=mo S/\(mo dn)=mo S/\∀(i:Nat) s,S[i]? =some s->j i->∃a d:Nat,num[i]? =some (a:Int)/\dn[i]? =some (d:Int)/\(d:Int)<=127401984/\(a:Int)<=63700992000/\
  ((d=0/\¬ h)\/(0<d/\(d:Int) * v s<=den * (a:Int)/\(h->den * (a:Int)<=(d:Int) * v s)))
def BsI.mono{dn:Li}{h c:Prop}{j d:Nat->Prop}(q:BsI a f x h j b dn)(e:h↔c)(g:∀i,d i->j i):BsI a f x c d b dn:=by rw[<- propext e];exact⟨q.1,q.2.1,fun i s k l=>q.2.2 i s k (g i l)⟩
def int_cancel(a:0<n)(h:x * n<=y * n):x<=y:=Int.le_of_mul_le_mul_right h (by omega)
def min_step{num dn:Li}{h h':Prop}(ad:mo a<=5)(P:BsI a f y h (fun _=>True) num dn)(al:0<y){N:Li}{o:Nat->Nat}(hN:∀i:Nat,i<mo a->ix N (i:Int)=some (o i:Int))(b0:0<k)(b1:(k:Int)<=127401984)(Q:∀i,i<mo a->(o i:Int)<=63700992000)(h1:∀(i:Nat) s,a[i]? =some s->(k:Int) * f s<=y * (o i:Int))(h2:h'->∀(i:Nat) s,a[i]? =some s->y * (o i:Int)<=(k:Int) * f s):
  ∃p u,forR 0 (mo a:Int) (S6 (N,(k:Int))) (num,dn)=some (p,u)/\BsI a f y (h\/h') (fun _=>True) p u:=by
 obtain⟨⟨p,u⟩,k1,U,k3⟩:=m5 (body:=S6 (N,(k:Int))) (n:=(mo a:Int)) (s:=(num,dn))
  (fun j q=>BsI a f y (h\/h') (fun i=>(i:Int)<j) q.1 q.2/\BsI a f y h (fun i=>j<=(i:Int)) q.1 q.2) (by omega)
  ⟨⟨P.1,P.2.1,fun i s _ L=>by omega⟩,P.mono lX fun _ _=>trivial⟩ (fun j q j0 j1 ⟨p1,p2⟩=>by
   obtain⟨w,z⟩:=q;obtain⟨J,rfl⟩:=lp j0;have V:J<mo a:=by omega
   obtain⟨E,F,A⟩:=p2;obtain⟨_,_,G⟩:=p1;dsimp only at E F G A;have r:a[J]? =some a[J]:=ln V;obtain⟨g,d,e1,e2,e3,e4,e5⟩:=A J _ r (ml _);have H:=Q J V;have m1:=h1 J _ r;have keep:∀{x l:Int},BsI a f y h (fun i=>(J:Int)+1<=(i:Int)) (w.set J x) (z.set J l):=fun {x l}=>⟨by rw[lS];exact E,by rw[lS];exact F,fun i s t L=>by rw[ls (by omega),ls (by omega)];exact A i s t (by omega)⟩;have lift:∀{c M:Li},mo c=mo a->mo M=mo a->(∀i:Nat,i ≠ J->c[i]? =w[i]? /\M[i]? =z[i]?)->(∃g d:Nat,c[J]? =some (g:Int)/\M[J]? =some (d:Int)/\(d:Int)<=127401984/\(g:Int)<=63700992000/\((d=0/\¬ (h\/h'))\/(0<d/\(d:Int) * f a[J]<=y * (g:Int)/\(h\/h'->y * (g:Int)<=(d:Int) * f a[J]))))->BsI a f y (h\/h') (fun i=>(i:Int)<(J:Int)+1) c M:=fun l1 l2 K X=>⟨l1,l2,fun i s t L=>by by_cases e:i=J;subst e;rw[r] at t;cases t;exact X;rw[(K i e).1,(K i e).2];exact G i s t (by omega)⟩;have ac:(∀x,h->d=0\/x)->True:=fun _=>trivial;have new:(d=0\/(o J:Int) * d<g * k)->BsI a f y (h\/h') (fun i=>(i:Int)<(J:Int)+1) (w.set J (o J:Int)) (z.set J (k:Int)):=fun D=>by
    refine lift (by rw[lS];exact E) (by rw[lS];exact F) (fun i L=>⟨ls (by omega),ls (by omega)⟩) ⟨o J,k,by rw[lw (by omega)],by rw[lw (by omega)],b1,H,.inr ⟨b0,m1,?_⟩⟩;rintro (B|B);rcases e5 with⟨_,hn⟩|⟨d0,_,v⟩;exact absurd B hn;have b:=D.resolve_left (by omega);refine int_cancel d0 ?_;have q1:=v B;have q2:y * ((o J:Int) * d)<=y * ((g:Int) * k):=lD (Int.le_of_lt b) (by omega);have q3:(y * (g:Int)) * k<=((d:Int) * f a[J]) * k:=lN q1 (by omega);have r1:y * (o J:Int) * d=y * ((o J:Int) * d):=by grind
    have r2:y * ((g:Int) * k)=(y * (g:Int)) * k:=by grind
    have r3:((d:Int) * f a[J]) * k=(k:Int) * f a[J] * d:=by grind
    omega;exact h2 B J _ r
   have old:d ≠ 0->¬ (o J:Int) * d<g * k->BsI a f y (h\/h') (fun i=>(i:Int)<(J:Int)+1) w z:=fun O D=>by
    rcases e5 with⟨e,_⟩|⟨d0,e6,e7⟩;exact absurd e O;refine lift E F (fun i _=>⟨rfl,rfl⟩) ⟨g,d,e1,e2,e3,e4,.inr ⟨d0,e6,?_⟩⟩;rintro (B|B);exact e7 B;refine int_cancel b0 ?_;have q1:=h2 B J _ r;have q2:y * ((g:Int) * k)<=y * ((o J:Int) * d):=lD (by omega) (by omega);have q3:(y * (o J:Int)) * d<=((k:Int) * f a[J]) * d:=lN q1 (by omega);have r1:y * (g:Int) * k=y * ((g:Int) * k):=by grind
    have r2:y * ((o J:Int) * d)=(y * (o J:Int)) * d:=by grind
    have r3:((k:Int) * f a[J]) * d=(d:Int) * f a[J] * k:=by grind
    omega
   unfold S6;simp only[j7,e1,e2,oB,show N[J]? =some (o J:Int) by rw[<- j7];exact hN J V,lu];by_cases O:d=0;rw[if_pos (by omega)];simp only[oB,if_true];exact⟨_,rfl,new (.inl O),keep⟩;rw[if_neg (by omega)];have c0:(0:Int)<=(o J:Int) * d:=lE (by omega) (by omega);have c1:(o J:Int) * d<=63700992000 * 127401984:=lF H e3 (by omega) (by omega);have c2:(0:Int)<=(g:Int) * k:=lE (by omega) (by omega);have c3:(g:Int) * k<=63700992000 * 127401984:=lF e4 b1 (by omega) (by omega);rw[k9 (by omega) (by omega),k9 (by omega) (by omega)];simp only[oB];by_cases D:(o J:Int) * d<g * k;rw[if_pos (decide_eq_true D)];exact⟨_,rfl,new (.inr D),keep⟩;rw[if_neg (by simpa using D)];exact⟨_,rfl,old O D,⟨E,F,fun i s t L=>A i s t (by omega)⟩⟩)
 exact⟨p,u,k1,U.1,U.2.1,fun i s t _=>U.2.2 i s t (by have:=(lG.1 t).1;dsimp only;omega)⟩
noncomputable abbrev osL(t:b9)(all:LL)(f:Li->Int)(S:LL):LL:=S.map (optS t all f)
def optS_len{all:LL}{f:Li->Int}(a:j6 c){s:Li}:(optS c all f s).length<=40:=by have:=(aC5 (Alw c (cerS c all f) s) (mo c.operators)).len;have:=a.ops;unfold optS;omega
def cer_app:cerS c (a++[b]) f=cerS c a f++if dec (0<=f b/\¬ i6 c b)=true then [b] else []:=by unfold cerS pnd;rw[mf,mf];congr 1;by_cases e:0<=f b;by_cases d:i6 c b;rw[ifN (fun q=>q.2 d)];simp[d];rw[ifP ⟨e,d⟩];simp[d];omega;rw[ifN (fun q=>e q.1)];simp;omega
def comb_eq{t:b9}(p:j6 t)(i:ClO t a)(r:E1 t a f):C7 t a=some 1000\/C7 t a=some (M2 (osL t a f (cerS t a f)):Int):=by
 have x:=i.len;obtain⟨v,D,E⟩:=az5 p i r;obtain⟨m,F,y⟩:=marks_eq i r E;unfold C7;rw[D,lK,F,lK];rcases ab5 (body:=P9 t a m) (n:=(mo a:Int)) (s:=(1:Int)) (fun j n=>n=(M2 (osL t a f (cerS t (a.take j.toNat) f)):Int)/\n<=1000) (fun o=>o=1000) (by omega) ⟨rfl,by decide⟩ (fun j n G N ⟨g,H⟩=>by
  obtain⟨J,rfl⟩:=lp G;have A:J<mo a:=by omega
  rw[lu] at g;have h:a[J]? =some a[J]:=ln A;have B:ix a (J:Int)=some a[J]:=by rw[j7];exact h
  have K:=y.get B;have u:a.take (J+1)=a.take J++[a[J]]:=by rw[List.take_add_one,h];rfl
  have L:=optS_len (all:=a) (f:=f) p (s:=a[J]);rw[show((J:Int)+1).toNat=J+1 by omega,u,cer_app];unfold P9;rw[K];unfold bfl;simp only[oB,B,ab2,x8];have b:∀d:Int,d=(M2 (osL t a f (cerS t (a.take J) f++if dec (0<=f a[J]/\¬ i6 t a[J])=true then [a[J]] else [])):Int)->(∃w,(if 1000<d then some (.inr 1000) else some (.inl d):Option (Int⊕Int))=some (.inl w)/\w=(M2 (osL t a f (cerS t (a.take J) f++if dec (0<=f a[J]/\¬ i6 t a[J])=true then [a[J]] else [])):Int)/\w<=1000)\/∃o,(if 1000<d then some (.inr 1000) else some (.inl d):Option (Int⊕Int))=some (.inr o)/\o=1000:=fun d e=>by by_cases c:1000<d;rw[if_pos c];exact .inr ⟨_,rfl,rfl⟩;rw[if_neg c];exact .inl ⟨_,rfl,e,by omega⟩
  by_cases k:0<=f a[J];rw[ifP (show Cer f a[J] from k)];simp only[oB];by_cases l:i6 t a[J];rw[ifNN l];simp only[oB];refine b n ?_;rw[ifN (fun q=>q.2 l),lU];exact g;rw[ifP l,aB3 p i r y (lv A)];have O:(0:Int)<=n * ((optS t a f a[J]).length:Int):=lE (by omega) (by omega);have P:n * ((optS t a f a[J]).length:Int)<=1000 * 40:=lF H (by omega) (by omega) (by omega);simp only[oB];rw[k9 (by omega) (by omega)];refine b _ ?_;rw[ifP ⟨k,l⟩];unfold osL at g ⊢;rw[List.map_append,List.map_singleton,prodL_app,ly,<- g];rw[ifN (show ¬ Cer f a[J] from k)];simp only[oB,mg,if_false];refine b n ?_;rw[ifN (fun q=>k q.1),lU];exact g) with⟨n,n1,M,_⟩|⟨o,n1,rfl⟩
 right;rw[n1,M,lu,List.take_length];rfl;left;rw[n1];rfl
def dig_loop{S:LL}(H:j6 c)(N:ClO c a)(O:E1 c a f)(P:Rep a g (bfl (Cer f)))(Q:mo S<=5)(i:∀s ∈ S,s ∈ a)(B:∀o ∈ osL c a f S,o ≠ []){k:Nat}(hk:k<=100000):
  ∃r,forR 0 (mo S:Int) (S3 c a g S) ([],[],(k:Int))=some (digs (osL c a f S) k,pcL S (digs (osL c a f S) k),r):=by
 obtain⟨⟨ops,z,r⟩,U,R,k2,_,V,A,D⟩:=m5 (body:=S3 c a g S) (n:=(mo S:Int)) (s:=(([]:Li),([]:List f8),(k:Int)))
  (fun j q=>∃r:Nat,q.2.2=(r:Int)/\r<=k/\(q.1.length:Int)=j/\q.1++digs ((osL c a f S).drop j.toNat) r=digs (osL c a f S) k/\(q.2.1.length:Int)=j/\q.2.1++pcL (S.drop j.toNat) (digs ((osL c a f S).drop j.toNat) r)=pcL S (digs (osL c a f S) k)) (by omega)
  ⟨k,rfl,lO _,rfl,rfl,rfl,rfl⟩ (fun j q X j1 t=>by
   obtain⟨ops,z,r⟩:=q;obtain⟨R,L,p1,p2,l,p4,b⟩:=t;dsimp only at L p2 l p4 b;subst L;obtain⟨J,rfl⟩:=lp X;have p:J<mo S:=by omega
   rw[lu] at l b;have aa:=optS_len (all:=a) (f:=f) H (s:=S[J]);have E:=i _ (lv p);have hd:(osL c a f S).drop J=optS c a f S[J]::(osL c a f S).drop (J+1):=by rw[lP (by unfold osL;rw[lH];exact p)];congr 1;unfold osL;rw[List.getElem_map]
   have F:S.drop J=S[J]::S.drop (J+1):=lP p;have d:0<(optS c a f S[J]).length:=md.2 (B _ (List.mem_map_of_mem (lv p)));have G:=Nat.mod_lt R d;rw[hd,digs] at l b;rw[F] at b;unfold pcL at b;rw[lV] at b;have hx:ix S (J:Int)=some S[J]:=by rw[j7,ln p]
   have u:((R:Int)).tmod ((optS c a f S[J]).length:Int)=((R % (optS c a f S[J]).length:Nat):Int):=(Int.ofNat_tmod _ _).symm;have v:((R:Int)).tdiv ((optS c a f S[J]).length:Int)=((R / (optS c a f S[J]).length:Nat):Int):=(lZ _ _).symm;have h:ix (optS c a f S[J]) ((R % (optS c a f S[J]).length:Nat):Int)=some (((optS c a f S[J])[R % (optS c a f S[J]).length]?).getD 0):=by rw[j7,ln G];rfl
   generalize ((optS c a f S[J])[R % (optS c a f S[J]).length]?).getD 0=x at l b h;have ac:=lT R (optS c a f S[J]).length;have ha:app 8 ops [x]=some (ops++[x]):=by unfold app;rw[if_pos (by simp;omega)]
   have hb:app 32 z [(⟨S[J],x⟩:f8)]=some (z++[⟨S[J],x⟩]):=by unfold app;rw[if_pos (by simp;omega)]
   unfold S3;dsimp only;simp only[hx,oB,aB3 H N O P E,chkN_pos d,u,h,ha,hb,v];rw[w64n (by omega)];refine⟨_,rfl,R / (optS c a f S[J]).length,rfl,by omega,by dsimp only;rw[mh,ma];omega,?_,by dsimp only;rw[mh,ma];omega,?_⟩;dsimp only;rw[show((J:Int)+1).toNat=J+1 by omega,mj];exact l;dsimp only;rw[show((J:Int)+1).toNat=J+1 by omega,mj];unfold pcL;exact b)
 refine⟨r,?_⟩
 dsimp only at V A D
 rw[lu] at A D
 have e:(osL c a f S).drop (mo S)=[]:=List.drop_eq_nil_of_le (by unfold osL;rw[lH];exact lO _)
 rw[e] at A
 obtain⟨k6,M⟩:=D
 rw[List.drop_length] at M
 have w:ops++[]=digs (osL c a f S) k:=A
 have y:z++[]=pcL S (digs (osL c a f S) k):=by rw[<- M];unfold pcL;rw[List.zipWith_nil_left]
 rw[lU] at w y
 rw[U,w,y]
def prop_loop{t:b9}(p:j6 t)(r:StS t a)(h:OkL t a d):forR 0 (mo a:Int) (T3 t a (pcL a d)) true=some (dec (PrL t a d)):=by
 obtain⟨b,w,y⟩:=m5 (body:=T3 t a (pcL a d)) (n:=(mo a:Int)) (s:=true)
  (fun j b=>b=dec (∀(i:Nat) s,(i:Int)<j->a[i]? =some s->∀x,Rch (frT t s) (pcL a d) x->∃k,RkP t (pcL a d) k x)) (by omega) (l8 fun i s o=>by omega).symm (fun j b z B e=>by
   obtain⟨J,rfl⟩:=lp z;have v:J<mo a:=by omega
   have g:a[J]? =some a[J]:=ln v;have A:ix a (J:Int)=some a[J]:=by rw[j7,g]
   have hk:ab9 (⟨t.facts,a[J],t.goal,t.operators⟩:b9) (pcL a d)=some (dec (∀x,Rch (frT t a[J]) (pcL a d) x->∃k,RkP t (pcL a d) k x)):=pcL_keeps p r h (lv v);subst e;unfold T3;simp only[A,oB];by_cases c:∀(i:Nat) s,(i:Int)<(J:Int)->a[i]? =some s->∀x,Rch (frT t s) (pcL a d) x->∃k,RkP t (pcL a d) k x;rw[ifP c,hk];simp only[oB];refine⟨_,rfl,r9 ⟨fun q i s o f=> ?_,fun q=>q J _ (by omega) g⟩⟩;by_cases e:i=J;subst e;rw[g] at f;cases f;exact q;exact c i s (by omega) f;rw[ifN c];exact⟨_,rfl,(o8 fun q=>c fun i s o f=>q i s (by omega) f).symm⟩)
 rw[w,y];congr 1;refine r9 (Iff.trans ⟨fun q s f=> ?_,fun q i s _ f=>q s (lq f)⟩ (pr_iff p r h));obtain⟨i,o⟩:=lr f;exact q i s (by have:=(lG.1 o).1;omega) o
def all_loop{t:b9}{S:LL}(J:j6 t)(hc:ClO t a)(hf:E1 t a f)(hm:Rep a g (bfl (Cer f)))(L:StS t S)(eS:S=cerS t a f){N0:Li}(B:Fin t S i y b N0)(z:C7 t a=some (M2 (osL t a f S):Int))(ad:M2 (osL t a f S)<=100000):
  ∃num dn,Loop (R4 t a g S) (lx (mo S) 0,lx (mo S) 0,0)=some (num,dn)/\(mo num)=mo S/\(mo dn)=mo S/\LeF S i y num dn:=by
 have D:=L.n5
 have P:=B.vb.d0
 have E:∀s ∈ S,s ∈ a:=fun s u=>by rw[eS] at u;exact(L6.1 u).1.1
 have w:∀s op,op ∈ optS t a f s↔Alw t S s op:=fun s op=>by rw[eS];exact mem_optS
 have F:∀o ∈ osL t a f S,o ≠ []:=fun o G e=>by obtain⟨s,u,rfl⟩:=lR.1 G;obtain⟨op,Q⟩:=B.ok.has s u;have:=(w s op).2 Q;rw[e] at this;cases this
 have H:∀{j:Nat} {s:Li},S[j]? =some s->(osL t a f S)[j]? =some (optS t a f s):=fun u=>by unfold osL;rw[lM,u];rfl
 have A:∀k,OkL t S (digs (osL t a f S) k):=fun k=>⟨by rw[digs_len];unfold osL;rw[lH],fun j s u=>by obtain⟨x,x1,x2⟩:=digs_get (k:=k) F (H u);exact⟨x,x1,(w s x).1 x2⟩⟩
 obtain⟨kb,an,U⟩:=digs_ex (os:=osL t a f S) (l:=b) (by rw[B.ok.len];unfold osL;rw[lH]) fun j o G=>by unfold osL at G;rw[lM,oM] at G;obtain⟨s,u,rfl⟩:=G;obtain⟨n,g1,g2⟩:=B.ok.al j s u;exact⟨n,g1,(w s n).2 g2⟩
 obtain⟨⟨num,dn⟩,k1,k2⟩:=x9 (body:=R4 t a g S) (fun q=>∃K:Nat,q.2.2=(K:Int)/\K<=M2 (osL t a f S)/\BsI S i y (∃k,k<K/\digs (osL t a f S) k=b) (fun _=>True) q.1 q.2.1)
  (fun o=>BsI S i y True (fun _=>True) o.1 o.2) (fun q=>M2 (osL t a f S) - q.2.2.toNat) (s:=(lx (mo S) 0,lx (mo S) 0,0))
  ⟨0,rfl,mm _,by rw[lB],by rw[lB],fun j s u _=>by
   have M:=(lG.1 u).1;exact⟨0,0,by rw[lJ,if_pos M];rfl,by rw[lJ,if_pos M];rfl,by decide,by decide,.inl ⟨rfl,fun⟨k,hk,_⟩=>by omega⟩⟩⟩ (fun q hq=>by
   obtain⟨ao,av,kv⟩:=q;obtain⟨K,p1,p2,O⟩:=hq;dsimp only at p1 O;subst p1;unfold R4;dsimp only;rw[z];simp only[oB];by_cases c:K<M2 (osL t a f S);rw[if_pos (by omega)];obtain⟨r,d1⟩:=dig_loop J hc hf hm D E F (k:=K) (by omega);rw[d1];simp only[oB];rw[prop_loop J L (A K)];simp only[oB,x8];have nx:w64 ((K:Int)+1)=((K+1:Nat):Int):=by rw[k9 (by omega) (by omega)];rfl
   by_cases pr:PrL t S (digs (osL t a f S) K);rw[ifNN pr];obtain⟨sg,nm,d,N,V,n1,n2,n3,n4⟩:=exp_pr J L (A K) pr;obtain⟨f1,f2⟩:=fin_le J L B (A K) pr V;rw[n1];simp only[oB];obtain⟨ac,ay,q1,q2⟩:=min_step (h':=digs (osL t a f S) K=b) D O P (N:=N) n4 V.d0 n2 (fun j M=>by have:=V.n1 j M;omega) f1 f2;rw[q1];simp only[oB,nx];refine .inl ⟨_,rfl,⟨K+1,rfl,c,q2.mono ⟨?_,?_⟩ fun _ _=>Y⟩,?_⟩;rintro (⟨k,hk,e⟩|e);exact⟨k,by omega,e⟩;exact⟨K,by omega,e⟩;rintro ⟨k,hk,e⟩;by_cases X:k=K;subst X;exact .inr e;exact .inl ⟨k,by omega,e⟩;dsimp only;omega;rw[ifP pr];simp only[oB,nx];refine .inl ⟨_,rfl,⟨K+1,rfl,c,O.mono ⟨?_,?_⟩ fun _ _=>Y⟩,?_⟩;rintro ⟨k,hk,e⟩;exact⟨k,by omega,e⟩;rintro ⟨k,hk,e⟩;by_cases X:k=K;subst X;rw[e] at pr;exact absurd B.pr pr;exact⟨k,by omega,e⟩;dsimp only;omega;rw[if_neg (by omega)];exact .inr ⟨_,rfl,O.mono ⟨fun _=>Y,fun _=>⟨kb,by omega,U⟩⟩ fun _ h=>h⟩)
 obtain⟨k3,k4,k5⟩:=k2
 refine⟨num,dn,k1,k3,k4,fun j s u=> ?_⟩
 obtain⟨p,d,a1,a2,a3,a4,v⟩:=k5 j s u trivial
 rcases v with⟨_,hn⟩|⟨d0,v,a6⟩
 ·exact absurd Y hn
 ·exact⟨p,d,a1,a2,d0,a3,a4,Int.le_antisymm v (a6 Y)⟩
def M4:J4=some true:=by kernel_rfl
def frac_fit:aa6 (⟨(frN n k).num,(frN n k).den⟩:s8)=some (dec (¬ ((frN n k).num<=1000000000/\(frN n k).den<=1000000000))):=by unfold aa6;congr 1;dsimp only;by_cases c:(frN n k).num<=1000000000/\(frN n k).den<=1000000000;rw[o8 (not_not_intro c)];simp;omega;rw[l8 c];simp;omega
def pick_loop{t:b9}{dn O:Li}{At:Int->Prop}(U:mo O<=40)(u:∀o ∈ O,T5 t a b dn y o=some (dec (At o))){J:Nat}{c:Li}(V:J<mo c):
  ∃h,Loop (S9 t a b dn (J:Int) y O) (c,(mo O:Int) - 1)=some h/\(mo h)=mo c/\(∀i,i ≠ J->h[i]? =c[i]?)/\
   ∀(p:Nat) o,O[p]? =some o->At o->(∀(q:Nat) f,q<p->O[q]? =some f->¬ At f)->h[J]? =some o:=by
 obtain⟨h,G,H,L,M⟩:=x9 (body:=S9 t a b dn (J:Int) y O)
  (fun x=>∃K:Nat,x.2=(K:Int) - 1/\K<=mo O/\x.1.length=mo c/\(∀i,i ≠ J->x.1[i]? =c[i]?)/\∀(p:Nat) o,K<=p->O[p]? =some o->At o->(∀(q:Nat) f,K<=q->q<p->O[q]? =some f->¬ At f)->x.1[J]? =some o)
  (fun x=>mo x=mo c/\(∀i,i ≠ J->x[i]? =c[i]?)/\∀(p:Nat) o,O[p]? =some o->At o->(∀(q:Nat) f,q<p->O[q]? =some f->¬ At f)->x[J]? =some o)
  (fun x=>(x.2+1).toNat) (s:=(c,(mo O:Int) - 1)) ⟨mo O,rfl,lO _,rfl,fun _ _=>rfl,fun p o B g=>by have:=(lG.1 g).1;omega⟩ (fun x N=>by
   obtain⟨d,X⟩:=x;obtain⟨K,D,p2,l,n,v⟩:=N;dsimp only at D l n v;subst D;unfold S9;dsimp only;cases K with
   |zero=>
    rw[if_neg (by omega)]
    exact .inr ⟨_,rfl,l,n,fun p o g j k=>v p o (mm _) g j fun q f _ E w=>k q f E w⟩
   |succ K=>
    have F:K<mo O:=by omega
    have r:O[K]? =some O[K]:=ln F
    rw[show((K+1:Nat):Int) - 1=(K:Int) by omega,if_pos (by omega)]
    rw[k9 (by omega) (by omega)]
    simp only[j7,r,oB,u _ (lv F),lu]
    by_cases j:At O[K]
    ·rw[ifP j,ln (show J<mo d by omega)]
     simp only[oB]
     refine .inl ⟨_,rfl,⟨K,rfl,by omega,by dsimp only;rw[lS];exact l,fun i P=>by dsimp only;rw[ls (by omega)];exact n i P,fun p o B g z k=> ?_⟩,by dsimp only;omega⟩
     dsimp only
     rw[lw (by omega)]
     by_cases e:p=K
     ·subst e;rw[r] at g;exact g
     ·exact absurd j (k K _ (lO _) (by omega) r)
    ·rw[ifN j]
     simp only[oB]
     refine .inl ⟨_,rfl,⟨K,rfl,by omega,l,n,fun p o B g z k=> ?_⟩,by dsimp only;omega⟩
     by_cases e:p=K
     ·subst e;rw[r] at g;cases g;exact absurd z j
     ·exact v p o (by omega) g z fun q f E w Q=>k q f (by omega) w Q)
 exact⟨h,G,H,L,M⟩
def ChV(S:LL)(v:Li->Int)(den:Int)(e f b c:Li)(i:Nat)(s:Li):Prop:=
 (s ∈ S->f[i]? =some (chL S e s)/\∃a d:Nat,b[i]? =some (a:Int)/\c[i]? =some (d:Int)/\0<d/\(d:Int)<=127401984/\(a:Int)<=63700992000/\(d:Int) * v s=den * (a:Int))/\(s ∉ S->b[i]? =some 0/\c[i]? =some 1)
def choice_loop{t:b9}{S:LL}(U:j6 t)(hc:ClO t a)(hf:E1 t a f)(hm:Rep a g (bfl (Cer f)))(K:StS t S)(eS:S=cerS t a f){N0:Li}(A:Fin t S i x b N0){num dn:Li}(hL:LeF S i x num dn):
  ∃D L N,forR 0 (mo a:Int) (R8 t a g S num dn) (lx (mo a) 0,lx (mo a) 0,lx (mo a) 0)=some (D,L,N)/\(mo D)=mo a/\∀(k:Nat) s,a[k]? =some s->ChV S i x b D L N k s:=by
 have w:∀s op,op ∈ optS t a f s↔Alw t S s op:=fun s op=>by rw[eS];exact mem_optS
 obtain⟨⟨D,L,N⟩,k1,k2,_,_,k3,_⟩:=m5 (body:=R8 t a g S num dn) (n:=(mo a:Int)) (s:=(lx (mo a) (0:Int),lx (mo a) (0:Int),lx (mo a) (0:Int)))
  (fun j q=>q.1.length=mo a/\q.2.1.length=mo a/\q.2.2.length=mo a/\(∀(k:Nat) s,(k:Int)<j->a[k]? =some s->ChV S i x b q.1 q.2.1 q.2.2 k s)/\∀k:Nat,j<=(k:Int)->k<mo a->q.2.1[k]? =some 0) (by omega)
  ⟨lB ..,lB ..,lB ..,fun k s y=>by omega,fun k _ y=>by dsimp only;rw[lJ,if_pos y]⟩ (fun j q j0 j1 V=>by
   obtain⟨c,n,d⟩:=q;obtain⟨X,v,p3,p4,O⟩:=V;dsimp only at X v p3 p4 O;obtain⟨J,rfl⟩:=lp j0;have hJ:J<mo a:=by omega
   have E:a[J]? =some a[J]:=ln hJ;have F:n[J]? =some 0:=O J (ml _) hJ;have aa:d[J]? =some d[J]:=ln (by omega);have step:∀{G n' d':Li},(∀k,k ≠ J->G[k]? =c[k]? /\n'[k]? =n[k]? /\d'[k]? =d[k]?)->ChV S i x b G n' d' J a[J]->∀(k:Nat) s,(k:Int)<(J:Int)+1->a[k]? =some s->ChV S i x b G n' d' k s:=fun ac ad k s y B=>by by_cases e:k=J;subst e;rw[E] at B;cases B;exact ad;obtain⟨e1,e2,e3⟩:=ac k e;have:=p4 k s (by omega) B;unfold ChV at this ⊢;rw[e1,e2,e3];exact this
   unfold R8;dsimp only;simp only[j7,E,aa,oB,lu];obtain⟨r,r1,r2⟩:=aw1 S a[J];rw[r1];simp only[oB];rcases r2 with⟨rfl,al⟩|⟨r0,_,P,_⟩;rw[if_pos (by omega)];refine⟨_,rfl,X,v,by dsimp only;rw[lS];exact p3,step (fun k y=>⟨rfl,rfl,ls (by omega)⟩) ⟨fun h=>absurd h al,fun _=>⟨F,lw (by omega)⟩⟩,fun k y hl=>O k (by omega) hl⟩;rw[if_neg (by omega)];obtain⟨M,rfl⟩:=lp r0;rw[j7] at P;have z:=lq P;obtain⟨l,dd,l1,l2,l3,l4,l5,l6⟩:=hL M _ P;have an:∀o ∈ optS t a f a[J],T5 t S num dn (M:Int) o=some (dec (QS t i x a[J] o=i a[J] * WS t a[J] o)):=fun o ho=>attains_eq U K A.vb.d0 A.vb.d1 A.vb.v0 hL P ((w _ _).1 ho);obtain⟨G,u1,u2,u3,u4⟩:=pick_loop (J:=J) (c:=c) (optS_len U) an (by omega);simp only[j7,l1,l2,F,oB,aB3 U hc hf hm (lv hJ),lw (show J<mo d by omega),u1];refine⟨(G,n.set J (l:Int),(d.set J 1).set J (dd:Int)),rfl,u2.trans X,by dsimp only;rw[lS];exact v,by dsimp only;rw[lS,lS];exact p3,step (fun k y=>⟨u3 k y,ls (by omega),by rw[ls (by omega),ls (by omega)]⟩) ⟨fun _=>⟨?_,l,dd,lw (by omega),lw (by rw[lS];omega),l3,l4,l5,l6⟩,fun h=>absurd z h⟩,fun k y hl=>by dsimp only;rw[ls (by omega)];exact O k (by omega) hl⟩;obtain⟨_,_,_,ha⟩:=chL_alw K.ord A.ok z;obtain⟨p,hp⟩:=lr ((w _ _).2 ha);refine u4 p _ hp (A.eq K z) fun q Q V H he=> ?_;obtain⟨k,y⟩:=lr z;obtain⟨u,g1,g2,g3⟩:=A.bst k _ y;have eg:chL S b a[J]=u:=by unfold chL;rw[aq3 K.ord y,ah7 g1]
   rw[eg] at hp;have ao:Q<u:=(as7 _ _).get H hp V;have:=g2.2.2 Q ao ((w _ _).1 (lq H));rw[g3,he] at this;have e:i a[J] * WS t a[J] u * WS t a[J] Q=i a[J] * WS t a[J] Q * WS t a[J] u:=by grind
   omega)
 exact⟨D,L,N,k1,k2,fun k s B=>k3 k s (by have:=(lG.1 B).1;omega) B⟩
def cheap_spec(q:j6 c)(h:ClO c a)(l:E1 c a f)(r:StS c (cerS c a f))(y:Fin c (cerS c a f) i x b d)(g:C7 c a=some (M2 (osL c a f (cerS c a f)):Int))(u:M2 (osL c a f (cerS c a f))<=100000):
  ∃j o p,ac3 c a=some (j,o,p)/\(mo j)=mo a/\∀(e:Nat) s,a[e]? =some s->ChV (cerS c a f) i x b j o p e s:=by
 have k:=h.len
 have z:=r.n5
 obtain⟨G,A,B⟩:=az5 q h l
 obtain⟨m,D,w⟩:=marks_eq h l B
 obtain⟨num,dn,a1,H,J,E⟩:=all_loop q h l w r rfl y g u
 obtain⟨j,o,p,F,b2,b3⟩:=choice_loop q h l w r rfl y E
 refine⟨j,o,p,?_,b2,b3⟩
 have mk:∀n:Nat,n<=2000->mkL 8 (n:Int) (0:Int)=some (lx n 0):=fun n K=>by rw[mkL,if_pos (by omega)];simp
 unfold ac3
 simp only[A,D,states_eq h w,oB,mk _ (show(cerS c a f).length<=2000 by omega),a1,mk _ k,F]
def cost_loop{t:b9}(k:mo t.operators<=40):Loop (s7 t) (0,0,0)=some (if dec (∃o ∈ t.operators,o.cost=0)=true then(3, -5) else(0,0)):=by
 obtain⟨o,l,n⟩:=x9 (body:=s7 t) (fun q=>∃K:Nat,q.2.2=(K:Int)/\K<=mo t.operators/\((q.1=0/\q.2.1=0/\∀(i:Nat) o,i<K->t.operators[i]? =some o->o.cost ≠ 0)\/(q.1=3/\q.2.1= -5/\∃o ∈ t.operators,o.cost=0)))
  (fun o=>o=if dec (∃o ∈ t.operators,o.cost=0)=true then(3, -5) else(0,0)) (fun q=>mo t.operators - q.2.2.toNat) (s:=(0,0,0)) ⟨0,rfl,mm _,.inl ⟨rfl,rfl,fun i o d=>by omega⟩⟩ (fun q p=>by obtain⟨c,i,v⟩:=q;obtain⟨K,h,w,a⟩:=p;dsimp only at h a;subst h;unfold s7;dsimp only;rcases a with⟨rfl,rfl,a⟩|⟨rfl,rfl,a⟩;by_cases f:K<mo t.operators;rw[if_pos (by simp;omega)];have j:t.operators[K]? =some t.operators[K]:=ln f;simp only[j7,j,oB];rw[k9 (by omega) (by omega)];by_cases e:t.operators[K].cost=0;rw[if_pos e];simp only[at_eq,oB];exact .inl ⟨_,rfl,⟨K+1,rfl,f,.inr ⟨rfl,rfl,_,lv f,e⟩⟩,by dsimp only;omega⟩;rw[if_neg e];simp only[oB];refine .inl ⟨_,rfl,⟨K+1,rfl,f,.inl ⟨rfl,rfl,fun i o d b=> ?_⟩⟩,by dsimp only;omega⟩;by_cases r:i=K;subst r;rw[j] at b;cases b;exact e;exact a i o (by omega) b;rw[if_neg (by simp;omega)];refine .inr ⟨_,rfl,?_⟩;rw[ifN];rintro ⟨o,b,u⟩;obtain⟨i,d⟩:=lr b;exact a i o (by have:=(lG.1 d).1;omega) d u;rw[if_neg (by simp)];exact .inr ⟨_,rfl,(ifP a).symm⟩)
 rw[l,n]
def cost_skip{t:b9}(b:x ≠ 0):Loop (s7 t) (x,y,0)=some (x,y):=by obtain⟨o,d,rfl⟩:=x9 (body:=s7 t) (fun q=>q=(x,y,0)) (fun o=>o=(x,y)) (fun _=>0) (s:=(x,y,0)) rfl (fun q e=>by subst e;unfold s7;dsimp only;rw[if_neg (by simp[b])];exact .inr ⟨_,rfl,rfl⟩);exact d
def at3(t:b9):H3 t=some true:=by
 unfold H3;obtain⟨fl,g1,g2,g3⟩:=aE2 t;rcases g3 with⟨rfl,n⟩|⟨hc,_⟩;have hB:=best_spec n;obtain⟨r,F⟩:∃r,B9 t=some r:=by rcases hB with⟨_,_,h⟩|⟨all,v,f,_,_,_,_,_,h⟩;exact⟨_,h⟩;rcases h with⟨_,h⟩|⟨_,⟨_,h⟩|⟨_,⟨_,h⟩|⟨_,⟨_,h⟩|⟨_,_,_,_,_,_,⟨_,h⟩|⟨_,_,_,_,h⟩⟩⟩⟩⟩<;>exact⟨_,h⟩
 rw[F,g2];simp only[oB,if_true];rcases reached_low (m:=60) n (by decide) (by decide) with al|⟨j,o1,o2,oc,o3,o4⟩;rw[al];simp[M4];rw[o3];simp only[oB,Bool.not_true,mg,if_false];rcases hB with⟨h0,_,_⟩|⟨all,v0,f,q1,_,g,_,P,z⟩;rw[o1] at h0;cases h0;rw[o1] at q1;cases q1;have Q:=n.ops;obtain⟨i0,G⟩:=lr g.cl.init;have U:ix j (i0:Int)=some t.init:=by rw[j7,G]
 have an:=as5 g.ord U;obtain⟨cv,c1,c2⟩:=az5 n g P;have ao:=c2.get U;unfold z8;dsimp only;rw[cost_loop Q];rcases z with⟨hz,h⟩|⟨V,z⟩;rw[F] at h;cases h;rw[ifP hz];simp[M4];rw[ifN V];simp only[oB,if_true,rPending_eq (t:=t) (l:=j) (by omega)];rcases z with⟨h5,h⟩|⟨h5,z⟩;rw[F] at h;cases h;simp[M4,at_eq,show(5:Int)<((pnd t j).length:Int) by omega];rw[if_neg (by simp;omega)];simp only[oB,if_true,an,c1,ao];rcases z with⟨X,h⟩|⟨av,z⟩;rw[F] at h;cases h;rw[if_pos (by unfold gOf;rw[if_pos X];decide)];simp[M4];have hb:=P.bnd g _ g.cl.init;rw[if_neg (by unfold gOf;rw[if_neg (by omega)];omega)];have A:=cer_sts g h5 f;have H:∀op:Int,0<=op/\op<mo t.operators->1<=(ooAt t op).cost:=fun op h=>by have h1:=(n.at h.1 h.2).c0;have h2:(ooAt t op).cost ≠ 0:=fun e=>V ⟨_,j8 (ix_oo h.1 h.2),e⟩;omega
 rcases comb_eq n g P with o|o;rw[o];simp[M4];rw[o];simp only[oB];by_cases E:300<=(M2 (osL t j f (cerS t j f)):Int);rw[if_pos E,M4];rfl;rw[if_neg E];rcases z with⟨J,h⟩|⟨J,den,lb,N,v,u,z⟩;rw[F] at h;cases h;obtain⟨l0,a1,a2,a3⟩:=begin_all n g h5 P;obtain⟨den,lb,N,v,b1,u⟩:=rounds_eq n H A a2 a3 0 [];obtain⟨ch,ns,ds,s1,s2,s3⟩:=cheap_spec n g P A u o (by omega);have ay:t.init ∉ cerS t j f:=fun q=>(L6.1 q).2 J;obtain⟨e1,e2⟩:=(s3 i0 _ G).2 ay;have k:=ah3 (a:=0) (b:=1) (by omega) (by omega) (by omega);have K:I8 0 1=some ⟨0,1⟩:=k;have hk:=chL_ok A u.ok (.inl J);obtain⟨p,p1,p2⟩:=build_ref n hk (all:=j) (value:=ch) (kind:=3) (fun s B D=>(L6.1 ((chL_in A u.ok (.inl J) B).resolve_left D)).1.1) (by omega) s2 (fun s B D i x hi hx=>by obtain⟨a0,_,M⟩:=m8 hi;have O:=(chL_in A u.ok (.inl J) B).resolve_left D;have:=((s3 i.toNat s M).1 O).1;obtain⟨_,_,w⟩:=m8 hx;rw[this] at w;cases w;simp);have hp:p=[]:=List.eq_nil_iff_forall_not_mem.2 fun c a4=>by
  have:=p2.rch a4;have key:∀s,RchC t (chL (cerS t j f) lb) s->i6 t s:=fun s B=>by
   induction B with
   |init=>exact J
   |step _ D _ ih=>exact absurd ih D
  exact this.2 (key _ this.1)
 subst hp;simp only[s1,oB,j7,e1,e2,K,p1,aF6,M4];simp[aa6];have y:t.init ∈ cerS t j f:=L6.2 ⟨⟨g.cl.init,av⟩,J⟩;obtain⟨ch,ns,ds,s1,s2,s3⟩:=cheap_spec n g P A u o (by omega);obtain⟨e0,a,d,e1,e2,d0,d1,d2,d3⟩:=(s3 i0 _ G).1 y;have hv:=u.vb.v0 _ y;have a5:=u.vb.d0;have k:=ah3 (a:=a) (b:=d) (by omega) (by omega) d0;rw[frN_of d0 a5 hv.1 d3] at k;have a6:aa6 (frN (v t.init).toNat den.toNat)=some (dec (¬ ((frN (v t.init).toNat den.toNat).num<=1000000000/\(frN (v t.init).toNat den.toNat).den<=1000000000))):=frac_fit;simp only[s1,oB,j7,e1,e2,k,a6];rcases z with⟨ac,h⟩|⟨ad,p,hb,_,h⟩;rw[F] at h;cases h;rw[ifP ac];simp[M4,at_eq];rw[F] at h;cases h;rw[ifNN ad];have hk:=chL_ok A u.ok (.inr y);obtain⟨p',p1,p2⟩:=build_ref n hk (all:=j) (value:=ch) (kind:=3) (fun s B D=>(L6.1 ((chL_in A u.ok (.inr y) B).resolve_left D)).1.1) (by omega) s2 (fun s B D i x hi hx=>by obtain⟨a0,_,M⟩:=m8 hi;have O:=(chL_in A u.ok (.inr y) B).resolve_left D;have:=((s3 i.toNat s M).1 O).1;obtain⟨_,_,w⟩:=m8 hx;rw[this] at w;cases w;simp);have:=p2.unique hb;subst this;simp[p1,aF6,M4];rw[best_bad g1 hc,g2];simp only[oB];rw[if_neg hc];unfold z8;dsimp only;rw[cost_skip hc];simp[hc,M4]
end Ab
