/-
  Texts that the proof stands on.
-/
import Derived.Test.YtfnfejfohioppaaGreatDoorKRwChLeast4
set_option linter.all false
section
namespace Ab
def Qv(n:Nat)(W:Nat→Int)(w:Mtx)(c num:Nat→Int)(den:Int)(i:Nat):Int:=smN n (fun k=>w i k * num k)+W i * c i * den
structure Vf(n:Nat)(W:Nat→Int)(w:Mtx)(c num:Nat→Int)(den:Int):Prop where
 pos:0<den
 eq:∀i,i<n→Qv n W w c num den i=W i * num i
section
variable {n:Nat}{W:Nat→Int}{w:Mtx}{c num num':Nat→Int}{den den':Int}
theorem smN_lin{f g:Nat→Int}{a b:Int}{n:Nat}:smN n (fun k=>a * f k - b * g k)=a * smN n f - b * smN n g:=by
 have:(fun k=>a * f k - b * g k)=fun k=>a * f k+ -b * g k:=by funext k;grind
 rw[this,J5,y5,y5];grind
theorem lin_row(r:Nat):smN n (fun k=>w r k * (den * num' k - den' * num k))=den * smN n (fun k=>w r k * num' k) - den' * smN n (fun k=>w r k * num k):=by
 rw[← smN_lin];exact l8 fun k _=>by grind
theorem val_le(hM:Ms n W w)(hp:∀i,i<n→Px n W w i)(hv:Vf n W w c num' den')(hd:0<den)(h:∀i,i<n→W i * num i≤Qv n W w c num den i):∀i,i<n→den' * num i≤den * num' i:=by
 intro i hi
 have key:=pos0 hM (b:=fun _=>0) hp (y:=fun k=>den * num' k - den' * num k) (fun r hr=>by
  rw[al1 (Nat.le_refl n) hr,lin_row]
  have h1:=hv.eq r hr
  have h2:=h r hr
  unfold Qv at h1 h2
  have h3:0≤den' * (smN n (fun k=>w r k * num k)+W r * c r * den - W r * num r):=Int.mul_nonneg (Int.le_of_lt hv.pos) (by omega)
  have h4:smN n (fun k=>w r k * num' k)=W r * num' r - W r * c r * den':=by omega
  rw[h4,show W r * (den * num' r - den' * num r) - (den * (W r * num' r - W r * c r * den') - den' * smN n fun k=>w r k * num k)=den' * (smN n (fun k=>w r k * num k)+W r * c r * den - W r * num r) by grind]
  exact h3) i hi
 omega
theorem val_ge(hM:Ms n W w)(hp:∀i,i<n→Px n W w i)(hv:Vf n W w c num' den')(hd:0<den)(h:∀i,i<n→Qv n W w c num den i≤W i * num i):∀i,i<n→den * num' i≤den' * num i∧(Qv n W w c num den i<W i * num i→den * num' i<den' * num i):=by
 have sum:∀r,r<n→W r * (den' * num r - den * num' r)=smN n (fun k=>w r k * (den' * num k - den * num' k))+den' * (W r * num r - Qv n W w c num den r):=fun r hr=>by
  rw[lin_row]
  have h1:=hv.eq r hr
  unfold Qv at h1 ⊢
  have h4:smN n (fun k=>w r k * num' k)=W r * num' r - W r * c r * den':=by omega
  rw[h4];grind
 have nn:∀i,i<n→0≤den' * num i - den * num' i:=fun i hi=>pos0 hM (b:=fun _=>0) hp (y:=fun k=>den' * num k - den * num' k) (fun r hr=>by
  rw[al1 (Nat.le_refl n) hr]
  have:=sum r hr
  have h2:=h r hr
  have h3:0≤den' * (W r * num r - Qv n W w c num den r):=Int.mul_nonneg (Int.le_of_lt hv.pos) (by omega)
  omega) i hi
 intro i hi
 refine⟨by have:=nn i hi;omega,fun hlt=> ?_⟩
 have h1:=sum i hi
 have h2:0<den' * (W i * num i - Qv n W w c num den i):=Int.mul_pos hv.pos (by omega)
 have h3:0≤smN n (fun k=>w i k * (den' * num k - den * num' k)):=U3 fun k hk=>Int.mul_nonneg (hM.nn i k) (nn k hk)
 have h4:=nn i hi
 by_cases e:den' * num i - den * num' i=0
 ·rw[e,Int.mul_zero] at h1;omega
 ·omega
theorem exists_min(z:Nat→Int)(C:Nat→Prop):∀{m:Nat},(∃i,i<m∧C i)→∃r,r<m∧C r∧∀k,k<m→C k→z r≤z k
 |0,⟨i,h,_⟩=>by omega
 |m+1,⟨i,hi,hc⟩=>by
  by_cases e:∃i,i<m∧C i
  ·obtain⟨r,r1,r2,r3⟩:=exists_min z C e
   by_cases q:C m∧z m<z r
   ·refine⟨m,by omega,q.1,fun k hk hck=> ?_⟩
    by_cases f:k=m
    ·rw[f];exact Int.le_refl _
    ·have:=r3 k (by omega) hck;omega
   ·refine⟨r,by omega,r2,fun k hk hck=> ?_⟩
    by_cases f:k=m
    ·subst f
     by_cases g:z k<z r
     ·exact absurd ⟨hck,g⟩ q
     ·omega
    ·exact r3 k (by omega) hck
  ·have:i=m:=by
    by_cases f:i=m
    ·exact f
    ·exact absurd ⟨i,by omega,hc⟩ e
   subst this
   refine⟨i,by omega,hc,fun k hk hck=> ?_⟩
   by_cases f:k=i
   ·rw[f];exact Int.le_refl _
   ·exact absurd ⟨k,by omega,hck⟩ e
theorem proper_of(hM:Ms n W w)(hc:∀i,i<n→1≤c i)(hd:0<den)(h:∀i,i<n→Qv n W w c num den i≤W i * num i):∀i,i<n→Px n W w i:=by
 intro i hi
 refine Classical.byContradiction fun hn=> ?_
 obtain⟨r,r1,r2,r3⟩:=exists_min num (fun i=>¬ Px n W w i) ⟨i,hi,hn⟩
 have h1:=h r r1
 have h2:=hM.pos r r1
 have h3:smN n (w r)=W r:=by
  have:=hM.le r r1
  by_cases q:smN n (w r)<W r
  ·exact absurd (Px.exit r1 q) r2
  ·omega
 have h4:smN n (fun k=>num r * w r k)≤smN n (fun k=>w r k * num k):=T3 fun k hk=>by
  by_cases q:0<w r k
  ·have:¬ Px n W w k:=fun hp=>r2 (.step r1 hk q hp)
   have:=r3 k hk this
   rw[Int.mul_comm]
   exact Int.mul_le_mul_of_nonneg_left this (by omega)
  ·have:w r k=0:=by have:=hM.nn r k;omega
   rw[this];simp
 rw[y5,h3] at h4
 have h5:0<W r * c r * den:=Int.mul_pos (Int.mul_pos h2 (by have:=hc r r1;omega)) hd
 unfold Qv at h1
 have:=Int.mul_comm (num r) (W r)
 omega
end
end Ab
end
section
namespace Ab
theorem ad6{R:Int}:∀n:Nat,prd n (fun _=>R)=R ^ n
 |0=>by simp[prd]
 |n+1=>by rw[prd,ad6 n,Int.pow_succ,Int.mul_comm]
theorem pow_nn{R:Int}(h:0≤R):∀n:Nat,0≤R ^ n
 |0=>by simp
 |n+1=>by rw[Int.pow_succ];exact Int.mul_nonneg (pow_nn h n) h
theorem ab_sgn(j:Nat):ab (sgn j)=1:=by unfold sgn ab;split<;>split<;>omega
theorem ak7{R B:Int}(hR:0≤R)(hB:0≤B):∀{n:Nat} {A:Mtx} {l:Nat},l<n+1→(∀i,i<n+1→smN (n+1) (fun j=>if j=l then 0 else ab (A i j))≤R)→(∀i,i<n+1→ab (A i l)≤B)→ab (det (n+1) A)≤(n+1:Int) * B * R ^ n
 |0,A,l,hl,_,h2=>by
  have:l=0:=by omega
  subst this
  have:=h2 0 (by omega)
  simpa[det,smN,sgn] using this
 |n+1,A,l,hl,h1,h2=>by
  have hK:0≤(n+1:Int) * B * R ^ n:=Int.mul_nonneg (Int.mul_nonneg (by omega) hB) (pow_nn hR n)
  rw[det]
  refine Int.le_trans (ab_sum _) ?_
  have hm:∀j,j<n+1+1→ab (sgn j * A 0 j * det (n+1) (mnr A j))≤((n+1:Int) * B * R ^ n) * (if j=l then 0 else ab (A 0 j))+(if j=l then B * R ^ (n+1) else 0):=fun j hj=>by
   rw[ab_mul,ab_mul,ab_sgn,Int.one_mul]
   by_cases e:j=l
   ·subst e
    rw[if_pos rfl,if_pos rfl,Int.mul_zero,Int.zero_add]
    have ih:=ae1 (n:=n+1) (A:=mnr A j) (r:=fun _=>R) (fun _=>hR) fun i hi=>by
     have k1:=h1 (i+1) (by omega)
     have k2:=smN_sk (f:=fun k=>if k=j then 0 else ab (A (i+1) k)) (fun k=>by split;omega;exact C6 _) (n:=n+1) (j:=j)
     rw[l8 (g:=fun k=>if sk j k=j then 0 else ab (A (i+1) (sk j k))) fun k _=>by unfold mnr;rw[if_neg (by unfold sk;split<;>omega)]]
     exact Int.le_trans k2 k1
    rw[ad6] at ih
    exact Int.mul_le_mul (h2 0 (by omega)) ih (C6 _) hB
   ·rw[if_neg e,if_neg e,Int.add_zero,Int.mul_comm]
    refine Int.mul_le_mul_of_nonneg_right ?_ (C6 _)
    refine ak7 hR hB (l:=if j<l then l - 1 else l) (by split<;>omega) (fun i hi=> ?_) fun i hi=> ?_
    ·have k1:=h1 (i+1) (by omega)
     have k2:=smN_sk (f:=fun k=>if k=l then 0 else ab (A (i+1) k)) (fun k=>by split;omega;exact C6 _) (n:=n+1) (j:=j)
     rw[l8 (g:=fun k=>if sk j k=l then 0 else ab (A (i+1) (sk j k))) fun k _=>by
      unfold mnr
      have:k=(if j<l then l - 1 else l)↔sk j k=l:=by unfold sk;split<;>split<;>omega
      by_cases q:sk j k=l
      ·rw[if_pos (this.2 q),if_pos q]
      ·rw[if_neg (fun r=>q (this.1 r)),if_neg q]]
     exact Int.le_trans k2 k1
    ·have:=h2 (i+1) (by omega)
     unfold mnr
     rwa [show sk j (if j<l then l - 1 else l)=l by unfold sk;split<;>split<;>omega]
  refine Int.le_trans (T3 hm) ?_
  rw[J5,y5,P0 (f:=fun j=>if j=l then B * R ^ (n+1) else 0) (a:=l) hl fun j _ hj=>if_neg hj,if_pos rfl]
  have k1:=Int.mul_le_mul_of_nonneg_left (h1 0 (by omega)) hK
  have k2:((n+1:Int) * B * R ^ n) * R=(n+1:Int) * B * R ^ (n+1):=by rw[Int.pow_succ];grind
  push_cast
  have k3:((n:Int)+1+1) * B * R ^ (n+1)=(n+1:Int) * B * R ^ (n+1)+B * R ^ (n+1):=by grind
  omega
section
variable {n c:Nat}{A a:Mtx}{d:Int}
theorem GJ.rep(h:GJ n A c a d){i j:Nat}(hi:i<c)(hj:c≤j)(hj':j≤n):a i j=det c (rep A i fun r=>A r j):=by
 have key:=cramer (n:=c) (A:=A) (y:=fun k=>a k j) (b:=fun r=>d * A r j) (fun r hr=>h.top j r hj hj' hr) (l:=i) hi
 rw[ar0 hi,← h.dd,Int.mul_comm (a i j)] at key
 exact(Int.eq_of_mul_eq_mul_left h.nz key).symm
end
structure Rb(n:Nat)(A:Mtx)(R B:Int):Prop where
 R0:0≤R
 B0:0≤B
 row:∀i,i<n→smN n (fun k=>ab (A i k))≤R
 rhs:∀i,i<n→ab (A i n)≤B
section
variable {n c:Nat}{A a:Mtx}{d R B:Int}
theorem Rb.brd1(h:Rb n A R B){i j:Nat}(hj:c≤j)(hj':j<n)(hi:c≤i)(hi':i<n):ab (det (c+1) (brd c A i j))≤R ^ (c+1):=by
 have:=ae1 (n:=c+1) (A:=brd c A i j) (r:=fun _=>R) (fun _=>h.R0) fun r hr=>by
  have hr':(if r=c then i else r)<n:=by split<;>omega
  have k1:=X0 (f:=fun k=>ab (A (if r=c then i else r) k)) (fun _=>C6 _) hj hj'
  have k2:=h.row _ hr'
  simp only[smN]
  rw[l8 (g:=fun k=>ab (A (if r=c then i else r) k)) fun k hk=>by unfold brd;rw[if_neg (by omega:¬ k=c)]]
  have:brd c A i j r c=A (if r=c then i else r) j:=by unfold brd;rw[if_pos (rfl:c=c)]
  rw[this];omega
 rwa [ad6] at this
theorem Rb.brd2(h:Rb n A R B){i:Nat}(hc:c≤n)(hi:c≤i)(hi':i<n):ab (det (c+1) (brd c A i n))≤(c+1:Int) * B * R ^ c:=by
 refine ak7 h.R0 h.B0 (l:=c) (by omega) (fun r hr=> ?_) fun r hr=> ?_
 ·have hr':(if r=c then i else r)<n:=by split<;>omega
  have k1:=Q8 (f:=fun k=>ab (A (if r=c then i else r) k)) (fun _=>C6 _) hc
  have k2:=h.row _ hr'
  simp only[smN,if_true,Int.add_zero]
  rw[l8 (g:=fun k=>ab (A (if r=c then i else r) k)) fun k hk=>by unfold brd;rw[if_neg (by omega:¬ k=c),if_neg (by omega:¬ k=c)]]
  omega
 ·have hr':(if r=c then i else r)<n:=by split<;>omega
  have:brd c A i n r c=A (if r=c then i else r) n:=by unfold brd;rw[if_pos (rfl:c=c)]
  rw[this];exact h.rhs _ hr'
theorem Rb.rep1(h:Rb n A R B)(hc:c≤n){i j:Nat}(hi:i<c)(hj:c≤j)(hj':j<n):ab (det c (rep A i fun r=>A r j))≤R ^ c:=by
 have:=ae1 (n:=c) (A:=rep A i fun r=>A r j) (r:=fun _=>R) (fun _=>h.R0) fun r hr=>by
  have k1:=X0 (f:=fun k=>ab (A r k)) (fun _=>C6 _) hj hj'
  have k2:=h.row r (by omega)
  have k3:smN c (fun k=>ab (rep A i (fun r=>A r j) r k))≤smN c (fun k=>ab (A r k)+(if k=i then ab (A r j) else 0)):=T3 fun k hk=>by
   unfold Ab.rep
   by_cases e:k=i
   ·rw[if_pos e,if_pos e];have:=C6 (A r k);show ab (A r j)≤ab (A r k)+ab (A r j);omega
   ·rw[if_neg e,if_neg e];omega
  rw[J5,P0 (f:=fun k=>if k=i then ab (A r j) else 0) hi fun k _ hk=>if_neg hk,if_pos rfl] at k3
  exact Int.le_trans k3 (Int.le_trans k1 k2)
 rwa [ad6] at this
theorem Rb.rep2(h:Rb n A R B){i:Nat}(hc:c+1≤n)(hi:i<c+1):ab (det (c+1) (rep A i fun r=>A r n))≤(c+1:Int) * B * R ^ c:=by
 refine ak7 h.R0 h.B0 (l:=i) hi (fun r hr=> ?_) fun r hr=> ?_
 ·have k1:=Q8 (f:=fun k=>ab (A r k)) (fun _=>C6 _) hc
  have k2:=h.row r (by omega)
  refine Int.le_trans (T3 (g:=fun k=>ab (A r k)) fun k hk=> ?_) (Int.le_trans k1 k2)
  unfold Ab.rep
  split
  ·exact C6 _
  ·exact Int.le_refl _
 ·unfold Ab.rep;rw[if_pos rfl];exact h.rhs r (by omega)
end
end Ab
end
section
namespace Ab
open Go
noncomputable def dec(p:Prop):Bool:=@decide p (Classical.propDecidable p)
@[simp] theorem k8 {p:Prop}:dec p=true↔p:=by simp[dec]
@[simp] theorem dec_false {p:Prop}:dec p=false↔¬ p:=by simp[dec]
@[simp] theorem w6 {p:Prop}:(!dec p)=dec (¬ p):=by by_cases h:p<;>simp[dec,h]
theorem F0{p:Prop}[Decidable p]:decide p=dec p:=by by_cases h:p<;>simp[dec,h]
theorem j7{p:Prop}(h:p):dec p=true:=k8.2 h
theorem m9{p:Prop}(h:¬ p):dec p=false:=dec_false.2 h
theorem v7{p q:Prop}(h:p↔q):dec p=dec q:=by rw[propext h]
theorem dec_inj{p q:Prop}:dec p=dec q↔(p↔q):=⟨fun h=>⟨fun hp=>k8.1 (h ▸ j7 hp),fun hq=>k8.1 (h.symm ▸ j7 hq)⟩,v7⟩
theorem dec_and{p q:Prop}:(dec p && dec q)=dec (p∧q):=by by_cases h:p<;>by_cases g:q<;>simp[dec,h,g]
theorem dec_or{p q:Prop}:(dec p||dec q)=dec (p∨q):=by by_cases h:p<;>by_cases g:q<;>simp[dec,h,g]
theorem bool_dec(b:Bool):b=dec (b=true):=by cases b<;>simp[dec]
theorem ifP{α:Type}{p:Prop}{a b:α}(h:p):(if dec p=true then a else b)=a:=if_pos (j7 h)
theorem ifN{α:Type}{p:Prop}{a b:α}(h:¬ p):(if dec p=true then a else b)=b:=if_neg fun g=>h (k8.1 g)
theorem ifNN{α:Type}{p:Prop}{a b:α}(h:p):(if dec (¬ p)=true then a else b)=b:=ifN (not_not_intro h)
theorem i7{α:Type}{l:List α}{i:Int}{a:α}(h:ix l i=some a):a ∈ l:=List.mem_of_getElem? (m6 h).2.2
theorem m7{α:Type}{l:List α}{a:α}(h:a ∈ l):∃i:Int,0≤i∧i<l.length∧ix l i=some a:=by
 obtain⟨k,hk⟩:=List.getElem?_of_mem h
 exact⟨k,by omega,by have:=(lG.1 hk).1;omega,by rw[o7,hk]⟩
theorem ix_put{α:Type}{l:List α}{i j:Int}{x:α}(h0:0≤i)(h1:i<l.length)(hj:0≤j):ix (l.set i.toNat x) j=if j=i then some x else ix l j:=by
 simp only[ix,hj,if_true,List.getElem?_set]
 by_cases h:j=i
 ·subst h;rw[if_pos rfl,if_pos rfl,if_pos (by omega)]
 ·rw[if_neg h,if_neg (by omega)]
theorem y7{O:Type}{body:Int→Unit→Option (Unit⊕O)}{n:Int}(g:Int→Option O)(hn:0≤n)
  (hb:∀j,0≤j→j<n→(∀i,0≤i→i<j→g i=none)→body j ()=some (match g j with|none=>.inl ()|some o=>.inr o)):
  (rngX 0 n body ()=some (.inl ())∧∀j,0≤j→j<n→g j=none)∨∃j o,0≤j∧j<n∧g j=some o∧(∀i,0≤i→i<j→g i=none)∧rngX 0 n body ()=some (.inr o):=by
 rcases Q9 (body:=body) (n:=n) (fun j _=>∀i,0≤i→i<j→g i=none) (fun o=>∃j,0≤j∧j<n∧g j=some o∧∀i,0≤i→i<j→g i=none) (s:=()) hn (fun i h1 h2=>by omega) (fun j s h0 h1 hP=>by
  have:=hb j h0 h1 hP
  cases hg:g j with
  |none=>rw[hg] at this;exact .inl ⟨(),this,fun i h2 h3=>by
    rcases Int.lt_or_eq_of_le (Int.le_of_lt_add_one h3) with h|h
    ·exact hP i h2 h
    ·rw[h,hg]⟩
  |some o=>rw[hg] at this;exact .inr ⟨o,this,j,h0,h1,hg,hP⟩) with⟨s',h1,h2⟩|⟨o,h1,j,h2,h3,h4,h5⟩
 ·exact .inl ⟨h1,h2⟩
 ·exact .inr ⟨j,o,h2,h3,h4,h5,h1⟩
theorem rng_list{α O:Type}{l:List α}{body:Int→Unit→Option (Unit⊕O)}(q:α→Prop)(b:O)
  (hb:∀j a,ix l j=some a→(q a∧body j ()=some (.inl ()))∨(¬ q a∧body j ()=some (.inr b))):
  rngX 0 (l.length:Int) body ()=some (if dec (∀a ∈ l,q a)=true then .inl () else .inr b):=by
 rcases y7 (body:=body) (n:=(l.length:Int)) (fun j=>match ix l j with|some a=>if dec (q a)=true then none else some b|none=>none) (by omega) (fun j h0 h1 _=>by
  obtain⟨a,h2,_⟩:=i6 h0 h1
  rw[h2]
  rcases hb j a h2 with⟨h3,h4⟩|⟨h3,h4⟩
  ·rw[h4];simp[h3]
  ·rw[h4];simp[h3]) with⟨h1,h2⟩|⟨j,o,h0,h1,h2,_,h4⟩
 ·rw[h1,if_pos]
  rw[k8]
  intro a ha
  obtain⟨i,g1,g2,g3⟩:=m7 ha
  have:=h2 i g1 g2
  rw[g3] at this
  simpa using this
 ·rw[h4]
  obtain⟨a,g1,_⟩:=i6 h0 h1
  rw[g1] at h2
  simp only[k8] at h2
  split at h2
  ·cases h2
  ·rename_i hq
   cases h2
   rw[if_neg]
   rw[k8]
   exact fun h=>hq (j7 (h a (i7 g1)))
abbrev Inc(l:Li):Prop:=l.Pairwise (· < ·)
theorem inc_of_adj:∀{l:Li},(∀(k:Nat) a b,l[k]? =some a→l[k+1]? =some b→a<b)→Inc l
 |[],_=>.nil
 |[_],_=>by simp
 |a::b::l,h=>by
  have ih:Inc (b::l):=inc_of_adj fun k x y h1 h2=>h (k+1) x y (by simpa using h1) (by simpa using h2)
  have hab:a<b:=h 0 a b rfl rfl
  refine List.pairwise_cons.2 ⟨fun c hc=> ?_,ih⟩
  rcases List.mem_cons.1 hc with rfl|hc
  ·exact hab
  ·exact Int.lt_trans hab ((List.pairwise_cons.1 ih).1 c hc)
theorem Inc.get{l:Li}(h:Inc l){i j:Nat}{a b:Int}(hi:l[i]? =some a)(hj:l[j]? =some b)(hij:i<j):a<b:=by
 obtain⟨h1,rfl⟩:=lG.1 hi
 obtain⟨h2,rfl⟩:=lG.1 hj
 exact List.pairwise_iff_getElem.1 h i j h1 h2 hij
theorem Inc.ext:∀{l m:Li},Inc l→Inc m→(∀x,x ∈ l↔x ∈ m)→l=m
 |[],[],_,_,_=>rfl
 |[],b::m,_,_,h=>absurd ((h b).2 (by simp)) (by simp)
 |a::l,[],_,_,h=>absurd ((h a).1 (by simp)) (by simp)
 |a::l,b::m,hl,hm,h=>by
  obtain⟨l1,l2⟩:=List.pairwise_cons.1 hl
  obtain⟨m1,m2⟩:=List.pairwise_cons.1 hm
  have hab:a=b:=by
   rcases List.mem_cons.1 ((h a).1 (by simp)) with e|e
   ·exact e
   ·rcases List.mem_cons.1 ((h b).2 (by simp)) with e'|e'
    ·exact e'.symm
    ·have:=l1 b e';have:=m1 a e;omega
  subst hab
  rw[Inc.ext l2 m2 fun x=>⟨fun hx=> ?_,fun hx=> ?_⟩]
  ·rcases List.mem_cons.1 ((h x).1 (by simp[hx])) with e|e
   ·have:=l1 x hx;omega
   ·exact e
  ·rcases List.mem_cons.1 ((h x).2 (by simp[hx])) with e|e
   ·have:=m1 x hx;omega
   ·exact e
theorem Inc.filter{l:Li}(h:Inc l)(p:Int→Bool):Inc (l.filter p):=List.Pairwise.filter p h
def nums(lo:Int):Nat→Li
 |0=>[]
 |k+1=>lo::nums (lo+1) k
theorem as3{x:Int}:∀{k:Nat} {lo:Int},x ∈ nums lo k↔lo≤x∧x<lo+k
 |0,lo=>by simp[nums]
 |k+1,lo=>by
  rw[nums,List.mem_cons,as3 (k:=k)]
  omega
theorem inc_nums:∀(k:Nat) (lo:Int),Inc (nums lo k)
 |0,_=>.nil
 |k+1,lo=>List.pairwise_cons.2 ⟨fun x hx=>by have:=as3.1 hx;omega,inc_nums k (lo+1)⟩
theorem len_nums:∀(k:Nat) (lo:Int),(nums lo k).length=k
 |0,_=>rfl
 |k+1,lo=>by simp[nums,len_nums k]
noncomputable def R5(p:Int→Prop)(n:Int):Li:=(nums 0 n.toNat).filter fun x=>dec (p x)
theorem ae2{p:Int→Prop}{n x:Int}:x ∈ R5 p n↔0≤x∧x<n∧p x:=by
 rw[R5,List.mem_filter,as3,k8]
 constructor
 ·rintro ⟨⟨h1,h2⟩,h3⟩;exact⟨h1,by omega,h3⟩
 ·rintro ⟨h1,h2,h3⟩;exact⟨⟨h1,by omega⟩,h3⟩
theorem ao1(p:Int→Prop)(n:Int):Inc (R5 p n):=(inc_nums _ _).filter _
theorem setOf_congr{p q:Int→Prop}{n:Int}(h:∀x,0≤x→x<n→(p x↔q x)):R5 p n=R5 q n:=by
 refine List.filter_congr fun x hx=>v7 ?_
 have:=as3.1 hx
 exact h x (by omega) (by omega)
def SetN(l:Li)(n:Int):Prop:=Inc l∧∀x ∈ l,0≤x∧x<n
theorem setN_setOf(p:Int→Prop)(n:Int):SetN (R5 p n) n:=⟨ao1 p n,fun x hx=>by have:=ae2.1 hx;exact⟨this.1,this.2.1⟩⟩
theorem SetN.eq{l:Li}{n:Int}(h:SetN l n):l=R5 (· ∈ l) n:=
 h.1.ext (ao1 _ _) fun x=>⟨fun hx=>ae2.2 ⟨(h.2 x hx).1,(h.2 x hx).2,hx⟩,fun hx=>(ae2.1 hx).2.2⟩
theorem SetN.eq_of{l:Li}{n:Int}(h:SetN l n){p:Int→Prop}(hp:∀x,0≤x→x<n→(x ∈ l↔p x)):l=R5 p n:=
 h.eq.trans (setOf_congr hp)
theorem SetN.len{l:Li}{n:Int}(h:SetN l n):l.length≤n.toNat:=by
 rw[h.eq,R5]
 exact Nat.le_trans (List.length_filter_le _ _) (Nat.le_of_eq (len_nums _ _))
theorem T9(n:Int):SetN [] n:=⟨.nil,by simp⟩
theorem forR_filter{α:Type}{l:List α}{b:Nat}{body:Int→List α→Option (List α)}(q:α→Prop)
  (hb:∀j a c,ix l j=some a→(q a→body j c=app b c [a])∧(¬ q a→body j c=some c)) (c0:List α) (hl:(c0.length+l.length) * b≤140737488355328):
  forR 0 (l.length:Int) body c0=some (c0++l.filter fun a=>dec (q a)):=by
 obtain⟨s',h1,h2⟩:=s8 (body:=body) (n:=(l.length:Int)) (s:=c0) (fun j c=>c=c0++(l.take j.toNat).filter fun a=>dec (q a)) (by omega) (by simp) (fun j c h0 h1 hP=>by
  obtain⟨a,g1,g2⟩:=i6 h0 h1
  have e:(j+1).toNat=j.toNat+1:=by omega
  have ht:l.take (j+1).toNat=l.take j.toNat++[a]:=by rw[e,List.take_add_one,g2];rfl
  by_cases hq:q a
  ·have happ:app b c [a]=some (c++[a]):=by
    rw[app,if_pos]
    have h3:((l.take j.toNat).filter fun a=>dec (q a)).length≤(l.take j.toNat).length:=List.length_filter_le _ _
    rw[List.length_take] at h3
    have h5:c.length+1≤c0.length+l.length:=by rw[hP,List.length_append];omega
    refine Nat.le_trans (Nat.mul_le_mul_right b ?_) hl
    simpa using h5
   refine⟨c++[a],by rw[(hb j a c g1).1 hq,happ],?_⟩
   rw[ht,List.filter_append,hP]
   simp[hq]
  ·refine⟨c,(hb j a c g1).2 hq,?_⟩
   rw[ht,List.filter_append,hP]
   simp[hq])
 rw[h1,h2]
 simp
theorem forR_setOf{b:Nat}{n:Int}{body:Int→Li→Option Li}(q:Int→Prop)(hn:0≤n)(hl:n.toNat * b≤140737488355328)
  (hb:∀j c,0≤j→j<n→(q j→body j c=app b c [j])∧(¬ q j→body j c=some c)):forR 0 n body []=some (R5 q n):=by
 obtain⟨s',h1,h2⟩:=s8 (body:=body) (n:=n) (s:=[]) (fun j c=>c=R5 q j) hn (by simp[R5,nums]) (fun j c h0 h1 hP=>by
  have hs:R5 q (j+1)=R5 q j++if dec (q j)=true then [j] else []:=by
   refine(ao1 q (j+1)).ext ?_ fun x=> ?_
   ·refine List.pairwise_append.2 ⟨ao1 _ _,by split<;>simp,fun a ha b hb=> ?_⟩
    have:=ae2.1 ha
    split at hb
    ·simp at hb;omega
    ·cases hb
   ·rw[List.mem_append,ae2,ae2]
    by_cases hq:q j
    ·rw[if_pos (j7 hq)]
     simp only[List.mem_singleton]
     refine⟨fun h=> ?_,fun h=> ?_⟩
     ·by_cases e:x=j
      ·exact .inr e
      ·exact .inl ⟨h.1,by omega,h.2.2⟩
     ·rcases h with h|rfl
      ·exact⟨h.1,by omega,h.2.2⟩
      ·exact⟨h0,by omega,hq⟩
    ·rw[if_neg (by simpa using hq)]
     simp only[List.not_mem_nil,or_false]
     refine⟨fun h=>⟨h.1,?_,h.2.2⟩,fun h=>⟨h.1,by omega,h.2.2⟩⟩
     rcases Int.lt_or_eq_of_le (Int.le_of_lt_add_one h.2.1) with e|e
     ·exact e
     ·rw[e] at h;exact absurd h.2.2 hq
  by_cases hq:q j
  ·refine⟨c++[j],?_,by rw[hs,hP,if_pos (j7 hq)]⟩
   rw[(hb j c h0 h1).1 hq,app,if_pos]
   have h3:c.length≤j.toNat:=by rw[hP];exact(setN_setOf q j).len
   refine Nat.le_trans (Nat.mul_le_mul_right b ?_) hl
   simp;omega
  ·refine⟨c,(hb j c h0 h1).2 hq,?_⟩
   rw[hs,hP,if_neg (by simpa using hq),List.append_nil])
 rw[h1,h2]
end Ab
end
section
namespace Ab
theorem filter_le{α:Type}{p q:α→Bool}:∀{l:List α},(∀x ∈ l,p x=true→q x=true)→(l.filter p).length≤(l.filter q).length
 |[],_=>Nat.le_refl _
 |a::l,h=>by
  have ih:=filter_le (l:=l) fun x hx=>h x (List.mem_cons_of_mem _ hx)
  have h1:=h a (by simp)
  simp only[List.filter_cons]
  split
  ·rename_i hp;rw[if_pos (h1 hp)];simp only[List.length_cons];omega
  ·split
   ·simp only[List.length_cons];omega
   ·exact ih
theorem filter_lt{α:Type}{p q:α→Bool}:∀{l:List α},(∀x ∈ l,p x=true→q x=true)→(∃x ∈ l,q x=true∧p x=false)→(l.filter p).length<(l.filter q).length
 |[],_,⟨x,h,_⟩=>by cases h
 |a::l,h,⟨x,hx,hq,hp⟩=>by
  have hl:=fun x hx=>h x (List.mem_cons_of_mem a hx)
  have h1:=h a (by simp)
  simp only[List.filter_cons]
  rcases List.mem_cons.1 hx with rfl|hx
  ·have:=filter_le hl
   rw[hp,hq]
   simp only[Bool.false_eq_true,if_false,if_true,List.length_cons];omega
  ·have ih:=filter_lt hl ⟨x,hx,hq,hp⟩
   split
   ·rename_i e;rw[if_pos (h1 e)];simp only[List.length_cons];omega
   ·split
    ·simp only[List.length_cons];omega
    ·exact ih
noncomputable def rank{α:Type}(L:List α)(lt:α→α→Prop)(x:α):Nat:=(L.filter fun z=>dec (lt z x)).length
theorem rank_lt{α:Type}{L:List α}{lt:α→α→Prop}(tr:∀x y z,lt x y→lt y z→lt x z)(ir:∀x,¬ lt x x){x y:α}(hy:y ∈ L)(h:lt y x):rank L lt y<rank L lt x:=
 filter_lt (fun z _ hz=>j7 (tr _ _ _ (k8.1 hz) h)) ⟨y,hy,j7 h,m9 (ir y)⟩
def lists(m:Nat):Nat→LL
 |0=>[[]]
 |n+1=>(List.range m).flatMap fun a:Nat=>(lists m n).map fun l=>(a:Int)::l
theorem mem_lists{m:Nat}:∀{n:Nat} {l:Li},l.length=n→(∀x ∈ l,0≤x∧x<m)→l ∈ lists m n
 |0,l,h,_=>by
  have:l=[]:=List.eq_nil_of_length_eq_zero h
  rw[this];simp[lists]
 |n+1,a::l,h,hl=>by
  have ha:=hl a (by simp)
  refine List.mem_flatMap.2 ⟨a.toNat,List.mem_range.2 (by omega),List.mem_map.2 ⟨l,mem_lists (by simpa using h) fun x hx=>hl x (List.mem_cons_of_mem _ hx),?_⟩⟩
  rw[Int.toNat_of_nonneg ha.1]
end Ab
end
section
namespace Ab
open Go
def mE(M:LL):Mtx:=fun i j=>((M[i]?).getD [])[j]?.getD 0
structure Shp(n:Nat)(M:LL):Prop where
 len:M.length=n
 row:∀r ∈ M,r.length=n+1
theorem Shp.get{n:Nat}{M:LL}(h:Shp n M){i:Nat}(hi:i<n):∃row,M[i]? =some row∧row.length=n+1∧ix M (i:Int)=some row∧∀j,j≤n→ix row (j:Int)=some (mE M i j)∧row[j]? =some (mE M i j):=by
 have hl:i<M.length:=by rw[h.len];exact hi
 have e:M[i]? =some M[i]:=List.getElem?_eq_getElem hl
 have hr:=h.row _ (List.getElem_mem hl)
 refine⟨M[i],e,hr,by rw[o7,e],fun j hj=> ?_⟩
 have hj':j<M[i].length:=by omega
 have e2:M[i][j]? =some M[i][j]:=List.getElem?_eq_getElem hj'
 have:mE M i j=M[i][j]:=by unfold mE;rw[e];simp[e2]
 rw[o7,e2,this]
 exact⟨rfl,rfl⟩
theorem Shp.set{n:Nat}{M:LL}(h:Shp n M){i:Nat}{row:Li}(hr:row.length=n+1):Shp n (M.set i row):=
 ⟨by rw[lS];exact h.len,fun r hm=>by
  rcases List.mem_or_eq_of_mem_set hm with hm|rfl
  ·exact h.row r hm
  ·exact hr⟩
theorem mE_set{n:Nat}{M:LL}(h:Shp n M){i j:Nat}(hi:i<n){row:Li}(hrow:M[i]? =some row)(hj:j<row.length)(v:Int)(i' j':Nat):
  mE (M.set i (row.set j v)) i' j'=if i'=i∧j'=j then v else mE M i' j':=by
 have hl:i<M.length:=by rw[h.len];exact hi
 unfold mE
 rw[List.getElem?_set]
 by_cases e:i'=i
 ·subst e
  rw[if_pos rfl,if_pos hl,hrow]
  simp only[Option.getD_some,List.getElem?_set,true_and]
  by_cases f:j'=j
  ·subst f;simp[hj]
  ·rw[if_neg (fun q=>f q.symm),if_neg f]
 ·rw[if_neg (fun q=>e q.symm),if_neg (fun q=>e q.1)]
def Ft(x:Int):Prop:= -9223372036854775808≤x∧x≤9223372036854775807
theorem Ft.w{x:Int}(h:Ft x):w64 x=x:=w64_eq h
theorem row_clear{n c i:Nat}{last:Int}{M:LL}(hM:Shp n M)(hn:n≤1000)(hc:c<n)(hi:i<n)(hic:i ≠ c)(hl:last ≠ 0)
  (hf:∀j,j≤n→j ≠ c→Ft (mE M c c * mE M i j)∧Ft (mE M i c * mE M c j)∧Ft (crs (mE M) c i j)∧Ft ((crs (mE M) c i j).tdiv last)):
  ∃M',Loop (C8 c last i) (M,(n:Int))=some M'∧Shp n M'∧∀i' j',j'≤n→mE M' i' j'=if i'=i∧j' ≠ c then(crs (mE M) c i j').tdiv last else mE M i' j':=by
 refine F1 (body:=C8 c last i) (s:=(M,(n:Int)))
  (fun s=>Shp n s.1∧ -1≤s.2∧s.2≤n∧∀i' j':Nat,j'≤n→mE s.1 i' j'=if i'=i∧j' ≠ c∧s.2<j' then(crs (mE M) c i j').tdiv last else mE M i' j')
  (fun M'=>Shp n M'∧∀i' j',j'≤n→mE M' i' j'=if i'=i∧j' ≠ c then(crs (mE M) c i j').tdiv last else mE M i' j')
  (fun s=>(s.2+1).toNat) ⟨hM,by dsimp only;omega,by dsimp only;omega,fun i' j' hj'=>by rw[if_neg (by dsimp only;omega)]⟩ ?_
 rintro ⟨M1,j⟩ ⟨h1,h2,h3,h4⟩
 dsimp only at h1 h2 h3 h4
 unfold C8
 dsimp only
 by_cases hj:0≤j
 ·rw[if_pos hj]
  obtain⟨k,rfl⟩:=Int.eq_ofNat_of_zero_le hj
  have hw:w64 ((k:Int) - 1)=k - 1:=l9 (by omega) (by omega)
  by_cases e:(k:Int)=c
  ·rw[if_pos e,Option.bind_some,hw]
   refine .inl ⟨_,rfl,⟨h1,by dsimp only;omega,by dsimp only;omega,fun i' j' hj'=> ?_⟩,by dsimp only;omega⟩
   rw[h4 i' j' hj']
   dsimp only
   by_cases q:i'=i∧j' ≠ c∧(k:Int)<j'
   ·rw[if_pos q,if_pos ⟨q.1,q.2.1,by omega⟩]
   ·rw[if_neg q,if_neg (fun r=>q ⟨r.1,r.2.1,by have:=r.2.1;have:=r.2.2;omega⟩)]
  ·rw[if_neg e]
   have hkc:k ≠ c:=by omega
   have hk:k≤n:=by omega
   obtain⟨ri,a1,a2,a3,a4⟩:=h1.get hi
   obtain⟨rc,b1,b2,b3,b4⟩:=h1.get hc
   have vcc:mE M1 c c=mE M c c:=by rw[h4 c c (by omega),if_neg (fun q=>hic q.1.symm)]
   have vck:mE M1 c k=mE M c k:=by rw[h4 c k hk,if_neg (fun q=>hic q.1.symm)]
   have vic:mE M1 i c=mE M i c:=by rw[h4 i c (by omega),if_neg (fun q=>q.2.1 rfl)]
   have vik:mE M1 i k=mE M i k:=by rw[h4 i k hk,if_neg (fun q=>by have:=q.2.2;omega)]
   obtain⟨f1,f2,f3,f4⟩:=hf k hk hkc
   have hcr:mE M c c * mE M i k - mE M i c * mE M c k=crs (mE M) c i k:=rfl
   simp only[a3,b3,oB,(a4 k hk).1,(a4 c (by omega)).1,(b4 c (by omega)).1,(b4 k hk).1,vcc,vck,vic,vik,f1.w,f2.w,hcr,f3.w,f4.w,chkN]
   rw[if_neg hl]
   simp only[oB,hw,Int.toNat_natCast]
   refine .inl ⟨_,rfl,⟨h1.set (by rw[lS];exact a2),by dsimp only;omega,by dsimp only;omega,fun i' j' hj'=> ?_⟩,by dsimp only;omega⟩
   dsimp only
   rw[mE_set h1 hi a1 (by omega)]
   by_cases q:i'=i∧j'=k
   ·rw[if_pos q,if_pos ⟨q.1,by omega,by omega⟩,q.2]
   ·rw[if_neg q,h4 i' j' hj']
    by_cases r:i'=i∧j' ≠ c∧(k:Int)<j'
    ·rw[if_pos r,if_pos ⟨r.1,r.2.1,by omega⟩]
    ·rw[if_neg r,if_neg (fun s=>r ⟨s.1,s.2.1,by have:=s.2.2;by_cases f:j'=k;exact absurd ⟨s.1,f⟩ q;omega⟩)]
 ·rw[if_neg hj]
  refine .inr ⟨_,rfl,h1,fun i' j' hj'=> ?_⟩
  rw[h4 i' j' hj']
  by_cases q:i'=i∧j' ≠ c
  ·rw[if_pos q,if_pos ⟨q.1,q.2,by omega⟩]
  ·rw[if_neg q,if_neg (fun r=>q ⟨r.1,r.2.1⟩)]
def nxt(a:Mtx)(c:Nat)(d:Int):Mtx:=fun i j=>if i=c then a c j else if j=c then 0 else(crs a c i j).tdiv d
theorem col_clear{n c:Nat}{last:Int}{L M:LL}(hL:L.length=n)(hM:Shp n M)(hn:n≤1000)(hc:c<n)(hl:last ≠ 0)
  (hf:∀i j,i<n→i ≠ c→j≤n→j ≠ c→Ft (mE M c c * mE M i j)∧Ft (mE M i c * mE M c j)∧Ft (crs (mE M) c i j)∧Ft ((crs (mE M) c i j).tdiv last)):
  ∃M',forR 0 (L.length:Int) (D2 L c last) M=some M'∧Shp n M'∧∀i j,i<n→j≤n→mE M' i j=nxt (mE M) c last i j:=by
 obtain⟨M',k1,k2,k3⟩:=s8 (body:=D2 L c last) (n:=(L.length:Int)) (s:=M)
  (fun q s=>Shp n s∧∀i j:Nat,i<n→j≤n→mE s i j=if(i:Int)<q then nxt (mE M) c last i j else mE M i j) (by omega)
  ⟨hM,fun i j hi hj=>by rw[if_neg (by omega)]⟩ (fun q s q0 q1 ⟨p1,p2⟩=>by
   obtain⟨i,rfl⟩:=Int.eq_ofNat_of_zero_le q0
   have hi:i<n:=by omega
   unfold D2
   by_cases e:(i:Int)=c
   ·have e':i=c:=by omega
    rw[if_pos e,Option.bind_some]
    refine⟨_,rfl,p1,fun i' j' hi' hj'=> ?_⟩
    rw[p2 i' j' hi' hj']
    by_cases f:(i':Int)<i
    ·rw[if_pos f,if_pos (by omega)]
    ·rw[if_neg f]
     by_cases g:i'=i
     ·rw[if_pos (by omega),g,e'];unfold nxt;rw[if_pos rfl]
     ·rw[if_neg (by omega)]
   ·have e':i ≠ c:=by omega
    have vi:∀j,j≤n→mE s i j=mE M i j:=fun j hj=>by rw[p2 i j hi hj,if_neg (by omega)]
    have vc:∀j,j≤n→mE s c j=mE M c j:=fun j hj=>by
     rw[p2 c j hc hj]
     split
     ·unfold nxt;rw[if_pos rfl]
     ·rfl
    have vx:∀j,j≤n→crs (mE s) c i j=crs (mE M) c i j:=fun j hj=>by
     unfold crs;rw[vi j hj,vi c (by omega),vc j hj,vc c (by omega)]
    obtain⟨M1,m1,m2,m3⟩:=row_clear p1 hn hc hi e' hl (fun j hj hjc=>by
     have:=hf i j hi e' hj hjc
     rw[vc c (by omega),vi j hj,vi c (by omega),vc j hj,vx j hj]
     exact this)
    obtain⟨r,a1,a2,a3,a4⟩:=m2.get hi
    rw[if_neg e,hL,m1]
    simp only[oB,a3,(a4 c (by omega)).1,Int.toNat_natCast]
    refine⟨_,rfl,m2.set (by rw[lS];exact a2),fun i' j' hi' hj'=> ?_⟩
    rw[mE_set m2 hi a1 (by omega),m3 i' j' hj']
    by_cases g:i'=i
    ·subst g
     rw[if_pos (show((i':Nat):Int)<(i':Int)+1 by omega)]
     unfold nxt
     rw[if_neg e']
     by_cases f:j'=c
     ·rw[if_pos ⟨rfl,f⟩,if_pos f]
     ·rw[if_neg (fun q=>f q.2),if_pos ⟨rfl,f⟩,if_neg f,vx j' hj']
    ·rw[if_neg (fun q=>g q.1),if_neg (fun q=>g q.1),p2 i' j' hi' hj']
     by_cases f:(i':Int)<i
     ·rw[if_pos f,if_pos (show(i':Int)<(i:Int)+1 by omega)]
     ·rw[if_neg f,if_neg (show ¬ (i':Int)<(i:Int)+1 by omega)])
 refine⟨M',k1,k2,fun i j hi hj=> ?_⟩
 rw[k3 i j hi hj,if_pos (by omega)]
end Ab
end
section
namespace Ab
open Go
theorem ab_prod{x y X Y:Int}(h1:ab x≤X)(h2:ab y≤Y):ab (x * y)≤X * Y:=by
 rw[ab_mul];exact Int.mul_le_mul h1 h2 (C6 _) (Int.le_trans (C6 x) h1)
theorem Ft.of{x:Int}(h:ab x≤9223372036854775807):Ft x:=by
 have:=ab_le h;unfold Ft;omega
theorem ab_tdiv(x d:Int):ab (x.tdiv d)≤ab x:=by
 have e:∀y:Int,ab y=(y.natAbs:Int):=fun y=>by unfold ab;split<;>omega
 rw[e,e,Int.natAbs_tdiv]
 exact_mod_cast Nat.div_le_self _ _
theorem Ft.crs{a:Mtx}{c i j:Nat}{d:Int}(h1:ab (a c c * a i j)≤4000000000000000000)(h2:ab (a i c * a c j)≤4000000000000000000):Ft (a c c * a i j)∧Ft (a i c * a c j)∧Ft (Ab.crs a c i j)∧Ft ((Ab.crs a c i j).tdiv d):=by
 have h3:ab (Ab.crs a c i j)≤8000000000000000000:=by
  have:=ab_add (a c c * a i j) (-(a i c * a c j))
  have e:ab (-(a i c * a c j))=ab (a i c * a c j):=by unfold ab;split<;>split<;>omega
  rw[e] at this
  unfold Ab.crs
  rw[Int.sub_eq_add_neg];omega
 have h4:=ab_tdiv (Ab.crs a c i j) d
 exact⟨.of (by omega),.of (by omega),.of (by omega),.of (by omega)⟩
section
variable {n c:Nat}{A a:Mtx}{d:Int}
theorem det_top{R B:Int}(h:Rb n A R B)(hc:c≤n):ab (det c A)≤R ^ c:=by
 have:=ae1 (n:=c) (A:=A) (r:=fun _=>R) (fun _=>h.R0) fun r hr=>by
  have k1:=Q8 (f:=fun k=>ab (A r k)) (fun _=>C6 _) hc
  have k2:=h.row r (by omega)
  omega
 rwa [ad6] at this
theorem GJ.fits(hn:n≤5)(hR:Rb n A 48 2400)(h:GJ n A c a d)(hc:c<n){i j:Nat}(hi:i<n)(hic:i ≠ c)(hj:j≤n)(hjc:j ≠ c):ab (a c c * a i j)≤4000000000000000000∧ab (a i c * a c j)≤4000000000000000000:=by
 have P:ab (a c c)≤48 ^ (c+1):=by rw[h.brd (Nat.le_refl c) (by omega) (Nat.le_refl c) hc];exact hR.brd1 (Nat.le_refl c) hc (Nat.le_refl c) hc
 have hd:ab d≤48 ^ c:=by rw[h.dd];exact det_top hR (by omega)
 have h5:c=0∨c=1∨c=2∨c=3∨c=4:=by omega
 have fin:∀{x y X Y:Int},ab x≤X→ab y≤Y→X * Y≤4000000000000000000→ab (x * y)≤4000000000000000000:=fun h1 h2 h3=>Int.le_trans (ab_prod h1 h2) h3
 rcases Nat.lt_or_ge j c with q|q
 ·have e1:a c j=0:=by rw[h.on c j hc q,if_neg (by omega)]
  have e2:ab (a i j)≤48 ^ c:=by
   rw[h.on i j hi q]
   split
   ·exact hd
   ·have:ab 0=0:=by unfold ab;rfl
    rw[this];exact pow_nn (by omega) c
  refine⟨fin P e2 ?_,?_⟩
  ·rcases h5 with rfl|rfl|rfl|rfl|rfl<;>decide
  ·rw[e1,Int.mul_zero];decide
 ·have R2:ab (a c n)≤(c+1:Int) * 2400 * 48 ^ c:=by rw[h.brd (by omega) (Nat.le_refl n) (Nat.le_refl c) hc];exact hR.brd2 (by omega) (Nat.le_refl c) hc
  rcases Nat.lt_or_ge i c with r|r
  · -- a row that is cleared
   have C1:ab (a i c)≤48 ^ c:=by rw[h.rep r (Nat.le_refl c) (by omega)];exact hR.rep1 (by omega) r (Nat.le_refl c) hc
   by_cases e:j=n
   ·subst e
    obtain⟨c',rfl⟩:∃c',c=c'+1:=⟨c - 1,by omega⟩
    have C2:ab (a i j)≤(c'+1:Int) * 2400 * 48 ^ c':=by rw[h.rep r (by omega) (Nat.le_refl j)];exact hR.rep2 (by omega) r
    have h5:c'=0∨c'=1∨c'=2∨c'=3:=by omega
    exact⟨fin P C2 (by rcases h5 with rfl|rfl|rfl|rfl<;>decide),fin C1 R2 (by rcases h5 with rfl|rfl|rfl|rfl<;>decide)⟩
   ·have C2:ab (a i j)≤48 ^ c:=by rw[h.rep r (by omega) (by omega)];exact hR.rep1 (by omega) r (by omega) (by omega)
    have C3:ab (a c j)≤48 ^ (c+1):=by rw[h.brd (by omega) (by omega) (Nat.le_refl c) hc];exact hR.brd1 (by omega) (by omega) (Nat.le_refl c) hc
    exact⟨fin P C2 (by rcases h5 with rfl|rfl|rfl|rfl|rfl<;>decide),fin C1 C3 (by rcases h5 with rfl|rfl|rfl|rfl|rfl<;>decide)⟩
  ·have h4:c=0∨c=1∨c=2∨c=3:=by omega
   have C1:ab (a i c)≤48 ^ (c+1):=by rw[h.brd (Nat.le_refl c) (by omega) r hi];exact hR.brd1 (Nat.le_refl c) hc r hi
   by_cases e:j=n
   ·subst e
    have C2:ab (a i j)≤(c+1:Int) * 2400 * 48 ^ c:=by rw[h.brd (by omega) (Nat.le_refl j) r hi];exact hR.brd2 (by omega) r hi
    exact⟨fin P C2 (by rcases h4 with rfl|rfl|rfl|rfl<;>decide),fin C1 R2 (by rcases h4 with rfl|rfl|rfl|rfl<;>decide)⟩
   ·have C2:ab (a i j)≤48 ^ (c+1):=by rw[h.brd (by omega) (by omega) r hi];exact hR.brd1 (by omega) (by omega) r hi
    have C3:ab (a c j)≤48 ^ (c+1):=by rw[h.brd (by omega) (by omega) (Nat.le_refl c) hc];exact hR.brd1 (by omega) (by omega) (Nat.le_refl c) hc
    exact⟨fin P C2 (by rcases h4 with rfl|rfl|rfl|rfl<;>decide),fin C1 C3 (by rcases h4 with rfl|rfl|rfl|rfl<;>decide)⟩
end
theorem solve_rows{n:Nat}{L:LL}(hn:n≤5)(hL:Shp n L)(hR:Rb n (mE L) 48 2400)(hp:∀c a d,GJ n (mE L) c a d→c<n→a c c ≠ 0):
  ∃M d,forR 0 (L.length:Int) (C7 L) (L,1)=some (M,d)∧Shp n M∧GJ n (mE L) n (mE M) d:=by
 obtain⟨⟨M,d⟩,k1,k2,k3⟩:=s8 (body:=C7 L) (n:=(L.length:Int)) (s:=(L,1))
  (fun q s=>Shp n s.1∧GJ n (mE L) q.toNat (mE s.1) s.2) (by omega) ⟨hL,GJ.start⟩ (fun q s q0 q1 ⟨p1,p2⟩=>by
   obtain⟨M,d⟩:=s
   obtain⟨c,rfl⟩:=Int.eq_ofNat_of_zero_le q0
   have hll:=hL.len
   have hc:c<n:=by omega
   dsimp only at p1 p2
   rw[Int.toNat_natCast] at p2
   have hpiv:=hp c _ _ p2 hc
   obtain⟨rc,b1,b2,b3,b4⟩:=p1.get hc
   unfold C7
   have e2:Loop (D0 L c M) ()=some ():=by
    rw[Y8]
    have:D0 L c M ()=some (.inr ()):=by
     unfold D0
     split
     ·simp only[b3,(b4 c (by omega)).1,oB]
      rw[if_neg (by simp[hpiv])]
     ·rfl
    rw[this]
   have hft:=fun i j (hi:i<n) (hic:i ≠ c) (hj:j≤n) (hjc:j ≠ c)=>p2.fits hn hR hc hi hic hj hjc
   obtain⟨M',m1,m2,m3⟩:=col_clear hll p1 (by omega) hc p2.nz (fun i j hi hic hj hjc=>Ft.crs (hft i j hi hic hj hjc).1 (hft i j hi hic hj hjc).2)
   obtain⟨r2,d1,d2,d3,d4⟩:=m2.get hc
   have hcc:mE M' c c=mE M c c:=by rw[m3 c c hc (by omega)];unfold nxt;rw[if_pos rfl]
   dsimp only
   simp only[e2,b3,m1,d3,(d4 c (by omega)).1,oB]
   refine⟨_,rfl,m2,?_⟩
   dsimp only
   rw[show((c:Int)+1).toNat=c+1 by omega,hcc]
   refine p2.step hc hpiv (fun j hj=>by rw[m3 c j hc hj];unfold nxt;rw[if_pos rfl]) (fun i j hi hic hj hjc=> ?_) (fun i hi hic=>by rw[m3 i c hi (by omega)];unfold nxt;rw[if_neg hic,if_pos rfl])
   rw[m3 i j hi hj]
   unfold nxt
   rw[if_neg hic,if_neg hjc]
   obtain⟨x,hx⟩:=p2.exact hc hpiv hi hic hj hjc
   rw[hx,Int.mul_tdiv_cancel_left _ p2.nz])
 refine⟨M,d,k1,k2,?_⟩
 rw[hL.len,Int.toNat_natCast] at k3
 exact k3
theorem solve_spec{n:Nat}{L:LL}(st:LL)(hn:n≤5)(hL:Shp n L)(hR:Rb n (mE L) 48 2400)(hp:∀c a d,GJ n (mE L) c a d→c<n→a c c ≠ 0):
  ∃num:Li,x5 st L=some (num,det n (mE L))∧num.length=n∧det n (mE L) ≠ 0∧(∀l,l<n→num[l]? =some (det n (rep (mE L) l fun r=>mE L r n)))∧
   ∀r,r<n→smN n (fun k=>mE L r k * (num[k]?).getD 0)=det n (mE L) * mE L r n:=by
 obtain⟨M,d,h1,h2,h3⟩:=solve_rows hn hL hR hp
 have hll:=hL.len
 unfold x5
 rw[h1]
 simp only[oB]
 have hmk:mkL 8 (L.length:Int) (0:Int)=some (List.replicate n 0):=by
  unfold mkL;rw[if_pos (by omega),hll,Int.toNat_natCast]
 rw[hmk]
 simp only[oB,List.length_replicate]
 obtain⟨num,k1,k2,k3⟩:=s8 (body:=G2 L M) (n:=(n:Int)) (s:=List.replicate n 0)
  (fun q s=>s.length=n∧∀l:Nat,(l:Int)<q→l<n→s[l]? =some (mE M l n)) (by omega) ⟨by simp,fun l hl=>by omega⟩ (fun q s q0 q1 ⟨p1,p2⟩=>by
   obtain⟨i,rfl⟩:=Int.eq_ofNat_of_zero_le q0
   have hi:i<n:=by omega
   obtain⟨r,a1,a2,a3,a4⟩:=h2.get hi
   have hs:i<s.length:=by omega
   have hx:ix s (i:Int)=some s[i]:=by rw[o7];exact List.getElem?_eq_getElem hs
   unfold G2
   simp only[a3,hll,(a4 n (Nat.le_refl n)).1,hx,oB,Int.toNat_natCast]
   refine⟨_,rfl,by rw[lS];exact p1,fun l hl hln=> ?_⟩
   rw[List.getElem?_set]
   by_cases e:i=l
   ·subst e;rw[if_pos rfl,if_pos hs]
   ·rw[if_neg e];exact p2 l (by omega) hln)
 rw[k1]
 have dd:d=det n (mE L):=h3.dd
 have hnum:∀l,l<n→num[l]? =some (mE M l n):=fun l hl=>k3 l (by omega) hl
 refine⟨num,by rw[dd];rfl,k2,by rw[← dd];exact h3.nz,fun l hl=> ?_,fun r hr=> ?_⟩
 ·rw[hnum l hl,h3.rep hl (Nat.le_refl n) (Nat.le_refl n)]
 ·rw[← dd,← h3.top n r (Nat.le_refl n) (Nat.le_refl n) hr]
  exact l8 fun k hk=>by rw[hnum k hk];rfl
end Ab
end
section
namespace Ab
open Go
theorem has_eq(l:Li)(n:Int):X6 l n=some (dec (n ∈ l)):=by
 unfold X6
 rw[rng_list (l:=l) (fun a=>a ≠ n) true (fun j a h=>by
  unfold ref1_Has_l1
  rw[h]
  by_cases e:a=n<;>simp[e])]
 by_cases h:n ∈ l
 ·rw[if_neg (by simp only[k8];exact fun g=>g n h rfl)]
  simp[h]
 ·rw[if_pos (by simp only[k8];exact fun a ha e=>h (e ▸ ha))]
  simp[h]
theorem subset_eq(part l:Li):ap0 part l=some (dec (∀x ∈ part,x ∈ l)):=by
 unfold ap0
 rw[rng_list (l:=part) (fun a=>a ∈ l) false (fun j a h=>by
  unfold ap7
  rw[h]
  by_cases e:a ∈ l<;>simp[e,has_eq])]
 by_cases h:∀x ∈ part,x ∈ l
 ·rw[if_pos (j7 h),j7 h];rfl
 ·rw[if_neg (by rw[m9 h];simp),m9 h];rfl
theorem disjoint_eq(a b:Li):ai6 a b=some (dec (∀x ∈ a,x ∉ b)):=by
 unfold ai6
 rw[rng_list (l:=a) (fun x=>x ∉ b) false (fun j x h=>by
  unfold am7
  rw[h]
  by_cases e:x ∈ b<;>simp[e,has_eq])]
 by_cases h:∀x ∈ a,x ∉ b
 ·rw[if_pos (j7 h),j7 h];rfl
 ·rw[if_neg (by rw[m9 h];simp),m9 h];rfl
theorem in_eq(n lo hi:Int):ad5 n lo hi=some (dec (lo≤n∧n≤hi)):=by
 unfold ad5;rw[F0,F0,dec_and]
theorem at_eq(c i:Int):U9 c i=some ⟨c,i⟩:=rfl
def stepOk(l:Li)(n j:Int):Prop:=∀a,ix l j=some a→(0≤a∧a<n)∧∀b,0<j→ix l (j - 1)=some b→b<a
theorem aj9{l:Li}{n:Int}:(∀j:Int,0≤j→j<l.length→stepOk l n j)↔SetN l n:=by
 constructor
 ·intro h
  refine⟨inc_of_adj fun k a b h1 h2=> ?_,fun x hx=> ?_⟩
  ·have hk:=(lG.1 h2).1
   have:=(h ((k+1:Nat):Int) (by omega) (by omega) b (by rw[o7];exact h2)).2 a (by omega)
   rw[show((k+1:Nat):Int) - 1=(k:Nat) by omega] at this
   exact this (by rw[o7];exact h1)
  ·obtain⟨i,h1,h2,h3⟩:=m7 hx
   exact(h i h1 h2 x h3).1
 ·intro h j h0 h1 a ha
  refine⟨h.2 a (i7 ha),fun b hj hb=> ?_⟩
  obtain⟨_,_,ga⟩:=m6 ha
  obtain⟨_,_,gb⟩:=m6 hb
  exact h.1.get gb ga (by omega)
theorem as2(l:Li)(n:Int):E8 l n=some (dec (SetN l n)):=by
 unfold E8
 rcases y7 (body:=W4 l n) (n:=(l.length:Int)) (fun j=>if dec (stepOk l n j)=true then none else some false) (by omega) (fun j h0 h1 _=>by
  obtain⟨a,ha,_⟩:=i6 (l:=l) h0 h1
  unfold W4
  rw[ha]
  simp only[oB]
  by_cases c1:a<0
  ·rw[if_pos c1,if_neg]
   ·rfl
   ·rw[k8];intro h;have:=(h a ha).1;omega
  ·rw[if_neg c1]
   by_cases c2:n≤a
   ·rw[if_pos c2,if_neg]
    ·rfl
    ·rw[k8];intro h;have:=(h a ha).1;omega
   ·rw[if_neg c2]
    by_cases c3:0<j
    ·obtain⟨b,hb,_⟩:=i6 (l:=l) (i:=j - 1) (by omega) (by omega)
     rw[if_pos c3,hb]
     simp only[oB]
     by_cases c4:a≤b
     ·rw[if_pos (by simpa using c4),if_neg]
      rw[k8];intro h;have:=(h a ha).2 b c3 hb;omega
     ·rw[if_neg (by simpa using c4),if_pos]
      rw[k8];intro x hx
      rw[ha] at hx;cases hx
      exact⟨by omega,fun y _ hy=>by rw[hb] at hy;cases hy;omega⟩
    ·rw[if_neg c3]
     simp only[oB]
     rw[if_neg (by simp),if_pos]
     rw[k8];intro x hx
     rw[ha] at hx;cases hx
     exact⟨by omega,fun y hy=>absurd hy c3⟩) with⟨h1,h2⟩|⟨j,o,h0,h1,h2,_,h4⟩
 ·rw[h1,j7]
  ·rfl
  ·exact aj9.1 fun j g1 g2=>by have:=h2 j g1 g2;simpa using this
 ·rw[h4]
  split at h2
  ·cases h2
  ·rename_i hs
   cases h2
   rw[m9]
   ·rfl
   ·exact fun h=>hs (j7 (aj9.2 h j h0 h1))
theorem ao3(l:Li){n:Int}(hn: -9223372036854775808<n)(hn':n≤9223372036854775807):Q7 l n=some (dec (SetN l n)):=by
 unfold Q7
 rcases y7 (body:=aj3 l n) (n:=(l.length:Int)) (fun j=>if dec (stepOk l n j)=true then none else some false) (by omega) (fun j h0 h1 _=>by
  obtain⟨a,ha,_⟩:=i6 (l:=l) h0 h1
  unfold aj3
  rw[ha]
  simp only[oB,in_eq,l9 (n:=n - 1) (by omega) (by omega),w6]
  by_cases c1:0≤a∧a≤n - 1
  ·rw[if_neg (by simpa using c1)]
   by_cases c3:0<j
   ·obtain⟨b,hb,_⟩:=i6 (l:=l) (i:=j - 1) (by omega) (by omega)
    rw[if_pos c3,hb]
    simp only[oB]
    by_cases c4:a≤b
    ·rw[if_pos (by simpa using c4),if_neg]
     rw[k8];intro h;have:=(h a ha).2 b c3 hb;omega
    ·rw[if_neg (by simpa using c4),if_pos]
     rw[k8];intro x hx
     rw[ha] at hx;cases hx
     exact⟨by omega,fun y _ hy=>by rw[hb] at hy;cases hy;omega⟩
   ·rw[if_neg c3]
    simp only[oB]
    rw[if_neg (by simp),if_pos]
    rw[k8];intro x hx
    rw[ha] at hx;cases hx
    exact⟨by omega,fun y hy=>absurd hy c3⟩
  ·rw[if_pos (by simpa using c1),if_neg]
   ·rfl
   ·rw[k8];intro h;have:=(h a ha).1;omega) with⟨h1,h2⟩|⟨j,o,h0,h1,h2,_,h4⟩
 ·rw[h1,j7]
  ·rfl
  ·exact aj9.1 fun j g1 g2=>by have:=h2 j g1 g2;simpa using this
 ·rw[h4]
  split at h2
  ·cases h2
  ·rename_i hs
   cases h2
   rw[m9]
   ·rfl
   ·exact fun h=>hs (j7 (aj9.2 h j h0 h1))
theorem containsLoop{s:Li}(hs:Inc s)(hl:s.length≤1000000)(x:Int){i:Int}(h0:0≤i)(h1:i≤s.length)(hlt:∀k a,0≤k→k<i→ix s k=some a→a<x):
  ∃i',Loop (J0 s x) i=some i'∧i≤i'∧i'≤s.length∧(∀k a,0≤k→k<i'→ix s k=some a→a<x)∧(∀a,ix s i'=some a→x≤a):=by
 obtain⟨o,h2,h3⟩:=F1 (body:=J0 s x) (fun j=>i≤j∧j≤s.length∧∀k a,0≤k→k<j→ix s k=some a→a<x) (fun i'=>i≤i'∧i'≤s.length∧(∀k a,0≤k→k<i'→ix s k=some a→a<x)∧(∀a,ix s i'=some a→x≤a)) (fun j=>(s.length - j).toNat) (s:=i) ⟨Int.le_refl _,h1,hlt⟩ (fun j ⟨g1,g2,g3⟩=>by
  unfold J0
  by_cases c:j<s.length
  ·obtain⟨a,ha,_⟩:=i6 (l:=s) (i:=j) (by omega) c
   rw[if_pos c,ha]
   simp only[oB,decide_eq_true_eq]
   by_cases c2:a<x
   ·rw[if_pos c2]
    rw[l9 (by omega) (by omega)]
    refine .inl ⟨j+1,rfl,⟨by omega,by omega,fun k b k0 k1 hb=> ?_⟩,by omega⟩
    by_cases e:k=j
    ·subst e;rw[ha] at hb;cases hb;exact c2
    ·exact g3 k b k0 (by omega) hb
   ·rw[if_neg c2]
    exact .inr ⟨j,rfl,g1,g2,g3,fun b hb=>by rw[ha] at hb;cases hb;omega⟩
  ·rw[if_neg c]
   exact .inr ⟨j,rfl,g1,g2,g3,fun b hb=>by have:=(m6 hb).2.1;omega⟩)
 exact⟨o,h2,h3⟩
theorem G0{s part:Li}(hs:Inc s)(hp:Inc part)(hl:s.length≤1000000):k9 s part=some (dec (∀x ∈ part,x ∈ s)):=by
 unfold k9
 rcases Q9 (body:=P6 s part) (n:=(part.length:Int)) (fun j i=>(0≤i∧i≤s.length∧∀k a,0≤k→k<i→ix s k=some a→∀m x,j≤m→ix part m=some x→a<x)∧∀m x,0≤m→m<j→ix part m=some x→x ∈ s) (fun o=>o=false∧¬ ∀x ∈ part,x ∈ s) (s:=0) (by omega) ⟨⟨by omega,by omega,fun k a h1 h2=>by omega⟩,fun m x h1 h2=>by omega⟩ (fun j i h0 h1 ⟨⟨g1,g2,g3⟩,g4⟩=>by
  obtain⟨x,hx,gx⟩:=i6 (l:=part) h0 h1
  unfold P6
  obtain⟨i',e1,e2,e3,e4,e5⟩:=containsLoop hs hl x g1 g2 (fun k a k0 k1 ha=>g3 k a k0 k1 ha j x (Int.le_refl _) hx)
  rw[hx]
  simp only[oB,e1]
  have nin:(∀a,ix s i'=some a→x<a)→x ∉ s:=fun hgt hin=>by
   obtain⟨k,k0,k1,hk⟩:=m7 hin
   rcases Int.lt_trichotomy k i' with c|c|c
   ·have:=e4 k x k0 c hk;omega
   ·subst c;have:=hgt x hk;omega
   ·obtain⟨b,hb,gb⟩:=i6 (l:=s) (i:=i') (by omega) (by omega)
    obtain⟨_,_,gk⟩:=m6 hk
    have:=hs.get gb gk (by omega)
    have:=e5 b hb
    omega
  by_cases c:i'=s.length
  ·rw[if_pos c]
   refine .inr ⟨false,rfl,rfl,fun h=> ?_⟩
   exact nin (fun a ha=>by have:=(m6 ha).2.1;omega) (h x (i7 hx))
  ·rw[if_neg c]
   obtain⟨b,hb,gb⟩:=i6 (l:=s) (i:=i') (by omega) (by omega)
   rw[hb]
   simp only[oB]
   have hxb:=e5 b hb
   by_cases c2:b=x
   ·subst c2
    rw[if_neg (by simp)]
    refine .inl ⟨i',rfl,⟨by omega,e3,fun k a k0 k1 ha m y hm hy=> ?_⟩,fun m y m0 m1 hy=> ?_⟩
    ·obtain⟨_,_,gy⟩:=m6 hy
     have:=hp.get gx gy (by omega)
     have:=e4 k a k0 k1 ha
     omega
    ·by_cases e:m=j
     ·subst e;rw[hx] at hy;cases hy;exact i7 hb
     ·exact g4 m y m0 (by omega) hy
   ·rw[if_pos (by simpa using c2)]
    refine .inr ⟨false,rfl,rfl,fun h=> ?_⟩
    exact nin (fun a ha=>by rw[hb] at ha;cases ha;omega) (h x (i7 hx))) with⟨s',h1,_,h2⟩|⟨o,h1,rfl,h2⟩
 ·rw[h1,j7]
  ·rfl
  ·intro x hx
   obtain⟨m,m0,m1,hm⟩:=m7 hx
   exact h2 m x m0 m1 hm
 ·rw[h1,m9 h2];rfl
end Ab
end
section
namespace Ab
open Go
theorem half_eq{i j:Int}(h0:0≤i)(h1:i≤j)(h2:j≤1000000):w64 (shrW .u64 ((IntKind.u64).wrap (w64 (i+j))) 1)=(i+j) / 2:=by
 rw[l9 (n:=i+j) (by omega) (by omega),IntKind.wrap_u64,Int.emod_eq_of_lt (by omega) (by omega)]
 have:shrW .u64 (i+j) 1=(i+j) / 2:=by
  simp only[shrW,IntKind.bits]
  rw[show min (1:Int).toNat 64=1 by rfl,Int.fdiv_eq_ediv_of_nonneg _ (by decide)]
  rfl
 rw[this]
 exact l9 (by omega) (by omega)
theorem less_eq(a b:Int):Y1 a b=some (decide (a<b)):=by simp[Y1,G8]
theorem bsearch_eq{xs:Li}(hs:Inc xs)(hl:xs.length≤500000)(t:Int):∃i,v6 xs t=some (i,dec (t ∈ xs))∧0≤i∧i≤xs.length∧(∀k a,0≤k→k<i→ix xs k=some a→a<t)∧(∀k a,i≤k→ix xs k=some a→t≤a):=by
 unfold v6
 obtain⟨i,h1,h2,h3,h4,h5⟩:=F1 (body:=B9 xs t) (fun p=>(0≤p.1∧p.1≤p.2∧p.2≤xs.length)∧(∀k a,0≤k→k<p.1→ix xs k=some a→a<t)∧(∀k a,p.2≤k→ix xs k=some a→t≤a))
  (fun i=>0≤i∧i≤xs.length∧(∀k a,0≤k→k<i→ix xs k=some a→a<t)∧(∀k a,i≤k→ix xs k=some a→t≤a)) (fun p=>(p.2 - p.1).toNat) (s:=(0,(xs.length:Int)))
  ⟨⟨by simp,by simp,by simp⟩,fun k a h1 h2=>by simp at h2;omega,fun k a h1 h2=>by have:=(m6 h2).2.1;simp at h1;omega⟩ (fun⟨i,j⟩ ⟨⟨g1,g2,g3⟩,g4,g5⟩=>by
  dsimp only at g1 g2 g3 g4 g5 ⊢
  unfold B9
  dsimp only
  by_cases c:i<j
  ·rw[if_pos c,half_eq g1 g2 (by omega)]
   obtain⟨a,ha,ga⟩:=i6 (l:=xs) (i:=(i+j) / 2) (by omega) (by omega)
   rw[ha]
   simp only[oB,less_eq,decide_eq_true_eq]
   by_cases c2:a<t
   ·rw[if_pos c2,l9 (by omega) (by omega)]
    refine .inl ⟨_,rfl,⟨⟨by dsimp only;omega,by dsimp only;omega,g3⟩,fun k b k0 k1 hb=> ?_,g5⟩,by dsimp only;omega⟩
    dsimp only at k1
    obtain⟨_,_,gb⟩:=m6 hb
    by_cases e:k=(i+j) / 2
    ·subst e;rw[ha] at hb;cases hb;exact c2
    ·have:=hs.get gb ga (by omega);omega
   ·rw[if_neg c2]
    refine .inl ⟨_,rfl,⟨⟨g1,by dsimp only;omega,by dsimp only;omega⟩,g4,fun k b k0 hb=> ?_⟩,by dsimp only;omega⟩
    dsimp only at k0
    obtain⟨_,_,gb⟩:=m6 hb
    by_cases e:k=(i+j) / 2
    ·subst e;rw[ha] at hb;cases hb;omega
    ·have:=hs.get ga gb (by omega);omega
  ·rw[if_neg c]
   have:i=j:=by omega
   subst this
   exact .inr ⟨i,rfl,g1,g3,g4,g5⟩)
 rw[h1]
 simp only[oB]
 refine⟨i,?_,h2,h3,h4,h5⟩
 have nin:(∀a,ix xs i=some a→a ≠ t)→t ∉ xs:=fun hne hin=>by
  obtain⟨k,k0,k1,hk⟩:=m7 hin
  rcases Int.lt_trichotomy k i with c|c|c
  ·have:=h4 k t k0 c hk;omega
  ·subst c;exact hne t hk rfl
  ·obtain⟨b,hb,gb⟩:=i6 (l:=xs) (i:=i) (by omega) (by omega)
   obtain⟨_,_,gk⟩:=m6 hk
   have:=hs.get gb gk (by omega)
   have:=h5 i b (Int.le_refl _) hb
   omega
 by_cases c:i<xs.length
 ·obtain⟨a,ha,ga⟩:=i6 (l:=xs) (i:=i) (by omega) c
  rw[if_pos c,ha]
  simp only[oB]
  by_cases c2:a=t
  ·subst c2
   rw[if_pos rfl,j7 (i7 ha)]
   rfl
  ·rw[if_neg c2]
   simp only[L9,decide_true,Bool.not_true,Bool.false_eq_true,if_false,oB]
   rw[m9 (nin fun b hb=>by rw[ha] at hb;cases hb;exact c2)]
 ·rw[if_neg c]
  simp only[oB]
  rw[m9 (nin fun b hb=>by have:=(m6 hb).2.1;omega)]
theorem bsearch2{xs:Li}(hs:Inc xs)(hl:xs.length≤500000)(t:Int):∃i,v6 xs t=some (i,dec (t ∈ xs)):=
 let ⟨i,h,_⟩:=bsearch_eq hs hl t
 ⟨i,h⟩
theorem containsFunc_eq{l:Li}{f:Int→Option Bool}(p:Int→Prop)(hf:∀x ∈ l,f x=some (dec (p x))):n8 l f=some (dec (∃x ∈ l,p x)):=by
 unfold n8 D1
 rcases y7 (body:=x4 l f) (n:=(l.length:Int)) (fun j=>if dec (∀a,ix l j=some a→¬ p a)=true then none else some j) (by omega) (fun j h0 h1 _=>by
  obtain⟨a,ha,_⟩:=i6 (l:=l) h0 h1
  unfold x4
  rw[ha]
  simp only[oB,hf a (i7 ha)]
  by_cases c:p a
  ·rw[if_pos (j7 c),if_neg (by rw[k8];exact fun h=>h a rfl c)]
  ·rw[if_neg (by rw[m9 c];simp),if_pos (j7 fun b hb=>by cases hb;exact c)]) with⟨h1,h2⟩|⟨j,o,h0,h1,h2,_,h4⟩
 ·rw[h1]
  simp only[oB]
  rw[m9]
  ·rfl
  ·rintro ⟨x,hx,hp⟩
   obtain⟨i,g1,g2,g3⟩:=m7 hx
   have:=h2 i g1 g2
   split at this
   ·rename_i h;exact k8.1 h x g3 hp
   ·cases this
 ·rw[h4]
  split at h2
  ·cases h2
  ·rename_i h
   cases h2
   simp only[oB]
   rw[j7]
   ·simp[h0]
   ·simp only[k8] at h
    obtain⟨a,g1,_⟩:=i6 (l:=l) h0 h1
    refine⟨a,i7 g1,?_⟩
    rcases Classical.em (p a) with c|c
    ·exact c
    ·exact absurd (fun b hb=>by rw[g1] at hb;cases hb;exact c) h
theorem meets_eq{a b:Li}(hb:Inc b)(hl:b.length≤500000):X4 a b=some (dec (∃x ∈ a,x ∈ b)):=by
 unfold X4
 rw[containsFunc_eq (fun x=>x ∈ b) (fun x _=>by
  unfold Y5
  obtain⟨i,h⟩:=bsearch2 hb hl x
  rw[h];rfl)]
 rfl
/-! ### Sorted, and equal neighbours made one -/
theorem compact_spec{l:Li}(hs:l.Pairwise (· ≤ ·)):Inc (ac0 l)∧∀x,x ∈ ac0 l↔x ∈ l:=by
 have key:∀m,m≤l.length→Inc (Go.Lib.compactUpTo l.toArray m)∧(∀x,x ∈ Go.Lib.compactUpTo l.toArray m↔x ∈ l.take m):=by
  intro m
  induction m with
  |zero=>intro _;simp[Go.Lib.compactUpTo]
  |succ m ih=>
   intro hm
   obtain⟨h1,h2⟩:=ih (by omega)
   have hlt:m<l.length:=by omega
   have hd:l.toArray[m]! =l[m]:=by simp[hlt]
   have ht:l.take (m+1)=l.take m++[l[m]]:=by rw[List.take_add_one];simp[hlt]
   rw[Go.Lib.compactUpTo_succ,ht]
   by_cases hk:Go.Lib.keeps l.toArray m=true
   ·rw[if_pos hk,hd]
    refine⟨List.pairwise_append.2 ⟨h1,by simp,fun a ha b hb=> ?_⟩,fun x=>by rw[List.mem_append,List.mem_append,h2]⟩
    simp only[List.mem_singleton] at hb
    subst hb
    have ha':=(h2 a).1 ha
    obtain⟨i,hi,rfl⟩:=List.mem_iff_getElem.1 ha'
    rw[List.length_take] at hi
    rw[List.getElem_take]
    simp only[Go.Lib.keeps,decide_eq_true_eq] at hk
    rcases hk with hk|hk
    ·omega
    ·have hm1:l.toArray[m - 1]! =l[m - 1]:=by simp[show m - 1<l.length by omega]
     rw[hd,hm1] at hk
     have e1:l[m - 1]≤l[m]:=List.pairwise_iff_getElem.1 hs (m - 1) m (by omega) hlt (by omega)
     have e2:l[i]≤l[m - 1]:=by
      rcases Nat.lt_or_ge i (m - 1) with c|c
      ·exact List.pairwise_iff_getElem.1 hs i (m - 1) (by omega) (by omega) c
      ·have:i=m - 1:=by omega
       subst this;exact Int.le_refl _
     omega
   ·rw[if_neg hk,List.append_nil]
    refine⟨h1,fun x=> ?_⟩
    rw[h2,List.mem_append]
    refine⟨.inl,fun h=> ?_⟩
    rcases h with h|h
    ·exact h
    ·simp only[List.mem_singleton] at h
     subst h
     have hm0:m ≠ 0:=fun e=>hk (by simp[Go.Lib.keeps,e])
     have hm1:l.toArray[m - 1]! =l[m - 1]:=by simp[show m - 1<l.length by omega]
     have he:l[m]=l[m - 1]:=by
      simp only[Go.Lib.keeps,decide_eq_true_eq,not_or] at hk
      have h3:l.toArray[m]! =l.toArray[m - 1]! :=Classical.not_not.1 (fun h=>hk.2 h)
      rw[hd,hm1] at h3;exact h3
     rw[he,List.mem_take_iff_getElem]
     exact⟨m - 1,by omega,rfl⟩
 obtain⟨h1,h2⟩:=key l.length (Nat.le_refl _)
 refine⟨?_,fun x=> ?_⟩
 ·simpa[ac0,Go.Lib.compact] using h1
 ·have:=h2 x
  rw[List.take_length] at this
  simpa[ac0,Go.Lib.compact] using this
theorem srt_spec(l:Li):(srt l).Pairwise (· ≤ ·)∧∀x,x ∈ srt l↔x ∈ l:=by
 refine⟨?_,fun x=>by simp[srt]⟩
 have:=List.pairwise_mergeSort (le:=fun x y:Int=>decide (x≤y)) (fun a b c h1 h2=>by simp at h1 h2 ⊢;omega) (fun a b=>by simp;omega) l
 refine this.imp fun h=>by simpa using h
theorem sortL_eq{l:Li}(h:l.length<4611686018427387904):sortL l=some (srt l):=by rw[sortL,if_pos h]
theorem update_inc{s add del:Li}(hd:Inc del)(hl:del.length≤500000)(h1:s.length≤500000)(h2:add.length≤500000):
  ∃r,K0 s add del=some r∧Inc r∧∀x,x ∈ r↔(x ∈ s∧x ∉ del)∨x ∈ add:=by
 unfold K0
 rw[forR_filter (l:=s) (b:=8) (fun a=>a ∉ del) (fun j a c h=>by
  obtain⟨i,hi⟩:=bsearch2 hd hl a
  unfold ad0
  rw[h]
  simp only[oB,hi,w6]
  refine⟨fun hq=> ?_,fun hq=> ?_⟩
  ·rw[if_pos (j7 hq)]
   cases app 8 c [a]<;>rfl
  ·rw[if_neg (by simpa using hq)];rfl) [] (by simp;omega)]
 simp only[oB,List.nil_append]
 have hle:(s.filter fun a=>dec (a ∉ del)).length≤s.length:=List.length_filter_le _ _
 rw[show app 8 (s.filter fun a=>dec (a ∉ del)) add=some ((s.filter fun a=>dec (a ∉ del))++add) by rw[app,if_pos];omega]
 simp only[oB]
 rw[sortL_eq (by rw[List.length_append];omega)]
 simp only[oB]
 obtain⟨e1,e2⟩:=srt_spec ((s.filter fun a=>dec (a ∉ del))++add)
 obtain⟨e3,e4⟩:=compact_spec e1
 refine⟨_,rfl,e3,fun x=> ?_⟩
 rw[e4,e2,List.mem_append,List.mem_filter,k8]
theorem update_eq{s add del:Li}{n:Int}(hn:n≤1000)(hd:Inc del)(hl:del.length≤500000)(hs:SetN s n)(ha:SetN add n):
  K0 s add del=some (R5 (fun x=>(x ∈ s∧x ∉ del)∨x ∈ add) n):=by
 have h1:=hs.len;have h2:=ha.len
 obtain⟨r,e1,e2,e3⟩:=update_inc (s:=s) (add:=add) hd hl (by omega) (by omega)
 rw[e1,SetN.eq_of (n:=n) ⟨e2,fun x hx=> ?_⟩ (fun x _ _=>e3 x)]
 rcases(e3 x).1 hx with h|h
 ·exact hs.2 x h.1
 ·exact ha.2 x h
end Ab
end
section
namespace Ab
open Go
def opSets(o:T7)(n:Int):Prop:=SetN o.pre n∧SetN o.add n∧SetN o.del n∧∀x ∈ o.add,x ∉ o.del
def opCost(o:T7):Prop:=0≤o.cost∧o.cost≤100
structure TaskOk(t:TTask):Prop where
 n0:0≤t.facts
 n1:t.facts≤24
 init:SetN t.init t.facts
 goal:SetN t.goal t.facts
 ops:t.operators.length≤40
 op:∀o ∈ t.operators,opSets o t.facts∧opCost o
theorem fault_no{f:j9}(h:f.code ≠ 0):(!((decide (f.code=0)) && (decide (f.index=0))))=true:=by simp[h]
/-! ### What operators and plans do -/
def noOp:T7:=⟨[],[],[],0⟩
def opAt(t:TTask)(op:Int):T7:=(t.operators[op.toNat]?).getD noOp
theorem ix_op{t:TTask}{op:Int}(h0:0≤op)(h1:op<t.operators.length):ix t.operators op=some (opAt t op):=by
 obtain⟨a,h2,h3⟩:=i6 h0 h1
 rw[h2,opAt,h3];rfl
theorem TaskOk.at{t:TTask}(h:TaskOk t){op:Int}(h0:0≤op)(h1:op<t.operators.length):opSets (opAt t op) t.facts∧opCost (opAt t op):=h.op _ (i7 (ix_op h0 h1))
def can(t:TTask)(s:Li)(op:Int):Prop:=∀x ∈ (opAt t op).pre,x ∈ s
theorem ag0{s:Li}(h:s.length≤1000000):w3 s=some s:=by
 rw[w3,app,if_pos (by simp;omega)];rfl
end Ab
end
section
namespace Ab
open Go
/-! ### States as' numbers -/
def wsN:Li→Nat
 |[]=>0
 |a::l=>2 ^ a.toNat+wsN l
theorem wsN_append:∀{l m:Li},wsN (l++m)=wsN l+wsN m
 |[],m=>by simp[wsN]
 |a::l,m=>by simp only[List.cons_append,wsN,wsN_append (l:=l)];omega
theorem wsN_le:∀{l:Li},(∀x ∈ l,x<24)→wsN l≤l.length * 16777216
 |[],_=>by simp[wsN]
 |a::l,h=>by
  have h1:=wsN_le (l:=l) fun x hx=>h x (List.mem_cons_of_mem _ hx)
  have h2:2 ^ a.toNat≤2 ^ 24:=Nat.pow_le_pow_right (by decide) (by have:=h a (by simp);omega)
  simp only[wsN,List.length_cons]
  omega
theorem wsN_dvd{k:Nat}:∀{l:Li},(∀x ∈ l,k≤x.toNat)→2 ^ k ∣ wsN l
 |[],_=>⟨0,rfl⟩
 |a::l,h=>Nat.dvd_add (Nat.pow_dvd_pow 2 (h a (by simp))) (wsN_dvd fun x hx=>h x (List.mem_cons_of_mem _ hx))
theorem two_pow_no{k:Nat}(h:2 ^ (k+1) ∣ 2 ^ k):False:=by
 have h1:=Nat.le_of_dvd (Nat.two_pow_pos k) h
 have h2:=Nat.two_pow_pos k
 rw[Nat.pow_succ] at h1
 omega
theorem wsN_ne{a:Int}{l m:Li}(ha:0≤a)(hl:∀x ∈ l,a<x)(hm:∀x ∈ m,a<x):wsN (a::l) ≠ wsN m:=fun h=>by
 have d1:2 ^ (a.toNat+1) ∣ wsN l:=wsN_dvd fun x hx=>by have:=hl x hx;omega
 have d2:2 ^ (a.toNat+1) ∣ wsN m:=wsN_dvd fun x hx=>by have:=hm x hx;omega
 rw[← h,wsN] at d2
 exact two_pow_no ((Nat.dvd_add_left d1).1 d2)
theorem wsN_inj:∀{l m:Li},Inc l→Inc m→(∀x ∈ l,0≤x)→(∀x ∈ m,0≤x)→wsN l=wsN m→l=m
 |[],[],_,_,_,_,_=>rfl
 |[],b::m,_,_,_,_,h=>by
  have:=Nat.two_pow_pos b.toNat
  simp only[wsN] at h;omega
 |a::l,[],_,_,_,_,h=>by
  have:=Nat.two_pow_pos a.toNat
  simp only[wsN] at h;omega
 |a::l,b::m,h1,h2,h3,h4,h=>by
  obtain⟨l1,l2⟩:=List.pairwise_cons.1 h1
  obtain⟨m1,m2⟩:=List.pairwise_cons.1 h2
  rcases Int.lt_trichotomy a b with c|c|c
  ·exact absurd h (wsN_ne (h3 a (by simp)) l1 fun x hx=>by
    rcases List.mem_cons.1 hx with rfl|hx
    ·exact c
    ·have:=m1 x hx;omega)
  ·subst c
   simp only[wsN] at h
   rw[wsN_inj l2 m2 (fun x hx=>h3 x (List.mem_cons_of_mem _ hx)) (fun x hx=>h4 x (List.mem_cons_of_mem _ hx)) (by omega)]
  ·exact absurd h.symm (wsN_ne (h4 b (by simp)) m1 fun x hx=>by
    rcases List.mem_cons.1 hx with rfl|hx
    ·exact c
    ·have:=l1 x hx;omega)
theorem SetN.word_inj{s s':Li}{n:Int}(h:SetN s n)(h':SetN s' n)(e:wsN s=wsN s'):s=s':=
 wsN_inj h.1 h'.1 (fun x hx=>(h.2 x hx).1) (fun x hx=>(h'.2 x hx).1) e
theorem word_eq{s:Li}{n:Int}(hs:SetN s n)(hn:n≤24):ah8 s=some (wsN s:Int):=by
 have hl:=hs.len
 unfold ah8
 obtain⟨w,h1,h2⟩:=s8 (body:=am4 s) (n:=(s.length:Int)) (s:=0) (fun j w=>w=(wsN (s.take j.toNat):Int)) (by omega) (by simp[wsN]) (fun j w j0 j1 hP=>by
  obtain⟨a,ha,ga⟩:=i6 (l:=s) j0 j1
  have hb:=hs.2 a (i7 ha)
  have ht:s.take (j+1).toNat=s.take j.toNat++[a]:=by rw[show(j+1).toNat=j.toNat+1 by omega,List.take_add_one,ga];rfl
  have b1:wsN (s.take j.toNat)≤(s.take j.toNat).length * 16777216:=wsN_le fun x hx=>by have:=hs.2 x (List.mem_of_mem_take hx);omega
  have b2:(s.take j.toNat).length≤24:=by rw[List.length_take];omega
  have b4:(s.take j.toNat).length * 16777216≤24 * 16777216:=Nat.mul_le_mul_right _ b2
  obtain⟨q,hq⟩:∃q:Nat,q=2 ^ a.toNat:=⟨_,rfl⟩
  have b3:q≤16777216:=by rw[hq];exact(Nat.pow_le_pow_right (by decide) (by omega):2 ^ a.toNat≤2 ^ 24)
  have ep:(2:Int) ^ a.toNat=(q:Int):=by rw[hq];push_cast;rfl
  unfold am4
  rw[ha]
  simp only[oB]
  rw[IntKind.wrap_u64,Int.emod_eq_of_lt (by omega) (by omega),chk0,if_neg (by omega)]
  simp only[oB]
  have es:shlW .i64 1 a=(q:Int):=by
   unfold shlW
   rw[show min a.toNat (IntKind.i64).bits=a.toNat by simp only[IntKind.bits];omega,Int.one_mul,ep]
   exact l9 (by omega) (by omega)
  rw[es,l9 (by omega) (by omega),ht,wsN_append,hP]
  refine⟨_,rfl,?_⟩
  simp only[wsN,← hq]
  omega)
 rw[h1,h2,Int.toNat_natCast,List.take_length]
 rfl
end Ab
end
section
namespace Ab
open Go
theorem setN1(a:Int){n:Int}(h0:0≤a)(h1:a<n):SetN [a] n:=⟨by simp,by simp[h0,h1]⟩
theorem subL_drop{α:Type}{l:List α}{i:Int}(h0:0≤i)(h1:i≤l.length):subL l i (l.length:Int)=some (l.drop i.toNat):=by
 rw[subL,if_pos (by omega)]
 rw[show((l.length:Int)).toNat=l.length by omega,List.take_length]
theorem subL_take{α:Type}{l:List α}{i:Int}(h0:0≤i)(h1:i≤l.length):subL l 0 i=some (l.take i.toNat):=by
 rw[subL,if_pos (by omega)];rfl
end Ab
end
section
namespace Ab
open Go
def llt:Li→Li→Prop
 |[],[]=>False
 |[],_::_=>True
 |_::_,[]=>False
 |a::l,b::m=>a<b∨a=b∧llt l m
theorem I3:∀l:Li,¬ llt l l
 |[]=>id
 |a::l=>fun h=>by
  rcases h with h|⟨_,h⟩
  ·omega
  ·exact I3 l h
theorem G7:∀{a b c:Li},llt a b→llt b c→llt a c
 |[],[],_,h,_=>h.elim
 |[],_::_,[],_,h=>h.elim
 |[],_::_,_::_,_,_=>trivial
 |_::_,[],_,h,_=>h.elim
 |_::_,_::_,[],_,h=>h.elim
 |x::a,y::b,z::c,h,g=>by
  rcases h with h|⟨rfl,h⟩<;>rcases g with g|⟨rfl,g⟩
  ·exact .inl (by omega)
  ·exact .inl h
  ·exact .inl g
  ·exact .inr ⟨rfl,G7 h g⟩
theorem T5:∀a b:Li,llt a b∨a=b∨llt b a
 |[],[]=>.inr (.inl rfl)
 |[],_::_=>.inl trivial
 |_::_,[]=>.inr (.inr trivial)
 |x::a,y::b=>by
  rcases Int.lt_trichotomy x y with h|rfl|h
  ·exact .inl (.inl h)
  ·rcases T5 a b with h|rfl|h
   ·exact .inl (.inr ⟨rfl,h⟩)
   ·exact .inr (.inl rfl)
   ·exact .inr (.inr (.inr ⟨rfl,h⟩))
  ·exact .inr (.inr (.inl h))
theorem llt_asymm{a b:Li}(h:llt a b)(g:llt b a):False:=I3 a (G7 h g)
noncomputable def cmpL(a b:Li):Int:=if dec (llt a b)=true then -1 else if dec (a=b)=true then 0 else 1
theorem S8{a b:Li}:cmpL a b<0↔llt a b:=by
 unfold cmpL
 by_cases h:llt a b
 ·rw[ifP h];simp[h]
 ·rw[ifN h]
  split<;>simp[h]
theorem cmpL_eq{a b:Li}:cmpL a b=0↔a=b:=by
 unfold cmpL
 by_cases h:llt a b
 ·rw[ifP h]
  constructor
  ·intro e;omega
  ·rintro rfl;exact absurd h (I3 _)
 ·rw[ifN h]
  by_cases g:a=b
  ·rw[ifP g];simp[g]
  ·rw[ifN g];simp[g]
theorem cmpL_ge{a b:Li}:0≤cmpL a b↔¬ llt a b:=by rw[← S8];omega
theorem cmpInt_eq(x y:Int):P8 x y=some (if x<y then -1 else if y<x then 1 else 0):=by
 unfold P8 G8
 simp only[decide_true,Bool.not_true,oB,Bool.false_eq_true,if_false]
 split
 ·rfl
 ·split<;>rfl
theorem ar6:∀{a b:Li} (k:Nat),k≤a.length→k≤b.length→a.take k=b.take k→(llt a b↔llt (a.drop k) (b.drop k))
 |_,_,0,_,_,_=>by simp
 |[],_,k+1,h,_,_=>by simp at h
 |_::_,[],k+1,_,h,_=>by simp at h
 |x::a,y::b,k+1,h1,h2,h3=>by
  simp only[List.take_succ_cons,List.cons.injEq] at h3
  obtain⟨rfl,h3⟩:=h3
  simp only[List.drop_succ_cons]
  rw[← ar6 k (by simpa using h1) (by simpa using h2) h3]
  simp[llt]
theorem ae9(a b:Li):slices_Compare_int_int a b=some (cmpL a b):=by
 unfold slices_Compare_int_int
 rcases Q9 (body:=F6 a b) (n:=(a.length:Int)) (s:=()) (fun j _=>j≤b.length∧a.take j.toNat=b.take j.toNat) (fun o=>o=cmpL a b) (by omega) ⟨by omega,by simp⟩ (fun j _ j0 j1 ⟨k1,k2⟩=>by
  obtain⟨x,hx,gx⟩:=i6 (l:=a) j0 j1
  have hxl:=(lG.1 gx).2
  unfold F6
  rw[hx]
  simp only[oB]
  have hd:=ar6 (a:=a) (b:=b) j.toNat (by omega) (by omega) k2
  have da:a.drop j.toNat=x::a.drop (j.toNat+1):=by rw[← hxl];exact List.drop_eq_getElem_cons (by omega)
  by_cases c:(b.length:Int)≤j
  ·rw[if_pos c]
   refine .inr ⟨_,rfl,?_⟩
   have db:b.drop j.toNat=[]:=List.drop_of_length_le (by omega)
   rw[da,db] at hd
   unfold cmpL
   rw[ifN (fun h=>(hd.1 h).elim),ifN]
   rintro rfl;omega
  ·rw[if_neg c]
   obtain⟨y,hy,gy⟩:=i6 (l:=b) (i:=j) j0 (by omega)
   have hyl:=(lG.1 gy).2
   have db:b.drop j.toNat=y::b.drop (j.toNat+1):=by rw[← hyl];exact List.drop_eq_getElem_cons (by omega)
   rw[hy]
   simp only[oB,cmpInt_eq]
   rw[da,db] at hd
   have hne:x ≠ y→a ≠ b:=fun h e=>by subst e;rw[hx] at hy;cases hy;exact h rfl
   rcases Int.lt_trichotomy x y with h|rfl|h
   ·rw[if_pos h,if_neg (by decide)]
    refine .inr ⟨_,rfl,?_⟩
    unfold cmpL
    rw[ifP (hd.2 (.inl h))]
   ·simp only[Int.lt_irrefl,if_false,if_true]
    refine .inl ⟨(),Y,by omega,?_⟩
    rw[show(j+1).toNat=j.toNat+1 by omega,List.take_add_one,List.take_add_one,gx,gy,k2]
   ·rw[if_neg (show ¬ x<y by omega),if_pos h,if_neg (by decide)]
    refine .inr ⟨_,rfl,?_⟩
    unfold cmpL
    rw[ifN,ifN (hne (by omega))]
    intro g
    rcases hd.1 g with g|⟨g,_⟩<;>omega) with⟨_,r1,r2,r3⟩|⟨o,r1,rfl⟩
 ·rw[r1]
  simp only[oB]
  have hd:=ar6 (a:=a) (b:=b) a.length (Nat.le_refl _) (by omega) (by simpa using r3)
  have da:a.drop a.length=[]:=by simp
  rw[da] at hd
  have e3:a=b.take a.length:=by simpa using r3
  by_cases c:(a.length:Int)<b.length
  ·rw[if_pos c]
   have:b.drop a.length ≠ []:=by simp;omega
   unfold cmpL
   rw[ifP]
   rw[hd]
   cases h:b.drop a.length with
   |nil=>exact absurd h this
   |cons x l=>trivial
  ·rw[if_neg c]
   have:a=b:=by rw[e3,List.take_of_length_le (by omega)]
   rw[cmpL_eq.2 this]
 ·rw[r1];rfl
theorem cmp_ok:CmpOk slices_Compare_int_int cmpL:=by
 refine⟨ae9,⟨fun x=> ?_,fun x y z h1 h2=> ?_,fun x y z h1 h2=> ?_⟩,fun a b h1 h2=> ?_⟩
 ·simp only[Go.Proofs.ltOf,decide_eq_false_iff_not,S8]
  exact I3 x
 ·simp only[Go.Proofs.ltOf,decide_eq_true_eq,S8] at h1 h2 ⊢
  exact G7 h1 h2
 ·simp only[Go.Proofs.ltOf,decide_eq_false_iff_not,S8] at h1 h2 ⊢
  intro h
  rcases T5 x y with g|rfl|g
  ·exact h1 g
  ·exact h2 h
  ·exact h2 (G7 g h)
 ·rw[S8] at h1 h2
  rcases T5 a b with g|g|g
  ·exact absurd g h1
  ·exact g
  ·exact absurd g h2
/-! ### Lists compared -/
theorem listEq{α:Type}{a b:List α}{body:Int→Unit→Option (Unit⊕Bool)}(hl:a.length=b.length)(hb:∀j x y,ix a j=some x→ix b j=some y→(x=y∧body j ()=some (.inl ()))∨(x ≠ y∧body j ()=some (.inr false))):
  (Option.bind (rngX 0 (a.length:Int) body ()) fun| .inl _=>some true| .inr x=>some x)=some (dec (a=b)):=by
 rcases y7 (body:=body) (n:=(a.length:Int)) (fun j=>if dec (ix a j=ix b j)=true then none else some false) (by omega) (fun j h0 h1 _=>by
  obtain⟨x,hx,_⟩:=i6 (l:=a) h0 h1
  obtain⟨y,hy,_⟩:=i6 (l:=b) (i:=j) h0 (by omega)
  rcases hb j x y hx hy with⟨e,h⟩|⟨e,h⟩
  ·rw[h,ifP (by rw[hx,hy,e])]
  ·rw[h,ifN (by rw[hx,hy];simpa using e)]) with⟨h1,h2⟩|⟨j,o,h0,h1,h2,_,h4⟩
 ·rw[h1,j7]
  ·rfl
  ·refine List.ext_getElem? fun k=> ?_
   by_cases hk:k<a.length
   ·have:=h2 k (by omega) (by omega)
    split at this
    ·rename_i e
     have:=k8.1 e
     rwa [o7,o7] at this
    ·cases this
   ·rw[List.getElem?_eq_none (by omega),List.getElem?_eq_none (by omega)]
 ·rw[h4]
  split at h2
  ·cases h2
  ·rename_i e
   cases h2
   rw[m9 (fun h=>e (j7 (by rw[h])))];rfl
theorem ints_eq(a b:Li):K9 a b=some (dec (a=b)):=by
 unfold K9
 by_cases hl:(a.length:Int)=b.length
 ·rw[if_pos hl]
  refine listEq (by omega) fun j x y hx hy=> ?_
  unfold an2
  simp only[hx,hy,oB]
  by_cases e:x=y
  ·rw[if_pos e];exact .inl ⟨e,rfl⟩
  ·rw[if_neg e];exact .inr ⟨e,rfl⟩
 ·rw[if_neg hl,m9 (fun h=>hl (by rw[h]))]
theorem equal_eq(a b:Li):A7 a b=some (dec (a=b)):=by
 unfold A7
 by_cases hl:(a.length:Int)=b.length
 ·rw[if_pos hl]
  refine listEq (by omega) fun j x y hx hy=> ?_
  unfold N9
  simp only[hx,hy,oB]
  by_cases e:x=y
  ·rw[if_pos e];exact .inl ⟨e,rfl⟩
  ·rw[if_neg e];exact .inr ⟨e,rfl⟩
 ·rw[if_neg hl,m9 (fun h=>hl (by rw[h]))]
theorem place_eq(l:LL)(s:Li):∃r,ar8 l s=some r∧((r= -1∧s ∉ l)∨(0≤r∧r<l.length∧ix l r=some s∧∀j,0≤j→j<r→ix l j ≠ some s)):=by
 unfold ar8
 rcases y7 (body:=ai8 l s) (n:=(l.length:Int)) (fun j=>if dec (ix l j=some s)=true then some j else none) (by omega) (fun j h0 h1 _=>by
  obtain⟨x,hx,_⟩:=i6 (l:=l) h0 h1
  unfold ai8
  simp only[hx,oB,ints_eq]
  by_cases e:x=s
  ·rw[ifP e,ifP (by rw[e])]
  ·rw[ifN e,ifN (by simpa using e)]) with⟨h1,h2⟩|⟨j,o,h0,h1,h2,h3,h4⟩
 ·rw[h1]
  refine⟨-1,rfl,.inl ⟨rfl,fun hs=> ?_⟩⟩
  obtain⟨i,i0,i1,hi⟩:=m7 hs
  have:=h2 i i0 i1
  rw[ifP hi] at this
  cases this
 ·rw[h4]
  split at h2
  ·rename_i e
   cases h2
   refine⟨_,rfl,.inr ⟨h0,h1,k8.1 e,fun i i0 i1=> ?_⟩⟩
   have:=h3 i i0 i1
   split at this
   ·cases this
   ·rename_i e
    exact fun h=>e (j7 h)
  ·cases h2
/-! ### Ordered lists -/
abbrev Ord(l:LL):Prop:=l.Pairwise llt
theorem Ord.ext:∀{l m:LL},Ord l→Ord m→(∀x,x ∈ l↔x ∈ m)→l=m
 |[],[],_,_,_=>rfl
 |[],b::m,_,_,h=>absurd ((h b).2 (by simp)) (by simp)
 |a::l,[],_,_,h=>absurd ((h a).1 (by simp)) (by simp)
 |a::l,b::m,hl,hm,h=>by
  obtain⟨l1,l2⟩:=List.pairwise_cons.1 hl
  obtain⟨m1,m2⟩:=List.pairwise_cons.1 hm
  have hab:a=b:=by
   rcases List.mem_cons.1 ((h a).1 (by simp)) with e|e
   ·exact e
   ·rcases List.mem_cons.1 ((h b).2 (by simp)) with e'|e'
    ·exact e'.symm
    ·exact(llt_asymm (l1 b e') (m1 a e)).elim
  subst hab
  rw[Ord.ext l2 m2 fun x=>⟨fun hx=> ?_,fun hx=> ?_⟩]
  ·rcases List.mem_cons.1 ((h x).1 (by simp[hx])) with e|e
   ·subst e;exact absurd (l1 x hx) (I3 x)
   ·exact e
  ·rcases List.mem_cons.1 ((h x).2 (by simp[hx])) with e|e
   ·subst e;exact absurd (m1 x hx) (I3 x)
   ·exact e
theorem Ord.get{l:LL}(h:Ord l){i j:Int}{a b:Li}(hi:ix l i=some a)(hj:ix l j=some b)(hij:i<j):llt a b:=by
 obtain⟨i0,i1,hi⟩:=m6 hi
 obtain⟨j0,j1,hj⟩:=m6 hj
 obtain⟨h1,rfl⟩:=lG.1 hi
 obtain⟨h2,rfl⟩:=lG.1 hj
 exact List.pairwise_iff_getElem.1 h _ _ h1 h2 (by omega)
theorem Ord.inj{l:LL}(h:Ord l){i j:Int}{a:Li}(hi:ix l i=some a)(hj:ix l j=some a):i=j:=by
 rcases Int.lt_trichotomy i j with e|e|e
 ·exact absurd (h.get hi hj e) (I3 a)
 ·exact e
 ·exact absurd (h.get hj hi e) (I3 a)
def ddN(l:LL):Nat→LL
 |0=>[]
 |m+1=>ddN l m++if decide (m=0∨l[m]? ≠ l[m - 1]?)=true then l[m]?.toList else []
theorem ddN_spec{l:LL}(hs:l.Pairwise fun a b=>¬ llt b a):∀m,m≤l.length→Ord (ddN l m)∧∀x,x ∈ ddN l m↔x ∈ l.take m:=by
 intro m
 induction m with
 |zero=>intro _;simp[ddN]
 |succ m ih=>
  intro hm
  obtain⟨h1,h2⟩:=ih (by omega)
  have hlt:m<l.length:=by omega
  have ht:l.take (m+1)=l.take m++[l[m]]:=by rw[List.take_add_one];simp[hlt]
  rw[ddN,ht]
  by_cases hk:m=0∨l[m]? ≠ l[m - 1]?
  ·rw[if_pos (by simpa using hk)]
   simp only[List.getElem?_eq_getElem hlt,Option.toList_some]
   refine⟨List.pairwise_append.2 ⟨h1,by simp,fun a ha b hb=> ?_⟩,fun x=>by rw[List.mem_append,List.mem_append,h2]⟩
   simp only[List.mem_singleton] at hb
   subst hb
   have ha':=(h2 a).1 ha
   obtain⟨i,hi,rfl⟩:=List.mem_iff_getElem.1 ha'
   rw[List.length_take] at hi
   rw[List.getElem_take]
   rcases hk with hk|hk
   ·omega
   ·have hm1:m - 1<l.length:=by omega
    rw[List.getElem?_eq_getElem hlt,List.getElem?_eq_getElem hm1] at hk
    have e1:¬ llt l[m] l[m - 1]:=List.pairwise_iff_getElem.1 hs (m - 1) m hm1 hlt (by omega)
    have e2:llt l[m - 1] l[m]:=by
     rcases T5 l[m - 1] l[m] with h|h|h
     ·exact h
     ·exact absurd (by rw[h]) hk
     ·exact absurd h e1
    by_cases hi2:i=m - 1
    ·subst hi2;exact e2
    ·have e3:¬ llt l[m - 1] l[i]:=List.pairwise_iff_getElem.1 hs i (m - 1) (by omega) hm1 (by omega)
     rcases T5 l[i] l[m] with h|h|h
     ·exact h
     ·rw[h] at e3;exact absurd e2 e3
     ·exact absurd (G7 e2 h) e3
  ·rw[if_neg (by simpa using hk),List.append_nil]
   refine⟨h1,fun x=> ?_⟩
   rw[h2,List.mem_append]
   refine⟨.inl,fun h=> ?_⟩
   rcases h with h|h
   ·exact h
   ·simp only[List.mem_singleton] at h
    subst h
    have hm0:m ≠ 0:=fun e=>hk (.inl e)
    have he:l[m]? =l[m - 1]? :=Classical.not_not.1 fun e=>hk (.inr e)
    rw[List.getElem?_eq_getElem hlt,List.getElem?_eq_getElem (show m - 1<l.length by omega)] at he
    rw[Option.some.inj he,List.mem_take_iff_getElem]
    exact⟨m - 1,by omega,rfl⟩
theorem ddN_len(l:LL):∀m,(ddN l m).length≤m
 |0=>by simp[ddN]
 |m+1=>by
  have:=ddN_len l m
  rw[ddN,List.length_append]
  split
  ·have:(l[m]?.toList).length≤1:=by cases l[m]? <;>simp
   omega
  ·simp;omega
theorem ddN_all{l:LL}:∀m,m≤l.length→(∀i,0<i→i<m→l[i]? ≠ l[i - 1]?)→ddN l m=l.take m
 |0,_,_=>by simp[ddN]
 |m+1,hm,h=>by
  rw[ddN,ddN_all m (by omega) fun i h0 h1=>h i h0 (by omega),if_pos,List.take_add_one]
  rw[decide_eq_true_eq]
  by_cases e:m=0
  ·exact .inl e
  ·exact .inr (h m (by omega) (by omega))
theorem compactF_eq{l:LL}(hl:l.length≤1000000):z7 l=some (ddN l l.length):=by
 unfold z7
 by_cases c0:(l.length:Int)<2
 ·rw[if_pos c0,ddN_all l.length (Nat.le_refl _) fun i h0 h1=>by omega,List.take_length]
 ·rw[if_neg c0]
  have key:=rngN_inv (body:=u7 l) (fun j _=>∀i:Nat,0<i→(i:Int)<j→l[i]? ≠ l[i - 1]?) (fun o=>o=ddN l l.length) ((l.length:Int) - 1).toNat 1 () (fun i h0 h1=>by omega) (fun j _ j0 j1 hP=>by
   obtain⟨a,ha,ga⟩:=i6 (l:=l) (i:=j) (by omega) (by omega)
   obtain⟨b,hb,gb⟩:=i6 (l:=l) (i:=j - 1) (by omega) (by omega)
   unfold u7
   simp only[ha,hb,oB,equal_eq]
   have ej:(j - 1).toNat=j.toNat - 1:=by omega
   rw[ej] at gb
   by_cases c:a=b
   ·rw[ifP c]
    subst c
    right
    rw[show cutV (l.length:Int) j (l.length:Int)=some () by rw[cutV,if_pos (by omega)]]
    simp only[oB]
    obtain⟨⟨cs,kv⟩,r1,r2,r3,r4,r5,r6⟩:=forN_inv (body:=x7 l j) (fun k2 p=>p.1.length=l.length∧j≤p.2∧p.2≤j+k2 - 1∧p.1.take p.2.toNat=ddN l (j+k2).toNat∧∀i:Nat,j+k2 - 1≤i→p.1[i]? =l[i]?) ((l.length:Int) - j - 1).toNat 1 (l,j) ⟨rfl,by simp,by dsimp only;omega,by
      dsimp only
      rw[show(j+1).toNat=j.toNat+1 by omega,ddN,if_neg,List.append_nil,ddN_all j.toNat (by omega) fun i h0 h1=>hP i h0 (by omega)]
      rw[decide_eq_true_eq]
      rintro (h|h)
      ·omega
      ·exact h (ga.trans gb.symm),fun i _=>rfl⟩ (fun k2 ⟨cs,kv⟩ k0 k1 ⟨g1,g2,g3,g4,g5⟩=>by
      dsimp only at g1 g2 g3 g4 g5 ⊢
      obtain⟨x,hx,gx⟩:=i6 (l:=l) (i:=j+k2) (by omega) (by omega)
      obtain⟨y,hy,gy⟩:=i6 (l:=l) (i:=j+k2 - 1) (by omega) (by omega)
      have iv:∀i:Int,0≤i→i<(l.length:Int) - j→ixV cs (0+j) ((l.length:Int) - j) i=ix cs (j+i):=fun i h0 h1=>by
       rw[ixV,if_pos (by omega),Int.zero_add]
      have same:∀i:Int,j+k2 - 1≤i→ix cs i=ix l i:=fun i hi=>by
       have:=g5 i.toNat (by omega)
       simp only[ix]
       rw[this]
      unfold x7
      dsimp only
      rw[iv k2 (by omega) (by omega),iv (k2 - 1) (by omega) (by omega),show j+(k2 - 1)=j+k2 - 1 by omega,same _ (by omega),same _ (by omega),hx,hy]
      simp only[oB,equal_eq,w6]
      have ek:(j+(k2+1)).toNat=(j+k2).toNat+1:=by omega
      have ek1:(j+k2 - 1).toNat=(j+k2).toNat - 1:=by omega
      rw[ek1] at gy
      by_cases cx:x=y
      ·rw[ifNN cx]
       refine⟨_,rfl,g1,g2,by omega,?_,fun i hi=>g5 i (by omega)⟩
       dsimp only
       rw[ek,ddN,if_neg,List.append_nil]
       ·exact g4
       ·rw[decide_eq_true_eq]
        rintro (h|h)
        ·omega
        ·exact h (by rw[gx,gy,cx])
      ·rw[ifP cx]
       obtain⟨z,hz,gz⟩:=i6 (l:=cs) (i:=kv) (by omega) (by omega)
       simp only[hz,oB]
       rw[l9 (by omega) (by omega)]
       refine⟨_,rfl,by rw[lS];exact g1,by omega,by omega,?_,fun i hi=> ?_⟩
       ·dsimp only
        rw[ek,ddN,if_pos,gx,show(kv+1).toNat=kv.toNat+1 by omega,List.take_add_one,List.getElem?_set,if_pos rfl,if_pos (by omega),List.take_set_of_le (Nat.le_refl _),g4]
        rw[decide_eq_true_eq]
        exact .inr (by rw[gx,gy];simpa using cx)
       ·dsimp only
        rw[List.getElem?_set,if_neg (by omega)]
        exact g5 i (by omega))
    have ef:forR 1 ((l.length:Int) - j) (x7 l j) (l,j)=some (cs,kv):=r1
    dsimp only at r2 r3 r4 r5 r6
    rw[ef]
    simp only[oB]
    have hcl:(clrL cs (0+kv) ((cs.length:Int) - kv) []).length=cs.length:=by simp[clrL];omega
    rw[show cutV (cs.length:Int) kv (cs.length:Int)=some () by rw[cutV,if_pos (by omega)]]
    simp only[oB,hcl]
    rw[show cutV (cs.length:Int) 0 kv=some () by rw[cutV,if_pos (by omega)]]
    refine⟨_,rfl,?_⟩
    have e1:u5 (clrL cs (0+kv) ((cs.length:Int) - kv) []) 0 kv=cs.take kv.toNat:=by
     simp only[u5,clrL,Int.zero_add,Int.toNat_zero,List.drop_zero]
     rw[List.append_assoc,List.take_append_of_le_length (by simp;omega),List.take_take,Nat.min_self]
    rw[e1,r5]
    congr 1
    omega
   ·rw[ifN c]
    left
    refine⟨(),rfl,fun i h0 h1=> ?_⟩
    by_cases e:(i:Int)=j
    ·have:i=j.toNat:=by omega
     subst this
     rw[ga,gb]
     simpa using c
    ·exact hP i h0 (by omega))
  rcases key with⟨_,h1,h2⟩|⟨o,h1,rfl⟩
  ·have:rngX 1 (l.length:Int) (u7 l) ()=some (.inl ()):=h1
   rw[this]
   simp only[oB]
   rw[ddN_all l.length (Nat.le_refl _) fun i h0 h1=>h2 i h0 (by omega),List.take_length]
  ·have:rngX 1 (l.length:Int) (u7 l) ()=some (.inr (ddN l l.length)):=h1
   rw[this];rfl
theorem ai2{l:LL}(hl:l.length≤1000000):∃r,G5 l=some r∧Ord r∧(∀x,x ∈ r↔x ∈ l)∧r.length≤l.length:=by
 unfold G5
 rw[sortFL_eq (by omega) cmp_ok]
 simp only[oB]
 have hlen:(l.mergeSort fun x y=>decide (¬ cmpL y x<0)).length=l.length:=by simp
 rw[compactF_eq (by rw[hlen];exact hl)]
 have hs:(l.mergeSort fun x y=>decide (¬ cmpL y x<0)).Pairwise fun a b=>¬ llt b a:=by
  have:=List.pairwise_mergeSort (le:=fun x y:Li=>decide (¬ cmpL y x<0)) (fun a b c h1 h2=>by
   simp only[decide_eq_true_eq,S8] at h1 h2 ⊢
   intro h
   rcases T5 b a with g|g|g
   ·exact h1 g
   ·subst g;exact h2 h
   ·exact h2 (G7 h g)) (fun a b=>by
   simp only[Bool.or_eq_true,decide_eq_true_eq,S8]
   by_cases h:llt b a
   ·exact .inr fun g=>llt_asymm h g
   ·exact .inl h) l
  exact this.imp fun h=>by simpa[S8] using h
 obtain⟨h1,h2⟩:=ddN_spec hs _ (Nat.le_refl _)
 refine⟨_,rfl,h1,fun x=> ?_,?_⟩
 ·rw[h2,List.take_length];simp
 ·have:=ddN_len (l.mergeSort fun x y=>decide (¬ cmpL y x<0)) (l.mergeSort fun x y=>decide (¬ cmpL y x<0)).length
  rw[hlen] at this
  rw[hlen];exact this
end Ab
end
section
namespace Ab
open Go
theorem forN_congr{S:Type}{b1 b2:Int→S→Option S}:∀(k:Nat) (i:Int) (s:S),(∀j s,i≤j→j<i+k→b1 j s=b2 j s)→forN b1 k i s=forN b2 k i s
 |0,_,_,_=>rfl
 |k+1,i,s,h=>by
  simp only[forN]
  rw[h i s (by omega) (by omega)]
  cases b2 i s with
  |none=>rfl
  |some s'=>exact forN_congr k (i+1) s' fun j s g1 g2=>h j s (by omega) (by omega)
theorem forR_congr{S:Type}{b1 b2:Int→S→Option S}{lo n:Int}{s:S}(h:∀j s,lo≤j→j<n→b1 j s=b2 j s):forR lo n b1 s=forR lo n b2 s:=
 forN_congr _ _ _ fun j s g1 g2=>h j s g1 (by omega)
/-! ### Binary search by a key -/
def bsl{A B:Type}(xv:List A)(target:B)(cmp:A→B→Option Int):(Int×Int)→Option ((Int×Int)⊕Int):=fun(iv4,j5)=>if iv4<j5 then Option.bind (ix xv (w64 (shrW .u64 ((IntKind.u64).wrap (w64 (iv4+j5))) 1))) fun a27=>Option.bind (cmp a27 target) fun a30=>if a30<0 then some (.inl (w64 ((w64 (shrW .u64 ((IntKind.u64).wrap (w64 (iv4+j5))) 1))+1),j5)) else some (.inl (iv4,w64 (shrW .u64 ((IntKind.u64).wrap (w64 (iv4+j5))) 1))) else some (.inr iv4)
noncomputable def bsf{A B:Type}(xv:List A)(target:B)(cmp:A→B→Option Int):Option (Int×Bool):=Option.bind (Loop (bsl xv target cmp) (0,(xv.length:Int))) fun iv6=>Option.bind (if iv6<(xv.length:Int) then Option.bind (ix xv iv6) fun a43=>Option.bind (cmp a43 target) fun a46=>some (decide (a46=0)) else some false) fun t9=>some (iv6,t9)
theorem ak0{A:Type}{key:A→Li}{xs:List A}(h:Ord (xs.map key)){i j:Int}{a b:A}(hi:ix xs i=some a)(hj:ix xs j=some b)(hij:i<j):llt (key a) (key b):=by
 obtain⟨i0,i1,hi⟩:=m6 hi
 obtain⟨j0,j1,hj⟩:=m6 hj
 refine h.get (i:=i) (j:=j) ?_ ?_ hij
 ·rw[ix,if_pos i0,lM,hi];rfl
 ·rw[ix,if_pos j0,lM,hj];rfl
theorem bsf_full{A:Type}{key:A→Li}{xs:List A}{t:Li}{cmp:A→Li→Option Int}(hs:Ord (xs.map key))(hl:xs.length≤500000)(hc:∀a,cmp a t=some (cmpL (key a) t)):
  ∃i,bsf xs t cmp=some (i,dec (∃a ∈ xs,key a=t))∧0≤i∧(∀k a,ix xs k=some a→key a=t→k=i)∧i≤xs.length∧(∀k a,0≤k→k<i→ix xs k=some a→llt (key a) t)∧(∀k a,i≤k→ix xs k=some a→¬ llt (key a) t):=by
 unfold bsf
 obtain⟨i,h1,h2,h3,h4,h5⟩:=F1 (body:=bsl xs t cmp) (fun p=>(0≤p.1∧p.1≤p.2∧p.2≤xs.length)∧(∀k a,0≤k→k<p.1→ix xs k=some a→llt (key a) t)∧(∀k a,p.2≤k→ix xs k=some a→¬ llt (key a) t))
  (fun i=>0≤i∧i≤xs.length∧(∀k a,0≤k→k<i→ix xs k=some a→llt (key a) t)∧(∀k a,i≤k→ix xs k=some a→¬ llt (key a) t)) (fun p=>(p.2 - p.1).toNat) (s:=(0,(xs.length:Int)))
  ⟨⟨by simp,by simp,by simp⟩,fun k a h1 h2=>by simp at h2;omega,fun k a h1 h2=>by have:=(m6 h2).2.1;simp at h1;omega⟩ (fun⟨i,j⟩ ⟨⟨g1,g2,g3⟩,g4,g5⟩=>by
  dsimp only at g1 g2 g3 g4 g5 ⊢
  unfold bsl
  dsimp only
  by_cases c:i<j
  ·rw[if_pos c,half_eq g1 g2 (by omega)]
   obtain⟨a,ha,ga⟩:=i6 (l:=xs) (i:=(i+j) / 2) (by omega) (by omega)
   rw[ha]
   simp only[oB,hc,S8]
   by_cases c2:llt (key a) t
   ·rw[if_pos (S8.2 c2),l9 (by omega) (by omega)]
    refine .inl ⟨_,rfl,⟨⟨by dsimp only;omega,by dsimp only;omega,g3⟩,fun k b k0 k1 hb=> ?_,g5⟩,by dsimp only;omega⟩
    dsimp only at k1
    by_cases e:k=(i+j) / 2
    ·subst e;rw[ha] at hb;cases hb;exact c2
    ·exact G7 (ak0 hs hb ha (by omega)) c2
   ·rw[if_neg (fun h=>c2 (S8.1 h))]
    refine .inl ⟨_,rfl,⟨⟨g1,by dsimp only;omega,by dsimp only;omega⟩,g4,fun k b k0 hb=> ?_⟩,by dsimp only;omega⟩
    dsimp only at k0
    by_cases e:k=(i+j) / 2
    ·subst e;rw[ha] at hb;cases hb;exact c2
    ·exact fun h=>c2 (G7 (ak0 hs ha hb (by omega)) h)
  ·rw[if_neg c]
   have:i=j:=by omega
   subst this
   exact .inr ⟨i,rfl,g1,g3,g4,g5⟩)
 rw[h1]
 simp only[oB]
 have uniq:∀k a,ix xs k=some a→key a=t→k=i:=fun k a hk he=>by
  rcases Int.lt_trichotomy k i with c|c|c
  ·have:=h4 k a (m6 hk).1 c hk;rw[he] at this;exact absurd this (I3 t)
  ·exact c
  ·obtain⟨b,hb,gb⟩:=i6 (l:=xs) (i:=i) h2 (by have:=(m6 hk).2.1;omega)
   have:=ak0 hs hb hk c
   rw[he] at this
   exact absurd this (h5 i b (Int.le_refl _) hb)
 refine⟨i,?_,h2,uniq,h3,h4,h5⟩
 by_cases c:i<xs.length
 ·obtain⟨a,ha,ga⟩:=i6 (l:=xs) (i:=i) (by omega) c
  rw[if_pos c,ha]
  simp only[oB,hc]
  by_cases c2:key a=t
  ·rw[decide_eq_true (cmpL_eq.2 c2),j7 ⟨a,i7 ha,c2⟩]
  ·rw[decide_eq_false (fun h=>c2 (cmpL_eq.1 h)),m9]
   rintro ⟨b,hb,e⟩
   obtain⟨k,k0,k1,hk⟩:=m7 hb
   have:=uniq k b hk e
   subst this
   rw[hk] at ha;cases ha;exact c2 e
 ·rw[if_neg c]
  simp only[oB]
  rw[m9]
  rintro ⟨b,hb,e⟩
  obtain⟨k,k0,k1,hk⟩:=m7 hb
  have:=uniq k b hk e
  omega
theorem bsf_eq{A:Type}{key:A→Li}{xs:List A}{t:Li}{cmp:A→Li→Option Int}(hs:Ord (xs.map key))(hl:xs.length≤500000)(hc:∀a,cmp a t=some (cmpL (key a) t)):
  ∃i,bsf xs t cmp=some (i,dec (∃a ∈ xs,key a=t))∧0≤i∧∀k a,ix xs k=some a→key a=t→k=i:=by
 obtain⟨i,h1,h2,h3,_⟩:=bsf_full hs hl hc
 exact⟨i,h1,h2,h3⟩
theorem ac8{xs:LL}{t:Li}(hs:Ord xs)(hl:xs.length≤500000):∃i,m8 xs t slices_Compare_int_int=some (i,dec (t ∈ xs))∧0≤i∧∀k,ix xs k=some t→k=i:=by
 obtain⟨i,h1,h2,h3⟩:=bsf_eq (key:=fun a=>a) (xs:=xs) (t:=t) (cmp:=slices_Compare_int_int) (by simpa using hs) hl (fun a=>ae9 a t)
 refine⟨i,?_,h2,fun k hk=>h3 k t hk rfl⟩
 have:m8 xs t slices_Compare_int_int=bsf xs t slices_Compare_int_int:=rfl
 rw[this,h1]
 simp
/-! ### The order that the specification tells -/
theorem before_eq{a b:Li}(ha:a.length≤1000000):ab0 a b=some (dec (llt a b)):=by
 unfold ab0
 obtain⟨o,h1,h2⟩:=F1 (body:=ag9 a b) (fun k=>0≤k∧k≤a.length∧k≤b.length∧a.take k.toNat=b.take k.toNat) (fun o=>(match o with| .inl _=>some (decide ((a.length:Int)<(b.length:Int)))| .inr x=>some x)=some (dec (llt a b))) (fun k=>(a.length - k).toNat) (s:=0) ⟨by omega,by omega,by omega,by simp⟩ (fun k ⟨g0,g1,g2,g3⟩=>by
  have hd:=ar6 (a:=a) (b:=b) k.toNat (by omega) (by omega) g3
  unfold ag9
  by_cases c:k<a.length∧k<b.length
  ·rw[if_pos (by simpa using c)]
   obtain⟨x,hx,gx⟩:=i6 (l:=a) g0 c.1
   obtain⟨y,hy,gy⟩:=i6 (l:=b) g0 c.2
   have da:a.drop k.toNat=x::a.drop (k.toNat+1):=by
    obtain⟨hlt,rfl⟩:=lG.1 gx
    exact List.drop_eq_getElem_cons hlt
   have db:b.drop k.toNat=y::b.drop (k.toNat+1):=by
    obtain⟨hlt,rfl⟩:=lG.1 gy
    exact List.drop_eq_getElem_cons hlt
   rw[da,db] at hd
   simp only[hx,hy,oB]
   by_cases e:x=y
   ·subst e
    rw[if_pos rfl,l9 (by omega) (by omega)]
    refine .inl ⟨k+1,rfl,⟨by omega,by omega,by omega,?_⟩,by omega⟩
    rw[show(k+1).toNat=k.toNat+1 by omega,List.take_add_one,List.take_add_one,gx,gy,g3]
   ·rw[if_neg e]
    refine .inr ⟨_,rfl,?_⟩
    dsimp only
    rw[F0]
    refine congrArg some (v7 ?_)
    rw[hd]
    exact⟨fun h=>.inl h,fun h=>h.resolve_right fun g=>e g.1⟩
  ·rw[if_neg (by simpa using c)]
   refine .inr ⟨_,rfl,?_⟩
   dsimp only
   rw[F0]
   refine congrArg some (v7 ?_)
   rw[hd]
   by_cases ca:k<a.length
   ·have db:b.drop k.toNat=[]:=List.drop_of_length_le (by omega)
    rw[db]
    constructor
    ·intro h;omega
    ·intro h;cases h':a.drop k.toNat with
     |nil=>rw[h'] at h;exact h.elim
     |cons z l=>rw[h'] at h;exact h.elim
   ·have da:a.drop k.toNat=[]:=List.drop_of_length_le (by omega)
    rw[da]
    constructor
    ·intro h
     cases h':b.drop k.toNat with
     |nil=>have:=List.drop_eq_nil_iff.1 h';omega
     |cons z l=>trivial
    ·intro h
     cases h':b.drop k.toNat with
     |nil=>rw[h'] at h;exact h.elim
     |cons z l=>
      have:¬ b.length≤k.toNat:=fun g=>by rw[List.drop_of_length_le g] at h';cases h'
      omega)
 rw[h1]
 simp only[oB]
 exact h2
theorem ord_append{l m:LL}(hl:Ord l)(hm:Ord m)(h:∀a ∈ l,∀b ∈ m,llt a b):Ord (l++m):=List.pairwise_append.2 ⟨hl,hm,h⟩
theorem insert_eq{l:LL}(h:Ord l)(hl:l.length≤1000000)(hw:∀x ∈ l,x.length≤1000000)(s:Li):∃r,ah4 l s=some r∧Ord r∧(∀x,x ∈ r↔x=s∨x ∈ l)∧r.length≤l.length+1:=by
 unfold ah4
 obtain⟨k,h1,k0,k1,k2,k3⟩:=F1 (body:=ag3 l s) (fun k=>0≤k∧k≤l.length∧∀i a,i<k→ix l i=some a→llt a s) (fun k=>0≤k∧k≤l.length∧(∀i a,i<k→ix l i=some a→llt a s)∧∀a,ix l k=some a→¬ llt a s) (fun k=>(l.length - k).toNat) (s:=0) ⟨by omega,by omega,fun i a hi ha=>by have:=(m6 ha).1;omega⟩ (fun k ⟨g0,g1,g2⟩=>by
  unfold ag3
  by_cases c:k<l.length
  ·obtain⟨a,ha,ga⟩:=i6 (l:=l) g0 c
   rw[if_pos c,ha]
   simp only[oB,before_eq (hw a (i7 ha))]
   by_cases c2:llt a s
   ·rw[ifP c2,l9 (by omega) (by omega)]
    refine .inl ⟨_,rfl,⟨by omega,by omega,fun i b hi hb=> ?_⟩,by omega⟩
    by_cases e:i=k
    ·subst e;rw[ha] at hb;cases hb;exact c2
    ·exact g2 i b (by omega) hb
   ·rw[ifN c2]
    exact .inr ⟨k,rfl,g0,g1,g2,fun b hb=>by rw[ha] at hb;cases hb;exact c2⟩
  ·rw[if_neg c]
   exact .inr ⟨k,rfl,g0,g1,g2,fun b hb=>by have:=(m6 hb).2.1;omega⟩)
 rw[h1]
 simp only[oB]
 have step:(Option.bind (if k<(l.length:Int) then Option.bind (ix l k) fun a27=>Option.bind (K9 a27 s) fun a30=>some a30 else some false) fun t9=>if t9=true then some l else Option.bind (subL l 0 k) fun a36=>Option.bind (app 24 ([]:LL) a36) fun a37=>Option.bind (app 24 a37 [s]) fun a40=>Option.bind (subL l k (l.length:Int)) fun a43=>Option.bind (app 24 a40 a43) fun a44=>some a44)=if dec (ix l k=some s)=true then some l else some (l.take k.toNat++[s]++l.drop k.toNat):=by
  have e:(if k<(l.length:Int) then Option.bind (ix l k) fun a27=>Option.bind (K9 a27 s) fun a30=>some a30 else some false)=some (dec (ix l k=some s)):=by
   by_cases c:k<l.length
   ·obtain⟨a,ha,ga⟩:=i6 (l:=l) k0 c
    rw[if_pos c,ha]
    simp only[oB,ints_eq]
    exact congrArg some (v7 (by simp))
   ·rw[if_neg c,m9]
    intro h;have:=(m6 h).2.1;omega
  rw[e]
  simp only[oB]
  by_cases c:ix l k=some s
  ·rw[ifP c,ifP c]
  ·rw[ifN c,ifN c,subL_take k0 (by omega),subL_drop k0 (by omega)]
   simp only[oB]
   rw[app,if_pos (by simp;omega)]
   simp only[oB,List.nil_append]
   rw[app,if_pos (by simp;omega)]
   simp only[oB]
   rw[app,if_pos (by simp;omega)]
   rfl
 rw[step]
 by_cases c:ix l k=some s
 ·rw[ifP c]
  exact⟨l,rfl,h,fun x=>⟨.inr,fun g=>g.elim (fun e=>e ▸ i7 c) id⟩,by omega⟩
 ·rw[ifN c]
  refine⟨_,rfl,?_,fun x=> ?_,by simp;omega⟩
  ·have ht:Ord (l.take k.toNat):=h.sublist (List.take_sublist _ _)
   have hd:Ord (l.drop k.toNat):=h.sublist (List.drop_sublist _ _)
   have b1:∀a ∈ l.take k.toNat,llt a s:=fun a ha=>by
    obtain⟨i,hi,e⟩:=List.mem_take_iff_getElem.1 ha
    exact k2 (i:Int) a (by omega) (by rw[o7,← e];exact List.getElem?_eq_getElem _)
   have b2:∀a ∈ l.drop k.toNat,llt s a:=fun a ha=>by
    obtain⟨i,hi,e⟩:=List.mem_drop_iff_getElem.1 ha
    have hlk:k<l.length:=by omega
    obtain⟨z,hz,gz⟩:=i6 (l:=l) k0 hlk
    have nz:=k3 z hz
    have nz2:llt s z:=by
     rcases T5 z s with g|g|g
     ·exact absurd g nz
     ·exact absurd (g ▸ hz) c
     ·exact g
    by_cases i0:i=0
    ·subst i0
     obtain⟨q1,q2⟩:=lG.1 gz
     have:a=z:=by rw[← e,← q2];simp
     rw[this];exact nz2
    ·refine G7 nz2 (h.get hz (j:=k+i) ?_ (by omega))
     rw[show k+(i:Int)=((k.toNat+i:Nat):Int) by omega,o7,← e]
     exact List.getElem?_eq_getElem _
   refine ord_append (ord_append ht (by simp) fun a ha b hb=> ?_) hd fun a ha b hb=> ?_
   ·simp only[List.mem_singleton] at hb;subst hb;exact b1 a ha
   ·rcases List.mem_append.1 ha with ha|ha
    ·exact G7 (b1 a ha) (b2 b hb)
    ·simp only[List.mem_singleton] at ha;subst ha;exact b2 b hb
  ·rw[List.mem_append,List.mem_append,List.mem_singleton]
   have:=List.take_append_drop k.toNat l
   constructor
   ·rintro ((g|g)|g)
    ·exact .inr (List.mem_of_mem_take g)
    ·exact .inl g
    ·exact .inr (List.mem_of_mem_drop g)
   ·rintro (g|g)
    ·exact .inl (.inr g)
    ·rw[← this] at g
     rcases List.mem_append.1 g with g|g
     ·exact .inl (.inl g)
     ·exact .inr g
end Ab
end
section
namespace Ab
open Go
def V6(x:j8)(n:Int):Prop:=SetN x.add n∧SetN x.del n∧∀a ∈ x.add,a ∉ x.del
def xWt(x:j8):Prop:=1≤x.weight∧x.weight≤6
noncomputable def V7(n:Int)(x:j8):Int:=if dec (V6 x n)=true then if dec (xWt x)=true then 0 else 3 else 5
noncomputable def K1(n:Int):List j8→Int
 |[]=>0
 |x::l=>if V7 n x=0 then K1 n l else V7 n x
theorem xCode_zero{n:Int}{x:j8}:V7 n x=0↔V6 x n∧xWt x:=by
 unfold V7
 by_cases c1:V6 x n
 ·rw[ifP c1]
  by_cases c2:xWt x
  ·rw[ifP c2];exact⟨fun _=>⟨c1,c2⟩,fun _=>rfl⟩
  ·rw[ifN c2];exact⟨fun h=>by omega,fun h=>absurd h.2 c2⟩
 ·rw[ifN c1];exact⟨fun h=>by omega,fun h=>absurd h.1 c1⟩
theorem ap2{n:Int}:∀{l:List j8},K1 n l=0↔∀x ∈ l,V6 x n∧xWt x
 |[]=>by simp[K1]
 |x::l=>by
  rw[K1]
  by_cases c:V7 n x=0
  ·rw[if_pos c,ap2];simp[xCode_zero.1 c]
  ·rw[if_neg c]
   exact⟨fun h=>absurd h c,fun h=>absurd (xCode_zero.2 (h x (by simp))) c⟩
structure OOk(o:f8)(n:Int):Prop where
 pre:SetN o.pre n
 c0:0≤o.cost
 c1:o.cost≤100
 l0:1≤o.outcomes.length
 l1:o.outcomes.length≤4
 xs:∀x ∈ o.outcomes,V6 x n∧xWt x
noncomputable def aa1(o:f8)(n:Int):Int:=if dec (SetN o.pre n)=true then if dec (0≤o.cost∧o.cost≤100)=true then if dec (1≤(o.outcomes.length:Int)∧(o.outcomes.length:Int)≤4)=true then 0 else 9 else 3 else 5
noncomputable def U1(o:f8)(n:Int):Int:=if aa1 o n=0 then K1 n o.outcomes else aa1 o n
theorem aq7{o:f8}{n:Int}:aa1 o n=0↔SetN o.pre n∧(0≤o.cost∧o.cost≤100)∧(1≤(o.outcomes.length:Int)∧(o.outcomes.length:Int)≤4):=by
 unfold aa1
 by_cases c1:SetN o.pre n
 ·rw[ifP c1]
  by_cases c2:0≤o.cost∧o.cost≤100
  ·rw[ifP c2]
   by_cases c3:1≤(o.outcomes.length:Int)∧(o.outcomes.length:Int)≤4
   ·rw[ifP c3];exact⟨fun _=>⟨c1,c2,c3⟩,fun _=>rfl⟩
   ·rw[ifN c3];exact⟨fun h=>by omega,fun h=>absurd h.2.2 c3⟩
  ·rw[ifN c2];exact⟨fun h=>by omega,fun h=>absurd h.2.1 c2⟩
 ·rw[ifN c1];exact⟨fun h=>by omega,fun h=>absurd h.1 c1⟩
theorem oCode_of{o:f8}{n:Int}(h:OOk o n):U1 o n=0:=by
 have:=h.l0;have:=h.l1
 rw[U1,if_pos (aq7.2 ⟨h.pre,⟨h.c0,h.c1⟩,by omega,by omega⟩),ap2]
 exact h.xs
theorem oCode_ok{o:f8}{n:Int}(h:U1 o n=0):OOk o n:=by
 unfold U1 at h
 by_cases c:aa1 o n=0
 ·rw[if_pos c] at h
  obtain⟨g1,g2,g3⟩:=aq7.1 c
  exact⟨g1,g2.1,g2.2,by omega,by omega,ap2.1 h⟩
 ·rw[if_neg c] at h;exact absurd h c
theorem oc1{o:f8}{n:Int}(h0:0≤n)(h1:n≤24){j:Int}{x:j8}(hx:ix o.outcomes j=some x):G4 o n j ()=some (if V7 n x=0 then .inl () else .inr (V7 n x)):=by
 unfold G4
 rw[hx]
 simp only[oB,as2,w6]
 by_cases g1:SetN x.add n
 ·rw[ifNN g1]
  by_cases g2:SetN x.del n
  ·have:=g2.len
   rw[ifNN g2,meets_eq g2.1 (by omega)]
   simp only[oB]
   by_cases g3:∀a ∈ x.add,a ∉ x.del
   ·have g:V6 x n:=⟨g1,g2,g3⟩
    rw[ifN (fun⟨a,ha,hb⟩=>g3 a ha hb)]
    unfold V7
    rw[ifP g]
    by_cases g4:xWt x
    ·have g5:=g4
     unfold xWt at g5
     rw[ifP g4,if_neg (by simp;omega)];rfl
    ·have g5:=g4
     unfold xWt at g5
     rw[ifN g4,if_pos (by simp;omega)];rfl
   ·have g:¬ V6 x n:=fun h=>g3 h.2.2
    rw[ifP (by
     rw[Classical.not_forall] at g3
     obtain⟨a,ha⟩:=g3
     exact⟨a,Classical.not_imp.1 ha|>.1,Classical.not_not.1 (Classical.not_imp.1 ha).2⟩)]
    unfold V7
    rw[ifN g];rfl
  ·have g:¬ V6 x n:=fun h=>g2 h.2.1
   rw[ifP g2]
   unfold V7
   rw[ifN g];rfl
 ·have g:¬ V6 x n:=fun h=>g1 h.1
  rw[ifP g1]
  unfold V7
  rw[ifN g];rfl
theorem operatorCode_eq{o:f8}{n:Int}(h0:0≤n)(h1:n≤24):K2 o n=some (U1 o n):=by
 unfold K2
 simp only[as2,oB,w6]
 unfold U1 aa1
 by_cases c1:SetN o.pre n
 ·rw[ifNN c1,ifP c1]
  by_cases c2:0≤o.cost∧o.cost≤100
  ·rw[if_neg (show ¬ ((decide (o.cost<0))||(decide (100<o.cost)))=true by rw[Bool.or_eq_true,decide_eq_true_eq,decide_eq_true_eq];omega),ifP c2]
   by_cases c3:1≤(o.outcomes.length:Int)∧(o.outcomes.length:Int)≤4
   ·rw[if_neg (show ¬ ((decide ((o.outcomes.length:Int)=0))||(decide (4<(o.outcomes.length:Int))))=true by rw[Bool.or_eq_true,decide_eq_true_eq,decide_eq_true_eq];omega),ifP c3,if_pos rfl]
    rcases Q9 (body:=G4 o n) (n:=(o.outcomes.length:Int)) (fun j _=>K1 n o.outcomes=K1 n (o.outcomes.drop j.toNat)) (fun c=>c=K1 n o.outcomes) (s:=()) (by omega) (by simp) (fun j _ j0 j1 hP=>by
     obtain⟨x,hx,gx⟩:=i6 (l:=o.outcomes) j0 j1
     have hd:o.outcomes.drop j.toNat=x::o.outcomes.drop (j.toNat+1):=by
      obtain⟨hlt,rfl⟩:=lG.1 gx
      exact List.drop_eq_getElem_cons hlt
     rw[oc1 h0 h1 hx]
     rw[hd,K1] at hP
     by_cases e:V7 n x=0
     ·rw[if_pos e] at hP ⊢
      exact .inl ⟨(),rfl,by rw[hP,show(j+1).toNat=j.toNat+1 by omega]⟩
     ·rw[if_neg e] at hP ⊢
      exact .inr ⟨_,rfl,hP.symm⟩) with⟨_,r1,r2⟩|⟨c,r1,rfl⟩
    ·rw[r1,r2];simp[K1]
    ·rw[r1];rfl
   ·rw[if_pos (show((decide ((o.outcomes.length:Int)=0))||(decide (4<(o.outcomes.length:Int))))=true by rw[Bool.or_eq_true,decide_eq_true_eq,decide_eq_true_eq];omega),ifN c3];rfl
  ·rw[if_pos (show((decide (o.cost<0))||(decide (100<o.cost)))=true by rw[Bool.or_eq_true,decide_eq_true_eq,decide_eq_true_eq];omega),ifN c2];rfl
 ·rw[ifP c1,ifN c1];rfl
theorem of2{t:b7}{o:f8}(h0:0≤t.facts)(h1:t.facts≤24)(hl:o.outcomes.length≤1000000)(c:Int):Loop (E0 t o) (c,0)=some (if c=0 then K1 t.facts o.outcomes else c):=by
 obtain⟨r,r1,r2⟩:=F1 (body:=E0 t o) (fun p=>0≤p.2∧p.2≤o.outcomes.length∧(if c=0 then K1 t.facts o.outcomes else c)=if p.1=0 then K1 t.facts (o.outcomes.drop p.2.toNat) else p.1) (fun r=>r=if c=0 then K1 t.facts o.outcomes else c) (fun p=>(o.outcomes.length - p.2).toNat) (s:=(c,0)) ⟨by simp,by simp,by simp⟩ (fun⟨e,j⟩ ⟨g0,g1,g2⟩=>by
  dsimp only at g0 g1 g2 ⊢
  unfold E0
  dsimp only
  by_cases cj:j<o.outcomes.length∧e=0
  ·rw[if_pos (by simpa using cj)]
   obtain⟨x,hx,gx⟩:=i6 (l:=o.outcomes) g0 cj.1
   have hd:o.outcomes.drop j.toNat=x::o.outcomes.drop (j.toNat+1):=by
    obtain⟨hlt,rfl⟩:=lG.1 gx
    exact List.drop_eq_getElem_cons hlt
   rw[cj.2,if_pos rfl,hd,K1] at g2
   rw[hx]
   simp only[oB,ao3 (n:=t.facts) _ (show -9223372036854775808<t.facts by omega) (show t.facts≤9223372036854775807 by omega),disjoint_eq,in_eq,w6,cj.2]
   have hp:(if dec (¬ SetN x.add t.facts)=true then some true else if dec (¬ SetN x.del t.facts)=true then some true else some (dec (¬ ∀a ∈ x.add,a ∉ x.del)))=some (dec (¬ V6 x t.facts)):=by
    unfold V6
    by_cases k1:SetN x.add t.facts
    ·rw[ifNN k1]
     by_cases k2:SetN x.del t.facts
     ·rw[ifNN k2]
      exact congrArg some (v7 ⟨fun h k=>h k.2.2,fun h k=>h ⟨k1,k2,k⟩⟩)
     ·rw[ifP k2,j7 (fun k=>k2 k.2.1)]
    ·rw[ifP k1,j7 (fun k=>k1 k.1)]
   rw[hp]
   simp only[oB]
   rw[l9 (by omega) (by omega)]
   have fin:(if dec (¬ V6 x t.facts)=true then some (5:Int) else if dec (¬ (1≤x.weight∧x.weight≤6))=true then some 3 else some 0)=some (V7 t.facts x):=by
    unfold V7
    by_cases k1:V6 x t.facts
    ·rw[ifNN k1,ifP k1]
     by_cases k2:xWt x
     ·rw[ifNN (p:=1≤x.weight∧x.weight≤6) k2,ifP k2]
     ·rw[ifP (p:=¬ (1≤x.weight∧x.weight≤6)) k2,ifN k2]
    ·rw[ifP k1,ifN k1]
   rw[fin]
   simp only[oB]
   refine .inl ⟨_,rfl,⟨by dsimp only;omega,by dsimp only;omega,?_⟩,by dsimp only;omega⟩
   dsimp only
   rw[g2,show(j+1).toNat=j.toNat+1 by omega]
  ·rw[if_neg (by simpa using cj)]
   refine .inr ⟨e,rfl,?_⟩
   rw[g2]
   by_cases ce:e=0
   ·rw[if_pos ce,List.drop_of_length_le (by omega),K1,ce]
   ·rw[if_neg ce])
 rw[r1,r2]
structure g9(t:b7):Prop where
 n0:0≤t.facts
 n1:t.facts≤24
 init:SetN t.init t.facts
 goal:SetN t.goal t.facts
 ops:t.operators.length≤40
 op:∀o ∈ t.operators,OOk o t.facts
theorem al9(t:b7):∃f,G6 t=some f∧ag8 t=some f∧((f=⟨0,0⟩∧g9 t)∨(f.code ≠ 0∧¬ g9 t)):=by
 unfold G6 ag8
 simp only[in_eq,at_eq,oB,w6]
 by_cases c1:0≤t.facts∧t.facts≤24
 ·rw[if_neg (by simp;omega),ifNN c1]
  simp only[as2,ao3 (n:=t.facts) _ (show -9223372036854775808<t.facts by omega) (show t.facts≤9223372036854775807 by omega),oB,w6]
  by_cases c2:SetN t.init t.facts
  ·rw[ifNN c2,ifNN c2]
   by_cases c3:SetN t.goal t.facts
   ·rw[ifNN c3,ifNN c3]
    by_cases c4:40<(t.operators.length:Int)
    ·rw[if_pos c4,if_pos c4]
     exact⟨_,rfl,rfl,.inr ⟨by simp,fun h=>by have:=h.ops;omega⟩⟩
    ·rw[if_neg c4,if_neg c4]
     have hb:∀j:Int,0≤j→j<t.operators.length→∃o,ix t.operators j=some o∧M7 t j ()=some (if U1 o t.facts=0 then .inl () else .inr ⟨U1 o t.facts,j⟩)∧K3 t j ()=some (if U1 o t.facts=0 then .inl () else .inr ⟨U1 o t.facts,j⟩):=fun j h0 h1=>by
      obtain⟨o,ho,_⟩:=i6 (l:=t.operators) h0 h1
      refine⟨o,ho,?_,?_⟩
      ·unfold M7
       rw[ho]
       simp only[oB,operatorCode_eq c1.1 c1.2]
       by_cases e:U1 o t.facts=0
       ·rw[if_pos e,if_pos e]
       ·rw[if_neg e,if_neg e]
      ·unfold K3
       rw[ho]
       simp only[oB,ao3 (n:=t.facts) _ (show -9223372036854775808<t.facts by omega) (show t.facts≤9223372036854775807 by omega),in_eq,at_eq,w6]
       have hp:(if dec (¬ SetN o.pre t.facts)=true then some (5:Int) else if dec (¬ (0≤o.cost∧o.cost≤100))=true then some 3 else if dec (¬ (1≤(o.outcomes.length:Int)∧(o.outcomes.length:Int)≤4))=true then some 9 else some 0)=some (aa1 o t.facts):=by
        unfold aa1
        by_cases g1:SetN o.pre t.facts
        ·rw[ifNN g1,ifP g1]
         by_cases g2:0≤o.cost∧o.cost≤100
         ·rw[ifNN g2,ifP g2]
          by_cases g3:1≤(o.outcomes.length:Int)∧(o.outcomes.length:Int)≤4
          ·rw[ifNN g3,ifP g3]
          ·rw[ifP g3,ifN g3]
         ·rw[ifP g2,ifN g2]
        ·rw[ifP g1,ifN g1]
       rw[hp]
       simp only[oB]
       by_cases eh:aa1 o t.facts=0
       ·have:=aq7.1 eh
        rw[of2 c1.1 c1.2 (by omega),if_pos eh]
        simp only[oB,U1,eh,if_true]
        split<;>rfl
       ·have nl:Loop (E0 t o) (aa1 o t.facts,0)=some (aa1 o t.facts):=by
         rw[Y8]
         have:E0 t o (aa1 o t.facts,0)=some (.inr (aa1 o t.facts)):=by
          unfold E0
          dsimp only
          rw[if_neg (by simp[eh])]
         rw[this]
        rw[nl]
        simp only[oB,U1,if_neg eh]
     have heq:rngX 0 (t.operators.length:Int) (M7 t) ()=rngX 0 (t.operators.length:Int) (K3 t) ():=
      (rngX_eq (fun _ _=>True) (by omega) trivial (fun j s h0 h1 _=>by
       obtain⟨o,_,e1,e2⟩:=hb j h0 h1
       exact⟨by rw[e1,e2],by rw[e1];simp,fun _ _=>Y⟩)).1
     rcases y7 (body:=K3 t) (n:=(t.operators.length:Int)) (fun j=>match ix t.operators j with|some o=>if U1 o t.facts=0 then none else some (⟨U1 o t.facts,j⟩:j9)|none=>none) (by omega) (fun j h0 h1 _=>by
      obtain⟨o,e0,_,e2⟩:=hb j h0 h1
      rw[e2,e0]
      dsimp only
      split<;>rfl) with⟨h1,h2⟩|⟨j,f,h0,h1,h2,_,h4⟩
     ·rw[heq,h1]
      refine⟨⟨0,0⟩,rfl,rfl,.inl ⟨rfl,c1.1,c1.2,c2,c3,by omega,fun o ho=> ?_⟩⟩
      obtain⟨j,g0,g1,g2⟩:=m7 ho
      have:=h2 j g0 g1
      rw[g2] at this
      dsimp only at this
      split at this
      ·rename_i e;exact oCode_ok e
      ·cases this
     ·rw[heq,h4]
      obtain⟨o,e0,_,_⟩:=hb j h0 h1
      rw[e0] at h2
      dsimp only at h2
      split at h2
      ·cases h2
      ·rename_i e
       cases h2
       exact⟨_,rfl,rfl,.inr ⟨e,fun h=>e (oCode_of (h.op o (i7 e0)))⟩⟩
   ·rw[ifP c3,ifP c3]
    exact⟨_,rfl,rfl,.inr ⟨by simp,fun h=>c3 h.goal⟩⟩
  ·rw[ifP c2,ifP c2]
   exact⟨_,rfl,rfl,.inr ⟨by simp,fun h=>c2 h.init⟩⟩
 ·rw[if_pos (by simp;omega),if_pos (j7 c1)]
  exact⟨_,rfl,rfl,.inr ⟨by simp,fun h=>c1 ⟨h.n0,h.n1⟩⟩⟩
end Ab
end
section
namespace Ab
open Go
def noOO:f8:=⟨[],[],0⟩
def ooAt(t:b7)(op:Int):f8:=(t.operators[op.toNat]?).getD noOO
theorem ix_oo{t:b7}{op:Int}(h0:0≤op)(h1:op<t.operators.length):ix t.operators op=some (ooAt t op):=by
 obtain⟨a,h2,h3⟩:=i6 h0 h1
 rw[h2,ooAt,h3];rfl
def oCan(t:b7)(s:Li)(op:Int):Prop:=∀x ∈ (ooAt t op).pre,x ∈ s
noncomputable def efc(n:Int)(s:Li)(x:j8):Li:=R5 (fun p=>p ∈ x.add∨p ∈ s∧p ∉ x.del) n
theorem ac2(n:Int)(s:Li)(x:j8):SetN (efc n s x) n:=setN_setOf _ _
theorem g9.at{t:b7}(h:g9 t){op:Int}(h0:0≤op)(h1:op<t.operators.length):OOk (ooAt t op) t.facts:=h.op _ (i7 (ix_oo h0 h1))
theorem ah0{t:b7}(ht:g9 t){op:Int}(h0:0≤op)(h1:op<t.operators.length){s:Li}(hs:SetN s t.facts):R1 t s op=some (dec (oCan t s op)):=by
 have:=ht.n1;have:=hs.len
 unfold R1
 rw[ix_oo h0 h1]
 simp only[oB]
 rw[G0 hs.1 (ht.at h0 h1).pre.1 (by omega)]
 rfl
theorem oApplies_eq{t:b7}{op:Int}(h0:0≤op)(h1:op<t.operators.length)(s:Li):af3 t s op=some (dec (oCan t s op)):=by
 unfold af3
 rw[ix_oo h0 h1]
 simp only[oB,subset_eq]
 rfl
theorem effect_eq{t:b7}(ht:g9 t)(s:Li)(x:j8):ah3 t s x=some (efc t.facts s x):=by
 have:=ht.n1
 unfold ah3
 rw[if_pos (by omega)]
 rw[forR_setOf (b:=8) (fun p=>p ∈ x.add∨p ∈ s∧p ∉ x.del) ht.n0 (by omega) (fun j c g0 g1=>by
  unfold aq1
  simp only[oB,has_eq,w6]
  have e:(if dec (j ∈ x.add)=true then some true else if dec (j ∈ s)=true then some (dec (j ∉ x.del)) else some false)=some (dec (j ∈ x.add∨j ∈ s∧j ∉ x.del)):=by
   by_cases c1:j ∈ x.add
   ·rw[if_pos (j7 c1),j7 (.inl c1)]
   ·rw[if_neg (fun h=>c1 (k8.1 h))]
    by_cases c2:j ∈ s
    ·rw[if_pos (j7 c2)]
     exact congrArg some (v7 ⟨fun h=>.inr ⟨c2,h⟩,fun h=>(h.resolve_left c1).2⟩)
    ·rw[if_neg (fun h=>c2 (k8.1 h)),m9 (fun h=>c2 (h.resolve_left c1).1)]
  rw[e]
  simp only[oB]
  refine⟨fun hq=> ?_,fun hq=> ?_⟩
  ·rw[if_pos (j7 hq)]
   cases app 8 c [j]<;>rfl
  ·rw[if_neg (fun h=>hq (k8.1 h))];rfl)]
 rfl
theorem oUpdate_eq{n:Int}(hn:n≤24){s:Li}(hs:SetN s n){x:j8}(hx:V6 x n):K0 s x.add x.del=some (efc n s x):=by
 have:=hx.2.1.len
 rw[update_eq (n:=n) (by omega) hx.2.1.1 (by omega) hs hx.1]
 exact congrArg some (setOf_congr fun _ _ _=>Or.comm)
/-! ### Policies -/
theorem ord_of_adj:∀{l:LL},(∀(k:Nat) a b,l[k]? =some a→l[k+1]? =some b→llt a b)→Ord l
 |[],_=>.nil
 |[_],_=>by simp
 |a::b::l,h=>by
  have ih:Ord (b::l):=ord_of_adj fun k x y h1 h2=>h (k+1) x y (by simpa using h1) (by simpa using h2)
  have hab:llt a b:=h 0 a b rfl rfl
  refine List.pairwise_cons.2 ⟨fun c hc=> ?_,ih⟩
  rcases List.mem_cons.1 hc with rfl|hc
  ·exact hab
  ·exact G7 hab ((List.pairwise_cons.1 ih).1 c hc)
structure G3(t:b7)(p:List d8):Prop where
 len:p.length≤200
 ord:Ord (p.map d8.state)
 set:∀c ∈ p,SetN c.state t.facts
 op:∀c ∈ p,0≤c.operator∧c.operator<t.operators.length
 can:∀c ∈ p,oCan t c.state c.operator
def pSet(t:b7)(p:List d8)(j:Int)(c:d8):Prop:=SetN c.state t.facts∧∀b,0<j→ix p (j - 1)=some b→llt b.state c.state
noncomputable def N2(t:b7)(p:List d8)(j:Int)(c:d8):Int:=if dec (pSet t p j c)=true then if dec (0≤c.operator∧c.operator<t.operators.length)=true then if dec (oCan t c.state c.operator)=true then 0 else 11 else 3 else 5
theorem pCode_zero{t:b7}{p:List d8}{j:Int}{c:d8}:N2 t p j c=0→pSet t p j c∧(0≤c.operator∧c.operator<t.operators.length)∧oCan t c.state c.operator:=by
 unfold N2
 by_cases c1:pSet t p j c
 ·rw[ifP c1]
  by_cases c2:0≤c.operator∧c.operator<t.operators.length
  ·rw[ifP c2]
   by_cases c3:oCan t c.state c.operator
   ·rw[ifP c3];exact fun _=>⟨c1,c2,c3⟩
   ·rw[ifN c3];exact fun h=>by omega
  ·rw[ifN c2];exact fun h=>by omega
 ·rw[ifN c1];exact fun h=>by omega
theorem pCode_of{t:b7}{p:List d8}(hp:G3 t p){j:Int}{c:d8}(hc:ix p j=some c):N2 t p j c=0:=by
 have hm:=i7 hc
 unfold N2
 rw[ifP ⟨hp.set c hm,fun b _ hb=>ak0 hp.ord hb hc (by omega)⟩,ifP (hp.op c hm),ifP (hp.can c hm)]
theorem pol1{t:b7}(ht:g9 t){p:List d8}{j:Int}{c:d8}(hl:p.length≤200)(hc:ix p j=some c):E7 t p j ()=some (if N2 t p j c=0 then .inl () else .inr ⟨N2 t p j c, -9 - j⟩):=by
 obtain⟨j0,j1,_⟩:=m6 hc
 have hn:=ht.n1
 unfold E7
 rw[hc]
 simp only[oB,as2,w6]
 have key:(if dec (¬ SetN c.state t.facts)=true then some true else if 0<j then Option.bind (ix p (j - 1)) fun a40=>Option.bind (slices_Compare_int_int a40.state c.state) fun a45=>some (decide (0≤a45)) else some false)=some (dec (¬ pSet t p j c)):=by
  by_cases g1:SetN c.state t.facts
  ·rw[ifNN g1]
   by_cases g2:0<j
   ·rw[if_pos g2]
    obtain⟨b,hb,_⟩:=i6 (l:=p) (i:=j - 1) (by omega) (by omega)
    rw[hb]
    simp only[oB,ae9,F0]
    refine congrArg some (v7 ?_)
    rw[cmpL_ge]
    exact⟨fun h g=>h (g.2 b g2 hb),fun h g=>h ⟨g1,fun b' _ hb'=>by rw[hb] at hb';cases hb';exact g⟩⟩
   ·rw[if_neg g2,m9]
    exact fun h=>h ⟨g1,fun _ g=>absurd g g2⟩
  ·rw[ifP g1,j7 (fun h=>g1 h.1)]
 rw[key]
 simp only[oB]
 rw[l9 (by omega) (by omega)]
 unfold N2
 by_cases g1:pSet t p j c
 ·rw[ifNN g1,ifP g1]
  by_cases g2:0≤c.operator∧c.operator<t.operators.length
  ·rw[if_neg (show ¬ ((decide (c.operator<0))||(decide ((t.operators.length:Int)≤c.operator)))=true by rw[Bool.or_eq_true,decide_eq_true_eq,decide_eq_true_eq];omega),ifP g2,ah0 ht g2.1 g2.2 g1.1]
   simp only[oB,w6]
   by_cases g3:oCan t c.state c.operator
   ·rw[ifNN g3,ifP g3];rfl
   ·rw[ifP g3,ifN g3];rfl
  ·rw[if_pos (show((decide (c.operator<0))||(decide ((t.operators.length:Int)≤c.operator)))=true by rw[Bool.or_eq_true,decide_eq_true_eq,decide_eq_true_eq];omega),ifN g2];rfl
 ·rw[ifP g1,ifN g1];rfl
theorem pol2{t:b7}(ht:g9 t){p:List d8}{j:Int}{c:d8}(hl:p.length≤200)(hw:0<j→∀b,ix p (j - 1)=some b→b.state.length≤1000000)(hc:ix p j=some c):H2 t p j ()=some (if N2 t p j c=0 then .inl () else .inr ⟨N2 t p j c, -9 - j⟩):=by
 obtain⟨j0,j1,_⟩:=m6 hc
 have hn:=ht.n1;have hn0:=ht.n0;have ho:=ht.ops
 unfold H2
 rw[hc]
 simp only[oB,ao3 (n:=t.facts) _ (show -9223372036854775808<t.facts by omega) (show t.facts≤9223372036854775807 by omega),in_eq,at_eq,w6]
 have key:(if dec (¬ SetN c.state t.facts)=true then some true else if 0<j then Option.bind (ix p (j - 1)) fun a39=>Option.bind (ab0 a39.state c.state) fun a47=>some (!a47) else some false)=some (dec (¬ pSet t p j c)):=by
  by_cases g1:SetN c.state t.facts
  ·rw[ifNN g1]
   by_cases g2:0<j
   ·rw[if_pos g2]
    obtain⟨b,hb,_⟩:=i6 (l:=p) (i:=j - 1) (by omega) (by omega)
    rw[hb]
    simp only[oB,before_eq (hw g2 b hb),w6]
    refine congrArg some (v7 ?_)
    exact⟨fun h g=>h (g.2 b g2 hb),fun h g=>h ⟨g1,fun b' _ hb'=>by rw[hb] at hb';cases hb';exact g⟩⟩
   ·rw[if_neg g2,m9]
    exact fun h=>h ⟨g1,fun _ g=>absurd g g2⟩
  ·rw[ifP g1,j7 (fun h=>g1 h.1)]
 rw[key]
 simp only[oB]
 rw[l9 (n:= -9 - j) (by omega) (by omega),l9 (n:=(t.operators.length:Int) - 1) (by omega) (by omega)]
 unfold N2
 by_cases g1:pSet t p j c
 ·rw[ifNN g1,ifP g1]
  by_cases g2:0≤c.operator∧c.operator<t.operators.length
  ·rw[ifN (show ¬ ¬ (0≤c.operator∧c.operator≤(t.operators.length:Int) - 1) by omega),ifP g2,oApplies_eq g2.1 g2.2]
   simp only[oB,w6]
   by_cases g3:oCan t c.state c.operator
   ·rw[ifNN g3,ifP g3];rfl
   ·rw[ifP g3,ifN g3];rfl
  ·rw[ifP (show ¬ (0≤c.operator∧c.operator≤(t.operators.length:Int) - 1) by omega),ifN g2];rfl
 ·rw[ifP g1,ifN g1];rfl
theorem policy_eq(t:b7)(p:List d8):∃f,E5 t p=some f∧am9 t p=some f∧((f=⟨0,0⟩∧g9 t∧G3 t p)∨(f.code ≠ 0∧¬ (g9 t∧G3 t p))):=by
 obtain⟨f,h1,h2,h3⟩:=al9 t
 unfold E5 am9
 rw[h1,h2]
 simp only[oB]
 rcases h3 with⟨rfl,ht⟩|⟨hc,hnt⟩
 ·rw[if_neg (by simp),if_pos rfl]
  by_cases c1:200<(p.length:Int)
  ·rw[if_pos c1,if_pos c1,at_eq]
   exact⟨_,rfl,rfl,.inr ⟨by simp,fun h=>by have:=h.2.len;omega⟩⟩
  ·rw[if_neg c1,if_neg c1]
   have hn:=ht.n1
   have hset:∀j:Int,(∀i,0≤i→i<j→(match ix p i with|some c=>if N2 t p i c=0 then none else some (⟨N2 t p i c, -9 - i⟩:j9)|none=>none)=none)→0<j→∀b,ix p (j - 1)=some b→b.state.length≤1000000:=fun j hj j0 b hb=>by
    have:=hj (j - 1) (by omega) (by omega)
    rw[hb] at this
    dsimp only at this
    split at this
    ·rename_i e
     have:=(pCode_zero e).1.1.len
     omega
    ·cases this
   rcases y7 (body:=E7 t p) (n:=(p.length:Int)) (fun j=>match ix p j with|some c=>if N2 t p j c=0 then none else some (⟨N2 t p j c, -9 - j⟩:j9)|none=>none) (by omega) (fun j h0 h1 _=>by
    obtain⟨c,e0,_⟩:=i6 (l:=p) h0 h1
    rw[pol1 ht (by omega) e0,e0]
    dsimp only
    split<;>rfl) with⟨a1,a2⟩|⟨j,f,a0,a1,a2,a3,a4⟩
   ·rcases y7 (body:=H2 t p) (n:=(p.length:Int)) (fun j=>match ix p j with|some c=>if N2 t p j c=0 then none else some (⟨N2 t p j c, -9 - j⟩:j9)|none=>none) (by omega) (fun j h0 h1 hj=>by
     obtain⟨c,e0,_⟩:=i6 (l:=p) h0 h1
     rw[pol2 ht (by omega) (hset j hj) e0,e0]
     dsimp only
     split<;>rfl) with⟨b1,b2⟩|⟨j',f',b0,b1,b2,b3,b4⟩
    ·rw[a1,b1]
     have all:∀j c,ix p j=some c→pSet t p j c∧(0≤c.operator∧c.operator<t.operators.length)∧oCan t c.state c.operator:=fun j c hc=>by
      have:=a2 j (m6 hc).1 (m6 hc).2.1
      rw[hc] at this
      dsimp only at this
      split at this
      ·rename_i e;exact pCode_zero e
      ·cases this
     have all':∀c ∈ p,SetN c.state t.facts∧(0≤c.operator∧c.operator<t.operators.length)∧oCan t c.state c.operator:=fun c hc=>by
      obtain⟨j,_,_,hj⟩:=m7 hc
      obtain⟨g1,g2,g3⟩:=all j c hj
      exact⟨g1.1,g2,g3⟩
     refine⟨_,rfl,rfl,.inl ⟨rfl,ht,by omega,ord_of_adj fun k a b ha hb=> ?_,fun c hc=>(all' c hc).1,fun c hc=>(all' c hc).2.1,fun c hc=>(all' c hc).2.2⟩⟩
     rw[lM] at ha hb
     cases ha':p[k]? with
     |none=>rw[ha'] at ha;cases ha
     |some a'=>
      cases hb':p[k+1]? with
      |none=>rw[hb'] at hb;cases hb
      |some b'=>
       rw[ha'] at ha;rw[hb'] at hb;cases ha;cases hb
       refine(all ((k+1:Nat):Int) b' (by rw[o7,hb'])).1.2 a' (by omega) ?_
       rw[show((k+1:Nat):Int) - 1=(k:Nat) by omega,o7,ha']
    ·rw[a2 j' b0 b1] at b2;cases b2
   ·rcases y7 (body:=H2 t p) (n:=(p.length:Int)) (fun j=>match ix p j with|some c=>if N2 t p j c=0 then none else some (⟨N2 t p j c, -9 - j⟩:j9)|none=>none) (by omega) (fun j h0 h1 hj=>by
     obtain⟨c,e0,_⟩:=i6 (l:=p) h0 h1
     rw[pol2 ht (by omega) (hset j hj) e0,e0]
     dsimp only
     split<;>rfl) with⟨b1,b2⟩|⟨j',f',b0,b1,b2,b3,b4⟩
    ·rw[b2 j a0 a1] at a2;cases a2
    ·have ej:j=j':=by
      rcases Int.lt_trichotomy j j' with h|h|h
      ·rw[b3 j a0 h] at a2;cases a2
      ·exact h
      ·rw[a3 j' b0 h] at b2;cases b2
     subst ej
     rw[a2] at b2
     cases b2
     rw[a4,b4]
     refine⟨_,rfl,rfl,.inr ?_⟩
     obtain⟨c,e0,_⟩:=i6 (l:=p) a0 a1
     rw[e0] at a2
     dsimp only at a2
     split at a2
     ·cases a2
     ·rename_i e;cases a2;exact⟨e,fun h=>e (pCode_of h.2 e0)⟩
 ·rw[if_pos (fault_no hc),if_neg hc]
  exact⟨f,rfl,rfl,.inr ⟨hc,fun h=>hnt h.1⟩⟩
/-! ### What a policy chooses -/
theorem as0(p:List d8)(s:Li):∃r,ah1 p s=some r∧((r= -1∧∀c ∈ p,c.state ≠ s)∨∃c,c ∈ p∧c.state=s∧r=c.operator):=by
 unfold ah1
 rcases y7 (body:=ag4 p s) (n:=(p.length:Int)) (fun j=>match ix p j with|some c=>if dec (c.state=s)=true then some c.operator else none|none=>none) (by omega) (fun j h0 h1 _=>by
  obtain⟨x,hx,_⟩:=i6 (l:=p) h0 h1
  unfold ag4
  simp only[hx,oB,ints_eq]
  by_cases e:x.state=s
  ·rw[ifP e,ifP e]
  ·rw[ifN e,ifN e]) with⟨h1,h2⟩|⟨j,o,h0,h1,h2,h3,h4⟩
 ·rw[h1]
  refine⟨-1,rfl,.inl ⟨rfl,fun c hc he=> ?_⟩⟩
  obtain⟨i,i0,i1,hi⟩:=m7 hc
  have:=h2 i i0 i1
  rw[hi] at this
  dsimp only at this
  rw[ifP he] at this
  cases this
 ·rw[h4]
  obtain⟨c,hc,_⟩:=i6 (l:=p) h0 h1
  rw[hc] at h2
  dsimp only at h2
  split at h2
  ·rename_i e
   cases h2
   exact⟨_,rfl,.inr ⟨c,i7 hc,k8.1 e,rfl⟩⟩
  ·cases h2
theorem chosen_eq{t:b7}{p:List d8}(hp:G3 t p)(s:Li):∃r,D5 p s=some r∧ah1 p s=some r∧(r= -1∨(0≤r∧r<t.operators.length∧oCan t s r)):=by
 obtain⟨r,h1,h2⟩:=as0 p s
 refine⟨r,?_,h1,?_⟩
 ·unfold D5
  obtain⟨i,g1,g2,g3⟩:=bsf_eq (key:=d8.state) (xs:=p) (t:=s) (cmp:=open_Chosen_1) hp.ord (by have:=hp.len;omega) (fun a=>by unfold open_Chosen_1;rw[ae9];rfl)
  have:j6 p s open_Chosen_1=bsf p s open_Chosen_1:=rfl
  rw[this,g1]
  simp only[oB,w6]
  rcases h2 with⟨rfl,h⟩|⟨c,hc,he,rfl⟩
  ·rw[ifP]
   rintro ⟨a,ha,e⟩;exact h a ha e
  ·rw[ifNN ⟨c,hc,he⟩]
   obtain⟨k,_,_,hk⟩:=m7 hc
   have:=g3 k c hk he
   subst this
   rw[hk];rfl
 ·rcases h2 with⟨rfl,h⟩|⟨c,hc,he,rfl⟩
  ·exact .inl rfl
  ·have:=hp.op c hc
   exact .inr ⟨this.1,this.2,he ▸ hp.can c hc⟩
end Ab
end
section
namespace Ab
open Go
theorem ix_map{α β:Type}{f:α→β}{l:List α}{i:Int}:ix (l.map f) i=(ix l i).map f:=by
 simp only[ix]
 split
 ·rw[lM]
 ·rfl
theorem Ord.one{l m:LL}(hl:Ord l)(hm:Ord m){p:Li→Prop}(h1:∀y,y ∈ l↔p y)(h2:∀y,y ∈ m↔p y):l=m:=Ord.ext hl hm fun y=>(h1 y).trans (h2 y).symm
theorem cloneLL_eq{s:LL}(h:s.length≤1000000):z6 s=some s:=by
 rw[z6,app,if_pos (by simp;omega)];rfl
theorem results1{t:b7}{o:f8}(ho:OOk o t.facts)(hn:t.facts≤24){s:Li}(hs:SetN s t.facts):forR 0 (o.outcomes.length:Int) (P9 s o) []=some (o.outcomes.map (efc t.facts s)):=by
 have hl:=ho.l1
 obtain⟨c,h1,h2⟩:=s8 (body:=P9 s o) (n:=(o.outcomes.length:Int)) (s:=[]) (fun j c=>c=(o.outcomes.take j.toNat).map (efc t.facts s)) (by omega) (by simp) (fun j c j0 j1 hP=>by
  obtain⟨x,hx,gx⟩:=i6 (l:=o.outcomes) j0 j1
  unfold P9
  rw[hx]
  simp only[oB]
  rw[oUpdate_eq hn hs (ho.xs x (i7 hx)).1]
  simp only[oB]
  have hlen:c.length≤4:=by rw[hP,List.length_map,List.length_take];omega
  rw[app,if_pos (by simp;omega)]
  refine⟨_,rfl,?_⟩
  rw[show(j+1).toNat=j.toNat+1 by omega,List.take_add_one,gx,hP,List.map_append];rfl)
 rw[h1,h2]
 simp
theorem D4{t:b7}(ht:g9 t){op:Int}(h0:0≤op)(h1:op<t.operators.length){s:Li}(hs:SetN s t.facts):∃st w,o8 t s op=some (st,w)∧Ord st∧(∀y,y ∈ st↔∃x ∈ (ooAt t op).outcomes,efc t.facts s x=y)∧st.length≤4∧w.length=st.length∧forR 0 ((ooAt t op).outcomes.length:Int) (w8 ((ooAt t op).outcomes.map (efc t.facts s)) st (ooAt t op)) (List.replicate st.length 0)=some w:=by
 have ho:=ht.at h0 h1
 have hl:=ho.l1
 unfold o8
 rw[ix_oo h0 h1]
 simp only[oB]
 rw[results1 ho ht.n1 hs]
 simp only[oB]
 rw[cloneLL_eq (by simp;omega)]
 simp only[oB]
 obtain⟨st,n1,n2,n3,n4⟩:=ai2 (l:=(ooAt t op).outcomes.map (efc t.facts s)) (by simp;omega)
 have n4':st.length≤4:=by rw[List.length_map] at n4;omega
 have hm:mkL 8 (st.length:Int) (0:Int)=some (List.replicate st.length 0):=by
  rw[mkL,if_pos (by omega)];simp
 obtain⟨w,w1,w2⟩:=s8 (body:=w8 ((ooAt t op).outcomes.map (efc t.facts s)) st (ooAt t op)) (n:=((ooAt t op).outcomes.length:Int)) (s:=List.replicate st.length 0) (fun j c=>c.length=st.length) (by omega) (by simp) (fun j c j0 j1 hP=>by
  obtain⟨x,hx,gx⟩:=i6 (l:=(ooAt t op).outcomes) j0 j1
  have hmem:efc t.facts s x ∈ st:=(n3 _).2 (List.mem_map.2 ⟨x,i7 hx,rfl⟩)
  obtain⟨i,e1,e2,e3⟩:=ac8 (t:=efc t.facts s x) n2 (by omega)
  obtain⟨k,k0,k1,hk⟩:=m7 hmem
  have:=e3 k hk
  subst this
  obtain⟨z,hz,gz⟩:=i6 (l:=c) (i:=k) k0 (by omega)
  unfold w8
  rw[hx,ix_map,hx]
  simp only[oB,Option.map_some,e1,hz]
  exact⟨_,rfl,by rw[lS];exact hP⟩)
 rw[n1]
 simp only[oB,hm,w1]
 exact⟨st,w,rfl,n2,fun y=>by rw[n3,List.mem_map],n4',w2,w1⟩
/-! ### The coin -/
def ab7:j8:=⟨[0],[],1⟩
def ab6:j8:=⟨[],[],2⟩
def coinO:f8:=⟨[],[ab7,ab6],1⟩
def r7:b7:=⟨1,[],[0],[coinO]⟩
theorem coin_ok:g9 r7 where
 n0:=by decide
 n1:=by decide
 init:=T9 _
 goal:=setN1 0 (by decide) (by decide)
 ops:=by decide
 op o ho:=by
  simp only[r7,List.mem_singleton] at ho
  subst ho
  refine⟨T9 _,by decide,by decide,by decide,by decide,fun x hx=> ?_⟩
  simp only[coinO,List.mem_cons,List.not_mem_nil,or_false] at hx
  rcases hx with rfl|rfl
  ·exact⟨⟨setN1 0 (by decide) (by decide),T9 _,by simp[ab7]⟩,by decide,by decide⟩
  ·exact⟨⟨T9 _,T9 _,by simp[ab6]⟩,by decide,by decide⟩
theorem coin_X:efc 1 [] ab7=[0]:=by
 refine((setN1 0 (by decide) (by decide):SetN [0] 1).eq_of (p:=fun p=>p ∈ ab7.add∨p ∈ []∧p ∉ ab7.del) fun x h0 h1=> ?_).symm
 simp[ab7]
theorem coin_Y:efc 1 [] ab6=[]:=by
 refine((T9 1).eq_of (p:=fun p=>p ∈ ab6.add∨p ∈ []∧p ∉ ab6.del) fun x h0 h1=> ?_).symm
 simp[ab6]
theorem coin_resw:o8 r7 [] 0=some ([[],[0]],[2,1]):=by
 have hat:ooAt r7 0=coinO:=rfl
 obtain⟨st,w,r1,r2,r3,r4,r5,r6⟩:=D4 coin_ok (op:=0) (by decide) (by decide) (s:=[]) (T9 _)
 rw[hat] at r3 r6
 have hst:st=[[],[0]]:=by
  refine Ord.ext r2 (by simp[llt]) fun y=> ?_
  rw[r3]
  simp only[coinO,List.mem_cons,List.not_mem_nil,or_false,show r7.facts=1 from rfl]
  constructor
  ·rintro ⟨x,rfl|rfl,rfl⟩
   ·exact .inr coin_X
   ·exact .inl coin_Y
  ·rintro (rfl|rfl)
   ·exact⟨ab6,.inr rfl,coin_Y⟩
   ·exact⟨ab7,.inl rfl,coin_X⟩
 subst hst
 have hw:w=[2,1]:=by
  obtain⟨i,e1,e2,e3⟩:=ac8 (xs:=[[],[0]]) (t:=[0]) (by simp[llt]) (by decide)
  have:=e3 1 rfl
  subst this
  obtain⟨i,f1,f2,f3⟩:=ac8 (xs:=[[],[0]]) (t:=[]) (by simp[llt]) (by decide)
  have:=f3 0 rfl
  subst this
  have hr:(coinO.outcomes.map (efc r7.facts []))=[[0],[]]:=by
   simp only[coinO,List.map_cons,List.map_nil,show r7.facts=1 from rfl,coin_X,coin_Y]
  rw[hr] at r6
  have b0:w8 [[0],[]] [[],[0]] coinO 0 [0,0]=some [0,1]:=by
   unfold w8
   simp only[show ix coinO.outcomes 0=some ab7 from rfl,show ix [[(0:Int)],[]] 0=some [0] from rfl,Option.bind_some,e1]
   rfl
  have b1:w8 [[0],[]] [[],[0]] coinO 1 [0,1]=some [2,1]:=by
   unfold w8
   simp only[show ix coinO.outcomes 1=some ab6 from rfl,show ix [[(0:Int)],[]] 1=some [] from rfl,Option.bind_some,f1]
   rfl
  have hl:((coinO.outcomes.length:Int) - 0).toNat=2:=rfl
  have hrep:List.replicate ([[],[(0:Int)]]:LL).length (0:Int)=[0,0]:=rfl
  rw[hrep] at r6
  unfold forR at r6
  rw[hl] at r6
  simp only[forN,b0,oB,show(0:Int)+1=1 from rfl,b1] at r6
  exact(Option.some.inj r6).symm
 subst hw
 exact r1
end Ab
end
section
namespace Ab
open Go
noncomputable def chO(p:List d8)(s:Li):Int:=(ah1 p s).getD (-1)
theorem Y2{t:b7}{p:List d8}(hp:G3 t p)(s:Li):D5 p s=some (chO p s)∧(chO p s= -1∨(0≤chO p s∧chO p s<t.operators.length∧oCan t s (chO p s))):=by
 obtain⟨r,h1,h2,h3⟩:=chosen_eq hp s
 have:chO p s=r:=by rw[chO,h2];rfl
 rw[this]
 exact⟨h1,h3⟩
theorem ifOr{a b:Prop}:(if dec a=true then some true else some (dec b))=some (dec (a∨b)):=by
 by_cases h:a
 ·rw[ifP h,j7 (.inl h)]
 ·rw[ifN h];exact congrArg some (v7 ⟨.inr,fun g=>g.resolve_left h⟩)
end Ab
end
section
namespace Ab
open Go
def dzO(o:f8)(x:j8):T7:=⟨o.pre,x.add,x.del,o.cost⟩
structure Dz(t:b7)(a k:Int)(c:List (Int×Int))(d:List T7):Prop where
 len:c.length=d.length
 most:(c.length:Int)≤4 * a+k
 each:∀i p,ix c i=some p→(0≤p.1∧p.1<t.operators.length)∧∃x ∈ (ooAt t p.1).outcomes,ix d i=some (dzO (ooAt t p.1) x)
 all:∀(b m:Int) (x:j8),0≤b→b<t.operators.length→ix (ooAt t b).outcomes m=some x→(b<a∨b=a∧m<k)→∃i,ix c i=some (b,m)∧ix d i=some (dzO (ooAt t b) x)
end Ab
end
section
namespace Ab
open Go
def dg(x:Int):Li:=if x<10 then [48+x] else [48+x / 10,48+x % 10]
def encS(s:Li):Li:=s.flatMap (fun x=>dg x++[44])++[59]
def encK(l:LL):Li:=l.flatMap encS
def small(s:Li):Prop:=∀x ∈ s,0≤x∧x<100
theorem dg_split{x y:Int}(hx:0≤x∧x<100)(hy:0≤y∧y<100){r r':Li}(h:dg x++44::r=dg y++44::r'):x=y∧r=r':=by
 unfold dg at h
 split at h<;>split at h<;>simp only[List.cons_append,List.nil_append,List.cons.injEq] at h
 ·exact⟨by omega,h.2.2⟩
 ·exfalso;omega
 ·exfalso;omega
 ·exact⟨by omega,h.2.2.2⟩
theorem dg_head{x:Int}(hx:0≤x∧x<100):∃a l,dg x=a::l∧48≤a∧a<58:=by
 unfold dg
 split
 ·exact⟨_,_,rfl,by omega,by omega⟩
 ·exact⟨_,_,rfl,by omega,by omega⟩
theorem ai3(x:Int)(s:Li):encS (x::s)=dg x++44::encS s:=by simp[encS]
theorem encS_inj:∀{s s' r r':Li},small s→small s'→encS s++r=encS s'++r'→s=s'∧r=r'
 |[],[],r,r',_,_,h=>by simp[encS] at h;exact⟨rfl,h⟩
 |[],y::s',r,r',_,h2,h=>by
  obtain⟨a,l,ha,h3,h4⟩:=dg_head (h2 y (by simp))
  rw[ai3,ha] at h
  simp only[encS,List.flatMap_nil,List.nil_append,List.cons_append,List.cons.injEq] at h
  omega
 |x::s,[],r,r',h1,_,h=>by
  obtain⟨a,l,ha,h3,h4⟩:=dg_head (h1 x (by simp))
  rw[ai3,ha] at h
  simp only[encS,List.flatMap_nil,List.nil_append,List.cons_append,List.cons.injEq] at h
  omega
 |x::s,y::s',r,r',h1,h2,h=>by
  rw[ai3,ai3,List.append_assoc,List.append_assoc,List.cons_append,List.cons_append] at h
  obtain⟨rfl,g⟩:=dg_split (h1 x (by simp)) (h2 y (by simp)) h
  obtain⟨e1,e2⟩:=encS_inj (s:=s) (s':=s') (fun z hz=>h1 z (List.mem_cons_of_mem _ hz)) (fun z hz=>h2 z (List.mem_cons_of_mem _ hz)) g
  exact⟨by rw[e1],e2⟩
theorem encK_inj:∀{l l':LL},(∀s ∈ l,small s)→(∀s ∈ l',small s)→encK l=encK l'→l=l'
 |[],[],_,_,_=>rfl
 |[],s::l',_,_,h=>by
  have h:=congrArg List.length h
  simp only[encK,encS,List.flatMap_nil,List.flatMap_cons,List.length_append,List.length_nil,List.length_cons] at h
  omega
 |s::l,[],_,_,h=>by
  have h:=congrArg List.length h
  simp only[encK,encS,List.flatMap_nil,List.flatMap_cons,List.length_append,List.length_nil,List.length_cons] at h
  omega
 |s::l,s'::l',h1,h2,h=>by
  have h:encS s++encK l=encS s'++encK l':=h
  obtain⟨e1,e2⟩:=encS_inj (h1 s (List.mem_cons_self ..)) (h2 s' (List.mem_cons_self ..)) h
  have e3:=encK_inj (l:=l) (l':=l') (fun z hz=>h1 z (List.mem_cons_of_mem _ hz)) (fun z hz=>h2 z (List.mem_cons_of_mem _ hz)) e2
  rw[e1,e3]
theorem dg_byte{x:Int}(hx:0≤x∧x<100):∀a ∈ dg x,0≤a∧a<256:=by
 intro a ha
 unfold dg at ha
 split at ha<;>simp at ha<;>omega
theorem encS_byte{s:Li}(h:small s):∀a ∈ encS s,0≤a∧a<256:=by
 intro a ha
 simp only[encS,List.mem_append,List.mem_flatMap,List.mem_singleton] at ha
 rcases ha with⟨x,hx,h1|h1⟩|h1
 ·exact dg_byte (h x hx) a h1
 ·omega
 ·omega
theorem encK_byte{l:LL}(h:∀s ∈ l,small s):∀a ∈ encK l,0≤a∧a<256:=by
 intro a ha
 simp only[encK,List.mem_flatMap] at ha
 obtain⟨s,hs,h1⟩:=ha
 exact encS_byte (h s hs) a h1
theorem strB_inj{l l':Li}(h1:∀a ∈ l,0≤a∧a<256)(h2:∀a ∈ l',0≤a∧a<256)(h:strB l=strB l'):l=l':=by
 have h3:l.map (fun n=>UInt8.ofNat n.toNat)=l'.map (fun n=>UInt8.ofNat n.toNat):=by
  have:=congrArg ByteArray.data h
  simpa[strB] using this
 have back:∀{m:Li},(∀a ∈ m,0≤a∧a<256)→(m.map (fun n=>UInt8.ofNat n.toNat)).map (fun b=>(b.toNat:Int))=m:=by
  intro m hm
  rw[List.map_map]
  conv=>rhs;rw[← List.map_id m]
  apply List.map_congr_left
  intro a ha
  have:=hm a ha
  simp only[Function.comp_apply,id_eq,UInt8.toNat_ofNat']
  omega
 rw[← back h1,← back h2,h3]
def keyK(l:LL):ByteArray:=strB (encK l)
theorem keyK_inj{l l':LL}(h1:∀s ∈ l,small s)(h2:∀s ∈ l',small s)(h:keyK l=keyK l'):l=l':=encK_inj h1 h2 (strB_inj (encK_byte h1) (encK_byte h2) h)
/-! ### Maps -/
theorem X5{K V:Type}[DecidableEq K](k k':K)(v:V):∀m:List (K×V),mget (mset m k v) k'=if k'=k then some v else mget m k'
 |[]=>by
  simp only[mset,mget]
 |p::r=>by
  simp only[mset]
  by_cases h:k=p.1
  ·rw[if_pos h]
   simp only[mget]
   by_cases h2:k'=k
   ·rw[if_pos h2,if_pos h2]
   ·rw[if_neg h2,if_neg h2,if_neg (by rw[← h];exact h2)]
  ·rw[if_neg h]
   simp only[mget]
   rw[X5 k k' v r]
   by_cases h2:k'=p.1
   ·rw[if_pos h2,if_pos h2,if_neg (fun e=>h (e.symm.trans h2))]
   ·rw[if_neg h2,if_neg h2]
end Ab
end
section
namespace Ab
open Go
theorem at1{α β:Type}{l:List α}{body:Int→List β→Option (List β)}(g:α→List β)(N:Nat)(c0:List β)
  (hb:∀j a c,ix l j=some a→c.length+(g a).length≤N→body j c=some (c++g a)) (hN:c0.length+(l.flatMap g).length≤N):
  forR 0 (l.length:Int) body c0=some (c0++l.flatMap g):=by
 obtain⟨s',h1,h2⟩:=s8 (body:=body) (n:=(l.length:Int)) (s:=c0) (fun j c=>c=c0++(l.take j.toNat).flatMap g) (by omega) (by simp) (fun j c h0 h1 hP=>by
  obtain⟨a,g1,g2⟩:=i6 h0 h1
  have e:(j+1).toNat=j.toNat+1:=by omega
  have ht:l.take (j+1).toNat=l.take j.toNat++[a]:=by rw[e,List.take_add_one,g2];rfl
  refine⟨c++g a,hb j a c g1 ?_,?_⟩
  ·have hs:l=l.take j.toNat++[a]++l.drop (j+1).toNat:=by rw[← ht,List.take_append_drop]
   have hl:(l.flatMap g).length=((l.take j.toNat).flatMap g).length+(g a).length+((l.drop (j+1).toNat).flatMap g).length:=by
    conv=>lhs;rw[hs]
    simp[List.flatMap_append];omega
   rw[hP,List.length_append];omega
  ·rw[ht,List.flatMap_append,hP];simp)
 rw[h1,h2]
 simp
theorem small_eq:∀n:Fin 100,(I5 (n:Nat)).map strL=some (dg (n:Nat)):=by decide+kernel
theorem appendInt_eq{x:Int}(hx:0≤x∧x<100){l:Li}(hl:l.length≤1000000):D7 x 10 l=some (l++dg x):=by
 have h:=small_eq ⟨x.toNat,by omega⟩
 rw[show(((⟨x.toNat,by omega⟩:Fin 100):Nat):Int)=x by simp;omega] at h
 obtain⟨b,h1,h2⟩:=oM.1 h
 first
  |unfold D7 C5 B8
  |unfold D7 internal_strconv_AppendInt_w2 internal_strconv_AppendUint_w3
 rw[if_neg (by omega),IntKind.wrap_u64,Int.emod_eq_of_lt (by omega) (by omega)]
 simp only[oB,if_true]
 rw[if_pos hx.2,l9 (by omega) (by omega),h1]
 simp only[oB,h2]
 have:(dg x).length≤2:=by unfold dg;split<;>simp
 rw[app,if_pos (by omega)]
 rfl
theorem dg_len(x:Int):(dg x).length≤2:=by unfold dg;split<;>simp
theorem key_eq{l:LL}(hs:∀s ∈ l,small s)(hN:(encK l).length≤900000):U2 l=some (keyK l):=by
 unfold U2
 rw[at1 encS 900000 [] (fun j s c hj hc=>by
  unfold aj4
  rw[hj]
  simp only[oB]
  have hlen:(encS s).length=(s.flatMap fun x=>dg x++[44]).length+1:=by simp[encS]
  rw[at1 (fun x=>dg x++[44]) 900000 c (fun i x c' hi hc'=>by
   unfold aj2
   rw[hi]
   simp only[List.length_append,List.length_singleton] at hc'
   simp only[oB,appendInt_eq (hs s (i7 hj) x (i7 hi)) (l:=c') (by omega)]
   rw[app,if_pos (by simp;omega)]
   simp) (by omega)]
  simp only[oB]
  rw[app,if_pos (by rw[List.length_append];simp only[List.length_singleton];omega)]
  simp[encS]) (by simpa[encK] using hN)]
 rfl
theorem encS_len:∀s:Li,(encS s).length≤3 * s.length+1
 |[]=>by simp[encS]
 |x::s=>by
  have:=encS_len s
  have:=dg_len x
  rw[ai3]
  simp only[List.length_append,List.length_cons]
  omega
end Ab
end
section
namespace Ab
open Go
/-! ### Loops side by side -/
theorem rngN_sim{S1 S2 O1 O2:Type}{b1:Int→S1→Option (S1⊕O1)}{b2:Int→S2→Option (S2⊕O2)}(R:Int→S1→S2→Prop)(Q:O1→O2→Prop):∀(k:Nat) (i:Int) (s1:S1) (s2:S2),R i s1 s2→
  (∀j s1 s2,i≤j→j<i+k→R j s1 s2→(∃t1 t2,b1 j s1=some (.inl t1)∧b2 j s2=some (.inl t2)∧R (j+1) t1 t2)∨∃o1 o2,b1 j s1=some (.inr o1)∧b2 j s2=some (.inr o2)∧Q o1 o2)→
  (∃t1 t2,rngN b1 k i s1=some (.inl t1)∧rngN b2 k i s2=some (.inl t2)∧R (i+k) t1 t2)∨∃o1 o2,rngN b1 k i s1=some (.inr o1)∧rngN b2 k i s2=some (.inr o2)∧Q o1 o2
 |0,i,s1,s2,h,_=>.inl ⟨s1,s2,rfl,rfl,by simpa using h⟩
 |k+1,i,s1,s2,h,hb=>by
  rcases hb i s1 s2 (Int.le_refl _) (by omega) h with⟨t1,t2,h1,h2,h3⟩|⟨o1,o2,h1,h2,h3⟩
  ·rcases rngN_sim R Q k (i+1) t1 t2 h3 (fun j s1 s2 g1 g2=>hb j s1 s2 (by omega) (by omega)) with⟨u1,u2,g1,g2,g3⟩|⟨o1,o2,g1,g2,g3⟩
   ·exact .inl ⟨u1,u2,by simp only[rngN,h1];exact g1,by simp only[rngN,h2];exact g2,by rw[show i+((k+1:Nat):Int)=i+1+k by omega];exact g3⟩
   ·exact .inr ⟨o1,o2,by simp only[rngN,h1];exact g1,by simp only[rngN,h2];exact g2,g3⟩
  ·exact .inr ⟨o1,o2,by simp only[rngN,h1],by simp only[rngN,h2],h3⟩
theorem rngX_sim{S1 S2 O1 O2:Type}{b1:Int→S1→Option (S1⊕O1)}{b2:Int→S2→Option (S2⊕O2)}{n:Int}(R:Int→S1→S2→Prop)(Q:O1→O2→Prop){s1:S1}{s2:S2}(hn:0≤n)(h0:R 0 s1 s2)
  (hb:∀j s1 s2,0≤j→j<n→R j s1 s2→(∃t1 t2,b1 j s1=some (.inl t1)∧b2 j s2=some (.inl t2)∧R (j+1) t1 t2)∨∃o1 o2,b1 j s1=some (.inr o1)∧b2 j s2=some (.inr o2)∧Q o1 o2):
  (∃t1 t2,rngX 0 n b1 s1=some (.inl t1)∧rngX 0 n b2 s2=some (.inl t2)∧R n t1 t2)∨∃o1 o2,rngX 0 n b1 s1=some (.inr o1)∧rngX 0 n b2 s2=some (.inr o2)∧Q o1 o2:=by
 rcases rngN_sim R Q (n - 0).toNat 0 s1 s2 h0 (fun j s1 s2 g1 g2=>hb j s1 s2 g1 (by omega)) with⟨t1,t2,h1,h2,h3⟩|h
 ·exact .inl ⟨t1,t2,h1,h2,by rwa [show(0:Int)+((n - 0).toNat:Int)=n by omega] at h3⟩
 ·exact .inr h
theorem Loop_sim{S1 S2 O1 O2:Type}{b1:S1→Option (S1⊕O1)}{b2:S2→Option (S2⊕O2)}(R:S1→S2→Prop)(Q:O1→O2→Prop)(μ:S1→Nat)
  (hb:∀s1 s2,R s1 s2→(∃t1 t2,b1 s1=some (.inl t1)∧b2 s2=some (.inl t2)∧R t1 t2∧μ t1<μ s1)∨∃o1 o2,b1 s1=some (.inr o1)∧b2 s2=some (.inr o2)∧Q o1 o2):
  ∀(k:Nat) (s1:S1) (s2:S2),μ s1<k→R s1 s2→∃o1 o2,Loop b1 s1=some o1∧Loop b2 s2=some o2∧Q o1 o2
 |0,_,_,h,_=>by omega
 |k+1,s1,s2,h,hs=>by
  rcases hb s1 s2 hs with⟨t1,t2,h1,h2,h3,h4⟩|⟨o1,o2,h1,h2,h3⟩
  ·obtain⟨o1,o2,g1,g2,g3⟩:=Loop_sim R Q μ hb k t1 t2 (by omega) h3
   exact⟨o1,o2,by rw[Y8,h1];exact g1,by rw[Y8,h2];exact g2,g3⟩
  ·exact⟨o1,o2,by rw[Y8,h1],by rw[Y8,h2],h3⟩
theorem SetN.small{s:Li}{n:Int}(h:SetN s n)(hn:n≤24):small s:=fun x hx=>by have:=h.2 x hx;omega
theorem ak9{s:Li}(hs:small s)(h1:s.length≤1000):U2 [s]=some (keyK [s]):=by
 refine key_eq (by simpa using hs) ?_
 have:=encS_len s
 simp only[encK,List.flatMap_cons,List.flatMap_nil,List.length_append,List.append_nil]
 omega
theorem SetN.key_inj{s s':Li}{n:Int}(hn:n≤24)(h:SetN s n)(h':SetN s' n)(e:keyK [s]=keyK [s']):s=s':=by
 have:=keyK_inj (l:=[s]) (l':=[s']) (by simpa using h.small hn) (by simpa using h'.small hn) e
 simpa using this
theorem oAfter_eq{t:b7}(ht:g9 t){op:Int}(h0:0≤op)(h1:op<t.operators.length){s:Li}(hs:SetN s t.facts):ar9 t s op=o8 t s op:=by
 obtain⟨st,w,r1,r2,r3,r4,r5,r6⟩:=D4 ht h0 h1 hs
 have ho:=ht.at h0 h1
 have hl:=ho.l1
 have hn:=ht.n1
 rw[r1]
 unfold ar9
 rw[ix_oo h0 h1]
 simp only[oB]
 obtain⟨l,a1,a2,a3,a4,a5⟩:=s8 (body:=aj0 t s (ooAt t op)) (n:=((ooAt t op).outcomes.length:Int)) (s:=[]) (fun j l=>Ord l∧(l.length:Int)≤j∧(∀y ∈ l,y.length≤24)∧∀y,y ∈ l↔∃k x,k<j∧ix (ooAt t op).outcomes k=some x∧efc t.facts s x=y) (by omega) ⟨.nil,by simp,by simp,fun y=>⟨fun h=>by(cases h),fun⟨k,x,k1,k2,_⟩=>by have:=(m6 k2).1;omega⟩⟩ (fun j l j0 j1 ⟨p1,p2,p3,p4⟩=>by
  obtain⟨x,hx,_⟩:=i6 (l:=(ooAt t op).outcomes) j0 j1
  unfold aj0
  rw[hx]
  simp only[oB,effect_eq ht]
  obtain⟨l',m1,m2,m3,m4⟩:=insert_eq p1 (by omega) (fun y hy=>by have:=p3 y hy;omega) (efc t.facts s x)
  rw[m1]
  have e24:=(ac2 t.facts s x).len
  refine⟨l',rfl,m2,by omega,fun y hy=> ?_,fun y=> ?_⟩
  ·rcases(m3 y).1 hy with rfl|h
   ·omega
   ·exact p3 y h
  ·rw[m3,p4]
   constructor
   ·rintro (rfl|⟨k,x',k1,k2⟩)
    ·exact⟨j,x,by omega,hx,rfl⟩
    ·exact⟨k,x',by omega,k2⟩
   ·rintro ⟨k,x',k1,k2,k3⟩
    by_cases ek:k=j
    ·subst ek
     rw[hx] at k2;cases k2
     exact .inl k3.symm
    ·exact .inr ⟨k,x',by omega,k2,k3⟩)
 have hst:l=st:=Ord.ext a2 r2 fun y=>by
  rw[a5,r3]
  constructor
  ·rintro ⟨k,x,_,k2,k3⟩;exact⟨x,i7 k2,k3⟩
  ·rintro ⟨x,hx,k3⟩
   obtain⟨k,k0,k1,k2⟩:=m7 hx
   exact⟨k,x,k1,k2,k3⟩
 subst hst
 have hm:mkL 8 (l.length:Int) (0:Int)=some (List.replicate l.length 0):=by
  rw[mkL,if_pos (by omega)];simp
 rw[a1]
 simp only[oB,hm]
 have e:forR 0 ((ooAt t op).outcomes.length:Int) (ai9 t s (ooAt t op) l) (List.replicate l.length 0)=some w:=by
  rw[← r6]
  refine forR_congr fun j c j0 j1=> ?_
  obtain⟨x,hx,_⟩:=i6 (l:=(ooAt t op).outcomes) j0 j1
  obtain⟨i,e1,e2,e3⟩:=ac8 (t:=efc t.facts s x) r2 (by omega)
  obtain⟨r,g1,g2⟩:=place_eq l (efc t.facts s x)
  unfold ai9 w8
  rw[hx,ix_map,hx]
  simp only[oB,Option.map_some,effect_eq ht,e1,g1]
  rcases g2 with⟨_,h⟩|⟨_,_,h,_⟩
  ·exact absurd ((r3 _).2 ⟨x,i7 hx,rfl⟩) h
  ·rw[e3 r h]
 rw[e]
 rfl
end Ab
end
section
namespace Ab
open Go
def Ext(a b:LL):Prop:=∀k y,ix a k=some y→ix b k=some y
theorem Ext.refl(a:LL):Ext a a:=fun _ _ h=>h
theorem Ext.mem{a b:LL}(h:Ext a b){y:Li}(hy:y ∈ a):y ∈ b:=by
 obtain⟨k,_,_,hk⟩:=m7 hy
 exact i7 (h k y hk)
theorem Ext.snoc{a b:LL}(h:Ext a b)(z:Li):Ext a (b++[z]):=fun k y hk=>by
 obtain⟨i0,i1,g⟩:=m6 (h k y hk)
 rw[ix,if_pos i0,List.getElem?_append_left (by omega),g]
theorem Ext.len{a b:LL}(h:Ext a b):a.length≤b.length:=by
 by_cases c:a.length=0
 ·omega
 ·obtain⟨y,hy,_⟩:=i6 (l:=a) (i:=(a.length:Int) - 1) (by omega) (by omega)
  have:=(m6 (h _ y hy)).2.1
  omega
structure Rc(t:b7)(l:LL)(m:List (ByteArray×Int))(ws:Li):Prop where
 set:∀s ∈ l,SetN s t.facts
 len:l.length≤2000
 map:∀s,SetN s t.facts→(0<Option.getD (mget m (keyK [s])) 0↔s ∈ l)
 wrd:ws=l.map fun s=>(wsN s:Int)
theorem Rc.has{t:b7}{l:LL}{m:List (ByteArray×Int)}{ws:Li}(h:Rc t l m ws){s:Li}(hs:SetN s t.facts):(wsN s:Int) ∈ ws↔s ∈ l:=by
 rw[h.wrd,List.mem_map]
 constructor
 ·rintro ⟨a,ha,e⟩
  have:a=s:=(h.set a ha).word_inj hs (by omega)
  exact this ▸ ha
 ·intro hm;exact⟨s,hm,rfl⟩
theorem Rc.put{t:b7}(hn:t.facts≤24){l:LL}{m:List (ByteArray×Int)}{ws:Li}(h:Rc t l m ws){s:Li}(hs:SetN s t.facts)(hl:l.length<2000):Rc t (l++[s]) (mset m (keyK [s]) 1) (ws++[(wsN s:Int)]):=by
 refine⟨fun y hy=> ?_,by simp;omega,fun y hy=> ?_,by rw[h.wrd];simp⟩
 ·rcases List.mem_append.1 hy with g|g
  ·exact h.set y g
  ·simp only[List.mem_singleton] at g;subst g;exact hs
 ·rw[X5,List.mem_append,List.mem_singleton]
  by_cases e:keyK [y]=keyK [s]
  ·have:=SetN.key_inj hn hy hs e
   subst this
   rw[if_pos rfl]
   simp
  ·rw[if_neg e,h.map y hy]
   constructor
   ·exact .inl
   ·rintro (g|g)
    ·exact g
    ·exact absurd (by rw[g]) e
theorem reach4{t:b7}(ht:g9 t){st:LL}{w:Li}(hst:∀y ∈ st,SetN y t.facts){l0:LL}{m0:List (ByteArray×Int)}{ws0:Li}(h0:Rc t l0 m0 ws0):
  (∃p q,rngX 0 (st.length:Int) (z2 (st,w)) (l0,m0)=some (.inl p)∧rngX 0 (st.length:Int) (Q6 2000 (st,w)) (l0,ws0)=some (.inl q)∧q.1=p.1∧Rc t p.1 p.2 q.2∧Ext l0 p.1∧∀y ∈ st,y ∈ p.1)∨∃o1 o2,rngX 0 (st.length:Int) (z2 (st,w)) (l0,m0)=some (.inr o1)∧rngX 0 (st.length:Int) (Q6 2000 (st,w)) (l0,ws0)=some (.inr o2)∧o1=([],false)∧o2=([],false):=by
 have hn:=ht.n1
 rcases rngX_sim (b1:=z2 (st,w)) (b2:=Q6 2000 (st,w)) (n:=(st.length:Int)) (s1:=(l0,m0)) (s2:=(l0,ws0)) (fun j p q=>q.1=p.1∧Rc t p.1 p.2 q.2∧Ext l0 p.1∧∀k y,k<j→ix st k=some y→y ∈ p.1) (fun o1 o2=>o1=([],false)∧o2=([],false)) (by omega) ⟨rfl,h0,.refl _,fun k y k0 hk=>by have:=(m6 hk).1;omega⟩ (fun j ⟨l,m⟩ ⟨l',ws⟩ j0 j1 ⟨e,g1,g2,g3⟩=>by
  dsimp only at e g1 g2 g3
  subst e
  obtain⟨y,hy,_⟩:=i6 (l:=st) j0 j1
  have hs:=hst y (i7 hy)
  have hyl:=hs.len
  unfold z2 Q6
  dsimp only
  rw[hy]
  simp only[oB]
  rw[ak9 (hs.small hn) (by omega),word_eq hs hn]
  simp only[oB,has_eq]
  have mono:∀{l2:LL},Ext l' l2→y ∈ l2→∀k z,k<j+1→ix st k=some z→z ∈ l2:=fun h1 h2 k z hk hz=>by
   by_cases ek:k=j
   ·subst ek;rw[hy] at hz;cases hz;exact h2
   ·exact h1.mem (g3 k z (by omega) hz)
  by_cases c:y ∈ l'
  ·rw[if_pos ((g1.map y hs).2 c),ifP ((g1.has hs).2 c)]
   exact .inl ⟨_,_,rfl,rfl,rfl,g1,g2,mono (.refl _) c⟩
  ·rw[if_neg (fun h=>c ((g1.map y hs).1 h)),ifN (fun h=>c ((g1.has hs).1 h))]
   have hlen:=g1.len
   by_cases c2:(l'.length:Int)=2000
   ·rw[if_pos c2,if_pos (by omega)]
    exact .inr ⟨_,_,rfl,rfl,rfl,rfl⟩
   ·rw[if_neg c2,if_neg (by omega),app,if_pos (by simp;omega)]
    simp only[oB]
    rw[app,if_pos (by rw[g1.wrd];simp;omega)]
    exact .inl ⟨_,_,rfl,rfl,rfl,g1.put hn hs (by omega),g2.snoc _,mono ((Ext.refl _).snoc _) (by simp)⟩) with⟨p,q,h1,h2,h3,h4,h5,h6⟩|h
 ·refine .inl ⟨p,q,h1,h2,h3,h4,h5,fun y hy=> ?_⟩
  obtain⟨k,_,k1,hk⟩:=m7 hy
  exact h6 k y k1 hk
 ·exact .inr h
def ClS(t:b7)(l:LL)(s:Li)(n:Int):Prop:=∀op:Int,0≤op→op<n→oCan t s op→∀x ∈ (ooAt t op).outcomes,efc t.facts s x ∈ l
theorem ClS.ext{t:b7}{l l':LL}{s:Li}{n:Int}(h:ClS t l s n)(e:Ext l l'):ClS t l' s n:=fun op h0 h1 hc x hx=>e.mem (h op h0 h1 hc x hx)
theorem reach2{t:b7}(ht:g9 t){l0:LL}{m0:List (ByteArray×Int)}{ws0:Li}(h0:Rc t l0 m0 ws0){at_:Int}{s:Li}(hs:ix l0 at_=some s):
  (∃p q,rngX 0 (t.operators.length:Int) (B3 t at_) (l0,m0)=some (.inl p)∧rngX 0 (t.operators.length:Int) (P4 t 2000 at_) (l0,ws0)=some (.inl q)∧q.1=p.1∧Rc t p.1 p.2 q.2∧Ext l0 p.1∧ClS t p.1 s t.operators.length)∨∃o1 o2,rngX 0 (t.operators.length:Int) (B3 t at_) (l0,m0)=some (.inr o1)∧rngX 0 (t.operators.length:Int) (P4 t 2000 at_) (l0,ws0)=some (.inr o2)∧o1=([],false)∧o2=([],false):=by
 have hset:=h0.set s (i7 hs)
 exact rngX_sim (b1:=B3 t at_) (b2:=P4 t 2000 at_) (n:=(t.operators.length:Int)) (s1:=(l0,m0)) (s2:=(l0,ws0)) (fun j p q=>q.1=p.1∧Rc t p.1 p.2 q.2∧Ext l0 p.1∧ClS t p.1 s j) (fun o1 o2=>o1=([],false)∧o2=([],false)) (by omega) ⟨rfl,h0,.refl _,fun op a b=>by omega⟩ (fun j ⟨l,m⟩ ⟨l',ws⟩ j0 j1 ⟨e,g1,g2,g3⟩=>by
  dsimp only at e g1 g2 g3
  subst e
  unfold B3 P4
  dsimp only
  rw[g2 _ _ hs]
  simp only[oB]
  rw[ah0 ht j0 j1 hset,oApplies_eq j0 j1]
  simp only[oB,w6]
  have step:∀{l2:LL},Ext l' l2→(oCan t s j→∀x ∈ (ooAt t j).outcomes,efc t.facts s x ∈ l2)→ClS t l2 s (j+1):=fun h1 h2 op a b hc x hx=>by
   by_cases eo:op=j
   ·subst eo;exact h2 hc x hx
   ·exact h1.mem (g3 op a (by omega) hc x hx)
  by_cases c:oCan t s j
  ·rw[ifNN c,ifNN c,oAfter_eq ht j0 j1 hset]
   obtain⟨st,w,r1,r2,r3,_⟩:=D4 ht j0 j1 hset
   rw[r1]
   simp only[oB]
   rcases reach4 ht (st:=st) (w:=w) (fun y hy=>by
    obtain⟨x,_,rfl⟩:=(r3 y).1 hy
    exact ac2 _ _ _) g1 with⟨p,q,h1,h2,h3,h4,h5,h6⟩|⟨o1,o2,h1,h2,h3,h4⟩
   ·rw[h1,h2]
    refine .inl ⟨p,q,rfl,rfl,h3,h4,fun k y hk=>h5 k y (g2 k y hk),step h5 fun _ x hx=>h6 _ ((r3 _).2 ⟨x,hx,rfl⟩)⟩
   ·rw[h1,h2]
    exact .inr ⟨o1,o2,rfl,rfl,h3,h4⟩
  ·rw[ifP c,ifP c]
   exact .inl ⟨_,_,rfl,rfl,rfl,g1,g2,step (.refl _) fun h=>absurd h c⟩)
structure Cl(t:b7)(l:LL):Prop where
 len:l.length≤2000
 set:∀s ∈ l,SetN s t.facts
 init:t.init ∈ l
 closed:∀s ∈ l,ClS t l s t.operators.length
theorem reach_full{t:b7}(ht:g9 t):(∃out,A6 t=some (out,true)∧L7 t 2000=some (out,true)∧Cl t out∧Ord out∧∃l,Loop (W0 t 2000) ([t.init],[(wsN t.init:Int)],0)=some (.inl l)∧out.length≤l.length)∨(A6 t=some ([],false)∧L7 t 2000=some ([],false)):=by
 have hn:=ht.n1
 have hi:=ht.init
 have hil:=hi.len
 unfold A6 L7
 rw[ag0 (by omega)]
 simp only[oB]
 rw[ak9 (hi.small hn) (by omega),word_eq hi hn]
 simp only[oB]
 rw[app,if_pos (by simp)]
 simp only[oB,List.nil_append]
 have r0:Rc t [t.init] (mset ([]:List (ByteArray×Int)) (keyK [t.init]) 1) [(wsN t.init:Int)]:=by
  refine⟨by simpa using hi,by simp,fun s hs=> ?_,rfl⟩
  rw[X5]
  by_cases e:keyK [s]=keyK [t.init]
  ·rw[if_pos e,SetN.key_inj hn hs hi e];simp
  ·rw[if_neg e]
   simp only[mget,List.mem_singleton,Option.getD_none]
   exact⟨fun h=>by omega,fun h=>absurd (by rw[h]) e⟩
 obtain⟨o1,o2,q1,q2,q3⟩:=Loop_sim (b1:=y9 t) (b2:=W0 t 2000) (fun p q=>q.1=p.1∧q.2.2=p.2.2∧Rc t p.1 p.2.1 q.2.1∧0≤p.2.2∧p.2.2≤p.1.length∧t.init ∈ p.1∧∀i s,i<p.2.2→ix p.1 i=some s→ClS t p.1 s t.operators.length) (fun o1 o2=>(∃l,o1=.inl l∧o2=.inl l∧Cl t l)∨(o1=.inr ([],false)∧o2=.inr ([],false))) (fun p=>(2000 - p.2.2).toNat) (fun⟨l,m,a⟩ ⟨l',ws,a'⟩ ⟨e1,e2,g1,g2,g3,g4,g5⟩=>by
  dsimp only at e1 e2 g1 g2 g3 g4 g5
  subst e1 e2
  have hlen:=g1.len
  unfold y9 W0
  dsimp only
  by_cases c:a'<l'.length
  ·rw[if_pos c,if_pos c]
   obtain⟨s,hs,_⟩:=i6 (l:=l') g2 c
   rcases reach2 ht g1 hs with⟨p,q,h1,h2,h3,h4,h5,h6⟩|⟨o1,o2,h1,h2,h3,h4⟩
   ·rw[h1,h2]
    have:=h5.len
    have:=h4.len
    simp only[oB]
    rw[l9 (by omega) (by omega)]
    refine .inl ⟨_,_,rfl,rfl,⟨h3,rfl,h4,by dsimp only;omega,by dsimp only;omega,h5.mem g4,fun i s' hi' hs'=> ?_⟩,by dsimp only;omega⟩
    dsimp only at hi' hs' ⊢
    by_cases ei:i=a'
    ·subst ei
     rw[h5 _ _ hs] at hs';cases hs'
     exact h6
    ·obtain⟨y,hy,_⟩:=i6 (l:=l') (i:=i) (m6 hs').1 (by omega)
     have hy2:=h5 _ _ hy
     rw[hs'] at hy2
     cases hy2
     exact(g5 i s' (by omega) hy).ext h5
   ·rw[h1,h2]
    refine .inr ⟨_,_,rfl,rfl,.inr ⟨by rw[h3],by rw[h4]⟩⟩
  ·rw[if_neg c,if_neg c]
   refine .inr ⟨_,_,rfl,rfl,.inl ⟨l',rfl,rfl,g1.len,g1.set,g4,fun s hs=> ?_⟩⟩
   obtain⟨i,i0,i1,hi⟩:=m7 hs
   exact g5 i s (by omega) hi) _ ([t.init],mset ([]:List (ByteArray×Int)) (keyK [t.init]) 1,0) ([t.init],[(wsN t.init:Int)],0) (Nat.lt_succ_self _) ⟨rfl,rfl,r0,by simp,by simp,by simp,fun i s hi hs=>by have:=(m6 hs).1;dsimp only at hi;omega⟩
 rw[q1,q2]
 rcases q3 with⟨l,rfl,rfl,hc⟩|⟨rfl,rfl⟩
 ·left
  simp only[oB]
  have hcl:=hc.len
  obtain⟨r,n1,n2,n3,n4⟩:=ai2 (l:=l) (by omega)
  rw[n1]
  obtain⟨l',a1,a2,a3,a4,a5⟩:=s8 (body:=af4 l) (n:=(l.length:Int)) (s:=[]) (fun j l'=>Ord l'∧(l'.length:Int)≤j∧(∀y ∈ l',y.length≤24)∧∀y,y ∈ l'↔∃k,k<j∧ix l k=some y) (by omega) ⟨.nil,by simp,by simp,fun y=>⟨fun h=>by(cases h),fun⟨k,k1,k2⟩=>by have:=(m6 k2).1;omega⟩⟩ (fun j l' j0 j1 ⟨p1,p2,p3,p4⟩=>by
   obtain⟨s,hs,_⟩:=i6 (l:=l) j0 j1
   unfold af4
   rw[hs]
   simp only[oB]
   obtain⟨l2,m1,m2,m3,m4⟩:=insert_eq p1 (by omega) (fun y hy=>by have:=p3 y hy;omega) s
   rw[m1]
   have e24:=(hc.set s (i7 hs)).len
   refine⟨l2,rfl,m2,by omega,fun y hy=> ?_,fun y=> ?_⟩
   ·rcases(m3 y).1 hy with rfl|h
    ·omega
    ·exact p3 y h
   ·rw[m3,p4]
    constructor
    ·rintro (rfl|⟨k,k1,k2⟩)
     ·exact⟨j,by omega,hs⟩
     ·exact⟨k,by omega,k2⟩
    ·rintro ⟨k,k1,k2⟩
     by_cases ek:k=j
     ·subst ek
      rw[hs] at k2;cases k2
      exact .inl rfl
     ·exact .inr ⟨k,by omega,k2⟩)
  rw[a1]
  have:l'=r:=Ord.ext a2 n2 fun y=>by
   rw[a5,n3]
   constructor
   ·rintro ⟨k,_,k2⟩;exact i7 k2
   ·intro hy
    obtain⟨k,_,k1,hk⟩:=m7 hy
    exact⟨k,k1,hk⟩
  subst this
  refine⟨l',rfl,rfl,⟨by omega,fun s hs=>hc.set s ((n3 s).1 hs),(n3 _).2 hc.init,fun s hs op h0 h1 hcan x hx=>(n3 _).2 (hc.closed s ((n3 s).1 hs) op h0 h1 hcan x hx)⟩,a2,l,rfl,n4⟩
 ·right
  exact⟨rfl,rfl⟩
theorem explore_ok{t:b7}(ht:g9 t):I7 t=(A6 t).bind fun r=>if r.2=true then some (r.1,⟨0,0⟩) else some ([],⟨10, -7⟩):=by
 obtain⟨f,h1,_,h3⟩:=al9 t
 rcases h3 with⟨rfl,_⟩|⟨_,hn⟩
 ·unfold I7
  rw[h1]
  simp only[oB]
  rw[if_neg (by simp)]
  congr 1
  funext r
  cases r.2<;>rfl
 ·exact absurd ht hn
theorem explore_bad{t:b7}{f:j9}(hv:G6 t=some f)(hc:f.code ≠ 0):I7 t=some ([],f):=by
 unfold I7
 rw[hv]
 simp only[oB]
 rw[if_pos (fault_no hc)]
end Ab
end
section
namespace Ab
open Go
theorem W6{α:Type}[DecidableEq α]:∀{c S:List α},c.Nodup→(∀x ∈ c,x ∈ S)→c.length≤S.length
 |[],_,_,_=>Nat.zero_le _
 |a::c,S,h,hs=>by
  obtain⟨h1,h2⟩:=List.nodup_cons.1 h
  have ha:=hs a (by simp)
  have:=W6 (c:=c) (S:=S.erase a) h2 fun x hx=>by
   have hne:x ≠ a:=fun e=>h1 (e ▸ hx)
   exact(List.mem_erase_of_ne hne).2 (hs x (List.mem_cons_of_mem _ hx))
  rw[List.length_erase_of_mem ha] at this
  have:0<S.length:=List.length_pos_of_mem ha
  simp only[List.length_cons]
  omega
section
variable {α:Type}
def Dn(G L:α→Prop)(nx:α→List α):Nat→α→Prop
 |0,s=>G s
 |k+1,s=>G s∨(L s∧∀y ∈ nx s,Dn G L nx k y)
variable {G L:α→Prop}{nx:α→List α}
theorem Dn.goal{k:Nat}{s:α}(h:G s):Dn G L nx k s:=by
 cases k with
 |zero=>exact h
 |succ k=>exact .inl h
theorem Dn.succ:∀{k:Nat} {s:α},Dn G L nx k s→Dn G L nx (k+1) s
 |0,s,h=>.inl h
 |k+1,s,h=>by
  rcases h with h|⟨h1,h2⟩
  ·exact .inl h
  ·exact .inr ⟨h1,fun y hy=>(h2 y hy).succ⟩
theorem Dn.mono{k m:Nat}{s:α}(h:Dn G L nx k s)(hm:k≤m):Dn G L nx m s:=by
 induction hm with
 |refl=>exact h
 |step _ ih=>exact ih.succ
def Ht(G L:α→Prop)(nx:α→List α)(k:Nat)(s:α):Prop:=Dn G L nx k s∧∀j,j<k→¬ Dn G L nx j s
theorem Ht.unique{k m:Nat}{s:α}(h:Ht G L nx k s)(h':Ht G L nx m s):k=m:=by
 rcases Nat.lt_trichotomy k m with c|c|c
 ·exact absurd h.1 (h'.2 k c)
 ·exact c
 ·exact absurd h'.1 (h.2 m c)
theorem Ht.of_dn:∀{k:Nat} {s:α},Dn G L nx k s→∃m,m≤k∧Ht G L nx m s
 |0,s,h=>⟨0,Nat.le_refl _,h,fun j hj=>by omega⟩
 |k+1,s,h=>by
  by_cases c:Dn G L nx k s
  ·obtain⟨m,h1,h2⟩:=Ht.of_dn c
   exact⟨m,by omega,h2⟩
  ·exact⟨k+1,Nat.le_refl _,h,fun j hj hd=>c (hd.mono (by omega))⟩
theorem Ht.zero{s:α}(h:G s):Ht G L nx 0 s:=⟨h,fun j hj=>by omega⟩
theorem Ht.goal{k:Nat}{s:α}(h:Ht G L nx k s)(hg:G s):k=0:=h.unique (.zero hg)
theorem Ht.step{k:Nat}{s:α}(h:Ht G L nx k s)(hg:¬ G s)(hne:∀s,L s→nx s ≠ []):∃m,k=m+1∧L s∧(∀y ∈ nx s,∃j,j≤m∧Ht G L nx j y)∧∃y ∈ nx s,Ht G L nx m y:=by
 cases k with
 |zero=>exact absurd h.1 hg
 |succ m=>
  rcases h.1 with g|⟨h1,h2⟩
  ·exact absurd g hg
  ·refine⟨m,rfl,h1,fun y hy=>Ht.of_dn (h2 y hy),?_⟩
   cases m with
   |zero=>
    obtain⟨y,hy⟩:=List.exists_mem_of_ne_nil _ (hne s h1)
    exact⟨y,hy,h2 y hy,fun j hj=>by omega⟩
   |succ m=>
    have hn:=h.2 (m+1) (by omega)
    have:∃y ∈ nx s,¬ Dn G L nx m y:=Classical.byContradiction fun hc=>hn (.inr ⟨h1,fun y hy=>Classical.byContradiction fun hy2=>hc ⟨y,hy,hy2⟩⟩)
    obtain⟨y,hy,hy2⟩:=this
    exact⟨y,hy,h2 y hy,fun j hj hd=>hy2 (hd.mono (by omega))⟩
end
end Ab
end
section
namespace Ab
open Go
def g8(t:b7)(s:Li):Prop:=∀x ∈ t.goal,x ∈ s
noncomputable def J7(p:List d8)(s:Li):Prop:=0≤chO p s
noncomputable def nxS(t:b7)(p:List d8)(s:Li):LL:=(ooAt t (chO p s)).outcomes.map (efc t.facts s)
inductive Rch(t:b7)(p:List d8):Li→Prop
 |init:Rch t p t.init
 |step {s y:Li}:Rch t p s→¬ g8 t s→J7 p s→y ∈ nxS t p s→Rch t p y
theorem chO_mem{p:List d8}{s:Li}(h:0≤chO p s):∃c ∈ p,c.state=s∧chO p s=c.operator:=by
 obtain⟨r,h1,h2⟩:=as0 p s
 have e:chO p s=r:=by rw[chO,h1];rfl
 rw[e] at h ⊢
 rcases h2 with⟨rfl,_⟩|⟨c,h3,h4,h5⟩
 ·omega
 ·exact⟨c,h3,h4,h5⟩
theorem ak8{t:b7}{p:List d8}(hp:G3 t p){s:Li}(h:J7 p s):(0≤chO p s∧chO p s<t.operators.length)∧oCan t s (chO p s):=by
 obtain⟨_,e⟩:=Y2 hp s
 unfold J7 at h
 rcases e with e|e
 ·omega
 ·exact⟨⟨e.1,e.2.1⟩,e.2.2⟩
theorem Rch.set{t:b7}(ht:g9 t){p:List d8}{s:Li}(h:Rch t p s):SetN s t.facts:=by
 cases h with
 |init=>exact ht.init
 |step _ _ _ hy=>
  obtain⟨x,_,rfl⟩:=List.mem_map.1 hy
  exact ac2 _ _ _
noncomputable def candK(t:b7)(p:List d8):LL:=t.init::p.flatMap fun c=>(ooAt t c.operator).outcomes.map (efc t.facts c.state)
theorem flat_len{α β:Type}{f:α→List β}{n:Nat}:∀{l:List α},(∀a ∈ l,(f a).length≤n)→(l.flatMap f).length≤l.length * n
 |[],_=>by simp
 |a::l,h=>by
  have h1:=h a (by simp)
  have h2:=flat_len (l:=l) fun b hb=>h b (List.mem_cons_of_mem _ hb)
  rw[List.flatMap_cons,List.length_append,List.length_cons,Nat.succ_mul]
  omega
theorem candK_len{t:b7}(ht:g9 t){p:List d8}(hp:G3 t p):(candK t p).length≤801:=by
 have h:=flat_len (f:=fun c:d8=>(ooAt t c.operator).outcomes.map (efc t.facts c.state)) (n:=4) (l:=p) fun c hc=>by
  have:=hp.op c hc
  have:=(ht.at this.1 this.2).l1
  simpa using this
 have:=hp.len
 have h2:p.length * 4≤200 * 4:=Nat.mul_le_mul_right _ this
 unfold candK
 rw[List.length_cons]
 omega
theorem Rch.cand{t:b7}{p:List d8}{s:Li}(h:Rch t p s):s ∈ candK t p:=by
 cases h with
 |init=>exact List.mem_cons_self ..
 |@step s y _ _ hl hy=>
  obtain⟨c,h1,h2,h3⟩:=chO_mem hl
  refine List.mem_cons_of_mem _ (List.mem_flatMap.2 ⟨c,h1,?_⟩)
  unfold nxS at hy
  rw[h3] at hy
  rw[h2]
  exact hy
theorem rch_len{t:b7}(ht:g9 t){p:List d8}(hp:G3 t p){l:LL}(hn:l.Nodup)(h:∀s ∈ l,Rch t p s):l.length≤801:=
 Nat.le_trans (W6 hn fun s hs=>(h s hs).cand) (candK_len ht hp)
theorem Ord.nodup{l:LL}(h:Ord l):l.Nodup:=List.Pairwise.imp (fun {a b:Li} (hab:llt a b) (e:a=b)=>I3 a (by rw[← e] at hab;exact hab)) h
def ClV(t:b7)(p:List d8)(l:LL)(s:Li):Prop:=¬ g8 t s→J7 p s→∀y ∈ nxS t p s,y ∈ l
structure Vis(t:b7)(p:List d8)(l:LL):Prop where
 ord:Ord l
 mem:∀s,s ∈ l↔Rch t p s
theorem vis_of{t:b7}{p:List d8}{l:LL}(ho:Ord l)(hi:t.init ∈ l)(hr:∀s ∈ l,Rch t p s)(hc:∀s ∈ l,ClV t p l s):Vis t p l:=by
 refine⟨ho,fun s=>⟨hr s,fun h=> ?_⟩⟩
 induction h with
 |init=>exact hi
 |step _ hg hl hy ih=>exact hc _ ih hg hl _ hy
theorem containsLL_eq{l:LL}{s:Li}:q6 l (fun y=>L6 y s)=some (dec (s ∈ l)):=by
 unfold q6 u4
 rcases y7 (body:=r9 l fun y=>L6 y s) (n:=(l.length:Int)) (fun j=>if dec (ix l j=some s)=true then some j else none) (by omega) (fun j h0 h1 _=>by
  obtain⟨x,hx,_⟩:=i6 (l:=l) h0 h1
  unfold r9 L6
  rw[hx]
  simp only[oB,equal_eq]
  by_cases e:x=s
  ·rw[ifP e,ifP (by rw[e])]
  ·rw[ifN e,ifN (by simpa using e)]) with⟨h1,h2⟩|⟨j,o,h0,h1,h2,h3,h4⟩
 ·rw[h1]
  simp only[oB]
  rw[m9]
  ·rfl
  ·intro hs
   obtain⟨i,i0,i1,hi⟩:=m7 hs
   have:=h2 i i0 i1
   rw[ifP hi] at this
   cases this
 ·rw[h4]
  split at h2
  ·rename_i e
   cases h2
   simp only[oB]
   rw[j7 (i7 (k8.1 e)),decide_eq_true h0]
  ·cases h2
theorem vis4{t:b7}(ht:g9 t){p:List d8}(hp:G3 t p){s:Li}(hs:Rch t p s)(hg:¬ g8 t s)(hl:J7 p s){st:LL}{w:Li}(hst:∀y,y ∈ st↔y ∈ nxS t p s){l0:LL}(hn:l0.Nodup)(hr:∀s ∈ l0,Rch t p s):
  ∃l,forR 0 (st.length:Int) (P1 (st,w)) l0=some l∧l.Nodup∧(∀s ∈ l,Rch t p s)∧Ext l0 l∧∀y ∈ st,y ∈ l:=by
 obtain⟨l,h1,h2,h3,h4,h5⟩:=s8 (body:=P1 (st,w)) (n:=(st.length:Int)) (s:=l0) (fun j l=>l.Nodup∧(∀s ∈ l,Rch t p s)∧Ext l0 l∧∀k y,k<j→ix st k=some y→y ∈ l) (by omega) ⟨hn,hr,.refl _,fun k y hk h=>by have:=(m6 h).1;omega⟩ (fun j l j0 j1 ⟨a1,a2,a3,a4⟩=>by
  obtain⟨y,hy,_⟩:=i6 (l:=st) j0 j1
  unfold P1
  dsimp only
  rw[hy]
  simp only[oB,containsLL_eq,w6]
  have mono:∀{l2:LL},Ext l l2→y ∈ l2→∀k z,k<j+1→ix st k=some z→z ∈ l2:=fun h1 h2 k z hk hz=>by
   by_cases ek:k=j
   ·subst ek;rw[hy] at hz;cases hz;exact h2
   ·exact h1.mem (a4 k z (by omega) hz)
  have hry:Rch t p y:=.step hs hg hl ((hst y).1 (i7 hy))
  by_cases c:y ∈ l
  ·rw[ifNN c]
   exact⟨l,rfl,a1,a2,a3,mono (.refl _) c⟩
  ·have hlen:=rch_len ht hp a1 a2
   rw[ifP c,app,if_pos (by simp;omega)]
   refine⟨_,rfl,List.nodup_append.2 ⟨a1,by simp,fun a ha b hb=> ?_⟩,fun z hz=> ?_,a3.snoc _,mono ((Ext.refl _).snoc _) (by simp)⟩
   ·simp only[List.mem_singleton] at hb;subst hb;exact fun e=>c (e ▸ ha)
   ·rcases List.mem_append.1 hz with g|g
    ·exact a2 z g
    ·simp only[List.mem_singleton] at g;exact g ▸ hry)
 refine⟨l,h1,h2,h3,h4,fun y hy=> ?_⟩
 obtain⟨k,_,k1,hk⟩:=m7 hy
 exact h5 k y k1 hk
theorem oVisited_eq{t:b7}(ht:g9 t){p:List d8}(hp:G3 t p):∃l,S6 t p=some l∧Vis t p l:=by
 have hn:=ht.n1
 have hil:=ht.init.len
 unfold S6
 rw[ag0 (by omega)]
 simp only[oB]
 obtain⟨l,h1,h2,h3,h4,h5⟩:=F1 (body:=W1 t p) (fun q=>q.1.Nodup∧(∀s ∈ q.1,Rch t p s)∧t.init ∈ q.1∧(0≤q.2∧q.2≤q.1.length)∧∀i s,i<q.2→ix q.1 i=some s→ClV t p q.1 s) (fun l=>l.Nodup∧(∀s ∈ l,Rch t p s)∧t.init ∈ l∧∀s ∈ l,ClV t p l s) (fun q=>(801 - q.2).toNat) (s:=([t.init],0)) ⟨by simp,by simpa using Rch.init,by simp,by simp,fun i s hi h=>by have:=(m6 h).1;dsimp only at hi;omega⟩ (fun⟨l,a⟩ ⟨g1,g2,g3,g4,g5⟩=>by
  dsimp only at g1 g2 g3 g4 g5 ⊢
  have hlen:=rch_len ht hp g1 g2
  unfold W1
  dsimp only
  by_cases c:a<l.length
  ·rw[if_pos c]
   obtain⟨s,hs,_⟩:=i6 (l:=l) g4.1 c
   have hrs:=g2 s (i7 hs)
   have hset:=hrs.set ht
   have hsl:=hset.len
   rw[hs]
   simp only[oB,(Y2 hp s).1,G0 hset.1 ht.goal.1 (show s.length≤1000000 by omega)]
   have key:(if chO p s<0 then some true else some (dec (∀x ∈ t.goal,x ∈ s)))=some (dec (chO p s<0∨g8 t s)):=by
    unfold g8
    rw[← ifOr]
    by_cases h:chO p s<0
    ·rw[if_pos h,ifP h]
    ·rw[if_neg h,ifN h]
   rw[key]
   simp only[oB]
   have fin:∀{l2:LL},Ext l l2→ClV t p l2 s→∀i z,i<a+1→ix l2 i=some z→ClV t p l2 z:=fun h1 h2 i z hi hz=>by
    by_cases ei:i=a
    ·subst ei
     rw[h1 _ _ hs] at hz;cases hz;exact h2
    ·obtain⟨y,hy,_⟩:=i6 (l:=l) (i:=i) (m6 hz).1 (by omega)
     have:=h1 _ _ hy
     rw[hz] at this;cases this
     exact fun q1 q2 y hy2=>h1.mem (g5 i z (by omega) hy q1 q2 y hy2)
   by_cases cs:chO p s<0∨g8 t s
   ·rw[ifP cs]
    simp only[oB]
    rw[l9 (by omega) (by omega)]
    refine .inl ⟨_,rfl,⟨g1,g2,g3,by dsimp only;omega,fin (.refl _) fun q1 q2=> ?_⟩,by dsimp only;omega⟩
    rcases cs with c1|c1
    ·unfold J7 at q2;omega
    ·exact absurd c1 q1
   ·rw[ifN cs]
    have hl:J7 p s:=by unfold J7;have:=fun h=>cs (.inl h);omega
    have hg:¬ g8 t s:=fun h=>cs (.inr h)
    have ho:=ak8 hp hl
    obtain⟨st,w,r1,_,r3,_⟩:=D4 ht ho.1.1 ho.1.2 hset
    rw[r1]
    simp only[oB]
    obtain⟨l2,e1,e2,e3,e4,e5⟩:=vis4 ht hp hrs hg hl (st:=st) (w:=w) (fun y=>by rw[r3,nxS,List.mem_map]) g1 g2
    rw[e1]
    simp only[oB]
    have:=e4.len
    rw[l9 (by omega) (by omega)]
    exact .inl ⟨_,rfl,⟨e2,e3,e4.mem g3,by dsimp only;omega,fin e4 fun _ _ y hy=>e5 y (by rw[r3];exact List.mem_map.1 hy)⟩,by dsimp only;omega⟩
  ·rw[if_neg c]
   refine .inr ⟨l,rfl,g1,g2,g3,fun s hs=> ?_⟩
   obtain⟨i,i0,i1,hi⟩:=m7 hs
   exact g5 i s (by omega) hi)
 rw[h1]
 simp only[oB]
 have hlen:=rch_len ht hp h2 h3
 obtain⟨r,n1,n2,n3,n4⟩:=ai2 (l:=l) (by omega)
 rw[n1]
 exact⟨r,rfl,vis_of n2 ((n3 _).2 h4) (fun s hs=>h3 s ((n3 s).1 hs)) fun s hs q1 q2 y hy=>(n3 y).2 (h5 s ((n3 s).1 hs) q1 q2 y hy)⟩
end Ab
end
section
namespace Ab
open Go
theorem Vis.closed{t:b7}{p:List d8}{l:LL}(h:Vis t p l):∀s ∈ l,¬ g8 t s→J7 p s→∀y ∈ nxS t p s,y ∈ l:=fun s hs hg hl y hy=>(h.mem y).2 (.step ((h.mem s).1 hs) hg hl hy)
theorem Vis.len{t:b7}(ht:g9 t){p:List d8}(hp:G3 t p){l:LL}(h:Vis t p l):l.length≤801:=rch_len ht hp h.ord.nodup fun s hs=>(h.mem s).1 hs
theorem O6{l:LL}(ho:Ord l)(hl:l.length≤500000){s:Li}{i:Int}(hi:ix l i=some s):y8 l s=some i:=by
 unfold y8
 obtain⟨k,h1,_,h3⟩:=ac8 (t:=s) ho hl
 rw[h1,h3 i hi];rfl
theorem contains1_eq{l:Li}{s:Int}:D8 l s=some (dec (s ∈ l)):=by
 unfold D8 K4
 rcases y7 (body:=G9 l s) (n:=(l.length:Int)) (fun j=>if dec (ix l j=some s)=true then some j else none) (by omega) (fun j h0 h1 _=>by
  obtain⟨x,hx,_⟩:=i6 (l:=l) h0 h1
  unfold G9
  rw[hx]
  simp only[oB]
  by_cases e:s=x
  ·rw[if_pos e,ifP (by rw[e])]
  ·rw[if_neg e,ifN (by simpa using fun h=>e h.symm)]) with⟨h1,h2⟩|⟨j,o,h0,h1,h2,h3,h4⟩
 ·rw[h1]
  simp only[oB]
  rw[m9]
  ·rfl
  ·intro hs
   obtain⟨i,i0,i1,hi⟩:=m7 hs
   have:=h2 i i0 i1
   rw[ifP hi] at this
   cases this
 ·rw[h4]
  split at h2
  ·rename_i e
   cases h2
   simp only[oB]
   rw[j7 (i7 (k8.1 e)),decide_eq_true h0]
  ·cases h2
end Ab
end
section
namespace Ab
open Go
theorem set01:SetN [0] 1:=setN1 0 (by decide) (by decide)
theorem one_rng{S O:Type}{body:Int→S→Option (S⊕O)}{s:S}{x:S⊕O}(h:body 0 s=some x):rngX 0 1 body s=some x:=by
 unfold rngX
 rw[show((1:Int) - 0).toNat=1 from rfl]
 simp only[rngN,h]
 cases x<;>rfl
theorem choices_self(p:List d8):W7 p p=some true:=by
 unfold W7
 rw[if_pos rfl,rngX_all (by omega) fun j j0 j1=>by
  obtain⟨c,hc,_⟩:=i6 (l:=p) j0 j1
  unfold ae5
  rw[hc]
  simp only[oB,decide_true,Bool.not_true,Bool.false_eq_true,if_false,ints_eq,j7]]
 rfl
end Ab
end
section
namespace Ab
open Go
end Ab
end
section
namespace Ab
open Go
end Ab
end
section
namespace Ab
open Go
noncomputable def nxC(t:b7)(ch:Li→Int)(s:Li):LL:=(ooAt t (ch s)).outcomes.map (efc t.facts s)
inductive RchC(t:b7)(ch:Li→Int):Li→Prop
 |init:RchC t ch t.init
 |step {s y:Li} (h:RchC t ch s) (hg:¬ g8 t s) (hy:y ∈ nxC t ch s):RchC t ch y
def ChOk(t:b7)(ch:Li→Int):Prop:=∀s,RchC t ch s→¬ g8 t s→(0≤ch s∧ch s<t.operators.length)∧oCan t s (ch s)
section
variable {t:b7}{ch:Li→Int}
theorem RchC.set(ht:g9 t){s:Li}(h:RchC t ch s):SetN s t.facts:=by
 cases h with
 |init=>exact ht.init
 |step _ _ hy=>obtain⟨x,_,rfl⟩:=List.mem_map.1 hy;exact ac2 _ _ _
structure PolB(t:b7)(ch:Li→Int)(p:List d8):Prop where
 ord:Ord (p.map d8.state)
 mem:∀s,(∃c ∈ p,c.state=s)↔RchC t ch s∧¬ g8 t s
 op:∀c ∈ p,c.operator=ch c.state
theorem polB_eq{p:List d8}(h:∀c ∈ p,c.operator=ch c.state):p=(p.map d8.state).map fun s=>(⟨s,ch s⟩:d8):=by
 rw[List.map_map]
 have:p.map id=p.map ((fun s=>(⟨s,ch s⟩:d8)) ∘ d8.state):=List.map_congr_left fun c hc=>by
  have:=h c hc
  cases c with
  |mk s o=>dsimp only at this;simp only[id,Function.comp,this]
 rwa [List.map_id] at this
theorem PolB.unique{p q:List d8}(h:PolB t ch p)(g:PolB t ch q):p=q:=by
 have e:p.map d8.state=q.map d8.state:=by
  refine Ord.ext h.ord g.ord fun s=> ?_
  have a:=h.mem s;have b:=g.mem s
  simp only[List.mem_map]
  exact⟨fun⟨c,h1,h2⟩=>b.2 (a.1 ⟨c,h1,h2⟩),fun⟨c,h1,h2⟩=>a.2 (b.1 ⟨c,h1,h2⟩)⟩
 rw[polB_eq h.op,e,← polB_eq g.op]
theorem PolB.rch{p:List d8}(h:PolB t ch p){c:d8}(hc:c ∈ p):RchC t ch c.state∧¬ g8 t c.state:=(h.mem _).1 ⟨c,hc,rfl⟩
theorem PolB.pol(ht:g9 t)(hk:ChOk t ch){p:List d8}(h:PolB t ch p)(hl:p.length≤200):G3 t p:=
 ⟨hl,h.ord,fun c hc=>(h.rch hc).1.set ht,fun c hc=>by rw[h.op c hc];exact(hk _ (h.rch hc).1 (h.rch hc).2).1,fun c hc=>by rw[h.op c hc];exact(hk _ (h.rch hc).1 (h.rch hc).2).2⟩
theorem chO_ch{p:List d8}(hop:∀c ∈ p,c.operator=ch c.state)(s:Li):(chO p s= -1∧∀c ∈ p,c.state ≠ s)∨((∃c ∈ p,c.state=s)∧chO p s=ch s):=by
 obtain⟨r,h1,h2⟩:=as0 p s
 have:chO p s=r:=by rw[chO,h1];rfl
 rw[this]
 rcases h2 with⟨rfl,h⟩|⟨c,hc,rfl,rfl⟩
 ·exact .inl ⟨rfl,h⟩
 ·exact .inr ⟨⟨c,hc,rfl⟩,hop c hc⟩
theorem PolB.live{p:List d8}(h:PolB t ch p){s:Li}(hs:RchC t ch s)(hg:¬ g8 t s):chO p s=ch s:=by
 rcases chO_ch h.op s with⟨_,e⟩|⟨_,e⟩
 ·obtain⟨c,hc,he⟩:=(h.mem s).2 ⟨hs,hg⟩
  exact absurd he (e c hc)
 ·exact e
/-! ### One choice put in its place -/
theorem mem_takeN{α:Type}{l:List α}{n:Nat}{a:α}(h:a ∈ l.take n):∃k:Int,0≤k∧k<n∧ix l k=some a:=by
 obtain⟨k,hk⟩:=List.getElem?_of_mem h
 rw[List.getElem?_take] at hk
 split at hk
 ·exact⟨k,by omega,by omega,by rw[o7];exact hk⟩
 ·cases hk
theorem mem_dropN{α:Type}{l:List α}{n:Nat}{a:α}(h:a ∈ l.drop n):∃k:Int,(n:Int)≤k∧ix l k=some a:=by
 obtain⟨k,hk⟩:=List.getElem?_of_mem h
 rw[List.getElem?_drop] at hk
 exact⟨(n+k:Nat),by omega,by rw[o7];exact hk⟩
theorem ins_ord{p:List d8}{c:d8}{i:Int}(ho:Ord (p.map d8.state))(h0:0≤i)(hlt:∀k a,0≤k→k<i→ix p k=some a→llt a.state c.state)(hge:∀k a,i≤k→ix p k=some a→¬ llt a.state c.state)(hns:∀a ∈ p,a.state ≠ c.state):
  Ord ((p.take i.toNat++c::p.drop i.toNat).map d8.state):=by
 have a1:∀a ∈ p.take i.toNat,llt a.state c.state:=fun a ha=>by
  obtain⟨k,k0,k1,hk⟩:=mem_takeN ha
  exact hlt k a k0 (by omega) hk
 have a2:∀a ∈ p.drop i.toNat,llt c.state a.state:=fun a ha=>by
  obtain⟨k,k1,hk⟩:=mem_dropN ha
  rcases T5 a.state c.state with h|h|h
  ·exact absurd h (hge k a (by omega) hk)
  ·exact absurd h (hns a (i7 hk))
  ·exact h
 have s1:Ord ((p.take i.toNat).map d8.state):=by rw[List.map_take];exact List.Pairwise.sublist (List.take_sublist _ _) ho
 have s2:Ord ((p.drop i.toNat).map d8.state):=by rw[List.map_drop];exact List.Pairwise.sublist (List.drop_sublist _ _) ho
 rw[List.map_append,List.map_cons]
 refine List.pairwise_append.2 ⟨s1,List.pairwise_cons.2 ⟨fun x hx=> ?_,s2⟩,fun x hx y hy=> ?_⟩
 ·obtain⟨a,ha,rfl⟩:=List.mem_map.1 hx
  exact a2 a ha
 ·obtain⟨a,ha,rfl⟩:=List.mem_map.1 hx
  rcases List.mem_cons.1 hy with rfl|hy
  ·exact a1 a ha
  ·obtain⟨b,hb,rfl⟩:=List.mem_map.1 hy
   exact G7 (a1 a ha) (a2 b hb)
theorem ins_mem{α:Type}{p:List α}{c x:α}{n:Nat}:x ∈ p.take n++c::p.drop n↔x=c∨x ∈ p:=by
 have:x ∈ p↔x ∈ p.take n∨x ∈ p.drop n:=by
  rw[← List.mem_append,List.take_append_drop]
 rw[this]
 simp only[List.mem_append,List.mem_cons]
 constructor
 ·rintro (h|h|h)
  ·exact .inr (.inl h)
  ·exact .inl h
  ·exact .inr (.inr h)
 ·rintro (h|h|h)
  ·exact .inr (.inl h)
  ·exact .inl h
  ·exact .inr (.inr h)
theorem ins_len{α:Type}{p:List α}{c:α}{n:Nat}(h:n≤p.length):(p.take n++c::p.drop n).length=p.length+1:=by simp;omega
structure PolP(t:b7)(ch:Li→Int)(p:List d8):Prop where
 pol:G3 t p
 of:∀c ∈ p,(RchC t ch c.state∧¬ g8 t c.state)∧c.operator=ch c.state
theorem PolP.op{p:List d8}(h:PolP t ch p):∀c ∈ p,c.operator=ch c.state:=fun c hc=>(h.of c hc).2
theorem PolP.ins(ht:g9 t)(hk:ChOk t ch){p:List d8}(h:PolP t ch p){s:Li}(hs:RchC t ch s)(hg:¬ g8 t s){i:Int}(h0:0≤i)(h1:i≤p.length)(hlt:∀k a,0≤k→k<i→ix p k=some a→llt a.state s)(hge:∀k a,i≤k→ix p k=some a→¬ llt a.state s)(hns:∀a ∈ p,a.state ≠ s)(hl:p.length<200):
  PolP t ch (p.take i.toNat++⟨s,ch s⟩::p.drop i.toNat):=by
 have key:∀{q:d8→Prop},q ⟨s,ch s⟩→(∀c ∈ p,q c)→∀c ∈ p.take i.toNat++⟨s,ch s⟩::p.drop i.toNat,q c:=fun h1 h2 c hc=>by
  rcases ins_mem.1 hc with rfl|hc
  ·exact h1
  ·exact h2 c hc
 exact⟨⟨by rw[ins_len (by omega)];omega,ins_ord h.pol.ord h0 hlt hge hns,key (hs.set ht) h.pol.set,key (hk s hs hg).1 h.pol.op,key (hk s hs hg).2 h.pol.can⟩,key ⟨⟨hs,hg⟩,rfl⟩ h.of⟩
theorem states_nodup{p:List d8}(h:Ord (p.map d8.state)){s:Li}(hns:∀a ∈ p,a.state ≠ s):(s::p.map d8.state).Nodup:=
 List.nodup_cons.2 ⟨fun hm=>by obtain⟨a,ha,e⟩:=List.mem_map.1 hm;exact hns a ha e,h.nodup⟩
structure BI(t:b7)(ch:Li→Int)(q:LL)(p:List d8)(a:Int):Prop where
 a0:0≤a
 a1:a≤q.length
 pp:PolP t ch p
 qr:∀s ∈ q,RchC t ch s
 qi:t.init ∈ q
 px:∀c ∈ p,∀y ∈ nxC t ch c.state,y ∈ q
 dn:∀k s,k<a→ix q k=some s→g8 t s∨∃c ∈ p,c.state=s
 ql:q.length≤1+4 * p.length
theorem build_prog(ht:g9 t)(hk:ChOk t ch){choose:Li→Option Int}(hch:∀s,RchC t ch s→¬ g8 t s→choose s=some (ch s)):
  ∃r,S4 t choose=some r∧((r=([],false)∧∃l:LL,l.Nodup∧(∀s ∈ l,RchC t ch s∧¬ g8 t s)∧l.length=201)∨∃p,r=(p,true)∧PolB t ch p∧p.length≤200):=by
 have hn:=ht.n1
 obtain⟨o,o1,o2⟩:=F1 (body:=W2 t choose) (fun x=>BI t ch x.1 x.2.1 x.2.2) (fun o=>(o=.inr ([],false)∧∃l:LL,l.Nodup∧(∀s ∈ l,RchC t ch s∧¬ g8 t s)∧l.length=201)∨∃p,o=.inl p∧PolB t ch p∧p.length≤200) (fun x=>(1000 - x.2.2).toNat)
  (s:=([t.init],[],0)) ⟨by dsimp only;omega,by simp,⟨⟨by simp,.nil,by simp,by simp,by simp⟩,by simp⟩,fun s hs=>by rw[List.mem_singleton.1 hs];exact .init,by simp,by simp,fun k s hk hs=>by have:=(m6 hs).1;dsimp only at hk;omega,by simp⟩ (fun⟨q,p,a⟩ h=>by
   have a0:0≤a:=h.a0
   have a1:a≤q.length:=h.a1
   have ql:q.length≤1+4 * p.length:=h.ql
   have pp:PolP t ch p:=h.pp
   have qr:∀s ∈ q,RchC t ch s:=h.qr
   have qi:t.init ∈ q:=h.qi
   have px:∀c ∈ p,∀y ∈ nxC t ch c.state,y ∈ q:=h.px
   have dn:∀k s,k<a→ix q k=some s→g8 t s∨∃c ∈ p,c.state=s:=h.dn
   have pl:p.length≤200:=pp.pol.len
   clear h
   dsimp only
   unfold W2
   dsimp only
   by_cases c:a<q.length
   ·rw[if_pos c]
    obtain⟨s,hs,_⟩:=i6 (l:=q) a0 c
    have hr:=qr s (i7 hs)
    have hset:=hr.set ht
    have hsl:=hset.len
    rw[hs]
    simp only[oB,G0 hset.1 ht.goal.1 (show s.length≤1000000 by omega),(Y2 pp.pol s).1]
    have key:(if dec (∀x ∈ t.goal,x ∈ s)=true then some true else some (decide (0≤chO p s)))=some (dec (g8 t s∨0≤chO p s)):=by
     by_cases hg:g8 t s
     ·rw[ifP (p:=∀x ∈ t.goal,x ∈ s) hg,j7 (.inl hg)]
     ·rw[ifN (p:=∀x ∈ t.goal,x ∈ s) hg,F0]
      congr 1
      exact v7 ⟨.inr,fun h=>h.resolve_left hg⟩
    rw[key]
    simp only[oB]
    have hw:w64 (a+1)=a+1:=l9 (by omega) (by omega)
    by_cases cg:g8 t s∨0≤chO p s
    ·rw[ifP cg]
     unfold J6
     dsimp only
     refine .inl ⟨(q,p,a+1),by rw[hw],⟨by dsimp only;omega,by dsimp only;omega,pp,qr,qi,px,fun(k:Int) z hk2 hz=> ?_,ql⟩,by dsimp only;omega⟩
     dsimp only at hk2 hz
     by_cases e:k=a
     ·subst e
      rw[hs] at hz;cases hz
      refine cg.imp id fun hc=> ?_
      rcases chO_ch pp.op s with⟨e,_⟩|⟨e,_⟩
      ·omega
      ·exact e
     ·exact dn k z (by omega) hz
    ·rw[ifN cg]
     have hg:¬ g8 t s:=fun g=>cg (.inl g)
     have hns:∀c ∈ p,c.state ≠ s:=by
      rcases chO_ch pp.op s with⟨_,e⟩|⟨_,e⟩
      ·exact e
      ·exact absurd (.inr (by rw[e];exact(hk s hr hg).1.1)) cg
     by_cases cl:(p.length:Int)=200
     ·rw[if_pos cl]
      refine .inr ⟨_,rfl,.inl ⟨rfl,s::p.map d8.state,states_nodup pp.pol.ord hns,fun z hz=> ?_,by simp;omega⟩⟩
      rcases List.mem_cons.1 hz with rfl|hz
      ·exact⟨hr,hg⟩
      ·obtain⟨c,hc,rfl⟩:=List.mem_map.1 hz
       exact(pp.of c hc).1
     ·rw[if_neg cl,hch s hr hg]
      simp only[oB]
      have ho:=hk s hr hg
      obtain⟨i,i1,i0,_,i2,i3,i4⟩:=bsf_full (key:=d8.state) (xs:=p) (t:=s) (cmp:=H5) pp.pol.ord (by omega) (fun a=>by unfold H5;rw[ae9];rfl)
      have hb:j6 p s H5=some (i,dec (∃a ∈ p,a.state=s)):=i1
      rw[hb]
      simp only[oB,ag0 (show s.length≤1000000 by omega)]
      rw[insL,if_pos ⟨i0,i2,by omega⟩]
      obtain⟨st,w,r1,_,r3,r4,_⟩:=D4 ht ho.1.1 ho.1.2 hset
      simp only[oB,r1]
      rw[app,if_pos (by omega)]
      simp only[oB]
      unfold J6
      dsimp only
      have hst:∀y,y ∈ st↔y ∈ nxC t ch s:=fun y=>by rw[r3,nxC,List.mem_map]
      have pp':=pp.ins ht hk hr hg i0 i2 i3 i4 hns (by omega)
      refine .inl ⟨(q++st,p.take i.toNat++⟨s,ch s⟩::p.drop i.toNat,a+1),by rw[hw],⟨by dsimp only;omega,by simp;omega,pp',fun z hz=> ?_,List.mem_append_left _ qi,fun c hc y hy=> ?_,fun k z hk2 hz=> ?_,?_⟩,by dsimp only;omega⟩
      ·rcases List.mem_append.1 hz with hz|hz
       ·exact qr z hz
       ·exact .step hr hg ((hst z).1 hz)
      ·rcases ins_mem.1 hc with rfl|hc
       ·exact List.mem_append_right _ ((hst y).2 hy)
       ·exact List.mem_append_left _ (px c hc y hy)
      ·dsimp only at hk2 hz
       obtain⟨z',hz',_⟩:=i6 (l:=q) (i:=k) (m6 hz).1 (by omega)
       have e:z'=z:=by
        obtain⟨k0,_,g1⟩:=m6 hz
        obtain⟨_,k1,g2⟩:=m6 hz'
        rw[List.getElem?_append_left (by omega),g2] at g1
        exact Option.some.inj g1
       subst e
       by_cases e:k=a
       ·subst e
        rw[hs] at hz';cases hz'
        exact .inr ⟨⟨s,ch s⟩,ins_mem.2 (.inl rfl),rfl⟩
       ·refine(dn k _ (by omega) hz').imp id fun⟨c,hc,e⟩=>⟨c,ins_mem.2 (.inr hc),e⟩
      ·dsimp only
       rw[List.length_append,ins_len (by omega)]
       omega
   ·rw[if_neg c]
    have all:∀s,RchC t ch s→s ∈ q:=fun s hs=>by
     induction hs with
     |init=>exact qi
     |@step s y _ hg hy ih=>
      obtain⟨k,k0,k1,hk1⟩:=m7 ih
      rcases dn k s (by omega) hk1 with g|⟨c,hc,rfl⟩
      ·exact absurd g hg
      ·exact px c hc y hy
    refine .inr ⟨_,rfl,.inr ⟨p,rfl,⟨pp.pol.ord,fun s=>⟨fun⟨c,hc,e⟩=>e ▸ (pp.of c hc).1,fun⟨hs,hg⟩=> ?_⟩,pp.op⟩,pl⟩⟩
    obtain⟨k,k0,k1,hk1⟩:=m7 (all s hs)
    exact(dn k s (by omega) hk1).resolve_left hg)
 unfold S4
 rw[o1]
 rcases o2 with⟨rfl,h⟩|⟨p,rfl,h⟩
 ·exact⟨_,rfl,.inl ⟨rfl,h⟩⟩
 ·exact⟨_,rfl,.inr ⟨p,rfl,h⟩⟩
end
end Ab
end
section
namespace Ab
open Go
theorem smN_upd{f g:Nat→Int}{n i:Nat}(hi:i<n)(h:∀k,k<n→k ≠ i→g k=f k):smN n g=smN n f+(g i - f i):=by
 have:smN n g=smN n fun k=>f k+if k=i then g i - f i else 0:=l8 fun k hk=>by
  by_cases e:k=i
  ·subst e;rw[if_pos rfl];omega
  ·rw[if_neg e,h k hk e];omega
 rw[this,J5,P0 (f:=fun k=>if k=i then g i - f i else 0) hi fun k _ hk=>if_neg hk,if_pos rfl]
def wtj(w:Li)(j:Nat):Int:=(w[j]?).getD 0
theorem af8{w:Li}{i:Nat}(h:i<w.length):ix w (i:Int)=some (wtj w i):=by
 rw[o7,List.getElem?_eq_getElem h];unfold wtj;rw[List.getElem?_eq_getElem h];rfl
theorem wtj_set{w:Li}{i:Nat}(h:i<w.length)(v:Int)(k:Nat):wtj (w.set i v) k=if k=i then v else wtj w k:=by
 unfold wtj
 rw[List.getElem?_set]
 by_cases e:k=i
 ·subst e;rw[if_pos rfl,if_pos h,if_pos rfl];rfl
 ·rw[if_neg (fun q=>e q.symm),if_neg e]
structure Wok(t:b7)(s:Li)(op:Int)(st:LL)(w:Li):Prop where
 eq:o8 t s op=some (st,w)
 ord:Ord st
 mem:∀y,y ∈ st↔∃x ∈ (ooAt t op).outcomes,efc t.facts s x=y
 s4:st.length≤4
 len:w.length=st.length
 pos:∀k,k<st.length→1≤wtj w k
 sum:smN st.length (wtj w)≤24
theorem results_ok{t:b7}(ht:g9 t){op:Int}(h0:0≤op)(h1:op<t.operators.length){s:Li}(hs:SetN s t.facts):∃st w,Wok t s op st w:=by
 have ho:=ht.at h0 h1
 have hl:=ho.l1
 obtain⟨st,w,r1,r2,r3,r4,r5,r6⟩:=D4 ht h0 h1 hs
 obtain⟨w',k1,k2,k3,k4,k5⟩:=s8 (body:=w8 ((ooAt t op).outcomes.map (efc t.facts s)) st (ooAt t op)) (n:=((ooAt t op).outcomes.length:Int)) (s:=List.replicate st.length 0)
  (fun j c=>c.length=st.length∧(∀k,0≤wtj c k)∧smN st.length (wtj c)≤6 * j∧∀(i:Int) x,0≤i→i<j→ix (ooAt t op).outcomes i=some x→∀k:Nat,st[k]? =some (efc t.facts s x)→1≤wtj c k) (by omega)
  ⟨by simp,fun k=>by unfold wtj;rw[List.getElem?_replicate];split<;>simp,by
   rw[ag7 fun k _=>by unfold wtj;rw[List.getElem?_replicate];split<;>rfl];omega,fun i x i0 hi=>by omega⟩ (fun j c j0 j1 ⟨p1,p2,p3,p4⟩=>by
   obtain⟨x,hx,gx⟩:=i6 (l:=(ooAt t op).outcomes) j0 j1
   have hmem:efc t.facts s x ∈ st:=(r3 _).2 ⟨x,i7 hx,rfl⟩
   obtain⟨i,e1,e2,e3⟩:=ac8 (t:=efc t.facts s x) r2 (by omega)
   obtain⟨k,k0,k1,hk⟩:=m7 hmem
   have:=e3 k hk
   subst this
   obtain⟨m,rfl⟩:=Int.eq_ofNat_of_zero_le k0
   have hm:m<st.length:=by omega
   have hz:=af8 (w:=c) (i:=m) (by omega)
   have hw:=(ho.xs x (i7 hx)).2
   unfold xWt at hw
   have hle:wtj c m≤smN st.length (wtj c):=by
    have:=X0 (f:=wtj c) p2 (Nat.zero_le m) hm
    simpa[smN] using this
   have hs6:w64 (wtj c m+x.weight)=wtj c m+x.weight:=l9 (by have:=p2 m;omega) (by omega)
   unfold w8
   rw[hx,ix_map,hx]
   simp only[oB,Option.map_some,e1,hz,hs6,Int.toNat_natCast]
   have hset:=wtj_set (w:=c) (i:=m) (by omega) (wtj c m+x.weight)
   refine⟨_,rfl,by rw[lS];exact p1,fun k=> ?_,?_,fun i' x' i0 hi' hx' k hk'=> ?_⟩
   ·rw[hset];have:=p2 k;have:=p2 m;split<;>omega
   ·rw[smN_upd hm (f:=wtj c) (fun k _ hk=>by rw[hset,if_neg hk]),hset,if_pos rfl];omega
   ·rw[hset]
    by_cases e:k=m
    ·subst e;rw[if_pos rfl];have:=p2 k;omega
    ·rw[if_neg e]
     by_cases f:i'=j
     ·subst f;rw[hx] at hx';cases hx'
      have h5:ix st (k:Int)=some (efc t.facts s x):=by rw[o7];exact hk'
      have:=e3 _ h5
      omega
     ·exact p4 i' x' i0 (by omega) hx' k hk')
 rw[r6] at k1
 cases k1
 refine⟨st,w,r1,r2,r3,r4,r5,fun k hk=> ?_,by omega⟩
 obtain⟨x,hx,e⟩:=(r3 st[k]).1 (List.getElem_mem hk)
 obtain⟨i,i0,i1,hi⟩:=m7 hx
 exact k5 i x i0 i1 hi k (by rw[List.getElem?_eq_getElem hk,e])
end Ab
end
section
namespace Ab
open Go
def twF(st:LL)(w:Li)(J:Nat)(y:Li):Int:=smN J fun j=>if st[j]? =some y then wtj w j else 0
structure Sys(t:b7)(S:LL)(op:Nat→Int)(st:Nat→LL)(w:Nat→Li):Prop where
 ord:Ord S
 n5:S.length≤5
 set:∀s ∈ S,SetN s t.facts
 ng:∀s ∈ S,¬ g8 t s
 rng:∀i,i<S.length→0≤op i∧op i<t.operators.length
 res:∀i s,S[i]? =some s→Wok t s (op i) (st i) (w i)
 cl:∀i,i<S.length→∀y ∈ st i,g8 t y∨y ∈ S
section
variable {t:b7}{S:LL}{op:Nat→Int}{st:Nat→LL}{w:Nat→Li}
def WF(st:Nat→LL)(w:Nat→Li)(i:Nat):Int:=smN (st i).length (wtj (w i))
def wF(S:LL)(st:Nat→LL)(w:Nat→Li):Mtx:=fun i k=>match S[k]? with|some y=>twF (st i) (w i) (st i).length y|none=>0
def cF(t:b7)(op:Nat→Int)(i:Nat):Int:=(ooAt t (op i)).cost
theorem ae8(h:Sys t S op st w){i:Nat}(hi:i<S.length)(j:Nat):0≤wtj (w i) j:=by
 have hr:=h.res i S[i] (List.getElem?_eq_getElem hi)
 by_cases e:j<(st i).length
 ·have:=hr.pos j e;omega
 ·unfold wtj;rw[List.getElem?_eq_none (by rw[hr.len];omega)];simp
theorem twF_nn(h:Sys t S op st w){i:Nat}(hi:i<S.length)(J:Nat)(y:Li):0≤twF (st i) (w i) J y:=U3 fun j _=>by
 split
 ·exact ae8 h hi j
 ·exact Int.le_refl _
theorem twF_le(h:Sys t S op st w){i:Nat}(hi:i<S.length){J:Nat}(hJ:J≤(st i).length)(y:Li):twF (st i) (w i) J y≤24:=by
 have h1:twF (st i) (w i) J y≤smN J (wtj (w i)):=T3 fun j _=>by
  split
  ·exact Int.le_refl _
  ·exact ae8 h hi j
 have h2:=Q8 (f:=wtj (w i)) (ae8 h hi) hJ
 have h3:=(h.res i S[i] (List.getElem?_eq_getElem hi)).sum
 omega
def rowV(S:LL)(st:LL)(w:Li)(c:Int)(i J k:Nat):Int:=
 if k=S.length then smN J (wtj w) * c else(if k=i then smN J (wtj w) else 0) - match S[k]? with|some y=>twF st w J y|none=>0
theorem eq_row(ht:g9 t)(h:Sys t S op st w){i:Nat}(hi:i<S.length):
  ∃c:Li,forR 0 ((st i).length:Int) (N5 t S i (op i) (st i,w i)) (List.replicate (S.length+1) 0)=some c∧c.length=S.length+1∧∀k,k≤S.length→wtj c k=rowV S (st i) (w i) (cF t op i) i (st i).length k:=by
 have hr:=h.res i S[i] (List.getElem?_eq_getElem hi)
 have hop:=h.rng i hi
 have hco:=(ht.at hop.1 hop.2)
 have hc0:=hco.c0;have hc1:=hco.c1
 have hn5:=h.n5
 have hs4:=hr.s4
 have hsum:=hr.sum
 obtain⟨c,k1,k2,k3⟩:=s8 (body:=N5 t S i (op i) (st i,w i)) (n:=((st i).length:Int)) (s:=List.replicate (S.length+1) 0)
  (fun q c=>c.length=S.length+1∧∀k,k≤S.length→wtj c k=rowV S (st i) (w i) (cF t op i) i q.toNat k) (by omega)
  ⟨by simp,fun k hk=>by
   unfold rowV wtj
   rw[List.getElem?_replicate]
   simp only[Int.toNat_zero,smN,twF,Int.zero_mul,ite_self]
   split<;>split<;>(try split)<;>simp⟩ (fun q c q0 q1 ⟨p1,p2⟩=>by
   obtain⟨J,rfl⟩:=Int.eq_ofNat_of_zero_le q0
   have hJ:J<(st i).length:=by omega
   rw[Int.toNat_natCast] at p2
   have hx:ix (st i) (J:Int)=some (st i)[J]:=by rw[o7];exact List.getElem?_eq_getElem hJ
   have hw:=af8 (w:=w i) (i:=J) (by rw[hr.len];exact hJ)
   have hw1:=hr.pos J hJ
   have ci:=af8 (w:=c) (i:=i) (by omega)
   have e1:smN (J+1) (wtj (w i))=smN J (wtj (w i))+wtj (w i) J:=rfl
   have b0:0≤smN J (wtj (w i)):=U3 fun j _=>ae8 h hi j
   have b1:=Q8 (f:=wtj (w i)) (ae8 h hi) (show J+1≤(st i).length by omega)
   have sc:∀x:Int,0≤x→x≤24→0≤x * (ooAt t (op i)).cost∧x * (ooAt t (op i)).cost≤2400:=fun x h0 h1=>⟨Int.mul_nonneg h0 hc0,by
    have:=Int.mul_le_mul h1 hc1 hc0 (by omega:(0:Int)≤24)
    omega⟩
   have vi:=p2 i (by omega)
   unfold rowV at vi
   rw[if_neg (by omega),if_pos rfl,List.getElem?_eq_getElem hi] at vi
   dsimp only at vi
   have t1:=twF_nn h hi J S[i]
   have t2:=twF_le h hi (J:=J) (by omega) S[i]
   have f1:w64 (wtj c i+wtj (w i) J)=wtj c i+wtj (w i) J:=l9 (by omega) (by omega)
   have s1:=wtj_set (w:=c) (i:=i) (by omega) (wtj c i+wtj (w i) J)
   have cn:=af8 (w:=c.set i (wtj c i+wtj (w i) J)) (i:=S.length) (by rw[lS];omega)
   rw[s1,if_neg (by omega)] at cn
   have vn:=p2 S.length (Nat.le_refl _)
   unfold rowV at vn
   rw[if_pos rfl] at vn
   have m1:=sc (wtj (w i) J) (by omega) (by omega)
   have m2:=sc (smN J (wtj (w i))) b0 (by omega)
   have vn':wtj c S.length=smN J (wtj (w i)) * (ooAt t (op i)).cost:=vn
   have f2:w64 (wtj (w i) J * (ooAt t (op i)).cost)=wtj (w i) J * (ooAt t (op i)).cost:=l9 (by omega) (by omega)
   have f3:w64 (wtj c S.length+wtj (w i) J * (ooAt t (op i)).cost)=wtj c S.length+wtj (w i) J * (ooAt t (op i)).cost:=l9 (by omega) (by omega)
   generalize hc1':c.set i (wtj c i+wtj (w i) J)=c1 at *
   have l1:c1.length=S.length+1:=by rw[← hc1',lS];exact p1
   have s2:=wtj_set (w:=c1) (i:=S.length) (by omega) (wtj c S.length+wtj (w i) J * (ooAt t (op i)).cost)
   generalize hc2':c1.set S.length (wtj c S.length+wtj (w i) J * (ooAt t (op i)).cost)=c2 at *
   have l2:c2.length=S.length+1:=by rw[← hc2',lS];exact l1
   have hset:SetN (st i)[J] t.facts:=by
    obtain⟨x,_,e⟩:=(hr.mem (st i)[J]).1 (List.getElem_mem hJ)
    rw[← e];exact ac2 _ _ _
   have hcon:k9 (st i)[J] t.goal=some (dec (g8 t (st i)[J])):=G0 hset.1 ht.goal.1 (by have:=hset.len;have:=ht.n1;omega)
   have tw1:∀y,twF (st i) (w i) (J+1) y=twF (st i) (w i) J y+if(st i)[J]? =some y then wtj (w i) J else 0:=fun y=>rfl
   have hgJ:(st i)[J]? =some (st i)[J]:=List.getElem?_eq_getElem hJ
   unfold N5
   simp only[hx,hw,ci,oB,f1,ix_oo hop.1 hop.2,f2,f3,Int.toNat_natCast,hc1',cn,hcon,hc2']
   by_cases hg:g8 t (st i)[J]
   ·rw[j7 hg]
    simp only[Bool.not_true,Bool.false_eq_true,if_false,oB]
    refine⟨_,rfl,l2,fun k hk=> ?_⟩
    rw[show((J:Int)+1).toNat=J+1 by omega,s2]
    unfold rowV
    by_cases e:k=S.length
    ·subst e
     rw[if_pos rfl,if_pos rfl,e1,vn',Int.add_mul];rfl
    ·rw[if_neg e,if_neg e,s1]
     have hk':k<S.length:=by omega
     rw[List.getElem?_eq_getElem hk']
     dsimp only
     have hne:¬ (st i)[J]? =some S[k]:=fun q=>by
      rw[hgJ] at q
      have:=Option.some.inj q
      exact h.ng S[k] (List.getElem_mem hk') (this ▸ hg)
     rw[tw1,if_neg hne]
     have vk:=p2 k hk
     unfold rowV at vk
     rw[if_neg e,List.getElem?_eq_getElem hk'] at vk
     dsimp only at vk
     by_cases f:k=i
     ·subst f;rw[if_pos rfl,if_pos rfl,e1];omega
     ·rw[if_neg f,if_neg f];rw[if_neg f] at vk;omega
   ·rw[m9 hg]
    have hm:(st i)[J] ∈ S:=(h.cl i hi _ (List.getElem_mem hJ)).resolve_left hg
    obtain⟨p,p0,p3,hp⟩:=m7 hm
    obtain⟨m,rfl⟩:=Int.eq_ofNat_of_zero_le p0
    have hmS:m<S.length:=by omega
    have hSm:S[m]=(st i)[J]:=by
     rw[o7,List.getElem?_eq_getElem hmS] at hp
     exact Option.some.inj hp
    have cm:=af8 (w:=c2) (i:=m) (by omega)
    have vm:=p2 m (by omega)
    unfold rowV at vm
    rw[if_neg (by omega),List.getElem?_eq_getElem hmS] at vm
    dsimp only at vm
    have t3:=twF_nn h hi J S[m]
    have t4:=twF_le h hi (J:=J) (by omega) S[m]
    have v2:wtj c2 m=(if m=i then wtj c i+wtj (w i) J else wtj c m):=by rw[s2,if_neg (by omega),s1]
    have f4:w64 (wtj c2 m - wtj (w i) J)=wtj c2 m - wtj (w i) J:=by
     rw[v2]
     split
     ·exact l9 (by omega) (by omega)
     ·rename_i q;rw[if_neg q] at vm;exact l9 (by omega) (by omega)
    simp only[Bool.not_false,if_true,O6 h.ord (by omega) hp,cm,oB,f4,Int.toNat_natCast]
    have s3:=wtj_set (w:=c2) (i:=m) (by omega) (wtj c2 m - wtj (w i) J)
    refine⟨_,rfl,by rw[lS];exact l2,fun k hk=> ?_⟩
    rw[show((J:Int)+1).toNat=J+1 by omega,s3]
    unfold rowV
    by_cases e:k=S.length
    ·subst e
     rw[if_neg (by omega),if_pos rfl,s2,if_pos rfl,e1,vn',Int.add_mul];rfl
    ·have hk':k<S.length:=by omega
     rw[if_neg e,List.getElem?_eq_getElem hk']
     dsimp only
     rw[tw1,hgJ]
     have vk:=p2 k hk
     unfold rowV at vk
     rw[if_neg e,List.getElem?_eq_getElem hk'] at vk
     dsimp only at vk
     by_cases g:k=m
     ·subst g
      have hq:some (st i)[J]=some S[k]:=by rw[hSm]
      rw[if_pos rfl,if_pos hq,v2]
      by_cases f:k=i
      ·subst f;rw[if_pos rfl,if_pos rfl,e1];omega
      ·rw[if_neg f,if_neg f];rw[if_neg f] at vk;omega
     ·have hne:¬ some (st i)[J]=some S[k]:=fun q=>by
       have q1:=Option.some.inj q
       have hk2:ix S (k:Int)=some (st i)[J]:=by rw[o7,List.getElem?_eq_getElem hk',q1]
       have:=h.ord.inj hp hk2
       omega
      rw[if_neg g,if_neg hne,s2,if_neg e,s1]
      by_cases f:k=i
      ·subst f;rw[if_pos rfl,if_pos rfl,e1];omega
      ·rw[if_neg f,if_neg f];rw[if_neg f] at vk;omega)
 refine⟨c,k1,k2,fun k hk=> ?_⟩
 rw[k3 k hk,Int.toNat_natCast]
end
end Ab
end
section
namespace Ab
open Go
section
variable {t:b7}{S:LL}{op:Nat→Int}{st:Nat→LL}{w:Nat→Li}
def wG(S:LL)(st:Nat→LL)(w:Nat→Li):Mtx:=fun i k=>if i<S.length then wF S st w i k else 0
abbrev eqN(t:b7)(S:LL)(op:Nat→Int)(st:Nat→LL)(w:Nat→Li):Mtx:=eqM S.length (WF st w) (wG S st w) fun i=>WF st w i * cF t op i
theorem rowV_eq{i k:Nat}(hi:i<S.length)(hk:k≤S.length):rowV S (st i) (w i) (cF t op i) i (st i).length k=eqN t S op st w i k:=by
 unfold rowV eqN eqM
 by_cases e:k=S.length
 ·rw[if_pos e,if_pos e];rfl
 ·have hk':k<S.length:=by omega
  rw[if_neg e,if_neg e]
  unfold wG wF
  rw[if_pos hi,List.getElem?_eq_getElem hk']
  dsimp only
  by_cases f:k=i
  ·rw[if_pos f,if_pos f.symm];rfl
  ·rw[if_neg f,if_neg (fun q=>f q.symm)]
theorem eqs_ok(ht:g9 t)(h:Sys t S op st w){choose:Li→Option Int}(hch:∀i s,S[i]? =some s→choose s=some (op i)):
  ∃L,forR 0 (S.length:Int) (B6 t S choose) []=some L∧Shp S.length L∧∀i k,i<S.length→k≤S.length→mE L i k=eqN t S op st w i k:=by
 have hn5:=h.n5
 obtain⟨L,k1,k2,k3⟩:=s8 (body:=B6 t S choose) (n:=(S.length:Int)) (s:=[])
  (fun q c=>(c.length:Int)=q∧∀i:Nat,(i:Int)<q→∃row,c[i]? =some row∧row.length=S.length+1∧∀k,k≤S.length→wtj row k=eqN t S op st w i k) (by omega) ⟨rfl,fun i hi=>by omega⟩ (fun q c q0 q1 ⟨p1,p2⟩=>by
   obtain⟨i,rfl⟩:=Int.eq_ofNat_of_zero_le q0
   have hi:i<S.length:=by omega
   have hs:S[i]? =some S[i]:=List.getElem?_eq_getElem hi
   obtain⟨row,r1,r2,r3⟩:=eq_row ht h hi
   have hw:w64 ((S.length:Int)+1)=((S.length+1:Nat):Int):=by rw[l9 (by omega) (by omega)];omega
   have hmk:mkL 8 ((S.length+1:Nat):Int) (0:Int)=some (List.replicate (S.length+1) 0):=by
    unfold mkL;rw[if_pos (by omega),Int.toNat_natCast]
   have ha:app 24 c [row]=some (c++[row]):=by unfold app;rw[if_pos (by simp;omega)]
   unfold B6
   simp only[show ix S (i:Int)=some S[i] by rw[o7,hs],Option.bind_some,hw,hmk,hch i _ hs,(h.res i _ hs).eq,r1,ha]
   refine⟨_,rfl,by rw[List.length_append,List.length_singleton];omega,fun i' hi'=> ?_⟩
   by_cases e:i'=i
   ·subst e
    refine⟨row,?_,r2,fun k hk=>by rw[r3 k hk,rowV_eq hi hk]⟩
    have:i'=c.length:=by omega
    rw[this];simp
   ·obtain⟨r',a1,a2,a3⟩:=p2 i' (by omega)
    exact⟨r',by rw[List.getElem?_append_left (by omega),a1],a2,a3⟩)
 have hlen:L.length=S.length:=by omega
 refine⟨L,k1,⟨hlen,fun r hr=> ?_⟩,fun i k hi hk=> ?_⟩
 ·obtain⟨i,hi,rfl⟩:=List.getElem_of_mem hr
  obtain⟨row,a1,a2,_⟩:=k3 i (by omega)
  rw[List.getElem?_eq_getElem hi] at a1
  cases a1;exact a2
 ·obtain⟨row,a1,_,a3⟩:=k3 i (by omega)
  have:mE L i k=wtj row k:=by unfold mE wtj;rw[a1];rfl
  rw[this,a3 k hk]
theorem lead_sum(h:Sys t S op st w){i:Nat}(hi:i<S.length):smN S.length (wG S st w i)=smN (st i).length fun j=>if dec (∃y ∈ S,(st i)[j]? =some y)=true then wtj (w i) j else 0:=by
 have e1:smN S.length (wG S st w i)=smN S.length fun k=>smN (st i).length fun j=>if(st i)[j]? =S[k]? then wtj (w i) j else 0:=l8 fun k hk=>by
  unfold wG wF
  rw[if_pos hi,List.getElem?_eq_getElem hk]
  rfl
 rw[e1,smN_comm]
 refine l8 fun j hj=> ?_
 have hgj:(st i)[j]? =some (st i)[j]:=List.getElem?_eq_getElem hj
 by_cases e:∃y ∈ S,(st i)[j]? =some y
 ·rw[if_pos (j7 e)]
  obtain⟨y,hy,e⟩:=e
  obtain⟨k,hk,rfl⟩:=List.getElem_of_mem hy
  rw[P0 (a:=k) hk fun k' hk' hne=> ?_,if_pos (by rw[e,List.getElem?_eq_getElem hk])]
  rw[if_neg]
  intro q
  rw[e,List.getElem?_eq_getElem hk'] at q
  have q:=Option.some.inj q
  have a:ix S (k:Int)=some S[k]:=by rw[o7,List.getElem?_eq_getElem hk]
  have b:ix S (k':Int)=some S[k]:=by rw[o7,List.getElem?_eq_getElem hk',q]
  have:=h.ord.inj a b
  omega
 ·rw[if_neg (by rw[m9 e];simp)]
  refine ag7 fun k hk=> ?_
  rw[if_neg]
  intro q
  rw[List.getElem?_eq_getElem hk] at q
  exact e ⟨_,List.getElem_mem hk,q⟩
theorem sys_ms(ht:g9 t)(h:Sys t S op st w):Ms S.length (WF st w) (wG S st w):=by
 refine⟨fun i hi=> ?_,fun i k=> ?_,fun i hi=> ?_⟩
 ·have hr:=h.res i S[i] (List.getElem?_eq_getElem hi)
  have hop:=h.rng i hi
  have l0:=(ht.at hop.1 hop.2).l0
  have hm:efc t.facts S[i] ((ooAt t (op i)).outcomes[0]) ∈ st i:=(hr.mem _).2 ⟨_,List.getElem_mem (by omega),rfl⟩
  have hl:=List.length_pos_of_mem hm
  have h1:=hr.pos 0 hl
  have h2:=X0 (f:=wtj (w i)) (ae8 h hi) (Nat.zero_le 0) hl
  simp only[smN] at h2
  unfold WF;omega
 ·unfold wG
  split
  ·rename_i hi
   unfold wF
   split
   ·exact twF_nn h hi _ _
   ·exact Int.le_refl _
  ·exact Int.le_refl _
 ·rw[lead_sum h hi]
  refine T3 fun j _=> ?_
  split
  ·exact Int.le_refl _
  ·exact ae8 h hi j
theorem WF_le(h:Sys t S op st w){i:Nat}(hi:i<S.length):WF st w i≤24:=(h.res i S[i] (List.getElem?_eq_getElem hi)).sum
theorem sys_exit(h:Sys t S op st w){i:Nat}(hi:i<S.length){y:Li}(hy:y ∈ st i)(hg:g8 t y):smN S.length (wG S st w i)<WF st w i:=by
 rw[lead_sum h hi]
 have hr:=h.res i S[i] (List.getElem?_eq_getElem hi)
 obtain⟨j,hj,rfl⟩:=List.getElem_of_mem hy
 have hle:smN (st i).length (fun q=>if dec (∃y ∈ S,(st i)[q]? =some y)=true then wtj (w i) q else 0)≤smN (st i).length fun q=>wtj (w i) q+if q=j then -(wtj (w i) j) else 0:=T3 fun q hq=>by
  by_cases e:q=j
  ·subst e
   rw[if_pos rfl,if_neg]
   ·omega
   ·rw[m9]
    ·simp
    ·rintro ⟨y,hy',e⟩
     rw[List.getElem?_eq_getElem hj] at e
     cases e
     exact h.ng _ hy' hg
  ·rw[if_neg e]
   have:=ae8 h hi q
   split<;>omega
 rw[J5,P0 (f:=fun q=>if q=j then -(wtj (w i) j) else 0) hj fun q _ hq=>if_neg hq,if_pos rfl] at hle
 have:=hr.pos j hj
 show _<smN (st i).length (wtj (w i))
 omega
theorem sys_step(h:Sys t S op st w){i k:Nat}(hi:i<S.length)(hk:k<S.length)(hy:S[k] ∈ st i):0<wG S st w i k:=by
 have hr:=h.res i S[i] (List.getElem?_eq_getElem hi)
 unfold wG wF
 rw[if_pos hi,List.getElem?_eq_getElem hk]
 dsimp only
 obtain⟨j,hj,e⟩:=List.getElem_of_mem hy
 have h1:=X0 (f:=fun q=>if(st i)[q]? =some S[k] then wtj (w i) q else 0) (fun q=>by split;exact ae8 h hi q;exact Int.le_refl _) (Nat.zero_le j) hj
 simp only[smN] at h1
 rw[if_pos (by rw[List.getElem?_eq_getElem hj,e])] at h1
 have:=hr.pos j hj
 unfold twF;omega
inductive Wy(t:b7)(S:LL)(st:Nat→LL):Nat→Prop
 |exit {i:Nat} {y:Li} (h:i<S.length) (hy:y ∈ st i) (hg:g8 t y):Wy t S st i
 |step {i k:Nat} {y:Li} (h:i<S.length) (hk:S[k]? =some y) (hy:y ∈ st i) (hp:Wy t S st k):Wy t S st i
theorem Wy.px(h:Sys t S op st w){i:Nat}(hw:Wy t S st i):Px S.length (WF st w) (wG S st w) i:=by
 induction hw with
 |exit hi hy hg=>exact .exit hi (sys_exit h hi hy hg)
 |@step i k y hi hk hy _ ih=>
  obtain⟨hk',rfl⟩:=lG.1 hk
  exact .step hi hk' (sys_step h hi hk' hy) ih
theorem sys_rb(ht:g9 t)(h:Sys t S op st w):Rb S.length (eqN t S op st w) 48 2400:=by
 have hM:=sys_ms ht h
 refine⟨by omega,by omega,fun i hi=> ?_,fun i hi=> ?_⟩
 ·have h1:smN S.length (fun k=>ab (eqN t S op st w i k))≤smN S.length fun k=>(if k=i then WF st w i else 0)+wG S st w i k:=T3 fun k hk=>by
   have h2:=hM.nn i k
   have h3:=hM.pos i hi
   have e:eqN t S op st w i k=(if k=i then WF st w i else 0) - wG S st w i k:=by
    unfold eqN eqM
    rw[if_neg (by omega)]
    by_cases f:k=i
    ·rw[if_pos f,if_pos f.symm]
    ·rw[if_neg f,if_neg (fun q=>f q.symm)]
   rw[e]
   unfold ab
   split<;>split<;>omega
  rw[J5,P0 (f:=fun k=>if k=i then WF st w i else 0) hi fun k _ hk=>if_neg hk,if_pos rfl] at h1
  have:=hM.le i hi
  have:=WF_le h hi
  omega
 ·have e:eqN t S op st w i S.length=WF st w i * cF t op i:=by unfold eqN eqM;rw[if_pos rfl]
  rw[e]
  have hop:=h.rng i hi
  have hco:=ht.at hop.1 hop.2
  have h3:=hM.pos i hi
  have h4:=WF_le h hi
  have h5:0≤WF st w i * cF t op i:=Int.mul_nonneg (by omega) hco.c0
  have h6:=Int.mul_le_mul h4 hco.c1 hco.c0 (by omega:(0:Int)≤24)
  unfold ab;rw[if_pos h5];exact h6
theorem Rb.congr{n:Nat}{A B:Mtx}{R C:Int}(h:Rb n A R C)(e:∀i k,i<n→k≤n→B i k=A i k):Rb n B R C:=
 ⟨h.R0,h.B0,fun i hi=>by rw[l8 (g:=fun k=>ab (A i k)) fun k hk=>by rw[e i k hi (by omega)]];exact h.row i hi,fun i hi=>by rw[e i n hi (Nat.le_refl n)];exact h.rhs i hi⟩
theorem GJ.congr{n c:Nat}{A B a:Mtx}{d:Int}(h:GJ n B c a d)(e:∀i k,i<n→k≤n→B i k=A i k)(hc:c≤n):GJ n A c a d:=by
 refine⟨by rw[h.dd];exact T8 fun i j hi hj=>e i j (by omega) (by omega),h.nz,h.on,fun j r hj hj' hr=> ?_,fun j r hj hj' hr hr'=> ?_⟩
 ·rw[← e r j (by omega) hj',← h.top j r hj hj' hr]
  exact l8 fun k hk=>by rw[e r k (by omega) (by omega)]
 ·rw[h.low j r hj hj' hr hr',e r j hr' hj']
  congr 1
  exact l8 fun k hk=>by rw[e r k hr' (by omega)]
theorem value_ok(ht:g9 t)(h:Sys t S op st w)(hp:∀i,i<S.length→Px S.length (WF st w) (wG S st w) i){choose:Li→Option Int}(hch:∀i s,S[i]? =some s→choose s=some (op i)):
  ∃L num,forR 0 (S.length:Int) (B6 t S choose) []=some L∧x5 S L=some (num,det S.length (eqN t S op st w))∧num.length=S.length∧det S.length (eqN t S op st w) ≠ 0∧
   (∀l,l<S.length→num[l]? =some (det S.length (rep (eqN t S op st w) l fun r=>eqN t S op st w r S.length)))∧
   ∀r,r<S.length→smN S.length (fun k=>eqN t S op st w r k * wtj num k)=det S.length (eqN t S op st w) * (WF st w r * cF t op r):=by
 obtain⟨L,l1,l2,l3⟩:=eqs_ok ht h hch
 have hM:=sys_ms ht h
 have hd:det S.length (mE L)=det S.length (eqN t S op st w):=T8 fun i k hi hk=>l3 i k hi (by omega)
 obtain⟨num,s1,s2,s3,s4,s5⟩:=solve_spec S h.n5 l2 ((sys_rb ht h).congr l3) (fun c a d hG hc=>(hG.congr l3 (by omega)).pivot hM hp hc)
 rw[hd] at s1 s3
 refine⟨L,num,l1,s1,s2,s3,fun l hl=> ?_,fun r hr=> ?_⟩
 ·rw[s4 l hl]
  congr 1
  exact T8 fun i k hi hk=>by
   unfold Ab.rep
   split
   ·exact l3 i _ hi (Nat.le_refl _)
   ·exact l3 i k hi (by omega)
 ·have:=s5 r hr
  rw[hd,l3 r _ hr (Nat.le_refl _)] at this
  rw[l8 (g:=fun k=>mE L r k * (num[k]?).getD 0) fun k hk=>by rw[l3 r k hr (by omega)];rfl,this]
  congr 1
  unfold eqN eqM;rw[if_pos rfl]
end
end Ab
end
section
namespace Ab
open Go
theorem euclid_eq{a b:Nat}(h:0<a∨0<b):Loop M5 ((a:Int),(b:Int))=some ((Nat.gcd a b:Nat):Int):=by
 obtain⟨o,h1,h2⟩:=F1 (body:=M5) (s:=((a:Int),(b:Int)))
  (fun s=>∃x y:Nat,s=((x:Int),(y:Int))∧Nat.gcd x y=Nat.gcd a b) (fun o=>o=((Nat.gcd a b:Nat):Int)) (fun s=>s.2.toNat) ⟨a,b,rfl,rfl⟩ (by
   rintro s ⟨x,y,rfl,e⟩
   unfold M5
   dsimp only
   by_cases c:0<y
   ·rw[if_pos (by omega),chkN,if_neg (by omega)]
    simp only[oB]
    refine .inl ⟨_,rfl,⟨y,x % y,?_,?_⟩,?_⟩
    ·rw[← Int.ofNat_tmod]
    ·rw[← e,Nat.gcd_comm y,← Nat.gcd_rec,Nat.gcd_comm]
    ·dsimp only
     rw[← Int.ofNat_tmod,Int.toNat_natCast,Int.toNat_natCast]
     exact Nat.mod_lt _ c
   ·rw[if_neg (by omega)]
    have:y=0:=by omega
    subst this
    rw[Nat.gcd_zero_right] at e
    exact .inr ⟨_,rfl,by rw[e]⟩)
 rw[h1,h2]
end Ab
end
section
namespace Ab
open Go
def Lt{α:Type}(x y:Option α):Prop:=∀r,x=some r→y=some r
theorem Lt.rfl'{α:Type}{x:Option α}:Lt x x:=fun _ h=>h
theorem Lt.bind{α β:Type}{x y:Option α}{f g:α→Option β}(h:Lt x y)(k:∀a,Lt (f a) (g a)):Lt (x.bind f) (y.bind g):=fun r hr=>by
 obtain⟨a,h1,h2⟩:=bind_some hr
 rw[h a h1];exact k a r h2
theorem Lt.rngN{S O:Type}{f g:Int→S→Option (S⊕O)}(h:∀i s,Lt (f i s) (g i s)):∀(k:Nat) (i:Int) (s:S),Lt (rngN f k i s) (rngN g k i s)
 |0,_,_=>Lt.rfl'
 |k+1,i,s=>fun r hr=>by
  simp only[Ab.rngN] at hr ⊢
  cases hf:f i s with
  |none=>rw[hf] at hr;cases hr
  |some x=>
   rw[h i s x hf]
   rw[hf] at hr
   cases x with
   |inl s'=>exact Lt.rngN h k (i+1) s' r hr
   |inr o=>exact hr
theorem Lt.rngX{S O:Type}{f g:Int→S→Option (S⊕O)}{lo n:Int}{s:S}(h:∀i s,Lt (f i s) (g i s)):Lt (rngX lo n f s) (rngX lo n g s):=Lt.rngN h _ _ _
theorem Lt.LoopN{S O:Type}{f g:S→Option (S⊕O)}(h:∀s,Lt (f s) (g s)):∀(k:Nat) (s:S),Lt (LoopN f k s) (LoopN g k s)
 |0,_=>Lt.rfl'
 |k+1,s=>fun r hr=>by
  simp only[Ab.LoopN] at hr ⊢
  cases hf:f s with
  |none=>rw[hf] at hr;cases hr
  |some x=>
   rw[h s x hf]
   rw[hf] at hr
   cases x with
   |inl s'=>exact Lt.LoopN h k s' r hr
   |inr o=>exact hr
theorem Lt.Loop{S O:Type}{f g:S→Option (S⊕O)}{s:S}(h:∀s,Lt (f s) (g s)):Lt (Loop f s) (Loop g s):=fun r hr=>by
 obtain⟨n,hn⟩:=ac5.1 hr
 exact ac5.2 ⟨n,Lt.LoopN h n s r hn⟩
end Ab
end
section
namespace Ab
open Go
def frN(a b:Nat):r8:=⟨((a / Nat.gcd a b:Nat):Int),((b / Nat.gcd a b:Nat):Int)⟩
theorem frN_eq{a b c d:Nat}(hb:0<b)(hd:0<d)(h:a * d=c * b):frN a b=frN c d:=by
 have g0:0<Nat.gcd a b:=Nat.gcd_pos_of_pos_right a hb
 have g1:0<Nat.gcd c d:=Nat.gcd_pos_of_pos_right c hd
 obtain⟨a',ea⟩:=Nat.gcd_dvd_left a b
 obtain⟨b',eb⟩:=Nat.gcd_dvd_right a b
 obtain⟨c',ec⟩:=Nat.gcd_dvd_left c d
 obtain⟨d',ed⟩:=Nat.gcd_dvd_right c d
 have co1:Nat.Coprime a' b':=by
  have h1:a'=a / Nat.gcd a b:=by rw (occs:=.pos [1]) [ea];exact(Nat.mul_div_cancel_left _ g0).symm ▸ rfl
  have h2:b'=b / Nat.gcd a b:=by rw (occs:=.pos [1]) [eb];exact(Nat.mul_div_cancel_left _ g0).symm ▸ rfl
  rw[h1,h2];exact Nat.coprime_div_gcd_div_gcd g0
 have co2:Nat.Coprime c' d':=by
  have h1:c'=c / Nat.gcd c d:=by rw (occs:=.pos [1]) [ec];exact(Nat.mul_div_cancel_left _ g1).symm ▸ rfl
  have h2:d'=d / Nat.gcd c d:=by rw (occs:=.pos [1]) [ed];exact(Nat.mul_div_cancel_left _ g1).symm ▸ rfl
  rw[h1,h2];exact Nat.coprime_div_gcd_div_gcd g1
 have e:a' * d'=c' * b':=by
  have h1:(Nat.gcd a b * Nat.gcd c d) * (a' * d')=(Nat.gcd a b * Nat.gcd c d) * (c' * b'):=by
   have h2:(Nat.gcd a b * Nat.gcd c d) * (a' * d')=a * d:=by
    have:(Nat.gcd a b * Nat.gcd c d) * (a' * d')=(Nat.gcd a b * a') * (Nat.gcd c d * d'):=by grind
    rw[this,← ea,← ed]
   have h3:(Nat.gcd a b * Nat.gcd c d) * (c' * b')=c * b:=by
    have:(Nat.gcd a b * Nat.gcd c d) * (c' * b')=(Nat.gcd c d * c') * (Nat.gcd a b * b'):=by grind
    rw[this,← ec,← eb]
   rw[h2,h3,h]
  exact Nat.eq_of_mul_eq_mul_left (Nat.mul_pos g0 g1) h1
 have hdb:d' ∣ b':=by
  have:d' ∣ c' * b':=⟨a',by rw[← e,Nat.mul_comm]⟩
  exact Nat.Coprime.dvd_of_dvd_mul_left co2.symm this
 have hbd:b' ∣ d':=by
  have:b' ∣ a' * d':=⟨c',by rw[e,Nat.mul_comm]⟩
  exact Nat.Coprime.dvd_of_dvd_mul_left co1.symm this
 have hbd':b'=d':=Nat.dvd_antisymm hbd hdb
 have b0:0<b':=by
  rcases Nat.eq_zero_or_pos b' with q|q
  ·rw[q,Nat.mul_zero] at eb;omega
  ·exact q
 have hac:a'=c':=by
  rw[← hbd'] at e
  exact Nat.eq_of_mul_eq_mul_right b0 e
 have v1:a / Nat.gcd a b=a':=by rw (occs:=.pos [1]) [ea];exact Nat.mul_div_cancel_left _ g0
 have v2:b / Nat.gcd a b=b':=by rw (occs:=.pos [1]) [eb];exact Nat.mul_div_cancel_left _ g0
 have v3:c / Nat.gcd c d=c':=by rw (occs:=.pos [1]) [ec];exact Nat.mul_div_cancel_left _ g1
 have v4:d / Nat.gcd c d=d':=by rw (occs:=.pos [1]) [ed];exact Nat.mul_div_cancel_left _ g1
 unfold frN
 rw[v1,v2,v3,v4,hac,hbd']
theorem w64n{n:Nat}(h:n≤4000000000000000000):w64 (n:Int)=n:=l9 (by omega) (by omega)
theorem lowest_pos{a b:Nat}(ha:a≤4000000000000000000)(hb:b≤4000000000000000000)(hb0:0<b):D6 (a:Int) (b:Int)=some (frN a b,dec ((frN a b).num≤1000000000∧(frN a b).den≤1000000000)):=by
 have g0:0<Nat.gcd a b:=Nat.gcd_pos_of_pos_right a hb0
 unfold D6
 rw[if_neg (by omega)]
 simp only[oB]
 have hm:max (a:Int) (w64 (0 - (a:Int)))=a:=by
  rw[l9 (by omega) (by omega)];omega
 rw[hm,euclid_eq (.inr hb0)]
 have hg:chkN ((Nat.gcd a b:Nat):Int)=some ():=by unfold chkN;rw[if_neg (by omega)]
 have da:((a:Int)).tdiv ((Nat.gcd a b:Nat):Int)=((a / Nat.gcd a b:Nat):Int):=(Int.ofNat_tdiv _ _).symm
 have db:((b:Int)).tdiv ((Nat.gcd a b:Nat):Int)=((b / Nat.gcd a b:Nat):Int):=(Int.ofNat_tdiv _ _).symm
 have la:a / Nat.gcd a b≤4000000000000000000:=Nat.le_trans (Nat.div_le_self _ _) ha
 have lb:b / Nat.gcd a b≤4000000000000000000:=Nat.le_trans (Nat.div_le_self _ _) hb
 simp only[hg,oB,da,db,w64n la,w64n lb]
 unfold frN
 dsimp only
 generalize a / Nat.gcd a b=x at *
 generalize b / Nat.gcd a b=y at *
 have hm2:max (x:Int) (w64 (0 - (x:Int)))=x:=by
  rw[l9 (by omega) (by omega)];omega
 rw[hm2]
 congr 2
 by_cases c:(x:Int)≤1000000000∧(y:Int)≤1000000000
 ·rw[j7 c];simp;omega
 ·rw[m9 c];simp;omega
theorem lowest_neg{a b:Nat}(ha:a≤4000000000000000000)(hb:b≤4000000000000000000)(hb0:0<b):D6 (-(a:Int)) (-(b:Int))=D6 (a:Int) (b:Int):=by
 unfold D6
 rw[if_pos (by omega),if_neg (by omega)]
 have e1:w64 (0 - -(a:Int))=a:=by rw[show(0:Int) - -(a:Int)=a by omega];exact w64n ha
 have e2:w64 (0 - -(b:Int))=b:=by rw[show(0:Int) - -(b:Int)=b by omega];exact w64n hb
 rw[e1,e2]
structure Sq(n:Nat)(M:LL):Prop where
 len:M.length=n
 row:∀r ∈ M,r.length=n
theorem Sq.get{n:Nat}{M:LL}(h:Sq n M){i:Nat}(hi:i<n):∃row,M[i]? =some row∧row.length=n∧ix M (i:Int)=some row∧∀j,j<n→ix row (j:Int)=some (mE M i j)∧row[j]? =some (mE M i j):=by
 have hl:i<M.length:=by rw[h.len];exact hi
 have e:M[i]? =some M[i]:=List.getElem?_eq_getElem hl
 have hr:=h.row _ (List.getElem_mem hl)
 refine⟨M[i],e,hr,by rw[o7,e],fun j hj=> ?_⟩
 have hj':j<M[i].length:=by omega
 have e2:M[i][j]? =some M[i][j]:=List.getElem?_eq_getElem hj'
 have:mE M i j=M[i][j]:=by unfold mE;rw[e];simp[e2]
 rw[o7,e2,this]
 exact⟨rfl,rfl⟩
def Bd(n:Nat)(A:Mtx):Prop:=∃l,(∀i,i<n→smN n (fun j=>if j=l then 0 else ab (A i j))≤48)∧(l<n→∀i,i<n→ab (A i l)≤2400)
theorem Bd.det{n:Nat}{A:Mtx}(hn:n≤5)(h:Bd n A):ab (det n A)≤63700992000:=by
 obtain⟨l,h1,h2⟩:=h
 by_cases e:l<n
 ·obtain⟨m,rfl⟩:∃m,n=m+1:=⟨n - 1,by omega⟩
  have:=ak7 (R:=48) (B:=2400) (by omega) (by omega) e h1 (h2 e)
  have h5:m=0∨m=1∨m=2∨m=3∨m=4:=by omega
  refine Int.le_trans this ?_
  rcases h5 with rfl|rfl|rfl|rfl|rfl<;>decide
 ·have:=ae1 (n:=n) (A:=A) (r:=fun _=>48) (fun _=>by omega) fun i hi=>by
   have:=h1 i hi
   rwa [l8 (g:=fun j=>ab (A i j)) fun j hj=>by rw[if_neg (by omega)]] at this
  rw[ad6] at this
  have h5:n=0∨n=1∨n=2∨n=3∨n=4∨n=5:=by omega
  refine Int.le_trans this ?_
  rcases h5 with rfl|rfl|rfl|rfl|rfl|rfl<;>decide
end Ab
end
section
namespace Ab
open Go
theorem Lt.forN{S:Type}{f g:Int→S→Option S}(h:∀i s,Lt (f i s) (g i s)):∀(k:Nat) (i:Int) (s:S),Lt (forN f k i s) (forN g k i s)
 |0,_,_=>Lt.rfl'
 |k+1,i,s=>fun r hr=>by
  simp only[Ab.forN] at hr ⊢
  cases hf:f i s with
  |none=>rw[hf] at hr;cases hr
  |some x=>
   rw[h i s x hf]
   rw[hf] at hr
   exact Lt.forN h k (i+1) x r hr
theorem Lt.forR{S:Type}{f g:Int→S→Option S}{lo n:Int}{s:S}(h:∀i s,Lt (f i s) (g i s)):Lt (forR lo n f s) (forR lo n g s):=Lt.forN h _ _ _
end Ab
end
section
namespace Ab
open Go
section
variable {t:b7}{S:LL}{op:Nat→Int}{st:Nat→LL}{w:Nat→Li}
end
end Ab
end
section
namespace Ab
open Go
/-! ### Values of ordered states -/
noncomputable def sc(t:b7)(s:Li)(op:Int):LL:=(ooAt t op).outcomes.map (efc t.facts s)
structure Rep{A:Type}(all:LL)(v:List A)(f:Li→A):Prop where
 len:v.length=all.length
 get:∀{i:Int} {s:Li},ix all i=some s→ix v i=some (f s)
noncomputable def upd{A:Type}(f:Li→A)(s:Li)(x:A):Li→A:=fun z=>if dec (z=s)=true then x else f z
theorem M3{A:Type}{f:Li→A}{s:Li}{x:A}:upd f s x s=x:=ifP rfl
theorem ab1{A:Type}{f:Li→A}{s z:Li}{x:A}(h:z ≠ s):upd f s x z=f z:=ifN h
section
variable {A:Type}{all:LL}{v:List A}{f g:Li→A}
theorem Rep.of(h:Rep all v f){s:Li}(hs:s ∈ all):∃i,ix all i=some s∧ix v i=some (f s):=by
 obtain⟨i,_,_,hi⟩:=m7 hs
 exact⟨i,hi,h.get hi⟩
theorem Rep.set(ho:Ord all)(h:Rep all v f){i:Int}{s:Li}(hi:ix all i=some s)(x:A):Rep all (v.set i.toNat x) (upd f s x):=by
 obtain⟨i0,i1,_⟩:=m6 hi
 have hl:=h.len
 refine⟨by rw[lS];exact hl,fun {j z} hj=> ?_⟩
 rw[ix_put i0 (by omega) (m6 hj).1]
 by_cases e:j=i
 ·subst e
  rw[hi] at hj;cases hj
  rw[if_pos rfl,M3]
 ·rw[if_neg e,ab1 (fun hz=>e (by subst hz;exact ho.inj hj hi))]
  exact h.get hj
theorem Rep.congr(h:Rep all v f)(e:∀s ∈ all,f s=g s):Rep all v g:=⟨h.len,fun hi=>by rw[← e _ (i7 hi)];exact h.get hi⟩
theorem Rep.repl(c:A):Rep all (List.replicate all.length c) fun _=>c:=⟨by simp,fun {i s} hi=>by
 obtain⟨i0,i1,g⟩:=m6 hi
 have:i.toNat<all.length:=(lG.1 g).1
 rw[ix,if_pos i0,List.getElem?_replicate,if_pos this]⟩
end
theorem repeat_eq(c:Int){n:Nat}(h1:1≤n)(hn:n≤100000):C4 [c] (n:Int)=some (List.replicate n c):=by
 unfold C4
 dsimp only
 rw[if_pos (show(1:Int)≤n∧(n:Int)≤4294967295 by omega)]
 simp
def DnA(t:b7):Nat→Li→Prop
 |0,s=>g8 t s
 |k+1,s=>g8 t s∨∃op:Int,(0≤op∧op<t.operators.length)∧oCan t s op∧∀y ∈ sc t s op,DnA t k y
section
variable {t:b7}
theorem DnA.goal{k:Nat}{s:Li}(h:g8 t s):DnA t k s:=by
 cases k with
 |zero=>exact h
 |succ k=>exact .inl h
theorem DnA.succ:∀{k:Nat} {s:Li},DnA t k s→DnA t (k+1) s
 |0,s,h=>.inl h
 |k+1,s,h=>by
  rcases h with h|⟨op,h1,h2,h3⟩
  ·exact .inl h
  ·exact .inr ⟨op,h1,h2,fun y hy=>DnA.succ (h3 y hy)⟩
theorem DnA.mono{k m:Nat}{s:Li}(h:DnA t k s)(hm:k≤m):DnA t m s:=by
 induction hm with
 |refl=>exact h
 |step _ ih=>exact ih.succ
def HtA(t:b7)(k:Nat)(s:Li):Prop:=DnA t k s∧∀j,j<k→¬ DnA t j s
theorem HtA.zero{s:Li}(h:g8 t s):HtA t 0 s:=⟨h,fun j hj=>by omega⟩
theorem HtA.of_not{k:Nat}{s:Li}(h:DnA t (k+1) s)(hn:¬ DnA t k s):HtA t (k+1) s:=⟨h,fun j hj hd=>hn (hd.mono (by omega))⟩
structure ClO(t:b7)(all:LL):Prop where
 cl:Cl t all
 ord:Ord all
theorem ClO.len{all:LL}(h:ClO t all):all.length≤2000:=h.cl.len
theorem ClO.set{all:LL}(h:ClO t all){s:Li}(hs:s ∈ all):SetN s t.facts:=h.cl.set s hs
theorem ClO.sc{all:LL}(h:ClO t all){s:Li}(hs:s ∈ all){op:Int}(h0:0≤op∧op<t.operators.length)(hc:oCan t s op){y:Li}(hy:y ∈ sc t s op):y ∈ all:=by
 obtain⟨x,hx,rfl⟩:=List.mem_map.1 hy
 exact h.cl.closed s hs op h0.1 h0.2 hc x hx
end
end Ab
end
section
namespace Ab
open Go
/-! ### Loops that do the same, till one of them gives up -/
section
variable {t:b7}{m:Int}
end
end Ab
end
section
namespace Ab
open Go
def sumN(l:Li):Nat:=(l.map Int.toNat).sum
theorem sumN_set:∀{l:Li} {i:Nat} {x y:Int},l[i]? =some y→0≤x→x<y→sumN (l.set i x)<sumN l
 |[],_,_,_,h,_,_=>by simp at h
 |a::l,0,x,y,h,h0,h1=>by
  simp only[List.getElem?_cons_zero,Option.some.injEq] at h
  subst h
  simp only[sumN,List.set_cons_zero,List.map_cons,List.sum_cons]
  omega
 |a::l,i+1,x,y,h,h0,h1=>by
  have:=sumN_set (l:=l) (i:=i) (by simpa using h) h0 h1
  simp only[sumN,List.set_cons_succ,List.map_cons,List.sum_cons] at this ⊢
  omega
end Ab
end
section
namespace Ab
open Go
section
variable {t:b7}
def DsC(t:b7)(S:Li→Prop):Nat→Li→Prop
 |0,s=>g8 t s
 |k+1,s=>g8 t s∨(S s∧∃op:Int,(0≤op∧op<t.operators.length)∧oCan t s op∧(∀y ∈ sc t s op,S y)∧∃y ∈ sc t s op,DsC t S k y)
variable {S T:Li→Prop}
theorem DsC.goal{k:Nat}{s:Li}(h:g8 t s):DsC t S k s:=by
 cases k with
 |zero=>exact h
 |succ k=>exact .inl h
theorem DsC.succ:∀{k:Nat} {s:Li},DsC t S k s→DsC t S (k+1) s
 |0,s,h=>.inl h
 |k+1,s,h=>by
  rcases h with h|⟨h0,op,h1,h2,h3,y,hy,h4⟩
  ·exact .inl h
  ·exact .inr ⟨h0,op,h1,h2,h3,y,hy,h4.succ⟩
theorem DsC.mono{k m:Nat}{s:Li}(h:DsC t S k s)(hm:k≤m):DsC t S m s:=by
 induction hm with
 |refl=>exact h
 |step _ ih=>exact ih.succ
theorem DsC.sub(hST:∀s,S s→T s):∀{k:Nat} {s:Li},DsC t S k s→DsC t T k s
 |0,s,h=>h
 |k+1,s,h=>by
  rcases h with h|⟨h0,op,h1,h2,h3,y,hy,h4⟩
  ·exact .inl h
  ·exact .inr ⟨hST s h0,op,h1,h2,fun z hz=>hST z (h3 z hz),y,hy,h4.sub hST⟩
def HtD(t:b7)(S:Li→Prop)(k:Nat)(s:Li):Prop:=DsC t S k s∧∀j,j<k→¬ DsC t S j s
theorem HtD.unique{k m:Nat}{s:Li}(h:HtD t S k s)(h':HtD t S m s):k=m:=by
 rcases Nat.lt_trichotomy k m with c|c|c
 ·exact absurd h.1 (h'.2 k c)
 ·exact c
 ·exact absurd h'.1 (h.2 m c)
theorem HtD.of_dn:∀{k:Nat} {s:Li},DsC t S k s→∃m,m≤k∧HtD t S m s
 |0,s,h=>⟨0,Nat.le_refl _,h,fun j hj=>by omega⟩
 |k+1,s,h=>by
  by_cases c:DsC t S k s
  ·obtain⟨m,h1,h2⟩:=HtD.of_dn c
   exact⟨m,by omega,h2⟩
  ·exact⟨k+1,Nat.le_refl _,h,fun j hj hd=>c (hd.mono (by omega))⟩
theorem HtD.of_not{k:Nat}{s:Li}(h:DsC t S (k+1) s)(hn:¬ DsC t S k s):HtD t S (k+1) s:=⟨h,fun j hj hd=>hn (hd.mono (by omega))⟩
theorem HtD.step{k:Nat}{s:Li}(h:HtD t S (k+1) s):¬ g8 t s∧S s∧∃op:Int,(0≤op∧op<t.operators.length)∧oCan t s op∧(∀y ∈ sc t s op,S y)∧∃y ∈ sc t s op,HtD t S k y:=by
 have hg:¬ g8 t s:=fun g=>h.2 0 (by omega) g
 rcases h.1 with g|⟨h0,op,h1,h2,h3,y,hy,h4⟩
 ·exact absurd g hg
 ·refine⟨hg,h0,op,h1,h2,h3,y,hy,h4,fun j hj hd=> ?_⟩
  exact h.2 (j+1) (by omega) (.inr ⟨h0,op,h1,h2,h3,y,hy,hd⟩)
theorem HtD.chain{all:LL}(hc:ClO t all):∀{k:Nat} {s:Li},s ∈ all→HtD t S k s→∃c:LL,c.length=k+1∧c.Nodup∧∀x ∈ c,x ∈ all∧∃j,j≤k∧HtD t S j x
 |0,s,hs,h=>⟨[s],rfl,by simp,fun x hx=>by rw[List.mem_singleton.1 hx];exact⟨hs,0,Nat.le_refl _,h⟩⟩
 |k+1,s,hs,h=>by
  obtain⟨_,_,op,h1,h2,_,y,hy,h4⟩:=h.step
  obtain⟨c,c1,c2,c3⟩:=HtD.chain hc (hc.sc hs h1 h2 hy) h4
  refine⟨s::c,by simp[c1],List.nodup_cons.2 ⟨fun hm=> ?_,c2⟩,fun x hx=> ?_⟩
  ·obtain⟨_,j,j1,j2⟩:=c3 s hm
   have:=j2.unique h;omega
  ·rcases List.mem_cons.1 hx with rfl|hx
   ·exact⟨hs,k+1,Nat.le_refl _,h⟩
   ·obtain⟨q0,j,q1,q2⟩:=c3 x hx
    exact⟨q0,j,by omega,q2⟩
theorem HtD.lt{all:LL}(hc:ClO t all){k:Nat}{s:Li}(hs:s ∈ all)(h:HtD t S k s):k<all.length:=by
 obtain⟨c,c1,c2,c3⟩:=h.chain hc hs
 have:=W6 c2 fun x hx=>(c3 x hx).1
 omega
/-! ### Lists of numbers -/
theorem at6{l:Li}{f:Int→Option Bool}{p:Int→Prop}(h:∀x ∈ l,f x=some (dec (p x))):n8 l f=some (dec (∃x ∈ l,p x)):=by
 unfold n8 D1
 rcases y7 (body:=x4 l f) (n:=(l.length:Int)) (fun j=>if dec (∃x,ix l j=some x∧p x)=true then some j else none) (by omega) (fun j h0 h1 _=>by
  obtain⟨x,hx,_⟩:=i6 (l:=l) h0 h1
  unfold x4
  simp only[hx,oB,h x (i7 hx)]
  by_cases e:p x
  ·rw[ifP e,ifP ⟨x,rfl,e⟩]
  ·rw[ifN e,ifN (by rintro ⟨z,hz,hp⟩;cases hz;exact e hp)]) with⟨h1,h2⟩|⟨j,o,h0,h1,h2,h3,h4⟩
 ·rw[h1]
  simp only[oB]
  rw[m9]
  ·rfl
  ·rintro ⟨x,hx,hp⟩
   obtain⟨i,i0,i1,hi⟩:=m7 hx
   have:=h2 i i0 i1
   rw[ifP ⟨x,hi,hp⟩] at this
   cases this
 ·rw[h4]
  split at h2
  ·rename_i e
   cases h2
   simp only[oB]
   obtain⟨x,hx,hp⟩:=k8.1 e
   rw[j7 ⟨x,i7 hx,hp⟩,decide_eq_true h0]
  ·cases h2
theorem containsFL_eq{l:LL}{f:Li→Option Bool}{p:Li→Prop}(h:∀x ∈ l,f x=some (dec (p x))):q6 l f=some (dec (∃x ∈ l,p x)):=by
 unfold q6 u4
 rcases y7 (body:=r9 l f) (n:=(l.length:Int)) (fun j=>if dec (∃x,ix l j=some x∧p x)=true then some j else none) (by omega) (fun j h0 h1 _=>by
  obtain⟨x,hx,_⟩:=i6 (l:=l) h0 h1
  unfold r9
  simp only[hx,oB,h x (i7 hx)]
  by_cases e:p x
  ·rw[ifP e,ifP ⟨x,rfl,e⟩]
  ·rw[ifN e,ifN (by rintro ⟨z,hz,hp⟩;cases hz;exact e hp)]) with⟨h1,h2⟩|⟨j,o,h0,h1,h2,h3,h4⟩
 ·rw[h1]
  simp only[oB]
  rw[m9]
  ·rfl
  ·rintro ⟨x,hx,hp⟩
   obtain⟨i,i0,i1,hi⟩:=m7 hx
   have:=h2 i i0 i1
   rw[ifP ⟨x,hi,hp⟩] at this
   cases this
 ·rw[h4]
  split at h2
  ·rename_i e
   cases h2
   simp only[oB]
   obtain⟨x,hx,hp⟩:=k8.1 e
   rw[j7 ⟨x,i7 hx,hp⟩,decide_eq_true h0]
  ·cases h2
/-! ### The numbers of the states after an operator -/
def ArcL(t:b7)(all:LL)(s:Li)(op:Int)(l:Li):Prop:=(oCan t s op∧∀k,k ∈ l↔∃y ∈ sc t s op,ix all k=some y)∨(¬ oCan t s op∧l=[])
structure ArcsOk(t:b7)(all:LL)(nx:List (LL)):Prop where
 len:nx.length=all.length
 row:∀i s,ix all i=some s→∃r,ix nx i=some r∧r.length=t.operators.length∧∀op l,ix r op=some l→ArcL t all s op l
theorem ix_set_same{A:Type}{l:List A}{i:Int}{x y:A}(h:ix l i=some y):ix (l.set i.toNat x) i=some x:=by
 obtain⟨i0,i1,_⟩:=m6 h
 rw[ix_put i0 i1 i0,if_pos rfl]
theorem arcs_eq(ht:g9 t){all:LL}(hc:ClO t all):∃nx,ab4 t all=some nx∧ArcsOk t all nx:=by
 have hlen:=hc.len
 have hops:=ht.ops
 unfold ab4
 rw[show mkL 24 (all.length:Int) ([]:LL)=some (List.replicate all.length []) by rw[mkL,if_pos (by omega)];simp]
 simp only[oB]
 obtain⟨nx,h1,h2,h3⟩:=s8 (body:=aa0 t all) (n:=(all.length:Int)) (s:=List.replicate all.length ([]:LL)) (fun j nx=>nx.length=all.length∧∀i s,i<j→ix all i=some s→∃r,ix nx i=some r∧r.length=t.operators.length∧∀op l,ix r op=some l→ArcL t all s op l) (by omega) ⟨by simp,fun i s hi hs=>by have:=(m6 hs).1;omega⟩ (fun j nx j0 j1 ⟨a1,a2⟩=>by
  obtain⟨s,hs,_⟩:=i6 (l:=all) j0 j1
  have hsm:=i7 hs
  have hset:=hc.set hsm
  obtain⟨r0,hr0,_⟩:=i6 (l:=nx) j0 (by omega)
  unfold aa0
  rw[hs]
  simp only[oB]
  rw[show mkL 24 (t.operators.length:Int) ([]:Li)=some (List.replicate t.operators.length []) by rw[mkL,if_pos (by omega)];simp]
  simp only[oB,hr0]
  obtain⟨r,r1,r2,r3⟩:=s8 (body:=Y4 t all s) (n:=(t.operators.length:Int)) (s:=List.replicate t.operators.length ([]:Li)) (fun k r=>r.length=t.operators.length∧(∀op l,op<k→ix r op=some l→ArcL t all s op l)∧∀op l,k≤op→ix r op=some l→l=[]) (by omega) ⟨by simp,fun op l h0 h=>by have:=(m6 h).1;omega,fun op l _ h=>List.eq_of_mem_replicate (i7 h)⟩ (fun k r k0 k1 ⟨b1,b2,b3⟩=>by
   unfold Y4
   rw[ah0 ht k0 k1 hset]
   simp only[oB,w6]
   by_cases cc:oCan t s k
   ·rw[ifNN cc]
    obtain⟨st,ws,q1,_,q3,q4,_⟩:=D4 ht k0 k1 hset
    have hst:∀y,y ∈ st↔y ∈ sc t s k:=fun y=>by rw[q3,sc,List.mem_map]
    rw[q1]
    simp only[oB]
    obtain⟨l0,hl0,_⟩:=i6 (l:=r) k0 (by omega)
    have e0:l0=[]:=b3 k l0 (Int.le_refl _) hl0
    subst e0
    obtain⟨r',d1,d2,l',d3,d4,d5⟩:=s8 (body:=Y9 all k (st,ws)) (n:=(st.length:Int)) (s:=r) (fun m r'=>r'.length=r.length∧∃l,r'=r.set k.toNat l∧(l.length:Int)≤m∧∀z,z ∈ l↔∃q y,0≤q∧q<m∧ix st q=some y∧ix all z=some y) (by omega) ⟨rfl,[],(by
     have:=(m6 hl0).2.2
     refine(List.ext_getElem? fun i=> ?_)
     rw[List.getElem?_set]
     split
     ·rename_i e;subst e;rw[if_pos (lG.1 this).1,this]
     ·rfl),by simp,fun z=>⟨fun h=>by(cases h),fun⟨q,y,q0,q1,_⟩=>by omega⟩⟩ (fun m r' m0 m1 ⟨e1,l,e2,e3,e4⟩=>by
     obtain⟨y,hy,_⟩:=i6 (l:=st) m0 m1
     have hya:=hc.sc hsm ⟨k0,k1⟩ cc ((hst y).1 (i7 hy))
     obtain⟨z,z0,z1,hz⟩:=m7 hya
     have hg:ix r' k=some l:=by rw[e2];exact ix_set_same hl0
     unfold Y9
     dsimp only
     rw[hy]
     simp only[oB,hg,O6 hc.ord (show all.length≤500000 by omega) hz]
     rw[app,if_pos (by simp;omega)]
     simp only[oB]
     refine⟨_,rfl,by rw[lS];exact e1,l++[z],by rw[e2,List.set_set],by simp;omega,fun z'=> ?_⟩
     rw[List.mem_append,List.mem_singleton,e4]
     constructor
     ·rintro (⟨q,y',q0,q1,q2,q3⟩|rfl)
      ·exact⟨q,y',q0,by omega,q2,q3⟩
      ·exact⟨m,y,m0,by omega,hy,hz⟩
     ·rintro ⟨q,y',q0,q1,q2,q3⟩
      by_cases e:q=m
      ·subst e;rw[hy] at q2;cases q2
       exact .inr (hc.ord.inj q3 hz)
      ·exact .inl ⟨q,y',q0,by omega,q2,q3⟩)
    rw[d1]
    simp only[oB]
    refine⟨_,rfl,by omega,fun op l ho hl=> ?_,fun op l ho hl=> ?_⟩
    ·rw[d3] at hl
     rcases(by
      have:=(m6 hl).1
      rw[ix_put k0 (by omega) this] at hl
      by_cases e:op=k
      ·rw[if_pos e] at hl;exact .inl ⟨e,Option.some.inj hl⟩
      ·rw[if_neg e] at hl;exact .inr ⟨e,hl⟩:(op=k∧l'=l)∨(op ≠ k∧ix r op=some l)) with⟨rfl,rfl⟩|⟨e,hl⟩
     ·refine .inl ⟨cc,fun z=> ?_⟩
      rw[d5]
      constructor
      ·rintro ⟨q,y,_,_,q2,q3⟩;exact⟨y,(hst y).1 (i7 q2),q3⟩
      ·rintro ⟨y,hy,hz⟩
       obtain⟨q,q0,q1,hq⟩:=m7 ((hst y).2 hy)
       exact⟨q,y,q0,q1,hq,hz⟩
     ·exact b2 op l (by omega) hl
    ·rw[d3,ix_put k0 (by omega) (by omega),if_neg (by omega)] at hl
     exact b3 op l (by omega) hl
   ·rw[ifP cc]
    refine⟨_,rfl,b1,fun op l ho hl=> ?_,fun op l ho hl=>b3 op l (by omega) hl⟩
    by_cases e:op=k
    ·subst e;exact .inr ⟨cc,b3 op l (Int.le_refl _) hl⟩
    ·exact b2 op l (by omega) hl)
  rw[r1]
  simp only[oB]
  refine⟨_,rfl,by rw[lS];exact a1,fun i z hi hz=> ?_⟩
  by_cases e:i=j
  ·subst e
   rw[hs] at hz;cases hz
   exact⟨r,ix_set_same hr0,r2,fun op l hl=>r3.1 op l (by have:=(m6 hl).2.1;omega) hl⟩
  ·obtain⟨r',g1,g2⟩:=a2 i z (by omega) hz
   exact⟨r',by rw[ix_put j0 (by omega) (m6 hz).1,if_neg e];exact g1,g2⟩)
 rw[h1]
 exact⟨nx,rfl,h2,fun i s hs=>h3 i s (m6 hs).2.1 hs⟩
end
end Ab
end
section
namespace Ab
open Go
theorem sumN_le{l:Li}{i:Nat}{x y:Int}(h:l[i]? =some y)(h0:0≤x)(h1:x≤y):sumN (l.set i x)≤sumN l:=by
 by_cases e:x=y
 ·subst e
  have:l.set i x=l:=by
   refine List.ext_getElem? fun k=> ?_
   rw[List.getElem?_set]
   split
   ·rename_i e;subst e;rw[if_pos (lG.1 h).1,h]
   ·rfl
  rw[this];exact Nat.le_refl _
 ·exact Nat.le_of_lt (sumN_set h h0 (by omega))
section
variable {t:b7}{S:Li→Prop}{all:LL}
noncomputable def sfl(S:Li→Prop)(s:Li):Int:=if dec (S s)=true then 1 else 0
theorem V0{s:Li}(h:S s):sfl S s=1:=ifP h
theorem ae0{s:Li}(h:¬ S s):sfl S s=0:=ifN h
theorem measure1{sv d:Li}{f:Li→Int}(hs:Rep all sv (sfl S))(hd:Rep all d f){layer:Int}(hl:0≤layer∧layer≤1000000){l:Li}(hk:∀k ∈ l,∃s,ix all k=some s):
  H4 l sv d layer=some (dec (l ≠ []∧(∀k ∈ l,∀s,ix all k=some s→S s)∧∃k ∈ l,∃s,ix all k=some s∧f s=layer - 1)):=by
 have e1:U5 l sv=some (dec (l ≠ []∧∀k ∈ l,∀s,ix all k=some s→S s)):=by
  unfold U5
  by_cases c:0<(l.length:Int)
  ·rw[if_pos c,at6 (p:=fun k=>∃s,ix all k=some s∧¬ S s) (fun k hk2=>by
    obtain⟨s,hsk⟩:=hk k hk2
    unfold V5
    rw[hs.get hsk]
    simp only[oB]
    by_cases e:S s
    ·rw[V0 e,m9 (by rintro ⟨z,hz,hn⟩;rw[hsk] at hz;cases hz;exact hn e)]
     rfl
    ·rw[ae0 e,j7 ⟨s,hsk,e⟩]
     rfl)]
   simp only[oB,w6]
   congr 1
   refine v7 ⟨fun h=>⟨fun e=>by rw[e] at c;simp at c,fun k hk2 s hsk=>Classical.byContradiction fun hn=>h ⟨k,hk2,s,hsk,hn⟩⟩,fun h=> ?_⟩
   rintro ⟨k,hk2,s,hsk,hn⟩
   exact hn (h.2 k hk2 s hsk)
  ·rw[if_neg c,m9]
   ·rfl
   ·exact fun h=>h.1 (List.eq_nil_of_length_eq_zero (by omega))
 unfold H4
 rw[e1]
 simp only[oB]
 by_cases c:l ≠ []∧∀k ∈ l,∀s,ix all k=some s→S s
 ·rw[ifP c,at6 (p:=fun k=>∃s,ix all k=some s∧f s=layer - 1) (fun k hk2=>by
   obtain⟨s,hsk⟩:=hk k hk2
   unfold P2
   rw[hd.get hsk,l9 (by omega) (by omega)]
   simp only[oB,F0]
   congr 1
   refine v7 ⟨fun e=>⟨s,hsk,e⟩,?_⟩
   rintro ⟨z,hz,e⟩
   rw[hsk] at hz;cases hz;exact e)]
  simp only[oB]
  congr 1
  exact v7 ⟨fun h=>⟨c.1,c.2,h⟩,fun h=>h.2.2⟩
 ·rw[ifN c]
  simp only[oB]
  rw[m9]
  exact fun h=>c ⟨h.1,h.2.1⟩
def StepC(t:b7)(S:Li→Prop)(f:Li→Int)(s:Li)(v:Int):Prop:=∃op:Int,(0≤op∧op<t.operators.length)∧oCan t s op∧(∀y ∈ sc t s op,S y)∧∃y ∈ sc t s op,f y=v
theorem measureR(ht:g9 t)(hc:ClO t all){nx:List (LL)}(hn:ArcsOk t all nx){sv d:Li}{f:Li→Int}(hs:Rep all sv (sfl S))(hd:Rep all d f){layer:Int}(hl:0≤layer∧layer≤1000000){i:Int}{s:Li}(hi:ix all i=some s):
  ∃r,ix nx i=some r∧q6 r (fun y1=>H4 y1 sv d layer)=some (dec (StepC t S f s (layer - 1))):=by
 obtain⟨r,r1,r2,r3⟩:=hn.row i s hi
 have hsm:=i7 hi
 refine⟨r,r1,?_⟩
 have inr:∀x ∈ r,∃op,ix r op=some x∧(0≤op∧op<t.operators.length)∧ArcL t all s op x:=fun x hx=>by
  obtain⟨op,o0,o1,ho⟩:=m7 hx
  exact⟨op,ho,⟨o0,by omega⟩,r3 op x ho⟩
 rw[containsFL_eq (p:=fun l=>l ≠ []∧(∀k ∈ l,∀s,ix all k=some s→S s)∧∃k ∈ l,∃s,ix all k=some s∧f s=layer - 1) (fun x hx=>by
  obtain⟨op,_,ho,ha⟩:=inr x hx
  refine measure1 hs hd hl fun k hk=> ?_
  rcases ha with⟨_,ha⟩|⟨_,rfl⟩
  ·obtain⟨y,_,hy⟩:=(ha k).1 hk
   exact⟨y,hy⟩
  ·cases hk)]
 congr 1
 refine v7 ⟨?_,?_⟩
 ·rintro ⟨x,hx,h1,h2,k,hk,z,hz,hf⟩
  obtain⟨op,_,ho,ha⟩:=inr x hx
  rcases ha with⟨hcan,ha⟩|⟨_,rfl⟩
  ·refine⟨op,ho,hcan,fun y hy=> ?_,z,?_,hf⟩
   ·obtain⟨q,_,_,hq⟩:=m7 (hc.sc hsm ho hcan hy)
    exact h2 q ((ha q).2 ⟨y,hy,hq⟩) y hq
   ·obtain⟨y,hy,hyk⟩:=(ha k).1 hk
    rw[hz] at hyk;cases hyk;exact hy
  ·exact absurd rfl h1
 ·rintro ⟨op,ho,hcan,h1,y,hy,hf⟩
  obtain⟨x,hx,_⟩:=i6 (l:=r) ho.1 (by omega)
  rcases r3 op x hx with⟨_,ha⟩|⟨hn2,_⟩
  ·obtain⟨q,_,_,hq⟩:=m7 (hc.sc hsm ho hcan hy)
   have hqx:=(ha q).2 ⟨y,hy,hq⟩
   refine⟨x,i7 hx,⟨fun e=>(by rw[e] at hqx;cases hqx),fun k hk z hz=> ?_,q,hqx,y,hq,hf⟩⟩
   obtain⟨z',hz',hzk⟩:=(ha k).1 hk
   rw[hz] at hzk;cases hzk
   exact h1 z hz'
  ·exact absurd hcan hn2
def RankD(t:b7)(S:Li→Prop)(all:LL)(f:Li→Int)(L:Nat):Prop:=∀s ∈ all,(f s= -1∧¬ DsC t S L s)∨∃k:Nat,k≤L∧f s=k∧HtD t S k s
theorem RankD.fresh(hc:ClO t all){f:Li→Int}{L:Nat}(h:RankD t S all f L){s:Li}(hs:s ∈ all):HtD t S (L+1) s↔f s<0∧S s∧StepC t S f s L:=by
 constructor
 ·intro hh
  have hn:¬ DsC t S L s:=hh.2 L (by omega)
  have hf:f s= -1:=by
   rcases h s hs with⟨e,_⟩|⟨k,k1,_,k2⟩
   ·exact e
   ·exact absurd (k2.1.mono k1) hn
  obtain⟨_,h0,op,h1,h2,h3,y,hy,h4⟩:=hh.step
  refine⟨by omega,h0,op,h1,h2,h3,y,hy,?_⟩
  rcases h y (hc.sc hs h1 h2 hy) with⟨_,e⟩|⟨k,_,e,hk⟩
  ·exact absurd h4.1 e
  ·rw[e,hk.unique h4]
 ·rintro ⟨hf,h0,op,h1,h2,h3,y,hy,h4⟩
  have hn:¬ DsC t S L s:=by
   rcases h s hs with⟨_,e⟩|⟨k,_,e,_⟩
   ·exact e
   ·omega
  refine HtD.of_not (.inr ⟨h0,op,h1,h2,h3,y,hy,?_⟩) hn
  rcases h y (hc.sc hs h1 h2 hy) with⟨e,_⟩|⟨k,_,e,hk⟩
  ·omega
  ·have:k=L:=by omega
   subst this;exact hk.1
theorem measure_eq(ht:g9 t)(hc:ClO t all){nx:List (LL)}(hn:ArcsOk t all nx){sv:Li}(hs:Rep all sv (sfl S)):
  ∃v f,S9 t all nx sv=some v∧Rep all v f∧∀s ∈ all,(f s= -1∧∀k,¬ DsC t S k s)∨∃k:Nat,f s=k∧HtD t S k s:=by
 have hlen:=hc.len
 have hn1:=ht.n1
 unfold S9
 rw[repeat_eq (-1) (List.length_pos_of_mem hc.cl.init) (by omega)]
 simp only[oB]
 obtain⟨v0,a1,f0,a2,a3⟩:=s8 (body:=R6 t all) (n:=(all.length:Int)) (s:=List.replicate all.length (-1)) (fun j v=>∃f,Rep all v f∧∀i s,ix all i=some s→(i<j→(g8 t s→f s=0)∧(¬ g8 t s→f s= -1))∧(j≤i→f s= -1)) (by omega) ⟨_,Rep.repl (-1),fun i s hi=>⟨fun h=>by have:=(m6 hi).1;omega,fun _=>rfl⟩⟩ (fun j v j0 j1 ⟨f,h1,h2⟩=>by
  obtain⟨s,hs,_⟩:=i6 (l:=all) j0 j1
  have hset:=hc.set (i7 hs)
  have hsl:=hset.len
  unfold R6
  rw[hs]
  simp only[oB,G0 hset.1 ht.goal.1 (show s.length≤1000000 by omega),h1.get hs]
  by_cases hg:g8 t s
  ·rw[ifP (p:=∀x ∈ t.goal,x ∈ s) hg]
   refine⟨_,rfl,_,h1.set hc.ord hs 0,fun i z hz=> ?_⟩
   by_cases e:i=j
   ·subst e
    rw[hs] at hz;cases hz
    rw[M3]
    exact⟨fun _=>⟨fun _=>rfl,fun h=>absurd hg h⟩,fun h=>by omega⟩
   ·rw[ab1 (fun hz'=>e (hc.ord.inj hz (by rw[hz'];exact hs)))]
    exact⟨fun h=>(h2 i z hz).1 (by omega),fun h=>(h2 i z hz).2 (by omega)⟩
  ·rw[ifN (p:=∀x ∈ t.goal,x ∈ s) hg]
   refine⟨_,rfl,_,h1,fun i z hz=> ?_⟩
   by_cases e:i=j
   ·subst e
    rw[hs] at hz;cases hz
    exact⟨fun _=>⟨fun h=>absurd h hg,fun _=>(h2 i s hs).2 (Int.le_refl _)⟩,fun h=>by omega⟩
   ·exact⟨fun h=>(h2 i z hz).1 (by omega),fun h=>(h2 i z hz).2 (by omega)⟩)
 rw[a1]
 simp only[oB]
 have r0:RankD t S all f0 0:=fun s hs=>by
  obtain⟨i,_,i1,hi⟩:=m7 hs
  have:=(a3 i s hi).1 i1
  by_cases hg:g8 t s
  ·exact .inr ⟨0,Nat.le_refl _,this.1 hg,hg,fun j hj=>by omega⟩
  ·exact .inl ⟨this.2 hg,hg⟩
 obtain⟨v,e1,f,L,e2,e3,e4⟩:=F1 (body:=S0 all nx sv) (fun x=>∃f L,Rep all x.1 f∧x.2=((L:Nat):Int)+1∧RankD t S all f L∧L≤all.length) (fun v=>∃f L,Rep all v f∧RankD t S all f L∧all.length≤L) (fun x=>(all.length+2 - x.2).toNat) (s:=(v0,1)) ⟨f0,0,a2,by simp,r0,by omega⟩ (fun⟨v,layer⟩ ⟨f,L,h1,h2,h3,h4⟩=>by
  dsimp only at h1 h2 ⊢
  subst h2
  unfold S0
  dsimp only
  by_cases c:((L:Nat):Int)+1≤all.length
  ·rw[if_pos c]
   obtain⟨v',g1,f',g2,g3⟩:=s8 (body:=R4 nx sv (((L:Nat):Int)+1)) (n:=(all.length:Int)) (s:=v) (fun j v'=>∃f',Rep all v' f'∧∀i s,ix all i=some s→(i<j→(HtD t S (L+1) s→f' s=((L:Nat):Int)+1)∧(¬ HtD t S (L+1) s→f' s=f s))∧(j≤i→f' s=f s)) (by omega) ⟨f,h1,fun i s hi=>⟨fun h=>by have:=(m6 hi).1;omega,fun _=>rfl⟩⟩ (fun j v' j0 j1 ⟨f',q1,q2⟩=>by
    obtain⟨s,hsj,_⟩:=i6 (l:=all) j0 j1
    have hsm:=i7 hsj
    have same:∀y ∈ all,f' y=(L:Int)↔f y=L:=fun y hy=>by
     obtain⟨i,_,_,hi⟩:=m7 hy
     have b:=q2 i y hi
     by_cases ci:i<j
     ·by_cases hh:HtD t S (L+1) y
      ·have:=(h3.fresh hc hy).1 hh
       rw[(b.1 ci).1 hh];omega
      ·rw[(b.1 ci).2 hh]
     ·rw[b.2 (by omega)]
    have hfs:f' s=f s:=(q2 j s hsj).2 (Int.le_refl _)
    obtain⟨r,r1,r2⟩:=measureR ht hc hn hs q1 (layer:=((L:Nat):Int)+1) (by omega) hsj
    have hst:StepC t S f' s (((L:Nat):Int)+1 - 1)↔StepC t S f s L:=by
     rw[show((L:Nat):Int)+1 - 1=L by omega]
     constructor
     ·rintro ⟨op,o1,o2,o3,y,hy,e⟩;exact⟨op,o1,o2,o3,y,hy,(same y (hc.sc hsm o1 o2 hy)).1 e⟩
     ·rintro ⟨op,o1,o2,o3,y,hy,e⟩;exact⟨op,o1,o2,o3,y,hy,(same y (hc.sc hsm o1 o2 hy)).2 e⟩
    unfold R4
    rw[q1.get hsj,hs.get hsj]
    simp only[oB]
    have key:(if 0≤f' s then some true else some (decide (sfl S s=0)))=some (dec (¬ (f s<0∧S s))):=by
     rw[hfs]
     by_cases c1:0≤f s
     ·rw[if_pos c1,j7 (fun h=>by omega)]
     ·rw[if_neg c1]
      by_cases c2:S s
      ·rw[V0 c2,m9 (fun h=>h ⟨by omega,c2⟩)];rfl
      ·rw[ae0 c2,j7 (fun h=>c2 h.2)];rfl
    rw[key]
    simp only[oB]
    have keep:∀f'':Li→Int,(∀z ∈ all,z ≠ s→f'' z=f' z)→((HtD t S (L+1) s→f'' s=((L:Nat):Int)+1)∧(¬ HtD t S (L+1) s→f'' s=f s))→∀i z,ix all i=some z→(i<j+1→(HtD t S (L+1) z→f'' z=((L:Nat):Int)+1)∧(¬ HtD t S (L+1) z→f'' z=f z))∧(j+1≤i→f'' z=f z):=fun f'' k1 k2 i z hz=>by
     by_cases e:i=j
     ·subst e
      rw[hsj] at hz;cases hz
      exact⟨fun _=>k2,fun h=>by omega⟩
     ·have hne:z ≠ s:=fun hz'=>e (hc.ord.inj hz (by rw[hz'];exact hsj))
      rw[k1 z (i7 hz) hne]
      exact⟨fun h=>(q2 i z hz).1 (by omega),fun h=>(q2 i z hz).2 (by omega)⟩
    by_cases cs:f s<0∧S s
    ·rw[ifNN cs,r1]
     simp only[oB,r2]
     rw[v7 hst]
     by_cases ch:StepC t S f s L
     ·rw[ifP ch]
      have hh:=(h3.fresh hc hsm).2 ⟨cs.1,cs.2,ch⟩
      exact⟨_,rfl,_,q1.set hc.ord hsj _,keep _ (fun z _ hne=>ab1 hne) ⟨fun _=>M3,fun h=>absurd hh h⟩⟩
     ·rw[ifN ch]
      have hh:¬ HtD t S (L+1) s:=fun h=>ch ((h3.fresh hc hsm).1 h).2.2
      exact⟨_,rfl,_,q1,keep _ (fun z _ _=>rfl) ⟨fun h=>absurd h hh,fun _=>hfs⟩⟩
    ·rw[ifP cs]
     have hh:¬ HtD t S (L+1) s:=fun h=>cs ⟨((h3.fresh hc hsm).1 h).1,((h3.fresh hc hsm).1 h).2.1⟩
     exact⟨_,rfl,_,q1,keep _ (fun z _ _=>rfl) ⟨fun h=>absurd h hh,fun _=>hfs⟩⟩)
   rw[g1]
   simp only[oB]
   rw[l9 (by omega) (by omega)]
   refine .inl ⟨_,rfl,⟨f',L+1,g2,by dsimp only;omega,fun s hsm=> ?_,by omega⟩,by dsimp only;omega⟩
   obtain⟨i,_,i1,hi⟩:=m7 hsm
   have b:=(g3 i s hi).1 i1
   by_cases hh:HtD t S (L+1) s
   ·exact .inr ⟨L+1,Nat.le_refl _,by rw[b.1 hh];omega,hh⟩
   ·rcases h3 s hsm with⟨q1,q2⟩|⟨k,q0,q1,q2⟩
    ·exact .inl ⟨by rw[b.2 hh];exact q1,fun hd=>hh (.of_not hd q2)⟩
    ·exact .inr ⟨k,by omega,by rw[b.2 hh];exact q1,q2⟩
  ·rw[if_neg c]
   exact .inr ⟨_,rfl,f,L,h1,h3,by omega⟩)
 rw[e1]
 refine⟨v,f,rfl,e2,fun s hsm=> ?_⟩
 rcases e3 s hsm with⟨q1,q2⟩|⟨k,_,q1,q2⟩
 ·refine .inl ⟨q1,fun k hk=>q2 ?_⟩
  obtain⟨m,_,hm⟩:=HtD.of_dn hk
  have:=hm.lt hc hsm
  exact hm.1.mono (by omega)
 ·exact .inr ⟨k,q1,q2⟩
def PostF(t:b7)(all:LL)(T:Li→Prop):Prop:=∀s,T s→s ∈ all∧∃k,DsC t T k s
def Sd(all:LL)(f:Li→Int)(s:Li):Prop:=s ∈ all∧0≤f s
structure I2(t:b7)(all:LL)(f:Li→Int):Prop where
 val:∀s ∈ all,(f s= -1∧∀k,¬ DsC t (Sd all f) k s)∨∃k:Nat,f s=k∧HtD t (Sd all f) k s
 gr:∀T,PostF t all T→∀s,T s→0≤f s
theorem I2.post{f:Li→Int}(h:I2 t all f):PostF t all (Sd all f):=fun s hs=>by
 refine⟨hs.1,?_⟩
 rcases h.val s hs.1 with⟨e,_⟩|⟨k,_,hk⟩
 ·have:=hs.2;omega
 ·exact⟨k,hk.1⟩
theorem I2.unique{f g:Li→Int}(h:I2 t all f)(h':I2 t all g):∀s ∈ all,f s=g s:=by
 have e:Sd all f=Sd all g:=funext fun s=>propext ⟨fun q=>⟨q.1,h'.gr _ h.post s q⟩,fun q=>⟨q.1,h.gr _ h'.post s q⟩⟩
 intro s hs
 have a:=h.val s hs;have b:=h'.val s hs
 rw[← e] at b
 rcases a with⟨a1,a2⟩|⟨k,a1,a2⟩<;>rcases b with⟨b1,b2⟩|⟨m,b1,b2⟩
 ·omega
 ·exact absurd b2.1 (a2 m)
 ·exact absurd a2.1 (b2 k)
 ·rw[a1,b1,a2.unique b2]
theorem I2.lt(hc:ClO t all){f:Li→Int}(h:I2 t all f){s:Li}(hs:s ∈ all):f s<all.length:=by
 rcases h.val s hs with⟨e,_⟩|⟨k,e,hk⟩
 ·omega
 ·have:=hk.lt hc hs;omega
theorem au3(ht:g9 t)(hc:ClO t all):∃v f,I0 t all=some v∧Rep all v f∧I2 t all f:=by
 have hlen:=hc.len
 unfold I0
 obtain⟨nx,n1,n2⟩:=arcs_eq ht hc
 rw[n1]
 simp only[oB]
 rw[repeat_eq 1 (List.length_pos_of_mem hc.cl.init) (by omega)]
 simp only[oB]
 obtain⟨v,e1,f,e2,e3⟩:=F1 (body:=N1 t all nx) (fun x=>∃S:Li→Prop,(∀s,S s→s ∈ all)∧Rep all x (sfl S)∧(∀s ∈ all,g8 t s→S s)∧∀T,PostF t all T→∀s,T s→S s) (fun v=>∃f,Rep all v f∧I2 t all f) sumN (s:=List.replicate all.length 1) ⟨fun s=>s ∈ all,fun s h=>h,(Rep.repl 1).congr fun s hs=>(V0 hs).symm,fun s hs _=>hs,fun T hT s hs=>(hT s hs).1⟩ (fun sv ⟨S,s1,s2,s3,s4⟩=>by
  obtain⟨d,f,d1,d2,d3⟩:=measure_eq ht hc n2 s2
  have sub:∀s ∈ all,0≤f s→S s:=fun s hs hf=>by
   rcases d3 s hs with⟨e,_⟩|⟨k,_,hk⟩
   ·omega
   ·cases k with
    |zero=>exact s3 s hs hk.1
    |succ k=>exact hk.step.2.1
  unfold N1
  rw[d1]
  simp only[oB]
  rw[d2.len]
  obtain⟨⟨sv',b⟩,g1,g2,g3,g4,g5⟩:=s8 (body:=N3 d) (n:=(all.length:Int)) (s:=(sv,true)) (fun j x=>x.1.length=all.length∧(∀i s,ix all i=some s→ix x.1 i=some (if i<j then sfl (Sd all f) s else sfl S s))∧(x.2=dec (∀i s,i<j→ix all i=some s→(0≤f s↔S s)))∧sumN x.1+(if x.2=true then 0 else 1)≤sumN sv) (by omega) ⟨s2.len,fun i s hi=>by rw[if_neg (by have:=(m6 hi).1;omega)];exact s2.get hi,(j7 fun i s hi h=>by have:=(m6 h).1;omega).symm,by simp⟩ (fun j ⟨x,bx⟩ j0 j1 ⟨q1,q2,q3,q4⟩=>by
   dsimp only at q1 q2 q3 q4 ⊢
   obtain⟨s,hs,_⟩:=i6 (l:=all) j0 j1
   have hsm:=i7 hs
   have hfl:f s≤all.length∧ -1≤f s:=by
    rcases d3 s hsm with⟨e,_⟩|⟨k,e,hk⟩
    ·omega
    ·have:=hk.lt hc hsm;omega
   have hx:=q2 j s hs
   rw[if_neg (by omega)] at hx
   unfold N3
   dsimp only
   rw[d2.get hs,hx]
   simp only[oB]
   rw[l9 (by omega) (by omega)]
   have hmin:min 1 (f s+1)=sfl (Sd all f) s:=by
    by_cases c:0≤f s
    ·rw[V0 ⟨hsm,c⟩];omega
    ·rw[ae0 (fun h=>c h.2)];omega
   have key:(if bx=true then some (decide ((decide (0≤f s))=(decide (0<sfl S s)))) else some false)=some (dec (∀i s,i<j+1→ix all i=some s→(0≤f s↔S s))):=by
    have h2:(decide ((decide (0≤f s))=(decide (0<sfl S s))))=dec (0≤f s↔S s):=by
     have:decide (0<sfl S s)=dec (S s):=by
      by_cases c:S s
      ·rw[V0 c,j7 c];rfl
      ·rw[ae0 c,m9 c];rfl
     rw[this,F0 (p:=0≤f s),F0]
     exact v7 dec_inj
    by_cases cb:bx=true
    ·rw[if_pos cb,h2]
     congr 1
     rw[cb] at q3
     have h3:=k8.1 q3.symm
     refine v7 ⟨fun h i z hi hz=> ?_,fun h=>h j s (by omega) hs⟩
     by_cases e:i=j
     ·subst e;rw[hs] at hz;cases hz;exact h
     ·exact h3 i z (by omega) hz
    ·rw[if_neg cb,m9]
     intro h
     exact cb (by rw[q3];exact j7 fun i z hi hz=>h i z (by omega) hz)
   rw[key]
   simp only[oB]
   rw[hmin]
   refine⟨_,rfl,by rw[lS];exact q1,fun i z hz=> ?_,rfl,?_⟩
   ·rw[ix_put j0 (by omega) (m6 hz).1]
    by_cases e:i=j
    ·subst e
     rw[hs] at hz;cases hz
     rw[if_pos rfl,if_pos (by omega)]
    ·rw[if_neg e,q2 i z hz]
     congr 1
     by_cases c:i<j
     ·rw[if_pos c,if_pos (by omega)]
     ·rw[if_neg c,if_neg (by omega)]
   ·dsimp only
    have hxg:=(m6 hx).2.2
    by_cases ca:(∀i s,i<j+1→ix all i=some s→(0≤f s↔S s))
    ·rw[if_pos (j7 ca)]
     have hbx:bx=true:=by rw[q3];exact j7 fun i z hi hz=>ca i z (by omega) hz
     rw[if_pos hbx] at q4
     have e:sfl (Sd all f) s=sfl S s:=by
      have:=ca j s (by omega) hs
      by_cases c:S s
      ·rw[V0 c,V0 ⟨hsm,this.2 c⟩]
      ·rw[ae0 c,ae0 (fun h=>c (this.1 h.2))]
     rw[e]
     have:=sumN_le (x:=sfl S s) hxg (by unfold sfl;split<;>omega) (Int.le_refl _)
     omega
    ·rw[if_neg (by rw[m9 ca];simp)]
     by_cases hbx:bx=true
     ·rw[if_pos hbx] at q4
      -- it is here that they differ
      have hd:¬ (0≤f s↔S s):=fun h=>ca fun i z hi hz=>by
       by_cases e:i=j
       ·subst e;rw[hs] at hz;cases hz;exact h
       ·exact k8.1 (q3.symm.trans hbx) i z (by omega) hz
      have h1:¬ 0≤f s:=fun h=>hd ⟨fun _=>sub s hsm h,fun _=>h⟩
      have h2:S s:=Classical.byContradiction fun h=>hd ⟨fun h'=>absurd h' h1,fun h'=>absurd h' h⟩
      have:=sumN_set (x:=sfl (Sd all f) s) hxg (by unfold sfl;split<;>omega) (by rw[V0 h2,ae0 (fun h=>h1 h.2)];omega)
      omega
     ·rw[if_neg hbx] at q4
      have:=sumN_le (x:=sfl (Sd all f) s) hxg (by unfold sfl;split<;>omega) (by
       by_cases c:0≤f s
       ·rw[V0 ⟨hsm,c⟩,V0 (sub s hsm c)];exact Int.le_refl _
       ·rw[ae0 (fun h=>c h.2)];unfold sfl;split<;>omega)
      omega)
  rw[g1]
  simp only[oB]
  dsimp only at g2 g3 g4 g5
  by_cases cb:b=true
  ·rw[if_pos cb]
   rw[cb] at g4
   have h4:=k8.1 g4.symm
   have e:S=Sd all f:=funext fun s=>propext ⟨fun h=>by
    have hm:=s1 s h
    obtain⟨i,_,i1,hi⟩:=m7 hm
    exact⟨hm,(h4 i s i1 hi).2 h⟩,fun h=>by
    obtain⟨i,_,i1,hi⟩:=m7 h.1
    exact(h4 i s i1 hi).1 h.2⟩
   refine .inr ⟨d,rfl,f,d2,⟨by rw[e] at d3;exact d3,fun T hT s hs=> ?_⟩⟩
   have:=s4 T hT s hs
   rw[e] at this
   exact this.2
  ·rw[if_neg cb]
   rw[if_neg cb] at g5
   refine .inl ⟨sv',rfl,⟨Sd all f,fun s h=>h.1,⟨g2,fun {i s} hi=>by rw[g3 i s hi,if_pos (m6 hi).2.1]⟩,fun s hs hg=>⟨hs,?_⟩,fun T hT s hs=>⟨(hT s hs).1,?_⟩⟩,by omega⟩
   ·rcases d3 s hs with⟨_,e⟩|⟨k,e,_⟩
    ·exact absurd (DsC.goal hg) (e 0)
    ·omega
   ·obtain⟨hm,k,hk⟩:=hT s hs
    rcases d3 s hm with⟨_,e⟩|⟨k,e,_⟩
    ·exact absurd (hk.sub (s4 T hT)) (e k)
    ·omega)
 rw[e1]
 exact⟨v,f,rfl,e2,e3⟩
end
end Ab
end
section
namespace Ab
open Go
section
variable {t:b7}{all:LL}
def CycP(t:b7)(f:Li→Int)(s:Li)(op:Int):Prop:=((0≤op∧op<t.operators.length)∧oCan t s op)∧(∀y ∈ sc t s op,0≤f y)∧∃y ∈ sc t s op,f y=f s - 1
def FirstC(t:b7)(f:Li→Int)(s:Li)(b:Int):Prop:=CycP t f s b∧∀op,0≤op→op<b→¬ CycP t f s op
theorem cycChoice(ht:g9 t)(hc:ClO t all){v:Li}{f:Li→Int}(hv:Rep all v f)(hb:∀s ∈ all, -1≤f s∧f s≤100000){s:Li}(hs:s ∈ all):
  ∃b,q9 s v all t=some b∧((b= -1∧∀op,¬ CycP t f s op)∨FirstC t f s b):=by
 have hlen:=hc.len
 have hset:=hc.set hs
 obtain⟨i,hi,hvi⟩:=hv.of hs
 have hbs:=hb s hs
 unfold q9
 rw[O6 hc.ord (by omega) hi]
 simp only[oB,hvi]
 have one:∀op:Int,0≤op→op<t.operators.length→I6 s v all t (f s) op ()=some (match (if dec (CycP t f s op)=true then some op else none) with|none=>.inl ()|some o=>.inr o):=fun op o0 o1=>by
  unfold I6
  rw[ah0 ht o0 o1 hset]
  simp only[oB,w6]
  unfold I8
  by_cases cc:oCan t s op
  ·rw[ifNN cc]
   obtain⟨st,ws,q1,_,q3,_⟩:=D4 ht o0 o1 hset
   have hst:∀y,y ∈ st↔y ∈ sc t s op:=fun y=>by rw[q3,sc,List.mem_map]
   rw[q1]
   simp only[oB]
   obtain⟨⟨sure,near⟩,g1,g2,g3⟩:=s8 (body:=Q2 v all (f s) (st,ws)) (n:=(st.length:Int)) (s:=(true,false)) (fun j x=>x.1=dec (∀k y,k<j→ix st k=some y→0≤f y)∧x.2=dec (∃k y,k<j∧ix st k=some y∧f y=f s - 1)) (by omega) ⟨(j7 fun k y hk h=>by have:=(m6 h).1;omega).symm,(m9 (by rintro ⟨k,y,hk,h,_⟩;have:=(m6 h).1;omega)).symm⟩ (fun j ⟨sure,near⟩ j0 j1 ⟨a1,a2⟩=>by
    dsimp only at a1 a2
    obtain⟨y,hy,_⟩:=i6 (l:=st) j0 j1
    obtain⟨z,hz,hvz⟩:=hv.of (hc.sc hs ⟨o0,o1⟩ cc ((hst y).1 (i7 hy)))
    unfold Q2
    dsimp only
    rw[hy]
    simp only[oB,O6 hc.ord (show all.length≤500000 by omega) hz,hvz]
    rw[l9 (by omega) (by omega)]
    have e1:dec (∀k y,k<j+1→ix st k=some y→0≤f y)=(sure && decide (0≤f y)):=by
     rw[a1,F0,dec_and]
     refine v7 ⟨fun h=>⟨fun k z hk hz=>h k z (by omega) hz,h j y (by omega) hy⟩,fun⟨h1,h2⟩ k z hk hz=> ?_⟩
     by_cases e:k=j
     ·subst e;rw[hy] at hz;cases hz;exact h2
     ·exact h1 k z (by omega) hz
    have e2:dec (∃k y,k<j+1∧ix st k=some y∧f y=f s - 1)=(near||decide (f y=f s - 1)):=by
     rw[a2,F0,dec_or]
     refine v7 ⟨fun⟨k,z,hk,hz,e⟩=> ?_,?_⟩
     ·by_cases ek:k=j
      ·subst ek;rw[hy] at hz;cases hz;exact .inr e
      ·exact .inl ⟨k,z,by omega,hz,e⟩
     ·rintro (⟨k,z,hk,hz,e⟩|e)
      ·exact⟨k,z,by omega,hz,e⟩
      ·exact⟨j,y,by omega,hy,e⟩
    rw[e1,e2]
    cases sure<;>cases near<;>simp)
   rw[g1]
   simp only[oB]
   dsimp only at g2 g3
   have e:(sure && near)=dec (CycP t f s op):=by
    rw[g2,g3,dec_and]
    refine v7 ⟨fun⟨h1,k,y,_,hy,e⟩=>⟨⟨⟨o0,o1⟩,cc⟩,fun z hz=> ?_,y,(hst y).1 (i7 hy),e⟩,fun⟨_,h1,y,hy,e⟩=>⟨fun k z _ hz=>h1 z ((hst z).1 (i7 hz)),?_⟩⟩
    ·obtain⟨q,_,q1,hq⟩:=m7 ((hst z).2 hz)
     exact h1 q z q1 hq
    ·obtain⟨q,_,q1,hq⟩:=m7 ((hst y).2 hy)
     exact⟨q,y,q1,hq,e⟩
   rw[e]
   by_cases h:CycP t f s op
   ·rw[ifP h,ifP h]
   ·rw[ifN h,ifN h]
  ·rw[ifP cc,ifN (fun h=>cc h.1.2)]
 rcases y7 (body:=I6 s v all t (f s)) (n:=(t.operators.length:Int)) (fun op=>if dec (CycP t f s op)=true then some op else none) (by omega) (fun op o0 o1 _=>by
  rw[one op o0 o1]
  by_cases h:CycP t f s op
  ·rw[ifP h]
  ·rw[ifN h]) with⟨h1,h2⟩|⟨op,o,o0,o1,h2,h3,h4⟩
 ·rw[h1]
  refine⟨-1,rfl,.inl ⟨rfl,fun op h=> ?_⟩⟩
  have:=h2 op h.1.1.1 h.1.1.2
  rw[ifP h] at this;cases this
 ·rw[h4]
  split at h2
  ·rename_i e
   cases h2
   refine⟨op,rfl,.inr ⟨k8.1 e,fun q q0 q1 h=> ?_⟩⟩
   have:=h3 q q0 q1
   rw[ifP h] at this;cases this
  ·cases h2
theorem I2.bnd(hc:ClO t all){f:Li→Int}(h:I2 t all f):∀s ∈ all, -1≤f s∧f s≤100000:=fun s hs=>by
 have:=h.lt hc hs
 have:=hc.len
 rcases h.val s hs with⟨e,_⟩|⟨k,e,_⟩<;>omega
theorem I2.has(hc:ClO t all){f:Li→Int}(h:I2 t all f){s:Li}(hs:s ∈ all)(hf:0≤f s)(hg:¬ g8 t s):∃op,CycP t f s op:=by
 rcases h.val s hs with⟨e,_⟩|⟨k,e,hk⟩
 ·omega
 ·cases k with
  |zero=>exact absurd hk.1 hg
  |succ k=>
   obtain⟨_,_,op,h1,h2,h3,y,hy,h4⟩:=hk.step
   refine⟨op,⟨h1,h2⟩,fun z hz=>(h3 z hz).2,y,hy,?_⟩
   rcases h.val y (h3 y hy).1 with⟨_,q⟩|⟨m,q,hm⟩
   ·exact absurd h4.1 (q k)
   ·rw[q,hm.unique h4];omega
theorem cpolicy_spec(ht:g9 t):(A6 t=some ([],false)∧L7 t 2000=some ([],false)∧D3 t=some ([],false,⟨10, -7⟩))∨∃all v f,A6 t=some (all,true)∧L7 t 2000=some (all,true)∧ClO t all∧Rep all v f∧I2 t all f∧
  ((f t.init= -1∧D3 t=some ([],false,⟨0,0⟩))∨∃ch,ChOk t ch∧(∀s,RchC t ch s→s ∈ all∧0≤f s)∧(∀s,RchC t ch s→¬ g8 t s→FirstC t f s (ch s))∧
   ((D3 t=some ([],false,⟨10, -8⟩)∧∃l:LL,l.Nodup∧(∀s ∈ l,RchC t ch s∧¬ g8 t s)∧l.length=201)∨∃p,D3 t=some (p,true,⟨0,0⟩)∧PolB t ch p∧p.length≤200)):=by
 unfold D3
 rw[explore_ok ht]
 rcases reach_full ht with⟨all,q1,q2,q3,q4,_⟩|⟨q1,q2⟩
 ·right
  have hc:ClO t all:=⟨q3,q4⟩
  have hlen:=hc.len
  obtain⟨v,f,r1,r2,r3⟩:=au3 ht hc
  obtain⟨i,hi,hvi⟩:=r2.of q3.init
  refine⟨all,v,f,q1,q2,hc,r2,r3,?_⟩
  rw[q1]
  simp only[oB,if_true]
  rw[if_neg (by simp),r1]
  simp only[oB,O6 q4 (show all.length≤500000 by omega) hi,hvi]
  by_cases cf:f t.init<0
  ·rw[if_pos cf]
   refine .inl ⟨?_,rfl⟩
   have:=(r3.bnd hc _ q3.init).1;omega
  ·rw[if_neg cf]
   right
   have step:∀s,s ∈ all→0≤f s→¬ g8 t s→∃b,q9 s v all t=some b∧FirstC t f s b:=fun s hs hf hg=>by
    obtain⟨b,b1,b2⟩:=cycChoice ht hc r2 (r3.bnd hc) hs
    refine⟨b,b1,?_⟩
    rcases b2 with⟨_,b2⟩|b2
    ·obtain⟨op,ho⟩:=r3.has hc hs hf hg
     exact absurd ho (b2 op)
    ·exact b2
   have inv:∀s,RchC t (fun s=>(q9 s v all t).getD (-1)) s→s ∈ all∧0≤f s:=fun s hs=>by
    induction hs with
    |init=>exact⟨q3.init,by omega⟩
    |@step s y _ hg hy ih=>
     obtain⟨b,b1,b2⟩:=step s ih.1 ih.2 hg
     have e:(q9 s v all t).getD (-1)=b:=by rw[b1];rfl
     unfold nxC at hy
     dsimp only at hy
     rw[e] at hy
     exact⟨hc.sc ih.1 b2.1.1.1 b2.1.1.2 hy,b2.1.2.1 y hy⟩
   have hk:ChOk t (fun s=>(q9 s v all t).getD (-1)):=fun s hs hg=>by
    obtain⟨b,b1,b2⟩:=step s (inv s hs).1 (inv s hs).2 hg
    dsimp only
    rw[b1];exact b2.1.1
   refine⟨_,hk,inv,fun s hs hg=> ?_,?_⟩
   ·obtain⟨b,b1,b2⟩:=step s (inv s hs).1 (inv s hs).2 hg
    have e:(q9 s v all t).getD (-1)=b:=by rw[b1];rfl
    exact(show FirstC t f s ((q9 s v all t).getD (-1)) by rw[e];exact b2)
   ·obtain⟨r,p1,p2⟩:=build_prog ht hk (choose:=fun y1=>q9 y1 v all t) (fun s hs hg=>by
     obtain⟨b,b1,_⟩:=step s (inv s hs).1 (inv s hs).2 hg
     show q9 s v all t=some ((q9 s v all t).getD (-1))
     rw[b1];rfl)
    rw[p1]
    rcases p2 with⟨rfl,p2⟩|⟨p,rfl,p2⟩
    ·exact .inl ⟨rfl,p2⟩
    ·exact .inr ⟨p,rfl,p2⟩
 ·left
  rw[q1]
  exact⟨rfl,q2,rfl⟩
end
section
variable {t:b7}{p:List d8}
def RkP(t:b7)(p:List d8):Nat→Li→Prop
 |0,s=>g8 t s
 |k+1,s=>g8 t s∨(J7 p s∧∃y ∈ nxS t p s,RkP t p k y)
theorem RkP.goal{k:Nat}{s:Li}(h:g8 t s):RkP t p k s:=by
 cases k with
 |zero=>exact h
 |succ k=>exact .inl h
theorem RkP.succ:∀{k:Nat} {s:Li},RkP t p k s→RkP t p (k+1) s
 |0,s,h=>.inl h
 |k+1,s,h=>by
  rcases h with h|⟨h1,y,hy,h2⟩
  ·exact .inl h
  ·exact .inr ⟨h1,y,hy,h2.succ⟩
theorem RkP.mono{k m:Nat}{s:Li}(h:RkP t p k s)(hm:k≤m):RkP t p m s:=by
 induction hm with
 |refl=>exact h
 |step _ ih=>exact ih.succ
def HtR(t:b7)(p:List d8)(k:Nat)(s:Li):Prop:=RkP t p k s∧∀j,j<k→¬ RkP t p j s
theorem HtR.unique{k m:Nat}{s:Li}(h:HtR t p k s)(h':HtR t p m s):k=m:=by
 rcases Nat.lt_trichotomy k m with c|c|c
 ·exact absurd h.1 (h'.2 k c)
 ·exact c
 ·exact absurd h'.1 (h.2 m c)
theorem HtR.of_dn:∀{k:Nat} {s:Li},RkP t p k s→∃m,m≤k∧HtR t p m s
 |0,s,h=>⟨0,Nat.le_refl _,h,fun j hj=>by omega⟩
 |k+1,s,h=>by
  by_cases c:RkP t p k s
  ·obtain⟨m,h1,h2⟩:=HtR.of_dn c
   exact⟨m,by omega,h2⟩
  ·exact⟨k+1,Nat.le_refl _,h,fun j hj hd=>c (hd.mono (by omega))⟩
theorem HtR.chain{l:LL}(hv:Vis t p l):∀{k:Nat} {s:Li},s ∈ l→HtR t p k s→∃c:LL,c.length=k+1∧c.Nodup∧∀x ∈ c,x ∈ l∧∃j,j≤k∧HtR t p j x
 |0,s,hs,h=>⟨[s],rfl,by simp,fun x hx=>by rw[List.mem_singleton.1 hx];exact⟨hs,0,Nat.le_refl _,h⟩⟩
 |k+1,s,hs,h=>by
  have hg:¬ g8 t s:=fun g=>h.2 0 (by omega) g
  rcases h.1 with g|⟨hl,y,hy,h4⟩
  ·exact absurd g hg
  have h5:HtR t p k y:=⟨h4,fun j hj hd=>h.2 (j+1) (by omega) (.inr ⟨hl,y,hy,hd⟩)⟩
  obtain⟨c,c1,c2,c3⟩:=HtR.chain hv (hv.closed s hs hg hl y hy) h5
  refine⟨s::c,by simp[c1],List.nodup_cons.2 ⟨fun hm=> ?_,c2⟩,fun x hx=> ?_⟩
  ·obtain⟨_,j,j1,j2⟩:=c3 s hm
   have:=j2.unique h;omega
  ·rcases List.mem_cons.1 hx with rfl|hx
   ·exact⟨hs,k+1,Nat.le_refl _,h⟩
   ·obtain⟨q0,j,q1,q2⟩:=c3 x hx
    exact⟨q0,j,by omega,q2⟩
theorem HtR.lt{l:LL}(hv:Vis t p l){k:Nat}{s:Li}(hs:s ∈ l)(h:HtR t p k s):k<l.length:=by
 obtain⟨c,c1,c2,c3⟩:=h.chain hv hs
 have:=W6 c2 fun x hx=>(c3 x hx).1
 omega
structure CanOk(t:b7)(p:List d8)(l:LL)(f:Li→Int):Prop where
 b:∀s ∈ l,f s=0∨f s=1
 ok:∀s ∈ l,f s=1→∃k,RkP t p k s
theorem holds2(ht:g9 t)(hp:G3 t p){l:LL}(hv:Vis t p l){i:Int}{s:Li}(hs:ix l i=some s){c:Li}{f:Li→Int}(hr:Rep l c f)(hk:CanOk t p l f):
  (J3 t p l i c=some (.inr false)∧¬ g8 t s∧¬ J7 p s)∨∃c' f',J3 t p l i c=some (.inl c')∧Rep l c' f'∧CanOk t p l f'∧(∀z ∈ l,f z≤f' z)∧(g8 t s→f' s=1)∧(J7 p s→∀y ∈ nxS t p s,f y=1→f' s=1):=by
 have hsm:=i7 hs
 have hset:=((hv.mem s).1 hsm).set ht
 have hsl:=hset.len
 have hn:=ht.n1
 have hlen:=hv.len ht hp
 unfold J3
 rw[hs]
 simp only[oB,G0 hset.1 ht.goal.1 (show s.length≤1000000 by omega)]
 unfold Q0
 by_cases hg:g8 t s
 ·rw[ifP (p:=∀x ∈ t.goal,x ∈ s) hg,hr.get hs]
  simp only[oB]
  refine .inr ⟨_,_,rfl,hr.set hv.ord hs 1,⟨fun z hz=> ?_,fun z hz hf=> ?_⟩,fun z hz=> ?_,fun _=>M3,fun _ _ _ _=>M3⟩
  ·by_cases e:z=s
   ·subst e;exact .inr M3
   ·rw[ab1 e];exact hk.b z hz
  ·by_cases e:z=s
   ·subst e;exact⟨0,hg⟩
   ·rw[ab1 e] at hf;exact hk.ok z hz hf
  ·by_cases e:z=s
   ·subst e;rw[M3];rcases hk.b z hz with h|h<;>omega
   ·rw[ab1 e];exact Int.le_refl _
 ·rw[ifN (p:=∀x ∈ t.goal,x ∈ s) hg,(Y2 hp s).1]
  simp only[oB]
  by_cases hl:chO p s<0
  ·rw[if_pos hl]
   exact .inl ⟨rfl,hg,fun h=>by unfold J7 at h;omega⟩
  ·rw[if_neg hl]
   have hlive:J7 p s:=by unfold J7;omega
   have ho:=ak8 hp hlive
   obtain⟨st,w,r1,_,r3,_⟩:=D4 ht ho.1.1 ho.1.2 hset
   have hst:∀y,y ∈ st↔y ∈ nxS t p s:=fun y=>by rw[r3,nxS,List.mem_map]
   rw[r1]
   simp only[oB]
   obtain⟨c',g1,f',g2,g3,g4,g5,g6⟩:=s8 (body:=W3 l i (st,w)) (n:=(st.length:Int)) (s:=c) (fun j x=>∃f',Rep l x f'∧CanOk t p l f'∧(∀z ∈ l,f z≤f' z)∧(∀z ∈ l,z ≠ s→f' z=f z)∧∀k y,k<j→ix st k=some y→f y=1→f' s=1) (by omega) ⟨f,hr,hk,fun z _=>Int.le_refl _,fun z _ _=>rfl,fun k y hk2 h=>by have:=(m6 h).1;omega⟩ (fun j x j0 j1 ⟨f',q1,q2,q3,q4,q5⟩=>by
    obtain⟨y,hy,_⟩:=i6 (l:=st) j0 j1
    have hyn:=(hst y).1 (i7 hy)
    have hyl:=hv.closed s hsm hg hlive y hyn
    obtain⟨z,hz,hzv⟩:=q1.of hyl
    unfold W3
    dsimp only
    rw[hy]
    simp only[oB,q1.get hs,O6 hv.ord (show l.length≤500000 by omega) hz,hzv]
    have bs:=q2.b s hsm
    have by':=q2.b y hyl
    refine⟨_,rfl,_,q1.set hv.ord hs _,⟨fun z' hz'=> ?_,fun z' hz' hf=> ?_⟩,fun z' hz'=> ?_,fun z' hz' hne=> ?_,fun k y' hk2 hy' hf=> ?_⟩
    ·by_cases e:z'=s
     ·subst e;rw[M3];omega
     ·rw[ab1 e];exact q2.b z' hz'
    ·by_cases e:z'=s
     ·subst e
      rw[M3] at hf
      by_cases c1:f' z'=1
      ·exact q2.ok z' hz' c1
      ·obtain⟨k,hk3⟩:=q2.ok y hyl (by omega)
       exact⟨k+1,.inr ⟨hlive,y,hyn,hk3⟩⟩
     ·rw[ab1 e] at hf;exact q2.ok z' hz' hf
    ·by_cases e:z'=s
     ·subst e;rw[M3];have:=q3 z' hz';omega
     ·rw[ab1 e];exact q3 z' hz'
    ·rw[ab1 hne];exact q4 z' hz' hne
    ·rw[M3]
     by_cases e:k=j
     ·subst e
      rw[hy] at hy';cases hy'
      have:=q3 y hyl
      omega
     ·have:=q5 k y' (by omega) hy' hf
      omega)
   rw[g1]
   simp only[oB]
   refine .inr ⟨c',f',rfl,g2,g3,g4,fun h=>absurd h hg,fun _ y hy hf=> ?_⟩
   obtain⟨q,_,q1,hq⟩:=m7 ((hst y).2 hy)
   exact g6 q y q1 hq hf
def KnR(t:b7)(p:List d8)(l:LL)(r:Nat)(f:Li→Int):Prop:=∀s ∈ l,∀k,k<r→RkP t p k s→f s=1
theorem holds1(ht:g9 t)(hp:G3 t p){l:LL}(hv:Vis t p l){c:Li}{f:Li→Int}(hr:Rep l c f)(hk:CanOk t p l f){r:Nat}(hn:KnR t p l r f)(j:Int):
  (J8 t p l j c=some (.inr false)∧∃s ∈ l,¬ g8 t s∧¬ J7 p s)∨∃c' f',J8 t p l j c=some (.inl c')∧Rep l c' f'∧CanOk t p l f'∧KnR t p l (r+1) f':=by
 unfold J8
 rcases Q9 (body:=J3 t p l) (n:=(l.length:Int)) (s:=c) (fun j x=>∃f',Rep l x f'∧CanOk t p l f'∧(∀z ∈ l,f z≤f' z)∧∀i s k,i<j→ix l i=some s→k<r+1→RkP t p k s→f' s=1) (fun o=>o=false∧∃s ∈ l,¬ g8 t s∧¬ J7 p s) (by omega) ⟨f,hr,hk,fun z _=>Int.le_refl _,fun i s k hi h=>by have:=(m6 h).1;omega⟩ (fun j x j0 j1 ⟨f',q1,q2,q3,q4⟩=>by
  obtain⟨s,hs,_⟩:=i6 (l:=l) j0 j1
  have hsm:=i7 hs
  rcases holds2 ht hp hv hs q1 q2 with⟨h1,h2,h3⟩|⟨c',f'',h1,h2,h3,h4,h5,h6⟩
  ·exact .inr ⟨_,h1,rfl,s,hsm,h2,h3⟩
  ·refine .inl ⟨_,h1,f'',h2,h3,fun z hz=>Int.le_trans (q3 z hz) (h4 z hz),fun i z k hi hz hkr hkk=> ?_⟩
   by_cases e:i=j
   ·subst e
    rw[hs] at hz;cases hz
    by_cases hg:g8 t s
    ·exact h5 hg
    ·cases k with
     |zero=>exact absurd hkk hg
     |succ k=>
      rcases hkk with g|⟨hl,y,hy,hyk⟩
      ·exact absurd g hg
      ·have hyl:=hv.closed s hsm hg hl y hy
       have e1:=hn y hyl k (by omega) hyk
       have e2:=q3 y hyl
       refine h6 hl y hy ?_
       rcases q2.b y hyl with h|h<;>omega
   ·have e1:=q4 i z k (by omega) hz hkr hkk
    have e2:=h4 z (i7 hz)
    rcases h3.b z (i7 hz) with h|h<;>omega) with⟨c',e1,f',e2,e3,e4,e5⟩|⟨o,e1,rfl,e2⟩
 ·rw[e1]
  refine .inr ⟨c',f',rfl,e2,e3,fun s hs k hk2 hkk=> ?_⟩
  obtain⟨i,_,i1,hi⟩:=m7 hs
  exact e5 i s k i1 hi hk2 hkk
 ·rw[e1]
  exact .inl ⟨rfl,e2⟩
theorem holds_eq(ht:g9 t)(hp:G3 t p):X1 t p=some (dec (∀s,Rch t p s→∃k,RkP t p k s)):=by
 obtain⟨l,g1,hv⟩:=oVisited_eq ht hp
 have hlen:=hv.len ht hp
 unfold X1
 rw[g1]
 simp only[oB]
 rw[show mkL 8 (l.length:Int) (0:Int)=some (List.replicate l.length 0) by rw[mkL,if_pos (by omega)];simp]
 simp only[oB]
 rcases Q9 (body:=J8 t p l) (n:=(l.length:Int)) (s:=List.replicate l.length 0) (fun j x=>∃f,Rep l x f∧CanOk t p l f∧KnR t p l j.toNat f) (fun o=>o=false∧∃s ∈ l,¬ g8 t s∧¬ J7 p s) (by omega) ⟨_,Rep.repl 0,⟨fun s _=>.inl rfl,fun s _ h=>by cases h⟩,fun s _ k hk=>by simp at hk⟩ (fun j x j0 j1 ⟨f,q1,q2,q3⟩=>by
  rcases holds1 ht hp hv q1 q2 q3 j with⟨h1,h2⟩|⟨c',f',h1,h2,h3,h4⟩
  ·exact .inr ⟨_,h1,rfl,h2⟩
  ·exact .inl ⟨_,h1,f',h2,h3,by rwa [show(j+1).toNat=j.toNat+1 by omega]⟩) with⟨c,e1,f,e2,e3,e4⟩|⟨o,e1,rfl,s,hs,hg,hl⟩
 ·rw[e1]
  simp only[oB,contains1_eq,w6]
  congr 1
  refine v7 ⟨fun h s hs=> ?_,fun h hm=> ?_⟩
  ·have hsl:=(hv.mem s).2 hs
   obtain⟨i,hi,hci⟩:=e2.of hsl
   rcases e3.b s hsl with e|e
   ·exact absurd (by rw[e] at hci;exact i7 hci) h
   ·exact e3.ok s hsl e
  ·obtain⟨i,i0,i1,hi⟩:=m7 hm
   obtain⟨s,hs,_⟩:=i6 (l:=l) i0 (by have:=e2.len;omega)
   have hsl:=i7 hs
   obtain⟨k,hk⟩:=h s ((hv.mem s).1 hsl)
   obtain⟨m,_,hm2⟩:=HtR.of_dn hk
   have:=hm2.lt hv hsl
   have e5:=e4 s hsl m (by omega) hm2.1
   rw[e2.get hs,e5] at hi
   cases hi
 ·rw[e1,m9]
  ·rfl
  intro h
  obtain⟨k,hk⟩:=h s ((hv.mem s).1 hs)
  cases k with
  |zero=>exact hg hk
  |succ k=>
   rcases hk with h|⟨h,_⟩
   ·exact hg h
   ·exact hl h
end
end Ab
end
section
namespace Ab
open Go
/-! ### The coin -/
theorem coin_X0:efc 1 [0] ab7=[0]:=by
 refine(set01.eq_of (p:=fun p=>p ∈ ab7.add∨p ∈ [0]∧p ∉ ab7.del) fun x h0 h1=> ?_).symm
 simp[ab7]
theorem coin_Y0:efc 1 [0] ab6=[0]:=by
 refine(set01.eq_of (p:=fun p=>p ∈ ab6.add∨p ∈ [0]∧p ∉ ab6.del) fun x h0 h1=> ?_).symm
 simp[ab6]
theorem coinOo:ooAt r7 0=coinO:=rfl
theorem coin_sc0{y:Li}:y ∈ sc r7 [] 0↔y=[0]∨y=[]:=by
 unfold sc
 rw[coinOo]
 simp only[coinO,show r7.facts=1 from rfl,List.map_cons,List.map_nil,coin_X,coin_Y,List.mem_cons,List.not_mem_nil,or_false]
theorem coin_sc1{y:Li}:y ∈ sc r7 [0] 0↔y=[0]:=by
 unfold sc
 rw[coinOo]
 simp only[coinO,show r7.facts=1 from rfl,List.map_cons,List.map_nil,coin_X0,coin_Y0,List.mem_cons,List.not_mem_nil,or_false,or_self]
theorem coin_res0:∃w,o8 r7 [] 0=some ([[],[0]],w):=by
 obtain⟨st,w,r1,r2,r3,_⟩:=D4 coin_ok (op:=0) (by decide) (by decide) (s:=[]) (T9 _)
 refine⟨w,?_⟩
 rw[r1]
 have:st=[[],[0]]:=Ord.ext r2 (by simp[llt]) fun y=>by
  have h:=coin_sc0 (y:=y)
  rw[r3]
  rw[sc,List.mem_map] at h
  rw[h]
  simp only[List.mem_cons,List.not_mem_nil,or_false]
  exact Or.comm
 rw[this]
theorem coin_res1:∃w,o8 r7 [0] 0=some ([[0]],w):=by
 obtain⟨st,w,r1,r2,r3,_⟩:=D4 coin_ok (op:=0) (by decide) (by decide) (s:=[0]) set01
 refine⟨w,?_⟩
 rw[r1]
 have:st=[[0]]:=Ord.ext r2 (by simp) fun y=>by
  have h:=coin_sc1 (y:=y)
  rw[r3]
  rw[sc,List.mem_map] at h
  rw[h,List.mem_singleton]
 rw[this]
theorem coin_can{s:Li}(hs:SetN s 1):R1 r7 s 0=some true:=by
 rw[ah0 coin_ok (by decide) (by decide) hs,j7]
 intro x hx
 cases hx
theorem two_rng{S O:Type}{body:Int→S→Option (S⊕O)}{s s':S}{x:S⊕O}(h:body 0 s=some (.inl s'))(h':body 1 s'=some x):rngX 0 2 body s=some x:=by
 unfold rngX
 rw[show((2:Int) - 0).toNat=2 from rfl]
 simp only[rngN,h,show(0:Int)+1=1 from rfl,h']
 cases x<;>rfl
abbrev coinM:List (ByteArray×Int):=mset (mset ([]:List (ByteArray×Int)) (keyK [[]]) 1) (keyK [[0]]) 1
theorem coin_reach:A6 r7=some ([[],[0]],true):=by
 have h0:SetN [] 1:=T9 _
 have k0:=ak9 (s:=[]) (h0.small (by decide)) (by decide)
 have k1:=ak9 (s:=[0]) (set01.small (by decide)) (by decide)
 have hk:keyK [[0]] ≠ keyK [[]]:=fun e=>by have:=SetN.key_inj (by decide) set01 h0 e;cases this
 obtain⟨w0,r0⟩:=coin_res0
 obtain⟨w1,r1⟩:=coin_res1
 have s1:y9 r7 ([[]],mset ([]:List (ByteArray×Int)) (keyK [[]]) 1,0)=some (.inl ([[],[0]],coinM,1)):=by
  unfold y9
  dsimp only
  rw[if_pos (by decide)]
  rw[show(r7.operators.length:Int)=1 from rfl,one_rng (x:=.inl ([[],[0]],coinM))]
  ·rfl
  ·unfold B3
   dsimp only
   rw[show ix [([]:Li)] 0=some [] from rfl]
   simp only[oB,coin_can h0,r0,Bool.not_true,Bool.false_eq_true,if_false]
   rw[show((([[],[0]]:LL).length:Nat):Int)=2 from rfl,two_rng (s':=([[]],mset ([]:List (ByteArray×Int)) (keyK [[]]) 1)) (x:=.inl ([[],[0]],coinM))]
   ·rfl
   ·unfold z2
    dsimp only
    rw[show ix [([]:Li),[0]] 0=some [] from rfl]
    simp only[oB,k0]
    rw[X5,if_pos rfl]
    simp[J9]
   ·unfold z2
    dsimp only
    rw[show ix [([]:Li),[0]] 1=some [0] from rfl]
    simp only[oB,k1]
    rw[X5,if_neg hk]
    simp[mget,app,J9]
 have s2:y9 r7 ([[],[0]],coinM,1)=some (.inl ([[],[0]],coinM,2)):=by
  unfold y9
  dsimp only
  rw[if_pos (by decide)]
  rw[show(r7.operators.length:Int)=1 from rfl,one_rng (x:=.inl ([[],[0]],coinM))]
  ·rfl
  ·unfold B3
   dsimp only
   rw[show ix [([]:Li),[0]] 1=some [0] from rfl]
   simp only[oB,coin_can set01,r1,Bool.not_true,Bool.false_eq_true,if_false]
   rw[show((([[0]]:LL).length:Nat):Int)=1 from rfl,one_rng (x:=.inl ([[],[0]],coinM))]
   ·rfl
   ·unfold z2
    dsimp only
    rw[show ix [([0]:Li)] 0=some [0] from rfl]
    simp only[oB,k1]
    rw[X5,if_pos rfl]
    simp[J9]
 have s3:y9 r7 ([[],[0]],coinM,2)=some (.inr (.inl [[],[0]])):=by
  unfold y9
  dsimp only
  rw[if_neg (by decide)]
 unfold A6
 rw[show r7.init=[] from rfl,ag0 (by decide)]
 simp only[oB,k0]
 rw[Y8,s1]
 dsimp only
 rw[Y8,s2]
 dsimp only
 rw[Y8,s3]
 simp only[oB]
 obtain⟨r,n1,n2,n3,_⟩:=ai2 (l:=[[],[0]]) (by decide)
 rw[n1,show r=[[],[0]] from Ord.ext n2 (by simp[llt]) n3]
 rfl
theorem coin_g1:g8 r7 [0]:=fun x hx=>hx
theorem coin_g0:¬ g8 r7 []:=fun h=>by have:=h 0 (by simp[r7]);cases this
theorem coin_polB{ch:Li→Int}(hk:ChOk r7 ch)(ha:∀s,RchC r7 ch s→s ∈ ([[],[0]]:LL)){p:List d8}(hp:PolB r7 ch p):p=[⟨[],0⟩]:=by
 have h0:=(hk [] .init coin_g0).1
 have e0:ch []=0:=by
  have:(r7.operators.length:Int)=1:=rfl
  omega
 refine hp.unique ⟨by simp,fun s=>⟨?_,fun⟨hr,hg⟩=> ?_⟩,fun c hc=> ?_⟩
 ·rintro ⟨c,hc,rfl⟩
  rw[List.mem_singleton.1 hc]
  exact⟨.init,coin_g0⟩
 ·rcases List.mem_cons.1 (ha s hr) with rfl|h
  ·exact⟨_,List.mem_singleton.2 rfl,rfl⟩
  ·rw[List.mem_singleton.1 h] at hg
   exact absurd coin_g1 hg
 ·rw[List.mem_singleton.1 hc]
  exact e0.symm
theorem rch_all{t:b7}{p:List d8}(hp:G3 t p){all:LL}(hc:ClO t all){s:Li}(h:Rch t p s):s ∈ all:=by
 induction h with
 |init=>exact hc.cl.init
 |@step s y _ hg hl hy ih=>
  have:=ak8 hp hl
  exact hc.sc ih this.1 this.2 hy
theorem rk_ds{t:b7}{p:List d8}(hp:G3 t p):∀(k:Nat) (s:Li),Rch t p s→RkP t p k s→DsC t (Rch t p) k s
 |0,s,_,h=>h
 |k+1,s,hr,h=>by
  by_cases hg:g8 t s
  ·exact .goal hg
  ·rcases h with h|⟨hl,y,hy,h2⟩
   ·exact absurd h hg
   ·have:=ak8 hp hl
    exact .inr ⟨hr,chO p s,this.1,this.2,fun z hz=>.step hr hg hl hz,y,hy,rk_ds hp k y (.step hr hg hl hy) h2⟩
end Ab
end
section
namespace Ab
open Go
def MN(g:Li→Int)(l:LL)(m:Int):Prop:=m≤1000000000∧(∀y ∈ l,m≤g y)∧(m=1000000000∨∃y ∈ l,g y=m)
theorem MN.congr{g g':Li→Int}{l:LL}{m:Int}(h:MN g l m)(e:∀y ∈ l,g y=g' y):MN g' l m:=by
 refine⟨h.1,fun y hy=>by rw[← e y hy];exact h.2.1 y hy,?_⟩
 rcases h.2.2 with h|⟨y,hy,e1⟩
 ·exact .inl h
 ·exact .inr ⟨y,hy,by rw[← e y hy];exact e1⟩
section
variable {t:b7}{p:List d8}
structure LowR(t:b7)(p:List d8)(l:LL)(g:Li→Int):Prop where
 b:∀s ∈ l,0≤g s∧g s≤1000000000
 dn:∀s ∈ l,g s<1000000000→RkP t p (g s).toNat s
 goal:∀s ∈ l,g8 t s→g s=0
end
end Ab
end
section
namespace Ab
open Go
section
def delB(f:Li→Option Bool):((LL)×Int×Int)→Option (((LL)×Int×Int)⊕((LL)×Int)):=fun(c,i,j)=>if j<(c.length:Int) then Option.bind (Option.bind (ix c j) fun a=>Option.bind (f a) fun b=>if(!b)=true then Option.bind (ix c i) fun _=>some (c.set i.toNat a,w64 (i+1)) else some (c,i)) fun⟨c',i'⟩=>some (.inl (c',i',w64 (j+1))) else some (.inr (c,i))
noncomputable def delA(f:Li→Option Bool)(l:LL):Option (LL):=Option.bind (u4 l f) fun a10=>if a10=(-1) then some l else Option.bind (Loop (delB f) (l,a10,w64 (a10+1))) fun⟨c61,iv62⟩=>Option.bind (cutV (c61.length:Int) iv62 (c61.length:Int)) fun u38=>Option.bind (cutV ((clrL c61 (0+iv62) ((c61.length:Int) - iv62) []).length:Int) 0 iv62) fun u41=>some (u5 (clrL c61 (0+iv62) ((c61.length:Int) - iv62) []) 0 iv62)
theorem take_filter{p:Li→Bool}{l:LL}{j:Nat}(h:j<l.length):(l.take (j+1)).filter p=if p l[j] then(l.take j).filter p++[l[j]] else(l.take j).filter p:=by
 rw[List.take_succ_eq_append_getElem h,List.filter_append]
 by_cases e:p l[j]=true
 ·rw[if_pos e];simp[e]
 ·rw[if_neg e];simp[e]
theorem del_eq{g:Li→Prop}{l:LL}(hl:l.length≤1000000){f:Li→Option Bool}(hf:∀a ∈ l,f a=some (dec (g a))):delA f l=some (l.filter fun a=> !dec (g a)):=by
 generalize hp:(fun a=> !dec (g a))=p
 have hpa:∀a,p a= !dec (g a):=fun a=>by rw[← hp]
 unfold delA u4
 rcases y7 (body:=r9 l f) (n:=(l.length:Int)) (fun j=>if dec (∃x,ix l j=some x∧g x)=true then some j else none) (by omega) (fun j h0 h1 _=>by
  obtain⟨x,hx,_⟩:=i6 (l:=l) h0 h1
  unfold r9
  rw[hx]
  simp only[oB,hf x (i7 hx)]
  by_cases e:g x
  ·rw[ifP e,ifP ⟨x,rfl,e⟩]
  ·rw[ifN e,ifN (by rintro ⟨y,hy,q⟩;cases hy;exact e q)]) with⟨h1,h2⟩|⟨j,o,h0,h1,h2,h3,h4⟩
 ·rw[h1]
  simp only[oB,if_true]
  congr 1
  refine(List.filter_eq_self.2 fun a ha=> ?_).symm
  rw[hpa,m9]
  ·rfl
  ·intro q
   obtain⟨i,i0,i1,hi⟩:=m7 ha
   have:=h2 i i0 i1
   rw[ifP ⟨a,hi,q⟩] at this
   cases this
 ·rw[h4]
  split at h2
  ·rename_i e
   cases h2
   simp only[oB]
   rw[if_neg (by omega)]
   obtain⟨J,rfl⟩:=Int.eq_ofNat_of_zero_le h0
   have hJ:J<l.length:=by omega
   obtain⟨x,hx,hgx⟩:=k8.1 e
   have hF:(l.take J).filter p=l.take J:=List.filter_eq_self.2 fun a ha=>by
    rw[hpa,m9]
    ·rfl
    ·intro q
     obtain⟨k,hk,rfl⟩:=List.getElem_of_mem ha
     rw[List.length_take] at hk
     have hk':k<l.length:=by omega
     rw[List.getElem_take] at q
     have:=h3 k (by omega) (by omega)
     rw[ifP ⟨l[k],by rw[o7];exact List.getElem?_eq_getElem hk',q⟩] at this
     cases this
   have hF1:(l.take (J+1)).filter p=l.take J:=by
    rw[take_filter hJ,if_neg,hF]
    rw[o7,List.getElem?_eq_getElem hJ] at hx
    rw[hpa,Option.some.inj hx,j7 hgx];simp
   rw[show w64 ((J:Int)+1)=((J+1:Nat):Int) by rw[l9 (by omega) (by omega)];omega]
   obtain⟨⟨c,i⟩,k1,k2⟩:=F1 (body:=delB f) (fun q=>∃i j:Nat,q.2=((i:Int),(j:Int))∧i<j∧j≤l.length∧q.1.length=l.length∧((l.take j).filter p).length=i∧(∀k,k<i→q.1[k]? =((l.take j).filter p)[k]?)∧∀k,j≤k→q.1[k]? =l[k]?)
    (fun r=>r.1.length=l.length∧(r.2=((l.filter p).length:Int))∧(l.filter p).length≤l.length∧∀k,k<(l.filter p).length→r.1[k]? =(l.filter p)[k]?) (fun q=>((l.length:Int) - q.2.2).toNat) (s:=(l,(J:Int),((J+1:Nat):Int)))
    ⟨J,J+1,rfl,by omega,by omega,rfl,by rw[hF1,List.length_take];omega,fun k hk=>by rw[hF1,List.getElem?_take,if_pos hk],fun k _=>rfl⟩ (fun⟨c,q⟩ ⟨i,j,e0,e1,e2,e3,e4,e5,e6⟩=>by
    dsimp only at e0 e3 e5 e6
    subst e0
    unfold delB
    dsimp only
    by_cases cj:(j:Int)<c.length
    ·rw[if_pos cj]
     have hj:j<l.length:=by omega
     have hcj:ix c (j:Int)=some l[j]:=by rw[o7,e6 j (Nat.le_refl _)];exact List.getElem?_eq_getElem hj
     have hci:ix c (i:Int)=some c[i]:=by rw[o7];exact List.getElem?_eq_getElem (by omega)
     have wj:w64 ((j:Int)+1)=((j+1:Nat):Int):=by rw[l9 (by omega) (by omega)];omega
     have wi:w64 ((i:Int)+1)=((i+1:Nat):Int):=by rw[l9 (by omega) (by omega)];omega
     simp only[hcj,oB,hf _ (List.getElem_mem hj),w6]
     have tf:=take_filter (p:=p) hj
     by_cases cg:g l[j]
     ·rw[ifNN cg]
      simp only[oB,wj]
      rw[hpa,j7 cg,if_neg (by simp)] at tf
      refine .inl ⟨_,rfl,⟨i,j+1,rfl,by omega,by omega,e3,by rw[tf];exact e4,fun k hk=>by rw[tf];exact e5 k hk,fun k hk=>e6 k (by omega)⟩,by dsimp only;omega⟩
     ·rw[ifP cg]
      simp only[hci,oB,wi,wj,Int.toNat_natCast]
      rw[hpa,m9 cg,if_pos (by simp)] at tf
      refine .inl ⟨_,rfl,⟨i+1,j+1,rfl,by omega,by omega,by rw[lS];exact e3,by rw[tf,List.length_append,List.length_singleton,e4],fun k hk=> ?_,fun k hk=> ?_⟩,by dsimp only;omega⟩
      ·dsimp only
       rw[tf,List.getElem?_set]
       by_cases ek:i=k
       ·subst ek;rw[if_pos rfl,if_pos (by omega),List.getElem?_append_right (by omega),e4,Nat.sub_self];rfl
       ·rw[if_neg ek,List.getElem?_append_left (by omega)];exact e5 k (by omega)
      ·dsimp only
       rw[List.getElem?_set,if_neg (by omega)];exact e6 k (by omega)
    ·rw[if_neg cj]
     have ej:j=l.length:=by omega
     rw[ej,List.take_length] at e4 e5
     exact .inr ⟨_,rfl,e3,by dsimp only;omega,by omega,fun k hk=>e5 k (by omega)⟩)
   obtain⟨k2,k3,k4,k5⟩:=k2
   dsimp only at k2 k3 k4 k5
   subst k3
   rw[k1]
   simp only[oB]
   generalize hFl:l.filter p=F at *
   have hlen:(clrL c (0+(F.length:Int)) ((c.length:Int) - F.length) []).length=c.length:=by
    unfold clrL
    simp only[List.length_append,List.length_take,List.length_replicate,List.length_drop]
    omega
   rw[show cutV (c.length:Int) (F.length:Int) (c.length:Int)=some () by unfold cutV;rw[if_pos (by omega)],hlen,show cutV (c.length:Int) 0 (F.length:Int)=some () by unfold cutV;rw[if_pos (by omega)]]
   simp only[oB]
   congr 1
   unfold u5 clrL
   rw[show(0+(F.length:Int)).toNat=F.length by omega,Int.toNat_natCast,Int.toNat_zero,List.drop_zero]
   apply List.ext_getElem?
   intro k
   rw[List.getElem?_take]
   by_cases ek:k<F.length
   ·rw[if_pos ek,List.append_assoc,List.getElem?_append_left (by rw[List.length_take];omega),List.getElem?_take,if_pos ek,k5 k ek]
   ·rw[if_neg ek,List.getElem?_eq_none (by omega)]
  ·cases h2
end
noncomputable def pnd(t:b7)(l:LL):LL:=l.filter fun a=> !dec (g8 t a)
theorem af9{t:b7}{l:LL}{s:Li}:s ∈ pnd t l↔s ∈ l∧¬ g8 t s:=by
 unfold pnd
 rw[List.mem_filter]
 by_cases c:g8 t s
 ·rw[j7 c];simp[c]
 ·rw[m9 c];simp[c]
theorem Ord.pnd{t:b7}{l:LL}(h:Ord l):Ord (pnd t l):=List.Pairwise.filter _ h
theorem ar7{t:b7}(ht:g9 t){l:LL}(hl:l.length≤1000000)(hs:∀s ∈ l,SetN s t.facts):F3 t l=some (pnd t l):=by
 have h:F3 t l=(delA (fun y=>I1 y t) l).bind fun a=>some a:=rfl
 rw[h,del_eq (g:=g8 t) hl fun a ha=>by
  have hset:=hs a ha
  unfold I1
  rw[G0 hset.1 ht.goal.1 (by have:=hset.len;have:=ht.n1;omega)]
  rfl]
 rfl
end Ab
end
section
namespace Ab
open Go
section
variable {t:b7}{S:LL}{op:Nat→Int}{st:Nat→LL}{w:Nat→Li}
theorem sys_of(ht:g9 t)(ord:Ord S)(n5:S.length≤5)(set:∀s ∈ S,SetN s t.facts)(ng:∀s ∈ S,¬ g8 t s)(rng:∀i,i<S.length→0≤op i∧op i<t.operators.length)
  (cl:∀i s,S[i]? =some s→∀y ∈ sc t s (op i),g8 t y∨y ∈ S):∃st w,Sys t S op st w:=by
 have h:∀i:Nat,∃q:LL×Li,∀s,S[i]? =some s→Wok t s (op i) q.1 q.2:=fun i=>by
  by_cases hi:i<S.length
  ·obtain⟨a,b,h⟩:=results_ok ht (rng i hi).1 (rng i hi).2 (set S[i] (List.getElem_mem hi))
   exact⟨(a,b),fun s hs=>by rw[List.getElem?_eq_getElem hi] at hs;cases hs;exact h⟩
  ·exact⟨([],[]),fun s hs=>by rw[List.getElem?_eq_none (by omega)] at hs;cases hs⟩
 have hq:∀i s,S[i]? =some s→Wok t s (op i) (Classical.choose (h i)).1 (Classical.choose (h i)).2:=fun i=>Classical.choose_spec (h i)
 refine⟨fun i=>(Classical.choose (h i)).1,fun i=>(Classical.choose (h i)).2,ord,n5,set,ng,rng,hq,fun i hi y hy=> ?_⟩
 have hs:S[i]? =some S[i]:=List.getElem?_eq_getElem hi
 obtain⟨x,hx,e⟩:=((hq i _ hs).mem y).1 hy
 exact cl i _ hs y (List.mem_map.2 ⟨x,hx,e⟩)
structure Sol(t:b7)(S:LL)(op:Nat→Int)(st:Nat→LL)(w:Nat→Li)(sg:Int)(num:Nat→Nat)(den:Nat):Prop where
 s1:sg=1∨sg= -1
 d0:0<den
 d1:den≤254803968
 n1:∀i,i<S.length→num i≤63700992000
 dd:det S.length (eqN t S op st w)=sg * den
 nn:∀l,l<S.length→det S.length (rep (eqN t S op st w) l fun r=>eqN t S op st w r S.length)=sg * num l
 vf:Vf S.length (WF st w) (wG S st w) (cF t op) (fun i=>(num i:Int)) den
theorem solved(ht:g9 t)(h:Sys t S op st w)(hp:∀i,i<S.length→Px S.length (WF st w) (wG S st w) i){choose:Li→Option Int}(hch:∀i s,S[i]? =some s→choose s=some (op i)):
  ∃sg num den L N,Sol t S op st w sg num den∧forR 0 (S.length:Int) (B6 t S choose) []=some L∧x5 S L=some (N,sg * (den:Int))∧N.length=S.length∧∀i:Nat,i<S.length→ix N (i:Int)=some (sg * (num i:Int)):=by
 obtain⟨L,N,k1,k2,k3,k4,k5,k6⟩:=value_ok ht h hp hch
 have hM:=sys_ms ht h
 have hR:=sys_rb ht h
 have hn5:=h.n5
 generalize hD:det S.length (eqN t S op st w)=D at *
 have hD1:=det_top hR (Nat.le_refl _)
 rw[hD] at hD1
 have hD2:ab D≤254803968:=by
  refine Int.le_trans hD1 ?_
  have:∀n,n≤5→(48:Int) ^ n≤254803968:=by decide
  exact this _ hn5
 have hW:∀l,l<S.length→wtj N l=det S.length (rep (eqN t S op st w) l fun r=>eqN t S op st w r S.length):=fun l hl=>by unfold wtj;rw[k5 l hl];rfl
 have hN:∀l,l<S.length→ab (wtj N l)≤63700992000:=fun l hl=>by
  rw[hW l hl]
  obtain⟨m,hm⟩:∃m,S.length=m+1:=⟨S.length - 1,by omega⟩
  have:=hR.rep2 (c:=m) (i:=l) (by omega) (by omega)
  rw[hm] at this ⊢
  refine Int.le_trans this ?_
  have:∀n:Nat,n≤4→((n:Int)+1) * 2400 * 48 ^ n≤63700992000:=by decide
  exact this m (by omega)
 obtain⟨sg,den,e1,e2,e3⟩:∃(sg:Int) (den:Nat),(sg=1∨sg= -1)∧D=sg * (den:Int)∧0<den:=by
  by_cases c:0<D
  ·obtain⟨d,rfl⟩:=Int.eq_ofNat_of_zero_le (Int.le_of_lt c)
   exact⟨1,d,.inl rfl,by omega,by omega⟩
  ·obtain⟨d,hd⟩:=Int.eq_ofNat_of_zero_le (show 0≤ -D by omega)
   exact⟨-1,d,.inr rfl,by omega,by omega⟩
 have pos:∀l,l<S.length→0≤sg * wtj N l:=pos0 hM (b:=fun _=>0) hp (y:=fun k=>sg * wtj N k) fun r hr=>by
  have hx:smN S.length (fun k=>eqM S.length (WF st w) (wG S st w) (fun _=>0) r k * (sg * wtj N k))=sg * smN S.length (fun k=>eqN t S op st w r k * wtj N k):=by
   rw[← y5]
   exact l8 fun k hk=>by
    have:eqM S.length (WF st w) (wG S st w) (fun _=>0) r k=eqN t S op st w r k:=by
     unfold eqN eqM;rw[if_neg (show ¬ k=S.length by omega),if_neg (show ¬ k=S.length by omega)]
    rw[this];grind
  rw[hx,k6 r hr,e2]
  have hc:=(ht.at (h.rng r hr).1 (h.rng r hr).2).c0
  have h3:=hM.pos r hr
  have:0≤WF st w r * cF t op r:=Int.mul_nonneg (by omega) hc
  have e:sg * (sg * (den:Int) * (WF st w r * cF t op r))=(den:Int) * (WF st w r * cF t op r):=by
   rcases e1 with rfl|rfl<;>grind
  rw[e]
  exact Int.mul_nonneg (by omega) this
 have num:∀l,((sg * wtj N l).toNat:Int)=if l<S.length then sg * wtj N l else((sg * wtj N l).toNat:Int):=fun l=>by
  split
  ·rename_i hl;have:=pos l hl;omega
  ·rfl
 have hnum:∀l,l<S.length→((sg * wtj N l).toNat:Int)=sg * wtj N l:=fun l hl=>by have:=num l;rw[if_pos hl] at this;exact this
 have hback:∀l,l<S.length→wtj N l=sg * ((sg * wtj N l).toNat:Int):=fun l hl=>by
  rw[hnum l hl];rcases e1 with rfl|rfl<;>omega
 refine⟨sg,fun l=>(sg * wtj N l).toNat,den,L,N,⟨e1,e3,?_,fun i hi=> ?_,by rw[hD];exact e2,fun l hl=> ?_,?_,fun i hi=> ?_⟩,k1,by rw[k2,e2],k3,fun i hi=> ?_⟩
 ·have:=ab_le hD2
  rcases e1 with rfl|rfl<;>omega
 ·have h1:=ab_le (hN i hi)
  have h2:=hnum i hi
  rcases e1 with rfl|rfl<;>omega
 ·rw[← hW l hl];exact hback l hl
 ·omega
 ·have h1:=k6 i hi
  rw[al1 (Nat.le_refl _) hi,e2] at h1
  unfold Qv
  have h2:smN S.length (fun k=>wG S st w i k * ((sg * wtj N k).toNat:Int))=sg * smN S.length (fun k=>wG S st w i k * wtj N k):=by
   rw[← y5]
   exact l8 fun k hk=>by rw[hnum k hk];grind
  rw[h2,hnum i hi]
  generalize smN S.length (fun k=>wG S st w i k * wtj N k)=A at *
  rcases e1 with rfl|rfl<;>grind
 ·rw[af8 (by omega),← hback i hi]
theorem report_eq{sg:Int}(hsg:sg=1∨sg= -1){a b:Nat}(ha:a≤4000000000000000000)(hb:b≤4000000000000000000)(hb0:0<b):
  O4 (sg * (a:Int)) (sg * (b:Int))=some (if(frN a b).num≤1000000000∧(frN a b).den≤1000000000 then(frN a b,⟨0,0⟩) else(⟨0,0⟩,⟨10, -2⟩)):=by
 have e:D6 (sg * (a:Int)) (sg * (b:Int))=D6 (a:Int) (b:Int):=by
  rcases hsg with rfl|rfl
  ·rw[Int.one_mul,Int.one_mul]
  ·rw[show -1 * (a:Int)= -(a:Int) by omega,show -1 * (b:Int)= -(b:Int) by omega,lowest_neg ha hb hb0]
 unfold O4
 rw[e,lowest_pos ha hb hb0]
 simp only[oB]
 by_cases c:(frN a b).num≤1000000000∧(frN a b).den≤1000000000
 ·rw[j7 c,if_pos c];rfl
 ·rw[m9 c,if_neg c];rfl
end
section
variable {t:b7}{p:List d8}
theorem pol_sys(ht:g9 t)(hp:G3 t p)(hk:∀s,Rch t p s→∃k,RkP t p k s){l:LL}(hv:Vis t p l)(h5:(pnd t l).length≤5):
  ∃st w,Sys t (pnd t l) (fun i=>chO p (((pnd t l)[i]?).getD [])) st w∧∀i,i<(pnd t l).length→Wy t (pnd t l) st i:=by
 have mem:∀s,s ∈ pnd t l→Rch t p s∧¬ g8 t s∧J7 p s:=fun s hs=>by
  obtain⟨h1,h2⟩:=af9.1 hs
  have h3:=(hv.mem s).1 h1
  obtain⟨k,hk⟩:=hk s h3
  refine⟨h3,h2,?_⟩
  cases k with
  |zero=>exact absurd hk h2
  |succ k=>exact(hk.resolve_left h2).1
 have hop:∀(i:Nat) s,(pnd t l)[i]? =some s→chO p (((pnd t l)[i]?).getD [])=chO p s:=fun i s hs=>by rw[hs];rfl
 obtain⟨st,w,h⟩:=sys_of (op:=fun i=>chO p (((pnd t l)[i]?).getD [])) ht hv.ord.pnd h5 (fun s hs=>(mem s hs).1.set ht) (fun s hs=>(mem s hs).2.1) (fun i hi=>by
  have hs:=List.getElem?_eq_getElem hi
  rw[hop i _ hs]
  exact(ak8 hp (mem _ (List.getElem_mem hi)).2.2).1) (fun i s hs y hy=>by
  rw[hop i s hs] at hy
  obtain⟨m1,m2,m3⟩:=mem s (List.mem_of_getElem? hs)
  by_cases g:g8 t y
  ·exact .inl g
  ·exact .inr (af9.2 ⟨(hv.mem y).2 (.step m1 m2 m3 hy),g⟩))
 refine⟨st,w,h,?_⟩
 have key:∀(k:Nat) (i:Nat) (s:Li),(pnd t l)[i]? =some s→RkP t p k s→Wy t (pnd t l) st i:=fun k=>by
  induction k with
  |zero=>exact fun i s hs hk=>absurd hk (h.ng s (List.mem_of_getElem? hs))
  |succ k ih=>
   intro i s hs hk
   obtain⟨hi,_⟩:=lG.1 hs
   obtain⟨m1,m2,m3⟩:=mem s (List.mem_of_getElem? hs)
   obtain⟨_,y,hy,hk'⟩:=hk.resolve_left m2
   have hys:y ∈ st i:=((h.res i s hs).mem y).2 (by
    rw[hop i s hs]
    obtain⟨x,hx,e⟩:=List.mem_map.1 hy
    exact⟨x,hx,e⟩)
   by_cases g:g8 t y
   ·exact .exit hi hys g
   ·obtain⟨j,hj,e⟩:=List.getElem_of_mem (af9.2 ⟨(hv.mem y).2 (.step m1 m2 m3 hy),g⟩:y ∈ pnd t l)
    have hj':(pnd t l)[j]? =some y:=by rw[List.getElem?_eq_getElem hj,e]
    exact .step hi hj' hys (ih j y hj' hk')
 intro i hi
 have hs:=List.getElem?_eq_getElem hi
 obtain⟨k,hk⟩:=hk _ (mem _ (List.getElem_mem hi)).1
 exact key k i _ hs hk
theorem value_spec(t:b7)(p:List d8):∃f,E5 t p=some f∧
  ((f.code ≠ 0∧¬ (g9 t∧G3 t p)∧u9 t p=some (⟨0,0⟩,f))∨(f=⟨0,0⟩∧g9 t∧G3 t p∧
   (((¬ ∀s,Rch t p s→∃k,RkP t p k s)∧u9 t p=some (⟨0,0⟩,⟨15, -1⟩))∨((∀s,Rch t p s→∃k,RkP t p k s)∧∃l,Vis t p l∧
    ((5<(pnd t l).length∧u9 t p=some (⟨0,0⟩,⟨10, -7⟩))∨((pnd t l).length≤5∧((g8 t t.init∧u9 t p=some (⟨0,1⟩,⟨0,0⟩))∨(¬ g8 t t.init∧
     ∃st w sg num den,Sys t (pnd t l) (fun i=>chO p (((pnd t l)[i]?).getD [])) st w∧(∀i,i<(pnd t l).length→Wy t (pnd t l) st i)∧Sol t (pnd t l) (fun i=>chO p (((pnd t l)[i]?).getD [])) st w sg num den∧∃i0,(pnd t l)[i0]? =some t.init∧
      u9 t p=some (if(frN (num i0) den).num≤1000000000∧(frN (num i0) den).den≤1000000000 then(frN (num i0) den,⟨0,0⟩) else(⟨0,0⟩,⟨10, -2⟩)))))))))):=by
 obtain⟨f,e1,_,e3⟩:=policy_eq t p
 refine⟨f,e1,?_⟩
 rcases e3 with⟨rfl,ht,hp⟩|⟨hc,hno⟩
 ·refine .inr ⟨rfl,ht,hp,?_⟩
  have hn:=ht.n1
  unfold u9
  rw[e1,Option.bind_some,if_neg (by simp),holds_eq ht hp,Option.bind_some,w6]
  by_cases hk:∀s,Rch t p s→∃k,RkP t p k s
  ·rw[ifNN hk]
   refine .inr ⟨hk,?_⟩
   obtain⟨l,q1,q2⟩:=oVisited_eq ht hp
   refine⟨l,q2,?_⟩
   have hlen:=q2.len ht hp
   have hset:∀s ∈ l,SetN s t.facts:=fun s hs=>((q2.mem s).1 hs).set ht
   rw[q1,Option.bind_some,ar7 ht (by omega) hset,Option.bind_some]
   by_cases c5:5<((pnd t l).length:Int)
   ·rw[if_pos c5]
    exact .inl ⟨by omega,rfl⟩
   ·rw[if_neg c5]
    refine .inr ⟨by omega,?_⟩
    rw[show k9 t.init t.goal=some (dec (g8 t t.init)) from G0 ht.init.1 ht.goal.1 (by have:=ht.init.len;omega)]
    simp only[oB]
    by_cases cg:g8 t t.init
    ·rw[ifP cg]
     exact .inl ⟨cg,rfl⟩
    ·rw[ifN cg]
     refine .inr ⟨cg,?_⟩
     obtain⟨st,w,h,hw⟩:=pol_sys ht hp hk q2 (by omega)
     have hmi:t.init ∈ pnd t l:=af9.2 ⟨(q2.mem _).2 .init,cg⟩
     obtain⟨i0,hi0,ei⟩:=List.getElem_of_mem hmi
     have hi:(pnd t l)[i0]? =some t.init:=by rw[List.getElem?_eq_getElem hi0,ei]
     obtain⟨sg,num,den,L,N,s1,s2,s3,s4,s5⟩:=solved ht h (fun i hi=>(hw i hi).px h) (choose:=fun s=>L3 s p) (fun i s hs=>by
      unfold L3
      rw[(Y2 hp s).1,hs];rfl)
     refine⟨st,w,sg,num,den,h,hw,s1,i0,hi,?_⟩
     have he:H1 t (pnd t l) p=some L:=by
      have:H1 t (pnd t l) p=(forR 0 ((pnd t l).length:Int) (B6 t (pnd t l) fun s=>L3 s p) []).bind fun a=>some a:=rfl
      rw[this,s2];rfl
     rw[he]
     simp only[oB,s3,O6 h.ord (show(pnd t l).length≤500000 by omega) (show ix (pnd t l) (i0:Int)=some t.init by rw[o7,hi]),s5 i0 hi0]
     have hb1:=s1.n1 i0 hi0
     have hb2:=s1.d1
     rw[report_eq s1.s1 (by omega) (by omega) s1.d0]
     rfl
  ·rw[ifP hk]
   exact .inl ⟨hk,rfl⟩
 ·refine .inl ⟨hc,hno,?_⟩
  unfold u9
  rw[e1,Option.bind_some,if_pos (by simp[hc])]
end
end Ab
end
section
namespace Ab
open Go
noncomputable def rsO(t:b7)(s:Li)(op:Int):LL×Li:=(o8 t s op).getD ([],[])
theorem Wok.rs{t:b7}{s:Li}{op:Int}{st:LL}{w:Li}(h:Wok t s op st w):(rsO t s op).1=st∧(rsO t s op).2=w:=by unfold rsO;rw[h.eq];exact⟨rfl,rfl⟩
theorem rsO_ok{t:b7}(ht:g9 t){op:Int}(h0:0≤op∧op<t.operators.length){s:Li}(hs:SetN s t.facts):Wok t s op (rsO t s op).1 (rsO t s op).2:=by
 obtain⟨st,w,h⟩:=results_ok ht h0.1 h0.2 hs
 rw[h.rs.1,h.rs.2];exact h
noncomputable def vG(t:b7)(v:Li→Int)(y:Li):Int:=if dec (g8 t y)=true then 0 else v y
noncomputable def WS(t:b7)(s:Li)(op:Int):Int:=smN (rsO t s op).1.length (wtj (rsO t s op).2)
noncomputable def CS(t:b7)(v:Li→Int)(s:Li)(op:Int):Int:=smN (rsO t s op).1.length fun j=>wtj (rsO t s op).2 j * vG t v (((rsO t s op).1[j]?).getD [])
noncomputable def QS(t:b7)(v:Li→Int)(den:Int)(s:Li)(op:Int):Int:=CS t v s op+WS t s op * (ooAt t op).cost * den
structure StS(t:b7)(S:LL):Prop where
 ord:Ord S
 n5:S.length≤5
 set:∀s ∈ S,SetN s t.facts
 ng:∀s ∈ S,¬ g8 t s
def Alw(t:b7)(S:LL)(s:Li)(op:Int):Prop:=(0≤op∧op<t.operators.length)∧oCan t s op∧∀y ∈ sc t s op,g8 t y∨y ∈ S
def sN(S:LL)(i:Nat):Li:=(S[i]?).getD []
section
variable {t:b7}{S:LL}{op:Nat→Int}{st:Nat→LL}{w:Nat→Li}
theorem sN_eq{i:Nat}{s:Li}(h:S[i]? =some s):sN S i=s:=by unfold sN;rw[h];rfl
theorem sys_op(ht:g9 t)(hS:StS t S)(ha:∀i s,S[i]? =some s→Alw t S s (op i)):Sys t S op (fun i=>(rsO t (sN S i) (op i)).1) (fun i=>(rsO t (sN S i) (op i)).2):=by
 have hi:∀i,i<S.length→S[i]? =some (sN S i):=fun i hi=>by unfold sN;rw[List.getElem?_eq_getElem hi];rfl
 have hw:∀i,i<S.length→Wok t (sN S i) (op i) (rsO t (sN S i) (op i)).1 (rsO t (sN S i) (op i)).2:=fun i h=>rsO_ok ht (ha i _ (hi i h)).1 (hS.set _ (List.mem_of_getElem? (hi i h)))
 refine⟨hS.ord,hS.n5,hS.set,hS.ng,fun i h=>(ha i _ (hi i h)).1,fun i s hs=> ?_,fun i h y hy=> ?_⟩
 ·obtain⟨hl,_⟩:=lG.1 hs
  have:=hw i hl
  rw[sN_eq hs] at this ⊢;exact this
 ·obtain⟨x,hx,e⟩:=((hw i h).mem y).1 hy
  exact(ha i _ (hi i h)).2.2 y (List.mem_map.2 ⟨x,hx,e⟩)
theorem Sys.ws(h:Sys t S op st w){i:Nat}{s:Li}(hs:S[i]? =some s):WF st w i=WS t s (op i):=by
 obtain⟨e1,e2⟩:=(h.res i s hs).rs
 unfold WF WS;rw[e1,e2]
theorem Sys.cs(h:Sys t S op st w){i:Nat}{s:Li}(hs:S[i]? =some s)(v:Li→Int):smN S.length (fun k=>wG S st w i k * v (sN S k))=CS t v s (op i):=by
 obtain⟨hi,_⟩:=lG.1 hs
 obtain⟨e1,e2⟩:=(h.res i s hs).rs
 unfold CS;rw[e1,e2]
 have a:smN S.length (fun k=>wG S st w i k * v (sN S k))=smN S.length fun k=>smN (st i).length fun j=>(if(st i)[j]? =S[k]? then wtj (w i) j else 0) * v (sN S k):=l8 fun k hk=>by
  unfold wG wF
  rw[if_pos hi,List.getElem?_eq_getElem hk,Int.mul_comm]
  unfold twF
  rw[← y5]
  exact l8 fun j _=>Int.mul_comm _ _
 rw[a,smN_comm]
 refine l8 fun j hj=> ?_
 have hgj:(st i)[j]? =some (st i)[j]:=List.getElem?_eq_getElem hj
 rw[hgj]
 unfold vG
 show _=wtj (w i) j * if dec (g8 t (st i)[j])=true then 0 else v (st i)[j]
 by_cases g:g8 t (st i)[j]
 ·rw[ifP g,Int.mul_zero]
  refine ag7 fun k hk=> ?_
  rw[if_neg,Int.zero_mul]
  intro q
  exact h.ng _ (List.mem_of_getElem? q.symm) g
 ·rw[ifN g]
  obtain⟨k,hk,e⟩:=List.getElem_of_mem ((h.cl i hi _ (List.getElem_mem hj)).resolve_left g)
  have hk':S[k]? =some (st i)[j]:=by rw[List.getElem?_eq_getElem hk,e]
  rw[P0 (a:=k) hk fun k' hk'' hne=> ?_,if_pos hk'.symm,sN_eq hk']
  rw[if_neg,Int.zero_mul]
  intro q
  have a:ix S (k:Int)=some (st i)[j]:=by rw[o7,hk']
  have b:ix S (k':Int)=some (st i)[j]:=by rw[o7,← q]
  have:=h.ord.inj a b
  omega
theorem Sys.qs(h:Sys t S op st w){i:Nat}{s:Li}(hs:S[i]? =some s){v:Li→Int}{num:Nat→Int}(hv:∀k,k<S.length→num k=v (sN S k)){den:Int}:Qv S.length (WF st w) (wG S st w) (cF t op) num den i=QS t v den s (op i):=by
 unfold Qv QS
 rw[h.ws hs,← h.cs hs v]
 rw[l8 (g:=fun k=>wG S st w i k * v (sN S k)) fun k hk=>by rw[hv k hk]]
 rfl
end
end Ab
end
