/-
  Texts that the proof stands on.
-/
import Derived.Test.YtfnfejfohioppaaGreatDoorKRwChScale4
set_option linter.all false
section
namespace Ab
structure Ms(n:Nat)(W:Nat→Int)(w:Mtx):Prop where
 pos:∀i,i<n→0<W i
 nn:∀i k,0≤w i k
 le:∀i,i<n→smN n (w i)≤W i
inductive Px(n:Nat)(W:Nat→Int)(w:Mtx):Nat→Prop
 |exit {i:Nat} (h:i<n) (hw:smN n (w i)<W i):Px n W w i
 |step {i k:Nat} (h:i<n) (hk:k<n) (hw:0<w i k) (hp:Px n W w k):Px n W w i
section
variable {n:Nat}{W:Nat→Int}{w:Mtx}
theorem O3 {f : Nat → Int} (h : ∀ j, 0 ≤ f j) {m : Nat} : ∀ {n : Nat}, m ≤ n → smN m f ≤ smN n f
  | 0, hm => by have : m = 0 := by omega
                subst this; exact Int.le_refl _
  | n + 1, hm => by
    by_cases e : m = n + 1
    · subst e; exact Int.le_refl _
    · have := O3 h (m := m) (n := n) (by omega)
      have := h n
      simp only [smN]; omega
theorem V2{f:Nat→Int}(h:∀j,0≤f j){m k:Nat}(hk:m≤k):∀{n:Nat},k<n→smN m f+f k≤smN n f
 |0,h=>by omega
 |n+1,hn=>by
  by_cases e:k=n
  ·subst e
   have:=O3 h (m:=m) (n:=k) hk
   simp only[smN];omega
  ·have:=V2 h hk (n:=n) (by omega)
   have:=h n
   simp only[smN];omega
theorem exists_max (z : Nat → Int) : ∀ {m : Nat}, 0 < m → ∃ r, r < m ∧ ∀ k, k < m → z k ≤ z r
  | 0, h => by omega
  | 1, _ => ⟨0, by omega, fun k hk => by have : k = 0 := by omega
                                         subst this; exact Int.le_refl _⟩
  | m + 2, _ => by
    obtain ⟨r, h1, h2⟩ := exists_max z (m := m + 1) (by omega)
    by_cases c : z (m + 1) ≤ z r
    · exact ⟨r, by omega, fun k hk => by
        by_cases e : k = m + 1
        · rw [e]; exact c
        · exact h2 k (by omega)⟩
    · exact ⟨m + 1, by omega, fun k hk => by
        by_cases e : k = m + 1
        · rw [e]; exact Int.le_refl _
        · have := h2 k (by omega); omega⟩
theorem maxP(hM:Ms n W w){m:Nat}(hm:m≤n)(hp:∀i,i<m→Px n W w i){z:Nat→Int}(hz:∀r,r<m→W r * z r≤smN m (fun k=>w r k * z k)):∀r,r<m→z r≤0:=by
 intro r hr
 obtain⟨q,q1,q2⟩:=exists_max z (m:=m) (by omega)
 by_cases c:z q≤0
 ·exact Int.le_trans (q2 r hr) c
 ·exfalso
  have hpos:0<z q:=by omega
  have bound:∀i,i<m→z i=z q→smN m (w i)<W i→False:=fun i hi e h=>by
   have h1:=hz i hi
   have h2:smN m (fun k=>w i k * z k)≤z q * smN m (w i):=by
    rw[← w5]
    refine S4 fun k hk=> ?_
    rw[Int.mul_comm]
    exact Int.mul_le_mul_of_nonneg_right (q2 k hk) (hM.nn i k)
   have h3:z q * smN m (w i)<z q * W i:=Int.mul_lt_mul_of_pos_left h hpos
   have h4:=Int.mul_comm (W i) (z i)
   rw[e] at h1 h4;omega
  have key:∀i,Px n W w i→i<m→z i=z q→False:=fun i hi=>by
   induction hi with
   |@exit i h hw=>
    intro hi e
    have:=O3 (f:=w i) (fun k=>hM.nn i k) hm
    exact bound i hi e (by omega)
   |@step i k h hk hw _ ih=>
    intro hi e
    by_cases c2:k<m
    ·by_cases c3:z k=z q
     ·exact ih c2 c3
     ·have hlt:z k≤z q - 1:=by have:=q2 k c2;omega
      have h1:=hz i hi
      have h2:smN m (fun j=>w i j * z j)≤smN m (fun j=>z q * w i j+(if j=k then - w i k else 0)):=by
       refine S4 fun j hj=> ?_
       by_cases ej:j=k
       ·subst ej
        rw[if_pos rfl]
        have:=Int.mul_le_mul_of_nonneg_right hlt (hM.nn i j)
        have e1:=Int.mul_comm (w i j) (z j)
        rw[Int.sub_mul,Int.one_mul] at this
        omega
       ·rw[if_neg ej,Int.add_zero,Int.mul_comm]
        exact Int.mul_le_mul_of_nonneg_right (q2 j hj) (hM.nn i j)
      rw[F7,w5,K4 (a:=k) c2 fun j _ hjk=>if_neg hjk,if_pos rfl] at h2
      have h3:=O3 (f:=w i) (fun k=>hM.nn i k) hm
      have h4:=hM.le i h
      have h5:z q * smN m (w i)≤z q * W i:=Int.mul_le_mul_of_nonneg_left (by omega) (by omega)
      have h6:=Int.mul_comm (W i) (z i)
      rw[e] at h1 h6;omega
    ·have:=V2 (f:=w i) (fun k=>hM.nn i k) (m:=m) (k:=k) (by omega) hk
     have:=hM.le i h
     exact bound i hi e (by omega)
  exact key q (hp q q1) q1 rfl
def eqM(n:Nat)(W:Nat→Int)(w:Mtx)(b:Nat→Int):Mtx:=fun i k=>if k=n then b i else(if i=k then W i else 0) - w i k
theorem af0{b:Nat→Int}{m:Nat}(hm:m≤n){r:Nat}(hr:r<m)(y:Nat→Int):smN m (fun k=>eqM n W w b r k * y k)=W r * y r - smN m (fun k=>w r k * y k):=by
 have:smN m (fun k=>eqM n W w b r k * y k)=smN m (fun k=>(if r=k then W r * y r else 0)+ - (w r k * y k)):=i9 fun k hk=>by
  unfold eqM
  rw[if_neg (by omega)]
  split
  ·rename_i e;subst e;grind
  ·grind
 rw[this,F7,smN_neg,K4 (a:=r) hr fun k _ hkr=>if_neg (Ne.symm hkr),if_pos rfl];omega
theorem ker0(hM:Ms n W w){b:Nat→Int}{m:Nat}(hm:m≤n)(hp:∀i,i<m→Px n W w i){y:Nat→Int}(hy:∀r,r<m→smN m (fun k=>eqM n W w b r k * y k)=0):∀r,r<m→y r=0:=by
 intro r hr
 have h1:=maxP hM hm hp (z:=y) (fun r hr=>by have:=hy r hr;rw[af0 hm hr] at this;omega) r hr
 have h2:=maxP hM hm hp (z:=fun k=> - y k) (fun r hr=>by
  have:=hy r hr
  rw[af0 hm hr] at this
  have e:smN m (fun k=>w r k * - y k)= - smN m (fun k=>w r k * y k):=by
   rw[← smN_neg];exact i9 fun k _=>by grind
  rw[e,Int.mul_neg];omega) r hr
 omega
theorem pos0(hM:Ms n W w){b:Nat→Int}(hp:∀i,i<n→Px n W w i){y:Nat→Int}(hy:∀r,r<n→0≤smN n (fun k=>eqM n W w b r k * y k)):∀r,r<n→0≤y r:=by
 intro r hr
 have h2:=maxP hM (Nat.le_refl n) hp (z:=fun k=> - y k) (fun r hr=>by
  have:=hy r hr
  rw[af0 (Nat.le_refl n) hr] at this
  have e:smN n (fun k=>w r k * - y k)= - smN n (fun k=>w r k * y k):=by
   rw[← smN_neg];exact i9 fun k _=>by grind
  rw[e,Int.mul_neg];omega) r hr
 omega
theorem GJ.pivot(hM:Ms n W w){b:Nat→Int}(hp:∀i,i<n→Px n W w i){c:Nat}{a:Mtx}{d:Int}(h:GJ n (eqM n W w b) c a d)(hc:c<n):a c c ≠ 0:=by
 intro hz
 have:=ker0 hM (b:=b) (m:=c+1) (by omega) (fun i hi=>hp i (by omega)) (y:=fun k=>if k=c then d else - a k c) (fun r hr=>by
  simp only[smN]
  rw[if_pos trivial]
  have e:smN c (fun k=>eqM n W w b r k * if k=c then d else - a k c)= - smN c (fun k=>eqM n W w b r k * a k c):=by
   rw[← smN_neg]
   refine i9 fun k hk=> ?_
   rw[if_neg (by omega)];grind
  rw[e]
  by_cases q:r=c
  ·subst q
   have:=h.low r r (Nat.le_refl r) (by omega) (Nat.le_refl r) hc
   have:=Int.mul_comm d (eqM n W w b r r)
   omega
  ·have:=h.top c r (Nat.le_refl c) (by omega) (by omega)
   have:=Int.mul_comm d (eqM n W w b r c)
   omega) c (by omega)
 rw[if_pos rfl] at this
 exact h.nz this
end
end Ab
end
section
namespace Ab
def Qv(n:Nat)(W:Nat→Int)(w:Mtx)(c num:Nat→Int)(den:Int)(i:Nat):Int:=smN n (fun k=>w i k * num k)+W i * c i * den
structure Vf(n:Nat)(W:Nat→Int)(w:Mtx)(c num:Nat→Int)(den:Int):Prop where
 pos:0<den
 eq:∀i,i<n→Qv n W w c num den i=W i * num i
section
variable {n:Nat}{W:Nat→Int}{w:Mtx}{c num num':Nat→Int}{den den':Int}
theorem smN_lin{f g:Nat→Int}{a b:Int}{n:Nat}:smN n (fun k=>a * f k - b * g k)=a * smN n f - b * smN n g:=by
 have:(fun k=>a * f k - b * g k)=fun k=>a * f k+ -b * g k:=by funext k;grind
 rw[this,F7,w5,w5];grind
theorem lin_row(r:Nat):smN n (fun k=>w r k * (den * num' k - den' * num k))=den * smN n (fun k=>w r k * num' k) - den' * smN n (fun k=>w r k * num k):=by
 rw[← smN_lin];exact i9 fun k _=>by grind
theorem val_le(hM:Ms n W w)(hp:∀i,i<n→Px n W w i)(hv:Vf n W w c num' den')(hd:0<den)(h:∀i,i<n→W i * num i≤Qv n W w c num den i):∀i,i<n→den' * num i≤den * num' i:=by
 intro i hi
 have key:=pos0 hM (b:=fun _=>0) hp (y:=fun k=>den * num' k - den' * num k) (fun r hr=>by
  rw[af0 (Nat.le_refl n) hr,lin_row]
  have h1:=hv.eq r hr
  have h2:=h r hr
  unfold Qv at h1 h2
  have h3:0≤den' * (smN n (fun k=>w r k * num k)+W r * c r * den - W r * num r):=Int.mul_nonneg (Int.le_of_lt hv.pos) (by omega)
  have h4:smN n (fun k=>w r k * num' k)=W r * num' r - W r * c r * den':=by omega
  rw[h4,show W r * (den * num' r - den' * num r) - (den * (W r * num' r - W r * c r * den') - den' * smN n fun k=>w r k * num k)=den' * (smN n (fun k=>w r k * num k)+W r * c r * den - W r * num r) by grind]
  exact h3) i hi
 omega
theorem val_ge(hM:Ms n W w)(hp:∀i,i<n→Px n W w i)(hv:Vf n W w c num' den')(hd:0<den)(h:∀i,i<n→Qv n W w c num den i≤W i * num i):∀i,i<n→den * num' i≤den' * num i∧(Qv n W w c num den i<W i * num i→den * num' i<den' * num i):=by
 have sum:∀r,r<n→W r * (den' * num r - den * num' r)=smN n (fun k=>w r k * (den' * num k - den * num' k))+den' * (W r * num r - Qv n W w c num den r):=fun r hr=>by
  rw[lin_row]
  have h1:=hv.eq r hr
  unfold Qv at h1 ⊢
  have h4:smN n (fun k=>w r k * num' k)=W r * num' r - W r * c r * den':=by omega
  rw[h4];grind
 have nn:∀i,i<n→0≤den' * num i - den * num' i:=fun i hi=>pos0 hM (b:=fun _=>0) hp (y:=fun k=>den' * num k - den * num' k) (fun r hr=>by
  rw[af0 (Nat.le_refl n) hr]
  have:=sum r hr
  have h2:=h r hr
  have h3:0≤den' * (W r * num r - Qv n W w c num den r):=Int.mul_nonneg (Int.le_of_lt hv.pos) (by omega)
  omega) i hi
 intro i hi
 refine⟨by have:=nn i hi;omega,fun hlt=> ?_⟩
 have h1:=sum i hi
 have h2:0<den' * (W i * num i - Qv n W w c num den i):=Int.mul_pos hv.pos (by omega)
 have h3:0≤smN n (fun k=>w i k * (den' * num k - den * num' k)):=ae8 fun k hk=>Int.mul_nonneg (hM.nn i k) (nn k hk)
 have h4:=nn i hi
 by_cases e:den' * num i - den * num' i=0
 ·rw[e,Int.mul_zero] at h1;omega
 ·omega
end
end Ab
end
section
namespace Ab
theorem W3{R:Int}:∀n:Nat,prd n (fun _=>R)=R ^ n
 |0=>by simp[prd]
 |n+1=>by rw[prd,W3 n,Int.pow_succ,Int.mul_comm]
theorem pow_nn{R:Int}(h:0≤R):∀n:Nat,0≤R ^ n
 |0=>by simp
 |n+1=>by rw[Int.pow_succ];exact Int.mul_nonneg (pow_nn h n) h
theorem ab_sgn(j:Nat):ab (sgn j)=1:=by unfold sgn ab;split<;>split<;>omega
theorem ae7{R B:Int}(hR:0≤R)(hB:0≤B):∀{n:Nat} {A:Mtx} {l:Nat},l<n+1→(∀i,i<n+1→smN (n+1) (fun j=>if j=l then 0 else ab (A i j))≤R)→(∀i,i<n+1→ab (A i l)≤B)→ab (det (n+1) A)≤(n+1:Int) * B * R ^ n
 |0,A,l,hl,_,h2=>by
  have:l=0:=by omega
  subst this
  have:=h2 0 (by omega)
  simpa[det,smN,sgn] using this
 |n+1,A,l,hl,h1,h2=>by
  have hK:0≤(n+1:Int) * B * R ^ n:=Int.mul_nonneg (Int.mul_nonneg (by omega) hB) (pow_nn hR n)
  rw[det]
  refine Int.le_trans (ab_sum _) ?_
  have hm:∀j,j<n+1+1→ab (sgn j * A 0 j * det (n+1) (mnr A j))≤((n+1:Int) * B * R ^ n) * (if j=l then 0 else ab (A 0 j))+(if j=l then B * R ^ (n+1) else 0):=fun j hj=>by
   rw[ab_mul,ab_mul,ab_sgn,Int.one_mul]
   by_cases e:j=l
   ·subst e
    rw[if_pos rfl,if_pos rfl,Int.mul_zero,Int.zero_add]
    have ih:=W8 (n:=n+1) (A:=mnr A j) (r:=fun _=>R) (fun _=>hR) fun i hi=>by
     have k1:=h1 (i+1) (by omega)
     have k2:=smN_sk (f:=fun k=>if k=j then 0 else ab (A (i+1) k)) (fun k=>by split;omega;exact y8 _) (n:=n+1) (j:=j)
     rw[i9 (g:=fun k=>if sk j k=j then 0 else ab (A (i+1) (sk j k))) fun k _=>by unfold mnr;rw[if_neg (by unfold sk;split<;>omega)]]
     exact Int.le_trans k2 k1
    rw[W3] at ih
    exact Int.mul_le_mul (h2 0 (by omega)) ih (y8 _) hB
   ·rw[if_neg e,if_neg e,Int.add_zero,Int.mul_comm]
    refine Int.mul_le_mul_of_nonneg_right ?_ (y8 _)
    refine ae7 hR hB (l:=if j<l then l - 1 else l) (by split<;>omega) (fun i hi=> ?_) fun i hi=> ?_
    ·have k1:=h1 (i+1) (by omega)
     have k2:=smN_sk (f:=fun k=>if k=l then 0 else ab (A (i+1) k)) (fun k=>by split;omega;exact y8 _) (n:=n+1) (j:=j)
     rw[i9 (g:=fun k=>if sk j k=l then 0 else ab (A (i+1) (sk j k))) fun k _=>by
      unfold mnr
      have:k=(if j<l then l - 1 else l)↔sk j k=l:=by unfold sk;split<;>split<;>omega
      by_cases q:sk j k=l
      ·rw[if_pos (this.2 q),if_pos q]
      ·rw[if_neg (fun r=>q (this.1 r)),if_neg q]]
     exact Int.le_trans k2 k1
    ·have:=h2 (i+1) (by omega)
     unfold mnr
     rwa [show sk j (if j<l then l - 1 else l)=l by unfold sk;split<;>split<;>omega]
  refine Int.le_trans (S4 hm) ?_
  rw[F7,w5,K4 (f:=fun j=>if j=l then B * R ^ (n+1) else 0) (a:=l) hl fun j _ hj=>if_neg hj,if_pos rfl]
  have k1:=Int.mul_le_mul_of_nonneg_left (h1 0 (by omega)) hK
  have k2:((n+1:Int) * B * R ^ n) * R=(n+1:Int) * B * R ^ (n+1):=by rw[Int.pow_succ];grind
  push_cast
  have k3:((n:Int)+1+1) * B * R ^ (n+1)=(n+1:Int) * B * R ^ (n+1)+B * R ^ (n+1):=by grind
  omega
section
variable {n c:Nat}{A a:Mtx}{d:Int}
theorem GJ.rep(h:GJ n A c a d){i j:Nat}(hi:i<c)(hj:c≤j)(hj':j≤n):a i j=det c (rep A i fun r=>A r j):=by
 have key:=cramer (n:=c) (A:=A) (y:=fun k=>a k j) (b:=fun r=>d * A r j) (fun r hr=>h.top j r hj hj' hr) (l:=i) hi
 rw[al9 hi,← h.dd,Int.mul_comm (a i j)] at key
 exact(Int.eq_of_mul_eq_mul_left h.nz key).symm
end
structure Rb(n:Nat)(A:Mtx)(R B:Int):Prop where
 R0:0≤R
 B0:0≤B
 row:∀i,i<n→smN n (fun k=>ab (A i k))≤R
 rhs:∀i,i<n→ab (A i n)≤B
section
variable {n c:Nat}{A a:Mtx}{d R B:Int}
theorem Rb.brd1(h:Rb n A R B){i j:Nat}(hj:c≤j)(hj':j<n)(hi:c≤i)(hi':i<n):ab (det (c+1) (brd c A i j))≤R ^ (c+1):=by
 have:=W8 (n:=c+1) (A:=brd c A i j) (r:=fun _=>R) (fun _=>h.R0) fun r hr=>by
  have hr':(if r=c then i else r)<n:=by split<;>omega
  have k1:=V2 (f:=fun k=>ab (A (if r=c then i else r) k)) (fun _=>y8 _) hj hj'
  have k2:=h.row _ hr'
  simp only[smN]
  rw[i9 (g:=fun k=>ab (A (if r=c then i else r) k)) fun k hk=>by unfold brd;rw[if_neg (by omega:¬ k=c)]]
  have:brd c A i j r c=A (if r=c then i else r) j:=by unfold brd;rw[if_pos (rfl:c=c)]
  rw[this];omega
 rwa [W3] at this
theorem Rb.brd2(h:Rb n A R B){i:Nat}(hc:c≤n)(hi:c≤i)(hi':i<n):ab (det (c+1) (brd c A i n))≤(c+1:Int) * B * R ^ c:=by
 refine ae7 h.R0 h.B0 (l:=c) (by omega) (fun r hr=> ?_) fun r hr=> ?_
 ·have hr':(if r=c then i else r)<n:=by split<;>omega
  have k1:=O3 (f:=fun k=>ab (A (if r=c then i else r) k)) (fun _=>y8 _) hc
  have k2:=h.row _ hr'
  simp only[smN,if_true,Int.add_zero]
  rw[i9 (g:=fun k=>ab (A (if r=c then i else r) k)) fun k hk=>by unfold brd;rw[if_neg (by omega:¬ k=c),if_neg (by omega:¬ k=c)]]
  omega
 ·have hr':(if r=c then i else r)<n:=by split<;>omega
  have:brd c A i n r c=A (if r=c then i else r) n:=by unfold brd;rw[if_pos (rfl:c=c)]
  rw[this];exact h.rhs _ hr'
theorem Rb.rep1(h:Rb n A R B)(hc:c≤n){i j:Nat}(hi:i<c)(hj:c≤j)(hj':j<n):ab (det c (rep A i fun r=>A r j))≤R ^ c:=by
 have:=W8 (n:=c) (A:=rep A i fun r=>A r j) (r:=fun _=>R) (fun _=>h.R0) fun r hr=>by
  have k1:=V2 (f:=fun k=>ab (A r k)) (fun _=>y8 _) hj hj'
  have k2:=h.row r (by omega)
  have k3:smN c (fun k=>ab (rep A i (fun r=>A r j) r k))≤smN c (fun k=>ab (A r k)+(if k=i then ab (A r j) else 0)):=S4 fun k hk=>by
   unfold Ab.rep
   by_cases e:k=i
   ·rw[if_pos e,if_pos e];have:=y8 (A r k);show ab (A r j)≤ab (A r k)+ab (A r j);omega
   ·rw[if_neg e,if_neg e];omega
  rw[F7,K4 (f:=fun k=>if k=i then ab (A r j) else 0) hi fun k _ hk=>if_neg hk,if_pos rfl] at k3
  exact Int.le_trans k3 (Int.le_trans k1 k2)
 rwa [W3] at this
theorem Rb.rep2(h:Rb n A R B){i:Nat}(hc:c+1≤n)(hi:i<c+1):ab (det (c+1) (rep A i fun r=>A r n))≤(c+1:Int) * B * R ^ c:=by
 refine ae7 h.R0 h.B0 (l:=i) hi (fun r hr=> ?_) fun r hr=> ?_
 ·have k1:=O3 (f:=fun k=>ab (A r k)) (fun _=>y8 _) hc
  have k2:=h.row r (by omega)
  refine Int.le_trans (S4 (g:=fun k=>ab (A r k)) fun k hk=> ?_) (Int.le_trans k1 k2)
  unfold Ab.rep
  split
  ·exact y8 _
  ·exact Int.le_refl _
 ·unfold Ab.rep;rw[if_pos rfl];exact h.rhs r (by omega)
end
end Ab
end
section
namespace Ab
def lists(m:Nat):Nat→LL
 |0=>[[]]
 |n+1=>(List.range m).flatMap fun a:Nat=>(lists m n).map fun l=>(a:Int)::l
end Ab
end
section
namespace Ab
open Go
def mE(M:LL):Mtx:=fun i j=>((M[i]?).getD [])[j]?.getD 0
structure Shp(n:Nat)(M:LL):Prop where
 len:M.length=n
 row:∀r ∈ M,r.length=n+1
theorem Shp.get{n:Nat}{M:LL}(h:Shp n M){i:Nat}(hi:i<n):∃row,M[i]? =some row∧row.length=n+1∧ix M (i:Int)=some row∧∀j,j≤n→ix row (j:Int)=some (mE M i j)∧row[j]? =some (mE M i j):=by
 have hl:i<M.length:=by rw[h.len];exact hi
 have e:M[i]? =some M[i]:=List.getElem?_eq_getElem hl
 have hr:=h.row _ (List.getElem_mem hl)
 refine⟨M[i],e,hr,by rw[r7,e],fun j hj=> ?_⟩
 have hj':j<M[i].length:=by omega
 have e2:M[i][j]? =some M[i][j]:=List.getElem?_eq_getElem hj'
 have:mE M i j=M[i][j]:=by unfold mE;rw[e];simp[e2]
 rw[r7,e2,this]
 exact⟨rfl,rfl⟩
theorem Shp.set{n:Nat}{M:LL}(h:Shp n M){i:Nat}{row:Li}(hr:row.length=n+1):Shp n (M.set i row):=
 ⟨by rw[lS];exact h.len,fun r hm=>by
  rcases List.mem_or_eq_of_mem_set hm with hm|rfl
  ·exact h.row r hm
  ·exact hr⟩
theorem mE_set{n:Nat}{M:LL}(h:Shp n M){i j:Nat}(hi:i<n){row:Li}(hrow:M[i]? =some row)(hj:j<row.length)(v:Int)(i' j':Nat):
  mE (M.set i (row.set j v)) i' j'=if i'=i∧j'=j then v else mE M i' j':=by
 have hl:i<M.length:=by rw[h.len];exact hi
 unfold mE
 rw[List.getElem?_set]
 by_cases e:i'=i
 ·subst e
  rw[if_pos rfl,if_pos hl,hrow]
  simp only[Option.getD_some,List.getElem?_set,true_and]
  by_cases f:j'=j
  ·subst f;simp[hj]
  ·rw[if_neg (fun q=>f q.symm),if_neg f]
 ·rw[if_neg (fun q=>e q.symm),if_neg (fun q=>e q.1)]
def Ft(x:Int):Prop:= -9223372036854775808≤x∧x≤9223372036854775807
theorem Ft.w{x:Int}(h:Ft x):w64 x=x:=w64_eq h
theorem row_clear{n c i:Nat}{last:Int}{M:LL}(hM:Shp n M)(hn:n≤1000)(hc:c<n)(hi:i<n)(hic:i ≠ c)(hl:last ≠ 0)
  (hf:∀j,j≤n→j ≠ c→Ft (mE M c c * mE M i j)∧Ft (mE M i c * mE M c j)∧Ft (crs (mE M) c i j)∧Ft ((crs (mE M) c i j).tdiv last)):
  ∃M',Loop (z1 c last i) (M,(n:Int))=some M'∧Shp n M'∧∀i' j',j'≤n→mE M' i' j'=if i'=i∧j' ≠ c then(crs (mE M) c i j').tdiv last else mE M i' j':=by
 refine M6 (body:=z1 c last i) (s:=(M,(n:Int)))
  (fun s=>Shp n s.1∧ -1≤s.2∧s.2≤n∧∀i' j':Nat,j'≤n→mE s.1 i' j'=if i'=i∧j' ≠ c∧s.2<j' then(crs (mE M) c i j').tdiv last else mE M i' j')
  (fun M'=>Shp n M'∧∀i' j',j'≤n→mE M' i' j'=if i'=i∧j' ≠ c then(crs (mE M) c i j').tdiv last else mE M i' j')
  (fun s=>(s.2+1).toNat) ⟨hM,by dsimp only;omega,by dsimp only;omega,fun i' j' hj'=>by rw[if_neg (by dsimp only;omega)]⟩ ?_
 rintro ⟨M1,j⟩ ⟨h1,h2,h3,h4⟩
 dsimp only at h1 h2 h3 h4
 unfold z1
 dsimp only
 by_cases hj:0≤j
 ·rw[if_pos hj]
  obtain⟨k,rfl⟩:=Int.eq_ofNat_of_zero_le hj
  have hw:w64 ((k:Int) - 1)=k - 1:=u5 (by omega) (by omega)
  by_cases e:(k:Int)=c
  ·rw[if_pos e,Option.bind_some,hw]
   refine .inl ⟨_,rfl,⟨h1,by dsimp only;omega,by dsimp only;omega,fun i' j' hj'=> ?_⟩,by dsimp only;omega⟩
   rw[h4 i' j' hj']
   dsimp only
   by_cases q:i'=i∧j' ≠ c∧(k:Int)<j'
   ·rw[if_pos q,if_pos ⟨q.1,q.2.1,by omega⟩]
   ·rw[if_neg q,if_neg (fun r=>q ⟨r.1,r.2.1,by have:=r.2.1;have:=r.2.2;omega⟩)]
  ·rw[if_neg e]
   have hkc:k ≠ c:=by omega
   have hk:k≤n:=by omega
   obtain⟨ri,a1,a2,a3,a4⟩:=h1.get hi
   obtain⟨rc,b1,b2,b3,b4⟩:=h1.get hc
   have vcc:mE M1 c c=mE M c c:=by rw[h4 c c (by omega),if_neg (fun q=>hic q.1.symm)]
   have vck:mE M1 c k=mE M c k:=by rw[h4 c k hk,if_neg (fun q=>hic q.1.symm)]
   have vic:mE M1 i c=mE M i c:=by rw[h4 i c (by omega),if_neg (fun q=>q.2.1 rfl)]
   have vik:mE M1 i k=mE M i k:=by rw[h4 i k hk,if_neg (fun q=>by have:=q.2.2;omega)]
   obtain⟨f1,f2,f3,f4⟩:=hf k hk hkc
   have hcr:mE M c c * mE M i k - mE M i c * mE M c k=crs (mE M) c i k:=rfl
   simp only[a3,b3,oB,(a4 k hk).1,(a4 c (by omega)).1,(b4 c (by omega)).1,(b4 k hk).1,vcc,vck,vic,vik,f1.w,f2.w,hcr,f3.w,f4.w,chkN]
   rw[if_neg hl]
   simp only[oB,hw,Int.toNat_natCast]
   refine .inl ⟨_,rfl,⟨h1.set (by rw[lS];exact a2),by dsimp only;omega,by dsimp only;omega,fun i' j' hj'=> ?_⟩,by dsimp only;omega⟩
   dsimp only
   rw[mE_set h1 hi a1 (by omega)]
   by_cases q:i'=i∧j'=k
   ·rw[if_pos q,if_pos ⟨q.1,by omega,by omega⟩,q.2]
   ·rw[if_neg q,h4 i' j' hj']
    by_cases r:i'=i∧j' ≠ c∧(k:Int)<j'
    ·rw[if_pos r,if_pos ⟨r.1,r.2.1,by omega⟩]
    ·rw[if_neg r,if_neg (fun s=>r ⟨s.1,s.2.1,by have:=s.2.2;by_cases f:j'=k;exact absurd ⟨s.1,f⟩ q;omega⟩)]
 ·rw[if_neg hj]
  refine .inr ⟨_,rfl,h1,fun i' j' hj'=> ?_⟩
  rw[h4 i' j' hj']
  by_cases q:i'=i∧j' ≠ c
  ·rw[if_pos q,if_pos ⟨q.1,q.2,by omega⟩]
  ·rw[if_neg q,if_neg (fun r=>q ⟨r.1,r.2.1⟩)]
def nxt(a:Mtx)(c:Nat)(d:Int):Mtx:=fun i j=>if i=c then a c j else if j=c then 0 else(crs a c i j).tdiv d
theorem col_clear{n c:Nat}{last:Int}{L M:LL}(hL:L.length=n)(hM:Shp n M)(hn:n≤1000)(hc:c<n)(hl:last ≠ 0)
  (hf:∀i j,i<n→i ≠ c→j≤n→j ≠ c→Ft (mE M c c * mE M i j)∧Ft (mE M i c * mE M c j)∧Ft (crs (mE M) c i j)∧Ft ((crs (mE M) c i j).tdiv last)):
  ∃M',forR 0 (L.length:Int) (z7 L c last) M=some M'∧Shp n M'∧∀i j,i<n→j≤n→mE M' i j=nxt (mE M) c last i j:=by
 obtain⟨M',k1,k2,k3⟩:=G2 (body:=z7 L c last) (n:=(L.length:Int)) (s:=M)
  (fun q s=>Shp n s∧∀i j:Nat,i<n→j≤n→mE s i j=if(i:Int)<q then nxt (mE M) c last i j else mE M i j) (by omega)
  ⟨hM,fun i j hi hj=>by rw[if_neg (by omega)]⟩ (fun q s q0 q1 ⟨p1,p2⟩=>by
   obtain⟨i,rfl⟩:=Int.eq_ofNat_of_zero_le q0
   have hi:i<n:=by omega
   unfold z7
   by_cases e:(i:Int)=c
   ·have e':i=c:=by omega
    rw[if_pos e,Option.bind_some]
    refine⟨_,rfl,p1,fun i' j' hi' hj'=> ?_⟩
    rw[p2 i' j' hi' hj']
    by_cases f:(i':Int)<i
    ·rw[if_pos f,if_pos (by omega)]
    ·rw[if_neg f]
     by_cases g:i'=i
     ·rw[if_pos (by omega),g,e'];unfold nxt;rw[if_pos rfl]
     ·rw[if_neg (by omega)]
   ·have e':i ≠ c:=by omega
    have vi:∀j,j≤n→mE s i j=mE M i j:=fun j hj=>by rw[p2 i j hi hj,if_neg (by omega)]
    have vc:∀j,j≤n→mE s c j=mE M c j:=fun j hj=>by
     rw[p2 c j hc hj]
     split
     ·unfold nxt;rw[if_pos rfl]
     ·rfl
    have vx:∀j,j≤n→crs (mE s) c i j=crs (mE M) c i j:=fun j hj=>by
     unfold crs;rw[vi j hj,vi c (by omega),vc j hj,vc c (by omega)]
    obtain⟨M1,m1,m2,m3⟩:=row_clear p1 hn hc hi e' hl (fun j hj hjc=>by
     have:=hf i j hi e' hj hjc
     rw[vc c (by omega),vi j hj,vi c (by omega),vc j hj,vx j hj]
     exact this)
    obtain⟨r,a1,a2,a3,a4⟩:=m2.get hi
    rw[if_neg e,hL,m1]
    simp only[oB,a3,(a4 c (by omega)).1,Int.toNat_natCast]
    refine⟨_,rfl,m2.set (by rw[lS];exact a2),fun i' j' hi' hj'=> ?_⟩
    rw[mE_set m2 hi a1 (by omega),m3 i' j' hj']
    by_cases g:i'=i
    ·subst g
     rw[if_pos (show((i':Nat):Int)<(i':Int)+1 by omega)]
     unfold nxt
     rw[if_neg e']
     by_cases f:j'=c
     ·rw[if_pos ⟨rfl,f⟩,if_pos f]
     ·rw[if_neg (fun q=>f q.2),if_pos ⟨rfl,f⟩,if_neg f,vx j' hj']
    ·rw[if_neg (fun q=>g q.1),if_neg (fun q=>g q.1),p2 i' j' hi' hj']
     by_cases f:(i':Int)<i
     ·rw[if_pos f,if_pos (show(i':Int)<(i:Int)+1 by omega)]
     ·rw[if_neg f,if_neg (show ¬ (i':Int)<(i:Int)+1 by omega)])
 refine⟨M',k1,k2,fun i j hi hj=> ?_⟩
 rw[k3 i j hi hj,if_pos (by omega)]
end Ab
end
section
namespace Ab
open Go
theorem ab_prod{x y X Y:Int}(h1:ab x≤X)(h2:ab y≤Y):ab (x * y)≤X * Y:=by
 rw[ab_mul];exact Int.mul_le_mul h1 h2 (y8 _) (Int.le_trans (y8 x) h1)
theorem Ft.of{x:Int}(h:ab x≤9223372036854775807):Ft x:=by
 have:=ab_le h;unfold Ft;omega
theorem ab_tdiv(x d:Int):ab (x.tdiv d)≤ab x:=by
 have e:∀y:Int,ab y=(y.natAbs:Int):=fun y=>by unfold ab;split<;>omega
 rw[e,e,Int.natAbs_tdiv]
 exact_mod_cast Nat.div_le_self _ _
theorem Ft.crs{a:Mtx}{c i j:Nat}{d:Int}(h1:ab (a c c * a i j)≤4000000000000000000)(h2:ab (a i c * a c j)≤4000000000000000000):Ft (a c c * a i j)∧Ft (a i c * a c j)∧Ft (Ab.crs a c i j)∧Ft ((Ab.crs a c i j).tdiv d):=by
 have h3:ab (Ab.crs a c i j)≤8000000000000000000:=by
  have:=ab_add (a c c * a i j) (-(a i c * a c j))
  have e:ab (-(a i c * a c j))=ab (a i c * a c j):=by unfold ab;split<;>split<;>omega
  rw[e] at this
  unfold Ab.crs
  rw[Int.sub_eq_add_neg];omega
 have h4:=ab_tdiv (Ab.crs a c i j) d
 exact⟨.of (by omega),.of (by omega),.of (by omega),.of (by omega)⟩
section
variable {n c:Nat}{A a:Mtx}{d:Int}
theorem det_top{R B:Int}(h:Rb n A R B)(hc:c≤n):ab (det c A)≤R ^ c:=by
 have:=W8 (n:=c) (A:=A) (r:=fun _=>R) (fun _=>h.R0) fun r hr=>by
  have k1:=O3 (f:=fun k=>ab (A r k)) (fun _=>y8 _) hc
  have k2:=h.row r (by omega)
  omega
 rwa [W3] at this
theorem GJ.fits(hn:n≤5)(hR:Rb n A 48 2400)(h:GJ n A c a d)(hc:c<n){i j:Nat}(hi:i<n)(hic:i ≠ c)(hj:j≤n)(hjc:j ≠ c):ab (a c c * a i j)≤4000000000000000000∧ab (a i c * a c j)≤4000000000000000000:=by
 have P:ab (a c c)≤48 ^ (c+1):=by rw[h.brd (Nat.le_refl c) (by omega) (Nat.le_refl c) hc];exact hR.brd1 (Nat.le_refl c) hc (Nat.le_refl c) hc
 have hd:ab d≤48 ^ c:=by rw[h.dd];exact det_top hR (by omega)
 have h5:c=0∨c=1∨c=2∨c=3∨c=4:=by omega
 have fin:∀{x y X Y:Int},ab x≤X→ab y≤Y→X * Y≤4000000000000000000→ab (x * y)≤4000000000000000000:=fun h1 h2 h3=>Int.le_trans (ab_prod h1 h2) h3
 rcases Nat.lt_or_ge j c with q|q
 ·have e1:a c j=0:=by rw[h.on c j hc q,if_neg (by omega)]
  have e2:ab (a i j)≤48 ^ c:=by
   rw[h.on i j hi q]
   split
   ·exact hd
   ·have:ab 0=0:=by unfold ab;rfl
    rw[this];exact pow_nn (by omega) c
  refine⟨fin P e2 ?_,?_⟩
  ·rcases h5 with rfl|rfl|rfl|rfl|rfl<;>decide
  ·rw[e1,Int.mul_zero];decide
 ·have R2:ab (a c n)≤(c+1:Int) * 2400 * 48 ^ c:=by rw[h.brd (by omega) (Nat.le_refl n) (Nat.le_refl c) hc];exact hR.brd2 (by omega) (Nat.le_refl c) hc
  rcases Nat.lt_or_ge i c with r|r
  · -- a row that is cleared
   have C1:ab (a i c)≤48 ^ c:=by rw[h.rep r (Nat.le_refl c) (by omega)];exact hR.rep1 (by omega) r (Nat.le_refl c) hc
   by_cases e:j=n
   ·subst e
    obtain⟨c',rfl⟩:∃c',c=c'+1:=⟨c - 1,by omega⟩
    have C2:ab (a i j)≤(c'+1:Int) * 2400 * 48 ^ c':=by rw[h.rep r (by omega) (Nat.le_refl j)];exact hR.rep2 (by omega) r
    have h5:c'=0∨c'=1∨c'=2∨c'=3:=by omega
    exact⟨fin P C2 (by rcases h5 with rfl|rfl|rfl|rfl<;>decide),fin C1 R2 (by rcases h5 with rfl|rfl|rfl|rfl<;>decide)⟩
   ·have C2:ab (a i j)≤48 ^ c:=by rw[h.rep r (by omega) (by omega)];exact hR.rep1 (by omega) r (by omega) (by omega)
    have C3:ab (a c j)≤48 ^ (c+1):=by rw[h.brd (by omega) (by omega) (Nat.le_refl c) hc];exact hR.brd1 (by omega) (by omega) (Nat.le_refl c) hc
    exact⟨fin P C2 (by rcases h5 with rfl|rfl|rfl|rfl|rfl<;>decide),fin C1 C3 (by rcases h5 with rfl|rfl|rfl|rfl|rfl<;>decide)⟩
  ·have h4:c=0∨c=1∨c=2∨c=3:=by omega
   have C1:ab (a i c)≤48 ^ (c+1):=by rw[h.brd (Nat.le_refl c) (by omega) r hi];exact hR.brd1 (Nat.le_refl c) hc r hi
   by_cases e:j=n
   ·subst e
    have C2:ab (a i j)≤(c+1:Int) * 2400 * 48 ^ c:=by rw[h.brd (by omega) (Nat.le_refl j) r hi];exact hR.brd2 (by omega) r hi
    exact⟨fin P C2 (by rcases h4 with rfl|rfl|rfl|rfl<;>decide),fin C1 R2 (by rcases h4 with rfl|rfl|rfl|rfl<;>decide)⟩
   ·have C2:ab (a i j)≤48 ^ (c+1):=by rw[h.brd (by omega) (by omega) r hi];exact hR.brd1 (by omega) (by omega) r hi
    have C3:ab (a c j)≤48 ^ (c+1):=by rw[h.brd (by omega) (by omega) (Nat.le_refl c) hc];exact hR.brd1 (by omega) (by omega) (Nat.le_refl c) hc
    exact⟨fin P C2 (by rcases h4 with rfl|rfl|rfl|rfl<;>decide),fin C1 C3 (by rcases h4 with rfl|rfl|rfl|rfl<;>decide)⟩
end
theorem solve_rows{n:Nat}{L:LL}(hn:n≤5)(hL:Shp n L)(hR:Rb n (mE L) 48 2400)(hp:∀c a d,GJ n (mE L) c a d→c<n→a c c ≠ 0):
  ∃M d,forR 0 (L.length:Int) (y9 L) (L,1)=some (M,d)∧Shp n M∧GJ n (mE L) n (mE M) d:=by
 obtain⟨⟨M,d⟩,k1,k2,k3⟩:=G2 (body:=y9 L) (n:=(L.length:Int)) (s:=(L,1))
  (fun q s=>Shp n s.1∧GJ n (mE L) q.toNat (mE s.1) s.2) (by omega) ⟨hL,GJ.start⟩ (fun q s q0 q1 ⟨p1,p2⟩=>by
   obtain⟨M,d⟩:=s
   obtain⟨c,rfl⟩:=Int.eq_ofNat_of_zero_le q0
   have hll:=hL.len
   have hc:c<n:=by omega
   dsimp only at p1 p2
   rw[Int.toNat_natCast] at p2
   have hpiv:=hp c _ _ p2 hc
   obtain⟨rc,b1,b2,b3,b4⟩:=p1.get hc
   unfold y9
   have e2:Loop (z2 L c M) ()=some ():=by
    rw[Loop_eq]
    have:z2 L c M ()=some (.inr ()):=by
     unfold z2
     split
     ·simp only[b3,(b4 c (by omega)).1,oB]
      rw[if_neg (by simp[hpiv])]
     ·rfl
    rw[this]
   have hft:=fun i j (hi:i<n) (hic:i ≠ c) (hj:j≤n) (hjc:j ≠ c)=>p2.fits hn hR hc hi hic hj hjc
   obtain⟨M',m1,m2,m3⟩:=col_clear hll p1 (by omega) hc p2.nz (fun i j hi hic hj hjc=>Ft.crs (hft i j hi hic hj hjc).1 (hft i j hi hic hj hjc).2)
   obtain⟨r2,d1,d2,d3,d4⟩:=m2.get hc
   have hcc:mE M' c c=mE M c c:=by rw[m3 c c hc (by omega)];unfold nxt;rw[if_pos rfl]
   dsimp only
   simp only[e2,b3,m1,d3,(d4 c (by omega)).1,oB]
   refine⟨_,rfl,m2,?_⟩
   dsimp only
   rw[show((c:Int)+1).toNat=c+1 by omega,hcc]
   refine p2.step hc hpiv (fun j hj=>by rw[m3 c j hc hj];unfold nxt;rw[if_pos rfl]) (fun i j hi hic hj hjc=> ?_) (fun i hi hic=>by rw[m3 i c hi (by omega)];unfold nxt;rw[if_neg hic,if_pos rfl])
   rw[m3 i j hi hj]
   unfold nxt
   rw[if_neg hic,if_neg hjc]
   obtain⟨x,hx⟩:=p2.exact hc hpiv hi hic hj hjc
   rw[hx,Int.mul_tdiv_cancel_left _ p2.nz])
 refine⟨M,d,k1,k2,?_⟩
 rw[hL.len,Int.toNat_natCast] at k3
 exact k3
theorem solve_spec{n:Nat}{L:LL}(st:LL)(hn:n≤5)(hL:Shp n L)(hR:Rb n (mE L) 48 2400)(hp:∀c a d,GJ n (mE L) c a d→c<n→a c c ≠ 0):
  ∃num:Li,s9 st L=some (num,det n (mE L))∧num.length=n∧det n (mE L) ≠ 0∧(∀l,l<n→num[l]? =some (det n (rep (mE L) l fun r=>mE L r n)))∧
   ∀r,r<n→smN n (fun k=>mE L r k * (num[k]?).getD 0)=det n (mE L) * mE L r n:=by
 obtain⟨M,d,h1,h2,h3⟩:=solve_rows hn hL hR hp
 have hll:=hL.len
 unfold s9
 rw[h1]
 simp only[oB]
 have hmk:mkL 8 (L.length:Int) (0:Int)=some (List.replicate n 0):=by
  unfold mkL;rw[if_pos (by omega),hll,Int.toNat_natCast]
 rw[hmk]
 simp only[oB,List.length_replicate]
 obtain⟨num,k1,k2,k3⟩:=G2 (body:=D3 L M) (n:=(n:Int)) (s:=List.replicate n 0)
  (fun q s=>s.length=n∧∀l:Nat,(l:Int)<q→l<n→s[l]? =some (mE M l n)) (by omega) ⟨by simp,fun l hl=>by omega⟩ (fun q s q0 q1 ⟨p1,p2⟩=>by
   obtain⟨i,rfl⟩:=Int.eq_ofNat_of_zero_le q0
   have hi:i<n:=by omega
   obtain⟨r,a1,a2,a3,a4⟩:=h2.get hi
   have hs:i<s.length:=by omega
   have hx:ix s (i:Int)=some s[i]:=by rw[r7];exact List.getElem?_eq_getElem hs
   unfold D3
   simp only[a3,hll,(a4 n (Nat.le_refl n)).1,hx,oB,Int.toNat_natCast]
   refine⟨_,rfl,by rw[lS];exact p1,fun l hl hln=> ?_⟩
   rw[List.getElem?_set]
   by_cases e:i=l
   ·subst e;rw[if_pos rfl,if_pos hs]
   ·rw[if_neg e];exact p2 l (by omega) hln)
 rw[k1]
 have dd:d=det n (mE L):=h3.dd
 have hnum:∀l,l<n→num[l]? =some (mE M l n):=fun l hl=>k3 l (by omega) hl
 refine⟨num,by rw[dd];rfl,k2,by rw[← dd];exact h3.nz,fun l hl=> ?_,fun r hr=> ?_⟩
 ·rw[hnum l hl,h3.rep hl (Nat.le_refl n) (Nat.le_refl n)]
 ·rw[← dd,← h3.top n r (Nat.le_refl n) (Nat.le_refl n) hr]
  exact i9 fun k hk=>by rw[hnum k hk];rfl
end Ab
end
section
namespace Ab
open Go
/-! ### States as' numbers -/
def wsN:Li→Nat
 |[]=>0
 |a::l=>2 ^ a.toNat+wsN l
theorem wsN_dvd{k:Nat}:∀{l:Li},(∀x ∈ l,k≤x.toNat)→2 ^ k ∣ wsN l
 |[],_=>⟨0,rfl⟩
 |a::l,h=>Nat.dvd_add (Nat.pow_dvd_pow 2 (h a (by simp))) (wsN_dvd fun x hx=>h x (List.mem_cons_of_mem _ hx))
theorem two_pow_no{k:Nat}(h:2 ^ (k+1) ∣ 2 ^ k):False:=by
 have h1:=Nat.le_of_dvd (Nat.two_pow_pos k) h
 have h2:=Nat.two_pow_pos k
 rw[Nat.pow_succ] at h1
 omega
theorem wsN_ne{a:Int}{l m:Li}(ha:0≤a)(hl:∀x ∈ l,a<x)(hm:∀x ∈ m,a<x):wsN (a::l) ≠ wsN m:=fun h=>by
 have d1:2 ^ (a.toNat+1) ∣ wsN l:=wsN_dvd fun x hx=>by have:=hl x hx;omega
 have d2:2 ^ (a.toNat+1) ∣ wsN m:=wsN_dvd fun x hx=>by have:=hm x hx;omega
 rw[← h,wsN] at d2
 exact two_pow_no ((Nat.dvd_add_left d1).1 d2)
theorem wsN_inj:∀{l m:Li},Inc l→Inc m→(∀x ∈ l,0≤x)→(∀x ∈ m,0≤x)→wsN l=wsN m→l=m
 |[],[],_,_,_,_,_=>rfl
 |[],b::m,_,_,_,_,h=>by
  have:=Nat.two_pow_pos b.toNat
  simp only[wsN] at h;omega
 |a::l,[],_,_,_,_,h=>by
  have:=Nat.two_pow_pos a.toNat
  simp only[wsN] at h;omega
 |a::l,b::m,h1,h2,h3,h4,h=>by
  obtain⟨l1,l2⟩:=List.pairwise_cons.1 h1
  obtain⟨m1,m2⟩:=List.pairwise_cons.1 h2
  rcases Int.lt_trichotomy a b with c|c|c
  ·exact absurd h (wsN_ne (h3 a (by simp)) l1 fun x hx=>by
    rcases List.mem_cons.1 hx with rfl|hx
    ·exact c
    ·have:=m1 x hx;omega)
  ·subst c
   simp only[wsN] at h
   rw[wsN_inj l2 m2 (fun x hx=>h3 x (List.mem_cons_of_mem _ hx)) (fun x hx=>h4 x (List.mem_cons_of_mem _ hx)) (by omega)]
  ·exact absurd h.symm (wsN_ne (h4 b (by simp)) m1 fun x hx=>by
    rcases List.mem_cons.1 hx with rfl|hx
    ·exact c
    ·have:=l1 x hx;omega)
theorem SetN.word_inj{s s':Li}{n:Int}(h:SetN s n)(h':SetN s' n)(e:wsN s=wsN s'):s=s':=
 wsN_inj h.1 h'.1 (fun x hx=>(h.2 x hx).1) (fun x hx=>(h'.2 x hx).1) e
end Ab
end
section
namespace Ab
open Go
/-! ### Lists compared -/
theorem listEq{α:Type}{a b:List α}{body:Int→Unit→Option (Unit⊕Bool)}(hl:a.length=b.length)(hb:∀j x y,ix a j=some x→ix b j=some y→(x=y∧body j ()=some (.inl ()))∨(x ≠ y∧body j ()=some (.inr false))):
  (Option.bind (rngX 0 (a.length:Int) body ()) fun| .inl _=>some true| .inr x=>some x)=some (dec (a=b)):=by
 rcases C5 (body:=body) (n:=(a.length:Int)) (fun j=>if dec (ix a j=ix b j)=true then none else some false) (by omega) (fun j h0 h1 _=>by
  obtain⟨x,hx,_⟩:=j8 (l:=a) h0 h1
  obtain⟨y,hy,_⟩:=j8 (l:=b) (i:=j) h0 (by omega)
  rcases hb j x y hx hy with⟨e,h⟩|⟨e,h⟩
  ·rw[h,ifP (by rw[hx,hy,e])]
  ·rw[h,ifN (by rw[hx,hy];simpa using e)]) with⟨h1,h2⟩|⟨j,o,h0,h1,h2,_,h4⟩
 ·rw[h1,p8]
  ·rfl
  ·refine List.ext_getElem? fun k=> ?_
   by_cases hk:k<a.length
   ·have:=h2 k (by omega) (by omega)
    split at this
    ·rename_i e
     have:=o9.1 e
     rwa [r7,r7] at this
    ·cases this
   ·rw[List.getElem?_eq_none (by omega),List.getElem?_eq_none (by omega)]
 ·rw[h4]
  split at h2
  ·cases h2
  ·rename_i e
   cases h2
   rw[u3 (fun h=>e (p8 (by rw[h])))];rfl
theorem ints_eq(a b:Li):W7 a b=some (dec (a=b)):=by
 unfold W7
 by_cases hl:(a.length:Int)=b.length
 ·rw[if_pos hl]
  refine listEq (by omega) fun j x y hx hy=> ?_
  unfold ah4
  simp only[hx,hy,oB]
  by_cases e:x=y
  ·rw[if_pos e];exact .inl ⟨e,rfl⟩
  ·rw[if_neg e];exact .inr ⟨e,rfl⟩
 ·rw[if_neg hl,u3 (fun h=>hl (by rw[h]))]
theorem equal_eq(a b:Li):x4 a b=some (dec (a=b)):=by
 unfold x4
 by_cases hl:(a.length:Int)=b.length
 ·rw[if_pos hl]
  refine listEq (by omega) fun j x y hx hy=> ?_
  unfold J7
  simp only[hx,hy,oB]
  by_cases e:x=y
  ·rw[if_pos e];exact .inl ⟨e,rfl⟩
  ·rw[if_neg e];exact .inr ⟨e,rfl⟩
 ·rw[if_neg hl,u3 (fun h=>hl (by rw[h]))]
/-! ### Ordered lists -/
abbrev Ord(l:LL):Prop:=l.Pairwise llt
theorem Ord.ext:∀{l m:LL},Ord l→Ord m→(∀x,x ∈ l↔x ∈ m)→l=m
 |[],[],_,_,_=>rfl
 |[],b::m,_,_,h=>absurd ((h b).2 (by simp)) (by simp)
 |a::l,[],_,_,h=>absurd ((h a).1 (by simp)) (by simp)
 |a::l,b::m,hl,hm,h=>by
  obtain⟨l1,l2⟩:=List.pairwise_cons.1 hl
  obtain⟨m1,m2⟩:=List.pairwise_cons.1 hm
  have hab:a=b:=by
   rcases List.mem_cons.1 ((h a).1 (by simp)) with e|e
   ·exact e
   ·rcases List.mem_cons.1 ((h b).2 (by simp)) with e'|e'
    ·exact e'.symm
    ·exact(ai2 (l1 b e') (m1 a e)).elim
  subst hab
  rw[Ord.ext l2 m2 fun x=>⟨fun hx=> ?_,fun hx=> ?_⟩]
  ·rcases List.mem_cons.1 ((h x).1 (by simp[hx])) with e|e
   ·subst e;exact absurd (l1 x hx) (E9 x)
   ·exact e
  ·rcases List.mem_cons.1 ((h x).2 (by simp[hx])) with e|e
   ·subst e;exact absurd (m1 x hx) (E9 x)
   ·exact e
theorem Ord.get{l:LL}(h:Ord l){i j:Int}{a b:Li}(hi:ix l i=some a)(hj:ix l j=some b)(hij:i<j):llt a b:=by
 obtain⟨i0,i1,hi⟩:=v8 hi
 obtain⟨j0,j1,hj⟩:=v8 hj
 obtain⟨h1,rfl⟩:=lG.1 hi
 obtain⟨h2,rfl⟩:=lG.1 hj
 exact List.pairwise_iff_getElem.1 h _ _ h1 h2 (by omega)
theorem Ord.inj{l:LL}(h:Ord l){i j:Int}{a:Li}(hi:ix l i=some a)(hj:ix l j=some a):i=j:=by
 rcases Int.lt_trichotomy i j with e|e|e
 ·exact absurd (h.get hi hj e) (E9 a)
 ·exact e
 ·exact absurd (h.get hj hi e) (E9 a)
def ddN(l:LL):Nat→LL
 |0=>[]
 |m+1=>ddN l m++if decide (m=0∨l[m]? ≠ l[m - 1]?)=true then l[m]?.toList else []
theorem ddN_spec{l:LL}(hs:l.Pairwise fun a b=>¬ llt b a):∀m,m≤l.length→Ord (ddN l m)∧∀x,x ∈ ddN l m↔x ∈ l.take m:=by
 intro m
 induction m with
 |zero=>intro _;simp[ddN]
 |succ m ih=>
  intro hm
  obtain⟨h1,h2⟩:=ih (by omega)
  have hlt:m<l.length:=by omega
  have ht:l.take (m+1)=l.take m++[l[m]]:=by rw[List.take_add_one];simp[hlt]
  rw[ddN,ht]
  by_cases hk:m=0∨l[m]? ≠ l[m - 1]?
  ·rw[if_pos (by simpa using hk)]
   simp only[List.getElem?_eq_getElem hlt,Option.toList_some]
   refine⟨List.pairwise_append.2 ⟨h1,by simp,fun a ha b hb=> ?_⟩,fun x=>by rw[List.mem_append,List.mem_append,h2]⟩
   simp only[List.mem_singleton] at hb
   subst hb
   have ha':=(h2 a).1 ha
   obtain⟨i,hi,rfl⟩:=List.mem_iff_getElem.1 ha'
   rw[List.length_take] at hi
   rw[List.getElem_take]
   rcases hk with hk|hk
   ·omega
   ·have hm1:m - 1<l.length:=by omega
    rw[List.getElem?_eq_getElem hlt,List.getElem?_eq_getElem hm1] at hk
    have e1:¬ llt l[m] l[m - 1]:=List.pairwise_iff_getElem.1 hs (m - 1) m hm1 hlt (by omega)
    have e2:llt l[m - 1] l[m]:=by
     rcases N6 l[m - 1] l[m] with h|h|h
     ·exact h
     ·exact absurd (by rw[h]) hk
     ·exact absurd h e1
    by_cases hi2:i=m - 1
    ·subst hi2;exact e2
    ·have e3:¬ llt l[m - 1] l[i]:=List.pairwise_iff_getElem.1 hs i (m - 1) (by omega) hm1 (by omega)
     rcases N6 l[i] l[m] with h|h|h
     ·exact h
     ·rw[h] at e3;exact absurd e2 e3
     ·exact absurd (H6 e2 h) e3
  ·rw[if_neg (by simpa using hk),List.append_nil]
   refine⟨h1,fun x=> ?_⟩
   rw[h2,List.mem_append]
   refine⟨.inl,fun h=> ?_⟩
   rcases h with h|h
   ·exact h
   ·simp only[List.mem_singleton] at h
    subst h
    have hm0:m ≠ 0:=fun e=>hk (.inl e)
    have he:l[m]? =l[m - 1]? :=Classical.not_not.1 fun e=>hk (.inr e)
    rw[List.getElem?_eq_getElem hlt,List.getElem?_eq_getElem (show m - 1<l.length by omega)] at he
    rw[Option.some.inj he,List.mem_take_iff_getElem]
    exact⟨m - 1,by omega,rfl⟩
theorem ddN_len(l:LL):∀m,(ddN l m).length≤m
 |0=>by simp[ddN]
 |m+1=>by
  have:=ddN_len l m
  rw[ddN,List.length_append]
  split
  ·have:(l[m]?.toList).length≤1:=by cases l[m]? <;>simp
   omega
  ·simp;omega
theorem ddN_all{l:LL}:∀m,m≤l.length→(∀i,0<i→i<m→l[i]? ≠ l[i - 1]?)→ddN l m=l.take m
 |0,_,_=>by simp[ddN]
 |m+1,hm,h=>by
  rw[ddN,ddN_all m (by omega) fun i h0 h1=>h i h0 (by omega),if_pos,List.take_add_one]
  rw[decide_eq_true_eq]
  by_cases e:m=0
  ·exact .inl e
  ·exact .inr (h m (by omega) (by omega))
theorem compactF_eq{l:LL}(hl:l.length≤1000000):w4 l=some (ddN l l.length):=by
 unfold w4
 by_cases c0:(l.length:Int)<2
 ·rw[if_pos c0,ddN_all l.length (Nat.le_refl _) fun i h0 h1=>by omega,List.take_length]
 ·rw[if_neg c0]
  have key:=rngN_inv (body:=n9 l) (fun j _=>∀i:Nat,0<i→(i:Int)<j→l[i]? ≠ l[i - 1]?) (fun o=>o=ddN l l.length) ((l.length:Int) - 1).toNat 1 () (fun i h0 h1=>by omega) (fun j _ j0 j1 hP=>by
   obtain⟨a,ha,ga⟩:=j8 (l:=l) (i:=j) (by omega) (by omega)
   obtain⟨b,hb,gb⟩:=j8 (l:=l) (i:=j - 1) (by omega) (by omega)
   unfold n9
   simp only[ha,hb,oB,equal_eq]
   have ej:(j - 1).toNat=j.toNat - 1:=by omega
   rw[ej] at gb
   by_cases c:a=b
   ·rw[ifP c]
    subst c
    right
    rw[show cutV (l.length:Int) j (l.length:Int)=some () by rw[cutV,if_pos (by omega)]]
    simp only[oB]
    obtain⟨⟨cs,kv⟩,r1,r2,r3,r4,r5,r6⟩:=forN_inv (body:=u6 l j) (fun k2 p=>p.1.length=l.length∧j≤p.2∧p.2≤j+k2 - 1∧p.1.take p.2.toNat=ddN l (j+k2).toNat∧∀i:Nat,j+k2 - 1≤i→p.1[i]? =l[i]?) ((l.length:Int) - j - 1).toNat 1 (l,j) ⟨rfl,by simp,by dsimp only;omega,by
      dsimp only
      rw[show(j+1).toNat=j.toNat+1 by omega,ddN,if_neg,List.append_nil,ddN_all j.toNat (by omega) fun i h0 h1=>hP i h0 (by omega)]
      rw[decide_eq_true_eq]
      rintro (h|h)
      ·omega
      ·exact h (ga.trans gb.symm),fun i _=>rfl⟩ (fun k2 ⟨cs,kv⟩ k0 k1 ⟨g1,g2,g3,g4,g5⟩=>by
      dsimp only at g1 g2 g3 g4 g5 ⊢
      obtain⟨x,hx,gx⟩:=j8 (l:=l) (i:=j+k2) (by omega) (by omega)
      obtain⟨y,hy,gy⟩:=j8 (l:=l) (i:=j+k2 - 1) (by omega) (by omega)
      have iv:∀i:Int,0≤i→i<(l.length:Int) - j→ixV cs (0+j) ((l.length:Int) - j) i=ix cs (j+i):=fun i h0 h1=>by
       rw[ixV,if_pos (by omega),Int.zero_add]
      have same:∀i:Int,j+k2 - 1≤i→ix cs i=ix l i:=fun i hi=>by
       have:=g5 i.toNat (by omega)
       simp only[ix]
       rw[this]
      unfold u6
      dsimp only
      rw[iv k2 (by omega) (by omega),iv (k2 - 1) (by omega) (by omega),show j+(k2 - 1)=j+k2 - 1 by omega,same _ (by omega),same _ (by omega),hx,hy]
      simp only[oB,equal_eq,y6]
      have ek:(j+(k2+1)).toNat=(j+k2).toNat+1:=by omega
      have ek1:(j+k2 - 1).toNat=(j+k2).toNat - 1:=by omega
      rw[ek1] at gy
      by_cases cx:x=y
      ·rw[ifNN cx]
       refine⟨_,rfl,g1,g2,by omega,?_,fun i hi=>g5 i (by omega)⟩
       dsimp only
       rw[ek,ddN,if_neg,List.append_nil]
       ·exact g4
       ·rw[decide_eq_true_eq]
        rintro (h|h)
        ·omega
        ·exact h (by rw[gx,gy,cx])
      ·rw[ifP cx]
       obtain⟨z,hz,gz⟩:=j8 (l:=cs) (i:=kv) (by omega) (by omega)
       simp only[hz,oB]
       rw[u5 (by omega) (by omega)]
       refine⟨_,rfl,by rw[lS];exact g1,by omega,by omega,?_,fun i hi=> ?_⟩
       ·dsimp only
        rw[ek,ddN,if_pos,gx,show(kv+1).toNat=kv.toNat+1 by omega,List.take_add_one,List.getElem?_set,if_pos rfl,if_pos (by omega),List.take_set_of_le (Nat.le_refl _),g4]
        rw[decide_eq_true_eq]
        exact .inr (by rw[gx,gy];simpa using cx)
       ·dsimp only
        rw[List.getElem?_set,if_neg (by omega)]
        exact g5 i (by omega))
    have ef:forR 1 ((l.length:Int) - j) (u6 l j) (l,j)=some (cs,kv):=r1
    dsimp only at r2 r3 r4 r5 r6
    rw[ef]
    simp only[oB]
    have hcl:(clrL cs (0+kv) ((cs.length:Int) - kv) []).length=cs.length:=by simp[clrL];omega
    rw[show cutV (cs.length:Int) kv (cs.length:Int)=some () by rw[cutV,if_pos (by omega)]]
    simp only[oB,hcl]
    rw[show cutV (cs.length:Int) 0 kv=some () by rw[cutV,if_pos (by omega)]]
    refine⟨_,rfl,?_⟩
    have e1:n7 (clrL cs (0+kv) ((cs.length:Int) - kv) []) 0 kv=cs.take kv.toNat:=by
     simp only[n7,clrL,Int.zero_add,Int.toNat_zero,List.drop_zero]
     rw[List.append_assoc,List.take_append_of_le_length (by simp;omega),List.take_take,Nat.min_self]
    rw[e1,r5]
    congr 1
    omega
   ·rw[ifN c]
    left
    refine⟨(),rfl,fun i h0 h1=> ?_⟩
    by_cases e:(i:Int)=j
    ·have:i=j.toNat:=by omega
     subst this
     rw[ga,gb]
     simpa using c
    ·exact hP i h0 (by omega))
  rcases key with⟨_,h1,h2⟩|⟨o,h1,rfl⟩
  ·have:rngX 1 (l.length:Int) (n9 l) ()=some (.inl ()):=h1
   rw[this]
   simp only[oB]
   rw[ddN_all l.length (Nat.le_refl _) fun i h0 h1=>h2 i h0 (by omega),List.take_length]
  ·have:rngX 1 (l.length:Int) (n9 l) ()=some (.inr (ddN l l.length)):=h1
   rw[this];rfl
theorem normal_eq{l:LL}(hl:l.length≤1000000):∃r,D7 l=some r∧Ord r∧(∀x,x ∈ r↔x ∈ l)∧r.length≤l.length:=by
 unfold D7
 rw[sortLL_ms (by omega)]
 simp only[oB]
 have hlen:(l.mergeSort fun x y=>decide (¬ cmpL y x<0)).length=l.length:=by simp
 rw[compactF_eq (by rw[hlen];exact hl)]
 have hs:(l.mergeSort fun x y=>decide (¬ cmpL y x<0)).Pairwise fun a b=>¬ llt b a:=by
  have:=List.pairwise_mergeSort (le:=fun x y:Li=>decide (¬ cmpL y x<0)) (fun a b c h1 h2=>by
   simp only[decide_eq_true_eq,F9] at h1 h2 ⊢
   intro h
   rcases N6 b a with g|g|g
   ·exact h1 g
   ·subst g;exact h2 h
   ·exact h2 (H6 h g)) (fun a b=>by
   simp only[Bool.or_eq_true,decide_eq_true_eq,F9]
   by_cases h:llt b a
   ·exact .inr fun g=>ai2 h g
   ·exact .inl h) l
  exact this.imp fun h=>by simpa[F9] using h
 obtain⟨h1,h2⟩:=ddN_spec hs _ (Nat.le_refl _)
 refine⟨_,rfl,h1,fun x=> ?_,?_⟩
 ·rw[h2,List.take_length];simp
 ·have:=ddN_len (l.mergeSort fun x y=>decide (¬ cmpL y x<0)) (l.mergeSort fun x y=>decide (¬ cmpL y x<0)).length
  rw[hlen] at this
  rw[hlen];exact this
end Ab
end
section
namespace Ab
open Go
/-! ### Binary search by a key -/
def bsl{A B:Type}(xv:List A)(target:B)(cmp:A→B→Option Int):(Int×Int)→Option ((Int×Int)⊕Int):=fun(iv4,j5)=>if iv4<j5 then Option.bind (ix xv (w64 (shrW .u64 ((IntKind.u64).wrap (w64 (iv4+j5))) 1))) fun a27=>Option.bind (cmp a27 target) fun a30=>if a30<0 then some (.inl (w64 ((w64 (shrW .u64 ((IntKind.u64).wrap (w64 (iv4+j5))) 1))+1),j5)) else some (.inl (iv4,w64 (shrW .u64 ((IntKind.u64).wrap (w64 (iv4+j5))) 1))) else some (.inr iv4)
noncomputable def bsf{A B:Type}(xv:List A)(target:B)(cmp:A→B→Option Int):Option (Int×Bool):=Option.bind (Loop (bsl xv target cmp) (0,(xv.length:Int))) fun iv6=>Option.bind (if iv6<(xv.length:Int) then Option.bind (ix xv iv6) fun a43=>Option.bind (cmp a43 target) fun a46=>some (decide (a46=0)) else some false) fun t9=>some (iv6,t9)
theorem ad9{A:Type}{key:A→Li}{xs:List A}(h:Ord (xs.map key)){i j:Int}{a b:A}(hi:ix xs i=some a)(hj:ix xs j=some b)(hij:i<j):llt (key a) (key b):=by
 obtain⟨i0,i1,hi⟩:=v8 hi
 obtain⟨j0,j1,hj⟩:=v8 hj
 refine h.get (i:=i) (j:=j) ?_ ?_ hij
 ·rw[ix,if_pos i0,lM,hi];rfl
 ·rw[ix,if_pos j0,lM,hj];rfl
theorem bsf_full{A:Type}{key:A→Li}{xs:List A}{t:Li}{cmp:A→Li→Option Int}(hs:Ord (xs.map key))(hl:xs.length≤500000)(hc:∀a,cmp a t=some (cmpL (key a) t)):
  ∃i,bsf xs t cmp=some (i,dec (∃a ∈ xs,key a=t))∧0≤i∧(∀k a,ix xs k=some a→key a=t→k=i)∧i≤xs.length∧(∀k a,0≤k→k<i→ix xs k=some a→llt (key a) t)∧(∀k a,i≤k→ix xs k=some a→¬ llt (key a) t):=by
 unfold bsf
 obtain⟨i,h1,h2,h3,h4,h5⟩:=M6 (body:=bsl xs t cmp) (fun p=>(0≤p.1∧p.1≤p.2∧p.2≤xs.length)∧(∀k a,0≤k→k<p.1→ix xs k=some a→llt (key a) t)∧(∀k a,p.2≤k→ix xs k=some a→¬ llt (key a) t))
  (fun i=>0≤i∧i≤xs.length∧(∀k a,0≤k→k<i→ix xs k=some a→llt (key a) t)∧(∀k a,i≤k→ix xs k=some a→¬ llt (key a) t)) (fun p=>(p.2 - p.1).toNat) (s:=(0,(xs.length:Int)))
  ⟨⟨by simp,by simp,by simp⟩,fun k a h1 h2=>by simp at h2;omega,fun k a h1 h2=>by have:=(v8 h2).2.1;simp at h1;omega⟩ (fun⟨i,j⟩ ⟨⟨g1,g2,g3⟩,g4,g5⟩=>by
  dsimp only at g1 g2 g3 g4 g5 ⊢
  unfold bsl
  dsimp only
  by_cases c:i<j
  ·rw[if_pos c,half_eq g1 g2 (by omega)]
   obtain⟨a,ha,ga⟩:=j8 (l:=xs) (i:=(i+j) / 2) (by omega) (by omega)
   rw[ha]
   simp only[oB,hc,F9]
   by_cases c2:llt (key a) t
   ·rw[if_pos (F9.2 c2),u5 (by omega) (by omega)]
    refine .inl ⟨_,rfl,⟨⟨by dsimp only;omega,by dsimp only;omega,g3⟩,fun k b k0 k1 hb=> ?_,g5⟩,by dsimp only;omega⟩
    dsimp only at k1
    by_cases e:k=(i+j) / 2
    ·subst e;rw[ha] at hb;cases hb;exact c2
    ·exact H6 (ad9 hs hb ha (by omega)) c2
   ·rw[if_neg (fun h=>c2 (F9.1 h))]
    refine .inl ⟨_,rfl,⟨⟨g1,by dsimp only;omega,by dsimp only;omega⟩,g4,fun k b k0 hb=> ?_⟩,by dsimp only;omega⟩
    dsimp only at k0
    by_cases e:k=(i+j) / 2
    ·subst e;rw[ha] at hb;cases hb;exact c2
    ·exact fun h=>c2 (H6 (ad9 hs ha hb (by omega)) h)
  ·rw[if_neg c]
   have:i=j:=by omega
   subst this
   exact .inr ⟨i,rfl,g1,g3,g4,g5⟩)
 rw[h1]
 simp only[oB]
 have uniq:∀k a,ix xs k=some a→key a=t→k=i:=fun k a hk he=>by
  rcases Int.lt_trichotomy k i with c|c|c
  ·have:=h4 k a (v8 hk).1 c hk;rw[he] at this;exact absurd this (E9 t)
  ·exact c
  ·obtain⟨b,hb,gb⟩:=j8 (l:=xs) (i:=i) h2 (by have:=(v8 hk).2.1;omega)
   have:=ad9 hs hb hk c
   rw[he] at this
   exact absurd this (h5 i b (Int.le_refl _) hb)
 refine⟨i,?_,h2,uniq,h3,h4,h5⟩
 by_cases c:i<xs.length
 ·obtain⟨a,ha,ga⟩:=j8 (l:=xs) (i:=i) (by omega) c
  rw[if_pos c,ha]
  simp only[oB,hc]
  by_cases c2:key a=t
  ·rw[decide_eq_true (cmpL_eq.2 c2),p8 ⟨a,r8 ha,c2⟩]
  ·rw[decide_eq_false (fun h=>c2 (cmpL_eq.1 h)),u3]
   rintro ⟨b,hb,e⟩
   obtain⟨k,k0,k1,hk⟩:=w8 hb
   have:=uniq k b hk e
   subst this
   rw[hk] at ha;cases ha;exact c2 e
 ·rw[if_neg c]
  simp only[oB]
  rw[u3]
  rintro ⟨b,hb,e⟩
  obtain⟨k,k0,k1,hk⟩:=w8 hb
  have:=uniq k b hk e
  omega
theorem bsf_eq{A:Type}{key:A→Li}{xs:List A}{t:Li}{cmp:A→Li→Option Int}(hs:Ord (xs.map key))(hl:xs.length≤500000)(hc:∀a,cmp a t=some (cmpL (key a) t)):
  ∃i,bsf xs t cmp=some (i,dec (∃a ∈ xs,key a=t))∧0≤i∧∀k a,ix xs k=some a→key a=t→k=i:=by
 obtain⟨i,h1,h2,h3,_⟩:=bsf_full hs hl hc
 exact⟨i,h1,h2,h3⟩
theorem bsets_eq{xs:LL}{t:Li}(hs:Ord xs)(hl:xs.length≤500000):∃i,j9 xs t slices_Compare_int_int=some (i,dec (t ∈ xs))∧0≤i∧∀k,ix xs k=some t→k=i:=by
 obtain⟨i,h1,h2,h3⟩:=bsf_eq (key:=fun a=>a) (xs:=xs) (t:=t) (cmp:=slices_Compare_int_int) (by simpa using hs) hl (fun a=>ae1 a t)
 refine⟨i,?_,h2,fun k hk=>h3 k t hk rfl⟩
 have:j9 xs t slices_Compare_int_int=bsf xs t slices_Compare_int_int:=rfl
 rw[this,h1]
 simp
/-! ### The order that the specification tells -/
theorem before_eq{a b:Li}(ha:a.length≤1000000):ab2 a b=some (dec (llt a b)):=by
 unfold ab2
 obtain⟨o,h1,h2⟩:=M6 (body:=aa6 a b) (fun k=>0≤k∧k≤a.length∧k≤b.length∧a.take k.toNat=b.take k.toNat) (fun o=>(match o with| .inl _=>some (decide ((a.length:Int)<(b.length:Int)))| .inr x=>some x)=some (dec (llt a b))) (fun k=>(a.length - k).toNat) (s:=0) ⟨by omega,by omega,by omega,by simp⟩ (fun k ⟨g0,g1,g2,g3⟩=>by
  have hd:=am6 (a:=a) (b:=b) k.toNat (by omega) (by omega) g3
  unfold aa6
  by_cases c:k<a.length∧k<b.length
  ·rw[if_pos (by simpa using c)]
   obtain⟨x,hx,gx⟩:=j8 (l:=a) g0 c.1
   obtain⟨y,hy,gy⟩:=j8 (l:=b) g0 c.2
   have da:a.drop k.toNat=x::a.drop (k.toNat+1):=by
    obtain⟨hlt,rfl⟩:=lG.1 gx
    exact List.drop_eq_getElem_cons hlt
   have db:b.drop k.toNat=y::b.drop (k.toNat+1):=by
    obtain⟨hlt,rfl⟩:=lG.1 gy
    exact List.drop_eq_getElem_cons hlt
   rw[da,db] at hd
   simp only[hx,hy,oB]
   by_cases e:x=y
   ·subst e
    rw[if_pos rfl,u5 (by omega) (by omega)]
    refine .inl ⟨k+1,rfl,⟨by omega,by omega,by omega,?_⟩,by omega⟩
    rw[show(k+1).toNat=k.toNat+1 by omega,List.take_add_one,List.take_add_one,gx,gy,g3]
   ·rw[if_neg e]
    refine .inr ⟨_,rfl,?_⟩
    dsimp only
    rw[X7]
    refine congrArg some (O1 ?_)
    rw[hd]
    exact⟨fun h=>.inl h,fun h=>h.resolve_right fun g=>e g.1⟩
  ·rw[if_neg (by simpa using c)]
   refine .inr ⟨_,rfl,?_⟩
   dsimp only
   rw[X7]
   refine congrArg some (O1 ?_)
   rw[hd]
   by_cases ca:k<a.length
   ·have db:b.drop k.toNat=[]:=List.drop_of_length_le (by omega)
    rw[db]
    constructor
    ·intro h;omega
    ·intro h;cases h':a.drop k.toNat with
     |nil=>rw[h'] at h;exact h.elim
     |cons z l=>rw[h'] at h;exact h.elim
   ·have da:a.drop k.toNat=[]:=List.drop_of_length_le (by omega)
    rw[da]
    constructor
    ·intro h
     cases h':b.drop k.toNat with
     |nil=>have:=List.drop_eq_nil_iff.1 h';omega
     |cons z l=>trivial
    ·intro h
     cases h':b.drop k.toNat with
     |nil=>rw[h'] at h;exact h.elim
     |cons z l=>
      have:¬ b.length≤k.toNat:=fun g=>by rw[List.drop_of_length_le g] at h';cases h'
      omega)
 rw[h1]
 simp only[oB]
 exact h2
end Ab
end
section
namespace Ab
open Go
def Q1(x:j3)(n:Int):Prop:=SetN x.add n∧SetN x.del n∧∀a ∈ x.add,a ∉ x.del
def xWt(x:j3):Prop:=1≤x.weight∧x.weight≤6
noncomputable def Q2(n:Int)(x:j3):Int:=if dec (Q1 x n)=true then if dec (xWt x)=true then 0 else 3 else 5
noncomputable def G4(n:Int):List j3→Int
 |[]=>0
 |x::l=>if Q2 n x=0 then G4 n l else Q2 n x
theorem xCode_zero{n:Int}{x:j3}:Q2 n x=0↔Q1 x n∧xWt x:=by
 unfold Q2
 by_cases c1:Q1 x n
 ·rw[ifP c1]
  by_cases c2:xWt x
  ·rw[ifP c2];exact⟨fun _=>⟨c1,c2⟩,fun _=>rfl⟩
  ·rw[ifN c2];exact⟨fun h=>by omega,fun h=>absurd h.2 c2⟩
 ·rw[ifN c1];exact⟨fun h=>by omega,fun h=>absurd h.1 c1⟩
theorem aj4{n:Int}:∀{l:List j3},G4 n l=0↔∀x ∈ l,Q1 x n∧xWt x
 |[]=>by simp[G4]
 |x::l=>by
  rw[G4]
  by_cases c:Q2 n x=0
  ·rw[if_pos c,aj4];simp[xCode_zero.1 c]
  ·rw[if_neg c]
   exact⟨fun h=>absurd h c,fun h=>absurd (xCode_zero.2 (h x (by simp))) c⟩
structure OOk(o:e9)(n:Int):Prop where
 pre:SetN o.pre n
 c0:0≤o.cost
 c1:o.cost≤100
 l0:1≤o.outcomes.length
 l1:o.outcomes.length≤4
 xs:∀x ∈ o.outcomes,Q1 x n∧xWt x
noncomputable def T1(o:e9)(n:Int):Int:=if dec (SetN o.pre n)=true then if dec (0≤o.cost∧o.cost≤100)=true then if dec (1≤(o.outcomes.length:Int)∧(o.outcomes.length:Int)≤4)=true then 0 else 9 else 3 else 5
noncomputable def O5(o:e9)(n:Int):Int:=if T1 o n=0 then G4 n o.outcomes else T1 o n
theorem al6{o:e9}{n:Int}:T1 o n=0↔SetN o.pre n∧(0≤o.cost∧o.cost≤100)∧(1≤(o.outcomes.length:Int)∧(o.outcomes.length:Int)≤4):=by
 unfold T1
 by_cases c1:SetN o.pre n
 ·rw[ifP c1]
  by_cases c2:0≤o.cost∧o.cost≤100
  ·rw[ifP c2]
   by_cases c3:1≤(o.outcomes.length:Int)∧(o.outcomes.length:Int)≤4
   ·rw[ifP c3];exact⟨fun _=>⟨c1,c2,c3⟩,fun _=>rfl⟩
   ·rw[ifN c3];exact⟨fun h=>by omega,fun h=>absurd h.2.2 c3⟩
  ·rw[ifN c2];exact⟨fun h=>by omega,fun h=>absurd h.2.1 c2⟩
 ·rw[ifN c1];exact⟨fun h=>by omega,fun h=>absurd h.1 c1⟩
theorem oCode_of{o:e9}{n:Int}(h:OOk o n):O5 o n=0:=by
 have:=h.l0;have:=h.l1
 rw[O5,if_pos (al6.2 ⟨h.pre,⟨h.c0,h.c1⟩,by omega,by omega⟩),aj4]
 exact h.xs
theorem oCode_ok{o:e9}{n:Int}(h:O5 o n=0):OOk o n:=by
 unfold O5 at h
 by_cases c:T1 o n=0
 ·rw[if_pos c] at h
  obtain⟨g1,g2,g3⟩:=al6.1 c
  exact⟨g1,g2.1,g2.2,by omega,by omega,aj4.1 h⟩
 ·rw[if_neg c] at h;exact absurd h c
theorem oc1{o:e9}{n:Int}(h0:0≤n)(h1:n≤24){j:Int}{x:j3}(hx:ix o.outcomes j=some x):D5 o n j ()=some (if Q2 n x=0 then .inl () else .inr (Q2 n x)):=by
 unfold D5
 rw[hx]
 simp only[oB,an0,y6]
 by_cases g1:SetN x.add n
 ·rw[ifNN g1]
  by_cases g2:SetN x.del n
  ·have:=g2.len
   rw[ifNN g2,meets_eq g2.1 (by omega)]
   simp only[oB]
   by_cases g3:∀a ∈ x.add,a ∉ x.del
   ·have g:Q1 x n:=⟨g1,g2,g3⟩
    rw[ifN (fun⟨a,ha,hb⟩=>g3 a ha hb)]
    unfold Q2
    rw[ifP g]
    by_cases g4:xWt x
    ·have g5:=g4
     unfold xWt at g5
     rw[ifP g4,if_neg (by simp;omega)];rfl
    ·have g5:=g4
     unfold xWt at g5
     rw[ifN g4,if_pos (by simp;omega)];rfl
   ·have g:¬ Q1 x n:=fun h=>g3 h.2.2
    rw[ifP (by
     rw[Classical.not_forall] at g3
     obtain⟨a,ha⟩:=g3
     exact⟨a,Classical.not_imp.1 ha|>.1,Classical.not_not.1 (Classical.not_imp.1 ha).2⟩)]
    unfold Q2
    rw[ifN g];rfl
  ·have g:¬ Q1 x n:=fun h=>g2 h.2.1
   rw[ifP g2]
   unfold Q2
   rw[ifN g];rfl
 ·have g:¬ Q1 x n:=fun h=>g1 h.1
  rw[ifP g1]
  unfold Q2
  rw[ifN g];rfl
theorem operatorCode_eq{o:e9}{n:Int}(h0:0≤n)(h1:n≤24):G5 o n=some (O5 o n):=by
 unfold G5
 simp only[an0,oB,y6]
 unfold O5 T1
 by_cases c1:SetN o.pre n
 ·rw[ifNN c1,ifP c1]
  by_cases c2:0≤o.cost∧o.cost≤100
  ·rw[if_neg (show ¬ ((decide (o.cost<0))||(decide (100<o.cost)))=true by rw[Bool.or_eq_true,decide_eq_true_eq,decide_eq_true_eq];omega),ifP c2]
   by_cases c3:1≤(o.outcomes.length:Int)∧(o.outcomes.length:Int)≤4
   ·rw[if_neg (show ¬ ((decide ((o.outcomes.length:Int)=0))||(decide (4<(o.outcomes.length:Int))))=true by rw[Bool.or_eq_true,decide_eq_true_eq,decide_eq_true_eq];omega),ifP c3,if_pos rfl]
    rcases aa5 (body:=D5 o n) (n:=(o.outcomes.length:Int)) (fun j _=>G4 n o.outcomes=G4 n (o.outcomes.drop j.toNat)) (fun c=>c=G4 n o.outcomes) (s:=()) (by omega) (by simp) (fun j _ j0 j1 hP=>by
     obtain⟨x,hx,gx⟩:=j8 (l:=o.outcomes) j0 j1
     have hd:o.outcomes.drop j.toNat=x::o.outcomes.drop (j.toNat+1):=by
      obtain⟨hlt,rfl⟩:=lG.1 gx
      exact List.drop_eq_getElem_cons hlt
     rw[oc1 h0 h1 hx]
     rw[hd,G4] at hP
     by_cases e:Q2 n x=0
     ·rw[if_pos e] at hP ⊢
      exact .inl ⟨(),rfl,by rw[hP,show(j+1).toNat=j.toNat+1 by omega]⟩
     ·rw[if_neg e] at hP ⊢
      exact .inr ⟨_,rfl,hP.symm⟩) with⟨_,r1,r2⟩|⟨c,r1,rfl⟩
    ·rw[r1,r2];simp[G4]
    ·rw[r1];rfl
   ·rw[if_pos (show((decide ((o.outcomes.length:Int)=0))||(decide (4<(o.outcomes.length:Int))))=true by rw[Bool.or_eq_true,decide_eq_true_eq,decide_eq_true_eq];omega),ifN c3];rfl
  ·rw[if_pos (show((decide (o.cost<0))||(decide (100<o.cost)))=true by rw[Bool.or_eq_true,decide_eq_true_eq,decide_eq_true_eq];omega),ifN c2];rfl
 ·rw[ifP c1,ifN c1];rfl
theorem of2{t:b7}{o:e9}(h0:0≤t.facts)(h1:t.facts≤24)(hl:o.outcomes.length≤1000000)(c:Int):Loop (A5 t o) (c,0)=some (if c=0 then G4 t.facts o.outcomes else c):=by
 obtain⟨r,r1,r2⟩:=M6 (body:=A5 t o) (fun p=>0≤p.2∧p.2≤o.outcomes.length∧(if c=0 then G4 t.facts o.outcomes else c)=if p.1=0 then G4 t.facts (o.outcomes.drop p.2.toNat) else p.1) (fun r=>r=if c=0 then G4 t.facts o.outcomes else c) (fun p=>(o.outcomes.length - p.2).toNat) (s:=(c,0)) ⟨by simp,by simp,by simp⟩ (fun⟨e,j⟩ ⟨g0,g1,g2⟩=>by
  dsimp only at g0 g1 g2 ⊢
  unfold A5
  dsimp only
  by_cases cj:j<o.outcomes.length∧e=0
  ·rw[if_pos (by simpa using cj)]
   obtain⟨x,hx,gx⟩:=j8 (l:=o.outcomes) g0 cj.1
   have hd:o.outcomes.drop j.toNat=x::o.outcomes.drop (j.toNat+1):=by
    obtain⟨hlt,rfl⟩:=lG.1 gx
    exact List.drop_eq_getElem_cons hlt
   rw[cj.2,if_pos rfl,hd,G4] at g2
   rw[hx]
   simp only[oB,ai3 (n:=t.facts) _ (show -9223372036854775808<t.facts by omega) (show t.facts≤9223372036854775807 by omega),disjoint_eq,in_eq,y6,cj.2]
   have hp:(if dec (¬ SetN x.add t.facts)=true then some true else if dec (¬ SetN x.del t.facts)=true then some true else some (dec (¬ ∀a ∈ x.add,a ∉ x.del)))=some (dec (¬ Q1 x t.facts)):=by
    unfold Q1
    by_cases k1:SetN x.add t.facts
    ·rw[ifNN k1]
     by_cases k2:SetN x.del t.facts
     ·rw[ifNN k2]
      exact congrArg some (O1 ⟨fun h k=>h k.2.2,fun h k=>h ⟨k1,k2,k⟩⟩)
     ·rw[ifP k2,p8 (fun k=>k2 k.2.1)]
    ·rw[ifP k1,p8 (fun k=>k1 k.1)]
   rw[hp]
   simp only[oB]
   rw[u5 (by omega) (by omega)]
   have fin:(if dec (¬ Q1 x t.facts)=true then some (5:Int) else if dec (¬ (1≤x.weight∧x.weight≤6))=true then some 3 else some 0)=some (Q2 t.facts x):=by
    unfold Q2
    by_cases k1:Q1 x t.facts
    ·rw[ifNN k1,ifP k1]
     by_cases k2:xWt x
     ·rw[ifNN (p:=1≤x.weight∧x.weight≤6) k2,ifP k2]
     ·rw[ifP (p:=¬ (1≤x.weight∧x.weight≤6)) k2,ifN k2]
    ·rw[ifP k1,ifN k1]
   rw[fin]
   simp only[oB]
   refine .inl ⟨_,rfl,⟨by dsimp only;omega,by dsimp only;omega,?_⟩,by dsimp only;omega⟩
   dsimp only
   rw[g2,show(j+1).toNat=j.toNat+1 by omega]
  ·rw[if_neg (by simpa using cj)]
   refine .inr ⟨e,rfl,?_⟩
   rw[g2]
   by_cases ce:e=0
   ·rw[if_pos ce,List.drop_of_length_le (by omega),G4,ce]
   ·rw[if_neg ce])
 rw[r1,r2]
structure m4(t:b7):Prop where
 n0:0≤t.facts
 n1:t.facts≤24
 init:SetN t.init t.facts
 goal:SetN t.goal t.facts
 ops:t.operators.length≤40
 op:∀o ∈ t.operators,OOk o t.facts
theorem oValidate_eq(t:b7):∃f,K1 t=some f∧aa3 t=some f∧((f=⟨0,0⟩∧m4 t)∨(f.code ≠ 0∧¬ m4 t)):=by
 unfold K1 aa3
 simp only[in_eq,at_eq,oB,y6]
 by_cases c1:0≤t.facts∧t.facts≤24
 ·rw[if_neg (by simp;omega),ifNN c1]
  simp only[an0,ai3 (n:=t.facts) _ (show -9223372036854775808<t.facts by omega) (show t.facts≤9223372036854775807 by omega),oB,y6]
  by_cases c2:SetN t.init t.facts
  ·rw[ifNN c2,ifNN c2]
   by_cases c3:SetN t.goal t.facts
   ·rw[ifNN c3,ifNN c3]
    by_cases c4:40<(t.operators.length:Int)
    ·rw[if_pos c4,if_pos c4]
     exact⟨_,rfl,rfl,.inr ⟨by simp,fun h=>by have:=h.ops;omega⟩⟩
    ·rw[if_neg c4,if_neg c4]
     have hb:∀j:Int,0≤j→j<t.operators.length→∃o,ix t.operators j=some o∧I8 t j ()=some (if O5 o t.facts=0 then .inl () else .inr ⟨O5 o t.facts,j⟩)∧G6 t j ()=some (if O5 o t.facts=0 then .inl () else .inr ⟨O5 o t.facts,j⟩):=fun j h0 h1=>by
      obtain⟨o,ho,_⟩:=j8 (l:=t.operators) h0 h1
      refine⟨o,ho,?_,?_⟩
      ·unfold I8
       rw[ho]
       simp only[oB,operatorCode_eq c1.1 c1.2]
       by_cases e:O5 o t.facts=0
       ·rw[if_pos e,if_pos e]
       ·rw[if_neg e,if_neg e]
      ·unfold G6
       rw[ho]
       simp only[oB,ai3 (n:=t.facts) _ (show -9223372036854775808<t.facts by omega) (show t.facts≤9223372036854775807 by omega),in_eq,at_eq,y6]
       have hp:(if dec (¬ SetN o.pre t.facts)=true then some (5:Int) else if dec (¬ (0≤o.cost∧o.cost≤100))=true then some 3 else if dec (¬ (1≤(o.outcomes.length:Int)∧(o.outcomes.length:Int)≤4))=true then some 9 else some 0)=some (T1 o t.facts):=by
        unfold T1
        by_cases g1:SetN o.pre t.facts
        ·rw[ifNN g1,ifP g1]
         by_cases g2:0≤o.cost∧o.cost≤100
         ·rw[ifNN g2,ifP g2]
          by_cases g3:1≤(o.outcomes.length:Int)∧(o.outcomes.length:Int)≤4
          ·rw[ifNN g3,ifP g3]
          ·rw[ifP g3,ifN g3]
         ·rw[ifP g2,ifN g2]
        ·rw[ifP g1,ifN g1]
       rw[hp]
       simp only[oB]
       by_cases eh:T1 o t.facts=0
       ·have:=al6.1 eh
        rw[of2 c1.1 c1.2 (by omega),if_pos eh]
        simp only[oB,O5,eh,if_true]
        split<;>rfl
       ·have nl:Loop (A5 t o) (T1 o t.facts,0)=some (T1 o t.facts):=by
         rw[Loop_eq]
         have:A5 t o (T1 o t.facts,0)=some (.inr (T1 o t.facts)):=by
          unfold A5
          dsimp only
          rw[if_neg (by simp[eh])]
         rw[this]
        rw[nl]
        simp only[oB,O5,if_neg eh]
     have heq:rngX 0 (t.operators.length:Int) (I8 t) ()=rngX 0 (t.operators.length:Int) (G6 t) ():=
      (rngX_eq (fun _ _=>True) (by omega) trivial (fun j s h0 h1 _=>by
       obtain⟨o,_,e1,e2⟩:=hb j h0 h1
       exact⟨by rw[e1,e2],by rw[e1];simp,fun _ _=>Y⟩)).1
     rcases C5 (body:=G6 t) (n:=(t.operators.length:Int)) (fun j=>match ix t.operators j with|some o=>if O5 o t.facts=0 then none else some (⟨O5 o t.facts,j⟩:i7)|none=>none) (by omega) (fun j h0 h1 _=>by
      obtain⟨o,e0,_,e2⟩:=hb j h0 h1
      rw[e2,e0]
      dsimp only
      split<;>rfl) with⟨h1,h2⟩|⟨j,f,h0,h1,h2,_,h4⟩
     ·rw[heq,h1]
      refine⟨⟨0,0⟩,rfl,rfl,.inl ⟨rfl,c1.1,c1.2,c2,c3,by omega,fun o ho=> ?_⟩⟩
      obtain⟨j,g0,g1,g2⟩:=w8 ho
      have:=h2 j g0 g1
      rw[g2] at this
      dsimp only at this
      split at this
      ·rename_i e;exact oCode_ok e
      ·cases this
     ·rw[heq,h4]
      obtain⟨o,e0,_,_⟩:=hb j h0 h1
      rw[e0] at h2
      dsimp only at h2
      split at h2
      ·cases h2
      ·rename_i e
       cases h2
       exact⟨_,rfl,rfl,.inr ⟨e,fun h=>e (oCode_of (h.op o (r8 e0)))⟩⟩
   ·rw[ifP c3,ifP c3]
    exact⟨_,rfl,rfl,.inr ⟨by simp,fun h=>c3 h.goal⟩⟩
  ·rw[ifP c2,ifP c2]
   exact⟨_,rfl,rfl,.inr ⟨by simp,fun h=>c2 h.init⟩⟩
 ·rw[if_pos (by simp;omega),if_pos (p8 c1)]
  exact⟨_,rfl,rfl,.inr ⟨by simp,fun h=>c1 ⟨h.n0,h.n1⟩⟩⟩
end Ab
end
section
namespace Ab
open Go
def noOO:e9:=⟨[],[],0⟩
def ooAt(t:b7)(op:Int):e9:=(t.operators[op.toNat]?).getD noOO
theorem ix_oo{t:b7}{op:Int}(h0:0≤op)(h1:op<t.operators.length):ix t.operators op=some (ooAt t op):=by
 obtain⟨a,h2,h3⟩:=j8 h0 h1
 rw[h2,ooAt,h3];rfl
def oCan(t:b7)(s:Li)(op:Int):Prop:=∀x ∈ (ooAt t op).pre,x ∈ s
noncomputable def efc(n:Int)(s:Li)(x:j3):Li:=setOf (fun p=>p ∈ x.add∨p ∈ s∧p ∉ x.del) n
theorem setN_efc(n:Int)(s:Li)(x:j3):SetN (efc n s x) n:=setN_setOf _ _
theorem m4.at{t:b7}(h:m4 t){op:Int}(h0:0≤op)(h1:op<t.operators.length):OOk (ooAt t op) t.facts:=h.op _ (r8 (ix_oo h0 h1))
theorem oCan_eq{t:b7}(ht:m4 t){op:Int}(h0:0≤op)(h1:op<t.operators.length){s:Li}(hs:SetN s t.facts):O9 t s op=some (dec (oCan t s op)):=by
 have:=ht.n1;have:=hs.len
 unfold O9
 rw[ix_oo h0 h1]
 simp only[oB]
 rw[P4 hs.1 (ht.at h0 h1).pre.1 (by omega)]
 rfl
theorem oApplies_eq{t:b7}{op:Int}(h0:0≤op)(h1:op<t.operators.length)(s:Li):ag6 t s op=some (dec (oCan t s op)):=by
 unfold ag6
 rw[ix_oo h0 h1]
 simp only[oB,subset_eq]
 rfl
theorem oUpdate_eq{n:Int}(hn:n≤24){s:Li}(hs:SetN s n){x:j3}(hx:Q1 x n):G3 s x.add x.del=some (efc n s x):=by
 have:=hx.2.1.len
 rw[update_eq (n:=n) (by omega) hx.2.1.1 (by omega) hs hx.1]
 exact congrArg some (setOf_congr fun _ _ _=>Or.comm)
/-! ### Policies -/
theorem ord_of_adj:∀{l:LL},(∀(k:Nat) a b,l[k]? =some a→l[k+1]? =some b→llt a b)→Ord l
 |[],_=>.nil
 |[_],_=>by simp
 |a::b::l,h=>by
  have ih:Ord (b::l):=ord_of_adj fun k x y h1 h2=>h (k+1) x y (by simpa using h1) (by simpa using h2)
  have hab:llt a b:=h 0 a b rfl rfl
  refine List.pairwise_cons.2 ⟨fun c hc=> ?_,ih⟩
  rcases List.mem_cons.1 hc with rfl|hc
  ·exact hab
  ·exact H6 hab ((List.pairwise_cons.1 ih).1 c hc)
structure H1(t:b7)(p:List d9):Prop where
 len:p.length≤200
 ord:Ord (p.map d9.state)
 set:∀c ∈ p,SetN c.state t.facts
 op:∀c ∈ p,0≤c.operator∧c.operator<t.operators.length
 can:∀c ∈ p,oCan t c.state c.operator
def pSet(t:b7)(p:List d9)(j:Int)(c:d9):Prop:=SetN c.state t.facts∧∀b,0<j→ix p (j - 1)=some b→llt b.state c.state
noncomputable def J1(t:b7)(p:List d9)(j:Int)(c:d9):Int:=if dec (pSet t p j c)=true then if dec (0≤c.operator∧c.operator<t.operators.length)=true then if dec (oCan t c.state c.operator)=true then 0 else 11 else 3 else 5
theorem pCode_zero{t:b7}{p:List d9}{j:Int}{c:d9}:J1 t p j c=0→pSet t p j c∧(0≤c.operator∧c.operator<t.operators.length)∧oCan t c.state c.operator:=by
 unfold J1
 by_cases c1:pSet t p j c
 ·rw[ifP c1]
  by_cases c2:0≤c.operator∧c.operator<t.operators.length
  ·rw[ifP c2]
   by_cases c3:oCan t c.state c.operator
   ·rw[ifP c3];exact fun _=>⟨c1,c2,c3⟩
   ·rw[ifN c3];exact fun h=>by omega
  ·rw[ifN c2];exact fun h=>by omega
 ·rw[ifN c1];exact fun h=>by omega
theorem pCode_of{t:b7}{p:List d9}(hp:H1 t p){j:Int}{c:d9}(hc:ix p j=some c):J1 t p j c=0:=by
 have hm:=r8 hc
 unfold J1
 rw[ifP ⟨hp.set c hm,fun b _ hb=>ad9 hp.ord hb hc (by omega)⟩,ifP (hp.op c hm),ifP (hp.can c hm)]
theorem pol1{t:b7}(ht:m4 t){p:List d9}{j:Int}{c:d9}(hl:p.length≤200)(hc:ix p j=some c):B4 t p j ()=some (if J1 t p j c=0 then .inl () else .inr ⟨J1 t p j c, -9 - j⟩):=by
 obtain⟨j0,j1,_⟩:=v8 hc
 have hn:=ht.n1
 unfold B4
 rw[hc]
 simp only[oB,an0,y6]
 have key:(if dec (¬ SetN c.state t.facts)=true then some true else if 0<j then Option.bind (ix p (j - 1)) fun a40=>Option.bind (slices_Compare_int_int a40.state c.state) fun a45=>some (decide (0≤a45)) else some false)=some (dec (¬ pSet t p j c)):=by
  by_cases g1:SetN c.state t.facts
  ·rw[ifNN g1]
   by_cases g2:0<j
   ·rw[if_pos g2]
    obtain⟨b,hb,_⟩:=j8 (l:=p) (i:=j - 1) (by omega) (by omega)
    rw[hb]
    simp only[oB,ae1,X7]
    refine congrArg some (O1 ?_)
    rw[cmpL_ge]
    exact⟨fun h g=>h (g.2 b g2 hb),fun h g=>h ⟨g1,fun b' _ hb'=>by rw[hb] at hb';cases hb';exact g⟩⟩
   ·rw[if_neg g2,u3]
    exact fun h=>h ⟨g1,fun _ g=>absurd g g2⟩
  ·rw[ifP g1,p8 (fun h=>g1 h.1)]
 rw[key]
 simp only[oB]
 rw[u5 (by omega) (by omega)]
 unfold J1
 by_cases g1:pSet t p j c
 ·rw[ifNN g1,ifP g1]
  by_cases g2:0≤c.operator∧c.operator<t.operators.length
  ·rw[if_neg (show ¬ ((decide (c.operator<0))||(decide ((t.operators.length:Int)≤c.operator)))=true by rw[Bool.or_eq_true,decide_eq_true_eq,decide_eq_true_eq];omega),ifP g2,oCan_eq ht g2.1 g2.2 g1.1]
   simp only[oB,y6]
   by_cases g3:oCan t c.state c.operator
   ·rw[ifNN g3,ifP g3];rfl
   ·rw[ifP g3,ifN g3];rfl
  ·rw[if_pos (show((decide (c.operator<0))||(decide ((t.operators.length:Int)≤c.operator)))=true by rw[Bool.or_eq_true,decide_eq_true_eq,decide_eq_true_eq];omega),ifN g2];rfl
 ·rw[ifP g1,ifN g1];rfl
theorem pol2{t:b7}(ht:m4 t){p:List d9}{j:Int}{c:d9}(hl:p.length≤200)(hw:0<j→∀b,ix p (j - 1)=some b→b.state.length≤1000000)(hc:ix p j=some c):E2 t p j ()=some (if J1 t p j c=0 then .inl () else .inr ⟨J1 t p j c, -9 - j⟩):=by
 obtain⟨j0,j1,_⟩:=v8 hc
 have hn:=ht.n1;have hn0:=ht.n0;have ho:=ht.ops
 unfold E2
 rw[hc]
 simp only[oB,ai3 (n:=t.facts) _ (show -9223372036854775808<t.facts by omega) (show t.facts≤9223372036854775807 by omega),in_eq,at_eq,y6]
 have key:(if dec (¬ SetN c.state t.facts)=true then some true else if 0<j then Option.bind (ix p (j - 1)) fun a39=>Option.bind (ab2 a39.state c.state) fun a47=>some (!a47) else some false)=some (dec (¬ pSet t p j c)):=by
  by_cases g1:SetN c.state t.facts
  ·rw[ifNN g1]
   by_cases g2:0<j
   ·rw[if_pos g2]
    obtain⟨b,hb,_⟩:=j8 (l:=p) (i:=j - 1) (by omega) (by omega)
    rw[hb]
    simp only[oB,before_eq (hw g2 b hb),y6]
    refine congrArg some (O1 ?_)
    exact⟨fun h g=>h (g.2 b g2 hb),fun h g=>h ⟨g1,fun b' _ hb'=>by rw[hb] at hb';cases hb';exact g⟩⟩
   ·rw[if_neg g2,u3]
    exact fun h=>h ⟨g1,fun _ g=>absurd g g2⟩
  ·rw[ifP g1,p8 (fun h=>g1 h.1)]
 rw[key]
 simp only[oB]
 rw[u5 (n:= -9 - j) (by omega) (by omega),u5 (n:=(t.operators.length:Int) - 1) (by omega) (by omega)]
 unfold J1
 by_cases g1:pSet t p j c
 ·rw[ifNN g1,ifP g1]
  by_cases g2:0≤c.operator∧c.operator<t.operators.length
  ·rw[ifN (show ¬ ¬ (0≤c.operator∧c.operator≤(t.operators.length:Int) - 1) by omega),ifP g2,oApplies_eq g2.1 g2.2]
   simp only[oB,y6]
   by_cases g3:oCan t c.state c.operator
   ·rw[ifNN g3,ifP g3];rfl
   ·rw[ifP g3,ifN g3];rfl
  ·rw[ifP (show ¬ (0≤c.operator∧c.operator≤(t.operators.length:Int) - 1) by omega),ifN g2];rfl
 ·rw[ifP g1,ifN g1];rfl
theorem policy_eq(t:b7)(p:List d9):∃f,B2 t p=some f∧ah1 t p=some f∧((f=⟨0,0⟩∧m4 t∧H1 t p)∨(f.code ≠ 0∧¬ (m4 t∧H1 t p))):=by
 obtain⟨f,h1,h2,h3⟩:=oValidate_eq t
 unfold B2 ah1
 rw[h1,h2]
 simp only[oB]
 rcases h3 with⟨rfl,ht⟩|⟨hc,hnt⟩
 ·rw[if_neg (by simp),if_pos rfl]
  by_cases c1:200<(p.length:Int)
  ·rw[if_pos c1,if_pos c1,at_eq]
   exact⟨_,rfl,rfl,.inr ⟨by simp,fun h=>by have:=h.2.len;omega⟩⟩
  ·rw[if_neg c1,if_neg c1]
   have hn:=ht.n1
   have hset:∀j:Int,(∀i,0≤i→i<j→(match ix p i with|some c=>if J1 t p i c=0 then none else some (⟨J1 t p i c, -9 - i⟩:i7)|none=>none)=none)→0<j→∀b,ix p (j - 1)=some b→b.state.length≤1000000:=fun j hj j0 b hb=>by
    have:=hj (j - 1) (by omega) (by omega)
    rw[hb] at this
    dsimp only at this
    split at this
    ·rename_i e
     have:=(pCode_zero e).1.1.len
     omega
    ·cases this
   rcases C5 (body:=B4 t p) (n:=(p.length:Int)) (fun j=>match ix p j with|some c=>if J1 t p j c=0 then none else some (⟨J1 t p j c, -9 - j⟩:i7)|none=>none) (by omega) (fun j h0 h1 _=>by
    obtain⟨c,e0,_⟩:=j8 (l:=p) h0 h1
    rw[pol1 ht (by omega) e0,e0]
    dsimp only
    split<;>rfl) with⟨a1,a2⟩|⟨j,f,a0,a1,a2,a3,a4⟩
   ·rcases C5 (body:=E2 t p) (n:=(p.length:Int)) (fun j=>match ix p j with|some c=>if J1 t p j c=0 then none else some (⟨J1 t p j c, -9 - j⟩:i7)|none=>none) (by omega) (fun j h0 h1 hj=>by
     obtain⟨c,e0,_⟩:=j8 (l:=p) h0 h1
     rw[pol2 ht (by omega) (hset j hj) e0,e0]
     dsimp only
     split<;>rfl) with⟨b1,b2⟩|⟨j',f',b0,b1,b2,b3,b4⟩
    ·rw[a1,b1]
     have all:∀j c,ix p j=some c→pSet t p j c∧(0≤c.operator∧c.operator<t.operators.length)∧oCan t c.state c.operator:=fun j c hc=>by
      have:=a2 j (v8 hc).1 (v8 hc).2.1
      rw[hc] at this
      dsimp only at this
      split at this
      ·rename_i e;exact pCode_zero e
      ·cases this
     have all':∀c ∈ p,SetN c.state t.facts∧(0≤c.operator∧c.operator<t.operators.length)∧oCan t c.state c.operator:=fun c hc=>by
      obtain⟨j,_,_,hj⟩:=w8 hc
      obtain⟨g1,g2,g3⟩:=all j c hj
      exact⟨g1.1,g2,g3⟩
     refine⟨_,rfl,rfl,.inl ⟨rfl,ht,by omega,ord_of_adj fun k a b ha hb=> ?_,fun c hc=>(all' c hc).1,fun c hc=>(all' c hc).2.1,fun c hc=>(all' c hc).2.2⟩⟩
     rw[lM] at ha hb
     cases ha':p[k]? with
     |none=>rw[ha'] at ha;cases ha
     |some a'=>
      cases hb':p[k+1]? with
      |none=>rw[hb'] at hb;cases hb
      |some b'=>
       rw[ha'] at ha;rw[hb'] at hb;cases ha;cases hb
       refine(all ((k+1:Nat):Int) b' (by rw[r7,hb'])).1.2 a' (by omega) ?_
       rw[show((k+1:Nat):Int) - 1=(k:Nat) by omega,r7,ha']
    ·rw[a2 j' b0 b1] at b2;cases b2
   ·rcases C5 (body:=E2 t p) (n:=(p.length:Int)) (fun j=>match ix p j with|some c=>if J1 t p j c=0 then none else some (⟨J1 t p j c, -9 - j⟩:i7)|none=>none) (by omega) (fun j h0 h1 hj=>by
     obtain⟨c,e0,_⟩:=j8 (l:=p) h0 h1
     rw[pol2 ht (by omega) (hset j hj) e0,e0]
     dsimp only
     split<;>rfl) with⟨b1,b2⟩|⟨j',f',b0,b1,b2,b3,b4⟩
    ·rw[b2 j a0 a1] at a2;cases a2
    ·have ej:j=j':=by
      rcases Int.lt_trichotomy j j' with h|h|h
      ·rw[b3 j a0 h] at a2;cases a2
      ·exact h
      ·rw[a3 j' b0 h] at b2;cases b2
     subst ej
     rw[a2] at b2
     cases b2
     rw[a4,b4]
     refine⟨_,rfl,rfl,.inr ?_⟩
     obtain⟨c,e0,_⟩:=j8 (l:=p) a0 a1
     rw[e0] at a2
     dsimp only at a2
     split at a2
     ·cases a2
     ·rename_i e;cases a2;exact⟨e,fun h=>e (pCode_of h.2 e0)⟩
 ·rw[if_pos (fault_no hc),if_neg hc]
  exact⟨f,rfl,rfl,.inr ⟨hc,fun h=>hnt h.1⟩⟩
/-! ### What a policy chooses -/
theorem rChosen_eq(p:List d9)(s:Li):∃r,aa8 p s=some r∧((r= -1∧∀c ∈ p,c.state ≠ s)∨∃c,c ∈ p∧c.state=s∧r=c.operator):=by
 unfold aa8
 rcases C5 (body:=Y7 p s) (n:=(p.length:Int)) (fun j=>match ix p j with|some c=>if dec (c.state=s)=true then some c.operator else none|none=>none) (by omega) (fun j h0 h1 _=>by
  obtain⟨x,hx,_⟩:=j8 (l:=p) h0 h1
  unfold Y7
  simp only[hx,oB,ints_eq]
  by_cases e:x.state=s
  ·rw[ifP e,ifP e]
  ·rw[ifN e,ifN e]) with⟨h1,h2⟩|⟨j,o,h0,h1,h2,h3,h4⟩
 ·rw[h1]
  refine⟨-1,rfl,.inl ⟨rfl,fun c hc he=> ?_⟩⟩
  obtain⟨i,i0,i1,hi⟩:=w8 hc
  have:=h2 i i0 i1
  rw[hi] at this
  dsimp only at this
  rw[ifP he] at this
  cases this
 ·rw[h4]
  obtain⟨c,hc,_⟩:=j8 (l:=p) h0 h1
  rw[hc] at h2
  dsimp only at h2
  split at h2
  ·rename_i e
   cases h2
   exact⟨_,rfl,.inr ⟨c,r8 hc,o9.1 e,rfl⟩⟩
  ·cases h2
theorem chosen_eq{t:b7}{p:List d9}(hp:H1 t p)(s:Li):∃r,B8 p s=some r∧aa8 p s=some r∧(r= -1∨(0≤r∧r<t.operators.length∧oCan t s r)):=by
 obtain⟨r,h1,h2⟩:=rChosen_eq p s
 refine⟨r,?_,h1,?_⟩
 ·unfold B8
  obtain⟨i,g1,g2,g3⟩:=bsf_eq (key:=d9.state) (xs:=p) (t:=s) (cmp:=open_Chosen_1) hp.ord (by have:=hp.len;omega) (fun a=>by unfold open_Chosen_1;rw[ae1];rfl)
  have:i5 p s open_Chosen_1=bsf p s open_Chosen_1:=rfl
  rw[this,g1]
  simp only[oB,y6]
  rcases h2 with⟨rfl,h⟩|⟨c,hc,he,rfl⟩
  ·rw[ifP]
   rintro ⟨a,ha,e⟩;exact h a ha e
  ·rw[ifNN ⟨c,hc,he⟩]
   obtain⟨k,_,_,hk⟩:=w8 hc
   have:=g3 k c hk he
   subst this
   rw[hk];rfl
 ·rcases h2 with⟨rfl,h⟩|⟨c,hc,he,rfl⟩
  ·exact .inl rfl
  ·have:=hp.op c hc
   exact .inr ⟨this.1,this.2,he ▸ hp.can c hc⟩
end Ab
end
section
namespace Ab
open Go
theorem ix_map{α β:Type}{f:α→β}{l:List α}{i:Int}:ix (l.map f) i=(ix l i).map f:=by
 simp only[ix]
 split
 ·rw[lM]
 ·rfl
theorem Ord.one{l m:LL}(hl:Ord l)(hm:Ord m){p:Li→Prop}(h1:∀y,y ∈ l↔p y)(h2:∀y,y ∈ m↔p y):l=m:=Ord.ext hl hm fun y=>(h1 y).trans (h2 y).symm
theorem cloneLL_eq{s:LL}(h:s.length≤1000000):w3 s=some s:=by
 rw[w3,app,if_pos (by simp;omega)];rfl
theorem results1{t:b7}{o:e9}(ho:OOk o t.facts)(hn:t.facts≤24){s:Li}(hs:SetN s t.facts):forR 0 (o.outcomes.length:Int) (L7 s o) []=some (o.outcomes.map (efc t.facts s)):=by
 have hl:=ho.l1
 obtain⟨c,h1,h2⟩:=G2 (body:=L7 s o) (n:=(o.outcomes.length:Int)) (s:=[]) (fun j c=>c=(o.outcomes.take j.toNat).map (efc t.facts s)) (by omega) (by simp) (fun j c j0 j1 hP=>by
  obtain⟨x,hx,gx⟩:=j8 (l:=o.outcomes) j0 j1
  unfold L7
  rw[hx]
  simp only[oB]
  rw[oUpdate_eq hn hs (ho.xs x (r8 hx)).1]
  simp only[oB]
  have hlen:c.length≤4:=by rw[hP,List.length_map,List.length_take];omega
  rw[app,if_pos (by simp;omega)]
  refine⟨_,rfl,?_⟩
  rw[show(j+1).toNat=j.toNat+1 by omega,List.take_add_one,gx,hP,List.map_append];rfl)
 rw[h1,h2]
 simp
theorem aj1{t:b7}(ht:m4 t){op:Int}(h0:0≤op)(h1:op<t.operators.length){s:Li}(hs:SetN s t.facts):∃st w,l8 t s op=some (st,w)∧Ord st∧(∀y,y ∈ st↔∃x ∈ (ooAt t op).outcomes,efc t.facts s x=y)∧st.length≤4∧w.length=st.length∧forR 0 ((ooAt t op).outcomes.length:Int) (D4 ((ooAt t op).outcomes.map (efc t.facts s)) st (ooAt t op)) (List.replicate st.length 0)=some w:=by
 have ho:=ht.at h0 h1
 have hl:=ho.l1
 unfold l8
 rw[ix_oo h0 h1]
 simp only[oB]
 rw[results1 ho ht.n1 hs]
 simp only[oB]
 rw[cloneLL_eq (by simp;omega)]
 simp only[oB]
 obtain⟨st,n1,n2,n3,n4⟩:=normal_eq (l:=(ooAt t op).outcomes.map (efc t.facts s)) (by simp;omega)
 have n4':st.length≤4:=by rw[List.length_map] at n4;omega
 have hm:mkL 8 (st.length:Int) (0:Int)=some (List.replicate st.length 0):=by
  rw[mkL,if_pos (by omega)];simp
 obtain⟨w,w1,w2⟩:=G2 (body:=D4 ((ooAt t op).outcomes.map (efc t.facts s)) st (ooAt t op)) (n:=((ooAt t op).outcomes.length:Int)) (s:=List.replicate st.length 0) (fun j c=>c.length=st.length) (by omega) (by simp) (fun j c j0 j1 hP=>by
  obtain⟨x,hx,gx⟩:=j8 (l:=(ooAt t op).outcomes) j0 j1
  have hmem:efc t.facts s x ∈ st:=(n3 _).2 (List.mem_map.2 ⟨x,r8 hx,rfl⟩)
  obtain⟨i,e1,e2,e3⟩:=bsets_eq (t:=efc t.facts s x) n2 (by omega)
  obtain⟨k,k0,k1,hk⟩:=w8 hmem
  have:=e3 k hk
  subst this
  obtain⟨z,hz,gz⟩:=j8 (l:=c) (i:=k) k0 (by omega)
  unfold D4
  rw[hx,ix_map,hx]
  simp only[oB,Option.map_some,e1,hz]
  exact⟨_,rfl,by rw[lS];exact hP⟩)
 rw[n1]
 simp only[oB,hm,w1]
 exact⟨st,w,rfl,n2,fun y=>by rw[n3,List.mem_map],n4',w2,w1⟩
/-! ### The coin -/
end Ab
end
section
namespace Ab
open Go
noncomputable def chO(p:List d9)(s:Li):Int:=(aa8 p s).getD (-1)
theorem ad7{t:b7}{p:List d9}(hp:H1 t p)(s:Li):B8 p s=some (chO p s)∧(chO p s= -1∨(0≤chO p s∧chO p s<t.operators.length∧oCan t s (chO p s))):=by
 obtain⟨r,h1,h2,h3⟩:=chosen_eq hp s
 have:chO p s=r:=by rw[chO,h2];rfl
 rw[this]
 exact⟨h1,h3⟩
theorem ifOr{a b:Prop}:(if dec a=true then some true else some (dec b))=some (dec (a∨b)):=by
 by_cases h:a
 ·rw[ifP h,p8 (.inl h)]
 ·rw[ifN h];exact congrArg some (O1 ⟨.inr,fun g=>g.resolve_left h⟩)
end Ab
end
section
namespace Ab
open Go
def dzO(o:e9)(x:j3):N8:=⟨o.pre,x.add,x.del,o.cost⟩
structure Dz(t:b7)(a k:Int)(c:List (Int×Int))(d:List N8):Prop where
 len:c.length=d.length
 most:(c.length:Int)≤4 * a+k
 each:∀i p,ix c i=some p→(0≤p.1∧p.1<t.operators.length)∧∃x ∈ (ooAt t p.1).outcomes,ix d i=some (dzO (ooAt t p.1) x)
 all:∀(b m:Int) (x:j3),0≤b→b<t.operators.length→ix (ooAt t b).outcomes m=some x→(b<a∨b=a∧m<k)→∃i,ix c i=some (b,m)∧ix d i=some (dzO (ooAt t b) x)
end Ab
end
section
namespace Ab
open Go
def dg(x:Int):Li:=if x<10 then [48+x] else [48+x / 10,48+x % 10]
def encS(s:Li):Li:=s.flatMap (fun x=>dg x++[44])++[59]
def encK(l:LL):Li:=l.flatMap encS
def keyK(l:LL):ByteArray:=strB (encK l)
/-! ### Maps -/
end Ab
end
section
namespace Ab
open Go
end Ab
end
section
namespace Ab
open Go
/-! ### Loops side by side -/
end Ab
end
section
namespace Ab
open Go
def Ext(a b:LL):Prop:=∀k y,ix a k=some y→ix b k=some y
theorem Ext.refl(a:LL):Ext a a:=fun _ _ h=>h
theorem Ext.mem{a b:LL}(h:Ext a b){y:Li}(hy:y ∈ a):y ∈ b:=by
 obtain⟨k,_,_,hk⟩:=w8 hy
 exact r8 (h k y hk)
theorem Ext.snoc{a b:LL}(h:Ext a b)(z:Li):Ext a (b++[z]):=fun k y hk=>by
 obtain⟨i0,i1,g⟩:=v8 (h k y hk)
 rw[ix,if_pos i0,List.getElem?_append_left (by omega),g]
theorem Ext.len{a b:LL}(h:Ext a b):a.length≤b.length:=by
 by_cases c:a.length=0
 ·omega
 ·obtain⟨y,hy,_⟩:=j8 (l:=a) (i:=(a.length:Int) - 1) (by omega) (by omega)
  have:=(v8 (h _ y hy)).2.1
  omega
structure Rc(t:b7)(l:LL)(m:List (ByteArray×Int))(ws:Li):Prop where
 set:∀s ∈ l,SetN s t.facts
 len:l.length≤2000
 map:∀s,SetN s t.facts→(0<Option.getD (mget m (keyK [s])) 0↔s ∈ l)
 wrd:ws=l.map fun s=>(wsN s:Int)
theorem Rc.has{t:b7}{l:LL}{m:List (ByteArray×Int)}{ws:Li}(h:Rc t l m ws){s:Li}(hs:SetN s t.facts):(wsN s:Int) ∈ ws↔s ∈ l:=by
 rw[h.wrd,List.mem_map]
 constructor
 ·rintro ⟨a,ha,e⟩
  have:a=s:=(h.set a ha).word_inj hs (by omega)
  exact this ▸ ha
 ·intro hm;exact⟨s,hm,rfl⟩
def ClS(t:b7)(l:LL)(s:Li)(n:Int):Prop:=∀op:Int,0≤op→op<n→oCan t s op→∀x ∈ (ooAt t op).outcomes,efc t.facts s x ∈ l
structure Cl(t:b7)(l:LL):Prop where
 len:l.length≤2000
 set:∀s ∈ l,SetN s t.facts
 init:t.init ∈ l
 closed:∀s ∈ l,ClS t l s t.operators.length
end Ab
end
section
namespace Ab
open Go
theorem nodup_len{α:Type}[DecidableEq α]:∀{c S:List α},c.Nodup→(∀x ∈ c,x ∈ S)→c.length≤S.length
 |[],_,_,_=>Nat.zero_le _
 |a::c,S,h,hs=>by
  obtain⟨h1,h2⟩:=List.nodup_cons.1 h
  have ha:=hs a (by simp)
  have:=nodup_len (c:=c) (S:=S.erase a) h2 fun x hx=>by
   have hne:x ≠ a:=fun e=>h1 (e ▸ hx)
   exact(List.mem_erase_of_ne hne).2 (hs x (List.mem_cons_of_mem _ hx))
  rw[List.length_erase_of_mem ha] at this
  have:0<S.length:=List.length_pos_of_mem ha
  simp only[List.length_cons]
  omega
section
variable {α:Type}
def Dn(G L:α→Prop)(nx:α→List α):Nat→α→Prop
 |0,s=>G s
 |k+1,s=>G s∨(L s∧∀y ∈ nx s,Dn G L nx k y)
variable {G L:α→Prop}{nx:α→List α}
theorem Dn.goal{k:Nat}{s:α}(h:G s):Dn G L nx k s:=by
 cases k with
 |zero=>exact h
 |succ k=>exact .inl h
theorem Dn.succ:∀{k:Nat} {s:α},Dn G L nx k s→Dn G L nx (k+1) s
 |0,s,h=>.inl h
 |k+1,s,h=>by
  rcases h with h|⟨h1,h2⟩
  ·exact .inl h
  ·exact .inr ⟨h1,fun y hy=>(h2 y hy).succ⟩
theorem Dn.mono{k m:Nat}{s:α}(h:Dn G L nx k s)(hm:k≤m):Dn G L nx m s:=by
 induction hm with
 |refl=>exact h
 |step _ ih=>exact ih.succ
def Ht(G L:α→Prop)(nx:α→List α)(k:Nat)(s:α):Prop:=Dn G L nx k s∧∀j,j<k→¬ Dn G L nx j s
theorem Ht.unique{k m:Nat}{s:α}(h:Ht G L nx k s)(h':Ht G L nx m s):k=m:=by
 rcases Nat.lt_trichotomy k m with c|c|c
 ·exact absurd h.1 (h'.2 k c)
 ·exact c
 ·exact absurd h'.1 (h.2 m c)
theorem Ht.of_dn:∀{k:Nat} {s:α},Dn G L nx k s→∃m,m≤k∧Ht G L nx m s
 |0,s,h=>⟨0,Nat.le_refl _,h,fun j hj=>by omega⟩
 |k+1,s,h=>by
  by_cases c:Dn G L nx k s
  ·obtain⟨m,h1,h2⟩:=Ht.of_dn c
   exact⟨m,by omega,h2⟩
  ·exact⟨k+1,Nat.le_refl _,h,fun j hj hd=>c (hd.mono (by omega))⟩
theorem Ht.zero{s:α}(h:G s):Ht G L nx 0 s:=⟨h,fun j hj=>by omega⟩
theorem Ht.goal{k:Nat}{s:α}(h:Ht G L nx k s)(hg:G s):k=0:=h.unique (.zero hg)
theorem Ht.step{k:Nat}{s:α}(h:Ht G L nx k s)(hg:¬ G s)(hne:∀s,L s→nx s ≠ []):∃m,k=m+1∧L s∧(∀y ∈ nx s,∃j,j≤m∧Ht G L nx j y)∧∃y ∈ nx s,Ht G L nx m y:=by
 cases k with
 |zero=>exact absurd h.1 hg
 |succ m=>
  rcases h.1 with g|⟨h1,h2⟩
  ·exact absurd g hg
  ·refine⟨m,rfl,h1,fun y hy=>Ht.of_dn (h2 y hy),?_⟩
   cases m with
   |zero=>
    obtain⟨y,hy⟩:=List.exists_mem_of_ne_nil _ (hne s h1)
    exact⟨y,hy,h2 y hy,fun j hj=>by omega⟩
   |succ m=>
    have hn:=h.2 (m+1) (by omega)
    have:∃y ∈ nx s,¬ Dn G L nx m y:=Classical.byContradiction fun hc=>hn (.inr ⟨h1,fun y hy=>Classical.byContradiction fun hy2=>hc ⟨y,hy,hy2⟩⟩)
    obtain⟨y,hy,hy2⟩:=this
    exact⟨y,hy,h2 y hy,fun j hj hd=>hy2 (hd.mono (by omega))⟩
end
end Ab
end
section
namespace Ab
open Go
def j6(t:b7)(s:Li):Prop:=∀x ∈ t.goal,x ∈ s
noncomputable def H2(p:List d9)(s:Li):Prop:=0≤chO p s
noncomputable def nxS(t:b7)(p:List d9)(s:Li):LL:=(ooAt t (chO p s)).outcomes.map (efc t.facts s)
inductive Rch(t:b7)(p:List d9):Li→Prop
 |init:Rch t p t.init
 |step {s y:Li}:Rch t p s→¬ j6 t s→H2 p s→y ∈ nxS t p s→Rch t p y
theorem chO_mem{p:List d9}{s:Li}(h:0≤chO p s):∃c ∈ p,c.state=s∧chO p s=c.operator:=by
 obtain⟨r,h1,h2⟩:=rChosen_eq p s
 have e:chO p s=r:=by rw[chO,h1];rfl
 rw[e] at h ⊢
 rcases h2 with⟨rfl,_⟩|⟨c,h3,h4,h5⟩
 ·omega
 ·exact⟨c,h3,h4,h5⟩
theorem live_op{t:b7}{p:List d9}(hp:H1 t p){s:Li}(h:H2 p s):(0≤chO p s∧chO p s<t.operators.length)∧oCan t s (chO p s):=by
 obtain⟨_,e⟩:=ad7 hp s
 unfold H2 at h
 rcases e with e|e
 ·omega
 ·exact⟨⟨e.1,e.2.1⟩,e.2.2⟩
theorem Rch.set{t:b7}(ht:m4 t){p:List d9}{s:Li}(h:Rch t p s):SetN s t.facts:=by
 cases h with
 |init=>exact ht.init
 |step _ _ _ hy=>
  obtain⟨x,_,rfl⟩:=List.mem_map.1 hy
  exact setN_efc _ _ _
noncomputable def candK(t:b7)(p:List d9):LL:=t.init::p.flatMap fun c=>(ooAt t c.operator).outcomes.map (efc t.facts c.state)
theorem flat_len{α β:Type}{f:α→List β}{n:Nat}:∀{l:List α},(∀a ∈ l,(f a).length≤n)→(l.flatMap f).length≤l.length * n
 |[],_=>by simp
 |a::l,h=>by
  have h1:=h a (by simp)
  have h2:=flat_len (l:=l) fun b hb=>h b (List.mem_cons_of_mem _ hb)
  rw[List.flatMap_cons,List.length_append,List.length_cons,Nat.succ_mul]
  omega
theorem candK_len{t:b7}(ht:m4 t){p:List d9}(hp:H1 t p):(candK t p).length≤801:=by
 have h:=flat_len (f:=fun c:d9=>(ooAt t c.operator).outcomes.map (efc t.facts c.state)) (n:=4) (l:=p) fun c hc=>by
  have:=hp.op c hc
  have:=(ht.at this.1 this.2).l1
  simpa using this
 have:=hp.len
 have h2:p.length * 4≤200 * 4:=Nat.mul_le_mul_right _ this
 unfold candK
 rw[List.length_cons]
 omega
theorem Rch.cand{t:b7}{p:List d9}{s:Li}(h:Rch t p s):s ∈ candK t p:=by
 cases h with
 |init=>exact List.mem_cons_self ..
 |@step s y _ _ hl hy=>
  obtain⟨c,h1,h2,h3⟩:=chO_mem hl
  refine List.mem_cons_of_mem _ (List.mem_flatMap.2 ⟨c,h1,?_⟩)
  unfold nxS at hy
  rw[h3] at hy
  rw[h2]
  exact hy
theorem rch_len{t:b7}(ht:m4 t){p:List d9}(hp:H1 t p){l:LL}(hn:l.Nodup)(h:∀s ∈ l,Rch t p s):l.length≤801:=
 Nat.le_trans (nodup_len hn fun s hs=>(h s hs).cand) (candK_len ht hp)
theorem Ord.nodup{l:LL}(h:Ord l):l.Nodup:=List.Pairwise.imp (fun {a b:Li} (hab:llt a b) (e:a=b)=>E9 a (by rw[← e] at hab;exact hab)) h
def ClV(t:b7)(p:List d9)(l:LL)(s:Li):Prop:=¬ j6 t s→H2 p s→∀y ∈ nxS t p s,y ∈ l
structure Vis(t:b7)(p:List d9)(l:LL):Prop where
 ord:Ord l
 mem:∀s,s ∈ l↔Rch t p s
theorem vis_of{t:b7}{p:List d9}{l:LL}(ho:Ord l)(hi:t.init ∈ l)(hr:∀s ∈ l,Rch t p s)(hc:∀s ∈ l,ClV t p l s):Vis t p l:=by
 refine⟨ho,fun s=>⟨hr s,fun h=> ?_⟩⟩
 induction h with
 |init=>exact hi
 |step _ hg hl hy ih=>exact hc _ ih hg hl _ hy
theorem containsLL_eq{l:LL}{s:Li}:v7 l (fun y=>H8 y s)=some (dec (s ∈ l)):=by
 unfold v7 r9
 rcases C5 (body:=v6 l fun y=>H8 y s) (n:=(l.length:Int)) (fun j=>if dec (ix l j=some s)=true then some j else none) (by omega) (fun j h0 h1 _=>by
  obtain⟨x,hx,_⟩:=j8 (l:=l) h0 h1
  unfold v6 H8
  rw[hx]
  simp only[oB,equal_eq]
  by_cases e:x=s
  ·rw[ifP e,ifP (by rw[e])]
  ·rw[ifN e,ifN (by simpa using e)]) with⟨h1,h2⟩|⟨j,o,h0,h1,h2,h3,h4⟩
 ·rw[h1]
  simp only[oB]
  rw[u3]
  ·rfl
  ·intro hs
   obtain⟨i,i0,i1,hi⟩:=w8 hs
   have:=h2 i i0 i1
   rw[ifP hi] at this
   cases this
 ·rw[h4]
  split at h2
  ·rename_i e
   cases h2
   simp only[oB]
   rw[p8 (r8 (o9.1 e)),decide_eq_true h0]
  ·cases h2
theorem vis4{t:b7}(ht:m4 t){p:List d9}(hp:H1 t p){s:Li}(hs:Rch t p s)(hg:¬ j6 t s)(hl:H2 p s){st:LL}{w:Li}(hst:∀y,y ∈ st↔y ∈ nxS t p s){l0:LL}(hn:l0.Nodup)(hr:∀s ∈ l0,Rch t p s):
  ∃l,forR 0 (st.length:Int) (K6 (st,w)) l0=some l∧l.Nodup∧(∀s ∈ l,Rch t p s)∧Ext l0 l∧∀y ∈ st,y ∈ l:=by
 obtain⟨l,h1,h2,h3,h4,h5⟩:=G2 (body:=K6 (st,w)) (n:=(st.length:Int)) (s:=l0) (fun j l=>l.Nodup∧(∀s ∈ l,Rch t p s)∧Ext l0 l∧∀k y,k<j→ix st k=some y→y ∈ l) (by omega) ⟨hn,hr,.refl _,fun k y hk h=>by have:=(v8 h).1;omega⟩ (fun j l j0 j1 ⟨a1,a2,a3,a4⟩=>by
  obtain⟨y,hy,_⟩:=j8 (l:=st) j0 j1
  unfold K6
  dsimp only
  rw[hy]
  simp only[oB,containsLL_eq,y6]
  have mono:∀{l2:LL},Ext l l2→y ∈ l2→∀k z,k<j+1→ix st k=some z→z ∈ l2:=fun h1 h2 k z hk hz=>by
   by_cases ek:k=j
   ·subst ek;rw[hy] at hz;cases hz;exact h2
   ·exact h1.mem (a4 k z (by omega) hz)
  have hry:Rch t p y:=.step hs hg hl ((hst y).1 (r8 hy))
  by_cases c:y ∈ l
  ·rw[ifNN c]
   exact⟨l,rfl,a1,a2,a3,mono (.refl _) c⟩
  ·have hlen:=rch_len ht hp a1 a2
   rw[ifP c,app,if_pos (by simp;omega)]
   refine⟨_,rfl,List.nodup_append.2 ⟨a1,by simp,fun a ha b hb=> ?_⟩,fun z hz=> ?_,a3.snoc _,mono ((Ext.refl _).snoc _) (by simp)⟩
   ·simp only[List.mem_singleton] at hb;subst hb;exact fun e=>c (e ▸ ha)
   ·rcases List.mem_append.1 hz with g|g
    ·exact a2 z g
    ·simp only[List.mem_singleton] at g;exact g ▸ hry)
 refine⟨l,h1,h2,h3,h4,fun y hy=> ?_⟩
 obtain⟨k,_,k1,hk⟩:=w8 hy
 exact h5 k y k1 hk
theorem oVisited_eq{t:b7}(ht:m4 t){p:List d9}(hp:H1 t p):∃l,N2 t p=some l∧Vis t p l:=by
 have hn:=ht.n1
 have hil:=ht.init.len
 unfold N2
 rw[clone_eq (by omega)]
 simp only[oB]
 obtain⟨l,h1,h2,h3,h4,h5⟩:=M6 (body:=Q6 t p) (fun q=>q.1.Nodup∧(∀s ∈ q.1,Rch t p s)∧t.init ∈ q.1∧(0≤q.2∧q.2≤q.1.length)∧∀i s,i<q.2→ix q.1 i=some s→ClV t p q.1 s) (fun l=>l.Nodup∧(∀s ∈ l,Rch t p s)∧t.init ∈ l∧∀s ∈ l,ClV t p l s) (fun q=>(801 - q.2).toNat) (s:=([t.init],0)) ⟨by simp,by simpa using Rch.init,by simp,by simp,fun i s hi h=>by have:=(v8 h).1;dsimp only at hi;omega⟩ (fun⟨l,a⟩ ⟨g1,g2,g3,g4,g5⟩=>by
  dsimp only at g1 g2 g3 g4 g5 ⊢
  have hlen:=rch_len ht hp g1 g2
  unfold Q6
  dsimp only
  by_cases c:a<l.length
  ·rw[if_pos c]
   obtain⟨s,hs,_⟩:=j8 (l:=l) g4.1 c
   have hrs:=g2 s (r8 hs)
   have hset:=hrs.set ht
   have hsl:=hset.len
   rw[hs]
   simp only[oB,(ad7 hp s).1,P4 hset.1 ht.goal.1 (show s.length≤1000000 by omega)]
   have key:(if chO p s<0 then some true else some (dec (∀x ∈ t.goal,x ∈ s)))=some (dec (chO p s<0∨j6 t s)):=by
    unfold j6
    rw[← ifOr]
    by_cases h:chO p s<0
    ·rw[if_pos h,ifP h]
    ·rw[if_neg h,ifN h]
   rw[key]
   simp only[oB]
   have fin:∀{l2:LL},Ext l l2→ClV t p l2 s→∀i z,i<a+1→ix l2 i=some z→ClV t p l2 z:=fun h1 h2 i z hi hz=>by
    by_cases ei:i=a
    ·subst ei
     rw[h1 _ _ hs] at hz;cases hz;exact h2
    ·obtain⟨y,hy,_⟩:=j8 (l:=l) (i:=i) (v8 hz).1 (by omega)
     have:=h1 _ _ hy
     rw[hz] at this;cases this
     exact fun q1 q2 y hy2=>h1.mem (g5 i z (by omega) hy q1 q2 y hy2)
   by_cases cs:chO p s<0∨j6 t s
   ·rw[ifP cs]
    simp only[oB]
    rw[u5 (by omega) (by omega)]
    refine .inl ⟨_,rfl,⟨g1,g2,g3,by dsimp only;omega,fin (.refl _) fun q1 q2=> ?_⟩,by dsimp only;omega⟩
    rcases cs with c1|c1
    ·unfold H2 at q2;omega
    ·exact absurd c1 q1
   ·rw[ifN cs]
    have hl:H2 p s:=by unfold H2;have:=fun h=>cs (.inl h);omega
    have hg:¬ j6 t s:=fun h=>cs (.inr h)
    have ho:=live_op hp hl
    obtain⟨st,w,r1,_,r3,_⟩:=aj1 ht ho.1.1 ho.1.2 hset
    rw[r1]
    simp only[oB]
    obtain⟨l2,e1,e2,e3,e4,e5⟩:=vis4 ht hp hrs hg hl (st:=st) (w:=w) (fun y=>by rw[r3,nxS,List.mem_map]) g1 g2
    rw[e1]
    simp only[oB]
    have:=e4.len
    rw[u5 (by omega) (by omega)]
    exact .inl ⟨_,rfl,⟨e2,e3,e4.mem g3,by dsimp only;omega,fin e4 fun _ _ y hy=>e5 y (by rw[r3];exact List.mem_map.1 hy)⟩,by dsimp only;omega⟩
  ·rw[if_neg c]
   refine .inr ⟨l,rfl,g1,g2,g3,fun s hs=> ?_⟩
   obtain⟨i,i0,i1,hi⟩:=w8 hs
   exact g5 i s (by omega) hi)
 rw[h1]
 simp only[oB]
 have hlen:=rch_len ht hp h2 h3
 obtain⟨r,n1,n2,n3,n4⟩:=normal_eq (l:=l) (by omega)
 rw[n1]
 exact⟨r,rfl,vis_of n2 ((n3 _).2 h4) (fun s hs=>h3 s ((n3 s).1 hs)) fun s hs q1 q2 y hy=>(n3 y).2 (h5 s ((n3 s).1 hs) q1 q2 y hy)⟩
end Ab
end
section
namespace Ab
open Go
theorem Vis.closed{t:b7}{p:List d9}{l:LL}(h:Vis t p l):∀s ∈ l,¬ j6 t s→H2 p s→∀y ∈ nxS t p s,y ∈ l:=fun s hs hg hl y hy=>(h.mem y).2 (.step ((h.mem s).1 hs) hg hl hy)
theorem Vis.len{t:b7}(ht:m4 t){p:List d9}(hp:H1 t p){l:LL}(h:Vis t p l):l.length≤801:=rch_len ht hp h.ord.nodup fun s hs=>(h.mem s).1 hs
theorem find_eq{l:LL}(ho:Ord l)(hl:l.length≤500000){s:Li}{i:Int}(hi:ix l i=some s):w9 l s=some i:=by
 unfold w9
 obtain⟨k,h1,_,h3⟩:=bsets_eq (t:=s) ho hl
 rw[h1,h3 i hi];rfl
theorem contains1_eq{l:Li}{s:Int}:A0 l s=some (dec (s ∈ l)):=by
 unfold A0 G7
 rcases C5 (body:=E0 l s) (n:=(l.length:Int)) (fun j=>if dec (ix l j=some s)=true then some j else none) (by omega) (fun j h0 h1 _=>by
  obtain⟨x,hx,_⟩:=j8 (l:=l) h0 h1
  unfold E0
  rw[hx]
  simp only[oB]
  by_cases e:s=x
  ·rw[if_pos e,ifP (by rw[e])]
  ·rw[if_neg e,ifN (by simpa using fun h=>e h.symm)]) with⟨h1,h2⟩|⟨j,o,h0,h1,h2,h3,h4⟩
 ·rw[h1]
  simp only[oB]
  rw[u3]
  ·rfl
  ·intro hs
   obtain⟨i,i0,i1,hi⟩:=w8 hs
   have:=h2 i i0 i1
   rw[ifP hi] at this
   cases this
 ·rw[h4]
  split at h2
  ·rename_i e
   cases h2
   simp only[oB]
   rw[p8 (r8 (o9.1 e)),decide_eq_true h0]
  ·cases h2
end Ab
end
section
namespace Ab
open Go
end Ab
end
section
namespace Ab
open Go
end Ab
end
section
namespace Ab
open Go
end Ab
end
section
namespace Ab
open Go
noncomputable def nxC(t:b7)(ch:Li→Int)(s:Li):LL:=(ooAt t (ch s)).outcomes.map (efc t.facts s)
inductive RchC(t:b7)(ch:Li→Int):Li→Prop
 |init:RchC t ch t.init
 |step {s y:Li} (h:RchC t ch s) (hg:¬ j6 t s) (hy:y ∈ nxC t ch s):RchC t ch y
def ChOk(t:b7)(ch:Li→Int):Prop:=∀s,RchC t ch s→¬ j6 t s→(0≤ch s∧ch s<t.operators.length)∧oCan t s (ch s)
section
variable {t:b7}{ch:Li→Int}
theorem RchC.set(ht:m4 t){s:Li}(h:RchC t ch s):SetN s t.facts:=by
 cases h with
 |init=>exact ht.init
 |step _ _ hy=>obtain⟨x,_,rfl⟩:=List.mem_map.1 hy;exact setN_efc _ _ _
structure PolB(t:b7)(ch:Li→Int)(p:List d9):Prop where
 ord:Ord (p.map d9.state)
 mem:∀s,(∃c ∈ p,c.state=s)↔RchC t ch s∧¬ j6 t s
 op:∀c ∈ p,c.operator=ch c.state
theorem PolB.rch{p:List d9}(h:PolB t ch p){c:d9}(hc:c ∈ p):RchC t ch c.state∧¬ j6 t c.state:=(h.mem _).1 ⟨c,hc,rfl⟩
theorem PolB.pol(ht:m4 t)(hk:ChOk t ch){p:List d9}(h:PolB t ch p)(hl:p.length≤200):H1 t p:=
 ⟨hl,h.ord,fun c hc=>(h.rch hc).1.set ht,fun c hc=>by rw[h.op c hc];exact(hk _ (h.rch hc).1 (h.rch hc).2).1,fun c hc=>by rw[h.op c hc];exact(hk _ (h.rch hc).1 (h.rch hc).2).2⟩
/-! ### One choice put in its place -/
structure PolP(t:b7)(ch:Li→Int)(p:List d9):Prop where
 pol:H1 t p
 of:∀c ∈ p,(RchC t ch c.state∧¬ j6 t c.state)∧c.operator=ch c.state
theorem PolP.op{p:List d9}(h:PolP t ch p):∀c ∈ p,c.operator=ch c.state:=fun c hc=>(h.of c hc).2
structure BI(t:b7)(ch:Li→Int)(q:LL)(p:List d9)(a:Int):Prop where
 a0:0≤a
 a1:a≤q.length
 pp:PolP t ch p
 qr:∀s ∈ q,RchC t ch s
 qi:t.init ∈ q
 px:∀c ∈ p,∀y ∈ nxC t ch c.state,y ∈ q
 dn:∀k s,k<a→ix q k=some s→j6 t s∨∃c ∈ p,c.state=s
 ql:q.length≤1+4 * p.length
end
end Ab
end
section
namespace Ab
open Go
theorem smN_upd{f g:Nat→Int}{n i:Nat}(hi:i<n)(h:∀k,k<n→k ≠ i→g k=f k):smN n g=smN n f+(g i - f i):=by
 have:smN n g=smN n fun k=>f k+if k=i then g i - f i else 0:=i9 fun k hk=>by
  by_cases e:k=i
  ·subst e;rw[if_pos rfl];omega
  ·rw[if_neg e,h k hk e];omega
 rw[this,F7,K4 (f:=fun k=>if k=i then g i - f i else 0) hi fun k _ hk=>if_neg hk,if_pos rfl]
def wtj(w:Li)(j:Nat):Int:=(w[j]?).getD 0
theorem ae9{w:Li}{i:Nat}(h:i<w.length):ix w (i:Int)=some (wtj w i):=by
 rw[r7,List.getElem?_eq_getElem h];unfold wtj;rw[List.getElem?_eq_getElem h];rfl
theorem wtj_set{w:Li}{i:Nat}(h:i<w.length)(v:Int)(k:Nat):wtj (w.set i v) k=if k=i then v else wtj w k:=by
 unfold wtj
 rw[List.getElem?_set]
 by_cases e:k=i
 ·subst e;rw[if_pos rfl,if_pos h,if_pos rfl];rfl
 ·rw[if_neg (fun q=>e q.symm),if_neg e]
structure Wok(t:b7)(s:Li)(op:Int)(st:LL)(w:Li):Prop where
 eq:l8 t s op=some (st,w)
 ord:Ord st
 mem:∀y,y ∈ st↔∃x ∈ (ooAt t op).outcomes,efc t.facts s x=y
 s4:st.length≤4
 len:w.length=st.length
 pos:∀k,k<st.length→1≤wtj w k
 sum:smN st.length (wtj w)≤24
theorem results_ok{t:b7}(ht:m4 t){op:Int}(h0:0≤op)(h1:op<t.operators.length){s:Li}(hs:SetN s t.facts):∃st w,Wok t s op st w:=by
 have ho:=ht.at h0 h1
 have hl:=ho.l1
 obtain⟨st,w,r1,r2,r3,r4,r5,r6⟩:=aj1 ht h0 h1 hs
 obtain⟨w',k1,k2,k3,k4,k5⟩:=G2 (body:=D4 ((ooAt t op).outcomes.map (efc t.facts s)) st (ooAt t op)) (n:=((ooAt t op).outcomes.length:Int)) (s:=List.replicate st.length 0)
  (fun j c=>c.length=st.length∧(∀k,0≤wtj c k)∧smN st.length (wtj c)≤6 * j∧∀(i:Int) x,0≤i→i<j→ix (ooAt t op).outcomes i=some x→∀k:Nat,st[k]? =some (efc t.facts s x)→1≤wtj c k) (by omega)
  ⟨by simp,fun k=>by unfold wtj;rw[List.getElem?_replicate];split<;>simp,by
   rw[aa1 fun k _=>by unfold wtj;rw[List.getElem?_replicate];split<;>rfl];omega,fun i x i0 hi=>by omega⟩ (fun j c j0 j1 ⟨p1,p2,p3,p4⟩=>by
   obtain⟨x,hx,gx⟩:=j8 (l:=(ooAt t op).outcomes) j0 j1
   have hmem:efc t.facts s x ∈ st:=(r3 _).2 ⟨x,r8 hx,rfl⟩
   obtain⟨i,e1,e2,e3⟩:=bsets_eq (t:=efc t.facts s x) r2 (by omega)
   obtain⟨k,k0,k1,hk⟩:=w8 hmem
   have:=e3 k hk
   subst this
   obtain⟨m,rfl⟩:=Int.eq_ofNat_of_zero_le k0
   have hm:m<st.length:=by omega
   have hz:=ae9 (w:=c) (i:=m) (by omega)
   have hw:=(ho.xs x (r8 hx)).2
   unfold xWt at hw
   have hle:wtj c m≤smN st.length (wtj c):=by
    have:=V2 (f:=wtj c) p2 (Nat.zero_le m) hm
    simpa[smN] using this
   have hs6:w64 (wtj c m+x.weight)=wtj c m+x.weight:=u5 (by have:=p2 m;omega) (by omega)
   unfold D4
   rw[hx,ix_map,hx]
   simp only[oB,Option.map_some,e1,hz,hs6,Int.toNat_natCast]
   have hset:=wtj_set (w:=c) (i:=m) (by omega) (wtj c m+x.weight)
   refine⟨_,rfl,by rw[lS];exact p1,fun k=> ?_,?_,fun i' x' i0 hi' hx' k hk'=> ?_⟩
   ·rw[hset];have:=p2 k;have:=p2 m;split<;>omega
   ·rw[smN_upd hm (f:=wtj c) (fun k _ hk=>by rw[hset,if_neg hk]),hset,if_pos rfl];omega
   ·rw[hset]
    by_cases e:k=m
    ·subst e;rw[if_pos rfl];have:=p2 k;omega
    ·rw[if_neg e]
     by_cases f:i'=j
     ·subst f;rw[hx] at hx';cases hx'
      have h5:ix st (k:Int)=some (efc t.facts s x):=by rw[r7];exact hk'
      have:=e3 _ h5
      omega
     ·exact p4 i' x' i0 (by omega) hx' k hk')
 rw[r6] at k1
 cases k1
 refine⟨st,w,r1,r2,r3,r4,r5,fun k hk=> ?_,by omega⟩
 obtain⟨x,hx,e⟩:=(r3 st[k]).1 (List.getElem_mem hk)
 obtain⟨i,i0,i1,hi⟩:=w8 hx
 exact k5 i x i0 i1 hi k (by rw[List.getElem?_eq_getElem hk,e])
end Ab
end
section
namespace Ab
open Go
def twF(st:LL)(w:Li)(J:Nat)(y:Li):Int:=smN J fun j=>if st[j]? =some y then wtj w j else 0
structure Sys(t:b7)(S:LL)(op:Nat→Int)(st:Nat→LL)(w:Nat→Li):Prop where
 ord:Ord S
 n5:S.length≤5
 set:∀s ∈ S,SetN s t.facts
 ng:∀s ∈ S,¬ j6 t s
 rng:∀i,i<S.length→0≤op i∧op i<t.operators.length
 res:∀i s,S[i]? =some s→Wok t s (op i) (st i) (w i)
 cl:∀i,i<S.length→∀y ∈ st i,j6 t y∨y ∈ S
section
variable {t:b7}{S:LL}{op:Nat→Int}{st:Nat→LL}{w:Nat→Li}
def WF(st:Nat→LL)(w:Nat→Li)(i:Nat):Int:=smN (st i).length (wtj (w i))
def wF(S:LL)(st:Nat→LL)(w:Nat→Li):Mtx:=fun i k=>match S[k]? with|some y=>twF (st i) (w i) (st i).length y|none=>0
def cF(t:b7)(op:Nat→Int)(i:Nat):Int:=(ooAt t (op i)).cost
theorem X6(h:Sys t S op st w){i:Nat}(hi:i<S.length)(j:Nat):0≤wtj (w i) j:=by
 have hr:=h.res i S[i] (List.getElem?_eq_getElem hi)
 by_cases e:j<(st i).length
 ·have:=hr.pos j e;omega
 ·unfold wtj;rw[List.getElem?_eq_none (by rw[hr.len];omega)];simp
theorem twF_nn(h:Sys t S op st w){i:Nat}(hi:i<S.length)(J:Nat)(y:Li):0≤twF (st i) (w i) J y:=ae8 fun j _=>by
 split
 ·exact X6 h hi j
 ·exact Int.le_refl _
theorem twF_le(h:Sys t S op st w){i:Nat}(hi:i<S.length){J:Nat}(hJ:J≤(st i).length)(y:Li):twF (st i) (w i) J y≤24:=by
 have h1:twF (st i) (w i) J y≤smN J (wtj (w i)):=S4 fun j _=>by
  split
  ·exact Int.le_refl _
  ·exact X6 h hi j
 have h2:=O3 (f:=wtj (w i)) (X6 h hi) hJ
 have h3:=(h.res i S[i] (List.getElem?_eq_getElem hi)).sum
 omega
def rowV(S:LL)(st:LL)(w:Li)(c:Int)(i J k:Nat):Int:=
 if k=S.length then smN J (wtj w) * c else(if k=i then smN J (wtj w) else 0) - match S[k]? with|some y=>twF st w J y|none=>0
theorem eq_row(ht:m4 t)(h:Sys t S op st w){i:Nat}(hi:i<S.length):
  ∃c:Li,forR 0 ((st i).length:Int) (J3 t S i (op i) (st i,w i)) (List.replicate (S.length+1) 0)=some c∧c.length=S.length+1∧∀k,k≤S.length→wtj c k=rowV S (st i) (w i) (cF t op i) i (st i).length k:=by
 have hr:=h.res i S[i] (List.getElem?_eq_getElem hi)
 have hop:=h.rng i hi
 have hco:=(ht.at hop.1 hop.2)
 have hc0:=hco.c0;have hc1:=hco.c1
 have hn5:=h.n5
 have hs4:=hr.s4
 have hsum:=hr.sum
 obtain⟨c,k1,k2,k3⟩:=G2 (body:=J3 t S i (op i) (st i,w i)) (n:=((st i).length:Int)) (s:=List.replicate (S.length+1) 0)
  (fun q c=>c.length=S.length+1∧∀k,k≤S.length→wtj c k=rowV S (st i) (w i) (cF t op i) i q.toNat k) (by omega)
  ⟨by simp,fun k hk=>by
   unfold rowV wtj
   rw[List.getElem?_replicate]
   simp only[Int.toNat_zero,smN,twF,Int.zero_mul,ite_self]
   split<;>split<;>(try split)<;>simp⟩ (fun q c q0 q1 ⟨p1,p2⟩=>by
   obtain⟨J,rfl⟩:=Int.eq_ofNat_of_zero_le q0
   have hJ:J<(st i).length:=by omega
   rw[Int.toNat_natCast] at p2
   have hx:ix (st i) (J:Int)=some (st i)[J]:=by rw[r7];exact List.getElem?_eq_getElem hJ
   have hw:=ae9 (w:=w i) (i:=J) (by rw[hr.len];exact hJ)
   have hw1:=hr.pos J hJ
   have ci:=ae9 (w:=c) (i:=i) (by omega)
   have e1:smN (J+1) (wtj (w i))=smN J (wtj (w i))+wtj (w i) J:=rfl
   have b0:0≤smN J (wtj (w i)):=ae8 fun j _=>X6 h hi j
   have b1:=O3 (f:=wtj (w i)) (X6 h hi) (show J+1≤(st i).length by omega)
   have sc:∀x:Int,0≤x→x≤24→0≤x * (ooAt t (op i)).cost∧x * (ooAt t (op i)).cost≤2400:=fun x h0 h1=>⟨Int.mul_nonneg h0 hc0,by
    have:=Int.mul_le_mul h1 hc1 hc0 (by omega:(0:Int)≤24)
    omega⟩
   have vi:=p2 i (by omega)
   unfold rowV at vi
   rw[if_neg (by omega),if_pos rfl,List.getElem?_eq_getElem hi] at vi
   dsimp only at vi
   have t1:=twF_nn h hi J S[i]
   have t2:=twF_le h hi (J:=J) (by omega) S[i]
   have f1:w64 (wtj c i+wtj (w i) J)=wtj c i+wtj (w i) J:=u5 (by omega) (by omega)
   have s1:=wtj_set (w:=c) (i:=i) (by omega) (wtj c i+wtj (w i) J)
   have cn:=ae9 (w:=c.set i (wtj c i+wtj (w i) J)) (i:=S.length) (by rw[lS];omega)
   rw[s1,if_neg (by omega)] at cn
   have vn:=p2 S.length (Nat.le_refl _)
   unfold rowV at vn
   rw[if_pos rfl] at vn
   have m1:=sc (wtj (w i) J) (by omega) (by omega)
   have m2:=sc (smN J (wtj (w i))) b0 (by omega)
   have vn':wtj c S.length=smN J (wtj (w i)) * (ooAt t (op i)).cost:=vn
   have f2:w64 (wtj (w i) J * (ooAt t (op i)).cost)=wtj (w i) J * (ooAt t (op i)).cost:=u5 (by omega) (by omega)
   have f3:w64 (wtj c S.length+wtj (w i) J * (ooAt t (op i)).cost)=wtj c S.length+wtj (w i) J * (ooAt t (op i)).cost:=u5 (by omega) (by omega)
   generalize hc1':c.set i (wtj c i+wtj (w i) J)=c1 at *
   have l1:c1.length=S.length+1:=by rw[← hc1',lS];exact p1
   have s2:=wtj_set (w:=c1) (i:=S.length) (by omega) (wtj c S.length+wtj (w i) J * (ooAt t (op i)).cost)
   generalize hc2':c1.set S.length (wtj c S.length+wtj (w i) J * (ooAt t (op i)).cost)=c2 at *
   have l2:c2.length=S.length+1:=by rw[← hc2',lS];exact l1
   have hset:SetN (st i)[J] t.facts:=by
    obtain⟨x,_,e⟩:=(hr.mem (st i)[J]).1 (List.getElem_mem hJ)
    rw[← e];exact setN_efc _ _ _
   have hcon:j7 (st i)[J] t.goal=some (dec (j6 t (st i)[J])):=P4 hset.1 ht.goal.1 (by have:=hset.len;have:=ht.n1;omega)
   have tw1:∀y,twF (st i) (w i) (J+1) y=twF (st i) (w i) J y+if(st i)[J]? =some y then wtj (w i) J else 0:=fun y=>rfl
   have hgJ:(st i)[J]? =some (st i)[J]:=List.getElem?_eq_getElem hJ
   unfold J3
   simp only[hx,hw,ci,oB,f1,ix_oo hop.1 hop.2,f2,f3,Int.toNat_natCast,hc1',cn,hcon,hc2']
   by_cases hg:j6 t (st i)[J]
   ·rw[p8 hg]
    simp only[Bool.not_true,Bool.false_eq_true,if_false,oB]
    refine⟨_,rfl,l2,fun k hk=> ?_⟩
    rw[show((J:Int)+1).toNat=J+1 by omega,s2]
    unfold rowV
    by_cases e:k=S.length
    ·subst e
     rw[if_pos rfl,if_pos rfl,e1,vn',Int.add_mul];rfl
    ·rw[if_neg e,if_neg e,s1]
     have hk':k<S.length:=by omega
     rw[List.getElem?_eq_getElem hk']
     dsimp only
     have hne:¬ (st i)[J]? =some S[k]:=fun q=>by
      rw[hgJ] at q
      have:=Option.some.inj q
      exact h.ng S[k] (List.getElem_mem hk') (this ▸ hg)
     rw[tw1,if_neg hne]
     have vk:=p2 k hk
     unfold rowV at vk
     rw[if_neg e,List.getElem?_eq_getElem hk'] at vk
     dsimp only at vk
     by_cases f:k=i
     ·subst f;rw[if_pos rfl,if_pos rfl,e1];omega
     ·rw[if_neg f,if_neg f];rw[if_neg f] at vk;omega
   ·rw[u3 hg]
    have hm:(st i)[J] ∈ S:=(h.cl i hi _ (List.getElem_mem hJ)).resolve_left hg
    obtain⟨p,p0,p3,hp⟩:=w8 hm
    obtain⟨m,rfl⟩:=Int.eq_ofNat_of_zero_le p0
    have hmS:m<S.length:=by omega
    have hSm:S[m]=(st i)[J]:=by
     rw[r7,List.getElem?_eq_getElem hmS] at hp
     exact Option.some.inj hp
    have cm:=ae9 (w:=c2) (i:=m) (by omega)
    have vm:=p2 m (by omega)
    unfold rowV at vm
    rw[if_neg (by omega),List.getElem?_eq_getElem hmS] at vm
    dsimp only at vm
    have t3:=twF_nn h hi J S[m]
    have t4:=twF_le h hi (J:=J) (by omega) S[m]
    have v2:wtj c2 m=(if m=i then wtj c i+wtj (w i) J else wtj c m):=by rw[s2,if_neg (by omega),s1]
    have f4:w64 (wtj c2 m - wtj (w i) J)=wtj c2 m - wtj (w i) J:=by
     rw[v2]
     split
     ·exact u5 (by omega) (by omega)
     ·rename_i q;rw[if_neg q] at vm;exact u5 (by omega) (by omega)
    simp only[Bool.not_false,if_true,find_eq h.ord (by omega) hp,cm,oB,f4,Int.toNat_natCast]
    have s3:=wtj_set (w:=c2) (i:=m) (by omega) (wtj c2 m - wtj (w i) J)
    refine⟨_,rfl,by rw[lS];exact l2,fun k hk=> ?_⟩
    rw[show((J:Int)+1).toNat=J+1 by omega,s3]
    unfold rowV
    by_cases e:k=S.length
    ·subst e
     rw[if_neg (by omega),if_pos rfl,s2,if_pos rfl,e1,vn',Int.add_mul];rfl
    ·have hk':k<S.length:=by omega
     rw[if_neg e,List.getElem?_eq_getElem hk']
     dsimp only
     rw[tw1,hgJ]
     have vk:=p2 k hk
     unfold rowV at vk
     rw[if_neg e,List.getElem?_eq_getElem hk'] at vk
     dsimp only at vk
     by_cases g:k=m
     ·subst g
      have hq:some (st i)[J]=some S[k]:=by rw[hSm]
      rw[if_pos rfl,if_pos hq,v2]
      by_cases f:k=i
      ·subst f;rw[if_pos rfl,if_pos rfl,e1];omega
      ·rw[if_neg f,if_neg f];rw[if_neg f] at vk;omega
     ·have hne:¬ some (st i)[J]=some S[k]:=fun q=>by
       have q1:=Option.some.inj q
       have hk2:ix S (k:Int)=some (st i)[J]:=by rw[r7,List.getElem?_eq_getElem hk',q1]
       have:=h.ord.inj hp hk2
       omega
      rw[if_neg g,if_neg hne,s2,if_neg e,s1]
      by_cases f:k=i
      ·subst f;rw[if_pos rfl,if_pos rfl,e1];omega
      ·rw[if_neg f,if_neg f];rw[if_neg f] at vk;omega)
 refine⟨c,k1,k2,fun k hk=> ?_⟩
 rw[k3 k hk,Int.toNat_natCast]
end
end Ab
end
section
namespace Ab
open Go
section
variable {t:b7}{S:LL}{op:Nat→Int}{st:Nat→LL}{w:Nat→Li}
def wG(S:LL)(st:Nat→LL)(w:Nat→Li):Mtx:=fun i k=>if i<S.length then wF S st w i k else 0
abbrev eqN(t:b7)(S:LL)(op:Nat→Int)(st:Nat→LL)(w:Nat→Li):Mtx:=eqM S.length (WF st w) (wG S st w) fun i=>WF st w i * cF t op i
theorem rowV_eq{i k:Nat}(hi:i<S.length)(hk:k≤S.length):rowV S (st i) (w i) (cF t op i) i (st i).length k=eqN t S op st w i k:=by
 unfold rowV eqN eqM
 by_cases e:k=S.length
 ·rw[if_pos e,if_pos e];rfl
 ·have hk':k<S.length:=by omega
  rw[if_neg e,if_neg e]
  unfold wG wF
  rw[if_pos hi,List.getElem?_eq_getElem hk']
  dsimp only
  by_cases f:k=i
  ·rw[if_pos f,if_pos f.symm];rfl
  ·rw[if_neg f,if_neg (fun q=>f q.symm)]
theorem eqs_ok(ht:m4 t)(h:Sys t S op st w){choose:Li→Option Int}(hch:∀i s,S[i]? =some s→choose s=some (op i)):
  ∃L,forR 0 (S.length:Int) (A8 t S choose) []=some L∧Shp S.length L∧∀i k,i<S.length→k≤S.length→mE L i k=eqN t S op st w i k:=by
 have hn5:=h.n5
 obtain⟨L,k1,k2,k3⟩:=G2 (body:=A8 t S choose) (n:=(S.length:Int)) (s:=[])
  (fun q c=>(c.length:Int)=q∧∀i:Nat,(i:Int)<q→∃row,c[i]? =some row∧row.length=S.length+1∧∀k,k≤S.length→wtj row k=eqN t S op st w i k) (by omega) ⟨rfl,fun i hi=>by omega⟩ (fun q c q0 q1 ⟨p1,p2⟩=>by
   obtain⟨i,rfl⟩:=Int.eq_ofNat_of_zero_le q0
   have hi:i<S.length:=by omega
   have hs:S[i]? =some S[i]:=List.getElem?_eq_getElem hi
   obtain⟨row,r1,r2,r3⟩:=eq_row ht h hi
   have hw:w64 ((S.length:Int)+1)=((S.length+1:Nat):Int):=by rw[u5 (by omega) (by omega)];omega
   have hmk:mkL 8 ((S.length+1:Nat):Int) (0:Int)=some (List.replicate (S.length+1) 0):=by
    unfold mkL;rw[if_pos (by omega),Int.toNat_natCast]
   have ha:app 24 c [row]=some (c++[row]):=by unfold app;rw[if_pos (by simp;omega)]
   unfold A8
   simp only[show ix S (i:Int)=some S[i] by rw[r7,hs],Option.bind_some,hw,hmk,hch i _ hs,(h.res i _ hs).eq,r1,ha]
   refine⟨_,rfl,by rw[List.length_append,List.length_singleton];omega,fun i' hi'=> ?_⟩
   by_cases e:i'=i
   ·subst e
    refine⟨row,?_,r2,fun k hk=>by rw[r3 k hk,rowV_eq hi hk]⟩
    have:i'=c.length:=by omega
    rw[this];simp
   ·obtain⟨r',a1,a2,a3⟩:=p2 i' (by omega)
    exact⟨r',by rw[List.getElem?_append_left (by omega),a1],a2,a3⟩)
 have hlen:L.length=S.length:=by omega
 refine⟨L,k1,⟨hlen,fun r hr=> ?_⟩,fun i k hi hk=> ?_⟩
 ·obtain⟨i,hi,rfl⟩:=List.getElem_of_mem hr
  obtain⟨row,a1,a2,_⟩:=k3 i (by omega)
  rw[List.getElem?_eq_getElem hi] at a1
  cases a1;exact a2
 ·obtain⟨row,a1,_,a3⟩:=k3 i (by omega)
  have:mE L i k=wtj row k:=by unfold mE wtj;rw[a1];rfl
  rw[this,a3 k hk]
theorem lead_sum(h:Sys t S op st w){i:Nat}(hi:i<S.length):smN S.length (wG S st w i)=smN (st i).length fun j=>if dec (∃y ∈ S,(st i)[j]? =some y)=true then wtj (w i) j else 0:=by
 have e1:smN S.length (wG S st w i)=smN S.length fun k=>smN (st i).length fun j=>if(st i)[j]? =S[k]? then wtj (w i) j else 0:=i9 fun k hk=>by
  unfold wG wF
  rw[if_pos hi,List.getElem?_eq_getElem hk]
  rfl
 rw[e1,smN_comm]
 refine i9 fun j hj=> ?_
 have hgj:(st i)[j]? =some (st i)[j]:=List.getElem?_eq_getElem hj
 by_cases e:∃y ∈ S,(st i)[j]? =some y
 ·rw[if_pos (p8 e)]
  obtain⟨y,hy,e⟩:=e
  obtain⟨k,hk,rfl⟩:=List.getElem_of_mem hy
  rw[K4 (a:=k) hk fun k' hk' hne=> ?_,if_pos (by rw[e,List.getElem?_eq_getElem hk])]
  rw[if_neg]
  intro q
  rw[e,List.getElem?_eq_getElem hk'] at q
  have q:=Option.some.inj q
  have a:ix S (k:Int)=some S[k]:=by rw[r7,List.getElem?_eq_getElem hk]
  have b:ix S (k':Int)=some S[k]:=by rw[r7,List.getElem?_eq_getElem hk',q]
  have:=h.ord.inj a b
  omega
 ·rw[if_neg (by rw[u3 e];simp)]
  refine aa1 fun k hk=> ?_
  rw[if_neg]
  intro q
  rw[List.getElem?_eq_getElem hk] at q
  exact e ⟨_,List.getElem_mem hk,q⟩
theorem sys_ms(ht:m4 t)(h:Sys t S op st w):Ms S.length (WF st w) (wG S st w):=by
 refine⟨fun i hi=> ?_,fun i k=> ?_,fun i hi=> ?_⟩
 ·have hr:=h.res i S[i] (List.getElem?_eq_getElem hi)
  have hop:=h.rng i hi
  have l0:=(ht.at hop.1 hop.2).l0
  have hm:efc t.facts S[i] ((ooAt t (op i)).outcomes[0]) ∈ st i:=(hr.mem _).2 ⟨_,List.getElem_mem (by omega),rfl⟩
  have hl:=List.length_pos_of_mem hm
  have h1:=hr.pos 0 hl
  have h2:=V2 (f:=wtj (w i)) (X6 h hi) (Nat.zero_le 0) hl
  simp only[smN] at h2
  unfold WF;omega
 ·unfold wG
  split
  ·rename_i hi
   unfold wF
   split
   ·exact twF_nn h hi _ _
   ·exact Int.le_refl _
  ·exact Int.le_refl _
 ·rw[lead_sum h hi]
  refine S4 fun j _=> ?_
  split
  ·exact Int.le_refl _
  ·exact X6 h hi j
theorem WF_le(h:Sys t S op st w){i:Nat}(hi:i<S.length):WF st w i≤24:=(h.res i S[i] (List.getElem?_eq_getElem hi)).sum
theorem sys_exit(h:Sys t S op st w){i:Nat}(hi:i<S.length){y:Li}(hy:y ∈ st i)(hg:j6 t y):smN S.length (wG S st w i)<WF st w i:=by
 rw[lead_sum h hi]
 have hr:=h.res i S[i] (List.getElem?_eq_getElem hi)
 obtain⟨j,hj,rfl⟩:=List.getElem_of_mem hy
 have hle:smN (st i).length (fun q=>if dec (∃y ∈ S,(st i)[q]? =some y)=true then wtj (w i) q else 0)≤smN (st i).length fun q=>wtj (w i) q+if q=j then -(wtj (w i) j) else 0:=S4 fun q hq=>by
  by_cases e:q=j
  ·subst e
   rw[if_pos rfl,if_neg]
   ·omega
   ·rw[u3]
    ·simp
    ·rintro ⟨y,hy',e⟩
     rw[List.getElem?_eq_getElem hj] at e
     cases e
     exact h.ng _ hy' hg
  ·rw[if_neg e]
   have:=X6 h hi q
   split<;>omega
 rw[F7,K4 (f:=fun q=>if q=j then -(wtj (w i) j) else 0) hj fun q _ hq=>if_neg hq,if_pos rfl] at hle
 have:=hr.pos j hj
 show _<smN (st i).length (wtj (w i))
 omega
theorem sys_step(h:Sys t S op st w){i k:Nat}(hi:i<S.length)(hk:k<S.length)(hy:S[k] ∈ st i):0<wG S st w i k:=by
 have hr:=h.res i S[i] (List.getElem?_eq_getElem hi)
 unfold wG wF
 rw[if_pos hi,List.getElem?_eq_getElem hk]
 dsimp only
 obtain⟨j,hj,e⟩:=List.getElem_of_mem hy
 have h1:=V2 (f:=fun q=>if(st i)[q]? =some S[k] then wtj (w i) q else 0) (fun q=>by split;exact X6 h hi q;exact Int.le_refl _) (Nat.zero_le j) hj
 simp only[smN] at h1
 rw[if_pos (by rw[List.getElem?_eq_getElem hj,e])] at h1
 have:=hr.pos j hj
 unfold twF;omega
inductive Wy(t:b7)(S:LL)(st:Nat→LL):Nat→Prop
 |exit {i:Nat} {y:Li} (h:i<S.length) (hy:y ∈ st i) (hg:j6 t y):Wy t S st i
 |step {i k:Nat} {y:Li} (h:i<S.length) (hk:S[k]? =some y) (hy:y ∈ st i) (hp:Wy t S st k):Wy t S st i
theorem Wy.px(h:Sys t S op st w){i:Nat}(hw:Wy t S st i):Px S.length (WF st w) (wG S st w) i:=by
 induction hw with
 |exit hi hy hg=>exact .exit hi (sys_exit h hi hy hg)
 |@step i k y hi hk hy _ ih=>
  obtain⟨hk',rfl⟩:=lG.1 hk
  exact .step hi hk' (sys_step h hi hk' hy) ih
theorem sys_rb(ht:m4 t)(h:Sys t S op st w):Rb S.length (eqN t S op st w) 48 2400:=by
 have hM:=sys_ms ht h
 refine⟨by omega,by omega,fun i hi=> ?_,fun i hi=> ?_⟩
 ·have h1:smN S.length (fun k=>ab (eqN t S op st w i k))≤smN S.length fun k=>(if k=i then WF st w i else 0)+wG S st w i k:=S4 fun k hk=>by
   have h2:=hM.nn i k
   have h3:=hM.pos i hi
   have e:eqN t S op st w i k=(if k=i then WF st w i else 0) - wG S st w i k:=by
    unfold eqN eqM
    rw[if_neg (by omega)]
    by_cases f:k=i
    ·rw[if_pos f,if_pos f.symm]
    ·rw[if_neg f,if_neg (fun q=>f q.symm)]
   rw[e]
   unfold ab
   split<;>split<;>omega
  rw[F7,K4 (f:=fun k=>if k=i then WF st w i else 0) hi fun k _ hk=>if_neg hk,if_pos rfl] at h1
  have:=hM.le i hi
  have:=WF_le h hi
  omega
 ·have e:eqN t S op st w i S.length=WF st w i * cF t op i:=by unfold eqN eqM;rw[if_pos rfl]
  rw[e]
  have hop:=h.rng i hi
  have hco:=ht.at hop.1 hop.2
  have h3:=hM.pos i hi
  have h4:=WF_le h hi
  have h5:0≤WF st w i * cF t op i:=Int.mul_nonneg (by omega) hco.c0
  have h6:=Int.mul_le_mul h4 hco.c1 hco.c0 (by omega:(0:Int)≤24)
  unfold ab;rw[if_pos h5];exact h6
theorem Rb.congr{n:Nat}{A B:Mtx}{R C:Int}(h:Rb n A R C)(e:∀i k,i<n→k≤n→B i k=A i k):Rb n B R C:=
 ⟨h.R0,h.B0,fun i hi=>by rw[i9 (g:=fun k=>ab (A i k)) fun k hk=>by rw[e i k hi (by omega)]];exact h.row i hi,fun i hi=>by rw[e i n hi (Nat.le_refl n)];exact h.rhs i hi⟩
theorem GJ.congr{n c:Nat}{A B a:Mtx}{d:Int}(h:GJ n B c a d)(e:∀i k,i<n→k≤n→B i k=A i k)(hc:c≤n):GJ n A c a d:=by
 refine⟨by rw[h.dd];exact O0 fun i j hi hj=>e i j (by omega) (by omega),h.nz,h.on,fun j r hj hj' hr=> ?_,fun j r hj hj' hr hr'=> ?_⟩
 ·rw[← e r j (by omega) hj',← h.top j r hj hj' hr]
  exact i9 fun k hk=>by rw[e r k (by omega) (by omega)]
 ·rw[h.low j r hj hj' hr hr',e r j hr' hj']
  congr 1
  exact i9 fun k hk=>by rw[e r k hr' (by omega)]
theorem value_ok(ht:m4 t)(h:Sys t S op st w)(hp:∀i,i<S.length→Px S.length (WF st w) (wG S st w) i){choose:Li→Option Int}(hch:∀i s,S[i]? =some s→choose s=some (op i)):
  ∃L num,forR 0 (S.length:Int) (A8 t S choose) []=some L∧s9 S L=some (num,det S.length (eqN t S op st w))∧num.length=S.length∧det S.length (eqN t S op st w) ≠ 0∧
   (∀l,l<S.length→num[l]? =some (det S.length (rep (eqN t S op st w) l fun r=>eqN t S op st w r S.length)))∧
   ∀r,r<S.length→smN S.length (fun k=>eqN t S op st w r k * wtj num k)=det S.length (eqN t S op st w) * (WF st w r * cF t op r):=by
 obtain⟨L,l1,l2,l3⟩:=eqs_ok ht h hch
 have hM:=sys_ms ht h
 have hd:det S.length (mE L)=det S.length (eqN t S op st w):=O0 fun i k hi hk=>l3 i k hi (by omega)
 obtain⟨num,s1,s2,s3,s4,s5⟩:=solve_spec S h.n5 l2 ((sys_rb ht h).congr l3) (fun c a d hG hc=>(hG.congr l3 (by omega)).pivot hM hp hc)
 rw[hd] at s1 s3
 refine⟨L,num,l1,s1,s2,s3,fun l hl=> ?_,fun r hr=> ?_⟩
 ·rw[s4 l hl]
  congr 1
  exact O0 fun i k hi hk=>by
   unfold Ab.rep
   split
   ·exact l3 i _ hi (Nat.le_refl _)
   ·exact l3 i k hi (by omega)
 ·have:=s5 r hr
  rw[hd,l3 r _ hr (Nat.le_refl _)] at this
  rw[i9 (g:=fun k=>mE L r k * (num[k]?).getD 0) fun k hk=>by rw[l3 r k hr (by omega)];rfl,this]
  congr 1
  unfold eqN eqM;rw[if_pos rfl]
end
end Ab
end
section
namespace Ab
open Go
theorem euclid_eq{a b:Nat}(h:0<a∨0<b):Loop I6 ((a:Int),(b:Int))=some ((Nat.gcd a b:Nat):Int):=by
 obtain⟨o,h1,h2⟩:=M6 (body:=I6) (s:=((a:Int),(b:Int)))
  (fun s=>∃x y:Nat,s=((x:Int),(y:Int))∧Nat.gcd x y=Nat.gcd a b) (fun o=>o=((Nat.gcd a b:Nat):Int)) (fun s=>s.2.toNat) ⟨a,b,rfl,rfl⟩ (by
   rintro s ⟨x,y,rfl,e⟩
   unfold I6
   dsimp only
   by_cases c:0<y
   ·rw[if_pos (by omega),chkN,if_neg (by omega)]
    simp only[oB]
    refine .inl ⟨_,rfl,⟨y,x % y,?_,?_⟩,?_⟩
    ·rw[← Int.ofNat_tmod]
    ·rw[← e,Nat.gcd_comm y,← Nat.gcd_rec,Nat.gcd_comm]
    ·dsimp only
     rw[← Int.ofNat_tmod,Int.toNat_natCast,Int.toNat_natCast]
     exact Nat.mod_lt _ c
   ·rw[if_neg (by omega)]
    have:y=0:=by omega
    subst this
    rw[Nat.gcd_zero_right] at e
    exact .inr ⟨_,rfl,by rw[e]⟩)
 rw[h1,h2]
theorem w64N{n:Nat}(h:n≤4000000000000000000):w64 (n:Int)=n:=u5 (by omega) (by omega)
theorem binary_eq{a b:Nat}(ha:a≤4000000000000000000)(hb:b≤4000000000000000000)(hb0:0<b):ag2 (a:Int) (b:Int)=some ((Nat.gcd a b:Nat):Int):=by
 have hG:Nat.gcd a b≤b:=Nat.gcd_le_right a hb0
 have hG0:0<Nat.gcd a b:=Nat.gcd_pos_of_pos_right a hb0
 unfold ag2
 obtain⟨o,h1,x,y,h2,h3⟩:=M6 (body:=aa7) (s:=((a:Int),(b:Int),(1:Int)))
  (fun s=>∃x y k:Nat,s=((x:Int),(y:Int),(k:Int))∧0<y∧x≤4000000000000000000∧y≤4000000000000000000∧Nat.gcd x y * k=Nat.gcd a b)
  (fun o=>∃y k:Nat,o=((y:Int),(k:Int))∧y * k=Nat.gcd a b) (fun s=>(s.1+s.2.1).toNat) ⟨a,b,1,rfl,hb0,ha,hb,Nat.mul_one _⟩ (by
   rintro s ⟨x,y,k,rfl,y0,hx,hy,e⟩
   have g0:0<Nat.gcd x y:=Nat.gcd_pos_of_pos_right x y0
   have k0:0<k:=by
    rcases Nat.eq_zero_or_pos k with q|q
    ·rw[q,Nat.mul_zero] at e;omega
    ·exact q
   unfold aa7
   dsimp only
   by_cases c:0<x∧x ≠ y
   ·have cI:((decide (0<(x:Int))) && (!(decide ((x:Int)=y))))=true:=by simp;omega
    rw[if_pos cI]
    have ex:((x:Int)).tmod 2=((x % 2:Nat):Int):=by rw[Int.ofNat_tmod];rfl
    have ey:((y:Int)).tmod 2=((y % 2:Nat):Int):=by rw[Int.ofNat_tmod];rfl
    have dx:((x:Int)).tdiv 2=((x / 2:Nat):Int):=by rw[Int.ofNat_tdiv];rfl
    have dy:((y:Int)).tdiv 2=((y / 2:Nat):Int):=by rw[Int.ofNat_tdiv];rfl
    have c2:chkN 2=some ():=rfl
    simp only[c2,oB,ex,ey,dx,dy,w64N (show x / 2≤4000000000000000000 by omega),w64N (show y / 2≤4000000000000000000 by omega)]
    by_cases p:x % 2=0
    ·have p':((x % 2:Nat):Int)=0:=by omega
     have hxx:x=2 * (x / 2):=by omega
     rw[if_pos p']
     simp only[oB]
     by_cases q:y % 2=0
     ·have q':((y % 2:Nat):Int)=0:=by omega
      have hyy:y=2 * (y / 2):=by omega
      rw[if_pos (by simpa using q')]
      have e2:Nat.gcd x y=2 * Nat.gcd (x / 2) (y / 2):=by
       rw (occs:=.pos [1]) [hxx,hyy];exact Nat.gcd_mul_left 2 _ _
      have hk:Nat.gcd (x / 2) (y / 2) * (2 * k)=Nat.gcd a b:=by
       rw[← e,e2,Nat.mul_comm 2 (Nat.gcd _ _),Nat.mul_assoc]
      have hk2:2 * k≤Nat.gcd a b:=by
       have:0<Nat.gcd (x / 2) (y / 2):=Nat.gcd_pos_of_pos_right _ (by omega)
       rw[← hk];exact Nat.le_mul_of_pos_left _ this
      have w2:w64 (2 * (k:Int))=((2 * k:Nat):Int):=by
       have:=w64N (n:=2 * k) (by omega)
       simpa using this
      rw[w2]
      exact .inl ⟨_,rfl,⟨_,_,_,rfl,by omega,by omega,by omega,hk⟩,by dsimp only;omega⟩
     ·have q':¬ ((y % 2:Nat):Int)=0:=by omega
      rw[if_neg (by simpa using q'),if_pos p']
      refine .inl ⟨_,rfl,⟨_,_,_,rfl,y0,by omega,hy,?_⟩,by dsimp only;omega⟩
      rw[← e]
      congr 1
      rw (occs:=.pos [2]) [hxx]
      have hc:Nat.Coprime 2 y:=by
       have:y % 2=1:=by omega
       rw[Nat.Coprime,Nat.gcd_rec,this];decide
      exact(Nat.Coprime.gcd_mul_left_cancel (x / 2) hc).symm
    ·have p':¬ ((x % 2:Nat):Int)=0:=by omega
     rw[if_neg p']
     simp only[oB]
     rw[if_neg (by simp),if_neg p']
     by_cases q:y % 2=0
     ·have q':((y % 2:Nat):Int)=0:=by omega
      have hyy:y=2 * (y / 2):=by omega
      rw[if_pos q']
      refine .inl ⟨_,rfl,⟨_,_,_,rfl,by omega,hx,by omega,?_⟩,by dsimp only;omega⟩
      rw[← e]
      congr 1
      rw (occs:=.pos [2]) [hyy]
      have hc:Nat.Coprime 2 x:=by
       have:x % 2=1:=by omega
       rw[Nat.Coprime,Nat.gcd_rec,this];decide
      exact(Nat.Coprime.gcd_mul_left_cancel_right (y / 2) hc).symm
     ·have q':¬ ((y % 2:Nat):Int)=0:=by omega
      rw[if_neg q']
      by_cases r:y<x
      ·rw[if_pos (by omega)]
       have w2:w64 ((x:Int) - y)=((x - y:Nat):Int):=by
        rw[← w64N (n:=x - y) (by omega)];congr 1;omega
       rw[w2]
       refine .inl ⟨_,rfl,⟨_,_,_,rfl,y0,by omega,hy,?_⟩,by dsimp only;omega⟩
       rw[← e]
       congr 1
       have:x=(x - y)+y:=by omega
       rw (occs:=.pos [2]) [this]
       exact(Nat.gcd_add_self_left _ _).symm
      ·rw[if_neg (by omega)]
       have w2:w64 ((y:Int) - x)=((y - x:Nat):Int):=by
        rw[← w64N (n:=y - x) (by omega)];congr 1;omega
       rw[w2]
       refine .inl ⟨_,rfl,⟨_,_,_,rfl,by omega,hx,by omega,?_⟩,by dsimp only;omega⟩
       rw[← e]
       congr 1
       have:y=(y - x)+x:=by omega
       rw (occs:=.pos [2]) [this]
       exact(Nat.gcd_add_self_right _ _).symm
   ·have cI:¬ ((decide (0<(x:Int))) && (!(decide ((x:Int)=y))))=true:=by simp;omega
    rw[if_neg cI]
    refine .inr ⟨_,rfl,y,k,rfl,?_⟩
    rw[← e]
    congr 1
    by_cases z:x=0
    ·rw[z,Nat.gcd_zero_left]
    ·have:x=y:=by omega
     rw[this,Nat.gcd_self])
 rw[h1,h2]
 simp only[oB]
 have:w64 ((x:Int) * y)=((x * y:Nat):Int):=by
  have:=w64N (n:=x * y) (by omega)
  simpa using this
 rw[this,h3]
end Ab
end
section
namespace Ab
open Go
def Lt{α:Type}(x y:Option α):Prop:=∀r,x=some r→y=some r
theorem Lt.rfl'{α:Type}{x:Option α}:Lt x x:=fun _ h=>h
theorem Lt.bind{α β:Type}{x y:Option α}{f g:α→Option β}(h:Lt x y)(k:∀a,Lt (f a) (g a)):Lt (x.bind f) (y.bind g):=fun r hr=>by
 obtain⟨a,h1,h2⟩:=bind_some hr
 rw[h a h1];exact k a r h2
theorem Lt.LoopN{S O:Type}{f g:S→Option (S⊕O)}(h:∀s,Lt (f s) (g s)):∀(k:Nat) (s:S),Lt (LoopN f k s) (LoopN g k s)
 |0,_=>Lt.rfl'
 |k+1,s=>fun r hr=>by
  simp only[Ab.LoopN] at hr ⊢
  cases hf:f s with
  |none=>rw[hf] at hr;cases hr
  |some x=>
   rw[h s x hf]
   rw[hf] at hr
   cases x with
   |inl s'=>exact Lt.LoopN h k s' r hr
   |inr o=>exact hr
theorem Lt.Loop{S O:Type}{f g:S→Option (S⊕O)}{s:S}(h:∀s,Lt (f s) (g s)):Lt (Loop f s) (Loop g s):=fun r hr=>by
 obtain⟨n,hn⟩:=V4.1 hr
 exact V4.2 ⟨n,Lt.LoopN h n s r hn⟩
end Ab
end
section
namespace Ab
open Go
def frN(a b:Nat):m5:=⟨((a / Nat.gcd a b:Nat):Int),((b / Nat.gcd a b:Nat):Int)⟩
theorem frN_eq{a b c d:Nat}(hb:0<b)(hd:0<d)(h:a * d=c * b):frN a b=frN c d:=by
 have g0:0<Nat.gcd a b:=Nat.gcd_pos_of_pos_right a hb
 have g1:0<Nat.gcd c d:=Nat.gcd_pos_of_pos_right c hd
 obtain⟨a',ea⟩:=Nat.gcd_dvd_left a b
 obtain⟨b',eb⟩:=Nat.gcd_dvd_right a b
 obtain⟨c',ec⟩:=Nat.gcd_dvd_left c d
 obtain⟨d',ed⟩:=Nat.gcd_dvd_right c d
 have co1:Nat.Coprime a' b':=by
  have h1:a'=a / Nat.gcd a b:=by rw (occs:=.pos [1]) [ea];exact(Nat.mul_div_cancel_left _ g0).symm ▸ rfl
  have h2:b'=b / Nat.gcd a b:=by rw (occs:=.pos [1]) [eb];exact(Nat.mul_div_cancel_left _ g0).symm ▸ rfl
  rw[h1,h2];exact Nat.coprime_div_gcd_div_gcd g0
 have co2:Nat.Coprime c' d':=by
  have h1:c'=c / Nat.gcd c d:=by rw (occs:=.pos [1]) [ec];exact(Nat.mul_div_cancel_left _ g1).symm ▸ rfl
  have h2:d'=d / Nat.gcd c d:=by rw (occs:=.pos [1]) [ed];exact(Nat.mul_div_cancel_left _ g1).symm ▸ rfl
  rw[h1,h2];exact Nat.coprime_div_gcd_div_gcd g1
 have e:a' * d'=c' * b':=by
  have h1:(Nat.gcd a b * Nat.gcd c d) * (a' * d')=(Nat.gcd a b * Nat.gcd c d) * (c' * b'):=by
   have h2:(Nat.gcd a b * Nat.gcd c d) * (a' * d')=a * d:=by
    have:(Nat.gcd a b * Nat.gcd c d) * (a' * d')=(Nat.gcd a b * a') * (Nat.gcd c d * d'):=by grind
    rw[this,← ea,← ed]
   have h3:(Nat.gcd a b * Nat.gcd c d) * (c' * b')=c * b:=by
    have:(Nat.gcd a b * Nat.gcd c d) * (c' * b')=(Nat.gcd c d * c') * (Nat.gcd a b * b'):=by grind
    rw[this,← ec,← eb]
   rw[h2,h3,h]
  exact Nat.eq_of_mul_eq_mul_left (Nat.mul_pos g0 g1) h1
 have hdb:d' ∣ b':=by
  have:d' ∣ c' * b':=⟨a',by rw[← e,Nat.mul_comm]⟩
  exact Nat.Coprime.dvd_of_dvd_mul_left co2.symm this
 have hbd:b' ∣ d':=by
  have:b' ∣ a' * d':=⟨c',by rw[e,Nat.mul_comm]⟩
  exact Nat.Coprime.dvd_of_dvd_mul_left co1.symm this
 have hbd':b'=d':=Nat.dvd_antisymm hbd hdb
 have b0:0<b':=by
  rcases Nat.eq_zero_or_pos b' with q|q
  ·rw[q,Nat.mul_zero] at eb;omega
  ·exact q
 have hac:a'=c':=by
  rw[← hbd'] at e
  exact Nat.eq_of_mul_eq_mul_right b0 e
 have v1:a / Nat.gcd a b=a':=by rw (occs:=.pos [1]) [ea];exact Nat.mul_div_cancel_left _ g0
 have v2:b / Nat.gcd a b=b':=by rw (occs:=.pos [1]) [eb];exact Nat.mul_div_cancel_left _ g0
 have v3:c / Nat.gcd c d=c':=by rw (occs:=.pos [1]) [ec];exact Nat.mul_div_cancel_left _ g1
 have v4:d / Nat.gcd c d=d':=by rw (occs:=.pos [1]) [ed];exact Nat.mul_div_cancel_left _ g1
 unfold frN
 rw[v1,v2,v3,v4,hac,hbd']
theorem w64n{n:Nat}(h:n≤4000000000000000000):w64 (n:Int)=n:=u5 (by omega) (by omega)
theorem lowest_pos{a b:Nat}(ha:a≤4000000000000000000)(hb:b≤4000000000000000000)(hb0:0<b):z8 (a:Int) (b:Int)=some (frN a b,dec ((frN a b).num≤1000000000∧(frN a b).den≤1000000000)):=by
 have g0:0<Nat.gcd a b:=Nat.gcd_pos_of_pos_right a hb0
 unfold z8
 rw[if_neg (by omega)]
 simp only[oB]
 have hm:max (a:Int) (w64 (0 - (a:Int)))=a:=by
  rw[u5 (by omega) (by omega)];omega
 rw[hm,euclid_eq (.inr hb0)]
 have hg:chkN ((Nat.gcd a b:Nat):Int)=some ():=by unfold chkN;rw[if_neg (by omega)]
 have da:((a:Int)).tdiv ((Nat.gcd a b:Nat):Int)=((a / Nat.gcd a b:Nat):Int):=(Int.ofNat_tdiv _ _).symm
 have db:((b:Int)).tdiv ((Nat.gcd a b:Nat):Int)=((b / Nat.gcd a b:Nat):Int):=(Int.ofNat_tdiv _ _).symm
 have la:a / Nat.gcd a b≤4000000000000000000:=Nat.le_trans (Nat.div_le_self _ _) ha
 have lb:b / Nat.gcd a b≤4000000000000000000:=Nat.le_trans (Nat.div_le_self _ _) hb
 simp only[hg,oB,da,db,w64n la,w64n lb]
 unfold frN
 dsimp only
 generalize a / Nat.gcd a b=x at *
 generalize b / Nat.gcd a b=y at *
 have hm2:max (x:Int) (w64 (0 - (x:Int)))=x:=by
  rw[u5 (by omega) (by omega)];omega
 rw[hm2]
 congr 2
 by_cases c:(x:Int)≤1000000000∧(y:Int)≤1000000000
 ·rw[p8 c];simp;omega
 ·rw[u3 c];simp;omega
theorem lowest_neg{a b:Nat}(ha:a≤4000000000000000000)(hb:b≤4000000000000000000)(hb0:0<b):z8 (-(a:Int)) (-(b:Int))=z8 (a:Int) (b:Int):=by
 unfold z8
 rw[if_pos (by omega),if_neg (by omega)]
 have e1:w64 (0 - -(a:Int))=a:=by rw[show(0:Int) - -(a:Int)=a by omega];exact w64n ha
 have e2:w64 (0 - -(b:Int))=b:=by rw[show(0:Int) - -(b:Int)=b by omega];exact w64n hb
 rw[e1,e2]
theorem rLowest_eq{a b:Nat}(ha:a≤4000000000000000000)(hb:b≤4000000000000000000)(hb0:0<b):H4 (a:Int) (b:Int)=some (frN a b):=by
 have g0:0<Nat.gcd a b:=Nat.gcd_pos_of_pos_right a hb0
 unfold H4
 rw[binary_eq ha hb hb0]
 have hg:chkN ((Nat.gcd a b:Nat):Int)=some ():=by unfold chkN;rw[if_neg (by omega)]
 have da:((a:Int)).tdiv ((Nat.gcd a b:Nat):Int)=((a / Nat.gcd a b:Nat):Int):=(Int.ofNat_tdiv _ _).symm
 have db:((b:Int)).tdiv ((Nat.gcd a b:Nat):Int)=((b / Nat.gcd a b:Nat):Int):=(Int.ofNat_tdiv _ _).symm
 have la:a / Nat.gcd a b≤4000000000000000000:=Nat.le_trans (Nat.div_le_self _ _) ha
 have lb:b / Nat.gcd a b≤4000000000000000000:=Nat.le_trans (Nat.div_le_self _ _) hb
 simp only[hg,oB,da,db,w64n la,w64n lb]
 rfl
structure Sq(n:Nat)(M:LL):Prop where
 len:M.length=n
 row:∀r ∈ M,r.length=n
theorem Sq.get{n:Nat}{M:LL}(h:Sq n M){i:Nat}(hi:i<n):∃row,M[i]? =some row∧row.length=n∧ix M (i:Int)=some row∧∀j,j<n→ix row (j:Int)=some (mE M i j)∧row[j]? =some (mE M i j):=by
 have hl:i<M.length:=by rw[h.len];exact hi
 have e:M[i]? =some M[i]:=List.getElem?_eq_getElem hl
 have hr:=h.row _ (List.getElem_mem hl)
 refine⟨M[i],e,hr,by rw[r7,e],fun j hj=> ?_⟩
 have hj':j<M[i].length:=by omega
 have e2:M[i][j]? =some M[i][j]:=List.getElem?_eq_getElem hj'
 have:mE M i j=M[i][j]:=by unfold mE;rw[e];simp[e2]
 rw[r7,e2,this]
 exact⟨rfl,rfl⟩
def Bd(n:Nat)(A:Mtx):Prop:=∃l,(∀i,i<n→smN n (fun j=>if j=l then 0 else ab (A i j))≤48)∧(l<n→∀i,i<n→ab (A i l)≤2400)
theorem Bd.det{n:Nat}{A:Mtx}(hn:n≤5)(h:Bd n A):ab (det n A)≤63700992000:=by
 obtain⟨l,h1,h2⟩:=h
 by_cases e:l<n
 ·obtain⟨m,rfl⟩:∃m,n=m+1:=⟨n - 1,by omega⟩
  have:=ae7 (R:=48) (B:=2400) (by omega) (by omega) e h1 (h2 e)
  have h5:m=0∨m=1∨m=2∨m=3∨m=4:=by omega
  refine Int.le_trans this ?_
  rcases h5 with rfl|rfl|rfl|rfl|rfl<;>decide
 ·have:=W8 (n:=n) (A:=A) (r:=fun _=>48) (fun _=>by omega) fun i hi=>by
   have:=h1 i hi
   rwa [i9 (g:=fun j=>ab (A i j)) fun j hj=>by rw[if_neg (by omega)]] at this
  rw[W3] at this
  have h5:n=0∨n=1∨n=2∨n=3∨n=4∨n=5:=by omega
  refine Int.le_trans this ?_
  rcases h5 with rfl|rfl|rfl|rfl|rfl|rfl<;>decide
end Ab
end
section
namespace Ab
open Go
theorem Lt.forN{S:Type}{f g:Int→S→Option S}(h:∀i s,Lt (f i s) (g i s)):∀(k:Nat) (i:Int) (s:S),Lt (forN f k i s) (forN g k i s)
 |0,_,_=>Lt.rfl'
 |k+1,i,s=>fun r hr=>by
  simp only[Ab.forN] at hr ⊢
  cases hf:f i s with
  |none=>rw[hf] at hr;cases hr
  |some x=>
   rw[h i s x hf]
   rw[hf] at hr
   exact Lt.forN h k (i+1) x r hr
theorem Lt.forR{S:Type}{f g:Int→S→Option S}{lo n:Int}{s:S}(h:∀i s,Lt (f i s) (g i s)):Lt (forR lo n f s) (forR lo n g s):=Lt.forN h _ _ _
end Ab
end
section
namespace Ab
open Go
section
variable {t:b7}{S:LL}{op:Nat→Int}{st:Nat→LL}{w:Nat→Li}
end
end Ab
end
section
namespace Ab
open Go
/-! ### Values of ordered states -/
noncomputable def sc(t:b7)(s:Li)(op:Int):LL:=(ooAt t op).outcomes.map (efc t.facts s)
structure Rep{A:Type}(all:LL)(v:List A)(f:Li→A):Prop where
 len:v.length=all.length
 get:∀{i:Int} {s:Li},ix all i=some s→ix v i=some (f s)
noncomputable def upd{A:Type}(f:Li→A)(s:Li)(x:A):Li→A:=fun z=>if dec (z=s)=true then x else f z
theorem O7{A:Type}{f:Li→A}{s:Li}{x:A}:upd f s x s=x:=ifP rfl
theorem ab9{A:Type}{f:Li→A}{s z:Li}{x:A}(h:z ≠ s):upd f s x z=f z:=ifN h
section
variable {A:Type}{all:LL}{v:List A}{f g:Li→A}
theorem Rep.of(h:Rep all v f){s:Li}(hs:s ∈ all):∃i,ix all i=some s∧ix v i=some (f s):=by
 obtain⟨i,_,_,hi⟩:=w8 hs
 exact⟨i,hi,h.get hi⟩
theorem Rep.set(ho:Ord all)(h:Rep all v f){i:Int}{s:Li}(hi:ix all i=some s)(x:A):Rep all (v.set i.toNat x) (upd f s x):=by
 obtain⟨i0,i1,_⟩:=v8 hi
 have hl:=h.len
 refine⟨by rw[lS];exact hl,fun {j z} hj=> ?_⟩
 rw[ix_put i0 (by omega) (v8 hj).1]
 by_cases e:j=i
 ·subst e
  rw[hi] at hj;cases hj
  rw[if_pos rfl,O7]
 ·rw[if_neg e,ab9 (fun hz=>e (by subst hz;exact ho.inj hj hi))]
  exact h.get hj
theorem Rep.congr(h:Rep all v f)(e:∀s ∈ all,f s=g s):Rep all v g:=⟨h.len,fun hi=>by rw[← e _ (r8 hi)];exact h.get hi⟩
theorem Rep.repl(c:A):Rep all (List.replicate all.length c) fun _=>c:=⟨by simp,fun {i s} hi=>by
 obtain⟨i0,i1,g⟩:=v8 hi
 have:i.toNat<all.length:=(lG.1 g).1
 rw[ix,if_pos i0,List.getElem?_replicate,if_pos this]⟩
end
def DnA(t:b7):Nat→Li→Prop
 |0,s=>j6 t s
 |k+1,s=>j6 t s∨∃op:Int,(0≤op∧op<t.operators.length)∧oCan t s op∧∀y ∈ sc t s op,DnA t k y
section
variable {t:b7}
theorem DnA.goal{k:Nat}{s:Li}(h:j6 t s):DnA t k s:=by
 cases k with
 |zero=>exact h
 |succ k=>exact .inl h
theorem DnA.succ:∀{k:Nat} {s:Li},DnA t k s→DnA t (k+1) s
 |0,s,h=>.inl h
 |k+1,s,h=>by
  rcases h with h|⟨op,h1,h2,h3⟩
  ·exact .inl h
  ·exact .inr ⟨op,h1,h2,fun y hy=>DnA.succ (h3 y hy)⟩
def HtA(t:b7)(k:Nat)(s:Li):Prop:=DnA t k s∧∀j,j<k→¬ DnA t j s
theorem HtA.zero{s:Li}(h:j6 t s):HtA t 0 s:=⟨h,fun j hj=>by omega⟩
structure ClO(t:b7)(all:LL):Prop where
 cl:Cl t all
 ord:Ord all
theorem ClO.len{all:LL}(h:ClO t all):all.length≤2000:=h.cl.len
theorem ClO.set{all:LL}(h:ClO t all){s:Li}(hs:s ∈ all):SetN s t.facts:=h.cl.set s hs
theorem ClO.sc{all:LL}(h:ClO t all){s:Li}(hs:s ∈ all){op:Int}(h0:0≤op∧op<t.operators.length)(hc:oCan t s op){y:Li}(hy:y ∈ sc t s op):y ∈ all:=by
 obtain⟨x,hx,rfl⟩:=List.mem_map.1 hy
 exact h.cl.closed s hs op h0.1 h0.2 hc x hx
end
end Ab
end
section
namespace Ab
open Go
/-! ### Loops that do the same, till one of them gives up -/
section
variable {t:b7}{m:Int}
end
end Ab
end
section
namespace Ab
open Go
end Ab
end
section
namespace Ab
open Go
section
variable {t:b7}
def DsC(t:b7)(S:Li→Prop):Nat→Li→Prop
 |0,s=>j6 t s
 |k+1,s=>j6 t s∨(S s∧∃op:Int,(0≤op∧op<t.operators.length)∧oCan t s op∧(∀y ∈ sc t s op,S y)∧∃y ∈ sc t s op,DsC t S k y)
variable {S T:Li→Prop}
theorem DsC.goal{k:Nat}{s:Li}(h:j6 t s):DsC t S k s:=by
 cases k with
 |zero=>exact h
 |succ k=>exact .inl h
theorem DsC.succ:∀{k:Nat} {s:Li},DsC t S k s→DsC t S (k+1) s
 |0,s,h=>.inl h
 |k+1,s,h=>by
  rcases h with h|⟨h0,op,h1,h2,h3,y,hy,h4⟩
  ·exact .inl h
  ·exact .inr ⟨h0,op,h1,h2,h3,y,hy,h4.succ⟩
def HtD(t:b7)(S:Li→Prop)(k:Nat)(s:Li):Prop:=DsC t S k s∧∀j,j<k→¬ DsC t S j s
theorem HtD.step{k:Nat}{s:Li}(h:HtD t S (k+1) s):¬ j6 t s∧S s∧∃op:Int,(0≤op∧op<t.operators.length)∧oCan t s op∧(∀y ∈ sc t s op,S y)∧∃y ∈ sc t s op,HtD t S k y:=by
 have hg:¬ j6 t s:=fun g=>h.2 0 (by omega) g
 rcases h.1 with g|⟨h0,op,h1,h2,h3,y,hy,h4⟩
 ·exact absurd g hg
 ·refine⟨hg,h0,op,h1,h2,h3,y,hy,h4,fun j hj hd=> ?_⟩
  exact h.2 (j+1) (by omega) (.inr ⟨h0,op,h1,h2,h3,y,hy,hd⟩)
/-! ### Lists of numbers -/
/-! ### The numbers of the states after an operator -/
def ArcL(t:b7)(all:LL)(s:Li)(op:Int)(l:Li):Prop:=(oCan t s op∧∀k,k ∈ l↔∃y ∈ sc t s op,ix all k=some y)∨(¬ oCan t s op∧l=[])
structure ArcsOk(t:b7)(all:LL)(nx:List (LL)):Prop where
 len:nx.length=all.length
 row:∀i s,ix all i=some s→∃r,ix nx i=some r∧r.length=t.operators.length∧∀op l,ix r op=some l→ArcL t all s op l
end
end Ab
end
section
namespace Ab
open Go
section
variable {t:b7}{S:Li→Prop}{all:LL}
end
end Ab
end
section
namespace Ab
open Go
section
variable {t:b7}{all:LL}
end
section
variable {t:b7}{p:List d9}
def RkP(t:b7)(p:List d9):Nat→Li→Prop
 |0,s=>j6 t s
 |k+1,s=>j6 t s∨(H2 p s∧∃y ∈ nxS t p s,RkP t p k y)
theorem RkP.goal{k:Nat}{s:Li}(h:j6 t s):RkP t p k s:=by
 cases k with
 |zero=>exact h
 |succ k=>exact .inl h
theorem RkP.succ:∀{k:Nat} {s:Li},RkP t p k s→RkP t p (k+1) s
 |0,s,h=>.inl h
 |k+1,s,h=>by
  rcases h with h|⟨h1,y,hy,h2⟩
  ·exact .inl h
  ·exact .inr ⟨h1,y,hy,h2.succ⟩
theorem RkP.mono{k m:Nat}{s:Li}(h:RkP t p k s)(hm:k≤m):RkP t p m s:=by
 induction hm with
 |refl=>exact h
 |step _ ih=>exact ih.succ
def HtR(t:b7)(p:List d9)(k:Nat)(s:Li):Prop:=RkP t p k s∧∀j,j<k→¬ RkP t p j s
theorem HtR.unique{k m:Nat}{s:Li}(h:HtR t p k s)(h':HtR t p m s):k=m:=by
 rcases Nat.lt_trichotomy k m with c|c|c
 ·exact absurd h.1 (h'.2 k c)
 ·exact c
 ·exact absurd h'.1 (h.2 m c)
theorem HtR.of_dn:∀{k:Nat} {s:Li},RkP t p k s→∃m,m≤k∧HtR t p m s
 |0,s,h=>⟨0,Nat.le_refl _,h,fun j hj=>by omega⟩
 |k+1,s,h=>by
  by_cases c:RkP t p k s
  ·obtain⟨m,h1,h2⟩:=HtR.of_dn c
   exact⟨m,by omega,h2⟩
  ·exact⟨k+1,Nat.le_refl _,h,fun j hj hd=>c (hd.mono (by omega))⟩
theorem HtR.chain{l:LL}(hv:Vis t p l):∀{k:Nat} {s:Li},s ∈ l→HtR t p k s→∃c:LL,c.length=k+1∧c.Nodup∧∀x ∈ c,x ∈ l∧∃j,j≤k∧HtR t p j x
 |0,s,hs,h=>⟨[s],rfl,by simp,fun x hx=>by rw[List.mem_singleton.1 hx];exact⟨hs,0,Nat.le_refl _,h⟩⟩
 |k+1,s,hs,h=>by
  have hg:¬ j6 t s:=fun g=>h.2 0 (by omega) g
  rcases h.1 with g|⟨hl,y,hy,h4⟩
  ·exact absurd g hg
  have h5:HtR t p k y:=⟨h4,fun j hj hd=>h.2 (j+1) (by omega) (.inr ⟨hl,y,hy,hd⟩)⟩
  obtain⟨c,c1,c2,c3⟩:=HtR.chain hv (hv.closed s hs hg hl y hy) h5
  refine⟨s::c,by simp[c1],List.nodup_cons.2 ⟨fun hm=> ?_,c2⟩,fun x hx=> ?_⟩
  ·obtain⟨_,j,j1,j2⟩:=c3 s hm
   have:=j2.unique h;omega
  ·rcases List.mem_cons.1 hx with rfl|hx
   ·exact⟨hs,k+1,Nat.le_refl _,h⟩
   ·obtain⟨q0,j,q1,q2⟩:=c3 x hx
    exact⟨q0,j,by omega,q2⟩
theorem HtR.lt{l:LL}(hv:Vis t p l){k:Nat}{s:Li}(hs:s ∈ l)(h:HtR t p k s):k<l.length:=by
 obtain⟨c,c1,c2,c3⟩:=h.chain hv hs
 have:=nodup_len c2 fun x hx=>(c3 x hx).1
 omega
structure CanOk(t:b7)(p:List d9)(l:LL)(f:Li→Int):Prop where
 b:∀s ∈ l,f s=0∨f s=1
 ok:∀s ∈ l,f s=1→∃k,RkP t p k s
theorem holds2(ht:m4 t)(hp:H1 t p){l:LL}(hv:Vis t p l){i:Int}{s:Li}(hs:ix l i=some s){c:Li}{f:Li→Int}(hr:Rep l c f)(hk:CanOk t p l f):
  (F5 t p l i c=some (.inr false)∧¬ j6 t s∧¬ H2 p s)∨∃c' f',F5 t p l i c=some (.inl c')∧Rep l c' f'∧CanOk t p l f'∧(∀z ∈ l,f z≤f' z)∧(j6 t s→f' s=1)∧(H2 p s→∀y ∈ nxS t p s,f y=1→f' s=1):=by
 have hsm:=r8 hs
 have hset:=((hv.mem s).1 hsm).set ht
 have hsl:=hset.len
 have hn:=ht.n1
 have hlen:=hv.len ht hp
 unfold F5
 rw[hs]
 simp only[oB,P4 hset.1 ht.goal.1 (show s.length≤1000000 by omega)]
 unfold L8
 by_cases hg:j6 t s
 ·rw[ifP (p:=∀x ∈ t.goal,x ∈ s) hg,hr.get hs]
  simp only[oB]
  refine .inr ⟨_,_,rfl,hr.set hv.ord hs 1,⟨fun z hz=> ?_,fun z hz hf=> ?_⟩,fun z hz=> ?_,fun _=>O7,fun _ _ _ _=>O7⟩
  ·by_cases e:z=s
   ·subst e;exact .inr O7
   ·rw[ab9 e];exact hk.b z hz
  ·by_cases e:z=s
   ·subst e;exact⟨0,hg⟩
   ·rw[ab9 e] at hf;exact hk.ok z hz hf
  ·by_cases e:z=s
   ·subst e;rw[O7];rcases hk.b z hz with h|h<;>omega
   ·rw[ab9 e];exact Int.le_refl _
 ·rw[ifN (p:=∀x ∈ t.goal,x ∈ s) hg,(ad7 hp s).1]
  simp only[oB]
  by_cases hl:chO p s<0
  ·rw[if_pos hl]
   exact .inl ⟨rfl,hg,fun h=>by unfold H2 at h;omega⟩
  ·rw[if_neg hl]
   have hlive:H2 p s:=by unfold H2;omega
   have ho:=live_op hp hlive
   obtain⟨st,w,r1,_,r3,_⟩:=aj1 ht ho.1.1 ho.1.2 hset
   have hst:∀y,y ∈ st↔y ∈ nxS t p s:=fun y=>by rw[r3,nxS,List.mem_map]
   rw[r1]
   simp only[oB]
   obtain⟨c',g1,f',g2,g3,g4,g5,g6⟩:=G2 (body:=Q8 l i (st,w)) (n:=(st.length:Int)) (s:=c) (fun j x=>∃f',Rep l x f'∧CanOk t p l f'∧(∀z ∈ l,f z≤f' z)∧(∀z ∈ l,z ≠ s→f' z=f z)∧∀k y,k<j→ix st k=some y→f y=1→f' s=1) (by omega) ⟨f,hr,hk,fun z _=>Int.le_refl _,fun z _ _=>rfl,fun k y hk2 h=>by have:=(v8 h).1;omega⟩ (fun j x j0 j1 ⟨f',q1,q2,q3,q4,q5⟩=>by
    obtain⟨y,hy,_⟩:=j8 (l:=st) j0 j1
    have hyn:=(hst y).1 (r8 hy)
    have hyl:=hv.closed s hsm hg hlive y hyn
    obtain⟨z,hz,hzv⟩:=q1.of hyl
    unfold Q8
    dsimp only
    rw[hy]
    simp only[oB,q1.get hs,find_eq hv.ord (show l.length≤500000 by omega) hz,hzv]
    have bs:=q2.b s hsm
    have by':=q2.b y hyl
    refine⟨_,rfl,_,q1.set hv.ord hs _,⟨fun z' hz'=> ?_,fun z' hz' hf=> ?_⟩,fun z' hz'=> ?_,fun z' hz' hne=> ?_,fun k y' hk2 hy' hf=> ?_⟩
    ·by_cases e:z'=s
     ·subst e;rw[O7];omega
     ·rw[ab9 e];exact q2.b z' hz'
    ·by_cases e:z'=s
     ·subst e
      rw[O7] at hf
      by_cases c1:f' z'=1
      ·exact q2.ok z' hz' c1
      ·obtain⟨k,hk3⟩:=q2.ok y hyl (by omega)
       exact⟨k+1,.inr ⟨hlive,y,hyn,hk3⟩⟩
     ·rw[ab9 e] at hf;exact q2.ok z' hz' hf
    ·by_cases e:z'=s
     ·subst e;rw[O7];have:=q3 z' hz';omega
     ·rw[ab9 e];exact q3 z' hz'
    ·rw[ab9 hne];exact q4 z' hz' hne
    ·rw[O7]
     by_cases e:k=j
     ·subst e
      rw[hy] at hy';cases hy'
      have:=q3 y hyl
      omega
     ·have:=q5 k y' (by omega) hy' hf
      omega)
   rw[g1]
   simp only[oB]
   refine .inr ⟨c',f',rfl,g2,g3,g4,fun h=>absurd h hg,fun _ y hy hf=> ?_⟩
   obtain⟨q,_,q1,hq⟩:=w8 ((hst y).2 hy)
   exact g6 q y q1 hq hf
def KnR(t:b7)(p:List d9)(l:LL)(r:Nat)(f:Li→Int):Prop:=∀s ∈ l,∀k,k<r→RkP t p k s→f s=1
theorem holds1(ht:m4 t)(hp:H1 t p){l:LL}(hv:Vis t p l){c:Li}{f:Li→Int}(hr:Rep l c f)(hk:CanOk t p l f){r:Nat}(hn:KnR t p l r f)(j:Int):
  (G0 t p l j c=some (.inr false)∧∃s ∈ l,¬ j6 t s∧¬ H2 p s)∨∃c' f',G0 t p l j c=some (.inl c')∧Rep l c' f'∧CanOk t p l f'∧KnR t p l (r+1) f':=by
 unfold G0
 rcases aa5 (body:=F5 t p l) (n:=(l.length:Int)) (s:=c) (fun j x=>∃f',Rep l x f'∧CanOk t p l f'∧(∀z ∈ l,f z≤f' z)∧∀i s k,i<j→ix l i=some s→k<r+1→RkP t p k s→f' s=1) (fun o=>o=false∧∃s ∈ l,¬ j6 t s∧¬ H2 p s) (by omega) ⟨f,hr,hk,fun z _=>Int.le_refl _,fun i s k hi h=>by have:=(v8 h).1;omega⟩ (fun j x j0 j1 ⟨f',q1,q2,q3,q4⟩=>by
  obtain⟨s,hs,_⟩:=j8 (l:=l) j0 j1
  have hsm:=r8 hs
  rcases holds2 ht hp hv hs q1 q2 with⟨h1,h2,h3⟩|⟨c',f'',h1,h2,h3,h4,h5,h6⟩
  ·exact .inr ⟨_,h1,rfl,s,hsm,h2,h3⟩
  ·refine .inl ⟨_,h1,f'',h2,h3,fun z hz=>Int.le_trans (q3 z hz) (h4 z hz),fun i z k hi hz hkr hkk=> ?_⟩
   by_cases e:i=j
   ·subst e
    rw[hs] at hz;cases hz
    by_cases hg:j6 t s
    ·exact h5 hg
    ·cases k with
     |zero=>exact absurd hkk hg
     |succ k=>
      rcases hkk with g|⟨hl,y,hy,hyk⟩
      ·exact absurd g hg
      ·have hyl:=hv.closed s hsm hg hl y hy
       have e1:=hn y hyl k (by omega) hyk
       have e2:=q3 y hyl
       refine h6 hl y hy ?_
       rcases q2.b y hyl with h|h<;>omega
   ·have e1:=q4 i z k (by omega) hz hkr hkk
    have e2:=h4 z (r8 hz)
    rcases h3.b z (r8 hz) with h|h<;>omega) with⟨c',e1,f',e2,e3,e4,e5⟩|⟨o,e1,rfl,e2⟩
 ·rw[e1]
  refine .inr ⟨c',f',rfl,e2,e3,fun s hs k hk2 hkk=> ?_⟩
  obtain⟨i,_,i1,hi⟩:=w8 hs
  exact e5 i s k i1 hi hk2 hkk
 ·rw[e1]
  exact .inl ⟨rfl,e2⟩
theorem holds_eq(ht:m4 t)(hp:H1 t p):R6 t p=some (dec (∀s,Rch t p s→∃k,RkP t p k s)):=by
 obtain⟨l,g1,hv⟩:=oVisited_eq ht hp
 have hlen:=hv.len ht hp
 unfold R6
 rw[g1]
 simp only[oB]
 rw[show mkL 8 (l.length:Int) (0:Int)=some (List.replicate l.length 0) by rw[mkL,if_pos (by omega)];simp]
 simp only[oB]
 rcases aa5 (body:=G0 t p l) (n:=(l.length:Int)) (s:=List.replicate l.length 0) (fun j x=>∃f,Rep l x f∧CanOk t p l f∧KnR t p l j.toNat f) (fun o=>o=false∧∃s ∈ l,¬ j6 t s∧¬ H2 p s) (by omega) ⟨_,Rep.repl 0,⟨fun s _=>.inl rfl,fun s _ h=>by cases h⟩,fun s _ k hk=>by simp at hk⟩ (fun j x j0 j1 ⟨f,q1,q2,q3⟩=>by
  rcases holds1 ht hp hv q1 q2 q3 j with⟨h1,h2⟩|⟨c',f',h1,h2,h3,h4⟩
  ·exact .inr ⟨_,h1,rfl,h2⟩
  ·exact .inl ⟨_,h1,f',h2,h3,by rwa [show(j+1).toNat=j.toNat+1 by omega]⟩) with⟨c,e1,f,e2,e3,e4⟩|⟨o,e1,rfl,s,hs,hg,hl⟩
 ·rw[e1]
  simp only[oB,contains1_eq,y6]
  congr 1
  refine O1 ⟨fun h s hs=> ?_,fun h hm=> ?_⟩
  ·have hsl:=(hv.mem s).2 hs
   obtain⟨i,hi,hci⟩:=e2.of hsl
   rcases e3.b s hsl with e|e
   ·exact absurd (by rw[e] at hci;exact r8 hci) h
   ·exact e3.ok s hsl e
  ·obtain⟨i,i0,i1,hi⟩:=w8 hm
   obtain⟨s,hs,_⟩:=j8 (l:=l) i0 (by have:=e2.len;omega)
   have hsl:=r8 hs
   obtain⟨k,hk⟩:=h s ((hv.mem s).1 hsl)
   obtain⟨m,_,hm2⟩:=HtR.of_dn hk
   have:=hm2.lt hv hsl
   have e5:=e4 s hsl m (by omega) hm2.1
   rw[e2.get hs,e5] at hi
   cases hi
 ·rw[e1,u3]
  ·rfl
  intro h
  obtain⟨k,hk⟩:=h s ((hv.mem s).1 hs)
  cases k with
  |zero=>exact hg hk
  |succ k=>
   rcases hk with h|⟨h,_⟩
   ·exact hg h
   ·exact hl h
end
end Ab
end
section
namespace Ab
open Go
/-! ### The coin -/
end Ab
end
section
namespace Ab
open Go
def MN(g:Li→Int)(l:LL)(m:Int):Prop:=m≤1000000000∧(∀y ∈ l,m≤g y)∧(m=1000000000∨∃y ∈ l,g y=m)
theorem MN.congr{g g':Li→Int}{l:LL}{m:Int}(h:MN g l m)(e:∀y ∈ l,g y=g' y):MN g' l m:=by
 refine⟨h.1,fun y hy=>by rw[← e y hy];exact h.2.1 y hy,?_⟩
 rcases h.2.2 with h|⟨y,hy,e1⟩
 ·exact .inl h
 ·exact .inr ⟨y,hy,by rw[← e y hy];exact e1⟩
section
variable {t:b7}{p:List d9}
structure LowR(t:b7)(p:List d9)(l:LL)(g:Li→Int):Prop where
 b:∀s ∈ l,0≤g s∧g s≤1000000000
 dn:∀s ∈ l,g s<1000000000→RkP t p (g s).toNat s
 goal:∀s ∈ l,j6 t s→g s=0
end
end Ab
end
section
namespace Ab
open Go
section
def delB(f:Li→Option Bool):((LL)×Int×Int)→Option (((LL)×Int×Int)⊕((LL)×Int)):=fun(c,i,j)=>if j<(c.length:Int) then Option.bind (Option.bind (ix c j) fun a=>Option.bind (f a) fun b=>if(!b)=true then Option.bind (ix c i) fun _=>some (c.set i.toNat a,w64 (i+1)) else some (c,i)) fun⟨c',i'⟩=>some (.inl (c',i',w64 (j+1))) else some (.inr (c,i))
noncomputable def delA(f:Li→Option Bool)(l:LL):Option (LL):=Option.bind (r9 l f) fun a10=>if a10=(-1) then some l else Option.bind (Loop (delB f) (l,a10,w64 (a10+1))) fun⟨c61,iv62⟩=>Option.bind (cutV (c61.length:Int) iv62 (c61.length:Int)) fun u38=>Option.bind (cutV ((clrL c61 (0+iv62) ((c61.length:Int) - iv62) []).length:Int) 0 iv62) fun u41=>some (n7 (clrL c61 (0+iv62) ((c61.length:Int) - iv62) []) 0 iv62)
theorem take_filter{p:Li→Bool}{l:LL}{j:Nat}(h:j<l.length):(l.take (j+1)).filter p=if p l[j] then(l.take j).filter p++[l[j]] else(l.take j).filter p:=by
 rw[List.take_succ_eq_append_getElem h,List.filter_append]
 by_cases e:p l[j]=true
 ·rw[if_pos e];simp[e]
 ·rw[if_neg e];simp[e]
theorem del_eq{g:Li→Prop}{l:LL}(hl:l.length≤1000000){f:Li→Option Bool}(hf:∀a ∈ l,f a=some (dec (g a))):delA f l=some (l.filter fun a=> !dec (g a)):=by
 generalize hp:(fun a=> !dec (g a))=p
 have hpa:∀a,p a= !dec (g a):=fun a=>by rw[← hp]
 unfold delA r9
 rcases C5 (body:=v6 l f) (n:=(l.length:Int)) (fun j=>if dec (∃x,ix l j=some x∧g x)=true then some j else none) (by omega) (fun j h0 h1 _=>by
  obtain⟨x,hx,_⟩:=j8 (l:=l) h0 h1
  unfold v6
  rw[hx]
  simp only[oB,hf x (r8 hx)]
  by_cases e:g x
  ·rw[ifP e,ifP ⟨x,rfl,e⟩]
  ·rw[ifN e,ifN (by rintro ⟨y,hy,q⟩;cases hy;exact e q)]) with⟨h1,h2⟩|⟨j,o,h0,h1,h2,h3,h4⟩
 ·rw[h1]
  simp only[oB,if_true]
  congr 1
  refine(List.filter_eq_self.2 fun a ha=> ?_).symm
  rw[hpa,u3]
  ·rfl
  ·intro q
   obtain⟨i,i0,i1,hi⟩:=w8 ha
   have:=h2 i i0 i1
   rw[ifP ⟨a,hi,q⟩] at this
   cases this
 ·rw[h4]
  split at h2
  ·rename_i e
   cases h2
   simp only[oB]
   rw[if_neg (by omega)]
   obtain⟨J,rfl⟩:=Int.eq_ofNat_of_zero_le h0
   have hJ:J<l.length:=by omega
   obtain⟨x,hx,hgx⟩:=o9.1 e
   have hF:(l.take J).filter p=l.take J:=List.filter_eq_self.2 fun a ha=>by
    rw[hpa,u3]
    ·rfl
    ·intro q
     obtain⟨k,hk,rfl⟩:=List.getElem_of_mem ha
     rw[List.length_take] at hk
     have hk':k<l.length:=by omega
     rw[List.getElem_take] at q
     have:=h3 k (by omega) (by omega)
     rw[ifP ⟨l[k],by rw[r7];exact List.getElem?_eq_getElem hk',q⟩] at this
     cases this
   have hF1:(l.take (J+1)).filter p=l.take J:=by
    rw[take_filter hJ,if_neg,hF]
    rw[r7,List.getElem?_eq_getElem hJ] at hx
    rw[hpa,Option.some.inj hx,p8 hgx];simp
   rw[show w64 ((J:Int)+1)=((J+1:Nat):Int) by rw[u5 (by omega) (by omega)];omega]
   obtain⟨⟨c,i⟩,k1,k2⟩:=M6 (body:=delB f) (fun q=>∃i j:Nat,q.2=((i:Int),(j:Int))∧i<j∧j≤l.length∧q.1.length=l.length∧((l.take j).filter p).length=i∧(∀k,k<i→q.1[k]? =((l.take j).filter p)[k]?)∧∀k,j≤k→q.1[k]? =l[k]?)
    (fun r=>r.1.length=l.length∧(r.2=((l.filter p).length:Int))∧(l.filter p).length≤l.length∧∀k,k<(l.filter p).length→r.1[k]? =(l.filter p)[k]?) (fun q=>((l.length:Int) - q.2.2).toNat) (s:=(l,(J:Int),((J+1:Nat):Int)))
    ⟨J,J+1,rfl,by omega,by omega,rfl,by rw[hF1,List.length_take];omega,fun k hk=>by rw[hF1,List.getElem?_take,if_pos hk],fun k _=>rfl⟩ (fun⟨c,q⟩ ⟨i,j,e0,e1,e2,e3,e4,e5,e6⟩=>by
    dsimp only at e0 e3 e5 e6
    subst e0
    unfold delB
    dsimp only
    by_cases cj:(j:Int)<c.length
    ·rw[if_pos cj]
     have hj:j<l.length:=by omega
     have hcj:ix c (j:Int)=some l[j]:=by rw[r7,e6 j (Nat.le_refl _)];exact List.getElem?_eq_getElem hj
     have hci:ix c (i:Int)=some c[i]:=by rw[r7];exact List.getElem?_eq_getElem (by omega)
     have wj:w64 ((j:Int)+1)=((j+1:Nat):Int):=by rw[u5 (by omega) (by omega)];omega
     have wi:w64 ((i:Int)+1)=((i+1:Nat):Int):=by rw[u5 (by omega) (by omega)];omega
     simp only[hcj,oB,hf _ (List.getElem_mem hj),y6]
     have tf:=take_filter (p:=p) hj
     by_cases cg:g l[j]
     ·rw[ifNN cg]
      simp only[oB,wj]
      rw[hpa,p8 cg,if_neg (by simp)] at tf
      refine .inl ⟨_,rfl,⟨i,j+1,rfl,by omega,by omega,e3,by rw[tf];exact e4,fun k hk=>by rw[tf];exact e5 k hk,fun k hk=>e6 k (by omega)⟩,by dsimp only;omega⟩
     ·rw[ifP cg]
      simp only[hci,oB,wi,wj,Int.toNat_natCast]
      rw[hpa,u3 cg,if_pos (by simp)] at tf
      refine .inl ⟨_,rfl,⟨i+1,j+1,rfl,by omega,by omega,by rw[lS];exact e3,by rw[tf,List.length_append,List.length_singleton,e4],fun k hk=> ?_,fun k hk=> ?_⟩,by dsimp only;omega⟩
      ·dsimp only
       rw[tf,List.getElem?_set]
       by_cases ek:i=k
       ·subst ek;rw[if_pos rfl,if_pos (by omega),List.getElem?_append_right (by omega),e4,Nat.sub_self];rfl
       ·rw[if_neg ek,List.getElem?_append_left (by omega)];exact e5 k (by omega)
      ·dsimp only
       rw[List.getElem?_set,if_neg (by omega)];exact e6 k (by omega)
    ·rw[if_neg cj]
     have ej:j=l.length:=by omega
     rw[ej,List.take_length] at e4 e5
     exact .inr ⟨_,rfl,e3,by dsimp only;omega,by omega,fun k hk=>e5 k (by omega)⟩)
   obtain⟨k2,k3,k4,k5⟩:=k2
   dsimp only at k2 k3 k4 k5
   subst k3
   rw[k1]
   simp only[oB]
   generalize hFl:l.filter p=F at *
   have hlen:(clrL c (0+(F.length:Int)) ((c.length:Int) - F.length) []).length=c.length:=by
    unfold clrL
    simp only[List.length_append,List.length_take,List.length_replicate,List.length_drop]
    omega
   rw[show cutV (c.length:Int) (F.length:Int) (c.length:Int)=some () by unfold cutV;rw[if_pos (by omega)],hlen,show cutV (c.length:Int) 0 (F.length:Int)=some () by unfold cutV;rw[if_pos (by omega)]]
   simp only[oB]
   congr 1
   unfold n7 clrL
   rw[show(0+(F.length:Int)).toNat=F.length by omega,Int.toNat_natCast,Int.toNat_zero,List.drop_zero]
   apply List.ext_getElem?
   intro k
   rw[List.getElem?_take]
   by_cases ek:k<F.length
   ·rw[if_pos ek,List.append_assoc,List.getElem?_append_left (by rw[List.length_take];omega),List.getElem?_take,if_pos ek,k5 k ek]
   ·rw[if_neg ek,List.getElem?_eq_none (by omega)]
  ·cases h2
end
noncomputable def pnd(t:b7)(l:LL):LL:=l.filter fun a=> !dec (j6 t a)
theorem mem_pnd{t:b7}{l:LL}{s:Li}:s ∈ pnd t l↔s ∈ l∧¬ j6 t s:=by
 unfold pnd
 rw[List.mem_filter]
 by_cases c:j6 t s
 ·rw[p8 c];simp[c]
 ·rw[u3 c];simp[c]
theorem Ord.pnd{t:b7}{l:LL}(h:Ord l):Ord (pnd t l):=List.Pairwise.filter _ h
theorem pending_eq{t:b7}(ht:m4 t){l:LL}(hl:l.length≤1000000)(hs:∀s ∈ l,SetN s t.facts):C0 t l=some (pnd t l):=by
 have h:C0 t l=(delA (fun y=>E8 y t) l).bind fun a=>some a:=rfl
 rw[h,del_eq (g:=j6 t) hl fun a ha=>by
  have hset:=hs a ha
  unfold E8
  rw[P4 hset.1 ht.goal.1 (by have:=hset.len;have:=ht.n1;omega)]
  rfl]
 rfl
end Ab
end
section
namespace Ab
open Go
section
variable {t:b7}{S:LL}{op:Nat→Int}{st:Nat→LL}{w:Nat→Li}
theorem sys_of(ht:m4 t)(ord:Ord S)(n5:S.length≤5)(set:∀s ∈ S,SetN s t.facts)(ng:∀s ∈ S,¬ j6 t s)(rng:∀i,i<S.length→0≤op i∧op i<t.operators.length)
  (cl:∀i s,S[i]? =some s→∀y ∈ sc t s (op i),j6 t y∨y ∈ S):∃st w,Sys t S op st w:=by
 have h:∀i:Nat,∃q:LL×Li,∀s,S[i]? =some s→Wok t s (op i) q.1 q.2:=fun i=>by
  by_cases hi:i<S.length
  ·obtain⟨a,b,h⟩:=results_ok ht (rng i hi).1 (rng i hi).2 (set S[i] (List.getElem_mem hi))
   exact⟨(a,b),fun s hs=>by rw[List.getElem?_eq_getElem hi] at hs;cases hs;exact h⟩
  ·exact⟨([],[]),fun s hs=>by rw[List.getElem?_eq_none (by omega)] at hs;cases hs⟩
 have hq:∀i s,S[i]? =some s→Wok t s (op i) (Classical.choose (h i)).1 (Classical.choose (h i)).2:=fun i=>Classical.choose_spec (h i)
 refine⟨fun i=>(Classical.choose (h i)).1,fun i=>(Classical.choose (h i)).2,ord,n5,set,ng,rng,hq,fun i hi y hy=> ?_⟩
 have hs:S[i]? =some S[i]:=List.getElem?_eq_getElem hi
 obtain⟨x,hx,e⟩:=((hq i _ hs).mem y).1 hy
 exact cl i _ hs y (List.mem_map.2 ⟨x,hx,e⟩)
structure Sol(t:b7)(S:LL)(op:Nat→Int)(st:Nat→LL)(w:Nat→Li)(sg:Int)(num:Nat→Nat)(den:Nat):Prop where
 s1:sg=1∨sg= -1
 d0:0<den
 d1:den≤254803968
 n1:∀i,i<S.length→num i≤63700992000
 dd:det S.length (eqN t S op st w)=sg * den
 nn:∀l,l<S.length→det S.length (rep (eqN t S op st w) l fun r=>eqN t S op st w r S.length)=sg * num l
 vf:Vf S.length (WF st w) (wG S st w) (cF t op) (fun i=>(num i:Int)) den
theorem solved(ht:m4 t)(h:Sys t S op st w)(hp:∀i,i<S.length→Px S.length (WF st w) (wG S st w) i){choose:Li→Option Int}(hch:∀i s,S[i]? =some s→choose s=some (op i)):
  ∃sg num den L N,Sol t S op st w sg num den∧forR 0 (S.length:Int) (A8 t S choose) []=some L∧s9 S L=some (N,sg * (den:Int))∧N.length=S.length∧∀i:Nat,i<S.length→ix N (i:Int)=some (sg * (num i:Int)):=by
 obtain⟨L,N,k1,k2,k3,k4,k5,k6⟩:=value_ok ht h hp hch
 have hM:=sys_ms ht h
 have hR:=sys_rb ht h
 have hn5:=h.n5
 generalize hD:det S.length (eqN t S op st w)=D at *
 have hD1:=det_top hR (Nat.le_refl _)
 rw[hD] at hD1
 have hD2:ab D≤254803968:=by
  refine Int.le_trans hD1 ?_
  have:∀n,n≤5→(48:Int) ^ n≤254803968:=by decide
  exact this _ hn5
 have hW:∀l,l<S.length→wtj N l=det S.length (rep (eqN t S op st w) l fun r=>eqN t S op st w r S.length):=fun l hl=>by unfold wtj;rw[k5 l hl];rfl
 have hN:∀l,l<S.length→ab (wtj N l)≤63700992000:=fun l hl=>by
  rw[hW l hl]
  obtain⟨m,hm⟩:∃m,S.length=m+1:=⟨S.length - 1,by omega⟩
  have:=hR.rep2 (c:=m) (i:=l) (by omega) (by omega)
  rw[hm] at this ⊢
  refine Int.le_trans this ?_
  have:∀n:Nat,n≤4→((n:Int)+1) * 2400 * 48 ^ n≤63700992000:=by decide
  exact this m (by omega)
 obtain⟨sg,den,e1,e2,e3⟩:∃(sg:Int) (den:Nat),(sg=1∨sg= -1)∧D=sg * (den:Int)∧0<den:=by
  by_cases c:0<D
  ·obtain⟨d,rfl⟩:=Int.eq_ofNat_of_zero_le (Int.le_of_lt c)
   exact⟨1,d,.inl rfl,by omega,by omega⟩
  ·obtain⟨d,hd⟩:=Int.eq_ofNat_of_zero_le (show 0≤ -D by omega)
   exact⟨-1,d,.inr rfl,by omega,by omega⟩
 have pos:∀l,l<S.length→0≤sg * wtj N l:=pos0 hM (b:=fun _=>0) hp (y:=fun k=>sg * wtj N k) fun r hr=>by
  have hx:smN S.length (fun k=>eqM S.length (WF st w) (wG S st w) (fun _=>0) r k * (sg * wtj N k))=sg * smN S.length (fun k=>eqN t S op st w r k * wtj N k):=by
   rw[← w5]
   exact i9 fun k hk=>by
    have:eqM S.length (WF st w) (wG S st w) (fun _=>0) r k=eqN t S op st w r k:=by
     unfold eqN eqM;rw[if_neg (show ¬ k=S.length by omega),if_neg (show ¬ k=S.length by omega)]
    rw[this];grind
  rw[hx,k6 r hr,e2]
  have hc:=(ht.at (h.rng r hr).1 (h.rng r hr).2).c0
  have h3:=hM.pos r hr
  have:0≤WF st w r * cF t op r:=Int.mul_nonneg (by omega) hc
  have e:sg * (sg * (den:Int) * (WF st w r * cF t op r))=(den:Int) * (WF st w r * cF t op r):=by
   rcases e1 with rfl|rfl<;>grind
  rw[e]
  exact Int.mul_nonneg (by omega) this
 have num:∀l,((sg * wtj N l).toNat:Int)=if l<S.length then sg * wtj N l else((sg * wtj N l).toNat:Int):=fun l=>by
  split
  ·rename_i hl;have:=pos l hl;omega
  ·rfl
 have hnum:∀l,l<S.length→((sg * wtj N l).toNat:Int)=sg * wtj N l:=fun l hl=>by have:=num l;rw[if_pos hl] at this;exact this
 have hback:∀l,l<S.length→wtj N l=sg * ((sg * wtj N l).toNat:Int):=fun l hl=>by
  rw[hnum l hl];rcases e1 with rfl|rfl<;>omega
 refine⟨sg,fun l=>(sg * wtj N l).toNat,den,L,N,⟨e1,e3,?_,fun i hi=> ?_,by rw[hD];exact e2,fun l hl=> ?_,?_,fun i hi=> ?_⟩,k1,by rw[k2,e2],k3,fun i hi=> ?_⟩
 ·have:=ab_le hD2
  rcases e1 with rfl|rfl<;>omega
 ·have h1:=ab_le (hN i hi)
  have h2:=hnum i hi
  rcases e1 with rfl|rfl<;>omega
 ·rw[← hW l hl];exact hback l hl
 ·omega
 ·have h1:=k6 i hi
  rw[af0 (Nat.le_refl _) hi,e2] at h1
  unfold Qv
  have h2:smN S.length (fun k=>wG S st w i k * ((sg * wtj N k).toNat:Int))=sg * smN S.length (fun k=>wG S st w i k * wtj N k):=by
   rw[← w5]
   exact i9 fun k hk=>by rw[hnum k hk];grind
  rw[h2,hnum i hi]
  generalize smN S.length (fun k=>wG S st w i k * wtj N k)=A at *
  rcases e1 with rfl|rfl<;>grind
 ·rw[ae9 (by omega),← hback i hi]
theorem report_eq{sg:Int}(hsg:sg=1∨sg= -1){a b:Nat}(ha:a≤4000000000000000000)(hb:b≤4000000000000000000)(hb0:0<b):
  J9 (sg * (a:Int)) (sg * (b:Int))=some (if(frN a b).num≤1000000000∧(frN a b).den≤1000000000 then(frN a b,⟨0,0⟩) else(⟨0,0⟩,⟨10, -2⟩)):=by
 have e:z8 (sg * (a:Int)) (sg * (b:Int))=z8 (a:Int) (b:Int):=by
  rcases hsg with rfl|rfl
  ·rw[Int.one_mul,Int.one_mul]
  ·rw[show -1 * (a:Int)= -(a:Int) by omega,show -1 * (b:Int)= -(b:Int) by omega,lowest_neg ha hb hb0]
 unfold J9
 rw[e,lowest_pos ha hb hb0]
 simp only[oB]
 by_cases c:(frN a b).num≤1000000000∧(frN a b).den≤1000000000
 ·rw[p8 c,if_pos c];rfl
 ·rw[u3 c,if_neg c];rfl
end
section
variable {t:b7}{p:List d9}
theorem pol_sys(ht:m4 t)(hp:H1 t p)(hk:∀s,Rch t p s→∃k,RkP t p k s){l:LL}(hv:Vis t p l)(h5:(pnd t l).length≤5):
  ∃st w,Sys t (pnd t l) (fun i=>chO p (((pnd t l)[i]?).getD [])) st w∧∀i,i<(pnd t l).length→Wy t (pnd t l) st i:=by
 have mem:∀s,s ∈ pnd t l→Rch t p s∧¬ j6 t s∧H2 p s:=fun s hs=>by
  obtain⟨h1,h2⟩:=mem_pnd.1 hs
  have h3:=(hv.mem s).1 h1
  obtain⟨k,hk⟩:=hk s h3
  refine⟨h3,h2,?_⟩
  cases k with
  |zero=>exact absurd hk h2
  |succ k=>exact(hk.resolve_left h2).1
 have hop:∀(i:Nat) s,(pnd t l)[i]? =some s→chO p (((pnd t l)[i]?).getD [])=chO p s:=fun i s hs=>by rw[hs];rfl
 obtain⟨st,w,h⟩:=sys_of (op:=fun i=>chO p (((pnd t l)[i]?).getD [])) ht hv.ord.pnd h5 (fun s hs=>(mem s hs).1.set ht) (fun s hs=>(mem s hs).2.1) (fun i hi=>by
  have hs:=List.getElem?_eq_getElem hi
  rw[hop i _ hs]
  exact(live_op hp (mem _ (List.getElem_mem hi)).2.2).1) (fun i s hs y hy=>by
  rw[hop i s hs] at hy
  obtain⟨m1,m2,m3⟩:=mem s (List.mem_of_getElem? hs)
  by_cases g:j6 t y
  ·exact .inl g
  ·exact .inr (mem_pnd.2 ⟨(hv.mem y).2 (.step m1 m2 m3 hy),g⟩))
 refine⟨st,w,h,?_⟩
 have key:∀(k:Nat) (i:Nat) (s:Li),(pnd t l)[i]? =some s→RkP t p k s→Wy t (pnd t l) st i:=fun k=>by
  induction k with
  |zero=>exact fun i s hs hk=>absurd hk (h.ng s (List.mem_of_getElem? hs))
  |succ k ih=>
   intro i s hs hk
   obtain⟨hi,_⟩:=lG.1 hs
   obtain⟨m1,m2,m3⟩:=mem s (List.mem_of_getElem? hs)
   obtain⟨_,y,hy,hk'⟩:=hk.resolve_left m2
   have hys:y ∈ st i:=((h.res i s hs).mem y).2 (by
    rw[hop i s hs]
    obtain⟨x,hx,e⟩:=List.mem_map.1 hy
    exact⟨x,hx,e⟩)
   by_cases g:j6 t y
   ·exact .exit hi hys g
   ·obtain⟨j,hj,e⟩:=List.getElem_of_mem (mem_pnd.2 ⟨(hv.mem y).2 (.step m1 m2 m3 hy),g⟩:y ∈ pnd t l)
    have hj':(pnd t l)[j]? =some y:=by rw[List.getElem?_eq_getElem hj,e]
    exact .step hi hj' hys (ih j y hj' hk')
 intro i hi
 have hs:=List.getElem?_eq_getElem hi
 obtain⟨k,hk⟩:=hk _ (mem _ (List.getElem_mem hi)).1
 exact key k i _ hs hk
theorem am7(t:b7)(p:List d9):∃f,B2 t p=some f∧
  ((f.code ≠ 0∧¬ (m4 t∧H1 t p)∧k7 t p=some (⟨0,0⟩,f))∨(f=⟨0,0⟩∧m4 t∧H1 t p∧
   (((¬ ∀s,Rch t p s→∃k,RkP t p k s)∧k7 t p=some (⟨0,0⟩,⟨15, -1⟩))∨((∀s,Rch t p s→∃k,RkP t p k s)∧∃l,Vis t p l∧
    ((5<(pnd t l).length∧k7 t p=some (⟨0,0⟩,⟨10, -7⟩))∨((pnd t l).length≤5∧((j6 t t.init∧k7 t p=some (⟨0,1⟩,⟨0,0⟩))∨(¬ j6 t t.init∧
     ∃st w sg num den,Sys t (pnd t l) (fun i=>chO p (((pnd t l)[i]?).getD [])) st w∧(∀i,i<(pnd t l).length→Wy t (pnd t l) st i)∧Sol t (pnd t l) (fun i=>chO p (((pnd t l)[i]?).getD [])) st w sg num den∧∃i0,(pnd t l)[i0]? =some t.init∧
      k7 t p=some (if(frN (num i0) den).num≤1000000000∧(frN (num i0) den).den≤1000000000 then(frN (num i0) den,⟨0,0⟩) else(⟨0,0⟩,⟨10, -2⟩)))))))))):=by
 obtain⟨f,e1,_,e3⟩:=policy_eq t p
 refine⟨f,e1,?_⟩
 rcases e3 with⟨rfl,ht,hp⟩|⟨hc,hno⟩
 ·refine .inr ⟨rfl,ht,hp,?_⟩
  have hn:=ht.n1
  unfold k7
  rw[e1,Option.bind_some,if_neg (by simp),holds_eq ht hp,Option.bind_some,y6]
  by_cases hk:∀s,Rch t p s→∃k,RkP t p k s
  ·rw[ifNN hk]
   refine .inr ⟨hk,?_⟩
   obtain⟨l,q1,q2⟩:=oVisited_eq ht hp
   refine⟨l,q2,?_⟩
   have hlen:=q2.len ht hp
   have hset:∀s ∈ l,SetN s t.facts:=fun s hs=>((q2.mem s).1 hs).set ht
   rw[q1,Option.bind_some,pending_eq ht (by omega) hset,Option.bind_some]
   by_cases c5:5<((pnd t l).length:Int)
   ·rw[if_pos c5]
    exact .inl ⟨by omega,rfl⟩
   ·rw[if_neg c5]
    refine .inr ⟨by omega,?_⟩
    rw[show j7 t.init t.goal=some (dec (j6 t t.init)) from P4 ht.init.1 ht.goal.1 (by have:=ht.init.len;omega)]
    simp only[oB]
    by_cases cg:j6 t t.init
    ·rw[ifP cg]
     exact .inl ⟨cg,rfl⟩
    ·rw[ifN cg]
     refine .inr ⟨cg,?_⟩
     obtain⟨st,w,h,hw⟩:=pol_sys ht hp hk q2 (by omega)
     have hmi:t.init ∈ pnd t l:=mem_pnd.2 ⟨(q2.mem _).2 .init,cg⟩
     obtain⟨i0,hi0,ei⟩:=List.getElem_of_mem hmi
     have hi:(pnd t l)[i0]? =some t.init:=by rw[List.getElem?_eq_getElem hi0,ei]
     obtain⟨sg,num,den,L,N,s1,s2,s3,s4,s5⟩:=solved ht h (fun i hi=>(hw i hi).px h) (choose:=fun s=>H7 s p) (fun i s hs=>by
      unfold H7
      rw[(ad7 hp s).1,hs];rfl)
     refine⟨st,w,sg,num,den,h,hw,s1,i0,hi,?_⟩
     have he:E1 t (pnd t l) p=some L:=by
      have:E1 t (pnd t l) p=(forR 0 ((pnd t l).length:Int) (A8 t (pnd t l) fun s=>H7 s p) []).bind fun a=>some a:=rfl
      rw[this,s2];rfl
     rw[he]
     simp only[oB,s3,find_eq h.ord (show(pnd t l).length≤500000 by omega) (show ix (pnd t l) (i0:Int)=some t.init by rw[r7,hi]),s5 i0 hi0]
     have hb1:=s1.n1 i0 hi0
     have hb2:=s1.d1
     rw[report_eq s1.s1 (by omega) (by omega) s1.d0]
     rfl
  ·rw[ifP hk]
   exact .inl ⟨hk,rfl⟩
 ·refine .inl ⟨hc,hno,?_⟩
  unfold k7
  rw[e1,Option.bind_some,if_pos (by simp[hc])]
end
end Ab
end
section
namespace Ab
open Go
noncomputable def rsO(t:b7)(s:Li)(op:Int):LL×Li:=(l8 t s op).getD ([],[])
theorem Wok.rs{t:b7}{s:Li}{op:Int}{st:LL}{w:Li}(h:Wok t s op st w):(rsO t s op).1=st∧(rsO t s op).2=w:=by unfold rsO;rw[h.eq];exact⟨rfl,rfl⟩
noncomputable def vG(t:b7)(v:Li→Int)(y:Li):Int:=if dec (j6 t y)=true then 0 else v y
noncomputable def WS(t:b7)(s:Li)(op:Int):Int:=smN (rsO t s op).1.length (wtj (rsO t s op).2)
noncomputable def CS(t:b7)(v:Li→Int)(s:Li)(op:Int):Int:=smN (rsO t s op).1.length fun j=>wtj (rsO t s op).2 j * vG t v (((rsO t s op).1[j]?).getD [])
noncomputable def QS(t:b7)(v:Li→Int)(den:Int)(s:Li)(op:Int):Int:=CS t v s op+WS t s op * (ooAt t op).cost * den
def Alw(t:b7)(S:LL)(s:Li)(op:Int):Prop:=(0≤op∧op<t.operators.length)∧oCan t s op∧∀y ∈ sc t s op,j6 t y∨y ∈ S
def sN(S:LL)(i:Nat):Li:=(S[i]?).getD []
section
variable {t:b7}{S:LL}{op:Nat→Int}{st:Nat→LL}{w:Nat→Li}
theorem sN_eq{i:Nat}{s:Li}(h:S[i]? =some s):sN S i=s:=by unfold sN;rw[h];rfl
theorem Sys.ws(h:Sys t S op st w){i:Nat}{s:Li}(hs:S[i]? =some s):WF st w i=WS t s (op i):=by
 obtain⟨e1,e2⟩:=(h.res i s hs).rs
 unfold WF WS;rw[e1,e2]
theorem Sys.cs(h:Sys t S op st w){i:Nat}{s:Li}(hs:S[i]? =some s)(v:Li→Int):smN S.length (fun k=>wG S st w i k * v (sN S k))=CS t v s (op i):=by
 obtain⟨hi,_⟩:=lG.1 hs
 obtain⟨e1,e2⟩:=(h.res i s hs).rs
 unfold CS;rw[e1,e2]
 have a:smN S.length (fun k=>wG S st w i k * v (sN S k))=smN S.length fun k=>smN (st i).length fun j=>(if(st i)[j]? =S[k]? then wtj (w i) j else 0) * v (sN S k):=i9 fun k hk=>by
  unfold wG wF
  rw[if_pos hi,List.getElem?_eq_getElem hk,Int.mul_comm]
  unfold twF
  rw[← w5]
  exact i9 fun j _=>Int.mul_comm _ _
 rw[a,smN_comm]
 refine i9 fun j hj=> ?_
 have hgj:(st i)[j]? =some (st i)[j]:=List.getElem?_eq_getElem hj
 rw[hgj]
 unfold vG
 show _=wtj (w i) j * if dec (j6 t (st i)[j])=true then 0 else v (st i)[j]
 by_cases g:j6 t (st i)[j]
 ·rw[ifP g,Int.mul_zero]
  refine aa1 fun k hk=> ?_
  rw[if_neg,Int.zero_mul]
  intro q
  exact h.ng _ (List.mem_of_getElem? q.symm) g
 ·rw[ifN g]
  obtain⟨k,hk,e⟩:=List.getElem_of_mem ((h.cl i hi _ (List.getElem_mem hj)).resolve_left g)
  have hk':S[k]? =some (st i)[j]:=by rw[List.getElem?_eq_getElem hk,e]
  rw[K4 (a:=k) hk fun k' hk'' hne=> ?_,if_pos hk'.symm,sN_eq hk']
  rw[if_neg,Int.zero_mul]
  intro q
  have a:ix S (k:Int)=some (st i)[j]:=by rw[r7,hk']
  have b:ix S (k':Int)=some (st i)[j]:=by rw[r7,← q]
  have:=h.ord.inj a b
  omega
theorem Sys.qs(h:Sys t S op st w){i:Nat}{s:Li}(hs:S[i]? =some s){v:Li→Int}{num:Nat→Int}(hv:∀k,k<S.length→num k=v (sN S k)){den:Int}:Qv S.length (WF st w) (wG S st w) (cF t op) num den i=QS t v den s (op i):=by
 unfold Qv QS
 rw[h.ws hs,← h.cs hs v]
 rw[i9 (g:=fun k=>wG S st w i k * v (sN S k)) fun k hk=>by rw[hv k hk]]
 rfl
end
end Ab
end
section
namespace Ab
open Go
structure VB(S:LL)(v:Li→Int)(den:Int)(l7:Li):Prop where
 d0:0<den
 d1:den≤254803968
 v0:∀s ∈ S,0≤v s∧v s≤63700992000
 get:∀(i:Nat) s,S[i]? =some s→ix l7 (i:Int)=some (v s)
section
variable {t:b7}{S:LL}{v:Li→Int}{den:Int}{l7:Li}
end
end Ab
end
section
namespace Ab
open Go
noncomputable def posS(S:LL)(s:Li):Nat:=@Classical.epsilon Nat ⟨0⟩ fun k=>S[k]? =some s
theorem posS_eq{S:LL}(ho:Ord S){k:Nat}{s:Li}(h:S[k]? =some s):posS S s=k:=by
 have e:S[posS S s]? =some s:=@Classical.epsilon_spec Nat (fun k=>S[k]? =some s) ⟨k,h⟩
 have a:ix S (posS S s:Int)=some s:=by rw[r7,e]
 have b:ix S (k:Int)=some s:=by rw[r7,h]
 have:=ho.inj a b
 omega
noncomputable def atS(S:LL)(num:Nat→Nat)(s:Li):Int:=num (posS S s)
theorem atS_eq{S:LL}(ho:Ord S){num:Nat→Nat}{k:Nat}{s:Li}(h:S[k]? =some s):atS S num s=num k:=by unfold atS;rw[posS_eq ho h]
theorem sN_get{S:LL}{k:Nat}(h:k<S.length):S[k]? =some (sN S k):=by unfold sN;rw[List.getElem?_eq_getElem h];rfl
structure OkL(t:b7)(S:LL)(l:Li):Prop where
 len:l.length=S.length
 al:∀(i:Nat) s,S[i]? =some s→∃f,l[i]? =some f∧Alw t S s f
section
variable {t:b7}{S:LL}
end
end Ab
end
section
namespace Ab
open Go
section
variable {t:b7}{all:LL}
structure CloS(t:b7)(all:LL):Prop where
 len:all.length≤2000
 init:t.init ∈ all
 sc:∀s ∈ all,∀op:Int,(0≤op∧op<t.operators.length)→oCan t s op→∀y ∈ sc t s op,y ∈ all
end
end Ab
end
section
namespace Ab
open Go
section
variable {t:b7}{all:LL}
end
end Ab
end
section
namespace Ab
open Go
theorem am0:B7=some true:=by kernel_rfl
end Ab
end
section
namespace Ab
open Go
end Ab
end
section
namespace Ab
open Go
def scO(b:Int)(o:e9):e9:=⟨o.pre,o.outcomes,w64 (b * o.cost)⟩
abbrev scT(b:Int)(t:b7):b7:=⟨t.facts,t.init,t.goal,t.operators.map (scO b)⟩
section
variable {t:b7}{b:Int}
theorem sc_oo(op:Int):(ooAt (scT b t) op).pre=(ooAt t op).pre∧(ooAt (scT b t) op).outcomes=(ooAt t op).outcomes∧(ooAt (scT b t) op).cost=w64 (b * (ooAt t op).cost):=by
 unfold ooAt
 rw[show(scT b t).operators=t.operators.map (scO b) from rfl,lM]
 cases t.operators[op.toNat]? with
 |none=>exact⟨rfl,rfl,by show(0:Int)=w64 (b * 0);rw[Int.mul_zero];rfl⟩
 |some o=>exact⟨rfl,rfl,rfl⟩
theorem sc_res(s:Li)(op:Int):l8 (scT b t) s op=l8 t s op:=by
 unfold l8
 rw[show(scT b t).operators=t.operators.map (scO b) from rfl,ix_map]
 cases ix t.operators op with
 |none=>rfl
 |some o=>rfl
theorem sc_rs(s:Li)(op:Int):rsO (scT b t) s op=rsO t s op:=by unfold rsO;rw[sc_res]
theorem sc_nx(p:List d9)(s:Li):nxS (scT b t) p s=nxS t p s:=by unfold nxS;rw[(sc_oo (chO p s)).2.1]
theorem sc_rch{p:List d9}{s:Li}:Rch (scT b t) p s↔Rch t p s:=by
 constructor
 ·intro h
  induction h with
  |init=>exact .init
  |@step s y _ hg hl hy ih=>exact .step ih hg hl (by rw[sc_nx] at hy;exact hy)
 ·intro h
  induction h with
  |init=>exact .init
  |@step s y _ hg hl hy ih=>exact .step ih hg hl (by rw[sc_nx];exact hy)
theorem sc_qs(ht:m4 t)(hb:1≤b∧b≤5){v:Li→Int}{den:Int}{s:Li}{op:Int}(h0:0≤op∧op<t.operators.length):QS (scT b t) (fun s=>b * v s) den s op=b * QS t v den s op:=by
 have hco:=ht.at h0.1 h0.2
 have hc0:=hco.c0;have hc1:=hco.c1
 have m1:0≤b * (ooAt t op).cost:=Int.mul_nonneg (by omega) hc0
 have m2:b * (ooAt t op).cost≤5 * 100:=Int.mul_le_mul hb.2 hc1 hc0 (by omega)
 unfold QS
 have e1:WS (scT b t) s op=WS t s op:=by unfold WS;rw[sc_rs]
 have e2:CS (scT b t) (fun s=>b * v s) s op=b * CS t v s op:=by
  unfold CS
  rw[sc_rs,← w5]
  refine i9 fun j _=> ?_
  have:∀y,vG (scT b t) (fun s=>b * v s) y=b * vG t v y:=fun y=>by
   unfold vG
   by_cases g:j6 t y
   ·rw[ifP g,ifP (show j6 (scT b t) y from g),Int.mul_zero]
   ·rw[ifN g,ifN (show ¬ j6 (scT b t) y from g)]
  rw[this];grind
 rw[e1,e2,(sc_oo op).2.2,u5 (by omega) (by omega)]
 grind
theorem scLoop(hl:t.operators.length * 56≤140737488355328):forR 0 (t.operators.length:Int) (z6 t b) []=some (t.operators.map (scO b)):=by
 obtain⟨c,k1,k2⟩:=G2 (body:=z6 t b) (n:=(t.operators.length:Int)) (s:=([]:List e9)) (fun j c=>c=(t.operators.take j.toNat).map (scO b)) (by omega) (by simp) (fun j c j0 j1 e=>by
  obtain⟨J,rfl⟩:=Int.eq_ofNat_of_zero_le j0
  have hJ:J<t.operators.length:=by omega
  rw[Int.toNat_natCast] at e
  have hlen:c.length=J:=by rw[e,List.length_map,List.length_take];omega
  unfold z6
  have ha:∀o:e9,app 56 c [o]=some (c++[o]):=fun o=>by unfold app;rw[if_pos (by simp;omega)]
  simp only[show ix t.operators (J:Int)=some t.operators[J] by rw[r7];exact List.getElem?_eq_getElem hJ,Option.bind_some,ha]
  refine⟨_,rfl,?_⟩
  rw[show((J:Int)+1).toNat=J+1 by omega,List.take_succ_eq_append_getElem hJ,List.map_append,← e]
  rfl)
 rw[k1,k2,Int.toNat_natCast,List.take_length]
theorem frN_d0{a b:Nat}(hb:0<b):0<(frN a b).den:=by
 have:=Nat.div_pos (Nat.gcd_le_right a hb) (Nat.gcd_pos_of_pos_right a hb)
 show(0:Int)<((b / Nat.gcd a b:Nat):Int)
 omega
theorem frN_sc{a b k:Nat}(hb:0<b):frN (k * (a / Nat.gcd a b)) (b / Nat.gcd a b)=frN (k * a) b:=by
 have g0:0<Nat.gcd a b:=Nat.gcd_pos_of_pos_right a hb
 refine frN_eq (Nat.div_pos (Nat.gcd_le_right a hb) g0) hb ?_
 obtain⟨a',ea⟩:=Nat.gcd_dvd_left a b
 obtain⟨b',eb⟩:=Nat.gcd_dvd_right a b
 have v1:a / Nat.gcd a b=a':=by rw (occs:=.pos [1]) [ea];exact Nat.mul_div_cancel_left _ g0
 have v2:b / Nat.gcd a b=b':=by rw (occs:=.pos [1]) [eb];exact Nat.mul_div_cancel_left _ g0
 rw[v1,v2]
 generalize Nat.gcd a b=g at *
 subst ea eb
 grind
theorem ak2(t:b7)(p:List d9)(b:Int)(hl:t.operators.length * 56≤140737488355328):F8 t p b=some true:=by
 unfold F8
 rw[in_eq,Option.bind_some,y6]
 by_cases hb:1≤b∧b≤5
 ·rw[ifNN hb,scLoop hl,Option.bind_some]
  have bad:∀x y:m5×i7,(x.2.code ≠ 0∨y.2.code ≠ 0)→k7 t p=some x→k7 (scT b t) p=some y→(Option.bind (k7 t p) fun a46=>Option.bind (k7 (scT b t) p) fun a52=>if((!(decide (a46.2.code=0)))||(!(decide (a52.2.code=0))))=true then Option.bind (B7) fun a63=>some a63 else Option.bind (Option.bind (B7) fun a64=>if a64=true then if 0<a46.1.den then Option.bind (H4 (w64 (b * a46.1.num)) a46.1.den) fun a77=>some ((decide (a77.num=a52.1.num)) && (decide (a77.den=a52.1.den))) else some false else some false) fun t8=>some t8)=some true:=fun x y hn hx hy=>by
   rw[hx,hy]
   simp only[oB]
   rw[if_pos (by rcases hn with h|h<;>simp[h]),am0];rfl
  have good:∀x y:m5,k7 t p=some (x,⟨0,0⟩)→k7 (scT b t) p=some (y,⟨0,0⟩)→0<x.den→H4 (w64 (b * x.num)) x.den=some y→(Option.bind (k7 t p) fun a46=>Option.bind (k7 (scT b t) p) fun a52=>if((!(decide (a46.2.code=0)))||(!(decide (a52.2.code=0))))=true then Option.bind (B7) fun a63=>some a63 else Option.bind (Option.bind (B7) fun a64=>if a64=true then if 0<a46.1.den then Option.bind (H4 (w64 (b * a46.1.num)) a46.1.den) fun a77=>some ((decide (a77.num=a52.1.num)) && (decide (a77.den=a52.1.den))) else some false else some false) fun t8=>some t8)=some true:=fun x y hx hy h1 h2=>by
   rw[hx,hy]
   simp[h1,h2,am0]
  have some':∀t:b7,∃x,k7 t p=some x:=fun t=>by
   obtain⟨e,_,e3⟩:=am7 t p
   rcases e3 with⟨_,_,h⟩|⟨_,_,_,⟨_,h⟩|⟨_,_,_,⟨_,h⟩|⟨_,⟨_,h⟩|⟨_,_,_,_,_,_,_,_,_,_,_,h⟩⟩⟩⟩<;>exact⟨_,h⟩
  obtain⟨x0,hx0⟩:=some' t
  obtain⟨y0,hy0⟩:=some' (scT b t)
  obtain⟨e,_,e3⟩:=am7 t p
  obtain⟨e',_,e3'⟩:=am7 (scT b t) p
  have badX:x0.2.code ≠ 0→_:=fun h=>bad _ _ (.inl h) hx0 hy0
  have badY:y0.2.code ≠ 0→_:=fun h=>bad _ _ (.inr h) hx0 hy0
  have gx:∀{x},k7 t p=some x→x0=x:=fun h=>Option.some.inj (hx0.symm.trans h)
  have gy:∀{y},k7 (scT b t) p=some y→y0=y:=fun h=>Option.some.inj (hy0.symm.trans h)
  rcases e3 with⟨hc,_,h⟩|⟨_,ht,hp,⟨_,h⟩|⟨hk,l,q1,⟨_,h⟩|⟨_,h6⟩⟩⟩
  ·exact badX (by rw[gx h];exact hc)
  ·exact badX (by rw[gx h];decide)
  ·exact badX (by rw[gx h];decide)
  ·rcases e3' with⟨hc,_,h⟩|⟨_,ht',hp',⟨_,h⟩|⟨hk',l',q1',⟨_,h⟩|⟨_,h6'⟩⟩⟩
   ·exact badY (by rw[gy h];exact hc)
   ·exact badY (by rw[gy h];decide)
   ·exact badY (by rw[gy h];decide)
   ·have el:l'=l:=Ord.one q1'.ord q1.ord (fun y=>q1'.mem y) fun y=>(q1.mem y).trans sc_rch.symm
    subst el
    rcases h6 with⟨hg,hx⟩|⟨hg,st,w,sg,num,den,s1,s2,s3,i0,s4,hx⟩
    ·rcases h6' with⟨_,hy⟩|⟨hn,_⟩
     ·refine good _ _ hx hy (by decide) ?_
      rw[Int.mul_zero]
      exact rLowest_eq (a:=0) (b:=1) (by omega) (by omega) (by omega)
     ·exact absurd hg hn
    ·rcases h6' with⟨hg',_⟩|⟨_,st',w',sg',num',den',s1',s2',s3',i0',s4',hy⟩
     ·exact absurd hg' hg
     ·by_cases cx:(frN (num i0) den).num≤1000000000∧(frN (num i0) den).den≤1000000000
      ·by_cases cy:(frN (num' i0') den').num≤1000000000∧(frN (num' i0') den').den≤1000000000
       ·rw[if_pos cx] at hx
        rw[if_pos cy] at hy
        have s1':Sys (scT b t) (pnd t l') (fun i=>chO p (((pnd t l')[i]?).getD [])) st' w':=s1'
        have s2':∀i,i<(pnd t l').length→Wy (scT b t) (pnd t l') st' i:=s2'
        have s3':Sol (scT b t) (pnd t l') (fun i=>chO p (((pnd t l')[i]?).getD [])) st' w' sg' num' den':=s3'
        have hd:=s3.d0;have hd':=s3'.d0
        have hd1:=s3.d1;have hn1:=s3.n1 i0 (lG.1 s4).1
        refine good _ _ hx hy (frN_d0 hd) ?_
        have ei:i0'=i0:=by
         have a:ix (pnd t l') (i0:Int)=some t.init:=by rw[r7,s4]
         have c:ix (pnd t l') (i0':Int)=some t.init:=by rw[r7];exact s4'
         have:=(Ord.pnd (t:=t) q1.ord).inj a c
         omega
        subst ei
        have hi0:=(lG.1 s4).1
        have hord:Ord (pnd t l'):=q1.ord.pnd
        have hq:∀i,i<(pnd t l').length→Qv (pnd t l').length (WF st' w') (wG (pnd t l') st' w') (cF (scT b t) fun i=>chO p (((pnd t l')[i]?).getD [])) (fun k=>b * atS (pnd t l') num (sN (pnd t l') k)) den i=WF st' w' i * (b * atS (pnd t l') num (sN (pnd t l') i)):=fun i hi=>by
         have hs:=sN_get hi
         have h1:=s1'.qs hs (v:=fun s=>b * atS (pnd t l') num s) (num:=fun k=>b * atS (pnd t l') num (sN (pnd t l') k)) (fun k _=>rfl) (den:=den)
         have h2:=s1'.ws hs
         have h3:=s1.qs hs (v:=atS (pnd t l') num) (num:=fun k=>(num k:Int)) (fun k hk=>(atS_eq hord (sN_get hk)).symm) (den:=den)
         rw[s3.vf.eq i hi,s1.ws hs] at h3
         refine h1.trans ?_
         refine Eq.trans ?_ (congrArg (· * (b * atS (pnd t l') num (sN (pnd t l') i))) h2.symm)
         rw[sc_qs ht hb (s1.rng i hi),← h3,show WS (scT b t) (sN (pnd t l') i) (chO p (((pnd t l')[i]?).getD []))=WS t (sN (pnd t l') i) (chO p (((pnd t l')[i]?).getD [])) by unfold WS;rw[sc_rs],atS_eq hord hs]
         grind
        have px:=fun i hi=>(s2' i hi).px s1'
        have k1:=val_le (sys_ms ht' s1') px s3'.vf (den:=(den:Int)) (by omega) (num:=fun k=>b * atS (pnd t l') num (sN (pnd t l') k)) (fun i hi=>Int.le_of_eq (hq i hi).symm) i0' hi0
        have k2:=(val_ge (sys_ms ht' s1') px s3'.vf (den:=(den:Int)) (by omega) (num:=fun k=>b * atS (pnd t l') num (sN (pnd t l') k)) (fun i hi=>Int.le_of_eq (hq i hi)) i0' hi0).1
        rw[sN_eq s4,atS_eq hord s4] at k1 k2
        obtain⟨B,rfl⟩:=Int.eq_ofNat_of_zero_le (show 0≤b by omega)
        have hB:B≤5:=by omega
        have he:frN (num' i0') den'=frN (B * num i0') den:=frN_eq hd' hd (by
         have:((num' i0' * den:Nat):Int)=((B * num i0' * den':Nat):Int):=by
          rw[Int.natCast_mul,Int.natCast_mul,Int.natCast_mul,Int.mul_comm,Int.mul_comm ((B:Int) * (num i0':Int))]
          exact Int.le_antisymm k2 k1
         omega)
        rw[he,← frN_sc hd]
        have hx1:(frN (num i0') den).num=((num i0' / Nat.gcd (num i0') den:Nat):Int):=rfl
        have hx2:(frN (num i0') den).den=((den / Nat.gcd (num i0') den:Nat):Int):=rfl
        have p0:=frN_d0 (a:=num i0') hd
        rw[hx1,hx2] at cx ⊢
        rw[hx2] at p0
        generalize num i0' / Nat.gcd (num i0') den=X at *
        generalize den / Nat.gcd (num i0') den=Y at *
        have m:B * X≤5 * X:=Nat.mul_le_mul_right X hB
        rw[show((B:Int) * (X:Int))=((B * X:Nat):Int) from(Int.natCast_mul B X).symm,w64n (by omega)]
        exact rLowest_eq (by omega) (by omega) (by omega)
       ·rw[if_neg cy] at hy
        exact badY (by rw[gy hy];decide)
      ·rw[if_neg cx] at hx
       exact badX (by rw[gx hx];decide)
 ·rw[ifP hb,am0];rfl
end
end Ab
end
