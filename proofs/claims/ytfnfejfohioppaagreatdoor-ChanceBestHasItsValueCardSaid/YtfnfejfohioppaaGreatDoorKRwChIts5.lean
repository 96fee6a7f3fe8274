/-
  Texts that the proof stands on.
-/
import Derived.Test.YtfnfejfohioppaaGreatDoorKRwChIts4
set_option linter.all false
section
namespace Ab
theorem ac9{R:Int}:∀n:Nat,prd n (fun _=>R)=R ^ n
 |0=>by simp[prd]
 |n+1=>by rw[prd,ac9 n,Int.pow_succ,Int.mul_comm]
theorem pow_nn{R:Int}(h:0≤R):∀n:Nat,0≤R ^ n
 |0=>by simp
 |n+1=>by rw[Int.pow_succ];exact Int.mul_nonneg (pow_nn h n) h
theorem ab_sgn(j:Nat):ab (sgn j)=1:=by unfold sgn ab;split<;>split<;>omega
theorem aj5{R B:Int}(hR:0≤R)(hB:0≤B):∀{n:Nat} {A:Mtx} {l:Nat},l<n+1→(∀i,i<n+1→smN (n+1) (fun j=>if j=l then 0 else ab (A i j))≤R)→(∀i,i<n+1→ab (A i l)≤B)→ab (det (n+1) A)≤(n+1:Int) * B * R ^ n
 |0,A,l,hl,_,h2=>by
  have:l=0:=by omega
  subst this
  have:=h2 0 (by omega)
  simpa[det,smN,sgn] using this
 |n+1,A,l,hl,h1,h2=>by
  have hK:0≤(n+1:Int) * B * R ^ n:=Int.mul_nonneg (Int.mul_nonneg (by omega) hB) (pow_nn hR n)
  rw[det]
  refine Int.le_trans (ab_sum _) ?_
  have hm:∀j,j<n+1+1→ab (sgn j * A 0 j * det (n+1) (mnr A j))≤((n+1:Int) * B * R ^ n) * (if j=l then 0 else ab (A 0 j))+(if j=l then B * R ^ (n+1) else 0):=fun j hj=>by
   rw[ab_mul,ab_mul,ab_sgn,Int.one_mul]
   by_cases e:j=l
   ·subst e
    rw[if_pos rfl,if_pos rfl,Int.mul_zero,Int.zero_add]
    have ih:=ad5 (n:=n+1) (A:=mnr A j) (r:=fun _=>R) (fun _=>hR) fun i hi=>by
     have k1:=h1 (i+1) (by omega)
     have k2:=smN_sk (f:=fun k=>if k=j then 0 else ab (A (i+1) k)) (fun k=>by split;omega;exact B5 _) (n:=n+1) (j:=j)
     rw[k8 (g:=fun k=>if sk j k=j then 0 else ab (A (i+1) (sk j k))) fun k _=>by unfold mnr;rw[if_neg (by unfold sk;split<;>omega)]]
     exact Int.le_trans k2 k1
    rw[ac9] at ih
    exact Int.mul_le_mul (h2 0 (by omega)) ih (B5 _) hB
   ·rw[if_neg e,if_neg e,Int.add_zero,Int.mul_comm]
    refine Int.mul_le_mul_of_nonneg_right ?_ (B5 _)
    refine aj5 hR hB (l:=if j<l then l - 1 else l) (by split<;>omega) (fun i hi=> ?_) fun i hi=> ?_
    ·have k1:=h1 (i+1) (by omega)
     have k2:=smN_sk (f:=fun k=>if k=l then 0 else ab (A (i+1) k)) (fun k=>by split;omega;exact B5 _) (n:=n+1) (j:=j)
     rw[k8 (g:=fun k=>if sk j k=l then 0 else ab (A (i+1) (sk j k))) fun k _=>by
      unfold mnr
      have:k=(if j<l then l - 1 else l)↔sk j k=l:=by unfold sk;split<;>split<;>omega
      by_cases q:sk j k=l
      ·rw[if_pos (this.2 q),if_pos q]
      ·rw[if_neg (fun r=>q (this.1 r)),if_neg q]]
     exact Int.le_trans k2 k1
    ·have:=h2 (i+1) (by omega)
     unfold mnr
     rwa [show sk j (if j<l then l - 1 else l)=l by unfold sk;split<;>split<;>omega]
  refine Int.le_trans (S7 hm) ?_
  rw[J1,x7,O8 (f:=fun j=>if j=l then B * R ^ (n+1) else 0) (a:=l) hl fun j _ hj=>if_neg hj,if_pos rfl]
  have k1:=Int.mul_le_mul_of_nonneg_left (h1 0 (by omega)) hK
  have k2:((n+1:Int) * B * R ^ n) * R=(n+1:Int) * B * R ^ (n+1):=by rw[Int.pow_succ];grind
  push_cast
  have k3:((n:Int)+1+1) * B * R ^ (n+1)=(n+1:Int) * B * R ^ (n+1)+B * R ^ (n+1):=by grind
  omega
section
variable {n c:Nat}{A a:Mtx}{d:Int}
theorem GJ.rep(h:GJ n A c a d){i j:Nat}(hi:i<c)(hj:c≤j)(hj':j≤n):a i j=det c (rep A i fun r=>A r j):=by
 have key:=cramer (n:=c) (A:=A) (y:=fun k=>a k j) (b:=fun r=>d * A r j) (fun r hr=>h.top j r hj hj' hr) (l:=i) hi
 rw[aq1 hi,← h.dd,Int.mul_comm (a i j)] at key
 exact(Int.eq_of_mul_eq_mul_left h.nz key).symm
end
structure Rb(n:Nat)(A:Mtx)(R B:Int):Prop where
 R0:0≤R
 B0:0≤B
 row:∀i,i<n→smN n (fun k=>ab (A i k))≤R
 rhs:∀i,i<n→ab (A i n)≤B
section
variable {n c:Nat}{A a:Mtx}{d R B:Int}
theorem Rb.brd1(h:Rb n A R B){i j:Nat}(hj:c≤j)(hj':j<n)(hi:c≤i)(hi':i<n):ab (det (c+1) (brd c A i j))≤R ^ (c+1):=by
 have:=ad5 (n:=c+1) (A:=brd c A i j) (r:=fun _=>R) (fun _=>h.R0) fun r hr=>by
  have hr':(if r=c then i else r)<n:=by split<;>omega
  have k1:=W4 (f:=fun k=>ab (A (if r=c then i else r) k)) (fun _=>B5 _) hj hj'
  have k2:=h.row _ hr'
  simp only[smN]
  rw[k8 (g:=fun k=>ab (A (if r=c then i else r) k)) fun k hk=>by unfold brd;rw[if_neg (by omega:¬ k=c)]]
  have:brd c A i j r c=A (if r=c then i else r) j:=by unfold brd;rw[if_pos (rfl:c=c)]
  rw[this];omega
 rwa [ac9] at this
theorem Rb.brd2(h:Rb n A R B){i:Nat}(hc:c≤n)(hi:c≤i)(hi':i<n):ab (det (c+1) (brd c A i n))≤(c+1:Int) * B * R ^ c:=by
 refine aj5 h.R0 h.B0 (l:=c) (by omega) (fun r hr=> ?_) fun r hr=> ?_
 ·have hr':(if r=c then i else r)<n:=by split<;>omega
  have k1:=Q5 (f:=fun k=>ab (A (if r=c then i else r) k)) (fun _=>B5 _) hc
  have k2:=h.row _ hr'
  simp only[smN,if_true,Int.add_zero]
  rw[k8 (g:=fun k=>ab (A (if r=c then i else r) k)) fun k hk=>by unfold brd;rw[if_neg (by omega:¬ k=c),if_neg (by omega:¬ k=c)]]
  omega
 ·have hr':(if r=c then i else r)<n:=by split<;>omega
  have:brd c A i n r c=A (if r=c then i else r) n:=by unfold brd;rw[if_pos (rfl:c=c)]
  rw[this];exact h.rhs _ hr'
theorem Rb.rep1(h:Rb n A R B)(hc:c≤n){i j:Nat}(hi:i<c)(hj:c≤j)(hj':j<n):ab (det c (rep A i fun r=>A r j))≤R ^ c:=by
 have:=ad5 (n:=c) (A:=rep A i fun r=>A r j) (r:=fun _=>R) (fun _=>h.R0) fun r hr=>by
  have k1:=W4 (f:=fun k=>ab (A r k)) (fun _=>B5 _) hj hj'
  have k2:=h.row r (by omega)
  have k3:smN c (fun k=>ab (rep A i (fun r=>A r j) r k))≤smN c (fun k=>ab (A r k)+(if k=i then ab (A r j) else 0)):=S7 fun k hk=>by
   unfold Ab.rep
   by_cases e:k=i
   ·rw[if_pos e,if_pos e];have:=B5 (A r k);show ab (A r j)≤ab (A r k)+ab (A r j);omega
   ·rw[if_neg e,if_neg e];omega
  rw[J1,O8 (f:=fun k=>if k=i then ab (A r j) else 0) hi fun k _ hk=>if_neg hk,if_pos rfl] at k3
  exact Int.le_trans k3 (Int.le_trans k1 k2)
 rwa [ac9] at this
theorem Rb.rep2(h:Rb n A R B){i:Nat}(hc:c+1≤n)(hi:i<c+1):ab (det (c+1) (rep A i fun r=>A r n))≤(c+1:Int) * B * R ^ c:=by
 refine aj5 h.R0 h.B0 (l:=i) hi (fun r hr=> ?_) fun r hr=> ?_
 ·have k1:=Q5 (f:=fun k=>ab (A r k)) (fun _=>B5 _) hc
  have k2:=h.row r (by omega)
  refine Int.le_trans (S7 (g:=fun k=>ab (A r k)) fun k hk=> ?_) (Int.le_trans k1 k2)
  unfold Ab.rep
  split
  ·exact B5 _
  ·exact Int.le_refl _
 ·unfold Ab.rep;rw[if_pos rfl];exact h.rhs r (by omega)
end
end Ab
end
section
namespace Ab
theorem filter_le{α:Type}{p q:α→Bool}:∀{l:List α},(∀x ∈ l,p x=true→q x=true)→(l.filter p).length≤(l.filter q).length
 |[],_=>Nat.le_refl _
 |a::l,h=>by
  have ih:=filter_le (l:=l) fun x hx=>h x (List.mem_cons_of_mem _ hx)
  have h1:=h a (by simp)
  simp only[List.filter_cons]
  split
  ·rename_i hp;rw[if_pos (h1 hp)];simp only[List.length_cons];omega
  ·split
   ·simp only[List.length_cons];omega
   ·exact ih
theorem filter_lt{α:Type}{p q:α→Bool}:∀{l:List α},(∀x ∈ l,p x=true→q x=true)→(∃x ∈ l,q x=true∧p x=false)→(l.filter p).length<(l.filter q).length
 |[],_,⟨x,h,_⟩=>by cases h
 |a::l,h,⟨x,hx,hq,hp⟩=>by
  have hl:=fun x hx=>h x (List.mem_cons_of_mem a hx)
  have h1:=h a (by simp)
  simp only[List.filter_cons]
  rcases List.mem_cons.1 hx with rfl|hx
  ·have:=filter_le hl
   rw[hp,hq]
   simp only[Bool.false_eq_true,if_false,if_true,List.length_cons];omega
  ·have ih:=filter_lt hl ⟨x,hx,hq,hp⟩
   split
   ·rename_i e;rw[if_pos (h1 e)];simp only[List.length_cons];omega
   ·split
    ·simp only[List.length_cons];omega
    ·exact ih
noncomputable def rank{α:Type}(L:List α)(lt:α→α→Prop)(x:α):Nat:=(L.filter fun z=>dec (lt z x)).length
theorem rank_lt{α:Type}{L:List α}{lt:α→α→Prop}(tr:∀x y z,lt x y→lt y z→lt x z)(ir:∀x,¬ lt x x){x y:α}(hy:y ∈ L)(h:lt y x):rank L lt y<rank L lt x:=
 filter_lt (fun z _ hz=>j6 (tr _ _ _ (k7.1 hz) h)) ⟨y,hy,j6 h,m8 (ir y)⟩
def lists(m:Nat):Nat→LL
 |0=>[[]]
 |n+1=>(List.range m).flatMap fun a:Nat=>(lists m n).map fun l=>(a:Int)::l
theorem mem_lists{m:Nat}:∀{n:Nat} {l:Li},l.length=n→(∀x ∈ l,0≤x∧x<m)→l ∈ lists m n
 |0,l,h,_=>by
  have:l=[]:=List.eq_nil_of_length_eq_zero h
  rw[this];simp[lists]
 |n+1,a::l,h,hl=>by
  have ha:=hl a (by simp)
  refine List.mem_flatMap.2 ⟨a.toNat,List.mem_range.2 (by omega),List.mem_map.2 ⟨l,mem_lists (by simpa using h) fun x hx=>hl x (List.mem_cons_of_mem _ hx),?_⟩⟩
  rw[Int.toNat_of_nonneg ha.1]
end Ab
end
section
namespace Ab
open Go
def mE(M:LL):Mtx:=fun i j=>((M[i]?).getD [])[j]?.getD 0
structure Shp(n:Nat)(M:LL):Prop where
 len:M.length=n
 row:∀r ∈ M,r.length=n+1
theorem Shp.get{n:Nat}{M:LL}(h:Shp n M){i:Nat}(hi:i<n):∃row,M[i]? =some row∧row.length=n+1∧ix M (i:Int)=some row∧∀j,j≤n→ix row (j:Int)=some (mE M i j)∧row[j]? =some (mE M i j):=by
 have hl:i<M.length:=by rw[h.len];exact hi
 have e:M[i]? =some M[i]:=List.getElem?_eq_getElem hl
 have hr:=h.row _ (List.getElem_mem hl)
 refine⟨M[i],e,hr,by rw[n9,e],fun j hj=> ?_⟩
 have hj':j<M[i].length:=by omega
 have e2:M[i][j]? =some M[i][j]:=List.getElem?_eq_getElem hj'
 have:mE M i j=M[i][j]:=by unfold mE;rw[e];simp[e2]
 rw[n9,e2,this]
 exact⟨rfl,rfl⟩
theorem Shp.set{n:Nat}{M:LL}(h:Shp n M){i:Nat}{row:Li}(hr:row.length=n+1):Shp n (M.set i row):=
 ⟨by rw[lS];exact h.len,fun r hm=>by
  rcases List.mem_or_eq_of_mem_set hm with hm|rfl
  ·exact h.row r hm
  ·exact hr⟩
theorem mE_set{n:Nat}{M:LL}(h:Shp n M){i j:Nat}(hi:i<n){row:Li}(hrow:M[i]? =some row)(hj:j<row.length)(v:Int)(i' j':Nat):
  mE (M.set i (row.set j v)) i' j'=if i'=i∧j'=j then v else mE M i' j':=by
 have hl:i<M.length:=by rw[h.len];exact hi
 unfold mE
 rw[List.getElem?_set]
 by_cases e:i'=i
 ·subst e
  rw[if_pos rfl,if_pos hl,hrow]
  simp only[Option.getD_some,List.getElem?_set,true_and]
  by_cases f:j'=j
  ·subst f;simp[hj]
  ·rw[if_neg (fun q=>f q.symm),if_neg f]
 ·rw[if_neg (fun q=>e q.symm),if_neg (fun q=>e q.1)]
def Ft(x:Int):Prop:= -9223372036854775808≤x∧x≤9223372036854775807
theorem Ft.w{x:Int}(h:Ft x):w64 x=x:=w64_eq h
theorem row_clear{n c i:Nat}{last:Int}{M:LL}(hM:Shp n M)(hn:n≤1000)(hc:c<n)(hi:i<n)(hic:i ≠ c)(hl:last ≠ 0)
  (hf:∀j,j≤n→j ≠ c→Ft (mE M c c * mE M i j)∧Ft (mE M i c * mE M c j)∧Ft (crs (mE M) c i j)∧Ft ((crs (mE M) c i j).tdiv last)):
  ∃M',Loop (B7 c last i) (M,(n:Int))=some M'∧Shp n M'∧∀i' j',j'≤n→mE M' i' j'=if i'=i∧j' ≠ c then(crs (mE M) c i j').tdiv last else mE M i' j':=by
 refine E7 (body:=B7 c last i) (s:=(M,(n:Int)))
  (fun s=>Shp n s.1∧ -1≤s.2∧s.2≤n∧∀i' j':Nat,j'≤n→mE s.1 i' j'=if i'=i∧j' ≠ c∧s.2<j' then(crs (mE M) c i j').tdiv last else mE M i' j')
  (fun M'=>Shp n M'∧∀i' j',j'≤n→mE M' i' j'=if i'=i∧j' ≠ c then(crs (mE M) c i j').tdiv last else mE M i' j')
  (fun s=>(s.2+1).toNat) ⟨hM,by dsimp only;omega,by dsimp only;omega,fun i' j' hj'=>by rw[if_neg (by dsimp only;omega)]⟩ ?_
 rintro ⟨M1,j⟩ ⟨h1,h2,h3,h4⟩
 dsimp only at h1 h2 h3 h4
 unfold B7
 dsimp only
 by_cases hj:0≤j
 ·rw[if_pos hj]
  obtain⟨k,rfl⟩:=Int.eq_ofNat_of_zero_le hj
  have hw:w64 ((k:Int) - 1)=k - 1:=m5 (by omega) (by omega)
  by_cases e:(k:Int)=c
  ·rw[if_pos e,Option.bind_some,hw]
   refine .inl ⟨_,rfl,⟨h1,by dsimp only;omega,by dsimp only;omega,fun i' j' hj'=> ?_⟩,by dsimp only;omega⟩
   rw[h4 i' j' hj']
   dsimp only
   by_cases q:i'=i∧j' ≠ c∧(k:Int)<j'
   ·rw[if_pos q,if_pos ⟨q.1,q.2.1,by omega⟩]
   ·rw[if_neg q,if_neg (fun r=>q ⟨r.1,r.2.1,by have:=r.2.1;have:=r.2.2;omega⟩)]
  ·rw[if_neg e]
   have hkc:k ≠ c:=by omega
   have hk:k≤n:=by omega
   obtain⟨ri,a1,a2,a3,a4⟩:=h1.get hi
   obtain⟨rc,b1,b2,b3,b4⟩:=h1.get hc
   have vcc:mE M1 c c=mE M c c:=by rw[h4 c c (by omega),if_neg (fun q=>hic q.1.symm)]
   have vck:mE M1 c k=mE M c k:=by rw[h4 c k hk,if_neg (fun q=>hic q.1.symm)]
   have vic:mE M1 i c=mE M i c:=by rw[h4 i c (by omega),if_neg (fun q=>q.2.1 rfl)]
   have vik:mE M1 i k=mE M i k:=by rw[h4 i k hk,if_neg (fun q=>by have:=q.2.2;omega)]
   obtain⟨f1,f2,f3,f4⟩:=hf k hk hkc
   have hcr:mE M c c * mE M i k - mE M i c * mE M c k=crs (mE M) c i k:=rfl
   simp only[a3,b3,oB,(a4 k hk).1,(a4 c (by omega)).1,(b4 c (by omega)).1,(b4 k hk).1,vcc,vck,vic,vik,f1.w,f2.w,hcr,f3.w,f4.w,chkN]
   rw[if_neg hl]
   simp only[oB,hw,Int.toNat_natCast]
   refine .inl ⟨_,rfl,⟨h1.set (by rw[lS];exact a2),by dsimp only;omega,by dsimp only;omega,fun i' j' hj'=> ?_⟩,by dsimp only;omega⟩
   dsimp only
   rw[mE_set h1 hi a1 (by omega)]
   by_cases q:i'=i∧j'=k
   ·rw[if_pos q,if_pos ⟨q.1,by omega,by omega⟩,q.2]
   ·rw[if_neg q,h4 i' j' hj']
    by_cases r:i'=i∧j' ≠ c∧(k:Int)<j'
    ·rw[if_pos r,if_pos ⟨r.1,r.2.1,by omega⟩]
    ·rw[if_neg r,if_neg (fun s=>r ⟨s.1,s.2.1,by have:=s.2.2;by_cases f:j'=k;exact absurd ⟨s.1,f⟩ q;omega⟩)]
 ·rw[if_neg hj]
  refine .inr ⟨_,rfl,h1,fun i' j' hj'=> ?_⟩
  rw[h4 i' j' hj']
  by_cases q:i'=i∧j' ≠ c
  ·rw[if_pos q,if_pos ⟨q.1,q.2,by omega⟩]
  ·rw[if_neg q,if_neg (fun r=>q ⟨r.1,r.2.1⟩)]
def nxt(a:Mtx)(c:Nat)(d:Int):Mtx:=fun i j=>if i=c then a c j else if j=c then 0 else(crs a c i j).tdiv d
theorem col_clear{n c:Nat}{last:Int}{L M:LL}(hL:L.length=n)(hM:Shp n M)(hn:n≤1000)(hc:c<n)(hl:last ≠ 0)
  (hf:∀i j,i<n→i ≠ c→j≤n→j ≠ c→Ft (mE M c c * mE M i j)∧Ft (mE M i c * mE M c j)∧Ft (crs (mE M) c i j)∧Ft ((crs (mE M) c i j).tdiv last)):
  ∃M',forR 0 (L.length:Int) (C4 L c last) M=some M'∧Shp n M'∧∀i j,i<n→j≤n→mE M' i j=nxt (mE M) c last i j:=by
 obtain⟨M',k1,k2,k3⟩:=r8 (body:=C4 L c last) (n:=(L.length:Int)) (s:=M)
  (fun q s=>Shp n s∧∀i j:Nat,i<n→j≤n→mE s i j=if(i:Int)<q then nxt (mE M) c last i j else mE M i j) (by omega)
  ⟨hM,fun i j hi hj=>by rw[if_neg (by omega)]⟩ (fun q s q0 q1 ⟨p1,p2⟩=>by
   obtain⟨i,rfl⟩:=Int.eq_ofNat_of_zero_le q0
   have hi:i<n:=by omega
   unfold C4
   by_cases e:(i:Int)=c
   ·have e':i=c:=by omega
    rw[if_pos e,Option.bind_some]
    refine⟨_,rfl,p1,fun i' j' hi' hj'=> ?_⟩
    rw[p2 i' j' hi' hj']
    by_cases f:(i':Int)<i
    ·rw[if_pos f,if_pos (by omega)]
    ·rw[if_neg f]
     by_cases g:i'=i
     ·rw[if_pos (by omega),g,e'];unfold nxt;rw[if_pos rfl]
     ·rw[if_neg (by omega)]
   ·have e':i ≠ c:=by omega
    have vi:∀j,j≤n→mE s i j=mE M i j:=fun j hj=>by rw[p2 i j hi hj,if_neg (by omega)]
    have vc:∀j,j≤n→mE s c j=mE M c j:=fun j hj=>by
     rw[p2 c j hc hj]
     split
     ·unfold nxt;rw[if_pos rfl]
     ·rfl
    have vx:∀j,j≤n→crs (mE s) c i j=crs (mE M) c i j:=fun j hj=>by
     unfold crs;rw[vi j hj,vi c (by omega),vc j hj,vc c (by omega)]
    obtain⟨M1,m1,m2,m3⟩:=row_clear p1 hn hc hi e' hl (fun j hj hjc=>by
     have:=hf i j hi e' hj hjc
     rw[vc c (by omega),vi j hj,vi c (by omega),vc j hj,vx j hj]
     exact this)
    obtain⟨r,a1,a2,a3,a4⟩:=m2.get hi
    rw[if_neg e,hL,m1]
    simp only[oB,a3,(a4 c (by omega)).1,Int.toNat_natCast]
    refine⟨_,rfl,m2.set (by rw[lS];exact a2),fun i' j' hi' hj'=> ?_⟩
    rw[mE_set m2 hi a1 (by omega),m3 i' j' hj']
    by_cases g:i'=i
    ·subst g
     rw[if_pos (show((i':Nat):Int)<(i':Int)+1 by omega)]
     unfold nxt
     rw[if_neg e']
     by_cases f:j'=c
     ·rw[if_pos ⟨rfl,f⟩,if_pos f]
     ·rw[if_neg (fun q=>f q.2),if_pos ⟨rfl,f⟩,if_neg f,vx j' hj']
    ·rw[if_neg (fun q=>g q.1),if_neg (fun q=>g q.1),p2 i' j' hi' hj']
     by_cases f:(i':Int)<i
     ·rw[if_pos f,if_pos (show(i':Int)<(i:Int)+1 by omega)]
     ·rw[if_neg f,if_neg (show ¬ (i':Int)<(i:Int)+1 by omega)])
 refine⟨M',k1,k2,fun i j hi hj=> ?_⟩
 rw[k3 i j hi hj,if_pos (by omega)]
end Ab
end
section
namespace Ab
open Go
theorem ab_prod{x y X Y:Int}(h1:ab x≤X)(h2:ab y≤Y):ab (x * y)≤X * Y:=by
 rw[ab_mul];exact Int.mul_le_mul h1 h2 (B5 _) (Int.le_trans (B5 x) h1)
theorem Ft.of{x:Int}(h:ab x≤9223372036854775807):Ft x:=by
 have:=ab_le h;unfold Ft;omega
theorem ab_tdiv(x d:Int):ab (x.tdiv d)≤ab x:=by
 have e:∀y:Int,ab y=(y.natAbs:Int):=fun y=>by unfold ab;split<;>omega
 rw[e,e,Int.natAbs_tdiv]
 exact_mod_cast Nat.div_le_self _ _
theorem Ft.crs{a:Mtx}{c i j:Nat}{d:Int}(h1:ab (a c c * a i j)≤4000000000000000000)(h2:ab (a i c * a c j)≤4000000000000000000):Ft (a c c * a i j)∧Ft (a i c * a c j)∧Ft (Ab.crs a c i j)∧Ft ((Ab.crs a c i j).tdiv d):=by
 have h3:ab (Ab.crs a c i j)≤8000000000000000000:=by
  have:=ab_add (a c c * a i j) (-(a i c * a c j))
  have e:ab (-(a i c * a c j))=ab (a i c * a c j):=by unfold ab;split<;>split<;>omega
  rw[e] at this
  unfold Ab.crs
  rw[Int.sub_eq_add_neg];omega
 have h4:=ab_tdiv (Ab.crs a c i j) d
 exact⟨.of (by omega),.of (by omega),.of (by omega),.of (by omega)⟩
section
variable {n c:Nat}{A a:Mtx}{d:Int}
theorem det_top{R B:Int}(h:Rb n A R B)(hc:c≤n):ab (det c A)≤R ^ c:=by
 have:=ad5 (n:=c) (A:=A) (r:=fun _=>R) (fun _=>h.R0) fun r hr=>by
  have k1:=Q5 (f:=fun k=>ab (A r k)) (fun _=>B5 _) hc
  have k2:=h.row r (by omega)
  omega
 rwa [ac9] at this
theorem GJ.fits(hn:n≤5)(hR:Rb n A 48 2400)(h:GJ n A c a d)(hc:c<n){i j:Nat}(hi:i<n)(hic:i ≠ c)(hj:j≤n)(hjc:j ≠ c):ab (a c c * a i j)≤4000000000000000000∧ab (a i c * a c j)≤4000000000000000000:=by
 have P:ab (a c c)≤48 ^ (c+1):=by rw[h.brd (Nat.le_refl c) (by omega) (Nat.le_refl c) hc];exact hR.brd1 (Nat.le_refl c) hc (Nat.le_refl c) hc
 have hd:ab d≤48 ^ c:=by rw[h.dd];exact det_top hR (by omega)
 have h5:c=0∨c=1∨c=2∨c=3∨c=4:=by omega
 have fin:∀{x y X Y:Int},ab x≤X→ab y≤Y→X * Y≤4000000000000000000→ab (x * y)≤4000000000000000000:=fun h1 h2 h3=>Int.le_trans (ab_prod h1 h2) h3
 rcases Nat.lt_or_ge j c with q|q
 ·have e1:a c j=0:=by rw[h.on c j hc q,if_neg (by omega)]
  have e2:ab (a i j)≤48 ^ c:=by
   rw[h.on i j hi q]
   split
   ·exact hd
   ·have:ab 0=0:=by unfold ab;rfl
    rw[this];exact pow_nn (by omega) c
  refine⟨fin P e2 ?_,?_⟩
  ·rcases h5 with rfl|rfl|rfl|rfl|rfl<;>decide
  ·rw[e1,Int.mul_zero];decide
 ·have R2:ab (a c n)≤(c+1:Int) * 2400 * 48 ^ c:=by rw[h.brd (by omega) (Nat.le_refl n) (Nat.le_refl c) hc];exact hR.brd2 (by omega) (Nat.le_refl c) hc
  rcases Nat.lt_or_ge i c with r|r
  · -- a row that is cleared
   have C1:ab (a i c)≤48 ^ c:=by rw[h.rep r (Nat.le_refl c) (by omega)];exact hR.rep1 (by omega) r (Nat.le_refl c) hc
   by_cases e:j=n
   ·subst e
    obtain⟨c',rfl⟩:∃c',c=c'+1:=⟨c - 1,by omega⟩
    have C2:ab (a i j)≤(c'+1:Int) * 2400 * 48 ^ c':=by rw[h.rep r (by omega) (Nat.le_refl j)];exact hR.rep2 (by omega) r
    have h5:c'=0∨c'=1∨c'=2∨c'=3:=by omega
    exact⟨fin P C2 (by rcases h5 with rfl|rfl|rfl|rfl<;>decide),fin C1 R2 (by rcases h5 with rfl|rfl|rfl|rfl<;>decide)⟩
   ·have C2:ab (a i j)≤48 ^ c:=by rw[h.rep r (by omega) (by omega)];exact hR.rep1 (by omega) r (by omega) (by omega)
    have C3:ab (a c j)≤48 ^ (c+1):=by rw[h.brd (by omega) (by omega) (Nat.le_refl c) hc];exact hR.brd1 (by omega) (by omega) (Nat.le_refl c) hc
    exact⟨fin P C2 (by rcases h5 with rfl|rfl|rfl|rfl|rfl<;>decide),fin C1 C3 (by rcases h5 with rfl|rfl|rfl|rfl|rfl<;>decide)⟩
  ·have h4:c=0∨c=1∨c=2∨c=3:=by omega
   have C1:ab (a i c)≤48 ^ (c+1):=by rw[h.brd (Nat.le_refl c) (by omega) r hi];exact hR.brd1 (Nat.le_refl c) hc r hi
   by_cases e:j=n
   ·subst e
    have C2:ab (a i j)≤(c+1:Int) * 2400 * 48 ^ c:=by rw[h.brd (by omega) (Nat.le_refl j) r hi];exact hR.brd2 (by omega) r hi
    exact⟨fin P C2 (by rcases h4 with rfl|rfl|rfl|rfl<;>decide),fin C1 R2 (by rcases h4 with rfl|rfl|rfl|rfl<;>decide)⟩
   ·have C2:ab (a i j)≤48 ^ (c+1):=by rw[h.brd (by omega) (by omega) r hi];exact hR.brd1 (by omega) (by omega) r hi
    have C3:ab (a c j)≤48 ^ (c+1):=by rw[h.brd (by omega) (by omega) (Nat.le_refl c) hc];exact hR.brd1 (by omega) (by omega) (Nat.le_refl c) hc
    exact⟨fin P C2 (by rcases h4 with rfl|rfl|rfl|rfl<;>decide),fin C1 C3 (by rcases h4 with rfl|rfl|rfl|rfl<;>decide)⟩
end
theorem solve_rows{n:Nat}{L:LL}(hn:n≤5)(hL:Shp n L)(hR:Rb n (mE L) 48 2400)(hp:∀c a d,GJ n (mE L) c a d→c<n→a c c ≠ 0):
  ∃M d,forR 0 (L.length:Int) (B6 L) (L,1)=some (M,d)∧Shp n M∧GJ n (mE L) n (mE M) d:=by
 obtain⟨⟨M,d⟩,k1,k2,k3⟩:=r8 (body:=B6 L) (n:=(L.length:Int)) (s:=(L,1))
  (fun q s=>Shp n s.1∧GJ n (mE L) q.toNat (mE s.1) s.2) (by omega) ⟨hL,GJ.start⟩ (fun q s q0 q1 ⟨p1,p2⟩=>by
   obtain⟨M,d⟩:=s
   obtain⟨c,rfl⟩:=Int.eq_ofNat_of_zero_le q0
   have hll:=hL.len
   have hc:c<n:=by omega
   dsimp only at p1 p2
   rw[Int.toNat_natCast] at p2
   have hpiv:=hp c _ _ p2 hc
   obtain⟨rc,b1,b2,b3,b4⟩:=p1.get hc
   unfold B6
   have e2:Loop (B9 L c M) ()=some ():=by
    rw[aj8]
    have:B9 L c M ()=some (.inr ()):=by
     unfold B9
     split
     ·simp only[b3,(b4 c (by omega)).1,oB]
      rw[if_neg (by simp[hpiv])]
     ·rfl
    rw[this]
   have hft:=fun i j (hi:i<n) (hic:i ≠ c) (hj:j≤n) (hjc:j ≠ c)=>p2.fits hn hR hc hi hic hj hjc
   obtain⟨M',m1,m2,m3⟩:=col_clear hll p1 (by omega) hc p2.nz (fun i j hi hic hj hjc=>Ft.crs (hft i j hi hic hj hjc).1 (hft i j hi hic hj hjc).2)
   obtain⟨r2,d1,d2,d3,d4⟩:=m2.get hc
   have hcc:mE M' c c=mE M c c:=by rw[m3 c c hc (by omega)];unfold nxt;rw[if_pos rfl]
   dsimp only
   simp only[e2,b3,m1,d3,(d4 c (by omega)).1,oB]
   refine⟨_,rfl,m2,?_⟩
   dsimp only
   rw[show((c:Int)+1).toNat=c+1 by omega,hcc]
   refine p2.step hc hpiv (fun j hj=>by rw[m3 c j hc hj];unfold nxt;rw[if_pos rfl]) (fun i j hi hic hj hjc=> ?_) (fun i hi hic=>by rw[m3 i c hi (by omega)];unfold nxt;rw[if_neg hic,if_pos rfl])
   rw[m3 i j hi hj]
   unfold nxt
   rw[if_neg hic,if_neg hjc]
   obtain⟨x,hx⟩:=p2.exact hc hpiv hi hic hj hjc
   rw[hx,Int.mul_tdiv_cancel_left _ p2.nz])
 refine⟨M,d,k1,k2,?_⟩
 rw[hL.len,Int.toNat_natCast] at k3
 exact k3
theorem solve_spec{n:Nat}{L:LL}(st:LL)(hn:n≤5)(hL:Shp n L)(hR:Rb n (mE L) 48 2400)(hp:∀c a d,GJ n (mE L) c a d→c<n→a c c ≠ 0):
  ∃num:Li,w7 st L=some (num,det n (mE L))∧num.length=n∧det n (mE L) ≠ 0∧(∀l,l<n→num[l]? =some (det n (rep (mE L) l fun r=>mE L r n)))∧
   ∀r,r<n→smN n (fun k=>mE L r k * (num[k]?).getD 0)=det n (mE L) * mE L r n:=by
 obtain⟨M,d,h1,h2,h3⟩:=solve_rows hn hL hR hp
 have hll:=hL.len
 unfold w7
 rw[h1]
 simp only[oB]
 have hmk:mkL 8 (L.length:Int) (0:Int)=some (List.replicate n 0):=by
  unfold mkL;rw[if_pos (by omega),hll,Int.toNat_natCast]
 rw[hmk]
 simp only[oB,List.length_replicate]
 obtain⟨num,k1,k2,k3⟩:=r8 (body:=F9 L M) (n:=(n:Int)) (s:=List.replicate n 0)
  (fun q s=>s.length=n∧∀l:Nat,(l:Int)<q→l<n→s[l]? =some (mE M l n)) (by omega) ⟨by simp,fun l hl=>by omega⟩ (fun q s q0 q1 ⟨p1,p2⟩=>by
   obtain⟨i,rfl⟩:=Int.eq_ofNat_of_zero_le q0
   have hi:i<n:=by omega
   obtain⟨r,a1,a2,a3,a4⟩:=h2.get hi
   have hs:i<s.length:=by omega
   have hx:ix s (i:Int)=some s[i]:=by rw[n9];exact List.getElem?_eq_getElem hs
   unfold F9
   simp only[a3,hll,(a4 n (Nat.le_refl n)).1,hx,oB,Int.toNat_natCast]
   refine⟨_,rfl,by rw[lS];exact p1,fun l hl hln=> ?_⟩
   rw[List.getElem?_set]
   by_cases e:i=l
   ·subst e;rw[if_pos rfl,if_pos hs]
   ·rw[if_neg e];exact p2 l (by omega) hln)
 rw[k1]
 have dd:d=det n (mE L):=h3.dd
 have hnum:∀l,l<n→num[l]? =some (mE M l n):=fun l hl=>k3 l (by omega) hl
 refine⟨num,by rw[dd];rfl,k2,by rw[← dd];exact h3.nz,fun l hl=> ?_,fun r hr=> ?_⟩
 ·rw[hnum l hl,h3.rep hl (Nat.le_refl n) (Nat.le_refl n)]
 ·rw[← dd,← h3.top n r (Nat.le_refl n) (Nat.le_refl n) hr]
  exact k8 fun k hk=>by rw[hnum k hk];rfl
end Ab
end
section
namespace Ab
open Go
/-! ### States as' numbers -/
def wsN:Li→Nat
 |[]=>0
 |a::l=>2 ^ a.toNat+wsN l
theorem wsN_append:∀{l m:Li},wsN (l++m)=wsN l+wsN m
 |[],m=>by simp[wsN]
 |a::l,m=>by simp only[List.cons_append,wsN,wsN_append (l:=l)];omega
theorem wsN_le:∀{l:Li},(∀x ∈ l,x<24)→wsN l≤l.length * 16777216
 |[],_=>by simp[wsN]
 |a::l,h=>by
  have h1:=wsN_le (l:=l) fun x hx=>h x (List.mem_cons_of_mem _ hx)
  have h2:2 ^ a.toNat≤2 ^ 24:=Nat.pow_le_pow_right (by decide) (by have:=h a (by simp);omega)
  simp only[wsN,List.length_cons]
  omega
theorem wsN_dvd{k:Nat}:∀{l:Li},(∀x ∈ l,k≤x.toNat)→2 ^ k ∣ wsN l
 |[],_=>⟨0,rfl⟩
 |a::l,h=>Nat.dvd_add (Nat.pow_dvd_pow 2 (h a (by simp))) (wsN_dvd fun x hx=>h x (List.mem_cons_of_mem _ hx))
theorem two_pow_no{k:Nat}(h:2 ^ (k+1) ∣ 2 ^ k):False:=by
 have h1:=Nat.le_of_dvd (Nat.two_pow_pos k) h
 have h2:=Nat.two_pow_pos k
 rw[Nat.pow_succ] at h1
 omega
theorem wsN_ne{a:Int}{l m:Li}(ha:0≤a)(hl:∀x ∈ l,a<x)(hm:∀x ∈ m,a<x):wsN (a::l) ≠ wsN m:=fun h=>by
 have d1:2 ^ (a.toNat+1) ∣ wsN l:=wsN_dvd fun x hx=>by have:=hl x hx;omega
 have d2:2 ^ (a.toNat+1) ∣ wsN m:=wsN_dvd fun x hx=>by have:=hm x hx;omega
 rw[← h,wsN] at d2
 exact two_pow_no ((Nat.dvd_add_left d1).1 d2)
theorem wsN_inj:∀{l m:Li},Inc l→Inc m→(∀x ∈ l,0≤x)→(∀x ∈ m,0≤x)→wsN l=wsN m→l=m
 |[],[],_,_,_,_,_=>rfl
 |[],b::m,_,_,_,_,h=>by
  have:=Nat.two_pow_pos b.toNat
  simp only[wsN] at h;omega
 |a::l,[],_,_,_,_,h=>by
  have:=Nat.two_pow_pos a.toNat
  simp only[wsN] at h;omega
 |a::l,b::m,h1,h2,h3,h4,h=>by
  obtain⟨l1,l2⟩:=List.pairwise_cons.1 h1
  obtain⟨m1,m2⟩:=List.pairwise_cons.1 h2
  rcases Int.lt_trichotomy a b with c|c|c
  ·exact absurd h (wsN_ne (h3 a (by simp)) l1 fun x hx=>by
    rcases List.mem_cons.1 hx with rfl|hx
    ·exact c
    ·have:=m1 x hx;omega)
  ·subst c
   simp only[wsN] at h
   rw[wsN_inj l2 m2 (fun x hx=>h3 x (List.mem_cons_of_mem _ hx)) (fun x hx=>h4 x (List.mem_cons_of_mem _ hx)) (by omega)]
  ·exact absurd h.symm (wsN_ne (h4 b (by simp)) m1 fun x hx=>by
    rcases List.mem_cons.1 hx with rfl|hx
    ·exact c
    ·have:=l1 x hx;omega)
theorem SetN.word_inj{s s':Li}{n:Int}(h:SetN s n)(h':SetN s' n)(e:wsN s=wsN s'):s=s':=
 wsN_inj h.1 h'.1 (fun x hx=>(h.2 x hx).1) (fun x hx=>(h'.2 x hx).1) e
theorem word_eq{s:Li}{n:Int}(hs:SetN s n)(hn:n≤24):ag7 s=some (wsN s:Int):=by
 have hl:=hs.len
 unfold ag7
 obtain⟨w,h1,h2⟩:=r8 (body:=al2 s) (n:=(s.length:Int)) (s:=0) (fun j w=>w=(wsN (s.take j.toNat):Int)) (by omega) (by simp[wsN]) (fun j w j0 j1 hP=>by
  obtain⟨a,ha,ga⟩:=i5 (l:=s) j0 j1
  have hb:=hs.2 a (i6 ha)
  have ht:s.take (j+1).toNat=s.take j.toNat++[a]:=by rw[show(j+1).toNat=j.toNat+1 by omega,List.take_add_one,ga];rfl
  have b1:wsN (s.take j.toNat)≤(s.take j.toNat).length * 16777216:=wsN_le fun x hx=>by have:=hs.2 x (List.mem_of_mem_take hx);omega
  have b2:(s.take j.toNat).length≤24:=by rw[List.length_take];omega
  have b4:(s.take j.toNat).length * 16777216≤24 * 16777216:=Nat.mul_le_mul_right _ b2
  obtain⟨q,hq⟩:∃q:Nat,q=2 ^ a.toNat:=⟨_,rfl⟩
  have b3:q≤16777216:=by rw[hq];exact(Nat.pow_le_pow_right (by decide) (by omega):2 ^ a.toNat≤2 ^ 24)
  have ep:(2:Int) ^ a.toNat=(q:Int):=by rw[hq];push_cast;rfl
  unfold al2
  rw[ha]
  simp only[oB]
  rw[IntKind.wrap_u64,Int.emod_eq_of_lt (by omega) (by omega),chk0,if_neg (by omega)]
  simp only[oB]
  have es:shlW .i64 1 a=(q:Int):=by
   unfold shlW
   rw[show min a.toNat (IntKind.i64).bits=a.toNat by simp only[IntKind.bits];omega,Int.one_mul,ep]
   exact m5 (by omega) (by omega)
  rw[es,m5 (by omega) (by omega),ht,wsN_append,hP]
  refine⟨_,rfl,?_⟩
  simp only[wsN,← hq]
  omega)
 rw[h1,h2,Int.toNat_natCast,List.take_length]
 rfl
end Ab
end
section
namespace Ab
open Go
/-! ### Lists compared -/
theorem listEq{α:Type}{a b:List α}{body:Int→Unit→Option (Unit⊕Bool)}(hl:a.length=b.length)(hb:∀j x y,ix a j=some x→ix b j=some y→(x=y∧body j ()=some (.inl ()))∨(x ≠ y∧body j ()=some (.inr false))):
  (Option.bind (rngX 0 (a.length:Int) body ()) fun| .inl _=>some true| .inr x=>some x)=some (dec (a=b)):=by
 rcases x9 (body:=body) (n:=(a.length:Int)) (fun j=>if dec (ix a j=ix b j)=true then none else some false) (by omega) (fun j h0 h1 _=>by
  obtain⟨x,hx,_⟩:=i5 (l:=a) h0 h1
  obtain⟨y,hy,_⟩:=i5 (l:=b) (i:=j) h0 (by omega)
  rcases hb j x y hx hy with⟨e,h⟩|⟨e,h⟩
  ·rw[h,ifP (by rw[hx,hy,e])]
  ·rw[h,ifN (by rw[hx,hy];simpa using e)]) with⟨h1,h2⟩|⟨j,o,h0,h1,h2,_,h4⟩
 ·rw[h1,j6]
  ·rfl
  ·refine List.ext_getElem? fun k=> ?_
   by_cases hk:k<a.length
   ·have:=h2 k (by omega) (by omega)
    split at this
    ·rename_i e
     have:=k7.1 e
     rwa [n9,n9] at this
    ·cases this
   ·rw[List.getElem?_eq_none (by omega),List.getElem?_eq_none (by omega)]
 ·rw[h4]
  split at h2
  ·cases h2
  ·rename_i e
   cases h2
   rw[m8 (fun h=>e (j6 (by rw[h])))];rfl
theorem ints_eq(a b:Li):K7 a b=some (dec (a=b)):=by
 unfold K7
 by_cases hl:(a.length:Int)=b.length
 ·rw[if_pos hl]
  refine listEq (by omega) fun j x y hx hy=> ?_
  unfold am1
  simp only[hx,hy,oB]
  by_cases e:x=y
  ·rw[if_pos e];exact .inl ⟨e,rfl⟩
  ·rw[if_neg e];exact .inr ⟨e,rfl⟩
 ·rw[if_neg hl,m8 (fun h=>hl (by rw[h]))]
theorem equal_eq(a b:Li):z7 a b=some (dec (a=b)):=by
 unfold z7
 by_cases hl:(a.length:Int)=b.length
 ·rw[if_pos hl]
  refine listEq (by omega) fun j x y hx hy=> ?_
  unfold N6
  simp only[hx,hy,oB]
  by_cases e:x=y
  ·rw[if_pos e];exact .inl ⟨e,rfl⟩
  ·rw[if_neg e];exact .inr ⟨e,rfl⟩
 ·rw[if_neg hl,m8 (fun h=>hl (by rw[h]))]
theorem place_eq(l:LL)(s:Li):∃r,aq8 l s=some r∧((r= -1∧s ∉ l)∨(0≤r∧r<l.length∧ix l r=some s∧∀j,0≤j→j<r→ix l j ≠ some s)):=by
 unfold aq8
 rcases x9 (body:=ah6 l s) (n:=(l.length:Int)) (fun j=>if dec (ix l j=some s)=true then some j else none) (by omega) (fun j h0 h1 _=>by
  obtain⟨x,hx,_⟩:=i5 (l:=l) h0 h1
  unfold ah6
  simp only[hx,oB,ints_eq]
  by_cases e:x=s
  ·rw[ifP e,ifP (by rw[e])]
  ·rw[ifN e,ifN (by simpa using e)]) with⟨h1,h2⟩|⟨j,o,h0,h1,h2,h3,h4⟩
 ·rw[h1]
  refine⟨-1,rfl,.inl ⟨rfl,fun hs=> ?_⟩⟩
  obtain⟨i,i0,i1,hi⟩:=m6 hs
  have:=h2 i i0 i1
  rw[ifP hi] at this
  cases this
 ·rw[h4]
  split at h2
  ·rename_i e
   cases h2
   refine⟨_,rfl,.inr ⟨h0,h1,k7.1 e,fun i i0 i1=> ?_⟩⟩
   have:=h3 i i0 i1
   split at this
   ·cases this
   ·rename_i e
    exact fun h=>e (j6 h)
  ·cases h2
/-! ### Ordered lists -/
abbrev Ord(l:LL):Prop:=l.Pairwise llt
theorem Ord.ext:∀{l m:LL},Ord l→Ord m→(∀x,x ∈ l↔x ∈ m)→l=m
 |[],[],_,_,_=>rfl
 |[],b::m,_,_,h=>absurd ((h b).2 (by simp)) (by simp)
 |a::l,[],_,_,h=>absurd ((h a).1 (by simp)) (by simp)
 |a::l,b::m,hl,hm,h=>by
  obtain⟨l1,l2⟩:=List.pairwise_cons.1 hl
  obtain⟨m1,m2⟩:=List.pairwise_cons.1 hm
  have hab:a=b:=by
   rcases List.mem_cons.1 ((h a).1 (by simp)) with e|e
   ·exact e
   ·rcases List.mem_cons.1 ((h b).2 (by simp)) with e'|e'
    ·exact e'.symm
    ·exact(an0 (l1 b e') (m1 a e)).elim
  subst hab
  rw[Ord.ext l2 m2 fun x=>⟨fun hx=> ?_,fun hx=> ?_⟩]
  ·rcases List.mem_cons.1 ((h x).1 (by simp[hx])) with e|e
   ·subst e;exact absurd (l1 x hx) (H9 x)
   ·exact e
  ·rcases List.mem_cons.1 ((h x).2 (by simp[hx])) with e|e
   ·subst e;exact absurd (m1 x hx) (H9 x)
   ·exact e
theorem Ord.get{l:LL}(h:Ord l){i j:Int}{a b:Li}(hi:ix l i=some a)(hj:ix l j=some b)(hij:i<j):llt a b:=by
 obtain⟨i0,i1,hi⟩:=l9 hi
 obtain⟨j0,j1,hj⟩:=l9 hj
 obtain⟨h1,rfl⟩:=lG.1 hi
 obtain⟨h2,rfl⟩:=lG.1 hj
 exact List.pairwise_iff_getElem.1 h _ _ h1 h2 (by omega)
theorem Ord.inj{l:LL}(h:Ord l){i j:Int}{a:Li}(hi:ix l i=some a)(hj:ix l j=some a):i=j:=by
 rcases Int.lt_trichotomy i j with e|e|e
 ·exact absurd (h.get hi hj e) (H9 a)
 ·exact e
 ·exact absurd (h.get hj hi e) (H9 a)
def ddN(l:LL):Nat→LL
 |0=>[]
 |m+1=>ddN l m++if decide (m=0∨l[m]? ≠ l[m - 1]?)=true then l[m]?.toList else []
theorem ddN_spec{l:LL}(hs:l.Pairwise fun a b=>¬ llt b a):∀m,m≤l.length→Ord (ddN l m)∧∀x,x ∈ ddN l m↔x ∈ l.take m:=by
 intro m
 induction m with
 |zero=>intro _;simp[ddN]
 |succ m ih=>
  intro hm
  obtain⟨h1,h2⟩:=ih (by omega)
  have hlt:m<l.length:=by omega
  have ht:l.take (m+1)=l.take m++[l[m]]:=by rw[List.take_add_one];simp[hlt]
  rw[ddN,ht]
  by_cases hk:m=0∨l[m]? ≠ l[m - 1]?
  ·rw[if_pos (by simpa using hk)]
   simp only[List.getElem?_eq_getElem hlt,Option.toList_some]
   refine⟨List.pairwise_append.2 ⟨h1,by simp,fun a ha b hb=> ?_⟩,fun x=>by rw[List.mem_append,List.mem_append,h2]⟩
   simp only[List.mem_singleton] at hb
   subst hb
   have ha':=(h2 a).1 ha
   obtain⟨i,hi,rfl⟩:=List.mem_iff_getElem.1 ha'
   rw[List.length_take] at hi
   rw[List.getElem_take]
   rcases hk with hk|hk
   ·omega
   ·have hm1:m - 1<l.length:=by omega
    rw[List.getElem?_eq_getElem hlt,List.getElem?_eq_getElem hm1] at hk
    have e1:¬ llt l[m] l[m - 1]:=List.pairwise_iff_getElem.1 hs (m - 1) m hm1 hlt (by omega)
    have e2:llt l[m - 1] l[m]:=by
     rcases K5 l[m - 1] l[m] with h|h|h
     ·exact h
     ·exact absurd (by rw[h]) hk
     ·exact absurd h e1
    by_cases hi2:i=m - 1
    ·subst hi2;exact e2
    ·have e3:¬ llt l[m - 1] l[i]:=List.pairwise_iff_getElem.1 hs i (m - 1) (by omega) hm1 (by omega)
     rcases K5 l[i] l[m] with h|h|h
     ·exact h
     ·rw[h] at e3;exact absurd e2 e3
     ·exact absurd (F1 e2 h) e3
  ·rw[if_neg (by simpa using hk),List.append_nil]
   refine⟨h1,fun x=> ?_⟩
   rw[h2,List.mem_append]
   refine⟨.inl,fun h=> ?_⟩
   rcases h with h|h
   ·exact h
   ·simp only[List.mem_singleton] at h
    subst h
    have hm0:m ≠ 0:=fun e=>hk (.inl e)
    have he:l[m]? =l[m - 1]? :=Classical.not_not.1 fun e=>hk (.inr e)
    rw[List.getElem?_eq_getElem hlt,List.getElem?_eq_getElem (show m - 1<l.length by omega)] at he
    rw[Option.some.inj he,List.mem_take_iff_getElem]
    exact⟨m - 1,by omega,rfl⟩
theorem ddN_len(l:LL):∀m,(ddN l m).length≤m
 |0=>by simp[ddN]
 |m+1=>by
  have:=ddN_len l m
  rw[ddN,List.length_append]
  split
  ·have:(l[m]?.toList).length≤1:=by cases l[m]? <;>simp
   omega
  ·simp;omega
theorem ddN_all{l:LL}:∀m,m≤l.length→(∀i,0<i→i<m→l[i]? ≠ l[i - 1]?)→ddN l m=l.take m
 |0,_,_=>by simp[ddN]
 |m+1,hm,h=>by
  rw[ddN,ddN_all m (by omega) fun i h0 h1=>h i h0 (by omega),if_pos,List.take_add_one]
  rw[decide_eq_true_eq]
  by_cases e:m=0
  ·exact .inl e
  ·exact .inr (h m (by omega) (by omega))
theorem compactF_eq{l:LL}(hl:l.length≤1000000):y7 l=some (ddN l l.length):=by
 unfold y7
 by_cases c0:(l.length:Int)<2
 ·rw[if_pos c0,ddN_all l.length (Nat.le_refl _) fun i h0 h1=>by omega,List.take_length]
 ·rw[if_neg c0]
  have key:=rngN_inv (body:=u3 l) (fun j _=>∀i:Nat,0<i→(i:Int)<j→l[i]? ≠ l[i - 1]?) (fun o=>o=ddN l l.length) ((l.length:Int) - 1).toNat 1 () (fun i h0 h1=>by omega) (fun j _ j0 j1 hP=>by
   obtain⟨a,ha,ga⟩:=i5 (l:=l) (i:=j) (by omega) (by omega)
   obtain⟨b,hb,gb⟩:=i5 (l:=l) (i:=j - 1) (by omega) (by omega)
   unfold u3
   simp only[ha,hb,oB,equal_eq]
   have ej:(j - 1).toNat=j.toNat - 1:=by omega
   rw[ej] at gb
   by_cases c:a=b
   ·rw[ifP c]
    subst c
    right
    rw[show cutV (l.length:Int) j (l.length:Int)=some () by rw[cutV,if_pos (by omega)]]
    simp only[oB]
    obtain⟨⟨cs,kv⟩,r1,r2,r3,r4,r5,r6⟩:=forN_inv (body:=w9 l j) (fun k2 p=>p.1.length=l.length∧j≤p.2∧p.2≤j+k2 - 1∧p.1.take p.2.toNat=ddN l (j+k2).toNat∧∀i:Nat,j+k2 - 1≤i→p.1[i]? =l[i]?) ((l.length:Int) - j - 1).toNat 1 (l,j) ⟨rfl,by simp,by dsimp only;omega,by
      dsimp only
      rw[show(j+1).toNat=j.toNat+1 by omega,ddN,if_neg,List.append_nil,ddN_all j.toNat (by omega) fun i h0 h1=>hP i h0 (by omega)]
      rw[decide_eq_true_eq]
      rintro (h|h)
      ·omega
      ·exact h (ga.trans gb.symm),fun i _=>rfl⟩ (fun k2 ⟨cs,kv⟩ k0 k1 ⟨g1,g2,g3,g4,g5⟩=>by
      dsimp only at g1 g2 g3 g4 g5 ⊢
      obtain⟨x,hx,gx⟩:=i5 (l:=l) (i:=j+k2) (by omega) (by omega)
      obtain⟨y,hy,gy⟩:=i5 (l:=l) (i:=j+k2 - 1) (by omega) (by omega)
      have iv:∀i:Int,0≤i→i<(l.length:Int) - j→ixV cs (0+j) ((l.length:Int) - j) i=ix cs (j+i):=fun i h0 h1=>by
       rw[ixV,if_pos (by omega),Int.zero_add]
      have same:∀i:Int,j+k2 - 1≤i→ix cs i=ix l i:=fun i hi=>by
       have:=g5 i.toNat (by omega)
       simp only[ix]
       rw[this]
      unfold w9
      dsimp only
      rw[iv k2 (by omega) (by omega),iv (k2 - 1) (by omega) (by omega),show j+(k2 - 1)=j+k2 - 1 by omega,same _ (by omega),same _ (by omega),hx,hy]
      simp only[oB,equal_eq,w3]
      have ek:(j+(k2+1)).toNat=(j+k2).toNat+1:=by omega
      have ek1:(j+k2 - 1).toNat=(j+k2).toNat - 1:=by omega
      rw[ek1] at gy
      by_cases cx:x=y
      ·rw[ifNN cx]
       refine⟨_,rfl,g1,g2,by omega,?_,fun i hi=>g5 i (by omega)⟩
       dsimp only
       rw[ek,ddN,if_neg,List.append_nil]
       ·exact g4
       ·rw[decide_eq_true_eq]
        rintro (h|h)
        ·omega
        ·exact h (by rw[gx,gy,cx])
      ·rw[ifP cx]
       obtain⟨z,hz,gz⟩:=i5 (l:=cs) (i:=kv) (by omega) (by omega)
       simp only[hz,oB]
       rw[m5 (by omega) (by omega)]
       refine⟨_,rfl,by rw[lS];exact g1,by omega,by omega,?_,fun i hi=> ?_⟩
       ·dsimp only
        rw[ek,ddN,if_pos,gx,show(kv+1).toNat=kv.toNat+1 by omega,List.take_add_one,List.getElem?_set,if_pos rfl,if_pos (by omega),List.take_set_of_le (Nat.le_refl _),g4]
        rw[decide_eq_true_eq]
        exact .inr (by rw[gx,gy];simpa using cx)
       ·dsimp only
        rw[List.getElem?_set,if_neg (by omega)]
        exact g5 i (by omega))
    have ef:forR 1 ((l.length:Int) - j) (w9 l j) (l,j)=some (cs,kv):=r1
    dsimp only at r2 r3 r4 r5 r6
    rw[ef]
    simp only[oB]
    have hcl:(clrL cs (0+kv) ((cs.length:Int) - kv) []).length=cs.length:=by simp[clrL];omega
    rw[show cutV (cs.length:Int) kv (cs.length:Int)=some () by rw[cutV,if_pos (by omega)]]
    simp only[oB,hcl]
    rw[show cutV (cs.length:Int) 0 kv=some () by rw[cutV,if_pos (by omega)]]
    refine⟨_,rfl,?_⟩
    have e1:s8 (clrL cs (0+kv) ((cs.length:Int) - kv) []) 0 kv=cs.take kv.toNat:=by
     simp only[s8,clrL,Int.zero_add,Int.toNat_zero,List.drop_zero]
     rw[List.append_assoc,List.take_append_of_le_length (by simp;omega),List.take_take,Nat.min_self]
    rw[e1,r5]
    congr 1
    omega
   ·rw[ifN c]
    left
    refine⟨(),rfl,fun i h0 h1=> ?_⟩
    by_cases e:(i:Int)=j
    ·have:i=j.toNat:=by omega
     subst this
     rw[ga,gb]
     simpa using c
    ·exact hP i h0 (by omega))
  rcases key with⟨_,h1,h2⟩|⟨o,h1,rfl⟩
  ·have:rngX 1 (l.length:Int) (u3 l) ()=some (.inl ()):=h1
   rw[this]
   simp only[oB]
   rw[ddN_all l.length (Nat.le_refl _) fun i h0 h1=>h2 i h0 (by omega),List.take_length]
  ·have:rngX 1 (l.length:Int) (u3 l) ()=some (.inr (ddN l l.length)):=h1
   rw[this];rfl
theorem an8{l:LL}(hl:l.length≤1000000):∃r,G2 l=some r∧Ord r∧(∀x,x ∈ r↔x ∈ l)∧r.length≤l.length:=by
 unfold G2
 rw[sortLL_ms (by omega)]
 simp only[oB]
 have hlen:(l.mergeSort fun x y=>decide (¬ cmpL y x<0)).length=l.length:=by simp
 rw[compactF_eq (by rw[hlen];exact hl)]
 have hs:(l.mergeSort fun x y=>decide (¬ cmpL y x<0)).Pairwise fun a b=>¬ llt b a:=by
  have:=List.pairwise_mergeSort (le:=fun x y:Li=>decide (¬ cmpL y x<0)) (fun a b c h1 h2=>by
   simp only[decide_eq_true_eq,J2] at h1 h2 ⊢
   intro h
   rcases K5 b a with g|g|g
   ·exact h1 g
   ·subst g;exact h2 h
   ·exact h2 (F1 h g)) (fun a b=>by
   simp only[Bool.or_eq_true,decide_eq_true_eq,J2]
   by_cases h:llt b a
   ·exact .inr fun g=>an0 h g
   ·exact .inl h) l
  exact this.imp fun h=>by simpa[J2] using h
 obtain⟨h1,h2⟩:=ddN_spec hs _ (Nat.le_refl _)
 refine⟨_,rfl,h1,fun x=> ?_,?_⟩
 ·rw[h2,List.take_length];simp
 ·have:=ddN_len (l.mergeSort fun x y=>decide (¬ cmpL y x<0)) (l.mergeSort fun x y=>decide (¬ cmpL y x<0)).length
  rw[hlen] at this
  rw[hlen];exact this
end Ab
end
section
namespace Ab
open Go
theorem forN_congr{S:Type}{b1 b2:Int→S→Option S}:∀(k:Nat) (i:Int) (s:S),(∀j s,i≤j→j<i+k→b1 j s=b2 j s)→forN b1 k i s=forN b2 k i s
 |0,_,_,_=>rfl
 |k+1,i,s,h=>by
  simp only[forN]
  rw[h i s (by omega) (by omega)]
  cases b2 i s with
  |none=>rfl
  |some s'=>exact forN_congr k (i+1) s' fun j s g1 g2=>h j s (by omega) (by omega)
theorem forR_congr{S:Type}{b1 b2:Int→S→Option S}{lo n:Int}{s:S}(h:∀j s,lo≤j→j<n→b1 j s=b2 j s):forR lo n b1 s=forR lo n b2 s:=
 forN_congr _ _ _ fun j s g1 g2=>h j s g1 (by omega)
/-! ### Binary search by a key -/
def bsl{A B:Type}(xv:List A)(target:B)(cmp:A→B→Option Int):(Int×Int)→Option ((Int×Int)⊕Int):=fun(iv4,j5)=>if iv4<j5 then Option.bind (ix xv (w64 (shrW .u64 ((IntKind.u64).wrap (w64 (iv4+j5))) 1))) fun a27=>Option.bind (cmp a27 target) fun a30=>if a30<0 then some (.inl (w64 ((w64 (shrW .u64 ((IntKind.u64).wrap (w64 (iv4+j5))) 1))+1),j5)) else some (.inl (iv4,w64 (shrW .u64 ((IntKind.u64).wrap (w64 (iv4+j5))) 1))) else some (.inr iv4)
noncomputable def bsf{A B:Type}(xv:List A)(target:B)(cmp:A→B→Option Int):Option (Int×Bool):=Option.bind (Loop (bsl xv target cmp) (0,(xv.length:Int))) fun iv6=>Option.bind (if iv6<(xv.length:Int) then Option.bind (ix xv iv6) fun a43=>Option.bind (cmp a43 target) fun a46=>some (decide (a46=0)) else some false) fun t9=>some (iv6,t9)
theorem ai9{A:Type}{key:A→Li}{xs:List A}(h:Ord (xs.map key)){i j:Int}{a b:A}(hi:ix xs i=some a)(hj:ix xs j=some b)(hij:i<j):llt (key a) (key b):=by
 obtain⟨i0,i1,hi⟩:=l9 hi
 obtain⟨j0,j1,hj⟩:=l9 hj
 refine h.get (i:=i) (j:=j) ?_ ?_ hij
 ·rw[ix,if_pos i0,lM,hi];rfl
 ·rw[ix,if_pos j0,lM,hj];rfl
theorem bsf_full{A:Type}{key:A→Li}{xs:List A}{t:Li}{cmp:A→Li→Option Int}(hs:Ord (xs.map key))(hl:xs.length≤500000)(hc:∀a,cmp a t=some (cmpL (key a) t)):
  ∃i,bsf xs t cmp=some (i,dec (∃a ∈ xs,key a=t))∧0≤i∧(∀k a,ix xs k=some a→key a=t→k=i)∧i≤xs.length∧(∀k a,0≤k→k<i→ix xs k=some a→llt (key a) t)∧(∀k a,i≤k→ix xs k=some a→¬ llt (key a) t):=by
 unfold bsf
 obtain⟨i,h1,h2,h3,h4,h5⟩:=E7 (body:=bsl xs t cmp) (fun p=>(0≤p.1∧p.1≤p.2∧p.2≤xs.length)∧(∀k a,0≤k→k<p.1→ix xs k=some a→llt (key a) t)∧(∀k a,p.2≤k→ix xs k=some a→¬ llt (key a) t))
  (fun i=>0≤i∧i≤xs.length∧(∀k a,0≤k→k<i→ix xs k=some a→llt (key a) t)∧(∀k a,i≤k→ix xs k=some a→¬ llt (key a) t)) (fun p=>(p.2 - p.1).toNat) (s:=(0,(xs.length:Int)))
  ⟨⟨by simp,by simp,by simp⟩,fun k a h1 h2=>by simp at h2;omega,fun k a h1 h2=>by have:=(l9 h2).2.1;simp at h1;omega⟩ (fun⟨i,j⟩ ⟨⟨g1,g2,g3⟩,g4,g5⟩=>by
  dsimp only at g1 g2 g3 g4 g5 ⊢
  unfold bsl
  dsimp only
  by_cases c:i<j
  ·rw[if_pos c,half_eq g1 g2 (by omega)]
   obtain⟨a,ha,ga⟩:=i5 (l:=xs) (i:=(i+j) / 2) (by omega) (by omega)
   rw[ha]
   simp only[oB,hc,J2]
   by_cases c2:llt (key a) t
   ·rw[if_pos (J2.2 c2),m5 (by omega) (by omega)]
    refine .inl ⟨_,rfl,⟨⟨by dsimp only;omega,by dsimp only;omega,g3⟩,fun k b k0 k1 hb=> ?_,g5⟩,by dsimp only;omega⟩
    dsimp only at k1
    by_cases e:k=(i+j) / 2
    ·subst e;rw[ha] at hb;cases hb;exact c2
    ·exact F1 (ai9 hs hb ha (by omega)) c2
   ·rw[if_neg (fun h=>c2 (J2.1 h))]
    refine .inl ⟨_,rfl,⟨⟨g1,by dsimp only;omega,by dsimp only;omega⟩,g4,fun k b k0 hb=> ?_⟩,by dsimp only;omega⟩
    dsimp only at k0
    by_cases e:k=(i+j) / 2
    ·subst e;rw[ha] at hb;cases hb;exact c2
    ·exact fun h=>c2 (F1 (ai9 hs ha hb (by omega)) h)
  ·rw[if_neg c]
   have:i=j:=by omega
   subst this
   exact .inr ⟨i,rfl,g1,g3,g4,g5⟩)
 rw[h1]
 simp only[oB]
 have uniq:∀k a,ix xs k=some a→key a=t→k=i:=fun k a hk he=>by
  rcases Int.lt_trichotomy k i with c|c|c
  ·have:=h4 k a (l9 hk).1 c hk;rw[he] at this;exact absurd this (H9 t)
  ·exact c
  ·obtain⟨b,hb,gb⟩:=i5 (l:=xs) (i:=i) h2 (by have:=(l9 hk).2.1;omega)
   have:=ai9 hs hb hk c
   rw[he] at this
   exact absurd this (h5 i b (Int.le_refl _) hb)
 refine⟨i,?_,h2,uniq,h3,h4,h5⟩
 by_cases c:i<xs.length
 ·obtain⟨a,ha,ga⟩:=i5 (l:=xs) (i:=i) (by omega) c
  rw[if_pos c,ha]
  simp only[oB,hc]
  by_cases c2:key a=t
  ·rw[decide_eq_true (cmpL_eq.2 c2),j6 ⟨a,i6 ha,c2⟩]
  ·rw[decide_eq_false (fun h=>c2 (cmpL_eq.1 h)),m8]
   rintro ⟨b,hb,e⟩
   obtain⟨k,k0,k1,hk⟩:=m6 hb
   have:=uniq k b hk e
   subst this
   rw[hk] at ha;cases ha;exact c2 e
 ·rw[if_neg c]
  simp only[oB]
  rw[m8]
  rintro ⟨b,hb,e⟩
  obtain⟨k,k0,k1,hk⟩:=m6 hb
  have:=uniq k b hk e
  omega
theorem bsf_eq{A:Type}{key:A→Li}{xs:List A}{t:Li}{cmp:A→Li→Option Int}(hs:Ord (xs.map key))(hl:xs.length≤500000)(hc:∀a,cmp a t=some (cmpL (key a) t)):
  ∃i,bsf xs t cmp=some (i,dec (∃a ∈ xs,key a=t))∧0≤i∧∀k a,ix xs k=some a→key a=t→k=i:=by
 obtain⟨i,h1,h2,h3,_⟩:=bsf_full hs hl hc
 exact⟨i,h1,h2,h3⟩
theorem al3{xs:LL}{t:Li}(hs:Ord xs)(hl:xs.length≤500000):∃i,m7 xs t slices_Compare_int_int=some (i,dec (t ∈ xs))∧0≤i∧∀k,ix xs k=some t→k=i:=by
 obtain⟨i,h1,h2,h3⟩:=bsf_eq (key:=fun a=>a) (xs:=xs) (t:=t) (cmp:=slices_Compare_int_int) (by simpa using hs) hl (fun a=>ae2 a t)
 refine⟨i,?_,h2,fun k hk=>h3 k t hk rfl⟩
 have:m7 xs t slices_Compare_int_int=bsf xs t slices_Compare_int_int:=rfl
 rw[this,h1]
 simp
/-! ### The order that the specification tells -/
theorem before_eq{a b:Li}(ha:a.length≤1000000):aa3 a b=some (dec (llt a b)):=by
 unfold aa3
 obtain⟨o,h1,h2⟩:=E7 (body:=af9 a b) (fun k=>0≤k∧k≤a.length∧k≤b.length∧a.take k.toNat=b.take k.toNat) (fun o=>(match o with| .inl _=>some (decide ((a.length:Int)<(b.length:Int)))| .inr x=>some x)=some (dec (llt a b))) (fun k=>(a.length - k).toNat) (s:=0) ⟨by omega,by omega,by omega,by simp⟩ (fun k ⟨g0,g1,g2,g3⟩=>by
  have hd:=aq6 (a:=a) (b:=b) k.toNat (by omega) (by omega) g3
  unfold af9
  by_cases c:k<a.length∧k<b.length
  ·rw[if_pos (by simpa using c)]
   obtain⟨x,hx,gx⟩:=i5 (l:=a) g0 c.1
   obtain⟨y,hy,gy⟩:=i5 (l:=b) g0 c.2
   have da:a.drop k.toNat=x::a.drop (k.toNat+1):=by
    obtain⟨hlt,rfl⟩:=lG.1 gx
    exact List.drop_eq_getElem_cons hlt
   have db:b.drop k.toNat=y::b.drop (k.toNat+1):=by
    obtain⟨hlt,rfl⟩:=lG.1 gy
    exact List.drop_eq_getElem_cons hlt
   rw[da,db] at hd
   simp only[hx,hy,oB]
   by_cases e:x=y
   ·subst e
    rw[if_pos rfl,m5 (by omega) (by omega)]
    refine .inl ⟨k+1,rfl,⟨by omega,by omega,by omega,?_⟩,by omega⟩
    rw[show(k+1).toNat=k.toNat+1 by omega,List.take_add_one,List.take_add_one,gx,gy,g3]
   ·rw[if_neg e]
    refine .inr ⟨_,rfl,?_⟩
    dsimp only
    rw[E3]
    refine congrArg some (u6 ?_)
    rw[hd]
    exact⟨fun h=>.inl h,fun h=>h.resolve_right fun g=>e g.1⟩
  ·rw[if_neg (by simpa using c)]
   refine .inr ⟨_,rfl,?_⟩
   dsimp only
   rw[E3]
   refine congrArg some (u6 ?_)
   rw[hd]
   by_cases ca:k<a.length
   ·have db:b.drop k.toNat=[]:=List.drop_of_length_le (by omega)
    rw[db]
    constructor
    ·intro h;omega
    ·intro h;cases h':a.drop k.toNat with
     |nil=>rw[h'] at h;exact h.elim
     |cons z l=>rw[h'] at h;exact h.elim
   ·have da:a.drop k.toNat=[]:=List.drop_of_length_le (by omega)
    rw[da]
    constructor
    ·intro h
     cases h':b.drop k.toNat with
     |nil=>have:=List.drop_eq_nil_iff.1 h';omega
     |cons z l=>trivial
    ·intro h
     cases h':b.drop k.toNat with
     |nil=>rw[h'] at h;exact h.elim
     |cons z l=>
      have:¬ b.length≤k.toNat:=fun g=>by rw[List.drop_of_length_le g] at h';cases h'
      omega)
 rw[h1]
 simp only[oB]
 exact h2
theorem ord_append{l m:LL}(hl:Ord l)(hm:Ord m)(h:∀a ∈ l,∀b ∈ m,llt a b):Ord (l++m):=List.pairwise_append.2 ⟨hl,hm,h⟩
theorem insert_eq{l:LL}(h:Ord l)(hl:l.length≤1000000)(hw:∀x ∈ l,x.length≤1000000)(s:Li):∃r,ag3 l s=some r∧Ord r∧(∀x,x ∈ r↔x=s∨x ∈ l)∧r.length≤l.length+1:=by
 unfold ag3
 obtain⟨k,h1,k0,k1,k2,k3⟩:=E7 (body:=af4 l s) (fun k=>0≤k∧k≤l.length∧∀i a,i<k→ix l i=some a→llt a s) (fun k=>0≤k∧k≤l.length∧(∀i a,i<k→ix l i=some a→llt a s)∧∀a,ix l k=some a→¬ llt a s) (fun k=>(l.length - k).toNat) (s:=0) ⟨by omega,by omega,fun i a hi ha=>by have:=(l9 ha).1;omega⟩ (fun k ⟨g0,g1,g2⟩=>by
  unfold af4
  by_cases c:k<l.length
  ·obtain⟨a,ha,ga⟩:=i5 (l:=l) g0 c
   rw[if_pos c,ha]
   simp only[oB,before_eq (hw a (i6 ha))]
   by_cases c2:llt a s
   ·rw[ifP c2,m5 (by omega) (by omega)]
    refine .inl ⟨_,rfl,⟨by omega,by omega,fun i b hi hb=> ?_⟩,by omega⟩
    by_cases e:i=k
    ·subst e;rw[ha] at hb;cases hb;exact c2
    ·exact g2 i b (by omega) hb
   ·rw[ifN c2]
    exact .inr ⟨k,rfl,g0,g1,g2,fun b hb=>by rw[ha] at hb;cases hb;exact c2⟩
  ·rw[if_neg c]
   exact .inr ⟨k,rfl,g0,g1,g2,fun b hb=>by have:=(l9 hb).2.1;omega⟩)
 rw[h1]
 simp only[oB]
 have step:(Option.bind (if k<(l.length:Int) then Option.bind (ix l k) fun a27=>Option.bind (K7 a27 s) fun a30=>some a30 else some false) fun t9=>if t9=true then some l else Option.bind (subL l 0 k) fun a36=>Option.bind (app 24 ([]:LL) a36) fun a37=>Option.bind (app 24 a37 [s]) fun a40=>Option.bind (subL l k (l.length:Int)) fun a43=>Option.bind (app 24 a40 a43) fun a44=>some a44)=if dec (ix l k=some s)=true then some l else some (l.take k.toNat++[s]++l.drop k.toNat):=by
  have e:(if k<(l.length:Int) then Option.bind (ix l k) fun a27=>Option.bind (K7 a27 s) fun a30=>some a30 else some false)=some (dec (ix l k=some s)):=by
   by_cases c:k<l.length
   ·obtain⟨a,ha,ga⟩:=i5 (l:=l) k0 c
    rw[if_pos c,ha]
    simp only[oB,ints_eq]
    exact congrArg some (u6 (by simp))
   ·rw[if_neg c,m8]
    intro h;have:=(l9 h).2.1;omega
  rw[e]
  simp only[oB]
  by_cases c:ix l k=some s
  ·rw[ifP c,ifP c]
  ·rw[ifN c,ifN c,subL_take k0 (by omega),subL_drop k0 (by omega)]
   simp only[oB]
   rw[app,if_pos (by simp;omega)]
   simp only[oB,List.nil_append]
   rw[app,if_pos (by simp;omega)]
   simp only[oB]
   rw[app,if_pos (by simp;omega)]
   rfl
 rw[step]
 by_cases c:ix l k=some s
 ·rw[ifP c]
  exact⟨l,rfl,h,fun x=>⟨.inr,fun g=>g.elim (fun e=>e ▸ i6 c) id⟩,by omega⟩
 ·rw[ifN c]
  refine⟨_,rfl,?_,fun x=> ?_,by simp;omega⟩
  ·have ht:Ord (l.take k.toNat):=h.sublist (List.take_sublist _ _)
   have hd:Ord (l.drop k.toNat):=h.sublist (List.drop_sublist _ _)
   have b1:∀a ∈ l.take k.toNat,llt a s:=fun a ha=>by
    obtain⟨i,hi,e⟩:=List.mem_take_iff_getElem.1 ha
    exact k2 (i:Int) a (by omega) (by rw[n9,← e];exact List.getElem?_eq_getElem _)
   have b2:∀a ∈ l.drop k.toNat,llt s a:=fun a ha=>by
    obtain⟨i,hi,e⟩:=List.mem_drop_iff_getElem.1 ha
    have hlk:k<l.length:=by omega
    obtain⟨z,hz,gz⟩:=i5 (l:=l) k0 hlk
    have nz:=k3 z hz
    have nz2:llt s z:=by
     rcases K5 z s with g|g|g
     ·exact absurd g nz
     ·exact absurd (g ▸ hz) c
     ·exact g
    by_cases i0:i=0
    ·subst i0
     obtain⟨q1,q2⟩:=lG.1 gz
     have:a=z:=by rw[← e,← q2];simp
     rw[this];exact nz2
    ·refine F1 nz2 (h.get hz (j:=k+i) ?_ (by omega))
     rw[show k+(i:Int)=((k.toNat+i:Nat):Int) by omega,n9,← e]
     exact List.getElem?_eq_getElem _
   refine ord_append (ord_append ht (by simp) fun a ha b hb=> ?_) hd fun a ha b hb=> ?_
   ·simp only[List.mem_singleton] at hb;subst hb;exact b1 a ha
   ·rcases List.mem_append.1 ha with ha|ha
    ·exact F1 (b1 a ha) (b2 b hb)
    ·simp only[List.mem_singleton] at ha;subst ha;exact b2 b hb
  ·rw[List.mem_append,List.mem_append,List.mem_singleton]
   have:=List.take_append_drop k.toNat l
   constructor
   ·rintro ((g|g)|g)
    ·exact .inr (List.mem_of_mem_take g)
    ·exact .inl g
    ·exact .inr (List.mem_of_mem_drop g)
   ·rintro (g|g)
    ·exact .inl (.inr g)
    ·rw[← this] at g
     rcases List.mem_append.1 g with g|g
     ·exact .inl (.inl g)
     ·exact .inr g
end Ab
end
section
namespace Ab
open Go
def V2(x:j9)(n:Int):Prop:=SetN x.add n∧SetN x.del n∧∀a ∈ x.add,a ∉ x.del
def xWt(x:j9):Prop:=1≤x.weight∧x.weight≤6
noncomputable def V3(n:Int)(x:j9):Int:=if dec (V2 x n)=true then if dec (xWt x)=true then 0 else 3 else 5
noncomputable def J7(n:Int):List j9→Int
 |[]=>0
 |x::l=>if V3 n x=0 then J7 n l else V3 n x
theorem xCode_zero{n:Int}{x:j9}:V3 n x=0↔V2 x n∧xWt x:=by
 unfold V3
 by_cases c1:V2 x n
 ·rw[ifP c1]
  by_cases c2:xWt x
  ·rw[ifP c2];exact⟨fun _=>⟨c1,c2⟩,fun _=>rfl⟩
  ·rw[ifN c2];exact⟨fun h=>by omega,fun h=>absurd h.2 c2⟩
 ·rw[ifN c1];exact⟨fun h=>by omega,fun h=>absurd h.1 c1⟩
theorem ao3{n:Int}:∀{l:List j9},J7 n l=0↔∀x ∈ l,V2 x n∧xWt x
 |[]=>by simp[J7]
 |x::l=>by
  rw[J7]
  by_cases c:V3 n x=0
  ·rw[if_pos c,ao3];simp[xCode_zero.1 c]
  ·rw[if_neg c]
   exact⟨fun h=>absurd h c,fun h=>absurd (xCode_zero.2 (h x (by simp))) c⟩
structure OOk(o:f5)(n:Int):Prop where
 pre:SetN o.pre n
 c0:0≤o.cost
 c1:o.cost≤100
 l0:1≤o.outcomes.length
 l1:o.outcomes.length≤4
 xs:∀x ∈ o.outcomes,V2 x n∧xWt x
noncomputable def Y3(o:f5)(n:Int):Int:=if dec (SetN o.pre n)=true then if dec (0≤o.cost∧o.cost≤100)=true then if dec (1≤(o.outcomes.length:Int)∧(o.outcomes.length:Int)≤4)=true then 0 else 9 else 3 else 5
noncomputable def T4(o:f5)(n:Int):Int:=if Y3 o n=0 then J7 n o.outcomes else Y3 o n
theorem ap8{o:f5}{n:Int}:Y3 o n=0↔SetN o.pre n∧(0≤o.cost∧o.cost≤100)∧(1≤(o.outcomes.length:Int)∧(o.outcomes.length:Int)≤4):=by
 unfold Y3
 by_cases c1:SetN o.pre n
 ·rw[ifP c1]
  by_cases c2:0≤o.cost∧o.cost≤100
  ·rw[ifP c2]
   by_cases c3:1≤(o.outcomes.length:Int)∧(o.outcomes.length:Int)≤4
   ·rw[ifP c3];exact⟨fun _=>⟨c1,c2,c3⟩,fun _=>rfl⟩
   ·rw[ifN c3];exact⟨fun h=>by omega,fun h=>absurd h.2.2 c3⟩
  ·rw[ifN c2];exact⟨fun h=>by omega,fun h=>absurd h.2.1 c2⟩
 ·rw[ifN c1];exact⟨fun h=>by omega,fun h=>absurd h.1 c1⟩
theorem oCode_of{o:f5}{n:Int}(h:OOk o n):T4 o n=0:=by
 have:=h.l0;have:=h.l1
 rw[T4,if_pos (ap8.2 ⟨h.pre,⟨h.c0,h.c1⟩,by omega,by omega⟩),ao3]
 exact h.xs
theorem oCode_ok{o:f5}{n:Int}(h:T4 o n=0):OOk o n:=by
 unfold T4 at h
 by_cases c:Y3 o n=0
 ·rw[if_pos c] at h
  obtain⟨g1,g2,g3⟩:=ap8.1 c
  exact⟨g1,g2.1,g2.2,by omega,by omega,ao3.1 h⟩
 ·rw[if_neg c] at h;exact absurd h c
theorem oc1{o:f5}{n:Int}(h0:0≤n)(h1:n≤24){j:Int}{x:j9}(hx:ix o.outcomes j=some x):G1 o n j ()=some (if V3 n x=0 then .inl () else .inr (V3 n x)):=by
 unfold G1
 rw[hx]
 simp only[oB,ar2,w3]
 by_cases g1:SetN x.add n
 ·rw[ifNN g1]
  by_cases g2:SetN x.del n
  ·have:=g2.len
   rw[ifNN g2,meets_eq g2.1 (by omega)]
   simp only[oB]
   by_cases g3:∀a ∈ x.add,a ∉ x.del
   ·have g:V2 x n:=⟨g1,g2,g3⟩
    rw[ifN (fun⟨a,ha,hb⟩=>g3 a ha hb)]
    unfold V3
    rw[ifP g]
    by_cases g4:xWt x
    ·have g5:=g4
     unfold xWt at g5
     rw[ifP g4,if_neg (by simp;omega)];rfl
    ·have g5:=g4
     unfold xWt at g5
     rw[ifN g4,if_pos (by simp;omega)];rfl
   ·have g:¬ V2 x n:=fun h=>g3 h.2.2
    rw[ifP (by
     rw[Classical.not_forall] at g3
     obtain⟨a,ha⟩:=g3
     exact⟨a,Classical.not_imp.1 ha|>.1,Classical.not_not.1 (Classical.not_imp.1 ha).2⟩)]
    unfold V3
    rw[ifN g];rfl
  ·have g:¬ V2 x n:=fun h=>g2 h.2.1
   rw[ifP g2]
   unfold V3
   rw[ifN g];rfl
 ·have g:¬ V2 x n:=fun h=>g1 h.1
  rw[ifP g1]
  unfold V3
  rw[ifN g];rfl
theorem operatorCode_eq{o:f5}{n:Int}(h0:0≤n)(h1:n≤24):J8 o n=some (T4 o n):=by
 unfold J8
 simp only[ar2,oB,w3]
 unfold T4 Y3
 by_cases c1:SetN o.pre n
 ·rw[ifNN c1,ifP c1]
  by_cases c2:0≤o.cost∧o.cost≤100
  ·rw[if_neg (show ¬ ((decide (o.cost<0))||(decide (100<o.cost)))=true by rw[Bool.or_eq_true,decide_eq_true_eq,decide_eq_true_eq];omega),ifP c2]
   by_cases c3:1≤(o.outcomes.length:Int)∧(o.outcomes.length:Int)≤4
   ·rw[if_neg (show ¬ ((decide ((o.outcomes.length:Int)=0))||(decide (4<(o.outcomes.length:Int))))=true by rw[Bool.or_eq_true,decide_eq_true_eq,decide_eq_true_eq];omega),ifP c3,if_pos rfl]
    rcases T6 (body:=G1 o n) (n:=(o.outcomes.length:Int)) (fun j _=>J7 n o.outcomes=J7 n (o.outcomes.drop j.toNat)) (fun c=>c=J7 n o.outcomes) (s:=()) (by omega) (by simp) (fun j _ j0 j1 hP=>by
     obtain⟨x,hx,gx⟩:=i5 (l:=o.outcomes) j0 j1
     have hd:o.outcomes.drop j.toNat=x::o.outcomes.drop (j.toNat+1):=by
      obtain⟨hlt,rfl⟩:=lG.1 gx
      exact List.drop_eq_getElem_cons hlt
     rw[oc1 h0 h1 hx]
     rw[hd,J7] at hP
     by_cases e:V3 n x=0
     ·rw[if_pos e] at hP ⊢
      exact .inl ⟨(),rfl,by rw[hP,show(j+1).toNat=j.toNat+1 by omega]⟩
     ·rw[if_neg e] at hP ⊢
      exact .inr ⟨_,rfl,hP.symm⟩) with⟨_,r1,r2⟩|⟨c,r1,rfl⟩
    ·rw[r1,r2];simp[J7]
    ·rw[r1];rfl
   ·rw[if_pos (show((decide ((o.outcomes.length:Int)=0))||(decide (4<(o.outcomes.length:Int))))=true by rw[Bool.or_eq_true,decide_eq_true_eq,decide_eq_true_eq];omega),ifN c3];rfl
  ·rw[if_pos (show((decide (o.cost<0))||(decide (100<o.cost)))=true by rw[Bool.or_eq_true,decide_eq_true_eq,decide_eq_true_eq];omega),ifN c2];rfl
 ·rw[ifP c1,ifN c1];rfl
theorem of2{t:b7}{o:f5}(h0:0≤t.facts)(h1:t.facts≤24)(hl:o.outcomes.length≤1000000)(c:Int):Loop (D2 t o) (c,0)=some (if c=0 then J7 t.facts o.outcomes else c):=by
 obtain⟨r,r1,r2⟩:=E7 (body:=D2 t o) (fun p=>0≤p.2∧p.2≤o.outcomes.length∧(if c=0 then J7 t.facts o.outcomes else c)=if p.1=0 then J7 t.facts (o.outcomes.drop p.2.toNat) else p.1) (fun r=>r=if c=0 then J7 t.facts o.outcomes else c) (fun p=>(o.outcomes.length - p.2).toNat) (s:=(c,0)) ⟨by simp,by simp,by simp⟩ (fun⟨e,j⟩ ⟨g0,g1,g2⟩=>by
  dsimp only at g0 g1 g2 ⊢
  unfold D2
  dsimp only
  by_cases cj:j<o.outcomes.length∧e=0
  ·rw[if_pos (by simpa using cj)]
   obtain⟨x,hx,gx⟩:=i5 (l:=o.outcomes) g0 cj.1
   have hd:o.outcomes.drop j.toNat=x::o.outcomes.drop (j.toNat+1):=by
    obtain⟨hlt,rfl⟩:=lG.1 gx
    exact List.drop_eq_getElem_cons hlt
   rw[cj.2,if_pos rfl,hd,J7] at g2
   rw[hx]
   simp only[oB,an4 (n:=t.facts) _ (show -9223372036854775808<t.facts by omega) (show t.facts≤9223372036854775807 by omega),disjoint_eq,in_eq,w3,cj.2]
   have hp:(if dec (¬ SetN x.add t.facts)=true then some true else if dec (¬ SetN x.del t.facts)=true then some true else some (dec (¬ ∀a ∈ x.add,a ∉ x.del)))=some (dec (¬ V2 x t.facts)):=by
    unfold V2
    by_cases k1:SetN x.add t.facts
    ·rw[ifNN k1]
     by_cases k2:SetN x.del t.facts
     ·rw[ifNN k2]
      exact congrArg some (u6 ⟨fun h k=>h k.2.2,fun h k=>h ⟨k1,k2,k⟩⟩)
     ·rw[ifP k2,j6 (fun k=>k2 k.2.1)]
    ·rw[ifP k1,j6 (fun k=>k1 k.1)]
   rw[hp]
   simp only[oB]
   rw[m5 (by omega) (by omega)]
   have fin:(if dec (¬ V2 x t.facts)=true then some (5:Int) else if dec (¬ (1≤x.weight∧x.weight≤6))=true then some 3 else some 0)=some (V3 t.facts x):=by
    unfold V3
    by_cases k1:V2 x t.facts
    ·rw[ifNN k1,ifP k1]
     by_cases k2:xWt x
     ·rw[ifNN (p:=1≤x.weight∧x.weight≤6) k2,ifP k2]
     ·rw[ifP (p:=¬ (1≤x.weight∧x.weight≤6)) k2,ifN k2]
    ·rw[ifP k1,ifN k1]
   rw[fin]
   simp only[oB]
   refine .inl ⟨_,rfl,⟨by dsimp only;omega,by dsimp only;omega,?_⟩,by dsimp only;omega⟩
   dsimp only
   rw[g2,show(j+1).toNat=j.toNat+1 by omega]
  ·rw[if_neg (by simpa using cj)]
   refine .inr ⟨e,rfl,?_⟩
   rw[g2]
   by_cases ce:e=0
   ·rw[if_pos ce,List.drop_of_length_le (by omega),J7,ce]
   ·rw[if_neg ce])
 rw[r1,r2]
structure g9(t:b7):Prop where
 n0:0≤t.facts
 n1:t.facts≤24
 init:SetN t.init t.facts
 goal:SetN t.goal t.facts
 ops:t.operators.length≤40
 op:∀o ∈ t.operators,OOk o t.facts
theorem ak7(t:b7):∃f,G3 t=some f∧af8 t=some f∧((f=⟨0,0⟩∧g9 t)∨(f.code ≠ 0∧¬ g9 t)):=by
 unfold G3 af8
 simp only[in_eq,at_eq,oB,w3]
 by_cases c1:0≤t.facts∧t.facts≤24
 ·rw[if_neg (by simp;omega),ifNN c1]
  simp only[ar2,an4 (n:=t.facts) _ (show -9223372036854775808<t.facts by omega) (show t.facts≤9223372036854775807 by omega),oB,w3]
  by_cases c2:SetN t.init t.facts
  ·rw[ifNN c2,ifNN c2]
   by_cases c3:SetN t.goal t.facts
   ·rw[ifNN c3,ifNN c3]
    by_cases c4:40<(t.operators.length:Int)
    ·rw[if_pos c4,if_pos c4]
     exact⟨_,rfl,rfl,.inr ⟨by simp,fun h=>by have:=h.ops;omega⟩⟩
    ·rw[if_neg c4,if_neg c4]
     have hb:∀j:Int,0≤j→j<t.operators.length→∃o,ix t.operators j=some o∧M4 t j ()=some (if T4 o t.facts=0 then .inl () else .inr ⟨T4 o t.facts,j⟩)∧J9 t j ()=some (if T4 o t.facts=0 then .inl () else .inr ⟨T4 o t.facts,j⟩):=fun j h0 h1=>by
      obtain⟨o,ho,_⟩:=i5 (l:=t.operators) h0 h1
      refine⟨o,ho,?_,?_⟩
      ·unfold M4
       rw[ho]
       simp only[oB,operatorCode_eq c1.1 c1.2]
       by_cases e:T4 o t.facts=0
       ·rw[if_pos e,if_pos e]
       ·rw[if_neg e,if_neg e]
      ·unfold J9
       rw[ho]
       simp only[oB,an4 (n:=t.facts) _ (show -9223372036854775808<t.facts by omega) (show t.facts≤9223372036854775807 by omega),in_eq,at_eq,w3]
       have hp:(if dec (¬ SetN o.pre t.facts)=true then some (5:Int) else if dec (¬ (0≤o.cost∧o.cost≤100))=true then some 3 else if dec (¬ (1≤(o.outcomes.length:Int)∧(o.outcomes.length:Int)≤4))=true then some 9 else some 0)=some (Y3 o t.facts):=by
        unfold Y3
        by_cases g1:SetN o.pre t.facts
        ·rw[ifNN g1,ifP g1]
         by_cases g2:0≤o.cost∧o.cost≤100
         ·rw[ifNN g2,ifP g2]
          by_cases g3:1≤(o.outcomes.length:Int)∧(o.outcomes.length:Int)≤4
          ·rw[ifNN g3,ifP g3]
          ·rw[ifP g3,ifN g3]
         ·rw[ifP g2,ifN g2]
        ·rw[ifP g1,ifN g1]
       rw[hp]
       simp only[oB]
       by_cases eh:Y3 o t.facts=0
       ·have:=ap8.1 eh
        rw[of2 c1.1 c1.2 (by omega),if_pos eh]
        simp only[oB,T4,eh,if_true]
        split<;>rfl
       ·have nl:Loop (D2 t o) (Y3 o t.facts,0)=some (Y3 o t.facts):=by
         rw[aj8]
         have:D2 t o (Y3 o t.facts,0)=some (.inr (Y3 o t.facts)):=by
          unfold D2
          dsimp only
          rw[if_neg (by simp[eh])]
         rw[this]
        rw[nl]
        simp only[oB,T4,if_neg eh]
     have heq:rngX 0 (t.operators.length:Int) (M4 t) ()=rngX 0 (t.operators.length:Int) (J9 t) ():=
      (rngX_eq (fun _ _=>True) (by omega) trivial (fun j s h0 h1 _=>by
       obtain⟨o,_,e1,e2⟩:=hb j h0 h1
       exact⟨by rw[e1,e2],by rw[e1];simp,fun _ _=>Y⟩)).1
     rcases x9 (body:=J9 t) (n:=(t.operators.length:Int)) (fun j=>match ix t.operators j with|some o=>if T4 o t.facts=0 then none else some (⟨T4 o t.facts,j⟩:j8)|none=>none) (by omega) (fun j h0 h1 _=>by
      obtain⟨o,e0,_,e2⟩:=hb j h0 h1
      rw[e2,e0]
      dsimp only
      split<;>rfl) with⟨h1,h2⟩|⟨j,f,h0,h1,h2,_,h4⟩
     ·rw[heq,h1]
      refine⟨⟨0,0⟩,rfl,rfl,.inl ⟨rfl,c1.1,c1.2,c2,c3,by omega,fun o ho=> ?_⟩⟩
      obtain⟨j,g0,g1,g2⟩:=m6 ho
      have:=h2 j g0 g1
      rw[g2] at this
      dsimp only at this
      split at this
      ·rename_i e;exact oCode_ok e
      ·cases this
     ·rw[heq,h4]
      obtain⟨o,e0,_,_⟩:=hb j h0 h1
      rw[e0] at h2
      dsimp only at h2
      split at h2
      ·cases h2
      ·rename_i e
       cases h2
       exact⟨_,rfl,rfl,.inr ⟨e,fun h=>e (oCode_of (h.op o (i6 e0)))⟩⟩
   ·rw[ifP c3,ifP c3]
    exact⟨_,rfl,rfl,.inr ⟨by simp,fun h=>c3 h.goal⟩⟩
  ·rw[ifP c2,ifP c2]
   exact⟨_,rfl,rfl,.inr ⟨by simp,fun h=>c2 h.init⟩⟩
 ·rw[if_pos (by simp;omega),if_pos (j6 c1)]
  exact⟨_,rfl,rfl,.inr ⟨by simp,fun h=>c1 ⟨h.n0,h.n1⟩⟩⟩
end Ab
end
section
namespace Ab
open Go
def noOO:f5:=⟨[],[],0⟩
def ooAt(t:b7)(op:Int):f5:=(t.operators[op.toNat]?).getD noOO
theorem ix_oo{t:b7}{op:Int}(h0:0≤op)(h1:op<t.operators.length):ix t.operators op=some (ooAt t op):=by
 obtain⟨a,h2,h3⟩:=i5 h0 h1
 rw[h2,ooAt,h3];rfl
def oCan(t:b7)(s:Li)(op:Int):Prop:=∀x ∈ (ooAt t op).pre,x ∈ s
noncomputable def efc(n:Int)(s:Li)(x:j9):Li:=Q8 (fun p=>p ∈ x.add∨p ∈ s∧p ∉ x.del) n
theorem ab4(n:Int)(s:Li)(x:j9):SetN (efc n s x) n:=setN_setOf _ _
theorem g9.at{t:b7}(h:g9 t){op:Int}(h0:0≤op)(h1:op<t.operators.length):OOk (ooAt t op) t.facts:=h.op _ (i6 (ix_oo h0 h1))
theorem ak0{t:b7}(ht:g9 t){op:Int}(h0:0≤op)(h1:op<t.operators.length){s:Li}(hs:SetN s t.facts):T7 t s op=some (dec (oCan t s op)):=by
 have:=ht.n1;have:=hs.len
 unfold T7
 rw[ix_oo h0 h1]
 simp only[oB]
 rw[F7 hs.1 (ht.at h0 h1).pre.1 (by omega)]
 rfl
theorem oApplies_eq{t:b7}{op:Int}(h0:0≤op)(h1:op<t.operators.length)(s:Li):ae6 t s op=some (dec (oCan t s op)):=by
 unfold ae6
 rw[ix_oo h0 h1]
 simp only[oB,subset_eq]
 rfl
theorem effect_eq{t:b7}(ht:g9 t)(s:Li)(x:j9):ag2 t s x=some (efc t.facts s x):=by
 have:=ht.n1
 unfold ag2
 rw[if_pos (by omega)]
 rw[forR_setOf (b:=8) (fun p=>p ∈ x.add∨p ∈ s∧p ∉ x.del) ht.n0 (by omega) (fun j c g0 g1=>by
  unfold ap2
  simp only[oB,has_eq,w3]
  have e:(if dec (j ∈ x.add)=true then some true else if dec (j ∈ s)=true then some (dec (j ∉ x.del)) else some false)=some (dec (j ∈ x.add∨j ∈ s∧j ∉ x.del)):=by
   by_cases c1:j ∈ x.add
   ·rw[if_pos (j6 c1),j6 (.inl c1)]
   ·rw[if_neg (fun h=>c1 (k7.1 h))]
    by_cases c2:j ∈ s
    ·rw[if_pos (j6 c2)]
     exact congrArg some (u6 ⟨fun h=>.inr ⟨c2,h⟩,fun h=>(h.resolve_left c1).2⟩)
    ·rw[if_neg (fun h=>c2 (k7.1 h)),m8 (fun h=>c2 (h.resolve_left c1).1)]
  rw[e]
  simp only[oB]
  refine⟨fun hq=> ?_,fun hq=> ?_⟩
  ·rw[if_pos (j6 hq)]
   cases app 8 c [j]<;>rfl
  ·rw[if_neg (fun h=>hq (k7.1 h))];rfl)]
 rfl
theorem oUpdate_eq{n:Int}(hn:n≤24){s:Li}(hs:SetN s n){x:j9}(hx:V2 x n):J6 s x.add x.del=some (efc n s x):=by
 have:=hx.2.1.len
 rw[update_eq (n:=n) (by omega) hx.2.1.1 (by omega) hs hx.1]
 exact congrArg some (setOf_congr fun _ _ _=>Or.comm)
/-! ### Policies -/
theorem ord_of_adj:∀{l:LL},(∀(k:Nat) a b,l[k]? =some a→l[k+1]? =some b→llt a b)→Ord l
 |[],_=>.nil
 |[_],_=>by simp
 |a::b::l,h=>by
  have ih:Ord (b::l):=ord_of_adj fun k x y h1 h2=>h (k+1) x y (by simpa using h1) (by simpa using h2)
  have hab:llt a b:=h 0 a b rfl rfl
  refine List.pairwise_cons.2 ⟨fun c hc=> ?_,ih⟩
  rcases List.mem_cons.1 hc with rfl|hc
  ·exact hab
  ·exact F1 hab ((List.pairwise_cons.1 ih).1 c hc)
structure J4(t:b7)(p:List d9):Prop where
 len:p.length≤200
 ord:Ord (p.map d9.state)
 set:∀c ∈ p,SetN c.state t.facts
 op:∀c ∈ p,0≤c.operator∧c.operator<t.operators.length
 can:∀c ∈ p,oCan t c.state c.operator
def pSet(t:b7)(p:List d9)(j:Int)(c:d9):Prop:=SetN c.state t.facts∧∀b,0<j→ix p (j - 1)=some b→llt b.state c.state
noncomputable def M8(t:b7)(p:List d9)(j:Int)(c:d9):Int:=if dec (pSet t p j c)=true then if dec (0≤c.operator∧c.operator<t.operators.length)=true then if dec (oCan t c.state c.operator)=true then 0 else 11 else 3 else 5
theorem pCode_zero{t:b7}{p:List d9}{j:Int}{c:d9}:M8 t p j c=0→pSet t p j c∧(0≤c.operator∧c.operator<t.operators.length)∧oCan t c.state c.operator:=by
 unfold M8
 by_cases c1:pSet t p j c
 ·rw[ifP c1]
  by_cases c2:0≤c.operator∧c.operator<t.operators.length
  ·rw[ifP c2]
   by_cases c3:oCan t c.state c.operator
   ·rw[ifP c3];exact fun _=>⟨c1,c2,c3⟩
   ·rw[ifN c3];exact fun h=>by omega
  ·rw[ifN c2];exact fun h=>by omega
 ·rw[ifN c1];exact fun h=>by omega
theorem pCode_of{t:b7}{p:List d9}(hp:J4 t p){j:Int}{c:d9}(hc:ix p j=some c):M8 t p j c=0:=by
 have hm:=i6 hc
 unfold M8
 rw[ifP ⟨hp.set c hm,fun b _ hb=>ai9 hp.ord hb hc (by omega)⟩,ifP (hp.op c hm),ifP (hp.can c hm)]
theorem pol1{t:b7}(ht:g9 t){p:List d9}{j:Int}{c:d9}(hl:p.length≤200)(hc:ix p j=some c):E0 t p j ()=some (if M8 t p j c=0 then .inl () else .inr ⟨M8 t p j c, -9 - j⟩):=by
 obtain⟨j0,j1,_⟩:=l9 hc
 have hn:=ht.n1
 unfold E0
 rw[hc]
 simp only[oB,ar2,w3]
 have key:(if dec (¬ SetN c.state t.facts)=true then some true else if 0<j then Option.bind (ix p (j - 1)) fun a40=>Option.bind (slices_Compare_int_int a40.state c.state) fun a45=>some (decide (0≤a45)) else some false)=some (dec (¬ pSet t p j c)):=by
  by_cases g1:SetN c.state t.facts
  ·rw[ifNN g1]
   by_cases g2:0<j
   ·rw[if_pos g2]
    obtain⟨b,hb,_⟩:=i5 (l:=p) (i:=j - 1) (by omega) (by omega)
    rw[hb]
    simp only[oB,ae2,E3]
    refine congrArg some (u6 ?_)
    rw[cmpL_ge]
    exact⟨fun h g=>h (g.2 b g2 hb),fun h g=>h ⟨g1,fun b' _ hb'=>by rw[hb] at hb';cases hb';exact g⟩⟩
   ·rw[if_neg g2,m8]
    exact fun h=>h ⟨g1,fun _ g=>absurd g g2⟩
  ·rw[ifP g1,j6 (fun h=>g1 h.1)]
 rw[key]
 simp only[oB]
 rw[m5 (by omega) (by omega)]
 unfold M8
 by_cases g1:pSet t p j c
 ·rw[ifNN g1,ifP g1]
  by_cases g2:0≤c.operator∧c.operator<t.operators.length
  ·rw[if_neg (show ¬ ((decide (c.operator<0))||(decide ((t.operators.length:Int)≤c.operator)))=true by rw[Bool.or_eq_true,decide_eq_true_eq,decide_eq_true_eq];omega),ifP g2,ak0 ht g2.1 g2.2 g1.1]
   simp only[oB,w3]
   by_cases g3:oCan t c.state c.operator
   ·rw[ifNN g3,ifP g3];rfl
   ·rw[ifP g3,ifN g3];rfl
  ·rw[if_pos (show((decide (c.operator<0))||(decide ((t.operators.length:Int)≤c.operator)))=true by rw[Bool.or_eq_true,decide_eq_true_eq,decide_eq_true_eq];omega),ifN g2];rfl
 ·rw[ifP g1,ifN g1];rfl
theorem pol2{t:b7}(ht:g9 t){p:List d9}{j:Int}{c:d9}(hl:p.length≤200)(hw:0<j→∀b,ix p (j - 1)=some b→b.state.length≤1000000)(hc:ix p j=some c):G9 t p j ()=some (if M8 t p j c=0 then .inl () else .inr ⟨M8 t p j c, -9 - j⟩):=by
 obtain⟨j0,j1,_⟩:=l9 hc
 have hn:=ht.n1;have hn0:=ht.n0;have ho:=ht.ops
 unfold G9
 rw[hc]
 simp only[oB,an4 (n:=t.facts) _ (show -9223372036854775808<t.facts by omega) (show t.facts≤9223372036854775807 by omega),in_eq,at_eq,w3]
 have key:(if dec (¬ SetN c.state t.facts)=true then some true else if 0<j then Option.bind (ix p (j - 1)) fun a39=>Option.bind (aa3 a39.state c.state) fun a47=>some (!a47) else some false)=some (dec (¬ pSet t p j c)):=by
  by_cases g1:SetN c.state t.facts
  ·rw[ifNN g1]
   by_cases g2:0<j
   ·rw[if_pos g2]
    obtain⟨b,hb,_⟩:=i5 (l:=p) (i:=j - 1) (by omega) (by omega)
    rw[hb]
    simp only[oB,before_eq (hw g2 b hb),w3]
    refine congrArg some (u6 ?_)
    exact⟨fun h g=>h (g.2 b g2 hb),fun h g=>h ⟨g1,fun b' _ hb'=>by rw[hb] at hb';cases hb';exact g⟩⟩
   ·rw[if_neg g2,m8]
    exact fun h=>h ⟨g1,fun _ g=>absurd g g2⟩
  ·rw[ifP g1,j6 (fun h=>g1 h.1)]
 rw[key]
 simp only[oB]
 rw[m5 (n:= -9 - j) (by omega) (by omega),m5 (n:=(t.operators.length:Int) - 1) (by omega) (by omega)]
 unfold M8
 by_cases g1:pSet t p j c
 ·rw[ifNN g1,ifP g1]
  by_cases g2:0≤c.operator∧c.operator<t.operators.length
  ·rw[ifN (show ¬ ¬ (0≤c.operator∧c.operator≤(t.operators.length:Int) - 1) by omega),ifP g2,oApplies_eq g2.1 g2.2]
   simp only[oB,w3]
   by_cases g3:oCan t c.state c.operator
   ·rw[ifNN g3,ifP g3];rfl
   ·rw[ifP g3,ifN g3];rfl
  ·rw[ifP (show ¬ (0≤c.operator∧c.operator≤(t.operators.length:Int) - 1) by omega),ifN g2];rfl
 ·rw[ifP g1,ifN g1];rfl
theorem policy_eq(t:b7)(p:List d9):∃f,D8 t p=some f∧al8 t p=some f∧((f=⟨0,0⟩∧g9 t∧J4 t p)∨(f.code ≠ 0∧¬ (g9 t∧J4 t p))):=by
 obtain⟨f,h1,h2,h3⟩:=ak7 t
 unfold D8 al8
 rw[h1,h2]
 simp only[oB]
 rcases h3 with⟨rfl,ht⟩|⟨hc,hnt⟩
 ·rw[if_neg (by simp),if_pos rfl]
  by_cases c1:200<(p.length:Int)
  ·rw[if_pos c1,if_pos c1,at_eq]
   exact⟨_,rfl,rfl,.inr ⟨by simp,fun h=>by have:=h.2.len;omega⟩⟩
  ·rw[if_neg c1,if_neg c1]
   have hn:=ht.n1
   have hset:∀j:Int,(∀i,0≤i→i<j→(match ix p i with|some c=>if M8 t p i c=0 then none else some (⟨M8 t p i c, -9 - i⟩:j8)|none=>none)=none)→0<j→∀b,ix p (j - 1)=some b→b.state.length≤1000000:=fun j hj j0 b hb=>by
    have:=hj (j - 1) (by omega) (by omega)
    rw[hb] at this
    dsimp only at this
    split at this
    ·rename_i e
     have:=(pCode_zero e).1.1.len
     omega
    ·cases this
   rcases x9 (body:=E0 t p) (n:=(p.length:Int)) (fun j=>match ix p j with|some c=>if M8 t p j c=0 then none else some (⟨M8 t p j c, -9 - j⟩:j8)|none=>none) (by omega) (fun j h0 h1 _=>by
    obtain⟨c,e0,_⟩:=i5 (l:=p) h0 h1
    rw[pol1 ht (by omega) e0,e0]
    dsimp only
    split<;>rfl) with⟨a1,a2⟩|⟨j,f,a0,a1,a2,a3,a4⟩
   ·rcases x9 (body:=G9 t p) (n:=(p.length:Int)) (fun j=>match ix p j with|some c=>if M8 t p j c=0 then none else some (⟨M8 t p j c, -9 - j⟩:j8)|none=>none) (by omega) (fun j h0 h1 hj=>by
     obtain⟨c,e0,_⟩:=i5 (l:=p) h0 h1
     rw[pol2 ht (by omega) (hset j hj) e0,e0]
     dsimp only
     split<;>rfl) with⟨b1,b2⟩|⟨j',f',b0,b1,b2,b3,b4⟩
    ·rw[a1,b1]
     have all:∀j c,ix p j=some c→pSet t p j c∧(0≤c.operator∧c.operator<t.operators.length)∧oCan t c.state c.operator:=fun j c hc=>by
      have:=a2 j (l9 hc).1 (l9 hc).2.1
      rw[hc] at this
      dsimp only at this
      split at this
      ·rename_i e;exact pCode_zero e
      ·cases this
     have all':∀c ∈ p,SetN c.state t.facts∧(0≤c.operator∧c.operator<t.operators.length)∧oCan t c.state c.operator:=fun c hc=>by
      obtain⟨j,_,_,hj⟩:=m6 hc
      obtain⟨g1,g2,g3⟩:=all j c hj
      exact⟨g1.1,g2,g3⟩
     refine⟨_,rfl,rfl,.inl ⟨rfl,ht,by omega,ord_of_adj fun k a b ha hb=> ?_,fun c hc=>(all' c hc).1,fun c hc=>(all' c hc).2.1,fun c hc=>(all' c hc).2.2⟩⟩
     rw[lM] at ha hb
     cases ha':p[k]? with
     |none=>rw[ha'] at ha;cases ha
     |some a'=>
      cases hb':p[k+1]? with
      |none=>rw[hb'] at hb;cases hb
      |some b'=>
       rw[ha'] at ha;rw[hb'] at hb;cases ha;cases hb
       refine(all ((k+1:Nat):Int) b' (by rw[n9,hb'])).1.2 a' (by omega) ?_
       rw[show((k+1:Nat):Int) - 1=(k:Nat) by omega,n9,ha']
    ·rw[a2 j' b0 b1] at b2;cases b2
   ·rcases x9 (body:=G9 t p) (n:=(p.length:Int)) (fun j=>match ix p j with|some c=>if M8 t p j c=0 then none else some (⟨M8 t p j c, -9 - j⟩:j8)|none=>none) (by omega) (fun j h0 h1 hj=>by
     obtain⟨c,e0,_⟩:=i5 (l:=p) h0 h1
     rw[pol2 ht (by omega) (hset j hj) e0,e0]
     dsimp only
     split<;>rfl) with⟨b1,b2⟩|⟨j',f',b0,b1,b2,b3,b4⟩
    ·rw[b2 j a0 a1] at a2;cases a2
    ·have ej:j=j':=by
      rcases Int.lt_trichotomy j j' with h|h|h
      ·rw[b3 j a0 h] at a2;cases a2
      ·exact h
      ·rw[a3 j' b0 h] at b2;cases b2
     subst ej
     rw[a2] at b2
     cases b2
     rw[a4,b4]
     refine⟨_,rfl,rfl,.inr ?_⟩
     obtain⟨c,e0,_⟩:=i5 (l:=p) a0 a1
     rw[e0] at a2
     dsimp only at a2
     split at a2
     ·cases a2
     ·rename_i e;cases a2;exact⟨e,fun h=>e (pCode_of h.2 e0)⟩
 ·rw[if_pos (fault_no hc),if_neg hc]
  exact⟨f,rfl,rfl,.inr ⟨hc,fun h=>hnt h.1⟩⟩
/-! ### What a policy chooses -/
theorem ar0(p:List d9)(s:Li):∃r,ag0 p s=some r∧((r= -1∧∀c ∈ p,c.state ≠ s)∨∃c,c ∈ p∧c.state=s∧r=c.operator):=by
 unfold ag0
 rcases x9 (body:=af5 p s) (n:=(p.length:Int)) (fun j=>match ix p j with|some c=>if dec (c.state=s)=true then some c.operator else none|none=>none) (by omega) (fun j h0 h1 _=>by
  obtain⟨x,hx,_⟩:=i5 (l:=p) h0 h1
  unfold af5
  simp only[hx,oB,ints_eq]
  by_cases e:x.state=s
  ·rw[ifP e,ifP e]
  ·rw[ifN e,ifN e]) with⟨h1,h2⟩|⟨j,o,h0,h1,h2,h3,h4⟩
 ·rw[h1]
  refine⟨-1,rfl,.inl ⟨rfl,fun c hc he=> ?_⟩⟩
  obtain⟨i,i0,i1,hi⟩:=m6 hc
  have:=h2 i i0 i1
  rw[hi] at this
  dsimp only at this
  rw[ifP he] at this
  cases this
 ·rw[h4]
  obtain⟨c,hc,_⟩:=i5 (l:=p) h0 h1
  rw[hc] at h2
  dsimp only at h2
  split at h2
  ·rename_i e
   cases h2
   exact⟨_,rfl,.inr ⟨c,i6 hc,k7.1 e,rfl⟩⟩
  ·cases h2
theorem chosen_eq{t:b7}{p:List d9}(hp:J4 t p)(s:Li):∃r,C6 p s=some r∧ag0 p s=some r∧(r= -1∨(0≤r∧r<t.operators.length∧oCan t s r)):=by
 obtain⟨r,h1,h2⟩:=ar0 p s
 refine⟨r,?_,h1,?_⟩
 ·unfold C6
  obtain⟨i,g1,g2,g3⟩:=bsf_eq (key:=d9.state) (xs:=p) (t:=s) (cmp:=open_Chosen_1) hp.ord (by have:=hp.len;omega) (fun a=>by unfold open_Chosen_1;rw[ae2];rfl)
  have:j3 p s open_Chosen_1=bsf p s open_Chosen_1:=rfl
  rw[this,g1]
  simp only[oB,w3]
  rcases h2 with⟨rfl,h⟩|⟨c,hc,he,rfl⟩
  ·rw[ifP]
   rintro ⟨a,ha,e⟩;exact h a ha e
  ·rw[ifNN ⟨c,hc,he⟩]
   obtain⟨k,_,_,hk⟩:=m6 hc
   have:=g3 k c hk he
   subst this
   rw[hk];rfl
 ·rcases h2 with⟨rfl,h⟩|⟨c,hc,he,rfl⟩
  ·exact .inl rfl
  ·have:=hp.op c hc
   exact .inr ⟨this.1,this.2,he ▸ hp.can c hc⟩
end Ab
end
section
namespace Ab
open Go
theorem ix_map{α β:Type}{f:α→β}{l:List α}{i:Int}:ix (l.map f) i=(ix l i).map f:=by
 simp only[ix]
 split
 ·rw[lM]
 ·rfl
theorem Ord.one{l m:LL}(hl:Ord l)(hm:Ord m){p:Li→Prop}(h1:∀y,y ∈ l↔p y)(h2:∀y,y ∈ m↔p y):l=m:=Ord.ext hl hm fun y=>(h1 y).trans (h2 y).symm
theorem cloneLL_eq{s:LL}(h:s.length≤1000000):y5 s=some s:=by
 rw[y5,app,if_pos (by simp;omega)];rfl
theorem results1{t:b7}{o:f5}(ho:OOk o t.facts)(hn:t.facts≤24){s:Li}(hs:SetN s t.facts):forR 0 (o.outcomes.length:Int) (P6 s o) []=some (o.outcomes.map (efc t.facts s)):=by
 have hl:=ho.l1
 obtain⟨c,h1,h2⟩:=r8 (body:=P6 s o) (n:=(o.outcomes.length:Int)) (s:=[]) (fun j c=>c=(o.outcomes.take j.toNat).map (efc t.facts s)) (by omega) (by simp) (fun j c j0 j1 hP=>by
  obtain⟨x,hx,gx⟩:=i5 (l:=o.outcomes) j0 j1
  unfold P6
  rw[hx]
  simp only[oB]
  rw[oUpdate_eq hn hs (ho.xs x (i6 hx)).1]
  simp only[oB]
  have hlen:c.length≤4:=by rw[hP,List.length_map,List.length_take];omega
  rw[app,if_pos (by simp;omega)]
  refine⟨_,rfl,?_⟩
  rw[show(j+1).toNat=j.toNat+1 by omega,List.take_add_one,gx,hP,List.map_append];rfl)
 rw[h1,h2]
 simp
theorem I0{t:b7}(ht:g9 t){op:Int}(h0:0≤op)(h1:op<t.operators.length){s:Li}(hs:SetN s t.facts):∃st w,q6 t s op=some (st,w)∧Ord st∧(∀y,y ∈ st↔∃x ∈ (ooAt t op).outcomes,efc t.facts s x=y)∧st.length≤4∧w.length=st.length∧forR 0 ((ooAt t op).outcomes.length:Int) (D5 ((ooAt t op).outcomes.map (efc t.facts s)) st (ooAt t op)) (List.replicate st.length 0)=some w:=by
 have ho:=ht.at h0 h1
 have hl:=ho.l1
 unfold q6
 rw[ix_oo h0 h1]
 simp only[oB]
 rw[results1 ho ht.n1 hs]
 simp only[oB]
 rw[cloneLL_eq (by simp;omega)]
 simp only[oB]
 obtain⟨st,n1,n2,n3,n4⟩:=an8 (l:=(ooAt t op).outcomes.map (efc t.facts s)) (by simp;omega)
 have n4':st.length≤4:=by rw[List.length_map] at n4;omega
 have hm:mkL 8 (st.length:Int) (0:Int)=some (List.replicate st.length 0):=by
  rw[mkL,if_pos (by omega)];simp
 obtain⟨w,w1,w2⟩:=r8 (body:=D5 ((ooAt t op).outcomes.map (efc t.facts s)) st (ooAt t op)) (n:=((ooAt t op).outcomes.length:Int)) (s:=List.replicate st.length 0) (fun j c=>c.length=st.length) (by omega) (by simp) (fun j c j0 j1 hP=>by
  obtain⟨x,hx,gx⟩:=i5 (l:=(ooAt t op).outcomes) j0 j1
  have hmem:efc t.facts s x ∈ st:=(n3 _).2 (List.mem_map.2 ⟨x,i6 hx,rfl⟩)
  obtain⟨i,e1,e2,e3⟩:=al3 (t:=efc t.facts s x) n2 (by omega)
  obtain⟨k,k0,k1,hk⟩:=m6 hmem
  have:=e3 k hk
  subst this
  obtain⟨z,hz,gz⟩:=i5 (l:=c) (i:=k) k0 (by omega)
  unfold D5
  rw[hx,ix_map,hx]
  simp only[oB,Option.map_some,e1,hz]
  exact⟨_,rfl,by rw[lS];exact hP⟩)
 rw[n1]
 simp only[oB,hm,w1]
 exact⟨st,w,rfl,n2,fun y=>by rw[n3,List.mem_map],n4',w2,w1⟩
/-! ### The coin -/
end Ab
end
section
namespace Ab
open Go
noncomputable def chO(p:List d9)(s:Li):Int:=(ag0 p s).getD (-1)
theorem X5{t:b7}{p:List d9}(hp:J4 t p)(s:Li):C6 p s=some (chO p s)∧(chO p s= -1∨(0≤chO p s∧chO p s<t.operators.length∧oCan t s (chO p s))):=by
 obtain⟨r,h1,h2,h3⟩:=chosen_eq hp s
 have:chO p s=r:=by rw[chO,h2];rfl
 rw[this]
 exact⟨h1,h3⟩
theorem ifOr{a b:Prop}:(if dec a=true then some true else some (dec b))=some (dec (a∨b)):=by
 by_cases h:a
 ·rw[ifP h,j6 (.inl h)]
 ·rw[ifN h];exact congrArg some (u6 ⟨.inr,fun g=>g.resolve_left h⟩)
end Ab
end
section
namespace Ab
open Go
def dzO(o:f5)(x:j9):T1:=⟨o.pre,x.add,x.del,o.cost⟩
structure Dz(t:b7)(a k:Int)(c:List (Int×Int))(d:List T1):Prop where
 len:c.length=d.length
 most:(c.length:Int)≤4 * a+k
 each:∀i p,ix c i=some p→(0≤p.1∧p.1<t.operators.length)∧∃x ∈ (ooAt t p.1).outcomes,ix d i=some (dzO (ooAt t p.1) x)
 all:∀(b m:Int) (x:j9),0≤b→b<t.operators.length→ix (ooAt t b).outcomes m=some x→(b<a∨b=a∧m<k)→∃i,ix c i=some (b,m)∧ix d i=some (dzO (ooAt t b) x)
end Ab
end
section
namespace Ab
open Go
def dg(x:Int):Li:=if x<10 then [48+x] else [48+x / 10,48+x % 10]
def encS(s:Li):Li:=s.flatMap (fun x=>dg x++[44])++[59]
def encK(l:LL):Li:=l.flatMap encS
def small(s:Li):Prop:=∀x ∈ s,0≤x∧x<100
theorem dg_split{x y:Int}(hx:0≤x∧x<100)(hy:0≤y∧y<100){r r':Li}(h:dg x++44::r=dg y++44::r'):x=y∧r=r':=by
 unfold dg at h
 split at h<;>split at h<;>simp only[List.cons_append,List.nil_append,List.cons.injEq] at h
 ·exact⟨by omega,h.2.2⟩
 ·exfalso;omega
 ·exfalso;omega
 ·exact⟨by omega,h.2.2.2⟩
theorem dg_head{x:Int}(hx:0≤x∧x<100):∃a l,dg x=a::l∧48≤a∧a<58:=by
 unfold dg
 split
 ·exact⟨_,_,rfl,by omega,by omega⟩
 ·exact⟨_,_,rfl,by omega,by omega⟩
theorem ah1(x:Int)(s:Li):encS (x::s)=dg x++44::encS s:=by simp[encS]
theorem encS_inj:∀{s s' r r':Li},small s→small s'→encS s++r=encS s'++r'→s=s'∧r=r'
 |[],[],r,r',_,_,h=>by simp[encS] at h;exact⟨rfl,h⟩
 |[],y::s',r,r',_,h2,h=>by
  obtain⟨a,l,ha,h3,h4⟩:=dg_head (h2 y (by simp))
  rw[ah1,ha] at h
  simp only[encS,List.flatMap_nil,List.nil_append,List.cons_append,List.cons.injEq] at h
  omega
 |x::s,[],r,r',h1,_,h=>by
  obtain⟨a,l,ha,h3,h4⟩:=dg_head (h1 x (by simp))
  rw[ah1,ha] at h
  simp only[encS,List.flatMap_nil,List.nil_append,List.cons_append,List.cons.injEq] at h
  omega
 |x::s,y::s',r,r',h1,h2,h=>by
  rw[ah1,ah1,List.append_assoc,List.append_assoc,List.cons_append,List.cons_append] at h
  obtain⟨rfl,g⟩:=dg_split (h1 x (by simp)) (h2 y (by simp)) h
  obtain⟨e1,e2⟩:=encS_inj (s:=s) (s':=s') (fun z hz=>h1 z (List.mem_cons_of_mem _ hz)) (fun z hz=>h2 z (List.mem_cons_of_mem _ hz)) g
  exact⟨by rw[e1],e2⟩
theorem encK_inj:∀{l l':LL},(∀s ∈ l,small s)→(∀s ∈ l',small s)→encK l=encK l'→l=l'
 |[],[],_,_,_=>rfl
 |[],s::l',_,_,h=>by
  have h:=congrArg List.length h
  simp only[encK,encS,List.flatMap_nil,List.flatMap_cons,List.length_append,List.length_nil,List.length_cons] at h
  omega
 |s::l,[],_,_,h=>by
  have h:=congrArg List.length h
  simp only[encK,encS,List.flatMap_nil,List.flatMap_cons,List.length_append,List.length_nil,List.length_cons] at h
  omega
 |s::l,s'::l',h1,h2,h=>by
  have h:encS s++encK l=encS s'++encK l':=h
  obtain⟨e1,e2⟩:=encS_inj (h1 s (List.mem_cons_self ..)) (h2 s' (List.mem_cons_self ..)) h
  have e3:=encK_inj (l:=l) (l':=l') (fun z hz=>h1 z (List.mem_cons_of_mem _ hz)) (fun z hz=>h2 z (List.mem_cons_of_mem _ hz)) e2
  rw[e1,e3]
theorem dg_byte{x:Int}(hx:0≤x∧x<100):∀a ∈ dg x,0≤a∧a<256:=by
 intro a ha
 unfold dg at ha
 split at ha<;>simp at ha<;>omega
theorem encS_byte{s:Li}(h:small s):∀a ∈ encS s,0≤a∧a<256:=by
 intro a ha
 simp only[encS,List.mem_append,List.mem_flatMap,List.mem_singleton] at ha
 rcases ha with⟨x,hx,h1|h1⟩|h1
 ·exact dg_byte (h x hx) a h1
 ·omega
 ·omega
theorem encK_byte{l:LL}(h:∀s ∈ l,small s):∀a ∈ encK l,0≤a∧a<256:=by
 intro a ha
 simp only[encK,List.mem_flatMap] at ha
 obtain⟨s,hs,h1⟩:=ha
 exact encS_byte (h s hs) a h1
theorem strB_inj{l l':Li}(h1:∀a ∈ l,0≤a∧a<256)(h2:∀a ∈ l',0≤a∧a<256)(h:strB l=strB l'):l=l':=by
 have h3:l.map (fun n=>UInt8.ofNat n.toNat)=l'.map (fun n=>UInt8.ofNat n.toNat):=by
  have:=congrArg ByteArray.data h
  simpa[strB] using this
 have back:∀{m:Li},(∀a ∈ m,0≤a∧a<256)→(m.map (fun n=>UInt8.ofNat n.toNat)).map (fun b=>(b.toNat:Int))=m:=by
  intro m hm
  rw[List.map_map]
  conv=>rhs;rw[← List.map_id m]
  apply List.map_congr_left
  intro a ha
  have:=hm a ha
  simp only[Function.comp_apply,id_eq,UInt8.toNat_ofNat']
  omega
 rw[← back h1,← back h2,h3]
def keyK(l:LL):ByteArray:=strB (encK l)
theorem keyK_inj{l l':LL}(h1:∀s ∈ l,small s)(h2:∀s ∈ l',small s)(h:keyK l=keyK l'):l=l':=encK_inj h1 h2 (strB_inj (encK_byte h1) (encK_byte h2) h)
/-! ### Maps -/
theorem an1{K V:Type}[DecidableEq K](k k':K)(v:V):∀m:List (K×V),mget (mset m k v) k'=if k'=k then some v else mget m k'
 |[]=>by
  simp only[mset,mget]
 |p::r=>by
  simp only[mset]
  by_cases h:k=p.1
  ·rw[if_pos h]
   simp only[mget]
   by_cases h2:k'=k
   ·rw[if_pos h2,if_pos h2]
   ·rw[if_neg h2,if_neg h2,if_neg (by rw[← h];exact h2)]
  ·rw[if_neg h]
   simp only[mget]
   rw[an1 k k' v r]
   by_cases h2:k'=p.1
   ·rw[if_pos h2,if_pos h2,if_neg (fun e=>h (e.symm.trans h2))]
   ·rw[if_neg h2,if_neg h2]
end Ab
end
section
namespace Ab
open Go
theorem as1{α β:Type}{l:List α}{body:Int→List β→Option (List β)}(g:α→List β)(N:Nat)(c0:List β)
  (hb:∀j a c,ix l j=some a→c.length+(g a).length≤N→body j c=some (c++g a)) (hN:c0.length+(l.flatMap g).length≤N):
  forR 0 (l.length:Int) body c0=some (c0++l.flatMap g):=by
 obtain⟨s',h1,h2⟩:=r8 (body:=body) (n:=(l.length:Int)) (s:=c0) (fun j c=>c=c0++(l.take j.toNat).flatMap g) (by omega) (by simp) (fun j c h0 h1 hP=>by
  obtain⟨a,g1,g2⟩:=i5 h0 h1
  have e:(j+1).toNat=j.toNat+1:=by omega
  have ht:l.take (j+1).toNat=l.take j.toNat++[a]:=by rw[e,List.take_add_one,g2];rfl
  refine⟨c++g a,hb j a c g1 ?_,?_⟩
  ·have hs:l=l.take j.toNat++[a]++l.drop (j+1).toNat:=by rw[← ht,List.take_append_drop]
   have hl:(l.flatMap g).length=((l.take j.toNat).flatMap g).length+(g a).length+((l.drop (j+1).toNat).flatMap g).length:=by
    conv=>lhs;rw[hs]
    simp[List.flatMap_append];omega
   rw[hP,List.length_append];omega
  ·rw[ht,List.flatMap_append,hP];simp)
 rw[h1,h2]
 simp
theorem small_eq:∀n:Fin 100,(I1 (n:Nat)).map strL=some (dg (n:Nat)):=by decide+kernel
theorem appendInt_eq{x:Int}(hx:0≤x∧x<100){l:Li}(hl:l.length≤1000000):C9 x 10 l=some (l++dg x):=by
 have h:=small_eq ⟨x.toNat,by omega⟩
 rw[show(((⟨x.toNat,by omega⟩:Fin 100):Nat):Int)=x by simp;omega] at h
 obtain⟨b,h1,h2⟩:=oM.1 h
 first
  |unfold C9 B4 A9
  |unfold C9 internal_strconv_AppendInt_w2 internal_strconv_AppendUint_w3
 rw[if_neg (by omega),IntKind.wrap_u64,Int.emod_eq_of_lt (by omega) (by omega)]
 simp only[oB,if_true]
 rw[if_pos hx.2,m5 (by omega) (by omega),h1]
 simp only[oB,h2]
 have:(dg x).length≤2:=by unfold dg;split<;>simp
 rw[app,if_pos (by omega)]
 rfl
theorem dg_len(x:Int):(dg x).length≤2:=by unfold dg;split<;>simp
theorem key_eq{l:LL}(hs:∀s ∈ l,small s)(hN:(encK l).length≤900000):T5 l=some (keyK l):=by
 unfold T5
 rw[as1 encS 900000 [] (fun j s c hj hc=>by
  unfold ai3
  rw[hj]
  simp only[oB]
  have hlen:(encS s).length=(s.flatMap fun x=>dg x++[44]).length+1:=by simp[encS]
  rw[as1 (fun x=>dg x++[44]) 900000 c (fun i x c' hi hc'=>by
   unfold ai0
   rw[hi]
   simp only[List.length_append,List.length_singleton] at hc'
   simp only[oB,appendInt_eq (hs s (i6 hj) x (i6 hi)) (l:=c') (by omega)]
   rw[app,if_pos (by simp;omega)]
   simp) (by omega)]
  simp only[oB]
  rw[app,if_pos (by rw[List.length_append];simp only[List.length_singleton];omega)]
  simp[encS]) (by simpa[encK] using hN)]
 rfl
theorem encS_len:∀s:Li,(encS s).length≤3 * s.length+1
 |[]=>by simp[encS]
 |x::s=>by
  have:=encS_len s
  have:=dg_len x
  rw[ah1]
  simp only[List.length_append,List.length_cons]
  omega
end Ab
end
section
namespace Ab
open Go
/-! ### Loops side by side -/
theorem rngN_sim{S1 S2 O1 O2:Type}{b1:Int→S1→Option (S1⊕O1)}{b2:Int→S2→Option (S2⊕O2)}(R:Int→S1→S2→Prop)(Q:O1→O2→Prop):∀(k:Nat) (i:Int) (s1:S1) (s2:S2),R i s1 s2→
  (∀j s1 s2,i≤j→j<i+k→R j s1 s2→(∃t1 t2,b1 j s1=some (.inl t1)∧b2 j s2=some (.inl t2)∧R (j+1) t1 t2)∨∃o1 o2,b1 j s1=some (.inr o1)∧b2 j s2=some (.inr o2)∧Q o1 o2)→
  (∃t1 t2,rngN b1 k i s1=some (.inl t1)∧rngN b2 k i s2=some (.inl t2)∧R (i+k) t1 t2)∨∃o1 o2,rngN b1 k i s1=some (.inr o1)∧rngN b2 k i s2=some (.inr o2)∧Q o1 o2
 |0,i,s1,s2,h,_=>.inl ⟨s1,s2,rfl,rfl,by simpa using h⟩
 |k+1,i,s1,s2,h,hb=>by
  rcases hb i s1 s2 (Int.le_refl _) (by omega) h with⟨t1,t2,h1,h2,h3⟩|⟨o1,o2,h1,h2,h3⟩
  ·rcases rngN_sim R Q k (i+1) t1 t2 h3 (fun j s1 s2 g1 g2=>hb j s1 s2 (by omega) (by omega)) with⟨u1,u2,g1,g2,g3⟩|⟨o1,o2,g1,g2,g3⟩
   ·exact .inl ⟨u1,u2,by simp only[rngN,h1];exact g1,by simp only[rngN,h2];exact g2,by rw[show i+((k+1:Nat):Int)=i+1+k by omega];exact g3⟩
   ·exact .inr ⟨o1,o2,by simp only[rngN,h1];exact g1,by simp only[rngN,h2];exact g2,g3⟩
  ·exact .inr ⟨o1,o2,by simp only[rngN,h1],by simp only[rngN,h2],h3⟩
theorem rngX_sim{S1 S2 O1 O2:Type}{b1:Int→S1→Option (S1⊕O1)}{b2:Int→S2→Option (S2⊕O2)}{n:Int}(R:Int→S1→S2→Prop)(Q:O1→O2→Prop){s1:S1}{s2:S2}(hn:0≤n)(h0:R 0 s1 s2)
  (hb:∀j s1 s2,0≤j→j<n→R j s1 s2→(∃t1 t2,b1 j s1=some (.inl t1)∧b2 j s2=some (.inl t2)∧R (j+1) t1 t2)∨∃o1 o2,b1 j s1=some (.inr o1)∧b2 j s2=some (.inr o2)∧Q o1 o2):
  (∃t1 t2,rngX 0 n b1 s1=some (.inl t1)∧rngX 0 n b2 s2=some (.inl t2)∧R n t1 t2)∨∃o1 o2,rngX 0 n b1 s1=some (.inr o1)∧rngX 0 n b2 s2=some (.inr o2)∧Q o1 o2:=by
 rcases rngN_sim R Q (n - 0).toNat 0 s1 s2 h0 (fun j s1 s2 g1 g2=>hb j s1 s2 g1 (by omega)) with⟨t1,t2,h1,h2,h3⟩|h
 ·exact .inl ⟨t1,t2,h1,h2,by rwa [show(0:Int)+((n - 0).toNat:Int)=n by omega] at h3⟩
 ·exact .inr h
theorem Loop_sim{S1 S2 O1 O2:Type}{b1:S1→Option (S1⊕O1)}{b2:S2→Option (S2⊕O2)}(R:S1→S2→Prop)(Q:O1→O2→Prop)(μ:S1→Nat)
  (hb:∀s1 s2,R s1 s2→(∃t1 t2,b1 s1=some (.inl t1)∧b2 s2=some (.inl t2)∧R t1 t2∧μ t1<μ s1)∨∃o1 o2,b1 s1=some (.inr o1)∧b2 s2=some (.inr o2)∧Q o1 o2):
  ∀(k:Nat) (s1:S1) (s2:S2),μ s1<k→R s1 s2→∃o1 o2,Loop b1 s1=some o1∧Loop b2 s2=some o2∧Q o1 o2
 |0,_,_,h,_=>by omega
 |k+1,s1,s2,h,hs=>by
  rcases hb s1 s2 hs with⟨t1,t2,h1,h2,h3,h4⟩|⟨o1,o2,h1,h2,h3⟩
  ·obtain⟨o1,o2,g1,g2,g3⟩:=Loop_sim R Q μ hb k t1 t2 (by omega) h3
   exact⟨o1,o2,by rw[aj8,h1];exact g1,by rw[aj8,h2];exact g2,g3⟩
  ·exact⟨o1,o2,by rw[aj8,h1],by rw[aj8,h2],h3⟩
theorem SetN.small{s:Li}{n:Int}(h:SetN s n)(hn:n≤24):small s:=fun x hx=>by have:=h.2 x hx;omega
theorem key1_eq{s:Li}(hs:small s)(h1:s.length≤1000):T5 [s]=some (keyK [s]):=by
 refine key_eq (by simpa using hs) ?_
 have:=encS_len s
 simp only[encK,List.flatMap_cons,List.flatMap_nil,List.length_append,List.append_nil]
 omega
theorem SetN.key_inj{s s':Li}{n:Int}(hn:n≤24)(h:SetN s n)(h':SetN s' n)(e:keyK [s]=keyK [s']):s=s':=by
 have:=keyK_inj (l:=[s]) (l':=[s']) (by simpa using h.small hn) (by simpa using h'.small hn) e
 simpa using this
theorem oAfter_eq{t:b7}(ht:g9 t){op:Int}(h0:0≤op)(h1:op<t.operators.length){s:Li}(hs:SetN s t.facts):aq9 t s op=q6 t s op:=by
 obtain⟨st,w,r1,r2,r3,r4,r5,r6⟩:=I0 ht h0 h1 hs
 have ho:=ht.at h0 h1
 have hl:=ho.l1
 have hn:=ht.n1
 rw[r1]
 unfold aq9
 rw[ix_oo h0 h1]
 simp only[oB]
 obtain⟨l,a1,a2,a3,a4,a5⟩:=r8 (body:=ah8 t s (ooAt t op)) (n:=((ooAt t op).outcomes.length:Int)) (s:=[]) (fun j l=>Ord l∧(l.length:Int)≤j∧(∀y ∈ l,y.length≤24)∧∀y,y ∈ l↔∃k x,k<j∧ix (ooAt t op).outcomes k=some x∧efc t.facts s x=y) (by omega) ⟨.nil,by simp,by simp,fun y=>⟨fun h=>by(cases h),fun⟨k,x,k1,k2,_⟩=>by have:=(l9 k2).1;omega⟩⟩ (fun j l j0 j1 ⟨p1,p2,p3,p4⟩=>by
  obtain⟨x,hx,_⟩:=i5 (l:=(ooAt t op).outcomes) j0 j1
  unfold ah8
  rw[hx]
  simp only[oB,effect_eq ht]
  obtain⟨l',m1,m2,m3,m4⟩:=insert_eq p1 (by omega) (fun y hy=>by have:=p3 y hy;omega) (efc t.facts s x)
  rw[m1]
  have e24:=(ab4 t.facts s x).len
  refine⟨l',rfl,m2,by omega,fun y hy=> ?_,fun y=> ?_⟩
  ·rcases(m3 y).1 hy with rfl|h
   ·omega
   ·exact p3 y h
  ·rw[m3,p4]
   constructor
   ·rintro (rfl|⟨k,x',k1,k2⟩)
    ·exact⟨j,x,by omega,hx,rfl⟩
    ·exact⟨k,x',by omega,k2⟩
   ·rintro ⟨k,x',k1,k2,k3⟩
    by_cases ek:k=j
    ·subst ek
     rw[hx] at k2;cases k2
     exact .inl k3.symm
    ·exact .inr ⟨k,x',by omega,k2,k3⟩)
 have hst:l=st:=Ord.ext a2 r2 fun y=>by
  rw[a5,r3]
  constructor
  ·rintro ⟨k,x,_,k2,k3⟩;exact⟨x,i6 k2,k3⟩
  ·rintro ⟨x,hx,k3⟩
   obtain⟨k,k0,k1,k2⟩:=m6 hx
   exact⟨k,x,k1,k2,k3⟩
 subst hst
 have hm:mkL 8 (l.length:Int) (0:Int)=some (List.replicate l.length 0):=by
  rw[mkL,if_pos (by omega)];simp
 rw[a1]
 simp only[oB,hm]
 have e:forR 0 ((ooAt t op).outcomes.length:Int) (ah7 t s (ooAt t op) l) (List.replicate l.length 0)=some w:=by
  rw[← r6]
  refine forR_congr fun j c j0 j1=> ?_
  obtain⟨x,hx,_⟩:=i5 (l:=(ooAt t op).outcomes) j0 j1
  obtain⟨i,e1,e2,e3⟩:=al3 (t:=efc t.facts s x) r2 (by omega)
  obtain⟨r,g1,g2⟩:=place_eq l (efc t.facts s x)
  unfold ah7 D5
  rw[hx,ix_map,hx]
  simp only[oB,Option.map_some,effect_eq ht,e1,g1]
  rcases g2 with⟨_,h⟩|⟨_,_,h,_⟩
  ·exact absurd ((r3 _).2 ⟨x,i6 hx,rfl⟩) h
  ·rw[e3 r h]
 rw[e]
 rfl
end Ab
end
section
namespace Ab
open Go
def Ext(a b:LL):Prop:=∀k y,ix a k=some y→ix b k=some y
theorem Ext.refl(a:LL):Ext a a:=fun _ _ h=>h
theorem Ext.mem{a b:LL}(h:Ext a b){y:Li}(hy:y ∈ a):y ∈ b:=by
 obtain⟨k,_,_,hk⟩:=m6 hy
 exact i6 (h k y hk)
theorem Ext.snoc{a b:LL}(h:Ext a b)(z:Li):Ext a (b++[z]):=fun k y hk=>by
 obtain⟨i0,i1,g⟩:=l9 (h k y hk)
 rw[ix,if_pos i0,List.getElem?_append_left (by omega),g]
theorem Ext.len{a b:LL}(h:Ext a b):a.length≤b.length:=by
 by_cases c:a.length=0
 ·omega
 ·obtain⟨y,hy,_⟩:=i5 (l:=a) (i:=(a.length:Int) - 1) (by omega) (by omega)
  have:=(l9 (h _ y hy)).2.1
  omega
structure Rc(t:b7)(l:LL)(m:List (ByteArray×Int))(ws:Li):Prop where
 set:∀s ∈ l,SetN s t.facts
 len:l.length≤2000
 map:∀s,SetN s t.facts→(0<Option.getD (mget m (keyK [s])) 0↔s ∈ l)
 wrd:ws=l.map fun s=>(wsN s:Int)
theorem Rc.has{t:b7}{l:LL}{m:List (ByteArray×Int)}{ws:Li}(h:Rc t l m ws){s:Li}(hs:SetN s t.facts):(wsN s:Int) ∈ ws↔s ∈ l:=by
 rw[h.wrd,List.mem_map]
 constructor
 ·rintro ⟨a,ha,e⟩
  have:a=s:=(h.set a ha).word_inj hs (by omega)
  exact this ▸ ha
 ·intro hm;exact⟨s,hm,rfl⟩
theorem Rc.put{t:b7}(hn:t.facts≤24){l:LL}{m:List (ByteArray×Int)}{ws:Li}(h:Rc t l m ws){s:Li}(hs:SetN s t.facts)(hl:l.length<2000):Rc t (l++[s]) (mset m (keyK [s]) 1) (ws++[(wsN s:Int)]):=by
 refine⟨fun y hy=> ?_,by simp;omega,fun y hy=> ?_,by rw[h.wrd];simp⟩
 ·rcases List.mem_append.1 hy with g|g
  ·exact h.set y g
  ·simp only[List.mem_singleton] at g;subst g;exact hs
 ·rw[an1,List.mem_append,List.mem_singleton]
  by_cases e:keyK [y]=keyK [s]
  ·have:=SetN.key_inj hn hy hs e
   subst this
   rw[if_pos rfl]
   simp
  ·rw[if_neg e,h.map y hy]
   constructor
   ·exact .inl
   ·rintro (g|g)
    ·exact g
    ·exact absurd (by rw[g]) e
theorem reach4{t:b7}(ht:g9 t){st:LL}{w:Li}(hst:∀y ∈ st,SetN y t.facts){l0:LL}{m0:List (ByteArray×Int)}{ws0:Li}(h0:Rc t l0 m0 ws0):
  (∃p q,rngX 0 (st.length:Int) (E4 (st,w)) (l0,m0)=some (.inl p)∧rngX 0 (st.length:Int) (Q3 2000 (st,w)) (l0,ws0)=some (.inl q)∧q.1=p.1∧Rc t p.1 p.2 q.2∧Ext l0 p.1∧∀y ∈ st,y ∈ p.1)∨∃o1 o2,rngX 0 (st.length:Int) (E4 (st,w)) (l0,m0)=some (.inr o1)∧rngX 0 (st.length:Int) (Q3 2000 (st,w)) (l0,ws0)=some (.inr o2)∧o1=([],false)∧o2=([],false):=by
 have hn:=ht.n1
 rcases rngX_sim (b1:=E4 (st,w)) (b2:=Q3 2000 (st,w)) (n:=(st.length:Int)) (s1:=(l0,m0)) (s2:=(l0,ws0)) (fun j p q=>q.1=p.1∧Rc t p.1 p.2 q.2∧Ext l0 p.1∧∀k y,k<j→ix st k=some y→y ∈ p.1) (fun o1 o2=>o1=([],false)∧o2=([],false)) (by omega) ⟨rfl,h0,.refl _,fun k y k0 hk=>by have:=(l9 hk).1;omega⟩ (fun j ⟨l,m⟩ ⟨l',ws⟩ j0 j1 ⟨e,g1,g2,g3⟩=>by
  dsimp only at e g1 g2 g3
  subst e
  obtain⟨y,hy,_⟩:=i5 (l:=st) j0 j1
  have hs:=hst y (i6 hy)
  have hyl:=hs.len
  unfold E4 Q3
  dsimp only
  rw[hy]
  simp only[oB]
  rw[key1_eq (hs.small hn) (by omega),word_eq hs hn]
  simp only[oB,has_eq]
  have mono:∀{l2:LL},Ext l' l2→y ∈ l2→∀k z,k<j+1→ix st k=some z→z ∈ l2:=fun h1 h2 k z hk hz=>by
   by_cases ek:k=j
   ·subst ek;rw[hy] at hz;cases hz;exact h2
   ·exact h1.mem (g3 k z (by omega) hz)
  by_cases c:y ∈ l'
  ·rw[if_pos ((g1.map y hs).2 c),ifP ((g1.has hs).2 c)]
   exact .inl ⟨_,_,rfl,rfl,rfl,g1,g2,mono (.refl _) c⟩
  ·rw[if_neg (fun h=>c ((g1.map y hs).1 h)),ifN (fun h=>c ((g1.has hs).1 h))]
   have hlen:=g1.len
   by_cases c2:(l'.length:Int)=2000
   ·rw[if_pos c2,if_pos (by omega)]
    exact .inr ⟨_,_,rfl,rfl,rfl,rfl⟩
   ·rw[if_neg c2,if_neg (by omega),app,if_pos (by simp;omega)]
    simp only[oB]
    rw[app,if_pos (by rw[g1.wrd];simp;omega)]
    exact .inl ⟨_,_,rfl,rfl,rfl,g1.put hn hs (by omega),g2.snoc _,mono ((Ext.refl _).snoc _) (by simp)⟩) with⟨p,q,h1,h2,h3,h4,h5,h6⟩|h
 ·refine .inl ⟨p,q,h1,h2,h3,h4,h5,fun y hy=> ?_⟩
  obtain⟨k,_,k1,hk⟩:=m6 hy
  exact h6 k y k1 hk
 ·exact .inr h
def ClS(t:b7)(l:LL)(s:Li)(n:Int):Prop:=∀op:Int,0≤op→op<n→oCan t s op→∀x ∈ (ooAt t op).outcomes,efc t.facts s x ∈ l
theorem ClS.ext{t:b7}{l l':LL}{s:Li}{n:Int}(h:ClS t l s n)(e:Ext l l'):ClS t l' s n:=fun op h0 h1 hc x hx=>e.mem (h op h0 h1 hc x hx)
theorem reach2{t:b7}(ht:g9 t){l0:LL}{m0:List (ByteArray×Int)}{ws0:Li}(h0:Rc t l0 m0 ws0){at_:Int}{s:Li}(hs:ix l0 at_=some s):
  (∃p q,rngX 0 (t.operators.length:Int) (E5 t at_) (l0,m0)=some (.inl p)∧rngX 0 (t.operators.length:Int) (P1 t 2000 at_) (l0,ws0)=some (.inl q)∧q.1=p.1∧Rc t p.1 p.2 q.2∧Ext l0 p.1∧ClS t p.1 s t.operators.length)∨∃o1 o2,rngX 0 (t.operators.length:Int) (E5 t at_) (l0,m0)=some (.inr o1)∧rngX 0 (t.operators.length:Int) (P1 t 2000 at_) (l0,ws0)=some (.inr o2)∧o1=([],false)∧o2=([],false):=by
 have hset:=h0.set s (i6 hs)
 exact rngX_sim (b1:=E5 t at_) (b2:=P1 t 2000 at_) (n:=(t.operators.length:Int)) (s1:=(l0,m0)) (s2:=(l0,ws0)) (fun j p q=>q.1=p.1∧Rc t p.1 p.2 q.2∧Ext l0 p.1∧ClS t p.1 s j) (fun o1 o2=>o1=([],false)∧o2=([],false)) (by omega) ⟨rfl,h0,.refl _,fun op a b=>by omega⟩ (fun j ⟨l,m⟩ ⟨l',ws⟩ j0 j1 ⟨e,g1,g2,g3⟩=>by
  dsimp only at e g1 g2 g3
  subst e
  unfold E5 P1
  dsimp only
  rw[g2 _ _ hs]
  simp only[oB]
  rw[ak0 ht j0 j1 hset,oApplies_eq j0 j1]
  simp only[oB,w3]
  have step:∀{l2:LL},Ext l' l2→(oCan t s j→∀x ∈ (ooAt t j).outcomes,efc t.facts s x ∈ l2)→ClS t l2 s (j+1):=fun h1 h2 op a b hc x hx=>by
   by_cases eo:op=j
   ·subst eo;exact h2 hc x hx
   ·exact h1.mem (g3 op a (by omega) hc x hx)
  by_cases c:oCan t s j
  ·rw[ifNN c,ifNN c,oAfter_eq ht j0 j1 hset]
   obtain⟨st,w,r1,r2,r3,_⟩:=I0 ht j0 j1 hset
   rw[r1]
   simp only[oB]
   rcases reach4 ht (st:=st) (w:=w) (fun y hy=>by
    obtain⟨x,_,rfl⟩:=(r3 y).1 hy
    exact ab4 _ _ _) g1 with⟨p,q,h1,h2,h3,h4,h5,h6⟩|⟨o1,o2,h1,h2,h3,h4⟩
   ·rw[h1,h2]
    refine .inl ⟨p,q,rfl,rfl,h3,h4,fun k y hk=>h5 k y (g2 k y hk),step h5 fun _ x hx=>h6 _ ((r3 _).2 ⟨x,hx,rfl⟩)⟩
   ·rw[h1,h2]
    exact .inr ⟨o1,o2,rfl,rfl,h3,h4⟩
  ·rw[ifP c,ifP c]
   exact .inl ⟨_,_,rfl,rfl,rfl,g1,g2,step (.refl _) fun h=>absurd h c⟩)
structure Cl(t:b7)(l:LL):Prop where
 len:l.length≤2000
 set:∀s ∈ l,SetN s t.facts
 init:t.init ∈ l
 closed:∀s ∈ l,ClS t l s t.operators.length
theorem reach_full{t:b7}(ht:g9 t):(∃out,C8 t=some (out,true)∧L4 t 2000=some (out,true)∧Cl t out∧Ord out∧∃l,Loop (V6 t 2000) ([t.init],[(wsN t.init:Int)],0)=some (.inl l)∧out.length≤l.length)∨(C8 t=some ([],false)∧L4 t 2000=some ([],false)):=by
 have hn:=ht.n1
 have hi:=ht.init
 have hil:=hi.len
 unfold C8 L4
 rw[ak4 (by omega)]
 simp only[oB]
 rw[key1_eq (hi.small hn) (by omega),word_eq hi hn]
 simp only[oB]
 rw[app,if_pos (by simp)]
 simp only[oB,List.nil_append]
 have r0:Rc t [t.init] (mset ([]:List (ByteArray×Int)) (keyK [t.init]) 1) [(wsN t.init:Int)]:=by
  refine⟨by simpa using hi,by simp,fun s hs=> ?_,rfl⟩
  rw[an1]
  by_cases e:keyK [s]=keyK [t.init]
  ·rw[if_pos e,SetN.key_inj hn hs hi e];simp
  ·rw[if_neg e]
   simp only[mget,List.mem_singleton,Option.getD_none]
   exact⟨fun h=>by omega,fun h=>absurd (by rw[h]) e⟩
 obtain⟨o1,o2,q1,q2,q3⟩:=Loop_sim (b1:=N9 t) (b2:=V6 t 2000) (fun p q=>q.1=p.1∧q.2.2=p.2.2∧Rc t p.1 p.2.1 q.2.1∧0≤p.2.2∧p.2.2≤p.1.length∧t.init ∈ p.1∧∀i s,i<p.2.2→ix p.1 i=some s→ClS t p.1 s t.operators.length) (fun o1 o2=>(∃l,o1=.inl l∧o2=.inl l∧Cl t l)∨(o1=.inr ([],false)∧o2=.inr ([],false))) (fun p=>(2000 - p.2.2).toNat) (fun⟨l,m,a⟩ ⟨l',ws,a'⟩ ⟨e1,e2,g1,g2,g3,g4,g5⟩=>by
  dsimp only at e1 e2 g1 g2 g3 g4 g5
  subst e1 e2
  have hlen:=g1.len
  unfold N9 V6
  dsimp only
  by_cases c:a'<l'.length
  ·rw[if_pos c,if_pos c]
   obtain⟨s,hs,_⟩:=i5 (l:=l') g2 c
   rcases reach2 ht g1 hs with⟨p,q,h1,h2,h3,h4,h5,h6⟩|⟨o1,o2,h1,h2,h3,h4⟩
   ·rw[h1,h2]
    have:=h5.len
    have:=h4.len
    simp only[oB]
    rw[m5 (by omega) (by omega)]
    refine .inl ⟨_,_,rfl,rfl,⟨h3,rfl,h4,by dsimp only;omega,by dsimp only;omega,h5.mem g4,fun i s' hi' hs'=> ?_⟩,by dsimp only;omega⟩
    dsimp only at hi' hs' ⊢
    by_cases ei:i=a'
    ·subst ei
     rw[h5 _ _ hs] at hs';cases hs'
     exact h6
    ·obtain⟨y,hy,_⟩:=i5 (l:=l') (i:=i) (l9 hs').1 (by omega)
     have hy2:=h5 _ _ hy
     rw[hs'] at hy2
     cases hy2
     exact(g5 i s' (by omega) hy).ext h5
   ·rw[h1,h2]
    refine .inr ⟨_,_,rfl,rfl,.inr ⟨by rw[h3],by rw[h4]⟩⟩
  ·rw[if_neg c,if_neg c]
   refine .inr ⟨_,_,rfl,rfl,.inl ⟨l',rfl,rfl,g1.len,g1.set,g4,fun s hs=> ?_⟩⟩
   obtain⟨i,i0,i1,hi⟩:=m6 hs
   exact g5 i s (by omega) hi) _ ([t.init],mset ([]:List (ByteArray×Int)) (keyK [t.init]) 1,0) ([t.init],[(wsN t.init:Int)],0) (Nat.lt_succ_self _) ⟨rfl,rfl,r0,by simp,by simp,by simp,fun i s hi hs=>by have:=(l9 hs).1;dsimp only at hi;omega⟩
 rw[q1,q2]
 rcases q3 with⟨l,rfl,rfl,hc⟩|⟨rfl,rfl⟩
 ·left
  simp only[oB]
  have hcl:=hc.len
  obtain⟨r,n1,n2,n3,n4⟩:=an8 (l:=l) (by omega)
  rw[n1]
  obtain⟨l',a1,a2,a3,a4,a5⟩:=r8 (body:=ae7 l) (n:=(l.length:Int)) (s:=[]) (fun j l'=>Ord l'∧(l'.length:Int)≤j∧(∀y ∈ l',y.length≤24)∧∀y,y ∈ l'↔∃k,k<j∧ix l k=some y) (by omega) ⟨.nil,by simp,by simp,fun y=>⟨fun h=>by(cases h),fun⟨k,k1,k2⟩=>by have:=(l9 k2).1;omega⟩⟩ (fun j l' j0 j1 ⟨p1,p2,p3,p4⟩=>by
   obtain⟨s,hs,_⟩:=i5 (l:=l) j0 j1
   unfold ae7
   rw[hs]
   simp only[oB]
   obtain⟨l2,m1,m2,m3,m4⟩:=insert_eq p1 (by omega) (fun y hy=>by have:=p3 y hy;omega) s
   rw[m1]
   have e24:=(hc.set s (i6 hs)).len
   refine⟨l2,rfl,m2,by omega,fun y hy=> ?_,fun y=> ?_⟩
   ·rcases(m3 y).1 hy with rfl|h
    ·omega
    ·exact p3 y h
   ·rw[m3,p4]
    constructor
    ·rintro (rfl|⟨k,k1,k2⟩)
     ·exact⟨j,by omega,hs⟩
     ·exact⟨k,by omega,k2⟩
    ·rintro ⟨k,k1,k2⟩
     by_cases ek:k=j
     ·subst ek
      rw[hs] at k2;cases k2
      exact .inl rfl
     ·exact .inr ⟨k,by omega,k2⟩)
  rw[a1]
  have:l'=r:=Ord.ext a2 n2 fun y=>by
   rw[a5,n3]
   constructor
   ·rintro ⟨k,_,k2⟩;exact i6 k2
   ·intro hy
    obtain⟨k,_,k1,hk⟩:=m6 hy
    exact⟨k,k1,hk⟩
  subst this
  refine⟨l',rfl,rfl,⟨by omega,fun s hs=>hc.set s ((n3 s).1 hs),(n3 _).2 hc.init,fun s hs op h0 h1 hcan x hx=>(n3 _).2 (hc.closed s ((n3 s).1 hs) op h0 h1 hcan x hx)⟩,a2,l,rfl,n4⟩
 ·right
  exact⟨rfl,rfl⟩
theorem explore_ok{t:b7}(ht:g9 t):I3 t=(C8 t).bind fun r=>if r.2=true then some (r.1,⟨0,0⟩) else some ([],⟨10, -7⟩):=by
 obtain⟨f,h1,_,h3⟩:=ak7 t
 rcases h3 with⟨rfl,_⟩|⟨_,hn⟩
 ·unfold I3
  rw[h1]
  simp only[oB]
  rw[if_neg (by simp)]
  congr 1
  funext r
  cases r.2<;>rfl
 ·exact absurd ht hn
theorem explore_bad{t:b7}{f:j8}(hv:G3 t=some f)(hc:f.code ≠ 0):I3 t=some ([],f):=by
 unfold I3
 rw[hv]
 simp only[oB]
 rw[if_pos (fault_no hc)]
end Ab
end
section
namespace Ab
open Go
theorem S9{α:Type}[DecidableEq α]:∀{c S:List α},c.Nodup→(∀x ∈ c,x ∈ S)→c.length≤S.length
 |[],_,_,_=>Nat.zero_le _
 |a::c,S,h,hs=>by
  obtain⟨h1,h2⟩:=List.nodup_cons.1 h
  have ha:=hs a (by simp)
  have:=S9 (c:=c) (S:=S.erase a) h2 fun x hx=>by
   have hne:x ≠ a:=fun e=>h1 (e ▸ hx)
   exact(List.mem_erase_of_ne hne).2 (hs x (List.mem_cons_of_mem _ hx))
  rw[List.length_erase_of_mem ha] at this
  have:0<S.length:=List.length_pos_of_mem ha
  simp only[List.length_cons]
  omega
section
variable {α:Type}
def Dn(G L:α→Prop)(nx:α→List α):Nat→α→Prop
 |0,s=>G s
 |k+1,s=>G s∨(L s∧∀y ∈ nx s,Dn G L nx k y)
variable {G L:α→Prop}{nx:α→List α}
theorem Dn.goal{k:Nat}{s:α}(h:G s):Dn G L nx k s:=by
 cases k with
 |zero=>exact h
 |succ k=>exact .inl h
theorem Dn.succ:∀{k:Nat} {s:α},Dn G L nx k s→Dn G L nx (k+1) s
 |0,s,h=>.inl h
 |k+1,s,h=>by
  rcases h with h|⟨h1,h2⟩
  ·exact .inl h
  ·exact .inr ⟨h1,fun y hy=>(h2 y hy).succ⟩
theorem Dn.mono{k m:Nat}{s:α}(h:Dn G L nx k s)(hm:k≤m):Dn G L nx m s:=by
 induction hm with
 |refl=>exact h
 |step _ ih=>exact ih.succ
def Ht(G L:α→Prop)(nx:α→List α)(k:Nat)(s:α):Prop:=Dn G L nx k s∧∀j,j<k→¬ Dn G L nx j s
theorem Ht.unique{k m:Nat}{s:α}(h:Ht G L nx k s)(h':Ht G L nx m s):k=m:=by
 rcases Nat.lt_trichotomy k m with c|c|c
 ·exact absurd h.1 (h'.2 k c)
 ·exact c
 ·exact absurd h'.1 (h.2 m c)
theorem Ht.of_dn:∀{k:Nat} {s:α},Dn G L nx k s→∃m,m≤k∧Ht G L nx m s
 |0,s,h=>⟨0,Nat.le_refl _,h,fun j hj=>by omega⟩
 |k+1,s,h=>by
  by_cases c:Dn G L nx k s
  ·obtain⟨m,h1,h2⟩:=Ht.of_dn c
   exact⟨m,by omega,h2⟩
  ·exact⟨k+1,Nat.le_refl _,h,fun j hj hd=>c (hd.mono (by omega))⟩
theorem Ht.zero{s:α}(h:G s):Ht G L nx 0 s:=⟨h,fun j hj=>by omega⟩
theorem Ht.goal{k:Nat}{s:α}(h:Ht G L nx k s)(hg:G s):k=0:=h.unique (.zero hg)
theorem Ht.step{k:Nat}{s:α}(h:Ht G L nx k s)(hg:¬ G s)(hne:∀s,L s→nx s ≠ []):∃m,k=m+1∧L s∧(∀y ∈ nx s,∃j,j≤m∧Ht G L nx j y)∧∃y ∈ nx s,Ht G L nx m y:=by
 cases k with
 |zero=>exact absurd h.1 hg
 |succ m=>
  rcases h.1 with g|⟨h1,h2⟩
  ·exact absurd g hg
  ·refine⟨m,rfl,h1,fun y hy=>Ht.of_dn (h2 y hy),?_⟩
   cases m with
   |zero=>
    obtain⟨y,hy⟩:=List.exists_mem_of_ne_nil _ (hne s h1)
    exact⟨y,hy,h2 y hy,fun j hj=>by omega⟩
   |succ m=>
    have hn:=h.2 (m+1) (by omega)
    have:∃y ∈ nx s,¬ Dn G L nx m y:=Classical.byContradiction fun hc=>hn (.inr ⟨h1,fun y hy=>Classical.byContradiction fun hy2=>hc ⟨y,hy,hy2⟩⟩)
    obtain⟨y,hy,hy2⟩:=this
    exact⟨y,hy,h2 y hy,fun j hj hd=>hy2 (hd.mono (by omega))⟩
end
end Ab
end
section
namespace Ab
open Go
def g7(t:b7)(s:Li):Prop:=∀x ∈ t.goal,x ∈ s
noncomputable def G6(p:List d9)(s:Li):Prop:=0≤chO p s
noncomputable def nxS(t:b7)(p:List d9)(s:Li):LL:=(ooAt t (chO p s)).outcomes.map (efc t.facts s)
inductive Rch(t:b7)(p:List d9):Li→Prop
 |init:Rch t p t.init
 |step {s y:Li}:Rch t p s→¬ g7 t s→G6 p s→y ∈ nxS t p s→Rch t p y
theorem chO_mem{p:List d9}{s:Li}(h:0≤chO p s):∃c ∈ p,c.state=s∧chO p s=c.operator:=by
 obtain⟨r,h1,h2⟩:=ar0 p s
 have e:chO p s=r:=by rw[chO,h1];rfl
 rw[e] at h ⊢
 rcases h2 with⟨rfl,_⟩|⟨c,h3,h4,h5⟩
 ·omega
 ·exact⟨c,h3,h4,h5⟩
theorem live_op{t:b7}{p:List d9}(hp:J4 t p){s:Li}(h:G6 p s):(0≤chO p s∧chO p s<t.operators.length)∧oCan t s (chO p s):=by
 obtain⟨_,e⟩:=X5 hp s
 unfold G6 at h
 rcases e with e|e
 ·omega
 ·exact⟨⟨e.1,e.2.1⟩,e.2.2⟩
theorem Rch.set{t:b7}(ht:g9 t){p:List d9}{s:Li}(h:Rch t p s):SetN s t.facts:=by
 cases h with
 |init=>exact ht.init
 |step _ _ _ hy=>
  obtain⟨x,_,rfl⟩:=List.mem_map.1 hy
  exact ab4 _ _ _
noncomputable def candK(t:b7)(p:List d9):LL:=t.init::p.flatMap fun c=>(ooAt t c.operator).outcomes.map (efc t.facts c.state)
theorem flat_len{α β:Type}{f:α→List β}{n:Nat}:∀{l:List α},(∀a ∈ l,(f a).length≤n)→(l.flatMap f).length≤l.length * n
 |[],_=>by simp
 |a::l,h=>by
  have h1:=h a (by simp)
  have h2:=flat_len (l:=l) fun b hb=>h b (List.mem_cons_of_mem _ hb)
  rw[List.flatMap_cons,List.length_append,List.length_cons,Nat.succ_mul]
  omega
theorem candK_len{t:b7}(ht:g9 t){p:List d9}(hp:J4 t p):(candK t p).length≤801:=by
 have h:=flat_len (f:=fun c:d9=>(ooAt t c.operator).outcomes.map (efc t.facts c.state)) (n:=4) (l:=p) fun c hc=>by
  have:=hp.op c hc
  have:=(ht.at this.1 this.2).l1
  simpa using this
 have:=hp.len
 have h2:p.length * 4≤200 * 4:=Nat.mul_le_mul_right _ this
 unfold candK
 rw[List.length_cons]
 omega
theorem Rch.cand{t:b7}{p:List d9}{s:Li}(h:Rch t p s):s ∈ candK t p:=by
 cases h with
 |init=>exact List.mem_cons_self ..
 |@step s y _ _ hl hy=>
  obtain⟨c,h1,h2,h3⟩:=chO_mem hl
  refine List.mem_cons_of_mem _ (List.mem_flatMap.2 ⟨c,h1,?_⟩)
  unfold nxS at hy
  rw[h3] at hy
  rw[h2]
  exact hy
theorem rch_len{t:b7}(ht:g9 t){p:List d9}(hp:J4 t p){l:LL}(hn:l.Nodup)(h:∀s ∈ l,Rch t p s):l.length≤801:=
 Nat.le_trans (S9 hn fun s hs=>(h s hs).cand) (candK_len ht hp)
theorem Ord.nodup{l:LL}(h:Ord l):l.Nodup:=List.Pairwise.imp (fun {a b:Li} (hab:llt a b) (e:a=b)=>H9 a (by rw[← e] at hab;exact hab)) h
def ClV(t:b7)(p:List d9)(l:LL)(s:Li):Prop:=¬ g7 t s→G6 p s→∀y ∈ nxS t p s,y ∈ l
structure Vis(t:b7)(p:List d9)(l:LL):Prop where
 ord:Ord l
 mem:∀s,s ∈ l↔Rch t p s
theorem vis_of{t:b7}{p:List d9}{l:LL}(ho:Ord l)(hi:t.init ∈ l)(hr:∀s ∈ l,Rch t p s)(hc:∀s ∈ l,ClV t p l s):Vis t p l:=by
 refine⟨ho,fun s=>⟨hr s,fun h=> ?_⟩⟩
 induction h with
 |init=>exact hi
 |step _ hg hl hy ih=>exact hc _ ih hg hl _ hy
theorem containsLL_eq{l:LL}{s:Li}:p8 l (fun y=>L3 y s)=some (dec (s ∈ l)):=by
 unfold p8 s7
 rcases x9 (body:=q8 l fun y=>L3 y s) (n:=(l.length:Int)) (fun j=>if dec (ix l j=some s)=true then some j else none) (by omega) (fun j h0 h1 _=>by
  obtain⟨x,hx,_⟩:=i5 (l:=l) h0 h1
  unfold q8 L3
  rw[hx]
  simp only[oB,equal_eq]
  by_cases e:x=s
  ·rw[ifP e,ifP (by rw[e])]
  ·rw[ifN e,ifN (by simpa using e)]) with⟨h1,h2⟩|⟨j,o,h0,h1,h2,h3,h4⟩
 ·rw[h1]
  simp only[oB]
  rw[m8]
  ·rfl
  ·intro hs
   obtain⟨i,i0,i1,hi⟩:=m6 hs
   have:=h2 i i0 i1
   rw[ifP hi] at this
   cases this
 ·rw[h4]
  split at h2
  ·rename_i e
   cases h2
   simp only[oB]
   rw[j6 (i6 (k7.1 e)),decide_eq_true h0]
  ·cases h2
theorem vis4{t:b7}(ht:g9 t){p:List d9}(hp:J4 t p){s:Li}(hs:Rch t p s)(hg:¬ g7 t s)(hl:G6 p s){st:LL}{w:Li}(hst:∀y,y ∈ st↔y ∈ nxS t p s){l0:LL}(hn:l0.Nodup)(hr:∀s ∈ l0,Rch t p s):
  ∃l,forR 0 (st.length:Int) (O9 (st,w)) l0=some l∧l.Nodup∧(∀s ∈ l,Rch t p s)∧Ext l0 l∧∀y ∈ st,y ∈ l:=by
 obtain⟨l,h1,h2,h3,h4,h5⟩:=r8 (body:=O9 (st,w)) (n:=(st.length:Int)) (s:=l0) (fun j l=>l.Nodup∧(∀s ∈ l,Rch t p s)∧Ext l0 l∧∀k y,k<j→ix st k=some y→y ∈ l) (by omega) ⟨hn,hr,.refl _,fun k y hk h=>by have:=(l9 h).1;omega⟩ (fun j l j0 j1 ⟨a1,a2,a3,a4⟩=>by
  obtain⟨y,hy,_⟩:=i5 (l:=st) j0 j1
  unfold O9
  dsimp only
  rw[hy]
  simp only[oB,containsLL_eq,w3]
  have mono:∀{l2:LL},Ext l l2→y ∈ l2→∀k z,k<j+1→ix st k=some z→z ∈ l2:=fun h1 h2 k z hk hz=>by
   by_cases ek:k=j
   ·subst ek;rw[hy] at hz;cases hz;exact h2
   ·exact h1.mem (a4 k z (by omega) hz)
  have hry:Rch t p y:=.step hs hg hl ((hst y).1 (i6 hy))
  by_cases c:y ∈ l
  ·rw[ifNN c]
   exact⟨l,rfl,a1,a2,a3,mono (.refl _) c⟩
  ·have hlen:=rch_len ht hp a1 a2
   rw[ifP c,app,if_pos (by simp;omega)]
   refine⟨_,rfl,List.nodup_append.2 ⟨a1,by simp,fun a ha b hb=> ?_⟩,fun z hz=> ?_,a3.snoc _,mono ((Ext.refl _).snoc _) (by simp)⟩
   ·simp only[List.mem_singleton] at hb;subst hb;exact fun e=>c (e ▸ ha)
   ·rcases List.mem_append.1 hz with g|g
    ·exact a2 z g
    ·simp only[List.mem_singleton] at g;exact g ▸ hry)
 refine⟨l,h1,h2,h3,h4,fun y hy=> ?_⟩
 obtain⟨k,_,k1,hk⟩:=m6 hy
 exact h5 k y k1 hk
theorem oVisited_eq{t:b7}(ht:g9 t){p:List d9}(hp:J4 t p):∃l,S0 t p=some l∧Vis t p l:=by
 have hn:=ht.n1
 have hil:=ht.init.len
 unfold S0
 rw[ak4 (by omega)]
 simp only[oB]
 obtain⟨l,h1,h2,h3,h4,h5⟩:=E7 (body:=V7 t p) (fun q=>q.1.Nodup∧(∀s ∈ q.1,Rch t p s)∧t.init ∈ q.1∧(0≤q.2∧q.2≤q.1.length)∧∀i s,i<q.2→ix q.1 i=some s→ClV t p q.1 s) (fun l=>l.Nodup∧(∀s ∈ l,Rch t p s)∧t.init ∈ l∧∀s ∈ l,ClV t p l s) (fun q=>(801 - q.2).toNat) (s:=([t.init],0)) ⟨by simp,by simpa using Rch.init,by simp,by simp,fun i s hi h=>by have:=(l9 h).1;dsimp only at hi;omega⟩ (fun⟨l,a⟩ ⟨g1,g2,g3,g4,g5⟩=>by
  dsimp only at g1 g2 g3 g4 g5 ⊢
  have hlen:=rch_len ht hp g1 g2
  unfold V7
  dsimp only
  by_cases c:a<l.length
  ·rw[if_pos c]
   obtain⟨s,hs,_⟩:=i5 (l:=l) g4.1 c
   have hrs:=g2 s (i6 hs)
   have hset:=hrs.set ht
   have hsl:=hset.len
   rw[hs]
   simp only[oB,(X5 hp s).1,F7 hset.1 ht.goal.1 (show s.length≤1000000 by omega)]
   have key:(if chO p s<0 then some true else some (dec (∀x ∈ t.goal,x ∈ s)))=some (dec (chO p s<0∨g7 t s)):=by
    unfold g7
    rw[← ifOr]
    by_cases h:chO p s<0
    ·rw[if_pos h,ifP h]
    ·rw[if_neg h,ifN h]
   rw[key]
   simp only[oB]
   have fin:∀{l2:LL},Ext l l2→ClV t p l2 s→∀i z,i<a+1→ix l2 i=some z→ClV t p l2 z:=fun h1 h2 i z hi hz=>by
    by_cases ei:i=a
    ·subst ei
     rw[h1 _ _ hs] at hz;cases hz;exact h2
    ·obtain⟨y,hy,_⟩:=i5 (l:=l) (i:=i) (l9 hz).1 (by omega)
     have:=h1 _ _ hy
     rw[hz] at this;cases this
     exact fun q1 q2 y hy2=>h1.mem (g5 i z (by omega) hy q1 q2 y hy2)
   by_cases cs:chO p s<0∨g7 t s
   ·rw[ifP cs]
    simp only[oB]
    rw[m5 (by omega) (by omega)]
    refine .inl ⟨_,rfl,⟨g1,g2,g3,by dsimp only;omega,fin (.refl _) fun q1 q2=> ?_⟩,by dsimp only;omega⟩
    rcases cs with c1|c1
    ·unfold G6 at q2;omega
    ·exact absurd c1 q1
   ·rw[ifN cs]
    have hl:G6 p s:=by unfold G6;have:=fun h=>cs (.inl h);omega
    have hg:¬ g7 t s:=fun h=>cs (.inr h)
    have ho:=live_op hp hl
    obtain⟨st,w,r1,_,r3,_⟩:=I0 ht ho.1.1 ho.1.2 hset
    rw[r1]
    simp only[oB]
    obtain⟨l2,e1,e2,e3,e4,e5⟩:=vis4 ht hp hrs hg hl (st:=st) (w:=w) (fun y=>by rw[r3,nxS,List.mem_map]) g1 g2
    rw[e1]
    simp only[oB]
    have:=e4.len
    rw[m5 (by omega) (by omega)]
    exact .inl ⟨_,rfl,⟨e2,e3,e4.mem g3,by dsimp only;omega,fin e4 fun _ _ y hy=>e5 y (by rw[r3];exact List.mem_map.1 hy)⟩,by dsimp only;omega⟩
  ·rw[if_neg c]
   refine .inr ⟨l,rfl,g1,g2,g3,fun s hs=> ?_⟩
   obtain⟨i,i0,i1,hi⟩:=m6 hs
   exact g5 i s (by omega) hi)
 rw[h1]
 simp only[oB]
 have hlen:=rch_len ht hp h2 h3
 obtain⟨r,n1,n2,n3,n4⟩:=an8 (l:=l) (by omega)
 rw[n1]
 exact⟨r,rfl,vis_of n2 ((n3 _).2 h4) (fun s hs=>h3 s ((n3 s).1 hs)) fun s hs q1 q2 y hy=>(n3 y).2 (h5 s ((n3 s).1 hs) q1 q2 y hy)⟩
end Ab
end
section
namespace Ab
open Go
theorem Vis.closed{t:b7}{p:List d9}{l:LL}(h:Vis t p l):∀s ∈ l,¬ g7 t s→G6 p s→∀y ∈ nxS t p s,y ∈ l:=fun s hs hg hl y hy=>(h.mem y).2 (.step ((h.mem s).1 hs) hg hl hy)
theorem Vis.len{t:b7}(ht:g9 t){p:List d9}(hp:J4 t p){l:LL}(h:Vis t p l):l.length≤801:=rch_len ht hp h.ord.nodup fun s hs=>(h.mem s).1 hs
theorem O4{l:LL}(ho:Ord l)(hl:l.length≤500000){s:Li}{i:Int}(hi:ix l i=some s):y4 l s=some i:=by
 unfold y4
 obtain⟨k,h1,_,h3⟩:=al3 (t:=s) ho hl
 rw[h1,h3 i hi];rfl
theorem contains1_eq{l:Li}{s:Int}:D0 l s=some (dec (s ∈ l)):=by
 unfold D0 K0
 rcases x9 (body:=G5 l s) (n:=(l.length:Int)) (fun j=>if dec (ix l j=some s)=true then some j else none) (by omega) (fun j h0 h1 _=>by
  obtain⟨x,hx,_⟩:=i5 (l:=l) h0 h1
  unfold G5
  rw[hx]
  simp only[oB]
  by_cases e:s=x
  ·rw[if_pos e,ifP (by rw[e])]
  ·rw[if_neg e,ifN (by simpa using fun h=>e h.symm)]) with⟨h1,h2⟩|⟨j,o,h0,h1,h2,h3,h4⟩
 ·rw[h1]
  simp only[oB]
  rw[m8]
  ·rfl
  ·intro hs
   obtain⟨i,i0,i1,hi⟩:=m6 hs
   have:=h2 i i0 i1
   rw[ifP hi] at this
   cases this
 ·rw[h4]
  split at h2
  ·rename_i e
   cases h2
   simp only[oB]
   rw[j6 (i6 (k7.1 e)),decide_eq_true h0]
  ·cases h2
end Ab
end
section
namespace Ab
open Go
end Ab
end
section
namespace Ab
open Go
end Ab
end
section
namespace Ab
open Go
end Ab
end
section
namespace Ab
open Go
noncomputable def nxC(t:b7)(ch:Li→Int)(s:Li):LL:=(ooAt t (ch s)).outcomes.map (efc t.facts s)
inductive RchC(t:b7)(ch:Li→Int):Li→Prop
 |init:RchC t ch t.init
 |step {s y:Li} (h:RchC t ch s) (hg:¬ g7 t s) (hy:y ∈ nxC t ch s):RchC t ch y
def ChOk(t:b7)(ch:Li→Int):Prop:=∀s,RchC t ch s→¬ g7 t s→(0≤ch s∧ch s<t.operators.length)∧oCan t s (ch s)
section
variable {t:b7}{ch:Li→Int}
theorem RchC.set(ht:g9 t){s:Li}(h:RchC t ch s):SetN s t.facts:=by
 cases h with
 |init=>exact ht.init
 |step _ _ hy=>obtain⟨x,_,rfl⟩:=List.mem_map.1 hy;exact ab4 _ _ _
structure PolB(t:b7)(ch:Li→Int)(p:List d9):Prop where
 ord:Ord (p.map d9.state)
 mem:∀s,(∃c ∈ p,c.state=s)↔RchC t ch s∧¬ g7 t s
 op:∀c ∈ p,c.operator=ch c.state
theorem PolB.rch{p:List d9}(h:PolB t ch p){c:d9}(hc:c ∈ p):RchC t ch c.state∧¬ g7 t c.state:=(h.mem _).1 ⟨c,hc,rfl⟩
theorem PolB.pol(ht:g9 t)(hk:ChOk t ch){p:List d9}(h:PolB t ch p)(hl:p.length≤200):J4 t p:=
 ⟨hl,h.ord,fun c hc=>(h.rch hc).1.set ht,fun c hc=>by rw[h.op c hc];exact(hk _ (h.rch hc).1 (h.rch hc).2).1,fun c hc=>by rw[h.op c hc];exact(hk _ (h.rch hc).1 (h.rch hc).2).2⟩
theorem chO_ch{p:List d9}(hop:∀c ∈ p,c.operator=ch c.state)(s:Li):(chO p s= -1∧∀c ∈ p,c.state ≠ s)∨((∃c ∈ p,c.state=s)∧chO p s=ch s):=by
 obtain⟨r,h1,h2⟩:=ar0 p s
 have:chO p s=r:=by rw[chO,h1];rfl
 rw[this]
 rcases h2 with⟨rfl,h⟩|⟨c,hc,rfl,rfl⟩
 ·exact .inl ⟨rfl,h⟩
 ·exact .inr ⟨⟨c,hc,rfl⟩,hop c hc⟩
theorem rch_of{p:List d9}(hop:∀c ∈ p,c.operator=ch c.state){s:Li}(h:Rch t p s):RchC t ch s:=by
 induction h with
 |init=>exact .init
 |@step s y _ hg hl hy ih=>
  refine .step ih hg ?_
  rcases chO_ch hop s with⟨e,_⟩|⟨_,e⟩
  ·unfold G6 at hl;omega
  ·unfold nxS at hy;rw[e] at hy;exact hy
theorem PolB.live{p:List d9}(h:PolB t ch p){s:Li}(hs:RchC t ch s)(hg:¬ g7 t s):chO p s=ch s:=by
 rcases chO_ch h.op s with⟨_,e⟩|⟨_,e⟩
 ·obtain⟨c,hc,he⟩:=(h.mem s).2 ⟨hs,hg⟩
  exact absurd he (e c hc)
 ·exact e
/-! ### One choice put in its place -/
theorem mem_takeN{α:Type}{l:List α}{n:Nat}{a:α}(h:a ∈ l.take n):∃k:Int,0≤k∧k<n∧ix l k=some a:=by
 obtain⟨k,hk⟩:=List.getElem?_of_mem h
 rw[List.getElem?_take] at hk
 split at hk
 ·exact⟨k,by omega,by omega,by rw[n9];exact hk⟩
 ·cases hk
theorem mem_dropN{α:Type}{l:List α}{n:Nat}{a:α}(h:a ∈ l.drop n):∃k:Int,(n:Int)≤k∧ix l k=some a:=by
 obtain⟨k,hk⟩:=List.getElem?_of_mem h
 rw[List.getElem?_drop] at hk
 exact⟨(n+k:Nat),by omega,by rw[n9];exact hk⟩
theorem ins_ord{p:List d9}{c:d9}{i:Int}(ho:Ord (p.map d9.state))(h0:0≤i)(hlt:∀k a,0≤k→k<i→ix p k=some a→llt a.state c.state)(hge:∀k a,i≤k→ix p k=some a→¬ llt a.state c.state)(hns:∀a ∈ p,a.state ≠ c.state):
  Ord ((p.take i.toNat++c::p.drop i.toNat).map d9.state):=by
 have a1:∀a ∈ p.take i.toNat,llt a.state c.state:=fun a ha=>by
  obtain⟨k,k0,k1,hk⟩:=mem_takeN ha
  exact hlt k a k0 (by omega) hk
 have a2:∀a ∈ p.drop i.toNat,llt c.state a.state:=fun a ha=>by
  obtain⟨k,k1,hk⟩:=mem_dropN ha
  rcases K5 a.state c.state with h|h|h
  ·exact absurd h (hge k a (by omega) hk)
  ·exact absurd h (hns a (i6 hk))
  ·exact h
 have s1:Ord ((p.take i.toNat).map d9.state):=by rw[List.map_take];exact List.Pairwise.sublist (List.take_sublist _ _) ho
 have s2:Ord ((p.drop i.toNat).map d9.state):=by rw[List.map_drop];exact List.Pairwise.sublist (List.drop_sublist _ _) ho
 rw[List.map_append,List.map_cons]
 refine List.pairwise_append.2 ⟨s1,List.pairwise_cons.2 ⟨fun x hx=> ?_,s2⟩,fun x hx y hy=> ?_⟩
 ·obtain⟨a,ha,rfl⟩:=List.mem_map.1 hx
  exact a2 a ha
 ·obtain⟨a,ha,rfl⟩:=List.mem_map.1 hx
  rcases List.mem_cons.1 hy with rfl|hy
  ·exact a1 a ha
  ·obtain⟨b,hb,rfl⟩:=List.mem_map.1 hy
   exact F1 (a1 a ha) (a2 b hb)
theorem ins_mem{α:Type}{p:List α}{c x:α}{n:Nat}:x ∈ p.take n++c::p.drop n↔x=c∨x ∈ p:=by
 have:x ∈ p↔x ∈ p.take n∨x ∈ p.drop n:=by
  rw[← List.mem_append,List.take_append_drop]
 rw[this]
 simp only[List.mem_append,List.mem_cons]
 constructor
 ·rintro (h|h|h)
  ·exact .inr (.inl h)
  ·exact .inl h
  ·exact .inr (.inr h)
 ·rintro (h|h|h)
  ·exact .inr (.inl h)
  ·exact .inl h
  ·exact .inr (.inr h)
theorem ins_len{α:Type}{p:List α}{c:α}{n:Nat}(h:n≤p.length):(p.take n++c::p.drop n).length=p.length+1:=by simp;omega
structure PolP(t:b7)(ch:Li→Int)(p:List d9):Prop where
 pol:J4 t p
 of:∀c ∈ p,(RchC t ch c.state∧¬ g7 t c.state)∧c.operator=ch c.state
theorem PolP.op{p:List d9}(h:PolP t ch p):∀c ∈ p,c.operator=ch c.state:=fun c hc=>(h.of c hc).2
theorem PolP.ins(ht:g9 t)(hk:ChOk t ch){p:List d9}(h:PolP t ch p){s:Li}(hs:RchC t ch s)(hg:¬ g7 t s){i:Int}(h0:0≤i)(h1:i≤p.length)(hlt:∀k a,0≤k→k<i→ix p k=some a→llt a.state s)(hge:∀k a,i≤k→ix p k=some a→¬ llt a.state s)(hns:∀a ∈ p,a.state ≠ s)(hl:p.length<200):
  PolP t ch (p.take i.toNat++⟨s,ch s⟩::p.drop i.toNat):=by
 have key:∀{q:d9→Prop},q ⟨s,ch s⟩→(∀c ∈ p,q c)→∀c ∈ p.take i.toNat++⟨s,ch s⟩::p.drop i.toNat,q c:=fun h1 h2 c hc=>by
  rcases ins_mem.1 hc with rfl|hc
  ·exact h1
  ·exact h2 c hc
 exact⟨⟨by rw[ins_len (by omega)];omega,ins_ord h.pol.ord h0 hlt hge hns,key (hs.set ht) h.pol.set,key (hk s hs hg).1 h.pol.op,key (hk s hs hg).2 h.pol.can⟩,key ⟨⟨hs,hg⟩,rfl⟩ h.of⟩
theorem states_nodup{p:List d9}(h:Ord (p.map d9.state)){s:Li}(hns:∀a ∈ p,a.state ≠ s):(s::p.map d9.state).Nodup:=
 List.nodup_cons.2 ⟨fun hm=>by obtain⟨a,ha,e⟩:=List.mem_map.1 hm;exact hns a ha e,h.nodup⟩
structure BI(t:b7)(ch:Li→Int)(q:LL)(p:List d9)(a:Int):Prop where
 a0:0≤a
 a1:a≤q.length
 pp:PolP t ch p
 qr:∀s ∈ q,RchC t ch s
 qi:t.init ∈ q
 px:∀c ∈ p,∀y ∈ nxC t ch c.state,y ∈ q
 dn:∀k s,k<a→ix q k=some s→g7 t s∨∃c ∈ p,c.state=s
 ql:q.length≤1+4 * p.length
theorem build_prog(ht:g9 t)(hk:ChOk t ch){choose:Li→Option Int}(hch:∀s,RchC t ch s→¬ g7 t s→choose s=some (ch s)):
  ∃r,R7 t choose=some r∧((r=([],false)∧∃l:LL,l.Nodup∧(∀s ∈ l,RchC t ch s∧¬ g7 t s)∧l.length=201)∨∃p,r=(p,true)∧PolB t ch p∧p.length≤200):=by
 have hn:=ht.n1
 obtain⟨o,o1,o2⟩:=E7 (body:=V8 t choose) (fun x=>BI t ch x.1 x.2.1 x.2.2) (fun o=>(o=.inr ([],false)∧∃l:LL,l.Nodup∧(∀s ∈ l,RchC t ch s∧¬ g7 t s)∧l.length=201)∨∃p,o=.inl p∧PolB t ch p∧p.length≤200) (fun x=>(1000 - x.2.2).toNat)
  (s:=([t.init],[],0)) ⟨by dsimp only;omega,by simp,⟨⟨by simp,.nil,by simp,by simp,by simp⟩,by simp⟩,fun s hs=>by rw[List.mem_singleton.1 hs];exact .init,by simp,by simp,fun k s hk hs=>by have:=(l9 hs).1;dsimp only at hk;omega,by simp⟩ (fun⟨q,p,a⟩ h=>by
   have a0:0≤a:=h.a0
   have a1:a≤q.length:=h.a1
   have ql:q.length≤1+4 * p.length:=h.ql
   have pp:PolP t ch p:=h.pp
   have qr:∀s ∈ q,RchC t ch s:=h.qr
   have qi:t.init ∈ q:=h.qi
   have px:∀c ∈ p,∀y ∈ nxC t ch c.state,y ∈ q:=h.px
   have dn:∀k s,k<a→ix q k=some s→g7 t s∨∃c ∈ p,c.state=s:=h.dn
   have pl:p.length≤200:=pp.pol.len
   clear h
   dsimp only
   unfold V8
   dsimp only
   by_cases c:a<q.length
   ·rw[if_pos c]
    obtain⟨s,hs,_⟩:=i5 (l:=q) a0 c
    have hr:=qr s (i6 hs)
    have hset:=hr.set ht
    have hsl:=hset.len
    rw[hs]
    simp only[oB,F7 hset.1 ht.goal.1 (show s.length≤1000000 by omega),(X5 pp.pol s).1]
    have key:(if dec (∀x ∈ t.goal,x ∈ s)=true then some true else some (decide (0≤chO p s)))=some (dec (g7 t s∨0≤chO p s)):=by
     by_cases hg:g7 t s
     ·rw[ifP (p:=∀x ∈ t.goal,x ∈ s) hg,j6 (.inl hg)]
     ·rw[ifN (p:=∀x ∈ t.goal,x ∈ s) hg,E3]
      congr 1
      exact u6 ⟨.inr,fun h=>h.resolve_left hg⟩
    rw[key]
    simp only[oB]
    have hw:w64 (a+1)=a+1:=m5 (by omega) (by omega)
    by_cases cg:g7 t s∨0≤chO p s
    ·rw[ifP cg]
     unfold J3
     dsimp only
     refine .inl ⟨(q,p,a+1),by rw[hw],⟨by dsimp only;omega,by dsimp only;omega,pp,qr,qi,px,fun(k:Int) z hk2 hz=> ?_,ql⟩,by dsimp only;omega⟩
     dsimp only at hk2 hz
     by_cases e:k=a
     ·subst e
      rw[hs] at hz;cases hz
      refine cg.imp id fun hc=> ?_
      rcases chO_ch pp.op s with⟨e,_⟩|⟨e,_⟩
      ·omega
      ·exact e
     ·exact dn k z (by omega) hz
    ·rw[ifN cg]
     have hg:¬ g7 t s:=fun g=>cg (.inl g)
     have hns:∀c ∈ p,c.state ≠ s:=by
      rcases chO_ch pp.op s with⟨_,e⟩|⟨_,e⟩
      ·exact e
      ·exact absurd (.inr (by rw[e];exact(hk s hr hg).1.1)) cg
     by_cases cl:(p.length:Int)=200
     ·rw[if_pos cl]
      refine .inr ⟨_,rfl,.inl ⟨rfl,s::p.map d9.state,states_nodup pp.pol.ord hns,fun z hz=> ?_,by simp;omega⟩⟩
      rcases List.mem_cons.1 hz with rfl|hz
      ·exact⟨hr,hg⟩
      ·obtain⟨c,hc,rfl⟩:=List.mem_map.1 hz
       exact(pp.of c hc).1
     ·rw[if_neg cl,hch s hr hg]
      simp only[oB]
      have ho:=hk s hr hg
      obtain⟨i,i1,i0,_,i2,i3,i4⟩:=bsf_full (key:=d9.state) (xs:=p) (t:=s) (cmp:=H2) pp.pol.ord (by omega) (fun a=>by unfold H2;rw[ae2];rfl)
      have hb:j3 p s H2=some (i,dec (∃a ∈ p,a.state=s)):=i1
      rw[hb]
      simp only[oB,ak4 (show s.length≤1000000 by omega)]
      rw[insL,if_pos ⟨i0,i2,by omega⟩]
      obtain⟨st,w,r1,_,r3,r4,_⟩:=I0 ht ho.1.1 ho.1.2 hset
      simp only[oB,r1]
      rw[app,if_pos (by omega)]
      simp only[oB]
      unfold J3
      dsimp only
      have hst:∀y,y ∈ st↔y ∈ nxC t ch s:=fun y=>by rw[r3,nxC,List.mem_map]
      have pp':=pp.ins ht hk hr hg i0 i2 i3 i4 hns (by omega)
      refine .inl ⟨(q++st,p.take i.toNat++⟨s,ch s⟩::p.drop i.toNat,a+1),by rw[hw],⟨by dsimp only;omega,by simp;omega,pp',fun z hz=> ?_,List.mem_append_left _ qi,fun c hc y hy=> ?_,fun k z hk2 hz=> ?_,?_⟩,by dsimp only;omega⟩
      ·rcases List.mem_append.1 hz with hz|hz
       ·exact qr z hz
       ·exact .step hr hg ((hst z).1 hz)
      ·rcases ins_mem.1 hc with rfl|hc
       ·exact List.mem_append_right _ ((hst y).2 hy)
       ·exact List.mem_append_left _ (px c hc y hy)
      ·dsimp only at hk2 hz
       obtain⟨z',hz',_⟩:=i5 (l:=q) (i:=k) (l9 hz).1 (by omega)
       have e:z'=z:=by
        obtain⟨k0,_,g1⟩:=l9 hz
        obtain⟨_,k1,g2⟩:=l9 hz'
        rw[List.getElem?_append_left (by omega),g2] at g1
        exact Option.some.inj g1
       subst e
       by_cases e:k=a
       ·subst e
        rw[hs] at hz';cases hz'
        exact .inr ⟨⟨s,ch s⟩,ins_mem.2 (.inl rfl),rfl⟩
       ·refine(dn k _ (by omega) hz').imp id fun⟨c,hc,e⟩=>⟨c,ins_mem.2 (.inr hc),e⟩
      ·dsimp only
       rw[List.length_append,ins_len (by omega)]
       omega
   ·rw[if_neg c]
    have all:∀s,RchC t ch s→s ∈ q:=fun s hs=>by
     induction hs with
     |init=>exact qi
     |@step s y _ hg hy ih=>
      obtain⟨k,k0,k1,hk1⟩:=m6 ih
      rcases dn k s (by omega) hk1 with g|⟨c,hc,rfl⟩
      ·exact absurd g hg
      ·exact px c hc y hy
    refine .inr ⟨_,rfl,.inr ⟨p,rfl,⟨pp.pol.ord,fun s=>⟨fun⟨c,hc,e⟩=>e ▸ (pp.of c hc).1,fun⟨hs,hg⟩=> ?_⟩,pp.op⟩,pl⟩⟩
    obtain⟨k,k0,k1,hk1⟩:=m6 (all s hs)
    exact(dn k s (by omega) hk1).resolve_left hg)
 unfold R7
 rw[o1]
 rcases o2 with⟨rfl,h⟩|⟨p,rfl,h⟩
 ·exact⟨_,rfl,.inl ⟨rfl,h⟩⟩
 ·exact⟨_,rfl,.inr ⟨p,rfl,h⟩⟩
end
end Ab
end
section
namespace Ab
open Go
theorem smN_upd{f g:Nat→Int}{n i:Nat}(hi:i<n)(h:∀k,k<n→k ≠ i→g k=f k):smN n g=smN n f+(g i - f i):=by
 have:smN n g=smN n fun k=>f k+if k=i then g i - f i else 0:=k8 fun k hk=>by
  by_cases e:k=i
  ·subst e;rw[if_pos rfl];omega
  ·rw[if_neg e,h k hk e];omega
 rw[this,J1,O8 (f:=fun k=>if k=i then g i - f i else 0) hi fun k _ hk=>if_neg hk,if_pos rfl]
def wtj(w:Li)(j:Nat):Int:=(w[j]?).getD 0
theorem af1{w:Li}{i:Nat}(h:i<w.length):ix w (i:Int)=some (wtj w i):=by
 rw[n9,List.getElem?_eq_getElem h];unfold wtj;rw[List.getElem?_eq_getElem h];rfl
theorem wtj_set{w:Li}{i:Nat}(h:i<w.length)(v:Int)(k:Nat):wtj (w.set i v) k=if k=i then v else wtj w k:=by
 unfold wtj
 rw[List.getElem?_set]
 by_cases e:k=i
 ·subst e;rw[if_pos rfl,if_pos h,if_pos rfl];rfl
 ·rw[if_neg (fun q=>e q.symm),if_neg e]
structure Wok(t:b7)(s:Li)(op:Int)(st:LL)(w:Li):Prop where
 eq:q6 t s op=some (st,w)
 ord:Ord st
 mem:∀y,y ∈ st↔∃x ∈ (ooAt t op).outcomes,efc t.facts s x=y
 s4:st.length≤4
 len:w.length=st.length
 pos:∀k,k<st.length→1≤wtj w k
 sum:smN st.length (wtj w)≤24
theorem results_ok{t:b7}(ht:g9 t){op:Int}(h0:0≤op)(h1:op<t.operators.length){s:Li}(hs:SetN s t.facts):∃st w,Wok t s op st w:=by
 have ho:=ht.at h0 h1
 have hl:=ho.l1
 obtain⟨st,w,r1,r2,r3,r4,r5,r6⟩:=I0 ht h0 h1 hs
 obtain⟨w',k1,k2,k3,k4,k5⟩:=r8 (body:=D5 ((ooAt t op).outcomes.map (efc t.facts s)) st (ooAt t op)) (n:=((ooAt t op).outcomes.length:Int)) (s:=List.replicate st.length 0)
  (fun j c=>c.length=st.length∧(∀k,0≤wtj c k)∧smN st.length (wtj c)≤6 * j∧∀(i:Int) x,0≤i→i<j→ix (ooAt t op).outcomes i=some x→∀k:Nat,st[k]? =some (efc t.facts s x)→1≤wtj c k) (by omega)
  ⟨by simp,fun k=>by unfold wtj;rw[List.getElem?_replicate];split<;>simp,by
   rw[ab6 fun k _=>by unfold wtj;rw[List.getElem?_replicate];split<;>rfl];omega,fun i x i0 hi=>by omega⟩ (fun j c j0 j1 ⟨p1,p2,p3,p4⟩=>by
   obtain⟨x,hx,gx⟩:=i5 (l:=(ooAt t op).outcomes) j0 j1
   have hmem:efc t.facts s x ∈ st:=(r3 _).2 ⟨x,i6 hx,rfl⟩
   obtain⟨i,e1,e2,e3⟩:=al3 (t:=efc t.facts s x) r2 (by omega)
   obtain⟨k,k0,k1,hk⟩:=m6 hmem
   have:=e3 k hk
   subst this
   obtain⟨m,rfl⟩:=Int.eq_ofNat_of_zero_le k0
   have hm:m<st.length:=by omega
   have hz:=af1 (w:=c) (i:=m) (by omega)
   have hw:=(ho.xs x (i6 hx)).2
   unfold xWt at hw
   have hle:wtj c m≤smN st.length (wtj c):=by
    have:=W4 (f:=wtj c) p2 (Nat.zero_le m) hm
    simpa[smN] using this
   have hs6:w64 (wtj c m+x.weight)=wtj c m+x.weight:=m5 (by have:=p2 m;omega) (by omega)
   unfold D5
   rw[hx,ix_map,hx]
   simp only[oB,Option.map_some,e1,hz,hs6,Int.toNat_natCast]
   have hset:=wtj_set (w:=c) (i:=m) (by omega) (wtj c m+x.weight)
   refine⟨_,rfl,by rw[lS];exact p1,fun k=> ?_,?_,fun i' x' i0 hi' hx' k hk'=> ?_⟩
   ·rw[hset];have:=p2 k;have:=p2 m;split<;>omega
   ·rw[smN_upd hm (f:=wtj c) (fun k _ hk=>by rw[hset,if_neg hk]),hset,if_pos rfl];omega
   ·rw[hset]
    by_cases e:k=m
    ·subst e;rw[if_pos rfl];have:=p2 k;omega
    ·rw[if_neg e]
     by_cases f:i'=j
     ·subst f;rw[hx] at hx';cases hx'
      have h5:ix st (k:Int)=some (efc t.facts s x):=by rw[n9];exact hk'
      have:=e3 _ h5
      omega
     ·exact p4 i' x' i0 (by omega) hx' k hk')
 rw[r6] at k1
 cases k1
 refine⟨st,w,r1,r2,r3,r4,r5,fun k hk=> ?_,by omega⟩
 obtain⟨x,hx,e⟩:=(r3 st[k]).1 (List.getElem_mem hk)
 obtain⟨i,i0,i1,hi⟩:=m6 hx
 exact k5 i x i0 i1 hi k (by rw[List.getElem?_eq_getElem hk,e])
end Ab
end
section
namespace Ab
open Go
def twF(st:LL)(w:Li)(J:Nat)(y:Li):Int:=smN J fun j=>if st[j]? =some y then wtj w j else 0
structure Sys(t:b7)(S:LL)(op:Nat→Int)(st:Nat→LL)(w:Nat→Li):Prop where
 ord:Ord S
 n5:S.length≤5
 set:∀s ∈ S,SetN s t.facts
 ng:∀s ∈ S,¬ g7 t s
 rng:∀i,i<S.length→0≤op i∧op i<t.operators.length
 res:∀i s,S[i]? =some s→Wok t s (op i) (st i) (w i)
 cl:∀i,i<S.length→∀y ∈ st i,g7 t y∨y ∈ S
section
variable {t:b7}{S:LL}{op:Nat→Int}{st:Nat→LL}{w:Nat→Li}
def WF(st:Nat→LL)(w:Nat→Li)(i:Nat):Int:=smN (st i).length (wtj (w i))
def wF(S:LL)(st:Nat→LL)(w:Nat→Li):Mtx:=fun i k=>match S[k]? with|some y=>twF (st i) (w i) (st i).length y|none=>0
def cF(t:b7)(op:Nat→Int)(i:Nat):Int:=(ooAt t (op i)).cost
theorem ae1(h:Sys t S op st w){i:Nat}(hi:i<S.length)(j:Nat):0≤wtj (w i) j:=by
 have hr:=h.res i S[i] (List.getElem?_eq_getElem hi)
 by_cases e:j<(st i).length
 ·have:=hr.pos j e;omega
 ·unfold wtj;rw[List.getElem?_eq_none (by rw[hr.len];omega)];simp
theorem twF_nn(h:Sys t S op st w){i:Nat}(hi:i<S.length)(J:Nat)(y:Li):0≤twF (st i) (w i) J y:=T8 fun j _=>by
 split
 ·exact ae1 h hi j
 ·exact Int.le_refl _
theorem twF_le(h:Sys t S op st w){i:Nat}(hi:i<S.length){J:Nat}(hJ:J≤(st i).length)(y:Li):twF (st i) (w i) J y≤24:=by
 have h1:twF (st i) (w i) J y≤smN J (wtj (w i)):=S7 fun j _=>by
  split
  ·exact Int.le_refl _
  ·exact ae1 h hi j
 have h2:=Q5 (f:=wtj (w i)) (ae1 h hi) hJ
 have h3:=(h.res i S[i] (List.getElem?_eq_getElem hi)).sum
 omega
def rowV(S:LL)(st:LL)(w:Li)(c:Int)(i J k:Nat):Int:=
 if k=S.length then smN J (wtj w) * c else(if k=i then smN J (wtj w) else 0) - match S[k]? with|some y=>twF st w J y|none=>0
theorem eq_row(ht:g9 t)(h:Sys t S op st w){i:Nat}(hi:i<S.length):
  ∃c:Li,forR 0 ((st i).length:Int) (N2 t S i (op i) (st i,w i)) (List.replicate (S.length+1) 0)=some c∧c.length=S.length+1∧∀k,k≤S.length→wtj c k=rowV S (st i) (w i) (cF t op i) i (st i).length k:=by
 have hr:=h.res i S[i] (List.getElem?_eq_getElem hi)
 have hop:=h.rng i hi
 have hco:=(ht.at hop.1 hop.2)
 have hc0:=hco.c0;have hc1:=hco.c1
 have hn5:=h.n5
 have hs4:=hr.s4
 have hsum:=hr.sum
 obtain⟨c,k1,k2,k3⟩:=r8 (body:=N2 t S i (op i) (st i,w i)) (n:=((st i).length:Int)) (s:=List.replicate (S.length+1) 0)
  (fun q c=>c.length=S.length+1∧∀k,k≤S.length→wtj c k=rowV S (st i) (w i) (cF t op i) i q.toNat k) (by omega)
  ⟨by simp,fun k hk=>by
   unfold rowV wtj
   rw[List.getElem?_replicate]
   simp only[Int.toNat_zero,smN,twF,Int.zero_mul,ite_self]
   split<;>split<;>(try split)<;>simp⟩ (fun q c q0 q1 ⟨p1,p2⟩=>by
   obtain⟨J,rfl⟩:=Int.eq_ofNat_of_zero_le q0
   have hJ:J<(st i).length:=by omega
   rw[Int.toNat_natCast] at p2
   have hx:ix (st i) (J:Int)=some (st i)[J]:=by rw[n9];exact List.getElem?_eq_getElem hJ
   have hw:=af1 (w:=w i) (i:=J) (by rw[hr.len];exact hJ)
   have hw1:=hr.pos J hJ
   have ci:=af1 (w:=c) (i:=i) (by omega)
   have e1:smN (J+1) (wtj (w i))=smN J (wtj (w i))+wtj (w i) J:=rfl
   have b0:0≤smN J (wtj (w i)):=T8 fun j _=>ae1 h hi j
   have b1:=Q5 (f:=wtj (w i)) (ae1 h hi) (show J+1≤(st i).length by omega)
   have sc:∀x:Int,0≤x→x≤24→0≤x * (ooAt t (op i)).cost∧x * (ooAt t (op i)).cost≤2400:=fun x h0 h1=>⟨Int.mul_nonneg h0 hc0,by
    have:=Int.mul_le_mul h1 hc1 hc0 (by omega:(0:Int)≤24)
    omega⟩
   have vi:=p2 i (by omega)
   unfold rowV at vi
   rw[if_neg (by omega),if_pos rfl,List.getElem?_eq_getElem hi] at vi
   dsimp only at vi
   have t1:=twF_nn h hi J S[i]
   have t2:=twF_le h hi (J:=J) (by omega) S[i]
   have f1:w64 (wtj c i+wtj (w i) J)=wtj c i+wtj (w i) J:=m5 (by omega) (by omega)
   have s1:=wtj_set (w:=c) (i:=i) (by omega) (wtj c i+wtj (w i) J)
   have cn:=af1 (w:=c.set i (wtj c i+wtj (w i) J)) (i:=S.length) (by rw[lS];omega)
   rw[s1,if_neg (by omega)] at cn
   have vn:=p2 S.length (Nat.le_refl _)
   unfold rowV at vn
   rw[if_pos rfl] at vn
   have m1:=sc (wtj (w i) J) (by omega) (by omega)
   have m2:=sc (smN J (wtj (w i))) b0 (by omega)
   have vn':wtj c S.length=smN J (wtj (w i)) * (ooAt t (op i)).cost:=vn
   have f2:w64 (wtj (w i) J * (ooAt t (op i)).cost)=wtj (w i) J * (ooAt t (op i)).cost:=m5 (by omega) (by omega)
   have f3:w64 (wtj c S.length+wtj (w i) J * (ooAt t (op i)).cost)=wtj c S.length+wtj (w i) J * (ooAt t (op i)).cost:=m5 (by omega) (by omega)
   generalize hc1':c.set i (wtj c i+wtj (w i) J)=c1 at *
   have l1:c1.length=S.length+1:=by rw[← hc1',lS];exact p1
   have s2:=wtj_set (w:=c1) (i:=S.length) (by omega) (wtj c S.length+wtj (w i) J * (ooAt t (op i)).cost)
   generalize hc2':c1.set S.length (wtj c S.length+wtj (w i) J * (ooAt t (op i)).cost)=c2 at *
   have l2:c2.length=S.length+1:=by rw[← hc2',lS];exact l1
   have hset:SetN (st i)[J] t.facts:=by
    obtain⟨x,_,e⟩:=(hr.mem (st i)[J]).1 (List.getElem_mem hJ)
    rw[← e];exact ab4 _ _ _
   have hcon:k9 (st i)[J] t.goal=some (dec (g7 t (st i)[J])):=F7 hset.1 ht.goal.1 (by have:=hset.len;have:=ht.n1;omega)
   have tw1:∀y,twF (st i) (w i) (J+1) y=twF (st i) (w i) J y+if(st i)[J]? =some y then wtj (w i) J else 0:=fun y=>rfl
   have hgJ:(st i)[J]? =some (st i)[J]:=List.getElem?_eq_getElem hJ
   unfold N2
   simp only[hx,hw,ci,oB,f1,ix_oo hop.1 hop.2,f2,f3,Int.toNat_natCast,hc1',cn,hcon,hc2']
   by_cases hg:g7 t (st i)[J]
   ·rw[j6 hg]
    simp only[Bool.not_true,Bool.false_eq_true,if_false,oB]
    refine⟨_,rfl,l2,fun k hk=> ?_⟩
    rw[show((J:Int)+1).toNat=J+1 by omega,s2]
    unfold rowV
    by_cases e:k=S.length
    ·subst e
     rw[if_pos rfl,if_pos rfl,e1,vn',Int.add_mul];rfl
    ·rw[if_neg e,if_neg e,s1]
     have hk':k<S.length:=by omega
     rw[List.getElem?_eq_getElem hk']
     dsimp only
     have hne:¬ (st i)[J]? =some S[k]:=fun q=>by
      rw[hgJ] at q
      have:=Option.some.inj q
      exact h.ng S[k] (List.getElem_mem hk') (this ▸ hg)
     rw[tw1,if_neg hne]
     have vk:=p2 k hk
     unfold rowV at vk
     rw[if_neg e,List.getElem?_eq_getElem hk'] at vk
     dsimp only at vk
     by_cases f:k=i
     ·subst f;rw[if_pos rfl,if_pos rfl,e1];omega
     ·rw[if_neg f,if_neg f];rw[if_neg f] at vk;omega
   ·rw[m8 hg]
    have hm:(st i)[J] ∈ S:=(h.cl i hi _ (List.getElem_mem hJ)).resolve_left hg
    obtain⟨p,p0,p3,hp⟩:=m6 hm
    obtain⟨m,rfl⟩:=Int.eq_ofNat_of_zero_le p0
    have hmS:m<S.length:=by omega
    have hSm:S[m]=(st i)[J]:=by
     rw[n9,List.getElem?_eq_getElem hmS] at hp
     exact Option.some.inj hp
    have cm:=af1 (w:=c2) (i:=m) (by omega)
    have vm:=p2 m (by omega)
    unfold rowV at vm
    rw[if_neg (by omega),List.getElem?_eq_getElem hmS] at vm
    dsimp only at vm
    have t3:=twF_nn h hi J S[m]
    have t4:=twF_le h hi (J:=J) (by omega) S[m]
    have v2:wtj c2 m=(if m=i then wtj c i+wtj (w i) J else wtj c m):=by rw[s2,if_neg (by omega),s1]
    have f4:w64 (wtj c2 m - wtj (w i) J)=wtj c2 m - wtj (w i) J:=by
     rw[v2]
     split
     ·exact m5 (by omega) (by omega)
     ·rename_i q;rw[if_neg q] at vm;exact m5 (by omega) (by omega)
    simp only[Bool.not_false,if_true,O4 h.ord (by omega) hp,cm,oB,f4,Int.toNat_natCast]
    have s3:=wtj_set (w:=c2) (i:=m) (by omega) (wtj c2 m - wtj (w i) J)
    refine⟨_,rfl,by rw[lS];exact l2,fun k hk=> ?_⟩
    rw[show((J:Int)+1).toNat=J+1 by omega,s3]
    unfold rowV
    by_cases e:k=S.length
    ·subst e
     rw[if_neg (by omega),if_pos rfl,s2,if_pos rfl,e1,vn',Int.add_mul];rfl
    ·have hk':k<S.length:=by omega
     rw[if_neg e,List.getElem?_eq_getElem hk']
     dsimp only
     rw[tw1,hgJ]
     have vk:=p2 k hk
     unfold rowV at vk
     rw[if_neg e,List.getElem?_eq_getElem hk'] at vk
     dsimp only at vk
     by_cases g:k=m
     ·subst g
      have hq:some (st i)[J]=some S[k]:=by rw[hSm]
      rw[if_pos rfl,if_pos hq,v2]
      by_cases f:k=i
      ·subst f;rw[if_pos rfl,if_pos rfl,e1];omega
      ·rw[if_neg f,if_neg f];rw[if_neg f] at vk;omega
     ·have hne:¬ some (st i)[J]=some S[k]:=fun q=>by
       have q1:=Option.some.inj q
       have hk2:ix S (k:Int)=some (st i)[J]:=by rw[n9,List.getElem?_eq_getElem hk',q1]
       have:=h.ord.inj hp hk2
       omega
      rw[if_neg g,if_neg hne,s2,if_neg e,s1]
      by_cases f:k=i
      ·subst f;rw[if_pos rfl,if_pos rfl,e1];omega
      ·rw[if_neg f,if_neg f];rw[if_neg f] at vk;omega)
 refine⟨c,k1,k2,fun k hk=> ?_⟩
 rw[k3 k hk,Int.toNat_natCast]
end
end Ab
end
section
namespace Ab
open Go
section
variable {t:b7}{S:LL}{op:Nat→Int}{st:Nat→LL}{w:Nat→Li}
def wG(S:LL)(st:Nat→LL)(w:Nat→Li):Mtx:=fun i k=>if i<S.length then wF S st w i k else 0
abbrev eqN(t:b7)(S:LL)(op:Nat→Int)(st:Nat→LL)(w:Nat→Li):Mtx:=eqM S.length (WF st w) (wG S st w) fun i=>WF st w i * cF t op i
theorem rowV_eq{i k:Nat}(hi:i<S.length)(hk:k≤S.length):rowV S (st i) (w i) (cF t op i) i (st i).length k=eqN t S op st w i k:=by
 unfold rowV eqN eqM
 by_cases e:k=S.length
 ·rw[if_pos e,if_pos e];rfl
 ·have hk':k<S.length:=by omega
  rw[if_neg e,if_neg e]
  unfold wG wF
  rw[if_pos hi,List.getElem?_eq_getElem hk']
  dsimp only
  by_cases f:k=i
  ·rw[if_pos f,if_pos f.symm];rfl
  ·rw[if_neg f,if_neg (fun q=>f q.symm)]
theorem eqs_ok(ht:g9 t)(h:Sys t S op st w){choose:Li→Option Int}(hch:∀i s,S[i]? =some s→choose s=some (op i)):
  ∃L,forR 0 (S.length:Int) (A7 t S choose) []=some L∧Shp S.length L∧∀i k,i<S.length→k≤S.length→mE L i k=eqN t S op st w i k:=by
 have hn5:=h.n5
 obtain⟨L,k1,k2,k3⟩:=r8 (body:=A7 t S choose) (n:=(S.length:Int)) (s:=[])
  (fun q c=>(c.length:Int)=q∧∀i:Nat,(i:Int)<q→∃row,c[i]? =some row∧row.length=S.length+1∧∀k,k≤S.length→wtj row k=eqN t S op st w i k) (by omega) ⟨rfl,fun i hi=>by omega⟩ (fun q c q0 q1 ⟨p1,p2⟩=>by
   obtain⟨i,rfl⟩:=Int.eq_ofNat_of_zero_le q0
   have hi:i<S.length:=by omega
   have hs:S[i]? =some S[i]:=List.getElem?_eq_getElem hi
   obtain⟨row,r1,r2,r3⟩:=eq_row ht h hi
   have hw:w64 ((S.length:Int)+1)=((S.length+1:Nat):Int):=by rw[m5 (by omega) (by omega)];omega
   have hmk:mkL 8 ((S.length+1:Nat):Int) (0:Int)=some (List.replicate (S.length+1) 0):=by
    unfold mkL;rw[if_pos (by omega),Int.toNat_natCast]
   have ha:app 24 c [row]=some (c++[row]):=by unfold app;rw[if_pos (by simp;omega)]
   unfold A7
   simp only[show ix S (i:Int)=some S[i] by rw[n9,hs],Option.bind_some,hw,hmk,hch i _ hs,(h.res i _ hs).eq,r1,ha]
   refine⟨_,rfl,by rw[List.length_append,List.length_singleton];omega,fun i' hi'=> ?_⟩
   by_cases e:i'=i
   ·subst e
    refine⟨row,?_,r2,fun k hk=>by rw[r3 k hk,rowV_eq hi hk]⟩
    have:i'=c.length:=by omega
    rw[this];simp
   ·obtain⟨r',a1,a2,a3⟩:=p2 i' (by omega)
    exact⟨r',by rw[List.getElem?_append_left (by omega),a1],a2,a3⟩)
 have hlen:L.length=S.length:=by omega
 refine⟨L,k1,⟨hlen,fun r hr=> ?_⟩,fun i k hi hk=> ?_⟩
 ·obtain⟨i,hi,rfl⟩:=List.getElem_of_mem hr
  obtain⟨row,a1,a2,_⟩:=k3 i (by omega)
  rw[List.getElem?_eq_getElem hi] at a1
  cases a1;exact a2
 ·obtain⟨row,a1,_,a3⟩:=k3 i (by omega)
  have:mE L i k=wtj row k:=by unfold mE wtj;rw[a1];rfl
  rw[this,a3 k hk]
theorem lead_sum(h:Sys t S op st w){i:Nat}(hi:i<S.length):smN S.length (wG S st w i)=smN (st i).length fun j=>if dec (∃y ∈ S,(st i)[j]? =some y)=true then wtj (w i) j else 0:=by
 have e1:smN S.length (wG S st w i)=smN S.length fun k=>smN (st i).length fun j=>if(st i)[j]? =S[k]? then wtj (w i) j else 0:=k8 fun k hk=>by
  unfold wG wF
  rw[if_pos hi,List.getElem?_eq_getElem hk]
  rfl
 rw[e1,smN_comm]
 refine k8 fun j hj=> ?_
 have hgj:(st i)[j]? =some (st i)[j]:=List.getElem?_eq_getElem hj
 by_cases e:∃y ∈ S,(st i)[j]? =some y
 ·rw[if_pos (j6 e)]
  obtain⟨y,hy,e⟩:=e
  obtain⟨k,hk,rfl⟩:=List.getElem_of_mem hy
  rw[O8 (a:=k) hk fun k' hk' hne=> ?_,if_pos (by rw[e,List.getElem?_eq_getElem hk])]
  rw[if_neg]
  intro q
  rw[e,List.getElem?_eq_getElem hk'] at q
  have q:=Option.some.inj q
  have a:ix S (k:Int)=some S[k]:=by rw[n9,List.getElem?_eq_getElem hk]
  have b:ix S (k':Int)=some S[k]:=by rw[n9,List.getElem?_eq_getElem hk',q]
  have:=h.ord.inj a b
  omega
 ·rw[if_neg (by rw[m8 e];simp)]
  refine ab6 fun k hk=> ?_
  rw[if_neg]
  intro q
  rw[List.getElem?_eq_getElem hk] at q
  exact e ⟨_,List.getElem_mem hk,q⟩
theorem sys_ms(ht:g9 t)(h:Sys t S op st w):Ms S.length (WF st w) (wG S st w):=by
 refine⟨fun i hi=> ?_,fun i k=> ?_,fun i hi=> ?_⟩
 ·have hr:=h.res i S[i] (List.getElem?_eq_getElem hi)
  have hop:=h.rng i hi
  have l0:=(ht.at hop.1 hop.2).l0
  have hm:efc t.facts S[i] ((ooAt t (op i)).outcomes[0]) ∈ st i:=(hr.mem _).2 ⟨_,List.getElem_mem (by omega),rfl⟩
  have hl:=List.length_pos_of_mem hm
  have h1:=hr.pos 0 hl
  have h2:=W4 (f:=wtj (w i)) (ae1 h hi) (Nat.zero_le 0) hl
  simp only[smN] at h2
  unfold WF;omega
 ·unfold wG
  split
  ·rename_i hi
   unfold wF
   split
   ·exact twF_nn h hi _ _
   ·exact Int.le_refl _
  ·exact Int.le_refl _
 ·rw[lead_sum h hi]
  refine S7 fun j _=> ?_
  split
  ·exact Int.le_refl _
  ·exact ae1 h hi j
theorem WF_le(h:Sys t S op st w){i:Nat}(hi:i<S.length):WF st w i≤24:=(h.res i S[i] (List.getElem?_eq_getElem hi)).sum
theorem sys_exit(h:Sys t S op st w){i:Nat}(hi:i<S.length){y:Li}(hy:y ∈ st i)(hg:g7 t y):smN S.length (wG S st w i)<WF st w i:=by
 rw[lead_sum h hi]
 have hr:=h.res i S[i] (List.getElem?_eq_getElem hi)
 obtain⟨j,hj,rfl⟩:=List.getElem_of_mem hy
 have hle:smN (st i).length (fun q=>if dec (∃y ∈ S,(st i)[q]? =some y)=true then wtj (w i) q else 0)≤smN (st i).length fun q=>wtj (w i) q+if q=j then -(wtj (w i) j) else 0:=S7 fun q hq=>by
  by_cases e:q=j
  ·subst e
   rw[if_pos rfl,if_neg]
   ·omega
   ·rw[m8]
    ·simp
    ·rintro ⟨y,hy',e⟩
     rw[List.getElem?_eq_getElem hj] at e
     cases e
     exact h.ng _ hy' hg
  ·rw[if_neg e]
   have:=ae1 h hi q
   split<;>omega
 rw[J1,O8 (f:=fun q=>if q=j then -(wtj (w i) j) else 0) hj fun q _ hq=>if_neg hq,if_pos rfl] at hle
 have:=hr.pos j hj
 show _<smN (st i).length (wtj (w i))
 omega
theorem sys_step(h:Sys t S op st w){i k:Nat}(hi:i<S.length)(hk:k<S.length)(hy:S[k] ∈ st i):0<wG S st w i k:=by
 have hr:=h.res i S[i] (List.getElem?_eq_getElem hi)
 unfold wG wF
 rw[if_pos hi,List.getElem?_eq_getElem hk]
 dsimp only
 obtain⟨j,hj,e⟩:=List.getElem_of_mem hy
 have h1:=W4 (f:=fun q=>if(st i)[q]? =some S[k] then wtj (w i) q else 0) (fun q=>by split;exact ae1 h hi q;exact Int.le_refl _) (Nat.zero_le j) hj
 simp only[smN] at h1
 rw[if_pos (by rw[List.getElem?_eq_getElem hj,e])] at h1
 have:=hr.pos j hj
 unfold twF;omega
inductive Wy(t:b7)(S:LL)(st:Nat→LL):Nat→Prop
 |exit {i:Nat} {y:Li} (h:i<S.length) (hy:y ∈ st i) (hg:g7 t y):Wy t S st i
 |step {i k:Nat} {y:Li} (h:i<S.length) (hk:S[k]? =some y) (hy:y ∈ st i) (hp:Wy t S st k):Wy t S st i
theorem Wy.px(h:Sys t S op st w){i:Nat}(hw:Wy t S st i):Px S.length (WF st w) (wG S st w) i:=by
 induction hw with
 |exit hi hy hg=>exact .exit hi (sys_exit h hi hy hg)
 |@step i k y hi hk hy _ ih=>
  obtain⟨hk',rfl⟩:=lG.1 hk
  exact .step hi hk' (sys_step h hi hk' hy) ih
theorem sys_rb(ht:g9 t)(h:Sys t S op st w):Rb S.length (eqN t S op st w) 48 2400:=by
 have hM:=sys_ms ht h
 refine⟨by omega,by omega,fun i hi=> ?_,fun i hi=> ?_⟩
 ·have h1:smN S.length (fun k=>ab (eqN t S op st w i k))≤smN S.length fun k=>(if k=i then WF st w i else 0)+wG S st w i k:=S7 fun k hk=>by
   have h2:=hM.nn i k
   have h3:=hM.pos i hi
   have e:eqN t S op st w i k=(if k=i then WF st w i else 0) - wG S st w i k:=by
    unfold eqN eqM
    rw[if_neg (by omega)]
    by_cases f:k=i
    ·rw[if_pos f,if_pos f.symm]
    ·rw[if_neg f,if_neg (fun q=>f q.symm)]
   rw[e]
   unfold ab
   split<;>split<;>omega
  rw[J1,O8 (f:=fun k=>if k=i then WF st w i else 0) hi fun k _ hk=>if_neg hk,if_pos rfl] at h1
  have:=hM.le i hi
  have:=WF_le h hi
  omega
 ·have e:eqN t S op st w i S.length=WF st w i * cF t op i:=by unfold eqN eqM;rw[if_pos rfl]
  rw[e]
  have hop:=h.rng i hi
  have hco:=ht.at hop.1 hop.2
  have h3:=hM.pos i hi
  have h4:=WF_le h hi
  have h5:0≤WF st w i * cF t op i:=Int.mul_nonneg (by omega) hco.c0
  have h6:=Int.mul_le_mul h4 hco.c1 hco.c0 (by omega:(0:Int)≤24)
  unfold ab;rw[if_pos h5];exact h6
theorem Rb.congr{n:Nat}{A B:Mtx}{R C:Int}(h:Rb n A R C)(e:∀i k,i<n→k≤n→B i k=A i k):Rb n B R C:=
 ⟨h.R0,h.B0,fun i hi=>by rw[k8 (g:=fun k=>ab (A i k)) fun k hk=>by rw[e i k hi (by omega)]];exact h.row i hi,fun i hi=>by rw[e i n hi (Nat.le_refl n)];exact h.rhs i hi⟩
theorem GJ.congr{n c:Nat}{A B a:Mtx}{d:Int}(h:GJ n B c a d)(e:∀i k,i<n→k≤n→B i k=A i k)(hc:c≤n):GJ n A c a d:=by
 refine⟨by rw[h.dd];exact T2 fun i j hi hj=>e i j (by omega) (by omega),h.nz,h.on,fun j r hj hj' hr=> ?_,fun j r hj hj' hr hr'=> ?_⟩
 ·rw[← e r j (by omega) hj',← h.top j r hj hj' hr]
  exact k8 fun k hk=>by rw[e r k (by omega) (by omega)]
 ·rw[h.low j r hj hj' hr hr',e r j hr' hj']
  congr 1
  exact k8 fun k hk=>by rw[e r k hr' (by omega)]
theorem value_ok(ht:g9 t)(h:Sys t S op st w)(hp:∀i,i<S.length→Px S.length (WF st w) (wG S st w) i){choose:Li→Option Int}(hch:∀i s,S[i]? =some s→choose s=some (op i)):
  ∃L num,forR 0 (S.length:Int) (A7 t S choose) []=some L∧w7 S L=some (num,det S.length (eqN t S op st w))∧num.length=S.length∧det S.length (eqN t S op st w) ≠ 0∧
   (∀l,l<S.length→num[l]? =some (det S.length (rep (eqN t S op st w) l fun r=>eqN t S op st w r S.length)))∧
   ∀r,r<S.length→smN S.length (fun k=>eqN t S op st w r k * wtj num k)=det S.length (eqN t S op st w) * (WF st w r * cF t op r):=by
 obtain⟨L,l1,l2,l3⟩:=eqs_ok ht h hch
 have hM:=sys_ms ht h
 have hd:det S.length (mE L)=det S.length (eqN t S op st w):=T2 fun i k hi hk=>l3 i k hi (by omega)
 obtain⟨num,s1,s2,s3,s4,s5⟩:=solve_spec S h.n5 l2 ((sys_rb ht h).congr l3) (fun c a d hG hc=>(hG.congr l3 (by omega)).pivot hM hp hc)
 rw[hd] at s1 s3
 refine⟨L,num,l1,s1,s2,s3,fun l hl=> ?_,fun r hr=> ?_⟩
 ·rw[s4 l hl]
  congr 1
  exact T2 fun i k hi hk=>by
   unfold Ab.rep
   split
   ·exact l3 i _ hi (Nat.le_refl _)
   ·exact l3 i k hi (by omega)
 ·have:=s5 r hr
  rw[hd,l3 r _ hr (Nat.le_refl _)] at this
  rw[k8 (g:=fun k=>mE L r k * (num[k]?).getD 0) fun k hk=>by rw[l3 r k hr (by omega)];rfl,this]
  congr 1
  unfold eqN eqM;rw[if_pos rfl]
end
end Ab
end
section
namespace Ab
open Go
theorem euclid_eq{a b:Nat}(h:0<a∨0<b):Loop M2 ((a:Int),(b:Int))=some ((Nat.gcd a b:Nat):Int):=by
 obtain⟨o,h1,h2⟩:=E7 (body:=M2) (s:=((a:Int),(b:Int)))
  (fun s=>∃x y:Nat,s=((x:Int),(y:Int))∧Nat.gcd x y=Nat.gcd a b) (fun o=>o=((Nat.gcd a b:Nat):Int)) (fun s=>s.2.toNat) ⟨a,b,rfl,rfl⟩ (by
   rintro s ⟨x,y,rfl,e⟩
   unfold M2
   dsimp only
   by_cases c:0<y
   ·rw[if_pos (by omega),chkN,if_neg (by omega)]
    simp only[oB]
    refine .inl ⟨_,rfl,⟨y,x % y,?_,?_⟩,?_⟩
    ·rw[← Int.ofNat_tmod]
    ·rw[← e,Nat.gcd_comm y,← Nat.gcd_rec,Nat.gcd_comm]
    ·dsimp only
     rw[← Int.ofNat_tmod,Int.toNat_natCast,Int.toNat_natCast]
     exact Nat.mod_lt _ c
   ·rw[if_neg (by omega)]
    have:y=0:=by omega
    subst this
    rw[Nat.gcd_zero_right] at e
    exact .inr ⟨_,rfl,by rw[e]⟩)
 rw[h1,h2]
end Ab
end
section
namespace Ab
open Go
def Lt{α:Type}(x y:Option α):Prop:=∀r,x=some r→y=some r
theorem Lt.rfl'{α:Type}{x:Option α}:Lt x x:=fun _ h=>h
theorem Lt.bind{α β:Type}{x y:Option α}{f g:α→Option β}(h:Lt x y)(k:∀a,Lt (f a) (g a)):Lt (x.bind f) (y.bind g):=fun r hr=>by
 obtain⟨a,h1,h2⟩:=bind_some hr
 rw[h a h1];exact k a r h2
theorem Lt.rngN{S O:Type}{f g:Int→S→Option (S⊕O)}(h:∀i s,Lt (f i s) (g i s)):∀(k:Nat) (i:Int) (s:S),Lt (rngN f k i s) (rngN g k i s)
 |0,_,_=>Lt.rfl'
 |k+1,i,s=>fun r hr=>by
  simp only[Ab.rngN] at hr ⊢
  cases hf:f i s with
  |none=>rw[hf] at hr;cases hr
  |some x=>
   rw[h i s x hf]
   rw[hf] at hr
   cases x with
   |inl s'=>exact Lt.rngN h k (i+1) s' r hr
   |inr o=>exact hr
theorem Lt.rngX{S O:Type}{f g:Int→S→Option (S⊕O)}{lo n:Int}{s:S}(h:∀i s,Lt (f i s) (g i s)):Lt (rngX lo n f s) (rngX lo n g s):=Lt.rngN h _ _ _
theorem Lt.LoopN{S O:Type}{f g:S→Option (S⊕O)}(h:∀s,Lt (f s) (g s)):∀(k:Nat) (s:S),Lt (LoopN f k s) (LoopN g k s)
 |0,_=>Lt.rfl'
 |k+1,s=>fun r hr=>by
  simp only[Ab.LoopN] at hr ⊢
  cases hf:f s with
  |none=>rw[hf] at hr;cases hr
  |some x=>
   rw[h s x hf]
   rw[hf] at hr
   cases x with
   |inl s'=>exact Lt.LoopN h k s' r hr
   |inr o=>exact hr
theorem Lt.Loop{S O:Type}{f g:S→Option (S⊕O)}{s:S}(h:∀s,Lt (f s) (g s)):Lt (Loop f s) (Loop g s):=fun r hr=>by
 obtain⟨n,hn⟩:=ab8.1 hr
 exact ab8.2 ⟨n,Lt.LoopN h n s r hn⟩
end Ab
end
section
namespace Ab
open Go
def frN(a b:Nat):u5:=⟨((a / Nat.gcd a b:Nat):Int),((b / Nat.gcd a b:Nat):Int)⟩
theorem frN_eq{a b c d:Nat}(hb:0<b)(hd:0<d)(h:a * d=c * b):frN a b=frN c d:=by
 have g0:0<Nat.gcd a b:=Nat.gcd_pos_of_pos_right a hb
 have g1:0<Nat.gcd c d:=Nat.gcd_pos_of_pos_right c hd
 obtain⟨a',ea⟩:=Nat.gcd_dvd_left a b
 obtain⟨b',eb⟩:=Nat.gcd_dvd_right a b
 obtain⟨c',ec⟩:=Nat.gcd_dvd_left c d
 obtain⟨d',ed⟩:=Nat.gcd_dvd_right c d
 have co1:Nat.Coprime a' b':=by
  have h1:a'=a / Nat.gcd a b:=by rw (occs:=.pos [1]) [ea];exact(Nat.mul_div_cancel_left _ g0).symm ▸ rfl
  have h2:b'=b / Nat.gcd a b:=by rw (occs:=.pos [1]) [eb];exact(Nat.mul_div_cancel_left _ g0).symm ▸ rfl
  rw[h1,h2];exact Nat.coprime_div_gcd_div_gcd g0
 have co2:Nat.Coprime c' d':=by
  have h1:c'=c / Nat.gcd c d:=by rw (occs:=.pos [1]) [ec];exact(Nat.mul_div_cancel_left _ g1).symm ▸ rfl
  have h2:d'=d / Nat.gcd c d:=by rw (occs:=.pos [1]) [ed];exact(Nat.mul_div_cancel_left _ g1).symm ▸ rfl
  rw[h1,h2];exact Nat.coprime_div_gcd_div_gcd g1
 have e:a' * d'=c' * b':=by
  have h1:(Nat.gcd a b * Nat.gcd c d) * (a' * d')=(Nat.gcd a b * Nat.gcd c d) * (c' * b'):=by
   have h2:(Nat.gcd a b * Nat.gcd c d) * (a' * d')=a * d:=by
    have:(Nat.gcd a b * Nat.gcd c d) * (a' * d')=(Nat.gcd a b * a') * (Nat.gcd c d * d'):=by grind
    rw[this,← ea,← ed]
   have h3:(Nat.gcd a b * Nat.gcd c d) * (c' * b')=c * b:=by
    have:(Nat.gcd a b * Nat.gcd c d) * (c' * b')=(Nat.gcd c d * c') * (Nat.gcd a b * b'):=by grind
    rw[this,← ec,← eb]
   rw[h2,h3,h]
  exact Nat.eq_of_mul_eq_mul_left (Nat.mul_pos g0 g1) h1
 have hdb:d' ∣ b':=by
  have:d' ∣ c' * b':=⟨a',by rw[← e,Nat.mul_comm]⟩
  exact Nat.Coprime.dvd_of_dvd_mul_left co2.symm this
 have hbd:b' ∣ d':=by
  have:b' ∣ a' * d':=⟨c',by rw[e,Nat.mul_comm]⟩
  exact Nat.Coprime.dvd_of_dvd_mul_left co1.symm this
 have hbd':b'=d':=Nat.dvd_antisymm hbd hdb
 have b0:0<b':=by
  rcases Nat.eq_zero_or_pos b' with q|q
  ·rw[q,Nat.mul_zero] at eb;omega
  ·exact q
 have hac:a'=c':=by
  rw[← hbd'] at e
  exact Nat.eq_of_mul_eq_mul_right b0 e
 have v1:a / Nat.gcd a b=a':=by rw (occs:=.pos [1]) [ea];exact Nat.mul_div_cancel_left _ g0
 have v2:b / Nat.gcd a b=b':=by rw (occs:=.pos [1]) [eb];exact Nat.mul_div_cancel_left _ g0
 have v3:c / Nat.gcd c d=c':=by rw (occs:=.pos [1]) [ec];exact Nat.mul_div_cancel_left _ g1
 have v4:d / Nat.gcd c d=d':=by rw (occs:=.pos [1]) [ed];exact Nat.mul_div_cancel_left _ g1
 unfold frN
 rw[v1,v2,v3,v4,hac,hbd']
theorem w64n{n:Nat}(h:n≤4000000000000000000):w64 (n:Int)=n:=m5 (by omega) (by omega)
theorem lowest_pos{a b:Nat}(ha:a≤4000000000000000000)(hb:b≤4000000000000000000)(hb0:0<b):C7 (a:Int) (b:Int)=some (frN a b,dec ((frN a b).num≤1000000000∧(frN a b).den≤1000000000)):=by
 have g0:0<Nat.gcd a b:=Nat.gcd_pos_of_pos_right a hb0
 unfold C7
 rw[if_neg (by omega)]
 simp only[oB]
 have hm:max (a:Int) (w64 (0 - (a:Int)))=a:=by
  rw[m5 (by omega) (by omega)];omega
 rw[hm,euclid_eq (.inr hb0)]
 have hg:chkN ((Nat.gcd a b:Nat):Int)=some ():=by unfold chkN;rw[if_neg (by omega)]
 have da:((a:Int)).tdiv ((Nat.gcd a b:Nat):Int)=((a / Nat.gcd a b:Nat):Int):=(Int.ofNat_tdiv _ _).symm
 have db:((b:Int)).tdiv ((Nat.gcd a b:Nat):Int)=((b / Nat.gcd a b:Nat):Int):=(Int.ofNat_tdiv _ _).symm
 have la:a / Nat.gcd a b≤4000000000000000000:=Nat.le_trans (Nat.div_le_self _ _) ha
 have lb:b / Nat.gcd a b≤4000000000000000000:=Nat.le_trans (Nat.div_le_self _ _) hb
 simp only[hg,oB,da,db,w64n la,w64n lb]
 unfold frN
 dsimp only
 generalize a / Nat.gcd a b=x at *
 generalize b / Nat.gcd a b=y at *
 have hm2:max (x:Int) (w64 (0 - (x:Int)))=x:=by
  rw[m5 (by omega) (by omega)];omega
 rw[hm2]
 congr 2
 by_cases c:(x:Int)≤1000000000∧(y:Int)≤1000000000
 ·rw[j6 c];simp;omega
 ·rw[m8 c];simp;omega
theorem lowest_neg{a b:Nat}(ha:a≤4000000000000000000)(hb:b≤4000000000000000000)(hb0:0<b):C7 (-(a:Int)) (-(b:Int))=C7 (a:Int) (b:Int):=by
 unfold C7
 rw[if_pos (by omega),if_neg (by omega)]
 have e1:w64 (0 - -(a:Int))=a:=by rw[show(0:Int) - -(a:Int)=a by omega];exact w64n ha
 have e2:w64 (0 - -(b:Int))=b:=by rw[show(0:Int) - -(b:Int)=b by omega];exact w64n hb
 rw[e1,e2]
structure Sq(n:Nat)(M:LL):Prop where
 len:M.length=n
 row:∀r ∈ M,r.length=n
theorem Sq.get{n:Nat}{M:LL}(h:Sq n M){i:Nat}(hi:i<n):∃row,M[i]? =some row∧row.length=n∧ix M (i:Int)=some row∧∀j,j<n→ix row (j:Int)=some (mE M i j)∧row[j]? =some (mE M i j):=by
 have hl:i<M.length:=by rw[h.len];exact hi
 have e:M[i]? =some M[i]:=List.getElem?_eq_getElem hl
 have hr:=h.row _ (List.getElem_mem hl)
 refine⟨M[i],e,hr,by rw[n9,e],fun j hj=> ?_⟩
 have hj':j<M[i].length:=by omega
 have e2:M[i][j]? =some M[i][j]:=List.getElem?_eq_getElem hj'
 have:mE M i j=M[i][j]:=by unfold mE;rw[e];simp[e2]
 rw[n9,e2,this]
 exact⟨rfl,rfl⟩
def Bd(n:Nat)(A:Mtx):Prop:=∃l,(∀i,i<n→smN n (fun j=>if j=l then 0 else ab (A i j))≤48)∧(l<n→∀i,i<n→ab (A i l)≤2400)
theorem Bd.det{n:Nat}{A:Mtx}(hn:n≤5)(h:Bd n A):ab (det n A)≤63700992000:=by
 obtain⟨l,h1,h2⟩:=h
 by_cases e:l<n
 ·obtain⟨m,rfl⟩:∃m,n=m+1:=⟨n - 1,by omega⟩
  have:=aj5 (R:=48) (B:=2400) (by omega) (by omega) e h1 (h2 e)
  have h5:m=0∨m=1∨m=2∨m=3∨m=4:=by omega
  refine Int.le_trans this ?_
  rcases h5 with rfl|rfl|rfl|rfl|rfl<;>decide
 ·have:=ad5 (n:=n) (A:=A) (r:=fun _=>48) (fun _=>by omega) fun i hi=>by
   have:=h1 i hi
   rwa [k8 (g:=fun j=>ab (A i j)) fun j hj=>by rw[if_neg (by omega)]] at this
  rw[ac9] at this
  have h5:n=0∨n=1∨n=2∨n=3∨n=4∨n=5:=by omega
  refine Int.le_trans this ?_
  rcases h5 with rfl|rfl|rfl|rfl|rfl|rfl<;>decide
end Ab
end
section
namespace Ab
open Go
theorem Lt.forN{S:Type}{f g:Int→S→Option S}(h:∀i s,Lt (f i s) (g i s)):∀(k:Nat) (i:Int) (s:S),Lt (forN f k i s) (forN g k i s)
 |0,_,_=>Lt.rfl'
 |k+1,i,s=>fun r hr=>by
  simp only[Ab.forN] at hr ⊢
  cases hf:f i s with
  |none=>rw[hf] at hr;cases hr
  |some x=>
   rw[h i s x hf]
   rw[hf] at hr
   exact Lt.forN h k (i+1) x r hr
theorem Lt.forR{S:Type}{f g:Int→S→Option S}{lo n:Int}{s:S}(h:∀i s,Lt (f i s) (g i s)):Lt (forR lo n f s) (forR lo n g s):=Lt.forN h _ _ _
end Ab
end
section
namespace Ab
open Go
section
variable {t:b7}{S:LL}{op:Nat→Int}{st:Nat→LL}{w:Nat→Li}
end
end Ab
end
section
namespace Ab
open Go
/-! ### Values of ordered states -/
noncomputable def sc(t:b7)(s:Li)(op:Int):LL:=(ooAt t op).outcomes.map (efc t.facts s)
structure Rep{A:Type}(all:LL)(v:List A)(f:Li→A):Prop where
 len:v.length=all.length
 get:∀{i:Int} {s:Li},ix all i=some s→ix v i=some (f s)
noncomputable def upd{A:Type}(f:Li→A)(s:Li)(x:A):Li→A:=fun z=>if dec (z=s)=true then x else f z
theorem L9{A:Type}{f:Li→A}{s:Li}{x:A}:upd f s x s=x:=ifP rfl
theorem aa4{A:Type}{f:Li→A}{s z:Li}{x:A}(h:z ≠ s):upd f s x z=f z:=ifN h
section
variable {A:Type}{all:LL}{v:List A}{f g:Li→A}
theorem Rep.of(h:Rep all v f){s:Li}(hs:s ∈ all):∃i,ix all i=some s∧ix v i=some (f s):=by
 obtain⟨i,_,_,hi⟩:=m6 hs
 exact⟨i,hi,h.get hi⟩
theorem Rep.set(ho:Ord all)(h:Rep all v f){i:Int}{s:Li}(hi:ix all i=some s)(x:A):Rep all (v.set i.toNat x) (upd f s x):=by
 obtain⟨i0,i1,_⟩:=l9 hi
 have hl:=h.len
 refine⟨by rw[lS];exact hl,fun {j z} hj=> ?_⟩
 rw[ix_put i0 (by omega) (l9 hj).1]
 by_cases e:j=i
 ·subst e
  rw[hi] at hj;cases hj
  rw[if_pos rfl,L9]
 ·rw[if_neg e,aa4 (fun hz=>e (by subst hz;exact ho.inj hj hi))]
  exact h.get hj
theorem Rep.congr(h:Rep all v f)(e:∀s ∈ all,f s=g s):Rep all v g:=⟨h.len,fun hi=>by rw[← e _ (i6 hi)];exact h.get hi⟩
theorem Rep.repl(c:A):Rep all (List.replicate all.length c) fun _=>c:=⟨by simp,fun {i s} hi=>by
 obtain⟨i0,i1,g⟩:=l9 hi
 have:i.toNat<all.length:=(lG.1 g).1
 rw[ix,if_pos i0,List.getElem?_replicate,if_pos this]⟩
end
theorem repeat_eq(c:Int){n:Nat}(h1:1≤n)(hn:n≤100000):B3 [c] (n:Int)=some (List.replicate n c):=by
 unfold B3
 dsimp only
 rw[if_pos (show(1:Int)≤n∧(n:Int)≤4294967295 by omega)]
 simp
def DnA(t:b7):Nat→Li→Prop
 |0,s=>g7 t s
 |k+1,s=>g7 t s∨∃op:Int,(0≤op∧op<t.operators.length)∧oCan t s op∧∀y ∈ sc t s op,DnA t k y
section
variable {t:b7}
theorem DnA.goal{k:Nat}{s:Li}(h:g7 t s):DnA t k s:=by
 cases k with
 |zero=>exact h
 |succ k=>exact .inl h
theorem DnA.succ:∀{k:Nat} {s:Li},DnA t k s→DnA t (k+1) s
 |0,s,h=>.inl h
 |k+1,s,h=>by
  rcases h with h|⟨op,h1,h2,h3⟩
  ·exact .inl h
  ·exact .inr ⟨op,h1,h2,fun y hy=>DnA.succ (h3 y hy)⟩
theorem DnA.mono{k m:Nat}{s:Li}(h:DnA t k s)(hm:k≤m):DnA t m s:=by
 induction hm with
 |refl=>exact h
 |step _ ih=>exact ih.succ
def HtA(t:b7)(k:Nat)(s:Li):Prop:=DnA t k s∧∀j,j<k→¬ DnA t j s
theorem HtA.zero{s:Li}(h:g7 t s):HtA t 0 s:=⟨h,fun j hj=>by omega⟩
theorem HtA.of_not{k:Nat}{s:Li}(h:DnA t (k+1) s)(hn:¬ DnA t k s):HtA t (k+1) s:=⟨h,fun j hj hd=>hn (hd.mono (by omega))⟩
structure ClO(t:b7)(all:LL):Prop where
 cl:Cl t all
 ord:Ord all
theorem ClO.len{all:LL}(h:ClO t all):all.length≤2000:=h.cl.len
theorem ClO.set{all:LL}(h:ClO t all){s:Li}(hs:s ∈ all):SetN s t.facts:=h.cl.set s hs
theorem ClO.sc{all:LL}(h:ClO t all){s:Li}(hs:s ∈ all){op:Int}(h0:0≤op∧op<t.operators.length)(hc:oCan t s op){y:Li}(hy:y ∈ sc t s op):y ∈ all:=by
 obtain⟨x,hx,rfl⟩:=List.mem_map.1 hy
 exact h.cl.closed s hs op h0.1 h0.2 hc x hx
end
end Ab
end
section
namespace Ab
open Go
/-! ### Loops that do the same, till one of them gives up -/
section
variable {t:b7}{m:Int}
end
end Ab
end
section
namespace Ab
open Go
def sumN(l:Li):Nat:=(l.map Int.toNat).sum
theorem sumN_set:∀{l:Li} {i:Nat} {x y:Int},l[i]? =some y→0≤x→x<y→sumN (l.set i x)<sumN l
 |[],_,_,_,h,_,_=>by simp at h
 |a::l,0,x,y,h,h0,h1=>by
  simp only[List.getElem?_cons_zero,Option.some.injEq] at h
  subst h
  simp only[sumN,List.set_cons_zero,List.map_cons,List.sum_cons]
  omega
 |a::l,i+1,x,y,h,h0,h1=>by
  have:=sumN_set (l:=l) (i:=i) (by simpa using h) h0 h1
  simp only[sumN,List.set_cons_succ,List.map_cons,List.sum_cons] at this ⊢
  omega
end Ab
end
section
namespace Ab
open Go
section
variable {t:b7}
def DsC(t:b7)(S:Li→Prop):Nat→Li→Prop
 |0,s=>g7 t s
 |k+1,s=>g7 t s∨(S s∧∃op:Int,(0≤op∧op<t.operators.length)∧oCan t s op∧(∀y ∈ sc t s op,S y)∧∃y ∈ sc t s op,DsC t S k y)
variable {S T:Li→Prop}
theorem DsC.goal{k:Nat}{s:Li}(h:g7 t s):DsC t S k s:=by
 cases k with
 |zero=>exact h
 |succ k=>exact .inl h
theorem DsC.succ:∀{k:Nat} {s:Li},DsC t S k s→DsC t S (k+1) s
 |0,s,h=>.inl h
 |k+1,s,h=>by
  rcases h with h|⟨h0,op,h1,h2,h3,y,hy,h4⟩
  ·exact .inl h
  ·exact .inr ⟨h0,op,h1,h2,h3,y,hy,h4.succ⟩
theorem DsC.mono{k m:Nat}{s:Li}(h:DsC t S k s)(hm:k≤m):DsC t S m s:=by
 induction hm with
 |refl=>exact h
 |step _ ih=>exact ih.succ
theorem DsC.sub(hST:∀s,S s→T s):∀{k:Nat} {s:Li},DsC t S k s→DsC t T k s
 |0,s,h=>h
 |k+1,s,h=>by
  rcases h with h|⟨h0,op,h1,h2,h3,y,hy,h4⟩
  ·exact .inl h
  ·exact .inr ⟨hST s h0,op,h1,h2,fun z hz=>hST z (h3 z hz),y,hy,h4.sub hST⟩
def HtD(t:b7)(S:Li→Prop)(k:Nat)(s:Li):Prop:=DsC t S k s∧∀j,j<k→¬ DsC t S j s
theorem HtD.unique{k m:Nat}{s:Li}(h:HtD t S k s)(h':HtD t S m s):k=m:=by
 rcases Nat.lt_trichotomy k m with c|c|c
 ·exact absurd h.1 (h'.2 k c)
 ·exact c
 ·exact absurd h'.1 (h.2 m c)
theorem HtD.of_dn:∀{k:Nat} {s:Li},DsC t S k s→∃m,m≤k∧HtD t S m s
 |0,s,h=>⟨0,Nat.le_refl _,h,fun j hj=>by omega⟩
 |k+1,s,h=>by
  by_cases c:DsC t S k s
  ·obtain⟨m,h1,h2⟩:=HtD.of_dn c
   exact⟨m,by omega,h2⟩
  ·exact⟨k+1,Nat.le_refl _,h,fun j hj hd=>c (hd.mono (by omega))⟩
theorem HtD.of_not{k:Nat}{s:Li}(h:DsC t S (k+1) s)(hn:¬ DsC t S k s):HtD t S (k+1) s:=⟨h,fun j hj hd=>hn (hd.mono (by omega))⟩
theorem HtD.step{k:Nat}{s:Li}(h:HtD t S (k+1) s):¬ g7 t s∧S s∧∃op:Int,(0≤op∧op<t.operators.length)∧oCan t s op∧(∀y ∈ sc t s op,S y)∧∃y ∈ sc t s op,HtD t S k y:=by
 have hg:¬ g7 t s:=fun g=>h.2 0 (by omega) g
 rcases h.1 with g|⟨h0,op,h1,h2,h3,y,hy,h4⟩
 ·exact absurd g hg
 ·refine⟨hg,h0,op,h1,h2,h3,y,hy,h4,fun j hj hd=> ?_⟩
  exact h.2 (j+1) (by omega) (.inr ⟨h0,op,h1,h2,h3,y,hy,hd⟩)
theorem HtD.chain{all:LL}(hc:ClO t all):∀{k:Nat} {s:Li},s ∈ all→HtD t S k s→∃c:LL,c.length=k+1∧c.Nodup∧∀x ∈ c,x ∈ all∧∃j,j≤k∧HtD t S j x
 |0,s,hs,h=>⟨[s],rfl,by simp,fun x hx=>by rw[List.mem_singleton.1 hx];exact⟨hs,0,Nat.le_refl _,h⟩⟩
 |k+1,s,hs,h=>by
  obtain⟨_,_,op,h1,h2,_,y,hy,h4⟩:=h.step
  obtain⟨c,c1,c2,c3⟩:=HtD.chain hc (hc.sc hs h1 h2 hy) h4
  refine⟨s::c,by simp[c1],List.nodup_cons.2 ⟨fun hm=> ?_,c2⟩,fun x hx=> ?_⟩
  ·obtain⟨_,j,j1,j2⟩:=c3 s hm
   have:=j2.unique h;omega
  ·rcases List.mem_cons.1 hx with rfl|hx
   ·exact⟨hs,k+1,Nat.le_refl _,h⟩
   ·obtain⟨q0,j,q1,q2⟩:=c3 x hx
    exact⟨q0,j,by omega,q2⟩
theorem HtD.lt{all:LL}(hc:ClO t all){k:Nat}{s:Li}(hs:s ∈ all)(h:HtD t S k s):k<all.length:=by
 obtain⟨c,c1,c2,c3⟩:=h.chain hc hs
 have:=S9 c2 fun x hx=>(c3 x hx).1
 omega
/-! ### Lists of numbers -/
theorem as6{l:Li}{f:Int→Option Bool}{p:Int→Prop}(h:∀x ∈ l,f x=some (dec (p x))):n7 l f=some (dec (∃x ∈ l,p x)):=by
 unfold n7 C0
 rcases x9 (body:=w6 l f) (n:=(l.length:Int)) (fun j=>if dec (∃x,ix l j=some x∧p x)=true then some j else none) (by omega) (fun j h0 h1 _=>by
  obtain⟨x,hx,_⟩:=i5 (l:=l) h0 h1
  unfold w6
  simp only[hx,oB,h x (i6 hx)]
  by_cases e:p x
  ·rw[ifP e,ifP ⟨x,rfl,e⟩]
  ·rw[ifN e,ifN (by rintro ⟨z,hz,hp⟩;cases hz;exact e hp)]) with⟨h1,h2⟩|⟨j,o,h0,h1,h2,h3,h4⟩
 ·rw[h1]
  simp only[oB]
  rw[m8]
  ·rfl
  ·rintro ⟨x,hx,hp⟩
   obtain⟨i,i0,i1,hi⟩:=m6 hx
   have:=h2 i i0 i1
   rw[ifP ⟨x,hi,hp⟩] at this
   cases this
 ·rw[h4]
  split at h2
  ·rename_i e
   cases h2
   simp only[oB]
   obtain⟨x,hx,hp⟩:=k7.1 e
   rw[j6 ⟨x,i6 hx,hp⟩,decide_eq_true h0]
  ·cases h2
theorem containsFL_eq{l:LL}{f:Li→Option Bool}{p:Li→Prop}(h:∀x ∈ l,f x=some (dec (p x))):p8 l f=some (dec (∃x ∈ l,p x)):=by
 unfold p8 s7
 rcases x9 (body:=q8 l f) (n:=(l.length:Int)) (fun j=>if dec (∃x,ix l j=some x∧p x)=true then some j else none) (by omega) (fun j h0 h1 _=>by
  obtain⟨x,hx,_⟩:=i5 (l:=l) h0 h1
  unfold q8
  simp only[hx,oB,h x (i6 hx)]
  by_cases e:p x
  ·rw[ifP e,ifP ⟨x,rfl,e⟩]
  ·rw[ifN e,ifN (by rintro ⟨z,hz,hp⟩;cases hz;exact e hp)]) with⟨h1,h2⟩|⟨j,o,h0,h1,h2,h3,h4⟩
 ·rw[h1]
  simp only[oB]
  rw[m8]
  ·rfl
  ·rintro ⟨x,hx,hp⟩
   obtain⟨i,i0,i1,hi⟩:=m6 hx
   have:=h2 i i0 i1
   rw[ifP ⟨x,hi,hp⟩] at this
   cases this
 ·rw[h4]
  split at h2
  ·rename_i e
   cases h2
   simp only[oB]
   obtain⟨x,hx,hp⟩:=k7.1 e
   rw[j6 ⟨x,i6 hx,hp⟩,decide_eq_true h0]
  ·cases h2
/-! ### The numbers of the states after an operator -/
def ArcL(t:b7)(all:LL)(s:Li)(op:Int)(l:Li):Prop:=(oCan t s op∧∀k,k ∈ l↔∃y ∈ sc t s op,ix all k=some y)∨(¬ oCan t s op∧l=[])
structure ArcsOk(t:b7)(all:LL)(nx:List (LL)):Prop where
 len:nx.length=all.length
 row:∀i s,ix all i=some s→∃r,ix nx i=some r∧r.length=t.operators.length∧∀op l,ix r op=some l→ArcL t all s op l
theorem ix_set_same{A:Type}{l:List A}{i:Int}{x y:A}(h:ix l i=some y):ix (l.set i.toNat x) i=some x:=by
 obtain⟨i0,i1,_⟩:=l9 h
 rw[ix_put i0 i1 i0,if_pos rfl]
theorem arcs_eq(ht:g9 t){all:LL}(hc:ClO t all):∃nx,aa7 t all=some nx∧ArcsOk t all nx:=by
 have hlen:=hc.len
 have hops:=ht.ops
 unfold aa7
 rw[show mkL 24 (all.length:Int) ([]:LL)=some (List.replicate all.length []) by rw[mkL,if_pos (by omega)];simp]
 simp only[oB]
 obtain⟨nx,h1,h2,h3⟩:=r8 (body:=Y2 t all) (n:=(all.length:Int)) (s:=List.replicate all.length ([]:LL)) (fun j nx=>nx.length=all.length∧∀i s,i<j→ix all i=some s→∃r,ix nx i=some r∧r.length=t.operators.length∧∀op l,ix r op=some l→ArcL t all s op l) (by omega) ⟨by simp,fun i s hi hs=>by have:=(l9 hs).1;omega⟩ (fun j nx j0 j1 ⟨a1,a2⟩=>by
  obtain⟨s,hs,_⟩:=i5 (l:=all) j0 j1
  have hsm:=i6 hs
  have hset:=hc.set hsm
  obtain⟨r0,hr0,_⟩:=i5 (l:=nx) j0 (by omega)
  unfold Y2
  rw[hs]
  simp only[oB]
  rw[show mkL 24 (t.operators.length:Int) ([]:Li)=some (List.replicate t.operators.length []) by rw[mkL,if_pos (by omega)];simp]
  simp only[oB,hr0]
  obtain⟨r,r1,r2,r3⟩:=r8 (body:=X7 t all s) (n:=(t.operators.length:Int)) (s:=List.replicate t.operators.length ([]:Li)) (fun k r=>r.length=t.operators.length∧(∀op l,op<k→ix r op=some l→ArcL t all s op l)∧∀op l,k≤op→ix r op=some l→l=[]) (by omega) ⟨by simp,fun op l h0 h=>by have:=(l9 h).1;omega,fun op l _ h=>List.eq_of_mem_replicate (i6 h)⟩ (fun k r k0 k1 ⟨b1,b2,b3⟩=>by
   unfold X7
   rw[ak0 ht k0 k1 hset]
   simp only[oB,w3]
   by_cases cc:oCan t s k
   ·rw[ifNN cc]
    obtain⟨st,ws,q1,_,q3,q4,_⟩:=I0 ht k0 k1 hset
    have hst:∀y,y ∈ st↔y ∈ sc t s k:=fun y=>by rw[q3,sc,List.mem_map]
    rw[q1]
    simp only[oB]
    obtain⟨l0,hl0,_⟩:=i5 (l:=r) k0 (by omega)
    have e0:l0=[]:=b3 k l0 (Int.le_refl _) hl0
    subst e0
    obtain⟨r',d1,d2,l',d3,d4,d5⟩:=r8 (body:=Y1 all k (st,ws)) (n:=(st.length:Int)) (s:=r) (fun m r'=>r'.length=r.length∧∃l,r'=r.set k.toNat l∧(l.length:Int)≤m∧∀z,z ∈ l↔∃q y,0≤q∧q<m∧ix st q=some y∧ix all z=some y) (by omega) ⟨rfl,[],(by
     have:=(l9 hl0).2.2
     refine(List.ext_getElem? fun i=> ?_)
     rw[List.getElem?_set]
     split
     ·rename_i e;subst e;rw[if_pos (lG.1 this).1,this]
     ·rfl),by simp,fun z=>⟨fun h=>by(cases h),fun⟨q,y,q0,q1,_⟩=>by omega⟩⟩ (fun m r' m0 m1 ⟨e1,l,e2,e3,e4⟩=>by
     obtain⟨y,hy,_⟩:=i5 (l:=st) m0 m1
     have hya:=hc.sc hsm ⟨k0,k1⟩ cc ((hst y).1 (i6 hy))
     obtain⟨z,z0,z1,hz⟩:=m6 hya
     have hg:ix r' k=some l:=by rw[e2];exact ix_set_same hl0
     unfold Y1
     dsimp only
     rw[hy]
     simp only[oB,hg,O4 hc.ord (show all.length≤500000 by omega) hz]
     rw[app,if_pos (by simp;omega)]
     simp only[oB]
     refine⟨_,rfl,by rw[lS];exact e1,l++[z],by rw[e2,List.set_set],by simp;omega,fun z'=> ?_⟩
     rw[List.mem_append,List.mem_singleton,e4]
     constructor
     ·rintro (⟨q,y',q0,q1,q2,q3⟩|rfl)
      ·exact⟨q,y',q0,by omega,q2,q3⟩
      ·exact⟨m,y,m0,by omega,hy,hz⟩
     ·rintro ⟨q,y',q0,q1,q2,q3⟩
      by_cases e:q=m
      ·subst e;rw[hy] at q2;cases q2
       exact .inr (hc.ord.inj q3 hz)
      ·exact .inl ⟨q,y',q0,by omega,q2,q3⟩)
    rw[d1]
    simp only[oB]
    refine⟨_,rfl,by omega,fun op l ho hl=> ?_,fun op l ho hl=> ?_⟩
    ·rw[d3] at hl
     rcases(by
      have:=(l9 hl).1
      rw[ix_put k0 (by omega) this] at hl
      by_cases e:op=k
      ·rw[if_pos e] at hl;exact .inl ⟨e,Option.some.inj hl⟩
      ·rw[if_neg e] at hl;exact .inr ⟨e,hl⟩:(op=k∧l'=l)∨(op ≠ k∧ix r op=some l)) with⟨rfl,rfl⟩|⟨e,hl⟩
     ·refine .inl ⟨cc,fun z=> ?_⟩
      rw[d5]
      constructor
      ·rintro ⟨q,y,_,_,q2,q3⟩;exact⟨y,(hst y).1 (i6 q2),q3⟩
      ·rintro ⟨y,hy,hz⟩
       obtain⟨q,q0,q1,hq⟩:=m6 ((hst y).2 hy)
       exact⟨q,y,q0,q1,hq,hz⟩
     ·exact b2 op l (by omega) hl
    ·rw[d3,ix_put k0 (by omega) (by omega),if_neg (by omega)] at hl
     exact b3 op l (by omega) hl
   ·rw[ifP cc]
    refine⟨_,rfl,b1,fun op l ho hl=> ?_,fun op l ho hl=>b3 op l (by omega) hl⟩
    by_cases e:op=k
    ·subst e;exact .inr ⟨cc,b3 op l (Int.le_refl _) hl⟩
    ·exact b2 op l (by omega) hl)
  rw[r1]
  simp only[oB]
  refine⟨_,rfl,by rw[lS];exact a1,fun i z hi hz=> ?_⟩
  by_cases e:i=j
  ·subst e
   rw[hs] at hz;cases hz
   exact⟨r,ix_set_same hr0,r2,fun op l hl=>r3.1 op l (by have:=(l9 hl).2.1;omega) hl⟩
  ·obtain⟨r',g1,g2⟩:=a2 i z (by omega) hz
   exact⟨r',by rw[ix_put j0 (by omega) (l9 hz).1,if_neg e];exact g1,g2⟩)
 rw[h1]
 exact⟨nx,rfl,h2,fun i s hs=>h3 i s (l9 hs).2.1 hs⟩
end
end Ab
end
section
namespace Ab
open Go
theorem sumN_le{l:Li}{i:Nat}{x y:Int}(h:l[i]? =some y)(h0:0≤x)(h1:x≤y):sumN (l.set i x)≤sumN l:=by
 by_cases e:x=y
 ·subst e
  have:l.set i x=l:=by
   refine List.ext_getElem? fun k=> ?_
   rw[List.getElem?_set]
   split
   ·rename_i e;subst e;rw[if_pos (lG.1 h).1,h]
   ·rfl
  rw[this];exact Nat.le_refl _
 ·exact Nat.le_of_lt (sumN_set h h0 (by omega))
section
variable {t:b7}{S:Li→Prop}{all:LL}
noncomputable def sfl(S:Li→Prop)(s:Li):Int:=if dec (S s)=true then 1 else 0
theorem U6{s:Li}(h:S s):sfl S s=1:=ifP h
theorem ad4{s:Li}(h:¬ S s):sfl S s=0:=ifN h
theorem measure1{sv d:Li}{f:Li→Int}(hs:Rep all sv (sfl S))(hd:Rep all d f){layer:Int}(hl:0≤layer∧layer≤1000000){l:Li}(hk:∀k ∈ l,∃s,ix all k=some s):
  H1 l sv d layer=some (dec (l ≠ []∧(∀k ∈ l,∀s,ix all k=some s→S s)∧∃k ∈ l,∃s,ix all k=some s∧f s=layer - 1)):=by
 have e1:U1 l sv=some (dec (l ≠ []∧∀k ∈ l,∀s,ix all k=some s→S s)):=by
  unfold U1
  by_cases c:0<(l.length:Int)
  ·rw[if_pos c,as6 (p:=fun k=>∃s,ix all k=some s∧¬ S s) (fun k hk2=>by
    obtain⟨s,hsk⟩:=hk k hk2
    unfold V1
    rw[hs.get hsk]
    simp only[oB]
    by_cases e:S s
    ·rw[U6 e,m8 (by rintro ⟨z,hz,hn⟩;rw[hsk] at hz;cases hz;exact hn e)]
     rfl
    ·rw[ad4 e,j6 ⟨s,hsk,e⟩]
     rfl)]
   simp only[oB,w3]
   congr 1
   refine u6 ⟨fun h=>⟨fun e=>by rw[e] at c;simp at c,fun k hk2 s hsk=>Classical.byContradiction fun hn=>h ⟨k,hk2,s,hsk,hn⟩⟩,fun h=> ?_⟩
   rintro ⟨k,hk2,s,hsk,hn⟩
   exact hn (h.2 k hk2 s hsk)
  ·rw[if_neg c,m8]
   ·rfl
   ·exact fun h=>h.1 (List.eq_nil_of_length_eq_zero (by omega))
 unfold H1
 rw[e1]
 simp only[oB]
 by_cases c:l ≠ []∧∀k ∈ l,∀s,ix all k=some s→S s
 ·rw[ifP c,as6 (p:=fun k=>∃s,ix all k=some s∧f s=layer - 1) (fun k hk2=>by
   obtain⟨s,hsk⟩:=hk k hk2
   unfold P0
   rw[hd.get hsk,m5 (by omega) (by omega)]
   simp only[oB,E3]
   congr 1
   refine u6 ⟨fun e=>⟨s,hsk,e⟩,?_⟩
   rintro ⟨z,hz,e⟩
   rw[hsk] at hz;cases hz;exact e)]
  simp only[oB]
  congr 1
  exact u6 ⟨fun h=>⟨c.1,c.2,h⟩,fun h=>h.2.2⟩
 ·rw[ifN c]
  simp only[oB]
  rw[m8]
  exact fun h=>c ⟨h.1,h.2.1⟩
def StepC(t:b7)(S:Li→Prop)(f:Li→Int)(s:Li)(v:Int):Prop:=∃op:Int,(0≤op∧op<t.operators.length)∧oCan t s op∧(∀y ∈ sc t s op,S y)∧∃y ∈ sc t s op,f y=v
theorem measureR(ht:g9 t)(hc:ClO t all){nx:List (LL)}(hn:ArcsOk t all nx){sv d:Li}{f:Li→Int}(hs:Rep all sv (sfl S))(hd:Rep all d f){layer:Int}(hl:0≤layer∧layer≤1000000){i:Int}{s:Li}(hi:ix all i=some s):
  ∃r,ix nx i=some r∧p8 r (fun y1=>H1 y1 sv d layer)=some (dec (StepC t S f s (layer - 1))):=by
 obtain⟨r,r1,r2,r3⟩:=hn.row i s hi
 have hsm:=i6 hi
 refine⟨r,r1,?_⟩
 have inr:∀x ∈ r,∃op,ix r op=some x∧(0≤op∧op<t.operators.length)∧ArcL t all s op x:=fun x hx=>by
  obtain⟨op,o0,o1,ho⟩:=m6 hx
  exact⟨op,ho,⟨o0,by omega⟩,r3 op x ho⟩
 rw[containsFL_eq (p:=fun l=>l ≠ []∧(∀k ∈ l,∀s,ix all k=some s→S s)∧∃k ∈ l,∃s,ix all k=some s∧f s=layer - 1) (fun x hx=>by
  obtain⟨op,_,ho,ha⟩:=inr x hx
  refine measure1 hs hd hl fun k hk=> ?_
  rcases ha with⟨_,ha⟩|⟨_,rfl⟩
  ·obtain⟨y,_,hy⟩:=(ha k).1 hk
   exact⟨y,hy⟩
  ·cases hk)]
 congr 1
 refine u6 ⟨?_,?_⟩
 ·rintro ⟨x,hx,h1,h2,k,hk,z,hz,hf⟩
  obtain⟨op,_,ho,ha⟩:=inr x hx
  rcases ha with⟨hcan,ha⟩|⟨_,rfl⟩
  ·refine⟨op,ho,hcan,fun y hy=> ?_,z,?_,hf⟩
   ·obtain⟨q,_,_,hq⟩:=m6 (hc.sc hsm ho hcan hy)
    exact h2 q ((ha q).2 ⟨y,hy,hq⟩) y hq
   ·obtain⟨y,hy,hyk⟩:=(ha k).1 hk
    rw[hz] at hyk;cases hyk;exact hy
  ·exact absurd rfl h1
 ·rintro ⟨op,ho,hcan,h1,y,hy,hf⟩
  obtain⟨x,hx,_⟩:=i5 (l:=r) ho.1 (by omega)
  rcases r3 op x hx with⟨_,ha⟩|⟨hn2,_⟩
  ·obtain⟨q,_,_,hq⟩:=m6 (hc.sc hsm ho hcan hy)
   have hqx:=(ha q).2 ⟨y,hy,hq⟩
   refine⟨x,i6 hx,⟨fun e=>(by rw[e] at hqx;cases hqx),fun k hk z hz=> ?_,q,hqx,y,hq,hf⟩⟩
   obtain⟨z',hz',hzk⟩:=(ha k).1 hk
   rw[hz] at hzk;cases hzk
   exact h1 z hz'
  ·exact absurd hcan hn2
def RankD(t:b7)(S:Li→Prop)(all:LL)(f:Li→Int)(L:Nat):Prop:=∀s ∈ all,(f s= -1∧¬ DsC t S L s)∨∃k:Nat,k≤L∧f s=k∧HtD t S k s
theorem RankD.fresh(hc:ClO t all){f:Li→Int}{L:Nat}(h:RankD t S all f L){s:Li}(hs:s ∈ all):HtD t S (L+1) s↔f s<0∧S s∧StepC t S f s L:=by
 constructor
 ·intro hh
  have hn:¬ DsC t S L s:=hh.2 L (by omega)
  have hf:f s= -1:=by
   rcases h s hs with⟨e,_⟩|⟨k,k1,_,k2⟩
   ·exact e
   ·exact absurd (k2.1.mono k1) hn
  obtain⟨_,h0,op,h1,h2,h3,y,hy,h4⟩:=hh.step
  refine⟨by omega,h0,op,h1,h2,h3,y,hy,?_⟩
  rcases h y (hc.sc hs h1 h2 hy) with⟨_,e⟩|⟨k,_,e,hk⟩
  ·exact absurd h4.1 e
  ·rw[e,hk.unique h4]
 ·rintro ⟨hf,h0,op,h1,h2,h3,y,hy,h4⟩
  have hn:¬ DsC t S L s:=by
   rcases h s hs with⟨_,e⟩|⟨k,_,e,_⟩
   ·exact e
   ·omega
  refine HtD.of_not (.inr ⟨h0,op,h1,h2,h3,y,hy,?_⟩) hn
  rcases h y (hc.sc hs h1 h2 hy) with⟨e,_⟩|⟨k,_,e,hk⟩
  ·omega
  ·have:k=L:=by omega
   subst this;exact hk.1
theorem measure_eq(ht:g9 t)(hc:ClO t all){nx:List (LL)}(hn:ArcsOk t all nx){sv:Li}(hs:Rep all sv (sfl S)):
  ∃v f,S3 t all nx sv=some v∧Rep all v f∧∀s ∈ all,(f s= -1∧∀k,¬ DsC t S k s)∨∃k:Nat,f s=k∧HtD t S k s:=by
 have hlen:=hc.len
 have hn1:=ht.n1
 unfold S3
 rw[repeat_eq (-1) (List.length_pos_of_mem hc.cl.init) (by omega)]
 simp only[oB]
 obtain⟨v0,a1,f0,a2,a3⟩:=r8 (body:=Q9 t all) (n:=(all.length:Int)) (s:=List.replicate all.length (-1)) (fun j v=>∃f,Rep all v f∧∀i s,ix all i=some s→(i<j→(g7 t s→f s=0)∧(¬ g7 t s→f s= -1))∧(j≤i→f s= -1)) (by omega) ⟨_,Rep.repl (-1),fun i s hi=>⟨fun h=>by have:=(l9 hi).1;omega,fun _=>rfl⟩⟩ (fun j v j0 j1 ⟨f,h1,h2⟩=>by
  obtain⟨s,hs,_⟩:=i5 (l:=all) j0 j1
  have hset:=hc.set (i6 hs)
  have hsl:=hset.len
  unfold Q9
  rw[hs]
  simp only[oB,F7 hset.1 ht.goal.1 (show s.length≤1000000 by omega),h1.get hs]
  by_cases hg:g7 t s
  ·rw[ifP (p:=∀x ∈ t.goal,x ∈ s) hg]
   refine⟨_,rfl,_,h1.set hc.ord hs 0,fun i z hz=> ?_⟩
   by_cases e:i=j
   ·subst e
    rw[hs] at hz;cases hz
    rw[L9]
    exact⟨fun _=>⟨fun _=>rfl,fun h=>absurd hg h⟩,fun h=>by omega⟩
   ·rw[aa4 (fun hz'=>e (hc.ord.inj hz (by rw[hz'];exact hs)))]
    exact⟨fun h=>(h2 i z hz).1 (by omega),fun h=>(h2 i z hz).2 (by omega)⟩
  ·rw[ifN (p:=∀x ∈ t.goal,x ∈ s) hg]
   refine⟨_,rfl,_,h1,fun i z hz=> ?_⟩
   by_cases e:i=j
   ·subst e
    rw[hs] at hz;cases hz
    exact⟨fun _=>⟨fun h=>absurd h hg,fun _=>(h2 i s hs).2 (Int.le_refl _)⟩,fun h=>by omega⟩
   ·exact⟨fun h=>(h2 i z hz).1 (by omega),fun h=>(h2 i z hz).2 (by omega)⟩)
 rw[a1]
 simp only[oB]
 have r0:RankD t S all f0 0:=fun s hs=>by
  obtain⟨i,_,i1,hi⟩:=m6 hs
  have:=(a3 i s hi).1 i1
  by_cases hg:g7 t s
  ·exact .inr ⟨0,Nat.le_refl _,this.1 hg,hg,fun j hj=>by omega⟩
  ·exact .inl ⟨this.2 hg,hg⟩
 obtain⟨v,e1,f,L,e2,e3,e4⟩:=E7 (body:=R5 all nx sv) (fun x=>∃f L,Rep all x.1 f∧x.2=((L:Nat):Int)+1∧RankD t S all f L∧L≤all.length) (fun v=>∃f L,Rep all v f∧RankD t S all f L∧all.length≤L) (fun x=>(all.length+2 - x.2).toNat) (s:=(v0,1)) ⟨f0,0,a2,by simp,r0,by omega⟩ (fun⟨v,layer⟩ ⟨f,L,h1,h2,h3,h4⟩=>by
  dsimp only at h1 h2 ⊢
  subst h2
  unfold R5
  dsimp only
  by_cases c:((L:Nat):Int)+1≤all.length
  ·rw[if_pos c]
   obtain⟨v',g1,f',g2,g3⟩:=r8 (body:=Q7 nx sv (((L:Nat):Int)+1)) (n:=(all.length:Int)) (s:=v) (fun j v'=>∃f',Rep all v' f'∧∀i s,ix all i=some s→(i<j→(HtD t S (L+1) s→f' s=((L:Nat):Int)+1)∧(¬ HtD t S (L+1) s→f' s=f s))∧(j≤i→f' s=f s)) (by omega) ⟨f,h1,fun i s hi=>⟨fun h=>by have:=(l9 hi).1;omega,fun _=>rfl⟩⟩ (fun j v' j0 j1 ⟨f',q1,q2⟩=>by
    obtain⟨s,hsj,_⟩:=i5 (l:=all) j0 j1
    have hsm:=i6 hsj
    have same:∀y ∈ all,f' y=(L:Int)↔f y=L:=fun y hy=>by
     obtain⟨i,_,_,hi⟩:=m6 hy
     have b:=q2 i y hi
     by_cases ci:i<j
     ·by_cases hh:HtD t S (L+1) y
      ·have:=(h3.fresh hc hy).1 hh
       rw[(b.1 ci).1 hh];omega
      ·rw[(b.1 ci).2 hh]
     ·rw[b.2 (by omega)]
    have hfs:f' s=f s:=(q2 j s hsj).2 (Int.le_refl _)
    obtain⟨r,r1,r2⟩:=measureR ht hc hn hs q1 (layer:=((L:Nat):Int)+1) (by omega) hsj
    have hst:StepC t S f' s (((L:Nat):Int)+1 - 1)↔StepC t S f s L:=by
     rw[show((L:Nat):Int)+1 - 1=L by omega]
     constructor
     ·rintro ⟨op,o1,o2,o3,y,hy,e⟩;exact⟨op,o1,o2,o3,y,hy,(same y (hc.sc hsm o1 o2 hy)).1 e⟩
     ·rintro ⟨op,o1,o2,o3,y,hy,e⟩;exact⟨op,o1,o2,o3,y,hy,(same y (hc.sc hsm o1 o2 hy)).2 e⟩
    unfold Q7
    rw[q1.get hsj,hs.get hsj]
    simp only[oB]
    have key:(if 0≤f' s then some true else some (decide (sfl S s=0)))=some (dec (¬ (f s<0∧S s))):=by
     rw[hfs]
     by_cases c1:0≤f s
     ·rw[if_pos c1,j6 (fun h=>by omega)]
     ·rw[if_neg c1]
      by_cases c2:S s
      ·rw[U6 c2,m8 (fun h=>h ⟨by omega,c2⟩)];rfl
      ·rw[ad4 c2,j6 (fun h=>c2 h.2)];rfl
    rw[key]
    simp only[oB]
    have keep:∀f'':Li→Int,(∀z ∈ all,z ≠ s→f'' z=f' z)→((HtD t S (L+1) s→f'' s=((L:Nat):Int)+1)∧(¬ HtD t S (L+1) s→f'' s=f s))→∀i z,ix all i=some z→(i<j+1→(HtD t S (L+1) z→f'' z=((L:Nat):Int)+1)∧(¬ HtD t S (L+1) z→f'' z=f z))∧(j+1≤i→f'' z=f z):=fun f'' k1 k2 i z hz=>by
     by_cases e:i=j
     ·subst e
      rw[hsj] at hz;cases hz
      exact⟨fun _=>k2,fun h=>by omega⟩
     ·have hne:z ≠ s:=fun hz'=>e (hc.ord.inj hz (by rw[hz'];exact hsj))
      rw[k1 z (i6 hz) hne]
      exact⟨fun h=>(q2 i z hz).1 (by omega),fun h=>(q2 i z hz).2 (by omega)⟩
    by_cases cs:f s<0∧S s
    ·rw[ifNN cs,r1]
     simp only[oB,r2]
     rw[u6 hst]
     by_cases ch:StepC t S f s L
     ·rw[ifP ch]
      have hh:=(h3.fresh hc hsm).2 ⟨cs.1,cs.2,ch⟩
      exact⟨_,rfl,_,q1.set hc.ord hsj _,keep _ (fun z _ hne=>aa4 hne) ⟨fun _=>L9,fun h=>absurd hh h⟩⟩
     ·rw[ifN ch]
      have hh:¬ HtD t S (L+1) s:=fun h=>ch ((h3.fresh hc hsm).1 h).2.2
      exact⟨_,rfl,_,q1,keep _ (fun z _ _=>rfl) ⟨fun h=>absurd h hh,fun _=>hfs⟩⟩
    ·rw[ifP cs]
     have hh:¬ HtD t S (L+1) s:=fun h=>cs ⟨((h3.fresh hc hsm).1 h).1,((h3.fresh hc hsm).1 h).2.1⟩
     exact⟨_,rfl,_,q1,keep _ (fun z _ _=>rfl) ⟨fun h=>absurd h hh,fun _=>hfs⟩⟩)
   rw[g1]
   simp only[oB]
   rw[m5 (by omega) (by omega)]
   refine .inl ⟨_,rfl,⟨f',L+1,g2,by dsimp only;omega,fun s hsm=> ?_,by omega⟩,by dsimp only;omega⟩
   obtain⟨i,_,i1,hi⟩:=m6 hsm
   have b:=(g3 i s hi).1 i1
   by_cases hh:HtD t S (L+1) s
   ·exact .inr ⟨L+1,Nat.le_refl _,by rw[b.1 hh];omega,hh⟩
   ·rcases h3 s hsm with⟨q1,q2⟩|⟨k,q0,q1,q2⟩
    ·exact .inl ⟨by rw[b.2 hh];exact q1,fun hd=>hh (.of_not hd q2)⟩
    ·exact .inr ⟨k,by omega,by rw[b.2 hh];exact q1,q2⟩
  ·rw[if_neg c]
   exact .inr ⟨_,rfl,f,L,h1,h3,by omega⟩)
 rw[e1]
 refine⟨v,f,rfl,e2,fun s hsm=> ?_⟩
 rcases e3 s hsm with⟨q1,q2⟩|⟨k,_,q1,q2⟩
 ·refine .inl ⟨q1,fun k hk=>q2 ?_⟩
  obtain⟨m,_,hm⟩:=HtD.of_dn hk
  have:=hm.lt hc hsm
  exact hm.1.mono (by omega)
 ·exact .inr ⟨k,q1,q2⟩
def PostF(t:b7)(all:LL)(T:Li→Prop):Prop:=∀s,T s→s ∈ all∧∃k,DsC t T k s
def Sd(all:LL)(f:Li→Int)(s:Li):Prop:=s ∈ all∧0≤f s
structure K2(t:b7)(all:LL)(f:Li→Int):Prop where
 val:∀s ∈ all,(f s= -1∧∀k,¬ DsC t (Sd all f) k s)∨∃k:Nat,f s=k∧HtD t (Sd all f) k s
 gr:∀T,PostF t all T→∀s,T s→0≤f s
theorem K2.post{f:Li→Int}(h:K2 t all f):PostF t all (Sd all f):=fun s hs=>by
 refine⟨hs.1,?_⟩
 rcases h.val s hs.1 with⟨e,_⟩|⟨k,_,hk⟩
 ·have:=hs.2;omega
 ·exact⟨k,hk.1⟩
theorem K2.unique{f g:Li→Int}(h:K2 t all f)(h':K2 t all g):∀s ∈ all,f s=g s:=by
 have e:Sd all f=Sd all g:=funext fun s=>propext ⟨fun q=>⟨q.1,h'.gr _ h.post s q⟩,fun q=>⟨q.1,h.gr _ h'.post s q⟩⟩
 intro s hs
 have a:=h.val s hs;have b:=h'.val s hs
 rw[← e] at b
 rcases a with⟨a1,a2⟩|⟨k,a1,a2⟩<;>rcases b with⟨b1,b2⟩|⟨m,b1,b2⟩
 ·omega
 ·exact absurd b2.1 (a2 m)
 ·exact absurd a2.1 (b2 k)
 ·rw[a1,b1,a2.unique b2]
theorem K2.lt(hc:ClO t all){f:Li→Int}(h:K2 t all f){s:Li}(hs:s ∈ all):f s<all.length:=by
 rcases h.val s hs with⟨e,_⟩|⟨k,e,hk⟩
 ·omega
 ·have:=hk.lt hc hs;omega
theorem at3(ht:g9 t)(hc:ClO t all):∃v f,H7 t all=some v∧Rep all v f∧K2 t all f:=by
 have hlen:=hc.len
 unfold H7
 obtain⟨nx,n1,n2⟩:=arcs_eq ht hc
 rw[n1]
 simp only[oB]
 rw[repeat_eq 1 (List.length_pos_of_mem hc.cl.init) (by omega)]
 simp only[oB]
 obtain⟨v,e1,f,e2,e3⟩:=E7 (body:=M7 t all nx) (fun x=>∃S:Li→Prop,(∀s,S s→s ∈ all)∧Rep all x (sfl S)∧(∀s ∈ all,g7 t s→S s)∧∀T,PostF t all T→∀s,T s→S s) (fun v=>∃f,Rep all v f∧K2 t all f) sumN (s:=List.replicate all.length 1) ⟨fun s=>s ∈ all,fun s h=>h,(Rep.repl 1).congr fun s hs=>(U6 hs).symm,fun s hs _=>hs,fun T hT s hs=>(hT s hs).1⟩ (fun sv ⟨S,s1,s2,s3,s4⟩=>by
  obtain⟨d,f,d1,d2,d3⟩:=measure_eq ht hc n2 s2
  have sub:∀s ∈ all,0≤f s→S s:=fun s hs hf=>by
   rcases d3 s hs with⟨e,_⟩|⟨k,_,hk⟩
   ·omega
   ·cases k with
    |zero=>exact s3 s hs hk.1
    |succ k=>exact hk.step.2.1
  unfold M7
  rw[d1]
  simp only[oB]
  rw[d2.len]
  obtain⟨⟨sv',b⟩,g1,g2,g3,g4,g5⟩:=r8 (body:=M9 d) (n:=(all.length:Int)) (s:=(sv,true)) (fun j x=>x.1.length=all.length∧(∀i s,ix all i=some s→ix x.1 i=some (if i<j then sfl (Sd all f) s else sfl S s))∧(x.2=dec (∀i s,i<j→ix all i=some s→(0≤f s↔S s)))∧sumN x.1+(if x.2=true then 0 else 1)≤sumN sv) (by omega) ⟨s2.len,fun i s hi=>by rw[if_neg (by have:=(l9 hi).1;omega)];exact s2.get hi,(j6 fun i s hi h=>by have:=(l9 h).1;omega).symm,by simp⟩ (fun j ⟨x,bx⟩ j0 j1 ⟨q1,q2,q3,q4⟩=>by
   dsimp only at q1 q2 q3 q4 ⊢
   obtain⟨s,hs,_⟩:=i5 (l:=all) j0 j1
   have hsm:=i6 hs
   have hfl:f s≤all.length∧ -1≤f s:=by
    rcases d3 s hsm with⟨e,_⟩|⟨k,e,hk⟩
    ·omega
    ·have:=hk.lt hc hsm;omega
   have hx:=q2 j s hs
   rw[if_neg (by omega)] at hx
   unfold M9
   dsimp only
   rw[d2.get hs,hx]
   simp only[oB]
   rw[m5 (by omega) (by omega)]
   have hmin:min 1 (f s+1)=sfl (Sd all f) s:=by
    by_cases c:0≤f s
    ·rw[U6 ⟨hsm,c⟩];omega
    ·rw[ad4 (fun h=>c h.2)];omega
   have key:(if bx=true then some (decide ((decide (0≤f s))=(decide (0<sfl S s)))) else some false)=some (dec (∀i s,i<j+1→ix all i=some s→(0≤f s↔S s))):=by
    have h2:(decide ((decide (0≤f s))=(decide (0<sfl S s))))=dec (0≤f s↔S s):=by
     have:decide (0<sfl S s)=dec (S s):=by
      by_cases c:S s
      ·rw[U6 c,j6 c];rfl
      ·rw[ad4 c,m8 c];rfl
     rw[this,E3 (p:=0≤f s),E3]
     exact u6 dec_inj
    by_cases cb:bx=true
    ·rw[if_pos cb,h2]
     congr 1
     rw[cb] at q3
     have h3:=k7.1 q3.symm
     refine u6 ⟨fun h i z hi hz=> ?_,fun h=>h j s (by omega) hs⟩
     by_cases e:i=j
     ·subst e;rw[hs] at hz;cases hz;exact h
     ·exact h3 i z (by omega) hz
    ·rw[if_neg cb,m8]
     intro h
     exact cb (by rw[q3];exact j6 fun i z hi hz=>h i z (by omega) hz)
   rw[key]
   simp only[oB]
   rw[hmin]
   refine⟨_,rfl,by rw[lS];exact q1,fun i z hz=> ?_,rfl,?_⟩
   ·rw[ix_put j0 (by omega) (l9 hz).1]
    by_cases e:i=j
    ·subst e
     rw[hs] at hz;cases hz
     rw[if_pos rfl,if_pos (by omega)]
    ·rw[if_neg e,q2 i z hz]
     congr 1
     by_cases c:i<j
     ·rw[if_pos c,if_pos (by omega)]
     ·rw[if_neg c,if_neg (by omega)]
   ·dsimp only
    have hxg:=(l9 hx).2.2
    by_cases ca:(∀i s,i<j+1→ix all i=some s→(0≤f s↔S s))
    ·rw[if_pos (j6 ca)]
     have hbx:bx=true:=by rw[q3];exact j6 fun i z hi hz=>ca i z (by omega) hz
     rw[if_pos hbx] at q4
     have e:sfl (Sd all f) s=sfl S s:=by
      have:=ca j s (by omega) hs
      by_cases c:S s
      ·rw[U6 c,U6 ⟨hsm,this.2 c⟩]
      ·rw[ad4 c,ad4 (fun h=>c (this.1 h.2))]
     rw[e]
     have:=sumN_le (x:=sfl S s) hxg (by unfold sfl;split<;>omega) (Int.le_refl _)
     omega
    ·rw[if_neg (by rw[m8 ca];simp)]
     by_cases hbx:bx=true
     ·rw[if_pos hbx] at q4
      -- it is here that they differ
      have hd:¬ (0≤f s↔S s):=fun h=>ca fun i z hi hz=>by
       by_cases e:i=j
       ·subst e;rw[hs] at hz;cases hz;exact h
       ·exact k7.1 (q3.symm.trans hbx) i z (by omega) hz
      have h1:¬ 0≤f s:=fun h=>hd ⟨fun _=>sub s hsm h,fun _=>h⟩
      have h2:S s:=Classical.byContradiction fun h=>hd ⟨fun h'=>absurd h' h1,fun h'=>absurd h' h⟩
      have:=sumN_set (x:=sfl (Sd all f) s) hxg (by unfold sfl;split<;>omega) (by rw[U6 h2,ad4 (fun h=>h1 h.2)];omega)
      omega
     ·rw[if_neg hbx] at q4
      have:=sumN_le (x:=sfl (Sd all f) s) hxg (by unfold sfl;split<;>omega) (by
       by_cases c:0≤f s
       ·rw[U6 ⟨hsm,c⟩,U6 (sub s hsm c)];exact Int.le_refl _
       ·rw[ad4 (fun h=>c h.2)];unfold sfl;split<;>omega)
      omega)
  rw[g1]
  simp only[oB]
  dsimp only at g2 g3 g4 g5
  by_cases cb:b=true
  ·rw[if_pos cb]
   rw[cb] at g4
   have h4:=k7.1 g4.symm
   have e:S=Sd all f:=funext fun s=>propext ⟨fun h=>by
    have hm:=s1 s h
    obtain⟨i,_,i1,hi⟩:=m6 hm
    exact⟨hm,(h4 i s i1 hi).2 h⟩,fun h=>by
    obtain⟨i,_,i1,hi⟩:=m6 h.1
    exact(h4 i s i1 hi).1 h.2⟩
   refine .inr ⟨d,rfl,f,d2,⟨by rw[e] at d3;exact d3,fun T hT s hs=> ?_⟩⟩
   have:=s4 T hT s hs
   rw[e] at this
   exact this.2
  ·rw[if_neg cb]
   rw[if_neg cb] at g5
   refine .inl ⟨sv',rfl,⟨Sd all f,fun s h=>h.1,⟨g2,fun {i s} hi=>by rw[g3 i s hi,if_pos (l9 hi).2.1]⟩,fun s hs hg=>⟨hs,?_⟩,fun T hT s hs=>⟨(hT s hs).1,?_⟩⟩,by omega⟩
   ·rcases d3 s hs with⟨_,e⟩|⟨k,e,_⟩
    ·exact absurd (DsC.goal hg) (e 0)
    ·omega
   ·obtain⟨hm,k,hk⟩:=hT s hs
    rcases d3 s hm with⟨_,e⟩|⟨k,e,_⟩
    ·exact absurd (hk.sub (s4 T hT)) (e k)
    ·omega)
 rw[e1]
 exact⟨v,f,rfl,e2,e3⟩
end
end Ab
end
section
namespace Ab
open Go
section
variable {t:b7}{all:LL}
def CycP(t:b7)(f:Li→Int)(s:Li)(op:Int):Prop:=((0≤op∧op<t.operators.length)∧oCan t s op)∧(∀y ∈ sc t s op,0≤f y)∧∃y ∈ sc t s op,f y=f s - 1
def FirstC(t:b7)(f:Li→Int)(s:Li)(b:Int):Prop:=CycP t f s b∧∀op,0≤op→op<b→¬ CycP t f s op
theorem cycChoice(ht:g9 t)(hc:ClO t all){v:Li}{f:Li→Int}(hv:Rep all v f)(hb:∀s ∈ all, -1≤f s∧f s≤100000){s:Li}(hs:s ∈ all):
  ∃b,q7 s v all t=some b∧((b= -1∧∀op,¬ CycP t f s op)∨FirstC t f s b):=by
 have hlen:=hc.len
 have hset:=hc.set hs
 obtain⟨i,hi,hvi⟩:=hv.of hs
 have hbs:=hb s hs
 unfold q7
 rw[O4 hc.ord (by omega) hi]
 simp only[oB,hvi]
 have one:∀op:Int,0≤op→op<t.operators.length→I2 s v all t (f s) op ()=some (match (if dec (CycP t f s op)=true then some op else none) with|none=>.inl ()|some o=>.inr o):=fun op o0 o1=>by
  unfold I2
  rw[ak0 ht o0 o1 hset]
  simp only[oB,w3]
  unfold I4
  by_cases cc:oCan t s op
  ·rw[ifNN cc]
   obtain⟨st,ws,q1,_,q3,_⟩:=I0 ht o0 o1 hset
   have hst:∀y,y ∈ st↔y ∈ sc t s op:=fun y=>by rw[q3,sc,List.mem_map]
   rw[q1]
   simp only[oB]
   obtain⟨⟨sure,near⟩,g1,g2,g3⟩:=r8 (body:=P9 v all (f s) (st,ws)) (n:=(st.length:Int)) (s:=(true,false)) (fun j x=>x.1=dec (∀k y,k<j→ix st k=some y→0≤f y)∧x.2=dec (∃k y,k<j∧ix st k=some y∧f y=f s - 1)) (by omega) ⟨(j6 fun k y hk h=>by have:=(l9 h).1;omega).symm,(m8 (by rintro ⟨k,y,hk,h,_⟩;have:=(l9 h).1;omega)).symm⟩ (fun j ⟨sure,near⟩ j0 j1 ⟨a1,a2⟩=>by
    dsimp only at a1 a2
    obtain⟨y,hy,_⟩:=i5 (l:=st) j0 j1
    obtain⟨z,hz,hvz⟩:=hv.of (hc.sc hs ⟨o0,o1⟩ cc ((hst y).1 (i6 hy)))
    unfold P9
    dsimp only
    rw[hy]
    simp only[oB,O4 hc.ord (show all.length≤500000 by omega) hz,hvz]
    rw[m5 (by omega) (by omega)]
    have e1:dec (∀k y,k<j+1→ix st k=some y→0≤f y)=(sure && decide (0≤f y)):=by
     rw[a1,E3,dec_and]
     refine u6 ⟨fun h=>⟨fun k z hk hz=>h k z (by omega) hz,h j y (by omega) hy⟩,fun⟨h1,h2⟩ k z hk hz=> ?_⟩
     by_cases e:k=j
     ·subst e;rw[hy] at hz;cases hz;exact h2
     ·exact h1 k z (by omega) hz
    have e2:dec (∃k y,k<j+1∧ix st k=some y∧f y=f s - 1)=(near||decide (f y=f s - 1)):=by
     rw[a2,E3,dec_or]
     refine u6 ⟨fun⟨k,z,hk,hz,e⟩=> ?_,?_⟩
     ·by_cases ek:k=j
      ·subst ek;rw[hy] at hz;cases hz;exact .inr e
      ·exact .inl ⟨k,z,by omega,hz,e⟩
     ·rintro (⟨k,z,hk,hz,e⟩|e)
      ·exact⟨k,z,by omega,hz,e⟩
      ·exact⟨j,y,by omega,hy,e⟩
    rw[e1,e2]
    cases sure<;>cases near<;>simp)
   rw[g1]
   simp only[oB]
   dsimp only at g2 g3
   have e:(sure && near)=dec (CycP t f s op):=by
    rw[g2,g3,dec_and]
    refine u6 ⟨fun⟨h1,k,y,_,hy,e⟩=>⟨⟨⟨o0,o1⟩,cc⟩,fun z hz=> ?_,y,(hst y).1 (i6 hy),e⟩,fun⟨_,h1,y,hy,e⟩=>⟨fun k z _ hz=>h1 z ((hst z).1 (i6 hz)),?_⟩⟩
    ·obtain⟨q,_,q1,hq⟩:=m6 ((hst z).2 hz)
     exact h1 q z q1 hq
    ·obtain⟨q,_,q1,hq⟩:=m6 ((hst y).2 hy)
     exact⟨q,y,q1,hq,e⟩
   rw[e]
   by_cases h:CycP t f s op
   ·rw[ifP h,ifP h]
   ·rw[ifN h,ifN h]
  ·rw[ifP cc,ifN (fun h=>cc h.1.2)]
 rcases x9 (body:=I2 s v all t (f s)) (n:=(t.operators.length:Int)) (fun op=>if dec (CycP t f s op)=true then some op else none) (by omega) (fun op o0 o1 _=>by
  rw[one op o0 o1]
  by_cases h:CycP t f s op
  ·rw[ifP h]
  ·rw[ifN h]) with⟨h1,h2⟩|⟨op,o,o0,o1,h2,h3,h4⟩
 ·rw[h1]
  refine⟨-1,rfl,.inl ⟨rfl,fun op h=> ?_⟩⟩
  have:=h2 op h.1.1.1 h.1.1.2
  rw[ifP h] at this;cases this
 ·rw[h4]
  split at h2
  ·rename_i e
   cases h2
   refine⟨op,rfl,.inr ⟨k7.1 e,fun q q0 q1 h=> ?_⟩⟩
   have:=h3 q q0 q1
   rw[ifP h] at this;cases this
  ·cases h2
theorem K2.bnd(hc:ClO t all){f:Li→Int}(h:K2 t all f):∀s ∈ all, -1≤f s∧f s≤100000:=fun s hs=>by
 have:=h.lt hc hs
 have:=hc.len
 rcases h.val s hs with⟨e,_⟩|⟨k,e,_⟩<;>omega
theorem K2.has(hc:ClO t all){f:Li→Int}(h:K2 t all f){s:Li}(hs:s ∈ all)(hf:0≤f s)(hg:¬ g7 t s):∃op,CycP t f s op:=by
 rcases h.val s hs with⟨e,_⟩|⟨k,e,hk⟩
 ·omega
 ·cases k with
  |zero=>exact absurd hk.1 hg
  |succ k=>
   obtain⟨_,_,op,h1,h2,h3,y,hy,h4⟩:=hk.step
   refine⟨op,⟨h1,h2⟩,fun z hz=>(h3 z hz).2,y,hy,?_⟩
   rcases h.val y (h3 y hy).1 with⟨_,q⟩|⟨m,q,hm⟩
   ·exact absurd h4.1 (q k)
   ·rw[q,hm.unique h4];omega
theorem cpolicy_spec(ht:g9 t):(C8 t=some ([],false)∧L4 t 2000=some ([],false)∧C5 t=some ([],false,⟨10, -7⟩))∨∃all v f,C8 t=some (all,true)∧L4 t 2000=some (all,true)∧ClO t all∧Rep all v f∧K2 t all f∧
  ((f t.init= -1∧C5 t=some ([],false,⟨0,0⟩))∨∃ch,ChOk t ch∧(∀s,RchC t ch s→s ∈ all∧0≤f s)∧(∀s,RchC t ch s→¬ g7 t s→FirstC t f s (ch s))∧
   ((C5 t=some ([],false,⟨10, -8⟩)∧∃l:LL,l.Nodup∧(∀s ∈ l,RchC t ch s∧¬ g7 t s)∧l.length=201)∨∃p,C5 t=some (p,true,⟨0,0⟩)∧PolB t ch p∧p.length≤200)):=by
 unfold C5
 rw[explore_ok ht]
 rcases reach_full ht with⟨all,q1,q2,q3,q4,_⟩|⟨q1,q2⟩
 ·right
  have hc:ClO t all:=⟨q3,q4⟩
  have hlen:=hc.len
  obtain⟨v,f,r1,r2,r3⟩:=at3 ht hc
  obtain⟨i,hi,hvi⟩:=r2.of q3.init
  refine⟨all,v,f,q1,q2,hc,r2,r3,?_⟩
  rw[q1]
  simp only[oB,if_true]
  rw[if_neg (by simp),r1]
  simp only[oB,O4 q4 (show all.length≤500000 by omega) hi,hvi]
  by_cases cf:f t.init<0
  ·rw[if_pos cf]
   refine .inl ⟨?_,rfl⟩
   have:=(r3.bnd hc _ q3.init).1;omega
  ·rw[if_neg cf]
   right
   have step:∀s,s ∈ all→0≤f s→¬ g7 t s→∃b,q7 s v all t=some b∧FirstC t f s b:=fun s hs hf hg=>by
    obtain⟨b,b1,b2⟩:=cycChoice ht hc r2 (r3.bnd hc) hs
    refine⟨b,b1,?_⟩
    rcases b2 with⟨_,b2⟩|b2
    ·obtain⟨op,ho⟩:=r3.has hc hs hf hg
     exact absurd ho (b2 op)
    ·exact b2
   have inv:∀s,RchC t (fun s=>(q7 s v all t).getD (-1)) s→s ∈ all∧0≤f s:=fun s hs=>by
    induction hs with
    |init=>exact⟨q3.init,by omega⟩
    |@step s y _ hg hy ih=>
     obtain⟨b,b1,b2⟩:=step s ih.1 ih.2 hg
     have e:(q7 s v all t).getD (-1)=b:=by rw[b1];rfl
     unfold nxC at hy
     dsimp only at hy
     rw[e] at hy
     exact⟨hc.sc ih.1 b2.1.1.1 b2.1.1.2 hy,b2.1.2.1 y hy⟩
   have hk:ChOk t (fun s=>(q7 s v all t).getD (-1)):=fun s hs hg=>by
    obtain⟨b,b1,b2⟩:=step s (inv s hs).1 (inv s hs).2 hg
    dsimp only
    rw[b1];exact b2.1.1
   refine⟨_,hk,inv,fun s hs hg=> ?_,?_⟩
   ·obtain⟨b,b1,b2⟩:=step s (inv s hs).1 (inv s hs).2 hg
    have e:(q7 s v all t).getD (-1)=b:=by rw[b1];rfl
    exact(show FirstC t f s ((q7 s v all t).getD (-1)) by rw[e];exact b2)
   ·obtain⟨r,p1,p2⟩:=build_prog ht hk (choose:=fun y1=>q7 y1 v all t) (fun s hs hg=>by
     obtain⟨b,b1,_⟩:=step s (inv s hs).1 (inv s hs).2 hg
     show q7 s v all t=some ((q7 s v all t).getD (-1))
     rw[b1];rfl)
    rw[p1]
    rcases p2 with⟨rfl,p2⟩|⟨p,rfl,p2⟩
    ·exact .inl ⟨rfl,p2⟩
    ·exact .inr ⟨p,rfl,p2⟩
 ·left
  rw[q1]
  exact⟨rfl,q2,rfl⟩
end
section
variable {t:b7}{p:List d9}
def RkP(t:b7)(p:List d9):Nat→Li→Prop
 |0,s=>g7 t s
 |k+1,s=>g7 t s∨(G6 p s∧∃y ∈ nxS t p s,RkP t p k y)
theorem RkP.goal{k:Nat}{s:Li}(h:g7 t s):RkP t p k s:=by
 cases k with
 |zero=>exact h
 |succ k=>exact .inl h
theorem RkP.succ:∀{k:Nat} {s:Li},RkP t p k s→RkP t p (k+1) s
 |0,s,h=>.inl h
 |k+1,s,h=>by
  rcases h with h|⟨h1,y,hy,h2⟩
  ·exact .inl h
  ·exact .inr ⟨h1,y,hy,h2.succ⟩
theorem RkP.mono{k m:Nat}{s:Li}(h:RkP t p k s)(hm:k≤m):RkP t p m s:=by
 induction hm with
 |refl=>exact h
 |step _ ih=>exact ih.succ
def HtR(t:b7)(p:List d9)(k:Nat)(s:Li):Prop:=RkP t p k s∧∀j,j<k→¬ RkP t p j s
theorem HtR.unique{k m:Nat}{s:Li}(h:HtR t p k s)(h':HtR t p m s):k=m:=by
 rcases Nat.lt_trichotomy k m with c|c|c
 ·exact absurd h.1 (h'.2 k c)
 ·exact c
 ·exact absurd h'.1 (h.2 m c)
theorem HtR.of_dn:∀{k:Nat} {s:Li},RkP t p k s→∃m,m≤k∧HtR t p m s
 |0,s,h=>⟨0,Nat.le_refl _,h,fun j hj=>by omega⟩
 |k+1,s,h=>by
  by_cases c:RkP t p k s
  ·obtain⟨m,h1,h2⟩:=HtR.of_dn c
   exact⟨m,by omega,h2⟩
  ·exact⟨k+1,Nat.le_refl _,h,fun j hj hd=>c (hd.mono (by omega))⟩
theorem HtR.chain{l:LL}(hv:Vis t p l):∀{k:Nat} {s:Li},s ∈ l→HtR t p k s→∃c:LL,c.length=k+1∧c.Nodup∧∀x ∈ c,x ∈ l∧∃j,j≤k∧HtR t p j x
 |0,s,hs,h=>⟨[s],rfl,by simp,fun x hx=>by rw[List.mem_singleton.1 hx];exact⟨hs,0,Nat.le_refl _,h⟩⟩
 |k+1,s,hs,h=>by
  have hg:¬ g7 t s:=fun g=>h.2 0 (by omega) g
  rcases h.1 with g|⟨hl,y,hy,h4⟩
  ·exact absurd g hg
  have h5:HtR t p k y:=⟨h4,fun j hj hd=>h.2 (j+1) (by omega) (.inr ⟨hl,y,hy,hd⟩)⟩
  obtain⟨c,c1,c2,c3⟩:=HtR.chain hv (hv.closed s hs hg hl y hy) h5
  refine⟨s::c,by simp[c1],List.nodup_cons.2 ⟨fun hm=> ?_,c2⟩,fun x hx=> ?_⟩
  ·obtain⟨_,j,j1,j2⟩:=c3 s hm
   have:=j2.unique h;omega
  ·rcases List.mem_cons.1 hx with rfl|hx
   ·exact⟨hs,k+1,Nat.le_refl _,h⟩
   ·obtain⟨q0,j,q1,q2⟩:=c3 x hx
    exact⟨q0,j,by omega,q2⟩
theorem HtR.lt{l:LL}(hv:Vis t p l){k:Nat}{s:Li}(hs:s ∈ l)(h:HtR t p k s):k<l.length:=by
 obtain⟨c,c1,c2,c3⟩:=h.chain hv hs
 have:=S9 c2 fun x hx=>(c3 x hx).1
 omega
structure CanOk(t:b7)(p:List d9)(l:LL)(f:Li→Int):Prop where
 b:∀s ∈ l,f s=0∨f s=1
 ok:∀s ∈ l,f s=1→∃k,RkP t p k s
theorem holds2(ht:g9 t)(hp:J4 t p){l:LL}(hv:Vis t p l){i:Int}{s:Li}(hs:ix l i=some s){c:Li}{f:Li→Int}(hr:Rep l c f)(hk:CanOk t p l f):
  (I9 t p l i c=some (.inr false)∧¬ g7 t s∧¬ G6 p s)∨∃c' f',I9 t p l i c=some (.inl c')∧Rep l c' f'∧CanOk t p l f'∧(∀z ∈ l,f z≤f' z)∧(g7 t s→f' s=1)∧(G6 p s→∀y ∈ nxS t p s,f y=1→f' s=1):=by
 have hsm:=i6 hs
 have hset:=((hv.mem s).1 hsm).set ht
 have hsl:=hset.len
 have hn:=ht.n1
 have hlen:=hv.len ht hp
 unfold I9
 rw[hs]
 simp only[oB,F7 hset.1 ht.goal.1 (show s.length≤1000000 by omega)]
 unfold P7
 by_cases hg:g7 t s
 ·rw[ifP (p:=∀x ∈ t.goal,x ∈ s) hg,hr.get hs]
  simp only[oB]
  refine .inr ⟨_,_,rfl,hr.set hv.ord hs 1,⟨fun z hz=> ?_,fun z hz hf=> ?_⟩,fun z hz=> ?_,fun _=>L9,fun _ _ _ _=>L9⟩
  ·by_cases e:z=s
   ·subst e;exact .inr L9
   ·rw[aa4 e];exact hk.b z hz
  ·by_cases e:z=s
   ·subst e;exact⟨0,hg⟩
   ·rw[aa4 e] at hf;exact hk.ok z hz hf
  ·by_cases e:z=s
   ·subst e;rw[L9];rcases hk.b z hz with h|h<;>omega
   ·rw[aa4 e];exact Int.le_refl _
 ·rw[ifN (p:=∀x ∈ t.goal,x ∈ s) hg,(X5 hp s).1]
  simp only[oB]
  by_cases hl:chO p s<0
  ·rw[if_pos hl]
   exact .inl ⟨rfl,hg,fun h=>by unfold G6 at h;omega⟩
  ·rw[if_neg hl]
   have hlive:G6 p s:=by unfold G6;omega
   have ho:=live_op hp hlive
   obtain⟨st,w,r1,_,r3,_⟩:=I0 ht ho.1.1 ho.1.2 hset
   have hst:∀y,y ∈ st↔y ∈ nxS t p s:=fun y=>by rw[r3,nxS,List.mem_map]
   rw[r1]
   simp only[oB]
   obtain⟨c',g1,f',g2,g3,g4,g5,g6⟩:=r8 (body:=V9 l i (st,w)) (n:=(st.length:Int)) (s:=c) (fun j x=>∃f',Rep l x f'∧CanOk t p l f'∧(∀z ∈ l,f z≤f' z)∧(∀z ∈ l,z ≠ s→f' z=f z)∧∀k y,k<j→ix st k=some y→f y=1→f' s=1) (by omega) ⟨f,hr,hk,fun z _=>Int.le_refl _,fun z _ _=>rfl,fun k y hk2 h=>by have:=(l9 h).1;omega⟩ (fun j x j0 j1 ⟨f',q1,q2,q3,q4,q5⟩=>by
    obtain⟨y,hy,_⟩:=i5 (l:=st) j0 j1
    have hyn:=(hst y).1 (i6 hy)
    have hyl:=hv.closed s hsm hg hlive y hyn
    obtain⟨z,hz,hzv⟩:=q1.of hyl
    unfold V9
    dsimp only
    rw[hy]
    simp only[oB,q1.get hs,O4 hv.ord (show l.length≤500000 by omega) hz,hzv]
    have bs:=q2.b s hsm
    have by':=q2.b y hyl
    refine⟨_,rfl,_,q1.set hv.ord hs _,⟨fun z' hz'=> ?_,fun z' hz' hf=> ?_⟩,fun z' hz'=> ?_,fun z' hz' hne=> ?_,fun k y' hk2 hy' hf=> ?_⟩
    ·by_cases e:z'=s
     ·subst e;rw[L9];omega
     ·rw[aa4 e];exact q2.b z' hz'
    ·by_cases e:z'=s
     ·subst e
      rw[L9] at hf
      by_cases c1:f' z'=1
      ·exact q2.ok z' hz' c1
      ·obtain⟨k,hk3⟩:=q2.ok y hyl (by omega)
       exact⟨k+1,.inr ⟨hlive,y,hyn,hk3⟩⟩
     ·rw[aa4 e] at hf;exact q2.ok z' hz' hf
    ·by_cases e:z'=s
     ·subst e;rw[L9];have:=q3 z' hz';omega
     ·rw[aa4 e];exact q3 z' hz'
    ·rw[aa4 hne];exact q4 z' hz' hne
    ·rw[L9]
     by_cases e:k=j
     ·subst e
      rw[hy] at hy';cases hy'
      have:=q3 y hyl
      omega
     ·have:=q5 k y' (by omega) hy' hf
      omega)
   rw[g1]
   simp only[oB]
   refine .inr ⟨c',f',rfl,g2,g3,g4,fun h=>absurd h hg,fun _ y hy hf=> ?_⟩
   obtain⟨q,_,q1,hq⟩:=m6 ((hst y).2 hy)
   exact g6 q y q1 hq hf
def KnR(t:b7)(p:List d9)(l:LL)(r:Nat)(f:Li→Int):Prop:=∀s ∈ l,∀k,k<r→RkP t p k s→f s=1
theorem holds1(ht:g9 t)(hp:J4 t p){l:LL}(hv:Vis t p l){c:Li}{f:Li→Int}(hr:Rep l c f)(hk:CanOk t p l f){r:Nat}(hn:KnR t p l r f)(j:Int):
  (J5 t p l j c=some (.inr false)∧∃s ∈ l,¬ g7 t s∧¬ G6 p s)∨∃c' f',J5 t p l j c=some (.inl c')∧Rep l c' f'∧CanOk t p l f'∧KnR t p l (r+1) f':=by
 unfold J5
 rcases T6 (body:=I9 t p l) (n:=(l.length:Int)) (s:=c) (fun j x=>∃f',Rep l x f'∧CanOk t p l f'∧(∀z ∈ l,f z≤f' z)∧∀i s k,i<j→ix l i=some s→k<r+1→RkP t p k s→f' s=1) (fun o=>o=false∧∃s ∈ l,¬ g7 t s∧¬ G6 p s) (by omega) ⟨f,hr,hk,fun z _=>Int.le_refl _,fun i s k hi h=>by have:=(l9 h).1;omega⟩ (fun j x j0 j1 ⟨f',q1,q2,q3,q4⟩=>by
  obtain⟨s,hs,_⟩:=i5 (l:=l) j0 j1
  have hsm:=i6 hs
  rcases holds2 ht hp hv hs q1 q2 with⟨h1,h2,h3⟩|⟨c',f'',h1,h2,h3,h4,h5,h6⟩
  ·exact .inr ⟨_,h1,rfl,s,hsm,h2,h3⟩
  ·refine .inl ⟨_,h1,f'',h2,h3,fun z hz=>Int.le_trans (q3 z hz) (h4 z hz),fun i z k hi hz hkr hkk=> ?_⟩
   by_cases e:i=j
   ·subst e
    rw[hs] at hz;cases hz
    by_cases hg:g7 t s
    ·exact h5 hg
    ·cases k with
     |zero=>exact absurd hkk hg
     |succ k=>
      rcases hkk with g|⟨hl,y,hy,hyk⟩
      ·exact absurd g hg
      ·have hyl:=hv.closed s hsm hg hl y hy
       have e1:=hn y hyl k (by omega) hyk
       have e2:=q3 y hyl
       refine h6 hl y hy ?_
       rcases q2.b y hyl with h|h<;>omega
   ·have e1:=q4 i z k (by omega) hz hkr hkk
    have e2:=h4 z (i6 hz)
    rcases h3.b z (i6 hz) with h|h<;>omega) with⟨c',e1,f',e2,e3,e4,e5⟩|⟨o,e1,rfl,e2⟩
 ·rw[e1]
  refine .inr ⟨c',f',rfl,e2,e3,fun s hs k hk2 hkk=> ?_⟩
  obtain⟨i,_,i1,hi⟩:=m6 hs
  exact e5 i s k i1 hi hk2 hkk
 ·rw[e1]
  exact .inl ⟨rfl,e2⟩
theorem holds_eq(ht:g9 t)(hp:J4 t p):W5 t p=some (dec (∀s,Rch t p s→∃k,RkP t p k s)):=by
 obtain⟨l,g1,hv⟩:=oVisited_eq ht hp
 have hlen:=hv.len ht hp
 unfold W5
 rw[g1]
 simp only[oB]
 rw[show mkL 8 (l.length:Int) (0:Int)=some (List.replicate l.length 0) by rw[mkL,if_pos (by omega)];simp]
 simp only[oB]
 rcases T6 (body:=J5 t p l) (n:=(l.length:Int)) (s:=List.replicate l.length 0) (fun j x=>∃f,Rep l x f∧CanOk t p l f∧KnR t p l j.toNat f) (fun o=>o=false∧∃s ∈ l,¬ g7 t s∧¬ G6 p s) (by omega) ⟨_,Rep.repl 0,⟨fun s _=>.inl rfl,fun s _ h=>by cases h⟩,fun s _ k hk=>by simp at hk⟩ (fun j x j0 j1 ⟨f,q1,q2,q3⟩=>by
  rcases holds1 ht hp hv q1 q2 q3 j with⟨h1,h2⟩|⟨c',f',h1,h2,h3,h4⟩
  ·exact .inr ⟨_,h1,rfl,h2⟩
  ·exact .inl ⟨_,h1,f',h2,h3,by rwa [show(j+1).toNat=j.toNat+1 by omega]⟩) with⟨c,e1,f,e2,e3,e4⟩|⟨o,e1,rfl,s,hs,hg,hl⟩
 ·rw[e1]
  simp only[oB,contains1_eq,w3]
  congr 1
  refine u6 ⟨fun h s hs=> ?_,fun h hm=> ?_⟩
  ·have hsl:=(hv.mem s).2 hs
   obtain⟨i,hi,hci⟩:=e2.of hsl
   rcases e3.b s hsl with e|e
   ·exact absurd (by rw[e] at hci;exact i6 hci) h
   ·exact e3.ok s hsl e
  ·obtain⟨i,i0,i1,hi⟩:=m6 hm
   obtain⟨s,hs,_⟩:=i5 (l:=l) i0 (by have:=e2.len;omega)
   have hsl:=i6 hs
   obtain⟨k,hk⟩:=h s ((hv.mem s).1 hsl)
   obtain⟨m,_,hm2⟩:=HtR.of_dn hk
   have:=hm2.lt hv hsl
   have e5:=e4 s hsl m (by omega) hm2.1
   rw[e2.get hs,e5] at hi
   cases hi
 ·rw[e1,m8]
  ·rfl
  intro h
  obtain⟨k,hk⟩:=h s ((hv.mem s).1 hs)
  cases k with
  |zero=>exact hg hk
  |succ k=>
   rcases hk with h|⟨h,_⟩
   ·exact hg h
   ·exact hl h
end
end Ab
end
section
namespace Ab
open Go
/-! ### The coin -/
end Ab
end
section
namespace Ab
open Go
def MN(g:Li→Int)(l:LL)(m:Int):Prop:=m≤1000000000∧(∀y ∈ l,m≤g y)∧(m=1000000000∨∃y ∈ l,g y=m)
theorem MN.congr{g g':Li→Int}{l:LL}{m:Int}(h:MN g l m)(e:∀y ∈ l,g y=g' y):MN g' l m:=by
 refine⟨h.1,fun y hy=>by rw[← e y hy];exact h.2.1 y hy,?_⟩
 rcases h.2.2 with h|⟨y,hy,e1⟩
 ·exact .inl h
 ·exact .inr ⟨y,hy,by rw[← e y hy];exact e1⟩
section
variable {t:b7}{p:List d9}
structure LowR(t:b7)(p:List d9)(l:LL)(g:Li→Int):Prop where
 b:∀s ∈ l,0≤g s∧g s≤1000000000
 dn:∀s ∈ l,g s<1000000000→RkP t p (g s).toNat s
 goal:∀s ∈ l,g7 t s→g s=0
end
end Ab
end
section
namespace Ab
open Go
section
def delB(f:Li→Option Bool):((LL)×Int×Int)→Option (((LL)×Int×Int)⊕((LL)×Int)):=fun(c,i,j)=>if j<(c.length:Int) then Option.bind (Option.bind (ix c j) fun a=>Option.bind (f a) fun b=>if(!b)=true then Option.bind (ix c i) fun _=>some (c.set i.toNat a,w64 (i+1)) else some (c,i)) fun⟨c',i'⟩=>some (.inl (c',i',w64 (j+1))) else some (.inr (c,i))
noncomputable def delA(f:Li→Option Bool)(l:LL):Option (LL):=Option.bind (s7 l f) fun a10=>if a10=(-1) then some l else Option.bind (Loop (delB f) (l,a10,w64 (a10+1))) fun⟨c61,iv62⟩=>Option.bind (cutV (c61.length:Int) iv62 (c61.length:Int)) fun u38=>Option.bind (cutV ((clrL c61 (0+iv62) ((c61.length:Int) - iv62) []).length:Int) 0 iv62) fun u41=>some (s8 (clrL c61 (0+iv62) ((c61.length:Int) - iv62) []) 0 iv62)
theorem take_filter{p:Li→Bool}{l:LL}{j:Nat}(h:j<l.length):(l.take (j+1)).filter p=if p l[j] then(l.take j).filter p++[l[j]] else(l.take j).filter p:=by
 rw[List.take_succ_eq_append_getElem h,List.filter_append]
 by_cases e:p l[j]=true
 ·rw[if_pos e];simp[e]
 ·rw[if_neg e];simp[e]
theorem del_eq{g:Li→Prop}{l:LL}(hl:l.length≤1000000){f:Li→Option Bool}(hf:∀a ∈ l,f a=some (dec (g a))):delA f l=some (l.filter fun a=> !dec (g a)):=by
 generalize hp:(fun a=> !dec (g a))=p
 have hpa:∀a,p a= !dec (g a):=fun a=>by rw[← hp]
 unfold delA s7
 rcases x9 (body:=q8 l f) (n:=(l.length:Int)) (fun j=>if dec (∃x,ix l j=some x∧g x)=true then some j else none) (by omega) (fun j h0 h1 _=>by
  obtain⟨x,hx,_⟩:=i5 (l:=l) h0 h1
  unfold q8
  rw[hx]
  simp only[oB,hf x (i6 hx)]
  by_cases e:g x
  ·rw[ifP e,ifP ⟨x,rfl,e⟩]
  ·rw[ifN e,ifN (by rintro ⟨y,hy,q⟩;cases hy;exact e q)]) with⟨h1,h2⟩|⟨j,o,h0,h1,h2,h3,h4⟩
 ·rw[h1]
  simp only[oB,if_true]
  congr 1
  refine(List.filter_eq_self.2 fun a ha=> ?_).symm
  rw[hpa,m8]
  ·rfl
  ·intro q
   obtain⟨i,i0,i1,hi⟩:=m6 ha
   have:=h2 i i0 i1
   rw[ifP ⟨a,hi,q⟩] at this
   cases this
 ·rw[h4]
  split at h2
  ·rename_i e
   cases h2
   simp only[oB]
   rw[if_neg (by omega)]
   obtain⟨J,rfl⟩:=Int.eq_ofNat_of_zero_le h0
   have hJ:J<l.length:=by omega
   obtain⟨x,hx,hgx⟩:=k7.1 e
   have hF:(l.take J).filter p=l.take J:=List.filter_eq_self.2 fun a ha=>by
    rw[hpa,m8]
    ·rfl
    ·intro q
     obtain⟨k,hk,rfl⟩:=List.getElem_of_mem ha
     rw[List.length_take] at hk
     have hk':k<l.length:=by omega
     rw[List.getElem_take] at q
     have:=h3 k (by omega) (by omega)
     rw[ifP ⟨l[k],by rw[n9];exact List.getElem?_eq_getElem hk',q⟩] at this
     cases this
   have hF1:(l.take (J+1)).filter p=l.take J:=by
    rw[take_filter hJ,if_neg,hF]
    rw[n9,List.getElem?_eq_getElem hJ] at hx
    rw[hpa,Option.some.inj hx,j6 hgx];simp
   rw[show w64 ((J:Int)+1)=((J+1:Nat):Int) by rw[m5 (by omega) (by omega)];omega]
   obtain⟨⟨c,i⟩,k1,k2⟩:=E7 (body:=delB f) (fun q=>∃i j:Nat,q.2=((i:Int),(j:Int))∧i<j∧j≤l.length∧q.1.length=l.length∧((l.take j).filter p).length=i∧(∀k,k<i→q.1[k]? =((l.take j).filter p)[k]?)∧∀k,j≤k→q.1[k]? =l[k]?)
    (fun r=>r.1.length=l.length∧(r.2=((l.filter p).length:Int))∧(l.filter p).length≤l.length∧∀k,k<(l.filter p).length→r.1[k]? =(l.filter p)[k]?) (fun q=>((l.length:Int) - q.2.2).toNat) (s:=(l,(J:Int),((J+1:Nat):Int)))
    ⟨J,J+1,rfl,by omega,by omega,rfl,by rw[hF1,List.length_take];omega,fun k hk=>by rw[hF1,List.getElem?_take,if_pos hk],fun k _=>rfl⟩ (fun⟨c,q⟩ ⟨i,j,e0,e1,e2,e3,e4,e5,e6⟩=>by
    dsimp only at e0 e3 e5 e6
    subst e0
    unfold delB
    dsimp only
    by_cases cj:(j:Int)<c.length
    ·rw[if_pos cj]
     have hj:j<l.length:=by omega
     have hcj:ix c (j:Int)=some l[j]:=by rw[n9,e6 j (Nat.le_refl _)];exact List.getElem?_eq_getElem hj
     have hci:ix c (i:Int)=some c[i]:=by rw[n9];exact List.getElem?_eq_getElem (by omega)
     have wj:w64 ((j:Int)+1)=((j+1:Nat):Int):=by rw[m5 (by omega) (by omega)];omega
     have wi:w64 ((i:Int)+1)=((i+1:Nat):Int):=by rw[m5 (by omega) (by omega)];omega
     simp only[hcj,oB,hf _ (List.getElem_mem hj),w3]
     have tf:=take_filter (p:=p) hj
     by_cases cg:g l[j]
     ·rw[ifNN cg]
      simp only[oB,wj]
      rw[hpa,j6 cg,if_neg (by simp)] at tf
      refine .inl ⟨_,rfl,⟨i,j+1,rfl,by omega,by omega,e3,by rw[tf];exact e4,fun k hk=>by rw[tf];exact e5 k hk,fun k hk=>e6 k (by omega)⟩,by dsimp only;omega⟩
     ·rw[ifP cg]
      simp only[hci,oB,wi,wj,Int.toNat_natCast]
      rw[hpa,m8 cg,if_pos (by simp)] at tf
      refine .inl ⟨_,rfl,⟨i+1,j+1,rfl,by omega,by omega,by rw[lS];exact e3,by rw[tf,List.length_append,List.length_singleton,e4],fun k hk=> ?_,fun k hk=> ?_⟩,by dsimp only;omega⟩
      ·dsimp only
       rw[tf,List.getElem?_set]
       by_cases ek:i=k
       ·subst ek;rw[if_pos rfl,if_pos (by omega),List.getElem?_append_right (by omega),e4,Nat.sub_self];rfl
       ·rw[if_neg ek,List.getElem?_append_left (by omega)];exact e5 k (by omega)
      ·dsimp only
       rw[List.getElem?_set,if_neg (by omega)];exact e6 k (by omega)
    ·rw[if_neg cj]
     have ej:j=l.length:=by omega
     rw[ej,List.take_length] at e4 e5
     exact .inr ⟨_,rfl,e3,by dsimp only;omega,by omega,fun k hk=>e5 k (by omega)⟩)
   obtain⟨k2,k3,k4,k5⟩:=k2
   dsimp only at k2 k3 k4 k5
   subst k3
   rw[k1]
   simp only[oB]
   generalize hFl:l.filter p=F at *
   have hlen:(clrL c (0+(F.length:Int)) ((c.length:Int) - F.length) []).length=c.length:=by
    unfold clrL
    simp only[List.length_append,List.length_take,List.length_replicate,List.length_drop]
    omega
   rw[show cutV (c.length:Int) (F.length:Int) (c.length:Int)=some () by unfold cutV;rw[if_pos (by omega)],hlen,show cutV (c.length:Int) 0 (F.length:Int)=some () by unfold cutV;rw[if_pos (by omega)]]
   simp only[oB]
   congr 1
   unfold s8 clrL
   rw[show(0+(F.length:Int)).toNat=F.length by omega,Int.toNat_natCast,Int.toNat_zero,List.drop_zero]
   apply List.ext_getElem?
   intro k
   rw[List.getElem?_take]
   by_cases ek:k<F.length
   ·rw[if_pos ek,List.append_assoc,List.getElem?_append_left (by rw[List.length_take];omega),List.getElem?_take,if_pos ek,k5 k ek]
   ·rw[if_neg ek,List.getElem?_eq_none (by omega)]
  ·cases h2
end
noncomputable def pnd(t:b7)(l:LL):LL:=l.filter fun a=> !dec (g7 t a)
theorem ac3{t:b7}{l:LL}{s:Li}:s ∈ pnd t l↔s ∈ l∧¬ g7 t s:=by
 unfold pnd
 rw[List.mem_filter]
 by_cases c:g7 t s
 ·rw[j6 c];simp[c]
 ·rw[m8 c];simp[c]
theorem Ord.pnd{t:b7}{l:LL}(h:Ord l):Ord (pnd t l):=List.Pairwise.filter _ h
theorem aq7{t:b7}(ht:g9 t){l:LL}(hl:l.length≤1000000)(hs:∀s ∈ l,SetN s t.facts):E9 t l=some (pnd t l):=by
 have h:E9 t l=(delA (fun y=>H8 y t) l).bind fun a=>some a:=rfl
 rw[h,del_eq (g:=g7 t) hl fun a ha=>by
  have hset:=hs a ha
  unfold H8
  rw[F7 hset.1 ht.goal.1 (by have:=hset.len;have:=ht.n1;omega)]
  rfl]
 rfl
end Ab
end
section
namespace Ab
open Go
section
variable {t:b7}{S:LL}{op:Nat→Int}{st:Nat→LL}{w:Nat→Li}
theorem sys_of(ht:g9 t)(ord:Ord S)(n5:S.length≤5)(set:∀s ∈ S,SetN s t.facts)(ng:∀s ∈ S,¬ g7 t s)(rng:∀i,i<S.length→0≤op i∧op i<t.operators.length)
  (cl:∀i s,S[i]? =some s→∀y ∈ sc t s (op i),g7 t y∨y ∈ S):∃st w,Sys t S op st w:=by
 have h:∀i:Nat,∃q:LL×Li,∀s,S[i]? =some s→Wok t s (op i) q.1 q.2:=fun i=>by
  by_cases hi:i<S.length
  ·obtain⟨a,b,h⟩:=results_ok ht (rng i hi).1 (rng i hi).2 (set S[i] (List.getElem_mem hi))
   exact⟨(a,b),fun s hs=>by rw[List.getElem?_eq_getElem hi] at hs;cases hs;exact h⟩
  ·exact⟨([],[]),fun s hs=>by rw[List.getElem?_eq_none (by omega)] at hs;cases hs⟩
 have hq:∀i s,S[i]? =some s→Wok t s (op i) (Classical.choose (h i)).1 (Classical.choose (h i)).2:=fun i=>Classical.choose_spec (h i)
 refine⟨fun i=>(Classical.choose (h i)).1,fun i=>(Classical.choose (h i)).2,ord,n5,set,ng,rng,hq,fun i hi y hy=> ?_⟩
 have hs:S[i]? =some S[i]:=List.getElem?_eq_getElem hi
 obtain⟨x,hx,e⟩:=((hq i _ hs).mem y).1 hy
 exact cl i _ hs y (List.mem_map.2 ⟨x,hx,e⟩)
structure Sol(t:b7)(S:LL)(op:Nat→Int)(st:Nat→LL)(w:Nat→Li)(sg:Int)(num:Nat→Nat)(den:Nat):Prop where
 s1:sg=1∨sg= -1
 d0:0<den
 d1:den≤254803968
 n1:∀i,i<S.length→num i≤63700992000
 dd:det S.length (eqN t S op st w)=sg * den
 nn:∀l,l<S.length→det S.length (rep (eqN t S op st w) l fun r=>eqN t S op st w r S.length)=sg * num l
 vf:Vf S.length (WF st w) (wG S st w) (cF t op) (fun i=>(num i:Int)) den
theorem solved(ht:g9 t)(h:Sys t S op st w)(hp:∀i,i<S.length→Px S.length (WF st w) (wG S st w) i){choose:Li→Option Int}(hch:∀i s,S[i]? =some s→choose s=some (op i)):
  ∃sg num den L N,Sol t S op st w sg num den∧forR 0 (S.length:Int) (A7 t S choose) []=some L∧w7 S L=some (N,sg * (den:Int))∧N.length=S.length∧∀i:Nat,i<S.length→ix N (i:Int)=some (sg * (num i:Int)):=by
 obtain⟨L,N,k1,k2,k3,k4,k5,k6⟩:=value_ok ht h hp hch
 have hM:=sys_ms ht h
 have hR:=sys_rb ht h
 have hn5:=h.n5
 generalize hD:det S.length (eqN t S op st w)=D at *
 have hD1:=det_top hR (Nat.le_refl _)
 rw[hD] at hD1
 have hD2:ab D≤254803968:=by
  refine Int.le_trans hD1 ?_
  have:∀n,n≤5→(48:Int) ^ n≤254803968:=by decide
  exact this _ hn5
 have hW:∀l,l<S.length→wtj N l=det S.length (rep (eqN t S op st w) l fun r=>eqN t S op st w r S.length):=fun l hl=>by unfold wtj;rw[k5 l hl];rfl
 have hN:∀l,l<S.length→ab (wtj N l)≤63700992000:=fun l hl=>by
  rw[hW l hl]
  obtain⟨m,hm⟩:∃m,S.length=m+1:=⟨S.length - 1,by omega⟩
  have:=hR.rep2 (c:=m) (i:=l) (by omega) (by omega)
  rw[hm] at this ⊢
  refine Int.le_trans this ?_
  have:∀n:Nat,n≤4→((n:Int)+1) * 2400 * 48 ^ n≤63700992000:=by decide
  exact this m (by omega)
 obtain⟨sg,den,e1,e2,e3⟩:∃(sg:Int) (den:Nat),(sg=1∨sg= -1)∧D=sg * (den:Int)∧0<den:=by
  by_cases c:0<D
  ·obtain⟨d,rfl⟩:=Int.eq_ofNat_of_zero_le (Int.le_of_lt c)
   exact⟨1,d,.inl rfl,by omega,by omega⟩
  ·obtain⟨d,hd⟩:=Int.eq_ofNat_of_zero_le (show 0≤ -D by omega)
   exact⟨-1,d,.inr rfl,by omega,by omega⟩
 have pos:∀l,l<S.length→0≤sg * wtj N l:=pos0 hM (b:=fun _=>0) hp (y:=fun k=>sg * wtj N k) fun r hr=>by
  have hx:smN S.length (fun k=>eqM S.length (WF st w) (wG S st w) (fun _=>0) r k * (sg * wtj N k))=sg * smN S.length (fun k=>eqN t S op st w r k * wtj N k):=by
   rw[← x7]
   exact k8 fun k hk=>by
    have:eqM S.length (WF st w) (wG S st w) (fun _=>0) r k=eqN t S op st w r k:=by
     unfold eqN eqM;rw[if_neg (show ¬ k=S.length by omega),if_neg (show ¬ k=S.length by omega)]
    rw[this];grind
  rw[hx,k6 r hr,e2]
  have hc:=(ht.at (h.rng r hr).1 (h.rng r hr).2).c0
  have h3:=hM.pos r hr
  have:0≤WF st w r * cF t op r:=Int.mul_nonneg (by omega) hc
  have e:sg * (sg * (den:Int) * (WF st w r * cF t op r))=(den:Int) * (WF st w r * cF t op r):=by
   rcases e1 with rfl|rfl<;>grind
  rw[e]
  exact Int.mul_nonneg (by omega) this
 have num:∀l,((sg * wtj N l).toNat:Int)=if l<S.length then sg * wtj N l else((sg * wtj N l).toNat:Int):=fun l=>by
  split
  ·rename_i hl;have:=pos l hl;omega
  ·rfl
 have hnum:∀l,l<S.length→((sg * wtj N l).toNat:Int)=sg * wtj N l:=fun l hl=>by have:=num l;rw[if_pos hl] at this;exact this
 have hback:∀l,l<S.length→wtj N l=sg * ((sg * wtj N l).toNat:Int):=fun l hl=>by
  rw[hnum l hl];rcases e1 with rfl|rfl<;>omega
 refine⟨sg,fun l=>(sg * wtj N l).toNat,den,L,N,⟨e1,e3,?_,fun i hi=> ?_,by rw[hD];exact e2,fun l hl=> ?_,?_,fun i hi=> ?_⟩,k1,by rw[k2,e2],k3,fun i hi=> ?_⟩
 ·have:=ab_le hD2
  rcases e1 with rfl|rfl<;>omega
 ·have h1:=ab_le (hN i hi)
  have h2:=hnum i hi
  rcases e1 with rfl|rfl<;>omega
 ·rw[← hW l hl];exact hback l hl
 ·omega
 ·have h1:=k6 i hi
  rw[aj6 (Nat.le_refl _) hi,e2] at h1
  unfold Qv
  have h2:smN S.length (fun k=>wG S st w i k * ((sg * wtj N k).toNat:Int))=sg * smN S.length (fun k=>wG S st w i k * wtj N k):=by
   rw[← x7]
   exact k8 fun k hk=>by rw[hnum k hk];grind
  rw[h2,hnum i hi]
  generalize smN S.length (fun k=>wG S st w i k * wtj N k)=A at *
  rcases e1 with rfl|rfl<;>grind
 ·rw[af1 (by omega),← hback i hi]
theorem report_eq{sg:Int}(hsg:sg=1∨sg= -1){a b:Nat}(ha:a≤4000000000000000000)(hb:b≤4000000000000000000)(hb0:0<b):
  O0 (sg * (a:Int)) (sg * (b:Int))=some (if(frN a b).num≤1000000000∧(frN a b).den≤1000000000 then(frN a b,⟨0,0⟩) else(⟨0,0⟩,⟨10, -2⟩)):=by
 have e:C7 (sg * (a:Int)) (sg * (b:Int))=C7 (a:Int) (b:Int):=by
  rcases hsg with rfl|rfl
  ·rw[Int.one_mul,Int.one_mul]
  ·rw[show -1 * (a:Int)= -(a:Int) by omega,show -1 * (b:Int)= -(b:Int) by omega,lowest_neg ha hb hb0]
 unfold O0
 rw[e,lowest_pos ha hb hb0]
 simp only[oB]
 by_cases c:(frN a b).num≤1000000000∧(frN a b).den≤1000000000
 ·rw[j6 c,if_pos c];rfl
 ·rw[m8 c,if_neg c];rfl
end
section
variable {t:b7}{p:List d9}
theorem pol_sys(ht:g9 t)(hp:J4 t p)(hk:∀s,Rch t p s→∃k,RkP t p k s){l:LL}(hv:Vis t p l)(h5:(pnd t l).length≤5):
  ∃st w,Sys t (pnd t l) (fun i=>chO p (((pnd t l)[i]?).getD [])) st w∧∀i,i<(pnd t l).length→Wy t (pnd t l) st i:=by
 have mem:∀s,s ∈ pnd t l→Rch t p s∧¬ g7 t s∧G6 p s:=fun s hs=>by
  obtain⟨h1,h2⟩:=ac3.1 hs
  have h3:=(hv.mem s).1 h1
  obtain⟨k,hk⟩:=hk s h3
  refine⟨h3,h2,?_⟩
  cases k with
  |zero=>exact absurd hk h2
  |succ k=>exact(hk.resolve_left h2).1
 have hop:∀(i:Nat) s,(pnd t l)[i]? =some s→chO p (((pnd t l)[i]?).getD [])=chO p s:=fun i s hs=>by rw[hs];rfl
 obtain⟨st,w,h⟩:=sys_of (op:=fun i=>chO p (((pnd t l)[i]?).getD [])) ht hv.ord.pnd h5 (fun s hs=>(mem s hs).1.set ht) (fun s hs=>(mem s hs).2.1) (fun i hi=>by
  have hs:=List.getElem?_eq_getElem hi
  rw[hop i _ hs]
  exact(live_op hp (mem _ (List.getElem_mem hi)).2.2).1) (fun i s hs y hy=>by
  rw[hop i s hs] at hy
  obtain⟨m1,m2,m3⟩:=mem s (List.mem_of_getElem? hs)
  by_cases g:g7 t y
  ·exact .inl g
  ·exact .inr (ac3.2 ⟨(hv.mem y).2 (.step m1 m2 m3 hy),g⟩))
 refine⟨st,w,h,?_⟩
 have key:∀(k:Nat) (i:Nat) (s:Li),(pnd t l)[i]? =some s→RkP t p k s→Wy t (pnd t l) st i:=fun k=>by
  induction k with
  |zero=>exact fun i s hs hk=>absurd hk (h.ng s (List.mem_of_getElem? hs))
  |succ k ih=>
   intro i s hs hk
   obtain⟨hi,_⟩:=lG.1 hs
   obtain⟨m1,m2,m3⟩:=mem s (List.mem_of_getElem? hs)
   obtain⟨_,y,hy,hk'⟩:=hk.resolve_left m2
   have hys:y ∈ st i:=((h.res i s hs).mem y).2 (by
    rw[hop i s hs]
    obtain⟨x,hx,e⟩:=List.mem_map.1 hy
    exact⟨x,hx,e⟩)
   by_cases g:g7 t y
   ·exact .exit hi hys g
   ·obtain⟨j,hj,e⟩:=List.getElem_of_mem (ac3.2 ⟨(hv.mem y).2 (.step m1 m2 m3 hy),g⟩:y ∈ pnd t l)
    have hj':(pnd t l)[j]? =some y:=by rw[List.getElem?_eq_getElem hj,e]
    exact .step hi hj' hys (ih j y hj' hk')
 intro i hi
 have hs:=List.getElem?_eq_getElem hi
 obtain⟨k,hk⟩:=hk _ (mem _ (List.getElem_mem hi)).1
 exact key k i _ hs hk
theorem value_spec(t:b7)(p:List d9):∃f,D8 t p=some f∧
  ((f.code ≠ 0∧¬ (g9 t∧J4 t p)∧y6 t p=some (⟨0,0⟩,f))∨(f=⟨0,0⟩∧g9 t∧J4 t p∧
   (((¬ ∀s,Rch t p s→∃k,RkP t p k s)∧y6 t p=some (⟨0,0⟩,⟨15, -1⟩))∨((∀s,Rch t p s→∃k,RkP t p k s)∧∃l,Vis t p l∧
    ((5<(pnd t l).length∧y6 t p=some (⟨0,0⟩,⟨10, -7⟩))∨((pnd t l).length≤5∧((g7 t t.init∧y6 t p=some (⟨0,1⟩,⟨0,0⟩))∨(¬ g7 t t.init∧
     ∃st w sg num den,Sys t (pnd t l) (fun i=>chO p (((pnd t l)[i]?).getD [])) st w∧(∀i,i<(pnd t l).length→Wy t (pnd t l) st i)∧Sol t (pnd t l) (fun i=>chO p (((pnd t l)[i]?).getD [])) st w sg num den∧∃i0,(pnd t l)[i0]? =some t.init∧
      y6 t p=some (if(frN (num i0) den).num≤1000000000∧(frN (num i0) den).den≤1000000000 then(frN (num i0) den,⟨0,0⟩) else(⟨0,0⟩,⟨10, -2⟩)))))))))):=by
 obtain⟨f,e1,_,e3⟩:=policy_eq t p
 refine⟨f,e1,?_⟩
 rcases e3 with⟨rfl,ht,hp⟩|⟨hc,hno⟩
 ·refine .inr ⟨rfl,ht,hp,?_⟩
  have hn:=ht.n1
  unfold y6
  rw[e1,Option.bind_some,if_neg (by simp),holds_eq ht hp,Option.bind_some,w3]
  by_cases hk:∀s,Rch t p s→∃k,RkP t p k s
  ·rw[ifNN hk]
   refine .inr ⟨hk,?_⟩
   obtain⟨l,q1,q2⟩:=oVisited_eq ht hp
   refine⟨l,q2,?_⟩
   have hlen:=q2.len ht hp
   have hset:∀s ∈ l,SetN s t.facts:=fun s hs=>((q2.mem s).1 hs).set ht
   rw[q1,Option.bind_some,aq7 ht (by omega) hset,Option.bind_some]
   by_cases c5:5<((pnd t l).length:Int)
   ·rw[if_pos c5]
    exact .inl ⟨by omega,rfl⟩
   ·rw[if_neg c5]
    refine .inr ⟨by omega,?_⟩
    rw[show k9 t.init t.goal=some (dec (g7 t t.init)) from F7 ht.init.1 ht.goal.1 (by have:=ht.init.len;omega)]
    simp only[oB]
    by_cases cg:g7 t t.init
    ·rw[ifP cg]
     exact .inl ⟨cg,rfl⟩
    ·rw[ifN cg]
     refine .inr ⟨cg,?_⟩
     obtain⟨st,w,h,hw⟩:=pol_sys ht hp hk q2 (by omega)
     have hmi:t.init ∈ pnd t l:=ac3.2 ⟨(q2.mem _).2 .init,cg⟩
     obtain⟨i0,hi0,ei⟩:=List.getElem_of_mem hmi
     have hi:(pnd t l)[i0]? =some t.init:=by rw[List.getElem?_eq_getElem hi0,ei]
     obtain⟨sg,num,den,L,N,s1,s2,s3,s4,s5⟩:=solved ht h (fun i hi=>(hw i hi).px h) (choose:=fun s=>K8 s p) (fun i s hs=>by
      unfold K8
      rw[(X5 hp s).1,hs];rfl)
     refine⟨st,w,sg,num,den,h,hw,s1,i0,hi,?_⟩
     have he:G8 t (pnd t l) p=some L:=by
      have:G8 t (pnd t l) p=(forR 0 ((pnd t l).length:Int) (A7 t (pnd t l) fun s=>K8 s p) []).bind fun a=>some a:=rfl
      rw[this,s2];rfl
     rw[he]
     simp only[oB,s3,O4 h.ord (show(pnd t l).length≤500000 by omega) (show ix (pnd t l) (i0:Int)=some t.init by rw[n9,hi]),s5 i0 hi0]
     have hb1:=s1.n1 i0 hi0
     have hb2:=s1.d1
     rw[report_eq s1.s1 (by omega) (by omega) s1.d0]
     rfl
  ·rw[ifP hk]
   exact .inl ⟨hk,rfl⟩
 ·refine .inl ⟨hc,hno,?_⟩
  unfold y6
  rw[e1,Option.bind_some,if_pos (by simp[hc])]
end
end Ab
end
section
namespace Ab
open Go
noncomputable def rsO(t:b7)(s:Li)(op:Int):LL×Li:=(q6 t s op).getD ([],[])
theorem Wok.rs{t:b7}{s:Li}{op:Int}{st:LL}{w:Li}(h:Wok t s op st w):(rsO t s op).1=st∧(rsO t s op).2=w:=by unfold rsO;rw[h.eq];exact⟨rfl,rfl⟩
theorem rsO_ok{t:b7}(ht:g9 t){op:Int}(h0:0≤op∧op<t.operators.length){s:Li}(hs:SetN s t.facts):Wok t s op (rsO t s op).1 (rsO t s op).2:=by
 obtain⟨st,w,h⟩:=results_ok ht h0.1 h0.2 hs
 rw[h.rs.1,h.rs.2];exact h
noncomputable def vG(t:b7)(v:Li→Int)(y:Li):Int:=if dec (g7 t y)=true then 0 else v y
noncomputable def WS(t:b7)(s:Li)(op:Int):Int:=smN (rsO t s op).1.length (wtj (rsO t s op).2)
noncomputable def CS(t:b7)(v:Li→Int)(s:Li)(op:Int):Int:=smN (rsO t s op).1.length fun j=>wtj (rsO t s op).2 j * vG t v (((rsO t s op).1[j]?).getD [])
noncomputable def QS(t:b7)(v:Li→Int)(den:Int)(s:Li)(op:Int):Int:=CS t v s op+WS t s op * (ooAt t op).cost * den
structure StS(t:b7)(S:LL):Prop where
 ord:Ord S
 n5:S.length≤5
 set:∀s ∈ S,SetN s t.facts
 ng:∀s ∈ S,¬ g7 t s
def Alw(t:b7)(S:LL)(s:Li)(op:Int):Prop:=(0≤op∧op<t.operators.length)∧oCan t s op∧∀y ∈ sc t s op,g7 t y∨y ∈ S
def sN(S:LL)(i:Nat):Li:=(S[i]?).getD []
section
variable {t:b7}{S:LL}{op:Nat→Int}{st:Nat→LL}{w:Nat→Li}
theorem sN_eq{i:Nat}{s:Li}(h:S[i]? =some s):sN S i=s:=by unfold sN;rw[h];rfl
theorem sys_op(ht:g9 t)(hS:StS t S)(ha:∀i s,S[i]? =some s→Alw t S s (op i)):Sys t S op (fun i=>(rsO t (sN S i) (op i)).1) (fun i=>(rsO t (sN S i) (op i)).2):=by
 have hi:∀i,i<S.length→S[i]? =some (sN S i):=fun i hi=>by unfold sN;rw[List.getElem?_eq_getElem hi];rfl
 have hw:∀i,i<S.length→Wok t (sN S i) (op i) (rsO t (sN S i) (op i)).1 (rsO t (sN S i) (op i)).2:=fun i h=>rsO_ok ht (ha i _ (hi i h)).1 (hS.set _ (List.mem_of_getElem? (hi i h)))
 refine⟨hS.ord,hS.n5,hS.set,hS.ng,fun i h=>(ha i _ (hi i h)).1,fun i s hs=> ?_,fun i h y hy=> ?_⟩
 ·obtain⟨hl,_⟩:=lG.1 hs
  have:=hw i hl
  rw[sN_eq hs] at this ⊢;exact this
 ·obtain⟨x,hx,e⟩:=((hw i h).mem y).1 hy
  exact(ha i _ (hi i h)).2.2 y (List.mem_map.2 ⟨x,hx,e⟩)
theorem Sys.ws(h:Sys t S op st w){i:Nat}{s:Li}(hs:S[i]? =some s):WF st w i=WS t s (op i):=by
 obtain⟨e1,e2⟩:=(h.res i s hs).rs
 unfold WF WS;rw[e1,e2]
theorem Sys.cs(h:Sys t S op st w){i:Nat}{s:Li}(hs:S[i]? =some s)(v:Li→Int):smN S.length (fun k=>wG S st w i k * v (sN S k))=CS t v s (op i):=by
 obtain⟨hi,_⟩:=lG.1 hs
 obtain⟨e1,e2⟩:=(h.res i s hs).rs
 unfold CS;rw[e1,e2]
 have a:smN S.length (fun k=>wG S st w i k * v (sN S k))=smN S.length fun k=>smN (st i).length fun j=>(if(st i)[j]? =S[k]? then wtj (w i) j else 0) * v (sN S k):=k8 fun k hk=>by
  unfold wG wF
  rw[if_pos hi,List.getElem?_eq_getElem hk,Int.mul_comm]
  unfold twF
  rw[← x7]
  exact k8 fun j _=>Int.mul_comm _ _
 rw[a,smN_comm]
 refine k8 fun j hj=> ?_
 have hgj:(st i)[j]? =some (st i)[j]:=List.getElem?_eq_getElem hj
 rw[hgj]
 unfold vG
 show _=wtj (w i) j * if dec (g7 t (st i)[j])=true then 0 else v (st i)[j]
 by_cases g:g7 t (st i)[j]
 ·rw[ifP g,Int.mul_zero]
  refine ab6 fun k hk=> ?_
  rw[if_neg,Int.zero_mul]
  intro q
  exact h.ng _ (List.mem_of_getElem? q.symm) g
 ·rw[ifN g]
  obtain⟨k,hk,e⟩:=List.getElem_of_mem ((h.cl i hi _ (List.getElem_mem hj)).resolve_left g)
  have hk':S[k]? =some (st i)[j]:=by rw[List.getElem?_eq_getElem hk,e]
  rw[O8 (a:=k) hk fun k' hk'' hne=> ?_,if_pos hk'.symm,sN_eq hk']
  rw[if_neg,Int.zero_mul]
  intro q
  have a:ix S (k:Int)=some (st i)[j]:=by rw[n9,hk']
  have b:ix S (k':Int)=some (st i)[j]:=by rw[n9,← q]
  have:=h.ord.inj a b
  omega
theorem Sys.qs(h:Sys t S op st w){i:Nat}{s:Li}(hs:S[i]? =some s){v:Li→Int}{num:Nat→Int}(hv:∀k,k<S.length→num k=v (sN S k)){den:Int}:Qv S.length (WF st w) (wG S st w) (cF t op) num den i=QS t v den s (op i):=by
 unfold Qv QS
 rw[h.ws hs,← h.cs hs v]
 rw[k8 (g:=fun k=>wG S st w i k * v (sN S k)) fun k hk=>by rw[hv k hk]]
 rfl
theorem Sys.wy(h:Sys t S op st w){i:Nat}(hp:Px S.length (WF st w) (wG S st w) i):Wy t S st i:=by
 induction hp with
 |@exit i hi hlt=>
  by_cases e:∃y ∈ st i,g7 t y
  ·obtain⟨y,hy,hg⟩:=e;exact .exit hi hy hg
  ·exfalso
   rw[lead_sum h hi] at hlt
   have:smN (st i).length (fun j=>if dec (∃y ∈ S,(st i)[j]? =some y)=true then wtj (w i) j else 0)=smN (st i).length (wtj (w i)):=k8 fun j hj=>by
    rw[if_pos]
    refine j6 ⟨(st i)[j],(h.cl i hi _ (List.getElem_mem hj)).resolve_left fun g=>e ⟨_,List.getElem_mem hj,g⟩,List.getElem?_eq_getElem hj⟩
   rw[this] at hlt
   exact Int.lt_irrefl _ hlt
 |@step i k hi hk hw _ ih=>
  have hks:S[k]? =some S[k]:=List.getElem?_eq_getElem hk
  refine .step hi hks ?_ ih
  refine Classical.byContradiction fun hn=> ?_
  unfold wG wF at hw
  rw[if_pos hi,hks] at hw
  dsimp only at hw
  unfold twF at hw
  rw[ab6] at hw
  ·omega
  ·intro j hj
   rw[if_neg]
   intro q
   exact hn (List.mem_of_getElem? q)
end
end Ab
end
section
namespace Ab
open Go
structure VB(S:LL)(v:Li→Int)(den:Int)(l7:Li):Prop where
 d0:0<den
 d1:den≤254803968
 v0:∀s ∈ S,0≤v s∧v s≤63700992000
 get:∀(i:Nat) s,S[i]? =some s→ix l7 (i:Int)=some (v s)
section
variable {t:b7}{S:LL}{v:Li→Int}{den:Int}{l7:Li}
theorem wtj_le{m:Nat}{w:Li}(h:∀j,0≤wtj w j){k:Nat}(hk:k<m):wtj w k≤smN m (wtj w):=by
 have:=W4 h (Nat.zero_le k) hk
 simpa[smN] using this
theorem Wok.nn{s:Li}{op:Int}{st:LL}{w:Li}(h:Wok t s op st w)(j:Nat):0≤wtj w j:=by
 by_cases e:j<st.length
 ·have:=h.pos j e;omega
 ·unfold wtj;rw[List.getElem?_eq_none (by rw[h.len];omega)];simp
theorem smN_bound{f w:Nat→Int}{B:Int}{m:Nat}(h:∀j,j<m→f j≤w j * B):smN m f≤smN m w * B:=by
 have h1:=S7 h
 have h2:smN m (fun j=>w j * B)=smN m w * B:=by
  rw[Int.mul_comm,← x7];exact k8 fun j _=>Int.mul_comm _ _
 omega
theorem ws_pos{s:Li}{op:Int}{st:LL}{w:Li}(ht:g9 t)(h0:0≤op∧op<t.operators.length)(h:Wok t s op st w):1≤WS t s op∧WS t s op≤24:=by
 obtain⟨e1,e2⟩:=h.rs
 unfold WS;rw[e1,e2]
 refine⟨?_,h.sum⟩
 have l0:=(ht.at h0.1 h0.2).l0
 have hm:efc t.facts s ((ooAt t op).outcomes[0]) ∈ st:=(h.mem _).2 ⟨_,List.getElem_mem (by omega),rfl⟩
 have hl:=List.length_pos_of_mem hm
 have h1:=h.pos 0 hl
 have:=wtj_le h.nn hl
 omega
def InS(t:b7)(S:LL)(s:Li)(op:Int):Prop:=∀y ∈ sc t s op,g7 t y∨y ∈ S
theorem cval_eq(ht:g9 t)(hS:StS t S)(hv:VB S v den l7){s:Li}(hs:SetN s t.facts){op:Int}(h0:0≤op∧op<t.operators.length)(l:Li):
  (InS t S s op∧A6 s op t S den l l7=some (QS t v den s op,WS t s op,true)∧0≤QS t v den s op∧QS t v den s op≤4000000000000)∨(¬ InS t S s op∧∃a b,A6 s op t S den l l7=some (a,b,false)):=by
 have hW:=rsO_ok ht h0 hs
 generalize hst:(rsO t s op).1=st at hW
 generalize hw:(rsO t s op).2=w at hW
 have hn5:=hS.n5
 have hd0:=hv.d0;have hd1:=hv.d1
 have hco:=ht.at h0.1 h0.2
 have hc0:=hco.c0;have hc1:=hco.c1
 have hsum:=hW.sum
 have hs4:=hW.s4
 have hmem:∀y,y ∈ st↔y ∈ sc t s op:=fun y=>by rw[hW.mem,sc,List.mem_map]
 have hvG:∀y,(g7 t y∨y ∈ S)→0≤vG t v y∧vG t v y≤63700992000:=fun y hy=>by
  unfold vG
  by_cases g:g7 t y
  ·rw[ifP g];omega
  ·rw[ifN g];exact hv.v0 _ (hy.resolve_left g)
 unfold A6
 rw[hW.eq,Option.bind_some]
 have hset:∀y ∈ st,SetN y t.facts:=fun y hy=>by
  obtain⟨x,_,rfl⟩:=(hW.mem y).1 hy
  exact ab4 _ _ _
 rcases T6 (body:=F4 t S l7 (st,w)) (n:=(st.length:Int)) (s:=((0:Int),(0:Int)))
  (fun j q=>q.1=smN j.toNat (fun j=>wtj w j * vG t v ((st[j]?).getD []))∧q.2=smN j.toNat (wtj w)∧∀(k:Nat) y,(k:Int)<j→st[k]? =some y→g7 t y∨y ∈ S) (fun o=>o.2.2=false∧∃y ∈ st,¬ (g7 t y∨y ∈ S)) (by omega) ⟨rfl,rfl,fun k y hk=>by omega⟩ (fun j q j0 j1 ⟨p1,p2,p3⟩=>by
   obtain⟨sum,all⟩:=q
   obtain⟨J,rfl⟩:=Int.eq_ofNat_of_zero_le j0
   have hJ:J<st.length:=by omega
   dsimp only at p1 p2
   rw[Int.toNat_natCast] at p1 p2
   have hgJ:st[J]? =some st[J]:=List.getElem?_eq_getElem hJ
   have hx:ix st (J:Int)=some st[J]:=by rw[n9];exact hgJ
   have hwJ:=af1 (w:=w) (i:=J) (by rw[hW.len];exact hJ)
   have hw1:=hW.pos J hJ
   have hw2:=wtj_le hW.nn hJ
   have sJ:=hset _ (List.getElem_mem hJ)
   have hcon:k9 st[J] t.goal=some (dec (g7 t st[J])):=F7 sJ.1 ht.goal.1 (by have:=sJ.len;have:=ht.n1;omega)
   have a1:smN (J+1) (wtj w)=smN J (wtj w)+wtj w J:=rfl
   have a2:=Q5 (f:=wtj w) hW.nn (show J+1≤st.length by omega)
   have a3:0≤smN J (wtj w):=T8 fun j _=>hW.nn j
   have b1:smN (J+1) (fun j=>wtj w j * vG t v ((st[j]?).getD []))=smN J (fun j=>wtj w j * vG t v ((st[j]?).getD []))+wtj w J * vG t v st[J]:=by
    show _+wtj w J * vG t v ((st[J]?).getD [])=_
    rw[hgJ];rfl
   have hq:∀k,k<J→0≤wtj w k * vG t v ((st[k]?).getD [])∧wtj w k * vG t v ((st[k]?).getD [])≤wtj w k * 63700992000:=fun k hk=>by
    have e:st[k]? =some st[k]:=List.getElem?_eq_getElem (by omega)
    have:=hvG _ (p3 k st[k] (by omega) e)
    rw[e]
    exact⟨Int.mul_nonneg (hW.nn k) this.1,Int.mul_le_mul_of_nonneg_left this.2 (hW.nn k)⟩
   have b2:0≤smN J fun j=>wtj w j * vG t v ((st[j]?).getD []):=T8 fun k hk=>(hq k hk).1
   have b3:=smN_bound (m:=J) fun k hk=>(hq k hk).2
   have f1:w64 (all+wtj w J)=smN (J+1) (wtj w):=by rw[m5 (by omega) (by omega),p2,a1]
   have nx:∀(y:Li),(g7 t st[J]∨st[J] ∈ S)→∀(k:Nat) y,(k:Int)<(J:Int)+1→st[k]? =some y→g7 t y∨y ∈ S:=fun _ h k y hk hy=>by
    by_cases e:k=J
    ·subst e;rw[hgJ] at hy;cases hy;exact h
    ·exact p3 k y (by omega) hy
   unfold F4
   simp only[hx,hwJ,hcon,oB]
   by_cases cg:g7 t st[J]
   ·rw[ifP cg]
    unfold x6
    refine .inl ⟨_,rfl,?_,?_,nx [] (.inl cg)⟩
    ·rw[show((J:Int)+1).toNat=J+1 by omega,b1,p1]
     unfold vG;rw[ifP cg,Int.mul_zero,Int.add_zero]
    ·rw[show((J:Int)+1).toNat=J+1 by omega];exact f1
   ·rw[ifN cg]
    obtain⟨i,i1,i2,i3⟩:=al3 (t:=st[J]) hS.ord (by omega)
    rw[i1]
    simp only[oB,w3]
    by_cases cs:st[J] ∈ S
    ·rw[ifNN cs]
     obtain⟨m,m0,m1,hm⟩:=m6 cs
     have em:=i3 m hm
     subst em
     obtain⟨M,rfl⟩:=Int.eq_ofNat_of_zero_le m0
     rw[n9] at hm
     have hvv:=hv.get M _ hm
     have hvb:=hv.v0 _ cs
     have e1:vG t v st[J]=v st[J]:=by unfold vG;rw[ifN cg]
     have c1:0≤wtj w J * v st[J]:=Int.mul_nonneg (by omega) hvb.1
     have c2:wtj w J * v st[J]≤wtj w J * 63700992000:=Int.mul_le_mul_of_nonneg_left hvb.2 (by omega)
     have f2:w64 (wtj w J * v st[J])=wtj w J * v st[J]:=m5 (by omega) (by omega)
     have f3:w64 (sum+wtj w J * v st[J])=sum+wtj w J * v st[J]:=m5 (by omega) (by omega)
     simp only[hvv,oB,f2,f3]
     unfold x6
     refine .inl ⟨_,rfl,?_,?_,nx [] (.inr cs)⟩
     ·rw[show((J:Int)+1).toNat=J+1 by omega,b1,p1,e1]
     ·rw[show((J:Int)+1).toNat=J+1 by omega];exact f1
    ·rw[ifP cs]
     exact .inr ⟨_,rfl,rfl,_,List.getElem_mem hJ,fun h=>h.elim cg cs⟩) with⟨⟨sum,all⟩,r1,r2,r3,r4⟩|⟨⟨a,b,c⟩,r1,r2,y,hy,r3⟩
 ·left
  dsimp only at r2 r3
  rw[Int.toNat_natCast] at r2 r3
  have hin:InS t S s op:=fun y hy=>by
   obtain⟨k,hk⟩:=List.getElem?_of_mem ((hmem y).2 hy)
   exact r4 k y (by have:=(lG.1 hk).1;omega) hk
  have hq:∀k,k<st.length→0≤wtj w k * vG t v ((st[k]?).getD [])∧wtj w k * vG t v ((st[k]?).getD [])≤wtj w k * 63700992000:=fun k hk=>by
   have e:st[k]? =some st[k]:=List.getElem?_eq_getElem (by omega)
   have:=hvG _ (r4 k st[k] (by omega) e)
   rw[e]
   exact⟨Int.mul_nonneg (hW.nn k) this.1,Int.mul_le_mul_of_nonneg_left this.2 (hW.nn k)⟩
  have b2:0≤smN st.length fun j=>wtj w j * vG t v ((st[j]?).getD []):=T8 fun k hk=>(hq k hk).1
  have b3:=smN_bound (m:=st.length) fun k hk=>(hq k hk).2
  have hws:=ws_pos ht h0 hW
  have eW:WS t s op=smN st.length (wtj w):=by unfold WS;rw[hst,hw]
  have eC:CS t v s op=smN st.length fun j=>wtj w j * vG t v ((st[j]?).getD []):=by unfold CS;rw[hst,hw]
  rw[← eW] at r3 b3
  rw[← eC] at r2 b2 b3
  subst r2 r3
  have d1:0≤WS t s op * (ooAt t op).cost:=Int.mul_nonneg (by omega) hc0
  have d2:WS t s op * (ooAt t op).cost≤2400:=by
   have:=Int.mul_le_mul hws.2 hc1 hc0 (by omega:(0:Int)≤24)
   omega
  have d3:0≤WS t s op * (ooAt t op).cost * den:=Int.mul_nonneg d1 (by omega)
  have d4:WS t s op * (ooAt t op).cost * den≤2400 * 254803968:=Int.mul_le_mul d2 hd1 (by omega) (by omega)
  have g1:w64 (WS t s op * (ooAt t op).cost)=WS t s op * (ooAt t op).cost:=m5 (by omega) (by omega)
  have g2:w64 (WS t s op * (ooAt t op).cost * den)=WS t s op * (ooAt t op).cost * den:=m5 (by omega) (by omega)
  have g3:w64 (CS t v s op+WS t s op * (ooAt t op).cost * den)=CS t v s op+WS t s op * (ooAt t op).cost * den:=m5 (by omega) (by omega)
  rw[r1]
  simp only[oB,ix_oo h0.1 h0.2,g1,g2,g3]
  refine⟨hin,rfl,?_,?_⟩<;>unfold QS<;>omega
 ·right
  dsimp only at r2
  subst r2
  rw[r1]
  exact⟨fun h=>r3 (h y ((hmem y).1 hy)),a,b,rfl⟩
def Bst(t:b7)(S:LL)(v:Li→Int)(den:Int)(s:Li)(f:Int):Prop:=
 Alw t S s f∧(∀op,Alw t S s op→QS t v den s f * WS t s op≤QS t v den s op * WS t s f)∧∀op,op<f→Alw t S s op→QS t v den s f * WS t s op<QS t v den s op * WS t s f
theorem frac_lt{a b c d e f:Int}(hd:0<d)(hb:0<b)(hf:0<f)(h1:a * d<c * b)(h2:c * f≤e * d):a * f<e * b:=by
 have k1:a * d * f<c * b * f:=Int.mul_lt_mul_of_pos_right h1 hf
 have k2:c * f * b≤e * d * b:=Int.mul_le_mul_of_nonneg_right h2 (by omega)
 have k3:(a * f) * d<(e * b) * d:=by
  have e1:(a * f) * d=a * d * f:=by grind
  have e2:(e * b) * d=e * d * b:=by grind
  have e3:c * f * b=c * b * f:=by grind
  omega
 exact Int.lt_of_mul_lt_mul_right k3 (by omega)
theorem frac_le{a b c d e f:Int}(hd:0<d)(hb:0<b)(hf:0<f)(h1:a * d≤c * b)(h2:c * f≤e * d):a * f≤e * b:=by
 have k1:a * d * f≤c * b * f:=Int.mul_le_mul_of_nonneg_right h1 (by omega)
 have k2:c * f * b≤e * d * b:=Int.mul_le_mul_of_nonneg_right h2 (by omega)
 have k3:(a * f) * d≤(e * b) * d:=by
  have e1:(a * f) * d=a * d * f:=by grind
  have e2:(e * b) * d=e * d * b:=by grind
  have e3:c * f * b=c * b * f:=by grind
  omega
 exact Int.le_of_mul_le_mul_right k3 hd
theorem imp2(ht:g9 t)(hS:StS t S)(hv:VB S v den l7){s:Li}(hs:SetN s t.facts)(he:∃op,Alw t S s op)(l:Li):
  ∃f,forR 0 (t.operators.length:Int) (z6 t S den l l7 s) (-1,0,1)=some (f,QS t v den s f,WS t s f)∧Bst t S v den s f∧(0≤QS t v den s f∧QS t v den s f≤4000000000000)∧1≤WS t s f∧WS t s f≤24:=by
 obtain⟨⟨f,a,w⟩,k1,k2⟩:=r8 (body:=z6 t S den l l7 s) (n:=(t.operators.length:Int)) (s:=((-1:Int),(0:Int),(1:Int)))
  (fun j q=>(q=(-1,0,1)∧∀op,op<j→¬ Alw t S s op)∨∃f,q=(f,QS t v den s f,WS t s f)∧f<j∧Alw t S s f∧(0≤QS t v den s f∧QS t v den s f≤4000000000000)∧(1≤WS t s f∧WS t s f≤24)∧(∀op,op<j→Alw t S s op→QS t v den s f * WS t s op≤QS t v den s op * WS t s f)∧∀op,op<f→Alw t S s op→QS t v den s f * WS t s op<QS t v den s op * WS t s f) (by omega)
  (.inl ⟨rfl,fun op h hA=>by have:=hA.1.1;omega⟩) (fun j q j0 j1 hq=>by
   have hW:=rsO_ok ht ⟨j0,j1⟩ hs
   have hw:=ws_pos ht ⟨j0,j1⟩ hW
   have lift:∀{P:Int→Prop},(∀op,op<j→P op)→P j→∀op,op<j+1→P op:=fun h1 h2 op hop=>by
    by_cases e:op=j
    ·subst e;exact h2
    ·exact h1 op (by omega)
   unfold z6
   obtain⟨f,a,w⟩:=q
   simp only[ak0 ht j0 j1 hs,oB,w3]
   have stay:¬ Alw t S s j→(((f,a,w)=((-1:Int),(0:Int),(1:Int))∧∀op,op<j+1→¬ Alw t S s op)∨∃f',(f,a,w)=(f',QS t v den s f',WS t s f')∧f'<j+1∧Alw t S s f'∧(0≤QS t v den s f'∧QS t v den s f'≤4000000000000)∧(1≤WS t s f'∧WS t s f'≤24)∧(∀op,op<j+1→Alw t S s op→QS t v den s f' * WS t s op≤QS t v den s op * WS t s f')∧∀op,op<f'→Alw t S s op→QS t v den s f' * WS t s op<QS t v den s op * WS t s f'):=fun hn=>by
    rcases hq with⟨e,h⟩|⟨f',e,h1,h2,h3,h4,h5,h6⟩
    ·exact .inl ⟨e,lift h hn⟩
    ·exact .inr ⟨f',e,by omega,h2,h3,h4,lift h5 fun h=>absurd h hn,h6⟩
   by_cases cc:oCan t s j
   ·rw[ifNN cc]
    rcases cval_eq ht hS hv hs ⟨j0,j1⟩ l with⟨c1,c2,c3,c4⟩|⟨c1,a',b',c2⟩
    ·have hA:Alw t S s j:=⟨⟨j0,j1⟩,cc,c1⟩
     rw[c2]
     simp only[oB,Bool.true_and]
     rcases hq with⟨e,h⟩|⟨f',e,h1,h2,h3,h4,h5,h6⟩
     ·cases e
      rw[if_pos (by simp)]
      exact⟨_,rfl,.inr ⟨j,rfl,by omega,hA,⟨c3,c4⟩,hw,lift (fun op hop hO=>absurd hO (h op hop)) fun _=>Int.le_refl _,fun op hop hO=>absurd hO (h op hop)⟩⟩
     ·cases e
      have hf0:=h2.1.1
      have p1:0≤QS t v den s j * WS t s f:=Int.mul_nonneg c3 (by omega)
      have p2:QS t v den s j * WS t s f≤4000000000000 * 24:=Int.mul_le_mul c4 h4.2 (by omega) (by omega)
      have p3:0≤QS t v den s f * WS t s j:=Int.mul_nonneg h3.1 (by omega)
      have p4:QS t v den s f * WS t s j≤4000000000000 * 24:=Int.mul_le_mul h3.2 hw.2 (by omega) (by omega)
      rw[m5 (by omega) (by omega),m5 (by omega) (by omega)]
      by_cases cl:QS t v den s j * WS t s f<QS t v den s f * WS t s j
      ·rw[if_pos (by simp[cl])]
       refine⟨_,rfl,.inr ⟨j,rfl,by omega,hA,⟨c3,c4⟩,hw,lift (fun op hop hO=> ?_) fun _=>Int.le_refl _,fun op hop hO=> ?_⟩⟩
       ·have:=ws_pos ht hO.1 (rsO_ok ht hO.1 hs)
        exact Int.le_of_lt (frac_lt (by omega) (by omega) (by omega) cl (h5 op hop hO))
       ·have:=ws_pos ht hO.1 (rsO_ok ht hO.1 hs)
        exact frac_lt (by omega) (by omega) (by omega) cl (h5 op hop hO)
      ·rw[if_neg (by simp[cl];omega)]
       refine⟨_,rfl,.inr ⟨f,rfl,by omega,h2,h3,h4,lift h5 fun _=>by omega,h6⟩⟩
    ·rw[c2]
     simp only[oB,Bool.false_and,Bool.false_eq_true,if_false]
     exact⟨_,rfl,stay fun h=>c1 h.2.2⟩
   ·rw[ifP cc]
    exact⟨_,rfl,stay fun h=>cc h.2.1⟩)
 rcases k2 with⟨_,h⟩|⟨f',e,h1,h2,h3,h4,h5,h6⟩
 ·obtain⟨op,ho⟩:=he
  exact absurd ho (h op ho.1.2)
 ·cases e
  exact⟨f,k1,⟨h2,fun op ho=>h5 op ho.1.2 ho,h6⟩,h3,h4⟩
theorem improve_eq(ht:g9 t)(hS:StS t S)(hv:VB S v den l7)(he:∀s ∈ S,∃op,Alw t S s op){l:Li}(hl:l.length=S.length):
  ∃l',B8 t S den l l7=some (l',dec (∃(i:Nat) (s:Li) (f:Int),S[i]? =some s∧l'[i]? =some f∧QS t v den s f<v s * WS t s f))∧l'.length=S.length∧∀(i:Nat) s,S[i]? =some s→∃f,l'[i]? =some f∧Bst t S v den s f:=by
 have hn5:=hS.n5
 unfold B8
 rw[ak4 (by omega),Option.bind_some]
 obtain⟨⟨l',b⟩,k1,k2,k3,k4⟩:=r8 (body:=D4 t S den l l7) (n:=(S.length:Int)) (s:=(l,false))
  (fun j q=>q.1.length=S.length∧(∀(i:Nat) s,(i:Int)<j→S[i]? =some s→∃f,q.1[i]? =some f∧Bst t S v den s f)∧(q.2=true↔∃(i:Nat) (s:Li) (f:Int),(i:Int)<j∧S[i]? =some s∧q.1[i]? =some f∧QS t v den s f<v s * WS t s f)) (by omega) ⟨hl,fun i s hi=>by omega,by simp;intro i hi;omega⟩ (fun j q j0 j1 ⟨p1,p2,p3⟩=>by
   obtain⟨c,b⟩:=q
   obtain⟨J,rfl⟩:=Int.eq_ofNat_of_zero_le j0
   have hJ:J<S.length:=by omega
   have hgJ:S[J]? =some S[J]:=List.getElem?_eq_getElem hJ
   dsimp only at p1 p2 p3
   obtain⟨f,f1,f2,f3,f4⟩:=imp2 ht hS hv (hS.set _ (List.getElem_mem hJ)) (he _ (List.getElem_mem hJ)) l
   have hvJ:=hv.get J _ hgJ
   have hvb:=hv.v0 _ (List.getElem_mem hJ)
   have hx:ix S (J:Int)=some S[J]:=by rw[n9];exact hgJ
   have hc:ix c (J:Int)=some c[J]:=by rw[n9];exact List.getElem?_eq_getElem (by omega)
   have g1:0≤v S[J] * WS t S[J] f:=Int.mul_nonneg hvb.1 (by omega)
   have g2:v S[J] * WS t S[J] f≤63700992000 * 24:=Int.mul_le_mul hvb.2 f4.2 (by omega) (by omega)
   have get:∀i:Nat,(c.set J f)[i]? =if i=J then some f else c[i]? :=fun i=>by
    rw[List.getElem?_set]
    by_cases e:J=i
    ·rw[if_pos e,if_pos e.symm,if_pos (by omega)]
    ·rw[if_neg e,if_neg (Ne.symm e)]
   have hb:∃b',(if b=true then some true else Option.bind (ix l7 (J:Int)) fun a80=>some (decide (QS t v den S[J] f<w64 (a80 * WS t S[J] f))))=some b'∧(b'=true↔b=true∨QS t v den S[J] f<v S[J] * WS t S[J] f):=by
    cases b with
    |true=>exact⟨true,rfl,by simp⟩
    |false=>
     rw[if_neg (by simp),hvJ,Option.bind_some,m5 (by omega) (by omega)]
     exact⟨_,rfl,by simp⟩
   obtain⟨b',hb1,hb2⟩:=hb
   unfold D4
   simp only[hx,oB,f1,hb1,hc,Int.toNat_natCast]
   refine⟨_,rfl,by dsimp only;rw[lS];exact p1,fun i s hi hs=> ?_,?_⟩
   ·dsimp only
    rw[get]
    by_cases e:i=J
    ·subst e
     rw[hgJ] at hs;cases hs
     exact⟨f,if_pos rfl,f2⟩
    ·rw[if_neg e];exact p2 i s (by omega) hs
   ·dsimp only
    rw[hb2,p3]
    constructor
    ·rintro (⟨i,s,f',q1,q2,q3,q4⟩|q)
     ·exact⟨i,s,f',by omega,q2,by rw[get,if_neg (by omega)];exact q3,q4⟩
     ·exact⟨J,S[J],f,by omega,hgJ,by rw[get,if_pos rfl],q⟩
    ·rintro ⟨i,s,f',q1,q2,q3,q4⟩
     rw[get] at q3
     by_cases e:i=J
     ·subst e
      rw[if_pos rfl] at q3
      rw[hgJ] at q2
      cases q2;cases q3
      exact .inr q4
     ·rw[if_neg e] at q3
      exact .inl ⟨i,s,f',by omega,q2,q3,q4⟩)
 rw[k1]
 dsimp only at k2 k3 k4
 refine⟨l',?_,k2,fun i s hs=>k3 i s (by have:=(lG.1 hs).1;omega) hs⟩
 simp only[oB]
 congr 2
 rw[bool_dec b]
 refine u6 ?_
 rw[k4]
 exact⟨fun⟨i,s,f,_,q2,q3,q4⟩=>⟨i,s,f,q2,q3,q4⟩,fun⟨i,s,f,q2,q3,q4⟩=>⟨i,s,f,by have:=(lG.1 q2).1;omega,q2,q3,q4⟩⟩
end
end Ab
end
section
namespace Ab
open Go
noncomputable def posS(S:LL)(s:Li):Nat:=@Classical.epsilon Nat ⟨0⟩ fun k=>S[k]? =some s
theorem posS_eq{S:LL}(ho:Ord S){k:Nat}{s:Li}(h:S[k]? =some s):posS S s=k:=by
 have e:S[posS S s]? =some s:=@Classical.epsilon_spec Nat (fun k=>S[k]? =some s) ⟨k,h⟩
 have a:ix S (posS S s:Int)=some s:=by rw[n9,e]
 have b:ix S (k:Int)=some s:=by rw[n9,h]
 have:=ho.inj a b
 omega
noncomputable def atS(S:LL)(num:Nat→Nat)(s:Li):Int:=num (posS S s)
theorem atS_eq{S:LL}(ho:Ord S){num:Nat→Nat}{k:Nat}{s:Li}(h:S[k]? =some s):atS S num s=num k:=by unfold atS;rw[posS_eq ho h]
theorem ae3{S:LL}{k:Nat}(h:k<S.length):S[k]? =some (sN S k):=by unfold sN;rw[List.getElem?_eq_getElem h];rfl
def oL(l:Li)(i:Nat):Int:=(l[i]?).getD 0
theorem oL_eq{l:Li}{i:Nat}{f:Int}(h:l[i]? =some f):oL l i=f:=by unfold oL;rw[h];rfl
noncomputable def stL(t:b7)(S:LL)(l:Li)(i:Nat):LL:=(rsO t (sN S i) (oL l i)).1
noncomputable def wL(t:b7)(S:LL)(l:Li)(i:Nat):Li:=(rsO t (sN S i) (oL l i)).2
structure OkL(t:b7)(S:LL)(l:Li):Prop where
 len:l.length=S.length
 al:∀(i:Nat) s,S[i]? =some s→∃f,l[i]? =some f∧Alw t S s f
def PrL(t:b7)(S:LL)(l:Li):Prop:=∀i,i<S.length→Px S.length (WF (stL t S l) (wL t S l)) (wG S (stL t S l) (wL t S l)) i
noncomputable abbrev mxL(t:b7)(S:LL)(l:Li):Mtx:=eqN t S (oL l) (stL t S l) (wL t S l)
noncomputable def vD(t:b7)(S:LL)(l:Li):Int:=((det S.length (mxL t S l)).natAbs:Int)
noncomputable def vN(t:b7)(S:LL)(l:Li)(i:Nat):Int:=((det S.length (rep (mxL t S l) i fun r=>mxL t S l r S.length)).natAbs:Int)
def ltL(t:b7)(S:LL)(x y:Li):Prop:=0<vD t S x∧0<vD t S y∧(∀i,i<S.length→vN t S x i * vD t S y≤vN t S y i * vD t S x)∧∃i,i<S.length∧vN t S x i * vD t S y<vN t S y i * vD t S x
section
variable {t:b7}{S:LL}
theorem ltL_trans(x y z:Li)(h:ltL t S x y)(g:ltL t S y z):ltL t S x z:=by
 obtain⟨h1,h2,h3,i,hi,h4⟩:=h
 obtain⟨_,g2,g3,_⟩:=g
 exact⟨h1,g2,fun k hk=>frac_le h2 h1 g2 (h3 k hk) (g3 k hk),i,hi,frac_lt h2 h1 g2 h4 (g3 i hi)⟩
theorem ltL_irrefl(x:Li):¬ ltL t S x x:=fun⟨_,_,_,_,_,h⟩=>Int.lt_irrefl _ h
theorem OkL.sys(ht:g9 t)(hS:StS t S){l:Li}(h:OkL t S l):Sys t S (oL l) (stL t S l) (wL t S l):=sys_op ht hS fun i s hs=>by
 obtain⟨f,h1,h2⟩:=h.al i s hs
 rw[oL_eq h1];exact h2
theorem OkL.has{l:Li}(h:OkL t S l):∀s ∈ S,∃op,Alw t S s op:=fun s hs=>by
 obtain⟨i,hi⟩:=List.getElem?_of_mem hs
 obtain⟨f,_,h2⟩:=h.al i s hi
 exact⟨f,h2⟩
theorem OkL.mem{l:Li}(h:OkL t S l):l ∈ lists t.operators.length S.length:=mem_lists h.len fun x hx=>by
 obtain⟨i,hi⟩:=List.getElem?_of_mem hx
 have hl:i<S.length:=by have:=(lG.1 hi).1;have:=h.len;omega
 obtain⟨f,h1,h2⟩:=h.al i _ (ae3 hl)
 rw[hi] at h1
 cases h1;exact h2.1
theorem Sol.vD{l:Li}{sg:Int}{num:Nat→Nat}{den:Nat}(h:Sol t S (oL l) (stL t S l) (wL t S l) sg num den):Ab.vD t S l=den∧∀i,i<S.length→Ab.vN t S l i=num i:=by
 have e1:=h.dd
 have e2:=h.nn
 unfold Ab.vD Ab.vN
 refine⟨?_,fun i hi=> ?_⟩
 ·rw[e1];rcases h.s1 with e|e<;>rw[e]<;>omega
 ·rw[e2 i hi];rcases h.s1 with e|e<;>rw[e]<;>omega
theorem signs{sg:Int}(hs:sg=1∨sg= -1){num:Nat→Nat}{den n:Nat}(hd:0<den)(hd1:den≤254803968)(hn:∀i,i<n→num i≤63700992000){N:Li}(hN:N.length=n)(hg:∀i:Nat,i<n→ix N (i:Int)=some (sg * (num i:Int))):
  ∃N',(if sg * (den:Int)<0 then(Option.bind (forR 0 (N.length:Int) R6 N) fun c21=>some (w64 (0 - sg * (den:Int)),c21)) else some (sg * (den:Int),N))=some ((den:Int),N')∧∀i:Nat,i<n→ix N' (i:Int)=some (num i:Int):=by
 rcases hs with rfl|rfl
 ·rw[if_neg (by omega)]
  exact⟨N,by rw[Int.one_mul],fun i hi=>by rw[hg i hi,Int.one_mul]⟩
 ·rw[if_pos (by omega),m5 (by omega) (by omega),show 0 - -1 * (den:Int)=den by omega]
  obtain⟨N',k1,k2,k3⟩:=r8 (body:=R6) (n:=(N.length:Int)) (s:=N)
   (fun j c=>c.length=n∧∀i:Nat,i<n→ix c (i:Int)=some (if(i:Int)<j then(num i:Int) else -1 * (num i:Int))) (by omega) ⟨hN,fun i hi=>by rw[if_neg (by omega)];exact hg i hi⟩ (fun j c j0 j1 ⟨p1,p2⟩=>by
    obtain⟨J,rfl⟩:=Int.eq_ofNat_of_zero_le j0
    have hJ:J<n:=by omega
    have e:=p2 J hJ
    rw[if_neg (by omega)] at e
    have b:=hn J hJ
    unfold R6
    simp only[e,oB]
    rw[m5 (by omega) (by omega)]
    refine⟨_,rfl,by rw[lS];exact p1,fun i hi=> ?_⟩
    rw[ix_put (by omega) (by omega) (by omega)]
    by_cases ei:(i:Int)=J
    ·rw[if_pos ei,if_pos (by omega)]
     have:i=J:=by omega
     subst this
     congr 1;omega
    ·rw[if_neg ei,p2 i hi]
     by_cases f:(i:Int)<J
     ·rw[if_pos f,if_pos (by omega)]
     ·rw[if_neg f,if_neg (by omega)])
  rw[k1]
  exact⟨N',rfl,fun i hi=>by rw[k3 i hi,if_pos (by omega)]⟩
theorem round_eq(ht:g9 t)(hcost:∀op:Int,0≤op∧op<t.operators.length→1≤(ooAt t op).cost)(hS:StS t S){l:Li}(hl:OkL t S l)(hp:PrL t S l)(c9:Int)(c11:Li):
  ∃den N l' b v,K9 t S (c9,l,c11,true)=some (.inl (den,l',N,b))∧VB S v den N∧OkL t S l'∧PrL t S l'∧
   (∀(i:Nat) s,S[i]? =some s→∃f,l'[i]? =some f∧Bst t S v den s f∧QS t v den s f≤v s * WS t s f∧(b=false→QS t v den s f=v s * WS t s f))∧(b=true→ltL t S l' l):=by
 have hn5:=hS.n5
 have h:=hl.sys ht hS
 have hfind:∀(i:Nat) s,S[i]? =some s→y4 S s=some (i:Int):=fun i s hs=>O4 hS.ord (by omega) (by rw[n9,hs])
 obtain⟨sg,num,den,L,N0,s1,s2,s3,s4,s5⟩:=solved ht h hp (choose:=fun s=>s6 s t S c9 l c11) (fun i s hs=>by
  obtain⟨f,f1,_⟩:=hl.al i s hs
  unfold s6
  rw[hfind i s hs,Option.bind_some,n9,f1,oL_eq f1];rfl)
 obtain⟨N,n1,n2⟩:=signs s1.s1 s1.d0 s1.d1 s1.n1 s4 s5
 have hd0:=s1.d0;have hd1:=s1.d1
 have hv:VB S (atS S num) den N:=⟨by omega,by omega,fun s hs=>by
  obtain⟨i,hi⟩:=List.getElem?_of_mem hs
  have:=s1.n1 i (lG.1 hi).1
  rw[atS_eq hS.ord hi];omega,fun i s hs=>by rw[atS_eq hS.ord hs];exact n2 i (lG.1 hs).1⟩
 obtain⟨l',i1,i2,i3⟩:=improve_eq ht hS hv hl.has hl.len
 generalize hbd:dec (∃(i:Nat) (s:Li) (f:Int),S[i]? =some s∧l'[i]? =some f∧QS t (atS S num) den s f<atS S num s * WS t s f)=b at i1
 have he:G7 t S t S c9 l c11=some L:=by
  have:G7 t S t S c9 l c11=(forR 0 (S.length:Int) (A7 t S fun s=>s6 s t S c9 l c11) []).bind fun a=>some a:=rfl
  rw[this,s2];rfl
 have hl':OkL t S l':=⟨i2,fun i s hs=>by
  obtain⟨f,f1,f2⟩:=i3 i s hs
  exact⟨f,f1,f2.1⟩⟩
 have h':=hl'.sys ht hS
 have hnv:∀k,k<S.length→((num k:Nat):Int)=atS S num (sN S k):=fun k hk=>(atS_eq hS.ord (ae3 hk)).symm
 have old:∀(i:Nat) s,S[i]? =some s→QS t (atS S num) den s (oL l i)=WS t s (oL l i) * atS S num s:=fun i s hs=>by
  have hi:=(lG.1 hs).1
  rw[← h.qs hs (num:=fun k=>(num k:Int)) hnv,s1.vf.eq i hi,h.ws hs,atS_eq hS.ord hs]
 have wpos:∀s ∈ S,∀op,Alw t S s op→1≤WS t s op:=fun s hs op ho=>(ws_pos ht ho.1 (rsO_ok ht ho.1 (hS.set s hs))).1
 have better:∀(i:Nat) s f,S[i]? =some s→Bst t S (atS S num) den s f→QS t (atS S num) den s f≤atS S num s * WS t s f:=fun i s f hs hb=>by
  obtain⟨g,g1,g2⟩:=hl.al i s hs
  have e:=old i s hs
  rw[oL_eq g1] at e
  have h1:=hb.2.1 g g2
  rw[e] at h1
  have w1:=wpos s (List.mem_of_getElem? hs) g g2
  have e2:QS t (atS S num) den s f * WS t s g≤(atS S num s * WS t s f) * WS t s g:=by
   rw[show atS S num s * WS t s f * WS t s g=WS t s g * atS S num s * WS t s f by grind];exact h1
  exact Int.le_of_mul_le_mul_right e2 (by omega)
 have hq:∀i,i<S.length→Qv S.length (WF (stL t S l') (wL t S l')) (wG S (stL t S l') (wL t S l')) (cF t (oL l')) (fun k=>(num k:Int)) den i≤WF (stL t S l') (wL t S l') i * (num i:Int):=fun i hi=>by
  obtain⟨f,f1,f2⟩:=i3 i _ (ae3 hi)
  have:=better i _ f (ae3 hi) f2
  rw[h'.qs (ae3 hi) hnv,h'.ws (ae3 hi),oL_eq f1,hnv i hi,Int.mul_comm]
  exact this
 have hp':PrL t S l':=proper_of (sys_ms ht h') (fun i hi=>hcost _ (h'.rng i hi)) (den:=(den:Int)) (by omega) hq
 refine⟨den,N,l',b,atS S num,?_,hv,hl',hp',fun i s hs=> ?_,fun hb=> ?_⟩
 ·unfold K9
  simp only[if_true,he,oB,s3,n1,i1]
 ·obtain⟨f,f1,f2⟩:=i3 i s hs
  have b1:=better i s f hs f2
  refine⟨f,f1,f2,b1,fun hb=> ?_⟩
  have:¬ QS t (atS S num) den s f<atS S num s * WS t s f:=fun hlt=>dec_false.1 (hbd.trans hb) ⟨i,s,f,hs,f1,hlt⟩
  omega
 ·obtain⟨i,s,f,q1,q2,q3⟩:=k7.1 (hbd.trans hb)
  have hi:=(lG.1 q1).1
  obtain⟨sg',num',den',_,_,u1,_⟩:=solved ht h' hp' (choose:=fun s=>some (oL l' (posS S s))) (fun i s hs=>by rw[posS_eq hS.ord hs])
  have key:=val_ge (sys_ms ht h') hp' u1.vf (den:=(den:Int)) (by omega) hq
  have d':=u1.d0
  obtain⟨a1,a2⟩:=s1.vD
  obtain⟨c1,c2⟩:=u1.vD
  refine⟨by rw[c1];omega,by rw[a1];omega,fun k hk=> ?_,i,hi,?_⟩
  ·rw[a1,c1,a2 k hk,c2 k hk,Int.mul_comm,Int.mul_comm (num k:Int)]
   exact(key k hk).1
  ·rw[a1,c1,a2 i hi,c2 i hi,Int.mul_comm,Int.mul_comm (num i:Int)]
   refine(key i hi).2 ?_
   rw[h'.qs q1 hnv,h'.ws q1,oL_eq q2]
   rw[atS_eq hS.ord q1] at q3
   rw[Int.mul_comm];exact q3
structure Fin(t:b7)(S:LL)(v:Li→Int)(den:Int)(l N:Li):Prop where
 vb:VB S v den N
 ok:OkL t S l
 pr:PrL t S l
 bst:∀(i:Nat) s,S[i]? =some s→∃f,l[i]? =some f∧Bst t S v den s f∧QS t v den s f=v s * WS t s f
theorem rounds_eq(ht:g9 t)(hcost:∀op:Int,0≤op∧op<t.operators.length→1≤(ooAt t op).cost)(hS:StS t S){l:Li}(hl:OkL t S l)(hp:PrL t S l)(c9:Int)(c11:Li):
  ∃den l' N v,Loop (K9 t S) (c9,l,c11,true)=some (den,l',N)∧Fin t S v den l' N:=by
 obtain⟨⟨den,l',N⟩,k1,v,k2⟩:=E7 (body:=K9 t S) (fun q=>OkL t S q.2.1∧PrL t S q.2.1∧(q.2.2.2=true∨∃v,Fin t S v q.1 q.2.1 q.2.2.1)) (fun o=>∃v,Fin t S v o.1 o.2.1 o.2.2)
  (fun q=>if q.2.2.2=true then rank (lists t.operators.length S.length) (ltL t S) q.2.1+1 else 0) (s:=(c9,l,c11,true)) ⟨hl,hp,.inl rfl⟩ (fun⟨c9,l,c11,a⟩ ⟨g1,g2,g3⟩=>by
   dsimp only at g1 g2 g3
   cases a with
   |true=>
    obtain⟨den,N,l',b,v,r1,r2,r3,r4,r5,r6⟩:=round_eq ht hcost hS g1 g2 c9 c11
    rw[r1]
    refine .inl ⟨_,rfl,⟨r3,r4,?_⟩,?_⟩
    ·cases b with
     |true=>exact .inl rfl
     |false=>exact .inr ⟨v,r2,r3,r4,fun i s hs=>by
       obtain⟨f,f1,f2,_,f3⟩:=r5 i s hs
       exact⟨f,f1,f2,f3 rfl⟩⟩
    ·dsimp only
     rw[if_pos rfl]
     cases b with
     |true=>
      rw[if_pos rfl]
      have:=rank_lt (L:=lists t.operators.length S.length) ltL_trans ltL_irrefl r3.mem (r6 rfl)
      omega
     |false=>rw[if_neg (by simp)];omega
   |false=>
    refine .inr ⟨(c9,l,c11),rfl,?_⟩
    rcases g3 with e|e
    ·cases e
    ·exact e)
 exact⟨den,l',N,v,k1,k2⟩
end
end Ab
end
section
namespace Ab
open Go
abbrev frT(t:b7)(s:Li):b7:=⟨t.facts,s,t.goal,t.operators⟩
section
variable {t:b7}{all:LL}
theorem frT_ok(ht:g9 t){s:Li}(hs:SetN s t.facts):g9 (frT t s):=⟨ht.n0,ht.n1,hs,ht.goal,ht.ops,ht.op⟩
structure CloS(t:b7)(all:LL):Prop where
 len:all.length≤2000
 init:t.init ∈ all
 sc:∀s ∈ all,∀op:Int,(0≤op∧op<t.operators.length)→oCan t s op→∀y ∈ sc t s op,y ∈ all
theorem ClO.fr(hc:ClO t all){s:Li}(hs:s ∈ all):CloS (frT t s) all:=⟨hc.len,hs,fun _ hx _ ho hcan _ hy=>hc.sc hx ho hcan hy⟩
theorem rin4(ht:g9 t)(hl:all.length≤2000){st:LL}{w:Li}(hst:∀y ∈ st,SetN y t.facts∧y ∈ all){l0:LL}{m0:List (ByteArray×Int)}(h0:Rc t l0 m0 (l0.map fun s=>(wsN s:Int)))(hn:l0.Nodup)(ha:∀y ∈ l0,y ∈ all):
  ∃p,rngX 0 (st.length:Int) (E4 (st,w)) (l0,m0)=some (.inl p)∧Rc t p.1 p.2 (p.1.map fun s=>(wsN s:Int))∧p.1.Nodup∧(∀y ∈ p.1,y ∈ all)∧Ext l0 p.1:=by
 have hf:=ht.n1
 rcases T6 (body:=E4 (st,w)) (n:=(st.length:Int)) (s:=(l0,m0)) (fun _ p=>Rc t p.1 p.2 (p.1.map fun s=>(wsN s:Int))∧p.1.Nodup∧(∀y ∈ p.1,y ∈ all)∧Ext l0 p.1) (fun _=>False) (by omega) ⟨h0,hn,ha,.refl _⟩ (fun j ⟨l,m⟩ j0 j1 ⟨g1,g2,g3,g4⟩=>by
  dsimp only at g1 g2 g3 g4
  obtain⟨y,hy,_⟩:=i5 (l:=st) j0 j1
  obtain⟨hs,hya⟩:=hst y (i6 hy)
  have hyl:=hs.len
  unfold E4
  dsimp only
  rw[hy]
  simp only[oB]
  rw[key1_eq (hs.small hf) (by omega)]
  simp only[oB]
  by_cases c:y ∈ l
  ·rw[if_pos ((g1.map y hs).2 c)]
   exact .inl ⟨_,rfl,g1,g2,g3,g4⟩
  ·rw[if_neg (fun h=>c ((g1.map y hs).1 h))]
   have n2:(l++[y]).Nodup:=List.nodup_append.2 ⟨g2,by simp,fun a ha b hb e=>c (by simp only[List.mem_singleton] at hb;rw[← hb,← e];exact ha)⟩
   have a2:∀z ∈ l++[y],z ∈ all:=fun z hz=>by
    rcases List.mem_append.1 hz with h|h
    ·exact g3 z h
    ·rw[List.mem_singleton.1 h];exact hya
   have hlen:=S9 n2 a2
   rw[List.length_append,List.length_singleton] at hlen
   rw[if_neg (by omega),app,if_pos (by simp;omega)]
   refine .inl ⟨_,rfl,?_,n2,a2,g4.snoc _⟩
   have:=g1.put hf hs (by omega)
   rw[List.map_append];exact this) with⟨p,h1,h2⟩|⟨_,_,h⟩
 ·exact⟨p,h1,h2⟩
 ·exact h.elim
theorem rin2(ht:g9 t)(hc:CloS t all){l0:LL}{m0:List (ByteArray×Int)}(h0:Rc t l0 m0 (l0.map fun s=>(wsN s:Int)))(hn:l0.Nodup)(ha:∀y ∈ l0,y ∈ all){at_:Int}{s:Li}(hs:ix l0 at_=some s):
  ∃p,rngX 0 (t.operators.length:Int) (E5 t at_) (l0,m0)=some (.inl p)∧Rc t p.1 p.2 (p.1.map fun s=>(wsN s:Int))∧p.1.Nodup∧(∀y ∈ p.1,y ∈ all)∧Ext l0 p.1:=by
 have hset:=h0.set s (i6 hs)
 rcases T6 (body:=E5 t at_) (n:=(t.operators.length:Int)) (s:=(l0,m0)) (fun _ p=>Rc t p.1 p.2 (p.1.map fun s=>(wsN s:Int))∧p.1.Nodup∧(∀y ∈ p.1,y ∈ all)∧Ext l0 p.1) (fun _=>False) (by omega) ⟨h0,hn,ha,.refl _⟩ (fun j ⟨l,m⟩ j0 j1 ⟨g1,g2,g3,g4⟩=>by
  dsimp only at g1 g2 g3 g4
  unfold E5
  dsimp only
  rw[g4 _ _ hs]
  simp only[oB]
  rw[ak0 ht j0 j1 hset]
  simp only[oB,w3]
  by_cases c:oCan t s j
  ·rw[ifNN c]
   obtain⟨st,w,r1,r2,r3,_⟩:=I0 ht j0 j1 hset
   rw[r1]
   simp only[oB]
   obtain⟨p,h1,h2,h3,h4,h5⟩:=rin4 ht hc.len (st:=st) (w:=w) (fun y hy=>by
    obtain⟨x,hx,e⟩:=(r3 y).1 hy
    exact⟨e ▸ ab4 _ _ _,hc.sc s (ha s (i6 hs)) j ⟨j0,j1⟩ c y (List.mem_map.2 ⟨x,hx,e⟩)⟩) g1 g2 g3
   rw[h1]
   exact .inl ⟨p,rfl,h2,h3,h4,fun k y hk=>h5 k y (g4 k y hk)⟩
  ·rw[ifP c]
   exact .inl ⟨_,rfl,g1,g2,g3,g4⟩) with⟨p,h1,h2⟩|⟨_,_,h⟩
 ·exact⟨p,h1,h2⟩
 ·exact h.elim
theorem reach_in(ht:g9 t)(hc:CloS t all):∃out,C8 t=some (out,true)∧∀y ∈ out,y ∈ all:=by
 have hn:=ht.n1
 have hi:=ht.init
 have hil:=hi.len
 unfold C8
 rw[ak4 (by omega)]
 simp only[oB]
 rw[key1_eq (hi.small hn) (by omega)]
 simp only[oB]
 have r0:Rc t [t.init] (mset ([]:List (ByteArray×Int)) (keyK [t.init]) 1) ([t.init].map fun s=>(wsN s:Int)):=by
  refine⟨by simpa using hi,by simp,fun s hs=> ?_,rfl⟩
  rw[an1]
  by_cases e:keyK [s]=keyK [t.init]
  ·rw[if_pos e,SetN.key_inj hn hs hi e];simp
  ·rw[if_neg e]
   simp only[mget,List.mem_singleton,Option.getD_none]
   exact⟨fun h=>by omega,fun h=>absurd (by rw[h]) e⟩
 obtain⟨o,q1,l,rfl,q3,q4⟩:=E7 (body:=N9 t) (fun p=>Rc t p.1 p.2.1 (p.1.map fun s=>(wsN s:Int))∧p.1.Nodup∧(∀y ∈ p.1,y ∈ all)∧0≤p.2.2∧p.2.2≤p.1.length) (fun o=>∃l,o=.inl l∧(∀y ∈ l,y ∈ all)∧l.length≤2000) (fun p=>(2000 - p.2.2).toNat) (s:=([t.init],mset ([]:List (ByteArray×Int)) (keyK [t.init]) 1,0)) ⟨r0,by simp,fun y hy=>by rw[List.mem_singleton.1 hy];exact hc.init,by simp,by simp⟩ (fun⟨l,m,a⟩ ⟨g1,g2,g3,g4,g5⟩=>by
  dsimp only at g1 g2 g3 g4 g5
  have hlen:=g1.len
  unfold N9
  dsimp only
  by_cases c:a<l.length
  ·rw[if_pos c]
   obtain⟨s,hs,_⟩:=i5 (l:=l) g4 c
   obtain⟨p,h1,h2,h3,h4,h5⟩:=rin2 ht hc g1 g2 g3 hs
   rw[h1]
   have:=h5.len
   simp only[oB]
   rw[m5 (by omega) (by omega)]
   exact .inl ⟨_,rfl,⟨h2,h3,h4,by dsimp only;omega,by dsimp only;omega⟩,by dsimp only;omega⟩
  ·rw[if_neg c]
   exact .inr ⟨_,rfl,l,rfl,g3,hlen⟩)
 rw[q1]
 simp only[oB]
 obtain⟨r,n1,n2,n3,n4⟩:=an8 (l:=l) (by omega)
 rw[n1]
 exact⟨r,rfl,fun y hy=>q3 y ((n3 y).1 hy)⟩
theorem dsc_sub{t u:b7}{all alls:LL}(e1:u.facts=t.facts)(e2:u.goal=t.goal)(e3:u.operators=t.operators){f:Li→Int}
  (hcl:∀x ∈ alls,∀op:Int,(0≤op∧op<t.operators.length)→oCan t x op→∀y ∈ sc t x op,y ∈ alls):∀(k:Nat) (x:Li),x ∈ alls→DsC t (Sd all f) k x→DsC u (Sd alls f) k x:=by
 obtain⟨uf,ui,ug,uo⟩:=u
 obtain⟨tf,ti,tg,to⟩:=t
 dsimp only at e1 e2 e3
 subst e1 e2 e3
 intro k
 induction k with
 |zero=>exact fun x _ h=>h
 |succ k ih=>
  intro x hx h
  rcases h with h|⟨h0,op,h1,h2,h3,y,hy,h4⟩
  ·exact .inl h
  ·exact .inr ⟨⟨hx,h0.2⟩,op,h1,h2,fun z hz=>⟨hcl x hx op h1 h2 z hz,(h3 z hz).2⟩,y,hy,ih y (hcl x hx op h1 h2 y hy) h4⟩
theorem dsc_fr{s:Li}{S:Li→Prop}:∀(k:Nat) (x:Li),DsC (frT t s) S k x→DsC t S k x:=fun k=>by
 induction k with
 |zero=>exact fun x h=>h
 |succ k ih=>
  intro x h
  rcases h with h|⟨h0,op,h1,h2,h3,y,hy,h4⟩
  ·exact .inl h
  ·exact .inr ⟨h0,op,h1,h2,h3,y,hy,ih y h4⟩
theorem cert_sub(hc:ClO t all){f:Li→Int}(hf:K2 t all f){s:Li}{alls:LL}(hcs:ClO (frT t s) alls)(hsub:∀x ∈ alls,x ∈ all):K2 (frT t s) alls f:=by
 have up:∀(k:Nat) x,x ∈ alls→DsC t (Sd all f) k x→DsC (frT t s) (Sd alls f) k x:=dsc_sub (t:=t) (u:=frT t s) (all:=all) rfl rfl rfl fun x hx op h0 h1 y hy=>hcs.sc hx h0 h1 hy
 have down:∀(k:Nat) x,DsC (frT t s) (Sd alls f) k x→DsC t (Sd all f) k x:=fun k x h=>(dsc_fr k x h).sub fun z hz=>⟨hsub z hz.1,hz.2⟩
 refine⟨fun x hx=> ?_,fun T hT x hx=> ?_⟩
 ·rcases hf.val x (hsub x hx) with⟨e,h⟩|⟨k,e,h⟩
  ·exact .inl ⟨e,fun k hk=>h k (down k x hk)⟩
  ·exact .inr ⟨k,e,up k x hx h.1,fun j hj hd=>h.2 j hj (down j x hd)⟩
 ·refine hf.gr T (fun z hz=> ?_) x hx
  obtain⟨h1,k,h2⟩:=hT z hz
  exact⟨hsub z h1,k,dsc_fr k z h2⟩
theorem begin_eq(ht:g9 t)(hc:ClO t all)(h5:(pnd t all).length≤200){f:Li→Int}(hf:K2 t all f){s:Li}(hs:s ∈ all)(h0:0≤f s)(hg:¬ g7 t s):
  ∃p b,C5 (frT t s)=some (p,true,⟨0,0⟩)∧C6 p s=some b∧CycP t f s b:=by
 have hu:=frT_ok ht (hc.set hs)
 obtain⟨out,q1,q2⟩:=reach_in hu (hc.fr hs)
 rcases cpolicy_spec hu with⟨e,_⟩|⟨alls,v,g,r1,_,r3,r4,r5,r6⟩
 ·rw[q1] at e;cases e
 ·rw[q1] at r1
  cases r1
  have hcf:=cert_sub hc hf r3 q2
  have efg:=r5.unique hcf
  have hin:s ∈ out:=r3.cl.init
  rcases r6 with⟨e,_⟩|⟨ch,k1,k2,k3,k4⟩
  ·have:=efg s hin
   have e:g s= -1:=e
   omega
  ·rcases k4 with⟨_,l,l1,l2,l3⟩|⟨p,p1,p2,p3⟩
   ·have:=S9 l1 fun x hx=>(ac3 (t:=t)).2 ⟨q2 x (k2 x (l2 x hx).1).1,(l2 x hx).2⟩
    omega
   ·have hri:RchC (frT t s) ch s:=.init
    have hng:¬ g7 (frT t s) s:=hg
    have hpol:=p2.pol hu k1 p3
    refine⟨p,ch s,p1,?_,?_⟩
    ·rw[(X5 hpol s).1,p2.live hri hng]
    ·obtain⟨⟨⟨c1,c2⟩,c3,y,hy,c4⟩,_⟩:=k3 s hri hng
     have hsc:∀y ∈ sc t s (ch s),y ∈ out:=fun y hy=>r3.sc hin c1 c2 hy
     refine⟨⟨c1,c2⟩,fun y hy=> ?_,y,hy,?_⟩
     ·rw[← efg y (hsc y hy)];exact c3 y hy
     ·rw[← efg y (hsc y hy),← efg s hin];exact c4
noncomputable def cerS(t:b7)(all:LL)(f:Li→Int):LL:=pnd t (all.filter fun a=> !dec (f a<0))
theorem Y4{f:Li→Int}{s:Li}:s ∈ cerS t all f↔(s ∈ all∧0≤f s)∧¬ g7 t s:=by
 unfold cerS
 rw[ac3,List.mem_filter]
 by_cases c:f s<0
 ·rw[j6 c];simp;omega
 ·rw[m8 c];simp;omega
theorem cer_sts(hc:ClO t all)(h5:(pnd t all).length≤5)(f:Li→Int):StS t (cerS t all f):=by
 refine⟨Ord.pnd (List.Pairwise.filter _ hc.ord),?_,fun s hs=>hc.set (Y4.1 hs).1.1,fun s hs=>(Y4.1 hs).2⟩
 have:(cerS t all f).length≤(pnd t all).length:=(List.Sublist.filter _ List.filter_sublist).length_le
 omega
theorem cyc_alw(hc:ClO t all){f:Li→Int}{s:Li}(hs:s ∈ all){b:Int}(h:CycP t f s b):Alw t (cerS t all f) s b:=
 ⟨h.1.1,h.1.2,fun y hy=>by
  by_cases g:g7 t y
  ·exact .inl g
  ·exact .inr (Y4.2 ⟨⟨hc.sc hs h.1.1 h.1.2 hy,h.2.1 y hy⟩,g⟩)⟩
theorem begin_all(ht:g9 t)(hc:ClO t all)(h5:(pnd t all).length≤5){f:Li→Int}(hf:K2 t all f):
  ∃l,forR 0 ((cerS t all f).length:Int) (S8 t (cerS t all f)) []=some l∧OkL t (cerS t all f) l∧PrL t (cerS t all f) l:=by
 have hS:=cer_sts hc h5 f
 have hn5:=hS.n5
 obtain⟨l,k1,k2,k3⟩:=r8 (body:=S8 t (cerS t all f)) (n:=((cerS t all f).length:Int)) (s:=([]:Li))
  (fun j c=>(c.length:Int)=j∧∀(i:Nat) s,(i:Int)<j→(cerS t all f)[i]? =some s→∃b,c[i]? =some b∧CycP t f s b) (by omega) ⟨rfl,fun i s hi=>by omega⟩ (fun j c j0 j1 ⟨p1,p2⟩=>by
   obtain⟨J,rfl⟩:=Int.eq_ofNat_of_zero_le j0
   have hJ:J<(cerS t all f).length:=by omega
   have hgJ:=ae3 hJ
   have hm:=Y4.1 (List.mem_of_getElem? hgJ)
   obtain⟨p,b,b1,b2,b3⟩:=begin_eq ht hc (by omega) hf hm.1.1 hm.1.2 hm.2
   have ha:app 8 c [b]=some (c++[b]):=by unfold app;rw[if_pos (by simp;omega)]
   unfold S8
   simp only[show ix (cerS t all f) (J:Int)=some (sN (cerS t all f) J) by rw[n9,hgJ],Option.bind_some,show C5 (⟨t.facts,sN (cerS t all f) J,t.goal,t.operators⟩:b7)=_ from b1,b2,ha]
   refine⟨_,rfl,by rw[List.length_append,List.length_singleton];omega,fun i s hi hs=> ?_⟩
   by_cases e:i=J
   ·subst e
    rw[hgJ] at hs;cases hs
    exact⟨b,by rw[List.getElem?_append_right (by omega),show i - c.length=0 by omega];rfl,b3⟩
   ·obtain⟨b',d1,d2⟩:=p2 i s (by omega) hs
    exact⟨b',by rw[List.getElem?_append_left (by omega),d1],d2⟩)
 have hk:∀(i:Nat) s,(cerS t all f)[i]? =some s→∃b,l[i]? =some b∧CycP t f s b:=fun i s hs=>k3 i s (by have:=(lG.1 hs).1;omega) hs
 have hok:OkL t (cerS t all f) l:=⟨by omega,fun i s hs=>by
  obtain⟨b,b1,b2⟩:=hk i s hs
  exact⟨b,b1,cyc_alw hc (Y4.1 (List.mem_of_getElem? hs)).1.1 b2⟩⟩
 refine⟨l,k1,hok,?_⟩
 have h:=hok.sys ht hS
 have key:∀(k:Nat) (i:Nat) s,(cerS t all f)[i]? =some s→f s≤k→Wy t (cerS t all f) (stL t (cerS t all f) l) i:=fun k=>by
  induction k with
  |zero=>
   intro i s hs h0
   obtain⟨b,b1,_,b2,y,hy,e⟩:=hk i s hs
   have:=b2 y hy
   omega
  |succ k ih=>
   intro i s hs h0
   obtain⟨b,b1,b2⟩:=hk i s hs
   have b4:=b2
   obtain⟨_,b3,y,hy,e⟩:=b4
   have hi:=(lG.1 hs).1
   have hys:y ∈ stL t (cerS t all f) l i:=((h.res i s hs).mem y).2 (by
    rw[oL_eq b1]
    obtain⟨x,hx,e⟩:=List.mem_map.1 hy
    exact⟨x,hx,e⟩)
   by_cases g:g7 t y
   ·exact .exit hi hys g
   ·have hm:=(Y4.1 (List.mem_of_getElem? hs)).1.1
    obtain⟨j,hj⟩:=List.getElem?_of_mem (((cyc_alw hc hm b2).2.2 y hy).resolve_left g)
    exact .step hi hj hys (ih j y hj (by omega))
 intro i hi
 have hs:=ae3 hi
 have hm:=Y4.1 (List.mem_of_getElem? hs)
 exact(key (f (sN (cerS t all f) i)).toNat i _ hs (by omega)).px h
end
end Ab
end
section
namespace Ab
open Go
section
variable {t:b7}{all:LL}
theorem cost0_eq{l:List f5}:l8 l N8=some (dec (∃o ∈ l,o.cost=0)):=by
 unfold l8 o9
 rcases x9 (body:=n8 l N8) (n:=(l.length:Int)) (fun j=>if dec (∃x,ix l j=some x∧x.cost=0)=true then some j else none) (by omega) (fun j h0 h1 _=>by
  obtain⟨x,hx,_⟩:=i5 (l:=l) h0 h1
  unfold n8 N8
  rw[hx]
  simp only[oB]
  by_cases e:x.cost=0
  ·rw[if_pos (by simp[e]),ifP ⟨x,rfl,e⟩]
  ·rw[if_neg (by simp[e]),ifN (by rintro ⟨y,hy,q⟩;cases hy;exact e q)]) with⟨h1,h2⟩|⟨j,o,h0,h1,h2,h3,h4⟩
 ·rw[h1]
  simp only[oB]
  rw[m8]
  ·rfl
  ·rintro ⟨o,ho,hz⟩
   obtain⟨i,i0,i1,hi⟩:=m6 ho
   have:=h2 i i0 i1
   rw[ifP ⟨o,hi,hz⟩] at this
   cases this
 ·rw[h4]
  split at h2
  ·rename_i e
   cases h2
   simp only[oB]
   obtain⟨x,hx,hz⟩:=k7.1 e
   rw[j6 ⟨x,i6 hx,hz⟩,decide_eq_true h0]
  ·cases h2
theorem certain_eq(hc:ClO t all){v:Li}{f:Li→Int}(hv:Rep all v f):z2 all all v=some (all.filter fun a=> !dec (f a<0)):=by
 have hlen:=hc.len
 have:z2 all all v=delA (fun y=>O5 y v all) all:=rfl
 rw[this]
 exact del_eq (g:=fun a=>f a<0) (by omega) fun a ha=>by
  obtain⟨i,hi,hvi⟩:=hv.of ha
  unfold O5
  rw[O4 hc.ord (by omega) hi,Option.bind_some,hvi,Option.bind_some,E3]
noncomputable def chL(S:LL)(l:Li)(s:Li):Int:=oL l (posS S s)
theorem chL_alw{S:LL}(ho:Ord S){l:Li}(h:OkL t S l){s:Li}(hs:s ∈ S):∃i:Nat,S[i]? =some s∧l[i]? =some (chL S l s)∧Alw t S s (chL S l s):=by
 obtain⟨i,hi⟩:=List.getElem?_of_mem hs
 obtain⟨f,h1,h2⟩:=h.al i s hi
 have:chL S l s=f:=by unfold chL;rw[posS_eq ho hi,oL_eq h1]
 rw[this]
 exact⟨i,hi,h1,h2⟩
theorem chL_in{S:LL}(hS:StS t S){l:Li}(h:OkL t S l)(hi:g7 t t.init∨t.init ∈ S){s:Li}(hs:RchC t (chL S l) s):g7 t s∨s ∈ S:=by
 induction hs with
 |init=>exact hi
 |@step s y _ hg hy ih=>
  obtain⟨_,_,_,h3⟩:=chL_alw hS.ord h (ih.resolve_left hg)
  exact h3.2.2 y hy
theorem chL_ok{S:LL}(hS:StS t S){l:Li}(h:OkL t S l)(hi:g7 t t.init∨t.init ∈ S):ChOk t (chL S l):=fun s hs hg=>by
 obtain⟨_,_,_,h3⟩:=chL_alw hS.ord h ((chL_in hS h hi hs).resolve_left hg)
 exact⟨h3.1,h3.2.1⟩
theorem buildL(ht:g9 t){S:LL}(hS:StS t S){l:Li}(h:OkL t S l)(hi:g7 t t.init∨t.init ∈ S)(den:Int)(N:Li):∃p,S5 t t S den l N=some (p,true)∧PolB t (chL S l) p∧p.length≤200:=by
 have hn5:=hS.n5
 have e:S5 t t S den l N=R7 t (fun s=>s6 s t S den l N):=rfl
 obtain⟨r,p1,p2⟩:=build_prog ht (chL_ok hS h hi) (choose:=fun s=>s6 s t S den l N) (fun s hs hg=>by
  obtain⟨i,h1,h2,h3⟩:=chL_alw hS.ord h ((chL_in hS h hi hs).resolve_left hg)
  unfold s6
  rw[O4 hS.ord (by omega) (show ix S (i:Int)=some s by rw[n9,h1]),Option.bind_some,n9,h2];rfl)
 rw[e,p1]
 rcases p2 with⟨_,q,q1,q2,q3⟩|⟨p,rfl,p2⟩
 ·have:=S9 q1 fun x hx=>(chL_in hS h hi (q2 x hx).1).resolve_left (q2 x hx).2
  omega
 ·exact⟨p,rfl,p2⟩
theorem best_spec(ht:g9 t):(C8 t=some ([],false)∧L4 t 2000=some ([],false)∧u7 t=some ([],⟨0,0⟩,false,⟨10, -7⟩))∨∃all v f,C8 t=some (all,true)∧L4 t 2000=some (all,true)∧ClO t all∧Rep all v f∧K2 t all f∧
  (((∃o ∈ t.operators,o.cost=0)∧u7 t=some ([],⟨0,0⟩,false,⟨3, -5⟩))∨((¬ ∃o ∈ t.operators,o.cost=0)∧
   ((5<(pnd t all).length∧u7 t=some ([],⟨0,0⟩,false,⟨10, -7⟩))∨((pnd t all).length≤5∧
    ((f t.init<0∧u7 t=some ([],⟨0,0⟩,false,⟨0,0⟩))∨(0≤f t.init∧
     ((g7 t t.init∧u7 t=some ([],⟨0,1⟩,true,⟨0,0⟩))∨(¬ g7 t t.init∧
      ∃(den:Int) (l N:Li) (v:Li→Int),Fin t (cerS t all f) v den l N∧
       ((¬ ((frN (v t.init).toNat den.toNat).num≤1000000000∧(frN (v t.init).toNat den.toNat).den≤1000000000)∧u7 t=some ([],⟨0,0⟩,false,⟨10, -2⟩))∨
        (((frN (v t.init).toNat den.toNat).num≤1000000000∧(frN (v t.init).toNat den.toNat).den≤1000000000)∧∃p,PolB t (chL (cerS t all f) l) p∧p.length≤200∧u7 t=some (p,frN (v t.init).toNat den.toNat,true,⟨0,0⟩))))))))))):=by
 have hn:=ht.n1
 unfold u7
 rw[explore_ok ht]
 rcases reach_full ht with⟨all,q1,q2,q3,q4,_⟩|⟨q1,q2⟩
 ·right
  have hc:ClO t all:=⟨q3,q4⟩
  have hlen:=hc.len
  obtain⟨v,f,r1,r2,r3⟩:=at3 ht hc
  obtain⟨i,hi,hvi⟩:=r2.of q3.init
  refine⟨all,v,f,q1,q2,hc,r2,r3,?_⟩
  rw[q1]
  simp only[oB,if_true]
  rw[if_neg (by simp),cost0_eq,Option.bind_some]
  by_cases cz:∃o ∈ t.operators,o.cost=0
  ·rw[ifP cz]
   exact .inl ⟨cz,rfl⟩
  ·rw[ifN cz]
   refine .inr ⟨cz,?_⟩
   have hcost:∀op:Int,0≤op∧op<t.operators.length→1≤(ooAt t op).cost:=fun op h=>by
    have h1:=(ht.at h.1 h.2).c0
    have h2:(ooAt t op).cost ≠ 0:=fun e=>cz ⟨_,i6 (ix_oo h.1 h.2),e⟩
    omega
   have hset:∀s ∈ all,SetN s t.facts:=fun s hs=>hc.set hs
   have hfl:(all.filter fun a=> !dec (f a<0)).length≤all.length:=List.length_filter_le _ _
   rw[r1,Option.bind_some,cloneLL_eq (by omega),Option.bind_some,certain_eq hc r2,Option.bind_some,aq7 ht (by omega) (fun s hs=>hset s (List.mem_filter.1 hs).1),Option.bind_some,Option.bind_some,aq7 ht (by omega) hset,Option.bind_some]
   by_cases c5:5<((pnd t all).length:Int)
   ·rw[if_pos c5]
    exact .inl ⟨by omega,rfl⟩
   ·rw[if_neg c5]
    have h5:(pnd t all).length≤5:=by omega
    refine .inr ⟨h5,?_⟩
    rw[O4 q4 (by omega) hi,Option.bind_some,hvi,Option.bind_some]
    by_cases cf:f t.init<0
    ·rw[if_pos cf]
     exact .inl ⟨cf,rfl⟩
    ·rw[if_neg cf]
     refine .inr ⟨by omega,?_⟩
     rw[show k9 t.init t.goal=some (dec (g7 t t.init)) from F7 ht.init.1 ht.goal.1 (by have:=ht.init.len;omega),Option.bind_some]
     by_cases cg:g7 t t.init
     ·rw[ifP cg]
      exact .inl ⟨cg,rfl⟩
     ·rw[ifN cg]
      refine .inr ⟨cg,?_⟩
      have hS:=cer_sts hc h5 f
      have hn5:=hS.n5
      obtain⟨l0,a1,a2,a3⟩:=begin_all ht hc h5 r3
      obtain⟨den,l,N,v,b1,b2⟩:=rounds_eq ht hcost hS a2 a3 0 []
      have hin:t.init ∈ cerS t all f:=Y4.2 ⟨⟨q3.init,by omega⟩,cg⟩
      obtain⟨i0,hi0⟩:=List.getElem?_of_mem hin
      have hvb:=b2.vb.v0 _ hin
      have d0:=b2.vb.d0;have d1:=b2.vb.d1
      have hrep:=report_eq (sg:=1) (.inl rfl) (a:=(v t.init).toNat) (b:=den.toNat) (by omega) (by omega) (by omega)
      rw[Int.one_mul,Int.one_mul,show(((v t.init).toNat:Nat):Int)=v t.init by omega,show((den.toNat:Nat):Int)=den by omega] at hrep
      refine⟨den,l,N,v,b2,?_⟩
      rw[show pnd t (all.filter fun a=> !dec (f a<0))=cerS t all f from rfl,a1,Option.bind_some,b1]
      simp only[oB]
      rw[O4 hS.ord (by omega) (show ix (cerS t all f) (i0:Int)=some t.init by rw[n9,hi0]),Option.bind_some,b2.vb.get i0 _ hi0,Option.bind_some,hrep,Option.bind_some]
      by_cases ck:(frN (v t.init).toNat den.toNat).num≤1000000000∧(frN (v t.init).toNat den.toNat).den≤1000000000
      ·rw[if_pos ck]
       refine .inr ⟨ck,?_⟩
       obtain⟨p,e1,e2,e3⟩:=buildL ht hS b2.ok (.inr hin) den N
       refine⟨p,e2,e3,?_⟩
       rw[if_neg (by simp),e1]
       rfl
      ·rw[if_neg ck]
       exact .inl ⟨ck,rfl⟩
 ·left
  rw[q1]
  exact⟨rfl,q2,rfl⟩
theorem best_bad{f:j8}(hv:G3 t=some f)(hc:f.code ≠ 0):u7 t=some ([],⟨0,0⟩,false,f):=by
 unfold u7
 rw[explore_bad hv hc]
 simp only[oB]
 rw[if_pos (fault_no hc)]
theorem Fin.eq{S:LL}(hS:StS t S){v:Li→Int}{den:Int}{l N:Li}(h:Fin t S v den l N){s:Li}(hs:s ∈ S):QS t v den s (chL S l s)=v s * WS t s (chL S l s):=by
 obtain⟨i,hi,h2,_⟩:=chL_alw hS.ord h.ok hs
 obtain⟨f,f1,_,f3⟩:=h.bst i s hi
 rw[h2] at f1
 cases f1;exact f3
end
end Ab
end
section
namespace Ab
open Go
theorem awaited_eq:G0=some true:=by kernel_rfl
end Ab
end
section
namespace Ab
open Go
end Ab
end
section
namespace Ab
open Go
section
variable {t:b7}{p:List d9}{all:LL}
end
end Ab
end
section
namespace Ab
open Go
section
variable {t:b7}{all:LL}
theorem fin_rk(ht:g9 t){S:LL}(hS:StS t S){v:Li→Int}{den:Int}{l N:Li}(h:Fin t S v den l N)(hi:g7 t t.init∨t.init ∈ S){p:List d9}(hb:PolB t (chL S l) p):∀s,Rch t p s→∃k,RkP t p k s:=by
 have hsys:=h.ok.sys ht hS
 have key:∀i,Wy t S (stL t S l) i→∀s,S[i]? =some s→RchC t (chL S l) s→∃k,RkP t p k s:=fun i hw=>by
  have step:∀(i:Nat) (y:Li),i<S.length→y ∈ stL t S l i→∀s,S[i]? =some s→RchC t (chL S l) s→G6 p s∧y ∈ nxS t p s∧RchC t (chL S l) y:=fun i y hil hy s hs hr=>by
   have hg:=hS.ng s (List.mem_of_getElem? hs)
   obtain⟨j,hj,h2,h3⟩:=chL_alw hS.ord h.ok (List.mem_of_getElem? hs)
   have el:=hb.live hr hg
   have eo:oL l i=chL S l s:=by unfold chL;rw[posS_eq hS.ord hs]
   obtain⟨x,hx,e⟩:=((hsys.res i s hs).mem y).1 hy
   rw[eo] at hx
   have hyn:y ∈ nxS t p s:=by unfold nxS;rw[el];exact List.mem_map.2 ⟨x,hx,e⟩
   refine⟨by unfold G6;rw[el];exact h3.1.1,hyn,.step hr hg ?_⟩
   unfold nxS at hyn;rw[el] at hyn;exact hyn
  induction hw with
  |exit hil hy hg=>
   intro s hs hr
   obtain⟨a,b,_⟩:=step _ _ hil hy s hs hr
   exact⟨1,.inr ⟨a,_,b,hg⟩⟩
  |step hil hk hy _ ih=>
   intro s hs hr
   obtain⟨a,b,c⟩:=step _ _ hil hy s hs hr
   obtain⟨k,hk'⟩:=ih _ hk c
   exact⟨k+1,.inr ⟨a,_,b,hk'⟩⟩
 intro s hs
 have hr:=rch_of hb.op hs
 rcases chL_in hS h.ok hi hr with g|g
 ·exact⟨0,g⟩
 ·obtain⟨i,hi'⟩:=List.getElem?_of_mem g
  exact key i (hsys.wy (h.pr i (lG.1 hi').1)) s hi' hr
theorem ai1(t:b7):E6 t=some true:=by
 unfold E6
 have bad:∀z:List d9×u5×Bool×j8,(z.2.2.2.code ≠ 0∨z.2.2.1=false)→u7 t=some z→(Option.bind (u7 t) fun a11=>if((!(decide (a11.2.2.2.code=0)))||(!a11.2.2.1))=true then Option.bind (G0) fun a23=>some a23 else Option.bind (y6 t a11.1) fun a27=>Option.bind (if a27.2.code=0 then if((decide (a11.2.1.num=a27.1.num)) && (decide (a11.2.1.den=a27.1.den)))=true then Option.bind (G0) fun a39=>some a39 else some false else some false) fun t3=>some t3)=some true:=fun z hn hz=>by
  rw[hz]
  simp only[oB]
  rw[if_pos (by rcases hn with h|h<;>simp[h]),awaited_eq];rfl
 have good:∀(q:List d9) (x:u5),u7 t=some (q,x,true,⟨0,0⟩)→y6 t q=some (x,⟨0,0⟩)→(Option.bind (u7 t) fun a11=>if((!(decide (a11.2.2.2.code=0)))||(!a11.2.2.1))=true then Option.bind (G0) fun a23=>some a23 else Option.bind (y6 t a11.1) fun a27=>Option.bind (if a27.2.code=0 then if((decide (a11.2.1.num=a27.1.num)) && (decide (a11.2.1.den=a27.1.den)))=true then Option.bind (G0) fun a39=>some a39 else some false else some false) fun t3=>some t3)=some true:=fun q x hb hv=>by
  rw[hb]
  simp[hv,awaited_eq]
 obtain⟨f,g1,_,g3⟩:=ak7 t
 rcases g3 with⟨rfl,ht⟩|⟨hc,_⟩
 ·rcases best_spec ht with⟨_,_,h⟩|⟨all,rv,f,_,_,hcl,_,hf,h⟩
  ·exact bad _ (.inl (by decide)) h
  ·rcases h with⟨_,h⟩|⟨_,⟨_,h⟩|⟨hl5,⟨_,h⟩|⟨h0,⟨hg,h⟩|⟨hg,den,lb,N,v,hF,h⟩⟩⟩⟩
   ·exact bad _ (.inl (by decide)) h
   ·exact bad _ (.inl (by decide)) h
   ·exact bad _ (.inr rfl) h
   ·refine good _ _ h ?_
    have hp:J4 t []:=⟨by simp,.nil,by simp,by simp,by simp⟩
    have hr:∀s,Rch t [] s→s=t.init:=fun s hs=>by
     induction hs with
     |init=>rfl
     |@step s y _ hn _ _ ih=>rw[ih] at hn;exact absurd hg hn
    obtain⟨e,_,e3⟩:=value_spec t []
    rcases e3 with⟨_,hno,_⟩|⟨_,_,_,h3⟩
    ·exact absurd ⟨ht,hp⟩ hno
    ·rcases h3 with⟨hk,_⟩|⟨hk,l,q1,h4⟩
     ·exact absurd (fun s hs=>⟨0,by rw[hr s hs];exact hg⟩) hk
     ·have hem:pnd t l=[]:=List.eq_nil_iff_forall_not_mem.2 fun s hs=>by
       have:=ac3.1 hs
       rw[hr s ((q1.mem s).1 this.1)] at this
       exact this.2 hg
      rcases h4 with⟨h5,_⟩|⟨h5,⟨_,hv⟩|⟨hn,_⟩⟩
      ·rw[hem] at h5;simp at h5
      ·exact hv
      ·exact absurd hg hn
   ·rcases h with⟨_,h⟩|⟨hfit,p,hb,hbl,h⟩
    ·exact bad _ (.inl (by decide)) h
    ·refine good _ _ h ?_
     have hS:=cer_sts hcl hl5 f
     have hin:t.init ∈ cerS t all f:=Y4.2 ⟨⟨hcl.cl.init,h0⟩,hg⟩
     have hch:=chL_ok hS hF.ok (.inr hin)
     have hp:=hb.pol ht hch hbl
     obtain⟨e,_,e3⟩:=value_spec t p
     rcases e3 with⟨_,hno,_⟩|⟨_,_,_,h3⟩
     ·exact absurd ⟨ht,hp⟩ hno
     ·rcases h3 with⟨hk,_⟩|⟨hk,l,q1,h4⟩
      ·exact absurd (fin_rk ht hS hF (.inr hin) hb) hk
      ·have sub:∀s ∈ pnd t l,s ∈ cerS t all f∧chO p s=chL (cerS t all f) lb s:=fun s hs=>by
        have hm:=ac3.1 hs
        have hr:=rch_of hb.op ((q1.mem s).1 hm.1)
        exact⟨(chL_in hS hF.ok (.inr hin) hr).resolve_left hm.2,hb.live hr hm.2⟩
       rcases h4 with⟨h5,_⟩|⟨h5,⟨hn,_⟩|⟨_,st,w,sg,num,den',s1,s2,s3,i0,s4,hv⟩⟩
       ·have:=S9 q1.ord.pnd.nodup fun s hs=>(sub s hs).1
        have:=hS.n5
        omega
       ·exact absurd hn hg
       ·have hd0:=hF.vb.d0
        have hd':=s3.d0
        have hi0:=(lG.1 s4).1
        have hq:∀i,i<(pnd t l).length→Qv (pnd t l).length (WF st w) (wG (pnd t l) st w) (cF t fun i=>chO p (((pnd t l)[i]?).getD [])) (fun k=>v (sN (pnd t l) k)) den i=WF st w i * v (sN (pnd t l) i):=fun i hi=>by
         have hs:=ae3 hi
         have ha:=sub _ (List.mem_of_getElem? hs)
         rw[s1.qs hs (v:=v) fun k _=>rfl,s1.ws hs,hs,Int.mul_comm]
         show QS t v den (sN (pnd t l) i) (chO p (sN (pnd t l) i))=v (sN (pnd t l) i) * WS t (sN (pnd t l) i) (chO p (sN (pnd t l) i))
         rw[ha.2]
         exact hF.eq hS ha.1
        have px:=fun i hi=>(s2 i hi).px s1
        have k1:=val_le (sys_ms ht s1) px s3.vf hd0 (num:=fun k=>v (sN (pnd t l) k)) (fun i hi=>Int.le_of_eq (hq i hi).symm) i0 hi0
        have k2:=(val_ge (sys_ms ht s1) px s3.vf hd0 (num:=fun k=>v (sN (pnd t l) k)) (fun i hi=>Int.le_of_eq (hq i hi)) i0 hi0).1
        rw[sN_eq s4] at k1 k2
        have hv0:=(hF.vb.v0 _ hin).1
        have he:frN (num i0) den'=frN (v t.init).toNat den.toNat:=frN_eq hd' (by omega) (by
         have e1:((v t.init).toNat:Int)=v t.init:=by omega
         have e2:(den.toNat:Int)=den:=by omega
         have:((num i0 * den.toNat:Nat):Int)=(((v t.init).toNat * den':Nat):Int):=by
          rw[Int.natCast_mul,Int.natCast_mul,e1,e2,Int.mul_comm,Int.mul_comm (v t.init)]
          exact Int.le_antisymm k2 k1
         omega)
        rw[he,if_pos hfit] at hv
        exact hv
 ·exact bad _ (.inl hc) (best_bad g1 hc)
end
end Ab
end
