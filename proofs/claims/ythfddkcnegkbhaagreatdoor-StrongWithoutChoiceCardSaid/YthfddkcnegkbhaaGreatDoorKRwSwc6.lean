/-
  Texts that the proof stands on.
-/
import Derived.Test.YthfddkcnegkbhaaGreatDoorKRwSwc5
set_option linter.all false
section
namespace Ab
open Go
theorem forN_congr{S:Type}{b1 b2:Int→S→Option S}:∀(k:Nat) (i:Int) (s:S),(∀j s,i≤j→j<i+k→b1 j s=b2 j s)→forN b1 k i s=forN b2 k i s
 |0,_,_,_=>rfl
 |k+1,i,s,h=>by
  simp only[forN]
  rw[h i s (by omega) (by omega)]
  cases b2 i s with
  |none=>rfl
  |some s'=>exact forN_congr k (i+1) s' fun j s g1 g2=>h j s (by omega) (by omega)
theorem forR_congr{S:Type}{b1 b2:Int→S→Option S}{lo n:Int}{s:S}(h:∀j s,lo≤j→j<n→b1 j s=b2 j s):forR lo n b1 s=forR lo n b2 s:=
 forN_congr _ _ _ fun j s g1 g2=>h j s g1 (by omega)
/-! ### Binary search by a key -/
def bsl{A B:Type}(xv:List A)(target:B)(cmp:A→B→Option Int):(Int×Int)→Option ((Int×Int)⊕Int):=fun(iv4,j5)=>if iv4<j5 then Option.bind (ix xv (w64 (shrW .u64 ((IntKind.u64).wrap (w64 (iv4+j5))) 1))) fun a27=>Option.bind (cmp a27 target) fun a30=>if a30<0 then some (.inl (w64 ((w64 (shrW .u64 ((IntKind.u64).wrap (w64 (iv4+j5))) 1))+1),j5)) else some (.inl (iv4,w64 (shrW .u64 ((IntKind.u64).wrap (w64 (iv4+j5))) 1))) else some (.inr iv4)
noncomputable def bsf{A B:Type}(xv:List A)(target:B)(cmp:A→B→Option Int):Option (Int×Bool):=Option.bind (Loop (bsl xv target cmp) (0,(xv.length:Int))) fun iv6=>Option.bind (if iv6<(xv.length:Int) then Option.bind (ix xv iv6) fun a43=>Option.bind (cmp a43 target) fun a46=>some (decide (a46=0)) else some false) fun t9=>some (iv6,t9)
theorem am6{A:Type}{key:A→Li}{xs:List A}(h:Ord (xs.map key)){i j:Int}{a b:A}(hi:ix xs i=some a)(hj:ix xs j=some b)(hij:i<j):llt (key a) (key b):=by
 obtain⟨i0,i1,hi⟩:=k8 hi
 obtain⟨j0,j1,hj⟩:=k8 hj
 refine h.get (i:=i) (j:=j) ?_ ?_ hij
 ·rw[ix,if_pos i0,lM,hi];rfl
 ·rw[ix,if_pos j0,lM,hj];rfl
theorem bsf_full{A:Type}{key:A→Li}{xs:List A}{t:Li}{cmp:A→Li→Option Int}(hs:Ord (xs.map key))(hl:xs.length≤500000)(hc:∀a,cmp a t=some (cmpL (key a) t)):
  ∃i,bsf xs t cmp=some (i,dec (∃a ∈ xs,key a=t))∧0≤i∧(∀k a,ix xs k=some a→key a=t→k=i)∧i≤xs.length∧(∀k a,0≤k→k<i→ix xs k=some a→llt (key a) t)∧(∀k a,i≤k→ix xs k=some a→¬ llt (key a) t):=by
 unfold bsf
 obtain⟨i,h1,h2,h3,h4,h5⟩:=J4 (body:=bsl xs t cmp) (fun p=>(0≤p.1∧p.1≤p.2∧p.2≤xs.length)∧(∀k a,0≤k→k<p.1→ix xs k=some a→llt (key a) t)∧(∀k a,p.2≤k→ix xs k=some a→¬ llt (key a) t))
  (fun i=>0≤i∧i≤xs.length∧(∀k a,0≤k→k<i→ix xs k=some a→llt (key a) t)∧(∀k a,i≤k→ix xs k=some a→¬ llt (key a) t)) (fun p=>(p.2 - p.1).toNat) (s:=(0,(xs.length:Int)))
  ⟨⟨by simp,by simp,by simp⟩,fun k a h1 h2=>by simp at h2;omega,fun k a h1 h2=>by have:=(k8 h2).2.1;simp at h1;omega⟩ (fun⟨i,j⟩ ⟨⟨g1,g2,g3⟩,g4,g5⟩=>by
  dsimp only at g1 g2 g3 g4 g5 ⊢
  unfold bsl
  dsimp only
  by_cases c:i<j
  ·rw[if_pos c,half_eq g1 g2 (by omega)]
   obtain⟨a,ha,ga⟩:=g9 (l:=xs) (i:=(i+j) / 2) (by omega) (by omega)
   rw[ha]
   simp only[oB,hc,U9]
   by_cases c2:llt (key a) t
   ·rw[if_pos (U9.2 c2),y6 (by omega) (by omega)]
    refine .inl ⟨_,rfl,⟨⟨by dsimp only;omega,by dsimp only;omega,g3⟩,fun k b k0 k1 hb=> ?_,g5⟩,by dsimp only;omega⟩
    dsimp only at k1
    by_cases e:k=(i+j) / 2
    ·subst e;rw[ha] at hb;cases hb;exact c2
    ·exact I4 (am6 hs hb ha (by omega)) c2
   ·rw[if_neg (fun h=>c2 (U9.1 h))]
    refine .inl ⟨_,rfl,⟨⟨g1,by dsimp only;omega,by dsimp only;omega⟩,g4,fun k b k0 hb=> ?_⟩,by dsimp only;omega⟩
    dsimp only at k0
    by_cases e:k=(i+j) / 2
    ·subst e;rw[ha] at hb;cases hb;exact c2
    ·exact fun h=>c2 (I4 (am6 hs ha hb (by omega)) h)
  ·rw[if_neg c]
   have:i=j:=by omega
   subst this
   exact .inr ⟨i,rfl,g1,g3,g4,g5⟩)
 rw[h1]
 simp only[oB]
 have uniq:∀k a,ix xs k=some a→key a=t→k=i:=fun k a hk he=>by
  rcases Int.lt_trichotomy k i with c|c|c
  ·have:=h4 k a (k8 hk).1 c hk;rw[he] at this;exact absurd this (K2 t)
  ·exact c
  ·obtain⟨b,hb,gb⟩:=g9 (l:=xs) (i:=i) h2 (by have:=(k8 hk).2.1;omega)
   have:=am6 hs hb hk c
   rw[he] at this
   exact absurd this (h5 i b (Int.le_refl _) hb)
 refine⟨i,?_,h2,uniq,h3,h4,h5⟩
 by_cases c:i<xs.length
 ·obtain⟨a,ha,ga⟩:=g9 (l:=xs) (i:=i) (by omega) c
  rw[if_pos c,ha]
  simp only[oB,hc]
  by_cases c2:key a=t
  ·rw[decide_eq_true (cmpL_eq.2 c2),l9 ⟨a,k7 ha,c2⟩]
  ·rw[decide_eq_false (fun h=>c2 (cmpL_eq.1 h)),x7]
   rintro ⟨b,hb,e⟩
   obtain⟨k,k0,k1,hk⟩:=o7 hb
   have:=uniq k b hk e
   subst this
   rw[hk] at ha;cases ha;exact c2 e
 ·rw[if_neg c]
  simp only[oB]
  rw[x7]
  rintro ⟨b,hb,e⟩
  obtain⟨k,k0,k1,hk⟩:=o7 hb
  have:=uniq k b hk e
  omega
theorem bsf_eq{A:Type}{key:A→Li}{xs:List A}{t:Li}{cmp:A→Li→Option Int}(hs:Ord (xs.map key))(hl:xs.length≤500000)(hc:∀a,cmp a t=some (cmpL (key a) t)):
  ∃i,bsf xs t cmp=some (i,dec (∃a ∈ xs,key a=t))∧0≤i∧∀k a,ix xs k=some a→key a=t→k=i:=by
 obtain⟨i,h1,h2,h3,_⟩:=bsf_full hs hl hc
 exact⟨i,h1,h2,h3⟩
theorem bsets_eq{xs:LL}{t:Li}(hs:Ord xs)(hl:xs.length≤500000):∃i,s7 xs t slices_Compare_int_int=some (i,dec (t ∈ xs))∧0≤i∧∀k,ix xs k=some t→k=i:=by
 obtain⟨i,h1,h2,h3⟩:=bsf_eq (key:=fun a=>a) (xs:=xs) (t:=t) (cmp:=slices_Compare_int_int) (by simpa using hs) hl (fun a=>ah2 a t)
 refine⟨i,?_,h2,fun k hk=>h3 k t hk rfl⟩
 have:s7 xs t slices_Compare_int_int=bsf xs t slices_Compare_int_int:=rfl
 rw[this,h1]
 simp
/-! ### The order that the specification tells -/
theorem before_eq{a b:Li}(ha:a.length≤1000000):ac5 a b=some (dec (llt a b)):=by
 unfold ac5
 obtain⟨o,h1,h2⟩:=J4 (body:=aj9 a b) (fun k=>0≤k∧k≤a.length∧k≤b.length∧a.take k.toNat=b.take k.toNat) (fun o=>(match o with| .inl _=>some (decide ((a.length:Int)<(b.length:Int)))| .inr x=>some x)=some (dec (llt a b))) (fun k=>(a.length - k).toNat) (s:=0) ⟨by omega,by omega,by omega,by simp⟩ (fun k ⟨g0,g1,g2,g3⟩=>by
  have hd:=av2 (a:=a) (b:=b) k.toNat (by omega) (by omega) g3
  unfold aj9
  by_cases c:k<a.length∧k<b.length
  ·rw[if_pos (by simpa using c)]
   obtain⟨x,hx,gx⟩:=g9 (l:=a) g0 c.1
   obtain⟨y,hy,gy⟩:=g9 (l:=b) g0 c.2
   have da:a.drop k.toNat=x::a.drop (k.toNat+1):=by
    obtain⟨hlt,rfl⟩:=lG.1 gx
    exact List.drop_eq_getElem_cons hlt
   have db:b.drop k.toNat=y::b.drop (k.toNat+1):=by
    obtain⟨hlt,rfl⟩:=lG.1 gy
    exact List.drop_eq_getElem_cons hlt
   rw[da,db] at hd
   simp only[hx,hy,oB]
   by_cases e:x=y
   ·subst e
    rw[if_pos rfl,y6 (by omega) (by omega)]
    refine .inl ⟨k+1,rfl,⟨by omega,by omega,by omega,?_⟩,by omega⟩
    rw[show(k+1).toNat=k.toNat+1 by omega,List.take_add_one,List.take_add_one,gx,gy,g3]
   ·rw[if_neg e]
    refine .inr ⟨_,rfl,?_⟩
    dsimp only
    rw[W1]
    refine congrArg some (z2 ?_)
    rw[hd]
    exact⟨fun h=>.inl h,fun h=>h.resolve_right fun g=>e g.1⟩
  ·rw[if_neg (by simpa using c)]
   refine .inr ⟨_,rfl,?_⟩
   dsimp only
   rw[W1]
   refine congrArg some (z2 ?_)
   rw[hd]
   by_cases ca:k<a.length
   ·have db:b.drop k.toNat=[]:=List.drop_of_length_le (by omega)
    rw[db]
    constructor
    ·intro h;omega
    ·intro h;cases h':a.drop k.toNat with
     |nil=>rw[h'] at h;exact h.elim
     |cons z l=>rw[h'] at h;exact h.elim
   ·have da:a.drop k.toNat=[]:=List.drop_of_length_le (by omega)
    rw[da]
    constructor
    ·intro h
     cases h':b.drop k.toNat with
     |nil=>have:=List.drop_eq_nil_iff.1 h';omega
     |cons z l=>trivial
    ·intro h
     cases h':b.drop k.toNat with
     |nil=>rw[h'] at h;exact h.elim
     |cons z l=>
      have:¬ b.length≤k.toNat:=fun g=>by rw[List.drop_of_length_le g] at h';cases h'
      omega)
 rw[h1]
 simp only[oB]
 exact h2
theorem ord_append{l m:LL}(hl:Ord l)(hm:Ord m)(h:∀a ∈ l,∀b ∈ m,llt a b):Ord (l++m):=List.pairwise_append.2 ⟨hl,hm,h⟩
theorem insert_eq{l:LL}(h:Ord l)(hl:l.length≤1000000)(hw:∀x ∈ l,x.length≤1000000)(s:Li):∃r,ak2 l s=some r∧Ord r∧(∀x,x ∈ r↔x=s∨x ∈ l)∧r.length≤l.length+1:=by
 unfold ak2
 obtain⟨k,h1,k0,k1,k2,k3⟩:=J4 (body:=aj2 l s) (fun k=>0≤k∧k≤l.length∧∀i a,i<k→ix l i=some a→llt a s) (fun k=>0≤k∧k≤l.length∧(∀i a,i<k→ix l i=some a→llt a s)∧∀a,ix l k=some a→¬ llt a s) (fun k=>(l.length - k).toNat) (s:=0) ⟨by omega,by omega,fun i a hi ha=>by have:=(k8 ha).1;omega⟩ (fun k ⟨g0,g1,g2⟩=>by
  unfold aj2
  by_cases c:k<l.length
  ·obtain⟨a,ha,ga⟩:=g9 (l:=l) g0 c
   rw[if_pos c,ha]
   simp only[oB,before_eq (hw a (k7 ha))]
   by_cases c2:llt a s
   ·rw[ifP c2,y6 (by omega) (by omega)]
    refine .inl ⟨_,rfl,⟨by omega,by omega,fun i b hi hb=> ?_⟩,by omega⟩
    by_cases e:i=k
    ·subst e;rw[ha] at hb;cases hb;exact c2
    ·exact g2 i b (by omega) hb
   ·rw[ifN c2]
    exact .inr ⟨k,rfl,g0,g1,g2,fun b hb=>by rw[ha] at hb;cases hb;exact c2⟩
  ·rw[if_neg c]
   exact .inr ⟨k,rfl,g0,g1,g2,fun b hb=>by have:=(k8 hb).2.1;omega⟩)
 rw[h1]
 simp only[oB]
 have step:(Option.bind (if k<(l.length:Int) then Option.bind (ix l k) fun a27=>Option.bind (O6 a27 s) fun a30=>some a30 else some false) fun t9=>if t9=true then some l else Option.bind (subL l 0 k) fun a36=>Option.bind (app 24 ([]:LL) a36) fun a37=>Option.bind (app 24 a37 [s]) fun a40=>Option.bind (subL l k (l.length:Int)) fun a43=>Option.bind (app 24 a40 a43) fun a44=>some a44)=if dec (ix l k=some s)=true then some l else some (l.take k.toNat++[s]++l.drop k.toNat):=by
  have e:(if k<(l.length:Int) then Option.bind (ix l k) fun a27=>Option.bind (O6 a27 s) fun a30=>some a30 else some false)=some (dec (ix l k=some s)):=by
   by_cases c:k<l.length
   ·obtain⟨a,ha,ga⟩:=g9 (l:=l) k0 c
    rw[if_pos c,ha]
    simp only[oB,ints_eq]
    exact congrArg some (z2 (by simp))
   ·rw[if_neg c,x7]
    intro h;have:=(k8 h).2.1;omega
  rw[e]
  simp only[oB]
  by_cases c:ix l k=some s
  ·rw[ifP c,ifP c]
  ·rw[ifN c,ifN c,subL_take k0 (by omega),subL_drop k0 (by omega)]
   simp only[oB]
   rw[app,if_pos (by simp;omega)]
   simp only[oB,List.nil_append]
   rw[app,if_pos (by simp;omega)]
   simp only[oB]
   rw[app,if_pos (by simp;omega)]
   rfl
 rw[step]
 by_cases c:ix l k=some s
 ·rw[ifP c]
  exact⟨l,rfl,h,fun x=>⟨.inr,fun g=>g.elim (fun e=>e ▸ k7 c) id⟩,by omega⟩
 ·rw[ifN c]
  refine⟨_,rfl,?_,fun x=> ?_,by simp;omega⟩
  ·have ht:Ord (l.take k.toNat):=h.sublist (List.take_sublist _ _)
   have hd:Ord (l.drop k.toNat):=h.sublist (List.drop_sublist _ _)
   have b1:∀a ∈ l.take k.toNat,llt a s:=fun a ha=>by
    obtain⟨i,hi,e⟩:=List.mem_take_iff_getElem.1 ha
    exact k2 (i:Int) a (by omega) (by rw[N3,← e];exact List.getElem?_eq_getElem _)
   have b2:∀a ∈ l.drop k.toNat,llt s a:=fun a ha=>by
    obtain⟨i,hi,e⟩:=List.mem_drop_iff_getElem.1 ha
    have hlk:k<l.length:=by omega
    obtain⟨z,hz,gz⟩:=g9 (l:=l) k0 hlk
    have nz:=k3 z hz
    have nz2:llt s z:=by
     rcases V6 z s with g|g|g
     ·exact absurd g nz
     ·exact absurd (g ▸ hz) c
     ·exact g
    by_cases i0:i=0
    ·subst i0
     obtain⟨q1,q2⟩:=lG.1 gz
     have:a=z:=by rw[← e,← q2];simp
     rw[this];exact nz2
    ·refine I4 nz2 (h.get hz (j:=k+i) ?_ (by omega))
     rw[show k+(i:Int)=((k.toNat+i:Nat):Int) by omega,N3,← e]
     exact List.getElem?_eq_getElem _
   refine ord_append (ord_append ht (by simp) fun a ha b hb=> ?_) hd fun a ha b hb=> ?_
   ·simp only[List.mem_singleton] at hb;subst hb;exact b1 a ha
   ·rcases List.mem_append.1 ha with ha|ha
    ·exact I4 (b1 a ha) (b2 b hb)
    ·simp only[List.mem_singleton] at ha;subst ha;exact b2 b hb
  ·rw[List.mem_append,List.mem_append,List.mem_singleton]
   have:=List.take_append_drop k.toNat l
   constructor
   ·rintro ((g|g)|g)
    ·exact .inr (List.mem_of_mem_take g)
    ·exact .inl g
    ·exact .inr (List.mem_of_mem_drop g)
   ·rintro (g|g)
    ·exact .inl (.inr g)
    ·rw[← this] at g
     rcases List.mem_append.1 g with g|g
     ·exact .inl (.inl g)
     ·exact .inr g
end Ab
end
section
namespace Ab
open Go
def Y1(x:n5)(n:Int):Prop:=SetN x.add n∧SetN x.del n∧∀a ∈ x.add,a ∉ x.del
def xWt(x:n5):Prop:=1≤x.weight∧x.weight≤6
noncomputable def X5(n:Int)(x:n5):Int:=if dec (Y1 x n)=true then if dec (xWt x)=true then 0 else 3 else 5
noncomputable def M7(n:Int):List n5→Int
 |[]=>0
 |x::l=>if X5 n x=0 then M7 n l else X5 n x
theorem xCode_zero{n:Int}{x:n5}:X5 n x=0↔Y1 x n∧xWt x:=by
 unfold X5
 by_cases c1:Y1 x n
 ·rw[ifP c1]
  by_cases c2:xWt x
  ·rw[ifP c2];exact⟨fun _=>⟨c1,c2⟩,fun _=>rfl⟩
  ·rw[ifN c2];exact⟨fun h=>by omega,fun h=>absurd h.2 c2⟩
 ·rw[ifN c1];exact⟨fun h=>by omega,fun h=>absurd h.1 c1⟩
theorem as2{n:Int}:∀{l:List n5},M7 n l=0↔∀x ∈ l,Y1 x n∧xWt x
 |[]=>by simp[M7]
 |x::l=>by
  rw[M7]
  by_cases c:X5 n x=0
  ·rw[if_pos c,as2];simp[xCode_zero.1 c]
  ·rw[if_neg c]
   exact⟨fun h=>absurd h c,fun h=>absurd (xCode_zero.2 (h x (by simp))) c⟩
structure OOk(o:i5)(n:Int):Prop where
 pre:SetN o.pre n
 c0:0≤o.cost
 c1:o.cost≤100
 l0:1≤o.outcomes.length
 l1:o.outcomes.length≤4
 xs:∀x ∈ o.outcomes,Y1 x n∧xWt x
noncomputable def ab9(o:i5)(n:Int):Int:=if dec (SetN o.pre n)=true then if dec (0≤o.cost∧o.cost≤100)=true then if dec (1≤(o.outcomes.length:Int)∧(o.outcomes.length:Int)≤4)=true then 0 else 9 else 3 else 5
noncomputable def V9(o:i5)(n:Int):Int:=if ab9 o n=0 then M7 n o.outcomes else ab9 o n
theorem av1{o:i5}{n:Int}:ab9 o n=0↔SetN o.pre n∧(0≤o.cost∧o.cost≤100)∧(1≤(o.outcomes.length:Int)∧(o.outcomes.length:Int)≤4):=by
 unfold ab9
 by_cases c1:SetN o.pre n
 ·rw[ifP c1]
  by_cases c2:0≤o.cost∧o.cost≤100
  ·rw[ifP c2]
   by_cases c3:1≤(o.outcomes.length:Int)∧(o.outcomes.length:Int)≤4
   ·rw[ifP c3];exact⟨fun _=>⟨c1,c2,c3⟩,fun _=>rfl⟩
   ·rw[ifN c3];exact⟨fun h=>by omega,fun h=>absurd h.2.2 c3⟩
  ·rw[ifN c2];exact⟨fun h=>by omega,fun h=>absurd h.2.1 c2⟩
 ·rw[ifN c1];exact⟨fun h=>by omega,fun h=>absurd h.1 c1⟩
theorem oCode_of{o:i5}{n:Int}(h:OOk o n):V9 o n=0:=by
 have:=h.l0;have:=h.l1
 rw[V9,if_pos (av1.2 ⟨h.pre,⟨h.c0,h.c1⟩,by omega,by omega⟩),as2]
 exact h.xs
theorem oCode_ok{o:i5}{n:Int}(h:V9 o n=0):OOk o n:=by
 unfold V9 at h
 by_cases c:ab9 o n=0
 ·rw[if_pos c] at h
  obtain⟨g1,g2,g3⟩:=av1.1 c
  exact⟨g1,g2.1,g2.2,by omega,by omega,as2.1 h⟩
 ·rw[if_neg c] at h;exact absurd h c
theorem oc1{o:i5}{n:Int}(h0:0≤n)(h1:n≤24){j:Int}{x:n5}(hx:ix o.outcomes j=some x):G7 o n j ()=some (if X5 n x=0 then .inl () else .inr (X5 n x)):=by
 unfold G7
 rw[hx]
 simp only[oB,aj8,y8]
 by_cases g1:SetN x.add n
 ·rw[ifNN g1]
  by_cases g2:SetN x.del n
  ·have:=g2.len
   rw[ifNN g2,meets_eq g2.1 (by omega)]
   simp only[oB]
   by_cases g3:∀a ∈ x.add,a ∉ x.del
   ·have g:Y1 x n:=⟨g1,g2,g3⟩
    rw[ifN (fun⟨a,ha,hb⟩=>g3 a ha hb)]
    unfold X5
    rw[ifP g]
    by_cases g4:xWt x
    ·have g5:=g4
     unfold xWt at g5
     rw[ifP g4,if_neg (by simp;omega)];rfl
    ·have g5:=g4
     unfold xWt at g5
     rw[ifN g4,if_pos (by simp;omega)];rfl
   ·have g:¬ Y1 x n:=fun h=>g3 h.2.2
    rw[ifP (by
     rw[Classical.not_forall] at g3
     obtain⟨a,ha⟩:=g3
     exact⟨a,Classical.not_imp.1 ha|>.1,Classical.not_not.1 (Classical.not_imp.1 ha).2⟩)]
    unfold X5
    rw[ifN g];rfl
  ·have g:¬ Y1 x n:=fun h=>g2 h.2.1
   rw[ifP g2]
   unfold X5
   rw[ifN g];rfl
 ·have g:¬ Y1 x n:=fun h=>g1 h.1
  rw[ifP g1]
  unfold X5
  rw[ifN g];rfl
theorem operatorCode_eq{o:i5}{n:Int}(h0:0≤n)(h1:n≤24):N2 o n=some (V9 o n):=by
 unfold N2
 simp only[aj8,oB,y8]
 unfold V9 ab9
 by_cases c1:SetN o.pre n
 ·rw[ifNN c1,ifP c1]
  by_cases c2:0≤o.cost∧o.cost≤100
  ·rw[if_neg (show ¬ ((decide (o.cost<0))||(decide (100<o.cost)))=true by rw[Bool.or_eq_true,decide_eq_true_eq,decide_eq_true_eq];omega),ifP c2]
   by_cases c3:1≤(o.outcomes.length:Int)∧(o.outcomes.length:Int)≤4
   ·rw[if_neg (show ¬ ((decide ((o.outcomes.length:Int)=0))||(decide (4<(o.outcomes.length:Int))))=true by rw[Bool.or_eq_true,decide_eq_true_eq,decide_eq_true_eq];omega),ifP c3,if_pos rfl]
    rcases aa4 (body:=G7 o n) (n:=(o.outcomes.length:Int)) (fun j _=>M7 n o.outcomes=M7 n (o.outcomes.drop j.toNat)) (fun c=>c=M7 n o.outcomes) (s:=()) (by omega) (by simp) (fun j _ j0 j1 hP=>by
     obtain⟨x,hx,gx⟩:=g9 (l:=o.outcomes) j0 j1
     have hd:o.outcomes.drop j.toNat=x::o.outcomes.drop (j.toNat+1):=by
      obtain⟨hlt,rfl⟩:=lG.1 gx
      exact List.drop_eq_getElem_cons hlt
     rw[oc1 h0 h1 hx]
     rw[hd,M7] at hP
     by_cases e:X5 n x=0
     ·rw[if_pos e] at hP ⊢
      exact .inl ⟨(),rfl,by rw[hP,show(j+1).toNat=j.toNat+1 by omega]⟩
     ·rw[if_neg e] at hP ⊢
      exact .inr ⟨_,rfl,hP.symm⟩) with⟨_,r1,r2⟩|⟨c,r1,rfl⟩
    ·rw[r1,r2];simp[M7]
    ·rw[r1];rfl
   ·rw[if_pos (show((decide ((o.outcomes.length:Int)=0))||(decide (4<(o.outcomes.length:Int))))=true by rw[Bool.or_eq_true,decide_eq_true_eq,decide_eq_true_eq];omega),ifN c3];rfl
  ·rw[if_pos (show((decide (o.cost<0))||(decide (100<o.cost)))=true by rw[Bool.or_eq_true,decide_eq_true_eq,decide_eq_true_eq];omega),ifN c2];rfl
 ·rw[ifP c1,ifN c1];rfl
theorem of2{t:d4}{o:i5}(h0:0≤t.facts)(h1:t.facts≤24)(hl:o.outcomes.length≤1000000)(c:Int):Loop (E4 t o) (c,0)=some (if c=0 then M7 t.facts o.outcomes else c):=by
 obtain⟨r,r1,r2⟩:=J4 (body:=E4 t o) (fun p=>0≤p.2∧p.2≤o.outcomes.length∧(if c=0 then M7 t.facts o.outcomes else c)=if p.1=0 then M7 t.facts (o.outcomes.drop p.2.toNat) else p.1) (fun r=>r=if c=0 then M7 t.facts o.outcomes else c) (fun p=>(o.outcomes.length - p.2).toNat) (s:=(c,0)) ⟨by simp,by simp,by simp⟩ (fun⟨e,j⟩ ⟨g0,g1,g2⟩=>by
  dsimp only at g0 g1 g2 ⊢
  unfold E4
  dsimp only
  by_cases cj:j<o.outcomes.length∧e=0
  ·rw[if_pos (by simpa using cj)]
   obtain⟨x,hx,gx⟩:=g9 (l:=o.outcomes) g0 cj.1
   have hd:o.outcomes.drop j.toNat=x::o.outcomes.drop (j.toNat+1):=by
    obtain⟨hlt,rfl⟩:=lG.1 gx
    exact List.drop_eq_getElem_cons hlt
   rw[cj.2,if_pos rfl,hd,M7] at g2
   rw[hx]
   simp only[oB,af9 (n:=t.facts) _ (show -9223372036854775808<t.facts by omega) (show t.facts≤9223372036854775807 by omega),disjoint_eq,in_eq,y8,cj.2]
   have hp:(if dec (¬ SetN x.add t.facts)=true then some true else if dec (¬ SetN x.del t.facts)=true then some true else some (dec (¬ ∀a ∈ x.add,a ∉ x.del)))=some (dec (¬ Y1 x t.facts)):=by
    unfold Y1
    by_cases k1:SetN x.add t.facts
    ·rw[ifNN k1]
     by_cases k2:SetN x.del t.facts
     ·rw[ifNN k2]
      exact congrArg some (z2 ⟨fun h k=>h k.2.2,fun h k=>h ⟨k1,k2,k⟩⟩)
     ·rw[ifP k2,l9 (fun k=>k2 k.2.1)]
    ·rw[ifP k1,l9 (fun k=>k1 k.1)]
   rw[hp]
   simp only[oB]
   rw[y6 (by omega) (by omega)]
   have fin:(if dec (¬ Y1 x t.facts)=true then some (5:Int) else if dec (¬ (1≤x.weight∧x.weight≤6))=true then some 3 else some 0)=some (X5 t.facts x):=by
    unfold X5
    by_cases k1:Y1 x t.facts
    ·rw[ifNN k1,ifP k1]
     by_cases k2:xWt x
     ·rw[ifNN (p:=1≤x.weight∧x.weight≤6) k2,ifP k2]
     ·rw[ifP (p:=¬ (1≤x.weight∧x.weight≤6)) k2,ifN k2]
    ·rw[ifP k1,ifN k1]
   rw[fin]
   simp only[oB]
   refine .inl ⟨_,rfl,⟨by dsimp only;omega,by dsimp only;omega,?_⟩,by dsimp only;omega⟩
   dsimp only
   rw[g2,show(j+1).toNat=j.toNat+1 by omega]
  ·rw[if_neg (by simpa using cj)]
   refine .inr ⟨e,rfl,?_⟩
   rw[g2]
   by_cases ce:e=0
   ·rw[if_pos ce,List.drop_of_length_le (by omega),M7,ce]
   ·rw[if_neg ce])
 rw[r1,r2]
structure n7(t:d4):Prop where
 n0:0≤t.facts
 n1:t.facts≤24
 init:SetN t.init t.facts
 goal:SetN t.goal t.facts
 ops:t.operators.length≤40
 op:∀o ∈ t.operators,OOk o t.facts
theorem ah4(t:d4):∃f,D2 t=some f∧ai9 t=some f∧((f=⟨0,0⟩∧n7 t)∨(f.code ≠ 0∧¬ n7 t)):=by
 unfold D2 ai9
 simp only[in_eq,at_eq,oB,y8]
 by_cases c1:0≤t.facts∧t.facts≤24
 ·rw[if_neg (by simp;omega),ifNN c1]
  simp only[aj8,af9 (n:=t.facts) _ (show -9223372036854775808<t.facts by omega) (show t.facts≤9223372036854775807 by omega),oB,y8]
  by_cases c2:SetN t.init t.facts
  ·rw[ifNN c2,ifNN c2]
   by_cases c3:SetN t.goal t.facts
   ·rw[ifNN c3,ifNN c3]
    by_cases c4:40<(t.operators.length:Int)
    ·rw[if_pos c4,if_pos c4]
     exact⟨_,rfl,rfl,.inr ⟨by simp,fun h=>by have:=h.ops;omega⟩⟩
    ·rw[if_neg c4,if_neg c4]
     have hb:∀j:Int,0≤j→j<t.operators.length→∃o,ix t.operators j=some o∧Q0 t j ()=some (if V9 o t.facts=0 then .inl () else .inr ⟨V9 o t.facts,j⟩)∧N7 t j ()=some (if V9 o t.facts=0 then .inl () else .inr ⟨V9 o t.facts,j⟩):=fun j h0 h1=>by
      obtain⟨o,ho,_⟩:=g9 (l:=t.operators) h0 h1
      refine⟨o,ho,?_,?_⟩
      ·unfold Q0
       rw[ho]
       simp only[oB,operatorCode_eq c1.1 c1.2]
       by_cases e:V9 o t.facts=0
       ·rw[if_pos e,if_pos e]
       ·rw[if_neg e,if_neg e]
      ·unfold N7
       rw[ho]
       simp only[oB,af9 (n:=t.facts) _ (show -9223372036854775808<t.facts by omega) (show t.facts≤9223372036854775807 by omega),in_eq,at_eq,y8]
       have hp:(if dec (¬ SetN o.pre t.facts)=true then some (5:Int) else if dec (¬ (0≤o.cost∧o.cost≤100))=true then some 3 else if dec (¬ (1≤(o.outcomes.length:Int)∧(o.outcomes.length:Int)≤4))=true then some 9 else some 0)=some (ab9 o t.facts):=by
        unfold ab9
        by_cases g1:SetN o.pre t.facts
        ·rw[ifNN g1,ifP g1]
         by_cases g2:0≤o.cost∧o.cost≤100
         ·rw[ifNN g2,ifP g2]
          by_cases g3:1≤(o.outcomes.length:Int)∧(o.outcomes.length:Int)≤4
          ·rw[ifNN g3,ifP g3]
          ·rw[ifP g3,ifN g3]
         ·rw[ifP g2,ifN g2]
        ·rw[ifP g1,ifN g1]
       rw[hp]
       simp only[oB]
       by_cases eh:ab9 o t.facts=0
       ·have:=av1.1 eh
        rw[of2 c1.1 c1.2 (by omega),if_pos eh]
        simp only[oB,V9,eh,if_true]
        split<;>rfl
       ·have nl:Loop (E4 t o) (ab9 o t.facts,0)=some (ab9 o t.facts):=by
         rw[M3]
         have:E4 t o (ab9 o t.facts,0)=some (.inr (ab9 o t.facts)):=by
          unfold E4
          dsimp only
          rw[if_neg (by simp[eh])]
         rw[this]
        rw[nl]
        simp only[oB,V9,if_neg eh]
     have heq:rngX 0 (t.operators.length:Int) (Q0 t) ()=rngX 0 (t.operators.length:Int) (N7 t) ():=
      (rngX_eq (fun _ _=>True) (by omega) trivial (fun j s h0 h1 _=>by
       obtain⟨o,_,e1,e2⟩:=hb j h0 h1
       exact⟨by rw[e1,e2],by rw[e1];simp,fun _ _=>trivial⟩)).1
     rcases E6 (body:=N7 t) (n:=(t.operators.length:Int)) (fun j=>match ix t.operators j with|some o=>if V9 o t.facts=0 then none else some (⟨V9 o t.facts,j⟩:k6)|none=>none) (by omega) (fun j h0 h1 _=>by
      obtain⟨o,e0,_,e2⟩:=hb j h0 h1
      rw[e2,e0]
      dsimp only
      split<;>rfl) with⟨h1,h2⟩|⟨j,f,h0,h1,h2,_,h4⟩
     ·rw[heq,h1]
      refine⟨⟨0,0⟩,rfl,rfl,.inl ⟨rfl,c1.1,c1.2,c2,c3,by omega,fun o ho=> ?_⟩⟩
      obtain⟨j,g0,g1,g2⟩:=o7 ho
      have:=h2 j g0 g1
      rw[g2] at this
      dsimp only at this
      split at this
      ·rename_i e;exact oCode_ok e
      ·cases this
     ·rw[heq,h4]
      obtain⟨o,e0,_,_⟩:=hb j h0 h1
      rw[e0] at h2
      dsimp only at h2
      split at h2
      ·cases h2
      ·rename_i e
       cases h2
       exact⟨_,rfl,rfl,.inr ⟨e,fun h=>e (oCode_of (h.op o (k7 e0)))⟩⟩
   ·rw[ifP c3,ifP c3]
    exact⟨_,rfl,rfl,.inr ⟨by simp,fun h=>c3 h.goal⟩⟩
  ·rw[ifP c2,ifP c2]
   exact⟨_,rfl,rfl,.inr ⟨by simp,fun h=>c2 h.init⟩⟩
 ·rw[if_pos (by simp;omega),if_pos (l9 c1)]
  exact⟨_,rfl,rfl,.inr ⟨by simp,fun h=>c1 ⟨h.n0,h.n1⟩⟩⟩
end Ab
end
section
namespace Ab
open Go
def noOO:i5:=⟨[],[],0⟩
def ooAt(t:d4)(op:Int):i5:=(t.operators[op.toNat]?).getD noOO
theorem ix_oo{t:d4}{op:Int}(h0:0≤op)(h1:op<t.operators.length):ix t.operators op=some (ooAt t op):=by
 obtain⟨a,h2,h3⟩:=g9 h0 h1
 rw[h2,ooAt,h3];rfl
def oCan(t:d4)(s:Li)(op:Int):Prop:=∀x ∈ (ooAt t op).pre,x ∈ s
noncomputable def efc(n:Int)(s:Li)(x:n5):Li:=M1 (fun p=>p ∈ x.add∨p ∈ s∧p ∉ x.del) n
theorem av3(n:Int)(s:Li)(x:n5):SetN (efc n s x) n:=am7 _ _
theorem n7.at{t:d4}(h:n7 t){op:Int}(h0:0≤op)(h1:op<t.operators.length):OOk (ooAt t op) t.facts:=h.op _ (k7 (ix_oo h0 h1))
theorem oCan_eq{t:d4}(ht:n7 t){op:Int}(h0:0≤op)(h1:op<t.operators.length){s:Li}(hs:SetN s t.facts):ab2 t s op=some (dec (oCan t s op)):=by
 have:=ht.n1;have:=hs.len
 unfold ab2
 rw[ix_oo h0 h1]
 simp only[oB]
 rw[T6 hs.1 (ht.at h0 h1).pre.1 (by omega)]
 rfl
theorem oApplies_eq{t:d4}{op:Int}(h0:0≤op)(h1:op<t.operators.length)(s:Li):ai3 t s op=some (dec (oCan t s op)):=by
 unfold ai3
 rw[ix_oo h0 h1]
 simp only[oB,subset_eq]
 rfl
theorem effect_eq{t:d4}(ht:n7 t)(s:Li)(x:n5):ak4 t s x=some (efc t.facts s x):=by
 have:=ht.n1
 unfold ak4
 rw[if_pos (by omega)]
 rw[forR_setOf (b:=8) (fun p=>p ∈ x.add∨p ∈ s∧p ∉ x.del) ht.n0 (by omega) (fun j c g0 g1=>by
  unfold at8
  simp only[oB,has_eq,y8]
  have e:(if dec (j ∈ x.add)=true then some true else if dec (j ∈ s)=true then some (dec (j ∉ x.del)) else some false)=some (dec (j ∈ x.add∨j ∈ s∧j ∉ x.del)):=by
   by_cases c1:j ∈ x.add
   ·rw[if_pos (l9 c1),l9 (.inl c1)]
   ·rw[if_neg (fun h=>c1 (m7.1 h))]
    by_cases c2:j ∈ s
    ·rw[if_pos (l9 c2)]
     exact congrArg some (z2 ⟨fun h=>.inr ⟨c2,h⟩,fun h=>(h.resolve_left c1).2⟩)
    ·rw[if_neg (fun h=>c2 (m7.1 h)),x7 (fun h=>c2 (h.resolve_left c1).1)]
  rw[e]
  simp only[oB]
  refine⟨fun hq=> ?_,fun hq=> ?_⟩
  ·rw[if_pos (l9 hq)]
   cases app 8 c [j]<;>rfl
  ·rw[if_neg (fun h=>hq (m7.1 h))];rfl)]
 rfl
theorem oUpdate_eq{n:Int}(hn:n≤24){s:Li}(hs:SetN s n){x:n5}(hx:Y1 x n):M6 s x.add x.del=some (efc n s x):=by
 have:=hx.2.1.len
 rw[update_eq (n:=n) (by omega) hx.2.1.1 (by omega) hs hx.1]
 exact congrArg some (setOf_congr fun _ _ _=>Or.comm)
/-! ### Policies -/
theorem ord_of_adj:∀{l:LL},(∀(k:Nat) a b,l[k]? =some a→l[k+1]? =some b→llt a b)→Ord l
 |[],_=>.nil
 |[_],_=>by simp
 |a::b::l,h=>by
  have ih:Ord (b::l):=ord_of_adj fun k x y h1 h2=>h (k+1) x y (by simpa using h1) (by simpa using h2)
  have hab:llt a b:=h 0 a b rfl rfl
  refine List.pairwise_cons.2 ⟨fun c hc=> ?_,ih⟩
  rcases List.mem_cons.1 hc with rfl|hc
  ·exact hab
  ·exact I4 hab ((List.pairwise_cons.1 ih).1 c hc)
structure K0(t:d4)(p:List d9):Prop where
 len:p.length≤200
 ord:Ord (p.map d9.state)
 set:∀c ∈ p,SetN c.state t.facts
 op:∀c ∈ p,0≤c.operator∧c.operator<t.operators.length
 can:∀c ∈ p,oCan t c.state c.operator
def pSet(t:d4)(p:List d9)(j:Int)(c:d9):Prop:=SetN c.state t.facts∧∀b,0<j→ix p (j - 1)=some b→llt b.state c.state
noncomputable def Q5(t:d4)(p:List d9)(j:Int)(c:d9):Int:=if dec (pSet t p j c)=true then if dec (0≤c.operator∧c.operator<t.operators.length)=true then if dec (oCan t c.state c.operator)=true then 0 else 11 else 3 else 5
theorem pCode_zero{t:d4}{p:List d9}{j:Int}{c:d9}:Q5 t p j c=0→pSet t p j c∧(0≤c.operator∧c.operator<t.operators.length)∧oCan t c.state c.operator:=by
 unfold Q5
 by_cases c1:pSet t p j c
 ·rw[ifP c1]
  by_cases c2:0≤c.operator∧c.operator<t.operators.length
  ·rw[ifP c2]
   by_cases c3:oCan t c.state c.operator
   ·rw[ifP c3];exact fun _=>⟨c1,c2,c3⟩
   ·rw[ifN c3];exact fun h=>by omega
  ·rw[ifN c2];exact fun h=>by omega
 ·rw[ifN c1];exact fun h=>by omega
theorem pCode_of{t:d4}{p:List d9}(hp:K0 t p){j:Int}{c:d9}(hc:ix p j=some c):Q5 t p j c=0:=by
 have hm:=k7 hc
 unfold Q5
 rw[ifP ⟨hp.set c hm,fun b _ hb=>am6 hp.ord hb hc (by omega)⟩,ifP (hp.op c hm),ifP (hp.can c hm)]
theorem pol1{t:d4}(ht:n7 t){p:List d9}{j:Int}{c:d9}(hl:p.length≤200)(hc:ix p j=some c):F4 t p j ()=some (if Q5 t p j c=0 then .inl () else .inr ⟨Q5 t p j c, -9 - j⟩):=by
 obtain⟨j0,j1,_⟩:=k8 hc
 have hn:=ht.n1
 unfold F4
 rw[hc]
 simp only[oB,aj8,y8]
 have key:(if dec (¬ SetN c.state t.facts)=true then some true else if 0<j then Option.bind (ix p (j - 1)) fun a40=>Option.bind (slices_Compare_int_int a40.state c.state) fun a45=>some (decide (0≤a45)) else some false)=some (dec (¬ pSet t p j c)):=by
  by_cases g1:SetN c.state t.facts
  ·rw[ifNN g1]
   by_cases g2:0<j
   ·rw[if_pos g2]
    obtain⟨b,hb,_⟩:=g9 (l:=p) (i:=j - 1) (by omega) (by omega)
    rw[hb]
    simp only[oB,ah2,W1]
    refine congrArg some (z2 ?_)
    rw[cmpL_ge]
    exact⟨fun h g=>h (g.2 b g2 hb),fun h g=>h ⟨g1,fun b' _ hb'=>by rw[hb] at hb';cases hb';exact g⟩⟩
   ·rw[if_neg g2,x7]
    exact fun h=>h ⟨g1,fun _ g=>absurd g g2⟩
  ·rw[ifP g1,l9 (fun h=>g1 h.1)]
 rw[key]
 simp only[oB]
 rw[y6 (by omega) (by omega)]
 unfold Q5
 by_cases g1:pSet t p j c
 ·rw[ifNN g1,ifP g1]
  by_cases g2:0≤c.operator∧c.operator<t.operators.length
  ·rw[if_neg (show ¬ ((decide (c.operator<0))||(decide ((t.operators.length:Int)≤c.operator)))=true by rw[Bool.or_eq_true,decide_eq_true_eq,decide_eq_true_eq];omega),ifP g2,oCan_eq ht g2.1 g2.2 g1.1]
   simp only[oB,y8]
   by_cases g3:oCan t c.state c.operator
   ·rw[ifNN g3,ifP g3];rfl
   ·rw[ifP g3,ifN g3];rfl
  ·rw[if_pos (show((decide (c.operator<0))||(decide ((t.operators.length:Int)≤c.operator)))=true by rw[Bool.or_eq_true,decide_eq_true_eq,decide_eq_true_eq];omega),ifN g2];rfl
 ·rw[ifP g1,ifN g1];rfl
theorem pol2{t:d4}(ht:n7 t){p:List d9}{j:Int}{c:d9}(hl:p.length≤200)(hw:0<j→∀b,ix p (j - 1)=some b→b.state.length≤1000000)(hc:ix p j=some c):J2 t p j ()=some (if Q5 t p j c=0 then .inl () else .inr ⟨Q5 t p j c, -9 - j⟩):=by
 obtain⟨j0,j1,_⟩:=k8 hc
 have hn:=ht.n1;have hn0:=ht.n0;have ho:=ht.ops
 unfold J2
 rw[hc]
 simp only[oB,af9 (n:=t.facts) _ (show -9223372036854775808<t.facts by omega) (show t.facts≤9223372036854775807 by omega),in_eq,at_eq,y8]
 have key:(if dec (¬ SetN c.state t.facts)=true then some true else if 0<j then Option.bind (ix p (j - 1)) fun a39=>Option.bind (ac5 a39.state c.state) fun a47=>some (!a47) else some false)=some (dec (¬ pSet t p j c)):=by
  by_cases g1:SetN c.state t.facts
  ·rw[ifNN g1]
   by_cases g2:0<j
   ·rw[if_pos g2]
    obtain⟨b,hb,_⟩:=g9 (l:=p) (i:=j - 1) (by omega) (by omega)
    rw[hb]
    simp only[oB,before_eq (hw g2 b hb),y8]
    refine congrArg some (z2 ?_)
    exact⟨fun h g=>h (g.2 b g2 hb),fun h g=>h ⟨g1,fun b' _ hb'=>by rw[hb] at hb';cases hb';exact g⟩⟩
   ·rw[if_neg g2,x7]
    exact fun h=>h ⟨g1,fun _ g=>absurd g g2⟩
  ·rw[ifP g1,l9 (fun h=>g1 h.1)]
 rw[key]
 simp only[oB]
 rw[y6 (n:= -9 - j) (by omega) (by omega),y6 (n:=(t.operators.length:Int) - 1) (by omega) (by omega)]
 unfold Q5
 by_cases g1:pSet t p j c
 ·rw[ifNN g1,ifP g1]
  by_cases g2:0≤c.operator∧c.operator<t.operators.length
  ·rw[ifN (show ¬ ¬ (0≤c.operator∧c.operator≤(t.operators.length:Int) - 1) by omega),ifP g2,oApplies_eq g2.1 g2.2]
   simp only[oB,y8]
   by_cases g3:oCan t c.state c.operator
   ·rw[ifNN g3,ifP g3];rfl
   ·rw[ifP g3,ifN g3];rfl
  ·rw[ifP (show ¬ (0≤c.operator∧c.operator≤(t.operators.length:Int) - 1) by omega),ifN g2];rfl
 ·rw[ifP g1,ifN g1];rfl
theorem policy_eq(t:d4)(p:List d9):∃f,I8 t p=some f∧ao0 t p=some f∧((f=⟨0,0⟩∧n7 t∧K0 t p)∨(f.code ≠ 0∧¬ (n7 t∧K0 t p))):=by
 obtain⟨f,h1,h2,h3⟩:=ah4 t
 unfold I8 ao0
 rw[h1,h2]
 simp only[oB]
 rcases h3 with⟨rfl,ht⟩|⟨hc,hnt⟩
 ·rw[if_neg (by simp),if_pos rfl]
  by_cases c1:200<(p.length:Int)
  ·rw[if_pos c1,if_pos c1,at_eq]
   exact⟨_,rfl,rfl,.inr ⟨by simp,fun h=>by have:=h.2.len;omega⟩⟩
  ·rw[if_neg c1,if_neg c1]
   have hn:=ht.n1
   have hset:∀j:Int,(∀i,0≤i→i<j→(match ix p i with|some c=>if Q5 t p i c=0 then none else some (⟨Q5 t p i c, -9 - i⟩:k6)|none=>none)=none)→0<j→∀b,ix p (j - 1)=some b→b.state.length≤1000000:=fun j hj j0 b hb=>by
    have:=hj (j - 1) (by omega) (by omega)
    rw[hb] at this
    dsimp only at this
    split at this
    ·rename_i e
     have:=(pCode_zero e).1.1.len
     omega
    ·cases this
   rcases E6 (body:=F4 t p) (n:=(p.length:Int)) (fun j=>match ix p j with|some c=>if Q5 t p j c=0 then none else some (⟨Q5 t p j c, -9 - j⟩:k6)|none=>none) (by omega) (fun j h0 h1 _=>by
    obtain⟨c,e0,_⟩:=g9 (l:=p) h0 h1
    rw[pol1 ht (by omega) e0,e0]
    dsimp only
    split<;>rfl) with⟨a1,a2⟩|⟨j,f,a0,a1,a2,a3,a4⟩
   ·rcases E6 (body:=J2 t p) (n:=(p.length:Int)) (fun j=>match ix p j with|some c=>if Q5 t p j c=0 then none else some (⟨Q5 t p j c, -9 - j⟩:k6)|none=>none) (by omega) (fun j h0 h1 hj=>by
     obtain⟨c,e0,_⟩:=g9 (l:=p) h0 h1
     rw[pol2 ht (by omega) (hset j hj) e0,e0]
     dsimp only
     split<;>rfl) with⟨b1,b2⟩|⟨j',f',b0,b1,b2,b3,b4⟩
    ·rw[a1,b1]
     have all:∀j c,ix p j=some c→pSet t p j c∧(0≤c.operator∧c.operator<t.operators.length)∧oCan t c.state c.operator:=fun j c hc=>by
      have:=a2 j (k8 hc).1 (k8 hc).2.1
      rw[hc] at this
      dsimp only at this
      split at this
      ·rename_i e;exact pCode_zero e
      ·cases this
     have all':∀c ∈ p,SetN c.state t.facts∧(0≤c.operator∧c.operator<t.operators.length)∧oCan t c.state c.operator:=fun c hc=>by
      obtain⟨j,_,_,hj⟩:=o7 hc
      obtain⟨g1,g2,g3⟩:=all j c hj
      exact⟨g1.1,g2,g3⟩
     refine⟨_,rfl,rfl,.inl ⟨rfl,ht,by omega,ord_of_adj fun k a b ha hb=> ?_,fun c hc=>(all' c hc).1,fun c hc=>(all' c hc).2.1,fun c hc=>(all' c hc).2.2⟩⟩
     rw[lM] at ha hb
     cases ha':p[k]? with
     |none=>rw[ha'] at ha;cases ha
     |some a'=>
      cases hb':p[k+1]? with
      |none=>rw[hb'] at hb;cases hb
      |some b'=>
       rw[ha'] at ha;rw[hb'] at hb;cases ha;cases hb
       refine(all ((k+1:Nat):Int) b' (by rw[N3,hb'])).1.2 a' (by omega) ?_
       rw[show((k+1:Nat):Int) - 1=(k:Nat) by omega,N3,ha']
    ·rw[a2 j' b0 b1] at b2;cases b2
   ·rcases E6 (body:=J2 t p) (n:=(p.length:Int)) (fun j=>match ix p j with|some c=>if Q5 t p j c=0 then none else some (⟨Q5 t p j c, -9 - j⟩:k6)|none=>none) (by omega) (fun j h0 h1 hj=>by
     obtain⟨c,e0,_⟩:=g9 (l:=p) h0 h1
     rw[pol2 ht (by omega) (hset j hj) e0,e0]
     dsimp only
     split<;>rfl) with⟨b1,b2⟩|⟨j',f',b0,b1,b2,b3,b4⟩
    ·rw[b2 j a0 a1] at a2;cases a2
    ·have ej:j=j':=by
      rcases Int.lt_trichotomy j j' with h|h|h
      ·rw[b3 j a0 h] at a2;cases a2
      ·exact h
      ·rw[a3 j' b0 h] at b2;cases b2
     subst ej
     rw[a2] at b2
     cases b2
     rw[a4,b4]
     refine⟨_,rfl,rfl,.inr ?_⟩
     obtain⟨c,e0,_⟩:=g9 (l:=p) a0 a1
     rw[e0] at a2
     dsimp only at a2
     split at a2
     ·cases a2
     ·rename_i e;cases a2;exact⟨e,fun h=>e (pCode_of h.2 e0)⟩
 ·rw[if_pos (au9 hc),if_neg hc]
  exact⟨f,rfl,rfl,.inr ⟨hc,fun h=>hnt h.1⟩⟩
/-! ### What a policy chooses -/
theorem an3(p:List d9)(s:Li):∃r,ak3 p s=some r∧((r= -1∧∀c ∈ p,c.state ≠ s)∨∃c,c ∈ p∧c.state=s∧r=c.operator):=by
 unfold ak3
 rcases E6 (body:=aj1 p s) (n:=(p.length:Int)) (fun j=>match ix p j with|some c=>if dec (c.state=s)=true then some c.operator else none|none=>none) (by omega) (fun j h0 h1 _=>by
  obtain⟨x,hx,_⟩:=g9 (l:=p) h0 h1
  unfold aj1
  simp only[hx,oB,ints_eq]
  by_cases e:x.state=s
  ·rw[ifP e,ifP e]
  ·rw[ifN e,ifN e]) with⟨h1,h2⟩|⟨j,o,h0,h1,h2,h3,h4⟩
 ·rw[h1]
  refine⟨-1,rfl,.inl ⟨rfl,fun c hc he=> ?_⟩⟩
  obtain⟨i,i0,i1,hi⟩:=o7 hc
  have:=h2 i i0 i1
  rw[hi] at this
  dsimp only at this
  rw[ifP he] at this
  cases this
 ·rw[h4]
  obtain⟨c,hc,_⟩:=g9 (l:=p) h0 h1
  rw[hc] at h2
  dsimp only at h2
  split at h2
  ·rename_i e
   cases h2
   exact⟨_,rfl,.inr ⟨c,k7 hc,m7.1 e,rfl⟩⟩
  ·cases h2
theorem chosen_eq{t:d4}{p:List d9}(hp:K0 t p)(s:Li):∃r,J6 p s=some r∧ak3 p s=some r∧(r= -1∨(0≤r∧r<t.operators.length∧oCan t s r)):=by
 obtain⟨r,h1,h2⟩:=an3 p s
 refine⟨r,?_,h1,?_⟩
 ·unfold J6
  obtain⟨i,g1,g2,g3⟩:=bsf_eq (key:=d9.state) (xs:=p) (t:=s) (cmp:=open_Chosen_1) hp.ord (by have:=hp.len;omega) (fun a=>by unfold open_Chosen_1;rw[ah2];rfl)
  have:j7 p s open_Chosen_1=bsf p s open_Chosen_1:=rfl
  rw[this,g1]
  simp only[oB,y8]
  rcases h2 with⟨rfl,h⟩|⟨c,hc,he,rfl⟩
  ·rw[ifP]
   rintro ⟨a,ha,e⟩;exact h a ha e
  ·rw[ifNN ⟨c,hc,he⟩]
   obtain⟨k,_,_,hk⟩:=o7 hc
   have:=g3 k c hk he
   subst this
   rw[hk];rfl
 ·rcases h2 with⟨rfl,h⟩|⟨c,hc,he,rfl⟩
  ·exact .inl rfl
  ·have:=hp.op c hc
   exact .inr ⟨this.1,this.2,he ▸ hp.can c hc⟩
end Ab
end
section
namespace Ab
open Go
theorem ix_map{α β:Type}{f:α→β}{l:List α}{i:Int}:ix (l.map f) i=(ix l i).map f:=by
 simp only[ix]
 split
 ·rw[lM]
 ·rfl
theorem Ord.one{l m:LL}(hl:Ord l)(hm:Ord m){p:Li→Prop}(h1:∀y,y ∈ l↔p y)(h2:∀y,y ∈ m↔p y):l=m:=Ord.ext hl hm fun y=>(h1 y).trans (h2 y).symm
theorem cloneLL_eq{s:LL}(h:s.length≤1000000):G2 s=some s:=by
 rw[G2,app,if_pos (by simp;omega)];rfl
theorem results1{t:d4}{o:i5}(ho:OOk o t.facts)(hn:t.facts≤24){s:Li}(hs:SetN s t.facts):forR 0 (o.outcomes.length:Int) (T3 s o) []=some (o.outcomes.map (efc t.facts s)):=by
 have hl:=ho.l1
 obtain⟨c,h1,h2⟩:=w8 (body:=T3 s o) (n:=(o.outcomes.length:Int)) (s:=[]) (fun j c=>c=(o.outcomes.take j.toNat).map (efc t.facts s)) (by omega) (by simp) (fun j c j0 j1 hP=>by
  obtain⟨x,hx,gx⟩:=g9 (l:=o.outcomes) j0 j1
  unfold T3
  rw[hx]
  simp only[oB]
  rw[oUpdate_eq hn hs (ho.xs x (k7 hx)).1]
  simp only[oB]
  have hlen:c.length≤4:=by rw[hP,List.length_map,List.length_take];omega
  rw[app,if_pos (by simp;omega)]
  refine⟨_,rfl,?_⟩
  rw[show(j+1).toNat=j.toNat+1 by omega,List.take_add_one,gx,hP,List.map_append];rfl)
 rw[h1,h2]
 simp
theorem T9{t:d4}(ht:n7 t){op:Int}(h0:0≤op)(h1:op<t.operators.length){s:Li}(hs:SetN s t.facts):∃st w,F3 t s op=some (st,w)∧Ord st∧(∀y,y ∈ st↔∃x ∈ (ooAt t op).outcomes,efc t.facts s x=y)∧st.length≤4∧w.length=st.length∧forR 0 ((ooAt t op).outcomes.length:Int) (L7 ((ooAt t op).outcomes.map (efc t.facts s)) st (ooAt t op)) (List.replicate st.length 0)=some w:=by
 have ho:=ht.at h0 h1
 have hl:=ho.l1
 unfold F3
 rw[ix_oo h0 h1]
 simp only[oB]
 rw[results1 ho ht.n1 hs]
 simp only[oB]
 rw[cloneLL_eq (by simp;omega)]
 simp only[oB]
 obtain⟨st,n1,n2,n3,n4⟩:=ar1 (l:=(ooAt t op).outcomes.map (efc t.facts s)) (by simp;omega)
 have n4':st.length≤4:=by rw[List.length_map] at n4;omega
 have hm:mkL 8 (st.length:Int) (0:Int)=some (List.replicate st.length 0):=by
  rw[mkL,if_pos (by omega)];simp
 obtain⟨w,w1,w2⟩:=w8 (body:=L7 ((ooAt t op).outcomes.map (efc t.facts s)) st (ooAt t op)) (n:=((ooAt t op).outcomes.length:Int)) (s:=List.replicate st.length 0) (fun j c=>c.length=st.length) (by omega) (by simp) (fun j c j0 j1 hP=>by
  obtain⟨x,hx,gx⟩:=g9 (l:=(ooAt t op).outcomes) j0 j1
  have hmem:efc t.facts s x ∈ st:=(n3 _).2 (List.mem_map.2 ⟨x,k7 hx,rfl⟩)
  obtain⟨i,e1,e2,e3⟩:=bsets_eq (t:=efc t.facts s x) n2 (by omega)
  obtain⟨k,k0,k1,hk⟩:=o7 hmem
  have:=e3 k hk
  subst this
  obtain⟨z,hz,gz⟩:=g9 (l:=c) (i:=k) k0 (by omega)
  unfold L7
  rw[hx,ix_map,hx]
  simp only[oB,Option.map_some,e1,hz]
  exact⟨_,rfl,by rw[lS];exact hP⟩)
 rw[n1]
 simp only[oB,hm,w1]
 exact⟨st,w,rfl,n2,fun y=>by rw[n3,List.mem_map],n4',w2,w1⟩
/-! ### The coin -/
end Ab
end
section
namespace Ab
open Go
noncomputable def chO(p:List d9)(s:Li):Int:=(ak3 p s).getD (-1)
theorem ai6{t:d4}{p:List d9}(hp:K0 t p)(s:Li):J6 p s=some (chO p s)∧(chO p s= -1∨(0≤chO p s∧chO p s<t.operators.length∧oCan t s (chO p s))):=by
 obtain⟨r,h1,h2,h3⟩:=chosen_eq hp s
 have:chO p s=r:=by rw[chO,h2];rfl
 rw[this]
 exact⟨h1,h3⟩
theorem ifOr{a b:Prop}:(if dec a=true then some true else some (dec b))=some (dec (a∨b)):=by
 by_cases h:a
 ·rw[ifP h,l9 (.inl h)]
 ·rw[ifN h];exact congrArg some (z2 ⟨.inr,fun g=>g.resolve_left h⟩)
end Ab
end
section
namespace Ab
open Go
def dzO(o:i5)(x:n5):s9:=⟨o.pre,x.add,x.del,o.cost⟩
structure Dz(t:d4)(a k:Int)(c:List (Int×Int))(d:List s9):Prop where
 len:c.length=d.length
 most:(c.length:Int)≤4 * a+k
 each:∀i p,ix c i=some p→(0≤p.1∧p.1<t.operators.length)∧∃x ∈ (ooAt t p.1).outcomes,ix d i=some (dzO (ooAt t p.1) x)
 all:∀(b m:Int) (x:n5),0≤b→b<t.operators.length→ix (ooAt t b).outcomes m=some x→(b<a∨b=a∧m<k)→∃i,ix c i=some (b,m)∧ix d i=some (dzO (ooAt t b) x)
theorem dz2{t:d4}(ht:n7 t){a:Int}(h0:0≤a)(h1:a<t.operators.length){k:Int}{x:n5}(hx:ix (ooAt t a).outcomes k=some x)(c:List (Int×Int))(d:List s9):I7 a (ooAt t a) k (c,d)=Option.bind (app 80 d [dzO (ooAt t a) x]) fun a59=>Option.bind (app 16 c [(a,k)]) fun a66=>some (a66,a59):=by
 have ho:=ht.at h0 h1
 have hn:=ht.n1
 have:=ho.pre.len;have:=(ho.xs x (k7 hx)).1.1.len;have:=(ho.xs x (k7 hx)).1.2.1.len
 unfold I7
 dsimp only
 rw[hx]
 simp only[oB]
 rw[T8 (by omega),T8 (by omega),T8 (by omega)]
 rfl
theorem dz_put{t:d4}{a k:Int}{x:n5}(h0:0≤a)(h1:a<t.operators.length)(hx:ix (ooAt t a).outcomes k=some x){c:List (Int×Int)}{d:List s9}(h:Dz t a k c d):Dz t a (k+1) (c++[(a,k)]) (d++[dzO (ooAt t a) x]):=by
 have old:∀{α:Type} {l:List α} {y z:α} {i:Int},ix l i=some y→ix (l++[z]) i=some y:=fun {α l y z i} hi=>by
  obtain⟨i0,i1,g⟩:=k8 hi
  rw[ix,if_pos i0,List.getElem?_append_left (by omega),g]
 have new:∀{α:Type} {l:List α} {z:α},ix (l++[z]) (l.length:Int)=some z:=fun {α l z}=>by rw[N3];simp
 refine⟨by simp[h.len],by have:=h.most;simp;omega,fun i p hi=> ?_,fun b m y b0 b1 hy hlt=> ?_⟩
 ·have ilo:=(k8 hi)
  by_cases e:i<c.length
  ·have:ix c i=some p:=by
    obtain⟨i0,i1,g⟩:=ilo
    rw[List.getElem?_append_left (by omega)] at g
    rw[ix,if_pos i0,g]
   obtain⟨g1,y,g2,g3⟩:=h.each i p this
   exact⟨g1,y,g2,old g3⟩
  ·have:i=(c.length:Int):=by have:=ilo.2.1;simp at this;omega
   subst this
   rw[new] at hi
   cases hi
   exact⟨⟨h0,h1⟩,x,k7 hx,by rw[h.len];exact new⟩
 ·by_cases e:b=a∧m=k
  ·obtain⟨rfl,rfl⟩:=e
   rw[hx] at hy;cases hy
   exact⟨(c.length:Int),new,by rw[h.len];exact new⟩
  ·obtain⟨i,g1,g2⟩:=h.all b m y b0 b1 hy (by omega)
   exact⟨i,old g1,old g2⟩
theorem dz_all{t:d4}(ht:n7 t):∃c d,forR 0 (t.operators.length:Int) (F0 t) ([],[])=some (c,d)∧Dz t t.operators.length 0 c d:=by
 have hops:=ht.ops
 obtain⟨⟨c,d⟩,r1,r2⟩:=w8 (body:=F0 t) (n:=(t.operators.length:Int)) (s:=([],[])) (fun a q=>Dz t a 0 q.1 q.2) (by omega) ⟨rfl,by simp,fun i p hi=>by simp[ix] at hi,fun b m x b0 _ hx hlt=>by have:=(k8 hx).1;omega⟩ (fun a ⟨c,d⟩ h0 h1 hP=>by
  dsimp only at hP
  have ho:=ht.at h0 h1
  have hl:=ho.l1
  unfold F0
  dsimp only
  rw[ix_oo h0 h1]
  simp only[oB]
  obtain⟨⟨c',d'⟩,q1,q2⟩:=w8 (body:=I7 a (ooAt t a)) (n:=((ooAt t a).outcomes.length:Int)) (s:=(c,d)) (fun k q=>Dz t a k q.1 q.2) (by omega) hP (fun k ⟨c,d⟩ k0 k1 hP=>by
   dsimp only at hP
   obtain⟨x,hx,_⟩:=g9 (l:=(ooAt t a).outcomes) k0 k1
   rw[dz2 ht h0 h1 hx]
   have:=hP.most;have:=hP.len
   rw[app,if_pos (by simp;omega)]
   simp only[oB]
   rw[app,if_pos (by simp;omega)]
   exact⟨_,rfl,dz_put h0 h1 hx hP⟩)
  rw[q1]
  refine⟨_,rfl,?_⟩
  dsimp only at q2 ⊢
  refine⟨q2.len,by have:=q2.most;omega,q2.each,fun b m x b0 b1 hx hlt=>q2.all b m x b0 b1 hx ?_⟩
  by_cases e:b=a
  ·subst e;exact .inr ⟨rfl,(k8 hx).2.1⟩
  ·have:=(k8 hx).1
   exact .inl (by omega))
 exact⟨c,d,r1,r2⟩
theorem determinize_ok{t:d4}(ht:n7 t):∃c d,forR 0 (t.operators.length:Int) (F0 t) ([],[])=some (c,d)∧Dz t t.operators.length 0 c d∧F7 t=if 40<(c.length:Int) then some (⟨0,[],[],[]⟩,[],⟨10, -1⟩) else some (⟨t.facts,t.init,t.goal,d⟩,c,⟨0,0⟩):=by
 obtain⟨f,h1,_,h3⟩:=ah4 t
 rcases h3 with⟨rfl,_⟩|⟨_,hn⟩
 ·obtain⟨c,d,r1,r2⟩:=dz_all ht
  refine⟨c,d,r1,r2,?_⟩
  have:=ht.init.len;have:=ht.goal.len;have:=ht.n1
  unfold F7
  rw[h1]
  simp only[oB]
  rw[if_neg (by simp),T8 (by omega),T8 (by omega),r1]
  rfl
 ·exact absurd ht hn
theorem determinize_bad{t:d4}{f:k6}(hv:D2 t=some f)(hc:f.code ≠ 0):F7 t=some (⟨0,[],[],[]⟩,[],f):=by
 unfold F7
 rw[hv]
 simp only[oB]
 rw[if_pos (au9 hc)]
end Ab
end
section
namespace Ab
open Go
def dg(x:Int):Li:=if x<10 then [48+x] else [48+x / 10,48+x % 10]
def encS(s:Li):Li:=s.flatMap (fun x=>dg x++[44])++[59]
def encK(l:LL):Li:=l.flatMap encS
def small(s:Li):Prop:=∀x ∈ s,0≤x∧x<100
theorem dg_split{x y:Int}(hx:0≤x∧x<100)(hy:0≤y∧y<100){r r':Li}(h:dg x++44::r=dg y++44::r'):x=y∧r=r':=by
 unfold dg at h
 split at h<;>split at h<;>simp only[List.cons_append,List.nil_append,List.cons.injEq] at h
 ·exact⟨by omega,h.2.2⟩
 ·exfalso;omega
 ·exfalso;omega
 ·exact⟨by omega,h.2.2.2⟩
theorem dg_head{x:Int}(hx:0≤x∧x<100):∃a l,dg x=a::l∧48≤a∧a<58:=by
 unfold dg
 split
 ·exact⟨_,_,rfl,by omega,by omega⟩
 ·exact⟨_,_,rfl,by omega,by omega⟩
theorem ak7(x:Int)(s:Li):encS (x::s)=dg x++44::encS s:=by simp[encS]
theorem encS_inj:∀{s s' r r':Li},small s→small s'→encS s++r=encS s'++r'→s=s'∧r=r'
 |[],[],r,r',_,_,h=>by simp[encS] at h;exact⟨rfl,h⟩
 |[],y::s',r,r',_,h2,h=>by
  obtain⟨a,l,ha,h3,h4⟩:=dg_head (h2 y (by simp))
  rw[ak7,ha] at h
  simp only[encS,List.flatMap_nil,List.nil_append,List.cons_append,List.cons.injEq] at h
  omega
 |x::s,[],r,r',h1,_,h=>by
  obtain⟨a,l,ha,h3,h4⟩:=dg_head (h1 x (by simp))
  rw[ak7,ha] at h
  simp only[encS,List.flatMap_nil,List.nil_append,List.cons_append,List.cons.injEq] at h
  omega
 |x::s,y::s',r,r',h1,h2,h=>by
  rw[ak7,ak7,List.append_assoc,List.append_assoc,List.cons_append,List.cons_append] at h
  obtain⟨rfl,g⟩:=dg_split (h1 x (by simp)) (h2 y (by simp)) h
  obtain⟨e1,e2⟩:=encS_inj (s:=s) (s':=s') (fun z hz=>h1 z (List.mem_cons_of_mem _ hz)) (fun z hz=>h2 z (List.mem_cons_of_mem _ hz)) g
  exact⟨by rw[e1],e2⟩
theorem encK_inj:∀{l l':LL},(∀s ∈ l,small s)→(∀s ∈ l',small s)→encK l=encK l'→l=l'
 |[],[],_,_,_=>rfl
 |[],s::l',_,_,h=>by
  have h:=congrArg List.length h
  simp only[encK,encS,List.flatMap_nil,List.flatMap_cons,List.length_append,List.length_nil,List.length_cons] at h
  omega
 |s::l,[],_,_,h=>by
  have h:=congrArg List.length h
  simp only[encK,encS,List.flatMap_nil,List.flatMap_cons,List.length_append,List.length_nil,List.length_cons] at h
  omega
 |s::l,s'::l',h1,h2,h=>by
  have h:encS s++encK l=encS s'++encK l':=h
  obtain⟨e1,e2⟩:=encS_inj (h1 s (List.mem_cons_self ..)) (h2 s' (List.mem_cons_self ..)) h
  have e3:=encK_inj (l:=l) (l':=l') (fun z hz=>h1 z (List.mem_cons_of_mem _ hz)) (fun z hz=>h2 z (List.mem_cons_of_mem _ hz)) e2
  rw[e1,e3]
theorem dg_byte{x:Int}(hx:0≤x∧x<100):∀a ∈ dg x,0≤a∧a<256:=by
 intro a ha
 unfold dg at ha
 split at ha<;>simp at ha<;>omega
theorem encS_byte{s:Li}(h:small s):∀a ∈ encS s,0≤a∧a<256:=by
 intro a ha
 simp only[encS,List.mem_append,List.mem_flatMap,List.mem_singleton] at ha
 rcases ha with⟨x,hx,h1|h1⟩|h1
 ·exact dg_byte (h x hx) a h1
 ·omega
 ·omega
theorem encK_byte{l:LL}(h:∀s ∈ l,small s):∀a ∈ encK l,0≤a∧a<256:=by
 intro a ha
 simp only[encK,List.mem_flatMap] at ha
 obtain⟨s,hs,h1⟩:=ha
 exact encS_byte (h s hs) a h1
theorem strB_inj{l l':Li}(h1:∀a ∈ l,0≤a∧a<256)(h2:∀a ∈ l',0≤a∧a<256)(h:strB l=strB l'):l=l':=by
 have h3:l.map (fun n=>UInt8.ofNat n.toNat)=l'.map (fun n=>UInt8.ofNat n.toNat):=by
  have:=congrArg ByteArray.data h
  simpa[strB] using this
 have back:∀{m:Li},(∀a ∈ m,0≤a∧a<256)→(m.map (fun n=>UInt8.ofNat n.toNat)).map (fun b=>(b.toNat:Int))=m:=by
  intro m hm
  rw[List.map_map]
  conv=>rhs;rw[← List.map_id m]
  apply List.map_congr_left
  intro a ha
  have:=hm a ha
  simp only[Function.comp_apply,id_eq,UInt8.toNat_ofNat']
  omega
 rw[← back h1,← back h2,h3]
def keyK(l:LL):ByteArray:=strB (encK l)
theorem keyK_inj{l l':LL}(h1:∀s ∈ l,small s)(h2:∀s ∈ l',small s)(h:keyK l=keyK l'):l=l':=encK_inj h1 h2 (strB_inj (encK_byte h1) (encK_byte h2) h)
/-! ### Maps -/
theorem D0{K V:Type}[DecidableEq K](k k':K)(v:V):∀m:List (K×V),mget (mset m k v) k'=if k'=k then some v else mget m k'
 |[]=>by
  simp only[mset,mget]
 |p::r=>by
  simp only[mset]
  by_cases h:k=p.1
  ·rw[if_pos h]
   simp only[mget]
   by_cases h2:k'=k
   ·rw[if_pos h2,if_pos h2]
   ·rw[if_neg h2,if_neg h2,if_neg (by rw[← h];exact h2)]
  ·rw[if_neg h]
   simp only[mget]
   rw[D0 k k' v r]
   by_cases h2:k'=p.1
   ·rw[if_pos h2,if_pos h2,if_neg (fun e=>h (e.symm.trans h2))]
   ·rw[if_neg h2,if_neg h2]
end Ab
end
section
namespace Ab
open Go
theorem ax1{α β:Type}{l:List α}{body:Int→List β→Option (List β)}(g:α→List β)(N:Nat)(c0:List β)
  (hb:∀j a c,ix l j=some a→c.length+(g a).length≤N→body j c=some (c++g a)) (hN:c0.length+(l.flatMap g).length≤N):
  forR 0 (l.length:Int) body c0=some (c0++l.flatMap g):=by
 obtain⟨s',h1,h2⟩:=w8 (body:=body) (n:=(l.length:Int)) (s:=c0) (fun j c=>c=c0++(l.take j.toNat).flatMap g) (by omega) (by simp) (fun j c h0 h1 hP=>by
  obtain⟨a,g1,g2⟩:=g9 h0 h1
  have e:(j+1).toNat=j.toNat+1:=by omega
  have ht:l.take (j+1).toNat=l.take j.toNat++[a]:=by rw[e,List.take_add_one,g2];rfl
  refine⟨c++g a,hb j a c g1 ?_,?_⟩
  ·have hs:l=l.take j.toNat++[a]++l.drop (j+1).toNat:=by rw[← ht,List.take_append_drop]
   have hl:(l.flatMap g).length=((l.take j.toNat).flatMap g).length+(g a).length+((l.drop (j+1).toNat).flatMap g).length:=by
    conv=>lhs;rw[hs]
    simp[List.flatMap_append];omega
   rw[hP,List.length_append];omega
  ·rw[ht,List.flatMap_append,hP];simp)
 rw[h1,h2]
 simp
theorem small_eq:∀n:Fin 100,(internal_strconv_small (n:Nat)).map strL=some (dg (n:Nat)):=by decide+kernel
theorem appendInt_eq{x:Int}(hx:0≤x∧x<100){l:Li}(hl:l.length≤1000000):E0 x 10 l=some (l++dg x):=by
 have h:=small_eq ⟨x.toNat,by omega⟩
 rw[show(((⟨x.toNat,by omega⟩:Fin 100):Nat):Int)=x by simp;omega] at h
 obtain⟨b,h1,h2⟩:=oM.1 h
 first
  |unfold E0 C6 C0
  |unfold E0 internal_strconv_AppendInt_w2 internal_strconv_AppendUint_w3
 rw[if_neg (by omega),IntKind.wrap_u64,Int.emod_eq_of_lt (by omega) (by omega)]
 simp only[oB,if_true]
 rw[if_pos hx.2,y6 (by omega) (by omega),h1]
 simp only[oB,h2]
 have:(dg x).length≤2:=by unfold dg;split<;>simp
 rw[app,if_pos (by omega)]
 rfl
theorem dg_len(x:Int):(dg x).length≤2:=by unfold dg;split<;>simp
theorem key_eq{l:LL}(hs:∀s ∈ l,small s)(hN:(encK l).length≤900000):V8 l=some (keyK l):=by
 unfold V8
 rw[ax1 encS 900000 [] (fun j s c hj hc=>by
  unfold al6
  rw[hj]
  simp only[oB]
  have hlen:(encS s).length=(s.flatMap fun x=>dg x++[44]).length+1:=by simp[encS]
  rw[ax1 (fun x=>dg x++[44]) 900000 c (fun i x c' hi hc'=>by
   unfold am1
   rw[hi]
   simp only[List.length_append,List.length_singleton] at hc'
   simp only[oB,appendInt_eq (hs s (k7 hj) x (k7 hi)) (l:=c') (by omega)]
   rw[app,if_pos (by simp;omega)]
   simp) (by omega)]
  simp only[oB]
  rw[app,if_pos (by rw[List.length_append];simp only[List.length_singleton];omega)]
  simp[encS]) (by simpa[encK] using hN)]
 rfl
theorem encS_len:∀s:Li,(encS s).length≤3 * s.length+1
 |[]=>by simp[encS]
 |x::s=>by
  have:=encS_len s
  have:=dg_len x
  rw[ak7]
  simp only[List.length_append,List.length_cons]
  omega
end Ab
end
section
namespace Ab
open Go
/-! ### Loops side by side -/
theorem rngN_sim{S1 S2 O1 O2:Type}{b1:Int→S1→Option (S1⊕O1)}{b2:Int→S2→Option (S2⊕O2)}(R:Int→S1→S2→Prop)(Q:O1→O2→Prop):∀(k:Nat) (i:Int) (s1:S1) (s2:S2),R i s1 s2→
  (∀j s1 s2,i≤j→j<i+k→R j s1 s2→(∃t1 t2,b1 j s1=some (.inl t1)∧b2 j s2=some (.inl t2)∧R (j+1) t1 t2)∨∃o1 o2,b1 j s1=some (.inr o1)∧b2 j s2=some (.inr o2)∧Q o1 o2)→
  (∃t1 t2,rngN b1 k i s1=some (.inl t1)∧rngN b2 k i s2=some (.inl t2)∧R (i+k) t1 t2)∨∃o1 o2,rngN b1 k i s1=some (.inr o1)∧rngN b2 k i s2=some (.inr o2)∧Q o1 o2
 |0,i,s1,s2,h,_=>.inl ⟨s1,s2,rfl,rfl,by simpa using h⟩
 |k+1,i,s1,s2,h,hb=>by
  rcases hb i s1 s2 (Int.le_refl _) (by omega) h with⟨t1,t2,h1,h2,h3⟩|⟨o1,o2,h1,h2,h3⟩
  ·rcases rngN_sim R Q k (i+1) t1 t2 h3 (fun j s1 s2 g1 g2=>hb j s1 s2 (by omega) (by omega)) with⟨u1,u2,g1,g2,g3⟩|⟨o1,o2,g1,g2,g3⟩
   ·exact .inl ⟨u1,u2,by simp only[rngN,h1];exact g1,by simp only[rngN,h2];exact g2,by rw[show i+((k+1:Nat):Int)=i+1+k by omega];exact g3⟩
   ·exact .inr ⟨o1,o2,by simp only[rngN,h1];exact g1,by simp only[rngN,h2];exact g2,g3⟩
  ·exact .inr ⟨o1,o2,by simp only[rngN,h1],by simp only[rngN,h2],h3⟩
theorem rngX_sim{S1 S2 O1 O2:Type}{b1:Int→S1→Option (S1⊕O1)}{b2:Int→S2→Option (S2⊕O2)}{n:Int}(R:Int→S1→S2→Prop)(Q:O1→O2→Prop){s1:S1}{s2:S2}(hn:0≤n)(h0:R 0 s1 s2)
  (hb:∀j s1 s2,0≤j→j<n→R j s1 s2→(∃t1 t2,b1 j s1=some (.inl t1)∧b2 j s2=some (.inl t2)∧R (j+1) t1 t2)∨∃o1 o2,b1 j s1=some (.inr o1)∧b2 j s2=some (.inr o2)∧Q o1 o2):
  (∃t1 t2,rngX 0 n b1 s1=some (.inl t1)∧rngX 0 n b2 s2=some (.inl t2)∧R n t1 t2)∨∃o1 o2,rngX 0 n b1 s1=some (.inr o1)∧rngX 0 n b2 s2=some (.inr o2)∧Q o1 o2:=by
 rcases rngN_sim R Q (n - 0).toNat 0 s1 s2 h0 (fun j s1 s2 g1 g2=>hb j s1 s2 g1 (by omega)) with⟨t1,t2,h1,h2,h3⟩|h
 ·exact .inl ⟨t1,t2,h1,h2,by rwa [show(0:Int)+((n - 0).toNat:Int)=n by omega] at h3⟩
 ·exact .inr h
theorem Loop_sim{S1 S2 O1 O2:Type}{b1:S1→Option (S1⊕O1)}{b2:S2→Option (S2⊕O2)}(R:S1→S2→Prop)(Q:O1→O2→Prop)(μ:S1→Nat)
  (hb:∀s1 s2,R s1 s2→(∃t1 t2,b1 s1=some (.inl t1)∧b2 s2=some (.inl t2)∧R t1 t2∧μ t1<μ s1)∨∃o1 o2,b1 s1=some (.inr o1)∧b2 s2=some (.inr o2)∧Q o1 o2):
  ∀(k:Nat) (s1:S1) (s2:S2),μ s1<k→R s1 s2→∃o1 o2,Loop b1 s1=some o1∧Loop b2 s2=some o2∧Q o1 o2
 |0,_,_,h,_=>by omega
 |k+1,s1,s2,h,hs=>by
  rcases hb s1 s2 hs with⟨t1,t2,h1,h2,h3,h4⟩|⟨o1,o2,h1,h2,h3⟩
  ·obtain⟨o1,o2,g1,g2,g3⟩:=Loop_sim R Q μ hb k t1 t2 (by omega) h3
   exact⟨o1,o2,by rw[M3,h1];exact g1,by rw[M3,h2];exact g2,g3⟩
  ·exact⟨o1,o2,by rw[M3,h1],by rw[M3,h2],h3⟩
theorem SetN.small{s:Li}{n:Int}(h:SetN s n)(hn:n≤24):small s:=fun x hx=>by have:=h.2 x hx;omega
theorem key1_eq{s:Li}(hs:small s)(h1:s.length≤1000):V8 [s]=some (keyK [s]):=by
 refine key_eq (by simpa using hs) ?_
 have:=encS_len s
 simp only[encK,List.flatMap_cons,List.flatMap_nil,List.length_append,List.append_nil]
 omega
theorem SetN.key_inj{s s':Li}{n:Int}(hn:n≤24)(h:SetN s n)(h':SetN s' n)(e:keyK [s]=keyK [s']):s=s':=by
 have:=keyK_inj (l:=[s]) (l':=[s']) (by simpa using h.small hn) (by simpa using h'.small hn) e
 simpa using this
theorem oAfter_eq{t:d4}(ht:n7 t){op:Int}(h0:0≤op)(h1:op<t.operators.length){s:Li}(hs:SetN s t.facts):au7 t s op=F3 t s op:=by
 obtain⟨st,w,r1,r2,r3,r4,r5,r6⟩:=T9 ht h0 h1 hs
 have ho:=ht.at h0 h1
 have hl:=ho.l1
 have hn:=ht.n1
 rw[r1]
 unfold au7
 rw[ix_oo h0 h1]
 simp only[oB]
 obtain⟨l,a1,a2,a3,a4,a5⟩:=w8 (body:=am0 t s (ooAt t op)) (n:=((ooAt t op).outcomes.length:Int)) (s:=[]) (fun j l=>Ord l∧(l.length:Int)≤j∧(∀y ∈ l,y.length≤24)∧∀y,y ∈ l↔∃k x,k<j∧ix (ooAt t op).outcomes k=some x∧efc t.facts s x=y) (by omega) ⟨.nil,by simp,by simp,fun y=>⟨fun h=>by(cases h),fun⟨k,x,k1,k2,_⟩=>by have:=(k8 k2).1;omega⟩⟩ (fun j l j0 j1 ⟨p1,p2,p3,p4⟩=>by
  obtain⟨x,hx,_⟩:=g9 (l:=(ooAt t op).outcomes) j0 j1
  unfold am0
  rw[hx]
  simp only[oB,effect_eq ht]
  obtain⟨l',m1,m2,m3,m4⟩:=insert_eq p1 (by omega) (fun y hy=>by have:=p3 y hy;omega) (efc t.facts s x)
  rw[m1]
  have e24:=(av3 t.facts s x).len
  refine⟨l',rfl,m2,by omega,fun y hy=> ?_,fun y=> ?_⟩
  ·rcases(m3 y).1 hy with rfl|h
   ·omega
   ·exact p3 y h
  ·rw[m3,p4]
   constructor
   ·rintro (rfl|⟨k,x',k1,k2⟩)
    ·exact⟨j,x,by omega,hx,rfl⟩
    ·exact⟨k,x',by omega,k2⟩
   ·rintro ⟨k,x',k1,k2,k3⟩
    by_cases ek:k=j
    ·subst ek
     rw[hx] at k2;cases k2
     exact .inl k3.symm
    ·exact .inr ⟨k,x',by omega,k2,k3⟩)
 have hst:l=st:=Ord.ext a2 r2 fun y=>by
  rw[a5,r3]
  constructor
  ·rintro ⟨k,x,_,k2,k3⟩;exact⟨x,k7 k2,k3⟩
  ·rintro ⟨x,hx,k3⟩
   obtain⟨k,k0,k1,k2⟩:=o7 hx
   exact⟨k,x,k1,k2,k3⟩
 subst hst
 have hm:mkL 8 (l.length:Int) (0:Int)=some (List.replicate l.length 0):=by
  rw[mkL,if_pos (by omega)];simp
 rw[a1]
 simp only[oB,hm]
 have e:forR 0 ((ooAt t op).outcomes.length:Int) (al8 t s (ooAt t op) l) (List.replicate l.length 0)=some w:=by
  rw[← r6]
  refine forR_congr fun j c j0 j1=> ?_
  obtain⟨x,hx,_⟩:=g9 (l:=(ooAt t op).outcomes) j0 j1
  obtain⟨i,e1,e2,e3⟩:=bsets_eq (t:=efc t.facts s x) r2 (by omega)
  obtain⟨r,g1,g2⟩:=place_eq l (efc t.facts s x)
  unfold al8 L7
  rw[hx,ix_map,hx]
  simp only[oB,Option.map_some,effect_eq ht,e1,g1]
  rcases g2 with⟨_,h⟩|⟨_,_,h,_⟩
  ·exact absurd ((r3 _).2 ⟨x,k7 hx,rfl⟩) h
  ·rw[e3 r h]
 rw[e]
 rfl
end Ab
end
section
namespace Ab
open Go
def Ext(a b:LL):Prop:=∀k y,ix a k=some y→ix b k=some y
theorem Ext.refl(a:LL):Ext a a:=fun _ _ h=>h
theorem Ext.mem{a b:LL}(h:Ext a b){y:Li}(hy:y ∈ a):y ∈ b:=by
 obtain⟨k,_,_,hk⟩:=o7 hy
 exact k7 (h k y hk)
theorem Ext.snoc{a b:LL}(h:Ext a b)(z:Li):Ext a (b++[z]):=fun k y hk=>by
 obtain⟨i0,i1,g⟩:=k8 (h k y hk)
 rw[ix,if_pos i0,List.getElem?_append_left (by omega),g]
theorem Ext.len{a b:LL}(h:Ext a b):a.length≤b.length:=by
 by_cases c:a.length=0
 ·omega
 ·obtain⟨y,hy,_⟩:=g9 (l:=a) (i:=(a.length:Int) - 1) (by omega) (by omega)
  have:=(k8 (h _ y hy)).2.1
  omega
structure Rc(t:d4)(l:LL)(m:List (ByteArray×Int))(ws:Li):Prop where
 set:∀s ∈ l,SetN s t.facts
 len:l.length≤2000
 map:∀s,SetN s t.facts→(0<Option.getD (mget m (keyK [s])) 0↔s ∈ l)
 wrd:ws=l.map fun s=>(wsN s:Int)
theorem Rc.has{t:d4}{l:LL}{m:List (ByteArray×Int)}{ws:Li}(h:Rc t l m ws){s:Li}(hs:SetN s t.facts):(wsN s:Int) ∈ ws↔s ∈ l:=by
 rw[h.wrd,List.mem_map]
 constructor
 ·rintro ⟨a,ha,e⟩
  have:a=s:=(h.set a ha).word_inj hs (by omega)
  exact this ▸ ha
 ·intro hm;exact⟨s,hm,rfl⟩
theorem Rc.put{t:d4}(hn:t.facts≤24){l:LL}{m:List (ByteArray×Int)}{ws:Li}(h:Rc t l m ws){s:Li}(hs:SetN s t.facts)(hl:l.length<2000):Rc t (l++[s]) (mset m (keyK [s]) 1) (ws++[(wsN s:Int)]):=by
 refine⟨fun y hy=> ?_,by simp;omega,fun y hy=> ?_,by rw[h.wrd];simp⟩
 ·rcases List.mem_append.1 hy with g|g
  ·exact h.set y g
  ·simp only[List.mem_singleton] at g;subst g;exact hs
 ·rw[D0,List.mem_append,List.mem_singleton]
  by_cases e:keyK [y]=keyK [s]
  ·have:=SetN.key_inj hn hy hs e
   subst this
   rw[if_pos rfl]
   simp
  ·rw[if_neg e,h.map y hy]
   constructor
   ·exact .inl
   ·rintro (g|g)
    ·exact g
    ·exact absurd (by rw[g]) e
theorem reach4{t:d4}(ht:n7 t){st:LL}{w:Li}(hst:∀y ∈ st,SetN y t.facts){l0:LL}{m0:List (ByteArray×Int)}{ws0:Li}(h0:Rc t l0 m0 ws0):
  (∃p q,rngX 0 (st.length:Int) (I3 (st,w)) (l0,m0)=some (.inl p)∧rngX 0 (st.length:Int) (T5 2000 (st,w)) (l0,ws0)=some (.inl q)∧q.1=p.1∧Rc t p.1 p.2 q.2∧Ext l0 p.1∧∀y ∈ st,y ∈ p.1)∨∃o1 o2,rngX 0 (st.length:Int) (I3 (st,w)) (l0,m0)=some (.inr o1)∧rngX 0 (st.length:Int) (T5 2000 (st,w)) (l0,ws0)=some (.inr o2)∧o1=([],false)∧o2=([],false):=by
 have hn:=ht.n1
 rcases rngX_sim (b1:=I3 (st,w)) (b2:=T5 2000 (st,w)) (n:=(st.length:Int)) (s1:=(l0,m0)) (s2:=(l0,ws0)) (fun j p q=>q.1=p.1∧Rc t p.1 p.2 q.2∧Ext l0 p.1∧∀k y,k<j→ix st k=some y→y ∈ p.1) (fun o1 o2=>o1=([],false)∧o2=([],false)) (by omega) ⟨rfl,h0,.refl _,fun k y k0 hk=>by have:=(k8 hk).1;omega⟩ (fun j ⟨l,m⟩ ⟨l',ws⟩ j0 j1 ⟨e,g1,g2,g3⟩=>by
  dsimp only at e g1 g2 g3
  subst e
  obtain⟨y,hy,_⟩:=g9 (l:=st) j0 j1
  have hs:=hst y (k7 hy)
  have hyl:=hs.len
  unfold I3 T5
  dsimp only
  rw[hy]
  simp only[oB]
  rw[key1_eq (hs.small hn) (by omega),word_eq hs hn]
  simp only[oB,has_eq]
  have mono:∀{l2:LL},Ext l' l2→y ∈ l2→∀k z,k<j+1→ix st k=some z→z ∈ l2:=fun h1 h2 k z hk hz=>by
   by_cases ek:k=j
   ·subst ek;rw[hy] at hz;cases hz;exact h2
   ·exact h1.mem (g3 k z (by omega) hz)
  by_cases c:y ∈ l'
  ·rw[if_pos ((g1.map y hs).2 c),ifP ((g1.has hs).2 c)]
   exact .inl ⟨_,_,rfl,rfl,rfl,g1,g2,mono (.refl _) c⟩
  ·rw[if_neg (fun h=>c ((g1.map y hs).1 h)),ifN (fun h=>c ((g1.has hs).1 h))]
   have hlen:=g1.len
   by_cases c2:(l'.length:Int)=2000
   ·rw[if_pos c2,if_pos (by omega)]
    exact .inr ⟨_,_,rfl,rfl,rfl,rfl⟩
   ·rw[if_neg c2,if_neg (by omega),app,if_pos (by simp;omega)]
    simp only[oB]
    rw[app,if_pos (by rw[g1.wrd];simp;omega)]
    exact .inl ⟨_,_,rfl,rfl,rfl,g1.put hn hs (by omega),g2.snoc _,mono ((Ext.refl _).snoc _) (by simp)⟩) with⟨p,q,h1,h2,h3,h4,h5,h6⟩|h
 ·refine .inl ⟨p,q,h1,h2,h3,h4,h5,fun y hy=> ?_⟩
  obtain⟨k,_,k1,hk⟩:=o7 hy
  exact h6 k y k1 hk
 ·exact .inr h
def ClS(t:d4)(l:LL)(s:Li)(n:Int):Prop:=∀op:Int,0≤op→op<n→oCan t s op→∀x ∈ (ooAt t op).outcomes,efc t.facts s x ∈ l
theorem ClS.ext{t:d4}{l l':LL}{s:Li}{n:Int}(h:ClS t l s n)(e:Ext l l'):ClS t l' s n:=fun op h0 h1 hc x hx=>e.mem (h op h0 h1 hc x hx)
theorem reach2{t:d4}(ht:n7 t){l0:LL}{m0:List (ByteArray×Int)}{ws0:Li}(h0:Rc t l0 m0 ws0){at_:Int}{s:Li}(hs:ix l0 at_=some s):
  (∃p q,rngX 0 (t.operators.length:Int) (I2 t at_) (l0,m0)=some (.inl p)∧rngX 0 (t.operators.length:Int) (R1 t 2000 at_) (l0,ws0)=some (.inl q)∧q.1=p.1∧Rc t p.1 p.2 q.2∧Ext l0 p.1∧ClS t p.1 s t.operators.length)∨∃o1 o2,rngX 0 (t.operators.length:Int) (I2 t at_) (l0,m0)=some (.inr o1)∧rngX 0 (t.operators.length:Int) (R1 t 2000 at_) (l0,ws0)=some (.inr o2)∧o1=([],false)∧o2=([],false):=by
 have hset:=h0.set s (k7 hs)
 exact rngX_sim (b1:=I2 t at_) (b2:=R1 t 2000 at_) (n:=(t.operators.length:Int)) (s1:=(l0,m0)) (s2:=(l0,ws0)) (fun j p q=>q.1=p.1∧Rc t p.1 p.2 q.2∧Ext l0 p.1∧ClS t p.1 s j) (fun o1 o2=>o1=([],false)∧o2=([],false)) (by omega) ⟨rfl,h0,.refl _,fun op a b=>by omega⟩ (fun j ⟨l,m⟩ ⟨l',ws⟩ j0 j1 ⟨e,g1,g2,g3⟩=>by
  dsimp only at e g1 g2 g3
  subst e
  unfold I2 R1
  dsimp only
  rw[g2 _ _ hs]
  simp only[oB]
  rw[oCan_eq ht j0 j1 hset,oApplies_eq j0 j1]
  simp only[oB,y8]
  have step:∀{l2:LL},Ext l' l2→(oCan t s j→∀x ∈ (ooAt t j).outcomes,efc t.facts s x ∈ l2)→ClS t l2 s (j+1):=fun h1 h2 op a b hc x hx=>by
   by_cases eo:op=j
   ·subst eo;exact h2 hc x hx
   ·exact h1.mem (g3 op a (by omega) hc x hx)
  by_cases c:oCan t s j
  ·rw[ifNN c,ifNN c,oAfter_eq ht j0 j1 hset]
   obtain⟨st,w,r1,r2,r3,_⟩:=T9 ht j0 j1 hset
   rw[r1]
   simp only[oB]
   rcases reach4 ht (st:=st) (w:=w) (fun y hy=>by
    obtain⟨x,_,rfl⟩:=(r3 y).1 hy
    exact av3 _ _ _) g1 with⟨p,q,h1,h2,h3,h4,h5,h6⟩|⟨o1,o2,h1,h2,h3,h4⟩
   ·rw[h1,h2]
    refine .inl ⟨p,q,rfl,rfl,h3,h4,fun k y hk=>h5 k y (g2 k y hk),step h5 fun _ x hx=>h6 _ ((r3 _).2 ⟨x,hx,rfl⟩)⟩
   ·rw[h1,h2]
    exact .inr ⟨o1,o2,rfl,rfl,h3,h4⟩
  ·rw[ifP c,ifP c]
   exact .inl ⟨_,_,rfl,rfl,rfl,g1,g2,step (.refl _) fun h=>absurd h c⟩)
structure Cl(t:d4)(l:LL):Prop where
 len:l.length≤2000
 set:∀s ∈ l,SetN s t.facts
 init:t.init ∈ l
 closed:∀s ∈ l,ClS t l s t.operators.length
theorem reach_full{t:d4}(ht:n7 t):(∃out,H2 t=some (out,true)∧aa5 t 2000=some (out,true)∧Cl t out∧Ord out∧∃l,Loop (X9 t 2000) ([t.init],[(wsN t.init:Int)],0)=some (.inl l)∧out.length≤l.length)∨(H2 t=some ([],false)∧aa5 t 2000=some ([],false)):=by
 have hn:=ht.n1
 have hi:=ht.init
 have hil:=hi.len
 unfold H2 aa5
 rw[T8 (by omega)]
 simp only[oB]
 rw[key1_eq (hi.small hn) (by omega),word_eq hi hn]
 simp only[oB]
 rw[app,if_pos (by simp)]
 simp only[oB,List.nil_append]
 have r0:Rc t [t.init] (mset ([]:List (ByteArray×Int)) (keyK [t.init]) 1) [(wsN t.init:Int)]:=by
  refine⟨by simpa using hi,by simp,fun s hs=> ?_,rfl⟩
  rw[D0]
  by_cases e:keyK [s]=keyK [t.init]
  ·rw[if_pos e,SetN.key_inj hn hs hi e];simp
  ·rw[if_neg e]
   simp only[mget,List.mem_singleton,Option.getD_none]
   exact⟨fun h=>by omega,fun h=>absurd (by rw[h]) e⟩
 obtain⟨o1,o2,q1,q2,q3⟩:=Loop_sim (b1:=D3 t) (b2:=X9 t 2000) (fun p q=>q.1=p.1∧q.2.2=p.2.2∧Rc t p.1 p.2.1 q.2.1∧0≤p.2.2∧p.2.2≤p.1.length∧t.init ∈ p.1∧∀i s,i<p.2.2→ix p.1 i=some s→ClS t p.1 s t.operators.length) (fun o1 o2=>(∃l,o1=.inl l∧o2=.inl l∧Cl t l)∨(o1=.inr ([],false)∧o2=.inr ([],false))) (fun p=>(2000 - p.2.2).toNat) (fun⟨l,m,a⟩ ⟨l',ws,a'⟩ ⟨e1,e2,g1,g2,g3,g4,g5⟩=>by
  dsimp only at e1 e2 g1 g2 g3 g4 g5
  subst e1 e2
  have hlen:=g1.len
  unfold D3 X9
  dsimp only
  by_cases c:a'<l'.length
  ·rw[if_pos c,if_pos c]
   obtain⟨s,hs,_⟩:=g9 (l:=l') g2 c
   rcases reach2 ht g1 hs with⟨p,q,h1,h2,h3,h4,h5,h6⟩|⟨o1,o2,h1,h2,h3,h4⟩
   ·rw[h1,h2]
    have:=h5.len
    have:=h4.len
    simp only[oB]
    rw[y6 (by omega) (by omega)]
    refine .inl ⟨_,_,rfl,rfl,⟨h3,rfl,h4,by dsimp only;omega,by dsimp only;omega,h5.mem g4,fun i s' hi' hs'=> ?_⟩,by dsimp only;omega⟩
    dsimp only at hi' hs' ⊢
    by_cases ei:i=a'
    ·subst ei
     rw[h5 _ _ hs] at hs';cases hs'
     exact h6
    ·obtain⟨y,hy,_⟩:=g9 (l:=l') (i:=i) (k8 hs').1 (by omega)
     have hy2:=h5 _ _ hy
     rw[hs'] at hy2
     cases hy2
     exact(g5 i s' (by omega) hy).ext h5
   ·rw[h1,h2]
    refine .inr ⟨_,_,rfl,rfl,.inr ⟨by rw[h3],by rw[h4]⟩⟩
  ·rw[if_neg c,if_neg c]
   refine .inr ⟨_,_,rfl,rfl,.inl ⟨l',rfl,rfl,g1.len,g1.set,g4,fun s hs=> ?_⟩⟩
   obtain⟨i,i0,i1,hi⟩:=o7 hs
   exact g5 i s (by omega) hi) _ ([t.init],mset ([]:List (ByteArray×Int)) (keyK [t.init]) 1,0) ([t.init],[(wsN t.init:Int)],0) (Nat.lt_succ_self _) ⟨rfl,rfl,r0,by simp,by simp,by simp,fun i s hi hs=>by have:=(k8 hs).1;dsimp only at hi;omega⟩
 rw[q1,q2]
 rcases q3 with⟨l,rfl,rfl,hc⟩|⟨rfl,rfl⟩
 ·left
  simp only[oB]
  have hcl:=hc.len
  obtain⟨r,n1,n2,n3,n4⟩:=ar1 (l:=l) (by omega)
  rw[n1]
  obtain⟨l',a1,a2,a3,a4,a5⟩:=w8 (body:=ah5 l) (n:=(l.length:Int)) (s:=[]) (fun j l'=>Ord l'∧(l'.length:Int)≤j∧(∀y ∈ l',y.length≤24)∧∀y,y ∈ l'↔∃k,k<j∧ix l k=some y) (by omega) ⟨.nil,by simp,by simp,fun y=>⟨fun h=>by(cases h),fun⟨k,k1,k2⟩=>by have:=(k8 k2).1;omega⟩⟩ (fun j l' j0 j1 ⟨p1,p2,p3,p4⟩=>by
   obtain⟨s,hs,_⟩:=g9 (l:=l) j0 j1
   unfold ah5
   rw[hs]
   simp only[oB]
   obtain⟨l2,m1,m2,m3,m4⟩:=insert_eq p1 (by omega) (fun y hy=>by have:=p3 y hy;omega) s
   rw[m1]
   have e24:=(hc.set s (k7 hs)).len
   refine⟨l2,rfl,m2,by omega,fun y hy=> ?_,fun y=> ?_⟩
   ·rcases(m3 y).1 hy with rfl|h
    ·omega
    ·exact p3 y h
   ·rw[m3,p4]
    constructor
    ·rintro (rfl|⟨k,k1,k2⟩)
     ·exact⟨j,by omega,hs⟩
     ·exact⟨k,by omega,k2⟩
    ·rintro ⟨k,k1,k2⟩
     by_cases ek:k=j
     ·subst ek
      rw[hs] at k2;cases k2
      exact .inl rfl
     ·exact .inr ⟨k,by omega,k2⟩)
  rw[a1]
  have:l'=r:=Ord.ext a2 n2 fun y=>by
   rw[a5,n3]
   constructor
   ·rintro ⟨k,_,k2⟩;exact k7 k2
   ·intro hy
    obtain⟨k,_,k1,hk⟩:=o7 hy
    exact⟨k,k1,hk⟩
  subst this
  refine⟨l',rfl,rfl,⟨by omega,fun s hs=>hc.set s ((n3 s).1 hs),(n3 _).2 hc.init,fun s hs op h0 h1 hcan x hx=>(n3 _).2 (hc.closed s ((n3 s).1 hs) op h0 h1 hcan x hx)⟩,a2,l,rfl,n4⟩
 ·right
  exact⟨rfl,rfl⟩
theorem explore_ok{t:d4}(ht:n7 t):P3 t=(H2 t).bind fun r=>if r.2=true then some (r.1,⟨0,0⟩) else some ([],⟨10, -7⟩):=by
 obtain⟨f,h1,_,h3⟩:=ah4 t
 rcases h3 with⟨rfl,_⟩|⟨_,hn⟩
 ·unfold P3
  rw[h1]
  simp only[oB]
  rw[if_neg (by simp)]
  congr 1
  funext r
  cases r.2<;>rfl
 ·exact absurd ht hn
theorem explore_bad{t:d4}{f:k6}(hv:D2 t=some f)(hc:f.code ≠ 0):P3 t=some ([],f):=by
 unfold P3
 rw[hv]
 simp only[oB]
 rw[if_pos (au9 hc)]
end Ab
end
section
namespace Ab
open Go
theorem af7{α:Type}[DecidableEq α]:∀{c S:List α},c.Nodup→(∀x ∈ c,x ∈ S)→c.length≤S.length
 |[],_,_,_=>Nat.zero_le _
 |a::c,S,h,hs=>by
  obtain⟨h1,h2⟩:=List.nodup_cons.1 h
  have ha:=hs a (by simp)
  have:=af7 (c:=c) (S:=S.erase a) h2 fun x hx=>by
   have hne:x ≠ a:=fun e=>h1 (e ▸ hx)
   exact(List.mem_erase_of_ne hne).2 (hs x (List.mem_cons_of_mem _ hx))
  rw[List.length_erase_of_mem ha] at this
  have:0<S.length:=List.length_pos_of_mem ha
  simp only[List.length_cons]
  omega
section
variable {α:Type}
def Dn(G L:α→Prop)(nx:α→List α):Nat→α→Prop
 |0,s=>G s
 |k+1,s=>G s∨(L s∧∀y ∈ nx s,Dn G L nx k y)
variable {G L:α→Prop} {nx:α→List α}
theorem Dn.goal{k:Nat}{s:α}(h:G s):Dn G L nx k s:=by
 cases k with
 |zero=>exact h
 |succ k=>exact .inl h
theorem Dn.succ:∀{k:Nat} {s:α},Dn G L nx k s→Dn G L nx (k+1) s
 |0,s,h=>.inl h
 |k+1,s,h=>by
  rcases h with h|⟨h1,h2⟩
  ·exact .inl h
  ·exact .inr ⟨h1,fun y hy=>(h2 y hy).succ⟩
theorem Dn.mono{k m:Nat}{s:α}(h:Dn G L nx k s)(hm:k≤m):Dn G L nx m s:=by
 induction hm with
 |refl=>exact h
 |step _ ih=>exact ih.succ
def Ht(G L:α→Prop)(nx:α→List α)(k:Nat)(s:α):Prop:=Dn G L nx k s∧∀j,j<k→¬ Dn G L nx j s
theorem Ht.unique{k m:Nat}{s:α}(h:Ht G L nx k s)(h':Ht G L nx m s):k=m:=by
 rcases Nat.lt_trichotomy k m with c|c|c
 ·exact absurd h.1 (h'.2 k c)
 ·exact c
 ·exact absurd h'.1 (h.2 m c)
theorem Ht.le{k m:Nat}{s:α}(h:Ht G L nx k s)(h':Dn G L nx m s):k≤m:=by
 rcases Nat.lt_or_ge m k with c|c
 ·exact absurd h' (h.2 m c)
 ·exact c
theorem Ht.of_dn:∀{k:Nat} {s:α},Dn G L nx k s→∃m,m≤k∧Ht G L nx m s
 |0,s,h=>⟨0,Nat.le_refl _,h,fun j hj=>by omega⟩
 |k+1,s,h=>by
  by_cases c:Dn G L nx k s
  ·obtain⟨m,h1,h2⟩:=Ht.of_dn c
   exact⟨m,by omega,h2⟩
  ·exact⟨k+1,Nat.le_refl _,h,fun j hj hd=>c (hd.mono (by omega))⟩
theorem Ht.zero{s:α}(h:G s):Ht G L nx 0 s:=⟨h,fun j hj=>by omega⟩
theorem Ht.goal{k:Nat}{s:α}(h:Ht G L nx k s)(hg:G s):k=0:=h.unique (.zero hg)
theorem Ht.step{k:Nat}{s:α}(h:Ht G L nx k s)(hg:¬ G s)(hne:∀s,L s→nx s ≠ []):∃m,k=m+1∧L s∧(∀y ∈ nx s,∃j,j≤m∧Ht G L nx j y)∧∃y ∈ nx s,Ht G L nx m y:=by
 cases k with
 |zero=>exact absurd h.1 hg
 |succ m=>
  rcases h.1 with g|⟨h1,h2⟩
  ·exact absurd g hg
  ·refine⟨m,rfl,h1,fun y hy=>Ht.of_dn (h2 y hy),?_⟩
   cases m with
   |zero=>
    obtain⟨y,hy⟩:=List.exists_mem_of_ne_nil _ (hne s h1)
    exact⟨y,hy,h2 y hy,fun j hj=>by omega⟩
   |succ m=>
    have hn:=h.2 (m+1) (by omega)
    have:∃y ∈ nx s,¬ Dn G L nx m y:=Classical.byContradiction fun hc=>hn (.inr ⟨h1,fun y hy=>Classical.byContradiction fun hy2=>hc ⟨y,hy,hy2⟩⟩)
    obtain⟨y,hy,hy2⟩:=this
    exact⟨y,hy,h2 y hy,fun j hj hd=>hy2 (hd.mono (by omega))⟩
theorem Ht.of_succ{m:Nat}{s:α}(hg:¬ G s)(hL:L s)(h1:∀y ∈ nx s,∃j,j≤m∧Ht G L nx j y)(h2:∃y ∈ nx s,Ht G L nx m y):Ht G L nx (m+1) s:=by
 refine⟨.inr ⟨hL,fun y hy=>by obtain⟨j,hj,h⟩:=h1 y hy;exact h.1.mono hj⟩,fun j hj hd=> ?_⟩
 cases j with
 |zero=>exact hg hd
 |succ j=>
  rcases hd with g|⟨_,hd⟩
  ·exact hg g
  ·obtain⟨y,hy,h⟩:=h2
   have:=h.le (hd y hy)
   omega
theorem Ht.chain[DecidableEq α]{S:List α}(hcl:∀s ∈ S,¬ G s→L s→∀y ∈ nx s,y ∈ S)(hne:∀s,L s→nx s ≠ []):∀{k:Nat} {s:α},Ht G L nx k s→s ∈ S→∃c:List α,c.length=k+1∧c.Nodup∧(∀x ∈ c,x ∈ S)∧∀x ∈ c,∃j,j≤k∧Ht G L nx j x
 |0,s,h,hs=>⟨[s],rfl,by simp,by simpa using hs,fun x hx=>⟨0,Nat.le_refl _,by simp only[List.mem_singleton] at hx;exact hx ▸ h⟩⟩
 |k+1,s,h,hs=>by
  have hg:¬ G s:=fun g=>by have:=h.goal g;omega
  obtain⟨m,e,hL,_,y,hy,hy2⟩:=h.step hg hne
  have:m=k:=by omega
  subst this
  obtain⟨c,c1,c2,c3,c4⟩:=Ht.chain hcl hne hy2 (hcl s hs hg hL y hy)
  refine⟨s::c,by simp[c1],List.nodup_cons.2 ⟨fun hc=> ?_,c2⟩,fun x hx=> ?_,fun x hx=> ?_⟩
  ·obtain⟨j,hj,hj2⟩:=c4 s hc
   have:=hj2.unique h
   omega
  ·rcases List.mem_cons.1 hx with rfl|hx
   ·exact hs
   ·exact c3 x hx
  ·rcases List.mem_cons.1 hx with rfl|hx
   ·exact⟨_,Nat.le_refl _,h⟩
   ·obtain⟨j,hj,hj2⟩:=c4 x hx
    exact⟨j,by omega,hj2⟩
theorem Ht.lt[DecidableEq α]{S:List α}(hcl:∀s ∈ S,¬ G s→L s→∀y ∈ nx s,y ∈ S)(hne:∀s,L s→nx s ≠ []){k:Nat}{s:α}(h:Ht G L nx k s)(hs:s ∈ S):k<S.length:=by
 obtain⟨c,c1,c2,c3,_⟩:=Ht.chain hcl hne h hs
 have:=af7 c2 c3
 omega
end
end Ab
end
section
namespace Ab
open Go
def s6(t:d4)(s:Li):Prop:=∀x ∈ t.goal,x ∈ s
noncomputable def S6(p:List d9)(s:Li):Prop:=0≤chO p s
noncomputable def nxS(t:d4)(p:List d9)(s:Li):LL:=(ooAt t (chO p s)).outcomes.map (efc t.facts s)
inductive Rch(t:d4)(p:List d9):Li→Prop
 |init:Rch t p t.init
 |step {s y:Li}:Rch t p s→¬ s6 t s→S6 p s→y ∈ nxS t p s→Rch t p y
theorem chO_mem{p:List d9}{s:Li}(h:0≤chO p s):∃c ∈ p,c.state=s∧chO p s=c.operator:=by
 obtain⟨r,h1,h2⟩:=an3 p s
 have e:chO p s=r:=by rw[chO,h1];rfl
 rw[e] at h ⊢
 rcases h2 with⟨rfl,_⟩|⟨c,h3,h4,h5⟩
 ·omega
 ·exact⟨c,h3,h4,h5⟩
theorem live_op{t:d4}{p:List d9}(hp:K0 t p){s:Li}(h:S6 p s):(0≤chO p s∧chO p s<t.operators.length)∧oCan t s (chO p s):=by
 obtain⟨_,e⟩:=ai6 hp s
 unfold S6 at h
 rcases e with e|e
 ·omega
 ·exact⟨⟨e.1,e.2.1⟩,e.2.2⟩
theorem Rch.set{t:d4}(ht:n7 t){p:List d9}{s:Li}(h:Rch t p s):SetN s t.facts:=by
 cases h with
 |init=>exact ht.init
 |step _ _ _ hy=>
  obtain⟨x,_,rfl⟩:=List.mem_map.1 hy
  exact av3 _ _ _
noncomputable def candK(t:d4)(p:List d9):LL:=t.init::p.flatMap fun c=>(ooAt t c.operator).outcomes.map (efc t.facts c.state)
theorem flat_len{α β:Type}{f:α→List β}{n:Nat}:∀{l:List α},(∀a ∈ l,(f a).length≤n)→(l.flatMap f).length≤l.length * n
 |[],_=>by simp
 |a::l,h=>by
  have h1:=h a (by simp)
  have h2:=flat_len (l:=l) fun b hb=>h b (List.mem_cons_of_mem _ hb)
  rw[List.flatMap_cons,List.length_append,List.length_cons,Nat.succ_mul]
  omega
theorem candK_len{t:d4}(ht:n7 t){p:List d9}(hp:K0 t p):(candK t p).length≤801:=by
 have h:=flat_len (f:=fun c:d9=>(ooAt t c.operator).outcomes.map (efc t.facts c.state)) (n:=4) (l:=p) fun c hc=>by
  have:=hp.op c hc
  have:=(ht.at this.1 this.2).l1
  simpa using this
 have:=hp.len
 have h2:p.length * 4≤200 * 4:=Nat.mul_le_mul_right _ this
 unfold candK
 rw[List.length_cons]
 omega
theorem Rch.cand{t:d4}{p:List d9}{s:Li}(h:Rch t p s):s ∈ candK t p:=by
 cases h with
 |init=>exact List.mem_cons_self ..
 |@step s y _ _ hl hy=>
  obtain⟨c,h1,h2,h3⟩:=chO_mem hl
  refine List.mem_cons_of_mem _ (List.mem_flatMap.2 ⟨c,h1,?_⟩)
  unfold nxS at hy
  rw[h3] at hy
  rw[h2]
  exact hy
theorem rch_len{t:d4}(ht:n7 t){p:List d9}(hp:K0 t p){l:LL}(hn:l.Nodup)(h:∀s ∈ l,Rch t p s):l.length≤801:=
 Nat.le_trans (af7 hn fun s hs=>(h s hs).cand) (candK_len ht hp)
theorem Ord.nodup{l:LL}(h:Ord l):l.Nodup:=List.Pairwise.imp (fun {a b:Li} (hab:llt a b) (e:a=b)=>K2 a (by rw[← e] at hab;exact hab)) h
def ClV(t:d4)(p:List d9)(l:LL)(s:Li):Prop:=¬ s6 t s→S6 p s→∀y ∈ nxS t p s,y ∈ l
structure Vis(t:d4)(p:List d9)(l:LL):Prop where
 ord:Ord l
 mem:∀s,s ∈ l↔Rch t p s
theorem vis_of{t:d4}{p:List d9}{l:LL}(ho:Ord l)(hi:t.init ∈ l)(hr:∀s ∈ l,Rch t p s)(hc:∀s ∈ l,ClV t p l s):Vis t p l:=by
 refine⟨ho,fun s=>⟨hr s,fun h=> ?_⟩⟩
 induction h with
 |init=>exact hi
 |step _ hg hl hy ih=>exact hc _ ih hg hl _ hy
theorem containsLL_eq{l:LL}{s:Li}:C1 l (fun y=>P0 y s)=some (dec (s ∈ l)):=by
 unfold C1 J8
 rcases E6 (body:=G4 l fun y=>P0 y s) (n:=(l.length:Int)) (fun j=>if dec (ix l j=some s)=true then some j else none) (by omega) (fun j h0 h1 _=>by
  obtain⟨x,hx,_⟩:=g9 (l:=l) h0 h1
  unfold G4 P0
  rw[hx]
  simp only[oB,equal_eq]
  by_cases e:x=s
  ·rw[ifP e,ifP (by rw[e])]
  ·rw[ifN e,ifN (by simpa using e)]) with⟨h1,h2⟩|⟨j,o,h0,h1,h2,h3,h4⟩
 ·rw[h1]
  simp only[oB]
  rw[x7]
  ·rfl
  ·intro hs
   obtain⟨i,i0,i1,hi⟩:=o7 hs
   have:=h2 i i0 i1
   rw[ifP hi] at this
   cases this
 ·rw[h4]
  split at h2
  ·rename_i e
   cases h2
   simp only[oB]
   rw[l9 (k7 (m7.1 e)),decide_eq_true h0]
  ·cases h2
theorem vis4{t:d4}(ht:n7 t){p:List d9}(hp:K0 t p){s:Li}(hs:Rch t p s)(hg:¬ s6 t s)(hl:S6 p s){st:LL}{w:Li}(hst:∀y,y ∈ st↔y ∈ nxS t p s){l0:LL}(hn:l0.Nodup)(hr:∀s ∈ l0,Rch t p s):
  ∃l,forR 0 (st.length:Int) (R8 (st,w)) l0=some l∧l.Nodup∧(∀s ∈ l,Rch t p s)∧Ext l0 l∧∀y ∈ st,y ∈ l:=by
 obtain⟨l,h1,h2,h3,h4,h5⟩:=w8 (body:=R8 (st,w)) (n:=(st.length:Int)) (s:=l0) (fun j l=>l.Nodup∧(∀s ∈ l,Rch t p s)∧Ext l0 l∧∀k y,k<j→ix st k=some y→y ∈ l) (by omega) ⟨hn,hr,.refl _,fun k y hk h=>by have:=(k8 h).1;omega⟩ (fun j l j0 j1 ⟨a1,a2,a3,a4⟩=>by
  obtain⟨y,hy,_⟩:=g9 (l:=st) j0 j1
  unfold R8
  dsimp only
  rw[hy]
  simp only[oB,containsLL_eq,y8]
  have mono:∀{l2:LL},Ext l l2→y ∈ l2→∀k z,k<j+1→ix st k=some z→z ∈ l2:=fun h1 h2 k z hk hz=>by
   by_cases ek:k=j
   ·subst ek;rw[hy] at hz;cases hz;exact h2
   ·exact h1.mem (a4 k z (by omega) hz)
  have hry:Rch t p y:=.step hs hg hl ((hst y).1 (k7 hy))
  by_cases c:y ∈ l
  ·rw[ifNN c]
   exact⟨l,rfl,a1,a2,a3,mono (.refl _) c⟩
  ·have hlen:=rch_len ht hp a1 a2
   rw[ifP c,app,if_pos (by simp;omega)]
   refine⟨_,rfl,List.nodup_append.2 ⟨a1,by simp,fun a ha b hb=> ?_⟩,fun z hz=> ?_,a3.snoc _,mono ((Ext.refl _).snoc _) (by simp)⟩
   ·simp only[List.mem_singleton] at hb;subst hb;exact fun e=>c (e ▸ ha)
   ·rcases List.mem_append.1 hz with g|g
    ·exact a2 z g
    ·simp only[List.mem_singleton] at g;exact g ▸ hry)
 refine⟨l,h1,h2,h3,h4,fun y hy=> ?_⟩
 obtain⟨k,_,k1,hk⟩:=o7 hy
 exact h5 k y k1 hk
theorem oVisited_eq{t:d4}(ht:n7 t){p:List d9}(hp:K0 t p):∃l,aa0 t p=some l∧Vis t p l:=by
 have hn:=ht.n1
 have hil:=ht.init.len
 unfold aa0
 rw[T8 (by omega)]
 simp only[oB]
 obtain⟨l,h1,h2,h3,h4,h5⟩:=J4 (body:=Y2 t p) (fun q=>q.1.Nodup∧(∀s ∈ q.1,Rch t p s)∧t.init ∈ q.1∧(0≤q.2∧q.2≤q.1.length)∧∀i s,i<q.2→ix q.1 i=some s→ClV t p q.1 s) (fun l=>l.Nodup∧(∀s ∈ l,Rch t p s)∧t.init ∈ l∧∀s ∈ l,ClV t p l s) (fun q=>(801 - q.2).toNat) (s:=([t.init],0)) ⟨by simp,by simpa using Rch.init,by simp,by simp,fun i s hi h=>by have:=(k8 h).1;dsimp only at hi;omega⟩ (fun⟨l,a⟩ ⟨g1,g2,g3,g4,g5⟩=>by
  dsimp only at g1 g2 g3 g4 g5 ⊢
  have hlen:=rch_len ht hp g1 g2
  unfold Y2
  dsimp only
  by_cases c:a<l.length
  ·rw[if_pos c]
   obtain⟨s,hs,_⟩:=g9 (l:=l) g4.1 c
   have hrs:=g2 s (k7 hs)
   have hset:=hrs.set ht
   have hsl:=hset.len
   rw[hs]
   simp only[oB,(ai6 hp s).1,T6 hset.1 ht.goal.1 (show s.length≤1000000 by omega)]
   have key:(if chO p s<0 then some true else some (dec (∀x ∈ t.goal,x ∈ s)))=some (dec (chO p s<0∨s6 t s)):=by
    unfold s6
    rw[← ifOr]
    by_cases h:chO p s<0
    ·rw[if_pos h,ifP h]
    ·rw[if_neg h,ifN h]
   rw[key]
   simp only[oB]
   have fin:∀{l2:LL},Ext l l2→ClV t p l2 s→∀i z,i<a+1→ix l2 i=some z→ClV t p l2 z:=fun h1 h2 i z hi hz=>by
    by_cases ei:i=a
    ·subst ei
     rw[h1 _ _ hs] at hz;cases hz;exact h2
    ·obtain⟨y,hy,_⟩:=g9 (l:=l) (i:=i) (k8 hz).1 (by omega)
     have:=h1 _ _ hy
     rw[hz] at this;cases this
     exact fun q1 q2 y hy2=>h1.mem (g5 i z (by omega) hy q1 q2 y hy2)
   by_cases cs:chO p s<0∨s6 t s
   ·rw[ifP cs]
    simp only[oB]
    rw[y6 (by omega) (by omega)]
    refine .inl ⟨_,rfl,⟨g1,g2,g3,by dsimp only;omega,fin (.refl _) fun q1 q2=> ?_⟩,by dsimp only;omega⟩
    rcases cs with c1|c1
    ·unfold S6 at q2;omega
    ·exact absurd c1 q1
   ·rw[ifN cs]
    have hl:S6 p s:=by unfold S6;have:=fun h=>cs (.inl h);omega
    have hg:¬ s6 t s:=fun h=>cs (.inr h)
    have ho:=live_op hp hl
    obtain⟨st,w,r1,_,r3,_⟩:=T9 ht ho.1.1 ho.1.2 hset
    rw[r1]
    simp only[oB]
    obtain⟨l2,e1,e2,e3,e4,e5⟩:=vis4 ht hp hrs hg hl (st:=st) (w:=w) (fun y=>by rw[r3,nxS,List.mem_map]) g1 g2
    rw[e1]
    simp only[oB]
    have:=e4.len
    rw[y6 (by omega) (by omega)]
    exact .inl ⟨_,rfl,⟨e2,e3,e4.mem g3,by dsimp only;omega,fin e4 fun _ _ y hy=>e5 y (by rw[r3];exact List.mem_map.1 hy)⟩,by dsimp only;omega⟩
  ·rw[if_neg c]
   refine .inr ⟨l,rfl,g1,g2,g3,fun s hs=> ?_⟩
   obtain⟨i,i0,i1,hi⟩:=o7 hs
   exact g5 i s (by omega) hi)
 rw[h1]
 simp only[oB]
 have hlen:=rch_len ht hp h2 h3
 obtain⟨r,n1,n2,n3,n4⟩:=ar1 (l:=l) (by omega)
 rw[n1]
 exact⟨r,rfl,vis_of n2 ((n3 _).2 h4) (fun s hs=>h3 s ((n3 s).1 hs)) fun s hs q1 q2 y hy=>(n3 y).2 (h5 s ((n3 s).1 hs) q1 q2 y hy)⟩
end Ab
end
section
namespace Ab
open Go
abbrev HtS(t:d4)(p:List d9)(k:Nat)(s:Li):Prop:=Ht (s6 t) (S6 p) (nxS t p) k s
theorem nx_ne{t:d4}(ht:n7 t){p:List d9}(hp:K0 t p):∀s,S6 p s→nxS t p s ≠ []:=fun s hl h=>by
 have ho:=live_op hp hl
 have:=(ht.at ho.1.1 ho.1.2).l0
 unfold nxS at h
 rw[List.map_eq_nil_iff] at h
 rw[h] at this
 simp at this
theorem Vis.closed{t:d4}{p:List d9}{l:LL}(h:Vis t p l):∀s ∈ l,¬ s6 t s→S6 p s→∀y ∈ nxS t p s,y ∈ l:=fun s hs hg hl y hy=>(h.mem y).2 (.step ((h.mem s).1 hs) hg hl hy)
theorem Vis.lt{t:d4}(ht:n7 t){p:List d9}(hp:K0 t p){l:LL}(h:Vis t p l){k:Nat}{s:Li}(hk:HtS t p k s)(hs:s ∈ l):k<l.length:=Ht.lt h.closed (nx_ne ht hp) hk hs
theorem Vis.len{t:d4}(ht:n7 t){p:List d9}(hp:K0 t p){l:LL}(h:Vis t p l):l.length≤801:=rch_len ht hp h.ord.nodup fun s hs=>(h.mem s).1 hs
theorem an7{l:LL}(ho:Ord l)(hl:l.length≤500000){s:Li}{i:Int}(hi:ix l i=some s):R6 l s=some i:=by
 unfold R6
 obtain⟨k,h1,_,h3⟩:=bsets_eq (t:=s) ho hl
 rw[h1,h3 i hi];rfl
theorem worst_eq{t:d4}(ht:n7 t){p:List d9}(hp:K0 t p){l:LL}(hv:Vis t p l){s:Li}(hs:s ∈ l)(hg:¬ s6 t s)(hl:S6 p s){v:Li}(hvl:v.length=l.length)(hvm:∀x ∈ v, -1≤x):
  ∃n,F5 t l v s (chO p s)=some n∧((n= -1∧∃y ∈ nxS t p s,∃i,ix l i=some y∧ix v i=some (-1))∨(0≤n∧(∀y ∈ nxS t p s,∀i x,ix l i=some y→ix v i=some x→0≤x∧x≤n)∧(n=0∨∃y ∈ nxS t p s,∃i,ix l i=some y∧ix v i=some n))):=by
 have ho:=live_op hp hl
 have hset:=((hv.mem s).1 hs).set ht
 obtain⟨st,w,r1,_,r3,_⟩:=T9 ht ho.1.1 ho.1.2 hset
 have hlen:=hv.len ht hp
 unfold F5
 rw[r1]
 simp only[oB]
 have hst:∀y,y ∈ st↔y ∈ nxS t p s:=fun y=>by rw[r3,nxS,List.mem_map]
 rcases aa4 (body:=H5 l v (st,w)) (n:=(st.length:Int)) (s:=0) (fun j n=>0≤n∧(∀k y i x,k<j→ix st k=some y→ix l i=some y→ix v i=some x→0≤x∧x≤n)∧(n=0∨∃y ∈ nxS t p s,∃i,ix l i=some y∧ix v i=some n)) (fun o=>o= -1∧∃y ∈ nxS t p s,∃i,ix l i=some y∧ix v i=some (-1)) (by omega) ⟨Int.le_refl _,fun k y i x hk h=>by have:=(k8 h).1;omega,.inl rfl⟩ (fun j n j0 j1 ⟨a1,a2,a3⟩=>by
  obtain⟨y,hy,_⟩:=g9 (l:=st) j0 j1
  have hyn:=(hst y).1 (k7 hy)
  obtain⟨i,i0,i1,hi⟩:=o7 (hv.closed s hs hg hl y hyn)
  obtain⟨x,hx,_⟩:=g9 (l:=v) i0 (by omega)
  unfold H5
  dsimp only
  rw[hy]
  simp only[oB,an7 hv.ord (show l.length≤500000 by omega) hi,hx]
  by_cases c:x<0
  ·rw[if_pos c]
   have:x= -1:=by have:=hvm x (k7 hx);omega
   subst this
   exact .inr ⟨_,rfl,rfl,y,hyn,i,hi,hx⟩
  ·rw[if_neg c]
   refine .inl ⟨_,rfl,by omega,fun k z i' x' hk hz hi' hx'=> ?_,?_⟩
   ·by_cases ek:k=j
    ·subst ek
     rw[hy] at hz;cases hz
     have:=hv.ord.inj hi hi'
     subst this
     rw[hx] at hx';cases hx'
     omega
    ·have:=a2 k z i' x' (by omega) hz hi' hx'
     omega
   ·by_cases cm:n≤x
    ·rw[Int.max_eq_right cm]
     exact .inr ⟨y,hyn,i,hi,hx⟩
    ·rw[Int.max_eq_left (by omega)]
     exact a3) with⟨n,e1,e2,e3,e4⟩|⟨o,e1,rfl,e2⟩
 ·rw[e1]
  refine⟨n,rfl,.inr ⟨e2,fun y hy i x hi hx=> ?_,e4⟩⟩
  obtain⟨k,_,k1,hk⟩:=o7 ((hst y).2 hy)
  exact e3 k y i x k1 hk hi hx
 ·rw[e1]
  exact⟨-1,rfl,.inl ⟨rfl,e2⟩⟩
structure ValOk(t:d4)(p:List d9)(l:LL)(v:Li):Prop where
 len:v.length=l.length
 val:∀i s x,ix l i=some s→ix v i=some x→x= -1∨∃k:Nat,x=k∧HtS t p k s
 goal:∀i s x,ix l i=some s→ix v i=some x→s6 t s→x=0
theorem ValOk.m1{t:d4}{p:List d9}{l:LL}{v:Li}(h:ValOk t p l v):∀x ∈ v, -1≤x:=fun x hx=>by
 obtain⟨i,i0,i1,hi⟩:=o7 hx
 obtain⟨s,hs,_⟩:=g9 (l:=l) i0 (by have:=h.len;omega)
 rcases h.val i s x hs hi with e|⟨k,e,_⟩<;>omega
theorem set_ix{v:Li}{j:Int}{y:Int}(h0:0≤j)(h1:j<v.length){i:Int}{x:Int}(h:ix (v.set j.toNat y) i=some x):(i=j∧x=y)∨(i ≠ j∧ix v i=some x):=by
 rw[W2 h0 h1 (k8 h).1] at h
 by_cases e:i=j
 ·rw[if_pos e] at h;cases h;exact .inl ⟨e,rfl⟩
 ·rw[if_neg e] at h;exact .inr ⟨e,h⟩
def Stays(v v':Li):Prop:=∀i x,ix v i=some x→x ≠ -1→ix v' i=some x
theorem check3{t:d4}(ht:n7 t){p:List d9}(hp:K0 t p){l:LL}(hv:Vis t p l){j:Int}{s:Li}(hs:ix l j=some s){v:Li}(h:ValOk t p l v):
  ∃v',S4 t p l j v=some v'∧ValOk t p l v'∧Stays v v'∧(¬ s6 t s→S6 p s→(∀y ∈ nxS t p s,∀i,ix l i=some y→ix v i ≠ some (-1))→ix v' j ≠ some (-1)):=by
 obtain⟨j0,j1,_⟩:=k8 hs
 have hlen:=hv.len ht hp
 have hvl:=h.len
 obtain⟨x,hx,_⟩:=g9 (l:=v) j0 (by omega)
 unfold S4
 rw[hs]
 simp only[oB,(ai6 hp s).1,hx]
 by_cases c:0≤x∨chO p s<0
 ·rw[if_pos (by rw[Bool.or_eq_true,decide_eq_true_eq,decide_eq_true_eq];exact c)]
  refine⟨v,rfl,h,fun i x h _=>h,fun _ hl _ he=> ?_⟩
  unfold S6 at hl
  rw[hx] at he
  have:=Option.some.inj he
  omega
 ·rw[if_neg (by rw[Bool.or_eq_true,decide_eq_true_eq,decide_eq_true_eq];exact c)]
  have hl:S6 p s:=by unfold S6;omega
  have hx1:x= -1:=by have:=h.m1 x (k7 hx);omega
  subst hx1
  have hg:¬ s6 t s:=fun hg=>by have:=h.goal j s _ hs hx hg;omega
  obtain⟨n,w1,w2⟩:=worst_eq ht hp hv (k7 hs) hg hl hvl h.m1
  rw[w1]
  simp only[oB]
  rcases w2 with⟨rfl,y,hy,i,hi,hvi⟩|⟨n0,w3,w4⟩
  ·rw[if_neg (by decide)]
   exact⟨v,rfl,h,fun i x h _=>h,fun _ _ hall=>absurd hvi (hall y hy i hi)⟩
  ·rw[if_pos n0]
   have ex:∀y ∈ nxS t p s,∃i x,ix l i=some y∧ix v i=some x∧∃k:Nat,x=k∧k≤n.toNat∧HtS t p k y:=fun y hy=>by
    obtain⟨i,i0,i1,hi⟩:=o7 (hv.closed s (k7 hs) hg hl y hy)
    obtain⟨x,hx,_⟩:=g9 (l:=v) i0 (by omega)
    have b:=w3 y hy i x hi hx
    rcases h.val i y x hi hx with e|⟨k,e,hk⟩
    ·omega
    ·exact⟨i,x,hi,hx,k,e,by omega,hk⟩
   have top:∃y ∈ nxS t p s,HtS t p n.toNat y:=by
    rcases w4 with rfl|⟨y,hy,i,hi,hvi⟩
    ·obtain⟨y,hy⟩:=List.exists_mem_of_ne_nil _ (nx_ne ht hp s hl)
     obtain⟨_,_,_,_,k,_,k1,hk⟩:=ex y hy
     have:k=0:=by simpa using k1
     subst this
     exact⟨y,hy,hk⟩
    ·obtain⟨i',x,hi',hx',k,e,k1,hk⟩:=ex y hy
     have:=hv.ord.inj hi hi'
     subst this
     rw[hvi] at hx';cases hx'
     have:k=n.toNat:=by omega
     exact⟨y,hy,this ▸ hk⟩
   have hts:HtS t p (n.toNat+1) s:=Ht.of_succ hg hl (fun y hy=>by
    obtain⟨_,_,_,_,k,_,k1,hk⟩:=ex y hy
    exact⟨k,k1,hk⟩) top
   have hb:=hv.lt ht hp hts (k7 hs)
   rw[y6 (by omega) (by omega)]
   have hj:j<(v.length:Int):=by omega
   refine⟨_,rfl,⟨by rw[lS];exact hvl,fun i z x hz hx'=> ?_,fun i z x hz hx' hgz=> ?_⟩,fun i x hxi hne=> ?_,fun _ _ _ he=> ?_⟩
   ·rcases set_ix j0 hj hx' with⟨rfl,rfl⟩|⟨_,hx'⟩
    ·rw[hs] at hz;cases hz
     exact .inr ⟨n.toNat+1,by omega,hts⟩
    ·exact h.val i z x hz hx'
   ·rcases set_ix j0 hj hx' with⟨rfl,rfl⟩|⟨_,hx'⟩
    ·rw[hs] at hz;cases hz
     exact absurd hgz hg
    ·exact h.goal i z x hz hx' hgz
   ·rw[W2 j0 hj (k8 hxi).1,if_neg]
    ·exact hxi
    ·rintro rfl;rw[hx] at hxi;cases hxi;exact hne rfl
   ·rcases set_ix j0 hj he with⟨_,e⟩|⟨e,_⟩
    ·omega
    ·exact e rfl
def KnownS(t:d4)(p:List d9)(l:LL)(r:Nat)(v:Li):Prop:=∀i s k,ix l i=some s→HtS t p k s→k≤r→ix v i ≠ some (-1)
theorem Stays.known{v v':Li}(h:Stays v v')(hl:v'.length=v.length){i:Int}(hn:ix v i ≠ some (-1)):ix v' i ≠ some (-1):=fun he=>by
 obtain⟨i0,i1,_⟩:=k8 he
 obtain⟨x,hx,_⟩:=g9 (l:=v) i0 (by omega)
 have hne:x ≠ -1:=fun e=>hn (e ▸ hx)
 rw[h i x hx hne] at he
 exact hne (Option.some.inj he)
theorem check2{t:d4}(ht:n7 t){p:List d9}(hp:K0 t p){l:LL}(hv:Vis t p l){v:Li}(h:ValOk t p l v){r:Nat}(hr:KnownS t p l r v)(j:Int):∃v',R9 t p l j v=some v'∧ValOk t p l v'∧KnownS t p l (r+1) v':=by
 unfold R9
 obtain⟨v',h1,h2,h3,h4⟩:=w8 (body:=S4 t p l) (n:=(l.length:Int)) (s:=v) (fun j v'=>ValOk t p l v'∧Stays v v'∧∀i s k,i<j→ix l i=some s→HtS t p k s→k≤r+1→ix v' i ≠ some (-1)) (by omega) ⟨h,fun i x h _=>h,fun i s k hi h=>by have:=(k8 h).1;omega⟩ (fun j v1 j0 j1 ⟨a1,a2,a3⟩=>by
  obtain⟨s,hs,_⟩:=g9 (l:=l) j0 j1
  obtain⟨v2,b1,b2,b3,b4⟩:=check3 ht hp hv hs a1
  have st:Stays v v2:=fun i x hx hne=>b3 i x (a2 i x hx hne) hne
  refine⟨v2,b1,b2,st,fun i z k hi hz hk hkr=> ?_⟩
  by_cases e:i=j
  ·subst e
   rw[hs] at hz;cases hz
   by_cases hg:s6 t s
   ·intro he
    have:=b2.goal i s _ hs he hg
    omega
   ·obtain⟨m,rfl,hl,hy,_⟩:=hk.step hg (nx_ne ht hp)
    refine b4 hg hl fun y hyn i' hi'=> ?_
    obtain⟨k',hk',hk2⟩:=hy y hyn
    exact a2.known (by rw[a1.len,h.len]) (hr i' y k' hi' hk2 (by omega))
  ·exact b3.known (by rw[b2.len,a1.len]) (a3 i z k (by omega) hz hk hkr))
 rw[h1]
 exact⟨v',rfl,h2,fun i s k hi hk hkr=>h4 i s k (k8 hi).2.1 hi hk hkr⟩
theorem contains1_eq{l:Li}{s:Int}:E3 l s=some (dec (s ∈ l)):=by
 unfold E3 N8
 rcases E6 (body:=I6 l s) (n:=(l.length:Int)) (fun j=>if dec (ix l j=some s)=true then some j else none) (by omega) (fun j h0 h1 _=>by
  obtain⟨x,hx,_⟩:=g9 (l:=l) h0 h1
  unfold I6
  rw[hx]
  simp only[oB]
  by_cases e:s=x
  ·rw[if_pos e,ifP (by rw[e])]
  ·rw[if_neg e,ifN (by simpa using fun h=>e h.symm)]) with⟨h1,h2⟩|⟨j,o,h0,h1,h2,h3,h4⟩
 ·rw[h1]
  simp only[oB]
  rw[x7]
  ·rfl
  ·intro hs
   obtain⟨i,i0,i1,hi⟩:=o7 hs
   have:=h2 i i0 i1
   rw[ifP hi] at this
   cases this
 ·rw[h4]
  split at h2
  ·rename_i e
   cases h2
   simp only[oB]
   rw[l9 (k7 (m7.1 e)),decide_eq_true h0]
  ·cases h2
theorem check1{t:d4}(ht:n7 t){p:List d9}{l:LL}(hv:Vis t p l):∃v,forR 0 (l.length:Int) (S5 t l) (List.replicate l.length 0)=some v∧ValOk t p l v∧KnownS t p l 0 v:=by
 have hn:=ht.n1
 obtain⟨v,h1,h2,h3⟩:=w8 (body:=S5 t l) (n:=(l.length:Int)) (s:=List.replicate l.length 0) (fun j v=>v.length=l.length∧∀i s x,ix l i=some s→ix v i=some x→(i<j→¬ s6 t s→x= -1)∧((i<j→s6 t s)→x=0)) (by omega) ⟨by simp,fun i s x hi hx=>by
  refine⟨fun h=>by have:=(k8 hi).1;omega,fun _=> ?_⟩
  have:=k7 hx
  exact List.eq_of_mem_replicate this⟩ (fun j v j0 j1 ⟨a1,a2⟩=>by
  obtain⟨s,hs,_⟩:=g9 (l:=l) j0 j1
  have hset:=((hv.mem s).1 (k7 hs)).set ht
  have hsl:=hset.len
  obtain⟨x,hx,_⟩:=g9 (l:=v) j0 (by omega)
  unfold S5
  rw[hs]
  simp only[oB,T6 hset.1 ht.goal.1 (show s.length≤1000000 by omega),y8,hx]
  by_cases hg:s6 t s
  ·rw[ifNN (p:=∀x ∈ t.goal,x ∈ s) hg]
   refine⟨v,rfl,a1,fun i z y hz hy=> ?_⟩
   obtain⟨b1,b2⟩:=a2 i z y hz hy
   by_cases e:i=j
   ·subst e
    rw[hs] at hz;cases hz
    exact⟨fun _ h=>absurd hg h,fun _=>b2 fun h=>by omega⟩
   ·exact⟨fun h=>b1 (by omega),fun h=>b2 fun h'=>h (by omega)⟩
  ·rw[ifP (p:=¬ ∀x ∈ t.goal,x ∈ s) hg]
   refine⟨_,rfl,by rw[lS];exact a1,fun i z y hz hy=> ?_⟩
   rcases set_ix j0 (by omega) hy with⟨rfl,rfl⟩|⟨e,hy⟩
   ·rw[hs] at hz;cases hz
    exact⟨fun _ _=>rfl,fun h=>absurd (h (by omega)) hg⟩
   ·obtain⟨b1,b2⟩:=a2 i z y hz hy
    exact⟨fun h=>b1 (by omega),fun h=>b2 fun h'=>h (by omega)⟩)
 refine⟨v,h1,⟨h2,fun i s x hi hx=> ?_,fun i s x hi hx hg=>(h3 i s x hi hx).2 fun _=>hg⟩,fun i s k hi hk hk0 he=> ?_⟩
 ·obtain⟨b1,b2⟩:=h3 i s x hi hx
  by_cases hg:s6 t s
  ·exact .inr ⟨0,by rw[b2 fun _=>hg];rfl,.zero hg⟩
  ·exact .inl (b1 (k8 hi).2.1 hg)
 ·have:k=0:=by omega
  subst this
  have hg:s6 t s:=hk.1
  have:=(h3 i s _ hi he).2 fun _=>hg
  omega
theorem check_eq{t:d4}(ht:n7 t){p:List d9}(hp:K0 t p):∃l,Vis t p l∧((∃k:Nat,(∀s ∈ l,∃k,HtS t p k s)∧HtS t p k t.init∧P5 t p=some ((k:Int),true,⟨0,0⟩))∨((∃s ∈ l,∀k,¬ HtS t p k s)∧P5 t p=some (0,false,⟨0,0⟩))):=by
 obtain⟨l,g1,hv⟩:=oVisited_eq ht hp
 refine⟨l,hv,?_⟩
 have hlen:=hv.len ht hp
 obtain⟨f,f1,_,f3⟩:=policy_eq t p
 have hf:f=⟨0,0⟩:=by
  rcases f3 with⟨rfl,_⟩|⟨_,h⟩
  ·rfl
  ·exact absurd ⟨ht,hp⟩ h
 subst hf
 obtain⟨v0,c1,c2,c3⟩:=check1 ht (p:=p) hv
 obtain⟨v,d1,d2,d3⟩:=w8 (body:=R9 t p l) (n:=(l.length:Int)) (s:=v0) (fun j v=>ValOk t p l v∧KnownS t p l j.toNat v) (by omega) ⟨c2,c3⟩ (fun j v j0 j1 ⟨a1,a2⟩=>by
  obtain⟨v',b1,b2,b3⟩:=check2 ht hp hv a1 a2 j
  exact⟨v',b1,b2,by rwa [show(j+1).toNat=j.toNat+1 by omega]⟩)
 unfold P5
 rw[f1]
 simp only[oB]
 rw[if_neg (by simp),g1]
 simp only[oB]
 rw[show mkL 8 (l.length:Int) (0:Int)=some (List.replicate l.length 0) by rw[mkL,if_pos (by omega)];simp]
 simp only[oB,c1,d1,contains1_eq]
 by_cases c:(-1:Int) ∈ v
 ·right
  rw[ifP c]
  refine⟨?_,rfl⟩
  obtain⟨i,i0,i1,hi⟩:=o7 c
  obtain⟨s,hs,_⟩:=g9 (l:=l) i0 (by have:=d2.len;omega)
  refine⟨s,k7 hs,fun k hk=> ?_⟩
  have:=hv.lt ht hp hk (k7 hs)
  exact d3 i s k hs hk (by omega) hi
 ·left
  rw[ifN c]
  have all:∀i s x,ix l i=some s→ix v i=some x→∃k:Nat,x=k∧HtS t p k s:=fun i s x hi hx=>by
   rcases d2.val i s x hi hx with e|e
   ·exact absurd (e ▸ k7 hx) c
   ·exact e
  have hinit:t.init ∈ l:=(hv.mem _).2 .init
  obtain⟨i,i0,i1,hi⟩:=o7 hinit
  obtain⟨x,hx,_⟩:=g9 (l:=v) i0 (by have:=d2.len;omega)
  obtain⟨k,rfl,hk⟩:=all i _ x hi hx
  refine⟨k,fun s hs=> ?_,hk,?_⟩
  ·obtain⟨i,i0,i1,hi⟩:=o7 hs
   obtain⟨x,hx,_⟩:=g9 (l:=v) i0 (by have:=d2.len;omega)
   obtain⟨k,_,hk⟩:=all i s x hi hx
   exact⟨k,hk⟩
  ·rw[an7 hv.ord (by omega) hi]
   simp only[oB,hx]
end Ab
end
section
namespace Ab
open Go
def sureX:n5:=⟨[0],[],1⟩
def sureO:i5:=⟨[],[sureX],1⟩
def u6:d4:=⟨1,[],[0],[sureO]⟩
theorem sure_ok:n7 u6 where
 n0:=by decide
 n1:=by decide
 init:=W0 _
 goal:=setN1 0 (by decide) (by decide)
 ops:=by decide
 op o ho:=by
  simp only[u6,List.mem_singleton] at ho
  subst ho
  refine⟨W0 _,by decide,by decide,by decide,by decide,fun x hx=> ?_⟩
  simp only[sureO,List.mem_singleton] at hx
  subst hx
  exact⟨⟨setN1 0 (by decide) (by decide),W0 _,by simp[sureX]⟩,by decide,by decide⟩
theorem sureOo:ooAt u6 0=sureO:=rfl
theorem set01:SetN [0] 1:=setN1 0 (by decide) (by decide)
theorem sure_x{s:Li}(hs:SetN s 1):efc 1 s sureX=[0]:=by
 refine(set01.eq_of (p:=fun p=>p ∈ sureX.add∨p ∈ s∧p ∉ sureX.del) fun x h0 h1=> ?_).symm
 simp only[sureX,List.mem_singleton]
 exact⟨.inl,fun h=>by omega⟩
theorem av4{s:Li}(hs:SetN s 1):∃w,F3 u6 s 0=some ([[0]],w):=by
 obtain⟨st,w,r1,r2,r3,_⟩:=T9 sure_ok (op:=0) (by decide) (by decide) (s:=s) hs
 refine⟨w,?_⟩
 rw[r1]
 have:st=[[0]]:=Ord.ext r2 (by simp) fun y=>by
  rw[r3,sureOo]
  simp only[sureO,List.mem_singleton,exists_eq_left]
  rw[show u6.facts=1 from rfl,sure_x hs]
  exact⟨Eq.symm,Eq.symm⟩
 rw[this]
theorem sure_can{s:Li}(hs:SetN s 1):ab2 u6 s 0=some true:=by
 rw[oCan_eq sure_ok (by decide) (by decide) hs,l9]
 intro x hx
 cases hx
theorem one_rng{S O:Type}{body:Int→S→Option (S⊕O)}{s:S}{x:S⊕O}(h:body 0 s=some x):rngX 0 1 body s=some x:=by
 unfold rngX
 rw[show((1:Int) - 0).toNat=1 from rfl]
 simp only[rngN,h]
 cases x<;>rfl
theorem sure_reach:H2 u6=some ([[],[0]],true):=by
 have h0:SetN [] 1:=W0 _
 have k0:=key1_eq (s:=[]) (h0.small (by decide)) (by decide)
 have k1:=key1_eq (s:=[0]) (set01.small (by decide)) (by decide)
 have hk:keyK [[0]] ≠ keyK [[]]:=fun e=>by have:=SetN.key_inj (by decide) set01 h0 e;cases this
 obtain⟨w0,r0⟩:=av4 h0
 obtain⟨w1,r1⟩:=av4 set01
 have s1:D3 u6 ([[]],mset ([]:List (ByteArray×Int)) (keyK [[]]) 1,0)=some (.inl ([[],[0]],mset (mset ([]:List (ByteArray×Int)) (keyK [[]]) 1) (keyK [[0]]) 1,1)):=by
  unfold D3
  dsimp only
  rw[if_pos (by decide)]
  rw[show(u6.operators.length:Int)=1 from rfl,one_rng (x:=.inl ([[],[0]],mset (mset ([]:List (ByteArray×Int)) (keyK [[]]) 1) (keyK [[0]]) 1))]
  ·rfl
  ·unfold I2
   dsimp only
   rw[show ix [([]:Li)] 0=some [] from rfl]
   simp only[oB,sure_can h0,r0,Bool.not_true,Bool.false_eq_true,if_false]
   rw[show((([[0]]:LL).length:Nat):Int)=1 from rfl,one_rng (x:=.inl ([[],[0]],mset (mset ([]:List (ByteArray×Int)) (keyK [[]]) 1) (keyK [[0]]) 1))]
   ·rfl
   ·unfold I3
    dsimp only
    rw[show ix [([0]:Li)] 0=some [0] from rfl]
    simp only[oB,k1]
    rw[D0,if_neg hk]
    simp[mget,app,Q9]
 have s2:D3 u6 ([[],[0]],mset (mset ([]:List (ByteArray×Int)) (keyK [[]]) 1) (keyK [[0]]) 1,1)=some (.inl ([[],[0]],mset (mset ([]:List (ByteArray×Int)) (keyK [[]]) 1) (keyK [[0]]) 1,2)):=by
  unfold D3
  dsimp only
  rw[if_pos (by decide)]
  rw[show(u6.operators.length:Int)=1 from rfl,one_rng (x:=.inl ([[],[0]],mset (mset ([]:List (ByteArray×Int)) (keyK [[]]) 1) (keyK [[0]]) 1))]
  ·rfl
  ·unfold I2
   dsimp only
   rw[show ix [([]:Li),[0]] 1=some [0] from rfl]
   simp only[oB,sure_can set01,r1,Bool.not_true,Bool.false_eq_true,if_false]
   rw[show((([[0]]:LL).length:Nat):Int)=1 from rfl,one_rng (x:=.inl ([[],[0]],mset (mset ([]:List (ByteArray×Int)) (keyK [[]]) 1) (keyK [[0]]) 1))]
   ·rfl
   ·unfold I3
    dsimp only
    rw[show ix [([0]:Li)] 0=some [0] from rfl]
    simp only[oB,k1]
    rw[D0,if_pos rfl]
    simp[Q9]
 have s3:D3 u6 ([[],[0]],mset (mset ([]:List (ByteArray×Int)) (keyK [[]]) 1) (keyK [[0]]) 1,2)=some (.inr (.inl [[],[0]])):=by
  unfold D3
  dsimp only
  rw[if_neg (by decide)]
 unfold H2
 rw[show u6.init=[] from rfl,T8 (by decide)]
 simp only[oB,k0]
 rw[M3,s1]
 dsimp only
 rw[M3,s2]
 dsimp only
 rw[M3,s3]
 simp only[oB]
 obtain⟨r,n1,n2,n3,_⟩:=ar1 (l:=[[],[0]]) (by decide)
 rw[n1,show r=[[],[0]] from Ord.ext n2 (by simp[llt]) n3]
 rfl
theorem sure_bs{l:LL}(h:l=[[],[0]]):R6 l []=some 0∧R6 l [0]=some 1:=by
 subst h
 exact⟨an7 (by simp[llt]) (by decide) rfl,an7 (by simp[llt]) (by decide) rfl⟩
theorem one_for{S:Type}{body:Int→S→Option S}{s s1:S}(h:body 0 s=some s1):forR 0 1 body s=some s1:=by
 unfold forR
 rw[show((1:Int) - 0).toNat=1 from rfl]
 simp only[forN,h]
theorem two_for{S:Type}{body:Int→S→Option S}{s s1 s2:S}(h:body 0 s=some s1)(h2:body 1 s1=some s2):forR 0 2 body s=some s2:=by
 unfold forR
 rw[show((2:Int) - 0).toNat=2 from rfl]
 simp only[forN,h]
 rw[show(0:Int)+1=1 from rfl,h2]
abbrev T1:LL:=[[],[0]]
theorem sure_c0:z7 [] u6.goal=some false:=by
 rw[show u6.goal=[0] from rfl,T6 .nil set01.1 (by decide),x7]
 intro h;have:=h 0 (by simp);cases this
theorem sure_c1:z7 [0] u6.goal=some true:=by
 rw[show u6.goal=[0] from rfl,T6 set01.1 set01.1 (by decide),l9]
 intro x hx;exact hx
theorem sure_best{rank:Li}(h:ix rank 1=some 0):w7 u6 T1 rank []=some 0:=by
 obtain⟨w0,r0⟩:=av4 (s:=[]) (W0 _)
 have hw:F5 u6 T1 rank [] 0=some 0:=by
  unfold F5
  rw[r0]
  simp only[oB]
  rw[show((([[0]]:LL).length:Nat):Int)=1 from rfl,one_rng (x:=.inl 0)]
  ·rfl
  ·unfold H5
   dsimp only
   rw[show ix [([0]:Li)] 0=some [0] from rfl]
   simp only[oB,(sure_bs rfl).2,h]
   rfl
 unfold w7
 rw[show(u6.operators.length:Int)=1 from rfl,one_for (s1:=(0,0))]
 ·rfl
 ·unfold V5
  dsimp only
  rw[sure_can (W0 _)]
  simp[hw]
theorem sure_ranks:P4 u6 T1=some [1,0]:=by
 have l0:E8 u6 T1 ([-1,0],1)=some (.inl ([1,0],2)):=by
  unfold E8
  dsimp only
  rw[show(T1.length:Int)=2 from rfl,two_for (s1:=[0]) (s2:=[0])]
  ·simp only[oB]
   rw[if_neg (by decide),show(([0]:Li).length:Int)=1 from rfl,one_for (s1:=[1,0])]
   ·rfl
   ·rfl
  ·unfold S3
   rw[show ix T1 0=some [] from rfl,show ix ([-1,0]:Li) 0=some (-1) from rfl]
   simp only[oB]
   rw[if_pos (by decide),sure_best rfl]
   rfl
  ·rfl
 have l1:E8 u6 T1 ([1,0],2)=some (.inr [1,0]):=by
  unfold E8
  dsimp only
  rw[show(T1.length:Int)=2 from rfl,two_for (s1:=[]) (s2:=[])]
  ·rfl
  ·rfl
  ·rfl
 unfold P4
 rw[show C4 [-1] (T1.length:Int)=some [-1, -1] from rfl]
 simp only[oB]
 rw[show(T1.length:Int)=2 from rfl,two_for (s1:=[-1, -1]) (s2:=[-1,0])]
 ·simp only[oB]
  rw[M3,l0]
  dsimp only
  rw[M3,l1]
  rfl
 ·unfold L4
  rw[show ix T1 0=some [] from rfl]
  simp only[oB,sure_c0]
  rfl
 ·unfold L4
  rw[show ix T1 1=some [0] from rfl]
  simp only[oB,sure_c1]
  rfl
theorem polNil:K0 u6 []:=⟨by decide,.nil,by simp,by simp,by simp⟩
theorem chosen_nil(s:Li):J6 [] s=some (-1):=by
 obtain⟨h1,h2⟩:=ai6 polNil s
 rw[h1]
 rcases h2 with h|⟨h,_⟩
 ·rw[h]
 ·obtain⟨c,hc,_⟩:=chO_mem h
  cases hc
abbrev U1:List d9:=[⟨[],0⟩]
theorem sure_build:P2 u6 (fun y1=>y9 y1 u6 T1 [1,0])=some (U1,true):=by
 obtain⟨w0,r0⟩:=av4 (s:=[]) (W0 _)
 have b0:A8 u6 (fun y1=>y9 y1 u6 T1 [1,0]) ([[]],[],0)=some (.inl ([[],[0]],U1,1)):=by
  unfold A8
  dsimp only
  rw[if_pos (by decide),show ix [([]:Li)] 0=some [] from rfl]
  simp only[oB,sure_c0,chosen_nil]
  rw[if_neg (by decide)]
  simp only[oB]
  rw[if_neg (by decide),if_neg (by decide)]
  have hc:y9 [] u6 T1 [1,0]=some 0:=by
   unfold y9
   rw[sure_best rfl];rfl
  have hb:j7 [] [] D5=some (0,false):=by
   rw[show j7 [] [] D5=bsf [] [] D5 from rfl]
   unfold bsf
   rw[M3]
   simp[bsl]
  rw[hc]
  simp only[oB,hb,T8 (s:=[]) (by decide)]
  rw[show insL ([]:List d9) 0 ⟨[],0⟩=some U1 from rfl]
  simp only[oB,r0]
  rfl
 have b1:A8 u6 (fun y1=>y9 y1 u6 T1 [1,0]) ([[],[0]],U1,1)=some (.inl ([[],[0]],U1,2)):=by
  unfold A8
  dsimp only
  rw[if_pos (by decide),show ix [([]:Li),[0]] 1=some [0] from rfl]
  simp only[oB,sure_c1]
  rfl
 have b2:A8 u6 (fun y1=>y9 y1 u6 T1 [1,0]) ([[],[0]],U1,2)=some (.inr (.inl U1)):=by
  unfold A8
  dsimp only
  rw[if_neg (by decide)]
 unfold P2
 rw[show u6.init=[] from rfl,M3,b0]
 dsimp only
 rw[M3,b1]
 dsimp only
 rw[M3,b2]
 rfl
theorem sure_policy:v7 u6=some (U1,true,⟨0,0⟩):=by
 unfold v7
 rw[explore_ok sure_ok,sure_reach]
 simp only[oB,if_true]
 rw[if_neg (by simp),sure_ranks]
 simp only[oB]
 rw[show u6.init=[] from rfl,(sure_bs rfl).1]
 simp only[oB]
 rw[show ix ([1,0]:Li) 0=some 1 from rfl]
 simp only[oB]
 rw[if_neg (by decide),sure_build]
 rfl
theorem sure_pol:K0 u6 U1:=⟨by decide,by simp,fun c hc=>by
  simp only[List.mem_singleton] at hc
  subst hc
  exact W0 _,fun c hc=>by
  simp only[List.mem_singleton] at hc
  subst hc
  exact⟨by decide,by decide⟩,fun c hc x hx=>by
  simp only[List.mem_singleton] at hc
  subst hc
  cases hx⟩
theorem sure_ch:chO U1 []=0:=by
 obtain⟨r,h1,h2⟩:=an3 U1 []
 have e:chO U1 []=r:=by rw[chO,h1];rfl
 rw[e]
 rcases h2 with⟨_,h⟩|⟨c,hc,_,h⟩
 ·exact absurd rfl (h _ (List.mem_singleton.2 rfl))
 ·rw[h,List.mem_singleton.1 hc]
theorem sure_nx{y:Li}:y ∈ nxS u6 U1 []↔y=[0]:=by
 unfold nxS
 rw[sure_ch,sureOo]
 simp only[sureO,List.map_cons,List.map_nil,List.mem_singleton]
 rw[show u6.facts=1 from rfl,sure_x (W0 _)]
theorem sure_g1:s6 u6 [0]:=fun x hx=>hx
theorem sure_g0:¬ s6 u6 []:=fun h=>by have:=h 0 (by simp[u6]);cases this
theorem sure_ht:HtS u6 U1 1 []:=Ht.of_succ (m:=0) sure_g0 (by unfold S6;rw[sure_ch];exact Int.le_refl _) (fun y hy=>⟨0,Nat.le_refl _,.zero (sure_nx.1 hy ▸ sure_g1)⟩) ⟨[0],sure_nx.2 rfl,.zero sure_g1⟩
theorem sure_rch{s:Li}(h:Rch u6 U1 s):s=[]∨s=[0]:=by
 induction h with
 |init=>exact .inl rfl
 |step _ hg _ hy ih=>
  rcases ih with rfl|rfl
  ·exact .inr (sure_nx.1 hy)
  ·exact absurd sure_g1 hg
theorem sure_check:P5 u6 U1=some (1,true,⟨0,0⟩):=by
 obtain⟨l,hv,h⟩:=check_eq sure_ok sure_pol
 rcases h with⟨k,_,h1,h2⟩|⟨⟨s,hs,h1⟩,_⟩
 ·have:k=1:=Ht.unique h1 sure_ht
  subst this
  exact h2
 ·rcases sure_rch ((hv.mem s).1 hs) with rfl|rfl
  ·exact absurd sure_ht (h1 1)
  ·exact absurd (.zero sure_g1) (h1 0)
theorem choices_self(p:List d9):aa3 p p=some true:=by
 unfold aa3
 rw[if_pos rfl,rngX_all (by omega) fun j j0 j1=>by
  obtain⟨c,hc,_⟩:=g9 (l:=p) j0 j1
  unfold ai0
  rw[hc]
  simp only[oB,decide_true,Bool.not_true,Bool.false_eq_true,if_false,ints_eq,l9]]
 rfl
theorem always_eq:U0=some true:=by
 unfold U0
 rw[show al0=some u6 from rfl]
 simp only[oB,sure_policy,sure_check,if_true,choices_self]
end Ab
end
section
namespace Ab
open Go
end Ab
end
section
namespace Ab
open Go
end Ab
end
section
namespace Ab
open Go
noncomputable def nxC(t:d4)(ch:Li→Int)(s:Li):LL:=(ooAt t (ch s)).outcomes.map (efc t.facts s)
inductive RchC(t:d4)(ch:Li→Int):Li→Prop
 |init:RchC t ch t.init
 |step {s y:Li} (h:RchC t ch s) (hg:¬ s6 t s) (hy:y ∈ nxC t ch s):RchC t ch y
def ChOk(t:d4)(ch:Li→Int):Prop:=∀s,RchC t ch s→¬ s6 t s→(0≤ch s∧ch s<t.operators.length)∧oCan t s (ch s)
section
variable {t:d4} {ch:Li→Int}
theorem RchC.set(ht:n7 t){s:Li}(h:RchC t ch s):SetN s t.facts:=by
 cases h with
 |init=>exact ht.init
 |step _ _ hy=>obtain⟨x,_,rfl⟩:=List.mem_map.1 hy;exact av3 _ _ _
structure PolB(t:d4)(ch:Li→Int)(p:List d9):Prop where
 ord:Ord (p.map d9.state)
 mem:∀s,(∃c ∈ p,c.state=s)↔RchC t ch s∧¬ s6 t s
 op:∀c ∈ p,c.operator=ch c.state
theorem PolB.rch{p:List d9}(h:PolB t ch p){c:d9}(hc:c ∈ p):RchC t ch c.state∧¬ s6 t c.state:=(h.mem _).1 ⟨c,hc,rfl⟩
theorem PolB.pol(ht:n7 t)(hk:ChOk t ch){p:List d9}(h:PolB t ch p)(hl:p.length≤200):K0 t p:=
 ⟨hl,h.ord,fun c hc=>(h.rch hc).1.set ht,fun c hc=>by rw[h.op c hc];exact(hk _ (h.rch hc).1 (h.rch hc).2).1,fun c hc=>by rw[h.op c hc];exact(hk _ (h.rch hc).1 (h.rch hc).2).2⟩
theorem chO_ch{p:List d9}(hop:∀c ∈ p,c.operator=ch c.state)(s:Li):(chO p s= -1∧∀c ∈ p,c.state ≠ s)∨((∃c ∈ p,c.state=s)∧chO p s=ch s):=by
 obtain⟨r,h1,h2⟩:=an3 p s
 have:chO p s=r:=by rw[chO,h1];rfl
 rw[this]
 rcases h2 with⟨rfl,h⟩|⟨c,hc,rfl,rfl⟩
 ·exact .inl ⟨rfl,h⟩
 ·exact .inr ⟨⟨c,hc,rfl⟩,hop c hc⟩
/-! ### One choice put in its place -/
theorem mem_takeN{α:Type}{l:List α}{n:Nat}{a:α}(h:a ∈ l.take n):∃k:Int,0≤k∧k<n∧ix l k=some a:=by
 obtain⟨k,hk⟩:=List.getElem?_of_mem h
 rw[List.getElem?_take] at hk
 split at hk
 ·exact⟨k,by omega,by omega,by rw[N3];exact hk⟩
 ·cases hk
theorem mem_dropN{α:Type}{l:List α}{n:Nat}{a:α}(h:a ∈ l.drop n):∃k:Int,(n:Int)≤k∧ix l k=some a:=by
 obtain⟨k,hk⟩:=List.getElem?_of_mem h
 rw[List.getElem?_drop] at hk
 exact⟨(n+k:Nat),by omega,by rw[N3];exact hk⟩
theorem ins_ord{p:List d9}{c:d9}{i:Int}(ho:Ord (p.map d9.state))(h0:0≤i)(hlt:∀k a,0≤k→k<i→ix p k=some a→llt a.state c.state)(hge:∀k a,i≤k→ix p k=some a→¬ llt a.state c.state)(hns:∀a ∈ p,a.state ≠ c.state):
  Ord ((p.take i.toNat++c::p.drop i.toNat).map d9.state):=by
 have a1:∀a ∈ p.take i.toNat,llt a.state c.state:=fun a ha=>by
  obtain⟨k,k0,k1,hk⟩:=mem_takeN ha
  exact hlt k a k0 (by omega) hk
 have a2:∀a ∈ p.drop i.toNat,llt c.state a.state:=fun a ha=>by
  obtain⟨k,k1,hk⟩:=mem_dropN ha
  rcases V6 a.state c.state with h|h|h
  ·exact absurd h (hge k a (by omega) hk)
  ·exact absurd h (hns a (k7 hk))
  ·exact h
 have s1:Ord ((p.take i.toNat).map d9.state):=by rw[List.map_take];exact List.Pairwise.sublist (List.take_sublist _ _) ho
 have s2:Ord ((p.drop i.toNat).map d9.state):=by rw[List.map_drop];exact List.Pairwise.sublist (List.drop_sublist _ _) ho
 rw[List.map_append,List.map_cons]
 refine List.pairwise_append.2 ⟨s1,List.pairwise_cons.2 ⟨fun x hx=> ?_,s2⟩,fun x hx y hy=> ?_⟩
 ·obtain⟨a,ha,rfl⟩:=List.mem_map.1 hx
  exact a2 a ha
 ·obtain⟨a,ha,rfl⟩:=List.mem_map.1 hx
  rcases List.mem_cons.1 hy with rfl|hy
  ·exact a1 a ha
  ·obtain⟨b,hb,rfl⟩:=List.mem_map.1 hy
   exact I4 (a1 a ha) (a2 b hb)
theorem ins_mem{α:Type}{p:List α}{c x:α}{n:Nat}:x ∈ p.take n++c::p.drop n↔x=c∨x ∈ p:=by
 have:x ∈ p↔x ∈ p.take n∨x ∈ p.drop n:=by
  rw[← List.mem_append,List.take_append_drop]
 rw[this]
 simp only[List.mem_append,List.mem_cons]
 constructor
 ·rintro (h|h|h)
  ·exact .inr (.inl h)
  ·exact .inl h
  ·exact .inr (.inr h)
 ·rintro (h|h|h)
  ·exact .inr (.inl h)
  ·exact .inl h
  ·exact .inr (.inr h)
theorem ins_len{α:Type}{p:List α}{c:α}{n:Nat}(h:n≤p.length):(p.take n++c::p.drop n).length=p.length+1:=by simp;omega
structure PolP(t:d4)(ch:Li→Int)(p:List d9):Prop where
 pol:K0 t p
 of:∀c ∈ p,(RchC t ch c.state∧¬ s6 t c.state)∧c.operator=ch c.state
theorem PolP.op{p:List d9}(h:PolP t ch p):∀c ∈ p,c.operator=ch c.state:=fun c hc=>(h.of c hc).2
theorem PolP.ins(ht:n7 t)(hk:ChOk t ch){p:List d9}(h:PolP t ch p){s:Li}(hs:RchC t ch s)(hg:¬ s6 t s){i:Int}(h0:0≤i)(h1:i≤p.length)(hlt:∀k a,0≤k→k<i→ix p k=some a→llt a.state s)(hge:∀k a,i≤k→ix p k=some a→¬ llt a.state s)(hns:∀a ∈ p,a.state ≠ s)(hl:p.length<200):
  PolP t ch (p.take i.toNat++⟨s,ch s⟩::p.drop i.toNat):=by
 have key:∀{q:d9→Prop},q ⟨s,ch s⟩→(∀c ∈ p,q c)→∀c ∈ p.take i.toNat++⟨s,ch s⟩::p.drop i.toNat,q c:=fun h1 h2 c hc=>by
  rcases ins_mem.1 hc with rfl|hc
  ·exact h1
  ·exact h2 c hc
 exact⟨⟨by rw[ins_len (by omega)];omega,ins_ord h.pol.ord h0 hlt hge hns,key (hs.set ht) h.pol.set,key (hk s hs hg).1 h.pol.op,key (hk s hs hg).2 h.pol.can⟩,key ⟨⟨hs,hg⟩,rfl⟩ h.of⟩
theorem states_nodup{p:List d9}(h:Ord (p.map d9.state)){s:Li}(hns:∀a ∈ p,a.state ≠ s):(s::p.map d9.state).Nodup:=
 List.nodup_cons.2 ⟨fun hm=>by obtain⟨a,ha,e⟩:=List.mem_map.1 hm;exact hns a ha e,h.nodup⟩
structure BI(t:d4)(ch:Li→Int)(q:LL)(p:List d9)(a:Int):Prop where
 a0:0≤a
 a1:a≤q.length
 pp:PolP t ch p
 qr:∀s ∈ q,RchC t ch s
 qi:t.init ∈ q
 px:∀c ∈ p,∀y ∈ nxC t ch c.state,y ∈ q
 dn:∀k s,k<a→ix q k=some s→s6 t s∨∃c ∈ p,c.state=s
 ql:q.length≤1+4 * p.length
theorem build_prog(ht:n7 t)(hk:ChOk t ch){choose:Li→Option Int}(hch:∀s,RchC t ch s→¬ s6 t s→choose s=some (ch s)):
  ∃r,P2 t choose=some r∧((r=([],false)∧∃l:LL,l.Nodup∧(∀s ∈ l,RchC t ch s∧¬ s6 t s)∧l.length=201)∨∃p,r=(p,true)∧PolB t ch p∧p.length≤200):=by
 have hn:=ht.n1
 obtain⟨o,o1,o2⟩:=J4 (body:=A8 t choose) (fun x=>BI t ch x.1 x.2.1 x.2.2) (fun o=>(o=.inr ([],false)∧∃l:LL,l.Nodup∧(∀s ∈ l,RchC t ch s∧¬ s6 t s)∧l.length=201)∨∃p,o=.inl p∧PolB t ch p∧p.length≤200) (fun x=>(1000 - x.2.2).toNat)
  (s:=([t.init],[],0)) ⟨by dsimp only;omega,by simp,⟨⟨by simp,.nil,by simp,by simp,by simp⟩,by simp⟩,fun s hs=>by rw[List.mem_singleton.1 hs];exact .init,by simp,by simp,fun k s hk hs=>by have:=(k8 hs).1;dsimp only at hk;omega,by simp⟩ (fun⟨q,p,a⟩ h=>by
   have a0:0≤a:=h.a0
   have a1:a≤q.length:=h.a1
   have ql:q.length≤1+4 * p.length:=h.ql
   have pp:PolP t ch p:=h.pp
   have qr:∀s ∈ q,RchC t ch s:=h.qr
   have qi:t.init ∈ q:=h.qi
   have px:∀c ∈ p,∀y ∈ nxC t ch c.state,y ∈ q:=h.px
   have dn:∀k s,k<a→ix q k=some s→s6 t s∨∃c ∈ p,c.state=s:=h.dn
   have pl:p.length≤200:=pp.pol.len
   clear h
   dsimp only
   unfold A8
   dsimp only
   by_cases c:a<q.length
   ·rw[if_pos c]
    obtain⟨s,hs,_⟩:=g9 (l:=q) a0 c
    have hr:=qr s (k7 hs)
    have hset:=hr.set ht
    have hsl:=hset.len
    rw[hs]
    simp only[oB,T6 hset.1 ht.goal.1 (show s.length≤1000000 by omega),(ai6 pp.pol s).1]
    have key:(if dec (∀x ∈ t.goal,x ∈ s)=true then some true else some (decide (0≤chO p s)))=some (dec (s6 t s∨0≤chO p s)):=by
     by_cases hg:s6 t s
     ·rw[ifP (p:=∀x ∈ t.goal,x ∈ s) hg,l9 (.inl hg)]
     ·rw[ifN (p:=∀x ∈ t.goal,x ∈ s) hg,W1]
      congr 1
      exact z2 ⟨.inr,fun h=>h.resolve_left hg⟩
    rw[key]
    simp only[oB]
    have hw:w64 (a+1)=a+1:=y6 (by omega) (by omega)
    by_cases cg:s6 t s∨0≤chO p s
    ·rw[ifP cg]
     unfold L6
     dsimp only
     refine .inl ⟨(q,p,a+1),by rw[hw],⟨by dsimp only;omega,by dsimp only;omega,pp,qr,qi,px,fun(k:Int) z hk2 hz=> ?_,ql⟩,by dsimp only;omega⟩
     dsimp only at hk2 hz
     by_cases e:k=a
     ·subst e
      rw[hs] at hz;cases hz
      refine cg.imp id fun hc=> ?_
      rcases chO_ch pp.op s with⟨e,_⟩|⟨e,_⟩
      ·omega
      ·exact e
     ·exact dn k z (by omega) hz
    ·rw[ifN cg]
     have hg:¬ s6 t s:=fun g=>cg (.inl g)
     have hns:∀c ∈ p,c.state ≠ s:=by
      rcases chO_ch pp.op s with⟨_,e⟩|⟨_,e⟩
      ·exact e
      ·exact absurd (.inr (by rw[e];exact(hk s hr hg).1.1)) cg
     by_cases cl:(p.length:Int)=200
     ·rw[if_pos cl]
      refine .inr ⟨_,rfl,.inl ⟨rfl,s::p.map d9.state,states_nodup pp.pol.ord hns,fun z hz=> ?_,by simp;omega⟩⟩
      rcases List.mem_cons.1 hz with rfl|hz
      ·exact⟨hr,hg⟩
      ·obtain⟨c,hc,rfl⟩:=List.mem_map.1 hz
       exact(pp.of c hc).1
     ·rw[if_neg cl,hch s hr hg]
      simp only[oB]
      have ho:=hk s hr hg
      obtain⟨i,i1,i0,_,i2,i3,i4⟩:=bsf_full (key:=d9.state) (xs:=p) (t:=s) (cmp:=D5) pp.pol.ord (by omega) (fun a=>by unfold D5;rw[ah2];rfl)
      have hb:j7 p s D5=some (i,dec (∃a ∈ p,a.state=s)):=i1
      rw[hb]
      simp only[oB,T8 (show s.length≤1000000 by omega)]
      rw[insL,if_pos ⟨i0,i2,by omega⟩]
      obtain⟨st,w,r1,_,r3,r4,_⟩:=T9 ht ho.1.1 ho.1.2 hset
      simp only[oB,r1]
      rw[app,if_pos (by omega)]
      simp only[oB]
      unfold L6
      dsimp only
      have hst:∀y,y ∈ st↔y ∈ nxC t ch s:=fun y=>by rw[r3,nxC,List.mem_map]
      have pp':=pp.ins ht hk hr hg i0 i2 i3 i4 hns (by omega)
      refine .inl ⟨(q++st,p.take i.toNat++⟨s,ch s⟩::p.drop i.toNat,a+1),by rw[hw],⟨by dsimp only;omega,by simp;omega,pp',fun z hz=> ?_,List.mem_append_left _ qi,fun c hc y hy=> ?_,fun k z hk2 hz=> ?_,?_⟩,by dsimp only;omega⟩
      ·rcases List.mem_append.1 hz with hz|hz
       ·exact qr z hz
       ·exact .step hr hg ((hst z).1 hz)
      ·rcases ins_mem.1 hc with rfl|hc
       ·exact List.mem_append_right _ ((hst y).2 hy)
       ·exact List.mem_append_left _ (px c hc y hy)
      ·dsimp only at hk2 hz
       obtain⟨z',hz',_⟩:=g9 (l:=q) (i:=k) (k8 hz).1 (by omega)
       have e:z'=z:=by
        obtain⟨k0,_,g1⟩:=k8 hz
        obtain⟨_,k1,g2⟩:=k8 hz'
        rw[List.getElem?_append_left (by omega),g2] at g1
        exact Option.some.inj g1
       subst e
       by_cases e:k=a
       ·subst e
        rw[hs] at hz';cases hz'
        exact .inr ⟨⟨s,ch s⟩,ins_mem.2 (.inl rfl),rfl⟩
       ·refine(dn k _ (by omega) hz').imp id fun⟨c,hc,e⟩=>⟨c,ins_mem.2 (.inr hc),e⟩
      ·dsimp only
       rw[List.length_append,ins_len (by omega)]
       omega
   ·rw[if_neg c]
    have all:∀s,RchC t ch s→s ∈ q:=fun s hs=>by
     induction hs with
     |init=>exact qi
     |@step s y _ hg hy ih=>
      obtain⟨k,k0,k1,hk1⟩:=o7 ih
      rcases dn k s (by omega) hk1 with g|⟨c,hc,rfl⟩
      ·exact absurd g hg
      ·exact px c hc y hy
    refine .inr ⟨_,rfl,.inr ⟨p,rfl,⟨pp.pol.ord,fun s=>⟨fun⟨c,hc,e⟩=>e ▸ (pp.of c hc).1,fun⟨hs,hg⟩=> ?_⟩,pp.op⟩,pl⟩⟩
    obtain⟨k,k0,k1,hk1⟩:=o7 (all s hs)
    exact(dn k s (by omega) hk1).resolve_left hg)
 unfold P2
 rw[o1]
 rcases o2 with⟨rfl,h⟩|⟨p,rfl,h⟩
 ·exact⟨_,rfl,.inl ⟨rfl,h⟩⟩
 ·exact⟨_,rfl,.inr ⟨p,rfl,h⟩⟩
end
end Ab
end
section
namespace Ab
open Go
/-! ### Values of ordered states -/
noncomputable def sc(t:d4)(s:Li)(op:Int):LL:=(ooAt t op).outcomes.map (efc t.facts s)
structure Rep{A:Type}(all:LL)(v:List A)(f:Li→A):Prop where
 len:v.length=all.length
 get:∀{i:Int} {s:Li},ix all i=some s→ix v i=some (f s)
noncomputable def upd{A:Type}(f:Li→A)(s:Li)(x:A):Li→A:=fun z=>if dec (z=s)=true then x else f z
theorem upd_self{A:Type}{f:Li→A}{s:Li}{x:A}:upd f s x s=x:=ifP rfl
theorem upd_ne{A:Type}{f:Li→A}{s z:Li}{x:A}(h:z ≠ s):upd f s x z=f z:=ifN h
section
variable {A:Type} {all:LL} {v:List A} {f g:Li→A}
theorem Rep.of(h:Rep all v f){s:Li}(hs:s ∈ all):∃i,ix all i=some s∧ix v i=some (f s):=by
 obtain⟨i,_,_,hi⟩:=o7 hs
 exact⟨i,hi,h.get hi⟩
theorem Rep.set(ho:Ord all)(h:Rep all v f){i:Int}{s:Li}(hi:ix all i=some s)(x:A):Rep all (v.set i.toNat x) (upd f s x):=by
 obtain⟨i0,i1,_⟩:=k8 hi
 have hl:=h.len
 refine⟨by rw[lS];exact hl,fun {j z} hj=> ?_⟩
 rw[W2 i0 (by omega) (k8 hj).1]
 by_cases e:j=i
 ·subst e
  rw[hi] at hj;cases hj
  rw[if_pos rfl,upd_self]
 ·rw[if_neg e,upd_ne (fun hz=>e (by subst hz;exact ho.inj hj hi))]
  exact h.get hj
theorem Rep.congr(h:Rep all v f)(e:∀s ∈ all,f s=g s):Rep all v g:=⟨h.len,fun hi=>by rw[← e _ (k7 hi)];exact h.get hi⟩
theorem Rep.repl(c:A):Rep all (List.replicate all.length c) fun _=>c:=⟨by simp,fun {i s} hi=>by
 obtain⟨i0,i1,g⟩:=k8 hi
 have:i.toNat<all.length:=(lG.1 g).1
 rw[ix,if_pos i0,List.getElem?_replicate,if_pos this]⟩
end
theorem repeat_eq(c:Int){n:Nat}(h1:1≤n)(hn:n≤100000):C4 [c] (n:Int)=some (List.replicate n c):=by
 unfold C4
 dsimp only
 rw[if_pos (show(1:Int)≤n∧(n:Int)≤4294967295 by omega)]
 simp
def DnA(t:d4):Nat→Li→Prop
 |0,s=>s6 t s
 |k+1,s=>s6 t s∨∃op:Int,(0≤op∧op<t.operators.length)∧oCan t s op∧∀y ∈ sc t s op,DnA t k y
section
variable {t:d4}
theorem DnA.goal{k:Nat}{s:Li}(h:s6 t s):DnA t k s:=by
 cases k with
 |zero=>exact h
 |succ k=>exact .inl h
theorem DnA.succ:∀{k:Nat} {s:Li},DnA t k s→DnA t (k+1) s
 |0,s,h=>.inl h
 |k+1,s,h=>by
  rcases h with h|⟨op,h1,h2,h3⟩
  ·exact .inl h
  ·exact .inr ⟨op,h1,h2,fun y hy=>DnA.succ (h3 y hy)⟩
theorem DnA.mono{k m:Nat}{s:Li}(h:DnA t k s)(hm:k≤m):DnA t m s:=by
 induction hm with
 |refl=>exact h
 |step _ ih=>exact ih.succ
def HtA(t:d4)(k:Nat)(s:Li):Prop:=DnA t k s∧∀j,j<k→¬ DnA t j s
theorem HtA.unique{k m:Nat}{s:Li}(h:HtA t k s)(h':HtA t m s):k=m:=by
 rcases Nat.lt_trichotomy k m with c|c|c
 ·exact absurd h.1 (h'.2 k c)
 ·exact c
 ·exact absurd h'.1 (h.2 m c)
theorem HtA.of_dn:∀{k:Nat} {s:Li},DnA t k s→∃m,m≤k∧HtA t m s
 |0,s,h=>⟨0,Nat.le_refl _,h,fun j hj=>by omega⟩
 |k+1,s,h=>by
  by_cases c:DnA t k s
  ·obtain⟨m,h1,h2⟩:=HtA.of_dn c
   exact⟨m,by omega,h2⟩
  ·exact⟨k+1,Nat.le_refl _,h,fun j hj hd=>c (hd.mono (by omega))⟩
theorem HtA.zero{s:Li}(h:s6 t s):HtA t 0 s:=⟨h,fun j hj=>by omega⟩
theorem HtA.of_not{k:Nat}{s:Li}(h:DnA t (k+1) s)(hn:¬ DnA t k s):HtA t (k+1) s:=⟨h,fun j hj hd=>hn (hd.mono (by omega))⟩
structure ClO(t:d4)(all:LL):Prop where
 cl:Cl t all
 ord:Ord all
theorem ClO.len{all:LL}(h:ClO t all):all.length≤2000:=h.cl.len
theorem ClO.set{all:LL}(h:ClO t all){s:Li}(hs:s ∈ all):SetN s t.facts:=h.cl.set s hs
theorem ClO.sc{all:LL}(h:ClO t all){s:Li}(hs:s ∈ all){op:Int}(h0:0≤op∧op<t.operators.length)(hc:oCan t s op){y:Li}(hy:y ∈ sc t s op):y ∈ all:=by
 obtain⟨x,hx,rfl⟩:=List.mem_map.1 hy
 exact h.cl.closed s hs op h0.1 h0.2 hc x hx
theorem sc_ne(ht:n7 t){s:Li}{op:Int}(h0:0≤op∧op<t.operators.length):∃y,y ∈ sc t s op:=by
 have:=(ht.at h0.1 h0.2).l0
 cases h:(ooAt t op).outcomes with
 |nil=>rw[h] at this;simp at this
 |cons x l=>exact⟨efc t.facts s x,by unfold sc;rw[h];simp⟩
def WW(f:Li→Int)(l:LL)(w:Int):Prop:=0≤w∧(∀y ∈ l,0≤f y∧f y≤w)∧∃y ∈ l,f y=w
theorem WW.unique{f:Li→Int}{l:LL}{w w':Int}(h:WW f l w)(h':WW f l w'):w=w':=by
 obtain⟨_,a,y,hy,rfl⟩:=h
 obtain⟨_,b,z,hz,rfl⟩:=h'
 have:=(a z hz).2;have:=(b y hy).2
 omega
theorem worstG(ht:n7 t){all:LL}(ho:Ord all)(hl:all.length≤500000){s:Li}(hs:SetN s t.facts){op:Int}(h0:0≤op∧op<t.operators.length)(hcl:∀y ∈ sc t s op,y ∈ all){v:Li}{f:Li→Int}(hv:Rep all v f):
  ∃w,F5 t all v s op=some w∧((w= -1∧∃y ∈ sc t s op,f y<0)∨WW f (sc t s op) w):=by
 obtain⟨st,ws,r1,_,r3,_⟩:=T9 ht h0.1 h0.2 hs
 have hst:∀y,y ∈ st↔y ∈ sc t s op:=fun y=>by rw[r3,sc,List.mem_map]
 unfold F5
 rw[r1]
 simp only[oB]
 rcases aa4 (body:=H5 all v (st,ws)) (n:=(st.length:Int)) (s:=0) (fun j n=>0≤n∧(∀k y,k<j→ix st k=some y→0≤f y∧f y≤n)∧(n=0∨∃y ∈ sc t s op,f y=n)) (fun o=>o= -1∧∃y ∈ sc t s op,f y<0) (by omega) ⟨Int.le_refl _,fun k y hk h=>by have:=(k8 h).1;omega,.inl rfl⟩ (fun j n j0 j1 ⟨a1,a2,a3⟩=>by
  obtain⟨y,hy,_⟩:=g9 (l:=st) j0 j1
  have hyn:=(hst y).1 (k7 hy)
  obtain⟨i,hi,hvi⟩:=hv.of (hcl y hyn)
  unfold H5
  dsimp only
  rw[hy]
  simp only[oB,an7 ho hl hi,hvi]
  by_cases c:f y<0
  ·rw[if_pos c]
   exact .inr ⟨_,rfl,rfl,y,hyn,c⟩
  ·rw[if_neg c]
   refine .inl ⟨_,rfl,by omega,fun k z hk hz=> ?_,?_⟩
   ·by_cases ek:k=j
    ·subst ek
     rw[hy] at hz;cases hz
     omega
    ·have:=a2 k z (by omega) hz
     omega
   ·by_cases cm:n≤f y
    ·rw[Int.max_eq_right cm]
     exact .inr ⟨y,hyn,rfl⟩
    ·rw[Int.max_eq_left (by omega)]
     exact a3) with⟨n,e1,e2,e3,e4⟩|⟨o,e1,rfl,e2⟩
 ·rw[e1]
  have a:∀y ∈ sc t s op,0≤f y∧f y≤n:=fun y hy=>by
   obtain⟨k,_,k1,hk⟩:=o7 ((hst y).2 hy)
   exact e3 k y k1 hk
  refine⟨n,rfl,.inr ⟨e2,a,?_⟩⟩
  rcases e4 with rfl|h
  ·obtain⟨y,hy⟩:=sc_ne (s:=s) ht h0
   exact⟨y,hy,by have:=a y hy;omega⟩
  ·exact h
 ·rw[e1]
  exact⟨-1,rfl,.inl ⟨rfl,e2⟩⟩
def BestV(t:d4)(f:Li→Int)(s:Li)(b:Int):Prop:=
 ((0≤b∧b<t.operators.length)∧oCan t s b)∧∃w,WW f (sc t s b) w∧∀op:Int,(0≤op∧op<t.operators.length)→oCan t s op→∀w',WW f (sc t s op) w'→w≤w'∧(op<b→w<w')
theorem best_eq(ht:n7 t){all:LL}(hc:ClO t all){s:Li}(hs:s ∈ all){v:Li}{f:Li→Int}(hv:Rep all v f):
  ∃b,w7 t all v s=some b∧((b= -1∧∀op:Int,(0≤op∧op<t.operators.length)→oCan t s op→∃y ∈ sc t s op,f y<0)∨BestV t f s b):=by
 have hset:=hc.set hs
 have hlen:=hc.len
 unfold w7
 obtain⟨⟨out,least⟩,e1,e2⟩:=w8 (body:=V5 t all v s) (n:=(t.operators.length:Int)) (s:=(-1,0)) (fun j x=>(x.1= -1∧∀op:Int,0≤op→op<j→oCan t s op→∃y ∈ sc t s op,f y<0)∨((0≤x.1∧x.1<j)∧oCan t s x.1∧WW f (sc t s x.1) x.2∧∀op:Int,0≤op→op<j→oCan t s op→∀w',WW f (sc t s op) w'→x.2≤w'∧(op<x.1→x.2<w'))) (by omega) (.inl ⟨rfl,fun op h0 h1=>by omega⟩) (fun j ⟨out,least⟩ j0 j1 h=>by
  dsimp only at h
  unfold V5
  dsimp only
  rw[oCan_eq ht j0 j1 hset]
  simp only[oB,y8]
  by_cases cc:oCan t s j
  ·rw[ifNN cc]
   obtain⟨w,w1,w2⟩:=worstG ht hc.ord (by omega) hset ⟨j0,j1⟩ (fun y hy=>hc.sc hs ⟨j0,j1⟩ cc hy) hv
   rw[w1]
   simp only[oB]
   rcases w2 with⟨rfl,y,hy,hyn⟩|w2
   ·rw[if_neg (by simp)]
    refine⟨_,rfl,?_⟩
    dsimp only
    rcases h with⟨h1,h2⟩|⟨h1,h2,h3,h4⟩
    ·refine .inl ⟨h1,fun op o0 o1 oc=> ?_⟩
     by_cases e:op=j
     ·subst e;exact⟨y,hy,hyn⟩
     ·exact h2 op o0 (by omega) oc
    ·refine .inr ⟨⟨h1.1,by omega⟩,h2,h3,fun op o0 o1 oc w' hw'=> ?_⟩
     by_cases e:op=j
     ·subst e;have:=(hw'.2.1 y hy).1;omega
     ·exact h4 op o0 (by omega) oc w' hw'
   ·have w0:=w2.1
    by_cases cb:out<0∨w<least
    ·rw[if_pos (by simp only[Bool.and_eq_true,Bool.or_eq_true,decide_eq_true_eq];exact⟨w0,cb⟩)]
     refine⟨_,rfl,.inr ⟨⟨j0,by dsimp only;omega⟩,cc,w2,fun op o0 o1 oc w' hw'=> ?_⟩⟩
     dsimp only at o1 ⊢
     by_cases e:op=j
     ·subst e;have:=w2.unique hw';omega
     ·rcases h with⟨h1,h2⟩|⟨h1,h2,h3,h4⟩
      ·obtain⟨y,hy,hyn⟩:=h2 op o0 (by omega) oc
       have:=(hw'.2.1 y hy).1;omega
      ·have:=h4 op o0 (by omega) oc w' hw'
       omega
    ·rw[if_neg (by simp only[Bool.and_eq_true,Bool.or_eq_true,decide_eq_true_eq];exact fun h=>cb h.2)]
     rcases h with⟨h1,h2⟩|⟨h1,h2,h3,h4⟩
     ·omega
     ·refine⟨_,rfl,.inr ⟨⟨h1.1,by dsimp only;omega⟩,h2,h3,fun op o0 o1 oc w' hw'=> ?_⟩⟩
      dsimp only at o1 ⊢
      by_cases e:op=j
      ·subst e;have:=w2.unique hw';omega
      ·exact h4 op o0 (by omega) oc w' hw'
  ·rw[ifP cc]
   refine⟨_,rfl,?_⟩
   dsimp only
   rcases h with⟨h1,h2⟩|⟨h1,h2,h3,h4⟩
   ·refine .inl ⟨h1,fun op o0 o1 oc=> ?_⟩
    by_cases e:op=j
    ·subst e;exact absurd oc cc
    ·exact h2 op o0 (by omega) oc
   ·refine .inr ⟨⟨h1.1,by omega⟩,h2,h3,fun op o0 o1 oc w' hw'=> ?_⟩
    by_cases e:op=j
    ·subst e;exact absurd oc cc
    ·exact h4 op o0 (by omega) oc w' hw')
 rw[e1]
 simp only[oB]
 dsimp only at e2
 refine⟨out,rfl,?_⟩
 rcases e2 with⟨h1,h2⟩|⟨h1,h2,h3,h4⟩
 ·exact .inl ⟨h1,fun op ho hc=>h2 op ho.1 ho.2 hc⟩
 ·exact .inr ⟨⟨h1,h2⟩,least,h3,fun op ho hc w' hw'=>h4 op ho.1 ho.2 hc w' hw'⟩
/-! ### Ranks, layer by layer -/
def RankL(t:d4)(all:LL)(f:Li→Int)(L:Nat):Prop:=∀s ∈ all,(f s= -1∧¬ DnA t L s)∨∃k:Nat,k≤L∧f s=k∧HtA t k s
theorem RankL.fresh{all:LL}(hc:ClO t all){f:Li→Int}{L:Nat}(h:RankL t all f L){s:Li}(hs:s ∈ all):
  HtA t (L+1) s↔f s<0∧∃op:Int,(0≤op∧op<t.operators.length)∧oCan t s op∧∀y ∈ sc t s op,0≤f y:=by
 constructor
 ·intro hh
  have hn:¬ DnA t L s:=hh.2 L (by omega)
  have hf:f s= -1:=by
   rcases h s hs with⟨e,_⟩|⟨k,k1,_,k2⟩
   ·exact e
   ·exact absurd (k2.1.mono k1) hn
  refine⟨by omega,?_⟩
  rcases hh.1 with g|⟨op,h1,h2,h3⟩
  ·exact absurd (DnA.goal g) hn
  ·refine⟨op,h1,h2,fun y hy=> ?_⟩
   rcases h y (hc.sc hs h1 h2 hy) with⟨_,e⟩|⟨k,_,e,_⟩
   ·exact absurd (h3 y hy) e
   ·omega
 ·rintro ⟨hf,op,h1,h2,h3⟩
  have hn:¬ DnA t L s:=by
   rcases h s hs with⟨_,e⟩|⟨k,_,e,_⟩
   ·exact e
   ·omega
  refine HtA.of_not (.inr ⟨op,h1,h2,fun y hy=> ?_⟩) hn
  have:=h3 y hy
  rcases h y (hc.sc hs h1 h2 hy) with⟨e,_⟩|⟨k,k1,_,k2⟩
  ·omega
  ·exact k2.1.mono k1
structure RankA(t:d4)(all:LL)(f:Li→Int):Prop where
 val:∀s ∈ all,(f s= -1∧∀k,¬ DnA t k s)∨∃k:Nat,f s=k∧HtA t k s
 le:∀s ∈ all,f s≤all.length
theorem ranks_eq(ht:n7 t){all:LL}(hc:ClO t all):∃v f,P4 t all=some v∧Rep all v f∧RankA t all f:=by
 have hlen:=hc.len
 have hn:=ht.n1
 unfold P4
 rw[repeat_eq (-1) (List.length_pos_of_mem hc.cl.init) (by omega)]
 simp only[oB]
 obtain⟨v0,a1,f0,a2,a3⟩:=w8 (body:=L4 t all) (n:=(all.length:Int)) (s:=List.replicate all.length (-1)) (fun j v=>∃f,Rep all v f∧∀i s,ix all i=some s→(i<j→(s6 t s→f s=0)∧(¬ s6 t s→f s= -1))∧(j≤i→f s= -1)) (by omega) ⟨_,Rep.repl (-1),fun i s hi=>⟨fun h=>by have:=(k8 hi).1;omega,fun _=>rfl⟩⟩ (fun j v j0 j1 ⟨f,h1,h2⟩=>by
  obtain⟨s,hs,_⟩:=g9 (l:=all) j0 j1
  have hset:=hc.set (k7 hs)
  have hsl:=hset.len
  unfold L4
  rw[hs]
  simp only[oB,T6 hset.1 ht.goal.1 (show s.length≤1000000 by omega),h1.get hs]
  by_cases hg:s6 t s
  ·rw[ifP (p:=∀x ∈ t.goal,x ∈ s) hg]
   refine⟨_,rfl,_,h1.set hc.ord hs 0,fun i z hz=> ?_⟩
   by_cases e:i=j
   ·subst e
    rw[hs] at hz;cases hz
    rw[upd_self]
    exact⟨fun _=>⟨fun _=>rfl,fun h=>absurd hg h⟩,fun h=>by omega⟩
   ·rw[upd_ne (fun hz'=>e (hc.ord.inj hz (by rw[hz'];exact hs)))]
    exact⟨fun h=>(h2 i z hz).1 (by omega),fun h=>(h2 i z hz).2 (by omega)⟩
  ·rw[ifN (p:=∀x ∈ t.goal,x ∈ s) hg]
   refine⟨_,rfl,_,h1,fun i z hz=> ?_⟩
   by_cases e:i=j
   ·subst e
    rw[hs] at hz;cases hz
    exact⟨fun _=>⟨fun h=>absurd h hg,fun _=>(h2 i s hs).2 (Int.le_refl _)⟩,fun h=>by omega⟩
   ·exact⟨fun h=>(h2 i z hz).1 (by omega),fun h=>(h2 i z hz).2 (by omega)⟩)
 rw[a1]
 simp only[oB]
 have r0:RankL t all f0 0:=fun s hs=>by
  obtain⟨i,_,i1,hi⟩:=o7 hs
  have:=(a3 i s hi).1 i1
  by_cases hg:s6 t s
  ·exact .inr ⟨0,Nat.le_refl _,this.1 hg,.zero hg⟩
  ·exact .inl ⟨this.2 hg,hg⟩
 obtain⟨v,e1,f,e2,e3⟩:=J4 (body:=E8 t all) (fun x=>∃f L,Rep all x.1 f∧x.2=((L:Nat):Int)+1∧RankL t all f L∧∃c:LL,c.Nodup∧c.length=L∧∀z ∈ c,z ∈ all∧∃j,j≤L∧HtA t j z) (fun v=>∃f,Rep all v f∧RankA t all f) (fun x=>(all.length+2 - x.2).toNat) (s:=(v0,1)) ⟨f0,0,a2,by simp,r0,[],by simp⟩ (fun⟨v,layer⟩ ⟨f,L,h1,h2,h3,c,c1,c2,c3⟩=>by
  dsimp only at h1 h2 ⊢
  subst h2
  have hL:L≤all.length:=by rw[← c2];exact af7 c1 fun z hz=>(c3 z hz).1
  have hcond:∀s ∈ all,∃b,w7 t all v s=some b∧(f s<0→(0≤b↔HtA t (L+1) s)):=fun s hs=>by
   obtain⟨b,b1,b2⟩:=best_eq ht hc hs h1
   refine⟨b,b1,fun hf=> ?_⟩
   rw[h3.fresh hc hs]
   rcases b2 with⟨rfl,b2⟩|⟨⟨b2,b3⟩,w,b4,_⟩
   ·refine⟨fun h=>by omega,fun⟨_,op,h1,h2,h3⟩=> ?_⟩
    obtain⟨y,hy,hyn⟩:=b2 op h1 h2
    have:=h3 y hy;omega
   ·exact⟨fun _=>⟨hf,b,b2,b3,fun y hy=>(b4.2.1 y hy).1⟩,fun _=>b2.1⟩
  unfold E8
  dsimp only
  obtain⟨fr,g1,g2,g3⟩:=w8 (body:=S3 t all v) (n:=(all.length:Int)) (s:=[]) (fun j l=>(l.length:Int)≤j∧∀i,i ∈ l↔0≤i∧i<j∧∃s,ix all i=some s∧HtA t (L+1) s) (by omega) ⟨by simp,fun i=>⟨fun h=>by(cases h),fun h=>by omega⟩⟩ (fun j l j0 j1 ⟨l1,l2⟩=>by
   obtain⟨s,hs,_⟩:=g9 (l:=all) j0 j1
   obtain⟨b,b1,b2⟩:=hcond s (k7 hs)
   unfold S3
   rw[hs]
   simp only[oB,h1.get hs]
   have key:(if f s<0 then Option.bind (w7 t all v s) fun a52=>some (decide (0≤a52)) else some false)=some (dec (HtA t (L+1) s)):=by
    by_cases hf:f s<0
    ·rw[if_pos hf,b1]
     simp only[oB,W1]
     rw[z2 (b2 hf)]
    ·rw[if_neg hf,x7]
     exact fun h=>hf ((h3.fresh hc (k7 hs)).1 h).1
   rw[key]
   simp only[oB]
   by_cases hh:HtA t (L+1) s
   ·rw[ifP hh,app,if_pos (by simp;omega)]
    refine⟨_,rfl,by simp;omega,fun i=> ?_⟩
    rw[List.mem_append,List.mem_singleton,l2]
    constructor
    ·rintro (⟨q0,q1,q2⟩|rfl)
     ·exact⟨q0,by omega,q2⟩
     ·exact⟨j0,by omega,s,hs,hh⟩
    ·rintro ⟨q0,q1,q2⟩
     by_cases e:i=j
     ·exact .inr e
     ·exact .inl ⟨q0,by omega,q2⟩
   ·rw[ifN hh]
    refine⟨_,rfl,by omega,fun i=> ?_⟩
    rw[l2]
    constructor
    ·rintro ⟨q0,q1,q2⟩;exact⟨q0,by omega,q2⟩
    ·rintro ⟨q0,q1,z,hz,hzh⟩
     by_cases e:i=j
     ·subst e;rw[hs] at hz;cases hz;exact absurd hzh hh
     ·exact⟨q0,by omega,z,hz,hzh⟩)
  rw[g1]
  simp only[oB]
  have frm:∀i,i ∈ fr↔∃s,ix all i=some s∧HtA t (L+1) s:=fun i=>by
   rw[g3]
   exact⟨fun h=>h.2.2,fun⟨s,h1,h2⟩=>⟨(k8 h1).1,(k8 h1).2.1,s,h1,h2⟩⟩
  by_cases cf:(fr.length:Int)=0
  ·rw[if_pos cf]
   have none:∀s ∈ all,¬ HtA t (L+1) s:=fun s hs hh=>by
    obtain⟨i,_,_,hi⟩:=o7 hs
    have:=(frm i).2 ⟨s,hi,hh⟩
    have e0:fr=[]:=List.eq_nil_of_length_eq_zero (by omega)
    rw[e0] at this
    cases this
   have top:∀k,∀s ∈ all,DnA t k s→DnA t L s:=fun k=>by
    induction k with
    |zero=>exact fun s _ h=>DnA.mono h (Nat.zero_le _)
    |succ k ih=>
     intro s hs h
     rcases h with h|⟨op,o1,o2,o3⟩
     ·exact .goal h
     ·by_cases hd:DnA t L s
      ·exact hd
      ·exact absurd (HtA.of_not (.inr ⟨op,o1,o2,fun y hy=>ih y (hc.sc hs o1 o2 hy) (o3 y hy)⟩) hd) (none s hs)
   refine .inr ⟨v,rfl,f,h1,fun s hs=> ?_,fun s hs=> ?_⟩
   ·rcases h3 s hs with⟨q1,q2⟩|⟨k,_,q1,q2⟩
    ·exact .inl ⟨q1,fun k hk=>q2 (top k s hs hk)⟩
    ·exact .inr ⟨k,q1,q2⟩
   ·rcases h3 s hs with⟨q1,q2⟩|⟨k,q0,q1,q2⟩<;>omega
  ·rw[if_neg cf]
   obtain⟨v',k1,k2,k3⟩:=w8 (body:=X6 (((L:Nat):Int)+1) fr) (n:=(fr.length:Int)) (s:=v) (fun j x=>x.length=all.length∧∀i s,ix all i=some s→ix x i=some (if dec (∃k,k<j∧ix fr k=some i)=true then((L:Nat):Int)+1 else f s)) (by omega) ⟨h1.len,fun i s hi=>by
    rw[ifN (by rintro ⟨k,k1,k2⟩;have:=(k8 k2).1;omega)]
    exact h1.get hi⟩ (fun j x j0 j1 ⟨x1,x2⟩=>by
    obtain⟨i,hi,_⟩:=g9 (l:=fr) j0 j1
    obtain⟨s,hs,_⟩:=(frm i).1 (k7 hi)
    obtain⟨i0,i1,_⟩:=k8 hs
    unfold X6
    rw[hi]
    simp only[oB,x2 i s hs]
    refine⟨_,rfl,by rw[lS];exact x1,fun i' z hz=> ?_⟩
    rw[W2 i0 (by omega) (k8 hz).1]
    by_cases e:i'=i
    ·subst e
     rw[if_pos rfl,ifP ⟨j,by omega,hi⟩]
    ·rw[if_neg e,x2 i' z hz]
     congr 2
     have:(∃k,k<j∧ix fr k=some i')↔∃k,k<j+1∧ix fr k=some i':=⟨fun⟨k,k1,k2⟩=>⟨k,by omega,k2⟩,fun⟨k,k1,k2⟩=>by
      by_cases ek:k=j
      ·subst ek;rw[hi] at k2;cases k2;exact absurd rfl e
      ·exact⟨k,by omega,k2⟩⟩
     rw[z2 this])
   rw[k1]
   simp only[oB]
   rw[y6 (by omega) (by omega)]
   obtain⟨i,hif⟩:∃i,i ∈ fr:=by
    cases fr with
    |nil=>simp at cf
    |cons a l=>exact⟨a,by simp⟩
   obtain⟨s,hs,hh⟩:=(frm i).1 hif
   have hrep:Rep all v' (fun s=>if dec (HtA t (L+1) s)=true then((L:Nat):Int)+1 else f s):=⟨k2,fun {i s} hi=>by
    rw[k3 i s hi]
    have:(∃k,k<(fr.length:Int)∧ix fr k=some i)↔HtA t (L+1) s:=⟨fun⟨k,_,hk⟩=>by
     obtain⟨z,hz,hzh⟩:=(frm i).1 (k7 hk)
     rw[hi] at hz;cases hz;exact hzh,fun h=>by
     obtain⟨k,_,k1,hk⟩:=o7 ((frm i).2 ⟨s,hi,h⟩)
     exact⟨k,k1,hk⟩⟩
    rw[z2 this]⟩
   refine .inl ⟨_,rfl,⟨_,L+1,hrep,by dsimp only;omega,fun z hz=> ?_,s::c,List.nodup_cons.2 ⟨fun hm=> ?_,c1⟩,by simp[c2],fun z hz=> ?_⟩,by dsimp only;omega⟩
   ·dsimp only
    by_cases hzh:HtA t (L+1) z
    ·exact .inr ⟨L+1,Nat.le_refl _,by rw[ifP hzh];omega,hzh⟩
    ·rw[ifN hzh]
     rcases h3 z hz with⟨q1,q2⟩|⟨k,q0,q1,q2⟩
     ·exact .inl ⟨q1,fun hd=>hzh (.of_not hd q2)⟩
     ·exact .inr ⟨k,by omega,q1,q2⟩
   ·obtain⟨_,j,j1,j2⟩:=c3 s hm
    have:=j2.unique hh;omega
   ·rcases List.mem_cons.1 hz with rfl|hz
    ·exact⟨k7 hs,L+1,Nat.le_refl _,hh⟩
    ·obtain⟨q0,j,q1,q2⟩:=c3 z hz
     exact⟨q0,j,by omega,q2⟩)
 rw[e1]
 exact⟨v,f,rfl,e2,e3⟩
theorem RankA.ht{all:LL}{f:Li→Int}(h:RankA t all f){s:Li}(hs:s ∈ all){k:Nat}(hk:HtA t k s):f s=k:=by
 rcases h.val s hs with⟨_,e⟩|⟨m,e,hm⟩
 ·exact absurd hk.1 (e k)
 ·rw[e,hm.unique hk]
theorem RankA.nn{all:LL}{f:Li→Int}(h:RankA t all f){s:Li}(hs:s ∈ all)(hf:0≤f s):∃k:Nat,f s=k∧HtA t k s:=by
 rcases h.val s hs with⟨e,_⟩|e
 ·omega
 ·exact e
theorem best_rank(ht:n7 t){all:LL}(hc:ClO t all){v:Li}{f:Li→Int}(hv:Rep all v f)(hr:RankA t all f){s:Li}(hs:s ∈ all)(hg:¬ s6 t s)(hf:0≤f s):
  ∃b,w7 t all v s=some b∧BestV t f s b∧∀y ∈ sc t s b,y ∈ all∧0≤f y∧f y<f s:=by
 obtain⟨b,b1,b2⟩:=best_eq ht hc hs hv
 obtain⟨k,k1,k2⟩:=hr.nn hs hf
 obtain⟨m,rfl⟩:∃m,k=m+1:=by
  cases k with
  |zero=>exact absurd k2.1 hg
  |succ m=>exact⟨m,rfl⟩
 rcases k2.1 with h|⟨op,o1,o2,o3⟩
 ·exact absurd h hg
 have hy:∀y ∈ sc t s op,0≤f y∧f y≤m:=fun y hy=>by
  obtain⟨j,j1,j2⟩:=HtA.of_dn (o3 y hy)
  rw[hr.ht (hc.sc hs o1 o2 hy) j2];omega
 rcases b2 with⟨_,b2⟩|b2
 ·obtain⟨y,hy1,hy2⟩:=b2 op o1 o2
  have:=hy y hy1;omega
 ·refine⟨b,b1,b2,fun y hyb=> ?_⟩
  obtain⟨⟨c1,c2⟩,w,c3,c4⟩:=b2
  have hya:=hc.sc hs c1 c2 hyb
  have:=c3.2.1 y hyb
  refine⟨hya,this.1,?_⟩
  -- the largest value after op
  obtain⟨w',hw'⟩:∃w',WW f (sc t s op) w':=by
   obtain⟨w',q1,q2⟩:=worstG ht hc.ord (by have:=hc.len;omega) (hc.set hs) o1 (fun y hy=>hc.sc hs o1 o2 hy) hv
   rcases q2 with⟨_,y,q3,q4⟩|q2
   ·have:=hy y q3;omega
   ·exact⟨w',q2⟩
  obtain⟨z,hz1,hz2⟩:=hw'.2.2
  have:=hy z hz1
  have:=c4 op o1 o2 w' hw'
  omega
end
section
variable {t:d4}
theorem as5(ht:n7 t):(H2 t=some ([],false)∧aa5 t 2000=some ([],false)∧v7 t=some ([],false,⟨10, -7⟩))∨∃all v f,H2 t=some (all,true)∧aa5 t 2000=some (all,true)∧ClO t all∧Rep all v f∧RankA t all f∧
  ((f t.init= -1∧v7 t=some ([],false,⟨0,0⟩))∨∃ch,ChOk t ch∧(∀s,RchC t ch s→s ∈ all∧0≤f s)∧(∀s,RchC t ch s→¬ s6 t s→BestV t f s (ch s)∧∀y ∈ nxC t ch s,f y<f s)∧
   ((v7 t=some ([],false,⟨10, -8⟩)∧∃l:LL,l.Nodup∧(∀s ∈ l,RchC t ch s∧¬ s6 t s)∧l.length=201)∨∃p,v7 t=some (p,true,⟨0,0⟩)∧PolB t ch p∧p.length≤200)):=by
 unfold v7
 rw[explore_ok ht]
 rcases reach_full ht with⟨all,q1,q2,q3,q4,_⟩|⟨q1,q2⟩
 ·right
  have hc:ClO t all:=⟨q3,q4⟩
  have hlen:=hc.len
  obtain⟨v,f,r1,r2,r3⟩:=ranks_eq ht hc
  obtain⟨i,hi,hvi⟩:=r2.of q3.init
  refine⟨all,v,f,q1,q2,hc,r2,r3,?_⟩
  rw[q1]
  simp only[oB,if_true]
  rw[if_neg (by simp),r1]
  simp only[oB,an7 q4 (show all.length≤500000 by omega) hi,hvi]
  by_cases cf:f t.init<0
  ·rw[if_pos cf]
   refine .inl ⟨?_,rfl⟩
   rcases r3.val _ q3.init with⟨e,_⟩|⟨k,e,_⟩<;>omega
  ·rw[if_neg cf]
   right
   have inv:∀s,RchC t (fun s=>(w7 t all v s).getD (-1)) s→s ∈ all∧0≤f s:=fun s hs=>by
    induction hs with
    |init=>exact⟨q3.init,by omega⟩
    |@step s y _ hg hy ih=>
     obtain⟨b,b1,b2,b3⟩:=best_rank ht hc r2 r3 ih.1 hg ih.2
     have e:(w7 t all v s).getD (-1)=b:=by rw[b1];rfl
     unfold nxC at hy
     dsimp only at hy
     rw[e] at hy
     have:=b3 y hy
     exact⟨this.1,this.2.1⟩
   have step:∀s,RchC t (fun s=>(w7 t all v s).getD (-1)) s→¬ s6 t s→∃b,w7 t all v s=some b∧BestV t f s b∧∀y ∈ sc t s b,y ∈ all∧0≤f y∧f y<f s:=fun s hs hg=>best_rank ht hc r2 r3 (inv s hs).1 hg (inv s hs).2
   have hk:ChOk t (fun s=>(w7 t all v s).getD (-1)):=fun s hs hg=>by
    obtain⟨b,b1,b2,b3⟩:=step s hs hg
    dsimp only
    rw[b1];exact b2.1
   refine⟨_,hk,inv,fun s hs hg=> ?_,?_⟩
   ·obtain⟨b,b1,b2,b3⟩:=step s hs hg
    have e:(w7 t all v s).getD (-1)=b:=by rw[b1];rfl
    have e2:(fun s=>(w7 t all v s).getD (-1)) s=b:=e
    refine⟨by first|(rw[e2];exact b2)|(rw[e];exact b2),fun y hy=> ?_⟩
    unfold nxC at hy
    rw[e2] at hy
    exact(b3 y hy).2.2
   ·obtain⟨r,p1,p2⟩:=build_prog ht hk (choose:=fun y1=>y9 y1 t all v) (fun s hs hg=>by
     obtain⟨b,b1,_⟩:=step s hs hg
     unfold y9
     rw[b1];rfl)
    rw[p1]
    rcases p2 with⟨rfl,p2⟩|⟨p,rfl,p2⟩
    ·exact .inl ⟨rfl,p2⟩
    ·exact .inr ⟨p,rfl,p2⟩
 ·left
  rw[q1]
  exact⟨rfl,q2,rfl⟩
theorem policy_bad{f:k6}(hv:D2 t=some f)(hc:f.code ≠ 0):v7 t=some ([],false,f):=by
 unfold v7
 rw[explore_bad hv hc]
 simp only[oB]
 rw[if_pos (au9 hc)]
end
end Ab
end
section
namespace Ab
open Go
/-! ### Maps -/
section
variable {K V:Type} [DecidableEq K]
theorem Y7{k:K}{v:V}:∀{m:List (K×V)},mget m k=none→mset m k v=m++[(k,v)]
 |[],_=>rfl
 |p::r,h=>by
  simp only[mget] at h
  split at h
  ·cases h
  ·rename_i hne
   simp only[mset,if_neg hne,Y7 h,List.cons_append]
theorem mset_keys{k:K}{v:V}:∀{m:List (K×V)},mget m k ≠ none→(mset m k v).map (·.1)=m.map (·.1)
 |[],h=>absurd rfl h
 |p::r,h=>by
  simp only[mget] at h
  simp only[mset]
  split
  ·rename_i e;simp[e]
  ·rename_i hne
   rw[if_neg hne] at h
   simp[mset_keys h]
theorem mget_mem{k:K}{v:V}:∀{m:List (K×V)},mget m k=some v→(k,v) ∈ m
 |[],h=>by cases h
 |p::r,h=>by
  simp only[mget] at h
  split at h
  ·rename_i e;cases h;subst e;exact List.mem_cons_self
  ·exact List.mem_cons_of_mem _ (mget_mem h)
theorem mget_none{k:K}:∀{m:List (K×V)},mget m k=none→k ∉ m.map (·.1)
 |[],_=>by simp
 |p::r,h=>by
  simp only[mget] at h
  split at h
  ·cases h
  ·rename_i hne
   have:=mget_none h
   simp only[List.map_cons,List.mem_cons,not_or]
   exact⟨hne,this⟩
end
theorem T2{α:Type}{l:List α}{i:Int}(h:i<0):ix l i=none:=by
 unfold ix;rw[if_neg (by omega)]
theorem an8{α:Type}{l:List α}{x:α}{i:Int}:ix (l++[x]) i=if i=l.length then some x else ix l i:=by
 by_cases h0:0≤i
 ·obtain⟨k,rfl⟩:=Int.eq_ofNat_of_zero_le h0
  rw[N3,N3]
  by_cases e:k=l.length
  ·subst e;simp
  ·rw[if_neg (by omega)]
   rcases Nat.lt_or_ge k l.length with h|h
   ·rw[List.getElem?_append_left h]
   ·rw[List.getElem?_eq_none (by simp;omega),List.getElem?_eq_none h]
 ·rw[T2 (by omega),T2 (by omega),if_neg (by omega)]
theorem at1{α:Type}{l:List α}{x a:α}{i:Int}(h:ix l i=some a):ix (l++[x]) i=some a:=by
 rw[an8,if_neg (by have:=k8 h;omega),h]
theorem ix_snoc_new{α:Type}{l:List α}{x:α}:ix (l++[x]) (l.length:Int)=some x:=by rw[an8,if_pos rfl]
end Ab
end
section
namespace Ab
open Go
theorem wsN_tb:∀{l:Li},Inc l→(∀x ∈ l,0≤x)→∀k:Nat,(wsN l).testBit k=dec ((k:Int) ∈ l)
 |[],_,_,k=>by simp[wsN,dec]
 |a::l,h,h0,k=>by
  have hc:=List.pairwise_cons.1 h
  obtain⟨q,hq⟩:2 ^ (a.toNat+1) ∣ wsN l:=wsN_dvd fun x hx=>by have:=hc.1 x hx;have:=h0 a (by simp);omega
  have ih:=wsN_tb hc.2 (fun x hx=>h0 x (List.mem_cons_of_mem _ hx)) k
  have e:wsN (a::l)=wsN l|||2 ^ a.toNat:=by
   rw[hq,← Nat.two_pow_add_eq_or_of_lt (Nat.pow_lt_pow_right (by omega) (by omega)) q,← hq]
   simp only[wsN];omega
  rw[e,Nat.testBit_or,ih,Nat.testBit_two_pow]
  have ha:=h0 a (by simp)
  by_cases c:(k:Int)=a
  ·have:a.toNat=k:=by omega
   simp[this,c]
  ·have:¬ a.toNat=k:=by omega
   simp[this,c]
theorem SetN.tb{s:Li}{n:Int}(h:SetN s n)(k:Nat):(wsN s).testBit k=dec ((k:Int) ∈ s):=wsN_tb h.1 (fun x hx=>(h.2 x hx).1) k
theorem SetN.w32{s:Li}{n:Int}(h:SetN s n)(hn:n≤24):wsN s<4294967296:=by
 refine Nat.lt_pow_two_of_testBit (n:=32) _ fun i hi=> ?_
 rw[h.tb,dec_false]
 intro q
 have:=(h.2 _ q).2
 omega
theorem wrap32{n:Nat}(h:n<4294967296):IntKind.wrap .u32 (n:Int)=n:=by
 simp only[IntKind.wrap,IntKind.bits,IntKind.signed,Bool.false_and,Bool.false_eq_true,if_false]
 omega
theorem bit_and{a b:Nat}(ha:a<4294967296):Go.bits .and .u32 (a:Int) (b:Int)=((a &&& b:Nat):Int):=by
 have e:(BitVec.ofNat 32 a &&& BitVec.ofNat 32 b).toNat=a &&& b:=by
  rw[BitVec.toNat_and,BitVec.toNat_ofNat,BitVec.toNat_ofNat]
  refine Nat.eq_of_testBit_eq fun i=> ?_
  simp only[Nat.testBit_and,Nat.testBit_mod_two_pow]
  by_cases c:i<32
  ·simp[c]
  ·have:a.testBit i=false:=Nat.testBit_lt_two_pow (Nat.lt_of_lt_of_le ha (Nat.pow_le_pow_right (n:=2) (by omega) (show 32≤i by omega)))
   simp[this]
 rw[← e]
 simp only[Go.bits,BitVec.ofInt_natCast,IntKind.bits]
 exact wrap32 (BitVec.ofNat 32 a &&& BitVec.ofNat 32 b).isLt
theorem bit_or{a b:Nat}(ha:a<4294967296)(hb:b<4294967296):Go.bits .or .u32 (a:Int) (b:Int)=((a|||b:Nat):Int):=by
 have e:(BitVec.ofNat 32 a|||BitVec.ofNat 32 b).toNat=a|||b:=by
  rw[BitVec.toNat_or,BitVec.toNat_ofNat,BitVec.toNat_ofNat,Nat.mod_eq_of_lt (by simpa using ha),Nat.mod_eq_of_lt (by simpa using hb)]
 rw[← e]
 simp only[Go.bits,BitVec.ofInt_natCast,IntKind.bits]
 exact wrap32 (BitVec.ofNat 32 a|||BitVec.ofNat 32 b).isLt
theorem bit_andNot{a b:Nat}(ha:a<4294967296):∃c:Nat,Go.bits .andNot .u32 (a:Int) (b:Int)=(c:Int)∧c<4294967296∧∀k,c.testBit k=(a.testBit k && !b.testBit k):=by
 refine⟨(BitVec.ofNat 32 a &&& ~~~BitVec.ofNat 32 b).toNat,?_,(BitVec.ofNat 32 a &&& ~~~BitVec.ofNat 32 b).isLt,fun k=> ?_⟩
 ·simp only[Go.bits,BitVec.ofInt_natCast,IntKind.bits]
  exact wrap32 (BitVec.ofNat 32 a &&& ~~~BitVec.ofNat 32 b).isLt
 ·rw[BitVec.testBit_toNat,BitVec.getLsbD_and,BitVec.getLsbD_not,BitVec.getLsbD_ofNat,BitVec.getLsbD_ofNat]
  by_cases c:k<32
  ·simp[c]
  ·have:a.testBit k=false:=Nat.testBit_lt_two_pow (Nat.lt_of_lt_of_le ha (Nat.pow_le_pow_right (n:=2) (by omega) (show 32≤k by omega)))
   simp[c,this]
theorem sub_word{s p:Li}{n:Int}(hs:SetN s n)(hp:SetN p n)(hn:n≤24):Go.bits .and .u32 (wsN s:Int) (wsN p:Int)=(wsN p:Int)↔∀x ∈ p,x ∈ s:=by
 rw[bit_and (hs.w32 hn)]
 constructor
 ·intro h x hx
  have h0:=(hp.2 x hx).1
  have e:(wsN s &&& wsN p)=wsN p:=by omega
  have:=congrArg (fun n=>Nat.testBit n x.toNat) e
  simp only[Nat.testBit_and,hs.tb,hp.tb,show((x.toNat:Nat):Int)=x by omega,l9 hx,Bool.and_true,m7] at this
  exact this
 ·intro h
  have e:(wsN s &&& wsN p)=wsN p:=by
   refine Nat.eq_of_testBit_eq fun i=> ?_
   rw[Nat.testBit_and,hs.tb,hp.tb,dec_and]
   exact z2 ⟨fun q=>q.2,fun q=>⟨h _ q,q⟩⟩
  rw[e]
theorem next_word{s d a:Li}{n:Int}(hs:SetN s n)(hd:SetN d n)(ha:SetN a n)(hn:n≤24):
  Go.bits .or .u32 (Go.bits .andNot .u32 (wsN s:Int) (wsN d:Int)) (wsN a:Int)=(wsN (M1 (fun x=>x ∈ a∨x ∈ s∧x ∉ d) n):Int):=by
 obtain⟨c,c1,c2,c3⟩:=bit_andNot (b:=wsN d) (hs.w32 hn)
 have hr:SetN (M1 (fun x=>x ∈ a∨x ∈ s∧x ∉ d) n) n:=am7 _ _
 rw[c1,bit_or c2 (ha.w32 hn)]
 have e:c|||wsN a=wsN (M1 (fun x=>x ∈ a∨x ∈ s∧x ∉ d) n):=by
  refine Nat.eq_of_testBit_eq fun i=> ?_
  rw[Nat.testBit_or,c3,hs.tb,hd.tb,ha.tb,hr.tb,y8,dec_and,dec_or]
  refine z2 ?_
  rw[Y6]
  constructor
  ·rintro (⟨q1,q2⟩|q)
   ·exact⟨(hs.2 _ q1).1,(hs.2 _ q1).2,.inr ⟨q1,q2⟩⟩
   ·exact⟨(ha.2 _ q).1,(ha.2 _ q).2,.inl q⟩
  ·rintro ⟨_,_,q|q⟩
   ·exact .inr q
   ·exact .inl q
 rw[e]
theorem ap6{s:Li}{n:Int}(hs:SetN s n)(hn:n≤24):N9 s=some (wsN s:Int):=by
 unfold N9
 obtain⟨w,h1,h2⟩:=w8 (body:=ae0 s) (n:=(s.length:Int)) (s:=0) (fun j w=>w=(wsN (s.take j.toNat):Int)) (by omega) (by simp[wsN]) (fun j w j0 j1 hP=>by
  obtain⟨a,ha,ga⟩:=g9 (l:=s) j0 j1
  have hb:=hs.2 a (k7 ha)
  have ht:s.take (j+1).toNat=s.take j.toNat++[a]:=by rw[show(j+1).toNat=j.toNat+1 by omega,List.take_add_one,ga];rfl
  have h1:SetN (s.take j.toNat) n:=⟨List.Pairwise.sublist (List.take_sublist _ _) hs.1,fun x hx=>hs.2 x (List.mem_of_mem_take hx)⟩
  have h2:SetN (s.take j.toNat++[a]) n:=by rw[← ht];exact⟨List.Pairwise.sublist (List.take_sublist _ _) hs.1,fun x hx=>hs.2 x (List.mem_of_mem_take hx)⟩
  have h3:SetN [a] n:=⟨List.pairwise_singleton _ _,fun x hx=>by simp at hx;subst hx;exact hb⟩
  have e1:shlW .u32 1 a=(wsN [a]:Int):=by
   have:=h3.w32 hn
   unfold shlW
   simp only[wsN,Nat.add_zero] at this ⊢
   rw[show min a.toNat (IntKind.u32).bits=a.toNat by simp only[IntKind.bits];omega,Int.one_mul]
   have ep:(2:Int) ^ a.toNat=((2 ^ a.toNat:Nat):Int):=by push_cast;rfl
   rw[ep];exact wrap32 this
  refine⟨Go.bits .or .u32 w (shlW .u32 1 a),by simp only[ae0,ha,oB,chk0,if_neg (show ¬ a<0 by omega)],?_⟩
  rw[e1,hP,bit_or (h1.w32 hn) (h3.w32 hn),ht]
  have e:wsN (s.take j.toNat)|||wsN [a]=wsN (s.take j.toNat++[a]):=by
   refine Nat.eq_of_testBit_eq fun i=> ?_
   rw[Nat.testBit_or,h1.tb,h2.tb,h3.tb,dec_or]
   exact z2 (by simp)
  rw[e])
 rw[h1,h2,Int.toNat_natCast,List.take_length]
 rfl
noncomputable def N4(w:Nat)(n:Nat):Li:=(nums 0 n).filter fun x=>w.testBit x.toNat
theorem facts_eq{w:Nat}(hw:w<4294967296):W9 (w:Int)=some (N4 w 32):=by
 unfold W9
 obtain⟨r,h1,h2⟩:=w8 (body:=ab7 (w:Int)) (n:=32) (s:=[]) (fun j c=>c=N4 w j.toNat) (by omega) (by simp[N4,nums]) (fun j c j0 j1 hP=>by
  subst hP
  have hlen:(N4 w j.toNat).length≤32:=by
   refine Nat.le_trans (List.length_filter_le _ _) ?_
   rw[len_nums];omega
  have hn:nums 0 (j+1).toNat=nums 0 j.toNat++[j]:=by
   refine Inc.ext (av0 _ _) (List.pairwise_append.2 ⟨av0 _ _,List.pairwise_singleton _ _,fun x hx y hy=> ?_⟩) fun x=> ?_
   ·simp at hy;subst hy;have:=aa1.1 hx;omega
   ·rw[List.mem_append,aa1,aa1,List.mem_singleton];omega
  have e1:shrW .u32 (w:Int) j=((w>>>j.toNat:Nat):Int):=by
   unfold shrW
   rw[show min j.toNat (IntKind.u32).bits=j.toNat by simp only[IntKind.bits];omega]
   have ep:(2:Int) ^ j.toNat=((2 ^ j.toNat:Nat):Int):=by push_cast;rfl
   rw[ep,Nat.shiftRight_eq_div_pow,Int.fdiv_eq_ediv_of_nonneg _ (Int.natCast_nonneg _)]
   rfl
  have h2:w>>>j.toNat<4294967296:=Nat.lt_of_le_of_lt (Nat.shiftRight_le _ _) hw
  have e2:Go.bits .and .u32 ((w>>>j.toNat:Nat):Int) 1=((w>>>j.toNat &&& 1:Nat):Int):=bit_and (b:=1) h2
  have e3:(w>>>j.toNat &&& 1=1)↔w.testBit j.toNat=true:=by
   rw[Nat.testBit];simp[Nat.and_comm]
  unfold ab7
  rw[e1,e2]
  by_cases c:w.testBit j.toNat=true
  ·rw[if_pos (by have:=e3.2 c;omega),app,if_pos (by simp;omega)]
   exact⟨_,rfl,by simp[N4,hn,List.filter_append,c]⟩
  ·rw[if_neg (fun q=>c (e3.1 (by omega)))]
   exact⟨_,rfl,by simp[N4,hn,List.filter_append,c]⟩)
 rw[h1,h2];rfl
theorem bitsOf_inj{a b:Nat}(ha:a<4294967296)(hb:b<4294967296)(h:N4 a 32=N4 b 32):a=b:=by
 refine Nat.eq_of_testBit_eq fun i=> ?_
 by_cases c:i<32
 ·have key:∀w:Nat,(i:Int) ∈ N4 w 32↔w.testBit i=true:=fun w=>by
   simp only[N4,List.mem_filter,aa1,Int.toNat_natCast]
   exact⟨fun q=>q.2,fun q=>⟨by omega,q⟩⟩
  have:=(key a).symm.trans ((by rw[h]):((i:Int) ∈ N4 a 32↔(i:Int) ∈ N4 b 32))|>.trans (key b)
  cases h1:a.testBit i<;>cases h2:b.testBit i<;>simp[h1,h2] at this ⊢
 ·have low:∀w:Nat,w<4294967296→w.testBit i=false:=fun w hw=>Nat.testBit_lt_two_pow (Nat.lt_of_lt_of_le hw (Nat.pow_le_pow_right (n:=2) (by omega) (show 32≤i by omega)))
  rw[low a ha,low b hb]
theorem words_cmp:CmpOk (fun a b:U32=>L3 a.1 b.1) (fun a b=>cmpL (N4 a.1.toNat 32) (N4 b.1.toNat 32)):=by
 obtain⟨h1,h2,h3⟩:=cmp_ok
 refine⟨fun a b=> ?_,⟨fun x=>h2.irrefl _,fun x y z=>h2.trans _ _ _,fun x y z=>h2.ntrans _ _ _⟩,fun a b q1 q2=> ?_⟩
 ·have ea:=facts_eq (w:=a.1.toNat) (by have:=a.2;omega)
  have eb:=facts_eq (w:=b.1.toNat) (by have:=b.2;omega)
  rw[show((a.1.toNat:Nat):Int)=a.1 by have:=a.2;omega] at ea
  rw[show((b.1.toNat:Nat):Int)=b.1 by have:=b.2;omega] at eb
  simp only[L3,ea,eb,oB,h1]
 ·have:=bitsOf_inj (a:=a.1.toNat) (b:=b.1.toNat) (by have:=a.2;omega) (by have:=b.2;omega) (h3 _ _ q1 q2)
  have ha:=a.2;have hb:=b.2
  exact Subtype.ext (by omega)
theorem sortW{l:Li}(hl:l.length≤1000000)(hw:∀x ∈ l,0≤x∧x<4294967296):∃l',sortFU L3 l=some l'∧l'.Perm l:=by
 unfold sortFU
 rw[dif_pos hw,sortFL_eq (by simp;omega) words_cmp]
 refine⟨_,rfl,?_⟩
 have:=(List.mergeSort_perm (l.attach.map fun x=>(⟨x.1,hw x.1 x.2⟩:U32)) (fun x y=>decide (¬ cmpL (N4 y.1.toNat 32) (N4 x.1.toNat 32)<0))).map (fun z:U32=>z.1)
 simpa using this
end Ab
end
section
namespace Ab
open Go
inductive Rt(t:m6):Li→Prop
 |init:Rt t t.init
 |step {s:Li} {op:Int} (h:Rt t s) (h0:0≤op) (h1:op<t.operators.length) (hc:can t s op):Rt t (aft t s op)
theorem Rt.setN{t:m6}(ht:B0 t){s:Li}(h:Rt t s):SetN s t.facts:=by
 cases h with
 |init=>exact ht.init
 |step=>exact setN_aft _ _ _
theorem Rt.ends{t:m6}:∀{plan s e:Li},Rt t s→(∀x ∈ plan,(0:Int)≤x∧x<t.operators.length)→ends t s plan=some e→Rt t e
 |[],s,e,hs,_,h=>by simp only[Ab.ends,Option.some.injEq] at h;subst h;exact hs
 |op::r,s,e,hs,hv,h=>by
  simp only[Ab.ends] at h
  split at h
  ·rename_i hc
   have:=hv op List.mem_cons_self
   exact Rt.ends (hs.step this.1 this.2 (m7.1 hc)) (fun x hx=>hv x (List.mem_cons_of_mem _ hx)) h
  ·cases h
def Cls(t:m6)(l:LL)(s:Li):Prop:=∀op:Int,0≤op→op<t.operators.length→can t s op→aft t s op ∈ l
theorem Rt.mem{t:m6}{l:LL}(hi:t.init ∈ l)(hc:∀s ∈ l,Cls t l s){s:Li}(h:Rt t s):s ∈ l:=by
 induction h with
 |init=>exact hi
 |step h h0 h1 hcan ih=>exact hc _ ih _ h0 h1 hcan
def Many(t:m6):Prop:=∃l:LL,l.Nodup∧l.length=2001∧∀s ∈ l,Rt t s
end Ab
end
section
namespace Ab
open Go
abbrev Mk:=j8
def wd(s:Li):Int:=(wsN s:Int)
def mkOf(o:s9):Mk:=⟨wd o.pre,wd o.add,wd o.del,o.cost⟩
def mks(t:m6):List Mk:=t.operators.map mkOf
def canW(m:Mk)(x:Int):Prop:=Go.bits .and .u32 x m.pre=m.pre
def tgtW(m:Mk)(x:Int):Int:=Go.bits .or .u32 (Go.bits .andNot .u32 x m.del) m.add
theorem wd_inj{t:m6}(ht:B0 t){s s':Li}(h:SetN s t.facts)(h':SetN s' t.facts)(e:wd s=wd s'):s=s':=
 h.word_inj h' (by unfold wd at e;omega)
theorem wd_u32{t:m6}(ht:B0 t){s:Li}(h:SetN s t.facts):0≤wd s∧wd s<4294967296:=by
 have:=h.w32 ht.n1;unfold wd;omega
theorem op_ok{t:m6}(ht:B0 t){op:Int}(h0:0≤op)(h1:op<t.operators.length):W3 (opAt t op) t.facts∧ah6 (opAt t op):=ht.op _ (k7 (ix_op h0 h1))
theorem av7{t:m6}(ht:B0 t){s:Li}(h:SetN s t.facts){op:Int}(h0:0≤op)(h1:op<t.operators.length):canW (mkOf (opAt t op)) (wd s)↔can t s op:=
 sub_word h (op_ok ht h0 h1).1.1 ht.n1
theorem tgtW_eq{t:m6}(ht:B0 t){s:Li}(h:SetN s t.facts){op:Int}(h0:0≤op)(h1:op<t.operators.length):tgtW (mkOf (opAt t op)) (wd s)=wd (aft t s op):=
 next_word h (op_ok ht h0 h1).1.2.2.1 (op_ok ht h0 h1).1.2.1 ht.n1
theorem mks_mem{t:m6}{m:Mk}(h:m ∈ mks t):∃op:Int,0≤op∧op<t.operators.length∧m=mkOf (opAt t op):=by
 obtain⟨o,ho,rfl⟩:=List.mem_map.1 h
 obtain⟨i,h0,h1,h2⟩:=o7 ho
 rw[ix_op h0 h1] at h2;cases h2
 exact⟨i,h0,h1,rfl⟩
theorem mks_of{t:m6}{op:Int}(h0:0≤op)(h1:op<t.operators.length):mkOf (opAt t op) ∈ mks t:=List.mem_map.2 ⟨_,k7 (ix_op h0 h1),rfl⟩
theorem of_eq{t:m6}(ht:B0 t):ai1 t=some (wd t.init,wd t.goal,mks t):=by
 unfold ai1
 rw[ap6 ht.init ht.n1,ap6 ht.goal ht.n1]
 simp only[oB]
 obtain⟨r,h1,h2⟩:=w8 (body:=ad7 t) (n:=(t.operators.length:Int)) (s:=[]) (fun j c=>c=(t.operators.take j.toNat).map mkOf) (by omega) (by simp) (fun j c j0 j1 hP=>by
  have ho:=op_ok ht j0 j1
  have hx:=ix_op j0 j1
  have ga:=(k8 hx).2.2
  have hl:=ht.ops
  have htk:t.operators.take (j+1).toNat=t.operators.take j.toNat++[opAt t j]:=by rw[show(j+1).toNat=j.toNat+1 by omega,List.take_add_one,ga];rfl
  unfold ad7
  rw[hx]
  simp only[oB,ap6 ho.1.1 ht.n1,ap6 ho.1.2.1 ht.n1,ap6 ho.1.2.2.1 ht.n1]
  refine⟨c++[mkOf (opAt t j)],?_,?_⟩
  ·unfold app
   rw[if_pos (by rw[hP];simp;omega)];rfl
  ·rw[hP,htk];simp)
 rw[h1,h2,Int.toNat_natCast,List.take_length]
 rfl
def Rwd(t:m6)(x:Int):Prop:=∃s,Rt t s∧x=wd s
theorem states_of{t:m6}:∀{l:Li},(∀x ∈ l,Rwd t x)→∃ss:LL,ss.map wd=l∧∀s ∈ ss,Rt t s
 |[],_=>⟨[],rfl,by simp⟩
 |x::l,h=>by
  obtain⟨s,s1,s2⟩:=h x (by simp)
  obtain⟨ss,h1,h2⟩:=states_of (l:=l) fun y hy=>h y (List.mem_cons_of_mem _ hy)
  exact⟨s::ss,by simp[h1,s2],by simp[s1];exact h2⟩
theorem ap5{α β:Type}{f:α→β}:∀{l:List α},(l.map f).Nodup→l.Nodup
 |[],_=>List.nodup_nil
 |x::l,h=>by
  simp only[List.map_cons,List.nodup_cons] at h
  exact List.nodup_cons.2 ⟨fun hx=>h.1 (List.mem_map.2 ⟨x,hx,rfl⟩),ap5 h.2⟩
theorem many_of{t:m6}{l:Li}(hn:l.Nodup)(hl:2000<l.length)(h:∀x ∈ l,Rwd t x):Many t:=by
 obtain⟨ss,h1,h2⟩:=states_of (l:=l.take 2001) fun x hx=>h x (List.mem_of_mem_take hx)
 refine⟨ss,ap5 (f:=wd) (by rw[h1];exact hn.sublist (List.take_sublist _ _)),?_,h2⟩
 have:=congrArg List.length h1
 simp only[List.length_map,List.length_take] at this
 omega
theorem Rwd.next{t:m6}(ht:B0 t){x:Int}(h:Rwd t x){m:Mk}(hm:m ∈ mks t)(hc:canW m x):Rwd t (tgtW m x):=by
 obtain⟨s,s1,rfl⟩:=h
 obtain⟨op,h0,h1,rfl⟩:=mks_mem hm
 have hs:=s1.setN ht
 exact⟨_,.step s1 h0 h1 ((av7 ht hs h0 h1).1 hc),tgtW_eq ht hs h0 h1⟩
theorem Rwd.all{t:m6}(ht:B0 t){l:Li}(hi:wd t.init ∈ l)(hc:∀x ∈ l,∀m ∈ mks t,canW m x→tgtW m x ∈ l){x:Int}(h:Rwd t x):x ∈ l:=by
 obtain⟨s,h,rfl⟩:=h
 induction h with
 |init=>exact hi
 |step h h0 h1 hcan ih=>
  have hs:=h.setN ht
  have:=hc _ ih _ (mks_of h0 h1) ((av7 ht hs h0 h1).2 hcan)
  rwa [tgtW_eq ht hs h0 h1] at this
abbrev MpU:=List (Int×Unit)
theorem mgetU{m:MpU}{x:Int}:mget m x=none↔x ∉ m.map (·.1):=by
 constructor
 ·exact mget_none
 ·intro h
  cases e:mget m x with
  |none=>rfl
  |some u=>exact absurd (List.mem_map.2 ⟨_,mget_mem e,rfl⟩) h
structure AlW(t:m6)(q:Li)(f:MpU)(a:Li):Prop where
 nd:(f.map (·.1)).Nodup
 pm:(f.map (·.1)).Perm (q++a)
 rw:∀x ∈ f.map (·.1),Rwd t x
theorem all_in{t:m6}(ht:B0 t){q a:Li}{f:MpU}{x:Int}(hx:Rwd t x)(h:AlW t q f a)(hf:f.length≤2000)(u:Unit){c:Li}(hc:r9 c 0 ((c.length:Int) - 1)=q):
  ∃f' q',M0 (mks t) c f x u=some (f',q')∧AlW t q' f' a∧(∀y ∈ f.map (·.1),y ∈ f'.map (·.1))∧∀m ∈ mks t,canW m x→tgtW m x ∈ f'.map (·.1):=by
 unfold M0
 have hml:(mks t).length≤40:=by simp[mks];exact ht.ops
 obtain⟨r,h1,h2,h3,h4,h5⟩:=w8 (body:=L9 (mks t) x u) (n:=((mks t).length:Int)) (s:=(f,r9 c 0 ((c.length:Int) - 1)))
  (fun j s=>AlW t s.2 s.1 a∧(∀y ∈ f.map (·.1),y ∈ s.1.map (·.1))∧s.1.length≤2000+j∧∀i m,i<j→ix (mks t) i=some m→canW m x→tgtW m x ∈ s.1.map (·.1)) (by omega)
  ⟨by rw[hc];exact h,fun _ h=>h,by simp only;omega,fun i m hi hm=>by have:=(k8 hm).1;omega⟩ (fun j s j0 j1 hP=>by
   obtain⟨f',q'⟩:=s
   obtain⟨p1,p2,p3,p4⟩:=hP
   simp only at p1 p2 p3 p4
   obtain⟨m,hm,_⟩:=g9 j0 j1
   have hmm:=k7 hm
   unfold L9
   simp only[hm,oB]
   by_cases c1:Go.bits .and .u32 x m.pre=m.pre
   ·rw[if_pos c1]
    have c1':canW m x:=c1
    have ee:Go.bits .or .u32 (Go.bits .andNot .u32 x m.del) m.add=tgtW m x:=rfl
    rw[ee]
    by_cases c2:mget f' (tgtW m x)=none
    ·rw[if_pos (by simp[c2])]
     have hq:q'.length≤f'.length:=by have:=p1.pm.length_eq;simp at this;omega
     have ha:app 4 q' [tgtW m x]=some (q'++[tgtW m x]):=by unfold app;rw[if_pos (by simp;omega)]
     simp only[ha,oB]
     have hmem:=mgetU.1 c2
     refine⟨_,rfl,⟨?_,?_,?_⟩,?_,?_,?_⟩
     ·simp only[Y7 c2,List.map_append]
      refine List.nodup_append.2 ⟨p1.nd,by simp,fun y hy z hz e=> ?_⟩
      simp at hz;subst hz;subst e;exact hmem hy
     ·simp only[Y7 c2,List.map_append,List.map_cons,List.map_nil]
      refine(p1.pm.append_right _).trans ?_
      rw[List.append_assoc,List.append_assoc]
      exact List.Perm.append_left _ List.perm_append_comm
     ·intro y hy
      simp only[Y7 c2,List.map_append,List.mem_append,List.map_cons,List.map_nil,List.mem_singleton] at hy
      rcases hy with hy|rfl
      ·exact p1.rw y hy
      ·exact hx.next ht hmm c1'
     ·intro y hy
      simp only[Y7 c2,List.map_append,List.mem_append]
      exact .inl (p2 y hy)
     ·simp only[Y7 c2,List.length_append,List.length_singleton];omega
     ·intro i m' hi hm' hc'
      simp only[Y7 c2,List.map_append,List.mem_append]
      by_cases e:i=j
      ·subst e;rw[hm] at hm';cases hm';exact .inr (by simp)
      ·exact .inl (p4 i m' (by omega) hm' hc')
    ·rw[if_neg (by simp;cases e:mget f' (tgtW m x) with|none=>exact absurd e c2|some _=>simp)]
     refine⟨_,rfl,p1,p2,by simp only;omega,fun i m' hi hm' hc'=> ?_⟩
     by_cases e:i=j
     ·subst e;rw[hm] at hm';cases hm'
      exact Classical.byContradiction fun q=>c2 (mgetU.2 q)
     ·exact p4 i m' (by omega) hm' hc'
   ·rw[if_neg c1]
    refine⟨_,rfl,p1,p2,by simp only;omega,fun i m' hi hm' hc'=> ?_⟩
    by_cases e:i=j
    ·subst e;rw[hm] at hm';cases hm';exact absurd hc' c1
    ·exact p4 i m' (by omega) hm' hc')
 refine⟨r.1,r.2,by rw[h1];rfl,h2,h3,fun m hm hcan=> ?_⟩
 obtain⟨i,i0,i1,hi⟩:=o7 hm
 exact h5 i m i1 hi hcan
theorem all_spec{t:m6}(ht:B0 t)(goal:Int):∃l b,K5 (wd t.init) goal (mks t)=some (l,b)∧(b=false→Many t)∧(b=true→l.Nodup∧l.length≤2000∧∀x,x ∈ l↔Rwd t x):=by
 unfold K5
 simp only[B9,oB]
 have hi0:Rwd t (wd t.init):=⟨_,.init,rfl⟩
 obtain⟨o,h1,h2⟩:=J4 (body:=L8 (wd t.init) goal (mks t)) (s:=([wd t.init],mset ([]:MpU) (wd t.init) (),[]))
  (fun s=>AlW t s.1 s.2.1 s.2.2∧wd t.init ∈ s.2.1.map (·.1)∧s.2.1.length≤2000∧∀x ∈ s.2.2,∀m ∈ mks t,canW m x→tgtW m x ∈ s.2.1.map (·.1))
  (fun o=>match o with| .inl l=>l.Nodup∧l.length≤2000∧∀x,x ∈ l↔Rwd t x| .inr x=>x=([],false)∧Many t)
  (fun s=>2000 - s.2.2.length) ⟨⟨by simp[mset],by simp[mset],by simp[mset];exact hi0⟩,by simp[mset],by simp[mset],by simp⟩ (by
   rintro ⟨q,f,a⟩ ⟨p1,p2,p3,p4⟩
   simp only at p1 p2 p3 p4
   have hlen:f.length=q.length+a.length:=by have:=p1.pm.length_eq;simpa using this
   unfold L8
   by_cases c:0<q.length
   ·simp only[show(0:Int)<(q.length:Int) by omega,if_true]
    obtain⟨x,hx,gx⟩:=g9 (l:=q) (i:=(q.length:Int) - 1) (by omega) (by omega)
    have hq:r9 q 0 ((q.length:Int) - 1)++[x]=q:=by
     have:r9 q 0 ((q.length:Int) - 1)=q.take (q.length - 1):=by
      simp only[r9,Int.toNat_zero,List.drop_zero]
      rw[show((q.length:Int) - 1).toNat=q.length - 1 by omega]
     rw[this]
     have e:q.take (q.length - 1+1)=q.take (q.length - 1)++[x]:=by
      rw[List.take_add_one]
      rw[show((q.length:Int) - 1).toNat=q.length - 1 by omega] at gx
      rw[gx];rfl
     rw[← e,show q.length - 1+1=q.length by omega,List.take_length]
    have hxm:x ∈ f.map (·.1):=p1.pm.mem_iff.2 (List.mem_append_left _ (k7 hx))
    have hxr:=p1.rw x hxm
    have ha:app 4 a [x]=some (a++[x]):=by unfold app;rw[if_pos (by simp;omega)]
    have p1':AlW t (r9 q 0 ((q.length:Int) - 1)) f (a++[x]):=⟨p1.nd,p1.pm.trans (by
     rw (occs:=.pos [1]) [← hq]
     rw[List.append_assoc]
     exact List.Perm.append_left _ List.perm_append_comm),p1.rw⟩
    obtain⟨f',q',k1,k2,k3,k4⟩:=all_in ht hxr p1' p3 () rfl
    simp only[hx,ha,cutV,oB,F2]
    rw[if_pos (by omega)]
    simp only[oB,k1]
    by_cases big:2000<f'.length
    ·rw[if_pos (by omega)]
     exact .inr ⟨_,rfl,rfl,many_of k2.nd (by simpa using big) k2.rw⟩
    ·rw[if_neg (by omega)]
     have hlen':f'.length=q'.length+(a++[x]).length:=by have:=k2.pm.length_eq;simpa using this
     refine .inl ⟨_,rfl,⟨k2,k3 _ p2,by simp only;omega,fun y hy m hm hc=> ?_⟩,by simp only[List.length_append,List.length_singleton] at hlen' ⊢;omega⟩
     simp only[List.mem_append,List.mem_singleton] at hy
     rcases hy with hy|rfl
     ·exact k3 _ (p4 y hy m hm hc)
     ·exact k4 m hm hc
   ·have:q=[]:=List.eq_nil_of_length_eq_zero (by omega)
    subst this
    refine .inr ⟨.inl a,by simp,?_⟩
    have hp:(f.map (·.1)).Perm a:=by simpa using p1.pm
    refine⟨hp.nodup_iff.1 p1.nd,by simp at hlen;omega,fun x=>⟨fun hx=>p1.rw x (hp.mem_iff.2 hx),fun hx=> ?_⟩⟩
    exact Rwd.all ht (hp.mem_iff.1 p2) (fun y hy m hm hc=>hp.mem_iff.1 (p4 y hy m hm hc)) hx)
 rw[h1]
 rcases o with l|o
 ·exact⟨l,true,rfl,by simp,fun _=>h2⟩
 ·obtain⟨rfl,h3⟩:=h2
  exact⟨[],false,rfl,fun _=>h3,by simp⟩
end Ab
end
section
namespace Ab
open Go
abbrev En:=b9
def Hp(L:Li)(E:List En):Prop:=∀i h,ix L i=some h→∃e,ix E h=some e∧e.fat=i
structure Sme(L:Li)(E:List En)(L':Li)(E':List En):Prop where
 len:L'.length=L.length
 mem:∀h,h ∈ L'↔h ∈ L
 elen:E'.length=E.length
 e:∀h a,ix E h=some a→∃a',ix E' h=some a'∧a'.item=a.item∧a'.key=a.key
theorem Sme.refl(L:Li)(E:List En):Sme L E L E:=⟨rfl,fun _=>Iff.rfl,rfl,fun h a ha=>⟨a,ha,rfl,rfl⟩⟩
theorem Sme.trans{L L' L'':Li}{E E' E'':List En}(h:Sme L E L' E')(g:Sme L' E' L'' E''):Sme L E L'' E'':=by
 refine⟨g.len.trans h.len,fun x=>(g.mem x).trans (h.mem x),g.elen.trans h.elen,fun x a ha=> ?_⟩
 obtain⟨b,b1,b2,b3⟩:=h.e x a ha
 obtain⟨c,c1,c2,c3⟩:=g.e x b b1
 exact⟨c,c1,c2.trans b2,c3.trans b3⟩
theorem Hp.inj{L:Li}{E:List En}(h:Hp L E){i j x:Int}(h1:ix L i=some x)(h2:ix L j=some x):i=j:=by
 obtain⟨e,e1,e2⟩:=h i x h1
 obtain⟨f,f1,f2⟩:=h j x h2
 rw[e1] at f1;cases f1;rw[← e2,← f2]
theorem mem_ixI{α:Type}{l:List α}{x:α}:x ∈ l↔∃i:Int,ix l i=some x:=by
 constructor
 ·intro h
  obtain⟨k,hk⟩:=List.getElem?_of_mem h
  exact⟨k,by rw[N3];exact hk⟩
 ·rintro ⟨i,h⟩;exact k7 h
theorem less_ok{L:Li}{E:List En}(h:Hp L E){i k:Int}(hi:0≤i)(hi':i<L.length)(hk:0≤k)(hk':k<L.length):∃b,q7 i k L E=some b:=by
 obtain⟨x,x1,_⟩:=g9 hi hi'
 obtain⟨y,y1,_⟩:=g9 hk hk'
 obtain⟨e,e1,_⟩:=h i x x1
 obtain⟨f,f1,_⟩:=h k y y1
 exact⟨_,by simp only[q7,x1,y1,e1,f1,oB];rfl⟩
theorem swap_ok{L:Li}{E:List En}(h:Hp L E){i k:Int}(hi:0≤i)(hi':i<L.length)(hk:0≤k)(hk':k<L.length):
  ∃L' E',p8 i k L E=some (L',E')∧Hp L' E'∧Sme L E L' E'∧(∀x,ix L i=some x→ix L' k=some x):=by
 obtain⟨x,x1,_⟩:=g9 hi hi'
 obtain⟨y,y1,_⟩:=g9 hk hk'
 obtain⟨e,e1,e2⟩:=h i x x1
 obtain⟨f,f1,f2⟩:=h k y y1
 obtain⟨ex0,ex1,_⟩:=k8 e1
 obtain⟨ey0,ey1,_⟩:=k8 f1
 have hL:∀j,ix ((L.set i.toNat y).set k.toNat x) j=if j=k then some x else if j=i then some y else ix L j:=by
  intro j
  by_cases hj:0≤j
  ·rw[W2 hk (by simp;omega) hj]
   split
   ·rfl
   ·rw[W2 hi hi' hj]
  ·rw[T2 (by omega),T2 (by omega),if_neg (by omega),if_neg (by omega)]
 have q1:ix ((L.set i.toNat y).set k.toNat x) i=some y:=by
  rw[hL]
  by_cases c:i=k
  ·subst c;rw[x1] at y1;cases y1;simp
  ·rw[if_neg c,if_pos rfl]
 have q2:ix ((L.set i.toNat y).set k.toNat x) k=some x:=by rw[hL,if_pos rfl]
 have hE:∀j,ix (E.set y.toNat (⟨f.item,f.key,f.time,i⟩:En)) j=if j=y then some ⟨f.item,f.key,f.time,i⟩ else ix E j:=by
  intro j
  by_cases hj:0≤j
  ·rw[W2 ey0 ey1 hj]
  ·rw[T2 (by omega),T2 (by omega),if_neg (by omega)]
 obtain⟨g,g1,g2,g3⟩:∃g,ix (E.set y.toNat (⟨f.item,f.key,f.time,i⟩:En)) x=some g∧g.item=e.item∧g.key=e.key:=by
  rw[hE]
  by_cases c:x=y
  ·subst c;rw[e1] at f1;cases f1;exact⟨_,if_pos rfl,rfl,rfl⟩
  ·exact⟨e,by rw[if_neg c,e1],rfl,rfl⟩
 have hE2:∀j,ix ((E.set y.toNat (⟨f.item,f.key,f.time,i⟩:En)).set x.toNat (⟨g.item,g.key,g.time,k⟩:En)) j=if j=x then some ⟨g.item,g.key,g.time,k⟩ else if j=y then some ⟨f.item,f.key,f.time,i⟩ else ix E j:=by
  intro j
  by_cases hj:0≤j
  ·rw[W2 ex0 (by simp;omega) hj,hE]
  ·rw[T2 (by omega),T2 (by omega),if_neg (by omega),if_neg (by omega)]
 refine⟨_,_,by simp only[p8,x1,y1,q1,q2,f1,g1,oB];rfl,?_,⟨by simp,fun z=> ?_,by simp,fun z a ha=> ?_⟩,?_⟩
 ·intro j z hz
  rw[hL] at hz
  by_cases c:j=k
  ·rw[if_pos c] at hz;cases hz
   exact⟨_,by rw[hE2,if_pos rfl],c.symm⟩
  ·rw[if_neg c] at hz
   by_cases d:j=i
   ·rw[if_pos d] at hz;cases hz
    have:y ≠ x:=fun q=>by subst q;exact c (d.trans (h.inj x1 y1))
    exact⟨_,by rw[hE2,if_neg this,if_pos rfl],d.symm⟩
   ·rw[if_neg d] at hz
    obtain⟨a,a1,a2⟩:=h j z hz
    refine⟨a,?_,a2⟩
    rw[hE2,if_neg (fun q=>by subst q;exact d (h.inj hz x1)),if_neg (fun q=>by subst q;exact c (h.inj hz y1)),a1]
 ·rw[mem_ixI,mem_ixI]
  constructor
  ·rintro ⟨j,hj⟩
   rw[hL] at hj
   split at hj
   ·cases hj;exact⟨i,x1⟩
   ·split at hj
    ·cases hj;exact⟨k,y1⟩
    ·exact⟨j,hj⟩
  ·rintro ⟨j,hj⟩
   by_cases c:j=k
   ·subst c;rw[y1] at hj;cases hj;exact⟨i,q1⟩
   ·by_cases d:j=i
    ·subst d;rw[x1] at hj;cases hj;exact⟨k,q2⟩
    ·exact⟨j,by rw[hL,if_neg c,if_neg d,hj]⟩
 ·rw[hE2]
  by_cases c:z=x
  ·subst c;rw[e1] at ha;cases ha;exact⟨_,if_pos rfl,g2,g3⟩
  ·rw[if_neg c]
   by_cases d:z=y
   ·subst d;rw[f1] at ha;cases ha;exact⟨_,if_pos rfl,rfl,rfl⟩
   ·exact⟨a,by rw[if_neg d,ha],rfl,rfl⟩
 ·intro z hz;rw[x1] at hz;cases hz;exact q2
theorem same_swap:A0=p8:=rfl
theorem same_down:K4=C5:=rfl
structure Kp(nv:Int)(L:Li)(E:List En)(l:Li)(e:List En):Prop where
 hp:Hp l e
 sm:Sme L E l e
 hi:∀j,nv≤j→ix l j=ix L j
theorem ix_sw{L L':Li}{E E':List En}{i k:Int}(h:p8 i k L E=some (L',E'))(hk0:0≤k)(hi0:0≤i)(hi1:i<L.length)(hk1:k<L.length){j:Int}(h1:j ≠ i)(h2:j ≠ k):ix L' j=ix L j:=by
 unfold p8 at h
 simp only[Option.bind_eq_some_iff] at h
 obtain⟨a,_,b,_,c,_,d,_,e,_,f,_,g⟩:=h
 cases g
 by_cases hj:0≤j
 ·rw[W2 hk0 (by simp;omega) hj,if_neg h2,W2 hi0 hi1 hj,if_neg h1]
 ·rw[T2 (by omega),T2 (by omega)]
theorem down_body{nv i:Int}{L l:Li}{E e:List En}(g:Kp nv L E l e)(hn:nv≤L.length)(hb:L.length≤1000000){c:Int}(hc:0≤c)(hc':c<L.length):
  (∃l' e' c',A4 nv (l,e,c)=some (.inl (l',e',c'))∧Kp nv L E l' e'∧c<c'∧c'<nv)∨A4 nv (l,e,c)=some (.inr (l,e,c)):=by
 have hl:=g.sm.len
 unfold A4
 have e1:w64 (w64 (2 * c)+1)=2 * c+1:=by rw[y6 (n:=2 * c) (by omega) (by omega),y6 (by omega) (by omega)]
 simp only[e1]
 by_cases c1:nv≤2 * c+1
 ·rw[if_pos (by simp[c1])];exact .inr rfl
 rw[if_neg (by simp;omega)]
 have e2:w64 (2 * c+1+1)=2 * c+2:=by rw[y6 (by omega) (by omega)];omega
 simp only[e2]
 obtain⟨j,j1,j2,j3⟩:∃j,(Option.bind (if 2 * c+2<nv then Option.bind (q7 (2 * c+2) (2 * c+1) l e) fun a32=>some a32 else some false) fun t69=>if t69=true then some (2 * c+2) else some (2 * c+1))=some j∧c<j∧j<nv:=by
  by_cases c2:2 * c+2<nv
  ·obtain⟨b,hb'⟩:=less_ok g.hp (i:=2 * c+2) (k:=2 * c+1) (by omega) (by omega) (by omega) (by omega)
   rw[if_pos c2,hb']
   cases b
   ·exact⟨2 * c+1,rfl,by omega,by omega⟩
   ·exact⟨2 * c+2,rfl,by omega,by omega⟩
  ·rw[if_neg c2]
   exact⟨2 * c+1,rfl,by omega,by omega⟩
 rw[j1,Option.bind_some]
 obtain⟨b,hb'⟩:=less_ok g.hp (i:=j) (k:=c) (by omega) (by omega) (by omega) (by omega)
 rw[hb',Option.bind_some]
 cases b
 ·exact .inr rfl
 ·obtain⟨l',e',s1,s2,s3,_⟩:=swap_ok g.hp (i:=c) (k:=j) (by omega) (by omega) (by omega) (by omega)
  simp only[s1,oB,ah1,s3.len]
  refine .inl ⟨l',e',j,rfl,⟨s2,g.sm.trans s3,fun q hq=> ?_⟩,j2,j3⟩
  rw[ix_sw s1 (by omega) (by omega) (by omega) (by omega) (by omega) (by omega),g.hi q hq]
theorem down_ok{nv t0:Int}{L:Li}{M:List (Int×Int)}{E:List En}(h:Hp L E){i:Int}(hi:0≤i)(hi':i<L.length)(hn:nv≤L.length)(hb:L.length≤1000000):
  ∃L' E' b,C5 i nv t0 L M E=some (L',E',b)∧Kp nv L E L' E':=by
 unfold C5
 obtain⟨o,o1,o2⟩:=J4 (body:=A4 nv) (s:=(L,E,i))
  (fun s=>Kp nv L E s.1 s.2.1∧0≤s.2.2∧s.2.2<L.length) (fun o=>Kp nv L E o.1 o.2.1) (fun s=>(nv - s.2.2).toNat)
  ⟨⟨h,.refl _ _,fun _ _=>rfl⟩,hi,hi'⟩ (by
   rintro ⟨l,e,c⟩ ⟨g1,g2,g3⟩
   simp only at g1 g2 g3
   rcases down_body (i:=i) g1 hn hb g2 g3 with⟨l',e',c',q1,q2,q3,q4⟩|q
   ·exact .inl ⟨_,q1,⟨q2,by change 0≤c';omega,by change c'<_;omega⟩,by change (nv - c').toNat<(nv - c).toNat;omega⟩
   ·exact .inr ⟨_,q,g1⟩)
 obtain⟨a,b,c⟩:=o
 exact⟨a,b,_,by rw[o1];rfl,o2⟩
theorem up_ok{t0:Int}{L:Li}{M:List (Int×Int)}{E:List En}(h:Hp L E){i:Int}(hi:0≤i)(hi':i<L.length)(hb:L.length≤1000000):
  ∃L' E',F1 i t0 L M E=some (L',E')∧Hp L' E'∧Sme L E L' E':=by
 unfold F1
 obtain⟨o,o1,o2⟩:=J4 (body:=K3) (s:=(L,E,i))
  (fun s=>(Hp s.1 s.2.1∧Sme L E s.1 s.2.1)∧0≤s.2.2∧s.2.2<L.length) (fun o=>Hp o.1 o.2∧Sme L E o.1 o.2) (fun s=>s.2.2.toNat)
  ⟨⟨h,.refl _ _⟩,hi,hi'⟩ (by
   rintro ⟨l,e,c⟩ ⟨⟨g1,g4⟩,g2,g3⟩
   simp only at g1 g2 g3 g4
   have hl:=g4.len
   unfold K3
   have e1:w64 (c - 1)=c - 1:=y6 (by omega) (by omega)
   have e3:(c - 1).tdiv 2=if c=0 then 0 else(c - 1) / 2:=by
    split
    ·rename_i q;subst q;rfl
    ·rw[Int.tdiv_eq_ediv_of_nonneg (by omega)]
   have e2:w64 ((c - 1).tdiv 2)=if c=0 then 0 else(c - 1) / 2:=by
    rw[e3];split
    ·rfl
    ·exact y6 (by omega) (by omega)
   simp only[e1,e2,chkN,show((2:Int)=0)=False by simp,if_false,oB]
   by_cases c0:c=0
   ·subst c0
    rw[if_pos (by simp)]
    exact .inr ⟨_,rfl,g1,g4⟩
   ·simp only[if_neg c0]
    rw[if_neg (by omega)]
    obtain⟨b,hb'⟩:=less_ok g1 (i:=c) (k:=(c - 1) / 2) (by omega) (by omega) (by omega) (by omega)
    rw[hb']
    cases b
    ·exact .inr ⟨_,rfl,g1,g4⟩
    ·obtain⟨l',e',s1,s2,s3,_⟩:=swap_ok g1 (i:=(c - 1) / 2) (k:=c) (by omega) (by omega) (by omega) (by omega)
     simp only[oB,Bool.not_true,Bool.false_eq_true,if_false,s1,ah1,s3.len,if_true]
     exact .inl ⟨_,rfl,⟨⟨s2,g4.trans s3⟩,by simp only;omega,by simp only;omega⟩,by simp only;omega⟩)
 exact⟨o.1,o.2,by rw[o1];rfl,o2⟩
theorem fix_ok{t0:Int}{L:Li}{M:List (Int×Int)}{E:List En}(h:Hp L E){i:Int}(hi:0≤i)(hi':i<L.length)(hb:L.length≤1000000):
  ∃L' E',D9 i t0 L M E=some (L',E')∧Hp L' E'∧Sme L E L' E':=by
 unfold D9
 obtain⟨L',E',b,h1,h2⟩:=down_ok (nv:=L.length) (t0:=t0) (M:=M) h hi hi' (by omega) hb
 simp only[u3,h1,oB]
 cases b
 ·obtain⟨L2,E2,k1,k2,k3⟩:=up_ok (t0:=t0) (M:=M) h2.hp hi (by rw[h2.sm.len];exact hi') (by rw[h2.sm.len];exact hb)
  exact⟨L2,E2,by simp[k1],k2,h2.sm.trans k3⟩
 ·exact⟨L',E',by simp,h2.hp,h2.sm⟩
theorem push_ok{t0:Int}{L:Li}{M:List (Int×Int)}{E:List En}(h:Hp L E){x:Int}{e:En}(hx:ix E x=some e)(hn:x ∉ L)(hb:L.length≤999999):
  ∃L' E',C3 x t0 E L M=some (E',L')∧Hp L' E'∧Sme (L++[x]) E L' E':=by
 unfold C3 C7
 obtain⟨x0,x1,_⟩:=k8 hx
 have ha:app 8 L [x]=some (L++[x]):=by unfold app;rw[if_pos (by simp;omega)]
 have hE:∀j,ix (E.set x.toNat (⟨e.item,e.key,e.time,(L.length:Int)⟩:En)) j=if j=x then some ⟨e.item,e.key,e.time,(L.length:Int)⟩ else ix E j:=by
  intro j
  by_cases hj:0≤j
  ·rw[W2 x0 x1 hj]
  ·rw[T2 (by omega),T2 (by omega),if_neg (by omega)]
 simp only[hx,ha,oB,u3]
 have e1:w64 (((L++[x]).length:Int) - 1)=(L.length:Int):=by rw[show(((L++[x]).length:Int) - 1)=(L.length:Int) by simp];exact y6 (by omega) (by omega)
 have hh:Hp (L++[x]) (E.set x.toNat (⟨e.item,e.key,e.time,(L.length:Int)⟩:En)):=by
  intro i z hz
  rw[an8] at hz
  by_cases c:i=L.length
  ·rw[if_pos c] at hz;cases hz
   exact⟨_,by rw[hE,if_pos rfl],c.symm⟩
  ·rw[if_neg c] at hz
   obtain⟨a,a1,a2⟩:=h i z hz
   exact⟨a,by rw[hE,if_neg (fun q=>by subst q;exact hn (k7 hz)),a1],a2⟩
 obtain⟨L',E',k1,k2,k3⟩:=up_ok (t0:=t0) (M:=M) hh (i:=L.length) (by omega) (by simp;omega) (by simp;omega)
 refine⟨L',E',by rw[e1,k1];rfl,k2,Sme.trans ⟨rfl,fun _=>Iff.rfl,by simp,fun z a hz=> ?_⟩ k3⟩
 rw[hE]
 by_cases c:z=x
 ·subst c;rw[hx] at hz;cases hz;exact⟨_,if_pos rfl,rfl,rfl⟩
 ·exact⟨a,by rw[if_neg c,hz],rfl,rfl⟩
theorem pop_ok{t0:Int}{L:Li}{M:List (Int×Int)}{E:List En}(h:Hp L E)(hl:0<L.length)(hb:L.length≤1000000):
  ∃L' E' x,H1 t0 L M E=some (E',L',x)∧Hp L' E'∧Sme L E (L'++[x]) E'∧x ∉ L':=by
 unfold H1
 have e1:w64 ((L.length:Int) - 1)=(L.length:Int) - 1:=y6 (by omega) (by omega)
 obtain⟨l,e,s1,s2,s3,_⟩:=swap_ok h (i:=0) (k:=(L.length:Int) - 1) (by omega) (by omega) (by omega) (by omega)
 have hl':=s3.len
 obtain⟨L1,E1,b,d1,d2⟩:=down_ok (nv:=(L.length:Int) - 1) (t0:=t0) (M:=M) s2 (i:=0) (by omega) (by omega) (by omega) (by omega)
 have hs:=s3.trans d2.sm
 have hl1:=hs.len
 obtain⟨x,x1,_⟩:=g9 (l:=L1) (i:=(L.length:Int) - 1) (by omega) (by omega)
 have hcut:subL L1 0 ((L1.length:Int) - 1)=some L1.dropLast:=by
  unfold subL
  rw[if_pos (by omega)]
  simp only[Int.toNat_zero,List.drop_zero,List.dropLast_eq_take]
  rw[show((L1.length:Int) - 1).toNat=L1.length - 1 by omega]
 have hsnoc:L1.dropLast++[x]=L1:=by
  have hne:L1 ≠ []:=by intro q;rw[q] at hl1;simp at hl1;omega
  have:=(k8 x1).2.2
  rw[show((L.length:Int) - 1).toNat=L1.length - 1 by omega] at this
  have hlast:L1.getLast hne=x:=by
   rw[List.getLast_eq_getElem]
   have:=lG.1 this
   exact this.2
  rw[← hlast];exact List.dropLast_concat_getLast hne
 have hd:Hp L1.dropLast E1:=fun i z hz=>d2.hp i z (by
  have:=at1 (x:=x) hz;rwa [hsnoc] at this)
 refine⟨L1.dropLast,E1,x,?_,hd,by rw[hsnoc];exact hs,fun hx=> ?_⟩
 ·rw[same_swap,same_down]
  simp only[u3,e1,s1,oB,ah1,hl',if_true,d1,D7,hcut]
  rw[show(L1.length:Int) - 1=(L.length:Int) - 1 by omega,x1];rfl
 ·obtain⟨i,hi⟩:=mem_ixI.1 hx
  have h2:=at1 (x:=x) hi
  rw[hsnoc] at h2
  have:=d2.hp.inj h2 x1
  have h3:=(k8 hi).2.1
  simp at h3;omega
end Ab
end
section
namespace Ab
open Go
theorem mset_nodup{k v:Int}{m:List (Int×Int)}(h:(m.map (·.1)).Nodup):((mset m k v).map (·.1)).Nodup:=by
 by_cases c:mget m k=none
 ·rw[Y7 c,List.map_append]
  refine List.nodup_append.2 ⟨h,by simp,fun a ha b hb e=> ?_⟩
  simp at hb;subst hb;subst e;exact mget_none c ha
 ·rw[mset_keys c];exact h
theorem mget_of_mem{k v:Int}:∀{m:List (Int×Int)},(m.map (·.1)).Nodup→(k,v) ∈ m→mget m k=some v
 |[],_,h=>by simp at h
 |p::r,hn,h=>by
  simp only[List.map_cons,List.nodup_cons] at hn
  simp only[mget]
  rcases List.mem_cons.1 h with e|h
  ·subst e;simp
  ·rw[if_neg (fun e=>hn.1 (by rw[← e];exact List.mem_map.2 ⟨_,h,rfl⟩))]
   exact mget_of_mem hn.2 h
theorem mdel_sub{k:Int}:∀{m:List (Int×Int)},(mdel m k).Sublist m
 |[]=>List.Sublist.slnil
 |p::r=>by
  simp only[mdel]
  split
  ·exact List.sublist_cons_self _ _
  ·exact mdel_sub.cons_cons _
theorem mget_mdel{k:Int}:∀{m:List (Int×Int)},(m.map (·.1)).Nodup→∀x,mget (mdel m k) x=if x=k then none else mget m x
 |[],_,x=>by simp[mdel,mget]
 |p::r,hn,x=>by
  simp only[List.map_cons,List.nodup_cons] at hn
  simp only[mdel]
  by_cases c:k=p.1
  ·rw[if_pos c]
   by_cases d:x=k
   ·rw[if_pos d]
    cases e:mget r x with
    |none=>rfl
    |some v=>exact absurd (List.mem_map.2 ⟨_,mget_mem e,rfl⟩) (by rw[d,c];exact hn.1)
   ·rw[if_neg d]
    simp only[mget]
    rw[if_neg (fun e=>d (e.trans c.symm))]
  ·rw[if_neg c]
   simp only[mget,mget_mdel hn.2]
   by_cases d:x=k
   ·rw[if_pos d,if_pos d,if_neg (by rw[d];exact c)]
   ·rw[if_neg d,if_neg d]
structure Qu(M:List (Int×Int))(L:Li)(E:List En):Prop where
 hp:Hp L E
 keys:(M.map (·.1)).Nodup
 mem:∀x h,mget M x=some h↔h ∈ L∧∃e,ix E h=some e∧e.item=x
def qkey(M:List (Int×Int))(E:List En)(x:Int):Option Int:=(mget M x).bind fun h=>(ix E h).map (·.key)
theorem Sme.item{L L':Li}{E E':List En}(h:Sme L E L' E')(x y:Int):(∃e,ix E' x=some e∧e.item=y)↔∃e,ix E x=some e∧e.item=y:=by
 constructor
 ·rintro ⟨e,e1,e2⟩
  obtain⟨a,b,_⟩:=k8 e1
  obtain⟨f,f1,_⟩:=g9 (l:=E) a (by rw[← h.elen];exact b)
  obtain⟨g,g1,g2,_⟩:=h.e x f f1
  rw[e1] at g1;cases g1
  exact⟨f,f1,g2.symm.trans e2⟩
 ·rintro ⟨e,e1,e2⟩
  obtain⟨g,g1,g2,_⟩:=h.e x e e1
  exact⟨g,g1,g2.trans e2⟩
theorem Sme.key{L L':Li}{E E':List En}(h:Sme L E L' E')(x:Int):(ix E' x).map (·.key)=(ix E x).map (·.key):=by
 cases e1:ix E x with
 |some e=>
  obtain⟨g,g1,_,g3⟩:=h.e x e e1
  rw[g1];simp[g3]
 |none=>
  cases e2:ix E' x with
  |none=>rfl
  |some e=>
   obtain⟨a,b,_⟩:=k8 e2
   obtain⟨f,f1,_⟩:=g9 (l:=E) a (by rw[← h.elen];exact b)
   rw[e1] at f1;cases f1
theorem Qu.sme{M:List (Int×Int)}{L L':Li}{E E':List En}(h:Qu M L E)(hp:Hp L' E')(hs:Sme L E L' E'):Qu M L' E'∧∀x,qkey M E' x=qkey M E x:=by
 refine⟨⟨hp,h.keys,fun x y=> ?_⟩,fun x=> ?_⟩
 ·rw[h.mem,hs.mem,hs.item]
 ·unfold qkey
  cases mget M x with
  |none=>rfl
  |some y=>simp[hs.key]
theorem Qu.nil:Qu [] [] []:=⟨fun i h e=>by simp[ix] at e,by simp,fun x h=>by simp[mget]⟩
theorem Qu.val{M:List (Int×Int)}{L:Li}{E:List En}(h:Qu M L E){z:Int}(hz:z ∈ L):z.toNat<E.length:=by
 obtain⟨i,_,_,hi⟩:=o7 hz
 obtain⟨e,e1,_⟩:=h.hp i z hi
 exact f8 e1
theorem Qu.chk1{M:List (Int×Int)}{L:Li}{E:List En}(h:Qu M L E):chkH E.length L=some ():=by
 unfold chkH;rw[if_pos (fun z hz=>h.val hz)]
theorem Qu.chk2{M:List (Int×Int)}{L:Li}{E:List En}(h:Qu M L E):chkH E.length (M.map (·.2))=some ():=by
 unfold chkH
 rw[if_pos]
 intro z hz
 obtain⟨p,hp,rfl⟩:=List.mem_map.1 hz
 exact h.val ((h.mem p.1 p.2).1 (mget_of_mem h.keys hp)).1
theorem Qu.item_inj{M:List (Int×Int)}{L:Li}{E:List En}(h:Qu M L E){a b:Int}{e f:En}(ha:a ∈ L)(hb:b ∈ L)(he:ix E a=some e)(hf:ix E b=some f)(hi:e.item=f.item):a=b:=by
 have h1:=(h.mem e.item a).2 ⟨ha,e,he,rfl⟩
 have h2:=(h.mem e.item b).2 ⟨hb,f,hf,hi.symm⟩
 rw[h1] at h2;exact Option.some.inj h2
theorem Hp.nodup{L:Li}{E:List En}(h:Hp L E):L.Nodup:=by
 refine List.pairwise_iff_getElem.2 fun i j hi hj hij e=> ?_
 have h1:ix L (j:Int)=some L[j]:=ix_ltN hj
 have h2:ix L (i:Int)=some L[j]:=by rw[← e];exact ix_ltN hi
 have:=h.inj h1 h2
 omega
theorem Qu.le{M:List (Int×Int)}{L:Li}{E:List En}(h:Qu M L E){vs:Li}(hv:∀x,qkey M E x ≠ none→x ∈ vs):L.length≤vs.length:=by
 have h1:(L.map fun z=>((ix E z).map (·.item)).getD 0).Nodup:=by
  refine List.pairwise_map.2 ?_
  have:=h.hp.nodup
  refine List.Pairwise.imp_of_mem (R:=(· ≠ ·)) (fun {a b} ha hb hab e=>hab ?_) this
  obtain⟨i,_,_,hi⟩:=o7 ha
  obtain⟨j,_,_,hj⟩:=o7 hb
  obtain⟨x,x1,_⟩:=h.hp i a hi
  obtain⟨y,y1,_⟩:=h.hp j b hj
  refine h.item_inj ha hb x1 y1 ?_
  simpa[x1,y1] using e
 have:=af7 h1 (S:=vs) (fun x hx=>by
  obtain⟨a,ha,rfl⟩:=List.mem_map.1 hx
  obtain⟨i,_,_,hi⟩:=o7 ha
  obtain⟨e,e1,_⟩:=h.hp i a hi
  refine hv _ ?_
  have:=(h.mem e.item a).2 ⟨ha,e,e1,rfl⟩
  simp[e1,qkey,this])
 simpa using this
theorem set_ok{M:List (Int×Int)}{L:Li}{E:List En}(h:Qu M L E)(hb:L.length≤999999)(item key t0:Int):
  ∃M' L' E',v6 item key t0 L M E=some (M',L',E')∧Qu M' L' E'∧∀x,qkey M' E' x=if x=item then some key else qkey M E x:=by
 unfold v6
 cases hm:mget M item with
 |some z=>
  simp only[Option.isSome_some,if_true,oB]
  obtain⟨hz,e,e1,e2⟩:=(h.mem item z).1 hm
  obtain⟨z0,z1,_⟩:=k8 e1
  obtain⟨i,i0,i1,hi⟩:=o7 hz
  have hf:e.fat=i:=by
   obtain⟨f,f1,f2⟩:=h.hp i z hi
   rw[e1] at f1;cases f1;exact f2
  simp only[e1,oB,List.set_set]
  have hE:∀j,ix (E.set z.toNat (⟨e.item,key,w64 (t0+1),e.fat⟩:En)) j=if j=z then some ⟨e.item,key,w64 (t0+1),e.fat⟩ else ix E j:=by
   intro j
   by_cases hj:0≤j
   ·rw[W2 z0 z1 hj]
   ·rw[T2 (by omega),T2 (by omega),if_neg (by omega)]
  have h1:Hp L (E.set z.toNat (⟨e.item,key,w64 (t0+1),e.fat⟩:En)):=by
   intro j y hy
   rw[hE]
   by_cases c:y=z
   ·subst c;exact⟨_,if_pos rfl,hf.trans (h.hp.inj hi hy)⟩
   ·rw[if_neg c];exact h.hp j y hy
  obtain⟨L',E',k1,k2,k3⟩:=fix_ok (t0:=w64 (t0+1)) (M:=M) h1 (i:=e.fat) (by omega) (by omega) (by omega)
  have hq:Qu M L (E.set z.toNat (⟨e.item,key,w64 (t0+1),e.fat⟩:En)):=⟨h1,h.keys,fun x y=>by
   rw[h.mem,hE]
   by_cases c:y=z
   ·subst c
    simp[e1]
   ·rw[if_neg c]⟩
  obtain⟨q1,q2⟩:=hq.sme k2 k3
  refine⟨M,L',E',by rw[k1];rfl,q1,fun x=> ?_⟩
  rw[q2]
  unfold qkey
  by_cases c:x=item
  ·subst c;rw[if_pos rfl,hm];simp[hE]
  ·rw[if_neg c]
   cases hx:mget M x with
   |none=>rfl
   |some y=>
    have:y ≠ z:=fun q=>by
     subst q
     obtain⟨_,f,f1,f2⟩:=(h.mem x y).1 hx
     rw[e1] at f1;cases f1;exact c (f2.symm.trans e2)
    simp[hE,if_neg this]
 |none=>
  simp only[Option.isSome_none,Bool.false_eq_true,if_false,h.chk1,h.chk2,oB]
  have hn:(E.length:Int) ∉ L:=fun q=>by have:=h.val q;simp at this
  have h1:Hp L (E++[(⟨item,key,w64 (t0+1),0⟩:En)]):=fun i z hz=>by
   obtain⟨e,e1,e2⟩:=h.hp i z hz
   exact⟨e,at1 e1,e2⟩
  obtain⟨L',E',k1,k2,k3⟩:=push_ok (t0:=w64 (t0+1)) (M:=mset M item (E.length:Int)) h1 (x:=(E.length:Int)) ix_snoc_new hn hb
  refine⟨_,L',E',by rw[k1];rfl,⟨k2,mset_nodup h.keys,fun x y=> ?_⟩,fun x=> ?_⟩
  ·rw[D0,k3.mem,k3.item,List.mem_append,List.mem_singleton,an8]
   by_cases c:x=item
   ·subst c
    rw[if_pos rfl]
    by_cases d:y=(E.length:Int)
    ·rw[if_pos d];simp[d]
    ·rw[if_neg d]
     constructor
     ·intro q;exact absurd (Option.some.inj q).symm d
     ·rintro ⟨a|a,b⟩
      ·exact absurd ((h.mem x y).2 ⟨a,b⟩) (by rw[hm];simp)
      ·exact absurd a d
   ·rw[if_neg c,h.mem]
    by_cases d:y=(E.length:Int)
    ·rw[if_pos d];subst d
     constructor
     ·rintro ⟨q,_⟩;exact absurd q hn
     ·rintro ⟨_,e,e1,e2⟩;cases e1;exact absurd e2.symm c
    ·rw[if_neg d];simp[d]
  ·unfold qkey
   rw[D0]
   by_cases c:x=item
   ·rw[if_pos c,if_pos c]
    simp[k3.key,an8]
   ·rw[if_neg c,if_neg c]
    cases hx:mget M x with
    |none=>rfl
    |some y=>
     have:y ≠ (E.length:Int):=fun q=>hn (by rw[← q];exact((h.mem x y).1 hx).1)
     simp[k3.key,an8,if_neg this]
theorem take_ok{M:List (Int×Int)}{L:Li}{E:List En}(h:Qu M L E)(hl:0<L.length)(hb:L.length≤1000000)(t0:Int):
  ∃M' L' E' it k,z8 t0 L M E=some (M',E',L',it,k,true)∧Qu M' L' E'∧qkey M E it=some k∧(∀x,qkey M' E' x=if x=it then none else qkey M E x)∧L'.length+1=L.length:=by
 unfold z8
 rw[if_neg (by omega)]
 obtain⟨L',E',z,k1,k2,k3,k4⟩:=pop_ok (t0:=t0) (M:=M) h.hp hl hb
 have hz:z ∈ L:=(k3.mem z).1 (by simp)
 obtain⟨i,_,_,hi⟩:=o7 hz
 obtain⟨e,e1,e2⟩:=h.hp i z hi
 obtain⟨f,f1,f2,f3⟩:=k3.e z e e1
 have hm:=(h.mem e.item z).2 ⟨hz,e,e1,rfl⟩
 refine⟨mdel M f.item,L',E',f.item,f.key,by simp only[k1,oB,f1],⟨k2,List.Nodup.sublist (mdel_sub.map _) h.keys,fun x y=> ?_⟩,?_,fun x=> ?_,?_⟩
 ·rw[mget_mdel h.keys]
  by_cases c:x=f.item
  ·rw[if_pos c]
   constructor
   ·intro q;cases q
   ·rintro ⟨a,b⟩
    have:=(h.mem x y).2 ⟨(k3.mem y).1 (by simp[a]),(k3.item y x).1 b⟩
    rw[c,f2,hm] at this
    cases this;exact absurd a k4
  ·rw[if_neg c,h.mem,← k3.mem,k3.item,List.mem_append,List.mem_singleton]
   constructor
   ·rintro ⟨a|a,b⟩
    ·exact⟨a,b⟩
    ·subst a
     obtain⟨g,g1,g2⟩:=b
     rw[e1] at g1;cases g1
     exact absurd (g2.symm.trans f2.symm) c
   ·rintro ⟨a,b⟩;exact⟨.inl a,b⟩
 ·unfold qkey;rw[f2,hm];simp[e1,f3]
 ·unfold qkey
  rw[mget_mdel h.keys]
  by_cases c:x=f.item
  ·rw[if_pos c,if_pos c];rfl
  ·rw[if_neg c,if_neg c]
   cases mget M x with
   |none=>rfl
   |some y=>simp[k3.key]
 ·have:=k3.len;simpa using this
theorem same_set:D4=v6:=rfl
end Ab
end
section
namespace Ab
open Go
abbrev MpI:=List (Int×Int)
def S7(g x:Int):Prop:=Go.bits .and .u32 x g=g
def cst(c:MpI)(x:Int):Int:=(mget c x).getD 0
inductive PthW(vs:Li)(ms:List Mk)(g:Int):Int→Int→Prop
 |goal {x:Int} (h:x ∈ vs) (hg:S7 g x):PthW vs ms g x 0
 |step {x k:Int} {m:Mk} (h:x ∈ vs) (hm:m ∈ ms) (hc:canW m x) (hp:PthW vs ms g (tgtW m x) k):PthW vs ms g x (k+m.cost)
structure Gr(vs:Li)(ms:List Mk):Prop where
 cl:∀x ∈ vs,∀m ∈ ms,canW m x→tgtW m x ∈ vs
 co:∀m ∈ ms,0≤m.cost∧m.cost≤100
 ml:ms.length≤40
 vl:vs.length≤2000
structure Cd(vs:Li)(ms:List Mk)(g:Int)(c:MpI):Prop where
 dom:∀x ∈ vs,∃k,mget c x=some k∧0≤k∧k≤1000000000∧(k=1000000000∨PthW vs ms g x k)
 goal:∀x ∈ vs,S7 g x→mget c x=some 0
structure Iv(vs:Li)(ms:List Mk)(g:Int)(c M:MpI)(L:Li)(E:List En)(exc:Int→Prop):Prop where
 cd:Cd vs ms g c
 qu:Qu M L E
 qk:∀x k,qkey M E x=some k→x ∈ vs∧mget c x=some k
 arc:∀x ∈ vs,∀m ∈ ms,canW m x→¬ exc (tgtW m x)→qkey M E (tgtW m x)=none→cst c x≤cst c (tgtW m x)+m.cost
theorem Iv.len{vs:Li}{ms:List Mk}{g:Int}{c M:MpI}{L:Li}{E:List En}{exc:Int→Prop}(h:Iv vs ms g c M L E exc):L.length≤vs.length:=
 h.qu.le fun x hx=>by
  cases e:qkey M E x with
  |none=>exact absurd e hx
  |some k=>exact(h.qk x k e).1
def sm(vs:Li)(c:MpI):Nat:=(vs.map fun x=>(cst c x).toNat).sum
theorem sum_le{α:Type}{f g:α→Nat}:∀{l:List α},(∀x ∈ l,f x≤g x)→(l.map f).sum≤(l.map g).sum
 |[],_=>by simp
 |x::l,h=>by
  have h1:=h x (by simp)
  have h2:=sum_le (l:=l) fun y hy=>h y (List.mem_cons_of_mem _ hy)
  simp only[List.map_cons,List.sum_cons];omega
theorem sum_lt{α:Type}{f g:α→Nat}:∀{l:List α},(∀x ∈ l,f x≤g x)→(∃x ∈ l,f x<g x)→(l.map f).sum<(l.map g).sum
 |[],_,h=>by simp at h
 |x::l,h,⟨y,hy,hlt⟩=>by
  have h1:=h x (by simp)
  have h2:=sum_le (l:=l) fun y hy=>h y (List.mem_cons_of_mem _ hy)
  simp only[List.map_cons,List.sum_cons]
  rcases List.mem_cons.1 hy with rfl|hy
  ·omega
  ·have:=sum_lt (l:=l) (fun y hy=>h y (List.mem_cons_of_mem _ hy)) ⟨y,hy,hlt⟩
   omega
theorem ao8{c:MpI}{x v:Int}(z:Int):cst (mset c x v) z=if z=x then v else cst c z:=by
 unfold cst;rw[D0];split<;>rfl
theorem sm_lt{vs:Li}{c:MpI}{x v:Int}(hx:x ∈ vs)(h0:0≤v)(hv:v<cst c x):sm vs (mset c x v)<sm vs c:=by
 refine sum_lt (fun z _=> ?_) ⟨x,hx,?_⟩
 ·rw[ao8]
  split
  ·rename_i e;subst e;omega
  ·exact Nat.le_refl _
 ·rw[ao8,if_pos rfl];omega
theorem relax_ok{vs:Li}{ms:List Mk}{g:Int}{c M:MpI}{L:Li}{E:List En}{exc:Int→Prop}(hg:Gr vs ms)(h:Iv vs ms g c M L E exc){x v:Int}(hx:x ∈ vs)(h0:0≤v)(hv:v<cst c x)(hp:PthW vs ms g x v)(t0:Int):
  ∃M' L' E',v6 x v t0 L M E=some (M',L',E')∧Iv vs ms g (mset c x v) M' L' E' exc∧∀z,qkey M' E' z=if z=x then some v else qkey M E z:=by
 have hlen:=h.len
 have hvl:=hg.vl
 obtain⟨M',L',E',k1,k2,k3⟩:=set_ok h.qu (by omega) x v t0
 refine⟨M',L',E',k1,⟨⟨fun z hz=> ?_,fun z hz hgz=> ?_⟩,k2,fun z k hk=> ?_,fun z hz m hm hc he hq=> ?_⟩,k3⟩
 ·rw[D0]
  by_cases e:z=x
  ·subst e
   obtain⟨k,q1,q2,q3,_⟩:=h.cd.dom z hz
   have:cst c z=k:=by unfold cst;rw[q1];rfl
   exact⟨v,if_pos rfl,h0,by omega,.inr hp⟩
  ·rw[if_neg e];exact h.cd.dom z hz
 ·rw[D0]
  by_cases e:z=x
  ·subst e
   have:cst c z=0:=by unfold cst;rw[h.cd.goal z hz hgz];rfl
   omega
  ·rw[if_neg e];exact h.cd.goal z hz hgz
 ·rw[k3] at hk
  rw[D0]
  by_cases e:z=x
  ·rw[if_pos e] at hk ⊢;cases hk;exact⟨by rw[e];exact hx,rfl⟩
  ·rw[if_neg e] at hk ⊢;exact h.qk z k hk
 ·rw[k3] at hq
  by_cases e:tgtW m z=x
  ·rw[if_pos e] at hq;cases hq
  ·rw[if_neg e] at hq
   have:=h.arc z hz m hm hc he hq
   rw[ao8,ao8,if_neg e]
   by_cases f:z=x
   ·rw[if_pos f];subst f;omega
   ·rw[if_neg f];exact this
abbrev Bkm:=List (Int×List z6)
def BkOk(vs:Li)(ms:List Mk)(b:Bkm):Prop:=∀y a,a ∈ rowM b y↔∃x ∈ vs,∃m ∈ ms,canW m x∧tgtW m x=y∧a=⟨x,m.cost⟩
abbrev St5:=MpI×MpI×List En×Int×Li
theorem relax_all{vs:Li}{ms:List Mk}{g:Int}{b:Bkm}{c M:MpI}{L:Li}{E:List En}{y k:Int}(hg:Gr vs ms)(hb:BkOk vs ms b)(h:Iv vs ms g c M L E (· =y))(hy:y ∈ vs)(hk:mget c y=some k)(hq:qkey M E y=none)(t0:Int)(bb:Bool):
  ∃s:St5,forR 0 ((rowM b y).length:Int) (N0 b (M,E,L,y,k,bb)) (c,M,E,t0,L)=some s∧Iv vs ms g s.1 s.2.1 s.2.2.2.2 s.2.2.1 (fun _=>False)∧((sm vs s.1=sm vs c∧s.2.2.2.2=L)∨sm vs s.1<sm vs c):=by
 obtain⟨s,h1,h2,h3,h4,h5,h6⟩:=w8 (body:=N0 b (M,E,L,y,k,bb)) (n:=((rowM b y).length:Int)) (s:=((c,M,E,t0,L):St5))
  (fun j s=>Iv vs ms g s.1 s.2.1 s.2.2.2.2 s.2.2.1 (· =y)∧mget s.1 y=some k∧qkey s.2.1 s.2.2.1 y=none∧(∀i a,i<j→ix (rowM b y) i=some a→cst s.1 a.ffrom≤k+a.cost)∧((sm vs s.1=sm vs c∧s.2.2.2.2=L)∨sm vs s.1<sm vs c)) (by omega)
  ⟨h,hk,hq,fun i a hi ha=>by have:=(k8 ha).1;omega,.inl ⟨rfl,rfl⟩⟩ (fun j s j0 j1 hP=>by
   obtain⟨c',M',E',t',L'⟩:=s
   obtain⟨p1,p2,p3,p4,p5⟩:=hP
   simp only at p1 p2 p3 p4 p5
   obtain⟨a,ha,_⟩:=g9 (l:=rowM b y) j0 j1
   obtain⟨x,hx,m,hm,hc,hty,rfl⟩:=(hb y a).1 (k7 ha)
   have hco:=hg.co m hm
   obtain⟨k',q1,q2,q3,q4⟩:=p1.cd.dom y hy
   rw[p2] at q1;cases q1
   have hw:w64 (k+m.cost)=k+m.cost:=y6 (by omega) (by omega)
   unfold N0
   simp only[ha,oB,hw]
   have hcx:Option.getD (mget c' x) 0=cst c' x:=rfl
   rw[hcx]
   by_cases cc:k+m.cost<cst c' x
   ·rw[if_pos cc]
    have hpy:PthW vs ms g y k:=by
     rcases q4 with q4|q4
     ·obtain⟨k2,r1,r2,r3,_⟩:=p1.cd.dom x hx
      have:cst c' x=k2:=by unfold cst;rw[r1];rfl
      omega
     ·exact q4
    have hxy:x ≠ y:=fun e=>by
     subst e
     have:cst c' x=k:=by unfold cst;rw[p2];rfl
     omega
    obtain⟨M2,L2,E2,k1,k2,k3⟩:=relax_ok hg p1 hx (by omega) cc (.step hx hm hc (by rw[hty];exact hpy)) t'
    rw[same_set,k1]
    have hsm:=sm_lt (vs:=vs) (c:=c') hx (by omega) cc
    refine⟨_,rfl,k2,?_,?_,fun i a' hi ha'=> ?_,.inr (by simp only;rcases p5 with p5|p5<;>omega)⟩
    ·simp only[D0];rw[if_neg (Ne.symm hxy)];exact p2
    ·simp only[k3];rw[if_neg (Ne.symm hxy)];exact p3
    ·simp only[ao8]
     by_cases e:i=j
     ·subst e;rw[ha] at ha';cases ha';simp
     ·have:=p4 i a' (by omega) ha'
      split
      ·rename_i f;rw[f] at this;omega
      ·exact this
   ·rw[if_neg cc]
    refine⟨_,rfl,p1,p2,p3,fun i a' hi ha'=> ?_,p5⟩
    by_cases e:i=j
    ·subst e;rw[ha] at ha';cases ha';simp only;omega
    ·exact p4 i a' (by omega) ha')
 refine⟨s,h1,⟨h2.cd,h2.qu,h2.qk,fun x hx m hm hc _ hqn=> ?_⟩,h6⟩
 by_cases e:tgtW m x=y
 ·have hmem:=(hb y ⟨x,m.cost⟩).2 ⟨x,hx,m,hm,hc,e,rfl⟩
  obtain⟨i,i0,i1,hi⟩:=o7 hmem
  have:=h5 i _ i1 hi
  change cst s.1 x≤k+m.cost at this
  rw[e]
  have e2:cst s.1 y=k:=by unfold cst;rw[h3];rfl
  omega
 ·exact h2.arc x hx m hm hc e hqn
structure Best(vs:Li)(ms:List Mk)(g:Int)(c:MpI):Prop where
 cd:Cd vs ms g c
 least:∀x k,PthW vs ms g x k→cst c x≤k
theorem main_ok{vs:Li}{ms:List Mk}{g:Int}{b:Bkm}{c M:MpI}{L:Li}{E:List En}(hg:Gr vs ms)(hb:BkOk vs ms b)(h:Iv vs ms g c M L E fun _=>False)(t0:Int):
  ∃r,Loop (N5 b) (c,M,E,t0,L)=some r∧Best vs ms g r:=by
 have hvl:=hg.vl
 refine J4 (body:=N5 b) (s:=((c,M,E,t0,L):St5)) (fun s:St5=>Iv vs ms g s.1 s.2.1 s.2.2.2.2 s.2.2.1 fun _=>False) (fun r=>Best vs ms g r)
  (fun s=>sm vs s.1 * 2001+s.2.2.2.2.length) h ?_
 rintro ⟨c,M,E,t,L⟩ p
 simp only at p
 have hlen:=p.len
 unfold N5
 simp only[E7,oB]
 by_cases cl:0<L.length
 ·rw[if_pos (by omega)]
  obtain⟨M',L',E',y,k,k1,k2,k3,k4,k5⟩:=take_ok p.qu cl (by omega) t
  obtain⟨hy,hk⟩:=p.qk y k k3
  have h':Iv vs ms g c M' L' E' (· =y):=⟨p.cd,k2,fun x k hx=>by
    rw[k4] at hx
    by_cases e:x=y
    ·rw[if_pos e] at hx;cases hx
    ·rw[if_neg e] at hx;exact p.qk x k hx,fun x hx m hm hc he hq=>by
    rw[k4,if_neg he] at hq
    exact p.arc x hx m hm hc (fun q=>q) hq⟩
  obtain⟨s,s1,s2,s3⟩:=relax_all hg hb h' hy hk (by rw[k4,if_pos rfl]) t true
  have hl2:=s2.len
  simp only[k1,oB,s1]
  refine .inl ⟨s,rfl,s2,?_⟩
  change sm vs s.1 * 2001+s.2.2.2.2.length<sm vs c * 2001+L.length
  rcases s3 with⟨s3,s4⟩|s3
  ·rw[s3,s4];omega
  ·omega
 ·rw[if_neg (by omega)]
  refine .inr ⟨c,rfl,p.cd,?_⟩
  have hL:L=[]:=List.eq_nil_of_length_eq_zero (by omega)
  have hq:∀x,qkey M E x=none:=fun x=>by
   unfold qkey
   cases e:mget M x with
   |none=>rfl
   |some z=>have:=((p.qu.mem x z).1 e).1;rw[hL] at this;cases this
  intro x k hp
  induction hp with
  |goal hx hgx=>unfold cst;rw[p.cd.goal _ hx hgx];simp
  |step hx hm hc hp ih=>
   have:=p.arc _ hx _ hm hc (fun q=>q) (hq _)
   omega
theorem rowM_mset{b:Bkm}{k:Int}{v:List z6}(y:Int):rowM (mset b k v) y=if y=k then v else rowM b y:=by
 unfold rowM;rw[D0];split<;>rfl
theorem back_ok{ms:List Mk}{b:Bkm}{x:Int}(hml:ms.length≤40){B:Nat}(hB:∀y,(rowM b y).length≤B)(hB':B≤1000000):
  ∃b',U3 ms b x=some b'∧(∀y,(rowM b' y).length≤B+40)∧∀y a,a ∈ rowM b' y↔a ∈ rowM b y∨∃m ∈ ms,canW m x∧tgtW m x=y∧a=⟨x,m.cost⟩:=by
 unfold U3
 obtain⟨b',h1,h2,h3⟩:=w8 (body:=U4 ms x) (n:=(ms.length:Int)) (s:=b)
  (fun j c=>(∀y,((rowM c y).length:Int)≤B+j)∧∀y a,a ∈ rowM c y↔a ∈ rowM b y∨∃i m,i<j∧ix ms i=some m∧canW m x∧tgtW m x=y∧a=⟨x,m.cost⟩) (by omega)
  ⟨fun y=>by have:=hB y;omega,fun y a=>⟨.inl,fun q=>by
   rcases q with q|⟨i,m,hi,hm,_⟩
   ·exact q
   ·have:=(k8 hm).1;omega⟩⟩ (fun j c j0 j1 hP=>by
   obtain⟨p1,p2⟩:=hP
   obtain⟨m,hm,_⟩:=g9 j0 j1
   unfold U4
   simp only[hm,oB]
   by_cases c1:Go.bits .and .u32 x m.pre=m.pre
   ·rw[if_pos c1]
    have ee:Go.bits .or .u32 (Go.bits .andNot .u32 x m.del) m.add=tgtW m x:=rfl
    rw[ee]
    have hl:=p1 (tgtW m x)
    have ha:app 16 (rowM c (tgtW m x)) [(⟨x,m.cost⟩:z6)]=some (rowM c (tgtW m x)++[⟨x,m.cost⟩]):=by unfold app;rw[if_pos (by simp;omega)]
    simp only[ha,oB]
    refine⟨_,rfl,fun y=> ?_,fun y a=> ?_⟩
    ·rw[rowM_mset]
     split
     ·simp;omega
     ·have:=p1 y;omega
    ·rw[rowM_mset]
     have key:(∃i m',i<j+1∧ix ms i=some m'∧canW m' x∧tgtW m' x=y∧a=⟨x,m'.cost⟩)↔(∃i m',i<j∧ix ms i=some m'∧canW m' x∧tgtW m' x=y∧a=⟨x,m'.cost⟩)∨(tgtW m x=y∧a=⟨x,m.cost⟩):=by
      constructor
      ·rintro ⟨i,m',q1,q2,q3,q4,q5⟩
       by_cases e:i=j
       ·subst e;rw[hm] at q2;cases q2;exact .inr ⟨q4,q5⟩
       ·exact .inl ⟨i,m',by omega,q2,q3,q4,q5⟩
      ·rintro (⟨i,m',q1,q2⟩|⟨q1,q2⟩)
       ·exact⟨i,m',by omega,q2⟩
       ·exact⟨j,m,by omega,hm,c1,q1,q2⟩
     rw[key]
     by_cases e:y=tgtW m x
     ·rw[if_pos e,List.mem_append,List.mem_singleton,← e,p2]
      simp[or_assoc]
     ·rw[if_neg e,p2]
      have:¬ tgtW m x=y:=fun q=>e q.symm
      simp[this]
   ·rw[if_neg c1]
    refine⟨_,rfl,fun y=>by have:=p1 y;omega,fun y a=> ?_⟩
    rw[p2]
    refine or_congr_right ⟨?_,?_⟩
    ·rintro ⟨i,m',q1,q2⟩;exact⟨i,m',by omega,q2⟩
    ·rintro ⟨i,m',q1,q2,q3,q4⟩
     by_cases e:i=j
     ·subst e;rw[hm] at q2;cases q2;exact absurd q3 c1
     ·exact⟨i,m',by omega,q2,q3,q4⟩)
 refine⟨b',by rw[h1];rfl,fun y=>by have:=h2 y;omega,fun y a=> ?_⟩
 rw[h3]
 refine or_congr_right ⟨?_,?_⟩
 ·rintro ⟨i,m,_,q2,q3⟩;exact⟨m,k7 q2,q3⟩
 ·rintro ⟨m,q2,q3⟩
  obtain⟨i,_,i1,hi⟩:=o7 q2
  exact⟨i,m,i1,hi,q3⟩
abbrev St6:=Bkm×MpI×MpI×List En×Int×Li
theorem first_ok{vs:Li}{ms:List Mk}(start g:Int)(hg:Gr vs ms):
  ∃s:St6,forR 0 (vs.length:Int) (N1 vs start g ms) ([],[],[],[],0,[])=some s∧BkOk vs ms s.1∧Iv vs ms g s.2.1 s.2.2.1 s.2.2.2.2.2 s.2.2.2.1 fun _=>False:=by
 have hvl:=hg.vl
 have hml:=hg.ml
 obtain⟨s,h1,h2,h3,h4,h5,h6⟩:=w8 (body:=N1 vs start g ms) (n:=(vs.length:Int)) (s:=(([],[],[],[],0,[]):St6))
  (fun j s=>(∀y a,a ∈ rowM s.1 y↔∃x ∈ vs.take j.toNat,∃m ∈ ms,canW m x∧tgtW m x=y∧a=⟨x,m.cost⟩)∧(∀y,(rowM s.1 y).length≤j.toNat * 40)∧
   (∀x,x ∈ vs.take j.toNat→mget s.2.1 x=some (if dec (S7 g x)=true then 0 else 1000000000))∧Qu s.2.2.1 s.2.2.2.2.2 s.2.2.2.1∧∀x,qkey s.2.2.1 s.2.2.2.1 x=if dec (x ∈ vs.take j.toNat∧S7 g x)=true then some 0 else none) (by omega)
  ⟨fun y a=>by simp[rowM,mget],fun y=>by simp[rowM,mget],by simp,Qu.nil,fun x=>by simp[qkey,mget,dec]⟩ (fun j s j0 j1 hP=>by
   obtain⟨b,c,M,E,t,L⟩:=s
   obtain⟨p1,p2,p3,p4,p5⟩:=hP
   simp only at p1 p2 p3 p4 p5
   obtain⟨x,hx,gx⟩:=g9 j0 j1
   have hj:(j+1).toNat=j.toNat+1:=by omega
   have htk:vs.take (j+1).toNat=vs.take j.toNat++[x]:=by rw[hj,List.take_add_one,gx];rfl
   have hlen:L.length≤vs.length:=p4.le fun z hz=>by
    rw[p5] at hz
    by_cases e:z ∈ vs.take j.toNat∧S7 g z
    ·exact List.mem_of_mem_take e.1
    ·rw[if_neg (by rw[x7 e];simp)] at hz;exact absurd rfl hz
   obtain⟨b',b1,b2,b3⟩:=back_ok (x:=x) hml (B:=j.toNat * 40) p2 (by omega)
   have hback:∀y a,a ∈ rowM b' y↔∃x ∈ vs.take (j+1).toNat,∃m ∈ ms,canW m x∧tgtW m x=y∧a=⟨x,m.cost⟩:=fun y a=>by
    rw[b3,p1,htk]
    simp only[List.mem_append,List.mem_singleton,or_and_right,exists_or,exists_eq_left]
   have hrow:∀y,(rowM b' y).length≤(j+1).toNat * 40:=fun y=>by have:=b2 y;omega
   unfold N1
   simp only[hx,oB,Q4,F2]
   by_cases cg:Go.bits .and .u32 x g=g
   ·rw[if_pos cg]
    have cg':S7 g x:=cg
    obtain⟨M',L',E',k1,k2,k3⟩:=set_ok p4 (by omega) x 0 t
    simp only[k1,oB,b1]
    refine⟨_,rfl,hback,hrow,fun z hz=> ?_,k2,fun z=> ?_⟩
    ·simp only[D0]
     by_cases e:z=x
     ·subst e;rw[if_pos rfl,if_pos (l9 cg')]
     ·rw[if_neg e,if_neg e]
      refine p3 z ?_
      rw[htk] at hz;simp[e] at hz;exact hz
    ·simp only[k3,p5,htk]
     by_cases e:z=x
     ·subst e;rw[if_pos rfl,if_pos (l9 ⟨by simp,cg'⟩)]
     ·rw[if_neg e]
      have:(z ∈ vs.take j.toNat++[x]∧S7 g z)↔(z ∈ vs.take j.toNat∧S7 g z):=by simp[e]
      rw[z2 this]
   ·rw[if_neg cg]
    have cg':¬ S7 g x:=cg
    simp only[oB,b1]
    refine⟨_,rfl,hback,hrow,fun z hz=> ?_,p4,fun z=> ?_⟩
    ·simp only[D0]
     by_cases e:z=x
     ·subst e;rw[if_pos rfl,if_neg (by rw[x7 cg'];simp)]
     ·rw[if_neg e]
      refine p3 z ?_
      rw[htk] at hz;simp[e] at hz;exact hz
    ·simp only[p5,htk]
     have:(z ∈ vs.take j.toNat++[x]∧S7 g z)↔(z ∈ vs.take j.toNat∧S7 g z):=by
      constructor
      ·rintro ⟨q1,q2⟩
       rcases List.mem_append.1 q1 with q1|q1
       ·exact⟨q1,q2⟩
       ·simp at q1;subst q1;exact absurd q2 cg'
      ·rintro ⟨q1,q2⟩;exact⟨List.mem_append_left _ q1,q2⟩
     rw[z2 this])
 have ht:vs.take (vs.length:Int).toNat=vs:=by rw[Int.toNat_natCast,List.take_length]
 rw[ht] at h2 h4 h6
 have hc:∀x ∈ vs,¬ S7 g x→mget s.2.1 x=some 1000000000:=fun x hx hn=>by rw[h4 x hx,if_neg (by rw[x7 hn];simp)]
 have hc0:∀x ∈ vs,S7 g x→mget s.2.1 x=some 0:=fun x hx hn=>by rw[h4 x hx,if_pos (l9 hn)]
 refine⟨s,h1,h2,⟨fun x hx=> ?_,hc0⟩,h5,fun x k hk=> ?_,fun x hx m hm hcan _ hq=> ?_⟩
 ·by_cases e:S7 g x
  ·exact⟨0,hc0 x hx e,by omega,by omega,.inr (.goal hx e)⟩
  ·exact⟨1000000000,hc x hx e,by omega,by omega,.inl rfl⟩
 ·rw[h6] at hk
  by_cases e:x ∈ vs∧S7 g x
  ·rw[if_pos (l9 e)] at hk;cases hk;exact⟨e.1,hc0 x e.1 e.2⟩
  ·rw[if_neg (by rw[x7 e];simp)] at hk;cases hk
 ·have hy:=hg.cl x hx m hm hcan
  rw[h6] at hq
  have hn:¬ S7 g (tgtW m x):=fun q=>by rw[if_pos (l9 ⟨hy,q⟩)] at hq;cases hq
  have h0:=(hg.co m hm).1
  unfold cst
  rw[hc _ hy hn,h4 x hx]
  simp only[Option.getD_some]
  split<;>omega
theorem costs_ok{vs:Li}{ms:List Mk}(start g:Int)(hg:Gr vs ms):∃c,V1 vs start g ms=some c∧Best vs ms g c:=by
 unfold V1
 obtain⟨s,s1,s2,s3⟩:=first_ok start g hg
 obtain⟨r,r1,r2⟩:=main_ok hg s2 s3 s.2.2.2.2.1
 refine⟨r,?_,r2⟩
 obtain⟨a,b,c,d,e,f⟩:=s
 simp only[K8,oB,s1]
 rw[r1];rfl
end Ab
end
section
namespace Ab
open Go
def Val(t:m6)(plan:Li):Prop:=∀x ∈ plan,(0:Int)≤x∧x<t.operators.length
def pcost(t:m6):Li→Int
 |[]=>0
 |op::r=>pcost t r+(opAt t op).cost
def Few(t:m6):Prop:=∃l:LL,l.Nodup∧l.length≤2000∧∀s,s ∈ l↔Rt t s
section
variable {t:m6} {vs:Li}
theorem pth_of(ht:B0 t)(hv:∀x,x ∈ vs↔Rwd t x):∀{plan s:Li},Rt t s→Val t plan→works t s plan→PthW vs (mks t) (wd t.goal) (wd s) (pcost t plan)
 |[],s,hs,_,⟨e,h1,h2⟩=>by
  simp only[ends,Option.some.injEq] at h1;subst h1
  exact .goal ((hv _).2 ⟨s,hs,rfl⟩) ((sub_word (hs.setN ht) ht.goal ht.n1).2 h2)
 |op::r,s,hs,hp,⟨e,h1,h2⟩=>by
  have h3:=hp op (by simp)
  simp only[ends] at h1
  split at h1
  ·rename_i hc
   have hc:=m7.1 hc
   have ih:=pth_of ht hv (plan:=r) (hs.step h3.1 h3.2 hc) (fun x hx=>hp x (List.mem_cons_of_mem _ hx)) ⟨e,h1,h2⟩
   rw[← tgtW_eq ht (hs.setN ht) h3.1 h3.2] at ih
   exact .step ((hv _).2 ⟨s,hs,rfl⟩) (mks_of h3.1 h3.2) ((av7 ht (hs.setN ht) h3.1 h3.2).2 hc) ih
  ·cases h1
theorem plan_of(ht:B0 t){x k:Int}(h:PthW vs (mks t) (wd t.goal) x k):∀{s:Li},Rt t s→x=wd s→∃plan,Val t plan∧works t s plan∧pcost t plan=k:=by
 induction h with
 |goal hx hg=>
  intro s hs e;subst e
  exact⟨[],by simp[Val],⟨s,rfl,(sub_word (hs.setN ht) ht.goal ht.n1).1 hg⟩,rfl⟩
 |step hx hm hc hp ih=>
  intro s hs e;subst e
  obtain⟨op,h0,h1,rfl⟩:=mks_mem hm
  have hcan:=(av7 ht (hs.setN ht) h0 h1).1 hc
  obtain⟨plan,p1,⟨e,p2,p3⟩,p4⟩:=ih (hs.step h0 h1 hcan) (tgtW_eq ht (hs.setN ht) h0 h1)
  refine⟨op::plan,fun y hy=> ?_,⟨e,?_,p3⟩,by simp[pcost,p4,mkOf]⟩
  ·rcases List.mem_cons.1 hy with rfl|hy
   ·exact⟨h0,h1⟩
   ·exact p1 y hy
  ·simp only[ends];rw[if_pos (l9 hcan)];exact p2
end
/-! ### A way that is not long -/
inductive Hop(vs:Li)(ms:List Mk)(g:Int):Nat→Int→Prop
 |goal {x:Int} (h:x ∈ vs) (hg:S7 g x):Hop vs ms g 0 x
 |step {x:Int} {n:Nat} {m:Mk} (h:x ∈ vs) (hm:m ∈ ms) (hc:canW m x) (hp:Hop vs ms g n (tgtW m x)):Hop vs ms g (n+1) x
section
variable {vs:Li} {ms:List Mk} {g:Int}
theorem Hop.of{x k:Int}(h:PthW vs ms g x k):∃n,Hop vs ms g n x:=by
 induction h with
 |goal hx hg=>exact⟨0,.goal hx hg⟩
 |step hx hm hc _ ih=>obtain⟨n,hn⟩:=ih;exact⟨n+1,.step hx hm hc hn⟩
theorem Hop.mem{n:Nat}{x:Int}(h:Hop vs ms g n x):x ∈ vs:=by cases h<;>assumption
theorem Hop.cost(hg:Gr vs ms){n:Nat}{x:Int}(h:Hop vs ms g n x):∃k,PthW vs ms g x k∧k≤100 * n:=by
 induction h with
 |goal hx hgx=>exact⟨0,.goal hx hgx,by omega⟩
 |step hx hm hc _ ih=>
  obtain⟨k,k1,k2⟩:=ih
  have:=hg.co _ hm
  exact⟨_,.step hx hm hc k1,by push_cast;omega⟩
def MHop(vs:Li)(ms:List Mk)(g:Int)(n:Nat)(x:Int):Prop:=Hop vs ms g n x∧∀m,m<n→¬ Hop vs ms g m x
theorem MHop.of:∀{n:Nat} {x:Int},Hop vs ms g n x→∃m,m≤n∧MHop vs ms g m x:=by
 intro n
 induction n using Nat.strongRecOn with
 |_ n ih=>
  intro x h
  by_cases c:∃m,m<n∧Hop vs ms g m x
  ·obtain⟨m,m1,m2⟩:=c
   obtain⟨q,q1,q2⟩:=ih m m1 m2
   exact⟨q,by omega,q2⟩
  ·exact⟨n,Nat.le_refl _,h,fun m hm hh=>c ⟨m,hm,hh⟩⟩
theorem MHop.chain:∀{n:Nat} {x:Int},MHop vs ms g n x→∃l:Li,l.length=n+1∧l.Nodup∧∀y ∈ l,y ∈ vs∧∃m,m≤n∧MHop vs ms g m y
 |0,x,h=>⟨[x],rfl,by simp,fun y hy=>by simp at hy;subst hy;exact⟨h.1.mem,0,Nat.le_refl _,h⟩⟩
 |n+1,x,h=>by
  cases h.1 with
  |@step _ _ m hx hm hc hp=>
   have h':MHop vs ms g n (tgtW m x):=⟨hp,fun q hq hh=>h.2 (q+1) (by omega) (.step hx hm hc hh)⟩
   obtain⟨l,l1,l2,l3⟩:=MHop.chain h'
   refine⟨x::l,by simp[l1],List.nodup_cons.2 ⟨fun hxl=> ?_,l2⟩,fun y hy=> ?_⟩
   ·obtain⟨_,q,q1,q2⟩:=l3 x hxl
    exact h.2 q (by omega) q2.1
   ·rcases List.mem_cons.1 hy with rfl|hy
    ·exact⟨hx,n+1,Nat.le_refl _,h⟩
    ·obtain⟨y1,q,q1,q2⟩:=l3 y hy
     exact⟨y1,q,by omega,q2⟩
theorem pth_small(hg:Gr vs ms){x k:Int}(h:PthW vs ms g x k):∃k',PthW vs ms g x k'∧k'≤199900:=by
 obtain⟨n,hn⟩:=Hop.of h
 obtain⟨m,_,hm⟩:=MHop.of hn
 obtain⟨l,l1,l2,l3⟩:=hm.chain
 have:=af7 l2 (S:=vs) fun y hy=>(l3 y hy).1
 have hv:=hg.vl
 obtain⟨k',k1,k2⟩:=hm.1.cost hg
 exact⟨k',k1,by omega⟩
end
theorem words_of{t:m6}(ht:B0 t){vs:Li}(hl:vs.length≤2000)(hv:∀x,x ∈ vs↔Rwd t x):Gr vs (mks t):=⟨fun x hx m hm hc=>(hv _).2 (((hv x).1 hx).next ht hm hc),fun m hm=>by
 obtain⟨op,h0,h1,rfl⟩:=mks_mem hm
 exact(op_ok ht h0 h1).2,by simp[mks];exact ht.ops,hl⟩
theorem few_of{t:m6}(ht:B0 t){vs:Li}(hn:vs.Nodup)(hl:vs.length≤2000)(hv:∀x,x ∈ vs↔Rwd t x):Few t:=by
 obtain⟨ss,h1,h2⟩:=states_of (t:=t) (l:=vs) fun x hx=>(hv x).1 hx
 refine⟨ss,ap5 (f:=wd) (by rw[h1];exact hn),?_,fun s=>⟨h2 s,fun hs=> ?_⟩⟩
 ·have:=congrArg List.length h1
  simp only[List.length_map] at this;omega
 ·have:wd s ∈ ss.map wd:=by rw[h1];exact(hv _).2 ⟨s,hs,rfl⟩
  obtain⟨s',s1,s2⟩:=List.mem_map.1 this
  rw[wd_inj ht (hs.setN ht) ((h2 s' s1).setN ht) s2.symm];exact s1
theorem checked_spec(t:m6):(¬ B0 t∧∃f,H7 t=some f∧f.code ≠ 0∧G9 t=some (.inl (f.code,f.index)))∨(B0 t∧Many t∧G9 t=some (.inl (10, -7)))∨
  (B0 t∧Few t∧∃vs:Li,vs.Nodup∧vs.length≤2000∧(∀x,x ∈ vs↔Rwd t x)∧G9 t=some (.inr (wd t.init,wd t.goal,mks t,vs))):=by
 obtain⟨f,h1,_,h3⟩:=validate_eq t
 unfold G9
 rw[h1]
 simp only[oB]
 rcases h3 with⟨rfl,ht⟩|⟨hc,hn⟩
 ·rw[if_neg (by simp),of_eq ht]
  obtain⟨l,b,a1,a2,a3⟩:=all_spec ht (wd t.goal)
  simp only[oB,a1]
  cases b with
  |false=>exact .inr (.inl ⟨ht,a2 rfl,rfl⟩)
  |true=>
   obtain⟨q1,q2,q3⟩:=a3 rfl
   obtain⟨vs,v1,v2⟩:=sortW (l:=l) (by omega) (fun x hx=>by
    obtain⟨s,s1,rfl⟩:=(q3 x).1 hx
    exact wd_u32 ht (s1.setN ht))
   have hv:∀x,x ∈ vs↔Rwd t x:=fun x=>v2.mem_iff.trans (q3 x)
   have hvn:vs.Nodup:=v2.nodup_iff.2 q1
   have hvl:vs.length≤2000:=by rw[v2.length_eq];exact q2
   exact .inr (.inr ⟨ht,few_of ht hvn hvl hv,vs,hvn,hvl,hv,by simp[v1]⟩)
 ·rw[if_pos (by simp[hc])]
  exact .inl ⟨hn,f,rfl,hc,rfl⟩
inductive OptR(t:m6):Int×k6→Prop
 |bad {f:k6} (h:¬ B0 t) (hf:H7 t=some f) (hc:f.code ≠ 0):OptR t (0,f)
 |many (h:B0 t) (hm:Many t):OptR t (0,⟨10, -7⟩)
 |none (h:B0 t) (hf:Few t) (hn:∀plan,Val t plan→¬ works t t.init plan):OptR t (1000000000,⟨0,0⟩)
 |some {k:Int} {plan:Li} (h:B0 t) (hf:Few t) (h0:0≤k) (h1:k≤199900) (hv:Val t plan) (hw:works t t.init plan) (hk:pcost t plan=k) (hl:∀p,Val t p→works t t.init p→k≤pcost t p):OptR t (k,⟨0,0⟩)
theorem ao7(t:m6):∃r,W5 t=some r∧OptR t r:=by
 unfold W5
 rcases checked_spec t with⟨h,f,h1,h2,h3⟩|⟨h,h1,h2⟩|⟨ht,h1,vs,v1,v2,v3,h2⟩
 ·rw[h3]
  simp only[oB]
  rw[if_pos (by simp[h2])]
  exact⟨_,rfl,.bad h h1 h2⟩
 ·rw[h2]
  simp only[oB]
  rw[if_pos (by simp)]
  exact⟨_,rfl,.many h h1⟩
 ·rw[h2]
  simp only[oB]
  rw[if_neg (by simp)]
  have hg:=words_of ht v2 v3
  obtain⟨c,c1,c2⟩:=costs_ok (wd t.init) (wd t.goal) hg
  simp only[c1,oB,B9]
  have hi:wd t.init ∈ vs:=(v3 _).2 ⟨_,.init,rfl⟩
  obtain⟨k,k1,k2,k3,k4⟩:=c2.cd.dom _ hi
  have hck:cst c (wd t.init)=k:=by unfold cst;rw[k1];rfl
  refine⟨_,rfl,?_⟩
  rw[k1]
  simp only[Option.getD_some]
  by_cases e:∃k',PthW vs (mks t) (wd t.goal) (wd t.init) k'
  ·obtain⟨k0,e⟩:=e
   obtain⟨k',e1,e2⟩:=pth_small hg e
   have hle:=c2.least _ _ e1
   rcases k4 with k4|k4
   ·omega
   ·obtain⟨plan,p1,p2,p3⟩:=plan_of ht k4 .init rfl
    refine .some ht h1 k2 (by omega) p1 p2 p3 fun p q1 q2=> ?_
    have:=c2.least _ _ (pth_of ht v3 .init q1 q2)
    omega
  ·rcases k4 with rfl|k4
   ·exact .none ht h1 fun p q1 q2=>e ⟨_,pth_of ht v3 .init q1 q2⟩
   ·exact absurd ⟨_,k4⟩ e
end Ab
end
section
namespace Ab
open Go
section
variable {t:d4}
theorem One.sc{op:Int}{x:n5}(h1:((ooAt t op).outcomes.length:Int)=1)(hx:x ∈ (ooAt t op).outcomes)(s:Li):sc t s op=[efc t.facts s x]:=by
 obtain⟨z,hz⟩:=List.length_eq_one_iff.1 (by omega:(ooAt t op).outcomes.length=1)
 unfold Ab.sc
 rw[hz] at hx ⊢
 rw[List.mem_singleton] at hx
 subst hx
 rfl
variable {c:List (Int×Int)} {d:List s9}
theorem dz_at(h:Dz t t.operators.length 0 c d){i:Int}(i0:0≤i)(i1:i<d.length):∃(op:Int) (x:n5),(0≤op∧op<t.operators.length)∧x ∈ (ooAt t op).outcomes∧opAt ⟨t.facts,t.init,t.goal,d⟩ i=dzO (ooAt t op) x:=by
 obtain⟨p,hp,_⟩:=g9 (l:=c) (i:=i) i0 (by rw[h.len];exact i1)
 obtain⟨g1,x,g2,g3⟩:=h.each i p hp
 have:=ix_op (t:=⟨t.facts,t.init,t.goal,d⟩) i0 i1
 rw[show ix (m6.mk t.facts t.init t.goal d).operators i=some (dzO (ooAt t p.1) x) from g3] at this
 exact⟨p.1,x,g1,g2,(Option.some.inj this).symm⟩
theorem aft_dz{i op:Int}{x:n5}(h:opAt ⟨t.facts,t.init,t.goal,d⟩ i=dzO (ooAt t op) x)(s:Li):aft ⟨t.facts,t.init,t.goal,d⟩ s i=efc t.facts s x:=by
 unfold aft efc
 rw[h];rfl
theorem can_dz{i op:Int}{x:n5}(h:opAt ⟨t.facts,t.init,t.goal,d⟩ i=dzO (ooAt t op) x)(s:Li):can ⟨t.facts,t.init,t.goal,d⟩ s i↔oCan t s op:=by
 unfold can oCan
 rw[h];exact Iff.rfl
theorem dn_of_plan(h:Dz t t.operators.length 0 c d)(h1:∀op:Int,0≤op→op<t.operators.length→((ooAt t op).outcomes.length:Int)=1):∀{plan s:Li},Val ⟨t.facts,t.init,t.goal,d⟩ plan→works ⟨t.facts,t.init,t.goal,d⟩ s plan→DnA t plan.length s
 |[],s,_,⟨e,e1,e2⟩=>by
  simp only[ends,Option.some.injEq] at e1
  subst e1
  exact e2
 |i::r,s,hv,⟨e,e1,e2⟩=>by
  have hi:=hv i (by simp)
  obtain⟨op,x,o1,o2,o3⟩:=dz_at h hi.1 hi.2
  simp only[ends] at e1
  by_cases hc:can ⟨t.facts,t.init,t.goal,d⟩ s i
  ·rw[if_pos (l9 hc)] at e1
   refine .inr ⟨op,o1,(can_dz o3 s).1 hc,fun y hy=> ?_⟩
   rw[One.sc (h1 op o1.1 o1.2) o2,List.mem_singleton] at hy
   subst hy
   rw[← aft_dz o3 s]
   exact dn_of_plan h h1 (fun z hz=>hv z (List.mem_cons_of_mem _ hz)) ⟨e,e1,e2⟩
  ·rw[if_neg (fun g=>hc (m7.1 g))] at e1
   cases e1
theorem plan_of_dn(h:Dz t t.operators.length 0 c d)(h1:∀op:Int,0≤op→op<t.operators.length→((ooAt t op).outcomes.length:Int)=1):∀{k:Nat} {s:Li},DnA t k s→∃plan,Val ⟨t.facts,t.init,t.goal,d⟩ plan∧works ⟨t.facts,t.init,t.goal,d⟩ s plan
 |0,s,hg=>⟨[],fun _ h=>by(cases h),s,rfl,hg⟩
 |k+1,s,hk=>by
  rcases hk with hg|⟨op,o1,o2,o3⟩
  ·exact⟨[],fun _ h=>by(cases h),s,rfl,hg⟩
  ·obtain⟨x,hx,_⟩:=g9 (l:=(ooAt t op).outcomes) (i:=0) (Int.le_refl _) (by rw[h1 op o1.1 o1.2];decide)
   obtain⟨i,_,g2⟩:=h.all op 0 x o1.1 o1.2 hx (.inl o1.2)
   obtain⟨i0,i1,_⟩:=k8 g2
   have hat:opAt ⟨t.facts,t.init,t.goal,d⟩ i=dzO (ooAt t op) x:=by
    have:=ix_op (t:=⟨t.facts,t.init,t.goal,d⟩) i0 i1
    rw[show ix (m6.mk t.facts t.init t.goal d).operators i=some (dzO (ooAt t op) x) from g2] at this
    exact(Option.some.inj this).symm
   have hy:efc t.facts s x ∈ sc t s op:=by rw[One.sc (h1 op o1.1 o1.2) (k7 hx)];simp
   obtain⟨plan,p1,e,p2,p3⟩:=plan_of_dn h h1 (o3 _ hy)
   refine⟨i::plan,fun z hz=> ?_,e,?_,p3⟩
   ·rcases List.mem_cons.1 hz with rfl|hz
    ·exact⟨i0,i1⟩
    ·exact p1 z hz
   ·simp only[ends]
    rw[if_pos (l9 ((can_dz hat s).2 o2)),aft_dz hat s]
    exact p2
end
theorem ao2(t:d4):H6 t=some true:=by
 unfold H6
 rcases aa4 (body:=E5 t) (n:=(t.operators.length:Int)) (s:=()) (fun j _=>∀op:Int,0≤op→op<j→((ooAt t op).outcomes.length:Int)=1) (fun o=>o=true) (by omega) (fun op h0 h1=>by omega) (fun j _ j0 j1 hP=>by
  unfold E5
  rw[ix_oo j0 j1]
  simp only[oB,always_eq]
  by_cases e:((ooAt t j).outcomes.length:Int)=1
  ·rw[if_pos e]
   refine .inl ⟨_,rfl,fun op h0 h1=> ?_⟩
   by_cases ej:op=j
   ·rw[ej];exact e
   ·exact hP op h0 (by omega)
  ·rw[if_neg e]
   exact .inr ⟨_,rfl,rfl⟩) with⟨_,e1,h1⟩|⟨o,e1,rfl⟩
 ·rw[e1]
  simp only[oB,always_eq]
  obtain⟨f,v1,_,v3⟩:=ah4 t
  rcases v3 with⟨rfl,ht⟩|⟨hc,_⟩
  ·obtain⟨c,d,_,r2,r3⟩:=determinize_ok ht
   rw[r3]
   by_cases c40:40<(c.length:Int)
   ·rw[if_pos c40]
    obtain⟨r,q1,_⟩:=ao7 (⟨0,[],[],[]⟩:m6)
    rcases as5 ht with⟨_,_,p⟩|⟨all,v,f,_,_,_,_,_,⟨_,p⟩|⟨ch,_,_,_,⟨p,_⟩|⟨p',p,_⟩⟩⟩<;>simp[p,q1]
   ·rw[if_neg c40]
    obtain⟨r,q1,q2⟩:=ao7 (⟨t.facts,t.init,t.goal,d⟩:m6)
    simp only[oB,q1]
    by_cases hrc:r.2.code=0
    ·have key:(decide (r.1<1000000000)=true)↔∃plan,Val ⟨t.facts,t.init,t.goal,d⟩ plan∧works ⟨t.facts,t.init,t.goal,d⟩ t.init plan:=by
      cases q2 with
      |bad h hf hc=>exact absurd hrc hc
      |many h hm=>simp at hrc
      |none h hf hn=>exact⟨fun g=>by simp at g,fun⟨p,p1,p2⟩=>absurd p2 (hn p p1)⟩
      |@some k plan h hf h0 hk hv hw _ _=>exact⟨fun _=>⟨plan,hv,hw⟩,fun _=>by simp;omega⟩
     have fin:∀{ok:Bool} {p:List d9},v7 t=some (p,ok,⟨0,0⟩)→(ok=true↔∃plan,Val ⟨t.facts,t.init,t.goal,d⟩ plan∧works ⟨t.facts,t.init,t.goal,d⟩ t.init plan)→(Option.bind (v7 t) fun a30=>if(((!(decide (a30.2.2.code=0)))||(!(decide ((⟨0,0⟩:k6).code=0))))||(!(decide (r.2.code=0))))=true then some true else Option.bind (if a30.2.1=(decide (r.1<1000000000)) then some true else some false) fun t5=>some t5)=some true:=fun {ok p} hp hk=>by
      rw[hp]
      simp only[oB]
      rw[if_neg (by simp[hrc]),if_pos (Bool.eq_iff_iff.2 (hk.trans key.symm))]
      rfl
     rcases as5 ht with⟨_,_,p⟩|⟨all,v,f,_,_,hcl,hv,hr,⟨hf,p⟩|⟨ch,_,hin,_,⟨p,_⟩|⟨p',p,_⟩⟩⟩
     ·simp[p]
     ·refine fin p ⟨fun g=>by simp at g,fun⟨plan,p1,p2⟩=> ?_⟩
      rcases hr.val _ hcl.cl.init with⟨_,q⟩|⟨k,q,_⟩
      ·exact absurd (dn_of_plan r2 h1 p1 p2) (q _)
      ·omega
     ·simp[p]
     ·refine fin p ⟨fun _=> ?_,fun _=>rfl⟩
      obtain⟨g1,g2⟩:=hin _ .init
      obtain⟨k,_,hk⟩:=hr.nn g1 g2
      exact plan_of_dn r2 h1 hk.1
    ·obtain⟨p,hp⟩:∃p,v7 t=some p:=by
      rcases as5 ht with⟨_,_,p⟩|⟨all,v,f,_,_,_,_,_,⟨_,p⟩|⟨ch,_,_,_,⟨p,_⟩|⟨p',p,_⟩⟩⟩<;>exact⟨_,p⟩
     rw[hp]
     simp[hrc]
  ·rw[policy_bad v1 hc,determinize_bad v1 hc]
   obtain⟨r,q1,_⟩:=ao7 (⟨0,[],[],[]⟩:m6)
   simp[q1,hc]
 ·rw[e1]
  rfl
end Ab
end
