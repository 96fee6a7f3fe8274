/-
  Texts that the proof stands on.
-/
import Derived.Test.YtfnfejfohioppaaGreatDoorKRwChValue5
set_option linter.all false
section
namespace Ab
open Go
def noOO:g9:=⟨[],[],0⟩
def ooAt(t:d5)(op:Int):g9:=(t.operators[op.toNat]?).getD noOO
theorem ix_oo{t:d5}{op:Int}(h0:0≤op)(h1:op<t.operators.length):ix t.operators op=some (ooAt t op):=by
 obtain⟨a,h2,h3⟩:=j7 h0 h1
 rw[h2,ooAt,h3];rfl
def oCan(t:d5)(s:Li)(op:Int):Prop:=∀x ∈ (ooAt t op).pre,x ∈ s
noncomputable def efc(n:Int)(s:Li)(x:j6):Li:=P9 (fun p=>p ∈ x.add∨p ∈ s∧p ∉ x.del) n
theorem at7(n:Int)(s:Li)(x:j6):SetN (efc n s x) n:=setN_setOf _ _
theorem k8.at{t:d5}(h:k8 t){op:Int}(h0:0≤op)(h1:op<t.operators.length):OOk (ooAt t op) t.facts:=h.op _ (m5 (ix_oo h0 h1))
theorem oCan_eq{t:d5}(ht:k8 t){op:Int}(h0:0≤op)(h1:op<t.operators.length){s:Li}(hs:SetN s t.facts):S8 t s op=some (dec (oCan t s op)):=by
 have:=ht.n1;have:=hs.len
 unfold S8
 rw[ix_oo h0 h1]
 simp only[oB]
 rw[U0 hs.1 (ht.at h0 h1).pre.1 (by omega)]
 rfl
theorem oApplies_eq{t:d5}{op:Int}(h0:0≤op)(h1:op<t.operators.length)(s:Li):X4 t s op=some (dec (oCan t s op)):=by
 unfold X4
 rw[ix_oo h0 h1]
 simp only[oB,subset_eq]
 rfl
theorem effect_eq{t:d5}(ht:k8 t)(s:Li)(x:j6):U1 t s x=some (efc t.facts s x):=by
 have:=ht.n1
 unfold U1
 rw[if_pos (by omega)]
 rw[forR_setOf (b:=8) (fun p=>p ∈ x.add∨p ∈ s∧p ∉ x.del) ht.n0 (by omega) (fun j c g0 g1=>by
  unfold ai1
  simp only[oB,has_eq,y9]
  have e:(if dec (j ∈ x.add)=true then some true else if dec (j ∈ s)=true then some (dec (j ∉ x.del)) else some false)=some (dec (j ∈ x.add∨j ∈ s∧j ∉ x.del)):=by
   by_cases c1:j ∈ x.add
   ·rw[if_pos (l8 c1),l8 (.inl c1)]
   ·rw[if_neg (fun h=>c1 (m6.1 h))]
    by_cases c2:j ∈ s
    ·rw[if_pos (l8 c2)]
     exact congrArg some (K4 ⟨fun h=>.inr ⟨c2,h⟩,fun h=>(h.resolve_left c1).2⟩)
    ·rw[if_neg (fun h=>c2 (m6.1 h)),q6 (fun h=>c2 (h.resolve_left c1).1)]
  rw[e]
  simp only[oB]
  refine⟨fun hq=> ?_,fun hq=> ?_⟩
  ·rw[if_pos (l8 hq)]
   cases app 8 c [j]<;>rfl
  ·rw[if_neg (fun h=>hq (m6.1 h))];rfl)]
 rfl
theorem oUpdate_eq{n:Int}(hn:n≤24){s:Li}(hs:SetN s n){x:j6}(hx:V0 x n):J4 s x.add x.del=some (efc n s x):=by
 have:=hx.2.1.len
 rw[update_eq (n:=n) (by omega) hx.2.1.1 (by omega) hs hx.1]
 exact congrArg some (setOf_congr fun _ _ _=>Or.comm)
/-! ### Policies -/
theorem ord_of_adj:∀{l:LL},(∀(k:Nat) a b,l[k]? =some a→l[k+1]? =some b→llt a b)→Ord l
 |[],_=>.nil
 |[_],_=>by simp
 |a::b::l,h=>by
  have ih:Ord (b::l):=ord_of_adj fun k x y h1 h2=>h (k+1) x y (by simpa using h1) (by simpa using h2)
  have hab:llt a b:=h 0 a b rfl rfl
  refine List.pairwise_cons.2 ⟨fun c hc=> ?_,ih⟩
  rcases List.mem_cons.1 hc with rfl|hc
  ·exact hab
  ·exact G2 hab ((List.pairwise_cons.1 ih).1 c hc)
structure G7(t:d5)(p:List e9):Prop where
 len:p.length≤200
 ord:Ord (p.map e9.state)
 set:∀c ∈ p,SetN c.state t.facts
 op:∀c ∈ p,0≤c.operator∧c.operator<t.operators.length
 can:∀c ∈ p,oCan t c.state c.operator
def pSet(t:d5)(p:List e9)(j:Int)(c:e9):Prop:=SetN c.state t.facts∧∀b,0<j→ix p (j - 1)=some b→llt b.state c.state
noncomputable def M6(t:d5)(p:List e9)(j:Int)(c:e9):Int:=if dec (pSet t p j c)=true then if dec (0≤c.operator∧c.operator<t.operators.length)=true then if dec (oCan t c.state c.operator)=true then 0 else 11 else 3 else 5
theorem pCode_zero{t:d5}{p:List e9}{j:Int}{c:e9}:M6 t p j c=0→pSet t p j c∧(0≤c.operator∧c.operator<t.operators.length)∧oCan t c.state c.operator:=by
 unfold M6
 by_cases c1:pSet t p j c
 ·rw[ifP c1]
  by_cases c2:0≤c.operator∧c.operator<t.operators.length
  ·rw[ifP c2]
   by_cases c3:oCan t c.state c.operator
   ·rw[ifP c3];exact fun _=>⟨c1,c2,c3⟩
   ·rw[ifN c3];exact fun h=>by omega
  ·rw[ifN c2];exact fun h=>by omega
 ·rw[ifN c1];exact fun h=>by omega
theorem pCode_of{t:d5}{p:List e9}(hp:G7 t p){j:Int}{c:e9}(hc:ix p j=some c):M6 t p j c=0:=by
 have hm:=m5 hc
 unfold M6
 rw[ifP ⟨hp.set c hm,fun b _ hb=>ak9 hp.ord hb hc (by omega)⟩,ifP (hp.op c hm),ifP (hp.can c hm)]
theorem pol1{t:d5}(ht:k8 t){p:List e9}{j:Int}{c:e9}(hl:p.length≤200)(hc:ix p j=some c):D7 t p j ()=some (if M6 t p j c=0 then .inl () else .inr ⟨M6 t p j c, -9 - j⟩):=by
 obtain⟨j0,j1,_⟩:=r7 hc
 have hn:=ht.n1
 unfold D7
 rw[hc]
 simp only[oB,au8,y9]
 have key:(if dec (¬ SetN c.state t.facts)=true then some true else if 0<j then Option.bind (ix p (j - 1)) fun a40=>Option.bind (slices_Compare_int_int a40.state c.state) fun a45=>some (decide (0≤a45)) else some false)=some (dec (¬ pSet t p j c)):=by
  by_cases g1:SetN c.state t.facts
  ·rw[ifNN g1]
   by_cases g2:0<j
   ·rw[if_pos g2]
    obtain⟨b,hb,_⟩:=j7 (l:=p) (i:=j - 1) (by omega) (by omega)
    rw[hb]
    simp only[oB,al1,ag0]
    refine congrArg some (K4 ?_)
    rw[cmpL_ge]
    exact⟨fun h g=>h (g.2 b g2 hb),fun h g=>h ⟨g1,fun b' _ hb'=>by rw[hb] at hb';cases hb';exact g⟩⟩
   ·rw[if_neg g2,q6]
    exact fun h=>h ⟨g1,fun _ g=>absurd g g2⟩
  ·rw[ifP g1,l8 (fun h=>g1 h.1)]
 rw[key]
 simp only[oB]
 rw[n8 (by omega) (by omega)]
 unfold M6
 by_cases g1:pSet t p j c
 ·rw[ifNN g1,ifP g1]
  by_cases g2:0≤c.operator∧c.operator<t.operators.length
  ·rw[if_neg (show ¬ ((decide (c.operator<0))||(decide ((t.operators.length:Int)≤c.operator)))=true by rw[Bool.or_eq_true,decide_eq_true_eq,decide_eq_true_eq];omega),ifP g2,oCan_eq ht g2.1 g2.2 g1.1]
   simp only[oB,y9]
   by_cases g3:oCan t c.state c.operator
   ·rw[ifNN g3,ifP g3];rfl
   ·rw[ifP g3,ifN g3];rfl
  ·rw[if_pos (show((decide (c.operator<0))||(decide ((t.operators.length:Int)≤c.operator)))=true by rw[Bool.or_eq_true,decide_eq_true_eq,decide_eq_true_eq];omega),ifN g2];rfl
 ·rw[ifP g1,ifN g1];rfl
theorem pol2{t:d5}(ht:k8 t){p:List e9}{j:Int}{c:e9}(hl:p.length≤200)(hw:0<j→∀b,ix p (j - 1)=some b→b.state.length≤1000000)(hc:ix p j=some c):D4 t p j ()=some (if M6 t p j c=0 then .inl () else .inr ⟨M6 t p j c, -9 - j⟩):=by
 obtain⟨j0,j1,_⟩:=r7 hc
 have hn:=ht.n1;have hn0:=ht.n0;have ho:=ht.ops
 unfold D4
 rw[hc]
 simp only[oB,ap5 (n:=t.facts) _ (show -9223372036854775808<t.facts by omega) (show t.facts≤9223372036854775807 by omega),in_eq,at_eq,y9]
 have key:(if dec (¬ SetN c.state t.facts)=true then some true else if 0<j then Option.bind (ix p (j - 1)) fun a39=>Option.bind (P6 a39.state c.state) fun a47=>some (!a47) else some false)=some (dec (¬ pSet t p j c)):=by
  by_cases g1:SetN c.state t.facts
  ·rw[ifNN g1]
   by_cases g2:0<j
   ·rw[if_pos g2]
    obtain⟨b,hb,_⟩:=j7 (l:=p) (i:=j - 1) (by omega) (by omega)
    rw[hb]
    simp only[oB,before_eq (hw g2 b hb),y9]
    refine congrArg some (K4 ?_)
    exact⟨fun h g=>h (g.2 b g2 hb),fun h g=>h ⟨g1,fun b' _ hb'=>by rw[hb] at hb';cases hb';exact g⟩⟩
   ·rw[if_neg g2,q6]
    exact fun h=>h ⟨g1,fun _ g=>absurd g g2⟩
  ·rw[ifP g1,l8 (fun h=>g1 h.1)]
 rw[key]
 simp only[oB]
 rw[n8 (n:= -9 - j) (by omega) (by omega),n8 (n:=(t.operators.length:Int) - 1) (by omega) (by omega)]
 unfold M6
 by_cases g1:pSet t p j c
 ·rw[ifNN g1,ifP g1]
  by_cases g2:0≤c.operator∧c.operator<t.operators.length
  ·rw[ifN (show ¬ ¬ (0≤c.operator∧c.operator≤(t.operators.length:Int) - 1) by omega),ifP g2,oApplies_eq g2.1 g2.2]
   simp only[oB,y9]
   by_cases g3:oCan t c.state c.operator
   ·rw[ifNN g3,ifP g3];rfl
   ·rw[ifP g3,ifN g3];rfl
  ·rw[ifP (show ¬ (0≤c.operator∧c.operator≤(t.operators.length:Int) - 1) by omega),ifN g2];rfl
 ·rw[ifP g1,ifN g1];rfl
theorem policy_eq(t:d5)(p:List e9):∃f,D5 t p=some f∧M3 t p=some f∧((f=⟨0,0⟩∧k8 t∧G7 t p)∨(f.code ≠ 0∧¬ (k8 t∧G7 t p))):=by
 obtain⟨f,h1,h2,h3⟩:=oValidate_eq t
 unfold D5 M3
 rw[h1,h2]
 simp only[oB]
 rcases h3 with⟨rfl,ht⟩|⟨hc,hnt⟩
 ·rw[if_neg (by simp),if_pos rfl]
  by_cases c1:200<(p.length:Int)
  ·rw[if_pos c1,if_pos c1,at_eq]
   exact⟨_,rfl,rfl,.inr ⟨by simp,fun h=>by have:=h.2.len;omega⟩⟩
  ·rw[if_neg c1,if_neg c1]
   have hn:=ht.n1
   have hset:∀j:Int,(∀i,0≤i→i<j→(match ix p i with|some c=>if M6 t p i c=0 then none else some (⟨M6 t p i c, -9 - i⟩:j8)|none=>none)=none)→0<j→∀b,ix p (j - 1)=some b→b.state.length≤1000000:=fun j hj j0 b hb=>by
    have:=hj (j - 1) (by omega) (by omega)
    rw[hb] at this
    dsimp only at this
    split at this
    ·rename_i e
     have:=(pCode_zero e).1.1.len
     omega
    ·cases this
   rcases B7 (body:=D7 t p) (n:=(p.length:Int)) (fun j=>match ix p j with|some c=>if M6 t p j c=0 then none else some (⟨M6 t p j c, -9 - j⟩:j8)|none=>none) (by omega) (fun j h0 h1 _=>by
    obtain⟨c,e0,_⟩:=j7 (l:=p) h0 h1
    rw[pol1 ht (by omega) e0,e0]
    dsimp only
    split<;>rfl) with⟨a1,a2⟩|⟨j,f,a0,a1,a2,a3,a4⟩
   ·rcases B7 (body:=D4 t p) (n:=(p.length:Int)) (fun j=>match ix p j with|some c=>if M6 t p j c=0 then none else some (⟨M6 t p j c, -9 - j⟩:j8)|none=>none) (by omega) (fun j h0 h1 hj=>by
     obtain⟨c,e0,_⟩:=j7 (l:=p) h0 h1
     rw[pol2 ht (by omega) (hset j hj) e0,e0]
     dsimp only
     split<;>rfl) with⟨b1,b2⟩|⟨j',f',b0,b1,b2,b3,b4⟩
    ·rw[a1,b1]
     have all:∀j c,ix p j=some c→pSet t p j c∧(0≤c.operator∧c.operator<t.operators.length)∧oCan t c.state c.operator:=fun j c hc=>by
      have:=a2 j (r7 hc).1 (r7 hc).2.1
      rw[hc] at this
      dsimp only at this
      split at this
      ·rename_i e;exact pCode_zero e
      ·cases this
     have all':∀c ∈ p,SetN c.state t.facts∧(0≤c.operator∧c.operator<t.operators.length)∧oCan t c.state c.operator:=fun c hc=>by
      obtain⟨j,_,_,hj⟩:=s9 hc
      obtain⟨g1,g2,g3⟩:=all j c hj
      exact⟨g1.1,g2,g3⟩
     refine⟨_,rfl,rfl,.inl ⟨rfl,ht,by omega,ord_of_adj fun k a b ha hb=> ?_,fun c hc=>(all' c hc).1,fun c hc=>(all' c hc).2.1,fun c hc=>(all' c hc).2.2⟩⟩
     rw[lM] at ha hb
     cases ha':p[k]? with
     |none=>rw[ha'] at ha;cases ha
     |some a'=>
      cases hb':p[k+1]? with
      |none=>rw[hb'] at hb;cases hb
      |some b'=>
       rw[ha'] at ha;rw[hb'] at hb;cases ha;cases hb
       refine(all ((k+1:Nat):Int) b' (by rw[o8,hb'])).1.2 a' (by omega) ?_
       rw[show((k+1:Nat):Int) - 1=(k:Nat) by omega,o8,ha']
    ·rw[a2 j' b0 b1] at b2;cases b2
   ·rcases B7 (body:=D4 t p) (n:=(p.length:Int)) (fun j=>match ix p j with|some c=>if M6 t p j c=0 then none else some (⟨M6 t p j c, -9 - j⟩:j8)|none=>none) (by omega) (fun j h0 h1 hj=>by
     obtain⟨c,e0,_⟩:=j7 (l:=p) h0 h1
     rw[pol2 ht (by omega) (hset j hj) e0,e0]
     dsimp only
     split<;>rfl) with⟨b1,b2⟩|⟨j',f',b0,b1,b2,b3,b4⟩
    ·rw[b2 j a0 a1] at a2;cases a2
    ·have ej:j=j':=by
      rcases Int.lt_trichotomy j j' with h|h|h
      ·rw[b3 j a0 h] at a2;cases a2
      ·exact h
      ·rw[a3 j' b0 h] at b2;cases b2
     subst ej
     rw[a2] at b2
     cases b2
     rw[a4,b4]
     refine⟨_,rfl,rfl,.inr ?_⟩
     obtain⟨c,e0,_⟩:=j7 (l:=p) a0 a1
     rw[e0] at a2
     dsimp only at a2
     split at a2
     ·cases a2
     ·rename_i e;cases a2;exact⟨e,fun h=>e (pCode_of h.2 e0)⟩
 ·rw[if_pos (fault_no hc),if_neg hc]
  exact⟨f,rfl,rfl,.inr ⟨hc,fun h=>hnt h.1⟩⟩
/-! ### What a policy chooses -/
theorem au6(p:List e9)(s:Li):∃r,F0 p s=some r∧((r= -1∧∀c ∈ p,c.state ≠ s)∨∃c,c ∈ p∧c.state=s∧r=c.operator):=by
 unfold F0
 rcases B7 (body:=Y5 p s) (n:=(p.length:Int)) (fun j=>match ix p j with|some c=>if dec (c.state=s)=true then some c.operator else none|none=>none) (by omega) (fun j h0 h1 _=>by
  obtain⟨x,hx,_⟩:=j7 (l:=p) h0 h1
  unfold Y5
  simp only[hx,oB,ints_eq]
  by_cases e:x.state=s
  ·rw[ifP e,ifP e]
  ·rw[ifN e,ifN e]) with⟨h1,h2⟩|⟨j,o,h0,h1,h2,h3,h4⟩
 ·rw[h1]
  refine⟨-1,rfl,.inl ⟨rfl,fun c hc he=> ?_⟩⟩
  obtain⟨i,i0,i1,hi⟩:=s9 hc
  have:=h2 i i0 i1
  rw[hi] at this
  dsimp only at this
  rw[ifP he] at this
  cases this
 ·rw[h4]
  obtain⟨c,hc,_⟩:=j7 (l:=p) h0 h1
  rw[hc] at h2
  dsimp only at h2
  split at h2
  ·rename_i e
   cases h2
   exact⟨_,rfl,.inr ⟨c,m5 hc,m6.1 e,rfl⟩⟩
  ·cases h2
theorem chosen_eq{t:d5}{p:List e9}(hp:G7 t p)(s:Li):∃r,E0 p s=some r∧F0 p s=some r∧(r= -1∨(0≤r∧r<t.operators.length∧oCan t s r)):=by
 obtain⟨r,h1,h2⟩:=au6 p s
 refine⟨r,?_,h1,?_⟩
 ·unfold E0
  obtain⟨i,g1,g2,g3⟩:=bsf_eq (key:=e9.state) (xs:=p) (t:=s) (cmp:=open_Chosen_1) hp.ord (by have:=hp.len;omega) (fun a=>by unfold open_Chosen_1;rw[al1];rfl)
  have:j9 p s open_Chosen_1=bsf p s open_Chosen_1:=rfl
  rw[this,g1]
  simp only[oB,y9]
  rcases h2 with⟨rfl,h⟩|⟨c,hc,he,rfl⟩
  ·rw[ifP]
   rintro ⟨a,ha,e⟩;exact h a ha e
  ·rw[ifNN ⟨c,hc,he⟩]
   obtain⟨k,_,_,hk⟩:=s9 hc
   have:=g3 k c hk he
   subst this
   rw[hk];rfl
 ·rcases h2 with⟨rfl,h⟩|⟨c,hc,he,rfl⟩
  ·exact .inl rfl
  ·have:=hp.op c hc
   exact .inr ⟨this.1,this.2,he ▸ hp.can c hc⟩
end Ab
end
section
namespace Ab
open Go
theorem ix_map{α β:Type}{f:α→β}{l:List α}{i:Int}:ix (l.map f) i=(ix l i).map f:=by
 simp only[ix]
 split
 ·rw[lM]
 ·rfl
theorem Ord.one{l m:LL}(hl:Ord l)(hm:Ord m){p:Li→Prop}(h1:∀y,y ∈ l↔p y)(h2:∀y,y ∈ m↔p y):l=m:=Ord.ext hl hm fun y=>(h1 y).trans (h2 y).symm
theorem cloneLL_eq{s:LL}(h:s.length≤1000000):x8 s=some s:=by
 rw[x8,app,if_pos (by simp;omega)];rfl
theorem results1{t:d5}{o:g9}(ho:OOk o t.facts)(hn:t.facts≤24){s:Li}(hs:SetN s t.facts):forR 0 (o.outcomes.length:Int) (O8 s o) []=some (o.outcomes.map (efc t.facts s)):=by
 have hl:=ho.l1
 obtain⟨c,h1,h2⟩:=u7 (body:=O8 s o) (n:=(o.outcomes.length:Int)) (s:=[]) (fun j c=>c=(o.outcomes.take j.toNat).map (efc t.facts s)) (by omega) (by simp) (fun j c j0 j1 hP=>by
  obtain⟨x,hx,gx⟩:=j7 (l:=o.outcomes) j0 j1
  unfold O8
  rw[hx]
  simp only[oB]
  rw[oUpdate_eq hn hs (ho.xs x (m5 hx)).1]
  simp only[oB]
  have hlen:c.length≤4:=by rw[hP,List.length_map,List.length_take];omega
  rw[app,if_pos (by simp;omega)]
  refine⟨_,rfl,?_⟩
  rw[show(j+1).toNat=j.toNat+1 by omega,List.take_add_one,gx,hP,List.map_append];rfl)
 rw[h1,h2]
 simp
theorem U4{t:d5}(ht:k8 t){op:Int}(h0:0≤op)(h1:op<t.operators.length){s:Li}(hs:SetN s t.facts):∃st w,u4 t s op=some (st,w)∧Ord st∧(∀y,y ∈ st↔∃x ∈ (ooAt t op).outcomes,efc t.facts s x=y)∧st.length≤4∧w.length=st.length∧forR 0 ((ooAt t op).outcomes.length:Int) (D0 ((ooAt t op).outcomes.map (efc t.facts s)) st (ooAt t op)) (List.replicate st.length 0)=some w:=by
 have ho:=ht.at h0 h1
 have hl:=ho.l1
 unfold u4
 rw[ix_oo h0 h1]
 simp only[oB]
 rw[results1 ho ht.n1 hs]
 simp only[oB]
 rw[cloneLL_eq (by simp;omega)]
 simp only[oB]
 obtain⟨st,n1,n2,n3,n4⟩:=normal_eq (l:=(ooAt t op).outcomes.map (efc t.facts s)) (by simp;omega)
 have n4':st.length≤4:=by rw[List.length_map] at n4;omega
 have hm:mkL 8 (st.length:Int) (0:Int)=some (List.replicate st.length 0):=by
  rw[mkL,if_pos (by omega)];simp
 obtain⟨w,w1,w2⟩:=u7 (body:=D0 ((ooAt t op).outcomes.map (efc t.facts s)) st (ooAt t op)) (n:=((ooAt t op).outcomes.length:Int)) (s:=List.replicate st.length 0) (fun j c=>c.length=st.length) (by omega) (by simp) (fun j c j0 j1 hP=>by
  obtain⟨x,hx,gx⟩:=j7 (l:=(ooAt t op).outcomes) j0 j1
  have hmem:efc t.facts s x ∈ st:=(n3 _).2 (List.mem_map.2 ⟨x,m5 hx,rfl⟩)
  obtain⟨i,e1,e2,e3⟩:=au4 (t:=efc t.facts s x) n2 (by omega)
  obtain⟨k,k0,k1,hk⟩:=s9 hmem
  have:=e3 k hk
  subst this
  obtain⟨z,hz,gz⟩:=j7 (l:=c) (i:=k) k0 (by omega)
  unfold D0
  rw[hx,ix_map,hx]
  simp only[oB,Option.map_some,e1,hz]
  exact⟨_,rfl,by rw[lS];exact hP⟩)
 rw[n1]
 simp only[oB,hm,w1]
 exact⟨st,w,rfl,n2,fun y=>by rw[n3,List.mem_map],n4',w2,w1⟩
/-! ### The coin -/
end Ab
end
section
namespace Ab
open Go
noncomputable def chO(p:List e9)(s:Li):Int:=(F0 p s).getD (-1)
theorem aq8(p:List e9)(s:Li):F0 p s=some (chO p s):=by
 obtain⟨r,h,_⟩:=au6 p s
 rw[chO,h];rfl
theorem ak7{t:d5}{p:List e9}(hp:G7 t p)(s:Li):E0 p s=some (chO p s)∧(chO p s= -1∨(0≤chO p s∧chO p s<t.operators.length∧oCan t s (chO p s))):=by
 obtain⟨r,h1,h2,h3⟩:=chosen_eq hp s
 have:chO p s=r:=by rw[chO,h2];rfl
 rw[this]
 exact⟨h1,h3⟩
theorem ifOr{a b:Prop}:(if dec a=true then some true else some (dec b))=some (dec (a∨b)):=by
 by_cases h:a
 ·rw[ifP h,l8 (.inl h)]
 ·rw[ifN h];exact congrArg some (K4 ⟨.inr,fun g=>g.resolve_left h⟩)
end Ab
end
section
namespace Ab
open Go
def dzO(o:g9)(x:j6):R5:=⟨o.pre,x.add,x.del,o.cost⟩
structure Dz(t:d5)(a k:Int)(c:List (Int×Int))(d:List R5):Prop where
 len:c.length=d.length
 most:(c.length:Int)≤4 * a+k
 each:∀i p,ix c i=some p→(0≤p.1∧p.1<t.operators.length)∧∃x ∈ (ooAt t p.1).outcomes,ix d i=some (dzO (ooAt t p.1) x)
 all:∀(b m:Int) (x:j6),0≤b→b<t.operators.length→ix (ooAt t b).outcomes m=some x→(b<a∨b=a∧m<k)→∃i,ix c i=some (b,m)∧ix d i=some (dzO (ooAt t b) x)
end Ab
end
section
namespace Ab
open Go
def dg(x:Int):Li:=if x<10 then [48+x] else [48+x / 10,48+x % 10]
def encS(s:Li):Li:=s.flatMap (fun x=>dg x++[44])++[59]
def encK(l:LL):Li:=l.flatMap encS
def keyK(l:LL):ByteArray:=strB (encK l)
/-! ### Maps -/
end Ab
end
section
namespace Ab
open Go
end Ab
end
section
namespace Ab
open Go
/-! ### Loops side by side -/
theorem oAfter_eq{t:d5}(ht:k8 t){op:Int}(h0:0≤op)(h1:op<t.operators.length){s:Li}(hs:SetN s t.facts):S5 t s op=u4 t s op:=by
 obtain⟨st,w,r1,r2,r3,r4,r5,r6⟩:=U4 ht h0 h1 hs
 have ho:=ht.at h0 h1
 have hl:=ho.l1
 have hn:=ht.n1
 rw[r1]
 unfold S5
 rw[ix_oo h0 h1]
 simp only[oB]
 obtain⟨l,a1,a2,a3,a4,a5⟩:=u7 (body:=ab9 t s (ooAt t op)) (n:=((ooAt t op).outcomes.length:Int)) (s:=[]) (fun j l=>Ord l∧(l.length:Int)≤j∧(∀y ∈ l,y.length≤24)∧∀y,y ∈ l↔∃k x,k<j∧ix (ooAt t op).outcomes k=some x∧efc t.facts s x=y) (by omega) ⟨.nil,by simp,by simp,fun y=>⟨fun h=>by(cases h),fun⟨k,x,k1,k2,_⟩=>by have:=(r7 k2).1;omega⟩⟩ (fun j l j0 j1 ⟨p1,p2,p3,p4⟩=>by
  obtain⟨x,hx,_⟩:=j7 (l:=(ooAt t op).outcomes) j0 j1
  unfold ab9
  rw[hx]
  simp only[oB,effect_eq ht]
  obtain⟨l',m1,m2,m3,m4⟩:=insert_eq p1 (by omega) (fun y hy=>by have:=p3 y hy;omega) (efc t.facts s x)
  rw[m1]
  have e24:=(at7 t.facts s x).len
  refine⟨l',rfl,m2,by omega,fun y hy=> ?_,fun y=> ?_⟩
  ·rcases(m3 y).1 hy with rfl|h
   ·omega
   ·exact p3 y h
  ·rw[m3,p4]
   constructor
   ·rintro (rfl|⟨k,x',k1,k2⟩)
    ·exact⟨j,x,by omega,hx,rfl⟩
    ·exact⟨k,x',by omega,k2⟩
   ·rintro ⟨k,x',k1,k2,k3⟩
    by_cases ek:k=j
    ·subst ek
     rw[hx] at k2;cases k2
     exact .inl k3.symm
    ·exact .inr ⟨k,x',by omega,k2,k3⟩)
 have hst:l=st:=Ord.ext a2 r2 fun y=>by
  rw[a5,r3]
  constructor
  ·rintro ⟨k,x,_,k2,k3⟩;exact⟨x,m5 k2,k3⟩
  ·rintro ⟨x,hx,k3⟩
   obtain⟨k,k0,k1,k2⟩:=s9 hx
   exact⟨k,x,k1,k2,k3⟩
 subst hst
 have hm:mkL 8 (l.length:Int) (0:Int)=some (List.replicate l.length 0):=by
  rw[mkL,if_pos (by omega)];simp
 rw[a1]
 simp only[oB,hm]
 have e:forR 0 ((ooAt t op).outcomes.length:Int) (ab6 t s (ooAt t op) l) (List.replicate l.length 0)=some w:=by
  rw[← r6]
  refine forR_congr fun j c j0 j1=> ?_
  obtain⟨x,hx,_⟩:=j7 (l:=(ooAt t op).outcomes) j0 j1
  obtain⟨i,e1,e2,e3⟩:=au4 (t:=efc t.facts s x) r2 (by omega)
  obtain⟨r,g1,g2⟩:=place_eq l (efc t.facts s x)
  unfold ab6 D0
  rw[hx,ix_map,hx]
  simp only[oB,Option.map_some,effect_eq ht,e1,g1]
  rcases g2 with⟨_,h⟩|⟨_,_,h,_⟩
  ·exact absurd ((r3 _).2 ⟨x,m5 hx,rfl⟩) h
  ·rw[e3 r h]
 rw[e]
 rfl
end Ab
end
section
namespace Ab
open Go
def Ext(a b:LL):Prop:=∀k y,ix a k=some y→ix b k=some y
theorem Ext.refl(a:LL):Ext a a:=fun _ _ h=>h
theorem Ext.mem{a b:LL}(h:Ext a b){y:Li}(hy:y ∈ a):y ∈ b:=by
 obtain⟨k,_,_,hk⟩:=s9 hy
 exact m5 (h k y hk)
theorem Ext.snoc{a b:LL}(h:Ext a b)(z:Li):Ext a (b++[z]):=fun k y hk=>by
 obtain⟨i0,i1,g⟩:=r7 (h k y hk)
 rw[ix,if_pos i0,List.getElem?_append_left (by omega),g]
theorem Ext.len{a b:LL}(h:Ext a b):a.length≤b.length:=by
 by_cases c:a.length=0
 ·omega
 ·obtain⟨y,hy,_⟩:=j7 (l:=a) (i:=(a.length:Int) - 1) (by omega) (by omega)
  have:=(r7 (h _ y hy)).2.1
  omega
structure Rc(t:d5)(l:LL)(m:List (ByteArray×Int))(ws:Li):Prop where
 set:∀s ∈ l,SetN s t.facts
 len:l.length≤2000
 map:∀s,SetN s t.facts→(0<Option.getD (mget m (keyK [s])) 0↔s ∈ l)
 wrd:ws=l.map fun s=>(wsN s:Int)
theorem Rc.has{t:d5}{l:LL}{m:List (ByteArray×Int)}{ws:Li}(h:Rc t l m ws){s:Li}(hs:SetN s t.facts):(wsN s:Int) ∈ ws↔s ∈ l:=by
 rw[h.wrd,List.mem_map]
 constructor
 ·rintro ⟨a,ha,e⟩
  have:a=s:=(h.set a ha).word_inj hs (by omega)
  exact this ▸ ha
 ·intro hm;exact⟨s,hm,rfl⟩
def ClS(t:d5)(l:LL)(s:Li)(n:Int):Prop:=∀op:Int,0≤op→op<n→oCan t s op→∀x ∈ (ooAt t op).outcomes,efc t.facts s x ∈ l
structure Cl(t:d5)(l:LL):Prop where
 len:l.length≤2000
 set:∀s ∈ l,SetN s t.facts
 init:t.init ∈ l
 closed:∀s ∈ l,ClS t l s t.operators.length
end Ab
end
section
namespace Ab
open Go
theorem ao9{α:Type}[DecidableEq α]:∀{c S:List α},c.Nodup→(∀x ∈ c,x ∈ S)→c.length≤S.length
 |[],_,_,_=>Nat.zero_le _
 |a::c,S,h,hs=>by
  obtain⟨h1,h2⟩:=List.nodup_cons.1 h
  have ha:=hs a (by simp)
  have:=ao9 (c:=c) (S:=S.erase a) h2 fun x hx=>by
   have hne:x ≠ a:=fun e=>h1 (e ▸ hx)
   exact(List.mem_erase_of_ne hne).2 (hs x (List.mem_cons_of_mem _ hx))
  rw[List.length_erase_of_mem ha] at this
  have:0<S.length:=List.length_pos_of_mem ha
  simp only[List.length_cons]
  omega
section
variable {α:Type}
def Dn(G L:α→Prop)(nx:α→List α):Nat→α→Prop
 |0,s=>G s
 |k+1,s=>G s∨(L s∧∀y ∈ nx s,Dn G L nx k y)
variable {G L:α→Prop}{nx:α→List α}
theorem Dn.goal{k:Nat}{s:α}(h:G s):Dn G L nx k s:=by
 cases k with
 |zero=>exact h
 |succ k=>exact .inl h
theorem Dn.succ:∀{k:Nat} {s:α},Dn G L nx k s→Dn G L nx (k+1) s
 |0,s,h=>.inl h
 |k+1,s,h=>by
  rcases h with h|⟨h1,h2⟩
  ·exact .inl h
  ·exact .inr ⟨h1,fun y hy=>(h2 y hy).succ⟩
theorem Dn.mono{k m:Nat}{s:α}(h:Dn G L nx k s)(hm:k≤m):Dn G L nx m s:=by
 induction hm with
 |refl=>exact h
 |step _ ih=>exact ih.succ
def Ht(G L:α→Prop)(nx:α→List α)(k:Nat)(s:α):Prop:=Dn G L nx k s∧∀j,j<k→¬ Dn G L nx j s
theorem Ht.unique{k m:Nat}{s:α}(h:Ht G L nx k s)(h':Ht G L nx m s):k=m:=by
 rcases Nat.lt_trichotomy k m with c|c|c
 ·exact absurd h.1 (h'.2 k c)
 ·exact c
 ·exact absurd h'.1 (h.2 m c)
theorem Ht.le{k m:Nat}{s:α}(h:Ht G L nx k s)(h':Dn G L nx m s):k≤m:=by
 rcases Nat.lt_or_ge m k with c|c
 ·exact absurd h' (h.2 m c)
 ·exact c
theorem Ht.of_dn:∀{k:Nat} {s:α},Dn G L nx k s→∃m,m≤k∧Ht G L nx m s
 |0,s,h=>⟨0,Nat.le_refl _,h,fun j hj=>by omega⟩
 |k+1,s,h=>by
  by_cases c:Dn G L nx k s
  ·obtain⟨m,h1,h2⟩:=Ht.of_dn c
   exact⟨m,by omega,h2⟩
  ·exact⟨k+1,Nat.le_refl _,h,fun j hj hd=>c (hd.mono (by omega))⟩
theorem Ht.zero{s:α}(h:G s):Ht G L nx 0 s:=⟨h,fun j hj=>by omega⟩
theorem Ht.goal{k:Nat}{s:α}(h:Ht G L nx k s)(hg:G s):k=0:=h.unique (.zero hg)
theorem Ht.step{k:Nat}{s:α}(h:Ht G L nx k s)(hg:¬ G s)(hne:∀s,L s→nx s ≠ []):∃m,k=m+1∧L s∧(∀y ∈ nx s,∃j,j≤m∧Ht G L nx j y)∧∃y ∈ nx s,Ht G L nx m y:=by
 cases k with
 |zero=>exact absurd h.1 hg
 |succ m=>
  rcases h.1 with g|⟨h1,h2⟩
  ·exact absurd g hg
  ·refine⟨m,rfl,h1,fun y hy=>Ht.of_dn (h2 y hy),?_⟩
   cases m with
   |zero=>
    obtain⟨y,hy⟩:=List.exists_mem_of_ne_nil _ (hne s h1)
    exact⟨y,hy,h2 y hy,fun j hj=>by omega⟩
   |succ m=>
    have hn:=h.2 (m+1) (by omega)
    have:∃y ∈ nx s,¬ Dn G L nx m y:=Classical.byContradiction fun hc=>hn (.inr ⟨h1,fun y hy=>Classical.byContradiction fun hy2=>hc ⟨y,hy,hy2⟩⟩)
    obtain⟨y,hy,hy2⟩:=this
    exact⟨y,hy,h2 y hy,fun j hj hd=>hy2 (hd.mono (by omega))⟩
end
end Ab
end
section
namespace Ab
open Go
def i9(t:d5)(s:Li):Prop:=∀x ∈ t.goal,x ∈ s
noncomputable def C0(p:List e9)(s:Li):Prop:=0≤chO p s
noncomputable def nxS(t:d5)(p:List e9)(s:Li):LL:=(ooAt t (chO p s)).outcomes.map (efc t.facts s)
inductive Rch(t:d5)(p:List e9):Li→Prop
 |init:Rch t p t.init
 |step {s y:Li}:Rch t p s→¬ i9 t s→C0 p s→y ∈ nxS t p s→Rch t p y
theorem chO_mem{p:List e9}{s:Li}(h:0≤chO p s):∃c ∈ p,c.state=s∧chO p s=c.operator:=by
 obtain⟨r,h1,h2⟩:=au6 p s
 have e:chO p s=r:=by rw[chO,h1];rfl
 rw[e] at h ⊢
 rcases h2 with⟨rfl,_⟩|⟨c,h3,h4,h5⟩
 ·omega
 ·exact⟨c,h3,h4,h5⟩
theorem am0{t:d5}{p:List e9}(hp:G7 t p){s:Li}(h:C0 p s):(0≤chO p s∧chO p s<t.operators.length)∧oCan t s (chO p s):=by
 obtain⟨_,e⟩:=ak7 hp s
 unfold C0 at h
 rcases e with e|e
 ·omega
 ·exact⟨⟨e.1,e.2.1⟩,e.2.2⟩
theorem Rch.set{t:d5}(ht:k8 t){p:List e9}{s:Li}(h:Rch t p s):SetN s t.facts:=by
 cases h with
 |init=>exact ht.init
 |step _ _ _ hy=>
  obtain⟨x,_,rfl⟩:=List.mem_map.1 hy
  exact at7 _ _ _
noncomputable def candK(t:d5)(p:List e9):LL:=t.init::p.flatMap fun c=>(ooAt t c.operator).outcomes.map (efc t.facts c.state)
theorem flat_len{α β:Type}{f:α→List β}{n:Nat}:∀{l:List α},(∀a ∈ l,(f a).length≤n)→(l.flatMap f).length≤l.length * n
 |[],_=>by simp
 |a::l,h=>by
  have h1:=h a (by simp)
  have h2:=flat_len (l:=l) fun b hb=>h b (List.mem_cons_of_mem _ hb)
  rw[List.flatMap_cons,List.length_append,List.length_cons,Nat.succ_mul]
  omega
theorem candK_len{t:d5}(ht:k8 t){p:List e9}(hp:G7 t p):(candK t p).length≤801:=by
 have h:=flat_len (f:=fun c:e9=>(ooAt t c.operator).outcomes.map (efc t.facts c.state)) (n:=4) (l:=p) fun c hc=>by
  have:=hp.op c hc
  have:=(ht.at this.1 this.2).l1
  simpa using this
 have:=hp.len
 have h2:p.length * 4≤200 * 4:=Nat.mul_le_mul_right _ this
 unfold candK
 rw[List.length_cons]
 omega
theorem Rch.cand{t:d5}{p:List e9}{s:Li}(h:Rch t p s):s ∈ candK t p:=by
 cases h with
 |init=>exact List.mem_cons_self ..
 |@step s y _ _ hl hy=>
  obtain⟨c,h1,h2,h3⟩:=chO_mem hl
  refine List.mem_cons_of_mem _ (List.mem_flatMap.2 ⟨c,h1,?_⟩)
  unfold nxS at hy
  rw[h3] at hy
  rw[h2]
  exact hy
theorem ah3{t:d5}(ht:k8 t){p:List e9}(hp:G7 t p){l:LL}(hn:l.Nodup)(h:∀s ∈ l,Rch t p s):l.length≤801:=
 Nat.le_trans (ao9 hn fun s hs=>(h s hs).cand) (candK_len ht hp)
theorem Ord.nodup{l:LL}(h:Ord l):l.Nodup:=List.Pairwise.imp (fun {a b:Li} (hab:llt a b) (e:a=b)=>H6 a (by rw[← e] at hab;exact hab)) h
def ClV(t:d5)(p:List e9)(l:LL)(s:Li):Prop:=¬ i9 t s→C0 p s→∀y ∈ nxS t p s,y ∈ l
structure Vis(t:d5)(p:List e9)(l:LL):Prop where
 ord:Ord l
 mem:∀s,s ∈ l↔Rch t p s
theorem vis_of{t:d5}{p:List e9}{l:LL}(ho:Ord l)(hi:t.init ∈ l)(hr:∀s ∈ l,Rch t p s)(hc:∀s ∈ l,ClV t p l s):Vis t p l:=by
 refine⟨ho,fun s=>⟨hr s,fun h=> ?_⟩⟩
 induction h with
 |init=>exact hi
 |step _ hg hl hy ih=>exact hc _ ih hg hl _ hy
theorem Vis.unique{t:d5}{p:List e9}{l m:LL}(h:Vis t p l)(h':Vis t p m):l=m:=Ord.one h.ord h'.ord h.mem h'.mem
theorem containsLL_eq{l:LL}{s:Li}:x7 l (fun y=>K9 y s)=some (dec (s ∈ l)):=by
 unfold x7 w5
 rcases B7 (body:=x6 l fun y=>K9 y s) (n:=(l.length:Int)) (fun j=>if dec (ix l j=some s)=true then some j else none) (by omega) (fun j h0 h1 _=>by
  obtain⟨x,hx,_⟩:=j7 (l:=l) h0 h1
  unfold x6 K9
  rw[hx]
  simp only[oB,equal_eq]
  by_cases e:x=s
  ·rw[ifP e,ifP (by rw[e])]
  ·rw[ifN e,ifN (by simpa using e)]) with⟨h1,h2⟩|⟨j,o,h0,h1,h2,h3,h4⟩
 ·rw[h1]
  simp only[oB]
  rw[q6]
  ·rfl
  ·intro hs
   obtain⟨i,i0,i1,hi⟩:=s9 hs
   have:=h2 i i0 i1
   rw[ifP hi] at this
   cases this
 ·rw[h4]
  split at h2
  ·rename_i e
   cases h2
   simp only[oB]
   rw[l8 (m5 (m6.1 e)),decide_eq_true h0]
  ·cases h2
theorem vis4{t:d5}(ht:k8 t){p:List e9}(hp:G7 t p){s:Li}(hs:Rch t p s)(hg:¬ i9 t s)(hl:C0 p s){st:LL}{w:Li}(hst:∀y,y ∈ st↔y ∈ nxS t p s){l0:LL}(hn:l0.Nodup)(hr:∀s ∈ l0,Rch t p s):
  ∃l,forR 0 (st.length:Int) (N8 (st,w)) l0=some l∧l.Nodup∧(∀s ∈ l,Rch t p s)∧Ext l0 l∧∀y ∈ st,y ∈ l:=by
 obtain⟨l,h1,h2,h3,h4,h5⟩:=u7 (body:=N8 (st,w)) (n:=(st.length:Int)) (s:=l0) (fun j l=>l.Nodup∧(∀s ∈ l,Rch t p s)∧Ext l0 l∧∀k y,k<j→ix st k=some y→y ∈ l) (by omega) ⟨hn,hr,.refl _,fun k y hk h=>by have:=(r7 h).1;omega⟩ (fun j l j0 j1 ⟨a1,a2,a3,a4⟩=>by
  obtain⟨y,hy,_⟩:=j7 (l:=st) j0 j1
  unfold N8
  dsimp only
  rw[hy]
  simp only[oB,containsLL_eq,y9]
  have mono:∀{l2:LL},Ext l l2→y ∈ l2→∀k z,k<j+1→ix st k=some z→z ∈ l2:=fun h1 h2 k z hk hz=>by
   by_cases ek:k=j
   ·subst ek;rw[hy] at hz;cases hz;exact h2
   ·exact h1.mem (a4 k z (by omega) hz)
  have hry:Rch t p y:=.step hs hg hl ((hst y).1 (m5 hy))
  by_cases c:y ∈ l
  ·rw[ifNN c]
   exact⟨l,rfl,a1,a2,a3,mono (.refl _) c⟩
  ·have hlen:=ah3 ht hp a1 a2
   rw[ifP c,app,if_pos (by simp;omega)]
   refine⟨_,rfl,List.nodup_append.2 ⟨a1,by simp,fun a ha b hb=> ?_⟩,fun z hz=> ?_,a3.snoc _,mono ((Ext.refl _).snoc _) (by simp)⟩
   ·simp only[List.mem_singleton] at hb;subst hb;exact fun e=>c (e ▸ ha)
   ·rcases List.mem_append.1 hz with g|g
    ·exact a2 z g
    ·simp only[List.mem_singleton] at g;exact g ▸ hry)
 refine⟨l,h1,h2,h3,h4,fun y hy=> ?_⟩
 obtain⟨k,_,k1,hk⟩:=s9 hy
 exact h5 k y k1 hk
theorem oVisited_eq{t:d5}(ht:k8 t){p:List e9}(hp:G7 t p):∃l,Q4 t p=some l∧Vis t p l:=by
 have hn:=ht.n1
 have hil:=ht.init.len
 unfold Q4
 rw[clone_eq (by omega)]
 simp only[oB]
 obtain⟨l,h1,h2,h3,h4,h5⟩:=F4 (body:=V8 t p) (fun q=>q.1.Nodup∧(∀s ∈ q.1,Rch t p s)∧t.init ∈ q.1∧(0≤q.2∧q.2≤q.1.length)∧∀i s,i<q.2→ix q.1 i=some s→ClV t p q.1 s) (fun l=>l.Nodup∧(∀s ∈ l,Rch t p s)∧t.init ∈ l∧∀s ∈ l,ClV t p l s) (fun q=>(801 - q.2).toNat) (s:=([t.init],0)) ⟨by simp,by simpa using Rch.init,by simp,by simp,fun i s hi h=>by have:=(r7 h).1;dsimp only at hi;omega⟩ (fun⟨l,a⟩ ⟨g1,g2,g3,g4,g5⟩=>by
  dsimp only at g1 g2 g3 g4 g5 ⊢
  have hlen:=ah3 ht hp g1 g2
  unfold V8
  dsimp only
  by_cases c:a<l.length
  ·rw[if_pos c]
   obtain⟨s,hs,_⟩:=j7 (l:=l) g4.1 c
   have hrs:=g2 s (m5 hs)
   have hset:=hrs.set ht
   have hsl:=hset.len
   rw[hs]
   simp only[oB,(ak7 hp s).1,U0 hset.1 ht.goal.1 (show s.length≤1000000 by omega)]
   have key:(if chO p s<0 then some true else some (dec (∀x ∈ t.goal,x ∈ s)))=some (dec (chO p s<0∨i9 t s)):=by
    unfold i9
    rw[← ifOr]
    by_cases h:chO p s<0
    ·rw[if_pos h,ifP h]
    ·rw[if_neg h,ifN h]
   rw[key]
   simp only[oB]
   have fin:∀{l2:LL},Ext l l2→ClV t p l2 s→∀i z,i<a+1→ix l2 i=some z→ClV t p l2 z:=fun h1 h2 i z hi hz=>by
    by_cases ei:i=a
    ·subst ei
     rw[h1 _ _ hs] at hz;cases hz;exact h2
    ·obtain⟨y,hy,_⟩:=j7 (l:=l) (i:=i) (r7 hz).1 (by omega)
     have:=h1 _ _ hy
     rw[hz] at this;cases this
     exact fun q1 q2 y hy2=>h1.mem (g5 i z (by omega) hy q1 q2 y hy2)
   by_cases cs:chO p s<0∨i9 t s
   ·rw[ifP cs]
    simp only[oB]
    rw[n8 (by omega) (by omega)]
    refine .inl ⟨_,rfl,⟨g1,g2,g3,by dsimp only;omega,fin (.refl _) fun q1 q2=> ?_⟩,by dsimp only;omega⟩
    rcases cs with c1|c1
    ·unfold C0 at q2;omega
    ·exact absurd c1 q1
   ·rw[ifN cs]
    have hl:C0 p s:=by unfold C0;have:=fun h=>cs (.inl h);omega
    have hg:¬ i9 t s:=fun h=>cs (.inr h)
    have ho:=am0 hp hl
    obtain⟨st,w,r1,_,r3,_⟩:=U4 ht ho.1.1 ho.1.2 hset
    rw[r1]
    simp only[oB]
    obtain⟨l2,e1,e2,e3,e4,e5⟩:=vis4 ht hp hrs hg hl (st:=st) (w:=w) (fun y=>by rw[r3,nxS,List.mem_map]) g1 g2
    rw[e1]
    simp only[oB]
    have:=e4.len
    rw[n8 (by omega) (by omega)]
    exact .inl ⟨_,rfl,⟨e2,e3,e4.mem g3,by dsimp only;omega,fin e4 fun _ _ y hy=>e5 y (by rw[r3];exact List.mem_map.1 hy)⟩,by dsimp only;omega⟩
  ·rw[if_neg c]
   refine .inr ⟨l,rfl,g1,g2,g3,fun s hs=> ?_⟩
   obtain⟨i,i0,i1,hi⟩:=s9 hs
   exact g5 i s (by omega) hi)
 rw[h1]
 simp only[oB]
 have hlen:=ah3 ht hp h2 h3
 obtain⟨r,n1,n2,n3,n4⟩:=normal_eq (l:=l) (by omega)
 rw[n1]
 exact⟨r,rfl,vis_of n2 ((n3 _).2 h4) (fun s hs=>h3 s ((n3 s).1 hs)) fun s hs q1 q2 y hy=>(n3 y).2 (h5 s ((n3 s).1 hs) q1 q2 y hy)⟩
theorem rvis3{t:d5}(ht:k8 t){p:List e9}(hp:G7 t p){s:Li}(hs:Rch t p s)(hg:¬ i9 t s)(hl:C0 p s){st:LL}{w:Li}(hst:∀y,y ∈ st↔y ∈ nxS t p s){l0:LL}{b0:Bool}(ho:Ord l0)(hr:∀s ∈ l0,Rch t p s):
  ∃l b,forR 0 (st.length:Int) (O7 (st,w)) (l0,b0)=some (l,b)∧Ord l∧(∀s ∈ l,Rch t p s)∧(∀s ∈ l0,s ∈ l)∧l0.length≤l.length∧(b=false→b0=false∧l=l0∧∀y ∈ st,y ∈ l)∧(b=true→b0=true∨l0.length<l.length):=by
 have hn:=ht.n1
 obtain⟨⟨l,b⟩,h1,h2,h3,h4,h5,h6,h7⟩:=u7 (body:=O7 (st,w)) (n:=(st.length:Int)) (s:=(l0,b0)) (fun j q=>Ord q.1∧(∀s ∈ q.1,Rch t p s)∧(∀s ∈ l0,s ∈ q.1)∧l0.length≤q.1.length∧(q.2=false→b0=false∧q.1=l0∧∀k y,k<j→ix st k=some y→y ∈ q.1)∧(q.2=true→b0=true∨l0.length<q.1.length)) (by omega) ⟨ho,hr,fun _ h=>h,Nat.le_refl _,fun h=>⟨h,rfl,fun k y hk h=>by have:=(r7 h).1;omega⟩,fun h=>.inl h⟩ (fun j ⟨l,b⟩ j0 j1 ⟨a1,a2,a3,a4,a5,a6⟩=>by
  dsimp only at a1 a2 a3 a4 a5 a6
  obtain⟨y,hy,_⟩:=j7 (l:=st) j0 j1
  have hry:Rch t p y:=.step hs hg hl ((hst y).1 (m5 hy))
  unfold O7
  dsimp only
  rw[hy]
  obtain⟨z,z1,z2⟩:=place_eq l y
  simp only[oB,z1]
  rcases z2 with⟨rfl,hz⟩|⟨z0,_,hz,_⟩
  ·rw[if_pos (by decide)]
   have hlen:=ah3 ht hp a1.nodup a2
   obtain⟨l2,m1,m2,m3,m4⟩:=insert_eq a1 (by omega) (fun y hy=>by have:=((a2 y hy).set ht).len;omega) y
   rw[m1]
   have hlt:l.length<l2.length:=by
    have:=ao9 (c:=y::l) (S:=l2) (List.nodup_cons.2 ⟨hz,a1.nodup⟩) fun x hx=>(m3 x).2 (List.mem_cons.1 hx)
    simp only[List.length_cons] at this
    omega
   refine⟨_,rfl,m2,fun x hx=> ?_,fun x hx=>(m3 x).2 (.inr (a3 x hx)),by dsimp only;omega,fun h=>by(cases h),fun _=>.inr (by dsimp only;omega)⟩
   rcases(m3 x).1 hx with rfl|h
   ·exact hry
   ·exact a2 x h
  ·rw[if_neg (by omega)]
   refine⟨_,rfl,a1,a2,a3,a4,fun h=> ?_,a6⟩
   obtain⟨q1,q2,q3⟩:=a5 h
   refine⟨q1,q2,fun k z' hk hz'=> ?_⟩
   by_cases ek:k=j
   ·subst ek;rw[hy] at hz';cases hz';exact m5 hz
   ·exact q3 k z' (by omega) hz')
 refine⟨l,b,h1,h2,h3,h4,h5,fun h=> ?_,h7⟩
 obtain⟨q1,q2,q3⟩:=h6 h
 refine⟨q1,q2,fun y hy=> ?_⟩
 obtain⟨k,_,k1,hk⟩:=s9 hy
 exact q3 k y k1 hk
theorem rVisited_eq{t:d5}(ht:k8 t){p:List e9}(hp:G7 t p):∃l,Q3 t p=some l∧Vis t p l:=by
 have hn:=ht.n1
 unfold Q3
 obtain⟨l,h1,h2⟩:=F4 (body:=V4 t p) (fun q=>Ord q.1∧(∀s ∈ q.1,Rch t p s)∧t.init ∈ q.1∧(q.2=false→∀s ∈ q.1,ClV t p q.1 s)) (fun l=>Vis t p l) (fun q=>2 * (801 - q.1.length)+if q.2=true then 1 else 0) (s:=([t.init],true)) ⟨by simp,by simpa using Rch.init,by simp,fun h=>by cases h⟩ (fun⟨l0,b0⟩ ⟨g1,g2,g3,g4⟩=>by
  dsimp only at g1 g2 g3 g4 ⊢
  unfold V4
  dsimp only
  by_cases cb:b0=true
  ·subst cb
   rw[if_pos rfl]
   obtain⟨⟨l,b⟩,e1,e2,e3,e4,e5,e6,e7⟩:=F4 (body:=V9 t p) (fun q=>Ord q.1∧(∀s ∈ q.1,Rch t p s)∧t.init ∈ q.1∧l0.length≤q.1.length∧0≤q.2.2∧(q.2.1=false→q.1=l0∧∀i s,i<q.2.2→ix q.1 i=some s→ClV t p q.1 s)∧(q.2.1=true→l0.length<q.1.length)) (fun r=>Ord r.1∧(∀s ∈ r.1,Rch t p s)∧t.init ∈ r.1∧l0.length≤r.1.length∧(r.2=false→∀s ∈ r.1,ClV t p r.1 s)∧(r.2=false→r.1=l0)∧(r.2=true→l0.length<r.1.length)) (fun q=>(801 - q.2.2).toNat) (s:=(l0,false,0)) ⟨g1,g2,g3,Nat.le_refl _,by simp,fun _=>⟨rfl,fun i s hi h=>by have:=(r7 h).1;dsimp only at hi;omega⟩,fun h=>by(cases h)⟩ (fun⟨l,b,i⟩ ⟨a1,a2,a3,a4,a5,a6,a7⟩=>by
    dsimp only at a1 a2 a3 a4 a5 a6 a7 ⊢
    have hlen:=ah3 ht hp a1.nodup a2
    unfold V9
    dsimp only
    by_cases c:i<l.length
    ·rw[if_pos c]
     obtain⟨s,hs,_⟩:=j7 (l:=l) a5 c
     have hrs:=a2 s (m5 hs)
     have hset:=hrs.set ht
     rw[hs]
     simp only[oB,aq8]
     have key:(if chO p s<0 then some true else Option.bind (G4 t s) fun a36=>some a36)=some (dec (chO p s<0∨i9 t s)):=by
      unfold G4 i9
      rw[subset_eq,← ifOr]
      simp only[oB]
      by_cases h:chO p s<0
      ·rw[if_pos h,ifP h]
      ·rw[if_neg h,ifN h]
     rw[key]
     simp only[oB]
     by_cases cs:chO p s<0∨i9 t s
     ·rw[ifP cs]
      simp only[oB]
      rw[n8 (by omega) (by omega)]
      refine .inl ⟨_,rfl,⟨a1,a2,a3,a4,by dsimp only;omega,fun h=>⟨(a6 h).1,fun k z hk hz=> ?_⟩,a7⟩,by dsimp only;omega⟩
      dsimp only at hk
      by_cases ek:k=i
      ·subst ek;rw[hs] at hz;cases hz
       intro q1 q2
       rcases cs with c1|c1
       ·unfold C0 at q2;omega
       ·exact absurd c1 q1
      ·exact(a6 h).2 k z (by omega) hz
     ·rw[ifN cs]
      have hl:C0 p s:=by unfold C0;have:=fun h=>cs (.inl h);omega
      have hg:¬ i9 t s:=fun h=>cs (.inr h)
      have ho:=am0 hp hl
      rw[oAfter_eq ht ho.1.1 ho.1.2 hset]
      obtain⟨st,w,r1,_,r3,_⟩:=U4 ht ho.1.1 ho.1.2 hset
      rw[r1]
      simp only[oB]
      obtain⟨l2,b2,f1,f2,f3,f4,f5,f6,f7⟩:=rvis3 ht hp hrs hg hl (st:=st) (w:=w) (fun y=>by rw[r3,nxS,List.mem_map]) (b0:=b) a1 a2
      rw[f1]
      simp only[oB]
      rw[n8 (by omega) (by omega)]
      refine .inl ⟨_,rfl,⟨f2,f3,f4 _ a3,by dsimp only;omega,by dsimp only;omega,fun h=> ?_,fun h=> ?_⟩,by dsimp only;omega⟩
      ·obtain⟨q1,q2,q3⟩:=f6 h
       subst q2
       refine⟨(a6 q1).1,fun k z hk hz=> ?_⟩
       dsimp only at hk
       by_cases ek:k=i
       ·subst ek;rw[hs] at hz;cases hz
        exact fun _ _ y hy=>q3 y (by rw[r3];exact List.mem_map.1 hy)
       ·exact(a6 q1).2 k z (by omega) hz
      ·rcases f7 h with q|q
       ·have:=a7 q;dsimp only;omega
       ·dsimp only;omega
    ·rw[if_neg c]
     refine .inr ⟨_,rfl,a1,a2,a3,a4,fun h s hs=> ?_,fun h=>(a6 h).1,a7⟩
     obtain⟨k,k0,k1,hk⟩:=s9 hs
     exact(a6 h).2 k s (by have:k<(l.length:Int):=k1;omega) hk)
   rw[e1]
   simp only[oB]
   dsimp only at e2 e3 e4 e5 e6 e7
   have hlen:=ah3 ht hp e2.nodup e3
   refine .inl ⟨_,rfl,⟨e2,e3,e4,e6⟩,?_⟩
   dsimp only
   cases b with
   |false=>simp;have:=e7.1 rfl;rw[this];omega
   |true=>have:=e7.2 rfl;simp;omega
  ·rw[if_neg cb]
   have hb:b0=false:=by simpa using cb
   exact .inr ⟨_,rfl,vis_of g1 g3 g2 (g4 hb)⟩)
 rw[h1]
 exact⟨l,rfl,h2⟩
end Ab
end
section
namespace Ab
open Go
theorem Vis.closed{t:d5}{p:List e9}{l:LL}(h:Vis t p l):∀s ∈ l,¬ i9 t s→C0 p s→∀y ∈ nxS t p s,y ∈ l:=fun s hs hg hl y hy=>(h.mem y).2 (.step ((h.mem s).1 hs) hg hl hy)
theorem Vis.len{t:d5}(ht:k8 t){p:List e9}(hp:G7 t p){l:LL}(h:Vis t p l):l.length≤801:=ah3 ht hp h.ord.nodup fun s hs=>(h.mem s).1 hs
theorem find_eq{l:LL}(ho:Ord l)(hl:l.length≤500000){s:Li}{i:Int}(hi:ix l i=some s):y8 l s=some i:=by
 unfold y8
 obtain⟨k,h1,_,h3⟩:=au4 (t:=s) ho hl
 rw[h1,h3 i hi];rfl
theorem place_ord{l:LL}(ho:Ord l){s:Li}{i:Int}(hi:ix l i=some s):H7 l s=some i:=by
 obtain⟨z,h1,h2⟩:=place_eq l s
 rw[h1]
 rcases h2 with⟨_,h⟩|⟨_,_,h,_⟩
 ·exact absurd (m5 hi) h
 ·rw[ho.inj h hi]
theorem contains1_eq{l:Li}{s:Int}:C5 l s=some (dec (s ∈ l)):=by
 unfold C5 J7
 rcases B7 (body:=G6 l s) (n:=(l.length:Int)) (fun j=>if dec (ix l j=some s)=true then some j else none) (by omega) (fun j h0 h1 _=>by
  obtain⟨x,hx,_⟩:=j7 (l:=l) h0 h1
  unfold G6
  rw[hx]
  simp only[oB]
  by_cases e:s=x
  ·rw[if_pos e,ifP (by rw[e])]
  ·rw[if_neg e,ifN (by simpa using fun h=>e h.symm)]) with⟨h1,h2⟩|⟨j,o,h0,h1,h2,h3,h4⟩
 ·rw[h1]
  simp only[oB]
  rw[q6]
  ·rfl
  ·intro hs
   obtain⟨i,i0,i1,hi⟩:=s9 hs
   have:=h2 i i0 i1
   rw[ifP hi] at this
   cases this
 ·rw[h4]
  split at h2
  ·rename_i e
   cases h2
   simp only[oB]
   rw[l8 (m5 (m6.1 e)),decide_eq_true h0]
  ·cases h2
end Ab
end
section
namespace Ab
open Go
end Ab
end
section
namespace Ab
open Go
end Ab
end
section
namespace Ab
open Go
end Ab
end
section
namespace Ab
open Go
noncomputable def nxC(t:d5)(ch:Li→Int)(s:Li):LL:=(ooAt t (ch s)).outcomes.map (efc t.facts s)
inductive RchC(t:d5)(ch:Li→Int):Li→Prop
 |init:RchC t ch t.init
 |step {s y:Li} (h:RchC t ch s) (hg:¬ i9 t s) (hy:y ∈ nxC t ch s):RchC t ch y
def ChOk(t:d5)(ch:Li→Int):Prop:=∀s,RchC t ch s→¬ i9 t s→(0≤ch s∧ch s<t.operators.length)∧oCan t s (ch s)
section
variable {t:d5}{ch:Li→Int}
theorem RchC.set(ht:k8 t){s:Li}(h:RchC t ch s):SetN s t.facts:=by
 cases h with
 |init=>exact ht.init
 |step _ _ hy=>obtain⟨x,_,rfl⟩:=List.mem_map.1 hy;exact at7 _ _ _
structure PolB(t:d5)(ch:Li→Int)(p:List e9):Prop where
 ord:Ord (p.map e9.state)
 mem:∀s,(∃c ∈ p,c.state=s)↔RchC t ch s∧¬ i9 t s
 op:∀c ∈ p,c.operator=ch c.state
theorem PolB.rch{p:List e9}(h:PolB t ch p){c:e9}(hc:c ∈ p):RchC t ch c.state∧¬ i9 t c.state:=(h.mem _).1 ⟨c,hc,rfl⟩
theorem PolB.pol(ht:k8 t)(hk:ChOk t ch){p:List e9}(h:PolB t ch p)(hl:p.length≤200):G7 t p:=
 ⟨hl,h.ord,fun c hc=>(h.rch hc).1.set ht,fun c hc=>by rw[h.op c hc];exact(hk _ (h.rch hc).1 (h.rch hc).2).1,fun c hc=>by rw[h.op c hc];exact(hk _ (h.rch hc).1 (h.rch hc).2).2⟩
/-! ### One choice put in its place -/
structure PolP(t:d5)(ch:Li→Int)(p:List e9):Prop where
 pol:G7 t p
 of:∀c ∈ p,(RchC t ch c.state∧¬ i9 t c.state)∧c.operator=ch c.state
theorem PolP.op{p:List e9}(h:PolP t ch p):∀c ∈ p,c.operator=ch c.state:=fun c hc=>(h.of c hc).2
structure BI(t:d5)(ch:Li→Int)(q:LL)(p:List e9)(a:Int):Prop where
 a0:0≤a
 a1:a≤q.length
 pp:PolP t ch p
 qr:∀s ∈ q,RchC t ch s
 qi:t.init ∈ q
 px:∀c ∈ p,∀y ∈ nxC t ch c.state,y ∈ q
 dn:∀k s,k<a→ix q k=some s→i9 t s∨∃c ∈ p,c.state=s
 ql:q.length≤1+4 * p.length
theorem ah7(s:Li):G4 t s=some (dec (i9 t s)):=by
 unfold G4 i9
 rw[subset_eq]
 simp only[oB]
end
end Ab
end
section
namespace Ab
open Go
theorem smN_upd{f g:Nat→Int}{n i:Nat}(hi:i<n)(h:∀k,k<n→k ≠ i→g k=f k):smN n g=smN n f+(g i - f i):=by
 have:smN n g=smN n fun k=>f k+if k=i then g i - f i else 0:=k7 fun k hk=>by
  by_cases e:k=i
  ·subst e;rw[if_pos rfl];omega
  ·rw[if_neg e,h k hk e];omega
 rw[this,K6,Q9 (f:=fun k=>if k=i then g i - f i else 0) hi fun k _ hk=>if_neg hk,if_pos rfl]
def wtj(w:Li)(j:Nat):Int:=(w[j]?).getD 0
theorem T7{w:Li}{i:Nat}(h:i<w.length):ix w (i:Int)=some (wtj w i):=by
 rw[o8,List.getElem?_eq_getElem h];unfold wtj;rw[List.getElem?_eq_getElem h];rfl
theorem ai2{w:Li}{i:Nat}(h:i<w.length)(v:Int)(k:Nat):wtj (w.set i v) k=if k=i then v else wtj w k:=by
 unfold wtj
 rw[List.getElem?_set]
 by_cases e:k=i
 ·subst e;rw[if_pos rfl,if_pos h,if_pos rfl];rfl
 ·rw[if_neg (fun q=>e q.symm),if_neg e]
structure Wok(t:d5)(s:Li)(op:Int)(st:LL)(w:Li):Prop where
 eq:u4 t s op=some (st,w)
 ord:Ord st
 mem:∀y,y ∈ st↔∃x ∈ (ooAt t op).outcomes,efc t.facts s x=y
 s4:st.length≤4
 len:w.length=st.length
 pos:∀k,k<st.length→1≤wtj w k
 sum:smN st.length (wtj w)≤24
theorem results_ok{t:d5}(ht:k8 t){op:Int}(h0:0≤op)(h1:op<t.operators.length){s:Li}(hs:SetN s t.facts):∃st w,Wok t s op st w:=by
 have ho:=ht.at h0 h1
 have hl:=ho.l1
 obtain⟨st,w,r1,r2,r3,r4,r5,r6⟩:=U4 ht h0 h1 hs
 obtain⟨w',k1,k2,k3,k4,k5⟩:=u7 (body:=D0 ((ooAt t op).outcomes.map (efc t.facts s)) st (ooAt t op)) (n:=((ooAt t op).outcomes.length:Int)) (s:=List.replicate st.length 0)
  (fun j c=>c.length=st.length∧(∀k,0≤wtj c k)∧smN st.length (wtj c)≤6 * j∧∀(i:Int) x,0≤i→i<j→ix (ooAt t op).outcomes i=some x→∀k:Nat,st[k]? =some (efc t.facts s x)→1≤wtj c k) (by omega)
  ⟨by simp,fun k=>by unfold wtj;rw[List.getElem?_replicate];split<;>simp,by
   rw[an6 fun k _=>by unfold wtj;rw[List.getElem?_replicate];split<;>rfl];omega,fun i x i0 hi=>by omega⟩ (fun j c j0 j1 ⟨p1,p2,p3,p4⟩=>by
   obtain⟨x,hx,gx⟩:=j7 (l:=(ooAt t op).outcomes) j0 j1
   have hmem:efc t.facts s x ∈ st:=(r3 _).2 ⟨x,m5 hx,rfl⟩
   obtain⟨i,e1,e2,e3⟩:=au4 (t:=efc t.facts s x) r2 (by omega)
   obtain⟨k,k0,k1,hk⟩:=s9 hmem
   have:=e3 k hk
   subst this
   obtain⟨m,rfl⟩:=Int.eq_ofNat_of_zero_le k0
   have hm:m<st.length:=by omega
   have hz:=T7 (w:=c) (i:=m) (by omega)
   have hw:=(ho.xs x (m5 hx)).2
   unfold xWt at hw
   have hle:wtj c m≤smN st.length (wtj c):=by
    have:=W8 (f:=wtj c) p2 (Nat.zero_le m) hm
    simpa[smN] using this
   have hs6:w64 (wtj c m+x.weight)=wtj c m+x.weight:=n8 (by have:=p2 m;omega) (by omega)
   unfold D0
   rw[hx,ix_map,hx]
   simp only[oB,Option.map_some,e1,hz,hs6,Int.toNat_natCast]
   have hset:=ai2 (w:=c) (i:=m) (by omega) (wtj c m+x.weight)
   refine⟨_,rfl,by rw[lS];exact p1,fun k=> ?_,?_,fun i' x' i0 hi' hx' k hk'=> ?_⟩
   ·rw[hset];have:=p2 k;have:=p2 m;split<;>omega
   ·rw[smN_upd hm (f:=wtj c) (fun k _ hk=>by rw[hset,if_neg hk]),hset,if_pos rfl];omega
   ·rw[hset]
    by_cases e:k=m
    ·subst e;rw[if_pos rfl];have:=p2 k;omega
    ·rw[if_neg e]
     by_cases f:i'=j
     ·subst f;rw[hx] at hx';cases hx'
      have h5:ix st (k:Int)=some (efc t.facts s x):=by rw[o8];exact hk'
      have:=e3 _ h5
      omega
     ·exact p4 i' x' i0 (by omega) hx' k hk')
 rw[r6] at k1
 cases k1
 refine⟨st,w,r1,r2,r3,r4,r5,fun k hk=> ?_,by omega⟩
 obtain⟨x,hx,e⟩:=(r3 st[k]).1 (List.getElem_mem hk)
 obtain⟨i,i0,i1,hi⟩:=s9 hx
 exact k5 i x i0 i1 hi k (by rw[List.getElem?_eq_getElem hk,e])
end Ab
end
section
namespace Ab
open Go
def twF(st:LL)(w:Li)(J:Nat)(y:Li):Int:=smN J fun j=>if st[j]? =some y then wtj w j else 0
structure Sys(t:d5)(S:LL)(op:Nat→Int)(st:Nat→LL)(w:Nat→Li):Prop where
 ord:Ord S
 n5:S.length≤5
 set:∀s ∈ S,SetN s t.facts
 ng:∀s ∈ S,¬ i9 t s
 rng:∀i,i<S.length→0≤op i∧op i<t.operators.length
 res:∀i s,S[i]? =some s→Wok t s (op i) (st i) (w i)
 cl:∀i,i<S.length→∀y ∈ st i,i9 t y∨y ∈ S
section
variable {t:d5}{S:LL}{op:Nat→Int}{st:Nat→LL}{w:Nat→Li}
def WF(st:Nat→LL)(w:Nat→Li)(i:Nat):Int:=smN (st i).length (wtj (w i))
def wF(S:LL)(st:Nat→LL)(w:Nat→Li):Mtx:=fun i k=>match S[k]? with|some y=>twF (st i) (w i) (st i).length y|none=>0
def cF(t:d5)(op:Nat→Int)(i:Nat):Int:=(ooAt t (op i)).cost
theorem W7(h:Sys t S op st w){i:Nat}(hi:i<S.length)(j:Nat):0≤wtj (w i) j:=by
 have hr:=h.res i S[i] (List.getElem?_eq_getElem hi)
 by_cases e:j<(st i).length
 ·have:=hr.pos j e;omega
 ·unfold wtj;rw[List.getElem?_eq_none (by rw[hr.len];omega)];simp
theorem twF_nn(h:Sys t S op st w){i:Nat}(hi:i<S.length)(J:Nat)(y:Li):0≤twF (st i) (w i) J y:=al9 fun j _=>by
 split
 ·exact W7 h hi j
 ·exact Int.le_refl _
theorem twF_le(h:Sys t S op st w){i:Nat}(hi:i<S.length){J:Nat}(hJ:J≤(st i).length)(y:Li):twF (st i) (w i) J y≤24:=by
 have h1:twF (st i) (w i) J y≤smN J (wtj (w i)):=R1 fun j _=>by
  split
  ·exact Int.le_refl _
  ·exact W7 h hi j
 have h2:=P5 (f:=wtj (w i)) (W7 h hi) hJ
 have h3:=(h.res i S[i] (List.getElem?_eq_getElem hi)).sum
 omega
def rowV(S:LL)(st:LL)(w:Li)(c:Int)(i J k:Nat):Int:=
 if k=S.length then smN J (wtj w) * c else(if k=i then smN J (wtj w) else 0) - match S[k]? with|some y=>twF st w J y|none=>0
theorem eq_row(ht:k8 t)(h:Sys t S op st w){i:Nat}(hi:i<S.length):
  ∃c:Li,forR 0 ((st i).length:Int) (M7 t S i (op i) (st i,w i)) (List.replicate (S.length+1) 0)=some c∧c.length=S.length+1∧∀k,k≤S.length→wtj c k=rowV S (st i) (w i) (cF t op i) i (st i).length k:=by
 have hr:=h.res i S[i] (List.getElem?_eq_getElem hi)
 have hop:=h.rng i hi
 have hco:=(ht.at hop.1 hop.2)
 have hc0:=hco.c0;have hc1:=hco.c1
 have hn5:=h.n5
 have hs4:=hr.s4
 have hsum:=hr.sum
 obtain⟨c,k1,k2,k3⟩:=u7 (body:=M7 t S i (op i) (st i,w i)) (n:=((st i).length:Int)) (s:=List.replicate (S.length+1) 0)
  (fun q c=>c.length=S.length+1∧∀k,k≤S.length→wtj c k=rowV S (st i) (w i) (cF t op i) i q.toNat k) (by omega)
  ⟨by simp,fun k hk=>by
   unfold rowV wtj
   rw[List.getElem?_replicate]
   simp only[Int.toNat_zero,smN,twF,Int.zero_mul,ite_self]
   split<;>split<;>(try split)<;>simp⟩ (fun q c q0 q1 ⟨p1,p2⟩=>by
   obtain⟨J,rfl⟩:=Int.eq_ofNat_of_zero_le q0
   have hJ:J<(st i).length:=by omega
   rw[Int.toNat_natCast] at p2
   have hx:ix (st i) (J:Int)=some (st i)[J]:=by rw[o8];exact List.getElem?_eq_getElem hJ
   have hw:=T7 (w:=w i) (i:=J) (by rw[hr.len];exact hJ)
   have hw1:=hr.pos J hJ
   have ci:=T7 (w:=c) (i:=i) (by omega)
   have e1:smN (J+1) (wtj (w i))=smN J (wtj (w i))+wtj (w i) J:=rfl
   have b0:0≤smN J (wtj (w i)):=al9 fun j _=>W7 h hi j
   have b1:=P5 (f:=wtj (w i)) (W7 h hi) (show J+1≤(st i).length by omega)
   have sc:∀x:Int,0≤x→x≤24→0≤x * (ooAt t (op i)).cost∧x * (ooAt t (op i)).cost≤2400:=fun x h0 h1=>⟨Int.mul_nonneg h0 hc0,by
    have:=Int.mul_le_mul h1 hc1 hc0 (by omega:(0:Int)≤24)
    omega⟩
   have vi:=p2 i (by omega)
   unfold rowV at vi
   rw[if_neg (by omega),if_pos rfl,List.getElem?_eq_getElem hi] at vi
   dsimp only at vi
   have t1:=twF_nn h hi J S[i]
   have t2:=twF_le h hi (J:=J) (by omega) S[i]
   have f1:w64 (wtj c i+wtj (w i) J)=wtj c i+wtj (w i) J:=n8 (by omega) (by omega)
   have s1:=ai2 (w:=c) (i:=i) (by omega) (wtj c i+wtj (w i) J)
   have cn:=T7 (w:=c.set i (wtj c i+wtj (w i) J)) (i:=S.length) (by rw[lS];omega)
   rw[s1,if_neg (by omega)] at cn
   have vn:=p2 S.length (Nat.le_refl _)
   unfold rowV at vn
   rw[if_pos rfl] at vn
   have m1:=sc (wtj (w i) J) (by omega) (by omega)
   have m2:=sc (smN J (wtj (w i))) b0 (by omega)
   have vn':wtj c S.length=smN J (wtj (w i)) * (ooAt t (op i)).cost:=vn
   have f2:w64 (wtj (w i) J * (ooAt t (op i)).cost)=wtj (w i) J * (ooAt t (op i)).cost:=n8 (by omega) (by omega)
   have f3:w64 (wtj c S.length+wtj (w i) J * (ooAt t (op i)).cost)=wtj c S.length+wtj (w i) J * (ooAt t (op i)).cost:=n8 (by omega) (by omega)
   generalize hc1':c.set i (wtj c i+wtj (w i) J)=c1 at *
   have l1:c1.length=S.length+1:=by rw[← hc1',lS];exact p1
   have s2:=ai2 (w:=c1) (i:=S.length) (by omega) (wtj c S.length+wtj (w i) J * (ooAt t (op i)).cost)
   generalize hc2':c1.set S.length (wtj c S.length+wtj (w i) J * (ooAt t (op i)).cost)=c2 at *
   have l2:c2.length=S.length+1:=by rw[← hc2',lS];exact l1
   have hset:SetN (st i)[J] t.facts:=by
    obtain⟨x,_,e⟩:=(hr.mem (st i)[J]).1 (List.getElem_mem hJ)
    rw[← e];exact at7 _ _ _
   have hcon:k9 (st i)[J] t.goal=some (dec (i9 t (st i)[J])):=U0 hset.1 ht.goal.1 (by have:=hset.len;have:=ht.n1;omega)
   have tw1:∀y,twF (st i) (w i) (J+1) y=twF (st i) (w i) J y+if(st i)[J]? =some y then wtj (w i) J else 0:=fun y=>rfl
   have hgJ:(st i)[J]? =some (st i)[J]:=List.getElem?_eq_getElem hJ
   unfold M7
   simp only[hx,hw,ci,oB,f1,ix_oo hop.1 hop.2,f2,f3,Int.toNat_natCast,hc1',cn,hcon,hc2']
   by_cases hg:i9 t (st i)[J]
   ·rw[l8 hg]
    simp only[Bool.not_true,Bool.false_eq_true,if_false,oB]
    refine⟨_,rfl,l2,fun k hk=> ?_⟩
    rw[show((J:Int)+1).toNat=J+1 by omega,s2]
    unfold rowV
    by_cases e:k=S.length
    ·subst e
     rw[if_pos rfl,if_pos rfl,e1,vn',Int.add_mul];rfl
    ·rw[if_neg e,if_neg e,s1]
     have hk':k<S.length:=by omega
     rw[List.getElem?_eq_getElem hk']
     dsimp only
     have hne:¬ (st i)[J]? =some S[k]:=fun q=>by
      rw[hgJ] at q
      have:=Option.some.inj q
      exact h.ng S[k] (List.getElem_mem hk') (this ▸ hg)
     rw[tw1,if_neg hne]
     have vk:=p2 k hk
     unfold rowV at vk
     rw[if_neg e,List.getElem?_eq_getElem hk'] at vk
     dsimp only at vk
     by_cases f:k=i
     ·subst f;rw[if_pos rfl,if_pos rfl,e1];omega
     ·rw[if_neg f,if_neg f];rw[if_neg f] at vk;omega
   ·rw[q6 hg]
    have hm:(st i)[J] ∈ S:=(h.cl i hi _ (List.getElem_mem hJ)).resolve_left hg
    obtain⟨p,p0,p3,hp⟩:=s9 hm
    obtain⟨m,rfl⟩:=Int.eq_ofNat_of_zero_le p0
    have hmS:m<S.length:=by omega
    have hSm:S[m]=(st i)[J]:=by
     rw[o8,List.getElem?_eq_getElem hmS] at hp
     exact Option.some.inj hp
    have cm:=T7 (w:=c2) (i:=m) (by omega)
    have vm:=p2 m (by omega)
    unfold rowV at vm
    rw[if_neg (by omega),List.getElem?_eq_getElem hmS] at vm
    dsimp only at vm
    have t3:=twF_nn h hi J S[m]
    have t4:=twF_le h hi (J:=J) (by omega) S[m]
    have v2:wtj c2 m=(if m=i then wtj c i+wtj (w i) J else wtj c m):=by rw[s2,if_neg (by omega),s1]
    have f4:w64 (wtj c2 m - wtj (w i) J)=wtj c2 m - wtj (w i) J:=by
     rw[v2]
     split
     ·exact n8 (by omega) (by omega)
     ·rename_i q;rw[if_neg q] at vm;exact n8 (by omega) (by omega)
    simp only[Bool.not_false,if_true,find_eq h.ord (by omega) hp,cm,oB,f4,Int.toNat_natCast]
    have s3:=ai2 (w:=c2) (i:=m) (by omega) (wtj c2 m - wtj (w i) J)
    refine⟨_,rfl,by rw[lS];exact l2,fun k hk=> ?_⟩
    rw[show((J:Int)+1).toNat=J+1 by omega,s3]
    unfold rowV
    by_cases e:k=S.length
    ·subst e
     rw[if_neg (by omega),if_pos rfl,s2,if_pos rfl,e1,vn',Int.add_mul];rfl
    ·have hk':k<S.length:=by omega
     rw[if_neg e,List.getElem?_eq_getElem hk']
     dsimp only
     rw[tw1,hgJ]
     have vk:=p2 k hk
     unfold rowV at vk
     rw[if_neg e,List.getElem?_eq_getElem hk'] at vk
     dsimp only at vk
     by_cases g:k=m
     ·subst g
      have hq:some (st i)[J]=some S[k]:=by rw[hSm]
      rw[if_pos rfl,if_pos hq,v2]
      by_cases f:k=i
      ·subst f;rw[if_pos rfl,if_pos rfl,e1];omega
      ·rw[if_neg f,if_neg f];rw[if_neg f] at vk;omega
     ·have hne:¬ some (st i)[J]=some S[k]:=fun q=>by
       have q1:=Option.some.inj q
       have hk2:ix S (k:Int)=some (st i)[J]:=by rw[o8,List.getElem?_eq_getElem hk',q1]
       have:=h.ord.inj hp hk2
       omega
      rw[if_neg g,if_neg hne,s2,if_neg e,s1]
      by_cases f:k=i
      ·subst f;rw[if_pos rfl,if_pos rfl,e1];omega
      ·rw[if_neg f,if_neg f];rw[if_neg f] at vk;omega)
 refine⟨c,k1,k2,fun k hk=> ?_⟩
 rw[k3 k hk,Int.toNat_natCast]
end
end Ab
end
section
namespace Ab
open Go
section
variable {t:d5}{S:LL}{op:Nat→Int}{st:Nat→LL}{w:Nat→Li}
def wG(S:LL)(st:Nat→LL)(w:Nat→Li):Mtx:=fun i k=>if i<S.length then wF S st w i k else 0
abbrev eqN(t:d5)(S:LL)(op:Nat→Int)(st:Nat→LL)(w:Nat→Li):Mtx:=eqM S.length (WF st w) (wG S st w) fun i=>WF st w i * cF t op i
theorem rowV_eq{i k:Nat}(hi:i<S.length)(hk:k≤S.length):rowV S (st i) (w i) (cF t op i) i (st i).length k=eqN t S op st w i k:=by
 unfold rowV eqN eqM
 by_cases e:k=S.length
 ·rw[if_pos e,if_pos e];rfl
 ·have hk':k<S.length:=by omega
  rw[if_neg e,if_neg e]
  unfold wG wF
  rw[if_pos hi,List.getElem?_eq_getElem hk']
  dsimp only
  by_cases f:k=i
  ·rw[if_pos f,if_pos f.symm];rfl
  ·rw[if_neg f,if_neg (fun q=>f q.symm)]
theorem eqs_ok(ht:k8 t)(h:Sys t S op st w){choose:Li→Option Int}(hch:∀i s,S[i]? =some s→choose s=some (op i)):
  ∃L,forR 0 (S.length:Int) (D1 t S choose) []=some L∧Shp S.length L∧∀i k,i<S.length→k≤S.length→mE L i k=eqN t S op st w i k:=by
 have hn5:=h.n5
 obtain⟨L,k1,k2,k3⟩:=u7 (body:=D1 t S choose) (n:=(S.length:Int)) (s:=[])
  (fun q c=>(c.length:Int)=q∧∀i:Nat,(i:Int)<q→∃row,c[i]? =some row∧row.length=S.length+1∧∀k,k≤S.length→wtj row k=eqN t S op st w i k) (by omega) ⟨rfl,fun i hi=>by omega⟩ (fun q c q0 q1 ⟨p1,p2⟩=>by
   obtain⟨i,rfl⟩:=Int.eq_ofNat_of_zero_le q0
   have hi:i<S.length:=by omega
   have hs:S[i]? =some S[i]:=List.getElem?_eq_getElem hi
   obtain⟨row,r1,r2,r3⟩:=eq_row ht h hi
   have hw:w64 ((S.length:Int)+1)=((S.length+1:Nat):Int):=by rw[n8 (by omega) (by omega)];omega
   have hmk:mkL 8 ((S.length+1:Nat):Int) (0:Int)=some (List.replicate (S.length+1) 0):=by
    unfold mkL;rw[if_pos (by omega),Int.toNat_natCast]
   have ha:app 24 c [row]=some (c++[row]):=by unfold app;rw[if_pos (by simp;omega)]
   unfold D1
   simp only[show ix S (i:Int)=some S[i] by rw[o8,hs],Option.bind_some,hw,hmk,hch i _ hs,(h.res i _ hs).eq,r1,ha]
   refine⟨_,rfl,by rw[List.length_append,List.length_singleton];omega,fun i' hi'=> ?_⟩
   by_cases e:i'=i
   ·subst e
    refine⟨row,?_,r2,fun k hk=>by rw[r3 k hk,rowV_eq hi hk]⟩
    have:i'=c.length:=by omega
    rw[this];simp
   ·obtain⟨r',a1,a2,a3⟩:=p2 i' (by omega)
    exact⟨r',by rw[List.getElem?_append_left (by omega),a1],a2,a3⟩)
 have hlen:L.length=S.length:=by omega
 refine⟨L,k1,⟨hlen,fun r hr=> ?_⟩,fun i k hi hk=> ?_⟩
 ·obtain⟨i,hi,rfl⟩:=List.getElem_of_mem hr
  obtain⟨row,a1,a2,_⟩:=k3 i (by omega)
  rw[List.getElem?_eq_getElem hi] at a1
  cases a1;exact a2
 ·obtain⟨row,a1,_,a3⟩:=k3 i (by omega)
  have:mE L i k=wtj row k:=by unfold mE wtj;rw[a1];rfl
  rw[this,a3 k hk]
theorem lead_sum(h:Sys t S op st w){i:Nat}(hi:i<S.length):smN S.length (wG S st w i)=smN (st i).length fun j=>if dec (∃y ∈ S,(st i)[j]? =some y)=true then wtj (w i) j else 0:=by
 have e1:smN S.length (wG S st w i)=smN S.length fun k=>smN (st i).length fun j=>if(st i)[j]? =S[k]? then wtj (w i) j else 0:=k7 fun k hk=>by
  unfold wG wF
  rw[if_pos hi,List.getElem?_eq_getElem hk]
  rfl
 rw[e1,smN_comm]
 refine k7 fun j hj=> ?_
 have hgj:(st i)[j]? =some (st i)[j]:=List.getElem?_eq_getElem hj
 by_cases e:∃y ∈ S,(st i)[j]? =some y
 ·rw[if_pos (l8 e)]
  obtain⟨y,hy,e⟩:=e
  obtain⟨k,hk,rfl⟩:=List.getElem_of_mem hy
  rw[Q9 (a:=k) hk fun k' hk' hne=> ?_,if_pos (by rw[e,List.getElem?_eq_getElem hk])]
  rw[if_neg]
  intro q
  rw[e,List.getElem?_eq_getElem hk'] at q
  have q:=Option.some.inj q
  have a:ix S (k:Int)=some S[k]:=by rw[o8,List.getElem?_eq_getElem hk]
  have b:ix S (k':Int)=some S[k]:=by rw[o8,List.getElem?_eq_getElem hk',q]
  have:=h.ord.inj a b
  omega
 ·rw[if_neg (by rw[q6 e];simp)]
  refine an6 fun k hk=> ?_
  rw[if_neg]
  intro q
  rw[List.getElem?_eq_getElem hk] at q
  exact e ⟨_,List.getElem_mem hk,q⟩
theorem sys_ms(ht:k8 t)(h:Sys t S op st w):Ms S.length (WF st w) (wG S st w):=by
 refine⟨fun i hi=> ?_,fun i k=> ?_,fun i hi=> ?_⟩
 ·have hr:=h.res i S[i] (List.getElem?_eq_getElem hi)
  have hop:=h.rng i hi
  have l0:=(ht.at hop.1 hop.2).l0
  have hm:efc t.facts S[i] ((ooAt t (op i)).outcomes[0]) ∈ st i:=(hr.mem _).2 ⟨_,List.getElem_mem (by omega),rfl⟩
  have hl:=List.length_pos_of_mem hm
  have h1:=hr.pos 0 hl
  have h2:=W8 (f:=wtj (w i)) (W7 h hi) (Nat.zero_le 0) hl
  simp only[smN] at h2
  unfold WF;omega
 ·unfold wG
  split
  ·rename_i hi
   unfold wF
   split
   ·exact twF_nn h hi _ _
   ·exact Int.le_refl _
  ·exact Int.le_refl _
 ·rw[lead_sum h hi]
  refine R1 fun j _=> ?_
  split
  ·exact Int.le_refl _
  ·exact W7 h hi j
theorem WF_le(h:Sys t S op st w){i:Nat}(hi:i<S.length):WF st w i≤24:=(h.res i S[i] (List.getElem?_eq_getElem hi)).sum
theorem sys_exit(h:Sys t S op st w){i:Nat}(hi:i<S.length){y:Li}(hy:y ∈ st i)(hg:i9 t y):smN S.length (wG S st w i)<WF st w i:=by
 rw[lead_sum h hi]
 have hr:=h.res i S[i] (List.getElem?_eq_getElem hi)
 obtain⟨j,hj,rfl⟩:=List.getElem_of_mem hy
 have hle:smN (st i).length (fun q=>if dec (∃y ∈ S,(st i)[q]? =some y)=true then wtj (w i) q else 0)≤smN (st i).length fun q=>wtj (w i) q+if q=j then -(wtj (w i) j) else 0:=R1 fun q hq=>by
  by_cases e:q=j
  ·subst e
   rw[if_pos rfl,if_neg]
   ·omega
   ·rw[q6]
    ·simp
    ·rintro ⟨y,hy',e⟩
     rw[List.getElem?_eq_getElem hj] at e
     cases e
     exact h.ng _ hy' hg
  ·rw[if_neg e]
   have:=W7 h hi q
   split<;>omega
 rw[K6,Q9 (f:=fun q=>if q=j then -(wtj (w i) j) else 0) hj fun q _ hq=>if_neg hq,if_pos rfl] at hle
 have:=hr.pos j hj
 show _<smN (st i).length (wtj (w i))
 omega
theorem sys_step(h:Sys t S op st w){i k:Nat}(hi:i<S.length)(hk:k<S.length)(hy:S[k] ∈ st i):0<wG S st w i k:=by
 have hr:=h.res i S[i] (List.getElem?_eq_getElem hi)
 unfold wG wF
 rw[if_pos hi,List.getElem?_eq_getElem hk]
 dsimp only
 obtain⟨j,hj,e⟩:=List.getElem_of_mem hy
 have h1:=W8 (f:=fun q=>if(st i)[q]? =some S[k] then wtj (w i) q else 0) (fun q=>by split;exact W7 h hi q;exact Int.le_refl _) (Nat.zero_le j) hj
 simp only[smN] at h1
 rw[if_pos (by rw[List.getElem?_eq_getElem hj,e])] at h1
 have:=hr.pos j hj
 unfold twF;omega
inductive Wy(t:d5)(S:LL)(st:Nat→LL):Nat→Prop
 |exit {i:Nat} {y:Li} (h:i<S.length) (hy:y ∈ st i) (hg:i9 t y):Wy t S st i
 |step {i k:Nat} {y:Li} (h:i<S.length) (hk:S[k]? =some y) (hy:y ∈ st i) (hp:Wy t S st k):Wy t S st i
theorem Wy.px(h:Sys t S op st w){i:Nat}(hw:Wy t S st i):Px S.length (WF st w) (wG S st w) i:=by
 induction hw with
 |exit hi hy hg=>exact .exit hi (sys_exit h hi hy hg)
 |@step i k y hi hk hy _ ih=>
  obtain⟨hk',rfl⟩:=lG.1 hk
  exact .step hi hk' (sys_step h hi hk' hy) ih
theorem sys_rb(ht:k8 t)(h:Sys t S op st w):Rb S.length (eqN t S op st w) 48 2400:=by
 have hM:=sys_ms ht h
 refine⟨by omega,by omega,fun i hi=> ?_,fun i hi=> ?_⟩
 ·have h1:smN S.length (fun k=>ab (eqN t S op st w i k))≤smN S.length fun k=>(if k=i then WF st w i else 0)+wG S st w i k:=R1 fun k hk=>by
   have h2:=hM.nn i k
   have h3:=hM.pos i hi
   have e:eqN t S op st w i k=(if k=i then WF st w i else 0) - wG S st w i k:=by
    unfold eqN eqM
    rw[if_neg (by omega)]
    by_cases f:k=i
    ·rw[if_pos f,if_pos f.symm]
    ·rw[if_neg f,if_neg (fun q=>f q.symm)]
   rw[e]
   unfold ab
   split<;>split<;>omega
  rw[K6,Q9 (f:=fun k=>if k=i then WF st w i else 0) hi fun k _ hk=>if_neg hk,if_pos rfl] at h1
  have:=hM.le i hi
  have:=WF_le h hi
  omega
 ·have e:eqN t S op st w i S.length=WF st w i * cF t op i:=by unfold eqN eqM;rw[if_pos rfl]
  rw[e]
  have hop:=h.rng i hi
  have hco:=ht.at hop.1 hop.2
  have h3:=hM.pos i hi
  have h4:=WF_le h hi
  have h5:0≤WF st w i * cF t op i:=Int.mul_nonneg (by omega) hco.c0
  have h6:=Int.mul_le_mul h4 hco.c1 hco.c0 (by omega:(0:Int)≤24)
  unfold ab;rw[if_pos h5];exact h6
theorem Rb.congr{n:Nat}{A B:Mtx}{R C:Int}(h:Rb n A R C)(e:∀i k,i<n→k≤n→B i k=A i k):Rb n B R C:=
 ⟨h.R0,h.B0,fun i hi=>by rw[k7 (g:=fun k=>ab (A i k)) fun k hk=>by rw[e i k hi (by omega)]];exact h.row i hi,fun i hi=>by rw[e i n hi (Nat.le_refl n)];exact h.rhs i hi⟩
theorem GJ.congr{n c:Nat}{A B a:Mtx}{d:Int}(h:GJ n B c a d)(e:∀i k,i<n→k≤n→B i k=A i k)(hc:c≤n):GJ n A c a d:=by
 refine⟨by rw[h.dd];exact H9 fun i j hi hj=>e i j (by omega) (by omega),h.nz,h.on,fun j r hj hj' hr=> ?_,fun j r hj hj' hr hr'=> ?_⟩
 ·rw[← e r j (by omega) hj',← h.top j r hj hj' hr]
  exact k7 fun k hk=>by rw[e r k (by omega) (by omega)]
 ·rw[h.low j r hj hj' hr hr',e r j hr' hj']
  congr 1
  exact k7 fun k hk=>by rw[e r k hr' (by omega)]
theorem value_ok(ht:k8 t)(h:Sys t S op st w)(hp:∀i,i<S.length→Px S.length (WF st w) (wG S st w) i){choose:Li→Option Int}(hch:∀i s,S[i]? =some s→choose s=some (op i)):
  ∃L num,forR 0 (S.length:Int) (D1 t S choose) []=some L∧w8 S L=some (num,det S.length (eqN t S op st w))∧num.length=S.length∧det S.length (eqN t S op st w) ≠ 0∧
   (∀l,l<S.length→num[l]? =some (det S.length (rep (eqN t S op st w) l fun r=>eqN t S op st w r S.length)))∧
   ∀r,r<S.length→smN S.length (fun k=>eqN t S op st w r k * wtj num k)=det S.length (eqN t S op st w) * (WF st w r * cF t op r):=by
 obtain⟨L,l1,l2,l3⟩:=eqs_ok ht h hch
 have hM:=sys_ms ht h
 have hd:det S.length (mE L)=det S.length (eqN t S op st w):=H9 fun i k hi hk=>l3 i k hi (by omega)
 obtain⟨num,s1,s2,s3,s4,s5⟩:=solve_spec S h.n5 l2 ((sys_rb ht h).congr l3) (fun c a d hG hc=>(hG.congr l3 (by omega)).pivot hM hp hc)
 rw[hd] at s1 s3
 refine⟨L,num,l1,s1,s2,s3,fun l hl=> ?_,fun r hr=> ?_⟩
 ·rw[s4 l hl]
  congr 1
  exact H9 fun i k hi hk=>by
   unfold Ab.rep
   split
   ·exact l3 i _ hi (Nat.le_refl _)
   ·exact l3 i k hi (by omega)
 ·have:=s5 r hr
  rw[hd,l3 r _ hr (Nat.le_refl _)] at this
  rw[k7 (g:=fun k=>mE L r k * (num[k]?).getD 0) fun k hk=>by rw[l3 r k hr (by omega)];rfl,this]
  congr 1
  unfold eqN eqM;rw[if_pos rfl]
end
end Ab
end
section
namespace Ab
open Go
theorem euclid_eq{a b:Nat}(h:0<a∨0<b):Loop L9 ((a:Int),(b:Int))=some ((Nat.gcd a b:Nat):Int):=by
 obtain⟨o,h1,h2⟩:=F4 (body:=L9) (s:=((a:Int),(b:Int)))
  (fun s=>∃x y:Nat,s=((x:Int),(y:Int))∧Nat.gcd x y=Nat.gcd a b) (fun o=>o=((Nat.gcd a b:Nat):Int)) (fun s=>s.2.toNat) ⟨a,b,rfl,rfl⟩ (by
   rintro s ⟨x,y,rfl,e⟩
   unfold L9
   dsimp only
   by_cases c:0<y
   ·rw[if_pos (by omega),chkN,if_neg (by omega)]
    simp only[oB]
    refine .inl ⟨_,rfl,⟨y,x % y,?_,?_⟩,?_⟩
    ·rw[← Int.ofNat_tmod]
    ·rw[← e,Nat.gcd_comm y,← Nat.gcd_rec,Nat.gcd_comm]
    ·dsimp only
     rw[← Int.ofNat_tmod,Int.toNat_natCast,Int.toNat_natCast]
     exact Nat.mod_lt _ c
   ·rw[if_neg (by omega)]
    have:y=0:=by omega
    subst this
    rw[Nat.gcd_zero_right] at e
    exact .inr ⟨_,rfl,by rw[e]⟩)
 rw[h1,h2]
theorem w64N{n:Nat}(h:n≤4000000000000000000):w64 (n:Int)=n:=n8 (by omega) (by omega)
theorem binary_eq{a b:Nat}(ha:a≤4000000000000000000)(hb:b≤4000000000000000000)(hb0:0<b):an2 (a:Int) (b:Int)=some ((Nat.gcd a b:Nat):Int):=by
 have hG:Nat.gcd a b≤b:=Nat.gcd_le_right a hb0
 have hG0:0<Nat.gcd a b:=Nat.gcd_pos_of_pos_right a hb0
 unfold an2
 obtain⟨o,h1,x,y,h2,h3⟩:=F4 (body:=ai3) (s:=((a:Int),(b:Int),(1:Int)))
  (fun s=>∃x y k:Nat,s=((x:Int),(y:Int),(k:Int))∧0<y∧x≤4000000000000000000∧y≤4000000000000000000∧Nat.gcd x y * k=Nat.gcd a b)
  (fun o=>∃y k:Nat,o=((y:Int),(k:Int))∧y * k=Nat.gcd a b) (fun s=>(s.1+s.2.1).toNat) ⟨a,b,1,rfl,hb0,ha,hb,Nat.mul_one _⟩ (by
   rintro s ⟨x,y,k,rfl,y0,hx,hy,e⟩
   have g0:0<Nat.gcd x y:=Nat.gcd_pos_of_pos_right x y0
   have k0:0<k:=by
    rcases Nat.eq_zero_or_pos k with q|q
    ·rw[q,Nat.mul_zero] at e;omega
    ·exact q
   unfold ai3
   dsimp only
   by_cases c:0<x∧x ≠ y
   ·have cI:((decide (0<(x:Int))) && (!(decide ((x:Int)=y))))=true:=by simp;omega
    rw[if_pos cI]
    have ex:((x:Int)).tmod 2=((x % 2:Nat):Int):=by rw[Int.ofNat_tmod];rfl
    have ey:((y:Int)).tmod 2=((y % 2:Nat):Int):=by rw[Int.ofNat_tmod];rfl
    have dx:((x:Int)).tdiv 2=((x / 2:Nat):Int):=by rw[Int.ofNat_tdiv];rfl
    have dy:((y:Int)).tdiv 2=((y / 2:Nat):Int):=by rw[Int.ofNat_tdiv];rfl
    have c2:chkN 2=some ():=rfl
    simp only[c2,oB,ex,ey,dx,dy,w64N (show x / 2≤4000000000000000000 by omega),w64N (show y / 2≤4000000000000000000 by omega)]
    by_cases p:x % 2=0
    ·have p':((x % 2:Nat):Int)=0:=by omega
     have hxx:x=2 * (x / 2):=by omega
     rw[if_pos p']
     simp only[oB]
     by_cases q:y % 2=0
     ·have q':((y % 2:Nat):Int)=0:=by omega
      have hyy:y=2 * (y / 2):=by omega
      rw[if_pos (by simpa using q')]
      have e2:Nat.gcd x y=2 * Nat.gcd (x / 2) (y / 2):=by
       rw (occs:=.pos [1]) [hxx,hyy];exact Nat.gcd_mul_left 2 _ _
      have hk:Nat.gcd (x / 2) (y / 2) * (2 * k)=Nat.gcd a b:=by
       rw[← e,e2,Nat.mul_comm 2 (Nat.gcd _ _),Nat.mul_assoc]
      have hk2:2 * k≤Nat.gcd a b:=by
       have:0<Nat.gcd (x / 2) (y / 2):=Nat.gcd_pos_of_pos_right _ (by omega)
       rw[← hk];exact Nat.le_mul_of_pos_left _ this
      have w2:w64 (2 * (k:Int))=((2 * k:Nat):Int):=by
       have:=w64N (n:=2 * k) (by omega)
       simpa using this
      rw[w2]
      exact .inl ⟨_,rfl,⟨_,_,_,rfl,by omega,by omega,by omega,hk⟩,by dsimp only;omega⟩
     ·have q':¬ ((y % 2:Nat):Int)=0:=by omega
      rw[if_neg (by simpa using q'),if_pos p']
      refine .inl ⟨_,rfl,⟨_,_,_,rfl,y0,by omega,hy,?_⟩,by dsimp only;omega⟩
      rw[← e]
      congr 1
      rw (occs:=.pos [2]) [hxx]
      have hc:Nat.Coprime 2 y:=by
       have:y % 2=1:=by omega
       rw[Nat.Coprime,Nat.gcd_rec,this];decide
      exact(Nat.Coprime.gcd_mul_left_cancel (x / 2) hc).symm
    ·have p':¬ ((x % 2:Nat):Int)=0:=by omega
     rw[if_neg p']
     simp only[oB]
     rw[if_neg (by simp),if_neg p']
     by_cases q:y % 2=0
     ·have q':((y % 2:Nat):Int)=0:=by omega
      have hyy:y=2 * (y / 2):=by omega
      rw[if_pos q']
      refine .inl ⟨_,rfl,⟨_,_,_,rfl,by omega,hx,by omega,?_⟩,by dsimp only;omega⟩
      rw[← e]
      congr 1
      rw (occs:=.pos [2]) [hyy]
      have hc:Nat.Coprime 2 x:=by
       have:x % 2=1:=by omega
       rw[Nat.Coprime,Nat.gcd_rec,this];decide
      exact(Nat.Coprime.gcd_mul_left_cancel_right (y / 2) hc).symm
     ·have q':¬ ((y % 2:Nat):Int)=0:=by omega
      rw[if_neg q']
      by_cases r:y<x
      ·rw[if_pos (by omega)]
       have w2:w64 ((x:Int) - y)=((x - y:Nat):Int):=by
        rw[← w64N (n:=x - y) (by omega)];congr 1;omega
       rw[w2]
       refine .inl ⟨_,rfl,⟨_,_,_,rfl,y0,by omega,hy,?_⟩,by dsimp only;omega⟩
       rw[← e]
       congr 1
       have:x=(x - y)+y:=by omega
       rw (occs:=.pos [2]) [this]
       exact(Nat.gcd_add_self_left _ _).symm
      ·rw[if_neg (by omega)]
       have w2:w64 ((y:Int) - x)=((y - x:Nat):Int):=by
        rw[← w64N (n:=y - x) (by omega)];congr 1;omega
       rw[w2]
       refine .inl ⟨_,rfl,⟨_,_,_,rfl,by omega,hx,by omega,?_⟩,by dsimp only;omega⟩
       rw[← e]
       congr 1
       have:y=(y - x)+x:=by omega
       rw (occs:=.pos [2]) [this]
       exact(Nat.gcd_add_self_right _ _).symm
   ·have cI:¬ ((decide (0<(x:Int))) && (!(decide ((x:Int)=y))))=true:=by simp;omega
    rw[if_neg cI]
    refine .inr ⟨_,rfl,y,k,rfl,?_⟩
    rw[← e]
    congr 1
    by_cases z:x=0
    ·rw[z,Nat.gcd_zero_left]
    ·have:x=y:=by omega
     rw[this,Nat.gcd_self])
 rw[h1,h2]
 simp only[oB]
 have:w64 ((x:Int) * y)=((x * y:Nat):Int):=by
  have:=w64N (n:=x * y) (by omega)
  simpa using this
 rw[this,h3]
end Ab
end
section
namespace Ab
open Go
def Lt{α:Type}(x y:Option α):Prop:=∀r,x=some r→y=some r
theorem Lt.rfl'{α:Type}{x:Option α}:Lt x x:=fun _ h=>h
theorem Lt.bind{α β:Type}{x y:Option α}{f g:α→Option β}(h:Lt x y)(k:∀a,Lt (f a) (g a)):Lt (x.bind f) (y.bind g):=fun r hr=>by
 obtain⟨a,h1,h2⟩:=bind_some hr
 rw[h a h1];exact k a r h2
theorem Lt.ite{α:Type}{c:Prop}[Decidable c]{x y x' y':Option α}(h:Lt x y)(k:Lt x' y'):Lt (if c then x else x') (if c then y else y'):=fun r hr=>by
 split at hr
 ·rw[if_pos ‹_›];exact h r hr
 ·rw[if_neg ‹_›];exact k r hr
theorem Lt.LoopN{S O:Type}{f g:S→Option (S⊕O)}(h:∀s,Lt (f s) (g s)):∀(k:Nat) (s:S),Lt (LoopN f k s) (LoopN g k s)
 |0,_=>Lt.rfl'
 |k+1,s=>fun r hr=>by
  simp only[Ab.LoopN] at hr ⊢
  cases hf:f s with
  |none=>rw[hf] at hr;cases hr
  |some x=>
   rw[h s x hf]
   rw[hf] at hr
   cases x with
   |inl s'=>exact Lt.LoopN h k s' r hr
   |inr o=>exact hr
theorem Lt.Loop{S O:Type}{f g:S→Option (S⊕O)}{s:S}(h:∀s,Lt (f s) (g s)):Lt (Loop f s) (Loop g s):=fun r hr=>by
 obtain⟨n,hn⟩:=ad3.1 hr
 exact ad3.2 ⟨n,Lt.LoopN h n s r hn⟩
def Mono{A R:Type}(F:(A→Option R)→A→Option R):Prop:=∀f g,(∀a,Lt (f a) (g a))→∀a,Lt (F f a) (F g a)
theorem recN_up{A R:Type}{F:(A→Option R)→A→Option R}(hF:Mono F):∀(n:Nat) (a:A),Lt (recN F n a) (recN F (n+1) a)
 |0,a=>fun r h=>by cases h
 |n+1,a=>hF _ _ (recN_up hF n) a
theorem recN_le{A R:Type}{F:(A→Option R)→A→Option R}(hF:Mono F){n m:Nat}(h:n≤m)(a:A):Lt (recN F n a) (recN F m a):=by
 induction h with
 |refl=>exact Lt.rfl'
 |step _ ih=>exact fun r hr=>recN_up hF _ a r (ih r hr)
theorem Rec_recN{A R:Type}{F:(A→Option R)→A→Option R}(hF:Mono F){n:Nat}{a:A}{r:R}(h:recN F n a=some r):Rec F a=some r:=by
 obtain⟨r',h1,m,h2⟩:=Rec_of h
 have e1:=recN_le hF (Nat.le_max_left n m) a r h
 have e2:=recN_le hF (Nat.le_max_right n m) a r' h2
 rw[h1,← e2,e1]
theorem Rec_inv{A R:Type}{F:(A→Option R)→A→Option R}(hF:Mono F)(P:A→Prop)(V:A→R→Prop)(μ:A→Nat)
  (hb:∀f a,P a→(∀a',P a'→μ a'<μ a→∃r,f a'=some r∧V a' r)→∃r,F f a=some r∧V a r) {a:A} (ha:P a):∃r,Rec F a=some r∧V a r:=by
 have key:∀(n:Nat) (a:A),P a→μ a<n→∃r,recN F n a=some r∧V a r:=by
  intro n
  induction n with
  |zero=>intro a _ h;omega
  |succ n ih=>exact fun a ha hn=>hb (recN F n) a ha fun a' ha' hm=>ih a' ha' (by omega)
 obtain⟨r,h1,h2⟩:=key (μ a+1) a ha (by omega)
 exact⟨r,Rec_recN hF h1,h2⟩
end Ab
end
section
namespace Ab
open Go
def frN(a b:Nat):m9:=⟨((a / Nat.gcd a b:Nat):Int),((b / Nat.gcd a b:Nat):Int)⟩
theorem w64n{n:Nat}(h:n≤4000000000000000000):w64 (n:Int)=n:=n8 (by omega) (by omega)
theorem lowest_pos{a b:Nat}(ha:a≤4000000000000000000)(hb:b≤4000000000000000000)(hb0:0<b):B9 (a:Int) (b:Int)=some (frN a b,dec ((frN a b).num≤1000000000∧(frN a b).den≤1000000000)):=by
 have g0:0<Nat.gcd a b:=Nat.gcd_pos_of_pos_right a hb0
 unfold B9
 rw[if_neg (by omega)]
 simp only[oB]
 have hm:max (a:Int) (w64 (0 - (a:Int)))=a:=by
  rw[n8 (by omega) (by omega)];omega
 rw[hm,euclid_eq (.inr hb0)]
 have hg:chkN ((Nat.gcd a b:Nat):Int)=some ():=by unfold chkN;rw[if_neg (by omega)]
 have da:((a:Int)).tdiv ((Nat.gcd a b:Nat):Int)=((a / Nat.gcd a b:Nat):Int):=(Int.ofNat_tdiv _ _).symm
 have db:((b:Int)).tdiv ((Nat.gcd a b:Nat):Int)=((b / Nat.gcd a b:Nat):Int):=(Int.ofNat_tdiv _ _).symm
 have la:a / Nat.gcd a b≤4000000000000000000:=Nat.le_trans (Nat.div_le_self _ _) ha
 have lb:b / Nat.gcd a b≤4000000000000000000:=Nat.le_trans (Nat.div_le_self _ _) hb
 simp only[hg,oB,da,db,w64n la,w64n lb]
 unfold frN
 dsimp only
 generalize a / Nat.gcd a b=x at *
 generalize b / Nat.gcd a b=y at *
 have hm2:max (x:Int) (w64 (0 - (x:Int)))=x:=by
  rw[n8 (by omega) (by omega)];omega
 rw[hm2]
 congr 2
 by_cases c:(x:Int)≤1000000000∧(y:Int)≤1000000000
 ·rw[l8 c];simp;omega
 ·rw[q6 c];simp;omega
theorem lowest_neg{a b:Nat}(ha:a≤4000000000000000000)(hb:b≤4000000000000000000)(hb0:0<b):B9 (-(a:Int)) (-(b:Int))=B9 (a:Int) (b:Int):=by
 unfold B9
 rw[if_pos (by omega),if_neg (by omega)]
 have e1:w64 (0 - -(a:Int))=a:=by rw[show(0:Int) - -(a:Int)=a by omega];exact w64n ha
 have e2:w64 (0 - -(b:Int))=b:=by rw[show(0:Int) - -(b:Int)=b by omega];exact w64n hb
 rw[e1,e2]
theorem rLowest_eq{a b:Nat}(ha:a≤4000000000000000000)(hb:b≤4000000000000000000)(hb0:0<b):aa6 (a:Int) (b:Int)=some (frN a b):=by
 have g0:0<Nat.gcd a b:=Nat.gcd_pos_of_pos_right a hb0
 unfold aa6
 rw[binary_eq ha hb hb0]
 have hg:chkN ((Nat.gcd a b:Nat):Int)=some ():=by unfold chkN;rw[if_neg (by omega)]
 have da:((a:Int)).tdiv ((Nat.gcd a b:Nat):Int)=((a / Nat.gcd a b:Nat):Int):=(Int.ofNat_tdiv _ _).symm
 have db:((b:Int)).tdiv ((Nat.gcd a b:Nat):Int)=((b / Nat.gcd a b:Nat):Int):=(Int.ofNat_tdiv _ _).symm
 have la:a / Nat.gcd a b≤4000000000000000000:=Nat.le_trans (Nat.div_le_self _ _) ha
 have lb:b / Nat.gcd a b≤4000000000000000000:=Nat.le_trans (Nat.div_le_self _ _) hb
 simp only[hg,oB,da,db,w64n la,w64n lb]
 rfl
structure Sq(n:Nat)(M:LL):Prop where
 len:M.length=n
 row:∀r ∈ M,r.length=n
theorem Sq.get{n:Nat}{M:LL}(h:Sq n M){i:Nat}(hi:i<n):∃row,M[i]? =some row∧row.length=n∧ix M (i:Int)=some row∧∀j,j<n→ix row (j:Int)=some (mE M i j)∧row[j]? =some (mE M i j):=by
 have hl:i<M.length:=by rw[h.len];exact hi
 have e:M[i]? =some M[i]:=List.getElem?_eq_getElem hl
 have hr:=h.row _ (List.getElem_mem hl)
 refine⟨M[i],e,hr,by rw[o8,e],fun j hj=> ?_⟩
 have hj':j<M[i].length:=by omega
 have e2:M[i][j]? =some M[i][j]:=List.getElem?_eq_getElem hj'
 have:mE M i j=M[i][j]:=by unfold mE;rw[e];simp[e2]
 rw[o8,e2,this]
 exact⟨rfl,rfl⟩
def Bd(n:Nat)(A:Mtx):Prop:=∃l,(∀i,i<n→smN n (fun j=>if j=l then 0 else ab (A i j))≤48)∧(l<n→∀i,i<n→ab (A i l)≤2400)
theorem Bd.minor{n:Nat}{A:Mtx}(h:Bd (n+1) A)(c:Nat):Bd n (mnr A c):=by
 obtain⟨l,h1,h2⟩:=h
 have key:∀i,i<n→smN n (fun k=>if sk c k=l then 0 else ab (A (i+1) (sk c k)))≤48:=fun i hi=>by
  have k1:=h1 (i+1) (by omega)
  have k2:=smN_sk (f:=fun k=>if k=l then 0 else ab (A (i+1) k)) (fun k=>by split;omega;exact w7 _) (n:=n) (j:=c)
  exact Int.le_trans k2 k1
 by_cases e:l=c
 ·subst e
  refine⟨n,fun i hi=> ?_,fun hl=>absurd hl (Nat.lt_irrefl n)⟩
  have:=key i hi
  rw[k7 (g:=fun k=>if sk l k=l then 0 else ab (A (i+1) (sk l k))) fun k hk=>by
   rw[if_neg (by omega),if_neg (by unfold sk;split<;>omega)];rfl]
  exact this
 ·refine⟨if c<l then l - 1 else l,fun i hi=> ?_,fun hl i hi=> ?_⟩
  ·have:=key i hi
   rw[k7 (g:=fun k=>if sk c k=l then 0 else ab (A (i+1) (sk c k))) fun k hk=>by
    have:k=(if c<l then l - 1 else l)↔sk c k=l:=by unfold sk;split<;>split<;>omega
    unfold mnr
    by_cases q:sk c k=l
    ·rw[if_pos (this.2 q),if_pos q]
    ·rw[if_neg (fun r=>q (this.1 r)),if_neg q]]
   exact this
  ·have hs:sk c (if c<l then l - 1 else l)=l:=by unfold sk;split<;>split<;>omega
   unfold mnr
   rw[hs]
   exact h2 (by split at hl<;>omega) (i+1) (by omega)
theorem Bd.entry{n:Nat}{A:Mtx}(h:Bd n A){i j:Nat}(hi:i<n)(hj:j<n):ab (A i j)≤2400:=by
 obtain⟨l,h1,h2⟩:=h
 by_cases e:j=l
 ·subst e;exact h2 hj i hi
 ·have:=W8 (f:=fun k=>if k=l then 0 else ab (A i k)) (fun k=>by split;omega;exact w7 _) (Nat.zero_le j) hj
  simp only[smN,if_neg e] at this
  have:=h1 i hi
  omega
theorem Bd.det{n:Nat}{A:Mtx}(hn:n≤5)(h:Bd n A):ab (det n A)≤63700992000:=by
 obtain⟨l,h1,h2⟩:=h
 by_cases e:l<n
 ·obtain⟨m,rfl⟩:∃m,n=m+1:=⟨n - 1,by omega⟩
  have:=al8 (R:=48) (B:=2400) (by omega) (by omega) e h1 (h2 e)
  have h5:m=0∨m=1∨m=2∨m=3∨m=4:=by omega
  refine Int.le_trans this ?_
  rcases h5 with rfl|rfl|rfl|rfl|rfl<;>decide
 ·have:=ae7 (n:=n) (A:=A) (r:=fun _=>48) (fun _=>by omega) fun i hi=>by
   have:=h1 i hi
   rwa [k7 (g:=fun j=>ab (A i j)) fun j hj=>by rw[if_neg (by omega)]] at this
  rw[ae3] at this
  have h5:n=0∨n=1∨n=2∨n=3∨n=4∨n=5:=by omega
  refine Int.le_trans this ?_
  rcases h5 with rfl|rfl|rfl|rfl|rfl|rfl<;>decide
end Ab
end
section
namespace Ab
open Go
theorem Lt.forN{S:Type}{f g:Int→S→Option S}(h:∀i s,Lt (f i s) (g i s)):∀(k:Nat) (i:Int) (s:S),Lt (forN f k i s) (forN g k i s)
 |0,_,_=>Lt.rfl'
 |k+1,i,s=>fun r hr=>by
  simp only[Ab.forN] at hr ⊢
  cases hf:f i s with
  |none=>rw[hf] at hr;cases hr
  |some x=>
   rw[h i s x hf]
   rw[hf] at hr
   exact Lt.forN h k (i+1) x r hr
theorem Lt.forR{S:Type}{f g:Int→S→Option S}{lo n:Int}{s:S}(h:∀i s,Lt (f i s) (g i s)):Lt (forR lo n f s) (forR lo n g s):=Lt.forN h _ _ _
theorem det_mono:Mono v7:=by
 intro f g h m
 unfold v7
 refine Lt.ite Lt.rfl' (Lt.bind (Lt.forR fun i s=> ?_) fun x=>Lt.rfl')
 unfold E4
 repeat (first|exact Lt.rfl'|exact h _|refine Lt.ite ?_ ?_|refine Lt.bind ?_ fun _=> ?_)
theorem sgn_succ(c:Nat):sgn (c+1)= - sgn c:=by unfold sgn;split<;>split<;>omega
theorem sgn_ab(c:Nat):sgn c=1∨sgn c= -1:=by unfold sgn;split<;>omega
theorem minor_rows{n:Nat}{m:LL}(hn:n≤5)(h:Sq (n+1) m){c:Nat}(hc:c<n+1):
  ∃M,forR 1 (m.length:Int) (E5 m c) []=some M∧Sq n M∧∀i k,i<n→k<n→mE M i k=mnr (mE m) c i k:=by
 have hl:=h.len
 obtain⟨M,k1,k2,k3⟩:=forR_from (body:=E5 m c) (lo:=1) (n:=(m.length:Int)) (s:=[])
  (fun q s=>(s.length:Int)=q - 1∧∀i:Nat,(i:Int)<q - 1→∃row,s[i]? =some row∧row.length=n∧∀k,k<n→row[k]? =some (mE m (i+1) (sk c k))) (by omega) ⟨by simp,fun i hi=>by omega⟩ (fun q s q0 q1 ⟨p1,p2⟩=>by
   obtain⟨j,rfl⟩:∃j:Nat,q=((j+1:Nat):Int):=⟨(q - 1).toNat,by omega⟩
   obtain⟨row,a1,a2,a3,a4⟩:=h.get (i:=j+1) (by omega)
   have e1:subL row 0 (c:Int)=some (row.take c):=by
    unfold subL;rw[if_pos (by omega)];simp
   have e2:subL row ((c:Int)+1) (row.length:Int)=some (row.drop (c+1)):=by
    unfold subL;rw[if_pos (by omega)]
    rw[show((row.length:Int)).toNat=row.length by omega,List.take_length,show((c:Int)+1).toNat=c+1 by omega]
   have lt1:(row.take c).length=c:=by rw[List.length_take];omega
   have lt2:(row.drop (c+1)).length=n - c:=by rw[List.length_drop];omega
   have e3:app 8 ([]:Li) (row.take c)=some (row.take c):=by
    unfold app;rw[if_pos (by rw[lt1];simp;omega)];rfl
   have e4:app 8 (row.take c) (row.drop (c+1))=some (row.take c++row.drop (c+1)):=by
    unfold app;rw[if_pos (by rw[lt1,lt2];omega)]
   have e5:app 24 s [row.take c++row.drop (c+1)]=some (s++[row.take c++row.drop (c+1)]):=by
    unfold app;rw[if_pos (by simp;omega)]
   unfold E5
   simp only[a3,e1,e2,e3,e4,e5,oB]
   refine⟨_,rfl,by rw[List.length_append,List.length_singleton];omega,fun i hi=> ?_⟩
   by_cases e:i=j
   ·subst e
    refine⟨row.take c++row.drop (c+1),?_,by rw[List.length_append,lt1,lt2];omega,fun k hk=> ?_⟩
    ·have:i=s.length:=by omega
     rw[this];simp
    ·unfold sk
     by_cases f:k<c
     ·rw[if_pos f,List.getElem?_append_left (by omega),List.getElem?_take,if_pos f]
      exact(a4 k (by omega)).2
     ·rw[if_neg f,List.getElem?_append_right (by omega),lt1,List.getElem?_drop,show c+1+(k - c)=k+1 by omega]
      exact(a4 (k+1) (by omega)).2
   ·obtain⟨r',b1,b2,b3⟩:=p2 i (by omega)
    exact⟨r',by rw[List.getElem?_append_left (by omega),b1],b2,b3⟩)
 have hML:M.length=n:=by omega
 refine⟨M,k1,⟨hML,fun r hr=> ?_⟩,fun i k hi hk=> ?_⟩
 ·obtain⟨i,hi,rfl⟩:=List.getElem_of_mem hr
  obtain⟨row,a1,a2,_⟩:=k3 i (by omega)
  rw[List.getElem?_eq_getElem hi] at a1
  cases a1;exact a2
 ·obtain⟨row,a1,_,a3⟩:=k3 i (by omega)
  unfold mE
  rw[a1]
  simp only[Option.getD_some,a3 k hk]
  rfl
theorem det_eq{n:Nat}{m:LL}(hn:n≤5)(h:Sq n m)(hb:Bd n (mE m)):I0 m=some (det n (mE m)):=by
 obtain⟨r,h1,h2⟩:=Rec_inv det_mono (fun m=>m.length≤5∧Sq m.length m∧Bd m.length (mE m)) (fun m r=>r=det m.length (mE m)) (fun m=>m.length) (fun slf m ⟨p1,p2,p3⟩ ih=>by
  unfold v7
  by_cases c0:m.length=0
  ·rw[if_pos (by omega)]
   exact⟨_,rfl,by rw[c0];rfl⟩
  ·rw[if_neg (by omega)]
   obtain⟨n,hn⟩:∃n,m.length=n+1:=⟨m.length - 1,by omega⟩
   rw[hn] at p1 p2 p3
   obtain⟨row,r1,r2,r3,r4⟩:=p2.get (i:=0) (by omega)
   have key:∀q:Nat,q≤n+1→ab (smN q fun j=>sgn j * mE m 0 j * det n (mnr (mE m) j))≤q * 153000000000000:=by
    intro q hq
    refine Int.le_trans (ab_sum q) ?_
    have:smN q (fun j=>ab (sgn j * mE m 0 j * det n (mnr (mE m) j)))≤smN q fun _=>153000000000000:=R1 fun j hj=>by
     rw[af3,af3,ab_sgn,Int.one_mul]
     have a1:=p3.entry (i:=0) (j:=j) (by omega) (by omega)
     have a2:=(p3.minor j).det (by omega)
     refine Int.le_trans (Int.mul_le_mul a1 a2 (w7 _) (by omega)) (by decide)
    have e:∀q:Nat,smN q (fun _=>(153000000000000:Int))=q * 153000000000000:=fun q=>by
     induction q with
     |zero=>simp[smN]
     |succ q ih=>simp only[smN,ih];push_cast;omega
    rw[e] at this;exact this
   obtain⟨⟨sum,sign⟩,k1,k2,k3⟩:=u7 (body:=E4 m slf) (n:=(m.length:Int)) (s:=((0:Int),(1:Int)))
    (fun q s=>s.1=smN q.toNat (fun j=>sgn j * mE m 0 j * det n (mnr (mE m) j))∧s.2=sgn q.toNat) (by omega) ⟨rfl,rfl⟩ (fun q s q0 q1 ⟨a1,a2⟩=>by
     obtain⟨sum,sign⟩:=s
     obtain⟨c,rfl⟩:=Int.eq_ofNat_of_zero_le q0
     have hc:c<n+1:=by omega
     dsimp only at a1 a2
     rw[Int.toNat_natCast] at a1 a2
     have i0:ix m 0=some row:=r3
     have ic:=(r4 c hc).1
     have hsg:w64 (0 - sign)=sgn (c+1):=by
      rw[a2,sgn_succ]
      rcases sgn_ab c with e|e<;>rw[e]<;>decide
     have e1:smN (c+1) (fun j=>sgn j * mE m 0 j * det n (mnr (mE m) j))=sum+sgn c * mE m 0 c * det n (mnr (mE m) c):=by rw[a1];rfl
     unfold E4
     dsimp only
     simp only[i0,ic,oB,hsg]
     by_cases z:mE m 0 c=0
     ·rw[if_pos z]
      refine⟨_,rfl,?_,?_⟩
      ·dsimp only
       rw[show((c:Int)+1).toNat=c+1 by omega,e1,z];simp
      ·dsimp only
       rw[show((c:Int)+1).toNat=c+1 by omega]
     ·rw[if_neg z]
      obtain⟨M,m1,m2,m3⟩:=minor_rows (by omega) p2 hc
      have hd:det n (mE M)=det n (mnr (mE m) c):=H9 fun i k hi hk=>m3 i k hi hk
      have hbM:Bd n (mE M):=by
       obtain⟨l,b1,b2⟩:=p3.minor c
       refine⟨l,fun i hi=> ?_,fun hl i hi=> ?_⟩
       ·rw[k7 (g:=fun j=>if j=l then 0 else ab (mnr (mE m) c i j)) fun j hj=>by rw[m3 i j hi hj]];exact b1 i hi
       ·rw[m3 i l hi hl];exact b2 hl i hi
      obtain⟨r',d1,d2⟩:=ih M ⟨by rw[m2.len];omega,by rw[m2.len];exact m2,by rw[m2.len];exact hbM⟩ (by rw[m2.len,hn];omega)
      rw[m2.len,hd] at d2
      have t1:=p3.entry (i:=0) (j:=c) (by omega) hc
      have t2:=(p3.minor c).det (n:=n) (by omega)
      have t1':=ab_le t1
      have w1:w64 (sign * mE m 0 c)=sgn c * mE m 0 c:=by
       rw[a2]
       refine w64_eq ?_
       rcases sgn_ab c with e|e<;>rw[e]<;>omega
      have t3:ab (sgn c * mE m 0 c * det n (mnr (mE m) c))≤153000000000000:=by
       rw[af3,af3,ab_sgn,Int.one_mul]
       exact Int.le_trans (Int.mul_le_mul t1 t2 (w7 _) (by omega)) (by decide)
      have t3':=ab_le t3
      have w2:w64 (sgn c * mE m 0 c * det n (mnr (mE m) c))=sgn c * mE m 0 c * det n (mnr (mE m) c):=n8 (by omega) (by omega)
      have t4:=ab_le (key c (by omega))
      rw[← a1] at t4
      have w3:w64 (sum+sgn c * mE m 0 c * det n (mnr (mE m) c))=sum+sgn c * mE m 0 c * det n (mnr (mE m) c):=n8 (by omega) (by omega)
      simp only[m1,d1,d2,oB,w1,w2,w3]
      refine⟨_,rfl,?_,?_⟩
      ·dsimp only
       rw[show((c:Int)+1).toNat=c+1 by omega,e1]
      ·dsimp only
       rw[show((c:Int)+1).toNat=c+1 by omega])
   rw[k1]
   refine⟨_,rfl,?_⟩
   rw[hn]
   dsimp only at k2
   rw[k2,hn];rfl) (a:=m) ⟨by rw[h.len];exact hn,by rw[h.len];exact h,by rw[h.len];exact hb⟩
 unfold I0
 rw[h1,h2,h.len]
end Ab
end
section
namespace Ab
open Go
section
variable {t:d5}{S:LL}{op:Nat→Int}{st:Nat→LL}{w:Nat→Li}
theorem ex_row(ht:k8 t)(h:Sys t S op st w){ops:Li}{i:Nat}(hi:i<S.length)(hops:ix ops (i:Int)=some (op i)):
  ∃c:Li,forR 0 ((st i).length:Int) (L4 t S ops i (st i,w i)) (List.replicate S.length 0,0)=some (c,WF st w i * cF t op i)∧c.length=S.length∧∀k,k<S.length→wtj c k=eqN t S op st w i k:=by
 have hr:=h.res i S[i] (List.getElem?_eq_getElem hi)
 have hop:=h.rng i hi
 have hco:=(ht.at hop.1 hop.2)
 have hc0:=hco.c0;have hc1:=hco.c1
 have hn5:=h.n5
 have hs4:=hr.s4
 have hsum:=hr.sum
 obtain⟨⟨c,sum⟩,k1,k2,k3,k4⟩:=u7 (body:=L4 t S ops i (st i,w i)) (n:=((st i).length:Int)) (s:=(List.replicate S.length 0,(0:Int)))
  (fun q s=>s.1.length=S.length∧s.2=smN q.toNat (wtj (w i)) * (ooAt t (op i)).cost∧∀k,k<S.length→wtj s.1 k=rowV S (st i) (w i) (cF t op i) i q.toNat k) (by omega)
  ⟨by simp,by simp[smN],fun k hk=>by
   unfold rowV wtj
   rw[List.getElem?_replicate,if_pos hk,if_neg (show ¬ k=S.length by omega)]
   simp only[Int.toNat_zero,smN,twF,ite_self]
   split<;>simp⟩ (fun q s q0 q1 ⟨p1,ps,p2⟩=>by
   obtain⟨c,sum⟩:=s
   obtain⟨J,rfl⟩:=Int.eq_ofNat_of_zero_le q0
   have hJ:J<(st i).length:=by omega
   dsimp only at p1 ps p2
   rw[Int.toNat_natCast] at p2 ps
   have hx:ix (st i) (J:Int)=some (st i)[J]:=by rw[o8];exact List.getElem?_eq_getElem hJ
   have hw:=T7 (w:=w i) (i:=J) (by rw[hr.len];exact hJ)
   have hw1:=hr.pos J hJ
   have ci:=T7 (w:=c) (i:=i) (by omega)
   have e1:smN (J+1) (wtj (w i))=smN J (wtj (w i))+wtj (w i) J:=rfl
   have b0:0≤smN J (wtj (w i)):=al9 fun j _=>W7 h hi j
   have b1:=P5 (f:=wtj (w i)) (W7 h hi) (show J+1≤(st i).length by omega)
   have sc:∀x:Int,0≤x→x≤24→0≤x * (ooAt t (op i)).cost∧x * (ooAt t (op i)).cost≤2400:=fun x h0 h1=>⟨Int.mul_nonneg h0 hc0,by
    have:=Int.mul_le_mul h1 hc1 hc0 (by omega:(0:Int)≤24)
    omega⟩
   have vi:=p2 i (by omega)
   unfold rowV at vi
   rw[if_neg (by omega),if_pos rfl,List.getElem?_eq_getElem hi] at vi
   dsimp only at vi
   have t1:=twF_nn h hi J S[i]
   have t2:=twF_le h hi (J:=J) (by omega) S[i]
   have f1:w64 (wtj c i+wtj (w i) J)=wtj c i+wtj (w i) J:=n8 (by omega) (by omega)
   have s1:=ai2 (w:=c) (i:=i) (by omega) (wtj c i+wtj (w i) J)
   have m1:=sc (wtj (w i) J) (by omega) (by omega)
   have m2:=sc (smN J (wtj (w i))) b0 (by omega)
   have f2:w64 (wtj (w i) J * (ooAt t (op i)).cost)=wtj (w i) J * (ooAt t (op i)).cost:=n8 (by omega) (by omega)
   have f3:w64 (sum+wtj (w i) J * (ooAt t (op i)).cost)=sum+wtj (w i) J * (ooAt t (op i)).cost:=n8 (by omega) (by omega)
   have hsum':sum+wtj (w i) J * (ooAt t (op i)).cost=smN (J+1) (wtj (w i)) * (ooAt t (op i)).cost:=by rw[e1,Int.add_mul,ps]
   generalize hc1':c.set i (wtj c i+wtj (w i) J)=c1 at *
   have l1:c1.length=S.length:=by rw[← hc1',lS];exact p1
   have tw1:∀y,twF (st i) (w i) (J+1) y=twF (st i) (w i) J y+if(st i)[J]? =some y then wtj (w i) J else 0:=fun y=>rfl
   have hgJ:(st i)[J]? =some (st i)[J]:=List.getElem?_eq_getElem hJ
   unfold L4
   simp only[hx,hw,ci,hops,oB,f1,ix_oo hop.1 hop.2,f2,f3,Int.toNat_natCast,hc1',ah7]
   by_cases hg:i9 t (st i)[J]
   ·rw[l8 hg]
    simp only[Bool.not_true,Bool.false_eq_true,if_false,oB]
    refine⟨_,rfl,l1,by dsimp only;rw[show((J:Int)+1).toNat=J+1 by omega];exact hsum',fun k hk=> ?_⟩
    rw[show((J:Int)+1).toNat=J+1 by omega]
    dsimp only
    rw[s1]
    unfold rowV
    have e:¬ k=S.length:=by omega
    rw[if_neg e,List.getElem?_eq_getElem hk]
    dsimp only
    have hne:¬ (st i)[J]? =some S[k]:=fun q=>by
     rw[hgJ] at q
     have:=Option.some.inj q
     exact h.ng S[k] (List.getElem_mem hk) (this ▸ hg)
    rw[tw1,if_neg hne]
    have vk:=p2 k hk
    unfold rowV at vk
    rw[if_neg e,List.getElem?_eq_getElem hk] at vk
    dsimp only at vk
    by_cases f:k=i
    ·subst f;rw[if_pos rfl,if_pos rfl,e1];omega
    ·rw[if_neg f,if_neg f];rw[if_neg f] at vk;omega
   ·rw[q6 hg]
    have hm:(st i)[J] ∈ S:=(h.cl i hi _ (List.getElem_mem hJ)).resolve_left hg
    obtain⟨p,p0,p3,hp⟩:=s9 hm
    obtain⟨m,rfl⟩:=Int.eq_ofNat_of_zero_le p0
    have hmS:m<S.length:=by omega
    have hSm:S[m]=(st i)[J]:=by
     rw[o8,List.getElem?_eq_getElem hmS] at hp
     exact Option.some.inj hp
    have cm:=T7 (w:=c1) (i:=m) (by omega)
    have vm:=p2 m (by omega)
    unfold rowV at vm
    rw[if_neg (by omega),List.getElem?_eq_getElem hmS] at vm
    dsimp only at vm
    have t3:=twF_nn h hi J S[m]
    have t4:=twF_le h hi (J:=J) (by omega) S[m]
    have v2:wtj c1 m=(if m=i then wtj c i+wtj (w i) J else wtj c m):=s1 m
    have f4:w64 (wtj c1 m - wtj (w i) J)=wtj c1 m - wtj (w i) J:=by
     rw[v2]
     split
     ·exact n8 (by omega) (by omega)
     ·rename_i q;rw[if_neg q] at vm;exact n8 (by omega) (by omega)
    simp only[Bool.not_false,if_true,place_ord h.ord hp,cm,oB,f4,Int.toNat_natCast]
    have s3:=ai2 (w:=c1) (i:=m) (by omega) (wtj c1 m - wtj (w i) J)
    refine⟨_,rfl,by dsimp only;rw[lS];exact l1,by dsimp only;rw[show((J:Int)+1).toNat=J+1 by omega];exact hsum',fun k hk=> ?_⟩
    rw[show((J:Int)+1).toNat=J+1 by omega]
    dsimp only
    rw[s3]
    unfold rowV
    have e:¬ k=S.length:=by omega
    rw[if_neg e,List.getElem?_eq_getElem hk]
    dsimp only
    rw[tw1,hgJ]
    have vk:=p2 k hk
    unfold rowV at vk
    rw[if_neg e,List.getElem?_eq_getElem hk] at vk
    dsimp only at vk
    by_cases g:k=m
    ·subst g
     have hq:some (st i)[J]=some S[k]:=by rw[hSm]
     rw[if_pos rfl,if_pos hq,v2]
     by_cases f:k=i
     ·subst f;rw[if_pos rfl,if_pos rfl,e1];omega
     ·rw[if_neg f,if_neg f];rw[if_neg f] at vk;omega
    ·have hne:¬ some (st i)[J]=some S[k]:=fun q=>by
      have q1:=Option.some.inj q
      have hk2:ix S (k:Int)=some (st i)[J]:=by rw[o8,List.getElem?_eq_getElem hk,q1]
      have:=h.ord.inj hp hk2
      omega
     rw[if_neg g,if_neg hne,s1]
     by_cases f:k=i
     ·subst f;rw[if_pos rfl,if_pos rfl,e1];omega
     ·rw[if_neg f,if_neg f];rw[if_neg f] at vk;omega)
 dsimp only at k2 k3 k4
 refine⟨c,?_,k2,fun k hk=> ?_⟩
 ·rw[k1,k3,Int.toNat_natCast];rfl
 ·rw[k4 k hk,Int.toNat_natCast,rowV_eq hi (by omega)]
theorem sys_bd(ht:k8 t)(h:Sys t S op st w):Bd S.length (eqN t S op st w):=by
 have hR:=sys_rb ht h
 refine⟨S.length,fun i hi=> ?_,fun hl=>absurd hl (Nat.lt_irrefl _)⟩
 rw[k7 (g:=fun k=>ab (eqN t S op st w i k)) fun k hk=>by rw[if_neg (by omega)]]
 exact hR.row i hi
theorem sys_bdr(ht:k8 t)(h:Sys t S op st w){l:Nat}(hl:l<S.length):Bd S.length (rep (eqN t S op st w) l fun r=>eqN t S op st w r S.length):=by
 have hR:=sys_rb ht h
 refine⟨l,fun i hi=> ?_,fun _ i hi=> ?_⟩
 ·refine Int.le_trans (R1 (g:=fun k=>ab (eqN t S op st w i k)) fun k hk=> ?_) (hR.row i hi)
  by_cases e:k=l
  ·rw[if_pos e];exact w7 _
  ·rw[if_neg e];unfold Ab.rep;rw[if_neg e];exact Int.le_refl _
 ·unfold Ab.rep;rw[if_pos rfl];exact hR.rhs i hi
theorem expected_ok(ht:k8 t)(h:Sys t S op st w){ops:Li}(hops:∀i:Nat,i<S.length→ix ops (i:Int)=some (op i)):
  ∃num:Li,num.length=S.length∧
   T3 t S ops=some (num,if det S.length (eqN t S op st w)<0 then - det S.length (eqN t S op st w) else det S.length (eqN t S op st w))∧
   ∀l,l<S.length→ix num (l:Int)=some (if det S.length (eqN t S op st w)<0 then - det S.length (rep (eqN t S op st w) l fun r=>eqN t S op st w r S.length) else det S.length (rep (eqN t S op st w) l fun r=>eqN t S op st w r S.length)):=by
 have hn5:=h.n5
 generalize hA:eqN t S op st w=A
 obtain⟨⟨m,right⟩,a1,a2,a3⟩:=u7 (body:=S9 t S ops) (n:=(S.length:Int)) (s:=(([]:LL),([]:Li)))
  (fun q s=>((s.1.length:Int)=q∧(s.2.length:Int)=q)∧∀i:Nat,(i:Int)<q→(∃row,s.1[i]? =some row∧row.length=S.length∧∀k,k<S.length→wtj row k=A i k)∧s.2[i]? =some (A i S.length)) (by omega) ⟨⟨rfl,rfl⟩,fun i hi=>by omega⟩ (fun q s q0 q1 ⟨⟨p1,p1'⟩,p2⟩=>by
   obtain⟨c4,c5⟩:=s
   obtain⟨i,rfl⟩:=Int.eq_ofNat_of_zero_le q0
   dsimp only at p1 p1' p2
   have hi:i<S.length:=by omega
   have hs:S[i]? =some S[i]:=List.getElem?_eq_getElem hi
   have hop:=h.rng i hi
   have hset:=h.set S[i] (List.getElem_mem hi)
   obtain⟨row,r1,r2,r3⟩:=ex_row ht h hi (hops i hi)
   have hmk:mkL 8 (S.length:Int) (0:Int)=some (List.replicate S.length 0):=by
    unfold mkL;rw[if_pos (by omega),Int.toNat_natCast]
   have ha:app 24 c4 [row]=some (c4++[row]):=by unfold app;rw[if_pos (by simp;omega)]
   have hb:app 8 c5 [WF st w i * cF t op i]=some (c5++[WF st w i * cF t op i]):=by unfold app;rw[if_pos (by simp;omega)]
   have hAn:A i S.length=WF st w i * cF t op i:=by rw[← hA];unfold eqN eqM;rw[if_pos rfl]
   unfold S9
   dsimp only
   simp only[hmk,show ix S (i:Int)=some S[i] by rw[o8,hs],hops i hi,oAfter_eq ht hop.1 hop.2 hset,(h.res i _ hs).eq,Option.bind_some,r1,ha,hb]
   refine⟨_,rfl,⟨by dsimp only;rw[List.length_append,List.length_singleton];omega,by dsimp only;rw[List.length_append,List.length_singleton];omega⟩,fun i' hi'=> ?_⟩
   dsimp only
   by_cases e:i'=i
   ·subst e
    have e1:i'=c4.length:=by omega
    have e2:i'=c5.length:=by omega
    refine⟨⟨row,by rw[e1];simp,r2,fun k hk=>by rw[r3 k hk,hA]⟩,?_⟩
    rw[hAn,List.getElem?_append_right (by omega),show i' - c5.length=0 by omega];rfl
   ·obtain⟨⟨r',b1,b2,b3⟩,b4⟩:=p2 i' (by omega)
    exact⟨⟨r',by rw[List.getElem?_append_left (by omega),b1],b2,b3⟩,by rw[List.getElem?_append_left (by omega),b4]⟩)
 dsimp only at a2 a3
 have hml:m.length=S.length:=by omega
 have hsq:Sq S.length m:=⟨hml,fun r hr=>by
  obtain⟨i,hi,rfl⟩:=List.getElem_of_mem hr
  obtain⟨⟨row,c1,c2,_⟩,_⟩:=a3 i (by omega)
  rw[List.getElem?_eq_getElem hi] at c1
  cases c1;exact c2⟩
 have hmE:∀i k,i<S.length→k<S.length→mE m i k=A i k:=fun i k hi hk=>by
  obtain⟨⟨row,c1,_,c3⟩,_⟩:=a3 i (by omega)
  have:mE m i k=wtj row k:=by unfold mE wtj;rw[c1];rfl
  rw[this,c3 k hk]
 have Bcongr:∀{B C:Mtx},Bd S.length B→(∀i k,i<S.length→k<S.length→C i k=B i k)→Bd S.length C:=fun {B C} hB e=>by
  obtain⟨l,d1,d2⟩:=hB
  refine⟨l,fun i hi=> ?_,fun hl i hi=> ?_⟩
  ·rw[k7 (g:=fun j=>if j=l then 0 else ab (B i j)) fun j hj=>by rw[e i j hi hj]];exact d1 i hi
  ·rw[e i l hi hl];exact d2 hl i hi
 have hD:=det_eq hn5 hsq (Bcongr (by rw[← hA];exact sys_bd ht h) hmE)
 rw[H9 (A:=mE m) (B:=A) fun i k hi hk=>hmE i k hi hk] at hD
 have hbr:∀l,l<S.length→Bd S.length (rep A l fun r=>A r S.length):=fun l hl=>by rw[← hA];exact sys_bdr ht h hl
 -- the numerators
 obtain⟨num,n1,n2,n3⟩:=u7 (body:=T0 S m right) (n:=(S.length:Int)) (s:=([]:Li))
  (fun q s=>(s.length:Int)=q∧∀l:Nat,(l:Int)<q→s[l]? =some (det S.length (rep A l fun r=>A r S.length))) (by omega) ⟨rfl,fun l hl=>by omega⟩ (fun q s q0 q1 ⟨p1,p2⟩=>by
   obtain⟨l,rfl⟩:=Int.eq_ofNat_of_zero_le q0
   have hl:l<S.length:=by omega
   obtain⟨X,x1,x2,x3⟩:=u7 (body:=R9 m right l) (n:=(S.length:Int)) (s:=([]:LL))
    (fun q s=>(s.length:Int)=q∧∀i:Nat,(i:Int)<q→∃row,s[i]? =some row∧row.length=S.length∧∀k,k<S.length→wtj row k=rep A l (fun r=>A r S.length) i k) (by omega) ⟨rfl,fun i hi=>by omega⟩ (fun q s q0 q1 ⟨p1,p2⟩=>by
     obtain⟨i,rfl⟩:=Int.eq_ofNat_of_zero_le q0
     have hi:i<S.length:=by omega
     obtain⟨⟨row,c1,c2,c3⟩,c4⟩:=a3 i (by omega)
     have e1:app 8 ([]:Li) row=some row:=by unfold app;rw[if_pos (by simp;omega)];rfl
     have e2:=T7 (w:=row) (i:=l) (by omega)
     have e3:app 24 s [row.set l (A i S.length)]=some (s++[row.set l (A i S.length)]):=by unfold app;rw[if_pos (by simp;omega)]
     unfold R9
     simp only[show ix m (i:Int)=some row by rw[o8,c1],e1,show ix right (i:Int)=some (A i S.length) by rw[o8,c4],e2,Option.bind_some,Int.toNat_natCast,e3]
     refine⟨_,rfl,by rw[List.length_append,List.length_singleton];omega,fun i' hi'=> ?_⟩
     by_cases e:i'=i
     ·subst e
      have e4:i'=s.length:=by omega
      refine⟨row.set l (A i' S.length),by rw[List.getElem?_append_right (by omega),show i' - s.length=0 by omega];rfl,by rw[lS];exact c2,fun k hk=> ?_⟩
      rw[ai2 (by omega),c3 k hk];rfl
     ·obtain⟨r',b1,b2,b3⟩:=p2 i' (by omega)
      exact⟨r',by rw[List.getElem?_append_left (by omega),b1],b2,b3⟩)
   have hXl:X.length=S.length:=by omega
   have hXs:Sq S.length X:=⟨hXl,fun r hr=>by
    obtain⟨i,hi,rfl⟩:=List.getElem_of_mem hr
    obtain⟨row,c1,c2,_⟩:=x3 i (by omega)
    rw[List.getElem?_eq_getElem hi] at c1
    cases c1;exact c2⟩
   have hXE:∀i k,i<S.length→k<S.length→mE X i k=rep A l (fun r=>A r S.length) i k:=fun i k hi hk=>by
    obtain⟨row,c1,_,c3⟩:=x3 i (by omega)
    have:mE X i k=wtj row k:=by unfold mE wtj;rw[c1];rfl
    rw[this,c3 k hk]
   have hXD:=det_eq hn5 hXs (Bcongr (hbr l hl) hXE)
   rw[H9 (A:=mE X) fun i k hi hk=>hXE i k hi hk] at hXD
   have e3:∀x:Int,app 8 s [x]=some (s++[x]):=fun x=>by unfold app;rw[if_pos (by simp;omega)]
   unfold T0
   simp only[x1,hXD,e3,oB]
   refine⟨_,rfl,by rw[List.length_append,List.length_singleton];omega,fun l' hl'=> ?_⟩
   by_cases e:l'=l
   ·subst e
    rw[List.getElem?_append_right (by omega),show l' - s.length=0 by omega];rfl
   ·rw[List.getElem?_append_left (by omega)];exact p2 l' (by omega))
 unfold T3
 simp only[a1,oB,hD,n1]
 have hnl:num.length=S.length:=by omega
 by_cases c:det S.length A<0
 ·rw[if_pos c,if_pos c]
  have hb1:=ab_le ((Bcongr (by rw[← hA];exact sys_bd ht h) fun i k _ _=>rfl:Bd S.length A).det hn5)
  obtain⟨num',m1,m2,m3⟩:=u7 (body:=S6) (n:=(S.length:Int)) (s:=num)
   (fun q s=>s.length=S.length∧∀l:Nat,l<S.length→s[l]? =some (if(l:Int)<q then - det S.length (rep A l fun r=>A r S.length) else det S.length (rep A l fun r=>A r S.length))) (by omega) ⟨hnl,fun l hl=>by rw[n3 l (by omega),if_neg (by omega)]⟩ (fun q s q0 q1 ⟨p1,p2⟩=>by
    obtain⟨l,rfl⟩:=Int.eq_ofNat_of_zero_le q0
    have hl:l<S.length:=by omega
    have e1:=p2 l hl
    rw[if_neg (by omega)] at e1
    have hb2:=ab_le ((hbr l hl).det hn5)
    have e2:w64 (0 - det S.length (rep A l fun r=>A r S.length))= - det S.length (rep A l fun r=>A r S.length):=by
     rw[n8 (by omega) (by omega)];omega
    unfold S6
    simp only[show ix s (l:Int)=some (det S.length (rep A l fun r=>A r S.length)) by rw[o8,e1],Option.bind_some,e2,Int.toNat_natCast]
    refine⟨_,rfl,by rw[lS];exact p1,fun l' hl'=> ?_⟩
    rw[List.getElem?_set]
    by_cases e:l=l'
    ·subst e;rw[if_pos rfl,if_pos (by omega),if_pos (by omega)]
    ·rw[if_neg e,p2 l' hl']
     by_cases f:(l':Int)<l
     ·rw[if_pos f,if_pos (by omega)]
     ·rw[if_neg f,if_neg (by omega)])
  have e3:w64 (0 - det S.length A)= - det S.length A:=by rw[n8 (by omega) (by omega)];omega
  rw[m1]
  simp only[oB,e3]
  refine⟨num',m2,rfl,fun l hl=> ?_⟩
  rw[if_pos c,o8,m3 l hl,if_pos (by omega)]
 ·rw[if_neg c,if_neg c]
  refine⟨num,hnl,rfl,fun l hl=> ?_⟩
  rw[if_neg c,o8,n3 l (by omega)]
end
end Ab
end
section
namespace Ab
open Go
/-! ### Values of ordered states -/
noncomputable def sc(t:d5)(s:Li)(op:Int):LL:=(ooAt t op).outcomes.map (efc t.facts s)
structure Rep{A:Type}(all:LL)(v:List A)(f:Li→A):Prop where
 len:v.length=all.length
 get:∀{i:Int} {s:Li},ix all i=some s→ix v i=some (f s)
noncomputable def upd{A:Type}(f:Li→A)(s:Li)(x:A):Li→A:=fun z=>if dec (z=s)=true then x else f z
theorem J3{A:Type}{f:Li→A}{s:Li}{x:A}:upd f s x s=x:=ifP rfl
theorem T6{A:Type}{f:Li→A}{s z:Li}{x:A}(h:z ≠ s):upd f s x z=f z:=ifN h
section
variable {A:Type}{all:LL}{v:List A}{f g:Li→A}
theorem Rep.of(h:Rep all v f){s:Li}(hs:s ∈ all):∃i,ix all i=some s∧ix v i=some (f s):=by
 obtain⟨i,_,_,hi⟩:=s9 hs
 exact⟨i,hi,h.get hi⟩
theorem Rep.set(ho:Ord all)(h:Rep all v f){i:Int}{s:Li}(hi:ix all i=some s)(x:A):Rep all (v.set i.toNat x) (upd f s x):=by
 obtain⟨i0,i1,_⟩:=r7 hi
 have hl:=h.len
 refine⟨by rw[lS];exact hl,fun {j z} hj=> ?_⟩
 rw[ix_put i0 (by omega) (r7 hj).1]
 by_cases e:j=i
 ·subst e
  rw[hi] at hj;cases hj
  rw[if_pos rfl,J3]
 ·rw[if_neg e,T6 (fun hz=>e (by subst hz;exact ho.inj hj hi))]
  exact h.get hj
theorem Rep.congr(h:Rep all v f)(e:∀s ∈ all,f s=g s):Rep all v g:=⟨h.len,fun hi=>by rw[← e _ (m5 hi)];exact h.get hi⟩
theorem Rep.repl(c:A):Rep all (List.replicate all.length c) fun _=>c:=⟨by simp,fun {i s} hi=>by
 obtain⟨i0,i1,g⟩:=r7 hi
 have:i.toNat<all.length:=(lG.1 g).1
 rw[ix,if_pos i0,List.getElem?_replicate,if_pos this]⟩
end
def DnA(t:d5):Nat→Li→Prop
 |0,s=>i9 t s
 |k+1,s=>i9 t s∨∃op:Int,(0≤op∧op<t.operators.length)∧oCan t s op∧∀y ∈ sc t s op,DnA t k y
section
variable {t:d5}
theorem DnA.goal{k:Nat}{s:Li}(h:i9 t s):DnA t k s:=by
 cases k with
 |zero=>exact h
 |succ k=>exact .inl h
theorem DnA.succ:∀{k:Nat} {s:Li},DnA t k s→DnA t (k+1) s
 |0,s,h=>.inl h
 |k+1,s,h=>by
  rcases h with h|⟨op,h1,h2,h3⟩
  ·exact .inl h
  ·exact .inr ⟨op,h1,h2,fun y hy=>DnA.succ (h3 y hy)⟩
def HtA(t:d5)(k:Nat)(s:Li):Prop:=DnA t k s∧∀j,j<k→¬ DnA t j s
theorem HtA.zero{s:Li}(h:i9 t s):HtA t 0 s:=⟨h,fun j hj=>by omega⟩
structure ClO(t:d5)(all:LL):Prop where
 cl:Cl t all
 ord:Ord all
theorem ClO.len{all:LL}(h:ClO t all):all.length≤2000:=h.cl.len
theorem ClO.set{all:LL}(h:ClO t all){s:Li}(hs:s ∈ all):SetN s t.facts:=h.cl.set s hs
theorem ClO.sc{all:LL}(h:ClO t all){s:Li}(hs:s ∈ all){op:Int}(h0:0≤op∧op<t.operators.length)(hc:oCan t s op){y:Li}(hy:y ∈ sc t s op):y ∈ all:=by
 obtain⟨x,hx,rfl⟩:=List.mem_map.1 hy
 exact h.cl.closed s hs op h0.1 h0.2 hc x hx
end
end Ab
end
section
namespace Ab
open Go
/-! ### Loops that do the same, till one of them gives up -/
section
variable {t:d5}{m:Int}
end
end Ab
end
section
namespace Ab
open Go
def sumN(l:Li):Nat:=(l.map Int.toNat).sum
theorem sumN_set:∀{l:Li} {i:Nat} {x y:Int},l[i]? =some y→0≤x→x<y→sumN (l.set i x)<sumN l
 |[],_,_,_,h,_,_=>by simp at h
 |a::l,0,x,y,h,h0,h1=>by
  simp only[List.getElem?_cons_zero,Option.some.injEq] at h
  subst h
  simp only[sumN,List.set_cons_zero,List.map_cons,List.sum_cons]
  omega
 |a::l,i+1,x,y,h,h0,h1=>by
  have:=sumN_set (l:=l) (i:=i) (by simpa using h) h0 h1
  simp only[sumN,List.set_cons_succ,List.map_cons,List.sum_cons] at this ⊢
  omega
end Ab
end
section
namespace Ab
open Go
section
variable {t:d5}
def DsC(t:d5)(S:Li→Prop):Nat→Li→Prop
 |0,s=>i9 t s
 |k+1,s=>i9 t s∨(S s∧∃op:Int,(0≤op∧op<t.operators.length)∧oCan t s op∧(∀y ∈ sc t s op,S y)∧∃y ∈ sc t s op,DsC t S k y)
variable {S T:Li→Prop}
theorem DsC.goal{k:Nat}{s:Li}(h:i9 t s):DsC t S k s:=by
 cases k with
 |zero=>exact h
 |succ k=>exact .inl h
theorem DsC.succ:∀{k:Nat} {s:Li},DsC t S k s→DsC t S (k+1) s
 |0,s,h=>.inl h
 |k+1,s,h=>by
  rcases h with h|⟨h0,op,h1,h2,h3,y,hy,h4⟩
  ·exact .inl h
  ·exact .inr ⟨h0,op,h1,h2,h3,y,hy,h4.succ⟩
def HtD(t:d5)(S:Li→Prop)(k:Nat)(s:Li):Prop:=DsC t S k s∧∀j,j<k→¬ DsC t S j s
theorem HtD.step{k:Nat}{s:Li}(h:HtD t S (k+1) s):¬ i9 t s∧S s∧∃op:Int,(0≤op∧op<t.operators.length)∧oCan t s op∧(∀y ∈ sc t s op,S y)∧∃y ∈ sc t s op,HtD t S k y:=by
 have hg:¬ i9 t s:=fun g=>h.2 0 (by omega) g
 rcases h.1 with g|⟨h0,op,h1,h2,h3,y,hy,h4⟩
 ·exact absurd g hg
 ·refine⟨hg,h0,op,h1,h2,h3,y,hy,h4,fun j hj hd=> ?_⟩
  exact h.2 (j+1) (by omega) (.inr ⟨h0,op,h1,h2,h3,y,hy,hd⟩)
/-! ### Lists of numbers -/
/-! ### The numbers of the states after an operator -/
def ArcL(t:d5)(all:LL)(s:Li)(op:Int)(l:Li):Prop:=(oCan t s op∧∀k,k ∈ l↔∃y ∈ sc t s op,ix all k=some y)∨(¬ oCan t s op∧l=[])
structure ArcsOk(t:d5)(all:LL)(nx:List (LL)):Prop where
 len:nx.length=all.length
 row:∀i s,ix all i=some s→∃r,ix nx i=some r∧r.length=t.operators.length∧∀op l,ix r op=some l→ArcL t all s op l
end
end Ab
end
section
namespace Ab
open Go
section
variable {t:d5}{S:Li→Prop}{all:LL}
end
end Ab
end
section
namespace Ab
open Go
section
variable {t:d5}{all:LL}
end
section
variable {t:d5}{p:List e9}
def RkP(t:d5)(p:List e9):Nat→Li→Prop
 |0,s=>i9 t s
 |k+1,s=>i9 t s∨(C0 p s∧∃y ∈ nxS t p s,RkP t p k y)
theorem RkP.goal{k:Nat}{s:Li}(h:i9 t s):RkP t p k s:=by
 cases k with
 |zero=>exact h
 |succ k=>exact .inl h
theorem RkP.succ:∀{k:Nat} {s:Li},RkP t p k s→RkP t p (k+1) s
 |0,s,h=>.inl h
 |k+1,s,h=>by
  rcases h with h|⟨h1,y,hy,h2⟩
  ·exact .inl h
  ·exact .inr ⟨h1,y,hy,h2.succ⟩
theorem RkP.mono{k m:Nat}{s:Li}(h:RkP t p k s)(hm:k≤m):RkP t p m s:=by
 induction hm with
 |refl=>exact h
 |step _ ih=>exact ih.succ
def HtR(t:d5)(p:List e9)(k:Nat)(s:Li):Prop:=RkP t p k s∧∀j,j<k→¬ RkP t p j s
theorem HtR.unique{k m:Nat}{s:Li}(h:HtR t p k s)(h':HtR t p m s):k=m:=by
 rcases Nat.lt_trichotomy k m with c|c|c
 ·exact absurd h.1 (h'.2 k c)
 ·exact c
 ·exact absurd h'.1 (h.2 m c)
theorem HtR.of_dn:∀{k:Nat} {s:Li},RkP t p k s→∃m,m≤k∧HtR t p m s
 |0,s,h=>⟨0,Nat.le_refl _,h,fun j hj=>by omega⟩
 |k+1,s,h=>by
  by_cases c:RkP t p k s
  ·obtain⟨m,h1,h2⟩:=HtR.of_dn c
   exact⟨m,by omega,h2⟩
  ·exact⟨k+1,Nat.le_refl _,h,fun j hj hd=>c (hd.mono (by omega))⟩
theorem HtR.chain{l:LL}(hv:Vis t p l):∀{k:Nat} {s:Li},s ∈ l→HtR t p k s→∃c:LL,c.length=k+1∧c.Nodup∧∀x ∈ c,x ∈ l∧∃j,j≤k∧HtR t p j x
 |0,s,hs,h=>⟨[s],rfl,by simp,fun x hx=>by rw[List.mem_singleton.1 hx];exact⟨hs,0,Nat.le_refl _,h⟩⟩
 |k+1,s,hs,h=>by
  have hg:¬ i9 t s:=fun g=>h.2 0 (by omega) g
  rcases h.1 with g|⟨hl,y,hy,h4⟩
  ·exact absurd g hg
  have h5:HtR t p k y:=⟨h4,fun j hj hd=>h.2 (j+1) (by omega) (.inr ⟨hl,y,hy,hd⟩)⟩
  obtain⟨c,c1,c2,c3⟩:=HtR.chain hv (hv.closed s hs hg hl y hy) h5
  refine⟨s::c,by simp[c1],List.nodup_cons.2 ⟨fun hm=> ?_,c2⟩,fun x hx=> ?_⟩
  ·obtain⟨_,j,j1,j2⟩:=c3 s hm
   have:=j2.unique h;omega
  ·rcases List.mem_cons.1 hx with rfl|hx
   ·exact⟨hs,k+1,Nat.le_refl _,h⟩
   ·obtain⟨q0,j,q1,q2⟩:=c3 x hx
    exact⟨q0,j,by omega,q2⟩
theorem HtR.lt{l:LL}(hv:Vis t p l){k:Nat}{s:Li}(hs:s ∈ l)(h:HtR t p k s):k<l.length:=by
 obtain⟨c,c1,c2,c3⟩:=h.chain hv hs
 have:=ao9 c2 fun x hx=>(c3 x hx).1
 omega
structure CanOk(t:d5)(p:List e9)(l:LL)(f:Li→Int):Prop where
 b:∀s ∈ l,f s=0∨f s=1
 ok:∀s ∈ l,f s=1→∃k,RkP t p k s
theorem holds2(ht:k8 t)(hp:G7 t p){l:LL}(hv:Vis t p l){i:Int}{s:Li}(hs:ix l i=some s){c:Li}{f:Li→Int}(hr:Rep l c f)(hk:CanOk t p l f):
  (I7 t p l i c=some (.inr false)∧¬ i9 t s∧¬ C0 p s)∨∃c' f',I7 t p l i c=some (.inl c')∧Rep l c' f'∧CanOk t p l f'∧(∀z ∈ l,f z≤f' z)∧(i9 t s→f' s=1)∧(C0 p s→∀y ∈ nxS t p s,f y=1→f' s=1):=by
 have hsm:=m5 hs
 have hset:=((hv.mem s).1 hsm).set ht
 have hsl:=hset.len
 have hn:=ht.n1
 have hlen:=hv.len ht hp
 unfold I7
 rw[hs]
 simp only[oB,U0 hset.1 ht.goal.1 (show s.length≤1000000 by omega)]
 unfold O9
 by_cases hg:i9 t s
 ·rw[ifP (p:=∀x ∈ t.goal,x ∈ s) hg,hr.get hs]
  simp only[oB]
  refine .inr ⟨_,_,rfl,hr.set hv.ord hs 1,⟨fun z hz=> ?_,fun z hz hf=> ?_⟩,fun z hz=> ?_,fun _=>J3,fun _ _ _ _=>J3⟩
  ·by_cases e:z=s
   ·subst e;exact .inr J3
   ·rw[T6 e];exact hk.b z hz
  ·by_cases e:z=s
   ·subst e;exact⟨0,hg⟩
   ·rw[T6 e] at hf;exact hk.ok z hz hf
  ·by_cases e:z=s
   ·subst e;rw[J3];rcases hk.b z hz with h|h<;>omega
   ·rw[T6 e];exact Int.le_refl _
 ·rw[ifN (p:=∀x ∈ t.goal,x ∈ s) hg,(ak7 hp s).1]
  simp only[oB]
  by_cases hl:chO p s<0
  ·rw[if_pos hl]
   exact .inl ⟨rfl,hg,fun h=>by unfold C0 at h;omega⟩
  ·rw[if_neg hl]
   have hlive:C0 p s:=by unfold C0;omega
   have ho:=am0 hp hlive
   obtain⟨st,w,r1,_,r3,_⟩:=U4 ht ho.1.1 ho.1.2 hset
   have hst:∀y,y ∈ st↔y ∈ nxS t p s:=fun y=>by rw[r3,nxS,List.mem_map]
   rw[r1]
   simp only[oB]
   obtain⟨c',g1,f',g2,g3,g4,g5,g6⟩:=u7 (body:=W1 l i (st,w)) (n:=(st.length:Int)) (s:=c) (fun j x=>∃f',Rep l x f'∧CanOk t p l f'∧(∀z ∈ l,f z≤f' z)∧(∀z ∈ l,z ≠ s→f' z=f z)∧∀k y,k<j→ix st k=some y→f y=1→f' s=1) (by omega) ⟨f,hr,hk,fun z _=>Int.le_refl _,fun z _ _=>rfl,fun k y hk2 h=>by have:=(r7 h).1;omega⟩ (fun j x j0 j1 ⟨f',q1,q2,q3,q4,q5⟩=>by
    obtain⟨y,hy,_⟩:=j7 (l:=st) j0 j1
    have hyn:=(hst y).1 (m5 hy)
    have hyl:=hv.closed s hsm hg hlive y hyn
    obtain⟨z,hz,hzv⟩:=q1.of hyl
    unfold W1
    dsimp only
    rw[hy]
    simp only[oB,q1.get hs,find_eq hv.ord (show l.length≤500000 by omega) hz,hzv]
    have bs:=q2.b s hsm
    have by':=q2.b y hyl
    refine⟨_,rfl,_,q1.set hv.ord hs _,⟨fun z' hz'=> ?_,fun z' hz' hf=> ?_⟩,fun z' hz'=> ?_,fun z' hz' hne=> ?_,fun k y' hk2 hy' hf=> ?_⟩
    ·by_cases e:z'=s
     ·subst e;rw[J3];omega
     ·rw[T6 e];exact q2.b z' hz'
    ·by_cases e:z'=s
     ·subst e
      rw[J3] at hf
      by_cases c1:f' z'=1
      ·exact q2.ok z' hz' c1
      ·obtain⟨k,hk3⟩:=q2.ok y hyl (by omega)
       exact⟨k+1,.inr ⟨hlive,y,hyn,hk3⟩⟩
     ·rw[T6 e] at hf;exact q2.ok z' hz' hf
    ·by_cases e:z'=s
     ·subst e;rw[J3];have:=q3 z' hz';omega
     ·rw[T6 e];exact q3 z' hz'
    ·rw[T6 hne];exact q4 z' hz' hne
    ·rw[J3]
     by_cases e:k=j
     ·subst e
      rw[hy] at hy';cases hy'
      have:=q3 y hyl
      omega
     ·have:=q5 k y' (by omega) hy' hf
      omega)
   rw[g1]
   simp only[oB]
   refine .inr ⟨c',f',rfl,g2,g3,g4,fun h=>absurd h hg,fun _ y hy hf=> ?_⟩
   obtain⟨q,_,q1,hq⟩:=s9 ((hst y).2 hy)
   exact g6 q y q1 hq hf
def KnR(t:d5)(p:List e9)(l:LL)(r:Nat)(f:Li→Int):Prop:=∀s ∈ l,∀k,k<r→RkP t p k s→f s=1
theorem holds1(ht:k8 t)(hp:G7 t p){l:LL}(hv:Vis t p l){c:Li}{f:Li→Int}(hr:Rep l c f)(hk:CanOk t p l f){r:Nat}(hn:KnR t p l r f)(j:Int):
  (J1 t p l j c=some (.inr false)∧∃s ∈ l,¬ i9 t s∧¬ C0 p s)∨∃c' f',J1 t p l j c=some (.inl c')∧Rep l c' f'∧CanOk t p l f'∧KnR t p l (r+1) f':=by
 unfold J1
 rcases ai0 (body:=I7 t p l) (n:=(l.length:Int)) (s:=c) (fun j x=>∃f',Rep l x f'∧CanOk t p l f'∧(∀z ∈ l,f z≤f' z)∧∀i s k,i<j→ix l i=some s→k<r+1→RkP t p k s→f' s=1) (fun o=>o=false∧∃s ∈ l,¬ i9 t s∧¬ C0 p s) (by omega) ⟨f,hr,hk,fun z _=>Int.le_refl _,fun i s k hi h=>by have:=(r7 h).1;omega⟩ (fun j x j0 j1 ⟨f',q1,q2,q3,q4⟩=>by
  obtain⟨s,hs,_⟩:=j7 (l:=l) j0 j1
  have hsm:=m5 hs
  rcases holds2 ht hp hv hs q1 q2 with⟨h1,h2,h3⟩|⟨c',f'',h1,h2,h3,h4,h5,h6⟩
  ·exact .inr ⟨_,h1,rfl,s,hsm,h2,h3⟩
  ·refine .inl ⟨_,h1,f'',h2,h3,fun z hz=>Int.le_trans (q3 z hz) (h4 z hz),fun i z k hi hz hkr hkk=> ?_⟩
   by_cases e:i=j
   ·subst e
    rw[hs] at hz;cases hz
    by_cases hg:i9 t s
    ·exact h5 hg
    ·cases k with
     |zero=>exact absurd hkk hg
     |succ k=>
      rcases hkk with g|⟨hl,y,hy,hyk⟩
      ·exact absurd g hg
      ·have hyl:=hv.closed s hsm hg hl y hy
       have e1:=hn y hyl k (by omega) hyk
       have e2:=q3 y hyl
       refine h6 hl y hy ?_
       rcases q2.b y hyl with h|h<;>omega
   ·have e1:=q4 i z k (by omega) hz hkr hkk
    have e2:=h4 z (m5 hz)
    rcases h3.b z (m5 hz) with h|h<;>omega) with⟨c',e1,f',e2,e3,e4,e5⟩|⟨o,e1,rfl,e2⟩
 ·rw[e1]
  refine .inr ⟨c',f',rfl,e2,e3,fun s hs k hk2 hkk=> ?_⟩
  obtain⟨i,_,i1,hi⟩:=s9 hs
  exact e5 i s k i1 hi hk2 hkk
 ·rw[e1]
  exact .inl ⟨rfl,e2⟩
theorem holds_eq(ht:k8 t)(hp:G7 t p):W9 t p=some (dec (∀s,Rch t p s→∃k,RkP t p k s)):=by
 obtain⟨l,g1,hv⟩:=oVisited_eq ht hp
 have hlen:=hv.len ht hp
 unfold W9
 rw[g1]
 simp only[oB]
 rw[show mkL 8 (l.length:Int) (0:Int)=some (List.replicate l.length 0) by rw[mkL,if_pos (by omega)];simp]
 simp only[oB]
 rcases ai0 (body:=J1 t p l) (n:=(l.length:Int)) (s:=List.replicate l.length 0) (fun j x=>∃f,Rep l x f∧CanOk t p l f∧KnR t p l j.toNat f) (fun o=>o=false∧∃s ∈ l,¬ i9 t s∧¬ C0 p s) (by omega) ⟨_,Rep.repl 0,⟨fun s _=>.inl rfl,fun s _ h=>by cases h⟩,fun s _ k hk=>by simp at hk⟩ (fun j x j0 j1 ⟨f,q1,q2,q3⟩=>by
  rcases holds1 ht hp hv q1 q2 q3 j with⟨h1,h2⟩|⟨c',f',h1,h2,h3,h4⟩
  ·exact .inr ⟨_,h1,rfl,h2⟩
  ·exact .inl ⟨_,h1,f',h2,h3,by rwa [show(j+1).toNat=j.toNat+1 by omega]⟩) with⟨c,e1,f,e2,e3,e4⟩|⟨o,e1,rfl,s,hs,hg,hl⟩
 ·rw[e1]
  simp only[oB,contains1_eq,y9]
  congr 1
  refine K4 ⟨fun h s hs=> ?_,fun h hm=> ?_⟩
  ·have hsl:=(hv.mem s).2 hs
   obtain⟨i,hi,hci⟩:=e2.of hsl
   rcases e3.b s hsl with e|e
   ·exact absurd (by rw[e] at hci;exact m5 hci) h
   ·exact e3.ok s hsl e
  ·obtain⟨i,i0,i1,hi⟩:=s9 hm
   obtain⟨s,hs,_⟩:=j7 (l:=l) i0 (by have:=e2.len;omega)
   have hsl:=m5 hs
   obtain⟨k,hk⟩:=h s ((hv.mem s).1 hsl)
   obtain⟨m,_,hm2⟩:=HtR.of_dn hk
   have:=hm2.lt hv hsl
   have e5:=e4 s hsl m (by omega) hm2.1
   rw[e2.get hs,e5] at hi
   cases hi
 ·rw[e1,q6]
  ·rfl
  intro h
  obtain⟨k,hk⟩:=h s ((hv.mem s).1 hs)
  cases k with
  |zero=>exact hg hk
  |succ k=>
   rcases hk with h|⟨h,_⟩
   ·exact hg h
   ·exact hl h
end
end Ab
end
section
namespace Ab
open Go
/-! ### The coin -/
end Ab
end
section
namespace Ab
open Go
theorem lower_loop{l:LL}{Low:(Li→Int)→Prop}{Fix:(Li→Int)→Li→Prop}{b3:Int→(Li×Bool)→Option (Li×Bool)}{body:(Li×Bool)→Option ((Li×Bool)⊕Li)}
  (hbody:∀v b,body (v,b)=if b=true then(forR 0 (l.length:Int) b3 (v,false)).bind fun x=>some (.inl (x.1,x.2)) else some (.inr v))
  (hcongr:∀g g':Li→Int,(∀z ∈ l,g z=g' z)→∀s ∈ l,Fix g s→Fix g' s)
  (step:∀i s v g b,ix l i=some s→Rep l v g→Low g→∃v' g' b',b3 i (v,b)=some (v',b')∧Rep l v' g'∧Low g'∧((b'=b∧v'=v∧Fix g s)∨(b'=true∧sumN v'<sumN v)))
  {v0:Li} {g0:Li→Int} (hr:Rep l v0 g0) (hl:Low g0):∃v g,Loop body (v0,true)=some v∧Rep l v g∧Low g∧∀s ∈ l,Fix g s:=by
 obtain⟨v,e1,g,e2,e3,e4⟩:=F4 (body:=body) (fun x=>∃g,Rep l x.1 g∧Low g∧(x.2=false→∀s ∈ l,Fix g s)) (fun v=>∃g,Rep l v g∧Low g∧∀s ∈ l,Fix g s) (fun x=>2 * sumN x.1+(if x.2=true then 1 else 0)) (s:=(v0,true)) ⟨g0,hr,hl,fun h=>by cases h⟩ (fun⟨v,b⟩ ⟨g,h1,h2,h3⟩=>by
  dsimp only at h1 h3 ⊢
  rw[hbody]
  cases b with
  |false=>
   rw[if_neg (by simp)]
   exact .inr ⟨v,rfl,g,h1,h2,h3 rfl⟩
  |true=>
   rw[if_pos rfl]
   obtain⟨⟨v',b'⟩,k1,g',k2,k3,k4⟩:=u7 (body:=b3) (n:=(l.length:Int)) (s:=(v,false)) (fun j x=>∃g',Rep l x.1 g'∧Low g'∧((x.2=false∧x.1=v∧∀i s,i<j→ix l i=some s→Fix g s)∨(x.2=true∧sumN x.1<sumN v))) (by omega) ⟨g,h1,h2,.inl ⟨rfl,rfl,fun i s hi hs=>by have:=(r7 hs).1;omega⟩⟩ (fun j ⟨x,bx⟩ j0 j1 ⟨g',q1,q2,q3⟩=>by
    dsimp only at q1 q3 ⊢
    obtain⟨s,hs,_⟩:=j7 (l:=l) j0 j1
    obtain⟨x',g'',b'',w1,w2,w3,w4⟩:=step j s x g' bx hs q1 q2
    rw[w1]
    refine⟨_,rfl,g'',w2,w3,?_⟩
    dsimp only
    rcases w4 with⟨rfl,rfl,w4⟩|⟨rfl,w4⟩
    ·rcases q3 with⟨p1,rfl,p3⟩|q3
     ·refine .inl ⟨p1,rfl,fun i z hi hz=> ?_⟩
      by_cases e:i=j
      ·subst e
       rw[hs] at hz;cases hz
       refine hcongr g' g (fun z hz=> ?_) s (m5 hs) w4
       obtain⟨iz,hiz,hgz⟩:=h1.of hz
       rw[q1.get hiz] at hgz
       exact Option.some.inj hgz
      ·exact p3 i z (by omega) hz
     ·exact .inr q3
    ·right
     refine⟨rfl,?_⟩
     rcases q3 with⟨_,rfl,_⟩|⟨_,q3⟩<;>omega)
   rw[k1]
   simp only[oB]
   dsimp only at k2 k4
   refine .inl ⟨_,rfl,?_,?_⟩
   ·rcases k4 with⟨rfl,rfl,k4⟩|⟨rfl,k4⟩
    ·exact⟨g,h1,h2,fun _ s hs=>by
      obtain⟨i,_,i1,hi⟩:=s9 hs
      exact k4 i s i1 hi⟩
    ·exact⟨g',k2,k3,fun h=>by cases h⟩
   ·dsimp only
    rcases k4 with⟨rfl,rfl,k4⟩|⟨rfl,k4⟩
    ·simp
    ·simp;omega)
 exact⟨v,g,e1,e2,e3,e4⟩
def MN(g:Li→Int)(l:LL)(m:Int):Prop:=m≤1000000000∧(∀y ∈ l,m≤g y)∧(m=1000000000∨∃y ∈ l,g y=m)
theorem MN.congr{g g':Li→Int}{l:LL}{m:Int}(h:MN g l m)(e:∀y ∈ l,g y=g' y):MN g' l m:=by
 refine⟨h.1,fun y hy=>by rw[← e y hy];exact h.2.1 y hy,?_⟩
 rcases h.2.2 with h|⟨y,hy,e1⟩
 ·exact .inl h
 ·exact .inr ⟨y,hy,by rw[← e y hy];exact e1⟩
theorem MN.unique{g:Li→Int}{l:LL}{m m':Int}(h:MN g l m)(h':MN g l m'):m=m':=by
 obtain⟨a1,a2,a3⟩:=h
 obtain⟨b1,b2,b3⟩:=h'
 rcases a3 with rfl|⟨y,hy,rfl⟩<;>rcases b3 with rfl|⟨z,hz,rfl⟩
 ·rfl
 ·have:=a2 z hz;omega
 ·have:=b2 y hy;omega
 ·have:=a2 z hz;have:=b2 y hy;omega
theorem leastG{t:d5}(ht:k8 t){all:LL}(ho:Ord all){s:Li}(hs:SetN s t.facts){op:Int}(h0:0≤op∧op<t.operators.length)(hcl:∀y ∈ sc t s op,y ∈ all){v:Li}{g:Li→Int}(hv:Rep all v g):
  ∃m,ag3 t all v s op=some m∧MN g (sc t s op) m:=by
 obtain⟨st,ws,r1,_,r3,_⟩:=U4 ht h0.1 h0.2 hs
 have hst:∀y,y ∈ st↔y ∈ sc t s op:=fun y=>by rw[r3,sc,List.mem_map]
 unfold ag3
 rw[oAfter_eq ht h0.1 h0.2 hs,r1]
 simp only[oB]
 obtain⟨m,e1,e2,e3,e4⟩:=u7 (body:=ac3 all v (st,ws)) (n:=(st.length:Int)) (s:=1000000000) (fun j n=>n≤1000000000∧(∀k y,k<j→ix st k=some y→n≤g y)∧(n=1000000000∨∃y ∈ sc t s op,g y=n)) (by omega) ⟨Int.le_refl _,fun k y hk h=>by have:=(r7 h).1;omega,.inl rfl⟩ (fun j n j0 j1 ⟨a1,a2,a3⟩=>by
  obtain⟨y,hy,_⟩:=j7 (l:=st) j0 j1
  have hyn:=(hst y).1 (m5 hy)
  obtain⟨i,hi,hvi⟩:=hv.of (hcl y hyn)
  unfold ac3
  dsimp only
  rw[hy]
  simp only[oB,place_ord ho hi,hvi]
  by_cases c:g y<n
  ·rw[if_pos c]
   refine⟨_,rfl,by omega,fun k z hk hz=> ?_,.inr ⟨y,hyn,rfl⟩⟩
   by_cases ek:k=j
   ·subst ek;rw[hy] at hz;cases hz;exact Int.le_refl _
   ·have:=a2 k z (by omega) hz;omega
  ·rw[if_neg c]
   refine⟨_,rfl,a1,fun k z hk hz=> ?_,a3⟩
   by_cases ek:k=j
   ·subst ek;rw[hy] at hz;cases hz;omega
   ·exact a2 k z (by omega) hz)
 rw[e1]
 refine⟨m,rfl,e2,fun y hy=> ?_,e4⟩
 obtain⟨k,_,k1,hk⟩:=s9 ((hst y).2 hy)
 exact e3 k y k1 hk
section
variable {t:d5}{p:List e9}
structure LowR(t:d5)(p:List e9)(l:LL)(g:Li→Int):Prop where
 b:∀s ∈ l,0≤g s∧g s≤1000000000
 dn:∀s ∈ l,g s<1000000000→RkP t p (g s).toNat s
 goal:∀s ∈ l,i9 t s→g s=0
def FixR(t:d5)(p:List e9)(g:Li→Int)(s:Li):Prop:=¬ i9 t s→C0 p s→∀m,MN g (nxS t p s) m→g s≤m+1
theorem rKeeps_eq(ht:k8 t)(hp:G7 t p):ag5 t p=some (dec (∀s,Rch t p s→∃k,RkP t p k s)):=by
 obtain⟨l,v1,hv⟩:=rVisited_eq ht hp
 have hlen:=hv.len ht hp
 unfold ag5
 rw[v1]
 simp only[oB]
 rw[show mkL 8 (l.length:Int) (0:Int)=some (List.replicate l.length 0) by rw[mkL,if_pos (by omega)];simp]
 simp only[oB]
 obtain⟨v0,a1,g0,a2,a3⟩:=u7 (body:=ac1 t l) (n:=(l.length:Int)) (s:=List.replicate l.length 0) (fun j v=>∃g,Rep l v g∧∀i s,ix l i=some s→(i<j→(i9 t s→g s=0)∧(¬ i9 t s→g s=1000000000))∧(j≤i→g s=0)) (by omega) ⟨_,Rep.repl 0,fun i s hi=>⟨fun h=>by have:=(r7 hi).1;omega,fun _=>rfl⟩⟩ (fun j v j0 j1 ⟨g,h1,h2⟩=>by
  obtain⟨s,hs,_⟩:=j7 (l:=l) j0 j1
  unfold ac1
  rw[hs]
  simp only[oB,ah7,y9]
  by_cases hg:i9 t s
  ·rw[ifNN hg]
   refine⟨_,rfl,g,h1,fun i z hz=> ?_⟩
   by_cases e:i=j
   ·subst e
    rw[hs] at hz;cases hz
    exact⟨fun _=>⟨fun _=>(h2 i s hs).2 (Int.le_refl _),fun h=>absurd hg h⟩,fun h=>by omega⟩
   ·exact⟨fun h=>(h2 i z hz).1 (by omega),fun h=>(h2 i z hz).2 (by omega)⟩
  ·rw[ifP hg,h1.get hs]
   simp only[oB]
   refine⟨_,rfl,_,h1.set hv.ord hs 1000000000,fun i z hz=> ?_⟩
   by_cases e:i=j
   ·subst e
    rw[hs] at hz;cases hz
    rw[J3]
    exact⟨fun _=>⟨fun h=>absurd h hg,fun _=>rfl⟩,fun h=>by omega⟩
   ·rw[T6 (fun hz'=>e (hv.ord.inj hz (by rw[hz'];exact hs)))]
    exact⟨fun h=>(h2 i z hz).1 (by omega),fun h=>(h2 i z hz).2 (by omega)⟩)
 rw[a1]
 simp only[oB]
 have low0:LowR t p l g0:=by
  have key:∀s ∈ l,(i9 t s→g0 s=0)∧(¬ i9 t s→g0 s=1000000000):=fun s hs=>by
   obtain⟨i,_,i1,hi⟩:=s9 hs
   exact(a3 i s hi).1 i1
  refine⟨fun s hs=> ?_,fun s hs h=> ?_,fun s hs hg=>(key s hs).1 hg⟩
  ·by_cases hg:i9 t s
   ·rw[(key s hs).1 hg];omega
   ·rw[(key s hs).2 hg];omega
  ·by_cases hg:i9 t s
   ·exact .goal hg
   ·rw[(key s hs).2 hg] at h;omega
 obtain⟨v,g,e1,e2,e3,e4⟩:=lower_loop (l:=l) (Low:=LowR t p l) (Fix:=FixR t p) (b3:=ac6 t p l) (body:=ab5 t p l) (fun v b=>by unfold ab5;rfl) (fun g g' e s hs h hg hl m hm=>by
   rw[← e s hs]
   exact h hg hl m (hm.congr fun y hy=>(e y (hv.closed s hs hg hl y hy)).symm)) (fun i s v g b hs hr hl=>by
   have hsm:=m5 hs
   have hset:=((hv.mem s).1 hsm).set ht
   unfold ac6
   dsimp only
   rw[hs]
   simp only[oB,aq8,ah7]
   by_cases c:i9 t s∨chO p s<0
   ·rw[if_pos (by rw[Bool.or_eq_true,m6,decide_eq_true_eq];exact c)]
    refine⟨v,g,b,rfl,hr,hl,.inl ⟨rfl,rfl,fun hg hlv=> ?_⟩⟩
    rcases c with c|c
    ·exact absurd c hg
    ·unfold C0 at hlv;omega
   ·rw[if_neg (by rw[Bool.or_eq_true,m6,decide_eq_true_eq];exact c)]
    have hg:¬ i9 t s:=fun h=>c (.inl h)
    have hlv:C0 p s:=by unfold C0;exact Int.not_lt.1 fun h=>c (.inr h)
    have ho:=am0 hp hlv
    obtain⟨m,m1,m2⟩:=leastG ht hv.ord hset ho.1 (fun y hy=>hv.closed s hsm hg hlv y hy) hr
    have m2':MN g (nxS t p s) m:=m2
    rw[m1]
    simp only[oB,hr.get hs]
    have hgs:=hl.b s hsm
    have hm0:0≤m:=by
     rcases m2.2.2 with h|⟨y,hy,h⟩
     ·omega
     ·have:=(hl.b y (hv.closed s hsm hg hlv y hy)).1;omega
    have hm1:=m2.1
    rw[n8 (by omega) (by omega)]
    by_cases cm:m+1<g s
    ·rw[if_pos cm]
     refine⟨_,upd g s (m+1),true,rfl,hr.set hv.ord hs _,⟨fun z hz=> ?_,fun z hz=> ?_,fun z hz hgz=> ?_⟩,.inr ⟨rfl,sumN_set (r7 (hr.get hs)).2.2 (by omega) cm⟩⟩
     ·by_cases e:z=s
      ·subst e;rw[J3];omega
      ·rw[T6 e];exact hl.b z hz
     ·by_cases e:z=s
      ·subst e;rw[J3]
       intro _
       rcases m2.2.2 with h|⟨y,hy,h⟩
       ·omega
       ·rw[show(m+1).toNat=m.toNat+1 by omega]
        have:=hl.dn y (hv.closed z hsm hg hlv y hy) (by omega)
        rw[h] at this
        exact .inr ⟨hlv,y,hy,this⟩
      ·rw[T6 e];exact hl.dn z hz
     ·by_cases e:z=s
      ·subst e;exact absurd hgz hg
      ·rw[T6 e];exact hl.goal z hz hgz
    ·rw[if_neg cm]
     refine⟨v,g,b,rfl,hr,hl,.inl ⟨rfl,rfl,fun _ _ m' hm'=> ?_⟩⟩
     rw[hm'.unique m2']
     omega) a2 low0
 rw[e1]
 simp only[oB]
 have le:∀k:Nat,∀s ∈ l,RkP t p k s→g s≤k:=fun k=>by
  induction k with
  |zero=>exact fun s hs h=>by rw[e3.goal s hs h];omega
  |succ k ih=>
   intro s hs h
   by_cases hg:i9 t s
   ·rw[e3.goal s hs hg];omega
   ·rcases h with h|⟨hl,y,hy,hk⟩
    ·exact absurd h hg
    ·have ho:=am0 hp hl
     obtain⟨m,_,m2⟩:=leastG ht hv.ord (((hv.mem s).1 hs).set ht) ho.1 (fun y hy=>hv.closed s hs hg hl y hy) e2
     have:=e4 s hs hg hl m m2
     have:=m2.2.1 y hy
     have:=ih y (hv.closed s hs hg hl y hy) hk
     omega
 have known:∀s ∈ l,g s<1000000000↔∃k,RkP t p k s:=fun s hs=>⟨fun h=>⟨_,e3.dn s hs h⟩,fun⟨k,hk⟩=>by
  obtain⟨m,_,hm⟩:=HtR.of_dn hk
  have:=hm.lt hv hs
  have:=le m s hs hm.1
  omega⟩
 rcases B7 (body:=ac5 v) (n:=(l.length:Int)) (fun j=>if dec (∃s,ix l j=some s∧1000000000≤g s)=true then some false else none) (by omega) (fun j h0 h1 _=>by
  obtain⟨s,hs,_⟩:=j7 (l:=l) h0 h1
  unfold ac5
  rw[e2.get hs]
  simp only[oB]
  by_cases c:1000000000≤g s
  ·rw[if_pos c,ifP ⟨s,hs,c⟩]
  ·rw[if_neg c,ifN (by rintro ⟨z,hz,h⟩;rw[hs] at hz;cases hz;exact c h)]) with⟨h1,h2⟩|⟨j,o,h0,h1,h2,h3,h4⟩
 ·rw[h1,l8]
  ·rfl
  intro s hs
  have hsl:=(hv.mem s).2 hs
  obtain⟨i,i0,i1,hi⟩:=s9 hsl
  have:=h2 i i0 i1
  refine(known s hsl).1 (Int.not_le.1 fun h=> ?_)
  rw[ifP ⟨s,hi,h⟩] at this
  cases this
 ·rw[h4]
  split at h2
  ·rename_i e
   cases h2
   obtain⟨s,hs,h⟩:=m6.1 e
   rw[q6]
   ·rfl
   intro hall
   have:=(known s (m5 hs)).2 (hall s ((hv.mem s).1 (m5 hs)))
   omega
  ·cases h2
end
end Ab
end
section
namespace Ab
open Go
section
def delB(f:Li→Option Bool):((LL)×Int×Int)→Option (((LL)×Int×Int)⊕((LL)×Int)):=fun(c,i,j)=>if j<(c.length:Int) then Option.bind (Option.bind (ix c j) fun a=>Option.bind (f a) fun b=>if(!b)=true then Option.bind (ix c i) fun _=>some (c.set i.toNat a,w64 (i+1)) else some (c,i)) fun⟨c',i'⟩=>some (.inl (c',i',w64 (j+1))) else some (.inr (c,i))
noncomputable def delA(f:Li→Option Bool)(l:LL):Option (LL):=Option.bind (w5 l f) fun a10=>if a10=(-1) then some l else Option.bind (Loop (delB f) (l,a10,w64 (a10+1))) fun⟨c61,iv62⟩=>Option.bind (cutV (c61.length:Int) iv62 (c61.length:Int)) fun u38=>Option.bind (cutV ((clrL c61 (0+iv62) ((c61.length:Int) - iv62) []).length:Int) 0 iv62) fun u41=>some (r8 (clrL c61 (0+iv62) ((c61.length:Int) - iv62) []) 0 iv62)
theorem aq3{p:Li→Bool}{l:LL}{j:Nat}(h:j<l.length):(l.take (j+1)).filter p=if p l[j] then(l.take j).filter p++[l[j]] else(l.take j).filter p:=by
 rw[List.take_succ_eq_append_getElem h,List.filter_append]
 by_cases e:p l[j]=true
 ·rw[if_pos e];simp[e]
 ·rw[if_neg e];simp[e]
theorem del_eq{g:Li→Prop}{l:LL}(hl:l.length≤1000000){f:Li→Option Bool}(hf:∀a ∈ l,f a=some (dec (g a))):delA f l=some (l.filter fun a=> !dec (g a)):=by
 generalize hp:(fun a=> !dec (g a))=p
 have hpa:∀a,p a= !dec (g a):=fun a=>by rw[← hp]
 unfold delA w5
 rcases B7 (body:=x6 l f) (n:=(l.length:Int)) (fun j=>if dec (∃x,ix l j=some x∧g x)=true then some j else none) (by omega) (fun j h0 h1 _=>by
  obtain⟨x,hx,_⟩:=j7 (l:=l) h0 h1
  unfold x6
  rw[hx]
  simp only[oB,hf x (m5 hx)]
  by_cases e:g x
  ·rw[ifP e,ifP ⟨x,rfl,e⟩]
  ·rw[ifN e,ifN (by rintro ⟨y,hy,q⟩;cases hy;exact e q)]) with⟨h1,h2⟩|⟨j,o,h0,h1,h2,h3,h4⟩
 ·rw[h1]
  simp only[oB,if_true]
  congr 1
  refine(List.filter_eq_self.2 fun a ha=> ?_).symm
  rw[hpa,q6]
  ·rfl
  ·intro q
   obtain⟨i,i0,i1,hi⟩:=s9 ha
   have:=h2 i i0 i1
   rw[ifP ⟨a,hi,q⟩] at this
   cases this
 ·rw[h4]
  split at h2
  ·rename_i e
   cases h2
   simp only[oB]
   rw[if_neg (by omega)]
   obtain⟨J,rfl⟩:=Int.eq_ofNat_of_zero_le h0
   have hJ:J<l.length:=by omega
   obtain⟨x,hx,hgx⟩:=m6.1 e
   have hF:(l.take J).filter p=l.take J:=List.filter_eq_self.2 fun a ha=>by
    rw[hpa,q6]
    ·rfl
    ·intro q
     obtain⟨k,hk,rfl⟩:=List.getElem_of_mem ha
     rw[List.length_take] at hk
     have hk':k<l.length:=by omega
     rw[List.getElem_take] at q
     have:=h3 k (by omega) (by omega)
     rw[ifP ⟨l[k],by rw[o8];exact List.getElem?_eq_getElem hk',q⟩] at this
     cases this
   have hF1:(l.take (J+1)).filter p=l.take J:=by
    rw[aq3 hJ,if_neg,hF]
    rw[o8,List.getElem?_eq_getElem hJ] at hx
    rw[hpa,Option.some.inj hx,l8 hgx];simp
   rw[show w64 ((J:Int)+1)=((J+1:Nat):Int) by rw[n8 (by omega) (by omega)];omega]
   obtain⟨⟨c,i⟩,k1,k2⟩:=F4 (body:=delB f) (fun q=>∃i j:Nat,q.2=((i:Int),(j:Int))∧i<j∧j≤l.length∧q.1.length=l.length∧((l.take j).filter p).length=i∧(∀k,k<i→q.1[k]? =((l.take j).filter p)[k]?)∧∀k,j≤k→q.1[k]? =l[k]?)
    (fun r=>r.1.length=l.length∧(r.2=((l.filter p).length:Int))∧(l.filter p).length≤l.length∧∀k,k<(l.filter p).length→r.1[k]? =(l.filter p)[k]?) (fun q=>((l.length:Int) - q.2.2).toNat) (s:=(l,(J:Int),((J+1:Nat):Int)))
    ⟨J,J+1,rfl,by omega,by omega,rfl,by rw[hF1,List.length_take];omega,fun k hk=>by rw[hF1,List.getElem?_take,if_pos hk],fun k _=>rfl⟩ (fun⟨c,q⟩ ⟨i,j,e0,e1,e2,e3,e4,e5,e6⟩=>by
    dsimp only at e0 e3 e5 e6
    subst e0
    unfold delB
    dsimp only
    by_cases cj:(j:Int)<c.length
    ·rw[if_pos cj]
     have hj:j<l.length:=by omega
     have hcj:ix c (j:Int)=some l[j]:=by rw[o8,e6 j (Nat.le_refl _)];exact List.getElem?_eq_getElem hj
     have hci:ix c (i:Int)=some c[i]:=by rw[o8];exact List.getElem?_eq_getElem (by omega)
     have wj:w64 ((j:Int)+1)=((j+1:Nat):Int):=by rw[n8 (by omega) (by omega)];omega
     have wi:w64 ((i:Int)+1)=((i+1:Nat):Int):=by rw[n8 (by omega) (by omega)];omega
     simp only[hcj,oB,hf _ (List.getElem_mem hj),y9]
     have tf:=aq3 (p:=p) hj
     by_cases cg:g l[j]
     ·rw[ifNN cg]
      simp only[oB,wj]
      rw[hpa,l8 cg,if_neg (by simp)] at tf
      refine .inl ⟨_,rfl,⟨i,j+1,rfl,by omega,by omega,e3,by rw[tf];exact e4,fun k hk=>by rw[tf];exact e5 k hk,fun k hk=>e6 k (by omega)⟩,by dsimp only;omega⟩
     ·rw[ifP cg]
      simp only[hci,oB,wi,wj,Int.toNat_natCast]
      rw[hpa,q6 cg,if_pos (by simp)] at tf
      refine .inl ⟨_,rfl,⟨i+1,j+1,rfl,by omega,by omega,by rw[lS];exact e3,by rw[tf,List.length_append,List.length_singleton,e4],fun k hk=> ?_,fun k hk=> ?_⟩,by dsimp only;omega⟩
      ·dsimp only
       rw[tf,List.getElem?_set]
       by_cases ek:i=k
       ·subst ek;rw[if_pos rfl,if_pos (by omega),List.getElem?_append_right (by omega),e4,Nat.sub_self];rfl
       ·rw[if_neg ek,List.getElem?_append_left (by omega)];exact e5 k (by omega)
      ·dsimp only
       rw[List.getElem?_set,if_neg (by omega)];exact e6 k (by omega)
    ·rw[if_neg cj]
     have ej:j=l.length:=by omega
     rw[ej,List.take_length] at e4 e5
     exact .inr ⟨_,rfl,e3,by dsimp only;omega,by omega,fun k hk=>e5 k (by omega)⟩)
   obtain⟨k2,k3,k4,k5⟩:=k2
   dsimp only at k2 k3 k4 k5
   subst k3
   rw[k1]
   simp only[oB]
   generalize hFl:l.filter p=F at *
   have hlen:(clrL c (0+(F.length:Int)) ((c.length:Int) - F.length) []).length=c.length:=by
    unfold clrL
    simp only[List.length_append,List.length_take,List.length_replicate,List.length_drop]
    omega
   rw[show cutV (c.length:Int) (F.length:Int) (c.length:Int)=some () by unfold cutV;rw[if_pos (by omega)],hlen,show cutV (c.length:Int) 0 (F.length:Int)=some () by unfold cutV;rw[if_pos (by omega)]]
   simp only[oB]
   congr 1
   unfold r8 clrL
   rw[show(0+(F.length:Int)).toNat=F.length by omega,Int.toNat_natCast,Int.toNat_zero,List.drop_zero]
   apply List.ext_getElem?
   intro k
   rw[List.getElem?_take]
   by_cases ek:k<F.length
   ·rw[if_pos ek,List.append_assoc,List.getElem?_append_left (by rw[List.length_take];omega),List.getElem?_take,if_pos ek,k5 k ek]
   ·rw[if_neg ek,List.getElem?_eq_none (by omega)]
  ·cases h2
end
noncomputable def pnd(t:d5)(l:LL):LL:=l.filter fun a=> !dec (i9 t a)
theorem mem_pnd{t:d5}{l:LL}{s:Li}:s ∈ pnd t l↔s ∈ l∧¬ i9 t s:=by
 unfold pnd
 rw[List.mem_filter]
 by_cases c:i9 t s
 ·rw[l8 c];simp[c]
 ·rw[q6 c];simp[c]
theorem Ord.pnd{t:d5}{l:LL}(h:Ord l):Ord (pnd t l):=List.Pairwise.filter _ h
theorem pending_eq{t:d5}(ht:k8 t){l:LL}(hl:l.length≤1000000)(hs:∀s ∈ l,SetN s t.facts):E2 t l=some (pnd t l):=by
 have h:E2 t l=(delA (fun y=>H5 y t) l).bind fun a=>some a:=rfl
 rw[h,del_eq (g:=i9 t) hl fun a ha=>by
  have hset:=hs a ha
  unfold H5
  rw[U0 hset.1 ht.goal.1 (by have:=hset.len;have:=ht.n1;omega)]
  rfl]
 rfl
theorem aq9{t:d5}{l:LL}(hl:l.length≤1000000):X3 t l=some (pnd t l):=by
 unfold X3
 obtain⟨r,h1,h2⟩:=u7 (body:=V2 t l) (n:=(l.length:Int)) (s:=[]) (fun j c=>c=(l.take j.toNat).filter fun a=> !dec (i9 t a)) (by omega) (by simp) (fun j c j0 j1 e=>by
  obtain⟨J,rfl⟩:=Int.eq_ofNat_of_zero_le j0
  have hJ:J<l.length:=by omega
  rw[Int.toNat_natCast] at e
  have hx:ix l (J:Int)=some l[J]:=by rw[o8];exact List.getElem?_eq_getElem hJ
  have hc:c.length≤1000000:=by
   have:=List.length_filter_le (fun a=> !dec (i9 t a)) (l.take J)
   rw[List.length_take] at this
   rw[e];omega
  unfold V2
  simp only[hx,oB,ah7]
  rw[show((J:Int)+1).toNat=J+1 by omega,aq3 hJ,← e]
  by_cases cg:i9 t l[J]
  ·rw[l8 cg]
   exact⟨_,rfl,rfl⟩
  ·have ha:app 24 c [l[J]]=some (c++[l[J]]):=by unfold app;rw[if_pos (by simp;omega)]
   rw[q6 cg,ha]
   exact⟨_,rfl,rfl⟩)
 rw[h1]
 rw[Int.toNat_natCast,List.take_length] at h2
 rw[h2];rfl
end Ab
end
section
namespace Ab
open Go
section
variable {t:d5}{S:LL}{op:Nat→Int}{st:Nat→LL}{w:Nat→Li}
theorem sys_of(ht:k8 t)(ord:Ord S)(n5:S.length≤5)(set:∀s ∈ S,SetN s t.facts)(ng:∀s ∈ S,¬ i9 t s)(rng:∀i,i<S.length→0≤op i∧op i<t.operators.length)
  (cl:∀i s,S[i]? =some s→∀y ∈ sc t s (op i),i9 t y∨y ∈ S):∃st w,Sys t S op st w:=by
 have h:∀i:Nat,∃q:LL×Li,∀s,S[i]? =some s→Wok t s (op i) q.1 q.2:=fun i=>by
  by_cases hi:i<S.length
  ·obtain⟨a,b,h⟩:=results_ok ht (rng i hi).1 (rng i hi).2 (set S[i] (List.getElem_mem hi))
   exact⟨(a,b),fun s hs=>by rw[List.getElem?_eq_getElem hi] at hs;cases hs;exact h⟩
  ·exact⟨([],[]),fun s hs=>by rw[List.getElem?_eq_none (by omega)] at hs;cases hs⟩
 have hq:∀i s,S[i]? =some s→Wok t s (op i) (Classical.choose (h i)).1 (Classical.choose (h i)).2:=fun i=>Classical.choose_spec (h i)
 refine⟨fun i=>(Classical.choose (h i)).1,fun i=>(Classical.choose (h i)).2,ord,n5,set,ng,rng,hq,fun i hi y hy=> ?_⟩
 have hs:S[i]? =some S[i]:=List.getElem?_eq_getElem hi
 obtain⟨x,hx,e⟩:=((hq i _ hs).mem y).1 hy
 exact cl i _ hs y (List.mem_map.2 ⟨x,hx,e⟩)
structure Sol(t:d5)(S:LL)(op:Nat→Int)(st:Nat→LL)(w:Nat→Li)(sg:Int)(num:Nat→Nat)(den:Nat):Prop where
 s1:sg=1∨sg= -1
 d0:0<den
 d1:den≤254803968
 n1:∀i,i<S.length→num i≤63700992000
 dd:det S.length (eqN t S op st w)=sg * den
 nn:∀l,l<S.length→det S.length (rep (eqN t S op st w) l fun r=>eqN t S op st w r S.length)=sg * num l
 vf:Vf S.length (WF st w) (wG S st w) (cF t op) (fun i=>(num i:Int)) den
theorem solved(ht:k8 t)(h:Sys t S op st w)(hp:∀i,i<S.length→Px S.length (WF st w) (wG S st w) i){choose:Li→Option Int}(hch:∀i s,S[i]? =some s→choose s=some (op i)):
  ∃sg num den L N,Sol t S op st w sg num den∧forR 0 (S.length:Int) (D1 t S choose) []=some L∧w8 S L=some (N,sg * (den:Int))∧N.length=S.length∧∀i:Nat,i<S.length→ix N (i:Int)=some (sg * (num i:Int)):=by
 obtain⟨L,N,k1,k2,k3,k4,k5,k6⟩:=value_ok ht h hp hch
 have hM:=sys_ms ht h
 have hR:=sys_rb ht h
 have hn5:=h.n5
 generalize hD:det S.length (eqN t S op st w)=D at *
 have hD1:=det_top hR (Nat.le_refl _)
 rw[hD] at hD1
 have hD2:ab D≤254803968:=by
  refine Int.le_trans hD1 ?_
  have:∀n,n≤5→(48:Int) ^ n≤254803968:=by decide
  exact this _ hn5
 have hW:∀l,l<S.length→wtj N l=det S.length (rep (eqN t S op st w) l fun r=>eqN t S op st w r S.length):=fun l hl=>by unfold wtj;rw[k5 l hl];rfl
 have hN:∀l,l<S.length→ab (wtj N l)≤63700992000:=fun l hl=>by
  rw[hW l hl]
  obtain⟨m,hm⟩:∃m,S.length=m+1:=⟨S.length - 1,by omega⟩
  have:=hR.rep2 (c:=m) (i:=l) (by omega) (by omega)
  rw[hm] at this ⊢
  refine Int.le_trans this ?_
  have:∀n:Nat,n≤4→((n:Int)+1) * 2400 * 48 ^ n≤63700992000:=by decide
  exact this m (by omega)
 obtain⟨sg,den,e1,e2,e3⟩:∃(sg:Int) (den:Nat),(sg=1∨sg= -1)∧D=sg * (den:Int)∧0<den:=by
  by_cases c:0<D
  ·obtain⟨d,rfl⟩:=Int.eq_ofNat_of_zero_le (Int.le_of_lt c)
   exact⟨1,d,.inl rfl,by omega,by omega⟩
  ·obtain⟨d,hd⟩:=Int.eq_ofNat_of_zero_le (show 0≤ -D by omega)
   exact⟨-1,d,.inr rfl,by omega,by omega⟩
 have pos:∀l,l<S.length→0≤sg * wtj N l:=pos0 hM (b:=fun _=>0) hp (y:=fun k=>sg * wtj N k) fun r hr=>by
  have hx:smN S.length (fun k=>eqM S.length (WF st w) (wG S st w) (fun _=>0) r k * (sg * wtj N k))=sg * smN S.length (fun k=>eqN t S op st w r k * wtj N k):=by
   rw[← C4]
   exact k7 fun k hk=>by
    have:eqM S.length (WF st w) (wG S st w) (fun _=>0) r k=eqN t S op st w r k:=by
     unfold eqN eqM;rw[if_neg (show ¬ k=S.length by omega),if_neg (show ¬ k=S.length by omega)]
    rw[this];grind
  rw[hx,k6 r hr,e2]
  have hc:=(ht.at (h.rng r hr).1 (h.rng r hr).2).c0
  have h3:=hM.pos r hr
  have:0≤WF st w r * cF t op r:=Int.mul_nonneg (by omega) hc
  have e:sg * (sg * (den:Int) * (WF st w r * cF t op r))=(den:Int) * (WF st w r * cF t op r):=by
   rcases e1 with rfl|rfl<;>grind
  rw[e]
  exact Int.mul_nonneg (by omega) this
 have num:∀l,((sg * wtj N l).toNat:Int)=if l<S.length then sg * wtj N l else((sg * wtj N l).toNat:Int):=fun l=>by
  split
  ·rename_i hl;have:=pos l hl;omega
  ·rfl
 have hnum:∀l,l<S.length→((sg * wtj N l).toNat:Int)=sg * wtj N l:=fun l hl=>by have:=num l;rw[if_pos hl] at this;exact this
 have hback:∀l,l<S.length→wtj N l=sg * ((sg * wtj N l).toNat:Int):=fun l hl=>by
  rw[hnum l hl];rcases e1 with rfl|rfl<;>omega
 refine⟨sg,fun l=>(sg * wtj N l).toNat,den,L,N,⟨e1,e3,?_,fun i hi=> ?_,by rw[hD];exact e2,fun l hl=> ?_,?_,fun i hi=> ?_⟩,k1,by rw[k2,e2],k3,fun i hi=> ?_⟩
 ·have:=ab_le hD2
  rcases e1 with rfl|rfl<;>omega
 ·have h1:=ab_le (hN i hi)
  have h2:=hnum i hi
  rcases e1 with rfl|rfl<;>omega
 ·rw[← hW l hl];exact hback l hl
 ·omega
 ·have h1:=k6 i hi
  rw[eqM_sum (Nat.le_refl _) hi,e2] at h1
  unfold Qv
  have h2:smN S.length (fun k=>wG S st w i k * ((sg * wtj N k).toNat:Int))=sg * smN S.length (fun k=>wG S st w i k * wtj N k):=by
   rw[← C4]
   exact k7 fun k hk=>by rw[hnum k hk];grind
  rw[h2,hnum i hi]
  generalize smN S.length (fun k=>wG S st w i k * wtj N k)=A at *
  rcases e1 with rfl|rfl<;>grind
 ·rw[T7 (by omega),← hback i hi]
theorem report_eq{sg:Int}(hsg:sg=1∨sg= -1){a b:Nat}(ha:a≤4000000000000000000)(hb:b≤4000000000000000000)(hb0:0<b):
  N2 (sg * (a:Int)) (sg * (b:Int))=some (if(frN a b).num≤1000000000∧(frN a b).den≤1000000000 then(frN a b,⟨0,0⟩) else(⟨0,0⟩,⟨10, -2⟩)):=by
 have e:B9 (sg * (a:Int)) (sg * (b:Int))=B9 (a:Int) (b:Int):=by
  rcases hsg with rfl|rfl
  ·rw[Int.one_mul,Int.one_mul]
  ·rw[show -1 * (a:Int)= -(a:Int) by omega,show -1 * (b:Int)= -(b:Int) by omega,lowest_neg ha hb hb0]
 unfold N2
 rw[e,lowest_pos ha hb hb0]
 simp only[oB]
 by_cases c:(frN a b).num≤1000000000∧(frN a b).den≤1000000000
 ·rw[l8 c,if_pos c];rfl
 ·rw[q6 c,if_neg c];rfl
end
section
variable {t:d5}{p:List e9}
theorem pol_sys(ht:k8 t)(hp:G7 t p)(hk:∀s,Rch t p s→∃k,RkP t p k s){l:LL}(hv:Vis t p l)(h5:(pnd t l).length≤5):
  ∃st w,Sys t (pnd t l) (fun i=>chO p (((pnd t l)[i]?).getD [])) st w∧∀i,i<(pnd t l).length→Wy t (pnd t l) st i:=by
 have mem:∀s,s ∈ pnd t l→Rch t p s∧¬ i9 t s∧C0 p s:=fun s hs=>by
  obtain⟨h1,h2⟩:=mem_pnd.1 hs
  have h3:=(hv.mem s).1 h1
  obtain⟨k,hk⟩:=hk s h3
  refine⟨h3,h2,?_⟩
  cases k with
  |zero=>exact absurd hk h2
  |succ k=>exact(hk.resolve_left h2).1
 have hop:∀(i:Nat) s,(pnd t l)[i]? =some s→chO p (((pnd t l)[i]?).getD [])=chO p s:=fun i s hs=>by rw[hs];rfl
 obtain⟨st,w,h⟩:=sys_of (op:=fun i=>chO p (((pnd t l)[i]?).getD [])) ht hv.ord.pnd h5 (fun s hs=>(mem s hs).1.set ht) (fun s hs=>(mem s hs).2.1) (fun i hi=>by
  have hs:=List.getElem?_eq_getElem hi
  rw[hop i _ hs]
  exact(am0 hp (mem _ (List.getElem_mem hi)).2.2).1) (fun i s hs y hy=>by
  rw[hop i s hs] at hy
  obtain⟨m1,m2,m3⟩:=mem s (List.mem_of_getElem? hs)
  by_cases g:i9 t y
  ·exact .inl g
  ·exact .inr (mem_pnd.2 ⟨(hv.mem y).2 (.step m1 m2 m3 hy),g⟩))
 refine⟨st,w,h,?_⟩
 have key:∀(k:Nat) (i:Nat) (s:Li),(pnd t l)[i]? =some s→RkP t p k s→Wy t (pnd t l) st i:=fun k=>by
  induction k with
  |zero=>exact fun i s hs hk=>absurd hk (h.ng s (List.mem_of_getElem? hs))
  |succ k ih=>
   intro i s hs hk
   obtain⟨hi,_⟩:=lG.1 hs
   obtain⟨m1,m2,m3⟩:=mem s (List.mem_of_getElem? hs)
   obtain⟨_,y,hy,hk'⟩:=hk.resolve_left m2
   have hys:y ∈ st i:=((h.res i s hs).mem y).2 (by
    rw[hop i s hs]
    obtain⟨x,hx,e⟩:=List.mem_map.1 hy
    exact⟨x,hx,e⟩)
   by_cases g:i9 t y
   ·exact .exit hi hys g
   ·obtain⟨j,hj,e⟩:=List.getElem_of_mem (mem_pnd.2 ⟨(hv.mem y).2 (.step m1 m2 m3 hy),g⟩:y ∈ pnd t l)
    have hj':(pnd t l)[j]? =some y:=by rw[List.getElem?_eq_getElem hj,e]
    exact .step hi hj' hys (ih j y hj' hk')
 intro i hi
 have hs:=List.getElem?_eq_getElem hi
 obtain⟨k,hk⟩:=hk _ (mem _ (List.getElem_mem hi)).1
 exact key k i _ hs hk
theorem value_spec(t:d5)(p:List e9):∃f,D5 t p=some f∧
  ((f.code ≠ 0∧¬ (k8 t∧G7 t p)∧D9 t p=some (⟨0,0⟩,f))∨(f=⟨0,0⟩∧k8 t∧G7 t p∧
   (((¬ ∀s,Rch t p s→∃k,RkP t p k s)∧D9 t p=some (⟨0,0⟩,⟨15, -1⟩))∨((∀s,Rch t p s→∃k,RkP t p k s)∧∃l,Vis t p l∧
    ((5<(pnd t l).length∧D9 t p=some (⟨0,0⟩,⟨10, -7⟩))∨((pnd t l).length≤5∧((i9 t t.init∧D9 t p=some (⟨0,1⟩,⟨0,0⟩))∨(¬ i9 t t.init∧
     ∃st w sg num den,Sys t (pnd t l) (fun i=>chO p (((pnd t l)[i]?).getD [])) st w∧(∀i,i<(pnd t l).length→Wy t (pnd t l) st i)∧Sol t (pnd t l) (fun i=>chO p (((pnd t l)[i]?).getD [])) st w sg num den∧∃i0,(pnd t l)[i0]? =some t.init∧
      D9 t p=some (if(frN (num i0) den).num≤1000000000∧(frN (num i0) den).den≤1000000000 then(frN (num i0) den,⟨0,0⟩) else(⟨0,0⟩,⟨10, -2⟩)))))))))):=by
 obtain⟨f,e1,_,e3⟩:=policy_eq t p
 refine⟨f,e1,?_⟩
 rcases e3 with⟨rfl,ht,hp⟩|⟨hc,hno⟩
 ·refine .inr ⟨rfl,ht,hp,?_⟩
  have hn:=ht.n1
  unfold D9
  rw[e1,Option.bind_some,if_neg (by simp),holds_eq ht hp,Option.bind_some,y9]
  by_cases hk:∀s,Rch t p s→∃k,RkP t p k s
  ·rw[ifNN hk]
   refine .inr ⟨hk,?_⟩
   obtain⟨l,q1,q2⟩:=oVisited_eq ht hp
   refine⟨l,q2,?_⟩
   have hlen:=q2.len ht hp
   have hset:∀s ∈ l,SetN s t.facts:=fun s hs=>((q2.mem s).1 hs).set ht
   rw[q1,Option.bind_some,pending_eq ht (by omega) hset,Option.bind_some]
   by_cases c5:5<((pnd t l).length:Int)
   ·rw[if_pos c5]
    exact .inl ⟨by omega,rfl⟩
   ·rw[if_neg c5]
    refine .inr ⟨by omega,?_⟩
    rw[show k9 t.init t.goal=some (dec (i9 t t.init)) from U0 ht.init.1 ht.goal.1 (by have:=ht.init.len;omega)]
    simp only[oB]
    by_cases cg:i9 t t.init
    ·rw[ifP cg]
     exact .inl ⟨cg,rfl⟩
    ·rw[ifN cg]
     refine .inr ⟨cg,?_⟩
     obtain⟨st,w,h,hw⟩:=pol_sys ht hp hk q2 (by omega)
     have hmi:t.init ∈ pnd t l:=mem_pnd.2 ⟨(q2.mem _).2 .init,cg⟩
     obtain⟨i0,hi0,ei⟩:=List.getElem_of_mem hmi
     have hi:(pnd t l)[i0]? =some t.init:=by rw[List.getElem?_eq_getElem hi0,ei]
     obtain⟨sg,num,den,L,N,s1,s2,s3,s4,s5⟩:=solved ht h (fun i hi=>(hw i hi).px h) (choose:=fun s=>K8 s p) (fun i s hs=>by
      unfold K8
      rw[(ak7 hp s).1,hs];rfl)
     refine⟨st,w,sg,num,den,h,hw,s1,i0,hi,?_⟩
     have he:G8 t (pnd t l) p=some L:=by
      have:G8 t (pnd t l) p=(forR 0 ((pnd t l).length:Int) (D1 t (pnd t l) fun s=>K8 s p) []).bind fun a=>some a:=rfl
      rw[this,s2];rfl
     rw[he]
     simp only[oB,s3,find_eq h.ord (show(pnd t l).length≤500000 by omega) (show ix (pnd t l) (i0:Int)=some t.init by rw[o8,hi]),s5 i0 hi0]
     have hb1:=s1.n1 i0 hi0
     have hb2:=s1.d1
     rw[report_eq s1.s1 (by omega) (by omega) s1.d0]
     rfl
  ·rw[ifP hk]
   exact .inl ⟨hk,rfl⟩
 ·refine .inl ⟨hc,hno,?_⟩
  unfold D9
  rw[e1,Option.bind_some,if_pos (by simp[hc])]
end
end Ab
end
section
namespace Ab
open Go
def sN(S:LL)(i:Nat):Li:=(S[i]?).getD []
section
variable {t:d5}{S:LL}{op:Nat→Int}{st:Nat→LL}{w:Nat→Li}
end
end Ab
end
section
namespace Ab
open Go
structure VB(S:LL)(v:Li→Int)(den:Int)(l7:Li):Prop where
 d0:0<den
 d1:den≤254803968
 v0:∀s ∈ S,0≤v s∧v s≤63700992000
 get:∀(i:Nat) s,S[i]? =some s→ix l7 (i:Int)=some (v s)
section
variable {t:d5}{S:LL}{v:Li→Int}{den:Int}{l7:Li}
end
end Ab
end
section
namespace Ab
open Go
theorem sN_get{S:LL}{k:Nat}(h:k<S.length):S[k]? =some (sN S k):=by unfold sN;rw[List.getElem?_eq_getElem h];rfl
section
variable {t:d5}{S:LL}
end
end Ab
end
section
namespace Ab
open Go
section
variable {t:d5}{all:LL}
end
end Ab
end
section
namespace Ab
open Go
section
variable {t:d5}{all:LL}
end
end Ab
end
section
namespace Ab
open Go
theorem Y6:Q5=some true:=by kernel_rfl
end Ab
end
section
namespace Ab
open Go
theorem frac_fit{a b:Nat}:Y1 (⟨(frN a b).num,(frN a b).den⟩:m9)=some (dec (¬ ((frN a b).num≤1000000000∧(frN a b).den≤1000000000))):=by
 unfold Y1
 congr 1
 dsimp only
 by_cases c:(frN a b).num≤1000000000∧(frN a b).den≤1000000000
 ·rw[q6 (not_not_intro c)];simp;omega
 ·rw[l8 c];simp;omega
theorem ai8(t:d5)(p:List e9):C9 t p=some true:=by
 unfold C9
 obtain⟨e,e1,e3⟩:=value_spec t p
 obtain⟨e',e4,e2,_⟩:=policy_eq t p
 rw[e1] at e4
 cases e4
 rcases e3 with⟨hc,_,hv⟩|⟨rfl,ht,hp,h3⟩
 ·rw[hv,e2]
  simp[hc,Y6]
 ·rw[e2]
  rcases h3 with⟨hk,hv⟩|⟨hk,l,q1,h4⟩
  ·rw[hv,Option.bind_some,Option.bind_some,if_pos rfl,rKeeps_eq ht hp,q6 hk]
   simp[Y6,at_eq]
  ·have hlen:=q1.len ht hp
   obtain⟨l',q2,q3⟩:=rVisited_eq ht hp
   have el:l'=l:=q3.unique q1
   subst el
   rw[rKeeps_eq ht hp,l8 hk,q2]
   rcases h4 with⟨h5,hv⟩|⟨h5,h6⟩
   ·rw[hv]
    simp only[oB,if_true,aq9 (t:=t) (l:=l') (by omega)]
    simp[Y6,at_eq,show(5:Int)<((pnd t l').length:Int) by omega]
   ·rcases h6 with⟨hg,hv⟩|⟨hg,st,w,sg,num,den,s1,s2,s3,i0,s4,hv⟩
    ·rw[hv]
     simp only[oB,if_true,aq9 (t:=t) (l:=l') (by omega)]
     simp[Y6,ah7,l8 hg,Y1,show ¬ (5:Int)<((pnd t l').length:Int) by omega]
    ·have hi0:=(lG.1 s4).1
     obtain⟨ops,o1,o2,o3⟩:=u7 (body:=A8 p (pnd t l')) (n:=((pnd t l').length:Int)) (s:=([]:Li)) (fun j c=>(c.length:Int)=j∧∀(i:Nat),(i:Int)<j→c[i]? =some (chO p (((pnd t l')[i]?).getD []))) (by omega) ⟨rfl,fun i hi=>by omega⟩ (fun j c j0 j1 ⟨p1,p2⟩=>by
      obtain⟨J,rfl⟩:=Int.eq_ofNat_of_zero_le j0
      have hgJ:(pnd t l')[J]? =some (sN (pnd t l') J):=sN_get (by omega)
      have ha:∀b:Int,app 8 c [b]=some (c++[b]):=fun b=>by unfold app;rw[if_pos (by simp;omega)]
      unfold A8
      simp only[show ix (pnd t l') (J:Int)=some (sN (pnd t l') J) by rw[o8,hgJ],Option.bind_some,aq8,ha]
      refine⟨_,rfl,by rw[List.length_append,List.length_singleton];omega,fun i hi=> ?_⟩
      by_cases e:i=J
      ·subst e
       rw[List.getElem?_append_right (by omega),show i - c.length=0 by omega,hgJ];rfl
      ·rw[List.getElem?_append_left (by omega)];exact p2 i (by omega))
     obtain⟨N,n1,n2,n3⟩:=expected_ok ht s1 (ops:=ops) (fun i hi=>by rw[o8];exact o3 i (by omega))
     have hd0:=s3.d0;have hd1:=s3.d1;have hn1:=s3.n1 i0 hi0
     have hd:=s3.dd
     have hn:=s3.nn i0 hi0
     have hden:(if det (pnd t l').length (eqN t (pnd t l') (fun i=>chO p (((pnd t l')[i]?).getD [])) st w)<0 then - det (pnd t l').length (eqN t (pnd t l') (fun i=>chO p (((pnd t l')[i]?).getD [])) st w) else det (pnd t l').length (eqN t (pnd t l') (fun i=>chO p (((pnd t l')[i]?).getD [])) st w))=(den:Int):=by
      rw[hd]
      rcases s3.s1 with e|e<;>rw[e]<;>split<;>omega
     have hnum:ix N (i0:Int)=some (num i0:Int):=by
      rw[n3 i0 hi0,hn,hd]
      rcases s3.s1 with e|e<;>rw[e]<;>split<;>congr 1<;>omega
     rw[hden] at n2
     rw[hv]
     have hpl:=place_ord s1.ord (show ix (pnd t l') (i0:Int)=some t.init by rw[o8,s4])
     have hlow:=rLowest_eq (a:=num i0) (b:=den) (by omega) (by omega) hd0
     simp only[oB,if_true,Bool.not_true,Bool.false_eq_true,if_false,aq9 (t:=t) (l:=l') (by omega),if_neg (show ¬ (5:Int)<((pnd t l').length:Int) by omega),ah7,y9,ifP hg,o1,n2,hpl,hnum,hlow,frac_fit]
     by_cases cl:(frN (num i0) den).num≤1000000000∧(frN (num i0) den).den≤1000000000
     ·rw[if_pos cl,ifNN cl]
      simp[Y6]
     ·rw[if_neg cl,ifP cl]
      simp[Y6,at_eq]
end Ab
end
