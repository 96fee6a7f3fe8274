/-
  Texts that the proof stands on.
-/
import Derived.Test.YtfnfejfohioppaaGreatDoorKRwChLeast5
set_option linter.all false
section
namespace Ab
open Go
structure VB(S:LL)(v:Li→Int)(den:Int)(l7:Li):Prop where
 d0:0<den
 d1:den≤254803968
 v0:∀s ∈ S,0≤v s∧v s≤63700992000
 get:∀(i:Nat) s,S[i]? =some s→ix l7 (i:Int)=some (v s)
section
variable {t:b7}{S:LL}{v:Li→Int}{den:Int}{l7:Li}
theorem wtj_le{m:Nat}{w:Li}(h:∀j,0≤wtj w j){k:Nat}(hk:k<m):wtj w k≤smN m (wtj w):=by
 have:=X0 h (Nat.zero_le k) hk
 simpa[smN] using this
theorem Wok.nn{s:Li}{op:Int}{st:LL}{w:Li}(h:Wok t s op st w)(j:Nat):0≤wtj w j:=by
 by_cases e:j<st.length
 ·have:=h.pos j e;omega
 ·unfold wtj;rw[List.getElem?_eq_none (by rw[h.len];omega)];simp
theorem smN_bound{f w:Nat→Int}{B:Int}{m:Nat}(h:∀j,j<m→f j≤w j * B):smN m f≤smN m w * B:=by
 have h1:=T3 h
 have h2:smN m (fun j=>w j * B)=smN m w * B:=by
  rw[Int.mul_comm,← y5];exact l8 fun j _=>Int.mul_comm _ _
 omega
theorem ws_pos{s:Li}{op:Int}{st:LL}{w:Li}(ht:g9 t)(h0:0≤op∧op<t.operators.length)(h:Wok t s op st w):1≤WS t s op∧WS t s op≤24:=by
 obtain⟨e1,e2⟩:=h.rs
 unfold WS;rw[e1,e2]
 refine⟨?_,h.sum⟩
 have l0:=(ht.at h0.1 h0.2).l0
 have hm:efc t.facts s ((ooAt t op).outcomes[0]) ∈ st:=(h.mem _).2 ⟨_,List.getElem_mem (by omega),rfl⟩
 have hl:=List.length_pos_of_mem hm
 have h1:=h.pos 0 hl
 have:=wtj_le h.nn hl
 omega
def InS(t:b7)(S:LL)(s:Li)(op:Int):Prop:=∀y ∈ sc t s op,g8 t y∨y ∈ S
theorem cval_eq(ht:g9 t)(hS:StS t S)(hv:VB S v den l7){s:Li}(hs:SetN s t.facts){op:Int}(h0:0≤op∧op<t.operators.length)(l:Li):
  (InS t S s op∧B5 s op t S den l l7=some (QS t v den s op,WS t s op,true)∧0≤QS t v den s op∧QS t v den s op≤4000000000000)∨(¬ InS t S s op∧∃a b,B5 s op t S den l l7=some (a,b,false)):=by
 have hW:=rsO_ok ht h0 hs
 generalize hst:(rsO t s op).1=st at hW
 generalize hw:(rsO t s op).2=w at hW
 have hn5:=hS.n5
 have hd0:=hv.d0;have hd1:=hv.d1
 have hco:=ht.at h0.1 h0.2
 have hc0:=hco.c0;have hc1:=hco.c1
 have hsum:=hW.sum
 have hs4:=hW.s4
 have hmem:∀y,y ∈ st↔y ∈ sc t s op:=fun y=>by rw[hW.mem,sc,List.mem_map]
 have hvG:∀y,(g8 t y∨y ∈ S)→0≤vG t v y∧vG t v y≤63700992000:=fun y hy=>by
  unfold vG
  by_cases g:g8 t y
  ·rw[ifP g];omega
  ·rw[ifN g];exact hv.v0 _ (hy.resolve_left g)
 unfold B5
 rw[hW.eq,Option.bind_some]
 have hset:∀y ∈ st,SetN y t.facts:=fun y hy=>by
  obtain⟨x,_,rfl⟩:=(hW.mem y).1 hy
  exact ac2 _ _ _
 rcases Q9 (body:=F7 t S l7 (st,w)) (n:=(st.length:Int)) (s:=((0:Int),(0:Int)))
  (fun j q=>q.1=smN j.toNat (fun j=>wtj w j * vG t v ((st[j]?).getD []))∧q.2=smN j.toNat (wtj w)∧∀(k:Nat) y,(k:Int)<j→st[k]? =some y→g8 t y∨y ∈ S) (fun o=>o.2.2=false∧∃y ∈ st,¬ (g8 t y∨y ∈ S)) (by omega) ⟨rfl,rfl,fun k y hk=>by omega⟩ (fun j q j0 j1 ⟨p1,p2,p3⟩=>by
   obtain⟨sum,all⟩:=q
   obtain⟨J,rfl⟩:=Int.eq_ofNat_of_zero_le j0
   have hJ:J<st.length:=by omega
   dsimp only at p1 p2
   rw[Int.toNat_natCast] at p1 p2
   have hgJ:st[J]? =some st[J]:=List.getElem?_eq_getElem hJ
   have hx:ix st (J:Int)=some st[J]:=by rw[o7];exact hgJ
   have hwJ:=af8 (w:=w) (i:=J) (by rw[hW.len];exact hJ)
   have hw1:=hW.pos J hJ
   have hw2:=wtj_le hW.nn hJ
   have sJ:=hset _ (List.getElem_mem hJ)
   have hcon:k9 st[J] t.goal=some (dec (g8 t st[J])):=G0 sJ.1 ht.goal.1 (by have:=sJ.len;have:=ht.n1;omega)
   have a1:smN (J+1) (wtj w)=smN J (wtj w)+wtj w J:=rfl
   have a2:=Q8 (f:=wtj w) hW.nn (show J+1≤st.length by omega)
   have a3:0≤smN J (wtj w):=U3 fun j _=>hW.nn j
   have b1:smN (J+1) (fun j=>wtj w j * vG t v ((st[j]?).getD []))=smN J (fun j=>wtj w j * vG t v ((st[j]?).getD []))+wtj w J * vG t v st[J]:=by
    show _+wtj w J * vG t v ((st[J]?).getD [])=_
    rw[hgJ];rfl
   have hq:∀k,k<J→0≤wtj w k * vG t v ((st[k]?).getD [])∧wtj w k * vG t v ((st[k]?).getD [])≤wtj w k * 63700992000:=fun k hk=>by
    have e:st[k]? =some st[k]:=List.getElem?_eq_getElem (by omega)
    have:=hvG _ (p3 k st[k] (by omega) e)
    rw[e]
    exact⟨Int.mul_nonneg (hW.nn k) this.1,Int.mul_le_mul_of_nonneg_left this.2 (hW.nn k)⟩
   have b2:0≤smN J fun j=>wtj w j * vG t v ((st[j]?).getD []):=U3 fun k hk=>(hq k hk).1
   have b3:=smN_bound (m:=J) fun k hk=>(hq k hk).2
   have f1:w64 (all+wtj w J)=smN (J+1) (wtj w):=by rw[l9 (by omega) (by omega),p2,a1]
   have nx:∀(y:Li),(g8 t st[J]∨st[J] ∈ S)→∀(k:Nat) y,(k:Int)<(J:Int)+1→st[k]? =some y→g8 t y∨y ∈ S:=fun _ h k y hk hy=>by
    by_cases e:k=J
    ·subst e;rw[hgJ] at hy;cases hy;exact h
    ·exact p3 k y (by omega) hy
   unfold F7
   simp only[hx,hwJ,hcon,oB]
   by_cases cg:g8 t st[J]
   ·rw[ifP cg]
    unfold y4
    refine .inl ⟨_,rfl,?_,?_,nx [] (.inl cg)⟩
    ·rw[show((J:Int)+1).toNat=J+1 by omega,b1,p1]
     unfold vG;rw[ifP cg,Int.mul_zero,Int.add_zero]
    ·rw[show((J:Int)+1).toNat=J+1 by omega];exact f1
   ·rw[ifN cg]
    obtain⟨i,i1,i2,i3⟩:=ac8 (t:=st[J]) hS.ord (by omega)
    rw[i1]
    simp only[oB,w6]
    by_cases cs:st[J] ∈ S
    ·rw[ifNN cs]
     obtain⟨m,m0,m1,hm⟩:=m7 cs
     have em:=i3 m hm
     subst em
     obtain⟨M,rfl⟩:=Int.eq_ofNat_of_zero_le m0
     rw[o7] at hm
     have hvv:=hv.get M _ hm
     have hvb:=hv.v0 _ cs
     have e1:vG t v st[J]=v st[J]:=by unfold vG;rw[ifN cg]
     have c1:0≤wtj w J * v st[J]:=Int.mul_nonneg (by omega) hvb.1
     have c2:wtj w J * v st[J]≤wtj w J * 63700992000:=Int.mul_le_mul_of_nonneg_left hvb.2 (by omega)
     have f2:w64 (wtj w J * v st[J])=wtj w J * v st[J]:=l9 (by omega) (by omega)
     have f3:w64 (sum+wtj w J * v st[J])=sum+wtj w J * v st[J]:=l9 (by omega) (by omega)
     simp only[hvv,oB,f2,f3]
     unfold y4
     refine .inl ⟨_,rfl,?_,?_,nx [] (.inr cs)⟩
     ·rw[show((J:Int)+1).toNat=J+1 by omega,b1,p1,e1]
     ·rw[show((J:Int)+1).toNat=J+1 by omega];exact f1
    ·rw[ifP cs]
     exact .inr ⟨_,rfl,rfl,_,List.getElem_mem hJ,fun h=>h.elim cg cs⟩) with⟨⟨sum,all⟩,r1,r2,r3,r4⟩|⟨⟨a,b,c⟩,r1,r2,y,hy,r3⟩
 ·left
  dsimp only at r2 r3
  rw[Int.toNat_natCast] at r2 r3
  have hin:InS t S s op:=fun y hy=>by
   obtain⟨k,hk⟩:=List.getElem?_of_mem ((hmem y).2 hy)
   exact r4 k y (by have:=(lG.1 hk).1;omega) hk
  have hq:∀k,k<st.length→0≤wtj w k * vG t v ((st[k]?).getD [])∧wtj w k * vG t v ((st[k]?).getD [])≤wtj w k * 63700992000:=fun k hk=>by
   have e:st[k]? =some st[k]:=List.getElem?_eq_getElem (by omega)
   have:=hvG _ (r4 k st[k] (by omega) e)
   rw[e]
   exact⟨Int.mul_nonneg (hW.nn k) this.1,Int.mul_le_mul_of_nonneg_left this.2 (hW.nn k)⟩
  have b2:0≤smN st.length fun j=>wtj w j * vG t v ((st[j]?).getD []):=U3 fun k hk=>(hq k hk).1
  have b3:=smN_bound (m:=st.length) fun k hk=>(hq k hk).2
  have hws:=ws_pos ht h0 hW
  have eW:WS t s op=smN st.length (wtj w):=by unfold WS;rw[hst,hw]
  have eC:CS t v s op=smN st.length fun j=>wtj w j * vG t v ((st[j]?).getD []):=by unfold CS;rw[hst,hw]
  rw[← eW] at r3 b3
  rw[← eC] at r2 b2 b3
  subst r2 r3
  have d1:0≤WS t s op * (ooAt t op).cost:=Int.mul_nonneg (by omega) hc0
  have d2:WS t s op * (ooAt t op).cost≤2400:=by
   have:=Int.mul_le_mul hws.2 hc1 hc0 (by omega:(0:Int)≤24)
   omega
  have d3:0≤WS t s op * (ooAt t op).cost * den:=Int.mul_nonneg d1 (by omega)
  have d4:WS t s op * (ooAt t op).cost * den≤2400 * 254803968:=Int.mul_le_mul d2 hd1 (by omega) (by omega)
  have g1:w64 (WS t s op * (ooAt t op).cost)=WS t s op * (ooAt t op).cost:=l9 (by omega) (by omega)
  have g2:w64 (WS t s op * (ooAt t op).cost * den)=WS t s op * (ooAt t op).cost * den:=l9 (by omega) (by omega)
  have g3:w64 (CS t v s op+WS t s op * (ooAt t op).cost * den)=CS t v s op+WS t s op * (ooAt t op).cost * den:=l9 (by omega) (by omega)
  rw[r1]
  simp only[oB,ix_oo h0.1 h0.2,g1,g2,g3]
  refine⟨hin,rfl,?_,?_⟩<;>unfold QS<;>omega
 ·right
  dsimp only at r2
  subst r2
  rw[r1]
  exact⟨fun h=>r3 (h y ((hmem y).1 hy)),a,b,rfl⟩
def Bst(t:b7)(S:LL)(v:Li→Int)(den:Int)(s:Li)(f:Int):Prop:=
 Alw t S s f∧(∀op,Alw t S s op→QS t v den s f * WS t s op≤QS t v den s op * WS t s f)∧∀op,op<f→Alw t S s op→QS t v den s f * WS t s op<QS t v den s op * WS t s f
theorem frac_lt{a b c d e f:Int}(hd:0<d)(hb:0<b)(hf:0<f)(h1:a * d<c * b)(h2:c * f≤e * d):a * f<e * b:=by
 have k1:a * d * f<c * b * f:=Int.mul_lt_mul_of_pos_right h1 hf
 have k2:c * f * b≤e * d * b:=Int.mul_le_mul_of_nonneg_right h2 (by omega)
 have k3:(a * f) * d<(e * b) * d:=by
  have e1:(a * f) * d=a * d * f:=by grind
  have e2:(e * b) * d=e * d * b:=by grind
  have e3:c * f * b=c * b * f:=by grind
  omega
 exact Int.lt_of_mul_lt_mul_right k3 (by omega)
theorem frac_le{a b c d e f:Int}(hd:0<d)(hb:0<b)(hf:0<f)(h1:a * d≤c * b)(h2:c * f≤e * d):a * f≤e * b:=by
 have k1:a * d * f≤c * b * f:=Int.mul_le_mul_of_nonneg_right h1 (by omega)
 have k2:c * f * b≤e * d * b:=Int.mul_le_mul_of_nonneg_right h2 (by omega)
 have k3:(a * f) * d≤(e * b) * d:=by
  have e1:(a * f) * d=a * d * f:=by grind
  have e2:(e * b) * d=e * d * b:=by grind
  have e3:c * f * b=c * b * f:=by grind
  omega
 exact Int.le_of_mul_le_mul_right k3 hd
theorem imp2(ht:g9 t)(hS:StS t S)(hv:VB S v den l7){s:Li}(hs:SetN s t.facts)(he:∃op,Alw t S s op)(l:Li):
  ∃f,forR 0 (t.operators.length:Int) (A5 t S den l l7 s) (-1,0,1)=some (f,QS t v den s f,WS t s f)∧Bst t S v den s f∧(0≤QS t v den s f∧QS t v den s f≤4000000000000)∧1≤WS t s f∧WS t s f≤24:=by
 obtain⟨⟨f,a,w⟩,k1,k2⟩:=s8 (body:=A5 t S den l l7 s) (n:=(t.operators.length:Int)) (s:=((-1:Int),(0:Int),(1:Int)))
  (fun j q=>(q=(-1,0,1)∧∀op,op<j→¬ Alw t S s op)∨∃f,q=(f,QS t v den s f,WS t s f)∧f<j∧Alw t S s f∧(0≤QS t v den s f∧QS t v den s f≤4000000000000)∧(1≤WS t s f∧WS t s f≤24)∧(∀op,op<j→Alw t S s op→QS t v den s f * WS t s op≤QS t v den s op * WS t s f)∧∀op,op<f→Alw t S s op→QS t v den s f * WS t s op<QS t v den s op * WS t s f) (by omega)
  (.inl ⟨rfl,fun op h hA=>by have:=hA.1.1;omega⟩) (fun j q j0 j1 hq=>by
   have hW:=rsO_ok ht ⟨j0,j1⟩ hs
   have hw:=ws_pos ht ⟨j0,j1⟩ hW
   have lift:∀{P:Int→Prop},(∀op,op<j→P op)→P j→∀op,op<j+1→P op:=fun h1 h2 op hop=>by
    by_cases e:op=j
    ·subst e;exact h2
    ·exact h1 op (by omega)
   unfold A5
   obtain⟨f,a,w⟩:=q
   simp only[ah0 ht j0 j1 hs,oB,w6]
   have stay:¬ Alw t S s j→(((f,a,w)=((-1:Int),(0:Int),(1:Int))∧∀op,op<j+1→¬ Alw t S s op)∨∃f',(f,a,w)=(f',QS t v den s f',WS t s f')∧f'<j+1∧Alw t S s f'∧(0≤QS t v den s f'∧QS t v den s f'≤4000000000000)∧(1≤WS t s f'∧WS t s f'≤24)∧(∀op,op<j+1→Alw t S s op→QS t v den s f' * WS t s op≤QS t v den s op * WS t s f')∧∀op,op<f'→Alw t S s op→QS t v den s f' * WS t s op<QS t v den s op * WS t s f'):=fun hn=>by
    rcases hq with⟨e,h⟩|⟨f',e,h1,h2,h3,h4,h5,h6⟩
    ·exact .inl ⟨e,lift h hn⟩
    ·exact .inr ⟨f',e,by omega,h2,h3,h4,lift h5 fun h=>absurd h hn,h6⟩
   by_cases cc:oCan t s j
   ·rw[ifNN cc]
    rcases cval_eq ht hS hv hs ⟨j0,j1⟩ l with⟨c1,c2,c3,c4⟩|⟨c1,a',b',c2⟩
    ·have hA:Alw t S s j:=⟨⟨j0,j1⟩,cc,c1⟩
     rw[c2]
     simp only[oB,Bool.true_and]
     rcases hq with⟨e,h⟩|⟨f',e,h1,h2,h3,h4,h5,h6⟩
     ·cases e
      rw[if_pos (by simp)]
      exact⟨_,rfl,.inr ⟨j,rfl,by omega,hA,⟨c3,c4⟩,hw,lift (fun op hop hO=>absurd hO (h op hop)) fun _=>Int.le_refl _,fun op hop hO=>absurd hO (h op hop)⟩⟩
     ·cases e
      have hf0:=h2.1.1
      have p1:0≤QS t v den s j * WS t s f:=Int.mul_nonneg c3 (by omega)
      have p2:QS t v den s j * WS t s f≤4000000000000 * 24:=Int.mul_le_mul c4 h4.2 (by omega) (by omega)
      have p3:0≤QS t v den s f * WS t s j:=Int.mul_nonneg h3.1 (by omega)
      have p4:QS t v den s f * WS t s j≤4000000000000 * 24:=Int.mul_le_mul h3.2 hw.2 (by omega) (by omega)
      rw[l9 (by omega) (by omega),l9 (by omega) (by omega)]
      by_cases cl:QS t v den s j * WS t s f<QS t v den s f * WS t s j
      ·rw[if_pos (by simp[cl])]
       refine⟨_,rfl,.inr ⟨j,rfl,by omega,hA,⟨c3,c4⟩,hw,lift (fun op hop hO=> ?_) fun _=>Int.le_refl _,fun op hop hO=> ?_⟩⟩
       ·have:=ws_pos ht hO.1 (rsO_ok ht hO.1 hs)
        exact Int.le_of_lt (frac_lt (by omega) (by omega) (by omega) cl (h5 op hop hO))
       ·have:=ws_pos ht hO.1 (rsO_ok ht hO.1 hs)
        exact frac_lt (by omega) (by omega) (by omega) cl (h5 op hop hO)
      ·rw[if_neg (by simp[cl];omega)]
       refine⟨_,rfl,.inr ⟨f,rfl,by omega,h2,h3,h4,lift h5 fun _=>by omega,h6⟩⟩
    ·rw[c2]
     simp only[oB,Bool.false_and,Bool.false_eq_true,if_false]
     exact⟨_,rfl,stay fun h=>c1 h.2.2⟩
   ·rw[ifP cc]
    exact⟨_,rfl,stay fun h=>cc h.2.1⟩)
 rcases k2 with⟨_,h⟩|⟨f',e,h1,h2,h3,h4,h5,h6⟩
 ·obtain⟨op,ho⟩:=he
  exact absurd ho (h op ho.1.2)
 ·cases e
  exact⟨f,k1,⟨h2,fun op ho=>h5 op ho.1.2 ho,h6⟩,h3,h4⟩
theorem improve_eq(ht:g9 t)(hS:StS t S)(hv:VB S v den l7)(he:∀s ∈ S,∃op,Alw t S s op){l:Li}(hl:l.length=S.length):
  ∃l',C9 t S den l l7=some (l',dec (∃(i:Nat) (s:Li) (f:Int),S[i]? =some s∧l'[i]? =some f∧QS t v den s f<v s * WS t s f))∧l'.length=S.length∧∀(i:Nat) s,S[i]? =some s→∃f,l'[i]? =some f∧Bst t S v den s f:=by
 have hn5:=hS.n5
 unfold C9
 rw[ag0 (by omega),Option.bind_some]
 obtain⟨⟨l',b⟩,k1,k2,k3,k4⟩:=s8 (body:=E2 t S den l l7) (n:=(S.length:Int)) (s:=(l,false))
  (fun j q=>q.1.length=S.length∧(∀(i:Nat) s,(i:Int)<j→S[i]? =some s→∃f,q.1[i]? =some f∧Bst t S v den s f)∧(q.2=true↔∃(i:Nat) (s:Li) (f:Int),(i:Int)<j∧S[i]? =some s∧q.1[i]? =some f∧QS t v den s f<v s * WS t s f)) (by omega) ⟨hl,fun i s hi=>by omega,by simp;intro i hi;omega⟩ (fun j q j0 j1 ⟨p1,p2,p3⟩=>by
   obtain⟨c,b⟩:=q
   obtain⟨J,rfl⟩:=Int.eq_ofNat_of_zero_le j0
   have hJ:J<S.length:=by omega
   have hgJ:S[J]? =some S[J]:=List.getElem?_eq_getElem hJ
   dsimp only at p1 p2 p3
   obtain⟨f,f1,f2,f3,f4⟩:=imp2 ht hS hv (hS.set _ (List.getElem_mem hJ)) (he _ (List.getElem_mem hJ)) l
   have hvJ:=hv.get J _ hgJ
   have hvb:=hv.v0 _ (List.getElem_mem hJ)
   have hx:ix S (J:Int)=some S[J]:=by rw[o7];exact hgJ
   have hc:ix c (J:Int)=some c[J]:=by rw[o7];exact List.getElem?_eq_getElem (by omega)
   have g1:0≤v S[J] * WS t S[J] f:=Int.mul_nonneg hvb.1 (by omega)
   have g2:v S[J] * WS t S[J] f≤63700992000 * 24:=Int.mul_le_mul hvb.2 f4.2 (by omega) (by omega)
   have get:∀i:Nat,(c.set J f)[i]? =if i=J then some f else c[i]? :=fun i=>by
    rw[List.getElem?_set]
    by_cases e:J=i
    ·rw[if_pos e,if_pos e.symm,if_pos (by omega)]
    ·rw[if_neg e,if_neg (Ne.symm e)]
   have hb:∃b',(if b=true then some true else Option.bind (ix l7 (J:Int)) fun a80=>some (decide (QS t v den S[J] f<w64 (a80 * WS t S[J] f))))=some b'∧(b'=true↔b=true∨QS t v den S[J] f<v S[J] * WS t S[J] f):=by
    cases b with
    |true=>exact⟨true,rfl,by simp⟩
    |false=>
     rw[if_neg (by simp),hvJ,Option.bind_some,l9 (by omega) (by omega)]
     exact⟨_,rfl,by simp⟩
   obtain⟨b',hb1,hb2⟩:=hb
   unfold E2
   simp only[hx,oB,f1,hb1,hc,Int.toNat_natCast]
   refine⟨_,rfl,by dsimp only;rw[lS];exact p1,fun i s hi hs=> ?_,?_⟩
   ·dsimp only
    rw[get]
    by_cases e:i=J
    ·subst e
     rw[hgJ] at hs;cases hs
     exact⟨f,if_pos rfl,f2⟩
    ·rw[if_neg e];exact p2 i s (by omega) hs
   ·dsimp only
    rw[hb2,p3]
    constructor
    ·rintro (⟨i,s,f',q1,q2,q3,q4⟩|q)
     ·exact⟨i,s,f',by omega,q2,by rw[get,if_neg (by omega)];exact q3,q4⟩
     ·exact⟨J,S[J],f,by omega,hgJ,by rw[get,if_pos rfl],q⟩
    ·rintro ⟨i,s,f',q1,q2,q3,q4⟩
     rw[get] at q3
     by_cases e:i=J
     ·subst e
      rw[if_pos rfl] at q3
      rw[hgJ] at q2
      cases q2;cases q3
      exact .inr q4
     ·rw[if_neg e] at q3
      exact .inl ⟨i,s,f',by omega,q2,q3,q4⟩)
 rw[k1]
 dsimp only at k2 k3 k4
 refine⟨l',?_,k2,fun i s hs=>k3 i s (by have:=(lG.1 hs).1;omega) hs⟩
 simp only[oB]
 congr 2
 rw[bool_dec b]
 refine v7 ?_
 rw[k4]
 exact⟨fun⟨i,s,f,_,q2,q3,q4⟩=>⟨i,s,f,q2,q3,q4⟩,fun⟨i,s,f,q2,q3,q4⟩=>⟨i,s,f,by have:=(lG.1 q2).1;omega,q2,q3,q4⟩⟩
end
end Ab
end
section
namespace Ab
open Go
noncomputable def posS(S:LL)(s:Li):Nat:=@Classical.epsilon Nat ⟨0⟩ fun k=>S[k]? =some s
theorem posS_eq{S:LL}(ho:Ord S){k:Nat}{s:Li}(h:S[k]? =some s):posS S s=k:=by
 have e:S[posS S s]? =some s:=@Classical.epsilon_spec Nat (fun k=>S[k]? =some s) ⟨k,h⟩
 have a:ix S (posS S s:Int)=some s:=by rw[o7,e]
 have b:ix S (k:Int)=some s:=by rw[o7,h]
 have:=ho.inj a b
 omega
noncomputable def atS(S:LL)(num:Nat→Nat)(s:Li):Int:=num (posS S s)
theorem atS_eq{S:LL}(ho:Ord S){num:Nat→Nat}{k:Nat}{s:Li}(h:S[k]? =some s):atS S num s=num k:=by unfold atS;rw[posS_eq ho h]
theorem af0{S:LL}{k:Nat}(h:k<S.length):S[k]? =some (sN S k):=by unfold sN;rw[List.getElem?_eq_getElem h];rfl
def oL(l:Li)(i:Nat):Int:=(l[i]?).getD 0
theorem oL_eq{l:Li}{i:Nat}{f:Int}(h:l[i]? =some f):oL l i=f:=by unfold oL;rw[h];rfl
noncomputable def stL(t:b7)(S:LL)(l:Li)(i:Nat):LL:=(rsO t (sN S i) (oL l i)).1
noncomputable def wL(t:b7)(S:LL)(l:Li)(i:Nat):Li:=(rsO t (sN S i) (oL l i)).2
structure OkL(t:b7)(S:LL)(l:Li):Prop where
 len:l.length=S.length
 al:∀(i:Nat) s,S[i]? =some s→∃f,l[i]? =some f∧Alw t S s f
def PrL(t:b7)(S:LL)(l:Li):Prop:=∀i,i<S.length→Px S.length (WF (stL t S l) (wL t S l)) (wG S (stL t S l) (wL t S l)) i
noncomputable abbrev mxL(t:b7)(S:LL)(l:Li):Mtx:=eqN t S (oL l) (stL t S l) (wL t S l)
noncomputable def vD(t:b7)(S:LL)(l:Li):Int:=((det S.length (mxL t S l)).natAbs:Int)
noncomputable def vN(t:b7)(S:LL)(l:Li)(i:Nat):Int:=((det S.length (rep (mxL t S l) i fun r=>mxL t S l r S.length)).natAbs:Int)
def ltL(t:b7)(S:LL)(x y:Li):Prop:=0<vD t S x∧0<vD t S y∧(∀i,i<S.length→vN t S x i * vD t S y≤vN t S y i * vD t S x)∧∃i,i<S.length∧vN t S x i * vD t S y<vN t S y i * vD t S x
section
variable {t:b7}{S:LL}
theorem ltL_trans(x y z:Li)(h:ltL t S x y)(g:ltL t S y z):ltL t S x z:=by
 obtain⟨h1,h2,h3,i,hi,h4⟩:=h
 obtain⟨_,g2,g3,_⟩:=g
 exact⟨h1,g2,fun k hk=>frac_le h2 h1 g2 (h3 k hk) (g3 k hk),i,hi,frac_lt h2 h1 g2 h4 (g3 i hi)⟩
theorem ltL_irrefl(x:Li):¬ ltL t S x x:=fun⟨_,_,_,_,_,h⟩=>Int.lt_irrefl _ h
theorem OkL.sys(ht:g9 t)(hS:StS t S){l:Li}(h:OkL t S l):Sys t S (oL l) (stL t S l) (wL t S l):=sys_op ht hS fun i s hs=>by
 obtain⟨f,h1,h2⟩:=h.al i s hs
 rw[oL_eq h1];exact h2
theorem OkL.has{l:Li}(h:OkL t S l):∀s ∈ S,∃op,Alw t S s op:=fun s hs=>by
 obtain⟨i,hi⟩:=List.getElem?_of_mem hs
 obtain⟨f,_,h2⟩:=h.al i s hi
 exact⟨f,h2⟩
theorem OkL.mem{l:Li}(h:OkL t S l):l ∈ lists t.operators.length S.length:=mem_lists h.len fun x hx=>by
 obtain⟨i,hi⟩:=List.getElem?_of_mem hx
 have hl:i<S.length:=by have:=(lG.1 hi).1;have:=h.len;omega
 obtain⟨f,h1,h2⟩:=h.al i _ (af0 hl)
 rw[hi] at h1
 cases h1;exact h2.1
theorem Sol.vD{l:Li}{sg:Int}{num:Nat→Nat}{den:Nat}(h:Sol t S (oL l) (stL t S l) (wL t S l) sg num den):Ab.vD t S l=den∧∀i,i<S.length→Ab.vN t S l i=num i:=by
 have e1:=h.dd
 have e2:=h.nn
 unfold Ab.vD Ab.vN
 refine⟨?_,fun i hi=> ?_⟩
 ·rw[e1];rcases h.s1 with e|e<;>rw[e]<;>omega
 ·rw[e2 i hi];rcases h.s1 with e|e<;>rw[e]<;>omega
theorem signs{sg:Int}(hs:sg=1∨sg= -1){num:Nat→Nat}{den n:Nat}(hd:0<den)(hd1:den≤254803968)(hn:∀i,i<n→num i≤63700992000){N:Li}(hN:N.length=n)(hg:∀i:Nat,i<n→ix N (i:Int)=some (sg * (num i:Int))):
  ∃N',(if sg * (den:Int)<0 then(Option.bind (forR 0 (N.length:Int) S3 N) fun c21=>some (w64 (0 - sg * (den:Int)),c21)) else some (sg * (den:Int),N))=some ((den:Int),N')∧∀i:Nat,i<n→ix N' (i:Int)=some (num i:Int):=by
 rcases hs with rfl|rfl
 ·rw[if_neg (by omega)]
  exact⟨N,by rw[Int.one_mul],fun i hi=>by rw[hg i hi,Int.one_mul]⟩
 ·rw[if_pos (by omega),l9 (by omega) (by omega),show 0 - -1 * (den:Int)=den by omega]
  obtain⟨N',k1,k2,k3⟩:=s8 (body:=S3) (n:=(N.length:Int)) (s:=N)
   (fun j c=>c.length=n∧∀i:Nat,i<n→ix c (i:Int)=some (if(i:Int)<j then(num i:Int) else -1 * (num i:Int))) (by omega) ⟨hN,fun i hi=>by rw[if_neg (by omega)];exact hg i hi⟩ (fun j c j0 j1 ⟨p1,p2⟩=>by
    obtain⟨J,rfl⟩:=Int.eq_ofNat_of_zero_le j0
    have hJ:J<n:=by omega
    have e:=p2 J hJ
    rw[if_neg (by omega)] at e
    have b:=hn J hJ
    unfold S3
    simp only[e,oB]
    rw[l9 (by omega) (by omega)]
    refine⟨_,rfl,by rw[lS];exact p1,fun i hi=> ?_⟩
    rw[ix_put (by omega) (by omega) (by omega)]
    by_cases ei:(i:Int)=J
    ·rw[if_pos ei,if_pos (by omega)]
     have:i=J:=by omega
     subst this
     congr 1;omega
    ·rw[if_neg ei,p2 i hi]
     by_cases f:(i:Int)<J
     ·rw[if_pos f,if_pos (by omega)]
     ·rw[if_neg f,if_neg (by omega)])
  rw[k1]
  exact⟨N',rfl,fun i hi=>by rw[k3 i hi,if_pos (by omega)]⟩
theorem round_eq(ht:g9 t)(hcost:∀op:Int,0≤op∧op<t.operators.length→1≤(ooAt t op).cost)(hS:StS t S){l:Li}(hl:OkL t S l)(hp:PrL t S l)(c9:Int)(c11:Li):
  ∃den N l' b v,L4 t S (c9,l,c11,true)=some (.inl (den,l',N,b))∧VB S v den N∧OkL t S l'∧PrL t S l'∧
   (∀(i:Nat) s,S[i]? =some s→∃f,l'[i]? =some f∧Bst t S v den s f∧QS t v den s f≤v s * WS t s f∧(b=false→QS t v den s f=v s * WS t s f))∧(b=true→ltL t S l' l):=by
 have hn5:=hS.n5
 have h:=hl.sys ht hS
 have hfind:∀(i:Nat) s,S[i]? =some s→y8 S s=some (i:Int):=fun i s hs=>O6 hS.ord (by omega) (by rw[o7,hs])
 obtain⟨sg,num,den,L,N0,s1,s2,s3,s4,s5⟩:=solved ht h hp (choose:=fun s=>u3 s t S c9 l c11) (fun i s hs=>by
  obtain⟨f,f1,_⟩:=hl.al i s hs
  unfold u3
  rw[hfind i s hs,Option.bind_some,o7,f1,oL_eq f1];rfl)
 obtain⟨N,n1,n2⟩:=signs s1.s1 s1.d0 s1.d1 s1.n1 s4 s5
 have hd0:=s1.d0;have hd1:=s1.d1
 have hv:VB S (atS S num) den N:=⟨by omega,by omega,fun s hs=>by
  obtain⟨i,hi⟩:=List.getElem?_of_mem hs
  have:=s1.n1 i (lG.1 hi).1
  rw[atS_eq hS.ord hi];omega,fun i s hs=>by rw[atS_eq hS.ord hs];exact n2 i (lG.1 hs).1⟩
 obtain⟨l',i1,i2,i3⟩:=improve_eq ht hS hv hl.has hl.len
 generalize hbd:dec (∃(i:Nat) (s:Li) (f:Int),S[i]? =some s∧l'[i]? =some f∧QS t (atS S num) den s f<atS S num s * WS t s f)=b at i1
 have he:H0 t S t S c9 l c11=some L:=by
  have:H0 t S t S c9 l c11=(forR 0 (S.length:Int) (B6 t S fun s=>u3 s t S c9 l c11) []).bind fun a=>some a:=rfl
  rw[this,s2];rfl
 have hl':OkL t S l':=⟨i2,fun i s hs=>by
  obtain⟨f,f1,f2⟩:=i3 i s hs
  exact⟨f,f1,f2.1⟩⟩
 have h':=hl'.sys ht hS
 have hnv:∀k,k<S.length→((num k:Nat):Int)=atS S num (sN S k):=fun k hk=>(atS_eq hS.ord (af0 hk)).symm
 have old:∀(i:Nat) s,S[i]? =some s→QS t (atS S num) den s (oL l i)=WS t s (oL l i) * atS S num s:=fun i s hs=>by
  have hi:=(lG.1 hs).1
  rw[← h.qs hs (num:=fun k=>(num k:Int)) hnv,s1.vf.eq i hi,h.ws hs,atS_eq hS.ord hs]
 have wpos:∀s ∈ S,∀op,Alw t S s op→1≤WS t s op:=fun s hs op ho=>(ws_pos ht ho.1 (rsO_ok ht ho.1 (hS.set s hs))).1
 have better:∀(i:Nat) s f,S[i]? =some s→Bst t S (atS S num) den s f→QS t (atS S num) den s f≤atS S num s * WS t s f:=fun i s f hs hb=>by
  obtain⟨g,g1,g2⟩:=hl.al i s hs
  have e:=old i s hs
  rw[oL_eq g1] at e
  have h1:=hb.2.1 g g2
  rw[e] at h1
  have w1:=wpos s (List.mem_of_getElem? hs) g g2
  have e2:QS t (atS S num) den s f * WS t s g≤(atS S num s * WS t s f) * WS t s g:=by
   rw[show atS S num s * WS t s f * WS t s g=WS t s g * atS S num s * WS t s f by grind];exact h1
  exact Int.le_of_mul_le_mul_right e2 (by omega)
 have hq:∀i,i<S.length→Qv S.length (WF (stL t S l') (wL t S l')) (wG S (stL t S l') (wL t S l')) (cF t (oL l')) (fun k=>(num k:Int)) den i≤WF (stL t S l') (wL t S l') i * (num i:Int):=fun i hi=>by
  obtain⟨f,f1,f2⟩:=i3 i _ (af0 hi)
  have:=better i _ f (af0 hi) f2
  rw[h'.qs (af0 hi) hnv,h'.ws (af0 hi),oL_eq f1,hnv i hi,Int.mul_comm]
  exact this
 have hp':PrL t S l':=proper_of (sys_ms ht h') (fun i hi=>hcost _ (h'.rng i hi)) (den:=(den:Int)) (by omega) hq
 refine⟨den,N,l',b,atS S num,?_,hv,hl',hp',fun i s hs=> ?_,fun hb=> ?_⟩
 ·unfold L4
  simp only[if_true,he,oB,s3,n1,i1]
 ·obtain⟨f,f1,f2⟩:=i3 i s hs
  have b1:=better i s f hs f2
  refine⟨f,f1,f2,b1,fun hb=> ?_⟩
  have:¬ QS t (atS S num) den s f<atS S num s * WS t s f:=fun hlt=>dec_false.1 (hbd.trans hb) ⟨i,s,f,hs,f1,hlt⟩
  omega
 ·obtain⟨i,s,f,q1,q2,q3⟩:=k8.1 (hbd.trans hb)
  have hi:=(lG.1 q1).1
  obtain⟨sg',num',den',_,_,u1,_⟩:=solved ht h' hp' (choose:=fun s=>some (oL l' (posS S s))) (fun i s hs=>by rw[posS_eq hS.ord hs])
  have key:=val_ge (sys_ms ht h') hp' u1.vf (den:=(den:Int)) (by omega) hq
  have d':=u1.d0
  obtain⟨a1,a2⟩:=s1.vD
  obtain⟨c1,c2⟩:=u1.vD
  refine⟨by rw[c1];omega,by rw[a1];omega,fun k hk=> ?_,i,hi,?_⟩
  ·rw[a1,c1,a2 k hk,c2 k hk,Int.mul_comm,Int.mul_comm (num k:Int)]
   exact(key k hk).1
  ·rw[a1,c1,a2 i hi,c2 i hi,Int.mul_comm,Int.mul_comm (num i:Int)]
   refine(key i hi).2 ?_
   rw[h'.qs q1 hnv,h'.ws q1,oL_eq q2]
   rw[atS_eq hS.ord q1] at q3
   rw[Int.mul_comm];exact q3
structure Fin(t:b7)(S:LL)(v:Li→Int)(den:Int)(l N:Li):Prop where
 vb:VB S v den N
 ok:OkL t S l
 pr:PrL t S l
 bst:∀(i:Nat) s,S[i]? =some s→∃f,l[i]? =some f∧Bst t S v den s f∧QS t v den s f=v s * WS t s f
theorem rounds_eq(ht:g9 t)(hcost:∀op:Int,0≤op∧op<t.operators.length→1≤(ooAt t op).cost)(hS:StS t S){l:Li}(hl:OkL t S l)(hp:PrL t S l)(c9:Int)(c11:Li):
  ∃den l' N v,Loop (L4 t S) (c9,l,c11,true)=some (den,l',N)∧Fin t S v den l' N:=by
 obtain⟨⟨den,l',N⟩,k1,v,k2⟩:=F1 (body:=L4 t S) (fun q=>OkL t S q.2.1∧PrL t S q.2.1∧(q.2.2.2=true∨∃v,Fin t S v q.1 q.2.1 q.2.2.1)) (fun o=>∃v,Fin t S v o.1 o.2.1 o.2.2)
  (fun q=>if q.2.2.2=true then rank (lists t.operators.length S.length) (ltL t S) q.2.1+1 else 0) (s:=(c9,l,c11,true)) ⟨hl,hp,.inl rfl⟩ (fun⟨c9,l,c11,a⟩ ⟨g1,g2,g3⟩=>by
   dsimp only at g1 g2 g3
   cases a with
   |true=>
    obtain⟨den,N,l',b,v,r1,r2,r3,r4,r5,r6⟩:=round_eq ht hcost hS g1 g2 c9 c11
    rw[r1]
    refine .inl ⟨_,rfl,⟨r3,r4,?_⟩,?_⟩
    ·cases b with
     |true=>exact .inl rfl
     |false=>exact .inr ⟨v,r2,r3,r4,fun i s hs=>by
       obtain⟨f,f1,f2,_,f3⟩:=r5 i s hs
       exact⟨f,f1,f2,f3 rfl⟩⟩
    ·dsimp only
     rw[if_pos rfl]
     cases b with
     |true=>
      rw[if_pos rfl]
      have:=rank_lt (L:=lists t.operators.length S.length) ltL_trans ltL_irrefl r3.mem (r6 rfl)
      omega
     |false=>rw[if_neg (by simp)];omega
   |false=>
    refine .inr ⟨(c9,l,c11),rfl,?_⟩
    rcases g3 with e|e
    ·cases e
    ·exact e)
 exact⟨den,l',N,v,k1,k2⟩
end
end Ab
end
section
namespace Ab
open Go
abbrev frT(t:b7)(s:Li):b7:=⟨t.facts,s,t.goal,t.operators⟩
section
variable {t:b7}{all:LL}
theorem frT_ok(ht:g9 t){s:Li}(hs:SetN s t.facts):g9 (frT t s):=⟨ht.n0,ht.n1,hs,ht.goal,ht.ops,ht.op⟩
structure CloS(t:b7)(all:LL):Prop where
 len:all.length≤2000
 init:t.init ∈ all
 sc:∀s ∈ all,∀op:Int,(0≤op∧op<t.operators.length)→oCan t s op→∀y ∈ sc t s op,y ∈ all
theorem ClO.fr(hc:ClO t all){s:Li}(hs:s ∈ all):CloS (frT t s) all:=⟨hc.len,hs,fun _ hx _ ho hcan _ hy=>hc.sc hx ho hcan hy⟩
theorem rin4(ht:g9 t)(hl:all.length≤2000){st:LL}{w:Li}(hst:∀y ∈ st,SetN y t.facts∧y ∈ all){l0:LL}{m0:List (ByteArray×Int)}(h0:Rc t l0 m0 (l0.map fun s=>(wsN s:Int)))(hn:l0.Nodup)(ha:∀y ∈ l0,y ∈ all):
  ∃p,rngX 0 (st.length:Int) (z2 (st,w)) (l0,m0)=some (.inl p)∧Rc t p.1 p.2 (p.1.map fun s=>(wsN s:Int))∧p.1.Nodup∧(∀y ∈ p.1,y ∈ all)∧Ext l0 p.1:=by
 have hf:=ht.n1
 rcases Q9 (body:=z2 (st,w)) (n:=(st.length:Int)) (s:=(l0,m0)) (fun _ p=>Rc t p.1 p.2 (p.1.map fun s=>(wsN s:Int))∧p.1.Nodup∧(∀y ∈ p.1,y ∈ all)∧Ext l0 p.1) (fun _=>False) (by omega) ⟨h0,hn,ha,.refl _⟩ (fun j ⟨l,m⟩ j0 j1 ⟨g1,g2,g3,g4⟩=>by
  dsimp only at g1 g2 g3 g4
  obtain⟨y,hy,_⟩:=i6 (l:=st) j0 j1
  obtain⟨hs,hya⟩:=hst y (i7 hy)
  have hyl:=hs.len
  unfold z2
  dsimp only
  rw[hy]
  simp only[oB]
  rw[ak9 (hs.small hf) (by omega)]
  simp only[oB]
  by_cases c:y ∈ l
  ·rw[if_pos ((g1.map y hs).2 c)]
   exact .inl ⟨_,rfl,g1,g2,g3,g4⟩
  ·rw[if_neg (fun h=>c ((g1.map y hs).1 h))]
   have n2:(l++[y]).Nodup:=List.nodup_append.2 ⟨g2,by simp,fun a ha b hb e=>c (by simp only[List.mem_singleton] at hb;rw[← hb,← e];exact ha)⟩
   have a2:∀z ∈ l++[y],z ∈ all:=fun z hz=>by
    rcases List.mem_append.1 hz with h|h
    ·exact g3 z h
    ·rw[List.mem_singleton.1 h];exact hya
   have hlen:=W6 n2 a2
   rw[List.length_append,List.length_singleton] at hlen
   rw[if_neg (by omega),app,if_pos (by simp;omega)]
   refine .inl ⟨_,rfl,?_,n2,a2,g4.snoc _⟩
   have:=g1.put hf hs (by omega)
   rw[List.map_append];exact this) with⟨p,h1,h2⟩|⟨_,_,h⟩
 ·exact⟨p,h1,h2⟩
 ·exact h.elim
theorem rin2(ht:g9 t)(hc:CloS t all){l0:LL}{m0:List (ByteArray×Int)}(h0:Rc t l0 m0 (l0.map fun s=>(wsN s:Int)))(hn:l0.Nodup)(ha:∀y ∈ l0,y ∈ all){at_:Int}{s:Li}(hs:ix l0 at_=some s):
  ∃p,rngX 0 (t.operators.length:Int) (B3 t at_) (l0,m0)=some (.inl p)∧Rc t p.1 p.2 (p.1.map fun s=>(wsN s:Int))∧p.1.Nodup∧(∀y ∈ p.1,y ∈ all)∧Ext l0 p.1:=by
 have hset:=h0.set s (i7 hs)
 rcases Q9 (body:=B3 t at_) (n:=(t.operators.length:Int)) (s:=(l0,m0)) (fun _ p=>Rc t p.1 p.2 (p.1.map fun s=>(wsN s:Int))∧p.1.Nodup∧(∀y ∈ p.1,y ∈ all)∧Ext l0 p.1) (fun _=>False) (by omega) ⟨h0,hn,ha,.refl _⟩ (fun j ⟨l,m⟩ j0 j1 ⟨g1,g2,g3,g4⟩=>by
  dsimp only at g1 g2 g3 g4
  unfold B3
  dsimp only
  rw[g4 _ _ hs]
  simp only[oB]
  rw[ah0 ht j0 j1 hset]
  simp only[oB,w6]
  by_cases c:oCan t s j
  ·rw[ifNN c]
   obtain⟨st,w,r1,r2,r3,_⟩:=D4 ht j0 j1 hset
   rw[r1]
   simp only[oB]
   obtain⟨p,h1,h2,h3,h4,h5⟩:=rin4 ht hc.len (st:=st) (w:=w) (fun y hy=>by
    obtain⟨x,hx,e⟩:=(r3 y).1 hy
    exact⟨e ▸ ac2 _ _ _,hc.sc s (ha s (i7 hs)) j ⟨j0,j1⟩ c y (List.mem_map.2 ⟨x,hx,e⟩)⟩) g1 g2 g3
   rw[h1]
   exact .inl ⟨p,rfl,h2,h3,h4,fun k y hk=>h5 k y (g4 k y hk)⟩
  ·rw[ifP c]
   exact .inl ⟨_,rfl,g1,g2,g3,g4⟩) with⟨p,h1,h2⟩|⟨_,_,h⟩
 ·exact⟨p,h1,h2⟩
 ·exact h.elim
theorem reach_in(ht:g9 t)(hc:CloS t all):∃out,A6 t=some (out,true)∧∀y ∈ out,y ∈ all:=by
 have hn:=ht.n1
 have hi:=ht.init
 have hil:=hi.len
 unfold A6
 rw[ag0 (by omega)]
 simp only[oB]
 rw[ak9 (hi.small hn) (by omega)]
 simp only[oB]
 have r0:Rc t [t.init] (mset ([]:List (ByteArray×Int)) (keyK [t.init]) 1) ([t.init].map fun s=>(wsN s:Int)):=by
  refine⟨by simpa using hi,by simp,fun s hs=> ?_,rfl⟩
  rw[X5]
  by_cases e:keyK [s]=keyK [t.init]
  ·rw[if_pos e,SetN.key_inj hn hs hi e];simp
  ·rw[if_neg e]
   simp only[mget,List.mem_singleton,Option.getD_none]
   exact⟨fun h=>by omega,fun h=>absurd (by rw[h]) e⟩
 obtain⟨o,q1,l,rfl,q3,q4⟩:=F1 (body:=y9 t) (fun p=>Rc t p.1 p.2.1 (p.1.map fun s=>(wsN s:Int))∧p.1.Nodup∧(∀y ∈ p.1,y ∈ all)∧0≤p.2.2∧p.2.2≤p.1.length) (fun o=>∃l,o=.inl l∧(∀y ∈ l,y ∈ all)∧l.length≤2000) (fun p=>(2000 - p.2.2).toNat) (s:=([t.init],mset ([]:List (ByteArray×Int)) (keyK [t.init]) 1,0)) ⟨r0,by simp,fun y hy=>by rw[List.mem_singleton.1 hy];exact hc.init,by simp,by simp⟩ (fun⟨l,m,a⟩ ⟨g1,g2,g3,g4,g5⟩=>by
  dsimp only at g1 g2 g3 g4 g5
  have hlen:=g1.len
  unfold y9
  dsimp only
  by_cases c:a<l.length
  ·rw[if_pos c]
   obtain⟨s,hs,_⟩:=i6 (l:=l) g4 c
   obtain⟨p,h1,h2,h3,h4,h5⟩:=rin2 ht hc g1 g2 g3 hs
   rw[h1]
   have:=h5.len
   simp only[oB]
   rw[l9 (by omega) (by omega)]
   exact .inl ⟨_,rfl,⟨h2,h3,h4,by dsimp only;omega,by dsimp only;omega⟩,by dsimp only;omega⟩
  ·rw[if_neg c]
   exact .inr ⟨_,rfl,l,rfl,g3,hlen⟩)
 rw[q1]
 simp only[oB]
 obtain⟨r,n1,n2,n3,n4⟩:=ai2 (l:=l) (by omega)
 rw[n1]
 exact⟨r,rfl,fun y hy=>q3 y ((n3 y).1 hy)⟩
theorem dsc_sub{t u:b7}{all alls:LL}(e1:u.facts=t.facts)(e2:u.goal=t.goal)(e3:u.operators=t.operators){f:Li→Int}
  (hcl:∀x ∈ alls,∀op:Int,(0≤op∧op<t.operators.length)→oCan t x op→∀y ∈ sc t x op,y ∈ alls):∀(k:Nat) (x:Li),x ∈ alls→DsC t (Sd all f) k x→DsC u (Sd alls f) k x:=by
 obtain⟨uf,ui,ug,uo⟩:=u
 obtain⟨tf,ti,tg,to⟩:=t
 dsimp only at e1 e2 e3
 subst e1 e2 e3
 intro k
 induction k with
 |zero=>exact fun x _ h=>h
 |succ k ih=>
  intro x hx h
  rcases h with h|⟨h0,op,h1,h2,h3,y,hy,h4⟩
  ·exact .inl h
  ·exact .inr ⟨⟨hx,h0.2⟩,op,h1,h2,fun z hz=>⟨hcl x hx op h1 h2 z hz,(h3 z hz).2⟩,y,hy,ih y (hcl x hx op h1 h2 y hy) h4⟩
theorem dsc_fr{s:Li}{S:Li→Prop}:∀(k:Nat) (x:Li),DsC (frT t s) S k x→DsC t S k x:=fun k=>by
 induction k with
 |zero=>exact fun x h=>h
 |succ k ih=>
  intro x h
  rcases h with h|⟨h0,op,h1,h2,h3,y,hy,h4⟩
  ·exact .inl h
  ·exact .inr ⟨h0,op,h1,h2,h3,y,hy,ih y h4⟩
theorem cert_sub(hc:ClO t all){f:Li→Int}(hf:I2 t all f){s:Li}{alls:LL}(hcs:ClO (frT t s) alls)(hsub:∀x ∈ alls,x ∈ all):I2 (frT t s) alls f:=by
 have up:∀(k:Nat) x,x ∈ alls→DsC t (Sd all f) k x→DsC (frT t s) (Sd alls f) k x:=dsc_sub (t:=t) (u:=frT t s) (all:=all) rfl rfl rfl fun x hx op h0 h1 y hy=>hcs.sc hx h0 h1 hy
 have down:∀(k:Nat) x,DsC (frT t s) (Sd alls f) k x→DsC t (Sd all f) k x:=fun k x h=>(dsc_fr k x h).sub fun z hz=>⟨hsub z hz.1,hz.2⟩
 refine⟨fun x hx=> ?_,fun T hT x hx=> ?_⟩
 ·rcases hf.val x (hsub x hx) with⟨e,h⟩|⟨k,e,h⟩
  ·exact .inl ⟨e,fun k hk=>h k (down k x hk)⟩
  ·exact .inr ⟨k,e,up k x hx h.1,fun j hj hd=>h.2 j hj (down j x hd)⟩
 ·refine hf.gr T (fun z hz=> ?_) x hx
  obtain⟨h1,k,h2⟩:=hT z hz
  exact⟨hsub z h1,k,dsc_fr k z h2⟩
theorem begin_eq(ht:g9 t)(hc:ClO t all)(h5:(pnd t all).length≤200){f:Li→Int}(hf:I2 t all f){s:Li}(hs:s ∈ all)(h0:0≤f s)(hg:¬ g8 t s):
  ∃p b,D3 (frT t s)=some (p,true,⟨0,0⟩)∧D5 p s=some b∧CycP t f s b:=by
 have hu:=frT_ok ht (hc.set hs)
 obtain⟨out,q1,q2⟩:=reach_in hu (hc.fr hs)
 rcases cpolicy_spec hu with⟨e,_⟩|⟨alls,v,g,r1,_,r3,r4,r5,r6⟩
 ·rw[q1] at e;cases e
 ·rw[q1] at r1
  cases r1
  have hcf:=cert_sub hc hf r3 q2
  have efg:=r5.unique hcf
  have hin:s ∈ out:=r3.cl.init
  rcases r6 with⟨e,_⟩|⟨ch,k1,k2,k3,k4⟩
  ·have:=efg s hin
   have e:g s= -1:=e
   omega
  ·rcases k4 with⟨_,l,l1,l2,l3⟩|⟨p,p1,p2,p3⟩
   ·have:=W6 l1 fun x hx=>(af9 (t:=t)).2 ⟨q2 x (k2 x (l2 x hx).1).1,(l2 x hx).2⟩
    omega
   ·have hri:RchC (frT t s) ch s:=.init
    have hng:¬ g8 (frT t s) s:=hg
    have hpol:=p2.pol hu k1 p3
    refine⟨p,ch s,p1,?_,?_⟩
    ·rw[(Y2 hpol s).1,p2.live hri hng]
    ·obtain⟨⟨⟨c1,c2⟩,c3,y,hy,c4⟩,_⟩:=k3 s hri hng
     have hsc:∀y ∈ sc t s (ch s),y ∈ out:=fun y hy=>r3.sc hin c1 c2 hy
     refine⟨⟨c1,c2⟩,fun y hy=> ?_,y,hy,?_⟩
     ·rw[← efg y (hsc y hy)];exact c3 y hy
     ·rw[← efg y (hsc y hy),← efg s hin];exact c4
noncomputable def cerS(t:b7)(all:LL)(f:Li→Int):LL:=pnd t (all.filter fun a=> !dec (f a<0))
theorem L5{f:Li→Int}{s:Li}:s ∈ cerS t all f↔(s ∈ all∧0≤f s)∧¬ g8 t s:=by
 unfold cerS
 rw[af9,List.mem_filter]
 by_cases c:f s<0
 ·rw[j7 c];simp;omega
 ·rw[m9 c];simp;omega
theorem cer_sts(hc:ClO t all)(h5:(pnd t all).length≤5)(f:Li→Int):StS t (cerS t all f):=by
 refine⟨Ord.pnd (List.Pairwise.filter _ hc.ord),?_,fun s hs=>hc.set (L5.1 hs).1.1,fun s hs=>(L5.1 hs).2⟩
 have:(cerS t all f).length≤(pnd t all).length:=(List.Sublist.filter _ List.filter_sublist).length_le
 omega
theorem cyc_alw(hc:ClO t all){f:Li→Int}{s:Li}(hs:s ∈ all){b:Int}(h:CycP t f s b):Alw t (cerS t all f) s b:=
 ⟨h.1.1,h.1.2,fun y hy=>by
  by_cases g:g8 t y
  ·exact .inl g
  ·exact .inr (L5.2 ⟨⟨hc.sc hs h.1.1 h.1.2 hy,h.2.1 y hy⟩,g⟩)⟩
theorem begin_all(ht:g9 t)(hc:ClO t all)(h5:(pnd t all).length≤5){f:Li→Int}(hf:I2 t all f):
  ∃l,forR 0 ((cerS t all f).length:Int) (T4 t (cerS t all f)) []=some l∧OkL t (cerS t all f) l∧PrL t (cerS t all f) l:=by
 have hS:=cer_sts hc h5 f
 have hn5:=hS.n5
 obtain⟨l,k1,k2,k3⟩:=s8 (body:=T4 t (cerS t all f)) (n:=((cerS t all f).length:Int)) (s:=([]:Li))
  (fun j c=>(c.length:Int)=j∧∀(i:Nat) s,(i:Int)<j→(cerS t all f)[i]? =some s→∃b,c[i]? =some b∧CycP t f s b) (by omega) ⟨rfl,fun i s hi=>by omega⟩ (fun j c j0 j1 ⟨p1,p2⟩=>by
   obtain⟨J,rfl⟩:=Int.eq_ofNat_of_zero_le j0
   have hJ:J<(cerS t all f).length:=by omega
   have hgJ:=af0 hJ
   have hm:=L5.1 (List.mem_of_getElem? hgJ)
   obtain⟨p,b,b1,b2,b3⟩:=begin_eq ht hc (by omega) hf hm.1.1 hm.1.2 hm.2
   have ha:app 8 c [b]=some (c++[b]):=by unfold app;rw[if_pos (by simp;omega)]
   unfold T4
   simp only[show ix (cerS t all f) (J:Int)=some (sN (cerS t all f) J) by rw[o7,hgJ],Option.bind_some,show D3 (⟨t.facts,sN (cerS t all f) J,t.goal,t.operators⟩:b7)=_ from b1,b2,ha]
   refine⟨_,rfl,by rw[List.length_append,List.length_singleton];omega,fun i s hi hs=> ?_⟩
   by_cases e:i=J
   ·subst e
    rw[hgJ] at hs;cases hs
    exact⟨b,by rw[List.getElem?_append_right (by omega),show i - c.length=0 by omega];rfl,b3⟩
   ·obtain⟨b',d1,d2⟩:=p2 i s (by omega) hs
    exact⟨b',by rw[List.getElem?_append_left (by omega),d1],d2⟩)
 have hk:∀(i:Nat) s,(cerS t all f)[i]? =some s→∃b,l[i]? =some b∧CycP t f s b:=fun i s hs=>k3 i s (by have:=(lG.1 hs).1;omega) hs
 have hok:OkL t (cerS t all f) l:=⟨by omega,fun i s hs=>by
  obtain⟨b,b1,b2⟩:=hk i s hs
  exact⟨b,b1,cyc_alw hc (L5.1 (List.mem_of_getElem? hs)).1.1 b2⟩⟩
 refine⟨l,k1,hok,?_⟩
 have h:=hok.sys ht hS
 have key:∀(k:Nat) (i:Nat) s,(cerS t all f)[i]? =some s→f s≤k→Wy t (cerS t all f) (stL t (cerS t all f) l) i:=fun k=>by
  induction k with
  |zero=>
   intro i s hs h0
   obtain⟨b,b1,_,b2,y,hy,e⟩:=hk i s hs
   have:=b2 y hy
   omega
  |succ k ih=>
   intro i s hs h0
   obtain⟨b,b1,b2⟩:=hk i s hs
   have b4:=b2
   obtain⟨_,b3,y,hy,e⟩:=b4
   have hi:=(lG.1 hs).1
   have hys:y ∈ stL t (cerS t all f) l i:=((h.res i s hs).mem y).2 (by
    rw[oL_eq b1]
    obtain⟨x,hx,e⟩:=List.mem_map.1 hy
    exact⟨x,hx,e⟩)
   by_cases g:g8 t y
   ·exact .exit hi hys g
   ·have hm:=(L5.1 (List.mem_of_getElem? hs)).1.1
    obtain⟨j,hj⟩:=List.getElem?_of_mem (((cyc_alw hc hm b2).2.2 y hy).resolve_left g)
    exact .step hi hj hys (ih j y hj (by omega))
 intro i hi
 have hs:=af0 hi
 have hm:=L5.1 (List.mem_of_getElem? hs)
 exact(key (f (sN (cerS t all f) i)).toNat i _ hs (by omega)).px h
end
end Ab
end
section
namespace Ab
open Go
section
variable {t:b7}{all:LL}
theorem cost0_eq{l:List f8}:m5 l O3=some (dec (∃o ∈ l,o.cost=0)):=by
 unfold m5 p8
 rcases y7 (body:=n9 l O3) (n:=(l.length:Int)) (fun j=>if dec (∃x,ix l j=some x∧x.cost=0)=true then some j else none) (by omega) (fun j h0 h1 _=>by
  obtain⟨x,hx,_⟩:=i6 (l:=l) h0 h1
  unfold n9 O3
  rw[hx]
  simp only[oB]
  by_cases e:x.cost=0
  ·rw[if_pos (by simp[e]),ifP ⟨x,rfl,e⟩]
  ·rw[if_neg (by simp[e]),ifN (by rintro ⟨y,hy,q⟩;cases hy;exact e q)]) with⟨h1,h2⟩|⟨j,o,h0,h1,h2,h3,h4⟩
 ·rw[h1]
  simp only[oB]
  rw[m9]
  ·rfl
  ·rintro ⟨o,ho,hz⟩
   obtain⟨i,i0,i1,hi⟩:=m7 ho
   have:=h2 i i0 i1
   rw[ifP ⟨o,hi,hz⟩] at this
   cases this
 ·rw[h4]
  split at h2
  ·rename_i e
   cases h2
   simp only[oB]
   obtain⟨x,hx,hz⟩:=k8.1 e
   rw[j7 ⟨x,i7 hx,hz⟩,decide_eq_true h0]
  ·cases h2
theorem certain_eq(hc:ClO t all){v:Li}{f:Li→Int}(hv:Rep all v f):A4 all all v=some (all.filter fun a=> !dec (f a<0)):=by
 have hlen:=hc.len
 have:A4 all all v=delA (fun y=>O7 y v all) all:=rfl
 rw[this]
 exact del_eq (g:=fun a=>f a<0) (by omega) fun a ha=>by
  obtain⟨i,hi,hvi⟩:=hv.of ha
  unfold O7
  rw[O6 hc.ord (by omega) hi,Option.bind_some,hvi,Option.bind_some,F0]
noncomputable def chL(S:LL)(l:Li)(s:Li):Int:=oL l (posS S s)
theorem chL_alw{S:LL}(ho:Ord S){l:Li}(h:OkL t S l){s:Li}(hs:s ∈ S):∃i:Nat,S[i]? =some s∧l[i]? =some (chL S l s)∧Alw t S s (chL S l s):=by
 obtain⟨i,hi⟩:=List.getElem?_of_mem hs
 obtain⟨f,h1,h2⟩:=h.al i s hi
 have:chL S l s=f:=by unfold chL;rw[posS_eq ho hi,oL_eq h1]
 rw[this]
 exact⟨i,hi,h1,h2⟩
theorem chL_in{S:LL}(hS:StS t S){l:Li}(h:OkL t S l)(hi:g8 t t.init∨t.init ∈ S){s:Li}(hs:RchC t (chL S l) s):g8 t s∨s ∈ S:=by
 induction hs with
 |init=>exact hi
 |@step s y _ hg hy ih=>
  obtain⟨_,_,_,h3⟩:=chL_alw hS.ord h (ih.resolve_left hg)
  exact h3.2.2 y hy
theorem chL_ok{S:LL}(hS:StS t S){l:Li}(h:OkL t S l)(hi:g8 t t.init∨t.init ∈ S):ChOk t (chL S l):=fun s hs hg=>by
 obtain⟨_,_,_,h3⟩:=chL_alw hS.ord h ((chL_in hS h hi hs).resolve_left hg)
 exact⟨h3.1,h3.2.1⟩
theorem buildL(ht:g9 t){S:LL}(hS:StS t S){l:Li}(h:OkL t S l)(hi:g8 t t.init∨t.init ∈ S)(den:Int)(N:Li):∃p,T1 t t S den l N=some (p,true)∧PolB t (chL S l) p∧p.length≤200:=by
 have hn5:=hS.n5
 have e:T1 t t S den l N=S4 t (fun s=>u3 s t S den l N):=rfl
 obtain⟨r,p1,p2⟩:=build_prog ht (chL_ok hS h hi) (choose:=fun s=>u3 s t S den l N) (fun s hs hg=>by
  obtain⟨i,h1,h2,h3⟩:=chL_alw hS.ord h ((chL_in hS h hi hs).resolve_left hg)
  unfold u3
  rw[O6 hS.ord (by omega) (show ix S (i:Int)=some s by rw[o7,h1]),Option.bind_some,o7,h2];rfl)
 rw[e,p1]
 rcases p2 with⟨_,q,q1,q2,q3⟩|⟨p,rfl,p2⟩
 ·have:=W6 q1 fun x hx=>(chL_in hS h hi (q2 x hx).1).resolve_left (q2 x hx).2
  omega
 ·exact⟨p,rfl,p2⟩
theorem best_spec(ht:g9 t):(A6 t=some ([],false)∧L7 t 2000=some ([],false)∧q7 t=some ([],⟨0,0⟩,false,⟨10, -7⟩))∨∃all v f,A6 t=some (all,true)∧L7 t 2000=some (all,true)∧ClO t all∧Rep all v f∧I2 t all f∧
  (((∃o ∈ t.operators,o.cost=0)∧q7 t=some ([],⟨0,0⟩,false,⟨3, -5⟩))∨((¬ ∃o ∈ t.operators,o.cost=0)∧
   ((5<(pnd t all).length∧q7 t=some ([],⟨0,0⟩,false,⟨10, -7⟩))∨((pnd t all).length≤5∧
    ((f t.init<0∧q7 t=some ([],⟨0,0⟩,false,⟨0,0⟩))∨(0≤f t.init∧
     ((g8 t t.init∧q7 t=some ([],⟨0,1⟩,true,⟨0,0⟩))∨(¬ g8 t t.init∧
      ∃(den:Int) (l N:Li) (v:Li→Int),Fin t (cerS t all f) v den l N∧
       ((¬ ((frN (v t.init).toNat den.toNat).num≤1000000000∧(frN (v t.init).toNat den.toNat).den≤1000000000)∧q7 t=some ([],⟨0,0⟩,false,⟨10, -2⟩))∨
        (((frN (v t.init).toNat den.toNat).num≤1000000000∧(frN (v t.init).toNat den.toNat).den≤1000000000)∧∃p,PolB t (chL (cerS t all f) l) p∧p.length≤200∧q7 t=some (p,frN (v t.init).toNat den.toNat,true,⟨0,0⟩))))))))))):=by
 have hn:=ht.n1
 unfold q7
 rw[explore_ok ht]
 rcases reach_full ht with⟨all,q1,q2,q3,q4,_⟩|⟨q1,q2⟩
 ·right
  have hc:ClO t all:=⟨q3,q4⟩
  have hlen:=hc.len
  obtain⟨v,f,r1,r2,r3⟩:=au3 ht hc
  obtain⟨i,hi,hvi⟩:=r2.of q3.init
  refine⟨all,v,f,q1,q2,hc,r2,r3,?_⟩
  rw[q1]
  simp only[oB,if_true]
  rw[if_neg (by simp),cost0_eq,Option.bind_some]
  by_cases cz:∃o ∈ t.operators,o.cost=0
  ·rw[ifP cz]
   exact .inl ⟨cz,rfl⟩
  ·rw[ifN cz]
   refine .inr ⟨cz,?_⟩
   have hcost:∀op:Int,0≤op∧op<t.operators.length→1≤(ooAt t op).cost:=fun op h=>by
    have h1:=(ht.at h.1 h.2).c0
    have h2:(ooAt t op).cost ≠ 0:=fun e=>cz ⟨_,i7 (ix_oo h.1 h.2),e⟩
    omega
   have hset:∀s ∈ all,SetN s t.facts:=fun s hs=>hc.set hs
   have hfl:(all.filter fun a=> !dec (f a<0)).length≤all.length:=List.length_filter_le _ _
   rw[r1,Option.bind_some,cloneLL_eq (by omega),Option.bind_some,certain_eq hc r2,Option.bind_some,ar7 ht (by omega) (fun s hs=>hset s (List.mem_filter.1 hs).1),Option.bind_some,Option.bind_some,ar7 ht (by omega) hset,Option.bind_some]
   by_cases c5:5<((pnd t all).length:Int)
   ·rw[if_pos c5]
    exact .inl ⟨by omega,rfl⟩
   ·rw[if_neg c5]
    have h5:(pnd t all).length≤5:=by omega
    refine .inr ⟨h5,?_⟩
    rw[O6 q4 (by omega) hi,Option.bind_some,hvi,Option.bind_some]
    by_cases cf:f t.init<0
    ·rw[if_pos cf]
     exact .inl ⟨cf,rfl⟩
    ·rw[if_neg cf]
     refine .inr ⟨by omega,?_⟩
     rw[show k9 t.init t.goal=some (dec (g8 t t.init)) from G0 ht.init.1 ht.goal.1 (by have:=ht.init.len;omega),Option.bind_some]
     by_cases cg:g8 t t.init
     ·rw[ifP cg]
      exact .inl ⟨cg,rfl⟩
     ·rw[ifN cg]
      refine .inr ⟨cg,?_⟩
      have hS:=cer_sts hc h5 f
      have hn5:=hS.n5
      obtain⟨l0,a1,a2,a3⟩:=begin_all ht hc h5 r3
      obtain⟨den,l,N,v,b1,b2⟩:=rounds_eq ht hcost hS a2 a3 0 []
      have hin:t.init ∈ cerS t all f:=L5.2 ⟨⟨q3.init,by omega⟩,cg⟩
      obtain⟨i0,hi0⟩:=List.getElem?_of_mem hin
      have hvb:=b2.vb.v0 _ hin
      have d0:=b2.vb.d0;have d1:=b2.vb.d1
      have hrep:=report_eq (sg:=1) (.inl rfl) (a:=(v t.init).toNat) (b:=den.toNat) (by omega) (by omega) (by omega)
      rw[Int.one_mul,Int.one_mul,show(((v t.init).toNat:Nat):Int)=v t.init by omega,show((den.toNat:Nat):Int)=den by omega] at hrep
      refine⟨den,l,N,v,b2,?_⟩
      rw[show pnd t (all.filter fun a=> !dec (f a<0))=cerS t all f from rfl,a1,Option.bind_some,b1]
      simp only[oB]
      rw[O6 hS.ord (by omega) (show ix (cerS t all f) (i0:Int)=some t.init by rw[o7,hi0]),Option.bind_some,b2.vb.get i0 _ hi0,Option.bind_some,hrep,Option.bind_some]
      by_cases ck:(frN (v t.init).toNat den.toNat).num≤1000000000∧(frN (v t.init).toNat den.toNat).den≤1000000000
      ·rw[if_pos ck]
       refine .inr ⟨ck,?_⟩
       obtain⟨p,e1,e2,e3⟩:=buildL ht hS b2.ok (.inr hin) den N
       refine⟨p,e2,e3,?_⟩
       rw[if_neg (by simp),e1]
       rfl
      ·rw[if_neg ck]
       exact .inl ⟨ck,rfl⟩
 ·left
  rw[q1]
  exact⟨rfl,q2,rfl⟩
theorem best_bad{f:j9}(hv:G6 t=some f)(hc:f.code ≠ 0):q7 t=some ([],⟨0,0⟩,false,f):=by
 unfold q7
 rw[explore_bad hv hc]
 simp only[oB]
 rw[if_pos (fault_no hc)]
end
end Ab
end
section
namespace Ab
open Go
theorem coin_rs:rsO r7 [] 0=([[],[0]],[2,1]):=by unfold rsO;rw[coin_resw];rfl
theorem ar1:B2=some true:=by
 have hb:q7 r7=some ([⟨[],0⟩],⟨3,1⟩,true,⟨0,0⟩):=by
  rcases best_spec coin_ok with⟨h,_⟩|⟨all,rv,f,h1,_,hc,hv,hr,hh⟩
  ·rw[coin_reach] at h;cases h
  ·rw[coin_reach] at h1;cases h1
   have h0:0≤f []:=by
    have post:PostF r7 [[],[0]] (fun s=>s ∈ ([[],[0]]:LL)):=fun s hs=>by
     refine⟨hs,1,?_⟩
     rcases List.mem_cons.1 hs with rfl|h
     ·exact .inr ⟨hs,0,⟨by decide,by decide⟩,fun x hx=>(by cases hx),fun y hy=>by
       rcases coin_sc0.1 hy with rfl|rfl<;>simp,[0],coin_sc0.2 (.inl rfl),coin_g1⟩
     ·rw[List.mem_singleton.1 h];exact .inl coin_g1
    exact hr.gr _ post [] (by simp)
   rcases hh with⟨⟨o,ho,hz⟩,_⟩|⟨_,hh⟩
   ·simp only[r7,List.mem_singleton] at ho
    subst ho;cases hz
   rcases hh with⟨h5,_⟩|⟨h5,hh⟩
   ·have:(pnd r7 [[],[0]]).length≤2:=List.length_filter_le _ _
    omega
   rcases hh with⟨hn,_⟩|⟨_,hh⟩
   ·have:f []<0:=hn
    omega
   rcases hh with⟨hg,_⟩|⟨_,den,l,N,v,hF,hh⟩
   ·exact absurd hg coin_g0
   have hin:[] ∈ cerS r7 [[],[0]] f:=L5.2 ⟨⟨by simp,h0⟩,coin_g0⟩
   obtain⟨i,hi⟩:=List.getElem?_of_mem hin
   obtain⟨b,b1,b2,b3⟩:=hF.bst i _ hi
   have b0:b=0:=by
    have h:=b2.1.1
    have:(r7.operators.length:Int)=1:=rfl
    omega
   subst b0
   have hd:=hF.vb.d0
   have hv0:=(hF.vb.v0 _ hin).1
   have eW:WS r7 [] 0=3:=by unfold WS;rw[coin_rs];rfl
   have eC:CS r7 v [] 0=2 * v []:=by
    unfold CS;rw[coin_rs]
    simp only[List.length_cons,List.length_nil,smN,wtj,List.getElem?_cons_zero,List.getElem?_cons_succ,Option.getD_some,vG]
    rw[ifN coin_g0,ifP coin_g1];omega
   have eV:v []=3 * den:=by
    unfold QS at b3
    rw[eW,eC,show(ooAt r7 0).cost=1 from rfl] at b3
    omega
   have eF:frN (v r7.init).toNat den.toNat=⟨3,1⟩:=by
    have:frN (v r7.init).toNat den.toNat=frN 3 1:=frN_eq (by omega) (by omega) (by
     have:v r7.init=3 * den:=eV
     omega)
    rw[this];rfl
   rcases hh with⟨hn,_⟩|⟨_,p,hp,hl,e⟩
   ·rw[eF] at hn
    exact absurd ⟨by decide,by decide⟩ hn
   ·have hS:=cer_sts hc h5 f
    have hk:=chL_ok hS hF.ok (.inr hin)
    have e2:=coin_polB hk (fun s hs=>by
     rcases chL_in hS hF.ok (.inr hin) hs with g|g
     ·induction hs with
      |init=>simp[r7]
      |@step s y hs hg hy ih=>
       rcases chL_in hS hF.ok (.inr hin) hs with g'|g'
       ·exact absurd g' hg
       ·obtain⟨_,_,_,h3⟩:=chL_alw hS.ord hF.ok g'
        exact hc.sc (L5.1 g').1.1 h3.1 h3.2.1 hy
     ·exact(L5.1 g).1.1) hp
    rw[e,e2,eF]
 unfold B2
 rw[show ao0=some r7 from rfl,Option.bind_some,hb]
 simp only[oB,if_true]
 rw[choices_self]
 rfl
end Ab
end
section
namespace Ab
open Go
theorem frN_le{a b c d:Nat}(hb:0<b)(hd:0<d)(h:a * d≤c * b):(frN a b).num * (frN c d).den≤(frN c d).num * (frN a b).den:=by
 have g0:0<Nat.gcd a b:=Nat.gcd_pos_of_pos_right a hb
 have g1:0<Nat.gcd c d:=Nat.gcd_pos_of_pos_right c hd
 obtain⟨a',ea⟩:=Nat.gcd_dvd_left a b
 obtain⟨b',eb⟩:=Nat.gcd_dvd_right a b
 obtain⟨c',ec⟩:=Nat.gcd_dvd_left c d
 obtain⟨d',ed⟩:=Nat.gcd_dvd_right c d
 have v1:a / Nat.gcd a b=a':=by rw (occs:=.pos [1]) [ea];exact Nat.mul_div_cancel_left _ g0
 have v2:b / Nat.gcd a b=b':=by rw (occs:=.pos [1]) [eb];exact Nat.mul_div_cancel_left _ g0
 have v3:c / Nat.gcd c d=c':=by rw (occs:=.pos [1]) [ec];exact Nat.mul_div_cancel_left _ g1
 have v4:d / Nat.gcd c d=d':=by rw (occs:=.pos [1]) [ed];exact Nat.mul_div_cancel_left _ g1
 unfold frN
 rw[v1,v2,v3,v4]
 have h1:(Nat.gcd a b * Nat.gcd c d) * (a' * d')≤(Nat.gcd a b * Nat.gcd c d) * (c' * b'):=by
  have e1:(Nat.gcd a b * Nat.gcd c d) * (a' * d')=a * d:=by
   have:(Nat.gcd a b * Nat.gcd c d) * (a' * d')=(Nat.gcd a b * a') * (Nat.gcd c d * d'):=by grind
   rw[this,← ea,← ed]
  have e2:(Nat.gcd a b * Nat.gcd c d) * (c' * b')=c * b:=by
   have:(Nat.gcd a b * Nat.gcd c d) * (c' * b')=(Nat.gcd c d * c') * (Nat.gcd a b * b'):=by grind
   rw[this,← ec,← eb]
  rw[e1,e2];exact h
 have h2:=Nat.le_of_mul_le_mul_left h1 (Nat.mul_pos g0 g1)
 show(a':Int) * (d':Int)≤(c':Int) * (b':Int)
 exact_mod_cast h2
theorem frN_pos(a b:Nat):0≤(frN a b).num∧0≤(frN a b).den:=by unfold frN;exact⟨Int.natCast_nonneg _,Int.natCast_nonneg _⟩
section
variable {t:b7}{p:List d8}{all:LL}
theorem vis_cer(hp:G3 t p)(hk:∀s,Rch t p s→∃k,RkP t p k s)(hc:ClO t all){f:Li→Int}(hf:I2 t all f){s:Li}(hs:Rch t p s):s ∈ all∧0≤f s:=by
 have post:PostF t all (Rch t p):=fun s hs=>by
  obtain⟨k,h⟩:=hk s hs
  exact⟨rch_all hp hc hs,k,rk_ds hp k s hs h⟩
 exact⟨rch_all hp hc hs,hf.gr _ post s hs⟩
theorem rk_live{k:Nat}{s:Li}(h:RkP t p k s)(hg:¬ g8 t s):J7 p s:=by
 cases k with
 |zero=>exact absurd h hg
 |succ k=>exact(h.resolve_left hg).1
theorem vis_alw(hp:G3 t p)(hk:∀s,Rch t p s→∃k,RkP t p k s)(hc:ClO t all){f:Li→Int}(hf:I2 t all f){s:Li}(hs:Rch t p s)(hg:¬ g8 t s):s ∈ cerS t all f∧Alw t (cerS t all f) s (chO p s):=by
 have h:=vis_cer hp hk hc hf hs
 obtain⟨k,hk'⟩:=hk s hs
 have hl:=rk_live hk' hg
 have ho:=ak8 hp hl
 refine⟨L5.2 ⟨h,hg⟩,ho.1,ho.2,fun y hy=> ?_⟩
 by_cases g:g8 t y
 ·exact .inl g
 ·exact .inr (L5.2 ⟨vis_cer hp hk hc hf (.step hs hg hl hy),g⟩)
theorem Fin.le(ht:g9 t){S:LL}(hS:StS t S){v:Li→Int}{den:Int}{l N:Li}(h:Fin t S v den l N){s:Li}(hs:s ∈ S){op:Int}(ho:Alw t S s op):v s * WS t s op≤QS t v den s op:=by
 obtain⟨i,hi⟩:=List.getElem?_of_mem hs
 obtain⟨f,_,f2,f3⟩:=h.bst i s hi
 have h1:=f2.2.1 op ho
 rw[f3] at h1
 have w1:=(ws_pos ht f2.1.1 (rsO_ok ht f2.1.1 (hS.set s hs))).1
 have e:(v s * WS t s op) * WS t s f≤QS t v den s op * WS t s f:=by
  rw[show v s * WS t s op * WS t s f=v s * WS t s f * WS t s op by grind];exact h1
 exact Int.le_of_mul_le_mul_right e (by omega)
end
theorem ao9(t:b7)(p:List d8):I4 t p=some true:=by
 unfold I4
 obtain⟨e,e1,e3⟩:=value_spec t p
 obtain⟨r,hr⟩:∃r,q7 t=some r:=by
  obtain⟨f,g1,_,g3⟩:=al9 t
  rcases g3 with⟨rfl,ht⟩|⟨hc,_⟩
  ·rcases best_spec ht with⟨_,_,h⟩|⟨all,v,f,_,_,_,_,_,h⟩
   ·exact⟨_,h⟩
   ·rcases h with⟨_,h⟩|⟨_,⟨_,h⟩|⟨_,⟨_,h⟩|⟨_,⟨_,h⟩|⟨_,_,_,_,_,_,⟨_,h⟩|⟨_,_,_,_,h⟩⟩⟩⟩⟩<;>exact⟨_,h⟩
  ·exact⟨_,best_bad g1 hc⟩
 have bad:∀x:r8×j9,u9 t p=some x→x.2.code ≠ 0→(Option.bind (u9 t p) fun a14=>Option.bind (q7 t) fun a19=>if((!(decide (a14.2.code=0)))||(!(decide (a19.2.2.2.code=0))))=true then Option.bind (B2) fun a32=>some a32 else Option.bind (if a19.2.2.1=true then if w64 (a19.2.1.num * a14.1.den)≤w64 (a14.1.num * a19.2.1.den) then Option.bind (B2) fun a48=>some a48 else some false else some false) fun t4=>some t4)=some true:=fun x hx hn=>by
  rw[hx,hr]
  simp only[oB]
  rw[if_pos (by simp[hn]),ar1];rfl
 have good:∀(x y:r8) (q:List d8),u9 t p=some (x,⟨0,0⟩)→q7 t=some (q,y,true,⟨0,0⟩)→w64 (y.num * x.den)≤w64 (x.num * y.den)→(Option.bind (u9 t p) fun a14=>Option.bind (q7 t) fun a19=>if((!(decide (a14.2.code=0)))||(!(decide (a19.2.2.2.code=0))))=true then Option.bind (B2) fun a32=>some a32 else Option.bind (if a19.2.2.1=true then if w64 (a19.2.1.num * a14.1.den)≤w64 (a14.1.num * a19.2.1.den) then Option.bind (B2) fun a48=>some a48 else some false else some false) fun t4=>some t4)=some true:=fun x y q hx hy hle=>by
  rw[hx,hy]
  simp only[oB]
  simp[hle,ar1]
 have badB:∀z:List d8×r8×Bool×j9,q7 t=some z→z.2.2.2.code ≠ 0→∀x,u9 t p=some x→(Option.bind (u9 t p) fun a14=>Option.bind (q7 t) fun a19=>if((!(decide (a14.2.code=0)))||(!(decide (a19.2.2.2.code=0))))=true then Option.bind (B2) fun a32=>some a32 else Option.bind (if a19.2.2.1=true then if w64 (a19.2.1.num * a14.1.den)≤w64 (a14.1.num * a19.2.1.den) then Option.bind (B2) fun a48=>some a48 else some false else some false) fun t4=>some t4)=some true:=fun z hz hn x hx=>by
  rw[hx,hz]
  simp only[oB]
  rw[if_pos (by simp[hn]),ar1];rfl
 rcases e3 with⟨hc,_,hv⟩|⟨rfl,ht,hp,h3⟩
 ·exact bad _ hv hc
 ·rcases h3 with⟨_,hv⟩|⟨hk,l,q1,h4⟩
  ·exact bad _ hv (by decide)
  ·rcases h4 with⟨_,hv⟩|⟨h5,h6⟩
   ·exact bad _ hv (by decide)
   ·have hval:∃x,u9 t p=some x:=by
     rcases h6 with⟨_,hv⟩|⟨_,_,_,_,_,_,_,_,_,_,_,hv⟩<;>exact⟨_,hv⟩
    obtain⟨x,hx⟩:=hval
    rcases best_spec ht with⟨_,_,h⟩|⟨all,rv,f,_,_,hcl,_,hf,h⟩
    ·exact badB _ h (by decide) x hx
    ·have hin:=vis_cer hp hk hcl hf (Rch.init (t:=t) (p:=p))
     rcases h with⟨_,h⟩|⟨_,⟨_,h⟩|⟨hl5,⟨hneg,_⟩|⟨_,⟨hg,h⟩|⟨hg,den,lb,N,v,hF,h⟩⟩⟩⟩
     ·exact badB _ h (by decide) x hx
     ·exact badB _ h (by decide) x hx
     ·omega
     ·rcases h6 with⟨_,hv⟩|⟨hn,_⟩
      ·exact good _ _ _ hv h (by decide)
      ·exact absurd hg hn
     ·rcases h6 with⟨hg',_⟩|⟨_,st,w,sg,num,den',s1,s2,s3,i0,s4,hv⟩
      ·exact absurd hg' hg
      ·rcases h with⟨_,h⟩|⟨hfit,pb,_,_,h⟩
       ·exact badB _ h (by decide) x hx
       ·by_cases cf:(frN (num i0) den').num≤1000000000∧(frN (num i0) den').den≤1000000000
        ·rw[if_pos cf] at hv
         refine good _ _ _ hv h ?_
         have hS:=cer_sts hcl hl5 f
         have hd0:=hF.vb.d0
         have hd':=s3.d0
         have hi0:=(lG.1 s4).1
         have alw:∀(i:Nat) s,(pnd t l)[i]? =some s→s ∈ cerS t all f∧Alw t (cerS t all f) s (chO p s):=fun i s hs=>by
          have hm:=af9.1 (List.mem_of_getElem? hs)
          exact vis_alw hp hk hcl hf ((q1.mem s).1 hm.1) hm.2
         have key:=val_le (sys_ms ht s1) (fun i hi=>(s2 i hi).px s1) s3.vf hd0 (num:=fun k=>v (sN (pnd t l) k)) (fun i hi=>by
          have hs:=af0 hi
          have ha:=alw i _ hs
          rw[s1.qs hs (v:=v) fun k _=>rfl,s1.ws hs]
          rw[hs,Int.mul_comm]
          exact hF.le ht hS ha.1 ha.2) i0 hi0
         rw[sN_eq s4] at key
         have hv0:=(hF.vb.v0 _ (alw i0 _ s4).1).1
         have hle:=frN_le (a:=(v t.init).toNat) (b:=den.toNat) (c:=num i0) (d:=den') (by omega) hd' (by
          have e1:((v t.init).toNat:Int)=v t.init:=by omega
          have e2:(den.toNat:Int)=den:=by omega
          have:(((v t.init).toNat * den':Nat):Int)≤((num i0 * den.toNat:Nat):Int):=by
           rw[Int.natCast_mul,Int.natCast_mul,e1,e2,Int.mul_comm,Int.mul_comm (num i0:Int)];exact key
          omega)
         have p1:=frN_pos (v t.init).toNat den.toNat
         have p2:=frN_pos (num i0) den'
         have b1:=Int.mul_le_mul hfit.1 cf.2 p2.2 (by omega:(0:Int)≤1000000000)
         have b2:=Int.mul_le_mul cf.1 hfit.2 p1.2 (by omega:(0:Int)≤1000000000)
         have b3:=Int.mul_nonneg p1.1 p2.2
         have b4:=Int.mul_nonneg p2.1 p1.2
         rw[l9 (by omega) (by omega),l9 (by omega) (by omega)]
         exact hle
        ·rw[if_neg cf] at hv
         exact bad _ hv (by decide)
end Ab
end
