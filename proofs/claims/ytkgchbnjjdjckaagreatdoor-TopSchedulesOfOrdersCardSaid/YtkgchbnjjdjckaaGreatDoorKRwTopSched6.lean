/-
  Texts that the proof stands on.
-/
import Derived.Test.YtkgchbnjjdjckaaGreatDoorKRwTopSched5
set_option linter.all false
section
namespace Ab
open Go
abbrev En:=b8
def Hp(L:Li)(E:List En):Prop:=∀i h,ix L i=some h→∃e,ix E h=some e∧e.fat=i
structure Sme(L:Li)(E:List En)(L':Li)(E':List En):Prop where
 len:L'.length=L.length
 mem:∀h,h ∈ L'↔h ∈ L
 elen:E'.length=E.length
 e:∀h a,ix E h=some a→∃a',ix E' h=some a'∧a'.item=a.item∧a'.key=a.key
theorem Sme.refl(L:Li)(E:List En):Sme L E L E:=⟨rfl,fun _=>Iff.rfl,rfl,fun h a ha=>⟨a,ha,rfl,rfl⟩⟩
theorem Sme.trans{L L' L'':Li}{E E' E'':List En}(h:Sme L E L' E')(g:Sme L' E' L'' E''):Sme L E L'' E'':=by
 refine⟨g.len.trans h.len,fun x=>(g.mem x).trans (h.mem x),g.elen.trans h.elen,fun x a ha=> ?_⟩
 obtain⟨b,b1,b2,b3⟩:=h.e x a ha
 obtain⟨c,c1,c2,c3⟩:=g.e x b b1
 exact⟨c,c1,c2.trans b2,c3.trans b3⟩
theorem Hp.inj{L:Li}{E:List En}(h:Hp L E){i j x:Int}(h1:ix L i=some x)(h2:ix L j=some x):i=j:=by
 obtain⟨e,e1,e2⟩:=h i x h1
 obtain⟨f,f1,f2⟩:=h j x h2
 rw[e1] at f1;cases f1;rw[← e2,← f2]
theorem mem_ixI{α:Type}{l:List α}{x:α}:x ∈ l↔∃i:Int,ix l i=some x:=by
 constructor
 ·intro h
  obtain⟨k,hk⟩:=List.getElem?_of_mem h
  exact⟨k,by rw[M0];exact hk⟩
 ·rintro ⟨i,h⟩;exact v8 h
theorem less_ok{L:Li}{E:List En}(h:Hp L E){i k:Int}(hi:0≤i)(hi':i<L.length)(hk:0≤k)(hk':k<L.length):∃b,n8 i k L E=some b:=by
 obtain⟨x,x1,_⟩:=m8 hi hi'
 obtain⟨y,y1,_⟩:=m8 hk hk'
 obtain⟨e,e1,_⟩:=h i x x1
 obtain⟨f,f1,_⟩:=h k y y1
 exact⟨_,by simp only[n8,x1,y1,e1,f1,oB];rfl⟩
theorem swap_ok{L:Li}{E:List En}(h:Hp L E){i k:Int}(hi:0≤i)(hi':i<L.length)(hk:0≤k)(hk':k<L.length):
  ∃L' E',n7 i k L E=some (L',E')∧Hp L' E'∧Sme L E L' E'∧(∀x,ix L i=some x→ix L' k=some x):=by
 obtain⟨x,x1,_⟩:=m8 hi hi'
 obtain⟨y,y1,_⟩:=m8 hk hk'
 obtain⟨e,e1,e2⟩:=h i x x1
 obtain⟨f,f1,f2⟩:=h k y y1
 obtain⟨ex0,ex1,_⟩:=w8 e1
 obtain⟨ey0,ey1,_⟩:=w8 f1
 have hL:∀j,ix ((L.set i.toNat y).set k.toNat x) j=if j=k then some x else if j=i then some y else ix L j:=by
  intro j
  by_cases hj:0≤j
  ·rw[J7 hk (by simp;omega) hj]
   split
   ·rfl
   ·rw[J7 hi hi' hj]
  ·rw[R7 (by omega),R7 (by omega),if_neg (by omega),if_neg (by omega)]
 have q1:ix ((L.set i.toNat y).set k.toNat x) i=some y:=by
  rw[hL]
  by_cases c:i=k
  ·subst c;rw[x1] at y1;cases y1;simp
  ·rw[if_neg c,if_pos rfl]
 have q2:ix ((L.set i.toNat y).set k.toNat x) k=some x:=by rw[hL,if_pos rfl]
 have hE:∀j,ix (E.set y.toNat (⟨f.item,f.key,f.time,i⟩:En)) j=if j=y then some ⟨f.item,f.key,f.time,i⟩ else ix E j:=by
  intro j
  by_cases hj:0≤j
  ·rw[J7 ey0 ey1 hj]
  ·rw[R7 (by omega),R7 (by omega),if_neg (by omega)]
 obtain⟨g,g1,g2,g3⟩:∃g,ix (E.set y.toNat (⟨f.item,f.key,f.time,i⟩:En)) x=some g∧g.item=e.item∧g.key=e.key:=by
  rw[hE]
  by_cases c:x=y
  ·subst c;rw[e1] at f1;cases f1;exact⟨_,if_pos rfl,rfl,rfl⟩
  ·exact⟨e,by rw[if_neg c,e1],rfl,rfl⟩
 have hE2:∀j,ix ((E.set y.toNat (⟨f.item,f.key,f.time,i⟩:En)).set x.toNat (⟨g.item,g.key,g.time,k⟩:En)) j=if j=x then some ⟨g.item,g.key,g.time,k⟩ else if j=y then some ⟨f.item,f.key,f.time,i⟩ else ix E j:=by
  intro j
  by_cases hj:0≤j
  ·rw[J7 ex0 (by simp;omega) hj,hE]
  ·rw[R7 (by omega),R7 (by omega),if_neg (by omega),if_neg (by omega)]
 refine⟨_,_,by simp only[n7,x1,y1,q1,q2,f1,g1,oB];rfl,?_,⟨by simp,fun z=> ?_,by simp,fun z a ha=> ?_⟩,?_⟩
 ·intro j z hz
  rw[hL] at hz
  by_cases c:j=k
  ·rw[if_pos c] at hz;cases hz
   exact⟨_,by rw[hE2,if_pos rfl],c.symm⟩
  ·rw[if_neg c] at hz
   by_cases d:j=i
   ·rw[if_pos d] at hz;cases hz
    have:y ≠ x:=fun q=>by subst q;exact c (d.trans (h.inj x1 y1))
    exact⟨_,by rw[hE2,if_neg this,if_pos rfl],d.symm⟩
   ·rw[if_neg d] at hz
    obtain⟨a,a1,a2⟩:=h j z hz
    refine⟨a,?_,a2⟩
    rw[hE2,if_neg (fun q=>by subst q;exact d (h.inj hz x1)),if_neg (fun q=>by subst q;exact c (h.inj hz y1)),a1]
 ·rw[mem_ixI,mem_ixI]
  constructor
  ·rintro ⟨j,hj⟩
   rw[hL] at hj
   split at hj
   ·cases hj;exact⟨i,x1⟩
   ·split at hj
    ·cases hj;exact⟨k,y1⟩
    ·exact⟨j,hj⟩
  ·rintro ⟨j,hj⟩
   by_cases c:j=k
   ·subst c;rw[y1] at hj;cases hj;exact⟨i,q1⟩
   ·by_cases d:j=i
    ·subst d;rw[x1] at hj;cases hj;exact⟨k,q2⟩
    ·exact⟨j,by rw[hL,if_neg c,if_neg d,hj]⟩
 ·rw[hE2]
  by_cases c:z=x
  ·subst c;rw[e1] at ha;cases ha;exact⟨_,if_pos rfl,g2,g3⟩
  ·rw[if_neg c]
   by_cases d:z=y
   ·subst d;rw[f1] at ha;cases ha;exact⟨_,if_pos rfl,rfl,rfl⟩
   ·exact⟨a,by rw[if_neg d,ha],rfl,rfl⟩
 ·intro z hz;rw[x1] at hz;cases hz;exact q2
theorem same_swap:y4=n7:=rfl
theorem same_down:I7=B6:=rfl
structure Kp(nv:Int)(L:Li)(E:List En)(l:Li)(e:List En):Prop where
 hp:Hp l e
 sm:Sme L E l e
 hi:∀j,nv≤j→ix l j=ix L j
theorem ix_sw{L L':Li}{E E':List En}{i k:Int}(h:n7 i k L E=some (L',E'))(hk0:0≤k)(hi0:0≤i)(hi1:i<L.length)(hk1:k<L.length){j:Int}(h1:j ≠ i)(h2:j ≠ k):ix L' j=ix L j:=by
 unfold n7 at h
 simp only[Option.bind_eq_some_iff] at h
 obtain⟨a,_,b,_,c,_,d,_,e,_,f,_,g⟩:=h
 cases g
 by_cases hj:0≤j
 ·rw[J7 hk0 (by simp;omega) hj,if_neg h2,J7 hi0 hi1 hj,if_neg h1]
 ·rw[R7 (by omega),R7 (by omega)]
theorem down_body{nv i:Int}{L l:Li}{E e:List En}(g:Kp nv L E l e)(hn:nv≤L.length)(hb:L.length≤1000000){c:Int}(hc:0≤c)(hc':c<L.length):
  (∃l' e' c',y7 nv (l,e,c)=some (.inl (l',e',c'))∧Kp nv L E l' e'∧c<c'∧c'<nv)∨y7 nv (l,e,c)=some (.inr (l,e,c)):=by
 have hl:=g.sm.len
 unfold y7
 have e1:w64 (w64 (2 * c)+1)=2 * c+1:=by rw[w7 (n:=2 * c) (by omega) (by omega),w7 (by omega) (by omega)]
 simp only[e1]
 by_cases c1:nv≤2 * c+1
 ·rw[if_pos (by simp[c1])];exact .inr rfl
 rw[if_neg (by simp;omega)]
 have e2:w64 (2 * c+1+1)=2 * c+2:=by rw[w7 (by omega) (by omega)];omega
 simp only[e2]
 obtain⟨j,j1,j2,j3⟩:∃j,(Option.bind (if 2 * c+2<nv then Option.bind (n8 (2 * c+2) (2 * c+1) l e) fun a32=>some a32 else some false) fun t69=>if t69=true then some (2 * c+2) else some (2 * c+1))=some j∧c<j∧j<nv:=by
  by_cases c2:2 * c+2<nv
  ·obtain⟨b,hb'⟩:=less_ok g.hp (i:=2 * c+2) (k:=2 * c+1) (by omega) (by omega) (by omega) (by omega)
   rw[if_pos c2,hb']
   cases b
   ·exact⟨2 * c+1,rfl,by omega,by omega⟩
   ·exact⟨2 * c+2,rfl,by omega,by omega⟩
  ·rw[if_neg c2]
   exact⟨2 * c+1,rfl,by omega,by omega⟩
 rw[j1,Option.bind_some]
 obtain⟨b,hb'⟩:=less_ok g.hp (i:=j) (k:=c) (by omega) (by omega) (by omega) (by omega)
 rw[hb',Option.bind_some]
 cases b
 ·exact .inr rfl
 ·obtain⟨l',e',s1,s2,s3,_⟩:=swap_ok g.hp (i:=c) (k:=j) (by omega) (by omega) (by omega) (by omega)
  simp only[s1,oB,ag5,s3.len]
  refine .inl ⟨l',e',j,rfl,⟨s2,g.sm.trans s3,fun q hq=> ?_⟩,j2,j3⟩
  rw[ix_sw s1 (by omega) (by omega) (by omega) (by omega) (by omega) (by omega),g.hi q hq]
theorem down_ok{nv t0:Int}{L:Li}{M:List (Int×Int)}{E:List En}(h:Hp L E){i:Int}(hi:0≤i)(hi':i<L.length)(hn:nv≤L.length)(hb:L.length≤1000000):
  ∃L' E' b,B6 i nv t0 L M E=some (L',E',b)∧Kp nv L E L' E':=by
 unfold B6
 obtain⟨o,o1,o2⟩:=S4 (body:=y7 nv) (s:=(L,E,i))
  (fun s=>Kp nv L E s.1 s.2.1∧0≤s.2.2∧s.2.2<L.length) (fun o=>Kp nv L E o.1 o.2.1) (fun s=>(nv - s.2.2).toNat)
  ⟨⟨h,.refl _ _,fun _ _=>rfl⟩,hi,hi'⟩ (by
   rintro ⟨l,e,c⟩ ⟨g1,g2,g3⟩
   simp only at g1 g2 g3
   rcases down_body (i:=i) g1 hn hb g2 g3 with⟨l',e',c',q1,q2,q3,q4⟩|q
   ·exact .inl ⟨_,q1,⟨q2,by change 0≤c';omega,by change c'<_;omega⟩,by change (nv - c').toNat<(nv - c).toNat;omega⟩
   ·exact .inr ⟨_,q,g1⟩)
 obtain⟨a,b,c⟩:=o
 exact⟨a,b,_,by rw[o1];rfl,o2⟩
theorem up_ok{t0:Int}{L:Li}{M:List (Int×Int)}{E:List En}(h:Hp L E){i:Int}(hi:0≤i)(hi':i<L.length)(hb:L.length≤1000000):
  ∃L' E',E4 i t0 L M E=some (L',E')∧Hp L' E'∧Sme L E L' E':=by
 unfold E4
 obtain⟨o,o1,o2⟩:=S4 (body:=I8) (s:=(L,E,i))
  (fun s=>(Hp s.1 s.2.1∧Sme L E s.1 s.2.1)∧0≤s.2.2∧s.2.2<L.length) (fun o=>Hp o.1 o.2∧Sme L E o.1 o.2) (fun s=>s.2.2.toNat)
  ⟨⟨h,.refl _ _⟩,hi,hi'⟩ (by
   rintro ⟨l,e,c⟩ ⟨⟨g1,g4⟩,g2,g3⟩
   simp only at g1 g2 g3 g4
   have hl:=g4.len
   unfold I8
   have e1:w64 (c - 1)=c - 1:=w7 (by omega) (by omega)
   have e3:(c - 1).tdiv 2=if c=0 then 0 else(c - 1) / 2:=by
    split
    ·rename_i q;subst q;rfl
    ·rw[Int.tdiv_eq_ediv_of_nonneg (by omega)]
   have e2:w64 ((c - 1).tdiv 2)=if c=0 then 0 else(c - 1) / 2:=by
    rw[e3];split
    ·rfl
    ·exact w7 (by omega) (by omega)
   simp only[e1,e2,chkN,show((2:Int)=0)=False by simp,if_false,oB]
   by_cases c0:c=0
   ·subst c0
    rw[if_pos (by simp)]
    exact .inr ⟨_,rfl,g1,g4⟩
   ·simp only[if_neg c0]
    rw[if_neg (by omega)]
    obtain⟨b,hb'⟩:=less_ok g1 (i:=c) (k:=(c - 1) / 2) (by omega) (by omega) (by omega) (by omega)
    rw[hb']
    cases b
    ·exact .inr ⟨_,rfl,g1,g4⟩
    ·obtain⟨l',e',s1,s2,s3,_⟩:=swap_ok g1 (i:=(c - 1) / 2) (k:=c) (by omega) (by omega) (by omega) (by omega)
     simp only[oB,Bool.not_true,Bool.false_eq_true,if_false,s1,ag5,s3.len,if_true]
     exact .inl ⟨_,rfl,⟨⟨s2,g4.trans s3⟩,by simp only;omega,by simp only;omega⟩,by simp only;omega⟩)
 exact⟨o.1,o.2,by rw[o1];rfl,o2⟩
theorem fix_ok{t0:Int}{L:Li}{M:List (Int×Int)}{E:List En}(h:Hp L E){i:Int}(hi:0≤i)(hi':i<L.length)(hb:L.length≤1000000):
  ∃L' E',C8 i t0 L M E=some (L',E')∧Hp L' E'∧Sme L E L' E':=by
 unfold C8
 obtain⟨L',E',b,h1,h2⟩:=down_ok (nv:=L.length) (t0:=t0) (M:=M) h hi hi' (by omega) hb
 simp only[s5,h1,oB]
 cases b
 ·obtain⟨L2,E2,k1,k2,k3⟩:=up_ok (t0:=t0) (M:=M) h2.hp hi (by rw[h2.sm.len];exact hi') (by rw[h2.sm.len];exact hb)
  exact⟨L2,E2,by simp[k1],k2,h2.sm.trans k3⟩
 ·exact⟨L',E',by simp,h2.hp,h2.sm⟩
theorem push_ok{t0:Int}{L:Li}{M:List (Int×Int)}{E:List En}(h:Hp L E){x:Int}{e:En}(hx:ix E x=some e)(hn:x ∉ L)(hb:L.length≤999999):
  ∃L' E',B8 x t0 E L M=some (E',L')∧Hp L' E'∧Sme (L++[x]) E L' E':=by
 unfold B8 B9
 obtain⟨x0,x1,_⟩:=w8 hx
 have ha:app 8 L [x]=some (L++[x]):=by unfold app;rw[if_pos (by simp;omega)]
 have hE:∀j,ix (E.set x.toNat (⟨e.item,e.key,e.time,(L.length:Int)⟩:En)) j=if j=x then some ⟨e.item,e.key,e.time,(L.length:Int)⟩ else ix E j:=by
  intro j
  by_cases hj:0≤j
  ·rw[J7 x0 x1 hj]
  ·rw[R7 (by omega),R7 (by omega),if_neg (by omega)]
 simp only[hx,ha,oB,s5]
 have e1:w64 (((L++[x]).length:Int) - 1)=(L.length:Int):=by rw[show(((L++[x]).length:Int) - 1)=(L.length:Int) by simp];exact w7 (by omega) (by omega)
 have hh:Hp (L++[x]) (E.set x.toNat (⟨e.item,e.key,e.time,(L.length:Int)⟩:En)):=by
  intro i z hz
  rw[am3] at hz
  by_cases c:i=L.length
  ·rw[if_pos c] at hz;cases hz
   exact⟨_,by rw[hE,if_pos rfl],c.symm⟩
  ·rw[if_neg c] at hz
   obtain⟨a,a1,a2⟩:=h i z hz
   exact⟨a,by rw[hE,if_neg (fun q=>by subst q;exact hn (v8 hz)),a1],a2⟩
 obtain⟨L',E',k1,k2,k3⟩:=up_ok (t0:=t0) (M:=M) hh (i:=L.length) (by omega) (by simp;omega) (by simp;omega)
 refine⟨L',E',by rw[e1,k1];rfl,k2,Sme.trans ⟨rfl,fun _=>Iff.rfl,by simp,fun z a hz=> ?_⟩ k3⟩
 rw[hE]
 by_cases c:z=x
 ·subst c;rw[hx] at hz;cases hz;exact⟨_,if_pos rfl,rfl,rfl⟩
 ·exact⟨a,by rw[if_neg c,hz],rfl,rfl⟩
theorem pop_ok{t0:Int}{L:Li}{M:List (Int×Int)}{E:List En}(h:Hp L E)(hl:0<L.length)(hb:L.length≤1000000):
  ∃L' E' x,G1 t0 L M E=some (E',L',x)∧Hp L' E'∧Sme L E (L'++[x]) E'∧x ∉ L':=by
 unfold G1
 have e1:w64 ((L.length:Int) - 1)=(L.length:Int) - 1:=w7 (by omega) (by omega)
 obtain⟨l,e,s1,s2,s3,_⟩:=swap_ok h (i:=0) (k:=(L.length:Int) - 1) (by omega) (by omega) (by omega) (by omega)
 have hl':=s3.len
 obtain⟨L1,E1,b,d1,d2⟩:=down_ok (nv:=(L.length:Int) - 1) (t0:=t0) (M:=M) s2 (i:=0) (by omega) (by omega) (by omega) (by omega)
 have hs:=s3.trans d2.sm
 have hl1:=hs.len
 obtain⟨x,x1,_⟩:=m8 (l:=L1) (i:=(L.length:Int) - 1) (by omega) (by omega)
 have hcut:subL L1 0 ((L1.length:Int) - 1)=some L1.dropLast:=by
  unfold subL
  rw[if_pos (by omega)]
  simp only[Int.toNat_zero,List.drop_zero,List.dropLast_eq_take]
  rw[show((L1.length:Int) - 1).toNat=L1.length - 1 by omega]
 have hsnoc:L1.dropLast++[x]=L1:=by
  have hne:L1 ≠ []:=by intro q;rw[q] at hl1;simp at hl1;omega
  have:=(w8 x1).2.2
  rw[show((L.length:Int) - 1).toNat=L1.length - 1 by omega] at this
  have hlast:L1.getLast hne=x:=by
   rw[List.getLast_eq_getElem]
   have:=lG.1 this
   exact this.2
  rw[← hlast];exact List.dropLast_concat_getLast hne
 have hd:Hp L1.dropLast E1:=fun i z hz=>d2.hp i z (by
  have:=aq9 (x:=x) hz;rwa [hsnoc] at this)
 refine⟨L1.dropLast,E1,x,?_,hd,by rw[hsnoc];exact hs,fun hx=> ?_⟩
 ·rw[same_swap,same_down]
  simp only[s5,e1,s1,oB,ag5,hl',if_true,d1,C7,hcut]
  rw[show(L1.length:Int) - 1=(L.length:Int) - 1 by omega,x1];rfl
 ·obtain⟨i,hi⟩:=mem_ixI.1 hx
  have h2:=aq9 (x:=x) hi
  rw[hsnoc] at h2
  have:=d2.hp.inj h2 x1
  have h3:=(w8 hi).2.1
  simp at h3;omega
end Ab
end
section
namespace Ab
open Go
theorem mset_nodup{k v:Int}{m:List (Int×Int)}(h:(m.map (·.1)).Nodup):((mset m k v).map (·.1)).Nodup:=by
 by_cases c:mget m k=none
 ·rw[X7 c,List.map_append]
  refine List.nodup_append.2 ⟨h,by simp,fun a ha b hb e=> ?_⟩
  simp at hb;subst hb;subst e;exact mget_none c ha
 ·rw[mset_keys c];exact h
theorem mget_of_mem{k v:Int}:∀{m:List (Int×Int)},(m.map (·.1)).Nodup→(k,v) ∈ m→mget m k=some v
 |[],_,h=>by simp at h
 |p::r,hn,h=>by
  simp only[List.map_cons,List.nodup_cons] at hn
  simp only[mget]
  rcases List.mem_cons.1 h with e|h
  ·subst e;simp
  ·rw[if_neg (fun e=>hn.1 (by rw[← e];exact List.mem_map.2 ⟨_,h,rfl⟩))]
   exact mget_of_mem hn.2 h
theorem mdel_sub{k:Int}:∀{m:List (Int×Int)},(mdel m k).Sublist m
 |[]=>List.Sublist.slnil
 |p::r=>by
  simp only[mdel]
  split
  ·exact List.sublist_cons_self _ _
  ·exact mdel_sub.cons_cons _
theorem mget_mdel{k:Int}:∀{m:List (Int×Int)},(m.map (·.1)).Nodup→∀x,mget (mdel m k) x=if x=k then none else mget m x
 |[],_,x=>by simp[mdel,mget]
 |p::r,hn,x=>by
  simp only[List.map_cons,List.nodup_cons] at hn
  simp only[mdel]
  by_cases c:k=p.1
  ·rw[if_pos c]
   by_cases d:x=k
   ·rw[if_pos d]
    cases e:mget r x with
    |none=>rfl
    |some v=>exact absurd (List.mem_map.2 ⟨_,mget_mem e,rfl⟩) (by rw[d,c];exact hn.1)
   ·rw[if_neg d]
    simp only[mget]
    rw[if_neg (fun e=>d (e.trans c.symm))]
  ·rw[if_neg c]
   simp only[mget,mget_mdel hn.2]
   by_cases d:x=k
   ·rw[if_pos d,if_pos d,if_neg (by rw[d];exact c)]
   ·rw[if_neg d,if_neg d]
structure Qu(M:List (Int×Int))(L:Li)(E:List En):Prop where
 hp:Hp L E
 keys:(M.map (·.1)).Nodup
 mem:∀x h,mget M x=some h↔h ∈ L∧∃e,ix E h=some e∧e.item=x
def qkey(M:List (Int×Int))(E:List En)(x:Int):Option Int:=(mget M x).bind fun h=>(ix E h).map (·.key)
theorem Sme.item{L L':Li}{E E':List En}(h:Sme L E L' E')(x y:Int):(∃e,ix E' x=some e∧e.item=y)↔∃e,ix E x=some e∧e.item=y:=by
 constructor
 ·rintro ⟨e,e1,e2⟩
  obtain⟨a,b,_⟩:=w8 e1
  obtain⟨f,f1,_⟩:=m8 (l:=E) a (by rw[← h.elen];exact b)
  obtain⟨g,g1,g2,_⟩:=h.e x f f1
  rw[e1] at g1;cases g1
  exact⟨f,f1,g2.symm.trans e2⟩
 ·rintro ⟨e,e1,e2⟩
  obtain⟨g,g1,g2,_⟩:=h.e x e e1
  exact⟨g,g1,g2.trans e2⟩
theorem Sme.key{L L':Li}{E E':List En}(h:Sme L E L' E')(x:Int):(ix E' x).map (·.key)=(ix E x).map (·.key):=by
 cases e1:ix E x with
 |some e=>
  obtain⟨g,g1,_,g3⟩:=h.e x e e1
  rw[g1];simp[g3]
 |none=>
  cases e2:ix E' x with
  |none=>rfl
  |some e=>
   obtain⟨a,b,_⟩:=w8 e2
   obtain⟨f,f1,_⟩:=m8 (l:=E) a (by rw[← h.elen];exact b)
   rw[e1] at f1;cases f1
theorem Qu.sme{M:List (Int×Int)}{L L':Li}{E E':List En}(h:Qu M L E)(hp:Hp L' E')(hs:Sme L E L' E'):Qu M L' E'∧∀x,qkey M E' x=qkey M E x:=by
 refine⟨⟨hp,h.keys,fun x y=> ?_⟩,fun x=> ?_⟩
 ·rw[h.mem,hs.mem,hs.item]
 ·unfold qkey
  cases mget M x with
  |none=>rfl
  |some y=>simp[hs.key]
theorem Qu.nil:Qu [] [] []:=⟨fun i h e=>by simp[ix] at e,by simp,fun x h=>by simp[mget]⟩
theorem Qu.val{M:List (Int×Int)}{L:Li}{E:List En}(h:Qu M L E){z:Int}(hz:z ∈ L):z.toNat<E.length:=by
 obtain⟨i,_,_,hi⟩:=C2 hz
 obtain⟨e,e1,_⟩:=h.hp i z hi
 exact h9 e1
theorem Qu.chk1{M:List (Int×Int)}{L:Li}{E:List En}(h:Qu M L E):chkH E.length L=some ():=by
 unfold chkH;rw[if_pos (fun z hz=>h.val hz)]
theorem Qu.chk2{M:List (Int×Int)}{L:Li}{E:List En}(h:Qu M L E):chkH E.length (M.map (·.2))=some ():=by
 unfold chkH
 rw[if_pos]
 intro z hz
 obtain⟨p,hp,rfl⟩:=List.mem_map.1 hz
 exact h.val ((h.mem p.1 p.2).1 (mget_of_mem h.keys hp)).1
theorem Qu.item_inj{M:List (Int×Int)}{L:Li}{E:List En}(h:Qu M L E){a b:Int}{e f:En}(ha:a ∈ L)(hb:b ∈ L)(he:ix E a=some e)(hf:ix E b=some f)(hi:e.item=f.item):a=b:=by
 have h1:=(h.mem e.item a).2 ⟨ha,e,he,rfl⟩
 have h2:=(h.mem e.item b).2 ⟨hb,f,hf,hi.symm⟩
 rw[h1] at h2;exact Option.some.inj h2
theorem Hp.nodup{L:Li}{E:List En}(h:Hp L E):L.Nodup:=by
 refine List.pairwise_iff_getElem.2 fun i j hi hj hij e=> ?_
 have h1:ix L (j:Int)=some L[j]:=ix_ltN hj
 have h2:ix L (i:Int)=some L[j]:=by rw[← e];exact ix_ltN hi
 have:=h.inj h1 h2
 omega
theorem Qu.le{M:List (Int×Int)}{L:Li}{E:List En}(h:Qu M L E){vs:Li}(hv:∀x,qkey M E x ≠ none→x ∈ vs):L.length≤vs.length:=by
 have h1:(L.map fun z=>((ix E z).map (·.item)).getD 0).Nodup:=by
  refine List.pairwise_map.2 ?_
  have:=h.hp.nodup
  refine List.Pairwise.imp_of_mem (R:=(· ≠ ·)) (fun {a b} ha hb hab e=>hab ?_) this
  obtain⟨i,_,_,hi⟩:=C2 ha
  obtain⟨j,_,_,hj⟩:=C2 hb
  obtain⟨x,x1,_⟩:=h.hp i a hi
  obtain⟨y,y1,_⟩:=h.hp j b hj
  refine h.item_inj ha hb x1 y1 ?_
  simpa[x1,y1] using e
 have:=aj4 h1 (S:=vs) (fun x hx=>by
  obtain⟨a,ha,rfl⟩:=List.mem_map.1 hx
  obtain⟨i,_,_,hi⟩:=C2 ha
  obtain⟨e,e1,_⟩:=h.hp i a hi
  refine hv _ ?_
  have:=(h.mem e.item a).2 ⟨ha,e,e1,rfl⟩
  simp[e1,qkey,this])
 simpa using this
theorem set_ok{M:List (Int×Int)}{L:Li}{E:List En}(h:Qu M L E)(hb:L.length≤999999)(item key t0:Int):
  ∃M' L' E',s8 item key t0 L M E=some (M',L',E')∧Qu M' L' E'∧∀x,qkey M' E' x=if x=item then some key else qkey M E x:=by
 unfold s8
 cases hm:mget M item with
 |some z=>
  simp only[Option.isSome_some,if_true,oB]
  obtain⟨hz,e,e1,e2⟩:=(h.mem item z).1 hm
  obtain⟨z0,z1,_⟩:=w8 e1
  obtain⟨i,i0,i1,hi⟩:=C2 hz
  have hf:e.fat=i:=by
   obtain⟨f,f1,f2⟩:=h.hp i z hi
   rw[e1] at f1;cases f1;exact f2
  simp only[e1,oB,List.set_set]
  have hE:∀j,ix (E.set z.toNat (⟨e.item,key,w64 (t0+1),e.fat⟩:En)) j=if j=z then some ⟨e.item,key,w64 (t0+1),e.fat⟩ else ix E j:=by
   intro j
   by_cases hj:0≤j
   ·rw[J7 z0 z1 hj]
   ·rw[R7 (by omega),R7 (by omega),if_neg (by omega)]
  have h1:Hp L (E.set z.toNat (⟨e.item,key,w64 (t0+1),e.fat⟩:En)):=by
   intro j y hy
   rw[hE]
   by_cases c:y=z
   ·subst c;exact⟨_,if_pos rfl,hf.trans (h.hp.inj hi hy)⟩
   ·rw[if_neg c];exact h.hp j y hy
  obtain⟨L',E',k1,k2,k3⟩:=fix_ok (t0:=w64 (t0+1)) (M:=M) h1 (i:=e.fat) (by omega) (by omega) (by omega)
  have hq:Qu M L (E.set z.toNat (⟨e.item,key,w64 (t0+1),e.fat⟩:En)):=⟨h1,h.keys,fun x y=>by
   rw[h.mem,hE]
   by_cases c:y=z
   ·subst c
    simp[e1]
   ·rw[if_neg c]⟩
  obtain⟨q1,q2⟩:=hq.sme k2 k3
  refine⟨M,L',E',by rw[k1];rfl,q1,fun x=> ?_⟩
  rw[q2]
  unfold qkey
  by_cases c:x=item
  ·subst c;rw[if_pos rfl,hm];simp[hE]
  ·rw[if_neg c]
   cases hx:mget M x with
   |none=>rfl
   |some y=>
    have:y ≠ z:=fun q=>by
     subst q
     obtain⟨_,f,f1,f2⟩:=(h.mem x y).1 hx
     rw[e1] at f1;cases f1;exact c (f2.symm.trans e2)
    simp[hE,if_neg this]
 |none=>
  simp only[Option.isSome_none,Bool.false_eq_true,if_false,h.chk1,h.chk2,oB]
  have hn:(E.length:Int) ∉ L:=fun q=>by have:=h.val q;simp at this
  have h1:Hp L (E++[(⟨item,key,w64 (t0+1),0⟩:En)]):=fun i z hz=>by
   obtain⟨e,e1,e2⟩:=h.hp i z hz
   exact⟨e,aq9 e1,e2⟩
  obtain⟨L',E',k1,k2,k3⟩:=push_ok (t0:=w64 (t0+1)) (M:=mset M item (E.length:Int)) h1 (x:=(E.length:Int)) ix_snoc_new hn hb
  refine⟨_,L',E',by rw[k1];rfl,⟨k2,mset_nodup h.keys,fun x y=> ?_⟩,fun x=> ?_⟩
  ·rw[E0,k3.mem,k3.item,List.mem_append,List.mem_singleton,am3]
   by_cases c:x=item
   ·subst c
    rw[if_pos rfl]
    by_cases d:y=(E.length:Int)
    ·rw[if_pos d];simp[d]
    ·rw[if_neg d]
     constructor
     ·intro q;exact absurd (Option.some.inj q).symm d
     ·rintro ⟨a|a,b⟩
      ·exact absurd ((h.mem x y).2 ⟨a,b⟩) (by rw[hm];simp)
      ·exact absurd a d
   ·rw[if_neg c,h.mem]
    by_cases d:y=(E.length:Int)
    ·rw[if_pos d];subst d
     constructor
     ·rintro ⟨q,_⟩;exact absurd q hn
     ·rintro ⟨_,e,e1,e2⟩;cases e1;exact absurd e2.symm c
    ·rw[if_neg d];simp[d]
  ·unfold qkey
   rw[E0]
   by_cases c:x=item
   ·rw[if_pos c,if_pos c]
    simp[k3.key,am3]
   ·rw[if_neg c,if_neg c]
    cases hx:mget M x with
    |none=>rfl
    |some y=>
     have:y ≠ (E.length:Int):=fun q=>hn (by rw[← q];exact((h.mem x y).1 hx).1)
     simp[k3.key,am3,if_neg this]
theorem take_ok{M:List (Int×Int)}{L:Li}{E:List En}(h:Qu M L E)(hl:0<L.length)(hb:L.length≤1000000)(t0:Int):
  ∃M' L' E' it k,x9 t0 L M E=some (M',E',L',it,k,true)∧Qu M' L' E'∧qkey M E it=some k∧(∀x,qkey M' E' x=if x=it then none else qkey M E x)∧L'.length+1=L.length:=by
 unfold x9
 rw[if_neg (by omega)]
 obtain⟨L',E',z,k1,k2,k3,k4⟩:=pop_ok (t0:=t0) (M:=M) h.hp hl hb
 have hz:z ∈ L:=(k3.mem z).1 (by simp)
 obtain⟨i,_,_,hi⟩:=C2 hz
 obtain⟨e,e1,e2⟩:=h.hp i z hi
 obtain⟨f,f1,f2,f3⟩:=k3.e z e e1
 have hm:=(h.mem e.item z).2 ⟨hz,e,e1,rfl⟩
 refine⟨mdel M f.item,L',E',f.item,f.key,by simp only[k1,oB,f1],⟨k2,List.Nodup.sublist (mdel_sub.map _) h.keys,fun x y=> ?_⟩,?_,fun x=> ?_,?_⟩
 ·rw[mget_mdel h.keys]
  by_cases c:x=f.item
  ·rw[if_pos c]
   constructor
   ·intro q;cases q
   ·rintro ⟨a,b⟩
    have:=(h.mem x y).2 ⟨(k3.mem y).1 (by simp[a]),(k3.item y x).1 b⟩
    rw[c,f2,hm] at this
    cases this;exact absurd a k4
  ·rw[if_neg c,h.mem,← k3.mem,k3.item,List.mem_append,List.mem_singleton]
   constructor
   ·rintro ⟨a|a,b⟩
    ·exact⟨a,b⟩
    ·subst a
     obtain⟨g,g1,g2⟩:=b
     rw[e1] at g1;cases g1
     exact absurd (g2.symm.trans f2.symm) c
   ·rintro ⟨a,b⟩;exact⟨.inl a,b⟩
 ·unfold qkey;rw[f2,hm];simp[e1,f3]
 ·unfold qkey
  rw[mget_mdel h.keys]
  by_cases c:x=f.item
  ·rw[if_pos c,if_pos c];rfl
  ·rw[if_neg c,if_neg c]
   cases mget M x with
   |none=>rfl
   |some y=>simp[k3.key]
 ·have:=k3.len;simpa using this
theorem same_set:D0=s8:=rfl
end Ab
end
section
namespace Ab
open Go
abbrev MpI:=List (Int×Int)
def R5(g x:Int):Prop:=Go.bits .and .u32 x g=g
def cst(c:MpI)(x:Int):Int:=(mget c x).getD 0
inductive PthW(vs:Li)(ms:List Mk)(g:Int):Int→Int→Prop
 |goal {x:Int} (h:x ∈ vs) (hg:R5 g x):PthW vs ms g x 0
 |step {x k:Int} {m:Mk} (h:x ∈ vs) (hm:m ∈ ms) (hc:canW m x) (hp:PthW vs ms g (tgtW m x) k):PthW vs ms g x (k+m.cost)
structure Gr(vs:Li)(ms:List Mk):Prop where
 cl:∀x ∈ vs,∀m ∈ ms,canW m x→tgtW m x ∈ vs
 co:∀m ∈ ms,0≤m.cost∧m.cost≤100
 ml:ms.length≤40
 vl:vs.length≤2000
structure Cd(vs:Li)(ms:List Mk)(g:Int)(c:MpI):Prop where
 dom:∀x ∈ vs,∃k,mget c x=some k∧0≤k∧k≤1000000000∧(k=1000000000∨PthW vs ms g x k)
 goal:∀x ∈ vs,R5 g x→mget c x=some 0
structure Iv(vs:Li)(ms:List Mk)(g:Int)(c M:MpI)(L:Li)(E:List En)(exc:Int→Prop):Prop where
 cd:Cd vs ms g c
 qu:Qu M L E
 qk:∀x k,qkey M E x=some k→x ∈ vs∧mget c x=some k
 arc:∀x ∈ vs,∀m ∈ ms,canW m x→¬ exc (tgtW m x)→qkey M E (tgtW m x)=none→cst c x≤cst c (tgtW m x)+m.cost
theorem Iv.len{vs:Li}{ms:List Mk}{g:Int}{c M:MpI}{L:Li}{E:List En}{exc:Int→Prop}(h:Iv vs ms g c M L E exc):L.length≤vs.length:=
 h.qu.le fun x hx=>by
  cases e:qkey M E x with
  |none=>exact absurd e hx
  |some k=>exact(h.qk x k e).1
def sm(vs:Li)(c:MpI):Nat:=(vs.map fun x=>(cst c x).toNat).sum
theorem sum_le{α:Type}{f g:α→Nat}:∀{l:List α},(∀x ∈ l,f x≤g x)→(l.map f).sum≤(l.map g).sum
 |[],_=>by simp
 |x::l,h=>by
  have h1:=h x (by simp)
  have h2:=sum_le (l:=l) fun y hy=>h y (List.mem_cons_of_mem _ hy)
  simp only[List.map_cons,List.sum_cons];omega
theorem sum_lt{α:Type}{f g:α→Nat}:∀{l:List α},(∀x ∈ l,f x≤g x)→(∃x ∈ l,f x<g x)→(l.map f).sum<(l.map g).sum
 |[],_,h=>by simp at h
 |x::l,h,⟨y,hy,hlt⟩=>by
  have h1:=h x (by simp)
  have h2:=sum_le (l:=l) fun y hy=>h y (List.mem_cons_of_mem _ hy)
  simp only[List.map_cons,List.sum_cons]
  rcases List.mem_cons.1 hy with rfl|hy
  ·omega
  ·have:=sum_lt (l:=l) (fun y hy=>h y (List.mem_cons_of_mem _ hy)) ⟨y,hy,hlt⟩
   omega
theorem ao1{c:MpI}{x v:Int}(z:Int):cst (mset c x v) z=if z=x then v else cst c z:=by
 unfold cst;rw[E0];split<;>rfl
theorem sm_lt{vs:Li}{c:MpI}{x v:Int}(hx:x ∈ vs)(h0:0≤v)(hv:v<cst c x):sm vs (mset c x v)<sm vs c:=by
 refine sum_lt (fun z _=> ?_) ⟨x,hx,?_⟩
 ·rw[ao1]
  split
  ·rename_i e;subst e;omega
  ·exact Nat.le_refl _
 ·rw[ao1,if_pos rfl];omega
theorem relax_ok{vs:Li}{ms:List Mk}{g:Int}{c M:MpI}{L:Li}{E:List En}{exc:Int→Prop}(hg:Gr vs ms)(h:Iv vs ms g c M L E exc){x v:Int}(hx:x ∈ vs)(h0:0≤v)(hv:v<cst c x)(hp:PthW vs ms g x v)(t0:Int):
  ∃M' L' E',s8 x v t0 L M E=some (M',L',E')∧Iv vs ms g (mset c x v) M' L' E' exc∧∀z,qkey M' E' z=if z=x then some v else qkey M E z:=by
 have hlen:=h.len
 have hvl:=hg.vl
 obtain⟨M',L',E',k1,k2,k3⟩:=set_ok h.qu (by omega) x v t0
 refine⟨M',L',E',k1,⟨⟨fun z hz=> ?_,fun z hz hgz=> ?_⟩,k2,fun z k hk=> ?_,fun z hz m hm hc he hq=> ?_⟩,k3⟩
 ·rw[E0]
  by_cases e:z=x
  ·subst e
   obtain⟨k,q1,q2,q3,_⟩:=h.cd.dom z hz
   have:cst c z=k:=by unfold cst;rw[q1];rfl
   exact⟨v,if_pos rfl,h0,by omega,.inr hp⟩
  ·rw[if_neg e];exact h.cd.dom z hz
 ·rw[E0]
  by_cases e:z=x
  ·subst e
   have:cst c z=0:=by unfold cst;rw[h.cd.goal z hz hgz];rfl
   omega
  ·rw[if_neg e];exact h.cd.goal z hz hgz
 ·rw[k3] at hk
  rw[E0]
  by_cases e:z=x
  ·rw[if_pos e] at hk ⊢;cases hk;exact⟨by rw[e];exact hx,rfl⟩
  ·rw[if_neg e] at hk ⊢;exact h.qk z k hk
 ·rw[k3] at hq
  by_cases e:tgtW m z=x
  ·rw[if_pos e] at hq;cases hq
  ·rw[if_neg e] at hq
   have:=h.arc z hz m hm hc he hq
   rw[ao1,ao1,if_neg e]
   by_cases f:z=x
   ·rw[if_pos f];subst f;omega
   ·rw[if_neg f];exact this
abbrev Bkm:=List (Int×List x4)
def BkOk(vs:Li)(ms:List Mk)(b:Bkm):Prop:=∀y a,a ∈ rowM b y↔∃x ∈ vs,∃m ∈ ms,canW m x∧tgtW m x=y∧a=⟨x,m.cost⟩
abbrev St5:=MpI×MpI×List En×Int×Li
theorem relax_all{vs:Li}{ms:List Mk}{g:Int}{b:Bkm}{c M:MpI}{L:Li}{E:List En}{y k:Int}(hg:Gr vs ms)(hb:BkOk vs ms b)(h:Iv vs ms g c M L E (· =y))(hy:y ∈ vs)(hk:mget c y=some k)(hq:qkey M E y=none)(t0:Int)(bb:Bool):
  ∃s:St5,forR 0 ((rowM b y).length:Int) (M4 b (M,E,L,y,k,bb)) (c,M,E,t0,L)=some s∧Iv vs ms g s.1 s.2.1 s.2.2.2.2 s.2.2.1 (fun _=>False)∧((sm vs s.1=sm vs c∧s.2.2.2.2=L)∨sm vs s.1<sm vs c):=by
 obtain⟨s,h1,h2,h3,h4,h5,h6⟩:=C4 (body:=M4 b (M,E,L,y,k,bb)) (n:=((rowM b y).length:Int)) (s:=((c,M,E,t0,L):St5))
  (fun j s=>Iv vs ms g s.1 s.2.1 s.2.2.2.2 s.2.2.1 (· =y)∧mget s.1 y=some k∧qkey s.2.1 s.2.2.1 y=none∧(∀i a,i<j→ix (rowM b y) i=some a→cst s.1 a.ffrom≤k+a.cost)∧((sm vs s.1=sm vs c∧s.2.2.2.2=L)∨sm vs s.1<sm vs c)) (by omega)
  ⟨h,hk,hq,fun i a hi ha=>by have:=(w8 ha).1;omega,.inl ⟨rfl,rfl⟩⟩ (fun j s j0 j1 hP=>by
   obtain⟨c',M',E',t',L'⟩:=s
   obtain⟨p1,p2,p3,p4,p5⟩:=hP
   simp only at p1 p2 p3 p4 p5
   obtain⟨a,ha,_⟩:=m8 (l:=rowM b y) j0 j1
   obtain⟨x,hx,m,hm,hc,hty,rfl⟩:=(hb y a).1 (v8 ha)
   have hco:=hg.co m hm
   obtain⟨k',q1,q2,q3,q4⟩:=p1.cd.dom y hy
   rw[p2] at q1;cases q1
   have hw:w64 (k+m.cost)=k+m.cost:=w7 (by omega) (by omega)
   unfold M4
   simp only[ha,oB,hw]
   have hcx:Option.getD (mget c' x) 0=cst c' x:=rfl
   rw[hcx]
   by_cases cc:k+m.cost<cst c' x
   ·rw[if_pos cc]
    have hpy:PthW vs ms g y k:=by
     rcases q4 with q4|q4
     ·obtain⟨k2,r1,r2,r3,_⟩:=p1.cd.dom x hx
      have:cst c' x=k2:=by unfold cst;rw[r1];rfl
      omega
     ·exact q4
    have hxy:x ≠ y:=fun e=>by
     subst e
     have:cst c' x=k:=by unfold cst;rw[p2];rfl
     omega
    obtain⟨M2,L2,E2,k1,k2,k3⟩:=relax_ok hg p1 hx (by omega) cc (.step hx hm hc (by rw[hty];exact hpy)) t'
    rw[same_set,k1]
    have hsm:=sm_lt (vs:=vs) (c:=c') hx (by omega) cc
    refine⟨_,rfl,k2,?_,?_,fun i a' hi ha'=> ?_,.inr (by simp only;rcases p5 with p5|p5<;>omega)⟩
    ·simp only[E0];rw[if_neg (Ne.symm hxy)];exact p2
    ·simp only[k3];rw[if_neg (Ne.symm hxy)];exact p3
    ·simp only[ao1]
     by_cases e:i=j
     ·subst e;rw[ha] at ha';cases ha';simp
     ·have:=p4 i a' (by omega) ha'
      split
      ·rename_i f;rw[f] at this;omega
      ·exact this
   ·rw[if_neg cc]
    refine⟨_,rfl,p1,p2,p3,fun i a' hi ha'=> ?_,p5⟩
    by_cases e:i=j
    ·subst e;rw[ha] at ha';cases ha';simp only;omega
    ·exact p4 i a' (by omega) ha')
 refine⟨s,h1,⟨h2.cd,h2.qu,h2.qk,fun x hx m hm hc _ hqn=> ?_⟩,h6⟩
 by_cases e:tgtW m x=y
 ·have hmem:=(hb y ⟨x,m.cost⟩).2 ⟨x,hx,m,hm,hc,e,rfl⟩
  obtain⟨i,i0,i1,hi⟩:=C2 hmem
  have:=h5 i _ i1 hi
  change cst s.1 x≤k+m.cost at this
  rw[e]
  have e2:cst s.1 y=k:=by unfold cst;rw[h3];rfl
  omega
 ·exact h2.arc x hx m hm hc e hqn
structure Best(vs:Li)(ms:List Mk)(g:Int)(c:MpI):Prop where
 cd:Cd vs ms g c
 least:∀x k,PthW vs ms g x k→cst c x≤k
theorem main_ok{vs:Li}{ms:List Mk}{g:Int}{b:Bkm}{c M:MpI}{L:Li}{E:List En}(hg:Gr vs ms)(hb:BkOk vs ms b)(h:Iv vs ms g c M L E fun _=>False)(t0:Int):
  ∃r,Loop (M1 b) (c,M,E,t0,L)=some r∧Best vs ms g r:=by
 have hvl:=hg.vl
 refine S4 (body:=M1 b) (s:=((c,M,E,t0,L):St5)) (fun s:St5=>Iv vs ms g s.1 s.2.1 s.2.2.2.2 s.2.2.1 fun _=>False) (fun r=>Best vs ms g r)
  (fun s=>sm vs s.1 * 2001+s.2.2.2.2.length) h ?_
 rintro ⟨c,M,E,t,L⟩ p
 simp only at p
 have hlen:=p.len
 unfold M1
 simp only[D9,oB]
 by_cases cl:0<L.length
 ·rw[if_pos (by omega)]
  obtain⟨M',L',E',y,k,k1,k2,k3,k4,k5⟩:=take_ok p.qu cl (by omega) t
  obtain⟨hy,hk⟩:=p.qk y k k3
  have h':Iv vs ms g c M' L' E' (· =y):=⟨p.cd,k2,fun x k hx=>by
    rw[k4] at hx
    by_cases e:x=y
    ·rw[if_pos e] at hx;cases hx
    ·rw[if_neg e] at hx;exact p.qk x k hx,fun x hx m hm hc he hq=>by
    rw[k4,if_neg he] at hq
    exact p.arc x hx m hm hc (fun q=>q) hq⟩
  obtain⟨s,s1,s2,s3⟩:=relax_all hg hb h' hy hk (by rw[k4,if_pos rfl]) t true
  have hl2:=s2.len
  simp only[k1,oB,s1]
  refine .inl ⟨s,rfl,s2,?_⟩
  change sm vs s.1 * 2001+s.2.2.2.2.length<sm vs c * 2001+L.length
  rcases s3 with⟨s3,s4⟩|s3
  ·rw[s3,s4];omega
  ·omega
 ·rw[if_neg (by omega)]
  refine .inr ⟨c,rfl,p.cd,?_⟩
  have hL:L=[]:=List.eq_nil_of_length_eq_zero (by omega)
  have hq:∀x,qkey M E x=none:=fun x=>by
   unfold qkey
   cases e:mget M x with
   |none=>rfl
   |some z=>have:=((p.qu.mem x z).1 e).1;rw[hL] at this;cases this
  intro x k hp
  induction hp with
  |goal hx hgx=>unfold cst;rw[p.cd.goal _ hx hgx];simp
  |step hx hm hc hp ih=>
   have:=p.arc _ hx _ hm hc (fun q=>q) (hq _)
   omega
theorem rowM_mset{b:Bkm}{k:Int}{v:List x4}(y:Int):rowM (mset b k v) y=if y=k then v else rowM b y:=by
 unfold rowM;rw[E0];split<;>rfl
theorem back_ok{ms:List Mk}{b:Bkm}{x:Int}(hml:ms.length≤40){B:Nat}(hB:∀y,(rowM b y).length≤B)(hB':B≤1000000):
  ∃b',T0 ms b x=some b'∧(∀y,(rowM b' y).length≤B+40)∧∀y a,a ∈ rowM b' y↔a ∈ rowM b y∨∃m ∈ ms,canW m x∧tgtW m x=y∧a=⟨x,m.cost⟩:=by
 unfold T0
 obtain⟨b',h1,h2,h3⟩:=C4 (body:=T1 ms x) (n:=(ms.length:Int)) (s:=b)
  (fun j c=>(∀y,((rowM c y).length:Int)≤B+j)∧∀y a,a ∈ rowM c y↔a ∈ rowM b y∨∃i m,i<j∧ix ms i=some m∧canW m x∧tgtW m x=y∧a=⟨x,m.cost⟩) (by omega)
  ⟨fun y=>by have:=hB y;omega,fun y a=>⟨.inl,fun q=>by
   rcases q with q|⟨i,m,hi,hm,_⟩
   ·exact q
   ·have:=(w8 hm).1;omega⟩⟩ (fun j c j0 j1 hP=>by
   obtain⟨p1,p2⟩:=hP
   obtain⟨m,hm,_⟩:=m8 j0 j1
   unfold T1
   simp only[hm,oB]
   by_cases c1:Go.bits .and .u32 x m.pre=m.pre
   ·rw[if_pos c1]
    have ee:Go.bits .or .u32 (Go.bits .andNot .u32 x m.del) m.add=tgtW m x:=rfl
    rw[ee]
    have hl:=p1 (tgtW m x)
    have ha:app 16 (rowM c (tgtW m x)) [(⟨x,m.cost⟩:x4)]=some (rowM c (tgtW m x)++[⟨x,m.cost⟩]):=by unfold app;rw[if_pos (by simp;omega)]
    simp only[ha,oB]
    refine⟨_,rfl,fun y=> ?_,fun y a=> ?_⟩
    ·rw[rowM_mset]
     split
     ·simp;omega
     ·have:=p1 y;omega
    ·rw[rowM_mset]
     have key:(∃i m',i<j+1∧ix ms i=some m'∧canW m' x∧tgtW m' x=y∧a=⟨x,m'.cost⟩)↔(∃i m',i<j∧ix ms i=some m'∧canW m' x∧tgtW m' x=y∧a=⟨x,m'.cost⟩)∨(tgtW m x=y∧a=⟨x,m.cost⟩):=by
      constructor
      ·rintro ⟨i,m',q1,q2,q3,q4,q5⟩
       by_cases e:i=j
       ·subst e;rw[hm] at q2;cases q2;exact .inr ⟨q4,q5⟩
       ·exact .inl ⟨i,m',by omega,q2,q3,q4,q5⟩
      ·rintro (⟨i,m',q1,q2⟩|⟨q1,q2⟩)
       ·exact⟨i,m',by omega,q2⟩
       ·exact⟨j,m,by omega,hm,c1,q1,q2⟩
     rw[key]
     by_cases e:y=tgtW m x
     ·rw[if_pos e,List.mem_append,List.mem_singleton,← e,p2]
      simp[or_assoc]
     ·rw[if_neg e,p2]
      have:¬ tgtW m x=y:=fun q=>e q.symm
      simp[this]
   ·rw[if_neg c1]
    refine⟨_,rfl,fun y=>by have:=p1 y;omega,fun y a=> ?_⟩
    rw[p2]
    refine or_congr_right ⟨?_,?_⟩
    ·rintro ⟨i,m',q1,q2⟩;exact⟨i,m',by omega,q2⟩
    ·rintro ⟨i,m',q1,q2,q3,q4⟩
     by_cases e:i=j
     ·subst e;rw[hm] at q2;cases q2;exact absurd q3 c1
     ·exact⟨i,m',by omega,q2,q3,q4⟩)
 refine⟨b',by rw[h1];rfl,fun y=>by have:=h2 y;omega,fun y a=> ?_⟩
 rw[h3]
 refine or_congr_right ⟨?_,?_⟩
 ·rintro ⟨i,m,_,q2,q3⟩;exact⟨m,v8 q2,q3⟩
 ·rintro ⟨m,q2,q3⟩
  obtain⟨i,_,i1,hi⟩:=C2 q2
  exact⟨i,m,i1,hi,q3⟩
abbrev St6:=Bkm×MpI×MpI×List En×Int×Li
theorem first_ok{vs:Li}{ms:List Mk}(start g:Int)(hg:Gr vs ms):
  ∃s:St6,forR 0 (vs.length:Int) (M3 vs start g ms) ([],[],[],[],0,[])=some s∧BkOk vs ms s.1∧Iv vs ms g s.2.1 s.2.2.1 s.2.2.2.2.2 s.2.2.2.1 fun _=>False:=by
 have hvl:=hg.vl
 have hml:=hg.ml
 obtain⟨s,h1,h2,h3,h4,h5,h6⟩:=C4 (body:=M3 vs start g ms) (n:=(vs.length:Int)) (s:=(([],[],[],[],0,[]):St6))
  (fun j s=>(∀y a,a ∈ rowM s.1 y↔∃x ∈ vs.take j.toNat,∃m ∈ ms,canW m x∧tgtW m x=y∧a=⟨x,m.cost⟩)∧(∀y,(rowM s.1 y).length≤j.toNat * 40)∧
   (∀x,x ∈ vs.take j.toNat→mget s.2.1 x=some (if dec (R5 g x)=true then 0 else 1000000000))∧Qu s.2.2.1 s.2.2.2.2.2 s.2.2.2.1∧∀x,qkey s.2.2.1 s.2.2.2.1 x=if dec (x ∈ vs.take j.toNat∧R5 g x)=true then some 0 else none) (by omega)
  ⟨fun y a=>by simp[rowM,mget],fun y=>by simp[rowM,mget],by simp,Qu.nil,fun x=>by simp[qkey,mget,dec]⟩ (fun j s j0 j1 hP=>by
   obtain⟨b,c,M,E,t,L⟩:=s
   obtain⟨p1,p2,p3,p4,p5⟩:=hP
   simp only at p1 p2 p3 p4 p5
   obtain⟨x,hx,gx⟩:=m8 j0 j1
   have hj:(j+1).toNat=j.toNat+1:=by omega
   have htk:vs.take (j+1).toNat=vs.take j.toNat++[x]:=by rw[hj,List.take_add_one,gx];rfl
   have hlen:L.length≤vs.length:=p4.le fun z hz=>by
    rw[p5] at hz
    by_cases e:z ∈ vs.take j.toNat∧R5 g z
    ·exact List.mem_of_mem_take e.1
    ·rw[if_neg (by rw[B4 e];simp)] at hz;exact absurd rfl hz
   obtain⟨b',b1,b2,b3⟩:=back_ok (x:=x) hml (B:=j.toNat * 40) p2 (by omega)
   have hback:∀y a,a ∈ rowM b' y↔∃x ∈ vs.take (j+1).toNat,∃m ∈ ms,canW m x∧tgtW m x=y∧a=⟨x,m.cost⟩:=fun y a=>by
    rw[b3,p1,htk]
    simp only[List.mem_append,List.mem_singleton,or_and_right,exists_or,exists_eq_left]
   have hrow:∀y,(rowM b' y).length≤(j+1).toNat * 40:=fun y=>by have:=b2 y;omega
   unfold M3
   simp only[hx,oB,P0,E3]
   by_cases cg:Go.bits .and .u32 x g=g
   ·rw[if_pos cg]
    have cg':R5 g x:=cg
    obtain⟨M',L',E',k1,k2,k3⟩:=set_ok p4 (by omega) x 0 t
    simp only[k1,oB,b1]
    refine⟨_,rfl,hback,hrow,fun z hz=> ?_,k2,fun z=> ?_⟩
    ·simp only[E0]
     by_cases e:z=x
     ·subst e;rw[if_pos rfl,if_pos (o7 cg')]
     ·rw[if_neg e,if_neg e]
      refine p3 z ?_
      rw[htk] at hz;simp[e] at hz;exact hz
    ·simp only[k3,p5,htk]
     by_cases e:z=x
     ·subst e;rw[if_pos rfl,if_pos (o7 ⟨by simp,cg'⟩)]
     ·rw[if_neg e]
      have:(z ∈ vs.take j.toNat++[x]∧R5 g z)↔(z ∈ vs.take j.toNat∧R5 g z):=by simp[e]
      rw[I9 this]
   ·rw[if_neg cg]
    have cg':¬ R5 g x:=cg
    simp only[oB,b1]
    refine⟨_,rfl,hback,hrow,fun z hz=> ?_,p4,fun z=> ?_⟩
    ·simp only[E0]
     by_cases e:z=x
     ·subst e;rw[if_pos rfl,if_neg (by rw[B4 cg'];simp)]
     ·rw[if_neg e]
      refine p3 z ?_
      rw[htk] at hz;simp[e] at hz;exact hz
    ·simp only[p5,htk]
     have:(z ∈ vs.take j.toNat++[x]∧R5 g z)↔(z ∈ vs.take j.toNat∧R5 g z):=by
      constructor
      ·rintro ⟨q1,q2⟩
       rcases List.mem_append.1 q1 with q1|q1
       ·exact⟨q1,q2⟩
       ·simp at q1;subst q1;exact absurd q2 cg'
      ·rintro ⟨q1,q2⟩;exact⟨List.mem_append_left _ q1,q2⟩
     rw[I9 this])
 have ht:vs.take (vs.length:Int).toNat=vs:=by rw[Int.toNat_natCast,List.take_length]
 rw[ht] at h2 h4 h6
 have hc:∀x ∈ vs,¬ R5 g x→mget s.2.1 x=some 1000000000:=fun x hx hn=>by rw[h4 x hx,if_neg (by rw[B4 hn];simp)]
 have hc0:∀x ∈ vs,R5 g x→mget s.2.1 x=some 0:=fun x hx hn=>by rw[h4 x hx,if_pos (o7 hn)]
 refine⟨s,h1,h2,⟨fun x hx=> ?_,hc0⟩,h5,fun x k hk=> ?_,fun x hx m hm hcan _ hq=> ?_⟩
 ·by_cases e:R5 g x
  ·exact⟨0,hc0 x hx e,by omega,by omega,.inr (.goal hx e)⟩
  ·exact⟨1000000000,hc x hx e,by omega,by omega,.inl rfl⟩
 ·rw[h6] at hk
  by_cases e:x ∈ vs∧R5 g x
  ·rw[if_pos (o7 e)] at hk;cases hk;exact⟨e.1,hc0 x e.1 e.2⟩
  ·rw[if_neg (by rw[B4 e];simp)] at hk;cases hk
 ·have hy:=hg.cl x hx m hm hcan
  rw[h6] at hq
  have hn:¬ R5 g (tgtW m x):=fun q=>by rw[if_pos (o7 ⟨hy,q⟩)] at hq;cases hq
  have h0:=(hg.co m hm).1
  unfold cst
  rw[hc _ hy hn,h4 x hx]
  simp only[Option.getD_some]
  split<;>omega
theorem costs_ok{vs:Li}{ms:List Mk}(start g:Int)(hg:Gr vs ms):∃c,T8 vs start g ms=some c∧Best vs ms g c:=by
 unfold T8
 obtain⟨s,s1,s2,s3⟩:=first_ok start g hg
 obtain⟨r,r1,r2⟩:=main_ok hg s2 s3 s.2.2.2.2.1
 refine⟨r,?_,r2⟩
 obtain⟨a,b,c,d,e,f⟩:=s
 simp only[K2,oB,s1]
 rw[r1];rfl
end Ab
end
section
namespace Ab
open Go
def Val(t:e7)(plan:Li):Prop:=∀x ∈ plan,(0:Int)≤x∧x<t.operators.length
def U5(t:e7):Li→Int
 |[]=>0
 |op::r=>U5 t r+(opAt t op).cost
def Few(t:e7):Prop:=∃l:LL,l.Nodup∧l.length≤2000∧∀s,s ∈ l↔Rt t s
theorem av9{t:e7}(ht:j8 t):∀{plan:Li},Val t plan→0≤U5 t plan
 |[],_=>by simp[U5]
 |op::r,h=>by
  have h1:=av9 ht (plan:=r) fun x hx=>h x (List.mem_cons_of_mem _ hx)
  have h2:=h op (by simp)
  have h3:=(op_ok ht h2.1 h2.2).2.1
  simp only[U5];omega
section
variable {t:e7}{vs:Li}
theorem pth_of(ht:j8 t)(hv:∀x,x ∈ vs↔Rwd t x):∀{plan s:Li},Rt t s→Val t plan→Y6 t s plan→PthW vs (mks t) (wd t.goal) (wd s) (U5 t plan)
 |[],s,hs,_,⟨e,h1,h2⟩=>by
  simp only[ends,Option.some.injEq] at h1;subst h1
  exact .goal ((hv _).2 ⟨s,hs,rfl⟩) ((sub_word (hs.setN ht) ht.goal ht.n1).2 h2)
 |op::r,s,hs,hp,⟨e,h1,h2⟩=>by
  have h3:=hp op (by simp)
  simp only[ends] at h1
  split at h1
  ·rename_i hc
   have hc:=m6.1 hc
   have ih:=pth_of ht hv (plan:=r) (hs.step h3.1 h3.2 hc) (fun x hx=>hp x (List.mem_cons_of_mem _ hx)) ⟨e,h1,h2⟩
   rw[← tgtW_eq ht (hs.setN ht) h3.1 h3.2] at ih
   exact .step ((hv _).2 ⟨s,hs,rfl⟩) (mks_of h3.1 h3.2) ((as7 ht (hs.setN ht) h3.1 h3.2).2 hc) ih
  ·cases h1
theorem plan_of(ht:j8 t){x k:Int}(h:PthW vs (mks t) (wd t.goal) x k):∀{s:Li},Rt t s→x=wd s→∃plan,Val t plan∧Y6 t s plan∧U5 t plan=k:=by
 induction h with
 |goal hx hg=>
  intro s hs e;subst e
  exact⟨[],by simp[Val],⟨s,rfl,(sub_word (hs.setN ht) ht.goal ht.n1).1 hg⟩,rfl⟩
 |step hx hm hc hp ih=>
  intro s hs e;subst e
  obtain⟨op,h0,h1,rfl⟩:=mks_mem hm
  have hcan:=(as7 ht (hs.setN ht) h0 h1).1 hc
  obtain⟨plan,p1,⟨e,p2,p3⟩,p4⟩:=ih (hs.step h0 h1 hcan) (tgtW_eq ht (hs.setN ht) h0 h1)
  refine⟨op::plan,fun y hy=> ?_,⟨e,?_,p3⟩,by simp[U5,p4,mkOf]⟩
  ·rcases List.mem_cons.1 hy with rfl|hy
   ·exact⟨h0,h1⟩
   ·exact p1 y hy
  ·simp only[ends];rw[if_pos (o7 hcan)];exact p2
end
/-! ### A way that is not long -/
inductive Hop(vs:Li)(ms:List Mk)(g:Int):Nat→Int→Prop
 |goal {x:Int} (h:x ∈ vs) (hg:R5 g x):Hop vs ms g 0 x
 |step {x:Int} {n:Nat} {m:Mk} (h:x ∈ vs) (hm:m ∈ ms) (hc:canW m x) (hp:Hop vs ms g n (tgtW m x)):Hop vs ms g (n+1) x
section
variable {vs:Li}{ms:List Mk}{g:Int}
theorem Hop.of{x k:Int}(h:PthW vs ms g x k):∃n,Hop vs ms g n x:=by
 induction h with
 |goal hx hg=>exact⟨0,.goal hx hg⟩
 |step hx hm hc _ ih=>obtain⟨n,hn⟩:=ih;exact⟨n+1,.step hx hm hc hn⟩
theorem Hop.mem{n:Nat}{x:Int}(h:Hop vs ms g n x):x ∈ vs:=by cases h<;>assumption
theorem Hop.cost(hg:Gr vs ms){n:Nat}{x:Int}(h:Hop vs ms g n x):∃k,PthW vs ms g x k∧k≤100 * n:=by
 induction h with
 |goal hx hgx=>exact⟨0,.goal hx hgx,by omega⟩
 |step hx hm hc _ ih=>
  obtain⟨k,k1,k2⟩:=ih
  have:=hg.co _ hm
  exact⟨_,.step hx hm hc k1,by push_cast;omega⟩
def MHop(vs:Li)(ms:List Mk)(g:Int)(n:Nat)(x:Int):Prop:=Hop vs ms g n x∧∀m,m<n→¬ Hop vs ms g m x
theorem MHop.of:∀{n:Nat} {x:Int},Hop vs ms g n x→∃m,m≤n∧MHop vs ms g m x:=by
 intro n
 induction n using Nat.strongRecOn with
 |_ n ih=>
  intro x h
  by_cases c:∃m,m<n∧Hop vs ms g m x
  ·obtain⟨m,m1,m2⟩:=c
   obtain⟨q,q1,q2⟩:=ih m m1 m2
   exact⟨q,by omega,q2⟩
  ·exact⟨n,Nat.le_refl _,h,fun m hm hh=>c ⟨m,hm,hh⟩⟩
theorem MHop.chain:∀{n:Nat} {x:Int},MHop vs ms g n x→∃l:Li,l.length=n+1∧l.Nodup∧∀y ∈ l,y ∈ vs∧∃m,m≤n∧MHop vs ms g m y
 |0,x,h=>⟨[x],rfl,by simp,fun y hy=>by simp at hy;subst hy;exact⟨h.1.mem,0,Nat.le_refl _,h⟩⟩
 |n+1,x,h=>by
  cases h.1 with
  |@step _ _ m hx hm hc hp=>
   have h':MHop vs ms g n (tgtW m x):=⟨hp,fun q hq hh=>h.2 (q+1) (by omega) (.step hx hm hc hh)⟩
   obtain⟨l,l1,l2,l3⟩:=MHop.chain h'
   refine⟨x::l,by simp[l1],List.nodup_cons.2 ⟨fun hxl=> ?_,l2⟩,fun y hy=> ?_⟩
   ·obtain⟨_,q,q1,q2⟩:=l3 x hxl
    exact h.2 q (by omega) q2.1
   ·rcases List.mem_cons.1 hy with rfl|hy
    ·exact⟨hx,n+1,Nat.le_refl _,h⟩
    ·obtain⟨y1,q,q1,q2⟩:=l3 y hy
     exact⟨y1,q,by omega,q2⟩
theorem pth_small(hg:Gr vs ms){x k:Int}(h:PthW vs ms g x k):∃k',PthW vs ms g x k'∧k'≤199900:=by
 obtain⟨n,hn⟩:=Hop.of h
 obtain⟨m,_,hm⟩:=MHop.of hn
 obtain⟨l,l1,l2,l3⟩:=hm.chain
 have:=aj4 l2 (S:=vs) fun y hy=>(l3 y hy).1
 have hv:=hg.vl
 obtain⟨k',k1,k2⟩:=hm.1.cost hg
 exact⟨k',k1,by omega⟩
end
theorem words_of{t:e7}(ht:j8 t){vs:Li}(hl:vs.length≤2000)(hv:∀x,x ∈ vs↔Rwd t x):Gr vs (mks t):=⟨fun x hx m hm hc=>(hv _).2 (((hv x).1 hx).next ht hm hc),fun m hm=>by
 obtain⟨op,h0,h1,rfl⟩:=mks_mem hm
 exact(op_ok ht h0 h1).2,by simp[mks];exact ht.ops,hl⟩
theorem few_of{t:e7}(ht:j8 t){vs:Li}(hn:vs.Nodup)(hl:vs.length≤2000)(hv:∀x,x ∈ vs↔Rwd t x):Few t:=by
 obtain⟨ss,h1,h2⟩:=states_of (t:=t) (l:=vs) fun x hx=>(hv x).1 hx
 refine⟨ss,am8 (f:=wd) (by rw[h1];exact hn),?_,fun s=>⟨h2 s,fun hs=> ?_⟩⟩
 ·have:=congrArg List.length h1
  simp only[List.length_map] at this;omega
 ·have:wd s ∈ ss.map wd:=by rw[h1];exact(hv _).2 ⟨s,hs,rfl⟩
  obtain⟨s',s1,s2⟩:=List.mem_map.1 this
  rw[wd_inj ht (hs.setN ht) ((h2 s' s1).setN ht) s2.symm];exact s1
theorem checked_spec(t:e7):(¬ j8 t∧∃f,x5 t=some f∧f.code ≠ 0∧G9 t=some (.inl (f.code,f.index)))∨(j8 t∧Many t∧G9 t=some (.inl (10, -7)))∨
  (j8 t∧Few t∧∃vs:Li,vs.Nodup∧vs.length≤2000∧(∀x,x ∈ vs↔Rwd t x)∧G9 t=some (.inr (wd t.init,wd t.goal,mks t,vs))):=by
 obtain⟨f,h1,_,h3⟩:=ai4 t
 unfold G9
 rw[h1]
 simp only[oB]
 rcases h3 with⟨rfl,ht⟩|⟨hc,hn⟩
 ·rw[if_neg (by simp),of_eq ht]
  obtain⟨l,b,a1,a2,a3⟩:=all_spec ht (wd t.goal)
  simp only[oB,a1]
  cases b with
  |false=>exact .inr (.inl ⟨ht,a2 rfl,rfl⟩)
  |true=>
   obtain⟨q1,q2,q3⟩:=a3 rfl
   obtain⟨vs,v1,v2⟩:=sortW (l:=l) (by omega) (fun x hx=>by
    obtain⟨s,s1,rfl⟩:=(q3 x).1 hx
    exact wd_u32 ht (s1.setN ht))
   have hv:∀x,x ∈ vs↔Rwd t x:=fun x=>v2.mem_iff.trans (q3 x)
   have hvn:vs.Nodup:=v2.nodup_iff.2 q1
   have hvl:vs.length≤2000:=by rw[v2.length_eq];exact q2
   exact .inr (.inr ⟨ht,few_of ht hvn hvl hv,vs,hvn,hvl,hv,by simp[v1]⟩)
 ·rw[if_pos (by simp[hc])]
  exact .inl ⟨hn,f,rfl,hc,rfl⟩
inductive OptR(t:e7):Int×g8→Prop
 |bad {f:g8} (h:¬ j8 t) (hf:x5 t=some f) (hc:f.code ≠ 0):OptR t (0,f)
 |many (h:j8 t) (hm:Many t):OptR t (0,⟨10, -7⟩)
 |none (h:j8 t) (hf:Few t) (hn:∀plan,Val t plan→¬ Y6 t t.init plan):OptR t (1000000000,⟨0,0⟩)
 |some {k:Int} {plan:Li} (h:j8 t) (hf:Few t) (h0:0≤k) (h1:k≤199900) (hv:Val t plan) (hw:Y6 t t.init plan) (hk:U5 t plan=k) (hl:∀p,Val t p→Y6 t t.init p→k≤U5 t p):OptR t (k,⟨0,0⟩)
theorem optimal_spec(t:e7):∃r,U6 t=some r∧OptR t r:=by
 unfold U6
 rcases checked_spec t with⟨h,f,h1,h2,h3⟩|⟨h,h1,h2⟩|⟨ht,h1,vs,v1,v2,v3,h2⟩
 ·rw[h3]
  simp only[oB]
  rw[if_pos (by simp[h2])]
  exact⟨_,rfl,.bad h h1 h2⟩
 ·rw[h2]
  simp only[oB]
  rw[if_pos (by simp)]
  exact⟨_,rfl,.many h h1⟩
 ·rw[h2]
  simp only[oB]
  rw[if_neg (by simp)]
  have hg:=words_of ht v2 v3
  obtain⟨c,c1,c2⟩:=costs_ok (wd t.init) (wd t.goal) hg
  simp only[c1,oB,A8]
  have hi:wd t.init ∈ vs:=(v3 _).2 ⟨_,.init,rfl⟩
  obtain⟨k,k1,k2,k3,k4⟩:=c2.cd.dom _ hi
  have hck:cst c (wd t.init)=k:=by unfold cst;rw[k1];rfl
  refine⟨_,rfl,?_⟩
  rw[k1]
  simp only[Option.getD_some]
  by_cases e:∃k',PthW vs (mks t) (wd t.goal) (wd t.init) k'
  ·obtain⟨k0,e⟩:=e
   obtain⟨k',e1,e2⟩:=pth_small hg e
   have hle:=c2.least _ _ e1
   rcases k4 with k4|k4
   ·omega
   ·obtain⟨plan,p1,p2,p3⟩:=plan_of ht k4 .init rfl
    refine .some ht h1 k2 (by omega) p1 p2 p3 fun p q1 q2=> ?_
    have:=c2.least _ _ (pth_of ht v3 .init q1 q2)
    omega
  ·rcases k4 with rfl|k4
   ·exact .none ht h1 fun p q1 q2=>e ⟨_,pth_of ht v3 .init q1 q2⟩
   ·exact absurd ⟨_,k4⟩ e
end Ab
end
section
namespace Ab
open Go
def NI(t:e7)(p q:Int):Prop:=(∀x ∈ (opAt t p).add,x ∉ (opAt t q).pre)∧(∀x ∈ (opAt t p).del,x ∉ (opAt t q).pre)∧(∀x ∈ (opAt t q).add,x ∉ (opAt t p).pre)∧(∀x ∈ (opAt t q).del,x ∉ (opAt t p).pre)∧(∀x ∈ (opAt t p).add,x ∉ (opAt t q).del)∧∀x ∈ (opAt t p).del,x ∉ (opAt t q).add
section
variable {t:e7}
theorem mem_aft{s:Li}{q x:Int}:x ∈ aft t s q↔0≤x∧x<t.facts∧(x ∈ (opAt t q).add∨x ∈ s∧x ∉ (opAt t q).del):=ae9
theorem ni_swap{s:Li}{p q:Int}(h:NI t p q)(hs:SetN s t.facts)(h1:can t s p)(h2:can t (aft t s p) q):can t s q∧can t (aft t s q) p∧aft t (aft t s q) p=aft t (aft t s p) q:=by
 obtain⟨n1,n2,n3,n4,n5,n6⟩:=h
 refine⟨fun x hx=> ?_,fun x hx=> ?_,aq8 fun x x0 x1=> ?_⟩
 ·rcases(mem_aft.1 (h2 x hx)).2.2 with k|⟨k,_⟩
  ·exact absurd hx (n1 x k)
  ·exact k
 ·have:=hs.2 x (h1 x hx)
  exact mem_aft.2 ⟨this.1,this.2,.inr ⟨h1 x hx,fun k=>n4 x k hx⟩⟩
 ·rw[mem_aft,mem_aft]
  have a1:=n5 x;have a2:=n6 x
  by_cases c1:x ∈ (opAt t p).add<;>by_cases c2:x ∈ (opAt t q).add<;>by_cases c3:x ∈ (opAt t p).del<;>by_cases c4:x ∈ (opAt t q).del<;>by_cases c5:x ∈ s<;>simp_all
theorem move_front:∀{a b s e:Li} {x:Int},SetN s t.facts→(∀y ∈ a,NI t y x)→ends t s (a++x::b)=some e→ends t s (x::(a++b))=some e
 |[],b,s,e,x,_,_,h=>h
 |y::a,b,s,e,x,hs,hn,h=>by
  simp only[List.cons_append,ends] at h ⊢
  split at h
  ·rename_i hc
   have hc:=m6.1 hc
   have ih:=move_front (a:=a) (b:=b) (W7 t s y) (fun z hz=>hn z (List.mem_cons_of_mem _ hz)) h
   simp only[ends] at ih
   split at ih
   ·rename_i hc2
    have hc2:=m6.1 hc2
    obtain⟨k1,k2,k3⟩:=ni_swap (hn y List.mem_cons_self) hs hc hc2
    rw[if_pos (o7 k1),if_pos (o7 k2),k3]
    exact ih
   ·cases ih
  ·cases h
theorem reorder{op:Nat→Int}:∀{L P:List Nat} {s e:Li},SetN s t.facts→L.Perm P→P.Pairwise (· < ·)→L.Pairwise (fun a b=>b<a→NI t (op b) (op a))→ends t s (P.map op)=some e→ends t s (L.map op)=some e
 |[],P,s,e,_,hp,_,_,h=>by rw[hp.symm.eq_nil] at h;exact h
 |x::L,P,s,e,hs,hp,hP,hL,h=>by
  have hx:x ∈ P:=hp.mem_iff.1 List.mem_cons_self
  obtain⟨a,b,rfl⟩:=List.append_of_mem hx
  have hp':L.Perm (a++b):=(List.Perm.cons_inv (hp.trans List.perm_middle))
  obtain⟨hL1,hL2⟩:=List.pairwise_cons.1 hL
  have hlt:∀y ∈ a,y<x:=fun y hy=>(List.pairwise_append.1 hP).2.2 y hy x List.mem_cons_self
  have hni:∀z ∈ a.map op,NI t z (op x):=fun z hz=>by
   obtain⟨y,hy,rfl⟩:=List.mem_map.1 hz
   exact hL1 y (hp'.mem_iff.2 (List.mem_append_left _ hy)) (hlt y hy)
  rw[List.map_append,List.map_cons] at h
  have:=move_front hs hni h
  simp only[List.map_cons,ends] at this ⊢
  split at this
  ·rename_i hc
   rw[if_pos hc]
   refine reorder (W7 t s _) hp' ?_ hL2 (by rw[List.map_append];exact this)
   exact hP.sublist (List.Sublist.append_left (List.sublist_cons_self x b) a)
  ·cases this
end
end Ab
end
section
namespace Ab
open Go
def reqT(t:e7)(op:Int):e7:=⟨t.facts+1,t.init,t.goal++[t.facts],t.operators.set op.toNat ⟨(opAt t op).pre,(opAt t op).add++[t.facts],(opAt t op).del,(opAt t op).cost⟩⟩
def forT(t:e7)(op:Int):e7:=⟨t.facts,t.init,t.goal,t.operators.take op.toNat++t.operators.drop (op.toNat+1)⟩
theorem ai6{l:Li}(h:l.length≤1000000):p8 l=some l:=by
 unfold p8 app
 rw[if_pos (by simp;omega)];rfl
theorem SetN.len24{l:Li}{n:Int}(h:SetN l n)(hn:n≤24):l.length≤24:=by have:=h.len;omega
theorem cclone_body{t:e7}(ht:j8 t){j:Int}(j0:0≤j)(j1:j<t.operators.length):J5 t j (t.operators.take j.toNat)=some (t.operators.take (j+1).toNat):=by
 have ho:=op_ok ht j0 j1
 have hx:=Y8 j0 j1
 have ga:=(w8 hx).2.2
 have hl:=ht.ops
 have htk:t.operators.take (j+1).toNat=t.operators.take j.toNat++[opAt t j]:=by rw[show(j+1).toNat=j.toNat+1 by omega,List.take_add_one,ga];rfl
 have h1:=ho.1.1.len24 ht.n1
 have h2:=ho.1.2.1.len24 ht.n1
 have h3:=ho.1.2.2.1.len24 ht.n1
 unfold J5
 simp only[hx,oB,ai6 (show(opAt t j).pre.length≤1000000 by omega),ai6 (show(opAt t j).add.length≤1000000 by omega),ai6 (show(opAt t j).del.length≤1000000 by omega)]
 rw[app,if_pos (by simp;omega),htk];rfl
theorem cclone_eq{t:e7}(ht:j8 t):S1 t=some (t.init,t.goal,t.operators):=by
 unfold S1
 have h1:=ht.init.len24 ht.n1
 have h2:=ht.goal.len24 ht.n1
 simp only[ai6 (show t.init.length≤1000000 by omega),ai6 (show t.goal.length≤1000000 by omega),oB]
 obtain⟨r,r1,rfl⟩:=C4 (body:=J5 t) (n:=(t.operators.length:Int)) (s:=[]) (fun j c=>c=t.operators.take j.toNat) (by omega) (by simp) (fun j c j0 j1 hP=>⟨_,by rw[hP];exact cclone_body ht j0 j1,rfl⟩)
 rw[r1,Int.toNat_natCast,List.take_length];rfl
end Ab
end
section
namespace Ab
open Go
def up(n:Int)(s:Li)(b:Bool):Li:=s++if b=true then [n] else []
theorem ag3{n x:Int}{s:Li}{b:Bool}:x ∈ up n s b↔x ∈ s∨b=true∧x=n:=by
 unfold up;cases b<;>simp
theorem setN_up{n:Int}{s:Li}{b:Bool}(h0:0≤n)(h:SetN s n):SetN (up n s b) (n+1):=by
 refine⟨?_,fun x hx=> ?_⟩
 ·unfold up
  refine List.pairwise_append.2 ⟨h.1,by cases b<;>simp,fun a ha c hc=> ?_⟩
  have:=h.2 a ha
  cases b
  ·simp at hc
  ·simp at hc;omega
 ·rcases ag3.1 hx with hx|⟨_,rfl⟩
  ·have:=h.2 x hx;omega
  ·omega
section
variable {t:e7}{op:Int}
theorem req_len:(reqT t op).operators.length=t.operators.length:=by simp[reqT]
theorem an9(h0:0≤op)(h1:op<t.operators.length){q:Int}(q0:0≤q):opAt (reqT t op) q=if q=op then⟨(opAt t op).pre,(opAt t op).add++[t.facts],(opAt t op).del,(opAt t op).cost⟩ else opAt t q:=by
 show((t.operators.set op.toNat _)[q.toNat]?).getD noOp=_
 rw[List.getElem?_set]
 by_cases e:q=op
 ·subst e;rw[if_pos rfl,if_pos rfl,if_pos (by omega)];rfl
 ·rw[if_neg e,if_neg (by omega)];rfl
theorem pre_req(h0:0≤op)(h1:op<t.operators.length){q:Int}(q0:0≤q):(opAt (reqT t op) q).pre=(opAt t q).pre:=by
 rw[an9 h0 h1 q0];split
 ·rename_i e;rw[e]
 ·rfl
theorem del_req(h0:0≤op)(h1:op<t.operators.length){q:Int}(q0:0≤q):(opAt (reqT t op) q).del=(opAt t q).del:=by
 rw[an9 h0 h1 q0];split
 ·rename_i e;rw[e]
 ·rfl
theorem cost_req(h0:0≤op)(h1:op<t.operators.length){q:Int}(q0:0≤q):(opAt (reqT t op) q).cost=(opAt t q).cost:=by
 rw[an9 h0 h1 q0];split
 ·rename_i e;rw[e]
 ·rfl
theorem add_req(h0:0≤op)(h1:op<t.operators.length){q x:Int}(q0:0≤q):x ∈ (opAt (reqT t op) q).add↔x ∈ (opAt t q).add∨q=op∧x=t.facts:=by
 rw[an9 h0 h1 q0];split
 ·rename_i e;subst e;simp
 ·rename_i e;simp[e]
theorem can_req(ht:j8 t)(h0:0≤op)(h1:op<t.operators.length){q:Int}(q0:0≤q)(q1:q<t.operators.length){s:Li}{b:Bool}:can (reqT t op) (up t.facts s b) q↔can t s q:=by
 unfold can
 rw[pre_req h0 h1 q0]
 have hp:=(op_ok ht q0 q1).1.1
 refine⟨fun h x hx=> ?_,fun h x hx=>ag3.2 (.inl (h x hx))⟩
 rcases ag3.1 (h x hx) with k|⟨_,rfl⟩
 ·exact k
 ·have:=hp.2 _ hx;omega
theorem aft_req(ht:j8 t)(h0:0≤op)(h1:op<t.operators.length){q:Int}(q0:0≤q)(q1:q<t.operators.length){s:Li}{b:Bool}(hs:SetN s t.facts):aft (reqT t op) (up t.facts s b) q=up t.facts (aft t s q) (b||decide (q=op)):=by
 obtain⟨k1,k2,k3,k4⟩:=(op_ok ht q0 q1).1
 refine((setN_up ht.n0 (W7 t s q)).eq_of fun x x0 x1=> ?_).symm
 rw[add_req h0 h1 q0,del_req h0 h1 q0,ag3,ag3]
 unfold aft
 rw[ae9]
 have d1:t.facts ∉ (opAt t q).del:=fun h=>by have:=k3.2 _ h;omega
 have d2:t.facts ∉ (opAt t q).add:=fun h=>by have:=k2.2 _ h;omega
 have d3:t.facts ∉ s:=fun h=>by have:=hs.2 _ h;omega
 by_cases e:x=t.facts
 ·subst e;simp[d1,d2,d3,or_comm]
 ·have:x<t.facts:=by change x<t.facts+1 at x1;omega
  simp[e,x0,this]
theorem ends_req(ht:j8 t)(h0:0≤op)(h1:op<t.operators.length):∀{p s:Li} {b:Bool},SetN s t.facts→Val t p→ends (reqT t op) (up t.facts s b) p=(ends t s p).map fun e=>up t.facts e (b||decide (op ∈ p))
 |[],s,b,_,_=>by simp[ends]
 |q::p,s,b,hs,hv=>by
  have hq:=hv q (by simp)
  simp only[ends]
  rw[I9 (can_req ht h0 h1 hq.1 hq.2)]
  split
  ·rw[aft_req ht h0 h1 hq.1 hq.2 hs,ends_req ht h0 h1 (W7 t s q) (fun x hx=>hv x (List.mem_cons_of_mem _ hx))]
   have:(b||decide (q=op)||decide (op ∈ p))=(b||decide (op ∈ q::p)):=by
    rw[Bool.or_assoc];congr 1
    rw[← Bool.decide_or];apply decide_eq_decide.2
    rw[List.mem_cons,eq_comm]
   rw[this]
  ·rfl
theorem works_req(ht:j8 t)(h0:0≤op)(h1:op<t.operators.length){p s:Li}{b:Bool}(hs:SetN s t.facts)(hv:Val t p):Y6 (reqT t op) (up t.facts s b) p↔Y6 t s p∧(b=true∨op ∈ p):=by
 unfold Y6
 rw[ends_req ht h0 h1 hs hv]
 have hg:∀x ∈ t.goal,x<t.facts:=fun x hx=>(ht.goal.2 x hx).2
 constructor
 ·rintro ⟨e,e1,e2⟩
  cases e':ends t s p with
  |none=>rw[e'] at e1;cases e1
  |some u=>
   rw[e'] at e1
   simp only[Option.map_some,Option.some.injEq] at e1
   subst e1
   have hu:=ends_setN hs e'
   refine⟨⟨u,rfl,fun x hx=> ?_⟩,?_⟩
   ·rcases ag3.1 (e2 x (List.mem_append_left _ hx)) with k|⟨_,rfl⟩
    ·exact k
    ·have:=hg _ hx;omega
   ·rcases ag3.1 (e2 t.facts (List.mem_append_right _ (by simp))) with k|⟨k,_⟩
    ·have:=hu.2 _ k;omega
    ·simpa using k
 ·rintro ⟨⟨u,u1,u2⟩,k⟩
  rw[u1]
  refine⟨_,rfl,fun x hx=> ?_⟩
  rcases List.mem_append.1 hx with hx|hx
  ·exact ag3.2 (.inl (u2 x hx))
  ·exact ag3.2 (.inr ⟨by simpa using k,by simpa using hx⟩)
theorem val_req{p:Li}:Val (reqT t op) p↔Val t p:=by unfold Val;rw[req_len]
theorem pcost_req(h0:0≤op)(h1:op<t.operators.length):∀{p:Li},Val t p→U5 (reqT t op) p=U5 t p
 |[],_=>rfl
 |q::p,hv=>by
  simp only[U5]
  rw[cost_req h0 h1 (hv q (by simp)).1,pcost_req h0 h1 fun x hx=>hv x (List.mem_cons_of_mem _ hx)]
theorem at8(ht:j8 t)(h0:0≤op)(h1:op<t.operators.length){p:Li}(hv:Val t p):Y6 (reqT t op) (reqT t op).init p↔Y6 t t.init p∧op ∈ p:=by
 have:=works_req ht h0 h1 (b:=false) ht.init hv
 have e:up t.facts t.init false=(reqT t op).init:=by simp[up,reqT]
 rw[e] at this;rw[this];simp
theorem SetN.weak{l:Li}{n m:Int}(h:SetN l n)(hm:n≤m):SetN l m:=⟨h.1,fun x hx=>by have:=h.2 x hx;omega⟩
theorem req_ok(ht:j8 t)(h0:0≤op)(h1:op<t.operators.length)(hf:t.facts<24):j8 (reqT t op) where
 n0:=by have:=ht.n0;show 0≤t.facts+1;omega
 n1:=by show t.facts+1≤24;omega
 init:=ht.init.weak (by show t.facts≤t.facts+1;omega)
 goal:=by
  have:=setN_up (b:=true) ht.n0 ht.goal
  simpa[up,reqT] using this
 ops:=by rw[req_len];exact ht.ops
 op:=fun o ho=>by
  obtain⟨q,q0,q1,q2⟩:=C2 ho
  rw[req_len] at q1
  rw[Y8 q0 (by rw[req_len];exact q1)] at q2
  cases q2
  obtain⟨⟨k1,k2,k3,k4⟩,k5⟩:=op_ok ht q0 q1
  have hle:t.facts≤(reqT t op).facts:=by show t.facts≤t.facts+1;omega
  refine⟨⟨by rw[pre_req h0 h1 q0];exact k1.weak hle,?_,by rw[del_req h0 h1 q0];exact k3.weak hle,fun x hx=> ?_⟩,by unfold ab5;rw[cost_req h0 h1 q0];exact k5⟩
  ·rw[an9 h0 h1 q0]
   split
   ·rename_i e;subst e
    have:=setN_up (b:=true) ht.n0 k2
    simpa[up,reqT] using this
   ·exact k2.weak hle
  ·rw[del_req h0 h1 q0]
   rcases(add_req h0 h1 q0).1 hx with hx|⟨_,rfl⟩
   ·exact k4 x hx
   ·exact fun h=>by have:=k3.2 _ h;omega
theorem rt_req(ht:j8 t)(h0:0≤op)(h1:op<t.operators.length){s:Li}(h:Rt (reqT t op) s):∃u b,Rt t u∧s=up t.facts u b:=by
 induction h with
 |init=>exact⟨t.init,false,.init,by simp[up,reqT]⟩
 |@step s q h q0 q1 hc ih=>
  obtain⟨u,b,hu,rfl⟩:=ih
  rw[req_len] at q1
  exact⟨_,_,hu.step q0 q1 ((can_req ht h0 h1 q0 q1).1 hc),aft_req ht h0 h1 q0 q1 (hu.setN ht)⟩
theorem many_req(ht:j8 t)(h0:0≤op)(h1:op<t.operators.length){l:LL}(hl:l.length≤1000)(hm:∀s,Rt t s→s ∈ l):¬ Many (reqT t op):=by
 rintro ⟨m,m1,m2,m3⟩
 have:=aj4 m1 (S:=l.map (up t.facts · false)++l.map (up t.facts · true)) fun s hs=>by
  obtain⟨u,b,hu,rfl⟩:=rt_req ht h0 h1 (m3 s hs)
  cases b
  ·exact List.mem_append_left _ (List.mem_map.2 ⟨u,hm u hu,rfl⟩)
  ·exact List.mem_append_right _ (List.mem_map.2 ⟨u,hm u hu,rfl⟩)
 simp at this
 omega
/-! ### Without the operator -/
end
end Ab
end
section
namespace Ab
open Go
section
variable {t:e7}{op:Int}
end
end Ab
end
section
namespace Ab
open Go
section
variable {t:e7}{op:Int}
/-! ### With and Without -/
theorem contr_eq(t:e7)(op:Int):∃f,I4 t op=some f∧H0 t op=some f∧((f=⟨0,0⟩∧j8 t∧0≤op∧op<t.operators.length)∨(f.code ≠ 0∧¬ (j8 t∧0≤op∧op<t.operators.length))):=by
 obtain⟨f,h1,h2,h3⟩:=ai4 t
 unfold I4 H0
 rw[h1]
 simp only[oB]
 rcases h3 with⟨rfl,ht⟩|⟨hc,hn⟩
 ·by_cases c:0≤op∧op<t.operators.length
  ·refine⟨⟨0,0⟩,?_,?_,.inl ⟨rfl,ht,c⟩⟩
   ·rw[if_neg (by simp),if_neg (by simp;omega)]
   ·rw[if_neg (by simp),if_neg (by simp;omega)]
  ·refine⟨⟨3, -6⟩,?_,?_,.inr ⟨by simp,fun h=>c h.2⟩⟩
   ·rw[if_neg (by simp),if_pos (by simp;omega)]
   ·rw[if_neg (by simp),if_pos (by simp;omega)]
 ·refine⟨f,?_,?_,.inr ⟨hc,fun h=>hn h.1⟩⟩
  ·rw[if_pos (by simp[hc])]
  ·rw[if_pos (by simp[hc])]
theorem require_eq(ht:j8 t)(h0:0≤op)(h1:op<t.operators.length)(hf:t.facts ≠ 24):K7 t op=some (reqT t op,⟨0,0⟩):=by
 obtain⟨f,_,k2,k4⟩:=contr_eq t op
 rcases k4 with⟨rfl,_⟩|⟨_,k4⟩
 ·have n0:=ht.n0;have n1:=ht.n1
  have l1:=ht.goal.len24 ht.n1
  have l2:=(op_ok ht h0 h1).1.2.1.len24 ht.n1
  unfold K7
  rw[k2]
  simp only[oB]
  have a1:app 8 t.goal [t.facts]=some (t.goal++[t.facts]):=by unfold app;rw[if_pos (by simp;omega)]
  have a2:app 8 (opAt t op).add [t.facts]=some ((opAt t op).add++[t.facts]):=by unfold app;rw[if_pos (by simp;omega)]
  rw[if_neg (by simp),if_neg hf,cclone_eq ht]
  simp only[oB,Y8 h0 h1,a1,a2,w7 (show -9223372036854775808≤t.facts+1 by omega) (by omega)]
  rfl
 ·exact absurd ⟨ht,h0,h1⟩ k4
inductive WithR(t:e7)(op:Int):Int×g8→Prop
 |bad {f:g8} (h:¬ (j8 t∧0≤op∧op<t.operators.length)) (hc:f.code ≠ 0) (hf:I4 t op=some f):WithR t op (0,f)
 |big (h:j8 t) (h0:0≤op) (h1:op<t.operators.length) (hf:t.facts=24):WithR t op (0,⟨10, -8⟩)
 |opt {r:Int×g8} (h:j8 t) (h0:0≤op) (h1:op<t.operators.length) (hf:t.facts<24) (hr:OptR (reqT t op) r):WithR t op r
inductive OutR(t:e7)(op:Int):Int×g8→Prop
 |bad {f:g8} (h:¬ (j8 t∧0≤op∧op<t.operators.length)) (hc:f.code ≠ 0) (hf:I4 t op=some f):OutR t op (0,f)
 |opt {r:Int×g8} (h:j8 t) (h0:0≤op) (h1:op<t.operators.length) (hr:OptR (forT t op) r):OutR t op r
theorem with_spec(t:e7)(op:Int):∃r,P8 t op=some r∧WithR t op r:=by
 obtain⟨f,k1,k2,k4⟩:=contr_eq t op
 unfold P8
 rw[k1]
 simp only[oB]
 rcases k4 with⟨rfl,ht,h0,h1⟩|⟨hc,hn⟩
 ·rw[if_neg (by simp)]
  by_cases e:t.facts=24
  ·unfold K7
   rw[k2]
   simp only[oB]
   rw[if_neg (by simp),if_pos e]
   simp only[oB]
   rw[if_pos (by simp)]
   exact⟨_,rfl,.big ht h0 h1 e⟩
  ·rw[require_eq ht h0 h1 e]
   obtain⟨r,r1,r2⟩:=optimal_spec (reqT t op)
   simp only[oB]
   rw[if_neg (by simp),r1]
   exact⟨r,rfl,.opt ht h0 h1 (by have:=ht.n1;omega) r2⟩
 ·rw[if_pos (by simp[hc])]
  exact⟨_,rfl,.bad hn hc k1⟩
end
/-! ### The fixed task -/
end Ab
end
section
namespace Ab
open Go
def h11O:f9:=⟨[],[0],[],2⟩
def h11T:e7:=⟨1,[],[0],[h11O]⟩
theorem aa9:j8 h11T where
 n0:=by decide
 n1:=by decide
 init:=U4 _
 goal:=setN1 0 (by decide) (by decide)
 ops:=by decide
 op o ho:=by
  simp only[h11T,List.mem_singleton] at ho
  subst ho
  exact⟨⟨U4 _,setN1 0 (by decide) (by decide),U4 _,by simp[h11O]⟩,by decide,by decide⟩
theorem h11_at:opAt h11T 0=h11O:=rfl
theorem h11_aft0:aft h11T [] 0=[0]:=by
 refine((setN1 0 (by decide) (by decide):SetN [0] 1).eq_of (p:=fun x=>x ∈ (opAt h11T 0).add∨x ∈ []∧x ∉ (opAt h11T 0).del) fun x h0 h1=> ?_).symm
 simp[h11_at,h11O]
theorem h11_aft1:aft h11T [0] 0=[0]:=by
 refine((setN1 0 (by decide) (by decide):SetN [0] 1).eq_of (p:=fun x=>x ∈ (opAt h11T 0).add∨x ∈ [0]∧x ∉ (opAt h11T 0).del) fun x h0 h1=> ?_).symm
 simp[h11_at,h11O]
theorem h11_rt{s:Li}(h:Rt h11T s):s ∈ [([]:Li),[0]]:=by
 induction h with
 |init=>simp[h11T]
 |@step s op _ h0 h1 _ ih=>
  have:op=0:=by simp only[h11T,List.length_singleton] at h1;omega
  subst this
  simp only[List.mem_cons,List.not_mem_nil,or_false] at ih ⊢
  rcases ih with rfl|rfl
  ·exact .inr h11_aft0
  ·exact .inr h11_aft1
theorem h11_worlds:Q4 h11T []=some [[]]:=by
 have e1:chk0 (([]:Li).length:Int)=some ():=rfl
 have e2:shlW .i64 1 (([]:Li).length:Int)=1:=by decide
 have e4:forR 0 (([]:Li).length:Int) (ae0 [] 0) []=some []:=rfl
 have e5:H3 h11T.init [] []=some []:=by
  rw[show h11T.init=[] from rfl,update_eq (n:=1) (by decide) .nil (by simp) (U4 _) (U4 _)]
  exact congrArg some ((U4 1).eq_of fun x _ _=>by simp[h11T]).symm
 have e3:forR 0 1 (O6 h11T []) []=some [[]]:=by
  show forN (O6 h11T []) 1 0 []=_
  simp only[forN]
  unfold O6
  rw[e4]
  simp only[oB,e5]
  rfl
 unfold Q4
 rw[e1,e2]
 simp only[oB]
 rw[if_pos (by decide),e3]
 simp only[oB]
 obtain⟨r,r1,r2,r3,_⟩:=normal_eq (l:=[([]:Li)]) (by simp)
 rw[r1,Ord.ext r2 (by simp) r3]
 rfl
def h11E0:d9:=⟨[[]], -1,0⟩
def h11E1:d9:=⟨[[0]],0,0⟩
theorem h11_breadth:F3 [[]] h11T.facts h11T.init h11T.goal h11T.operators h11T.facts h11T.init h11T.goal h11T.operators=some ([0],true,true):=by
 have hn:=aa9.init
 have h0s:SetN [0] h11T.facts:=setN1 0 (by decide) (by decide)
 have k0:G4 [[]]=some (keyK [[]]):=kone_eq (fun x hx=>by cases hx) (by simp)
 have k1:G4 [[0]]=some (keyK [[0]]):=kone_eq (aj2 aa9 h0s) (by simp)
 have ne:keyK [[0]] ≠ keyK [[]]:=fun e=>by
  have:=kone_inj aa9 h0s (U4 _) e
  cases this
 have g0:L7 [[]] (⟨h11T.facts,h11T.init,h11T.goal,h11T.operators⟩:e7)=some false:=by
  unfold L7
  rw[as8 .nil aa9.goal.1 (by simp)]
  simp only[oB]
  rw[B4 (by simp[h11T])]
 have g1:L7 [[0]] (⟨h11T.facts,h11T.init,h11T.goal,h11T.operators⟩:e7)=some true:=by
  unfold L7
  rw[as8 h0s.1 aa9.goal.1 (by simp)]
  simp only[oB]
  rw[o7 (by simp[h11T])]
 have a0:J4 (⟨h11T.facts,h11T.init,h11T.goal,h11T.operators⟩:e7) [[]] 0=some [[0]]:=by
  have:=after_one aa9 (s:=[]) (U4 _) (op:=0) (by decide) (by decide)
  rw[h11_aft0] at this
  exact this
 have m0:¬ 0<Option.getD (mget (mset ([]:List (ByteArray×Int)) (keyK [[]]) 1) (keyK [[0]])) 0:=by
  rw[E0,if_neg ne]
  simp[mget]
 have ix0:ix h11T.operators 0=some h11O:=rfl
 have s0:N2 [[]] h11O.pre=some true:=by
  rw[show h11O.pre=[] from rfl,as8 .nil .nil (by simp),o7 (by simp)]
 have r4:G7 h11T.facts h11T.init h11T.goal h11T.operators [h11E0] (mset ([]:List (ByteArray×Int)) (keyK [[]]) 1) 0 h11E0=some (.inl (mset (mset ([]:List (ByteArray×Int)) (keyK [[]]) 1) (keyK [[0]]) 1,[h11E0,h11E1])):=by
  have q:rngX 0 (h11T.operators.length:Int) (y8 h11T.facts h11T.init h11T.goal h11T.operators 0 h11E0) (mset ([]:List (ByteArray×Int)) (keyK [[]]) 1,[h11E0])=some (.inl (mset (mset ([]:List (ByteArray×Int)) (keyK [[]]) 1) (keyK [[0]]) 1,[h11E0,h11E1])):=by
   show rngN (y8 h11T.facts h11T.init h11T.goal h11T.operators 0 h11E0) 1 0 (mset ([]:List (ByteArray×Int)) (keyK [[]]) 1,[h11E0])=_
   have b:y8 h11T.facts h11T.init h11T.goal h11T.operators 0 h11E0 0 (mset ([]:List (ByteArray×Int)) (keyK [[]]) 1,[h11E0])=some (.inl (mset (mset ([]:List (ByteArray×Int)) (keyK [[]]) 1) (keyK [[0]]) 1,[h11E0,h11E1])):=by
    unfold y8
    have en:h11E0.node=[[]]:=rfl
    dsimp only
    simp only[ix0,oB,en,s0,if_true,a0,k1]
    rw[if_neg m0,if_neg (by simp)]
    rfl
   simp only[rngN,b]
  unfold G7
  rw[q]
  rfl
 have st0:y6 h11T.facts h11T.init h11T.goal h11T.operators h11T.facts h11T.init h11T.goal h11T.operators ([h11E0],mset ([]:List (ByteArray×Int)) (keyK [[]]) 1,0)=some (.inl ([h11E0,h11E1],mset (mset ([]:List (ByteArray×Int)) (keyK [[]]) 1) (keyK [[0]]) 1,1)):=by
  unfold y6
  dsimp only
  have e0:ix [h11E0] 0=some h11E0:=rfl
  have en:h11E0.node=[[]]:=rfl
  rw[if_pos (by simp),e0]
  simp only[oB,en,g0,K6,I0]
  rw[if_neg (by simp),r4]
  simp only[oB]
  rw[w7 (by decide) (by decide)]
  rfl
 have lp:Loop (C1 [h11E0,h11E1]) ([],1)=some [0]:=by
  have b1:C1 [h11E0,h11E1] ([],1)=some (.inl ([0],0)):=rfl
  have b2:C1 [h11E0,h11E1] ([0],0)=some (.inr [0]):=rfl
  rw[Loop_eq,b1]
  dsimp only
  rw[Loop_eq,b2]
 have st1:y6 h11T.facts h11T.init h11T.goal h11T.operators h11T.facts h11T.init h11T.goal h11T.operators ([h11E0,h11E1],mset (mset ([]:List (ByteArray×Int)) (keyK [[]]) 1) (keyK [[0]]) 1,1)=some (.inr (.inr ([0],true,true))):=by
  unfold y6
  dsimp only
  have e0:ix [h11E0,h11E1] 1=some h11E1:=rfl
  have en:h11E1.node=[[0]]:=rfl
  rw[if_pos (by simp),e0]
  simp only[oB,en,g1,if_true,lp]
  rfl
 unfold F3
 rw[k0]
 simp only[oB]
 rw[show(⟨[[]], -1,0⟩:d9)=h11E0 from rfl,Loop_eq,st0]
 dsimp only
 rw[Loop_eq,st1]
 rfl
theorem h11_plan:ab2 h11T []=some ([0],true,⟨0,0⟩):=by
 have u:H9 h11T []=some ⟨0,0⟩:=by
  obtain⟨f,h1,_,h3⟩:=ai4 h11T
  rcases h3 with⟨rfl,_⟩|⟨_,hn⟩
  ·unfold H9
   rw[h1]
   simp only[oB]
   rw[if_neg (by simp),if_neg (by simp),isSet_eq]
   simp only[oB,K8]
   rw[ifNN (U4 _)]
  ·exact absurd aa9 hn
 have sm:C3 [[]] h11T.facts h11T.init h11T.goal h11T.operators=some true:=small_of aa9 (S:=[[],[0]]) (by simp) fun s hs=>h11_rt hs
 unfold ab2
 rw[u]
 simp only[oB]
 rw[if_neg (by simp)]
 simp only[ac4,oB,h11_worlds,sm]
 rw[if_neg (by simp),h11_breadth]
 rfl
theorem h11_works:Y6 h11T h11T.init [0]:=by
 refine⟨[0],?_,by simp[h11T]⟩
 have hc:can h11T [] 0:=by unfold can;rw[h11_at];simp[h11O]
 show ends h11T [] [0]=_
 simp only[ends]
 rw[if_pos (o7 hc),h11_aft0]
theorem h11_val:Val h11T [0]:=fun x hx=>by
 rw[List.mem_singleton] at hx
 subst hx
 exact⟨by decide,by decide⟩
theorem h11_least:∀{p:Li},Val h11T p→(0:Int) ∈ p→2≤U5 h11T p
 |[],_,h=>by cases h
 |op::r,hv,_=>by
  have h1:=av9 aa9 (plan:=r) fun x hx=>hv x (List.mem_cons_of_mem _ hx)
  have h2:=hv op (by simp)
  have:op=0:=by simp only[h11T,List.length_singleton] at h2;omega
  subst this
  simp only[U5]
  rw[h11_at]
  simp only[h11O]
  omega
theorem h11_with:P8 h11T 0=some (2,⟨0,0⟩):=by
 obtain⟨r,hr0,h2⟩:=with_spec h11T 0
 rw[hr0]
 cases h2 with
 |bad h hc hf=>exact absurd ⟨aa9,by decide,by decide⟩ h
 |big h h0 h1 hf=>exact absurd hf (by decide)
 |opt h h0 h1 hf hr=>
  cases hr with
  |bad h' _ _=>exact absurd (req_ok h h0 h1 hf) h'
  |many _ hm=>exact absurd hm (many_req h h0 h1 (l:=[[],[0]]) (by simp) fun s hs=>h11_rt hs)
  |none _ _ hn=>exact absurd ((at8 h h0 h1 h11_val).2 ⟨h11_works,by simp⟩) (hn [0] (val_req.2 h11_val))
  |@some k plan _ _ _ _ hv hw hk hl=>
   have hv':=val_req.1 hv
   have a:=hl [0] (val_req.2 h11_val) ((at8 h h0 h1 h11_val).2 ⟨h11_works,by simp⟩)
   rw[pcost_req h0 h1 h11_val] at a
   have b:=h11_least hv' ((at8 h h0 h1 hv').1 hw).2
   rw[pcost_req h0 h1 hv'] at hk
   have c:U5 h11T [0]=2:=rfl
   have:k=2:=by omega
   rw[this]
theorem h11_eq:Q0=some true:=by
 have ht:ab7=some h11T:=rfl
 unfold Q0
 simp only[ht,oB,h11_plan,h11_with,if_true,ints_eq,m6,decide_true]
end Ab
end
section
namespace Ab
open Go
def tcInter(t:e7)(a b:Int):Prop:=
 (∃x ∈ (opAt t a).add,x ∈ (opAt t b).pre)∨(∃x ∈ (opAt t a).del,x ∈ (opAt t b).pre)∨(∃x ∈ (opAt t b).add,x ∈ (opAt t a).pre)∨(∃x ∈ (opAt t b).del,x ∈ (opAt t a).pre)∨(∃x ∈ (opAt t a).add,x ∈ (opAt t b).del)∨(∃x ∈ (opAt t a).del,x ∈ (opAt t b).add)
theorem tc_ni{t:e7}{a b:Int}(h:¬ tcInter t a b):NI t a b:=by
 unfold tcInter at h
 simp only[not_or] at h
 obtain⟨h1,h2,h3,h4,h5,h6⟩:=h
 exact⟨fun x hx hb=>h1 ⟨x,hx,hb⟩,fun x hx hb=>h2 ⟨x,hx,hb⟩,fun x hx hb=>h3 ⟨x,hx,hb⟩,fun x hx hb=>h4 ⟨x,hx,hb⟩,fun x hx hb=>h5 ⟨x,hx,hb⟩,fun x hx hb=>h6 ⟨x,hx,hb⟩⟩
theorem tc_ifDec{p q:Prop}:(if dec p=true then some true else some (dec q))=some (dec (p∨q)):=by
 by_cases h:p
 ·rw[ifP h,o7 (.inl h)]
 ·rw[ifN h];exact congrArg some (I9 ⟨.inr,fun g=>g.resolve_left h⟩)
theorem tc_interfere{t:e7}(ht:j8 t){a b:Int}(a0:0≤a)(a1:a<t.operators.length)(b0:0≤b)(b1:b<t.operators.length):E7 t a b=some (dec (tcInter t a b)):=by
 have hn:=ht.n1
 obtain⟨⟨p1,p2,p3,_⟩,_⟩:=ht.at a0 a1
 obtain⟨⟨q1,q2,q3,_⟩,_⟩:=ht.at b0 b1
 have:=p1.len;have:=p2.len;have:=p3.len;have:=q1.len;have:=q2.len;have:=q3.len
 unfold E7
 rw[Y8 a0 a1,Y8 b0 b1]
 simp only[oB]
 rw[ad4 q1.1 (by omega),ad4 q1.1 (by omega),ad4 p1.1 (by omega),ad4 p1.1 (by omega),ad4 q3.1 (by omega),ad4 q2.1 (by omega)]
 simp only[oB,tc_ifDec]
 rfl
/-! ### The pairs of steps whose order matters -/
structure PrD(t:e7)(plan:Li)(i j:Int)(c:List (Int×Int)):Prop where
 len:(c.length:Int)≤8 * i+j
 rng:∀q ∈ c,0≤q.1∧q.1<q.2∧q.2<plan.length
 all:∀a b x y,(a<i∨a=i∧b<j)→a<b→ix plan a=some x→ix plan b=some y→tcInter t x y→(a,b) ∈ c
theorem deorder_all{t:e7}(ht:j8 t){plan:Li}(hp:∀x ∈ plan,0≤x∧x<t.operators.length)(h7:plan.length≤7):∃c,forR 0 (plan.length:Int) (D4 t plan) []=some c∧PrD t plan plan.length 0 c:=by
 obtain⟨c,r1,r2⟩:=C4 (body:=D4 t plan) (n:=(plan.length:Int)) (s:=[]) (fun i c=>PrD t plan i 0 c) (by omega) ⟨by simp,by simp,fun a b x y h _ ha=>by have:=(w8 ha).1;have:=(w8 ha).2.1;omega⟩ (fun i c i0 i1 hP=>by
  obtain⟨c',q1,q2⟩:=tc_forR (lo:=i+1) (body:=H5 t plan i) (n:=(plan.length:Int)) (s:=c) (fun j c=>PrD t plan i j c) (by omega) ⟨by have:=hP.len;omega,hP.rng,fun a b x y h hab=>hP.all a b x y (by omega) hab⟩ (fun j c j0 j1 hQ=>by
   obtain⟨x,hx,_⟩:=m8 (l:=plan) i0 i1
   obtain⟨y,hy,_⟩:=m8 (l:=plan) (i:=j) (by omega) j1
   have hxo:=hp x (v8 hx);have hyo:=hp y (v8 hy)
   have hl:=hQ.len
   unfold H5
   simp only[hx,hy,oB,tc_interfere ht hxo.1 hxo.2 hyo.1 hyo.2]
   by_cases e:tcInter t x y
   ·rw[ifP e,app,if_pos (by simp;omega)]
    refine⟨_,rfl,by rw[List.length_append,List.length_singleton];omega,fun q hq=> ?_,fun a b x' y' h hab ha hb hn=> ?_⟩
    ·rcases List.mem_append.1 hq with hq|hq
     ·exact hQ.rng q hq
     ·rw[List.mem_singleton] at hq
      subst hq
      exact⟨i0,by dsimp only;omega,j1⟩
    ·by_cases e2:a=i∧b=j
     ·obtain⟨rfl,rfl⟩:=e2
      simp
     ·exact List.mem_append_left _ (hQ.all a b x' y' (by omega) hab ha hb hn)
   ·rw[ifN e]
    refine⟨_,rfl,by omega,hQ.rng,fun a b x' y' h hab ha hb hn=> ?_⟩
    by_cases e2:a=i∧b=j
    ·obtain⟨rfl,rfl⟩:=e2
     rw[hx] at ha;cases ha
     rw[hy] at hb;cases hb
     exact absurd hn e
    ·exact hQ.all a b x' y' (by omega) hab ha hb hn)
  unfold D4
  rw[q1]
  refine⟨_,rfl,by have:=q2.len;omega,q2.rng,fun a b x y h hab ha hb hn=>q2.all a b x y ?_ hab ha hb hn⟩
  have:=(w8 hb).2.1;have:=(w8 hb).1
  omega)
 exact⟨c,r1,r2⟩
/-! ### The order of times -/
section
variable {plan:Li}{X:Nat→Int}
def opN(plan:Li)(i:Nat):Int:=(plan[i]?).getD 0
def turnF(k:Nat)(X:Nat→Int)(now:Int):List Nat:=((List.range k).reverse).filter fun i=>decide (X i=now)
def partF(k:Nat)(X:Nat→Int)(now:Int)(i:Nat):List Nat:=(((List.range k).drop i).reverse).filter fun i=>decide (X i=now)
theorem partF_step{k:Nat}{now:Int}{i:Nat}(h:i<k):partF k X now i=partF k X now (i+1)++(if X i=now then [i] else []):=by
 unfold partF
 have e:(List.range k).drop i=i::(List.range k).drop (i+1):=by
  rw[List.drop_eq_getElem_cons (by simpa using h)]
  simp
 rw[e,List.reverse_cons,List.filter_append]
 congr 1
 by_cases c:X i=now
 ·rw[if_pos c];simp[c]
 ·rw[if_neg c];simp[c]
theorem partF_len{k:Nat}{now:Int}{i:Nat}:(partF k X now i).length≤k:=by
 unfold partF
 refine Nat.le_trans (List.length_filter_le _ _) ?_
 rw[List.length_reverse,List.length_drop,List.length_range]
 omega
def I1(k:Nat)(X:Nat→Int)(m:Nat):List Nat:=(List.range m).flatMap fun(now:Nat)=>turnF k X (now:Int)
theorem orderL_succ{k m:Nat}:I1 k X (m+1)=I1 k X m++turnF k X (m:Int):=by
 unfold I1
 rw[List.range_succ,List.flatMap_append]
 simp
theorem turnF_len{k:Nat}{now:Int}:(turnF k X now).length≤k:=by
 unfold turnF
 refine Nat.le_trans (List.length_filter_le _ _) ?_
 rw[List.length_reverse,List.length_range]
 omega
theorem aj7{k:Nat}{now:Int}{i:Nat}:i ∈ turnF k X now↔i<k∧X i=now:=by
 unfold turnF
 simp
theorem orderL_mem{k:Nat}(hX:∀i,i<k→0≤X i∧X i≤k){i:Nat}:i ∈ I1 k X (k+1)↔i ∈ List.range k:=by
 unfold I1
 simp only[List.mem_flatMap,List.mem_range,aj7]
 constructor
 ·rintro ⟨_,_,h,_⟩;exact h
 ·intro h
  have:=hX i h
  exact⟨(X i).toNat,by omega,h,by omega⟩
theorem orderL_pair{k m:Nat}:(I1 k X m).Pairwise (fun a b=>(a<k∧b<k)∧(X a<X b∨X a=X b∧b<a)):=by
 unfold I1
 rw[List.pairwise_flatMap]
 refine⟨fun now _=> ?_,?_⟩
 ·have h:(turnF k X (now:Int)).Pairwise (fun a b=>b<a):=by
   unfold turnF
   refine List.Pairwise.filter _ ?_
   rw[List.pairwise_reverse]
   exact List.pairwise_lt_range
  refine List.Pairwise.imp_of_mem ?_ h
  intro a b ha hb hab
  have h1:=aj7.1 ha;have h2:=aj7.1 hb
  exact⟨⟨h1.1,h2.1⟩,.inr ⟨by omega,hab⟩⟩
 ·refine List.Pairwise.imp ?_ List.pairwise_lt_range
  intro a b hab x hx y hy
  have h1:=aj7.1 hx;have h2:=aj7.1 hy
  exact⟨⟨h1.1,h2.1⟩,.inl (by omega)⟩
theorem orderL_perm{k:Nat}(hX:∀i,i<k→0≤X i∧X i≤k):(I1 k X (k+1)).Perm (List.range k):=by
 have hn:(I1 k X (k+1)).Nodup:=by
  refine List.Pairwise.imp ?_ (orderL_pair (k:=k) (X:=X) (m:=k+1))
  rintro a b ⟨_,h⟩ e
  subst e
  omega
 exact(List.perm_ext_iff_of_nodup hn List.nodup_range).2 fun i=>orderL_mem hX
theorem inner_eq{a62:Li×Bool×g8}(h7:plan.length≤7)(hX:∀i:Nat,i<plan.length→ix a62.1 ((i:Int)+1)=some (X i))(now:Int)(c:Li)(hc:c.length≤1000):
  Loop (A0 plan a62 now) (c,(plan.length:Int) - 1)=some (c++(turnF plan.length X now).map (opN plan)):=by
 obtain⟨r,r1,r2⟩:=S4 (body:=A0 plan a62 now) (fun q=> -1≤q.2∧q.2<plan.length∧q.1=c++(partF plan.length X now (q.2+1).toNat).map (opN plan)) (fun r=>r=c++(turnF plan.length X now).map (opN plan)) (fun q=>(q.2+1).toNat) (s:=(c,(plan.length:Int) - 1)) ⟨by dsimp only;omega,by dsimp only;omega,by
   dsimp only
   rw[show((plan.length:Int) - 1+1).toNat=plan.length by omega]
   unfold partF
   rw[List.drop_of_length_le (by simp)]
   simp⟩ (fun⟨c',i⟩ ⟨g0,g1,g2⟩=>by
  dsimp only at g0 g1 g2 ⊢
  unfold A0
  dsimp only
  by_cases ci:0≤i
  ·have hi:(i.toNat:Int)=i:=by omega
   have hx:=hX i.toNat (by omega)
   rw[hi] at hx
   have hst:=partF_step (X:=X) (k:=plan.length) (now:=now) (i:=i.toNat) (by omega)
   have hlen:=partF_len (X:=X) (k:=plan.length) (now:=now) (i:=i.toNat+1)
   rw[show(i+1).toNat=i.toNat+1 by omega] at g2
   rw[if_pos ci,w7 (by omega) (by omega),hx]
   simp only[oB]
   by_cases e:X i.toNat=now
   ·rw[if_pos e] at hst ⊢
    obtain⟨x,hpx,gx⟩:=m8 (l:=plan) ci (by omega)
    have ho:opN plan i.toNat=x:=by unfold opN;rw[gx];rfl
    rw[hpx]
    simp only[oB]
    rw[app,if_pos (by rw[g2,List.length_append,List.length_map];simp;omega)]
    simp only[oB]
    rw[w7 (by omega) (by omega)]
    refine .inl ⟨_,rfl,⟨by dsimp only;omega,by dsimp only;omega,?_⟩,by dsimp only;omega⟩
    dsimp only
    rw[show(i - 1+1).toNat=i.toNat by omega,hst,g2,List.map_append,← List.append_assoc]
    simp[ho]
   ·rw[if_neg e] at hst ⊢
    simp only[oB]
    rw[w7 (by omega) (by omega)]
    refine .inl ⟨_,rfl,⟨by dsimp only;omega,by dsimp only;omega,?_⟩,by dsimp only;omega⟩
    dsimp only
    rw[show(i - 1+1).toNat=i.toNat by omega,hst,g2,List.append_nil]
  ·rw[if_neg ci]
   refine .inr ⟨_,rfl,?_⟩
   rw[g2,show(i+1).toNat=0 by omega]
   rfl)
 rw[r1,r2]
theorem outer_eq{a62:Li×Bool×g8}(h7:plan.length≤7)(hX:∀i:Nat,i<plan.length→ix a62.1 ((i:Int)+1)=some (X i)):
  Loop (z6 plan a62) ([],0)=some ((I1 plan.length X (plan.length+1)).map (opN plan)):=by
 obtain⟨r,r1,r2⟩:=S4 (body:=z6 plan a62) (fun q=>0≤q.2∧q.2≤(plan.length:Int)+1∧(q.1.length:Int)≤7 * q.2∧q.1=(I1 plan.length X q.2.toNat).map (opN plan)) (fun r=>r=(I1 plan.length X (plan.length+1)).map (opN plan)) (fun q=>((plan.length:Int)+1 - q.2).toNat) (s:=([],0)) ⟨by simp,by dsimp only;omega,by simp,by simp[I1]⟩ (fun⟨c,now⟩ ⟨g0,g1,g2,g3⟩=>by
  dsimp only at g0 g1 g2 g3 ⊢
  unfold z6
  dsimp only
  by_cases cn:now≤(plan.length:Int)
  ·rw[if_pos cn,inner_eq h7 hX now c (by omega)]
   simp only[oB]
   rw[w7 (by omega) (by omega)]
   have:=turnF_len (X:=X) (k:=plan.length) (now:=now)
   refine .inl ⟨_,rfl,⟨by dsimp only;omega,by dsimp only;omega,by dsimp only;rw[List.length_append,List.length_map];omega,?_⟩,by dsimp only;omega⟩
   dsimp only
   rw[show(now+1).toNat=now.toNat+1 by omega,orderL_succ,List.map_append,g3,show((now.toNat:Nat):Int)=now by omega]
  ·rw[if_neg cn]
   refine .inr ⟨_,rfl,?_⟩
   rw[g3,show now.toNat=plan.length+1 by omega])
 rw[r1,r2]
end
theorem al5(t:e7)(plan:Li):H1 t plan=some true:=by
 unfold H1 M8
 obtain⟨f,p1,_,p3⟩:=aw4 t plan
 rw[p1]
 simp only[oB,h11_eq]
 rcases p3 with⟨rfl,ht,hp⟩|⟨hc,_⟩
 ·rw[if_neg (show ¬ (!((decide ((⟨0,0⟩:g8).code=0)) && (decide ((⟨0,0⟩:g8).index=0))))=true by simp)]
  by_cases h7:7<(plan.length:Int)
  ·rw[if_pos h7]
   simp
  ·rw[if_neg h7,sWorks_eq ht hp ht.init]
   simp only[oB,K8]
   by_cases hw:Y6 t t.init plan
   ·rw[ifNN hw]
    obtain⟨c,r1,r2⟩:=deorder_all ht hp.2 (by omega)
    rw[r1]
    simp only[oB]
    by_cases c30:30<(c.length:Int)
    ·rw[if_pos (by simp[c30])]
    ·rw[if_neg (by simp;omega)]
     obtain⟨ls,l1,l2⟩:=C4 (body:=D5 (c,⟨0,0⟩)) (n:=(c.length:Int)) (s:=[]) (fun j ls=>ls=(c.take j.toNat).map fun q=>(⟨q.1+1,q.2+1,1,1000⟩:Y9)) (by omega) (by simp) (fun j ls j0 j1 hP=>by
      obtain⟨q,hq,gq⟩:=m8 (l:=c) j0 j1
      have hr:=r2.rng q (v8 hq)
      have hlen:ls.length≤30:=by rw[hP,List.length_map,List.length_take];omega
      unfold D5
      dsimp only
      rw[hq]
      simp only[oB]
      rw[w7 (by omega) (by omega),w7 (by omega) (by omega),app,if_pos (by simp;omega)]
      refine⟨_,rfl,?_⟩
      rw[show(j+1).toNat=j.toNat+1 by omega,List.take_add_one,gq,hP,List.map_append]
      rfl)
     rw[l1]
     have l3:ls=c.map fun q=>(⟨q.1+1,q.2+1,1,1000⟩:Y9):=by rw[l2];simp
     simp only[oB]
     rw[w7 (by omega) (by omega)]
     obtain⟨out,o1,o2,T,o3,o4⟩:=earliest_ok (nv:=⟨(plan.length:Int)+1,ls⟩) (n:=(plan.length:Int)+1) rfl (by omega) (by omega) (by dsimp only;rw[l3,List.length_map];omega) (fun l hl=>by
      dsimp only at hl
      rw[l3] at hl
      obtain⟨q,hq,rfl⟩:=List.mem_map.1 hl
      have hr:=r2.rng q hq
      exact⟨by dsimp only;omega,by dsimp only;omega,by dsimp only;omega,rfl,rfl⟩)
     rw[o1]
     simp only[oB]
     rw[if_neg (by simp[o2])]
     have hX:∀i:Nat,i<plan.length→ix out ((i:Int)+1)=some (T ((i:Int)+1)):=fun i hi=>(o3 _ (by omega) (by omega)).1
     have hXr:∀i:Nat,i<plan.length→0≤T ((i:Int)+1)∧T ((i:Int)+1)≤plan.length:=fun i hi=>by
      have:=(o3 ((i:Int)+1) (by omega) (by omega)).2
      omega
     rw[outer_eq (X:=fun i=>T ((i:Int)+1)) (by omega) hX]
     simp only[oB]
     have hperm:=orderL_perm (k:=plan.length) (X:=fun i=>T ((i:Int)+1)) hXr
     have hplan:(List.range plan.length).map (opN plan)=plan:=by
      refine List.ext_getElem (by simp) fun i h1 h2=> ?_
      simp only[List.getElem_map,List.getElem_range,opN]
      rw[List.getElem?_eq_getElem h2]
      rfl
     have hpm:((I1 plan.length (fun i=>T ((i:Int)+1)) (plan.length+1)).map (opN plan)).Perm plan:=by
      have:=hperm.map (opN plan)
      rwa [hplan] at this
     obtain⟨e,e1,e2⟩:=hw
     have hends:ends t t.init ((I1 plan.length (fun i=>T ((i:Int)+1)) (plan.length+1)).map (opN plan))=some e:=by
      refine reorder ht.init hperm List.pairwise_lt_range (List.Pairwise.imp ?_ orderL_pair) (by rw[hplan];exact e1)
      rintro a b ⟨⟨ha,hb⟩,h⟩ hba
      refine tc_ni fun hin=> ?_
      obtain⟨x,hx,gx⟩:=m8 (l:=plan) (i:=(b:Int)) (by omega) (by omega)
      obtain⟨y,hy,gy⟩:=m8 (l:=plan) (i:=(a:Int)) (by omega) (by omega)
      have ex:opN plan b=x:=by unfold opN;rw[M0] at hx;rw[hx];rfl
      have ey:opN plan a=y:=by unfold opN;rw[M0] at hy;rw[hy];rfl
      rw[ex,ey] at hin
      have hm:=r2.all b a x y (by omega) (by omega) hx hy hin
      have:=o4 ⟨(b:Int)+1,(a:Int)+1,1,1000⟩ (by dsimp only;rw[l3];exact List.mem_map.2 ⟨_,hm,rfl⟩)
      dsimp only at this
      omega
     have hpl:PlanOk t ((I1 plan.length (fun i=>T ((i:Int)+1)) (plan.length+1)).map (opN plan)):=⟨by rw[hpm.length_eq];exact hp.1,fun x hx=>hp.2 x (hpm.mem_iff.1 hx)⟩
     have hsol:V0 t ((I1 plan.length (fun i=>T ((i:Int)+1)) (plan.length+1)).map (opN plan))=some (true,⟨0,0⟩):=by
      obtain⟨f,b1,_,b3⟩:=aw4 t ((I1 plan.length (fun i=>T ((i:Int)+1)) (plan.length+1)).map (opN plan))
      rcases b3 with⟨rfl,_⟩|⟨_,b3⟩
      ·unfold V0
       rw[b1]
       simp only[oB]
       rw[if_neg (by simp),sWorks_eq ht hpl ht.init,o7 ⟨e,hends,e2⟩]
       rfl
      ·exact absurd ⟨ht,hpl⟩ b3
     rw[hsol]
     simp only[oB]
     simp only[if_true]
     rw[if_pos (by rw[hpm.length_eq])]
     rfl
   ·rw[ifP hw]
    simp
 ·rw[if_pos (by simp[hc])]
  simp[hc]
end Ab
end
