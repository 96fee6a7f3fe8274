/-
  Texts that the proof stands on.
-/
import Derived.Test.YthohgmigdbaedaaGreatDoorKRwRecOwn5
set_option linter.all false
section
namespace Ab
open Go
abbrev En:=c9
def Hp(L:List Int)(E:List En):Prop:=∀ i h,ix L i=some h→∃ e,ix E h=some e∧e.fat=i
structure Sme(L:List Int)(E:List En)(L':List Int)(E':List En):Prop where
 len:L'.length=L.length
 mem:∀ h,h ∈ L'↔h ∈ L
 elen:E'.length=E.length
 e:∀ h a,ix E h=some a→∃ a',ix E' h=some a'∧a'.item=a.item∧a'.key=a.key
theorem Sme.refl(L:List Int)(E:List En):Sme L E L E:=⟨rfl,fun _=>Iff.rfl,rfl,fun h a ha=>⟨a,ha,rfl,rfl⟩⟩
theorem Sme.trans{L L' L'':List Int}{E E' E'':List En}(h:Sme L E L' E')(g:Sme L' E' L'' E''):Sme L E L'' E'':=by
 refine ⟨g.len.trans h.len,fun x=>(g.mem x).trans (h.mem x),g.elen.trans h.elen,fun x a ha=> ?_⟩
 obtain ⟨b,b1,b2,b3⟩:=h.e x a ha
 obtain ⟨c,c1,c2,c3⟩:=g.e x b b1
 exact ⟨c,c1,c2.trans b2,c3.trans b3⟩
theorem Hp.inj{L:List Int}{E:List En}(h:Hp L E){i j x:Int}(h1:ix L i=some x)(h2:ix L j=some x):i=j:=by
 obtain ⟨e,e1,e2⟩:=h i x h1
 obtain ⟨f,f1,f2⟩:=h j x h2
 rw [e1] at f1; cases f1; rw [← e2,← f2]
theorem mem_ixI{α:Type}{l:List α}{x:α}:x ∈ l↔∃ i:Int,ix l i=some x:=by
 constructor
 ·intro h
  obtain ⟨k,hk⟩:=List.getElem?_of_mem h
  exact ⟨k,by rw [P0]; exact hk⟩
 ·rintro ⟨i,h⟩; exact w6 h
theorem less_ok{L:List Int}{E:List En}(h:Hp L E){i k:Int}(hi:0≤i)(hi':i<L.length)(hk:0≤k)(hk':k<L.length):∃ b,n8 i k L E=some b:=by
 obtain ⟨x,x1,_⟩:=m4 hi hi'
 obtain ⟨y,y1,_⟩:=m4 hk hk'
 obtain ⟨e,e1,_⟩:=h i x x1
 obtain ⟨f,f1,_⟩:=h k y y1
 exact ⟨_,by simp only [n8,x1,y1,e1,f1,oB]; rfl⟩
theorem swap_ok{L:List Int}{E:List En}(h:Hp L E){i k:Int}(hi:0≤i)(hi':i<L.length)(hk:0≤k)(hk':k<L.length):
  ∃ L' E',n7 i k L E=some (L',E')∧Hp L' E'∧Sme L E L' E'∧(∀ x,ix L i=some x→ix L' k=some x):=by
 obtain ⟨x,x1,_⟩:=m4 hi hi'
 obtain ⟨y,y1,_⟩:=m4 hk hk'
 obtain ⟨e,e1,e2⟩:=h i x x1
 obtain ⟨f,f1,f2⟩:=h k y y1
 obtain ⟨ex0,ex1,_⟩:=p9 e1
 obtain ⟨ey0,ey1,_⟩:=p9 f1
 have hL:∀ j,ix ((L.set i.toNat y).set k.toNat x) j=if j=k then some x else if j=i then some y else ix L j:=by
  intro j
  by_cases hj:0≤j
  ·rw [ae8 hk (by simp; omega) hj]
   split
   ·rfl
   ·rw [ae8 hi hi' hj]
  ·rw [P5 (by omega),P5 (by omega),if_neg (by omega),if_neg (by omega)]
 have q1:ix ((L.set i.toNat y).set k.toNat x) i=some y:=by
  rw [hL]
  by_cases c:i=k
  ·subst c; rw [x1] at y1; cases y1; simp
  ·rw [if_neg c,if_pos rfl]
 have q2:ix ((L.set i.toNat y).set k.toNat x) k=some x:=by rw [hL,if_pos rfl]
 have hE:∀ j,ix (E.set y.toNat (⟨f.item,f.key,f.time,i⟩:En)) j=if j=y then some ⟨f.item,f.key,f.time,i⟩ else ix E j:=by
  intro j
  by_cases hj:0≤j
  ·rw [ae8 ey0 ey1 hj]
  ·rw [P5 (by omega),P5 (by omega),if_neg (by omega)]
 obtain ⟨g,g1,g2,g3⟩:∃ g,ix (E.set y.toNat (⟨f.item,f.key,f.time,i⟩:En)) x=some g∧g.item=e.item∧g.key=e.key:=by
  rw [hE]
  by_cases c:x=y
  ·subst c; rw [e1] at f1; cases f1; exact ⟨_,if_pos rfl,rfl,rfl⟩
  ·exact ⟨e,by rw [if_neg c,e1],rfl,rfl⟩
 have hE2:∀ j,ix ((E.set y.toNat (⟨f.item,f.key,f.time,i⟩:En)).set x.toNat (⟨g.item,g.key,g.time,k⟩:En)) j=if j=x then some ⟨g.item,g.key,g.time,k⟩ else if j=y then some ⟨f.item,f.key,f.time,i⟩ else ix E j:=by
  intro j
  by_cases hj:0≤j
  ·rw [ae8 ex0 (by simp; omega) hj,hE]
  ·rw [P5 (by omega),P5 (by omega),if_neg (by omega),if_neg (by omega)]
 refine ⟨_,_,by simp only [n7,x1,y1,q1,q2,f1,g1,oB]; rfl, ?_,⟨by simp,fun z=> ?_,by simp,fun z a ha=> ?_⟩, ?_⟩
 ·intro j z hz
  rw [hL] at hz
  by_cases c:j=k
  ·rw [if_pos c] at hz; cases hz
   exact ⟨_,by rw [hE2,if_pos rfl],c.symm⟩
  ·rw [if_neg c] at hz
   by_cases d:j=i
   ·rw [if_pos d] at hz; cases hz
    have:y ≠ x:=fun q=>by subst q; exact c (d.trans (h.inj x1 y1))
    exact ⟨_,by rw [hE2,if_neg this,if_pos rfl],d.symm⟩
   ·rw [if_neg d] at hz
    obtain ⟨a,a1,a2⟩:=h j z hz
    refine ⟨a, ?_,a2⟩
    rw [hE2,if_neg (fun q=>by subst q; exact d (h.inj hz x1)),if_neg (fun q=>by subst q; exact c (h.inj hz y1)),a1]
 ·rw [mem_ixI,mem_ixI]
  constructor
  ·rintro ⟨j,hj⟩
   rw [hL] at hj
   split at hj
   ·cases hj; exact ⟨i,x1⟩
   ·split at hj
    ·cases hj; exact ⟨k,y1⟩
    ·exact ⟨j,hj⟩
  ·rintro ⟨j,hj⟩
   by_cases c:j=k
   ·subst c; rw [y1] at hj; cases hj; exact ⟨i,q1⟩
   ·by_cases d:j=i
    ·subst d; rw [x1] at hj; cases hj; exact ⟨k,q2⟩
    ·exact ⟨j,by rw [hL,if_neg c,if_neg d,hj]⟩
 ·rw [hE2]
  by_cases c:z=x
  ·subst c; rw [e1] at ha; cases ha; exact ⟨_,if_pos rfl,g2,g3⟩
  ·rw [if_neg c]
   by_cases d:z=y
   ·subst d; rw [f1] at ha; cases ha; exact ⟨_,if_pos rfl,rfl,rfl⟩
   ·exact ⟨a,by rw [if_neg d,ha],rfl,rfl⟩
 ·intro z hz; rw [x1] at hz; cases hz; exact q2
theorem same_swap:x5=n7:=rfl
theorem same_down:H3=A8:=rfl
structure Kp(nv:Int)(L:List Int)(E:List En)(l:List Int)(e:List En):Prop where
 hp:Hp l e
 sm:Sme L E l e
 hi:∀ j,nv≤j→ix l j=ix L j
theorem ix_sw{L L':List Int}{E E':List En}{i k:Int}(h:n7 i k L E=some (L',E'))(hk0:0≤k)(hi0:0≤i)(hi1:i<L.length)(hk1:k<L.length){j:Int}(h1:j ≠ i)(h2:j ≠ k):ix L' j=ix L j:=by
 unfold n7 at h
 simp only [Option.bind_eq_some_iff] at h
 obtain ⟨a,_,b,_,c,_,d,_,e,_,f,_,g⟩:=h
 cases g
 by_cases hj:0≤j
 ·rw [ae8 hk0 (by simp; omega) hj,if_neg h2,ae8 hi0 hi1 hj,if_neg h1]
 ·rw [P5 (by omega),P5 (by omega)]
theorem down_body{nv i:Int}{L l:List Int}{E e:List En}(g:Kp nv L E l e)(hn:nv≤L.length)(hb:L.length≤1000000){c:Int}(hc:0≤c)(hc':c<L.length):
  (∃ l' e' c',x7 nv (l,e,c)=some (.inl (l',e',c'))∧Kp nv L E l' e'∧c<c'∧c'<nv)∨x7 nv (l,e,c)=some (.inr (l,e,c)):=by
 have hl:=g.sm.len
 unfold x7
 have e1:w64 (w64 (2 * c)+1)=2 * c+1:=by rw [v7 (n:=2 * c) (by omega) (by omega),v7 (by omega) (by omega)]
 simp only [e1]
 by_cases c1:nv≤2 * c+1
 ·rw [if_pos (by simp [c1])]; exact .inr rfl
 rw [if_neg (by simp; omega)]
 have e2:w64 (2 * c+1+1)=2 * c+2:=by rw [v7 (by omega) (by omega)]; omega
 simp only [e2]
 obtain ⟨j,j1,j2,j3⟩:∃ j,(Option.bind (if 2 * c+2<nv then Option.bind (n8 (2 * c+2) (2 * c+1) l e) fun a32=>some a32 else some false) fun t69=>if t69=true then some (2 * c+2) else some (2 * c+1))=some j∧c<j∧j<nv:=by
  by_cases c2:2 * c+2<nv
  ·obtain ⟨b,hb'⟩:=less_ok g.hp (i:=2 * c+2) (k:=2 * c+1) (by omega) (by omega) (by omega) (by omega)
   rw [if_pos c2,hb']
   cases b
   ·exact ⟨2 * c+1,rfl,by omega,by omega⟩
   ·exact ⟨2 * c+2,rfl,by omega,by omega⟩
  ·rw [if_neg c2]
   exact ⟨2 * c+1,rfl,by omega,by omega⟩
 rw [j1,Option.bind_some]
 obtain ⟨b,hb'⟩:=less_ok g.hp (i:=j) (k:=c) (by omega) (by omega) (by omega) (by omega)
 rw [hb',Option.bind_some]
 cases b
 ·exact .inr rfl
 ·obtain ⟨l',e',s1,s2,s3,_⟩:=swap_ok g.hp (i:=c) (k:=j) (by omega) (by omega) (by omega) (by omega)
  simp only [s1,oB,M3,s3.len]
  refine .inl ⟨l',e',j,rfl,⟨s2,g.sm.trans s3,fun q hq=> ?_⟩,j2,j3⟩
  rw [ix_sw s1 (by omega) (by omega) (by omega) (by omega) (by omega) (by omega),g.hi q hq]
theorem down_ok{nv t0:Int}{L:List Int}{M:List (Int × Int)}{E:List En}(h:Hp L E){i:Int}(hi:0≤i)(hi':i<L.length)(hn:nv≤L.length)(hb:L.length≤1000000):
  ∃ L' E' b,A8 i nv t0 L M E=some (L',E',b)∧Kp nv L E L' E':=by
 unfold A8
 obtain ⟨o,o1,o2⟩:=P9 (body:=x7 nv) (s:=(L,E,i))
  (fun s=>Kp nv L E s.1 s.2.1∧0≤s.2.2∧s.2.2<L.length) (fun o=>Kp nv L E o.1 o.2.1) (fun s=>(nv - s.2.2).toNat)
  ⟨⟨h,.refl _ _,fun _ _=>rfl⟩,hi,hi'⟩ (by
   rintro ⟨l,e,c⟩ ⟨g1,g2,g3⟩
   simp only at g1 g2 g3
   rcases down_body (i:=i) g1 hn hb g2 g3 with ⟨l',e',c',q1,q2,q3,q4⟩ | q
   ·exact .inl ⟨_,q1,⟨q2,by change 0≤c'; omega,by change c'<_; omega⟩,by change (nv - c').toNat<(nv - c).toNat; omega⟩
   ·exact .inr ⟨_,q,g1⟩)
 obtain ⟨a,b,c⟩:=o
 exact ⟨a,b,_,by rw [o1]; rfl,o2⟩
theorem up_ok{t0:Int}{L:List Int}{M:List (Int × Int)}{E:List En}(h:Hp L E){i:Int}(hi:0≤i)(hi':i<L.length)(hb:L.length≤1000000):
  ∃ L' E',C9 i t0 L M E=some (L',E')∧Hp L' E'∧Sme L E L' E':=by
 unfold C9
 obtain ⟨o,o1,o2⟩:=P9 (body:=H0) (s:=(L,E,i))
  (fun s=>(Hp s.1 s.2.1∧Sme L E s.1 s.2.1)∧0≤s.2.2∧s.2.2<L.length) (fun o=>Hp o.1 o.2∧Sme L E o.1 o.2) (fun s=>s.2.2.toNat)
  ⟨⟨h,.refl _ _⟩,hi,hi'⟩ (by
   rintro ⟨l,e,c⟩ ⟨⟨g1,g4⟩,g2,g3⟩
   simp only at g1 g2 g3 g4
   have hl:=g4.len
   unfold H0
   have e1:w64 (c - 1)=c - 1:=v7 (by omega) (by omega)
   have e3:(c - 1).tdiv 2=if c=0 then 0 else (c - 1) / 2:=by
    split
    ·rename_i q; subst q; rfl
    ·rw [Int.tdiv_eq_ediv_of_nonneg (by omega)]
   have e2:w64 ((c - 1).tdiv 2)=if c=0 then 0 else (c - 1) / 2:=by
    rw [e3]; split
    ·rfl
    ·exact v7 (by omega) (by omega)
   simp only [e1,e2,chkN,show ((2:Int)=0)=False by simp,if_false,oB]
   by_cases c0:c=0
   ·subst c0
    rw [if_pos (by simp)]
    exact .inr ⟨_,rfl,g1,g4⟩
   ·simp only [if_neg c0]
    rw [if_neg (by omega)]
    obtain ⟨b,hb'⟩:=less_ok g1 (i:=c) (k:=(c - 1) / 2) (by omega) (by omega) (by omega) (by omega)
    rw [hb']
    cases b
    ·exact .inr ⟨_,rfl,g1,g4⟩
    ·obtain ⟨l',e',s1,s2,s3,_⟩:=swap_ok g1 (i:=(c - 1) / 2) (k:=c) (by omega) (by omega) (by omega) (by omega)
     simp only [oB,Bool.not_true,Bool.false_eq_true,if_false,s1,M3,s3.len,if_true]
     exact .inl ⟨_,rfl,⟨⟨s2,g4.trans s3⟩,by simp only; omega,by simp only; omega⟩,by simp only; omega⟩)
 exact ⟨o.1,o.2,by rw [o1]; rfl,o2⟩
theorem fix_ok{t0:Int}{L:List Int}{M:List (Int × Int)}{E:List En}(h:Hp L E){i:Int}(hi:0≤i)(hi':i<L.length)(hb:L.length≤1000000):
  ∃ L' E',B9 i t0 L M E=some (L',E')∧Hp L' E'∧Sme L E L' E':=by
 unfold B9
 obtain ⟨L',E',b,h1,h2⟩:=down_ok (nv:=L.length) (t0:=t0) (M:=M) h hi hi' (by omega) hb
 simp only [o9,h1,oB]
 cases b
 ·obtain ⟨L2,E2,k1,k2,k3⟩:=up_ok (t0:=t0) (M:=M) h2.hp hi (by rw [h2.sm.len]; exact hi') (by rw [h2.sm.len]; exact hb)
  exact ⟨L2,E2,by simp [k1],k2,h2.sm.trans k3⟩
 ·exact ⟨L',E',by simp,h2.hp,h2.sm⟩
theorem push_ok{t0:Int}{L:List Int}{M:List (Int × Int)}{E:List En}(h:Hp L E){x:Int}{e:En}(hx:ix E x=some e)(hn:x ∉ L)(hb:L.length≤999999):
  ∃ L' E',A9 x t0 E L M=some (E',L')∧Hp L' E'∧Sme (L++[x]) E L' E':=by
 unfold A9 B0
 obtain ⟨x0,x1,_⟩:=p9 hx
 have ha:app 8 L [x]=some (L++[x]):=by unfold app; rw [if_pos (by simp; omega)]
 have hE:∀ j,ix (E.set x.toNat (⟨e.item,e.key,e.time,(L.length:Int)⟩:En)) j=if j=x then some ⟨e.item,e.key,e.time,(L.length:Int)⟩ else ix E j:=by
  intro j
  by_cases hj:0≤j
  ·rw [ae8 x0 x1 hj]
  ·rw [P5 (by omega),P5 (by omega),if_neg (by omega)]
 simp only [hx,ha,oB,o9]
 have e1:w64 (((L++[x]).length:Int) - 1)=(L.length:Int):=by rw [show (((L++[x]).length:Int) - 1)=(L.length:Int) by simp]; exact v7 (by omega) (by omega)
 have hh:Hp (L++[x]) (E.set x.toNat (⟨e.item,e.key,e.time,(L.length:Int)⟩:En)):=by
  intro i z hz
  rw [af8] at hz
  by_cases c:i=L.length
  ·rw [if_pos c] at hz; cases hz
   exact ⟨_,by rw [hE,if_pos rfl],c.symm⟩
  ·rw [if_neg c] at hz
   obtain ⟨a,a1,a2⟩:=h i z hz
   exact ⟨a,by rw [hE,if_neg (fun q=>by subst q; exact hn (w6 hz)),a1],a2⟩
 obtain ⟨L',E',k1,k2,k3⟩:=up_ok (t0:=t0) (M:=M) hh (i:=L.length) (by omega) (by simp; omega) (by simp; omega)
 refine ⟨L',E',by rw [e1,k1]; rfl,k2,Sme.trans ⟨rfl,fun _=>Iff.rfl,by simp,fun z a hz=> ?_⟩ k3⟩
 rw [hE]
 by_cases c:z=x
 ·subst c; rw [hx] at hz; cases hz; exact ⟨_,if_pos rfl,rfl,rfl⟩
 ·exact ⟨a,by rw [if_neg c,hz],rfl,rfl⟩
theorem pop_ok{t0:Int}{L:List Int}{M:List (Int × Int)}{E:List En}(h:Hp L E)(hl:0<L.length)(hb:L.length≤1000000):
  ∃ L' E' x,F8 t0 L M E=some (E',L',x)∧Hp L' E'∧Sme L E (L'++[x]) E'∧x ∉ L':=by
 unfold F8
 have e1:w64 ((L.length:Int) - 1)=(L.length:Int) - 1:=v7 (by omega) (by omega)
 obtain ⟨l,e,s1,s2,s3,_⟩:=swap_ok h (i:=0) (k:=(L.length:Int) - 1) (by omega) (by omega) (by omega) (by omega)
 have hl':=s3.len
 obtain ⟨L1,E1,b,d1,d2⟩:=down_ok (nv:=(L.length:Int) - 1) (t0:=t0) (M:=M) s2 (i:=0) (by omega) (by omega) (by omega) (by omega)
 have hs:=s3.trans d2.sm
 have hl1:=hs.len
 obtain ⟨x,x1,_⟩:=m4 (l:=L1) (i:=(L.length:Int) - 1) (by omega) (by omega)
 have hcut:subL L1 0 ((L1.length:Int) - 1)=some L1.dropLast:=by
  unfold subL
  rw [if_pos (by omega)]
  simp only [Int.toNat_zero,List.drop_zero,List.dropLast_eq_take]
  rw [show ((L1.length:Int) - 1).toNat=L1.length - 1 by omega]
 have hsnoc:L1.dropLast++[x]=L1:=by
  have hne:L1 ≠ []:=by intro q; rw [q] at hl1; simp at hl1; omega
  have:=(p9 x1).2.2
  rw [show ((L.length:Int) - 1).toNat=L1.length - 1 by omega] at this
  have hlast:L1.getLast hne=x:=by
   rw [List.getLast_eq_getElem]
   have:=List.getElem?_eq_some_iff.1 this
   exact this.2
  rw [← hlast]; exact List.dropLast_concat_getLast hne
 have hd:Hp L1.dropLast E1:=fun i z hz=>d2.hp i z (by
  have:=an9 (x:=x) hz; rwa [hsnoc] at this)
 refine ⟨L1.dropLast,E1,x, ?_,hd,by rw [hsnoc]; exact hs,fun hx=> ?_⟩
 ·rw [same_swap,same_down]
  simp only [o9,e1,s1,oB,M3,hl',if_true,d1,C1,hcut]
  rw [show (L1.length:Int) - 1=(L.length:Int) - 1 by omega,x1]; rfl
 ·obtain ⟨i,hi⟩:=mem_ixI.1 hx
  have h2:=an9 (x:=x) hi
  rw [hsnoc] at h2
  have:=d2.hp.inj h2 x1
  have h3:=(p9 hi).2.1
  simp at h3; omega
end Ab
end
section
namespace Ab
open Go
theorem mset_nodup{k v:Int}{m:List (Int × Int)}(h:(m.map (·.1)).Nodup):((mset m k v).map (·.1)).Nodup:=by
 by_cases c:mget m k=none
 ·rw [S7 c,List.map_append]
  refine List.nodup_append.2 ⟨h,by simp,fun a ha b hb e=> ?_⟩
  simp at hb; subst hb; subst e; exact an5 c ha
 ·rw [mset_keys c]; exact h
theorem mget_of_mem{k v:Int}:∀ {m:List (Int × Int)},(m.map (·.1)).Nodup→(k,v) ∈ m→mget m k=some v
 | [],_,h=>by simp at h
 | p::r,hn,h=>by
  simp only [List.map_cons,List.nodup_cons] at hn
  simp only [mget]
  rcases List.mem_cons.1 h with e | h
  ·subst e; simp
  ·rw [if_neg (fun e=>hn.1 (by rw [← e]; exact List.mem_map.2 ⟨_,h,rfl⟩))]
   exact mget_of_mem hn.2 h
theorem mdel_sub{k:Int}:∀ {m:List (Int × Int)},(mdel m k).Sublist m
 | []=>List.Sublist.slnil
 | p::r=>by
  simp only [mdel]
  split
  ·exact List.sublist_cons_self _ _
  ·exact mdel_sub.cons_cons _
theorem mget_mdel{k:Int}:∀ {m:List (Int × Int)},(m.map (·.1)).Nodup→∀ x,mget (mdel m k) x=if x=k then none else mget m x
 | [],_,x=>by simp [mdel,mget]
 | p::r,hn,x=>by
  simp only [List.map_cons,List.nodup_cons] at hn
  simp only [mdel]
  by_cases c:k=p.1
  ·rw [if_pos c]
   by_cases d:x=k
   ·rw [if_pos d]
    cases e:mget r x with
    | none=>rfl
    | some v=>exact absurd (List.mem_map.2 ⟨_,mget_mem e,rfl⟩) (by rw [d,c]; exact hn.1)
   ·rw [if_neg d]
    simp only [mget]
    rw [if_neg (fun e=>d (e.trans c.symm))]
  ·rw [if_neg c]
   simp only [mget,mget_mdel hn.2]
   by_cases d:x=k
   ·rw [if_pos d,if_pos d,if_neg (by rw [d]; exact c)]
   ·rw [if_neg d,if_neg d]
structure Qu(M:List (Int × Int))(L:List Int)(E:List En):Prop where
 hp:Hp L E
 keys:(M.map (·.1)).Nodup
 mem:∀ x h,mget M x=some h↔h ∈ L∧∃ e,ix E h=some e∧e.item=x
def qkey(M:List (Int × Int))(E:List En)(x:Int):Option Int:=(mget M x).bind fun h=>(ix E h).map (·.key)
theorem Sme.item{L L':List Int}{E E':List En}(h:Sme L E L' E')(x y:Int):(∃ e,ix E' x=some e∧e.item=y)↔∃ e,ix E x=some e∧e.item=y:=by
 constructor
 ·rintro ⟨e,e1,e2⟩
  obtain ⟨a,b,_⟩:=p9 e1
  obtain ⟨f,f1,_⟩:=m4 (l:=E) a (by rw [← h.elen]; exact b)
  obtain ⟨g,g1,g2,_⟩:=h.e x f f1
  rw [e1] at g1; cases g1
  exact ⟨f,f1,g2.symm.trans e2⟩
 ·rintro ⟨e,e1,e2⟩
  obtain ⟨g,g1,g2,_⟩:=h.e x e e1
  exact ⟨g,g1,g2.trans e2⟩
theorem Sme.key{L L':List Int}{E E':List En}(h:Sme L E L' E')(x:Int):(ix E' x).map (·.key)=(ix E x).map (·.key):=by
 cases e1:ix E x with
 | some e=>
  obtain ⟨g,g1,_,g3⟩:=h.e x e e1
  rw [g1]; simp [g3]
 | none=>
  cases e2:ix E' x with
  | none=>rfl
  | some e=>
   obtain ⟨a,b,_⟩:=p9 e2
   obtain ⟨f,f1,_⟩:=m4 (l:=E) a (by rw [← h.elen]; exact b)
   rw [e1] at f1; cases f1
theorem Qu.sme{M:List (Int × Int)}{L L':List Int}{E E':List En}(h:Qu M L E)(hp:Hp L' E')(hs:Sme L E L' E'):Qu M L' E'∧∀ x,qkey M E' x=qkey M E x:=by
 refine ⟨⟨hp,h.keys,fun x y=> ?_⟩,fun x=> ?_⟩
 ·rw [h.mem,hs.mem,hs.item]
 ·unfold qkey
  cases mget M x with
  | none=>rfl
  | some y=>simp [hs.key]
theorem Qu.nil:Qu [] [] []:=⟨fun i h e=>by simp [ix] at e,by simp,fun x h=>by simp [mget]⟩
theorem Qu.val{M:List (Int × Int)}{L:List Int}{E:List En}(h:Qu M L E){z:Int}(hz:z ∈ L):z.toNat<E.length:=by
 obtain ⟨i,_,_,hi⟩:=D3 hz
 obtain ⟨e,e1,_⟩:=h.hp i z hi
 exact i5 e1
theorem Qu.chk1{M:List (Int × Int)}{L:List Int}{E:List En}(h:Qu M L E):chkH E.length L=some ():=by
 unfold chkH; rw [if_pos (fun z hz=>h.val hz)]
theorem Qu.chk2{M:List (Int × Int)}{L:List Int}{E:List En}(h:Qu M L E):chkH E.length (M.map (·.2))=some ():=by
 unfold chkH
 rw [if_pos]
 intro z hz
 obtain ⟨p,hp,rfl⟩:=List.mem_map.1 hz
 exact h.val ((h.mem p.1 p.2).1 (mget_of_mem h.keys hp)).1
theorem Qu.item_inj{M:List (Int × Int)}{L:List Int}{E:List En}(h:Qu M L E){a b:Int}{e f:En}(ha:a ∈ L)(hb:b ∈ L)(he:ix E a=some e)(hf:ix E b=some f)(hi:e.item=f.item):a=b:=by
 have h1:=(h.mem e.item a).2 ⟨ha,e,he,rfl⟩
 have h2:=(h.mem e.item b).2 ⟨hb,f,hf,hi.symm⟩
 rw [h1] at h2; exact Option.some.inj h2
theorem Hp.nodup{L:List Int}{E:List En}(h:Hp L E):L.Nodup:=by
 refine List.pairwise_iff_getElem.2 fun i j hi hj hij e=> ?_
 have h1:ix L (j:Int)=some L[j]:=ix_ltN hj
 have h2:ix L (i:Int)=some L[j]:=by rw [← e]; exact ix_ltN hi
 have:=h.inj h1 h2
 omega
theorem Qu.le{M:List (Int × Int)}{L:List Int}{E:List En}(h:Qu M L E){vs:List Int}(hv:∀ x,qkey M E x ≠ none→x ∈ vs):L.length≤vs.length:=by
 have h1:(L.map fun z=>((ix E z).map (·.item)).getD 0).Nodup:=by
  refine List.pairwise_map.2 ?_
  have:=h.hp.nodup
  refine List.Pairwise.imp_of_mem (R:=(· ≠ ·)) (fun {a b} ha hb hab e=>hab ?_) this
  obtain ⟨i,_,_,hi⟩:=D3 ha
  obtain ⟨j,_,_,hj⟩:=D3 hb
  obtain ⟨x,x1,_⟩:=h.hp i a hi
  obtain ⟨y,y1,_⟩:=h.hp j b hj
  refine h.item_inj ha hb x1 y1 ?_
  simpa [x1,y1] using e
 have:=W6 h1 (S:=vs) (fun x hx=>by
  obtain ⟨a,ha,rfl⟩:=List.mem_map.1 hx
  obtain ⟨i,_,_,hi⟩:=D3 ha
  obtain ⟨e,e1,_⟩:=h.hp i a hi
  refine hv _ ?_
  have:=(h.mem e.item a).2 ⟨ha,e,e1,rfl⟩
  simp [e1,qkey,this])
 simpa using this
theorem set_ok{M:List (Int × Int)}{L:List Int}{E:List En}(h:Qu M L E)(hb:L.length≤999999)(item key t0:Int):
  ∃ M' L' E',q8 item key t0 L M E=some (M',L',E')∧Qu M' L' E'∧∀ x,qkey M' E' x=if x=item then some key else qkey M E x:=by
 unfold q8
 cases hm:mget M item with
 | some z=>
  simp only [Option.isSome_some,if_true,oB]
  obtain ⟨hz,e,e1,e2⟩:=(h.mem item z).1 hm
  obtain ⟨z0,z1,_⟩:=p9 e1
  obtain ⟨i,i0,i1,hi⟩:=D3 hz
  have hf:e.fat=i:=by
   obtain ⟨f,f1,f2⟩:=h.hp i z hi
   rw [e1] at f1; cases f1; exact f2
  simp only [e1,oB,List.set_set]
  have hE:∀ j,ix (E.set z.toNat (⟨e.item,key,w64 (t0+1),e.fat⟩:En)) j=if j=z then some ⟨e.item,key,w64 (t0+1),e.fat⟩ else ix E j:=by
   intro j
   by_cases hj:0≤j
   ·rw [ae8 z0 z1 hj]
   ·rw [P5 (by omega),P5 (by omega),if_neg (by omega)]
  have h1:Hp L (E.set z.toNat (⟨e.item,key,w64 (t0+1),e.fat⟩:En)):=by
   intro j y hy
   rw [hE]
   by_cases c:y=z
   ·subst c; exact ⟨_,if_pos rfl,hf.trans (h.hp.inj hi hy)⟩
   ·rw [if_neg c]; exact h.hp j y hy
  obtain ⟨L',E',k1,k2,k3⟩:=fix_ok (t0:=w64 (t0+1)) (M:=M) h1 (i:=e.fat) (by omega) (by omega) (by omega)
  have hq:Qu M L (E.set z.toNat (⟨e.item,key,w64 (t0+1),e.fat⟩:En)):=⟨h1,h.keys,fun x y=>by
   rw [h.mem,hE]
   by_cases c:y=z
   ·subst c
    simp [e1]
   ·rw [if_neg c]⟩
  obtain ⟨q1,q2⟩:=hq.sme k2 k3
  refine ⟨M,L',E',by rw [k1]; rfl,q1,fun x=> ?_⟩
  rw [q2]
  unfold qkey
  by_cases c:x=item
  ·subst c; rw [if_pos rfl,hm]; simp [hE]
  ·rw [if_neg c]
   cases hx:mget M x with
   | none=>rfl
   | some y=>
    have:y ≠ z:=fun q=>by
     subst q
     obtain ⟨_,f,f1,f2⟩:=(h.mem x y).1 hx
     rw [e1] at f1; cases f1; exact c (f2.symm.trans e2)
    simp [hE,if_neg this]
 | none=>
  simp only [Option.isSome_none,Bool.false_eq_true,if_false,h.chk1,h.chk2,oB]
  have hn:(E.length:Int) ∉ L:=fun q=>by have:=h.val q; simp at this
  have h1:Hp L (E++[(⟨item,key,w64 (t0+1),0⟩:En)]):=fun i z hz=>by
   obtain ⟨e,e1,e2⟩:=h.hp i z hz
   exact ⟨e,an9 e1,e2⟩
  obtain ⟨L',E',k1,k2,k3⟩:=push_ok (t0:=w64 (t0+1)) (M:=mset M item (E.length:Int)) h1 (x:=(E.length:Int)) ix_snoc_new hn hb
  refine ⟨_,L',E',by rw [k1]; rfl,⟨k2,mset_nodup h.keys,fun x y=> ?_⟩,fun x=> ?_⟩
  ·rw [B3,k3.mem,k3.item,List.mem_append,List.mem_singleton,af8]
   by_cases c:x=item
   ·subst c
    rw [if_pos rfl]
    by_cases d:y=(E.length:Int)
    ·rw [if_pos d]; simp [d]
    ·rw [if_neg d]
     constructor
     ·intro q; exact absurd (Option.some.inj q).symm d
     ·rintro ⟨a | a,b⟩
      ·exact absurd ((h.mem x y).2 ⟨a,b⟩) (by rw [hm]; simp)
      ·exact absurd a d
   ·rw [if_neg c,h.mem]
    by_cases d:y=(E.length:Int)
    ·rw [if_pos d]; subst d
     constructor
     ·rintro ⟨q,_⟩; exact absurd q hn
     ·rintro ⟨_,e,e1,e2⟩; cases e1; exact absurd e2.symm c
    ·rw [if_neg d]; simp [d]
  ·unfold qkey
   rw [B3]
   by_cases c:x=item
   ·rw [if_pos c,if_pos c]
    simp [k3.key,af8]
   ·rw [if_neg c,if_neg c]
    cases hx:mget M x with
    | none=>rfl
    | some y=>
     have:y ≠ (E.length:Int):=fun q=>hn (by rw [← q]; exact ((h.mem x y).1 hx).1)
     simp [k3.key,af8,if_neg this]
theorem take_ok{M:List (Int × Int)}{L:List Int}{E:List En}(h:Qu M L E)(hl:0<L.length)(hb:L.length≤1000000)(t0:Int):
  ∃ M' L' E' it k,x6 t0 L M E=some (M',E',L',it,k,true)∧Qu M' L' E'∧qkey M E it=some k∧(∀ x,qkey M' E' x=if x=it then none else qkey M E x)∧L'.length+1=L.length:=by
 unfold x6
 rw [if_neg (by omega)]
 obtain ⟨L',E',z,k1,k2,k3,k4⟩:=pop_ok (t0:=t0) (M:=M) h.hp hl hb
 have hz:z ∈ L:=(k3.mem z).1 (by simp)
 obtain ⟨i,_,_,hi⟩:=D3 hz
 obtain ⟨e,e1,e2⟩:=h.hp i z hi
 obtain ⟨f,f1,f2,f3⟩:=k3.e z e e1
 have hm:=(h.mem e.item z).2 ⟨hz,e,e1,rfl⟩
 refine ⟨mdel M f.item,L',E',f.item,f.key,by simp only [k1,oB,f1],⟨k2,List.Nodup.sublist (mdel_sub.map _) h.keys,fun x y=> ?_⟩, ?_,fun x=> ?_, ?_⟩
 ·rw [mget_mdel h.keys]
  by_cases c:x=f.item
  ·rw [if_pos c]
   constructor
   ·intro q; cases q
   ·rintro ⟨a,b⟩
    have:=(h.mem x y).2 ⟨(k3.mem y).1 (by simp [a]),(k3.item y x).1 b⟩
    rw [c,f2,hm] at this
    cases this; exact absurd a k4
  ·rw [if_neg c,h.mem,← k3.mem,k3.item,List.mem_append,List.mem_singleton]
   constructor
   ·rintro ⟨a | a,b⟩
    ·exact ⟨a,b⟩
    ·subst a
     obtain ⟨g,g1,g2⟩:=b
     rw [e1] at g1; cases g1
     exact absurd (g2.symm.trans f2.symm) c
   ·rintro ⟨a,b⟩; exact ⟨.inl a,b⟩
 ·unfold qkey; rw [f2,hm]; simp [e1,f3]
 ·unfold qkey
  rw [mget_mdel h.keys]
  by_cases c:x=f.item
  ·rw [if_pos c,if_pos c]; rfl
  ·rw [if_neg c,if_neg c]
   cases mget M x with
   | none=>rfl
   | some y=>simp [k3.key]
 ·have:=k3.len; simpa using this
theorem same_set:C0=q8:=rfl
end Ab
end
section
namespace Ab
open Go
abbrev MpI:=List (Int × Int)
def O8(g x:Int):Prop:=Go.bits .and .u32 x g=g
def cst(c:MpI)(x:Int):Int:=(mget c x).getD 0
inductive PthW(vs:List Int)(ms:List Mk)(g:Int):Int→Int→Prop
 | goal {x:Int} (h:x ∈ vs) (hg:O8 g x):PthW vs ms g x 0
 | step {x k:Int} {m:Mk} (h:x ∈ vs) (hm:m ∈ ms) (hc:canW m x) (hp:PthW vs ms g (tgtW m x) k):PthW vs ms g x (k+m.cost)
structure Gr(vs:List Int)(ms:List Mk):Prop where
 cl:∀ x ∈ vs,∀ m ∈ ms,canW m x→tgtW m x ∈ vs
 co:∀ m ∈ ms,0≤m.cost∧m.cost≤100
 ml:ms.length≤40
 vl:vs.length≤2000
structure Cd(vs:List Int)(ms:List Mk)(g:Int)(c:MpI):Prop where
 dom:∀ x ∈ vs,∃ k,mget c x=some k∧0≤k∧k≤1000000000∧(k=1000000000∨PthW vs ms g x k)
 goal:∀ x ∈ vs,O8 g x→mget c x=some 0
structure Iv(vs:List Int)(ms:List Mk)(g:Int)(c M:MpI)(L:List Int)(E:List En)(exc:Int→Prop):Prop where
 cd:Cd vs ms g c
 qu:Qu M L E
 qk:∀ x k,qkey M E x=some k→x ∈ vs∧mget c x=some k
 arc:∀ x ∈ vs,∀ m ∈ ms,canW m x→¬ exc (tgtW m x)→qkey M E (tgtW m x)=none→cst c x≤cst c (tgtW m x)+m.cost
theorem Iv.len{vs:List Int}{ms:List Mk}{g:Int}{c M:MpI}{L:List Int}{E:List En}{exc:Int→Prop}(h:Iv vs ms g c M L E exc):L.length≤vs.length:=
 h.qu.le fun x hx=>by
  cases e:qkey M E x with
  | none=>exact absurd e hx
  | some k=>exact (h.qk x k e).1
def sm(vs:List Int)(c:MpI):Nat:=(vs.map fun x=>(cst c x).toNat).sum
theorem sum_le{α:Type}{f g:α→Nat}:∀ {l:List α},(∀ x ∈ l,f x≤g x)→(l.map f).sum≤(l.map g).sum
 | [],_=>by simp
 | x::l,h=>by
  have h1:=h x (by simp)
  have h2:=sum_le (l:=l) fun y hy=>h y (List.mem_cons_of_mem _ hy)
  simp only [List.map_cons,List.sum_cons]; omega
theorem sum_lt{α:Type}{f g:α→Nat}:∀ {l:List α},(∀ x ∈ l,f x≤g x)→(∃ x ∈ l,f x<g x)→(l.map f).sum<(l.map g).sum
 | [],_,h=>by simp at h
 | x::l,h,⟨y,hy,hlt⟩=>by
  have h1:=h x (by simp)
  have h2:=sum_le (l:=l) fun y hy=>h y (List.mem_cons_of_mem _ hy)
  simp only [List.map_cons,List.sum_cons]
  rcases List.mem_cons.1 hy with rfl | hy
  ·omega
  ·have:=sum_lt (l:=l) (fun y hy=>h y (List.mem_cons_of_mem _ hy)) ⟨y,hy,hlt⟩
   omega
theorem ak7{c:MpI}{x v:Int}(z:Int):cst (mset c x v) z=if z=x then v else cst c z:=by
 unfold cst; rw [B3]; split<;>rfl
theorem sm_lt{vs:List Int}{c:MpI}{x v:Int}(hx:x ∈ vs)(h0:0≤v)(hv:v<cst c x):sm vs (mset c x v)<sm vs c:=by
 refine sum_lt (fun z _=> ?_) ⟨x,hx, ?_⟩
 ·rw [ak7]
  split
  ·rename_i e; subst e; omega
  ·exact Nat.le_refl _
 ·rw [ak7,if_pos rfl]; omega
theorem relax_ok{vs:List Int}{ms:List Mk}{g:Int}{c M:MpI}{L:List Int}{E:List En}{exc:Int→Prop}(hg:Gr vs ms)(h:Iv vs ms g c M L E exc){x v:Int}(hx:x ∈ vs)(h0:0≤v)(hv:v<cst c x)(hp:PthW vs ms g x v)(t0:Int):
  ∃ M' L' E',q8 x v t0 L M E=some (M',L',E')∧Iv vs ms g (mset c x v) M' L' E' exc∧∀ z,qkey M' E' z=if z=x then some v else qkey M E z:=by
 have hlen:=h.len
 have hvl:=hg.vl
 obtain ⟨M',L',E',k1,k2,k3⟩:=set_ok h.qu (by omega) x v t0
 refine ⟨M',L',E',k1,⟨⟨fun z hz=> ?_,fun z hz hgz=> ?_⟩,k2,fun z k hk=> ?_,fun z hz m hm hc he hq=> ?_⟩,k3⟩
 ·rw [B3]
  by_cases e:z=x
  ·subst e
   obtain ⟨k,q1,q2,q3,_⟩:=h.cd.dom z hz
   have:cst c z=k:=by unfold cst; rw [q1]; rfl
   exact ⟨v,if_pos rfl,h0,by omega,.inr hp⟩
  ·rw [if_neg e]; exact h.cd.dom z hz
 ·rw [B3]
  by_cases e:z=x
  ·subst e
   have:cst c z=0:=by unfold cst; rw [h.cd.goal z hz hgz]; rfl
   omega
  ·rw [if_neg e]; exact h.cd.goal z hz hgz
 ·rw [k3] at hk
  rw [B3]
  by_cases e:z=x
  ·rw [if_pos e] at hk ⊢; cases hk; exact ⟨by rw [e]; exact hx,rfl⟩
  ·rw [if_neg e] at hk ⊢; exact h.qk z k hk
 ·rw [k3] at hq
  by_cases e:tgtW m z=x
  ·rw [if_pos e] at hq; cases hq
  ·rw [if_neg e] at hq
   have:=h.arc z hz m hm hc he hq
   rw [ak7,ak7,if_neg e]
   by_cases f:z=x
   ·rw [if_pos f]; subst f; omega
   ·rw [if_neg f]; exact this
abbrev Bkm:=List (Int × List w7)
def BkOk(vs:List Int)(ms:List Mk)(b:Bkm):Prop:=∀ y a,a ∈ rowM b y↔∃ x ∈ vs,∃ m ∈ ms,canW m x∧tgtW m x=y∧a=⟨x,m.cost⟩
abbrev St5:=MpI × MpI × List En × Int × List Int
theorem relax_all{vs:List Int}{ms:List Mk}{g:Int}{b:Bkm}{c M:MpI}{L:List Int}{E:List En}{y k:Int}(hg:Gr vs ms)(hb:BkOk vs ms b)(h:Iv vs ms g c M L E (· =y))(hy:y ∈ vs)(hk:mget c y=some k)(hq:qkey M E y=none)(t0:Int)(bb:Bool):
  ∃ s:St5,forR 0 ((rowM b y).length:Int) (J4 b (M,E,L,y,k,bb)) (c,M,E,t0,L)=some s∧Iv vs ms g s.1 s.2.1 s.2.2.2.2 s.2.2.1 (fun _=>False)∧((sm vs s.1=sm vs c∧s.2.2.2.2=L)∨sm vs s.1<sm vs c):=by
 obtain ⟨s,h1,h2,h3,h4,h5,h6⟩:=F4 (body:=J4 b (M,E,L,y,k,bb)) (n:=((rowM b y).length:Int)) (s:=((c,M,E,t0,L):St5))
  (fun j s=>Iv vs ms g s.1 s.2.1 s.2.2.2.2 s.2.2.1 (· =y)∧mget s.1 y=some k∧qkey s.2.1 s.2.2.1 y=none∧(∀ i a,i<j→ix (rowM b y) i=some a→cst s.1 a.ffrom≤k+a.cost)∧((sm vs s.1=sm vs c∧s.2.2.2.2=L)∨sm vs s.1<sm vs c)) (by omega)
  ⟨h,hk,hq,fun i a hi ha=>by have:=(p9 ha).1; omega,.inl ⟨rfl,rfl⟩⟩ (fun j s j0 j1 hP=>by
   obtain ⟨c',M',E',t',L'⟩:=s
   obtain ⟨p1,p2,p3,p4,p5⟩:=hP
   simp only at p1 p2 p3 p4 p5
   obtain ⟨a,ha,_⟩:=m4 (l:=rowM b y) j0 j1
   obtain ⟨x,hx,m,hm,hc,hty,rfl⟩:=(hb y a).1 (w6 ha)
   have hco:=hg.co m hm
   obtain ⟨k',q1,q2,q3,q4⟩:=p1.cd.dom y hy
   rw [p2] at q1; cases q1
   have hw:w64 (k+m.cost)=k+m.cost:=v7 (by omega) (by omega)
   unfold J4
   simp only [ha,oB,hw]
   have hcx:Option.getD (mget c' x) 0=cst c' x:=rfl
   rw [hcx]
   by_cases cc:k+m.cost<cst c' x
   ·rw [if_pos cc]
    have hpy:PthW vs ms g y k:=by
     rcases q4 with q4 | q4
     ·obtain ⟨k2,r1,r2,r3,_⟩:=p1.cd.dom x hx
      have:cst c' x=k2:=by unfold cst; rw [r1]; rfl
      omega
     ·exact q4
    have hxy:x ≠ y:=fun e=>by
     subst e
     have:cst c' x=k:=by unfold cst; rw [p2]; rfl
     omega
    obtain ⟨M2,L2,E2,k1,k2,k3⟩:=relax_ok hg p1 hx (by omega) cc (.step hx hm hc (by rw [hty]; exact hpy)) t'
    rw [same_set,k1]
    have hsm:=sm_lt (vs:=vs) (c:=c') hx (by omega) cc
    refine ⟨_,rfl,k2, ?_, ?_,fun i a' hi ha'=> ?_,.inr (by simp only; rcases p5 with p5 | p5<;>omega)⟩
    ·simp only [B3]; rw [if_neg (Ne.symm hxy)]; exact p2
    ·simp only [k3]; rw [if_neg (Ne.symm hxy)]; exact p3
    ·simp only [ak7]
     by_cases e:i=j
     ·subst e; rw [ha] at ha'; cases ha'; simp
     ·have:=p4 i a' (by omega) ha'
      split
      ·rename_i f; rw [f] at this; omega
      ·exact this
   ·rw [if_neg cc]
    refine ⟨_,rfl,p1,p2,p3,fun i a' hi ha'=> ?_,p5⟩
    by_cases e:i=j
    ·subst e; rw [ha] at ha'; cases ha'; simp only; omega
    ·exact p4 i a' (by omega) ha')
 refine ⟨s,h1,⟨h2.cd,h2.qu,h2.qk,fun x hx m hm hc _ hqn=> ?_⟩,h6⟩
 by_cases e:tgtW m x=y
 ·have hmem:=(hb y ⟨x,m.cost⟩).2 ⟨x,hx,m,hm,hc,e,rfl⟩
  obtain ⟨i,i0,i1,hi⟩:=D3 hmem
  have:=h5 i _ i1 hi
  change cst s.1 x≤k+m.cost at this
  rw [e]
  have e2:cst s.1 y=k:=by unfold cst; rw [h3]; rfl
  omega
 ·exact h2.arc x hx m hm hc e hqn
structure Best(vs:List Int)(ms:List Mk)(g:Int)(c:MpI):Prop where
 cd:Cd vs ms g c
 least:∀ x k,PthW vs ms g x k→cst c x≤k
theorem main_ok{vs:List Int}{ms:List Mk}{g:Int}{b:Bkm}{c M:MpI}{L:List Int}{E:List En}(hg:Gr vs ms)(hb:BkOk vs ms b)(h:Iv vs ms g c M L E fun _=>False)(t0:Int):
  ∃ r,Loop (J7 b) (c,M,E,t0,L)=some r∧Best vs ms g r:=by
 have hvl:=hg.vl
 refine P9 (body:=J7 b) (s:=((c,M,E,t0,L):St5)) (fun s:St5=>Iv vs ms g s.1 s.2.1 s.2.2.2.2 s.2.2.1 fun _=>False) (fun r=>Best vs ms g r)
  (fun s=>sm vs s.1 * 2001+s.2.2.2.2.length) h ?_
 rintro ⟨c,M,E,t,L⟩ p
 simp only at p
 have hlen:=p.len
 unfold J7
 simp only [C7,oB]
 by_cases cl:0<L.length
 ·rw [if_pos (by omega)]
  obtain ⟨M',L',E',y,k,k1,k2,k3,k4,k5⟩:=take_ok p.qu cl (by omega) t
  obtain ⟨hy,hk⟩:=p.qk y k k3
  have h':Iv vs ms g c M' L' E' (· =y):=⟨p.cd,k2,fun x k hx=>by
    rw [k4] at hx
    by_cases e:x=y
    ·rw [if_pos e] at hx; cases hx
    ·rw [if_neg e] at hx; exact p.qk x k hx,fun x hx m hm hc he hq=>by
    rw [k4,if_neg he] at hq
    exact p.arc x hx m hm hc (fun q=>q) hq⟩
  obtain ⟨s,s1,s2,s3⟩:=relax_all hg hb h' hy hk (by rw [k4,if_pos rfl]) t true
  have hl2:=s2.len
  simp only [k1,oB,s1]
  refine .inl ⟨s,rfl,s2, ?_⟩
  change sm vs s.1 * 2001+s.2.2.2.2.length<sm vs c * 2001+L.length
  rcases s3 with ⟨s3,s4⟩ | s3
  ·rw [s3,s4]; omega
  ·omega
 ·rw [if_neg (by omega)]
  refine .inr ⟨c,rfl,p.cd, ?_⟩
  have hL:L=[]:=List.eq_nil_of_length_eq_zero (by omega)
  have hq:∀ x,qkey M E x=none:=fun x=>by
   unfold qkey
   cases e:mget M x with
   | none=>rfl
   | some z=>have:=((p.qu.mem x z).1 e).1; rw [hL] at this; cases this
  intro x k hp
  induction hp with
  | goal hx hgx=>unfold cst; rw [p.cd.goal _ hx hgx]; simp
  | step hx hm hc hp ih=>
   have:=p.arc _ hx _ hm hc (fun q=>q) (hq _)
   omega
theorem rowM_mset{b:Bkm}{k:Int}{v:List w7}(y:Int):rowM (mset b k v) y=if y=k then v else rowM b y:=by
 unfold rowM; rw [B3]; split<;>rfl
theorem back_ok{ms:List Mk}{b:Bkm}{x:Int}(hml:ms.length≤40){B:Nat}(hB:∀ y,(rowM b y).length≤B)(hB':B≤1000000):
  ∃ b',Q4 ms b x=some b'∧(∀ y,(rowM b' y).length≤B+40)∧∀ y a,a ∈ rowM b' y↔a ∈ rowM b y∨∃ m ∈ ms,canW m x∧tgtW m x=y∧a=⟨x,m.cost⟩:=by
 unfold Q4
 obtain ⟨b',h1,h2,h3⟩:=F4 (body:=Q7 ms x) (n:=(ms.length:Int)) (s:=b)
  (fun j c=>(∀ y,((rowM c y).length:Int)≤B+j)∧∀ y a,a ∈ rowM c y↔a ∈ rowM b y∨∃ i m,i<j∧ix ms i=some m∧canW m x∧tgtW m x=y∧a=⟨x,m.cost⟩) (by omega)
  ⟨fun y=>by have:=hB y; omega,fun y a=>⟨.inl,fun q=>by
   rcases q with q | ⟨i,m,hi,hm,_⟩
   ·exact q
   ·have:=(p9 hm).1; omega⟩⟩ (fun j c j0 j1 hP=>by
   obtain ⟨p1,p2⟩:=hP
   obtain ⟨m,hm,_⟩:=m4 j0 j1
   unfold Q7
   simp only [hm,oB]
   by_cases c1:Go.bits .and .u32 x m.pre=m.pre
   ·rw [if_pos c1]
    have ee:Go.bits .or .u32 (Go.bits .andNot .u32 x m.del) m.add=tgtW m x:=rfl
    rw [ee]
    have hl:=p1 (tgtW m x)
    have ha:app 16 (rowM c (tgtW m x)) [(⟨x,m.cost⟩:w7)]=some (rowM c (tgtW m x)++[⟨x,m.cost⟩]):=by unfold app; rw [if_pos (by simp; omega)]
    simp only [ha,oB]
    refine ⟨_,rfl,fun y=> ?_,fun y a=> ?_⟩
    ·rw [rowM_mset]
     split
     ·simp; omega
     ·have:=p1 y; omega
    ·rw [rowM_mset]
     have key:(∃ i m',i<j+1∧ix ms i=some m'∧canW m' x∧tgtW m' x=y∧a=⟨x,m'.cost⟩)↔(∃ i m',i<j∧ix ms i=some m'∧canW m' x∧tgtW m' x=y∧a=⟨x,m'.cost⟩)∨(tgtW m x=y∧a=⟨x,m.cost⟩):=by
      constructor
      ·rintro ⟨i,m',q1,q2,q3,q4,q5⟩
       by_cases e:i=j
       ·subst e; rw [hm] at q2; cases q2; exact .inr ⟨q4,q5⟩
       ·exact .inl ⟨i,m',by omega,q2,q3,q4,q5⟩
      ·rintro (⟨i,m',q1,q2⟩ | ⟨q1,q2⟩)
       ·exact ⟨i,m',by omega,q2⟩
       ·exact ⟨j,m,by omega,hm,c1,q1,q2⟩
     rw [key]
     by_cases e:y=tgtW m x
     ·rw [if_pos e,List.mem_append,List.mem_singleton,← e,p2]
      simp [or_assoc]
     ·rw [if_neg e,p2]
      have:¬ tgtW m x=y:=fun q=>e q.symm
      simp [this]
   ·rw [if_neg c1]
    refine ⟨_,rfl,fun y=>by have:=p1 y; omega,fun y a=> ?_⟩
    rw [p2]
    refine or_congr_right ⟨?_, ?_⟩
    ·rintro ⟨i,m',q1,q2⟩; exact ⟨i,m',by omega,q2⟩
    ·rintro ⟨i,m',q1,q2,q3,q4⟩
     by_cases e:i=j
     ·subst e; rw [hm] at q2; cases q2; exact absurd q3 c1
     ·exact ⟨i,m',by omega,q2,q3,q4⟩)
 refine ⟨b',by rw [h1]; rfl,fun y=>by have:=h2 y; omega,fun y a=> ?_⟩
 rw [h3]
 refine or_congr_right ⟨?_, ?_⟩
 ·rintro ⟨i,m,_,q2,q3⟩; exact ⟨m,w6 q2,q3⟩
 ·rintro ⟨m,q2,q3⟩
  obtain ⟨i,_,i1,hi⟩:=D3 q2
  exact ⟨i,m,i1,hi,q3⟩
abbrev St6:=Bkm × MpI × MpI × List En × Int × List Int
theorem first_ok{vs:List Int}{ms:List Mk}(start g:Int)(hg:Gr vs ms):
  ∃ s:St6,forR 0 (vs.length:Int) (J9 vs start g ms) ([],[],[],[],0,[])=some s∧BkOk vs ms s.1∧Iv vs ms g s.2.1 s.2.2.1 s.2.2.2.2.2 s.2.2.2.1 fun _=>False:=by
 have hvl:=hg.vl
 have hml:=hg.ml
 obtain ⟨s,h1,h2,h3,h4,h5,h6⟩:=F4 (body:=J9 vs start g ms) (n:=(vs.length:Int)) (s:=(([],[],[],[],0,[]):St6))
  (fun j s=>(∀ y a,a ∈ rowM s.1 y↔∃ x ∈ vs.take j.toNat,∃ m ∈ ms,canW m x∧tgtW m x=y∧a=⟨x,m.cost⟩)∧(∀ y,(rowM s.1 y).length≤j.toNat * 40)∧
   (∀ x,x ∈ vs.take j.toNat→mget s.2.1 x=some (if dec (O8 g x)=true then 0 else 1000000000))∧Qu s.2.2.1 s.2.2.2.2.2 s.2.2.2.1∧∀ x,qkey s.2.2.1 s.2.2.2.1 x=if dec (x ∈ vs.take j.toNat∧O8 g x)=true then some 0 else none) (by omega)
  ⟨fun y a=>by simp [rowM,mget],fun y=>by simp [rowM,mget],by simp,Qu.nil,fun x=>by simp [qkey,mget,dec]⟩ (fun j s j0 j1 hP=>by
   obtain ⟨b,c,M,E,t,L⟩:=s
   obtain ⟨p1,p2,p3,p4,p5⟩:=hP
   simp only at p1 p2 p3 p4 p5
   obtain ⟨x,hx,gx⟩:=m4 j0 j1
   have hj:(j+1).toNat=j.toNat+1:=by omega
   have htk:vs.take (j+1).toNat=vs.take j.toNat++[x]:=by rw [hj,List.take_add_one,gx]; rfl
   have hlen:L.length≤vs.length:=p4.le fun z hz=>by
    rw [p5] at hz
    by_cases e:z ∈ vs.take j.toNat∧O8 g z
    ·exact List.mem_of_mem_take e.1
    ·rw [if_neg (by rw [w9 e]; simp)] at hz; exact absurd rfl hz
   obtain ⟨b',b1,b2,b3⟩:=back_ok (x:=x) hml (B:=j.toNat * 40) p2 (by omega)
   have hback:∀ y a,a ∈ rowM b' y↔∃ x ∈ vs.take (j+1).toNat,∃ m ∈ ms,canW m x∧tgtW m x=y∧a=⟨x,m.cost⟩:=fun y a=>by
    rw [b3,p1,htk]
    simp only [List.mem_append,List.mem_singleton,or_and_right,exists_or,exists_eq_left]
   have hrow:∀ y,(rowM b' y).length≤(j+1).toNat * 40:=fun y=>by have:=b2 y; omega
   unfold J9
   simp only [hx,oB,N0,D0]
   by_cases cg:Go.bits .and .u32 x g=g
   ·rw [if_pos cg]
    have cg':O8 g x:=cg
    obtain ⟨M',L',E',k1,k2,k3⟩:=set_ok p4 (by omega) x 0 t
    simp only [k1,oB,b1]
    refine ⟨_,rfl,hback,hrow,fun z hz=> ?_,k2,fun z=> ?_⟩
    ·simp only [B3]
     by_cases e:z=x
     ·subst e; rw [if_pos rfl,if_pos (m9 cg')]
     ·rw [if_neg e,if_neg e]
      refine p3 z ?_
      rw [htk] at hz; simp [e] at hz; exact hz
    ·simp only [k3,p5,htk]
     by_cases e:z=x
     ·subst e; rw [if_pos rfl,if_pos (m9 ⟨by simp,cg'⟩)]
     ·rw [if_neg e]
      have:(z ∈ vs.take j.toNat++[x]∧O8 g z)↔(z ∈ vs.take j.toNat∧O8 g z):=by simp [e]
      rw [O5 this]
   ·rw [if_neg cg]
    have cg':¬ O8 g x:=cg
    simp only [oB,b1]
    refine ⟨_,rfl,hback,hrow,fun z hz=> ?_,p4,fun z=> ?_⟩
    ·simp only [B3]
     by_cases e:z=x
     ·subst e; rw [if_pos rfl,if_neg (by rw [w9 cg']; simp)]
     ·rw [if_neg e]
      refine p3 z ?_
      rw [htk] at hz; simp [e] at hz; exact hz
    ·simp only [p5,htk]
     have:(z ∈ vs.take j.toNat++[x]∧O8 g z)↔(z ∈ vs.take j.toNat∧O8 g z):=by
      constructor
      ·rintro ⟨q1,q2⟩
       rcases List.mem_append.1 q1 with q1 | q1
       ·exact ⟨q1,q2⟩
       ·simp at q1; subst q1; exact absurd q2 cg'
      ·rintro ⟨q1,q2⟩; exact ⟨List.mem_append_left _ q1,q2⟩
     rw [O5 this])
 have ht:vs.take (vs.length:Int).toNat=vs:=by rw [Int.toNat_natCast,List.take_length]
 rw [ht] at h2 h4 h6
 have hc:∀ x ∈ vs,¬ O8 g x→mget s.2.1 x=some 1000000000:=fun x hx hn=>by rw [h4 x hx,if_neg (by rw [w9 hn]; simp)]
 have hc0:∀ x ∈ vs,O8 g x→mget s.2.1 x=some 0:=fun x hx hn=>by rw [h4 x hx,if_pos (m9 hn)]
 refine ⟨s,h1,h2,⟨fun x hx=> ?_,hc0⟩,h5,fun x k hk=> ?_,fun x hx m hm hcan _ hq=> ?_⟩
 ·by_cases e:O8 g x
  ·exact ⟨0,hc0 x hx e,by omega,by omega,.inr (.goal hx e)⟩
  ·exact ⟨1000000000,hc x hx e,by omega,by omega,.inl rfl⟩
 ·rw [h6] at hk
  by_cases e:x ∈ vs∧O8 g x
  ·rw [if_pos (m9 e)] at hk; cases hk; exact ⟨e.1,hc0 x e.1 e.2⟩
  ·rw [if_neg (by rw [w9 e]; simp)] at hk; cases hk
 ·have hy:=hg.cl x hx m hm hcan
  rw [h6] at hq
  have hn:¬ O8 g (tgtW m x):=fun q=>by rw [if_pos (m9 ⟨hy,q⟩)] at hq; cases hq
  have h0:=(hg.co m hm).1
  unfold cst
  rw [hc _ hy hn,h4 x hx]
  simp only [Option.getD_some]
  split<;>omega
theorem costs_ok{vs:List Int}{ms:List Mk}(start g:Int)(hg:Gr vs ms):∃ c,Q8 vs start g ms=some c∧Best vs ms g c:=by
 unfold Q8
 obtain ⟨s,s1,s2,s3⟩:=first_ok start g hg
 obtain ⟨r,r1,r2⟩:=main_ok hg s2 s3 s.2.2.2.2.1
 refine ⟨r, ?_,r2⟩
 obtain ⟨a,b,c,d,e,f⟩:=s
 simp only [I3,oB,s1]
 rw [r1]; rfl
end Ab
end
section
namespace Ab
open Go
def Val(t:f9)(plan:List Int):Prop:=∀ x ∈ plan,(0:Int)≤x∧x<t.operators.length
def I8(t:f9):List Int→Int
 | []=>0
 | op::r=>I8 t r+(opAt t op).cost
def Few(t:f9):Prop:=∃ l:List (List Int),l.Nodup∧l.length≤2000∧∀ s,s ∈ l↔Rt t s
theorem at3{t:f9}(ht:m6 t):∀ {plan:List Int},Val t plan→0≤I8 t plan
 | [],_=>by simp [I8]
 | op::r,h=>by
  have h1:=at3 ht (plan:=r) fun x hx=>h x (List.mem_cons_of_mem _ hx)
  have h2:=h op (by simp)
  have h3:=(U6 ht h2.1 h2.2).2.1
  simp only [I8]; omega
section
variable {t:f9} {vs:List Int}
theorem pth_of(ht:m6 t)(hv:∀ x,x ∈ vs↔Rwd t x):∀ {plan s:List Int},Rt t s→Val t plan→works t s plan→PthW vs (mks t) (wd t.goal) (wd s) (I8 t plan)
 | [],s,hs,_,⟨e,h1,h2⟩=>by
  simp only [ends,Option.some.injEq] at h1; subst h1
  exact .goal ((hv _).2 ⟨s,hs,rfl⟩) ((sub_word (hs.setN ht) ht.goal ht.n1).2 h2)
 | op::r,s,hs,hp,⟨e,h1,h2⟩=>by
  have h3:=hp op (by simp)
  simp only [ends] at h1
  split at h1
  ·rename_i hc
   have hc:=m5.1 hc
   have ih:=pth_of ht hv (plan:=r) (hs.step h3.1 h3.2 hc) (fun x hx=>hp x (List.mem_cons_of_mem _ hx)) ⟨e,h1,h2⟩
   rw [← tgtW_eq ht (hs.setN ht) h3.1 h3.2] at ih
   exact .step ((hv _).2 ⟨s,hs,rfl⟩) (mks_of h3.1 h3.2) ((aq7 ht (hs.setN ht) h3.1 h3.2).2 hc) ih
  ·cases h1
theorem plan_of(ht:m6 t){x k:Int}(h:PthW vs (mks t) (wd t.goal) x k):∀ {s:List Int},Rt t s→x=wd s→∃ plan,Val t plan∧works t s plan∧I8 t plan=k:=by
 induction h with
 | goal hx hg=>
  intro s hs e; subst e
  exact ⟨[],by simp [Val],⟨s,rfl,(sub_word (hs.setN ht) ht.goal ht.n1).1 hg⟩,rfl⟩
 | step hx hm hc hp ih=>
  intro s hs e; subst e
  obtain ⟨op,h0,h1,rfl⟩:=mks_mem hm
  have hcan:=(aq7 ht (hs.setN ht) h0 h1).1 hc
  obtain ⟨plan,p1,⟨e,p2,p3⟩,p4⟩:=ih (hs.step h0 h1 hcan) (tgtW_eq ht (hs.setN ht) h0 h1)
  refine ⟨op::plan,fun y hy=> ?_,⟨e, ?_,p3⟩,by simp [I8,p4,mkOf]⟩
  ·rcases List.mem_cons.1 hy with rfl | hy
   ·exact ⟨h0,h1⟩
   ·exact p1 y hy
  ·simp only [ends]; rw [if_pos (m9 hcan)]; exact p2
end
/-! ### A way that is not long -/
inductive Hop(vs:List Int)(ms:List Mk)(g:Int):Nat→Int→Prop
 | goal {x:Int} (h:x ∈ vs) (hg:O8 g x):Hop vs ms g 0 x
 | step {x:Int} {n:Nat} {m:Mk} (h:x ∈ vs) (hm:m ∈ ms) (hc:canW m x) (hp:Hop vs ms g n (tgtW m x)):Hop vs ms g (n+1) x
section
variable {vs:List Int} {ms:List Mk} {g:Int}
theorem Hop.of{x k:Int}(h:PthW vs ms g x k):∃ n,Hop vs ms g n x:=by
 induction h with
 | goal hx hg=>exact ⟨0,.goal hx hg⟩
 | step hx hm hc _ ih=>obtain ⟨n,hn⟩:=ih; exact ⟨n+1,.step hx hm hc hn⟩
theorem Hop.mem{n:Nat}{x:Int}(h:Hop vs ms g n x):x ∈ vs:=by cases h<;>assumption
theorem Hop.cost(hg:Gr vs ms){n:Nat}{x:Int}(h:Hop vs ms g n x):∃ k,PthW vs ms g x k∧k≤100 * n:=by
 induction h with
 | goal hx hgx=>exact ⟨0,.goal hx hgx,by omega⟩
 | step hx hm hc _ ih=>
  obtain ⟨k,k1,k2⟩:=ih
  have:=hg.co _ hm
  exact ⟨_,.step hx hm hc k1,by push_cast; omega⟩
def MHop(vs:List Int)(ms:List Mk)(g:Int)(n:Nat)(x:Int):Prop:=Hop vs ms g n x∧∀ m,m<n→¬ Hop vs ms g m x
theorem MHop.of:∀ {n:Nat} {x:Int},Hop vs ms g n x→∃ m,m≤n∧MHop vs ms g m x:=by
 intro n
 induction n using Nat.strongRecOn with
 | _ n ih=>
  intro x h
  by_cases c:∃ m,m<n∧Hop vs ms g m x
  ·obtain ⟨m,m1,m2⟩:=c
   obtain ⟨q,q1,q2⟩:=ih m m1 m2
   exact ⟨q,by omega,q2⟩
  ·exact ⟨n,Nat.le_refl _,h,fun m hm hh=>c ⟨m,hm,hh⟩⟩
theorem MHop.chain:∀ {n:Nat} {x:Int},MHop vs ms g n x→∃ l:List Int,l.length=n+1∧l.Nodup∧∀ y ∈ l,y ∈ vs∧∃ m,m≤n∧MHop vs ms g m y
 | 0,x,h=>⟨[x],rfl,by simp,fun y hy=>by simp at hy; subst hy; exact ⟨h.1.mem,0,Nat.le_refl _,h⟩⟩
 | n+1,x,h=>by
  cases h.1 with
  | @step _ _ m hx hm hc hp=>
   have h':MHop vs ms g n (tgtW m x):=⟨hp,fun q hq hh=>h.2 (q+1) (by omega) (.step hx hm hc hh)⟩
   obtain ⟨l,l1,l2,l3⟩:=MHop.chain h'
   refine ⟨x::l,by simp [l1],List.nodup_cons.2 ⟨fun hxl=> ?_,l2⟩,fun y hy=> ?_⟩
   ·obtain ⟨_,q,q1,q2⟩:=l3 x hxl
    exact h.2 q (by omega) q2.1
   ·rcases List.mem_cons.1 hy with rfl | hy
    ·exact ⟨hx,n+1,Nat.le_refl _,h⟩
    ·obtain ⟨y1,q,q1,q2⟩:=l3 y hy
     exact ⟨y1,q,by omega,q2⟩
theorem pth_small(hg:Gr vs ms){x k:Int}(h:PthW vs ms g x k):∃ k',PthW vs ms g x k'∧k'≤199900:=by
 obtain ⟨n,hn⟩:=Hop.of h
 obtain ⟨m,_,hm⟩:=MHop.of hn
 obtain ⟨l,l1,l2,l3⟩:=hm.chain
 have:=W6 l2 (S:=vs) fun y hy=>(l3 y hy).1
 have hv:=hg.vl
 obtain ⟨k',k1,k2⟩:=hm.1.cost hg
 exact ⟨k',k1,by omega⟩
end
theorem words_of{t:f9}(ht:m6 t){vs:List Int}(hl:vs.length≤2000)(hv:∀ x,x ∈ vs↔Rwd t x):Gr vs (mks t):=⟨fun x hx m hm hc=>(hv _).2 (((hv x).1 hx).next ht hm hc),fun m hm=>by
 obtain ⟨op,h0,h1,rfl⟩:=mks_mem hm
 exact (U6 ht h0 h1).2,by simp [mks]; exact ht.ops,hl⟩
theorem few_of{t:f9}(ht:m6 t){vs:List Int}(hn:vs.Nodup)(hl:vs.length≤2000)(hv:∀ x,x ∈ vs↔Rwd t x):Few t:=by
 obtain ⟨ss,h1,h2⟩:=states_of (t:=t) (l:=vs) fun x hx=>(hv x).1 hx
 refine ⟨ss,al6 (f:=wd) (by rw [h1]; exact hn), ?_,fun s=>⟨h2 s,fun hs=> ?_⟩⟩
 ·have:=congrArg List.length h1
  simp only [List.length_map] at this; omega
 ·have:wd s ∈ ss.map wd:=by rw [h1]; exact (hv _).2 ⟨s,hs,rfl⟩
  obtain ⟨s',s1,s2⟩:=List.mem_map.1 this
  rw [wd_inj ht (hs.setN ht) ((h2 s' s1).setN ht) s2.symm]; exact s1
theorem checked_spec(t:f9):(¬ m6 t∧∃ f,y5 t=some f∧f.code ≠ 0∧F6 t=some (.inl (f.code,f.index)))∨(m6 t∧Many t∧F6 t=some (.inl (10, -7)))∨
  (m6 t∧Few t∧∃ vs:List Int,vs.Nodup∧vs.length≤2000∧(∀ x,x ∈ vs↔Rwd t x)∧F6 t=some (.inr (wd t.init,wd t.goal,mks t,vs))):=by
 obtain ⟨f,h1,_,h3⟩:=validate_eq t
 unfold F6
 rw [h1]
 simp only [oB]
 rcases h3 with ⟨rfl,ht⟩ | ⟨hc,hn⟩
 ·rw [if_neg (by simp),of_eq ht]
  obtain ⟨l,b,a1,a2,a3⟩:=all_spec ht (wd t.goal)
  simp only [oB,a1]
  cases b with
  | false=>exact .inr (.inl ⟨ht,a2 rfl,rfl⟩)
  | true=>
   obtain ⟨q1,q2,q3⟩:=a3 rfl
   obtain ⟨vs,v1,v2⟩:=sortW (l:=l) (by omega) (fun x hx=>by
    obtain ⟨s,s1,rfl⟩:=(q3 x).1 hx
    exact wd_u32 ht (s1.setN ht))
   have hv:∀ x,x ∈ vs↔Rwd t x:=fun x=>v2.mem_iff.trans (q3 x)
   have hvn:vs.Nodup:=v2.nodup_iff.2 q1
   have hvl:vs.length≤2000:=by rw [v2.length_eq]; exact q2
   exact .inr (.inr ⟨ht,few_of ht hvn hvl hv,vs,hvn,hvl,hv,by simp [v1]⟩)
 ·rw [if_pos (by simp [hc])]
  exact .inl ⟨hn,f,rfl,hc,rfl⟩
inductive OptR(t:f9):Int × TFault→Prop
 | bad {f:TFault} (h:¬ m6 t) (hf:y5 t=some f) (hc:f.code ≠ 0):OptR t (0,f)
 | many (h:m6 t) (hm:Many t):OptR t (0,⟨10, -7⟩)
 | none (h:m6 t) (hf:Few t) (hn:∀ plan,Val t plan→¬ works t t.init plan):OptR t (1000000000,⟨0,0⟩)
 | some {k:Int} {plan:List Int} (h:m6 t) (hf:Few t) (h0:0≤k) (h1:k≤199900) (hv:Val t plan) (hw:works t t.init plan) (hk:I8 t plan=k) (hl:∀ p,Val t p→works t t.init p→k≤I8 t p):OptR t (k,⟨0,0⟩)
theorem optimal_spec(t:f9):∃ r,T1 t=some r∧OptR t r:=by
 unfold T1
 rcases checked_spec t with ⟨h,f,h1,h2,h3⟩ | ⟨h,h1,h2⟩ | ⟨ht,h1,vs,v1,v2,v3,h2⟩
 ·rw [h3]
  simp only [oB]
  rw [if_pos (by simp [h2])]
  exact ⟨_,rfl,.bad h h1 h2⟩
 ·rw [h2]
  simp only [oB]
  rw [if_pos (by simp)]
  exact ⟨_,rfl,.many h h1⟩
 ·rw [h2]
  simp only [oB]
  rw [if_neg (by simp)]
  have hg:=words_of ht v2 v3
  obtain ⟨c,c1,c2⟩:=costs_ok (wd t.init) (wd t.goal) hg
  simp only [c1,oB,z8]
  have hi:wd t.init ∈ vs:=(v3 _).2 ⟨_,.init,rfl⟩
  obtain ⟨k,k1,k2,k3,k4⟩:=c2.cd.dom _ hi
  have hck:cst c (wd t.init)=k:=by unfold cst; rw [k1]; rfl
  refine ⟨_,rfl, ?_⟩
  rw [k1]
  simp only [Option.getD_some]
  by_cases e:∃ k',PthW vs (mks t) (wd t.goal) (wd t.init) k'
  ·obtain ⟨k0,e⟩:=e
   obtain ⟨k',e1,e2⟩:=pth_small hg e
   have hle:=c2.least _ _ e1
   rcases k4 with k4 | k4
   ·omega
   ·obtain ⟨plan,p1,p2,p3⟩:=plan_of ht k4 .init rfl
    refine .some ht h1 k2 (by omega) p1 p2 p3 fun p q1 q2=> ?_
    have:=c2.least _ _ (pth_of ht v3 .init q1 q2)
    omega
  ·rcases k4 with rfl | k4
   ·exact .none ht h1 fun p q1 q2=>e ⟨_,pth_of ht v3 .init q1 q2⟩
   ·exact absurd ⟨_,k4⟩ e
end Ab
end
section
namespace Ab
open Go
end Ab
end
section
namespace Ab
open Go
section
variable {t:f9} {op:Int}
/-! ### Without the operator -/
theorem few_many(hf:Few t):¬ Many t:=by
 rintro ⟨m,m1,m2,m3⟩
 obtain ⟨l,l1,l2,l3⟩:=hf
 have:=W6 m1 (S:=l) fun s hs=>(l3 s).2 (m3 s hs)
 omega
end
end Ab
end
section
namespace Ab
open Go
def LC(t:f9)(P:List Int→Prop)(k:Int):Prop:=(∀ p,P p→k≤I8 t p)∧0≤k∧((k=1000000000∧∀ p,¬ P p)∨(k<1000000000∧∃ p,P p∧I8 t p=k))
def Sol(t:f9)(s p:List Int):Prop:=Val t p∧works t s p
theorem LC.eq{t:f9}{P:List Int→Prop}{k k':Int}(h:LC t P k)(h':LC t P k'):k=k':=by
 obtain ⟨a1,a2,a3⟩:=h
 obtain ⟨b1,b2,b3⟩:=h'
 rcases a3 with ⟨a3,a4⟩ | ⟨a3,p,a4,a5⟩
 ·rcases b3 with ⟨b3,b4⟩ | ⟨b3,q,b4,b5⟩
  ·omega
  ·exact absurd b4 (a4 q)
 ·rcases b3 with ⟨b3,b4⟩ | ⟨b3,q,b4,b5⟩
  ·exact absurd a4 (b4 p)
  ·have:=a1 q b4; have:=b1 p a4; omega
theorem LC.le{t:f9}{P:List Int→Prop}{k:Int}(h:LC t P k):k≤1000000000:=by
 obtain ⟨a1,a2,⟨a3,a4⟩ | ⟨a3,p,a4,a5⟩⟩:=h<;>omega
theorem OptR.lc{t:f9}{r:Int × TFault}(h:OptR t r)(hc:r.2.code=0):LC t (Sol t t.init) r.1:=by
 cases h with
 | bad _ _ hc'=>exact absurd hc hc'
 | many=>simp at hc
 | none h hf hn=>exact ⟨fun p hp=>absurd hp.2 (hn p hp.1),by simp,.inl ⟨rfl,fun p hp=>hn p hp.1 hp.2⟩⟩
 | some h hf h0 h1 hv hw hk hl=>exact ⟨fun p hp=>hl p hp.1 hp.2,h0,.inr ⟨by simp only; omega,_,⟨hv,hw⟩,hk⟩⟩
theorem OptR.mny{t:f9}{r:Int × TFault}(h:OptR t r)(ht:m6 t)(hc:r.2.code ≠ 0):Many t∧r=(0,⟨10, -7⟩):=by
 cases h with
 | bad h=>exact absurd ht h
 | many _ hm=>exact ⟨hm,rfl⟩
 | none=>simp at hc
 | some=>simp at hc
section
variable {t:f9} {op:Int}
end
end Ab
end
section
namespace Ab
open Go
inductive Ex(t:f9)(g:List Int):List Int→List Int→Int→Prop
 | goal {s:List Int} (h:∀ x ∈ g,x ∈ s):Ex t g [] s 0
 | step {o s:List Int} {op c:Int} (h0:0≤op) (h1:op<t.operators.length) (hc:can t s op) (h:Ex t g o (aft t s op) c):Ex t g o s (c+(opAt t op).cost)
 | obs {o s:List Int} {op c:Int} (h0:0≤op) (h1:op<t.operators.length) (hc:can t s op) (h:Ex t g o (aft t s op) c):Ex t g (op::o) s (c+(opAt t op).cost)
inductive Rc(t:f9)(ob:List Int):List Int→Nat→Int→Prop
 | init:Rc t ob t.init 0 0
 | step {s:List Int} {k:Nat} {op c:Int} (h:Rc t ob s k c) (h0:0≤op) (h1:op<t.operators.length) (hc:can t s op):Rc t ob (aft t s op) k (c+(opAt t op).cost)
 | obs {s:List Int} {k:Nat} {op c:Int} (h:Rc t ob s k c) (h0:0≤op) (h1:op<t.operators.length) (hc:can t s op) (ho:ob[k]? =some op):Rc t ob (aft t s op) (k+1) (c+(opAt t op).cost)
section
variable {t:f9} {g ob:List Int}
theorem Rc.rt{s:List Int}{k:Nat}{c:Int}(h:Rc t ob s k c):Rt t s:=by
 induction h with
 | init=>exact .init
 | step _ h0 h1 hc ih=>exact ih.step h0 h1 hc
 | obs _ h0 h1 hc _ ih=>exact ih.step h0 h1 hc
theorem Rc.le{s:List Int}{k:Nat}{c:Int}(h:Rc t ob s k c):k≤ob.length:=by
 induction h with
 | init=>exact Nat.zero_le _
 | step _ _ _ _ ih=>exact ih
 | obs _ _ _ _ ho ih=>have:=(List.getElem?_eq_some_iff.1 ho).1; omega
theorem Rc.nonneg(ht:m6 t){s:List Int}{k:Nat}{c:Int}(h:Rc t ob s k c):0≤c:=by
 induction h with
 | init=>exact Int.le_refl 0
 | step _ h0 h1 _ ih=>have:=(U6 ht h0 h1).2.1; omega
 | obs _ h0 h1 _ _ ih=>have:=(U6 ht h0 h1).2.1; omega
theorem Rc.ex{s:List Int}{k:Nat}{c:Int}(h:Rc t ob s k c):∀ {c':Int},Ex t g (ob.drop k) s c'→Ex t g ob t.init (c+c'):=by
 induction h with
 | init=>intro c' h; simpa using h
 | @step s k op c _ h0 h1 hc ih=>
  intro c' h
  have:=ih (.step h0 h1 hc h)
  rwa [show c+(opAt t op).cost+c'=c+(c'+(opAt t op).cost) by omega]
 | @obs s k op c _ h0 h1 hc ho ih=>
  intro c' h
  obtain ⟨hl,e⟩:=List.getElem?_eq_some_iff.1 ho
  have hd:ob.drop k=op::ob.drop (k+1):=by rw [List.drop_eq_getElem_cons hl,e]
  have:=ih (c':=c'+(opAt t op).cost) (by rw [hd]; exact .obs h0 h1 hc h)
  rwa [show c+(opAt t op).cost+c'=c+(c'+(opAt t op).cost) by omega]
theorem Ex.rc{o s:List Int}{c:Int}(h:Ex t g o s c):∀ {k:Nat} {c0:Int},Rc t ob s k c0→o=ob.drop k→∃ e,Rc t ob e ob.length (c0+c)∧∀ x ∈ g,x ∈ e:=by
 induction h with
 | goal h=>
  intro k c0 hr e
  have hk:=hr.le
  have:k=ob.length:=by
   have:=congrArg List.length e
   simp at this; omega
  subst this
  exact ⟨_,by simpa using hr,h⟩
 | @step o s op c h0 h1 hc _ ih=>
  intro k c0 hr e
  obtain ⟨e',h2,h3⟩:=ih (hr.step h0 h1 hc) e
  exact ⟨e',by rwa [show c0+(c+(opAt t op).cost)=c0+(opAt t op).cost+c by omega],h3⟩
 | @obs o s op c h0 h1 hc _ ih=>
  intro k c0 hr e
  have hk:k<ob.length:=by
   rcases Nat.lt_or_ge k ob.length with h | h
   ·exact h
   ·rw [List.drop_eq_nil_of_le h] at e; cases e
  rw [List.drop_eq_getElem_cons hk] at e
  simp only [List.cons.injEq] at e
  obtain ⟨e',h2,h3⟩:=ih (hr.obs h0 h1 hc (List.getElem?_eq_some_iff.2 ⟨hk,e.1.symm⟩)) e.2
  exact ⟨e',by rwa [show c0+(c+(opAt t op).cost)=c0+(opAt t op).cost+c by omega],h3⟩
theorem Ex.nil{o s:List Int}{c:Int}(h:Ex t g o s c):Ex t g [] s c:=by
 induction h with
 | goal h=>exact .goal h
 | step h0 h1 hc _ ih=>exact .step h0 h1 hc ih
 | obs h0 h1 hc _ ih=>exact .step h0 h1 hc ih
theorem Ex.plan{o s:List Int}{c:Int}(h:Ex t g o s c):∃ p,Val t p∧(∃ e,ends t s p=some e∧∀ x ∈ g,x ∈ e)∧I8 t p=c:=by
 induction h with
 | @goal s h=>exact ⟨[],by simp [Val],⟨s,rfl,h⟩,rfl⟩
 | @step o s op c h0 h1 hc _ ih=>
  obtain ⟨p,p1,⟨e,p2,p3⟩,p4⟩:=ih
  refine ⟨op::p,fun y hy=> ?_,⟨e, ?_,p3⟩,by simp [I8,p4]⟩
  ·rcases List.mem_cons.1 hy with rfl | hy
   ·exact ⟨h0,h1⟩
   ·exact p1 y hy
  ·simp only [ends]; rw [if_pos (m9 hc)]; exact p2
 | @obs o s op c h0 h1 hc _ ih=>
  obtain ⟨p,p1,⟨e,p2,p3⟩,p4⟩:=ih
  refine ⟨op::p,fun y hy=> ?_,⟨e, ?_,p3⟩,by simp [I8,p4]⟩
  ·rcases List.mem_cons.1 hy with rfl | hy
   ·exact ⟨h0,h1⟩
   ·exact p1 y hy
  ·simp only [ends]; rw [if_pos (m9 hc)]; exact p2
theorem Ex.of:∀ {a o b s e:List Int},Val t (a++(o++b))→ends t s (a++(o++b))=some e→(∀ x ∈ g,x ∈ e)→Ex t g o s (I8 t (a++(o++b)))
 | [],[],[],s,e,_,he,hg=>by
  simp only [List.append_nil,ends,Option.some.injEq] at he; subst he
  exact .goal hg
 | [],[],op::b,s,e,hv,he,hg=>by
  simp only [List.nil_append,ends] at he ⊢
  have ho:=hv op (by simp)
  split at he
  ·rename_i hc
   exact .step ho.1 ho.2 (m5.1 hc) (Ex.of (a:=[]) (o:=[]) (b:=b) (fun x hx=>hv x (by simp at hx ⊢; exact .inr hx)) (by simpa using he) hg)
  ·cases he
 | [],op::o,b,s,e,hv,he,hg=>by
  simp only [List.nil_append,List.cons_append,ends] at he ⊢
  have ho:=hv op (by simp)
  split at he
  ·rename_i hc
   exact .obs ho.1 ho.2 (m5.1 hc) (Ex.of (a:=[]) (o:=o) (b:=b) (fun x hx=>hv x (by simp at hx ⊢; exact .inr hx)) (by simpa using he) hg)
  ·cases he
 | op::a,o,b,s,e,hv,he,hg=>by
  simp only [List.cons_append,ends] at he ⊢
  have ho:=hv op (by simp)
  split at he
  ·rename_i hc
   exact .step ho.1 ho.2 (m5.1 hc) (Ex.of (a:=a) (o:=o) (b:=b) (fun x hx=>hv x (by simp at hx ⊢; exact .inr hx)) he hg)
  ·cases he
def EC(t:f9)(g ob:List Int)(k:Int):Prop:=(∀ c,Ex t g ob t.init c→k≤c)∧0≤k∧((k=1000000000∧∀ c,¬ Ex t g ob t.init c)∨(k<1000000000∧Ex t g ob t.init k))
theorem EC.eq{k k':Int}(h:EC t g ob k)(h':EC t g ob k'):k=k':=by
 obtain ⟨a1,_,⟨a3,a4⟩ | ⟨a3,a4⟩⟩:=h
 ·obtain ⟨b1,_,⟨b3,b4⟩ | ⟨b3,b4⟩⟩:=h'
  ·omega
  ·exact absurd b4 (a4 _)
 ·obtain ⟨b1,_,⟨b3,b4⟩ | ⟨b3,b4⟩⟩:=h'
  ·exact absurd a4 (b4 _)
  ·have:=a1 _ b4; have:=b1 _ a4; omega
theorem EC.le{k:Int}(h:EC t g ob k):k≤1000000000:=by
 obtain ⟨a1,a2,⟨a3,a4⟩ | ⟨a3,a4⟩⟩:=h<;>omega
theorem EC.mono{g' ob':List Int}{k k':Int}(h:EC t g ob k)(h':EC t g' ob' k')(hm:∀ c,Ex t g' ob' t.init c→Ex t g ob t.init c):k≤k':=by
 obtain ⟨b1,_,⟨b3,b4⟩ | ⟨b3,b4⟩⟩:=h'
 ·have:=h.le; omega
 ·exact h.1 _ (hm _ b4)
theorem EC.lc{k:Int}(h:EC t t.goal [] k):LC t (Sol t t.init) k:=by
 have to:∀ p,Sol t t.init p→Ex t t.goal [] t.init (I8 t p):=fun p ⟨hv,e,he,hg⟩=>Ex.of (a:=[]) (o:=[]) (b:=p) hv he hg
 obtain ⟨a1,a2,⟨a3,a4⟩ | ⟨a3,a4⟩⟩:=h
 ·exact ⟨fun p hp=>a1 _ (to p hp),a2,.inl ⟨a3,fun p hp=>a4 _ (to p hp)⟩⟩
 ·obtain ⟨p,p1,p2,p3⟩:=a4.plan
  exact ⟨fun p hp=>a1 _ (to p hp),a2,.inr ⟨a3,p,⟨p1,p2⟩,p3⟩⟩
/-! ### The search -/
abbrev Tr:=List Int × Nat × Int
def Nx(t:f9)(ob:List Int)(x y:Tr):Prop:=∃ op:Int,0≤op∧op<t.operators.length∧can t x.1 op∧y.1=aft t x.1 op∧y.2.2=x.2.2+(opAt t op).cost∧(y.2.1=x.2.1∨ob[x.2.1]? =some op∧y.2.1=x.2.1+1)
def Cov(H D:Tr→Prop)(y:Tr):Prop:=(∃ c,D (y.1,y.2.1,c)∧c≤y.2.2)∨∃ c,H (y.1,y.2.1,c)∧c≤y.2.2
structure Dj(t:f9)(ob:List Int)(H D:Tr→Prop)(B:Int):Prop where
 hr:∀ x,H x→Rc t ob x.1 x.2.1 x.2.2∧B≤x.2.2
 dr:∀ x,D x→Rc t ob x.1 x.2.1 x.2.2∧x.2.2≤B
 opt:∀ x,D x→∀ c,Rc t ob x.1 x.2.1 c→x.2.2≤c
 ini:Cov H D (t.init,0,0)
 nx:∀ x y,D x→Nx t ob x y→Cov H D y
theorem Dj.front{H D:Tr→Prop}{B:Int}(ht:m6 t)(h:Dj t ob H D B){s:List Int}{k:Nat}{c:Int}(hr:Rc t ob s k c):(∃ d,D (s,k,d)∧d≤c)∨∃ x,H x∧x.2.2≤c:=by
 have step:∀ {s:List Int} {k:Nat} {c op:Int} {k':Nat},0≤op→op<t.operators.length→can t s op→(k'=k∨ob[k]? =some op∧k'=k+1)→((∃ d,D (s,k,d)∧d≤c)∨∃ x,H x∧x.2.2≤c)→(∃ d,D (aft t s op,k',d)∧d≤c+(opAt t op).cost)∨∃ x,H x∧x.2.2≤c+(opAt t op).cost:=by
  intro s k c op k' h0 h1 hc hk ih
  have hco:=(U6 ht h0 h1).2.1
  rcases ih with ⟨d,d1,d2⟩ | ⟨x,x1,x2⟩
  ·rcases h.nx _ (aft t s op,k',d+(opAt t op).cost) d1 ⟨op,h0,h1,hc,rfl,rfl,hk⟩ with ⟨c',e1,e2⟩ | ⟨c',e1,e2⟩
   ·exact .inl ⟨c',e1,by simp only at e2; omega⟩
   ·exact .inr ⟨_,e1,by simp only at e2 ⊢; omega⟩
  ·exact .inr ⟨x,x1,by omega⟩
 induction hr with
 | init=>
  rcases h.ini with ⟨c',e1,e2⟩ | ⟨c',e1,e2⟩
  ·exact .inl ⟨c',e1,e2⟩
  ·exact .inr ⟨_,e1,e2⟩
 | step _ h0 h1 hc ih=>exact step h0 h1 hc (.inl rfl) ih
 | obs _ h0 h1 hc ho ih=>exact step h0 h1 hc (.inr ⟨ho,rfl⟩) ih
theorem Dj.again{H H' D:Tr→Prop}{B:Int}(h:Dj t ob H D B){x:Tr}(hH:∀ y,H y↔y=x∨H' y)(hm:∀ y,H y→x.2.2≤y.2.2){d:Int}(hx:D (x.1,x.2.1,d)):Dj t ob H' D x.2.2:=by
 have hxH:=(hH x).2 (.inl rfl)
 have hd:=h.opt _ hx _ (h.hr x hxH).1
 have cov:∀ y,Cov H D y→Cov H' D y:=fun y hy=>by
  rcases hy with ⟨c,c1,c2⟩ | ⟨c,c1,c2⟩
  ·exact .inl ⟨c,c1,c2⟩
  ·rcases (hH _).1 c1 with e | c1
   ·subst e
    exact .inl ⟨d,hx,by simp only at hd; omega⟩
   ·exact .inr ⟨c,c1,c2⟩
 exact ⟨fun y hy=>⟨(h.hr y ((hH y).2 (.inr hy))).1,hm y ((hH y).2 (.inr hy))⟩,fun y hy=>⟨(h.dr y hy).1,by have:=(h.dr y hy).2; have:=(h.hr x hxH).2; omega⟩,h.opt,cov _ h.ini,fun a b ha hb=>cov _ (h.nx a b ha hb)⟩
theorem Dj.next{H H' D:Tr→Prop}{B:Int}(ht:m6 t)(h:Dj t ob H D B){x:Tr}(hH:∀ y,H y→y=x∨H' y)(hH1:∀ y,H' y→H y∨Nx t ob x y)(hH2:∀ y,Nx t ob x y→H' y)(hx:H x)(hm:∀ y,H y→x.2.2≤y.2.2)(hn:∀ d,¬ D (x.1,x.2.1,d)):
  Dj t ob H' (fun y=>y=x∨D y) x.2.2:=by
 have hxB:=(h.hr x hx)
 have cov:∀ y,Cov H D y→Cov H' (fun y=>y=x∨D y) y:=fun y hy=>by
  rcases hy with ⟨c,c1,c2⟩ | ⟨c,c1,c2⟩
  ·exact .inl ⟨c,.inr c1,c2⟩
  ·rcases hH _ c1 with e | c1
   ·exact .inl ⟨c,.inl e,c2⟩
   ·exact .inr ⟨c,c1,c2⟩
 refine ⟨fun y hy=> ?_,fun y hy=> ?_,fun y hy c hc=> ?_,cov _ h.ini,fun a b ha hb=> ?_⟩
 ·rcases hH1 y hy with hy | ⟨op,h0,h1,hc,e1,e2,e3⟩
  ·exact ⟨(h.hr y hy).1,hm y hy⟩
  ·have hco:=(U6 ht h0 h1).2.1
   refine ⟨?_,by omega⟩
   rw [e1,e2]
   rcases e3 with e3 | ⟨e3,e4⟩
   ·rw [e3]; exact hxB.1.step h0 h1 hc
   ·rw [e4]; exact hxB.1.obs h0 h1 hc e3
 ·rcases hy with rfl | hy
  ·exact ⟨hxB.1,Int.le_refl _⟩
  ·exact ⟨(h.dr y hy).1,by have:=(h.dr y hy).2; omega⟩
 ·rcases hy with rfl | hy
  ·rcases h.front ht hc with ⟨d,d1,_⟩ | ⟨z,z1,z2⟩
   ·exact absurd d1 (hn d)
   ·have:=hm z z1; omega
  ·exact h.opt y hy c hc
 ·rcases ha with rfl | ha
  ·exact .inr ⟨b.2.2,hH2 b hb,Int.le_refl _⟩
  ·exact cov b (h.nx a b ha hb)
theorem Dj.start:Dj t ob (fun y=>y=(t.init,0,0)) (fun _=>False) 0:=
 ⟨fun x hx=>by subst hx; exact ⟨.init,Int.le_refl 0⟩,fun x hx=>hx.elim,fun x hx=>hx.elim,.inr ⟨0,rfl,Int.le_refl 0⟩,fun x y hx=>hx.elim⟩
def Got(ob g:List Int)(D:Tr→Prop)(k:Int):Prop:=(k=1000000000∧∀ x,D x→x.2.1=ob.length→¬ ∀ y ∈ g,y ∈ x.1)∨(k<1000000000∧∃ x,D x∧x.2.1=ob.length∧(∀ y ∈ g,y ∈ x.1)∧x.2.2=k∧∀ z,D z→z.2.1=ob.length→(∀ y ∈ g,y ∈ z.1)→k≤z.2.2)
theorem Got.ec{H D:Tr→Prop}{B k:Int}(ht:m6 t)(h:Dj t ob H D B)(he:∀ x,¬ H x)(hg:Got ob g D k):EC t g ob k:=by
 have all:∀ c,Ex t g ob t.init c→∃ z,D z∧z.2.1=ob.length∧(∀ y ∈ g,y ∈ z.1)∧z.2.2≤c:=fun c hc=>by
  obtain ⟨e,h1,h2⟩:=hc.rc (ob:=ob) .init (by simp)
  rcases h.front ht h1 with ⟨d,d1,d2⟩ | ⟨x,x1,_⟩
  ·exact ⟨_,d1,rfl,h2,by simpa using d2⟩
  ·exact absurd x1 (he x)
 rcases hg with ⟨rfl,hn⟩ | ⟨hk,x,x1,x2,x3,rfl,x4⟩
 ·have no:∀ c,¬ Ex t g ob t.init c:=fun c hc=>by
   obtain ⟨z,z1,z2,z3,_⟩:=all c hc
   exact hn z z1 z2 z3
  exact ⟨fun c hc=>absurd hc (no c),by omega,.inl ⟨rfl,no⟩⟩
 ·refine ⟨fun c hc=> ?_,(h.dr x x1).1.nonneg ht,.inr ⟨hk, ?_⟩⟩
  ·obtain ⟨z,z1,z2,z3,z4⟩:=all c hc
   have:=x4 z z1 z2 z3; omega
  ·have:=(h.dr x x1).1.ex (g:=g) (c':=0) (by rw [x2,List.drop_length]; exact .goal x3)
   simpa using this
end
end Ab
end
section
namespace Ab
section
variable {α:Type} {le:α→α→Prop}
def sw(a:Nat→α)(i j:Nat):Nat→α:=fun k=>if k=i then a j else if k=j then a i else a k
def HpO(le:α→α→Prop)(a:Nat→α)(n:Nat):Prop:=∀ k,0<k→k<n→le (a ((k - 1) / 2)) (a k)
def UpI(le:α→α→Prop)(a:Nat→α)(n j:Nat):Prop:=(∀ k,0<k→k<n→k ≠ j→le (a ((k - 1) / 2)) (a k))∧∀ k,0<k→k<n→(k - 1) / 2=j→0<j→le (a ((j - 1) / 2)) (a k)
def DnI(le:α→α→Prop)(a:Nat→α)(n i:Nat):Prop:=(∀ k,0<k→k<n→(k - 1) / 2 ≠ i→le (a ((k - 1) / 2)) (a k))∧∀ k,0<k→k<n→(k - 1) / 2=i→0<i→le (a ((i - 1) / 2)) (a k)
theorem sw_l{a:Nat→α}{i j:Nat}:sw a i j i=a j:=by simp [sw]
theorem sw_r{a:Nat→α}{i j:Nat}:sw a i j j=a i:=by unfold sw; split<;>simp_all
theorem sw_o{a:Nat→α}{i j k:Nat}(h1:k ≠ i)(h2:k ≠ j):sw a i j k=a k:=by simp [sw,h1,h2]
theorem up_done{a:Nat→α}{n j:Nat}(h:UpI le a n j)(hd:j=0∨le (a ((j - 1) / 2)) (a j)):HpO le a n:=fun k k0 k1=>by
 by_cases e:k=j
 ·subst e; exact hd.resolve_left (by omega)
 ·exact h.1 k k0 k1 e
theorem up_step(tr:∀ a b c,le a b→le b c→le a c){a:Nat→α}{n j:Nat}(hj:j<n)(h:UpI le a n j)(j0:0<j)(hl:le (a j) (a ((j - 1) / 2))):UpI le (sw a ((j - 1) / 2) j) n ((j - 1) / 2):=by
 have hp:(j - 1) / 2<j:=by omega
 constructor
 ·intro k k0 k1 ke
  by_cases e:k=j
  ·subst e
   rw [sw_r,sw_l]; exact hl
  ·rw [sw_o ke e]
   by_cases e2:(k - 1) / 2=(j - 1) / 2
   ·rw [e2,sw_l]
    have:=h.1 k k0 k1 e
    rw [e2] at this
    exact tr _ _ _ hl this
   ·by_cases e3:(k - 1) / 2=j
    ·rw [e3,sw_r]
     exact h.2 k k0 k1 e3 j0
    ·rw [sw_o e2 e3]
     exact h.1 k k0 k1 e
 ·intro k k0 k1 ke p0
  rw [sw_o (by omega) (by omega)]
  have hpp:=h.1 ((j - 1) / 2) p0 (by omega) (by omega)
  by_cases e:k=j
  ·subst e
   rw [sw_r]; exact hpp
  ·rw [sw_o (by omega) e]
   have:=h.1 k k0 k1 e
   rw [ke] at this
   exact tr _ _ _ hpp this
theorem dn_done{a:Nat→α}{n i:Nat}(h:DnI le a n i)(hd:∀ k,0<k→k<n→(k - 1) / 2=i→le (a i) (a k)):HpO le a n:=fun k k0 k1=>by
 by_cases e:(k - 1) / 2=i
 ·rw [e]; exact hd k k0 k1 e
 ·exact h.1 k k0 k1 e
theorem dn_step{a:Nat→α}{n i j:Nat}(h:DnI le a n i)(j0:0<j)(jn:j<n)(ji:(j - 1) / 2=i)(hm:∀ k,0<k→k<n→(k - 1) / 2=i→le (a j) (a k))(hl:le (a j) (a i)):DnI le (sw a i j) n j:=by
 have hij:i<j:=by omega
 constructor
 ·intro k k0 k1 ke
  by_cases e:k=j
  ·subst e
   rw [ji,sw_r,sw_l]; exact hl
  ·by_cases e2:k=i
   ·subst e2
    rw [sw_l,sw_o (by omega) (by omega)]
    exact h.2 j j0 jn ji k0
   ·rw [sw_o (k:=k) e2 e]
    by_cases e3:(k - 1) / 2=i
    ·rw [e3,sw_l]
     exact hm k k0 k1 e3
    ·rw [sw_o e3 ke]
     exact h.1 k k0 k1 e3
 ·intro k k0 k1 ke _
  rw [ji,sw_l,sw_o (by omega) (by omega)]
  have:=h.1 k k0 k1 (by omega)
  rw [ke] at this; exact this
theorem hp_root(rf:∀ a,le a a)(tr:∀ a b c,le a b→le b c→le a c){a:Nat→α}{n:Nat}(h:HpO le a n):∀ k,k<n→le (a 0) (a k):=by
 intro k
 induction k using Nat.strongRecOn with
 | _ k ih=>
  intro hk
  rcases Nat.eq_zero_or_pos k with rfl | k0
  ·exact rf _
  ·exact tr _ _ _ (ih ((k - 1) / 2) (by omega) (by omega)) (h k k0 hk)
theorem hp_push{a b:Nat→α}{n:Nat}(h:HpO le a n)(hb:∀ k,k<n→b k=a k):UpI le b (n+1) n:=by
 constructor
 ·intro k k0 k1 ke
  rw [hb _ (by omega),hb _ (by omega)]
  exact h k k0 (by omega)
 ·intro k k0 k1 ke p0; omega
theorem hp_pop{a:Nat→α}{n:Nat}(h:HpO le a (n+1)):DnI le (sw a 0 n) n 0:=by
 constructor
 ·intro k k0 k1 ke
  rw [sw_o (by omega) (by omega),sw_o (by omega) (by omega)]
  exact h k k0 (by omega)
 ·intro k k0 k1 ke p0; omega
/-! ### Rows -/
def gt(l:List α)(d:α)(k:Nat):α:=l[k]?.getD d
def swp(l:List α)(i j:Nat)(x y:α):List α:=(l.set i y).set j x
theorem gt_of{l:List α}{d x:α}{k:Nat}(h:l[k]? =some x):gt l d k=x:=by simp [gt,h]
theorem gt_swp{l:List α}{d x y:α}{i j:Nat}(hi:l[i]? =some x)(hj:l[j]? =some y):gt (swp l i j x y) d=sw (gt l d) i j:=by
 funext k
 have i1:=(List.getElem?_eq_some_iff.1 hi).1
 have j1:=(List.getElem?_eq_some_iff.1 hj).1
 unfold swp sw
 by_cases e:k=i
 ·subst e
  rw [if_pos rfl,gt_of hj]
  by_cases e2:j=k
  ·subst e2
   refine gt_of ?_
   rw [List.getElem?_set_self (by simpa using j1),← hi,hj]
  ·refine gt_of ?_
   rw [List.getElem?_set_ne e2,List.getElem?_set_self i1]
 ·rw [if_neg e]
  by_cases e2:k=j
  ·subst e2
   rw [if_pos rfl,gt_of hi]
   exact gt_of (List.getElem?_set_self (by simpa using j1))
  ·rw [if_neg e2]
   unfold gt
   rw [List.getElem?_set_ne (Ne.symm e2),List.getElem?_set_ne (Ne.symm e)]
theorem swp_perm{l:List α}{x y:α}{i j:Nat}(hi:l[i]? =some x)(hj:l[j]? =some y):(swp l i j x y).Perm l:=by
 classical
 refine List.perm_iff_count.2 fun a=> ?_
 have i1:=(List.getElem?_eq_some_iff.1 hi)
 have j1:=(List.getElem?_eq_some_iff.1 hj)
 unfold swp
 obtain ⟨i1,i2⟩:=i1
 obtain ⟨j1,j2⟩:=j1
 rw [List.count_set (h:=by simpa using j1),List.count_set (h:=i1)]
 have hx:0<l.count x:=List.count_pos_iff.2 (i2 ▸ List.getElem_mem i1)
 have hy:0<l.count y:=List.count_pos_iff.2 (j2 ▸ List.getElem_mem j1)
 by_cases e:i=j
 ·subst e
  rw [i2] at j2; subst j2
  simp only [List.getElem_set_self,i2]
  by_cases q:x=a
  ·subst q; simp; omega
  ·simp [q]
 ·rw [List.getElem_set_ne e,i2,j2]
  by_cases q:x=a
  ·subst q
   by_cases q2:y=x
   ·subst q2; simp; omega
   ·simp [q2]; omega
  ·by_cases q2:y=a
   ·subst q2; simp [q]
   ·simp [q,q2]
theorem ag9{l:List α}{x y:α}{i j:Nat}:(swp l i j x y).length=l.length:=by simp [swp]
end
end Ab
end
section
namespace Ab
open Go
abbrev Nd:=e7
def nlt(a b:Nd):Prop:=a.cost<b.cost∨a.cost=b.cost∧a.sequence<b.sequence
def nle(a b:Nd):Prop:=¬ nlt b a
theorem aq1(a:Nd):nle a a:=by unfold nle nlt; omega
theorem nle_trans(a b c:Nd)(h:nle a b)(k:nle b c):nle a c:=by unfold nle nlt at *; omega
theorem nle_of{a b:Nd}(h:nlt a b):nle a b:=by unfold nle nlt at *; omega
theorem nle_cost{a b:Nd}(h:nle a b):a.cost≤b.cost:=by unfold nle nlt at h; omega
def nd0:Nd:=⟨[],0,0,0⟩
abbrev gN(l:List Nd):Nat→Nd:=gt l nd0
def HpN(l:List Nd):Prop:=HpO nle (gN l) l.length
theorem nless_eq{l:List Nd}{i k:Int}{x y:Nd}(hi:ix l i=some x)(hk:ix l k=some y):q7 i k l=some (dec (nlt x y)):=by
 unfold q7
 simp only [hi,hk,oB]
 by_cases c1:x.cost<y.cost
 ·rw [if_pos c1,m9 (.inl c1)]; rfl
 ·rw [if_neg c1]
  by_cases c2:x.cost=y.cost
  ·rw [if_pos c2]
   simp only [oB]
   rw [aq3]
   exact congrArg some (O5 ⟨fun h=>.inr ⟨c2,h⟩,fun h=>by unfold nlt at h; omega⟩)
  ·rw [if_neg c2,w9 (by unfold nlt; omega)]; rfl
theorem nless1:D6=q7:=rfl
theorem nswap1:D5=s8:=rfl
theorem nswap_eq{l:List Nd}{i k:Int}{x y:Nd}(hi:ix l i=some x)(hk:ix l k=some y):s8 i k l=some (swp l i.toNat k.toNat x y):=by
 obtain ⟨i0,i1,_⟩:=p9 hi
 obtain ⟨k0,k1,_⟩:=p9 hk
 obtain ⟨z,hz,_⟩:=m4 (l:=l.set i.toNat y) k0 (by simpa using k1)
 unfold s8
 simp only [hi,hk,hz,oB]; rfl
theorem gN_ix{l:List Nd}{i:Int}{x:Nd}(h:ix l i=some x):gN l i.toNat=x:=gt_of (p9 h).2.2
theorem nup_ok{l:List Nd}{j:Int}(hj:0≤j)(hj':j<l.length)(hu:UpI nle (gN l) l.length j.toNat)(hb:l.length≤1000000000):
  ∃ l',F7 j l=some l'∧HpN l'∧l'.Perm l:=by
 unfold F7
 obtain ⟨o,o1,o2,o3⟩:=P9 (body:=G2) (s:=(l,j))
  (fun s=>s.1.Perm l∧0≤s.2∧s.2<s.1.length∧UpI nle (gN s.1) s.1.length s.2.toNat) (fun o=>HpN o∧o.Perm l) (fun s=>s.2.toNat)
  ⟨.refl _,hj,hj',hu⟩ (by
   rintro ⟨c,j⟩ ⟨p1,p2,p3,p4⟩
   simp only at p1 p2 p3 p4
   have hl:=p1.length_eq
   unfold G2
   have e1:w64 (j - 1)=j - 1:=v7 (by omega) (by omega)
   have e3:(j - 1).tdiv 2=if j=0 then 0 else (j - 1) / 2:=by
    split
    ·rename_i q; subst q; rfl
    ·rw [Int.tdiv_eq_ediv_of_nonneg (by omega)]
   have e2:w64 ((j - 1).tdiv 2)=if j=0 then 0 else (j - 1) / 2:=by
    rw [e3]; split
    ·rfl
    ·exact v7 (by omega) (by omega)
   simp only [e1,e2,chkN,show ((2:Int)=0)=False by simp,if_false,oB]
   by_cases c0:j=0
   ·subst c0
    rw [if_pos (by simp)]
    exact .inr ⟨_,rfl,up_done p4 (.inl rfl),p1⟩
   ·simp only [if_neg c0]
    rw [if_neg (by omega)]
    obtain ⟨x,hx,_⟩:=m4 (l:=c) p2 p3
    obtain ⟨y,hy,_⟩:=m4 (l:=c) (i:=(j - 1) / 2) (by omega) (by omega)
    have hpar:((j - 1) / 2).toNat=(j.toNat - 1) / 2:=by omega
    have gx:=gN_ix hx
    have gy:=gN_ix hy
    rw [nless_eq hx hy]
    by_cases cx:nlt x y
    ·simp only [m9 cx,oB,Bool.not_true,Bool.false_eq_true,if_false,nswap1,nswap_eq hy hx,M3,ag9,if_true]
     have i1:=(p9 hy).2.2
     have i2:=(p9 hx).2.2
     refine .inl ⟨_,rfl,⟨(swp_perm i1 i2).trans p1,by simp only; omega,by simp only [ag9]; omega, ?_⟩,by simp only; omega⟩
     simp only [ag9]
     have:=up_step (le:=nle) nle_trans (a:=gN c) (n:=c.length) (j:=j.toNat) (by omega) p4 (by omega) (by rw [← hpar,gx,gy]; exact nle_of cx)
     rw [← hpar] at this
     rw [show gN (swp c ((j - 1) / 2).toNat j.toNat y x)=sw (gN c) ((j - 1) / 2).toNat j.toNat from gt_swp i1 i2]
     exact this
    ·simp only [w9 cx,oB,Bool.not_false,if_true]
     exact .inr ⟨_,rfl,up_done p4 (.inr (by rw [← hpar,gx,gy]; exact cx)),p1⟩)
 exact ⟨o,by rw [o1]; rfl,o2,o3⟩
theorem npush_ok{l:List Nd}(h:HpN l)(x:Nd)(hb:l.length≤10000000):∃ l',z7 x l=some l'∧HpN l'∧l'.Perm (x::l):=by
 have ha:app 48 l [x]=some (l++[x]):=by unfold app; rw [if_pos (by simp; omega)]
 have e1:w64 (((l++[x]).length:Int) - 1)=(l.length:Int):=by rw [show (((l++[x]).length:Int) - 1)=(l.length:Int) by simp]; exact v7 (by omega) (by omega)
 obtain ⟨l',k1,k2,k3⟩:=nup_ok (l:=l++[x]) (j:=l.length) (by omega) (by simp; omega) (by
  rw [Int.toNat_natCast,List.length_append,List.length_singleton]
  refine hp_push (a:=gN l) h fun k hk=> ?_
  unfold gN gt
  rw [List.getElem?_append_left hk]) (by simp; omega)
 refine ⟨l', ?_,k2,k3.trans (List.perm_append_singleton _ _)⟩
 unfold z7 E6 x9
 simp only [ha,oB,e1,k1]
theorem ndown_ok{l:List Nd}{nv:Nat}(hn:nv<l.length)(hd:DnI nle (gN l) nv 0)(hb:l.length≤1000000000):
  ∃ l' b,D1 0 (nv:Int) l=some (l',b)∧HpO nle (gN l') nv∧l'.Perm l∧gN l' nv=gN l nv:=by
 unfold D1
 obtain ⟨o,o1,o2,o3,o4⟩:=P9 (body:=E5 (nv:Int)) (s:=(l,(0:Int)))
  (fun s=>s.1.Perm l∧0≤s.2∧s.2<l.length∧DnI nle (gN s.1) nv s.2.toNat∧gN s.1 nv=gN l nv∧(s.2=0∨s.2<nv)) (fun o=>HpO nle (gN o.1) nv∧o.1.Perm l∧gN o.1 nv=gN l nv) (fun s=>(nv:Nat)+1 - s.2.toNat)
  ⟨.refl _,by simp,by simp; omega,hd,rfl,.inl rfl⟩ (by
   rintro ⟨c,i⟩ ⟨p1,p2,p3,p4,p5,p6⟩
   simp only at p1 p2 p3 p4 p5 p6
   have hl:=p1.length_eq
   unfold E5
   have e1:w64 (w64 (2 * i)+1)=2 * i+1:=by rw [v7 (n:=2 * i) (by omega) (by omega),v7 (by omega) (by omega)]
   simp only [e1]
   by_cases c1:(nv:Int)≤2 * i+1
   ·rw [if_pos (by simp [c1])]
    exact .inr ⟨_,rfl,dn_done p4 fun k k0 k1 k2=>by omega,p1,p5⟩
   rw [if_neg (by simp; omega)]
   have e2:w64 (2 * i+1+1)=2 * i+2:=by rw [v7 (by omega) (by omega)]; omega
   simp only [e2]
   obtain ⟨x,hx,_⟩:=m4 (l:=c) p2 (by omega)
   have gx:=gN_ix hx
   obtain ⟨j,y,j1,hy,j2,j3,j4,j5⟩:∃ j y,(Option.bind (if 2 * i+2<(nv:Int) then Option.bind (q7 (2 * i+2) (2 * i+1) c) fun a32=>some a32 else some false) fun t63=>if t63=true then some (2 * i+2) else some (2 * i+1))=some j∧ix c j=some y∧i<j∧j<nv∧(j - 1) / 2=i∧∀ k,0<k→k<nv→(k - 1) / 2=i.toNat→nle y (gN c k):=by
    obtain ⟨a,ha,_⟩:=m4 (l:=c) (i:=2 * i+1) (by omega) (by omega)
    have ga:=gN_ix ha
    by_cases c2:2 * i+2<(nv:Int)
    ·obtain ⟨b,hb,_⟩:=m4 (l:=c) (i:=2 * i+2) (by omega) (by omega)
     have gb:=gN_ix hb
     rw [if_pos c2,nless_eq hb ha]
     have two:∀ k,0<k→k<nv→(k - 1) / 2=i.toNat→k=(2 * i+1).toNat∨k=(2 * i+2).toNat:=fun k _ _ _=>by omega
     by_cases c3:nlt b a
     ·rw [m9 c3]
      refine ⟨2 * i+2,b,rfl,hb,by omega,c2,by omega,fun k k0 k1 k2=> ?_⟩
      rcases two k k0 k1 k2 with rfl | rfl
      ·rw [ga]; exact nle_of c3
      ·rw [gb]; exact aq1 _
     ·rw [w9 c3]
      refine ⟨2 * i+1,a,rfl,ha,by omega,by omega,by omega,fun k k0 k1 k2=> ?_⟩
      rcases two k k0 k1 k2 with rfl | rfl
      ·rw [ga]; exact aq1 _
      ·rw [gb]; exact c3
    ·rw [if_neg c2]
     refine ⟨2 * i+1,a,rfl,ha,by omega,by omega,by omega,fun k k0 k1 k2=> ?_⟩
     have:k=(2 * i+1).toNat:=by omega
     subst this
     rw [ga]; exact aq1 _
   rw [j1,Option.bind_some,nless1,nless_eq hy hx]
   simp only [oB]
   by_cases c4:nlt y x
   ·simp only [m9 c4,Bool.not_true,Bool.false_eq_true,if_false,nswap_eq hx hy,oB,M3,ag9,if_true]
    have i1:=(p9 hx).2.2
    have i2:=(p9 hy).2.2
    have hsw:gN (swp c i.toNat j.toNat x y)=sw (gN c) i.toNat j.toNat:=gt_swp i1 i2
    refine .inl ⟨_,rfl,⟨(swp_perm i1 i2).trans p1,by simp only; omega,by simp only; omega, ?_, ?_,.inr j3⟩,by simp only; omega⟩
    ·simp only [hsw]
     exact dn_step p4 (by omega) (by omega) (by omega) (fun k k0 k1 k2=>by rw [gN_ix hy]; exact j5 k k0 k1 k2) (by rw [gN_ix hy,gx]; exact nle_of c4)
    ·simp only [hsw]
     rw [sw_o (by omega) (by omega)]; exact p5
   ·simp only [w9 c4,Bool.not_false,if_true]
    refine .inr ⟨_,rfl,dn_done p4 fun k k0 k1 k2=> ?_,p1,p5⟩
    rw [gx]
    exact nle_trans _ _ _ c4 (j5 k k0 k1 k2))
 exact ⟨o.1,_,by rw [o1]; rfl,o2,o3,o4⟩
theorem npop_ok{l:List Nd}(h:HpN l)(hl:0<l.length)(hb:l.length≤1000000000):∃ l' x,D9 l=some (l',x)∧HpN l'∧l.Perm (x::l')∧∀ y ∈ l,nle x y:=by
 have e1:w64 ((l.length:Int) - 1)=(l.length:Int) - 1:=v7 (by omega) (by omega)
 obtain ⟨x,hx,_⟩:=m4 (l:=l) (i:=0) (by omega) (by omega)
 obtain ⟨y,hy,_⟩:=m4 (l:=l) (i:=(l.length:Int) - 1) (by omega) (by omega)
 have gx:=gN_ix hx
 have hnat:((l.length:Int) - 1).toNat=l.length - 1:=by omega
 have i1:=(p9 hx).2.2
 have i2:=(p9 hy).2.2
 have hsw:gN (swp l (0:Int).toNat ((l.length:Int) - 1).toNat x y)=sw (gN l) 0 (l.length - 1):=by rw [← hnat]; exact gt_swp i1 i2
 obtain ⟨l1,b,d1,d2,d3,d4⟩:=ndown_ok (l:=swp l (0:Int).toNat ((l.length:Int) - 1).toNat x y) (nv:=l.length - 1) (by rw [ag9]; omega) (by
  rw [hsw]
  exact hp_pop (n:=l.length - 1) (by rw [show l.length - 1+1=l.length by omega]; exact h)) (by rw [ag9]; exact hb)
 have hp1:=d3.trans (swp_perm i1 i2)
 have hl1:=hp1.length_eq
 have hlast:gN l1 (l.length - 1)=x:=by rw [d4,hsw,sw_r]; exact gx
 obtain ⟨z,hz,gz⟩:=m4 (l:=l1) (i:=(l.length:Int) - 1) (by omega) (by omega)
 have hzx:z=x:=by rw [← hlast,← hnat]; exact (gN_ix hz).symm
 subst hzx
 have hview:k6 l1 0 ((l.length:Int) - 1)=l1.dropLast:=by
  unfold k6
  simp only [Int.toNat_zero,List.drop_zero,List.dropLast_eq_take,hnat,hl1]
 have hsnoc:l1.dropLast++[z]=l1:=by
  have hne:l1 ≠ []:=by intro q; rw [q] at hl1; simp at hl1; omega
  have hlast:l1.getLast hne=z:=by
   rw [List.getLast_eq_getElem]
   have:=List.getElem?_eq_some_iff.1 gz
   have e:((l.length:Int) - 1).toNat=l1.length - 1:=by omega
   simp only [e] at this
   exact this.2
  rw [← hlast]; exact List.dropLast_concat_getLast hne
 refine ⟨l1.dropLast,z, ?_, ?_, ?_,fun w hw=> ?_⟩
 ·unfold D9 x9 E7
  have e2:((l.length - 1:Nat):Int)=(l.length:Int) - 1:=by omega
  rw [e2] at d1
  simp only [oB,e1,nswap_eq hx hy,M3,ag9,if_true,d1,hl1,hz,cutV]
  rw [if_pos (by omega)]
  simp only [oB]
  rw [hview]
 ·unfold HpN
  have:l1.dropLast.length=l.length - 1:=by rw [List.length_dropLast]; omega
  rw [this]
  intro k k0 k1
  have:=d2 k k0 k1
  unfold gN gt at this ⊢
  rw [List.dropLast_eq_take,List.getElem?_take_of_lt (by omega),List.getElem?_take_of_lt (by omega)]
  exact this
 ·have:=hp1.symm
  rw [← hsnoc] at this
  exact this.trans (List.perm_append_singleton _ _)
 ·obtain ⟨k,hk⟩:=List.getElem?_of_mem hw
  have h1:=hp_root aq1 nle_trans h k (List.getElem?_eq_some_iff.1 hk).1
  have e:gN l k=w:=gt_of hk
  have e0:gN l 0=z:=gx
  rw [e,e0] at h1; exact h1
end Ab
end
section
namespace Ab
open Go
inductive Ed:Nat→List Int→List Int→Prop
 | nil:Ed 0 [] []
 | keep {n:Nat} {x:Int} {a b:List Int} (h:Ed n a b):Ed n (x::a) (x::b)
 | del {n:Nat} {x:Int} {a b:List Int} (h:Ed n a b):Ed (n+1) (x::a) b
 | ins {n:Nat} {y:Int} {a b:List Int} (h:Ed n a b):Ed (n+1) a (y::b)
theorem Ed.symm{n:Nat}{a b:List Int}(h:Ed n a b):Ed n b a:=by
 induction h with
 | nil=>exact .nil
 | keep _ ih=>exact .keep ih
 | del _ ih=>exact .ins ih
 | ins _ ih=>exact .del ih
theorem Ed.eq{n:Nat}{a b:List Int}(h:Ed n a b):n=0→a=b:=by
 induction h with
 | nil=>intro _; rfl
 | keep _ ih=>intro h; rw [ih h]
 | del=>intro h; omega
 | ins=>intro h; omega
theorem Ed.all:∀ b:List Int,Ed b.length [] b
 | []=>.nil
 | _::b=>.ins (Ed.all b)
theorem Ed.none:∀ b:List Int,Ed b.length b []
 | []=>.nil
 | _::b=>.del (Ed.none b)
/-! ### Distance -/
def RowIs(m:Nat)(f:Nat→Nat)(row:List Int):Prop:=row.length=m+1∧∀ k,k≤m→row[k]? =some (f k:Int)
theorem RowIs.ix{m:Nat}{f:Nat→Nat}{row:List Int}(h:RowIs m f row){k:Nat}(hk:k≤m):ix row (k:Int)=some (f k:Int):=by rw [P0]; exact h.2 k hk
end Ab
end
section
namespace Ab
open Go
end Ab
end
section
namespace Ab
open Go
theorem at0{α β:Type}{l:List α}{body:Int→List β→Option (List β)}(g:α→List β)(N:Nat)(c0:List β)
  (hb:∀ j a c,ix l j=some a→c.length+(g a).length≤N→body j c=some (c++g a)) (hN:c0.length+(l.flatMap g).length≤N):
  forR 0 (l.length:Int) body c0=some (c0++l.flatMap g):=by
 obtain ⟨s',h1,h2⟩:=F4 (body:=body) (n:=(l.length:Int)) (s:=c0) (fun j c=>c=c0++(l.take j.toNat).flatMap g) (by omega) (by simp) (fun j c h0 h1 hP=>by
  obtain ⟨a,g1,g2⟩:=m4 h0 h1
  have e:(j+1).toNat=j.toNat+1:=by omega
  have ht:l.take (j+1).toNat=l.take j.toNat++[a]:=by rw [e,List.take_add_one,g2]; rfl
  refine ⟨c++g a,hb j a c g1 ?_, ?_⟩
  ·have hs:l=l.take j.toNat++[a]++l.drop (j+1).toNat:=by rw [← ht,List.take_append_drop]
   have hl:(l.flatMap g).length=((l.take j.toNat).flatMap g).length+(g a).length+((l.drop (j+1).toNat).flatMap g).length:=by
    conv=>lhs; rw [hs]
    simp [List.flatMap_append]; omega
   rw [hP,List.length_append]; omega
  ·rw [ht,List.flatMap_append,hP]; simp)
 rw [h1,h2]
 simp
theorem small_eq:∀ n:Fin 100,(internal_strconv_small (n:Nat)).map strL=some (dg (n:Nat)):=by decide+kernel
theorem appendInt_eq{x:Int}(hx:0≤x∧x<100){l:List Int}(hl:l.length≤1000000):B8 x 10 l=some (l++dg x):=by
 have h:=small_eq ⟨x.toNat,by omega⟩
 rw [show (((⟨x.toNat,by omega⟩:Fin 100):Nat):Int)=x by simp; omega] at h
 obtain ⟨b,h1,h2⟩:=Option.map_eq_some_iff.1 h
 first
  | unfold B8 B1 A4
  | unfold B8 internal_strconv_AppendInt_w2 internal_strconv_AppendUint_w3
 rw [if_neg (by omega),IntKind.wrap_u64,Int.emod_eq_of_lt (by omega) (by omega)]
 simp only [oB,if_true]
 rw [if_pos hx.2,v7 (by omega) (by omega),h1]
 simp only [oB,h2]
 have:(dg x).length≤2:=by unfold dg; split<;>simp
 rw [app,if_pos (by omega)]
 rfl
theorem dg_len(x:Int):(dg x).length≤2:=by unfold dg; split<;>simp
theorem key_eq{l:List (List Int)}(hs:∀ s ∈ l,U7 s)(hN:(encK l).length≤900000):H1 l=some (keyK l):=by
 unfold H1
 rw [at0 encS 900000 [] (fun j s c hj hc=>by
  unfold ai8
  rw [hj]
  simp only [oB]
  have hlen:(encS s).length=(s.flatMap fun x=>dg x++[44]).length+1:=by simp [encS]
  rw [at0 (fun x=>dg x++[44]) 900000 c (fun i x c' hi hc'=>by
   unfold aj1
   rw [hi]
   simp only [List.length_append,List.length_singleton] at hc'
   simp only [oB,appendInt_eq (hs s (w6 hj) x (w6 hi)) (l:=c') (by omega)]
   rw [app,if_pos (by simp; omega)]
   simp) (by omega)]
  simp only [oB]
  rw [app,if_pos (by rw [List.length_append]; simp only [List.length_singleton]; omega)]
  simp [encS]) (by simpa [encK] using hN)]
 rfl
theorem ar1:∀ s:List Int,(encS s).length≤3 * s.length+1
 | []=>by simp [encS]
 | x::s=>by
  have:=ar1 s
  have:=dg_len x
  rw [ah8]
  simp only [List.length_append,List.length_cons]
  omega
theorem key2_eq{s a:List Int}(hs:U7 s)(ha:U7 a)(h1:s.length≤1000)(h2:a.length≤1000):H1 [s,a]=some (keyK [s,a]):=by
 refine key_eq (by simp [hs,ha]) ?_
 have:=ar1 s; have:=ar1 a
 simp only [encK,List.flatMap_cons,List.flatMap_nil,List.length_append,List.append_nil]
 omega
end Ab
end
section
namespace Ab
open Go
/-! ### All sets -/
/-! ### Keys -/
theorem flat_lenP{α β:Type}(f:α→List β)(n:Nat)(hf:∀ a,(f a).length=n):∀ l:List α,(l.flatMap f).length=l.length * n
 | []=>by simp
 | a::l=>by simp only [List.flatMap_cons,List.length_append,flat_lenP f n hf l,hf,List.length_cons,Nat.succ_mul]; omega
theorem W2{t:f9}(ht:m6 t){s:List Int}(hs:SetN s t.facts):U7 s:=fun x hx=>by
 have:=ht.n1
 have:=hs.2 x hx
 omega
/-! ### Maps -/
section
variable {K V:Type} [DecidableEq K]
end
/-! ### What the search keeps -/
abbrev Mp':=List (ByteArray × Int)
end Ab
end
section
namespace Ab
open Go
theorem kone_eq{s:List Int}(hs:U7 s)(h1:s.length≤1000):H1 [s]=some (keyK [s]):=by
 refine key_eq (by simp [hs]) ?_
 have:=ar1 s
 simp only [encK,List.flatMap_cons,List.flatMap_nil,List.append_nil]
 omega
theorem kone_inj{t:f9}(ht:m6 t){s s':List Int}(h:SetN s t.facts)(h':SetN s' t.facts)(e:keyK [s]=keyK [s']):s=s':=by
 have:=keyK_inj (fun x hx=>by simp at hx; subst hx; exact W2 ht h) (fun x hx=>by simp at hx; subst hx; exact W2 ht h') e
 simpa using this
theorem containsAny_eq{l:List (List Int)}{f:List Int→Option Bool}{p:List Int→Prop}(h:∀ x ∈ l,f x=some (dec (p x))):A0 l f=some (dec (∃ x ∈ l,p x)):=by
 unfold A0 H4
 rcases L3 (body:=E8 l f) (n:=(l.length:Int)) (fun j=>if dec (∃ x,ix l j=some x∧p x)=true then some j else none) (by omega) (fun j h0 h1 _=>by
  obtain ⟨x,hx,_⟩:=m4 (l:=l) h0 h1
  unfold E8
  simp only [hx,oB,h x (w6 hx)]
  by_cases e:p x
  ·rw [ifP e,ifP ⟨x,rfl,e⟩]
  ·rw [ifN e,ifN (by rintro ⟨z,hz,hp⟩; cases hz; exact e hp)]) with ⟨h1,h2⟩ | ⟨j,o,h0,h1,h2,h3,h4⟩
 ·rw [h1]
  simp only [oB]
  rw [w9]
  ·rfl
  ·rintro ⟨x,hx,hp⟩
   obtain ⟨i,i0,i1,hi⟩:=D3 hx
   have:=h2 i i0 i1
   rw [ifP ⟨x,hi,hp⟩] at this
   cases this
 ·rw [h4]
  split at h2
  ·rename_i e
   cases h2
   simp only [oB]
   obtain ⟨x,hx,hp⟩:=m5.1 e
   rw [m9 ⟨x,w6 hx,hp⟩,decide_eq_true h0]
  ·cases h2
theorem sure_one{s pre:List Int}(hs:Inc s)(hp:Inc pre)(hl:s.length≤1000000):Y1 [s] pre=some (dec (∀ x ∈ pre,x ∈ s)):=by
 unfold Y1
 rw [containsAny_eq (p:=fun y=>¬ ∀ x ∈ pre,x ∈ y) (fun x hx=>by
  simp only [List.mem_singleton] at hx
  subst hx
  unfold aa2
  rw [ao2 hs hp hl]
  simp only [oB,L4])]
 simp only [oB,L4]
 refine congrArg some (O5 ⟨fun h=>Classical.byContradiction fun g=>h ⟨s,by simp,g⟩,fun h=> ?_⟩)
 rintro ⟨x,hx,hn⟩
 simp only [List.mem_singleton] at hx
 subst hx
 exact hn h
theorem after_one{t:f9}(ht:m6 t){s:List Int}(hs:SetN s t.facts){op:Int}(h0:0≤op)(h1:op<t.operators.length):R3 t [s] op=some [aft t s op]:=by
 have e:forR 0 (([s]:List (List Int)).length:Int) (O1 t [s] op) []=some [aft t s op]:=by
  show forN (O1 t [s] op) 1 0 []=_
  simp only [forN]
  have e0:ix [s] 0=some s:=rfl
  have e1:app 24 ([]:List (List Int)) [aft t s op]=some [aft t s op]:=rfl
  unfold O1
  simp only [e0,oB,next_eq ht h0 h1 hs,e1]
 unfold R3
 rw [e]
 simp only [oB]
 obtain ⟨r,r1,r2,r3,_⟩:=normal_eq (l:=[aft t s op]) (by simp)
 rw [r1]
 simp only [oB]
 rw [Ord.ext r2 (by simp) r3]
structure Bq(t:f9)(l:List (List Int))(m:Mp')(qu:List i7):Prop where
 node:qu.map (·.node)=l.map (fun s=>[s])
 nd:l.Nodup
 rt:∀ s ∈ l,Rt t s
 map:∀ s,SetN s t.facts→(0<(mget m (keyK [s])).getD 0↔s ∈ l)
 len:l.length≤2000
theorem Bq.ql{t:f9}{l:List (List Int)}{m:Mp'}{qu:List i7}(h:Bq t l m qu):qu.length=l.length:=by
 have:=congrArg List.length h.node
 simpa using this
theorem Bq.at{t:f9}{l:List (List Int)}{m:Mp'}{qu:List i7}(h:Bq t l m qu){i:Int}{e:i7}(hi:ix qu i=some e):∃ s,ix l i=some s∧e.node=[s]:=by
 obtain ⟨h0,h1,h2⟩:=p9 hi
 have hg:=congrArg (fun l=>l[i.toNat]?) h.node
 simp only [List.getElem?_map,h2,Option.map_some] at hg
 cases hs:l[i.toNat]? with
 | none=>rw [hs] at hg; cases hg
 | some s=>
  rw [hs] at hg
  simp only [Option.map_some,Option.some.injEq] at hg
  refine ⟨s, ?_,hg⟩
  rw [show i=((i.toNat:Nat):Int) by omega,P0]
  exact hs
theorem breadth_in{t:f9}(ht:m6 t){l:List (List Int)}{m:Mp'}{qu:List i7}(h:Bq t l m qu){c:Int}{e:i7}{s:List Int}(hs:s ∈ l)(he:e.node=[s]):
  (∃ l' m' qu',C4 t.facts t.init t.goal t.operators qu m c e=some (.inl (m',qu'))∧Bq t l' m' qu'∧(∃ ex,l'=l++ex)∧Cls t l' s)∨(∃ y,C4 t.facts t.init t.goal t.operators qu m c e=some (.inr y)∧Many t):=by
 have hsN:=(h.rt s hs).setN ht
 have h24:=ht.n1
 unfold C4
 rcases ap9 (body:=G6 t.facts t.init t.goal t.operators c e) (n:=(t.operators.length:Int)) (s:=(m,qu))
  (fun j st=>∃ l',Bq t l' st.1 st.2∧(∃ ex,l'=l++ex)∧∀ op:Int,0≤op→op<j→can t s op→aft t s op ∈ l')
  (fun o=>∃ y,o=.inr y∧Many t) (by omega) ⟨l,h,⟨[],by simp⟩,fun op o0 o1=>by omega⟩
  (fun j st j0 j1 hP=>by
   obtain ⟨m1,qu1⟩:=st
   obtain ⟨l1,g1,g2,g3⟩:=hP
   simp only at g1
   have hop:=ht.at j0 j1
   have hnew:=setN_aft t s j
   unfold G6
   simp only [ix_op j0 j1,oB,he]
   rw [sure_one hsN.1 hop.1.1.1 (by have:=hsN.len; omega)]
   simp only [oB]
   by_cases hc:can t s j
   ·rw [if_pos (m9 (show ∀ x ∈ (opAt t j).pre,x ∈ s from hc))]
    have ea:R3 (⟨t.facts,t.init,t.goal,t.operators⟩:f9) [s] j=some [aft t s j]:=after_one ht hsN j0 j1
    rw [ea]
    simp only [oB,kone_eq (W2 ht hnew) (by have:=hnew.len; omega)]
    by_cases hm:aft t s j ∈ l1
    ·rw [if_pos ((g1.map _ hnew).2 hm)]
     refine .inl ⟨_,rfl,l1,g1,g2,fun op o0 o1 oc=> ?_⟩
     by_cases eo:op=j
     ·subst eo; exact hm
     ·exact g3 op o0 (by omega) oc
    ·rw [if_neg (fun hx=>hm ((g1.map _ hnew).1 hx))]
     have hrt:Rt t (aft t s j):=(h.rt s hs).step j0 j1 hc
     have hnd:(l1++[aft t s j]).Nodup:=by
      rw [List.nodup_append]
      refine ⟨g1.nd,by simp,fun a ha b hb eab=> ?_⟩
      simp only [List.mem_singleton] at hb
      subst hb; subst eab; exact hm ha
     have hrs:∀ y ∈ l1++[aft t s j],Rt t y:=fun y hy=>by
      rcases List.mem_append.1 hy with hy | hy
      ·exact g1.rt y hy
      ·simp only [List.mem_singleton] at hy; subst hy; exact hrt
     have hql:=g1.ql
     have hlen:=g1.len
     by_cases hq:(qu1.length:Int)=2000
     ·rw [if_pos hq]
      exact .inr ⟨_,rfl,_,rfl,l1++[aft t s j],hnd,by simp; omega,hrs⟩
     ·rw [if_neg hq]
      have ha:app 40 qu1 [(⟨[aft t s j],c,j⟩:i7)]=some (qu1++[⟨[aft t s j],c,j⟩]):=by rw [app,if_pos (by simp; omega)]
      rw [ha]
      refine .inl ⟨_,rfl,l1++[aft t s j],⟨by simp [g1.node],hnd,hrs,fun y hy=> ?_,by simp; omega⟩, ?_,fun op o0 o1 oc=> ?_⟩
      ·simp only
       rw [B3]
       by_cases ek:keyK [y]=keyK [aft t s j]
       ·rw [if_pos ek,kone_inj ht hy hnew ek]; simp
       ·rw [if_neg ek,g1.map y hy,List.mem_append,List.mem_singleton]
        exact ⟨.inl,fun g=>g.elim id fun g=>absurd (by rw [g]) ek⟩
      ·obtain ⟨ex,rfl⟩:=g2
       exact ⟨ex++[aft t s j],by simp⟩
      ·by_cases eo:op=j
       ·subst eo; simp
       ·exact List.mem_append_left _ (g3 op o0 (by omega) oc)
   ·rw [if_neg (show ¬ dec (∀ x ∈ (opAt t j).pre,x ∈ s)=true from fun g=>hc (m5.1 g))]
    refine .inl ⟨_,rfl,l1,g1,g2,fun op o0 o1 oc=> ?_⟩
    by_cases eo:op=j
    ·subst eo; exact absurd oc hc
    ·exact g3 op o0 (by omega) oc) with ⟨⟨m',qu'⟩,h1,l',h2,h3,h4⟩ | ⟨o,h1,y,rfl,h2⟩
 ·left
  rw [h1]
  exact ⟨l',m',qu',rfl,h2,h3,h4⟩
 ·right
  rw [h1]
  exact ⟨y,rfl,h2⟩
theorem breadth_spec{t:f9}(ht:m6 t):∃ b,H7 [t.init] t.facts t.init t.goal t.operators=some b∧(b=false→Many t)∧(b=true→∃ l:List (List Int),l.Nodup∧l.length≤2000∧∀ s,s ∈ l↔Rt t s):=by
 have h24:=ht.n1
 unfold H7 K4
 rw [kone_eq (W2 ht ht.init) (by have:=ht.init.len; omega)]
 simp only [oB]
 obtain ⟨o,h1,h2⟩:=P9 (body:=G3 t.facts t.init t.goal t.operators) (s:=([(⟨[t.init], -1,0⟩:i7)],mset ([]:List (ByteArray × Int)) (keyK [t.init]) 1,0))
  (fun s=>∃ l,Bq t l s.2.1 s.1∧t.init ∈ l∧0≤s.2.2∧s.2.2≤l.length∧∀ (k:Int) (x:List Int),k<s.2.2→ix l k=some x→Cls t l x)
  (fun o=>(o=.inl ()∧∃ l:List (List Int),l.Nodup∧l.length≤2000∧∀ s,s ∈ l↔Rt t s)∨(o=.inr ([],false,false)∧Many t))
  (fun s=>2001 - s.2.2.toNat) ⟨[t.init],⟨rfl,by simp,fun s hs=>by simp at hs; subst hs; exact .init,fun s hs=>by
   simp only
   rw [B3]
   by_cases ek:keyK [s]=keyK [t.init]
   ·rw [if_pos ek,kone_inj ht hs ht.init ek]; simp
   ·rw [if_neg ek]
    simp only [mget,Option.getD_none,List.mem_singleton]
    exact ⟨fun h=>by omega,fun g=>absurd (by rw [g]) ek⟩,by simp⟩,by simp,by simp only; omega,by simp only; omega,fun k x hk hx=>by have:=p9 hx; simp only at hk; omega⟩
  (fun s hP=>by
   obtain ⟨qu,m,c⟩:=s
   obtain ⟨l,g1,g2,g3,g4,g5⟩:=hP
   simp only at g1 g3 g4 g5
   have hql:=g1.ql
   have hlen:=g1.len
   unfold G3
   dsimp only
   by_cases cc:c<(qu.length:Int)
   ·rw [if_pos cc]
    obtain ⟨e,he,_⟩:=m4 (l:=qu) g3 cc
    obtain ⟨s,hs,hn⟩:=g1.at he
    simp only [he,oB,P7,V3,M9]
    rw [if_neg (by simp)]
    rcases breadth_in ht g1 (c:=c) (w6 hs) hn with ⟨l',m',qu',k1,k2,⟨ex,rfl⟩,k4⟩ | ⟨⟨y1,y2⟩,k1,k2⟩
    ·left
     rw [k1]
     refine ⟨(qu',m',c+1),by simp only [oB]; rw [v7 (by omega) (by omega)],⟨l++ex,k2,List.mem_append_left _ g2,by simp only; omega,by simp only [List.length_append]; omega,fun k x hk hx=> ?_⟩,by simp only; omega⟩
     simp only at hk
     have hx0:=p9 hx
     have hx2:ix l k=some x:=by
      rw [show k=((k.toNat:Nat):Int) by omega,P0] at hx ⊢
      rwa [List.getElem?_append_left (by omega)] at hx
     by_cases ek:k=c
     ·subst ek
      rw [hs] at hx2; cases hx2
      exact k4
     ·exact fun op o0 o1 oc=>List.mem_append_left _ (g5 k x (by omega) hx2 op o0 o1 oc)
    ·right
     rw [k1]
     exact ⟨_,rfl,.inr ⟨rfl,k2⟩⟩
   ·rw [if_neg cc]
    right
    refine ⟨_,rfl,.inl ⟨rfl,l,g1.nd,hlen,fun s=>⟨g1.rt s,fun hs=>hs.mem g2 fun x hx=> ?_⟩⟩⟩
    obtain ⟨k,k0,k1,k2⟩:=D3 hx
    exact g5 k x (by omega) k2)
 rw [h1]
 rcases h2 with ⟨rfl,h2⟩ | ⟨rfl,h2⟩
 ·exact ⟨true,rfl,by simp,fun _=>h2⟩
 ·exact ⟨false,rfl,fun _=>h2,by simp⟩
end Ab
end
section
namespace Ab
open Go
def tri(n:Nd):Tr:=(n.fs,n.seen.toNat,n.cost)
def HS(H:List Nd)(y:Tr):Prop:=∃ n ∈ H,tri n=y
def nkey(s:List Int)(k:Int):ByteArray:=keyK [s,[k]]
theorem small1{k:Int}(h0:0≤k)(h1:k≤60):U7 [k]:=fun x hx=>by simp at hx; omega
theorem nkey_eq{t:f9}(ht:m6 t){s:List Int}(hs:SetN s t.facts){k:Int}(h0:0≤k)(h1:k≤60):H1 [s,[k]]=some (nkey s k):=
 key2_eq (W2 ht hs) (small1 h0 h1) (by have:=hs.len; have:=ht.n1; omega) (by simp)
theorem nkey_inj{t:f9}(ht:m6 t){s s':List Int}{k k':Int}(hs:SetN s t.facts)(hs':SetN s' t.facts)(h0:0≤k)(h1:k≤60)(h0':0≤k')(h1':k'≤60)(e:nkey s k=nkey s' k'):s=s'∧k=k':=by
 have:=keyK_inj (l:=[s,[k]]) (l':=[s',[k']]) (fun a ha=>by
  simp at ha; rcases ha with rfl | rfl
  ·exact W2 ht hs
  ·exact small1 h0 h1) (fun a ha=>by
  simp at ha; rcases ha with rfl | rfl
  ·exact W2 ht hs'
  ·exact small1 h0' h1') e
 simpa using this
theorem repeat1_eq(c:Int){n:Nat}(h1:1≤n)(hn:n≤100000):D8 [c] (n:Int)=some (List.replicate n c):=by
 unfold D8
 dsimp only
 rw [if_pos (show (1:Int)≤n∧(n:Int)≤4294967295 by omega)]
 simp
section
variable {t:f9} {ob:List Int} {goals:List (List Int)} {S:List (List Int)}
structure Rq(t:f9)(goals:List (List Int))(ob:List Int)(S:List (List Int)):Prop where
 ht:m6 t
 g0:1≤goals.length
 g1:goals.length≤4
 gs:∀ g ∈ goals,SetN g t.facts
 o8:ob.length≤8
 sn:S.length≤2000
 sm:∀ s,Rt t s→s ∈ S
def allK(S:List (List Int)):List ByteArray:=S.flatMap fun s=>(List.range 9).map fun k:Nat=>nkey s (k:Int)
theorem allK_len:(allK S).length≤S.length * 9:=by
 unfold allK
 rw [flat_lenP _ 9 (fun a=>by simp)]
 exact Nat.le_refl _
theorem allK_mem{s:List Int}(hs:s ∈ S){k:Int}(h0:0≤k)(h1:k≤8):nkey s k ∈ allK S:=
 List.mem_flatMap.2 ⟨s,hs,List.mem_map.2 ⟨k.toNat,List.mem_range.2 (by omega),by rw [Int.toNat_of_nonneg h0]⟩⟩
abbrev Mb:=List (ByteArray × Int)
structure Mk'(t:f9)(S:List (List Int))(m:Mb)(D:Tr→Prop):Prop where
 nd:(m.map (·.1)).Nodup
 sub:∀ k ∈ m.map (·.1),k ∈ allK S
 iff:∀ s k,SetN s t.facts→0≤k→k≤8→(0<Option.getD (mget m (nkey s k)) 0↔∃ d,D (s,k.toNat,d))
theorem Mk'.len{m:Mb}{D:Tr→Prop}(h:Mk' t S m D):m.length≤S.length * 9:=by
 have:=W6 h.nd h.sub
 have:=allK_len (S:=S)
 simp at *; omega
structure Wf(ob:List Int)(C:Int)(n:Nd):Prop where
 s0:0≤n.seen
 s1:n.seen≤ob.length
 c1:n.cost≤C
structure Rv'(t:f9)(goals:List (List Int))(ob:List Int)(S:List (List Int))(o:List Int)(H:List Nd)(m:Mb)(cnt:Int)(D:Tr→Prop):Prop where
 hp:HpN H
 wf:∀ n ∈ H,Wf ob (100 * m.length) n
 dj:∃ B,Dj t ob (HS H) D B
 mp:Mk' t S m D
 ol:o.length=goals.length
 og:∀ (i:Int) g k,ix goals i=some g→ix o i=some k→Got ob g D k
 hl:H.length≤1+80 * m.length
 cn:0≤cnt∧cnt≤1+80 * m.length
theorem rg_goals(hq:Rq t goals ob S){x:Nd}{o:List Int}{D:Tr→Prop}{B:Int}(hs:SetN x.fs t.facts)(h0:0≤x.seen)(hc:x.cost<1000000000)(hD:∀ y,D y→y.2.2≤B)(hB:B≤x.cost)(ol:o.length=goals.length)(og:∀ (i:Int) g k,ix goals i=some g→ix o i=some k→Got ob g D k)(H:List Nd):
  ∃ o',forR 0 (goals.length:Int) (I1 goals ob (H,x)) o=some o'∧o'.length=goals.length∧∀ (i:Int) g k,ix goals i=some g→ix o' i=some k→Got ob g (fun y=>y=tri x∨D y) k:=by
 have skip:∀ g k,Got ob g D k→(¬ (x.seen=ob.length∧∀ y ∈ g,y ∈ x.fs)∨k ≠ 1000000000)→Got ob g (fun y=>y=tri x∨D y) k:=fun g k hg h=>by
  have hsn:x.seen.toNat=ob.length↔x.seen=ob.length:=by omega
  rcases hg with ⟨rfl,hn⟩ | ⟨hk,w,w1,w2,w3,w4,w5⟩
  ·refine .inl ⟨rfl,fun y hy h2 h3=> ?_⟩
   rcases hy with rfl | hy
   ·exact (h.resolve_right (by simp)) ⟨hsn.1 h2,h3⟩
   ·exact hn y hy h2 h3
  ·refine .inr ⟨hk,w,.inr w1,w2,w3,w4,fun z hz h2 h3=> ?_⟩
   rcases hz with rfl | hz
   ·have:=hD w w1
    simp only [tri]; omega
   ·exact w5 z hz h2 h3
 obtain ⟨o',h1,h2,h3⟩:=F4 (body:=I1 goals ob (H,x)) (n:=(goals.length:Int)) (s:=o)
  (fun j c=>c.length=goals.length∧∀ (i:Int) g k,ix goals i=some g→ix c i=some k→(i<j→Got ob g (fun y=>y=tri x∨D y) k)∧(j≤i→Got ob g D k)) (by omega)
  ⟨ol,fun i g k hg hk=>⟨fun h=>by have:=(p9 hg).1; omega,fun _=>og i g k hg hk⟩⟩ (fun j c j0 j1 hP=>by
   obtain ⟨p1,p2⟩:=hP
   obtain ⟨g,hg,_⟩:=m4 j0 j1
   obtain ⟨k,hk,_⟩:=m4 (l:=c) j0 (by omega)
   have hgot:=(p2 j g k hg hk).2 (Int.le_refl j)
   have hgs:=hq.gs g (w6 hg)
   have n1:=hq.ht.n1
   unfold I1
   simp only [hg,hk,oB,ao2 hs.1 hgs.1 (by have:=hs.len; omega)]
   -- the loop goes on
   have keep:Got ob g (fun y=>y=tri x∨D y) k→∃ s',some c=some s'∧s'.length=goals.length∧∀ (i:Int) g k,ix goals i=some g→ix s' i=some k→(i<j+1→Got ob g (fun y=>y=tri x∨D y) k)∧(j+1≤i→Got ob g D k):=fun hnew=>⟨c,rfl,p1,fun i g' k' hg' hk'=>⟨fun hi=>by
    by_cases e:i=j
    ·subst e; rw [hg] at hg'; rw [hk] at hk'; cases hg'; cases hk'; exact hnew
    ·exact (p2 i g' k' hg' hk').1 (by omega),fun hi=>(p2 i g' k' hg' hk').2 (by omega)⟩⟩
   by_cases c1:x.seen=ob.length
   ·simp only [if_pos c1]
    by_cases c2:k=1000000000
    ·simp only [if_pos c2,oB]
     by_cases c3:∀ y ∈ g,y ∈ x.fs
     ·simp only [m9 c3,if_true]
      refine ⟨_,rfl,by simp [p1],fun i g' k' hg' hk'=> ?_⟩
      rw [ae8 j0 (by omega) (p9 hg').1] at hk'
      by_cases e:i=j
      ·subst e
       rw [hg] at hg'; cases hg'
       rw [if_pos rfl] at hk'; cases hk'
       refine ⟨fun _=>.inr ⟨hc,tri x,.inl rfl,by simp only [tri]; omega,c3,rfl,fun z hz h2 h3=> ?_⟩,fun h=>by omega⟩
       rcases hz with rfl | hz
       ·exact Int.le_refl _
       ·rcases hgot with ⟨_,hn⟩ | ⟨hk2,_⟩
        ·exact absurd h3 (hn z hz h2)
        ·omega
      ·rw [if_neg e] at hk'
       exact ⟨fun hi=>(p2 i g' k' hg' hk').1 (by omega),fun hi=>(p2 i g' k' hg' hk').2 (by omega)⟩
     ·simp only [w9 c3,Bool.false_eq_true,if_false]
      exact keep (skip g k hgot (.inl fun h=>c3 h.2))
    ·simp only [if_neg c2,oB,Bool.false_eq_true,if_false]
     exact keep (skip g k hgot (.inr c2))
   ·simp only [if_neg c1,oB,Bool.false_eq_true,if_false]
    exact keep (skip g k hgot (.inl fun h=>c1 h.1)))
 exact ⟨o',h1,h2,fun i g k hg hk=>(h3 i g k hg hk).1 (p9 hg).2.1⟩
def NxO(t:f9)(ob:List Int)(x y:Tr)(op:Int):Prop:=can t x.1 op∧y.1=aft t x.1 op∧y.2.2=x.2.2+(opAt t op).cost∧(y.2.1=x.2.1∨ob[x.2.1]? =some op∧y.2.1=x.2.1+1)
theorem rg_next(hq:Rq t goals ob S){x:Nd}{H:List Nd}{cnt:Int}{C:Int}(hs:SetN x.fs t.facts)(h0:0≤x.seen)(h1:x.seen≤ob.length)(hx:x.cost≤C)(hx0:0≤x.cost)(hC:C≤10000000)(hp:HpN H)(hw:∀ n ∈ H,Wf ob (C+100) n)(hH:H.length≤5000000)(hc:0≤cnt∧cnt≤5000000):
  ∃ cnt' H',O9 t ob cnt (H,x)=some (cnt',H')∧HpN H'∧(∀ n ∈ H',Wf ob (C+100) n)∧H'.length≤H.length+80∧(0≤cnt'∧cnt'≤cnt+80)∧(∀ y,HS H y→HS H' y)∧(∀ y,HS H' y→HS H y∨Nx t ob (tri x) y)∧∀ y,Nx t ob (tri x) y→HS H' y:=by
 have hops:=hq.ht.ops
 have ho8:=hq.o8
 unfold O9
 obtain ⟨⟨cnt',H'⟩,r1,r2,r3,r4,r5,r6,r7,r8⟩:=F4 (body:=O7 t ob (H,x)) (n:=(t.operators.length:Int)) (s:=(cnt,H))
  (fun j c=>HpN c.2∧(∀ n ∈ c.2,Wf ob (C+100) n)∧(c.2.length:Int)≤H.length+2 * j∧(0≤c.1∧c.1≤cnt+j)∧(∀ y,HS H y→HS c.2 y)∧(∀ y,HS c.2 y→HS H y∨∃ op,0≤op∧op<j∧NxO t ob (tri x) y op)∧∀ y op,0≤op→op<j→NxO t ob (tri x) y op→HS c.2 y) (by omega)
  ⟨hp,hw,by simp,by simp; omega,fun y h=>h,fun y h=>.inl h,fun y op a b=>by omega⟩ (fun j c j0 j1 hP=>by
   obtain ⟨cn,K⟩:=c
   obtain ⟨p1,p2,p3,p4,p5,p6,p7⟩:=hP
   simp only at p1 p2 p3 p4 p5 p6 p7
   have hco:=(U6 hq.ht j0 j1).2
   have hw1:w64 (cn+1)=cn+1:=v7 (by omega) (by omega)
   have hw2:w64 (x.cost+(opAt t j).cost)=x.cost+(opAt t j).cost:=v7 (by have:=hco.1; omega) (by have:=hco.2; omega)
   have hw3:w64 (x.seen+1)=x.seen+1:=v7 (by omega) (by omega)
   unfold O7
   simp only [can_eq hq.ht j0 j1 hs,oB]
   by_cases hcan:can t x.fs j
   ·rw [if_pos (m9 hcan)]
    simp only [next_eq hq.ht j0 j1 hs,ix_op j0 j1,oB,hw1,hw2,hw3]
    obtain ⟨K1,a1,a2,a3⟩:=npush_ok p1 (⟨aft t x.fs j,x.seen,x.cost+(opAt t j).cost,cn⟩:Nd) (by omega)
    rw [a1]
    simp only [oB]
    have m1:∀ n,n ∈ K1↔n=(⟨aft t x.fs j,x.seen,x.cost+(opAt t j).cost,cn⟩:Nd)∨n ∈ K:=fun n=>by rw [a3.mem_iff,List.mem_cons]
    have l1:=a3.length_eq
    have w1:∀ n ∈ K1,Wf ob (C+100) n:=fun n hn=>by
     rcases (m1 n).1 hn with rfl | hn
     ·exact ⟨h0,h1,by have:=hco.2; simp only; omega⟩
     ·exact p2 n hn
    have tr1:tri (⟨aft t x.fs j,x.seen,x.cost+(opAt t j).cost,cn⟩:Nd)=(aft t x.fs j,x.seen.toNat,x.cost+(opAt t j).cost):=rfl
    have in1:HS K1 (aft t x.fs j,x.seen.toNat,x.cost+(opAt t j).cost):=⟨_,(m1 _).2 (.inl rfl),tr1⟩
    have up1:∀ y,HS K y→HS K1 y:=fun y ⟨n,n1,n2⟩=>⟨n,(m1 n).2 (.inr n1),n2⟩
    simp only [List.length_cons] at l1
    by_cases c2:x.seen<ob.length∧ob[x.seen.toNat]? =some j
    ·have hio:ix ob x.seen=some j:=by rw [ix,if_pos h0]; exact c2.2
     simp only [if_pos c2.1,hio,oB,decide_true,if_true]
     obtain ⟨K2,b1,b2,b3⟩:=npush_ok a2 (⟨aft t x.fs j,x.seen+1,x.cost+(opAt t j).cost,cn⟩:Nd) (by omega)
     rw [b1]
     simp only [oB]
     have m2:∀ n,n ∈ K2↔n=(⟨aft t x.fs j,x.seen+1,x.cost+(opAt t j).cost,cn⟩:Nd)∨n ∈ K1:=fun n=>by rw [b3.mem_iff,List.mem_cons]
     have l2:=b3.length_eq
     simp only [List.length_cons] at l2
     have tr2:tri (⟨aft t x.fs j,x.seen+1,x.cost+(opAt t j).cost,cn⟩:Nd)=(aft t x.fs j,x.seen.toNat+1,x.cost+(opAt t j).cost):=by
      have:(x.seen+1).toNat=x.seen.toNat+1:=by omega
      simp only [tri,this]
     have up2:∀ y,HS K1 y→HS K2 y:=fun y ⟨n,n1,n2⟩=>⟨n,(m2 n).2 (.inr n1),n2⟩
     refine ⟨_,rfl,b2,fun n hn=> ?_,by simp only; omega,by simp only; omega,fun y hy=>up2 y (up1 y (p5 y hy)),fun y hy=> ?_,fun y op o0 o1 hy=> ?_⟩
     ·rcases (m2 n).1 hn with rfl | hn
      ·exact ⟨by simp only; omega,by simp only; omega,by have:=hco.2; simp only; omega⟩
      ·exact w1 n hn
     ·obtain ⟨n,hn,rfl⟩:=hy
      rcases (m2 n).1 hn with rfl | hn
      ·rw [tr2]; exact .inr ⟨j,j0,by omega,hcan,rfl,rfl,.inr ⟨c2.2,rfl⟩⟩
      ·rcases (m1 n).1 hn with rfl | hn
       ·rw [tr1]; exact .inr ⟨j,j0,by omega,hcan,rfl,rfl,.inl rfl⟩
       ·rcases p6 _ ⟨n,hn,rfl⟩ with q | ⟨op,q0,q1,q2⟩
        ·exact .inl q
        ·exact .inr ⟨op,q0,by omega,q2⟩
     ·by_cases e:op=j
      ·subst e
       obtain ⟨y1,y2,y3⟩:=y
       obtain ⟨_,e1,e2,e3⟩:=hy
       simp only [tri] at e1 e2 e3
       rcases e3 with e3 | ⟨_,e3⟩
       ·subst e1 e2 e3; exact up2 _ in1
       ·subst e1 e2 e3
        exact ⟨_,(m2 _).2 (.inl rfl),tr2⟩
      ·exact up2 y (up1 y (p7 y op o0 (by omega) hy))
    ·have ef:(if x.seen<(ob.length:Int) then Option.bind (ix ob x.seen) fun ab117=>some (decide (ab117=j)) else some false)=some false:=by
      by_cases c3:x.seen<(ob.length:Int)
      ·rw [if_pos c3]
       obtain ⟨a,ha,ga⟩:=m4 (l:=ob) h0 c3
       rw [ha]
       simp only [oB]
       rw [decide_eq_false fun q=>c2 ⟨c3,by rw [ga,q]⟩]
      ·rw [if_neg c3]
     rw [ef]
     simp only [oB,Bool.false_eq_true,if_false]
     refine ⟨_,rfl,a2,w1,by simp only; omega,by simp only; omega,fun y hy=>up1 y (p5 y hy),fun y hy=> ?_,fun y op o0 o1 hy=> ?_⟩
     ·obtain ⟨n,hn,rfl⟩:=hy
      rcases (m1 n).1 hn with rfl | hn
      ·rw [tr1]; exact .inr ⟨j,j0,by omega,hcan,rfl,rfl,.inl rfl⟩
      ·rcases p6 _ ⟨n,hn,rfl⟩ with q | ⟨op,q0,q1,q2⟩
       ·exact .inl q
       ·exact .inr ⟨op,q0,by omega,q2⟩
     ·by_cases e:op=j
      ·subst e
       obtain ⟨y1,y2,y3⟩:=y
       obtain ⟨_,e1,e2,e3⟩:=hy
       simp only [tri] at e1 e2 e3
       rcases e3 with e3 | ⟨e4,e3⟩
       ·subst e1 e2 e3; exact in1
       ·have hlt:=(List.getElem?_eq_some_iff.1 e4).1
        exact absurd ⟨by omega,e4⟩ c2
      ·exact up1 y (p7 y op o0 (by omega) hy)
   ·rw [if_neg (by rw [w9 hcan]; simp)]
    refine ⟨_,rfl,p1,p2,by simp only; omega,by simp only; omega,p5,fun y hy=> ?_,fun y op o0 o1 hy=> ?_⟩
    ·rcases p6 y hy with q | ⟨op,q0,q1,q2⟩
     ·exact .inl q
     ·exact .inr ⟨op,q0,by omega,q2⟩
    ·by_cases e:op=j
     ·subst e; exact absurd hy.1 hcan
     ·exact p7 y op o0 (by omega) hy)
 refine ⟨cnt',H',by rw [r1]; rfl,r2,r3,by simp only at r4; omega,by simp only at r5; omega,r6,fun y hy=> ?_,fun y ⟨op,o0,o1,hy⟩=>r8 y op o0 o1 hy⟩
 rcases r7 y hy with q | ⟨op,q0,q1,q2⟩
 ·exact .inl q
 ·exact .inr ⟨op,q0,q1,q2⟩
end
end Ab
end
section
namespace Ab
open Go
section
variable {t:f9} {ob:List Int} {goals:List (List Int)} {S:List (List Int)}
theorem rngN_congr{A O:Type}{b1 b2:Int→A→Option (A ⊕ O)}:∀ (k:Nat) (i:Int) (s:A),(∀ j s,i≤j→j<i+k→b1 j s=b2 j s)→rngN b1 k i s=rngN b2 k i s
 | 0,_,_,_=>rfl
 | k+1,i,s,h=>by
  simp only [rngN]
  rw [h i s (Int.le_refl i) (by omega)]
  cases b2 i s with
  | none=>rfl
  | some x=>
   cases x with
   | inl x=>exact rngN_congr k (i+1) x fun j s h1 h2=>h j s (by omega) (by omega)
   | inr x=>rfl
theorem rngX_congr{A O:Type}{b1 b2:Int→A→Option (A ⊕ O)}{n:Int}{s:A}(hn:0≤n)(h:∀ j s,0≤j→j<n→b1 j s=b2 j s):rngX 0 n b1 s=rngX 0 n b2 s:=
 rngN_congr _ 0 s fun j s h1 h2=>h j s h1 (by omega)
theorem Mk'.add(hq:Rq t goals ob S){m:Mb}{D:Tr→Prop}(h:Mk' t S m D){x:Nd}(hr:Rt t x.fs)(h0:0≤x.seen)(h1:x.seen≤ob.length)(hn:¬ 0<Option.getD (mget m (nkey x.fs x.seen)) 0)(hpos:∀ k v,mget m k=some v→0<v):
  Mk' t S (mset m (nkey x.fs x.seen) 1) (fun y=>y=tri x∨D y)∧(mset m (nkey x.fs x.seen) 1).length=m.length+1:=by
 have h8:=hq.o8
 have hs:=hr.setN hq.ht
 have hnone:mget m (nkey x.fs x.seen)=none:=by
  cases e:mget m (nkey x.fs x.seen) with
  | none=>rfl
  | some v=>rw [e] at hn; exact absurd (hpos _ _ e) hn
 have hnew:=S7 (v:=(1:Int)) hnone
 refine ⟨⟨?_,fun k hk=> ?_,fun s k hs' k0 k1=> ?_⟩,by rw [hnew]; simp⟩
 ·rw [hnew,List.map_append]
  exact List.nodup_append.2 ⟨h.nd,by simp,fun a ha b hb e=>by
   simp at hb; subst hb; subst e; exact an5 hnone ha⟩
 ·rw [hnew,List.map_append] at hk
  rcases List.mem_append.1 hk with hk | hk
  ·exact h.sub k hk
  ·simp at hk; subst hk
   exact allK_mem (hq.sm _ hr) h0 (by omega)
 ·rw [B3]
  by_cases e:nkey s k=nkey x.fs x.seen
  ·obtain ⟨e1,e2⟩:=nkey_inj hq.ht hs' hs k0 (by omega) h0 (by omega) e
   subst e1 e2
   rw [if_pos e]
   exact ⟨fun _=>⟨x.cost,.inl rfl⟩,fun _=>by simp⟩
  ·rw [if_neg e,h.iff s k hs' k0 k1]
   refine ⟨fun ⟨d,hd⟩=>⟨d,.inr hd⟩,fun ⟨d,hd⟩=>⟨d,hd.resolve_left fun q=>e ?_⟩⟩
   simp only [tri,Prod.mk.injEq] at q
   rw [q.1,show k=x.seen by omega]
theorem rg_loop(hq:Rq t goals ob S):∃ o,I5 t goals ob=some o∧o.length=goals.length∧∀ (i:Int) g k,ix goals i=some g→ix o i=some k→EC t g ob k:=by
 have hS:=hq.sn
 have h8:=hq.o8
 unfold I5
 rw [repeat1_eq _ hq.g0 (by have:=hq.g1; omega)]
 simp only [oB]
 have init:Rv' t goals ob S (List.replicate goals.length 1000000000) [(⟨t.init,0,0,0⟩:Nd)] ([]:Mb) 1 (fun _=>False):=by
  refine ⟨?_,fun n hn=> ?_,⟨0, ?_⟩,⟨by simp,by simp,fun s k _ _ _=>by simp [mget]⟩,by simp,fun i g k hg hk=> ?_,by simp,by simp⟩
  ·intro k k0 k1; simp at k1; omega
  ·simp at hn; subst hn
   exact ⟨by simp,by simp,by simp⟩
  ·have e:HS [(⟨t.init,0,0,0⟩:Nd)]=fun y=>y=(t.init,0,0):=by
    funext y
    exact propext ⟨fun ⟨n,n1,n2⟩=>by simp at n1; subst n1; exact n2.symm,fun h=>⟨⟨t.init,0,0,0⟩,by simp,by rw [h]; rfl⟩⟩
   rw [e]; exact Dj.start
  ·have:k=1000000000:=List.eq_of_mem_replicate (w6 hk)
   exact .inl ⟨this,fun x hx=>hx.elim⟩
 obtain ⟨o,o1,o2,o3⟩:=P9 (body:=P6 t goals ob) (s:=(List.replicate goals.length 1000000000,[(⟨t.init,0,0,0⟩:Nd)],([]:Mb),1))
  (fun s=>(∃ D,Rv' t goals ob S s.1 s.2.1 s.2.2.1 s.2.2.2 D)∧∀ k v,mget s.2.2.1 k=some v→0<v)
  (fun o=>o.length=goals.length∧∀ (i:Int) g k,ix goals i=some g→ix o i=some k→EC t g ob k)
  (fun s=>(18000 - s.2.2.1.length) * 100+s.2.1.length)
  ⟨⟨_,init⟩,fun k v h=>by simp [mget] at h⟩ (by
   rintro ⟨o,H,m,cnt⟩ ⟨⟨D,p⟩,hpos⟩
   simp only at p hpos
   obtain ⟨B,dj⟩:=p.dj
   have hml:=p.mp.len
   have hhl:=p.hl
   unfold P6 H5
   simp only [oB]
   by_cases c0:0<H.length
   ·rw [if_pos (by omega)]
    obtain ⟨H',x,a1,a2,a3,a4⟩:=npop_ok p.hp c0 (by omega)
    have hxH:x ∈ H:=a3.mem_iff.2 (by simp)
    have hl':=a3.length_eq
    simp only [List.length_cons] at hl'
    have hwx:=p.wf x hxH
    have hdx:=dj.hr (tri x) ⟨x,hxH,rfl⟩
    have hrx:Rt t x.fs:=hdx.1.rt
    have hsx:=hrx.setN hq.ht
    have hcx:0≤x.cost:=hdx.1.nonneg hq.ht
    have hmin:∀ y,HS H y→x.cost≤y.2.2:=fun y ⟨n,n1,n2⟩=>by subst n2; exact nle_cost (a4 n n1)
    have s0:=hwx.s0
    have s1:=hwx.s1
    have c1:=hwx.c1
    simp only [a1,oB,nkey_eq hq.ht hsx s0 (by omega)]
    by_cases c2:0<Option.getD (mget m (nkey x.fs x.seen)) 0
    ·rw [if_pos c2]
     obtain ⟨d,hd⟩:=(p.mp.iff x.fs x.seen hsx s0 (by omega)).1 c2
     have dj':=dj.again (H':=HS H') (x:=tri x) (fun y=>⟨fun ⟨n,n1,n2⟩=>by
      rcases List.mem_cons.1 (a3.mem_iff.1 n1) with rfl | n1
      ·exact .inl n2.symm
      ·exact .inr ⟨n,n1,n2⟩,fun h=>by
      rcases h with rfl | ⟨n,n1,n2⟩
      ·exact ⟨x,hxH,rfl⟩
      ·exact ⟨n,a3.mem_iff.2 (List.mem_cons_of_mem _ n1),n2⟩⟩) hmin hd
     refine .inl ⟨_,rfl,⟨⟨D,a2,fun n hn=>p.wf n (a3.mem_iff.2 (List.mem_cons_of_mem _ hn)),⟨_,dj'⟩,p.mp,p.ol,p.og,by simp only; omega,p.cn⟩,hpos⟩,by simp only; omega⟩
    ·rw [if_neg c2]
     have hnD:∀ d,¬ D (x.fs,x.seen.toNat,d):=fun d hd=>c2 ((p.mp.iff x.fs x.seen hsx s0 (by omega)).2 ⟨d,hd⟩)
     obtain ⟨o',b1,b2,b3⟩:=rg_goals hq (x:=x) (D:=D) (B:=B) hsx s0 (by omega) (fun y hy=>(dj.dr y hy).2) hdx.2 p.ol p.og H'
     obtain ⟨m1,m2⟩:=p.mp.add hq hrx s0 s1 c2 hpos
     have hml2:=m1.len
     obtain ⟨cnt',H2,d1,d2,d3,d4,d5,d6,d7,d8⟩:=rg_next hq (x:=x) (H:=H') (cnt:=cnt) (C:=100 * m.length) hsx s0 s1 c1 hcx (by omega) a2 (fun n hn=>by
      have:=p.wf n (a3.mem_iff.2 (List.mem_cons_of_mem _ hn))
      exact ⟨this.s0,this.s1,by have:=this.c1; omega⟩) (by omega) ⟨p.cn.1,by have:=p.cn.2; omega⟩
     simp only [b1,oB,N1,d1]
     have dj':=dj.next hq.ht (H':=HS H2) (x:=tri x) (fun y hy=>by
      obtain ⟨n,n1,n2⟩:=hy
      rcases List.mem_cons.1 (a3.mem_iff.1 n1) with rfl | n1
      ·exact .inl n2.symm
      ·exact .inr (d6 _ ⟨n,n1,n2⟩)) (fun y hy=>(d7 y hy).imp_left fun ⟨n,n1,n2⟩=>⟨n,a3.mem_iff.2 (List.mem_cons_of_mem _ n1),n2⟩) d8 ⟨x,hxH,rfl⟩ hmin hnD
     have hcn:=p.cn
     refine .inl ⟨_,rfl,⟨⟨fun y=>y=tri x∨D y,d2,fun n hn=> ?_,⟨_,dj'⟩,m1,b2,b3,by simp only [m2]; omega, ?_⟩,fun k v hk=> ?_⟩,by simp only [m2]; omega⟩
     ·have:=d3 n hn
      exact ⟨this.s0,this.s1,by have:=this.c1; simp only [m2]; push_cast; omega⟩
     ·simp only [m2]; push_cast; omega
     ·simp only [B3] at hk
      split at hk
      ·cases hk; omega
      ·exact hpos k v hk
   ·rw [if_neg (by omega)]
    have hH:H=[]:=List.eq_nil_of_length_eq_zero (by omega)
    subst hH
    exact .inr ⟨o,rfl,p.ol,fun i g k hg hk=>(p.og i g k hg hk).ec hq.ht dj fun y ⟨n,hn,_⟩=>by simp at hn⟩)
 exact ⟨o,by rw [o1]; rfl,o2,o3⟩
/-! ### The checks -/
structure ObsOk(t:f9)(goals:List (List Int))(ob:List Int):Prop where
 g0:1≤goals.length
 g1:goals.length≤4
 gs:∀ g ∈ goals,SetN g t.facts
 o8:ob.length≤8
 ov:∀ x ∈ ob,(0:Int)≤x∧x<t.operators.length
theorem rcheck_eq(t:f9)(goals:List (List Int))(ob:List Int):∃ f e,O2 t goals ob=some f∧V6 t goals ob=some e∧
  ((m6 t∧ObsOk t goals ob∧e=⟨0,0⟩∧((f=⟨0,0⟩∧∃ S:List (List Int),S.Nodup∧S.length≤2000∧∀ s,s ∈ S↔Rt t s)∨(f=⟨10, -7⟩∧Many t)))∨(¬ (m6 t∧ObsOk t goals ob)∧e=f∧f.code ≠ 0∧(¬ m6 t→y5 t=some f))):=by
 obtain ⟨f,h1,h2,h3⟩:=validate_eq t
 unfold O2 V6
 rw [h1,h2]
 simp only [oB,in_eq,at_eq,L4]
 rcases h3 with ⟨rfl,ht⟩ | ⟨hc,hn⟩
 ·rw [if_neg (by simp),if_pos rfl]
  by_cases c1:1≤goals.length∧goals.length≤4
  ·rw [if_neg (by simp only [Bool.or_eq_true,decide_eq_true_eq]; omega),ifNN (by omega)]
   have n0:=ht.n0
   have n1:=ht.n1
   have g:Int→Option TFault:=fun j=>match ix goals j with | some g=>if dec (SetN g t.facts)=true then none else some (⟨5, -10 - j⟩:TFault) | none=>none
   have t1:=L3 (body:=E0 t goals) (n:=(goals.length:Int)) (fun j=>match ix goals j with | some g=>if dec (SetN g t.facts)=true then none else some (⟨5, -10 - j⟩:TFault) | none=>none) (by omega) (fun j j0 j1 _=>by
    obtain ⟨g,hg,_⟩:=m4 j0 j1
    have hw:w64 ((-10) - j)= -10 - j:=v7 (by omega) (by omega)
    unfold E0
    simp only [hg,oB,ap8,L4,hw]
    by_cases q:SetN g t.facts
    ·rw [ifP q,ifNN q]
    ·rw [ifN q,ifP q])
   have t2:rngX 0 (goals.length:Int) (R2 t goals) ()=rngX 0 (goals.length:Int) (E0 t goals) ():=by
    refine rngX_congr (by omega) fun j s j0 j1=> ?_
    obtain ⟨g,hg,_⟩:=m4 j0 j1
    unfold R2 E0
    simp only [hg,oB,ap8,rIsSet_eq g (show -9223372036854775808<t.facts by omega) (by omega),at_eq]
   rw [t2]
   rcases t1 with ⟨r1,r2⟩ | ⟨j,f,j0,j1,r2,_,r1⟩
   ·rw [r1]
    simp only [oB]
    have hgs:∀ g ∈ goals,SetN g t.facts:=fun g hg=>by
     obtain ⟨i,i0,i1,hi⟩:=D3 hg
     have:=r2 i i0 i1
     rw [hi] at this
     by_cases q:SetN g t.facts
     ·exact q
     ·simp [q] at this
    by_cases c2:ob.length≤8
    ·rw [if_neg (by omega),if_neg (by omega)]
     have hops:=ht.ops
     obtain ⟨e,e1,e2⟩:=rSteps_eq (n:=t.operators.length) (by omega) (by omega) ob
     rw [e1]
     simp only [oB]
     rcases L3 (body:=N8 t ob) (n:=(ob.length:Int)) (fun j=>match ix ob j with | some a=>if dec (0≤a∧a<t.operators.length)=true then none else some (⟨3, -6⟩:TFault) | none=>none) (by omega) (fun j j0 j1 _=>by
      obtain ⟨a,ha,_⟩:=m4 j0 j1
      unfold N8
      simp only [ha,oB]
      by_cases q:0≤a∧a<t.operators.length
      ·rw [ifP q,if_neg (by simp; omega)]
      ·rw [ifN q,if_pos (by simp; omega)]) with ⟨q1,q2⟩ | ⟨j,f,j0,j1,q2,_,q1⟩
     ·rw [q1]
      simp only [oB,aa4]
      have hov:∀ x ∈ ob,(0:Int)≤x∧x<t.operators.length:=fun x hx=>by
       obtain ⟨i,i0,i1,hi⟩:=D3 hx
       have:=q2 i i0 i1
       rw [hi] at this
       by_cases q:0≤x∧x<t.operators.length
       ·exact q
       ·simp [q] at this
      have he:e.code=0:=by
       rcases e2 with ⟨rfl,_⟩ | ⟨_,e2⟩
       ·rfl
       ·exact absurd ⟨by omega,hov⟩ e2
      rw [if_pos he]
      obtain ⟨b,b1,b2,b3⟩:=breadth_spec ht
      rw [b1]
      simp only [oB]
      cases b with
      | false=>exact ⟨_,_,rfl,rfl,.inl ⟨ht,⟨c1.1,c1.2,hgs,c2,hov⟩,rfl,.inr ⟨rfl,b2 rfl⟩⟩⟩
      | true=>exact ⟨_,_,rfl,rfl,.inl ⟨ht,⟨c1.1,c1.2,hgs,c2,hov⟩,rfl,.inl ⟨rfl,b3 rfl⟩⟩⟩
     ·rw [q1]
      obtain ⟨a,ha,_⟩:=m4 j0 j1
      rw [ha] at q2
      by_cases q:0≤a∧a<t.operators.length
      ·simp [q] at q2
      ·simp [q] at q2; subst q2
       have he:e.code ≠ 0:=by
        rcases e2 with ⟨_,_,e2⟩ | ⟨e2,_⟩
        ·exact absurd (e2 a (w6 ha)) q
        ·exact e2
       rw [if_neg he]
       exact ⟨_,_,rfl,rfl,.inr ⟨fun h=>q (h.2.ov a (w6 ha)),rfl,by simp,fun h=>absurd ht h⟩⟩
    ·rw [if_pos (by omega),if_pos (by omega)]
     exact ⟨_,_,rfl,rfl,.inr ⟨fun h=>c2 h.2.o8,rfl,by simp,fun h=>absurd ht h⟩⟩
   ·rw [r1]
    obtain ⟨a,ha,_⟩:=m4 j0 j1
    rw [ha] at r2
    by_cases q:SetN a t.facts
    ·simp [q] at r2
    ·simp [q] at r2; subst r2
     exact ⟨_,_,rfl,rfl,.inr ⟨fun h=>q (h.2.gs a (w6 ha)),rfl,by simp,fun h=>absurd ht h⟩⟩
  ·rw [if_pos (by simp only [Bool.or_eq_true,decide_eq_true_eq]; omega),ifP (by omega)]
   exact ⟨_,_,rfl,rfl,.inr ⟨fun h=>c1 ⟨h.2.g0,h.2.g1⟩,rfl,by simp,fun h=>absurd ht h⟩⟩
 ·rw [if_pos (by simp [hc]),if_neg hc]
  exact ⟨f,f,rfl,rfl,.inr ⟨fun h=>hn h.1,rfl,hc,fun _=>rfl⟩⟩
end
end Ab
end
section
namespace Ab
open Go
section
variable {t:f9} {op:Int}
end
/-! ### The fixed task -/
theorem mem_cost{t:f9}(ht:m6 t){op:Int}:∀ {p:List Int},Val t p→op ∈ p→(opAt t op).cost≤I8 t p
 | [],_,h=>by simp at h
 | q::p,hv,h=>by
  have h1:=at3 ht (plan:=p) fun x hx=>hv x (List.mem_cons_of_mem _ hx)
  have h2:=hv q (by simp)
  have h3:=(U6 ht h2.1 h2.2).2.1
  simp only [I8]
  rcases List.mem_cons.1 h with rfl | h
  ·omega
  ·have:=mem_cost ht (p:=p) (fun x hx=>hv x (List.mem_cons_of_mem _ hx)) h
   omega
theorem step_few(s:List Int)(h:Rt s5 s):s ∈ [[],[0],[1],[0,1]]:=by
 have hs:=h.setN step_ok
 have e:s=G5 (· ∈ s) 2:=hs.eq
 by_cases a:(0:Int) ∈ s
 ·by_cases b:(1:Int) ∈ s
  ·rw [(setN_nil 2 |>.1 |>fun _=>hs.1.ext (m:=[0,1]) (by simp) fun x=> ?_)]
   ·simp
   ·have:=hs.2 x
    constructor
    ·intro hx; have:=this hx; simp only [s5] at this; simp; omega
    ·intro hx; simp at hx; rcases hx with rfl | rfl<;>assumption
  ·rw [hs.1.ext (m:=[0]) (by simp) fun x=> ?_]
   ·simp
   ·have:=hs.2 x
    constructor
    ·intro hx
     have:=this hx; simp only [s5] at this
     have:x ≠ 1:=fun e=>b (e ▸ hx)
     simp; omega
    ·intro hx; simp at hx; rw [hx]; exact a
 ·by_cases b:(1:Int) ∈ s
  ·rw [hs.1.ext (m:=[1]) (by simp) fun x=> ?_]
   ·simp
   ·have:=hs.2 x
    constructor
    ·intro hx
     have:=this hx; simp only [s5] at this
     have:x ≠ 0:=fun e=>a (e ▸ hx)
     simp; omega
    ·intro hx; simp at hx; rw [hx]; exact b
  ·rw [hs.1.ext (m:=[]) (by simp) fun x=> ?_]
   ·simp
   ·have:=hs.2 x
    constructor
    ·intro hx
     have:=this hx; simp only [s5] at this
     have:x ≠ 0:=fun e=>a (e ▸ hx)
     have:x ≠ 1:=fun e=>b (e ▸ hx)
     omega
    ·intro hx; simp at hx
theorem step_many:¬ Many s5:=by
 rintro ⟨m,m1,m2,m3⟩
 have:=W6 m1 (S:=[[],[0],[1],[0,1]]) fun s hs=>step_few s (m3 s hs)
 simp at this; omega
theorem step_works{op:Int}(h:op=0∨op=1):Sol s5 s5.init [op]:=by
 refine ⟨fun x hx=> ?_,aft s5 s5.init op, ?_,fun x hx=> ?_⟩
 ·simp at hx; subst hx; simp only [s5,List.length_cons,List.length_nil]; omega
 ·simp only [ends]
  rw [if_pos (m9 (show can s5 s5.init op from fun x hx=>by
   rcases h with rfl | rfl
   ·simpa [opAt,s5] using hx
   ·simp [opAt,s5] at hx))]
 ·refine R8.2 ?_
  simp [s5] at hx; subst hx
  rcases h with rfl | rfl<;>simp [s5,opAt]
theorem step_ne{p:List Int}(h:Sol s5 s5.init p):∃ q,q ∈ p∧(q=0∨q=1):=by
 cases p with
 | nil=>
  obtain ⟨_,e,h1,h2⟩:=h
  simp only [ends,Option.some.injEq] at h1; subst h1
  have:=h2 1 (by simp [s5])
  simp [s5] at this
 | cons q p=>
  refine ⟨q,by simp, ?_⟩
  have:=h.1 q (by simp)
  simp only [s5,List.length_cons,List.length_nil] at this
  omega
theorem step_cost0:(opAt s5 0).cost=1:=rfl
theorem step_cost1:(opAt s5 1).cost=3:=rfl
theorem lc_of{t:f9}{P:List Int→Prop}{k:Int}{p:List Int}(h0:0≤k)(h1:k<1000000000)(hp:P p)(hk:I8 t p=k)(hl:∀ q,P q→k≤I8 t q):LC t P k:=⟨hl,h0,.inr ⟨h1,p,hp,hk⟩⟩
theorem step_lc:LC s5 (Sol s5 s5.init) 1:=lc_of (p:=[0]) (k:=1) (by decide) (by decide) (step_works (.inl rfl)) rfl fun q hq=>by
 obtain ⟨x,hx,e⟩:=step_ne hq
 have:=mem_cost step_ok hq.1 hx
 rcases e with rfl | rfl
 ·rw [step_cost0] at this; exact this
 ·rw [step_cost1] at this; omega
end Ab
end
section
namespace Ab
open Go
section
variable {t:f9} {ob:List Int} {goals:List (List Int)}
def Rg(t:f9)(goals:List (List Int))(ob:List Int)(l:List (Int × Int)):Prop:=l.length=goals.length∧∀ (i:Int) g p,ix goals i=some g→ix l i=some p→EC t g ob p.1∧EC t g [] p.2
theorem rcosts_spec(t:f9)(goals:List (List Int))(ob:List Int):∃ l f e,A7 t goals ob=some (l,f)∧V6 t goals ob=some e∧
  ((m6 t∧ObsOk t goals ob∧e=⟨0,0⟩∧f=⟨0,0⟩∧¬ Many t∧Rg t goals ob l)∨(m6 t∧ObsOk t goals ob∧e=⟨0,0⟩∧f=⟨10, -7⟩∧Many t∧l=[])∨(¬ (m6 t∧ObsOk t goals ob)∧e=f∧f.code ≠ 0∧(¬ m6 t→y5 t=some f)∧l=[])):=by
 obtain ⟨f,e,h1,h2,h3⟩:=rcheck_eq t goals ob
 unfold A7
 rw [h1,h2]
 simp only [oB]
 rcases h3 with ⟨ht,ho,rfl,⟨rfl,S,S1,S2,S3⟩ | ⟨rfl,hm⟩⟩ | ⟨hn,rfl,hc,hv⟩
 ·rw [if_neg (by simp)]
  have hq:∀ o:List Int,o.length≤8→Rq t goals o S:=fun o ho8=>⟨ht,ho.g0,ho.g1,ho.gs,ho8,S2,fun s hs=>(S3 s).2 hs⟩
  obtain ⟨a,a1,a2,a3⟩:=rg_loop (hq ob ho.o8)
  obtain ⟨b,b1,b2,b3⟩:=rg_loop (hq [] (by simp))
  rw [a1,b1]
  simp only [oB]
  have hg1:=ho.g1
  obtain ⟨l,l1,l2,l3⟩:=F4 (body:=O4 a b) (n:=(goals.length:Int)) (s:=[])
   (fun j c=>(c.length:Int)=j∧∀ (i:Int) p,ix c i=some p→ix a i=some p.1∧ix b i=some p.2) (by omega) ⟨by simp,fun i p h=>by simp [ix] at h⟩ (fun j c j0 j1 hP=>by
    obtain ⟨p1,p2⟩:=hP
    obtain ⟨x,hx,_⟩:=m4 (l:=a) j0 (by omega)
    obtain ⟨y,hy,_⟩:=m4 (l:=b) j0 (by omega)
    have ha:app 16 c [(x,y)]=some (c++[(x,y)]):=by unfold app; rw [if_pos (by simp; omega)]
    unfold O4
    simp only [hx,hy,ha,oB]
    refine ⟨_,rfl,by simp; omega,fun i p hp=> ?_⟩
    rw [af8] at hp
    by_cases q:i=(c.length:Int)
    ·rw [if_pos q] at hp; cases hp
     have:i=j:=by omega
     subst this
     exact ⟨hx,hy⟩
    ·rw [if_neg q] at hp; exact p2 i p hp)
  rw [l1]
  refine ⟨_,_,_,rfl,rfl,.inl ⟨ht,ho,rfl,rfl, ?_,by omega,fun i g p hg hp=>⟨a3 i g _ hg (l3 i p hp).1,b3 i g _ hg (l3 i p hp).2⟩⟩⟩
  rintro ⟨m,m1,m2,m3⟩
  have:=W6 m1 (S:=S) fun s hs=>(S3 s).2 (m3 s hs)
  omega
 ·rw [if_pos (by simp)]
  exact ⟨_,_,_,rfl,rfl,.inr (.inl ⟨ht,ho,rfl,rfl,hm,rfl⟩)⟩
 ·rw [if_pos (by simp [hc])]
  exact ⟨_,_,_,rfl,rfl,.inr (.inr ⟨hn,rfl,hc,hv,rfl⟩)⟩
theorem Rg.bd{l:List (Int × Int)}(h:Rg t goals ob l){i:Int}{p:Int × Int}(hp:ix l i=some p):0≤p.2∧p.2≤p.1∧p.1≤1000000000:=by
 obtain ⟨g,hg,_⟩:=m4 (l:=goals) (p9 hp).1 (by have:=(p9 hp).2.1; have:=h.1; omega)
 obtain ⟨e1,e2⟩:=h.2 i g p hg hp
 exact ⟨e2.2.1,e2.mono e1 fun c hc=>hc.nil,e1.le⟩
def Lst(l:List (Int × Int))(j v:Int):Prop:=(∀ i p,i<j→ix l i=some p→p.1<1000000000→v≤p.1 - p.2)∧((v=1000000000∧∀ i p,i<j→ix l i=some p→¬ p.1<1000000000)∨∃ i p,i<j∧ix l i=some p∧p.1<1000000000∧v=p.1 - p.2)
theorem Lst.eq{l:List (Int × Int)}{j v w:Int}(h:Lst l j v)(g:Lst l j w):v=w:=by
 obtain ⟨h1,⟨rfl,h2⟩ | ⟨i,p,h2,h3,h4,rfl⟩⟩:=h
 ·obtain ⟨g1,⟨rfl,g2⟩ | ⟨i,p,g2,g3,g4,rfl⟩⟩:=g
  ·rfl
  ·exact absurd g4 (h2 i p g2 g3)
 ·obtain ⟨g1,⟨rfl,g2⟩ | ⟨i',p',g2,g3,g4,rfl⟩⟩:=g
  ·exact absurd h4 (g2 i p h2 h3)
  ·have:=h1 i' p' g2 g3 g4; have:=g1 i p h2 h3 h4; omega
theorem Lst.zero(l:List (Int × Int)):Lst l 0 1000000000:=⟨fun i p hi hp=>by have:=(p9 hp).1; omega,.inl ⟨rfl,fun i p hi hp=>by have:=(p9 hp).1; omega⟩⟩
theorem Lst.step{l:List (Int × Int)}{j v:Int}{p:Int × Int}(h:Lst l j v)(hp:ix l j=some p)(hb:p.1<1000000000→p.1 - p.2≤1000000000):Lst l (j+1) (if p.1<1000000000 then min v (p.1 - p.2) else v):=by
 obtain ⟨h1,h2⟩:=h
 constructor
 ·intro i q hi hq hf
  by_cases e:i=j
  ·subst e; rw [hp] at hq; cases hq
   rw [if_pos hf]; omega
  ·have:=h1 i q (by omega) hq hf
   split<;>omega
 ·by_cases c:p.1<1000000000
  ·rw [if_pos c]
   by_cases d:p.1 - p.2<v
   ·exact .inr ⟨j,p,by omega,hp,c,by omega⟩
   ·rw [show min v (p.1 - p.2)=v by omega]
    rcases h2 with ⟨rfl,h2⟩ | ⟨i,q,q1,q2⟩
    ·exact .inr ⟨j,p,by omega,hp,c,by have:=hb c; omega⟩
    ·exact .inr ⟨i,q,by omega,q2⟩
  ·rw [if_neg c]
   rcases h2 with ⟨rfl,h2⟩ | ⟨i,q,q1,q2⟩
   ·refine .inl ⟨rfl,fun i q hi hq=> ?_⟩
    by_cases e:i=j
    ·subst e; rw [hp] at hq; cases hq; exact c
    ·exact h2 i q (by omega) hq
   ·exact .inr ⟨i,q,by omega,q2⟩
def Bst(l:List (Int × Int))(v i:Int):Prop:=∃ p,ix l i=some p∧p.1<1000000000∧p.1 - p.2=v
theorem rbest_spec{l:List (Int × Int)}{f:TFault}(hl:A7 t goals ob=some (l,f))(h:(f=⟨0,0⟩∧Rg t goals ob l∧goals.length≤4)∨f.code ≠ 0):
  (f.code ≠ 0∧G8 t goals ob=some ([],f))∨∃ v,Lst l l.length v∧G8 t goals ob=some (G5 (Bst l v) l.length,⟨0,0⟩):=by
 unfold G8
 rw [hl]
 simp only [oB]
 rcases h with ⟨rfl,h,h4⟩ | hc
 ·rw [if_neg (by simp)]
  have hlen:l.length≤4:=by have:=h.1; omega
  obtain ⟨v,v1,v2⟩:=F4 (body:=Q6 (l,⟨0,0⟩)) (n:=(l.length:Int)) (s:=1000000000) (fun j v=>Lst l j v) (by omega) (Lst.zero l) (fun j v j0 j1 hP=>by
   obtain ⟨p,hp,_⟩:=m4 j0 j1
   have hb:=h.bd hp
   have hw:w64 (p.1 - p.2)=p.1 - p.2:=v7 (by omega) (by omega)
   unfold Q6
   simp only [hp,oB,hw]
   have:=hP.step hp (by omega)
   by_cases c:p.1<1000000000
   ·rw [if_pos c] at this ⊢; exact ⟨_,rfl,this⟩
   ·rw [if_neg c] at this ⊢; exact ⟨_,rfl,this⟩)
  rw [v1]
  simp only [oB]
  have:=forR_setOf (b:=8) (n:=(l.length:Int)) (body:=Q5 (l,⟨0,0⟩) v) (Bst l v) (by omega) (by omega) (fun j c j0 j1=>by
   obtain ⟨p,hp,_⟩:=m4 j0 j1
   have hb:=h.bd hp
   have hw:w64 (p.1 - p.2)=p.1 - p.2:=v7 (by omega) (by omega)
   unfold Q5
   simp only [hp,oB,hw]
   refine ⟨fun ⟨q,q1,q2,q3⟩=> ?_,fun hn=> ?_⟩
   ·rw [hp] at q1; cases q1
    rw [if_pos (by simp [q2,q3])]
    cases app 8 c [j]<;>rfl
   ·rw [if_neg (by
     simp only [Bool.and_eq_true,decide_eq_true_eq]
     exact fun q=>hn ⟨p,hp,q⟩)]
    rfl)
  rw [this]
  exact .inr ⟨v,v2,rfl⟩
 ·rw [if_pos (by simp [hc])]
  exact .inl ⟨hc,rfl⟩
end
/-! ### The fixed task -/
theorem Ex.first{t:f9}(ht:m6 t){g:List Int}{o s:List Int}{c:Int}(h:Ex t g o s c):0≤c∧∀ op r,o=op::r→(opAt t op).cost≤c:=by
 induction h with
 | goal=>exact ⟨Int.le_refl 0,fun op r e=>by cases e⟩
 | step h0 h1 _ _ ih=>
  have:=(U6 ht h0 h1).2.1
  exact ⟨by omega,fun op r e=>by have:=ih.2 op r e; omega⟩
 | obs h0 h1 _ _ ih=>
  have:=(U6 ht h0 h1).2.1
  exact ⟨by omega,fun op r e=>by cases e; omega⟩
theorem step_ec:EC s5 [1] [1] 3:=by
 have hex:Ex s5 [1] [1] s5.init 3:=by
  have h:=step_works (op:=1) (.inr rfl)
  obtain ⟨hv,e,he,hg⟩:=h
  simp only [ends] at he
  split at he
  ·rename_i hc
   simp only [Option.some.injEq] at he
   exact .obs (c:=0) (by omega) (by simp [s5]) (m5.1 hc) (.goal (by rw [he]; exact hg))
  ·cases he
 refine ⟨fun c hc=> ?_,by omega,.inr ⟨by omega,hex⟩⟩
 have:=(hc.first step_ok).2 1 [] rfl
 rwa [step_cost1] at this
theorem step_obs:ObsOk s5 [[1]] [1]:=⟨by simp,by simp,fun g hg=>by simp at hg; subst hg; exact setN1 1 (by decide) (by decide),by simp,fun x hx=>by simp at hx; subst hx; simp [s5]⟩
theorem step_costs:A7 s5 [[1]] [1]=some ([(3,1)],⟨0,0⟩)∧G8 s5 [[1]] [1]=some ([0],⟨0,0⟩):=by
 obtain ⟨l,f,e,h1,_,h3⟩:=rcosts_spec s5 [[1]] [1]
 rcases h3 with ⟨_,_,_,rfl,_,hr⟩ | ⟨_,_,_,_,hm,_⟩ | ⟨hn,_⟩
 ·obtain ⟨p,hp,_⟩:=m4 (l:=l) (i:=0) (by omega) (by rw [hr.1]; simp)
  obtain ⟨e1,e2⟩:=hr.2 0 [1] p rfl hp
  have q1:=e1.eq step_ec
  have q2:=(EC.lc (t:=s5) e2).eq step_lc
  have hl:l=[(3,1)]:=by
   obtain ⟨a,b⟩:=p
   simp only at q1 q2
   subst q1 q2
   match l,hr.1,hp with
   | [x],_,hp=>simp [ix] at hp; rw [hp]
  subst hl
  refine ⟨h1, ?_⟩
  rcases rbest_spec h1 (.inl ⟨rfl,hr,by simp⟩) with ⟨hc,_⟩ | ⟨v,hv,hb⟩
  ·exact absurd rfl hc
  ·have:v=2:=hv.eq (by
    have:=(Lst.zero [(3,1)]).step (p:=(3,1)) rfl (by omega)
    simpa [show min (1000000000:Int) 2=2 by decide] using this)
   subst this
   rw [hb]
   have:G5 (Bst [(3,1)] 2) (([(3,1)]:List (Int × Int)).length:Int)=[0]:=by
    refine ((setN1 0 (by omega) (by simp)).eq_of fun x x0 x1=> ?_).symm
    have:x=0:=by simp at x1; omega
    subst this
    exact ⟨fun _=>⟨(3,1),rfl,by omega,by omega⟩,fun _=>by simp⟩
   rw [this]
 ·exact absurd hm step_many
 ·exact absurd ⟨step_ok,step_obs⟩ hn
theorem explained_true:M0=some true:=by
 unfold M0
 rw [show ai2=some s5 from rfl]
 simp only [oB,step_costs.1,step_costs.2]
 simp [twoInts_eq,numbers_eq]
theorem ao7(t:f9):J2 t=some true:=by
 unfold J2
 simp only [explained_true]
 obtain ⟨l,f,e,h1,_,h3⟩:=rcosts_spec t [t.goal] []
 obtain ⟨o,o1,o2⟩:=optimal_spec t
 rw [h1,o1]
 simp only [oB]
 rcases h3 with ⟨ht,ho,_,rfl,hm,hr⟩ | ⟨ht,ho,_,rfl,hm,rfl⟩ | ⟨hn,_,hc,hv,rfl⟩
 ·have hco:o.2.code=0:=Classical.byContradiction fun hc=>hm (o2.mny ht hc).1
  rw [if_neg (by simp [hco])]
  obtain ⟨p,hp,_⟩:=m4 (l:=l) (i:=0) (by omega) (by rw [hr.1]; simp)
  obtain ⟨e1,e2⟩:=hr.2 0 t.goal p rfl hp
  have q1:=e1.lc.eq (o2.lc hco)
  have q2:=e2.lc.eq (o2.lc hco)
  have hl:l=[(o.1,o.1)]:=by
   obtain ⟨a,b⟩:=p
   simp only at q1 q2
   subst q1 q2
   match l,hr.1,hp with
   | [x],_,hp=>simp [ix] at hp; rw [hp]
  rw [hl]
  simp [twoInts_eq]
 ·have hco:o.2.code ≠ 0:=fun hc=>by
   cases o2 with
   | bad _ _ hc'=>exact hc' hc
   | many=>simp at hc
   | none _ hf=>exact few_many hf hm
   | some _ hf=>exact few_many hf hm
  have:=(o2.mny ht hco).2
  rw [this]
  simp
 ·have hnt:¬ m6 t:=fun ht=>hn ⟨ht,by simp,by simp,fun g hg=>by simp at hg; subst hg; exact ht.goal,by simp,by simp⟩
  have hf:=hv hnt
  cases o2 with
  | bad _ hf' hc'=>
   rw [hf] at hf'; cases hf'
   simp [hc]
  | many h=>exact absurd h hnt
  | none h=>exact absurd h hnt
  | some h=>exact absurd h hnt
end Ab
end
