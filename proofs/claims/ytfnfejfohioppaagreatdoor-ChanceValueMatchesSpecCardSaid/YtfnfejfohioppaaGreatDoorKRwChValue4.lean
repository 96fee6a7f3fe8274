/-
  Texts that the proof stands on.
-/
import Derived.Test.YtfnfejfohioppaaGreatDoorKRwChValue3
set_option linter.all false
section
namespace Ab
open Go
def opSets(o:R5)(n:Int):Prop:=SetN o.pre n∧SetN o.add n∧SetN o.del n∧∀x ∈ o.add,x ∉ o.del
def opCost(o:R5):Prop:=0≤o.cost∧o.cost≤100
structure TaskOk(t:TTask):Prop where
 n0:0≤t.facts
 n1:t.facts≤24
 init:SetN t.init t.facts
 goal:SetN t.goal t.facts
 ops:t.operators.length≤40
 op:∀o ∈ t.operators,opSets o t.facts∧opCost o
theorem fault_no{f:j8}(h:f.code ≠ 0):(!((decide (f.code=0)) && (decide (f.index=0))))=true:=by simp[h]
/-! ### What operators and plans do -/
def noOp:R5:=⟨[],[],[],0⟩
def opAt(t:TTask)(op:Int):R5:=(t.operators[op.toNat]?).getD noOp
theorem ix_op{t:TTask}{op:Int}(h0:0≤op)(h1:op<t.operators.length):ix t.operators op=some (opAt t op):=by
 obtain⟨a,h2,h3⟩:=j7 h0 h1
 rw[h2,opAt,h3];rfl
theorem TaskOk.at{t:TTask}(h:TaskOk t){op:Int}(h0:0≤op)(h1:op<t.operators.length):opSets (opAt t op) t.facts∧opCost (opAt t op):=h.op _ (m5 (ix_op h0 h1))
def can(t:TTask)(s:Li)(op:Int):Prop:=∀x ∈ (opAt t op).pre,x ∈ s
theorem clone_eq{s:Li}(h:s.length≤1000000):v6 s=some s:=by
 rw[v6,app,if_pos (by simp;omega)];rfl
end Ab
end
section
namespace Ab
open Go
theorem subL_drop{α:Type}{l:List α}{i:Int}(h0:0≤i)(h1:i≤l.length):subL l i (l.length:Int)=some (l.drop i.toNat):=by
 rw[subL,if_pos (by omega)]
 rw[show((l.length:Int)).toNat=l.length by omega,List.take_length]
theorem subL_take{α:Type}{l:List α}{i:Int}(h0:0≤i)(h1:i≤l.length):subL l 0 i=some (l.take i.toNat):=by
 rw[subL,if_pos (by omega)];rfl
end Ab
end
section
namespace Ab
open Go
def llt:Li→Li→Prop
 |[],[]=>False
 |[],_::_=>True
 |_::_,[]=>False
 |a::l,b::m=>a<b∨a=b∧llt l m
theorem H6:∀l:Li,¬ llt l l
 |[]=>id
 |a::l=>fun h=>by
  rcases h with h|⟨_,h⟩
  ·omega
  ·exact H6 l h
theorem G2:∀{a b c:Li},llt a b→llt b c→llt a c
 |[],[],_,h,_=>h.elim
 |[],_::_,[],_,h=>h.elim
 |[],_::_,_::_,_,_=>trivial
 |_::_,[],_,h,_=>h.elim
 |_::_,_::_,[],_,h=>h.elim
 |x::a,y::b,z::c,h,g=>by
  rcases h with h|⟨rfl,h⟩<;>rcases g with g|⟨rfl,g⟩
  ·exact .inl (by omega)
  ·exact .inl h
  ·exact .inl g
  ·exact .inr ⟨rfl,G2 h g⟩
theorem O0:∀a b:Li,llt a b∨a=b∨llt b a
 |[],[]=>.inr (.inl rfl)
 |[],_::_=>.inl trivial
 |_::_,[]=>.inr (.inr trivial)
 |x::a,y::b=>by
  rcases Int.lt_trichotomy x y with h|rfl|h
  ·exact .inl (.inl h)
  ·rcases O0 a b with h|rfl|h
   ·exact .inl (.inr ⟨rfl,h⟩)
   ·exact .inr (.inl rfl)
   ·exact .inr (.inr (.inr ⟨rfl,h⟩))
  ·exact .inr (.inr (.inl h))
theorem ap1{a b:Li}(h:llt a b)(g:llt b a):False:=H6 a (G2 h g)
noncomputable def cmpL(a b:Li):Int:=if dec (llt a b)=true then -1 else if dec (a=b)=true then 0 else 1
theorem I9{a b:Li}:cmpL a b<0↔llt a b:=by
 unfold cmpL
 by_cases h:llt a b
 ·rw[ifP h];simp[h]
 ·rw[ifN h]
  split<;>simp[h]
theorem cmpL_eq{a b:Li}:cmpL a b=0↔a=b:=by
 unfold cmpL
 by_cases h:llt a b
 ·rw[ifP h]
  constructor
  ·intro e;omega
  ·rintro rfl;exact absurd h (H6 _)
 ·rw[ifN h]
  by_cases g:a=b
  ·rw[ifP g];simp[g]
  ·rw[ifN g];simp[g]
theorem cmpL_ge{a b:Li}:0≤cmpL a b↔¬ llt a b:=by rw[← I9];omega
theorem cmpInt_eq(x y:Int):O6 x y=some (if x<y then -1 else if y<x then 1 else 0):=by
 unfold O6 G3
 simp only[decide_true,Bool.not_true,oB,Bool.false_eq_true,if_false]
 split
 ·rfl
 ·split<;>rfl
theorem au3:∀{a b:Li} (k:Nat),k≤a.length→k≤b.length→a.take k=b.take k→(llt a b↔llt (a.drop k) (b.drop k))
 |_,_,0,_,_,_=>by simp
 |[],_,k+1,h,_,_=>by simp at h
 |_::_,[],k+1,_,h,_=>by simp at h
 |x::a,y::b,k+1,h1,h2,h3=>by
  simp only[List.take_succ_cons,List.cons.injEq] at h3
  obtain⟨rfl,h3⟩:=h3
  simp only[List.drop_succ_cons]
  rw[← au3 k (by simpa using h1) (by simpa using h2) h3]
  simp[llt]
theorem al1(a b:Li):slices_Compare_int_int a b=some (cmpL a b):=by
 unfold slices_Compare_int_int
 rcases ai0 (body:=E8 a b) (n:=(a.length:Int)) (s:=()) (fun j _=>j≤b.length∧a.take j.toNat=b.take j.toNat) (fun o=>o=cmpL a b) (by omega) ⟨by omega,by simp⟩ (fun j _ j0 j1 ⟨k1,k2⟩=>by
  obtain⟨x,hx,gx⟩:=j7 (l:=a) j0 j1
  have hxl:=(lG.1 gx).2
  unfold E8
  rw[hx]
  simp only[oB]
  have hd:=au3 (a:=a) (b:=b) j.toNat (by omega) (by omega) k2
  have da:a.drop j.toNat=x::a.drop (j.toNat+1):=by rw[← hxl];exact List.drop_eq_getElem_cons (by omega)
  by_cases c:(b.length:Int)≤j
  ·rw[if_pos c]
   refine .inr ⟨_,rfl,?_⟩
   have db:b.drop j.toNat=[]:=List.drop_of_length_le (by omega)
   rw[da,db] at hd
   unfold cmpL
   rw[ifN (fun h=>(hd.1 h).elim),ifN]
   rintro rfl;omega
  ·rw[if_neg c]
   obtain⟨y,hy,gy⟩:=j7 (l:=b) (i:=j) j0 (by omega)
   have hyl:=(lG.1 gy).2
   have db:b.drop j.toNat=y::b.drop (j.toNat+1):=by rw[← hyl];exact List.drop_eq_getElem_cons (by omega)
   rw[hy]
   simp only[oB,cmpInt_eq]
   rw[da,db] at hd
   have hne:x ≠ y→a ≠ b:=fun h e=>by subst e;rw[hx] at hy;cases hy;exact h rfl
   rcases Int.lt_trichotomy x y with h|rfl|h
   ·rw[if_pos h,if_neg (by decide)]
    refine .inr ⟨_,rfl,?_⟩
    unfold cmpL
    rw[ifP (hd.2 (.inl h))]
   ·simp only[Int.lt_irrefl,if_false,if_true]
    refine .inl ⟨(),Y,by omega,?_⟩
    rw[show(j+1).toNat=j.toNat+1 by omega,List.take_add_one,List.take_add_one,gx,gy,k2]
   ·rw[if_neg (show ¬ x<y by omega),if_pos h,if_neg (by decide)]
    refine .inr ⟨_,rfl,?_⟩
    unfold cmpL
    rw[ifN,ifN (hne (by omega))]
    intro g
    rcases hd.1 g with g|⟨g,_⟩<;>omega) with⟨_,r1,r2,r3⟩|⟨o,r1,rfl⟩
 ·rw[r1]
  simp only[oB]
  have hd:=au3 (a:=a) (b:=b) a.length (Nat.le_refl _) (by omega) (by simpa using r3)
  have da:a.drop a.length=[]:=by simp
  rw[da] at hd
  have e3:a=b.take a.length:=by simpa using r3
  by_cases c:(a.length:Int)<b.length
  ·rw[if_pos c]
   have:b.drop a.length ≠ []:=by simp;omega
   unfold cmpL
   rw[ifP]
   rw[hd]
   cases h:b.drop a.length with
   |nil=>exact absurd h this
   |cons x l=>trivial
  ·rw[if_neg c]
   have:a=b:=by rw[e3,List.take_of_length_le (by omega)]
   rw[cmpL_eq.2 this]
 ·rw[r1];rfl
theorem cmp_ok:CmpOk slices_Compare_int_int cmpL:=by
 refine⟨al1,⟨fun x=> ?_,fun x y z h1 h2=> ?_,fun x y z h1 h2=> ?_⟩,fun a b h1 h2=> ?_⟩
 ·simp only[Go.Proofs.ltOf,decide_eq_false_iff_not,I9]
  exact H6 x
 ·simp only[Go.Proofs.ltOf,decide_eq_true_eq,I9] at h1 h2 ⊢
  exact G2 h1 h2
 ·simp only[Go.Proofs.ltOf,decide_eq_false_iff_not,I9] at h1 h2 ⊢
  intro h
  rcases O0 x y with g|rfl|g
  ·exact h1 g
  ·exact h2 h
  ·exact h2 (G2 g h)
 ·rw[I9] at h1 h2
  rcases O0 a b with g|g|g
  ·exact absurd g h1
  ·exact g
  ·exact absurd g h2
theorem lltB_iff:∀{a b:Li},lltB a b=true↔llt a b
 |[],[]=>by simp[lltB,llt]
 |[],_::_=>by simp[lltB,llt]
 |_::_,[]=>by simp[lltB,llt]
 |x::l,y::m=>by
  simp only[lltB,llt]
  by_cases h:x<y
  ·simp[h]
  ·by_cases e:x=y
   ·simp[h,e,lltB_iff]
   ·simp[h,e]
theorem ae0{a b:Li}:lltB a b=false↔¬ llt a b:=by rw[← lltB_iff];simp
theorem sortLL_ms{l:LL}(h:l.length<4611686018427387904):sortLL l=some (l.mergeSort fun x y=>decide (¬ cmpL y x<0)):=by
 have tr:∀a b c:Li,lltB b a=false→lltB c b=false→lltB c a=false:=fun a b c h1 h2=>by
  rw[ae0] at h1 h2 ⊢
  intro h
  rcases O0 b a with g|g|g
  ·exact h1 g
  ·subst g;exact h2 h
  ·exact h2 (G2 h g)
 rw[sortLL,if_pos h,srtB_eq (m:=l.mergeSort fun x y=>decide (¬ cmpL y x<0)) tr (fun a b h=>ae0.2 fun g=>ap1 (lltB_iff.1 h) g) (fun a b h1 h2=>by
  rcases O0 a b with g|g|g
  ·exact absurd g (ae0.1 h1)
  ·exact g
  ·exact absurd g (ae0.1 h2)) (List.mergeSort_perm ..)]
 have:=List.pairwise_mergeSort (le:=fun x y:Li=>decide (¬ cmpL y x<0)) (fun a b c h1 h2=>by
  simp only[decide_eq_true_eq,I9] at h1 h2 ⊢
  exact ae0.1 (tr a b c (ae0.2 h1) (ae0.2 h2))) (fun a b=>by
  simp only[Bool.or_eq_true,decide_eq_true_eq,I9]
  by_cases h:llt b a
  ·exact .inr fun g=>ap1 h g
  ·exact .inl h) l
 exact this.imp fun h=>by simpa[I9,ae0] using h
theorem sortLL_fl{l l':LL}(h:sortLL l=some l'):sortFL slices_Compare_int_int l=some l':=by
 have hl:l.length<4611686018427387904:=by
  unfold sortLL at h
  split at h
  ·assumption
  ·cases h
 rw[sortFL_eq hl cmp_ok,← sortLL_ms hl,h]
end Ab
end
section
namespace Ab
open Go Go.Proofs
open Tryz
set_option maxHeartbeats 4000000
set_option linter.all false
attribute [local irreducible] AWP AOps thn inB Done e8 n7 Sub
abbrev oE(k:Nat)(x:List C):Ent:=.one (.cells k [x])
abbrev o1(x:C):Ent:=.one (.cells 1 [[x]])
abbrev oV{α:Type}(k:Nat)(f:α→List I)(l:List α):Ent:=.one (vec k f l)
abbrev oW{K V:Type}(fk:K→Vl)(fv:V→Vl)(m:List (K×V)):Ent:=.one (mapB fk fv m)
abbrev cI(n:Int):T:=.c (int n)
abbrev cB(b:Bool):T:=.c (bool b)
abbrev cP(i:Id)(j o:Nat):T:=.c (.ptr i j o)
abbrev cR(l:Li):T:=.c (row 1 intI l)
abbrev tO(v:d5):List C:=[int v.facts,row 1 intI v.init,row 1 intI v.goal,row 3 d7 v.operators]
abbrev vI:Int→Vl:=Value.int .i64
abbrev nL:Vl:=.slice none 0 0
theorem x5{l:Li}{nv:Int}{r:Bool}(h:D8 l nv=some r):e8 prog 100 [(cR l),(cI nv)] ((cB r)):=by
 unfold e8
 refine FnOk.enter (rs:=[.t 4]) func100 Z ntmps100 results100 Z ⟨Y,Y⟩ (by kernel_rfl) Z ?_
 unfold D8 at h
 refine AWP.gk 1 Z (.e (.gs 1 Z (S.len Z Z (fun hl8=>.ge 1 Z (.j ?_)))))
 obtain⟨oo,ho1,h⟩:=bind_some h
 refine AWP.rngH ho1 (fun t3 _=>⟨[(0,(cR l)),(1,(cI nv)),(7,(cR l)),(8,(cI (l.length:Int))),(9,(cI t3))],[]⟩) (fun x e st=>e=.ret∧Done [.t 4] (fun t _=>t=(cB x)) .ret st) (fun _ _=>Z) ?_ ?_ ?_ ?_
 ·try dsimp only
  exact Sub.en Z
 ·intro t3 s o hlot3 hltt3 h
  unfold W2 at h
  try dsimp only at h ⊢
  refine AWP.e (.j (.e ?_))
  obtain⟨a12,ha12,h⟩:=bind_some h
  refine AWP.G 1 Z (S.idx ha12 Z Z Z Z (.G 3 Z (.nil (b5 ?_))))
  obtain⟨t4,hx5,h⟩:=bind_some h
  refine AWP.seqJ (⟨[(0,(cR l)),(1,(cI nv)),(7,(cR l)),(8,(cI (l.length:Int))),(9,(cI t3)),(33,(cB t4))],[]⟩) ?_ ?_
  ·rcases bft (decide (a12<0)) with hb6|hb6
   ·replace hx5:=F8 hb6 hx5
    refine AWP.G 3 Z (.K Z Z hb6 (.G 17 Z (.nil ?_)))
    obtain rfl:=oi hx5
    refine b5 (Sub.en Z)
   ·replace hx5:=F1 hb6 hx5
    rcases bft (decide (nv≤a12)) with hb7|hb7
    ·replace hx5:=F8 hb7 hx5
     refine AWP.G 3 Z (.K Z Z hb6 (.G 5 Z (.K Z Z hb7 (.G 12 Z (.nil ?_)))))
     obtain rfl:=oi hx5
     refine b5 (Sub.en Z)
    ·replace hx5:=F1 hb7 hx5
     rcases bft (decide (0<t3)) with hb8|hb8
     ·replace hx5:=F8 hb8 hx5
      obtain⟨a29,ha29,hx5⟩:=bind_some hx5
      refine AWP.G 3 Z (.K Z Z hb6 (.G 5 Z (.K Z Z hb7 (.G 3 Z (.K Z Z hb8 (.G 3 Z (.F Z Z Z Z (.sub' Z Z Z (by omega) (.F Z Z Z Z (S.idx ha29 Z Z Z Z (.G 4 Z (.nil ?_))))))))))))
      obtain rfl:=oi hx5
      refine b5 (Sub.en Z)
     ·replace hx5:=F1 hb8 hx5
      refine AWP.G 3 Z (.K Z Z hb6 (.G 5 Z (.K Z Z hb7 (.G 3 Z (.K Z Z hb8 (.G 9 Z (.nil ?_)))))))
      obtain rfl:=oi hx5
      refine b5 (Sub.en Z)
  ·refine AWP.E Z h (fun hc9 h=> ?_) (fun hc9 h=> ?_)
   ·refine AWP.gk 1 Z (.ret (i4 (d9 ?_)))
    obtain rfl:=oi h
    refine d9 ⟨_,Z,Z,?_⟩
    exact Done.ret Z Z
   ·refine AWP.skip (d6 (b5 (.O (.add Z Z Z (by omega) (.z Z Z (.nil ?_))))))
    obtain rfl:=oi h
    refine b5 ⟨_,Z,?_⟩
    exact Sub.en Z
 ·intro iz _ he
  subst he
  try dsimp only at h ⊢
  refine f9 (b5 (.gk 1 Z (.ret ?_)))
  obtain rfl:=oi h
  exact Done.ret Z Z
 ·intro x e st he hq
  subst he
  try dsimp only at h hq
  obtain⟨rfl,hs⟩:=hq
  refine⟨_,Sub.refl _ _,?_⟩
  refine i4 (d9 ?_)
  obtain rfl:=oi h
  exact hs
theorem E1{xv:Int}{r:Bool}(h:G3 xv=some r):e8 prog 146 [(cI xv)] ((cB r)):=by
 unfold e8
 refine FnOk.enter (rs:=[.t 2]) func146 Z ntmps146 results146 Z ⟨Y,Y⟩ (by kernel_rfl) Z ?_
 unfold G3 at h
 refine AWP.gk 1 Z (.gk 4 Z (.ret ?_))
 obtain rfl:=oi h
 exact Done.ret Z Z
theorem cmp_Less_int_ok{xv:Int}{yv:Int}{r:Bool}(h:X9 xv yv=some r):e8 prog 166 [(cI xv),(cI yv)] ((cB r)):=by
 unfold e8
 refine FnOk.enter (rs:=[.t 4]) func166 Z ntmps166 results166 Z ⟨Y,Y⟩ (by kernel_rfl) Z ?_
 unfold X9 at h
 refine AWP.gk 1 Z ?_
 obtain⟨t3,hx4,h⟩:=bind_some h
 refine AWP.seqJ (⟨[(4,(cB t3))],[]⟩) ?_ ?_
 ·obtain⟨a6,ha6,hx4⟩:=bind_some hx4
  rcases bft (a6) with hb5|hb5
  ·replace hx4:=B2 hb5 hx4
   obtain⟨a9,ha9,hx4⟩:=bind_some hx4
   rcases bft (!a9) with hb6|hb6
   ·replace hx4:=B2 hb6 hx4
    refine AWP.G 1 Z (.q Z Z Z Z (E1 ha6) Z (.z Z Z (.K Z Z hb5 (.G 1 Z (.F Z Z Z Z (.q Z Z Z Z (E1 ha9) Z (.G 3 Z (.K Z Z hb6 (.G 5 Z (.nil ?_))))))))))
    obtain rfl:=oi hx4
    refine b5 (Sub.en Z)
   ·replace hx4:=B3 hb6 hx4
    refine AWP.G 1 Z (.q Z Z Z Z (E1 ha6) Z (.z Z Z (.K Z Z hb5 (.G 1 Z (.F Z Z Z Z (.q Z Z Z Z (E1 ha9) Z (.G 3 Z (.K Z Z hb6 (.G 5 Z (.nil ?_))))))))))
    obtain rfl:=oi hx4
    refine b5 (Sub.en Z)
  ·replace hx4:=B3 hb5 hx4
   refine AWP.G 1 Z (.q Z Z Z Z (E1 ha6) Z (.z Z Z (.K Z Z hb5 (.G 10 Z (.nil ?_)))))
   obtain rfl:=oi hx4
   refine b5 (Sub.en Z)
 ·refine AWP.ret ?_
  obtain rfl:=oi h
  exact Done.ret Z Z
theorem U9{xv:Int}{r:Bool}(h:L6 xv=some r):e8 prog 167 [(cI xv)] ((cB r)):=by
 unfold e8
 refine FnOk.enter (rs:=[.t 2]) func167 Z ntmps167 results167 Z ⟨Y,Y⟩ (by kernel_rfl) Z ?_
 unfold L6 at h
 refine AWP.gk 1 Z (.gk 4 Z (.ret ?_))
 obtain rfl:=oi h
 exact Done.ret Z Z
theorem O5{xv:Li}{target:Int}{r:Int×Bool}(h:s8 xv target=some r):e8 prog 147 [(cR xv),(cI target)] (.tup [(cI r.1),(cB r.2)]):=by
 unfold e8
 refine FnOk.enter (rs:=[.t 4,.t 5]) func147 Z ntmps147 results147 Z ⟨Y,Y,Y⟩ (by kernel_rfl) Z ?_
 unfold s8 at h
 refine AWP.gk 2 Z (.gs 1 Z (S.len Z Z (fun hl11=>.ge 1 Z (.gk 3 Z (.e (.j ?_))))))
 obtain⟨iv5,ho1,h⟩:=bind_some h
 refine AWP.loopS ho1 (fun(iv3,j4)=>⟨[(0,(cR xv)),(1,(cI target)),(6,(cI (xv.length:Int))),(7,(cI iv3)),(8,(cI j4))],[]⟩) (fun iv5 e st=>e=.exit 0∧Sub [] st ⟨[(0,(cR xv)),(1,(cI target)),(6,(cI (xv.length:Int))),(7,(cI iv5))],[]⟩) ?_ ?_ ?_
 ·try dsimp only
  exact Sub.en Z
 ·intro s o h
  obtain⟨iv3,j4⟩:=s
  unfold A9 at h
  try dsimp only at h ⊢
  refine AWP.e (.gk 3 Z (.J Z h (fun hc6 h=> ?_) (fun hc6 h=> ?_)))
  ·refine AWP.skip (b5 (.j (.gs 4 Z (.shr Z Z Z (by first|decide|omega) Z (.ge 2 Z (.e ?_))))))
   obtain⟨a24,ha24,a27,ha27,h⟩:=b2 h
   refine AWP.G 2 Z (S.idx ha24 Z Z Z Z (.G 2 Z (.q Z Z Z Z (cmp_Less_int_ok ha27) Z (.nil (b5 (.E Z h (fun hc7 h=> ?_) (fun hc7 h=> ?_)))))))
   ·refine AWP.G 3 Z (.nil (d6 ?_))
    obtain rfl:=oi h
    refine b5 ⟨_,Z,?_⟩
    exact Sub.en Z
   ·refine AWP.G 2 Z (.nil (d6 ?_))
    obtain rfl:=oi h
    refine b5 ⟨_,Z,?_⟩
    exact Sub.en Z
  ·refine AWP.exit (i5 ?_)
   obtain rfl:=oi h
   refine i5 ⟨_,Z,Z,?_⟩
   exact Sub.en Z
 ·intro e s hq
  obtain⟨rfl,hs⟩:=hq
  refine⟨_,hs,?_⟩
  refine f9 (b5 ?_)
  obtain⟨t8,hx9,h⟩:=bind_some h
  refine AWP.seqJ (⟨[(4,(cI iv5)),(5,(cB t8))],[]⟩) ?_ ?_
  ·rcases bft (decide (iv5<(xv.length:Int))) with hb10|hb10
   ·replace hx9:=F8 hb10 hx9
    obtain⟨a38,ha38,hx9⟩:=bind_some hx9
    rcases bft (decide (a38=target)) with hb11|hb11
    ·replace hx9:=F8 hb11 hx9
     refine AWP.G 5 Z (.K Z Z hb10 (.G 2 Z (.F Z Z Z Z (S.idx ha38 Z Z Z Z (.G 4 Z (.K Z Z hb11 (.G 13 Z (.nil ?_))))))))
     obtain rfl:=oi hx9
     refine b5 (Sub.en Z)
    ·replace hx9:=F1 hb11 hx9
     obtain⟨a45,ha45,a47,ha47,hx9⟩:=b2 hx9
     rcases bft (a47) with hb12|hb12
     ·replace hx9:=B2 hb12 hx9
      obtain⟨a50,ha50,hx9⟩:=bind_some hx9
      refine AWP.G 5 Z (.K Z Z hb10 (.G 2 Z (.F Z Z Z Z (S.idx ha38 Z Z Z Z (.G 4 Z (.K Z Z hb11 (.G 2 Z (.F Z Z Z Z (S.idx ha45 Z Z Z Z (.G 1 Z (.F Z Z Z Z (.q Z Z Z Z (U9 ha47) Z (.G 1 Z (.K Z Z hb12 (.G 1 Z (.F Z Z Z Z (.q Z Z Z Z (U9 ha50) Z (.G 5 Z (.nil ?_)))))))))))))))))))
      obtain rfl:=oi hx9
      refine b5 (Sub.en Z)
     ·replace hx9:=B3 hb12 hx9
      refine AWP.G 5 Z (.K Z Z hb10 (.G 2 Z (.F Z Z Z Z (S.idx ha38 Z Z Z Z (.G 4 Z (.K Z Z hb11 (.G 2 Z (.F Z Z Z Z (S.idx ha45 Z Z Z Z (.G 1 Z (.F Z Z Z Z (.q Z Z Z Z (U9 ha47) Z (.G 1 Z (.K Z Z hb12 (.G 7 Z (.nil ?_))))))))))))))))
      obtain rfl:=oi hx9
      refine b5 (Sub.en Z)
   ·replace hx9:=F1 hb10 hx9
    refine AWP.G 5 Z (.K Z Z hb10 (.G 20 Z (.nil ?_)))
    obtain rfl:=oi hx9
    refine b5 (Sub.en Z)
  ·refine AWP.ret ?_
   obtain rfl:=oi h
   exact Done.ret Z Z
theorem ay3{xv:Int}{c2:Li}{r:Bool}(h:Y3 xv c2=some r):e8 prog 152 [(cI xv),.c (.imm (.ipt [.sl 1 (List.map intI c2)]))] ((cB r)):=by
 unfold e8
 refine FnOk.enter (rs:=[.t 3]) func152 Z ntmps152 results152 Z ⟨Y,Y⟩ (by kernel_rfl) Z ?_
 unfold Y3 at h
 refine AWP.gk 1 Z (.e ?_)
 obtain⟨a9,ha9,h⟩:=bind_some h
 refine AWP.G 2 Z (.q Z Z Z Z (O5 ha9) Z (.G 5 Z (.nil (b5 (.gk 2 Z (.ret ?_))))))
 obtain rfl:=oi h
 exact Done.ret Z Z
theorem aj1{sv:Li}{fv:Int→Option Bool}{r:Int}{fvfv:FuncId}{cvfv:List C}(hcvfv:C.okL 0 cvfv=true)(hfv:∀{y1:Int} {z:Bool},fv y1=some z→e8 prog fvfv ([(cI y1)]++cvfv.map T.c) ((cB z)))(h:F9 sv fv=some r):e8 prog 145 [(cR sv),.c (.fn fvfv cvfv)] ((cI r)):=by
 unfold e8
 refine FnOk.enter (rs:=[.t 4]) func145 Z ntmps145 results145 Z ⟨Y,Y⟩ (by kernel_rfl) Z ?_
 unfold F9 at h
 refine AWP.gk 1 Z (.e (.gs 1 Z (S.len Z Z (fun hl7=>.ge 1 Z (.j ?_)))))
 obtain⟨oo,ho1,h⟩:=bind_some h
 refine AWP.rngH ho1 (fun t3 _=>⟨[(0,(cR sv)),(1,.c (.fn fvfv cvfv)),(7,(cI (sv.length:Int))),(8,(cI t3))],[]⟩) (fun x e st=>e=.ret∧Done [.t 4] (fun t _=>t=(cI x)) .ret st) (fun _ _=>Z) ?_ ?_ ?_ ?_
 ·try dsimp only
  exact Sub.en Z
 ·intro t3 s o hlot3 hltt3 h
  unfold C8 at h
  try dsimp only at h ⊢
  refine AWP.e (.j (.gk 2 Z (.e ?_)))
  obtain⟨a14,ha14,a16,ha16,h⟩:=b2 h
  refine AWP.G 3 Z (S.idx ha14 Z Z Z Z (.G 1 Z (.q Z Z (ae6 Z hcvfv) Z (hfv ha16) Z (.nil (b5 (.E Z h (fun hc4 h=> ?_) (fun hc4 h=> ?_)))))))
  ·refine AWP.gk 2 Z (.ret (i4 (d9 ?_)))
   obtain rfl:=oi h
   refine d9 ⟨_,Z,Z,?_⟩
   exact Done.ret Z Z
  ·refine AWP.skip (d6 (b5 (.O (.add Z Z Z (by omega) (.z Z Z (.nil ?_))))))
   obtain rfl:=oi h
   refine b5 ⟨_,Z,?_⟩
   exact Sub.en Z
 ·intro iz _ he
  subst he
  try dsimp only at h ⊢
  refine f9 (b5 (.gk 1 Z (.ret ?_)))
  obtain rfl:=oi h
  exact Done.ret Z Z
 ·intro x e st he hq
  subst he
  try dsimp only at h hq
  obtain⟨rfl,hs⟩:=hq
  refine⟨_,Sub.refl _ _,?_⟩
  refine i4 (d9 ?_)
  obtain rfl:=oi h
  exact hs
theorem F3{sv:Li}{fv:Int→Option Bool}{r:Bool}{fvfv:FuncId}{cvfv:List C}(hcvfv:C.okL 0 cvfv=true)(hfv:∀{y1:Int} {z:Bool},fv y1=some z→e8 prog fvfv ([(cI y1)]++cvfv.map T.c) ((cB z)))(h:u3 sv fv=some r):e8 prog 123 [(cR sv),.c (.fn fvfv cvfv)] ((cB r)):=by
 unfold e8
 refine FnOk.enter (rs:=[.t 4]) func123 Z ntmps123 results123 Z ⟨Y,Y⟩ (by kernel_rfl) Z ?_
 unfold u3 at h
 refine AWP.gk 1 Z (.e ?_)
 obtain⟨a7,ha7,h⟩:=bind_some h
 refine AWP.G 2 Z (.q Z Z (by simp[T.okL,T.ok,C.ok,C.okL,hcvfv]) Z (aj1 hcvfv hfv ha7) Z (.G 2 Z (.nil (b5 (.ret ?_)))))
 obtain rfl:=oi h
 exact Done.ret Z Z
theorem strips_Meets_ok{av:Li}{bv:Li}{r:Bool}(h:X1 av bv=some r):e8 prog 132 [(cR av),(cR bv)] ((cB r)):=by
 unfold e8
 refine FnOk.enter (rs:=[.t 4]) func132 Z ntmps132 results132 Z ⟨Y,Y⟩ (by kernel_rfl) Z ?_
 unfold X1 at h
 refine AWP.gk 2 Z (.e ?_)
 obtain⟨a7,ha7,h⟩:=bind_some h
 refine AWP.G 1 Z (.aa Z Z (.U Z Z (.cons (.c .imm) (.cons (.c (.fn (.cons (.ptr (es:=[.sl 1 (List.map intI bv)]) Z Z (.cons .imm .nil)) .nil))) .nil)) Z (F3 Z (fun hy=>ay3 hy) ha7) Z ?_))
 refine AOps.u Z Z (.nil (b5 (.ret ?_)))
 obtain rfl:=oi h
 exact Done.ret Z Z
theorem at5{ov:g9}{facts:Int}{r:Int}(h:J6 ov facts=some r):e8 prog 106 [.agg [row 1 intI ov.pre,row 3 p8 ov.outcomes,int ov.cost],(cI facts)] ((cI r)):=by
 unfold e8
 refine FnOk.enter (rs:=[.t 4]) func106 Z ntmps106 results106 Z ⟨Y,Y⟩ (by kernel_rfl) Z ?_
 unfold J6 at h
 refine AWP.gk 2 Z (.e (.j (.e ?_)))
 obtain⟨a11,ha11,h⟩:=bind_some h
 refine AWP.G 3 Z (.q Z Z Z Z (x5 ha11) Z (.G 2 Z (.nil (b5 (.E Z h (fun hc3 h=> ?_) (fun hc3 h=> ?_))))))
 ·refine AWP.gk 1 Z (.ret (i4 (d9 ?_)))
  obtain rfl:=oi h
  exact Done.ret Z Z
 ·refine AWP.seqJ (⟨[(1,(cI facts)),(2,(cP 0 0 0)),(13,(cB ((decide (ov.cost<0))||(decide (100<ov.cost)))))],[(oE 3 [row 1 intI ov.pre,row 3 p8 ov.outcomes,int ov.cost])]⟩) ?_ ?_
  ·rcases bft (decide (ov.cost<0)) with hb1|hb1
   ·refine AWP.G 4 Z (.K Z Z hb1 (.G 5 Z (.nil (b5 ?_))))
    simp only[S4 hb1,or_t hb1,Bool.false_or,Bool.true_or,Bool.false_and,Bool.true_and]
    exact Sub.en Z
   ·refine AWP.G 4 Z (.K Z Z hb1 (.G 5 Z (.nil (b5 ?_))))
    simp only[V1 hb1,or_f hb1,Bool.false_or,Bool.true_or,Bool.false_and,Bool.true_and]
    exact Sub.en Z
  ·refine AWP.E Z h (fun hc4 h=> ?_) (fun hc4 h=> ?_)
   ·refine AWP.gk 1 Z (.ret (i4 (d9 ?_)))
    obtain rfl:=oi h
    exact Done.ret Z Z
   ·refine AWP.seqJ (⟨[(1,(cI facts)),(2,(cP 0 0 0)),(22,(cB ((decide ((ov.outcomes.length:Int)=0))||(decide (4<(ov.outcomes.length:Int))))))],[(oE 3 [row 1 intI ov.pre,row 3 p8 ov.outcomes,int ov.cost])]⟩) ?_ ?_
    ·rcases bft (decide ((ov.outcomes.length:Int)=0)) with hb1|hb1
     ·refine AWP.G 2 Z (S.len Z Z (fun hl25=>.G 2 Z (.K Z Z hb1 (.G 6 Z (.nil (b5 ?_))))))
      simp only[S4 hb1,or_t hb1,Bool.false_or,Bool.true_or,Bool.false_and,Bool.true_and]
      exact Sub.en Z
     ·refine AWP.G 2 Z (S.len Z Z (fun hl25=>.G 2 Z (.K Z Z hb1 (.G 2 Z ?_))))
      refine AOps.F Z Z Z Z ?_;refine S.len Z Z (fun hl30=> ?_)
      refine AOps.G 3 Z (.nil (b5 ?_))
      simp only[V1 hb1,or_f hb1,Bool.false_or,Bool.true_or,Bool.false_and,Bool.true_and]
      exact Sub.en Z
    ·refine AWP.E Z h (fun hc5 h=> ?_) (fun hc5 h=> ?_)
     ·refine AWP.gk 1 Z (.ret (i4 (d9 ?_)))
      obtain rfl:=oi h
      exact Done.ret Z Z
     ·refine AWP.skip (d6 (b5 (.e (.gs 2 Z (S.len Z Z (fun hl35=>.ge 1 Z (.j ?_)))))))
      obtain⟨oo,ho1,h⟩:=bind_some h
      refine AWP.rngH ho1 (fun t6 _=>⟨[(1,(cI facts)),(34,.c (row 3 p8 ov.outcomes)),(35,(cI (ov.outcomes.length:Int))),(36,(cI t6))],[]⟩) (fun x e st=>e=.ret∧Done [.t 4] (fun t _=>t=(cI x)) .ret st) (fun _ _=>Z) ?_ ?_ ?_ ?_
      ·try dsimp only
       exact Sub.cut ⟨Z,Z,Z,Z,Y⟩ Z Y Z
      ·intro t6 s o hlot6 hltt6 h
       unfold F7 at h
       try dsimp only at h ⊢
       refine AWP.e (.j (.e ?_))
       obtain⟨a38,ha38,h⟩:=bind_some h
       refine AWP.O (S.idx ha38 Z Z Z Z (.G 3 Z (.nil (b5 (.j ?_)))))
       obtain⟨t7,hx8,h⟩:=bind_some h
       refine AWP.seqJ (⟨[(1,(cI facts)),(6,(cP 0 0 0)),(34,.c (row 3 p8 ov.outcomes)),(35,(cI (ov.outcomes.length:Int))),(36,(cI t6)),(40,(cB t7))],[(oE 3 [row 1 intI a38.add,row 1 intI a38.del,int a38.weight])]⟩) ?_ ?_
       ·obtain⟨a44,ha44,hx8⟩:=bind_some hx8
        rcases bft (!a44) with hb9|hb9
        ·replace hx8:=B2 hb9 hx8
         refine AWP.G 3 Z (.q Z Z Z Z (x5 ha44) Z (.G 2 Z (.K Z Z hb9 (.G 14 Z (.nil ?_)))))
         obtain rfl:=oi hx8
         refine b5 (Sub.en Z)
        ·replace hx8:=B3 hb9 hx8
         obtain⟨a50,ha50,hx8⟩:=bind_some hx8
         rcases bft (!a50) with hb10|hb10
         ·replace hx8:=B2 hb10 hx8
          refine AWP.G 3 Z (.q Z Z Z Z (x5 ha44) Z (.G 2 Z (.K Z Z hb9 (.G 3 Z (.F Z Z Z Z (.q Z Z Z Z (x5 ha50) Z (.G 3 Z (.K Z Z hb10 (.G 7 Z (.nil ?_))))))))))
          obtain rfl:=oi hx8
          refine b5 (Sub.en Z)
         ·replace hx8:=B3 hb10 hx8
          obtain⟨a58,ha58,hx8⟩:=bind_some hx8
          refine AWP.G 3 Z (.q Z Z Z Z (x5 ha44) Z (.G 2 Z (.K Z Z hb9 (.G 3 Z (.F Z Z Z Z (.q Z Z Z Z (x5 ha50) Z (.G 3 Z (.K Z Z hb10 (.G 4 Z (.F Z Z Z Z (.q Z Z Z Z (strips_Meets_ok ha58) Z (.G 2 Z (.nil ?_)))))))))))))
          obtain rfl:=oi hx8
          refine b5 (Sub.en Z)
       ·refine AWP.E Z h (fun hc11 h=> ?_) (fun hc11 h=> ?_)
        ·refine AWP.gk 1 Z (.ret (i4 (i4 (d9 ?_))))
         obtain rfl:=oi h
         refine d9 ⟨_,Z,Z,?_⟩
         exact Done.ret Z Z
        ·refine AWP.seqJ (⟨[(1,(cI facts)),(34,.c (row 3 p8 ov.outcomes)),(35,(cI (ov.outcomes.length:Int))),(36,(cI t6)),(60,(cB ((decide (a38.weight<1))||(decide (6<a38.weight)))))],[(oE 3 [row 1 intI a38.add,row 1 intI a38.del,int a38.weight])]⟩) ?_ ?_
         ·rcases bft (decide (a38.weight<1)) with hb1|hb1
          ·refine AWP.G 4 Z (.K Z Z hb1 (.G 5 Z (.nil (b5 ?_))))
           simp only[S4 hb1,or_t hb1,Bool.false_or,Bool.true_or,Bool.false_and,Bool.true_and]
           exact Sub.en Z
          ·refine AWP.G 4 Z (.K Z Z hb1 (.G 5 Z (.nil (b5 ?_))))
           simp only[V1 hb1,or_f hb1,Bool.false_or,Bool.true_or,Bool.false_and,Bool.true_and]
           exact Sub.en Z
         ·refine AWP.E Z h (fun hc12 h=> ?_) (fun hc12 h=> ?_)
          ·refine AWP.gk 1 Z (.ret (i4 (i4 (d9 ?_))))
           obtain rfl:=oi h
           refine d9 ⟨_,Z,Z,?_⟩
           exact Done.ret Z Z
          ·refine AWP.skip (d6 (d6 (b5 (.O (.add Z Z Z (by omega) (.z Z Z (.nil ?_)))))))
           obtain rfl:=oi h
           refine b5 ⟨_,Z,?_⟩
           exact Sub.cut ⟨Z,Z,Z,Z,Y⟩ Z Y Z
      ·intro iz _ he
       subst he
       try dsimp only at h ⊢
       refine f9 (b5 (.gk 1 Z (.ret ?_)))
       obtain rfl:=oi h
       exact Done.ret Z Z
      ·intro x e st he hq
       subst he
       try dsimp only at h hq
       obtain⟨rfl,hs⟩:=hq
       refine⟨_,Sub.refl _ _,?_⟩
       refine i4 (d9 ?_)
       obtain rfl:=oi h
       exact hs
theorem an0{ov:d5}{r:j8}(h:N3 ov=some r):e8 prog 75 [.agg (tO ov)] (.agg [int r.code,int r.index]):=by
 unfold e8
 refine FnOk.enter (rs:=[.cell 2 30 2]) func75 Z ntmps75 results75 Z ⟨rv _ Z,Y⟩ (by kernel_rfl) Z ?_
 unfold N3 at h
 refine AWP.gk 2 Z (.e (.j (.seqJ (⟨[(1,(cP 0 0 0)),(2,(cP 1 0 0)),(6,(cB ((decide (ov.facts<0))||(decide (24<ov.facts)))))],[(oE 4 (tO ov)),(oE 2 [int 0,int 0])]⟩) ?_ ?_)))
 ·rcases bft (decide (ov.facts<0)) with hb1|hb1
  ·refine AWP.G 4 Z (.K Z Z hb1 (.G 5 Z (.nil (b5 ?_))))
   simp only[S4 hb1,or_t hb1,Bool.false_or,Bool.true_or,Bool.false_and,Bool.true_and]
   exact Sub.en Z
  ·refine AWP.G 4 Z (.K Z Z hb1 (.G 5 Z (.nil (b5 ?_))))
   simp only[V1 hb1,or_f hb1,Bool.false_or,Bool.true_or,Bool.false_and,Bool.true_and]
   exact Sub.en Z
 ·refine AWP.E Z h (fun hc2 h=> ?_) (fun hc2 h=> ?_)
  ·refine AWP.gk 2 Z (.ret (i4 (d9 ?_)))
   obtain rfl:=oi h
   exact Done.ret Z Z
  ·refine AWP.e ?_
   obtain⟨a21,ha21,h⟩:=bind_some h
   refine AWP.G 4 Z (.q Z Z Z Z (x5 ha21) Z (.G 2 Z (.nil (b5 (.E Z h (fun hc3 h=> ?_) (fun hc3 h=> ?_))))))
   ·refine AWP.gk 2 Z (.ret (i4 (d9 ?_)))
    obtain rfl:=oi h
    exact Done.ret Z Z
   ·refine AWP.e ?_
    obtain⟨a29,ha29,h⟩:=bind_some h
    refine AWP.G 4 Z (.q Z Z Z Z (x5 ha29) Z (.G 2 Z (.nil (b5 (.E Z h (fun hc4 h=> ?_) (fun hc4 h=> ?_))))))
    ·refine AWP.gk 2 Z (.ret (i4 (d9 ?_)))
     obtain rfl:=oi h
     exact Done.ret Z Z
    ·refine AWP.gs 2 Z (S.len Z Z (fun hl35=>.ge 2 Z (.J Z h (fun hc5 h=> ?_) (fun hc5 h=> ?_))))
     ·refine AWP.gk 2 Z (.ret (i4 (d9 ?_)))
      obtain rfl:=oi h
      exact Done.ret Z Z
     ·refine AWP.skip (d6 (b5 (.e (.gs 2 Z (S.len Z Z (fun hl40=>.ge 1 Z (.j ?_)))))))
      obtain⟨oo,ho1,h⟩:=bind_some h
      refine AWP.rngH ho1 (fun t6 _=>⟨[(1,(cP 0 0 0)),(2,(cP 1 0 0)),(39,.c (row 3 d7 ov.operators)),(40,(cI (ov.operators.length:Int))),(41,(cI t6))],[(oE 4 (tO ov)),(oE 2 [int 0,int 0])]⟩) (fun x e st=>e=.ret∧Done [.cell 2 30 2] (fun t _=>t=.agg [int x.code,int x.index]) .ret st) (fun _ _=>Z) ?_ ?_ ?_ ?_
      ·try dsimp only
       exact Sub.en Z
      ·intro t6 s o hlot6 hltt6 h
       unfold M0 at h
       try dsimp only at h ⊢
       refine AWP.e (.j (.e ?_))
       obtain⟨a44,ha44,h⟩:=bind_some h
       refine AWP.G 1 Z (S.idx ha44 Z Z Z Z (.G 4 Z (.nil (b5 (.e ?_)))))
       obtain⟨a49,ha49,h⟩:=bind_some h
       refine AWP.G 3 Z (.q Z Z Z Z (at5 ha49) Z (.u Z Z (.nil (b5 (.gk 2 Z (.iteN Z h (fun hc7 h=> ?_) (fun hc7 h=> ?_)))))))
       ·refine AWP.gk 4 Z (.ret (i4 (d9 ?_)))
        obtain rfl:=oi h
        refine d9 ⟨_,Z,Z,?_⟩
        exact Done.ret Z Z
       ·refine AWP.skip (d6 (b5 (.O (.add Z Z Z (by omega) (.z Z Z (.nil ?_))))))
        obtain rfl:=oi h
        refine b5 ⟨_,Z,?_⟩
        exact Sub.cut ⟨Z,Z,Z,Z,Z,Y⟩ Z ⟨.one Z,.one Z,Y⟩ Z
      ·intro iz _ he
       subst he
       try dsimp only at h ⊢
       refine f9 (b5 (.gk 2 Z (.ret ?_)))
       obtain rfl:=oi h
       exact Done.ret Z Z
      ·intro x e st he hq
       subst he
       try dsimp only at h hq
       obtain⟨rfl,hs⟩:=hq
       refine⟨_,Sub.refl _ _,?_⟩
       refine i4 (d9 ?_)
       obtain rfl:=oi h
       exact hs
theorem al3{iv:Int}{r:ByteArray}(h:P8 iv=some r):e8 prog 196 [(cI iv)] (.c (.imm (.val (.string r)))):=by
 unfold e8
 refine FnOk.enter (rs:=[.t 2]) func196 Z ntmps196 results196 Z ⟨Y,Y⟩ (by kernel_rfl) Z ?_
 unfold P8 at h
 refine AWP.gk 1 Z (.e (.gk 2 Z (.J Z h (fun hc2 h=> ?_) (fun hc2 h=> ?_))))
 ·refine AWP.e ?_
  obtain⟨a8,ha8,h⟩:=bind_some h
  refine AWP.G 3 Z (S.subStr ha8 Z Z Z Z (.u Z Z (.nil (b5 (.ret (d9 ?_))))))
  obtain rfl:=oi h
  exact Done.ret Z Z
 ·refine AWP.skip (b5 (.e ?_))
  obtain⟨a14,ha14,h⟩:=bind_some h
  refine AWP.G 5 Z (S.subStr ha14 Z Z Z Z (.u Z Z (.nil (b5 (.ret ?_)))))
  obtain rfl:=oi h
  exact Done.ret Z Z
theorem ab1{iv:Int}{base:Int}{l:Li}{r:Li}(h:F2 iv base l=some r):FnOk prog 183 [.c (.own 0 0 l.length),.c (.imm (.val (.int .u64 iv))),(cI base)] (ab2 iv base l) (fun tt ss=>tt=.c (.own 2 0 r.length)∧ss=[.dead,.dead,(oV 1 eU8 r)]):=by
 refine FnOk.enter (rs:=[.t 6]) func183 Z ntmps183 results183 Z ⟨Y,Y⟩ (by kernel_rfl) Z ?_
 refine AWP.weak ?_
 unfold F2 at h
 refine AWP.z (env':=[(0,.c (.own 1 0 l.length)),(1,.c (.imm (.val (.int .u64 iv)))),(2,(cI base))]) (σ':=[.dead,(oV 1 eU8 l)]) 1 0 Z Z Z ⟨Z,Z,Z,Y⟩ Z ⟨Y,⟨Blk.im_ok _ _ _,i7 Z⟩,Y⟩ (.gk 1 Z (.e (.gk 2 Z (.J Z h (fun hc55 h=> ?_) (fun hc55 h=> ?_)))))
 ·refine AWP.e (.gk 2 Z (.J Z h (fun hc56 h=> ?_) (fun hc56 h=> ?_)))
  ·refine AWP.e ?_
   obtain⟨a16,ha16,a17,ha17,h⟩:=b2 h
   refine AWP.G 3 Z (.q Z Z Z Z (al3 ha16) Z (S.appendStr ha17 Z Z Z Z Z Z Z Z Z Z (.u Z Z (.nil (b5 (.ret (d9 (d9 ?_))))))))
   obtain rfl:=oi h
   exact⟨⟨[(6,.c (.own 2 0 a17.length))],[.dead,.dead,(oV 1 eU8 a17)]⟩,Sub.env ⟨Z,Y⟩,Done.ret Z ⟨Z,Z⟩⟩
  ·cases h
 ·cases h
theorem ad0{iv:Int}{base:Int}{l:Li}{r:Li}(h:G5 iv base l=some r):FnOk prog 165 [.c (.own 0 0 l.length),(cI iv),(cI base)] (ac9 iv base l) (fun tt ss=>tt=.c (.own 3 0 r.length)∧ss=[.dead,.dead,.dead,(oV 1 eU8 r)]):=by
 refine FnOk.enter (rs:=[.t 6]) func165 Z ntmps165 results165 Z ⟨Y,Y⟩ (by kernel_rfl) Z ?_
 refine AWP.weak ?_
 unfold G5 at h
 refine AWP.z (env':=[(0,.c (.own 1 0 l.length)),(1,(cI iv)),(2,(cI base))]) (σ':=[.dead,(oV 1 eU8 l)]) 1 0 Z Z Z ⟨Z,Z,Z,Y⟩ Z ⟨Y,⟨Blk.im_ok _ _ _,i7 Z⟩,Y⟩ (.gk 1 Z (.gk 3 Z ?_))
 obtain⟨u,hx55,h⟩:=bind_some h
 refine AWP.seqJ (⟨[(0,.c (.own 1 0 l.length)),(2,(cI base)),(7,.c (.imm (.val (.int .u64 ((IntKind.u64).wrap iv)))))],[.dead,(oV 1 eU8 l)]⟩) ?_ ?_
 ·refine AWP.gk 2 Z (.J Z hx55 (fun hc56 hx55=> ?_) (fun hc56 hx55=> ?_))
  ·cases hx55
  ·refine AWP.skip ?_
   obtain rfl:=oi hx55
   refine b5 (Sub.en Z)
 ·try dsimp only at h
  refine AWP.e ?_
  obtain⟨a20,ha20,h⟩:=bind_some h
  refine AWP.G 3 Z (.callF (r2:=.c (.own 3 0 a20.length)) (σ'':=[.dead,.dead,.dead,(oV 1 eU8 a20)]) Z Z Z (FnOk.lend [1] (ab1 ha20) Z Z Z Z Z Z (by exact⟨.vec,Y⟩) Z (by exact⟨(.live Z .vec),Y⟩) Z Z (by exact⟨.dead,.dead,.dead,(.new 2 Z Z .vec),Y⟩)) (.u Z Z (.nil (b5 (.ret ?_)))))
  obtain rfl:=oi h
  exact⟨⟨[(6,.c (.own 3 0 a20.length))],[.dead,.dead,.dead,(oV 1 eU8 a20)]⟩,Sub.env ⟨Z,Y⟩,Done.ret Z ⟨Z,Z⟩⟩
theorem ao3{iv:Int}{base:Int}{l:Li}{r:Li}(h:S2 iv base l=some r):FnOk prog 141 [.c (.own 0 0 l.length),(cI iv),(cI base)] (ao5 iv base l) (fun tt ss=>tt=.c (.own 4 0 r.length)∧ss=[.dead,.dead,.dead,.dead,(oV 1 eU8 r)]):=by
 refine FnOk.enter (rs:=[.t 6]) func141 Z ntmps141 results141 Z ⟨Y,Y⟩ (by kernel_rfl) Z ?_
 refine AWP.weak ?_
 unfold S2 at h
 refine AWP.z (env':=[(0,.c (.own 1 0 l.length)),(1,(cI iv)),(2,(cI base))]) (σ':=[.dead,(oV 1 eU8 l)]) 1 0 Z Z Z ⟨Z,Z,Z,Y⟩ Z ⟨Y,⟨Blk.im_ok _ _ _,i7 Z⟩,Y⟩ (.gk 1 Z (.e ?_))
 obtain⟨a10,ha10,h⟩:=bind_some h
 refine AWP.G 3 Z (.callF (r2:=.c (.own 4 0 a10.length)) (σ'':=[.dead,.dead,.dead,.dead,(oV 1 eU8 a10)]) Z Z Z (FnOk.lend [1] (ad0 ha10) Z Z Z Z Z Z (by exact⟨.vec,Y⟩) Z (by exact⟨(.live Z .vec),Y⟩) Z Z (by exact⟨.dead,.dead,.dead,.dead,(.new 3 Z Z .vec),Y⟩)) (.u Z Z (.nil (b5 (.ret ?_)))))
 obtain rfl:=oi h
 exact⟨⟨[(6,.c (.own 4 0 a10.length))],[.dead,.dead,.dead,.dead,(oV 1 eU8 a10)]⟩,Sub.env ⟨Z,Y⟩,Done.ret Z ⟨Z,Z⟩⟩
theorem av5{l:LL}{r:ByteArray}(h:al5 l=some r):e8 prog 119 [.c (row 1 b9 l)] (.c (.imm (.val (.string r)))):=by
 unfold e8
 refine FnOk.enter (rs:=[.t 2]) func119 Z ntmps119 results119 Z ⟨Y,Y⟩ (by kernel_rfl) Z ?_
 unfold al5 at h
 refine AWP.gk 1 Z (.gk 1 Z (.e (.gs 1 Z (S.len Z Z (fun hl9=>.ge 1 Z (.j (.virtV 1 eU8 3 Z Z Z ?_)))))))
 obtain⟨c2,ho1,h⟩:=bind_some h
 refine AWP.forH ho1 (fun t3 c2=>⟨[(3,.c (.own 0 0 c2.length)),(8,.c (row 1 b9 l)),(9,(cI (l.length:Int))),(10,(cI t3))],[(oV 1 eU8 c2)]⟩) (fun _ _=>Z) ?_ ?_ ?_
 ·try dsimp only
  exact Sub.env ⟨(o7 (by first|rfl|simp only[lS])),Z,Z,Z,Y⟩
 ·intro t3 c2 o hlot3 hltt3 h
  unfold aw1 at h
  try dsimp only at h ⊢
  refine AWP.e (.j (.e ?_))
  obtain⟨a12,ha12,h⟩:=bind_some h
  refine AWP.O (S.idx ha12 Z Z Z Z (.G 2 Z (.nil (b5 (.e (.gs 1 Z (S.len Z Z (fun hl15=>.ge 1 Z (.j ?_)))))))))
  obtain⟨c4,ho2,h⟩:=bind_some h
  refine AWP.forH ho2 (fun t5 c4=>⟨[(3,.c (.own 0 0 c4.length)),(8,.c (row 1 b9 l)),(9,(cI (l.length:Int))),(10,(cI t3)),(14,(cR a12)),(15,(cI (a12.length:Int))),(16,(cI t5))],[(oV 1 eU8 c4)]⟩) (fun _ _=>Z) ?_ ?_ ?_
  ·try dsimp only
   exact Sub.en Z
  ·intro t5 c4 o hlot5 hltt5 h
   unfold av8 at h
   try dsimp only at h ⊢
   refine AWP.e (.j (.e ?_))
   obtain⟨a18,ha18,h⟩:=bind_some h
   refine AWP.O (S.idx ha18 Z Z Z Z (.G 2 Z (.nil (b5 ?_))))
   obtain⟨a22,ha22,a24,ha24,h⟩:=b2 h
   refine AWP.G 2 Z (.callF (r2:=.c (.own 4 0 a22.length)) (σ'':=[.dead,.dead,.dead,.dead,(oV 1 eU8 a22)]) Z Z Z (FnOk.lend [0] (ao3 ha22) Z Z Z Z Z Z (by exact⟨.vec,Y⟩) Z (by exact⟨(.live Z .vec),Y⟩) Z Z (by exact⟨.dead,.dead,.dead,.dead,(.new 4 Z Z .vec),Y⟩)) (S.lit (f:=eU8) (l:=[44]) (ess:=[[.imm (.val (.int .u8 44))]]) Z Z Z Z Z Z Z ⟨⟨.inl Z,Y⟩,Y⟩ Z Z Z (S.append (f:=eU8) ha24 Z Z Z Z Z Z (.own Z Z) Z Z Z Z (.u Z Z (.nil (d6 (b5 (.z (env':=[(3,.c (.own 4 0 a24.length)),(8,.c (row 1 b9 l)),(9,(cI (l.length:Int))),(10,(cI t3)),(14,(cR a12)),(15,(cI (a12.length:Int))),(16,(cI t5))]) (σ':=[.dead,.dead,.dead,.dead,(oV 1 eU8 a24),(oV 1 eU8 [44])]) 4 6 Z Z Z ⟨Z,Z,Z,Z,Z,Z,Z,Y⟩ Z ⟨Y,Y,Y,Y,⟨Blk.im_ok _ _ _,i7 Z⟩,⟨Blk.im_ok _ _ _,i7 Z⟩,Y⟩ (.O (.add Z Z Z (by omega) (.z Z Z (.nil ?_))))))))))))
   obtain rfl:=oi h
   refine b5 ((Sub.move (env':=[(3,.c (.own 0 0 a24.length)),(8,.c (row 1 b9 l)),(9,(cI (l.length:Int))),(10,(cI t3)),(14,(cR a12)),(15,(cI (a12.length:Int))),(16,(cI (t5+1)))]) (σ':=[(oV 1 eU8 a24),.dead,.dead,.dead,.dead,(oV 1 eU8 [44])]) 0 4 Z Z Z ⟨Z,Z,Z,Z,Z,Z,Z,Y⟩ Z ⟨⟨Blk.im_ok _ _ _,i7 Z⟩,Y,Y,Y,Y,⟨Blk.im_ok _ _ _,i7 Z⟩,Y⟩).trans (Sub.cut ⟨Z,Z,Z,Z,Z,Z,Z,Y⟩ Z ⟨.vec,Y⟩ Z))
  ·intro iz
   try dsimp only
   refine f9 (b5 ?_)
   obtain⟨a28,ha28,h⟩:=bind_some h
   refine AWP.G 1 Z (S.lit (f:=eU8) (l:=[59]) (ess:=[[.imm (.val (.int .u8 59))]]) Z Z Z Z Z Z Z ⟨⟨.inl Z,Y⟩,Y⟩ Z Z Z (S.append (f:=eU8) ha28 Z Z Z Z Z Z (.own Z Z) Z Z Z Z (.u Z Z (.nil (d6 (b5 (.z (env':=[(3,.c (.own 0 0 a28.length)),(8,.c (row 1 b9 l)),(9,(cI (l.length:Int))),(10,(cI t3))]) (σ':=[(oV 1 eU8 a28),(oV 1 eU8 [59])]) 0 2 Z Z Z ⟨Z,Z,Z,Z,Y⟩ Z ⟨⟨Blk.im_ok _ _ _,i7 Z⟩,⟨Blk.im_ok _ _ _,i7 Z⟩,Y⟩ (.O (.add Z Z Z (by omega) (.z Z Z (.nil ?_)))))))))))
   obtain rfl:=oi h
   refine b5 (Sub.cut ⟨Z,Z,Z,Z,Y⟩ Z ⟨.vec,Y⟩ Z)
 ·intro iz
  try dsimp only
  refine f9 (b5 (.gs 1 Z (S.bytesStr Z Z Z Z (.ge 1 Z (.ret ?_)))))
  obtain rfl:=oi h
  exact Done.ret Z Z
theorem m8{sv:Li}{part:Li}{r:Bool}(h:k9 sv part=some r):e8 prog 42 [(cR sv),(cR part)] ((cB r)):=by
 unfold e8
 refine FnOk.enter (rs:=[.t 4]) func42 Z ntmps42 results42 Z ⟨Y,Y⟩ (by kernel_rfl) Z ?_
 unfold k9 at h
 refine AWP.gk 1 Z (.gk 1 Z (.e (.gs 1 Z (S.len Z Z (fun hl9=>.ge 1 Z (.j ?_))))))
 obtain⟨oo,ho1,h⟩:=bind_some h
 refine AWP.rngH ho1 (fun t4 iv3=>⟨[(0,(cR sv)),(5,(cI iv3)),(8,(cR part)),(9,(cI (part.length:Int))),(10,(cI t4))],[]⟩) (fun x e st=>e=.ret∧Done [.t 4] (fun t _=>t=(cB x)) .ret st) (fun _ _=>Z) ?_ ?_ ?_ ?_
 ·try dsimp only
  exact Sub.en Z
 ·intro t4 iv3 o hlot4 hltt4 h
  unfold O3 at h
  try dsimp only at h ⊢
  refine AWP.e (.j (.e ?_))
  obtain⟨a12,ha12,h⟩:=bind_some h
  refine AWP.O (S.idx ha12 Z Z Z Z (.G 2 Z (.nil (b5 (.e (.j ?_))))))
  obtain⟨iv6,ho2,h⟩:=bind_some h
  refine AWP.loopS ho2 (fun iv5=>⟨[(0,(cR sv)),(5,(cI iv5)),(7,(cI a12)),(8,(cR part)),(9,(cI (part.length:Int))),(10,(cI t4))],[]⟩) (fun iv6 e st=>e=.exit 2∧Sub [] st ⟨[(0,(cR sv)),(5,(cI iv6)),(7,(cI a12)),(8,(cR part)),(9,(cI (part.length:Int))),(10,(cI t4))],[]⟩) ?_ ?_ ?_
  ·try dsimp only
   exact Sub.en Z
  ·intro iv5 o h
   unfold I2 at h
   try dsimp only at h ⊢
   refine AWP.e ?_
   obtain⟨t7,hx8,h⟩:=bind_some h
   refine AWP.seqJ (⟨[(0,(cR sv)),(5,(cI iv5)),(7,(cI a12)),(8,(cR part)),(9,(cI (part.length:Int))),(10,(cI t4)),(25,(cB t7))],[]⟩) ?_ ?_
   ·rcases bft (decide (iv5<(sv.length:Int))) with hb9|hb9
    ·replace hx8:=F8 hb9 hx8
     obtain⟨a21,ha21,hx8⟩:=bind_some hx8
     refine AWP.G 2 Z (S.len Z Z (fun hl16=>.G 2 Z (.K Z Z hb9 (.G 2 Z (.F Z Z Z Z (S.idx ha21 Z Z Z Z (.G 4 Z (.nil ?_))))))))
     obtain rfl:=oi hx8
     refine b5 (Sub.en Z)
    ·replace hx8:=F1 hb9 hx8
     refine AWP.G 2 Z (S.len Z Z (fun hl16=>.G 2 Z (.K Z Z hb9 (.G 7 Z (.nil ?_)))))
     obtain rfl:=oi hx8
     refine b5 (Sub.en Z)
   ·refine AWP.E Z h (fun hc10 h=> ?_) (fun hc10 h=> ?_)
    ·refine AWP.skip (b5 (.j (.G 3 Z (.nil (d6 ?_)))))
     obtain rfl:=oi h
     refine b5 ⟨_,Z,?_⟩
     exact Sub.en Z
    ·refine AWP.exit (i5 ?_)
     obtain rfl:=oi h
     refine i5 ⟨_,Z,Z,?_⟩
     exact Sub.en Z
  ·intro e s hq
   obtain⟨rfl,hs⟩:=hq
   refine⟨_,hs,?_⟩
   refine f9 (b5 ?_)
   obtain⟨t11,hx12,h⟩:=bind_some h
   refine AWP.seqJ (⟨[(0,(cR sv)),(5,(cI iv6)),(8,(cR part)),(9,(cI (part.length:Int))),(10,(cI t4)),(39,(cB t11))],[]⟩) ?_ ?_
   ·rcases bft (decide (iv6=(sv.length:Int))) with hb13|hb13
    ·replace hx12:=F8 hb13 hx12
     refine AWP.G 2 Z (S.len Z Z (fun hl30=>.G 2 Z (.K Z Z hb13 (.G 7 Z (.nil ?_)))))
     obtain rfl:=oi hx12
     refine b5 (Sub.en Z)
    ·replace hx12:=F1 hb13 hx12
     obtain⟨a35,ha35,hx12⟩:=bind_some hx12
     refine AWP.G 2 Z (S.len Z Z (fun hl30=>.G 2 Z (.K Z Z hb13 (.G 2 Z (.F Z Z Z Z (S.idx ha35 Z Z Z Z (.G 4 Z (.nil ?_))))))))
     obtain rfl:=oi hx12
     refine b5 (Sub.en Z)
   ·refine AWP.E Z h (fun hc14 h=> ?_) (fun hc14 h=> ?_)
    ·refine AWP.gk 1 Z (.ret (i4 (d9 ?_)))
     obtain rfl:=oi h
     refine d9 ⟨_,Z,Z,?_⟩
     exact Done.ret Z Z
    ·refine AWP.skip (d6 (b5 (.O (.add Z Z Z (by omega) (.z Z Z (.nil ?_))))))
     obtain rfl:=oi h
     refine b5 ⟨_,Z,?_⟩
     exact Sub.en Z
 ·intro iz iv3 he
  subst he
  try dsimp only at h ⊢
  refine f9 (b5 (.gk 1 Z (.ret ?_)))
  obtain rfl:=oi h
  exact Done.ret Z Z
 ·intro x e st he hq
  subst he
  try dsimp only at h hq
  obtain⟨rfl,hs⟩:=hq
  refine⟨_,Sub.refl _ _,?_⟩
  refine i4 (d9 ?_)
  obtain rfl:=oi h
  exact hs
theorem aa5{ov:d5}{sv:Li}{op:Int}{r:Bool}(h:S8 ov sv op=some r):e8 prog 90 [.agg (tO ov),(cR sv),(cI op)] ((cB r)):=by
 unfold e8
 refine FnOk.enter (rs:=[.t 6]) func90 Z ntmps90 results90 Z ⟨Y,Y⟩ (by kernel_rfl) Z ?_
 unfold S8 at h
 refine AWP.gk 2 Z (.e ?_)
 obtain⟨a11,ha11,a14,ha14,h⟩:=b2 h
 refine AWP.G 4 Z (S.idx ha11 Z Z Z Z (.G 2 Z (.q Z Z Z Z (m8 ha14) Z (.u Z Z (.nil (b5 (.ret ?_)))))))
 obtain rfl:=oi h
 exact Done.ret Z Z
theorem az2{sv:Li}{add:Li}{del:Li}{r:Li}(h:J4 sv add del=some r):n7 prog 126 [(cR sv),(cR add),(cR del)] 1 (List.map intI r):=by
 unfold n7
 refine FnOk.enter (rs:=[.t 6]) func126 Z ntmps126 results126 Z ⟨Y,Y⟩ (by kernel_rfl) Z ?_
 unfold J4 at h
 refine AWP.gk 1 Z (.gk 1 Z (.e (.gs 1 Z (S.len Z Z (fun hl13=>.ge 1 Z (.j (.virtV 1 intI 7 Z Z Z ?_)))))))
 obtain⟨c4,ho1,h⟩:=bind_some h
 refine AWP.forH ho1 (fun t5 c4=>⟨[(1,(cR add)),(2,(cR del)),(7,.c (.own 0 0 c4.length)),(12,(cR sv)),(13,(cI (sv.length:Int))),(14,(cI t5))],[(oV 1 intI c4)]⟩) (fun _ _=>Z) ?_ ?_ ?_
 ·try dsimp only
  exact Sub.env ⟨Z,Z,(o7 (by first|rfl|simp only[lS])),Z,Z,Z,Y⟩
 ·intro t5 c4 o hlot5 hltt5 h
  unfold ad7 at h
  try dsimp only at h ⊢
  obtain⟨c6,hx7,h⟩:=bind_some h
  refine AWP.seqJ (⟨[(1,(cR add)),(2,(cR del)),(7,.c (.own 2 0 c6.length)),(12,(cR sv)),(13,(cI (sv.length:Int))),(14,(cI t5))],[.dead,.dead,(oV 1 intI c6)]⟩) ?_ ?_
  ·refine AWP.j (.e ?_)
   obtain⟨a16,ha16,hx7⟩:=bind_some hx7
   refine AWP.O (S.idx ha16 Z Z Z Z (.G 2 Z (.nil (b5 (.e ?_)))))
   obtain⟨a21,ha21,hx7⟩:=bind_some hx7
   refine AWP.G 2 Z (.q Z Z Z Z (O5 ha21) Z (.G 5 Z (.nil (b5 (.gk 2 Z (.E Z hx7 (fun hc8 hx7=> ?_) (fun hc8 hx7=> ?_)))))))
   ·obtain⟨a29,ha29,hx7⟩:=bind_some hx7
    refine AWP.G 2 Z (S.lit (f:=intI) (l:=[a16]) (ess:=[[int a16]]) Z Z Z Z Z Z Z ⟨⟨.inl Z,Y⟩,Y⟩ Z Z Z (S.append (f:=intI) ha29 Z Z Z Z Z Z (.own Z Z) Z Z Z Z (.u Z Z (.nil (d6 ?_)))))
    obtain rfl:=oi hx7
    refine b5 (Sub.cut ⟨Z,Z,Z,Z,Z,Z,Y⟩ Z ⟨.dead,.dead,.vec,Y⟩ Z)
   ·refine AWP.skip (d6 ?_)
    obtain rfl:=oi hx7
    refine b5 ((Sub.move (env':=[(1,(cR add)),(2,(cR del)),(7,.c (.own 2 0 c4.length)),(12,(cR sv)),(13,(cI (sv.length:Int))),(14,(cI t5))]) (σ':=[.dead,.dead,(oV 1 intI c4)]) 2 0 Z Z Z ⟨Z,Z,Z,Z,Z,Z,Y⟩ Z ⟨Y,Y,⟨Blk.im_ok _ _ _,i7 Z⟩,Y⟩).trans (Sub.en Z))
  ·refine AWP.O (.add Z Z Z (by omega) (.z Z Z (.nil ?_)))
   obtain rfl:=oi h
   refine b5 ((Sub.move (env':=[(1,(cR add)),(2,(cR del)),(7,.c (.own 0 0 c6.length)),(12,(cR sv)),(13,(cI (sv.length:Int))),(14,(cI (t5+1)))]) (σ':=[(oV 1 intI c6),.dead]) 0 2 Z Z Z ⟨Z,Z,Z,Z,Z,Z,Y⟩ Z ⟨⟨Blk.im_ok _ _ _,i7 Z⟩,Y,Y⟩).trans (Sub.cut ⟨Z,Z,Z,Z,Z,Z,Y⟩ Z ⟨.vec,Y⟩ Z))
 ·intro iz
  try dsimp only
  refine f9 (b5 (.e ?_))
  obtain⟨a33,ha33,h⟩:=bind_some h
  refine AWP.G 2 Z (S.append (f:=intI) ha33 Z Z Z Z Z Z .row Z Z Z Z (.u Z Z (.nil (b5 (.e (.z (env':=[(7,.c (.own 0 0 a33.length))]) (σ':=[(oV 1 intI a33)]) 0 1 Z Z Z ⟨Z,Y⟩ Z ⟨⟨Blk.im_ok _ _ _,i7 Z⟩,Y⟩ ?_))))))
  obtain⟨a35,ha35,h⟩:=bind_some h
  refine AWP.G 1 Z (S.sort ha35 sortL_ok Z Z Z Z Z Z (.nil (b5 (.gs 1 Z (S.compact compactL_ok Z Z (sortL_len ha35) Z Z Z Z Z (.ge 1 Z (.ret ?_)))))))
  obtain rfl:=oi h
  exact Done.ret Z (Fresh.mk Z Z)
theorem ax8{xv:Int}{yv:Int}{r:Int}(h:O6 xv yv=some r):e8 prog 125 [(cI xv),(cI yv)] ((cI r)):=by
 unfold e8
 refine FnOk.enter (rs:=[.t 4]) func125 Z ntmps125 results125 Z ⟨Y,Y⟩ (by kernel_rfl) Z ?_
 unfold O6 at h
 refine AWP.gk 1 Z (.e ?_)
 obtain⟨a8,ha8,h⟩:=bind_some h
 refine AWP.G 1 Z (.q Z Z Z Z (E1 ha8) Z (.u Z Z (.nil (b5 (.e ?_)))))
 obtain⟨a10,ha10,h⟩:=bind_some h
 refine AWP.G 1 Z (.q Z Z Z Z (E1 ha10) Z (.u Z Z (.nil (b5 (.e (.gk 1 Z (.E Z h (fun hc3 h=> ?_) (fun hc3 h=> ?_))))))))
 ·refine AWP.e (.gk 1 Z (.E Z h (fun hc4 h=> ?_) (fun hc4 h=> ?_)))
  ·refine AWP.gk 1 Z (.ret (d9 (d9 ?_)))
   obtain rfl:=oi h
   exact Done.ret Z Z
  ·refine AWP.skip (b5 (.gk 1 Z (.ret (d9 ?_))))
   obtain rfl:=oi h
   exact Done.ret Z Z
 ·refine AWP.skip (b5 (.e (.gk 1 Z (.E Z h (fun hc5 h=> ?_) (fun hc5 h=> ?_)))))
  ·refine AWP.gk 1 Z (.ret (d9 ?_))
   obtain rfl:=oi h
   exact Done.ret Z Z
  ·refine AWP.skip (b5 (.e (.gk 3 Z (.J Z h (fun hc6 h=> ?_) (fun hc6 h=> ?_)))))
   ·refine AWP.gk 1 Z (.ret (d9 ?_))
    obtain rfl:=oi h
    exact Done.ret Z Z
   ·refine AWP.skip (b5 (.e (.gk 3 Z (.J Z h (fun hc7 h=> ?_) (fun hc7 h=> ?_)))))
    ·refine AWP.gk 1 Z (.ret (d9 ?_))
     obtain rfl:=oi h
     exact Done.ret Z Z
    ·refine AWP.skip (b5 (.gk 1 Z (.ret ?_)))
     obtain rfl:=oi h
     exact Done.ret Z Z
theorem v8{s11:Li}{s22:Li}{r:Int}(h:slices_Compare_int_int s11 s22=some r):e8 prog 87 [(cR s11),(cR s22)] ((cI r)):=by
 unfold e8
 refine FnOk.enter (rs:=[.t 4]) func87 Z ntmps87 results87 Z ⟨Y,Y⟩ (by kernel_rfl) Z ?_
 unfold slices_Compare_int_int at h
 refine AWP.gk 1 Z (.e (.gs 1 Z (S.len Z Z (fun hl10=>.ge 1 Z (.j ?_)))))
 obtain⟨oo,ho1,h⟩:=bind_some h
 refine AWP.rngH ho1 (fun t3 _=>⟨[(0,(cR s11)),(1,(cR s22)),(9,(cR s11)),(10,(cI (s11.length:Int))),(11,(cI t3))],[]⟩) (fun x e st=>e=.ret∧Done [.t 4] (fun t _=>t=(cI x)) .ret st) (fun _ _=>Z) ?_ ?_ ?_ ?_
 ·try dsimp only
  exact Sub.en Z
 ·intro t3 s o hlot3 hltt3 h
  unfold E8 at h
  try dsimp only at h ⊢
  refine AWP.e (.j (.e ?_))
  obtain⟨a14,ha14,h⟩:=bind_some h
  refine AWP.G 1 Z (S.idx ha14 Z Z Z Z (.G 3 Z (.nil (b5 (.e (.gs 2 Z (S.len Z Z (fun hl18=>.ge 1 Z (.J Z h (fun hc4 h=> ?_) (fun hc4 h=> ?_))))))))))
  ·refine AWP.gk 1 Z (.ret (d9 (i4 (d9 ?_))))
   obtain rfl:=oi h
   refine d9 ⟨_,Z,Z,?_⟩
   exact Done.ret Z Z
  ·refine AWP.skip (b5 (.e ?_))
   obtain⟨a22,ha22,h⟩:=bind_some h
   refine AWP.G 2 Z (S.idx ha22 Z Z Z Z (.G 2 Z (.nil (b5 (.e ?_)))))
   obtain⟨a26,ha26,h⟩:=bind_some h
   refine AWP.G 2 Z (.q Z Z Z Z (ax8 ha26) Z (.u Z Z (.nil (b5 (.gk 2 Z (.iteN Z h (fun hc5 h=> ?_) (fun hc5 h=> ?_)))))))
   ·refine AWP.gk 2 Z (.ret (i4 (d9 ?_)))
    obtain rfl:=oi h
    refine d9 ⟨_,Z,Z,?_⟩
    exact Done.ret Z Z
   ·refine AWP.skip (d6 (b5 (.O (.add Z Z Z (by omega) (.z Z Z (.nil ?_))))))
    obtain rfl:=oi h
    refine b5 ⟨_,Z,?_⟩
    exact Sub.en Z
 ·intro iz _ he
  subst he
  try dsimp only at h ⊢
  refine f9 (b5 (.e (.gs 1 Z (S.len Z Z (fun hl32=>.z Z Z (S.len Z Z (fun hl34=>.ge 1 Z (.J Z h (fun hc6 h=> ?_) (fun hc6 h=> ?_)))))))))
  ·refine AWP.gk 1 Z (.ret (d9 ?_))
   obtain rfl:=oi h
   exact Done.ret Z Z
  ·refine AWP.skip (b5 (.gk 1 Z (.ret ?_)))
   obtain rfl:=oi h
   exact Done.ret Z Z
 ·intro x e st he hq
  subst he
  try dsimp only at h hq
  obtain⟨rfl,hs⟩:=hq
  refine⟨_,Sub.refl _ _,?_⟩
  refine i4 (d9 ?_)
  obtain rfl:=oi h
  exact hs
theorem N1{s11:Li}{s22:Li}{r:Bool}(h:z6 s11 s22=some r):e8 prog 104 [(cR s11),(cR s22)] ((cB r)):=by
 unfold e8
 refine FnOk.enter (rs:=[.t 4]) func104 Z ntmps104 results104 Z ⟨Y,Y⟩ (by kernel_rfl) Z ?_
 unfold z6 at h
 refine AWP.gk 1 Z (.e (.gs 1 Z (S.len Z Z (fun hl7=>.z Z Z (S.len Z Z (fun hl9=>.ge 1 Z (.iteN Z h (fun hc3 h=> ?_) (fun hc3 h=> ?_))))))))
 ·refine AWP.gk 1 Z (.ret (d9 ?_))
  obtain rfl:=oi h
  exact Done.ret Z Z
 ·refine AWP.skip (b5 (.e (.gs 1 Z (S.len Z Z (fun hl12=>.ge 1 Z (.j ?_))))))
  obtain⟨oo,ho1,h⟩:=bind_some h
  refine AWP.rngH ho1 (fun t4 _=>⟨[(0,(cR s11)),(1,(cR s22)),(12,(cI (s11.length:Int))),(13,(cI t4))],[]⟩) (fun x e st=>e=.ret∧Done [.t 4] (fun t _=>t=(cB x)) .ret st) (fun _ _=>Z) ?_ ?_ ?_ ?_
  ·try dsimp only
   exact Sub.en Z
  ·intro t4 s o hlot4 hltt4 h
   unfold N0 at h
   try dsimp only at h ⊢
   refine AWP.e (.j (.gk 2 Z (.e ?_)))
   obtain⟨a18,ha18,a22,ha22,h⟩:=b2 h
   refine AWP.drawI mixed Z (b7.D 2 Z ?_)
   refine b7.consF Z (fun E=>S.idx ha18 Z Z Z Z .N) Z ?_
   refine b7.D 3 Z ?_
   refine b7.consF Z (fun E=>S.idx ha22 Z Z Z Z .N) Z ?_
   refine b7.D 2 Z (b7.done ?_)
   dsimp only[h9]
   refine b5 (.iteN Z h (fun hc5 h=> ?_) (fun hc5 h=> ?_))
   ·refine AWP.gk 1 Z (.ret (i4 (d9 ?_)))
    obtain rfl:=oi h
    refine d9 ⟨_,Z,Z,?_⟩
    exact Done.ret Z Z
   ·refine AWP.skip (d6 (b5 (.O (.add Z Z Z (by omega) (.z Z Z (.nil ?_))))))
    obtain rfl:=oi h
    refine b5 ⟨_,Z,?_⟩
    exact Sub.en Z
  ·intro iz _ he
   subst he
   try dsimp only at h ⊢
   refine f9 (b5 (.gk 1 Z (.ret ?_)))
   obtain rfl:=oi h
   exact Done.ret Z Z
  ·intro x e st he hq
   subst he
   try dsimp only at h hq
   obtain⟨rfl,hs⟩:=hq
   refine⟨_,Sub.refl _ _,?_⟩
   refine i4 (d9 ?_)
   obtain rfl:=oi h
   exact hs
theorem A7{xv:LL}{target:Li}{cmp:Li→Li→Option Int}{r:Int×Bool}{fvcmp:FuncId}{cvcmp:List C}(hcvcmp:C.okL 0 cvcmp=true)(hcmp:∀{y1:Li} {y2:Li} {z:Int},cmp y1 y2=some z→e8 prog fvcmp ([(cR y1),(cR y2)]++cvcmp.map T.c) ((cI z)))(h:l9 xv target cmp=some r):e8 prog 86 [.c (row 1 b9 xv),(cR target),.c (.fn fvcmp cvcmp)] (.tup [(cI r.1),(cB r.2)]):=by
 unfold e8
 refine FnOk.enter (rs:=[.t 6,.t 7]) func86 Z ntmps86 results86 Z ⟨Y,Y,Y⟩ (by kernel_rfl) Z ?_
 unfold l9 at h
 refine AWP.gk 2 Z (.gs 1 Z (S.len Z Z (fun hl13=>.ge 1 Z (.gk 3 Z (.e (.j ?_))))))
 obtain⟨iv6,ho1,h⟩:=bind_some h
 refine AWP.loopS ho1 (fun(iv4,j5)=>⟨[(0,.c (row 1 b9 xv)),(1,(cR target)),(2,.c (.fn fvcmp cvcmp)),(8,(cI (xv.length:Int))),(9,(cI iv4)),(10,(cI j5))],[]⟩) (fun iv6 e st=>e=.exit 0∧Sub [] st ⟨[(0,.c (row 1 b9 xv)),(1,(cR target)),(2,.c (.fn fvcmp cvcmp)),(8,(cI (xv.length:Int))),(9,(cI iv6))],[]⟩) ?_ ?_ ?_
 ·try dsimp only
  exact Sub.en Z
 ·intro s o h
  obtain⟨iv4,j5⟩:=s
  unfold G9 at h
  try dsimp only at h ⊢
  refine AWP.e (.gk 3 Z (.J Z h (fun hc7 h=> ?_) (fun hc7 h=> ?_)))
  ·refine AWP.skip (b5 (.j (.gs 4 Z (.shr Z Z Z (by first|decide|omega) Z (.ge 2 Z (.e ?_))))))
   obtain⟨a27,ha27,a30,ha30,h⟩:=b2 h
   refine AWP.G 3 Z (S.idx ha27 Z Z Z Z (.G 2 Z (.q Z Z (ae6 Z hcvcmp) Z (hcmp ha30) Z (.lss Z Z Z (.nil (b5 (.J Z h (fun hc8 h=> ?_) (fun hc8 h=> ?_))))))))
   ·refine AWP.G 3 Z (.nil (d6 ?_))
    obtain rfl:=oi h
    refine b5 ⟨_,Z,?_⟩
    exact Sub.en Z
   ·refine AWP.G 2 Z (.nil (d6 ?_))
    obtain rfl:=oi h
    refine b5 ⟨_,Z,?_⟩
    exact Sub.en Z
  ·refine AWP.exit (i5 ?_)
   obtain rfl:=oi h
   refine i5 ⟨_,Z,Z,?_⟩
   exact Sub.en Z
 ·intro e s hq
  obtain⟨rfl,hs⟩:=hq
  refine⟨_,hs,?_⟩
  refine f9 (b5 ?_)
  obtain⟨t9,hx10,h⟩:=bind_some h
  refine AWP.seqJ (⟨[(6,(cI iv6)),(7,(cB t9))],[]⟩) ?_ ?_
  ·rcases bft (decide (iv6<(xv.length:Int))) with hb11|hb11
   ·replace hx10:=F8 hb11 hx10
    obtain⟨a43,ha43,a46,ha46,hx10⟩:=b2 hx10
    refine AWP.G 5 Z (.K Z Z hb11 (.G 3 Z (.F Z Z Z Z (S.idx ha43 Z Z Z Z (.G 2 Z (.F Z Z Z Z (.q Z Z (ae6 Z hcvcmp) Z (hcmp ha46) Z (.G 4 Z (.nil ?_)))))))))
    obtain rfl:=oi hx10
    refine b5 (Sub.en Z)
   ·replace hx10:=F1 hb11 hx10
    refine AWP.G 5 Z (.K Z Z hb11 (.G 11 Z (.nil ?_)))
    obtain rfl:=oi hx10
    refine b5 (Sub.en Z)
  ·refine AWP.ret ?_
   obtain rfl:=oi h
   exact Done.ret Z Z
theorem ae9{l:LL}{r:(LL)}(h:x9 l=some r):FnOk prog 131 [.c (.own 0 0 l.length),.c (.fn 104 [])] (E9 l) (fun tt ss=>tt=.c (.own 1 0 r.length)∧ss=[.dead,(oV 1 b9 r)]):=by
 refine FnOk.enter (rs:=[.t 4]) func131 Z ntmps131 results131 Z ⟨Y,Y⟩ (by kernel_rfl) Z ?_
 refine AWP.weak ?_
 unfold x9 at h
 refine AWP.z (env':=[(0,.c (.own 1 0 l.length)),(1,.c (.fn 104 []))]) (σ':=[.dead,(oV 1 b9 l)]) 1 0 Z Z Z ⟨Z,Z,Y⟩ Z ⟨Y,⟨Blk.im_ok _ _ _,i7 Z⟩,Y⟩ (.gk 1 Z (.e (.gs 1 Z (S.lenO Z Z Z (fun hl9=>.ge 1 Z (.J Z h (fun hc53 h=> ?_) (fun hc53 h=> ?_)))))))
 ·refine AWP.gk 2 Z (.ret (d9 ?_))
  obtain rfl:=oi h
  exact⟨⟨[(4,.c (.own 1 0 l.length))],[.dead,(oV 1 b9 l)]⟩,Sub.env ⟨Z,Y⟩,Done.ret Z ⟨Z,Z⟩⟩
 ·refine AWP.skip (b5 (.e (.gk 1 Z (.j ?_))))
  obtain⟨oo,ho1,h⟩:=bind_some h
  refine AWP.rngL ho1 (fun kv54 _=>⟨[(0,.c (.own 1 0 l.length)),(1,.c (.fn 104 [])),(5,(cI kv54))],[.dead,(oV 1 b9 l)]⟩) (fun x e st=>e=.ret∧∃J,Sub (E9 l) st J∧Done [.t 4] (fun tt ss=>tt=.c (.own 1 0 x.length)∧ss=[.dead,(oV 1 b9 x)]) .ret J) (fun _ _ _ k=>.G 2 Z (S.lenO Z Z Z fun hl=>.gn 1 Z (k hl))) (fun _ _=>Z) ?_ ?_ ?_ ?_
  ·try dsimp only
   exact Sub.en Z
  ·intro kv54 s o hlokv54 hltkv54 h hl14
   unfold s7 at h
   try dsimp only at h ⊢
   refine AWP.e (.j (.e ?_))
   obtain⟨a21,ha21,a26,ha26,a28,ha28,h⟩:=b3 h
   refine AWP.drawI mixed Z (b7.D 3 Z ?_)
   refine b7.consF Z (fun E=>S.idxO ha21 Z Z Z Z Z .N) Z (.consF Z (fun E=>S.loadO ha21 Z Z Z Z Z .N) Z ?_)
   refine b7.D 2 Z ?_
   refine b7.consF Z (fun E=>.sub' Z Z Z (by omega) .N) Z (.consF Z (fun E=>S.idxO ha26 Z Z Z Z Z .N) Z (.consF Z (fun E=>S.loadO ha26 Z Z Z Z Z .N) Z (.consF Z (fun E=>.q Z Z Z Z (N1 ha28) Z .N) Z ?_)))
   refine b7.done ?_
   dsimp only[h9]
   refine b5 (.E Z h (fun hc55 h=> ?_) (fun hc55 h=> ?_))
   ·refine AWP.e ?_
    obtain⟨u31,hu31,h⟩:=bind_some h
    refine AWP.G 2 Z (S.vFrom (D3 l) hu31 Z Z Z Z Z Z (.u Z Z (.nil (b5 (.e (.gk 1 Z (.j ?_)))))))
    obtain⟨⟨c56,kv57⟩,ho2,h⟩:=bind_some h
    try dsimp only at h
    refine AWP.forS ho2 (fun k258 (c56,kv57)=>⟨[(0,.c (.own 1 0 c56.length)),(1,.c (.fn 104 [])),(5,(cI kv57)),(6,.c (.own 1 ((0+kv54).toNat) (((l.length:Int) - kv54).toNat))),(7,(cI k258))],[.dead,(oV 1 b9 c56)]⟩) (fun(c56,kv57) e st=>e=.exit 2∧Sub (E9 l) st ⟨[(0,.c (.own 1 0 c56.length)),(5,(cI kv57))],[.dead,(oV 1 b9 c56)]⟩) ?_ ?_ ?_ ?_
    ·try dsimp only
     exact Sub.en Z
    ·intro k258 s hlok258 hltk258 _
     obtain⟨c56,kv57⟩:=s
     try dsimp only
     refine AWP.e (.gs 2 Z (S.lenV (X2 (ai9 (D3 l) hu31)).2.1 Z Z Z (fun hl34=>.ge 1 Z (.condNP Z hltk258 (.exit (i5 (i5 ⟨Z,?_⟩)))))))
     exact Sub.en Z
    ·intro k258 s o hlok258 hltk258 h
     obtain⟨c56,kv57⟩:=s
     unfold w9 at h
     try dsimp only at h ⊢
     refine AWP.e (.gs 2 Z (S.lenV (X2 (ai9 (D3 l) hu31)).2.1 Z Z Z (fun hl34=>.ge 1 Z (.condP Z hltk258 (.skip (b5 ?_))))))
     obtain⟨⟨c59,kv60⟩,hx61,h⟩:=bind_some h
     refine AWP.seqJ (⟨[(0,.c (.own 1 0 c59.length)),(1,.c (.fn 104 [])),(5,(cI kv60)),(6,.c (.own 1 ((0+kv54).toNat) (((l.length:Int) - kv54).toNat))),(7,(cI k258))],[.dead,(oV 1 b9 c59)]⟩) ?_ ?_
     ·refine AWP.j (.e ?_)
      obtain⟨a41,ha41,a46,ha46,a48,ha48,hx61⟩:=b3 hx61
      refine AWP.drawI mixed Z (b7.D 3 Z ?_)
      refine b7.consF Z (fun E=>S.idxV ha41 Z Z Z Z .N) Z (.consF Z (fun E=>S.loadO (ixV_ix ha41) Z Z Z Z Z .N) Z ?_)
      refine b7.D 2 Z ?_
      refine b7.consF Z (fun E=>.sub' Z Z Z (by omega) .N) Z (.consF Z (fun E=>S.idxV ha46 Z Z Z Z .N) Z (.consF Z (fun E=>S.loadO (ixV_ix ha46) Z Z Z Z Z .N) Z (.consF Z (fun E=>.q Z Z Z Z (N1 ha48) Z .N) Z ?_)))
      refine b7.D 1 Z (b7.done ?_)
      dsimp only[h9]
      refine b5 (.E Z hx61 (fun hc62 hx61=> ?_) (fun hc62 hx61=> ?_))
      ·refine AWP.e ?_
       obtain⟨a54,ha54,a56,ha56,hx61⟩:=b2 hx61
       refine AWP.G 4 Z (S.idxV ha54 Z Z Z Z (S.loadO (ixV_ix ha54) Z Z Z Z Z (S.idxO ha56 Z Z Z Z Z (S.storeO1 (f:=b9) (a':=a54) (q7 ha56) (fun _=>⟨_,Z⟩) Z Z Z Z Z ?_))))
       refine AOps.nil (b5 (.G 3 Z (.nil (d6 ?_))))
       obtain⟨ej0,ej1⟩:=o2 hx61
       subst ej0 ej1
       refine b5 (Sub.env ⟨(o7 (by first|rfl|simp only[lS])),Z,Z,Z,Z,Y⟩)
      ·refine AWP.skip (d6 ?_)
       obtain⟨ej0,ej1⟩:=o2 hx61
       subst ej0 ej1
       refine b5 (Sub.en Z)
     ·try dsimp only at h
      refine AWP.G 1 Z (.add Z Z Z (by omega) (.u Z Z (.nil ?_)))
      obtain rfl:=oi h
      refine b5 (Sub.en Z)
    ·intro e s hq
     obtain⟨rfl,hs⟩:=hq
     refine⟨_,hs,?_⟩
     refine f9 (b5 (.e ?_))
     obtain⟨u61,hu61,h⟩:=bind_some h
     refine AWP.G 2 Z (S.vFrom (D3 c56) hu61 Z Z Z Z Z Z (S.clear (a0:=[]) Z Z Z (fun _ _ _ _=>.imm .slNil) (ai9 (D3 c56) hu61) Z Z Z Z Z ?_))
     refine AOps.nil (b5 (.e ?_))
     obtain⟨u64,hu64,h⟩:=bind_some h
     refine AWP.G 2 Z ?_
     refine S.vTo (D3 (clrL c56 (0+kv57) ((c56.length:Int) - kv57) [])) hu64 Z Z (by rw[Int.toNat_natCast];exact(clrL_len (ai9 (D3 c56) hu61)).symm) Z Z Z ?_
     refine AOps.u Z Z (.nil (b5 (.reown (env':=[(4,.c (.own 2 0 ((r8 (clrL c56 (0+kv57) ((c56.length:Int) - kv57) []) 0 kv57).length)))]) 4 (vw_to (D3 (clrL c56 (0+kv57) ((c56.length:Int) - kv57) [])) hu64) Z Z Z Z Z Z Z Z (by exact⟨.inl ⟨Z,Z⟩,Y⟩) (.ret (i4 (d9 ?_))))))
     obtain rfl:=oi h
     refine d9 ⟨_,Z,Z,?_⟩
     exact⟨⟨[(4,.c (.own 1 0 ((r8 (clrL c56 (0+kv57) ((c56.length:Int) - kv57) []) 0 kv57).length)))],[.dead,(oV 1 b9 (r8 (clrL c56 (0+kv57) ((c56.length:Int) - kv57) []) 0 kv57))]⟩,(Sub.move (env':=[(4,.c (.own 1 0 ((r8 (clrL c56 (0+kv57) ((c56.length:Int) - kv57) []) 0 kv57).length)))]) (σ':=[.dead,(oV 1 b9 (r8 (clrL c56 (0+kv57) ((c56.length:Int) - kv57) []) 0 kv57))]) 1 2 Z Z Z ⟨Z,Y⟩ Z ⟨Y,⟨Blk.im_ok _ _ _,i7 Z⟩,Y⟩).trans (Sub.env ⟨Z,Y⟩),Done.ret Z ⟨Z,Z⟩⟩
   ·refine AWP.skip (d6 (b5 (.G 1 Z (.add Z Z Z (by omega) (.u Z Z (.nil ?_))))))
    obtain rfl:=oi h
    refine b5 ⟨_,Z,?_⟩
    exact Sub.en Z
  ·intro iz _ he
   subst he
   try dsimp only at h ⊢
   refine f9 (b5 (.gk 2 Z (.ret ?_)))
   obtain rfl:=oi h
   exact⟨⟨[(4,.c (.own 1 0 l.length))],[.dead,(oV 1 b9 l)]⟩,Sub.env ⟨Z,Y⟩,Done.ret Z ⟨Z,Z⟩⟩
  ·intro x e st he hq
   subst he
   try dsimp only at h hq
   obtain⟨rfl,hs⟩:=hq
   refine⟨_,Sub.refl _ _,?_⟩
   refine i4 (d9 ?_)
   obtain rfl:=oi h
   exact hs
theorem W6{l:LL}{r:(LL)}(h:G0 l=some r):FnOk prog 105 [.c (.own 0 0 l.length)] (aw8 l) (fun tt ss=>tt=.c (.own 2 0 r.length)∧ss=[.dead,.dead,(oV 1 b9 r)]):=by
 refine FnOk.enter (rs:=[.t 2]) func105 Z ntmps105 results105 Z ⟨Y,Y⟩ (by kernel_rfl) Z ?_
 refine AWP.weak ?_
 unfold G0 at h
 refine AWP.z (env':=[(0,.c (.own 1 0 l.length))]) (σ':=[.dead,(oV 1 b9 l)]) 1 0 Z Z Z ⟨Z,Y⟩ Z ⟨Y,⟨Blk.im_ok _ _ _,i7 Z⟩,Y⟩ (.gk 1 Z (.e ?_))
 obtain⟨a4,ha4,h⟩:=bind_some h
 refine AWP.G 1 Z (S.sortF (fun x=>.sl 1 (List.map intI x)) (sortLL_fl ha4) Z (fun hy=>v8 hy) sortF_LLi64_ok (⟨_,func87,Z,Z⟩) Z Z Z Z Z Z ?_)
 refine AOps.nil (b5 (.e ?_))
 obtain⟨a6,ha6,h⟩:=bind_some h
 refine AWP.G 1 Z ?_
 refine AOps.callF (r2:=.c (.own 2 0 a6.length)) (σ'':=[.dead,.dead,(oV 1 b9 a6)]) Z Z Z (FnOk.lend [1] (ae9 ha6) Z Z Z Z Z Z (by exact⟨.vec,Y⟩) (by rw[(sortFL_len (sortLL_fl ha4))]<;>rfl) (by exact⟨(.live Z .vec),Y⟩) Z Z (by exact⟨.dead,.dead,(.new 1 Z Z .vec),Y⟩)) ?_
 refine AOps.u Z Z (.nil (b5 (.ret ?_)))
 obtain rfl:=oi h
 exact⟨⟨[(2,.c (.own 2 0 a6.length))],[.dead,.dead,(oV 1 b9 a6)]⟩,Sub.env ⟨Z,Y⟩,Done.ret Z ⟨Z,Z⟩⟩
theorem y6{ov:d5}{sv:Li}{op:Int}{r:(LL)×Li}(h:u4 ov sv op=some r):e8 prog 91 [.agg (tO ov),(cR sv),(cI op)] (.tup [.c (row 1 b9 r.1),(cR r.2)]):=by
 unfold e8
 refine FnOk.enter (rs:=[.t 6,.t 7]) func91 Z ntmps91 results91 Z ⟨Y,Y,Y⟩ (by kernel_rfl) Z ?_
 unfold u4 at h
 refine AWP.gk 3 Z (.gk 1 Z (.e (.e ?_)))
 obtain⟨a20,ha20,h⟩:=bind_some h
 refine AWP.G 3 Z (S.idx ha20 Z Z Z Z (.G 2 Z (S.len Z Z (fun hl23=>.z Z Z (.nil (b5 (.j (.virtV 1 b9 8 Z Z Z ?_))))))))
 obtain⟨c4,ho1,h⟩:=bind_some h
 refine AWP.forH ho1 (fun t5 c4=>⟨[(1,(cR sv)),(2,(cI op)),(3,(cP 0 0 0)),(8,.c (.own 1 0 c4.length)),(22,.c (row 3 p8 a20.outcomes)),(23,(cI (a20.outcomes.length:Int))),(24,(cI t5))],[(oE 4 (tO ov)),(oV 1 b9 c4)]⟩) (fun _ _=>Z) ?_ ?_ ?_
 ·try dsimp only
  exact Sub.env ⟨Z,Z,Z,(o7 (by first|rfl|simp only[lS])),Z,Z,Z,Y⟩
 ·intro t5 c4 o hlot5 hltt5 h
  unfold O8 at h
  try dsimp only at h ⊢
  refine AWP.e (.j (.e ?_))
  obtain⟨a26,ha26,h⟩:=bind_some h
  refine AWP.O (S.idx ha26 Z Z Z Z (.G 3 Z (.nil (b5 ?_))))
  obtain⟨a34,ha34,a36,ha36,h⟩:=b2 h
  refine AWP.G 6 Z (S.fresh Z Z Z Z (az2 ha34) Z Z (.frzV (id:=3) (l:=a34) (env2:=[(1,(cR sv)),(2,(cI op)),(3,(cP 0 0 0)),(22,.c (row 3 p8 a20.outcomes)),(23,(cI (a20.outcomes.length:Int))),(24,(cI t5)),(28,.c (.own 1 0 c4.length)),(34,(cR a34))]) (σ2:=[(oE 4 (tO ov)),(oV 1 b9 c4),(oE 3 [row 1 intI a26.add,row 1 intI a26.del,int a26.weight]),.dead]) Z Z (by exact⟨⟨_,Z,.inl ⟨Z,Z⟩⟩,⟨_,Z,.inl ⟨Z,Z⟩⟩,⟨_,Z,.inl ⟨Z,Z⟩⟩,⟨_,Z,.inl ⟨Z,Z⟩⟩,⟨_,Z,.inl ⟨Z,Z⟩⟩,⟨_,Z,.inl ⟨Z,Z⟩⟩,⟨_,Z,.inl ⟨Z,Z⟩⟩,⟨_,Z,.inr ⟨_,Z,Z,Z⟩⟩,Y⟩) Z (by exact⟨⟨Z,.inl ⟨Z,Z⟩,.inl ⟨Z,Z⟩,.inl ⟨Z,Z⟩,.inl ⟨Z,Z⟩,Y⟩,FrzB.vec,⟨Z,.inl ⟨Z,Z⟩,.inl ⟨Z,Z⟩,.inl ⟨Z,Z⟩,Y⟩,Y,Y⟩) (S.lit (f:=b9) (l:=[a34]) (ess:=[[row 1 intI a34]]) Z Z Z Z Z Z Z ⟨⟨.inl Z,Y⟩,Y⟩ Z Z Z (S.append (f:=b9) ha36 Z Z Z Z Z Z (.own Z Z) Z Z Z Z (.u Z Z (.nil (d6 (b5 (.z (env':=[(1,(cR sv)),(2,(cI op)),(3,(cP 0 0 0)),(8,.c (.own 1 0 a36.length)),(22,.c (row 3 p8 a20.outcomes)),(23,(cI (a20.outcomes.length:Int))),(24,(cI t5))]) (σ':=[(oE 4 (tO ov)),(oV 1 b9 a36),(oE 3 [row 1 intI a26.add,row 1 intI a26.del,int a26.weight]),.dead,(oV 1 b9 [a34])]) 1 5 Z Z Z ⟨Z,Z,Z,Z,Z,Z,Z,Y⟩ Z ⟨⟨Z,Z⟩,⟨Blk.im_ok _ _ _,i7 Z⟩,⟨Z,Z⟩,Y,⟨Blk.im_ok _ _ _,i7 Z⟩,Y⟩ (.O (.add Z Z Z (by omega) (.z Z Z (.nil ?_)))))))))))))
  obtain rfl:=oi h
  refine b5 (Sub.cut ⟨Z,Z,Z,Z,Z,Z,Z,Y⟩ Z ⟨.one Z,.vec,Y⟩ Z)
 ·intro iz
  try dsimp only
  refine f9 (b5 (.e ?_))
  obtain⟨a39,ha39,a40,ha40,h⟩:=b2 h
  refine AWP.G 1 Z (.frzV (id:=1) (l:=c4) (env2:=[(2,(cI op)),(3,(cP 0 0 0)),(8,.c (row 1 b9 c4)),(38,.c (row 1 b9 c4))]) (σ2:=[(oE 4 (tO ov)),.dead]) Z Z (by exact⟨⟨_,Z,.inl ⟨Z,Z⟩⟩,⟨_,Z,.inl ⟨Z,Z⟩⟩,⟨_,Z,.inr ⟨_,Z,Z,Z⟩⟩,⟨_,Z,.inr ⟨_,Z,Z,Z⟩⟩,Y⟩) Z (by exact⟨⟨Z,.inl ⟨Z,Z⟩,.inl ⟨Z,Z⟩,.inl ⟨Z,Z⟩,.inl ⟨Z,Z⟩,Y⟩,Y,Y⟩) (S.fresh Z Z Z Z (L7 ha39) Z Z (.callF (r2:=.c (.own 4 0 a40.length)) (σ'':=[(oE 4 (tO ov)),.dead,.dead,.dead,(oV 1 b9 a40)]) Z Z Z (FnOk.lend [2] (W6 ha40) Z Z Z Z Z Z (by exact⟨.vec,Y⟩) Z (by exact⟨(.live Z .vec),Y⟩) Z Z (by exact⟨(.old Z Z Z),.dead,.dead,.dead,(.new 2 Z Z .vec),Y⟩)) (.u Z Z (.nil (b5 (.e ?_)))))))
  obtain⟨a43,ha43,h⟩:=bind_some h
  refine AWP.G 1 Z (S.lenO Z Z Z (fun hl42=>S.make (f:=intI) ha43 (.val .nil) Z Z Z Z Z Z (.u Z Z (.nil (b5 (.e (.e ?_)))))))
  obtain⟨a47,ha47,h⟩:=bind_some h
  refine AWP.G 3 Z (S.idx ha47 Z Z Z Z (.G 2 Z (S.len Z Z (fun hl50=>.z Z Z (.nil (b5 (.j ?_)))))))
  obtain⟨c6,ho2,h⟩:=bind_some h
  refine AWP.forH ho2 (fun t7 c6=>⟨[(8,.c (row 1 b9 c4)),(11,.c (.own 4 0 a40.length)),(12,.c (.own 5 0 c6.length)),(49,.c (row 3 p8 a47.outcomes)),(50,(cI (a47.outcomes.length:Int))),(51,(cI t7))],[.dead,.dead,.dead,.dead,(oV 1 b9 a40),(oV 1 intI c6)]⟩) (fun _ _=>Z) ?_ ?_ ?_
  ·try dsimp only
   exact Sub.cut ⟨Z,Z,Z,Z,Z,Z,Y⟩ Z ⟨.dead,.dead,.dead,.dead,.vec,.vec,Y⟩ Z
  ·intro t7 c6 o hlot7 hltt7 h
   unfold D0 at h
   try dsimp only at h ⊢
   refine AWP.e (.j (.e ?_))
   obtain⟨a54,ha54,h⟩:=bind_some h
   refine AWP.G 1 Z (S.idx ha54 Z Z Z Z (.G 4 Z (.nil (b5 (.e ?_)))))
   obtain⟨a60,ha60,a62,ha62,h⟩:=b2 h
   refine AWP.G 3 Z (S.idx ha60 Z Z Z Z (.G 1 Z (.U Z Z (.cons (.c (.own Z Z)) (.cons (.c .imm) (.cons (.c (.fn .nil)) .nil))) Z (A7 Z (fun hy=>v8 hy) ha62) Z ?_)))
   refine AOps.G 5 Z (.nil (b5 ?_))
   obtain⟨a67,ha67,a72,ha72,h⟩:=b2 h
   refine AWP.drawEI [8] mixed Z Z Z (b8.D 2 Z Z ?_)
   refine b8.consN Z Z (fun E=>S.idxO ha67 Z Z Z Z Z .N) Z (.consN Z Z (fun E=>S.loadO ha67 Z Z Z Z Z .N) Z ?_)
   refine b8.D 3 Z Z ?_
   refine b8.consN Z Z (fun E=>S.idxO ha72 Z Z Z Z Z .N) Z ?_
   apply b8.consE (v:=.undef);exact Z;exact Z;intro E
   refine S.storeO1 (f:=intI) (a':=w64 (a67+a54.weight)) (q7 ha72) (fun _=>⟨_,Z⟩) Z Z Z Z Z ?_
   exact AOps.nil ⟨Z,Z⟩
   exact Z
   exact Z
   refine b8.done Z ?_ ?_
   ·refine d8.D 2 Z Z ?_
    refine d8.cons Z Z (.go Z Z (fun E=>S.idxO ha67 Z Z Z Z Z .N) (.skip Z .nil)) (.cons Z Z (.go Z Z (fun E=>S.loadO ha67 Z Z Z Z Z .N) (.skip Z .nil)) ?_)
    refine d8.D 3 Z Z ?_
    refine d8.cons Z Z (.go Z Z (fun E=>S.idxO ha72 Z Z Z Z Z .N) (.skip Z .nil)) ?_
    refine d8.D 1 Z Z (d8.nil)
   dsimp only[h9]
   refine d6 (b5 (.O (.add Z Z Z (by omega) (.z Z Z (.nil ?_)))))
   obtain rfl:=oi h
   refine b5 (Sub.cut ⟨Z,Z,(o7 (by first|rfl|simp only[lS])),Z,Z,Z,Y⟩ Z ⟨.dead,.dead,.dead,.dead,.vec,.vec,Y⟩ Z)
  ·intro iz
   try dsimp only
   refine f9 (b5 (.gk 4 Z (.frzV (id:=4) (l:=a40) (env2:=[(6,.c (row 1 b9 a40)),(7,.c (.own 5 0 c6.length))]) (σ2:=[.dead,.dead,.dead,.dead,.dead,(oV 1 intI c6)]) Z Z (by exact⟨⟨_,Z,.inr ⟨_,Z,Z,Z⟩⟩,⟨_,Z,.inl ⟨Z,Z⟩⟩,Y⟩) Z (by exact⟨Y,Y,Y,Y,Y,FrzB.vec,Y⟩) (.frzV (id:=5) (l:=c6) (env2:=[(6,.c (row 1 b9 a40)),(7,(cR c6))]) (σ2:=[.dead,.dead,.dead,.dead,.dead,.dead]) Z Z (by exact⟨⟨_,Z,.inl ⟨Z,Z⟩⟩,⟨_,Z,.inr ⟨_,Z,Z,Z⟩⟩,Y⟩) Z (by exact⟨Y,Y,Y,Y,Y,Y,Y⟩) (.ret ?_)))))
   obtain rfl:=oi h
   exact Done.ret Z Z
theorem open_Reach_ok{ov:d5}{r:(LL)×Bool}(h:at2 ov=some r):e8 prog 80 [.agg (tO ov)] (.tup [.c (row 1 b9 r.1),(cB r.2)]):=by
 unfold e8
 refine FnOk.enter (rs:=[.t 2,.t 3]) func80 Z ntmps80 results80 Z ⟨Y,Y,Y⟩ (by kernel_rfl) Z ?_
 unfold at2 at h
 refine AWP.gk 3 Z (.e ?_)
 obtain⟨a15,ha15,h⟩:=bind_some h
 refine AWP.G 2 Z (S.fresh Z Z Z Z (C6 ha15) Z Z (.frzV (id:=1) (l:=a15) (env2:=[(1,(cP 0 0 0)),(15,(cR a15))]) (σ2:=[(oE 4 (tO ov)),.dead]) Z Z (by exact⟨⟨_,Z,.inl ⟨Z,Z⟩⟩,⟨_,Z,.inr ⟨_,Z,Z,Z⟩⟩,Y⟩) Z (by exact⟨⟨Z,.inl ⟨Z,Z⟩,.inl ⟨Z,Z⟩,.inl ⟨Z,Z⟩,.inl ⟨Z,Z⟩,Y⟩,Y,Y⟩) (S.lit (f:=b9) (l:=[a15]) (ess:=[[row 1 intI a15]]) Z Z Z Z Z Z Z ⟨⟨.inl Z,Y⟩,Y⟩ Z Z Z (.u Z Z (.nil (b5 (.e ?_)))))))
 obtain⟨a19,ha19,h⟩:=bind_some h
 refine AWP.O (W.makeMap Value.string vI Z Z Z (.z Z Z (.U Z Z (.cons (.c (.own Z Z)) .nil) Z (av5 ha19) Z (W.insert (fk:=Value.string) (fv:=vI) (k:=a19) (a:=1) keyStr Z Z Z Z Z (.G 2 Z (.nil (b5 (.e (.gk 1 Z (.j ?_))))))))))
 obtain⟨oo,ho1,h⟩:=bind_some h
 refine AWP.loopS ho1 (fun(c2,c3,atv4)=>⟨[(1,(cP 0 0 0)),(4,.c (.own 2 0 c2.length)),(5,.c (.map 3)),(6,(cI atv4))],[(oE 4 (tO ov)),.dead,(oV 1 b9 c2),(oW Value.string vI c3)]⟩) (fun o e st=>match o with| .inl c5=>e=.exit 0∧Sub [] st ⟨[(4,.c (.own 2 0 c5.length))],[.dead,.dead,(oV 1 b9 c5)]⟩| .inr x=>e=.ret∧Done [.t 2,.t 3] (fun t _=>t=.tup [.c (row 1 b9 x.1),(cB x.2)]) .ret st) ?_ ?_ ?_
 ·try dsimp only
  exact Sub.en Z
 ·intro s o h
  obtain⟨c2,c3,atv4⟩:=s
  unfold av2 at h
  try dsimp only at h ⊢
  refine AWP.e (.gs 2 Z (S.lenO Z Z Z (fun hl23=>.ge 1 Z (.J Z h (fun hc6 h=> ?_) (fun hc6 h=> ?_)))))
  ·refine AWP.skip (b5 (.e (.j (.gs 2 Z (S.len Z Z (fun hl29=>.ge 1 Z (.j ?_)))))))
   obtain⟨oo,ho2,h⟩:=bind_some h
   refine AWP.rngH ho2 (fun t9 (c7,c8)=>⟨[(1,(cP 0 0 0)),(4,.c (.own 2 0 c7.length)),(5,.c (.map 3)),(6,(cI atv4)),(29,(cI (ov.operators.length:Int))),(30,(cI t9))],[(oE 4 (tO ov)),.dead,(oV 1 b9 c7),(oW Value.string vI c8)]⟩) (fun x e st=>e=.ret∧Done [.t 2,.t 3] (fun t _=>t=.tup [.c (row 1 b9 x.1),(cB x.2)]) .ret st) (fun _ _=>Z) ?_ ?_ ?_ ?_
   ·try dsimp only
    exact Sub.en Z
   ·intro t9 s o hlot9 hltt9 h
    obtain⟨c7,c8⟩:=s
    unfold av6 at h
    try dsimp only at h ⊢
    refine AWP.seqF (ab8) o (fun(c10,c11)=>⟨[(1,(cP 0 0 0)),(4,.c (.own 2 0 c10.length)),(5,.c (.map 3)),(6,(cI atv4)),(29,(cI (ov.operators.length:Int))),(30,(cI t9))],[(oE 4 (tO ov)),.dead,(oV 1 b9 c10),(oW Value.string vI c11)]⟩) (fun x h=> ?_) ?_
    ·obtain⟨c10,c11⟩:=x
     unfold ab8 at h
     try dsimp only at h ⊢
     refine AWP.O (.add Z Z Z (by omega) (.z Z Z (.nil ?_)))
     obtain rfl:=oi h
     refine b5 ⟨_,Z,?_⟩
     exact Sub.en Z
    ·refine AWP.j (.gk 2 Z (.e (.e ?_)))
     obtain⟨a36,ha36,a39,ha39,h⟩:=b2 h
     refine AWP.drawI mixed Z (b7.D 3 Z ?_)
     refine b7.consF Z (fun E=>S.idxO ha36 Z Z Z Z Z .N) Z (.consF Z (fun E=>S.loadO ha36 Z Z Z Z Z .N) Z ?_)
     refine b7.D 1 Z ?_
     refine b7.consF Z (fun E=>.q Z Z Z Z (aa5 ha39) Z .N) Z ?_
     refine b7.D 1 Z (b7.done ?_)
     dsimp only[h9]
     refine b5 (.E Z h (fun hc12 h=> ?_) (fun hc12 h=> ?_))
     ·refine AWP.exit (i5 (f9 (b5 ⟨_,h,?_⟩)))
      exact Sub.en Z
     ·refine AWP.skip (b5 (.e ?_))
      obtain⟨a45,ha45,a48,ha48,h⟩:=b2 h
      refine AWP.drawI mixed Z (b7.D 3 Z ?_)
      refine b7.consF Z (fun E=>S.idxO ha45 Z Z Z Z Z .N) Z (.consF Z (fun E=>S.loadO ha45 Z Z Z Z Z .N) Z ?_)
      refine b7.D 1 Z ?_
      refine b7.consF Z (fun E=>.q Z Z Z Z (y6 ha48) Z .N) Z ?_
      refine b7.D 5 Z (b7.done ?_)
      dsimp only[h9]
      refine b5 (.gs 1 Z (S.len Z Z (fun hl52=>.ge 1 Z (.j ?_))))
      obtain⟨oo,ho4,h⟩:=bind_some h
      refine AWP.rngH ho4 (fun t15 (c13,c14)=>⟨[(1,(cP 0 0 0)),(4,.c (.own 2 0 c13.length)),(5,.c (.map 3)),(6,(cI atv4)),(29,(cI (ov.operators.length:Int))),(30,(cI t9)),(51,.c (row 1 b9 a48.1)),(52,(cI (a48.1.length:Int))),(53,(cI t15))],[(oE 4 (tO ov)),.dead,(oV 1 b9 c13),(oW Value.string vI c14)]⟩) (fun x e st=>e=.ret∧Done [.t 2,.t 3] (fun t _=>t=.tup [.c (row 1 b9 x.1),(cB x.2)]) .ret st) (fun _ _=>Z) ?_ ?_ ?_ ?_
      ·try dsimp only
       exact Sub.en Z
      ·intro t15 s o hlot15 hltt15 h
       obtain⟨c13,c14⟩:=s
       unfold av4 at h
       try dsimp only at h ⊢
       refine AWP.seqF (ac2) o (fun(c16,c17)=>⟨[(1,(cP 0 0 0)),(4,.c (.own 2 0 c16.length)),(5,.c (.map 3)),(6,(cI atv4)),(29,(cI (ov.operators.length:Int))),(30,(cI t9)),(51,.c (row 1 b9 a48.1)),(52,(cI (a48.1.length:Int))),(53,(cI t15))],[(oE 4 (tO ov)),.dead,(oV 1 b9 c16),(oW Value.string vI c17)]⟩) (fun x h=> ?_) ?_
       ·obtain⟨c16,c17⟩:=x
        unfold ac2 at h
        try dsimp only at h ⊢
        refine AWP.O (.add Z Z Z (by omega) (.z Z Z (.nil ?_)))
        obtain rfl:=oi h
        refine b5 ⟨_,Z,?_⟩
        exact Sub.en Z
       ·refine AWP.j (.e ?_)
        obtain⟨a55,ha55,h⟩:=bind_some h
        refine AWP.O (S.idx ha55 Z Z Z Z (.G 2 Z (.nil (b5 (.e ?_)))))
        obtain⟨a59,ha59,h⟩:=bind_some h
        refine AWP.G 1 Z (S.lit (f:=b9) (l:=[a55]) (ess:=[[row 1 intI a55]]) Z Z Z Z Z Z Z ⟨⟨.inl Z,Y⟩,Y⟩ Z Z Z (.U Z Z (.cons (.c (.own Z Z)) .nil) Z (av5 ha59) Z (.u Z Z (.nil (b5 (.e (.gs 2 Z (W.lookup (fk:=Value.string) (fv:=vI) (k:=a59) (z:=0) keyStr Z (fun _=>Z) Z Z Z Z ?_))))))))
        refine AOps.ge 1 Z (.J Z h (fun hc18 h=> ?_) (fun hc18 h=> ?_))
        ·refine AWP.exit (i5 (f9 (b5 ⟨_,h,?_⟩)))
         exact Sub.cut ⟨Z,Z,Z,Z,Z,Z,Z,Z,Z,Y⟩ Z ⟨.one Z,.dead,.vec,.one Z,Y⟩ Z
        ·refine AWP.skip (b5 (.e (.gs 1 Z (S.lenO Z Z Z (fun hl65=>.ge 1 Z (.J Z h (fun hc19 h=> ?_) (fun hc19 h=> ?_)))))))
         ·refine AWP.gk 2 Z (.nilrow 1 2 Z (.ret (d9 (i4 (d9 ?_)))))
          obtain rfl:=oi h
          refine d9 ⟨_,Z,Z,?_⟩
          exact Done.ret Z Z
         ·refine AWP.skip (b5 (.gs 2 Z (W.mapUpdate (fk:=Value.string) (fv:=vI) (k:=a59) (a:=1) keyStr Z Z Z Z Z (.ne ?_))))
          obtain⟨a72,ha72,h⟩:=bind_some h
          refine AWP.G 2 Z (S.lit (f:=b9) (l:=[a55]) (ess:=[[row 1 intI a55]]) Z Z Z Z Z Z Z ⟨⟨.inl Z,Y⟩,Y⟩ Z Z Z (S.append (f:=b9) ha72 Z Z Z Z Z Z (.own Z Z) Z Z Z Z (.u Z Z (.nil (d6 (b5 ⟨_,h,?_⟩))))))
          exact(Sub.move (env':=[(1,(cP 0 0 0)),(4,.c (.own 2 0 a72.length)),(5,.c (.map 3)),(6,(cI atv4)),(29,(cI (ov.operators.length:Int))),(30,(cI t9)),(51,.c (row 1 b9 a48.1)),(52,(cI (a48.1.length:Int))),(53,(cI t15))]) (σ':=[(oE 4 (tO ov)),.dead,(oV 1 b9 a72),(oW Value.string vI (mset c14 a59 1)),(oV 1 b9 [a55]),(oV 1 b9 [a55])]) 2 6 Z Z Z ⟨Z,Z,Z,Z,Z,Z,Z,Z,Z,Y⟩ Z ⟨⟨Z,Z⟩,Y,⟨Blk.im_ok _ _ _,i7 Z⟩,⟨Z,Z⟩,⟨Blk.im_ok _ _ _,i7 Z⟩,⟨Blk.im_ok _ _ _,i7 Z⟩,Y⟩).trans (Sub.cut ⟨Z,Z,Z,Z,Z,Z,Z,Z,Z,Y⟩ Z ⟨.one Z,.dead,.vec,.one Z,Y⟩ Z)
      ·intro iz s he
       obtain⟨c13,c14⟩:=s
       subst he
       try dsimp only at h ⊢
       refine f9 (d6 (b5 ⟨_,h,?_⟩))
       exact Sub.en Z
      ·intro x e st he hq
       subst he
       try dsimp only at h hq
       obtain⟨rfl,hs⟩:=hq
       refine⟨_,Sub.refl _ _,?_⟩
       refine i4 (i4 (d9 ?_))
       obtain rfl:=oi h
       refine d9 ⟨_,Z,Z,?_⟩
       exact hs
   ·intro iz s he
    obtain⟨c7,c8⟩:=s
    subst he
    try dsimp only at h ⊢
    refine f9 (d6 (b5 (.G 3 Z (.nil ?_))))
    obtain rfl:=oi h
    refine b5 ⟨_,Z,?_⟩
    exact Sub.en Z
   ·intro x e st he hq
    subst he
    try dsimp only at h hq
    obtain⟨rfl,hs⟩:=hq
    refine⟨_,Sub.refl _ _,?_⟩
    refine i4 (i4 (d9 ?_))
    obtain rfl:=oi h
    refine d9 ⟨_,Z,Z,?_⟩
    exact hs
  ·refine AWP.exit (i5 ?_)
   obtain rfl:=oi h
   refine i5 ⟨_,Z,Z,?_⟩
   exact Sub.cut ⟨Z,Y⟩ Z ⟨.dead,.dead,.vec,Y⟩ Z
 ·intro e s hq
  rcases oo with c5|x
  ·try dsimp only at h hq
   obtain⟨rfl,hs⟩:=hq
   refine⟨_,hs,?_⟩
   refine f9 (b5 (.e ?_))
   obtain⟨a76,ha76,h⟩:=bind_some h
   refine AWP.G 1 Z (.callF (r2:=.c (.own 4 0 a76.length)) (σ'':=[.dead,.dead,.dead,.dead,(oV 1 b9 a76)]) Z Z Z (FnOk.lend [2] (W6 ha76) Z Z Z Z Z Z (by exact⟨.vec,Y⟩) Z (by exact⟨(.live Z .vec),Y⟩) Z Z (by exact⟨.dead,.dead,.dead,.dead,(.new 2 Z Z .vec),Y⟩)) (.G 2 Z (.nil (b5 (.frzV (id:=4) (l:=a76) (env2:=[(2,.c (row 1 b9 a76)),(3,(cB true))]) (σ2:=[.dead,.dead,.dead,.dead,.dead]) Z Z (by exact⟨⟨_,Z,.inr ⟨_,Z,Z,Z⟩⟩,⟨_,Z,.inl ⟨Z,Z⟩⟩,Y⟩) Z (by exact⟨Y,Y,Y,Y,Y,Y⟩) (.ret ?_))))))
   obtain rfl:=oi h
   exact Done.ret Z Z
  ·try dsimp only at h hq
   obtain⟨rfl,hs⟩:=hq
   refine⟨_,Sub.refl _ _,?_⟩
   refine i4 (d9 ?_)
   obtain rfl:=oi h
   exact hs
theorem aq0{ov:d5}{r:(LL)×j8}(h:af6 ov=some r):e8 prog 33 [.agg (tO ov)] (.tup [.c (row 1 b9 r.1),.agg [int r.2.code,int r.2.index]]):=by
 unfold e8
 refine FnOk.enter (rs:=[.t 2,.cell 3 30 2]) func33 Z ntmps33 results33 Z ⟨Y,rv _ Z,Y⟩ (by kernel_rfl) Z ?_
 unfold af6 at h
 refine AWP.gk 3 Z (.e (.e ?_))
 obtain⟨a8,ha8,h⟩:=bind_some h
 refine AWP.G 1 Z (.q Z Z Z Z (an0 ha8) Z (.G 2 Z (.nil (b5 (.gs 2 Z (.neqP Z Z Z Z Z Z Z (.ne (.E Z h (fun hc2 h=> ?_) (fun hc2 h=> ?_)))))))))
 ·refine AWP.e (.drawEI [2] mixed Z Z Z (b8.D 2 Z Z ?_))
  apply b8.consE (v:=.undef);exact Z;exact Z;intro E
  refine W.storeAgg Z Z Z Z Z Z Z .N
  exact Z
  exact Z
  refine b8.done Z ?_ ?_
  ·refine d8.D 3 Z Z (d8.nil)
  dsimp only[h9]
  refine b5 (.nilrow 1 2 Z (.ret (d9 ?_)))
  obtain rfl:=oi h
  exact Done.ret Z Z
 ·refine AWP.skip (b5 (.e ?_))
  obtain⟨a15,ha15,h⟩:=bind_some h
  refine AWP.G 1 Z (.q Z Z Z Z (open_Reach_ok ha15) Z (.G 5 Z (.nil (b5 (.e (.gk 2 Z (.E Z h (fun hc3 h=> ?_) (fun hc3 h=> ?_))))))))
  ·refine AWP.gk 3 Z (.nilrow 1 2 Z (.ret (d9 ?_)))
   obtain rfl:=oi h
   exact Done.ret Z Z
  ·refine AWP.skip (b5 (.gk 4 Z (.ret ?_)))
   obtain rfl:=oi h
   exact Done.ret Z Z
theorem I6{sv:List g9}{fv:g9→Option Bool}{r:Int}{fvfv:FuncId}{cvfv:List C}(hcvfv:C.okL 0 cvfv=true)(hfv:∀{y1:g9} {z:Bool},fv y1=some z→e8 prog fvfv ([.agg [row 1 intI y1.pre,row 3 p8 y1.outcomes,int y1.cost]]++cvfv.map T.c) ((cB z)))(h:u9 sv fv=some r):e8 prog 81 [.c (row 3 d7 sv),.c (.fn fvfv cvfv)] ((cI r)):=by
 unfold e8
 refine FnOk.enter (rs:=[.t 4]) func81 Z ntmps81 results81 Z ⟨Y,Y⟩ (by kernel_rfl) Z ?_
 unfold u9 at h
 refine AWP.gk 1 Z (.e (.gs 1 Z (S.len Z Z (fun hl7=>.ge 1 Z (.j ?_)))))
 obtain⟨oo,ho1,h⟩:=bind_some h
 refine AWP.rngH ho1 (fun t3 _=>⟨[(0,.c (row 3 d7 sv)),(1,.c (.fn fvfv cvfv)),(7,(cI (sv.length:Int))),(8,(cI t3))],[]⟩) (fun x e st=>e=.ret∧Done [.t 4] (fun t _=>t=(cI x)) .ret st) (fun _ _=>Z) ?_ ?_ ?_ ?_
 ·try dsimp only
  exact Sub.en Z
 ·intro t3 s o hlot3 hltt3 h
  unfold z7 at h
  try dsimp only at h ⊢
  refine AWP.e (.j (.gk 2 Z (.e ?_)))
  obtain⟨a14,ha14,a16,ha16,h⟩:=b2 h
  refine AWP.G 3 Z (S.idx ha14 Z Z Z Z (.G 1 Z (.q Z Z (ae6 Z hcvfv) Z (hfv ha16) Z (.nil (b5 (.E Z h (fun hc4 h=> ?_) (fun hc4 h=> ?_)))))))
  ·refine AWP.gk 2 Z (.ret (i4 (d9 ?_)))
   obtain rfl:=oi h
   refine d9 ⟨_,Z,Z,?_⟩
   exact Done.ret Z Z
  ·refine AWP.skip (d6 (b5 (.O (.add Z Z Z (by omega) (.z Z Z (.nil ?_))))))
   obtain rfl:=oi h
   refine b5 ⟨_,Z,?_⟩
   exact Sub.en Z
 ·intro iz _ he
  subst he
  try dsimp only at h ⊢
  refine f9 (b5 (.gk 1 Z (.ret ?_)))
  obtain rfl:=oi h
  exact Done.ret Z Z
 ·intro x e st he hq
  subst he
  try dsimp only at h hq
  obtain⟨rfl,hs⟩:=hq
  refine⟨_,Sub.refl _ _,?_⟩
  refine i4 (d9 ?_)
  obtain rfl:=oi h
  exact hs
theorem H4{sv:List g9}{fv:g9→Option Bool}{r:Bool}{fvfv:FuncId}{cvfv:List C}(hcvfv:C.okL 0 cvfv=true)(hfv:∀{y1:g9} {z:Bool},fv y1=some z→e8 prog fvfv ([.agg [row 1 intI y1.pre,row 3 p8 y1.outcomes,int y1.cost]]++cvfv.map T.c) ((cB z)))(h:u5 sv fv=some r):e8 prog 34 [.c (row 3 d7 sv),.c (.fn fvfv cvfv)] ((cB r)):=by
 unfold e8
 refine FnOk.enter (rs:=[.t 4]) func34 Z ntmps34 results34 Z ⟨Y,Y⟩ (by kernel_rfl) Z ?_
 unfold u5 at h
 refine AWP.gk 1 Z (.e ?_)
 obtain⟨a7,ha7,h⟩:=bind_some h
 refine AWP.G 2 Z (.q Z Z (by simp[T.okL,T.ok,C.ok,C.okL,hcvfv]) Z (I6 hcvfv hfv ha7) Z (.G 2 Z (.nil (b5 (.ret ?_)))))
 obtain rfl:=oi h
 exact Done.ret Z Z
theorem az0{xv:g9}{r:Bool}(h:aj6 xv=some r):e8 prog 35 [.agg [row 1 intI xv.pre,row 3 p8 xv.outcomes,int xv.cost]] ((cB r)):=by
 unfold e8
 refine FnOk.enter (rs:=[.t 2]) func35 Z ntmps35 results35 Z ⟨Y,Y⟩ (by kernel_rfl) Z ?_
 unfold aj6 at h
 refine AWP.gk 2 Z (.gk 4 Z (.ret ?_))
 obtain rfl:=oi h
 exact Done.ret Z Z
theorem p9{all:LL}{sv:Li}{r:Int}(h:y8 all sv=some r):e8 prog 40 [.c (row 1 b9 all),(cR sv)] ((cI r)):=by
 unfold e8
 refine FnOk.enter (rs:=[.t 4]) func40 Z ntmps40 results40 Z ⟨Y,Y⟩ (by kernel_rfl) Z ?_
 unfold y8 at h
 refine AWP.gk 1 Z (.e ?_)
 obtain⟨a10,ha10,h⟩:=bind_some h
 refine AWP.G 2 Z (.q Z Z Z Z (A7 Z (fun hy=>v8 hy) ha10) Z ?_)
 refine AOps.G 5 Z (.nil (b5 (.gk 2 Z (.ret ?_))))
 obtain rfl:=oi h
 exact Done.ret Z Z
theorem cyclic_arcs_ok{ov:d5}{all:LL}{r:(List (LL))}(h:ar1 ov all=some r):n7 prog 82 [.agg (tO ov),.c (row 1 b9 all)] 1 (List.map D6 r):=by
 unfold n7
 refine FnOk.enter (rs:=[.t 4]) func82 Z ntmps82 results82 Z ⟨Y,Y⟩ (by kernel_rfl) Z ?_
 unfold ar1 at h
 refine AWP.gk 2 Z (.e ?_)
 obtain⟨a15,ha15,h⟩:=bind_some h
 refine AWP.G 1 Z (S.len Z Z (fun hl14=>S.make (f:=D6) ha15 (.row .nil) Z Z Z Z Z Z (.u Z Z (.nil (b5 (.e (.gs 1 Z (S.len Z Z (fun hl17=>.ge 1 Z (.j ?_))))))))))
 obtain⟨c3,ho1,h⟩:=bind_some h
 refine AWP.forH ho1 (fun t4 c3=>⟨[(1,.c (row 1 b9 all)),(2,(cP 0 0 0)),(5,.c (.own 1 0 c3.length)),(16,.c (row 1 b9 all)),(17,(cI (all.length:Int))),(18,(cI t4))],[(oE 4 (tO ov)),(oV 1 D6 c3)]⟩) (fun _ _=>Z) ?_ ?_ ?_
 ·try dsimp only
  exact Sub.en Z
 ·intro t4 c3 o hlot4 hltt4 h
  unfold as5 at h
  try dsimp only at h ⊢
  refine AWP.e (.j (.e ?_))
  obtain⟨a21,ha21,h⟩:=bind_some h
  refine AWP.G 1 Z (S.idx ha21 Z Z Z Z (.G 3 Z (.nil (b5 (.e ?_)))))
  obtain⟨a28,ha28,a29,ha29,h⟩:=b2 h
  refine AWP.G 4 Z (S.len Z Z (fun hl27=>S.makeM 1 intI ha28 Z Z Z Z Z (S.idxO ha29 Z Z Z Z Z (S.storeS (f:=D6) (q7 ha29) (fun _=>⟨_,Z⟩) Z Z Z Z ?_))))
  refine AOps.nil (b5 (.gs 2 Z (S.len Z Z (fun hl32=>.ge 1 Z (.j ?_)))))
  obtain⟨c5,ho2,h⟩:=bind_some h
  refine AWP.forH ho2 (fun t6 c5=>⟨[(1,.c (row 1 b9 all)),(2,(cP 0 0 0)),(5,.c (.own 1 0 c3.length)),(6,(cI t4)),(7,(cR a21)),(16,.c (row 1 b9 all)),(17,(cI (all.length:Int))),(18,(cI t4)),(32,(cI (ov.operators.length:Int))),(33,(cI t6))],[(oE 4 (tO ov)),.one (vecS D6 c3 t4.toNat 2 c5.length),mat (2,[]) 1 intI c5]⟩) (fun _ _=>Z) ?_ ?_ ?_
  ·try dsimp only
   exact Sub.en Z
  ·intro t6 c5 o hlot6 hltt6 h
   unfold ar6 at h
   try dsimp only at h ⊢
   obtain⟨c7,hx8,h⟩:=bind_some h
   refine AWP.seqJ (⟨[(1,.c (row 1 b9 all)),(2,(cP 0 0 0)),(5,.c (.own 1 0 c3.length)),(6,(cI t4)),(7,(cR a21)),(16,.c (row 1 b9 all)),(17,(cI (all.length:Int))),(18,(cI t4)),(32,(cI (ov.operators.length:Int))),(33,(cI t6))],[(oE 4 (tO ov)),.one (vecS D6 c3 t4.toNat 2 c7.length),mat (2,[]) 1 intI c7]⟩) ?_ ?_
   ·refine AWP.j (.gk 2 Z (.e (.e ?_)))
    obtain⟨a39,ha39,hx8⟩:=bind_some hx8
    refine AWP.G 3 Z (.q Z Z Z Z (aa5 ha39) Z (.not Z Z (.nil (b5 (.E Z hx8 (fun hc9 hx8=> ?_) (fun hc9 hx8=> ?_))))))
    ·refine AWP.exit (i5 (f9 ?_))
     obtain rfl:=oi hx8
     refine b5 (Sub.en Z)
    ·refine AWP.skip (b5 (.e ?_))
     obtain⟨a45,ha45,hx8⟩:=bind_some hx8
     refine AWP.G 3 Z (.q Z Z Z Z (y6 ha45) Z (.G 5 Z (.nil (b5 (.gs 1 Z (S.len Z Z (fun hl49=>.ge 1 Z (.j ?_))))))))
     obtain⟨c10,ho3,hx8⟩:=bind_some hx8
     refine AWP.forH ho3 (fun t11 c10=>⟨[(1,.c (row 1 b9 all)),(2,(cP 0 0 0)),(5,.c (.own 1 0 c3.length)),(6,(cI t4)),(7,(cR a21)),(8,(cI t6)),(16,.c (row 1 b9 all)),(17,(cI (all.length:Int))),(18,(cI t4)),(32,(cI (ov.operators.length:Int))),(33,(cI t6)),(48,.c (row 1 b9 a45.1)),(49,(cI (a45.1.length:Int))),(50,(cI t11))],[(oE 4 (tO ov)),.one (vecS D6 c3 t4.toNat 2 c10.length),mat (2,[]) 1 intI c10]⟩) (fun _ _=>Z) ?_ ?_ ?_
     ·try dsimp only
      exact Sub.en Z
     ·intro t11 c10 o hlot11 hltt11 h
      unfold as2 at h
      try dsimp only at h ⊢
      refine AWP.e (.j (.e ?_))
      obtain⟨a52,ha52,h⟩:=bind_some h
      refine AWP.O (S.idx ha52 Z Z Z Z (.G 2 Z (.nil (b5 ?_))))
      obtain⟨a64,ha64,a68,ha68,a70,ha70,h⟩:=b3 h
      obtain⟨a71,ha71,h⟩:=bind_some h
      refine AWP.drawEI [15,16,18] mixed Z Z Z (b8.D 2 Z Z ?_)
      refine b8.consN Z Z (fun E=>S.idxS (q7 ha29) (ix_pos ha29) Z Z Z Z Z .N) Z (.consN Z Z (fun E=>S.loadS Z (q7 ha29) Z Z Z .N) Z ?_)
      refine b8.D 3 Z Z ?_
      refine b8.consN Z Z (fun E=>S.idxS (q7 ha29) (ix_pos ha29) Z Z Z Z Z .N) Z (.consN Z Z (fun E=>S.loadS Z (q7 ha29) Z Z Z .N) Z ?_)
      refine b8.D 1 Z Z ?_
      refine b8.consN Z Z (fun E=>S.idxH ha64 Z Z Z (by simp) Z Z .N) Z (.consN Z Z (fun E=>S.loadM ha64 Z Z Z Z .N) Z ?_)
      refine b8.D 2 Z Z ?_
      refine b8.consN Z Z (fun E=>.q Z Z Z Z (p9 ha68) Z .N) Z ?_
      apply b8.consE;exact Z;exact Z;intro E
      refine S.lit (f:=intI) (l:=[a68]) (ess:=[[int a68]]) Z Z Z Z Z Z Z ⟨⟨.inl Z,Y⟩,Y⟩ Z Z Z .N
      exact Z
      exact Z
      apply b8.consE;exact Z;exact Z;intro E
      refine S.appendR (f:=intI) ha70 (L8 ha64).2 Z Z Z Z Z Z (.own Z Z) Z Z Z Z .N
      exact Z
      exact Z
      refine b8.consN Z Z (fun E=>S.idxH ha71 Z Z Z (by simp) Z Z .N) Z ?_
      apply b8.consE (v:=.undef);exact Z;exact Z;intro E
      refine S.storeHD (L8 ha71).2 Z Z Z Z .N
      exact Z
      exact Z
      refine b8.done Z ?_ ?_
      ·refine d8.D 2 Z Z ?_
       refine d8.cons Z Z (.go Z Z (fun E=>S.idxS (q7 ha29) (ix_pos ha29) Z Z Z Z Z .N) (.go Z Z (fun E=>S.idxS (q7 ha29) (ix_pos ha29) Z Z Z Z Z .N) (.go Z Z (fun E=>S.idxS (q7 ha29) (ix_pos ha29) Z Z Z Z Z .N) (.skip Z .nil)))) (.cons Z Z (.go Z Z (fun E=>S.loadS Z (q7 ha29) Z Z Z .N) (.go Z Z (fun E=>S.loadS Z (q7 ha29) Z Z Z .N) (.go Z Z (fun E=>S.loadS Z (q7 ha29) Z Z Z .N) (.skip Z .nil)))) ?_)
       refine d8.D 3 Z Z ?_
       refine d8.cons Z Z (.go Z Z (fun E=>S.idxS (q7 ha29) (ix_pos ha29) Z Z Z Z Z .N) (.go Z Z (fun E=>S.idxS (q7 ha29) (ix_pos ha29) Z Z Z Z Z .N) (.skip Z (.skip Z .nil)))) (.cons Z Z (.go Z Z (fun E=>S.loadS Z (q7 ha29) Z Z Z .N) (.go Z Z (fun E=>S.loadS Z (q7 ha29) Z Z Z .N) (.skip Z (.skip Z .nil)))) ?_)
       refine d8.D 1 Z Z ?_
       refine d8.cons Z Z (.go Z Z (fun E=>S.idxH ha64 Z Z Z (by simp) Z Z .N) (.go Z Z (fun E=>S.idxH ha64 Z Z Z (by simp) Z Z .N) (.skip Z (.skip Z .nil)))) (.cons Z Z (.go Z Z (fun E=>S.loadM ha64 Z Z Z Z .N) (.go Z Z (fun E=>S.loadM ha64 Z Z Z Z .N) (.skip Z (.skip Z .nil)))) ?_)
       refine d8.D 2 Z Z ?_
       refine d8.cons Z Z (.go Z Z (fun E=>.q Z Z Z Z (p9 ha68) Z .N) (.skip Z (.skip Z (.skip Z .nil)))) ?_
       refine d8.D 2 Z Z ?_
       refine d8.cons Z Z ?_ ?_
       refine i6.skip Z (i6.skip Z ?_)
       refine i6.go Z Z (fun E=>S.idxH ha71 Z Z Z (by simp) Z Z .N) ?_
       refine i6.skip Z (i6.nil)
       refine d8.D 1 Z Z (d8.nil)
      dsimp only[h9]
      refine d6 (b5 (.moveR (k:=1) (f:=intI) (M:=c10) (env':=[(1,.c (row 1 b9 all)),(2,(cP 0 0 0)),(5,.c (.own 1 0 c3.length)),(6,(cI t4)),(7,(cR a21)),(8,(cI t6)),(16,.c (row 1 b9 all)),(17,(cI (all.length:Int))),(18,(cI t4)),(32,(cI (ov.operators.length:Int))),(33,(cI t6)),(48,.c (row 1 b9 a45.1)),(49,(cI (a45.1.length:Int))),(50,(cI t11))]) (σ':=[(oE 4 (tO ov)),.one (vecS D6 c3 t4.toNat 2 c10.length),mat (2,[]) 1 intI (c10.set t6.toNat a70),(oV 1 intI [a68])]) (r:=2) (s:=4) (p:=t6.toNat) (matSD_at Z) (L8 ha71).2 Z Z Z Z Z (.inl Z) ⟨.one Z Z,.one (vs_ok Z) (vs_rl _),.self,.vec,Y⟩ ⟨Z,Z,Z,Z,Z,Z,Z,Z,Z,Z,Z,Z,Z,Z,Y⟩ Z Z (.O (.add Z Z Z (by omega) (.z Z Z (.nil ?_))))))
      obtain rfl:=oi h
      refine b5 (Sub.cut ⟨Z,Z,Z,Z,Z,Z,Z,Z,Z,Z,Z,Z,Z,Z,Y⟩ Z ⟨.one Z,(.eq (vs_ok Z) (by first|rfl|simp only[lS])),.mat Z,Y⟩ Z)
     ·intro iz
      try dsimp only
      refine f9 (d6 ?_)
      obtain rfl:=oi hx8
      refine b5 (Sub.en Z)
   ·refine AWP.O (.add Z Z Z (by omega) (.z Z Z (.nil ?_)))
    obtain rfl:=oi h
    refine b5 (Sub.en Z)
  ·intro iz
   try dsimp only
   refine f9 (d6 (b5 (.O (.add Z Z Z (by omega) (.z Z Z (.nil ?_))))))
   obtain rfl:=oi h
   refine b5 ((Sub.matV' (k:=1) (f:=intI) (env':=[(1,.c (row 1 b9 all)),(2,(cP 0 0 0)),(5,.c (.own 1 0 c3.length)),(16,.c (row 1 b9 all)),(17,(cI (all.length:Int))),(18,(cI (t4+1)))]) (σ':=[(oE 4 (tO ov)),.one (vecS D6 c3 t4.toNat 2 c5.length),(oV 1 b9 c5)]) 2 Z ⟨Z,Z,Z,Z,Z,Z,Y⟩ Z (by exact⟨.one (fun _=>Z),.one (fun _=>vs_rl _),.self,Y⟩) Z Z).trans ((Sub.frzW (id:=2) (M:=c5) (env2:=[(1,.c (row 1 b9 all)),(2,(cP 0 0 0)),(5,.c (.own 1 0 c3.length)),(16,.c (row 1 b9 all)),(17,(cI (all.length:Int))),(18,(cI (t4+1)))]) (σ2:=[(oE 4 (tO ov)),(oV 1 D6 (c3.set t4.toNat c5)),.dead]) Z Z (by exact⟨⟨_,Z,.inl ⟨Z,Z⟩⟩,⟨_,Z,.inl ⟨Z,Z⟩⟩,⟨_,Z,.inl ⟨Z,Z⟩⟩,⟨_,Z,.inl ⟨Z,Z⟩⟩,⟨_,Z,.inl ⟨Z,Z⟩⟩,⟨_,Z,.inl ⟨Z,Z⟩⟩,Y⟩) Z (by exact⟨.old ⟨Z,.inl ⟨Z,Z⟩,.inl ⟨Z,Z⟩,.inl ⟨Z,Z⟩,.inl ⟨Z,Z⟩,Y⟩,(.vs (vs_frz Z Z)),.old (Y),Y⟩)).trans (Sub.cut ⟨Z,Z,(o7 (by first|rfl|simp only[lS])),Z,Z,Z,Y⟩ Z ⟨.one Z,.vec,Y⟩ Z)))
 ·intro iz
  try dsimp only
  refine f9 (b5 (.gk 2 Z (.ret ?_)))
  obtain rfl:=oi h
  exact Done.ret Z (Fresh.mk Z Z)
theorem aw9{iv:Int}{c2:Li}{r:Bool}(h:af2 iv c2=some r):e8 prog 144 [(cI iv),.c (.imm (.ipt [.sl 1 (List.map intI c2)]))] ((cB r)):=by
 unfold e8
 refine FnOk.enter (rs:=[.t 3]) func144 Z ntmps144 results144 Z ⟨Y,Y⟩ (by kernel_rfl) Z ?_
 unfold af2 at h
 refine AWP.gk 1 Z (.e ?_)
 obtain⟨a6,ha6,h⟩:=bind_some h
 refine AWP.G 2 Z (S.idx ha6 Z Z Z Z (.G 3 Z (.nil (b5 (.ret ?_)))))
 obtain rfl:=oi h
 exact Done.ret Z Z
theorem an4{l:Li}{safe:Li}{r:Bool}(h:aj8 l safe=some r):e8 prog 122 [(cR l),(cR safe)] ((cB r)):=by
 unfold e8
 refine FnOk.enter (rs:=[.t 4]) func122 Z ntmps122 results122 Z ⟨Y,Y⟩ (by kernel_rfl) Z ?_
 unfold aj8 at h
 refine AWP.gk 2 Z ?_
 obtain⟨t3,hx4,h⟩:=bind_some h
 refine AWP.seqJ (⟨[(4,(cB t3))],[]⟩) ?_ ?_
 ·rcases bft (decide (0<(l.length:Int))) with hb5|hb5
  ·replace hx4:=F8 hb5 hx4
   obtain⟨a11,ha11,hx4⟩:=bind_some hx4
   refine AWP.G 1 Z (S.len Z Z (fun hl6=>.G 2 Z (.K Z Z hb5 (.G 1 Z (.F Z Z Z Z (.aa Z Z ?_))))))
   refine AOps.F Z Z Z Z ?_;refine AOps.U Z Z (.cons (.c .imm) (.cons (.c (.fn (.cons (.ptr (es:=[.sl 1 (List.map intI safe)]) Z Z (.cons .imm .nil)) .nil))) .nil)) Z (F3 Z (fun hy=>aw9 hy) ha11) Z ?_
   refine AOps.G 3 Z (.nil ?_)
   obtain rfl:=oi hx4
   refine b5 (Sub.cut ⟨Z,Y⟩ Z Y Z)
  ·replace hx4:=F1 hb5 hx4
   refine AWP.G 1 Z (S.len Z Z (fun hl6=>.G 2 Z (.K Z Z hb5 (.G 6 Z (.nil ?_)))))
   obtain rfl:=oi hx4
   refine b5 (Sub.cut ⟨Z,Y⟩ Z Y Z)
 ·refine AWP.ret ?_
  obtain rfl:=oi h
  exact Done.ret Z Z
theorem as0{kv:Int}{c2:Li}{c3:Int}{r:Bool}(h:W4 kv c2 c3=some r):e8 prog 124 [(cI kv),.c (.imm (.ipt [.sl 1 (List.map intI c2)])),.c (.imm (.ipt [.val (.int .i64 c3)]))] ((cB r)):=by
 unfold e8
 refine FnOk.enter (rs:=[.t 4]) func124 Z ntmps124 results124 Z ⟨Y,Y⟩ (by kernel_rfl) Z ?_
 unfold W4 at h
 refine AWP.gk 1 Z (.e ?_)
 obtain⟨a7,ha7,h⟩:=bind_some h
 refine AWP.drawI mixed Z (b7.D 2 Z ?_)
 refine b7.consF Z (fun E=>S.idx ha7 Z Z Z Z .N) Z ?_
 refine b7.D 5 Z (b7.done ?_)
 dsimp only[h9]
 refine b5 (.ret ?_)
 obtain rfl:=oi h
 exact Done.ret Z Z
theorem aw5{l:Li}{c2:Li}{c3:Li}{c4:Int}{r:Bool}(h:ac7 l c2 c3 c4=some r):e8 prog 121 [(cR l),.c (.imm (.ipt [.sl 1 (List.map intI c2)])),.c (.imm (.ipt [.sl 1 (List.map intI c3)])),.c (.imm (.ipt [.val (.int .i64 c4)]))] ((cB r)):=by
 unfold e8
 refine FnOk.enter (rs:=[.t 5]) func121 Z ntmps121 results121 Z ⟨Y,Y⟩ (by kernel_rfl) Z ?_
 unfold ac7 at h
 refine AWP.gk 1 Z ?_
 obtain⟨t2,hx3,h⟩:=bind_some h
 refine AWP.seqJ (⟨[(5,(cB t2))],[]⟩) ?_ ?_
 ·obtain⟨a8,ha8,hx3⟩:=bind_some hx3
  rcases bft (a8) with hb4|hb4
  ·replace hx3:=B2 hb4 hx3
   obtain⟨a12,ha12,hx3⟩:=bind_some hx3
   refine AWP.G 2 Z (.q Z Z Z Z (an4 ha8) Z (.z Z Z (.K Z Z hb4 (.G 1 Z (.F Z Z Z Z (.aa Z Z ?_))))))
   refine AOps.F Z Z Z Z ?_;refine AOps.q Z Z Z Z (F3 Z (fun hy=>as0 hy) ha12) Z ?_
   refine AOps.G 2 Z (.nil ?_)
   obtain rfl:=oi hx3
   refine b5 (Sub.en Z)
  ·replace hx3:=B3 hb4 hx3
   refine AWP.G 2 Z (.q Z Z Z Z (an4 ha8) Z (.z Z Z (.K Z Z hb4 (.G 5 Z (.nil ?_)))))
   obtain rfl:=oi hx3
   refine b5 (Sub.en Z)
 ·refine AWP.ret ?_
  obtain rfl:=oi h
  exact Done.ret Z Z
theorem K1{sv:LL}{fv:Li→Option Bool}{r:Int}{fvfv:FuncId}{cvfv:List C}(hcvfv:C.okL 0 cvfv=true)(hfv:∀{y1:Li} {z:Bool},fv y1=some z→e8 prog fvfv ([(cR y1)]++cvfv.map T.c) ((cB z)))(h:w5 sv fv=some r):e8 prog 85 [.c (row 1 b9 sv),.c (.fn fvfv cvfv)] ((cI r)):=by
 unfold e8
 refine FnOk.enter (rs:=[.t 4]) func85 Z ntmps85 results85 Z ⟨Y,Y⟩ (by kernel_rfl) Z ?_
 unfold w5 at h
 refine AWP.gk 1 Z (.e (.gs 1 Z (S.len Z Z (fun hl7=>.ge 1 Z (.j ?_)))))
 obtain⟨oo,ho1,h⟩:=bind_some h
 refine AWP.rngH ho1 (fun t3 _=>⟨[(0,.c (row 1 b9 sv)),(1,.c (.fn fvfv cvfv)),(7,(cI (sv.length:Int))),(8,(cI t3))],[]⟩) (fun x e st=>e=.ret∧Done [.t 4] (fun t _=>t=(cI x)) .ret st) (fun _ _=>Z) ?_ ?_ ?_ ?_
 ·try dsimp only
  exact Sub.en Z
 ·intro t3 s o hlot3 hltt3 h
  unfold x6 at h
  try dsimp only at h ⊢
  refine AWP.e (.j (.gk 2 Z (.e ?_)))
  obtain⟨a14,ha14,a16,ha16,h⟩:=b2 h
  refine AWP.G 3 Z (S.idx ha14 Z Z Z Z (.G 1 Z (.q Z Z (ae6 Z hcvfv) Z (hfv ha16) Z (.nil (b5 (.E Z h (fun hc4 h=> ?_) (fun hc4 h=> ?_)))))))
  ·refine AWP.gk 2 Z (.ret (i4 (d9 ?_)))
   obtain rfl:=oi h
   refine d9 ⟨_,Z,Z,?_⟩
   exact Done.ret Z Z
  ·refine AWP.skip (d6 (b5 (.O (.add Z Z Z (by omega) (.z Z Z (.nil ?_))))))
   obtain rfl:=oi h
   refine b5 ⟨_,Z,?_⟩
   exact Sub.en Z
 ·intro iz _ he
  subst he
  try dsimp only at h ⊢
  refine f9 (b5 (.gk 1 Z (.ret ?_)))
  obtain rfl:=oi h
  exact Done.ret Z Z
 ·intro x e st he hq
  subst he
  try dsimp only at h hq
  obtain⟨rfl,hs⟩:=hq
  refine⟨_,Sub.refl _ _,?_⟩
  refine i4 (d9 ?_)
  obtain rfl:=oi h
  exact hs
theorem Q2{sv:LL}{fv:Li→Option Bool}{r:Bool}{fvfv:FuncId}{cvfv:List C}(hcvfv:C.okL 0 cvfv=true)(hfv:∀{y1:Li} {z:Bool},fv y1=some z→e8 prog fvfv ([(cR y1)]++cvfv.map T.c) ((cB z)))(h:x7 sv fv=some r):e8 prog 102 [.c (row 1 b9 sv),.c (.fn fvfv cvfv)] ((cB r)):=by
 unfold e8
 refine FnOk.enter (rs:=[.t 4]) func102 Z ntmps102 results102 Z ⟨Y,Y⟩ (by kernel_rfl) Z ?_
 unfold x7 at h
 refine AWP.gk 1 Z (.e ?_)
 obtain⟨a7,ha7,h⟩:=bind_some h
 refine AWP.G 2 Z (.q Z Z (by simp[T.okL,T.ok,C.ok,C.okL,hcvfv]) Z (K1 hcvfv hfv ha7) Z (.G 2 Z (.nil (b5 (.ret ?_)))))
 obtain rfl:=oi h
 exact Done.ret Z Z
theorem ay4{ov:d5}{all:LL}{nextv:List (LL)}{safe:Li}{r:Li}(h:ah6 ov all nextv safe=some r):n7 prog 84 [.agg (tO ov),.c (row 1 b9 all),.c (row 1 D6 nextv),(cR safe)] 1 (List.map intI r):=by
 unfold n7
 refine FnOk.enter (rs:=[.t 8]) func84 Z ntmps84 results84 Z ⟨Y,Y⟩ (by kernel_rfl) Z ?_
 unfold ah6 at h
 refine AWP.gk 3 Z (.e ?_)
 obtain⟨a17,ha17,h⟩:=bind_some h
 refine AWP.O (S.lit (f:=intI) (l:=[-1]) (ess:=[[int (-1)]]) Z Z Z Z Z Z Z ⟨⟨.inl Z,Y⟩,Y⟩ Z Z Z (.z Z Z (S.len Z Z (fun hl16=>S.freshL (fun _=>Z) Z Z (.cons (.c (.own Z Z)) (.cons (.c .imm) .nil)) Z (X5 ha17) Z Z ?_))))
 refine AOps.G 2 Z (.nil (b5 (.e (.gs 1 Z (S.len Z Z (fun hl19=>.ge 1 Z (.j ?_)))))))
 obtain⟨c5,ho1,h⟩:=bind_some h
 refine AWP.forH ho1 (fun t6 c5=>⟨[(1,.c (row 1 b9 all)),(2,.c (row 1 D6 nextv)),(4,(cP 0 0 0)),(7,(cP 1 0 0)),(9,(cP 4 0 0)),(18,.c (row 1 b9 all)),(19,(cI (all.length:Int))),(20,(cI t6))],[(oE 4 (tO ov)),(o1 (row 1 intI safe)),.dead,(oV 1 intI c5),(o1 (.own 3 0 c5.length))]⟩) (fun _ _=>Z) ?_ ?_ ?_
 ·try dsimp only
  exact Sub.cut ⟨Z,Z,Z,Z,Z,Z,Z,Z,Y⟩ Z ⟨.one Z,.one Z,.dead,.vec,.one Z,Y⟩ Z
 ·intro t6 c5 o hlot6 hltt6 h
  unfold ak3 at h
  try dsimp only at h ⊢
  obtain⟨c7,hx8,h⟩:=bind_some h
  refine AWP.seqJ (⟨[(1,.c (row 1 b9 all)),(2,.c (row 1 D6 nextv)),(4,(cP 0 0 0)),(7,(cP 1 0 0)),(9,(cP 4 0 0)),(18,.c (row 1 b9 all)),(19,(cI (all.length:Int))),(20,(cI t6))],[(oE 4 (tO ov)),(o1 (row 1 intI safe)),.dead,(oV 1 intI c7),(o1 (.own 3 0 c7.length))]⟩) ?_ ?_
  ·refine AWP.j (.e ?_)
   obtain⟨a23,ha23,hx8⟩:=bind_some hx8
   refine AWP.G 1 Z (S.idx ha23 Z Z Z Z (.G 3 Z (.nil (b5 (.e ?_)))))
   obtain⟨a28,ha28,hx8⟩:=bind_some hx8
   refine AWP.G 3 Z (.q Z Z Z Z (m8 ha28) Z (.nil (b5 (.E Z hx8 (fun hc9 hx8=> ?_) (fun hc9 hx8=> ?_)))))
   ·obtain⟨a31,ha31,hx8⟩:=bind_some hx8
    refine AWP.G 2 Z (S.idxO ha31 Z Z Z Z Z (S.storeO1 (f:=intI) (a':=0) (q7 ha31) (fun _=>⟨_,Z⟩) Z Z Z Z Z ?_))
    refine AOps.nil (d6 ?_)
    obtain rfl:=oi hx8
    refine b5 ?_
    exact Sub.cut ⟨Z,Z,Z,Z,Z,Z,Z,Z,Y⟩ Z ⟨.one Z,.one Z,.dead,.vec,(.eq Z (by first|rfl|(simp only[lS];done))),Y⟩ Z
   ·refine AWP.skip (d6 ?_)
    obtain rfl:=oi hx8
    refine b5 (Sub.en Z)
  ·refine AWP.O (.add Z Z Z (by omega) (.z Z Z (.nil ?_)))
   obtain rfl:=oi h
   refine b5 (Sub.en Z)
 ·intro iz
  try dsimp only
  refine f9 (b5 (.e (.gk 2 Z (.j ?_))))
  obtain⟨c12,ho2,h⟩:=bind_some h
  refine AWP.loopS ho2 (fun(c10,c11)=>⟨[(1,.c (row 1 b9 all)),(2,.c (row 1 D6 nextv)),(7,(cP 1 0 0)),(9,(cP 4 0 0)),(12,(cP 5 0 0))],[.dead,(o1 (row 1 intI safe)),.dead,(oV 1 intI c10),(o1 (.own 3 0 c10.length)),(o1 (int c11))]⟩) (fun c12 e st=>e=.exit 2∧Sub [] st ⟨[(9,(cP 4 0 0))],[.dead,.dead,.dead,(oV 1 intI c12),(o1 (.own 3 0 c12.length))]⟩) ?_ ?_ ?_
  ·try dsimp only
   exact Sub.cut ⟨Z,Z,Z,Z,Z,Y⟩ Z ⟨.dead,.one Z,.dead,.vec,.one Z,.one Z,Y⟩ Z
  ·intro s o h
   obtain⟨c10,c11⟩:=s
   unfold ak5 at h
   try dsimp only at h ⊢
   refine AWP.e (.gs 2 Z (S.len Z Z (fun hl35=>.ge 1 Z (.J Z h (fun hc13 h=> ?_) (fun hc13 h=> ?_)))))
   ·refine AWP.skip (b5 (.e (.j (.gs 1 Z (S.len Z Z (fun hl40=>.ge 1 Z (.j ?_)))))))
    obtain⟨c14,ho3,h⟩:=bind_some h
    refine AWP.forH ho3 (fun t15 c14=>⟨[(1,.c (row 1 b9 all)),(2,.c (row 1 D6 nextv)),(7,(cP 1 0 0)),(9,(cP 4 0 0)),(12,(cP 5 0 0)),(40,(cI (all.length:Int))),(41,(cI t15))],[.dead,(o1 (row 1 intI safe)),.dead,(oV 1 intI c14),(o1 (.own 3 0 c14.length)),(o1 (int c11))]⟩) (fun _ _=>Z) ?_ ?_ ?_
    ·try dsimp only
     exact Sub.en Z
    ·intro t15 c14 o hlot15 hltt15 h
     unfold ak0 at h
     try dsimp only at h ⊢
     obtain⟨c16,hx17,h⟩:=bind_some h
     refine AWP.seqJ (⟨[(1,.c (row 1 b9 all)),(2,.c (row 1 D6 nextv)),(7,(cP 1 0 0)),(9,(cP 4 0 0)),(12,(cP 5 0 0)),(40,(cI (all.length:Int))),(41,(cI t15))],[.dead,(o1 (row 1 intI safe)),.dead,(oV 1 intI c16),(o1 (.own 3 0 c16.length)),(o1 (int c11))]⟩) ?_ ?_
     ·refine AWP.j (.gk 2 Z (.e ?_))
      obtain⟨t18,hx19,hx17⟩:=bind_some hx17
      refine AWP.seqJ (⟨[(1,.c (row 1 b9 all)),(2,.c (row 1 D6 nextv)),(7,(cP 1 0 0)),(9,(cP 4 0 0)),(12,(cP 5 0 0)),(13,(cI t15)),(40,(cI (all.length:Int))),(41,(cI t15)),(55,(cB t18))],[.dead,(o1 (row 1 intI safe)),.dead,(oV 1 intI c14),(o1 (.own 3 0 c14.length)),(o1 (int c11))]⟩) ?_ ?_
      ·obtain⟨a46,ha46,hx19⟩:=bind_some hx19
       rcases bft (decide (0≤a46)) with hb20|hb20
       ·replace hx19:=F8 hb20 hx19
        refine AWP.G 2 Z (S.idxO ha46 Z Z Z Z Z (S.loadO ha46 Z Z Z Z Z (.G 2 Z (.K Z Z hb20 (.G 6 Z (.nil ?_))))))
        obtain rfl:=oi hx19
        refine b5 (Sub.en Z)
       ·replace hx19:=F1 hb20 hx19
        obtain⟨a52,ha52,hx19⟩:=bind_some hx19
        refine AWP.G 2 Z (S.idxO ha46 Z Z Z Z Z (S.loadO ha46 Z Z Z Z Z (.G 2 Z (.K Z Z hb20 (.G 2 Z (.F Z Z Z Z (S.idx ha52 Z Z Z Z (.G 3 Z (.nil ?_)))))))))
        obtain rfl:=oi hx19
        refine b5 (Sub.en Z)
      ·refine AWP.E Z hx17 (fun hc21 hx17=> ?_) (fun hc21 hx17=> ?_)
       ·refine AWP.exit (i5 (f9 ?_))
        obtain rfl:=oi hx17
        refine b5 (Sub.en Z)
       ·refine AWP.skip (b5 (.e ?_))
        obtain⟨a58,ha58,a61,ha61,hx17⟩:=b2 hx17
        refine AWP.G 2 Z (S.idx ha58 Z Z Z Z (.G 1 Z (.aa Z Z (.U Z Z (.cons (.c .imm) (.cons (.c (.fn (.cons (.ptr (es:=[.sl 1 (List.map intI safe)]) Z Z (.cons .imm .nil)) (.cons (.ptr (es:=[.sl 1 (List.map intI c14)]) Z Z (.cons (.own Z Z) .nil)) (.cons (.ptr (es:=[.val (.int .i64 c11)]) Z Z (.cons .imm .nil)) .nil))))) .nil)) Z (Q2 Z (fun hy=>aw5 hy) ha61) Z ?_))))
        refine AOps.nil (b5 (.E Z hx17 (fun hc22 hx17=> ?_) (fun hc22 hx17=> ?_)))
        ·obtain⟨a65,ha65,hx17⟩:=bind_some hx17
         refine AWP.G 3 Z (S.idxO ha65 Z Z Z Z Z (S.storeO1 (f:=intI) (a':=c11) (q7 ha65) (fun _=>⟨_,Z⟩) Z Z Z Z Z ?_))
         refine AOps.nil (d6 ?_)
         obtain rfl:=oi hx17
         refine b5 ?_
         exact Sub.cut ⟨Z,Z,Z,Z,Z,Z,Z,Y⟩ Z ⟨.dead,.one Z,.dead,.vec,(.eq Z (by first|rfl|(simp only[lS];done))),.one Z,Y⟩ Z
        ·refine AWP.skip (d6 ?_)
         obtain rfl:=oi hx17
         refine b5 (Sub.en Z)
     ·refine AWP.O (.add Z Z Z (by omega) (.z Z Z (.nil ?_)))
      obtain rfl:=oi h
      refine b5 (Sub.en Z)
    ·intro iz
     try dsimp only
     refine f9 (d6 (b5 (.e (.gk 1 Z (.G 2 Z (.nil (b5 (.G 3 Z (.nil ?_)))))))))
     obtain rfl:=oi h
     refine b5 ⟨_,Z,?_⟩
     exact(Sub.move (env':=[(1,.c (row 1 b9 all)),(2,.c (row 1 D6 nextv)),(7,(cP 1 0 0)),(9,(cP 4 0 0)),(12,(cP 5 0 0))]) (σ':=[.dead,(o1 (row 1 intI safe)),.dead,(oV 1 intI c14),(o1 (.own 3 0 c14.length)),(o1 (int (w64 (c11+1))))]) 5 6 Z Z Z ⟨Z,Z,Z,Z,Z,Y⟩ Z ⟨Y,⟨Z,Z⟩,Y,⟨Blk.im_ok _ _ _,i7 Z⟩,⟨Z,Z⟩,⟨Z,Z⟩,Y⟩).trans (Sub.en Z)
   ·refine AWP.exit (i5 ?_)
    obtain rfl:=oi h
    refine i5 ⟨_,Z,Z,?_⟩
    exact Sub.cut ⟨Z,Y⟩ Z ⟨.dead,.dead,.dead,.vec,.one Z,Y⟩ Z
  ·intro e s hq
   obtain⟨rfl,hs⟩:=hq
   refine⟨_,hs,?_⟩
   refine f9 (b5 (.gk 2 Z (.ret ?_)))
   obtain rfl:=oi h
   exact Done.ret Z (Fresh.mk Z Z)
theorem ag8{ov:d5}{all:LL}{r:Li}(h:S7 ov all=some r):n7 prog 36 [.agg (tO ov),.c (row 1 b9 all)] 1 (List.map intI r):=by
 unfold n7
 refine FnOk.enter (rs:=[.t 4]) func36 Z ntmps36 results36 Z ⟨Y,Y⟩ (by kernel_rfl) Z ?_
 unfold S7 at h
 refine AWP.gk 2 Z (.e ?_)
 obtain⟨a12,ha12,h⟩:=bind_some h
 refine AWP.G 2 Z (S.fresh Z Z Z Z (cyclic_arcs_ok ha12) Z Z (.u Z Z (.nil (b5 (.e ?_)))))
 obtain⟨a16,ha16,h⟩:=bind_some h
 refine AWP.O (S.lit (f:=intI) (l:=[1]) (ess:=[[int 1]]) Z Z Z Z Z Z Z ⟨⟨.inl Z,Y⟩,Y⟩ Z Z Z (.z Z Z (S.len Z Z (fun hl15=>S.freshL (fun _=>Z) Z Z (.cons (.c (.own Z Z)) (.cons (.c .imm) .nil)) Z (X5 ha16) Z Z ?_))))
 refine AOps.u Z Z (.nil (b5 (.j ?_)))
 obtain⟨x,ho1,h⟩:=bind_some h
 refine AWP.loopS ho1 (fun c3=>⟨[(1,.c (row 1 b9 all)),(2,(cP 0 0 0)),(5,.c (.own 1 0 a12.length)),(6,.c (.own 3 0 c3.length))],[(oE 4 (tO ov)),(oV 1 D6 a12),.dead,(oV 1 intI c3)]⟩) (fun x e st=>e=.ret∧Done [.t 4] (fun t s=>∃id,t=.c (.own id 0 (List.map intI x).length)∧s[id]? =some (some (Blk.im 1 (List.map intI x)))) .ret st) ?_ ?_ ?_
 ·try dsimp only
  exact Sub.cut ⟨Z,Z,Z,Z,Y⟩ Z ⟨.one Z,.vec,.dead,.vec,Y⟩ Z
 ·intro c3 o h
  unfold ag7 at h
  try dsimp only at h ⊢
  refine AWP.j (.e ?_)
  obtain⟨a21,ha21,h⟩:=bind_some h
  refine AWP.G 4 Z (S.freshL (fun _=>Z) Z Z (.cons (.agg (.cons .imm (.cons .imm (.cons .imm (.cons .imm .nil))))) (.cons (.c .imm) (.cons (.c (.own Z Z)) (.cons (.c (.own Z Z)) .nil)))) Z (ay4 ha21) Z Z ?_)
  refine AOps.u Z Z (.nil (b5 (.gk 1 Z (.e (.gs 1 Z (S.lenO Z Z Z (fun hl23=>.ge 1 Z (.j ?_))))))))
  obtain⟨⟨c4,same5⟩,ho2,h⟩:=bind_some h
  try dsimp only at h
  refine AWP.forH ho2 (fun t6 (c4,same5)=>⟨[(1,.c (row 1 b9 all)),(2,(cP 0 0 0)),(5,.c (.own 1 0 a12.length)),(6,.c (.own 3 0 c4.length)),(7,.c (.own 4 0 a21.length)),(8,(cB same5)),(23,(cI (a21.length:Int))),(24,(cI t6))],[(oE 4 (tO ov)),(oV 1 D6 a12),.dead,(oV 1 intI c4),(oV 1 intI a21)]⟩) (fun _ _=>Z) ?_ ?_ ?_
  ·try dsimp only
   exact Sub.en Z
  ·intro t6 s o hlot6 hltt6 h
   obtain⟨c4,same5⟩:=s
   unfold ag9 at h
   try dsimp only at h ⊢
   refine AWP.e (.j (.gk 2 Z ?_))
   obtain⟨same7,hx8,h⟩:=bind_some h
   refine AWP.seqJ (⟨[(1,.c (row 1 b9 all)),(2,(cP 0 0 0)),(5,.c (.own 1 0 a12.length)),(6,.c (.own 3 0 c4.length)),(7,.c (.own 4 0 a21.length)),(8,(cB same7)),(9,(cI t6)),(23,(cI (a21.length:Int))),(24,(cI t6))],[(oE 4 (tO ov)),(oV 1 D6 a12),.dead,(oV 1 intI c4),(oV 1 intI a21)]⟩) ?_ ?_
   ·rcases bft (same5) with hb9|hb9
    ·replace hx8:=B2 hb9 hx8
     obtain⟨a31,ha31,a36,ha36,hx8⟩:=b2 hx8
     refine AWP.drawI mixed Z (b7.D 2 Z (b7.K Z hb9 Z (b7.D 2 Z ?_)))
     refine b7.consF Z (fun E=>.F Z Z Z Z (S.idxO ha31 Z Z Z Z Z .N)) Z (.consF Z (fun E=>.F Z Z Z Z (S.loadO ha31 Z Z Z Z Z .N)) Z ?_)
     refine b7.D 3 Z ?_
     refine b7.consF Z (fun E=>.F Z Z Z Z (S.idxO ha36 Z Z Z Z Z .N)) Z (.consF Z (fun E=>.F Z Z Z Z (S.loadO ha36 Z Z Z Z Z .N)) Z ?_)
     refine b7.D 1 Z ?_
     refine b7.consF Z (fun E=>.F Z Z Z Z (.eqlB Z Z Z .N)) Z ?_
     refine b7.D 2 Z (b7.done ?_)
     dsimp only[h9]
     obtain rfl:=oi hx8
     refine b5 (Sub.en Z)
    ·replace hx8:=B3 hb9 hx8
     refine AWP.drawI mixed Z (b7.D 2 Z (b7.K Z hb9 Z (b7.D 13 Z (b7.done ?_))))
     dsimp only[h9]
     obtain rfl:=oi hx8
     refine b5 (Sub.en Z)
   ·obtain⟨a45,ha45,a49,ha49,h⟩:=b2 h
    refine AWP.G 4 Z (S.idxO ha45 Z Z Z Z Z (S.loadO ha45 Z Z Z Z Z (S.add Z Z Z (.min2 Z Z Z (S.idxO ha49 Z Z Z Z Z (S.storeO1 (f:=intI) (a':=min 1 (w64 (a45+1))) (q7 ha49) (fun _=>⟨_,Z⟩) Z Z Z Z Z ?_))))))
    refine AOps.nil (d6 (b5 (.O (.add Z Z Z (by omega) (.z Z Z (.nil ?_))))))
    obtain rfl:=oi h
    refine b5 (Sub.env ⟨Z,Z,Z,(o7 (by first|rfl|simp only[lS])),Z,Z,Z,Z,Y⟩)
  ·intro iz
   try dsimp only
   refine f9 (b5 (.gk 1 Z (.E Z h (fun hc10 h=> ?_) (fun hc10 h=> ?_))))
   ·refine AWP.gk 2 Z (.ret (i4 ?_))
    obtain rfl:=oi h
    refine d9 ⟨_,Z,Z,?_⟩
    exact Done.ret Z (Fresh.mk Z Z)
   ·refine AWP.skip (d6 ?_)
    obtain rfl:=oi h
    refine b5 ⟨_,Z,?_⟩
    exact Sub.cut ⟨Z,Z,Z,Z,Y⟩ Z ⟨.one Z,.vec,.dead,.vec,Y⟩ Z
 ·intro e s hq
  obtain⟨rfl,hs⟩:=hq
  refine⟨_,Sub.refl _ _,?_⟩
  refine i4 ?_
  obtain rfl:=oi h
  exact hs
theorem am7{sv:Li}{c2:Li}{c3:LL}{r:Bool}(h:ac0 sv c2 c3=some r):e8 prog 39 [(cR sv),.c (.imm (.ipt [.sl 1 (List.map intI c2)])),.c (.imm (.ipt [.sl 1 (List.map b9 c3)]))] ((cB r)):=by
 unfold e8
 refine FnOk.enter (rs:=[.t 4]) func39 Z ntmps39 results39 Z ⟨Y,Y⟩ (by kernel_rfl) Z ?_
 unfold ac0 at h
 refine AWP.gk 1 Z (.e ?_)
 obtain⟨a8,ha8,a9,ha9,h⟩:=b2 h
 refine AWP.drawI mixed Z (b7.D 3 Z ?_)
 refine b7.consF Z (fun E=>.q Z Z Z Z (p9 ha8) Z .N) Z (.consF Z (fun E=>S.idx ha9 Z Z Z Z .N) Z ?_)
 refine b7.D 3 Z (b7.done ?_)
 dsimp only[h9]
 refine b5 (.ret ?_)
 obtain rfl:=oi h
 exact Done.ret Z Z
theorem ah0{sv:Li}{c2:d5}{r:Bool}(h:H5 sv c2=some r):e8 prog 88 [(cR sv),.c (.imm (.ipt [.val (.int .i64 c2.facts),.sl 1 (List.map intI c2.init),.sl 1 (List.map intI c2.goal),.sl 3 (List.map d7 c2.operators)]))] ((cB r)):=by
 unfold e8
 refine FnOk.enter (rs:=[.t 3]) func88 Z ntmps88 results88 Z ⟨Y,Y⟩ (by kernel_rfl) Z ?_
 unfold H5 at h
 refine AWP.gk 1 Z (.e ?_)
 obtain⟨a7,ha7,h⟩:=bind_some h
 refine AWP.G 3 Z (.q Z Z Z Z (m8 ha7) Z (.u Z Z (.nil (b5 (.ret ?_)))))
 obtain rfl:=oi h
 exact Done.ret Z Z
theorem ax3{sv:Li}{c2:Li}{c3:LL}{c4:d5}{r:Int}(h:af8 sv c2 c3 c4=some r):e8 prog 89 [(cR sv),.c (.imm (.ipt [.sl 1 (List.map intI c2)])),.c (.imm (.ipt [.sl 1 (List.map b9 c3)])),.c (.imm (.ipt [.val (.int .i64 c4.facts),.sl 1 (List.map intI c4.init),.sl 1 (List.map intI c4.goal),.sl 3 (List.map d7 c4.operators)]))] ((cI r)):=by
 unfold e8
 refine FnOk.enter (rs:=[.t 5]) func89 Z ntmps89 results89 Z ⟨Y,Y⟩ (by kernel_rfl) Z ?_
 unfold af8 at h
 refine AWP.gk 1 Z (.e ?_)
 obtain⟨a18,ha18,a19,ha19,h⟩:=b2 h
 refine AWP.drawI mixed Z (b7.D 3 Z ?_)
 refine b7.consF Z (fun E=>.q Z Z Z Z (p9 ha18) Z .N) Z (.consF Z (fun E=>S.idx ha19 Z Z Z Z .N) Z ?_)
 refine b7.D 2 Z (b7.done ?_)
 dsimp only[h9]
 refine b5 (.e (.gs 2 Z (S.len Z Z (fun hl23=>.ge 1 Z (.j ?_)))))
 obtain⟨oo,ho1,h⟩:=bind_some h
 refine AWP.rngH ho1 (fun t2 _=>⟨[(0,(cR sv)),(1,.c (.imm (.ipt [.sl 1 (List.map intI c2)]))),(2,.c (.imm (.ipt [.sl 1 (List.map b9 c3)]))),(3,.c (.imm (.ipt [.val (.int .i64 c4.facts),.sl 1 (List.map intI c4.init),.sl 1 (List.map intI c4.goal),.sl 3 (List.map d7 c4.operators)]))),(6,(cI a19)),(23,(cI (c4.operators.length:Int))),(24,(cI t2))],[]⟩) (fun x e st=>e=.ret∧Done [.t 5] (fun t _=>t=(cI x)) .ret st) (fun _ _=>Z) ?_ ?_ ?_ ?_
 ·try dsimp only
  exact Sub.en Z
 ·intro t2 s o hlot2 hltt2 h
  unfold ai6 at h
  try dsimp only at h ⊢
  refine AWP.seqF (N9) o (fun()=>⟨[(0,(cR sv)),(1,.c (.imm (.ipt [.sl 1 (List.map intI c2)]))),(2,.c (.imm (.ipt [.sl 1 (List.map b9 c3)]))),(3,.c (.imm (.ipt [.val (.int .i64 c4.facts),.sl 1 (List.map intI c4.init),.sl 1 (List.map intI c4.goal),.sl 3 (List.map d7 c4.operators)]))),(6,(cI a19)),(23,(cI (c4.operators.length:Int))),(24,(cI t2))],[]⟩) (fun x h=> ?_) ?_
  ·unfold N9 at h
   try dsimp only at h ⊢
   refine AWP.O (.add Z Z Z (by omega) (.z Z Z (.nil ?_)))
   obtain rfl:=oi h
   refine b5 ⟨_,Z,?_⟩
   exact Sub.en Z
  ·refine AWP.j (.gk 2 Z (.e (.e ?_)))
   obtain⟨a30,ha30,h⟩:=bind_some h
   refine AWP.G 3 Z (.q Z Z Z Z (aa5 ha30) Z (.not Z Z (.nil (b5 (.E Z h (fun hc3 h=> ?_) (fun hc3 h=> ?_))))))
   ·refine AWP.exit (i5 (f9 (b5 ⟨_,h,?_⟩)))
    exact Sub.en Z
   ·refine AWP.skip (b5 (.e ?_))
    obtain⟨a36,ha36,h⟩:=bind_some h
    refine AWP.G 3 Z (.q Z Z Z Z (y6 ha36) Z (.G 5 Z (.nil (b5 (.gk 2 Z (.e (.gs 1 Z (S.len Z Z (fun hl40=>.ge 1 Z (.j ?_))))))))))
    obtain⟨⟨sure4,near5⟩,ho3,h⟩:=bind_some h
    try dsimp only at h
    refine AWP.forH ho3 (fun t6 (sure4,near5)=>⟨[(0,(cR sv)),(1,.c (.imm (.ipt [.sl 1 (List.map intI c2)]))),(2,.c (.imm (.ipt [.sl 1 (List.map b9 c3)]))),(3,.c (.imm (.ipt [.val (.int .i64 c4.facts),.sl 1 (List.map intI c4.init),.sl 1 (List.map intI c4.goal),.sl 3 (List.map d7 c4.operators)]))),(6,(cI a19)),(7,(cI t2)),(10,(cB sure4)),(11,(cB near5)),(23,(cI (c4.operators.length:Int))),(24,(cI t2)),(39,.c (row 1 b9 a36.1)),(40,(cI (a36.1.length:Int))),(41,(cI t6))],[]⟩) (fun _ _=>Z) ?_ ?_ ?_
    ·try dsimp only
     exact Sub.en Z
    ·intro t6 s o hlot6 hltt6 h
     obtain⟨sure4,near5⟩:=s
     unfold aj2 at h
     try dsimp only at h ⊢
     obtain⟨⟨sure7,near8⟩,hx9,h⟩:=bind_some h
     refine AWP.seqJ (⟨[(0,(cR sv)),(1,.c (.imm (.ipt [.sl 1 (List.map intI c2)]))),(2,.c (.imm (.ipt [.sl 1 (List.map b9 c3)]))),(3,.c (.imm (.ipt [.val (.int .i64 c4.facts),.sl 1 (List.map intI c4.init),.sl 1 (List.map intI c4.goal),.sl 3 (List.map d7 c4.operators)]))),(6,(cI a19)),(7,(cI t2)),(10,(cB sure7)),(11,(cB near8)),(23,(cI (c4.operators.length:Int))),(24,(cI t2)),(39,.c (row 1 b9 a36.1)),(40,(cI (a36.1.length:Int))),(41,(cI t6))],[]⟩) ?_ ?_
     ·refine AWP.j (.e ?_)
      obtain⟨a43,ha43,hx9⟩:=bind_some hx9
      refine AWP.O (S.idx ha43 Z Z Z Z (.G 2 Z (.nil (b5 (.e ?_)))))
      obtain⟨a48,ha48,a49,ha49,hx9⟩:=b2 hx9
      refine AWP.drawI mixed Z (b7.D 3 Z ?_)
      refine b7.consF Z (fun E=>.q Z Z Z Z (p9 ha48) Z .N) Z (.consF Z (fun E=>S.idx ha49 Z Z Z Z .N) Z ?_)
      refine b7.D 2 Z (b7.done ?_)
      dsimp only[h9]
      refine b5 ?_
      rcases bft (sure4) with hb10|hb10
      ·replace hx9:=B2 hb10 hx9
       rcases bft (near5) with hb11|hb11
       ·replace hx9:=B2 hb11 hx9
        refine AWP.G 2 Z (.K Z Z hb10 (.G 5 Z (.K Z Z hb11 (.G 7 Z (.nil (d6 ?_))))))
        obtain⟨ej0,ej1⟩:=o2 hx9
        subst ej0 ej1
        refine b5 (Sub.en Z)
       ·replace hx9:=B3 hb11 hx9
        refine AWP.G 2 Z (.K Z Z hb10 (.G 5 Z (.K Z Z hb11 (.G 7 Z (.nil (d6 ?_))))))
        obtain⟨ej0,ej1⟩:=o2 hx9
        subst ej0 ej1
        refine b5 (Sub.en Z)
      ·replace hx9:=B3 hb10 hx9
       rcases bft (near5) with hb12|hb12
       ·replace hx9:=B2 hb12 hx9
        refine AWP.G 2 Z (.K Z Z hb10 (.G 5 Z (.K Z Z hb12 (.G 7 Z (.nil (d6 ?_))))))
        obtain⟨ej0,ej1⟩:=o2 hx9
        subst ej0 ej1
        refine b5 (Sub.en Z)
       ·replace hx9:=B3 hb12 hx9
        refine AWP.G 2 Z (.K Z Z hb10 (.G 5 Z (.K Z Z hb12 (.G 7 Z (.nil (d6 ?_))))))
        obtain⟨ej0,ej1⟩:=o2 hx9
        subst ej0 ej1
        refine b5 (Sub.en Z)
     ·try dsimp only at h
      refine AWP.O (.add Z Z Z (by omega) (.z Z Z (.nil ?_)))
      obtain rfl:=oi h
      refine b5 (Sub.en Z)
    ·intro iz
     try dsimp only
     refine f9 (b5 (.seqJ (⟨[(0,(cR sv)),(1,.c (.imm (.ipt [.sl 1 (List.map intI c2)]))),(2,.c (.imm (.ipt [.sl 1 (List.map b9 c3)]))),(3,.c (.imm (.ipt [.val (.int .i64 c4.facts),.sl 1 (List.map intI c4.init),.sl 1 (List.map intI c4.goal),.sl 3 (List.map d7 c4.operators)]))),(6,(cI a19)),(7,(cI t2)),(23,(cI (c4.operators.length:Int))),(24,(cI t2)),(67,(cB (sure4 && near5)))],[]⟩) ?_ ?_))
     ·rcases bft (sure4) with hb1|hb1
      ·refine AWP.G 2 Z (.F Z Z Z hb1 (.z Z Z (.pickT Z hb1 Z Z (.nil (b5 ?_)))))
       simp only[S4 hb1,or_t hb1,Bool.false_or,Bool.true_or,Bool.false_and,Bool.true_and]
       exact Sub.en Z
      ·refine AWP.G 2 Z (.guardF Z Z Z hb1 (.pickF Z hb1 Z Z (.nil (b5 ?_))))
       simp only[V1 hb1,or_f hb1,Bool.false_or,Bool.true_or,Bool.false_and,Bool.true_and]
       exact Sub.en Z
     ·refine AWP.E Z h (fun hc13 h=> ?_) (fun hc13 h=> ?_)
      ·refine AWP.gk 2 Z (.ret (i4 (d9 ?_)))
       obtain rfl:=oi h
       refine d9 ⟨_,Z,Z,?_⟩
       exact Done.ret Z Z
      ·refine AWP.skip (d6 (b5 ⟨_,h,?_⟩))
       exact Sub.en Z
 ·intro iz _ he
  subst he
  try dsimp only at h ⊢
  refine f9 (b5 (.gk 1 Z (.ret ?_)))
  obtain rfl:=oi h
  exact Done.ret Z Z
 ·intro x e st he hq
  subst he
  try dsimp only at h hq
  obtain⟨rfl,hs⟩:=hq
  refine⟨_,Sub.refl _ _,?_⟩
  refine i4 (d9 ?_)
  obtain rfl:=oi h
  exact hs
theorem u6{xv:List e9}{target:Li}{cmp:e9→Li→Option Int}{r:Int×Bool}{fvcmp:FuncId}{cvcmp:List C}(hcvcmp:C.okL 0 cvcmp=true)(hcmp:∀{y1:e9} {y2:Li} {z:Int},cmp y1 y2=some z→e8 prog fvcmp ([.agg [row 1 intI y1.state,int y1.operator],(cR y2)]++cvcmp.map T.c) ((cI z)))(h:j9 xv target cmp=some r):e8 prog 92 [.c (row 2 f8 xv),(cR target),.c (.fn fvcmp cvcmp)] (.tup [(cI r.1),(cB r.2)]):=by
 unfold e8
 refine FnOk.enter (rs:=[.t 6,.t 7]) func92 Z ntmps92 results92 Z ⟨Y,Y,Y⟩ (by kernel_rfl) Z ?_
 unfold j9 at h
 refine AWP.gk 2 Z (.gs 1 Z (S.len Z Z (fun hl13=>.ge 1 Z (.gk 3 Z (.e (.j ?_))))))
 obtain⟨iv6,ho1,h⟩:=bind_some h
 refine AWP.loopS ho1 (fun(iv4,j5)=>⟨[(0,.c (row 2 f8 xv)),(1,(cR target)),(2,.c (.fn fvcmp cvcmp)),(8,(cI (xv.length:Int))),(9,(cI iv4)),(10,(cI j5))],[]⟩) (fun iv6 e st=>e=.exit 0∧Sub [] st ⟨[(0,.c (row 2 f8 xv)),(1,(cR target)),(2,.c (.fn fvcmp cvcmp)),(8,(cI (xv.length:Int))),(9,(cI iv6))],[]⟩) ?_ ?_ ?_
 ·try dsimp only
  exact Sub.en Z
 ·intro s o h
  obtain⟨iv4,j5⟩:=s
  unfold A0 at h
  try dsimp only at h ⊢
  refine AWP.e (.gk 3 Z (.J Z h (fun hc7 h=> ?_) (fun hc7 h=> ?_)))
  ·refine AWP.skip (b5 (.j (.gs 4 Z (.shr Z Z Z (by first|decide|omega) Z (.ge 2 Z (.e ?_))))))
   obtain⟨a27,ha27,a30,ha30,h⟩:=b2 h
   refine AWP.G 3 Z (S.idx ha27 Z Z Z Z (.G 2 Z (.q Z Z (ae6 Z hcvcmp) Z (hcmp ha30) Z (.lss Z Z Z (.nil (b5 (.J Z h (fun hc8 h=> ?_) (fun hc8 h=> ?_))))))))
   ·refine AWP.G 3 Z (.nil (d6 ?_))
    obtain rfl:=oi h
    refine b5 ⟨_,Z,?_⟩
    exact Sub.en Z
   ·refine AWP.G 2 Z (.nil (d6 ?_))
    obtain rfl:=oi h
    refine b5 ⟨_,Z,?_⟩
    exact Sub.en Z
  ·refine AWP.exit (i5 ?_)
   obtain rfl:=oi h
   refine i5 ⟨_,Z,Z,?_⟩
   exact Sub.en Z
 ·intro e s hq
  obtain⟨rfl,hs⟩:=hq
  refine⟨_,hs,?_⟩
  refine f9 (b5 ?_)
  obtain⟨t9,hx10,h⟩:=bind_some h
  refine AWP.seqJ (⟨[(6,(cI iv6)),(7,(cB t9))],[]⟩) ?_ ?_
  ·rcases bft (decide (iv6<(xv.length:Int))) with hb11|hb11
   ·replace hx10:=F8 hb11 hx10
    obtain⟨a43,ha43,a46,ha46,hx10⟩:=b2 hx10
    refine AWP.G 5 Z (.K Z Z hb11 (.G 3 Z (.F Z Z Z Z (S.idx ha43 Z Z Z Z (.G 2 Z (.F Z Z Z Z (.q Z Z (ae6 Z hcvcmp) Z (hcmp ha46) Z (.G 4 Z (.nil ?_)))))))))
    obtain rfl:=oi hx10
    refine b5 (Sub.en Z)
   ·replace hx10:=F1 hb11 hx10
    refine AWP.G 5 Z (.K Z Z hb11 (.G 11 Z (.nil ?_)))
    obtain rfl:=oi hx10
    refine b5 (Sub.en Z)
  ·refine AWP.ret ?_
   obtain rfl:=oi h
   exact Done.ret Z Z
theorem az3{c:e9}{sv:Li}{r:Int}(h:open_Chosen_1 c sv=some r):e8 prog 93 [.agg [row 1 intI c.state,int c.operator],(cR sv)] ((cI r)):=by
 unfold e8
 refine FnOk.enter (rs:=[.t 4]) func93 Z ntmps93 results93 Z ⟨Y,Y⟩ (by kernel_rfl) Z ?_
 unfold open_Chosen_1 at h
 refine AWP.gk 2 Z (.e ?_)
 obtain⟨a8,ha8,h⟩:=bind_some h
 refine AWP.G 3 Z (.q Z Z Z Z (v8 ha8) Z (.u Z Z (.nil (b5 (.ret ?_)))))
 obtain rfl:=oi h
 exact Done.ret Z Z
theorem H3{policy:List e9}{sv:Li}{r:Int}(h:E0 policy sv=some r):e8 prog 44 [.c (row 2 f8 policy),(cR sv)] ((cI r)):=by
 unfold e8
 refine FnOk.enter (rs:=[.t 4]) func44 Z ntmps44 results44 Z ⟨Y,Y⟩ (by kernel_rfl) Z ?_
 unfold E0 at h
 refine AWP.gk 1 Z (.e ?_)
 obtain⟨a10,ha10,h⟩:=bind_some h
 refine AWP.G 2 Z (.q Z Z Z Z (u6 Z (fun hy=>az3 hy) ha10) Z ?_)
 refine AOps.G 5 Z (.nil (b5 (.e (.gk 2 Z (.E Z h (fun hc3 h=> ?_) (fun hc3 h=> ?_))))))
 ·refine AWP.gk 1 Z (.ret (d9 ?_))
  obtain rfl:=oi h
  exact Done.ret Z Z
 ·refine AWP.skip (b5 (.e ?_))
  obtain⟨a17,ha17,h⟩:=bind_some h
  refine AWP.G 2 Z (S.idx ha17 Z Z Z Z (.G 3 Z (.nil (b5 (.ret ?_)))))
  obtain rfl:=oi h
  exact Done.ret Z Z
theorem ak1{c:e9}{sv:Li}{r:Int}(h:Y2 c sv=some r):e8 prog 96 [.agg [row 1 intI c.state,int c.operator],(cR sv)] ((cI r)):=by
 unfold e8
 refine FnOk.enter (rs:=[.t 4]) func96 Z ntmps96 results96 Z ⟨Y,Y⟩ (by kernel_rfl) Z ?_
 unfold Y2 at h
 refine AWP.gk 2 Z (.e ?_)
 obtain⟨a8,ha8,h⟩:=bind_some h
 refine AWP.G 3 Z (.q Z Z Z Z (v8 ha8) Z (.u Z Z (.nil (b5 (.ret ?_)))))
 obtain rfl:=oi h
 exact Done.ret Z Z
theorem strong_Build_ok{ov:d5}{choose:Li→Option Int}{r:(List e9)×Bool}{fvchoose:FuncId}{cvchoose:List C}(hcvchoose:C.okL 0 cvchoose=true)(hchoose:∀{y1:Li} {z:Int},choose y1=some z→e8 prog fvchoose ([(cR y1)]++cvchoose.map T.c) ((cI z)))(h:am8 ov choose=some r):e8 prog 50 [.agg (tO ov),.c (.fn fvchoose cvchoose)] (.tup [.c (row 2 f8 r.1),(cB r.2)]):=by
 unfold e8
 refine FnOk.enter (rs:=[.t 4,.t 5]) func50 Z ntmps50 results50 Z ⟨Y,Y,Y⟩ (by kernel_rfl) Z ?_
 unfold am8 at h
 refine AWP.gk 3 Z (.gk 1 Z (.gs 2 Z (S.lit (f:=b9) (l:=[ov.init]) (ess:=[[row 1 intI ov.init]]) Z Z Z Z Z Z Z ⟨⟨.inl Z,Y⟩,Y⟩ Z Z Z (.ge 1 Z (.e (.gk 1 Z (.j (.virtV 2 f8 6 Z Z Z ?_))))))))
 obtain⟨oo,ho1,h⟩:=bind_some h
 refine AWP.loopS ho1 (fun(c3,c4,atv5)=>⟨[(1,.c (.fn fvchoose cvchoose)),(2,(cP 0 0 0)),(6,.c (.own 2 0 c4.length)),(7,.c (.own 1 0 c3.length)),(8,(cI atv5))],[(oE 4 (tO ov)),(oV 1 b9 c3),(oV 2 f8 c4)]⟩) (fun o e st=>match o with| .inl c6=>e=.exit 0∧Sub [] st ⟨[(6,.c (.own 2 0 c6.length))],[.dead,.dead,(oV 2 f8 c6)]⟩| .inr x=>e=.ret∧Done [.t 4,.t 5] (fun t _=>t=.tup [.c (row 2 f8 x.1),(cB x.2)]) .ret st) ?_ ?_ ?_
 ·try dsimp only
  exact Sub.env ⟨Z,Z,(o7 (by first|rfl|simp only[lS])),Z,Z,Y⟩
 ·intro s o h
  obtain⟨c3,c4,atv5⟩:=s
  unfold ap6 at h
  try dsimp only at h ⊢
  refine AWP.e (.gs 2 Z (S.lenO Z Z Z (fun hl20=>.ge 1 Z (.J Z h (fun hc7 h=> ?_) (fun hc7 h=> ?_)))))
  ·refine AWP.skip (b5 (.seqF ((V6 atv5)) o (fun(c8,c9)=>⟨[(1,.c (.fn fvchoose cvchoose)),(2,(cP 0 0 0)),(6,.c (.own 2 0 c9.length)),(7,.c (.own 1 0 c8.length)),(8,(cI atv5))],[(oE 4 (tO ov)),(oV 1 b9 c8),(oV 2 f8 c9)]⟩) (fun x h=> ?_) ?_))
   ·obtain⟨c8,c9⟩:=x
    unfold V6 at h
    try dsimp only at h ⊢
    refine AWP.G 3 Z (.nil ?_)
    obtain rfl:=oi h
    refine b5 ⟨_,Z,?_⟩
    exact Sub.en Z
   ·refine AWP.j (.e ?_)
    obtain⟨a26,ha26,h⟩:=bind_some h
    refine AWP.G 2 Z (S.idxO ha26 Z Z Z Z Z (S.loadO ha26 Z Z Z Z Z (.u Z Z (.nil (b5 (.e ?_))))))
    obtain⟨t10,hx11,h⟩:=bind_some h
    refine AWP.seqJ (⟨[(1,.c (.fn fvchoose cvchoose)),(2,(cP 0 0 0)),(6,.c (.own 2 0 c4.length)),(7,.c (.own 1 0 c3.length)),(8,(cI atv5)),(9,(cR a26)),(37,(cB t10))],[(oE 4 (tO ov)),(oV 1 b9 c3),(oV 2 f8 c4)]⟩) ?_ ?_
    ·obtain⟨a31,ha31,hx11⟩:=bind_some hx11
     rcases bft (a31) with hb12|hb12
     ·replace hx11:=B2 hb12 hx11
      refine AWP.G 3 Z (.q Z Z Z Z (m8 ha31) Z (.z Z Z (.K Z Z hb12 (.G 5 Z (.nil ?_)))))
      obtain rfl:=oi hx11
      refine b5 (Sub.en Z)
     ·replace hx11:=B3 hb12 hx11
      obtain⟨a35,ha35,hx11⟩:=bind_some hx11
      refine AWP.G 3 Z (.q Z Z Z Z (m8 ha31) Z (.z Z Z (.K Z Z hb12 (.G 2 Z (.F Z Z Z Z (.U Z Z (.cons (.c (.own Z Z)) (.cons (.c .imm) .nil)) Z (H3 ha35) Z (.G 2 Z (.nil ?_))))))))
      obtain rfl:=oi hx11
      refine b5 (Sub.en Z)
    ·refine AWP.E Z h (fun hc13 h=> ?_) (fun hc13 h=> ?_)
     ·refine AWP.exit (i5 (f9 (b5 ⟨_,h,?_⟩)))
      exact Sub.en Z
     ·refine AWP.skip (b5 (.e (.gs 1 Z (S.lenO Z Z Z (fun hl39=>.ge 1 Z (.J Z h (fun hc14 h=> ?_) (fun hc14 h=> ?_)))))))
      ·refine AWP.gk 2 Z (.nilrow 2 4 Z (.ret (d9 (i4 (d9 ?_)))))
       obtain rfl:=oi h
       refine d9 ⟨_,Z,Z,?_⟩
       exact Done.ret Z Z
      ·refine AWP.skip (b5 (.e ?_))
       obtain⟨a43,ha43,h⟩:=bind_some h
       refine AWP.G 2 Z (.q Z Z (ae6 Z hcvchoose) Z (hchoose ha43) Z (.u Z Z (.nil (b5 (.e ?_)))))
       obtain⟨a47,ha47,h⟩:=bind_some h
       refine AWP.G 2 Z (.U Z Z (.cons (.c (.own Z Z)) (.cons (.c .imm) (.cons (.c (.fn .nil)) .nil))) Z (u6 Z (fun hy=>ak1 hy) ha47) Z ?_)
       refine AOps.G 5 Z (.nil (b5 (.e ?_)))
       obtain⟨a53,ha53,a57,ha57,h⟩:=b2 h
       refine AWP.G 3 Z (S.fresh Z Z Z Z (C6 ha53) Z Z (.G 2 Z (.frzV (id:=3) (l:=a53) (env2:=[(1,.c (.fn fvchoose cvchoose)),(2,(cP 0 0 0)),(7,.c (.own 1 0 c3.length)),(8,(cI atv5)),(9,(cR a26)),(10,(cI a43)),(50,.c (.own 2 0 c4.length)),(51,(cI a47.1)),(55,.agg [row 1 intI a53,int a43])]) (σ2:=[(oE 4 (tO ov)),(oV 1 b9 c3),(oV 2 f8 c4),.dead]) Z Z (by exact⟨⟨_,Z,.inl ⟨Z,fnNo hcvchoose⟩⟩,⟨_,Z,.inl ⟨Z,Z⟩⟩,⟨_,Z,.inl ⟨Z,Z⟩⟩,⟨_,Z,.inl ⟨Z,Z⟩⟩,⟨_,Z,.inl ⟨Z,Z⟩⟩,⟨_,Z,.inl ⟨Z,Z⟩⟩,⟨_,Z,.inl ⟨Z,Z⟩⟩,⟨_,Z,.inl ⟨Z,Z⟩⟩,⟨_,Z,⟨.inr ⟨_,Z,Z,Z⟩,.inl ⟨Z,Z⟩,Y⟩⟩,Y⟩) Z (by exact⟨⟨Z,.inl ⟨Z,Z⟩,.inl ⟨Z,Z⟩,.inl ⟨Z,Z⟩,.inl ⟨Z,Z⟩,Y⟩,FrzB.vec,FrzB.vec,Y,Y⟩) (S.lit (f:=f8) (l:=[(⟨a53,a43⟩:e9)]) (ess:=[[row 1 intI a53,int a43]]) Z Z Z Z Z Z Z ⟨⟨.inl Z,.inl Z,Y⟩,Y⟩ Z Z Z (S.insert (f:=f8) ha57 Z Z Z Z Z Z Z Z Z Z Z (.u Z Z (.nil (b5 (.e (.z (env':=[(1,.c (.fn fvchoose cvchoose)),(2,(cP 0 0 0)),(6,.c (.own 2 0 a57.length)),(7,.c (.own 1 0 c3.length)),(8,(cI atv5)),(9,(cR a26)),(10,(cI a43))]) (σ':=[(oE 4 (tO ov)),(oV 1 b9 c3),(oV 2 f8 a57),.dead,(oV 2 f8 [(⟨a53,a43⟩:e9)])]) 2 5 Z Z Z ⟨fnMv hcvchoose Z,Z,Z,Z,Z,Z,Z,Y⟩ (eOk1 (fnOk (f:=fvchoose) hcvchoose) (eOk1 Z (eOk1 Z (eOk1 Z (eOk1 Z (eOk1 Z (eOk1 Z Z))))))) ⟨⟨Z,Z⟩,⟨Blk.im_ok _ _ _,i7 Z⟩,⟨Blk.im_ok _ _ _,i7 Z⟩,Y,⟨Blk.im_ok _ _ _,i7 Z⟩,Y⟩ ?_))))))))))
       obtain⟨a62,ha62,h⟩:=bind_some h
       refine AWP.G 3 Z (.q Z Z Z Z (y6 ha62) Z (.G 5 Z (.nil (b5 ?_))))
       obtain⟨a67,ha67,h⟩:=bind_some h
       refine AWP.G 2 Z (S.append (f:=b9) ha67 Z Z Z Z Z Z .row Z Z Z Z (.u Z Z (.nil (d6 (b5 ⟨_,h,?_⟩)))))
       exact(Sub.move (env':=[(1,.c (.fn fvchoose cvchoose)),(2,(cP 0 0 0)),(6,.c (.own 2 0 a57.length)),(7,.c (.own 1 0 a67.length)),(8,(cI atv5))]) (σ':=[(oE 4 (tO ov)),(oV 1 b9 a67),(oV 2 f8 a57),.dead,(oV 2 f8 [(⟨a53,a43⟩:e9)])]) 1 5 Z Z Z ⟨fnMv hcvchoose Z,Z,Z,Z,Z,Y⟩ (eOk1 (fnOk (f:=fvchoose) hcvchoose) (eOk1 Z (eOk1 Z (eOk1 Z (eOk1 Z Z))))) ⟨⟨Z,Z⟩,⟨Blk.im_ok _ _ _,i7 Z⟩,⟨Blk.im_ok _ _ _,i7 Z⟩,Y,⟨Blk.im_ok _ _ _,i7 Z⟩,Y⟩).trans (Sub.cut ⟨Z,Z,Z,Z,Z,Y⟩ Z ⟨.one Z,.vec,.vec,Y⟩ (eOk1 (fnOk (f:=fvchoose) hcvchoose) (eOk1 Z (eOk1 Z (eOk1 Z (eOk1 Z Z))))))
  ·refine AWP.exit (i5 ?_)
   obtain rfl:=oi h
   refine i5 ⟨_,Z,Z,?_⟩
   exact Sub.cut ⟨Z,Y⟩ Z ⟨.dead,.dead,.vec,Y⟩ Z
 ·intro e s hq
  rcases oo with c6|x
  ·try dsimp only at h hq
   obtain⟨rfl,hs⟩:=hq
   refine⟨_,hs,?_⟩
   refine f9 (b5 (.gk 3 Z (.frzV (id:=2) (l:=c6) (env2:=[(4,.c (row 2 f8 c6)),(5,(cB true))]) (σ2:=[.dead,.dead,.dead]) Z Z (by exact⟨⟨_,Z,.inr ⟨_,Z,Z,Z⟩⟩,⟨_,Z,.inl ⟨Z,Z⟩⟩,Y⟩) Z (by exact⟨Y,Y,Y,Y⟩) (.ret ?_))))
   obtain rfl:=oi h
   exact Done.ret Z Z
  ·try dsimp only at h hq
   obtain⟨rfl,hs⟩:=hq
   refine⟨_,Sub.refl _ _,?_⟩
   refine i4 (d9 ?_)
   obtain rfl:=oi h
   exact hs
theorem az6{ov:d5}{r:(List e9)×Bool×j8}(h:aj7 ov=some r):e8 prog 43 [.agg (tO ov)] (.tup [.c (row 2 f8 r.1),(cB r.2.1),.agg [int r.2.2.code,int r.2.2.index]]):=by
 unfold e8
 refine FnOk.enter (rs:=[.t 2,.t 3,.cell 4 30 2]) func43 Z ntmps43 results43 Z ⟨Y,Y,rv _ Z,Y⟩ (by kernel_rfl) Z ?_
 unfold aj7 at h
 refine AWP.gk 4 Z (.e ?_)
 obtain⟨a12,ha12,h⟩:=bind_some h
 refine AWP.G 1 Z (.q Z Z Z Z (aq0 ha12) Z (.G 7 Z (.nil (b5 (.e (.gs 2 Z (.neqP Z Z Z Z Z Z Z (.ne (.E Z h (fun hc2 h=> ?_) (fun hc2 h=> ?_))))))))))
 ·refine AWP.e (.drawEI [3] mixed Z Z Z (b8.D 3 Z Z ?_))
  apply b8.consE (v:=.undef);exact Z;exact Z;intro E
  refine W.storeAgg Z Z Z Z Z Z Z .N
  exact Z
  exact Z
  refine b8.done Z ?_ ?_
  ·refine d8.D 4 Z Z (d8.nil)
  dsimp only[h9]
  refine b5 (.nilrow 2 2 Z (.ret (d9 ?_)))
  obtain rfl:=oi h
  exact Done.ret Z Z
 ·refine AWP.skip (b5 (.e ?_))
  obtain⟨a21,ha21,h⟩:=bind_some h
  refine AWP.G 2 Z (S.fresh Z Z Z Z (ag8 ha21) Z Z (.G 2 Z (.nil (b5 (.e (.e ?_))))))
  obtain⟨a26,ha26,a27,ha27,h⟩:=b2 h
  refine AWP.drawI mixed Z (b7.D 4 Z ?_)
  refine b7.consF Z (fun E=>.q Z Z Z Z (p9 ha26) Z .N) Z (.consF Z (fun E=>S.idxO ha27 Z Z Z Z Z .N) Z (.consF Z (fun E=>S.loadO ha27 Z Z Z Z Z .N) Z ?_))
  refine b7.D 1 Z (b7.done ?_)
  dsimp only[h9]
  refine b5 (.J Z h (fun hc3 h=> ?_) (fun hc3 h=> ?_))
  ·refine AWP.gk 4 Z (.nilrow 2 2 Z (.ret (d9 ?_)))
   obtain rfl:=oi h
   exact Done.ret Z Z
  ·refine AWP.skip (b5 (.e ?_))
   obtain⟨a34,ha34,h⟩:=bind_some h
   refine AWP.G 1 Z (.aa Z Z ?_)
   refine AOps.frzV (id:=4) (l:=a21) (env2:=[(4,(cP 1 0 0)),(32,.agg (tO ov)),(33,.c (.fn 89 [.ptr 5 0 0,.ptr 2 0 0,.ptr 0 0 0]))]) (σ2:=[(oE 4 (tO ov)),(oE 2 [int 0,int 0]),(o1 (row 1 b9 a12.1)),(oE 2 [int a12.2.code,int a12.2.index]),.dead,(o1 (row 1 intI a21))]) Z Z (by exact⟨⟨_,Z,.inl ⟨Z,Z⟩⟩,⟨_,Z,⟨.inl ⟨Z,Z⟩,.inl ⟨Z,Z⟩,.inl ⟨Z,Z⟩,.inl ⟨Z,Z⟩,Y⟩⟩,⟨_,Z,.inl ⟨Z,Z⟩⟩,Y⟩) Z (by exact⟨⟨Z,.inl ⟨Z,Z⟩,.inl ⟨Z,Z⟩,.inl ⟨Z,Z⟩,.inl ⟨Z,Z⟩,Y⟩,⟨Z,.inl ⟨Z,Z⟩,.inl ⟨Z,Z⟩,Y⟩,⟨Z,.inl ⟨Z,Z⟩,Y⟩,⟨Z,.inl ⟨Z,Z⟩,.inl ⟨Z,Z⟩,Y⟩,Y,⟨Z,.inr ⟨_,Z,Z,Z⟩,Y⟩,Y⟩) ?_;refine AOps.frzB (id:=5) (e:=[.sl 1 (List.map intI a21)]) (env2:=[(4,(cP 1 0 0)),(32,.agg (tO ov)),(33,.c (.fn 89 [.imm (.ipt [.sl 1 (List.map intI a21)]),.ptr 2 0 0,.ptr 0 0 0]))]) (σ2:=[(oE 4 (tO ov)),(oE 2 [int 0,int 0]),(o1 (row 1 b9 a12.1)),(oE 2 [int a12.2.code,int a12.2.index]),.dead,.dead]) Z Z (by exact⟨⟨_,Z,.inl ⟨Z,Z⟩⟩,⟨_,Z,⟨.inl ⟨Z,Z⟩,.inl ⟨Z,Z⟩,.inl ⟨Z,Z⟩,.inl ⟨Z,Z⟩,Y⟩⟩,⟨_,Z,.inr Z⟩,Y⟩) Z (by exact⟨⟨Z,.inl ⟨Z,Z⟩,.inl ⟨Z,Z⟩,.inl ⟨Z,Z⟩,.inl ⟨Z,Z⟩,Y⟩,⟨Z,.inl ⟨Z,Z⟩,.inl ⟨Z,Z⟩,Y⟩,⟨Z,.inl ⟨Z,Z⟩,Y⟩,⟨Z,.inl ⟨Z,Z⟩,.inl ⟨Z,Z⟩,Y⟩,Y,Y,Y⟩) ?_;refine AOps.frzB (id:=2) (e:=[.sl 1 (List.map b9 a12.1)]) (env2:=[(4,(cP 1 0 0)),(32,.agg (tO ov)),(33,.c (.fn 89 [.imm (.ipt [.sl 1 (List.map intI a21)]),.imm (.ipt [.sl 1 (List.map b9 a12.1)]),.ptr 0 0 0]))]) (σ2:=[(oE 4 (tO ov)),(oE 2 [int 0,int 0]),.dead,(oE 2 [int a12.2.code,int a12.2.index]),.dead,.dead]) Z Z (by exact⟨⟨_,Z,.inl ⟨Z,Z⟩⟩,⟨_,Z,⟨.inl ⟨Z,Z⟩,.inl ⟨Z,Z⟩,.inl ⟨Z,Z⟩,.inl ⟨Z,Z⟩,Y⟩⟩,⟨_,Z,.inr Z⟩,Y⟩) Z (by exact⟨⟨Z,.inl ⟨Z,Z⟩,.inl ⟨Z,Z⟩,.inl ⟨Z,Z⟩,.inl ⟨Z,Z⟩,Y⟩,⟨Z,.inl ⟨Z,Z⟩,.inl ⟨Z,Z⟩,Y⟩,Y,⟨Z,.inl ⟨Z,Z⟩,.inl ⟨Z,Z⟩,Y⟩,Y,Y,Y⟩) ?_;refine AOps.frzB (id:=0) (e:=[.val (.int .i64 ov.facts),.sl 1 (List.map intI ov.init),.sl 1 (List.map intI ov.goal),.sl 3 (List.map d7 ov.operators)]) (env2:=[(4,(cP 1 0 0)),(32,.agg (tO ov)),(33,.c (.fn 89 [.imm (.ipt [.sl 1 (List.map intI a21)]),.imm (.ipt [.sl 1 (List.map b9 a12.1)]),.imm (.ipt [.val (.int .i64 ov.facts),.sl 1 (List.map intI ov.init),.sl 1 (List.map intI ov.goal),.sl 3 (List.map d7 ov.operators)])]))]) (σ2:=[.dead,(oE 2 [int 0,int 0]),.dead,(oE 2 [int a12.2.code,int a12.2.index]),.dead,.dead]) Z Z (by exact⟨⟨_,Z,.inl ⟨Z,Z⟩⟩,⟨_,Z,⟨.inl ⟨Z,Z⟩,.inl ⟨Z,Z⟩,.inl ⟨Z,Z⟩,.inl ⟨Z,Z⟩,Y⟩⟩,⟨_,Z,.inr Z⟩,Y⟩) Z (by exact⟨Y,⟨Z,.inl ⟨Z,Z⟩,.inl ⟨Z,Z⟩,Y⟩,Y,⟨Z,.inl ⟨Z,Z⟩,.inl ⟨Z,Z⟩,Y⟩,Y,Y,Y⟩) ?_;refine AOps.q Z Z Z Z (strong_Build_ok Z (fun hy=>ax3 hy) ha34) Z ?_
   refine AOps.G 5 Z (.nil (b5 (.e (.gk 2 Z (.E Z h (fun hc4 h=> ?_) (fun hc4 h=> ?_))))))
   ·refine AWP.gk 4 Z (.nilrow 2 2 Z (.ret (d9 ?_)))
    obtain rfl:=oi h
    exact Done.ret Z Z
   ·refine AWP.skip (b5 (.gk 5 Z (.ret ?_)))
    obtain rfl:=oi h
    exact Done.ret Z Z
theorem ay7{num:Int}{den:Int}{r:m9×Bool}(h:B9 num den=some r):e8 prog 95 [(cI num),(cI den)] (.tup [.agg [int r.1.num,int r.1.den],(cB r.2)]):=by
 unfold e8
 refine FnOk.enter (rs:=[.cell 4 28 2,.t 5]) func95 Z ntmps95 results95 Z ⟨rv _ Z,Y,Y⟩ (by kernel_rfl) Z ?_
 unfold B9 at h
 refine AWP.gk 2 Z ?_
 obtain⟨⟨num3,den4⟩,hx5,h⟩:=bind_some h
 refine AWP.seqJ (⟨[(0,(cI num3)),(1,(cI den4)),(4,(cP 0 0 0))],[(oE 2 [int 0,int 0])]⟩) ?_ ?_
 ·refine AWP.gk 2 Z (.J Z hx5 (fun hc6 hx5=> ?_) (fun hc6 hx5=> ?_))
  ·refine AWP.G 1 Z (S.neg Z Z (.z Z Z (S.neg Z Z (.G 2 Z (.nil ?_)))))
   obtain⟨ej0,ej1⟩:=o2 hx5
   subst ej0 ej1
   refine b5 (Sub.en Z)
  ·refine AWP.skip ?_
   obtain⟨ej0,ej1⟩:=o2 hx5
   subst ej0 ej1
   refine b5 (Sub.en Z)
 ·try dsimp only at h
  refine AWP.gs 2 Z (S.neg Z Z (.max2 Z Z Z (.ge 3 Z (.e (.j ?_)))))
  obtain⟨av9,ho1,h⟩:=bind_some h
  refine AWP.loopS ho1 (fun(av7,bv8)=>⟨[(0,(cI num3)),(1,(cI den4)),(4,(cP 0 0 0)),(6,(cI av7)),(7,(cI bv8))],[(oE 2 [int 0,int 0])]⟩) (fun av9 e st=>e=.exit 0∧Sub [] st ⟨[(0,(cI num3)),(1,(cI den4)),(4,(cP 0 0 0)),(6,(cI av9))],[(oE 2 [int 0,int 0])]⟩) ?_ ?_ ?_
  ·try dsimp only
   exact Sub.en Z
  ·intro s o h
   obtain⟨av7,bv8⟩:=s
   unfold L9 at h
   try dsimp only at h ⊢
   refine AWP.e (.gk 2 Z (.J Z h (fun hc10 h=> ?_) (fun hc10 h=> ?_)))
   ·refine AWP.skip (b5 (.j ?_))
    obtain⟨u25,hu25,h⟩:=bind_some h
    refine AWP.drawI mixed Z (b7.D 3 Z ?_)
    refine b7.consF Z (fun E=>S.rem hu25 Z Z Z .N) Z ?_
    refine b7.D 2 Z (b7.done ?_)
    dsimp only[h9]
    refine d6 ?_
    obtain rfl:=oi h
    refine b5 ⟨_,Z,?_⟩
    exact Sub.en Z
   ·refine AWP.exit (i5 ?_)
    obtain rfl:=oi h
    refine i5 ⟨_,Z,Z,?_⟩
    exact Sub.en Z
  ·intro e s hq
   obtain⟨rfl,hs⟩:=hq
   refine⟨_,hs,?_⟩
   refine f9 (b5 (.e ?_))
   obtain⟨u28,hu28,u31,hu31,h⟩:=b2 h
   refine AWP.drawEI [7,8] mixed Z Z Z (b8.D 2 Z Z ?_)
   refine b8.consN Z Z (fun E=>S.quo hu28 Z Z Z .N) Z ?_
   refine b8.D 2 Z Z ?_
   refine b8.consN Z Z (fun E=>S.quo hu31 Z Z Z .N) Z ?_
   refine b8.D 1 Z Z ?_
   apply b8.consE;exact Z;exact Z;intro E
   refine W.alloc Z Z Z Z .N
   exact Z
   exact Z
   apply b8.consE (v:=.undef);exact Z;exact Z;intro E
   refine W.storeAgg Z Z Z Z Z Z Z .N
   exact Z
   exact Z
   refine b8.done Z ?_ ?_
   ·refine d8.D 2 Z Z ?_
    refine d8.cons Z Z (.go Z Z (fun E=>S.quo hu28 Z Z Z .N) (.go Z Z (fun E=>S.quo hu28 Z Z Z .N) (.skip Z .nil))) ?_
    refine d8.D 2 Z Z ?_
    refine d8.cons Z Z (.go Z Z (fun E=>S.quo hu31 Z Z Z .N) (.go Z Z (fun E=>S.quo hu31 Z Z Z .N) (.skip Z .nil))) ?_
    refine d8.D 3 Z Z (d8.nil)
   dsimp only[h9]
   refine b5 (.e (.drawEI [10] mixed Z Z Z (b8.D 5 Z Z ?_)))
   refine b8.consN Z Z (fun E=>S.neg Z Z .N) Z ?_
   refine b8.D 2 Z Z ?_
   refine b8.consN Z Z (fun E=>.max3 Z Z Z Z .N) Z ?_
   refine b8.D 1 Z Z ?_
   apply b8.consE (v:=.undef);exact Z;exact Z;intro E
   refine W.storeAgg Z Z Z Z Z Z Z .N
   exact Z
   exact Z
   refine b8.D 1 Z Z (b8.done Z ?_ ?_)
   ·refine d8.D 5 Z Z ?_
    refine d8.cons Z Z ?_ ?_
    refine i6.go Z Z (fun E=>S.neg Z Z .N) ?_
    refine i6.go Z Z (fun E=>S.neg Z Z .N) ?_
    exact i6.nil
    refine d8.D 2 Z Z ?_
    refine d8.cons Z Z ?_ ?_
    refine i6.go Z Z (fun E=>.max3 Z Z Z Z .N) ?_
    refine i6.go Z Z (fun E=>.max3 Z Z Z Z .N) ?_
    exact i6.nil
    refine d8.D 3 Z Z (d8.nil)
   dsimp only[h9]
   refine b5 (.ret ?_)
   obtain rfl:=oi h
   exact Done.ret Z Z
theorem S0{num:Int}{den:Int}{r:m9×j8}(h:N2 num den=some r):e8 prog 49 [(cI num),(cI den)] (.tup [.agg [int r.1.num,int r.1.den],.agg [int r.2.code,int r.2.index]]):=by
 unfold e8
 refine FnOk.enter (rs:=[.cell 4 28 2,.cell 5 30 2]) func49 Z ntmps49 results49 Z ⟨rv _ Z,rv _ Z,Y⟩ (by kernel_rfl) Z ?_
 unfold N2 at h
 refine AWP.gk 2 Z (.e ?_)
 obtain⟨a11,ha11,h⟩:=bind_some h
 refine AWP.G 2 Z (.q Z Z Z Z (ay7 ha11) Z (.G 6 Z (.nil (b5 (.e (.gk 2 Z (.E Z h (fun hc3 h=> ?_) (fun hc3 h=> ?_))))))))
 ·refine AWP.gk 4 Z (.ret (d9 ?_))
  obtain rfl:=oi h
  exact Done.ret Z Z
 ·refine AWP.skip (b5 (.gk 4 Z (.ret ?_)))
  obtain rfl:=oi h
  exact Done.ret Z Z
theorem af4{l:LL}{c:LL}{l3:Li}{r:(LL)}(h:I5 l c l3=some r):FnOk prog 37 [.c (.own 0 0 l.length),.c (.fn 39 [.ptr 1 0 0,.ptr 2 0 0])] (P3 l c l3) (fun tt ss=>tt=.c (.own 4 0 r.length)∧ss=[.dead,(o1 (.own 3 0 l3.length)),(o1 (row 1 b9 c)),(oV 1 intI l3),(oV 1 b9 r)]):=by
 refine FnOk.enter (rs:=[.t 4]) func37 Z ntmps37 results37 Z ⟨Y,Y⟩ (by kernel_rfl) Z ?_
 refine AWP.weak ?_
 unfold I5 at h
 refine AWP.z (env':=[(0,.c (.own 4 0 l.length)),(1,.c (.fn 39 [.ptr 1 0 0,.ptr 2 0 0]))]) (σ':=[.dead,(o1 (.own 3 0 l3.length)),(o1 (row 1 b9 c)),(oV 1 intI l3),(oV 1 b9 l)]) 4 0 Z Z Z ⟨Z,Z,Y⟩ Z ⟨Y,⟨Z,Z⟩,⟨Z,Z⟩,⟨Blk.im_ok _ _ _,i7 Z⟩,⟨Blk.im_ok _ _ _,i7 Z⟩,Y⟩ (.gk 1 Z (.e ?_))
 obtain⟨a10,ha10,h⟩:=bind_some h
 refine AWP.G 2 Z (.U Z Z (.cons (.c (.own Z Z)) (.cons (.c (.fn (.cons (.ptr (es:=[.sl 1 (List.map intI l3)]) Z Z (.cons (.own Z Z) .nil)) (.cons (.ptr (es:=[.sl 1 (List.map b9 c)]) Z Z (.cons .imm .nil)) .nil)))) .nil)) Z (K1 Z (fun hy=>am7 hy) ha10) Z ?_)
 refine AOps.u Z Z (.nil (b5 (.e (.gk 2 Z (.J Z h (fun hc55 h=> ?_) (fun hc55 h=> ?_))))))
 ·refine AWP.gk 2 Z (.ret (d9 ?_))
  obtain rfl:=oi h
  exact⟨⟨[(4,.c (.own 4 0 l.length))],[.dead,(o1 (.own 3 0 l3.length)),(o1 (row 1 b9 c)),(oV 1 intI l3),(oV 1 b9 l)]⟩,Sub.env ⟨Z,Y⟩,Done.ret Z ⟨Z,Z⟩⟩
 ·refine AWP.skip (b5 (.e (.gk 3 Z (.j ?_))))
  obtain⟨⟨c59,iv60⟩,ho1,h⟩:=bind_some h
  try dsimp only at h
  refine AWP.loopS ho1 (fun(c56,iv57,j58)=>⟨[(0,.c (.own 4 0 c56.length)),(1,.c (.fn 39 [.ptr 1 0 0,.ptr 2 0 0])),(5,(cI iv57)),(6,(cI j58))],[.dead,(o1 (.own 3 0 l3.length)),(o1 (row 1 b9 c)),(oV 1 intI l3),(oV 1 b9 c56)]⟩) (fun(c59,iv60) e st=>e=.exit 0∧Sub (P3 l c l3) st ⟨[(0,.c (.own 4 0 c59.length)),(5,(cI iv60))],[.dead,(o1 (.own 3 0 l3.length)),(o1 (row 1 b9 c)),(oV 1 intI l3),(oV 1 b9 c59)]⟩) ?_ ?_ ?_
  ·try dsimp only
   exact Sub.en Z
  ·intro s o h
   obtain⟨c56,iv57,j58⟩:=s
   unfold O2 at h
   try dsimp only at h ⊢
   refine AWP.e (.gs 2 Z (S.lenO Z Z Z (fun hl18=>.ge 1 Z (.J Z h (fun hc61 h=> ?_) (fun hc61 h=> ?_)))))
   ·refine AWP.skip (b5 ?_)
    obtain⟨⟨c62,iv63⟩,hx64,h⟩:=bind_some h
    refine AWP.seqJ (⟨[(0,.c (.own 4 0 c62.length)),(1,.c (.fn 39 [.ptr 1 0 0,.ptr 2 0 0])),(5,(cI iv63)),(6,(cI j58))],[.dead,(o1 (.own 3 0 l3.length)),(o1 (row 1 b9 c)),(oV 1 intI l3),(oV 1 b9 c62)]⟩) ?_ ?_
    ·refine AWP.j (.e ?_)
     obtain⟨a24,ha24,hx64⟩:=bind_some hx64
     refine AWP.G 2 Z (S.idxO ha24 Z Z Z Z Z (S.loadO ha24 Z Z Z Z Z (.u Z Z (.nil (b5 (.e ?_))))))
     obtain⟨a28,ha28,hx64⟩:=bind_some hx64
     refine AWP.G 2 Z (.U Z Z (.cons (.c .imm) (.cons (.c (.ptr (es:=[.sl 1 (List.map intI l3)]) Z Z (.cons (.own Z Z) .nil))) (.cons (.c (.ptr (es:=[.sl 1 (List.map b9 c)]) Z Z (.cons .imm .nil))) .nil))) Z (am7 ha28) Z (.not Z Z (.nil (b5 (.E Z hx64 (fun hc65 hx64=> ?_) (fun hc65 hx64=> ?_))))))
     ·refine AWP.e ?_
      obtain⟨a33,ha33,hx64⟩:=bind_some hx64
      refine AWP.G 3 Z (S.idxO ha33 Z Z Z Z Z (S.storeO1 (f:=b9) (a':=a24) (q7 ha33) (fun _=>⟨_,Z⟩) Z Z Z Z Z ?_))
      refine AOps.nil (b5 (.G 3 Z (.nil (d6 ?_))))
      obtain⟨ej0,ej1⟩:=o2 hx64
      subst ej0 ej1
      refine b5 (Sub.env ⟨(o7 (by first|rfl|simp only[lS])),Z,Z,Z,Y⟩)
     ·refine AWP.skip (d6 ?_)
      obtain⟨ej0,ej1⟩:=o2 hx64
      subst ej0 ej1
      refine b5 (Sub.en Z)
    ·try dsimp only at h
     refine AWP.G 3 Z (.nil ?_)
     obtain rfl:=oi h
     refine b5 ⟨_,Z,?_⟩
     exact Sub.en Z
   ·refine AWP.exit (i5 ?_)
    obtain rfl:=oi h
    refine i5 ⟨_,Z,Z,?_⟩
    exact Sub.en Z
  ·intro e s hq
   obtain⟨rfl,hs⟩:=hq
   refine⟨_,hs,?_⟩
   refine f9 (b5 (.e ?_))
   obtain⟨u38,hu38,h⟩:=bind_some h
   refine AWP.G 2 Z (S.vFrom (D3 c59) hu38 Z Z Z Z Z Z (S.clear (a0:=[]) Z Z Z (fun _ _ _ _=>.imm .slNil) (ai9 (D3 c59) hu38) Z Z Z Z Z ?_))
   refine AOps.nil (b5 (.e ?_))
   obtain⟨u41,hu41,h⟩:=bind_some h
   refine AWP.G 2 Z ?_
   refine S.vTo (D3 (clrL c59 (0+iv60) ((c59.length:Int) - iv60) [])) hu41 Z Z (by rw[Int.toNat_natCast];exact(clrL_len (ai9 (D3 c59) hu38)).symm) Z Z Z ?_
   refine AOps.u Z Z (.nil (b5 (.reown (env':=[(4,.c (.own 5 0 ((r8 (clrL c59 (0+iv60) ((c59.length:Int) - iv60) []) 0 iv60).length)))]) 4 (vw_to (D3 (clrL c59 (0+iv60) ((c59.length:Int) - iv60) [])) hu41) Z Z Z Z Z Z Z Z (by exact⟨.inl ⟨Z,Z⟩,Y⟩) (.ret ?_))))
   obtain rfl:=oi h
   exact⟨⟨[(4,.c (.own 4 0 ((r8 (clrL c59 (0+iv60) ((c59.length:Int) - iv60) []) 0 iv60).length)))],[.dead,(o1 (.own 3 0 l3.length)),(o1 (row 1 b9 c)),(oV 1 intI l3),(oV 1 b9 (r8 (clrL c59 (0+iv60) ((c59.length:Int) - iv60) []) 0 iv60))]⟩,(Sub.move (env':=[(4,.c (.own 4 0 ((r8 (clrL c59 (0+iv60) ((c59.length:Int) - iv60) []) 0 iv60).length)))]) (σ':=[.dead,(o1 (.own 3 0 l3.length)),(o1 (row 1 b9 c)),(oV 1 intI l3),(oV 1 b9 (r8 (clrL c59 (0+iv60) ((c59.length:Int) - iv60) []) 0 iv60))]) 4 5 Z Z Z ⟨Z,Y⟩ Z ⟨Y,⟨Z,Z⟩,⟨Z,Z⟩,⟨Blk.im_ok _ _ _,i7 Z⟩,⟨Blk.im_ok _ _ _,i7 Z⟩,Y⟩).trans (Sub.env ⟨Z,Y⟩),Done.ret Z ⟨Z,Z⟩⟩
theorem af0{l:LL}{Facts:Int}{Init:Li}{Goal:Li}{Operators:List g9}{r:(LL)}(h:H0 l Facts Init Goal Operators=some r):FnOk prog 37 [.c (.own 0 0 l.length),.c (.fn 88 [.ptr 1 0 0])] (M8 l Facts Init Goal Operators) (fun tt ss=>tt=.c (.own 2 0 r.length)∧ss=[.dead,(oE 4 [int Facts,row 1 intI Init,row 1 intI Goal,row 3 d7 Operators]),(oV 1 b9 r)]):=by
 refine FnOk.enter (rs:=[.t 4]) func37 Z ntmps37 results37 Z ⟨Y,Y⟩ (by kernel_rfl) Z ?_
 refine AWP.weak ?_
 unfold H0 at h
 refine AWP.z (env':=[(0,.c (.own 2 0 l.length)),(1,.c (.fn 88 [.ptr 1 0 0]))]) (σ':=[.dead,(oE 4 [int Facts,row 1 intI Init,row 1 intI Goal,row 3 d7 Operators]),(oV 1 b9 l)]) 2 0 Z Z Z ⟨Z,Z,Y⟩ Z ⟨Y,⟨Z,Z⟩,⟨Blk.im_ok _ _ _,i7 Z⟩,Y⟩ (.gk 1 Z (.e ?_))
 obtain⟨a10,ha10,h⟩:=bind_some h
 refine AWP.G 2 Z (.U Z Z (.cons (.c (.own Z Z)) (.cons (.c (.fn (.cons (.ptr (es:=[.val (.int .i64 Facts),.sl 1 (List.map intI Init),.sl 1 (List.map intI Goal),.sl 3 (List.map d7 Operators)]) Z Z (.cons .imm (.cons .imm (.cons .imm (.cons .imm .nil))))) .nil))) .nil)) Z (K1 Z (fun hy=>by exact(ah0 hy:)) ha10) Z ?_)
 refine AOps.u Z Z (.nil (b5 (.e (.gk 2 Z (.J Z h (fun hc57 h=> ?_) (fun hc57 h=> ?_))))))
 ·refine AWP.gk 2 Z (.ret (d9 ?_))
  obtain rfl:=oi h
  exact⟨⟨[(4,.c (.own 2 0 l.length))],[.dead,(oE 4 [int Facts,row 1 intI Init,row 1 intI Goal,row 3 d7 Operators]),(oV 1 b9 l)]⟩,Sub.env ⟨Z,Y⟩,Done.ret Z ⟨Z,Z⟩⟩
 ·refine AWP.skip (b5 (.e (.gk 3 Z (.j ?_))))
  obtain⟨⟨c61,iv62⟩,ho1,h⟩:=bind_some h
  try dsimp only at h
  refine AWP.loopS ho1 (fun(c58,iv59,j60)=>⟨[(0,.c (.own 2 0 c58.length)),(1,.c (.fn 88 [.ptr 1 0 0])),(5,(cI iv59)),(6,(cI j60))],[.dead,(oE 4 [int Facts,row 1 intI Init,row 1 intI Goal,row 3 d7 Operators]),(oV 1 b9 c58)]⟩) (fun(c61,iv62) e st=>e=.exit 0∧Sub (M8 l Facts Init Goal Operators) st ⟨[(0,.c (.own 2 0 c61.length)),(5,(cI iv62))],[.dead,(oE 4 [int Facts,row 1 intI Init,row 1 intI Goal,row 3 d7 Operators]),(oV 1 b9 c61)]⟩) ?_ ?_ ?_
  ·try dsimp only
   exact Sub.en Z
  ·intro s o h
   obtain⟨c58,iv59,j60⟩:=s
   unfold M9 at h
   try dsimp only at h ⊢
   refine AWP.e (.gs 2 Z (S.lenO Z Z Z (fun hl18=>.ge 1 Z (.J Z h (fun hc63 h=> ?_) (fun hc63 h=> ?_)))))
   ·refine AWP.skip (b5 ?_)
    obtain⟨⟨c64,iv65⟩,hx66,h⟩:=bind_some h
    refine AWP.seqJ (⟨[(0,.c (.own 2 0 c64.length)),(1,.c (.fn 88 [.ptr 1 0 0])),(5,(cI iv65)),(6,(cI j60))],[.dead,(oE 4 [int Facts,row 1 intI Init,row 1 intI Goal,row 3 d7 Operators]),(oV 1 b9 c64)]⟩) ?_ ?_
    ·refine AWP.j (.e ?_)
     obtain⟨a24,ha24,hx66⟩:=bind_some hx66
     refine AWP.G 2 Z (S.idxO ha24 Z Z Z Z Z (S.loadO ha24 Z Z Z Z Z (.u Z Z (.nil (b5 (.e ?_))))))
     obtain⟨a28,ha28,hx66⟩:=bind_some hx66
     refine AWP.G 2 Z (.U Z Z (.cons (.c .imm) (.cons (.c (.ptr (es:=[.val (.int .i64 Facts),.sl 1 (List.map intI Init),.sl 1 (List.map intI Goal),.sl 3 (List.map d7 Operators)]) Z Z (.cons .imm (.cons .imm (.cons .imm (.cons .imm .nil)))))) .nil)) Z (ah0 ha28) Z (.not Z Z (.nil (b5 (.E Z hx66 (fun hc67 hx66=> ?_) (fun hc67 hx66=> ?_))))))
     ·refine AWP.e ?_
      obtain⟨a33,ha33,hx66⟩:=bind_some hx66
      refine AWP.G 3 Z (S.idxO ha33 Z Z Z Z Z (S.storeO1 (f:=b9) (a':=a24) (q7 ha33) (fun _=>⟨_,Z⟩) Z Z Z Z Z ?_))
      refine AOps.nil (b5 (.G 3 Z (.nil (d6 ?_))))
      obtain⟨ej0,ej1⟩:=o2 hx66
      subst ej0 ej1
      refine b5 (Sub.env ⟨(o7 (by first|rfl|simp only[lS])),Z,Z,Z,Y⟩)
     ·refine AWP.skip (d6 ?_)
      obtain⟨ej0,ej1⟩:=o2 hx66
      subst ej0 ej1
      refine b5 (Sub.en Z)
    ·try dsimp only at h
     refine AWP.G 3 Z (.nil ?_)
     obtain rfl:=oi h
     refine b5 ⟨_,Z,?_⟩
     exact Sub.en Z
   ·refine AWP.exit (i5 ?_)
    obtain rfl:=oi h
    refine i5 ⟨_,Z,Z,?_⟩
    exact Sub.en Z
  ·intro e s hq
   obtain⟨rfl,hs⟩:=hq
   refine⟨_,hs,?_⟩
   refine f9 (b5 (.e ?_))
   obtain⟨u38,hu38,h⟩:=bind_some h
   refine AWP.G 2 Z (S.vFrom (D3 c61) hu38 Z Z Z Z Z Z (S.clear (a0:=[]) Z Z Z (fun _ _ _ _=>.imm .slNil) (ai9 (D3 c61) hu38) Z Z Z Z Z ?_))
   refine AOps.nil (b5 (.e ?_))
   obtain⟨u41,hu41,h⟩:=bind_some h
   refine AWP.G 2 Z ?_
   refine S.vTo (D3 (clrL c61 (0+iv62) ((c61.length:Int) - iv62) [])) hu41 Z Z (by rw[Int.toNat_natCast];exact(clrL_len (ai9 (D3 c61) hu38)).symm) Z Z Z ?_
   refine AOps.u Z Z (.nil (b5 (.reown (env':=[(4,.c (.own 3 0 ((r8 (clrL c61 (0+iv62) ((c61.length:Int) - iv62) []) 0 iv62).length)))]) 4 (vw_to (D3 (clrL c61 (0+iv62) ((c61.length:Int) - iv62) [])) hu41) Z Z Z Z Z Z Z Z (by exact⟨.inl ⟨Z,Z⟩,Y⟩) (.ret ?_))))
   obtain rfl:=oi h
   exact⟨⟨[(4,.c (.own 2 0 ((r8 (clrL c61 (0+iv62) ((c61.length:Int) - iv62) []) 0 iv62).length)))],[.dead,(oE 4 [int Facts,row 1 intI Init,row 1 intI Goal,row 3 d7 Operators]),(oV 1 b9 (r8 (clrL c61 (0+iv62) ((c61.length:Int) - iv62) []) 0 iv62))]⟩,(Sub.move (env':=[(4,.c (.own 2 0 ((r8 (clrL c61 (0+iv62) ((c61.length:Int) - iv62) []) 0 iv62).length)))]) (σ':=[.dead,(oE 4 [int Facts,row 1 intI Init,row 1 intI Goal,row 3 d7 Operators]),(oV 1 b9 (r8 (clrL c61 (0+iv62) ((c61.length:Int) - iv62) []) 0 iv62))]) 2 3 Z Z Z ⟨Z,Y⟩ Z ⟨Y,⟨Z,Z⟩,⟨Blk.im_ok _ _ _,i7 Z⟩,Y⟩).trans (Sub.env ⟨Z,Y⟩),Done.ret Z ⟨Z,Z⟩⟩
theorem U7{ov:d5}{l:LL}{r:(LL)}(h:E2 ov l=some r):FnOk prog 41 [.agg (tO ov),.c (.own 0 0 l.length)] (aw4 ov l) (fun tt ss=>tt=.c (.own 3 0 r.length)∧ss=[.dead,.dead,.dead,(oV 1 b9 r)]):=by
 refine FnOk.enter (rs:=[.t 4]) func41 Z ntmps41 results41 Z ⟨Y,Y⟩ (by kernel_rfl) Z ?_
 refine AWP.weak ?_
 unfold E2 at h
 refine AWP.z (env':=[(0,.agg (tO ov)),(1,.c (.own 1 0 l.length))]) (σ':=[.dead,(oV 1 b9 l)]) 1 0 Z Z Z ⟨Z,Z,Y⟩ Z ⟨Y,⟨Blk.im_ok _ _ _,i7 Z⟩,Y⟩ (.gk 2 Z (.e ?_))
 obtain⟨a7,ha7,h⟩:=bind_some h
 refine AWP.G 1 Z (.aa Z Z (.callF (r2:=.c (.own 3 0 a7.length)) (σ'':=[.dead,.dead,(oE 4 (tO ov)),(oV 1 b9 a7)]) Z Z Z (FnOk.lend [1,2] (af0 ha7) Z Z Z Z Z Z (by exact⟨.vec,(.one Z),Y⟩) Z (by exact⟨(.live Z .vec),(.live Z (.one Z)),Y⟩) Z Z (by exact⟨.dead,.dead,(.new 1 Z Z (.one Z)),(.new 2 Z Z .vec),Y⟩)) (.u Z Z (.nil (b5 (.ret ?_))))))
 obtain rfl:=oi h
 exact⟨⟨[(4,.c (.own 3 0 a7.length))],[.dead,.dead,.dead,(oV 1 b9 a7)]⟩,Sub.cut ⟨Z,Y⟩ Z ⟨.dead,.dead,.dead,.vec,Y⟩ Z,Done.ret Z ⟨Z,Z⟩⟩
theorem X0{states:LL}{l:LL}{r:Li×Int}(h:w8 states l=some r):FnOk prog 47 [.agg [row 1 b9 states,.own 0 0 l.length]] (M5 states l) (fun tt ss=>tt=.tup [.c (.own 2 0 r.1.length),(cI r.2)]∧ss=[.dead,.dead,(oV 1 intI r.1)]):=by
 refine FnOk.enter (rs:=[.t 2,.t 3]) func47 Z ntmps47 results47 Z ⟨Y,Y,Y⟩ (by kernel_rfl) Z ?_
 refine AWP.weak ?_
 unfold w8 at h
 refine AWP.moveM (env':=[(0,.agg [row 1 b9 states,.own 1 0 l.length])]) (σ':=[.dead,mat (1,[]) 1 intI l]) 1 0 Z Z Z ⟨Z,Y⟩ Z ⟨.dead,(.mat Z Z Z),Y⟩ (.gk 3 Z (.gs 2 Z (S.lenM Z Z Z (fun hl15=>.ge 1 Z (.gk 3 Z (.gk 1 Z (.e (.gk 2 Z (.j ?_)))))))))
 obtain⟨⟨c55,last56⟩,ho1,h⟩:=bind_some h
 try dsimp only at h
 refine AWP.forH ho1 (fun t57 (c55,last56)=>⟨[(4,(cI (l.length:Int))),(5,.c (.own 1 0 c55.length)),(6,(cI last56)),(18,(cI (l.length:Int))),(19,(cI t57))],[.dead,mat (1,[]) 1 intI c55]⟩) (fun _ _=>Z) ?_ ?_ ?_
 ·try dsimp only
  exact Sub.cut ⟨Z,Z,Z,Z,Z,Y⟩ Z ⟨.dead,.mat Z,Y⟩ Z
 ·intro t57 s o hlot57 hltt57 h
  obtain⟨c55,last56⟩:=s
  unfold B4 at h
  try dsimp only at h ⊢
  refine AWP.e (.j (.gk 2 Z (.gk 2 Z (.e (.j ?_)))))
  obtain⟨u,ho2,h⟩:=bind_some h
  refine AWP.loopS ho2 (fun _=>⟨[(4,(cI (l.length:Int))),(5,.c (.own 1 0 c55.length)),(6,(cI last56)),(7,(cI t57)),(8,(cI t57)),(18,(cI (l.length:Int))),(19,(cI t57))],[.dead,mat (1,[]) 1 intI c55]⟩) (fun _ e st=>e=.exit 2∧Sub (M5 states l) st ⟨[(4,(cI (l.length:Int))),(5,.c (.own 1 0 c55.length)),(6,(cI last56)),(7,(cI t57)),(8,(cI t57)),(18,(cI (l.length:Int))),(19,(cI t57))],[.dead,mat (1,[]) 1 intI c55]⟩) ?_ ?_ ?_
  ·try dsimp only
   exact Sub.en Z
  ·intro s o h
   unfold B6 at h
   try dsimp only at h ⊢
   refine AWP.e ?_
   obtain⟨t58,hx59,h⟩:=bind_some h
   refine AWP.seqJ (⟨[(4,(cI (l.length:Int))),(5,.c (.own 1 0 c55.length)),(6,(cI last56)),(7,(cI t57)),(8,(cI t57)),(18,(cI (l.length:Int))),(19,(cI t57)),(36,(cB t58))],[.dead,mat (1,[]) 1 intI c55]⟩) ?_ ?_
   ·rcases bft (decide (t57<(l.length:Int) - 1)) with hb60|hb60
    ·replace hx59:=F8 hb60 hx59
     obtain⟨a30,ha30,a33,ha33,hx59⟩:=b2 hx59
     refine AWP.G 2 Z (.sub' Z Z Z (by omega) (.G 2 Z (.K Z Z hb60 (.G 2 Z (.F Z Z Z Z (S.idxH ha30 Z Z Z (by simp) Z Z (.F Z Z Z Z (S.loadM ha30 Z Z Z Z (.G 1 Z (.F Z Z Z Z (S.idxO ha33 Z Z (x4 Z ha30) Z Z (.F Z Z Z Z (S.loadO ha33 Z Z (x4 Z ha30) Z Z (.G 2 Z (.nil ?_)))))))))))))))
     obtain rfl:=oi hx59
     refine b5 (Sub.en Z)
    ·replace hx59:=F1 hb60 hx59
     refine AWP.G 2 Z (.sub' Z Z Z (by omega) (.G 2 Z (.K Z Z hb60 (.G 9 Z (.nil ?_)))))
     obtain rfl:=oi hx59
     refine b5 (Sub.en Z)
   ·refine AWP.E Z h (fun hc61 h=> ?_) (fun hc61 h=> ?_)
    ·refine AWP.skip (b5 (.j ?_))
     cases h
    ·refine AWP.exit (i5 ?_)
     obtain rfl:=oi h
     refine i5 ⟨_,Z,Z,?_⟩
     exact Sub.en Z
  ·intro e s hq
   obtain⟨rfl,hs⟩:=hq
   refine⟨_,hs,?_⟩
   refine f9 (b5 (.e ?_))
   obtain⟨a45,ha45,a49,ha49,a51,ha51,h⟩:=b3 h
   obtain⟨a52,ha52,h⟩:=bind_some h
   refine AWP.drawEI [13,15] mixed Z Z Z (b8.D 6 Z Z ?_)
   refine b8.consN Z Z (fun E=>S.idxH ha45 Z Z Z (by simp) Z Z .N) Z (.consN Z Z (fun E=>S.loadM ha45 Z Z Z Z .N) Z ?_)
   refine b8.D 2 Z Z ?_
   refine b8.consN Z Z (fun E=>S.idxH ha49 Z Z Z (by simp) Z Z .N) Z (.consN Z Z (fun E=>S.loadM ha49 Z Z Z Z .N) Z (.consN Z Z (fun E=>S.idxH ha51 Z Z Z (by simp) Z Z .N) Z ?_))
   apply b8.consE (v:=.undef);exact Z;exact Z;intro E
   refine S.storeHS (k:=1) (f:=intI) ha45 Z Z Z .N
   exact Z
   exact Z
   refine b8.consN Z Z (fun E=>S.idxH ha52 Z Z Z (by simp) Z Z .N) Z ?_
   apply b8.consE (v:=.undef);exact Z;exact Z;intro E
   refine S.storeHS (k:=1) (f:=intI) ha49 Z Z Z .N
   exact Z
   exact Z
   refine b8.done Z ?_ ?_
   ·refine d8.D 6 Z Z ?_
    refine d8.cons Z Z (.go Z Z (fun E=>S.idxH ha45 Z Z Z (by simp) Z Z .N) (.skip Z (.skip Z .nil))) (.cons Z Z (.go Z Z (fun E=>S.loadM ha45 Z Z Z Z .N) (.skip Z (.skip Z .nil))) ?_)
    refine d8.D 2 Z Z ?_
    refine d8.cons Z Z (.go Z Z (fun E=>S.idxH ha49 Z Z Z (by simp) Z Z .N) (.skip Z (.skip Z .nil))) (.cons Z Z (.go Z Z (fun E=>S.loadM ha49 Z Z Z Z .N) (.skip Z (.skip Z .nil))) (.cons Z Z (.go Z Z (fun E=>S.idxH ha51 Z Z Z (by simp) Z Z .N) (.skip Z (.skip Z .nil))) ?_))
    refine d8.D 1 Z Z ?_
    refine d8.cons Z Z ?_ ?_
    refine i6.skip Z ?_
    refine i6.go Z Z (fun E=>S.idxH ha52 Z Z Z (by simp) Z Z .N) ?_
    refine i6.skip Z (i6.nil)
    refine d8.D 1 Z Z (d8.nil)
   dsimp only[h9]
   refine b5 (.e (.gk 2 Z (.j ?_)))
   obtain⟨c62,ho3,h⟩:=bind_some h
   refine AWP.forH ho3 (fun t63 c62=>⟨[(4,(cI (l.length:Int))),(5,.c (.own 1 0 c62.length)),(6,(cI last56)),(7,(cI t57)),(18,(cI (l.length:Int))),(19,(cI t57)),(53,(cI (l.length:Int))),(54,(cI t63))],[.dead,mat (1,[]) 1 intI c62]⟩) (fun _ _=>Z) ?_ ?_ ?_
   ·try dsimp only
    exact Sub.en Z
   ·intro t63 c62 o hlot63 hltt63 h
    unfold B8 at h
    try dsimp only at h ⊢
    obtain⟨c64,hx65,h⟩:=bind_some h
    refine AWP.seqJ (⟨[(4,(cI (l.length:Int))),(5,.c (.own 1 0 c64.length)),(6,(cI last56)),(7,(cI t57)),(18,(cI (l.length:Int))),(19,(cI t57)),(53,(cI (l.length:Int))),(54,(cI t63))],[.dead,mat (1,[]) 1 intI c64]⟩) ?_ ?_
    ·refine AWP.j (.gk 2 Z (.e (.gk 3 Z (.J Z hx65 (fun hc66 hx65=> ?_) (fun hc66 hx65=> ?_)))))
     ·refine AWP.exit (i5 (f9 ?_))
      obtain rfl:=oi hx65
      refine b5 (Sub.en Z)
     ·refine AWP.skip (b5 (.e (.gk 2 Z (.j ?_))))
      obtain⟨c69,ho4,hx65⟩:=bind_some hx65
      refine AWP.loopS ho4 (fun(c67,j68)=>⟨[(4,(cI (l.length:Int))),(5,.c (.own 1 0 c67.length)),(6,(cI last56)),(7,(cI t57)),(9,(cI t63)),(10,(cI j68)),(18,(cI (l.length:Int))),(19,(cI t57)),(53,(cI (l.length:Int))),(54,(cI t63))],[.dead,mat (1,[]) 1 intI c67]⟩) (fun c69 e st=>e=.exit 6∧Sub (M5 states l) st ⟨[(4,(cI (l.length:Int))),(5,.c (.own 1 0 c69.length)),(6,(cI last56)),(7,(cI t57)),(9,(cI t63)),(18,(cI (l.length:Int))),(19,(cI t57)),(53,(cI (l.length:Int))),(54,(cI t63))],[.dead,mat (1,[]) 1 intI c69]⟩) ?_ ?_ ?_
      ·try dsimp only
       exact Sub.en Z
      ·intro s o h
       obtain⟨c67,j68⟩:=s
       unfold B5 at h
       try dsimp only at h ⊢
       refine AWP.e (.gk 2 Z (.J Z h (fun hc70 h=> ?_) (fun hc70 h=> ?_)))
       ·refine AWP.skip (b5 ?_)
        obtain⟨c71,hx72,h⟩:=bind_some h
        refine AWP.seqJ (⟨[(4,(cI (l.length:Int))),(5,.c (.own 1 0 c71.length)),(6,(cI last56)),(7,(cI t57)),(9,(cI t63)),(10,(cI j68)),(18,(cI (l.length:Int))),(19,(cI t57)),(53,(cI (l.length:Int))),(54,(cI t63))],[.dead,mat (1,[]) 1 intI c71]⟩) ?_ ?_
        ·refine AWP.j (.gk 3 Z (.iteN Z hx72 (fun hc73 hx72=> ?_) (fun hc73 hx72=> ?_)))
         ·obtain⟨a70,ha70,a75,ha75,a78,ha78,hx72⟩:=b3 hx72
          obtain⟨a82,ha82,a85,ha85,a90,ha90,hx72⟩:=b3 hx72
          obtain⟨a93,ha93,a97,ha97,a100,ha100,hx72⟩:=b3 hx72
          obtain⟨u105,hu105,a106,ha106,hx72⟩:=b2 hx72
          refine AWP.drawEI [39] mixed Z Z Z (b8.D 2 Z Z ?_)
          refine b8.consN Z Z (fun E=>S.idxH ha70 Z Z Z (by simp) Z Z .N) Z (.consN Z Z (fun E=>S.loadM ha70 Z Z Z Z .N) Z ?_)
          refine b8.D 3 Z Z ?_
          refine b8.consN Z Z (fun E=>S.idxH ha75 Z Z Z (by simp) Z Z .N) Z (.consN Z Z (fun E=>S.loadM ha75 Z Z Z Z .N) Z ?_)
          refine b8.D 1 Z Z ?_
          refine b8.consN Z Z (fun E=>S.idxO ha78 Z Z (x4 Z ha75) Z Z .N) Z (.consN Z Z (fun E=>S.loadO ha78 Z Z (x4 Z ha75) Z Z .N) Z ?_)
          refine b8.D 2 Z Z ?_
          refine b8.consN Z Z (fun E=>S.idxH ha82 Z Z Z (by simp) Z Z .N) Z (.consN Z Z (fun E=>S.loadM ha82 Z Z Z Z .N) Z ?_)
          refine b8.D 1 Z Z ?_
          refine b8.consN Z Z (fun E=>S.idxO ha85 Z Z (x4 Z ha82) Z Z .N) Z (.consN Z Z (fun E=>S.loadO ha85 Z Z (x4 Z ha82) Z Z .N) Z ?_)
          refine b8.D 3 Z Z ?_
          refine b8.consN Z Z (fun E=>S.idxH ha90 Z Z Z (by simp) Z Z .N) Z (.consN Z Z (fun E=>S.loadM ha90 Z Z Z Z .N) Z ?_)
          refine b8.D 1 Z Z ?_
          refine b8.consN Z Z (fun E=>S.idxO ha93 Z Z (x4 Z ha90) Z Z .N) Z (.consN Z Z (fun E=>S.loadO ha93 Z Z (x4 Z ha90) Z Z .N) Z ?_)
          refine b8.D 2 Z Z ?_
          refine b8.consN Z Z (fun E=>S.idxH ha97 Z Z Z (by simp) Z Z .N) Z (.consN Z Z (fun E=>S.loadM ha97 Z Z Z Z .N) Z ?_)
          refine b8.D 1 Z Z ?_
          refine b8.consN Z Z (fun E=>S.idxO ha100 Z Z (x4 Z ha97) Z Z .N) Z (.consN Z Z (fun E=>S.loadO ha100 Z Z (x4 Z ha97) Z Z .N) Z ?_)
          refine b8.D 3 Z Z ?_
          refine b8.consN Z Z (fun E=>S.quo hu105 Z Z Z .N) Z (.consN Z Z (fun E=>S.idxO ha106 Z Z (x4 Z ha70) Z Z .N) Z ?_)
          apply b8.consE (v:=.undef);exact Z;exact Z;intro E
          refine S.storeR1 (f:=intI) (a':=w64 ((w64 ((w64 (a78 * a85)) - (w64 (a93 * a100)))).tdiv last56)) (L8 ha70).2 (q7 ha106) (fun _=>⟨_,Z⟩) Z Z Z Z Z ?_
          exact AOps.nil ⟨Z,Z⟩
          exact Z
          exact Z
          refine b8.done Z ?_ ?_
          ·refine d8.D 2 Z Z ?_
           refine d8.cons Z Z (.go Z Z (fun E=>S.idxH ha70 Z Z Z (by simp) Z Z .N) (.skip Z .nil)) (.cons Z Z (.go Z Z (fun E=>S.loadM ha70 Z Z Z Z .N) (.skip Z .nil)) ?_)
           refine d8.D 3 Z Z ?_
           refine d8.cons Z Z (.go Z Z (fun E=>S.idxH ha75 Z Z Z (by simp) Z Z .N) (.skip Z .nil)) (.cons Z Z (.go Z Z (fun E=>S.loadM ha75 Z Z Z Z .N) (.skip Z .nil)) ?_)
           refine d8.D 1 Z Z ?_
           refine d8.cons Z Z (.go Z Z (fun E=>S.idxO ha78 Z Z (x4 Z ha75) Z Z .N) (.skip Z .nil)) (.cons Z Z (.go Z Z (fun E=>S.loadO ha78 Z Z (x4 Z ha75) Z Z .N) (.skip Z .nil)) ?_)
           refine d8.D 2 Z Z ?_
           refine d8.cons Z Z (.go Z Z (fun E=>S.idxH ha82 Z Z Z (by simp) Z Z .N) (.skip Z .nil)) (.cons Z Z (.go Z Z (fun E=>S.loadM ha82 Z Z Z Z .N) (.skip Z .nil)) ?_)
           refine d8.D 1 Z Z ?_
           refine d8.cons Z Z (.go Z Z (fun E=>S.idxO ha85 Z Z (x4 Z ha82) Z Z .N) (.skip Z .nil)) (.cons Z Z (.go Z Z (fun E=>S.loadO ha85 Z Z (x4 Z ha82) Z Z .N) (.skip Z .nil)) ?_)
           refine d8.D 3 Z Z ?_
           refine d8.cons Z Z (.go Z Z (fun E=>S.idxH ha90 Z Z Z (by simp) Z Z .N) (.skip Z .nil)) (.cons Z Z (.go Z Z (fun E=>S.loadM ha90 Z Z Z Z .N) (.skip Z .nil)) ?_)
           refine d8.D 1 Z Z ?_
           refine d8.cons Z Z (.go Z Z (fun E=>S.idxO ha93 Z Z (x4 Z ha90) Z Z .N) (.skip Z .nil)) (.cons Z Z (.go Z Z (fun E=>S.loadO ha93 Z Z (x4 Z ha90) Z Z .N) (.skip Z .nil)) ?_)
           refine d8.D 2 Z Z ?_
           refine d8.cons Z Z (.go Z Z (fun E=>S.idxH ha97 Z Z Z (by simp) Z Z .N) (.skip Z .nil)) (.cons Z Z (.go Z Z (fun E=>S.loadM ha97 Z Z Z Z .N) (.skip Z .nil)) ?_)
           refine d8.D 1 Z Z ?_
           refine d8.cons Z Z (.go Z Z (fun E=>S.idxO ha100 Z Z (x4 Z ha97) Z Z .N) (.skip Z .nil)) (.cons Z Z (.go Z Z (fun E=>S.loadO ha100 Z Z (x4 Z ha97) Z Z .N) (.skip Z .nil)) ?_)
           refine d8.D 3 Z Z ?_
           refine d8.cons Z Z (.go Z Z (fun E=>S.quo hu105 Z Z Z .N) (.skip Z .nil)) (.cons Z Z (.go Z Z (fun E=>S.idxO ha106 Z Z (x4 Z ha70) Z Z .N) (.skip Z .nil)) ?_)
           refine d8.D 1 Z Z (d8.nil)
          dsimp only[h9]
          refine d6 ?_
          obtain rfl:=oi hx72
          refine b5 (Sub.env ⟨Z,(o7 (by first|rfl|simp only[lS])),Z,Z,Z,Z,Z,Z,Z,Z,Y⟩)
         ·refine AWP.skip (d6 ?_)
          obtain rfl:=oi hx72
          refine b5 (Sub.en Z)
        ·refine AWP.G 3 Z (.nil ?_)
         obtain rfl:=oi h
         refine b5 ⟨_,Z,?_⟩
         exact Sub.en Z
       ·refine AWP.exit (i5 ?_)
        obtain rfl:=oi h
        refine i5 ⟨_,Z,Z,?_⟩
        exact Sub.en Z
      ·intro e s hq
       obtain⟨rfl,hs⟩:=hq
       refine⟨_,hs,?_⟩
       refine f9 (b5 ?_)
       obtain⟨a109,ha109,a112,ha112,hx65⟩:=b2 hx65
       refine AWP.G 2 Z (S.idxH ha109 Z Z Z (by simp) Z Z (S.loadM ha109 Z Z Z Z (.z Z Z (S.idxO ha112 Z Z (x4 Z ha109) Z Z (S.storeR1 (f:=intI) (a':=0) (L8 ha109).2 (q7 ha112) (fun _=>⟨_,Z⟩) Z Z Z Z Z ?_)))))
       refine AOps.nil (d6 ?_)
       obtain rfl:=oi hx65
       refine b5 (Sub.env ⟨Z,(o7 (by first|rfl|simp only[lS])),Z,Z,Z,Z,Z,Z,Y⟩)
    ·refine AWP.O (.add Z Z Z (by omega) (.z Z Z (.nil ?_)))
     obtain rfl:=oi h
     refine b5 (Sub.en Z)
   ·intro iz
    try dsimp only
    refine f9 (b5 ?_)
    obtain⟨a116,ha116,a119,ha119,h⟩:=b2 h
    refine AWP.G 2 Z (S.idxH ha116 Z Z Z (by simp) Z Z (S.loadM ha116 Z Z Z Z (.z Z Z (S.idxO ha119 Z Z (x4 Z ha116) Z Z (S.loadO ha119 Z Z (x4 Z ha116) Z Z (.u Z Z (.nil (d6 (b5 (.O (.add Z Z Z (by omega) (.z Z Z (.nil ?_)))))))))))))
    obtain rfl:=oi h
    refine b5 (Sub.en Z)
 ·intro iz
  try dsimp only
  refine f9 (b5 (.e ?_))
  obtain⟨a123,ha123,h⟩:=bind_some h
  refine AWP.G 1 Z (S.make (f:=intI) ha123 (.val .nil) Z Z Z Z Z Z (.u Z Z (.nil (b5 (.e (.gs 1 Z (S.lenO Z Z Z (fun hl125=>.ge 1 Z (.j ?_)))))))))
  obtain⟨c74,ho5,h⟩:=bind_some h
  refine AWP.forH ho5 (fun t75 c74=>⟨[(4,(cI (l.length:Int))),(5,.c (.own 1 0 c55.length)),(6,(cI last56)),(11,.c (.own 2 0 c74.length)),(125,(cI (a123.length:Int))),(126,(cI t75))],[.dead,mat (1,[]) 1 intI c55,(oV 1 intI c74)]⟩) (fun _ _=>Z) ?_ ?_ ?_
  ·try dsimp only
   exact Sub.en Z
  ·intro t75 c74 o hlot75 hltt75 h
   unfold F5 at h
   try dsimp only at h ⊢
   refine AWP.e (.j (.gk 2 Z ?_))
   obtain⟨a133,ha133,a136,ha136,a138,ha138,h⟩:=b3 h
   refine AWP.G 4 Z (S.idxH ha133 Z Z Z (by simp) Z Z (S.loadM ha133 Z Z Z Z (.z Z Z (S.idxO ha136 Z Z (x4 Z ha133) Z Z (S.loadO ha136 Z Z (x4 Z ha133) Z Z (S.idxO ha138 Z Z Z Z Z (S.storeO1 (f:=intI) (a':=a136) (q7 ha138) (fun _=>⟨_,Z⟩) Z Z Z Z Z ?_)))))))
   refine AOps.nil (d6 (b5 (.O (.add Z Z Z (by omega) (.z Z Z (.nil ?_))))))
   obtain rfl:=oi h
   refine b5 (Sub.env ⟨Z,Z,Z,(o7 (by first|rfl|simp only[lS])),Z,Z,Y⟩)
  ·intro iz
   try dsimp only
   refine f9 (b5 (.gk 4 Z (.ret ?_)))
   obtain rfl:=oi h
   exact⟨⟨[(2,.c (.own 2 0 c74.length)),(3,(cI last56))],[.dead,.dead,(oV 1 intI c74)]⟩,Sub.cut ⟨Z,Z,Y⟩ Z ⟨.dead,.dead,.vec,Y⟩ Z,Done.ret Z ⟨Z,Z⟩⟩
theorem al2{sv:Li}{op:Int}{ov:d5}{states:LL}{den:Int}{l:Li}{l7:Li}{r:Int×Int×Bool}(h:P7 sv op ov states den l l7=some r):FnOk prog 94 [(cP 0 0 0),(cR sv),(cI op)] (V5 sv op ov states den l l7) (fun tt ss=>tt=.tup [(cI r.1),(cI r.2.1),(cB r.2.2)]∧ss=[(oE 8 [int ov.facts,row 1 intI ov.init,row 1 intI ov.goal,row 3 d7 ov.operators,row 1 b9 states,.own 1 0 l.length,.own 2 0 l7.length,int den]),(oV 1 intI l),(oV 1 intI l7)]):=by
 refine FnOk.enter (rs:=[.t 6,.t 7,.t 8]) func94 Z ntmps94 results94 Z ⟨Y,Y,Y,Y⟩ (by kernel_rfl) Z ?_
 refine AWP.weak ?_
 unfold P7 at h
 refine AWP.gk 3 Z (.e ?_)
 obtain⟨a24,ha24,h⟩:=bind_some h
 refine AWP.G 6 Z (.q Z Z Z Z (y6 ha24) Z (.G 5 Z (.nil (b5 (.gk 2 Z (.e (.gs 1 Z (S.len Z Z (fun hl28=>.ge 1 Z (.j ?_))))))))))
 obtain⟨oo,ho1,h⟩:=bind_some h
 refine AWP.rngH ho1 (fun t63 (sum61,all62)=>⟨[(0,(cP 0 0 0)),(2,(cI op)),(10,(cR a24.2)),(11,(cI sum61)),(12,(cI all62)),(27,.c (row 1 b9 a24.1)),(28,(cI (a24.1.length:Int))),(29,(cI t63))],[(oE 8 [int ov.facts,row 1 intI ov.init,row 1 intI ov.goal,row 3 d7 ov.operators,row 1 b9 states,.own 1 0 l.length,.own 2 0 l7.length,int den]),(oV 1 intI l),(oV 1 intI l7)]⟩) (fun x e st=>e=.ret∧∃J,Sub (V5 sv op ov states den l l7) st J∧Done [.t 6,.t 7,.t 8] (fun tt ss=>tt=.tup [(cI x.1),(cI x.2.1),(cB x.2.2)]∧ss=[(oE 8 [int ov.facts,row 1 intI ov.init,row 1 intI ov.goal,row 3 d7 ov.operators,row 1 b9 states,.own 1 0 l.length,.own 2 0 l7.length,int den]),(oV 1 intI l),(oV 1 intI l7)]) .ret J) (fun _ _=>Z) ?_ ?_ ?_ ?_
 ·try dsimp only
  exact Sub.en Z
 ·intro t63 s o hlot63 hltt63 h
  obtain⟨sum61,all62⟩:=s
  unfold W0 at h
  try dsimp only at h ⊢
  refine AWP.seqF (E6) o (fun(sum64,all65)=>⟨[(0,(cP 0 0 0)),(2,(cI op)),(10,(cR a24.2)),(11,(cI sum64)),(12,(cI all65)),(27,.c (row 1 b9 a24.1)),(28,(cI (a24.1.length:Int))),(29,(cI t63))],[(oE 8 [int ov.facts,row 1 intI ov.init,row 1 intI ov.goal,row 3 d7 ov.operators,row 1 b9 states,.own 1 0 l.length,.own 2 0 l7.length,int den]),(oV 1 intI l),(oV 1 intI l7)]⟩) (fun x h=> ?_) ?_
  ·obtain⟨sum64,all65⟩:=x
   unfold E6 at h
   try dsimp only at h ⊢
   refine AWP.O (.add Z Z Z (by omega) (.z Z Z (.nil ?_)))
   obtain rfl:=oi h
   refine b5 ⟨_,Z,?_⟩
   exact Sub.en Z
  ·refine AWP.j (.e ?_)
   obtain⟨a32,ha32,h⟩:=bind_some h
   refine AWP.G 1 Z (S.idx ha32 Z Z Z Z (.G 3 Z (.nil (b5 (.e ?_)))))
   obtain⟨a37,ha37,h⟩:=bind_some h
   refine AWP.G 3 Z (S.idx ha37 Z Z Z Z (.G 3 Z (.nil (b5 (.e (.e ?_))))))
   obtain⟨a46,ha46,h⟩:=bind_some h
   refine AWP.G 6 Z (.q Z Z Z Z (m8 ha46) Z (.nil (b5 (.E Z h (fun hc66 h=> ?_) (fun hc66 h=> ?_)))))
   ·refine AWP.exit (i5 (f9 (b5 ⟨_,h,?_⟩)))
    exact Sub.en Z
   ·refine AWP.skip (b5 (.e ?_))
    obtain⟨a53,ha53,h⟩:=bind_some h
    refine AWP.G 5 Z (.q Z Z Z Z (A7 Z (fun hy=>v8 hy) ha53) Z ?_)
    refine AOps.G 5 Z (.nil (b5 (.e (.gk 2 Z (.E Z h (fun hc67 h=> ?_) (fun hc67 h=> ?_))))))
    ·refine AWP.gk 3 Z (.ret (d9 (i4 (d9 ?_))))
     obtain rfl:=oi h
     refine d9 ⟨_,Z,Z,?_⟩
     exact⟨⟨[(6,(cI 0)),(7,(cI 0)),(8,(cB false))],[(oE 8 [int ov.facts,row 1 intI ov.init,row 1 intI ov.goal,row 3 d7 ov.operators,row 1 b9 states,.own 1 0 l.length,.own 2 0 l7.length,int den]),(oV 1 intI l),(oV 1 intI l7)]⟩,Sub.env ⟨Z,Z,Z,Y⟩,Done.ret Z ⟨Z,Z⟩⟩
    ·refine AWP.skip (b5 ?_)
     obtain⟨a61,ha61,a68,ha68,h⟩:=b2 h
     refine AWP.drawI mixed Z (b7.D 3 Z ?_)
     refine b7.consF Z (fun E=>S.idx ha61 Z Z Z Z .N) Z ?_
     refine b7.D 6 Z ?_
     refine b7.consF Z (fun E=>S.idxO ha68 Z Z Z Z Z .N) Z (.consF Z (fun E=>S.loadO ha68 Z Z Z Z Z .N) Z ?_)
     refine b7.D 3 Z (b7.done ?_)
     dsimp only[h9]
     refine d6 (b5 ⟨_,h,?_⟩)
     exact Sub.en Z
 ·intro iz s he
  obtain⟨sum61,all62⟩:=s
  subst he
  try dsimp only at h ⊢
  refine f9 (b5 (.e ?_))
  obtain⟨a81,ha81,h⟩:=bind_some h
  refine AWP.drawI mixed Z (b7.D 8 Z ?_)
  refine b7.consF Z (fun E=>S.idx ha81 Z Z Z Z .N) Z ?_
  refine b7.D 13 Z (b7.done ?_)
  dsimp only[h9]
  refine b5 (.ret ?_)
  obtain rfl:=oi h
  exact⟨⟨[(6,(cI (w64 (sum61+(w64 ((w64 (all62 * a81.cost)) * den)))))),(7,(cI all62)),(8,(cB true))],[(oE 8 [int ov.facts,row 1 intI ov.init,row 1 intI ov.goal,row 3 d7 ov.operators,row 1 b9 states,.own 1 0 l.length,.own 2 0 l7.length,int den]),(oV 1 intI l),(oV 1 intI l7)]⟩,Sub.env ⟨Z,Z,Z,Y⟩,Done.ret Z ⟨Z,Z⟩⟩
 ·intro x e st he hq
  subst he
  try dsimp only at h hq
  obtain⟨rfl,hs⟩:=hq
  refine⟨_,Sub.refl _ _,?_⟩
  refine i4 (d9 ?_)
  obtain rfl:=oi h
  exact hs
theorem aj3{ov:d5}{states:LL}{den:Int}{l:Li}{l5:Li}{r:Li×Bool}(h:L3 ov states den l l5=some r):FnOk prog 48 [(cP 0 0 0)] (aj0 ov states den l l5) (fun tt ss=>tt=(cB r.2)∧ss=[(oE 8 [int ov.facts,row 1 intI ov.init,row 1 intI ov.goal,row 3 d7 ov.operators,row 1 b9 states,.own 3 0 r.1.length,.own 2 0 l5.length,int den]),(oV 1 intI l),(oV 1 intI l5),(oV 1 intI r.1)]):=by
 refine FnOk.enter (rs:=[.t 2]) func48 Z ntmps48 results48 Z ⟨Y,Y⟩ (by kernel_rfl) Z ?_
 refine AWP.weak ?_
 unfold L3 at h
 refine AWP.gk 1 Z (.gk 1 Z (.e ?_))
 obtain⟨a18,ha18,h⟩:=bind_some h
 refine AWP.G 4 Z (S.freshL (fun _=>Z) Z Z (.cons (.c (.own Z Z)) .nil) Z (C6 ha18) Z Z ?_)
 refine AOps.u Z Z (.nil (b5 (.e (.gs 4 Z (S.len Z Z (fun hl23=>.ge 1 Z (.j ?_)))))))
 obtain⟨⟨c58,better59⟩,ho1,h⟩:=bind_some h
 try dsimp only at h
 refine AWP.forH ho1 (fun t60 (c58,better59)=>⟨[(0,(cP 0 0 0)),(3,(cB better59)),(4,.c (.own 3 0 c58.length)),(22,.c (row 1 b9 states)),(23,(cI (states.length:Int))),(24,(cI t60))],[(oE 8 [int ov.facts,row 1 intI ov.init,row 1 intI ov.goal,row 3 d7 ov.operators,row 1 b9 states,.own 1 0 l.length,.own 2 0 l5.length,int den]),(oV 1 intI l),(oV 1 intI l5),(oV 1 intI c58)]⟩) (fun _ _=>Z) ?_ ?_ ?_
 ·try dsimp only
  exact Sub.en Z
 ·intro t60 s o hlot60 hltt60 h
  obtain⟨c58,better59⟩:=s
  unfold R6 at h
  try dsimp only at h ⊢
  refine AWP.e (.j (.e ?_))
  obtain⟨a27,ha27,h⟩:=bind_some h
  refine AWP.G 1 Z (S.idx ha27 Z Z Z Z (.G 3 Z (.nil (b5 (.gk 3 Z (.e (.gs 5 Z (S.len Z Z (fun hl34=>.ge 1 Z (.j ?_))))))))))
  obtain⟨⟨found61,num62,den63⟩,ho2,h⟩:=bind_some h
  try dsimp only at h
  refine AWP.forH ho2 (fun t64 (found61,num62,den63)=>⟨[(0,(cP 0 0 0)),(3,(cB better59)),(4,.c (.own 3 0 c58.length)),(5,(cI t60)),(6,(cR a27)),(7,(cI found61)),(8,(cI num62)),(9,(cI den63)),(22,.c (row 1 b9 states)),(23,(cI (states.length:Int))),(24,(cI t60)),(34,(cI (ov.operators.length:Int))),(35,(cI t64))],[(oE 8 [int ov.facts,row 1 intI ov.init,row 1 intI ov.goal,row 3 d7 ov.operators,row 1 b9 states,.own 1 0 l.length,.own 2 0 l5.length,int den]),(oV 1 intI l),(oV 1 intI l5),(oV 1 intI c58)]⟩) (fun _ _=>Z) ?_ ?_ ?_
  ·try dsimp only
   exact Sub.en Z
  ·intro t64 s o hlot64 hltt64 h
   obtain⟨found61,num62,den63⟩:=s
   unfold R8 at h
   try dsimp only at h ⊢
   obtain⟨⟨found65,num66,den67⟩,hx68,h⟩:=bind_some h
   refine AWP.seqJ (⟨[(0,(cP 0 0 0)),(3,(cB better59)),(4,.c (.own 3 0 c58.length)),(5,(cI t60)),(6,(cR a27)),(7,(cI found65)),(8,(cI num66)),(9,(cI den67)),(22,.c (row 1 b9 states)),(23,(cI (states.length:Int))),(24,(cI t60)),(34,(cI (ov.operators.length:Int))),(35,(cI t64))],[(oE 8 [int ov.facts,row 1 intI ov.init,row 1 intI ov.goal,row 3 d7 ov.operators,row 1 b9 states,.own 1 0 l.length,.own 2 0 l5.length,int den]),(oV 1 intI l),(oV 1 intI l5),(oV 1 intI c58)]⟩) ?_ ?_
   ·refine AWP.j (.gk 2 Z (.e (.e ?_)))
    obtain⟨a44,ha44,hx68⟩:=bind_some hx68
    refine AWP.G 6 Z (.q Z Z Z Z (aa5 ha44) Z (.not Z Z (.nil (b5 (.E Z hx68 (fun hc69 hx68=> ?_) (fun hc69 hx68=> ?_))))))
    ·refine AWP.exit (i5 (f9 ?_))
     obtain⟨ej0,ej1,ej2⟩:=o3 hx68
     subst ej0 ej1 ej2
     refine b5 (Sub.en Z)
    ·refine AWP.skip (b5 (.e ?_))
     obtain⟨a50,ha50,hx68⟩:=bind_some hx68
     refine AWP.G 3 Z (.callF (r2:=.tup [(cI a50.1),(cI a50.2.1),(cB a50.2.2)]) (σ'':=[(oE 8 [int ov.facts,row 1 intI ov.init,row 1 intI ov.goal,row 3 d7 ov.operators,row 1 b9 states,.own 1 0 l.length,.own 2 0 l5.length,int den]),(oV 1 intI l),(oV 1 intI l5),(oV 1 intI c58)]) Z Z Z (FnOk.lend [0,1,2] (al2 ha50) Z Z Z Z Z Z (by exact⟨(.one Z),.vec,.vec,Y⟩) Z (by exact⟨(.live Z (.one Z)),(.live Z .vec),(.live Z .vec),Y⟩) Z Z (by exact⟨(.new 0 Z Z (.one Z)),(.new 1 Z Z .vec),(.new 2 Z Z .vec),(.old Z Z Z),Y⟩)) (.G 7 Z (.nil (b5 (.seqJ (⟨[(0,(cP 0 0 0)),(3,(cB better59)),(4,.c (.own 3 0 c58.length)),(5,(cI t60)),(6,(cR a27)),(7,(cI found61)),(8,(cI num62)),(9,(cI den63)),(10,(cI t64)),(11,(cI a50.1)),(12,(cI a50.2.1)),(22,.c (row 1 b9 states)),(23,(cI (states.length:Int))),(24,(cI t60)),(34,(cI (ov.operators.length:Int))),(35,(cI t64)),(67,(cB (a50.2.2 && ((decide (found61<0))||(decide (w64 (a50.1 * den63)<w64 (num62 * a50.2.1)))))))],[(oE 8 [int ov.facts,row 1 intI ov.init,row 1 intI ov.goal,row 3 d7 ov.operators,row 1 b9 states,.own 1 0 l.length,.own 2 0 l5.length,int den]),(oV 1 intI l),(oV 1 intI l5),(oV 1 intI c58)]⟩) ?_ ?_)))))
     ·rcases bft (a50.2.2) with hb1|hb1
      ·rcases bft (decide (found61<0)) with hb2|hb2
       ·refine AWP.G 2 Z (.K Z Z hb1 (.G 3 Z (.K Z Z hb2 (.G 9 Z (.nil (b5 ?_))))))
        simp only[S4 hb1,or_t hb1,S4 hb2,or_t hb2,Bool.false_or,Bool.true_or,Bool.false_and,Bool.true_and]
        exact Sub.en Z
       ·refine AWP.G 2 Z (.K Z Z hb1 (.G 3 Z (.K Z Z hb2 (.G 9 Z (.nil (b5 ?_))))))
        simp only[S4 hb1,or_t hb1,V1 hb2,or_f hb2,Bool.false_or,Bool.true_or,Bool.false_and,Bool.true_and]
        exact Sub.en Z
      ·refine AWP.G 2 Z (.K Z Z hb1 (.G 12 Z (.nil (b5 ?_))))
       simp only[V1 hb1,or_f hb1,Bool.false_or,Bool.true_or,Bool.false_and,Bool.true_and]
       exact Sub.en Z
     ·refine AWP.E Z hx68 (fun hc70 hx68=> ?_) (fun hc70 hx68=> ?_)
      ·refine AWP.G 6 Z (.nil (d6 ?_))
       obtain⟨ej0,ej1,ej2⟩:=o3 hx68
       subst ej0 ej1 ej2
       refine b5 (Sub.en Z)
      ·refine AWP.skip (d6 ?_)
       obtain⟨ej0,ej1,ej2⟩:=o3 hx68
       subst ej0 ej1 ej2
       refine b5 (Sub.en Z)
   ·try dsimp only at h
    refine AWP.O (.add Z Z Z (by omega) (.z Z Z (.nil ?_)))
    obtain rfl:=oi h
    refine b5 (Sub.en Z)
  ·intro iz
   try dsimp only
   refine f9 (b5 ?_)
   obtain⟨better71,hx72,h⟩:=bind_some h
   refine AWP.seqJ (⟨[(0,(cP 0 0 0)),(3,(cB better71)),(4,.c (.own 3 0 c58.length)),(5,(cI t60)),(7,(cI found61)),(22,.c (row 1 b9 states)),(23,(cI (states.length:Int))),(24,(cI t60))],[(oE 8 [int ov.facts,row 1 intI ov.init,row 1 intI ov.goal,row 3 d7 ov.operators,row 1 b9 states,.own 1 0 l.length,.own 2 0 l5.length,int den]),(oV 1 intI l),(oV 1 intI l5),(oV 1 intI c58)]⟩) ?_ ?_
   ·rcases bft (better59) with hb73|hb73
    ·replace hx72:=B2 hb73 hx72
     refine AWP.G 2 Z (.K Z Z hb73 (.G 13 Z (.nil ?_)))
     obtain rfl:=oi hx72
     refine b5 (Sub.en Z)
    ·replace hx72:=B3 hb73 hx72
     obtain⟨a80,ha80,hx72⟩:=bind_some hx72
     refine AWP.G 2 Z (.K Z Z hb73 (.G 6 Z (.F Z Z Z Z (S.idxO ha80 Z Z Z Z Z (.F Z Z Z Z (S.loadO ha80 Z Z Z Z Z (.G 5 Z (.nil ?_))))))))
     obtain rfl:=oi hx72
     refine b5 (Sub.en Z)
   ·obtain⟨a89,ha89,h⟩:=bind_some h
    refine AWP.G 3 Z (S.idxO ha89 Z Z Z Z Z (S.storeO1 (f:=intI) (a':=found61) (q7 ha89) (fun _=>⟨_,Z⟩) Z Z Z Z Z ?_))
    refine AOps.nil (d6 (b5 (.O (.add Z Z Z (by omega) (.z Z Z (.nil ?_))))))
    obtain rfl:=oi h
    refine b5 (Sub.env ⟨Z,Z,(o7 (by first|rfl|simp only[lS])),Z,Z,Z,Y⟩)
 ·intro iz
  try dsimp only
  refine f9 (b5 (.gk 5 Z (.gk 2 Z (.ret ?_))))
  obtain rfl:=oi h
  exact⟨⟨[(2,(cB better59))],[(oE 8 [int ov.facts,row 1 intI ov.init,row 1 intI ov.goal,row 3 d7 ov.operators,row 1 b9 states,.own 3 0 c58.length,.own 2 0 l5.length,int den]),(oV 1 intI l),(oV 1 intI l5),(oV 1 intI c58)]⟩,Sub.env ⟨Z,Y⟩,Done.ret Z ⟨Z,Z⟩⟩
end Ab
end
