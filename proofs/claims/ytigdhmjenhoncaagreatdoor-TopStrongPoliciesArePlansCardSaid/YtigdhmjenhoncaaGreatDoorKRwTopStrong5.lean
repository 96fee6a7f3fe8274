/-
  Texts that the proof stands on.
-/
import Derived.Test.YtigdhmjenhoncaaGreatDoorKRwTopStrong4
set_option linter.all false
open List renaming map->ic,length_reverse->ik,length->il
open Bool renaming false_and->ie,false_or->ig,true_and->ii,true_or->ij
section
namespace Ab
open Go Go.Proofs
open Tryz
set_option maxHeartbeats 4000000
set_option linter.all false
attribute [local irreducible] AWP AOps thn inB Done f7 o9 Sub
abbrev oE(k:Nat)(x:List C):Ent:=.one (.cells k [x])
abbrev o1(x:C):Ent:=.one (.cells 1 [[x]])
abbrev oV{α:Type}(k:Nat)(f:α->List I)(l:List α):Ent:=.one (vec k f l)
abbrev oW{K V:Type}(fk:K->Vl)(fv:V->Vl)(m:List (K×V)):Ent:=.one (mapB fk fv m)
abbrev cI(n:Int):T:=.c (int n)
abbrev cB(b:Bool):T:=.c (bool b)
abbrev cP(i:Id)(j o:Nat):T:=.c (.ptr i j o)
abbrev cR(l:Li):T:=.c (row 1 intI l)
abbrev tO(v:d5):List C:=[int v.facts,row 1 intI v.init,row 1 intI v.goal,row 3 u5 v.operators]
abbrev tT(v:j3):List C:=[int v.facts,row 1 intI v.init,row 1 intI v.goal,row 4 j8 v.operators]
abbrev tF(a:Int)(b c:Li)(d:List h9):List C:=[int a,row 1 intI b,row 1 intI c,row 4 j8 d]
abbrev wW(a b:Int)(i:Id)(n:Nat):List C:=[.imm (.val (.int .u32 a)),.imm (.val (.int .u32 b)),.own i 0 n]
abbrev vU:Int->Vl:=Value.int .u32
abbrev vI:Int->Vl:=Value.int .i64
abbrev nL:Vl:=.slice none 0 0
instance:MethF prog 124 "Start" 76 true:=⟨by kernel_rfl⟩
instance:MethF prog 124 "Steps" 104 true:=⟨by kernel_rfl⟩
instance:MethF prog 211 "Len" 191 false:=⟨by kernel_rfl⟩
instance:MethF prog 211 "Less" 192 false:=⟨by kernel_rfl⟩
instance:MethF prog 211 "Pop" 194 true:=⟨by kernel_rfl⟩
instance:MethF prog 211 "Push" 195 true:=⟨by kernel_rfl⟩
instance:MethF prog 211 "Swap" 193 false:=⟨by kernel_rfl⟩
theorem az0{r:j3}(h:ae6=some r):f7 prog 12 [] (.agg (tT r)):=by
 unfold f7
 refine FnOk.enter (rs:=[.cell 0 37 4]) func12 Z ntmps12 results12 Z ⟨rv _ Z,Y⟩ (by kernel_rfl) Z ?_
 unfold ae6 at h
 refine AWP.gk 1 Z (.j (.U (S.lit (f:=intI) (l:=[0]) (ess:=[[int 0]]) Z Z Z Z Z Z Z ⟨⟨.inl Z,Y⟩,Y⟩ Z Z Z (S.lit (f:=intI) (l:=[0]) (ess:=[[int 0]]) Z Z Z Z Z Z Z ⟨⟨.inl Z,Y⟩,Y⟩ Z Z Z (.G 1 Z (.frzV (id:=2) (l:=[0]) (env2:=[(0,(cP 0 0 0)),(1,.c (.own 1 0 ([0].length))),(3,.agg [.imm (.val nL),row 1 intI [0],.imm (.val nL),int 2])]) (σ2:=[(oE 4 [int 0,.imm (.val nL),.imm (.val nL),.imm (.val nL)]),(oV 1 intI [0]),.dead]) Z Z (by exact⟨⟨_,Z,.inl ⟨Z,Z⟩⟩,⟨_,Z,.inl ⟨Z,Z⟩⟩,⟨_,Z,⟨.inl ⟨Z,Z⟩,.inr ⟨_,Z,Z,Z⟩,.inl ⟨Z,Z⟩,.inl ⟨Z,Z⟩,Y⟩⟩,Y⟩) Z (by exact⟨⟨Z,.inl ⟨Z,Z⟩,.inl ⟨Z,Z⟩,.inl ⟨Z,Z⟩,.inl ⟨Z,Z⟩,Y⟩,FrzB.vec,Y,Y⟩) (S.lit (f:=j8) (l:=[(⟨[],[0],[],2⟩:h9)]) (ess:=[[.imm (.val nL),row 1 intI [0],.imm (.val nL),int 2]]) Z Z Z Z Z Z Z ⟨⟨.inr ⟨Z,_,Z⟩,.inl Z,.inr ⟨Z,_,Z⟩,.inl Z,Y⟩,Y⟩ Z Z Z (.ge 2 Z (.frzV (id:=1) (l:=[0]) (env2:=[(0,(cP 0 0 0))]) (σ2:=[(oE 4 [int 1,.imm (.val nL),row 1 intI [0],.own 3 0 (([(⟨[],[0],[],2⟩:h9)]).length)]),.dead,.dead,(oV 4 j8 ([(⟨[],[0],[],2⟩:h9)]))]) Z Z (by exact⟨⟨_,Z,.inl ⟨Z,Z⟩⟩,Y⟩) Z (by exact⟨⟨Z,.inl ⟨Z,Z⟩,.inl ⟨Z,Z⟩,.inr ⟨_,Z,Z,Z⟩,.inl ⟨Z,Z⟩,Y⟩,Y,Y,FrzB.vec,Y⟩) (.frzV (id:=3) (l:=[(⟨[],[0],[],2⟩:h9)]) (env2:=[(0,(cP 0 0 0))]) (σ2:=[(oE 4 [int 1,.imm (.val nL),row 1 intI [0],row 4 j8 ([(⟨[],[0],[],2⟩:h9)])]),.dead,.dead,.dead]) Z Z (by exact⟨⟨_,Z,.inl ⟨Z,Z⟩⟩,Y⟩) Z (by exact⟨⟨Z,.inl ⟨Z,Z⟩,.inl ⟨Z,Z⟩,.inl ⟨Z,Z⟩,.inr ⟨_,Z,Z,Z⟩,Y⟩,Y,Y,Y,Y⟩) (.nilB (b:=0) [int 1,row 1 intI [],row 1 intI [0],row 4 j8 ([(⟨[],[0],[],2⟩:h9)])] Z (by exact⟨.inl Z,.inr ⟨Z,_,Z⟩,.inl Z,.inl Z,Y⟩) Z Z (.ret ?_))))))))))))
 obtain rfl:=oi h
 exact Done.ret Z Z
theorem n5{l:Li}{nv:Int}{r:Bool}(h:w6 l nv=some r):f7 prog 52 [(cR l),(cI nv)] ((cB r)):=by
 unfold f7
 refine FnOk.enter (rs:=[.t 4]) func52 Z ntmps52 results52 Z ⟨Y,Y⟩ (by kernel_rfl) Z ?_
 unfold w6 at h
 refine AWP.gk 1 Z (.j (.gs 1 Z (S.len Z Z (fun hl8=>.ge 1 Z (.q ?_)))))
 obtain⟨oo,ho1,h⟩:=b7 h
 refine AWP.rngH ho1 (fun t3 _=>⟨[(0,(cR l)),(1,(cI nv)),(7,(cR l)),(8,(cI (l.length:Int))),(9,(cI t3))],[]⟩) (fun x e st=>e=.ret/\Done [.t 4] (fun t _=>t=(cB x)) .ret st) (fun _ _=>Z) ?_ ?_ ?_ ?_
 ·exact Sub.en Z
 ·intro t3 s o hlot3 hltt3 h
  unfold ab1 at h
  try dsimp only at h ⊢
  refine AWP.j (.q (.j ?_))
  obtain⟨a12,ha12,h⟩:=b7 h
  refine AWP.G 1 Z (S.idx ha12 Z Z Z Z (.G 3 Z (.nil (b5 ?_))))
  obtain⟨t4,hx5,h⟩:=b7 h
  refine AWP.seqJ (⟨[(0,(cR l)),(1,(cI nv)),(7,(cR l)),(8,(cI (l.length:Int))),(9,(cI t3)),(33,(cB t4))],[]⟩) ?_ ?_
  ·rcases bft (decide (a12<0)) with hb6|hb6
   ·replace hx5:=K6 hb6 hx5
    refine AWP.G 3 Z (.K Z Z hb6 (.G 17 Z (.nil ?_)))
    obtain rfl:=oi hx5
    refine b5 (Sub.en Z)
   ·replace hx5:=K0 hb6 hx5
    rcases bft (decide (nv<=a12)) with hb7|hb7
    ·replace hx5:=K6 hb7 hx5
     refine AWP.G 3 Z (.K Z Z hb6 (.G 5 Z (.K Z Z hb7 (.G 12 Z (.nil ?_)))))
     obtain rfl:=oi hx5
     refine b5 (Sub.en Z)
    ·replace hx5:=K0 hb7 hx5
     rcases bft (decide (0<t3)) with hb8|hb8
     ·replace hx5:=K6 hb8 hx5
      obtain⟨a29,ha29,hx5⟩:=b7 hx5
      refine AWP.G 3 Z (.K Z Z hb6 (.G 5 Z (.K Z Z hb7 (.G 3 Z (.K Z Z hb8 (.G 3 Z (.E Z Z Z Z (.sub' Z Z Z (by omega) (.E Z Z Z Z (S.idx ha29 Z Z Z Z (.G 4 Z (.nil ?_))))))))))))
      obtain rfl:=oi hx5
      refine b5 (Sub.en Z)
     ·replace hx5:=K0 hb8 hx5
      refine AWP.G 3 Z (.K Z Z hb6 (.G 5 Z (.K Z Z hb7 (.G 3 Z (.K Z Z hb8 (.G 9 Z (.nil ?_)))))))
      obtain rfl:=oi hx5
      refine b5 (Sub.en Z)
  ·refine AWP.F Z h (fun hc9 h=> ?_) (fun hc9 h=> ?_)
   ·refine AWP.gk 1 Z (.ret (i9 (d9 ?_)))
    obtain rfl:=oi h
    refine d9 ⟨_,Z,Z,?_⟩
    exact Done.ret Z Z
   ·refine AWP.skip (d6 (b5 (.U (.add Z Z Z (by omega) (.z Z Z (.nil ?_))))))
    obtain rfl:=oi h
    refine b5 ⟨_,Z,?_⟩
    exact Sub.en Z
 ·intro iz _ he
  subst he
  try dsimp only at h ⊢
  refine i7 (b5 (.gk 1 Z (.ret ?_)))
  obtain rfl:=oi h
  exact Done.ret Z Z
 ·intro x e st he hq
  subst he
  try dsimp only at h hq
  obtain⟨rfl,hs⟩:=hq
  refine⟨_,Sub.refl _ _,?_⟩
  refine i9 (d9 ?_)
  obtain rfl:=oi h
  exact hs
theorem F7{xv:Int}{r:Bool}(h:I5 xv=some r):f7 prog 109 [(cI xv)] ((cB r)):=by
 unfold f7
 refine FnOk.enter (rs:=[.t 2]) func109 Z ntmps109 results109 Z ⟨Y,Y⟩ (by kernel_rfl) Z ?_
 unfold I5 at h
 refine AWP.gk 1 Z (.gk 4 Z (.ret ?_))
 obtain rfl:=oi h
 exact Done.ret Z Z
theorem cmp_Less_int_ok{xv:Int}{yv:Int}{r:Bool}(h:ad3 xv yv=some r):f7 prog 86 [(cI xv),(cI yv)] ((cB r)):=by
 unfold f7
 refine FnOk.enter (rs:=[.t 4]) func86 Z ntmps86 results86 Z ⟨Y,Y⟩ (by kernel_rfl) Z ?_
 unfold ad3 at h
 refine AWP.gk 1 Z ?_
 obtain⟨t3,hx4,h⟩:=b7 h
 refine AWP.seqJ (⟨[(4,(cB t3))],[]⟩) ?_ ?_
 ·obtain⟨a6,ha6,hx4⟩:=b7 hx4
  rcases bft (a6) with hb5|hb5
  ·replace hx4:=X1 hb5 hx4
   obtain⟨a9,ha9,hx4⟩:=b7 hx4
   rcases bft (!a9) with hb6|hb6
   ·replace hx4:=X1 hb6 hx4
    refine AWP.G 1 Z (.u Z Z Z Z (F7 ha6) Z (.z Z Z (.K Z Z hb5 (.G 1 Z (.E Z Z Z Z (.u Z Z Z Z (F7 ha9) Z (.G 3 Z (.K Z Z hb6 (.G 5 Z (.nil ?_))))))))))
    obtain rfl:=oi hx4
    refine b5 (Sub.en Z)
   ·replace hx4:=X5 hb6 hx4
    refine AWP.G 1 Z (.u Z Z Z Z (F7 ha6) Z (.z Z Z (.K Z Z hb5 (.G 1 Z (.E Z Z Z Z (.u Z Z Z Z (F7 ha9) Z (.G 3 Z (.K Z Z hb6 (.G 5 Z (.nil ?_))))))))))
    obtain rfl:=oi hx4
    refine b5 (Sub.en Z)
  ·replace hx4:=X5 hb5 hx4
   refine AWP.G 1 Z (.u Z Z Z Z (F7 ha6) Z (.z Z Z (.K Z Z hb5 (.G 10 Z (.nil ?_)))))
   obtain rfl:=oi hx4
   refine b5 (Sub.en Z)
 ·refine AWP.ret ?_
  obtain rfl:=oi h
  exact Done.ret Z Z
theorem Y8{xv:Int}{r:Bool}(h:P9 xv=some r):f7 prog 87 [(cI xv)] ((cB r)):=by
 unfold f7
 refine FnOk.enter (rs:=[.t 2]) func87 Z ntmps87 results87 Z ⟨Y,Y⟩ (by kernel_rfl) Z ?_
 unfold P9 at h
 refine AWP.gk 1 Z (.gk 4 Z (.ret ?_))
 obtain rfl:=oi h
 exact Done.ret Z Z
theorem T3{xv:Li}{target:Int}{r:Int×Bool}(h:v7 xv target=some r):f7 prog 60 [(cR xv),(cI target)] (.tup [(cI r.1),(cB r.2)]):=by
 unfold f7
 refine FnOk.enter (rs:=[.t 4,.t 5]) func60 Z ntmps60 results60 Z ⟨Y,Y,Y⟩ (by kernel_rfl) Z ?_
 unfold v7 at h
 refine AWP.gk 2 Z (.gs 1 Z (S.len Z Z (fun hl11=>.ge 1 Z (.gk 3 Z (.j (.q ?_))))))
 obtain⟨iv5,ho1,h⟩:=b7 h
 refine AWP.loopS ho1 (fun(iv3,j4)=>⟨[(0,(cR xv)),(1,(cI target)),(6,(cI (xv.length:Int))),(7,(cI iv3)),(8,(cI j4))],[]⟩) (fun iv5 e st=>e=.exit 0/\Sub [] st ⟨[(0,(cR xv)),(1,(cI target)),(6,(cI (xv.length:Int))),(7,(cI iv5))],[]⟩) ?_ ?_ ?_
 ·exact Sub.en Z
 ·intro s o h
  obtain⟨iv3,j4⟩:=s
  unfold C5 at h
  try dsimp only at h ⊢
  refine AWP.j (.gk 3 Z (.J Z h (fun hc6 h=> ?_) (fun hc6 h=> ?_)))
  ·refine AWP.skip (b5 (.q (.gs 4 Z (.shr Z Z Z (by first|decide|omega) Z (.ge 2 Z (.j ?_))))))
   obtain⟨a24,ha24,a27,ha27,h⟩:=b2 h
   refine AWP.G 2 Z (S.idx ha24 Z Z Z Z (.G 2 Z (.u Z Z Z Z (cmp_Less_int_ok ha27) Z (.nil (b5 (.F Z h (fun hc7 h=> ?_) (fun hc7 h=> ?_)))))))
   ·refine AWP.G 3 Z (.nil (d6 ?_))
    obtain rfl:=oi h
    refine b5 ⟨_,Z,?_⟩
    exact Sub.en Z
   ·refine AWP.G 2 Z (.nil (d6 ?_))
    obtain rfl:=oi h
    refine b5 ⟨_,Z,?_⟩
    exact Sub.en Z
  ·refine AWP.exit (k8 ?_)
   obtain rfl:=oi h
   refine k8 ⟨_,Z,Z,?_⟩
   exact Sub.en Z
 ·intro e s hq
  obtain⟨rfl,hs⟩:=hq
  refine⟨_,hs,?_⟩
  refine i7 (b5 ?_)
  obtain⟨t8,hx9,h⟩:=b7 h
  refine AWP.seqJ (⟨[(4,(cI iv5)),(5,(cB t8))],[]⟩) ?_ ?_
  ·rcases bft (decide (iv5<(xv.length:Int))) with hb10|hb10
   ·replace hx9:=K6 hb10 hx9
    obtain⟨a38,ha38,hx9⟩:=b7 hx9
    rcases bft (decide (a38=target)) with hb11|hb11
    ·replace hx9:=K6 hb11 hx9
     refine AWP.G 5 Z (.K Z Z hb10 (.G 2 Z (.E Z Z Z Z (S.idx ha38 Z Z Z Z (.G 4 Z (.K Z Z hb11 (.G 13 Z (.nil ?_))))))))
     obtain rfl:=oi hx9
     refine b5 (Sub.en Z)
    ·replace hx9:=K0 hb11 hx9
     obtain⟨a45,ha45,a47,ha47,hx9⟩:=b2 hx9
     rcases bft (a47) with hb12|hb12
     ·replace hx9:=X1 hb12 hx9
      obtain⟨a50,ha50,hx9⟩:=b7 hx9
      refine AWP.G 5 Z (.K Z Z hb10 (.G 2 Z (.E Z Z Z Z (S.idx ha38 Z Z Z Z (.G 4 Z (.K Z Z hb11 (.G 2 Z (.E Z Z Z Z (S.idx ha45 Z Z Z Z (.G 1 Z (.E Z Z Z Z (.u Z Z Z Z (Y8 ha47) Z (.G 1 Z (.K Z Z hb12 (.G 1 Z (.E Z Z Z Z (.u Z Z Z Z (Y8 ha50) Z (.G 5 Z (.nil ?_)))))))))))))))))))
      obtain rfl:=oi hx9
      refine b5 (Sub.en Z)
     ·replace hx9:=X5 hb12 hx9
      refine AWP.G 5 Z (.K Z Z hb10 (.G 2 Z (.E Z Z Z Z (S.idx ha38 Z Z Z Z (.G 4 Z (.K Z Z hb11 (.G 2 Z (.E Z Z Z Z (S.idx ha45 Z Z Z Z (.G 1 Z (.E Z Z Z Z (.u Z Z Z Z (Y8 ha47) Z (.G 1 Z (.K Z Z hb12 (.G 7 Z (.nil ?_))))))))))))))))
      obtain rfl:=oi hx9
      refine b5 (Sub.en Z)
   ·replace hx9:=K0 hb10 hx9
    refine AWP.G 5 Z (.K Z Z hb10 (.G 20 Z (.nil ?_)))
    obtain rfl:=oi hx9
    refine b5 (Sub.en Z)
  ·refine AWP.ret ?_
   obtain rfl:=oi h
   exact Done.ret Z Z
theorem aE1{xv:Int}{c2:Li}{r:Bool}(h:ad7 xv c2=some r):f7 prog 112 [(cI xv),.c (.imm (.ipt [.sl 1 (ic intI c2)]))] ((cB r)):=by
 unfold f7
 refine FnOk.enter (rs:=[.t 3]) func112 Z ntmps112 results112 Z ⟨Y,Y⟩ (by kernel_rfl) Z ?_
 unfold ad7 at h
 refine AWP.gk 1 Z (.j ?_)
 obtain⟨a9,ha9,h⟩:=b7 h
 refine AWP.G 2 Z (.u Z Z Z Z (T3 ha9) Z (.G 5 Z (.nil (b5 (.gk 2 Z (.ret ?_))))))
 obtain rfl:=oi h
 exact Done.ret Z Z
theorem ao6{sv:Li}{fv:Int->Option Bool}{r:Int}{fvfv:FuncId}{cvfv:List C}(hcvfv:C.okL 0 cvfv=true)(hfv:∀{y1:Int} {z:Bool},fv y1=some z->f7 prog fvfv ([(cI y1)]++cvfv.map T.c) ((cB z)))(h:I2 sv fv=some r):f7 prog 132 [(cR sv),.c (.fn fvfv cvfv)] ((cI r)):=by
 unfold f7
 refine FnOk.enter (rs:=[.t 4]) func132 Z ntmps132 results132 Z ⟨Y,Y⟩ (by kernel_rfl) Z ?_
 unfold I2 at h
 refine AWP.gk 1 Z (.j (.gs 1 Z (S.len Z Z (fun hl7=>.ge 1 Z (.q ?_)))))
 obtain⟨oo,ho1,h⟩:=b7 h
 refine AWP.rngH ho1 (fun t3 _=>⟨[(0,(cR sv)),(1,.c (.fn fvfv cvfv)),(7,(cI (sv.length:Int))),(8,(cI t3))],[]⟩) (fun x e st=>e=.ret/\Done [.t 4] (fun t _=>t=(cI x)) .ret st) (fun _ _=>Z) ?_ ?_ ?_ ?_
 ·exact Sub.en Z
 ·intro t3 s o hlot3 hltt3 h
  unfold F1 at h
  try dsimp only at h ⊢
  refine AWP.j (.q (.gk 2 Z (.j ?_)))
  obtain⟨a14,ha14,a16,ha16,h⟩:=b2 h
  refine AWP.G 3 Z (S.idx ha14 Z Z Z Z (.G 1 Z (.u Z Z (an5 Z hcvfv) Z (hfv ha16) Z (.nil (b5 (.F Z h (fun hc4 h=> ?_) (fun hc4 h=> ?_)))))))
  ·refine AWP.gk 2 Z (.ret (i9 (d9 ?_)))
   obtain rfl:=oi h
   refine d9 ⟨_,Z,Z,?_⟩
   exact Done.ret Z Z
  ·refine AWP.skip (d6 (b5 (.U (.add Z Z Z (by omega) (.z Z Z (.nil ?_))))))
   obtain rfl:=oi h
   refine b5 ⟨_,Z,?_⟩
   exact Sub.en Z
 ·intro iz _ he
  subst he
  try dsimp only at h ⊢
  refine i7 (b5 (.gk 1 Z (.ret ?_)))
  obtain rfl:=oi h
  exact Done.ret Z Z
 ·intro x e st he hq
  subst he
  try dsimp only at h hq
  obtain⟨rfl,hs⟩:=hq
  refine⟨_,Sub.refl _ _,?_⟩
  refine i9 (d9 ?_)
  obtain rfl:=oi h
  exact hs
theorem ak7{sv:Li}{fv:Int->Option Bool}{r:Bool}{fvfv:FuncId}{cvfv:List C}(hcvfv:C.okL 0 cvfv=true)(hfv:∀{y1:Int} {z:Bool},fv y1=some z->f7 prog fvfv ([(cI y1)]++cvfv.map T.c) ((cB z)))(h:B1 sv fv=some r):f7 prog 111 [(cR sv),.c (.fn fvfv cvfv)] ((cB r)):=by
 unfold f7
 refine FnOk.enter (rs:=[.t 4]) func111 Z ntmps111 results111 Z ⟨Y,Y⟩ (by kernel_rfl) Z ?_
 unfold B1 at h
 refine AWP.gk 1 Z (.j ?_)
 obtain⟨a7,ha7,h⟩:=b7 h
 refine AWP.G 2 Z (.u Z Z (by simp[T.okL,T.ok,C.ok,C.okL,hcvfv]) Z (ao6 hcvfv hfv ha7) Z (.G 2 Z (.nil (b5 (.ret ?_)))))
 obtain rfl:=oi h
 exact Done.ret Z Z
theorem ax0{av:Li}{bv:Li}{r:Bool}(h:V6 av bv=some r):f7 prog 82 [(cR av),(cR bv)] ((cB r)):=by
 unfold f7
 refine FnOk.enter (rs:=[.t 4]) func82 Z ntmps82 results82 Z ⟨Y,Y⟩ (by kernel_rfl) Z ?_
 unfold V6 at h
 refine AWP.gk 2 Z (.j ?_)
 obtain⟨a7,ha7,h⟩:=b7 h
 refine AWP.G 1 Z (.ac Z Z (.aa Z Z (.cons (.c .imm) (.cons (.c (.fn (.cons (.ptr (es:=[.sl 1 (ic intI bv)]) Z Z (.cons .imm .nil)) .nil))) .nil)) Z (ak7 Z (fun hy=>aE1 hy) ha7) Z ?_))
 refine AOps.B Z Z (.nil (b5 (.ret ?_)))
 obtain rfl:=oi h
 exact Done.ret Z Z
theorem aC0{ov:h9}{facts:Int}{r:Int}(h:S5 ov facts=some r):f7 prog 90 [.agg [row 1 intI ov.pre,row 1 intI ov.add,row 1 intI ov.del,int ov.cost],(cI facts)] ((cI r)):=by
 unfold f7
 refine FnOk.enter (rs:=[.t 4]) func90 Z ntmps90 results90 Z ⟨Y,Y⟩ (by kernel_rfl) Z ?_
 unfold S5 at h
 refine AWP.gk 2 Z (.j (.q ?_))
 obtain⟨t3,hx4,h⟩:=b7 h
 refine AWP.seqJ (⟨[(2,(cP 0 0 0)),(5,(cB t3))],[(oE 4 [row 1 intI ov.pre,row 1 intI ov.add,row 1 intI ov.del,int ov.cost])]⟩) ?_ ?_
 ·obtain⟨a9,ha9,hx4⟩:=b7 hx4
  rcases bft (!a9) with hb5|hb5
  ·replace hx4:=X1 hb5 hx4
   refine AWP.G 3 Z (.u Z Z Z Z (n5 ha9) Z (.G 2 Z (.K Z Z hb5 (.G 21 Z (.nil ?_)))))
   obtain rfl:=oi hx4
   refine b5 (Sub.en Z)
  ·replace hx4:=X5 hb5 hx4
   obtain⟨a15,ha15,hx4⟩:=b7 hx4
   rcases bft (!a15) with hb6|hb6
   ·replace hx4:=X1 hb6 hx4
    refine AWP.G 3 Z (.u Z Z Z Z (n5 ha9) Z (.G 2 Z (.K Z Z hb5 (.G 3 Z (.E Z Z Z Z (.u Z Z Z Z (n5 ha15) Z (.G 3 Z (.K Z Z hb6 (.G 14 Z (.nil ?_))))))))))
    obtain rfl:=oi hx4
    refine b5 (Sub.en Z)
   ·replace hx4:=X5 hb6 hx4
    obtain⟨a22,ha22,hx4⟩:=b7 hx4
    rcases bft (!a22) with hb7|hb7
    ·replace hx4:=X1 hb7 hx4
     refine AWP.G 3 Z (.u Z Z Z Z (n5 ha9) Z (.G 2 Z (.K Z Z hb5 (.G 3 Z (.E Z Z Z Z (.u Z Z Z Z (n5 ha15) Z (.G 3 Z (.K Z Z hb6 (.G 3 Z (.E Z Z Z Z (.u Z Z Z Z (n5 ha22) Z (.G 3 Z (.K Z Z hb7 (.G 7 Z (.nil ?_)))))))))))))))
     obtain rfl:=oi hx4
     refine b5 (Sub.en Z)
    ·replace hx4:=X5 hb7 hx4
     obtain⟨a30,ha30,hx4⟩:=b7 hx4
     refine AWP.G 3 Z (.u Z Z Z Z (n5 ha9) Z (.G 2 Z (.K Z Z hb5 (.G 3 Z (.E Z Z Z Z (.u Z Z Z Z (n5 ha15) Z (.G 3 Z (.K Z Z hb6 (.G 3 Z (.E Z Z Z Z (.u Z Z Z Z (n5 ha22) Z (.G 3 Z (.K Z Z hb7 (.G 4 Z (.E Z Z Z Z (.u Z Z Z Z (ax0 ha30) Z (.G 2 Z (.nil ?_))))))))))))))))))
     obtain rfl:=oi hx4
     refine b5 (Sub.en Z)
 ·refine AWP.F Z h (fun hc8 h=> ?_) (fun hc8 h=> ?_)
  ·refine AWP.gk 1 Z (.ret (i9 (d9 ?_)))
   obtain rfl:=oi h
   exact Done.ret Z Z
  ·refine AWP.seqJ (⟨[(32,(cB ((decide (ov.cost<0))||(decide (100<ov.cost)))))],[(oE 4 [row 1 intI ov.pre,row 1 intI ov.add,row 1 intI ov.del,int ov.cost])]⟩) ?_ ?_
   ·rcases bft (decide (ov.cost<0)) with hb1|hb1
    ·refine AWP.G 4 Z (.K Z Z hb1 (.G 5 Z (.nil (b5 ?_))))
     simp only[G6 hb1,or_t hb1,ig,ij,ie,ii]
     exact Sub.en Z
    ·refine AWP.G 4 Z (.K Z Z hb1 (.G 5 Z (.nil (b5 ?_))))
     simp only[B9 hb1,or_f hb1,ig,ij,ie,ii]
     exact Sub.en Z
   ·refine AWP.F Z h (fun hc9 h=> ?_) (fun hc9 h=> ?_)
    ·refine AWP.gk 1 Z (.ret (i9 (d9 ?_)))
     obtain rfl:=oi h
     exact Done.ret Z Z
    ·refine AWP.skip (d6 (b5 (.gk 1 Z (.ret ?_))))
     obtain rfl:=oi h
     exact Done.ret Z Z
theorem L4{t:j3}{r:g8}(h:A9 t=some r):f7 prog 63 [.agg (tT t)] (.agg [int r.code,int r.index]):=by
 unfold f7
 refine FnOk.enter (rs:=[.cell 2 32 2]) func63 Z ntmps63 results63 Z ⟨rv _ Z,Y⟩ (by kernel_rfl) Z ?_
 unfold A9 at h
 refine AWP.gk 2 Z (.j (.q (.seqJ (⟨[(1,(cP 0 0 0)),(2,(cP 1 0 0)),(6,(cB ((decide (t.facts<0))||(decide (24<t.facts)))))],[(oE 4 (tT t)),(oE 2 [int 0,int 0])]⟩) ?_ ?_)))
 ·rcases bft (decide (t.facts<0)) with hb1|hb1
  ·refine AWP.G 4 Z (.K Z Z hb1 (.G 5 Z (.nil (b5 ?_))))
   simp only[G6 hb1,or_t hb1,ig,ij,ie,ii]
   exact Sub.en Z
  ·refine AWP.G 4 Z (.K Z Z hb1 (.G 5 Z (.nil (b5 ?_))))
   simp only[B9 hb1,or_f hb1,ig,ij,ie,ii]
   exact Sub.en Z
 ·refine AWP.F Z h (fun hc2 h=> ?_) (fun hc2 h=> ?_)
  ·refine AWP.gk 2 Z (.ret (i9 (d9 ?_)))
   obtain rfl:=oi h
   exact Done.ret Z Z
  ·refine AWP.j ?_
   obtain⟨a21,ha21,h⟩:=b7 h
   refine AWP.G 4 Z (.u Z Z Z Z (n5 ha21) Z (.G 2 Z (.nil (b5 (.F Z h (fun hc3 h=> ?_) (fun hc3 h=> ?_))))))
   ·refine AWP.gk 2 Z (.ret (i9 (d9 ?_)))
    obtain rfl:=oi h
    exact Done.ret Z Z
   ·refine AWP.j ?_
    obtain⟨a29,ha29,h⟩:=b7 h
    refine AWP.G 4 Z (.u Z Z Z Z (n5 ha29) Z (.G 2 Z (.nil (b5 (.F Z h (fun hc4 h=> ?_) (fun hc4 h=> ?_))))))
    ·refine AWP.gk 2 Z (.ret (i9 (d9 ?_)))
     obtain rfl:=oi h
     exact Done.ret Z Z
    ·refine AWP.gs 2 Z (S.len Z Z (fun hl35=>.ge 2 Z (.J Z h (fun hc5 h=> ?_) (fun hc5 h=> ?_))))
     ·refine AWP.gk 2 Z (.ret (i9 (d9 ?_)))
      obtain rfl:=oi h
      exact Done.ret Z Z
     ·refine AWP.skip (d6 (b5 (.j (.gs 2 Z (S.len Z Z (fun hl40=>.ge 1 Z (.q ?_)))))))
      obtain⟨oo,ho1,h⟩:=b7 h
      refine AWP.rngH ho1 (fun t6 _=>⟨[(1,(cP 0 0 0)),(2,(cP 1 0 0)),(39,.c (row 4 j8 t.operators)),(40,(cI (t.operators.length:Int))),(41,(cI t6))],[(oE 4 (tT t)),(oE 2 [int 0,int 0])]⟩) (fun x e st=>e=.ret/\Done [.cell 2 32 2] (fun t _=>t=.agg [int x.code,int x.index]) .ret st) (fun _ _=>Z) ?_ ?_ ?_ ?_
      ·exact Sub.en Z
      ·intro t6 s o hlot6 hltt6 h
       unfold L3 at h
       try dsimp only at h ⊢
       refine AWP.j (.q (.j ?_))
       obtain⟨a44,ha44,h⟩:=b7 h
       refine AWP.G 1 Z (S.idx ha44 Z Z Z Z (.G 4 Z (.nil (b5 (.j ?_)))))
       obtain⟨a49,ha49,h⟩:=b7 h
       refine AWP.G 3 Z (.u Z Z Z Z (aC0 ha49) Z (.B Z Z (.nil (b5 (.gk 2 Z (.iteN Z h (fun hc7 h=> ?_) (fun hc7 h=> ?_)))))))
       ·refine AWP.gk 4 Z (.ret (i9 (d9 ?_)))
        obtain rfl:=oi h
        refine d9 ⟨_,Z,Z,?_⟩
        exact Done.ret Z Z
       ·refine AWP.skip (d6 (b5 (.U (.add Z Z Z (by omega) (.z Z Z (.nil ?_))))))
        obtain rfl:=oi h
        refine b5 ⟨_,Z,?_⟩
        exact Sub.cut ⟨Z,Z,Z,Z,Z,Y⟩ Z ⟨.one Z,.one Z,Y⟩ Z
      ·intro iz _ he
       subst he
       try dsimp only at h ⊢
       refine i7 (b5 (.gk 2 Z (.ret ?_)))
       obtain rfl:=oi h
       exact Done.ret Z Z
      ·intro x e st he hq
       subst he
       try dsimp only at h hq
       obtain⟨rfl,hs⟩:=hq
       refine⟨_,Sub.refl _ _,?_⟩
       refine i9 (d9 ?_)
       obtain rfl:=oi h
       exact hs
theorem ax7{t:j3}{unknown:Li}{r:g8}(h:J7 t unknown=some r):f7 prog 32 [.agg (tT t),(cR unknown)] (.agg [int r.code,int r.index]):=by
 unfold f7
 refine FnOk.enter (rs:=[.cell 4 32 2]) func32 Z ntmps32 results32 Z ⟨rv _ Z,Y⟩ (by kernel_rfl) Z ?_
 unfold J7 at h
 refine AWP.gk 2 Z (.j (.j ?_))
 obtain⟨a7,ha7,h⟩:=b7 h
 refine AWP.G 1 Z (.u Z Z Z Z (L4 ha7) Z (.G 2 Z (.nil (b5 (.gs 2 Z (.neqP Z Z Z Z Z Z Z (.ne (.F Z h (fun hc3 h=> ?_) (fun hc3 h=> ?_)))))))))
 ·refine AWP.gk 2 Z (.ret (d9 ?_))
  obtain rfl:=oi h
  exact Done.ret Z Z
 ·refine AWP.skip (b5 (.j (.q (.gs 1 Z (S.len Z Z (fun hl14=>.ge 2 Z (.J Z h (fun hc4 h=> ?_) (fun hc4 h=> ?_))))))))
  ·refine AWP.gk 2 Z (.ret (i9 (d9 ?_)))
   obtain rfl:=oi h
   exact Done.ret Z Z
  ·refine AWP.j ?_
   obtain⟨a21,ha21,h⟩:=b7 h
   refine AWP.G 3 Z (.u Z Z Z Z (n5 ha21) Z (.G 2 Z (.nil (b5 (.F Z h (fun hc5 h=> ?_) (fun hc5 h=> ?_))))))
   ·refine AWP.gk 2 Z (.ret (i9 (d9 ?_)))
    obtain rfl:=oi h
    exact Done.ret Z Z
   ·refine AWP.skip (d6 (b5 (.gk 2 Z (.ret ?_))))
    obtain rfl:=oi h
    exact Done.ret Z Z
theorem x4{sv:Li}{part:Li}{r:Bool}(h:v8 sv part=some r):f7 prog 25 [(cR sv),(cR part)] ((cB r)):=by
 unfold f7
 refine FnOk.enter (rs:=[.t 4]) func25 Z ntmps25 results25 Z ⟨Y,Y⟩ (by kernel_rfl) Z ?_
 unfold v8 at h
 refine AWP.gk 1 Z (.gk 1 Z (.j (.gs 1 Z (S.len Z Z (fun hl9=>.ge 1 Z (.q ?_))))))
 obtain⟨oo,ho1,h⟩:=b7 h
 refine AWP.rngH ho1 (fun t4 iv3=>⟨[(0,(cR sv)),(5,(cI iv3)),(8,(cR part)),(9,(cI (part.length:Int))),(10,(cI t4))],[]⟩) (fun x e st=>e=.ret/\Done [.t 4] (fun t _=>t=(cB x)) .ret st) (fun _ _=>Z) ?_ ?_ ?_ ?_
 ·exact Sub.en Z
 ·intro t4 iv3 o hlot4 hltt4 h
  unfold T0 at h
  try dsimp only at h ⊢
  refine AWP.j (.q (.j ?_))
  obtain⟨a12,ha12,h⟩:=b7 h
  refine AWP.U (S.idx ha12 Z Z Z Z (.G 2 Z (.nil (b5 (.j (.q ?_))))))
  obtain⟨iv6,ho2,h⟩:=b7 h
  refine AWP.loopS ho2 (fun iv5=>⟨[(0,(cR sv)),(5,(cI iv5)),(7,(cI a12)),(8,(cR part)),(9,(cI (part.length:Int))),(10,(cI t4))],[]⟩) (fun iv6 e st=>e=.exit 2/\Sub [] st ⟨[(0,(cR sv)),(5,(cI iv6)),(7,(cI a12)),(8,(cR part)),(9,(cI (part.length:Int))),(10,(cI t4))],[]⟩) ?_ ?_ ?_
  ·exact Sub.en Z
  ·intro iv5 o h
   unfold L5 at h
   try dsimp only at h ⊢
   refine AWP.j ?_
   obtain⟨t7,hx8,h⟩:=b7 h
   refine AWP.seqJ (⟨[(0,(cR sv)),(5,(cI iv5)),(7,(cI a12)),(8,(cR part)),(9,(cI (part.length:Int))),(10,(cI t4)),(25,(cB t7))],[]⟩) ?_ ?_
   ·rcases bft (decide (iv5<(sv.length:Int))) with hb9|hb9
    ·replace hx8:=K6 hb9 hx8
     obtain⟨a21,ha21,hx8⟩:=b7 hx8
     refine AWP.G 2 Z (S.len Z Z (fun hl16=>.G 2 Z (.K Z Z hb9 (.G 2 Z (.E Z Z Z Z (S.idx ha21 Z Z Z Z (.G 4 Z (.nil ?_))))))))
     obtain rfl:=oi hx8
     refine b5 (Sub.en Z)
    ·replace hx8:=K0 hb9 hx8
     refine AWP.G 2 Z (S.len Z Z (fun hl16=>.G 2 Z (.K Z Z hb9 (.G 7 Z (.nil ?_)))))
     obtain rfl:=oi hx8
     refine b5 (Sub.en Z)
   ·refine AWP.F Z h (fun hc10 h=> ?_) (fun hc10 h=> ?_)
    ·refine AWP.skip (b5 (.q (.G 3 Z (.nil (d6 ?_)))))
     obtain rfl:=oi h
     refine b5 ⟨_,Z,?_⟩
     exact Sub.en Z
    ·refine AWP.exit (k8 ?_)
     obtain rfl:=oi h
     refine k8 ⟨_,Z,Z,?_⟩
     exact Sub.en Z
  ·intro e s hq
   obtain⟨rfl,hs⟩:=hq
   refine⟨_,hs,?_⟩
   refine i7 (b5 ?_)
   obtain⟨t11,hx12,h⟩:=b7 h
   refine AWP.seqJ (⟨[(0,(cR sv)),(5,(cI iv6)),(8,(cR part)),(9,(cI (part.length:Int))),(10,(cI t4)),(39,(cB t11))],[]⟩) ?_ ?_
   ·rcases bft (decide (iv6=(sv.length:Int))) with hb13|hb13
    ·replace hx12:=K6 hb13 hx12
     refine AWP.G 2 Z (S.len Z Z (fun hl30=>.G 2 Z (.K Z Z hb13 (.G 7 Z (.nil ?_)))))
     obtain rfl:=oi hx12
     refine b5 (Sub.en Z)
    ·replace hx12:=K0 hb13 hx12
     obtain⟨a35,ha35,hx12⟩:=b7 hx12
     refine AWP.G 2 Z (S.len Z Z (fun hl30=>.G 2 Z (.K Z Z hb13 (.G 2 Z (.E Z Z Z Z (S.idx ha35 Z Z Z Z (.G 4 Z (.nil ?_))))))))
     obtain rfl:=oi hx12
     refine b5 (Sub.en Z)
   ·refine AWP.F Z h (fun hc14 h=> ?_) (fun hc14 h=> ?_)
    ·refine AWP.gk 1 Z (.ret (i9 (d9 ?_)))
     obtain rfl:=oi h
     refine d9 ⟨_,Z,Z,?_⟩
     exact Done.ret Z Z
    ·refine AWP.skip (d6 (b5 (.U (.add Z Z Z (by omega) (.z Z Z (.nil ?_))))))
     obtain rfl:=oi h
     refine b5 ⟨_,Z,?_⟩
     exact Sub.en Z
 ·intro iz iv3 he
  subst he
  try dsimp only at h ⊢
  refine i7 (b5 (.gk 1 Z (.ret ?_)))
  obtain rfl:=oi h
  exact Done.ret Z Z
 ·intro x e st he hq
  subst he
  try dsimp only at h hq
  obtain⟨rfl,hs⟩:=hq
  refine⟨_,Sub.refl _ _,?_⟩
  refine i9 (d9 ?_)
  obtain rfl:=oi h
  exact hs
theorem aE4{sv:Li}{c2:Li}{r:Bool}(h:ag0 sv c2=some r):f7 prog 71 [(cR sv),.c (.imm (.ipt [.sl 1 (ic intI c2)]))] ((cB r)):=by
 unfold f7
 refine FnOk.enter (rs:=[.t 3]) func71 Z ntmps71 results71 Z ⟨Y,Y⟩ (by kernel_rfl) Z ?_
 unfold ag0 at h
 refine AWP.gk 1 Z (.j ?_)
 obtain⟨a6,ha6,h⟩:=b7 h
 refine AWP.G 2 Z (.u Z Z Z Z (x4 ha6) Z (.G 2 Z (.nil (b5 (.ret ?_)))))
 obtain rfl:=oi h
 exact Done.ret Z Z
theorem as4{sv:LL}{fv:Li->Option Bool}{r:Int}{fvfv:FuncId}{cvfv:List C}(hcvfv:C.okL 0 cvfv=true)(hfv:∀{y1:Li} {z:Bool},fv y1=some z->f7 prog fvfv ([(cR y1)]++cvfv.map T.c) ((cB z)))(h:F4 sv fv=some r):f7 prog 83 [.c (row 1 d8 sv),.c (.fn fvfv cvfv)] ((cI r)):=by
 unfold f7
 refine FnOk.enter (rs:=[.t 4]) func83 Z ntmps83 results83 Z ⟨Y,Y⟩ (by kernel_rfl) Z ?_
 unfold F4 at h
 refine AWP.gk 1 Z (.j (.gs 1 Z (S.len Z Z (fun hl7=>.ge 1 Z (.q ?_)))))
 obtain⟨oo,ho1,h⟩:=b7 h
 refine AWP.rngH ho1 (fun t3 _=>⟨[(0,.c (row 1 d8 sv)),(1,.c (.fn fvfv cvfv)),(7,(cI (sv.length:Int))),(8,(cI t3))],[]⟩) (fun x e st=>e=.ret/\Done [.t 4] (fun t _=>t=(cI x)) .ret st) (fun _ _=>Z) ?_ ?_ ?_ ?_
 ·exact Sub.en Z
 ·intro t3 s o hlot3 hltt3 h
  unfold z7 at h
  try dsimp only at h ⊢
  refine AWP.j (.q (.gk 2 Z (.j ?_)))
  obtain⟨a14,ha14,a16,ha16,h⟩:=b2 h
  refine AWP.G 3 Z (S.idx ha14 Z Z Z Z (.G 1 Z (.u Z Z (an5 Z hcvfv) Z (hfv ha16) Z (.nil (b5 (.F Z h (fun hc4 h=> ?_) (fun hc4 h=> ?_)))))))
  ·refine AWP.gk 2 Z (.ret (i9 (d9 ?_)))
   obtain rfl:=oi h
   refine d9 ⟨_,Z,Z,?_⟩
   exact Done.ret Z Z
  ·refine AWP.skip (d6 (b5 (.U (.add Z Z Z (by omega) (.z Z Z (.nil ?_))))))
   obtain rfl:=oi h
   refine b5 ⟨_,Z,?_⟩
   exact Sub.en Z
 ·intro iz _ he
  subst he
  try dsimp only at h ⊢
  refine i7 (b5 (.gk 1 Z (.ret ?_)))
  obtain rfl:=oi h
  exact Done.ret Z Z
 ·intro x e st he hq
  subst he
  try dsimp only at h hq
  obtain⟨rfl,hs⟩:=hq
  refine⟨_,Sub.refl _ _,?_⟩
  refine i9 (d9 ?_)
  obtain rfl:=oi h
  exact hs
theorem V0{sv:LL}{fv:Li->Option Bool}{r:Bool}{fvfv:FuncId}{cvfv:List C}(hcvfv:C.okL 0 cvfv=true)(hfv:∀{y1:Li} {z:Bool},fv y1=some z->f7 prog fvfv ([(cR y1)]++cvfv.map T.c) ((cB z)))(h:u4 sv fv=some r):f7 prog 54 [.c (row 1 d8 sv),.c (.fn fvfv cvfv)] ((cB r)):=by
 unfold f7
 refine FnOk.enter (rs:=[.t 4]) func54 Z ntmps54 results54 Z ⟨Y,Y⟩ (by kernel_rfl) Z ?_
 unfold u4 at h
 refine AWP.gk 1 Z (.j ?_)
 obtain⟨a7,ha7,h⟩:=b7 h
 refine AWP.G 2 Z (.u Z Z (by simp[T.okL,T.ok,C.ok,C.okL,hcvfv]) Z (as4 hcvfv hfv ha7) Z (.G 2 Z (.nil (b5 (.ret ?_)))))
 obtain rfl:=oi h
 exact Done.ret Z Z
theorem V7{worlds:LL}{facts:Li}{r:Bool}(h:O6 worlds facts=some r):f7 prog 39 [.c (row 1 d8 worlds),(cR facts)] ((cB r)):=by
 unfold f7
 refine FnOk.enter (rs:=[.t 4]) func39 Z ntmps39 results39 Z ⟨Y,Y⟩ (by kernel_rfl) Z ?_
 unfold O6 at h
 refine AWP.gk 2 Z (.j ?_)
 obtain⟨a7,ha7,h⟩:=b7 h
 refine AWP.G 1 Z (.ac Z Z (.aa Z Z (.cons (.c .imm) (.cons (.c (.fn (.cons (.ptr (es:=[.sl 1 (ic intI facts)]) Z Z (.cons .imm .nil)) .nil))) .nil)) Z (V0 Z (fun hy=>aE4 hy) ha7) Z ?_))
 refine AOps.G 2 Z (.nil (b5 (.ret ?_)))
 obtain rfl:=oi h
 exact Done.ret Z Z
theorem X0{sv:Li}{add:Li}{del:Li}{r:Li}(h:B8 sv add del=some r):o9 prog 29 [(cR sv),(cR add),(cR del)] 1 (ic intI r):=by
 unfold o9
 refine FnOk.enter (rs:=[.t 6]) func29 Z ntmps29 results29 Z ⟨Y,Y⟩ (by kernel_rfl) Z ?_
 unfold B8 at h
 refine AWP.gk 1 Z (.gk 1 Z (.j (.gs 1 Z (S.len Z Z (fun hl13=>.ge 1 Z (.q (.virtV 1 intI 7 Z Z Z ?_)))))))
 obtain⟨c4,ho1,h⟩:=b7 h
 refine AWP.forH ho1 (fun t5 c4=>⟨[(1,(cR add)),(2,(cR del)),(7,.c (.own 0 0 c4.length)),(12,(cR sv)),(13,(cI (sv.length:Int))),(14,(cI t5))],[(oV 1 intI c4)]⟩) (fun _ _=>Z) ?_ ?_ ?_
 ·exact Sub.env ⟨Z,Z,(C0 (by first|rfl|simp only[lS])),Z,Z,Z,Y⟩
 ·intro t5 c4 o hlot5 hltt5 h
  unfold ai9 at h
  try dsimp only at h ⊢
  obtain⟨c6,hx7,h⟩:=b7 h
  refine AWP.seqJ (⟨[(1,(cR add)),(2,(cR del)),(7,.c (.own 2 0 c6.length)),(12,(cR sv)),(13,(cI (sv.length:Int))),(14,(cI t5))],[.dead,.dead,(oV 1 intI c6)]⟩) ?_ ?_
  ·refine AWP.q (.j ?_)
   obtain⟨a16,ha16,hx7⟩:=b7 hx7
   refine AWP.U (S.idx ha16 Z Z Z Z (.G 2 Z (.nil (b5 (.j ?_)))))
   obtain⟨a21,ha21,hx7⟩:=b7 hx7
   refine AWP.G 2 Z (.u Z Z Z Z (T3 ha21) Z (.G 5 Z (.nil (b5 (.gk 2 Z (.F Z hx7 (fun hc8 hx7=> ?_) (fun hc8 hx7=> ?_)))))))
   ·obtain⟨a29,ha29,hx7⟩:=b7 hx7
    refine AWP.G 2 Z (S.lit (f:=intI) (l:=[a16]) (ess:=[[int a16]]) Z Z Z Z Z Z Z ⟨⟨.inl Z,Y⟩,Y⟩ Z Z Z (S.append (f:=intI) ha29 Z Z Z Z Z Z (.own Z Z) Z Z Z Z (.B Z Z (.nil (d6 ?_)))))
    obtain rfl:=oi hx7
    refine b5 (Sub.cut ⟨Z,Z,Z,Z,Z,Z,Y⟩ Z ⟨.dead,.dead,.vec,Y⟩ Z)
   ·refine AWP.skip (d6 ?_)
    obtain rfl:=oi hx7
    refine b5 ((Sub.move (env':=[(1,(cR add)),(2,(cR del)),(7,.c (.own 2 0 c4.length)),(12,(cR sv)),(13,(cI (sv.length:Int))),(14,(cI t5))]) (σ':=[.dead,.dead,(oV 1 intI c4)]) 2 0 Z Z Z ⟨Z,Z,Z,Z,Z,Z,Y⟩ Z ⟨Y,Y,⟨Blk.im_ok _ _ _,i6 Z⟩,Y⟩).trans (Sub.en Z))
  ·refine AWP.U (.add Z Z Z (by omega) (.z Z Z (.nil ?_)))
   obtain rfl:=oi h
   refine b5 ((Sub.move (env':=[(1,(cR add)),(2,(cR del)),(7,.c (.own 0 0 c6.length)),(12,(cR sv)),(13,(cI (sv.length:Int))),(14,(cI (t5+1)))]) (σ':=[(oV 1 intI c6),.dead]) 0 2 Z Z Z ⟨Z,Z,Z,Z,Z,Z,Y⟩ Z ⟨⟨Blk.im_ok _ _ _,i6 Z⟩,Y,Y⟩).trans (Sub.cut ⟨Z,Z,Z,Z,Z,Z,Y⟩ Z ⟨.vec,Y⟩ Z))
 ·intro iz
  refine i7 (b5 (.j ?_))
  obtain⟨a33,ha33,h⟩:=b7 h
  refine AWP.G 2 Z (S.append (f:=intI) ha33 Z Z Z Z Z Z .row Z Z Z Z (.B Z Z (.nil (b5 (.j (.z (env':=[(7,.c (.own 0 0 a33.length))]) (σ':=[(oV 1 intI a33)]) 0 1 Z Z Z ⟨Z,Y⟩ Z ⟨⟨Blk.im_ok _ _ _,i6 Z⟩,Y⟩ ?_))))))
  obtain⟨a35,ha35,h⟩:=b7 h
  refine AWP.G 1 Z (S.sort ha35 sortL_ok Z Z Z Z Z Z (.nil (b5 (.gs 1 Z (S.compact compactL_ok Z Z (sortL_len ha35) Z Z Z Z Z (.ge 1 Z (.ret ?_)))))))
  obtain rfl:=oi h
  exact Done.ret Z (Fresh.mk Z Z)
theorem ay9{t:j3}{sv:Li}{op:Int}{r:Li}(h:Y6 t sv op=some r):o9 prog 92 [.agg (tT t),(cR sv),(cI op)] 1 (ic intI r):=by
 unfold o9
 refine FnOk.enter (rs:=[.t 6]) func92 Z ntmps92 results92 Z ⟨Y,Y⟩ (by kernel_rfl) Z ?_
 unfold Y6 at h
 refine AWP.gk 2 Z (.j ?_)
 obtain⟨a11,ha11,h⟩:=b7 h
 refine AWP.G 3 Z (S.idx ha11 Z Z Z Z (.G 3 Z (.nil (b5 (.j ?_)))))
 obtain⟨a18,ha18,h⟩:=b7 h
 refine AWP.G 5 Z (S.fresh Z Z Z Z (X0 ha18) Z Z (.B Z Z (.nil (b5 (.ret ?_)))))
 obtain rfl:=oi h
 exact Done.ret Z (Fresh.mk Z Z)
theorem aD4{xv:Int}{yv:Int}{r:Int}(h:T6 xv yv=some r):f7 prog 78 [(cI xv),(cI yv)] ((cI r)):=by
 unfold f7
 refine FnOk.enter (rs:=[.t 4]) func78 Z ntmps78 results78 Z ⟨Y,Y⟩ (by kernel_rfl) Z ?_
 unfold T6 at h
 refine AWP.gk 1 Z (.j ?_)
 obtain⟨a8,ha8,h⟩:=b7 h
 refine AWP.G 1 Z (.u Z Z Z Z (F7 ha8) Z (.B Z Z (.nil (b5 (.j ?_)))))
 obtain⟨a10,ha10,h⟩:=b7 h
 refine AWP.G 1 Z (.u Z Z Z Z (F7 ha10) Z (.B Z Z (.nil (b5 (.j (.gk 1 Z (.F Z h (fun hc3 h=> ?_) (fun hc3 h=> ?_))))))))
 ·refine AWP.j (.gk 1 Z (.F Z h (fun hc4 h=> ?_) (fun hc4 h=> ?_)))
  ·refine AWP.gk 1 Z (.ret (d9 (d9 ?_)))
   obtain rfl:=oi h
   exact Done.ret Z Z
  ·refine AWP.skip (b5 (.gk 1 Z (.ret (d9 ?_))))
   obtain rfl:=oi h
   exact Done.ret Z Z
 ·refine AWP.skip (b5 (.j (.gk 1 Z (.F Z h (fun hc5 h=> ?_) (fun hc5 h=> ?_)))))
  ·refine AWP.gk 1 Z (.ret (d9 ?_))
   obtain rfl:=oi h
   exact Done.ret Z Z
  ·refine AWP.skip (b5 (.j (.gk 3 Z (.J Z h (fun hc6 h=> ?_) (fun hc6 h=> ?_)))))
   ·refine AWP.gk 1 Z (.ret (d9 ?_))
    obtain rfl:=oi h
    exact Done.ret Z Z
   ·refine AWP.skip (b5 (.j (.gk 3 Z (.J Z h (fun hc7 h=> ?_) (fun hc7 h=> ?_)))))
    ·refine AWP.gk 1 Z (.ret (d9 ?_))
     obtain rfl:=oi h
     exact Done.ret Z Z
    ·refine AWP.skip (b5 (.gk 1 Z (.ret ?_)))
     obtain rfl:=oi h
     exact Done.ret Z Z
theorem w9{s11:Li}{s22:Li}{r:Int}(h:slices_Compare_int_int s11 s22=some r):f7 prog 46 [(cR s11),(cR s22)] ((cI r)):=by
 unfold f7
 refine FnOk.enter (rs:=[.t 4]) func46 Z ntmps46 results46 Z ⟨Y,Y⟩ (by kernel_rfl) Z ?_
 unfold slices_Compare_int_int at h
 refine AWP.gk 1 Z (.j (.gs 1 Z (S.len Z Z (fun hl10=>.ge 1 Z (.q ?_)))))
 obtain⟨oo,ho1,h⟩:=b7 h
 refine AWP.rngH ho1 (fun t3 _=>⟨[(0,(cR s11)),(1,(cR s22)),(9,(cR s11)),(10,(cI (s11.length:Int))),(11,(cI t3))],[]⟩) (fun x e st=>e=.ret/\Done [.t 4] (fun t _=>t=(cI x)) .ret st) (fun _ _=>Z) ?_ ?_ ?_ ?_
 ·exact Sub.en Z
 ·intro t3 s o hlot3 hltt3 h
  unfold G5 at h
  try dsimp only at h ⊢
  refine AWP.j (.q (.j ?_))
  obtain⟨a14,ha14,h⟩:=b7 h
  refine AWP.G 1 Z (S.idx ha14 Z Z Z Z (.G 3 Z (.nil (b5 (.j (.gs 2 Z (S.len Z Z (fun hl18=>.ge 1 Z (.J Z h (fun hc4 h=> ?_) (fun hc4 h=> ?_))))))))))
  ·refine AWP.gk 1 Z (.ret (d9 (i9 (d9 ?_))))
   obtain rfl:=oi h
   refine d9 ⟨_,Z,Z,?_⟩
   exact Done.ret Z Z
  ·refine AWP.skip (b5 (.j ?_))
   obtain⟨a22,ha22,h⟩:=b7 h
   refine AWP.G 2 Z (S.idx ha22 Z Z Z Z (.G 2 Z (.nil (b5 (.j ?_)))))
   obtain⟨a26,ha26,h⟩:=b7 h
   refine AWP.G 2 Z (.u Z Z Z Z (aD4 ha26) Z (.B Z Z (.nil (b5 (.gk 2 Z (.iteN Z h (fun hc5 h=> ?_) (fun hc5 h=> ?_)))))))
   ·refine AWP.gk 2 Z (.ret (i9 (d9 ?_)))
    obtain rfl:=oi h
    refine d9 ⟨_,Z,Z,?_⟩
    exact Done.ret Z Z
   ·refine AWP.skip (d6 (b5 (.U (.add Z Z Z (by omega) (.z Z Z (.nil ?_))))))
    obtain rfl:=oi h
    refine b5 ⟨_,Z,?_⟩
    exact Sub.en Z
 ·intro iz _ he
  subst he
  try dsimp only at h ⊢
  refine i7 (b5 (.j (.gs 1 Z (S.len Z Z (fun hl32=>.z Z Z (S.len Z Z (fun hl34=>.ge 1 Z (.J Z h (fun hc6 h=> ?_) (fun hc6 h=> ?_)))))))))
  ·refine AWP.gk 1 Z (.ret (d9 ?_))
   obtain rfl:=oi h
   exact Done.ret Z Z
  ·refine AWP.skip (b5 (.gk 1 Z (.ret ?_)))
   obtain rfl:=oi h
   exact Done.ret Z Z
 ·intro x e st he hq
  subst he
  try dsimp only at h hq
  obtain⟨rfl,hs⟩:=hq
  refine⟨_,Sub.refl _ _,?_⟩
  refine i9 (d9 ?_)
  obtain rfl:=oi h
  exact hs
theorem R3{s11:Li}{s22:Li}{r:Bool}(h:B3 s11 s22=some r):f7 prog 56 [(cR s11),(cR s22)] ((cB r)):=by
 unfold f7
 refine FnOk.enter (rs:=[.t 4]) func56 Z ntmps56 results56 Z ⟨Y,Y⟩ (by kernel_rfl) Z ?_
 unfold B3 at h
 refine AWP.gk 1 Z (.j (.gs 1 Z (S.len Z Z (fun hl7=>.z Z Z (S.len Z Z (fun hl9=>.ge 1 Z (.iteN Z h (fun hc3 h=> ?_) (fun hc3 h=> ?_))))))))
 ·refine AWP.gk 1 Z (.ret (d9 ?_))
  obtain rfl:=oi h
  exact Done.ret Z Z
 ·refine AWP.skip (b5 (.j (.gs 1 Z (S.len Z Z (fun hl12=>.ge 1 Z (.q ?_))))))
  obtain⟨oo,ho1,h⟩:=b7 h
  refine AWP.rngH ho1 (fun t4 _=>⟨[(0,(cR s11)),(1,(cR s22)),(12,(cI (s11.length:Int))),(13,(cI t4))],[]⟩) (fun x e st=>e=.ret/\Done [.t 4] (fun t _=>t=(cB x)) .ret st) (fun _ _=>Z) ?_ ?_ ?_ ?_
  ·exact Sub.en Z
  ·intro t4 s o hlot4 hltt4 h
   unfold R2 at h
   try dsimp only at h ⊢
   refine AWP.j (.q (.gk 2 Z (.j ?_)))
   obtain⟨a18,ha18,a22,ha22,h⟩:=b2 h
   refine AWP.drawI mixed Z (d7.D 2 Z ?_)
   refine d7.consF Z (fun E=>S.idx ha18 Z Z Z Z .N) Z ?_
   refine d7.D 3 Z ?_
   refine d7.consF Z (fun E=>S.idx ha22 Z Z Z Z .N) Z ?_
   refine d7.D 2 Z (d7.done ?_)
   dsimp only[l9]
   refine b5 (.iteN Z h (fun hc5 h=> ?_) (fun hc5 h=> ?_))
   ·refine AWP.gk 1 Z (.ret (i9 (d9 ?_)))
    obtain rfl:=oi h
    refine d9 ⟨_,Z,Z,?_⟩
    exact Done.ret Z Z
   ·refine AWP.skip (d6 (b5 (.U (.add Z Z Z (by omega) (.z Z Z (.nil ?_))))))
    obtain rfl:=oi h
    refine b5 ⟨_,Z,?_⟩
    exact Sub.en Z
  ·intro iz _ he
   subst he
   try dsimp only at h ⊢
   refine i7 (b5 (.gk 1 Z (.ret ?_)))
   obtain rfl:=oi h
   exact Done.ret Z Z
  ·intro x e st he hq
   subst he
   try dsimp only at h hq
   obtain⟨rfl,hs⟩:=hq
   refine⟨_,Sub.refl _ _,?_⟩
   refine i9 (d9 ?_)
   obtain rfl:=oi h
   exact hs
theorem ak3{l:LL}{r:(LL)}(h:A4 l=some r):FnOk prog 85 [.c (.own 0 0 l.length),.c (.fn 56 [])] (H0 l) (fun tt ss=>tt=.c (.own 1 0 r.length)/\ss=[.dead,(oV 1 d8 r)]):=by
 refine FnOk.enter (rs:=[.t 4]) func85 Z ntmps85 results85 Z ⟨Y,Y⟩ (by kernel_rfl) Z ?_
 refine AWP.weak ?_
 unfold A4 at h
 refine AWP.z (env':=[(0,.c (.own 1 0 l.length)),(1,.c (.fn 56 []))]) (σ':=[.dead,(oV 1 d8 l)]) 1 0 Z Z Z ⟨Z,Z,Y⟩ Z ⟨Y,⟨Blk.im_ok _ _ _,i6 Z⟩,Y⟩ (.gk 1 Z (.j (.gs 1 Z (S.lenO Z Z Z (fun hl9=>.ge 1 Z (.J Z h (fun hc53 h=> ?_) (fun hc53 h=> ?_)))))))
 ·refine AWP.gk 2 Z (.ret (d9 ?_))
  obtain rfl:=oi h
  exact Done.e Z ⟨Z,Z⟩
 ·refine AWP.skip (b5 (.j (.gk 1 Z (.q ?_))))
  obtain⟨oo,ho1,h⟩:=b7 h
  refine AWP.rngL ho1 (fun kv54 _=>⟨[(0,.c (.own 1 0 l.length)),(1,.c (.fn 56 [])),(5,(cI kv54))],[.dead,(oV 1 d8 l)]⟩) (fun x e st=>e=.ret/\∃J,Sub (H0 l) st J/\Done [.t 4] (fun tt ss=>tt=.c (.own 1 0 x.length)/\ss=[.dead,(oV 1 d8 x)]) .ret J) (fun _ _ _ k=>.G 2 Z (S.lenO Z Z Z fun hl=>.gn 1 Z (k hl))) (fun _ _=>Z) ?_ ?_ ?_ ?_
  ·exact Sub.en Z
  ·intro kv54 s o hlokv54 hltkv54 h hl14
   unfold u9 at h
   try dsimp only at h ⊢
   refine AWP.j (.q (.j ?_))
   obtain⟨a21,ha21,a26,ha26,a28,ha28,h⟩:=b3 h
   refine AWP.drawI mixed Z (d7.D 3 Z ?_)
   refine d7.consF Z (fun E=>S.idxO ha21 Z Z Z Z Z .N) Z (.consF Z (fun E=>S.loadO ha21 Z Z Z Z Z .N) Z ?_)
   refine d7.D 2 Z ?_
   refine d7.consF Z (fun E=>.sub' Z Z Z (by omega) .N) Z (.consF Z (fun E=>S.idxO ha26 Z Z Z Z Z .N) Z (.consF Z (fun E=>S.loadO ha26 Z Z Z Z Z .N) Z (.consF Z (fun E=>.u Z Z Z Z (R3 ha28) Z .N) Z ?_)))
   refine d7.done ?_
   dsimp only[l9]
   refine b5 (.F Z h (fun hc55 h=> ?_) (fun hc55 h=> ?_))
   ·refine AWP.j ?_
    obtain⟨u31,hu31,h⟩:=b7 h
    refine AWP.G 2 Z (S.vFrom (Y5 l) hu31 Z Z Z Z Z Z (.B Z Z (.nil (b5 (.j (.gk 1 Z (.q ?_)))))))
    obtain⟨⟨c56,kv57⟩,ho2,h⟩:=b7 h
    try dsimp only at h
    refine AWP.forS ho2 (fun k258 (c56,kv57)=>⟨[(0,.c (.own 1 0 c56.length)),(1,.c (.fn 56 [])),(5,(cI kv57)),(6,.c (.own 1 ((0+kv54).toNat) (((l.length:Int) - kv54).toNat))),(7,(cI k258))],[.dead,(oV 1 d8 c56)]⟩) (fun(c56,kv57) e st=>e=.exit 2/\Sub (H0 l) st ⟨[(0,.c (.own 1 0 c56.length)),(5,(cI kv57))],[.dead,(oV 1 d8 c56)]⟩) ?_ ?_ ?_ ?_
    ·exact Sub.en Z
    ·intro k258 s hlok258 hltk258 _
     obtain⟨c56,kv57⟩:=s
     refine AWP.j (.gs 2 Z (S.lenV (ac4 (vw_cut (Y5 l) hu31)).2.1 Z Z Z (fun hl34=>.ge 1 Z (.condNP Z hltk258 (.exit (k8 (k8 ⟨Z,?_⟩)))))))
     exact Sub.en Z
    ·intro k258 s o hlok258 hltk258 h
     obtain⟨c56,kv57⟩:=s
     unfold y4 at h
     try dsimp only at h ⊢
     refine AWP.j (.gs 2 Z (S.lenV (ac4 (vw_cut (Y5 l) hu31)).2.1 Z Z Z (fun hl34=>.ge 1 Z (.condP Z hltk258 (.skip (b5 ?_))))))
     obtain⟨⟨c59,kv60⟩,hx61,h⟩:=b7 h
     refine AWP.seqJ (⟨[(0,.c (.own 1 0 c59.length)),(1,.c (.fn 56 [])),(5,(cI kv60)),(6,.c (.own 1 ((0+kv54).toNat) (((l.length:Int) - kv54).toNat))),(7,(cI k258))],[.dead,(oV 1 d8 c59)]⟩) ?_ ?_
     ·refine AWP.q (.j ?_)
      obtain⟨a41,ha41,a46,ha46,a48,ha48,hx61⟩:=b3 hx61
      refine AWP.drawI mixed Z (d7.D 3 Z ?_)
      refine d7.consF Z (fun E=>S.idxV ha41 Z Z Z Z .N) Z (.consF Z (fun E=>S.loadO (ixV_ix ha41) Z Z Z Z Z .N) Z ?_)
      refine d7.D 2 Z ?_
      refine d7.consF Z (fun E=>.sub' Z Z Z (by omega) .N) Z (.consF Z (fun E=>S.idxV ha46 Z Z Z Z .N) Z (.consF Z (fun E=>S.loadO (ixV_ix ha46) Z Z Z Z Z .N) Z (.consF Z (fun E=>.u Z Z Z Z (R3 ha48) Z .N) Z ?_)))
      refine d7.D 1 Z (d7.done ?_)
      dsimp only[l9]
      refine b5 (.F Z hx61 (fun hc62 hx61=> ?_) (fun hc62 hx61=> ?_))
      ·refine AWP.j ?_
       obtain⟨a54,ha54,a56,ha56,hx61⟩:=b2 hx61
       refine AWP.G 4 Z (S.idxV ha54 Z Z Z Z (S.loadO (ixV_ix ha54) Z Z Z Z Z (S.idxO ha56 Z Z Z Z Z (S.storeO1 (f:=d8) (a':=a54) (o7 ha56) (fun _=>⟨_,Z⟩) Z Z Z Z Z ?_))))
       refine AOps.nil (b5 (.G 3 Z (.nil (d6 ?_))))
       obtain⟨ej0,ej1⟩:=o2 hx61
       subst ej0 ej1
       refine b5 (Sub.env ⟨(C0 (by first|rfl|simp only[lS])),Z,Z,Z,Z,Y⟩)
      ·refine AWP.skip (d6 ?_)
       obtain⟨ej0,ej1⟩:=o2 hx61
       subst ej0 ej1
       refine b5 (Sub.en Z)
     ·try dsimp only at h
      refine AWP.G 1 Z (.add Z Z Z (by omega) (.B Z Z (.nil ?_)))
      obtain rfl:=oi h
      refine b5 (Sub.en Z)
    ·intro e s hq
     obtain⟨rfl,hs⟩:=hq
     refine⟨_,hs,?_⟩
     refine i7 (b5 (.j ?_))
     obtain⟨u61,hu61,h⟩:=b7 h
     refine AWP.G 2 Z (S.vFrom (Y5 c56) hu61 Z Z Z Z Z Z (S.clear (a0:=[]) Z Z Z (fun _ _ _ _=>.imm .slNil) (vw_cut (Y5 c56) hu61) Z Z Z Z Z ?_))
     refine AOps.nil (b5 (.j ?_))
     obtain⟨u64,hu64,h⟩:=b7 h
     refine AWP.G 2 Z ?_
     refine S.vTo (Y5 (clrL c56 (0+kv57) ((c56.length:Int) - kv57) [])) hu64 Z Z (by rw[Int.toNat_natCast];exact(clrL_len (vw_cut (Y5 c56) hu61)).symm) Z Z Z ?_
     refine AOps.B Z Z (.nil (b5 (.reown (env':=[(4,.c (.own 2 0 ((w5 (clrL c56 (0+kv57) ((c56.length:Int) - kv57) []) 0 kv57).length)))]) 4 (vw_to (Y5 (clrL c56 (0+kv57) ((c56.length:Int) - kv57) [])) hu64) Z Z Z Z Z Z Z Z (by exact⟨.inl ⟨Z,Z⟩,Y⟩) (.ret (i9 (d9 ?_))))))
     obtain rfl:=oi h
     refine d9 ⟨_,Z,Z,?_⟩
     exact⟨⟨[(4,.c (.own 1 0 ((w5 (clrL c56 (0+kv57) ((c56.length:Int) - kv57) []) 0 kv57).length)))],[.dead,(oV 1 d8 (w5 (clrL c56 (0+kv57) ((c56.length:Int) - kv57) []) 0 kv57))]⟩,(Sub.move (env':=[(4,.c (.own 1 0 ((w5 (clrL c56 (0+kv57) ((c56.length:Int) - kv57) []) 0 kv57).length)))]) (σ':=[.dead,(oV 1 d8 (w5 (clrL c56 (0+kv57) ((c56.length:Int) - kv57) []) 0 kv57))]) 1 2 Z Z Z ⟨Z,Y⟩ Z ⟨Y,⟨Blk.im_ok _ _ _,i6 Z⟩,Y⟩).trans (Sub.env ⟨Z,Y⟩),Done.ret Z ⟨Z,Z⟩⟩
   ·refine AWP.skip (d6 (b5 (.G 1 Z (.add Z Z Z (by omega) (.B Z Z (.nil ?_))))))
    obtain rfl:=oi h
    refine b5 ⟨_,Z,?_⟩
    exact Sub.en Z
  ·intro iz _ he
   subst he
   try dsimp only at h ⊢
   refine i7 (b5 (.gk 2 Z (.ret ?_)))
   obtain rfl:=oi h
   exact Done.e Z ⟨Z,Z⟩
  ·intro x e st he hq
   subst he
   try dsimp only at h hq
   obtain⟨rfl,hs⟩:=hq
   refine⟨_,Sub.refl _ _,?_⟩
   refine i9 (d9 ?_)
   obtain rfl:=oi h
   exact hs
theorem K7{l:LL}{r:(LL)}(h:C7 l=some r):FnOk prog 57 [.c (.own 0 0 l.length)] (aC5 l) (fun tt ss=>tt=.c (.own 2 0 r.length)/\ss=[.dead,.dead,(oV 1 d8 r)]):=by
 refine FnOk.enter (rs:=[.t 2]) func57 Z ntmps57 results57 Z ⟨Y,Y⟩ (by kernel_rfl) Z ?_
 refine AWP.weak ?_
 unfold C7 at h
 refine AWP.z (env':=[(0,.c (.own 1 0 l.length))]) (σ':=[.dead,(oV 1 d8 l)]) 1 0 Z Z Z ⟨Z,Y⟩ Z ⟨Y,⟨Blk.im_ok _ _ _,i6 Z⟩,Y⟩ (.gk 1 Z (.j ?_))
 obtain⟨a4,ha4,h⟩:=b7 h
 refine AWP.G 1 Z (S.sortF (fun x=>.sl 1 (ic intI x)) (sortLL_fl ha4) Z (fun hy=>w9 hy) sortF_LLi64_ok (⟨_,func46,Z,Z⟩) Z Z Z Z Z Z ?_)
 refine AOps.nil (b5 (.j ?_))
 obtain⟨a6,ha6,h⟩:=b7 h
 refine AWP.G 1 Z ?_
 refine AOps.callF (r2:=.c (.own 2 0 a6.length)) (σ'':=[.dead,.dead,(oV 1 d8 a6)]) Z Z Z (FnOk.lend [1] (ak3 ha6) Z Z Z Z Z Z (by exact⟨.vec,Y⟩) (by rw[(sortFL_len (sortLL_fl ha4))]<;>rfl) (by exact⟨(.live Z .vec),Y⟩) Z Z (by exact⟨.dead,.dead,(.new 1 Z Z .vec),Y⟩)) ?_
 refine AOps.B Z Z (.nil (b5 (.ret ?_)))
 obtain rfl:=oi h
 exact Done.e Z ⟨Z,Z⟩
theorem aw1{t:j3}{worlds:LL}{op:Int}{r:(LL)}(h:K8 t worlds op=some r):o9 prog 94 [.agg (tT t),.c (row 1 d8 worlds),(cI op)] 1 (ic d8 r):=by
 unfold o9
 refine FnOk.enter (rs:=[.t 6]) func94 Z ntmps94 results94 Z ⟨Y,Y⟩ (by kernel_rfl) Z ?_
 unfold K8 at h
 refine AWP.gk 2 Z (.gk 1 Z (.j (.gs 1 Z (S.len Z Z (fun hl11=>.ge 1 Z (.q (.virtV 1 d8 7 Z Z Z ?_)))))))
 obtain⟨c4,ho1,h⟩:=b7 h
 refine AWP.forH ho1 (fun t5 c4=>⟨[(2,(cI op)),(3,(cP 0 0 0)),(7,.c (.own 1 0 c4.length)),(10,.c (row 1 d8 worlds)),(11,(cI (worlds.length:Int))),(12,(cI t5))],[(oE 4 (tT t)),(oV 1 d8 c4)]⟩) (fun _ _=>Z) ?_ ?_ ?_
 ·exact Sub.env ⟨Z,Z,(C0 (by first|rfl|simp only[lS])),Z,Z,Z,Y⟩
 ·intro t5 c4 o hlot5 hltt5 h
  unfold T5 at h
  try dsimp only at h ⊢
  refine AWP.j (.q (.j ?_))
  obtain⟨a14,ha14,h⟩:=b7 h
  refine AWP.U (S.idx ha14 Z Z Z Z (.G 2 Z (.nil (b5 ?_))))
  obtain⟨a20,ha20,a22,ha22,h⟩:=b2 h
  refine AWP.G 4 Z (S.fresh Z Z Z Z (ay9 ha20) Z Z (.frzV (id:=2) (l:=a20) (env2:=[(2,(cI op)),(3,(cP 0 0 0)),(10,.c (row 1 d8 worlds)),(11,(cI (worlds.length:Int))),(12,(cI t5)),(16,.c (.own 1 0 c4.length)),(20,(cR a20))]) (σ2:=[(oE 4 (tT t)),(oV 1 d8 c4),.dead]) Z Z (by exact⟨⟨_,Z,.inl ⟨Z,Z⟩⟩,⟨_,Z,.inl ⟨Z,Z⟩⟩,⟨_,Z,.inl ⟨Z,Z⟩⟩,⟨_,Z,.inl ⟨Z,Z⟩⟩,⟨_,Z,.inl ⟨Z,Z⟩⟩,⟨_,Z,.inl ⟨Z,Z⟩⟩,⟨_,Z,.inr ⟨_,Z,Z,Z⟩⟩,Y⟩) Z (by exact⟨⟨Z,.inl ⟨Z,Z⟩,.inl ⟨Z,Z⟩,.inl ⟨Z,Z⟩,.inl ⟨Z,Z⟩,Y⟩,FrzB.vec,Y,Y⟩) (S.lit (f:=d8) (l:=[a20]) (ess:=[[row 1 intI a20]]) Z Z Z Z Z Z Z ⟨⟨.inl Z,Y⟩,Y⟩ Z Z Z (S.append (f:=d8) ha22 Z Z Z Z Z Z (.own Z Z) Z Z Z Z (.B Z Z (.nil (d6 (b5 (.z (env':=[(2,(cI op)),(3,(cP 0 0 0)),(7,.c (.own 1 0 a22.length)),(10,.c (row 1 d8 worlds)),(11,(cI (worlds.length:Int))),(12,(cI t5))]) (σ':=[(oE 4 (tT t)),(oV 1 d8 a22),.dead,(oV 1 d8 [a20])]) 1 4 Z Z Z ⟨Z,Z,Z,Z,Z,Z,Y⟩ Z ⟨⟨Z,Z⟩,⟨Blk.im_ok _ _ _,i6 Z⟩,Y,⟨Blk.im_ok _ _ _,i6 Z⟩,Y⟩ (.U (.add Z Z Z (by omega) (.z Z Z (.nil ?_)))))))))))))
  obtain rfl:=oi h
  refine b5 (Sub.cut ⟨Z,Z,Z,Z,Z,Z,Y⟩ Z ⟨.one Z,.vec,Y⟩ Z)
 ·intro iz
  refine i7 (b5 (.j ?_))
  obtain⟨a25,ha25,h⟩:=b7 h
  refine AWP.G 1 Z (.callF (r2:=.c (.own 3 0 a25.length)) (σ'':=[(oE 4 (tT t)),.dead,.dead,(oV 1 d8 a25)]) Z Z Z (FnOk.lend [1] (K7 ha25) Z Z Z Z Z Z (by exact⟨.vec,Y⟩) Z (by exact⟨(.live Z .vec),Y⟩) Z Z (by exact⟨(.old Z Z Z),.dead,.dead,(.new 2 Z Z .vec),Y⟩)) (.B Z Z (.nil (b5 (.ret ?_)))))
  obtain rfl:=oi h
  exact Done.ret Z (Fresh.mk Z Z)
theorem ax6{t:j3}{worlds:LL}{r:Unit}(h:J5 t worlds=some r):FnOk prog 67 [.agg (tT t),.c (row 1 d8 worlds)] (ax1 t worlds) (fun tt ss=>tt=.c (.fn 93 [.ptr 0 0 0,.ptr 1 0 0])/\ss=[(oE 4 (tT t)),(o1 (row 1 d8 worlds))]):=by
 refine FnOk.enter (rs:=[.t 4]) func67 Z ntmps67 results67 Z ⟨Y,Y⟩ (by kernel_rfl) Z ?_
 refine AWP.weak ?_
 unfold J5 at h
 refine AWP.gk 3 Z (.j (.U (.ac Z Z (.ge 1 Z (.ret ?_)))))
 obtain rfl:=oi h
 exact Done.e Z ⟨Z,Z⟩
theorem at0{t:j3}{unknown:Li}{r:(LL)}(h:R4 t unknown=some r):o9 prog 35 [.agg (tT t),(cR unknown)] 1 (ic d8 r):=by
 unfold o9
 refine FnOk.enter (rs:=[.t 4]) func35 Z ntmps35 results35 Z ⟨Y,Y⟩ (by kernel_rfl) Z ?_
 unfold R4 at h
 refine AWP.gk 2 Z (.gk 1 Z (.j (.j ?_)))
 obtain⟨u12,hu12,h⟩:=b7 h
 refine AWP.G 1 Z (S.len Z Z (fun hl11=>S.shl hu12 Z Z Z (.z Z Z (.nil (b5 (.q (.virtV 1 d8 5 Z Z Z ?_)))))))
 obtain⟨hnt4,h⟩:=ite_none h
 obtain⟨c3,ho1,h⟩:=b7 h
 refine AWP.forH ho1 (fun t4 c3=>⟨[(1,(cR unknown)),(2,(cP 0 0 0)),(5,.c (.own 1 0 c3.length)),(12,(cI (shlW .i64 1 (unknown.length:Int)))),(13,(cI t4))],[(oE 4 (tT t)),(oV 1 d8 c3)]⟩) (fun _ _=>Z) ?_ ?_ ?_
 ·exact Sub.env ⟨Z,Z,(C0 (by first|rfl|simp only[lS])),Z,Z,Y⟩
 ·intro t4 c3 o hlot4 hltt4 h
  unfold Q0 at h
  try dsimp only at h ⊢
  refine AWP.j (.q (.gk 2 Z (.gk 1 Z (.j (.gs 1 Z (S.len Z Z (fun hl17=>.ge 1 Z (.q (.virtV 1 intI 7 Z Z Z ?_)))))))))
  obtain⟨c5,ho2,h⟩:=b7 h
  refine AWP.forH ho2 (fun t6 c5=>⟨[(1,(cR unknown)),(2,(cP 0 0 0)),(5,.c (.own 1 0 c3.length)),(6,(cI t4)),(7,.c (.own 2 0 c5.length)),(12,(cI (shlW .i64 1 (unknown.length:Int)))),(13,(cI t4)),(16,(cR unknown)),(17,(cI (unknown.length:Int))),(18,(cI t6))],[(oE 4 (tT t)),(oV 1 d8 c3),(oV 1 intI c5)]⟩) (fun _ _=>Z) ?_ ?_ ?_
  ·exact Sub.env ⟨Z,Z,Z,Z,(C0 (by first|rfl|simp only[lS])),Z,Z,Z,Z,Z,Y⟩
  ·intro t6 c5 o hlot6 hltt6 h
   unfold ai1 at h
   try dsimp only at h ⊢
   obtain⟨c7,hx8,h⟩:=b7 h
   refine AWP.seqJ (⟨[(1,(cR unknown)),(2,(cP 0 0 0)),(5,.c (.own 1 0 c3.length)),(6,(cI t4)),(7,.c (.own 4 0 c7.length)),(12,(cI (shlW .i64 1 (unknown.length:Int)))),(13,(cI t4)),(16,(cR unknown)),(17,(cI (unknown.length:Int))),(18,(cI t6))],[(oE 4 (tT t)),(oV 1 d8 c3),.dead,.dead,(oV 1 intI c7)]⟩) ?_ ?_
   ·refine AWP.q (.j ?_)
    obtain⟨a21,ha21,hx8⟩:=b7 hx8
    refine AWP.G 1 Z (S.idx ha21 Z Z Z Z (.G 3 Z (.nil (b5 (.gs 2 Z (.shr Z Z Z (by first|decide|omega) Z (.bits Z Z Z (by simp) (.ge 1 Z (.J Z hx8 (fun hc9 hx8=> ?_) (fun hc9 hx8=> ?_))))))))))
    ·obtain⟨a31,ha31,hx8⟩:=b7 hx8
     refine AWP.G 2 Z (S.lit (f:=intI) (l:=[a21]) (ess:=[[int a21]]) Z Z Z Z Z Z Z ⟨⟨.inl Z,Y⟩,Y⟩ Z Z Z (S.append (f:=intI) ha31 Z Z Z Z Z Z (.own Z Z) Z Z Z Z (.B Z Z (.nil (d6 ?_)))))
     obtain rfl:=oi hx8
     refine b5 (Sub.cut ⟨Z,Z,Z,Z,Z,Z,Z,Z,Z,Z,Y⟩ Z ⟨.one Z,.vec,.dead,.dead,.vec,Y⟩ Z)
    ·refine AWP.skip (d6 ?_)
     obtain rfl:=oi hx8
     refine b5 ((Sub.move (env':=[(1,(cR unknown)),(2,(cP 0 0 0)),(5,.c (.own 1 0 c3.length)),(6,(cI t4)),(7,.c (.own 4 0 c5.length)),(12,(cI (shlW .i64 1 (unknown.length:Int)))),(13,(cI t4)),(16,(cR unknown)),(17,(cI (unknown.length:Int))),(18,(cI t6))]) (σ':=[(oE 4 (tT t)),(oV 1 d8 c3),.dead,.dead,(oV 1 intI c5)]) 4 2 Z Z Z ⟨Z,Z,Z,Z,Z,Z,Z,Z,Z,Z,Y⟩ Z ⟨⟨Z,Z⟩,⟨Blk.im_ok _ _ _,i6 Z⟩,Y,Y,⟨Blk.im_ok _ _ _,i6 Z⟩,Y⟩).trans (Sub.en Z))
   ·refine AWP.U (.add Z Z Z (by omega) (.z Z Z (.nil ?_)))
    obtain rfl:=oi h
    refine b5 ((Sub.move (env':=[(1,(cR unknown)),(2,(cP 0 0 0)),(5,.c (.own 1 0 c3.length)),(6,(cI t4)),(7,.c (.own 2 0 c7.length)),(12,(cI (shlW .i64 1 (unknown.length:Int)))),(13,(cI t4)),(16,(cR unknown)),(17,(cI (unknown.length:Int))),(18,(cI (t6+1)))]) (σ':=[(oE 4 (tT t)),(oV 1 d8 c3),(oV 1 intI c7),.dead]) 2 4 Z Z Z ⟨Z,Z,Z,Z,Z,Z,Z,Z,Z,Z,Y⟩ Z ⟨⟨Z,Z⟩,⟨Blk.im_ok _ _ _,i6 Z⟩,⟨Blk.im_ok _ _ _,i6 Z⟩,Y,Y⟩).trans (Sub.cut ⟨Z,Z,Z,Z,Z,Z,Z,Z,Z,Z,Y⟩ Z ⟨.one Z,.vec,.vec,Y⟩ Z))
  ·intro iz
   refine i7 (b5 ?_)
   obtain⟨a38,ha38,a40,ha40,h⟩:=b2 h
   refine AWP.G 5 Z (S.freshL (fun _=>Z) Z Z (.cons (.c .imm) (.cons (.c (.own Z Z)) (.cons (.c .imm) .nil))) Z (X0 ha38) Z Z ?_)
   refine AOps.frzV (id:=3) (l:=a38) (env2:=[(1,(cR unknown)),(2,(cP 0 0 0)),(12,(cI (shlW .i64 1 (unknown.length:Int)))),(13,(cI t4)),(33,.c (.own 1 0 c3.length)),(38,(cR a38))]) (σ2:=[(oE 4 (tT t)),(oV 1 d8 c3),(oV 1 intI c5),.dead]) Z Z (by exact⟨⟨_,Z,.inl ⟨Z,Z⟩⟩,⟨_,Z,.inl ⟨Z,Z⟩⟩,⟨_,Z,.inl ⟨Z,Z⟩⟩,⟨_,Z,.inl ⟨Z,Z⟩⟩,⟨_,Z,.inl ⟨Z,Z⟩⟩,⟨_,Z,.inr ⟨_,Z,Z,Z⟩⟩,Y⟩) Z (by exact⟨⟨Z,.inl ⟨Z,Z⟩,.inl ⟨Z,Z⟩,.inl ⟨Z,Z⟩,.inl ⟨Z,Z⟩,Y⟩,FrzB.vec,FrzB.vec,Y,Y⟩) (S.lit (f:=d8) (l:=[a38]) (ess:=[[row 1 intI a38]]) Z Z Z Z Z Z Z ⟨⟨.inl Z,Y⟩,Y⟩ Z Z Z (S.append (f:=d8) ha40 Z Z Z Z Z Z (.own Z Z) Z Z Z Z (.B Z Z (.nil (d6 (b5 (.z (env':=[(1,(cR unknown)),(2,(cP 0 0 0)),(5,.c (.own 1 0 a40.length)),(12,(cI (shlW .i64 1 (unknown.length:Int)))),(13,(cI t4))]) (σ':=[(oE 4 (tT t)),(oV 1 d8 a40),(oV 1 intI c5),.dead,(oV 1 d8 [a38])]) 1 5 Z Z Z ⟨Z,Z,Z,Z,Z,Y⟩ Z ⟨⟨Z,Z⟩,⟨Blk.im_ok _ _ _,i6 Z⟩,⟨Blk.im_ok _ _ _,i6 Z⟩,Y,⟨Blk.im_ok _ _ _,i6 Z⟩,Y⟩ (.U (.add Z Z Z (by omega) (.z Z Z (.nil ?_)))))))))))
   obtain rfl:=oi h
   refine b5 (Sub.cut ⟨Z,Z,Z,Z,Z,Y⟩ Z ⟨.one Z,.vec,Y⟩ Z)
 ·intro iz
  refine i7 (b5 (.j ?_))
  obtain⟨a43,ha43,h⟩:=b7 h
  refine AWP.G 1 Z (.callF (r2:=.c (.own 3 0 a43.length)) (σ'':=[(oE 4 (tT t)),.dead,.dead,(oV 1 d8 a43)]) Z Z Z (FnOk.lend [1] (K7 ha43) Z Z Z Z Z Z (by exact⟨.vec,Y⟩) Z (by exact⟨(.live Z .vec),Y⟩) Z Z (by exact⟨(.old Z Z Z),.dead,.dead,(.new 2 Z Z .vec),Y⟩)) (.B Z Z (.nil (b5 (.ret ?_)))))
  obtain rfl:=oi h
  exact Done.ret Z (Fresh.mk Z Z)
theorem az2{v:LL}{r:Bool}(h:S4 v=some r):f7 prog 68 [.c (row 1 d8 v)] ((cB r)):=by
 unfold f7
 refine FnOk.enter (rs:=[.t 2]) func68 Z ntmps68 results68 Z ⟨Y,Y⟩ (by kernel_rfl) Z ?_
 unfold S4 at h
 refine AWP.gk 1 Z (.gk 1 Z (.ret ?_))
 obtain rfl:=oi h
 exact Done.ret Z Z
theorem ar9{iv:Int}{r:ByteArray}(h:internal_strconv_small iv=some r):f7 prog 146 [(cI iv)] (.c (.imm (.val (.string r)))):=by
 unfold f7
 refine FnOk.enter (rs:=[.t 2]) func146 Z ntmps146 results146 Z ⟨Y,Y⟩ (by kernel_rfl) Z ?_
 unfold internal_strconv_small at h
 refine AWP.gk 1 Z (.j (.gk 2 Z (.J Z h (fun hc2 h=> ?_) (fun hc2 h=> ?_))))
 ·refine AWP.j ?_
  obtain⟨a8,ha8,h⟩:=b7 h
  refine AWP.G 3 Z (S.subStr ha8 Z Z Z Z (.B Z Z (.nil (b5 (.ret (d9 ?_))))))
  obtain rfl:=oi h
  exact Done.ret Z Z
 ·refine AWP.skip (b5 (.j ?_))
  obtain⟨a14,ha14,h⟩:=b7 h
  refine AWP.G 5 Z (S.subStr ha14 Z Z Z Z (.B Z Z (.nil (b5 (.ret ?_)))))
  obtain rfl:=oi h
  exact Done.ret Z Z
theorem af4{iv:Int}{base:Int}{l:Li}{r:Li}(h:C3 iv base l=some r):FnOk prog 124 [.c (.own 0 0 l.length),.c (.imm (.val (.int .u64 iv))),(cI base)] (af6 iv base l) (fun tt ss=>tt=.c (.own 2 0 r.length)/\ss=[.dead,.dead,(oV 1 eU8 r)]):=by
 refine FnOk.enter (rs:=[.t 6]) func124 Z ntmps124 results124 Z ⟨Y,Y⟩ (by kernel_rfl) Z ?_
 refine AWP.weak ?_
 unfold C3 at h
 refine AWP.z (env':=[(0,.c (.own 1 0 l.length)),(1,.c (.imm (.val (.int .u64 iv)))),(2,(cI base))]) (σ':=[.dead,(oV 1 eU8 l)]) 1 0 Z Z Z ⟨Z,Z,Z,Y⟩ Z ⟨Y,⟨Blk.im_ok _ _ _,i6 Z⟩,Y⟩ (.gk 1 Z (.j (.gk 2 Z (.J Z h (fun hc55 h=> ?_) (fun hc55 h=> ?_)))))
 ·refine AWP.j (.gk 2 Z (.J Z h (fun hc56 h=> ?_) (fun hc56 h=> ?_)))
  ·refine AWP.j ?_
   obtain⟨a16,ha16,a17,ha17,h⟩:=b2 h
   refine AWP.G 3 Z (.u Z Z Z Z (ar9 ha16) Z (S.appendStr ha17 Z Z Z Z Z Z Z Z Z Z (.B Z Z (.nil (b5 (.ret (d9 (d9 ?_))))))))
   obtain rfl:=oi h
   exact Done.e Z ⟨Z,Z⟩
  ·cases h
 ·cases h
theorem ah7{iv:Int}{base:Int}{l:Li}{r:Li}(h:D2 iv base l=some r):FnOk prog 95 [.c (.own 0 0 l.length),(cI iv),(cI base)] (ah3 iv base l) (fun tt ss=>tt=.c (.own 3 0 r.length)/\ss=[.dead,.dead,.dead,(oV 1 eU8 r)]):=by
 refine FnOk.enter (rs:=[.t 6]) func95 Z ntmps95 results95 Z ⟨Y,Y⟩ (by kernel_rfl) Z ?_
 refine AWP.weak ?_
 unfold D2 at h
 refine AWP.z (env':=[(0,.c (.own 1 0 l.length)),(1,(cI iv)),(2,(cI base))]) (σ':=[.dead,(oV 1 eU8 l)]) 1 0 Z Z Z ⟨Z,Z,Z,Y⟩ Z ⟨Y,⟨Blk.im_ok _ _ _,i6 Z⟩,Y⟩ (.gk 1 Z (.gk 3 Z ?_))
 obtain⟨u,hx55,h⟩:=b7 h
 refine AWP.seqJ (⟨[(0,.c (.own 1 0 l.length)),(2,(cI base)),(7,.c (.imm (.val (.int .u64 ((IntKind.u64).wrap iv)))))],[.dead,(oV 1 eU8 l)]⟩) ?_ ?_
 ·refine AWP.gk 2 Z (.J Z hx55 (fun hc56 hx55=> ?_) (fun hc56 hx55=> ?_))
  ·cases hx55
  ·refine AWP.skip ?_
   obtain rfl:=oi hx55
   refine b5 (Sub.en Z)
 ·try dsimp only at h
  refine AWP.j ?_
  obtain⟨a20,ha20,h⟩:=b7 h
  refine AWP.G 3 Z (.callF (r2:=.c (.own 3 0 a20.length)) (σ'':=[.dead,.dead,.dead,(oV 1 eU8 a20)]) Z Z Z (FnOk.lend [1] (af4 ha20) Z Z Z Z Z Z (by exact⟨.vec,Y⟩) Z (by exact⟨(.live Z .vec),Y⟩) Z Z (by exact⟨.dead,.dead,.dead,(.new 2 Z Z .vec),Y⟩)) (.B Z Z (.nil (b5 (.ret ?_)))))
  obtain rfl:=oi h
  exact Done.e Z ⟨Z,Z⟩
theorem av1{iv:Int}{base:Int}{l:Li}{r:Li}(h:E3 iv base l=some r):FnOk prog 69 [.c (.own 0 0 l.length),(cI iv),(cI base)] (av6 iv base l) (fun tt ss=>tt=.c (.own 4 0 r.length)/\ss=[.dead,.dead,.dead,.dead,(oV 1 eU8 r)]):=by
 refine FnOk.enter (rs:=[.t 6]) func69 Z ntmps69 results69 Z ⟨Y,Y⟩ (by kernel_rfl) Z ?_
 refine AWP.weak ?_
 unfold E3 at h
 refine AWP.z (env':=[(0,.c (.own 1 0 l.length)),(1,(cI iv)),(2,(cI base))]) (σ':=[.dead,(oV 1 eU8 l)]) 1 0 Z Z Z ⟨Z,Z,Z,Y⟩ Z ⟨Y,⟨Blk.im_ok _ _ _,i6 Z⟩,Y⟩ (.gk 1 Z (.j ?_))
 obtain⟨a10,ha10,h⟩:=b7 h
 refine AWP.G 3 Z (.callF (r2:=.c (.own 4 0 a10.length)) (σ'':=[.dead,.dead,.dead,.dead,(oV 1 eU8 a10)]) Z Z Z (FnOk.lend [1] (ah7 ha10) Z Z Z Z Z Z (by exact⟨.vec,Y⟩) Z (by exact⟨(.live Z .vec),Y⟩) Z Z (by exact⟨.dead,.dead,.dead,.dead,(.new 3 Z Z .vec),Y⟩)) (.B Z Z (.nil (b5 (.ret ?_)))))
 obtain rfl:=oi h
 exact Done.e Z ⟨Z,Z⟩
theorem R7{l:LL}{r:ByteArray}(h:C6 l=some r):f7 prog 36 [.c (row 1 d8 l)] (.c (.imm (.val (.string r)))):=by
 unfold f7
 refine FnOk.enter (rs:=[.t 2]) func36 Z ntmps36 results36 Z ⟨Y,Y⟩ (by kernel_rfl) Z ?_
 unfold C6 at h
 refine AWP.gk 1 Z (.gk 1 Z (.j (.gs 1 Z (S.len Z Z (fun hl9=>.ge 1 Z (.q (.virtV 1 eU8 3 Z Z Z ?_)))))))
 obtain⟨c2,ho1,h⟩:=b7 h
 refine AWP.forH ho1 (fun t3 c2=>⟨[(3,.c (.own 0 0 c2.length)),(8,.c (row 1 d8 l)),(9,(cI (l.length:Int))),(10,(cI t3))],[(oV 1 eU8 c2)]⟩) (fun _ _=>Z) ?_ ?_ ?_
 ·exact Sub.env ⟨(C0 (by first|rfl|simp only[lS])),Z,Z,Z,Y⟩
 ·intro t3 c2 o hlot3 hltt3 h
  unfold aq7 at h
  try dsimp only at h ⊢
  refine AWP.j (.q (.j ?_))
  obtain⟨a12,ha12,h⟩:=b7 h
  refine AWP.U (S.idx ha12 Z Z Z Z (.G 2 Z (.nil (b5 (.j (.gs 1 Z (S.len Z Z (fun hl15=>.ge 1 Z (.q ?_)))))))))
  obtain⟨c4,ho2,h⟩:=b7 h
  refine AWP.forH ho2 (fun t5 c4=>⟨[(3,.c (.own 0 0 c4.length)),(8,.c (row 1 d8 l)),(9,(cI (l.length:Int))),(10,(cI t3)),(14,(cR a12)),(15,(cI (a12.length:Int))),(16,(cI t5))],[(oV 1 eU8 c4)]⟩) (fun _ _=>Z) ?_ ?_ ?_
  ·exact Sub.en Z
  ·intro t5 c4 o hlot5 hltt5 h
   unfold aq4 at h
   try dsimp only at h ⊢
   refine AWP.j (.q (.j ?_))
   obtain⟨a18,ha18,h⟩:=b7 h
   refine AWP.U (S.idx ha18 Z Z Z Z (.G 2 Z (.nil (b5 ?_))))
   obtain⟨a22,ha22,a24,ha24,h⟩:=b2 h
   refine AWP.G 2 Z (.callF (r2:=.c (.own 4 0 a22.length)) (σ'':=[.dead,.dead,.dead,.dead,(oV 1 eU8 a22)]) Z Z Z (FnOk.lend [0] (av1 ha22) Z Z Z Z Z Z (by exact⟨.vec,Y⟩) Z (by exact⟨(.live Z .vec),Y⟩) Z Z (by exact⟨.dead,.dead,.dead,.dead,(.new 4 Z Z .vec),Y⟩)) (S.lit (f:=eU8) (l:=[44]) (ess:=[[.imm (.val (.int .u8 44))]]) Z Z Z Z Z Z Z ⟨⟨.inl Z,Y⟩,Y⟩ Z Z Z (S.append (f:=eU8) ha24 Z Z Z Z Z Z (.own Z Z) Z Z Z Z (.B Z Z (.nil (d6 (b5 (.z (env':=[(3,.c (.own 4 0 a24.length)),(8,.c (row 1 d8 l)),(9,(cI (l.length:Int))),(10,(cI t3)),(14,(cR a12)),(15,(cI (a12.length:Int))),(16,(cI t5))]) (σ':=[.dead,.dead,.dead,.dead,(oV 1 eU8 a24),(oV 1 eU8 [44])]) 4 6 Z Z Z ⟨Z,Z,Z,Z,Z,Z,Z,Y⟩ Z ⟨Y,Y,Y,Y,⟨Blk.im_ok _ _ _,i6 Z⟩,⟨Blk.im_ok _ _ _,i6 Z⟩,Y⟩ (.U (.add Z Z Z (by omega) (.z Z Z (.nil ?_))))))))))))
   obtain rfl:=oi h
   refine b5 ((Sub.move (env':=[(3,.c (.own 0 0 a24.length)),(8,.c (row 1 d8 l)),(9,(cI (l.length:Int))),(10,(cI t3)),(14,(cR a12)),(15,(cI (a12.length:Int))),(16,(cI (t5+1)))]) (σ':=[(oV 1 eU8 a24),.dead,.dead,.dead,.dead,(oV 1 eU8 [44])]) 0 4 Z Z Z ⟨Z,Z,Z,Z,Z,Z,Z,Y⟩ Z ⟨⟨Blk.im_ok _ _ _,i6 Z⟩,Y,Y,Y,Y,⟨Blk.im_ok _ _ _,i6 Z⟩,Y⟩).trans (Sub.cut ⟨Z,Z,Z,Z,Z,Z,Z,Y⟩ Z ⟨.vec,Y⟩ Z))
  ·intro iz
   refine i7 (b5 ?_)
   obtain⟨a28,ha28,h⟩:=b7 h
   refine AWP.G 1 Z (S.lit (f:=eU8) (l:=[59]) (ess:=[[.imm (.val (.int .u8 59))]]) Z Z Z Z Z Z Z ⟨⟨.inl Z,Y⟩,Y⟩ Z Z Z (S.append (f:=eU8) ha28 Z Z Z Z Z Z (.own Z Z) Z Z Z Z (.B Z Z (.nil (d6 (b5 (.z (env':=[(3,.c (.own 0 0 a28.length)),(8,.c (row 1 d8 l)),(9,(cI (l.length:Int))),(10,(cI t3))]) (σ':=[(oV 1 eU8 a28),(oV 1 eU8 [59])]) 0 2 Z Z Z ⟨Z,Z,Z,Z,Y⟩ Z ⟨⟨Blk.im_ok _ _ _,i6 Z⟩,⟨Blk.im_ok _ _ _,i6 Z⟩,Y⟩ (.U (.add Z Z Z (by omega) (.z Z Z (.nil ?_)))))))))))
   obtain rfl:=oi h
   refine b5 (Sub.cut ⟨Z,Z,Z,Z,Y⟩ Z ⟨.vec,Y⟩ Z)
 ·intro iz
  refine i7 (b5 (.gs 1 Z (S.bytesStr Z Z Z Z (.ge 1 Z (.ret ?_)))))
  obtain rfl:=oi h
  exact Done.ret Z Z
theorem aF6{w:LL}{c2:j3}{r:Bool}(h:M8 w c2=some r):f7 prog 38 [.c (row 1 d8 w),.c (.imm (.ipt [.val (.int .i64 c2.facts),.sl 1 (ic intI c2.init),.sl 1 (ic intI c2.goal),.sl 4 (ic j8 c2.operators)]))] ((cB r)):=by
 unfold f7
 refine FnOk.enter (rs:=[.t 3]) func38 Z ntmps38 results38 Z ⟨Y,Y⟩ (by kernel_rfl) Z ?_
 unfold M8 at h
 refine AWP.gk 1 Z (.j ?_)
 obtain⟨a7,ha7,h⟩:=b7 h
 refine AWP.G 3 Z (.u Z Z Z Z (V7 ha7) Z (.B Z Z (.nil (b5 (.ret ?_)))))
 obtain rfl:=oi h
 exact Done.ret Z Z
theorem aE9{t:j3}{r:Unit}(h:ag1 t=some r):FnOk prog 33 [.agg (tT t)] (aF1 t) (fun tt ss=>tt=.c (.fn 66 [.ptr 0 0 0])/\ss=[(oE 4 (tT t))]):=by
 refine FnOk.enter (rs:=[.t 2]) func33 Z ntmps33 results33 Z ⟨Y,Y⟩ (by kernel_rfl) Z ?_
 refine AWP.weak ?_
 unfold ag1 at h
 refine AWP.gk 2 Z (.j (.U (.ac Z Z (.ge 1 Z (.ret ?_)))))
 obtain rfl:=oi h
 exact Done.e Z ⟨Z,Z⟩
theorem ap3{worlds:LL}{Facts:Int}{Init:Li}{Goal:Li}{Operators:List h9}{r:Unit}(h:L8 worlds Facts Init Goal Operators=some r):FnOk prog 66 [.c (row 1 d8 worlds),(cP 0 0 0)] (aD6 worlds Facts Init Goal Operators) (fun tt ss=>tt=.c (.fn 93 [.ptr 1 0 0,.ptr 2 0 0])/\ss=[(oE 4 (tF Facts Init Goal Operators)),(oE 4 (tF Facts Init Goal Operators)),(o1 (row 1 d8 worlds))]):=by
 refine FnOk.enter (rs:=[.t 3]) func66 Z ntmps66 results66 Z ⟨Y,Y⟩ (by kernel_rfl) Z ?_
 refine AWP.weak ?_
 unfold L8 at h
 refine AWP.gk 1 Z (.j ?_)
 obtain⟨a6,ha6,h⟩:=b7 h
 refine AWP.G 2 Z (.callF (r2:=.c (.fn 93 [.ptr 1 0 0,.ptr 2 0 0])) (σ'':=[(oE 4 (tF Facts Init Goal Operators)),(oE 4 (tF Facts Init Goal Operators)),(o1 (row 1 d8 worlds))]) Z Z Z (FnOk.lend [] (ax6 ha6) Z Z Z Z Z Z (by exact Y) Z (by exact Y) Z Z (by exact⟨(.old Z Z Z),(.new 0 Z Z (.one Z)),(.new 1 Z Z (.one Z)),Y⟩)) (.B Z Z (.nil (b5 (.ret ?_)))))
 obtain rfl:=oi h
 exact Done.e Z ⟨Z,Z⟩
theorem av5{start:LL}{Facts:Int}{Init:Li}{Goal:Li}{Operators:List h9}{r:Li×Bool×Bool}(h:O4 start Facts Init Goal Operators=some r):FnOk prog 37 [.c (row 1 d8 start),.c (.fn 36 []),.c (.fn 66 [.ptr 0 0 0]),.c (.fn 68 [])] (I9 start Facts Init Goal Operators) (fun tt ss=>tt=.tup [(cR r.1),(cB r.2.1),(cB r.2.2)]/\ss=[(oE 4 (tF Facts Init Goal Operators)),.dead,(o1 (row 1 intI r.1)),(o1 (bool r.2.1)),(o1 (bool r.2.2))]):=by
 refine FnOk.enter (rs:=[.one 8 22,.one 9 4,.one 10 4]) func37 Z ntmps37 results37 Z ⟨rv1 _ Z,rv1 _ Z,rv1 _ Z,Y⟩ (by kernel_rfl) Z ?_
 refine AWP.weak ?_
 unfold O4 at h
 refine AWP.gk 4 Z (.gs 2 Z (S.lit (f:=f9) (l:=[(⟨start, -1,0⟩:f8)]) (ess:=[[row 1 d8 start,int (-1),int 0]]) Z Z Z Z Z Z Z ⟨⟨.inl Z,.inl Z,.inl Z,Y⟩,Y⟩ Z Z Z (.ge 2 Z (.j ?_))))
 obtain⟨a25,ha25,h⟩:=b7 h
 refine AWP.U (W.makeMap Value.string vI Z Z Z (.G 2 Z (.u Z Z Z Z (R7 ha25) Z (W.insert (fk:=Value.string) (fv:=vI) (k:=a25) (a:=1) ak8 Z Z Z Z Z (.G 3 Z (.nil (b5 (.j (.gk 2 Z (.q ?_))))))))))
 obtain⟨oo,ho1,h⟩:=b7 h
 refine AWP.loopS ho1 (fun(c59,c60,c61)=>⟨[(2,.c (.fn 66 [.ptr 0 0 0])),(3,.c (.fn 68 [])),(5,(cP 1 0 0)),(8,(cP 2 0 0)),(9,(cP 3 0 0)),(10,(cP 4 0 0)),(11,(cP 6 0 0)),(12,(cP 8 0 0)),(13,(cP 9 0 0))],[(oE 4 (tF Facts Init Goal Operators)),(o1 (.fn 36 [])),(o1 (.imm (.val nL))),(o1 (bool false)),(o1 (bool false)),(oV 3 f9 c59),(o1 (.own 5 0 c59.length)),(oW Value.string vI c60),(o1 (.map 7)),(o1 (int c61))]⟩) (fun o e st=>match o with| .inl _=>e=.exit 0/\Sub (I9 start Facts Init Goal Operators) st ⟨[(8,(cP 2 0 0)),(9,(cP 3 0 0)),(10,(cP 4 0 0))],[(oE 4 (tF Facts Init Goal Operators)),.dead,(o1 (.imm (.val nL))),(o1 (bool false)),(o1 (bool false))]⟩| .inr x=>e=.ret/\∃J,Sub (I9 start Facts Init Goal Operators) st J/\Done [.one 8 22,.one 9 4,.one 10 4] (fun tt ss=>tt=.tup [(cR x.1),(cB x.2.1),(cB x.2.2)]/\ss=[(oE 4 (tF Facts Init Goal Operators)),.dead,(o1 (row 1 intI x.1)),(o1 (bool x.2.1)),(o1 (bool x.2.2))]) .ret J) ?_ ?_ ?_
 ·exact Sub.en Z
 ·intro s o h
  obtain⟨c59,c60,c61⟩:=s
  unfold J1 at h
  try dsimp only at h ⊢
  refine AWP.j (.gs 2 Z (S.lenO Z Z Z (fun hl29=>.ge 1 Z (.J Z h (fun hc62 h=> ?_) (fun hc62 h=> ?_)))))
  ·refine AWP.skip (b5 (.j (.q (.j (.j ?_)))))
   obtain⟨a36,ha36,a39,ha39,h⟩:=b2 h
   refine AWP.G 3 Z (S.idxO ha36 Z Z Z Z Z (.G 1 Z (S.loadO ha36 Z Z Z Z Z (.u Z Z Z Z (az2 ha39) Z (.nil (b5 (.F Z h (fun hc63 h=> ?_) (fun hc63 h=> ?_))))))))
   ·refine AWP.gk 1 Z (.j (.gk 2 Z (.q (.virtV 1 intI 14 Z Z Z ?_))))
    obtain⟨c66,ho2,h⟩:=b7 h
    refine AWP.loopS ho2 (fun(c64,iv65)=>⟨[(8,(cP 2 0 0)),(9,(cP 3 0 0)),(10,(cP 4 0 0)),(11,(cP 6 0 0)),(14,.c (.own 10 0 c64.length)),(15,(cI iv65))],[(oE 4 (tF Facts Init Goal Operators)),.dead,(o1 (.imm (.val nL))),(o1 (bool false)),(o1 (bool false)),(oV 3 f9 c59),(o1 (.own 5 0 c59.length)),.dead,.dead,.dead,(oV 1 intI c64)]⟩) (fun c66 e st=>e=.exit 2/\Sub (I9 start Facts Init Goal Operators) st ⟨[(8,(cP 2 0 0)),(9,(cP 3 0 0)),(10,(cP 4 0 0)),(14,.c (.own 10 0 c66.length))],[(oE 4 (tF Facts Init Goal Operators)),.dead,(o1 (.imm (.val nL))),(o1 (bool false)),(o1 (bool false)),.dead,.dead,.dead,.dead,.dead,(oV 1 intI c66)]⟩) ?_ ?_ ?_
    ·exact Sub.cut ⟨Z,Z,Z,Z,(C0 (by first|rfl|simp only[lS])),Z,Y⟩ Z ⟨.one Z,.dead,.one Z,.one Z,.one Z,.vec,.one Z,.dead,.dead,.dead,.vec,Y⟩ Z
    ·intro s o h
     obtain⟨c64,iv65⟩:=s
     unfold ae4 at h
     try dsimp only at h ⊢
     refine AWP.j (.j ?_)
     obtain⟨a43,ha43,h⟩:=b7 h
     refine AWP.G 2 Z (S.idxO ha43 Z Z Z Z Z (.G 1 Z (S.loadO ha43 Z Z Z Z Z (.geq Z Z Z (.nil (b5 (.J Z h (fun hc67 h=> ?_) (fun hc67 h=> ?_))))))))
     ·refine AWP.skip (b5 (.j (.q ?_)))
      obtain⟨a55,ha55,a59,ha59,h⟩:=b2 h
      refine AWP.G 3 Z (S.idxO ha55 Z Z Z Z Z (.G 1 Z (S.loadO ha55 Z Z Z Z Z (S.lit (f:=intI) (l:=[a55.step]) (ess:=[[int a55.step]]) Z Z Z Z Z Z Z ⟨⟨.inl Z,Y⟩,Y⟩ Z Z Z (S.append (f:=intI) ha59 Z Z Z Z Z Z (.own Z Z) Z Z Z Z (.B Z Z (.nil (d6 (b5 (.z (env':=[(8,(cP 2 0 0)),(9,(cP 3 0 0)),(10,(cP 4 0 0)),(11,(cP 6 0 0)),(14,.c (.own 10 0 a59.length)),(15,(cI iv65))]) (σ':=[(oE 4 (tF Facts Init Goal Operators)),.dead,(o1 (.imm (.val nL))),(o1 (bool false)),(o1 (bool false)),(oV 3 f9 c59),(o1 (.own 5 0 c59.length)),.dead,.dead,.dead,(oV 1 intI a59),(oV 1 intI [a55.step])]) 10 12 Z Z Z ⟨Z,Z,Z,Z,Z,Z,Y⟩ Z ⟨⟨Z,Z⟩,Y,⟨Z,Z⟩,⟨Z,Z⟩,⟨Z,Z⟩,⟨Blk.im_ok _ _ _,i6 Z⟩,⟨Z,Z⟩,Y,Y,Y,⟨Blk.im_ok _ _ _,i6 Z⟩,⟨Blk.im_ok _ _ _,i6 Z⟩,Y⟩ ?_))))))))))
      obtain⟨a49,ha49,h⟩:=b7 h
      refine AWP.G 2 Z (S.idxO ha49 Z Z Z Z Z (.G 1 Z (S.loadO ha49 Z Z Z Z Z (.B Z Z (.nil ?_)))))
      obtain rfl:=oi h
      refine b5 ⟨_,Z,?_⟩
      exact Sub.cut ⟨Z,Z,Z,Z,Z,Z,Y⟩ Z ⟨.one Z,.dead,.one Z,.one Z,.one Z,.vec,.one Z,.dead,.dead,.dead,.vec,Y⟩ Z
     ·refine AWP.exit (k8 ?_)
      obtain rfl:=oi h
      refine k8 ⟨_,Z,Z,?_⟩
      exact Sub.cut ⟨Z,Z,Z,Z,Y⟩ Z ⟨.one Z,.dead,.one Z,.one Z,.one Z,.dead,.dead,.dead,.dead,.dead,.vec,Y⟩ Z
    ·intro e s hq
     obtain⟨rfl,hs⟩:=hq
     refine⟨_,hs,?_⟩
     refine i7 (b5 (.gs 1 Z (S.rev revL_ok Z Z Z Z Z Z (.ne (.gk 4 Z (.frzV (id:=10) (l:=c66.reverse) (env2:=[(8,(cP 2 0 0)),(9,(cP 3 0 0)),(10,(cP 4 0 0))]) (σ2:=[(oE 4 (tF Facts Init Goal Operators)),.dead,(o1 (row 1 intI c66.reverse)),(o1 (bool true)),(o1 (bool true)),.dead,.dead,.dead,.dead,.dead,.dead]) Z Z (by exact⟨⟨_,Z,.inl ⟨Z,Z⟩⟩,⟨_,Z,.inl ⟨Z,Z⟩⟩,⟨_,Z,.inl ⟨Z,Z⟩⟩,Y⟩) Z (by exact⟨⟨Z,.inl ⟨Z,Z⟩,.inl ⟨Z,Z⟩,.inl ⟨Z,Z⟩,.inl ⟨Z,Z⟩,Y⟩,Y,⟨Z,.inr ⟨_,Z,ik.symm,Z⟩,Y⟩,⟨Z,.inl ⟨Z,Z⟩,Y⟩,⟨Z,.inl ⟨Z,Z⟩,Y⟩,Y,Y,Y,Y,Y,Y,Y⟩) (.ret (d9 (i9 (d9 ?_))))))))))
     obtain rfl:=oi h
     refine d9 ⟨_,Z,Z,?_⟩
     exact⟨⟨[(8,(cP 2 0 0)),(9,(cP 3 0 0)),(10,(cP 4 0 0))],[(oE 4 (tF Facts Init Goal Operators)),.dead,(o1 (row 1 intI c66.reverse)),(o1 (bool true)),(o1 (bool true))]⟩,Sub.cut ⟨Z,Z,Z,Y⟩ Z ⟨.one Z,.dead,.one Z,.one Z,.one Z,Y⟩ Z,Done.ret Z ⟨Z,Z⟩⟩
   ·refine AWP.skip (b5 (.j ?_))
    obtain⟨a66,ha66,a69,ha69,h⟩:=b2 h
    refine AWP.G 3 Z (S.idxO ha66 Z Z Z Z Z (.G 1 Z (S.loadO ha66 Z Z Z Z Z (.callF (r2:=.c (.fn 93 [.ptr 10 0 0,.ptr 11 0 0])) (σ'':=[(oE 4 (tF Facts Init Goal Operators)),(o1 (.fn 36 [])),(o1 (.imm (.val nL))),(o1 (bool false)),(o1 (bool false)),(oV 3 f9 c59),(o1 (.own 5 0 c59.length)),(oW Value.string vI c60),(o1 (.map 7)),(o1 (int c61)),(oE 4 (tF Facts Init Goal Operators)),(o1 (row 1 d8 a66.node))]) Z Z Z (FnOk.lend [0] (ap3 ha69) Z Z Z Z Z Z (by exact⟨(.one Z),Y⟩) Z (by exact⟨(.live Z (.one Z)),Y⟩) Z Z (by exact⟨(.new 0 Z Z (.one Z)),(.old Z Z Z),(.old Z Z Z),(.old Z Z Z),(.old Z Z Z),(.old Z Z Z),(.old Z Z Z),(.old Z Z Z),(.old Z Z Z),(.old Z Z Z),(.new 1 Z Z (.one Z)),(.new 2 Z Z (.one Z)),Y⟩)) (.nil (b5 (.q ?_)))))))
    obtain⟨xr68,hr68,h⟩:=b7 h
    refine AWP.rangeB [(5,none),(8,none),(9,none),(10,none),(11,none),(12,none),(13,none)] Z Z Z (fun as68 bo68 hA68 hB68=>⟨[(oE 4 (tF Facts Init Goal Operators)),(o1 (.fn 36 [])),(o1 (.imm (.val nL))),(o1 (bool false)),(o1 (bool false)),(oV 3 f9 c59),(o1 (.own 5 0 c59.length)),(oW Value.string vI c60),(o1 (.map 7)),(o1 (int c61)),(oE 4 (tF Facts Init Goal Operators)),(o1 (row 1 d8 a66.node)),.one (p8 92 [70,71] as68 bo68 .ready none [(5,none),(8,none),(9,none),(10,none),(11,none),(12,none),(13,none)] [.ptr 1 0 0,.ptr 2 0 0,.ptr 3 0 0,.ptr 4 0 0,.ptr 6 0 0,.ptr 8 0 0,.ptr 9 0 0])],fun tt ss=>(∃v:(List (ByteArray×Int))×(List f8),xr68=.inl v/\tt=.tup []/\ss=[(oE 4 (tF Facts Init Goal Operators)),(o1 (.fn 36 [])),(o1 (.imm (.val nL))),(o1 (bool false)),(o1 (bool false)),.dead,(o1 (.own 13 0 v.2.length)),(oW Value.string vI v.1),(o1 (.map 7)),(o1 (int c61)),(oE 4 (tF Facts Init Goal Operators)),(o1 (row 1 d8 a66.node)),.one (p8 92 [70,71] as68 bo68 .ready none [(5,none),(8,none),(9,none),(10,none),(11,none),(12,none),(13,none)] [.ptr 1 0 0,.ptr 2 0 0,.ptr 3 0 0,.ptr 4 0 0,.ptr 6 0 0,.ptr 8 0 0,.ptr 9 0 0]),(oV 3 f9 v.2)])\/(∃v:(List (ByteArray×Int))×(List f8),xr68=.inr v/\tt=.tup []/\ss=[(oE 4 (tF Facts Init Goal Operators)),(o1 (.fn 36 [])),(o1 (.imm (.val nL))),(o1 (bool false)),(o1 (bool false)),.dead,(o1 (.own 13 0 v.2.length)),(oW Value.string vI v.1),(o1 (.map 7)),(o1 (int c61)),(oE 4 (tF Facts Init Goal Operators)),(o1 (row 1 d8 a66.node)),.one (p8 92 [70,71] as68 bo68 .done (some .ret) [(5,none),(8,none),(9,none),(10,none),(11,none),(12,none),(13,none)] [.ptr 1 0 0,.ptr 2 0 0,.ptr 3 0 0,.ptr 4 0 0,.ptr 6 0 0,.ptr 8 0 0,.ptr 9 0 0]),(oV 3 f9 v.2)]),Z,?_,?_⟩)
    ·clear h
     refine FnOk.enter (rs:=[]) func93 Z ntmps93 results93 Z Y (by kernel_rfl) Z ?_
     refine AWP.weak ?_
     unfold E8 at hr68
     try dsimp only at hr68
     refine AWP.z (env':=[(0,.c (.yld 12)),(1,(cP 10 0 0)),(2,(cP 11 0 0))]) (σ':=[(oE 4 (tF Facts Init Goal Operators)),(o1 (.fn 36 [])),(o1 (.imm (.val nL))),(o1 (bool false)),(o1 (bool false)),.dead,(o1 (.own 13 0 c59.length)),(oW Value.string vI c60),(o1 (.map 7)),(o1 (int c61)),(oE 4 (tF Facts Init Goal Operators)),(o1 (row 1 d8 a66.node)),.one (p8 92 [70,71] as68 bo68 .ready none [(5,none),(8,none),(9,none),(10,none),(11,none),(12,none),(13,none)] [.ptr 1 0 0,.ptr 2 0 0,.ptr 3 0 0,.ptr 4 0 0,.ptr 6 0 0,.ptr 8 0 0,.ptr 9 0 0]),(oV 3 f9 c59)]) 13 5 Z Z Z ⟨Z,Z,Z,Y⟩ Z ⟨⟨Z,Z⟩,⟨Z,Z⟩,⟨Z,Z⟩,⟨Z,Z⟩,⟨Z,Z⟩,Y,⟨Z,Z⟩,⟨Z,Z⟩,⟨Z,Z⟩,⟨Z,Z⟩,⟨Z,Z⟩,⟨Z,Z⟩,⟨Z,Z⟩,⟨Blk.im_ok _ _ _,i6 Z⟩,Y⟩ (.gs 2 Z (S.len Z Z (fun hl8=>.ge 1 Z (.q ?_))))
     obtain⟨oo,ho3,hr68⟩:=b7 hr68
     refine AWP.rngH ho3 (fun t75 (c73,c74)=>⟨[(0,.c (.yld 12)),(1,(cP 10 0 0)),(2,(cP 11 0 0)),(7,.c (row 4 j8 Operators)),(8,(cI (Operators.length:Int))),(9,(cI t75))],[(oE 4 (tF Facts Init Goal Operators)),(o1 (.fn 36 [])),(o1 (.imm (.val nL))),(o1 (bool false)),(o1 (bool false)),.dead,(o1 (.own 13 0 c74.length)),(oW Value.string vI c73),(o1 (.map 7)),(o1 (int c61)),(oE 4 (tF Facts Init Goal Operators)),(o1 (row 1 d8 a66.node)),.one (p8 92 [70,71] as68 bo68 .ready none [(5,none),(8,none),(9,none),(10,none),(11,none),(12,none),(13,none)] [.ptr 1 0 0,.ptr 2 0 0,.ptr 3 0 0,.ptr 4 0 0,.ptr 6 0 0,.ptr 8 0 0,.ptr 9 0 0]),(oV 3 f9 c74)]⟩) (fun x e st=>e=.ret/\∃J,Sub ([(oE 4 (tF Facts Init Goal Operators)),(o1 (.fn 36 [])),(o1 (.imm (.val nL))),(o1 (bool false)),(o1 (bool false)),(oV 3 f9 c59),(o1 (.own 5 0 c59.length)),(oW Value.string vI c60),(o1 (.map 7)),(o1 (int c61)),(oE 4 (tF Facts Init Goal Operators)),(o1 (row 1 d8 a66.node)),.one (p8 92 [70,71] as68 bo68 .ready none [(5,none),(8,none),(9,none),(10,none),(11,none),(12,none),(13,none)] [.ptr 1 0 0,.ptr 2 0 0,.ptr 3 0 0,.ptr 4 0 0,.ptr 6 0 0,.ptr 8 0 0,.ptr 9 0 0])]:b6) st J/\Done [] (fun tt ss=>(∃v:(List (ByteArray×Int))×(List f8),x=.inl v/\tt=.tup []/\ss=[(oE 4 (tF Facts Init Goal Operators)),(o1 (.fn 36 [])),(o1 (.imm (.val nL))),(o1 (bool false)),(o1 (bool false)),.dead,(o1 (.own 13 0 v.2.length)),(oW Value.string vI v.1),(o1 (.map 7)),(o1 (int c61)),(oE 4 (tF Facts Init Goal Operators)),(o1 (row 1 d8 a66.node)),.one (p8 92 [70,71] as68 bo68 .ready none [(5,none),(8,none),(9,none),(10,none),(11,none),(12,none),(13,none)] [.ptr 1 0 0,.ptr 2 0 0,.ptr 3 0 0,.ptr 4 0 0,.ptr 6 0 0,.ptr 8 0 0,.ptr 9 0 0]),(oV 3 f9 v.2)])\/(∃v:(List (ByteArray×Int))×(List f8),x=.inr v/\tt=.tup []/\ss=[(oE 4 (tF Facts Init Goal Operators)),(o1 (.fn 36 [])),(o1 (.imm (.val nL))),(o1 (bool false)),(o1 (bool false)),.dead,(o1 (.own 13 0 v.2.length)),(oW Value.string vI v.1),(o1 (.map 7)),(o1 (int c61)),(oE 4 (tF Facts Init Goal Operators)),(o1 (row 1 d8 a66.node)),.one (p8 92 [70,71] as68 bo68 .done (some .ret) [(5,none),(8,none),(9,none),(10,none),(11,none),(12,none),(13,none)] [.ptr 1 0 0,.ptr 2 0 0,.ptr 3 0 0,.ptr 4 0 0,.ptr 6 0 0,.ptr 8 0 0,.ptr 9 0 0]),(oV 3 f9 v.2)])) .ret J) (fun _ _=>Z) ?_ ?_ ?_ ?_
     ·exact Sub.en Z
     ·intro t75 s o hlot75 hltt75 h
      obtain⟨c73,c74⟩:=s
      unfold I8 at h
      try dsimp only at h ⊢
      refine AWP.j (.q (.j ?_))
      obtain⟨ai12,hai12,h⟩:=b7 h
      refine AWP.G 1 Z (S.idx hai12 Z Z Z Z (.G 4 Z (.nil (b5 (.j ?_)))))
      obtain⟨ai17,hai17,h⟩:=b7 h
      rcases bft (ai17) with hb76|hb76
      ·replace h:=X1 hb76 h
       obtain⟨ai24,hai24,h⟩:=b7 h
       refine AWP.G 3 Z (.u Z Z Z Z (V7 hai17) Z (.z Z Z (.E Z Z Z hb76 (.z Z Z (.E Z Z Z hb76 (.z Z Z (.E Z Z Z hb76 (W.loadAgg Z Z Z Z Z Z Z (.E Z Z Z hb76 (.load Z Z Z Z Z Z (.E Z Z Z hb76 (.z Z Z (.E Z Z Z hb76 (S.fresh Z Z Z Z (aw1 hai24) Z Z (.frzV (id:=15) (l:=ai24) (env2:=[(0,.c (.yld 12)),(1,(cP 10 0 0)),(2,(cP 11 0 0)),(7,.c (row 4 j8 Operators)),(8,(cI (Operators.length:Int))),(9,(cI t75)),(18,(cB ai17)),(19,.c (.yld 12)),(20,(cI t75)),(24,.c (row 1 d8 ai24))]) (σ2:=[(oE 4 (tF Facts Init Goal Operators)),(o1 (.fn 36 [])),(o1 (.imm (.val nL))),(o1 (bool false)),(o1 (bool false)),.dead,(o1 (.own 13 0 c74.length)),(oW Value.string vI c73),(o1 (.map 7)),(o1 (int c61)),(oE 4 (tF Facts Init Goal Operators)),(o1 (row 1 d8 a66.node)),.one (p8 92 [70,71] as68 bo68 .ready none [(5,none),(8,none),(9,none),(10,none),(11,none),(12,none),(13,none)] [.ptr 1 0 0,.ptr 2 0 0,.ptr 3 0 0,.ptr 4 0 0,.ptr 6 0 0,.ptr 8 0 0,.ptr 9 0 0]),(oV 3 f9 c74),(oE 4 [row 1 intI ai12.pre,row 1 intI ai12.add,row 1 intI ai12.del,int ai12.cost]),.dead]) Z Z (by exact⟨⟨_,Z,.inl ⟨Z,Z⟩⟩,⟨_,Z,.inl ⟨Z,Z⟩⟩,⟨_,Z,.inl ⟨Z,Z⟩⟩,⟨_,Z,.inl ⟨Z,Z⟩⟩,⟨_,Z,.inl ⟨Z,Z⟩⟩,⟨_,Z,.inl ⟨Z,Z⟩⟩,⟨_,Z,.inl ⟨Z,Z⟩⟩,⟨_,Z,.inl ⟨Z,Z⟩⟩,⟨_,Z,.inl ⟨Z,Z⟩⟩,⟨_,Z,.inr ⟨_,Z,Z,Z⟩⟩,Y⟩) Z (by exact⟨⟨Z,.inl ⟨Z,Z⟩,.inl ⟨Z,Z⟩,.inl ⟨Z,Z⟩,.inl ⟨Z,Z⟩,Y⟩,⟨Z,.inl ⟨Z,Z⟩,Y⟩,⟨Z,.inl ⟨Z,Z⟩,Y⟩,⟨Z,.inl ⟨Z,Z⟩,Y⟩,⟨Z,.inl ⟨Z,Z⟩,Y⟩,Y,⟨Z,.inl ⟨Z,Z⟩,Y⟩,⟨Z,Z⟩,⟨Z,.inl ⟨Z,Z⟩,Y⟩,⟨Z,.inl ⟨Z,Z⟩,Y⟩,⟨Z,.inl ⟨Z,Z⟩,.inl ⟨Z,Z⟩,.inl ⟨Z,Z⟩,.inl ⟨Z,Z⟩,Y⟩,⟨Z,.inl ⟨Z,Z⟩,Y⟩,⟨Z,Z⟩,FrzB.vec,⟨Z,.inl ⟨Z,Z⟩,.inl ⟨Z,Z⟩,.inl ⟨Z,Z⟩,.inl ⟨Z,Z⟩,Y⟩,Y,Y⟩) ?_)))))))))))))))
       refine AOps.E Z Z Z hb76 ?_;refine AOps.yieldB (E1:=[(17,.c (row 1 d8 ai24)),(16,(cI t75)),(71,.c (row 1 d8 ai24)),(70,(cI t75)),(5,(cP 1 0 0)),(8,(cP 2 0 0)),(9,(cP 3 0 0)),(10,(cP 4 0 0)),(11,(cP 6 0 0)),(12,(cP 8 0 0)),(13,(cP 9 0 0))]) (σ1:=[(oE 4 (tF Facts Init Goal Operators)),(o1 (.fn 36 [])),(o1 (.imm (.val nL))),(o1 (bool false)),(o1 (bool false)),.dead,(o1 (.own 13 0 c74.length)),(oW Value.string vI c73),(o1 (.map 7)),(o1 (int c61)),(oE 4 (tF Facts Init Goal Operators)),(o1 (row 1 d8 a66.node)),.one (p8 92 [70,71] as68 bo68 .ready none [(5,none),(8,none),(9,none),(10,none),(11,none),(12,none),(13,none)] [.ptr 1 0 0,.ptr 2 0 0,.ptr 3 0 0,.ptr 4 0 0,.ptr 6 0 0,.ptr 8 0 0,.ptr 9 0 0]),(oV 3 f9 c74),(oE 4 [row 1 intI ai12.pre,row 1 intI ai12.add,row 1 intI ai12.del,int ai12.cost]),.dead]) hA68 hB68 Z Z Z Z Z Z Z Z Z Z ?_ ?_
       ·refine AWP.gk 1 Z (.G 1 Z (.nil ?_))
        exact⟨Z,Z⟩
       refine AWP.sub (s':=⟨[(5,(cP 1 0 0)),(8,(cP 2 0 0)),(9,(cP 3 0 0)),(10,(cP 4 0 0)),(11,(cP 6 0 0)),(12,(cP 8 0 0)),(13,(cP 9 0 0)),(16,(cI t75)),(17,.c (row 1 d8 ai24))],[(oE 4 (tF Facts Init Goal Operators)),(o1 (.fn 36 [])),(o1 (.imm (.val nL))),(o1 (bool false)),(o1 (bool false)),.dead,(o1 (.own 13 0 c74.length)),(oW Value.string vI c73),(o1 (.map 7)),(o1 (int c61)),(oE 4 (tF Facts Init Goal Operators)),(o1 (row 1 d8 a66.node)),.one (p8 92 [70,71] as68 bo68 .busy none [(5,none),(8,none),(9,none),(10,none),(11,none),(12,none),(13,none)] [.ptr 1 0 0,.ptr 2 0 0,.ptr 3 0 0,.ptr 4 0 0,.ptr 6 0 0,.ptr 8 0 0,.ptr 9 0 0]),(oV 3 f9 c74),(oE 4 [row 1 intI ai12.pre,row 1 intI ai12.add,row 1 intI ai12.del,int ai12.cost]),.dead]⟩) (Sub.env ⟨Z,Z,Z,Z,Z,Z,Z,Z,Z,Y⟩) (.q (.j ?_))
       obtain⟨ab74,hab74,h⟩:=b7 h
       refine AWP.G 2 Z (.u Z Z Z Z (R7 hab74) Z (.B Z Z (.nil (b5 (.j (.gs 2 Z (W.lookup (fk:=Value.string) (fv:=vI) (k:=ab74) (z:=0) ak8 Z (fun _=>Z) Z Z Z Z ?_)))))))
       refine AOps.ge 1 Z (.J Z h (fun hc77 h=> ?_) (fun hc77 h=> ?_))
       ·refine AWP.exit (k8 (i7 (Q3 Z Z (.E Z Z Z hb76 (.not Z Z (.ab Z hb76 Z Z (.nil (b5 (.condF Z (.skip (d6 (b5 (.U (.add Z Z Z (by omega) (.z Z Z (.nil ?_))))))))))))))))
        obtain rfl:=oi h
        refine b5 ⟨_,Z,?_⟩
        exact Sub.cut ⟨Z,Z,Z,Z,Z,Z,Y⟩ Z ⟨.one Z,.one Z,.one Z,.one Z,.one Z,.dead,.one Z,.one Z,.one Z,.one Z,.one Z,.one Z,.one Z,.vec,Y⟩ Z
       ·refine AWP.skip (b5 (.j (.gs 1 Z (S.lenO Z Z Z (fun hl80=>.ge 1 Z (.J Z h (fun hc78 h=> ?_) (fun hc78 h=> ?_)))))))
        ·refine AWP.gk 3 Z (.ret (d9 (i9 (yPost_ret Z Z (.E Z Z Z hb76 (.not Z Z (.ab Z hb76 Z Z (.nil (b5 (.condT Z (.ret (i9 (d9 ?_)))))))))))))
         obtain rfl:=oi h
         refine d9 ⟨_,Z,Z,?_⟩
         exact⟨⟨[],[(oE 4 (tF Facts Init Goal Operators)),(o1 (.fn 36 [])),(o1 (.imm (.val nL))),(o1 (bool false)),(o1 (bool false)),.dead,(o1 (.own 13 0 c74.length)),(oW Value.string vI c73),(o1 (.map 7)),(o1 (int c61)),(oE 4 (tF Facts Init Goal Operators)),(o1 (row 1 d8 a66.node)),.one (p8 92 [70,71] as68 bo68 .done (some .ret) [(5,none),(8,none),(9,none),(10,none),(11,none),(12,none),(13,none)] [.ptr 1 0 0,.ptr 2 0 0,.ptr 3 0 0,.ptr 4 0 0,.ptr 6 0 0,.ptr 8 0 0,.ptr 9 0 0]),(oV 3 f9 c74)]⟩,Sub.cut Y Z ⟨.one Z,.one Z,.one Z,.one Z,.one Z,.dead,.one Z,.one Z,.one Z,.one Z,.one Z,.one Z,.one Z,.vec,Y⟩ Z,Done.ret Z (.inr ⟨_,Z,Z,Z⟩)⟩
        ·refine AWP.skip (b5 (.gs 2 Z (W.mapUpdate (fk:=Value.string) (fv:=vI) (k:=ab74) (a:=1) ak8 Z Z Z Z Z (.ne ?_))))
         obtain⟨ab90,hab90,h⟩:=b7 h
         refine AWP.G 5 Z (S.lit (f:=f9) (l:=[(⟨ai24,c61,t75⟩:f8)]) (ess:=[[row 1 d8 ai24,int c61,int t75]]) Z Z Z Z Z Z Z ⟨⟨.inl Z,.inl Z,.inl Z,Y⟩,Y⟩ Z Z Z (S.append (f:=f9) hab90 Z Z Z Z Z Z (.own Z Z) Z Z Z Z (.G 1 Z (.nil (d6 (Q3 Z Z (.E Z Z Z hb76 (.not Z Z (.ab Z hb76 Z Z (.nil (b5 (.z (env':=[(0,.c (.yld 12)),(1,(cP 10 0 0)),(2,(cP 11 0 0)),(7,.c (row 4 j8 Operators)),(8,(cI (Operators.length:Int))),(9,(cI t75)),(27,(cB false))]) (σ':=[(oE 4 (tF Facts Init Goal Operators)),(o1 (.fn 36 [])),(o1 (.imm (.val nL))),(o1 (bool false)),(o1 (bool false)),.dead,(o1 (.own 13 0 ab90.length)),(oW Value.string vI (mset c73 ab74 1)),(o1 (.map 7)),(o1 (int c61)),(oE 4 (tF Facts Init Goal Operators)),(o1 (row 1 d8 a66.node)),.one (p8 92 [70,71] as68 bo68 .ready none [(5,none),(8,none),(9,none),(10,none),(11,none),(12,none),(13,none)] [.ptr 1 0 0,.ptr 2 0 0,.ptr 3 0 0,.ptr 4 0 0,.ptr 6 0 0,.ptr 8 0 0,.ptr 9 0 0]),(oV 3 f9 ab90),(oE 4 [row 1 intI ai12.pre,row 1 intI ai12.add,row 1 intI ai12.del,int ai12.cost]),.dead,(oV 3 f9 [(⟨ai24,c61,t75⟩:f8)])]) 13 17 Z Z Z ⟨Z,Z,Z,Z,Z,Z,Z,Y⟩ Z ⟨⟨Z,Z⟩,⟨Z,Z⟩,⟨Z,Z⟩,⟨Z,Z⟩,⟨Z,Z⟩,Y,⟨Z,Z⟩,⟨Z,Z⟩,⟨Z,Z⟩,⟨Z,Z⟩,⟨Z,Z⟩,⟨Z,Z⟩,⟨Z,Z⟩,⟨Blk.im_ok _ _ _,i6 Z⟩,⟨Z,Z⟩,Y,⟨Blk.im_ok _ _ _,i6 Z⟩,Y⟩ (.condF Z (.skip (d6 (b5 (.U (.add Z Z Z (by omega) (.z Z Z (.nil ?_))))))))))))))))))))
         obtain rfl:=oi h
         refine b5 ⟨_,Z,?_⟩
         exact Sub.cut ⟨Z,Z,Z,Z,Z,Z,Y⟩ Z ⟨.one Z,.one Z,.one Z,.one Z,.one Z,.dead,.one Z,.one Z,.one Z,.one Z,.one Z,.one Z,.one Z,.vec,Y⟩ Z
      ·replace h:=X5 hb76 h
       refine AWP.G 3 Z (.u Z Z Z Z (V7 hai17) Z (.z Z Z (.O Z Z Z hb76 (.O Z Z Z hb76 (.O Z Z Z hb76 (.O Z Z Z hb76 (.O Z Z Z hb76 (.O Z Z Z hb76 (.O Z Z Z hb76 (.O Z Z Z hb76 (.pickF Z hb76 Z Z (.nil (b5 (.condF Z (.skip (d6 (b5 (.U (.add Z Z Z (by omega) (.z Z Z (.nil ?_)))))))))))))))))))))
       obtain rfl:=oi h
       refine b5 ⟨_,Z,?_⟩
       exact Sub.cut ⟨Z,Z,Z,Z,Z,Z,Y⟩ Z ⟨.one Z,.one Z,.one Z,.one Z,.one Z,.dead,.one Z,.one Z,.one Z,.one Z,.one Z,.one Z,.one Z,.vec,Y⟩ Z
     ·intro iz s he
      obtain⟨c73,c74⟩:=s
      subst he
      try dsimp only at hr68 ⊢
      refine i7 ?_
      obtain rfl:=oi hr68
      exact⟨⟨[],[(oE 4 (tF Facts Init Goal Operators)),(o1 (.fn 36 [])),(o1 (.imm (.val nL))),(o1 (bool false)),(o1 (bool false)),.dead,(o1 (.own 13 0 c74.length)),(oW Value.string vI c73),(o1 (.map 7)),(o1 (int c61)),(oE 4 (tF Facts Init Goal Operators)),(o1 (row 1 d8 a66.node)),.one (p8 92 [70,71] as68 bo68 .ready none [(5,none),(8,none),(9,none),(10,none),(11,none),(12,none),(13,none)] [.ptr 1 0 0,.ptr 2 0 0,.ptr 3 0 0,.ptr 4 0 0,.ptr 6 0 0,.ptr 8 0 0,.ptr 9 0 0]),(oV 3 f9 c74)]⟩,Sub.env Y,Done.normal Z (.inl ⟨_,Z,Z,Z⟩)⟩
     ·intro x e st he hq
      subst he
      try dsimp only at hr68 hq
      obtain⟨rfl,hs⟩:=hq
      refine⟨_,Sub.refl _ _,?_⟩
      refine i9 ?_
      obtain rfl:=oi hr68
      exact hs
    ·rintro tt ss (⟨⟨c69,c70⟩,rfl,rfl,rfl⟩|⟨⟨c71,c72⟩,rfl,rfl,rfl⟩)
     ·try dsimp only at h ⊢
      refine al3 Z Z (d6 (d6 (b5 (.j (.gk 1 Z (.G 2 Z (.nil (b5 (.G 3 Z (.nil ?_))))))))))
      obtain rfl:=oi h
      refine b5 ⟨_,Z,?_⟩
      exact(Sub.move (env':=[(2,.c (.fn 66 [.ptr 0 0 0])),(3,.c (.fn 68 [])),(5,(cP 1 0 0)),(8,(cP 2 0 0)),(9,(cP 3 0 0)),(10,(cP 4 0 0)),(11,(cP 6 0 0)),(12,(cP 8 0 0)),(13,(cP 9 0 0))]) (σ':=[(oE 4 (tF Facts Init Goal Operators)),(o1 (.fn 36 [])),(o1 (.imm (.val nL))),(o1 (bool false)),(o1 (bool false)),.dead,(o1 (.own 13 0 c70.length)),(oW Value.string vI c69),(o1 (.map 7)),(o1 (int (w64 (c61+1)))),(oE 4 (tF Facts Init Goal Operators)),(o1 (row 1 d8 a66.node)),.dead,(oV 3 f9 c70)]) 9 14 Z Z Z ⟨Z,Z,Z,Z,Z,Z,Z,Z,Z,Y⟩ Z ⟨⟨Z,Z⟩,⟨Z,Z⟩,⟨Z,Z⟩,⟨Z,Z⟩,⟨Z,Z⟩,Y,⟨Z,Z⟩,⟨Z,Z⟩,⟨Z,Z⟩,⟨Z,Z⟩,⟨Z,Z⟩,⟨Z,Z⟩,Y,⟨Blk.im_ok _ _ _,i6 Z⟩,Y⟩).trans ((Sub.move (env':=[(2,.c (.fn 66 [.ptr 0 0 0])),(3,.c (.fn 68 [])),(5,(cP 1 0 0)),(8,(cP 2 0 0)),(9,(cP 3 0 0)),(10,(cP 4 0 0)),(11,(cP 6 0 0)),(12,(cP 8 0 0)),(13,(cP 9 0 0))]) (σ':=[(oE 4 (tF Facts Init Goal Operators)),(o1 (.fn 36 [])),(o1 (.imm (.val nL))),(o1 (bool false)),(o1 (bool false)),(oV 3 f9 c70),(o1 (.own 5 0 c70.length)),(oW Value.string vI c69),(o1 (.map 7)),(o1 (int (w64 (c61+1)))),(oE 4 (tF Facts Init Goal Operators)),(o1 (row 1 d8 a66.node)),.dead]) 5 13 Z Z Z ⟨Z,Z,Z,Z,Z,Z,Z,Z,Z,Y⟩ Z ⟨⟨Z,Z⟩,⟨Z,Z⟩,⟨Z,Z⟩,⟨Z,Z⟩,⟨Z,Z⟩,⟨Blk.im_ok _ _ _,i6 Z⟩,⟨Z,Z⟩,⟨Z,Z⟩,⟨Z,Z⟩,⟨Z,Z⟩,⟨Z,Z⟩,⟨Z,Z⟩,Y,Y⟩).trans (Sub.cut ⟨Z,Z,Z,Z,Z,Z,Z,Z,Z,Y⟩ Z ⟨.one Z,.one Z,.one Z,.one Z,.one Z,.vec,.one Z,.one Z,.one Z,.one Z,Y⟩ Z))
     ·try dsimp only at h ⊢
      refine rPost_jump Z Z (.nilB (b:=2) [row 1 intI []] Z (by exact⟨.inr ⟨Z,_,Z⟩,Y⟩) Z Z (.ret (i9 (i9 (d9 ?_)))))
      obtain rfl:=oi h
      refine d9 ⟨_,Z,Z,?_⟩
      exact⟨⟨[(8,(cP 2 0 0)),(9,(cP 3 0 0)),(10,(cP 4 0 0))],[(oE 4 (tF Facts Init Goal Operators)),.dead,(o1 (row 1 intI [])),(o1 (bool false)),(o1 (bool false))]⟩,Sub.cut ⟨Z,Z,Z,Y⟩ Z ⟨.one Z,.dead,.one Z,.one Z,.one Z,Y⟩ Z,Done.ret Z ⟨Z,Z⟩⟩
  ·refine AWP.exit (k8 ?_)
   obtain rfl:=oi h
   refine k8 ⟨_,Z,Z,?_⟩
   exact Sub.cut ⟨Z,Z,Z,Y⟩ Z ⟨.one Z,.dead,.one Z,.one Z,.one Z,Y⟩ Z
 ·intro e s hq
  rcases oo with u|x
  ·try dsimp only at h hq
   obtain⟨rfl,hs⟩:=hq
   refine⟨_,hs,?_⟩
   refine i7 (b5 (.gk 3 Z (.nilB (b:=2) [row 1 intI []] Z (by exact⟨.inr ⟨Z,_,Z⟩,Y⟩) Z Z (.ret ?_))))
   obtain rfl:=oi h
   exact Done.e Z ⟨Z,Z⟩
  ·try dsimp only at h hq
   obtain⟨rfl,hs⟩:=hq
   refine⟨_,Sub.refl _ _,?_⟩
   refine i9 (d9 ?_)
   obtain rfl:=oi h
   exact hs
theorem ay4{start:LL}{Facts:Int}{Init:Li}{Goal:Li}{Operators:List h9}{r:Bool}(h:D4 start Facts Init Goal Operators=some r):FnOk prog 34 [.c (row 1 d8 start),.c (.fn 36 []),.c (.fn 66 [.ptr 0 0 0])] (ay6 start Facts Init Goal Operators) (fun tt ss=>tt=(cB r)/\ss=[(oE 4 (tF Facts Init Goal Operators))]):=by
 refine FnOk.enter (rs:=[.t 6]) func34 Z ntmps34 results34 Z ⟨Y,Y⟩ (by kernel_rfl) Z ?_
 refine AWP.weak ?_
 unfold D4 at h
 refine AWP.gk 1 Z (.j ?_)
 obtain⟨a14,ha14,h⟩:=b7 h
 refine AWP.G 3 Z (.callF (r2:=.tup [(cR a14.1),(cB a14.2.1),(cB a14.2.2)]) (σ'':=[(oE 4 (tF Facts Init Goal Operators)),.dead,(o1 (row 1 intI a14.1)),(o1 (bool a14.2.1)),(o1 (bool a14.2.2))]) Z Z Z (FnOk.lend [0] (av5 ha14) Z Z Z Z Z Z (by exact⟨(.one Z),Y⟩) Z (by exact⟨(.live Z (.one Z)),Y⟩) Z Z (by exact⟨(.new 0 Z Z (.one Z)),.dead,(.new 2 Z Z (.one Z)),(.new 3 Z Z (.one Z)),(.new 4 Z Z (.one Z)),Y⟩)) (.G 7 Z (.nil (b5 (.gk 2 Z (.ret ?_))))))
 obtain rfl:=oi h
 exact⟨⟨[(6,(cB a14.2.2))],[(oE 4 (tF Facts Init Goal Operators))]⟩,Sub.cut ⟨Z,Y⟩ Z ⟨.one Z,Y⟩ Z,Done.ret Z ⟨Z,Z⟩⟩
theorem at3{start:LL}{Facts:Int}{Init:Li}{Goal:Li}{Operators:List h9}{Facts6:Int}{Init7:Li}{Goal8:Li}{Operators9:List h9}{r:Li×Bool×Bool}(h:G3 start Facts Init Goal Operators Facts6 Init7 Goal8 Operators9=some r):FnOk prog 37 [.c (row 1 d8 start),.c (.fn 36 []),.c (.fn 66 [.ptr 0 0 0]),.c (.fn 38 [.ptr 1 0 0])] (H2 start Facts Init Goal Operators Facts6 Init7 Goal8 Operators9) (fun tt ss=>tt=.tup [(cR r.1),(cB r.2.1),(cB r.2.2)]/\ss=[(oE 4 (tF Facts Init Goal Operators)),(oE 4 (tF Facts6 Init7 Goal8 Operators9)),.dead,(o1 (row 1 intI r.1)),(o1 (bool r.2.1)),(o1 (bool r.2.2))]):=by
 refine FnOk.enter (rs:=[.one 8 22,.one 9 4,.one 10 4]) func37 Z ntmps37 results37 Z ⟨rv1 _ Z,rv1 _ Z,rv1 _ Z,Y⟩ (by kernel_rfl) Z ?_
 refine AWP.weak ?_
 unfold G3 at h
 refine AWP.gk 4 Z (.gs 2 Z (S.lit (f:=f9) (l:=[(⟨start, -1,0⟩:f8)]) (ess:=[[row 1 d8 start,int (-1),int 0]]) Z Z Z Z Z Z Z ⟨⟨.inl Z,.inl Z,.inl Z,Y⟩,Y⟩ Z Z Z (.ge 2 Z (.j ?_))))
 obtain⟨a25,ha25,h⟩:=b7 h
 refine AWP.U (W.makeMap Value.string vI Z Z Z (.G 2 Z (.u Z Z Z Z (R7 ha25) Z (W.insert (fk:=Value.string) (fv:=vI) (k:=a25) (a:=1) ak8 Z Z Z Z Z (.G 3 Z (.nil (b5 (.j (.gk 2 Z (.q ?_))))))))))
 obtain⟨oo,ho1,h⟩:=b7 h
 refine AWP.loopS ho1 (fun(c63,c64,c65)=>⟨[(2,.c (.fn 66 [.ptr 0 0 0])),(3,.c (.fn 38 [.ptr 1 0 0])),(5,(cP 2 0 0)),(8,(cP 3 0 0)),(9,(cP 4 0 0)),(10,(cP 5 0 0)),(11,(cP 7 0 0)),(12,(cP 9 0 0)),(13,(cP 10 0 0))],[(oE 4 (tF Facts Init Goal Operators)),(oE 4 (tF Facts6 Init7 Goal8 Operators9)),(o1 (.fn 36 [])),(o1 (.imm (.val nL))),(o1 (bool false)),(o1 (bool false)),(oV 3 f9 c63),(o1 (.own 6 0 c63.length)),(oW Value.string vI c64),(o1 (.map 8)),(o1 (int c65))]⟩) (fun o e st=>match o with| .inl _=>e=.exit 0/\Sub (H2 start Facts Init Goal Operators Facts6 Init7 Goal8 Operators9) st ⟨[(8,(cP 3 0 0)),(9,(cP 4 0 0)),(10,(cP 5 0 0))],[(oE 4 (tF Facts Init Goal Operators)),(oE 4 (tF Facts6 Init7 Goal8 Operators9)),.dead,(o1 (.imm (.val nL))),(o1 (bool false)),(o1 (bool false))]⟩| .inr x=>e=.ret/\∃J,Sub (H2 start Facts Init Goal Operators Facts6 Init7 Goal8 Operators9) st J/\Done [.one 8 22,.one 9 4,.one 10 4] (fun tt ss=>tt=.tup [(cR x.1),(cB x.2.1),(cB x.2.2)]/\ss=[(oE 4 (tF Facts Init Goal Operators)),(oE 4 (tF Facts6 Init7 Goal8 Operators9)),.dead,(o1 (row 1 intI x.1)),(o1 (bool x.2.1)),(o1 (bool x.2.2))]) .ret J) ?_ ?_ ?_
 ·exact Sub.en Z
 ·intro s o h
  obtain⟨c63,c64,c65⟩:=s
  unfold A0 at h
  try dsimp only at h ⊢
  refine AWP.j (.gs 2 Z (S.lenO Z Z Z (fun hl29=>.ge 1 Z (.J Z h (fun hc66 h=> ?_) (fun hc66 h=> ?_)))))
  ·refine AWP.skip (b5 (.j (.q (.j (.j ?_)))))
   obtain⟨a36,ha36,a39,ha39,h⟩:=b2 h
   refine AWP.G 3 Z (S.idxO ha36 Z Z Z Z Z (.G 1 Z (S.loadO ha36 Z Z Z Z Z (.aa Z Z (.cons (.c .imm) (.cons (.c (.ptr (es:=[.val (.int .i64 Facts6),.sl 1 (ic intI Init7),.sl 1 (ic intI Goal8),.sl 4 (ic j8 Operators9)]) Z Z (.cons .imm (.cons .imm (.cons .imm (.cons .imm .nil)))))) .nil)) Z (aF6 ha39) Z (.nil (b5 (.F Z h (fun hc67 h=> ?_) (fun hc67 h=> ?_))))))))
   ·refine AWP.gk 1 Z (.j (.gk 2 Z (.q (.virtV 1 intI 14 Z Z Z ?_))))
    obtain⟨c70,ho2,h⟩:=b7 h
    refine AWP.loopS ho2 (fun(c68,iv69)=>⟨[(8,(cP 3 0 0)),(9,(cP 4 0 0)),(10,(cP 5 0 0)),(11,(cP 7 0 0)),(14,.c (.own 11 0 c68.length)),(15,(cI iv69))],[(oE 4 (tF Facts Init Goal Operators)),(oE 4 (tF Facts6 Init7 Goal8 Operators9)),.dead,(o1 (.imm (.val nL))),(o1 (bool false)),(o1 (bool false)),(oV 3 f9 c63),(o1 (.own 6 0 c63.length)),.dead,.dead,.dead,(oV 1 intI c68)]⟩) (fun c70 e st=>e=.exit 2/\Sub (H2 start Facts Init Goal Operators Facts6 Init7 Goal8 Operators9) st ⟨[(8,(cP 3 0 0)),(9,(cP 4 0 0)),(10,(cP 5 0 0)),(14,.c (.own 11 0 c70.length))],[(oE 4 (tF Facts Init Goal Operators)),(oE 4 (tF Facts6 Init7 Goal8 Operators9)),.dead,(o1 (.imm (.val nL))),(o1 (bool false)),(o1 (bool false)),.dead,.dead,.dead,.dead,.dead,(oV 1 intI c70)]⟩) ?_ ?_ ?_
    ·exact Sub.cut ⟨Z,Z,Z,Z,(C0 (by first|rfl|simp only[lS])),Z,Y⟩ Z ⟨.one Z,.one Z,.dead,.one Z,.one Z,.one Z,.vec,.one Z,.dead,.dead,.dead,.vec,Y⟩ Z
    ·intro s o h
     obtain⟨c68,iv69⟩:=s
     unfold D7 at h
     try dsimp only at h ⊢
     refine AWP.j (.j ?_)
     obtain⟨a43,ha43,h⟩:=b7 h
     refine AWP.G 2 Z (S.idxO ha43 Z Z Z Z Z (.G 1 Z (S.loadO ha43 Z Z Z Z Z (.geq Z Z Z (.nil (b5 (.J Z h (fun hc71 h=> ?_) (fun hc71 h=> ?_))))))))
     ·refine AWP.skip (b5 (.j (.q ?_)))
      obtain⟨a55,ha55,a59,ha59,h⟩:=b2 h
      refine AWP.G 3 Z (S.idxO ha55 Z Z Z Z Z (.G 1 Z (S.loadO ha55 Z Z Z Z Z (S.lit (f:=intI) (l:=[a55.step]) (ess:=[[int a55.step]]) Z Z Z Z Z Z Z ⟨⟨.inl Z,Y⟩,Y⟩ Z Z Z (S.append (f:=intI) ha59 Z Z Z Z Z Z (.own Z Z) Z Z Z Z (.B Z Z (.nil (d6 (b5 (.z (env':=[(8,(cP 3 0 0)),(9,(cP 4 0 0)),(10,(cP 5 0 0)),(11,(cP 7 0 0)),(14,.c (.own 11 0 a59.length)),(15,(cI iv69))]) (σ':=[(oE 4 (tF Facts Init Goal Operators)),(oE 4 (tF Facts6 Init7 Goal8 Operators9)),.dead,(o1 (.imm (.val nL))),(o1 (bool false)),(o1 (bool false)),(oV 3 f9 c63),(o1 (.own 6 0 c63.length)),.dead,.dead,.dead,(oV 1 intI a59),(oV 1 intI [a55.step])]) 11 13 Z Z Z ⟨Z,Z,Z,Z,Z,Z,Y⟩ Z ⟨⟨Z,Z⟩,⟨Z,Z⟩,Y,⟨Z,Z⟩,⟨Z,Z⟩,⟨Z,Z⟩,⟨Blk.im_ok _ _ _,i6 Z⟩,⟨Z,Z⟩,Y,Y,Y,⟨Blk.im_ok _ _ _,i6 Z⟩,⟨Blk.im_ok _ _ _,i6 Z⟩,Y⟩ ?_))))))))))
      obtain⟨a49,ha49,h⟩:=b7 h
      refine AWP.G 2 Z (S.idxO ha49 Z Z Z Z Z (.G 1 Z (S.loadO ha49 Z Z Z Z Z (.B Z Z (.nil ?_)))))
      obtain rfl:=oi h
      refine b5 ⟨_,Z,?_⟩
      exact Sub.cut ⟨Z,Z,Z,Z,Z,Z,Y⟩ Z ⟨.one Z,.one Z,.dead,.one Z,.one Z,.one Z,.vec,.one Z,.dead,.dead,.dead,.vec,Y⟩ Z
     ·refine AWP.exit (k8 ?_)
      obtain rfl:=oi h
      refine k8 ⟨_,Z,Z,?_⟩
      exact Sub.cut ⟨Z,Z,Z,Z,Y⟩ Z ⟨.one Z,.one Z,.dead,.one Z,.one Z,.one Z,.dead,.dead,.dead,.dead,.dead,.vec,Y⟩ Z
    ·intro e s hq
     obtain⟨rfl,hs⟩:=hq
     refine⟨_,hs,?_⟩
     refine i7 (b5 (.gs 1 Z (S.rev revL_ok Z Z Z Z Z Z (.ne (.gk 4 Z (.frzV (id:=11) (l:=c70.reverse) (env2:=[(8,(cP 3 0 0)),(9,(cP 4 0 0)),(10,(cP 5 0 0))]) (σ2:=[(oE 4 (tF Facts Init Goal Operators)),(oE 4 (tF Facts6 Init7 Goal8 Operators9)),.dead,(o1 (row 1 intI c70.reverse)),(o1 (bool true)),(o1 (bool true)),.dead,.dead,.dead,.dead,.dead,.dead]) Z Z (by exact⟨⟨_,Z,.inl ⟨Z,Z⟩⟩,⟨_,Z,.inl ⟨Z,Z⟩⟩,⟨_,Z,.inl ⟨Z,Z⟩⟩,Y⟩) Z (by exact⟨⟨Z,.inl ⟨Z,Z⟩,.inl ⟨Z,Z⟩,.inl ⟨Z,Z⟩,.inl ⟨Z,Z⟩,Y⟩,⟨Z,.inl ⟨Z,Z⟩,.inl ⟨Z,Z⟩,.inl ⟨Z,Z⟩,.inl ⟨Z,Z⟩,Y⟩,Y,⟨Z,.inr ⟨_,Z,ik.symm,Z⟩,Y⟩,⟨Z,.inl ⟨Z,Z⟩,Y⟩,⟨Z,.inl ⟨Z,Z⟩,Y⟩,Y,Y,Y,Y,Y,Y,Y⟩) (.ret (d9 (i9 (d9 ?_))))))))))
     obtain rfl:=oi h
     refine d9 ⟨_,Z,Z,?_⟩
     exact⟨⟨[(8,(cP 3 0 0)),(9,(cP 4 0 0)),(10,(cP 5 0 0))],[(oE 4 (tF Facts Init Goal Operators)),(oE 4 (tF Facts6 Init7 Goal8 Operators9)),.dead,(o1 (row 1 intI c70.reverse)),(o1 (bool true)),(o1 (bool true))]⟩,Sub.cut ⟨Z,Z,Z,Y⟩ Z ⟨.one Z,.one Z,.dead,.one Z,.one Z,.one Z,Y⟩ Z,Done.ret Z ⟨Z,Z⟩⟩
   ·refine AWP.skip (b5 (.j ?_))
    obtain⟨a66,ha66,a69,ha69,h⟩:=b2 h
    refine AWP.G 3 Z (S.idxO ha66 Z Z Z Z Z (.G 1 Z (S.loadO ha66 Z Z Z Z Z (.callF (r2:=.c (.fn 93 [.ptr 11 0 0,.ptr 12 0 0])) (σ'':=[(oE 4 (tF Facts Init Goal Operators)),(oE 4 (tF Facts6 Init7 Goal8 Operators9)),(o1 (.fn 36 [])),(o1 (.imm (.val nL))),(o1 (bool false)),(o1 (bool false)),(oV 3 f9 c63),(o1 (.own 6 0 c63.length)),(oW Value.string vI c64),(o1 (.map 8)),(o1 (int c65)),(oE 4 (tF Facts Init Goal Operators)),(o1 (row 1 d8 a66.node))]) Z Z Z (FnOk.lend [0] (ap3 ha69) Z Z Z Z Z Z (by exact⟨(.one Z),Y⟩) Z (by exact⟨(.live Z (.one Z)),Y⟩) Z Z (by exact⟨(.new 0 Z Z (.one Z)),(.old Z Z Z),(.old Z Z Z),(.old Z Z Z),(.old Z Z Z),(.old Z Z Z),(.old Z Z Z),(.old Z Z Z),(.old Z Z Z),(.old Z Z Z),(.old Z Z Z),(.new 1 Z Z (.one Z)),(.new 2 Z Z (.one Z)),Y⟩)) (.nil (b5 (.q ?_)))))))
    obtain⟨xr72,hr72,h⟩:=b7 h
    refine AWP.rangeB [(5,none),(8,none),(9,none),(10,none),(11,none),(12,none),(13,none)] Z Z Z (fun as72 bo72 hA72 hB72=>⟨[(oE 4 (tF Facts Init Goal Operators)),(oE 4 (tF Facts6 Init7 Goal8 Operators9)),(o1 (.fn 36 [])),(o1 (.imm (.val nL))),(o1 (bool false)),(o1 (bool false)),(oV 3 f9 c63),(o1 (.own 6 0 c63.length)),(oW Value.string vI c64),(o1 (.map 8)),(o1 (int c65)),(oE 4 (tF Facts Init Goal Operators)),(o1 (row 1 d8 a66.node)),.one (p8 92 [70,71] as72 bo72 .ready none [(5,none),(8,none),(9,none),(10,none),(11,none),(12,none),(13,none)] [.ptr 2 0 0,.ptr 3 0 0,.ptr 4 0 0,.ptr 5 0 0,.ptr 7 0 0,.ptr 9 0 0,.ptr 10 0 0])],fun tt ss=>(∃v:(List (ByteArray×Int))×(List f8),xr72=.inl v/\tt=.tup []/\ss=[(oE 4 (tF Facts Init Goal Operators)),(oE 4 (tF Facts6 Init7 Goal8 Operators9)),(o1 (.fn 36 [])),(o1 (.imm (.val nL))),(o1 (bool false)),(o1 (bool false)),.dead,(o1 (.own 14 0 v.2.length)),(oW Value.string vI v.1),(o1 (.map 8)),(o1 (int c65)),(oE 4 (tF Facts Init Goal Operators)),(o1 (row 1 d8 a66.node)),.one (p8 92 [70,71] as72 bo72 .ready none [(5,none),(8,none),(9,none),(10,none),(11,none),(12,none),(13,none)] [.ptr 2 0 0,.ptr 3 0 0,.ptr 4 0 0,.ptr 5 0 0,.ptr 7 0 0,.ptr 9 0 0,.ptr 10 0 0]),(oV 3 f9 v.2)])\/(∃v:(List (ByteArray×Int))×(List f8),xr72=.inr v/\tt=.tup []/\ss=[(oE 4 (tF Facts Init Goal Operators)),(oE 4 (tF Facts6 Init7 Goal8 Operators9)),(o1 (.fn 36 [])),(o1 (.imm (.val nL))),(o1 (bool false)),(o1 (bool false)),.dead,(o1 (.own 14 0 v.2.length)),(oW Value.string vI v.1),(o1 (.map 8)),(o1 (int c65)),(oE 4 (tF Facts Init Goal Operators)),(o1 (row 1 d8 a66.node)),.one (p8 92 [70,71] as72 bo72 .done (some .ret) [(5,none),(8,none),(9,none),(10,none),(11,none),(12,none),(13,none)] [.ptr 2 0 0,.ptr 3 0 0,.ptr 4 0 0,.ptr 5 0 0,.ptr 7 0 0,.ptr 9 0 0,.ptr 10 0 0]),(oV 3 f9 v.2)]),Z,?_,?_⟩)
    ·clear h
     refine FnOk.enter (rs:=[]) func93 Z ntmps93 results93 Z Y (by kernel_rfl) Z ?_
     refine AWP.weak ?_
     unfold H4 at hr72
     try dsimp only at hr72
     refine AWP.z (env':=[(0,.c (.yld 13)),(1,(cP 11 0 0)),(2,(cP 12 0 0))]) (σ':=[(oE 4 (tF Facts Init Goal Operators)),(oE 4 (tF Facts6 Init7 Goal8 Operators9)),(o1 (.fn 36 [])),(o1 (.imm (.val nL))),(o1 (bool false)),(o1 (bool false)),.dead,(o1 (.own 14 0 c63.length)),(oW Value.string vI c64),(o1 (.map 8)),(o1 (int c65)),(oE 4 (tF Facts Init Goal Operators)),(o1 (row 1 d8 a66.node)),.one (p8 92 [70,71] as72 bo72 .ready none [(5,none),(8,none),(9,none),(10,none),(11,none),(12,none),(13,none)] [.ptr 2 0 0,.ptr 3 0 0,.ptr 4 0 0,.ptr 5 0 0,.ptr 7 0 0,.ptr 9 0 0,.ptr 10 0 0]),(oV 3 f9 c63)]) 14 6 Z Z Z ⟨Z,Z,Z,Y⟩ Z ⟨⟨Z,Z⟩,⟨Z,Z⟩,⟨Z,Z⟩,⟨Z,Z⟩,⟨Z,Z⟩,⟨Z,Z⟩,Y,⟨Z,Z⟩,⟨Z,Z⟩,⟨Z,Z⟩,⟨Z,Z⟩,⟨Z,Z⟩,⟨Z,Z⟩,⟨Z,Z⟩,⟨Blk.im_ok _ _ _,i6 Z⟩,Y⟩ (.gs 2 Z (S.len Z Z (fun hl8=>.ge 1 Z (.q ?_))))
     obtain⟨oo,ho3,hr72⟩:=b7 hr72
     refine AWP.rngH ho3 (fun t79 (c77,c78)=>⟨[(0,.c (.yld 13)),(1,(cP 11 0 0)),(2,(cP 12 0 0)),(7,.c (row 4 j8 Operators)),(8,(cI (Operators.length:Int))),(9,(cI t79))],[(oE 4 (tF Facts Init Goal Operators)),(oE 4 (tF Facts6 Init7 Goal8 Operators9)),(o1 (.fn 36 [])),(o1 (.imm (.val nL))),(o1 (bool false)),(o1 (bool false)),.dead,(o1 (.own 14 0 c78.length)),(oW Value.string vI c77),(o1 (.map 8)),(o1 (int c65)),(oE 4 (tF Facts Init Goal Operators)),(o1 (row 1 d8 a66.node)),.one (p8 92 [70,71] as72 bo72 .ready none [(5,none),(8,none),(9,none),(10,none),(11,none),(12,none),(13,none)] [.ptr 2 0 0,.ptr 3 0 0,.ptr 4 0 0,.ptr 5 0 0,.ptr 7 0 0,.ptr 9 0 0,.ptr 10 0 0]),(oV 3 f9 c78)]⟩) (fun x e st=>e=.ret/\∃J,Sub ([(oE 4 (tF Facts Init Goal Operators)),(oE 4 (tF Facts6 Init7 Goal8 Operators9)),(o1 (.fn 36 [])),(o1 (.imm (.val nL))),(o1 (bool false)),(o1 (bool false)),(oV 3 f9 c63),(o1 (.own 6 0 c63.length)),(oW Value.string vI c64),(o1 (.map 8)),(o1 (int c65)),(oE 4 (tF Facts Init Goal Operators)),(o1 (row 1 d8 a66.node)),.one (p8 92 [70,71] as72 bo72 .ready none [(5,none),(8,none),(9,none),(10,none),(11,none),(12,none),(13,none)] [.ptr 2 0 0,.ptr 3 0 0,.ptr 4 0 0,.ptr 5 0 0,.ptr 7 0 0,.ptr 9 0 0,.ptr 10 0 0])]:b6) st J/\Done [] (fun tt ss=>(∃v:(List (ByteArray×Int))×(List f8),x=.inl v/\tt=.tup []/\ss=[(oE 4 (tF Facts Init Goal Operators)),(oE 4 (tF Facts6 Init7 Goal8 Operators9)),(o1 (.fn 36 [])),(o1 (.imm (.val nL))),(o1 (bool false)),(o1 (bool false)),.dead,(o1 (.own 14 0 v.2.length)),(oW Value.string vI v.1),(o1 (.map 8)),(o1 (int c65)),(oE 4 (tF Facts Init Goal Operators)),(o1 (row 1 d8 a66.node)),.one (p8 92 [70,71] as72 bo72 .ready none [(5,none),(8,none),(9,none),(10,none),(11,none),(12,none),(13,none)] [.ptr 2 0 0,.ptr 3 0 0,.ptr 4 0 0,.ptr 5 0 0,.ptr 7 0 0,.ptr 9 0 0,.ptr 10 0 0]),(oV 3 f9 v.2)])\/(∃v:(List (ByteArray×Int))×(List f8),x=.inr v/\tt=.tup []/\ss=[(oE 4 (tF Facts Init Goal Operators)),(oE 4 (tF Facts6 Init7 Goal8 Operators9)),(o1 (.fn 36 [])),(o1 (.imm (.val nL))),(o1 (bool false)),(o1 (bool false)),.dead,(o1 (.own 14 0 v.2.length)),(oW Value.string vI v.1),(o1 (.map 8)),(o1 (int c65)),(oE 4 (tF Facts Init Goal Operators)),(o1 (row 1 d8 a66.node)),.one (p8 92 [70,71] as72 bo72 .done (some .ret) [(5,none),(8,none),(9,none),(10,none),(11,none),(12,none),(13,none)] [.ptr 2 0 0,.ptr 3 0 0,.ptr 4 0 0,.ptr 5 0 0,.ptr 7 0 0,.ptr 9 0 0,.ptr 10 0 0]),(oV 3 f9 v.2)])) .ret J) (fun _ _=>Z) ?_ ?_ ?_ ?_
     ·exact Sub.en Z
     ·intro t79 s o hlot79 hltt79 h
      obtain⟨c77,c78⟩:=s
      unfold A5 at h
      try dsimp only at h ⊢
      refine AWP.j (.q (.j ?_))
      obtain⟨ai12,hai12,h⟩:=b7 h
      refine AWP.G 1 Z (S.idx hai12 Z Z Z Z (.G 4 Z (.nil (b5 (.j ?_)))))
      obtain⟨ai17,hai17,h⟩:=b7 h
      rcases bft (ai17) with hb80|hb80
      ·replace h:=X1 hb80 h
       obtain⟨ai24,hai24,h⟩:=b7 h
       refine AWP.G 3 Z (.u Z Z Z Z (V7 hai17) Z (.z Z Z (.E Z Z Z hb80 (.z Z Z (.E Z Z Z hb80 (.z Z Z (.E Z Z Z hb80 (W.loadAgg Z Z Z Z Z Z Z (.E Z Z Z hb80 (.load Z Z Z Z Z Z (.E Z Z Z hb80 (.z Z Z (.E Z Z Z hb80 (S.fresh Z Z Z Z (aw1 hai24) Z Z (.frzV (id:=16) (l:=ai24) (env2:=[(0,.c (.yld 13)),(1,(cP 11 0 0)),(2,(cP 12 0 0)),(7,.c (row 4 j8 Operators)),(8,(cI (Operators.length:Int))),(9,(cI t79)),(18,(cB ai17)),(19,.c (.yld 13)),(20,(cI t79)),(24,.c (row 1 d8 ai24))]) (σ2:=[(oE 4 (tF Facts Init Goal Operators)),(oE 4 (tF Facts6 Init7 Goal8 Operators9)),(o1 (.fn 36 [])),(o1 (.imm (.val nL))),(o1 (bool false)),(o1 (bool false)),.dead,(o1 (.own 14 0 c78.length)),(oW Value.string vI c77),(o1 (.map 8)),(o1 (int c65)),(oE 4 (tF Facts Init Goal Operators)),(o1 (row 1 d8 a66.node)),.one (p8 92 [70,71] as72 bo72 .ready none [(5,none),(8,none),(9,none),(10,none),(11,none),(12,none),(13,none)] [.ptr 2 0 0,.ptr 3 0 0,.ptr 4 0 0,.ptr 5 0 0,.ptr 7 0 0,.ptr 9 0 0,.ptr 10 0 0]),(oV 3 f9 c78),(oE 4 [row 1 intI ai12.pre,row 1 intI ai12.add,row 1 intI ai12.del,int ai12.cost]),.dead]) Z Z (by exact⟨⟨_,Z,.inl ⟨Z,Z⟩⟩,⟨_,Z,.inl ⟨Z,Z⟩⟩,⟨_,Z,.inl ⟨Z,Z⟩⟩,⟨_,Z,.inl ⟨Z,Z⟩⟩,⟨_,Z,.inl ⟨Z,Z⟩⟩,⟨_,Z,.inl ⟨Z,Z⟩⟩,⟨_,Z,.inl ⟨Z,Z⟩⟩,⟨_,Z,.inl ⟨Z,Z⟩⟩,⟨_,Z,.inl ⟨Z,Z⟩⟩,⟨_,Z,.inr ⟨_,Z,Z,Z⟩⟩,Y⟩) Z (by exact⟨⟨Z,.inl ⟨Z,Z⟩,.inl ⟨Z,Z⟩,.inl ⟨Z,Z⟩,.inl ⟨Z,Z⟩,Y⟩,⟨Z,.inl ⟨Z,Z⟩,.inl ⟨Z,Z⟩,.inl ⟨Z,Z⟩,.inl ⟨Z,Z⟩,Y⟩,⟨Z,.inl ⟨Z,Z⟩,Y⟩,⟨Z,.inl ⟨Z,Z⟩,Y⟩,⟨Z,.inl ⟨Z,Z⟩,Y⟩,⟨Z,.inl ⟨Z,Z⟩,Y⟩,Y,⟨Z,.inl ⟨Z,Z⟩,Y⟩,⟨Z,Z⟩,⟨Z,.inl ⟨Z,Z⟩,Y⟩,⟨Z,.inl ⟨Z,Z⟩,Y⟩,⟨Z,.inl ⟨Z,Z⟩,.inl ⟨Z,Z⟩,.inl ⟨Z,Z⟩,.inl ⟨Z,Z⟩,Y⟩,⟨Z,.inl ⟨Z,Z⟩,Y⟩,⟨Z,Z⟩,FrzB.vec,⟨Z,.inl ⟨Z,Z⟩,.inl ⟨Z,Z⟩,.inl ⟨Z,Z⟩,.inl ⟨Z,Z⟩,Y⟩,Y,Y⟩) ?_)))))))))))))))
       refine AOps.E Z Z Z hb80 ?_;refine AOps.yieldB (E1:=[(17,.c (row 1 d8 ai24)),(16,(cI t79)),(71,.c (row 1 d8 ai24)),(70,(cI t79)),(5,(cP 2 0 0)),(8,(cP 3 0 0)),(9,(cP 4 0 0)),(10,(cP 5 0 0)),(11,(cP 7 0 0)),(12,(cP 9 0 0)),(13,(cP 10 0 0))]) (σ1:=[(oE 4 (tF Facts Init Goal Operators)),(oE 4 (tF Facts6 Init7 Goal8 Operators9)),(o1 (.fn 36 [])),(o1 (.imm (.val nL))),(o1 (bool false)),(o1 (bool false)),.dead,(o1 (.own 14 0 c78.length)),(oW Value.string vI c77),(o1 (.map 8)),(o1 (int c65)),(oE 4 (tF Facts Init Goal Operators)),(o1 (row 1 d8 a66.node)),.one (p8 92 [70,71] as72 bo72 .ready none [(5,none),(8,none),(9,none),(10,none),(11,none),(12,none),(13,none)] [.ptr 2 0 0,.ptr 3 0 0,.ptr 4 0 0,.ptr 5 0 0,.ptr 7 0 0,.ptr 9 0 0,.ptr 10 0 0]),(oV 3 f9 c78),(oE 4 [row 1 intI ai12.pre,row 1 intI ai12.add,row 1 intI ai12.del,int ai12.cost]),.dead]) hA72 hB72 Z Z Z Z Z Z Z Z Z Z ?_ ?_
       ·refine AWP.gk 1 Z (.G 1 Z (.nil ?_))
        exact⟨Z,Z⟩
       refine AWP.sub (s':=⟨[(5,(cP 2 0 0)),(8,(cP 3 0 0)),(9,(cP 4 0 0)),(10,(cP 5 0 0)),(11,(cP 7 0 0)),(12,(cP 9 0 0)),(13,(cP 10 0 0)),(16,(cI t79)),(17,.c (row 1 d8 ai24))],[(oE 4 (tF Facts Init Goal Operators)),(oE 4 (tF Facts6 Init7 Goal8 Operators9)),(o1 (.fn 36 [])),(o1 (.imm (.val nL))),(o1 (bool false)),(o1 (bool false)),.dead,(o1 (.own 14 0 c78.length)),(oW Value.string vI c77),(o1 (.map 8)),(o1 (int c65)),(oE 4 (tF Facts Init Goal Operators)),(o1 (row 1 d8 a66.node)),.one (p8 92 [70,71] as72 bo72 .busy none [(5,none),(8,none),(9,none),(10,none),(11,none),(12,none),(13,none)] [.ptr 2 0 0,.ptr 3 0 0,.ptr 4 0 0,.ptr 5 0 0,.ptr 7 0 0,.ptr 9 0 0,.ptr 10 0 0]),(oV 3 f9 c78),(oE 4 [row 1 intI ai12.pre,row 1 intI ai12.add,row 1 intI ai12.del,int ai12.cost]),.dead]⟩) (Sub.env ⟨Z,Z,Z,Z,Z,Z,Z,Z,Z,Y⟩) (.q (.j ?_))
       obtain⟨ab74,hab74,h⟩:=b7 h
       refine AWP.G 2 Z (.u Z Z Z Z (R7 hab74) Z (.B Z Z (.nil (b5 (.j (.gs 2 Z (W.lookup (fk:=Value.string) (fv:=vI) (k:=ab74) (z:=0) ak8 Z (fun _=>Z) Z Z Z Z ?_)))))))
       refine AOps.ge 1 Z (.J Z h (fun hc81 h=> ?_) (fun hc81 h=> ?_))
       ·refine AWP.exit (k8 (i7 (Q3 Z Z (.E Z Z Z hb80 (.not Z Z (.ab Z hb80 Z Z (.nil (b5 (.condF Z (.skip (d6 (b5 (.U (.add Z Z Z (by omega) (.z Z Z (.nil ?_))))))))))))))))
        obtain rfl:=oi h
        refine b5 ⟨_,Z,?_⟩
        exact Sub.cut ⟨Z,Z,Z,Z,Z,Z,Y⟩ Z ⟨.one Z,.one Z,.one Z,.one Z,.one Z,.one Z,.dead,.one Z,.one Z,.one Z,.one Z,.one Z,.one Z,.one Z,.vec,Y⟩ Z
       ·refine AWP.skip (b5 (.j (.gs 1 Z (S.lenO Z Z Z (fun hl80=>.ge 1 Z (.J Z h (fun hc82 h=> ?_) (fun hc82 h=> ?_)))))))
        ·refine AWP.gk 3 Z (.ret (d9 (i9 (yPost_ret Z Z (.E Z Z Z hb80 (.not Z Z (.ab Z hb80 Z Z (.nil (b5 (.condT Z (.ret (i9 (d9 ?_)))))))))))))
         obtain rfl:=oi h
         refine d9 ⟨_,Z,Z,?_⟩
         exact⟨⟨[],[(oE 4 (tF Facts Init Goal Operators)),(oE 4 (tF Facts6 Init7 Goal8 Operators9)),(o1 (.fn 36 [])),(o1 (.imm (.val nL))),(o1 (bool false)),(o1 (bool false)),.dead,(o1 (.own 14 0 c78.length)),(oW Value.string vI c77),(o1 (.map 8)),(o1 (int c65)),(oE 4 (tF Facts Init Goal Operators)),(o1 (row 1 d8 a66.node)),.one (p8 92 [70,71] as72 bo72 .done (some .ret) [(5,none),(8,none),(9,none),(10,none),(11,none),(12,none),(13,none)] [.ptr 2 0 0,.ptr 3 0 0,.ptr 4 0 0,.ptr 5 0 0,.ptr 7 0 0,.ptr 9 0 0,.ptr 10 0 0]),(oV 3 f9 c78)]⟩,Sub.cut Y Z ⟨.one Z,.one Z,.one Z,.one Z,.one Z,.one Z,.dead,.one Z,.one Z,.one Z,.one Z,.one Z,.one Z,.one Z,.vec,Y⟩ Z,Done.ret Z (.inr ⟨_,Z,Z,Z⟩)⟩
        ·refine AWP.skip (b5 (.gs 2 Z (W.mapUpdate (fk:=Value.string) (fv:=vI) (k:=ab74) (a:=1) ak8 Z Z Z Z Z (.ne ?_))))
         obtain⟨ab90,hab90,h⟩:=b7 h
         refine AWP.G 5 Z (S.lit (f:=f9) (l:=[(⟨ai24,c65,t79⟩:f8)]) (ess:=[[row 1 d8 ai24,int c65,int t79]]) Z Z Z Z Z Z Z ⟨⟨.inl Z,.inl Z,.inl Z,Y⟩,Y⟩ Z Z Z (S.append (f:=f9) hab90 Z Z Z Z Z Z (.own Z Z) Z Z Z Z (.G 1 Z (.nil (d6 (Q3 Z Z (.E Z Z Z hb80 (.not Z Z (.ab Z hb80 Z Z (.nil (b5 (.z (env':=[(0,.c (.yld 13)),(1,(cP 11 0 0)),(2,(cP 12 0 0)),(7,.c (row 4 j8 Operators)),(8,(cI (Operators.length:Int))),(9,(cI t79)),(27,(cB false))]) (σ':=[(oE 4 (tF Facts Init Goal Operators)),(oE 4 (tF Facts6 Init7 Goal8 Operators9)),(o1 (.fn 36 [])),(o1 (.imm (.val nL))),(o1 (bool false)),(o1 (bool false)),.dead,(o1 (.own 14 0 ab90.length)),(oW Value.string vI (mset c77 ab74 1)),(o1 (.map 8)),(o1 (int c65)),(oE 4 (tF Facts Init Goal Operators)),(o1 (row 1 d8 a66.node)),.one (p8 92 [70,71] as72 bo72 .ready none [(5,none),(8,none),(9,none),(10,none),(11,none),(12,none),(13,none)] [.ptr 2 0 0,.ptr 3 0 0,.ptr 4 0 0,.ptr 5 0 0,.ptr 7 0 0,.ptr 9 0 0,.ptr 10 0 0]),(oV 3 f9 ab90),(oE 4 [row 1 intI ai12.pre,row 1 intI ai12.add,row 1 intI ai12.del,int ai12.cost]),.dead,(oV 3 f9 [(⟨ai24,c65,t79⟩:f8)])]) 14 18 Z Z Z ⟨Z,Z,Z,Z,Z,Z,Z,Y⟩ Z ⟨⟨Z,Z⟩,⟨Z,Z⟩,⟨Z,Z⟩,⟨Z,Z⟩,⟨Z,Z⟩,⟨Z,Z⟩,Y,⟨Z,Z⟩,⟨Z,Z⟩,⟨Z,Z⟩,⟨Z,Z⟩,⟨Z,Z⟩,⟨Z,Z⟩,⟨Z,Z⟩,⟨Blk.im_ok _ _ _,i6 Z⟩,⟨Z,Z⟩,Y,⟨Blk.im_ok _ _ _,i6 Z⟩,Y⟩ (.condF Z (.skip (d6 (b5 (.U (.add Z Z Z (by omega) (.z Z Z (.nil ?_))))))))))))))))))))
         obtain rfl:=oi h
         refine b5 ⟨_,Z,?_⟩
         exact Sub.cut ⟨Z,Z,Z,Z,Z,Z,Y⟩ Z ⟨.one Z,.one Z,.one Z,.one Z,.one Z,.one Z,.dead,.one Z,.one Z,.one Z,.one Z,.one Z,.one Z,.one Z,.vec,Y⟩ Z
      ·replace h:=X5 hb80 h
       refine AWP.G 3 Z (.u Z Z Z Z (V7 hai17) Z (.z Z Z (.O Z Z Z hb80 (.O Z Z Z hb80 (.O Z Z Z hb80 (.O Z Z Z hb80 (.O Z Z Z hb80 (.O Z Z Z hb80 (.O Z Z Z hb80 (.O Z Z Z hb80 (.pickF Z hb80 Z Z (.nil (b5 (.condF Z (.skip (d6 (b5 (.U (.add Z Z Z (by omega) (.z Z Z (.nil ?_)))))))))))))))))))))
       obtain rfl:=oi h
       refine b5 ⟨_,Z,?_⟩
       exact Sub.cut ⟨Z,Z,Z,Z,Z,Z,Y⟩ Z ⟨.one Z,.one Z,.one Z,.one Z,.one Z,.one Z,.dead,.one Z,.one Z,.one Z,.one Z,.one Z,.one Z,.one Z,.vec,Y⟩ Z
     ·intro iz s he
      obtain⟨c77,c78⟩:=s
      subst he
      try dsimp only at hr72 ⊢
      refine i7 ?_
      obtain rfl:=oi hr72
      exact⟨⟨[],[(oE 4 (tF Facts Init Goal Operators)),(oE 4 (tF Facts6 Init7 Goal8 Operators9)),(o1 (.fn 36 [])),(o1 (.imm (.val nL))),(o1 (bool false)),(o1 (bool false)),.dead,(o1 (.own 14 0 c78.length)),(oW Value.string vI c77),(o1 (.map 8)),(o1 (int c65)),(oE 4 (tF Facts Init Goal Operators)),(o1 (row 1 d8 a66.node)),.one (p8 92 [70,71] as72 bo72 .ready none [(5,none),(8,none),(9,none),(10,none),(11,none),(12,none),(13,none)] [.ptr 2 0 0,.ptr 3 0 0,.ptr 4 0 0,.ptr 5 0 0,.ptr 7 0 0,.ptr 9 0 0,.ptr 10 0 0]),(oV 3 f9 c78)]⟩,Sub.env Y,Done.normal Z (.inl ⟨_,Z,Z,Z⟩)⟩
     ·intro x e st he hq
      subst he
      try dsimp only at hr72 hq
      obtain⟨rfl,hs⟩:=hq
      refine⟨_,Sub.refl _ _,?_⟩
      refine i9 ?_
      obtain rfl:=oi hr72
      exact hs
    ·rintro tt ss (⟨⟨c73,c74⟩,rfl,rfl,rfl⟩|⟨⟨c75,c76⟩,rfl,rfl,rfl⟩)
     ·try dsimp only at h ⊢
      refine al3 Z Z (d6 (d6 (b5 (.j (.gk 1 Z (.G 2 Z (.nil (b5 (.G 3 Z (.nil ?_))))))))))
      obtain rfl:=oi h
      refine b5 ⟨_,Z,?_⟩
      exact(Sub.move (env':=[(2,.c (.fn 66 [.ptr 0 0 0])),(3,.c (.fn 38 [.ptr 1 0 0])),(5,(cP 2 0 0)),(8,(cP 3 0 0)),(9,(cP 4 0 0)),(10,(cP 5 0 0)),(11,(cP 7 0 0)),(12,(cP 9 0 0)),(13,(cP 10 0 0))]) (σ':=[(oE 4 (tF Facts Init Goal Operators)),(oE 4 (tF Facts6 Init7 Goal8 Operators9)),(o1 (.fn 36 [])),(o1 (.imm (.val nL))),(o1 (bool false)),(o1 (bool false)),.dead,(o1 (.own 14 0 c74.length)),(oW Value.string vI c73),(o1 (.map 8)),(o1 (int (w64 (c65+1)))),(oE 4 (tF Facts Init Goal Operators)),(o1 (row 1 d8 a66.node)),.dead,(oV 3 f9 c74)]) 10 15 Z Z Z ⟨Z,Z,Z,Z,Z,Z,Z,Z,Z,Y⟩ Z ⟨⟨Z,Z⟩,⟨Z,Z⟩,⟨Z,Z⟩,⟨Z,Z⟩,⟨Z,Z⟩,⟨Z,Z⟩,Y,⟨Z,Z⟩,⟨Z,Z⟩,⟨Z,Z⟩,⟨Z,Z⟩,⟨Z,Z⟩,⟨Z,Z⟩,Y,⟨Blk.im_ok _ _ _,i6 Z⟩,Y⟩).trans ((Sub.move (env':=[(2,.c (.fn 66 [.ptr 0 0 0])),(3,.c (.fn 38 [.ptr 1 0 0])),(5,(cP 2 0 0)),(8,(cP 3 0 0)),(9,(cP 4 0 0)),(10,(cP 5 0 0)),(11,(cP 7 0 0)),(12,(cP 9 0 0)),(13,(cP 10 0 0))]) (σ':=[(oE 4 (tF Facts Init Goal Operators)),(oE 4 (tF Facts6 Init7 Goal8 Operators9)),(o1 (.fn 36 [])),(o1 (.imm (.val nL))),(o1 (bool false)),(o1 (bool false)),(oV 3 f9 c74),(o1 (.own 6 0 c74.length)),(oW Value.string vI c73),(o1 (.map 8)),(o1 (int (w64 (c65+1)))),(oE 4 (tF Facts Init Goal Operators)),(o1 (row 1 d8 a66.node)),.dead]) 6 14 Z Z Z ⟨Z,Z,Z,Z,Z,Z,Z,Z,Z,Y⟩ Z ⟨⟨Z,Z⟩,⟨Z,Z⟩,⟨Z,Z⟩,⟨Z,Z⟩,⟨Z,Z⟩,⟨Z,Z⟩,⟨Blk.im_ok _ _ _,i6 Z⟩,⟨Z,Z⟩,⟨Z,Z⟩,⟨Z,Z⟩,⟨Z,Z⟩,⟨Z,Z⟩,⟨Z,Z⟩,Y,Y⟩).trans (Sub.cut ⟨Z,Z,Z,Z,Z,Z,Z,Z,Z,Y⟩ Z ⟨.one Z,.one Z,.one Z,.one Z,.one Z,.one Z,.vec,.one Z,.one Z,.one Z,.one Z,Y⟩ Z))
     ·try dsimp only at h ⊢
      refine rPost_jump Z Z (.nilB (b:=3) [row 1 intI []] Z (by exact⟨.inr ⟨Z,_,Z⟩,Y⟩) Z Z (.ret (i9 (i9 (d9 ?_)))))
      obtain rfl:=oi h
      refine d9 ⟨_,Z,Z,?_⟩
      exact⟨⟨[(8,(cP 3 0 0)),(9,(cP 4 0 0)),(10,(cP 5 0 0))],[(oE 4 (tF Facts Init Goal Operators)),(oE 4 (tF Facts6 Init7 Goal8 Operators9)),.dead,(o1 (row 1 intI [])),(o1 (bool false)),(o1 (bool false))]⟩,Sub.cut ⟨Z,Z,Z,Y⟩ Z ⟨.one Z,.one Z,.dead,.one Z,.one Z,.one Z,Y⟩ Z,Done.ret Z ⟨Z,Z⟩⟩
  ·refine AWP.exit (k8 ?_)
   obtain rfl:=oi h
   refine k8 ⟨_,Z,Z,?_⟩
   exact Sub.cut ⟨Z,Z,Z,Y⟩ Z ⟨.one Z,.one Z,.dead,.one Z,.one Z,.one Z,Y⟩ Z
 ·intro e s hq
  rcases oo with u|x
  ·try dsimp only at h hq
   obtain⟨rfl,hs⟩:=hq
   refine⟨_,hs,?_⟩
   refine i7 (b5 (.gk 3 Z (.nilB (b:=3) [row 1 intI []] Z (by exact⟨.inr ⟨Z,_,Z⟩,Y⟩) Z Z (.ret ?_))))
   obtain rfl:=oi h
   exact Done.e Z ⟨Z,Z⟩
  ·try dsimp only at h hq
   obtain⟨rfl,hs⟩:=hq
   refine⟨_,Sub.refl _ _,?_⟩
   refine i9 (d9 ?_)
   obtain rfl:=oi h
   exact hs
theorem belief_Plan_ok{t:j3}{unknown:Li}{r:Li×Bool×g8}(h:af8 t unknown=some r):f7 prog 11 [.agg (tT t),(cR unknown)] (.tup [(cR r.1),(cB r.2.1),.agg [int r.2.2.code,int r.2.2.index]]):=by
 unfold f7
 refine FnOk.enter (rs:=[.t 4,.t 5,.cell 6 32 2]) func11 Z ntmps11 results11 Z ⟨Y,Y,rv _ Z,Y⟩ (by kernel_rfl) Z ?_
 unfold af8 at h
 refine AWP.gk 4 Z (.j (.j ?_))
 obtain⟨a14,ha14,h⟩:=b7 h
 refine AWP.G 2 Z (.u Z Z Z Z (ax7 ha14) Z (.G 2 Z (.nil (b5 (.gs 2 Z (.neqP Z Z Z Z Z Z Z (.ne (.F Z h (fun hc3 h=> ?_) (fun hc3 h=> ?_)))))))))
 ·refine AWP.j (.drawEI [3] mixed Z Z Z (d4.D 3 Z Z ?_))
  apply d4.consE (v:=.undef);exact Z;exact Z;intro E
  refine W.storeAgg Z Z Z Z Z Z Z .N
  exact Z
  exact Z
  refine d4.done Z ?_ ?_
  ·refine i5.D 4 Z Z (i5.nil)
  dsimp only[l9]
  refine b5 (.nilrow 1 4 Z (.ret (d9 ?_)))
  obtain rfl:=oi h
  exact Done.ret Z Z
 ·refine AWP.skip (b5 (.j ?_))
  obtain⟨a20,ha20,h⟩:=b7 h
  refine AWP.G 1 Z (.callF (r2:=.c (.fn 66 [.ptr 3 0 0])) (σ'':=[(oE 4 (tT t)),(oE 2 [int 0,int 0]),(oE 2 [int a14.code,int a14.index]),(oE 4 (tT t))]) Z Z Z (FnOk.lend [] (aE9 ha20) Z Z Z Z Z Z (by exact Y) Z (by exact Y) Z Z (by exact⟨(.old Z Z Z),(.old Z Z Z),(.old Z Z Z),(.new 0 Z Z (.one Z)),Y⟩)) (.B Z Z (.nil (b5 (.j (.j ?_))))))
  obtain⟨a23,ha23,a25,ha25,h⟩:=b2 h
  refine AWP.G 2 Z (S.fresh Z Z Z Z (at0 ha23) Z Z (.z Z Z (.frzV (id:=4) (l:=a23) (env2:=[(1,(cR unknown)),(2,(cP 0 0 0)),(6,(cP 1 0 0)),(8,.c (.fn 66 [.ptr 3 0 0])),(23,.c (row 1 d8 a23)),(24,.c (.fn 66 [.ptr 3 0 0]))]) (σ2:=[(oE 4 (tT t)),(oE 2 [int 0,int 0]),(oE 2 [int a14.code,int a14.index]),(oE 4 (tT t)),.dead]) Z Z (by exact⟨⟨_,Z,.inl ⟨Z,Z⟩⟩,⟨_,Z,.inl ⟨Z,Z⟩⟩,⟨_,Z,.inl ⟨Z,Z⟩⟩,⟨_,Z,.inl ⟨Z,Z⟩⟩,⟨_,Z,.inr ⟨_,Z,Z,Z⟩⟩,⟨_,Z,.inl ⟨Z,Z⟩⟩,Y⟩) Z (by exact⟨⟨Z,.inl ⟨Z,Z⟩,.inl ⟨Z,Z⟩,.inl ⟨Z,Z⟩,.inl ⟨Z,Z⟩,Y⟩,⟨Z,.inl ⟨Z,Z⟩,.inl ⟨Z,Z⟩,Y⟩,⟨Z,.inl ⟨Z,Z⟩,.inl ⟨Z,Z⟩,Y⟩,⟨Z,.inl ⟨Z,Z⟩,.inl ⟨Z,Z⟩,.inl ⟨Z,Z⟩,.inl ⟨Z,Z⟩,Y⟩,Y,Y⟩) (.callF (r2:=(cB a25)) (σ'':=[(oE 4 (tT t)),(oE 2 [int 0,int 0]),(oE 2 [int a14.code,int a14.index]),(oE 4 (tT t)),.dead]) Z Z Z (FnOk.lend [3] (ay4 ha25) Z Z Z Z Z Z (by exact⟨(.one Z),Y⟩) Z (by exact⟨(.live Z (.one Z)),Y⟩) Z Z (by exact⟨(.old Z Z Z),(.old Z Z Z),(.old Z Z Z),(.new 0 Z Z (.one Z)),.dead,Y⟩)) (.not Z Z (.nil (b5 (.F Z h (fun hc4 h=> ?_) (fun hc4 h=> ?_)))))))))
  ·refine AWP.gk 4 Z (.nilrow 1 4 Z (.ret (d9 ?_)))
   obtain rfl:=oi h
   exact Done.ret Z Z
  ·refine AWP.skip (b5 (.j ?_))
   obtain⟨a31,ha31,a34,ha34,h⟩:=b2 h
   refine AWP.G 2 Z (S.fresh Z Z Z Z (at0 ha31) Z Z (.z Z Z (.ac Z Z (.frzV (id:=5) (l:=a31) (env2:=[(6,(cP 1 0 0)),(31,.c (row 1 d8 a31)),(32,.c (.fn 66 [.ptr 3 0 0])),(33,.c (.fn 38 [.ptr 0 0 0]))]) (σ2:=[(oE 4 (tT t)),(oE 2 [int 0,int 0]),(oE 2 [int a14.code,int a14.index]),(oE 4 (tT t)),.dead,.dead]) Z Z (by exact⟨⟨_,Z,.inl ⟨Z,Z⟩⟩,⟨_,Z,.inr ⟨_,Z,Z,Z⟩⟩,⟨_,Z,.inl ⟨Z,Z⟩⟩,⟨_,Z,.inl ⟨Z,Z⟩⟩,Y⟩) Z (by exact⟨⟨Z,.inl ⟨Z,Z⟩,.inl ⟨Z,Z⟩,.inl ⟨Z,Z⟩,.inl ⟨Z,Z⟩,Y⟩,⟨Z,.inl ⟨Z,Z⟩,.inl ⟨Z,Z⟩,Y⟩,⟨Z,.inl ⟨Z,Z⟩,.inl ⟨Z,Z⟩,Y⟩,⟨Z,.inl ⟨Z,Z⟩,.inl ⟨Z,Z⟩,.inl ⟨Z,Z⟩,.inl ⟨Z,Z⟩,Y⟩,Y,Y,Y⟩) (.callF (r2:=.tup [(cR a34.1),(cB a34.2.1),(cB a34.2.2)]) (σ'':=[(oE 4 (tT t)),(oE 2 [int 0,int 0]),(oE 2 [int a14.code,int a14.index]),(oE 4 (tT t)),.dead,.dead,.dead,(o1 (row 1 intI a34.1)),(o1 (bool a34.2.1)),(o1 (bool a34.2.2))]) Z Z Z (FnOk.lend [3,0] (at3 ha34) Z Z Z Z Z Z (by exact⟨(.one Z),(.one Z),Y⟩) Z (by exact⟨(.live Z (.one Z)),(.live Z (.one Z)),Y⟩) Z Z (by exact⟨(.new 1 Z Z (.one Z)),(.old Z Z Z),(.old Z Z Z),(.new 0 Z Z (.one Z)),.dead,.dead,.dead,(.new 3 Z Z (.one Z)),(.new 4 Z Z (.one Z)),(.new 5 Z Z (.one Z)),Y⟩)) (.G 7 Z (.nil (b5 (.j (.gs 1 Z (S.len Z Z (fun hl39=>.ge 1 Z (.J Z h (fun hc5 h=> ?_) (fun hc5 h=> ?_))))))))))))))
   ·refine AWP.gk 4 Z (.nilrow 1 4 Z (.ret (d9 ?_)))
    obtain rfl:=oi h
    exact Done.ret Z Z
   ·refine AWP.skip (b5 (.gk 6 Z (.ret ?_)))
    obtain rfl:=oi h
    exact Done.ret Z Z
theorem aE0{t:j3}{op:Int}{r:g8}(h:ae3 t op=some r):f7 prog 40 [.agg (tT t),(cI op)] (.agg [int r.code,int r.index]):=by
 unfold f7
 refine FnOk.enter (rs:=[.cell 4 32 2]) func40 Z ntmps40 results40 Z ⟨rv _ Z,Y⟩ (by kernel_rfl) Z ?_
 unfold ae3 at h
 refine AWP.gk 2 Z (.j (.j ?_))
 obtain⟨a7,ha7,h⟩:=b7 h
 refine AWP.G 1 Z (.u Z Z Z Z (L4 ha7) Z (.G 2 Z (.nil (b5 (.gs 2 Z (.neqP Z Z Z Z Z Z Z (.ne (.F Z h (fun hc3 h=> ?_) (fun hc3 h=> ?_)))))))))
 ·refine AWP.gk 2 Z (.ret (d9 ?_))
  obtain rfl:=oi h
  exact Done.ret Z Z
 ·refine AWP.skip (b5 (.j (.seqJ (⟨[(4,(cP 1 0 0)),(20,(cB ((decide (op<0))||(decide ((t.operators.length:Int)<=op)))))],[(oE 4 (tT t)),(oE 2 [int 0,int 0]),(oE 2 [int a7.code,int a7.index])]⟩) ?_ ?_)))
  ·rcases bft (decide (op<0)) with hb1|hb1
   ·refine AWP.G 3 Z (.K Z Z hb1 (.G 6 Z (.nil (b5 ?_))))
    simp only[G6 hb1,or_t hb1,ig,ij,ie,ii]
    exact Sub.en Z
   ·refine AWP.G 3 Z (.K Z Z hb1 (.G 3 Z ?_))
    refine AOps.E Z Z Z Z ?_;refine S.len Z Z (fun hl18=> ?_)
    refine AOps.G 2 Z (.nil (b5 ?_))
    simp only[B9 hb1,or_f hb1,ig,ij,ie,ii]
    exact Sub.en Z
  ·refine AWP.F Z h (fun hc4 h=> ?_) (fun hc4 h=> ?_)
   ·refine AWP.gk 2 Z (.ret (d9 ?_))
    obtain rfl:=oi h
    exact Done.ret Z Z
   ·refine AWP.skip (b5 (.gk 2 Z (.ret ?_)))
    obtain rfl:=oi h
    exact Done.ret Z Z
theorem av3{t:j3}{op:Int}{r:g8}(h:X2 t op=some r):f7 prog 72 [.agg (tT t),(cI op)] (.agg [int r.code,int r.index]):=by
 unfold f7
 refine FnOk.enter (rs:=[.cell 4 32 2]) func72 Z ntmps72 results72 Z ⟨rv _ Z,Y⟩ (by kernel_rfl) Z ?_
 unfold X2 at h
 refine AWP.gk 2 Z (.j (.j ?_))
 obtain⟨a7,ha7,h⟩:=b7 h
 refine AWP.G 1 Z (.u Z Z Z Z (L4 ha7) Z (.G 2 Z (.nil (b5 (.gs 2 Z (.neqP Z Z Z Z Z Z Z (.ne (.F Z h (fun hc3 h=> ?_) (fun hc3 h=> ?_)))))))))
 ·refine AWP.gk 2 Z (.ret (d9 ?_))
  obtain rfl:=oi h
  exact Done.ret Z Z
 ·refine AWP.skip (b5 (.j (.seqJ (⟨[(4,(cP 1 0 0)),(20,(cB ((decide (op<0))||(decide ((t.operators.length:Int)<=op)))))],[(oE 4 (tT t)),(oE 2 [int 0,int 0]),(oE 2 [int a7.code,int a7.index])]⟩) ?_ ?_)))
  ·rcases bft (decide (op<0)) with hb1|hb1
   ·refine AWP.G 3 Z (.K Z Z hb1 (.G 6 Z (.nil (b5 ?_))))
    simp only[G6 hb1,or_t hb1,ig,ij,ie,ii]
    exact Sub.en Z
   ·refine AWP.G 3 Z (.K Z Z hb1 (.G 3 Z ?_))
    refine AOps.E Z Z Z Z ?_;refine S.len Z Z (fun hl18=> ?_)
    refine AOps.G 2 Z (.nil (b5 ?_))
    simp only[B9 hb1,or_f hb1,ig,ij,ie,ii]
    exact Sub.en Z
  ·refine AWP.F Z h (fun hc4 h=> ?_) (fun hc4 h=> ?_)
   ·refine AWP.gk 2 Z (.ret (d9 ?_))
    obtain rfl:=oi h
    exact Done.ret Z Z
   ·refine AWP.skip (b5 (.gk 2 Z (.ret ?_)))
    obtain rfl:=oi h
    exact Done.ret Z Z
theorem aD2{t:j3}{r:Li×Li×(List h9)}(h:al4 t=some r):FnOk prog 73 [.agg (tT t)] (aC2 t) (fun tt ss=>tt=.agg [int t.facts,.own 2 0 r.1.length,.own 3 0 r.2.1.length,.own 5 0 r.2.2.length]/\ss=[.dead,(oE 4 [int t.facts,.own 2 0 r.1.length,.own 3 0 r.2.1.length,.own 5 0 r.2.2.length]),(oV 1 intI r.1),(oV 1 intI r.2.1),.dead,omOp 5 r.2.2]):=by
 refine FnOk.enter (rs:=[.cell 2 37 4]) func73 Z ntmps73 results73 Z ⟨rv _ Z,Y⟩ (by kernel_rfl) Z ?_
 refine AWP.weak ?_
 unfold al4 at h
 refine AWP.gk 2 Z (.j ?_)
 obtain⟨a10,ha10,a13,ha13,h⟩:=b2 h
 refine AWP.sub (s':=⟨[(0,.agg (tT t)),(1,(cP 0 0 0)),(2,(cP 1 0 0))],[(oE 4 (tT t)),(oE 4 [int 0,.imm (.val nL),.imm (.val nL),.imm (.val nL)]),.dead,.dead,.dead]⟩) (Sub.cut ⟨Z,Z,Z,Y⟩ Z ⟨.one Z,.one Z,.dead,.dead,.dead,Y⟩ Z) (.drawTI [(cP 0 0 0),(cI t.facts),(cP 0 0 1),(cR t.init),.c (.own 2 0 a10.length),(cP 0 0 2),(cR t.goal),.c (.own 3 0 a13.length),.agg [int t.facts,.own 2 0 a10.length,.own 3 0 a13.length,.imm (.val nL)],(cP 4 0 0),.undef] [4,7,9,10] [([],[(oE 4 (tT t)),(oE 4 [int 0,.imm (.val nL),.imm (.val nL),.imm (.val nL)]),.dead,.dead,.dead]),([4],[(oE 4 (tT t)),(oE 4 [int 0,.imm (.val nL),.imm (.val nL),.imm (.val nL)]),(oV 1 intI a10),.dead,.dead]),([4,7],[(oE 4 (tT t)),(oE 4 [int 0,.imm (.val nL),.imm (.val nL),.imm (.val nL)]),(oV 1 intI a10),(oV 1 intI a13),.dead]),([9],[(oE 4 (tT t)),(oE 4 [int 0,.imm (.val nL),.imm (.val nL),.imm (.val nL)]),.dead,.dead,(oE 4 [int 0,.imm (.val nL),.imm (.val nL),.imm (.val nL)])]),([4,9],[(oE 4 (tT t)),(oE 4 [int 0,.imm (.val nL),.imm (.val nL),.imm (.val nL)]),(oV 1 intI a10),.dead,(oE 4 [int 0,.imm (.val nL),.imm (.val nL),.imm (.val nL)])]),([4,7,9],[(oE 4 (tT t)),(oE 4 [int 0,.imm (.val nL),.imm (.val nL),.imm (.val nL)]),(oV 1 intI a10),(oV 1 intI a13),(oE 4 [int 0,.imm (.val nL),.imm (.val nL),.imm (.val nL)])]),([4,7,9,10],[(oE 4 (tT t)),(oE 4 [int 0,.imm (.val nL),.imm (.val nL),.imm (.val nL)]),(oV 1 intI a10),(oV 1 intI a13),(oE 4 [int t.facts,.own 2 0 a10.length,.own 3 0 a13.length,.imm (.val nL)])])] [(oE 4 (tT t)),(oE 4 [int 0,.imm (.val nL),.imm (.val nL),.imm (.val nL)]),(oV 1 intI a10),(oV 1 intI a13),(oE 4 [int t.facts,.own 2 0 a10.length,.own 3 0 a13.length,.imm (.val nL)])] mixed Z Z Z Z Z ?_ ?_)
 ·refine E4.cons ?_ ?_
  ·refine e8.go Z Z Z (fun E hE=>W.fieldAddr Z Z Z Z .N) ?_
   refine e8.go Z Z Z (fun E hE=>.load Z Z Z Z Z Z .N) ?_
   refine e8.go Z Z Z (fun E hE=>W.fieldAddr Z Z Z Z .N) ?_
   refine e8.go Z Z Z (fun E hE=>.load Z Z Z Z Z Z .N) ?_
   apply e8.eff;exact Z;exact Z;exact Z;exact Z;intro E hE;(refine AOps.newAt 2 (.c (.own 2 0 a10.length)) (vec 1 intI a10) (.inl Z) Z hE Z Z Z Z (.vec) (.vec) Z Z Z ⟨.one Z,.one Z,.dead,.dead,.dead,Y⟩ (fun hh=>by(refine S.fresh Z Z Z Z (j6 ha10) Z Z ?_;exact hh)) ?_);exact AOps.nil ⟨Z,Z⟩
   refine e8.go Z Z Z (fun E hE=>W.fieldAddr Z Z Z Z .N) ?_
   refine e8.go Z Z Z (fun E hE=>.load Z Z Z Z Z Z .N) ?_
   refine e8.no Z (e8.no Z ?_)
   apply e8.eff;exact Z;exact Z;exact Z;exact Z;intro E hE;(refine AOps.allocAt 4 hE Z Z Z Z Z Z Z ⟨.one Z,.one Z,.dead,.dead,.dead,Y⟩ Z ?_);exact AOps.nil ⟨Z,Z⟩
   refine e8.no Z (e8.nil)
  refine E4.cons ?_ ?_
  ·refine e8.go Z Z Z (fun E hE=>W.fieldAddr Z Z Z Z .N) ?_
   refine e8.go Z Z Z (fun E hE=>.load Z Z Z Z Z Z .N) ?_
   refine e8.no Z (e8.no Z (e8.no Z ?_))
   refine e8.go Z Z Z (fun E hE=>W.fieldAddr Z Z Z Z .N) ?_
   refine e8.go Z Z Z (fun E hE=>.load Z Z Z Z Z Z .N) ?_
   apply e8.eff;exact Z;exact Z;exact Z;exact Z;intro E hE;(refine AOps.newAt 3 (.c (.own 3 0 a13.length)) (vec 1 intI a13) (.inl Z) Z hE Z Z Z Z (.vec) (.vec) Z Z Z ⟨.one Z,.one Z,.vec,.dead,.dead,Y⟩ (fun hh=>by(refine S.fresh Z Z Z Z (j6 ha13) Z Z ?_;exact hh)) ?_);exact AOps.nil ⟨Z,Z⟩
   refine e8.no Z ?_
   apply e8.eff;exact Z;exact Z;exact Z;exact Z;intro E hE;(refine AOps.allocAt 4 hE Z Z Z Z Z Z Z ⟨.one Z,.one Z,.vec,.dead,.dead,Y⟩ Z ?_);exact AOps.nil ⟨Z,Z⟩
   refine e8.no Z (e8.nil)
  refine E4.cons ?_ ?_
  ·refine e8.go Z Z Z (fun E hE=>W.fieldAddr Z Z Z Z .N) ?_
   refine e8.go Z Z Z (fun E hE=>.load Z Z Z Z Z Z .N) ?_
   refine e8.no Z (e8.no Z (e8.no Z (e8.no Z (e8.no Z (e8.no Z ?_)))))
   refine e8.go Z Z Z (fun E hE=>W.build Z Z Z Z .N) ?_
   apply e8.eff;exact Z;exact Z;exact Z;exact Z;intro E hE;(refine AOps.allocAt 4 hE Z Z Z Z Z Z Z ⟨.one Z,.one Z,.vec,.vec,.dead,Y⟩ Z ?_);exact AOps.nil ⟨Z,Z⟩
   refine e8.no Z (e8.nil)
  refine E4.cons ?_ ?_
  ·refine e8.go Z Z Z (fun E hE=>W.fieldAddr Z Z Z Z .N) ?_
   refine e8.go Z Z Z (fun E hE=>.load Z Z Z Z Z Z .N) ?_
   refine e8.go Z Z Z (fun E hE=>W.fieldAddr Z Z Z Z .N) ?_
   refine e8.go Z Z Z (fun E hE=>.load Z Z Z Z Z Z .N) ?_
   apply e8.eff;exact Z;exact Z;exact Z;exact Z;intro E hE;(refine AOps.newAt 2 (.c (.own 2 0 a10.length)) (vec 1 intI a10) (.inl Z) Z hE Z Z Z Z (.vec) (.vec) Z Z Z ⟨.one Z,.one Z,.dead,.dead,.one Z,Y⟩ (fun hh=>by(refine S.fresh Z Z Z Z (j6 ha10) Z Z ?_;exact hh)) ?_);exact AOps.nil ⟨Z,Z⟩
   refine e8.go Z Z Z (fun E hE=>W.fieldAddr Z Z Z Z .N) ?_
   refine e8.go Z Z Z (fun E hE=>.load Z Z Z Z Z Z .N) ?_
   refine e8.no Z (e8.no Z (e8.no Z (e8.no Z (e8.nil))))
  refine E4.cons ?_ ?_
  ·refine e8.go Z Z Z (fun E hE=>W.fieldAddr Z Z Z Z .N) ?_
   refine e8.go Z Z Z (fun E hE=>.load Z Z Z Z Z Z .N) ?_
   refine e8.no Z (e8.no Z (e8.no Z ?_))
   refine e8.go Z Z Z (fun E hE=>W.fieldAddr Z Z Z Z .N) ?_
   refine e8.go Z Z Z (fun E hE=>.load Z Z Z Z Z Z .N) ?_
   apply e8.eff;exact Z;exact Z;exact Z;exact Z;intro E hE;(refine AOps.newAt 3 (.c (.own 3 0 a13.length)) (vec 1 intI a13) (.inl Z) Z hE Z Z Z Z (.vec) (.vec) Z Z Z ⟨.one Z,.one Z,.vec,.dead,.one Z,Y⟩ (fun hh=>by(refine S.fresh Z Z Z Z (j6 ha13) Z Z ?_;exact hh)) ?_);exact AOps.nil ⟨Z,Z⟩
   refine e8.no Z (e8.no Z (e8.no Z (e8.nil)))
  refine E4.cons ?_ ?_
  ·refine e8.go Z Z Z (fun E hE=>W.fieldAddr Z Z Z Z .N) ?_
   refine e8.go Z Z Z (fun E hE=>.load Z Z Z Z Z Z .N) ?_
   refine e8.no Z (e8.no Z (e8.no Z (e8.no Z (e8.no Z (e8.no Z ?_)))))
   refine e8.go Z Z Z (fun E hE=>W.build Z Z Z Z .N) ?_
   refine e8.no Z ?_
   apply e8.eff;exact Z;exact Z;exact Z;exact Z;intro E hE;(refine W.storeAgg Z Z Z Z Z Z Z ?_);exact AOps.nil ⟨Z,Z⟩
   exact e8.nil
  refine E4.cons ?_ ?_
  ·refine e8.no Z (e8.no Z (e8.no Z (e8.no Z (e8.no Z (e8.no Z (e8.no Z (e8.no Z (e8.no Z (e8.no Z (e8.no Z (e8.nil)))))))))))
  exact E4.nil
 dsimp only[l9]
 refine b5 (.j (.gs 2 Z (S.len Z Z (fun hl17=>.ge 1 Z (.q (.virtBO 4 preOp postOp h9.add 1 intI (b:=4) (o:=3) Z Z Z Z Z Z Z Z ?_))))))
 obtain⟨c55,ho1,h⟩:=b7 h
 refine AWP.forH ho1 (fun t56 c55=>⟨[(2,(cP 1 0 0)),(3,(cP 4 0 0)),(16,.c (row 4 j8 t.operators)),(17,(cI (t.operators.length:Int))),(18,(cI t56))],[.dead,(oE 4 [int 0,.imm (.val nL),.imm (.val nL),.imm (.val nL)]),(oV 1 intI a10),(oV 1 intI a13),(oE 4 [int t.facts,.own 2 0 a10.length,.own 3 0 a13.length,.own 5 0 c55.length]),omOp 5 c55]⟩) (fun _ _=>Z) ?_ ?_ ?_
 ·exact Sub.cut ⟨Z,Z,Z,Z,Z,Y⟩ Z ⟨.dead,.one Z,.vec,.vec,.one Z,(.any (om_ok Z)),Y⟩ Z
 ·intro t56 c55 o hlot56 hltt56 h
  unfold ao7 at h
  try dsimp only at h ⊢
  refine AWP.j (.q (.j ?_))
  obtain⟨a20,ha20,h⟩:=b7 h
  refine AWP.U (S.idx ha20 Z Z Z Z (.G 3 Z (.nil (b5 ?_))))
  obtain⟨a26,ha26,a29,ha29,a32,ha32,h⟩:=b3 h
  obtain⟨a37,ha37,h⟩:=b7 h
  refine AWP.drawEI [7,14,15,17] mixed Z Z Z (d4.D 4 Z Z ?_)
  refine d4.consN Z Z (fun E=>.u Z Z Z Z (o9.data (j6 ha26)) Z .N) Z ?_
  refine d4.D 2 Z Z ?_
  apply d4.consE;exact Z;exact Z;intro E
  refine S.fresh Z Z Z Z (j6 ha29) Z Z .N
  exact Z
  exact Z
  refine d4.D 2 Z Z ?_
  refine d4.consN Z Z (fun E=>.u Z Z Z Z (o9.data (j6 ha32)) Z .N) Z ?_
  refine d4.D 3 Z Z ?_
  apply d4.consE;exact Z;exact Z;intro E
  refine W.lit1 Z Z Z Z Z Z Z Z Z .N
  exact Z
  exact Z
  apply d4.consE;exact Z;exact Z;intro E
  refine S.appendO (a:=(⟨a26,a29,a32,a20.cost⟩:h9)) ha37 Z Z Z Z Z Z Z Z Z Z Z Z Z Z Z Z .N
  exact Z
  exact Z
  refine d4.D 1 Z Z ?_
  apply d4.consE (v:=.undef);exact Z;exact Z;intro E
  refine W.store Z Z Z Z Z .N
  exact Z
  exact Z
  refine d4.done Z ?_ ?_
  ·refine i5.D 4 Z Z ?_
   refine i5.cons Z Z (.go Z Z (fun E=>.u Z Z Z Z (o9.data (j6 ha26)) Z .N) (.skip Z (.skip Z (.skip Z (.skip Z .nil))))) ?_
   refine i5.D 5 Z Z ?_
   refine i5.cons Z Z ?_ ?_
   refine k9.skip Z ?_
   refine k9.go Z Z (fun E=>.u Z Z Z Z (o9.data (j6 ha32)) Z .N) ?_
   refine k9.skip Z (k9.skip Z (k9.skip Z (k9.nil)))
   refine i5.D 7 Z Z (i5.nil)
  dsimp only[l9]
  refine d6 (b5 (.moveM (env':=[(2,(cP 1 0 0)),(3,(cP 4 0 0)),(16,.c (row 4 j8 t.operators)),(17,(cI (t.operators.length:Int))),(18,(cI t56))]) (σ':=[.dead,(oE 4 [int 0,.imm (.val nL),.imm (.val nL),.imm (.val nL)]),(oV 1 intI a10),(oV 1 intI a13),(oE 4 [int t.facts,.own 2 0 a10.length,.own 3 0 a13.length,.own 5 0 a37.length]),omOp 5 a37,(oE 4 [row 1 intI a20.pre,row 1 intI a20.add,row 1 intI a20.del,int a20.cost]),.dead,(oE 4 [row 1 intI a26,.own 7 0 a29.length,row 1 intI a32,int a20.cost])]) 5 9 Z Z Z ⟨Z,Z,Z,Z,Z,Y⟩ Z ⟨.dead,(.one Z Z),(.vec Z),(.vec Z),(.one Z Z),(EntR.omat Z Z Z),(.one Z Z),.dead,(.one Z Z),Y⟩ (.U (.add Z Z Z (by omega) (.z Z Z (.nil ?_))))))
  obtain rfl:=oi h
  refine b5 (Sub.cut ⟨Z,Z,Z,Z,Z,Y⟩ Z ⟨.dead,.one Z,.vec,.vec,.one Z,(.any (om_ok Z)),Y⟩ Z)
 ·intro iz
  refine i7 (b5 (.gk 2 Z (.ret ?_)))
  obtain rfl:=oi h
  exact⟨⟨[(2,(cP 1 0 0))],[.dead,(oE 4 [int t.facts,.own 2 0 a10.length,.own 3 0 a13.length,.own 5 0 c55.length]),(oV 1 intI a10),(oV 1 intI a13),.dead,omOp 5 c55]⟩,Sub.cut ⟨Z,Y⟩ Z ⟨.dead,.one Z,.vec,.vec,.dead,(.any (om_ok Z)),Y⟩ Z,Done.ret Z ⟨Z,Z⟩⟩
theorem aD5{t:j3}{op:Int}{r:j3×g8}(h:aa1 t op=some r):f7 prog 41 [.agg (tT t),(cI op)] (.tup [.agg (tT r.1),.agg [int r.2.code,int r.2.index]]):=by
 unfold f7
 refine FnOk.enter (rs:=[.cell 4 37 4,.cell 5 32 2]) func41 Z ntmps41 results41 Z ⟨rv _ Z,rv _ Z,Y⟩ (by kernel_rfl) Z ?_
 unfold aa1 at h
 refine AWP.gk 3 Z (.j (.j ?_))
 obtain⟨a10,ha10,h⟩:=b7 h
 refine AWP.G 2 Z (.u Z Z Z Z (av3 ha10) Z (.G 2 Z (.nil (b5 (.gs 2 Z (.neqP Z Z Z Z Z Z Z (.ne (.F Z h (fun hc3 h=> ?_) (fun hc3 h=> ?_)))))))))
 ·refine AWP.j (.drawEI [2,3] mixed Z Z Z (d4.D 2 Z Z ?_))
  apply d4.consE (v:=.undef);exact Z;exact Z;intro E
  refine W.storeAgg Z Z Z Z Z Z Z .N
  exact Z
  exact Z
  apply d4.consE (v:=.undef);exact Z;exact Z;intro E
  refine W.storeAgg Z Z Z Z Z Z Z .N
  exact Z
  exact Z
  refine d4.done Z ?_ ?_
  ·refine i5.D 4 Z Z (i5.nil)
  dsimp only[l9]
  refine b5 (.nilB (b:=1) [int 0,row 1 intI [],row 1 intI [],row 4 j8 []] Z (by exact⟨.inl Z,.inr ⟨Z,_,Z⟩,.inr ⟨Z,_,Z⟩,.inr ⟨Z,_,Z⟩,Y⟩) Z Z (.ret (d9 ?_)))
  obtain rfl:=oi h
  exact Done.ret Z Z
 ·refine AWP.skip (b5 (.j (.gk 3 Z (.J Z h (fun hc4 h=> ?_) (fun hc4 h=> ?_)))))
  ·refine AWP.gk 4 Z (.nilB (b:=1) [int 0,row 1 intI [],row 1 intI [],row 4 j8 []] Z (by exact⟨.inl Z,.inr ⟨Z,_,Z⟩,.inr ⟨Z,_,Z⟩,.inr ⟨Z,_,Z⟩,Y⟩) Z Z (.ret (d9 ?_)))
   obtain rfl:=oi h
   exact Done.ret Z Z
  ·refine AWP.skip (b5 (.j ?_))
   obtain⟨a22,ha22,ao5,hao5,h⟩:=b2 h
   refine AWP.G 1 Z ?_
   refine AOps.callF (r2:=.agg [int t.facts,.own 6 0 a22.1.length,.own 7 0 a22.2.1.length,.own 9 0 a22.2.2.length]) (σ'':=[(oE 4 (tT t)),(oE 4 [int 0,.imm (.val nL),.imm (.val nL),.imm (.val nL)]),(oE 2 [int 0,int 0]),(oE 2 [int a10.code,int a10.index]),.dead,(oE 4 [int t.facts,.own 6 0 a22.1.length,.own 7 0 a22.2.1.length,.own 9 0 a22.2.2.length]),(oV 1 intI a22.1),(oV 1 intI a22.2.1),.dead,omOp 9 a22.2.2]) Z Z Z (FnOk.lend [] (aD2 ha22) Z Z Z Z Z Z (by exact Y) Z (by exact Y) Z Z (by exact⟨(.old Z Z Z),(.old Z Z Z),(.old Z Z Z),(.old Z Z Z),.dead,(.new 1 Z Z (.one Z)),(.new 2 Z Z .vec),(.new 3 Z Z .vec),.dead,(.new 5 Z Z (RenE.omat fun _=>Z)),Y⟩)) ?_;refine AOps.sub (s':=⟨[(0,.agg (tT t)),(1,(cI op)),(2,(cP 0 0 0)),(4,(cP 1 0 0)),(5,(cP 2 0 0)),(6,(cP 3 0 0)),(8,.agg (tT t)),(9,(cI op)),(10,.agg [int a10.code,int a10.index]),(11,.agg [int a10.code,int a10.index]),(12,.agg [int 0,int 0]),(13,(cB (!((decide (a10.code=0)) && (decide (a10.index=0)))))),(16,(cP 0 0 0)),(17,(cI t.facts)),(18,(cB (decide (t.facts=24)))),(21,.agg (tT t)),(22,.agg [int t.facts,.own 6 0 a22.1.length,.own 7 0 a22.2.1.length,.own 9 0 a22.2.2.length])],[(oE 4 (tT t)),(oE 4 [int 0,.imm (.val nL),.imm (.val nL),.imm (.val nL)]),(oE 2 [int 0,int 0]),(oE 2 [int a10.code,int a10.index]),.dead,(oE 4 [int t.facts,.own 6 0 a22.1.length,.own 7 0 a22.2.1.length,.own 9 0 a22.2.2.length]),(oV 1 intI a22.1),(oV 1 intI a22.2.1),.dead,omOp 9 a22.2.2]⟩) (Sub.env ⟨Z,Z,Z,Z,Z,Z,Z,Z,Z,Z,Z,Z,Z,Z,Z,Z,Z,Y⟩) ?_;refine AOps.sub (s':=⟨[(0,.agg (tT t)),(1,(cI op)),(2,(cP 0 0 0)),(4,(cP 1 0 0)),(5,(cP 2 0 0)),(6,(cP 3 0 0)),(8,.agg (tT t)),(9,(cI op)),(10,.agg [int a10.code,int a10.index]),(11,.agg [int a10.code,int a10.index]),(12,.agg [int 0,int 0]),(13,(cB (!((decide (a10.code=0)) && (decide (a10.index=0)))))),(16,(cP 0 0 0)),(17,(cI t.facts)),(18,(cB (decide (t.facts=24)))),(21,.agg (tT t)),(22,.agg [int t.facts,.own 6 0 a22.1.length,.own 7 0 a22.2.1.length,.own 9 0 a22.2.2.length])],[(oE 4 (tT t)),(oE 4 [int 0,.imm (.val nL),.imm (.val nL),.imm (.val nL)]),(oE 2 [int 0,int 0]),(oE 2 [int a10.code,int a10.index]),.dead,(oE 4 [int t.facts,.own 6 0 a22.1.length,.own 7 0 a22.2.1.length,.own 9 0 a22.2.2.length]),(oV 1 intI a22.1),(oV 1 intI a22.2.1),.dead,.one (vpOp a22.2.2 op.toNat 10 ao5.add.length ao5),(oV 1 intI ao5.add)]⟩) (Sub.splitO (r:=9) (n:=10) Z Z (S9 hao5).2 (RlL.all (by exact⟨.one (fun _=>Z),.one (fun _=>Z),.one (fun _=>Z),.one (fun _=>Z),.dead,.one (fun _=>Z),.vec,.vec,.dead,.self,Y⟩)) Z Z Z Z) ?_
   refine AOps.G 2 Z (.nil (b5 (.j ?_)))
   obtain⟨a28,ha28,h⟩:=b7 h
   refine AWP.G 4 Z (S.lit (f:=intI) (l:=[t.facts]) (ess:=[[int t.facts]]) Z Z Z Z Z Z Z ⟨⟨.inl Z,Y⟩,Y⟩ Z Z Z (S.append (f:=intI) ha28 Z Z Z Z Z Z (.own Z Z) Z Z Z Z (.G 2 Z (.nil (b5 (.j (.z (env':=[(1,(cI op)),(4,(cP 1 0 0)),(5,(cP 2 0 0)),(7,(cP 11 0 0))]) (σ':=[(oE 4 (tT t)),(oE 4 [int 0,.imm (.val nL),.imm (.val nL),.imm (.val nL)]),(oE 2 [int 0,int 0]),(oE 2 [int a10.code,int a10.index]),.dead,.dead,(oV 1 intI a22.1),(oV 1 intI a28),.dead,.one (vpOp a22.2.2 op.toNat 10 ao5.add.length ao5),(oV 1 intI ao5.add),(oE 4 [int t.facts,.own 6 0 a22.1.length,.own 7 0 a28.length,.own 9 0 a22.2.2.length]),(oV 1 intI [t.facts])]) 7 13 Z Z Z ⟨Z,Z,Z,Z,Y⟩ Z ⟨⟨Z,Z⟩,⟨Z,Z⟩,⟨Z,Z⟩,⟨Z,Z⟩,Y,Y,⟨Blk.im_ok _ _ _,i6 Z⟩,⟨Blk.im_ok _ _ _,i6 Z⟩,Y,⟨vp_ok Z,vp_mv Z Z⟩,⟨Blk.im_ok _ _ _,i6 Z⟩,⟨Z,Z⟩,⟨Blk.im_ok _ _ _,i6 Z⟩,Y⟩ ?_)))))))
   obtain⟨a42,ha42,h⟩:=b7 h
   refine AWP.drawEI [11,12,15] mixed Z Z Z (d4.D 6 Z Z ?_)
   refine d4.consN Z Z (fun E=>S.idxVP hao5 Z Z Z Z Z .N) Z ?_
   refine d4.D 1 Z Z ?_
   refine d4.consN Z Z (fun E=>S.loadVP hao5 Z Z Z Z Z .N) Z ?_
   refine d4.D 2 Z Z ?_
   apply d4.consE;exact Z;exact Z;intro E
   refine S.lit (f:=intI) (l:=[t.facts]) (ess:=[[int t.facts]]) Z Z Z Z Z Z Z ⟨⟨.inl Z,Y⟩,Y⟩ Z Z Z .N
   exact Z
   exact Z
   apply d4.consE;exact Z;exact Z;intro E
   refine S.append (f:=intI) ha42 Z Z Z Z Z Z (.own Z Z) Z Z Z Z .N
   exact Z
   exact Z
   refine d4.consN Z Z (fun E=>S.idxVP hao5 Z Z Z Z Z .N) Z ?_
   refine d4.D 1 Z Z ?_
   apply d4.consE (v:=.undef);exact Z;exact Z;intro E
   refine S.storeVP hao5 Z Z Z Z Z .N
   exact Z
   exact Z
   refine d4.done Z ?_ ?_
   ·refine i5.D 6 Z Z ?_
    refine i5.cons Z Z (.go Z Z (fun E=>S.idxVP hao5 Z Z Z Z Z .N) (.go Z Z (fun E=>S.idxVP hao5 Z Z Z Z Z .N) (.skip Z (.skip Z .nil)))) ?_
    refine i5.D 1 Z Z ?_
    refine i5.cons Z Z (.go Z Z (fun E=>S.loadVP hao5 Z Z Z Z Z .N) (.go Z Z (fun E=>S.loadVP hao5 Z Z Z Z Z .N) (.skip Z (.skip Z .nil)))) ?_
    refine i5.D 4 Z Z ?_
    refine i5.cons Z Z ?_ ?_
    refine k9.skip Z (k9.skip Z ?_)
    refine k9.go Z Z (fun E=>S.idxVP hao5 Z Z Z Z Z .N) ?_
    refine k9.skip Z (k9.nil)
    refine i5.D 2 Z Z (i5.nil)
   dsimp only[l9]
   refine b5 (.j (.z (env':=[(4,(cP 1 0 0)),(5,(cP 2 0 0)),(7,(cP 11 0 0))]) (σ':=[(oE 4 (tT t)),(oE 4 [int 0,.imm (.val nL),.imm (.val nL),.imm (.val nL)]),(oE 2 [int 0,int 0]),(oE 2 [int a10.code,int a10.index]),.dead,.dead,(oV 1 intI a22.1),(oV 1 intI a28),.dead,.one (vpOp a22.2.2 op.toNat 10 a42.length ao5),(oV 1 intI a42),(oE 4 [int t.facts,.own 6 0 a22.1.length,.own 7 0 a28.length,.own 9 0 a22.2.2.length]),(oV 1 intI [t.facts]),(oV 1 intI [t.facts])]) 10 14 Z Z Z ⟨Z,Z,Z,Y⟩ Z ⟨⟨Z,Z⟩,⟨Z,Z⟩,⟨Z,Z⟩,⟨Z,Z⟩,Y,Y,⟨Blk.im_ok _ _ _,i6 Z⟩,⟨Blk.im_ok _ _ _,i6 Z⟩,Y,⟨vp_ok Z,vp_mv Z Z⟩,⟨Blk.im_ok _ _ _,i6 Z⟩,⟨Z,Z⟩,⟨Blk.im_ok _ _ _,i6 Z⟩,⟨Blk.im_ok _ _ _,i6 Z⟩,Y⟩ (.G 5 Z (.nil (b5 (.gk 4 Z (.frzW (id:=10) (M:=a42) (env2:=[(4,(cP 1 0 0)),(5,(cP 2 0 0))]) (σ2:=[(oE 4 (tT t)),(oE 4 [int (w64 (t.facts+1)),.own 6 0 a22.1.length,.own 7 0 a28.length,.own 9 0 a22.2.2.length]),(oE 2 [int 0,int 0]),(oE 2 [int a10.code,int a10.index]),.dead,.dead,(oV 1 intI a22.1),(oV 1 intI a28),.dead,(oV 4 j8 (a22.2.2.set op.toNat (⟨ao5.pre,a42,ao5.del,ao5.cost⟩:h9))),.dead,(oE 4 [int (w64 (t.facts+1)),.own 6 0 a22.1.length,.own 7 0 a28.length,.own 9 0 a22.2.2.length]),(oV 1 intI [t.facts]),(oV 1 intI [t.facts])]) Z Z (by exact⟨⟨_,Z,.inl ⟨Z,Z⟩⟩,⟨_,Z,.inl ⟨Z,Z⟩⟩,Y⟩) Z (by exact⟨.old ⟨Z,.inl ⟨Z,Z⟩,.inl ⟨Z,Z⟩,.inl ⟨Z,Z⟩,.inl ⟨Z,Z⟩,Y⟩,.old ⟨Z,.inl ⟨Z,Z⟩,.inl ⟨Z,Z⟩,.inl ⟨Z,Z⟩,.inl ⟨Z,Z⟩,Y⟩,.old ⟨Z,.inl ⟨Z,Z⟩,.inl ⟨Z,Z⟩,Y⟩,.old ⟨Z,.inl ⟨Z,Z⟩,.inl ⟨Z,Z⟩,Y⟩,.old (Y),.old (Y),.old (FrzB.vec),.old (FrzB.vec),.old (Y),(.any (vp_frz Z Z)),.old (Y),.old ⟨Z,.inl ⟨Z,Z⟩,.inl ⟨Z,Z⟩,.inl ⟨Z,Z⟩,.inl ⟨Z,Z⟩,Y⟩,.old (FrzB.vec),.old (FrzB.vec),Y⟩) (.frzV (id:=6) (l:=a22.1) (env2:=[(4,(cP 1 0 0)),(5,(cP 2 0 0))]) (σ2:=[(oE 4 (tT t)),(oE 4 [int (w64 (t.facts+1)),row 1 intI a22.1,.own 7 0 a28.length,.own 9 0 a22.2.2.length]),(oE 2 [int 0,int 0]),(oE 2 [int a10.code,int a10.index]),.dead,.dead,.dead,(oV 1 intI a28),.dead,(oV 4 j8 (a22.2.2.set op.toNat (⟨ao5.pre,a42,ao5.del,ao5.cost⟩:h9))),.dead,(oE 4 [int (w64 (t.facts+1)),row 1 intI a22.1,.own 7 0 a28.length,.own 9 0 a22.2.2.length]),(oV 1 intI [t.facts]),(oV 1 intI [t.facts])]) Z Z (by exact⟨⟨_,Z,.inl ⟨Z,Z⟩⟩,⟨_,Z,.inl ⟨Z,Z⟩⟩,Y⟩) Z (by exact⟨⟨Z,.inl ⟨Z,Z⟩,.inl ⟨Z,Z⟩,.inl ⟨Z,Z⟩,.inl ⟨Z,Z⟩,Y⟩,⟨Z,.inl ⟨Z,Z⟩,.inr ⟨_,Z,Z,Z⟩,.inl ⟨Z,Z⟩,.inl ⟨Z,Z⟩,Y⟩,⟨Z,.inl ⟨Z,Z⟩,.inl ⟨Z,Z⟩,Y⟩,⟨Z,.inl ⟨Z,Z⟩,.inl ⟨Z,Z⟩,Y⟩,Y,Y,Y,FrzB.vec,Y,FrzB.vec,Y,⟨Z,.inl ⟨Z,Z⟩,.inr ⟨_,Z,Z,Z⟩,.inl ⟨Z,Z⟩,.inl ⟨Z,Z⟩,Y⟩,FrzB.vec,FrzB.vec,Y⟩) (.frzV (id:=7) (l:=a28) (env2:=[(4,(cP 1 0 0)),(5,(cP 2 0 0))]) (σ2:=[(oE 4 (tT t)),(oE 4 [int (w64 (t.facts+1)),row 1 intI a22.1,row 1 intI a28,.own 9 0 a22.2.2.length]),(oE 2 [int 0,int 0]),(oE 2 [int a10.code,int a10.index]),.dead,.dead,.dead,.dead,.dead,(oV 4 j8 (a22.2.2.set op.toNat (⟨ao5.pre,a42,ao5.del,ao5.cost⟩:h9))),.dead,(oE 4 [int (w64 (t.facts+1)),row 1 intI a22.1,row 1 intI a28,.own 9 0 a22.2.2.length]),(oV 1 intI [t.facts]),(oV 1 intI [t.facts])]) Z Z (by exact⟨⟨_,Z,.inl ⟨Z,Z⟩⟩,⟨_,Z,.inl ⟨Z,Z⟩⟩,Y⟩) Z (by exact⟨⟨Z,.inl ⟨Z,Z⟩,.inl ⟨Z,Z⟩,.inl ⟨Z,Z⟩,.inl ⟨Z,Z⟩,Y⟩,⟨Z,.inl ⟨Z,Z⟩,.inl ⟨Z,Z⟩,.inr ⟨_,Z,Z,Z⟩,.inl ⟨Z,Z⟩,Y⟩,⟨Z,.inl ⟨Z,Z⟩,.inl ⟨Z,Z⟩,Y⟩,⟨Z,.inl ⟨Z,Z⟩,.inl ⟨Z,Z⟩,Y⟩,Y,Y,Y,Y,Y,FrzB.vec,Y,⟨Z,.inl ⟨Z,Z⟩,.inl ⟨Z,Z⟩,.inr ⟨_,Z,Z,Z⟩,.inl ⟨Z,Z⟩,Y⟩,FrzB.vec,FrzB.vec,Y⟩) (.frzV (id:=9) (l:=a22.2.2.set op.toNat (⟨ao5.pre,a42,ao5.del,ao5.cost⟩:h9)) (env2:=[(4,(cP 1 0 0)),(5,(cP 2 0 0))]) (σ2:=[(oE 4 (tT t)),(oE 4 [int (w64 (t.facts+1)),row 1 intI a22.1,row 1 intI a28,row 4 j8 (a22.2.2.set op.toNat (⟨ao5.pre,a42,ao5.del,ao5.cost⟩:h9))]),(oE 2 [int 0,int 0]),(oE 2 [int a10.code,int a10.index]),.dead,.dead,.dead,.dead,.dead,.dead,.dead,(oE 4 [int (w64 (t.facts+1)),row 1 intI a22.1,row 1 intI a28,row 4 j8 (a22.2.2.set op.toNat (⟨ao5.pre,a42,ao5.del,ao5.cost⟩:h9))]),(oV 1 intI [t.facts]),(oV 1 intI [t.facts])]) Z Z (by exact⟨⟨_,Z,.inl ⟨Z,Z⟩⟩,⟨_,Z,.inl ⟨Z,Z⟩⟩,Y⟩) Z (by exact⟨⟨Z,.inl ⟨Z,Z⟩,.inl ⟨Z,Z⟩,.inl ⟨Z,Z⟩,.inl ⟨Z,Z⟩,Y⟩,⟨Z,.inl ⟨Z,Z⟩,.inl ⟨Z,Z⟩,.inl ⟨Z,Z⟩,.inr ⟨_,Z,(by simp only[lS]),Z⟩,Y⟩,⟨Z,.inl ⟨Z,Z⟩,.inl ⟨Z,Z⟩,Y⟩,⟨Z,.inl ⟨Z,Z⟩,.inl ⟨Z,Z⟩,Y⟩,Y,Y,Y,Y,Y,Y,Y,⟨Z,.inl ⟨Z,Z⟩,.inl ⟨Z,Z⟩,.inl ⟨Z,Z⟩,.inr ⟨_,Z,(by simp only[lS]),Z⟩,Y⟩,FrzB.vec,FrzB.vec,Y⟩) (.ret ?_)))))))))))
   obtain rfl:=oi h
   exact Done.ret Z Z
theorem D8{sv:Li}{r:Int}(h:W4 sv=some r):f7 prog 125 [(cR sv)] (.c (.imm (.val (.int .u32 r)))):=by
 unfold f7
 refine FnOk.enter (rs:=[.t 2]) func125 Z ntmps125 results125 Z ⟨Y,Y⟩ (by kernel_rfl) Z ?_
 unfold W4 at h
 refine AWP.gk 1 Z (.gk 1 Z (.j (.gs 1 Z (S.len Z Z (fun hl7=>.ge 1 Z (.q ?_))))))
 obtain⟨w2,ho1,h⟩:=b7 h
 refine AWP.forH ho1 (fun t3 w2=>⟨[(3,.c (.imm (.val (.int .u32 w2)))),(6,(cR sv)),(7,(cI (sv.length:Int))),(8,(cI t3))],[]⟩) (fun _ _=>Z) ?_ ?_ ?_
 ·exact Sub.en Z
 ·intro t3 w2 o hlot3 hltt3 h
  unfold aB5 at h
  try dsimp only at h ⊢
  refine AWP.j (.q (.j ?_))
  obtain⟨a10,ha10,h⟩:=b7 h
  refine AWP.U (S.idx ha10 Z Z Z Z (.G 2 Z (.nil (b5 ?_))))
  obtain⟨u14,hu14,h⟩:=b7 h
  refine AWP.G 2 Z (S.shl hu14 Z Z Z (.bits Z Z Z (by simp) (.B Z Z (.nil (d6 (b5 (.U (.add Z Z Z (by omega) (.z Z Z (.nil ?_))))))))))
  obtain rfl:=oi h
  refine b5 (Sub.en Z)
 ·intro iz
  refine i7 (b5 (.gk 2 Z (.ret ?_)))
  obtain rfl:=oi h
  exact Done.ret Z Z
theorem ay2{w:Int}{r:Li}(h:Y3 w=some r):o9 prog 100 [.c (.imm (.val (.int .u32 w)))] 1 (ic intI r):=by
 unfold o9
 refine FnOk.enter (rs:=[.t 2]) func100 Z ntmps100 results100 Z ⟨Y,Y⟩ (by kernel_rfl) Z ?_
 unfold Y3 at h
 refine AWP.gk 1 Z (.gk 1 Z (.j (.gk 1 Z (.q (.virtV 1 intI 3 Z Z Z ?_)))))
 obtain⟨c2,ho1,h⟩:=b7 h
 refine AWP.forH ho1 (fun t3 c2=>⟨[(0,.c (.imm (.val (.int .u32 w)))),(3,.c (.own 0 0 c2.length)),(5,(cI t3))],[(oV 1 intI c2)]⟩) (fun _ _=>Z) ?_ ?_ ?_
 ·exact Sub.env ⟨Z,(C0 (by first|rfl|simp only[lS])),Z,Y⟩
 ·intro t3 c2 o hlot3 hltt3 h
  unfold ad9 at h
  try dsimp only at h ⊢
  obtain⟨c4,hx5,h⟩:=b7 h
  refine AWP.seqJ (⟨[(0,.c (.imm (.val (.int .u32 w)))),(3,.c (.own 2 0 c4.length)),(5,(cI t3))],[.dead,.dead,(oV 1 intI c4)]⟩) ?_ ?_
  ·refine AWP.q (.gk 2 Z (.gs 2 Z (.shr Z Z Z (by first|decide|omega) Z (.bits Z Z Z (by simp) (.ge 1 Z (.J Z hx5 (fun hc6 hx5=> ?_) (fun hc6 hx5=> ?_)))))))
   ·obtain⟨a16,ha16,hx5⟩:=b7 hx5
    refine AWP.G 2 Z (S.lit (f:=intI) (l:=[t3]) (ess:=[[int t3]]) Z Z Z Z Z Z Z ⟨⟨.inl Z,Y⟩,Y⟩ Z Z Z (S.append (f:=intI) ha16 Z Z Z Z Z Z (.own Z Z) Z Z Z Z (.B Z Z (.nil (d6 ?_)))))
    obtain rfl:=oi hx5
    refine b5 (Sub.cut ⟨Z,Z,Z,Y⟩ Z ⟨.dead,.dead,.vec,Y⟩ Z)
   ·refine AWP.skip (d6 ?_)
    obtain rfl:=oi hx5
    refine b5 ((Sub.move (env':=[(0,.c (.imm (.val (.int .u32 w)))),(3,.c (.own 2 0 c2.length)),(5,(cI t3))]) (σ':=[.dead,.dead,(oV 1 intI c2)]) 2 0 Z Z Z ⟨Z,Z,Z,Y⟩ Z ⟨Y,Y,⟨Blk.im_ok _ _ _,i6 Z⟩,Y⟩).trans (Sub.en Z))
  ·refine AWP.U (.add Z Z Z (by omega) (.z Z Z (.nil ?_)))
   obtain rfl:=oi h
   refine b5 ((Sub.move (env':=[(0,.c (.imm (.val (.int .u32 w)))),(3,.c (.own 0 0 c4.length)),(5,(cI (t3+1)))]) (σ':=[(oV 1 intI c4),.dead]) 0 2 Z Z Z ⟨Z,Z,Z,Y⟩ Z ⟨⟨Blk.im_ok _ _ _,i6 Z⟩,Y,Y⟩).trans (Sub.cut ⟨Z,Z,Z,Y⟩ Z ⟨.vec,Y⟩ Z))
 ·intro iz
  refine i7 (b5 (.gk 2 Z (.ret ?_)))
  obtain rfl:=oi h
  exact Done.ret Z (Fresh.mk Z Z)
theorem aC1{av:Int}{bv:Int}{r:Int}(h:L7 av bv=some r):f7 prog 99 [.c (.imm (.val (.int .u32 av))),.c (.imm (.val (.int .u32 bv)))] ((cI r)):=by
 unfold f7
 refine FnOk.enter (rs:=[.t 4]) func99 Z ntmps99 results99 Z ⟨Y,Y⟩ (by kernel_rfl) Z ?_
 unfold L7 at h
 refine AWP.gk 1 Z (.j ?_)
 obtain⟨a6,ha6,a8,ha8,a9,ha9,h⟩:=b3 h
 refine AWP.G 1 Z (S.fresh Z Z Z Z (ay2 ha6) Z Z (.z Z Z (S.fresh Z Z Z Z (ay2 ha8) Z Z (.aa Z Z (.cons (.c (.own Z Z)) (.cons (.c (.own Z Z)) .nil)) Z (w9 ha9) Z (.B Z Z (.nil (b5 (.ret ?_))))))))
 obtain rfl:=oi h
 exact Done.ret Z Z
theorem space_Of_w_ok{t:j3}{r:Int×Int×(List l8)}(h:ar6 t=some r):FnOk prog 96 [.agg (tT t)] (space_Of_w_s0 t) (fun tt ss=>tt=(cP 1 0 0)/\ss=[.dead,(oE 3 [.imm (.val (.int .u32 r.1)),.imm (.val (.int .u32 r.2.1)),.own 2 0 r.2.2.length]),(oV 4 f5 r.2.2)]):=by
 refine FnOk.enter (rs:=[.t 2]) func96 Z ntmps96 results96 Z ⟨Y,Y⟩ (by kernel_rfl) Z ?_
 refine AWP.weak ?_
 unfold ar6 at h
 refine AWP.gk 2 Z (.j ?_)
 obtain⟨a8,ha8,a11,ha11,h⟩:=b2 h
 refine AWP.drawEI [7] mixed Z Z Z (d4.D 2 Z Z ?_)
 refine d4.consN Z Z (fun E=>.u Z Z Z Z (D8 ha8) Z .N) Z ?_
 refine d4.D 2 Z Z ?_
 refine d4.consN Z Z (fun E=>.u Z Z Z Z (D8 ha11) Z .N) Z ?_
 refine d4.D 1 Z Z ?_
 apply d4.consE;exact Z;exact Z;intro E
 refine W.box Z Z Z Z Z Z .N
 exact Z
 exact Z
 refine d4.D 1 Z Z (d4.done Z ?_ ?_)
 ·refine i5.D 2 Z Z ?_
  refine i5.cons Z Z (.go Z Z (fun E=>.u Z Z Z Z (D8 ha8) Z .N) (.skip Z .nil)) ?_
  refine i5.D 2 Z Z ?_
  refine i5.cons Z Z (.go Z Z (fun E=>.u Z Z Z Z (D8 ha11) Z .N) (.skip Z .nil)) ?_
  refine i5.D 3 Z Z (i5.nil)
 dsimp only[l9]
 refine b5 (.j (.gs 2 Z (S.len Z Z (fun hl16=>.ge 1 Z (.q (.virtB 4 f5 (b:=1) (o:=2) Z Z Z Z Z Z ?_))))))
 obtain⟨c55,ho1,h⟩:=b7 h
 refine AWP.forH ho1 (fun t56 c55=>⟨[(3,(cP 1 0 0)),(15,.c (row 4 j8 t.operators)),(16,(cI (t.operators.length:Int))),(17,(cI t56))],[.dead,(oE 3 (wW a8 a11 2 c55.length)),(oV 4 f5 c55)]⟩) (fun _ _=>Z) ?_ ?_ ?_
 ·exact Sub.cut ⟨Z,Z,Z,Z,Y⟩ Z ⟨.dead,(.eq Z (by first|rfl|(simp only[lS];done))),.vec,Y⟩ Z
 ·intro t56 c55 o hlot56 hltt56 h
  unfold aB6 at h
  try dsimp only at h ⊢
  refine AWP.j (.q (.j ?_))
  obtain⟨a19,ha19,h⟩:=b7 h
  refine AWP.U (S.idx ha19 Z Z Z Z (.G 3 Z (.nil (b5 ?_))))
  obtain⟨a28,ha28,a31,ha31,a34,ha34,h⟩:=b3 h
  obtain⟨a39,ha39,h⟩:=b7 h
  refine AWP.drawEI [17,18,21] mixed Z Z Z (d4.D 7 Z Z ?_)
  refine d4.consN Z Z (fun E=>.u Z Z Z Z (D8 ha28) Z .N) Z ?_
  refine d4.D 2 Z Z ?_
  refine d4.consN Z Z (fun E=>.u Z Z Z Z (D8 ha31) Z .N) Z ?_
  refine d4.D 2 Z Z ?_
  refine d4.consN Z Z (fun E=>.u Z Z Z Z (D8 ha34) Z .N) Z ?_
  refine d4.D 3 Z Z ?_
  apply d4.consE;exact Z;exact Z;intro E
  refine S.lit (f:=f5) (l:=[(⟨a28,a31,a34,a19.cost⟩:l8)]) (ess:=[[.imm (.val (.int .u32 a28)),.imm (.val (.int .u32 a31)),.imm (.val (.int .u32 a34)),int a19.cost]]) Z Z Z Z Z Z Z ⟨⟨.inl Z,.inl Z,.inl Z,.inl Z,Y⟩,Y⟩ Z Z Z .N
  exact Z
  exact Z
  apply d4.consE;exact Z;exact Z;intro E
  refine S.append (f:=f5) ha39 Z Z Z Z Z Z (.own Z Z) Z Z Z Z .N
  exact Z
  exact Z
  refine d4.D 2 Z Z ?_
  apply d4.consE (v:=.undef);exact Z;exact Z;intro E
  refine W.store Z Z Z Z Z .N
  exact Z
  exact Z
  refine d4.done Z ?_ ?_
  ·refine i5.D 7 Z Z ?_
   refine i5.cons Z Z (.go Z Z (fun E=>.u Z Z Z Z (D8 ha28) Z .N) (.skip Z (.skip Z (.skip Z .nil)))) ?_
   refine i5.D 2 Z Z ?_
   refine i5.cons Z Z (.go Z Z (fun E=>.u Z Z Z Z (D8 ha31) Z .N) (.skip Z (.skip Z (.skip Z .nil)))) ?_
   refine i5.D 2 Z Z ?_
   refine i5.cons Z Z (.go Z Z (fun E=>.u Z Z Z Z (D8 ha34) Z .N) (.skip Z (.skip Z (.skip Z .nil)))) ?_
   refine i5.D 8 Z Z (i5.nil)
  dsimp only[l9]
  refine d6 (b5 (.z (env':=[(3,(cP 1 0 0)),(15,.c (row 4 j8 t.operators)),(16,(cI (t.operators.length:Int))),(17,(cI t56))]) (σ':=[.dead,(oE 3 (wW a8 a11 2 a39.length)),(oV 4 f5 a39),(oE 4 [row 1 intI a19.pre,row 1 intI a19.add,row 1 intI a19.del,int a19.cost]),(oV 4 f5 [(⟨a28,a31,a34,a19.cost⟩:l8)])]) 2 5 Z Z Z ⟨Z,Z,Z,Z,Y⟩ Z ⟨Y,⟨Z,Z⟩,⟨Blk.im_ok _ _ _,i6 Z⟩,⟨Z,Z⟩,⟨Blk.im_ok _ _ _,i6 Z⟩,Y⟩ (.U (.add Z Z Z (by omega) (.z Z Z (.nil ?_))))))
  obtain rfl:=oi h
  refine b5 (Sub.cut ⟨Z,Z,Z,Z,Y⟩ Z ⟨.dead,.one Z,.vec,Y⟩ Z)
 ·intro iz
  refine i7 (b5 (.gk 2 Z (.ret ?_)))
  obtain rfl:=oi h
  exact Done.e Z ⟨Z,Z⟩
theorem U4{start:Int}{goal:Int}{l:List l8}{r:Unit}(h:C2 start goal l=some r):FnOk prog 76 [(cP 0 0 0)] (ax9 start goal l) (fun tt ss=>tt=.c (.imm (.val (.int .u32 start)))/\ss=[(oE 3 (wW start goal 1 l.length)),(oV 4 f5 l)]):=by
 refine FnOk.enter (rs:=[.t 2]) func76 Z ntmps76 results76 Z ⟨Y,Y⟩ (by kernel_rfl) Z ?_
 refine AWP.weak ?_
 unfold C2 at h
 refine AWP.gk 1 Z (.gk 5 Z (.ret ?_))
 obtain rfl:=oi h
 exact Done.e Z ⟨Z,Z⟩
theorem ae5{sv:Int}{start:Int}{goal:Int}{l:List l8}{r:Unit}(h:Q9 sv start goal l=some r):FnOk prog 104 [(cP 0 0 0),.c (.imm (.val (.int .u32 sv)))] (ax4 sv start goal l) (fun tt ss=>tt=.c (.fn 129 [.ptr 2 0 0,.ptr 3 0 0])/\ss=[(oE 3 (wW start goal 1 l.length)),(oV 4 f5 l),(o1 (.ptr 0 0 0)),(o1 (.imm (.val (.int .u32 sv))))]):=by
 refine FnOk.enter (rs:=[.t 4]) func104 Z ntmps104 results104 Z ⟨Y,Y⟩ (by kernel_rfl) Z ?_
 refine AWP.weak ?_
 unfold Q9 at h
 refine AWP.gk 3 Z (.j (.U (.ac Z Z (.ge 1 Z (.ret ?_)))))
 obtain rfl:=oi h
 exact Done.e Z ⟨Z,Z⟩
end Ab
end
