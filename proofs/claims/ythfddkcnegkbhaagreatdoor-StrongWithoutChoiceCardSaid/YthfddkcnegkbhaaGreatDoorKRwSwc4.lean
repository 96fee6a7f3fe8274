/-
  Texts that the proof stands on.
-/
import Derived.Test.YthfddkcnegkbhaaGreatDoorKRwSwc3
set_option linter.all false
section
namespace Ab
open Go Go.Proofs
open Tryz
set_option maxHeartbeats 4000000
set_option linter.all false
attribute [local irreducible] AWP AOps thn inB Done e8 r8 Sub
abbrev tO(v:d4):List C:=[int v.facts,row 1 intI v.init,row 1 intI v.goal,row 3 o8 v.operators]
abbrev tT(v:m6):List C:=[int v.facts,row 1 intI v.init,row 1 intI v.goal,row 4 u4 v.operators]
abbrev wW(a b:Int)(i:Id)(n:Nat):List C:=[.imm (.val (.int .u32 a)),.imm (.val (.int .u32 b)),.own i 0 n]
abbrev vU:Int→Value:=Value.int .u32
abbrev vI:Int→Value:=Value.int .i64
abbrev nL:Value:=.slice none 0 0
instance:MethF prog 75 "Start" 30 true:=⟨by kernel_rfl⟩
instance:MethF prog 75 "Steps" 67 true:=⟨by kernel_rfl⟩
instance:MethF prog 189 "Len" 203 false:=⟨by kernel_rfl⟩
instance:MethF prog 189 "Less" 204 false:=⟨by kernel_rfl⟩
instance:MethF prog 189 "Pop" 206 true:=⟨by kernel_rfl⟩
instance:MethF prog 189 "Push" 207 true:=⟨by kernel_rfl⟩
instance:MethF prog 189 "Swap" 205 false:=⟨by kernel_rfl⟩
theorem aw8{r:d4}(h:al0=some r):e8 prog 18 [] (.agg (tO r)):=by
 unfold e8
 refine FnOk.enter (rs:=[.cell 0 25 4]) func18 Z ntmps18 results18 Z ⟨rv _ Z,Y⟩ (by kernel_rfl) Z ?_
 unfold al0 at h
 refine AWP.q (.z (W.alloc Z Z Z Z (.nil (b5 (.q (.z (S.lit (f:=intI) (l:=[0]) (ess:=[[int 0]]) Z Z Z Z Z Z Z ⟨⟨.inl Z,Y⟩,Y⟩ Z Z Z (S.lit (f:=intI) (l:=[0]) (ess:=[[int 0]]) Z Z Z Z Z Z Z ⟨⟨.inl Z,Y⟩,Y⟩ Z Z Z (W.build Z Z Z Z (.frzV (id:=2) (l:=[0]) (env2:=[(0,.c (.ptr 0 0 0)),(1,.c (.own 1 0 ([0].length))),(3,.agg [row 1 intI [0],.imm (.val nL),int 1])]) (σ2:=[.one (.cells 4 [[int 0,.imm (.val nL),.imm (.val nL),.imm (.val nL)]]),.one (vec 1 intI [0]),.dead]) Z Z (by exact⟨⟨_,Z,.inl ⟨Z,Z⟩⟩,⟨_,Z,.inl ⟨Z,Z⟩⟩,⟨_,Z,⟨.inr ⟨_,Z,Z,Z⟩,.inl ⟨Z,Z⟩,.inl ⟨Z,Z⟩,Y⟩⟩,Y⟩) Z (by exact⟨⟨Z,.inl ⟨Z,Z⟩,.inl ⟨Z,Z⟩,.inl ⟨Z,Z⟩,.inl ⟨Z,Z⟩,Y⟩,FrzB.vec,trivial,Y⟩) (S.lit (f:=w9) (l:=[(⟨[0],[],1⟩:n5)]) (ess:=[[row 1 intI [0],.imm (.val nL),int 1]]) Z Z Z Z Z Z Z ⟨⟨.inl Z,.inr ⟨Z,_,Z⟩,.inl Z,Y⟩,Y⟩ Z Z Z (W.build Z Z Z Z (.frzV (id:=3) (l:=[(⟨[0],[],1⟩:n5)]) (env2:=[(0,.c (.ptr 0 0 0)),(1,.c (.own 1 0 ([0].length))),(5,.agg [.imm (.val nL),row 3 w9 ([(⟨[0],[],1⟩:n5)]),int 1])]) (σ2:=[.one (.cells 4 [[int 0,.imm (.val nL),.imm (.val nL),.imm (.val nL)]]),.one (vec 1 intI [0]),.dead,.dead]) Z Z (by exact⟨⟨_,Z,.inl ⟨Z,Z⟩⟩,⟨_,Z,.inl ⟨Z,Z⟩⟩,⟨_,Z,⟨.inl ⟨Z,Z⟩,.inr ⟨_,Z,Z,Z⟩,.inl ⟨Z,Z⟩,Y⟩⟩,Y⟩) Z (by exact⟨⟨Z,.inl ⟨Z,Z⟩,.inl ⟨Z,Z⟩,.inl ⟨Z,Z⟩,.inl ⟨Z,Z⟩,Y⟩,FrzB.vec,trivial,trivial,Y⟩) (S.lit (f:=o8) (l:=[(⟨[],[(⟨[0],[],1⟩:n5)],1⟩:i5)]) (ess:=[[.imm (.val nL),row 3 w9 ([(⟨[0],[],1⟩:n5)]),int 1]]) Z Z Z Z Z Z Z ⟨⟨.inr ⟨Z,_,Z⟩,.inl Z,.inl Z,Y⟩,Y⟩ Z Z Z (W.build Z Z Z Z (W.storeAgg Z Z Z Z Z Z Z (.nil (b5 (.frzV (id:=1) (l:=[0]) (env2:=[(0,.c (.ptr 0 0 0))]) (σ2:=[.one (.cells 4 [[int 1,.imm (.val nL),row 1 intI [0],.own 4 0 (([(⟨[],[(⟨[0],[],1⟩:n5)],1⟩:i5)]).length)]]),.dead,.dead,.dead,.one (vec 3 o8 ([(⟨[],[(⟨[0],[],1⟩:n5)],1⟩:i5)]))]) Z Z (by exact⟨⟨_,Z,.inl ⟨Z,Z⟩⟩,Y⟩) Z (by exact⟨⟨Z,.inl ⟨Z,Z⟩,.inl ⟨Z,Z⟩,.inr ⟨_,Z,Z,Z⟩,.inl ⟨Z,Z⟩,Y⟩,trivial,trivial,trivial,FrzB.vec,Y⟩) (.frzV (id:=4) (l:=[(⟨[],[(⟨[0],[],1⟩:n5)],1⟩:i5)]) (env2:=[(0,.c (.ptr 0 0 0))]) (σ2:=[.one (.cells 4 [[int 1,.imm (.val nL),row 1 intI [0],row 3 o8 ([(⟨[],[(⟨[0],[],1⟩:n5)],1⟩:i5)])]]),.dead,.dead,.dead,.dead]) Z Z (by exact⟨⟨_,Z,.inl ⟨Z,Z⟩⟩,Y⟩) Z (by exact⟨⟨Z,.inl ⟨Z,Z⟩,.inl ⟨Z,Z⟩,.inl ⟨Z,Z⟩,.inr ⟨_,Z,Z,Z⟩,Y⟩,trivial,trivial,trivial,trivial,Y⟩) (.nilB (b:=0) [int 1,row 1 intI [],row 1 intI [0],row 3 o8 ([(⟨[],[(⟨[0],[],1⟩:n5)],1⟩:i5)])] Z (by exact⟨.inl Z,.inr ⟨Z,_,Z⟩,.inl Z,.inl Z,Y⟩) Z Z (.ret ?_))))))))))))))))))))))
 obtain rfl:=oi h
 exact Done.ret Z Z
theorem m5{l:Li}{nv:Int}{r:Bool}(h:x8 l nv=some r):e8 prog 56 [.c (row 1 intI l),.c (int nv)] (.c (bool r)):=by
 unfold e8
 refine FnOk.enter (rs:=[.t 4]) func56 Z ntmps56 results56 Z ⟨trivial,Y⟩ (by kernel_rfl) Z ?_
 unfold x8 at h
 refine AWP.q (.z (.u Z Z (.nil (b5 (.q (.q (.z (.j Z Z (S.len Z Z (fun hl8=>.j Z Z (.nil (b5 (.O ?_)))))))))))))
 obtain⟨oo,ho1,h⟩:=bind_some h
 refine AWP.rngS ho1 (fun t3 _=>⟨[(0,.c (row 1 intI l)),(1,.c (int nv)),(7,.c (row 1 intI l)),(8,.c (int (l.length:Int))),(9,.c (int t3))],[]⟩) (fun o e st=>match o with| .inl _=>e=.exit 0∧Sub [] st ⟨[],[]⟩| .inr x=>e=.ret∧Done [.t 4] (fun t _=>t=.c (bool x)) .ret st) ?_ ?_ ?_ ?_
 ·try dsimp only
  exact Sub.env ⟨Z,Z,Z,Z,Z,Y⟩
 ·intro t3 s hlot3 hltt3 _
  try dsimp only
  refine AWP.q (.z (.J Z Z Z (.nil (b5 (.q (.ae Z hltt3 (.exit (d8 (d8 ⟨Z,?_⟩)))))))))
  exact Sub.env trivial
 ·intro t3 s o hlot3 hltt3 h
  unfold Y0 at h
  try dsimp only at h ⊢
  refine AWP.q (.z (.J Z Z Z (.nil (b5 (.q (.af Z hltt3 (.skip (b5 (.q (.O (.q ?_)))))))))))
  obtain⟨a12,ha12,h⟩:=bind_some h
  refine AWP.z (.j Z Z (S.idx ha12 Z Z Z Z (.ad Z Z Z Z (.u Z Z (.u Z Z (.nil (b5 ?_)))))))
  obtain⟨t4,hx5,h⟩:=bind_some h
  refine AWP.seqJ (⟨[(0,.c (row 1 intI l)),(1,.c (int nv)),(7,.c (row 1 intI l)),(8,.c (int (l.length:Int))),(9,.c (int t3)),(33,.c (bool t4))],[]⟩) ?_ ?_
  ·rcases bft (decide (a12<0)) with hb6|hb6
   ·replace hx5:=J5 hb6 hx5
    refine AWP.z (.j Z Z (.J Z Z Z (.j Z Z (.E Z Z Z hb6 (.E Z Z Z hb6 (.E Z Z Z hb6 (.aa Z hb6 Z Z (.j Z Z (.E Z Z Z Z (.E Z Z Z Z (.E Z Z Z Z (.ah Z Z Z (.ah Z Z Z (.ah Z Z Z (.ah Z Z Z (.ah Z Z Z (.ah Z Z Z (.ah Z Z Z (.E Z Z Z Z (.aa Z Z Z Z (.nil ?_)))))))))))))))))))))
    obtain rfl:=oi hx5
    refine b5 (Sub.env ⟨Z,Z,Z,Z,Z,Z,Y⟩)
   ·replace hx5:=J9 hb6 hx5
    rcases bft (decide (nv≤a12)) with hb7|hb7
    ·replace hx5:=J5 hb7 hx5
     refine AWP.z (.j Z Z (.J Z Z Z (.j Z Z (.B Z Z Z hb6 (.j Z Z (.B Z Z Z hb6 (.j Z Z (.B Z Z Z hb6 (.geq Z Z Z (.ab Z hb6 Z Z (.j Z Z (.E Z Z Z hb7 (.E Z Z Z hb7 (.E Z Z Z hb7 (.ah Z Z Z (.ah Z Z Z (.ah Z Z Z (.ah Z Z Z (.ah Z Z Z (.ah Z Z Z (.ah Z Z Z (.E Z Z Z hb7 (.aa Z hb7 Z Z (.nil ?_))))))))))))))))))))))))
     obtain rfl:=oi hx5
     refine b5 (Sub.env ⟨Z,Z,Z,Z,Z,Z,Y⟩)
    ·replace hx5:=J9 hb7 hx5
     rcases bft (decide (0<t3)) with hb8|hb8
     ·replace hx5:=J5 hb8 hx5
      obtain⟨a29,ha29,hx5⟩:=bind_some hx5
      refine AWP.z (.j Z Z (.J Z Z Z (.j Z Z (.B Z Z Z hb6 (.j Z Z (.B Z Z Z hb6 (.j Z Z (.B Z Z Z hb6 (.geq Z Z Z (.ab Z hb6 Z Z (.j Z Z (.B Z Z Z hb7 (.j Z Z (.B Z Z Z hb7 (.gtr Z Z Z (.B Z Z Z hb7 (.j Z Z (.B Z Z Z hb8 (.j Z Z (.B Z Z Z hb8 (.j Z Z (.B Z Z Z hb8 (.j Z Z (.B Z Z Z hb8 (.sub' Z Z Z (by omega) (.B Z Z Z hb8 (S.idx ha29 Z Z Z Z (.B Z Z Z hb8 (.ad Z Z Z Z (.B Z Z Z hb8 (.leq Z Z Z (.B Z Z Z hb7 (.aa Z hb8 Z Z (.ab Z hb7 Z Z (.nil ?_)))))))))))))))))))))))))))))))))))
      obtain rfl:=oi hx5
      refine b5 (Sub.env ⟨Z,Z,Z,Z,Z,Z,Y⟩)
     ·replace hx5:=J9 hb8 hx5
      refine AWP.z (.j Z Z (.J Z Z Z (.j Z Z (.B Z Z Z hb6 (.j Z Z (.B Z Z Z hb6 (.j Z Z (.B Z Z Z hb6 (.geq Z Z Z (.ab Z hb6 Z Z (.j Z Z (.B Z Z Z hb7 (.j Z Z (.B Z Z Z hb7 (.gtr Z Z Z (.B Z Z Z hb7 (.j Z Z (.E Z Z Z hb8 (.E Z Z Z hb8 (.E Z Z Z hb8 (.E Z Z Z hb8 (.E Z Z Z hb8 (.E Z Z Z hb8 (.E Z Z Z hb8 (.B Z Z Z hb7 (.ab Z hb8 Z Z (.ab Z hb7 Z Z (.nil ?_))))))))))))))))))))))))))))
      obtain rfl:=oi hx5
      refine b5 (Sub.env ⟨Z,Z,Z,Z,Z,Z,Y⟩)
  ·refine AWP.ag Z h (fun hc9 h=> ?_) (fun hc9 h=> ?_)
   ·refine AWP.q (.z (.u Z Z (.nil (b5 (.ret (i8 (e7 ?_)))))))
    obtain rfl:=oi h
    refine e7 ⟨_,Z,Z,?_⟩
    exact Done.ret Z Z
   ·refine AWP.skip (d6 (b5 (.z (.add Z Z Z (by omega) (.j Z Z (.nil ?_))))))
    obtain rfl:=oi h
    refine b5 ⟨_,Z,?_⟩
    exact Sub.env ⟨Z,Z,Z,Z,Z,Y⟩
 ·intro e s hq
  rcases oo with u|x
  ·try dsimp only at h hq
   obtain⟨rfl,hs⟩:=hq
   refine⟨_,hs,?_⟩
   refine g8 (b5 (.q (.z (.u Z Z (.nil (b5 (.ret ?_)))))))
   obtain rfl:=oi h
   exact Done.ret Z Z
  ·try dsimp only at h hq
   obtain⟨rfl,hs⟩:=hq
   refine⟨_,Sub.refl _ _,?_⟩
   refine i8 (e7 ?_)
   obtain rfl:=oi h
   exact hs
theorem F9{xv:Int}{r:Bool}(h:cmp_isNaN_int xv=some r):e8 prog 124 [.c (int xv)] (.c (bool r)):=by
 unfold e8
 refine FnOk.enter (rs:=[.t 2]) func124 Z ntmps124 results124 Z ⟨trivial,Y⟩ (by kernel_rfl) Z ?_
 unfold cmp_isNaN_int at h
 refine AWP.q (.z (.u Z Z (.nil (b5 (.q (.z (.j Z Z (.j Z Z (.neq Z Z Z (.u Z Z (.nil (b5 (.ret ?_)))))))))))))
 obtain rfl:=oi h
 exact Done.ret Z Z
theorem cmp_Less_int_ok{xv:Int}{yv:Int}{r:Bool}(h:aa9 xv yv=some r):e8 prog 119 [.c (int xv),.c (int yv)] (.c (bool r)):=by
 unfold e8
 refine FnOk.enter (rs:=[.t 4]) func119 Z ntmps119 results119 Z ⟨trivial,Y⟩ (by kernel_rfl) Z ?_
 unfold aa9 at h
 refine AWP.q (.z (.u Z Z (.nil (b5 ?_))))
 obtain⟨t3,hx4,h⟩:=bind_some h
 refine AWP.seqJ (⟨[(4,.c (bool t3))],[]⟩) ?_ ?_
 ·obtain⟨a6,ha6,hx4⟩:=bind_some hx4
  rcases bft (a6) with hb5|hb5
  ·replace hx4:=ac2 hb5 hx4
   obtain⟨a9,ha9,hx4⟩:=bind_some hx4
   rcases bft (!a9) with hb6|hb6
   ·replace hx4:=ac2 hb6 hx4
    refine AWP.z (.j Z Z (.U Z Z Z Z (F9 ha6) Z (.j Z Z (.B Z Z Z hb5 (.j Z Z (.B Z Z Z hb5 (.U Z Z Z Z (F9 ha9) Z (.B Z Z Z hb5 (.not Z Z (.aa Z hb5 Z Z (.j Z Z (.E Z Z Z hb6 (.E Z Z Z hb6 (.E Z Z Z hb6 (.aa Z hb6 Z Z (.u Z Z (.nil ?_)))))))))))))))))
    obtain rfl:=oi hx4
    refine b5 (Sub.env ⟨Z,Y⟩)
   ·replace hx4:=ac1 hb6 hx4
    refine AWP.z (.j Z Z (.U Z Z Z Z (F9 ha6) Z (.j Z Z (.B Z Z Z hb5 (.j Z Z (.B Z Z Z hb5 (.U Z Z Z Z (F9 ha9) Z (.B Z Z Z hb5 (.not Z Z (.aa Z hb5 Z Z (.j Z Z (.B Z Z Z hb6 (.j Z Z (.B Z Z Z hb6 (.j Z Z (.B Z Z Z hb6 (.J Z Z Z (.ab Z hb6 Z Z (.u Z Z (.nil ?_))))))))))))))))))))
    obtain rfl:=oi hx4
    refine b5 (Sub.env ⟨Z,Y⟩)
  ·replace hx4:=ac1 hb5 hx4
   refine AWP.z (.j Z Z (.U Z Z Z Z (F9 ha6) Z (.j Z Z (.E Z Z Z hb5 (.E Z Z Z hb5 (.E Z Z Z hb5 (.ab Z hb5 Z Z (.j Z Z (.B Z Z Z Z (.j Z Z (.B Z Z Z Z (.j Z Z (.B Z Z Z Z (.J Z Z Z (.ab Z Z Z Z (.u Z Z (.nil ?_)))))))))))))))))
   obtain rfl:=oi hx4
   refine b5 (Sub.env ⟨Z,Y⟩)
 ·refine AWP.ret ?_
  obtain rfl:=oi h
  exact Done.ret Z Z
theorem X4{xv:Int}{r:Bool}(h:P8 xv=some r):e8 prog 120 [.c (int xv)] (.c (bool r)):=by
 unfold e8
 refine FnOk.enter (rs:=[.t 2]) func120 Z ntmps120 results120 Z ⟨trivial,Y⟩ (by kernel_rfl) Z ?_
 unfold P8 at h
 refine AWP.q (.z (.u Z Z (.nil (b5 (.q (.z (.j Z Z (.j Z Z (.neq Z Z Z (.u Z Z (.nil (b5 (.ret ?_)))))))))))))
 obtain rfl:=oi h
 exact Done.ret Z Z
theorem S9{xv:Li}{target:Int}{r:Int×Bool}(h:w6 xv target=some r):e8 prog 86 [.c (row 1 intI xv),.c (int target)] (.tup [.c (int r.1),.c (bool r.2)]):=by
 unfold e8
 refine FnOk.enter (rs:=[.t 4,.t 5]) func86 Z ntmps86 results86 Z ⟨trivial,trivial,Y⟩ (by kernel_rfl) Z ?_
 unfold w6 at h
 refine AWP.q (.z (.u Z Z (.u Z Z (.nil (b5 (.q (.z (.j Z Z (S.len Z Z (fun hl11=>.u Z Z (.nil (b5 (.q (.z (.j Z Z (.u Z Z (.u Z Z (.nil (b5 (.q (.O ?_)))))))))))))))))))))
 obtain⟨iv5,ho1,h⟩:=bind_some h
 refine AWP.loopS ho1 (fun(iv3,j4)=>⟨[(0,.c (row 1 intI xv)),(1,.c (int target)),(6,.c (int (xv.length:Int))),(7,.c (int iv3)),(8,.c (int j4))],[]⟩) (fun iv5 e st=>e=.exit 0∧Sub [] st ⟨[(0,.c (row 1 intI xv)),(1,.c (int target)),(6,.c (int (xv.length:Int))),(7,.c (int iv5))],[]⟩) ?_ ?_ ?_
 ·try dsimp only
  exact Sub.env ⟨Z,Z,Z,Z,Z,Y⟩
 ·intro s o h
  obtain⟨iv3,j4⟩:=s
  unfold C2 at h
  try dsimp only at h ⊢
  refine AWP.q (.q (.z (.j Z Z (.j Z Z (.J Z Z Z (.nil (b5 (.ite Z h (fun hc6 h=> ?_) (fun hc6 h=> ?_)))))))))
  ·refine AWP.skip (b5 (.O (.q (.z (.j Z Z (.j Z Z (S.add Z Z Z (.convInt Z Z (.shr Z Z Z (by first|decide|omega) Z (.convInt Z Z (.u Z Z (.nil (b5 (.q ?_))))))))))))))
   obtain⟨a24,ha24,a27,ha27,h⟩:=b2 h
   refine AWP.z (.j Z Z (.j Z Z (S.idx ha24 Z Z Z Z (.ad Z Z Z Z (.j Z Z (.U Z Z Z Z (cmp_Less_int_ok ha27) Z (.nil (b5 (.ag Z h (fun hc7 h=> ?_) (fun hc7 h=> ?_))))))))))
   ·refine AWP.z (.j Z Z (S.add Z Z Z (.u Z Z (.nil (d6 ?_)))))
    obtain rfl:=oi h
    refine b5 ⟨_,Z,?_⟩
    exact Sub.env ⟨Z,Z,Z,Z,Z,Y⟩
   ·refine AWP.z (.j Z Z (.u Z Z (.nil (d6 ?_))))
    obtain rfl:=oi h
    refine b5 ⟨_,Z,?_⟩
    exact Sub.env ⟨Z,Z,Z,Z,Z,Y⟩
  ·refine AWP.exit (d8 ?_)
   obtain rfl:=oi h
   refine d8 ⟨_,Z,Z,?_⟩
   exact Sub.env ⟨Z,Z,Z,Z,Y⟩
 ·intro e s hq
  obtain⟨rfl,hs⟩:=hq
  refine⟨_,hs,?_⟩
  refine g8 (b5 ?_)
  obtain⟨t8,hx9,h⟩:=bind_some h
  refine AWP.seqJ (⟨[(4,.c (int iv5)),(5,.c (bool t8))],[]⟩) ?_ ?_
  ·rcases bft (decide (iv5<(xv.length:Int))) with hb10|hb10
   ·replace hx9:=J5 hb10 hx9
    obtain⟨a38,ha38,hx9⟩:=bind_some hx9
    rcases bft (decide (a38=target)) with hb11|hb11
    ·replace hx9:=J5 hb11 hx9
     refine AWP.z (.j Z Z (.j Z Z (.j Z Z (.J Z Z Z (.j Z Z (.B Z Z Z hb10 (.j Z Z (.B Z Z Z hb10 (.j Z Z (.B Z Z Z hb10 (S.idx ha38 Z Z Z Z (.B Z Z Z hb10 (.ad Z Z Z Z (.B Z Z Z hb10 (.j Z Z (.B Z Z Z hb10 (.eql Z Z Z (.B Z Z Z hb10 (.j Z Z (.E Z Z Z hb11 (.E Z Z Z hb11 (.E Z Z Z hb11 (.E Z Z Z hb11 (.E Z Z Z hb11 (.E Z Z Z hb11 (.ah Z Z Z (.ah Z Z Z (.E Z Z Z hb11 (.B Z Z Z hb10 (.aa Z hb11 Z Z (.aa Z hb10 Z Z (.u Z Z (.u Z Z (.nil ?_))))))))))))))))))))))))))))))))))
     obtain rfl:=oi hx9
     refine b5 (Sub.env ⟨Z,Z,Y⟩)
    ·replace hx9:=J9 hb11 hx9
     obtain⟨a45,ha45,a47,ha47,hx9⟩:=b2 hx9
     rcases bft (a47) with hb12|hb12
     ·replace hx9:=ac2 hb12 hx9
      obtain⟨a50,ha50,hx9⟩:=bind_some hx9
      refine AWP.z (.j Z Z (.j Z Z (.j Z Z (.J Z Z Z (.j Z Z (.B Z Z Z hb10 (.j Z Z (.B Z Z Z hb10 (.j Z Z (.B Z Z Z hb10 (S.idx ha38 Z Z Z Z (.B Z Z Z hb10 (.ad Z Z Z Z (.B Z Z Z hb10 (.j Z Z (.B Z Z Z hb10 (.eql Z Z Z (.B Z Z Z hb10 (.j Z Z (.B Z Z Z hb11 (.j Z Z (.B Z Z Z hb11 (.j Z Z (.B Z Z Z hb11 (S.idx ha45 Z Z Z Z (.B Z Z Z hb11 (.ad Z Z Z Z (.B Z Z Z hb11 (.U Z Z Z Z (X4 ha47) Z (.B Z Z Z hb11 (.j Z Z (.B Z Z Z hb12 (.j Z Z (.B Z Z Z hb12 (.U Z Z Z Z (X4 ha50) Z (.B Z Z Z hb11 (.aa Z hb12 Z Z (.B Z Z Z hb10 (.ab Z hb11 Z Z (.aa Z hb10 Z Z (.u Z Z (.u Z Z (.nil ?_)))))))))))))))))))))))))))))))))))))))))))
      obtain rfl:=oi hx9
      refine b5 (Sub.env ⟨Z,Z,Y⟩)
     ·replace hx9:=ac1 hb12 hx9
      refine AWP.z (.j Z Z (.j Z Z (.j Z Z (.J Z Z Z (.j Z Z (.B Z Z Z hb10 (.j Z Z (.B Z Z Z hb10 (.j Z Z (.B Z Z Z hb10 (S.idx ha38 Z Z Z Z (.B Z Z Z hb10 (.ad Z Z Z Z (.B Z Z Z hb10 (.j Z Z (.B Z Z Z hb10 (.eql Z Z Z (.B Z Z Z hb10 (.j Z Z (.B Z Z Z hb11 (.j Z Z (.B Z Z Z hb11 (.j Z Z (.B Z Z Z hb11 (S.idx ha45 Z Z Z Z (.B Z Z Z hb11 (.ad Z Z Z Z (.B Z Z Z hb11 (.U Z Z Z Z (X4 ha47) Z (.B Z Z Z hb11 (.j Z Z (.E Z Z Z hb12 (.E Z Z Z hb12 (.B Z Z Z hb11 (.ab Z hb12 Z Z (.B Z Z Z hb10 (.ab Z hb11 Z Z (.aa Z hb10 Z Z (.u Z Z (.u Z Z (.nil ?_)))))))))))))))))))))))))))))))))))))))))
      obtain rfl:=oi hx9
      refine b5 (Sub.env ⟨Z,Z,Y⟩)
   ·replace hx9:=J9 hb10 hx9
    refine AWP.z (.j Z Z (.j Z Z (.j Z Z (.J Z Z Z (.j Z Z (.E Z Z Z hb10 (.E Z Z Z hb10 (.E Z Z Z hb10 (.E Z Z Z hb10 (.E Z Z Z hb10 (.E Z Z Z hb10 (.E Z Z Z hb10 (.ah Z Z Z (.ah Z Z Z (.ah Z Z Z (.ah Z Z Z (.ah Z Z Z (.ah Z Z Z (.ah Z Z Z (.ah Z Z Z (.ah Z Z Z (.E Z Z Z hb10 (.ab Z hb10 Z Z (.u Z Z (.u Z Z (.nil ?_))))))))))))))))))))))))))
    obtain rfl:=oi hx9
    refine b5 (Sub.env ⟨Z,Z,Y⟩)
  ·refine AWP.ret ?_
   obtain rfl:=oi h
   exact Done.ret Z Z
theorem ay3{xv:Int}{c2:Li}{r:Bool}(h:ac0 xv c2=some r):e8 prog 127 [.c (int xv),.c (.imm (.ipt [.sl 1 (List.map intI c2)]))] (.c (bool r)):=by
 unfold e8
 refine FnOk.enter (rs:=[.t 3]) func127 Z ntmps127 results127 Z ⟨trivial,Y⟩ (by kernel_rfl) Z ?_
 unfold ac0 at h
 refine AWP.q (.z (.u Z Z (.nil (b5 (.q ?_)))))
 obtain⟨a9,ha9,h⟩:=bind_some h
 refine AWP.z (.ad Z Z Z Z (.j Z Z (.U Z Z Z Z (S9 ha9) Z (.j Z Z (.ac Z Z Z (.ac Z Z Z (.u Z Z (.u Z Z (.nil (b5 (.q (.z (.j Z Z (.u Z Z (.nil (b5 (.ret ?_)))))))))))))))))
 obtain rfl:=oi h
 exact Done.ret Z Z
theorem ak9{sv:Li}{fv:Int→Option Bool}{r:Int}{fvfv:FuncId}{cvfv:List C}(hcvfv:C.okL 0 cvfv=true)(hfv:∀{y1:Int} {z:Bool},fv y1=some z→e8 prog fvfv ([.c (int y1)]++cvfv.map T.c) (.c (bool z)))(h:G8 sv fv=some r):e8 prog 153 [.c (row 1 intI sv),.c (.fn fvfv cvfv)] (.c (int r)):=by
 unfold e8
 refine FnOk.enter (rs:=[.t 4]) func153 Z ntmps153 results153 Z ⟨trivial,Y⟩ (by kernel_rfl) Z ?_
 unfold G8 at h
 refine AWP.q (.z (.u Z Z (.nil (b5 (.q (.q (.z (.j Z Z (S.len Z Z (fun hl7=>.j Z Z (.nil (b5 (.O ?_)))))))))))))
 obtain⟨oo,ho1,h⟩:=bind_some h
 refine AWP.rngS ho1 (fun t3 _=>⟨[(0,.c (row 1 intI sv)),(1,.c (.fn fvfv cvfv)),(7,.c (int (sv.length:Int))),(8,.c (int t3))],[]⟩) (fun o e st=>match o with| .inl _=>e=.exit 0∧Sub [] st ⟨[],[]⟩| .inr x=>e=.ret∧Done [.t 4] (fun t _=>t=.c (int x)) .ret st) ?_ ?_ ?_ ?_
 ·try dsimp only
  exact Sub.env ⟨Z,Z,Z,Z,Y⟩
 ·intro t3 s hlot3 hltt3 _
  try dsimp only
  refine AWP.q (.z (.J Z Z Z (.nil (b5 (.q (.ae Z hltt3 (.exit (d8 (d8 ⟨Z,?_⟩)))))))))
  exact Sub.env trivial
 ·intro t3 s o hlot3 hltt3 h
  unfold E9 at h
  try dsimp only at h ⊢
  refine AWP.q (.z (.J Z Z Z (.nil (b5 (.q (.af Z hltt3 (.skip (b5 (.q (.O (.q (.z (.j Z Z (.u Z Z (.nil (b5 (.q ?_)))))))))))))))))
  obtain⟨a14,ha14,a16,ha16,h⟩:=b2 h
  refine AWP.z (.j Z Z (.j Z Z (.j Z Z (S.idx ha14 Z Z Z Z (.ad Z Z Z Z (.U Z Z (ak0 Z hcvfv) Z (hfv ha16) Z (.nil (b5 (.ag Z h (fun hc4 h=> ?_) (fun hc4 h=> ?_))))))))))
  ·refine AWP.q (.z (.j Z Z (.u Z Z (.nil (b5 (.ret (i8 (e7 ?_))))))))
   obtain rfl:=oi h
   refine e7 ⟨_,Z,Z,?_⟩
   exact Done.ret Z Z
  ·refine AWP.skip (d6 (b5 (.z (.add Z Z Z (by omega) (.j Z Z (.nil ?_))))))
   obtain rfl:=oi h
   refine b5 ⟨_,Z,?_⟩
   exact Sub.env ⟨Z,Z,Z,Z,Y⟩
 ·intro e s hq
  rcases oo with u|x
  ·try dsimp only at h hq
   obtain⟨rfl,hs⟩:=hq
   refine⟨_,hs,?_⟩
   refine g8 (b5 (.q (.z (.u Z Z (.nil (b5 (.ret ?_)))))))
   obtain rfl:=oi h
   exact Done.ret Z Z
  ·try dsimp only at h hq
   obtain⟨rfl,hs⟩:=hq
   refine⟨_,Sub.refl _ _,?_⟩
   refine i8 (e7 ?_)
   obtain rfl:=oi h
   exact hs
theorem ai4{sv:Li}{fv:Int→Option Bool}{r:Bool}{fvfv:FuncId}{cvfv:List C}(hcvfv:C.okL 0 cvfv=true)(hfv:∀{y1:Int} {z:Bool},fv y1=some z→e8 prog fvfv ([.c (int y1)]++cvfv.map T.c) (.c (bool z)))(h:B2 sv fv=some r):e8 prog 126 [.c (row 1 intI sv),.c (.fn fvfv cvfv)] (.c (bool r)):=by
 unfold e8
 refine FnOk.enter (rs:=[.t 4]) func126 Z ntmps126 results126 Z ⟨trivial,Y⟩ (by kernel_rfl) Z ?_
 unfold B2 at h
 refine AWP.q (.z (.u Z Z (.nil (b5 (.q ?_)))))
 obtain⟨a7,ha7,h⟩:=bind_some h
 refine AWP.z (.j Z Z (.j Z Z (.U Z Z (by simp[T.okL,T.ok,C.ok,C.okL,hcvfv]) Z (ak9 hcvfv hfv ha7) Z (.geq Z Z Z (.u Z Z (.nil (b5 (.ret ?_))))))))
 obtain rfl:=oi h
 exact Done.ret Z Z
theorem ar2{av:Li}{bv:Li}{r:Bool}(h:V2 av bv=some r):e8 prog 99 [.c (row 1 intI av),.c (row 1 intI bv)] (.c (bool r)):=by
 unfold e8
 refine FnOk.enter (rs:=[.t 4]) func99 Z ntmps99 results99 Z ⟨trivial,Y⟩ (by kernel_rfl) Z ?_
 unfold V2 at h
 refine AWP.q (.z (W.box Z Z Z Z Z Z (.u Z Z (.nil (b5 (.q ?_))))))
 obtain⟨a7,ha7,h⟩:=bind_some h
 refine AWP.z (.j Z Z (.makeFunc Z Z (.callL Z Z (.cons (.c .imm) (.cons (.c (.fn (.cons (.ptr (es:=[.sl 1 (List.map intI bv)]) Z Z (.cons .imm .nil)) .nil))) .nil)) Z (ai4 Z (fun hy=>ay3 hy) ha7) Z ?_)))
 refine AOps.u Z Z (.nil (b5 (.ret ?_)))
 obtain rfl:=oi h
 exact Done.ret Z Z
theorem au4{ov:i5}{facts:Int}{r:Int}(h:N2 ov facts=some r):e8 prog 57 [.agg [row 1 intI ov.pre,row 3 w9 ov.outcomes,int ov.cost],.c (int facts)] (.c (int r)):=by
 unfold e8
 refine FnOk.enter (rs:=[.t 4]) func57 Z ntmps57 results57 Z ⟨trivial,Y⟩ (by kernel_rfl) Z ?_
 unfold N2 at h
 refine AWP.q (.z (W.box Z Z Z Z Z Z (.u Z Z (.nil (b5 (.q (.O (.q ?_))))))))
 obtain⟨a11,ha11,h⟩:=bind_some h
 refine AWP.z (W.fieldAddr Z Z Z Z (.F Z Z Z Z Z Z (.j Z Z (.U Z Z Z Z (m5 ha11) Z (.not Z Z (.u Z Z (.nil (b5 (.ag Z h (fun hc3 h=> ?_) (fun hc3 h=> ?_))))))))))
 ·refine AWP.q (.z (.u Z Z (.nil (b5 (.ret (i8 (e7 ?_)))))))
  obtain rfl:=oi h
  exact Done.ret Z Z
 ·refine AWP.seqJ (⟨[(1,.c (int facts)),(2,.c (.ptr 0 0 0)),(13,.c (bool ((decide (ov.cost<0))||(decide (100<ov.cost)))))],[.one (.cells 3 [[row 1 intI ov.pre,row 3 w9 ov.outcomes,int ov.cost]])]⟩) ?_ ?_
  ·rcases bft (decide (ov.cost<0)) with hb1|hb1
   ·refine AWP.z (W.fieldAddr Z Z Z Z (.F Z Z Z Z Z Z (.J Z Z Z (.j Z Z (.E Z Z Z hb1 (.E Z Z Z hb1 (.E Z Z Z hb1 (.aa Z hb1 Z Z (.u Z Z (.nil (b5 ?_)))))))))))
    simp only[O3 hb1,or_t hb1,Bool.false_or,Bool.true_or,Bool.false_and,Bool.true_and]
    exact Sub.env ⟨Z,Z,Z,Y⟩
   ·refine AWP.z (W.fieldAddr Z Z Z Z (.F Z Z Z Z Z Z (.J Z Z Z (.j Z Z (.B Z Z Z hb1 (W.fieldAddr Z Z Z Z (.B Z Z Z hb1 (.F Z Z Z Z Z Z (.B Z Z Z hb1 (.gtr Z Z Z (.ab Z hb1 Z Z (.u Z Z (.nil (b5 ?_))))))))))))))
    simp only[J7 hb1,or_f hb1,Bool.false_or,Bool.true_or,Bool.false_and,Bool.true_and]
    exact Sub.env ⟨Z,Z,Z,Y⟩
  ·refine AWP.ag Z h (fun hc4 h=> ?_) (fun hc4 h=> ?_)
   ·refine AWP.q (.z (.u Z Z (.nil (b5 (.ret (i8 (e7 ?_)))))))
    obtain rfl:=oi h
    exact Done.ret Z Z
   ·refine AWP.seqJ (⟨[(1,.c (int facts)),(2,.c (.ptr 0 0 0)),(22,.c (bool ((decide ((ov.outcomes.length:Int)=0))||(decide (4<(ov.outcomes.length:Int))))))],[.one (.cells 3 [[row 1 intI ov.pre,row 3 w9 ov.outcomes,int ov.cost]])]⟩) ?_ ?_
    ·rcases bft (decide ((ov.outcomes.length:Int)=0)) with hb1|hb1
     ·refine AWP.z (W.fieldAddr Z Z Z Z (.F Z Z Z Z Z Z (S.len Z Z (fun hl25=>.eql Z Z Z (.j Z Z (.E Z Z Z hb1 (.E Z Z Z hb1 (.E Z Z Z hb1 (.E Z Z Z hb1 (.aa Z hb1 Z Z (.u Z Z (.nil (b5 ?_)))))))))))))
      simp only[O3 hb1,or_t hb1,Bool.false_or,Bool.true_or,Bool.false_and,Bool.true_and]
      exact Sub.env ⟨Z,Z,Z,Y⟩
     ·refine AWP.z (W.fieldAddr Z Z Z Z (.F Z Z Z Z Z Z (S.len Z Z (fun hl25=>.eql Z Z Z (.j Z Z (.B Z Z Z hb1 (W.fieldAddr Z Z Z Z (.B Z Z Z hb1 (.F Z Z Z Z Z Z ?_)))))))))
      refine AOps.B Z Z Z hb1 ?_;refine S.len Z Z (fun hl30=> ?_)
      refine AOps.B Z Z Z hb1 (.gtr Z Z Z (.ab Z hb1 Z Z (.u Z Z (.nil (b5 ?_)))))
      simp only[J7 hb1,or_f hb1,Bool.false_or,Bool.true_or,Bool.false_and,Bool.true_and]
      exact Sub.env ⟨Z,Z,Z,Y⟩
    ·refine AWP.ag Z h (fun hc5 h=> ?_) (fun hc5 h=> ?_)
     ·refine AWP.q (.z (.u Z Z (.nil (b5 (.ret (i8 (e7 ?_)))))))
      obtain rfl:=oi h
      exact Done.ret Z Z
     ·refine AWP.skip (d6 (b5 (.q (.q (.z (W.fieldAddr Z Z Z Z (.F Z Z Z Z Z Z (S.len Z Z (fun hl35=>.j Z Z (.nil (b5 (.O ?_))))))))))))
      obtain⟨oo,ho1,h⟩:=bind_some h
      refine AWP.rngS ho1 (fun t6 _=>⟨[(1,.c (int facts)),(34,.c (row 3 w9 ov.outcomes)),(35,.c (int (ov.outcomes.length:Int))),(36,.c (int t6))],[]⟩) (fun o e st=>match o with| .inl _=>e=.exit 1∧Sub [] st ⟨[],[]⟩| .inr x=>e=.ret∧Done [.t 4] (fun t _=>t=.c (int x)) .ret st) ?_ ?_ ?_ ?_
      ·try dsimp only
       exact Sub.cut ⟨Z,Z,Z,Z,Y⟩ Z trivial Z
      ·intro t6 s hlot6 hltt6 _
       try dsimp only
       refine AWP.q (.z (.J Z Z Z (.nil (b5 (.q (.ae Z hltt6 (.exit (d8 (d8 ⟨Z,?_⟩)))))))))
       exact Sub.env trivial
      ·intro t6 s o hlot6 hltt6 h
       unfold G7 at h
       try dsimp only at h ⊢
       refine AWP.q (.z (.J Z Z Z (.nil (b5 (.q (.af Z hltt6 (.skip (b5 (.q (.O (.q ?_)))))))))))
       obtain⟨a38,ha38,h⟩:=bind_some h
       refine AWP.z (S.idx ha38 Z Z Z Z (W.loadIAgg Z Z Z Z Z (W.alloc Z Z Z Z (W.storeAgg Z Z Z Z Z Z Z (.nil (b5 (.O ?_)))))))
       obtain⟨t7,hx8,h⟩:=bind_some h
       refine AWP.seqJ (⟨[(1,.c (int facts)),(6,.c (.ptr 0 0 0)),(34,.c (row 3 w9 ov.outcomes)),(35,.c (int (ov.outcomes.length:Int))),(36,.c (int t6)),(40,.c (bool t7))],[.one (.cells 3 [[row 1 intI a38.add,row 1 intI a38.del,int a38.weight]])]⟩) ?_ ?_
       ·obtain⟨a44,ha44,hx8⟩:=bind_some hx8
        rcases bft (!a44) with hb9|hb9
        ·replace hx8:=ac2 hb9 hx8
         refine AWP.z (W.fieldAddr Z Z Z Z (.F Z Z Z Z Z Z (.j Z Z (.U Z Z Z Z (m5 ha44) Z (.not Z Z (.j Z Z (.E Z Z Z hb9 (.E Z Z Z hb9 (.E Z Z Z hb9 (.E Z Z Z hb9 (.E Z Z Z hb9 (.aa Z hb9 Z Z (.j Z Z (.E Z Z Z Z (.E Z Z Z Z (.E Z Z Z Z (.E Z Z Z Z (.E Z Z Z Z (.aa Z Z Z Z (.u Z Z (.nil ?_)))))))))))))))))))))
         obtain rfl:=oi hx8
         refine b5 (Sub.env ⟨Z,Z,Z,Z,Z,Z,Y⟩)
        ·replace hx8:=ac1 hb9 hx8
         obtain⟨a50,ha50,hx8⟩:=bind_some hx8
         rcases bft (!a50) with hb10|hb10
         ·replace hx8:=ac2 hb10 hx8
          refine AWP.z (W.fieldAddr Z Z Z Z (.F Z Z Z Z Z Z (.j Z Z (.U Z Z Z Z (m5 ha44) Z (.not Z Z (.j Z Z (.B Z Z Z hb9 (W.fieldAddr Z Z Z Z (.B Z Z Z hb9 (.F Z Z Z Z Z Z (.B Z Z Z hb9 (.j Z Z (.B Z Z Z hb9 (.U Z Z Z Z (m5 ha50) Z (.B Z Z Z hb9 (.not Z Z (.ab Z hb9 Z Z (.j Z Z (.E Z Z Z hb10 (.E Z Z Z hb10 (.E Z Z Z hb10 (.E Z Z Z hb10 (.E Z Z Z hb10 (.aa Z hb10 Z Z (.u Z Z (.nil ?_))))))))))))))))))))))))))
          obtain rfl:=oi hx8
          refine b5 (Sub.env ⟨Z,Z,Z,Z,Z,Z,Y⟩)
         ·replace hx8:=ac1 hb10 hx8
          obtain⟨a58,ha58,hx8⟩:=bind_some hx8
          refine AWP.z (W.fieldAddr Z Z Z Z (.F Z Z Z Z Z Z (.j Z Z (.U Z Z Z Z (m5 ha44) Z (.not Z Z (.j Z Z (.B Z Z Z hb9 (W.fieldAddr Z Z Z Z (.B Z Z Z hb9 (.F Z Z Z Z Z Z (.B Z Z Z hb9 (.j Z Z (.B Z Z Z hb9 (.U Z Z Z Z (m5 ha50) Z (.B Z Z Z hb9 (.not Z Z (.ab Z hb9 Z Z (.j Z Z (.B Z Z Z hb10 (W.fieldAddr Z Z Z Z (.B Z Z Z hb10 (.F Z Z Z Z Z Z (.B Z Z Z hb10 (W.fieldAddr Z Z Z Z (.B Z Z Z hb10 (.F Z Z Z Z Z Z (.B Z Z Z hb10 (.U Z Z Z Z (ar2 ha58) Z (.ab Z hb10 Z Z (.u Z Z (.nil ?_)))))))))))))))))))))))))))))))
          obtain rfl:=oi hx8
          refine b5 (Sub.env ⟨Z,Z,Z,Z,Z,Z,Y⟩)
       ·refine AWP.ag Z h (fun hc11 h=> ?_) (fun hc11 h=> ?_)
        ·refine AWP.q (.z (.u Z Z (.nil (b5 (.ret (i8 (i8 (e7 ?_))))))))
         obtain rfl:=oi h
         refine e7 ⟨_,Z,Z,?_⟩
         exact Done.ret Z Z
        ·refine AWP.seqJ (⟨[(1,.c (int facts)),(34,.c (row 3 w9 ov.outcomes)),(35,.c (int (ov.outcomes.length:Int))),(36,.c (int t6)),(60,.c (bool ((decide (a38.weight<1))||(decide (6<a38.weight)))))],[.one (.cells 3 [[row 1 intI a38.add,row 1 intI a38.del,int a38.weight]])]⟩) ?_ ?_
         ·rcases bft (decide (a38.weight<1)) with hb1|hb1
          ·refine AWP.z (W.fieldAddr Z Z Z Z (.F Z Z Z Z Z Z (.J Z Z Z (.j Z Z (.E Z Z Z hb1 (.E Z Z Z hb1 (.E Z Z Z hb1 (.aa Z hb1 Z Z (.u Z Z (.nil (b5 ?_)))))))))))
           simp only[O3 hb1,or_t hb1,Bool.false_or,Bool.true_or,Bool.false_and,Bool.true_and]
           exact Sub.env ⟨Z,Z,Z,Z,Z,Y⟩
          ·refine AWP.z (W.fieldAddr Z Z Z Z (.F Z Z Z Z Z Z (.J Z Z Z (.j Z Z (.B Z Z Z hb1 (W.fieldAddr Z Z Z Z (.B Z Z Z hb1 (.F Z Z Z Z Z Z (.B Z Z Z hb1 (.gtr Z Z Z (.ab Z hb1 Z Z (.u Z Z (.nil (b5 ?_))))))))))))))
           simp only[J7 hb1,or_f hb1,Bool.false_or,Bool.true_or,Bool.false_and,Bool.true_and]
           exact Sub.env ⟨Z,Z,Z,Z,Z,Y⟩
         ·refine AWP.ag Z h (fun hc12 h=> ?_) (fun hc12 h=> ?_)
          ·refine AWP.q (.z (.u Z Z (.nil (b5 (.ret (i8 (i8 (e7 ?_))))))))
           obtain rfl:=oi h
           refine e7 ⟨_,Z,Z,?_⟩
           exact Done.ret Z Z
          ·refine AWP.skip (d6 (d6 (b5 (.z (.add Z Z Z (by omega) (.j Z Z (.nil ?_)))))))
           obtain rfl:=oi h
           refine b5 ⟨_,Z,?_⟩
           exact Sub.cut ⟨Z,Z,Z,Z,Y⟩ Z trivial Z
      ·intro e s hq
       rcases oo with u|x
       ·try dsimp only at h hq
        obtain⟨rfl,hs⟩:=hq
        refine⟨_,hs,?_⟩
        refine g8 (b5 (.q (.z (.u Z Z (.nil (b5 (.ret ?_)))))))
        obtain rfl:=oi h
        exact Done.ret Z Z
       ·try dsimp only at h hq
        obtain⟨rfl,hs⟩:=hq
        refine⟨_,Sub.refl _ _,?_⟩
        refine i8 (e7 ?_)
        obtain rfl:=oi h
        exact hs
theorem ae2{ov:d4}{r:k6}(h:D2 ov=some r):e8 prog 26 [.agg (tO ov)] (.agg [int r.code,int r.index]):=by
 unfold e8
 refine FnOk.enter (rs:=[.cell 2 32 2]) func26 Z ntmps26 results26 Z ⟨rv _ Z,Y⟩ (by kernel_rfl) Z ?_
 unfold D2 at h
 refine AWP.q (.z (W.box Z Z Z Z Z Z (W.alloc Z Z Z Z (.nil (b5 (.q (.O (.seqJ (⟨[(1,.c (.ptr 0 0 0)),(2,.c (.ptr 1 0 0)),(6,.c (bool ((decide (ov.facts<0))||(decide (24<ov.facts)))))],[.one (.cells 4 [(tO ov)]),.one (.cells 2 [[int 0,int 0]])]⟩) ?_ ?_))))))))
 ·rcases bft (decide (ov.facts<0)) with hb1|hb1
  ·refine AWP.z (W.fieldAddr Z Z Z Z (.F Z Z Z Z Z Z (.J Z Z Z (.j Z Z (.E Z Z Z hb1 (.E Z Z Z hb1 (.E Z Z Z hb1 (.aa Z hb1 Z Z (.u Z Z (.nil (b5 ?_)))))))))))
   simp only[O3 hb1,or_t hb1,Bool.false_or,Bool.true_or,Bool.false_and,Bool.true_and]
   exact Sub.env ⟨Z,Z,Z,Y⟩
  ·refine AWP.z (W.fieldAddr Z Z Z Z (.F Z Z Z Z Z Z (.J Z Z Z (.j Z Z (.B Z Z Z hb1 (W.fieldAddr Z Z Z Z (.B Z Z Z hb1 (.F Z Z Z Z Z Z (.B Z Z Z hb1 (.gtr Z Z Z (.ab Z hb1 Z Z (.u Z Z (.nil (b5 ?_))))))))))))))
   simp only[J7 hb1,or_f hb1,Bool.false_or,Bool.true_or,Bool.false_and,Bool.true_and]
   exact Sub.env ⟨Z,Z,Z,Y⟩
 ·refine AWP.ag Z h (fun hc2 h=> ?_) (fun hc2 h=> ?_)
  ·refine AWP.q (.z (W.build Z Z Z Z (W.storeAgg Z Z Z Z Z Z Z (.nil (b5 (.ret (i8 (e7 ?_))))))))
   obtain rfl:=oi h
   exact Done.ret Z Z
  ·refine AWP.q ?_
   obtain⟨a21,ha21,h⟩:=bind_some h
   refine AWP.z (W.fieldAddr Z Z Z Z (.F Z Z Z Z Z Z (W.fieldAddr Z Z Z Z (.F Z Z Z Z Z Z (.U Z Z Z Z (m5 ha21) Z (.not Z Z (.u Z Z (.nil (b5 (.ag Z h (fun hc3 h=> ?_) (fun hc3 h=> ?_)))))))))))
   ·refine AWP.q (.z (W.build Z Z Z Z (W.storeAgg Z Z Z Z Z Z Z (.nil (b5 (.ret (i8 (e7 ?_))))))))
    obtain rfl:=oi h
    exact Done.ret Z Z
   ·refine AWP.q ?_
    obtain⟨a29,ha29,h⟩:=bind_some h
    refine AWP.z (W.fieldAddr Z Z Z Z (.F Z Z Z Z Z Z (W.fieldAddr Z Z Z Z (.F Z Z Z Z Z Z (.U Z Z Z Z (m5 ha29) Z (.not Z Z (.u Z Z (.nil (b5 (.ag Z h (fun hc4 h=> ?_) (fun hc4 h=> ?_)))))))))))
    ·refine AWP.q (.z (W.build Z Z Z Z (W.storeAgg Z Z Z Z Z Z Z (.nil (b5 (.ret (i8 (e7 ?_))))))))
     obtain rfl:=oi h
     exact Done.ret Z Z
    ·refine AWP.q (.z (W.fieldAddr Z Z Z Z (.F Z Z Z Z Z Z (S.len Z Z (fun hl35=>.gtr Z Z Z (.u Z Z (.nil (b5 (.ite Z h (fun hc5 h=> ?_) (fun hc5 h=> ?_))))))))))
     ·refine AWP.q (.z (W.build Z Z Z Z (W.storeAgg Z Z Z Z Z Z Z (.nil (b5 (.ret (i8 (e7 ?_))))))))
      obtain rfl:=oi h
      exact Done.ret Z Z
     ·refine AWP.skip (d6 (b5 (.q (.q (.z (W.fieldAddr Z Z Z Z (.F Z Z Z Z Z Z (S.len Z Z (fun hl40=>.j Z Z (.nil (b5 (.O ?_))))))))))))
      obtain⟨oo,ho1,h⟩:=bind_some h
      refine AWP.rngS ho1 (fun t6 _=>⟨[(1,.c (.ptr 0 0 0)),(2,.c (.ptr 1 0 0)),(39,.c (row 3 o8 ov.operators)),(40,.c (int (ov.operators.length:Int))),(41,.c (int t6))],[.one (.cells 4 [(tO ov)]),.one (.cells 2 [[int 0,int 0]])]⟩) (fun o e st=>match o with| .inl _=>e=.exit 1∧Sub [] st ⟨[(2,.c (.ptr 1 0 0))],[.one (.cells 4 [(tO ov)]),.one (.cells 2 [[int 0,int 0]])]⟩| .inr x=>e=.ret∧Done [.cell 2 32 2] (fun t _=>t=.agg [int x.code,int x.index]) .ret st) ?_ ?_ ?_ ?_
      ·try dsimp only
       exact Sub.env ⟨Z,Z,Z,Z,Z,Y⟩
      ·intro t6 s hlot6 hltt6 _
       try dsimp only
       refine AWP.q (.z (.J Z Z Z (.nil (b5 (.q (.ae Z hltt6 (.exit (d8 (d8 ⟨Z,?_⟩)))))))))
       exact Sub.env ⟨Z,Y⟩
      ·intro t6 s o hlot6 hltt6 h
       unfold Q0 at h
       try dsimp only at h ⊢
       refine AWP.q (.z (.J Z Z Z (.nil (b5 (.q (.af Z hltt6 (.skip (b5 (.q (.O (.q ?_)))))))))))
       obtain⟨a44,ha44,h⟩:=bind_some h
       refine AWP.z (.j Z Z (S.idx ha44 Z Z Z Z (W.loadIAgg Z Z Z Z Z (W.alloc Z Z Z Z (.u Z Z (W.storeAgg Z Z Z Z Z Z Z (.nil (b5 (.q ?_)))))))))
       obtain⟨a49,ha49,h⟩:=bind_some h
       refine AWP.z (W.loadAgg Z Z Z Z Z Z Z (W.fieldAddr Z Z Z Z (.F Z Z Z Z Z Z (.U Z Z Z Z (au4 ha49) Z (.u Z Z (.nil (b5 (.q (.z (.j Z Z (.neq Z Z Z (.nil (b5 (.iteN Z h (fun hc7 h=> ?_) (fun hc7 h=> ?_)))))))))))))))
       ·refine AWP.q (.z (.j Z Z (.j Z Z (W.build Z Z Z Z (W.storeAgg Z Z Z Z Z Z Z (.nil (b5 (.ret (i8 (e7 ?_))))))))))
        obtain rfl:=oi h
        refine e7 ⟨_,Z,Z,?_⟩
        exact Done.ret Z Z
       ·refine AWP.skip (d6 (b5 (.z (.add Z Z Z (by omega) (.j Z Z (.nil ?_))))))
        obtain rfl:=oi h
        refine b5 ⟨_,Z,?_⟩
        exact Sub.cut ⟨Z,Z,Z,Z,Z,Y⟩ Z ⟨.one Z,.one Z,Y⟩ Z
      ·intro e s hq
       rcases oo with u|x
       ·try dsimp only at h hq
        obtain⟨rfl,hs⟩:=hq
        refine⟨_,hs,?_⟩
        refine g8 (b5 (.q (.z (W.build Z Z Z Z (W.storeAgg Z Z Z Z Z Z Z (.nil (b5 (.ret ?_))))))))
        obtain rfl:=oi h
        exact Done.ret Z Z
       ·try dsimp only at h hq
        obtain⟨rfl,hs⟩:=hq
        refine⟨_,Sub.refl _ _,?_⟩
        refine i8 (e7 ?_)
        obtain rfl:=oi h
        exact hs
theorem am4{iv:Int}{r:ByteArray}(h:internal_strconv_small iv=some r):e8 prog 172 [.c (int iv)] (.c (.imm (.val (.string r)))):=by
 unfold e8
 refine FnOk.enter (rs:=[.t 2]) func172 Z ntmps172 results172 Z ⟨trivial,Y⟩ (by kernel_rfl) Z ?_
 unfold internal_strconv_small at h
 refine AWP.q (.z (.u Z Z (.nil (b5 (.q (.q (.z (.j Z Z (.J Z Z Z (.nil (b5 (.ite Z h (fun hc2 h=> ?_) (fun hc2 h=> ?_)))))))))))))
 ·refine AWP.q ?_
  obtain⟨a8,ha8,h⟩:=bind_some h
  refine AWP.z (.j Z Z (.j Z Z (S.add Z Z Z (S.subStr ha8 Z Z Z Z (.u Z Z (.nil (b5 (.ret (e7 ?_)))))))))
  obtain rfl:=oi h
  exact Done.ret Z Z
 ·refine AWP.skip (b5 (.q ?_))
  obtain⟨a14,ha14,h⟩:=bind_some h
  refine AWP.z (.j Z Z (S.mul Z Z Z (.j Z Z (S.mul Z Z Z (S.add Z Z Z (S.subStr ha14 Z Z Z Z (.u Z Z (.nil (b5 (.ret ?_))))))))))
  obtain rfl:=oi h
  exact Done.ret Z Z
theorem ac4{iv:Int}{base:Int}{l:Li}{r:Li}(h:C0 iv base l=some r):FnOk prog 159 [.c (.own 0 0 l.length),.c (.imm (.val (.int .u64 iv))),.c (int base)] (ad0 iv base l) (fun tt ss=>tt=.c (.own 2 0 r.length)∧ss=[.dead,.dead,.one (vec 1 eU8 r)]):=by
 refine FnOk.enter (rs:=[.t 6]) func159 Z ntmps159 results159 Z ⟨trivial,Y⟩ (by kernel_rfl) Z ?_
 refine AWP.weak ?_
 unfold C0 at h
 refine AWP.j (env':=[(0,.c (.own 1 0 l.length)),(1,.c (.imm (.val (.int .u64 iv)))),(2,.c (int base))]) (σ':=[.dead,.one (vec 1 eU8 l)]) 1 0 Z Z Z ⟨Z,Z,Z,Y⟩ Z ⟨trivial,⟨Blk.im_ok _ _ _,i6 Z⟩,Y⟩ (.q (.z (.u Z Z (.nil (b5 (.q (.q (.z (.j Z Z (.eql Z Z Z (.nil (b5 (.ite Z h (fun hc55 h=> ?_) (fun hc55 h=> ?_))))))))))))))
 ·refine AWP.q (.q (.z (.j Z Z (.J Z Z Z (.nil (b5 (.ite Z h (fun hc56 h=> ?_) (fun hc56 h=> ?_))))))))
  ·refine AWP.q ?_
   obtain⟨a16,ha16,a17,ha17,h⟩:=b2 h
   refine AWP.z (.j Z Z (.j Z Z (.convInt Z Z (.U Z Z Z Z (am4 ha16) Z (S.appendStr ha17 Z Z Z Z Z Z Z Z Z Z (.u Z Z (.nil (b5 (.ret (e7 (e7 ?_)))))))))))
   obtain rfl:=oi h
   exact⟨⟨[(6,.c (.own 2 0 a17.length))],[.dead,.dead,.one (vec 1 eU8 a17)]⟩,Sub.env ⟨Z,Y⟩,Done.ret Z ⟨Z,Z⟩⟩
  ·cases h
 ·cases h
theorem ae6{iv:Int}{base:Int}{l:Li}{r:Li}(h:C6 iv base l=some r):FnOk prog 142 [.c (.own 0 0 l.length),.c (int iv),.c (int base)] (ae8 iv base l) (fun tt ss=>tt=.c (.own 3 0 r.length)∧ss=[.dead,.dead,.dead,.one (vec 1 eU8 r)]):=by
 refine FnOk.enter (rs:=[.t 6]) func142 Z ntmps142 results142 Z ⟨trivial,Y⟩ (by kernel_rfl) Z ?_
 refine AWP.weak ?_
 unfold C6 at h
 refine AWP.j (env':=[(0,.c (.own 1 0 l.length)),(1,.c (int iv)),(2,.c (int base))]) (σ':=[.dead,.one (vec 1 eU8 l)]) 1 0 Z Z Z ⟨Z,Z,Z,Y⟩ Z ⟨trivial,⟨Blk.im_ok _ _ _,i6 Z⟩,Y⟩ (.q (.z (.u Z Z (.nil (b5 (.q (.z (.j Z Z (.convInt Z Z (.u Z Z (.nil (b5 ?_))))))))))))
 obtain⟨u,hx55,h⟩:=bind_some h
 refine AWP.seqJ (⟨[(0,.c (.own 1 0 l.length)),(2,.c (int base)),(7,.c (.imm (.val (.int .u64 ((IntKind.u64).wrap iv)))))],[.dead,.one (vec 1 eU8 l)]⟩) ?_ ?_
 ·refine AWP.q (.z (.j Z Z (.J Z Z Z (.nil (b5 (.ite Z hx55 (fun hc56 hx55=> ?_) (fun hc56 hx55=> ?_)))))))
  ·cases hx55
  ·refine AWP.skip ?_
   obtain rfl:=oi hx55
   refine b5 (Sub.env ⟨Z,Z,Z,Y⟩)
 ·try dsimp only at h
  refine AWP.q ?_
  obtain⟨a20,ha20,h⟩:=bind_some h
  refine AWP.z (.j Z Z (.j Z Z (.j Z Z (.callF (r2:=.c (.own 3 0 a20.length)) (σ'':=[.dead,.dead,.dead,.one (vec 1 eU8 a20)]) Z Z Z (FnOk.lend [1] (ac4 ha20) Z Z Z Z Z Z (by exact⟨.vec,Y⟩) Z (by exact⟨(.live Z .vec),Y⟩) Z Z (by exact⟨.dead,.dead,.dead,(.new 2 Z Z .vec),Y⟩)) (.u Z Z (.nil (b5 (.ret ?_))))))))
  obtain rfl:=oi h
  exact⟨⟨[(6,.c (.own 3 0 a20.length))],[.dead,.dead,.dead,.one (vec 1 eU8 a20)]⟩,Sub.env ⟨Z,Y⟩,Done.ret Z ⟨Z,Z⟩⟩
theorem aq4{iv:Int}{base:Int}{l:Li}{r:Li}(h:E0 iv base l=some r):FnOk prog 111 [.c (.own 0 0 l.length),.c (int iv),.c (int base)] (aq6 iv base l) (fun tt ss=>tt=.c (.own 4 0 r.length)∧ss=[.dead,.dead,.dead,.dead,.one (vec 1 eU8 r)]):=by
 refine FnOk.enter (rs:=[.t 6]) func111 Z ntmps111 results111 Z ⟨trivial,Y⟩ (by kernel_rfl) Z ?_
 refine AWP.weak ?_
 unfold E0 at h
 refine AWP.j (env':=[(0,.c (.own 1 0 l.length)),(1,.c (int iv)),(2,.c (int base))]) (σ':=[.dead,.one (vec 1 eU8 l)]) 1 0 Z Z Z ⟨Z,Z,Z,Y⟩ Z ⟨trivial,⟨Blk.im_ok _ _ _,i6 Z⟩,Y⟩ (.q (.z (.u Z Z (.nil (b5 (.q ?_))))))
 obtain⟨a10,ha10,h⟩:=bind_some h
 refine AWP.z (.j Z Z (.j Z Z (.j Z Z (.callF (r2:=.c (.own 4 0 a10.length)) (σ'':=[.dead,.dead,.dead,.dead,.one (vec 1 eU8 a10)]) Z Z Z (FnOk.lend [1] (ae6 ha10) Z Z Z Z Z Z (by exact⟨.vec,Y⟩) Z (by exact⟨(.live Z .vec),Y⟩) Z Z (by exact⟨.dead,.dead,.dead,.dead,(.new 3 Z Z .vec),Y⟩)) (.u Z Z (.nil (b5 (.ret ?_))))))))
 obtain rfl:=oi h
 exact⟨⟨[(6,.c (.own 4 0 a10.length))],[.dead,.dead,.dead,.dead,.one (vec 1 eU8 a10)]⟩,Sub.env ⟨Z,Y⟩,Done.ret Z ⟨Z,Z⟩⟩
theorem aw2{l:LL}{r:ByteArray}(h:V8 l=some r):e8 prog 74 [.c (row 1 e9 l)] (.c (.imm (.val (.string r)))):=by
 unfold e8
 refine FnOk.enter (rs:=[.t 2]) func74 Z ntmps74 results74 Z ⟨trivial,Y⟩ (by kernel_rfl) Z ?_
 unfold V8 at h
 refine AWP.q (.z (.u Z Z (.nil (b5 (.q (.z (.u Z Z (.nil (b5 (.q (.q (.z (.j Z Z (S.len Z Z (fun hl9=>.j Z Z (.nil (b5 (.O (.virtV 1 eU8 3 Z Z Z ?_)))))))))))))))))))
 obtain⟨c2,ho1,h⟩:=bind_some h
 refine AWP.forS ho1 (fun t3 c2=>⟨[(3,.c (.own 0 0 c2.length)),(8,.c (row 1 e9 l)),(9,.c (int (l.length:Int))),(10,.c (int t3))],[.one (vec 1 eU8 c2)]⟩) (fun c2 e st=>e=.exit 0∧Sub [] st ⟨[(3,.c (.own 0 0 c2.length))],[.one (vec 1 eU8 c2)]⟩) ?_ ?_ ?_ ?_
 ·try dsimp only
  exact Sub.env ⟨(J3 (by first|rfl|simp only[lS])),Z,Z,Z,Y⟩
 ·intro t3 c2 hlot3 hltt3 _
  try dsimp only
  refine AWP.q (.z (.J Z Z Z (.nil (b5 (.q (.ae Z hltt3 (.exit (d8 (d8 ⟨Z,?_⟩)))))))))
  exact Sub.env ⟨Z,Y⟩
 ·intro t3 c2 o hlot3 hltt3 h
  unfold al6 at h
  try dsimp only at h ⊢
  refine AWP.q (.z (.J Z Z Z (.nil (b5 (.q (.af Z hltt3 (.skip (b5 (.q (.O (.q ?_)))))))))))
  obtain⟨a12,ha12,h⟩:=bind_some h
  refine AWP.z (S.idx ha12 Z Z Z Z (.ad Z Z Z Z (.u Z Z (.nil (b5 (.q (.q (.z (.j Z Z (S.len Z Z (fun hl15=>.j Z Z (.nil (b5 (.O ?_))))))))))))))
  obtain⟨c4,ho2,h⟩:=bind_some h
  refine AWP.forS ho2 (fun t5 c4=>⟨[(3,.c (.own 0 0 c4.length)),(8,.c (row 1 e9 l)),(9,.c (int (l.length:Int))),(10,.c (int t3)),(14,.c (row 1 intI a12)),(15,.c (int (a12.length:Int))),(16,.c (int t5))],[.one (vec 1 eU8 c4)]⟩) (fun c4 e st=>e=.exit 2∧Sub [] st ⟨[(3,.c (.own 0 0 c4.length)),(8,.c (row 1 e9 l)),(9,.c (int (l.length:Int))),(10,.c (int t3))],[.one (vec 1 eU8 c4)]⟩) ?_ ?_ ?_ ?_
  ·try dsimp only
   exact Sub.env ⟨Z,Z,Z,Z,Z,Z,Z,Y⟩
  ·intro t5 c4 hlot5 hltt5 _
   try dsimp only
   refine AWP.q (.z (.J Z Z Z (.nil (b5 (.q (.ae Z hltt5 (.exit (d8 (d8 ⟨Z,?_⟩)))))))))
   exact Sub.env ⟨Z,Z,Z,Z,Y⟩
  ·intro t5 c4 o hlot5 hltt5 h
   unfold am1 at h
   try dsimp only at h ⊢
   refine AWP.q (.z (.J Z Z Z (.nil (b5 (.q (.af Z hltt5 (.skip (b5 (.q (.O (.q ?_)))))))))))
   obtain⟨a18,ha18,h⟩:=bind_some h
   refine AWP.z (S.idx ha18 Z Z Z Z (.ad Z Z Z Z (.u Z Z (.nil (b5 ?_)))))
   obtain⟨a22,ha22,a24,ha24,h⟩:=b2 h
   refine AWP.z (.j Z Z (.j Z Z (.callF (r2:=.c (.own 4 0 a22.length)) (σ'':=[.dead,.dead,.dead,.dead,.one (vec 1 eU8 a22)]) Z Z Z (FnOk.lend [0] (aq4 ha22) Z Z Z Z Z Z (by exact⟨.vec,Y⟩) Z (by exact⟨(.live Z .vec),Y⟩) Z Z (by exact⟨.dead,.dead,.dead,.dead,(.new 4 Z Z .vec),Y⟩)) (S.lit (f:=eU8) (l:=[44]) (ess:=[[.imm (.val (.int .u8 44))]]) Z Z Z Z Z Z Z ⟨⟨.inl Z,Y⟩,Y⟩ Z Z Z (S.append (f:=eU8) ha24 Z Z Z Z Z Z (.own Z Z) Z Z Z Z (.u Z Z (.nil (d6 (b5 (.j (env':=[(3,.c (.own 4 0 a24.length)),(8,.c (row 1 e9 l)),(9,.c (int (l.length:Int))),(10,.c (int t3)),(14,.c (row 1 intI a12)),(15,.c (int (a12.length:Int))),(16,.c (int t5))]) (σ':=[.dead,.dead,.dead,.dead,.one (vec 1 eU8 a24),.one (vec 1 eU8 [44])]) 4 6 Z Z Z ⟨Z,Z,Z,Z,Z,Z,Z,Y⟩ Z ⟨trivial,trivial,trivial,trivial,⟨Blk.im_ok _ _ _,i6 Z⟩,⟨Blk.im_ok _ _ _,i6 Z⟩,Y⟩ (.z (.add Z Z Z (by omega) (.j Z Z (.nil ?_))))))))))))))
   obtain rfl:=oi h
   refine b5 ((Sub.move (env':=[(3,.c (.own 0 0 a24.length)),(8,.c (row 1 e9 l)),(9,.c (int (l.length:Int))),(10,.c (int t3)),(14,.c (row 1 intI a12)),(15,.c (int (a12.length:Int))),(16,.c (int (t5+1)))]) (σ':=[.one (vec 1 eU8 a24),.dead,.dead,.dead,.dead,.one (vec 1 eU8 [44])]) 0 4 Z Z Z ⟨Z,Z,Z,Z,Z,Z,Z,Y⟩ Z ⟨⟨Blk.im_ok _ _ _,i6 Z⟩,trivial,trivial,trivial,trivial,⟨Blk.im_ok _ _ _,i6 Z⟩,Y⟩).trans (Sub.cut ⟨Z,Z,Z,Z,Z,Z,Z,Y⟩ Z ⟨.vec,Y⟩ Z))
  ·intro e s hq
   obtain⟨rfl,hs⟩:=hq
   refine⟨_,hs,?_⟩
   refine g8 (b5 ?_)
   obtain⟨a28,ha28,h⟩:=bind_some h
   refine AWP.z (.j Z Z (S.lit (f:=eU8) (l:=[59]) (ess:=[[.imm (.val (.int .u8 59))]]) Z Z Z Z Z Z Z ⟨⟨.inl Z,Y⟩,Y⟩ Z Z Z (S.append (f:=eU8) ha28 Z Z Z Z Z Z (.own Z Z) Z Z Z Z (.u Z Z (.nil (d6 (b5 (.j (env':=[(3,.c (.own 0 0 a28.length)),(8,.c (row 1 e9 l)),(9,.c (int (l.length:Int))),(10,.c (int t3))]) (σ':=[.one (vec 1 eU8 a28),.one (vec 1 eU8 [59])]) 0 2 Z Z Z ⟨Z,Z,Z,Z,Y⟩ Z ⟨⟨Blk.im_ok _ _ _,i6 Z⟩,⟨Blk.im_ok _ _ _,i6 Z⟩,Y⟩ (.z (.add Z Z Z (by omega) (.j Z Z (.nil ?_))))))))))))
   obtain rfl:=oi h
   refine b5 (Sub.cut ⟨Z,Z,Z,Z,Y⟩ Z ⟨.vec,Y⟩ Z)
 ·intro e s hq
  obtain⟨rfl,hs⟩:=hq
  refine⟨_,hs,?_⟩
  refine g8 (b5 (.q (.z (.j Z Z (S.bytesStr Z Z Z Z (.u Z Z (.nil (b5 (.ret ?_)))))))))
  obtain rfl:=oi h
  exact Done.ret Z Z
theorem G0{sv:Li}{part:Li}{r:Bool}(h:z7 sv part=some r):e8 prog 37 [.c (row 1 intI sv),.c (row 1 intI part)] (.c (bool r)):=by
 unfold e8
 refine FnOk.enter (rs:=[.t 4]) func37 Z ntmps37 results37 Z ⟨trivial,Y⟩ (by kernel_rfl) Z ?_
 unfold z7 at h
 refine AWP.q (.z (.u Z Z (.nil (b5 (.q (.z (.u Z Z (.nil (b5 (.q (.q (.z (.j Z Z (S.len Z Z (fun hl9=>.j Z Z (.nil (b5 (.O ?_))))))))))))))))))
 obtain⟨oo,ho1,h⟩:=bind_some h
 refine AWP.rngS ho1 (fun t4 iv3=>⟨[(0,.c (row 1 intI sv)),(5,.c (int iv3)),(8,.c (row 1 intI part)),(9,.c (int (part.length:Int))),(10,.c (int t4))],[]⟩) (fun o e st=>match o with| .inl iv3=>e=.exit 0∧Sub [] st ⟨[],[]⟩| .inr x=>e=.ret∧Done [.t 4] (fun t _=>t=.c (bool x)) .ret st) ?_ ?_ ?_ ?_
 ·try dsimp only
  exact Sub.env ⟨Z,Z,Z,Z,Z,Y⟩
 ·intro t4 iv3 hlot4 hltt4 _
  try dsimp only
  refine AWP.q (.z (.J Z Z Z (.nil (b5 (.q (.ae Z hltt4 (.exit (d8 (d8 ⟨Z,?_⟩)))))))))
  exact Sub.env trivial
 ·intro t4 iv3 o hlot4 hltt4 h
  unfold T0 at h
  try dsimp only at h ⊢
  refine AWP.q (.z (.J Z Z Z (.nil (b5 (.q (.af Z hltt4 (.skip (b5 (.q (.O (.q ?_)))))))))))
  obtain⟨a12,ha12,h⟩:=bind_some h
  refine AWP.z (S.idx ha12 Z Z Z Z (.ad Z Z Z Z (.u Z Z (.nil (b5 (.q (.O ?_)))))))
  obtain⟨iv6,ho2,h⟩:=bind_some h
  refine AWP.loopS ho2 (fun iv5=>⟨[(0,.c (row 1 intI sv)),(5,.c (int iv5)),(7,.c (int a12)),(8,.c (row 1 intI part)),(9,.c (int (part.length:Int))),(10,.c (int t4))],[]⟩) (fun iv6 e st=>e=.exit 2∧Sub [] st ⟨[(0,.c (row 1 intI sv)),(5,.c (int iv6)),(7,.c (int a12)),(8,.c (row 1 intI part)),(9,.c (int (part.length:Int))),(10,.c (int t4))],[]⟩) ?_ ?_ ?_
  ·try dsimp only
   exact Sub.env ⟨Z,Z,Z,Z,Z,Z,Y⟩
  ·intro iv5 o h
   unfold K6 at h
   try dsimp only at h ⊢
   refine AWP.q ?_
   obtain⟨t7,hx8,h⟩:=bind_some h
   refine AWP.seqJ (⟨[(0,.c (row 1 intI sv)),(5,.c (int iv5)),(7,.c (int a12)),(8,.c (row 1 intI part)),(9,.c (int (part.length:Int))),(10,.c (int t4)),(25,.c (bool t7))],[]⟩) ?_ ?_
   ·rcases bft (decide (iv5<(sv.length:Int))) with hb9|hb9
    ·replace hx8:=J5 hb9 hx8
     obtain⟨a21,ha21,hx8⟩:=bind_some hx8
     refine AWP.z (.j Z Z (.j Z Z (S.len Z Z (fun hl16=>.J Z Z Z (.j Z Z (.B Z Z Z hb9 (.j Z Z (.B Z Z Z hb9 (.j Z Z (.B Z Z Z hb9 (S.idx ha21 Z Z Z Z (.B Z Z Z hb9 (.ad Z Z Z Z (.B Z Z Z hb9 (.j Z Z (.B Z Z Z hb9 (.J Z Z Z (.aa Z hb9 Z Z (.nil ?_)))))))))))))))))))
     obtain rfl:=oi hx8
     refine b5 (Sub.env ⟨Z,Z,Z,Z,Z,Z,Z,Y⟩)
    ·replace hx8:=J9 hb9 hx8
     refine AWP.z (.j Z Z (.j Z Z (S.len Z Z (fun hl16=>.J Z Z Z (.j Z Z (.E Z Z Z hb9 (.E Z Z Z hb9 (.E Z Z Z hb9 (.E Z Z Z hb9 (.E Z Z Z hb9 (.E Z Z Z hb9 (.ab Z hb9 Z Z (.nil ?_)))))))))))))
     obtain rfl:=oi hx8
     refine b5 (Sub.env ⟨Z,Z,Z,Z,Z,Z,Z,Y⟩)
   ·refine AWP.ag Z h (fun hc10 h=> ?_) (fun hc10 h=> ?_)
    ·refine AWP.skip (b5 (.O (.z (.j Z Z (S.add Z Z Z (.u Z Z (.nil (d6 ?_))))))))
     obtain rfl:=oi h
     refine b5 ⟨_,Z,?_⟩
     exact Sub.env ⟨Z,Z,Z,Z,Z,Z,Y⟩
    ·refine AWP.exit (d8 ?_)
     obtain rfl:=oi h
     refine d8 ⟨_,Z,Z,?_⟩
     exact Sub.env ⟨Z,Z,Z,Z,Z,Z,Y⟩
  ·intro e s hq
   obtain⟨rfl,hs⟩:=hq
   refine⟨_,hs,?_⟩
   refine g8 (b5 ?_)
   obtain⟨t11,hx12,h⟩:=bind_some h
   refine AWP.seqJ (⟨[(0,.c (row 1 intI sv)),(5,.c (int iv6)),(8,.c (row 1 intI part)),(9,.c (int (part.length:Int))),(10,.c (int t4)),(39,.c (bool t11))],[]⟩) ?_ ?_
   ·rcases bft (decide (iv6=(sv.length:Int))) with hb13|hb13
    ·replace hx12:=J5 hb13 hx12
     refine AWP.z (.j Z Z (.j Z Z (S.len Z Z (fun hl30=>.eql Z Z Z (.j Z Z (.E Z Z Z hb13 (.E Z Z Z hb13 (.E Z Z Z hb13 (.E Z Z Z hb13 (.E Z Z Z hb13 (.E Z Z Z hb13 (.aa Z hb13 Z Z (.nil ?_)))))))))))))
     obtain rfl:=oi hx12
     refine b5 (Sub.env ⟨Z,Z,Z,Z,Z,Z,Y⟩)
    ·replace hx12:=J9 hb13 hx12
     obtain⟨a35,ha35,hx12⟩:=bind_some hx12
     refine AWP.z (.j Z Z (.j Z Z (S.len Z Z (fun hl30=>.eql Z Z Z (.j Z Z (.B Z Z Z hb13 (.j Z Z (.B Z Z Z hb13 (.j Z Z (.B Z Z Z hb13 (S.idx ha35 Z Z Z Z (.B Z Z Z hb13 (.ad Z Z Z Z (.B Z Z Z hb13 (.j Z Z (.B Z Z Z hb13 (.neq Z Z Z (.ab Z hb13 Z Z (.nil ?_)))))))))))))))))))
     obtain rfl:=oi hx12
     refine b5 (Sub.env ⟨Z,Z,Z,Z,Z,Z,Y⟩)
   ·refine AWP.ag Z h (fun hc14 h=> ?_) (fun hc14 h=> ?_)
    ·refine AWP.q (.z (.u Z Z (.nil (b5 (.ret (i8 (e7 ?_)))))))
     obtain rfl:=oi h
     refine e7 ⟨_,Z,Z,?_⟩
     exact Done.ret Z Z
    ·refine AWP.skip (d6 (b5 (.z (.add Z Z Z (by omega) (.j Z Z (.nil ?_))))))
     obtain rfl:=oi h
     refine b5 ⟨_,Z,?_⟩
     exact Sub.env ⟨Z,Z,Z,Z,Z,Y⟩
 ·intro e s hq
  rcases oo with iv3|x
  ·try dsimp only at h hq
   obtain⟨rfl,hs⟩:=hq
   refine⟨_,hs,?_⟩
   refine g8 (b5 (.q (.z (.u Z Z (.nil (b5 (.ret ?_)))))))
   obtain rfl:=oi h
   exact Done.ret Z Z
  ·try dsimp only at h hq
   obtain⟨rfl,hs⟩:=hq
   refine⟨_,Sub.refl _ _,?_⟩
   refine i8 (e7 ?_)
   obtain rfl:=oi h
   exact hs
theorem at2{ov:d4}{sv:Li}{op:Int}{r:Bool}(h:ab2 ov sv op=some r):e8 prog 55 [.agg (tO ov),.c (row 1 intI sv),.c (int op)] (.c (bool r)):=by
 unfold e8
 refine FnOk.enter (rs:=[.t 6]) func55 Z ntmps55 results55 Z ⟨trivial,Y⟩ (by kernel_rfl) Z ?_
 unfold ab2 at h
 refine AWP.q (.z (W.box Z Z Z Z Z Z (.u Z Z (.nil (b5 (.q ?_))))))
 obtain⟨a11,ha11,a14,ha14,h⟩:=b2 h
 refine AWP.z (.j Z Z (W.fieldAddr Z Z Z Z (.F Z Z Z Z Z Z (.j Z Z (S.idx ha11 Z Z Z Z (W.fieldAddrI Z Z Z Z (.ad Z Z Z Z (.U Z Z Z Z (G0 ha14) Z (.u Z Z (.nil (b5 (.ret ?_))))))))))))
 obtain rfl:=oi h
 exact Done.ret Z Z
theorem az1{sv:Li}{add:Li}{del:Li}{r:Li}(h:M6 sv add del=some r):r8 prog 41 [.c (row 1 intI sv),.c (row 1 intI add),.c (row 1 intI del)] 1 (List.map intI r):=by
 unfold r8
 refine FnOk.enter (rs:=[.t 6]) func41 Z ntmps41 results41 Z ⟨trivial,Y⟩ (by kernel_rfl) Z ?_
 unfold M6 at h
 refine AWP.q (.z (.u Z Z (.nil (b5 (.q (.z (.u Z Z (.nil (b5 (.q (.q (.z (.j Z Z (S.len Z Z (fun hl13=>.j Z Z (.nil (b5 (.O (.virtV 1 intI 7 Z Z Z ?_)))))))))))))))))))
 obtain⟨c4,ho1,h⟩:=bind_some h
 refine AWP.forS ho1 (fun t5 c4=>⟨[(1,.c (row 1 intI add)),(2,.c (row 1 intI del)),(7,.c (.own 0 0 c4.length)),(12,.c (row 1 intI sv)),(13,.c (int (sv.length:Int))),(14,.c (int t5))],[.one (vec 1 intI c4)]⟩) (fun c4 e st=>e=.exit 0∧Sub [] st ⟨[(1,.c (row 1 intI add)),(7,.c (.own 0 0 c4.length))],[.one (vec 1 intI c4)]⟩) ?_ ?_ ?_ ?_
 ·try dsimp only
  exact Sub.env ⟨Z,Z,(J3 (by first|rfl|simp only[lS])),Z,Z,Z,Y⟩
 ·intro t5 c4 hlot5 hltt5 _
  try dsimp only
  refine AWP.q (.z (.J Z Z Z (.nil (b5 (.q (.ae Z hltt5 (.exit (d8 (d8 ⟨Z,?_⟩)))))))))
  exact Sub.env ⟨Z,Z,Y⟩
 ·intro t5 c4 o hlot5 hltt5 h
  unfold af3 at h
  try dsimp only at h ⊢
  refine AWP.q (.z (.J Z Z Z (.nil (b5 (.q (.af Z hltt5 (.skip (b5 ?_))))))))
  obtain⟨c6,hx7,h⟩:=bind_some h
  refine AWP.seqJ (⟨[(1,.c (row 1 intI add)),(2,.c (row 1 intI del)),(7,.c (.own 2 0 c6.length)),(12,.c (row 1 intI sv)),(13,.c (int (sv.length:Int))),(14,.c (int t5))],[.dead,.dead,.one (vec 1 intI c6)]⟩) ?_ ?_
  ·refine AWP.O (.q ?_)
   obtain⟨a16,ha16,hx7⟩:=bind_some hx7
   refine AWP.z (S.idx ha16 Z Z Z Z (.ad Z Z Z Z (.u Z Z (.nil (b5 (.q ?_))))))
   obtain⟨a21,ha21,hx7⟩:=bind_some hx7
   refine AWP.z (.j Z Z (.j Z Z (.U Z Z Z Z (S9 ha21) Z (.j Z Z (.ac Z Z Z (.ac Z Z Z (.u Z Z (.u Z Z (.nil (b5 (.q (.z (.j Z Z (.not Z Z (.nil (b5 (.ag Z hx7 (fun hc8 hx7=> ?_) (fun hc8 hx7=> ?_))))))))))))))))))
   ·obtain⟨a29,ha29,hx7⟩:=bind_some hx7
    refine AWP.z (.j Z Z (.j Z Z (S.lit (f:=intI) (l:=[a16]) (ess:=[[int a16]]) Z Z Z Z Z Z Z ⟨⟨.inl Z,Y⟩,Y⟩ Z Z Z (S.append (f:=intI) ha29 Z Z Z Z Z Z (.own Z Z) Z Z Z Z (.u Z Z (.nil (d6 ?_)))))))
    obtain rfl:=oi hx7
    refine b5 (Sub.cut ⟨Z,Z,Z,Z,Z,Z,Y⟩ Z ⟨.dead,.dead,.vec,Y⟩ Z)
   ·refine AWP.skip (d6 ?_)
    obtain rfl:=oi hx7
    refine b5 ((Sub.move (env':=[(1,.c (row 1 intI add)),(2,.c (row 1 intI del)),(7,.c (.own 2 0 c4.length)),(12,.c (row 1 intI sv)),(13,.c (int (sv.length:Int))),(14,.c (int t5))]) (σ':=[.dead,.dead,.one (vec 1 intI c4)]) 2 0 Z Z Z ⟨Z,Z,Z,Z,Z,Z,Y⟩ Z ⟨trivial,trivial,⟨Blk.im_ok _ _ _,i6 Z⟩,Y⟩).trans (Sub.env ⟨Z,Z,Z,Z,Z,Z,Y⟩))
  ·refine AWP.z (.add Z Z Z (by omega) (.j Z Z (.nil ?_)))
   obtain rfl:=oi h
   refine b5 ((Sub.move (env':=[(1,.c (row 1 intI add)),(2,.c (row 1 intI del)),(7,.c (.own 0 0 c6.length)),(12,.c (row 1 intI sv)),(13,.c (int (sv.length:Int))),(14,.c (int (t5+1)))]) (σ':=[.one (vec 1 intI c6),.dead]) 0 2 Z Z Z ⟨Z,Z,Z,Z,Z,Z,Y⟩ Z ⟨⟨Blk.im_ok _ _ _,i6 Z⟩,trivial,Y⟩).trans (Sub.cut ⟨Z,Z,Z,Z,Z,Z,Y⟩ Z ⟨.vec,Y⟩ Z))
 ·intro e s hq
  obtain⟨rfl,hs⟩:=hq
  refine⟨_,hs,?_⟩
  refine g8 (b5 (.q ?_))
  obtain⟨a33,ha33,h⟩:=bind_some h
  refine AWP.z (.j Z Z (.j Z Z (S.append (f:=intI) ha33 Z Z Z Z Z Z .row Z Z Z Z (.u Z Z (.nil (b5 (.q (.j (env':=[(7,.c (.own 0 0 a33.length))]) (σ':=[.one (vec 1 intI a33)]) 0 1 Z Z Z ⟨Z,Y⟩ Z ⟨⟨Blk.im_ok _ _ _,i6 Z⟩,Y⟩ ?_))))))))
  obtain⟨a35,ha35,h⟩:=bind_some h
  refine AWP.z (.j Z Z (S.sort ha35 sortL_ok Z Z Z Z Z Z (.nil (b5 (.q (.z (.j Z Z (S.compact compactL_ok Z Z (sortL_len ha35) Z Z Z Z Z (.u Z Z (.nil (b5 (.ret ?_))))))))))))
  obtain rfl:=oi h
  exact Done.ret Z (Fresh.mk Z Z)
theorem aw9{xv:Int}{yv:Int}{r:Int}(h:cmp_Compare_int xv yv=some r):e8 prog 95 [.c (int xv),.c (int yv)] (.c (int r)):=by
 unfold e8
 refine FnOk.enter (rs:=[.t 4]) func95 Z ntmps95 results95 Z ⟨trivial,Y⟩ (by kernel_rfl) Z ?_
 unfold cmp_Compare_int at h
 refine AWP.q (.z (.u Z Z (.nil (b5 (.q ?_)))))
 obtain⟨a8,ha8,h⟩:=bind_some h
 refine AWP.z (.j Z Z (.U Z Z Z Z (F9 ha8) Z (.u Z Z (.nil (b5 (.q ?_))))))
 obtain⟨a10,ha10,h⟩:=bind_some h
 refine AWP.z (.j Z Z (.U Z Z Z Z (F9 ha10) Z (.u Z Z (.nil (b5 (.q (.q (.z (.j Z Z (.nil (b5 (.ag Z h (fun hc3 h=> ?_) (fun hc3 h=> ?_)))))))))))))
 ·refine AWP.q (.q (.z (.j Z Z (.nil (b5 (.ag Z h (fun hc4 h=> ?_) (fun hc4 h=> ?_)))))))
  ·refine AWP.q (.z (.u Z Z (.nil (b5 (.ret (e7 (e7 ?_)))))))
   obtain rfl:=oi h
   exact Done.ret Z Z
  ·refine AWP.skip (b5 (.q (.z (.u Z Z (.nil (b5 (.ret (e7 ?_))))))))
   obtain rfl:=oi h
   exact Done.ret Z Z
 ·refine AWP.skip (b5 (.q (.q (.z (.j Z Z (.nil (b5 (.ag Z h (fun hc5 h=> ?_) (fun hc5 h=> ?_)))))))))
  ·refine AWP.q (.z (.u Z Z (.nil (b5 (.ret (e7 ?_))))))
   obtain rfl:=oi h
   exact Done.ret Z Z
  ·refine AWP.skip (b5 (.q (.q (.z (.j Z Z (.j Z Z (.J Z Z Z (.nil (b5 (.ite Z h (fun hc6 h=> ?_) (fun hc6 h=> ?_)))))))))))
   ·refine AWP.q (.z (.u Z Z (.nil (b5 (.ret (e7 ?_))))))
    obtain rfl:=oi h
    exact Done.ret Z Z
   ·refine AWP.skip (b5 (.q (.q (.z (.j Z Z (.j Z Z (.gtr Z Z Z (.nil (b5 (.ite Z h (fun hc7 h=> ?_) (fun hc7 h=> ?_)))))))))))
    ·refine AWP.q (.z (.u Z Z (.nil (b5 (.ret (e7 ?_))))))
     obtain rfl:=oi h
     exact Done.ret Z Z
    ·refine AWP.skip (b5 (.q (.z (.u Z Z (.nil (b5 (.ret ?_)))))))
     obtain rfl:=oi h
     exact Done.ret Z Z
theorem x5{s11:Li}{s22:Li}{r:Int}(h:slices_Compare_int_int s11 s22=some r):e8 prog 50 [.c (row 1 intI s11),.c (row 1 intI s22)] (.c (int r)):=by
 unfold e8
 refine FnOk.enter (rs:=[.t 4]) func50 Z ntmps50 results50 Z ⟨trivial,Y⟩ (by kernel_rfl) Z ?_
 unfold slices_Compare_int_int at h
 refine AWP.q (.z (.u Z Z (.nil (b5 (.q (.q (.z (.j Z Z (S.len Z Z (fun hl10=>.j Z Z (.nil (b5 (.O ?_)))))))))))))
 obtain⟨oo,ho1,h⟩:=bind_some h
 refine AWP.rngS ho1 (fun t3 _=>⟨[(0,.c (row 1 intI s11)),(1,.c (row 1 intI s22)),(9,.c (row 1 intI s11)),(10,.c (int (s11.length:Int))),(11,.c (int t3))],[]⟩) (fun o e st=>match o with| .inl _=>e=.exit 0∧Sub [] st ⟨[(0,.c (row 1 intI s11)),(1,.c (row 1 intI s22))],[]⟩| .inr x=>e=.ret∧Done [.t 4] (fun t _=>t=.c (int x)) .ret st) ?_ ?_ ?_ ?_
 ·try dsimp only
  exact Sub.env ⟨Z,Z,Z,Z,Z,Y⟩
 ·intro t3 s hlot3 hltt3 _
  try dsimp only
  refine AWP.q (.z (.J Z Z Z (.nil (b5 (.q (.ae Z hltt3 (.exit (d8 (d8 ⟨Z,?_⟩)))))))))
  exact Sub.env ⟨Z,Z,Y⟩
 ·intro t3 s o hlot3 hltt3 h
  unfold G3 at h
  try dsimp only at h ⊢
  refine AWP.q (.z (.J Z Z Z (.nil (b5 (.q (.af Z hltt3 (.skip (b5 (.q (.O (.q ?_)))))))))))
  obtain⟨a14,ha14,h⟩:=bind_some h
  refine AWP.z (.j Z Z (S.idx ha14 Z Z Z Z (.ad Z Z Z Z (.u Z Z (.u Z Z (.nil (b5 (.q (.q (.z (.j Z Z (.j Z Z (S.len Z Z (fun hl18=>.geq Z Z Z (.nil (b5 (.ite Z h (fun hc4 h=> ?_) (fun hc4 h=> ?_))))))))))))))))))
  ·refine AWP.q (.z (.u Z Z (.nil (b5 (.ret (e7 (i8 (e7 ?_))))))))
   obtain rfl:=oi h
   refine e7 ⟨_,Z,Z,?_⟩
   exact Done.ret Z Z
  ·refine AWP.skip (b5 (.q ?_))
   obtain⟨a22,ha22,h⟩:=bind_some h
   refine AWP.z (.j Z Z (.j Z Z (S.idx ha22 Z Z Z Z (.ad Z Z Z Z (.u Z Z (.nil (b5 (.q ?_))))))))
   obtain⟨a26,ha26,h⟩:=bind_some h
   refine AWP.z (.j Z Z (.j Z Z (.U Z Z Z Z (aw9 ha26) Z (.u Z Z (.nil (b5 (.q (.z (.j Z Z (.neq Z Z Z (.nil (b5 (.iteN Z h (fun hc5 h=> ?_) (fun hc5 h=> ?_))))))))))))))
   ·refine AWP.q (.z (.j Z Z (.u Z Z (.nil (b5 (.ret (i8 (e7 ?_))))))))
    obtain rfl:=oi h
    refine e7 ⟨_,Z,Z,?_⟩
    exact Done.ret Z Z
   ·refine AWP.skip (d6 (b5 (.z (.add Z Z Z (by omega) (.j Z Z (.nil ?_))))))
    obtain rfl:=oi h
    refine b5 ⟨_,Z,?_⟩
    exact Sub.env ⟨Z,Z,Z,Z,Z,Y⟩
 ·intro e s hq
  rcases oo with u|x
  ·try dsimp only at h hq
   obtain⟨rfl,hs⟩:=hq
   refine⟨_,hs,?_⟩
   refine g8 (b5 (.q (.q (.z (.j Z Z (S.len Z Z (fun hl32=>.j Z Z (S.len Z Z (fun hl34=>.J Z Z Z (.nil (b5 (.ite Z h (fun hc6 h=> ?_) (fun hc6 h=> ?_)))))))))))))
   ·refine AWP.q (.z (.u Z Z (.nil (b5 (.ret (e7 ?_))))))
    obtain rfl:=oi h
    exact Done.ret Z Z
   ·refine AWP.skip (b5 (.q (.z (.u Z Z (.nil (b5 (.ret ?_)))))))
    obtain rfl:=oi h
    exact Done.ret Z Z
  ·try dsimp only at h hq
   obtain⟨rfl,hs⟩:=hq
   refine⟨_,Sub.refl _ _,?_⟩
   refine i8 (e7 ?_)
   obtain rfl:=oi h
   exact hs
theorem Q7{s11:Li}{s22:Li}{r:Bool}(h:B4 s11 s22=some r):e8 prog 82 [.c (row 1 intI s11),.c (row 1 intI s22)] (.c (bool r)):=by
 unfold e8
 refine FnOk.enter (rs:=[.t 4]) func82 Z ntmps82 results82 Z ⟨trivial,Y⟩ (by kernel_rfl) Z ?_
 unfold B4 at h
 refine AWP.q (.z (.u Z Z (.nil (b5 (.q (.q (.z (.j Z Z (S.len Z Z (fun hl7=>.j Z Z (S.len Z Z (fun hl9=>.neq Z Z Z (.nil (b5 (.iteN Z h (fun hc3 h=> ?_) (fun hc3 h=> ?_))))))))))))))))
 ·refine AWP.q (.z (.u Z Z (.nil (b5 (.ret (e7 ?_))))))
  obtain rfl:=oi h
  exact Done.ret Z Z
 ·refine AWP.skip (b5 (.q (.q (.z (.j Z Z (S.len Z Z (fun hl12=>.j Z Z (.nil (b5 (.O ?_))))))))))
  obtain⟨oo,ho1,h⟩:=bind_some h
  refine AWP.rngS ho1 (fun t4 _=>⟨[(0,.c (row 1 intI s11)),(1,.c (row 1 intI s22)),(12,.c (int (s11.length:Int))),(13,.c (int t4))],[]⟩) (fun o e st=>match o with| .inl _=>e=.exit 0∧Sub [] st ⟨[],[]⟩| .inr x=>e=.ret∧Done [.t 4] (fun t _=>t=.c (bool x)) .ret st) ?_ ?_ ?_ ?_
  ·try dsimp only
   exact Sub.env ⟨Z,Z,Z,Z,Y⟩
  ·intro t4 s hlot4 hltt4 _
   try dsimp only
   refine AWP.q (.z (.J Z Z Z (.nil (b5 (.q (.ae Z hltt4 (.exit (d8 (d8 ⟨Z,?_⟩)))))))))
   exact Sub.env trivial
  ·intro t4 s o hlot4 hltt4 h
   unfold Q8 at h
   try dsimp only at h ⊢
   refine AWP.q (.z (.J Z Z Z (.nil (b5 (.q (.af Z hltt4 (.skip (b5 (.q (.O (.q (.z (.j Z Z (.u Z Z (.nil (b5 (.q ?_)))))))))))))))))
   obtain⟨a18,ha18,a22,ha22,h⟩:=b2 h
   refine AWP.drawI mixed Z ?_
   refine j6.consF Z (fun E=>AOps.j Z Z .N) Z (.consF Z (fun E=>AOps.j Z Z .N) Z (.consF Z (fun E=>S.idx ha18 Z Z Z Z .N) Z (.consF Z (fun E=>AOps.ad Z Z Z Z .N) Z (.consF Z (fun E=>AOps.j Z Z .N) Z (.consF Z (fun E=>AOps.j Z Z .N) Z (.consF Z (fun E=>S.idx ha22 Z Z Z Z .N) Z (.consF Z (fun E=>AOps.ad Z Z Z Z .N) Z (.consF Z (fun E=>AOps.neq Z Z Z .N) Z ?_))))))))
   refine j6.done ?_
   dsimp only[l7]
   refine b5 (.iteN Z h (fun hc5 h=> ?_) (fun hc5 h=> ?_))
   ·refine AWP.q (.z (.u Z Z (.nil (b5 (.ret (i8 (e7 ?_)))))))
    obtain rfl:=oi h
    refine e7 ⟨_,Z,Z,?_⟩
    exact Done.ret Z Z
   ·refine AWP.skip (d6 (b5 (.z (.add Z Z Z (by omega) (.j Z Z (.nil ?_))))))
    obtain rfl:=oi h
    refine b5 ⟨_,Z,?_⟩
    exact Sub.env ⟨Z,Z,Z,Z,Y⟩
  ·intro e s hq
   rcases oo with u|x
   ·try dsimp only at h hq
    obtain⟨rfl,hs⟩:=hq
    refine⟨_,hs,?_⟩
    refine g8 (b5 (.q (.z (.u Z Z (.nil (b5 (.ret ?_)))))))
    obtain rfl:=oi h
    exact Done.ret Z Z
   ·try dsimp only at h hq
    obtain⟨rfl,hs⟩:=hq
    refine⟨_,Sub.refl _ _,?_⟩
    refine i8 (e7 ?_)
    obtain rfl:=oi h
    exact hs
theorem J1{xv:LL}{target:Li}{cmp:Li→Li→Option Int}{r:Int×Bool}{fvcmp:FuncId}{cvcmp:List C}(hcvcmp:C.okL 0 cvcmp=true)(hcmp:∀{y1:Li} {y2:Li} {z:Int},cmp y1 y2=some z→e8 prog fvcmp ([.c (row 1 intI y1),.c (row 1 intI y2)]++cvcmp.map T.c) (.c (int z)))(h:s7 xv target cmp=some r):e8 prog 49 [.c (row 1 e9 xv),.c (row 1 intI target),.c (.fn fvcmp cvcmp)] (.tup [.c (int r.1),.c (bool r.2)]):=by
 unfold e8
 refine FnOk.enter (rs:=[.t 6,.t 7]) func49 Z ntmps49 results49 Z ⟨trivial,trivial,Y⟩ (by kernel_rfl) Z ?_
 unfold s7 at h
 refine AWP.q (.z (.u Z Z (.u Z Z (.nil (b5 (.q (.z (.j Z Z (S.len Z Z (fun hl13=>.u Z Z (.nil (b5 (.q (.z (.j Z Z (.u Z Z (.u Z Z (.nil (b5 (.q (.O ?_)))))))))))))))))))))
 obtain⟨iv6,ho1,h⟩:=bind_some h
 refine AWP.loopS ho1 (fun(iv4,j5)=>⟨[(0,.c (row 1 e9 xv)),(1,.c (row 1 intI target)),(2,.c (.fn fvcmp cvcmp)),(8,.c (int (xv.length:Int))),(9,.c (int iv4)),(10,.c (int j5))],[]⟩) (fun iv6 e st=>e=.exit 0∧Sub [] st ⟨[(0,.c (row 1 e9 xv)),(1,.c (row 1 intI target)),(2,.c (.fn fvcmp cvcmp)),(8,.c (int (xv.length:Int))),(9,.c (int iv6))],[]⟩) ?_ ?_ ?_
 ·try dsimp only
  exact Sub.env ⟨Z,Z,Z,Z,Z,Z,Y⟩
 ·intro s o h
  obtain⟨iv4,j5⟩:=s
  unfold J0 at h
  try dsimp only at h ⊢
  refine AWP.q (.q (.z (.j Z Z (.j Z Z (.J Z Z Z (.nil (b5 (.ite Z h (fun hc7 h=> ?_) (fun hc7 h=> ?_)))))))))
  ·refine AWP.skip (b5 (.O (.q (.z (.j Z Z (.j Z Z (S.add Z Z Z (.convInt Z Z (.shr Z Z Z (by first|decide|omega) Z (.convInt Z Z (.u Z Z (.nil (b5 (.q ?_))))))))))))))
   obtain⟨a27,ha27,a30,ha30,h⟩:=b2 h
   refine AWP.z (.j Z Z (.j Z Z (.j Z Z (S.idx ha27 Z Z Z Z (.ad Z Z Z Z (.j Z Z (.U Z Z (ak0 Z hcvcmp) Z (hcmp ha30) Z (.J Z Z Z (.nil (b5 (.ite Z h (fun hc8 h=> ?_) (fun hc8 h=> ?_))))))))))))
   ·refine AWP.z (.j Z Z (S.add Z Z Z (.u Z Z (.nil (d6 ?_)))))
    obtain rfl:=oi h
    refine b5 ⟨_,Z,?_⟩
    exact Sub.env ⟨Z,Z,Z,Z,Z,Z,Y⟩
   ·refine AWP.z (.j Z Z (.u Z Z (.nil (d6 ?_))))
    obtain rfl:=oi h
    refine b5 ⟨_,Z,?_⟩
    exact Sub.env ⟨Z,Z,Z,Z,Z,Z,Y⟩
  ·refine AWP.exit (d8 ?_)
   obtain rfl:=oi h
   refine d8 ⟨_,Z,Z,?_⟩
   exact Sub.env ⟨Z,Z,Z,Z,Z,Y⟩
 ·intro e s hq
  obtain⟨rfl,hs⟩:=hq
  refine⟨_,hs,?_⟩
  refine g8 (b5 ?_)
  obtain⟨t9,hx10,h⟩:=bind_some h
  refine AWP.seqJ (⟨[(6,.c (int iv6)),(7,.c (bool t9))],[]⟩) ?_ ?_
  ·rcases bft (decide (iv6<(xv.length:Int))) with hb11|hb11
   ·replace hx10:=J5 hb11 hx10
    obtain⟨a43,ha43,a46,ha46,hx10⟩:=b2 hx10
    refine AWP.z (.j Z Z (.j Z Z (.j Z Z (.J Z Z Z (.j Z Z (.B Z Z Z hb11 (.j Z Z (.B Z Z Z hb11 (.j Z Z (.B Z Z Z hb11 (.j Z Z (.B Z Z Z hb11 (S.idx ha43 Z Z Z Z (.B Z Z Z hb11 (.ad Z Z Z Z (.B Z Z Z hb11 (.j Z Z (.B Z Z Z hb11 (.U Z Z (ak0 Z hcvcmp) Z (hcmp ha46) Z (.B Z Z Z hb11 (.eql Z Z Z (.aa Z hb11 Z Z (.u Z Z (.u Z Z (.nil ?_)))))))))))))))))))))))))
    obtain rfl:=oi hx10
    refine b5 (Sub.env ⟨Z,Z,Y⟩)
   ·replace hx10:=J9 hb11 hx10
    refine AWP.z (.j Z Z (.j Z Z (.j Z Z (.J Z Z Z (.j Z Z (.E Z Z Z hb11 (.E Z Z Z hb11 (.E Z Z Z hb11 (.E Z Z Z hb11 (.E Z Z Z hb11 (.E Z Z Z hb11 (.E Z Z Z hb11 (.E Z Z Z hb11 (.ab Z hb11 Z Z (.u Z Z (.u Z Z (.nil ?_)))))))))))))))))
    obtain rfl:=oi hx10
    refine b5 (Sub.env ⟨Z,Z,Y⟩)
  ·refine AWP.ret ?_
   obtain rfl:=oi h
   exact Done.ret Z Z
theorem ag7{l:LL}{r:(LL)}(h:A5 l=some r):FnOk prog 118 [.c (.own 0 0 l.length),.c (.fn 82 [])] (B8 l) (fun tt ss=>tt=.c (.own 1 0 r.length)∧ss=[.dead,.one (vec 1 e9 r)]):=by
 refine FnOk.enter (rs:=[.t 4]) func118 Z ntmps118 results118 Z ⟨trivial,Y⟩ (by kernel_rfl) Z ?_
 refine AWP.weak ?_
 unfold A5 at h
 refine AWP.j (env':=[(0,.c (.own 1 0 l.length)),(1,.c (.fn 82 []))]) (σ':=[.dead,.one (vec 1 e9 l)]) 1 0 Z Z Z ⟨Z,Z,Y⟩ Z ⟨trivial,⟨Blk.im_ok _ _ _,i6 Z⟩,Y⟩ (.q (.z (.u Z Z (.nil (b5 (.q (.q (.z (.j Z Z (S.lenO Z Z Z (fun hl9=>.J Z Z Z (.nil (b5 (.ite Z h (fun hc53 h=> ?_) (fun hc53 h=> ?_)))))))))))))))
 ·refine AWP.q (.z (.j Z Z (.u Z Z (.nil (b5 (.ret (e7 ?_)))))))
  obtain rfl:=oi h
  exact⟨⟨[(4,.c (.own 1 0 l.length))],[.dead,.one (vec 1 e9 l)]⟩,Sub.env ⟨Z,Y⟩,Done.ret Z ⟨Z,Z⟩⟩
 ·refine AWP.skip (b5 (.q (.q (.z (.u Z Z (.nil (b5 (.O ?_))))))))
  obtain⟨oo,ho1,h⟩:=bind_some h
  refine AWP.rngS ho1 (fun kv54 _=>⟨[(0,.c (.own 1 0 l.length)),(1,.c (.fn 82 [])),(5,.c (int kv54))],[.dead,.one (vec 1 e9 l)]⟩) (fun o e st=>match o with| .inl _=>e=.exit 0∧Sub (B8 l) st ⟨[(0,.c (.own 1 0 l.length))],[.dead,.one (vec 1 e9 l)]⟩| .inr x=>e=.ret∧∃J,Sub (B8 l) st J∧Done [.t 4] (fun tt ss=>tt=.c (.own 1 0 x.length)∧ss=[.dead,.one (vec 1 e9 x)]) .ret J) ?_ ?_ ?_ ?_
  ·try dsimp only
   exact Sub.env ⟨Z,Z,Z,Y⟩
  ·intro kv54 s hlokv54 hltkv54 _
   try dsimp only
   refine AWP.q (.q (.z (.j Z Z (.j Z Z (S.lenO Z Z Z (fun hl14=>.J Z Z Z (.nil (b5 (.ae Z hltkv54 (.exit (d8 (d8 ⟨Z,?_⟩))))))))))))
   exact Sub.env ⟨Z,Y⟩
  ·intro kv54 s o hlokv54 hltkv54 h
   unfold w5 at h
   try dsimp only at h ⊢
   refine AWP.q (.q (.z (.j Z Z (.j Z Z (S.lenO Z Z Z (fun hl14=>.J Z Z Z (.nil (b5 (.af Z hltkv54 (.skip (b5 (.q (.O (.q ?_))))))))))))))
   obtain⟨a21,ha21,a26,ha26,a28,ha28,h⟩:=b3 h
   refine AWP.drawI mixed Z ?_
   refine j6.consF Z (fun E=>AOps.j Z Z .N) Z (.consF Z (fun E=>AOps.j Z Z .N) Z (.consF Z (fun E=>AOps.j Z Z .N) Z (.consF Z (fun E=>S.idxO ha21 Z Z Z Z Z .N) Z (.consF Z (fun E=>S.loadO ha21 Z Z Z Z Z .N) Z (.consF Z (fun E=>AOps.j Z Z .N) Z (.consF Z (fun E=>AOps.j Z Z .N) Z (.consF Z (fun E=>AOps.sub' Z Z Z (by omega) .N) Z (.consF Z (fun E=>S.idxO ha26 Z Z Z Z Z .N) Z (.consF Z (fun E=>S.loadO ha26 Z Z Z Z Z .N) Z (.consF Z (fun E=>AOps.U Z Z Z Z (Q7 ha28) Z .N) Z ?_))))))))))
   refine j6.done ?_
   dsimp only[l7]
   refine b5 (.ag Z h (fun hc55 h=> ?_) (fun hc55 h=> ?_))
   ·refine AWP.q ?_
    obtain⟨u31,hu31,h⟩:=bind_some h
    refine AWP.z (.j Z Z (.j Z Z (S.vFrom (X2 l) hu31 Z Z Z Z Z Z (.u Z Z (.nil (b5 (.q (.q (.z (.u Z Z (.nil (b5 (.O ?_)))))))))))))
    obtain⟨⟨c56,kv57⟩,ho2,h⟩:=bind_some h
    try dsimp only at h
    refine AWP.forS ho2 (fun k258 (c56,kv57)=>⟨[(0,.c (.own 1 0 c56.length)),(1,.c (.fn 82 [])),(5,.c (int kv57)),(6,.c (.own 1 ((0+kv54).toNat) (((l.length:Int) - kv54).toNat))),(7,.c (int k258))],[.dead,.one (vec 1 e9 c56)]⟩) (fun(c56,kv57) e st=>e=.exit 2∧Sub (B8 l) st ⟨[(0,.c (.own 1 0 c56.length)),(5,.c (int kv57))],[.dead,.one (vec 1 e9 c56)]⟩) ?_ ?_ ?_ ?_
    ·try dsimp only
     exact Sub.env ⟨Z,Z,Z,Z,Z,Y⟩
    ·intro k258 s hlok258 hltk258 _
     obtain⟨c56,kv57⟩:=s
     try dsimp only
     refine AWP.q (.q (.z (.j Z Z (.j Z Z (S.lenV (ab4 (vw_cut (X2 l) hu31)).2.1 Z Z Z (fun hl34=>.J Z Z Z (.nil (b5 (.ae Z hltk258 (.exit (d8 (d8 ⟨Z,?_⟩))))))))))))
     exact Sub.env ⟨Z,Z,Y⟩
    ·intro k258 s o hlok258 hltk258 h
     obtain⟨c56,kv57⟩:=s
     unfold y7 at h
     try dsimp only at h ⊢
     refine AWP.q (.q (.z (.j Z Z (.j Z Z (S.lenV (ab4 (vw_cut (X2 l) hu31)).2.1 Z Z Z (fun hl34=>.J Z Z Z (.nil (b5 (.af Z hltk258 (.skip (b5 ?_)))))))))))
     obtain⟨⟨c59,kv60⟩,hx61,h⟩:=bind_some h
     refine AWP.seqJ (⟨[(0,.c (.own 1 0 c59.length)),(1,.c (.fn 82 [])),(5,.c (int kv60)),(6,.c (.own 1 ((0+kv54).toNat) (((l.length:Int) - kv54).toNat))),(7,.c (int k258))],[.dead,.one (vec 1 e9 c59)]⟩) ?_ ?_
     ·refine AWP.O (.q ?_)
      obtain⟨a41,ha41,a46,ha46,a48,ha48,hx61⟩:=b3 hx61
      refine AWP.drawI mixed Z ?_
      refine j6.consF Z (fun E=>AOps.j Z Z .N) Z (.consF Z (fun E=>AOps.j Z Z .N) Z (.consF Z (fun E=>AOps.j Z Z .N) Z (.consF Z (fun E=>S.idxV ha41 Z Z Z Z .N) Z (.consF Z (fun E=>S.loadO (ixV_ix ha41) Z Z Z Z Z .N) Z (.consF Z (fun E=>AOps.j Z Z .N) Z (.consF Z (fun E=>AOps.j Z Z .N) Z (.consF Z (fun E=>AOps.sub' Z Z Z (by omega) .N) Z (.consF Z (fun E=>S.idxV ha46 Z Z Z Z .N) Z (.consF Z (fun E=>S.loadO (ixV_ix ha46) Z Z Z Z Z .N) Z (.consF Z (fun E=>AOps.U Z Z Z Z (Q7 ha48) Z .N) Z (.consF Z (fun E=>AOps.not Z Z .N) Z ?_)))))))))))
      refine j6.done ?_
      dsimp only[l7]
      refine b5 (.ag Z hx61 (fun hc62 hx61=> ?_) (fun hc62 hx61=> ?_))
      ·refine AWP.q ?_
       obtain⟨a54,ha54,a56,ha56,hx61⟩:=b2 hx61
       refine AWP.z (.j Z Z (.j Z Z (.j Z Z (.j Z Z (S.idxV ha54 Z Z Z Z (S.loadO (ixV_ix ha54) Z Z Z Z Z (S.idxO ha56 Z Z Z Z Z (S.storeO1 (f:=e9) (a':=a54) (f8 ha56) (fun _=>⟨_,Z⟩) Z Z Z Z Z ?_))))))))
       refine AOps.nil (b5 (.z (.j Z Z (S.add Z Z Z (.u Z Z (.nil (d6 ?_)))))))
       obtain⟨ej0,ej1⟩:=o2 hx61
       subst ej0 ej1
       refine b5 (Sub.env ⟨(J3 (by first|rfl|simp only[lS])),Z,Z,Z,Z,Y⟩)
      ·refine AWP.skip (d6 ?_)
       obtain⟨ej0,ej1⟩:=o2 hx61
       subst ej0 ej1
       refine b5 (Sub.env ⟨Z,Z,Z,Z,Z,Y⟩)
     ·try dsimp only at h
      refine AWP.z (.j Z Z (.add Z Z Z (by omega) (.u Z Z (.nil ?_))))
      obtain rfl:=oi h
      refine b5 (Sub.env ⟨Z,Z,Z,Z,Z,Y⟩)
    ·intro e s hq
     obtain⟨rfl,hs⟩:=hq
     refine⟨_,hs,?_⟩
     refine g8 (b5 (.q ?_))
     obtain⟨u61,hu61,h⟩:=bind_some h
     refine AWP.z (.j Z Z (.j Z Z (S.vFrom (X2 c56) hu61 Z Z Z Z Z Z (S.clear (a0:=[]) Z Z Z (fun _ _ _ _=>.imm .slNil) (vw_cut (X2 c56) hu61) Z Z Z Z Z ?_))))
     refine AOps.nil (b5 (.q ?_))
     obtain⟨u64,hu64,h⟩:=bind_some h
     refine AWP.z (.j Z Z (.j Z Z ?_))
     refine S.vTo (X2 (clrL c56 (0+kv57) ((c56.length:Int) - kv57) [])) hu64 Z Z (by rw[Int.toNat_natCast];exact(clrL_len (vw_cut (X2 c56) hu61)).symm) Z Z Z ?_
     refine AOps.u Z Z (.nil (b5 (.reown (env':=[(4,.c (.own 2 0 ((r9 (clrL c56 (0+kv57) ((c56.length:Int) - kv57) []) 0 kv57).length)))]) 4 (vw_to (X2 (clrL c56 (0+kv57) ((c56.length:Int) - kv57) [])) hu64) Z Z Z Z Z Z Z Z (by exact⟨.inl ⟨Z,Z⟩,Y⟩) (.ret (i8 (e7 ?_))))))
     obtain rfl:=oi h
     refine e7 ⟨_,Z,Z,?_⟩
     exact⟨⟨[(4,.c (.own 1 0 ((r9 (clrL c56 (0+kv57) ((c56.length:Int) - kv57) []) 0 kv57).length)))],[.dead,.one (vec 1 e9 (r9 (clrL c56 (0+kv57) ((c56.length:Int) - kv57) []) 0 kv57))]⟩,(Sub.move (env':=[(4,.c (.own 1 0 ((r9 (clrL c56 (0+kv57) ((c56.length:Int) - kv57) []) 0 kv57).length)))]) (σ':=[.dead,.one (vec 1 e9 (r9 (clrL c56 (0+kv57) ((c56.length:Int) - kv57) []) 0 kv57))]) 1 2 Z Z Z ⟨Z,Y⟩ Z ⟨trivial,⟨Blk.im_ok _ _ _,i6 Z⟩,Y⟩).trans (Sub.env ⟨Z,Y⟩),Done.ret Z ⟨Z,Z⟩⟩
   ·refine AWP.skip (d6 (b5 (.z (.j Z Z (.add Z Z Z (by omega) (.u Z Z (.nil ?_)))))))
    obtain rfl:=oi h
    refine b5 ⟨_,Z,?_⟩
    exact Sub.env ⟨Z,Z,Z,Y⟩
  ·intro e s hq
   rcases oo with u|x
   ·try dsimp only at h hq
    obtain⟨rfl,hs⟩:=hq
    refine⟨_,hs,?_⟩
    refine g8 (b5 (.q (.z (.j Z Z (.u Z Z (.nil (b5 (.ret ?_))))))))
    obtain rfl:=oi h
    exact⟨⟨[(4,.c (.own 1 0 l.length))],[.dead,.one (vec 1 e9 l)]⟩,Sub.env ⟨Z,Y⟩,Done.ret Z ⟨Z,Z⟩⟩
   ·try dsimp only at h hq
    obtain⟨rfl,hs⟩:=hq
    refine⟨_,Sub.refl _ _,?_⟩
    refine i8 (e7 ?_)
    obtain rfl:=oi h
    exact hs
theorem Y9{l:LL}{r:(LL)}(h:H8 l=some r):FnOk prog 83 [.c (.own 0 0 l.length)] (ax3 l) (fun tt ss=>tt=.c (.own 2 0 r.length)∧ss=[.dead,.dead,.one (vec 1 e9 r)]):=by
 refine FnOk.enter (rs:=[.t 2]) func83 Z ntmps83 results83 Z ⟨trivial,Y⟩ (by kernel_rfl) Z ?_
 refine AWP.weak ?_
 unfold H8 at h
 refine AWP.j (env':=[(0,.c (.own 1 0 l.length))]) (σ':=[.dead,.one (vec 1 e9 l)]) 1 0 Z Z Z ⟨Z,Y⟩ Z ⟨trivial,⟨Blk.im_ok _ _ _,i6 Z⟩,Y⟩ (.q (.z (.u Z Z (.nil (b5 (.q ?_))))))
 obtain⟨a4,ha4,h⟩:=bind_some h
 refine AWP.z (.j Z Z (S.sortF (fun x=>.sl 1 (List.map intI x)) ha4 Z (fun hy=>x5 hy) sortF_LLi64_ok (⟨_,func50,Z,Z⟩) Z Z Z Z Z Z ?_))
 refine AOps.nil (b5 (.q ?_))
 obtain⟨a6,ha6,h⟩:=bind_some h
 refine AWP.z (.j Z Z ?_)
 refine AOps.callF (r2:=.c (.own 2 0 a6.length)) (σ'':=[.dead,.dead,.one (vec 1 e9 a6)]) Z Z Z (FnOk.lend [1] (ag7 ha6) Z Z Z Z Z Z (by exact⟨.vec,Y⟩) (by rw[(sortFL_len ha4)]<;>rfl) (by exact⟨(.live Z .vec),Y⟩) Z Z (by exact⟨.dead,.dead,(.new 1 Z Z .vec),Y⟩)) ?_
 refine AOps.u Z Z (.nil (b5 (.ret ?_)))
 obtain rfl:=oi h
 exact⟨⟨[(2,.c (.own 2 0 a6.length))],[.dead,.dead,.one (vec 1 e9 a6)]⟩,Sub.env ⟨Z,Y⟩,Done.ret Z ⟨Z,Z⟩⟩
theorem Y3{ov:d4}{sv:Li}{op:Int}{r:(LL)×Li}(h:F3 ov sv op=some r):e8 prog 54 [.agg (tO ov),.c (row 1 intI sv),.c (int op)] (.tup [.c (row 1 e9 r.1),.c (row 1 intI r.2)]):=by
 unfold e8
 refine FnOk.enter (rs:=[.t 6,.t 7]) func54 Z ntmps54 results54 Z ⟨trivial,trivial,Y⟩ (by kernel_rfl) Z ?_
 unfold F3 at h
 refine AWP.q (.z (W.box Z Z Z Z Z Z (.u Z Z (.u Z Z (.nil (b5 (.q (.z (.u Z Z (.nil (b5 (.q (.q ?_)))))))))))))
 obtain⟨a20,ha20,h⟩:=bind_some h
 refine AWP.z (W.fieldAddr Z Z Z Z (.F Z Z Z Z Z Z (.j Z Z (S.idx ha20 Z Z Z Z (W.fieldAddrI Z Z Z Z (.ad Z Z Z Z (S.len Z Z (fun hl23=>.j Z Z (.nil (b5 (.O (.virtV 1 e9 8 Z Z Z ?_))))))))))))
 obtain⟨c4,ho1,h⟩:=bind_some h
 refine AWP.forS ho1 (fun t5 c4=>⟨[(1,.c (row 1 intI sv)),(2,.c (int op)),(3,.c (.ptr 0 0 0)),(8,.c (.own 1 0 c4.length)),(22,.c (row 3 w9 a20.outcomes)),(23,.c (int (a20.outcomes.length:Int))),(24,.c (int t5))],[.one (.cells 4 [(tO ov)]),.one (vec 1 e9 c4)]⟩) (fun c4 e st=>e=.exit 0∧Sub [] st ⟨[(2,.c (int op)),(3,.c (.ptr 0 0 0)),(8,.c (.own 1 0 c4.length))],[.one (.cells 4 [(tO ov)]),.one (vec 1 e9 c4)]⟩) ?_ ?_ ?_ ?_
 ·try dsimp only
  exact Sub.env ⟨Z,Z,Z,(J3 (by first|rfl|simp only[lS])),Z,Z,Z,Y⟩
 ·intro t5 c4 hlot5 hltt5 _
  try dsimp only
  refine AWP.q (.z (.J Z Z Z (.nil (b5 (.q (.ae Z hltt5 (.exit (d8 (d8 ⟨Z,?_⟩)))))))))
  exact Sub.env ⟨Z,Z,Z,Y⟩
 ·intro t5 c4 o hlot5 hltt5 h
  unfold T3 at h
  try dsimp only at h ⊢
  refine AWP.q (.z (.J Z Z Z (.nil (b5 (.q (.af Z hltt5 (.skip (b5 (.q (.O (.q ?_)))))))))))
  obtain⟨a26,ha26,h⟩:=bind_some h
  refine AWP.z (S.idx ha26 Z Z Z Z (W.loadIAgg Z Z Z Z Z (W.alloc Z Z Z Z (W.storeAgg Z Z Z Z Z Z Z (.nil (b5 ?_))))))
  obtain⟨a34,ha34,a36,ha36,h⟩:=b2 h
  refine AWP.z (.j Z Z (.j Z Z (W.fieldAddr Z Z Z Z (.F Z Z Z Z Z Z (W.fieldAddr Z Z Z Z (.F Z Z Z Z Z Z (S.fresh Z Z Z Z (az1 ha34) Z Z (.frzV (id:=3) (l:=a34) (env2:=[(1,.c (row 1 intI sv)),(2,.c (int op)),(3,.c (.ptr 0 0 0)),(22,.c (row 3 w9 a20.outcomes)),(23,.c (int (a20.outcomes.length:Int))),(24,.c (int t5)),(28,.c (.own 1 0 c4.length)),(34,.c (row 1 intI a34))]) (σ2:=[.one (.cells 4 [(tO ov)]),.one (vec 1 e9 c4),.one (.cells 3 [[row 1 intI a26.add,row 1 intI a26.del,int a26.weight]]),.dead]) Z Z (by exact⟨⟨_,Z,.inl ⟨Z,Z⟩⟩,⟨_,Z,.inl ⟨Z,Z⟩⟩,⟨_,Z,.inl ⟨Z,Z⟩⟩,⟨_,Z,.inl ⟨Z,Z⟩⟩,⟨_,Z,.inl ⟨Z,Z⟩⟩,⟨_,Z,.inl ⟨Z,Z⟩⟩,⟨_,Z,.inl ⟨Z,Z⟩⟩,⟨_,Z,.inr ⟨_,Z,Z,Z⟩⟩,Y⟩) Z (by exact⟨⟨Z,.inl ⟨Z,Z⟩,.inl ⟨Z,Z⟩,.inl ⟨Z,Z⟩,.inl ⟨Z,Z⟩,Y⟩,FrzB.vec,⟨Z,.inl ⟨Z,Z⟩,.inl ⟨Z,Z⟩,.inl ⟨Z,Z⟩,Y⟩,trivial,Y⟩) (S.lit (f:=e9) (l:=[a34]) (ess:=[[row 1 intI a34]]) Z Z Z Z Z Z Z ⟨⟨.inl Z,Y⟩,Y⟩ Z Z Z (S.append (f:=e9) ha36 Z Z Z Z Z Z (.own Z Z) Z Z Z Z (.u Z Z (.nil (d6 (b5 (.j (env':=[(1,.c (row 1 intI sv)),(2,.c (int op)),(3,.c (.ptr 0 0 0)),(8,.c (.own 1 0 a36.length)),(22,.c (row 3 w9 a20.outcomes)),(23,.c (int (a20.outcomes.length:Int))),(24,.c (int t5))]) (σ':=[.one (.cells 4 [(tO ov)]),.one (vec 1 e9 a36),.one (.cells 3 [[row 1 intI a26.add,row 1 intI a26.del,int a26.weight]]),.dead,.one (vec 1 e9 [a34])]) 1 5 Z Z Z ⟨Z,Z,Z,Z,Z,Z,Z,Y⟩ Z ⟨⟨Z,Z⟩,⟨Blk.im_ok _ _ _,i6 Z⟩,⟨Z,Z⟩,trivial,⟨Blk.im_ok _ _ _,i6 Z⟩,Y⟩ (.z (.add Z Z Z (by omega) (.j Z Z (.nil ?_)))))))))))))))))))
  obtain rfl:=oi h
  refine b5 (Sub.cut ⟨Z,Z,Z,Z,Z,Z,Z,Y⟩ Z ⟨.one Z,.vec,Y⟩ Z)
 ·intro e s hq
  obtain⟨rfl,hs⟩:=hq
  refine⟨_,hs,?_⟩
  refine g8 (b5 (.q ?_))
  obtain⟨a39,ha39,a40,ha40,h⟩:=b2 h
  refine AWP.z (.j Z Z (.frzV (id:=1) (l:=c4) (env2:=[(2,.c (int op)),(3,.c (.ptr 0 0 0)),(8,.c (row 1 e9 c4)),(38,.c (row 1 e9 c4))]) (σ2:=[.one (.cells 4 [(tO ov)]),.dead]) Z Z (by exact⟨⟨_,Z,.inl ⟨Z,Z⟩⟩,⟨_,Z,.inl ⟨Z,Z⟩⟩,⟨_,Z,.inr ⟨_,Z,Z,Z⟩⟩,⟨_,Z,.inr ⟨_,Z,Z,Z⟩⟩,Y⟩) Z (by exact⟨⟨Z,.inl ⟨Z,Z⟩,.inl ⟨Z,Z⟩,.inl ⟨Z,Z⟩,.inl ⟨Z,Z⟩,Y⟩,trivial,Y⟩) (S.fresh Z Z Z Z (aq0 ha39) Z Z (.callF (r2:=.c (.own 4 0 a40.length)) (σ'':=[.one (.cells 4 [(tO ov)]),.dead,.dead,.dead,.one (vec 1 e9 a40)]) Z Z Z (FnOk.lend [2] (Y9 ha40) Z Z Z Z Z Z (by exact⟨.vec,Y⟩) Z (by exact⟨(.live Z .vec),Y⟩) Z Z (by exact⟨(.old Z Z Z),.dead,.dead,.dead,(.new 2 Z Z .vec),Y⟩)) (.u Z Z (.nil (b5 (.q ?_))))))))
  obtain⟨a43,ha43,h⟩:=bind_some h
  refine AWP.z (.j Z Z (S.lenO Z Z Z (fun hl42=>S.make (f:=intI) ha43 (.val .nil) Z Z Z Z Z Z (.u Z Z (.nil (b5 (.q (.q ?_))))))))
  obtain⟨a47,ha47,h⟩:=bind_some h
  refine AWP.z (W.fieldAddr Z Z Z Z (.F Z Z Z Z Z Z (.j Z Z (S.idx ha47 Z Z Z Z (W.fieldAddrI Z Z Z Z (.ad Z Z Z Z (S.len Z Z (fun hl50=>.j Z Z (.nil (b5 (.O ?_)))))))))))
  obtain⟨c6,ho2,h⟩:=bind_some h
  refine AWP.forS ho2 (fun t7 c6=>⟨[(8,.c (row 1 e9 c4)),(11,.c (.own 4 0 a40.length)),(12,.c (.own 5 0 c6.length)),(49,.c (row 3 w9 a47.outcomes)),(50,.c (int (a47.outcomes.length:Int))),(51,.c (int t7))],[.dead,.dead,.dead,.dead,.one (vec 1 e9 a40),.one (vec 1 intI c6)]⟩) (fun c6 e st=>e=.exit 2∧Sub [] st ⟨[(11,.c (.own 4 0 a40.length)),(12,.c (.own 5 0 c6.length))],[.dead,.dead,.dead,.dead,.one (vec 1 e9 a40),.one (vec 1 intI c6)]⟩) ?_ ?_ ?_ ?_
  ·try dsimp only
   exact Sub.cut ⟨Z,Z,Z,Z,Z,Z,Y⟩ Z ⟨.dead,.dead,.dead,.dead,.vec,.vec,Y⟩ Z
  ·intro t7 c6 hlot7 hltt7 _
   try dsimp only
   refine AWP.q (.z (.J Z Z Z (.nil (b5 (.q (.ae Z hltt7 (.exit (d8 (d8 ⟨Z,?_⟩)))))))))
   exact Sub.env ⟨Z,Z,Y⟩
  ·intro t7 c6 o hlot7 hltt7 h
   unfold L7 at h
   try dsimp only at h ⊢
   refine AWP.q (.z (.J Z Z Z (.nil (b5 (.q (.af Z hltt7 (.skip (b5 (.q (.O (.q ?_)))))))))))
   obtain⟨a54,ha54,h⟩:=bind_some h
   refine AWP.z (.j Z Z (S.idx ha54 Z Z Z Z (W.loadIAgg Z Z Z Z Z (W.alloc Z Z Z Z (.u Z Z (W.storeAgg Z Z Z Z Z Z Z (.nil (b5 (.q ?_)))))))))
   obtain⟨a60,ha60,a62,ha62,h⟩:=b2 h
   refine AWP.z (.j Z Z (.j Z Z (.j Z Z (S.idx ha60 Z Z Z Z (.ad Z Z Z Z (.callL Z Z (.cons (.c (.own Z Z)) (.cons (.c .imm) (.cons (.c (.fn .nil)) .nil))) Z (J1 Z (fun hy=>x5 hy) ha62) Z ?_))))))
   refine AOps.j Z Z (.ac Z Z Z (.ac Z Z Z (.u Z Z (.u Z Z (.nil (b5 ?_))))))
   obtain⟨a67,ha67,a72,ha72,h⟩:=b2 h
   refine AWP.drawEI [8] mixed Z Z Z ?_
   refine e6.consN Z Z (fun E=>AOps.j Z Z .N) Z (.consN Z Z (fun E=>AOps.j Z Z .N) Z (.consN Z Z (fun E=>S.idxO ha67 Z Z Z Z Z .N) Z (.consN Z Z (fun E=>S.loadO ha67 Z Z Z Z Z .N) Z (.consN Z Z (fun E=>W.fieldAddr Z Z Z Z .N) Z (.consN Z Z (fun E=>AOps.F Z Z Z Z Z Z .N) Z (.consN Z Z (fun E=>S.add Z Z Z .N) Z (.consN Z Z (fun E=>S.idxO ha72 Z Z Z Z Z .N) Z ?_)))))))
   apply e6.consE (v:=.undef);exact Z;exact Z;intro E
   refine S.storeO1 (f:=intI) (a':=w64 (a67+a54.weight)) (f8 ha72) (fun _=>⟨_,Z⟩) Z Z Z Z Z ?_
   exact AOps.nil ⟨Z,Z⟩
   exact Z
   exact Z
   refine e6.done Z ?_ ?_
   ·refine d5.cons Z Z (b7.go Z Z (fun E=>AOps.j Z Z .N) (b7.skip Z (b7.nil))) (d5.cons Z Z (b7.go Z Z (fun E=>AOps.j Z Z .N) (b7.skip Z (b7.nil))) (d5.cons Z Z (b7.go Z Z (fun E=>S.idxO ha67 Z Z Z Z Z .N) (b7.skip Z (b7.nil))) (d5.cons Z Z (b7.go Z Z (fun E=>S.loadO ha67 Z Z Z Z Z .N) (b7.skip Z (b7.nil))) (d5.cons Z Z (b7.go Z Z (fun E=>W.fieldAddr Z Z Z Z .N) (b7.skip Z (b7.nil))) (d5.cons Z Z (b7.go Z Z (fun E=>AOps.F Z Z Z Z Z Z .N) (b7.skip Z (b7.nil))) (d5.cons Z Z (b7.go Z Z (fun E=>S.add Z Z Z .N) (b7.skip Z (b7.nil))) (d5.cons Z Z (b7.go Z Z (fun E=>S.idxO ha72 Z Z Z Z Z .N) (b7.skip Z (b7.nil))) ?_)))))))
    refine d5.skip Z (d5.nil)
   dsimp only[l7]
   refine d6 (b5 (.z (.add Z Z Z (by omega) (.j Z Z (.nil ?_)))))
   obtain rfl:=oi h
   refine b5 (Sub.cut ⟨Z,Z,(J3 (by first|rfl|simp only[lS])),Z,Z,Z,Y⟩ Z ⟨.dead,.dead,.dead,.dead,.vec,.vec,Y⟩ Z)
  ·intro e s hq
   obtain⟨rfl,hs⟩:=hq
   refine⟨_,hs,?_⟩
   refine g8 (b5 (.q (.z (.j Z Z (.j Z Z (.u Z Z (.u Z Z (.nil (b5 (.frzV (id:=4) (l:=a40) (env2:=[(6,.c (row 1 e9 a40)),(7,.c (.own 5 0 c6.length))]) (σ2:=[.dead,.dead,.dead,.dead,.dead,.one (vec 1 intI c6)]) Z Z (by exact⟨⟨_,Z,.inr ⟨_,Z,Z,Z⟩⟩,⟨_,Z,.inl ⟨Z,Z⟩⟩,Y⟩) Z (by exact⟨trivial,trivial,trivial,trivial,trivial,FrzB.vec,Y⟩) (.frzV (id:=5) (l:=c6) (env2:=[(6,.c (row 1 e9 a40)),(7,.c (row 1 intI c6))]) (σ2:=[.dead,.dead,.dead,.dead,.dead,.dead]) Z Z (by exact⟨⟨_,Z,.inl ⟨Z,Z⟩⟩,⟨_,Z,.inr ⟨_,Z,Z,Z⟩⟩,Y⟩) Z (by exact⟨trivial,trivial,trivial,trivial,trivial,trivial,Y⟩) (.ret ?_))))))))))))
   obtain rfl:=oi h
   exact Done.ret Z Z
theorem open_Reach_ok{ov:d4}{r:(LL)×Bool}(h:H2 ov=some r):e8 prog 47 [.agg (tO ov)] (.tup [.c (row 1 e9 r.1),.c (bool r.2)]):=by
 unfold e8
 refine FnOk.enter (rs:=[.t 2,.t 3]) func47 Z ntmps47 results47 Z ⟨trivial,trivial,Y⟩ (by kernel_rfl) Z ?_
 unfold H2 at h
 refine AWP.q (.z (W.box Z Z Z Z Z Z (.u Z Z (.u Z Z (.nil (b5 (.q ?_)))))))
 obtain⟨a15,ha15,h⟩:=bind_some h
 refine AWP.z (W.fieldAddr Z Z Z Z (.F Z Z Z Z Z Z (S.fresh Z Z Z Z (m8 ha15) Z Z (.frzV (id:=1) (l:=a15) (env2:=[(1,.c (.ptr 0 0 0)),(15,.c (row 1 intI a15))]) (σ2:=[.one (.cells 4 [(tO ov)]),.dead]) Z Z (by exact⟨⟨_,Z,.inl ⟨Z,Z⟩⟩,⟨_,Z,.inr ⟨_,Z,Z,Z⟩⟩,Y⟩) Z (by exact⟨⟨Z,.inl ⟨Z,Z⟩,.inl ⟨Z,Z⟩,.inl ⟨Z,Z⟩,.inl ⟨Z,Z⟩,Y⟩,trivial,Y⟩) (S.lit (f:=e9) (l:=[a15]) (ess:=[[row 1 intI a15]]) Z Z Z Z Z Z Z ⟨⟨.inl Z,Y⟩,Y⟩ Z Z Z (.u Z Z (.nil (b5 (.q ?_)))))))))
 obtain⟨a19,ha19,h⟩:=bind_some h
 refine AWP.z (W.makeMap Value.string vI Z Z Z (.j Z Z (.callL Z Z (.cons (.c (.own Z Z)) .nil) Z (aw2 ha19) Z (W.insert (fk:=Value.string) (fv:=vI) (k:=a19) (a:=1) keyStr Z Z Z Z Z (.j Z Z (.u Z Z (.nil (b5 (.q (.q (.z (.u Z Z (.nil (b5 (.O ?_)))))))))))))))
 obtain⟨oo,ho1,h⟩:=bind_some h
 refine AWP.loopS ho1 (fun(c2,c3,atv4)=>⟨[(1,.c (.ptr 0 0 0)),(4,.c (.own 2 0 c2.length)),(5,.c (.map 3)),(6,.c (int atv4))],[.one (.cells 4 [(tO ov)]),.dead,.one (vec 1 e9 c2),.one (mapB Value.string vI c3)]⟩) (fun o e st=>match o with| .inl c5=>e=.exit 0∧Sub [] st ⟨[(4,.c (.own 2 0 c5.length))],[.dead,.dead,.one (vec 1 e9 c5)]⟩| .inr x=>e=.ret∧Done [.t 2,.t 3] (fun t _=>t=.tup [.c (row 1 e9 x.1),.c (bool x.2)]) .ret st) ?_ ?_ ?_
 ·try dsimp only
  exact Sub.env ⟨Z,Z,Z,Z,Y⟩
 ·intro s o h
  obtain⟨c2,c3,atv4⟩:=s
  unfold D3 at h
  try dsimp only at h ⊢
  refine AWP.q (.q (.z (.j Z Z (.j Z Z (S.lenO Z Z Z (fun hl23=>.J Z Z Z (.nil (b5 (.ite Z h (fun hc6 h=> ?_) (fun hc6 h=> ?_))))))))))
  ·refine AWP.skip (b5 (.q (.O (.q (.z (W.fieldAddr Z Z Z Z (.F Z Z Z Z Z Z (S.len Z Z (fun hl29=>.j Z Z (.nil (b5 (.O ?_))))))))))))
   obtain⟨oo,ho2,h⟩:=bind_some h
   refine AWP.rngS ho2 (fun t9 (c7,c8)=>⟨[(1,.c (.ptr 0 0 0)),(4,.c (.own 2 0 c7.length)),(5,.c (.map 3)),(6,.c (int atv4)),(29,.c (int (ov.operators.length:Int))),(30,.c (int t9))],[.one (.cells 4 [(tO ov)]),.dead,.one (vec 1 e9 c7),.one (mapB Value.string vI c8)]⟩) (fun o e st=>match o with| .inl (c7,c8)=>e=.exit 2∧Sub [] st ⟨[(1,.c (.ptr 0 0 0)),(4,.c (.own 2 0 c7.length)),(5,.c (.map 3)),(6,.c (int atv4))],[.one (.cells 4 [(tO ov)]),.dead,.one (vec 1 e9 c7),.one (mapB Value.string vI c8)]⟩| .inr x=>e=.ret∧Done [.t 2,.t 3] (fun t _=>t=.tup [.c (row 1 e9 x.1),.c (bool x.2)]) .ret st) ?_ ?_ ?_ ?_
   ·try dsimp only
    exact Sub.env ⟨Z,Z,Z,Z,Z,Z,Y⟩
   ·intro t9 s hlot9 hltt9 _
    obtain⟨c7,c8⟩:=s
    try dsimp only
    refine AWP.q (.z (.J Z Z Z (.nil (b5 (.q (.ae Z hltt9 (.exit (d8 (d8 ⟨Z,?_⟩)))))))))
    exact Sub.env ⟨Z,Z,Z,Z,Y⟩
   ·intro t9 s o hlot9 hltt9 h
    obtain⟨c7,c8⟩:=s
    unfold I2 at h
    try dsimp only at h ⊢
    refine AWP.q (.z (.J Z Z Z (.nil (b5 (.q (.af Z hltt9 (.skip (b5 (.seqF (ad6) o (fun(c10,c11)=>⟨[(1,.c (.ptr 0 0 0)),(4,.c (.own 2 0 c10.length)),(5,.c (.map 3)),(6,.c (int atv4)),(29,.c (int (ov.operators.length:Int))),(30,.c (int t9))],[.one (.cells 4 [(tO ov)]),.dead,.one (vec 1 e9 c10),.one (mapB Value.string vI c11)]⟩) (fun x h=> ?_) ?_)))))))))
    ·obtain⟨c10,c11⟩:=x
     unfold ad6 at h
     try dsimp only at h ⊢
     refine AWP.z (.add Z Z Z (by omega) (.j Z Z (.nil ?_)))
     obtain rfl:=oi h
     refine b5 ⟨_,Z,?_⟩
     exact Sub.env ⟨Z,Z,Z,Z,Z,Z,Y⟩
    ·refine AWP.O (.q (.z (.j Z Z (.u Z Z (.nil (b5 (.q (.q ?_))))))))
     obtain⟨a36,ha36,a39,ha39,h⟩:=b2 h
     refine AWP.drawI mixed Z ?_
     refine j6.consF Z (fun E=>W.loadAgg Z Z Z Z Z Z Z .N) Z (.consF Z (fun E=>AOps.j Z Z .N) Z (.consF Z (fun E=>AOps.j Z Z .N) Z (.consF Z (fun E=>S.idxO ha36 Z Z Z Z Z .N) Z (.consF Z (fun E=>S.loadO ha36 Z Z Z Z Z .N) Z (.consF Z (fun E=>AOps.j Z Z .N) Z (.consF Z (fun E=>AOps.U Z Z Z Z (at2 ha39) Z .N) Z (.consF Z (fun E=>AOps.not Z Z .N) Z ?_)))))))
     refine j6.done ?_
     dsimp only[l7]
     refine b5 (.ag Z h (fun hc12 h=> ?_) (fun hc12 h=> ?_))
     ·refine AWP.exit (d8 (g8 (b5 ⟨_,h,?_⟩)))
      exact Sub.env ⟨Z,Z,Z,Z,Z,Z,Y⟩
     ·refine AWP.skip (b5 (.q ?_))
      obtain⟨a45,ha45,a48,ha48,h⟩:=b2 h
      refine AWP.drawI mixed Z ?_
      refine j6.consF Z (fun E=>W.loadAgg Z Z Z Z Z Z Z .N) Z (.consF Z (fun E=>AOps.j Z Z .N) Z (.consF Z (fun E=>AOps.j Z Z .N) Z (.consF Z (fun E=>S.idxO ha45 Z Z Z Z Z .N) Z (.consF Z (fun E=>S.loadO ha45 Z Z Z Z Z .N) Z (.consF Z (fun E=>AOps.j Z Z .N) Z (.consF Z (fun E=>AOps.U Z Z Z Z (Y3 ha48) Z .N) Z (.consF Z (fun E=>AOps.j Z Z .N) Z (.consF Z (fun E=>AOps.ac Z Z Z .N) Z (.consF Z (fun E=>AOps.ac Z Z Z .N) Z (.consF Z (fun E=>AOps.u Z Z .N) Z (.consF Z (fun E=>AOps.u Z Z .N) Z ?_)))))))))))
      refine j6.done ?_
      dsimp only[l7]
      refine b5 (.q (.z (.j Z Z (S.len Z Z (fun hl52=>.j Z Z (.nil (b5 (.O ?_))))))))
      obtain⟨oo,ho4,h⟩:=bind_some h
      refine AWP.rngS ho4 (fun t15 (c13,c14)=>⟨[(1,.c (.ptr 0 0 0)),(4,.c (.own 2 0 c13.length)),(5,.c (.map 3)),(6,.c (int atv4)),(29,.c (int (ov.operators.length:Int))),(30,.c (int t9)),(51,.c (row 1 e9 a48.1)),(52,.c (int (a48.1.length:Int))),(53,.c (int t15))],[.one (.cells 4 [(tO ov)]),.dead,.one (vec 1 e9 c13),.one (mapB Value.string vI c14)]⟩) (fun o e st=>match o with| .inl (c13,c14)=>e=.exit 4∧Sub [] st ⟨[(1,.c (.ptr 0 0 0)),(4,.c (.own 2 0 c13.length)),(5,.c (.map 3)),(6,.c (int atv4)),(29,.c (int (ov.operators.length:Int))),(30,.c (int t9))],[.one (.cells 4 [(tO ov)]),.dead,.one (vec 1 e9 c13),.one (mapB Value.string vI c14)]⟩| .inr x=>e=.ret∧Done [.t 2,.t 3] (fun t _=>t=.tup [.c (row 1 e9 x.1),.c (bool x.2)]) .ret st) ?_ ?_ ?_ ?_
      ·try dsimp only
       exact Sub.env ⟨Z,Z,Z,Z,Z,Z,Z,Z,Z,Y⟩
      ·intro t15 s hlot15 hltt15 _
       obtain⟨c13,c14⟩:=s
       try dsimp only
       refine AWP.q (.z (.J Z Z Z (.nil (b5 (.q (.ae Z hltt15 (.exit (d8 (d8 ⟨Z,?_⟩)))))))))
       exact Sub.env ⟨Z,Z,Z,Z,Z,Z,Y⟩
      ·intro t15 s o hlot15 hltt15 h
       obtain⟨c13,c14⟩:=s
       unfold I3 at h
       try dsimp only at h ⊢
       refine AWP.q (.z (.J Z Z Z (.nil (b5 (.q (.af Z hltt15 (.skip (b5 (.seqF (Q9) o (fun(c16,c17)=>⟨[(1,.c (.ptr 0 0 0)),(4,.c (.own 2 0 c16.length)),(5,.c (.map 3)),(6,.c (int atv4)),(29,.c (int (ov.operators.length:Int))),(30,.c (int t9)),(51,.c (row 1 e9 a48.1)),(52,.c (int (a48.1.length:Int))),(53,.c (int t15))],[.one (.cells 4 [(tO ov)]),.dead,.one (vec 1 e9 c16),.one (mapB Value.string vI c17)]⟩) (fun x h=> ?_) ?_)))))))))
       ·obtain⟨c16,c17⟩:=x
        unfold Q9 at h
        try dsimp only at h ⊢
        refine AWP.z (.add Z Z Z (by omega) (.j Z Z (.nil ?_)))
        obtain rfl:=oi h
        refine b5 ⟨_,Z,?_⟩
        exact Sub.env ⟨Z,Z,Z,Z,Z,Z,Z,Z,Z,Y⟩
       ·refine AWP.O (.q ?_)
        obtain⟨a55,ha55,h⟩:=bind_some h
        refine AWP.z (S.idx ha55 Z Z Z Z (.ad Z Z Z Z (.u Z Z (.nil (b5 (.q ?_))))))
        obtain⟨a59,ha59,h⟩:=bind_some h
        refine AWP.z (.j Z Z (S.lit (f:=e9) (l:=[a55]) (ess:=[[row 1 intI a55]]) Z Z Z Z Z Z Z ⟨⟨.inl Z,Y⟩,Y⟩ Z Z Z (.callL Z Z (.cons (.c (.own Z Z)) .nil) Z (aw2 ha59) Z (.u Z Z (.nil (b5 (.q (.q (.z (.j Z Z (.j Z Z (W.lookup (fk:=Value.string) (fv:=vI) (k:=a59) (z:=0) keyStr Z (fun _=>Z) Z Z Z Z ?_))))))))))))
        refine AOps.gtr Z Z Z (.nil (b5 (.ite Z h (fun hc18 h=> ?_) (fun hc18 h=> ?_))))
        ·refine AWP.exit (d8 (g8 (b5 ⟨_,h,?_⟩)))
         exact Sub.cut ⟨Z,Z,Z,Z,Z,Z,Z,Z,Z,Y⟩ Z ⟨.one Z,.dead,.vec,.one Z,Y⟩ Z
        ·refine AWP.skip (b5 (.q (.q (.z (.j Z Z (S.lenO Z Z Z (fun hl65=>.eql Z Z Z (.nil (b5 (.ite Z h (fun hc19 h=> ?_) (fun hc19 h=> ?_)))))))))))
         ·refine AWP.q (.z (.u Z Z (.u Z Z (.nil (b5 (.nilrow 1 2 Z (.ret (e7 (i8 (e7 ?_))))))))))
          obtain rfl:=oi h
          refine e7 ⟨_,Z,Z,?_⟩
          exact Done.ret Z Z
         ·refine AWP.skip (b5 (.q (.z (.j Z Z (.j Z Z (W.mapUpdate (fk:=Value.string) (fv:=vI) (k:=a59) (a:=1) keyStr Z Z Z Z Z (.nil (b5 ?_))))))))
          obtain⟨a72,ha72,h⟩:=bind_some h
          refine AWP.z (.j Z Z (.j Z Z (S.lit (f:=e9) (l:=[a55]) (ess:=[[row 1 intI a55]]) Z Z Z Z Z Z Z ⟨⟨.inl Z,Y⟩,Y⟩ Z Z Z (S.append (f:=e9) ha72 Z Z Z Z Z Z (.own Z Z) Z Z Z Z (.u Z Z (.nil (d6 (b5 ⟨_,h,?_⟩))))))))
          exact(Sub.move (env':=[(1,.c (.ptr 0 0 0)),(4,.c (.own 2 0 a72.length)),(5,.c (.map 3)),(6,.c (int atv4)),(29,.c (int (ov.operators.length:Int))),(30,.c (int t9)),(51,.c (row 1 e9 a48.1)),(52,.c (int (a48.1.length:Int))),(53,.c (int t15))]) (σ':=[.one (.cells 4 [(tO ov)]),.dead,.one (vec 1 e9 a72),.one (mapB Value.string vI (mset c14 a59 1)),.one (vec 1 e9 [a55]),.one (vec 1 e9 [a55])]) 2 6 Z Z Z ⟨Z,Z,Z,Z,Z,Z,Z,Z,Z,Y⟩ Z ⟨⟨Z,Z⟩,trivial,⟨Blk.im_ok _ _ _,i6 Z⟩,⟨Z,Z⟩,⟨Blk.im_ok _ _ _,i6 Z⟩,⟨Blk.im_ok _ _ _,i6 Z⟩,Y⟩).trans (Sub.cut ⟨Z,Z,Z,Z,Z,Z,Z,Z,Z,Y⟩ Z ⟨.one Z,.dead,.vec,.one Z,Y⟩ Z)
      ·intro e s hq
       rcases oo with⟨c13,c14⟩|x
       ·try dsimp only at h hq
        obtain⟨rfl,hs⟩:=hq
        refine⟨_,hs,?_⟩
        refine g8 (d6 (b5 ⟨_,h,?_⟩))
        exact Sub.env ⟨Z,Z,Z,Z,Z,Z,Y⟩
       ·try dsimp only at h hq
        obtain⟨rfl,hs⟩:=hq
        refine⟨_,Sub.refl _ _,?_⟩
        refine i8 (i8 (e7 ?_))
        obtain rfl:=oi h
        refine e7 ⟨_,Z,Z,?_⟩
        exact hs
   ·intro e s hq
    rcases oo with⟨c7,c8⟩|x
    ·try dsimp only at h hq
     obtain⟨rfl,hs⟩:=hq
     refine⟨_,hs,?_⟩
     refine g8 (d6 (b5 (.z (.j Z Z (S.add Z Z Z (.u Z Z (.nil ?_)))))))
     obtain rfl:=oi h
     refine b5 ⟨_,Z,?_⟩
     exact Sub.env ⟨Z,Z,Z,Z,Y⟩
    ·try dsimp only at h hq
     obtain⟨rfl,hs⟩:=hq
     refine⟨_,Sub.refl _ _,?_⟩
     refine i8 (i8 (e7 ?_))
     obtain rfl:=oi h
     refine e7 ⟨_,Z,Z,?_⟩
     exact hs
  ·refine AWP.exit (d8 ?_)
   obtain rfl:=oi h
   refine d8 ⟨_,Z,Z,?_⟩
   exact Sub.cut ⟨Z,Y⟩ Z ⟨.dead,.dead,.vec,Y⟩ Z
 ·intro e s hq
  rcases oo with c5|x
  ·try dsimp only at h hq
   obtain⟨rfl,hs⟩:=hq
   refine⟨_,hs,?_⟩
   refine g8 (b5 (.q ?_))
   obtain⟨a76,ha76,h⟩:=bind_some h
   refine AWP.z (.j Z Z (.callF (r2:=.c (.own 4 0 a76.length)) (σ'':=[.dead,.dead,.dead,.dead,.one (vec 1 e9 a76)]) Z Z Z (FnOk.lend [2] (Y9 ha76) Z Z Z Z Z Z (by exact⟨.vec,Y⟩) Z (by exact⟨(.live Z .vec),Y⟩) Z Z (by exact⟨.dead,.dead,.dead,.dead,(.new 2 Z Z .vec),Y⟩)) (.u Z Z (.u Z Z (.nil (b5 (.frzV (id:=4) (l:=a76) (env2:=[(2,.c (row 1 e9 a76)),(3,.c (bool true))]) (σ2:=[.dead,.dead,.dead,.dead,.dead]) Z Z (by exact⟨⟨_,Z,.inr ⟨_,Z,Z,Z⟩⟩,⟨_,Z,.inl ⟨Z,Z⟩⟩,Y⟩) Z (by exact⟨trivial,trivial,trivial,trivial,trivial,Y⟩) (.ret ?_))))))))
   obtain rfl:=oi h
   exact Done.ret Z Z
  ·try dsimp only at h hq
   obtain⟨rfl,hs⟩:=hq
   refine⟨_,Sub.refl _ _,?_⟩
   refine i8 (e7 ?_)
   obtain rfl:=oi h
   exact hs
theorem open_Explore_ok{ov:d4}{r:(LL)×k6}(h:P3 ov=some r):e8 prog 20 [.agg (tO ov)] (.tup [.c (row 1 e9 r.1),.agg [int r.2.code,int r.2.index]]):=by
 unfold e8
 refine FnOk.enter (rs:=[.t 2,.cell 3 32 2]) func20 Z ntmps20 results20 Z ⟨trivial,rv _ Z,Y⟩ (by kernel_rfl) Z ?_
 unfold P3 at h
 refine AWP.q (.z (W.box Z Z Z Z Z Z (.u Z Z (W.alloc Z Z Z Z (.nil (b5 (.q (.q ?_))))))))
 obtain⟨a8,ha8,h⟩:=bind_some h
 refine AWP.z (W.loadAgg Z Z Z Z Z Z Z (.U Z Z Z Z (ae2 ha8) Z (W.alloc Z Z Z Z (W.storeAgg Z Z Z Z Z Z Z (.nil (b5 (.q (.z (W.loadAgg Z Z Z Z Z Z Z (W.build Z Z Z Z (.neqP Z Z Z Z Z Z Z (.nil (b5 (.ag Z h (fun hc2 h=> ?_) (fun hc2 h=> ?_)))))))))))))))
 ·refine AWP.q (.drawEI [2] mixed Z Z Z ?_)
  refine e6.consN Z Z (fun E=>W.loadAgg Z Z Z Z Z Z Z .N) Z (.consN Z Z (fun E=>AOps.u Z Z .N) Z ?_)
  apply e6.consE (v:=.undef);exact Z;exact Z;intro E
  refine W.storeAgg Z Z Z Z Z Z Z .N
  exact Z
  exact Z
  refine e6.done Z ?_ ?_
  ·refine d5.cons Z Z (b7.go Z Z (fun E=>W.loadAgg Z Z Z Z Z Z Z .N) (b7.skip Z (b7.nil))) (d5.cons Z Z (b7.go Z Z (fun E=>AOps.u Z Z .N) (b7.skip Z (b7.nil))) ?_)
   refine d5.skip Z (d5.nil)
  dsimp only[l7]
  refine b5 (.nilrow 1 2 Z (.ret (e7 ?_)))
  obtain rfl:=oi h
  exact Done.ret Z Z
 ·refine AWP.skip (b5 (.q ?_))
  obtain⟨a15,ha15,h⟩:=bind_some h
  refine AWP.z (W.loadAgg Z Z Z Z Z Z Z (.U Z Z Z Z (open_Reach_ok ha15) Z (.j Z Z (.ac Z Z Z (.ac Z Z Z (.u Z Z (.u Z Z (.nil (b5 (.q (.q (.z (.j Z Z (.not Z Z (.nil (b5 (.ag Z h (fun hc3 h=> ?_) (fun hc3 h=> ?_))))))))))))))))))
  ·refine AWP.q (.z (W.build Z Z Z Z (.u Z Z (W.storeAgg Z Z Z Z Z Z Z (.nil (b5 (.nilrow 1 2 Z (.ret (e7 ?_)))))))))
   obtain rfl:=oi h
   exact Done.ret Z Z
  ·refine AWP.skip (b5 (.q (.z (.j Z Z (W.build Z Z Z Z (.u Z Z (W.storeAgg Z Z Z Z Z Z Z (.nil (b5 (.ret ?_))))))))))
   obtain rfl:=oi h
   exact Done.ret Z Z
theorem aq3{all:LL}{sv:Li}{r:Int}(h:R6 all sv=some r):e8 prog 22 [.c (row 1 e9 all),.c (row 1 intI sv)] (.c (int r)):=by
 unfold e8
 refine FnOk.enter (rs:=[.t 4]) func22 Z ntmps22 results22 Z ⟨trivial,Y⟩ (by kernel_rfl) Z ?_
 unfold R6 at h
 refine AWP.q (.z (.u Z Z (.nil (b5 (.q ?_)))))
 obtain⟨a10,ha10,h⟩:=bind_some h
 refine AWP.z (.j Z Z (.j Z Z (.U Z Z Z Z (J1 Z (fun hy=>x5 hy) ha10) Z ?_)))
 refine AOps.j Z Z (.ac Z Z Z (.ac Z Z Z (.u Z Z (.u Z Z (.nil (b5 (.q (.z (.j Z Z (.u Z Z (.nil (b5 (.ret ?_)))))))))))))
 obtain rfl:=oi h
 exact Done.ret Z Z
theorem as1{ov:d4}{all:LL}{rank:Li}{sv:Li}{op:Int}{r:Int}(h:F5 ov all rank sv op=some r):e8 prog 39 [.agg (tO ov),.c (row 1 e9 all),.c (row 1 intI rank),.c (row 1 intI sv),.c (int op)] (.c (int r)):=by
 unfold e8
 refine FnOk.enter (rs:=[.t 10]) func39 Z ntmps39 results39 Z ⟨trivial,Y⟩ (by kernel_rfl) Z ?_
 unfold F5 at h
 refine AWP.q (.z (W.box Z Z Z Z Z Z (.u Z Z (.nil (b5 (.q (.z (.u Z Z (.nil (b5 (.q ?_)))))))))))
 obtain⟨a21,ha21,h⟩:=bind_some h
 refine AWP.z (W.loadAgg Z Z Z Z Z Z Z (.j Z Z (.j Z Z (.U Z Z Z Z (Y3 ha21) Z (.j Z Z (.ac Z Z Z (.ac Z Z Z (.u Z Z (.u Z Z (.nil (b5 (.q (.q (.z (.j Z Z (S.len Z Z (fun hl25=>.j Z Z (.nil (b5 (.O ?_))))))))))))))))))))
 obtain⟨oo,ho1,h⟩:=bind_some h
 refine AWP.rngS ho1 (fun t7 nv6=>⟨[(1,.c (row 1 e9 all)),(2,.c (row 1 intI rank)),(11,.c (int nv6)),(24,.c (row 1 e9 a21.1)),(25,.c (int (a21.1.length:Int))),(26,.c (int t7))],[]⟩) (fun o e st=>match o with| .inl nv6=>e=.exit 0∧Sub [] st ⟨[(11,.c (int nv6))],[]⟩| .inr x=>e=.ret∧Done [.t 10] (fun t _=>t=.c (int x)) .ret st) ?_ ?_ ?_ ?_
 ·try dsimp only
  exact Sub.cut ⟨Z,Z,Z,Z,Z,Z,Y⟩ Z trivial Z
 ·intro t7 nv6 hlot7 hltt7 _
  try dsimp only
  refine AWP.q (.z (.J Z Z Z (.nil (b5 (.q (.ae Z hltt7 (.exit (d8 (d8 ⟨Z,?_⟩)))))))))
  exact Sub.env ⟨Z,Y⟩
 ·intro t7 nv6 o hlot7 hltt7 h
  unfold H5 at h
  try dsimp only at h ⊢
  refine AWP.q (.z (.J Z Z Z (.nil (b5 (.q (.af Z hltt7 (.skip (b5 (.q (.O (.q ?_)))))))))))
  obtain⟨a28,ha28,h⟩:=bind_some h
  refine AWP.z (S.idx ha28 Z Z Z Z (.ad Z Z Z Z (.u Z Z (.nil (b5 (.q ?_))))))
  obtain⟨a33,ha33,a34,ha34,h⟩:=b2 h
  refine AWP.z (.j Z Z (.j Z Z (.j Z Z (.U Z Z Z Z (aq3 ha33) Z (S.idx ha34 Z Z Z Z (.ad Z Z Z Z (.u Z Z (.nil (b5 (.q (.q (.z (.j Z Z (.J Z Z Z (.nil (b5 (.ite Z h (fun hc8 h=> ?_) (fun hc8 h=> ?_))))))))))))))))))
  ·refine AWP.q (.z (.u Z Z (.nil (b5 (.ret (e7 (i8 (e7 ?_))))))))
   obtain rfl:=oi h
   refine e7 ⟨_,Z,Z,?_⟩
   exact Done.ret Z Z
  ·refine AWP.skip (b5 (.z (.j Z Z (.j Z Z (.max2 Z Z Z (.u Z Z (.nil (d6 (b5 (.z (.add Z Z Z (by omega) (.j Z Z (.nil ?_)))))))))))))
   obtain rfl:=oi h
   refine b5 ⟨_,Z,?_⟩
   exact Sub.env ⟨Z,Z,Z,Z,Z,Z,Y⟩
 ·intro e s hq
  rcases oo with nv6|x
  ·try dsimp only at h hq
   obtain⟨rfl,hs⟩:=hq
   refine⟨_,hs,?_⟩
   refine g8 (b5 (.q (.z (.j Z Z (.u Z Z (.nil (b5 (.ret ?_))))))))
   obtain rfl:=oi h
   exact Done.ret Z Z
  ·try dsimp only at h hq
   obtain⟨rfl,hs⟩:=hq
   refine⟨_,Sub.refl _ _,?_⟩
   refine i8 (e7 ?_)
   obtain rfl:=oi h
   exact hs
theorem at4{ov:d4}{all:LL}{rank:Li}{sv:Li}{r:Int}(h:w7 ov all rank sv=some r):e8 prog 25 [.agg (tO ov),.c (row 1 e9 all),.c (row 1 intI rank),.c (row 1 intI sv)] (.c (int r)):=by
 unfold e8
 refine FnOk.enter (rs:=[.t 8]) func25 Z ntmps25 results25 Z ⟨trivial,Y⟩ (by kernel_rfl) Z ?_
 unfold w7 at h
 refine AWP.q (.z (W.box Z Z Z Z Z Z (.u Z Z (.nil (b5 (.q (.z (.u Z Z (.u Z Z (.nil (b5 (.q (.q (.z (W.fieldAddr Z Z Z Z (.F Z Z Z Z Z Z (S.len Z Z (fun hl15=>.j Z Z (.nil (b5 (.O ?_)))))))))))))))))))))
 obtain⟨⟨out5,least6⟩,ho1,h⟩:=bind_some h
 try dsimp only at h
 refine AWP.forS ho1 (fun t7 (out5,least6)=>⟨[(1,.c (row 1 e9 all)),(2,.c (row 1 intI rank)),(3,.c (row 1 intI sv)),(4,.c (.ptr 0 0 0)),(9,.c (int out5)),(10,.c (int least6)),(15,.c (int (ov.operators.length:Int))),(16,.c (int t7))],[.one (.cells 4 [(tO ov)])]⟩) (fun(out5,least6) e st=>e=.exit 0∧Sub [] st ⟨[(9,.c (int out5))],[.one (.cells 4 [(tO ov)])]⟩) ?_ ?_ ?_ ?_
 ·try dsimp only
  exact Sub.env ⟨Z,Z,Z,Z,Z,Z,Z,Z,Y⟩
 ·intro t7 s hlot7 hltt7 _
  obtain⟨out5,least6⟩:=s
  try dsimp only
  refine AWP.q (.z (.J Z Z Z (.nil (b5 (.q (.ae Z hltt7 (.exit (d8 (d8 ⟨Z,?_⟩)))))))))
  exact Sub.env ⟨Z,Y⟩
 ·intro t7 s o hlot7 hltt7 h
  obtain⟨out5,least6⟩:=s
  unfold V5 at h
  try dsimp only at h ⊢
  refine AWP.q (.z (.J Z Z Z (.nil (b5 (.q (.af Z hltt7 (.skip (b5 ?_))))))))
  obtain⟨⟨out8,least9⟩,hx10,h⟩:=bind_some h
  refine AWP.seqJ (⟨[(1,.c (row 1 e9 all)),(2,.c (row 1 intI rank)),(3,.c (row 1 intI sv)),(4,.c (.ptr 0 0 0)),(9,.c (int out8)),(10,.c (int least9)),(15,.c (int (ov.operators.length:Int))),(16,.c (int t7))],[.one (.cells 4 [(tO ov)])]⟩) ?_ ?_
  ·refine AWP.O (.q (.z (.j Z Z (.u Z Z (.nil (b5 (.q (.q ?_))))))))
   obtain⟨a22,ha22,hx10⟩:=bind_some hx10
   refine AWP.z (W.loadAgg Z Z Z Z Z Z Z (.j Z Z (.j Z Z (.U Z Z Z Z (at2 ha22) Z (.not Z Z (.nil (b5 (.ag Z hx10 (fun hc11 hx10=> ?_) (fun hc11 hx10=> ?_)))))))))
   ·refine AWP.exit (d8 (g8 ?_))
    obtain⟨ej0,ej1⟩:=o2 hx10
    subst ej0 ej1
    refine b5 (Sub.env ⟨Z,Z,Z,Z,Z,Z,Z,Z,Y⟩)
   ·refine AWP.skip (b5 (.q ?_))
    obtain⟨a29,ha29,hx10⟩:=bind_some hx10
    refine AWP.z (W.loadAgg Z Z Z Z Z Z Z (.j Z Z (.j Z Z (.j Z Z (.j Z Z (.U Z Z Z Z (as1 ha29) Z (.u Z Z (.nil (b5 (.seqJ (⟨[(1,.c (row 1 e9 all)),(2,.c (row 1 intI rank)),(3,.c (row 1 intI sv)),(4,.c (.ptr 0 0 0)),(9,.c (int out5)),(10,.c (int least6)),(11,.c (int t7)),(12,.c (int a29)),(15,.c (int (ov.operators.length:Int))),(16,.c (int t7)),(40,.c (bool ((decide (0≤a29)) && ((decide (out5<0))||(decide (a29<least6))))))],[.one (.cells 4 [(tO ov)])]⟩) ?_ ?_))))))))))
    ·rcases bft (decide (0≤a29)) with hb1|hb1
     ·rcases bft (decide (out5<0)) with hb2|hb2
      ·refine AWP.z (.j Z Z (.geq Z Z Z (.j Z Z (.B Z Z Z hb1 (.j Z Z (.B Z Z Z hb1 (.J Z Z Z (.B Z Z Z hb1 (.j Z Z (.E Z Z Z hb2 (.E Z Z Z hb2 (.E Z Z Z hb2 (.B Z Z Z hb1 (.aa Z hb2 Z Z (.aa Z hb1 Z Z (.nil (b5 ?_)))))))))))))))))
       simp only[O3 hb1,or_t hb1,O3 hb2,or_t hb2,Bool.false_or,Bool.true_or,Bool.false_and,Bool.true_and]
       exact Sub.env ⟨Z,Z,Z,Z,Z,Z,Z,Z,Z,Z,Z,Y⟩
      ·refine AWP.z (.j Z Z (.geq Z Z Z (.j Z Z (.B Z Z Z hb1 (.j Z Z (.B Z Z Z hb1 (.J Z Z Z (.B Z Z Z hb1 (.j Z Z (.B Z Z Z hb2 (.j Z Z (.B Z Z Z hb2 (.j Z Z (.B Z Z Z hb2 (.J Z Z Z (.B Z Z Z hb1 (.ab Z hb2 Z Z (.aa Z hb1 Z Z (.nil (b5 ?_))))))))))))))))))))
       simp only[O3 hb1,or_t hb1,J7 hb2,or_f hb2,Bool.false_or,Bool.true_or,Bool.false_and,Bool.true_and]
       exact Sub.env ⟨Z,Z,Z,Z,Z,Z,Z,Z,Z,Z,Z,Y⟩
     ·refine AWP.z (.j Z Z (.geq Z Z Z (.j Z Z (.E Z Z Z hb1 (.E Z Z Z hb1 (.E Z Z Z hb1 (.ah Z Z Z (.ah Z Z Z (.ah Z Z Z (.E Z Z Z hb1 (.ab Z hb1 Z Z (.nil (b5 ?_)))))))))))))
      simp only[J7 hb1,or_f hb1,Bool.false_or,Bool.true_or,Bool.false_and,Bool.true_and]
      exact Sub.env ⟨Z,Z,Z,Z,Z,Z,Z,Z,Z,Z,Z,Y⟩
    ·refine AWP.ag Z hx10 (fun hc12 hx10=> ?_) (fun hc12 hx10=> ?_)
     ·refine AWP.z (.j Z Z (.j Z Z (.u Z Z (.u Z Z (.nil (d6 ?_))))))
      obtain⟨ej0,ej1⟩:=o2 hx10
      subst ej0 ej1
      refine b5 (Sub.env ⟨Z,Z,Z,Z,Z,Z,Z,Z,Y⟩)
     ·refine AWP.skip (d6 ?_)
      obtain⟨ej0,ej1⟩:=o2 hx10
      subst ej0 ej1
      refine b5 (Sub.env ⟨Z,Z,Z,Z,Z,Z,Z,Z,Y⟩)
  ·try dsimp only at h
   refine AWP.z (.add Z Z Z (by omega) (.j Z Z (.nil ?_)))
   obtain rfl:=oi h
   refine b5 (Sub.env ⟨Z,Z,Z,Z,Z,Z,Z,Z,Y⟩)
 ·intro e s hq
  obtain⟨rfl,hs⟩:=hq
  refine⟨_,hs,?_⟩
  refine g8 (b5 (.q (.z (.j Z Z (.u Z Z (.nil (b5 (.ret ?_))))))))
  obtain rfl:=oi h
  exact Done.ret Z Z
theorem strong_ranks_ok{ov:d4}{all:LL}{r:Li}(h:P4 ov all=some r):r8 prog 21 [.agg (tO ov),.c (row 1 e9 all)] 1 (List.map intI r):=by
 unfold r8
 refine FnOk.enter (rs:=[.t 4]) func21 Z ntmps21 results21 Z ⟨trivial,Y⟩ (by kernel_rfl) Z ?_
 unfold P4 at h
 refine AWP.q (.z (W.box Z Z Z Z Z Z (.u Z Z (.nil (b5 (.q ?_))))))
 obtain⟨a17,ha17,h⟩:=bind_some h
 refine AWP.z (S.lit (f:=intI) (l:=[-1]) (ess:=[[int (-1)]]) Z Z Z Z Z Z Z ⟨⟨.inl Z,Y⟩,Y⟩ Z Z Z (.j Z Z (S.len Z Z (fun hl16=>S.freshL (fun _=>Z) Z Z (.cons (.c (.own Z Z)) (.cons (.c .imm) .nil)) Z (aq2 ha17) Z Z ?_))))
 refine AOps.u Z Z (.nil (b5 (.q (.q (.z (.j Z Z (S.len Z Z (fun hl19=>.j Z Z (.nil (b5 (.O ?_)))))))))))
 obtain⟨c3,ho1,h⟩:=bind_some h
 refine AWP.forS ho1 (fun t4 c3=>⟨[(1,.c (row 1 e9 all)),(2,.c (.ptr 0 0 0)),(5,.c (.own 2 0 c3.length)),(18,.c (row 1 e9 all)),(19,.c (int (all.length:Int))),(20,.c (int t4))],[.one (.cells 4 [(tO ov)]),.dead,.one (vec 1 intI c3)]⟩) (fun c3 e st=>e=.exit 0∧Sub [] st ⟨[(1,.c (row 1 e9 all)),(2,.c (.ptr 0 0 0)),(5,.c (.own 2 0 c3.length))],[.one (.cells 4 [(tO ov)]),.dead,.one (vec 1 intI c3)]⟩) ?_ ?_ ?_ ?_
 ·try dsimp only
  exact Sub.cut ⟨Z,Z,Z,Z,Z,Z,Y⟩ Z ⟨.one Z,.dead,.vec,Y⟩ Z
 ·intro t4 c3 hlot4 hltt4 _
  try dsimp only
  refine AWP.q (.z (.J Z Z Z (.nil (b5 (.q (.ae Z hltt4 (.exit (d8 (d8 ⟨Z,?_⟩)))))))))
  exact Sub.env ⟨Z,Z,Z,Y⟩
 ·intro t4 c3 o hlot4 hltt4 h
  unfold L4 at h
  try dsimp only at h ⊢
  refine AWP.q (.z (.J Z Z Z (.nil (b5 (.q (.af Z hltt4 (.skip (b5 ?_))))))))
  obtain⟨c5,hx6,h⟩:=bind_some h
  refine AWP.seqJ (⟨[(1,.c (row 1 e9 all)),(2,.c (.ptr 0 0 0)),(5,.c (.own 2 0 c5.length)),(18,.c (row 1 e9 all)),(19,.c (int (all.length:Int))),(20,.c (int t4))],[.one (.cells 4 [(tO ov)]),.dead,.one (vec 1 intI c5)]⟩) ?_ ?_
  ·refine AWP.O (.q ?_)
   obtain⟨a23,ha23,hx6⟩:=bind_some hx6
   refine AWP.z (.j Z Z (S.idx ha23 Z Z Z Z (.ad Z Z Z Z (.u Z Z (.u Z Z (.nil (b5 (.q ?_))))))))
   obtain⟨a28,ha28,hx6⟩:=bind_some hx6
   refine AWP.z (.j Z Z (W.fieldAddr Z Z Z Z (.F Z Z Z Z Z Z (.U Z Z Z Z (G0 ha28) Z (.nil (b5 (.ag Z hx6 (fun hc7 hx6=> ?_) (fun hc7 hx6=> ?_))))))))
   ·obtain⟨a31,ha31,hx6⟩:=bind_some hx6
    refine AWP.z (.j Z Z (.j Z Z (S.idxO ha31 Z Z Z Z Z (S.storeO1 (f:=intI) (a':=0) (f8 ha31) (fun _=>⟨_,Z⟩) Z Z Z Z Z ?_))))
    refine AOps.nil (d6 ?_)
    obtain rfl:=oi hx6
    refine b5 (Sub.env ⟨Z,Z,(J3 (by first|rfl|simp only[lS])),Z,Z,Z,Y⟩)
   ·refine AWP.skip (d6 ?_)
    obtain rfl:=oi hx6
    refine b5 (Sub.env ⟨Z,Z,Z,Z,Z,Z,Y⟩)
  ·refine AWP.z (.add Z Z Z (by omega) (.j Z Z (.nil ?_)))
   obtain rfl:=oi h
   refine b5 (Sub.env ⟨Z,Z,Z,Z,Z,Z,Y⟩)
 ·intro e s hq
  obtain⟨rfl,hs⟩:=hq
  refine⟨_,hs,?_⟩
  refine g8 (b5 (.q (.z (.u Z Z (.nil (b5 (.O ?_)))))))
  obtain⟨x,ho2,h⟩:=bind_some h
  refine AWP.loopS ho2 (fun(c8,layer9)=>⟨[(1,.c (row 1 e9 all)),(2,.c (.ptr 0 0 0)),(5,.c (.own 2 0 c8.length)),(8,.c (int layer9))],[.one (.cells 4 [(tO ov)]),.dead,.one (vec 1 intI c8)]⟩) (fun x e st=>e=.ret∧Done [.t 4] (fun t s=>∃id,t=.c (.own id 0 (List.map intI x).length)∧s[id]? =some (some (Blk.im 1 (List.map intI x)))) .ret st) ?_ ?_ ?_
  ·try dsimp only
   exact Sub.env ⟨Z,Z,Z,Z,Y⟩
  ·intro s o h
   obtain⟨c8,layer9⟩:=s
   unfold E8 at h
   try dsimp only at h ⊢
   refine AWP.q (.O (.q (.z (.u Z Z (.nil (b5 (.q (.q (.z (.j Z Z (S.len Z Z (fun hl36=>.j Z Z (.nil (b5 (.O (.virtV 1 intI 9 Z Z Z ?_))))))))))))))))
   obtain⟨c10,ho3,h⟩:=bind_some h
   refine AWP.forS ho3 (fun t11 c10=>⟨[(1,.c (row 1 e9 all)),(2,.c (.ptr 0 0 0)),(5,.c (.own 2 0 c8.length)),(8,.c (int layer9)),(9,.c (.own 3 0 c10.length)),(35,.c (row 1 e9 all)),(36,.c (int (all.length:Int))),(37,.c (int t11))],[.one (.cells 4 [(tO ov)]),.dead,.one (vec 1 intI c8),.one (vec 1 intI c10)]⟩) (fun c10 e st=>e=.exit 4∧Sub [] st ⟨[(1,.c (row 1 e9 all)),(2,.c (.ptr 0 0 0)),(5,.c (.own 2 0 c8.length)),(8,.c (int layer9)),(9,.c (.own 3 0 c10.length))],[.one (.cells 4 [(tO ov)]),.dead,.one (vec 1 intI c8),.one (vec 1 intI c10)]⟩) ?_ ?_ ?_ ?_
   ·try dsimp only
    exact Sub.env ⟨Z,Z,Z,Z,(J3 (by first|rfl|simp only[lS])),Z,Z,Z,Y⟩
   ·intro t11 c10 hlot11 hltt11 _
    try dsimp only
    refine AWP.q (.z (.J Z Z Z (.nil (b5 (.q (.ae Z hltt11 (.exit (d8 (d8 ⟨Z,?_⟩)))))))))
    exact Sub.env ⟨Z,Z,Z,Z,Z,Y⟩
   ·intro t11 c10 o hlot11 hltt11 h
    unfold S3 at h
    try dsimp only at h ⊢
    refine AWP.q (.z (.J Z Z Z (.nil (b5 (.q (.af Z hltt11 (.skip (b5 ?_))))))))
    obtain⟨c12,hx13,h⟩:=bind_some h
    refine AWP.seqJ (⟨[(1,.c (row 1 e9 all)),(2,.c (.ptr 0 0 0)),(5,.c (.own 2 0 c8.length)),(8,.c (int layer9)),(9,.c (.own 5 0 c12.length)),(35,.c (row 1 e9 all)),(36,.c (int (all.length:Int))),(37,.c (int t11))],[.one (.cells 4 [(tO ov)]),.dead,.one (vec 1 intI c8),.dead,.dead,.one (vec 1 intI c12)]⟩) ?_ ?_
    ·refine AWP.O (.q ?_)
     obtain⟨a40,ha40,hx13⟩:=bind_some hx13
     refine AWP.z (.j Z Z (S.idx ha40 Z Z Z Z (.ad Z Z Z Z (.u Z Z (.u Z Z (.nil (b5 ?_)))))))
     obtain⟨t14,hx15,hx13⟩:=bind_some hx13
     refine AWP.seqJ (⟨[(1,.c (row 1 e9 all)),(2,.c (.ptr 0 0 0)),(5,.c (.own 2 0 c8.length)),(8,.c (int layer9)),(9,.c (.own 3 0 c10.length)),(10,.c (int t11)),(35,.c (row 1 e9 all)),(36,.c (int (all.length:Int))),(37,.c (int t11)),(54,.c (bool t14))],[.one (.cells 4 [(tO ov)]),.dead,.one (vec 1 intI c8),.one (vec 1 intI c10)]⟩) ?_ ?_
     ·obtain⟨a44,ha44,hx15⟩:=bind_some hx15
      rcases bft (decide (a44<0)) with hb16|hb16
      ·replace hx15:=J5 hb16 hx15
       obtain⟨a52,ha52,hx15⟩:=bind_some hx15
       refine AWP.z (.j Z Z (.j Z Z (S.idxO ha44 Z Z Z Z Z (S.loadO ha44 Z Z Z Z Z (.J Z Z Z (.j Z Z (.B Z Z Z hb16 (W.loadAgg Z Z Z Z Z Z Z (.B Z Z Z hb16 (.j Z Z (.B Z Z Z hb16 (.j Z Z (.B Z Z Z hb16 (.j Z Z (.B Z Z Z hb16 (.callL Z Z (.cons (.agg (.cons .imm (.cons .imm (.cons .imm (.cons .imm .nil))))) (.cons (.c .imm) (.cons (.c (.own Z Z)) (.cons (.c .imm) .nil)))) Z (at4 ha52) Z (.B Z Z Z hb16 (.geq Z Z Z (.aa Z hb16 Z Z (.nil ?_))))))))))))))))))))
       obtain rfl:=oi hx15
       refine b5 (Sub.env ⟨Z,Z,Z,Z,Z,Z,Z,Z,Z,Z,Y⟩)
      ·replace hx15:=J9 hb16 hx15
       refine AWP.z (.j Z Z (.j Z Z (S.idxO ha44 Z Z Z Z Z (S.loadO ha44 Z Z Z Z Z (.J Z Z Z (.j Z Z (.E Z Z Z hb16 (.E Z Z Z hb16 (.E Z Z Z hb16 (.E Z Z Z hb16 (.E Z Z Z hb16 (.E Z Z Z hb16 (.ab Z hb16 Z Z (.nil ?_))))))))))))))
       obtain rfl:=oi hx15
       refine b5 (Sub.env ⟨Z,Z,Z,Z,Z,Z,Z,Z,Z,Z,Y⟩)
     ·refine AWP.ag Z hx13 (fun hc17 hx13=> ?_) (fun hc17 hx13=> ?_)
      ·obtain⟨a58,ha58,hx13⟩:=bind_some hx13
       refine AWP.z (.j Z Z (.j Z Z (S.lit (f:=intI) (l:=[t11]) (ess:=[[int t11]]) Z Z Z Z Z Z Z ⟨⟨.inl Z,Y⟩,Y⟩ Z Z Z (S.append (f:=intI) ha58 Z Z Z Z Z Z (.own Z Z) Z Z Z Z (.u Z Z (.nil (d6 ?_)))))))
       obtain rfl:=oi hx13
       refine b5 (Sub.cut ⟨Z,Z,Z,Z,Z,Z,Z,Z,Y⟩ Z ⟨.one Z,.dead,.vec,.dead,.dead,.vec,Y⟩ Z)
      ·refine AWP.skip (d6 ?_)
       obtain rfl:=oi hx13
       refine b5 ((Sub.move (env':=[(1,.c (row 1 e9 all)),(2,.c (.ptr 0 0 0)),(5,.c (.own 2 0 c8.length)),(8,.c (int layer9)),(9,.c (.own 5 0 c10.length)),(35,.c (row 1 e9 all)),(36,.c (int (all.length:Int))),(37,.c (int t11))]) (σ':=[.one (.cells 4 [(tO ov)]),.dead,.one (vec 1 intI c8),.dead,.dead,.one (vec 1 intI c10)]) 5 3 Z Z Z ⟨Z,Z,Z,Z,Z,Z,Z,Z,Y⟩ Z ⟨⟨Z,Z⟩,trivial,⟨Blk.im_ok _ _ _,i6 Z⟩,trivial,trivial,⟨Blk.im_ok _ _ _,i6 Z⟩,Y⟩).trans (Sub.env ⟨Z,Z,Z,Z,Z,Z,Z,Z,Y⟩))
    ·refine AWP.z (.add Z Z Z (by omega) (.j Z Z (.nil ?_)))
     obtain rfl:=oi h
     refine b5 ((Sub.move (env':=[(1,.c (row 1 e9 all)),(2,.c (.ptr 0 0 0)),(5,.c (.own 2 0 c8.length)),(8,.c (int layer9)),(9,.c (.own 3 0 c12.length)),(35,.c (row 1 e9 all)),(36,.c (int (all.length:Int))),(37,.c (int (t11+1)))]) (σ':=[.one (.cells 4 [(tO ov)]),.dead,.one (vec 1 intI c8),.one (vec 1 intI c12),.dead]) 3 5 Z Z Z ⟨Z,Z,Z,Z,Z,Z,Z,Z,Y⟩ Z ⟨⟨Z,Z⟩,trivial,⟨Blk.im_ok _ _ _,i6 Z⟩,⟨Blk.im_ok _ _ _,i6 Z⟩,trivial,Y⟩).trans (Sub.cut ⟨Z,Z,Z,Z,Z,Z,Z,Z,Y⟩ Z ⟨.one Z,.dead,.vec,.vec,Y⟩ Z))
   ·intro e s hq
    obtain⟨rfl,hs⟩:=hq
    refine⟨_,hs,?_⟩
    refine g8 (b5 (.q (.q (.z (.j Z Z (S.lenO Z Z Z (fun hl61=>.eql Z Z Z (.nil (b5 (.ite Z h (fun hc18 h=> ?_) (fun hc18 h=> ?_)))))))))))
    ·refine AWP.q (.z (.j Z Z (.u Z Z (.nil (b5 (.ret (e7 (i8 (e7 ?_)))))))))
     obtain rfl:=oi h
     refine e7 ⟨_,Z,Z,?_⟩
     exact Done.ret Z (Fresh.mk Z Z)
    ·refine AWP.skip (b5 (.q (.z (.j Z Z (S.lenO Z Z Z (fun hl65=>.j Z Z (.nil (b5 (.O ?_)))))))))
     obtain⟨c19,ho4,h⟩:=bind_some h
     refine AWP.forS ho4 (fun t20 c19=>⟨[(1,.c (row 1 e9 all)),(2,.c (.ptr 0 0 0)),(5,.c (.own 2 0 c19.length)),(8,.c (int layer9)),(64,.c (.own 3 0 c10.length)),(65,.c (int (c10.length:Int))),(66,.c (int t20))],[.one (.cells 4 [(tO ov)]),.dead,.one (vec 1 intI c19),.one (vec 1 intI c10)]⟩) (fun c19 e st=>e=.exit 6∧Sub [] st ⟨[(1,.c (row 1 e9 all)),(2,.c (.ptr 0 0 0)),(5,.c (.own 2 0 c19.length)),(8,.c (int layer9))],[.one (.cells 4 [(tO ov)]),.dead,.one (vec 1 intI c19),.one (vec 1 intI c10)]⟩) ?_ ?_ ?_ ?_
     ·try dsimp only
      exact Sub.env ⟨Z,Z,Z,Z,Z,Z,Z,Y⟩
     ·intro t20 c19 hlot20 hltt20 _
      try dsimp only
      refine AWP.q (.z (.J Z Z Z (.nil (b5 (.q (.ae Z hltt20 (.exit (d8 (d8 ⟨Z,?_⟩)))))))))
      exact Sub.env ⟨Z,Z,Z,Z,Y⟩
     ·intro t20 c19 o hlot20 hltt20 h
      unfold X6 at h
      try dsimp only at h ⊢
      refine AWP.q (.z (.J Z Z Z (.nil (b5 (.q (.af Z hltt20 (.skip (b5 (.q (.O (.q ?_)))))))))))
      obtain⟨a68,ha68,h⟩:=bind_some h
      refine AWP.z (S.idxO ha68 Z Z Z Z Z (S.loadO ha68 Z Z Z Z Z (.u Z Z (.nil (b5 ?_)))))
      obtain⟨a73,ha73,h⟩:=bind_some h
      refine AWP.z (.j Z Z (.j Z Z (.j Z Z (S.idxO ha73 Z Z Z Z Z (S.storeO1 (f:=intI) (a':=layer9) (f8 ha73) (fun _=>⟨_,Z⟩) Z Z Z Z Z ?_)))))
      refine AOps.nil (d6 (b5 (.z (.add Z Z Z (by omega) (.j Z Z (.nil ?_))))))
      obtain rfl:=oi h
      refine b5 (Sub.env ⟨Z,Z,(J3 (by first|rfl|simp only[lS])),Z,Z,Z,Z,Y⟩)
     ·intro e s hq
      obtain⟨rfl,hs⟩:=hq
      refine⟨_,hs,?_⟩
      refine g8 (d6 (b5 (.z (.j Z Z (S.add Z Z Z (.u Z Z (.nil ?_)))))))
      obtain rfl:=oi h
      refine b5 ⟨_,Z,?_⟩
      exact Sub.cut ⟨Z,Z,Z,Z,Y⟩ Z ⟨.one Z,.dead,.vec,Y⟩ Z
  ·intro e s hq
   obtain⟨rfl,hs⟩:=hq
   refine⟨_,Sub.refl _ _,?_⟩
   refine i8 ?_
   obtain rfl:=oi h
   exact hs
theorem ax7{sv:Li}{c2:d4}{c3:LL}{c4:Li}{r:Int}(h:y9 sv c2 c3 c4=some r):e8 prog 24 [.c (row 1 intI sv),.c (.imm (.ipt [.val (.int .i64 c2.facts),.sl 1 (List.map intI c2.init),.sl 1 (List.map intI c2.goal),.sl 3 (List.map o8 c2.operators)])),.c (.imm (.ipt [.sl 1 (List.map e9 c3)])),.c (.imm (.ipt [.sl 1 (List.map intI c4)]))] (.c (int r)):=by
 unfold e8
 refine FnOk.enter (rs:=[.t 5]) func24 Z ntmps24 results24 Z ⟨trivial,Y⟩ (by kernel_rfl) Z ?_
 unfold y9 at h
 refine AWP.q (.z (.u Z Z (.nil (b5 (.q ?_)))))
 obtain⟨a10,ha10,h⟩:=bind_some h
 refine AWP.z (W.loadIAgg Z Z Z Z Z (.ad Z Z Z Z (.ad Z Z Z Z (.j Z Z (.U Z Z Z Z (at4 ha10) Z (.u Z Z (.nil (b5 (.ret ?_)))))))))
 obtain rfl:=oi h
 exact Done.ret Z Z
theorem B6{xv:List d9}{target:Li}{cmp:d9→Li→Option Int}{r:Int×Bool}{fvcmp:FuncId}{cvcmp:List C}(hcvcmp:C.okL 0 cvcmp=true)(hcmp:∀{y1:d9} {y2:Li} {z:Int},cmp y1 y2=some z→e8 prog fvcmp ([.agg [row 1 intI y1.state,int y1.operator],.c (row 1 intI y2)]++cvcmp.map T.c) (.c (int z)))(h:j7 xv target cmp=some r):e8 prog 51 [.c (row 2 i9 xv),.c (row 1 intI target),.c (.fn fvcmp cvcmp)] (.tup [.c (int r.1),.c (bool r.2)]):=by
 unfold e8
 refine FnOk.enter (rs:=[.t 6,.t 7]) func51 Z ntmps51 results51 Z ⟨trivial,trivial,Y⟩ (by kernel_rfl) Z ?_
 unfold j7 at h
 refine AWP.q (.z (.u Z Z (.u Z Z (.nil (b5 (.q (.z (.j Z Z (S.len Z Z (fun hl13=>.u Z Z (.nil (b5 (.q (.z (.j Z Z (.u Z Z (.u Z Z (.nil (b5 (.q (.O ?_)))))))))))))))))))))
 obtain⟨iv6,ho1,h⟩:=bind_some h
 refine AWP.loopS ho1 (fun(iv4,j5)=>⟨[(0,.c (row 2 i9 xv)),(1,.c (row 1 intI target)),(2,.c (.fn fvcmp cvcmp)),(8,.c (int (xv.length:Int))),(9,.c (int iv4)),(10,.c (int j5))],[]⟩) (fun iv6 e st=>e=.exit 0∧Sub [] st ⟨[(0,.c (row 2 i9 xv)),(1,.c (row 1 intI target)),(2,.c (.fn fvcmp cvcmp)),(8,.c (int (xv.length:Int))),(9,.c (int iv6))],[]⟩) ?_ ?_ ?_
 ·try dsimp only
  exact Sub.env ⟨Z,Z,Z,Z,Z,Z,Y⟩
 ·intro s o h
  obtain⟨iv4,j5⟩:=s
  unfold B5 at h
  try dsimp only at h ⊢
  refine AWP.q (.q (.z (.j Z Z (.j Z Z (.J Z Z Z (.nil (b5 (.ite Z h (fun hc7 h=> ?_) (fun hc7 h=> ?_)))))))))
  ·refine AWP.skip (b5 (.O (.q (.z (.j Z Z (.j Z Z (S.add Z Z Z (.convInt Z Z (.shr Z Z Z (by first|decide|omega) Z (.convInt Z Z (.u Z Z (.nil (b5 (.q ?_))))))))))))))
   obtain⟨a27,ha27,a30,ha30,h⟩:=b2 h
   refine AWP.z (.j Z Z (.j Z Z (.j Z Z (S.idx ha27 Z Z Z Z (W.loadIAgg Z Z Z Z Z (.j Z Z (.U Z Z (ak0 Z hcvcmp) Z (hcmp ha30) Z (.J Z Z Z (.nil (b5 (.ite Z h (fun hc8 h=> ?_) (fun hc8 h=> ?_))))))))))))
   ·refine AWP.z (.j Z Z (S.add Z Z Z (.u Z Z (.nil (d6 ?_)))))
    obtain rfl:=oi h
    refine b5 ⟨_,Z,?_⟩
    exact Sub.env ⟨Z,Z,Z,Z,Z,Z,Y⟩
   ·refine AWP.z (.j Z Z (.u Z Z (.nil (d6 ?_))))
    obtain rfl:=oi h
    refine b5 ⟨_,Z,?_⟩
    exact Sub.env ⟨Z,Z,Z,Z,Z,Z,Y⟩
  ·refine AWP.exit (d8 ?_)
   obtain rfl:=oi h
   refine d8 ⟨_,Z,Z,?_⟩
   exact Sub.env ⟨Z,Z,Z,Z,Z,Y⟩
 ·intro e s hq
  obtain⟨rfl,hs⟩:=hq
  refine⟨_,hs,?_⟩
  refine g8 (b5 ?_)
  obtain⟨t9,hx10,h⟩:=bind_some h
  refine AWP.seqJ (⟨[(6,.c (int iv6)),(7,.c (bool t9))],[]⟩) ?_ ?_
  ·rcases bft (decide (iv6<(xv.length:Int))) with hb11|hb11
   ·replace hx10:=J5 hb11 hx10
    obtain⟨a43,ha43,a46,ha46,hx10⟩:=b2 hx10
    refine AWP.z (.j Z Z (.j Z Z (.j Z Z (.J Z Z Z (.j Z Z (.B Z Z Z hb11 (.j Z Z (.B Z Z Z hb11 (.j Z Z (.B Z Z Z hb11 (.j Z Z (.B Z Z Z hb11 (S.idx ha43 Z Z Z Z (.B Z Z Z hb11 (W.loadIAgg Z Z Z Z Z (.B Z Z Z hb11 (.j Z Z (.B Z Z Z hb11 (.U Z Z (ak0 Z hcvcmp) Z (hcmp ha46) Z (.B Z Z Z hb11 (.eql Z Z Z (.aa Z hb11 Z Z (.u Z Z (.u Z Z (.nil ?_)))))))))))))))))))))))))
    obtain rfl:=oi hx10
    refine b5 (Sub.env ⟨Z,Z,Y⟩)
   ·replace hx10:=J9 hb11 hx10
    refine AWP.z (.j Z Z (.j Z Z (.j Z Z (.J Z Z Z (.j Z Z (.E Z Z Z hb11 (.E Z Z Z hb11 (.E Z Z Z hb11 (.E Z Z Z hb11 (.E Z Z Z hb11 (.E Z Z Z hb11 (.E Z Z Z hb11 (.E Z Z Z hb11 (.ab Z hb11 Z Z (.u Z Z (.u Z Z (.nil ?_)))))))))))))))))
    obtain rfl:=oi hx10
    refine b5 (Sub.env ⟨Z,Z,Y⟩)
  ·refine AWP.ret ?_
   obtain rfl:=oi h
   exact Done.ret Z Z
theorem ay7{c:d9}{sv:Li}{r:Int}(h:open_Chosen_1 c sv=some r):e8 prog 84 [.agg [row 1 intI c.state,int c.operator],.c (row 1 intI sv)] (.c (int r)):=by
 unfold e8
 refine FnOk.enter (rs:=[.t 4]) func84 Z ntmps84 results84 Z ⟨trivial,Y⟩ (by kernel_rfl) Z ?_
 unfold open_Chosen_1 at h
 refine AWP.q (.z (W.box Z Z Z Z Z Z (.u Z Z (.nil (b5 (.q ?_))))))
 obtain⟨a8,ha8,h⟩:=bind_some h
 refine AWP.z (W.fieldAddr Z Z Z Z (.F Z Z Z Z Z Z (.j Z Z (.U Z Z Z Z (x5 ha8) Z (.u Z Z (.nil (b5 (.ret ?_))))))))
 obtain rfl:=oi h
 exact Done.ret Z Z
theorem aj6{policy:List d9}{sv:Li}{r:Int}(h:J6 policy sv=some r):e8 prog 38 [.c (row 2 i9 policy),.c (row 1 intI sv)] (.c (int r)):=by
 unfold e8
 refine FnOk.enter (rs:=[.t 4]) func38 Z ntmps38 results38 Z ⟨trivial,Y⟩ (by kernel_rfl) Z ?_
 unfold J6 at h
 refine AWP.q (.z (.u Z Z (.nil (b5 (.q ?_)))))
 obtain⟨a10,ha10,h⟩:=bind_some h
 refine AWP.z (.j Z Z (.j Z Z (.U Z Z Z Z (B6 Z (fun hy=>ay7 hy) ha10) Z ?_)))
 refine AOps.j Z Z (.ac Z Z Z (.ac Z Z Z (.u Z Z (.u Z Z (.nil (b5 (.q (.q (.z (.j Z Z (.not Z Z (.nil (b5 (.ag Z h (fun hc3 h=> ?_) (fun hc3 h=> ?_)))))))))))))))
 ·refine AWP.q (.z (.u Z Z (.nil (b5 (.ret (e7 ?_))))))
  obtain rfl:=oi h
  exact Done.ret Z Z
 ·refine AWP.skip (b5 (.q ?_))
  obtain⟨a17,ha17,h⟩:=bind_some h
  refine AWP.z (.j Z Z (.j Z Z (S.idx ha17 Z Z Z Z (W.fieldAddrI Z Z Z Z (.ad Z Z Z Z (.u Z Z (.nil (b5 (.ret ?_)))))))))
  obtain rfl:=oi h
  exact Done.ret Z Z
theorem ay4{c:d9}{sv:Li}{r:Int}(h:D5 c sv=some r):e8 prog 52 [.agg [row 1 intI c.state,int c.operator],.c (row 1 intI sv)] (.c (int r)):=by
 unfold e8
 refine FnOk.enter (rs:=[.t 4]) func52 Z ntmps52 results52 Z ⟨trivial,Y⟩ (by kernel_rfl) Z ?_
 unfold D5 at h
 refine AWP.q (.z (W.box Z Z Z Z Z Z (.u Z Z (.nil (b5 (.q ?_))))))
 obtain⟨a8,ha8,h⟩:=bind_some h
 refine AWP.z (W.fieldAddr Z Z Z Z (.F Z Z Z Z Z Z (.j Z Z (.U Z Z Z Z (x5 ha8) Z (.u Z Z (.nil (b5 (.ret ?_))))))))
 obtain rfl:=oi h
 exact Done.ret Z Z
theorem strong_Build_ok{ov:d4}{choose:Li→Option Int}{r:(List d9)×Bool}{fvchoose:FuncId}{cvchoose:List C}(hcvchoose:C.okL 0 cvchoose=true)(hchoose:∀{y1:Li} {z:Int},choose y1=some z→e8 prog fvchoose ([.c (row 1 intI y1)]++cvchoose.map T.c) (.c (int z)))(h:P2 ov choose=some r):e8 prog 23 [.agg (tO ov),.c (.fn fvchoose cvchoose)] (.tup [.c (row 2 i9 r.1),.c (bool r.2)]):=by
 unfold e8
 refine FnOk.enter (rs:=[.t 4,.t 5]) func23 Z ntmps23 results23 Z ⟨trivial,trivial,Y⟩ (by kernel_rfl) Z ?_
 unfold P2 at h
 refine AWP.q (.z (W.box Z Z Z Z Z Z (.u Z Z (.u Z Z (.nil (b5 (.q (.z (.u Z Z (.nil (b5 (.q (.z (W.fieldAddr Z Z Z Z (.F Z Z Z Z Z Z (S.lit (f:=e9) (l:=[ov.init]) (ess:=[[row 1 intI ov.init]]) Z Z Z Z Z Z Z ⟨⟨.inl Z,Y⟩,Y⟩ Z Z Z (.u Z Z (.nil (b5 (.q (.q (.z (.u Z Z (.nil (b5 (.O (.virtV 2 i9 6 Z Z Z ?_)))))))))))))))))))))))))))
 obtain⟨oo,ho1,h⟩:=bind_some h
 refine AWP.loopS ho1 (fun(c3,c4,atv5)=>⟨[(1,.c (.fn fvchoose cvchoose)),(2,.c (.ptr 0 0 0)),(6,.c (.own 2 0 c4.length)),(7,.c (.own 1 0 c3.length)),(8,.c (int atv5))],[.one (.cells 4 [(tO ov)]),.one (vec 1 e9 c3),.one (vec 2 i9 c4)]⟩) (fun o e st=>match o with| .inl c6=>e=.exit 0∧Sub [] st ⟨[(6,.c (.own 2 0 c6.length))],[.dead,.dead,.one (vec 2 i9 c6)]⟩| .inr x=>e=.ret∧Done [.t 4,.t 5] (fun t _=>t=.tup [.c (row 2 i9 x.1),.c (bool x.2)]) .ret st) ?_ ?_ ?_
 ·try dsimp only
  exact Sub.env ⟨Z,Z,(J3 (by first|rfl|simp only[lS])),Z,Z,Y⟩
 ·intro s o h
  obtain⟨c3,c4,atv5⟩:=s
  unfold A8 at h
  try dsimp only at h ⊢
  refine AWP.q (.q (.z (.j Z Z (.j Z Z (S.lenO Z Z Z (fun hl20=>.J Z Z Z (.nil (b5 (.ite Z h (fun hc7 h=> ?_) (fun hc7 h=> ?_))))))))))
  ·refine AWP.skip (b5 (.seqF ((L6 atv5)) o (fun(c8,c9)=>⟨[(1,.c (.fn fvchoose cvchoose)),(2,.c (.ptr 0 0 0)),(6,.c (.own 2 0 c9.length)),(7,.c (.own 1 0 c8.length)),(8,.c (int atv5))],[.one (.cells 4 [(tO ov)]),.one (vec 1 e9 c8),.one (vec 2 i9 c9)]⟩) (fun x h=> ?_) ?_))
   ·obtain⟨c8,c9⟩:=x
    unfold L6 at h
    try dsimp only at h ⊢
    refine AWP.z (.j Z Z (S.add Z Z Z (.u Z Z (.nil ?_))))
    obtain rfl:=oi h
    refine b5 ⟨_,Z,?_⟩
    exact Sub.env ⟨Z,Z,Z,Z,Z,Y⟩
   ·refine AWP.O (.q ?_)
    obtain⟨a26,ha26,h⟩:=bind_some h
    refine AWP.z (.j Z Z (.j Z Z (S.idxO ha26 Z Z Z Z Z (S.loadO ha26 Z Z Z Z Z (.u Z Z (.nil (b5 (.q ?_))))))))
    obtain⟨t10,hx11,h⟩:=bind_some h
    refine AWP.seqJ (⟨[(1,.c (.fn fvchoose cvchoose)),(2,.c (.ptr 0 0 0)),(6,.c (.own 2 0 c4.length)),(7,.c (.own 1 0 c3.length)),(8,.c (int atv5)),(9,.c (row 1 intI a26)),(37,.c (bool t10))],[.one (.cells 4 [(tO ov)]),.one (vec 1 e9 c3),.one (vec 2 i9 c4)]⟩) ?_ ?_
    ·obtain⟨a31,ha31,hx11⟩:=bind_some hx11
     rcases bft (a31) with hb12|hb12
     ·replace hx11:=ac2 hb12 hx11
      refine AWP.z (.j Z Z (W.fieldAddr Z Z Z Z (.F Z Z Z Z Z Z (.U Z Z Z Z (G0 ha31) Z (.j Z Z (.E Z Z Z hb12 (.E Z Z Z hb12 (.E Z Z Z hb12 (.E Z Z Z hb12 (.aa Z hb12 Z Z (.nil ?_)))))))))))
      obtain rfl:=oi hx11
      refine b5 (Sub.env ⟨Z,Z,Z,Z,Z,Z,Z,Y⟩)
     ·replace hx11:=ac1 hb12 hx11
      obtain⟨a35,ha35,hx11⟩:=bind_some hx11
      refine AWP.z (.j Z Z (W.fieldAddr Z Z Z Z (.F Z Z Z Z Z Z (.U Z Z Z Z (G0 ha31) Z (.j Z Z (.B Z Z Z hb12 (.j Z Z (.B Z Z Z hb12 (.j Z Z (.B Z Z Z hb12 (.callL Z Z (.cons (.c (.own Z Z)) (.cons (.c .imm) .nil)) Z (aj6 ha35) Z (.B Z Z Z hb12 (.geq Z Z Z (.ab Z hb12 Z Z (.nil ?_)))))))))))))))
      obtain rfl:=oi hx11
      refine b5 (Sub.env ⟨Z,Z,Z,Z,Z,Z,Z,Y⟩)
    ·refine AWP.ag Z h (fun hc13 h=> ?_) (fun hc13 h=> ?_)
     ·refine AWP.exit (d8 (g8 (b5 ⟨_,h,?_⟩)))
      exact Sub.env ⟨Z,Z,Z,Z,Z,Y⟩
     ·refine AWP.skip (b5 (.q (.q (.z (.j Z Z (S.lenO Z Z Z (fun hl39=>.eql Z Z Z (.nil (b5 (.ite Z h (fun hc14 h=> ?_) (fun hc14 h=> ?_)))))))))))
      ·refine AWP.q (.z (.u Z Z (.u Z Z (.nil (b5 (.nilrow 2 4 Z (.ret (e7 (i8 (e7 ?_))))))))))
       obtain rfl:=oi h
       refine e7 ⟨_,Z,Z,?_⟩
       exact Done.ret Z Z
      ·refine AWP.skip (b5 (.q ?_))
       obtain⟨a43,ha43,h⟩:=bind_some h
       refine AWP.z (.j Z Z (.j Z Z (.U Z Z (ak0 Z hcvchoose) Z (hchoose ha43) Z (.u Z Z (.nil (b5 (.q ?_)))))))
       obtain⟨a47,ha47,h⟩:=bind_some h
       refine AWP.z (.j Z Z (.j Z Z (.callL Z Z (.cons (.c (.own Z Z)) (.cons (.c .imm) (.cons (.c (.fn .nil)) .nil))) Z (B6 Z (fun hy=>ay4 hy) ha47) Z ?_)))
       refine AOps.j Z Z (.ac Z Z Z (.ac Z Z Z (.u Z Z (.u Z Z (.nil (b5 (.q ?_)))))))
       obtain⟨a53,ha53,a57,ha57,h⟩:=b2 h
       refine AWP.z (.j Z Z (.j Z Z (.j Z Z (S.fresh Z Z Z Z (m8 ha53) Z Z (.j Z Z (W.build Z Z Z Z (.frzV (id:=3) (l:=a53) (env2:=[(1,.c (.fn fvchoose cvchoose)),(2,.c (.ptr 0 0 0)),(7,.c (.own 1 0 c3.length)),(8,.c (int atv5)),(9,.c (row 1 intI a26)),(10,.c (int a43)),(50,.c (.own 2 0 c4.length)),(51,.c (int a47.1)),(55,.agg [row 1 intI a53,int a43])]) (σ2:=[.one (.cells 4 [(tO ov)]),.one (vec 1 e9 c3),.one (vec 2 i9 c4),.dead]) Z Z (by exact⟨⟨_,Z,.inl ⟨Z,fnNo hcvchoose⟩⟩,⟨_,Z,.inl ⟨Z,Z⟩⟩,⟨_,Z,.inl ⟨Z,Z⟩⟩,⟨_,Z,.inl ⟨Z,Z⟩⟩,⟨_,Z,.inl ⟨Z,Z⟩⟩,⟨_,Z,.inl ⟨Z,Z⟩⟩,⟨_,Z,.inl ⟨Z,Z⟩⟩,⟨_,Z,.inl ⟨Z,Z⟩⟩,⟨_,Z,⟨.inr ⟨_,Z,Z,Z⟩,.inl ⟨Z,Z⟩,Y⟩⟩,Y⟩) Z (by exact⟨⟨Z,.inl ⟨Z,Z⟩,.inl ⟨Z,Z⟩,.inl ⟨Z,Z⟩,.inl ⟨Z,Z⟩,Y⟩,FrzB.vec,FrzB.vec,trivial,Y⟩) (S.lit (f:=i9) (l:=[(⟨a53,a43⟩:d9)]) (ess:=[[row 1 intI a53,int a43]]) Z Z Z Z Z Z Z ⟨⟨.inl Z,.inl Z,Y⟩,Y⟩ Z Z Z (S.insert (f:=i9) ha57 Z Z Z Z Z Z Z Z Z Z Z (.u Z Z (.nil (b5 (.q (.j (env':=[(1,.c (.fn fvchoose cvchoose)),(2,.c (.ptr 0 0 0)),(6,.c (.own 2 0 a57.length)),(7,.c (.own 1 0 c3.length)),(8,.c (int atv5)),(9,.c (row 1 intI a26)),(10,.c (int a43))]) (σ':=[.one (.cells 4 [(tO ov)]),.one (vec 1 e9 c3),.one (vec 2 i9 a57),.dead,.one (vec 2 i9 [(⟨a53,a43⟩:d9)])]) 2 5 Z Z Z ⟨fnMv hcvchoose Z,Z,Z,Z,Z,Z,Z,Y⟩ (eOk1 (fnOk (f:=fvchoose) hcvchoose) (eOk1 Z (eOk1 Z (eOk1 Z (eOk1 Z (eOk1 Z (eOk1 Z Z))))))) ⟨⟨Z,Z⟩,⟨Blk.im_ok _ _ _,i6 Z⟩,⟨Blk.im_ok _ _ _,i6 Z⟩,trivial,⟨Blk.im_ok _ _ _,i6 Z⟩,Y⟩ ?_))))))))))))))
       obtain⟨a62,ha62,h⟩:=bind_some h
       refine AWP.z (W.loadAgg Z Z Z Z Z Z Z (.j Z Z (.j Z Z (.U Z Z Z Z (Y3 ha62) Z (.j Z Z (.ac Z Z Z (.ac Z Z Z (.u Z Z (.u Z Z (.nil (b5 ?_)))))))))))
       obtain⟨a67,ha67,h⟩:=bind_some h
       refine AWP.z (.j Z Z (.j Z Z (S.append (f:=e9) ha67 Z Z Z Z Z Z .row Z Z Z Z (.u Z Z (.nil (d6 (b5 ⟨_,h,?_⟩)))))))
       exact(Sub.move (env':=[(1,.c (.fn fvchoose cvchoose)),(2,.c (.ptr 0 0 0)),(6,.c (.own 2 0 a57.length)),(7,.c (.own 1 0 a67.length)),(8,.c (int atv5))]) (σ':=[.one (.cells 4 [(tO ov)]),.one (vec 1 e9 a67),.one (vec 2 i9 a57),.dead,.one (vec 2 i9 [(⟨a53,a43⟩:d9)])]) 1 5 Z Z Z ⟨fnMv hcvchoose Z,Z,Z,Z,Z,Y⟩ (eOk1 (fnOk (f:=fvchoose) hcvchoose) (eOk1 Z (eOk1 Z (eOk1 Z (eOk1 Z Z))))) ⟨⟨Z,Z⟩,⟨Blk.im_ok _ _ _,i6 Z⟩,⟨Blk.im_ok _ _ _,i6 Z⟩,trivial,⟨Blk.im_ok _ _ _,i6 Z⟩,Y⟩).trans (Sub.cut ⟨Z,Z,Z,Z,Z,Y⟩ Z ⟨.one Z,.vec,.vec,Y⟩ (eOk1 (fnOk (f:=fvchoose) hcvchoose) (eOk1 Z (eOk1 Z (eOk1 Z (eOk1 Z Z))))))
  ·refine AWP.exit (d8 ?_)
   obtain rfl:=oi h
   refine d8 ⟨_,Z,Z,?_⟩
   exact Sub.cut ⟨Z,Y⟩ Z ⟨.dead,.dead,.vec,Y⟩ Z
 ·intro e s hq
  rcases oo with c6|x
  ·try dsimp only at h hq
   obtain⟨rfl,hs⟩:=hq
   refine⟨_,hs,?_⟩
   refine g8 (b5 (.q (.z (.j Z Z (.u Z Z (.u Z Z (.nil (b5 (.frzV (id:=2) (l:=c6) (env2:=[(4,.c (row 2 i9 c6)),(5,.c (bool true))]) (σ2:=[.dead,.dead,.dead]) Z Z (by exact⟨⟨_,Z,.inr ⟨_,Z,Z,Z⟩⟩,⟨_,Z,.inl ⟨Z,Z⟩⟩,Y⟩) Z (by exact⟨trivial,trivial,trivial,Y⟩) (.ret ?_))))))))))
   obtain rfl:=oi h
   exact Done.ret Z Z
  ·try dsimp only at h hq
   obtain⟨rfl,hs⟩:=hq
   refine⟨_,Sub.refl _ _,?_⟩
   refine i8 (e7 ?_)
   obtain rfl:=oi h
   exact hs
theorem ap2{ov:d4}{r:(List d9)×Bool×k6}(h:v7 ov=some r):e8 prog 7 [.agg (tO ov)] (.tup [.c (row 2 i9 r.1),.c (bool r.2.1),.agg [int r.2.2.code,int r.2.2.index]]):=by
 unfold e8
 refine FnOk.enter (rs:=[.t 2,.t 3,.cell 4 32 2]) func7 Z ntmps7 results7 Z ⟨trivial,trivial,rv _ Z,Y⟩ (by kernel_rfl) Z ?_
 unfold v7 at h
 refine AWP.q (.z (W.box Z Z Z Z Z Z (.u Z Z (.u Z Z (W.alloc Z Z Z Z (.nil (b5 (.q ?_))))))))
 obtain⟨a12,ha12,h⟩:=bind_some h
 refine AWP.z (W.loadAgg Z Z Z Z Z Z Z (.U Z Z Z Z (open_Explore_ok ha12) Z (.j Z Z (.ac Z Z Z (.ac Z Z Z (W.alloc Z Z Z Z (W.alloc Z Z Z Z (W.store Z Z Z Z Z (W.storeAgg Z Z Z Z Z Z Z (.nil (b5 (.q (.q (.z (W.loadAgg Z Z Z Z Z Z Z (W.build Z Z Z Z (.neqP Z Z Z Z Z Z Z (.nil (b5 (.ag Z h (fun hc2 h=> ?_) (fun hc2 h=> ?_)))))))))))))))))))))
 ·refine AWP.q (.drawEI [3] mixed Z Z Z ?_)
  refine e6.consN Z Z (fun E=>W.loadAgg Z Z Z Z Z Z Z .N) Z (.consN Z Z (fun E=>AOps.u Z Z .N) Z (.consN Z Z (fun E=>AOps.u Z Z .N) Z ?_))
  apply e6.consE (v:=.undef);exact Z;exact Z;intro E
  refine W.storeAgg Z Z Z Z Z Z Z .N
  exact Z
  exact Z
  refine e6.done Z ?_ ?_
  ·refine d5.cons Z Z (b7.go Z Z (fun E=>W.loadAgg Z Z Z Z Z Z Z .N) (b7.skip Z (b7.nil))) (d5.cons Z Z (b7.go Z Z (fun E=>AOps.u Z Z .N) (b7.skip Z (b7.nil))) (d5.cons Z Z (b7.go Z Z (fun E=>AOps.u Z Z .N) (b7.skip Z (b7.nil))) ?_))
   refine d5.skip Z (d5.nil)
  dsimp only[l7]
  refine b5 (.nilrow 2 2 Z (.ret (e7 ?_)))
  obtain rfl:=oi h
  exact Done.ret Z Z
 ·refine AWP.skip (b5 (.q ?_))
  obtain⟨a21,ha21,h⟩:=bind_some h
  refine AWP.z (W.loadAgg Z Z Z Z Z Z Z (.F Z Z Z Z Z Z (S.fresh Z Z Z Z (strong_ranks_ok ha21) Z Z (W.alloc Z Z Z Z (W.store Z Z Z Z Z (.nil (b5 (.q (.q ?_)))))))))
  obtain⟨a26,ha26,a27,ha27,h⟩:=b2 h
  refine AWP.drawI mixed Z ?_
  refine j6.consF Z (fun E=>AOps.F Z Z Z Z Z Z .N) Z (.consF Z (fun E=>AOps.F Z Z Z Z Z Z .N) Z (.consF Z (fun E=>W.fieldAddr Z Z Z Z .N) Z (.consF Z (fun E=>AOps.F Z Z Z Z Z Z .N) Z (.consF Z (fun E=>AOps.U Z Z Z Z (aq3 ha26) Z .N) Z (.consF Z (fun E=>S.idxO ha27 Z Z Z Z Z .N) Z (.consF Z (fun E=>S.loadO ha27 Z Z Z Z Z .N) Z (.consF Z (fun E=>AOps.J Z Z Z .N) Z ?_)))))))
  refine j6.done ?_
  dsimp only[l7]
  refine b5 (.ite Z h (fun hc3 h=> ?_) (fun hc3 h=> ?_))
  ·refine AWP.q (.z (W.build Z Z Z Z (.u Z Z (.u Z Z (W.storeAgg Z Z Z Z Z Z Z (.nil (b5 (.nilrow 2 2 Z (.ret (e7 ?_))))))))))
   obtain rfl:=oi h
   exact Done.ret Z Z
  ·refine AWP.skip (b5 (.q ?_))
   obtain⟨a34,ha34,h⟩:=bind_some h
   refine AWP.z (W.loadAgg Z Z Z Z Z Z Z (.makeFunc Z Z ?_))
   refine AOps.frzB (id:=0) (e:=[.val (.int .i64 ov.facts),.sl 1 (List.map intI ov.init),.sl 1 (List.map intI ov.goal),.sl 3 (List.map o8 ov.operators)]) (env2:=[(4,.c (.ptr 1 0 0)),(32,.agg (tO ov)),(33,.c (.fn 24 [.imm (.ipt [.val (.int .i64 ov.facts),.sl 1 (List.map intI ov.init),.sl 1 (List.map intI ov.goal),.sl 3 (List.map o8 ov.operators)]),.ptr 2 0 0,.ptr 5 0 0]))]) (σ2:=[.dead,.one (.cells 2 [[int 0,int 0]]),.one (.cells 1 [[row 1 e9 a12.1]]),.one (.cells 2 [[int a12.2.code,int a12.2.index]]),.one (vec 1 intI a21),.one (.cells 1 [[.own 4 0 a21.length]])]) Z Z (by exact⟨⟨_,Z,.inl ⟨Z,Z⟩⟩,⟨_,Z,⟨.inl ⟨Z,Z⟩,.inl ⟨Z,Z⟩,.inl ⟨Z,Z⟩,.inl ⟨Z,Z⟩,Y⟩⟩,⟨_,Z,.inr Z⟩,Y⟩) Z (by exact⟨trivial,⟨Z,.inl ⟨Z,Z⟩,.inl ⟨Z,Z⟩,Y⟩,⟨Z,.inl ⟨Z,Z⟩,Y⟩,⟨Z,.inl ⟨Z,Z⟩,.inl ⟨Z,Z⟩,Y⟩,FrzB.vec,⟨Z,.inl ⟨Z,Z⟩,Y⟩,Y⟩) ?_;refine AOps.frzB (id:=2) (e:=[.sl 1 (List.map e9 a12.1)]) (env2:=[(4,.c (.ptr 1 0 0)),(32,.agg (tO ov)),(33,.c (.fn 24 [.imm (.ipt [.val (.int .i64 ov.facts),.sl 1 (List.map intI ov.init),.sl 1 (List.map intI ov.goal),.sl 3 (List.map o8 ov.operators)]),.imm (.ipt [.sl 1 (List.map e9 a12.1)]),.ptr 5 0 0]))]) (σ2:=[.dead,.one (.cells 2 [[int 0,int 0]]),.dead,.one (.cells 2 [[int a12.2.code,int a12.2.index]]),.one (vec 1 intI a21),.one (.cells 1 [[.own 4 0 a21.length]])]) Z Z (by exact⟨⟨_,Z,.inl ⟨Z,Z⟩⟩,⟨_,Z,⟨.inl ⟨Z,Z⟩,.inl ⟨Z,Z⟩,.inl ⟨Z,Z⟩,.inl ⟨Z,Z⟩,Y⟩⟩,⟨_,Z,.inr Z⟩,Y⟩) Z (by exact⟨trivial,⟨Z,.inl ⟨Z,Z⟩,.inl ⟨Z,Z⟩,Y⟩,trivial,⟨Z,.inl ⟨Z,Z⟩,.inl ⟨Z,Z⟩,Y⟩,FrzB.vec,⟨Z,.inl ⟨Z,Z⟩,Y⟩,Y⟩) ?_;refine AOps.frzV (id:=4) (l:=a21) (env2:=[(4,.c (.ptr 1 0 0)),(32,.agg (tO ov)),(33,.c (.fn 24 [.imm (.ipt [.val (.int .i64 ov.facts),.sl 1 (List.map intI ov.init),.sl 1 (List.map intI ov.goal),.sl 3 (List.map o8 ov.operators)]),.imm (.ipt [.sl 1 (List.map e9 a12.1)]),.ptr 5 0 0]))]) (σ2:=[.dead,.one (.cells 2 [[int 0,int 0]]),.dead,.one (.cells 2 [[int a12.2.code,int a12.2.index]]),.dead,.one (.cells 1 [[row 1 intI a21]])]) Z Z (by exact⟨⟨_,Z,.inl ⟨Z,Z⟩⟩,⟨_,Z,⟨.inl ⟨Z,Z⟩,.inl ⟨Z,Z⟩,.inl ⟨Z,Z⟩,.inl ⟨Z,Z⟩,Y⟩⟩,⟨_,Z,.inl ⟨Z,Z⟩⟩,Y⟩) Z (by exact⟨trivial,⟨Z,.inl ⟨Z,Z⟩,.inl ⟨Z,Z⟩,Y⟩,trivial,⟨Z,.inl ⟨Z,Z⟩,.inl ⟨Z,Z⟩,Y⟩,trivial,⟨Z,.inr ⟨_,Z,Z,Z⟩,Y⟩,Y⟩) ?_;refine AOps.frzB (id:=5) (e:=[.sl 1 (List.map intI a21)]) (env2:=[(4,.c (.ptr 1 0 0)),(32,.agg (tO ov)),(33,.c (.fn 24 [.imm (.ipt [.val (.int .i64 ov.facts),.sl 1 (List.map intI ov.init),.sl 1 (List.map intI ov.goal),.sl 3 (List.map o8 ov.operators)]),.imm (.ipt [.sl 1 (List.map e9 a12.1)]),.imm (.ipt [.sl 1 (List.map intI a21)])]))]) (σ2:=[.dead,.one (.cells 2 [[int 0,int 0]]),.dead,.one (.cells 2 [[int a12.2.code,int a12.2.index]]),.dead,.dead]) Z Z (by exact⟨⟨_,Z,.inl ⟨Z,Z⟩⟩,⟨_,Z,⟨.inl ⟨Z,Z⟩,.inl ⟨Z,Z⟩,.inl ⟨Z,Z⟩,.inl ⟨Z,Z⟩,Y⟩⟩,⟨_,Z,.inr Z⟩,Y⟩) Z (by exact⟨trivial,⟨Z,.inl ⟨Z,Z⟩,.inl ⟨Z,Z⟩,Y⟩,trivial,⟨Z,.inl ⟨Z,Z⟩,.inl ⟨Z,Z⟩,Y⟩,trivial,trivial,Y⟩) ?_;refine AOps.U Z Z Z Z (strong_Build_ok Z (fun hy=>ax7 hy) ha34) Z ?_
   refine AOps.j Z Z (.ac Z Z Z (.ac Z Z Z (.u Z Z (.u Z Z (.nil (b5 (.q (.q (.z (.j Z Z (.not Z Z (.nil (b5 (.ag Z h (fun hc4 h=> ?_) (fun hc4 h=> ?_)))))))))))))))
   ·refine AWP.q (.z (W.build Z Z Z Z (.u Z Z (.u Z Z (W.storeAgg Z Z Z Z Z Z Z (.nil (b5 (.nilrow 2 2 Z (.ret (e7 ?_))))))))))
    obtain rfl:=oi h
    exact Done.ret Z Z
   ·refine AWP.skip (b5 (.q (.z (.j Z Z (W.build Z Z Z Z (.u Z Z (.u Z Z (W.storeAgg Z Z Z Z Z Z Z (.nil (b5 (.ret ?_)))))))))))
    obtain rfl:=oi h
    exact Done.ret Z Z
theorem at0{ov:d4}{policy:List d9}{r:k6}(h:I8 ov policy=some r):e8 prog 35 [.agg (tO ov),.c (row 2 i9 policy)] (.agg [int r.code,int r.index]):=by
 unfold e8
 refine FnOk.enter (rs:=[.cell 4 32 2]) func35 Z ntmps35 results35 Z ⟨rv _ Z,Y⟩ (by kernel_rfl) Z ?_
 unfold I8 at h
 refine AWP.q (.z (W.box Z Z Z Z Z Z (W.alloc Z Z Z Z (.nil (b5 (.q (.q ?_)))))))
 obtain⟨a10,ha10,h⟩:=bind_some h
 refine AWP.z (W.loadAgg Z Z Z Z Z Z Z (.U Z Z Z Z (ae2 ha10) Z (W.alloc Z Z Z Z (W.storeAgg Z Z Z Z Z Z Z (.nil (b5 (.q (.z (W.loadAgg Z Z Z Z Z Z Z (W.build Z Z Z Z (.neqP Z Z Z Z Z Z Z (.nil (b5 (.ag Z h (fun hc3 h=> ?_) (fun hc3 h=> ?_)))))))))))))))
 ·refine AWP.q (.z (W.loadAgg Z Z Z Z Z Z Z (W.storeAgg Z Z Z Z Z Z Z (.nil (b5 (.ret (e7 ?_)))))))
  obtain rfl:=oi h
  exact Done.ret Z Z
 ·refine AWP.skip (b5 (.q (.q (.z (.j Z Z (S.len Z Z (fun hl16=>.gtr Z Z Z (.nil (b5 (.ite Z h (fun hc4 h=> ?_) (fun hc4 h=> ?_)))))))))))
  ·refine AWP.q (.z (W.build Z Z Z Z (W.storeAgg Z Z Z Z Z Z Z (.nil (b5 (.ret (e7 ?_)))))))
   obtain rfl:=oi h
   exact Done.ret Z Z
  ·refine AWP.skip (b5 (.q (.q (.z (.j Z Z (S.len Z Z (fun hl20=>.j Z Z (.nil (b5 (.O ?_))))))))))
   obtain⟨oo,ho1,h⟩:=bind_some h
   refine AWP.rngS ho1 (fun t5 _=>⟨[(1,.c (row 2 i9 policy)),(2,.c (.ptr 0 0 0)),(4,.c (.ptr 1 0 0)),(19,.c (row 2 i9 policy)),(20,.c (int (policy.length:Int))),(21,.c (int t5))],[.one (.cells 4 [(tO ov)]),.one (.cells 2 [[int 0,int 0]])]⟩) (fun o e st=>match o with| .inl _=>e=.exit 0∧Sub [] st ⟨[(4,.c (.ptr 1 0 0))],[.one (.cells 4 [(tO ov)]),.one (.cells 2 [[int 0,int 0]])]⟩| .inr x=>e=.ret∧Done [.cell 4 32 2] (fun t _=>t=.agg [int x.code,int x.index]) .ret st) ?_ ?_ ?_ ?_
   ·try dsimp only
    exact Sub.cut ⟨Z,Z,Z,Z,Z,Z,Y⟩ Z ⟨.one Z,.one Z,Y⟩ Z
   ·intro t5 s hlot5 hltt5 _
    try dsimp only
    refine AWP.q (.z (.J Z Z Z (.nil (b5 (.q (.ae Z hltt5 (.exit (d8 (d8 ⟨Z,?_⟩)))))))))
    exact Sub.env ⟨Z,Y⟩
   ·intro t5 s o hlot5 hltt5 h
    unfold F4 at h
    try dsimp only at h ⊢
    refine AWP.q (.z (.J Z Z Z (.nil (b5 (.q (.af Z hltt5 (.skip (b5 (.q (.O (.q ?_)))))))))))
    obtain⟨a24,ha24,h⟩:=bind_some h
    refine AWP.z (.j Z Z (S.idx ha24 Z Z Z Z (W.loadIAgg Z Z Z Z Z (W.alloc Z Z Z Z (.u Z Z (W.storeAgg Z Z Z Z Z Z Z (.nil (b5 (.q (.z (.u Z Z (.nil (b5 ?_)))))))))))))
    obtain⟨ev6,hx7,h⟩:=bind_some h
    refine AWP.seqJ (⟨[(1,.c (row 2 i9 policy)),(2,.c (.ptr 0 0 0)),(4,.c (.ptr 1 0 0)),(6,.c (int t5)),(8,.c (int ev6)),(19,.c (row 2 i9 policy)),(20,.c (int (policy.length:Int))),(21,.c (int t5))],[.one (.cells 4 [(tO ov)]),.one (.cells 2 [[int 0,int 0]])]⟩) ?_ ?_
    ·refine AWP.O ?_
     obtain⟨t8,hx9,hx7⟩:=bind_some hx7
     refine AWP.seqJ (⟨[(1,.c (row 2 i9 policy)),(2,.c (.ptr 0 0 0)),(4,.c (.ptr 1 0 0)),(6,.c (int t5)),(7,.c (.ptr 2 0 0)),(8,.c (int 0)),(19,.c (row 2 i9 policy)),(20,.c (int (policy.length:Int))),(21,.c (int t5)),(26,.c (bool t8))],[.one (.cells 4 [(tO ov)]),.one (.cells 2 [[int 0,int 0]]),.one (.cells 2 [[row 1 intI a24.state,int a24.operator]])]⟩) ?_ ?_
     ·obtain⟨a31,ha31,hx9⟩:=bind_some hx9
      rcases bft (!a31) with hb10|hb10
      ·replace hx9:=ac2 hb10 hx9
       refine AWP.drawI mixed Z ?_
       refine j6.consF Z (fun E=>W.fieldAddr Z Z Z Z .N) Z (.consF Z (fun E=>AOps.F Z Z Z Z Z Z .N) Z (.consF Z (fun E=>W.fieldAddr Z Z Z Z .N) Z (.consF Z (fun E=>AOps.F Z Z Z Z Z Z .N) Z (.consF Z (fun E=>AOps.U Z Z Z Z (m5 ha31) Z .N) Z (.consF Z (fun E=>AOps.not Z Z .N) Z (.consF Z (fun E=>AOps.j Z Z .N) Z (.consF Z (fun E=>AOps.E Z Z Z hb10 .N) Z (.consF Z (fun E=>AOps.E Z Z Z hb10 .N) Z (.consF Z (fun E=>AOps.E Z Z Z hb10 .N) Z (.consF Z (fun E=>AOps.ah Z Z Z .N) Z (.consF Z (fun E=>AOps.ah Z Z Z .N) Z (.consF Z (fun E=>AOps.ah Z Z Z .N) Z (.consF Z (fun E=>AOps.ah Z Z Z .N) Z (.consF Z (fun E=>AOps.ah Z Z Z .N) Z (.consF Z (fun E=>AOps.ah Z Z Z .N) Z (.consF Z (fun E=>AOps.ah Z Z Z .N) Z (.consF Z (fun E=>AOps.ah Z Z Z .N) Z (.consF Z (fun E=>AOps.ah Z Z Z .N) Z (.consF Z (fun E=>AOps.ah Z Z Z .N) Z (.consF Z (fun E=>AOps.E Z Z Z hb10 .N) Z (.consF Z (fun E=>AOps.aa Z hb10 Z Z .N) Z (.consF Z (fun E=>AOps.u Z Z .N) Z ?_))))))))))))))))))))))
       refine j6.done ?_
       dsimp only[l7]
       obtain rfl:=oi hx9
       refine b5 (Sub.env ⟨Z,Z,Z,Z,Z,Z,Z,Z,Z,Z,Y⟩)
      ·replace hx9:=ac1 hb10 hx9
       rcases bft (decide (0<t5)) with hb11|hb11
       ·replace hx9:=J5 hb11 hx9
        obtain⟨a40,ha40,a45,ha45,hx9⟩:=b2 hx9
        refine AWP.drawI mixed Z ?_
        refine j6.consF Z (fun E=>W.fieldAddr Z Z Z Z .N) Z (.consF Z (fun E=>AOps.F Z Z Z Z Z Z .N) Z (.consF Z (fun E=>W.fieldAddr Z Z Z Z .N) Z (.consF Z (fun E=>AOps.F Z Z Z Z Z Z .N) Z (.consF Z (fun E=>AOps.U Z Z Z Z (m5 ha31) Z .N) Z (.consF Z (fun E=>AOps.not Z Z .N) Z (.consF Z (fun E=>AOps.j Z Z .N) Z (.consF Z (fun E=>AOps.B Z Z Z hb10 (.j Z Z .N)) Z (.consF Z (fun E=>AOps.B Z Z Z hb10 (.gtr Z Z Z .N)) Z (.consF Z (fun E=>AOps.B Z Z Z hb10 (.j Z Z .N)) Z (.consF Z (fun E=>AOps.B Z Z Z hb11 (.j Z Z .N)) Z (.consF Z (fun E=>AOps.B Z Z Z hb11 (.j Z Z .N)) Z (.consF Z (fun E=>AOps.B Z Z Z hb11 (.sub' Z Z Z (by omega) .N)) Z (.consF Z (fun E=>AOps.B Z Z Z hb11 (S.idx ha40 Z Z Z Z .N)) Z (.consF Z (fun E=>AOps.B Z Z Z hb11 (W.fieldAddrI Z Z Z Z .N)) Z (.consF Z (fun E=>AOps.B Z Z Z hb11 (.ad Z Z Z Z .N)) Z (.consF Z (fun E=>AOps.B Z Z Z hb11 (W.fieldAddr Z Z Z Z .N)) Z (.consF Z (fun E=>AOps.B Z Z Z hb11 (.F Z Z Z Z Z Z .N)) Z (.consF Z (fun E=>AOps.B Z Z Z hb11 (.U Z Z Z Z (x5 ha45) Z .N)) Z (.consF Z (fun E=>AOps.B Z Z Z hb11 (.geq Z Z Z .N)) Z (.consF Z (fun E=>AOps.B Z Z Z hb10 (.aa Z hb11 Z Z .N)) Z (.consF Z (fun E=>AOps.ab Z hb10 Z Z .N) Z (.consF Z (fun E=>AOps.u Z Z .N) Z ?_))))))))))))))))))))))
        refine j6.done ?_
        dsimp only[l7]
        obtain rfl:=oi hx9
        refine b5 (Sub.env ⟨Z,Z,Z,Z,Z,Z,Z,Z,Z,Z,Y⟩)
       ·replace hx9:=J9 hb11 hx9
        refine AWP.drawI mixed Z ?_
        refine j6.consF Z (fun E=>W.fieldAddr Z Z Z Z .N) Z (.consF Z (fun E=>AOps.F Z Z Z Z Z Z .N) Z (.consF Z (fun E=>W.fieldAddr Z Z Z Z .N) Z (.consF Z (fun E=>AOps.F Z Z Z Z Z Z .N) Z (.consF Z (fun E=>AOps.U Z Z Z Z (m5 ha31) Z .N) Z (.consF Z (fun E=>AOps.not Z Z .N) Z (.consF Z (fun E=>AOps.j Z Z .N) Z (.consF Z (fun E=>AOps.B Z Z Z hb10 (.j Z Z .N)) Z (.consF Z (fun E=>AOps.B Z Z Z hb10 (.gtr Z Z Z .N)) Z (.consF Z (fun E=>AOps.B Z Z Z hb10 (.j Z Z .N)) Z (.consF Z (fun E=>AOps.E Z Z Z hb11 .N) Z (.consF Z (fun E=>AOps.E Z Z Z hb11 .N) Z (.consF Z (fun E=>AOps.E Z Z Z hb11 .N) Z (.consF Z (fun E=>AOps.E Z Z Z hb11 .N) Z (.consF Z (fun E=>AOps.E Z Z Z hb11 .N) Z (.consF Z (fun E=>AOps.E Z Z Z hb11 .N) Z (.consF Z (fun E=>AOps.E Z Z Z hb11 .N) Z (.consF Z (fun E=>AOps.E Z Z Z hb11 .N) Z (.consF Z (fun E=>AOps.E Z Z Z hb11 .N) Z (.consF Z (fun E=>AOps.E Z Z Z hb11 .N) Z (.consF Z (fun E=>AOps.B Z Z Z hb10 (.ab Z hb11 Z Z .N)) Z (.consF Z (fun E=>AOps.ab Z hb10 Z Z .N) Z (.consF Z (fun E=>AOps.u Z Z .N) Z ?_))))))))))))))))))))))
        refine j6.done ?_
        dsimp only[l7]
        obtain rfl:=oi hx9
        refine b5 (Sub.env ⟨Z,Z,Z,Z,Z,Z,Z,Z,Z,Z,Y⟩)
     ·refine AWP.ag Z hx7 (fun hc12 hx7=> ?_) (fun hc12 hx7=> ?_)
      ·refine AWP.z (.u Z Z (.nil (d6 ?_)))
       obtain rfl:=oi hx7
       refine b5 (Sub.cut ⟨Z,Z,Z,Z,Z,Z,Z,Z,Y⟩ Z ⟨.one Z,.one Z,Y⟩ Z)
      ·refine AWP.seqJ (⟨[(1,.c (row 2 i9 policy)),(2,.c (.ptr 0 0 0)),(4,.c (.ptr 1 0 0)),(6,.c (int t5)),(7,.c (.ptr 2 0 0)),(8,.c (int 0)),(19,.c (row 2 i9 policy)),(20,.c (int (policy.length:Int))),(21,.c (int t5)),(49,.c (bool ((decide (a24.operator<0))||(decide ((ov.operators.length:Int)≤a24.operator)))))],[.one (.cells 4 [(tO ov)]),.one (.cells 2 [[int 0,int 0]]),.one (.cells 2 [[row 1 intI a24.state,int a24.operator]])]⟩) ?_ ?_
       ·rcases bft (decide (a24.operator<0)) with hb1|hb1
        ·refine AWP.z (W.fieldAddr Z Z Z Z (.F Z Z Z Z Z Z (.J Z Z Z (.j Z Z (.E Z Z Z hb1 (.E Z Z Z hb1 (.E Z Z Z hb1 (.E Z Z Z hb1 (.E Z Z Z hb1 (.E Z Z Z hb1 (.aa Z hb1 Z Z (.u Z Z (.nil (b5 ?_))))))))))))))
         simp only[O3 hb1,or_t hb1,Bool.false_or,Bool.true_or,Bool.false_and,Bool.true_and]
         exact Sub.env ⟨Z,Z,Z,Z,Z,Z,Z,Z,Z,Z,Y⟩
        ·refine AWP.z (W.fieldAddr Z Z Z Z (.F Z Z Z Z Z Z (.J Z Z Z (.j Z Z (.B Z Z Z hb1 (W.fieldAddr Z Z Z Z (.B Z Z Z hb1 (.F Z Z Z Z Z Z (.B Z Z Z hb1 (W.fieldAddr Z Z Z Z (.B Z Z Z hb1 (.F Z Z Z Z Z Z ?_))))))))))))
         refine AOps.B Z Z Z hb1 ?_;refine S.len Z Z (fun hl58=> ?_)
         refine AOps.B Z Z Z hb1 (.geq Z Z Z (.ab Z hb1 Z Z (.u Z Z (.nil (b5 ?_)))))
         simp only[J7 hb1,or_f hb1,Bool.false_or,Bool.true_or,Bool.false_and,Bool.true_and]
         exact Sub.env ⟨Z,Z,Z,Z,Z,Z,Z,Z,Z,Z,Y⟩
       ·refine AWP.ag Z hx7 (fun hc13 hx7=> ?_) (fun hc13 hx7=> ?_)
        ·refine AWP.z (.u Z Z (.nil (d6 ?_)))
         obtain rfl:=oi hx7
         refine b5 (Sub.cut ⟨Z,Z,Z,Z,Z,Z,Z,Z,Y⟩ Z ⟨.one Z,.one Z,Y⟩ Z)
        ·refine AWP.q ?_
         obtain⟨a67,ha67,hx7⟩:=bind_some hx7
         refine AWP.z (W.loadAgg Z Z Z Z Z Z Z (W.fieldAddr Z Z Z Z (.F Z Z Z Z Z Z (W.fieldAddr Z Z Z Z (.F Z Z Z Z Z Z (.U Z Z Z Z (at2 ha67) Z (.not Z Z (.u Z Z (.nil (b5 (.ag Z hx7 (fun hc14 hx7=> ?_) (fun hc14 hx7=> ?_))))))))))))
         ·refine AWP.z (.u Z Z (.nil (d6 ?_)))
          obtain rfl:=oi hx7
          refine b5 (Sub.cut ⟨Z,Z,Z,Z,Z,Z,Z,Z,Y⟩ Z ⟨.one Z,.one Z,Y⟩ Z)
         ·refine AWP.skip (d6 ?_)
          obtain rfl:=oi hx7
          refine b5 (Sub.cut ⟨Z,Z,Z,Z,Z,Z,Z,Z,Y⟩ Z ⟨.one Z,.one Z,Y⟩ Z)
    ·refine AWP.q (.z (.j Z Z (.neq Z Z Z (.nil (b5 (.iteN Z h (fun hc15 h=> ?_) (fun hc15 h=> ?_)))))))
     ·refine AWP.q (.z (.j Z Z (.j Z Z (S.sub Z Z Z (W.build Z Z Z Z (W.storeAgg Z Z Z Z Z Z Z (.nil (b5 (.ret (i8 (e7 ?_)))))))))))
      obtain rfl:=oi h
      refine e7 ⟨_,Z,Z,?_⟩
      exact Done.ret Z Z
     ·refine AWP.skip (d6 (b5 (.z (.add Z Z Z (by omega) (.j Z Z (.nil ?_))))))
      obtain rfl:=oi h
      refine b5 ⟨_,Z,?_⟩
      exact Sub.env ⟨Z,Z,Z,Z,Z,Z,Y⟩
   ·intro e s hq
    rcases oo with u|x
    ·try dsimp only at h hq
     obtain⟨rfl,hs⟩:=hq
     refine⟨_,hs,?_⟩
     refine g8 (b5 (.q (.z (W.build Z Z Z Z (W.storeAgg Z Z Z Z Z Z Z (.nil (b5 (.ret ?_))))))))
     obtain rfl:=oi h
     exact Done.ret Z Z
    ·try dsimp only at h hq
     obtain⟨rfl,hs⟩:=hq
     refine⟨_,Sub.refl _ _,?_⟩
     refine i8 (e7 ?_)
     obtain rfl:=oi h
     exact hs
theorem ay1{xv:Li}{c2:Li}{r:Bool}(h:P0 xv c2=some r):e8 prog 81 [.c (row 1 intI xv),.c (.imm (.ipt [.sl 1 (List.map intI c2)]))] (.c (bool r)):=by
 unfold e8
 refine FnOk.enter (rs:=[.t 3]) func81 Z ntmps81 results81 Z ⟨trivial,Y⟩ (by kernel_rfl) Z ?_
 unfold P0 at h
 refine AWP.q (.z (.u Z Z (.nil (b5 (.q ?_)))))
 obtain⟨a6,ha6,h⟩:=bind_some h
 refine AWP.z (.j Z Z (.ad Z Z Z Z (.U Z Z Z Z (Q7 ha6) Z (.u Z Z (.nil (b5 (.ret ?_)))))))
 obtain rfl:=oi h
 exact Done.ret Z Z
theorem an4{sv:LL}{fv:Li→Option Bool}{r:Int}{fvfv:FuncId}{cvfv:List C}(hcvfv:C.okL 0 cvfv=true)(hfv:∀{y1:Li} {z:Bool},fv y1=some z→e8 prog fvfv ([.c (row 1 intI y1)]++cvfv.map T.c) (.c (bool z)))(h:J8 sv fv=some r):e8 prog 116 [.c (row 1 e9 sv),.c (.fn fvfv cvfv)] (.c (int r)):=by
 unfold e8
 refine FnOk.enter (rs:=[.t 4]) func116 Z ntmps116 results116 Z ⟨trivial,Y⟩ (by kernel_rfl) Z ?_
 unfold J8 at h
 refine AWP.q (.z (.u Z Z (.nil (b5 (.q (.q (.z (.j Z Z (S.len Z Z (fun hl7=>.j Z Z (.nil (b5 (.O ?_)))))))))))))
 obtain⟨oo,ho1,h⟩:=bind_some h
 refine AWP.rngS ho1 (fun t3 _=>⟨[(0,.c (row 1 e9 sv)),(1,.c (.fn fvfv cvfv)),(7,.c (int (sv.length:Int))),(8,.c (int t3))],[]⟩) (fun o e st=>match o with| .inl _=>e=.exit 0∧Sub [] st ⟨[],[]⟩| .inr x=>e=.ret∧Done [.t 4] (fun t _=>t=.c (int x)) .ret st) ?_ ?_ ?_ ?_
 ·try dsimp only
  exact Sub.env ⟨Z,Z,Z,Z,Y⟩
 ·intro t3 s hlot3 hltt3 _
  try dsimp only
  refine AWP.q (.z (.J Z Z Z (.nil (b5 (.q (.ae Z hltt3 (.exit (d8 (d8 ⟨Z,?_⟩)))))))))
  exact Sub.env trivial
 ·intro t3 s o hlot3 hltt3 h
  unfold G4 at h
  try dsimp only at h ⊢
  refine AWP.q (.z (.J Z Z Z (.nil (b5 (.q (.af Z hltt3 (.skip (b5 (.q (.O (.q (.z (.j Z Z (.u Z Z (.nil (b5 (.q ?_)))))))))))))))))
  obtain⟨a14,ha14,a16,ha16,h⟩:=b2 h
  refine AWP.z (.j Z Z (.j Z Z (.j Z Z (S.idx ha14 Z Z Z Z (.ad Z Z Z Z (.U Z Z (ak0 Z hcvfv) Z (hfv ha16) Z (.nil (b5 (.ag Z h (fun hc4 h=> ?_) (fun hc4 h=> ?_))))))))))
  ·refine AWP.q (.z (.j Z Z (.u Z Z (.nil (b5 (.ret (i8 (e7 ?_))))))))
   obtain rfl:=oi h
   refine e7 ⟨_,Z,Z,?_⟩
   exact Done.ret Z Z
  ·refine AWP.skip (d6 (b5 (.z (.add Z Z Z (by omega) (.j Z Z (.nil ?_))))))
   obtain rfl:=oi h
   refine b5 ⟨_,Z,?_⟩
   exact Sub.env ⟨Z,Z,Z,Z,Y⟩
 ·intro e s hq
  rcases oo with u|x
  ·try dsimp only at h hq
   obtain⟨rfl,hs⟩:=hq
   refine⟨_,hs,?_⟩
   refine g8 (b5 (.q (.z (.u Z Z (.nil (b5 (.ret ?_)))))))
   obtain rfl:=oi h
   exact Done.ret Z Z
  ·try dsimp only at h hq
   obtain⟨rfl,hs⟩:=hq
   refine⟨_,Sub.refl _ _,?_⟩
   refine i8 (e7 ?_)
   obtain rfl:=oi h
   exact hs
theorem aj5{sv:LL}{fv:Li→Option Bool}{r:Bool}{fvfv:FuncId}{cvfv:List C}(hcvfv:C.okL 0 cvfv=true)(hfv:∀{y1:Li} {z:Bool},fv y1=some z→e8 prog fvfv ([.c (row 1 intI y1)]++cvfv.map T.c) (.c (bool z)))(h:C1 sv fv=some r):e8 prog 80 [.c (row 1 e9 sv),.c (.fn fvfv cvfv)] (.c (bool r)):=by
 unfold e8
 refine FnOk.enter (rs:=[.t 4]) func80 Z ntmps80 results80 Z ⟨trivial,Y⟩ (by kernel_rfl) Z ?_
 unfold C1 at h
 refine AWP.q (.z (.u Z Z (.nil (b5 (.q ?_)))))
 obtain⟨a7,ha7,h⟩:=bind_some h
 refine AWP.z (.j Z Z (.j Z Z (.U Z Z (by simp[T.okL,T.ok,C.ok,C.okL,hcvfv]) Z (an4 hcvfv hfv ha7) Z (.geq Z Z Z (.u Z Z (.nil (b5 (.ret ?_))))))))
 obtain rfl:=oi h
 exact Done.ret Z Z
theorem open_Visited_ok{ov:d4}{policy:List d9}{r:(LL)}(h:aa0 ov policy=some r):r8 prog 36 [.agg (tO ov),.c (row 2 i9 policy)] 1 (List.map e9 r):=by
 unfold r8
 refine FnOk.enter (rs:=[.t 4]) func36 Z ntmps36 results36 Z ⟨trivial,Y⟩ (by kernel_rfl) Z ?_
 unfold aa0 at h
 refine AWP.q (.z (W.box Z Z Z Z Z Z (.u Z Z (.nil (b5 (.q ?_))))))
 obtain⟨a14,ha14,h⟩:=bind_some h
 refine AWP.z (W.fieldAddr Z Z Z Z (.F Z Z Z Z Z Z (S.fresh Z Z Z Z (m8 ha14) Z Z (.frzV (id:=1) (l:=a14) (env2:=[(1,.c (row 2 i9 policy)),(2,.c (.ptr 0 0 0)),(14,.c (row 1 intI a14))]) (σ2:=[.one (.cells 4 [(tO ov)]),.dead]) Z Z (by exact⟨⟨_,Z,.inl ⟨Z,Z⟩⟩,⟨_,Z,.inl ⟨Z,Z⟩⟩,⟨_,Z,.inr ⟨_,Z,Z,Z⟩⟩,Y⟩) Z (by exact⟨⟨Z,.inl ⟨Z,Z⟩,.inl ⟨Z,Z⟩,.inl ⟨Z,Z⟩,.inl ⟨Z,Z⟩,Y⟩,trivial,Y⟩) (S.lit (f:=e9) (l:=[a14]) (ess:=[[row 1 intI a14]]) Z Z Z Z Z Z Z ⟨⟨.inl Z,Y⟩,Y⟩ Z Z Z (.u Z Z (.nil (b5 (.q (.q (.z (.u Z Z (.nil (b5 (.O ?_)))))))))))))))
 obtain⟨c5,ho1,h⟩:=bind_some h
 refine AWP.loopS ho1 (fun(c3,atv4)=>⟨[(1,.c (row 2 i9 policy)),(2,.c (.ptr 0 0 0)),(5,.c (.own 2 0 c3.length)),(6,.c (int atv4))],[.one (.cells 4 [(tO ov)]),.dead,.one (vec 1 e9 c3)]⟩) (fun c5 e st=>e=.exit 0∧Sub [] st ⟨[(5,.c (.own 2 0 c5.length))],[.dead,.dead,.one (vec 1 e9 c5)]⟩) ?_ ?_ ?_
 ·try dsimp only
  exact Sub.env ⟨Z,Z,Z,Z,Y⟩
 ·intro s o h
  obtain⟨c3,atv4⟩:=s
  unfold Y2 at h
  try dsimp only at h ⊢
  refine AWP.q (.q (.z (.j Z Z (.j Z Z (S.lenO Z Z Z (fun hl18=>.J Z Z Z (.nil (b5 (.ite Z h (fun hc6 h=> ?_) (fun hc6 h=> ?_))))))))))
  ·refine AWP.skip (b5 ?_)
   obtain⟨c7,hx8,h⟩:=bind_some h
   refine AWP.seqJ (⟨[(1,.c (row 2 i9 policy)),(2,.c (.ptr 0 0 0)),(5,.c (.own 2 0 c7.length)),(6,.c (int atv4))],[.one (.cells 4 [(tO ov)]),.dead,.one (vec 1 e9 c7)]⟩) ?_ ?_
   ·refine AWP.O (.q ?_)
    obtain⟨a25,ha25,a27,ha27,hx8⟩:=b2 hx8
    refine AWP.z (.j Z Z (.j Z Z (.j Z Z (S.idxO ha25 Z Z Z Z Z (S.loadO ha25 Z Z Z Z Z (.U Z Z Z Z (aj6 ha27) Z (.u Z Z (.nil (b5 (.q ?_))))))))))
    obtain⟨t9,hx10,hx8⟩:=bind_some hx8
    refine AWP.seqJ (⟨[(1,.c (row 2 i9 policy)),(2,.c (.ptr 0 0 0)),(5,.c (.own 2 0 c3.length)),(6,.c (int atv4)),(7,.c (int a27)),(38,.c (bool t9))],[.one (.cells 4 [(tO ov)]),.dead,.one (vec 1 e9 c3)]⟩) ?_ ?_
    ·rcases bft (decide (a27<0)) with hb11|hb11
     ·replace hx10:=J5 hb11 hx10
      refine AWP.drawI mixed Z ?_
      refine j6.consF Z (fun E=>AOps.j Z Z .N) Z (.consF Z (fun E=>AOps.J Z Z Z .N) Z (.consF Z (fun E=>AOps.j Z Z .N) Z (.consF Z (fun E=>AOps.E Z Z Z hb11 .N) Z (.consF Z (fun E=>AOps.E Z Z Z hb11 .N) Z (.consF Z (fun E=>AOps.E Z Z Z hb11 .N) Z (.consF Z (fun E=>AOps.E Z Z Z hb11 .N) Z (.consF Z (fun E=>AOps.E Z Z Z hb11 .N) Z (.consF Z (fun E=>AOps.E Z Z Z hb11 .N) Z (.consF Z (fun E=>AOps.E Z Z Z hb11 .N) Z (.consF Z (fun E=>AOps.aa Z hb11 Z Z .N) Z ?_))))))))))
      refine j6.done ?_
      dsimp only[l7]
      obtain rfl:=oi hx10
      refine b5 (Sub.env ⟨Z,Z,Z,Z,Z,Z,Y⟩)
     ·replace hx10:=J9 hb11 hx10
      obtain⟨a33,ha33,a37,ha37,hx10⟩:=b2 hx10
      refine AWP.drawI mixed Z ?_
      refine j6.consF Z (fun E=>AOps.j Z Z .N) Z (.consF Z (fun E=>AOps.J Z Z Z .N) Z (.consF Z (fun E=>AOps.j Z Z .N) Z (.consF Z (fun E=>AOps.B Z Z Z hb11 (.j Z Z .N)) Z (.consF Z (fun E=>AOps.B Z Z Z hb11 (.j Z Z .N)) Z (.consF Z (fun E=>AOps.B Z Z Z hb11 (S.idxO ha33 Z Z Z Z Z .N)) Z (.consF Z (fun E=>AOps.B Z Z Z hb11 (S.loadO ha33 Z Z Z Z Z .N)) Z (.consF Z (fun E=>AOps.B Z Z Z hb11 (W.fieldAddr Z Z Z Z .N)) Z (.consF Z (fun E=>AOps.B Z Z Z hb11 (.F Z Z Z Z Z Z .N)) Z (.consF Z (fun E=>AOps.B Z Z Z hb11 (.U Z Z Z Z (G0 ha37) Z .N)) Z (.consF Z (fun E=>AOps.ab Z hb11 Z Z .N) Z ?_))))))))))
      refine j6.done ?_
      dsimp only[l7]
      obtain rfl:=oi hx10
      refine b5 (Sub.env ⟨Z,Z,Z,Z,Z,Z,Y⟩)
    ·refine AWP.ag Z hx8 (fun hc12 hx8=> ?_) (fun hc12 hx8=> ?_)
     ·refine AWP.exit (d8 (g8 ?_))
      obtain rfl:=oi hx8
      refine b5 (Sub.env ⟨Z,Z,Z,Z,Y⟩)
     ·refine AWP.skip (b5 (.q ?_))
      obtain⟨a43,ha43,a46,ha46,hx8⟩:=b2 hx8
      refine AWP.drawI mixed Z ?_
      refine j6.consF Z (fun E=>W.loadAgg Z Z Z Z Z Z Z .N) Z (.consF Z (fun E=>AOps.j Z Z .N) Z (.consF Z (fun E=>AOps.j Z Z .N) Z (.consF Z (fun E=>S.idxO ha43 Z Z Z Z Z .N) Z (.consF Z (fun E=>S.loadO ha43 Z Z Z Z Z .N) Z (.consF Z (fun E=>AOps.j Z Z .N) Z (.consF Z (fun E=>AOps.U Z Z Z Z (Y3 ha46) Z .N) Z (.consF Z (fun E=>AOps.j Z Z .N) Z (.consF Z (fun E=>AOps.ac Z Z Z .N) Z (.consF Z (fun E=>AOps.ac Z Z Z .N) Z (.consF Z (fun E=>AOps.u Z Z .N) Z (.consF Z (fun E=>AOps.u Z Z .N) Z ?_)))))))))))
      refine j6.done ?_
      dsimp only[l7]
      refine b5 (.q (.z (.j Z Z (S.len Z Z (fun hl50=>.j Z Z (.nil (b5 (.O ?_))))))))
      obtain⟨c13,ho2,hx8⟩:=bind_some hx8
      refine AWP.forS ho2 (fun t14 c13=>⟨[(1,.c (row 2 i9 policy)),(2,.c (.ptr 0 0 0)),(5,.c (.own 2 0 c13.length)),(6,.c (int atv4)),(49,.c (row 1 e9 a46.1)),(50,.c (int (a46.1.length:Int))),(51,.c (int t14))],[.one (.cells 4 [(tO ov)]),.dead,.one (vec 1 e9 c13)]⟩) (fun c13 e st=>e=.exit 2∧Sub [] st ⟨[(1,.c (row 2 i9 policy)),(2,.c (.ptr 0 0 0)),(5,.c (.own 2 0 c13.length)),(6,.c (int atv4))],[.one (.cells 4 [(tO ov)]),.dead,.one (vec 1 e9 c13)]⟩) ?_ ?_ ?_ ?_
      ·try dsimp only
       exact Sub.env ⟨Z,Z,Z,Z,Z,Z,Z,Y⟩
      ·intro t14 c13 hlot14 hltt14 _
       try dsimp only
       refine AWP.q (.z (.J Z Z Z (.nil (b5 (.q (.ae Z hltt14 (.exit (d8 (d8 ⟨Z,?_⟩)))))))))
       exact Sub.env ⟨Z,Z,Z,Z,Y⟩
      ·intro t14 c13 o hlot14 hltt14 h
       unfold R8 at h
       try dsimp only at h ⊢
       refine AWP.q (.z (.J Z Z Z (.nil (b5 (.q (.af Z hltt14 (.skip (b5 ?_))))))))
       obtain⟨c15,hx16,h⟩:=bind_some h
       refine AWP.seqJ (⟨[(1,.c (row 2 i9 policy)),(2,.c (.ptr 0 0 0)),(5,.c (.own 5 0 c15.length)),(6,.c (int atv4)),(49,.c (row 1 e9 a46.1)),(50,.c (int (a46.1.length:Int))),(51,.c (int t14))],[.one (.cells 4 [(tO ov)]),.dead,.dead,.dead,.dead,.one (vec 1 e9 c15)]⟩) ?_ ?_
       ·refine AWP.O (.q ?_)
        obtain⟨a53,ha53,hx16⟩:=bind_some hx16
        refine AWP.z (S.idx ha53 Z Z Z Z (.ad Z Z Z Z (W.alloc Z Z Z Z (W.store Z Z Z Z Z (.nil (b5 (.q ?_)))))))
        obtain⟨a57,ha57,hx16⟩:=bind_some hx16
        refine AWP.z (.j Z Z (.makeFunc Z Z (.callL Z Z (.cons (.c (.own Z Z)) (.cons (.c (.fn (.cons (.ptr (es:=[.sl 1 (List.map intI a53)]) Z Z (.cons .imm .nil)) .nil))) .nil)) Z (aj5 Z (fun hy=>ay1 hy) ha57) Z ?_)))
        refine AOps.not Z Z (.nil (b5 (.ag Z hx16 (fun hc17 hx16=> ?_) (fun hc17 hx16=> ?_))))
        ·obtain⟨a62,ha62,hx16⟩:=bind_some hx16
         refine AWP.z (.j Z Z (.F Z Z Z Z Z Z (S.lit (f:=e9) (l:=[a53]) (ess:=[[row 1 intI a53]]) Z Z Z Z Z Z Z ⟨⟨.inl Z,Y⟩,Y⟩ Z Z Z (S.append (f:=e9) ha62 Z Z Z Z Z Z (.own Z Z) Z Z Z Z (.u Z Z (.nil (d6 ?_)))))))
         obtain rfl:=oi hx16
         refine b5 (Sub.cut ⟨Z,Z,Z,Z,Z,Z,Z,Y⟩ Z ⟨.one Z,.dead,.dead,.dead,.dead,.vec,Y⟩ Z)
        ·refine AWP.skip (d6 ?_)
         obtain rfl:=oi hx16
         refine b5 ((Sub.move (env':=[(1,.c (row 2 i9 policy)),(2,.c (.ptr 0 0 0)),(5,.c (.own 5 0 c13.length)),(6,.c (int atv4)),(49,.c (row 1 e9 a46.1)),(50,.c (int (a46.1.length:Int))),(51,.c (int t14))]) (σ':=[.one (.cells 4 [(tO ov)]),.dead,.dead,.one (.cells 1 [[row 1 intI a53]]),.dead,.one (vec 1 e9 c13)]) 5 2 Z Z Z ⟨Z,Z,Z,Z,Z,Z,Z,Y⟩ Z ⟨⟨Z,Z⟩,trivial,trivial,⟨Z,Z⟩,trivial,⟨Blk.im_ok _ _ _,i6 Z⟩,Y⟩).trans (Sub.cut ⟨Z,Z,Z,Z,Z,Z,Z,Y⟩ Z ⟨.one Z,.dead,.dead,.dead,.dead,.vec,Y⟩ Z))
       ·refine AWP.z (.add Z Z Z (by omega) (.j Z Z (.nil ?_)))
        obtain rfl:=oi h
        refine b5 ((Sub.move (env':=[(1,.c (row 2 i9 policy)),(2,.c (.ptr 0 0 0)),(5,.c (.own 2 0 c15.length)),(6,.c (int atv4)),(49,.c (row 1 e9 a46.1)),(50,.c (int (a46.1.length:Int))),(51,.c (int (t14+1)))]) (σ':=[.one (.cells 4 [(tO ov)]),.dead,.one (vec 1 e9 c15),.dead,.dead]) 2 5 Z Z Z ⟨Z,Z,Z,Z,Z,Z,Z,Y⟩ Z ⟨⟨Z,Z⟩,trivial,⟨Blk.im_ok _ _ _,i6 Z⟩,trivial,trivial,Y⟩).trans (Sub.cut ⟨Z,Z,Z,Z,Z,Z,Z,Y⟩ Z ⟨.one Z,.dead,.vec,Y⟩ Z))
      ·intro e s hq
       obtain⟨rfl,hs⟩:=hq
       refine⟨_,hs,?_⟩
       refine g8 (d6 ?_)
       obtain rfl:=oi hx8
       refine b5 (Sub.env ⟨Z,Z,Z,Z,Y⟩)
   ·refine AWP.z (.j Z Z (S.add Z Z Z (.u Z Z (.nil ?_))))
    obtain rfl:=oi h
    refine b5 ⟨_,Z,?_⟩
    exact Sub.env ⟨Z,Z,Z,Z,Y⟩
  ·refine AWP.exit (d8 ?_)
   obtain rfl:=oi h
   refine d8 ⟨_,Z,Z,?_⟩
   exact Sub.cut ⟨Z,Y⟩ Z ⟨.dead,.dead,.vec,Y⟩ Z
 ·intro e s hq
  obtain⟨rfl,hs⟩:=hq
  refine⟨_,hs,?_⟩
  refine g8 (b5 (.q ?_))
  obtain⟨a65,ha65,h⟩:=bind_some h
  refine AWP.z (.j Z Z (.callF (r2:=.c (.own 4 0 a65.length)) (σ'':=[.dead,.dead,.dead,.dead,.one (vec 1 e9 a65)]) Z Z Z (FnOk.lend [2] (Y9 ha65) Z Z Z Z Z Z (by exact⟨.vec,Y⟩) Z (by exact⟨(.live Z .vec),Y⟩) Z Z (by exact⟨.dead,.dead,.dead,.dead,(.new 2 Z Z .vec),Y⟩)) (.u Z Z (.nil (b5 (.ret ?_))))))
  obtain rfl:=oi h
  exact Done.ret Z (Fresh.mk Z Z)
theorem aq5{sv:Li}{v:Int}{r:Int}(h:N8 sv v=some r):e8 prog 85 [.c (row 1 intI sv),.c (int v)] (.c (int r)):=by
 unfold e8
 refine FnOk.enter (rs:=[.t 4]) func85 Z ntmps85 results85 Z ⟨trivial,Y⟩ (by kernel_rfl) Z ?_
 unfold N8 at h
 refine AWP.q (.z (.u Z Z (.nil (b5 (.q (.q (.z (.j Z Z (S.len Z Z (fun hl7=>.j Z Z (.nil (b5 (.O ?_)))))))))))))
 obtain⟨oo,ho1,h⟩:=bind_some h
 refine AWP.rngS ho1 (fun t3 _=>⟨[(0,.c (row 1 intI sv)),(1,.c (int v)),(7,.c (int (sv.length:Int))),(8,.c (int t3))],[]⟩) (fun o e st=>match o with| .inl _=>e=.exit 0∧Sub [] st ⟨[],[]⟩| .inr x=>e=.ret∧Done [.t 4] (fun t _=>t=.c (int x)) .ret st) ?_ ?_ ?_ ?_
 ·try dsimp only
  exact Sub.env ⟨Z,Z,Z,Z,Y⟩
 ·intro t3 s hlot3 hltt3 _
  try dsimp only
  refine AWP.q (.z (.J Z Z Z (.nil (b5 (.q (.ae Z hltt3 (.exit (d8 (d8 ⟨Z,?_⟩)))))))))
  exact Sub.env trivial
 ·intro t3 s o hlot3 hltt3 h
  unfold I6 at h
  try dsimp only at h ⊢
  refine AWP.q (.z (.J Z Z Z (.nil (b5 (.q (.af Z hltt3 (.skip (b5 (.q (.O (.q (.z (.j Z Z (.u Z Z (.nil (b5 (.q ?_)))))))))))))))))
  obtain⟨a14,ha14,h⟩:=bind_some h
  refine AWP.z (.j Z Z (.j Z Z (.j Z Z (S.idx ha14 Z Z Z Z (.ad Z Z Z Z (.eql Z Z Z (.nil (b5 (.ite Z h (fun hc4 h=> ?_) (fun hc4 h=> ?_))))))))))
  ·refine AWP.q (.z (.j Z Z (.u Z Z (.nil (b5 (.ret (i8 (e7 ?_))))))))
   obtain rfl:=oi h
   refine e7 ⟨_,Z,Z,?_⟩
   exact Done.ret Z Z
  ·refine AWP.skip (d6 (b5 (.z (.add Z Z Z (by omega) (.j Z Z (.nil ?_))))))
   obtain rfl:=oi h
   refine b5 ⟨_,Z,?_⟩
   exact Sub.env ⟨Z,Z,Z,Z,Y⟩
 ·intro e s hq
  rcases oo with u|x
  ·try dsimp only at h hq
   obtain⟨rfl,hs⟩:=hq
   refine⟨_,hs,?_⟩
   refine g8 (b5 (.q (.z (.u Z Z (.nil (b5 (.ret ?_)))))))
   obtain rfl:=oi h
   exact Done.ret Z Z
  ·try dsimp only at h hq
   obtain⟨rfl,hs⟩:=hq
   refine⟨_,Sub.refl _ _,?_⟩
   refine i8 (e7 ?_)
   obtain rfl:=oi h
   exact hs
theorem al7{sv:Li}{v:Int}{r:Bool}(h:E3 sv v=some r):e8 prog 40 [.c (row 1 intI sv),.c (int v)] (.c (bool r)):=by
 unfold e8
 refine FnOk.enter (rs:=[.t 4]) func40 Z ntmps40 results40 Z ⟨trivial,Y⟩ (by kernel_rfl) Z ?_
 unfold E3 at h
 refine AWP.q (.z (.u Z Z (.nil (b5 (.q ?_)))))
 obtain⟨a7,ha7,h⟩:=bind_some h
 refine AWP.z (.j Z Z (.j Z Z (.U Z Z Z Z (aq5 ha7) Z (.geq Z Z Z (.u Z Z (.nil (b5 (.ret ?_))))))))
 obtain rfl:=oi h
 exact Done.ret Z Z
theorem strong_Check_ok{ov:d4}{policy:List d9}{r:Int×Bool×k6}(h:P5 ov policy=some r):e8 prog 11 [.agg (tO ov),.c (row 2 i9 policy)] (.tup [.c (int r.1),.c (bool r.2.1),.agg [int r.2.2.code,int r.2.2.index]]):=by
 unfold e8
 refine FnOk.enter (rs:=[.t 4,.t 5,.cell 6 32 2]) func11 Z ntmps11 results11 Z ⟨trivial,trivial,rv _ Z,Y⟩ (by kernel_rfl) Z ?_
 unfold P5 at h
 refine AWP.q (.z (W.box Z Z Z Z Z Z (.u Z Z (.u Z Z (W.alloc Z Z Z Z (.nil (b5 (.q (.q ?_)))))))))
 obtain⟨a18,ha18,h⟩:=bind_some h
 refine AWP.z (W.loadAgg Z Z Z Z Z Z Z (.j Z Z (.U Z Z Z Z (at0 ha18) Z (W.alloc Z Z Z Z (W.storeAgg Z Z Z Z Z Z Z (.nil (b5 (.q (.z (W.loadAgg Z Z Z Z Z Z Z (W.build Z Z Z Z (.neqP Z Z Z Z Z Z Z (.nil (b5 (.ag Z h (fun hc3 h=> ?_) (fun hc3 h=> ?_))))))))))))))))
 ·refine AWP.q (.drawEI [3] mixed Z Z Z ?_)
  refine e6.consN Z Z (fun E=>W.loadAgg Z Z Z Z Z Z Z .N) Z (.consN Z Z (fun E=>AOps.u Z Z .N) Z (.consN Z Z (fun E=>AOps.u Z Z .N) Z ?_))
  apply e6.consE (v:=.undef);exact Z;exact Z;intro E
  refine W.storeAgg Z Z Z Z Z Z Z .N
  exact Z
  exact Z
  refine e6.done Z ?_ ?_
  ·refine d5.cons Z Z (b7.go Z Z (fun E=>W.loadAgg Z Z Z Z Z Z Z .N) (b7.skip Z (b7.nil))) (d5.cons Z Z (b7.go Z Z (fun E=>AOps.u Z Z .N) (b7.skip Z (b7.nil))) (d5.cons Z Z (b7.go Z Z (fun E=>AOps.u Z Z .N) (b7.skip Z (b7.nil))) ?_))
   refine d5.skip Z (d5.nil)
  dsimp only[l7]
  refine b5 (.ret (e7 ?_))
  obtain rfl:=oi h
  exact Done.ret Z Z
 ·refine AWP.skip (b5 (.q ?_))
  obtain⟨a25,ha25,h⟩:=bind_some h
  refine AWP.z (W.loadAgg Z Z Z Z Z Z Z (.j Z Z (S.fresh Z Z Z Z (open_Visited_ok ha25) Z Z (.u Z Z (.nil (b5 (.q ?_)))))))
  obtain⟨a28,ha28,h⟩:=bind_some h
  refine AWP.z (.j Z Z (S.lenO Z Z Z (fun hl27=>S.make (f:=intI) ha28 (.val .nil) Z Z Z Z Z Z (.u Z Z (.nil (b5 (.q (.q (.z (.j Z Z (S.lenO Z Z Z (fun hl30=>.j Z Z (.nil (b5 (.O ?_)))))))))))))))
  obtain⟨c4,ho1,h⟩:=bind_some h
  refine AWP.forS ho1 (fun t5 c4=>⟨[(1,.c (row 2 i9 policy)),(2,.c (.ptr 0 0 0)),(6,.c (.ptr 1 0 0)),(8,.c (.own 3 0 a25.length)),(9,.c (.own 4 0 c4.length)),(29,.c (.own 3 0 a25.length)),(30,.c (int (a25.length:Int))),(31,.c (int t5))],[.one (.cells 4 [(tO ov)]),.one (.cells 2 [[int 0,int 0]]),.dead,.one (vec 1 e9 a25),.one (vec 1 intI c4)]⟩) (fun c4 e st=>e=.exit 0∧Sub [] st ⟨[(1,.c (row 2 i9 policy)),(2,.c (.ptr 0 0 0)),(6,.c (.ptr 1 0 0)),(8,.c (.own 3 0 a25.length)),(9,.c (.own 4 0 c4.length))],[.one (.cells 4 [(tO ov)]),.one (.cells 2 [[int 0,int 0]]),.dead,.one (vec 1 e9 a25),.one (vec 1 intI c4)]⟩) ?_ ?_ ?_ ?_
  ·try dsimp only
   exact Sub.cut ⟨Z,Z,Z,Z,Z,Z,Z,Z,Y⟩ Z ⟨.one Z,.one Z,.dead,.vec,.vec,Y⟩ Z
  ·intro t5 c4 hlot5 hltt5 _
   try dsimp only
   refine AWP.q (.z (.J Z Z Z (.nil (b5 (.q (.ae Z hltt5 (.exit (d8 (d8 ⟨Z,?_⟩)))))))))
   exact Sub.env ⟨Z,Z,Z,Z,Z,Y⟩
  ·intro t5 c4 o hlot5 hltt5 h
   unfold S5 at h
   try dsimp only at h ⊢
   refine AWP.q (.z (.J Z Z Z (.nil (b5 (.q (.af Z hltt5 (.skip (b5 ?_))))))))
   obtain⟨c6,hx7,h⟩:=bind_some h
   refine AWP.seqJ (⟨[(1,.c (row 2 i9 policy)),(2,.c (.ptr 0 0 0)),(6,.c (.ptr 1 0 0)),(8,.c (.own 3 0 a25.length)),(9,.c (.own 4 0 c6.length)),(29,.c (.own 3 0 a25.length)),(30,.c (int (a25.length:Int))),(31,.c (int t5))],[.one (.cells 4 [(tO ov)]),.one (.cells 2 [[int 0,int 0]]),.dead,.one (vec 1 e9 a25),.one (vec 1 intI c6)]⟩) ?_ ?_
   ·refine AWP.O (.q ?_)
    obtain⟨a34,ha34,hx7⟩:=bind_some hx7
    refine AWP.z (.j Z Z (S.idxO ha34 Z Z Z Z Z (S.loadO ha34 Z Z Z Z Z (.u Z Z (.u Z Z (.nil (b5 (.q ?_))))))))
    obtain⟨a39,ha39,hx7⟩:=bind_some hx7
    refine AWP.z (.j Z Z (W.fieldAddr Z Z Z Z (.F Z Z Z Z Z Z (.U Z Z Z Z (G0 ha39) Z (.not Z Z (.nil (b5 (.ag Z hx7 (fun hc8 hx7=> ?_) (fun hc8 hx7=> ?_)))))))))
    ·obtain⟨a43,ha43,hx7⟩:=bind_some hx7
     refine AWP.z (.j Z Z (.j Z Z (S.idxO ha43 Z Z Z Z Z (S.storeO1 (f:=intI) (a':= -1) (f8 ha43) (fun _=>⟨_,Z⟩) Z Z Z Z Z ?_))))
     refine AOps.nil (d6 ?_)
     obtain rfl:=oi hx7
     refine b5 (Sub.env ⟨Z,Z,Z,Z,(J3 (by first|rfl|simp only[lS])),Z,Z,Z,Y⟩)
    ·refine AWP.skip (d6 ?_)
     obtain rfl:=oi hx7
     refine b5 (Sub.env ⟨Z,Z,Z,Z,Z,Z,Z,Z,Y⟩)
   ·refine AWP.z (.add Z Z Z (by omega) (.j Z Z (.nil ?_)))
    obtain rfl:=oi h
    refine b5 (Sub.env ⟨Z,Z,Z,Z,Z,Z,Z,Z,Y⟩)
  ·intro e s hq
   obtain⟨rfl,hs⟩:=hq
   refine⟨_,hs,?_⟩
   refine g8 (b5 (.q (.q (.z (.j Z Z (S.lenO Z Z Z (fun hl46=>.j Z Z (.nil (b5 (.O ?_))))))))))
   obtain⟨c9,ho2,h⟩:=bind_some h
   refine AWP.forS ho2 (fun t10 c9=>⟨[(1,.c (row 2 i9 policy)),(2,.c (.ptr 0 0 0)),(6,.c (.ptr 1 0 0)),(8,.c (.own 3 0 a25.length)),(9,.c (.own 4 0 c9.length)),(46,.c (int (a25.length:Int))),(47,.c (int t10))],[.one (.cells 4 [(tO ov)]),.one (.cells 2 [[int 0,int 0]]),.dead,.one (vec 1 e9 a25),.one (vec 1 intI c9)]⟩) (fun c9 e st=>e=.exit 2∧Sub [] st ⟨[(2,.c (.ptr 0 0 0)),(6,.c (.ptr 1 0 0)),(8,.c (.own 3 0 a25.length)),(9,.c (.own 4 0 c9.length))],[.one (.cells 4 [(tO ov)]),.one (.cells 2 [[int 0,int 0]]),.dead,.one (vec 1 e9 a25),.one (vec 1 intI c9)]⟩) ?_ ?_ ?_ ?_
   ·try dsimp only
    exact Sub.env ⟨Z,Z,Z,Z,Z,Z,Z,Y⟩
   ·intro t10 c9 hlot10 hltt10 _
    try dsimp only
    refine AWP.q (.z (.J Z Z Z (.nil (b5 (.q (.ae Z hltt10 (.exit (d8 (d8 ⟨Z,?_⟩)))))))))
    exact Sub.env ⟨Z,Z,Z,Z,Y⟩
   ·intro t10 c9 o hlot10 hltt10 h
    unfold R9 at h
    try dsimp only at h ⊢
    refine AWP.q (.z (.J Z Z Z (.nil (b5 (.q (.af Z hltt10 (.skip (b5 (.q (.O (.q (.z (.j Z Z (S.lenO Z Z Z (fun hl50=>.j Z Z (.nil (b5 (.O ?_))))))))))))))))))
    obtain⟨c11,ho3,h⟩:=bind_some h
    refine AWP.forS ho3 (fun t12 c11=>⟨[(1,.c (row 2 i9 policy)),(2,.c (.ptr 0 0 0)),(6,.c (.ptr 1 0 0)),(8,.c (.own 3 0 a25.length)),(9,.c (.own 4 0 c11.length)),(46,.c (int (a25.length:Int))),(47,.c (int t10)),(49,.c (.own 3 0 a25.length)),(50,.c (int (a25.length:Int))),(51,.c (int t12))],[.one (.cells 4 [(tO ov)]),.one (.cells 2 [[int 0,int 0]]),.dead,.one (vec 1 e9 a25),.one (vec 1 intI c11)]⟩) (fun c11 e st=>e=.exit 4∧Sub [] st ⟨[(1,.c (row 2 i9 policy)),(2,.c (.ptr 0 0 0)),(6,.c (.ptr 1 0 0)),(8,.c (.own 3 0 a25.length)),(9,.c (.own 4 0 c11.length)),(46,.c (int (a25.length:Int))),(47,.c (int t10))],[.one (.cells 4 [(tO ov)]),.one (.cells 2 [[int 0,int 0]]),.dead,.one (vec 1 e9 a25),.one (vec 1 intI c11)]⟩) ?_ ?_ ?_ ?_
    ·try dsimp only
     exact Sub.env ⟨Z,Z,Z,Z,Z,Z,Z,Z,Z,Z,Y⟩
    ·intro t12 c11 hlot12 hltt12 _
     try dsimp only
     refine AWP.q (.z (.J Z Z Z (.nil (b5 (.q (.ae Z hltt12 (.exit (d8 (d8 ⟨Z,?_⟩)))))))))
     exact Sub.env ⟨Z,Z,Z,Z,Z,Z,Z,Y⟩
    ·intro t12 c11 o hlot12 hltt12 h
     unfold S4 at h
     try dsimp only at h ⊢
     refine AWP.q (.z (.J Z Z Z (.nil (b5 (.q (.af Z hltt12 (.skip (b5 ?_))))))))
     obtain⟨c13,hx14,h⟩:=bind_some h
     refine AWP.seqJ (⟨[(1,.c (row 2 i9 policy)),(2,.c (.ptr 0 0 0)),(6,.c (.ptr 1 0 0)),(8,.c (.own 3 0 a25.length)),(9,.c (.own 4 0 c13.length)),(46,.c (int (a25.length:Int))),(47,.c (int t10)),(49,.c (.own 3 0 a25.length)),(50,.c (int (a25.length:Int))),(51,.c (int t12))],[.one (.cells 4 [(tO ov)]),.one (.cells 2 [[int 0,int 0]]),.dead,.one (vec 1 e9 a25),.one (vec 1 intI c13)]⟩) ?_ ?_
     ·refine AWP.O (.q ?_)
      obtain⟨a54,ha54,hx14⟩:=bind_some hx14
      refine AWP.z (.j Z Z (S.idxO ha54 Z Z Z Z Z (S.loadO ha54 Z Z Z Z Z (.u Z Z (.u Z Z (.nil (b5 (.q ?_))))))))
      obtain⟨a58,ha58,hx14⟩:=bind_some hx14
      refine AWP.z (.j Z Z (.j Z Z (.U Z Z Z Z (aj6 ha58) Z (.u Z Z (.nil (b5 (.q ?_)))))))
      obtain⟨a61,ha61,hx14⟩:=bind_some hx14
      refine AWP.seqJ (⟨[(1,.c (row 2 i9 policy)),(2,.c (.ptr 0 0 0)),(6,.c (.ptr 1 0 0)),(8,.c (.own 3 0 a25.length)),(9,.c (.own 4 0 c11.length)),(12,.c (int t12)),(13,.c (row 1 intI a54)),(14,.c (int a58)),(46,.c (int (a25.length:Int))),(47,.c (int t10)),(49,.c (.own 3 0 a25.length)),(50,.c (int (a25.length:Int))),(51,.c (int t12)),(67,.c (bool ((decide (0≤a61))||(decide (a58<0)))))],[.one (.cells 4 [(tO ov)]),.one (.cells 2 [[int 0,int 0]]),.dead,.one (vec 1 e9 a25),.one (vec 1 intI c11)]⟩) ?_ ?_
      ·rcases bft (decide (0≤a61)) with hb1|hb1
       ·refine AWP.z (.j Z Z (.j Z Z (S.idxO ha61 Z Z Z Z Z (S.loadO ha61 Z Z Z Z Z (.geq Z Z Z (.j Z Z (.E Z Z Z hb1 (.E Z Z Z hb1 (.aa Z hb1 Z Z (.nil (b5 ?_)))))))))))
        simp only[O3 hb1,or_t hb1,Bool.false_or,Bool.true_or,Bool.false_and,Bool.true_and]
        exact Sub.env ⟨Z,Z,Z,Z,Z,Z,Z,Z,Z,Z,Z,Z,Z,Z,Y⟩
       ·refine AWP.z (.j Z Z (.j Z Z (S.idxO ha61 Z Z Z Z Z (S.loadO ha61 Z Z Z Z Z (.geq Z Z Z (.j Z Z (.B Z Z Z hb1 (.j Z Z (.B Z Z Z hb1 (.J Z Z Z (.ab Z hb1 Z Z (.nil (b5 ?_)))))))))))))
        simp only[J7 hb1,or_f hb1,Bool.false_or,Bool.true_or,Bool.false_and,Bool.true_and]
        exact Sub.env ⟨Z,Z,Z,Z,Z,Z,Z,Z,Z,Z,Z,Z,Z,Z,Y⟩
      ·refine AWP.ag Z hx14 (fun hc15 hx14=> ?_) (fun hc15 hx14=> ?_)
       ·refine AWP.exit (d8 (g8 ?_))
        obtain rfl:=oi hx14
        refine b5 (Sub.env ⟨Z,Z,Z,Z,Z,Z,Z,Z,Z,Z,Y⟩)
       ·refine AWP.skip (b5 (.q ?_))
        obtain⟨a73,ha73,hx14⟩:=bind_some hx14
        refine AWP.z (W.loadAgg Z Z Z Z Z Z Z (.j Z Z (.j Z Z (.j Z Z (.j Z Z (.callL Z Z (.cons (.agg (.cons .imm (.cons .imm (.cons .imm (.cons .imm .nil))))) (.cons (.c (.own Z Z)) (.cons (.c (.own Z Z)) (.cons (.c .imm) (.cons (.c .imm) .nil))))) Z (as1 ha73) Z (.u Z Z (.nil (b5 (.q (.z (.j Z Z (.geq Z Z Z (.nil (b5 (.ite Z hx14 (fun hc16 hx14=> ?_) (fun hc16 hx14=> ?_)))))))))))))))))
        ·obtain⟨a80,ha80,hx14⟩:=bind_some hx14
         refine AWP.z (.j Z Z (.j Z Z (.j Z Z (S.add Z Z Z (S.idxO ha80 Z Z Z Z Z (S.storeO1 (f:=intI) (a':=w64 (a73+1)) (f8 ha80) (fun _=>⟨_,Z⟩) Z Z Z Z Z ?_))))))
         refine AOps.nil (d6 ?_)
         obtain rfl:=oi hx14
         refine b5 (Sub.env ⟨Z,Z,Z,Z,(J3 (by first|rfl|simp only[lS])),Z,Z,Z,Z,Z,Y⟩)
        ·refine AWP.skip (d6 ?_)
         obtain rfl:=oi hx14
         refine b5 (Sub.env ⟨Z,Z,Z,Z,Z,Z,Z,Z,Z,Z,Y⟩)
     ·refine AWP.z (.add Z Z Z (by omega) (.j Z Z (.nil ?_)))
      obtain rfl:=oi h
      refine b5 (Sub.env ⟨Z,Z,Z,Z,Z,Z,Z,Z,Z,Z,Y⟩)
    ·intro e s hq
     obtain⟨rfl,hs⟩:=hq
     refine⟨_,hs,?_⟩
     refine g8 (d6 (b5 (.z (.add Z Z Z (by omega) (.j Z Z (.nil ?_))))))
     obtain rfl:=oi h
     refine b5 (Sub.env ⟨Z,Z,Z,Z,Z,Z,Z,Y⟩)
   ·intro e s hq
    obtain⟨rfl,hs⟩:=hq
    refine⟨_,hs,?_⟩
    refine g8 (b5 (.q (.q ?_)))
    obtain⟨a84,ha84,h⟩:=bind_some h
    refine AWP.z (.j Z Z (.callL Z Z (.cons (.c (.own Z Z)) (.cons (.c .imm) .nil)) Z (al7 ha84) Z (.nil (b5 (.ag Z h (fun hc17 h=> ?_) (fun hc17 h=> ?_))))))
    ·refine AWP.q (.z (W.build Z Z Z Z (.u Z Z (.u Z Z (W.storeAgg Z Z Z Z Z Z Z (.nil (b5 (.ret (e7 ?_)))))))))
     obtain rfl:=oi h
     exact Done.ret Z Z
    ·refine AWP.skip (b5 (.q ?_))
     obtain⟨a90,ha90,a91,ha91,h⟩:=b2 h
     refine AWP.z (.j Z Z (.j Z Z (W.fieldAddr Z Z Z Z (.F Z Z Z Z Z Z (.callL Z Z (.cons (.c (.own Z Z)) (.cons (.c .imm) .nil)) Z (aq3 ha90) Z (S.idxO ha91 Z Z Z Z Z (S.loadO ha91 Z Z Z Z Z (W.build Z Z Z Z (.u Z Z (.u Z Z (W.storeAgg Z Z Z Z Z Z Z (.nil (b5 (.ret ?_))))))))))))))
     obtain rfl:=oi h
     exact Done.ret Z Z
theorem ref1_Ints_ok{av:Li}{bv:Li}{r:Bool}(h:O6 av bv=some r):e8 prog 34 [.c (row 1 intI av),.c (row 1 intI bv)] (.c (bool r)):=by
 unfold e8
 refine FnOk.enter (rs:=[.t 4]) func34 Z ntmps34 results34 Z ⟨trivial,Y⟩ (by kernel_rfl) Z ?_
 unfold O6 at h
 refine AWP.q (.z (.u Z Z (.nil (b5 (.q (.q (.z (.j Z Z (S.len Z Z (fun hl7=>.j Z Z (S.len Z Z (fun hl9=>.neq Z Z Z (.nil (b5 (.iteN Z h (fun hc3 h=> ?_) (fun hc3 h=> ?_))))))))))))))))
 ·refine AWP.q (.z (.u Z Z (.nil (b5 (.ret (e7 ?_))))))
  obtain rfl:=oi h
  exact Done.ret Z Z
 ·refine AWP.skip (b5 (.q (.q (.z (.u Z Z (.nil (b5 (.O ?_))))))))
  obtain⟨oo,ho1,h⟩:=bind_some h
  refine AWP.rngS ho1 (fun iv4 _=>⟨[(0,.c (row 1 intI av)),(1,.c (row 1 intI bv)),(5,.c (int iv4))],[]⟩) (fun o e st=>match o with| .inl _=>e=.exit 0∧Sub [] st ⟨[],[]⟩| .inr x=>e=.ret∧Done [.t 4] (fun t _=>t=.c (bool x)) .ret st) ?_ ?_ ?_ ?_
  ·try dsimp only
   exact Sub.env ⟨Z,Z,Z,Y⟩
  ·intro iv4 s hloiv4 hltiv4 _
   try dsimp only
   refine AWP.q (.q (.z (.j Z Z (.j Z Z (S.len Z Z (fun hl13=>.J Z Z Z (.nil (b5 (.ae Z hltiv4 (.exit (d8 (d8 ⟨Z,?_⟩))))))))))))
   exact Sub.env trivial
  ·intro iv4 s o hloiv4 hltiv4 h
   unfold ap7 at h
   try dsimp only at h ⊢
   refine AWP.q (.q (.z (.j Z Z (.j Z Z (S.len Z Z (fun hl13=>.J Z Z Z (.nil (b5 (.af Z hltiv4 (.skip (b5 (.q (.O (.q ?_))))))))))))))
   obtain⟨a19,ha19,a23,ha23,h⟩:=b2 h
   refine AWP.drawI mixed Z ?_
   refine j6.consF Z (fun E=>AOps.j Z Z .N) Z (.consF Z (fun E=>AOps.j Z Z .N) Z (.consF Z (fun E=>S.idx ha19 Z Z Z Z .N) Z (.consF Z (fun E=>AOps.ad Z Z Z Z .N) Z (.consF Z (fun E=>AOps.j Z Z .N) Z (.consF Z (fun E=>AOps.j Z Z .N) Z (.consF Z (fun E=>S.idx ha23 Z Z Z Z .N) Z (.consF Z (fun E=>AOps.ad Z Z Z Z .N) Z (.consF Z (fun E=>AOps.neq Z Z Z .N) Z ?_))))))))
   refine j6.done ?_
   dsimp only[l7]
   refine b5 (.iteN Z h (fun hc5 h=> ?_) (fun hc5 h=> ?_))
   ·refine AWP.q (.z (.u Z Z (.nil (b5 (.ret (i8 (e7 ?_)))))))
    obtain rfl:=oi h
    refine e7 ⟨_,Z,Z,?_⟩
    exact Done.ret Z Z
   ·refine AWP.skip (d6 (b5 (.z (.j Z Z (.add Z Z Z (by omega) (.u Z Z (.nil ?_)))))))
    obtain rfl:=oi h
    refine b5 ⟨_,Z,?_⟩
    exact Sub.env ⟨Z,Z,Z,Y⟩
  ·intro e s hq
   rcases oo with u|x
   ·try dsimp only at h hq
    obtain⟨rfl,hs⟩:=hq
    refine⟨_,hs,?_⟩
    refine g8 (b5 (.q (.z (.u Z Z (.nil (b5 (.ret ?_)))))))
    obtain rfl:=oi h
    exact Done.ret Z Z
   ·try dsimp only at h hq
    obtain⟨rfl,hs⟩:=hq
    refine⟨_,Sub.refl _ _,?_⟩
    refine i8 (e7 ?_)
    obtain rfl:=oi h
    exact hs
theorem ref8_Choices_ok{av:List d9}{bv:List d9}{r:Bool}(h:aa3 av bv=some r):e8 prog 19 [.c (row 2 i9 av),.c (row 2 i9 bv)] (.c (bool r)):=by
 unfold e8
 refine FnOk.enter (rs:=[.t 4]) func19 Z ntmps19 results19 Z ⟨trivial,Y⟩ (by kernel_rfl) Z ?_
 unfold aa3 at h
 refine AWP.q (.z (.u Z Z (.nil (b5 (.q (.q (.z (.j Z Z (S.len Z Z (fun hl7=>.j Z Z (S.len Z Z (fun hl9=>.neq Z Z Z (.nil (b5 (.iteN Z h (fun hc3 h=> ?_) (fun hc3 h=> ?_))))))))))))))))
 ·refine AWP.q (.z (.u Z Z (.nil (b5 (.ret (e7 ?_))))))
  obtain rfl:=oi h
  exact Done.ret Z Z
 ·refine AWP.skip (b5 (.q (.q (.z (.u Z Z (.nil (b5 (.O ?_))))))))
  obtain⟨oo,ho1,h⟩:=bind_some h
  refine AWP.rngS ho1 (fun iv4 _=>⟨[(0,.c (row 2 i9 av)),(1,.c (row 2 i9 bv)),(5,.c (int iv4))],[]⟩) (fun o e st=>match o with| .inl _=>e=.exit 0∧Sub [] st ⟨[],[]⟩| .inr x=>e=.ret∧Done [.t 4] (fun t _=>t=.c (bool x)) .ret st) ?_ ?_ ?_ ?_
  ·try dsimp only
   exact Sub.env ⟨Z,Z,Z,Y⟩
  ·intro iv4 s hloiv4 hltiv4 _
   try dsimp only
   refine AWP.q (.q (.z (.j Z Z (.j Z Z (S.len Z Z (fun hl13=>.J Z Z Z (.nil (b5 (.ae Z hltiv4 (.exit (d8 (d8 ⟨Z,?_⟩))))))))))))
   exact Sub.env trivial
  ·intro iv4 s o hloiv4 hltiv4 h
   unfold ai0 at h
   try dsimp only at h ⊢
   refine AWP.q (.q (.z (.j Z Z (.j Z Z (S.len Z Z (fun hl13=>.J Z Z Z (.nil (b5 (.af Z hltiv4 (.skip (b5 (.q (.O ?_)))))))))))))
   obtain⟨t5,hx6,h⟩:=bind_some h
   refine AWP.seqJ (⟨[(0,.c (row 2 i9 av)),(1,.c (row 2 i9 bv)),(5,.c (int iv4)),(41,.c (bool t5))],[]⟩) ?_ ?_
   ·obtain⟨a19,ha19,a24,ha24,hx6⟩:=b2 hx6
    rcases bft (!(decide (a19.operator=a24.operator))) with hb7|hb7
    ·replace hx6:=ac2 hb7 hx6
     refine AWP.drawI mixed Z ?_
     refine j6.consF Z (fun E=>AOps.j Z Z .N) Z (.consF Z (fun E=>AOps.j Z Z .N) Z (.consF Z (fun E=>S.idx ha19 Z Z Z Z .N) Z (.consF Z (fun E=>W.fieldAddrI Z Z Z Z .N) Z (.consF Z (fun E=>AOps.ad Z Z Z Z .N) Z (.consF Z (fun E=>AOps.j Z Z .N) Z (.consF Z (fun E=>AOps.j Z Z .N) Z (.consF Z (fun E=>S.idx ha24 Z Z Z Z .N) Z (.consF Z (fun E=>W.fieldAddrI Z Z Z Z .N) Z (.consF Z (fun E=>AOps.ad Z Z Z Z .N) Z (.consF Z (fun E=>AOps.neq Z Z Z .N) Z (.consF Z (fun E=>AOps.j Z Z .N) Z (.consF Z (fun E=>AOps.E Z Z Z hb7 .N) Z (.consF Z (fun E=>AOps.E Z Z Z hb7 .N) Z (.consF Z (fun E=>AOps.E Z Z Z hb7 .N) Z (.consF Z (fun E=>AOps.E Z Z Z hb7 .N) Z (.consF Z (fun E=>AOps.E Z Z Z hb7 .N) Z (.consF Z (fun E=>AOps.E Z Z Z hb7 .N) Z (.consF Z (fun E=>AOps.E Z Z Z hb7 .N) Z (.consF Z (fun E=>AOps.E Z Z Z hb7 .N) Z (.consF Z (fun E=>AOps.E Z Z Z hb7 .N) Z (.consF Z (fun E=>AOps.E Z Z Z hb7 .N) Z (.consF Z (fun E=>AOps.E Z Z Z hb7 .N) Z (.consF Z (fun E=>AOps.E Z Z Z hb7 .N) Z (.consF Z (fun E=>AOps.aa Z hb7 Z Z .N) Z ?_))))))))))))))))))))))))
     refine j6.done ?_
     dsimp only[l7]
     obtain rfl:=oi hx6
     refine b5 (Sub.env ⟨Z,Z,Z,Z,Y⟩)
    ·replace hx6:=ac1 hb7 hx6
     obtain⟨a31,ha31,a36,ha36,a39,ha39,hx6⟩:=b3 hx6
     refine AWP.drawI mixed Z ?_
     refine j6.consF Z (fun E=>AOps.j Z Z .N) Z (.consF Z (fun E=>AOps.j Z Z .N) Z (.consF Z (fun E=>S.idx ha19 Z Z Z Z .N) Z (.consF Z (fun E=>W.fieldAddrI Z Z Z Z .N) Z (.consF Z (fun E=>AOps.ad Z Z Z Z .N) Z (.consF Z (fun E=>AOps.j Z Z .N) Z (.consF Z (fun E=>AOps.j Z Z .N) Z (.consF Z (fun E=>S.idx ha24 Z Z Z Z .N) Z (.consF Z (fun E=>W.fieldAddrI Z Z Z Z .N) Z (.consF Z (fun E=>AOps.ad Z Z Z Z .N) Z (.consF Z (fun E=>AOps.neq Z Z Z .N) Z (.consF Z (fun E=>AOps.j Z Z .N) Z (.consF Z (fun E=>AOps.B Z Z Z hb7 (.j Z Z .N)) Z (.consF Z (fun E=>AOps.B Z Z Z hb7 (.j Z Z .N)) Z (.consF Z (fun E=>AOps.B Z Z Z hb7 (S.idx ha31 Z Z Z Z .N)) Z (.consF Z (fun E=>AOps.B Z Z Z hb7 (W.fieldAddrI Z Z Z Z .N)) Z (.consF Z (fun E=>AOps.B Z Z Z hb7 (.ad Z Z Z Z .N)) Z (.consF Z (fun E=>AOps.B Z Z Z hb7 (.j Z Z .N)) Z (.consF Z (fun E=>AOps.B Z Z Z hb7 (.j Z Z .N)) Z (.consF Z (fun E=>AOps.B Z Z Z hb7 (S.idx ha36 Z Z Z Z .N)) Z (.consF Z (fun E=>AOps.B Z Z Z hb7 (W.fieldAddrI Z Z Z Z .N)) Z (.consF Z (fun E=>AOps.B Z Z Z hb7 (.ad Z Z Z Z .N)) Z (.consF Z (fun E=>AOps.B Z Z Z hb7 (.U Z Z Z Z (ref1_Ints_ok ha39) Z .N)) Z (.consF Z (fun E=>AOps.B Z Z Z hb7 (.not Z Z .N)) Z (.consF Z (fun E=>AOps.ab Z hb7 Z Z .N) Z ?_))))))))))))))))))))))))
     refine j6.done ?_
     dsimp only[l7]
     obtain rfl:=oi hx6
     refine b5 (Sub.env ⟨Z,Z,Z,Z,Y⟩)
   ·refine AWP.ag Z h (fun hc8 h=> ?_) (fun hc8 h=> ?_)
    ·refine AWP.q (.z (.u Z Z (.nil (b5 (.ret (i8 (e7 ?_)))))))
     obtain rfl:=oi h
     refine e7 ⟨_,Z,Z,?_⟩
     exact Done.ret Z Z
    ·refine AWP.skip (d6 (b5 (.z (.j Z Z (.add Z Z Z (by omega) (.u Z Z (.nil ?_)))))))
     obtain rfl:=oi h
     refine b5 ⟨_,Z,?_⟩
     exact Sub.env ⟨Z,Z,Z,Y⟩
  ·intro e s hq
   rcases oo with u|x
   ·try dsimp only at h hq
    obtain⟨rfl,hs⟩:=hq
    refine⟨_,hs,?_⟩
    refine g8 (b5 (.q (.z (.u Z Z (.nil (b5 (.ret ?_)))))))
    obtain rfl:=oi h
    exact Done.ret Z Z
   ·try dsimp only at h hq
    obtain⟨rfl,hs⟩:=hq
    refine⟨_,Sub.refl _ _,?_⟩
    refine i8 (e7 ?_)
    obtain rfl:=oi h
    exact hs
end Ab
end
