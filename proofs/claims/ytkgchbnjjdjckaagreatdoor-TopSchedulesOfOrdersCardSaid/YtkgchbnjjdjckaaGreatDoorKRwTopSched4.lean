/-
  Texts that the proof stands on.
-/
import Derived.Test.YtkgchbnjjdjckaaGreatDoorKRwTopSched3
set_option linter.all false
section
namespace Ab
open Go Go.Proofs
open Tryz
set_option maxHeartbeats 4000000
set_option linter.all false
attribute [local irreducible] AWP AOps thn inB Done e9 q8 Sub
abbrev oE(k:Nat)(x:List C):Ent:=.one (.cells k [x])
abbrev o1(x:C):Ent:=.one (.cells 1 [[x]])
abbrev oV{α:Type}(k:Nat)(f:α→List I)(l:List α):Ent:=.one (vec k f l)
abbrev oW{K V:Type}(fk:K→Vl)(fv:V→Vl)(m:List (K×V)):Ent:=.one (mapB fk fv m)
abbrev cI(n:Int):T:=.c (int n)
abbrev cB(b:Bool):T:=.c (bool b)
abbrev cP(i:Id)(j o:Nat):T:=.c (.ptr i j o)
abbrev cR(l:Li):T:=.c (row 1 intI l)
abbrev tT(v:e7):List C:=[int v.facts,row 1 intI v.init,row 1 intI v.goal,row 4 k6 v.operators]
abbrev tF(a:Int)(b c:Li)(d:List f9):List C:=[int a,row 1 intI b,row 1 intI c,row 4 k6 d]
abbrev wW(a b:Int)(i:Id)(n:Nat):List C:=[.imm (.val (.int .u32 a)),.imm (.val (.int .u32 b)),.own i 0 n]
abbrev vU:Int→Vl:=Value.int .u32
abbrev vI:Int→Vl:=Value.int .i64
abbrev nL:Vl:=.slice none 0 0
instance:MethF prog 99 "Start" 55 true:=⟨by kernel_rfl⟩
instance:MethF prog 99 "Steps" 81 true:=⟨by kernel_rfl⟩
instance:MethF prog 170 "Len" 168 false:=⟨by kernel_rfl⟩
instance:MethF prog 170 "Less" 169 false:=⟨by kernel_rfl⟩
instance:MethF prog 170 "Pop" 171 true:=⟨by kernel_rfl⟩
instance:MethF prog 170 "Push" 172 true:=⟨by kernel_rfl⟩
instance:MethF prog 170 "Swap" 170 false:=⟨by kernel_rfl⟩
theorem w4{l:Li}{nv:Int}{r:Bool}(h:E8 l nv=some r):e9 prog 34 [(cR l),(cI nv)] ((cB r)):=by
 unfold e9
 refine FnOk.enter (rs:=[.t 4]) func34 Z ntmps34 results34 Z ⟨Y,Y⟩ (by kernel_rfl) Z ?_
 unfold E8 at h
 refine AWP.q (.u (.v Z Z (.nil (b5 (.q (.q (.u (.j Z Z (S.len Z Z (fun hl8=>.j Z Z (.nil (b5 (.J ?_)))))))))))))
 obtain⟨oo,ho1,h⟩:=bind_some h
 refine AWP.rngS ho1 (fun t3 _=>⟨[(0,(cR l)),(1,(cI nv)),(7,(cR l)),(8,(cI (l.length:Int))),(9,(cI t3))],[]⟩) (fun o e st=>match o with| .inl _=>e=.exit 0∧Sub [] st ⟨[],[]⟩| .inr x=>e=.ret∧Done [.t 4] (fun t _=>t=(cB x)) .ret st) ?_ ?_ ?_ ?_
 ·try dsimp only
  exact Sub.env ⟨Z,Z,Z,Z,Z,Y⟩
 ·intro t3 s hlot3 hltt3 _
  try dsimp only
  refine AWP.q (.u (.F Z Z Z (.nil (b5 (.q (.ae Z hltt3 (.exit (d7 (d7 ⟨Z,?_⟩)))))))))
  exact Sub.env Y
 ·intro t3 s o hlot3 hltt3 h
  unfold W2 at h
  try dsimp only at h ⊢
  refine AWP.q (.u (.F Z Z Z (.nil (b5 (.q (.af Z hltt3 (.skip (b5 (.q (.J (.q ?_)))))))))))
  obtain⟨a12,ha12,h⟩:=bind_some h
  refine AWP.u (.j Z Z (S.idx ha12 Z Z Z Z (.ag Z Z Z Z (.v Z Z (.v Z Z (.nil (b5 ?_)))))))
  obtain⟨t4,hx5,h⟩:=bind_some h
  refine AWP.seqJ (⟨[(0,(cR l)),(1,(cI nv)),(7,(cR l)),(8,(cI (l.length:Int))),(9,(cI t3)),(33,(cB t4))],[]⟩) ?_ ?_
  ·rcases bft (decide (a12<0)) with hb6|hb6
   ·replace hx5:=P1 hb6 hx5
    refine AWP.u (.j Z Z (.F Z Z Z (.j Z Z (.B Z Z Z hb6 (.B Z Z Z hb6 (.B Z Z Z hb6 (.U Z hb6 Z Z (.j Z Z (.B Z Z Z Z (.B Z Z Z Z (.B Z Z Z Z (.ah Z Z Z (.ah Z Z Z (.ah Z Z Z (.ah Z Z Z (.ah Z Z Z (.ah Z Z Z (.ah Z Z Z (.B Z Z Z Z (.U Z Z Z Z (.nil ?_)))))))))))))))))))))
    obtain rfl:=oi hx5
    refine b5 (Sub.env ⟨Z,Z,Z,Z,Z,Z,Y⟩)
   ·replace hx5:=P3 hb6 hx5
    rcases bft (decide (nv≤a12)) with hb7|hb7
    ·replace hx5:=P1 hb7 hx5
     refine AWP.u (.j Z Z (.F Z Z Z (.j Z Z (.z Z Z Z hb6 (.j Z Z (.z Z Z Z hb6 (.j Z Z (.z Z Z Z hb6 (.geq Z Z Z (.aa Z hb6 Z Z (.j Z Z (.B Z Z Z hb7 (.B Z Z Z hb7 (.B Z Z Z hb7 (.ah Z Z Z (.ah Z Z Z (.ah Z Z Z (.ah Z Z Z (.ah Z Z Z (.ah Z Z Z (.ah Z Z Z (.B Z Z Z hb7 (.U Z hb7 Z Z (.nil ?_))))))))))))))))))))))))
     obtain rfl:=oi hx5
     refine b5 (Sub.env ⟨Z,Z,Z,Z,Z,Z,Y⟩)
    ·replace hx5:=P3 hb7 hx5
     rcases bft (decide (0<t3)) with hb8|hb8
     ·replace hx5:=P1 hb8 hx5
      obtain⟨a29,ha29,hx5⟩:=bind_some hx5
      refine AWP.u (.j Z Z (.F Z Z Z (.j Z Z (.z Z Z Z hb6 (.j Z Z (.z Z Z Z hb6 (.j Z Z (.z Z Z Z hb6 (.geq Z Z Z (.aa Z hb6 Z Z (.j Z Z (.z Z Z Z hb7 (.j Z Z (.z Z Z Z hb7 (.gtr Z Z Z (.z Z Z Z hb7 (.j Z Z (.z Z Z Z hb8 (.j Z Z (.z Z Z Z hb8 (.j Z Z (.z Z Z Z hb8 (.j Z Z (.z Z Z Z hb8 (.sub' Z Z Z (by omega) (.z Z Z Z hb8 (S.idx ha29 Z Z Z Z (.z Z Z Z hb8 (.ag Z Z Z Z (.z Z Z Z hb8 (.leq Z Z Z (.z Z Z Z hb7 (.U Z hb8 Z Z (.aa Z hb7 Z Z (.nil ?_)))))))))))))))))))))))))))))))))))
      obtain rfl:=oi hx5
      refine b5 (Sub.env ⟨Z,Z,Z,Z,Z,Z,Y⟩)
     ·replace hx5:=P3 hb8 hx5
      refine AWP.u (.j Z Z (.F Z Z Z (.j Z Z (.z Z Z Z hb6 (.j Z Z (.z Z Z Z hb6 (.j Z Z (.z Z Z Z hb6 (.geq Z Z Z (.aa Z hb6 Z Z (.j Z Z (.z Z Z Z hb7 (.j Z Z (.z Z Z Z hb7 (.gtr Z Z Z (.z Z Z Z hb7 (.j Z Z (.B Z Z Z hb8 (.B Z Z Z hb8 (.B Z Z Z hb8 (.B Z Z Z hb8 (.B Z Z Z hb8 (.B Z Z Z hb8 (.B Z Z Z hb8 (.z Z Z Z hb7 (.aa Z hb8 Z Z (.aa Z hb7 Z Z (.nil ?_))))))))))))))))))))))))))))
      obtain rfl:=oi hx5
      refine b5 (Sub.env ⟨Z,Z,Z,Z,Z,Z,Y⟩)
  ·refine AWP.ac Z h (fun hc9 h=> ?_) (fun hc9 h=> ?_)
   ·refine AWP.q (.u (.v Z Z (.nil (b5 (.ret (j5 (e6 ?_)))))))
    obtain rfl:=oi h
    refine e6 ⟨_,Z,Z,?_⟩
    exact Done.ret Z Z
   ·refine AWP.skip (d6 (b5 (.u (.add Z Z Z (by omega) (.j Z Z (.nil ?_))))))
    obtain rfl:=oi h
    refine b5 ⟨_,Z,?_⟩
    exact Sub.env ⟨Z,Z,Z,Z,Z,Y⟩
 ·intro e s hq
  rcases oo with u|x
  ·try dsimp only at h hq
   obtain⟨rfl,hs⟩:=hq
   refine⟨_,hs,?_⟩
   refine i6 (b5 (.q (.u (.v Z Z (.nil (b5 (.ret ?_)))))))
   obtain rfl:=oi h
   exact Done.ret Z Z
  ·try dsimp only at h hq
   obtain⟨rfl,hs⟩:=hq
   refine⟨_,Sub.refl _ _,?_⟩
   refine j5 (e6 ?_)
   obtain rfl:=oi h
   exact hs
theorem F0{xv:Int}{r:Bool}(h:cmp_isNaN_int xv=some r):e9 prog 85 [(cI xv)] ((cB r)):=by
 unfold e9
 refine FnOk.enter (rs:=[.t 2]) func85 Z ntmps85 results85 Z ⟨Y,Y⟩ (by kernel_rfl) Z ?_
 unfold cmp_isNaN_int at h
 refine AWP.q (.u (.v Z Z (.nil (b5 (.q (.u (.j Z Z (.j Z Z (.neq Z Z Z (.v Z Z (.nil (b5 (.ret ?_)))))))))))))
 obtain rfl:=oi h
 exact Done.ret Z Z
theorem cmp_Less_int_ok{xv:Int}{yv:Int}{r:Bool}(h:W8 xv yv=some r):e9 prog 61 [(cI xv),(cI yv)] ((cB r)):=by
 unfold e9
 refine FnOk.enter (rs:=[.t 4]) func61 Z ntmps61 results61 Z ⟨Y,Y⟩ (by kernel_rfl) Z ?_
 unfold W8 at h
 refine AWP.q (.u (.v Z Z (.nil (b5 ?_))))
 obtain⟨t3,hx4,h⟩:=bind_some h
 refine AWP.seqJ (⟨[(4,(cB t3))],[]⟩) ?_ ?_
 ·obtain⟨a6,ha6,hx4⟩:=bind_some hx4
  rcases bft (a6) with hb5|hb5
  ·replace hx4:=S7 hb5 hx4
   obtain⟨a9,ha9,hx4⟩:=bind_some hx4
   rcases bft (!a9) with hb6|hb6
   ·replace hx4:=S7 hb6 hx4
    refine AWP.u (.j Z Z (.O Z Z Z Z (F0 ha6) Z (.j Z Z (.z Z Z Z hb5 (.j Z Z (.z Z Z Z hb5 (.O Z Z Z Z (F0 ha9) Z (.z Z Z Z hb5 (.not Z Z (.U Z hb5 Z Z (.j Z Z (.B Z Z Z hb6 (.B Z Z Z hb6 (.B Z Z Z hb6 (.U Z hb6 Z Z (.v Z Z (.nil ?_)))))))))))))))))
    obtain rfl:=oi hx4
    refine b5 (Sub.env ⟨Z,Y⟩)
   ·replace hx4:=S6 hb6 hx4
    refine AWP.u (.j Z Z (.O Z Z Z Z (F0 ha6) Z (.j Z Z (.z Z Z Z hb5 (.j Z Z (.z Z Z Z hb5 (.O Z Z Z Z (F0 ha9) Z (.z Z Z Z hb5 (.not Z Z (.U Z hb5 Z Z (.j Z Z (.z Z Z Z hb6 (.j Z Z (.z Z Z Z hb6 (.j Z Z (.z Z Z Z hb6 (.F Z Z Z (.aa Z hb6 Z Z (.v Z Z (.nil ?_))))))))))))))))))))
    obtain rfl:=oi hx4
    refine b5 (Sub.env ⟨Z,Y⟩)
  ·replace hx4:=S6 hb5 hx4
   refine AWP.u (.j Z Z (.O Z Z Z Z (F0 ha6) Z (.j Z Z (.B Z Z Z hb5 (.B Z Z Z hb5 (.B Z Z Z hb5 (.aa Z hb5 Z Z (.j Z Z (.z Z Z Z Z (.j Z Z (.z Z Z Z Z (.j Z Z (.z Z Z Z Z (.F Z Z Z (.aa Z Z Z Z (.v Z Z (.nil ?_)))))))))))))))))
   obtain rfl:=oi hx4
   refine b5 (Sub.env ⟨Z,Y⟩)
 ·refine AWP.ret ?_
  obtain rfl:=oi h
  exact Done.ret Z Z
theorem V7{xv:Int}{r:Bool}(h:O3 xv=some r):e9 prog 62 [(cI xv)] ((cB r)):=by
 unfold e9
 refine FnOk.enter (rs:=[.t 2]) func62 Z ntmps62 results62 Z ⟨Y,Y⟩ (by kernel_rfl) Z ?_
 unfold O3 at h
 refine AWP.q (.u (.v Z Z (.nil (b5 (.q (.u (.j Z Z (.j Z Z (.neq Z Z Z (.v Z Z (.nil (b5 (.ret ?_)))))))))))))
 obtain rfl:=oi h
 exact Done.ret Z Z
theorem R4{xv:Li}{target:Int}{r:Int×Bool}(h:v7 xv target=some r):e9 prog 41 [(cR xv),(cI target)] (.tup [(cI r.1),(cB r.2)]):=by
 unfold e9
 refine FnOk.enter (rs:=[.t 4,.t 5]) func41 Z ntmps41 results41 Z ⟨Y,Y,Y⟩ (by kernel_rfl) Z ?_
 unfold v7 at h
 refine AWP.q (.u (.v Z Z (.v Z Z (.nil (b5 (.q (.u (.j Z Z (S.len Z Z (fun hl11=>.v Z Z (.nil (b5 (.q (.u (.j Z Z (.v Z Z (.v Z Z (.nil (b5 (.q (.J ?_)))))))))))))))))))))
 obtain⟨iv5,ho1,h⟩:=bind_some h
 refine AWP.loopS ho1 (fun(iv3,j4)=>⟨[(0,(cR xv)),(1,(cI target)),(6,(cI (xv.length:Int))),(7,(cI iv3)),(8,(cI j4))],[]⟩) (fun iv5 e st=>e=.exit 0∧Sub [] st ⟨[(0,(cR xv)),(1,(cI target)),(6,(cI (xv.length:Int))),(7,(cI iv5))],[]⟩) ?_ ?_ ?_
 ·try dsimp only
  exact Sub.env ⟨Z,Z,Z,Z,Z,Y⟩
 ·intro s o h
  obtain⟨iv3,j4⟩:=s
  unfold B5 at h
  try dsimp only at h ⊢
  refine AWP.q (.q (.u (.j Z Z (.j Z Z (.F Z Z Z (.nil (b5 (.ite Z h (fun hc6 h=> ?_) (fun hc6 h=> ?_)))))))))
  ·refine AWP.skip (b5 (.J (.q (.u (.j Z Z (.j Z Z (S.add Z Z Z (.convInt Z Z (.shr Z Z Z (by first|decide|omega) Z (.convInt Z Z (.v Z Z (.nil (b5 (.q ?_))))))))))))))
   obtain⟨a24,ha24,a27,ha27,h⟩:=b2 h
   refine AWP.u (.j Z Z (.j Z Z (S.idx ha24 Z Z Z Z (.ag Z Z Z Z (.j Z Z (.O Z Z Z Z (cmp_Less_int_ok ha27) Z (.nil (b5 (.ac Z h (fun hc7 h=> ?_) (fun hc7 h=> ?_))))))))))
   ·refine AWP.u (.j Z Z (S.add Z Z Z (.v Z Z (.nil (d6 ?_)))))
    obtain rfl:=oi h
    refine b5 ⟨_,Z,?_⟩
    exact Sub.env ⟨Z,Z,Z,Z,Z,Y⟩
   ·refine AWP.u (.j Z Z (.v Z Z (.nil (d6 ?_))))
    obtain rfl:=oi h
    refine b5 ⟨_,Z,?_⟩
    exact Sub.env ⟨Z,Z,Z,Z,Z,Y⟩
  ·refine AWP.exit (d7 ?_)
   obtain rfl:=oi h
   refine d7 ⟨_,Z,Z,?_⟩
   exact Sub.env ⟨Z,Z,Z,Z,Y⟩
 ·intro e s hq
  obtain⟨rfl,hs⟩:=hq
  refine⟨_,hs,?_⟩
  refine i6 (b5 ?_)
  obtain⟨t8,hx9,h⟩:=bind_some h
  refine AWP.seqJ (⟨[(4,(cI iv5)),(5,(cB t8))],[]⟩) ?_ ?_
  ·rcases bft (decide (iv5<(xv.length:Int))) with hb10|hb10
   ·replace hx9:=P1 hb10 hx9
    obtain⟨a38,ha38,hx9⟩:=bind_some hx9
    rcases bft (decide (a38=target)) with hb11|hb11
    ·replace hx9:=P1 hb11 hx9
     refine AWP.u (.j Z Z (.j Z Z (.j Z Z (.F Z Z Z (.j Z Z (.z Z Z Z hb10 (.j Z Z (.z Z Z Z hb10 (.j Z Z (.z Z Z Z hb10 (S.idx ha38 Z Z Z Z (.z Z Z Z hb10 (.ag Z Z Z Z (.z Z Z Z hb10 (.j Z Z (.z Z Z Z hb10 (.ad Z Z Z (.z Z Z Z hb10 (.j Z Z (.B Z Z Z hb11 (.B Z Z Z hb11 (.B Z Z Z hb11 (.B Z Z Z hb11 (.B Z Z Z hb11 (.B Z Z Z hb11 (.ah Z Z Z (.ah Z Z Z (.B Z Z Z hb11 (.z Z Z Z hb10 (.U Z hb11 Z Z (.U Z hb10 Z Z (.v Z Z (.v Z Z (.nil ?_))))))))))))))))))))))))))))))))))
     obtain rfl:=oi hx9
     refine b5 (Sub.env ⟨Z,Z,Y⟩)
    ·replace hx9:=P3 hb11 hx9
     obtain⟨a45,ha45,a47,ha47,hx9⟩:=b2 hx9
     rcases bft (a47) with hb12|hb12
     ·replace hx9:=S7 hb12 hx9
      obtain⟨a50,ha50,hx9⟩:=bind_some hx9
      refine AWP.u (.j Z Z (.j Z Z (.j Z Z (.F Z Z Z (.j Z Z (.z Z Z Z hb10 (.j Z Z (.z Z Z Z hb10 (.j Z Z (.z Z Z Z hb10 (S.idx ha38 Z Z Z Z (.z Z Z Z hb10 (.ag Z Z Z Z (.z Z Z Z hb10 (.j Z Z (.z Z Z Z hb10 (.ad Z Z Z (.z Z Z Z hb10 (.j Z Z (.z Z Z Z hb11 (.j Z Z (.z Z Z Z hb11 (.j Z Z (.z Z Z Z hb11 (S.idx ha45 Z Z Z Z (.z Z Z Z hb11 (.ag Z Z Z Z (.z Z Z Z hb11 (.O Z Z Z Z (V7 ha47) Z (.z Z Z Z hb11 (.j Z Z (.z Z Z Z hb12 (.j Z Z (.z Z Z Z hb12 (.O Z Z Z Z (V7 ha50) Z (.z Z Z Z hb11 (.U Z hb12 Z Z (.z Z Z Z hb10 (.aa Z hb11 Z Z (.U Z hb10 Z Z (.v Z Z (.v Z Z (.nil ?_)))))))))))))))))))))))))))))))))))))))))))
      obtain rfl:=oi hx9
      refine b5 (Sub.env ⟨Z,Z,Y⟩)
     ·replace hx9:=S6 hb12 hx9
      refine AWP.u (.j Z Z (.j Z Z (.j Z Z (.F Z Z Z (.j Z Z (.z Z Z Z hb10 (.j Z Z (.z Z Z Z hb10 (.j Z Z (.z Z Z Z hb10 (S.idx ha38 Z Z Z Z (.z Z Z Z hb10 (.ag Z Z Z Z (.z Z Z Z hb10 (.j Z Z (.z Z Z Z hb10 (.ad Z Z Z (.z Z Z Z hb10 (.j Z Z (.z Z Z Z hb11 (.j Z Z (.z Z Z Z hb11 (.j Z Z (.z Z Z Z hb11 (S.idx ha45 Z Z Z Z (.z Z Z Z hb11 (.ag Z Z Z Z (.z Z Z Z hb11 (.O Z Z Z Z (V7 ha47) Z (.z Z Z Z hb11 (.j Z Z (.B Z Z Z hb12 (.B Z Z Z hb12 (.z Z Z Z hb11 (.aa Z hb12 Z Z (.z Z Z Z hb10 (.aa Z hb11 Z Z (.U Z hb10 Z Z (.v Z Z (.v Z Z (.nil ?_)))))))))))))))))))))))))))))))))))))))))
      obtain rfl:=oi hx9
      refine b5 (Sub.env ⟨Z,Z,Y⟩)
   ·replace hx9:=P3 hb10 hx9
    refine AWP.u (.j Z Z (.j Z Z (.j Z Z (.F Z Z Z (.j Z Z (.B Z Z Z hb10 (.B Z Z Z hb10 (.B Z Z Z hb10 (.B Z Z Z hb10 (.B Z Z Z hb10 (.B Z Z Z hb10 (.B Z Z Z hb10 (.ah Z Z Z (.ah Z Z Z (.ah Z Z Z (.ah Z Z Z (.ah Z Z Z (.ah Z Z Z (.ah Z Z Z (.ah Z Z Z (.ah Z Z Z (.B Z Z Z hb10 (.aa Z hb10 Z Z (.v Z Z (.v Z Z (.nil ?_))))))))))))))))))))))))))
    obtain rfl:=oi hx9
    refine b5 (Sub.env ⟨Z,Z,Y⟩)
  ·refine AWP.ret ?_
   obtain rfl:=oi h
   exact Done.ret Z Z
theorem aw8{xv:Int}{c2:Li}{r:Bool}(h:Y7 xv c2=some r):e9 prog 40 [(cI xv),.c (.imm (.ipt [.sl 1 (List.map intI c2)]))] ((cB r)):=by
 unfold e9
 refine FnOk.enter (rs:=[.t 3]) func40 Z ntmps40 results40 Z ⟨Y,Y⟩ (by kernel_rfl) Z ?_
 unfold Y7 at h
 refine AWP.q (.u (.v Z Z (.nil (b5 (.q ?_)))))
 obtain⟨a9,ha9,h⟩:=bind_some h
 refine AWP.u (.ag Z Z Z Z (.j Z Z (.O Z Z Z Z (R4 ha9) Z (.j Z Z (.ab Z Z Z (.ab Z Z Z (.v Z Z (.v Z Z (.nil (b5 (.q (.u (.j Z Z (.v Z Z (.nil (b5 (.ret ?_)))))))))))))))))
 obtain rfl:=oi h
 exact Done.ret Z Z
theorem ai7{sv:Li}{fv:Int→Option Bool}{r:Int}{fvfv:FuncId}{cvfv:List C}(hcvfv:C.okL 0 cvfv=true)(hfv:∀{y1:Int} {z:Bool},fv y1=some z→e9 prog fvfv ([(cI y1)]++cvfv.map T.c) ((cB z)))(h:G2 sv fv=some r):e9 prog 60 [(cR sv),.c (.fn fvfv cvfv)] ((cI r)):=by
 unfold e9
 refine FnOk.enter (rs:=[.t 4]) func60 Z ntmps60 results60 Z ⟨Y,Y⟩ (by kernel_rfl) Z ?_
 unfold G2 at h
 refine AWP.q (.u (.v Z Z (.nil (b5 (.q (.q (.u (.j Z Z (S.len Z Z (fun hl7=>.j Z Z (.nil (b5 (.J ?_)))))))))))))
 obtain⟨oo,ho1,h⟩:=bind_some h
 refine AWP.rngS ho1 (fun t3 _=>⟨[(0,(cR sv)),(1,.c (.fn fvfv cvfv)),(7,(cI (sv.length:Int))),(8,(cI t3))],[]⟩) (fun o e st=>match o with| .inl _=>e=.exit 0∧Sub [] st ⟨[],[]⟩| .inr x=>e=.ret∧Done [.t 4] (fun t _=>t=(cI x)) .ret st) ?_ ?_ ?_ ?_
 ·try dsimp only
  exact Sub.env ⟨Z,Z,Z,Z,Y⟩
 ·intro t3 s hlot3 hltt3 _
  try dsimp only
  refine AWP.q (.u (.F Z Z Z (.nil (b5 (.q (.ae Z hltt3 (.exit (d7 (d7 ⟨Z,?_⟩)))))))))
  exact Sub.env Y
 ·intro t3 s o hlot3 hltt3 h
  unfold D7 at h
  try dsimp only at h ⊢
  refine AWP.q (.u (.F Z Z Z (.nil (b5 (.q (.af Z hltt3 (.skip (b5 (.q (.J (.q (.u (.j Z Z (.v Z Z (.nil (b5 (.q ?_)))))))))))))))))
  obtain⟨a14,ha14,a16,ha16,h⟩:=b2 h
  refine AWP.u (.j Z Z (.j Z Z (.j Z Z (S.idx ha14 Z Z Z Z (.ag Z Z Z Z (.O Z Z (okL_app Z hcvfv) Z (hfv ha16) Z (.nil (b5 (.ac Z h (fun hc4 h=> ?_) (fun hc4 h=> ?_))))))))))
  ·refine AWP.q (.u (.j Z Z (.v Z Z (.nil (b5 (.ret (j5 (e6 ?_))))))))
   obtain rfl:=oi h
   refine e6 ⟨_,Z,Z,?_⟩
   exact Done.ret Z Z
  ·refine AWP.skip (d6 (b5 (.u (.add Z Z Z (by omega) (.j Z Z (.nil ?_))))))
   obtain rfl:=oi h
   refine b5 ⟨_,Z,?_⟩
   exact Sub.env ⟨Z,Z,Z,Z,Y⟩
 ·intro e s hq
  rcases oo with u|x
  ·try dsimp only at h hq
   obtain⟨rfl,hs⟩:=hq
   refine⟨_,hs,?_⟩
   refine i6 (b5 (.q (.u (.v Z Z (.nil (b5 (.ret ?_)))))))
   obtain rfl:=oi h
   exact Done.ret Z Z
  ·try dsimp only at h hq
   obtain⟨rfl,hs⟩:=hq
   refine⟨_,Sub.refl _ _,?_⟩
   refine j5 (e6 ?_)
   obtain rfl:=oi h
   exact hs
theorem ag8{sv:Li}{fv:Int→Option Bool}{r:Bool}{fvfv:FuncId}{cvfv:List C}(hcvfv:C.okL 0 cvfv=true)(hfv:∀{y1:Int} {z:Bool},fv y1=some z→e9 prog fvfv ([(cI y1)]++cvfv.map T.c) ((cB z)))(h:z7 sv fv=some r):e9 prog 39 [(cR sv),.c (.fn fvfv cvfv)] ((cB r)):=by
 unfold e9
 refine FnOk.enter (rs:=[.t 4]) func39 Z ntmps39 results39 Z ⟨Y,Y⟩ (by kernel_rfl) Z ?_
 unfold z7 at h
 refine AWP.q (.u (.v Z Z (.nil (b5 (.q ?_)))))
 obtain⟨a7,ha7,h⟩:=bind_some h
 refine AWP.u (.j Z Z (.j Z Z (.O Z Z (by simp[T.okL,T.ok,C.ok,C.okL,hcvfv]) Z (ai7 hcvfv hfv ha7) Z (.geq Z Z Z (.v Z Z (.nil (b5 (.ret ?_))))))))
 obtain rfl:=oi h
 exact Done.ret Z Z
theorem k9{av:Li}{bv:Li}{r:Bool}(h:C5 av bv=some r):e9 prog 20 [(cR av),(cR bv)] ((cB r)):=by
 unfold e9
 refine FnOk.enter (rs:=[.t 4]) func20 Z ntmps20 results20 Z ⟨Y,Y⟩ (by kernel_rfl) Z ?_
 unfold C5 at h
 refine AWP.q (.u (W.box Z Z Z Z Z Z (.v Z Z (.nil (b5 (.q ?_))))))
 obtain⟨a7,ha7,h⟩:=bind_some h
 refine AWP.u (.j Z Z (.makeFunc Z Z (.callL Z Z (.cons (.c .imm) (.cons (.c (.fn (.cons (.ptr (es:=[.sl 1 (List.map intI bv)]) Z Z (.cons .imm .nil)) .nil))) .nil)) Z (ag8 Z (fun hy=>aw8 hy) ha7) Z ?_)))
 refine AOps.v Z Z (.nil (b5 (.ret ?_)))
 obtain rfl:=oi h
 exact Done.ret Z Z
theorem aw5{ov:f9}{facts:Int}{r:Int}(h:S3 ov facts=some r):e9 prog 35 [.agg [row 1 intI ov.pre,row 1 intI ov.add,row 1 intI ov.del,int ov.cost],(cI facts)] ((cI r)):=by
 unfold e9
 refine FnOk.enter (rs:=[.t 4]) func35 Z ntmps35 results35 Z ⟨Y,Y⟩ (by kernel_rfl) Z ?_
 unfold S3 at h
 refine AWP.q (.u (W.box Z Z Z Z Z Z (.v Z Z (.nil (b5 (.q (.J ?_)))))))
 obtain⟨t3,hx4,h⟩:=bind_some h
 refine AWP.seqJ (⟨[(2,(cP 0 0 0)),(5,(cB t3))],[(oE 4 [row 1 intI ov.pre,row 1 intI ov.add,row 1 intI ov.del,int ov.cost])]⟩) ?_ ?_
 ·obtain⟨a9,ha9,hx4⟩:=bind_some hx4
  rcases bft (!a9) with hb5|hb5
  ·replace hx4:=S7 hb5 hx4
   refine AWP.u (W.fieldAddr Z Z Z Z (.E Z Z Z Z Z Z (.j Z Z (.O Z Z Z Z (w4 ha9) Z (.not Z Z (.j Z Z (.B Z Z Z hb5 (.B Z Z Z hb5 (.B Z Z Z hb5 (.B Z Z Z hb5 (.B Z Z Z hb5 (.U Z hb5 Z Z (.j Z Z (.B Z Z Z Z (.B Z Z Z Z (.B Z Z Z Z (.B Z Z Z Z (.B Z Z Z Z (.U Z Z Z Z (.j Z Z (.B Z Z Z Z (.B Z Z Z Z (.B Z Z Z Z (.B Z Z Z Z (.B Z Z Z Z (.U Z Z Z Z (.v Z Z (.nil ?_))))))))))))))))))))))))))))
   obtain rfl:=oi hx4
   refine b5 (Sub.env ⟨Z,Z,Y⟩)
  ·replace hx4:=S6 hb5 hx4
   obtain⟨a15,ha15,hx4⟩:=bind_some hx4
   rcases bft (!a15) with hb6|hb6
   ·replace hx4:=S7 hb6 hx4
    refine AWP.u (W.fieldAddr Z Z Z Z (.E Z Z Z Z Z Z (.j Z Z (.O Z Z Z Z (w4 ha9) Z (.not Z Z (.j Z Z (.z Z Z Z hb5 (W.fieldAddr Z Z Z Z (.z Z Z Z hb5 (.E Z Z Z Z Z Z (.z Z Z Z hb5 (.j Z Z (.z Z Z Z hb5 (.O Z Z Z Z (w4 ha15) Z (.z Z Z Z hb5 (.not Z Z (.aa Z hb5 Z Z (.j Z Z (.B Z Z Z hb6 (.B Z Z Z hb6 (.B Z Z Z hb6 (.B Z Z Z hb6 (.B Z Z Z hb6 (.U Z hb6 Z Z (.j Z Z (.B Z Z Z Z (.B Z Z Z Z (.B Z Z Z Z (.B Z Z Z Z (.B Z Z Z Z (.U Z Z Z Z (.v Z Z (.nil ?_)))))))))))))))))))))))))))))))))
    obtain rfl:=oi hx4
    refine b5 (Sub.env ⟨Z,Z,Y⟩)
   ·replace hx4:=S6 hb6 hx4
    obtain⟨a22,ha22,hx4⟩:=bind_some hx4
    rcases bft (!a22) with hb7|hb7
    ·replace hx4:=S7 hb7 hx4
     refine AWP.u (W.fieldAddr Z Z Z Z (.E Z Z Z Z Z Z (.j Z Z (.O Z Z Z Z (w4 ha9) Z (.not Z Z (.j Z Z (.z Z Z Z hb5 (W.fieldAddr Z Z Z Z (.z Z Z Z hb5 (.E Z Z Z Z Z Z (.z Z Z Z hb5 (.j Z Z (.z Z Z Z hb5 (.O Z Z Z Z (w4 ha15) Z (.z Z Z Z hb5 (.not Z Z (.aa Z hb5 Z Z (.j Z Z (.z Z Z Z hb6 (W.fieldAddr Z Z Z Z (.z Z Z Z hb6 (.E Z Z Z Z Z Z (.z Z Z Z hb6 (.j Z Z (.z Z Z Z hb6 (.O Z Z Z Z (w4 ha22) Z (.z Z Z Z hb6 (.not Z Z (.aa Z hb6 Z Z (.j Z Z (.B Z Z Z hb7 (.B Z Z Z hb7 (.B Z Z Z hb7 (.B Z Z Z hb7 (.B Z Z Z hb7 (.U Z hb7 Z Z (.v Z Z (.nil ?_))))))))))))))))))))))))))))))))))))))
     obtain rfl:=oi hx4
     refine b5 (Sub.env ⟨Z,Z,Y⟩)
    ·replace hx4:=S6 hb7 hx4
     obtain⟨a30,ha30,hx4⟩:=bind_some hx4
     refine AWP.u (W.fieldAddr Z Z Z Z (.E Z Z Z Z Z Z (.j Z Z (.O Z Z Z Z (w4 ha9) Z (.not Z Z (.j Z Z (.z Z Z Z hb5 (W.fieldAddr Z Z Z Z (.z Z Z Z hb5 (.E Z Z Z Z Z Z (.z Z Z Z hb5 (.j Z Z (.z Z Z Z hb5 (.O Z Z Z Z (w4 ha15) Z (.z Z Z Z hb5 (.not Z Z (.aa Z hb5 Z Z (.j Z Z (.z Z Z Z hb6 (W.fieldAddr Z Z Z Z (.z Z Z Z hb6 (.E Z Z Z Z Z Z (.z Z Z Z hb6 (.j Z Z (.z Z Z Z hb6 (.O Z Z Z Z (w4 ha22) Z (.z Z Z Z hb6 (.not Z Z (.aa Z hb6 Z Z (.j Z Z (.z Z Z Z hb7 (W.fieldAddr Z Z Z Z (.z Z Z Z hb7 (.E Z Z Z Z Z Z (.z Z Z Z hb7 (W.fieldAddr Z Z Z Z (.z Z Z Z hb7 (.E Z Z Z Z Z Z (.z Z Z Z hb7 (.O Z Z Z Z (k9 ha30) Z (.aa Z hb7 Z Z (.v Z Z (.nil ?_)))))))))))))))))))))))))))))))))))))))))))
     obtain rfl:=oi hx4
     refine b5 (Sub.env ⟨Z,Z,Y⟩)
 ·refine AWP.ac Z h (fun hc8 h=> ?_) (fun hc8 h=> ?_)
  ·refine AWP.q (.u (.v Z Z (.nil (b5 (.ret (j5 (e6 ?_)))))))
   obtain rfl:=oi h
   exact Done.ret Z Z
  ·refine AWP.seqJ (⟨[(32,(cB ((decide (ov.cost<0))||(decide (100<ov.cost)))))],[(oE 4 [row 1 intI ov.pre,row 1 intI ov.add,row 1 intI ov.del,int ov.cost])]⟩) ?_ ?_
   ·rcases bft (decide (ov.cost<0)) with hb1|hb1
    ·refine AWP.u (W.fieldAddr Z Z Z Z (.E Z Z Z Z Z Z (.F Z Z Z (.j Z Z (.B Z Z Z hb1 (.B Z Z Z hb1 (.B Z Z Z hb1 (.U Z hb1 Z Z (.v Z Z (.nil (b5 ?_)))))))))))
     simp only[K3 hb1,or_t hb1,Bool.false_or,Bool.true_or,Bool.false_and,Bool.true_and]
     exact Sub.env ⟨Z,Y⟩
    ·refine AWP.u (W.fieldAddr Z Z Z Z (.E Z Z Z Z Z Z (.F Z Z Z (.j Z Z (.z Z Z Z hb1 (W.fieldAddr Z Z Z Z (.z Z Z Z hb1 (.E Z Z Z Z Z Z (.z Z Z Z hb1 (.gtr Z Z Z (.aa Z hb1 Z Z (.v Z Z (.nil (b5 ?_))))))))))))))
     simp only[D6 hb1,or_f hb1,Bool.false_or,Bool.true_or,Bool.false_and,Bool.true_and]
     exact Sub.env ⟨Z,Y⟩
   ·refine AWP.ac Z h (fun hc9 h=> ?_) (fun hc9 h=> ?_)
    ·refine AWP.q (.u (.v Z Z (.nil (b5 (.ret (j5 (e6 ?_)))))))
     obtain rfl:=oi h
     exact Done.ret Z Z
    ·refine AWP.skip (d6 (b5 (.q (.u (.v Z Z (.nil (b5 (.ret ?_))))))))
     obtain rfl:=oi h
     exact Done.ret Z Z
theorem K0{t:e7}{r:g8}(h:x5 t=some r):e9 prog 16 [.agg (tT t)] (.agg [int r.code,int r.index]):=by
 unfold e9
 refine FnOk.enter (rs:=[.cell 2 28 2]) func16 Z ntmps16 results16 Z ⟨rv _ Z,Y⟩ (by kernel_rfl) Z ?_
 unfold x5 at h
 refine AWP.q (.u (W.box Z Z Z Z Z Z (W.alloc Z Z Z Z (.nil (b5 (.q (.J (.seqJ (⟨[(1,(cP 0 0 0)),(2,(cP 1 0 0)),(6,(cB ((decide (t.facts<0))||(decide (24<t.facts)))))],[(oE 4 (tT t)),(oE 2 [int 0,int 0])]⟩) ?_ ?_))))))))
 ·rcases bft (decide (t.facts<0)) with hb1|hb1
  ·refine AWP.u (W.fieldAddr Z Z Z Z (.E Z Z Z Z Z Z (.F Z Z Z (.j Z Z (.B Z Z Z hb1 (.B Z Z Z hb1 (.B Z Z Z hb1 (.U Z hb1 Z Z (.v Z Z (.nil (b5 ?_)))))))))))
   simp only[K3 hb1,or_t hb1,Bool.false_or,Bool.true_or,Bool.false_and,Bool.true_and]
   exact Sub.env ⟨Z,Z,Z,Y⟩
  ·refine AWP.u (W.fieldAddr Z Z Z Z (.E Z Z Z Z Z Z (.F Z Z Z (.j Z Z (.z Z Z Z hb1 (W.fieldAddr Z Z Z Z (.z Z Z Z hb1 (.E Z Z Z Z Z Z (.z Z Z Z hb1 (.gtr Z Z Z (.aa Z hb1 Z Z (.v Z Z (.nil (b5 ?_))))))))))))))
   simp only[D6 hb1,or_f hb1,Bool.false_or,Bool.true_or,Bool.false_and,Bool.true_and]
   exact Sub.env ⟨Z,Z,Z,Y⟩
 ·refine AWP.ac Z h (fun hc2 h=> ?_) (fun hc2 h=> ?_)
  ·refine AWP.q (.u (W.build Z Z Z Z (W.storeAgg Z Z Z Z Z Z Z (.nil (b5 (.ret (j5 (e6 ?_))))))))
   obtain rfl:=oi h
   exact Done.ret Z Z
  ·refine AWP.q ?_
   obtain⟨a21,ha21,h⟩:=bind_some h
   refine AWP.u (W.fieldAddr Z Z Z Z (.E Z Z Z Z Z Z (W.fieldAddr Z Z Z Z (.E Z Z Z Z Z Z (.O Z Z Z Z (w4 ha21) Z (.not Z Z (.v Z Z (.nil (b5 (.ac Z h (fun hc3 h=> ?_) (fun hc3 h=> ?_)))))))))))
   ·refine AWP.q (.u (W.build Z Z Z Z (W.storeAgg Z Z Z Z Z Z Z (.nil (b5 (.ret (j5 (e6 ?_))))))))
    obtain rfl:=oi h
    exact Done.ret Z Z
   ·refine AWP.q ?_
    obtain⟨a29,ha29,h⟩:=bind_some h
    refine AWP.u (W.fieldAddr Z Z Z Z (.E Z Z Z Z Z Z (W.fieldAddr Z Z Z Z (.E Z Z Z Z Z Z (.O Z Z Z Z (w4 ha29) Z (.not Z Z (.v Z Z (.nil (b5 (.ac Z h (fun hc4 h=> ?_) (fun hc4 h=> ?_)))))))))))
    ·refine AWP.q (.u (W.build Z Z Z Z (W.storeAgg Z Z Z Z Z Z Z (.nil (b5 (.ret (j5 (e6 ?_))))))))
     obtain rfl:=oi h
     exact Done.ret Z Z
    ·refine AWP.q (.u (W.fieldAddr Z Z Z Z (.E Z Z Z Z Z Z (S.len Z Z (fun hl35=>.gtr Z Z Z (.v Z Z (.nil (b5 (.ite Z h (fun hc5 h=> ?_) (fun hc5 h=> ?_))))))))))
     ·refine AWP.q (.u (W.build Z Z Z Z (W.storeAgg Z Z Z Z Z Z Z (.nil (b5 (.ret (j5 (e6 ?_))))))))
      obtain rfl:=oi h
      exact Done.ret Z Z
     ·refine AWP.skip (d6 (b5 (.q (.q (.u (W.fieldAddr Z Z Z Z (.E Z Z Z Z Z Z (S.len Z Z (fun hl40=>.j Z Z (.nil (b5 (.J ?_))))))))))))
      obtain⟨oo,ho1,h⟩:=bind_some h
      refine AWP.rngS ho1 (fun t6 _=>⟨[(1,(cP 0 0 0)),(2,(cP 1 0 0)),(39,.c (row 4 k6 t.operators)),(40,(cI (t.operators.length:Int))),(41,(cI t6))],[(oE 4 (tT t)),(oE 2 [int 0,int 0])]⟩) (fun o e st=>match o with| .inl _=>e=.exit 1∧Sub [] st ⟨[(2,(cP 1 0 0))],[(oE 4 (tT t)),(oE 2 [int 0,int 0])]⟩| .inr x=>e=.ret∧Done [.cell 2 28 2] (fun t _=>t=.agg [int x.code,int x.index]) .ret st) ?_ ?_ ?_ ?_
      ·try dsimp only
       exact Sub.env ⟨Z,Z,Z,Z,Z,Y⟩
      ·intro t6 s hlot6 hltt6 _
       try dsimp only
       refine AWP.q (.u (.F Z Z Z (.nil (b5 (.q (.ae Z hltt6 (.exit (d7 (d7 ⟨Z,?_⟩)))))))))
       exact Sub.env ⟨Z,Y⟩
      ·intro t6 s o hlot6 hltt6 h
       unfold J6 at h
       try dsimp only at h ⊢
       refine AWP.q (.u (.F Z Z Z (.nil (b5 (.q (.af Z hltt6 (.skip (b5 (.q (.J (.q ?_)))))))))))
       obtain⟨a44,ha44,h⟩:=bind_some h
       refine AWP.u (.j Z Z (S.idx ha44 Z Z Z Z (W.loadIAgg Z Z Z Z Z (W.alloc Z Z Z Z (.v Z Z (W.storeAgg Z Z Z Z Z Z Z (.nil (b5 (.q ?_)))))))))
       obtain⟨a49,ha49,h⟩:=bind_some h
       refine AWP.u (W.loadAgg Z Z Z Z Z Z Z (W.fieldAddr Z Z Z Z (.E Z Z Z Z Z Z (.O Z Z Z Z (aw5 ha49) Z (.v Z Z (.nil (b5 (.q (.u (.j Z Z (.neq Z Z Z (.nil (b5 (.iteN Z h (fun hc7 h=> ?_) (fun hc7 h=> ?_)))))))))))))))
       ·refine AWP.q (.u (.j Z Z (.j Z Z (W.build Z Z Z Z (W.storeAgg Z Z Z Z Z Z Z (.nil (b5 (.ret (j5 (e6 ?_))))))))))
        obtain rfl:=oi h
        refine e6 ⟨_,Z,Z,?_⟩
        exact Done.ret Z Z
       ·refine AWP.skip (d6 (b5 (.u (.add Z Z Z (by omega) (.j Z Z (.nil ?_))))))
        obtain rfl:=oi h
        refine b5 ⟨_,Z,?_⟩
        exact Sub.cut ⟨Z,Z,Z,Z,Z,Y⟩ Z ⟨.one Z,.one Z,Y⟩ Z
      ·intro e s hq
       rcases oo with u|x
       ·try dsimp only at h hq
        obtain⟨rfl,hs⟩:=hq
        refine⟨_,hs,?_⟩
        refine i6 (b5 (.q (.u (W.build Z Z Z Z (W.storeAgg Z Z Z Z Z Z Z (.nil (b5 (.ret ?_))))))))
        obtain rfl:=oi h
        exact Done.ret Z Z
       ·try dsimp only at h hq
        obtain⟨rfl,hs⟩:=hq
        refine⟨_,Sub.refl _ _,?_⟩
        refine j5 (e6 ?_)
        obtain rfl:=oi h
        exact hs
theorem strips_Steps_ok{operators:Int}{plan:Li}{r:g8}(h:Y1 operators plan=some r):e9 prog 17 [(cI operators),(cR plan)] (.agg [int r.code,int r.index]):=by
 unfold e9
 refine FnOk.enter (rs:=[.cell 4 28 2]) func17 Z ntmps17 results17 Z ⟨rv _ Z,Y⟩ (by kernel_rfl) Z ?_
 unfold Y1 at h
 refine AWP.q (.u (W.alloc Z Z Z Z (.nil (b5 (.q (.q (.u (.j Z Z (S.len Z Z (fun hl8=>.gtr Z Z Z (.nil (b5 (.ite Z h (fun hc3 h=> ?_) (fun hc3 h=> ?_))))))))))))))
 ·refine AWP.q (.u (W.build Z Z Z Z (W.storeAgg Z Z Z Z Z Z Z (.nil (b5 (.ret (e6 ?_)))))))
  obtain rfl:=oi h
  exact Done.ret Z Z
 ·refine AWP.skip (b5 (.q (.q (.u (.j Z Z (S.len Z Z (fun hl12=>.j Z Z (.nil (b5 (.J ?_))))))))))
  obtain⟨oo,ho1,h⟩:=bind_some h
  refine AWP.rngS ho1 (fun t4 _=>⟨[(0,(cI operators)),(4,(cP 0 0 0)),(11,(cR plan)),(12,(cI (plan.length:Int))),(13,(cI t4))],[(oE 2 [int 0,int 0])]⟩) (fun o e st=>match o with| .inl _=>e=.exit 0∧Sub [] st ⟨[(4,(cP 0 0 0))],[(oE 2 [int 0,int 0])]⟩| .inr x=>e=.ret∧Done [.cell 4 28 2] (fun t _=>t=.agg [int x.code,int x.index]) .ret st) ?_ ?_ ?_ ?_
  ·try dsimp only
   exact Sub.env ⟨Z,Z,Z,Z,Z,Y⟩
  ·intro t4 s hlot4 hltt4 _
   try dsimp only
   refine AWP.q (.u (.F Z Z Z (.nil (b5 (.q (.ae Z hltt4 (.exit (d7 (d7 ⟨Z,?_⟩)))))))))
   exact Sub.env ⟨Z,Y⟩
  ·intro t4 s o hlot4 hltt4 h
   unfold ah4 at h
   try dsimp only at h ⊢
   refine AWP.q (.u (.F Z Z Z (.nil (b5 (.q (.af Z hltt4 (.skip (b5 (.q (.J (.q ?_)))))))))))
   obtain⟨a15,ha15,h⟩:=bind_some h
   refine AWP.u (S.idx ha15 Z Z Z Z (.ag Z Z Z Z (.v Z Z (.nil (b5 (.seqJ (⟨[(0,(cI operators)),(4,(cP 0 0 0)),(11,(cR plan)),(12,(cI (plan.length:Int))),(13,(cI t4)),(23,(cB ((decide (a15<0))||(decide (operators≤a15)))))],[(oE 2 [int 0,int 0])]⟩) ?_ ?_))))))
   ·rcases bft (decide (a15<0)) with hb1|hb1
    ·refine AWP.u (.j Z Z (.F Z Z Z (.j Z Z (.B Z Z Z hb1 (.B Z Z Z hb1 (.B Z Z Z hb1 (.U Z hb1 Z Z (.nil (b5 ?_)))))))))
     simp only[K3 hb1,or_t hb1,Bool.false_or,Bool.true_or,Bool.false_and,Bool.true_and]
     exact Sub.env ⟨Z,Z,Z,Z,Z,Z,Y⟩
    ·refine AWP.u (.j Z Z (.F Z Z Z (.j Z Z (.z Z Z Z hb1 (.j Z Z (.z Z Z Z hb1 (.j Z Z (.z Z Z Z hb1 (.geq Z Z Z (.aa Z hb1 Z Z (.nil (b5 ?_))))))))))))
     simp only[D6 hb1,or_f hb1,Bool.false_or,Bool.true_or,Bool.false_and,Bool.true_and]
     exact Sub.env ⟨Z,Z,Z,Z,Z,Z,Y⟩
   ·refine AWP.ac Z h (fun hc5 h=> ?_) (fun hc5 h=> ?_)
    ·refine AWP.q (.u (W.build Z Z Z Z (W.storeAgg Z Z Z Z Z Z Z (.nil (b5 (.ret (j5 (e6 ?_))))))))
     obtain rfl:=oi h
     refine e6 ⟨_,Z,Z,?_⟩
     exact Done.ret Z Z
    ·refine AWP.skip (d6 (b5 (.u (.add Z Z Z (by omega) (.j Z Z (.nil ?_))))))
     obtain rfl:=oi h
     refine b5 ⟨_,Z,?_⟩
     exact Sub.env ⟨Z,Z,Z,Z,Z,Y⟩
  ·intro e s hq
   rcases oo with u|x
   ·try dsimp only at h hq
    obtain⟨rfl,hs⟩:=hq
    refine⟨_,hs,?_⟩
    refine i6 (b5 (.q (.u (W.build Z Z Z Z (W.storeAgg Z Z Z Z Z Z Z (.nil (b5 (.ret ?_))))))))
    obtain rfl:=oi h
    exact Done.ret Z Z
   ·try dsimp only at h hq
    obtain⟨rfl,hs⟩:=hq
    refine⟨_,Sub.refl _ _,?_⟩
    refine j5 (e6 ?_)
    obtain rfl:=oi h
    exact hs
theorem ah6{t:e7}{plan:Li}{r:g8}(h:I5 t plan=some r):e9 prog 8 [.agg (tT t),(cR plan)] (.agg [int r.code,int r.index]):=by
 unfold e9
 refine FnOk.enter (rs:=[.cell 4 28 2]) func8 Z ntmps8 results8 Z ⟨rv _ Z,Y⟩ (by kernel_rfl) Z ?_
 unfold I5 at h
 refine AWP.q (.u (W.box Z Z Z Z Z Z (W.alloc Z Z Z Z (.nil (b5 (.q (.q ?_)))))))
 obtain⟨a7,ha7,h⟩:=bind_some h
 refine AWP.u (W.loadAgg Z Z Z Z Z Z Z (.O Z Z Z Z (K0 ha7) Z (W.alloc Z Z Z Z (W.storeAgg Z Z Z Z Z Z Z (.nil (b5 (.q (.u (W.loadAgg Z Z Z Z Z Z Z (W.build Z Z Z Z (.neqP Z Z Z Z Z Z Z (.nil (b5 (.ac Z h (fun hc3 h=> ?_) (fun hc3 h=> ?_)))))))))))))))
 ·refine AWP.q (.u (W.loadAgg Z Z Z Z Z Z Z (W.storeAgg Z Z Z Z Z Z Z (.nil (b5 (.ret (e6 ?_)))))))
  obtain rfl:=oi h
  exact Done.ret Z Z
 ·refine AWP.skip (b5 (.q ?_))
  obtain⟨a16,ha16,h⟩:=bind_some h
  refine AWP.u (W.fieldAddr Z Z Z Z (.E Z Z Z Z Z Z (S.len Z Z (fun hl14=>.j Z Z (.O Z Z Z Z (strips_Steps_ok ha16) Z (W.storeAgg Z Z Z Z Z Z Z (.nil (b5 (.ret ?_)))))))))
  obtain rfl:=oi h
  exact Done.ret Z Z
theorem Y2{sv:Li}{part:Li}{r:Bool}(h:G6 sv part=some r):e9 prog 19 [(cR sv),(cR part)] ((cB r)):=by
 unfold e9
 refine FnOk.enter (rs:=[.t 4]) func19 Z ntmps19 results19 Z ⟨Y,Y⟩ (by kernel_rfl) Z ?_
 unfold G6 at h
 refine AWP.q (.u (.v Z Z (.nil (b5 (.q (.u (.v Z Z (.nil (b5 (.q (.q (.u (.j Z Z (S.len Z Z (fun hl9=>.j Z Z (.nil (b5 (.J ?_))))))))))))))))))
 obtain⟨oo,ho1,h⟩:=bind_some h
 refine AWP.rngS ho1 (fun t4 iv3=>⟨[(0,(cR sv)),(5,(cI iv3)),(8,(cR part)),(9,(cI (part.length:Int))),(10,(cI t4))],[]⟩) (fun o e st=>match o with| .inl iv3=>e=.exit 0∧Sub [] st ⟨[],[]⟩| .inr x=>e=.ret∧Done [.t 4] (fun t _=>t=(cB x)) .ret st) ?_ ?_ ?_ ?_
 ·try dsimp only
  exact Sub.env ⟨Z,Z,Z,Z,Z,Y⟩
 ·intro t4 iv3 hlot4 hltt4 _
  try dsimp only
  refine AWP.q (.u (.F Z Z Z (.nil (b5 (.q (.ae Z hltt4 (.exit (d7 (d7 ⟨Z,?_⟩)))))))))
  exact Sub.env Y
 ·intro t4 iv3 o hlot4 hltt4 h
  unfold R2 at h
  try dsimp only at h ⊢
  refine AWP.q (.u (.F Z Z Z (.nil (b5 (.q (.af Z hltt4 (.skip (b5 (.q (.J (.q ?_)))))))))))
  obtain⟨a12,ha12,h⟩:=bind_some h
  refine AWP.u (S.idx ha12 Z Z Z Z (.ag Z Z Z Z (.v Z Z (.nil (b5 (.q (.J ?_)))))))
  obtain⟨iv6,ho2,h⟩:=bind_some h
  refine AWP.loopS ho2 (fun iv5=>⟨[(0,(cR sv)),(5,(cI iv5)),(7,(cI a12)),(8,(cR part)),(9,(cI (part.length:Int))),(10,(cI t4))],[]⟩) (fun iv6 e st=>e=.exit 2∧Sub [] st ⟨[(0,(cR sv)),(5,(cI iv6)),(7,(cI a12)),(8,(cR part)),(9,(cI (part.length:Int))),(10,(cI t4))],[]⟩) ?_ ?_ ?_
  ·try dsimp only
   exact Sub.env ⟨Z,Z,Z,Z,Z,Z,Y⟩
  ·intro iv5 o h
   unfold J9 at h
   try dsimp only at h ⊢
   refine AWP.q ?_
   obtain⟨t7,hx8,h⟩:=bind_some h
   refine AWP.seqJ (⟨[(0,(cR sv)),(5,(cI iv5)),(7,(cI a12)),(8,(cR part)),(9,(cI (part.length:Int))),(10,(cI t4)),(25,(cB t7))],[]⟩) ?_ ?_
   ·rcases bft (decide (iv5<(sv.length:Int))) with hb9|hb9
    ·replace hx8:=P1 hb9 hx8
     obtain⟨a21,ha21,hx8⟩:=bind_some hx8
     refine AWP.u (.j Z Z (.j Z Z (S.len Z Z (fun hl16=>.F Z Z Z (.j Z Z (.z Z Z Z hb9 (.j Z Z (.z Z Z Z hb9 (.j Z Z (.z Z Z Z hb9 (S.idx ha21 Z Z Z Z (.z Z Z Z hb9 (.ag Z Z Z Z (.z Z Z Z hb9 (.j Z Z (.z Z Z Z hb9 (.F Z Z Z (.U Z hb9 Z Z (.nil ?_)))))))))))))))))))
     obtain rfl:=oi hx8
     refine b5 (Sub.env ⟨Z,Z,Z,Z,Z,Z,Z,Y⟩)
    ·replace hx8:=P3 hb9 hx8
     refine AWP.u (.j Z Z (.j Z Z (S.len Z Z (fun hl16=>.F Z Z Z (.j Z Z (.B Z Z Z hb9 (.B Z Z Z hb9 (.B Z Z Z hb9 (.B Z Z Z hb9 (.B Z Z Z hb9 (.B Z Z Z hb9 (.aa Z hb9 Z Z (.nil ?_)))))))))))))
     obtain rfl:=oi hx8
     refine b5 (Sub.env ⟨Z,Z,Z,Z,Z,Z,Z,Y⟩)
   ·refine AWP.ac Z h (fun hc10 h=> ?_) (fun hc10 h=> ?_)
    ·refine AWP.skip (b5 (.J (.u (.j Z Z (S.add Z Z Z (.v Z Z (.nil (d6 ?_))))))))
     obtain rfl:=oi h
     refine b5 ⟨_,Z,?_⟩
     exact Sub.env ⟨Z,Z,Z,Z,Z,Z,Y⟩
    ·refine AWP.exit (d7 ?_)
     obtain rfl:=oi h
     refine d7 ⟨_,Z,Z,?_⟩
     exact Sub.env ⟨Z,Z,Z,Z,Z,Z,Y⟩
  ·intro e s hq
   obtain⟨rfl,hs⟩:=hq
   refine⟨_,hs,?_⟩
   refine i6 (b5 ?_)
   obtain⟨t11,hx12,h⟩:=bind_some h
   refine AWP.seqJ (⟨[(0,(cR sv)),(5,(cI iv6)),(8,(cR part)),(9,(cI (part.length:Int))),(10,(cI t4)),(39,(cB t11))],[]⟩) ?_ ?_
   ·rcases bft (decide (iv6=(sv.length:Int))) with hb13|hb13
    ·replace hx12:=P1 hb13 hx12
     refine AWP.u (.j Z Z (.j Z Z (S.len Z Z (fun hl30=>.ad Z Z Z (.j Z Z (.B Z Z Z hb13 (.B Z Z Z hb13 (.B Z Z Z hb13 (.B Z Z Z hb13 (.B Z Z Z hb13 (.B Z Z Z hb13 (.U Z hb13 Z Z (.nil ?_)))))))))))))
     obtain rfl:=oi hx12
     refine b5 (Sub.env ⟨Z,Z,Z,Z,Z,Z,Y⟩)
    ·replace hx12:=P3 hb13 hx12
     obtain⟨a35,ha35,hx12⟩:=bind_some hx12
     refine AWP.u (.j Z Z (.j Z Z (S.len Z Z (fun hl30=>.ad Z Z Z (.j Z Z (.z Z Z Z hb13 (.j Z Z (.z Z Z Z hb13 (.j Z Z (.z Z Z Z hb13 (S.idx ha35 Z Z Z Z (.z Z Z Z hb13 (.ag Z Z Z Z (.z Z Z Z hb13 (.j Z Z (.z Z Z Z hb13 (.neq Z Z Z (.aa Z hb13 Z Z (.nil ?_)))))))))))))))))))
     obtain rfl:=oi hx12
     refine b5 (Sub.env ⟨Z,Z,Z,Z,Z,Z,Y⟩)
   ·refine AWP.ac Z h (fun hc14 h=> ?_) (fun hc14 h=> ?_)
    ·refine AWP.q (.u (.v Z Z (.nil (b5 (.ret (j5 (e6 ?_)))))))
     obtain rfl:=oi h
     refine e6 ⟨_,Z,Z,?_⟩
     exact Done.ret Z Z
    ·refine AWP.skip (d6 (b5 (.u (.add Z Z Z (by omega) (.j Z Z (.nil ?_))))))
     obtain rfl:=oi h
     refine b5 ⟨_,Z,?_⟩
     exact Sub.env ⟨Z,Z,Z,Z,Z,Y⟩
 ·intro e s hq
  rcases oo with iv3|x
  ·try dsimp only at h hq
   obtain⟨rfl,hs⟩:=hq
   refine⟨_,hs,?_⟩
   refine i6 (b5 (.q (.u (.v Z Z (.nil (b5 (.ret ?_)))))))
   obtain rfl:=oi h
   exact Done.ret Z Z
  ·try dsimp only at h hq
   obtain⟨rfl,hs⟩:=hq
   refine⟨_,Sub.refl _ _,?_⟩
   refine j5 (e6 ?_)
   obtain rfl:=oi h
   exact hs
theorem strips_Can_ok{t:e7}{sv:Li}{op:Int}{r:Bool}(h:ag7 t sv op=some r):e9 prog 37 [.agg (tT t),(cR sv),(cI op)] ((cB r)):=by
 unfold e9
 refine FnOk.enter (rs:=[.t 6]) func37 Z ntmps37 results37 Z ⟨Y,Y⟩ (by kernel_rfl) Z ?_
 unfold ag7 at h
 refine AWP.q (.u (W.box Z Z Z Z Z Z (.v Z Z (.nil (b5 (.q ?_))))))
 obtain⟨a11,ha11,a14,ha14,h⟩:=b2 h
 refine AWP.u (.j Z Z (W.fieldAddr Z Z Z Z (.E Z Z Z Z Z Z (.j Z Z (S.idx ha11 Z Z Z Z (W.fieldAddrI Z Z Z Z (.ag Z Z Z Z (.O Z Z Z Z (Y2 ha14) Z (.v Z Z (.nil (b5 (.ret ?_))))))))))))
 obtain rfl:=oi h
 exact Done.ret Z Z
theorem ao3{sv:Li}{add:Li}{del:Li}{r:Li}(h:H3 sv add del=some r):q8 prog 45 [(cR sv),(cR add),(cR del)] 1 (List.map intI r):=by
 unfold q8
 refine FnOk.enter (rs:=[.t 6]) func45 Z ntmps45 results45 Z ⟨Y,Y⟩ (by kernel_rfl) Z ?_
 unfold H3 at h
 refine AWP.q (.u (.v Z Z (.nil (b5 (.q (.u (.v Z Z (.nil (b5 (.q (.q (.u (.j Z Z (S.len Z Z (fun hl13=>.j Z Z (.nil (b5 (.J (.virtV 1 intI 7 Z Z Z ?_)))))))))))))))))))
 obtain⟨c4,ho1,h⟩:=bind_some h
 refine AWP.forS ho1 (fun t5 c4=>⟨[(1,(cR add)),(2,(cR del)),(7,.c (.own 0 0 c4.length)),(12,(cR sv)),(13,(cI (sv.length:Int))),(14,(cI t5))],[(oV 1 intI c4)]⟩) (fun c4 e st=>e=.exit 0∧Sub [] st ⟨[(1,(cR add)),(7,.c (.own 0 0 c4.length))],[(oV 1 intI c4)]⟩) ?_ ?_ ?_ ?_
 ·try dsimp only
  exact Sub.env ⟨Z,Z,(F2 (by first|rfl|simp only[lS])),Z,Z,Z,Y⟩
 ·intro t5 c4 hlot5 hltt5 _
  try dsimp only
  refine AWP.q (.u (.F Z Z Z (.nil (b5 (.q (.ae Z hltt5 (.exit (d7 (d7 ⟨Z,?_⟩)))))))))
  exact Sub.env ⟨Z,Z,Y⟩
 ·intro t5 c4 o hlot5 hltt5 h
  unfold ad3 at h
  try dsimp only at h ⊢
  refine AWP.q (.u (.F Z Z Z (.nil (b5 (.q (.af Z hltt5 (.skip (b5 ?_))))))))
  obtain⟨c6,hx7,h⟩:=bind_some h
  refine AWP.seqJ (⟨[(1,(cR add)),(2,(cR del)),(7,.c (.own 2 0 c6.length)),(12,(cR sv)),(13,(cI (sv.length:Int))),(14,(cI t5))],[.dead,.dead,(oV 1 intI c6)]⟩) ?_ ?_
  ·refine AWP.J (.q ?_)
   obtain⟨a16,ha16,hx7⟩:=bind_some hx7
   refine AWP.u (S.idx ha16 Z Z Z Z (.ag Z Z Z Z (.v Z Z (.nil (b5 (.q ?_))))))
   obtain⟨a21,ha21,hx7⟩:=bind_some hx7
   refine AWP.u (.j Z Z (.j Z Z (.O Z Z Z Z (R4 ha21) Z (.j Z Z (.ab Z Z Z (.ab Z Z Z (.v Z Z (.v Z Z (.nil (b5 (.q (.u (.j Z Z (.not Z Z (.nil (b5 (.ac Z hx7 (fun hc8 hx7=> ?_) (fun hc8 hx7=> ?_))))))))))))))))))
   ·obtain⟨a29,ha29,hx7⟩:=bind_some hx7
    refine AWP.u (.j Z Z (.j Z Z (S.lit (f:=intI) (l:=[a16]) (ess:=[[int a16]]) Z Z Z Z Z Z Z ⟨⟨.inl Z,Y⟩,Y⟩ Z Z Z (S.append (f:=intI) ha29 Z Z Z Z Z Z (.own Z Z) Z Z Z Z (.v Z Z (.nil (d6 ?_)))))))
    obtain rfl:=oi hx7
    refine b5 (Sub.cut ⟨Z,Z,Z,Z,Z,Z,Y⟩ Z ⟨.dead,.dead,.vec,Y⟩ Z)
   ·refine AWP.skip (d6 ?_)
    obtain rfl:=oi hx7
    refine b5 ((Sub.move (env':=[(1,(cR add)),(2,(cR del)),(7,.c (.own 2 0 c4.length)),(12,(cR sv)),(13,(cI (sv.length:Int))),(14,(cI t5))]) (σ':=[.dead,.dead,(oV 1 intI c4)]) 2 0 Z Z Z ⟨Z,Z,Z,Z,Z,Z,Y⟩ Z ⟨Y,Y,⟨Blk.im_ok _ _ _,g9 Z⟩,Y⟩).trans (Sub.env ⟨Z,Z,Z,Z,Z,Z,Y⟩))
  ·refine AWP.u (.add Z Z Z (by omega) (.j Z Z (.nil ?_)))
   obtain rfl:=oi h
   refine b5 ((Sub.move (env':=[(1,(cR add)),(2,(cR del)),(7,.c (.own 0 0 c6.length)),(12,(cR sv)),(13,(cI (sv.length:Int))),(14,(cI (t5+1)))]) (σ':=[(oV 1 intI c6),.dead]) 0 2 Z Z Z ⟨Z,Z,Z,Z,Z,Z,Y⟩ Z ⟨⟨Blk.im_ok _ _ _,g9 Z⟩,Y,Y⟩).trans (Sub.cut ⟨Z,Z,Z,Z,Z,Z,Y⟩ Z ⟨.vec,Y⟩ Z))
 ·intro e s hq
  obtain⟨rfl,hs⟩:=hq
  refine⟨_,hs,?_⟩
  refine i6 (b5 (.q ?_))
  obtain⟨a33,ha33,h⟩:=bind_some h
  refine AWP.u (.j Z Z (.j Z Z (S.append (f:=intI) ha33 Z Z Z Z Z Z .row Z Z Z Z (.v Z Z (.nil (b5 (.q (.j (env':=[(7,.c (.own 0 0 a33.length))]) (σ':=[(oV 1 intI a33)]) 0 1 Z Z Z ⟨Z,Y⟩ Z ⟨⟨Blk.im_ok _ _ _,g9 Z⟩,Y⟩ ?_))))))))
  obtain⟨a35,ha35,h⟩:=bind_some h
  refine AWP.u (.j Z Z (S.sort ha35 sortL_ok Z Z Z Z Z Z (.nil (b5 (.q (.u (.j Z Z (S.compact compactL_ok Z Z (sortL_len ha35) Z Z Z Z Z (.v Z Z (.nil (b5 (.ret ?_))))))))))))
  obtain rfl:=oi h
  exact Done.ret Z (Fresh.mk Z Z)
theorem as4{t:e7}{sv:Li}{op:Int}{r:Li}(h:V5 t sv op=some r):q8 prog 38 [.agg (tT t),(cR sv),(cI op)] 1 (List.map intI r):=by
 unfold q8
 refine FnOk.enter (rs:=[.t 6]) func38 Z ntmps38 results38 Z ⟨Y,Y⟩ (by kernel_rfl) Z ?_
 unfold V5 at h
 refine AWP.q (.u (W.box Z Z Z Z Z Z (.v Z Z (.nil (b5 (.q ?_))))))
 obtain⟨a11,ha11,h⟩:=bind_some h
 refine AWP.u (W.fieldAddr Z Z Z Z (.E Z Z Z Z Z Z (.j Z Z (S.idx ha11 Z Z Z Z (W.loadIAgg Z Z Z Z Z (W.alloc Z Z Z Z (W.storeAgg Z Z Z Z Z Z Z (.nil (b5 (.q ?_))))))))))
 obtain⟨a18,ha18,h⟩:=bind_some h
 refine AWP.u (.j Z Z (W.fieldAddr Z Z Z Z (.E Z Z Z Z Z Z (W.fieldAddr Z Z Z Z (.E Z Z Z Z Z Z (S.fresh Z Z Z Z (ao3 ha18) Z Z (.v Z Z (.nil (b5 (.ret ?_))))))))))
 obtain rfl:=oi h
 exact Done.ret Z (Fresh.mk Z Z)
theorem strips_Run_ok{t:e7}{sv:Li}{plan:Li}{r:(LL)}(h:ag0 t sv plan=some r):q8 prog 18 [.agg (tT t),(cR sv),(cR plan)] 1 (List.map f7 r):=by
 unfold q8
 refine FnOk.enter (rs:=[.t 6]) func18 Z ntmps18 results18 Z ⟨Y,Y⟩ (by kernel_rfl) Z ?_
 unfold ag0 at h
 refine AWP.q (.u (W.box Z Z Z Z Z Z (.v Z Z (.nil (b5 (.q ?_))))))
 obtain⟨a11,ha11,h⟩:=bind_some h
 refine AWP.u (.j Z Z (S.fresh Z Z Z Z (q7 ha11) Z Z (.frzV (id:=1) (l:=a11) (env2:=[(1,(cR sv)),(2,(cR plan)),(3,(cP 0 0 0)),(11,(cR a11))]) (σ2:=[(oE 4 (tT t)),.dead]) Z Z (by exact⟨⟨_,Z,.inl ⟨Z,Z⟩⟩,⟨_,Z,.inl ⟨Z,Z⟩⟩,⟨_,Z,.inl ⟨Z,Z⟩⟩,⟨_,Z,.inr ⟨_,Z,Z,Z⟩⟩,Y⟩) Z (by exact⟨⟨Z,.inl ⟨Z,Z⟩,.inl ⟨Z,Z⟩,.inl ⟨Z,Z⟩,.inl ⟨Z,Z⟩,Y⟩,Y,Y⟩) (S.lit (f:=f7) (l:=[a11]) (ess:=[[row 1 intI a11]]) Z Z Z Z Z Z Z ⟨⟨.inl Z,Y⟩,Y⟩ Z Z Z (.v Z Z (.nil (b5 (.q (.q (.u (.j Z Z (S.len Z Z (fun hl14=>.j Z Z (.nil (b5 (.J ?_))))))))))))))))
 obtain⟨c7,ho1,h⟩:=bind_some h
 refine AWP.loopS ho1 (fun(c4,sv5,t6)=>⟨[(1,(cR sv5)),(3,(cP 0 0 0)),(7,.c (.own 2 0 c4.length)),(13,(cR plan)),(14,(cI (plan.length:Int))),(15,(cI t6))],[(oE 4 (tT t)),.dead,(oV 1 f7 c4)]⟩) (fun c7 e st=>e=.exit 0∧Sub [] st ⟨[(7,.c (.own 2 0 c7.length))],[.dead,.dead,(oV 1 f7 c7)]⟩) ?_ ?_ ?_
 ·try dsimp only
  exact Sub.env ⟨Z,Z,Z,Z,Z,Z,Y⟩
 ·intro s o h
  obtain⟨c4,sv5,t6⟩:=s
  unfold ac5 at h
  try dsimp only at h ⊢
  refine AWP.q (.u (.F Z Z Z (.nil (b5 (.q (.ite Z h (fun hc8 h=> ?_) (fun hc8 h=> ?_)))))))
  ·refine AWP.skip (b5 (.q (.J (.q ?_))))
   obtain⟨a17,ha17,h⟩:=bind_some h
   refine AWP.u (S.idx ha17 Z Z Z Z (.ag Z Z Z Z (.v Z Z (.nil (b5 (.q (.q ?_)))))))
   obtain⟨a22,ha22,h⟩:=bind_some h
   refine AWP.u (W.loadAgg Z Z Z Z Z Z Z (.j Z Z (.j Z Z (.O Z Z Z Z (strips_Can_ok ha22) Z (.not Z Z (.nil (b5 (.ac Z h (fun hc9 h=> ?_) (fun hc9 h=> ?_)))))))))
   ·refine AWP.exit (d7 (F9 Z (d7 ?_)))
    obtain rfl:=oi h
    refine d7 ⟨_,Z,Z,?_⟩
    exact Sub.cut ⟨Z,Y⟩ Z ⟨.dead,.dead,.vec,Y⟩ Z
   ·refine AWP.skip (b5 (.q ?_))
    obtain⟨a27,ha27,h⟩:=bind_some h
    refine AWP.u (W.loadAgg Z Z Z Z Z Z Z (.j Z Z (.j Z Z (S.fresh Z Z Z Z (as4 ha27) Z Z (.v Z Z (.nil (b5 ?_)))))))
    obtain⟨a31,ha31,h⟩:=bind_some h
    refine AWP.u (.j Z Z (.j Z Z (.frzV (id:=3) (l:=a27) (env2:=[(1,(cR a27)),(3,(cP 0 0 0)),(13,(cR plan)),(14,(cI (plan.length:Int))),(15,(cI t6)),(28,.c (.own 2 0 c4.length)),(29,(cR a27))]) (σ2:=[(oE 4 (tT t)),.dead,(oV 1 f7 c4),.dead]) Z Z (by exact⟨⟨_,Z,.inr ⟨_,Z,Z,Z⟩⟩,⟨_,Z,.inl ⟨Z,Z⟩⟩,⟨_,Z,.inl ⟨Z,Z⟩⟩,⟨_,Z,.inl ⟨Z,Z⟩⟩,⟨_,Z,.inl ⟨Z,Z⟩⟩,⟨_,Z,.inl ⟨Z,Z⟩⟩,⟨_,Z,.inr ⟨_,Z,Z,Z⟩⟩,Y⟩) Z (by exact⟨⟨Z,.inl ⟨Z,Z⟩,.inl ⟨Z,Z⟩,.inl ⟨Z,Z⟩,.inl ⟨Z,Z⟩,Y⟩,Y,FrzB.vec,Y,Y⟩) (S.lit (f:=f7) (l:=[a27]) (ess:=[[row 1 intI a27]]) Z Z Z Z Z Z Z ⟨⟨.inl Z,Y⟩,Y⟩ Z Z Z (S.append (f:=f7) ha31 Z Z Z Z Z Z (.own Z Z) Z Z Z Z (.v Z Z (.nil (d6 (b5 (.j (env':=[(1,(cR a27)),(3,(cP 0 0 0)),(7,.c (.own 2 0 a31.length)),(13,(cR plan)),(14,(cI (plan.length:Int))),(15,(cI t6))]) (σ':=[(oE 4 (tT t)),.dead,(oV 1 f7 a31),.dead,(oV 1 f7 [a27])]) 2 5 Z Z Z ⟨Z,Z,Z,Z,Z,Z,Y⟩ Z ⟨⟨Z,Z⟩,Y,⟨Blk.im_ok _ _ _,g9 Z⟩,Y,⟨Blk.im_ok _ _ _,g9 Z⟩,Y⟩ (.u (S.add Z Z Z (.j Z Z (.nil ?_))))))))))))))
    obtain rfl:=oi h
    refine b5 ⟨_,Z,?_⟩
    exact Sub.cut ⟨Z,Z,Z,Z,Z,Z,Y⟩ Z ⟨.one Z,.dead,.vec,Y⟩ Z
  ·refine AWP.exit (d7 ?_)
   obtain rfl:=oi h
   refine d7 ⟨_,Z,Z,?_⟩
   exact Sub.cut ⟨Z,Y⟩ Z ⟨.dead,.dead,.vec,Y⟩ Z
 ·intro e s hq
  obtain⟨rfl,hs⟩:=hq
  refine⟨_,hs,?_⟩
  refine i6 (b5 (.q (.u (.j Z Z (.v Z Z (.nil (b5 (.ret ?_))))))))
  obtain rfl:=oi h
  exact Done.ret Z (Fresh.mk Z Z)
theorem ap8{t:e7}{sv:Li}{plan:Li}{r:Bool}(h:T4 t sv plan=some r):e9 prog 9 [.agg (tT t),(cR sv),(cR plan)] ((cB r)):=by
 unfold e9
 refine FnOk.enter (rs:=[.t 6]) func9 Z ntmps9 results9 Z ⟨Y,Y⟩ (by kernel_rfl) Z ?_
 unfold T4 at h
 refine AWP.q (.u (W.box Z Z Z Z Z Z (.v Z Z (.nil (b5 (.q ?_))))))
 obtain⟨a11,ha11,h⟩:=bind_some h
 refine AWP.u (W.loadAgg Z Z Z Z Z Z Z (.j Z Z (.j Z Z (S.fresh Z Z Z Z (strips_Run_ok ha11) Z Z (.v Z Z (.nil (b5 ?_)))))))
 obtain⟨t4,hx5,h⟩:=bind_some h
 refine AWP.seqJ (⟨[(6,(cB t4))],[]⟩) ?_ ?_
 ·rcases bft (decide ((a11.length:Int)=w64 ((plan.length:Int)+1))) with hb6|hb6
  ·replace hx5:=P1 hb6 hx5
   obtain⟨a22,ha22,a26,ha26,hx5⟩:=b2 hx5
   refine AWP.drawI mixed Z ?_
   refine l7.consF Z (fun E=>.j Z Z .N) Z (.consF Z (fun E=>S.lenO Z Z Z (fun hl13=>.nil ⟨Z,Z⟩)) Z (.consF Z (fun E=>.j Z Z .N) Z (.consF Z (fun E=>S.len Z Z (fun hl15=>.nil ⟨Z,Z⟩)) Z (.consF Z (fun E=>S.add Z Z Z .N) Z (.consF Z (fun E=>.ad Z Z Z .N) Z (.consF Z (fun E=>.j Z Z .N) Z (.consF Z (fun E=>.z Z Z Z hb6 (.j Z Z .N)) Z (.consF Z (fun E=>.z Z Z Z hb6 (.j Z Z .N)) Z ?_))))))))
   apply l7.consF;exact Z;intro E
   refine AOps.z Z Z Z hb6 ?_;refine S.len Z Z (fun hl21=> ?_)
   exact AOps.nil ⟨Z,Z⟩
   exact Z
   refine l7.consF Z (fun E=>.z Z Z Z hb6 (S.idxO ha22 Z Z Z Z Z .N)) Z (.consF Z (fun E=>.z Z Z Z hb6 (S.loadO ha22 Z Z Z Z Z .N)) Z (.consF Z (fun E=>.z Z Z Z hb6 (W.fieldAddr Z Z Z Z .N)) Z (.consF Z (fun E=>.z Z Z Z hb6 (.E Z Z Z Z Z Z .N)) Z (.consF Z (fun E=>.z Z Z Z hb6 (.O Z Z Z Z (Y2 ha26) Z .N)) Z (.consF Z (fun E=>.U Z hb6 Z Z .N) Z (.consF Z (fun E=>.v Z Z .N) Z ?_))))))
   refine l7.done ?_
   dsimp only[j6]
   obtain rfl:=oi hx5
   refine b5 (Sub.cut ⟨Z,Y⟩ Z Y Z)
  ·replace hx5:=P3 hb6 hx5
   refine AWP.drawI mixed Z ?_
   refine l7.consF Z (fun E=>.j Z Z .N) Z (.consF Z (fun E=>S.lenO Z Z Z (fun hl13=>.nil ⟨Z,Z⟩)) Z (.consF Z (fun E=>.j Z Z .N) Z (.consF Z (fun E=>S.len Z Z (fun hl15=>.nil ⟨Z,Z⟩)) Z (.consF Z (fun E=>S.add Z Z Z .N) Z (.consF Z (fun E=>.ad Z Z Z .N) Z (.consF Z (fun E=>.j Z Z .N) Z (.consF Z (fun E=>.B Z Z Z hb6 .N) Z (.consF Z (fun E=>.B Z Z Z hb6 .N) Z (.consF Z (fun E=>.B Z Z Z hb6 .N) Z (.consF Z (fun E=>.B Z Z Z hb6 .N) Z (.consF Z (fun E=>.B Z Z Z hb6 .N) Z (.consF Z (fun E=>.B Z Z Z hb6 .N) Z (.consF Z (fun E=>.B Z Z Z hb6 .N) Z (.consF Z (fun E=>.B Z Z Z hb6 .N) Z (.consF Z (fun E=>.aa Z hb6 Z Z .N) Z (.consF Z (fun E=>.v Z Z .N) Z ?_))))))))))))))))
   refine l7.done ?_
   dsimp only[j6]
   obtain rfl:=oi hx5
   refine b5 (Sub.cut ⟨Z,Y⟩ Z Y Z)
 ·refine AWP.ret ?_
  obtain rfl:=oi h
  exact Done.ret Z Z
theorem al6{t:e7}{av:Int}{bv:Int}{r:Bool}(h:E7 t av bv=some r):e9 prog 10 [.agg (tT t),(cI av),(cI bv)] ((cB r)):=by
 unfold e9
 refine FnOk.enter (rs:=[.t 6]) func10 Z ntmps10 results10 Z ⟨Y,Y⟩ (by kernel_rfl) Z ?_
 unfold E7 at h
 refine AWP.q (.u (W.box Z Z Z Z Z Z (.v Z Z (.nil (b5 (.q ?_))))))
 obtain⟨a12,ha12,a17,ha17,h⟩:=b2 h
 refine AWP.sub (s':=⟨[(0,.agg (tT t)),(1,(cI av)),(2,(cI bv)),(3,(cP 0 0 0)),(6,(cB false))],[(oE 4 (tT t)),.dead,.dead]⟩) (Sub.cut ⟨Z,Z,Z,Z,Z,Y⟩ Z ⟨.one Z,.dead,.dead,Y⟩ Z) (.drawTI [(cP 0 0 3),.c (row 4 k6 t.operators),(cI av),.c (.imm (.ipt [.sl 1 (List.map intI a12.pre),.sl 1 (List.map intI a12.add),.sl 1 (List.map intI a12.del),.val (.int .i64 a12.cost)])),.agg [row 1 intI a12.pre,row 1 intI a12.add,row 1 intI a12.del,int a12.cost],(cP 0 0 3),.c (row 4 k6 t.operators),(cI bv),.c (.imm (.ipt [.sl 1 (List.map intI a17.pre),.sl 1 (List.map intI a17.add),.sl 1 (List.map intI a17.del),.val (.int .i64 a17.cost)])),.agg [row 1 intI a17.pre,row 1 intI a17.add,row 1 intI a17.del,int a17.cost],(cP 1 0 0),(cP 2 0 0),.undef,.undef] [10,11,12,13] [([],[(oE 4 (tT t)),.dead,.dead]),([10],[(oE 4 (tT t)),(oE 4 [.imm (.val nL),.imm (.val nL),.imm (.val nL),int 0]),.dead]),([11],[(oE 4 (tT t)),.dead,(oE 4 [.imm (.val nL),.imm (.val nL),.imm (.val nL),int 0])]),([10,11],[(oE 4 (tT t)),(oE 4 [.imm (.val nL),.imm (.val nL),.imm (.val nL),int 0]),(oE 4 [.imm (.val nL),.imm (.val nL),.imm (.val nL),int 0])]),([10,11,12],[(oE 4 (tT t)),(oE 4 [row 1 intI a12.pre,row 1 intI a12.add,row 1 intI a12.del,int a12.cost]),(oE 4 [.imm (.val nL),.imm (.val nL),.imm (.val nL),int 0])]),([10,11,12,13],[(oE 4 (tT t)),(oE 4 [row 1 intI a12.pre,row 1 intI a12.add,row 1 intI a12.del,int a12.cost]),(oE 4 [row 1 intI a17.pre,row 1 intI a17.add,row 1 intI a17.del,int a17.cost])])] [(oE 4 (tT t)),(oE 4 [row 1 intI a12.pre,row 1 intI a12.add,row 1 intI a12.del,int a12.cost]),(oE 4 [row 1 intI a17.pre,row 1 intI a17.add,row 1 intI a17.del,int a17.cost])] mixed Z Z Z Z Z ?_ ?_)
 ·refine D8.cons ?_ ?_
  ·refine b9.go Z Z Z (fun E hE=>W.fieldAddr Z Z Z Z .N) ?_
   refine b9.go Z Z Z (fun E hE=>.E Z Z Z Z Z Z .N) ?_
   refine b9.go Z Z Z (fun E hE=>.j Z Z .N) ?_
   refine b9.go Z Z Z (fun E hE=>S.idx ha12 Z Z Z Z .N) ?_
   refine b9.go Z Z Z (fun E hE=>W.loadIAgg Z Z Z Z Z .N) ?_
   refine b9.go Z Z Z (fun E hE=>W.fieldAddr Z Z Z Z .N) ?_
   refine b9.go Z Z Z (fun E hE=>.E Z Z Z Z Z Z .N) ?_
   refine b9.go Z Z Z (fun E hE=>.j Z Z .N) ?_
   refine b9.go Z Z Z (fun E hE=>S.idx ha17 Z Z Z Z .N) ?_
   refine b9.go Z Z Z (fun E hE=>W.loadIAgg Z Z Z Z Z .N) ?_
   apply b9.eff;exact Z;exact Z;exact Z;exact Z;intro E hE;(refine AOps.allocAt 1 hE Z Z Z Z Z Z Z ⟨.one Z,.dead,.dead,Y⟩ Z ?_);exact AOps.nil ⟨Z,Z⟩
   apply b9.eff;exact Z;exact Z;exact Z;exact Z;intro E hE;(refine AOps.allocAt 2 hE Z Z Z Z Z Z Z ⟨.one Z,.dead,.dead,Y⟩ Z ?_);exact AOps.nil ⟨Z,Z⟩
   refine b9.no Z (b9.no Z (b9.nil))
  refine D8.cons ?_ ?_
  ·refine b9.go Z Z Z (fun E hE=>W.fieldAddr Z Z Z Z .N) ?_
   refine b9.go Z Z Z (fun E hE=>.E Z Z Z Z Z Z .N) ?_
   refine b9.go Z Z Z (fun E hE=>.j Z Z .N) ?_
   refine b9.go Z Z Z (fun E hE=>S.idx ha12 Z Z Z Z .N) ?_
   refine b9.go Z Z Z (fun E hE=>W.loadIAgg Z Z Z Z Z .N) ?_
   refine b9.go Z Z Z (fun E hE=>W.fieldAddr Z Z Z Z .N) ?_
   refine b9.go Z Z Z (fun E hE=>.E Z Z Z Z Z Z .N) ?_
   refine b9.go Z Z Z (fun E hE=>.j Z Z .N) ?_
   refine b9.go Z Z Z (fun E hE=>S.idx ha17 Z Z Z Z .N) ?_
   refine b9.go Z Z Z (fun E hE=>W.loadIAgg Z Z Z Z Z .N) ?_
   refine b9.no Z ?_
   apply b9.eff;exact Z;exact Z;exact Z;exact Z;intro E hE;(refine AOps.allocAt 2 hE Z Z Z Z Z Z Z ⟨.one Z,.one Z,.dead,Y⟩ Z ?_);exact AOps.nil ⟨Z,Z⟩
   refine b9.no Z (b9.no Z (b9.nil))
  refine D8.cons ?_ ?_
  ·refine b9.go Z Z Z (fun E hE=>W.fieldAddr Z Z Z Z .N) ?_
   refine b9.go Z Z Z (fun E hE=>.E Z Z Z Z Z Z .N) ?_
   refine b9.go Z Z Z (fun E hE=>.j Z Z .N) ?_
   refine b9.go Z Z Z (fun E hE=>S.idx ha12 Z Z Z Z .N) ?_
   refine b9.go Z Z Z (fun E hE=>W.loadIAgg Z Z Z Z Z .N) ?_
   refine b9.go Z Z Z (fun E hE=>W.fieldAddr Z Z Z Z .N) ?_
   refine b9.go Z Z Z (fun E hE=>.E Z Z Z Z Z Z .N) ?_
   refine b9.go Z Z Z (fun E hE=>.j Z Z .N) ?_
   refine b9.go Z Z Z (fun E hE=>S.idx ha17 Z Z Z Z .N) ?_
   refine b9.go Z Z Z (fun E hE=>W.loadIAgg Z Z Z Z Z .N) ?_
   apply b9.eff;exact Z;exact Z;exact Z;exact Z;intro E hE;(refine AOps.allocAt 1 hE Z Z Z Z Z Z Z ⟨.one Z,.dead,.one Z,Y⟩ Z ?_);exact AOps.nil ⟨Z,Z⟩
   refine b9.no Z (b9.no Z (b9.no Z (b9.nil)))
  refine D8.cons ?_ ?_
  ·refine b9.go Z Z Z (fun E hE=>W.fieldAddr Z Z Z Z .N) ?_
   refine b9.go Z Z Z (fun E hE=>.E Z Z Z Z Z Z .N) ?_
   refine b9.go Z Z Z (fun E hE=>.j Z Z .N) ?_
   refine b9.go Z Z Z (fun E hE=>S.idx ha12 Z Z Z Z .N) ?_
   refine b9.go Z Z Z (fun E hE=>W.loadIAgg Z Z Z Z Z .N) ?_
   refine b9.go Z Z Z (fun E hE=>W.fieldAddr Z Z Z Z .N) ?_
   refine b9.go Z Z Z (fun E hE=>.E Z Z Z Z Z Z .N) ?_
   refine b9.go Z Z Z (fun E hE=>.j Z Z .N) ?_
   refine b9.go Z Z Z (fun E hE=>S.idx ha17 Z Z Z Z .N) ?_
   refine b9.go Z Z Z (fun E hE=>W.loadIAgg Z Z Z Z Z .N) ?_
   refine b9.no Z (b9.no Z ?_)
   apply b9.eff;exact Z;exact Z;exact Z;exact Z;intro E hE;(refine W.storeAgg Z Z Z Z Z Z Z ?_);exact AOps.nil ⟨Z,Z⟩
   refine b9.no Z (b9.nil)
  refine D8.cons ?_ ?_
  ·refine b9.no Z (b9.no Z (b9.no Z (b9.no Z (b9.no Z ?_))))
   refine b9.go Z Z Z (fun E hE=>W.fieldAddr Z Z Z Z .N) ?_
   refine b9.go Z Z Z (fun E hE=>.E Z Z Z Z Z Z .N) ?_
   refine b9.go Z Z Z (fun E hE=>.j Z Z .N) ?_
   refine b9.go Z Z Z (fun E hE=>S.idx ha17 Z Z Z Z .N) ?_
   refine b9.go Z Z Z (fun E hE=>W.loadIAgg Z Z Z Z Z .N) ?_
   refine b9.no Z (b9.no Z (b9.no Z ?_))
   apply b9.eff;exact Z;exact Z;exact Z;exact Z;intro E hE;(refine W.storeAgg Z Z Z Z Z Z Z ?_);exact AOps.nil ⟨Z,Z⟩
   exact b9.nil
  refine D8.cons ?_ ?_
  ·refine b9.no Z (b9.no Z (b9.no Z (b9.no Z (b9.no Z (b9.no Z (b9.no Z (b9.no Z (b9.no Z (b9.no Z (b9.no Z (b9.no Z (b9.no Z (b9.no Z (b9.nil))))))))))))))
  exact D8.nil
 dsimp only[j6]
 refine b5 ?_
 obtain⟨t4,hx5,h⟩:=bind_some h
 refine AWP.seqJ (⟨[(6,(cB t4))],[]⟩) ?_ ?_
 ·obtain⟨a23,ha23,hx5⟩:=bind_some hx5
  rcases bft (a23) with hb6|hb6
  ·replace hx5:=S7 hb6 hx5
   refine AWP.u (W.fieldAddr Z Z Z Z (.E Z Z Z Z Z Z (W.fieldAddr Z Z Z Z (.E Z Z Z Z Z Z (.O Z Z Z Z (k9 ha23) Z (.j Z Z (.B Z Z Z hb6 (.B Z Z Z hb6 (.B Z Z Z hb6 (.B Z Z Z hb6 (.B Z Z Z hb6 (.U Z hb6 Z Z (.j Z Z (.B Z Z Z Z (.B Z Z Z Z (.B Z Z Z Z (.B Z Z Z Z (.B Z Z Z Z (.U Z Z Z Z (.j Z Z (.B Z Z Z Z (.B Z Z Z Z (.B Z Z Z Z (.B Z Z Z Z (.B Z Z Z Z (.U Z Z Z Z (.j Z Z (.B Z Z Z Z (.B Z Z Z Z (.B Z Z Z Z (.B Z Z Z Z (.B Z Z Z Z (.U Z Z Z Z (.j Z Z (.B Z Z Z Z (.B Z Z Z Z (.B Z Z Z Z (.B Z Z Z Z (.B Z Z Z Z (.U Z Z Z Z (.v Z Z (.nil ?_))))))))))))))))))))))))))))))))))))))))))
   obtain rfl:=oi hx5
   refine b5 (Sub.cut ⟨Z,Y⟩ Z Y Z)
  ·replace hx5:=S6 hb6 hx5
   obtain⟨a29,ha29,hx5⟩:=bind_some hx5
   rcases bft (a29) with hb7|hb7
   ·replace hx5:=S7 hb7 hx5
    refine AWP.u (W.fieldAddr Z Z Z Z (.E Z Z Z Z Z Z (W.fieldAddr Z Z Z Z (.E Z Z Z Z Z Z (.O Z Z Z Z (k9 ha23) Z (.j Z Z (.z Z Z Z hb6 (W.fieldAddr Z Z Z Z (.z Z Z Z hb6 (.E Z Z Z Z Z Z (.z Z Z Z hb6 (W.fieldAddr Z Z Z Z (.z Z Z Z hb6 (.E Z Z Z Z Z Z (.z Z Z Z hb6 (.O Z Z Z Z (k9 ha29) Z (.aa Z hb6 Z Z (.j Z Z (.B Z Z Z hb7 (.B Z Z Z hb7 (.B Z Z Z hb7 (.B Z Z Z hb7 (.B Z Z Z hb7 (.U Z hb7 Z Z (.j Z Z (.B Z Z Z Z (.B Z Z Z Z (.B Z Z Z Z (.B Z Z Z Z (.B Z Z Z Z (.U Z Z Z Z (.j Z Z (.B Z Z Z Z (.B Z Z Z Z (.B Z Z Z Z (.B Z Z Z Z (.B Z Z Z Z (.U Z Z Z Z (.j Z Z (.B Z Z Z Z (.B Z Z Z Z (.B Z Z Z Z (.B Z Z Z Z (.B Z Z Z Z (.U Z Z Z Z (.v Z Z (.nil ?_)))))))))))))))))))))))))))))))))))))))))))))))
    obtain rfl:=oi hx5
    refine b5 (Sub.cut ⟨Z,Y⟩ Z Y Z)
   ·replace hx5:=S6 hb7 hx5
    obtain⟨a36,ha36,hx5⟩:=bind_some hx5
    rcases bft (a36) with hb8|hb8
    ·replace hx5:=S7 hb8 hx5
     refine AWP.u (W.fieldAddr Z Z Z Z (.E Z Z Z Z Z Z (W.fieldAddr Z Z Z Z (.E Z Z Z Z Z Z (.O Z Z Z Z (k9 ha23) Z (.j Z Z (.z Z Z Z hb6 (W.fieldAddr Z Z Z Z (.z Z Z Z hb6 (.E Z Z Z Z Z Z (.z Z Z Z hb6 (W.fieldAddr Z Z Z Z (.z Z Z Z hb6 (.E Z Z Z Z Z Z (.z Z Z Z hb6 (.O Z Z Z Z (k9 ha29) Z (.aa Z hb6 Z Z (.j Z Z (.z Z Z Z hb7 (W.fieldAddr Z Z Z Z (.z Z Z Z hb7 (.E Z Z Z Z Z Z (.z Z Z Z hb7 (W.fieldAddr Z Z Z Z (.z Z Z Z hb7 (.E Z Z Z Z Z Z (.z Z Z Z hb7 (.O Z Z Z Z (k9 ha36) Z (.aa Z hb7 Z Z (.j Z Z (.B Z Z Z hb8 (.B Z Z Z hb8 (.B Z Z Z hb8 (.B Z Z Z hb8 (.B Z Z Z hb8 (.U Z hb8 Z Z (.j Z Z (.B Z Z Z Z (.B Z Z Z Z (.B Z Z Z Z (.B Z Z Z Z (.B Z Z Z Z (.U Z Z Z Z (.j Z Z (.B Z Z Z Z (.B Z Z Z Z (.B Z Z Z Z (.B Z Z Z Z (.B Z Z Z Z (.U Z Z Z Z (.v Z Z (.nil ?_))))))))))))))))))))))))))))))))))))))))))))))))))))
     obtain rfl:=oi hx5
     refine b5 (Sub.cut ⟨Z,Y⟩ Z Y Z)
    ·replace hx5:=S6 hb8 hx5
     obtain⟨a43,ha43,hx5⟩:=bind_some hx5
     rcases bft (a43) with hb9|hb9
     ·replace hx5:=S7 hb9 hx5
      refine AWP.u (W.fieldAddr Z Z Z Z (.E Z Z Z Z Z Z (W.fieldAddr Z Z Z Z (.E Z Z Z Z Z Z (.O Z Z Z Z (k9 ha23) Z (.j Z Z (.z Z Z Z hb6 (W.fieldAddr Z Z Z Z (.z Z Z Z hb6 (.E Z Z Z Z Z Z (.z Z Z Z hb6 (W.fieldAddr Z Z Z Z (.z Z Z Z hb6 (.E Z Z Z Z Z Z (.z Z Z Z hb6 (.O Z Z Z Z (k9 ha29) Z (.aa Z hb6 Z Z (.j Z Z (.z Z Z Z hb7 (W.fieldAddr Z Z Z Z (.z Z Z Z hb7 (.E Z Z Z Z Z Z (.z Z Z Z hb7 (W.fieldAddr Z Z Z Z (.z Z Z Z hb7 (.E Z Z Z Z Z Z (.z Z Z Z hb7 (.O Z Z Z Z (k9 ha36) Z (.aa Z hb7 Z Z (.j Z Z (.z Z Z Z hb8 (W.fieldAddr Z Z Z Z (.z Z Z Z hb8 (.E Z Z Z Z Z Z (.z Z Z Z hb8 (W.fieldAddr Z Z Z Z (.z Z Z Z hb8 (.E Z Z Z Z Z Z (.z Z Z Z hb8 (.O Z Z Z Z (k9 ha43) Z (.aa Z hb8 Z Z (.j Z Z (.B Z Z Z hb9 (.B Z Z Z hb9 (.B Z Z Z hb9 (.B Z Z Z hb9 (.B Z Z Z hb9 (.U Z hb9 Z Z (.j Z Z (.B Z Z Z Z (.B Z Z Z Z (.B Z Z Z Z (.B Z Z Z Z (.B Z Z Z Z (.U Z Z Z Z (.v Z Z (.nil ?_)))))))))))))))))))))))))))))))))))))))))))))))))))))))))
      obtain rfl:=oi hx5
      refine b5 (Sub.cut ⟨Z,Y⟩ Z Y Z)
     ·replace hx5:=S6 hb9 hx5
      obtain⟨a50,ha50,hx5⟩:=bind_some hx5
      rcases bft (a50) with hb10|hb10
      ·replace hx5:=S7 hb10 hx5
       refine AWP.u (W.fieldAddr Z Z Z Z (.E Z Z Z Z Z Z (W.fieldAddr Z Z Z Z (.E Z Z Z Z Z Z (.O Z Z Z Z (k9 ha23) Z (.j Z Z (.z Z Z Z hb6 (W.fieldAddr Z Z Z Z (.z Z Z Z hb6 (.E Z Z Z Z Z Z (.z Z Z Z hb6 (W.fieldAddr Z Z Z Z (.z Z Z Z hb6 (.E Z Z Z Z Z Z (.z Z Z Z hb6 (.O Z Z Z Z (k9 ha29) Z (.aa Z hb6 Z Z (.j Z Z (.z Z Z Z hb7 (W.fieldAddr Z Z Z Z (.z Z Z Z hb7 (.E Z Z Z Z Z Z (.z Z Z Z hb7 (W.fieldAddr Z Z Z Z (.z Z Z Z hb7 (.E Z Z Z Z Z Z (.z Z Z Z hb7 (.O Z Z Z Z (k9 ha36) Z (.aa Z hb7 Z Z (.j Z Z (.z Z Z Z hb8 (W.fieldAddr Z Z Z Z (.z Z Z Z hb8 (.E Z Z Z Z Z Z (.z Z Z Z hb8 (W.fieldAddr Z Z Z Z (.z Z Z Z hb8 (.E Z Z Z Z Z Z (.z Z Z Z hb8 (.O Z Z Z Z (k9 ha43) Z (.aa Z hb8 Z Z (.j Z Z (.z Z Z Z hb9 (W.fieldAddr Z Z Z Z (.z Z Z Z hb9 (.E Z Z Z Z Z Z (.z Z Z Z hb9 (W.fieldAddr Z Z Z Z (.z Z Z Z hb9 (.E Z Z Z Z Z Z (.z Z Z Z hb9 (.O Z Z Z Z (k9 ha50) Z (.aa Z hb9 Z Z (.j Z Z (.B Z Z Z hb10 (.B Z Z Z hb10 (.B Z Z Z hb10 (.B Z Z Z hb10 (.B Z Z Z hb10 (.U Z hb10 Z Z (.v Z Z (.nil ?_))))))))))))))))))))))))))))))))))))))))))))))))))))))))))))))
       obtain rfl:=oi hx5
       refine b5 (Sub.cut ⟨Z,Y⟩ Z Y Z)
      ·replace hx5:=S6 hb10 hx5
       obtain⟨a57,ha57,hx5⟩:=bind_some hx5
       refine AWP.u (W.fieldAddr Z Z Z Z (.E Z Z Z Z Z Z (W.fieldAddr Z Z Z Z (.E Z Z Z Z Z Z (.O Z Z Z Z (k9 ha23) Z (.j Z Z (.z Z Z Z hb6 (W.fieldAddr Z Z Z Z (.z Z Z Z hb6 (.E Z Z Z Z Z Z (.z Z Z Z hb6 (W.fieldAddr Z Z Z Z (.z Z Z Z hb6 (.E Z Z Z Z Z Z (.z Z Z Z hb6 (.O Z Z Z Z (k9 ha29) Z (.aa Z hb6 Z Z (.j Z Z (.z Z Z Z hb7 (W.fieldAddr Z Z Z Z (.z Z Z Z hb7 (.E Z Z Z Z Z Z (.z Z Z Z hb7 (W.fieldAddr Z Z Z Z (.z Z Z Z hb7 (.E Z Z Z Z Z Z (.z Z Z Z hb7 (.O Z Z Z Z (k9 ha36) Z (.aa Z hb7 Z Z (.j Z Z (.z Z Z Z hb8 (W.fieldAddr Z Z Z Z (.z Z Z Z hb8 (.E Z Z Z Z Z Z (.z Z Z Z hb8 (W.fieldAddr Z Z Z Z (.z Z Z Z hb8 (.E Z Z Z Z Z Z (.z Z Z Z hb8 (.O Z Z Z Z (k9 ha43) Z (.aa Z hb8 Z Z (.j Z Z (.z Z Z Z hb9 (W.fieldAddr Z Z Z Z (.z Z Z Z hb9 (.E Z Z Z Z Z Z (.z Z Z Z hb9 (W.fieldAddr Z Z Z Z (.z Z Z Z hb9 (.E Z Z Z Z Z Z (.z Z Z Z hb9 (.O Z Z Z Z (k9 ha50) Z (.aa Z hb9 Z Z (.j Z Z (.z Z Z Z hb10 (W.fieldAddr Z Z Z Z (.z Z Z Z hb10 (.E Z Z Z Z Z Z (.z Z Z Z hb10 (W.fieldAddr Z Z Z Z (.z Z Z Z hb10 (.E Z Z Z Z Z Z (.z Z Z Z hb10 (.O Z Z Z Z (k9 ha57) Z (.aa Z hb10 Z Z (.v Z Z (.nil ?_)))))))))))))))))))))))))))))))))))))))))))))))))))))))))))))))))))
       obtain rfl:=oi hx5
       refine b5 (Sub.cut ⟨Z,Y⟩ Z Y Z)
 ·refine AWP.ret ?_
  obtain rfl:=oi h
  exact Done.ret Z Z
theorem ap1{t:e7}{plan:Li}{r:(List (Int×Int))×g8}(h:M8 t plan=some r):e9 prog 4 [.agg (tT t),(cR plan)] (.tup [.c (row 2 N9 r.1),.agg [int r.2.code,int r.2.index]]):=by
 unfold e9
 refine FnOk.enter (rs:=[.t 4,.cell 5 28 2]) func4 Z ntmps4 results4 Z ⟨Y,rv _ Z,Y⟩ (by kernel_rfl) Z ?_
 unfold M8 at h
 refine AWP.q (.u (W.box Z Z Z Z Z Z (.v Z Z (W.alloc Z Z Z Z (.nil (b5 (.q (.q ?_))))))))
 obtain⟨a12,ha12,h⟩:=bind_some h
 refine AWP.u (W.loadAgg Z Z Z Z Z Z Z (.j Z Z (.O Z Z Z Z (ah6 ha12) Z (W.alloc Z Z Z Z (W.storeAgg Z Z Z Z Z Z Z (.nil (b5 (.q (.u (W.loadAgg Z Z Z Z Z Z Z (W.build Z Z Z Z (.neqP Z Z Z Z Z Z Z (.nil (b5 (.ac Z h (fun hc3 h=> ?_) (fun hc3 h=> ?_))))))))))))))))
 ·refine AWP.q (.drawEI [2] mixed Z Z Z ?_)
  refine d5.consN Z Z (fun E=>W.loadAgg Z Z Z Z Z Z Z .N) Z (.consN Z Z (fun E=>.v Z Z .N) Z ?_)
  apply d5.consE (v:=.undef);exact Z;exact Z;intro E
  refine W.storeAgg Z Z Z Z Z Z Z .N
  exact Z
  exact Z
  refine d5.done Z ?_ ?_
  ·refine e8.cons Z Z (.go Z Z (fun E=>W.loadAgg Z Z Z Z Z Z Z .N) (.skip Z .nil)) (.cons Z Z (.go Z Z (fun E=>.v Z Z .N) (.skip Z .nil)) ?_)
   refine e8.skip Z (e8.nil)
  dsimp only[j6]
  refine b5 (.nilrow 2 4 Z (.ret (e6 ?_)))
  obtain rfl:=oi h
  exact Done.ret Z Z
 ·refine AWP.skip (b5 (.q (.q (.u (.j Z Z (S.len Z Z (fun hl18=>.gtr Z Z Z (.nil (b5 (.ite Z h (fun hc4 h=> ?_) (fun hc4 h=> ?_)))))))))))
  ·refine AWP.q (.u (W.build Z Z Z Z (.v Z Z (W.storeAgg Z Z Z Z Z Z Z (.nil (b5 (.nilrow 2 4 Z (.ret (e6 ?_)))))))))
   obtain rfl:=oi h
   exact Done.ret Z Z
  ·refine AWP.skip (b5 (.q (.q ?_)))
   obtain⟨a25,ha25,h⟩:=bind_some h
   refine AWP.u (W.loadAgg Z Z Z Z Z Z Z (W.fieldAddr Z Z Z Z (.E Z Z Z Z Z Z (.j Z Z (.O Z Z Z Z (ap8 ha25) Z (.not Z Z (.nil (b5 (.ac Z h (fun hc5 h=> ?_) (fun hc5 h=> ?_))))))))))
   ·refine AWP.q (.u (W.build Z Z Z Z (.v Z Z (W.storeAgg Z Z Z Z Z Z Z (.nil (b5 (.nilrow 2 4 Z (.ret (e6 ?_)))))))))
    obtain rfl:=oi h
    exact Done.ret Z Z
   ·refine AWP.skip (b5 (.q (.u (.v Z Z (.nil (b5 (.q (.q (.u (.j Z Z (S.len Z Z (fun hl29=>.j Z Z (.nil (b5 (.J (.virtV 2 N9 7 Z Z Z ?_))))))))))))))))
    obtain⟨c6,ho1,h⟩:=bind_some h
    refine AWP.forS ho1 (fun t7 c6=>⟨[(1,(cR plan)),(2,(cP 0 0 0)),(5,(cP 1 0 0)),(7,.c (.own 3 0 c6.length)),(29,(cI (plan.length:Int))),(30,(cI t7))],[(oE 4 (tT t)),(oE 2 [int 0,int 0]),.dead,(oV 2 N9 c6)]⟩) (fun c6 e st=>e=.exit 0∧Sub [] st ⟨[(5,(cP 1 0 0)),(7,.c (.own 3 0 c6.length))],[(oE 4 (tT t)),(oE 2 [int 0,int 0]),.dead,(oV 2 N9 c6)]⟩) ?_ ?_ ?_ ?_
    ·try dsimp only
     exact Sub.cut ⟨Z,Z,Z,(F2 (by first|rfl|simp only[lS])),Z,Z,Y⟩ Z ⟨.one Z,.one Z,.dead,.vec,Y⟩ Z
    ·intro t7 c6 hlot7 hltt7 _
     try dsimp only
     refine AWP.q (.u (.F Z Z Z (.nil (b5 (.q (.ae Z hltt7 (.exit (d7 (d7 ⟨Z,?_⟩)))))))))
     exact Sub.env ⟨Z,Z,Y⟩
    ·intro t7 c6 o hlot7 hltt7 h
     unfold D4 at h
     try dsimp only at h ⊢
     refine AWP.q (.u (.F Z Z Z (.nil (b5 (.q (.af Z hltt7 (.skip (b5 (.q (.J (.q (.u (.j Z Z (.v Z Z (.nil (b5 (.q (.u (.j Z Z (.add Z Z Z (by omega) (.v Z Z (.nil (b5 (.J ?_))))))))))))))))))))))))
     obtain⟨c8,ho2,h⟩:=bind_some h
     refine AWP.forS ho2 (fun j9 c8=>⟨[(1,(cR plan)),(2,(cP 0 0 0)),(5,(cP 1 0 0)),(7,.c (.own 3 0 c8.length)),(8,(cI t7)),(9,(cI j9)),(29,(cI (plan.length:Int))),(30,(cI t7))],[(oE 4 (tT t)),(oE 2 [int 0,int 0]),.dead,(oV 2 N9 c8)]⟩) (fun c8 e st=>e=.exit 2∧Sub [] st ⟨[(1,(cR plan)),(2,(cP 0 0 0)),(5,(cP 1 0 0)),(7,.c (.own 3 0 c8.length)),(29,(cI (plan.length:Int))),(30,(cI t7))],[(oE 4 (tT t)),(oE 2 [int 0,int 0]),.dead,(oV 2 N9 c8)]⟩) ?_ ?_ ?_ ?_
     ·try dsimp only
      exact Sub.env ⟨Z,Z,Z,Z,Z,Z,Z,Z,Y⟩
     ·intro j9 c8 hloj9 hltj9 _
      try dsimp only
      refine AWP.q (.q (.u (.j Z Z (.j Z Z (S.len Z Z (fun hl37=>.F Z Z Z (.nil (b5 (.ae Z hltj9 (.exit (d7 (d7 ⟨Z,?_⟩))))))))))))
      exact Sub.env ⟨Z,Z,Z,Z,Z,Z,Y⟩
     ·intro j9 c8 o hloj9 hltj9 h
      unfold H5 at h
      try dsimp only at h ⊢
      refine AWP.q (.q (.u (.j Z Z (.j Z Z (S.len Z Z (fun hl37=>.F Z Z Z (.nil (b5 (.af Z hltj9 (.skip (b5 ?_)))))))))))
      obtain⟨c10,hx11,h⟩:=bind_some h
      refine AWP.seqJ (⟨[(1,(cR plan)),(2,(cP 0 0 0)),(5,(cP 1 0 0)),(7,.c (.own 5 0 c10.length)),(8,(cI t7)),(9,(cI j9)),(29,(cI (plan.length:Int))),(30,(cI t7))],[(oE 4 (tT t)),(oE 2 [int 0,int 0]),.dead,.dead,.dead,(oV 2 N9 c10)]⟩) ?_ ?_
      ·refine AWP.J (.q ?_)
       obtain⟨a44,ha44,a48,ha48,a50,ha50,hx11⟩:=b3 hx11
       refine AWP.drawI mixed Z ?_
       refine l7.consF Z (fun E=>W.loadAgg Z Z Z Z Z Z Z .N) Z (.consF Z (fun E=>.j Z Z .N) Z (.consF Z (fun E=>.j Z Z .N) Z (.consF Z (fun E=>S.idx ha44 Z Z Z Z .N) Z (.consF Z (fun E=>.ag Z Z Z Z .N) Z (.consF Z (fun E=>.j Z Z .N) Z (.consF Z (fun E=>.j Z Z .N) Z (.consF Z (fun E=>S.idx ha48 Z Z Z Z .N) Z (.consF Z (fun E=>.ag Z Z Z Z .N) Z (.consF Z (fun E=>.O Z Z Z Z (al6 ha50) Z .N) Z ?_)))))))))
       refine l7.done ?_
       dsimp only[j6]
       refine b5 (.ac Z hx11 (fun hc12 hx11=> ?_) (fun hc12 hx11=> ?_))
       ·obtain⟨a56,ha56,hx11⟩:=bind_some hx11
        refine AWP.u (.j Z Z (.j Z Z (.j Z Z (.buildA Z Z Z Z (S.lit (f:=N9) (l:=[(t7,j9)]) (ess:=[[int t7,int j9]]) Z Z Z Z Z Z Z ⟨⟨.inl Z,.inl Z,Y⟩,Y⟩ Z Z Z (S.append (f:=N9) ha56 Z Z Z Z Z Z (.own Z Z) Z Z Z Z (.v Z Z (.nil (d6 ?_)))))))))
        obtain rfl:=oi hx11
        refine b5 (Sub.cut ⟨Z,Z,Z,Z,Z,Z,Z,Z,Y⟩ Z ⟨.one Z,.one Z,.dead,.dead,.dead,.vec,Y⟩ Z)
       ·refine AWP.skip (d6 ?_)
        obtain rfl:=oi hx11
        refine b5 ((Sub.move (env':=[(1,(cR plan)),(2,(cP 0 0 0)),(5,(cP 1 0 0)),(7,.c (.own 5 0 c8.length)),(8,(cI t7)),(9,(cI j9)),(29,(cI (plan.length:Int))),(30,(cI t7))]) (σ':=[(oE 4 (tT t)),(oE 2 [int 0,int 0]),.dead,.dead,.dead,(oV 2 N9 c8)]) 5 3 Z Z Z ⟨Z,Z,Z,Z,Z,Z,Z,Z,Y⟩ Z ⟨⟨Z,Z⟩,⟨Z,Z⟩,Y,Y,Y,⟨Blk.im_ok _ _ _,g9 Z⟩,Y⟩).trans (Sub.env ⟨Z,Z,Z,Z,Z,Z,Z,Z,Y⟩))
      ·refine AWP.u (.j Z Z (.add Z Z Z (by omega) (.v Z Z (.nil ?_))))
       obtain rfl:=oi h
       refine b5 ((Sub.move (env':=[(1,(cR plan)),(2,(cP 0 0 0)),(5,(cP 1 0 0)),(7,.c (.own 3 0 c10.length)),(8,(cI t7)),(9,(cI (j9+1))),(29,(cI (plan.length:Int))),(30,(cI t7))]) (σ':=[(oE 4 (tT t)),(oE 2 [int 0,int 0]),.dead,(oV 2 N9 c10),.dead]) 3 5 Z Z Z ⟨Z,Z,Z,Z,Z,Z,Z,Z,Y⟩ Z ⟨⟨Z,Z⟩,⟨Z,Z⟩,Y,⟨Blk.im_ok _ _ _,g9 Z⟩,Y,Y⟩).trans (Sub.cut ⟨Z,Z,Z,Z,Z,Z,Z,Z,Y⟩ Z ⟨.one Z,.one Z,.dead,.vec,Y⟩ Z))
     ·intro e s hq
      obtain⟨rfl,hs⟩:=hq
      refine⟨_,hs,?_⟩
      refine i6 (d6 (b5 (.u (.add Z Z Z (by omega) (.j Z Z (.nil ?_))))))
      obtain rfl:=oi h
      refine b5 (Sub.env ⟨Z,Z,Z,Z,Z,Z,Y⟩)
    ·intro e s hq
     obtain⟨rfl,hs⟩:=hq
     refine⟨_,hs,?_⟩
     refine i6 (b5 (.q (.u (.j Z Z (W.build Z Z Z Z (.v Z Z (W.storeAgg Z Z Z Z Z Z Z (.nil (b5 (.frzV (id:=3) (l:=c6) (env2:=[(4,.c (row 2 N9 c6)),(5,(cP 1 0 0))]) (σ2:=[(oE 4 (tT t)),(oE 2 [int 0,int 0]),.dead,.dead]) Z Z (by exact⟨⟨_,Z,.inr ⟨_,Z,Z,Z⟩⟩,⟨_,Z,.inl ⟨Z,Z⟩⟩,Y⟩) Z (by exact⟨⟨Z,.inl ⟨Z,Z⟩,.inl ⟨Z,Z⟩,.inl ⟨Z,Z⟩,.inl ⟨Z,Z⟩,Y⟩,⟨Z,.inl ⟨Z,Z⟩,.inl ⟨Z,Z⟩,Y⟩,Y,Y,Y⟩) (.ret ?_)))))))))))
     obtain rfl:=oi h
     exact Done.ret Z Z
theorem ar6{r:e7}(h:ab7=some r):e9 prog 12 [] (.agg (tT r)):=by
 unfold e9
 refine FnOk.enter (rs:=[.cell 0 25 4]) func12 Z ntmps12 results12 Z ⟨rv _ Z,Y⟩ (by kernel_rfl) Z ?_
 unfold ab7 at h
 refine AWP.q (.u (W.alloc Z Z Z Z (.nil (b5 (.q (.u (S.lit (f:=intI) (l:=[0]) (ess:=[[int 0]]) Z Z Z Z Z Z Z ⟨⟨.inl Z,Y⟩,Y⟩ Z Z Z (S.lit (f:=intI) (l:=[0]) (ess:=[[int 0]]) Z Z Z Z Z Z Z ⟨⟨.inl Z,Y⟩,Y⟩ Z Z Z (W.build Z Z Z Z (.frzV (id:=2) (l:=[0]) (env2:=[(0,(cP 0 0 0)),(1,.c (.own 1 0 ([0].length))),(3,.agg [.imm (.val nL),row 1 intI [0],.imm (.val nL),int 2])]) (σ2:=[(oE 4 [int 0,.imm (.val nL),.imm (.val nL),.imm (.val nL)]),(oV 1 intI [0]),.dead]) Z Z (by exact⟨⟨_,Z,.inl ⟨Z,Z⟩⟩,⟨_,Z,.inl ⟨Z,Z⟩⟩,⟨_,Z,⟨.inl ⟨Z,Z⟩,.inr ⟨_,Z,Z,Z⟩,.inl ⟨Z,Z⟩,.inl ⟨Z,Z⟩,Y⟩⟩,Y⟩) Z (by exact⟨⟨Z,.inl ⟨Z,Z⟩,.inl ⟨Z,Z⟩,.inl ⟨Z,Z⟩,.inl ⟨Z,Z⟩,Y⟩,FrzB.vec,Y,Y⟩) (S.lit (f:=k6) (l:=[(⟨[],[0],[],2⟩:f9)]) (ess:=[[.imm (.val nL),row 1 intI [0],.imm (.val nL),int 2]]) Z Z Z Z Z Z Z ⟨⟨.inr ⟨Z,_,Z⟩,.inl Z,.inr ⟨Z,_,Z⟩,.inl Z,Y⟩,Y⟩ Z Z Z (W.build Z Z Z Z (W.storeAgg Z Z Z Z Z Z Z (.nil (b5 (.frzV (id:=1) (l:=[0]) (env2:=[(0,(cP 0 0 0))]) (σ2:=[(oE 4 [int 1,.imm (.val nL),row 1 intI [0],.own 3 0 (([(⟨[],[0],[],2⟩:f9)]).length)]),.dead,.dead,(oV 4 k6 ([(⟨[],[0],[],2⟩:f9)]))]) Z Z (by exact⟨⟨_,Z,.inl ⟨Z,Z⟩⟩,Y⟩) Z (by exact⟨⟨Z,.inl ⟨Z,Z⟩,.inl ⟨Z,Z⟩,.inr ⟨_,Z,Z,Z⟩,.inl ⟨Z,Z⟩,Y⟩,Y,Y,FrzB.vec,Y⟩) (.frzV (id:=3) (l:=[(⟨[],[0],[],2⟩:f9)]) (env2:=[(0,(cP 0 0 0))]) (σ2:=[(oE 4 [int 1,.imm (.val nL),row 1 intI [0],row 4 k6 ([(⟨[],[0],[],2⟩:f9)])]),.dead,.dead,.dead]) Z Z (by exact⟨⟨_,Z,.inl ⟨Z,Z⟩⟩,Y⟩) Z (by exact⟨⟨Z,.inl ⟨Z,Z⟩,.inl ⟨Z,Z⟩,.inl ⟨Z,Z⟩,.inr ⟨_,Z,Z,Z⟩,Y⟩,Y,Y,Y,Y⟩) (.nilB (b:=0) [int 1,row 1 intI [],row 1 intI [0],row 4 k6 ([(⟨[],[0],[],2⟩:f9)])] Z (by exact⟨.inl Z,.inr ⟨Z,_,Z⟩,.inl Z,.inl Z,Y⟩) Z Z (.ret ?_)))))))))))))))))))
 obtain rfl:=oi h
 exact Done.ret Z Z
theorem aq7{t:e7}{unknown:Li}{r:g8}(h:H9 t unknown=some r):e9 prog 21 [.agg (tT t),(cR unknown)] (.agg [int r.code,int r.index]):=by
 unfold e9
 refine FnOk.enter (rs:=[.cell 4 28 2]) func21 Z ntmps21 results21 Z ⟨rv _ Z,Y⟩ (by kernel_rfl) Z ?_
 unfold H9 at h
 refine AWP.q (.u (W.box Z Z Z Z Z Z (W.alloc Z Z Z Z (.nil (b5 (.q (.q ?_)))))))
 obtain⟨a7,ha7,h⟩:=bind_some h
 refine AWP.u (W.loadAgg Z Z Z Z Z Z Z (.O Z Z Z Z (K0 ha7) Z (W.alloc Z Z Z Z (W.storeAgg Z Z Z Z Z Z Z (.nil (b5 (.q (.u (W.loadAgg Z Z Z Z Z Z Z (W.build Z Z Z Z (.neqP Z Z Z Z Z Z Z (.nil (b5 (.ac Z h (fun hc3 h=> ?_) (fun hc3 h=> ?_)))))))))))))))
 ·refine AWP.q (.u (W.loadAgg Z Z Z Z Z Z Z (W.storeAgg Z Z Z Z Z Z Z (.nil (b5 (.ret (e6 ?_)))))))
  obtain rfl:=oi h
  exact Done.ret Z Z
 ·refine AWP.skip (b5 (.q (.J (.q (.u (.j Z Z (S.len Z Z (fun hl14=>.gtr Z Z Z (.v Z Z (.nil (b5 (.ite Z h (fun hc4 h=> ?_) (fun hc4 h=> ?_)))))))))))))
  ·refine AWP.q (.u (W.build Z Z Z Z (W.storeAgg Z Z Z Z Z Z Z (.nil (b5 (.ret (j5 (e6 ?_))))))))
   obtain rfl:=oi h
   exact Done.ret Z Z
  ·refine AWP.q ?_
   obtain⟨a21,ha21,h⟩:=bind_some h
   refine AWP.u (.j Z Z (W.fieldAddr Z Z Z Z (.E Z Z Z Z Z Z (.O Z Z Z Z (w4 ha21) Z (.not Z Z (.v Z Z (.nil (b5 (.ac Z h (fun hc5 h=> ?_) (fun hc5 h=> ?_))))))))))
   ·refine AWP.q (.u (W.build Z Z Z Z (W.storeAgg Z Z Z Z Z Z Z (.nil (b5 (.ret (j5 (e6 ?_))))))))
    obtain rfl:=oi h
    exact Done.ret Z Z
   ·refine AWP.skip (d6 (b5 (.q (.u (W.build Z Z Z Z (W.storeAgg Z Z Z Z Z Z Z (.nil (b5 (.ret ?_)))))))))
    obtain rfl:=oi h
    exact Done.ret Z Z
theorem ax3{sv:Li}{c2:Li}{r:Bool}(h:ac0 sv c2=some r):e9 prog 50 [(cR sv),.c (.imm (.ipt [.sl 1 (List.map intI c2)]))] ((cB r)):=by
 unfold e9
 refine FnOk.enter (rs:=[.t 3]) func50 Z ntmps50 results50 Z ⟨Y,Y⟩ (by kernel_rfl) Z ?_
 unfold ac0 at h
 refine AWP.q (.u (.v Z Z (.nil (b5 (.q ?_)))))
 obtain⟨a6,ha6,h⟩:=bind_some h
 refine AWP.u (.j Z Z (.ag Z Z Z Z (.O Z Z Z Z (Y2 ha6) Z (.not Z Z (.v Z Z (.nil (b5 (.ret ?_))))))))
 obtain rfl:=oi h
 exact Done.ret Z Z
theorem al3{sv:LL}{fv:Li→Option Bool}{r:Int}{fvfv:FuncId}{cvfv:List C}(hcvfv:C.okL 0 cvfv=true)(hfv:∀{y1:Li} {z:Bool},fv y1=some z→e9 prog fvfv ([(cR y1)]++cvfv.map T.c) ((cB z)))(h:I6 sv fv=some r):e9 prog 72 [.c (row 1 f7 sv),.c (.fn fvfv cvfv)] ((cI r)):=by
 unfold e9
 refine FnOk.enter (rs:=[.t 4]) func72 Z ntmps72 results72 Z ⟨Y,Y⟩ (by kernel_rfl) Z ?_
 unfold I6 at h
 refine AWP.q (.u (.v Z Z (.nil (b5 (.q (.q (.u (.j Z Z (S.len Z Z (fun hl7=>.j Z Z (.nil (b5 (.J ?_)))))))))))))
 obtain⟨oo,ho1,h⟩:=bind_some h
 refine AWP.rngS ho1 (fun t3 _=>⟨[(0,.c (row 1 f7 sv)),(1,.c (.fn fvfv cvfv)),(7,(cI (sv.length:Int))),(8,(cI t3))],[]⟩) (fun o e st=>match o with| .inl _=>e=.exit 0∧Sub [] st ⟨[],[]⟩| .inr x=>e=.ret∧Done [.t 4] (fun t _=>t=(cI x)) .ret st) ?_ ?_ ?_ ?_
 ·try dsimp only
  exact Sub.env ⟨Z,Z,Z,Z,Y⟩
 ·intro t3 s hlot3 hltt3 _
  try dsimp only
  refine AWP.q (.u (.F Z Z Z (.nil (b5 (.q (.ae Z hltt3 (.exit (d7 (d7 ⟨Z,?_⟩)))))))))
  exact Sub.env Y
 ·intro t3 s o hlot3 hltt3 h
  unfold F7 at h
  try dsimp only at h ⊢
  refine AWP.q (.u (.F Z Z Z (.nil (b5 (.q (.af Z hltt3 (.skip (b5 (.q (.J (.q (.u (.j Z Z (.v Z Z (.nil (b5 (.q ?_)))))))))))))))))
  obtain⟨a14,ha14,a16,ha16,h⟩:=b2 h
  refine AWP.u (.j Z Z (.j Z Z (.j Z Z (S.idx ha14 Z Z Z Z (.ag Z Z Z Z (.O Z Z (okL_app Z hcvfv) Z (hfv ha16) Z (.nil (b5 (.ac Z h (fun hc4 h=> ?_) (fun hc4 h=> ?_))))))))))
  ·refine AWP.q (.u (.j Z Z (.v Z Z (.nil (b5 (.ret (j5 (e6 ?_))))))))
   obtain rfl:=oi h
   refine e6 ⟨_,Z,Z,?_⟩
   exact Done.ret Z Z
  ·refine AWP.skip (d6 (b5 (.u (.add Z Z Z (by omega) (.j Z Z (.nil ?_))))))
   obtain rfl:=oi h
   refine b5 ⟨_,Z,?_⟩
   exact Sub.env ⟨Z,Z,Z,Z,Y⟩
 ·intro e s hq
  rcases oo with u|x
  ·try dsimp only at h hq
   obtain⟨rfl,hs⟩:=hq
   refine⟨_,hs,?_⟩
   refine i6 (b5 (.q (.u (.v Z Z (.nil (b5 (.ret ?_)))))))
   obtain rfl:=oi h
   exact Done.ret Z Z
  ·try dsimp only at h hq
   obtain⟨rfl,hs⟩:=hq
   refine⟨_,Sub.refl _ _,?_⟩
   refine j5 (e6 ?_)
   obtain rfl:=oi h
   exact hs
theorem T2{sv:LL}{fv:Li→Option Bool}{r:Bool}{fvfv:FuncId}{cvfv:List C}(hcvfv:C.okL 0 cvfv=true)(hfv:∀{y1:Li} {z:Bool},fv y1=some z→e9 prog fvfv ([(cR y1)]++cvfv.map T.c) ((cB z)))(h:x8 sv fv=some r):e9 prog 49 [.c (row 1 f7 sv),.c (.fn fvfv cvfv)] ((cB r)):=by
 unfold e9
 refine FnOk.enter (rs:=[.t 4]) func49 Z ntmps49 results49 Z ⟨Y,Y⟩ (by kernel_rfl) Z ?_
 unfold x8 at h
 refine AWP.q (.u (.v Z Z (.nil (b5 (.q ?_)))))
 obtain⟨a7,ha7,h⟩:=bind_some h
 refine AWP.u (.j Z Z (.j Z Z (.O Z Z (by simp[T.okL,T.ok,C.ok,C.okL,hcvfv]) Z (al3 hcvfv hfv ha7) Z (.geq Z Z Z (.v Z Z (.nil (b5 (.ret ?_))))))))
 obtain rfl:=oi h
 exact Done.ret Z Z
theorem T5{worlds:LL}{facts:Li}{r:Bool}(h:N2 worlds facts=some r):e9 prog 28 [.c (row 1 f7 worlds),(cR facts)] ((cB r)):=by
 unfold e9
 refine FnOk.enter (rs:=[.t 4]) func28 Z ntmps28 results28 Z ⟨Y,Y⟩ (by kernel_rfl) Z ?_
 unfold N2 at h
 refine AWP.q (.u (W.box Z Z Z Z Z Z (.v Z Z (.nil (b5 (.q ?_))))))
 obtain⟨a7,ha7,h⟩:=bind_some h
 refine AWP.u (.j Z Z (.makeFunc Z Z (.callL Z Z (.cons (.c .imm) (.cons (.c (.fn (.cons (.ptr (es:=[.sl 1 (List.map intI facts)]) Z Z (.cons .imm .nil)) .nil))) .nil)) Z (T2 Z (fun hy=>ax3 hy) ha7) Z ?_)))
 refine AOps.not Z Z (.v Z Z (.nil (b5 (.ret ?_))))
 obtain rfl:=oi h
 exact Done.ret Z Z
theorem au8{xv:Int}{yv:Int}{r:Int}(h:cmp_Compare_int xv yv=some r):e9 prog 89 [(cI xv),(cI yv)] ((cI r)):=by
 unfold e9
 refine FnOk.enter (rs:=[.t 4]) func89 Z ntmps89 results89 Z ⟨Y,Y⟩ (by kernel_rfl) Z ?_
 unfold cmp_Compare_int at h
 refine AWP.q (.u (.v Z Z (.nil (b5 (.q ?_)))))
 obtain⟨a8,ha8,h⟩:=bind_some h
 refine AWP.u (.j Z Z (.O Z Z Z Z (F0 ha8) Z (.v Z Z (.nil (b5 (.q ?_))))))
 obtain⟨a10,ha10,h⟩:=bind_some h
 refine AWP.u (.j Z Z (.O Z Z Z Z (F0 ha10) Z (.v Z Z (.nil (b5 (.q (.q (.u (.j Z Z (.nil (b5 (.ac Z h (fun hc3 h=> ?_) (fun hc3 h=> ?_)))))))))))))
 ·refine AWP.q (.q (.u (.j Z Z (.nil (b5 (.ac Z h (fun hc4 h=> ?_) (fun hc4 h=> ?_)))))))
  ·refine AWP.q (.u (.v Z Z (.nil (b5 (.ret (e6 (e6 ?_)))))))
   obtain rfl:=oi h
   exact Done.ret Z Z
  ·refine AWP.skip (b5 (.q (.u (.v Z Z (.nil (b5 (.ret (e6 ?_))))))))
   obtain rfl:=oi h
   exact Done.ret Z Z
 ·refine AWP.skip (b5 (.q (.q (.u (.j Z Z (.nil (b5 (.ac Z h (fun hc5 h=> ?_) (fun hc5 h=> ?_)))))))))
  ·refine AWP.q (.u (.v Z Z (.nil (b5 (.ret (e6 ?_))))))
   obtain rfl:=oi h
   exact Done.ret Z Z
  ·refine AWP.skip (b5 (.q (.q (.u (.j Z Z (.j Z Z (.F Z Z Z (.nil (b5 (.ite Z h (fun hc6 h=> ?_) (fun hc6 h=> ?_)))))))))))
   ·refine AWP.q (.u (.v Z Z (.nil (b5 (.ret (e6 ?_))))))
    obtain rfl:=oi h
    exact Done.ret Z Z
   ·refine AWP.skip (b5 (.q (.q (.u (.j Z Z (.j Z Z (.gtr Z Z Z (.nil (b5 (.ite Z h (fun hc7 h=> ?_) (fun hc7 h=> ?_)))))))))))
    ·refine AWP.q (.u (.v Z Z (.nil (b5 (.ret (e6 ?_))))))
     obtain rfl:=oi h
     exact Done.ret Z Z
    ·refine AWP.skip (b5 (.q (.u (.v Z Z (.nil (b5 (.ret ?_)))))))
     obtain rfl:=oi h
     exact Done.ret Z Z
theorem W4{s11:Li}{s22:Li}{r:Int}(h:x6 s11 s22=some r):e9 prog 68 [(cR s11),(cR s22)] ((cI r)):=by
 unfold e9
 refine FnOk.enter (rs:=[.t 4]) func68 Z ntmps68 results68 Z ⟨Y,Y⟩ (by kernel_rfl) Z ?_
 unfold x6 at h
 refine AWP.q (.u (.v Z Z (.nil (b5 (.q (.q (.u (.j Z Z (S.len Z Z (fun hl10=>.j Z Z (.nil (b5 (.J ?_)))))))))))))
 obtain⟨oo,ho1,h⟩:=bind_some h
 refine AWP.rngS ho1 (fun t3 _=>⟨[(0,(cR s11)),(1,(cR s22)),(9,(cR s11)),(10,(cI (s11.length:Int))),(11,(cI t3))],[]⟩) (fun o e st=>match o with| .inl _=>e=.exit 0∧Sub [] st ⟨[(0,(cR s11)),(1,(cR s22))],[]⟩| .inr x=>e=.ret∧Done [.t 4] (fun t _=>t=(cI x)) .ret st) ?_ ?_ ?_ ?_
 ·try dsimp only
  exact Sub.env ⟨Z,Z,Z,Z,Z,Y⟩
 ·intro t3 s hlot3 hltt3 _
  try dsimp only
  refine AWP.q (.u (.F Z Z Z (.nil (b5 (.q (.ae Z hltt3 (.exit (d7 (d7 ⟨Z,?_⟩)))))))))
  exact Sub.env ⟨Z,Z,Y⟩
 ·intro t3 s o hlot3 hltt3 h
  unfold F8 at h
  try dsimp only at h ⊢
  refine AWP.q (.u (.F Z Z Z (.nil (b5 (.q (.af Z hltt3 (.skip (b5 (.q (.J (.q ?_)))))))))))
  obtain⟨a14,ha14,h⟩:=bind_some h
  refine AWP.u (.j Z Z (S.idx ha14 Z Z Z Z (.ag Z Z Z Z (.v Z Z (.v Z Z (.nil (b5 (.q (.q (.u (.j Z Z (.j Z Z (S.len Z Z (fun hl18=>.geq Z Z Z (.nil (b5 (.ite Z h (fun hc4 h=> ?_) (fun hc4 h=> ?_))))))))))))))))))
  ·refine AWP.q (.u (.v Z Z (.nil (b5 (.ret (e6 (j5 (e6 ?_))))))))
   obtain rfl:=oi h
   refine e6 ⟨_,Z,Z,?_⟩
   exact Done.ret Z Z
  ·refine AWP.skip (b5 (.q ?_))
   obtain⟨a22,ha22,h⟩:=bind_some h
   refine AWP.u (.j Z Z (.j Z Z (S.idx ha22 Z Z Z Z (.ag Z Z Z Z (.v Z Z (.nil (b5 (.q ?_))))))))
   obtain⟨a26,ha26,h⟩:=bind_some h
   refine AWP.u (.j Z Z (.j Z Z (.O Z Z Z Z (au8 ha26) Z (.v Z Z (.nil (b5 (.q (.u (.j Z Z (.neq Z Z Z (.nil (b5 (.iteN Z h (fun hc5 h=> ?_) (fun hc5 h=> ?_))))))))))))))
   ·refine AWP.q (.u (.j Z Z (.v Z Z (.nil (b5 (.ret (j5 (e6 ?_))))))))
    obtain rfl:=oi h
    refine e6 ⟨_,Z,Z,?_⟩
    exact Done.ret Z Z
   ·refine AWP.skip (d6 (b5 (.u (.add Z Z Z (by omega) (.j Z Z (.nil ?_))))))
    obtain rfl:=oi h
    refine b5 ⟨_,Z,?_⟩
    exact Sub.env ⟨Z,Z,Z,Z,Z,Y⟩
 ·intro e s hq
  rcases oo with u|x
  ·try dsimp only at h hq
   obtain⟨rfl,hs⟩:=hq
   refine⟨_,hs,?_⟩
   refine i6 (b5 (.q (.q (.u (.j Z Z (S.len Z Z (fun hl32=>.j Z Z (S.len Z Z (fun hl34=>.F Z Z Z (.nil (b5 (.ite Z h (fun hc6 h=> ?_) (fun hc6 h=> ?_)))))))))))))
   ·refine AWP.q (.u (.v Z Z (.nil (b5 (.ret (e6 ?_))))))
    obtain rfl:=oi h
    exact Done.ret Z Z
   ·refine AWP.skip (b5 (.q (.u (.v Z Z (.nil (b5 (.ret ?_)))))))
    obtain rfl:=oi h
    exact Done.ret Z Z
  ·try dsimp only at h hq
   obtain⟨rfl,hs⟩:=hq
   refine⟨_,Sub.refl _ _,?_⟩
   refine j5 (e6 ?_)
   obtain rfl:=oi h
   exact hs
theorem aa4{s11:Li}{s22:Li}{r:Bool}(h:D2 s11 s22=some r):e9 prog 70 [(cR s11),(cR s22)] ((cB r)):=by
 unfold e9
 refine FnOk.enter (rs:=[.t 4]) func70 Z ntmps70 results70 Z ⟨Y,Y⟩ (by kernel_rfl) Z ?_
 unfold D2 at h
 refine AWP.q (.u (.v Z Z (.nil (b5 (.q (.q (.u (.j Z Z (S.len Z Z (fun hl7=>.j Z Z (S.len Z Z (fun hl9=>.neq Z Z Z (.nil (b5 (.iteN Z h (fun hc3 h=> ?_) (fun hc3 h=> ?_))))))))))))))))
 ·refine AWP.q (.u (.v Z Z (.nil (b5 (.ret (e6 ?_))))))
  obtain rfl:=oi h
  exact Done.ret Z Z
 ·refine AWP.skip (b5 (.q (.q (.u (.j Z Z (S.len Z Z (fun hl12=>.j Z Z (.nil (b5 (.J ?_))))))))))
  obtain⟨oo,ho1,h⟩:=bind_some h
  refine AWP.rngS ho1 (fun t4 _=>⟨[(0,(cR s11)),(1,(cR s22)),(12,(cI (s11.length:Int))),(13,(cI t4))],[]⟩) (fun o e st=>match o with| .inl _=>e=.exit 0∧Sub [] st ⟨[],[]⟩| .inr x=>e=.ret∧Done [.t 4] (fun t _=>t=(cB x)) .ret st) ?_ ?_ ?_ ?_
  ·try dsimp only
   exact Sub.env ⟨Z,Z,Z,Z,Y⟩
  ·intro t4 s hlot4 hltt4 _
   try dsimp only
   refine AWP.q (.u (.F Z Z Z (.nil (b5 (.q (.ae Z hltt4 (.exit (d7 (d7 ⟨Z,?_⟩)))))))))
   exact Sub.env Y
  ·intro t4 s o hlot4 hltt4 h
   unfold P6 at h
   try dsimp only at h ⊢
   refine AWP.q (.u (.F Z Z Z (.nil (b5 (.q (.af Z hltt4 (.skip (b5 (.q (.J (.q (.u (.j Z Z (.v Z Z (.nil (b5 (.q ?_)))))))))))))))))
   obtain⟨a18,ha18,a22,ha22,h⟩:=b2 h
   refine AWP.drawI mixed Z ?_
   refine l7.consF Z (fun E=>.j Z Z .N) Z (.consF Z (fun E=>.j Z Z .N) Z (.consF Z (fun E=>S.idx ha18 Z Z Z Z .N) Z (.consF Z (fun E=>.ag Z Z Z Z .N) Z (.consF Z (fun E=>.j Z Z .N) Z (.consF Z (fun E=>.j Z Z .N) Z (.consF Z (fun E=>S.idx ha22 Z Z Z Z .N) Z (.consF Z (fun E=>.ag Z Z Z Z .N) Z (.consF Z (fun E=>.neq Z Z Z .N) Z ?_))))))))
   refine l7.done ?_
   dsimp only[j6]
   refine b5 (.iteN Z h (fun hc5 h=> ?_) (fun hc5 h=> ?_))
   ·refine AWP.q (.u (.v Z Z (.nil (b5 (.ret (j5 (e6 ?_)))))))
    obtain rfl:=oi h
    refine e6 ⟨_,Z,Z,?_⟩
    exact Done.ret Z Z
   ·refine AWP.skip (d6 (b5 (.u (.add Z Z Z (by omega) (.j Z Z (.nil ?_))))))
    obtain rfl:=oi h
    refine b5 ⟨_,Z,?_⟩
    exact Sub.env ⟨Z,Z,Z,Z,Y⟩
  ·intro e s hq
   rcases oo with u|x
   ·try dsimp only at h hq
    obtain⟨rfl,hs⟩:=hq
    refine⟨_,hs,?_⟩
    refine i6 (b5 (.q (.u (.v Z Z (.nil (b5 (.ret ?_)))))))
    obtain rfl:=oi h
    exact Done.ret Z Z
   ·try dsimp only at h hq
    obtain⟨rfl,hs⟩:=hq
    refine⟨_,Sub.refl _ _,?_⟩
    refine j5 (e6 ?_)
    obtain rfl:=oi h
    exact hs
theorem af4{l:LL}{r:(LL)}(h:y5 l=some r):FnOk prog 69 [.c (.own 0 0 l.length),.c (.fn 70 [])] (A7 l) (fun tt ss=>tt=.c (.own 1 0 r.length)∧ss=[.dead,(oV 1 f7 r)]):=by
 refine FnOk.enter (rs:=[.t 4]) func69 Z ntmps69 results69 Z ⟨Y,Y⟩ (by kernel_rfl) Z ?_
 refine AWP.weak ?_
 unfold y5 at h
 refine AWP.j (env':=[(0,.c (.own 1 0 l.length)),(1,.c (.fn 70 []))]) (σ':=[.dead,(oV 1 f7 l)]) 1 0 Z Z Z ⟨Z,Z,Y⟩ Z ⟨Y,⟨Blk.im_ok _ _ _,g9 Z⟩,Y⟩ (.q (.u (.v Z Z (.nil (b5 (.q (.q (.u (.j Z Z (S.lenO Z Z Z (fun hl9=>.F Z Z Z (.nil (b5 (.ite Z h (fun hc53 h=> ?_) (fun hc53 h=> ?_)))))))))))))))
 ·refine AWP.q (.u (.j Z Z (.v Z Z (.nil (b5 (.ret (e6 ?_)))))))
  obtain rfl:=oi h
  exact⟨⟨[(4,.c (.own 1 0 l.length))],[.dead,(oV 1 f7 l)]⟩,Sub.env ⟨Z,Y⟩,Done.ret Z ⟨Z,Z⟩⟩
 ·refine AWP.skip (b5 (.q (.q (.u (.v Z Z (.nil (b5 (.J ?_))))))))
  obtain⟨oo,ho1,h⟩:=bind_some h
  refine AWP.rngS ho1 (fun kv54 _=>⟨[(0,.c (.own 1 0 l.length)),(1,.c (.fn 70 [])),(5,(cI kv54))],[.dead,(oV 1 f7 l)]⟩) (fun o e st=>match o with| .inl _=>e=.exit 0∧Sub (A7 l) st ⟨[(0,.c (.own 1 0 l.length))],[.dead,(oV 1 f7 l)]⟩| .inr x=>e=.ret∧∃J,Sub (A7 l) st J∧Done [.t 4] (fun tt ss=>tt=.c (.own 1 0 x.length)∧ss=[.dead,(oV 1 f7 x)]) .ret J) ?_ ?_ ?_ ?_
  ·try dsimp only
   exact Sub.env ⟨Z,Z,Z,Y⟩
  ·intro kv54 s hlokv54 hltkv54 _
   try dsimp only
   refine AWP.q (.q (.u (.j Z Z (.j Z Z (S.lenO Z Z Z (fun hl14=>.F Z Z Z (.nil (b5 (.ae Z hltkv54 (.exit (d7 (d7 ⟨Z,?_⟩))))))))))))
   exact Sub.env ⟨Z,Y⟩
  ·intro kv54 s o hlokv54 hltkv54 h
   unfold u9 at h
   try dsimp only at h ⊢
   refine AWP.q (.q (.u (.j Z Z (.j Z Z (S.lenO Z Z Z (fun hl14=>.F Z Z Z (.nil (b5 (.af Z hltkv54 (.skip (b5 (.q (.J (.q ?_))))))))))))))
   obtain⟨a21,ha21,a26,ha26,a28,ha28,h⟩:=b3 h
   refine AWP.drawI mixed Z ?_
   refine l7.consF Z (fun E=>.j Z Z .N) Z (.consF Z (fun E=>.j Z Z .N) Z (.consF Z (fun E=>.j Z Z .N) Z (.consF Z (fun E=>S.idxO ha21 Z Z Z Z Z .N) Z (.consF Z (fun E=>S.loadO ha21 Z Z Z Z Z .N) Z (.consF Z (fun E=>.j Z Z .N) Z (.consF Z (fun E=>.j Z Z .N) Z (.consF Z (fun E=>.sub' Z Z Z (by omega) .N) Z (.consF Z (fun E=>S.idxO ha26 Z Z Z Z Z .N) Z (.consF Z (fun E=>S.loadO ha26 Z Z Z Z Z .N) Z (.consF Z (fun E=>.O Z Z Z Z (aa4 ha28) Z .N) Z ?_))))))))))
   refine l7.done ?_
   dsimp only[j6]
   refine b5 (.ac Z h (fun hc55 h=> ?_) (fun hc55 h=> ?_))
   ·refine AWP.q ?_
    obtain⟨u31,hu31,h⟩:=bind_some h
    refine AWP.u (.j Z Z (.j Z Z (S.vFrom (V2 l) hu31 Z Z Z Z Z Z (.v Z Z (.nil (b5 (.q (.q (.u (.v Z Z (.nil (b5 (.J ?_)))))))))))))
    obtain⟨⟨c56,kv57⟩,ho2,h⟩:=bind_some h
    try dsimp only at h
    refine AWP.forS ho2 (fun k258 (c56,kv57)=>⟨[(0,.c (.own 1 0 c56.length)),(1,.c (.fn 70 [])),(5,(cI kv57)),(6,.c (.own 1 ((0+kv54).toNat) (((l.length:Int) - kv54).toNat))),(7,(cI k258))],[.dead,(oV 1 f7 c56)]⟩) (fun(c56,kv57) e st=>e=.exit 2∧Sub (A7 l) st ⟨[(0,.c (.own 1 0 c56.length)),(5,(cI kv57))],[.dead,(oV 1 f7 c56)]⟩) ?_ ?_ ?_ ?_
    ·try dsimp only
     exact Sub.env ⟨Z,Z,Z,Z,Z,Y⟩
    ·intro k258 s hlok258 hltk258 _
     obtain⟨c56,kv57⟩:=s
     try dsimp only
     refine AWP.q (.q (.u (.j Z Z (.j Z Z (S.lenV (W9 (vw_cut (V2 l) hu31)).2.1 Z Z Z (fun hl34=>.F Z Z Z (.nil (b5 (.ae Z hltk258 (.exit (d7 (d7 ⟨Z,?_⟩))))))))))))
     exact Sub.env ⟨Z,Z,Y⟩
    ·intro k258 s o hlok258 hltk258 h
     obtain⟨c56,kv57⟩:=s
     unfold w6 at h
     try dsimp only at h ⊢
     refine AWP.q (.q (.u (.j Z Z (.j Z Z (S.lenV (W9 (vw_cut (V2 l) hu31)).2.1 Z Z Z (fun hl34=>.F Z Z Z (.nil (b5 (.af Z hltk258 (.skip (b5 ?_)))))))))))
     obtain⟨⟨c59,kv60⟩,hx61,h⟩:=bind_some h
     refine AWP.seqJ (⟨[(0,.c (.own 1 0 c59.length)),(1,.c (.fn 70 [])),(5,(cI kv60)),(6,.c (.own 1 ((0+kv54).toNat) (((l.length:Int) - kv54).toNat))),(7,(cI k258))],[.dead,(oV 1 f7 c59)]⟩) ?_ ?_
     ·refine AWP.J (.q ?_)
      obtain⟨a41,ha41,a46,ha46,a48,ha48,hx61⟩:=b3 hx61
      refine AWP.drawI mixed Z ?_
      refine l7.consF Z (fun E=>.j Z Z .N) Z (.consF Z (fun E=>.j Z Z .N) Z (.consF Z (fun E=>.j Z Z .N) Z (.consF Z (fun E=>S.idxV ha41 Z Z Z Z .N) Z (.consF Z (fun E=>S.loadO (ixV_ix ha41) Z Z Z Z Z .N) Z (.consF Z (fun E=>.j Z Z .N) Z (.consF Z (fun E=>.j Z Z .N) Z (.consF Z (fun E=>.sub' Z Z Z (by omega) .N) Z (.consF Z (fun E=>S.idxV ha46 Z Z Z Z .N) Z (.consF Z (fun E=>S.loadO (ixV_ix ha46) Z Z Z Z Z .N) Z (.consF Z (fun E=>.O Z Z Z Z (aa4 ha48) Z .N) Z (.consF Z (fun E=>.not Z Z .N) Z ?_)))))))))))
      refine l7.done ?_
      dsimp only[j6]
      refine b5 (.ac Z hx61 (fun hc62 hx61=> ?_) (fun hc62 hx61=> ?_))
      ·refine AWP.q ?_
       obtain⟨a54,ha54,a56,ha56,hx61⟩:=b2 hx61
       refine AWP.u (.j Z Z (.j Z Z (.j Z Z (.j Z Z (S.idxV ha54 Z Z Z Z (S.loadO (ixV_ix ha54) Z Z Z Z Z (S.idxO ha56 Z Z Z Z Z (S.storeO1 (f:=f7) (a':=a54) (h9 ha56) (fun _=>⟨_,Z⟩) Z Z Z Z Z ?_))))))))
       refine AOps.nil (b5 (.u (.j Z Z (S.add Z Z Z (.v Z Z (.nil (d6 ?_)))))))
       obtain⟨ej0,ej1⟩:=o2 hx61
       subst ej0 ej1
       refine b5 (Sub.env ⟨(F2 (by first|rfl|simp only[lS])),Z,Z,Z,Z,Y⟩)
      ·refine AWP.skip (d6 ?_)
       obtain⟨ej0,ej1⟩:=o2 hx61
       subst ej0 ej1
       refine b5 (Sub.env ⟨Z,Z,Z,Z,Z,Y⟩)
     ·try dsimp only at h
      refine AWP.u (.j Z Z (.add Z Z Z (by omega) (.v Z Z (.nil ?_))))
      obtain rfl:=oi h
      refine b5 (Sub.env ⟨Z,Z,Z,Z,Z,Y⟩)
    ·intro e s hq
     obtain⟨rfl,hs⟩:=hq
     refine⟨_,hs,?_⟩
     refine i6 (b5 (.q ?_))
     obtain⟨u61,hu61,h⟩:=bind_some h
     refine AWP.u (.j Z Z (.j Z Z (S.vFrom (V2 c56) hu61 Z Z Z Z Z Z (S.clear (a0:=[]) Z Z Z (fun _ _ _ _=>.imm .slNil) (vw_cut (V2 c56) hu61) Z Z Z Z Z ?_))))
     refine AOps.nil (b5 (.q ?_))
     obtain⟨u64,hu64,h⟩:=bind_some h
     refine AWP.u (.j Z Z (.j Z Z ?_))
     refine S.vTo (V2 (clrL c56 (0+kv57) ((c56.length:Int) - kv57) [])) hu64 Z Z (by rw[Int.toNat_natCast];exact(clrL_len (vw_cut (V2 c56) hu61)).symm) Z Z Z ?_
     refine AOps.v Z Z (.nil (b5 (.reown (env':=[(4,.c (.own 2 0 ((r8 (clrL c56 (0+kv57) ((c56.length:Int) - kv57) []) 0 kv57).length)))]) 4 (vw_to (V2 (clrL c56 (0+kv57) ((c56.length:Int) - kv57) [])) hu64) Z Z Z Z Z Z Z Z (by exact⟨.inl ⟨Z,Z⟩,Y⟩) (.ret (j5 (e6 ?_))))))
     obtain rfl:=oi h
     refine e6 ⟨_,Z,Z,?_⟩
     exact⟨⟨[(4,.c (.own 1 0 ((r8 (clrL c56 (0+kv57) ((c56.length:Int) - kv57) []) 0 kv57).length)))],[.dead,(oV 1 f7 (r8 (clrL c56 (0+kv57) ((c56.length:Int) - kv57) []) 0 kv57))]⟩,(Sub.move (env':=[(4,.c (.own 1 0 ((r8 (clrL c56 (0+kv57) ((c56.length:Int) - kv57) []) 0 kv57).length)))]) (σ':=[.dead,(oV 1 f7 (r8 (clrL c56 (0+kv57) ((c56.length:Int) - kv57) []) 0 kv57))]) 1 2 Z Z Z ⟨Z,Y⟩ Z ⟨Y,⟨Blk.im_ok _ _ _,g9 Z⟩,Y⟩).trans (Sub.env ⟨Z,Y⟩),Done.ret Z ⟨Z,Z⟩⟩
   ·refine AWP.skip (d6 (b5 (.u (.j Z Z (.add Z Z Z (by omega) (.v Z Z (.nil ?_)))))))
    obtain rfl:=oi h
    refine b5 ⟨_,Z,?_⟩
    exact Sub.env ⟨Z,Z,Z,Y⟩
  ·intro e s hq
   rcases oo with u|x
   ·try dsimp only at h hq
    obtain⟨rfl,hs⟩:=hq
    refine⟨_,hs,?_⟩
    refine i6 (b5 (.q (.u (.j Z Z (.v Z Z (.nil (b5 (.ret ?_))))))))
    obtain rfl:=oi h
    exact⟨⟨[(4,.c (.own 1 0 l.length))],[.dead,(oV 1 f7 l)]⟩,Sub.env ⟨Z,Y⟩,Done.ret Z ⟨Z,Z⟩⟩
   ·try dsimp only at h hq
    obtain⟨rfl,hs⟩:=hq
    refine⟨_,Sub.refl _ _,?_⟩
    refine j5 (e6 ?_)
    obtain rfl:=oi h
    exact hs
theorem ai8{l:LL}{r:(LL)}(h:K5 l=some r):FnOk prog 46 [.c (.own 0 0 l.length)] (av2 l) (fun tt ss=>tt=.c (.own 2 0 r.length)∧ss=[.dead,.dead,(oV 1 f7 r)]):=by
 refine FnOk.enter (rs:=[.t 2]) func46 Z ntmps46 results46 Z ⟨Y,Y⟩ (by kernel_rfl) Z ?_
 refine AWP.weak ?_
 unfold K5 at h
 refine AWP.j (env':=[(0,.c (.own 1 0 l.length))]) (σ':=[.dead,(oV 1 f7 l)]) 1 0 Z Z Z ⟨Z,Y⟩ Z ⟨Y,⟨Blk.im_ok _ _ _,g9 Z⟩,Y⟩ (.q (.u (.v Z Z (.nil (b5 (.q ?_))))))
 obtain⟨a4,ha4,h⟩:=bind_some h
 refine AWP.u (.j Z Z (S.sortF (fun x=>.sl 1 (List.map intI x)) ha4 Z (fun hy=>W4 hy) sortF_LLi64_ok (⟨_,func68,Z,Z⟩) Z Z Z Z Z Z ?_))
 refine AOps.nil (b5 (.q ?_))
 obtain⟨a6,ha6,h⟩:=bind_some h
 refine AWP.u (.j Z Z ?_)
 refine AOps.callF (r2:=.c (.own 2 0 a6.length)) (σ'':=[.dead,.dead,(oV 1 f7 a6)]) Z Z Z (FnOk.lend [1] (af4 ha6) Z Z Z Z Z Z (by exact⟨.vec,Y⟩) (by rw[(sortFL_len ha4)]<;>rfl) (by exact⟨(.live Z .vec),Y⟩) Z Z (by exact⟨.dead,.dead,(.new 1 Z Z .vec),Y⟩)) ?_
 refine AOps.v Z Z (.nil (b5 (.ret ?_)))
 obtain rfl:=oi h
 exact⟨⟨[(2,.c (.own 2 0 a6.length))],[.dead,.dead,(oV 1 f7 a6)]⟩,Sub.env ⟨Z,Y⟩,Done.ret Z ⟨Z,Z⟩⟩
theorem ap9{t:e7}{worlds:LL}{op:Int}{r:(LL)}(h:J4 t worlds op=some r):q8 prog 64 [.agg (tT t),.c (row 1 f7 worlds),(cI op)] 1 (List.map f7 r):=by
 unfold q8
 refine FnOk.enter (rs:=[.t 6]) func64 Z ntmps64 results64 Z ⟨Y,Y⟩ (by kernel_rfl) Z ?_
 unfold J4 at h
 refine AWP.q (.u (W.box Z Z Z Z Z Z (.v Z Z (.nil (b5 (.q (.u (.v Z Z (.nil (b5 (.q (.q (.u (.j Z Z (S.len Z Z (fun hl11=>.j Z Z (.nil (b5 (.J (.virtV 1 f7 7 Z Z Z ?_))))))))))))))))))))
 obtain⟨c4,ho1,h⟩:=bind_some h
 refine AWP.forS ho1 (fun t5 c4=>⟨[(2,(cI op)),(3,(cP 0 0 0)),(7,.c (.own 1 0 c4.length)),(10,.c (row 1 f7 worlds)),(11,(cI (worlds.length:Int))),(12,(cI t5))],[(oE 4 (tT t)),(oV 1 f7 c4)]⟩) (fun c4 e st=>e=.exit 0∧Sub [] st ⟨[(7,.c (.own 1 0 c4.length))],[(oE 4 (tT t)),(oV 1 f7 c4)]⟩) ?_ ?_ ?_ ?_
 ·try dsimp only
  exact Sub.env ⟨Z,Z,(F2 (by first|rfl|simp only[lS])),Z,Z,Z,Y⟩
 ·intro t5 c4 hlot5 hltt5 _
  try dsimp only
  refine AWP.q (.u (.F Z Z Z (.nil (b5 (.q (.ae Z hltt5 (.exit (d7 (d7 ⟨Z,?_⟩)))))))))
  exact Sub.env ⟨Z,Y⟩
 ·intro t5 c4 o hlot5 hltt5 h
  unfold Q6 at h
  try dsimp only at h ⊢
  refine AWP.q (.u (.F Z Z Z (.nil (b5 (.q (.af Z hltt5 (.skip (b5 (.q (.J (.q ?_)))))))))))
  obtain⟨a14,ha14,h⟩:=bind_some h
  refine AWP.u (S.idx ha14 Z Z Z Z (.ag Z Z Z Z (.v Z Z (.nil (b5 ?_)))))
  obtain⟨a20,ha20,a22,ha22,h⟩:=b2 h
  refine AWP.u (.j Z Z (W.loadAgg Z Z Z Z Z Z Z (.j Z Z (.j Z Z (S.fresh Z Z Z Z (as4 ha20) Z Z (.frzV (id:=2) (l:=a20) (env2:=[(2,(cI op)),(3,(cP 0 0 0)),(10,.c (row 1 f7 worlds)),(11,(cI (worlds.length:Int))),(12,(cI t5)),(16,.c (.own 1 0 c4.length)),(20,(cR a20))]) (σ2:=[(oE 4 (tT t)),(oV 1 f7 c4),.dead]) Z Z (by exact⟨⟨_,Z,.inl ⟨Z,Z⟩⟩,⟨_,Z,.inl ⟨Z,Z⟩⟩,⟨_,Z,.inl ⟨Z,Z⟩⟩,⟨_,Z,.inl ⟨Z,Z⟩⟩,⟨_,Z,.inl ⟨Z,Z⟩⟩,⟨_,Z,.inl ⟨Z,Z⟩⟩,⟨_,Z,.inr ⟨_,Z,Z,Z⟩⟩,Y⟩) Z (by exact⟨⟨Z,.inl ⟨Z,Z⟩,.inl ⟨Z,Z⟩,.inl ⟨Z,Z⟩,.inl ⟨Z,Z⟩,Y⟩,FrzB.vec,Y,Y⟩) (S.lit (f:=f7) (l:=[a20]) (ess:=[[row 1 intI a20]]) Z Z Z Z Z Z Z ⟨⟨.inl Z,Y⟩,Y⟩ Z Z Z (S.append (f:=f7) ha22 Z Z Z Z Z Z (.own Z Z) Z Z Z Z (.v Z Z (.nil (d6 (b5 (.j (env':=[(2,(cI op)),(3,(cP 0 0 0)),(7,.c (.own 1 0 a22.length)),(10,.c (row 1 f7 worlds)),(11,(cI (worlds.length:Int))),(12,(cI t5))]) (σ':=[(oE 4 (tT t)),(oV 1 f7 a22),.dead,(oV 1 f7 [a20])]) 1 4 Z Z Z ⟨Z,Z,Z,Z,Z,Z,Y⟩ Z ⟨⟨Z,Z⟩,⟨Blk.im_ok _ _ _,g9 Z⟩,Y,⟨Blk.im_ok _ _ _,g9 Z⟩,Y⟩ (.u (.add Z Z Z (by omega) (.j Z Z (.nil ?_)))))))))))))))))
  obtain rfl:=oi h
  refine b5 (Sub.cut ⟨Z,Z,Z,Z,Z,Z,Y⟩ Z ⟨.one Z,.vec,Y⟩ Z)
 ·intro e s hq
  obtain⟨rfl,hs⟩:=hq
  refine⟨_,hs,?_⟩
  refine i6 (b5 (.q ?_))
  obtain⟨a25,ha25,h⟩:=bind_some h
  refine AWP.u (.j Z Z (.callF (r2:=.c (.own 3 0 a25.length)) (σ'':=[(oE 4 (tT t)),.dead,.dead,(oV 1 f7 a25)]) Z Z Z (FnOk.lend [1] (ai8 ha25) Z Z Z Z Z Z (by exact⟨.vec,Y⟩) Z (by exact⟨(.live Z .vec),Y⟩) Z Z (by exact⟨(.old Z Z Z),.dead,.dead,(.new 2 Z Z .vec),Y⟩)) (.v Z Z (.nil (b5 (.ret ?_))))))
  obtain rfl:=oi h
  exact Done.ret Z (Fresh.mk Z Z)
theorem ar1{t:e7}{worlds:LL}{r:Unit}(h:I0 t worlds=some r):FnOk prog 43 [.agg (tT t),.c (row 1 f7 worlds)] (ar2 t worlds) (fun tt ss=>tt=.c (.fn 63 [.ptr 0 0 0,.ptr 1 0 0])∧ss=[(oE 4 (tT t)),(o1 (row 1 f7 worlds))]):=by
 refine FnOk.enter (rs:=[.t 4]) func43 Z ntmps43 results43 Z ⟨Y,Y⟩ (by kernel_rfl) Z ?_
 refine AWP.weak ?_
 unfold I0 at h
 refine AWP.q (.u (W.box Z Z Z Z Z Z (W.box Z Z Z Z Z Z (.v Z Z (.nil (b5 (.q (.u (.makeFunc Z Z (.v Z Z (.nil (b5 (.ret ?_)))))))))))))
 obtain rfl:=oi h
 exact⟨⟨[(4,.c (.fn 63 [.ptr 0 0 0,.ptr 1 0 0]))],[(oE 4 (tT t)),(o1 (row 1 f7 worlds))]⟩,Sub.env ⟨Z,Y⟩,Done.ret Z ⟨Z,Z⟩⟩
theorem an6{t:e7}{unknown:Li}{r:(LL)}(h:Q4 t unknown=some r):q8 prog 24 [.agg (tT t),(cR unknown)] 1 (List.map f7 r):=by
 unfold q8
 refine FnOk.enter (rs:=[.t 4]) func24 Z ntmps24 results24 Z ⟨Y,Y⟩ (by kernel_rfl) Z ?_
 unfold Q4 at h
 refine AWP.q (.u (W.box Z Z Z Z Z Z (.v Z Z (.nil (b5 (.q (.u (.v Z Z (.nil (b5 (.q (.q ?_))))))))))))
 obtain⟨u12,hu12,h⟩:=bind_some h
 refine AWP.u (.j Z Z (S.len Z Z (fun hl11=>S.shl hu12 Z Z Z (.j Z Z (.nil (b5 (.J (.virtV 1 f7 5 Z Z Z ?_))))))))
 obtain⟨hnt4,h⟩:=ite_none h
 obtain⟨c3,ho1,h⟩:=bind_some h
 refine AWP.forS ho1 (fun t4 c3=>⟨[(1,(cR unknown)),(2,(cP 0 0 0)),(5,.c (.own 1 0 c3.length)),(12,(cI (shlW .i64 1 (unknown.length:Int)))),(13,(cI t4))],[(oE 4 (tT t)),(oV 1 f7 c3)]⟩) (fun c3 e st=>e=.exit 0∧Sub [] st ⟨[(5,.c (.own 1 0 c3.length))],[(oE 4 (tT t)),(oV 1 f7 c3)]⟩) ?_ ?_ ?_ ?_
 ·try dsimp only
  exact Sub.env ⟨Z,Z,(F2 (by first|rfl|simp only[lS])),Z,Z,Y⟩
 ·intro t4 c3 hlot4 hltt4 _
  try dsimp only
  refine AWP.q (.u (.F Z Z Z (.nil (b5 (.q (.ae Z hltt4 (.exit (d7 (d7 ⟨Z,?_⟩)))))))))
  exact Sub.env ⟨Z,Y⟩
 ·intro t4 c3 o hlot4 hltt4 h
  unfold O6 at h
  try dsimp only at h ⊢
  refine AWP.q (.u (.F Z Z Z (.nil (b5 (.q (.af Z hltt4 (.skip (b5 (.q (.J (.q (.u (.j Z Z (.v Z Z (.nil (b5 (.q (.u (.v Z Z (.nil (b5 (.q (.q (.u (.j Z Z (S.len Z Z (fun hl17=>.j Z Z (.nil (b5 (.J (.virtV 1 intI 7 Z Z Z ?_)))))))))))))))))))))))))))))))
  obtain⟨c5,ho2,h⟩:=bind_some h
  refine AWP.forS ho2 (fun t6 c5=>⟨[(1,(cR unknown)),(2,(cP 0 0 0)),(5,.c (.own 1 0 c3.length)),(6,(cI t4)),(7,.c (.own 2 0 c5.length)),(12,(cI (shlW .i64 1 (unknown.length:Int)))),(13,(cI t4)),(16,(cR unknown)),(17,(cI (unknown.length:Int))),(18,(cI t6))],[(oE 4 (tT t)),(oV 1 f7 c3),(oV 1 intI c5)]⟩) (fun c5 e st=>e=.exit 2∧Sub [] st ⟨[(1,(cR unknown)),(2,(cP 0 0 0)),(5,.c (.own 1 0 c3.length)),(7,.c (.own 2 0 c5.length)),(12,(cI (shlW .i64 1 (unknown.length:Int)))),(13,(cI t4))],[(oE 4 (tT t)),(oV 1 f7 c3),(oV 1 intI c5)]⟩) ?_ ?_ ?_ ?_
  ·try dsimp only
   exact Sub.env ⟨Z,Z,Z,Z,(F2 (by first|rfl|simp only[lS])),Z,Z,Z,Z,Z,Y⟩
  ·intro t6 c5 hlot6 hltt6 _
   try dsimp only
   refine AWP.q (.u (.F Z Z Z (.nil (b5 (.q (.ae Z hltt6 (.exit (d7 (d7 ⟨Z,?_⟩)))))))))
   exact Sub.env ⟨Z,Z,Z,Z,Z,Z,Y⟩
  ·intro t6 c5 o hlot6 hltt6 h
   unfold ae0 at h
   try dsimp only at h ⊢
   refine AWP.q (.u (.F Z Z Z (.nil (b5 (.q (.af Z hltt6 (.skip (b5 ?_))))))))
   obtain⟨c7,hx8,h⟩:=bind_some h
   refine AWP.seqJ (⟨[(1,(cR unknown)),(2,(cP 0 0 0)),(5,.c (.own 1 0 c3.length)),(6,(cI t4)),(7,.c (.own 4 0 c7.length)),(12,(cI (shlW .i64 1 (unknown.length:Int)))),(13,(cI t4)),(16,(cR unknown)),(17,(cI (unknown.length:Int))),(18,(cI t6))],[(oE 4 (tT t)),(oV 1 f7 c3),.dead,.dead,(oV 1 intI c7)]⟩) ?_ ?_
   ·refine AWP.J (.q ?_)
    obtain⟨a21,ha21,hx8⟩:=bind_some hx8
    refine AWP.u (.j Z Z (S.idx ha21 Z Z Z Z (.ag Z Z Z Z (.v Z Z (.v Z Z (.nil (b5 (.q (.u (.j Z Z (.j Z Z (.shr Z Z Z (by first|decide|omega) Z (.bits Z Z Z (by simp) (.ad Z Z Z (.nil (b5 (.ite Z hx8 (fun hc9 hx8=> ?_) (fun hc9 hx8=> ?_))))))))))))))))))
    ·obtain⟨a31,ha31,hx8⟩:=bind_some hx8
     refine AWP.u (.j Z Z (.j Z Z (S.lit (f:=intI) (l:=[a21]) (ess:=[[int a21]]) Z Z Z Z Z Z Z ⟨⟨.inl Z,Y⟩,Y⟩ Z Z Z (S.append (f:=intI) ha31 Z Z Z Z Z Z (.own Z Z) Z Z Z Z (.v Z Z (.nil (d6 ?_)))))))
     obtain rfl:=oi hx8
     refine b5 (Sub.cut ⟨Z,Z,Z,Z,Z,Z,Z,Z,Z,Z,Y⟩ Z ⟨.one Z,.vec,.dead,.dead,.vec,Y⟩ Z)
    ·refine AWP.skip (d6 ?_)
     obtain rfl:=oi hx8
     refine b5 ((Sub.move (env':=[(1,(cR unknown)),(2,(cP 0 0 0)),(5,.c (.own 1 0 c3.length)),(6,(cI t4)),(7,.c (.own 4 0 c5.length)),(12,(cI (shlW .i64 1 (unknown.length:Int)))),(13,(cI t4)),(16,(cR unknown)),(17,(cI (unknown.length:Int))),(18,(cI t6))]) (σ':=[(oE 4 (tT t)),(oV 1 f7 c3),.dead,.dead,(oV 1 intI c5)]) 4 2 Z Z Z ⟨Z,Z,Z,Z,Z,Z,Z,Z,Z,Z,Y⟩ Z ⟨⟨Z,Z⟩,⟨Blk.im_ok _ _ _,g9 Z⟩,Y,Y,⟨Blk.im_ok _ _ _,g9 Z⟩,Y⟩).trans (Sub.env ⟨Z,Z,Z,Z,Z,Z,Z,Z,Z,Z,Y⟩))
   ·refine AWP.u (.add Z Z Z (by omega) (.j Z Z (.nil ?_)))
    obtain rfl:=oi h
    refine b5 ((Sub.move (env':=[(1,(cR unknown)),(2,(cP 0 0 0)),(5,.c (.own 1 0 c3.length)),(6,(cI t4)),(7,.c (.own 2 0 c7.length)),(12,(cI (shlW .i64 1 (unknown.length:Int)))),(13,(cI t4)),(16,(cR unknown)),(17,(cI (unknown.length:Int))),(18,(cI (t6+1)))]) (σ':=[(oE 4 (tT t)),(oV 1 f7 c3),(oV 1 intI c7),.dead]) 2 4 Z Z Z ⟨Z,Z,Z,Z,Z,Z,Z,Z,Z,Z,Y⟩ Z ⟨⟨Z,Z⟩,⟨Blk.im_ok _ _ _,g9 Z⟩,⟨Blk.im_ok _ _ _,g9 Z⟩,Y,Y⟩).trans (Sub.cut ⟨Z,Z,Z,Z,Z,Z,Z,Z,Z,Z,Y⟩ Z ⟨.one Z,.vec,.vec,Y⟩ Z))
  ·intro e s hq
   obtain⟨rfl,hs⟩:=hq
   refine⟨_,hs,?_⟩
   refine i6 (b5 ?_)
   obtain⟨a38,ha38,a40,ha40,h⟩:=b2 h
   refine AWP.u (.j Z Z (W.fieldAddr Z Z Z Z (.E Z Z Z Z Z Z (.j Z Z (.j Z Z (S.freshL (fun _=>Z) Z Z (.cons (.c .imm) (.cons (.c (.own Z Z)) (.cons (.c .imm) .nil))) Z (ao3 ha38) Z Z ?_))))))
   refine AOps.frzV (id:=3) (l:=a38) (env2:=[(1,(cR unknown)),(2,(cP 0 0 0)),(12,(cI (shlW .i64 1 (unknown.length:Int)))),(13,(cI t4)),(33,.c (.own 1 0 c3.length)),(38,(cR a38))]) (σ2:=[(oE 4 (tT t)),(oV 1 f7 c3),(oV 1 intI c5),.dead]) Z Z (by exact⟨⟨_,Z,.inl ⟨Z,Z⟩⟩,⟨_,Z,.inl ⟨Z,Z⟩⟩,⟨_,Z,.inl ⟨Z,Z⟩⟩,⟨_,Z,.inl ⟨Z,Z⟩⟩,⟨_,Z,.inl ⟨Z,Z⟩⟩,⟨_,Z,.inr ⟨_,Z,Z,Z⟩⟩,Y⟩) Z (by exact⟨⟨Z,.inl ⟨Z,Z⟩,.inl ⟨Z,Z⟩,.inl ⟨Z,Z⟩,.inl ⟨Z,Z⟩,Y⟩,FrzB.vec,FrzB.vec,Y,Y⟩) (S.lit (f:=f7) (l:=[a38]) (ess:=[[row 1 intI a38]]) Z Z Z Z Z Z Z ⟨⟨.inl Z,Y⟩,Y⟩ Z Z Z (S.append (f:=f7) ha40 Z Z Z Z Z Z (.own Z Z) Z Z Z Z (.v Z Z (.nil (d6 (b5 (.j (env':=[(1,(cR unknown)),(2,(cP 0 0 0)),(5,.c (.own 1 0 a40.length)),(12,(cI (shlW .i64 1 (unknown.length:Int)))),(13,(cI t4))]) (σ':=[(oE 4 (tT t)),(oV 1 f7 a40),(oV 1 intI c5),.dead,(oV 1 f7 [a38])]) 1 5 Z Z Z ⟨Z,Z,Z,Z,Z,Y⟩ Z ⟨⟨Z,Z⟩,⟨Blk.im_ok _ _ _,g9 Z⟩,⟨Blk.im_ok _ _ _,g9 Z⟩,Y,⟨Blk.im_ok _ _ _,g9 Z⟩,Y⟩ (.u (.add Z Z Z (by omega) (.j Z Z (.nil ?_)))))))))))
   obtain rfl:=oi h
   refine b5 (Sub.cut ⟨Z,Z,Z,Z,Z,Y⟩ Z ⟨.one Z,.vec,Y⟩ Z)
 ·intro e s hq
  obtain⟨rfl,hs⟩:=hq
  refine⟨_,hs,?_⟩
  refine i6 (b5 (.q ?_))
  obtain⟨a43,ha43,h⟩:=bind_some h
  refine AWP.u (.j Z Z (.callF (r2:=.c (.own 3 0 a43.length)) (σ'':=[(oE 4 (tT t)),.dead,.dead,(oV 1 f7 a43)]) Z Z Z (FnOk.lend [1] (ai8 ha43) Z Z Z Z Z Z (by exact⟨.vec,Y⟩) Z (by exact⟨(.live Z .vec),Y⟩) Z Z (by exact⟨(.old Z Z Z),.dead,.dead,(.new 2 Z Z .vec),Y⟩)) (.v Z Z (.nil (b5 (.ret ?_))))))
  obtain rfl:=oi h
  exact Done.ret Z (Fresh.mk Z Z)
theorem as2{v:LL}{r:Bool}(h:R3 v=some r):e9 prog 44 [.c (row 1 f7 v)] ((cB r)):=by
 unfold e9
 refine FnOk.enter (rs:=[.t 2]) func44 Z ntmps44 results44 Z ⟨Y,Y⟩ (by kernel_rfl) Z ?_
 unfold R3 at h
 refine AWP.q (.u (.v Z Z (.nil (b5 (.q (.u (.v Z Z (.nil (b5 (.ret ?_))))))))))
 obtain rfl:=oi h
 exact Done.ret Z Z
theorem al4{iv:Int}{r:ByteArray}(h:internal_strconv_small iv=some r):e9 prog 116 [(cI iv)] (.c (.imm (.val (.string r)))):=by
 unfold e9
 refine FnOk.enter (rs:=[.t 2]) func116 Z ntmps116 results116 Z ⟨Y,Y⟩ (by kernel_rfl) Z ?_
 unfold internal_strconv_small at h
 refine AWP.q (.u (.v Z Z (.nil (b5 (.q (.q (.u (.j Z Z (.F Z Z Z (.nil (b5 (.ite Z h (fun hc2 h=> ?_) (fun hc2 h=> ?_)))))))))))))
 ·refine AWP.q ?_
  obtain⟨a8,ha8,h⟩:=bind_some h
  refine AWP.u (.j Z Z (.j Z Z (S.add Z Z Z (S.subStr ha8 Z Z Z Z (.v Z Z (.nil (b5 (.ret (e6 ?_)))))))))
  obtain rfl:=oi h
  exact Done.ret Z Z
 ·refine AWP.skip (b5 (.q ?_))
  obtain⟨a14,ha14,h⟩:=bind_some h
  refine AWP.u (.j Z Z (S.mul Z Z Z (.j Z Z (S.mul Z Z Z (S.add Z Z Z (S.subStr ha14 Z Z Z Z (.v Z Z (.nil (b5 (.ret ?_))))))))))
  obtain rfl:=oi h
  exact Done.ret Z Z
theorem ab1{iv:Int}{base:Int}{l:Li}{r:Li}(h:A9 iv base l=some r):FnOk prog 90 [.c (.own 0 0 l.length),.c (.imm (.val (.int .u64 iv))),(cI base)] (ab0 iv base l) (fun tt ss=>tt=.c (.own 2 0 r.length)∧ss=[.dead,.dead,(oV 1 eU8 r)]):=by
 refine FnOk.enter (rs:=[.t 6]) func90 Z ntmps90 results90 Z ⟨Y,Y⟩ (by kernel_rfl) Z ?_
 refine AWP.weak ?_
 unfold A9 at h
 refine AWP.j (env':=[(0,.c (.own 1 0 l.length)),(1,.c (.imm (.val (.int .u64 iv)))),(2,(cI base))]) (σ':=[.dead,(oV 1 eU8 l)]) 1 0 Z Z Z ⟨Z,Z,Z,Y⟩ Z ⟨Y,⟨Blk.im_ok _ _ _,g9 Z⟩,Y⟩ (.q (.u (.v Z Z (.nil (b5 (.q (.q (.u (.j Z Z (.ad Z Z Z (.nil (b5 (.ite Z h (fun hc55 h=> ?_) (fun hc55 h=> ?_))))))))))))))
 ·refine AWP.q (.q (.u (.j Z Z (.F Z Z Z (.nil (b5 (.ite Z h (fun hc56 h=> ?_) (fun hc56 h=> ?_))))))))
  ·refine AWP.q ?_
   obtain⟨a16,ha16,a17,ha17,h⟩:=b2 h
   refine AWP.u (.j Z Z (.j Z Z (.convInt Z Z (.O Z Z Z Z (al4 ha16) Z (S.appendStr ha17 Z Z Z Z Z Z Z Z Z Z (.v Z Z (.nil (b5 (.ret (e6 (e6 ?_)))))))))))
   obtain rfl:=oi h
   exact⟨⟨[(6,.c (.own 2 0 a17.length))],[.dead,.dead,(oV 1 eU8 a17)]⟩,Sub.env ⟨Z,Y⟩,Done.ret Z ⟨Z,Z⟩⟩
  ·cases h
 ·cases h
theorem ad8{iv:Int}{base:Int}{l:Li}{r:Li}(h:C0 iv base l=some r):FnOk prog 71 [.c (.own 0 0 l.length),(cI iv),(cI base)] (ac9 iv base l) (fun tt ss=>tt=.c (.own 3 0 r.length)∧ss=[.dead,.dead,.dead,(oV 1 eU8 r)]):=by
 refine FnOk.enter (rs:=[.t 6]) func71 Z ntmps71 results71 Z ⟨Y,Y⟩ (by kernel_rfl) Z ?_
 refine AWP.weak ?_
 unfold C0 at h
 refine AWP.j (env':=[(0,.c (.own 1 0 l.length)),(1,(cI iv)),(2,(cI base))]) (σ':=[.dead,(oV 1 eU8 l)]) 1 0 Z Z Z ⟨Z,Z,Z,Y⟩ Z ⟨Y,⟨Blk.im_ok _ _ _,g9 Z⟩,Y⟩ (.q (.u (.v Z Z (.nil (b5 (.q (.u (.j Z Z (.convInt Z Z (.v Z Z (.nil (b5 ?_))))))))))))
 obtain⟨u,hx55,h⟩:=bind_some h
 refine AWP.seqJ (⟨[(0,.c (.own 1 0 l.length)),(2,(cI base)),(7,.c (.imm (.val (.int .u64 ((IntKind.u64).wrap iv)))))],[.dead,(oV 1 eU8 l)]⟩) ?_ ?_
 ·refine AWP.q (.u (.j Z Z (.F Z Z Z (.nil (b5 (.ite Z hx55 (fun hc56 hx55=> ?_) (fun hc56 hx55=> ?_)))))))
  ·cases hx55
  ·refine AWP.skip ?_
   obtain rfl:=oi hx55
   refine b5 (Sub.env ⟨Z,Z,Z,Y⟩)
 ·try dsimp only at h
  refine AWP.q ?_
  obtain⟨a20,ha20,h⟩:=bind_some h
  refine AWP.u (.j Z Z (.j Z Z (.j Z Z (.callF (r2:=.c (.own 3 0 a20.length)) (σ'':=[.dead,.dead,.dead,(oV 1 eU8 a20)]) Z Z Z (FnOk.lend [1] (ab1 ha20) Z Z Z Z Z Z (by exact⟨.vec,Y⟩) Z (by exact⟨(.live Z .vec),Y⟩) Z Z (by exact⟨.dead,.dead,.dead,(.new 2 Z Z .vec),Y⟩)) (.v Z Z (.nil (b5 (.ret ?_))))))))
  obtain rfl:=oi h
  exact⟨⟨[(6,.c (.own 3 0 a20.length))],[.dead,.dead,.dead,(oV 1 eU8 a20)]⟩,Sub.env ⟨Z,Y⟩,Done.ret Z ⟨Z,Z⟩⟩
theorem ao9{iv:Int}{base:Int}{l:Li}{r:Li}(h:D1 iv base l=some r):FnOk prog 47 [.c (.own 0 0 l.length),(cI iv),(cI base)] (ap3 iv base l) (fun tt ss=>tt=.c (.own 4 0 r.length)∧ss=[.dead,.dead,.dead,.dead,(oV 1 eU8 r)]):=by
 refine FnOk.enter (rs:=[.t 6]) func47 Z ntmps47 results47 Z ⟨Y,Y⟩ (by kernel_rfl) Z ?_
 refine AWP.weak ?_
 unfold D1 at h
 refine AWP.j (env':=[(0,.c (.own 1 0 l.length)),(1,(cI iv)),(2,(cI base))]) (σ':=[.dead,(oV 1 eU8 l)]) 1 0 Z Z Z ⟨Z,Z,Z,Y⟩ Z ⟨Y,⟨Blk.im_ok _ _ _,g9 Z⟩,Y⟩ (.q (.u (.v Z Z (.nil (b5 (.q ?_))))))
 obtain⟨a10,ha10,h⟩:=bind_some h
 refine AWP.u (.j Z Z (.j Z Z (.j Z Z (.callF (r2:=.c (.own 4 0 a10.length)) (σ'':=[.dead,.dead,.dead,.dead,(oV 1 eU8 a10)]) Z Z Z (FnOk.lend [1] (ad8 ha10) Z Z Z Z Z Z (by exact⟨.vec,Y⟩) Z (by exact⟨(.live Z .vec),Y⟩) Z Z (by exact⟨.dead,.dead,.dead,.dead,(.new 3 Z Z .vec),Y⟩)) (.v Z Z (.nil (b5 (.ret ?_))))))))
 obtain rfl:=oi h
 exact⟨⟨[(6,.c (.own 4 0 a10.length))],[.dead,.dead,.dead,.dead,(oV 1 eU8 a10)]⟩,Sub.env ⟨Z,Y⟩,Done.ret Z ⟨Z,Z⟩⟩
theorem ac3{l:LL}{r:ByteArray}(h:G4 l=some r):e9 prog 25 [.c (row 1 f7 l)] (.c (.imm (.val (.string r)))):=by
 unfold e9
 refine FnOk.enter (rs:=[.t 2]) func25 Z ntmps25 results25 Z ⟨Y,Y⟩ (by kernel_rfl) Z ?_
 unfold G4 at h
 refine AWP.q (.u (.v Z Z (.nil (b5 (.q (.u (.v Z Z (.nil (b5 (.q (.q (.u (.j Z Z (S.len Z Z (fun hl9=>.j Z Z (.nil (b5 (.J (.virtV 1 eU8 3 Z Z Z ?_)))))))))))))))))))
 obtain⟨c2,ho1,h⟩:=bind_some h
 refine AWP.forS ho1 (fun t3 c2=>⟨[(3,.c (.own 0 0 c2.length)),(8,.c (row 1 f7 l)),(9,(cI (l.length:Int))),(10,(cI t3))],[(oV 1 eU8 c2)]⟩) (fun c2 e st=>e=.exit 0∧Sub [] st ⟨[(3,.c (.own 0 0 c2.length))],[(oV 1 eU8 c2)]⟩) ?_ ?_ ?_ ?_
 ·try dsimp only
  exact Sub.env ⟨(F2 (by first|rfl|simp only[lS])),Z,Z,Z,Y⟩
 ·intro t3 c2 hlot3 hltt3 _
  try dsimp only
  refine AWP.q (.u (.F Z Z Z (.nil (b5 (.q (.ae Z hltt3 (.exit (d7 (d7 ⟨Z,?_⟩)))))))))
  exact Sub.env ⟨Z,Y⟩
 ·intro t3 c2 o hlot3 hltt3 h
  unfold ak5 at h
  try dsimp only at h ⊢
  refine AWP.q (.u (.F Z Z Z (.nil (b5 (.q (.af Z hltt3 (.skip (b5 (.q (.J (.q ?_)))))))))))
  obtain⟨a12,ha12,h⟩:=bind_some h
  refine AWP.u (S.idx ha12 Z Z Z Z (.ag Z Z Z Z (.v Z Z (.nil (b5 (.q (.q (.u (.j Z Z (S.len Z Z (fun hl15=>.j Z Z (.nil (b5 (.J ?_))))))))))))))
  obtain⟨c4,ho2,h⟩:=bind_some h
  refine AWP.forS ho2 (fun t5 c4=>⟨[(3,.c (.own 0 0 c4.length)),(8,.c (row 1 f7 l)),(9,(cI (l.length:Int))),(10,(cI t3)),(14,(cR a12)),(15,(cI (a12.length:Int))),(16,(cI t5))],[(oV 1 eU8 c4)]⟩) (fun c4 e st=>e=.exit 2∧Sub [] st ⟨[(3,.c (.own 0 0 c4.length)),(8,.c (row 1 f7 l)),(9,(cI (l.length:Int))),(10,(cI t3))],[(oV 1 eU8 c4)]⟩) ?_ ?_ ?_ ?_
  ·try dsimp only
   exact Sub.env ⟨Z,Z,Z,Z,Z,Z,Z,Y⟩
  ·intro t5 c4 hlot5 hltt5 _
   try dsimp only
   refine AWP.q (.u (.F Z Z Z (.nil (b5 (.q (.ae Z hltt5 (.exit (d7 (d7 ⟨Z,?_⟩)))))))))
   exact Sub.env ⟨Z,Z,Z,Z,Y⟩
  ·intro t5 c4 o hlot5 hltt5 h
   unfold ak3 at h
   try dsimp only at h ⊢
   refine AWP.q (.u (.F Z Z Z (.nil (b5 (.q (.af Z hltt5 (.skip (b5 (.q (.J (.q ?_)))))))))))
   obtain⟨a18,ha18,h⟩:=bind_some h
   refine AWP.u (S.idx ha18 Z Z Z Z (.ag Z Z Z Z (.v Z Z (.nil (b5 ?_)))))
   obtain⟨a22,ha22,a24,ha24,h⟩:=b2 h
   refine AWP.u (.j Z Z (.j Z Z (.callF (r2:=.c (.own 4 0 a22.length)) (σ'':=[.dead,.dead,.dead,.dead,(oV 1 eU8 a22)]) Z Z Z (FnOk.lend [0] (ao9 ha22) Z Z Z Z Z Z (by exact⟨.vec,Y⟩) Z (by exact⟨(.live Z .vec),Y⟩) Z Z (by exact⟨.dead,.dead,.dead,.dead,(.new 4 Z Z .vec),Y⟩)) (S.lit (f:=eU8) (l:=[44]) (ess:=[[.imm (.val (.int .u8 44))]]) Z Z Z Z Z Z Z ⟨⟨.inl Z,Y⟩,Y⟩ Z Z Z (S.append (f:=eU8) ha24 Z Z Z Z Z Z (.own Z Z) Z Z Z Z (.v Z Z (.nil (d6 (b5 (.j (env':=[(3,.c (.own 4 0 a24.length)),(8,.c (row 1 f7 l)),(9,(cI (l.length:Int))),(10,(cI t3)),(14,(cR a12)),(15,(cI (a12.length:Int))),(16,(cI t5))]) (σ':=[.dead,.dead,.dead,.dead,(oV 1 eU8 a24),(oV 1 eU8 [44])]) 4 6 Z Z Z ⟨Z,Z,Z,Z,Z,Z,Z,Y⟩ Z ⟨Y,Y,Y,Y,⟨Blk.im_ok _ _ _,g9 Z⟩,⟨Blk.im_ok _ _ _,g9 Z⟩,Y⟩ (.u (.add Z Z Z (by omega) (.j Z Z (.nil ?_))))))))))))))
   obtain rfl:=oi h
   refine b5 ((Sub.move (env':=[(3,.c (.own 0 0 a24.length)),(8,.c (row 1 f7 l)),(9,(cI (l.length:Int))),(10,(cI t3)),(14,(cR a12)),(15,(cI (a12.length:Int))),(16,(cI (t5+1)))]) (σ':=[(oV 1 eU8 a24),.dead,.dead,.dead,.dead,(oV 1 eU8 [44])]) 0 4 Z Z Z ⟨Z,Z,Z,Z,Z,Z,Z,Y⟩ Z ⟨⟨Blk.im_ok _ _ _,g9 Z⟩,Y,Y,Y,Y,⟨Blk.im_ok _ _ _,g9 Z⟩,Y⟩).trans (Sub.cut ⟨Z,Z,Z,Z,Z,Z,Z,Y⟩ Z ⟨.vec,Y⟩ Z))
  ·intro e s hq
   obtain⟨rfl,hs⟩:=hq
   refine⟨_,hs,?_⟩
   refine i6 (b5 ?_)
   obtain⟨a28,ha28,h⟩:=bind_some h
   refine AWP.u (.j Z Z (S.lit (f:=eU8) (l:=[59]) (ess:=[[.imm (.val (.int .u8 59))]]) Z Z Z Z Z Z Z ⟨⟨.inl Z,Y⟩,Y⟩ Z Z Z (S.append (f:=eU8) ha28 Z Z Z Z Z Z (.own Z Z) Z Z Z Z (.v Z Z (.nil (d6 (b5 (.j (env':=[(3,.c (.own 0 0 a28.length)),(8,.c (row 1 f7 l)),(9,(cI (l.length:Int))),(10,(cI t3))]) (σ':=[(oV 1 eU8 a28),(oV 1 eU8 [59])]) 0 2 Z Z Z ⟨Z,Z,Z,Z,Y⟩ Z ⟨⟨Blk.im_ok _ _ _,g9 Z⟩,⟨Blk.im_ok _ _ _,g9 Z⟩,Y⟩ (.u (.add Z Z Z (by omega) (.j Z Z (.nil ?_))))))))))))
   obtain rfl:=oi h
   refine b5 (Sub.cut ⟨Z,Z,Z,Z,Y⟩ Z ⟨.vec,Y⟩ Z)
 ·intro e s hq
  obtain⟨rfl,hs⟩:=hq
  refine⟨_,hs,?_⟩
  refine i6 (b5 (.q (.u (.j Z Z (S.bytesStr Z Z Z Z (.v Z Z (.nil (b5 (.ret ?_)))))))))
  obtain rfl:=oi h
  exact Done.ret Z Z
theorem ay2{w:LL}{c2:e7}{r:Bool}(h:L7 w c2=some r):e9 prog 27 [.c (row 1 f7 w),.c (.imm (.ipt [.val (.int .i64 c2.facts),.sl 1 (List.map intI c2.init),.sl 1 (List.map intI c2.goal),.sl 4 (List.map k6 c2.operators)]))] ((cB r)):=by
 unfold e9
 refine FnOk.enter (rs:=[.t 3]) func27 Z ntmps27 results27 Z ⟨Y,Y⟩ (by kernel_rfl) Z ?_
 unfold L7 at h
 refine AWP.q (.u (.v Z Z (.nil (b5 (.q ?_)))))
 obtain⟨a7,ha7,h⟩:=bind_some h
 refine AWP.u (.j Z Z (W.fieldAddrI Z Z Z Z (.ag Z Z Z Z (.O Z Z Z Z (T5 ha7) Z (.v Z Z (.nil (b5 (.ret ?_))))))))
 obtain rfl:=oi h
 exact Done.ret Z Z
theorem ay1{t:e7}{r:Unit}(h:ac4 t=some r):FnOk prog 22 [.agg (tT t)] (ax9 t) (fun tt ss=>tt=.c (.fn 42 [.ptr 0 0 0])∧ss=[(oE 4 (tT t))]):=by
 refine FnOk.enter (rs:=[.t 2]) func22 Z ntmps22 results22 Z ⟨Y,Y⟩ (by kernel_rfl) Z ?_
 refine AWP.weak ?_
 unfold ac4 at h
 refine AWP.q (.u (W.box Z Z Z Z Z Z (.v Z Z (.nil (b5 (.q (.u (.makeFunc Z Z (.v Z Z (.nil (b5 (.ret ?_))))))))))))
 obtain rfl:=oi h
 exact⟨⟨[(2,.c (.fn 42 [.ptr 0 0 0]))],[(oE 4 (tT t))]⟩,Sub.env ⟨Z,Y⟩,Done.ret Z ⟨Z,Z⟩⟩
theorem aj5{worlds:LL}{Facts:Int}{Init:Li}{Goal:Li}{Operators:List f9}{r:Unit}(h:K6 worlds Facts Init Goal Operators=some r):FnOk prog 42 [.c (row 1 f7 worlds),(cP 0 0 0)] (au9 worlds Facts Init Goal Operators) (fun tt ss=>tt=.c (.fn 63 [.ptr 1 0 0,.ptr 2 0 0])∧ss=[(oE 4 (tF Facts Init Goal Operators)),(oE 4 (tF Facts Init Goal Operators)),(o1 (row 1 f7 worlds))]):=by
 refine FnOk.enter (rs:=[.t 3]) func42 Z ntmps42 results42 Z ⟨Y,Y⟩ (by kernel_rfl) Z ?_
 refine AWP.weak ?_
 unfold K6 at h
 refine AWP.q (.u (.v Z Z (.nil (b5 (.q ?_)))))
 obtain⟨a6,ha6,h⟩:=bind_some h
 refine AWP.u (W.loadAgg Z Z Z Z Z Z Z (.j Z Z (.callF (r2:=.c (.fn 63 [.ptr 1 0 0,.ptr 2 0 0])) (σ'':=[(oE 4 (tF Facts Init Goal Operators)),(oE 4 (tF Facts Init Goal Operators)),(o1 (row 1 f7 worlds))]) Z Z Z (FnOk.lend [] (ar1 ha6) Z Z Z Z Z Z (by exact Y) Z (by exact Y) Z Z (by exact⟨(.old Z Z Z),(.new 0 Z Z (.one Z)),(.new 1 Z Z (.one Z)),Y⟩)) (.v Z Z (.nil (b5 (.ret ?_)))))))
 obtain rfl:=oi h
 exact⟨⟨[(3,.c (.fn 63 [.ptr 1 0 0,.ptr 2 0 0]))],[(oE 4 (tF Facts Init Goal Operators)),(oE 4 (tF Facts Init Goal Operators)),(o1 (row 1 f7 worlds))]⟩,Sub.env ⟨Z,Y⟩,Done.ret Z ⟨Z,Z⟩⟩
theorem ap0{start:LL}{Facts:Int}{Init:Li}{Goal:Li}{Operators:List f9}{r:Li×Bool×Bool}(h:N0 start Facts Init Goal Operators=some r):FnOk prog 26 [.c (row 1 f7 start),.c (.fn 25 []),.c (.fn 42 [.ptr 0 0 0]),.c (.fn 44 [])] (H8 start Facts Init Goal Operators) (fun tt ss=>tt=.tup [(cR r.1),(cB r.2.1),(cB r.2.2)]∧ss=[(oE 4 (tF Facts Init Goal Operators)),.dead,(o1 (row 1 intI r.1)),(o1 (bool r.2.1)),(o1 (bool r.2.2))]):=by
 refine FnOk.enter (rs:=[.one 8 22,.one 9 4,.one 10 4]) func26 Z ntmps26 results26 Z ⟨rv1 _ Z,rv1 _ Z,rv1 _ Z,Y⟩ (by kernel_rfl) Z ?_
 refine AWP.weak ?_
 unfold N0 at h
 refine AWP.q (.u (W.box Z Z Z Z Z Z (W.alloc Z Z Z Z (W.alloc Z Z Z Z (W.alloc Z Z Z Z (.nil (b5 (.q (.u (.j Z Z (W.build Z Z Z Z (S.lit (f:=d8) (l:=[(⟨start, -1,0⟩:d9)]) (ess:=[[row 1 f7 start,int (-1),int 0]]) Z Z Z Z Z Z Z ⟨⟨.inl Z,.inl Z,.inl Z,Y⟩,Y⟩ Z Z Z (W.alloc Z Z Z Z (W.store Z Z Z Z Z (.nil (b5 (.q ?_)))))))))))))))))
 obtain⟨a25,ha25,h⟩:=bind_some h
 refine AWP.u (W.makeMap Value.string vI Z Z Z (.E Z Z Z Z Z Z (.j Z Z (.O Z Z Z Z (ac3 ha25) Z (W.insert (fk:=Value.string) (fv:=vI) (k:=a25) (a:=1) keyStr Z Z Z Z Z (.j Z Z (W.alloc Z Z Z Z (W.store Z Z Z Z Z (.nil (b5 (.q (.q (.u (W.alloc Z Z Z Z (W.store Z Z Z Z Z (.nil (b5 (.J ?_))))))))))))))))))
 obtain⟨oo,ho1,h⟩:=bind_some h
 refine AWP.loopS ho1 (fun(c59,c60,c61)=>⟨[(2,.c (.fn 42 [.ptr 0 0 0])),(3,.c (.fn 44 [])),(5,(cP 1 0 0)),(8,(cP 2 0 0)),(9,(cP 3 0 0)),(10,(cP 4 0 0)),(11,(cP 6 0 0)),(12,(cP 8 0 0)),(13,(cP 9 0 0))],[(oE 4 (tF Facts Init Goal Operators)),(o1 (.fn 25 [])),(o1 (.imm (.val nL))),(o1 (bool false)),(o1 (bool false)),(oV 3 d8 c59),(o1 (.own 5 0 c59.length)),(oW Value.string vI c60),(o1 (.map 7)),(o1 (int c61))]⟩) (fun o e st=>match o with| .inl _=>e=.exit 0∧Sub (H8 start Facts Init Goal Operators) st ⟨[(8,(cP 2 0 0)),(9,(cP 3 0 0)),(10,(cP 4 0 0))],[(oE 4 (tF Facts Init Goal Operators)),.dead,(o1 (.imm (.val nL))),(o1 (bool false)),(o1 (bool false))]⟩| .inr x=>e=.ret∧∃J,Sub (H8 start Facts Init Goal Operators) st J∧Done [.one 8 22,.one 9 4,.one 10 4] (fun tt ss=>tt=.tup [(cR x.1),(cB x.2.1),(cB x.2.2)]∧ss=[(oE 4 (tF Facts Init Goal Operators)),.dead,(o1 (row 1 intI x.1)),(o1 (bool x.2.1)),(o1 (bool x.2.2))]) .ret J) ?_ ?_ ?_
 ·try dsimp only
  exact Sub.env ⟨Z,Z,Z,Z,Z,Z,Z,Z,Z,Y⟩
 ·intro s o h
  obtain⟨c59,c60,c61⟩:=s
  unfold H7 at h
  try dsimp only at h ⊢
  refine AWP.q (.q (.u (.E Z Z Z Z Z Z (.E Z Z Z Z Z Z (S.lenO Z Z Z (fun hl29=>.F Z Z Z (.nil (b5 (.ite Z h (fun hc62 h=> ?_) (fun hc62 h=> ?_))))))))))
  ·refine AWP.skip (b5 (.q (.J (.q (.q ?_)))))
   obtain⟨a36,ha36,a39,ha39,h⟩:=b2 h
   refine AWP.u (.j Z Z (.E Z Z Z Z Z Z (.E Z Z Z Z Z Z (S.idxO ha36 Z Z Z Z Z (W.fieldAddr Z Z Z Z (S.loadO ha36 Z Z Z Z Z (.O Z Z Z Z (as2 ha39) Z (.nil (b5 (.ac Z h (fun hc63 h=> ?_) (fun hc63 h=> ?_)))))))))))
   ·refine AWP.q (.u (.v Z Z (.nil (b5 (.q (.q (.u (.E Z Z Z Z Z Z (.v Z Z (.nil (b5 (.J (.virtV 1 intI 14 Z Z Z ?_)))))))))))))
    obtain⟨c66,ho2,h⟩:=bind_some h
    refine AWP.loopS ho2 (fun(c64,iv65)=>⟨[(8,(cP 2 0 0)),(9,(cP 3 0 0)),(10,(cP 4 0 0)),(11,(cP 6 0 0)),(14,.c (.own 10 0 c64.length)),(15,(cI iv65))],[(oE 4 (tF Facts Init Goal Operators)),.dead,(o1 (.imm (.val nL))),(o1 (bool false)),(o1 (bool false)),(oV 3 d8 c59),(o1 (.own 5 0 c59.length)),.dead,.dead,.dead,(oV 1 intI c64)]⟩) (fun c66 e st=>e=.exit 2∧Sub (H8 start Facts Init Goal Operators) st ⟨[(8,(cP 2 0 0)),(9,(cP 3 0 0)),(10,(cP 4 0 0)),(14,.c (.own 10 0 c66.length))],[(oE 4 (tF Facts Init Goal Operators)),.dead,(o1 (.imm (.val nL))),(o1 (bool false)),(o1 (bool false)),.dead,.dead,.dead,.dead,.dead,(oV 1 intI c66)]⟩) ?_ ?_ ?_
    ·try dsimp only
     exact Sub.cut ⟨Z,Z,Z,Z,(F2 (by first|rfl|simp only[lS])),Z,Y⟩ Z ⟨.one Z,.dead,.one Z,.one Z,.one Z,.vec,.one Z,.dead,.dead,.dead,.vec,Y⟩ Z
    ·intro s o h
     obtain⟨c64,iv65⟩:=s
     unfold aa3 at h
     try dsimp only at h ⊢
     refine AWP.q (.q ?_)
     obtain⟨a43,ha43,h⟩:=bind_some h
     refine AWP.u (.E Z Z Z Z Z Z (.j Z Z (S.idxO ha43 Z Z Z Z Z (W.fieldAddr Z Z Z Z (S.loadO ha43 Z Z Z Z Z (.geq Z Z Z (.nil (b5 (.ite Z h (fun hc67 h=> ?_) (fun hc67 h=> ?_))))))))))
     ·refine AWP.skip (b5 (.q (.J ?_)))
      obtain⟨a55,ha55,a59,ha59,h⟩:=b2 h
      refine AWP.u (.j Z Z (.E Z Z Z Z Z Z (.j Z Z (S.idxO ha55 Z Z Z Z Z (W.fieldAddr Z Z Z Z (S.loadO ha55 Z Z Z Z Z (S.lit (f:=intI) (l:=[a55.step]) (ess:=[[int a55.step]]) Z Z Z Z Z Z Z ⟨⟨.inl Z,Y⟩,Y⟩ Z Z Z (S.append (f:=intI) ha59 Z Z Z Z Z Z (.own Z Z) Z Z Z Z (.v Z Z (.nil (d6 (b5 (.j (env':=[(8,(cP 2 0 0)),(9,(cP 3 0 0)),(10,(cP 4 0 0)),(11,(cP 6 0 0)),(14,.c (.own 10 0 a59.length)),(15,(cI iv65))]) (σ':=[(oE 4 (tF Facts Init Goal Operators)),.dead,(o1 (.imm (.val nL))),(o1 (bool false)),(o1 (bool false)),(oV 3 d8 c59),(o1 (.own 5 0 c59.length)),.dead,.dead,.dead,(oV 1 intI a59),(oV 1 intI [a55.step])]) 10 12 Z Z Z ⟨Z,Z,Z,Z,Z,Z,Y⟩ Z ⟨⟨Z,Z⟩,Y,⟨Z,Z⟩,⟨Z,Z⟩,⟨Z,Z⟩,⟨Blk.im_ok _ _ _,g9 Z⟩,⟨Z,Z⟩,Y,Y,Y,⟨Blk.im_ok _ _ _,g9 Z⟩,⟨Blk.im_ok _ _ _,g9 Z⟩,Y⟩ ?_)))))))))))))
      obtain⟨a49,ha49,h⟩:=bind_some h
      refine AWP.u (.E Z Z Z Z Z Z (.j Z Z (S.idxO ha49 Z Z Z Z Z (W.fieldAddr Z Z Z Z (S.loadO ha49 Z Z Z Z Z (.v Z Z (.nil ?_)))))))
      obtain rfl:=oi h
      refine b5 ⟨_,Z,?_⟩
      exact Sub.cut ⟨Z,Z,Z,Z,Z,Z,Y⟩ Z ⟨.one Z,.dead,.one Z,.one Z,.one Z,.vec,.one Z,.dead,.dead,.dead,.vec,Y⟩ Z
     ·refine AWP.exit (d7 ?_)
      obtain rfl:=oi h
      refine d7 ⟨_,Z,Z,?_⟩
      exact Sub.cut ⟨Z,Z,Z,Z,Y⟩ Z ⟨.one Z,.dead,.one Z,.one Z,.one Z,.dead,.dead,.dead,.dead,.dead,.vec,Y⟩ Z
    ·intro e s hq
     obtain⟨rfl,hs⟩:=hq
     refine⟨_,hs,?_⟩
     refine i6 (b5 (.q (.u (.j Z Z (S.rev revL_ok Z Z Z Z Z Z (.nil (b5 (.q (.u (.j Z Z (W.store Z Z Z Z Z (W.store Z Z Z Z Z (W.store Z Z Z Z Z (.nil (b5 (.frzV (id:=10) (l:=c66.reverse) (env2:=[(8,(cP 2 0 0)),(9,(cP 3 0 0)),(10,(cP 4 0 0))]) (σ2:=[(oE 4 (tF Facts Init Goal Operators)),.dead,(o1 (row 1 intI c66.reverse)),(o1 (bool true)),(o1 (bool true)),.dead,.dead,.dead,.dead,.dead,.dead]) Z Z (by exact⟨⟨_,Z,.inl ⟨Z,Z⟩⟩,⟨_,Z,.inl ⟨Z,Z⟩⟩,⟨_,Z,.inl ⟨Z,Z⟩⟩,Y⟩) Z (by exact⟨⟨Z,.inl ⟨Z,Z⟩,.inl ⟨Z,Z⟩,.inl ⟨Z,Z⟩,.inl ⟨Z,Z⟩,Y⟩,Y,⟨Z,.inr ⟨_,Z,List.length_reverse.symm,Z⟩,Y⟩,⟨Z,.inl ⟨Z,Z⟩,Y⟩,⟨Z,.inl ⟨Z,Z⟩,Y⟩,Y,Y,Y,Y,Y,Y,Y⟩) (.ret (e6 (j5 (e6 ?_))))))))))))))))))))
     obtain rfl:=oi h
     refine e6 ⟨_,Z,Z,?_⟩
     exact⟨⟨[(8,(cP 2 0 0)),(9,(cP 3 0 0)),(10,(cP 4 0 0))],[(oE 4 (tF Facts Init Goal Operators)),.dead,(o1 (row 1 intI c66.reverse)),(o1 (bool true)),(o1 (bool true))]⟩,Sub.cut ⟨Z,Z,Z,Y⟩ Z ⟨.one Z,.dead,.one Z,.one Z,.one Z,Y⟩ Z,Done.ret Z ⟨Z,Z⟩⟩
   ·refine AWP.skip (b5 (.q ?_))
    obtain⟨a66,ha66,a69,ha69,h⟩:=b2 h
    refine AWP.u (.j Z Z (.E Z Z Z Z Z Z (.E Z Z Z Z Z Z (S.idxO ha66 Z Z Z Z Z (W.fieldAddr Z Z Z Z (S.loadO ha66 Z Z Z Z Z (.callF (r2:=.c (.fn 63 [.ptr 10 0 0,.ptr 11 0 0])) (σ'':=[(oE 4 (tF Facts Init Goal Operators)),(o1 (.fn 25 [])),(o1 (.imm (.val nL))),(o1 (bool false)),(o1 (bool false)),(oV 3 d8 c59),(o1 (.own 5 0 c59.length)),(oW Value.string vI c60),(o1 (.map 7)),(o1 (int c61)),(oE 4 (tF Facts Init Goal Operators)),(o1 (row 1 f7 a66.node))]) Z Z Z (FnOk.lend [0] (aj5 ha69) Z Z Z Z Z Z (by exact⟨(.one Z),Y⟩) Z (by exact⟨(.live Z (.one Z)),Y⟩) Z Z (by exact⟨(.new 0 Z Z (.one Z)),(.old Z Z Z),(.old Z Z Z),(.old Z Z Z),(.old Z Z Z),(.old Z Z Z),(.old Z Z Z),(.old Z Z Z),(.old Z Z Z),(.old Z Z Z),(.new 1 Z Z (.one Z)),(.new 2 Z Z (.one Z)),Y⟩)) (.nil (b5 (.J ?_))))))))))
    obtain⟨xr68,hr68,h⟩:=bind_some h
    refine AWP.rangeB [(5,none),(8,none),(9,none),(10,none),(11,none),(12,none),(13,none)] Z Z Z (fun as68 bo68 hA68 hB68=>⟨[(oE 4 (tF Facts Init Goal Operators)),(o1 (.fn 25 [])),(o1 (.imm (.val nL))),(o1 (bool false)),(o1 (bool false)),(oV 3 d8 c59),(o1 (.own 5 0 c59.length)),(oW Value.string vI c60),(o1 (.map 7)),(o1 (int c61)),(oE 4 (tF Facts Init Goal Operators)),(o1 (row 1 f7 a66.node)),.one (k7 92 [70,71] as68 bo68 .ready none [(5,none),(8,none),(9,none),(10,none),(11,none),(12,none),(13,none)] [.ptr 1 0 0,.ptr 2 0 0,.ptr 3 0 0,.ptr 4 0 0,.ptr 6 0 0,.ptr 8 0 0,.ptr 9 0 0])],fun tt ss=>(∃v:(List (ByteArray×Int))×(List d9),xr68=.inl v∧tt=.tup []∧ss=[(oE 4 (tF Facts Init Goal Operators)),(o1 (.fn 25 [])),(o1 (.imm (.val nL))),(o1 (bool false)),(o1 (bool false)),.dead,(o1 (.own 13 0 v.2.length)),(oW Value.string vI v.1),(o1 (.map 7)),(o1 (int c61)),(oE 4 (tF Facts Init Goal Operators)),(o1 (row 1 f7 a66.node)),.one (k7 92 [70,71] as68 bo68 .ready none [(5,none),(8,none),(9,none),(10,none),(11,none),(12,none),(13,none)] [.ptr 1 0 0,.ptr 2 0 0,.ptr 3 0 0,.ptr 4 0 0,.ptr 6 0 0,.ptr 8 0 0,.ptr 9 0 0]),(oV 3 d8 v.2)])∨(∃v:(List (ByteArray×Int))×(List d9),xr68=.inr v∧tt=.tup []∧ss=[(oE 4 (tF Facts Init Goal Operators)),(o1 (.fn 25 [])),(o1 (.imm (.val nL))),(o1 (bool false)),(o1 (bool false)),.dead,(o1 (.own 13 0 v.2.length)),(oW Value.string vI v.1),(o1 (.map 7)),(o1 (int c61)),(oE 4 (tF Facts Init Goal Operators)),(o1 (row 1 f7 a66.node)),.one (k7 92 [70,71] as68 bo68 .done (some .ret) [(5,none),(8,none),(9,none),(10,none),(11,none),(12,none),(13,none)] [.ptr 1 0 0,.ptr 2 0 0,.ptr 3 0 0,.ptr 4 0 0,.ptr 6 0 0,.ptr 8 0 0,.ptr 9 0 0]),(oV 3 d8 v.2)]),Z,?_,?_⟩)
    ·clear h
     refine FnOk.enter (rs:=[]) func63 Z ntmps63 results63 Z Y (by kernel_rfl) Z ?_
     refine AWP.weak ?_
     unfold D3 at hr68
     try dsimp only at hr68
     refine AWP.j (env':=[(0,.c (.yld 12)),(1,(cP 10 0 0)),(2,(cP 11 0 0))]) (σ':=[(oE 4 (tF Facts Init Goal Operators)),(o1 (.fn 25 [])),(o1 (.imm (.val nL))),(o1 (bool false)),(o1 (bool false)),.dead,(o1 (.own 13 0 c59.length)),(oW Value.string vI c60),(o1 (.map 7)),(o1 (int c61)),(oE 4 (tF Facts Init Goal Operators)),(o1 (row 1 f7 a66.node)),.one (k7 92 [70,71] as68 bo68 .ready none [(5,none),(8,none),(9,none),(10,none),(11,none),(12,none),(13,none)] [.ptr 1 0 0,.ptr 2 0 0,.ptr 3 0 0,.ptr 4 0 0,.ptr 6 0 0,.ptr 8 0 0,.ptr 9 0 0]),(oV 3 d8 c59)]) 13 5 Z Z Z ⟨Z,Z,Z,Y⟩ Z ⟨⟨Z,Z⟩,⟨Z,Z⟩,⟨Z,Z⟩,⟨Z,Z⟩,⟨Z,Z⟩,Y,⟨Z,Z⟩,⟨Z,Z⟩,⟨Z,Z⟩,⟨Z,Z⟩,⟨Z,Z⟩,⟨Z,Z⟩,⟨Z,Z⟩,⟨Blk.im_ok _ _ _,g9 Z⟩,Y⟩ (.q (.u (W.fieldAddr Z Z Z Z (.E Z Z Z Z Z Z (S.len Z Z (fun hl8=>.j Z Z (.nil (b5 (.J ?_)))))))))
     obtain⟨oo,ho3,hr68⟩:=bind_some hr68
     refine AWP.rngS ho3 (fun t75 (c73,c74)=>⟨[(0,.c (.yld 12)),(1,(cP 10 0 0)),(2,(cP 11 0 0)),(7,.c (row 4 k6 Operators)),(8,(cI (Operators.length:Int))),(9,(cI t75))],[(oE 4 (tF Facts Init Goal Operators)),(o1 (.fn 25 [])),(o1 (.imm (.val nL))),(o1 (bool false)),(o1 (bool false)),.dead,(o1 (.own 13 0 c74.length)),(oW Value.string vI c73),(o1 (.map 7)),(o1 (int c61)),(oE 4 (tF Facts Init Goal Operators)),(o1 (row 1 f7 a66.node)),.one (k7 92 [70,71] as68 bo68 .ready none [(5,none),(8,none),(9,none),(10,none),(11,none),(12,none),(13,none)] [.ptr 1 0 0,.ptr 2 0 0,.ptr 3 0 0,.ptr 4 0 0,.ptr 6 0 0,.ptr 8 0 0,.ptr 9 0 0]),(oV 3 d8 c74)]⟩) (fun o e st=>match o with| .inl (c73,c74)=>e=.exit 0∧Sub ([(oE 4 (tF Facts Init Goal Operators)),(o1 (.fn 25 [])),(o1 (.imm (.val nL))),(o1 (bool false)),(o1 (bool false)),(oV 3 d8 c59),(o1 (.own 5 0 c59.length)),(oW Value.string vI c60),(o1 (.map 7)),(o1 (int c61)),(oE 4 (tF Facts Init Goal Operators)),(o1 (row 1 f7 a66.node)),.one (k7 92 [70,71] as68 bo68 .ready none [(5,none),(8,none),(9,none),(10,none),(11,none),(12,none),(13,none)] [.ptr 1 0 0,.ptr 2 0 0,.ptr 3 0 0,.ptr 4 0 0,.ptr 6 0 0,.ptr 8 0 0,.ptr 9 0 0])]:b6) st ⟨[],[(oE 4 (tF Facts Init Goal Operators)),(o1 (.fn 25 [])),(o1 (.imm (.val nL))),(o1 (bool false)),(o1 (bool false)),.dead,(o1 (.own 13 0 c74.length)),(oW Value.string vI c73),(o1 (.map 7)),(o1 (int c61)),(oE 4 (tF Facts Init Goal Operators)),(o1 (row 1 f7 a66.node)),.one (k7 92 [70,71] as68 bo68 .ready none [(5,none),(8,none),(9,none),(10,none),(11,none),(12,none),(13,none)] [.ptr 1 0 0,.ptr 2 0 0,.ptr 3 0 0,.ptr 4 0 0,.ptr 6 0 0,.ptr 8 0 0,.ptr 9 0 0]),(oV 3 d8 c74)]⟩| .inr x=>e=.ret∧∃J,Sub ([(oE 4 (tF Facts Init Goal Operators)),(o1 (.fn 25 [])),(o1 (.imm (.val nL))),(o1 (bool false)),(o1 (bool false)),(oV 3 d8 c59),(o1 (.own 5 0 c59.length)),(oW Value.string vI c60),(o1 (.map 7)),(o1 (int c61)),(oE 4 (tF Facts Init Goal Operators)),(o1 (row 1 f7 a66.node)),.one (k7 92 [70,71] as68 bo68 .ready none [(5,none),(8,none),(9,none),(10,none),(11,none),(12,none),(13,none)] [.ptr 1 0 0,.ptr 2 0 0,.ptr 3 0 0,.ptr 4 0 0,.ptr 6 0 0,.ptr 8 0 0,.ptr 9 0 0])]:b6) st J∧Done [] (fun tt ss=>(∃v:(List (ByteArray×Int))×(List d9),x=.inl v∧tt=.tup []∧ss=[(oE 4 (tF Facts Init Goal Operators)),(o1 (.fn 25 [])),(o1 (.imm (.val nL))),(o1 (bool false)),(o1 (bool false)),.dead,(o1 (.own 13 0 v.2.length)),(oW Value.string vI v.1),(o1 (.map 7)),(o1 (int c61)),(oE 4 (tF Facts Init Goal Operators)),(o1 (row 1 f7 a66.node)),.one (k7 92 [70,71] as68 bo68 .ready none [(5,none),(8,none),(9,none),(10,none),(11,none),(12,none),(13,none)] [.ptr 1 0 0,.ptr 2 0 0,.ptr 3 0 0,.ptr 4 0 0,.ptr 6 0 0,.ptr 8 0 0,.ptr 9 0 0]),(oV 3 d8 v.2)])∨(∃v:(List (ByteArray×Int))×(List d9),x=.inr v∧tt=.tup []∧ss=[(oE 4 (tF Facts Init Goal Operators)),(o1 (.fn 25 [])),(o1 (.imm (.val nL))),(o1 (bool false)),(o1 (bool false)),.dead,(o1 (.own 13 0 v.2.length)),(oW Value.string vI v.1),(o1 (.map 7)),(o1 (int c61)),(oE 4 (tF Facts Init Goal Operators)),(o1 (row 1 f7 a66.node)),.one (k7 92 [70,71] as68 bo68 .done (some .ret) [(5,none),(8,none),(9,none),(10,none),(11,none),(12,none),(13,none)] [.ptr 1 0 0,.ptr 2 0 0,.ptr 3 0 0,.ptr 4 0 0,.ptr 6 0 0,.ptr 8 0 0,.ptr 9 0 0]),(oV 3 d8 v.2)])) .ret J) ?_ ?_ ?_ ?_
     ·try dsimp only
      exact Sub.env ⟨Z,Z,Z,Z,Z,Z,Y⟩
     ·intro t75 s hlot75 hltt75 _
      obtain⟨c73,c74⟩:=s
      try dsimp only
      refine AWP.q (.u (.F Z Z Z (.nil (b5 (.q (.ae Z hltt75 (.exit (d7 (d7 ⟨Z,?_⟩)))))))))
      exact Sub.env Y
     ·intro t75 s o hlot75 hltt75 h
      obtain⟨c73,c74⟩:=s
      unfold H6 at h
      try dsimp only at h ⊢
      refine AWP.q (.u (.F Z Z Z (.nil (b5 (.q (.af Z hltt75 (.skip (b5 (.q (.J (.q ?_)))))))))))
      obtain⟨ai12,hai12,h⟩:=bind_some h
      refine AWP.u (.j Z Z (S.idx hai12 Z Z Z Z (W.loadIAgg Z Z Z Z Z (W.alloc Z Z Z Z (.v Z Z (W.storeAgg Z Z Z Z Z Z Z (.nil (b5 (.q ?_)))))))))
      obtain⟨ai17,hai17,h⟩:=bind_some h
      rcases bft (ai17) with hb76|hb76
      ·replace h:=S7 hb76 h
       obtain⟨ai24,hai24,h⟩:=bind_some h
       refine AWP.u (.E Z Z Z Z Z Z (W.fieldAddr Z Z Z Z (.E Z Z Z Z Z Z (.O Z Z Z Z (T5 hai17) Z (.j Z Z (.z Z Z Z hb76 (.j Z Z (.z Z Z Z hb76 (.j Z Z (.z Z Z Z hb76 (W.loadAgg Z Z Z Z Z Z Z (.z Z Z Z hb76 (.E Z Z Z Z Z Z (.z Z Z Z hb76 (.j Z Z (.z Z Z Z hb76 (S.fresh Z Z Z Z (ap9 hai24) Z Z (.frzV (id:=15) (l:=ai24) (env2:=[(0,.c (.yld 12)),(1,(cP 10 0 0)),(2,(cP 11 0 0)),(7,.c (row 4 k6 Operators)),(8,(cI (Operators.length:Int))),(9,(cI t75)),(18,(cB ai17)),(19,.c (.yld 12)),(20,(cI t75)),(24,.c (row 1 f7 ai24))]) (σ2:=[(oE 4 (tF Facts Init Goal Operators)),(o1 (.fn 25 [])),(o1 (.imm (.val nL))),(o1 (bool false)),(o1 (bool false)),.dead,(o1 (.own 13 0 c74.length)),(oW Value.string vI c73),(o1 (.map 7)),(o1 (int c61)),(oE 4 (tF Facts Init Goal Operators)),(o1 (row 1 f7 a66.node)),.one (k7 92 [70,71] as68 bo68 .ready none [(5,none),(8,none),(9,none),(10,none),(11,none),(12,none),(13,none)] [.ptr 1 0 0,.ptr 2 0 0,.ptr 3 0 0,.ptr 4 0 0,.ptr 6 0 0,.ptr 8 0 0,.ptr 9 0 0]),(oV 3 d8 c74),(oE 4 [row 1 intI ai12.pre,row 1 intI ai12.add,row 1 intI ai12.del,int ai12.cost]),.dead]) Z Z (by exact⟨⟨_,Z,.inl ⟨Z,Z⟩⟩,⟨_,Z,.inl ⟨Z,Z⟩⟩,⟨_,Z,.inl ⟨Z,Z⟩⟩,⟨_,Z,.inl ⟨Z,Z⟩⟩,⟨_,Z,.inl ⟨Z,Z⟩⟩,⟨_,Z,.inl ⟨Z,Z⟩⟩,⟨_,Z,.inl ⟨Z,Z⟩⟩,⟨_,Z,.inl ⟨Z,Z⟩⟩,⟨_,Z,.inl ⟨Z,Z⟩⟩,⟨_,Z,.inr ⟨_,Z,Z,Z⟩⟩,Y⟩) Z (by exact⟨⟨Z,.inl ⟨Z,Z⟩,.inl ⟨Z,Z⟩,.inl ⟨Z,Z⟩,.inl ⟨Z,Z⟩,Y⟩,⟨Z,.inl ⟨Z,Z⟩,Y⟩,⟨Z,.inl ⟨Z,Z⟩,Y⟩,⟨Z,.inl ⟨Z,Z⟩,Y⟩,⟨Z,.inl ⟨Z,Z⟩,Y⟩,Y,⟨Z,.inl ⟨Z,Z⟩,Y⟩,⟨Z,Z⟩,⟨Z,.inl ⟨Z,Z⟩,Y⟩,⟨Z,.inl ⟨Z,Z⟩,Y⟩,⟨Z,.inl ⟨Z,Z⟩,.inl ⟨Z,Z⟩,.inl ⟨Z,Z⟩,.inl ⟨Z,Z⟩,Y⟩,⟨Z,.inl ⟨Z,Z⟩,Y⟩,⟨Z,Z⟩,FrzB.vec,⟨Z,.inl ⟨Z,Z⟩,.inl ⟨Z,Z⟩,.inl ⟨Z,Z⟩,.inl ⟨Z,Z⟩,Y⟩,Y,Y⟩) ?_))))))))))))))))))
       refine AOps.z Z Z Z hb76 ?_;refine AOps.yieldB (E1:=[(17,.c (row 1 f7 ai24)),(16,(cI t75)),(71,.c (row 1 f7 ai24)),(70,(cI t75)),(5,(cP 1 0 0)),(8,(cP 2 0 0)),(9,(cP 3 0 0)),(10,(cP 4 0 0)),(11,(cP 6 0 0)),(12,(cP 8 0 0)),(13,(cP 9 0 0))]) (σ1:=[(oE 4 (tF Facts Init Goal Operators)),(o1 (.fn 25 [])),(o1 (.imm (.val nL))),(o1 (bool false)),(o1 (bool false)),.dead,(o1 (.own 13 0 c74.length)),(oW Value.string vI c73),(o1 (.map 7)),(o1 (int c61)),(oE 4 (tF Facts Init Goal Operators)),(o1 (row 1 f7 a66.node)),.one (k7 92 [70,71] as68 bo68 .ready none [(5,none),(8,none),(9,none),(10,none),(11,none),(12,none),(13,none)] [.ptr 1 0 0,.ptr 2 0 0,.ptr 3 0 0,.ptr 4 0 0,.ptr 6 0 0,.ptr 8 0 0,.ptr 9 0 0]),(oV 3 d8 c74),(oE 4 [row 1 intI ai12.pre,row 1 intI ai12.add,row 1 intI ai12.del,int ai12.cost]),.dead]) hA68 hB68 Z Z Z Z Z Z Z Z Z Z ?_ ?_
       ·refine AWP.q (.u (.v Z Z (.nil (b5 (.u (.v Z Z (.nil ?_)))))))
        exact⟨Z,Z⟩
       refine AWP.sub (s':=⟨[(5,(cP 1 0 0)),(8,(cP 2 0 0)),(9,(cP 3 0 0)),(10,(cP 4 0 0)),(11,(cP 6 0 0)),(12,(cP 8 0 0)),(13,(cP 9 0 0)),(16,(cI t75)),(17,.c (row 1 f7 ai24))],[(oE 4 (tF Facts Init Goal Operators)),(o1 (.fn 25 [])),(o1 (.imm (.val nL))),(o1 (bool false)),(o1 (bool false)),.dead,(o1 (.own 13 0 c74.length)),(oW Value.string vI c73),(o1 (.map 7)),(o1 (int c61)),(oE 4 (tF Facts Init Goal Operators)),(o1 (row 1 f7 a66.node)),.one (k7 92 [70,71] as68 bo68 .busy none [(5,none),(8,none),(9,none),(10,none),(11,none),(12,none),(13,none)] [.ptr 1 0 0,.ptr 2 0 0,.ptr 3 0 0,.ptr 4 0 0,.ptr 6 0 0,.ptr 8 0 0,.ptr 9 0 0]),(oV 3 d8 c74),(oE 4 [row 1 intI ai12.pre,row 1 intI ai12.add,row 1 intI ai12.del,int ai12.cost]),.dead]⟩) (Sub.env ⟨Z,Z,Z,Z,Z,Z,Z,Z,Z,Y⟩) (.J (.q ?_))
       obtain⟨ab74,hab74,h⟩:=bind_some h
       refine AWP.u (.E Z Z Z Z Z Z (.j Z Z (.O Z Z Z Z (ac3 hab74) Z (.v Z Z (.nil (b5 (.q (.q (.u (.E Z Z Z Z Z Z (.j Z Z (W.lookup (fk:=Value.string) (fv:=vI) (k:=ab74) (z:=0) keyStr Z (fun _=>Z) Z Z Z Z ?_))))))))))))
       refine AOps.gtr Z Z Z (.nil (b5 (.ite Z h (fun hc77 h=> ?_) (fun hc77 h=> ?_))))
       ·refine AWP.exit (d7 (i6 (O2 Z Z (.z Z Z Z hb76 (.not Z Z (.U Z hb76 Z Z (.nil (b5 (.condF Z (.skip (d6 (b5 (.u (.add Z Z Z (by omega) (.j Z Z (.nil ?_))))))))))))))))
        obtain rfl:=oi h
        refine b5 ⟨_,Z,?_⟩
        exact Sub.cut ⟨Z,Z,Z,Z,Z,Z,Y⟩ Z ⟨.one Z,.one Z,.one Z,.one Z,.one Z,.dead,.one Z,.one Z,.one Z,.one Z,.one Z,.one Z,.one Z,.vec,Y⟩ Z
       ·refine AWP.skip (b5 (.q (.q (.u (.E Z Z Z Z Z Z (S.lenO Z Z Z (fun hl80=>.ad Z Z Z (.nil (b5 (.ite Z h (fun hc78 h=> ?_) (fun hc78 h=> ?_)))))))))))
        ·refine AWP.q (.u (W.store Z Z Z Z Z (W.store Z Z Z Z Z (W.store Z Z Z Z Z (.nil (b5 (.ret (e6 (j5 (yPost_ret Z Z (.z Z Z Z hb76 (.not Z Z (.U Z hb76 Z Z (.nil (b5 (.condT Z (.ret (j5 (e6 ?_)))))))))))))))))))
         obtain rfl:=oi h
         refine e6 ⟨_,Z,Z,?_⟩
         exact⟨⟨[],[(oE 4 (tF Facts Init Goal Operators)),(o1 (.fn 25 [])),(o1 (.imm (.val nL))),(o1 (bool false)),(o1 (bool false)),.dead,(o1 (.own 13 0 c74.length)),(oW Value.string vI c73),(o1 (.map 7)),(o1 (int c61)),(oE 4 (tF Facts Init Goal Operators)),(o1 (row 1 f7 a66.node)),.one (k7 92 [70,71] as68 bo68 .done (some .ret) [(5,none),(8,none),(9,none),(10,none),(11,none),(12,none),(13,none)] [.ptr 1 0 0,.ptr 2 0 0,.ptr 3 0 0,.ptr 4 0 0,.ptr 6 0 0,.ptr 8 0 0,.ptr 9 0 0]),(oV 3 d8 c74)]⟩,Sub.cut Y Z ⟨.one Z,.one Z,.one Z,.one Z,.one Z,.dead,.one Z,.one Z,.one Z,.one Z,.one Z,.one Z,.one Z,.vec,Y⟩ Z,Done.ret Z (.inr ⟨_,Z,Z,Z⟩)⟩
        ·refine AWP.skip (b5 (.q (.u (.E Z Z Z Z Z Z (.j Z Z (W.mapUpdate (fk:=Value.string) (fv:=vI) (k:=ab74) (a:=1) keyStr Z Z Z Z Z (.nil (b5 ?_))))))))
         obtain⟨ab90,hab90,h⟩:=bind_some h
         refine AWP.u (.E Z Z Z Z Z Z (.j Z Z (.E Z Z Z Z Z Z (.j Z Z (W.build Z Z Z Z (S.lit (f:=d8) (l:=[(⟨ai24,c61,t75⟩:d9)]) (ess:=[[row 1 f7 ai24,int c61,int t75]]) Z Z Z Z Z Z Z ⟨⟨.inl Z,.inl Z,.inl Z,Y⟩,Y⟩ Z Z Z (S.append (f:=d8) hab90 Z Z Z Z Z Z (.own Z Z) Z Z Z Z (W.store Z Z Z Z Z (.nil (d6 (O2 Z Z (.z Z Z Z hb76 (.not Z Z (.U Z hb76 Z Z (.nil (b5 (.j (env':=[(0,.c (.yld 12)),(1,(cP 10 0 0)),(2,(cP 11 0 0)),(7,.c (row 4 k6 Operators)),(8,(cI (Operators.length:Int))),(9,(cI t75)),(27,(cB false))]) (σ':=[(oE 4 (tF Facts Init Goal Operators)),(o1 (.fn 25 [])),(o1 (.imm (.val nL))),(o1 (bool false)),(o1 (bool false)),.dead,(o1 (.own 13 0 ab90.length)),(oW Value.string vI (mset c73 ab74 1)),(o1 (.map 7)),(o1 (int c61)),(oE 4 (tF Facts Init Goal Operators)),(o1 (row 1 f7 a66.node)),.one (k7 92 [70,71] as68 bo68 .ready none [(5,none),(8,none),(9,none),(10,none),(11,none),(12,none),(13,none)] [.ptr 1 0 0,.ptr 2 0 0,.ptr 3 0 0,.ptr 4 0 0,.ptr 6 0 0,.ptr 8 0 0,.ptr 9 0 0]),(oV 3 d8 ab90),(oE 4 [row 1 intI ai12.pre,row 1 intI ai12.add,row 1 intI ai12.del,int ai12.cost]),.dead,(oV 3 d8 [(⟨ai24,c61,t75⟩:d9)])]) 13 17 Z Z Z ⟨Z,Z,Z,Z,Z,Z,Z,Y⟩ Z ⟨⟨Z,Z⟩,⟨Z,Z⟩,⟨Z,Z⟩,⟨Z,Z⟩,⟨Z,Z⟩,Y,⟨Z,Z⟩,⟨Z,Z⟩,⟨Z,Z⟩,⟨Z,Z⟩,⟨Z,Z⟩,⟨Z,Z⟩,⟨Z,Z⟩,⟨Blk.im_ok _ _ _,g9 Z⟩,⟨Z,Z⟩,Y,⟨Blk.im_ok _ _ _,g9 Z⟩,Y⟩ (.condF Z (.skip (d6 (b5 (.u (.add Z Z Z (by omega) (.j Z Z (.nil ?_)))))))))))))))))))))))))
         obtain rfl:=oi h
         refine b5 ⟨_,Z,?_⟩
         exact Sub.cut ⟨Z,Z,Z,Z,Z,Z,Y⟩ Z ⟨.one Z,.one Z,.one Z,.one Z,.one Z,.dead,.one Z,.one Z,.one Z,.one Z,.one Z,.one Z,.one Z,.vec,Y⟩ Z
      ·replace h:=S6 hb76 h
       refine AWP.u (.E Z Z Z Z Z Z (W.fieldAddr Z Z Z Z (.E Z Z Z Z Z Z (.O Z Z Z Z (T5 hai17) Z (.j Z Z (.B Z Z Z hb76 (.B Z Z Z hb76 (.B Z Z Z hb76 (.B Z Z Z hb76 (.B Z Z Z hb76 (.B Z Z Z hb76 (.B Z Z Z hb76 (.B Z Z Z hb76 (.aa Z hb76 Z Z (.nil (b5 (.condF Z (.skip (d6 (b5 (.u (.add Z Z Z (by omega) (.j Z Z (.nil ?_))))))))))))))))))))))))
       obtain rfl:=oi h
       refine b5 ⟨_,Z,?_⟩
       exact Sub.cut ⟨Z,Z,Z,Z,Z,Z,Y⟩ Z ⟨.one Z,.one Z,.one Z,.one Z,.one Z,.dead,.one Z,.one Z,.one Z,.one Z,.one Z,.one Z,.one Z,.vec,Y⟩ Z
     ·intro e s hq
      rcases oo with⟨c73,c74⟩|x
      ·try dsimp only at hr68 hq
       obtain⟨rfl,hs⟩:=hq
       refine⟨_,hs,?_⟩
       refine i6 ?_
       obtain rfl:=oi hr68
       exact⟨⟨[],[(oE 4 (tF Facts Init Goal Operators)),(o1 (.fn 25 [])),(o1 (.imm (.val nL))),(o1 (bool false)),(o1 (bool false)),.dead,(o1 (.own 13 0 c74.length)),(oW Value.string vI c73),(o1 (.map 7)),(o1 (int c61)),(oE 4 (tF Facts Init Goal Operators)),(o1 (row 1 f7 a66.node)),.one (k7 92 [70,71] as68 bo68 .ready none [(5,none),(8,none),(9,none),(10,none),(11,none),(12,none),(13,none)] [.ptr 1 0 0,.ptr 2 0 0,.ptr 3 0 0,.ptr 4 0 0,.ptr 6 0 0,.ptr 8 0 0,.ptr 9 0 0]),(oV 3 d8 c74)]⟩,Sub.env Y,Done.normal Z (.inl ⟨_,Z,Z,Z⟩)⟩
      ·try dsimp only at hr68 hq
       obtain⟨rfl,hs⟩:=hq
       refine⟨_,Sub.refl _ _,?_⟩
       refine j5 ?_
       obtain rfl:=oi hr68
       exact hs
    ·rintro tt ss (⟨⟨c69,c70⟩,rfl,rfl,rfl⟩|⟨⟨c71,c72⟩,rfl,rfl,rfl⟩)
     ·try dsimp only at h ⊢
      refine ah2 Z Z (d6 (d6 (b5 (.q (.q (.u (.E Z Z Z Z Z Z (.nil (b5 (.u (W.alloc Z Z Z Z (W.store Z Z Z Z Z (.nil (b5 (.u (.E Z Z Z Z Z Z (S.add Z Z Z (W.store Z Z Z Z Z (.nil ?_)))))))))))))))))))
      obtain rfl:=oi h
      refine b5 ⟨_,Z,?_⟩
      exact(Sub.move (env':=[(2,.c (.fn 42 [.ptr 0 0 0])),(3,.c (.fn 44 [])),(5,(cP 1 0 0)),(8,(cP 2 0 0)),(9,(cP 3 0 0)),(10,(cP 4 0 0)),(11,(cP 6 0 0)),(12,(cP 8 0 0)),(13,(cP 9 0 0))]) (σ':=[(oE 4 (tF Facts Init Goal Operators)),(o1 (.fn 25 [])),(o1 (.imm (.val nL))),(o1 (bool false)),(o1 (bool false)),.dead,(o1 (.own 13 0 c70.length)),(oW Value.string vI c69),(o1 (.map 7)),(o1 (int (w64 (c61+1)))),(oE 4 (tF Facts Init Goal Operators)),(o1 (row 1 f7 a66.node)),.dead,(oV 3 d8 c70)]) 9 14 Z Z Z ⟨Z,Z,Z,Z,Z,Z,Z,Z,Z,Y⟩ Z ⟨⟨Z,Z⟩,⟨Z,Z⟩,⟨Z,Z⟩,⟨Z,Z⟩,⟨Z,Z⟩,Y,⟨Z,Z⟩,⟨Z,Z⟩,⟨Z,Z⟩,⟨Z,Z⟩,⟨Z,Z⟩,⟨Z,Z⟩,Y,⟨Blk.im_ok _ _ _,g9 Z⟩,Y⟩).trans ((Sub.move (env':=[(2,.c (.fn 42 [.ptr 0 0 0])),(3,.c (.fn 44 [])),(5,(cP 1 0 0)),(8,(cP 2 0 0)),(9,(cP 3 0 0)),(10,(cP 4 0 0)),(11,(cP 6 0 0)),(12,(cP 8 0 0)),(13,(cP 9 0 0))]) (σ':=[(oE 4 (tF Facts Init Goal Operators)),(o1 (.fn 25 [])),(o1 (.imm (.val nL))),(o1 (bool false)),(o1 (bool false)),(oV 3 d8 c70),(o1 (.own 5 0 c70.length)),(oW Value.string vI c69),(o1 (.map 7)),(o1 (int (w64 (c61+1)))),(oE 4 (tF Facts Init Goal Operators)),(o1 (row 1 f7 a66.node)),.dead]) 5 13 Z Z Z ⟨Z,Z,Z,Z,Z,Z,Z,Z,Z,Y⟩ Z ⟨⟨Z,Z⟩,⟨Z,Z⟩,⟨Z,Z⟩,⟨Z,Z⟩,⟨Z,Z⟩,⟨Blk.im_ok _ _ _,g9 Z⟩,⟨Z,Z⟩,⟨Z,Z⟩,⟨Z,Z⟩,⟨Z,Z⟩,⟨Z,Z⟩,⟨Z,Z⟩,Y,Y⟩).trans (Sub.cut ⟨Z,Z,Z,Z,Z,Z,Z,Z,Z,Y⟩ Z ⟨.one Z,.one Z,.one Z,.one Z,.one Z,.vec,.one Z,.one Z,.one Z,.one Z,Y⟩ Z))
     ·try dsimp only at h ⊢
      refine rPost_jump Z Z (.nilB (b:=2) [row 1 intI []] Z (by exact⟨.inr ⟨Z,_,Z⟩,Y⟩) Z Z (.ret (j5 (j5 (e6 ?_)))))
      obtain rfl:=oi h
      refine e6 ⟨_,Z,Z,?_⟩
      exact⟨⟨[(8,(cP 2 0 0)),(9,(cP 3 0 0)),(10,(cP 4 0 0))],[(oE 4 (tF Facts Init Goal Operators)),.dead,(o1 (row 1 intI [])),(o1 (bool false)),(o1 (bool false))]⟩,Sub.cut ⟨Z,Z,Z,Y⟩ Z ⟨.one Z,.dead,.one Z,.one Z,.one Z,Y⟩ Z,Done.ret Z ⟨Z,Z⟩⟩
  ·refine AWP.exit (d7 ?_)
   obtain rfl:=oi h
   refine d7 ⟨_,Z,Z,?_⟩
   exact Sub.cut ⟨Z,Z,Z,Y⟩ Z ⟨.one Z,.dead,.one Z,.one Z,.one Z,Y⟩ Z
 ·intro e s hq
  rcases oo with u|x
  ·try dsimp only at h hq
   obtain⟨rfl,hs⟩:=hq
   refine⟨_,hs,?_⟩
   refine i6 (b5 (.q (.u (W.store Z Z Z Z Z (W.store Z Z Z Z Z (W.store Z Z Z Z Z (.nil (b5 (.nilB (b:=2) [row 1 intI []] Z (by exact⟨.inr ⟨Z,_,Z⟩,Y⟩) Z Z (.ret ?_))))))))))
   obtain rfl:=oi h
   exact⟨⟨[(8,(cP 2 0 0)),(9,(cP 3 0 0)),(10,(cP 4 0 0))],[(oE 4 (tF Facts Init Goal Operators)),.dead,(o1 (row 1 intI [])),(o1 (bool false)),(o1 (bool true))]⟩,Sub.env ⟨Z,Z,Z,Y⟩,Done.ret Z ⟨Z,Z⟩⟩
  ·try dsimp only at h hq
   obtain⟨rfl,hs⟩:=hq
   refine⟨_,Sub.refl _ _,?_⟩
   refine j5 (e6 ?_)
   obtain rfl:=oi h
   exact hs
theorem ar9{start:LL}{Facts:Int}{Init:Li}{Goal:Li}{Operators:List f9}{r:Bool}(h:C3 start Facts Init Goal Operators=some r):FnOk prog 23 [.c (row 1 f7 start),.c (.fn 25 []),.c (.fn 42 [.ptr 0 0 0])] (ar3 start Facts Init Goal Operators) (fun tt ss=>tt=(cB r)∧ss=[(oE 4 (tF Facts Init Goal Operators))]):=by
 refine FnOk.enter (rs:=[.t 6]) func23 Z ntmps23 results23 Z ⟨Y,Y⟩ (by kernel_rfl) Z ?_
 refine AWP.weak ?_
 unfold C3 at h
 refine AWP.q (.u (.v Z Z (.nil (b5 (.q ?_)))))
 obtain⟨a14,ha14,h⟩:=bind_some h
 refine AWP.u (.j Z Z (.j Z Z (.j Z Z (.callF (r2:=.tup [(cR a14.1),(cB a14.2.1),(cB a14.2.2)]) (σ'':=[(oE 4 (tF Facts Init Goal Operators)),.dead,(o1 (row 1 intI a14.1)),(o1 (bool a14.2.1)),(o1 (bool a14.2.2))]) Z Z Z (FnOk.lend [0] (ap0 ha14) Z Z Z Z Z Z (by exact⟨(.one Z),Y⟩) Z (by exact⟨(.live Z (.one Z)),Y⟩) Z Z (by exact⟨(.new 0 Z Z (.one Z)),.dead,(.new 2 Z Z (.one Z)),(.new 3 Z Z (.one Z)),(.new 4 Z Z (.one Z)),Y⟩)) (.j Z Z (.ab Z Z Z (.ab Z Z Z (.ab Z Z Z (.v Z Z (.v Z Z (.v Z Z (.nil (b5 (.q (.u (.j Z Z (.v Z Z (.nil (b5 (.ret ?_))))))))))))))))))))
 obtain rfl:=oi h
 exact⟨⟨[(6,(cB a14.2.2))],[(oE 4 (tF Facts Init Goal Operators))]⟩,Sub.cut ⟨Z,Y⟩ Z ⟨.one Z,Y⟩ Z,Done.ret Z ⟨Z,Z⟩⟩
end Ab
end
section
namespace Ab
open Go Go.Proofs
open Tryz
set_option maxHeartbeats 4000000
set_option linter.all false
attribute [local irreducible] AWP AOps thn inB Done e9 q8 Sub
theorem am6{start:LL}{Facts:Int}{Init:Li}{Goal:Li}{Operators:List f9}{Facts6:Int}{Init7:Li}{Goal8:Li}{Operators9:List f9}{r:Li×Bool×Bool}(h:F3 start Facts Init Goal Operators Facts6 Init7 Goal8 Operators9=some r):FnOk prog 26 [.c (row 1 f7 start),.c (.fn 25 []),.c (.fn 42 [.ptr 0 0 0]),.c (.fn 27 [.ptr 1 0 0])] (G5 start Facts Init Goal Operators Facts6 Init7 Goal8 Operators9) (fun tt ss=>tt=.tup [(cR r.1),(cB r.2.1),(cB r.2.2)]∧ss=[(oE 4 (tF Facts Init Goal Operators)),(oE 4 (tF Facts6 Init7 Goal8 Operators9)),.dead,(o1 (row 1 intI r.1)),(o1 (bool r.2.1)),(o1 (bool r.2.2))]):=by
 refine FnOk.enter (rs:=[.one 8 22,.one 9 4,.one 10 4]) func26 Z ntmps26 results26 Z ⟨rv1 _ Z,rv1 _ Z,rv1 _ Z,Y⟩ (by kernel_rfl) Z ?_
 refine AWP.weak ?_
 unfold F3 at h
 refine AWP.q (.u (W.box Z Z Z Z Z Z (W.alloc Z Z Z Z (W.alloc Z Z Z Z (W.alloc Z Z Z Z (.nil (b5 (.q (.u (.j Z Z (W.build Z Z Z Z (S.lit (f:=d8) (l:=[(⟨start, -1,0⟩:d9)]) (ess:=[[row 1 f7 start,int (-1),int 0]]) Z Z Z Z Z Z Z ⟨⟨.inl Z,.inl Z,.inl Z,Y⟩,Y⟩ Z Z Z (W.alloc Z Z Z Z (W.store Z Z Z Z Z (.nil (b5 (.q ?_)))))))))))))))))
 obtain⟨a25,ha25,h⟩:=bind_some h
 refine AWP.u (W.makeMap Value.string vI Z Z Z (.E Z Z Z Z Z Z (.j Z Z (.O Z Z Z Z (ac3 ha25) Z (W.insert (fk:=Value.string) (fv:=vI) (k:=a25) (a:=1) keyStr Z Z Z Z Z (.j Z Z (W.alloc Z Z Z Z (W.store Z Z Z Z Z (.nil (b5 (.q (.q (.u (W.alloc Z Z Z Z (W.store Z Z Z Z Z (.nil (b5 (.J ?_))))))))))))))))))
 obtain⟨oo,ho1,h⟩:=bind_some h
 refine AWP.loopS ho1 (fun(c63,c64,c65)=>⟨[(2,.c (.fn 42 [.ptr 0 0 0])),(3,.c (.fn 27 [.ptr 1 0 0])),(5,(cP 2 0 0)),(8,(cP 3 0 0)),(9,(cP 4 0 0)),(10,(cP 5 0 0)),(11,(cP 7 0 0)),(12,(cP 9 0 0)),(13,(cP 10 0 0))],[(oE 4 (tF Facts Init Goal Operators)),(oE 4 (tF Facts6 Init7 Goal8 Operators9)),(o1 (.fn 25 [])),(o1 (.imm (.val nL))),(o1 (bool false)),(o1 (bool false)),(oV 3 d8 c63),(o1 (.own 6 0 c63.length)),(oW Value.string vI c64),(o1 (.map 8)),(o1 (int c65))]⟩) (fun o e st=>match o with| .inl _=>e=.exit 0∧Sub (G5 start Facts Init Goal Operators Facts6 Init7 Goal8 Operators9) st ⟨[(8,(cP 3 0 0)),(9,(cP 4 0 0)),(10,(cP 5 0 0))],[(oE 4 (tF Facts Init Goal Operators)),(oE 4 (tF Facts6 Init7 Goal8 Operators9)),.dead,(o1 (.imm (.val nL))),(o1 (bool false)),(o1 (bool false))]⟩| .inr x=>e=.ret∧∃J,Sub (G5 start Facts Init Goal Operators Facts6 Init7 Goal8 Operators9) st J∧Done [.one 8 22,.one 9 4,.one 10 4] (fun tt ss=>tt=.tup [(cR x.1),(cB x.2.1),(cB x.2.2)]∧ss=[(oE 4 (tF Facts Init Goal Operators)),(oE 4 (tF Facts6 Init7 Goal8 Operators9)),.dead,(o1 (row 1 intI x.1)),(o1 (bool x.2.1)),(o1 (bool x.2.2))]) .ret J) ?_ ?_ ?_
 ·try dsimp only
  exact Sub.env ⟨Z,Z,Z,Z,Z,Z,Z,Z,Z,Y⟩
 ·intro s o h
  obtain⟨c63,c64,c65⟩:=s
  unfold y6 at h
  try dsimp only at h ⊢
  refine AWP.q (.q (.u (.E Z Z Z Z Z Z (.E Z Z Z Z Z Z (S.lenO Z Z Z (fun hl29=>.F Z Z Z (.nil (b5 (.ite Z h (fun hc66 h=> ?_) (fun hc66 h=> ?_))))))))))
  ·refine AWP.skip (b5 (.q (.J (.q (.q ?_)))))
   obtain⟨a36,ha36,a39,ha39,h⟩:=b2 h
   refine AWP.u (.j Z Z (.E Z Z Z Z Z Z (.E Z Z Z Z Z Z (S.idxO ha36 Z Z Z Z Z (W.fieldAddr Z Z Z Z (S.loadO ha36 Z Z Z Z Z (.callL Z Z (.cons (.c .imm) (.cons (.c (.ptr (es:=[.val (.int .i64 Facts6),.sl 1 (List.map intI Init7),.sl 1 (List.map intI Goal8),.sl 4 (List.map k6 Operators9)]) Z Z (.cons .imm (.cons .imm (.cons .imm (.cons .imm .nil)))))) .nil)) Z (ay2 ha39) Z (.nil (b5 (.ac Z h (fun hc67 h=> ?_) (fun hc67 h=> ?_)))))))))))
   ·refine AWP.q (.u (.v Z Z (.nil (b5 (.q (.q (.u (.E Z Z Z Z Z Z (.v Z Z (.nil (b5 (.J (.virtV 1 intI 14 Z Z Z ?_)))))))))))))
    obtain⟨c70,ho2,h⟩:=bind_some h
    refine AWP.loopS ho2 (fun(c68,iv69)=>⟨[(8,(cP 3 0 0)),(9,(cP 4 0 0)),(10,(cP 5 0 0)),(11,(cP 7 0 0)),(14,.c (.own 11 0 c68.length)),(15,(cI iv69))],[(oE 4 (tF Facts Init Goal Operators)),(oE 4 (tF Facts6 Init7 Goal8 Operators9)),.dead,(o1 (.imm (.val nL))),(o1 (bool false)),(o1 (bool false)),(oV 3 d8 c63),(o1 (.own 6 0 c63.length)),.dead,.dead,.dead,(oV 1 intI c68)]⟩) (fun c70 e st=>e=.exit 2∧Sub (G5 start Facts Init Goal Operators Facts6 Init7 Goal8 Operators9) st ⟨[(8,(cP 3 0 0)),(9,(cP 4 0 0)),(10,(cP 5 0 0)),(14,.c (.own 11 0 c70.length))],[(oE 4 (tF Facts Init Goal Operators)),(oE 4 (tF Facts6 Init7 Goal8 Operators9)),.dead,(o1 (.imm (.val nL))),(o1 (bool false)),(o1 (bool false)),.dead,.dead,.dead,.dead,.dead,(oV 1 intI c70)]⟩) ?_ ?_ ?_
    ·try dsimp only
     exact Sub.cut ⟨Z,Z,Z,Z,(F2 (by first|rfl|simp only[lS])),Z,Y⟩ Z ⟨.one Z,.one Z,.dead,.one Z,.one Z,.one Z,.vec,.one Z,.dead,.dead,.dead,.vec,Y⟩ Z
    ·intro s o h
     obtain⟨c68,iv69⟩:=s
     unfold C1 at h
     try dsimp only at h ⊢
     refine AWP.q (.q ?_)
     obtain⟨a43,ha43,h⟩:=bind_some h
     refine AWP.u (.E Z Z Z Z Z Z (.j Z Z (S.idxO ha43 Z Z Z Z Z (W.fieldAddr Z Z Z Z (S.loadO ha43 Z Z Z Z Z (.geq Z Z Z (.nil (b5 (.ite Z h (fun hc71 h=> ?_) (fun hc71 h=> ?_))))))))))
     ·refine AWP.skip (b5 (.q (.J ?_)))
      obtain⟨a55,ha55,a59,ha59,h⟩:=b2 h
      refine AWP.u (.j Z Z (.E Z Z Z Z Z Z (.j Z Z (S.idxO ha55 Z Z Z Z Z (W.fieldAddr Z Z Z Z (S.loadO ha55 Z Z Z Z Z (S.lit (f:=intI) (l:=[a55.step]) (ess:=[[int a55.step]]) Z Z Z Z Z Z Z ⟨⟨.inl Z,Y⟩,Y⟩ Z Z Z (S.append (f:=intI) ha59 Z Z Z Z Z Z (.own Z Z) Z Z Z Z (.v Z Z (.nil (d6 (b5 (.j (env':=[(8,(cP 3 0 0)),(9,(cP 4 0 0)),(10,(cP 5 0 0)),(11,(cP 7 0 0)),(14,.c (.own 11 0 a59.length)),(15,(cI iv69))]) (σ':=[(oE 4 (tF Facts Init Goal Operators)),(oE 4 (tF Facts6 Init7 Goal8 Operators9)),.dead,(o1 (.imm (.val nL))),(o1 (bool false)),(o1 (bool false)),(oV 3 d8 c63),(o1 (.own 6 0 c63.length)),.dead,.dead,.dead,(oV 1 intI a59),(oV 1 intI [a55.step])]) 11 13 Z Z Z ⟨Z,Z,Z,Z,Z,Z,Y⟩ Z ⟨⟨Z,Z⟩,⟨Z,Z⟩,Y,⟨Z,Z⟩,⟨Z,Z⟩,⟨Z,Z⟩,⟨Blk.im_ok _ _ _,g9 Z⟩,⟨Z,Z⟩,Y,Y,Y,⟨Blk.im_ok _ _ _,g9 Z⟩,⟨Blk.im_ok _ _ _,g9 Z⟩,Y⟩ ?_)))))))))))))
      obtain⟨a49,ha49,h⟩:=bind_some h
      refine AWP.u (.E Z Z Z Z Z Z (.j Z Z (S.idxO ha49 Z Z Z Z Z (W.fieldAddr Z Z Z Z (S.loadO ha49 Z Z Z Z Z (.v Z Z (.nil ?_)))))))
      obtain rfl:=oi h
      refine b5 ⟨_,Z,?_⟩
      exact Sub.cut ⟨Z,Z,Z,Z,Z,Z,Y⟩ Z ⟨.one Z,.one Z,.dead,.one Z,.one Z,.one Z,.vec,.one Z,.dead,.dead,.dead,.vec,Y⟩ Z
     ·refine AWP.exit (d7 ?_)
      obtain rfl:=oi h
      refine d7 ⟨_,Z,Z,?_⟩
      exact Sub.cut ⟨Z,Z,Z,Z,Y⟩ Z ⟨.one Z,.one Z,.dead,.one Z,.one Z,.one Z,.dead,.dead,.dead,.dead,.dead,.vec,Y⟩ Z
    ·intro e s hq
     obtain⟨rfl,hs⟩:=hq
     refine⟨_,hs,?_⟩
     refine i6 (b5 (.q (.u (.j Z Z (S.rev revL_ok Z Z Z Z Z Z (.nil (b5 (.q (.u (.j Z Z (W.store Z Z Z Z Z (W.store Z Z Z Z Z (W.store Z Z Z Z Z (.nil (b5 (.frzV (id:=11) (l:=c70.reverse) (env2:=[(8,(cP 3 0 0)),(9,(cP 4 0 0)),(10,(cP 5 0 0))]) (σ2:=[(oE 4 (tF Facts Init Goal Operators)),(oE 4 (tF Facts6 Init7 Goal8 Operators9)),.dead,(o1 (row 1 intI c70.reverse)),(o1 (bool true)),(o1 (bool true)),.dead,.dead,.dead,.dead,.dead,.dead]) Z Z (by exact⟨⟨_,Z,.inl ⟨Z,Z⟩⟩,⟨_,Z,.inl ⟨Z,Z⟩⟩,⟨_,Z,.inl ⟨Z,Z⟩⟩,Y⟩) Z (by exact⟨⟨Z,.inl ⟨Z,Z⟩,.inl ⟨Z,Z⟩,.inl ⟨Z,Z⟩,.inl ⟨Z,Z⟩,Y⟩,⟨Z,.inl ⟨Z,Z⟩,.inl ⟨Z,Z⟩,.inl ⟨Z,Z⟩,.inl ⟨Z,Z⟩,Y⟩,Y,⟨Z,.inr ⟨_,Z,List.length_reverse.symm,Z⟩,Y⟩,⟨Z,.inl ⟨Z,Z⟩,Y⟩,⟨Z,.inl ⟨Z,Z⟩,Y⟩,Y,Y,Y,Y,Y,Y,Y⟩) (.ret (e6 (j5 (e6 ?_))))))))))))))))))))
     obtain rfl:=oi h
     refine e6 ⟨_,Z,Z,?_⟩
     exact⟨⟨[(8,(cP 3 0 0)),(9,(cP 4 0 0)),(10,(cP 5 0 0))],[(oE 4 (tF Facts Init Goal Operators)),(oE 4 (tF Facts6 Init7 Goal8 Operators9)),.dead,(o1 (row 1 intI c70.reverse)),(o1 (bool true)),(o1 (bool true))]⟩,Sub.cut ⟨Z,Z,Z,Y⟩ Z ⟨.one Z,.one Z,.dead,.one Z,.one Z,.one Z,Y⟩ Z,Done.ret Z ⟨Z,Z⟩⟩
   ·refine AWP.skip (b5 (.q ?_))
    obtain⟨a66,ha66,a69,ha69,h⟩:=b2 h
    refine AWP.u (.j Z Z (.E Z Z Z Z Z Z (.E Z Z Z Z Z Z (S.idxO ha66 Z Z Z Z Z (W.fieldAddr Z Z Z Z (S.loadO ha66 Z Z Z Z Z (.callF (r2:=.c (.fn 63 [.ptr 11 0 0,.ptr 12 0 0])) (σ'':=[(oE 4 (tF Facts Init Goal Operators)),(oE 4 (tF Facts6 Init7 Goal8 Operators9)),(o1 (.fn 25 [])),(o1 (.imm (.val nL))),(o1 (bool false)),(o1 (bool false)),(oV 3 d8 c63),(o1 (.own 6 0 c63.length)),(oW Value.string vI c64),(o1 (.map 8)),(o1 (int c65)),(oE 4 (tF Facts Init Goal Operators)),(o1 (row 1 f7 a66.node))]) Z Z Z (FnOk.lend [0] (aj5 ha69) Z Z Z Z Z Z (by exact⟨(.one Z),Y⟩) Z (by exact⟨(.live Z (.one Z)),Y⟩) Z Z (by exact⟨(.new 0 Z Z (.one Z)),(.old Z Z Z),(.old Z Z Z),(.old Z Z Z),(.old Z Z Z),(.old Z Z Z),(.old Z Z Z),(.old Z Z Z),(.old Z Z Z),(.old Z Z Z),(.old Z Z Z),(.new 1 Z Z (.one Z)),(.new 2 Z Z (.one Z)),Y⟩)) (.nil (b5 (.J ?_))))))))))
    obtain⟨xr72,hr72,h⟩:=bind_some h
    refine AWP.rangeB [(5,none),(8,none),(9,none),(10,none),(11,none),(12,none),(13,none)] Z Z Z (fun as72 bo72 hA72 hB72=>⟨[(oE 4 (tF Facts Init Goal Operators)),(oE 4 (tF Facts6 Init7 Goal8 Operators9)),(o1 (.fn 25 [])),(o1 (.imm (.val nL))),(o1 (bool false)),(o1 (bool false)),(oV 3 d8 c63),(o1 (.own 6 0 c63.length)),(oW Value.string vI c64),(o1 (.map 8)),(o1 (int c65)),(oE 4 (tF Facts Init Goal Operators)),(o1 (row 1 f7 a66.node)),.one (k7 92 [70,71] as72 bo72 .ready none [(5,none),(8,none),(9,none),(10,none),(11,none),(12,none),(13,none)] [.ptr 2 0 0,.ptr 3 0 0,.ptr 4 0 0,.ptr 5 0 0,.ptr 7 0 0,.ptr 9 0 0,.ptr 10 0 0])],fun tt ss=>(∃v:(List (ByteArray×Int))×(List d9),xr72=.inl v∧tt=.tup []∧ss=[(oE 4 (tF Facts Init Goal Operators)),(oE 4 (tF Facts6 Init7 Goal8 Operators9)),(o1 (.fn 25 [])),(o1 (.imm (.val nL))),(o1 (bool false)),(o1 (bool false)),.dead,(o1 (.own 14 0 v.2.length)),(oW Value.string vI v.1),(o1 (.map 8)),(o1 (int c65)),(oE 4 (tF Facts Init Goal Operators)),(o1 (row 1 f7 a66.node)),.one (k7 92 [70,71] as72 bo72 .ready none [(5,none),(8,none),(9,none),(10,none),(11,none),(12,none),(13,none)] [.ptr 2 0 0,.ptr 3 0 0,.ptr 4 0 0,.ptr 5 0 0,.ptr 7 0 0,.ptr 9 0 0,.ptr 10 0 0]),(oV 3 d8 v.2)])∨(∃v:(List (ByteArray×Int))×(List d9),xr72=.inr v∧tt=.tup []∧ss=[(oE 4 (tF Facts Init Goal Operators)),(oE 4 (tF Facts6 Init7 Goal8 Operators9)),(o1 (.fn 25 [])),(o1 (.imm (.val nL))),(o1 (bool false)),(o1 (bool false)),.dead,(o1 (.own 14 0 v.2.length)),(oW Value.string vI v.1),(o1 (.map 8)),(o1 (int c65)),(oE 4 (tF Facts Init Goal Operators)),(o1 (row 1 f7 a66.node)),.one (k7 92 [70,71] as72 bo72 .done (some .ret) [(5,none),(8,none),(9,none),(10,none),(11,none),(12,none),(13,none)] [.ptr 2 0 0,.ptr 3 0 0,.ptr 4 0 0,.ptr 5 0 0,.ptr 7 0 0,.ptr 9 0 0,.ptr 10 0 0]),(oV 3 d8 v.2)]),Z,?_,?_⟩)
    ·clear h
     refine FnOk.enter (rs:=[]) func63 Z ntmps63 results63 Z Y (by kernel_rfl) Z ?_
     refine AWP.weak ?_
     unfold G7 at hr72
     try dsimp only at hr72
     refine AWP.j (env':=[(0,.c (.yld 13)),(1,(cP 11 0 0)),(2,(cP 12 0 0))]) (σ':=[(oE 4 (tF Facts Init Goal Operators)),(oE 4 (tF Facts6 Init7 Goal8 Operators9)),(o1 (.fn 25 [])),(o1 (.imm (.val nL))),(o1 (bool false)),(o1 (bool false)),.dead,(o1 (.own 14 0 c63.length)),(oW Value.string vI c64),(o1 (.map 8)),(o1 (int c65)),(oE 4 (tF Facts Init Goal Operators)),(o1 (row 1 f7 a66.node)),.one (k7 92 [70,71] as72 bo72 .ready none [(5,none),(8,none),(9,none),(10,none),(11,none),(12,none),(13,none)] [.ptr 2 0 0,.ptr 3 0 0,.ptr 4 0 0,.ptr 5 0 0,.ptr 7 0 0,.ptr 9 0 0,.ptr 10 0 0]),(oV 3 d8 c63)]) 14 6 Z Z Z ⟨Z,Z,Z,Y⟩ Z ⟨⟨Z,Z⟩,⟨Z,Z⟩,⟨Z,Z⟩,⟨Z,Z⟩,⟨Z,Z⟩,⟨Z,Z⟩,Y,⟨Z,Z⟩,⟨Z,Z⟩,⟨Z,Z⟩,⟨Z,Z⟩,⟨Z,Z⟩,⟨Z,Z⟩,⟨Z,Z⟩,⟨Blk.im_ok _ _ _,g9 Z⟩,Y⟩ (.q (.u (W.fieldAddr Z Z Z Z (.E Z Z Z Z Z Z (S.len Z Z (fun hl8=>.j Z Z (.nil (b5 (.J ?_)))))))))
     obtain⟨oo,ho3,hr72⟩:=bind_some hr72
     refine AWP.rngS ho3 (fun t79 (c77,c78)=>⟨[(0,.c (.yld 13)),(1,(cP 11 0 0)),(2,(cP 12 0 0)),(7,.c (row 4 k6 Operators)),(8,(cI (Operators.length:Int))),(9,(cI t79))],[(oE 4 (tF Facts Init Goal Operators)),(oE 4 (tF Facts6 Init7 Goal8 Operators9)),(o1 (.fn 25 [])),(o1 (.imm (.val nL))),(o1 (bool false)),(o1 (bool false)),.dead,(o1 (.own 14 0 c78.length)),(oW Value.string vI c77),(o1 (.map 8)),(o1 (int c65)),(oE 4 (tF Facts Init Goal Operators)),(o1 (row 1 f7 a66.node)),.one (k7 92 [70,71] as72 bo72 .ready none [(5,none),(8,none),(9,none),(10,none),(11,none),(12,none),(13,none)] [.ptr 2 0 0,.ptr 3 0 0,.ptr 4 0 0,.ptr 5 0 0,.ptr 7 0 0,.ptr 9 0 0,.ptr 10 0 0]),(oV 3 d8 c78)]⟩) (fun o e st=>match o with| .inl (c77,c78)=>e=.exit 0∧Sub ([(oE 4 (tF Facts Init Goal Operators)),(oE 4 (tF Facts6 Init7 Goal8 Operators9)),(o1 (.fn 25 [])),(o1 (.imm (.val nL))),(o1 (bool false)),(o1 (bool false)),(oV 3 d8 c63),(o1 (.own 6 0 c63.length)),(oW Value.string vI c64),(o1 (.map 8)),(o1 (int c65)),(oE 4 (tF Facts Init Goal Operators)),(o1 (row 1 f7 a66.node)),.one (k7 92 [70,71] as72 bo72 .ready none [(5,none),(8,none),(9,none),(10,none),(11,none),(12,none),(13,none)] [.ptr 2 0 0,.ptr 3 0 0,.ptr 4 0 0,.ptr 5 0 0,.ptr 7 0 0,.ptr 9 0 0,.ptr 10 0 0])]:b6) st ⟨[],[(oE 4 (tF Facts Init Goal Operators)),(oE 4 (tF Facts6 Init7 Goal8 Operators9)),(o1 (.fn 25 [])),(o1 (.imm (.val nL))),(o1 (bool false)),(o1 (bool false)),.dead,(o1 (.own 14 0 c78.length)),(oW Value.string vI c77),(o1 (.map 8)),(o1 (int c65)),(oE 4 (tF Facts Init Goal Operators)),(o1 (row 1 f7 a66.node)),.one (k7 92 [70,71] as72 bo72 .ready none [(5,none),(8,none),(9,none),(10,none),(11,none),(12,none),(13,none)] [.ptr 2 0 0,.ptr 3 0 0,.ptr 4 0 0,.ptr 5 0 0,.ptr 7 0 0,.ptr 9 0 0,.ptr 10 0 0]),(oV 3 d8 c78)]⟩| .inr x=>e=.ret∧∃J,Sub ([(oE 4 (tF Facts Init Goal Operators)),(oE 4 (tF Facts6 Init7 Goal8 Operators9)),(o1 (.fn 25 [])),(o1 (.imm (.val nL))),(o1 (bool false)),(o1 (bool false)),(oV 3 d8 c63),(o1 (.own 6 0 c63.length)),(oW Value.string vI c64),(o1 (.map 8)),(o1 (int c65)),(oE 4 (tF Facts Init Goal Operators)),(o1 (row 1 f7 a66.node)),.one (k7 92 [70,71] as72 bo72 .ready none [(5,none),(8,none),(9,none),(10,none),(11,none),(12,none),(13,none)] [.ptr 2 0 0,.ptr 3 0 0,.ptr 4 0 0,.ptr 5 0 0,.ptr 7 0 0,.ptr 9 0 0,.ptr 10 0 0])]:b6) st J∧Done [] (fun tt ss=>(∃v:(List (ByteArray×Int))×(List d9),x=.inl v∧tt=.tup []∧ss=[(oE 4 (tF Facts Init Goal Operators)),(oE 4 (tF Facts6 Init7 Goal8 Operators9)),(o1 (.fn 25 [])),(o1 (.imm (.val nL))),(o1 (bool false)),(o1 (bool false)),.dead,(o1 (.own 14 0 v.2.length)),(oW Value.string vI v.1),(o1 (.map 8)),(o1 (int c65)),(oE 4 (tF Facts Init Goal Operators)),(o1 (row 1 f7 a66.node)),.one (k7 92 [70,71] as72 bo72 .ready none [(5,none),(8,none),(9,none),(10,none),(11,none),(12,none),(13,none)] [.ptr 2 0 0,.ptr 3 0 0,.ptr 4 0 0,.ptr 5 0 0,.ptr 7 0 0,.ptr 9 0 0,.ptr 10 0 0]),(oV 3 d8 v.2)])∨(∃v:(List (ByteArray×Int))×(List d9),x=.inr v∧tt=.tup []∧ss=[(oE 4 (tF Facts Init Goal Operators)),(oE 4 (tF Facts6 Init7 Goal8 Operators9)),(o1 (.fn 25 [])),(o1 (.imm (.val nL))),(o1 (bool false)),(o1 (bool false)),.dead,(o1 (.own 14 0 v.2.length)),(oW Value.string vI v.1),(o1 (.map 8)),(o1 (int c65)),(oE 4 (tF Facts Init Goal Operators)),(o1 (row 1 f7 a66.node)),.one (k7 92 [70,71] as72 bo72 .done (some .ret) [(5,none),(8,none),(9,none),(10,none),(11,none),(12,none),(13,none)] [.ptr 2 0 0,.ptr 3 0 0,.ptr 4 0 0,.ptr 5 0 0,.ptr 7 0 0,.ptr 9 0 0,.ptr 10 0 0]),(oV 3 d8 v.2)])) .ret J) ?_ ?_ ?_ ?_
     ·try dsimp only
      exact Sub.env ⟨Z,Z,Z,Z,Z,Z,Y⟩
     ·intro t79 s hlot79 hltt79 _
      obtain⟨c77,c78⟩:=s
      try dsimp only
      refine AWP.q (.u (.F Z Z Z (.nil (b5 (.q (.ae Z hltt79 (.exit (d7 (d7 ⟨Z,?_⟩)))))))))
      exact Sub.env Y
     ·intro t79 s o hlot79 hltt79 h
      obtain⟨c77,c78⟩:=s
      unfold y8 at h
      try dsimp only at h ⊢
      refine AWP.q (.u (.F Z Z Z (.nil (b5 (.q (.af Z hltt79 (.skip (b5 (.q (.J (.q ?_)))))))))))
      obtain⟨ai12,hai12,h⟩:=bind_some h
      refine AWP.u (.j Z Z (S.idx hai12 Z Z Z Z (W.loadIAgg Z Z Z Z Z (W.alloc Z Z Z Z (.v Z Z (W.storeAgg Z Z Z Z Z Z Z (.nil (b5 (.q ?_)))))))))
      obtain⟨ai17,hai17,h⟩:=bind_some h
      rcases bft (ai17) with hb80|hb80
      ·replace h:=S7 hb80 h
       obtain⟨ai24,hai24,h⟩:=bind_some h
       refine AWP.u (.E Z Z Z Z Z Z (W.fieldAddr Z Z Z Z (.E Z Z Z Z Z Z (.O Z Z Z Z (T5 hai17) Z (.j Z Z (.z Z Z Z hb80 (.j Z Z (.z Z Z Z hb80 (.j Z Z (.z Z Z Z hb80 (W.loadAgg Z Z Z Z Z Z Z (.z Z Z Z hb80 (.E Z Z Z Z Z Z (.z Z Z Z hb80 (.j Z Z (.z Z Z Z hb80 (S.fresh Z Z Z Z (ap9 hai24) Z Z (.frzV (id:=16) (l:=ai24) (env2:=[(0,.c (.yld 13)),(1,(cP 11 0 0)),(2,(cP 12 0 0)),(7,.c (row 4 k6 Operators)),(8,(cI (Operators.length:Int))),(9,(cI t79)),(18,(cB ai17)),(19,.c (.yld 13)),(20,(cI t79)),(24,.c (row 1 f7 ai24))]) (σ2:=[(oE 4 (tF Facts Init Goal Operators)),(oE 4 (tF Facts6 Init7 Goal8 Operators9)),(o1 (.fn 25 [])),(o1 (.imm (.val nL))),(o1 (bool false)),(o1 (bool false)),.dead,(o1 (.own 14 0 c78.length)),(oW Value.string vI c77),(o1 (.map 8)),(o1 (int c65)),(oE 4 (tF Facts Init Goal Operators)),(o1 (row 1 f7 a66.node)),.one (k7 92 [70,71] as72 bo72 .ready none [(5,none),(8,none),(9,none),(10,none),(11,none),(12,none),(13,none)] [.ptr 2 0 0,.ptr 3 0 0,.ptr 4 0 0,.ptr 5 0 0,.ptr 7 0 0,.ptr 9 0 0,.ptr 10 0 0]),(oV 3 d8 c78),(oE 4 [row 1 intI ai12.pre,row 1 intI ai12.add,row 1 intI ai12.del,int ai12.cost]),.dead]) Z Z (by exact⟨⟨_,Z,.inl ⟨Z,Z⟩⟩,⟨_,Z,.inl ⟨Z,Z⟩⟩,⟨_,Z,.inl ⟨Z,Z⟩⟩,⟨_,Z,.inl ⟨Z,Z⟩⟩,⟨_,Z,.inl ⟨Z,Z⟩⟩,⟨_,Z,.inl ⟨Z,Z⟩⟩,⟨_,Z,.inl ⟨Z,Z⟩⟩,⟨_,Z,.inl ⟨Z,Z⟩⟩,⟨_,Z,.inl ⟨Z,Z⟩⟩,⟨_,Z,.inr ⟨_,Z,Z,Z⟩⟩,Y⟩) Z (by exact⟨⟨Z,.inl ⟨Z,Z⟩,.inl ⟨Z,Z⟩,.inl ⟨Z,Z⟩,.inl ⟨Z,Z⟩,Y⟩,⟨Z,.inl ⟨Z,Z⟩,.inl ⟨Z,Z⟩,.inl ⟨Z,Z⟩,.inl ⟨Z,Z⟩,Y⟩,⟨Z,.inl ⟨Z,Z⟩,Y⟩,⟨Z,.inl ⟨Z,Z⟩,Y⟩,⟨Z,.inl ⟨Z,Z⟩,Y⟩,⟨Z,.inl ⟨Z,Z⟩,Y⟩,Y,⟨Z,.inl ⟨Z,Z⟩,Y⟩,⟨Z,Z⟩,⟨Z,.inl ⟨Z,Z⟩,Y⟩,⟨Z,.inl ⟨Z,Z⟩,Y⟩,⟨Z,.inl ⟨Z,Z⟩,.inl ⟨Z,Z⟩,.inl ⟨Z,Z⟩,.inl ⟨Z,Z⟩,Y⟩,⟨Z,.inl ⟨Z,Z⟩,Y⟩,⟨Z,Z⟩,FrzB.vec,⟨Z,.inl ⟨Z,Z⟩,.inl ⟨Z,Z⟩,.inl ⟨Z,Z⟩,.inl ⟨Z,Z⟩,Y⟩,Y,Y⟩) ?_))))))))))))))))))
       refine AOps.z Z Z Z hb80 ?_;refine AOps.yieldB (E1:=[(17,.c (row 1 f7 ai24)),(16,(cI t79)),(71,.c (row 1 f7 ai24)),(70,(cI t79)),(5,(cP 2 0 0)),(8,(cP 3 0 0)),(9,(cP 4 0 0)),(10,(cP 5 0 0)),(11,(cP 7 0 0)),(12,(cP 9 0 0)),(13,(cP 10 0 0))]) (σ1:=[(oE 4 (tF Facts Init Goal Operators)),(oE 4 (tF Facts6 Init7 Goal8 Operators9)),(o1 (.fn 25 [])),(o1 (.imm (.val nL))),(o1 (bool false)),(o1 (bool false)),.dead,(o1 (.own 14 0 c78.length)),(oW Value.string vI c77),(o1 (.map 8)),(o1 (int c65)),(oE 4 (tF Facts Init Goal Operators)),(o1 (row 1 f7 a66.node)),.one (k7 92 [70,71] as72 bo72 .ready none [(5,none),(8,none),(9,none),(10,none),(11,none),(12,none),(13,none)] [.ptr 2 0 0,.ptr 3 0 0,.ptr 4 0 0,.ptr 5 0 0,.ptr 7 0 0,.ptr 9 0 0,.ptr 10 0 0]),(oV 3 d8 c78),(oE 4 [row 1 intI ai12.pre,row 1 intI ai12.add,row 1 intI ai12.del,int ai12.cost]),.dead]) hA72 hB72 Z Z Z Z Z Z Z Z Z Z ?_ ?_
       ·refine AWP.q (.u (.v Z Z (.nil (b5 (.u (.v Z Z (.nil ?_)))))))
        exact⟨Z,Z⟩
       refine AWP.sub (s':=⟨[(5,(cP 2 0 0)),(8,(cP 3 0 0)),(9,(cP 4 0 0)),(10,(cP 5 0 0)),(11,(cP 7 0 0)),(12,(cP 9 0 0)),(13,(cP 10 0 0)),(16,(cI t79)),(17,.c (row 1 f7 ai24))],[(oE 4 (tF Facts Init Goal Operators)),(oE 4 (tF Facts6 Init7 Goal8 Operators9)),(o1 (.fn 25 [])),(o1 (.imm (.val nL))),(o1 (bool false)),(o1 (bool false)),.dead,(o1 (.own 14 0 c78.length)),(oW Value.string vI c77),(o1 (.map 8)),(o1 (int c65)),(oE 4 (tF Facts Init Goal Operators)),(o1 (row 1 f7 a66.node)),.one (k7 92 [70,71] as72 bo72 .busy none [(5,none),(8,none),(9,none),(10,none),(11,none),(12,none),(13,none)] [.ptr 2 0 0,.ptr 3 0 0,.ptr 4 0 0,.ptr 5 0 0,.ptr 7 0 0,.ptr 9 0 0,.ptr 10 0 0]),(oV 3 d8 c78),(oE 4 [row 1 intI ai12.pre,row 1 intI ai12.add,row 1 intI ai12.del,int ai12.cost]),.dead]⟩) (Sub.env ⟨Z,Z,Z,Z,Z,Z,Z,Z,Z,Y⟩) (.J (.q ?_))
       obtain⟨ab74,hab74,h⟩:=bind_some h
       refine AWP.u (.E Z Z Z Z Z Z (.j Z Z (.O Z Z Z Z (ac3 hab74) Z (.v Z Z (.nil (b5 (.q (.q (.u (.E Z Z Z Z Z Z (.j Z Z (W.lookup (fk:=Value.string) (fv:=vI) (k:=ab74) (z:=0) keyStr Z (fun _=>Z) Z Z Z Z ?_))))))))))))
       refine AOps.gtr Z Z Z (.nil (b5 (.ite Z h (fun hc81 h=> ?_) (fun hc81 h=> ?_))))
       ·refine AWP.exit (d7 (i6 (O2 Z Z (.z Z Z Z hb80 (.not Z Z (.U Z hb80 Z Z (.nil (b5 (.condF Z (.skip (d6 (b5 (.u (.add Z Z Z (by omega) (.j Z Z (.nil ?_))))))))))))))))
        obtain rfl:=oi h
        refine b5 ⟨_,Z,?_⟩
        exact Sub.cut ⟨Z,Z,Z,Z,Z,Z,Y⟩ Z ⟨.one Z,.one Z,.one Z,.one Z,.one Z,.one Z,.dead,.one Z,.one Z,.one Z,.one Z,.one Z,.one Z,.one Z,.vec,Y⟩ Z
       ·refine AWP.skip (b5 (.q (.q (.u (.E Z Z Z Z Z Z (S.lenO Z Z Z (fun hl80=>.ad Z Z Z (.nil (b5 (.ite Z h (fun hc82 h=> ?_) (fun hc82 h=> ?_)))))))))))
        ·refine AWP.q (.u (W.store Z Z Z Z Z (W.store Z Z Z Z Z (W.store Z Z Z Z Z (.nil (b5 (.ret (e6 (j5 (yPost_ret Z Z (.z Z Z Z hb80 (.not Z Z (.U Z hb80 Z Z (.nil (b5 (.condT Z (.ret (j5 (e6 ?_)))))))))))))))))))
         obtain rfl:=oi h
         refine e6 ⟨_,Z,Z,?_⟩
         exact⟨⟨[],[(oE 4 (tF Facts Init Goal Operators)),(oE 4 (tF Facts6 Init7 Goal8 Operators9)),(o1 (.fn 25 [])),(o1 (.imm (.val nL))),(o1 (bool false)),(o1 (bool false)),.dead,(o1 (.own 14 0 c78.length)),(oW Value.string vI c77),(o1 (.map 8)),(o1 (int c65)),(oE 4 (tF Facts Init Goal Operators)),(o1 (row 1 f7 a66.node)),.one (k7 92 [70,71] as72 bo72 .done (some .ret) [(5,none),(8,none),(9,none),(10,none),(11,none),(12,none),(13,none)] [.ptr 2 0 0,.ptr 3 0 0,.ptr 4 0 0,.ptr 5 0 0,.ptr 7 0 0,.ptr 9 0 0,.ptr 10 0 0]),(oV 3 d8 c78)]⟩,Sub.cut Y Z ⟨.one Z,.one Z,.one Z,.one Z,.one Z,.one Z,.dead,.one Z,.one Z,.one Z,.one Z,.one Z,.one Z,.one Z,.vec,Y⟩ Z,Done.ret Z (.inr ⟨_,Z,Z,Z⟩)⟩
        ·refine AWP.skip (b5 (.q (.u (.E Z Z Z Z Z Z (.j Z Z (W.mapUpdate (fk:=Value.string) (fv:=vI) (k:=ab74) (a:=1) keyStr Z Z Z Z Z (.nil (b5 ?_))))))))
         obtain⟨ab90,hab90,h⟩:=bind_some h
         refine AWP.u (.E Z Z Z Z Z Z (.j Z Z (.E Z Z Z Z Z Z (.j Z Z (W.build Z Z Z Z (S.lit (f:=d8) (l:=[(⟨ai24,c65,t79⟩:d9)]) (ess:=[[row 1 f7 ai24,int c65,int t79]]) Z Z Z Z Z Z Z ⟨⟨.inl Z,.inl Z,.inl Z,Y⟩,Y⟩ Z Z Z (S.append (f:=d8) hab90 Z Z Z Z Z Z (.own Z Z) Z Z Z Z (W.store Z Z Z Z Z (.nil (d6 (O2 Z Z (.z Z Z Z hb80 (.not Z Z (.U Z hb80 Z Z (.nil (b5 (.j (env':=[(0,.c (.yld 13)),(1,(cP 11 0 0)),(2,(cP 12 0 0)),(7,.c (row 4 k6 Operators)),(8,(cI (Operators.length:Int))),(9,(cI t79)),(27,(cB false))]) (σ':=[(oE 4 (tF Facts Init Goal Operators)),(oE 4 (tF Facts6 Init7 Goal8 Operators9)),(o1 (.fn 25 [])),(o1 (.imm (.val nL))),(o1 (bool false)),(o1 (bool false)),.dead,(o1 (.own 14 0 ab90.length)),(oW Value.string vI (mset c77 ab74 1)),(o1 (.map 8)),(o1 (int c65)),(oE 4 (tF Facts Init Goal Operators)),(o1 (row 1 f7 a66.node)),.one (k7 92 [70,71] as72 bo72 .ready none [(5,none),(8,none),(9,none),(10,none),(11,none),(12,none),(13,none)] [.ptr 2 0 0,.ptr 3 0 0,.ptr 4 0 0,.ptr 5 0 0,.ptr 7 0 0,.ptr 9 0 0,.ptr 10 0 0]),(oV 3 d8 ab90),(oE 4 [row 1 intI ai12.pre,row 1 intI ai12.add,row 1 intI ai12.del,int ai12.cost]),.dead,(oV 3 d8 [(⟨ai24,c65,t79⟩:d9)])]) 14 18 Z Z Z ⟨Z,Z,Z,Z,Z,Z,Z,Y⟩ Z ⟨⟨Z,Z⟩,⟨Z,Z⟩,⟨Z,Z⟩,⟨Z,Z⟩,⟨Z,Z⟩,⟨Z,Z⟩,Y,⟨Z,Z⟩,⟨Z,Z⟩,⟨Z,Z⟩,⟨Z,Z⟩,⟨Z,Z⟩,⟨Z,Z⟩,⟨Z,Z⟩,⟨Blk.im_ok _ _ _,g9 Z⟩,⟨Z,Z⟩,Y,⟨Blk.im_ok _ _ _,g9 Z⟩,Y⟩ (.condF Z (.skip (d6 (b5 (.u (.add Z Z Z (by omega) (.j Z Z (.nil ?_)))))))))))))))))))))))))
         obtain rfl:=oi h
         refine b5 ⟨_,Z,?_⟩
         exact Sub.cut ⟨Z,Z,Z,Z,Z,Z,Y⟩ Z ⟨.one Z,.one Z,.one Z,.one Z,.one Z,.one Z,.dead,.one Z,.one Z,.one Z,.one Z,.one Z,.one Z,.one Z,.vec,Y⟩ Z
      ·replace h:=S6 hb80 h
       refine AWP.u (.E Z Z Z Z Z Z (W.fieldAddr Z Z Z Z (.E Z Z Z Z Z Z (.O Z Z Z Z (T5 hai17) Z (.j Z Z (.B Z Z Z hb80 (.B Z Z Z hb80 (.B Z Z Z hb80 (.B Z Z Z hb80 (.B Z Z Z hb80 (.B Z Z Z hb80 (.B Z Z Z hb80 (.B Z Z Z hb80 (.aa Z hb80 Z Z (.nil (b5 (.condF Z (.skip (d6 (b5 (.u (.add Z Z Z (by omega) (.j Z Z (.nil ?_))))))))))))))))))))))))
       obtain rfl:=oi h
       refine b5 ⟨_,Z,?_⟩
       exact Sub.cut ⟨Z,Z,Z,Z,Z,Z,Y⟩ Z ⟨.one Z,.one Z,.one Z,.one Z,.one Z,.one Z,.dead,.one Z,.one Z,.one Z,.one Z,.one Z,.one Z,.one Z,.vec,Y⟩ Z
     ·intro e s hq
      rcases oo with⟨c77,c78⟩|x
      ·try dsimp only at hr72 hq
       obtain⟨rfl,hs⟩:=hq
       refine⟨_,hs,?_⟩
       refine i6 ?_
       obtain rfl:=oi hr72
       exact⟨⟨[],[(oE 4 (tF Facts Init Goal Operators)),(oE 4 (tF Facts6 Init7 Goal8 Operators9)),(o1 (.fn 25 [])),(o1 (.imm (.val nL))),(o1 (bool false)),(o1 (bool false)),.dead,(o1 (.own 14 0 c78.length)),(oW Value.string vI c77),(o1 (.map 8)),(o1 (int c65)),(oE 4 (tF Facts Init Goal Operators)),(o1 (row 1 f7 a66.node)),.one (k7 92 [70,71] as72 bo72 .ready none [(5,none),(8,none),(9,none),(10,none),(11,none),(12,none),(13,none)] [.ptr 2 0 0,.ptr 3 0 0,.ptr 4 0 0,.ptr 5 0 0,.ptr 7 0 0,.ptr 9 0 0,.ptr 10 0 0]),(oV 3 d8 c78)]⟩,Sub.env Y,Done.normal Z (.inl ⟨_,Z,Z,Z⟩)⟩
      ·try dsimp only at hr72 hq
       obtain⟨rfl,hs⟩:=hq
       refine⟨_,Sub.refl _ _,?_⟩
       refine j5 ?_
       obtain rfl:=oi hr72
       exact hs
    ·rintro tt ss (⟨⟨c73,c74⟩,rfl,rfl,rfl⟩|⟨⟨c75,c76⟩,rfl,rfl,rfl⟩)
     ·try dsimp only at h ⊢
      refine ah2 Z Z (d6 (d6 (b5 (.q (.q (.u (.E Z Z Z Z Z Z (.nil (b5 (.u (W.alloc Z Z Z Z (W.store Z Z Z Z Z (.nil (b5 (.u (.E Z Z Z Z Z Z (S.add Z Z Z (W.store Z Z Z Z Z (.nil ?_)))))))))))))))))))
      obtain rfl:=oi h
      refine b5 ⟨_,Z,?_⟩
      exact(Sub.move (env':=[(2,.c (.fn 42 [.ptr 0 0 0])),(3,.c (.fn 27 [.ptr 1 0 0])),(5,(cP 2 0 0)),(8,(cP 3 0 0)),(9,(cP 4 0 0)),(10,(cP 5 0 0)),(11,(cP 7 0 0)),(12,(cP 9 0 0)),(13,(cP 10 0 0))]) (σ':=[(oE 4 (tF Facts Init Goal Operators)),(oE 4 (tF Facts6 Init7 Goal8 Operators9)),(o1 (.fn 25 [])),(o1 (.imm (.val nL))),(o1 (bool false)),(o1 (bool false)),.dead,(o1 (.own 14 0 c74.length)),(oW Value.string vI c73),(o1 (.map 8)),(o1 (int (w64 (c65+1)))),(oE 4 (tF Facts Init Goal Operators)),(o1 (row 1 f7 a66.node)),.dead,(oV 3 d8 c74)]) 10 15 Z Z Z ⟨Z,Z,Z,Z,Z,Z,Z,Z,Z,Y⟩ Z ⟨⟨Z,Z⟩,⟨Z,Z⟩,⟨Z,Z⟩,⟨Z,Z⟩,⟨Z,Z⟩,⟨Z,Z⟩,Y,⟨Z,Z⟩,⟨Z,Z⟩,⟨Z,Z⟩,⟨Z,Z⟩,⟨Z,Z⟩,⟨Z,Z⟩,Y,⟨Blk.im_ok _ _ _,g9 Z⟩,Y⟩).trans ((Sub.move (env':=[(2,.c (.fn 42 [.ptr 0 0 0])),(3,.c (.fn 27 [.ptr 1 0 0])),(5,(cP 2 0 0)),(8,(cP 3 0 0)),(9,(cP 4 0 0)),(10,(cP 5 0 0)),(11,(cP 7 0 0)),(12,(cP 9 0 0)),(13,(cP 10 0 0))]) (σ':=[(oE 4 (tF Facts Init Goal Operators)),(oE 4 (tF Facts6 Init7 Goal8 Operators9)),(o1 (.fn 25 [])),(o1 (.imm (.val nL))),(o1 (bool false)),(o1 (bool false)),(oV 3 d8 c74),(o1 (.own 6 0 c74.length)),(oW Value.string vI c73),(o1 (.map 8)),(o1 (int (w64 (c65+1)))),(oE 4 (tF Facts Init Goal Operators)),(o1 (row 1 f7 a66.node)),.dead]) 6 14 Z Z Z ⟨Z,Z,Z,Z,Z,Z,Z,Z,Z,Y⟩ Z ⟨⟨Z,Z⟩,⟨Z,Z⟩,⟨Z,Z⟩,⟨Z,Z⟩,⟨Z,Z⟩,⟨Z,Z⟩,⟨Blk.im_ok _ _ _,g9 Z⟩,⟨Z,Z⟩,⟨Z,Z⟩,⟨Z,Z⟩,⟨Z,Z⟩,⟨Z,Z⟩,⟨Z,Z⟩,Y,Y⟩).trans (Sub.cut ⟨Z,Z,Z,Z,Z,Z,Z,Z,Z,Y⟩ Z ⟨.one Z,.one Z,.one Z,.one Z,.one Z,.one Z,.vec,.one Z,.one Z,.one Z,.one Z,Y⟩ Z))
     ·try dsimp only at h ⊢
      refine rPost_jump Z Z (.nilB (b:=3) [row 1 intI []] Z (by exact⟨.inr ⟨Z,_,Z⟩,Y⟩) Z Z (.ret (j5 (j5 (e6 ?_)))))
      obtain rfl:=oi h
      refine e6 ⟨_,Z,Z,?_⟩
      exact⟨⟨[(8,(cP 3 0 0)),(9,(cP 4 0 0)),(10,(cP 5 0 0))],[(oE 4 (tF Facts Init Goal Operators)),(oE 4 (tF Facts6 Init7 Goal8 Operators9)),.dead,(o1 (row 1 intI [])),(o1 (bool false)),(o1 (bool false))]⟩,Sub.cut ⟨Z,Z,Z,Y⟩ Z ⟨.one Z,.one Z,.dead,.one Z,.one Z,.one Z,Y⟩ Z,Done.ret Z ⟨Z,Z⟩⟩
  ·refine AWP.exit (d7 ?_)
   obtain rfl:=oi h
   refine d7 ⟨_,Z,Z,?_⟩
   exact Sub.cut ⟨Z,Z,Z,Y⟩ Z ⟨.one Z,.one Z,.dead,.one Z,.one Z,.one Z,Y⟩ Z
 ·intro e s hq
  rcases oo with u|x
  ·try dsimp only at h hq
   obtain⟨rfl,hs⟩:=hq
   refine⟨_,hs,?_⟩
   refine i6 (b5 (.q (.u (W.store Z Z Z Z Z (W.store Z Z Z Z Z (W.store Z Z Z Z Z (.nil (b5 (.nilB (b:=3) [row 1 intI []] Z (by exact⟨.inr ⟨Z,_,Z⟩,Y⟩) Z Z (.ret ?_))))))))))
   obtain rfl:=oi h
   exact⟨⟨[(8,(cP 3 0 0)),(9,(cP 4 0 0)),(10,(cP 5 0 0))],[(oE 4 (tF Facts Init Goal Operators)),(oE 4 (tF Facts6 Init7 Goal8 Operators9)),.dead,(o1 (row 1 intI [])),(o1 (bool false)),(o1 (bool true))]⟩,Sub.env ⟨Z,Z,Z,Y⟩,Done.ret Z ⟨Z,Z⟩⟩
  ·try dsimp only at h hq
   obtain⟨rfl,hs⟩:=hq
   refine⟨_,Sub.refl _ _,?_⟩
   refine j5 (e6 ?_)
   obtain rfl:=oi h
   exact hs
theorem belief_Plan_ok{t:e7}{unknown:Li}{r:Li×Bool×g8}(h:ab2 t unknown=some r):e9 prog 11 [.agg (tT t),(cR unknown)] (.tup [(cR r.1),(cB r.2.1),.agg [int r.2.2.code,int r.2.2.index]]):=by
 unfold e9
 refine FnOk.enter (rs:=[.t 4,.t 5,.cell 6 28 2]) func11 Z ntmps11 results11 Z ⟨Y,Y,rv _ Z,Y⟩ (by kernel_rfl) Z ?_
 unfold ab2 at h
 refine AWP.q (.u (W.box Z Z Z Z Z Z (.v Z Z (.v Z Z (W.alloc Z Z Z Z (.nil (b5 (.q (.q ?_)))))))))
 obtain⟨a14,ha14,h⟩:=bind_some h
 refine AWP.u (W.loadAgg Z Z Z Z Z Z Z (.j Z Z (.O Z Z Z Z (aq7 ha14) Z (W.alloc Z Z Z Z (W.storeAgg Z Z Z Z Z Z Z (.nil (b5 (.q (.u (W.loadAgg Z Z Z Z Z Z Z (W.build Z Z Z Z (.neqP Z Z Z Z Z Z Z (.nil (b5 (.ac Z h (fun hc3 h=> ?_) (fun hc3 h=> ?_))))))))))))))))
 ·refine AWP.q (.drawEI [3] mixed Z Z Z ?_)
  refine d5.consN Z Z (fun E=>W.loadAgg Z Z Z Z Z Z Z .N) Z (.consN Z Z (fun E=>.v Z Z .N) Z (.consN Z Z (fun E=>.v Z Z .N) Z ?_))
  apply d5.consE (v:=.undef);exact Z;exact Z;intro E
  refine W.storeAgg Z Z Z Z Z Z Z .N
  exact Z
  exact Z
  refine d5.done Z ?_ ?_
  ·refine e8.cons Z Z (.go Z Z (fun E=>W.loadAgg Z Z Z Z Z Z Z .N) (.skip Z .nil)) (.cons Z Z (.go Z Z (fun E=>.v Z Z .N) (.skip Z .nil)) (.cons Z Z (.go Z Z (fun E=>.v Z Z .N) (.skip Z .nil)) ?_))
   refine e8.skip Z (e8.nil)
  dsimp only[j6]
  refine b5 (.nilrow 1 4 Z (.ret (e6 ?_)))
  obtain rfl:=oi h
  exact Done.ret Z Z
 ·refine AWP.skip (b5 (.q ?_))
  obtain⟨a20,ha20,h⟩:=bind_some h
  refine AWP.u (W.loadAgg Z Z Z Z Z Z Z (.callF (r2:=.c (.fn 42 [.ptr 3 0 0])) (σ'':=[(oE 4 (tT t)),(oE 2 [int 0,int 0]),(oE 2 [int a14.code,int a14.index]),(oE 4 (tT t))]) Z Z Z (FnOk.lend [] (ay1 ha20) Z Z Z Z Z Z (by exact Y) Z (by exact Y) Z Z (by exact⟨(.old Z Z Z),(.old Z Z Z),(.old Z Z Z),(.new 0 Z Z (.one Z)),Y⟩)) (.v Z Z (.nil (b5 (.q (.q ?_)))))))
  obtain⟨a23,ha23,a25,ha25,h⟩:=b2 h
  refine AWP.u (W.loadAgg Z Z Z Z Z Z Z (.j Z Z (S.fresh Z Z Z Z (an6 ha23) Z Z (.j Z Z (.frzV (id:=4) (l:=a23) (env2:=[(1,(cR unknown)),(2,(cP 0 0 0)),(6,(cP 1 0 0)),(8,.c (.fn 42 [.ptr 3 0 0])),(23,.c (row 1 f7 a23)),(24,.c (.fn 42 [.ptr 3 0 0]))]) (σ2:=[(oE 4 (tT t)),(oE 2 [int 0,int 0]),(oE 2 [int a14.code,int a14.index]),(oE 4 (tT t)),.dead]) Z Z (by exact⟨⟨_,Z,.inl ⟨Z,Z⟩⟩,⟨_,Z,.inl ⟨Z,Z⟩⟩,⟨_,Z,.inl ⟨Z,Z⟩⟩,⟨_,Z,.inl ⟨Z,Z⟩⟩,⟨_,Z,.inr ⟨_,Z,Z,Z⟩⟩,⟨_,Z,.inl ⟨Z,Z⟩⟩,Y⟩) Z (by exact⟨⟨Z,.inl ⟨Z,Z⟩,.inl ⟨Z,Z⟩,.inl ⟨Z,Z⟩,.inl ⟨Z,Z⟩,Y⟩,⟨Z,.inl ⟨Z,Z⟩,.inl ⟨Z,Z⟩,Y⟩,⟨Z,.inl ⟨Z,Z⟩,.inl ⟨Z,Z⟩,Y⟩,⟨Z,.inl ⟨Z,Z⟩,.inl ⟨Z,Z⟩,.inl ⟨Z,Z⟩,.inl ⟨Z,Z⟩,Y⟩,Y,Y⟩) (.callF (r2:=(cB a25)) (σ'':=[(oE 4 (tT t)),(oE 2 [int 0,int 0]),(oE 2 [int a14.code,int a14.index]),(oE 4 (tT t)),.dead]) Z Z Z (FnOk.lend [3] (ar9 ha25) Z Z Z Z Z Z (by exact⟨(.one Z),Y⟩) Z (by exact⟨(.live Z (.one Z)),Y⟩) Z Z (by exact⟨(.old Z Z Z),(.old Z Z Z),(.old Z Z Z),(.new 0 Z Z (.one Z)),.dead,Y⟩)) (.not Z Z (.nil (b5 (.ac Z h (fun hc4 h=> ?_) (fun hc4 h=> ?_)))))))))))
  ·refine AWP.q (.u (W.build Z Z Z Z (.v Z Z (.v Z Z (W.storeAgg Z Z Z Z Z Z Z (.nil (b5 (.nilrow 1 4 Z (.ret (e6 ?_))))))))))
   obtain rfl:=oi h
   exact Done.ret Z Z
  ·refine AWP.skip (b5 (.q ?_))
   obtain⟨a31,ha31,a34,ha34,h⟩:=b2 h
   refine AWP.u (W.loadAgg Z Z Z Z Z Z Z (.j Z Z (S.fresh Z Z Z Z (an6 ha31) Z Z (.j Z Z (.makeFunc Z Z (.frzV (id:=5) (l:=a31) (env2:=[(6,(cP 1 0 0)),(31,.c (row 1 f7 a31)),(32,.c (.fn 42 [.ptr 3 0 0])),(33,.c (.fn 27 [.ptr 0 0 0]))]) (σ2:=[(oE 4 (tT t)),(oE 2 [int 0,int 0]),(oE 2 [int a14.code,int a14.index]),(oE 4 (tT t)),.dead,.dead]) Z Z (by exact⟨⟨_,Z,.inl ⟨Z,Z⟩⟩,⟨_,Z,.inr ⟨_,Z,Z,Z⟩⟩,⟨_,Z,.inl ⟨Z,Z⟩⟩,⟨_,Z,.inl ⟨Z,Z⟩⟩,Y⟩) Z (by exact⟨⟨Z,.inl ⟨Z,Z⟩,.inl ⟨Z,Z⟩,.inl ⟨Z,Z⟩,.inl ⟨Z,Z⟩,Y⟩,⟨Z,.inl ⟨Z,Z⟩,.inl ⟨Z,Z⟩,Y⟩,⟨Z,.inl ⟨Z,Z⟩,.inl ⟨Z,Z⟩,Y⟩,⟨Z,.inl ⟨Z,Z⟩,.inl ⟨Z,Z⟩,.inl ⟨Z,Z⟩,.inl ⟨Z,Z⟩,Y⟩,Y,Y,Y⟩) (.callF (r2:=.tup [(cR a34.1),(cB a34.2.1),(cB a34.2.2)]) (σ'':=[(oE 4 (tT t)),(oE 2 [int 0,int 0]),(oE 2 [int a14.code,int a14.index]),(oE 4 (tT t)),.dead,.dead,.dead,(o1 (row 1 intI a34.1)),(o1 (bool a34.2.1)),(o1 (bool a34.2.2))]) Z Z Z (FnOk.lend [3,0] (am6 ha34) Z Z Z Z Z Z (by exact⟨(.one Z),(.one Z),Y⟩) Z (by exact⟨(.live Z (.one Z)),(.live Z (.one Z)),Y⟩) Z Z (by exact⟨(.new 1 Z Z (.one Z)),(.old Z Z Z),(.old Z Z Z),(.new 0 Z Z (.one Z)),.dead,.dead,.dead,(.new 3 Z Z (.one Z)),(.new 4 Z Z (.one Z)),(.new 5 Z Z (.one Z)),Y⟩)) (.j Z Z (.ab Z Z Z (.ab Z Z Z (.ab Z Z Z (.v Z Z (.v Z Z (.v Z Z (.nil (b5 (.q (.q (.u (.j Z Z (S.len Z Z (fun hl39=>.gtr Z Z Z (.nil (b5 (.ite Z h (fun hc5 h=> ?_) (fun hc5 h=> ?_))))))))))))))))))))))))))
   ·refine AWP.q (.u (W.build Z Z Z Z (.v Z Z (.v Z Z (W.storeAgg Z Z Z Z Z Z Z (.nil (b5 (.nilrow 1 4 Z (.ret (e6 ?_))))))))))
    obtain rfl:=oi h
    exact Done.ret Z Z
   ·refine AWP.skip (b5 (.q (.u (.j Z Z (.j Z Z (W.build Z Z Z Z (.v Z Z (.v Z Z (W.storeAgg Z Z Z Z Z Z Z (.nil (b5 (.ret ?_))))))))))))
    obtain rfl:=oi h
    exact Done.ret Z Z
theorem aw9{t:e7}{op:Int}{r:g8}(h:I4 t op=some r):e9 prog 29 [.agg (tT t),(cI op)] (.agg [int r.code,int r.index]):=by
 unfold e9
 refine FnOk.enter (rs:=[.cell 4 28 2]) func29 Z ntmps29 results29 Z ⟨rv _ Z,Y⟩ (by kernel_rfl) Z ?_
 unfold I4 at h
 refine AWP.q (.u (W.box Z Z Z Z Z Z (W.alloc Z Z Z Z (.nil (b5 (.q (.q ?_)))))))
 obtain⟨a7,ha7,h⟩:=bind_some h
 refine AWP.u (W.loadAgg Z Z Z Z Z Z Z (.O Z Z Z Z (K0 ha7) Z (W.alloc Z Z Z Z (W.storeAgg Z Z Z Z Z Z Z (.nil (b5 (.q (.u (W.loadAgg Z Z Z Z Z Z Z (W.build Z Z Z Z (.neqP Z Z Z Z Z Z Z (.nil (b5 (.ac Z h (fun hc3 h=> ?_) (fun hc3 h=> ?_)))))))))))))))
 ·refine AWP.q (.u (W.loadAgg Z Z Z Z Z Z Z (W.storeAgg Z Z Z Z Z Z Z (.nil (b5 (.ret (e6 ?_)))))))
  obtain rfl:=oi h
  exact Done.ret Z Z
 ·refine AWP.skip (b5 (.q (.seqJ (⟨[(4,(cP 1 0 0)),(20,(cB ((decide (op<0))||(decide ((t.operators.length:Int)≤op)))))],[(oE 4 (tT t)),(oE 2 [int 0,int 0]),(oE 2 [int a7.code,int a7.index])]⟩) ?_ ?_)))
  ·rcases bft (decide (op<0)) with hb1|hb1
   ·refine AWP.u (.j Z Z (.F Z Z Z (.j Z Z (.B Z Z Z hb1 (.B Z Z Z hb1 (.B Z Z Z hb1 (.B Z Z Z hb1 (.B Z Z Z hb1 (.U Z hb1 Z Z (.nil (b5 ?_)))))))))))
    simp only[K3 hb1,or_t hb1,Bool.false_or,Bool.true_or,Bool.false_and,Bool.true_and]
    exact Sub.env ⟨Z,Z,Y⟩
   ·refine AWP.u (.j Z Z (.F Z Z Z (.j Z Z (.z Z Z Z hb1 (.j Z Z (.z Z Z Z hb1 (W.fieldAddr Z Z Z Z (.z Z Z Z hb1 (.E Z Z Z Z Z Z ?_)))))))))
    refine AOps.z Z Z Z hb1 ?_;refine S.len Z Z (fun hl18=> ?_)
    refine AOps.z Z Z Z hb1 (.geq Z Z Z (.aa Z hb1 Z Z (.nil (b5 ?_))))
    simp only[D6 hb1,or_f hb1,Bool.false_or,Bool.true_or,Bool.false_and,Bool.true_and]
    exact Sub.env ⟨Z,Z,Y⟩
  ·refine AWP.ac Z h (fun hc4 h=> ?_) (fun hc4 h=> ?_)
   ·refine AWP.q (.u (W.build Z Z Z Z (W.storeAgg Z Z Z Z Z Z Z (.nil (b5 (.ret (e6 ?_)))))))
    obtain rfl:=oi h
    exact Done.ret Z Z
   ·refine AWP.skip (b5 (.q (.u (W.build Z Z Z Z (W.storeAgg Z Z Z Z Z Z Z (.nil (b5 (.ret ?_))))))))
    obtain rfl:=oi h
    exact Done.ret Z Z
theorem ap4{t:e7}{op:Int}{r:g8}(h:H0 t op=some r):e9 prog 51 [.agg (tT t),(cI op)] (.agg [int r.code,int r.index]):=by
 unfold e9
 refine FnOk.enter (rs:=[.cell 4 28 2]) func51 Z ntmps51 results51 Z ⟨rv _ Z,Y⟩ (by kernel_rfl) Z ?_
 unfold H0 at h
 refine AWP.q (.u (W.box Z Z Z Z Z Z (W.alloc Z Z Z Z (.nil (b5 (.q (.q ?_)))))))
 obtain⟨a7,ha7,h⟩:=bind_some h
 refine AWP.u (W.loadAgg Z Z Z Z Z Z Z (.O Z Z Z Z (K0 ha7) Z (W.alloc Z Z Z Z (W.storeAgg Z Z Z Z Z Z Z (.nil (b5 (.q (.u (W.loadAgg Z Z Z Z Z Z Z (W.build Z Z Z Z (.neqP Z Z Z Z Z Z Z (.nil (b5 (.ac Z h (fun hc3 h=> ?_) (fun hc3 h=> ?_)))))))))))))))
 ·refine AWP.q (.u (W.loadAgg Z Z Z Z Z Z Z (W.storeAgg Z Z Z Z Z Z Z (.nil (b5 (.ret (e6 ?_)))))))
  obtain rfl:=oi h
  exact Done.ret Z Z
 ·refine AWP.skip (b5 (.q (.seqJ (⟨[(4,(cP 1 0 0)),(20,(cB ((decide (op<0))||(decide ((t.operators.length:Int)≤op)))))],[(oE 4 (tT t)),(oE 2 [int 0,int 0]),(oE 2 [int a7.code,int a7.index])]⟩) ?_ ?_)))
  ·rcases bft (decide (op<0)) with hb1|hb1
   ·refine AWP.u (.j Z Z (.F Z Z Z (.j Z Z (.B Z Z Z hb1 (.B Z Z Z hb1 (.B Z Z Z hb1 (.B Z Z Z hb1 (.B Z Z Z hb1 (.U Z hb1 Z Z (.nil (b5 ?_)))))))))))
    simp only[K3 hb1,or_t hb1,Bool.false_or,Bool.true_or,Bool.false_and,Bool.true_and]
    exact Sub.env ⟨Z,Z,Y⟩
   ·refine AWP.u (.j Z Z (.F Z Z Z (.j Z Z (.z Z Z Z hb1 (.j Z Z (.z Z Z Z hb1 (W.fieldAddr Z Z Z Z (.z Z Z Z hb1 (.E Z Z Z Z Z Z ?_)))))))))
    refine AOps.z Z Z Z hb1 ?_;refine S.len Z Z (fun hl18=> ?_)
    refine AOps.z Z Z Z hb1 (.geq Z Z Z (.aa Z hb1 Z Z (.nil (b5 ?_))))
    simp only[D6 hb1,or_f hb1,Bool.false_or,Bool.true_or,Bool.false_and,Bool.true_and]
    exact Sub.env ⟨Z,Z,Y⟩
  ·refine AWP.ac Z h (fun hc4 h=> ?_) (fun hc4 h=> ?_)
   ·refine AWP.q (.u (W.build Z Z Z Z (W.storeAgg Z Z Z Z Z Z Z (.nil (b5 (.ret (e6 ?_)))))))
    obtain rfl:=oi h
    exact Done.ret Z Z
   ·refine AWP.skip (b5 (.q (.u (W.build Z Z Z Z (W.storeAgg Z Z Z Z Z Z Z (.nil (b5 (.ret ?_))))))))
    obtain rfl:=oi h
    exact Done.ret Z Z
theorem av1{t:e7}{r:Li×Li×(List f9)}(h:S1 t=some r):FnOk prog 52 [.agg (tT t)] (ai5 t) (fun tt ss=>tt=.agg [int t.facts,.own 2 0 r.1.length,.own 3 0 r.2.1.length,.own 5 0 r.2.2.length]∧ss=[.dead,(oE 4 [int t.facts,.own 2 0 r.1.length,.own 3 0 r.2.1.length,.own 5 0 r.2.2.length]),(oV 1 intI r.1),(oV 1 intI r.2.1),.dead,omOp 5 r.2.2]):=by
 refine FnOk.enter (rs:=[.cell 2 25 4]) func52 Z ntmps52 results52 Z ⟨rv _ Z,Y⟩ (by kernel_rfl) Z ?_
 refine AWP.weak ?_
 unfold S1 at h
 refine AWP.q (.u (W.box Z Z Z Z Z Z (W.alloc Z Z Z Z (.nil (b5 (.q ?_))))))
 obtain⟨a10,ha10,a13,ha13,h⟩:=b2 h
 refine AWP.sub (s':=⟨[(0,.agg (tT t)),(1,(cP 0 0 0)),(2,(cP 1 0 0))],[(oE 4 (tT t)),(oE 4 [int 0,.imm (.val nL),.imm (.val nL),.imm (.val nL)]),.dead,.dead,.dead]⟩) (Sub.cut ⟨Z,Z,Z,Y⟩ Z ⟨.one Z,.one Z,.dead,.dead,.dead,Y⟩ Z) (.drawTI [(cP 0 0 0),(cI t.facts),(cP 0 0 1),(cR t.init),.c (.own 2 0 a10.length),(cP 0 0 2),(cR t.goal),.c (.own 3 0 a13.length),.agg [int t.facts,.own 2 0 a10.length,.own 3 0 a13.length,.imm (.val nL)],(cP 4 0 0),.undef] [4,7,9,10] [([],[(oE 4 (tT t)),(oE 4 [int 0,.imm (.val nL),.imm (.val nL),.imm (.val nL)]),.dead,.dead,.dead]),([4],[(oE 4 (tT t)),(oE 4 [int 0,.imm (.val nL),.imm (.val nL),.imm (.val nL)]),(oV 1 intI a10),.dead,.dead]),([4,7],[(oE 4 (tT t)),(oE 4 [int 0,.imm (.val nL),.imm (.val nL),.imm (.val nL)]),(oV 1 intI a10),(oV 1 intI a13),.dead]),([9],[(oE 4 (tT t)),(oE 4 [int 0,.imm (.val nL),.imm (.val nL),.imm (.val nL)]),.dead,.dead,(oE 4 [int 0,.imm (.val nL),.imm (.val nL),.imm (.val nL)])]),([4,9],[(oE 4 (tT t)),(oE 4 [int 0,.imm (.val nL),.imm (.val nL),.imm (.val nL)]),(oV 1 intI a10),.dead,(oE 4 [int 0,.imm (.val nL),.imm (.val nL),.imm (.val nL)])]),([4,7,9],[(oE 4 (tT t)),(oE 4 [int 0,.imm (.val nL),.imm (.val nL),.imm (.val nL)]),(oV 1 intI a10),(oV 1 intI a13),(oE 4 [int 0,.imm (.val nL),.imm (.val nL),.imm (.val nL)])]),([4,7,9,10],[(oE 4 (tT t)),(oE 4 [int 0,.imm (.val nL),.imm (.val nL),.imm (.val nL)]),(oV 1 intI a10),(oV 1 intI a13),(oE 4 [int t.facts,.own 2 0 a10.length,.own 3 0 a13.length,.imm (.val nL)])])] [(oE 4 (tT t)),(oE 4 [int 0,.imm (.val nL),.imm (.val nL),.imm (.val nL)]),(oV 1 intI a10),(oV 1 intI a13),(oE 4 [int t.facts,.own 2 0 a10.length,.own 3 0 a13.length,.imm (.val nL)])] mixed Z Z Z Z Z ?_ ?_)
 ·refine D8.cons ?_ ?_
  ·refine b9.go Z Z Z (fun E hE=>W.fieldAddr Z Z Z Z .N) ?_
   refine b9.go Z Z Z (fun E hE=>.E Z Z Z Z Z Z .N) ?_
   refine b9.go Z Z Z (fun E hE=>W.fieldAddr Z Z Z Z .N) ?_
   refine b9.go Z Z Z (fun E hE=>.E Z Z Z Z Z Z .N) ?_
   apply b9.eff;exact Z;exact Z;exact Z;exact Z;intro E hE;(refine AOps.newAt 2 (.c (.own 2 0 a10.length)) (vec 1 intI a10) (.inl Z) Z hE Z Z Z Z (.vec) (.vec) Z Z Z ⟨.one Z,.one Z,.dead,.dead,.dead,Y⟩ (fun hh=>by(refine S.fresh Z Z Z Z (q7 ha10) Z Z ?_;exact hh)) ?_);exact AOps.nil ⟨Z,Z⟩
   refine b9.go Z Z Z (fun E hE=>W.fieldAddr Z Z Z Z .N) ?_
   refine b9.go Z Z Z (fun E hE=>.E Z Z Z Z Z Z .N) ?_
   refine b9.no Z (b9.no Z ?_)
   apply b9.eff;exact Z;exact Z;exact Z;exact Z;intro E hE;(refine AOps.allocAt 4 hE Z Z Z Z Z Z Z ⟨.one Z,.one Z,.dead,.dead,.dead,Y⟩ Z ?_);exact AOps.nil ⟨Z,Z⟩
   refine b9.no Z (b9.nil)
  refine D8.cons ?_ ?_
  ·refine b9.go Z Z Z (fun E hE=>W.fieldAddr Z Z Z Z .N) ?_
   refine b9.go Z Z Z (fun E hE=>.E Z Z Z Z Z Z .N) ?_
   refine b9.no Z (b9.no Z (b9.no Z ?_))
   refine b9.go Z Z Z (fun E hE=>W.fieldAddr Z Z Z Z .N) ?_
   refine b9.go Z Z Z (fun E hE=>.E Z Z Z Z Z Z .N) ?_
   apply b9.eff;exact Z;exact Z;exact Z;exact Z;intro E hE;(refine AOps.newAt 3 (.c (.own 3 0 a13.length)) (vec 1 intI a13) (.inl Z) Z hE Z Z Z Z (.vec) (.vec) Z Z Z ⟨.one Z,.one Z,.vec,.dead,.dead,Y⟩ (fun hh=>by(refine S.fresh Z Z Z Z (q7 ha13) Z Z ?_;exact hh)) ?_);exact AOps.nil ⟨Z,Z⟩
   refine b9.no Z ?_
   apply b9.eff;exact Z;exact Z;exact Z;exact Z;intro E hE;(refine AOps.allocAt 4 hE Z Z Z Z Z Z Z ⟨.one Z,.one Z,.vec,.dead,.dead,Y⟩ Z ?_);exact AOps.nil ⟨Z,Z⟩
   refine b9.no Z (b9.nil)
  refine D8.cons ?_ ?_
  ·refine b9.go Z Z Z (fun E hE=>W.fieldAddr Z Z Z Z .N) ?_
   refine b9.go Z Z Z (fun E hE=>.E Z Z Z Z Z Z .N) ?_
   refine b9.no Z (b9.no Z (b9.no Z (b9.no Z (b9.no Z (b9.no Z ?_)))))
   refine b9.go Z Z Z (fun E hE=>W.build Z Z Z Z .N) ?_
   apply b9.eff;exact Z;exact Z;exact Z;exact Z;intro E hE;(refine AOps.allocAt 4 hE Z Z Z Z Z Z Z ⟨.one Z,.one Z,.vec,.vec,.dead,Y⟩ Z ?_);exact AOps.nil ⟨Z,Z⟩
   refine b9.no Z (b9.nil)
  refine D8.cons ?_ ?_
  ·refine b9.go Z Z Z (fun E hE=>W.fieldAddr Z Z Z Z .N) ?_
   refine b9.go Z Z Z (fun E hE=>.E Z Z Z Z Z Z .N) ?_
   refine b9.go Z Z Z (fun E hE=>W.fieldAddr Z Z Z Z .N) ?_
   refine b9.go Z Z Z (fun E hE=>.E Z Z Z Z Z Z .N) ?_
   apply b9.eff;exact Z;exact Z;exact Z;exact Z;intro E hE;(refine AOps.newAt 2 (.c (.own 2 0 a10.length)) (vec 1 intI a10) (.inl Z) Z hE Z Z Z Z (.vec) (.vec) Z Z Z ⟨.one Z,.one Z,.dead,.dead,.one Z,Y⟩ (fun hh=>by(refine S.fresh Z Z Z Z (q7 ha10) Z Z ?_;exact hh)) ?_);exact AOps.nil ⟨Z,Z⟩
   refine b9.go Z Z Z (fun E hE=>W.fieldAddr Z Z Z Z .N) ?_
   refine b9.go Z Z Z (fun E hE=>.E Z Z Z Z Z Z .N) ?_
   refine b9.no Z (b9.no Z (b9.no Z (b9.no Z (b9.nil))))
  refine D8.cons ?_ ?_
  ·refine b9.go Z Z Z (fun E hE=>W.fieldAddr Z Z Z Z .N) ?_
   refine b9.go Z Z Z (fun E hE=>.E Z Z Z Z Z Z .N) ?_
   refine b9.no Z (b9.no Z (b9.no Z ?_))
   refine b9.go Z Z Z (fun E hE=>W.fieldAddr Z Z Z Z .N) ?_
   refine b9.go Z Z Z (fun E hE=>.E Z Z Z Z Z Z .N) ?_
   apply b9.eff;exact Z;exact Z;exact Z;exact Z;intro E hE;(refine AOps.newAt 3 (.c (.own 3 0 a13.length)) (vec 1 intI a13) (.inl Z) Z hE Z Z Z Z (.vec) (.vec) Z Z Z ⟨.one Z,.one Z,.vec,.dead,.one Z,Y⟩ (fun hh=>by(refine S.fresh Z Z Z Z (q7 ha13) Z Z ?_;exact hh)) ?_);exact AOps.nil ⟨Z,Z⟩
   refine b9.no Z (b9.no Z (b9.no Z (b9.nil)))
  refine D8.cons ?_ ?_
  ·refine b9.go Z Z Z (fun E hE=>W.fieldAddr Z Z Z Z .N) ?_
   refine b9.go Z Z Z (fun E hE=>.E Z Z Z Z Z Z .N) ?_
   refine b9.no Z (b9.no Z (b9.no Z (b9.no Z (b9.no Z (b9.no Z ?_)))))
   refine b9.go Z Z Z (fun E hE=>W.build Z Z Z Z .N) ?_
   refine b9.no Z ?_
   apply b9.eff;exact Z;exact Z;exact Z;exact Z;intro E hE;(refine W.storeAgg Z Z Z Z Z Z Z ?_);exact AOps.nil ⟨Z,Z⟩
   exact b9.nil
  refine D8.cons ?_ ?_
  ·refine b9.no Z (b9.no Z (b9.no Z (b9.no Z (b9.no Z (b9.no Z (b9.no Z (b9.no Z (b9.no Z (b9.no Z (b9.no Z (b9.nil)))))))))))
  exact D8.nil
 dsimp only[j6]
 refine b5 (.q (.q (.u (W.fieldAddr Z Z Z Z (.E Z Z Z Z Z Z (S.len Z Z (fun hl17=>.j Z Z (.nil (b5 (.J (.virtBO 4 preOp postOp f9.add 1 intI (b:=4) (o:=3) Z Z Z Z Z Z Z Z ?_)))))))))))
 obtain⟨c55,ho1,h⟩:=bind_some h
 refine AWP.forS ho1 (fun t56 c55=>⟨[(2,(cP 1 0 0)),(3,(cP 4 0 0)),(16,.c (row 4 k6 t.operators)),(17,(cI (t.operators.length:Int))),(18,(cI t56))],[.dead,(oE 4 [int 0,.imm (.val nL),.imm (.val nL),.imm (.val nL)]),(oV 1 intI a10),(oV 1 intI a13),(oE 4 [int t.facts,.own 2 0 a10.length,.own 3 0 a13.length,.own 5 0 c55.length]),omOp 5 c55]⟩) (fun c55 e st=>e=.exit 0∧Sub (ai5 t) st ⟨[(2,(cP 1 0 0)),(3,(cP 4 0 0))],[.dead,(oE 4 [int 0,.imm (.val nL),.imm (.val nL),.imm (.val nL)]),(oV 1 intI a10),(oV 1 intI a13),(oE 4 [int t.facts,.own 2 0 a10.length,.own 3 0 a13.length,.own 5 0 c55.length]),omOp 5 c55]⟩) ?_ ?_ ?_ ?_
 ·try dsimp only
  exact Sub.cut ⟨Z,Z,Z,Z,Z,Y⟩ Z ⟨.dead,.one Z,.vec,.vec,.one Z,(.any (om_ok Z)),Y⟩ Z
 ·intro t56 c55 hlot56 hltt56 _
  try dsimp only
  refine AWP.q (.u (.F Z Z Z (.nil (b5 (.q (.ae Z hltt56 (.exit (d7 (d7 ⟨Z,?_⟩)))))))))
  exact Sub.env ⟨Z,Z,Y⟩
 ·intro t56 c55 o hlot56 hltt56 h
  unfold J5 at h
  try dsimp only at h ⊢
  refine AWP.q (.u (.F Z Z Z (.nil (b5 (.q (.af Z hltt56 (.skip (b5 (.q (.J (.q ?_)))))))))))
  obtain⟨a20,ha20,h⟩:=bind_some h
  refine AWP.u (S.idx ha20 Z Z Z Z (W.loadIAgg Z Z Z Z Z (W.alloc Z Z Z Z (W.storeAgg Z Z Z Z Z Z Z (.nil (b5 ?_))))))
  obtain⟨a26,ha26,a29,ha29,a32,ha32,h⟩:=b3 h
  obtain⟨a37,ha37,h⟩:=bind_some h
  refine AWP.drawEI [7,14,15,17] mixed Z Z Z ?_
  refine d5.consN Z Z (fun E=>W.fieldAddr Z Z Z Z .N) Z (.consN Z Z (fun E=>.E Z Z Z Z Z Z .N) Z (.consN Z Z (fun E=>W.fieldAddr Z Z Z Z .N) Z (.consN Z Z (fun E=>.E Z Z Z Z Z Z .N) Z (.consN Z Z (fun E=>.O Z Z Z Z (q8.data (q7 ha26)) Z .N) Z (.consN Z Z (fun E=>W.fieldAddr Z Z Z Z .N) Z (.consN Z Z (fun E=>.E Z Z Z Z Z Z .N) Z ?_))))))
  apply d5.consE;exact Z;exact Z;intro E
  refine S.fresh Z Z Z Z (q7 ha29) Z Z .N
  exact Z
  exact Z
  refine d5.consN Z Z (fun E=>W.fieldAddr Z Z Z Z .N) Z (.consN Z Z (fun E=>.E Z Z Z Z Z Z .N) Z (.consN Z Z (fun E=>.O Z Z Z Z (q8.data (q7 ha32)) Z .N) Z (.consN Z Z (fun E=>W.fieldAddr Z Z Z Z .N) Z (.consN Z Z (fun E=>.E Z Z Z Z Z Z .N) Z (.consN Z Z (fun E=>W.build Z Z Z Z .N) Z ?_)))))
  apply d5.consE;exact Z;exact Z;intro E
  refine W.lit1 Z Z Z Z Z Z Z Z Z .N
  exact Z
  exact Z
  apply d5.consE;exact Z;exact Z;intro E
  refine S.appendO (a:=(⟨a26,a29,a32,a20.cost⟩:f9)) ha37 Z Z Z Z Z Z Z Z Z Z Z Z Z Z Z Z .N
  exact Z
  exact Z
  refine d5.consN Z Z (fun E=>W.fieldAddr Z Z Z Z .N) Z ?_
  apply d5.consE (v:=.undef);exact Z;exact Z;intro E
  refine W.store Z Z Z Z Z .N
  exact Z
  exact Z
  refine d5.done Z ?_ ?_
  ·refine e8.cons Z Z (.go Z Z (fun E=>W.fieldAddr Z Z Z Z .N) (.go Z Z (fun E=>W.fieldAddr Z Z Z Z .N) (.go Z Z (fun E=>W.fieldAddr Z Z Z Z .N) (.skip Z (.skip Z .nil))))) (.cons Z Z (.go Z Z (fun E=>.E Z Z Z Z Z Z .N) (.go Z Z (fun E=>.E Z Z Z Z Z Z .N) (.go Z Z (fun E=>.E Z Z Z Z Z Z .N) (.skip Z (.skip Z .nil))))) (.cons Z Z (.go Z Z (fun E=>W.fieldAddr Z Z Z Z .N) (.skip Z (.skip Z (.skip Z (.skip Z .nil))))) (.cons Z Z (.go Z Z (fun E=>.E Z Z Z Z Z Z .N) (.skip Z (.skip Z (.skip Z (.skip Z .nil))))) (.cons Z Z (.go Z Z (fun E=>.O Z Z Z Z (q8.data (q7 ha26)) Z .N) (.skip Z (.skip Z (.skip Z (.skip Z .nil))))) (.cons Z Z (.go Z Z (fun E=>W.fieldAddr Z Z Z Z .N) (.skip Z (.skip Z (.skip Z (.skip Z .nil))))) (.cons Z Z (.go Z Z (fun E=>.E Z Z Z Z Z Z .N) (.skip Z (.skip Z (.skip Z (.skip Z .nil))))) ?_))))))
   refine e8.skip Z ?_
   refine e8.cons Z Z (.go Z Z (fun E=>W.fieldAddr Z Z Z Z .N) (.go Z Z (fun E=>W.fieldAddr Z Z Z Z .N) (.skip Z (.skip Z (.skip Z .nil))))) (.cons Z Z (.go Z Z (fun E=>.E Z Z Z Z Z Z .N) (.go Z Z (fun E=>.E Z Z Z Z Z Z .N) (.skip Z (.skip Z (.skip Z .nil))))) ?_)
   refine e8.cons Z Z ?_ ?_
   refine f8.skip Z ?_
   refine f8.go Z Z (fun E=>.O Z Z Z Z (q8.data (q7 ha32)) Z .N) ?_
   refine f8.skip Z (f8.skip Z (f8.skip Z (f8.nil)))
   refine e8.cons Z Z (.go Z Z (fun E=>W.fieldAddr Z Z Z Z .N) (.go Z Z (fun E=>W.fieldAddr Z Z Z Z .N) (.skip Z (.skip Z (.skip Z .nil))))) (.cons Z Z (.go Z Z (fun E=>.E Z Z Z Z Z Z .N) (.go Z Z (fun E=>.E Z Z Z Z Z Z .N) (.skip Z (.skip Z (.skip Z .nil))))) ?_)
   refine e8.cons Z Z ?_ ?_
   refine f8.skip Z ?_
   refine f8.go Z Z (fun E=>W.build Z Z Z Z .N) ?_
   refine f8.skip Z (f8.skip Z (f8.skip Z (f8.nil)))
   refine e8.skip Z (e8.skip Z ?_)
   refine e8.cons Z Z ?_ ?_
   refine f8.skip Z (f8.skip Z (f8.skip Z ?_))
   refine f8.go Z Z (fun E=>W.fieldAddr Z Z Z Z .N) ?_
   refine f8.skip Z (f8.nil)
   refine e8.skip Z (e8.nil)
  dsimp only[j6]
  refine d6 (b5 (.moveM (env':=[(2,(cP 1 0 0)),(3,(cP 4 0 0)),(16,.c (row 4 k6 t.operators)),(17,(cI (t.operators.length:Int))),(18,(cI t56))]) (σ':=[.dead,(oE 4 [int 0,.imm (.val nL),.imm (.val nL),.imm (.val nL)]),(oV 1 intI a10),(oV 1 intI a13),(oE 4 [int t.facts,.own 2 0 a10.length,.own 3 0 a13.length,.own 5 0 a37.length]),omOp 5 a37,(oE 4 [row 1 intI a20.pre,row 1 intI a20.add,row 1 intI a20.del,int a20.cost]),.dead,(oE 4 [row 1 intI a26,.own 7 0 a29.length,row 1 intI a32,int a20.cost])]) 5 9 Z Z Z ⟨Z,Z,Z,Z,Z,Y⟩ Z ⟨.dead,(.one Z Z),(.vec Z),(.vec Z),(.one Z Z),(EntR.omat Z Z Z),(.one Z Z),.dead,(.one Z Z),Y⟩ (.u (.add Z Z Z (by omega) (.j Z Z (.nil ?_))))))
  obtain rfl:=oi h
  refine b5 (Sub.cut ⟨Z,Z,Z,Z,Z,Y⟩ Z ⟨.dead,.one Z,.vec,.vec,.one Z,(.any (om_ok Z)),Y⟩ Z)
 ·intro e s hq
  obtain⟨rfl,hs⟩:=hq
  refine⟨_,hs,?_⟩
  refine i6 (b5 (.q (.u (W.loadAgg Z Z Z Z Z Z Z (W.storeAgg Z Z Z Z Z Z Z (.nil (b5 (.ret ?_))))))))
  obtain rfl:=oi h
  exact⟨⟨[(2,(cP 1 0 0))],[.dead,(oE 4 [int t.facts,.own 2 0 a10.length,.own 3 0 a13.length,.own 5 0 c55.length]),(oV 1 intI a10),(oV 1 intI a13),.dead,omOp 5 c55]⟩,Sub.cut ⟨Z,Y⟩ Z ⟨.dead,.one Z,.vec,.vec,.dead,(.any (om_ok Z)),Y⟩ Z,Done.ret Z ⟨Z,Z⟩⟩
theorem aw3{t:e7}{op:Int}{r:e7×g8}(h:K7 t op=some r):e9 prog 30 [.agg (tT t),(cI op)] (.tup [.agg (tT r.1),.agg [int r.2.code,int r.2.index]]):=by
 unfold e9
 refine FnOk.enter (rs:=[.cell 4 25 4,.cell 5 28 2]) func30 Z ntmps30 results30 Z ⟨rv _ Z,rv _ Z,Y⟩ (by kernel_rfl) Z ?_
 unfold K7 at h
 refine AWP.q (.u (W.box Z Z Z Z Z Z (W.alloc Z Z Z Z (W.alloc Z Z Z Z (.nil (b5 (.q (.q ?_))))))))
 obtain⟨a10,ha10,h⟩:=bind_some h
 refine AWP.u (W.loadAgg Z Z Z Z Z Z Z (.j Z Z (.O Z Z Z Z (ap4 ha10) Z (W.alloc Z Z Z Z (W.storeAgg Z Z Z Z Z Z Z (.nil (b5 (.q (.u (W.loadAgg Z Z Z Z Z Z Z (W.build Z Z Z Z (.neqP Z Z Z Z Z Z Z (.nil (b5 (.ac Z h (fun hc3 h=> ?_) (fun hc3 h=> ?_))))))))))))))))
 ·refine AWP.q (.drawEI [2,3] mixed Z Z Z ?_)
  refine d5.consN Z Z (fun E=>W.build Z Z Z Z .N) Z (.consN Z Z (fun E=>W.loadAgg Z Z Z Z Z Z Z .N) Z ?_)
  apply d5.consE (v:=.undef);exact Z;exact Z;intro E
  refine W.storeAgg Z Z Z Z Z Z Z .N
  exact Z
  exact Z
  apply d5.consE (v:=.undef);exact Z;exact Z;intro E
  refine W.storeAgg Z Z Z Z Z Z Z .N
  exact Z
  exact Z
  refine d5.done Z ?_ ?_
  ·refine e8.cons Z Z (.go Z Z (fun E=>W.build Z Z Z Z .N) (.skip Z (.skip Z .nil))) (.cons Z Z (.go Z Z (fun E=>W.loadAgg Z Z Z Z Z Z Z .N) (.go Z Z (fun E=>W.loadAgg Z Z Z Z Z Z Z .N) (.skip Z .nil))) ?_)
   refine e8.skip Z (e8.skip Z (e8.nil))
  dsimp only[j6]
  refine b5 (.nilB (b:=1) [int 0,row 1 intI [],row 1 intI [],row 4 k6 []] Z (by exact⟨.inl Z,.inr ⟨Z,_,Z⟩,.inr ⟨Z,_,Z⟩,.inr ⟨Z,_,Z⟩,Y⟩) Z Z (.ret (e6 ?_)))
  obtain rfl:=oi h
  exact Done.ret Z Z
 ·refine AWP.skip (b5 (.q (.q (.u (W.fieldAddr Z Z Z Z (.E Z Z Z Z Z Z (.ad Z Z Z (.nil (b5 (.ite Z h (fun hc4 h=> ?_) (fun hc4 h=> ?_)))))))))))
  ·refine AWP.q (.u (W.build Z Z Z Z (W.build Z Z Z Z (W.storeAgg Z Z Z Z Z Z Z (W.storeAgg Z Z Z Z Z Z Z (.nil (b5 (.nilB (b:=1) [int 0,row 1 intI [],row 1 intI [],row 4 k6 []] Z (by exact⟨.inl Z,.inr ⟨Z,_,Z⟩,.inr ⟨Z,_,Z⟩,.inr ⟨Z,_,Z⟩,Y⟩) Z Z (.ret (e6 ?_))))))))))
   obtain rfl:=oi h
   exact Done.ret Z Z
  ·refine AWP.skip (b5 (.q ?_))
   obtain⟨a22,ha22,ao5,hao5,h⟩:=b2 h
   refine AWP.u (W.loadAgg Z Z Z Z Z Z Z ?_)
   refine AOps.callF (r2:=.agg [int t.facts,.own 6 0 a22.1.length,.own 7 0 a22.2.1.length,.own 9 0 a22.2.2.length]) (σ'':=[(oE 4 (tT t)),(oE 4 [int 0,.imm (.val nL),.imm (.val nL),.imm (.val nL)]),(oE 2 [int 0,int 0]),(oE 2 [int a10.code,int a10.index]),.dead,(oE 4 [int t.facts,.own 6 0 a22.1.length,.own 7 0 a22.2.1.length,.own 9 0 a22.2.2.length]),(oV 1 intI a22.1),(oV 1 intI a22.2.1),.dead,omOp 9 a22.2.2]) Z Z Z (FnOk.lend [] (av1 ha22) Z Z Z Z Z Z (by exact Y) Z (by exact Y) Z Z (by exact⟨(.old Z Z Z),(.old Z Z Z),(.old Z Z Z),(.old Z Z Z),.dead,(.new 1 Z Z (.one Z)),(.new 2 Z Z .vec),(.new 3 Z Z .vec),.dead,(.new 5 Z Z (RenE.omat fun _=>Z)),Y⟩)) ?_;refine AOps.sub (s':=⟨[(0,.agg (tT t)),(1,(cI op)),(2,(cP 0 0 0)),(4,(cP 1 0 0)),(5,(cP 2 0 0)),(6,(cP 3 0 0)),(8,.agg (tT t)),(9,(cI op)),(10,.agg [int a10.code,int a10.index]),(11,.agg [int a10.code,int a10.index]),(12,.agg [int 0,int 0]),(13,(cB (!((decide (a10.code=0)) && (decide (a10.index=0)))))),(16,(cP 0 0 0)),(17,(cI t.facts)),(18,(cB (decide (t.facts=24)))),(21,.agg (tT t)),(22,.agg [int t.facts,.own 6 0 a22.1.length,.own 7 0 a22.2.1.length,.own 9 0 a22.2.2.length])],[(oE 4 (tT t)),(oE 4 [int 0,.imm (.val nL),.imm (.val nL),.imm (.val nL)]),(oE 2 [int 0,int 0]),(oE 2 [int a10.code,int a10.index]),.dead,(oE 4 [int t.facts,.own 6 0 a22.1.length,.own 7 0 a22.2.1.length,.own 9 0 a22.2.2.length]),(oV 1 intI a22.1),(oV 1 intI a22.2.1),.dead,omOp 9 a22.2.2]⟩) (Sub.env ⟨Z,Z,Z,Z,Z,Z,Z,Z,Z,Z,Z,Z,Z,Z,Z,Z,Z,Y⟩) ?_;refine AOps.sub (s':=⟨[(0,.agg (tT t)),(1,(cI op)),(2,(cP 0 0 0)),(4,(cP 1 0 0)),(5,(cP 2 0 0)),(6,(cP 3 0 0)),(8,.agg (tT t)),(9,(cI op)),(10,.agg [int a10.code,int a10.index]),(11,.agg [int a10.code,int a10.index]),(12,.agg [int 0,int 0]),(13,(cB (!((decide (a10.code=0)) && (decide (a10.index=0)))))),(16,(cP 0 0 0)),(17,(cI t.facts)),(18,(cB (decide (t.facts=24)))),(21,.agg (tT t)),(22,.agg [int t.facts,.own 6 0 a22.1.length,.own 7 0 a22.2.1.length,.own 9 0 a22.2.2.length])],[(oE 4 (tT t)),(oE 4 [int 0,.imm (.val nL),.imm (.val nL),.imm (.val nL)]),(oE 2 [int 0,int 0]),(oE 2 [int a10.code,int a10.index]),.dead,(oE 4 [int t.facts,.own 6 0 a22.1.length,.own 7 0 a22.2.1.length,.own 9 0 a22.2.2.length]),(oV 1 intI a22.1),(oV 1 intI a22.2.1),.dead,.one (vpOp a22.2.2 op.toNat 10 ao5.add.length ao5),(oV 1 intI ao5.add)]⟩) (Sub.splitO (r:=9) (n:=10) Z Z (B0 hao5).2 (RlL.all (by exact⟨.one (fun _=>Z),.one (fun _=>Z),.one (fun _=>Z),.one (fun _=>Z),.dead,.one (fun _=>Z),.vec,.vec,.dead,.self,Y⟩)) Z Z Z Z) ?_
   refine W.alloc Z Z Z Z (W.storeAgg Z Z Z Z Z Z Z (.nil (b5 (.q ?_))))
   obtain⟨a28,ha28,h⟩:=bind_some h
   refine AWP.u (W.fieldAddr Z Z Z Z (.E Z Z Z Z Z Z (W.fieldAddr Z Z Z Z (.E Z Z Z Z Z Z (S.lit (f:=intI) (l:=[t.facts]) (ess:=[[int t.facts]]) Z Z Z Z Z Z Z ⟨⟨.inl Z,Y⟩,Y⟩ Z Z Z (S.append (f:=intI) ha28 Z Z Z Z Z Z (.own Z Z) Z Z Z Z (W.fieldAddr Z Z Z Z (W.store Z Z Z Z Z (.nil (b5 (.q (.j (env':=[(1,(cI op)),(4,(cP 1 0 0)),(5,(cP 2 0 0)),(7,(cP 11 0 0))]) (σ':=[(oE 4 (tT t)),(oE 4 [int 0,.imm (.val nL),.imm (.val nL),.imm (.val nL)]),(oE 2 [int 0,int 0]),(oE 2 [int a10.code,int a10.index]),.dead,.dead,(oV 1 intI a22.1),(oV 1 intI a28),.dead,.one (vpOp a22.2.2 op.toNat 10 ao5.add.length ao5),(oV 1 intI ao5.add),(oE 4 [int t.facts,.own 6 0 a22.1.length,.own 7 0 a28.length,.own 9 0 a22.2.2.length]),(oV 1 intI [t.facts])]) 7 13 Z Z Z ⟨Z,Z,Z,Z,Y⟩ Z ⟨⟨Z,Z⟩,⟨Z,Z⟩,⟨Z,Z⟩,⟨Z,Z⟩,Y,Y,⟨Blk.im_ok _ _ _,g9 Z⟩,⟨Blk.im_ok _ _ _,g9 Z⟩,Y,⟨vp_ok Z,vp_mv Z Z⟩,⟨Blk.im_ok _ _ _,g9 Z⟩,⟨Z,Z⟩,⟨Blk.im_ok _ _ _,g9 Z⟩,Y⟩ ?_))))))))))))
   obtain⟨a42,ha42,h⟩:=bind_some h
   refine AWP.drawEI [11,12,15] mixed Z Z Z ?_
   refine d5.consN Z Z (fun E=>W.fieldAddr Z Z Z Z .N) Z (.consN Z Z (fun E=>.E Z Z Z Z Z Z .N) Z (.consN Z Z (fun E=>.j Z Z .N) Z (.consN Z Z (fun E=>W.fieldAddr Z Z Z Z .N) Z (.consN Z Z (fun E=>.E Z Z Z Z Z Z .N) Z (.consN Z Z (fun E=>.j Z Z .N) Z (.consN Z Z (fun E=>S.idxVP hao5 Z Z Z Z Z .N) Z (.consN Z Z (fun E=>W.fieldAddr Z Z Z Z .N) Z (.consN Z Z (fun E=>S.loadVP hao5 Z Z Z Z Z .N) Z (.consN Z Z (fun E=>W.fieldAddr Z Z Z Z .N) Z (.consN Z Z (fun E=>.E Z Z Z Z Z Z .N) Z ?_))))))))))
   apply d5.consE;exact Z;exact Z;intro E
   refine S.lit (f:=intI) (l:=[t.facts]) (ess:=[[int t.facts]]) Z Z Z Z Z Z Z ⟨⟨.inl Z,Y⟩,Y⟩ Z Z Z .N
   exact Z
   exact Z
   apply d5.consE;exact Z;exact Z;intro E
   refine S.append (f:=intI) ha42 Z Z Z Z Z Z (.own Z Z) Z Z Z Z .N
   exact Z
   exact Z
   refine d5.consN Z Z (fun E=>S.idxVP hao5 Z Z Z Z Z .N) Z (.consN Z Z (fun E=>W.fieldAddr Z Z Z Z .N) Z ?_)
   apply d5.consE (v:=.undef);exact Z;exact Z;intro E
   refine S.storeVP hao5 Z Z Z Z Z .N
   exact Z
   exact Z
   refine d5.done Z ?_ ?_
   ·refine e8.cons Z Z (.go Z Z (fun E=>W.fieldAddr Z Z Z Z .N) (.go Z Z (fun E=>W.fieldAddr Z Z Z Z .N) (.go Z Z (fun E=>W.fieldAddr Z Z Z Z .N) (.skip Z .nil)))) (.cons Z Z (.go Z Z (fun E=>.E Z Z Z Z Z Z .N) (.go Z Z (fun E=>.E Z Z Z Z Z Z .N) (.go Z Z (fun E=>.E Z Z Z Z Z Z .N) (.skip Z .nil)))) (.cons Z Z (.go Z Z (fun E=>.j Z Z .N) (.go Z Z (fun E=>.j Z Z .N) (.go Z Z (fun E=>.j Z Z .N) (.skip Z .nil)))) (.cons Z Z (.go Z Z (fun E=>W.fieldAddr Z Z Z Z .N) (.go Z Z (fun E=>W.fieldAddr Z Z Z Z .N) (.skip Z (.skip Z .nil)))) (.cons Z Z (.go Z Z (fun E=>.E Z Z Z Z Z Z .N) (.go Z Z (fun E=>.E Z Z Z Z Z Z .N) (.skip Z (.skip Z .nil)))) (.cons Z Z (.go Z Z (fun E=>.j Z Z .N) (.go Z Z (fun E=>.j Z Z .N) (.skip Z (.skip Z .nil)))) (.cons Z Z (.go Z Z (fun E=>S.idxVP hao5 Z Z Z Z Z .N) (.go Z Z (fun E=>S.idxVP hao5 Z Z Z Z Z .N) (.skip Z (.skip Z .nil)))) (.cons Z Z (.go Z Z (fun E=>W.fieldAddr Z Z Z Z .N) (.go Z Z (fun E=>W.fieldAddr Z Z Z Z .N) (.skip Z (.skip Z .nil)))) (.cons Z Z (.go Z Z (fun E=>S.loadVP hao5 Z Z Z Z Z .N) (.go Z Z (fun E=>S.loadVP hao5 Z Z Z Z Z .N) (.skip Z (.skip Z .nil)))) (.cons Z Z (.go Z Z (fun E=>W.fieldAddr Z Z Z Z .N) (.skip Z (.skip Z (.skip Z .nil)))) (.cons Z Z (.go Z Z (fun E=>.E Z Z Z Z Z Z .N) (.skip Z (.skip Z (.skip Z .nil)))) ?_))))))))))
    refine e8.skip Z (e8.skip Z ?_)
    refine e8.cons Z Z ?_ ?_
    refine f8.skip Z (f8.skip Z ?_)
    refine f8.go Z Z (fun E=>S.idxVP hao5 Z Z Z Z Z .N) ?_
    refine f8.skip Z (f8.nil)
    refine e8.cons Z Z ?_ ?_
    refine f8.skip Z (f8.skip Z ?_)
    refine f8.go Z Z (fun E=>W.fieldAddr Z Z Z Z .N) ?_
    refine f8.skip Z (f8.nil)
    refine e8.skip Z (e8.nil)
   dsimp only[j6]
   refine b5 (.q (.j (env':=[(4,(cP 1 0 0)),(5,(cP 2 0 0)),(7,(cP 11 0 0))]) (σ':=[(oE 4 (tT t)),(oE 4 [int 0,.imm (.val nL),.imm (.val nL),.imm (.val nL)]),(oE 2 [int 0,int 0]),(oE 2 [int a10.code,int a10.index]),.dead,.dead,(oV 1 intI a22.1),(oV 1 intI a28),.dead,.one (vpOp a22.2.2 op.toNat 10 a42.length ao5),(oV 1 intI a42),(oE 4 [int t.facts,.own 6 0 a22.1.length,.own 7 0 a28.length,.own 9 0 a22.2.2.length]),(oV 1 intI [t.facts]),(oV 1 intI [t.facts])]) 10 14 Z Z Z ⟨Z,Z,Z,Y⟩ Z ⟨⟨Z,Z⟩,⟨Z,Z⟩,⟨Z,Z⟩,⟨Z,Z⟩,Y,Y,⟨Blk.im_ok _ _ _,g9 Z⟩,⟨Blk.im_ok _ _ _,g9 Z⟩,Y,⟨vp_ok Z,vp_mv Z Z⟩,⟨Blk.im_ok _ _ _,g9 Z⟩,⟨Z,Z⟩,⟨Blk.im_ok _ _ _,g9 Z⟩,⟨Blk.im_ok _ _ _,g9 Z⟩,Y⟩ (.u (W.fieldAddr Z Z Z Z (.E Z Z Z Z Z Z (S.add Z Z Z (W.fieldAddr Z Z Z Z (W.store Z Z Z Z Z (.nil (b5 (.q (.u (W.loadAgg Z Z Z Z Z Z Z (W.build Z Z Z Z (W.storeAgg Z Z Z Z Z Z Z (W.storeAgg Z Z Z Z Z Z Z (.nil (b5 (.frzW (id:=10) (M:=a42) (env2:=[(4,(cP 1 0 0)),(5,(cP 2 0 0))]) (σ2:=[(oE 4 (tT t)),(oE 4 [int (w64 (t.facts+1)),.own 6 0 a22.1.length,.own 7 0 a28.length,.own 9 0 a22.2.2.length]),(oE 2 [int 0,int 0]),(oE 2 [int a10.code,int a10.index]),.dead,.dead,(oV 1 intI a22.1),(oV 1 intI a28),.dead,(oV 4 k6 (a22.2.2.set op.toNat (⟨ao5.pre,a42,ao5.del,ao5.cost⟩:f9))),.dead,(oE 4 [int (w64 (t.facts+1)),.own 6 0 a22.1.length,.own 7 0 a28.length,.own 9 0 a22.2.2.length]),(oV 1 intI [t.facts]),(oV 1 intI [t.facts])]) Z Z (by exact⟨⟨_,Z,.inl ⟨Z,Z⟩⟩,⟨_,Z,.inl ⟨Z,Z⟩⟩,Y⟩) Z (by exact⟨.old ⟨Z,.inl ⟨Z,Z⟩,.inl ⟨Z,Z⟩,.inl ⟨Z,Z⟩,.inl ⟨Z,Z⟩,Y⟩,.old ⟨Z,.inl ⟨Z,Z⟩,.inl ⟨Z,Z⟩,.inl ⟨Z,Z⟩,.inl ⟨Z,Z⟩,Y⟩,.old ⟨Z,.inl ⟨Z,Z⟩,.inl ⟨Z,Z⟩,Y⟩,.old ⟨Z,.inl ⟨Z,Z⟩,.inl ⟨Z,Z⟩,Y⟩,.old (Y),.old (Y),.old (FrzB.vec),.old (FrzB.vec),.old (Y),(.any (vp_frz Z Z)),.old (Y),.old ⟨Z,.inl ⟨Z,Z⟩,.inl ⟨Z,Z⟩,.inl ⟨Z,Z⟩,.inl ⟨Z,Z⟩,Y⟩,.old (FrzB.vec),.old (FrzB.vec),Y⟩) (.frzV (id:=6) (l:=a22.1) (env2:=[(4,(cP 1 0 0)),(5,(cP 2 0 0))]) (σ2:=[(oE 4 (tT t)),(oE 4 [int (w64 (t.facts+1)),row 1 intI a22.1,.own 7 0 a28.length,.own 9 0 a22.2.2.length]),(oE 2 [int 0,int 0]),(oE 2 [int a10.code,int a10.index]),.dead,.dead,.dead,(oV 1 intI a28),.dead,(oV 4 k6 (a22.2.2.set op.toNat (⟨ao5.pre,a42,ao5.del,ao5.cost⟩:f9))),.dead,(oE 4 [int (w64 (t.facts+1)),row 1 intI a22.1,.own 7 0 a28.length,.own 9 0 a22.2.2.length]),(oV 1 intI [t.facts]),(oV 1 intI [t.facts])]) Z Z (by exact⟨⟨_,Z,.inl ⟨Z,Z⟩⟩,⟨_,Z,.inl ⟨Z,Z⟩⟩,Y⟩) Z (by exact⟨⟨Z,.inl ⟨Z,Z⟩,.inl ⟨Z,Z⟩,.inl ⟨Z,Z⟩,.inl ⟨Z,Z⟩,Y⟩,⟨Z,.inl ⟨Z,Z⟩,.inr ⟨_,Z,Z,Z⟩,.inl ⟨Z,Z⟩,.inl ⟨Z,Z⟩,Y⟩,⟨Z,.inl ⟨Z,Z⟩,.inl ⟨Z,Z⟩,Y⟩,⟨Z,.inl ⟨Z,Z⟩,.inl ⟨Z,Z⟩,Y⟩,Y,Y,Y,FrzB.vec,Y,FrzB.vec,Y,⟨Z,.inl ⟨Z,Z⟩,.inr ⟨_,Z,Z,Z⟩,.inl ⟨Z,Z⟩,.inl ⟨Z,Z⟩,Y⟩,FrzB.vec,FrzB.vec,Y⟩) (.frzV (id:=7) (l:=a28) (env2:=[(4,(cP 1 0 0)),(5,(cP 2 0 0))]) (σ2:=[(oE 4 (tT t)),(oE 4 [int (w64 (t.facts+1)),row 1 intI a22.1,row 1 intI a28,.own 9 0 a22.2.2.length]),(oE 2 [int 0,int 0]),(oE 2 [int a10.code,int a10.index]),.dead,.dead,.dead,.dead,.dead,(oV 4 k6 (a22.2.2.set op.toNat (⟨ao5.pre,a42,ao5.del,ao5.cost⟩:f9))),.dead,(oE 4 [int (w64 (t.facts+1)),row 1 intI a22.1,row 1 intI a28,.own 9 0 a22.2.2.length]),(oV 1 intI [t.facts]),(oV 1 intI [t.facts])]) Z Z (by exact⟨⟨_,Z,.inl ⟨Z,Z⟩⟩,⟨_,Z,.inl ⟨Z,Z⟩⟩,Y⟩) Z (by exact⟨⟨Z,.inl ⟨Z,Z⟩,.inl ⟨Z,Z⟩,.inl ⟨Z,Z⟩,.inl ⟨Z,Z⟩,Y⟩,⟨Z,.inl ⟨Z,Z⟩,.inl ⟨Z,Z⟩,.inr ⟨_,Z,Z,Z⟩,.inl ⟨Z,Z⟩,Y⟩,⟨Z,.inl ⟨Z,Z⟩,.inl ⟨Z,Z⟩,Y⟩,⟨Z,.inl ⟨Z,Z⟩,.inl ⟨Z,Z⟩,Y⟩,Y,Y,Y,Y,Y,FrzB.vec,Y,⟨Z,.inl ⟨Z,Z⟩,.inl ⟨Z,Z⟩,.inr ⟨_,Z,Z,Z⟩,.inl ⟨Z,Z⟩,Y⟩,FrzB.vec,FrzB.vec,Y⟩) (.frzV (id:=9) (l:=a22.2.2.set op.toNat (⟨ao5.pre,a42,ao5.del,ao5.cost⟩:f9)) (env2:=[(4,(cP 1 0 0)),(5,(cP 2 0 0))]) (σ2:=[(oE 4 (tT t)),(oE 4 [int (w64 (t.facts+1)),row 1 intI a22.1,row 1 intI a28,row 4 k6 (a22.2.2.set op.toNat (⟨ao5.pre,a42,ao5.del,ao5.cost⟩:f9))]),(oE 2 [int 0,int 0]),(oE 2 [int a10.code,int a10.index]),.dead,.dead,.dead,.dead,.dead,.dead,.dead,(oE 4 [int (w64 (t.facts+1)),row 1 intI a22.1,row 1 intI a28,row 4 k6 (a22.2.2.set op.toNat (⟨ao5.pre,a42,ao5.del,ao5.cost⟩:f9))]),(oV 1 intI [t.facts]),(oV 1 intI [t.facts])]) Z Z (by exact⟨⟨_,Z,.inl ⟨Z,Z⟩⟩,⟨_,Z,.inl ⟨Z,Z⟩⟩,Y⟩) Z (by exact⟨⟨Z,.inl ⟨Z,Z⟩,.inl ⟨Z,Z⟩,.inl ⟨Z,Z⟩,.inl ⟨Z,Z⟩,Y⟩,⟨Z,.inl ⟨Z,Z⟩,.inl ⟨Z,Z⟩,.inl ⟨Z,Z⟩,.inr ⟨_,Z,(by simp only[lS]),Z⟩,Y⟩,⟨Z,.inl ⟨Z,Z⟩,.inl ⟨Z,Z⟩,Y⟩,⟨Z,.inl ⟨Z,Z⟩,.inl ⟨Z,Z⟩,Y⟩,Y,Y,Y,Y,Y,Y,Y,⟨Z,.inl ⟨Z,Z⟩,.inl ⟨Z,Z⟩,.inl ⟨Z,Z⟩,.inr ⟨_,Z,(by simp only[lS]),Z⟩,Y⟩,FrzB.vec,FrzB.vec,Y⟩) (.ret ?_)))))))))))))))))))))))
   obtain rfl:=oi h
   exact Done.ret Z Z
theorem C6{sv:Li}{r:Int}(h:N1 sv=some r):e9 prog 91 [(cR sv)] (.c (.imm (.val (.int .u32 r)))):=by
 unfold e9
 refine FnOk.enter (rs:=[.t 2]) func91 Z ntmps91 results91 Z ⟨Y,Y⟩ (by kernel_rfl) Z ?_
 unfold N1 at h
 refine AWP.q (.u (.v Z Z (.nil (b5 (.q (.u (.v Z Z (.nil (b5 (.q (.q (.u (.j Z Z (S.len Z Z (fun hl7=>.j Z Z (.nil (b5 (.J ?_))))))))))))))))))
 obtain⟨w2,ho1,h⟩:=bind_some h
 refine AWP.forS ho1 (fun t3 w2=>⟨[(3,.c (.imm (.val (.int .u32 w2)))),(6,(cR sv)),(7,(cI (sv.length:Int))),(8,(cI t3))],[]⟩) (fun w2 e st=>e=.exit 0∧Sub [] st ⟨[(3,.c (.imm (.val (.int .u32 w2))))],[]⟩) ?_ ?_ ?_ ?_
 ·try dsimp only
  exact Sub.env ⟨Z,Z,Z,Z,Y⟩
 ·intro t3 w2 hlot3 hltt3 _
  try dsimp only
  refine AWP.q (.u (.F Z Z Z (.nil (b5 (.q (.ae Z hltt3 (.exit (d7 (d7 ⟨Z,?_⟩)))))))))
  exact Sub.env ⟨Z,Y⟩
 ·intro t3 w2 o hlot3 hltt3 h
  unfold ac2 at h
  try dsimp only at h ⊢
  refine AWP.q (.u (.F Z Z Z (.nil (b5 (.q (.af Z hltt3 (.skip (b5 (.q (.J (.q ?_)))))))))))
  obtain⟨a10,ha10,h⟩:=bind_some h
  refine AWP.u (S.idx ha10 Z Z Z Z (.ag Z Z Z Z (.v Z Z (.nil (b5 ?_)))))
  obtain⟨u14,hu14,h⟩:=bind_some h
  refine AWP.u (.j Z Z (.j Z Z (S.shl hu14 Z Z Z (.bits Z Z Z (by simp) (.v Z Z (.nil (d6 (b5 (.u (.add Z Z Z (by omega) (.j Z Z (.nil ?_))))))))))))
  obtain rfl:=oi h
  refine b5 (Sub.env ⟨Z,Z,Z,Z,Y⟩)
 ·intro e s hq
  obtain⟨rfl,hs⟩:=hq
  refine⟨_,hs,?_⟩
  refine i6 (b5 (.q (.u (.j Z Z (.v Z Z (.nil (b5 (.ret ?_))))))))
  obtain rfl:=oi h
  exact Done.ret Z Z
theorem ar5{w:Int}{r:Li}(h:V1 w=some r):q8 prog 77 [.c (.imm (.val (.int .u32 w)))] 1 (List.map intI r):=by
 unfold q8
 refine FnOk.enter (rs:=[.t 2]) func77 Z ntmps77 results77 Z ⟨Y,Y⟩ (by kernel_rfl) Z ?_
 unfold V1 at h
 refine AWP.q (.u (.v Z Z (.nil (b5 (.q (.u (.v Z Z (.nil (b5 (.q (.q (.u (.j Z Z (.nil (b5 (.J (.virtV 1 intI 3 Z Z Z ?_)))))))))))))))))
 obtain⟨c2,ho1,h⟩:=bind_some h
 refine AWP.forS ho1 (fun t3 c2=>⟨[(0,.c (.imm (.val (.int .u32 w)))),(3,.c (.own 0 0 c2.length)),(5,(cI t3))],[(oV 1 intI c2)]⟩) (fun c2 e st=>e=.exit 0∧Sub [] st ⟨[(3,.c (.own 0 0 c2.length))],[(oV 1 intI c2)]⟩) ?_ ?_ ?_ ?_
 ·try dsimp only
  exact Sub.env ⟨Z,(F2 (by first|rfl|simp only[lS])),Z,Y⟩
 ·intro t3 c2 hlot3 hltt3 _
  try dsimp only
  refine AWP.q (.u (.F Z Z Z (.nil (b5 (.q (.ae Z hltt3 (.exit (d7 (d7 ⟨Z,?_⟩)))))))))
  exact Sub.env ⟨Z,Y⟩
 ·intro t3 c2 o hlot3 hltt3 h
  unfold aa0 at h
  try dsimp only at h ⊢
  refine AWP.q (.u (.F Z Z Z (.nil (b5 (.q (.af Z hltt3 (.skip (b5 ?_))))))))
  obtain⟨c4,hx5,h⟩:=bind_some h
  refine AWP.seqJ (⟨[(0,.c (.imm (.val (.int .u32 w)))),(3,.c (.own 2 0 c4.length)),(5,(cI t3))],[.dead,.dead,(oV 1 intI c4)]⟩) ?_ ?_
  ·refine AWP.J (.q (.u (.j Z Z (.v Z Z (.nil (b5 (.q (.u (.j Z Z (.j Z Z (.shr Z Z Z (by first|decide|omega) Z (.bits Z Z Z (by simp) (.ad Z Z Z (.nil (b5 (.ite Z hx5 (fun hc6 hx5=> ?_) (fun hc6 hx5=> ?_)))))))))))))))))
   ·obtain⟨a16,ha16,hx5⟩:=bind_some hx5
    refine AWP.u (.j Z Z (.j Z Z (S.lit (f:=intI) (l:=[t3]) (ess:=[[int t3]]) Z Z Z Z Z Z Z ⟨⟨.inl Z,Y⟩,Y⟩ Z Z Z (S.append (f:=intI) ha16 Z Z Z Z Z Z (.own Z Z) Z Z Z Z (.v Z Z (.nil (d6 ?_)))))))
    obtain rfl:=oi hx5
    refine b5 (Sub.cut ⟨Z,Z,Z,Y⟩ Z ⟨.dead,.dead,.vec,Y⟩ Z)
   ·refine AWP.skip (d6 ?_)
    obtain rfl:=oi hx5
    refine b5 ((Sub.move (env':=[(0,.c (.imm (.val (.int .u32 w)))),(3,.c (.own 2 0 c2.length)),(5,(cI t3))]) (σ':=[.dead,.dead,(oV 1 intI c2)]) 2 0 Z Z Z ⟨Z,Z,Z,Y⟩ Z ⟨Y,Y,⟨Blk.im_ok _ _ _,g9 Z⟩,Y⟩).trans (Sub.env ⟨Z,Z,Z,Y⟩))
  ·refine AWP.u (.add Z Z Z (by omega) (.j Z Z (.nil ?_)))
   obtain rfl:=oi h
   refine b5 ((Sub.move (env':=[(0,.c (.imm (.val (.int .u32 w)))),(3,.c (.own 0 0 c4.length)),(5,(cI (t3+1)))]) (σ':=[(oV 1 intI c4),.dead]) 0 2 Z Z Z ⟨Z,Z,Z,Y⟩ Z ⟨⟨Blk.im_ok _ _ _,g9 Z⟩,Y,Y⟩).trans (Sub.cut ⟨Z,Z,Z,Y⟩ Z ⟨.vec,Y⟩ Z))
 ·intro e s hq
  obtain⟨rfl,hs⟩:=hq
  refine⟨_,hs,?_⟩
  refine i6 (b5 (.q (.u (.j Z Z (.v Z Z (.nil (b5 (.ret ?_))))))))
  obtain rfl:=oi h
  exact Done.ret Z (Fresh.mk Z Z)
theorem au7{av:Int}{bv:Int}{r:Int}(h:K9 av bv=some r):e9 prog 76 [.c (.imm (.val (.int .u32 av))),.c (.imm (.val (.int .u32 bv)))] ((cI r)):=by
 unfold e9
 refine FnOk.enter (rs:=[.t 4]) func76 Z ntmps76 results76 Z ⟨Y,Y⟩ (by kernel_rfl) Z ?_
 unfold K9 at h
 refine AWP.q (.u (.v Z Z (.nil (b5 (.q ?_)))))
 obtain⟨a6,ha6,a8,ha8,a9,ha9,h⟩:=b3 h
 refine AWP.u (.j Z Z (S.fresh Z Z Z Z (ar5 ha6) Z Z (.j Z Z (S.fresh Z Z Z Z (ar5 ha8) Z Z (.callL Z Z (.cons (.c (.own Z Z)) (.cons (.c (.own Z Z)) .nil)) Z (W4 ha9) Z (.v Z Z (.nil (b5 (.ret ?_)))))))))
 obtain rfl:=oi h
 exact Done.ret Z Z
theorem space_Of_w_ok{t:e7}{r:Int×Int×(List i8)}(h:ah0 t=some r):FnOk prog 73 [.agg (tT t)] (au2 t) (fun tt ss=>tt=(cP 1 0 0)∧ss=[.dead,(oE 3 [.imm (.val (.int .u32 r.1)),.imm (.val (.int .u32 r.2.1)),.own 2 0 r.2.2.length]),(oV 4 d4 r.2.2)]):=by
 refine FnOk.enter (rs:=[.t 2]) func73 Z ntmps73 results73 Z ⟨Y,Y⟩ (by kernel_rfl) Z ?_
 refine AWP.weak ?_
 unfold ah0 at h
 refine AWP.q (.u (W.box Z Z Z Z Z Z (.v Z Z (.nil (b5 (.q ?_))))))
 obtain⟨a8,ha8,a11,ha11,h⟩:=b2 h
 refine AWP.drawEI [7] mixed Z Z Z ?_
 refine d5.consN Z Z (fun E=>W.fieldAddr Z Z Z Z .N) Z (.consN Z Z (fun E=>.E Z Z Z Z Z Z .N) Z (.consN Z Z (fun E=>.O Z Z Z Z (C6 ha8) Z .N) Z (.consN Z Z (fun E=>W.fieldAddr Z Z Z Z .N) Z (.consN Z Z (fun E=>.E Z Z Z Z Z Z .N) Z (.consN Z Z (fun E=>.O Z Z Z Z (C6 ha11) Z .N) Z (.consN Z Z (fun E=>W.build Z Z Z Z .N) Z ?_))))))
 apply d5.consE;exact Z;exact Z;intro E
 refine W.box Z Z Z Z Z Z .N
 exact Z
 exact Z
 refine d5.consN Z Z (fun E=>.v Z Z .N) Z ?_
 refine d5.done Z ?_ ?_
 ·refine e8.cons Z Z (.go Z Z (fun E=>W.fieldAddr Z Z Z Z .N) (.skip Z .nil)) (.cons Z Z (.go Z Z (fun E=>.E Z Z Z Z Z Z .N) (.skip Z .nil)) (.cons Z Z (.go Z Z (fun E=>.O Z Z Z Z (C6 ha8) Z .N) (.skip Z .nil)) (.cons Z Z (.go Z Z (fun E=>W.fieldAddr Z Z Z Z .N) (.skip Z .nil)) (.cons Z Z (.go Z Z (fun E=>.E Z Z Z Z Z Z .N) (.skip Z .nil)) (.cons Z Z (.go Z Z (fun E=>.O Z Z Z Z (C6 ha11) Z .N) (.skip Z .nil)) (.cons Z Z (.go Z Z (fun E=>W.build Z Z Z Z .N) (.skip Z .nil)) ?_))))))
  refine e8.skip Z ?_
  refine e8.cons Z Z ?_ ?_
  refine f8.skip Z ?_
  refine f8.go Z Z (fun E=>.v Z Z .N) ?_
  exact f8.nil
  exact e8.nil
 dsimp only[j6]
 refine b5 (.q (.q (.u (W.fieldAddr Z Z Z Z (.E Z Z Z Z Z Z (S.len Z Z (fun hl16=>.j Z Z (.nil (b5 (.J (.virtB 4 d4 (b:=1) (o:=2) Z Z Z Z Z Z ?_)))))))))))
 obtain⟨c55,ho1,h⟩:=bind_some h
 refine AWP.forS ho1 (fun t56 c55=>⟨[(3,(cP 1 0 0)),(15,.c (row 4 k6 t.operators)),(16,(cI (t.operators.length:Int))),(17,(cI t56))],[.dead,(oE 3 (wW a8 a11 2 c55.length)),(oV 4 d4 c55)]⟩) (fun c55 e st=>e=.exit 0∧Sub (au2 t) st ⟨[(3,(cP 1 0 0))],[.dead,(oE 3 (wW a8 a11 2 c55.length)),(oV 4 d4 c55)]⟩) ?_ ?_ ?_ ?_
 ·try dsimp only
  exact Sub.cut ⟨Z,Z,Z,Z,Y⟩ Z ⟨.dead,(.eq Z (by first|rfl|(simp only[lS];done))),.vec,Y⟩ Z
 ·intro t56 c55 hlot56 hltt56 _
  try dsimp only
  refine AWP.q (.u (.F Z Z Z (.nil (b5 (.q (.ae Z hltt56 (.exit (d7 (d7 ⟨Z,?_⟩)))))))))
  exact Sub.env ⟨Z,Y⟩
 ·intro t56 c55 o hlot56 hltt56 h
  unfold ac1 at h
  try dsimp only at h ⊢
  refine AWP.q (.u (.F Z Z Z (.nil (b5 (.q (.af Z hltt56 (.skip (b5 (.q (.J (.q ?_)))))))))))
  obtain⟨a19,ha19,h⟩:=bind_some h
  refine AWP.u (S.idx ha19 Z Z Z Z (W.loadIAgg Z Z Z Z Z (W.alloc Z Z Z Z (W.storeAgg Z Z Z Z Z Z Z (.nil (b5 ?_))))))
  obtain⟨a28,ha28,a31,ha31,a34,ha34,h⟩:=b3 h
  obtain⟨a39,ha39,h⟩:=bind_some h
  refine AWP.drawEI [17,18,21] mixed Z Z Z ?_
  refine d5.consN Z Z (fun E=>.j Z Z .N) Z (.consN Z Z (fun E=>.j Z Z .N) Z (.consN Z Z (fun E=>.ai Z Z Z .N) Z (.consN Z Z (fun E=>W.fieldAddr Z Z Z Z .N) Z (.consN Z Z (fun E=>.E Z Z Z Z Z Z .N) Z (.consN Z Z (fun E=>W.fieldAddr Z Z Z Z .N) Z (.consN Z Z (fun E=>.E Z Z Z Z Z Z .N) Z (.consN Z Z (fun E=>.O Z Z Z Z (C6 ha28) Z .N) Z (.consN Z Z (fun E=>W.fieldAddr Z Z Z Z .N) Z (.consN Z Z (fun E=>.E Z Z Z Z Z Z .N) Z (.consN Z Z (fun E=>.O Z Z Z Z (C6 ha31) Z .N) Z (.consN Z Z (fun E=>W.fieldAddr Z Z Z Z .N) Z (.consN Z Z (fun E=>.E Z Z Z Z Z Z .N) Z (.consN Z Z (fun E=>.O Z Z Z Z (C6 ha34) Z .N) Z (.consN Z Z (fun E=>W.fieldAddr Z Z Z Z .N) Z (.consN Z Z (fun E=>.E Z Z Z Z Z Z .N) Z (.consN Z Z (fun E=>W.build Z Z Z Z .N) Z ?_))))))))))))))))
  apply d5.consE;exact Z;exact Z;intro E
  refine S.lit (f:=d4) (l:=[(⟨a28,a31,a34,a19.cost⟩:i8)]) (ess:=[[.imm (.val (.int .u32 a28)),.imm (.val (.int .u32 a31)),.imm (.val (.int .u32 a34)),int a19.cost]]) Z Z Z Z Z Z Z ⟨⟨.inl Z,.inl Z,.inl Z,.inl Z,Y⟩,Y⟩ Z Z Z .N
  exact Z
  exact Z
  apply d5.consE;exact Z;exact Z;intro E
  refine S.append (f:=d4) ha39 Z Z Z Z Z Z (.own Z Z) Z Z Z Z .N
  exact Z
  exact Z
  refine d5.consN Z Z (fun E=>.ai Z Z Z .N) Z (.consN Z Z (fun E=>W.fieldAddr Z Z Z Z .N) Z ?_)
  apply d5.consE (v:=.undef);exact Z;exact Z;intro E
  refine W.store Z Z Z Z Z .N
  exact Z
  exact Z
  refine d5.done Z ?_ ?_
  ·refine e8.cons Z Z (.go Z Z (fun E=>.j Z Z .N) (.go Z Z (fun E=>.j Z Z .N) (.go Z Z (fun E=>.j Z Z .N) (.skip Z .nil)))) (.cons Z Z (.go Z Z (fun E=>.j Z Z .N) (.go Z Z (fun E=>.j Z Z .N) (.skip Z (.skip Z .nil)))) (.cons Z Z (.go Z Z (fun E=>.ai Z Z Z .N) (.go Z Z (fun E=>.ai Z Z Z .N) (.skip Z (.skip Z .nil)))) (.cons Z Z (.go Z Z (fun E=>W.fieldAddr Z Z Z Z .N) (.go Z Z (fun E=>W.fieldAddr Z Z Z Z .N) (.skip Z (.skip Z .nil)))) (.cons Z Z (.go Z Z (fun E=>.E Z Z Z Z Z Z .N) (.go Z Z (fun E=>.E Z Z Z Z Z Z .N) (.skip Z (.skip Z .nil)))) (.cons Z Z (.go Z Z (fun E=>W.fieldAddr Z Z Z Z .N) (.skip Z (.skip Z (.skip Z .nil)))) (.cons Z Z (.go Z Z (fun E=>.E Z Z Z Z Z Z .N) (.skip Z (.skip Z (.skip Z .nil)))) (.cons Z Z (.go Z Z (fun E=>.O Z Z Z Z (C6 ha28) Z .N) (.skip Z (.skip Z (.skip Z .nil)))) (.cons Z Z (.go Z Z (fun E=>W.fieldAddr Z Z Z Z .N) (.skip Z (.skip Z (.skip Z .nil)))) (.cons Z Z (.go Z Z (fun E=>.E Z Z Z Z Z Z .N) (.skip Z (.skip Z (.skip Z .nil)))) (.cons Z Z (.go Z Z (fun E=>.O Z Z Z Z (C6 ha31) Z .N) (.skip Z (.skip Z (.skip Z .nil)))) (.cons Z Z (.go Z Z (fun E=>W.fieldAddr Z Z Z Z .N) (.skip Z (.skip Z (.skip Z .nil)))) ?_)))))))))))
   refine e8.cons Z Z (.go Z Z (fun E=>.E Z Z Z Z Z Z .N) (.skip Z (.skip Z (.skip Z .nil)))) (.cons Z Z (.go Z Z (fun E=>.O Z Z Z Z (C6 ha34) Z .N) (.skip Z (.skip Z (.skip Z .nil)))) (.cons Z Z (.go Z Z (fun E=>W.fieldAddr Z Z Z Z .N) (.skip Z (.skip Z (.skip Z .nil)))) (.cons Z Z (.go Z Z (fun E=>.E Z Z Z Z Z Z .N) (.skip Z (.skip Z (.skip Z .nil)))) (.cons Z Z (.go Z Z (fun E=>W.build Z Z Z Z .N) (.skip Z (.skip Z (.skip Z .nil)))) ?_))))
   refine e8.skip Z (e8.skip Z ?_)
   refine e8.cons Z Z ?_ ?_
   refine f8.skip Z (f8.skip Z ?_)
   refine f8.go Z Z (fun E=>.ai Z Z Z .N) ?_
   refine f8.skip Z (f8.nil)
   refine e8.cons Z Z ?_ ?_
   refine f8.skip Z (f8.skip Z ?_)
   refine f8.go Z Z (fun E=>W.fieldAddr Z Z Z Z .N) ?_
   refine f8.skip Z (f8.nil)
   refine e8.skip Z (e8.nil)
  dsimp only[j6]
  refine d6 (b5 (.j (env':=[(3,(cP 1 0 0)),(15,.c (row 4 k6 t.operators)),(16,(cI (t.operators.length:Int))),(17,(cI t56))]) (σ':=[.dead,(oE 3 (wW a8 a11 2 a39.length)),(oV 4 d4 a39),(oE 4 [row 1 intI a19.pre,row 1 intI a19.add,row 1 intI a19.del,int a19.cost]),(oV 4 d4 [(⟨a28,a31,a34,a19.cost⟩:i8)])]) 2 5 Z Z Z ⟨Z,Z,Z,Z,Y⟩ Z ⟨Y,⟨Z,Z⟩,⟨Blk.im_ok _ _ _,g9 Z⟩,⟨Z,Z⟩,⟨Blk.im_ok _ _ _,g9 Z⟩,Y⟩ (.u (.add Z Z Z (by omega) (.j Z Z (.nil ?_))))))
  obtain rfl:=oi h
  refine b5 (Sub.cut ⟨Z,Z,Z,Z,Y⟩ Z ⟨.dead,.one Z,.vec,Y⟩ Z)
 ·intro e s hq
  obtain⟨rfl,hs⟩:=hq
  refine⟨_,hs,?_⟩
  refine i6 (b5 (.q (.u (.j Z Z (.v Z Z (.nil (b5 (.ret ?_))))))))
  obtain rfl:=oi h
  exact⟨⟨[(2,(cP 1 0 0))],[.dead,(oE 3 (wW a8 a11 2 c55.length)),(oV 4 d4 c55)]⟩,Sub.env ⟨Z,Y⟩,Done.ret Z ⟨Z,Z⟩⟩
theorem S5{start:Int}{goal:Int}{l:List i8}{r:Unit}(h:A8 start goal l=some r):FnOk prog 55 [(cP 0 0 0)] (aq6 start goal l) (fun tt ss=>tt=.c (.imm (.val (.int .u32 start)))∧ss=[(oE 3 (wW start goal 1 l.length)),(oV 4 d4 l)]):=by
 refine FnOk.enter (rs:=[.t 2]) func55 Z ntmps55 results55 Z ⟨Y,Y⟩ (by kernel_rfl) Z ?_
 refine AWP.weak ?_
 unfold A8 at h
 refine AWP.q (.u (.v Z Z (.nil (b5 (.q (.u (.j Z Z (.ai Z Z Z (W.fieldAddr Z Z Z Z (.E Z Z Z Z Z Z (.v Z Z (.nil (b5 (.ret ?_))))))))))))))
 obtain rfl:=oi h
 exact⟨⟨[(2,.c (.imm (.val (.int .u32 start))))],[(oE 3 (wW start goal 1 l.length)),(oV 4 d4 l)]⟩,Sub.env ⟨Z,Y⟩,Done.ret Z ⟨Z,Z⟩⟩
theorem aa8{sv:Int}{start:Int}{goal:Int}{l:List i8}{r:Unit}(h:E3 sv start goal l=some r):FnOk prog 81 [(cP 0 0 0),.c (.imm (.val (.int .u32 sv)))] (aq4 sv start goal l) (fun tt ss=>tt=.c (.fn 95 [.ptr 2 0 0,.ptr 3 0 0])∧ss=[(oE 3 (wW start goal 1 l.length)),(oV 4 d4 l),(o1 (.ptr 0 0 0)),(o1 (.imm (.val (.int .u32 sv))))]):=by
 refine FnOk.enter (rs:=[.t 4]) func81 Z ntmps81 results81 Z ⟨Y,Y⟩ (by kernel_rfl) Z ?_
 refine AWP.weak ?_
 unfold E3 at h
 refine AWP.q (.u (W.box Z Z Z Z Z Z (W.box Z Z Z Z Z Z (.v Z Z (.nil (b5 (.q (.u (.makeFunc Z Z (.v Z Z (.nil (b5 (.ret ?_)))))))))))))
 obtain rfl:=oi h
 exact⟨⟨[(4,.c (.fn 95 [.ptr 2 0 0,.ptr 3 0 0]))],[(oE 3 (wW start goal 1 l.length)),(oV 4 d4 l),(o1 (.ptr 0 0 0)),(o1 (.imm (.val (.int .u32 sv))))]⟩,Sub.env ⟨Z,Y⟩,Done.ret Z ⟨Z,Z⟩⟩
theorem as3{start:Int}{goal:Int}{l:List i8}{r:Li×Bool}(h:J2 start goal l=some r):FnOk prog 74 [.c (.ifc 99 [.ptr 0 0 0] false)] (T3 start goal l) (fun tt ss=>tt=.tup [.c (.own 12 0 r.1.length),(cB r.2)]∧ss=[(oE 3 (wW start goal 1 l.length)),(oV 4 d4 l),.dead,.dead,.dead,.dead,.dead,.dead,.dead,.dead,.dead,.dead,(oV 1 eU32 r.1)]):=by
 refine FnOk.enter (rs:=[.t 2,.t 3]) func74 Z ntmps74 results74 Z ⟨Y,Y,Y⟩ (by kernel_rfl) Z ?_
 refine AWP.weak ?_
 unfold J2 at h
 refine AWP.q (.u (.v Z Z (.v Z Z (.nil (b5 (.q ?_))))))
 obtain⟨a12,ha12,h⟩:=bind_some h
 refine AWP.u (.j Z Z (S.invokeP (r2:=.c (.imm (.val (.int .u32 start)))) (σ'':=[(oE 3 (wW start goal 1 l.length)),(oV 4 d4 l)]) Z Z Z (FnOk.lend [0,1] (S5 ha12) Z Z Z Z Z Z (by exact⟨(.one Z),.vec,Y⟩) Z (by exact⟨(.live Z (.one Z)),(.live Z .vec),Y⟩) Z Z (by exact⟨(.new 0 Z Z (.one Z)),(.new 1 Z Z .vec),Y⟩)) (S.lit (f:=eU32) (l:=[start]) (ess:=[[.imm (.val (.int .u32 start))]]) Z Z Z Z Z Z Z ⟨⟨.inl Z,Y⟩,Y⟩ Z Z Z (W.alloc Z Z Z Z (W.store Z Z Z Z Z (.nil (b5 (.q ?_))))))))
 obtain⟨a16,ha16,h⟩:=bind_some h
 refine AWP.u (W.makeMap vU noV Z Z Z (.j Z Z (S.invokeP (r2:=.c (.imm (.val (.int .u32 start)))) (σ'':=[(oE 3 (wW start goal 1 l.length)),(oV 4 d4 l),(oV 1 eU32 [start]),(o1 (.own 2 0 ([start].length))),(oW vU noV ([]:List (Int×Unit)))]) Z Z Z (FnOk.lend [0,1] (S5 ha16) Z Z Z Z Z Z (by exact⟨(.one Z),.vec,Y⟩) Z (by exact⟨(.live Z (.one Z)),(.live Z .vec),Y⟩) Z Z (by exact⟨(.new 0 Z Z (.one Z)),(.new 1 Z Z .vec),(.old Z Z Z),(.old Z Z Z),(.old Z Z Z),Y⟩)) (S.build0 Z Z Z (W.insertU (fk:=vU) (k:=start) I3 Z Z Z Z Z (.j Z Z (W.alloc Z Z Z Z (W.store Z Z Z Z Z (.nil (b5 (.q (.u (.v Z Z (.nil (b5 (.q (.J (.virtV 1 eU32 6 Z Z Z ?_))))))))))))))))))
 obtain⟨oo,ho1,h⟩:=bind_some h
 refine AWP.loopS ho1 (fun(c56,c57,c58)=>⟨[(0,.c (.ifc 99 [.ptr 0 0 0] false)),(4,(cP 3 0 0)),(5,(cP 5 0 0)),(6,.c (.own 6 0 c58.length))],[(oE 3 (wW start goal 1 l.length)),(oV 4 d4 l),(oV 1 eU32 c56),(o1 (.own 2 0 c56.length)),(oW vU noV c57),(o1 (.map 4)),(oV 1 eU32 c58)]⟩) (fun o e st=>match o with| .inl c59=>e=.exit 0∧Sub (T3 start goal l) st ⟨[(6,.c (.own 6 0 c59.length))],[(oE 3 (wW start goal 1 l.length)),(oV 4 d4 l),.dead,.dead,.dead,.dead,(oV 1 eU32 c59)]⟩| .inr x=>e=.ret∧∃J,Sub (T3 start goal l) st J∧Done [.t 2,.t 3] (fun tt ss=>tt=.tup [.c (.own 12 0 x.1.length),(cB x.2)]∧ss=[(oE 3 (wW start goal 1 l.length)),(oV 4 d4 l),.dead,.dead,.dead,.dead,.dead,.dead,.dead,.dead,.dead,.dead,(oV 1 eU32 x.1)]) .ret J) ?_ ?_ ?_
 ·try dsimp only
  exact Sub.env ⟨Z,Z,Z,(F2 (by first|rfl|simp only[lS])),Y⟩
 ·intro s o h
  obtain⟨c56,c57,c58⟩:=s
  unfold K4 at h
  try dsimp only at h ⊢
  refine AWP.q (.q (.u (.E Z Z Z Z Z Z (S.lenO Z Z Z (fun hl20=>.gtr Z Z Z (.nil (b5 (.ite Z h (fun hc60 h=> ?_) (fun hc60 h=> ?_)))))))))
  ·refine AWP.skip (b5 (.J (.q ?_)))
   obtain⟨a26,ha26,h⟩:=bind_some h
   refine AWP.u (.E Z Z Z Z Z Z (.E Z Z Z Z Z Z (S.lenO Z Z Z (fun hl24=>.sub' Z Z Z (by omega) (S.idxO ha26 Z Z Z Z Z (S.loadO ha26 Z Z Z Z Z (.v Z Z (.nil (b5 (.q ?_))))))))))
   obtain⟨u32,hu32,h⟩:=bind_some h
   refine AWP.u (.E Z Z Z Z Z Z (.E Z Z Z Z Z Z (S.lenO Z Z Z (fun hl30=>.sub' Z Z Z (by omega) (S.vTo (V2 c56) hu32 Z Z Z Z Z Z (.sub (Sub.reown (env':=[(0,.c (.ifc 99 [.ptr 0 0 0] false)),(4,(cP 3 0 0)),(5,(cP 5 0 0)),(6,.c (.own 6 0 c58.length)),(7,.c (.imm (.val (.int .u32 a26)))),(20,(cI (c56.length:Int))),(21,(cB (decide (0<(c56.length:Int))))),(24,(cI (c56.length:Int))),(25,(cI ((c56.length:Int) - 1))),(27,.c (.imm (.val (.int .u32 a26)))),(30,(cI (c56.length:Int))),(31,(cI ((c56.length:Int) - 1))),(32,.c (.own 7 0 ((r8 c56 0 ((c56.length:Int) - 1)).length)))]) 32 (vw_to (V2 c56) hu32) Z Z Z Z Z Z Z Z (by exact⟨.inr Z,.inr Z,.inr Z,.inr Z,.inr Z,.inr Z,.inr Z,.inr Z,.inr Z,.inr Z,.inr Z,.inr Z,.inl ⟨Z,Z⟩,Y⟩)) (W.store Z Z Z Z Z (.nil (b5 (.q (.j (env':=[(0,.c (.ifc 99 [.ptr 0 0 0] false)),(4,(cP 3 0 0)),(5,(cP 5 0 0)),(6,.c (.own 6 0 c58.length)),(7,.c (.imm (.val (.int .u32 a26))))]) (σ':=[(oE 3 (wW start goal 1 l.length)),(oV 4 d4 l),(oV 1 eU32 (r8 c56 0 ((c56.length:Int) - 1))),(o1 (.own 2 0 ((r8 c56 0 ((c56.length:Int) - 1)).length))),(oW vU noV c57),(o1 (.map 4)),(oV 1 eU32 c58)]) 2 7 Z Z Z ⟨Z,Z,Z,Z,Z,Y⟩ Z ⟨⟨Z,Z⟩,⟨Blk.im_ok _ _ _,g9 Z⟩,⟨Blk.im_ok _ _ _,g9 Z⟩,⟨Z,Z⟩,⟨Z,Z⟩,⟨Z,Z⟩,⟨Blk.im_ok _ _ _,g9 Z⟩,Y⟩ ?_)))))))))))
   obtain⟨a36,ha36,h⟩:=bind_some h
   refine AWP.u (.j Z Z (.j Z Z (S.lit (f:=eU32) (l:=[a26]) (ess:=[[.imm (.val (.int .u32 a26))]]) Z Z Z Z Z Z Z ⟨⟨.inl Z,Y⟩,Y⟩ Z Z Z (S.append (f:=eU32) ha36 Z Z Z Z Z Z (.own Z Z) Z Z Z Z (.v Z Z (.nil (b5 (.q (.q (.j (env':=[(0,.c (.ifc 99 [.ptr 0 0 0] false)),(4,(cP 3 0 0)),(5,(cP 5 0 0)),(6,.c (.own 6 0 a36.length)),(7,.c (.imm (.val (.int .u32 a26))))]) (σ':=[(oE 3 (wW start goal 1 l.length)),(oV 4 d4 l),(oV 1 eU32 (r8 c56 0 ((c56.length:Int) - 1))),(o1 (.own 2 0 ((r8 c56 0 ((c56.length:Int) - 1)).length))),(oW vU noV c57),(o1 (.map 4)),(oV 1 eU32 a36),(oV 1 eU32 [a26])]) 6 8 Z Z Z ⟨Z,Z,Z,Z,Z,Y⟩ Z ⟨⟨Z,Z⟩,⟨Blk.im_ok _ _ _,g9 Z⟩,⟨Blk.im_ok _ _ _,g9 Z⟩,⟨Z,Z⟩,⟨Z,Z⟩,⟨Z,Z⟩,⟨Blk.im_ok _ _ _,g9 Z⟩,⟨Blk.im_ok _ _ _,g9 Z⟩,Y⟩ ?_))))))))))
   obtain⟨a39,ha39,h⟩:=bind_some h
   refine AWP.u (.j Z Z (.j Z Z (S.invokeP (r2:=.c (.fn 95 [.ptr 8 0 0,.ptr 9 0 0])) (σ'':=[(oE 3 (wW start goal 1 l.length)),(oV 4 d4 l),(oV 1 eU32 (r8 c56 0 ((c56.length:Int) - 1))),(o1 (.own 2 0 ((r8 c56 0 ((c56.length:Int) - 1)).length))),(oW vU noV c57),(o1 (.map 4)),(oV 1 eU32 a36),(oV 1 eU32 [a26]),(o1 (.ptr 0 0 0)),(o1 (.imm (.val (.int .u32 a26))))]) Z Z Z (FnOk.lend [0,1] (aa8 ha39) Z Z Z Z Z Z (by exact⟨(.one Z),.vec,Y⟩) Z (by exact⟨(.live Z (.one Z)),(.live Z .vec),Y⟩) Z Z (by exact⟨(.new 0 Z Z (.one Z)),(.new 1 Z Z .vec),(.old Z Z Z),(.old Z Z Z),(.old Z Z Z),(.old Z Z Z),(.old Z Z Z),(.old Z Z Z),(.new 2 Z Z (.one Z)),(.new 3 Z Z (.one Z)),Y⟩)) (.nil (b5 (.J ?_))))))
   obtain⟨xr61,hr61,h⟩:=bind_some h
   refine AWP.rangeB [(4,none),(5,none)] Z Z Z (fun as61 bo61 hA61 hB61=>⟨[(oE 3 (wW start goal 1 l.length)),(oV 4 d4 l),(oV 1 eU32 (r8 c56 0 ((c56.length:Int) - 1))),(o1 (.own 2 0 ((r8 c56 0 ((c56.length:Int) - 1)).length))),(oW vU noV c57),(o1 (.map 4)),(oV 1 eU32 a36),(oV 1 eU32 [a26]),(o1 (.ptr 0 0 0)),(o1 (.imm (.val (.int .u32 a26)))),.one (k7 63 [40] as61 bo61 .ready none [(4,none),(5,none)] [.ptr 3 0 0,.ptr 5 0 0])],fun tt ss=>tt=.tup []∧ss=[(oE 3 (wW start goal 1 l.length)),(oV 4 d4 l),.dead,(o1 (.own 11 0 xr61.2.length)),(oW vU noV xr61.1),(o1 (.map 4)),(oV 1 eU32 a36),(oV 1 eU32 [a26]),(o1 (.ptr 0 0 0)),(o1 (.imm (.val (.int .u32 a26)))),.one (k7 63 [40] as61 bo61 .ready none [(4,none),(5,none)] [.ptr 3 0 0,.ptr 5 0 0]),(oV 1 eU32 xr61.2)],Z,?_,?_⟩)
   ·refine FnOk.enter (rs:=[]) func95 Z ntmps95 results95 Z Y (by kernel_rfl) Z ?_
    refine AWP.weak ?_
    unfold L6 at hr61
    try dsimp only at hr61
    refine AWP.j (env':=[(0,.c (.yld 10)),(1,(cP 8 0 0)),(2,(cP 9 0 0))]) (σ':=[(oE 3 (wW start goal 1 l.length)),(oV 4 d4 l),.dead,(o1 (.own 11 0 ((r8 c56 0 ((c56.length:Int) - 1)).length))),(oW vU noV c57),(o1 (.map 4)),(oV 1 eU32 a36),(oV 1 eU32 [a26]),(o1 (.ptr 0 0 0)),(o1 (.imm (.val (.int .u32 a26)))),.one (k7 63 [40] as61 bo61 .ready none [(4,none),(5,none)] [.ptr 3 0 0,.ptr 5 0 0]),(oV 1 eU32 (r8 c56 0 ((c56.length:Int) - 1)))]) 11 2 Z Z Z ⟨Z,Z,Z,Y⟩ Z ⟨⟨Z,Z⟩,⟨Blk.im_ok _ _ _,g9 Z⟩,Y,⟨Z,Z⟩,⟨Z,Z⟩,⟨Z,Z⟩,⟨Blk.im_ok _ _ _,g9 Z⟩,⟨Blk.im_ok _ _ _,g9 Z⟩,⟨Z,Z⟩,⟨Z,Z⟩,⟨Z,Z⟩,⟨Blk.im_ok _ _ _,g9 Z⟩,Y⟩ (.q (.u (.E Z Z Z Z Z Z (.ai Z Z Z (W.fieldAddr Z Z Z Z (.E Z Z Z Z Z Z (S.lenO Z Z Z (fun hl10=>.j Z Z (.nil (b5 (.J ?_)))))))))))
    obtain⟨⟨c64,c65⟩,ho2,hr61⟩:=bind_some hr61
    try dsimp only at hr61
    refine AWP.forS ho2 (fun t66 (c64,c65)=>⟨[(0,.c (.yld 10)),(2,(cP 9 0 0)),(9,.c (.own 1 0 l.length)),(10,(cI (l.length:Int))),(11,(cI t66))],[(oE 3 (wW start goal 1 l.length)),(oV 4 d4 l),.dead,(o1 (.own 11 0 c65.length)),(oW vU noV c64),(o1 (.map 4)),(oV 1 eU32 a36),(oV 1 eU32 [a26]),(o1 (.ptr 0 0 0)),(o1 (.imm (.val (.int .u32 a26)))),.one (k7 63 [40] as61 bo61 .ready none [(4,none),(5,none)] [.ptr 3 0 0,.ptr 5 0 0]),(oV 1 eU32 c65)]⟩) (fun(c64,c65) e st=>e=.exit 0∧Sub ([(oE 3 (wW start goal 1 l.length)),(oV 4 d4 l),(oV 1 eU32 (r8 c56 0 ((c56.length:Int) - 1))),(o1 (.own 2 0 ((r8 c56 0 ((c56.length:Int) - 1)).length))),(oW vU noV c57),(o1 (.map 4)),(oV 1 eU32 a36),(oV 1 eU32 [a26]),(o1 (.ptr 0 0 0)),(o1 (.imm (.val (.int .u32 a26)))),.one (k7 63 [40] as61 bo61 .ready none [(4,none),(5,none)] [.ptr 3 0 0,.ptr 5 0 0])]:b6) st ⟨[],[(oE 3 (wW start goal 1 l.length)),(oV 4 d4 l),.dead,(o1 (.own 11 0 c65.length)),(oW vU noV c64),(o1 (.map 4)),(oV 1 eU32 a36),(oV 1 eU32 [a26]),(o1 (.ptr 0 0 0)),(o1 (.imm (.val (.int .u32 a26)))),.one (k7 63 [40] as61 bo61 .ready none [(4,none),(5,none)] [.ptr 3 0 0,.ptr 5 0 0]),(oV 1 eU32 c65)]⟩) ?_ ?_ ?_ ?_
    ·try dsimp only
     exact Sub.env ⟨Z,Z,Z,Z,Z,Y⟩
    ·intro t66 s hlot66 hltt66 _
     obtain⟨c64,c65⟩:=s
     try dsimp only
     refine AWP.q (.u (.F Z Z Z (.nil (b5 (.q (.ae Z hltt66 (.exit (d7 (d7 ⟨Z,?_⟩)))))))))
     exact Sub.env Y
    ·intro t66 s o hlot66 hltt66 h
     obtain⟨c64,c65⟩:=s
     unfold K1 at h
     try dsimp only at h ⊢
     refine AWP.q (.u (.F Z Z Z (.nil (b5 (.q (.af Z hltt66 (.skip (b5 (.q (.J (.q ?_)))))))))))
     obtain⟨ai14,hai14,h⟩:=bind_some h
     refine AWP.u (.j Z Z (S.idxO hai14 Z Z Z Z Z (S.loadOAgg hai14 Z Z Z Z Z Z Z (W.alloc Z Z Z Z (.v Z Z (W.storeAgg Z Z Z Z Z Z Z (.nil (b5 (.q ?_)))))))))
     rcases bft (decide (Go.bits .and .u32 a26 ai14.pre=ai14.pre)) with hb67|hb67
     ·replace h:=P1 hb67 h
      refine AWP.u (.E Z Z Z Z Z Z (W.fieldAddr Z Z Z Z (.E Z Z Z Z Z Z (.bits Z Z Z (by simp) (W.fieldAddr Z Z Z Z (.E Z Z Z Z Z Z (.ad Z Z Z (.j Z Z (.z Z Z Z hb67 (.j Z Z (.z Z Z Z hb67 (.j Z Z (.z Z Z Z hb67 (W.fieldAddr Z Z Z Z (.z Z Z Z hb67 (.E Z Z Z Z Z Z (.z Z Z Z hb67 (.E Z Z Z Z Z Z (.z Z Z Z hb67 (W.fieldAddr Z Z Z Z (.z Z Z Z hb67 (.E Z Z Z Z Z Z (.z Z Z Z hb67 (.bits Z Z Z (by simp) (.z Z Z Z hb67 (W.fieldAddr Z Z Z Z (.z Z Z Z hb67 (.E Z Z Z Z Z Z (.z Z Z Z hb67 (.bits Z Z Z (by simp) (.z Z Z Z hb67 (W.build Z Z Z Z ?_))))))))))))))))))))))))))))))))
      refine AOps.z Z Z Z hb67 ?_;refine AOps.yieldB (E1:=[(8,(cP 13 0 0)),(40,.agg [int t66,int ai14.cost,.imm (.val (.int .u32 (Go.bits .or .u32 (Go.bits .andNot .u32 a26 ai14.del) ai14.add)))]),(4,(cP 3 0 0)),(5,(cP 5 0 0))]) (σ1:=[(oE 3 (wW start goal 1 l.length)),(oV 4 d4 l),.dead,(o1 (.own 11 0 c65.length)),(oW vU noV c64),(o1 (.map 4)),(oV 1 eU32 a36),(oV 1 eU32 [a26]),(o1 (.ptr 0 0 0)),(o1 (.imm (.val (.int .u32 a26)))),.one (k7 63 [40] as61 bo61 .ready none [(4,none),(5,none)] [.ptr 3 0 0,.ptr 5 0 0]),(oV 1 eU32 c65),(oE 4 [.imm (.val (.int .u32 ai14.pre)),.imm (.val (.int .u32 ai14.add)),.imm (.val (.int .u32 ai14.del)),int ai14.cost]),(oE 3 [int t66,int ai14.cost,.imm (.val (.int .u32 (Go.bits .or .u32 (Go.bits .andNot .u32 a26 ai14.del) ai14.add)))])]) hA61 hB61 Z Z Z Z Z Z Z Z Z Z ?_ ?_
      ·refine AWP.u (W.alloc Z Z Z Z (W.storeAgg Z Z Z Z Z Z Z (.nil ?_)))
       exact⟨Z,Z⟩
      refine AWP.sub (s':=⟨[(4,(cP 3 0 0)),(5,(cP 5 0 0)),(8,(cP 13 0 0))],[(oE 3 (wW start goal 1 l.length)),(oV 4 d4 l),.dead,(o1 (.own 11 0 c65.length)),(oW vU noV c64),(o1 (.map 4)),(oV 1 eU32 a36),(oV 1 eU32 [a26]),(o1 (.ptr 0 0 0)),(o1 (.imm (.val (.int .u32 a26)))),.one (k7 63 [40] as61 bo61 .busy none [(4,none),(5,none)] [.ptr 3 0 0,.ptr 5 0 0]),(oV 1 eU32 c65),(oE 4 [.imm (.val (.int .u32 ai14.pre)),.imm (.val (.int .u32 ai14.add)),.imm (.val (.int .u32 ai14.del)),int ai14.cost]),(oE 3 [int t66,int ai14.cost,.imm (.val (.int .u32 (Go.bits .or .u32 (Go.bits .andNot .u32 a26 ai14.del) ai14.add)))])]⟩) (Sub.env ⟨Z,Z,Z,Y⟩) (.J (.q (.u (.E Z Z Z Z Z Z (W.fieldAddr Z Z Z Z (.E Z Z Z Z Z Z (W.lookupOkU (fk:=vU) (k:=Go.bits .or .u32 (Go.bits .andNot .u32 a26 ai14.del) ai14.add) I3 Z Z Z Z Z (.j Z Z (.ab Z Z Z (.ab Z Z Z (W.alloc Z Z Z Z (S.store0 Z Z Z (.v Z Z (.nil (b5 (.q (.u (.j Z Z (.not Z Z (.nil (b5 (.ac Z h (fun hc68 h=> ?_) (fun hc68 h=> ?_)))))))))))))))))))))))
      ·refine AWP.q (.u (.E Z Z Z Z Z Z (W.fieldAddr Z Z Z Z (.E Z Z Z Z Z Z (S.build0 Z Z Z (W.mapUpdateU (fk:=vU) (k:=Go.bits .or .u32 (Go.bits .andNot .u32 a26 ai14.del) ai14.add) I3 Z Z Z Z Z (.nil (b5 ?_))))))))
       obtain⟨ab58,hab58,h⟩:=bind_some h
       refine AWP.u (.E Z Z Z Z Z Z (W.fieldAddr Z Z Z Z (.E Z Z Z Z Z Z (S.lit (f:=eU32) (l:=[Go.bits .or .u32 (Go.bits .andNot .u32 a26 ai14.del) ai14.add]) (ess:=[[.imm (.val (.int .u32 (Go.bits .or .u32 (Go.bits .andNot .u32 a26 ai14.del) ai14.add)))]]) Z Z Z Z Z Z Z ⟨⟨.inl Z,Y⟩,Y⟩ Z Z Z (S.append (f:=eU32) hab58 Z Z Z Z Z Z (.own Z Z) Z Z Z Z (W.store Z Z Z Z Z (.nil (d6 (O2 Z Z (.z Z Z Z hb67 (.not Z Z (.U Z hb67 Z Z (.nil (b5 (.j (env':=[(0,.c (.yld 10)),(2,(cP 9 0 0)),(9,.c (.own 1 0 l.length)),(10,(cI (l.length:Int))),(11,(cI t66)),(38,(cB false))]) (σ':=[(oE 3 (wW start goal 1 l.length)),(oV 4 d4 l),.dead,(o1 (.own 11 0 ab58.length)),(oW vU noV (mset c64 (Go.bits .or .u32 (Go.bits .andNot .u32 a26 ai14.del) ai14.add) ())),(o1 (.map 4)),(oV 1 eU32 a36),(oV 1 eU32 [a26]),(o1 (.ptr 0 0 0)),(o1 (.imm (.val (.int .u32 a26)))),.one (k7 63 [40] as61 bo61 .ready none [(4,none),(5,none)] [.ptr 3 0 0,.ptr 5 0 0]),(oV 1 eU32 ab58),(oE 4 [.imm (.val (.int .u32 ai14.pre)),.imm (.val (.int .u32 ai14.add)),.imm (.val (.int .u32 ai14.del)),int ai14.cost]),(oE 3 [int t66,int ai14.cost,.imm (.val (.int .u32 (Go.bits .or .u32 (Go.bits .andNot .u32 a26 ai14.del) ai14.add)))]),(oE 0 []),(oV 1 eU32 [Go.bits .or .u32 (Go.bits .andNot .u32 a26 ai14.del) ai14.add])]) 11 16 Z Z Z ⟨Z,Z,Z,Z,Z,Z,Y⟩ Z ⟨⟨Z,Z⟩,⟨Blk.im_ok _ _ _,g9 Z⟩,Y,⟨Z,Z⟩,⟨Z,Z⟩,⟨Z,Z⟩,⟨Blk.im_ok _ _ _,g9 Z⟩,⟨Blk.im_ok _ _ _,g9 Z⟩,⟨Z,Z⟩,⟨Z,Z⟩,⟨Z,Z⟩,⟨Blk.im_ok _ _ _,g9 Z⟩,⟨Z,Z⟩,⟨Z,Z⟩,⟨Z,Z⟩,⟨Blk.im_ok _ _ _,g9 Z⟩,Y⟩ (.condF Z (.skip (d6 (b5 (.u (.add Z Z Z (by omega) (.j Z Z (.nil ?_)))))))))))))))))))))))
       obtain rfl:=oi h
       refine b5 (Sub.cut ⟨Z,Z,Z,Z,Z,Y⟩ Z ⟨.one Z,.vec,.dead,.one Z,.one Z,.one Z,.vec,.vec,.one Z,.one Z,.one Z,.vec,Y⟩ Z)
      ·refine AWP.skip (d6 (O2 Z Z (.z Z Z Z hb67 (.not Z Z (.U Z hb67 Z Z (.nil (b5 (.condF Z (.skip (d6 (b5 (.u (.add Z Z Z (by omega) (.j Z Z (.nil ?_)))))))))))))))
       obtain rfl:=oi h
       refine b5 (Sub.cut ⟨Z,Z,Z,Z,Z,Y⟩ Z ⟨.one Z,.vec,.dead,.one Z,.one Z,.one Z,.vec,.vec,.one Z,.one Z,.one Z,.vec,Y⟩ Z)
     ·replace h:=P3 hb67 h
      refine AWP.u (.E Z Z Z Z Z Z (W.fieldAddr Z Z Z Z (.E Z Z Z Z Z Z (.bits Z Z Z (by simp) (W.fieldAddr Z Z Z Z (.E Z Z Z Z Z Z (.ad Z Z Z (.j Z Z (.B Z Z Z hb67 (.B Z Z Z hb67 (.B Z Z Z hb67 (.B Z Z Z hb67 (.B Z Z Z hb67 (.B Z Z Z hb67 (.B Z Z Z hb67 (.B Z Z Z hb67 (.B Z Z Z hb67 (.B Z Z Z hb67 (.B Z Z Z hb67 (.B Z Z Z hb67 (.B Z Z Z hb67 (.B Z Z Z hb67 (.aa Z hb67 Z Z (.nil (b5 (.condF Z (.skip (d6 (b5 (.u (.add Z Z Z (by omega) (.j Z Z (.nil ?_)))))))))))))))))))))))))))))))))
      obtain rfl:=oi h
      refine b5 (Sub.cut ⟨Z,Z,Z,Z,Z,Y⟩ Z ⟨.one Z,.vec,.dead,.one Z,.one Z,.one Z,.vec,.vec,.one Z,.one Z,.one Z,.vec,Y⟩ Z)
    ·intro e s hq
     obtain⟨rfl,hs⟩:=hq
     refine⟨_,hs,?_⟩
     refine i6 ?_
     obtain rfl:=oi hr61
     exact⟨⟨[],[(oE 3 (wW start goal 1 l.length)),(oV 4 d4 l),.dead,(o1 (.own 11 0 c65.length)),(oW vU noV c64),(o1 (.map 4)),(oV 1 eU32 a36),(oV 1 eU32 [a26]),(o1 (.ptr 0 0 0)),(o1 (.imm (.val (.int .u32 a26)))),.one (k7 63 [40] as61 bo61 .ready none [(4,none),(5,none)] [.ptr 3 0 0,.ptr 5 0 0]),(oV 1 eU32 c65)]⟩,Sub.env Y,Done.normal Z ⟨Z,Z⟩⟩
   ·rintro tt ss ⟨rfl,rfl⟩
    obtain⟨c62,c63⟩:=xr61
    try dsimp only at h ⊢
    refine ah2 Z Z (d6 (b5 (.q (.u (.E Z Z Z Z Z Z (S.lenMap (fk:=vU) (fv:=noV) Z Z Z (.gtr Z Z Z (.nil (b5 (.ite Z h (fun hc69 h=> ?_) (fun hc69 h=> ?_)))))))))))
    ·refine AWP.q (.u (.v Z Z (.v Z Z (.nil (b5 (.virtV 1 eU32 2 Z Z Z (.ret (j5 ?_))))))))
     obtain rfl:=oi h
     refine e6 ⟨_,Z,Z,?_⟩
     exact⟨⟨[(2,.c (.own 12 0 ([].length))),(3,(cB false))],[(oE 3 (wW start goal 1 l.length)),(oV 4 d4 l),.dead,.dead,.dead,.dead,.dead,.dead,.dead,.dead,.dead,.dead,(oV 1 eU32 [])]⟩,Sub.cut ⟨(F2 (by first|rfl|simp only[lS])),Z,Y⟩ Z ⟨.one Z,.vec,.dead,.dead,.dead,.dead,.dead,.dead,.dead,.dead,.dead,.dead,.vec,Y⟩ Z,Done.ret Z ⟨Z,Z⟩⟩
    ·refine AWP.skip (d6 ?_)
     obtain rfl:=oi h
     refine b5 ⟨_,Z,?_⟩
     exact(Sub.move (env':=[(0,.c (.ifc 99 [.ptr 0 0 0] false)),(4,(cP 3 0 0)),(5,(cP 5 0 0)),(6,.c (.own 6 0 a36.length))]) (σ':=[(oE 3 (wW start goal 1 l.length)),(oV 4 d4 l),(oV 1 eU32 c63),(o1 (.own 2 0 c63.length)),(oW vU noV c62),(o1 (.map 4)),(oV 1 eU32 a36),(oV 1 eU32 [a26]),(o1 (.ptr 0 0 0)),(o1 (.imm (.val (.int .u32 a26)))),.dead]) 2 11 Z Z Z ⟨Z,Z,Z,Z,Y⟩ Z ⟨⟨Z,Z⟩,⟨Blk.im_ok _ _ _,g9 Z⟩,⟨Blk.im_ok _ _ _,g9 Z⟩,⟨Z,Z⟩,⟨Z,Z⟩,⟨Z,Z⟩,⟨Blk.im_ok _ _ _,g9 Z⟩,⟨Blk.im_ok _ _ _,g9 Z⟩,⟨Z,Z⟩,⟨Z,Z⟩,Y,Y⟩).trans (Sub.cut ⟨Z,Z,Z,Z,Y⟩ Z ⟨.one Z,.vec,.vec,.one Z,.one Z,.one Z,.vec,Y⟩ Z)
  ·refine AWP.exit (d7 ?_)
   obtain rfl:=oi h
   refine d7 ⟨_,Z,Z,?_⟩
   exact Sub.cut ⟨Z,Y⟩ Z ⟨.one Z,.vec,.dead,.dead,.dead,.dead,.vec,Y⟩ Z
 ·intro e s hq
  rcases oo with c59|x
  ·try dsimp only at h hq
   obtain⟨rfl,hs⟩:=hq
   refine⟨_,hs,?_⟩
   refine i6 (b5 (.q (.u (.j Z Z (.v Z Z (.v Z Z (.nil (b5 (.ret ?_)))))))))
   obtain rfl:=oi h
   exact⟨⟨[(2,.c (.own 12 0 c59.length)),(3,(cB true))],[(oE 3 (wW start goal 1 l.length)),(oV 4 d4 l),.dead,.dead,.dead,.dead,.dead,.dead,.dead,.dead,.dead,.dead,(oV 1 eU32 c59)]⟩,(Sub.move (env':=[(2,.c (.own 12 0 c59.length)),(3,(cB true))]) (σ':=[(oE 3 (wW start goal 1 l.length)),(oV 4 d4 l),.dead,.dead,.dead,.dead,.dead,.dead,.dead,.dead,.dead,.dead,(oV 1 eU32 c59)]) 12 6 Z Z Z ⟨Z,Z,Y⟩ Z ⟨⟨Z,Z⟩,⟨Blk.im_ok _ _ _,g9 Z⟩,Y,Y,Y,Y,Y,Y,Y,Y,Y,Y,⟨Blk.im_ok _ _ _,g9 Z⟩,Y⟩).trans (Sub.env ⟨Z,Z,Y⟩),Done.ret Z ⟨Z,Z⟩⟩
  ·try dsimp only at h hq
   obtain⟨rfl,hs⟩:=hq
   refine⟨_,Sub.refl _ _,?_⟩
   refine j5 (e6 ?_)
   obtain rfl:=oi h
   exact hs
theorem aj9{t:e7}{r:(Int×Int)⊕(Int×Int×(List i8)×Li)}(h:G9 t=some r):FnOk prog 53 [.agg (tT t)] (av7 t) (fun tt ss=>(∃v:Int×Int,r=.inl v∧tt=.tup [.c (.imm (.val (.pointer none))),.c (row 1 eU32 []),.agg [int v.1,int v.2]]∧ss=[.dead,(oE 2 [int v.1,int v.2])])∨(∃v:Int×Int×(List i8)×Li,r=.inr v∧tt=.tup [(cP 4 0 0),.c (row 1 eU32 v.2.2.2),.agg [int 0,int 0]]∧ss=[.dead,(oE 2 [int 0,int 0]),.dead,.dead,(oE 3 [.imm (.val (.int .u32 v.1)),.imm (.val (.int .u32 v.2.1)),.own 5 0 v.2.2.1.length]),(oV 4 d4 v.2.2.1)])):=by
 refine FnOk.enter (rs:=[.t 2,.t 3,.cell 4 28 2]) func53 Z ntmps53 results53 Z ⟨Y,Y,rv _ Z,Y⟩ (by kernel_rfl) Z ?_
 refine AWP.weak ?_
 unfold G9 at h
 refine AWP.q (.u (W.box Z Z Z Z Z Z (.v Z Z (.v Z Z (W.alloc Z Z Z Z (.nil (b5 (.q (.q ?_)))))))))
 obtain⟨a10,ha10,h⟩:=bind_some h
 refine AWP.u (W.loadAgg Z Z Z Z Z Z Z (.O Z Z Z Z (K0 ha10) Z (W.alloc Z Z Z Z (W.storeAgg Z Z Z Z Z Z Z (.nil (b5 (.q (.u (W.loadAgg Z Z Z Z Z Z Z (W.build Z Z Z Z (.neqP Z Z Z Z Z Z Z (.nil (b5 (.ac Z h (fun hc58 h=> ?_) (fun hc58 h=> ?_)))))))))))))))
 ·refine AWP.q (.drawEI [3] mixed Z Z Z ?_)
  refine d5.consN Z Z (fun E=>W.loadAgg Z Z Z Z Z Z Z .N) Z (.consN Z Z (fun E=>.v Z Z .N) Z (.consN Z Z (fun E=>.v Z Z .N) Z ?_))
  apply d5.consE (v:=.undef);exact Z;exact Z;intro E
  refine W.storeAgg Z Z Z Z Z Z Z .N
  exact Z
  exact Z
  refine d5.done Z ?_ ?_
  ·refine e8.cons Z Z (.go Z Z (fun E=>W.loadAgg Z Z Z Z Z Z Z .N) (.skip Z .nil)) (.cons Z Z (.go Z Z (fun E=>.v Z Z .N) (.skip Z .nil)) (.cons Z Z (.go Z Z (fun E=>.v Z Z .N) (.skip Z .nil)) ?_))
   refine e8.skip Z (e8.nil)
  dsimp only[j6]
  refine b5 (.nilrow 1 3 Z (.ret (e6 ?_)))
  obtain rfl:=oi h
  exact⟨⟨[(2,.c (.imm (.val (.pointer none)))),(3,.c (row 1 eU32 [])),(4,(cP 1 0 0))],[.dead,(oE 2 [int a10.code,int a10.index])]⟩,Sub.cut ⟨Z,Z,Z,Y⟩ Z ⟨.dead,.one Z,Y⟩ Z,Done.ret Z (.inl ⟨_,Z,Z,Z⟩)⟩
 ·refine AWP.skip (b5 (.q ?_))
  obtain⟨a16,ha16,h⟩:=bind_some h
  refine AWP.u (W.loadAgg Z Z Z Z Z Z Z (.callF (r2:=(cP 4 0 0)) (σ'':=[(oE 4 (tT t)),(oE 2 [int 0,int 0]),(oE 2 [int a10.code,int a10.index]),.dead,(oE 3 [.imm (.val (.int .u32 a16.1)),.imm (.val (.int .u32 a16.2.1)),.own 5 0 a16.2.2.length]),(oV 4 d4 a16.2.2)]) Z Z Z (FnOk.lend [] (space_Of_w_ok ha16) Z Z Z Z Z Z (by exact Y) Z (by exact Y) Z Z (by exact⟨(.old Z Z Z),(.old Z Z Z),(.old Z Z Z),.dead,(.new 1 Z Z (.one Z)),(.new 2 Z Z .vec),Y⟩)) (.v Z Z (.nil (b5 (.q ?_))))))
  obtain⟨a20,ha20,h⟩:=bind_some h
  refine AWP.u (.j Z Z (S.mkIfc Z Z Z (.callF (r2:=.tup [.c (.own 16 0 a20.1.length),(cB a20.2)]) (σ'':=[(oE 4 (tT t)),(oE 2 [int 0,int 0]),(oE 2 [int a10.code,int a10.index]),.dead,(oE 3 [.imm (.val (.int .u32 a16.1)),.imm (.val (.int .u32 a16.2.1)),.own 5 0 a16.2.2.length]),(oV 4 d4 a16.2.2),.dead,.dead,.dead,.dead,.dead,.dead,.dead,.dead,.dead,.dead,(oV 1 eU32 a20.1)]) Z Z Z (FnOk.lend [4,5] (as3 ha20) Z Z Z Z Z Z (by exact⟨(.one Z),.vec,Y⟩) Z (by exact⟨(.live Z (.one Z)),(.live Z .vec),Y⟩) Z Z (by exact⟨(.old Z Z Z),(.old Z Z Z),(.old Z Z Z),.dead,(.new 0 Z Z (.one Z)),(.new 1 Z Z .vec),.dead,.dead,.dead,.dead,.dead,.dead,.dead,.dead,.dead,.dead,(.new 12 Z Z .vec),Y⟩)) (.j Z Z (.ab Z Z Z (.ab Z Z Z (.v Z Z (.v Z Z (.nil (b5 (.q (.q (.u (.j Z Z (.not Z Z (.nil (b5 (.ac Z h (fun hc59 h=> ?_) (fun hc59 h=> ?_)))))))))))))))))))
  ·refine AWP.q (.u (W.build Z Z Z Z (.v Z Z (.v Z Z (W.storeAgg Z Z Z Z Z Z Z (.nil (b5 (.nilrow 1 3 Z (.ret (e6 ?_))))))))))
   obtain rfl:=oi h
   exact⟨⟨[(2,.c (.imm (.val (.pointer none)))),(3,.c (row 1 eU32 [])),(4,(cP 1 0 0))],[.dead,(oE 2 [int 10,int (-7)])]⟩,Sub.cut ⟨Z,Z,Z,Y⟩ Z ⟨.dead,.one Z,Y⟩ Z,Done.ret Z (.inl ⟨_,Z,Z,Z⟩)⟩
  ·refine AWP.skip (b5 (.q ?_))
   obtain⟨a27,ha27,h⟩:=bind_some h
   refine AWP.u (.j Z Z (S.sortFU ha27 (fun hy=>au7 hy) sortF_Lu32_ok (⟨_,func76,Z,Z⟩) Z Z Z Z Z Z ?_))
   refine AOps.nil (b5 (.q (.u (.j Z Z (.j Z Z (W.build Z Z Z Z (.v Z Z (.v Z Z (W.storeAgg Z Z Z Z Z Z Z (.nil (b5 (.frzV (id:=16) (l:=a27) (env2:=[(2,(cP 4 0 0)),(3,.c (row 1 eU32 a27)),(4,(cP 1 0 0))]) (σ2:=[(oE 4 (tT t)),(oE 2 [int 0,int 0]),(oE 2 [int a10.code,int a10.index]),.dead,(oE 3 [.imm (.val (.int .u32 a16.1)),.imm (.val (.int .u32 a16.2.1)),.own 5 0 a16.2.2.length]),(oV 4 d4 a16.2.2),.dead,.dead,.dead,.dead,.dead,.dead,.dead,.dead,.dead,.dead,.dead]) Z Z (by exact⟨⟨_,Z,.inl ⟨Z,Z⟩⟩,⟨_,Z,.inr ⟨_,Z,(sortFU_len ha27),Z⟩⟩,⟨_,Z,.inl ⟨Z,Z⟩⟩,Y⟩) Z (by exact⟨⟨Z,.inl ⟨Z,Z⟩,.inl ⟨Z,Z⟩,.inl ⟨Z,Z⟩,.inl ⟨Z,Z⟩,Y⟩,⟨Z,.inl ⟨Z,Z⟩,.inl ⟨Z,Z⟩,Y⟩,⟨Z,.inl ⟨Z,Z⟩,.inl ⟨Z,Z⟩,Y⟩,Y,⟨Z,.inl ⟨Z,Z⟩,.inl ⟨Z,Z⟩,.inl ⟨Z,Z⟩,Y⟩,FrzB.vec,Y,Y,Y,Y,Y,Y,Y,Y,Y,Y,Y,Y⟩) (.ret ?_)))))))))))))
   obtain rfl:=oi h
   exact⟨⟨[(2,(cP 4 0 0)),(3,.c (row 1 eU32 a27)),(4,(cP 1 0 0))],[.dead,(oE 2 [int 0,int 0]),.dead,.dead,(oE 3 [.imm (.val (.int .u32 a16.1)),.imm (.val (.int .u32 a16.2.1)),.own 5 0 a16.2.2.length]),(oV 4 d4 a16.2.2)]⟩,Sub.cut ⟨Z,Z,Z,Y⟩ Z ⟨.dead,.one Z,.dead,.dead,.one Z,.vec,Y⟩ Z,Done.ret Z (.inr ⟨_,Z,Z,Z⟩)⟩
theorem ao0{r:Unit}(h:K2=some r):FnOk prog 78 [] (ao2) (fun tt ss=>tt=(cP 2 0 0)∧ss=[.one (pmap 1 vU ([]:List (Int×Int))),pool 4 b7 ([]:List b8),(oE 3 [.own 3 0 (([]:Li).length),.map 0,int 0]),.one (prow 1 ([]:Li))]):=by
 refine FnOk.enter (rs:=[.t 0]) func78 Z ntmps78 results78 Z ⟨Y,Y⟩ (by kernel_rfl) Z ?_
 refine AWP.weak ?_
 unfold K2 at h
 refine AWP.q (.u (.v Z Z (.nil (b5 (.q (.u (W.makeMapP 1 vU Z Z Z (.sub (Sub.newPool (size:=4) (f:=b7) Z) (W.build Z Z Z Z (W.box Z Z Z Z Z Z (.v Z Z (.nil (b5 (.virtP 1 (b:=2) (o:=0) Z Z Z Z Z Z (.ret ?_)))))))))))))))
 obtain rfl:=oi h
 exact⟨⟨[(0,(cP 2 0 0))],[.one (pmap 1 vU ([]:List (Int×Int))),pool 4 b7 ([]:List b8),(oE 3 [.own 3 0 (([]:Li).length),.map 0,int 0]),.one (prow 1 ([]:Li))]⟩,Sub.env ⟨Z,Y⟩,Done.ret Z ⟨Z,Z⟩⟩
theorem aq2{sv:Int}{start:Int}{goal:Int}{l:List i8}{r:Unit}(h:P0 sv start goal l=some r):FnOk prog 79 [(cP 0 0 0),.c (.imm (.val (.int .u32 sv)))] (ar0 sv start goal l) (fun tt ss=>tt=(cB (decide (Go.bits .and .u32 sv goal=goal)))∧ss=[(oE 3 (wW start goal 1 l.length)),(oV 4 d4 l)]):=by
 refine FnOk.enter (rs:=[.t 4]) func79 Z ntmps79 results79 Z ⟨Y,Y⟩ (by kernel_rfl) Z ?_
 refine AWP.weak ?_
 unfold P0 at h
 refine AWP.q (.u (.v Z Z (.nil (b5 (.q (.drawI mixed Z ?_))))))
 refine l7.consF Z (fun E=>.j Z Z .N) Z (.consF Z (fun E=>.j Z Z .N) Z (.consF Z (fun E=>.ai Z Z Z .N) Z (.consF Z (fun E=>W.fieldAddr Z Z Z Z .N) Z (.consF Z (fun E=>.E Z Z Z Z Z Z .N) Z (.consF Z (fun E=>.bits Z Z Z (by simp) .N) Z (.consF Z (fun E=>.j Z Z .N) Z (.consF Z (fun E=>.ai Z Z Z .N) Z (.consF Z (fun E=>W.fieldAddr Z Z Z Z .N) Z (.consF Z (fun E=>.E Z Z Z Z Z Z .N) Z (.consF Z (fun E=>.ad Z Z Z .N) Z (.consF Z (fun E=>.v Z Z .N) Z ?_)))))))))))
 refine l7.done ?_
 dsimp only[j6]
 refine b5 (.ret ?_)
 obtain rfl:=oi h
 exact⟨⟨[(4,(cB (decide (Go.bits .and .u32 sv goal=goal))))],[(oE 3 (wW start goal 1 l.length)),(oV 4 d4 l)]⟩,Sub.env ⟨Z,Y⟩,Done.ret Z ⟨Z,Z⟩⟩
theorem G3{l:Li}{l2:List b8}{r:Unit}(h:s5 l l2=some r):FnOk prog 168 [.c (.own 0 0 l.length)] (ag4 l l2) (fun tt ss=>tt=(cI (l.length:Int))∧ss=[.one (prow 1 l),pool 4 b7 l2]):=by
 refine FnOk.enter (rs:=[.t 2]) func168 Z ntmps168 results168 Z ⟨Y,Y⟩ (by kernel_rfl) Z ?_
 refine AWP.weak ?_
 unfold s5 at h
 refine AWP.q (.u (.v Z Z (.nil (b5 (.q (.u (.j Z Z (.lenOwnB Z Z Z (fun hl4=>.v Z Z (.nil (b5 (.ret ?_))))))))))))
 obtain rfl:=oi h
 exact⟨⟨[(2,(cI (l.length:Int)))],[.one (prow 1 l),pool 4 b7 l2]⟩,Sub.env ⟨Z,Y⟩,Done.ret Z ⟨Z,Z⟩⟩
theorem A6{iv:Int}{kv:Int}{l:Li}{l4:List b8}{r:Bool}(h:n8 iv kv l l4=some r):FnOk prog 169 [.c (.own 0 0 l.length),(cI iv),(cI kv)] (af2 iv kv l l4) (fun tt ss=>tt=(cB r)∧ss=[.one (prow 1 l),pool 4 b7 l4]):=by
 refine FnOk.enter (rs:=[.t 6]) func169 Z ntmps169 results169 Z ⟨Y,Y⟩ (by kernel_rfl) Z ?_
 refine AWP.weak ?_
 unfold n8 at h
 refine AWP.q (.u (.v Z Z (.nil (b5 ?_))))
 obtain⟨a9,ha9,en56,hen56,a16,ha16,h⟩:=b3 h
 obtain⟨en57,hen57,h⟩:=bind_some h
 refine AWP.seqJ (⟨[(6,(cB ((decide (en56.key<en57.key))||((decide (en56.key=en57.key)) && (decide (en56.time<en57.time))))))],[.one (prow 1 l),pool 4 b7 l4]⟩) ?_ ?_
 ·rcases bft (decide (en56.key<en57.key)) with hb1|hb1
  ·refine AWP.drawI mixed Z ?_
   refine l7.consF Z (fun E=>.j Z Z .N) Z (.consF Z (fun E=>.j Z Z .N) Z (.consF Z (fun E=>S.idxPb Z Z Z (by simpa only[lS] using q9 ha9) Z Z .N) Z (.consF Z (fun E=>S.loadP ha9 Z Z Z Z .N) Z (.consF Z (fun E=>S.nilCheckE Z Z (by simpa only[lS] using h9 hen56) Z .N) Z (.consF Z (fun E=>S.fieldE Z Z Z (by simpa only[lS] using h9 hen56) Z .N) Z (.consF Z (fun E=>.E Z Z (r9 Z hen56) Z Z Z .N) Z (.consF Z (fun E=>.j Z Z .N) Z (.consF Z (fun E=>.j Z Z .N) Z (.consF Z (fun E=>S.idxPb Z Z Z (by simpa only[lS] using q9 ha16) Z Z .N) Z (.consF Z (fun E=>S.loadP ha16 Z Z Z Z .N) Z (.consF Z (fun E=>S.nilCheckE Z Z (by simpa only[lS] using h9 hen57) Z .N) Z (.consF Z (fun E=>S.fieldE Z Z Z (by simpa only[lS] using h9 hen57) Z .N) Z (.consF Z (fun E=>.E Z Z (r9 Z hen57) Z Z Z .N) Z (.consF Z (fun E=>.F Z Z Z .N) Z (.consF Z (fun E=>.j Z Z .N) Z (.consF Z (fun E=>.B Z Z Z hb1 .N) Z (.consF Z (fun E=>.B Z Z Z hb1 .N) Z (.consF Z (fun E=>.B Z Z Z hb1 .N) Z (.consF Z (fun E=>.B Z Z Z hb1 .N) Z (.consF Z (fun E=>.B Z Z Z hb1 .N) Z (.consF Z (fun E=>.B Z Z Z hb1 .N) Z (.consF Z (fun E=>.B Z Z Z hb1 .N) Z (.consF Z (fun E=>.B Z Z Z hb1 .N) Z (.consF Z (fun E=>.B Z Z Z hb1 .N) Z (.consF Z (fun E=>.B Z Z Z hb1 .N) Z (.consF Z (fun E=>.B Z Z Z hb1 .N) Z (.consF Z (fun E=>.B Z Z Z hb1 .N) Z (.consF Z (fun E=>.B Z Z Z hb1 .N) Z (.consF Z (fun E=>.B Z Z Z hb1 .N) Z (.consF Z (fun E=>.B Z Z Z hb1 .N) Z (.consF Z (fun E=>.B Z Z Z hb1 .N) Z (.consF Z (fun E=>.ah Z Z Z .N) Z (.consF Z (fun E=>.ah Z Z Z .N) Z (.consF Z (fun E=>.ah Z Z Z .N) Z (.consF Z (fun E=>.ah Z Z Z .N) Z (.consF Z (fun E=>.ah Z Z Z .N) Z (.consF Z (fun E=>.ah Z Z Z .N) Z (.consF Z (fun E=>.ah Z Z Z .N) Z (.consF Z (fun E=>.ah Z Z Z .N) Z (.consF Z (fun E=>.ah Z Z Z .N) Z (.consF Z (fun E=>.ah Z Z Z .N) Z (.consF Z (fun E=>.ah Z Z Z .N) Z (.consF Z (fun E=>.ah Z Z Z .N) Z (.consF Z (fun E=>.ah Z Z Z .N) Z (.consF Z (fun E=>.ah Z Z Z .N) Z (.consF Z (fun E=>.ah Z Z Z .N) Z (.consF Z (fun E=>.B Z Z Z hb1 .N) Z (.consF Z (fun E=>.U Z hb1 Z Z .N) Z (.consF Z (fun E=>.v Z Z .N) Z ?_)))))))))))))))))))))))))))))))))))))))))))))))))
   refine l7.done ?_
   dsimp only[j6]
   refine b5 ?_
   simp only[K3 hb1,or_t hb1,Bool.false_or,Bool.true_or,Bool.false_and,Bool.true_and]
   exact Sub.env ⟨Z,Y⟩
  ·rcases bft (decide (en56.key=en57.key)) with hb2|hb2
   ·refine AWP.drawI mixed Z ?_
    refine l7.consF Z (fun E=>.j Z Z .N) Z (.consF Z (fun E=>.j Z Z .N) Z (.consF Z (fun E=>S.idxPb Z Z Z (by simpa only[lS] using q9 ha9) Z Z .N) Z (.consF Z (fun E=>S.loadP ha9 Z Z Z Z .N) Z (.consF Z (fun E=>S.nilCheckE Z Z (by simpa only[lS] using h9 hen56) Z .N) Z (.consF Z (fun E=>S.fieldE Z Z Z (by simpa only[lS] using h9 hen56) Z .N) Z (.consF Z (fun E=>.E Z Z (r9 Z hen56) Z Z Z .N) Z (.consF Z (fun E=>.j Z Z .N) Z (.consF Z (fun E=>.j Z Z .N) Z (.consF Z (fun E=>S.idxPb Z Z Z (by simpa only[lS] using q9 ha16) Z Z .N) Z (.consF Z (fun E=>S.loadP ha16 Z Z Z Z .N) Z (.consF Z (fun E=>S.nilCheckE Z Z (by simpa only[lS] using h9 hen57) Z .N) Z (.consF Z (fun E=>S.fieldE Z Z Z (by simpa only[lS] using h9 hen57) Z .N) Z (.consF Z (fun E=>.E Z Z (r9 Z hen57) Z Z Z .N) Z (.consF Z (fun E=>.F Z Z Z .N) Z (.consF Z (fun E=>.j Z Z .N) Z (.consF Z (fun E=>.z Z Z Z hb1 (.j Z Z .N)) Z (.consF Z (fun E=>.z Z Z Z hb1 (.j Z Z .N)) Z (.consF Z (fun E=>.z Z Z Z hb1 (S.idxPb Z Z Z (by simpa only[lS] using q9 ha9) Z Z .N)) Z (.consF Z (fun E=>.z Z Z Z hb1 (S.loadP ha9 Z Z Z Z .N)) Z (.consF Z (fun E=>.z Z Z Z hb1 (S.nilCheckE Z Z (by simpa only[lS] using h9 hen56) Z .N)) Z (.consF Z (fun E=>.z Z Z Z hb1 (S.fieldE Z Z Z (by simpa only[lS] using h9 hen56) Z .N)) Z (.consF Z (fun E=>.z Z Z Z hb1 (.E Z Z (r9 Z hen56) Z Z Z .N)) Z (.consF Z (fun E=>.z Z Z Z hb1 (.j Z Z .N)) Z (.consF Z (fun E=>.z Z Z Z hb1 (.j Z Z .N)) Z (.consF Z (fun E=>.z Z Z Z hb1 (S.idxPb Z Z Z (by simpa only[lS] using q9 ha16) Z Z .N)) Z (.consF Z (fun E=>.z Z Z Z hb1 (S.loadP ha16 Z Z Z Z .N)) Z (.consF Z (fun E=>.z Z Z Z hb1 (S.nilCheckE Z Z (by simpa only[lS] using h9 hen57) Z .N)) Z (.consF Z (fun E=>.z Z Z Z hb1 (S.fieldE Z Z Z (by simpa only[lS] using h9 hen57) Z .N)) Z (.consF Z (fun E=>.z Z Z Z hb1 (.E Z Z (r9 Z hen57) Z Z Z .N)) Z (.consF Z (fun E=>.z Z Z Z hb1 (.ad Z Z Z .N)) Z (.consF Z (fun E=>.z Z Z Z hb1 (.j Z Z .N)) Z (.consF Z (fun E=>.z Z Z Z hb2 (.j Z Z .N)) Z (.consF Z (fun E=>.z Z Z Z hb2 (.j Z Z .N)) Z (.consF Z (fun E=>.z Z Z Z hb2 (S.idxPb Z Z Z (by simpa only[lS] using q9 ha9) Z Z .N)) Z (.consF Z (fun E=>.z Z Z Z hb2 (S.loadP ha9 Z Z Z Z .N)) Z (.consF Z (fun E=>.z Z Z Z hb2 (S.nilCheckE Z Z (by simpa only[lS] using h9 hen56) Z .N)) Z (.consF Z (fun E=>.z Z Z Z hb2 (S.fieldE Z Z Z (by simpa only[lS] using h9 hen56) Z .N)) Z (.consF Z (fun E=>.z Z Z Z hb2 (.E Z Z (r9 Z hen56) Z Z Z .N)) Z (.consF Z (fun E=>.z Z Z Z hb2 (.j Z Z .N)) Z (.consF Z (fun E=>.z Z Z Z hb2 (.j Z Z .N)) Z (.consF Z (fun E=>.z Z Z Z hb2 (S.idxPb Z Z Z (by simpa only[lS] using q9 ha16) Z Z .N)) Z (.consF Z (fun E=>.z Z Z Z hb2 (S.loadP ha16 Z Z Z Z .N)) Z (.consF Z (fun E=>.z Z Z Z hb2 (S.nilCheckE Z Z (by simpa only[lS] using h9 hen57) Z .N)) Z (.consF Z (fun E=>.z Z Z Z hb2 (S.fieldE Z Z Z (by simpa only[lS] using h9 hen57) Z .N)) Z (.consF Z (fun E=>.z Z Z Z hb2 (.E Z Z (r9 Z hen57) Z Z Z .N)) Z (.consF Z (fun E=>.z Z Z Z hb2 (.F Z Z Z .N)) Z (.consF Z (fun E=>.z Z Z Z hb1 (.U Z hb2 Z Z .N)) Z (.consF Z (fun E=>.aa Z hb1 Z Z .N) Z (.consF Z (fun E=>.v Z Z .N) Z ?_)))))))))))))))))))))))))))))))))))))))))))))))))
    refine l7.done ?_
    dsimp only[j6]
    refine b5 ?_
    simp only[D6 hb1,or_f hb1,K3 hb2,or_t hb2,Bool.false_or,Bool.true_or,Bool.false_and,Bool.true_and]
    exact Sub.env ⟨Z,Y⟩
   ·refine AWP.drawI mixed Z ?_
    refine l7.consF Z (fun E=>.j Z Z .N) Z (.consF Z (fun E=>.j Z Z .N) Z (.consF Z (fun E=>S.idxPb Z Z Z (by simpa only[lS] using q9 ha9) Z Z .N) Z (.consF Z (fun E=>S.loadP ha9 Z Z Z Z .N) Z (.consF Z (fun E=>S.nilCheckE Z Z (by simpa only[lS] using h9 hen56) Z .N) Z (.consF Z (fun E=>S.fieldE Z Z Z (by simpa only[lS] using h9 hen56) Z .N) Z (.consF Z (fun E=>.E Z Z (r9 Z hen56) Z Z Z .N) Z (.consF Z (fun E=>.j Z Z .N) Z (.consF Z (fun E=>.j Z Z .N) Z (.consF Z (fun E=>S.idxPb Z Z Z (by simpa only[lS] using q9 ha16) Z Z .N) Z (.consF Z (fun E=>S.loadP ha16 Z Z Z Z .N) Z (.consF Z (fun E=>S.nilCheckE Z Z (by simpa only[lS] using h9 hen57) Z .N) Z (.consF Z (fun E=>S.fieldE Z Z Z (by simpa only[lS] using h9 hen57) Z .N) Z (.consF Z (fun E=>.E Z Z (r9 Z hen57) Z Z Z .N) Z (.consF Z (fun E=>.F Z Z Z .N) Z (.consF Z (fun E=>.j Z Z .N) Z (.consF Z (fun E=>.z Z Z Z hb1 (.j Z Z .N)) Z (.consF Z (fun E=>.z Z Z Z hb1 (.j Z Z .N)) Z (.consF Z (fun E=>.z Z Z Z hb1 (S.idxPb Z Z Z (by simpa only[lS] using q9 ha9) Z Z .N)) Z (.consF Z (fun E=>.z Z Z Z hb1 (S.loadP ha9 Z Z Z Z .N)) Z (.consF Z (fun E=>.z Z Z Z hb1 (S.nilCheckE Z Z (by simpa only[lS] using h9 hen56) Z .N)) Z (.consF Z (fun E=>.z Z Z Z hb1 (S.fieldE Z Z Z (by simpa only[lS] using h9 hen56) Z .N)) Z (.consF Z (fun E=>.z Z Z Z hb1 (.E Z Z (r9 Z hen56) Z Z Z .N)) Z (.consF Z (fun E=>.z Z Z Z hb1 (.j Z Z .N)) Z (.consF Z (fun E=>.z Z Z Z hb1 (.j Z Z .N)) Z (.consF Z (fun E=>.z Z Z Z hb1 (S.idxPb Z Z Z (by simpa only[lS] using q9 ha16) Z Z .N)) Z (.consF Z (fun E=>.z Z Z Z hb1 (S.loadP ha16 Z Z Z Z .N)) Z (.consF Z (fun E=>.z Z Z Z hb1 (S.nilCheckE Z Z (by simpa only[lS] using h9 hen57) Z .N)) Z (.consF Z (fun E=>.z Z Z Z hb1 (S.fieldE Z Z Z (by simpa only[lS] using h9 hen57) Z .N)) Z (.consF Z (fun E=>.z Z Z Z hb1 (.E Z Z (r9 Z hen57) Z Z Z .N)) Z (.consF Z (fun E=>.z Z Z Z hb1 (.ad Z Z Z .N)) Z (.consF Z (fun E=>.z Z Z Z hb1 (.j Z Z .N)) Z (.consF Z (fun E=>.B Z Z Z hb2 .N) Z (.consF Z (fun E=>.B Z Z Z hb2 .N) Z (.consF Z (fun E=>.B Z Z Z hb2 .N) Z (.consF Z (fun E=>.B Z Z Z hb2 .N) Z (.consF Z (fun E=>.B Z Z Z hb2 .N) Z (.consF Z (fun E=>.B Z Z Z hb2 .N) Z (.consF Z (fun E=>.B Z Z Z hb2 .N) Z (.consF Z (fun E=>.B Z Z Z hb2 .N) Z (.consF Z (fun E=>.B Z Z Z hb2 .N) Z (.consF Z (fun E=>.B Z Z Z hb2 .N) Z (.consF Z (fun E=>.B Z Z Z hb2 .N) Z (.consF Z (fun E=>.B Z Z Z hb2 .N) Z (.consF Z (fun E=>.B Z Z Z hb2 .N) Z (.consF Z (fun E=>.B Z Z Z hb2 .N) Z (.consF Z (fun E=>.B Z Z Z hb2 .N) Z (.consF Z (fun E=>.z Z Z Z hb1 (.aa Z hb2 Z Z .N)) Z (.consF Z (fun E=>.aa Z hb1 Z Z .N) Z (.consF Z (fun E=>.v Z Z .N) Z ?_)))))))))))))))))))))))))))))))))))))))))))))))))
    refine l7.done ?_
    dsimp only[j6]
    refine b5 ?_
    simp only[D6 hb1,or_f hb1,D6 hb2,or_f hb2,Bool.false_or,Bool.true_or,Bool.false_and,Bool.true_and]
    exact Sub.env ⟨Z,Y⟩
 ·refine AWP.ret ?_
  obtain rfl:=oi h
  exact⟨⟨[(6,(cB ((decide (en56.key<en57.key))||((decide (en56.key=en57.key)) && (decide (en56.time<en57.time))))))],[.one (prow 1 l),pool 4 b7 l4]⟩,Sub.env ⟨Z,Y⟩,Done.ret Z ⟨Z,Z⟩⟩
theorem P5{iv:Int}{kv:Int}{l:Li}{l4:List b8}{r:Li×(List b8)}(h:n7 iv kv l l4=some r):FnOk prog 170 [.c (.own 0 0 l.length),(cI iv),(cI kv)] (af5 iv kv l l4) (fun tt ss=>tt=.tup []∧ss=[.one (prow 1 r.1),pool 4 b7 r.2]):=by
 refine FnOk.enter (rs:=[]) func170 Z ntmps170 results170 Z Y (by kernel_rfl) Z ?_
 refine AWP.weak ?_
 unfold n7 at h
 refine AWP.q ?_
 obtain⟨a12,ha12,a16,ha16,h⟩:=b2 h
 refine AWP.drawEI [13,15] mixed Z Z Z ?_
 refine d5.consN Z Z (fun E=>.j Z Z .N) Z (.consN Z Z (fun E=>.j Z Z .N) Z (.consN Z Z (fun E=>.j Z Z .N) Z (.consN Z Z (fun E=>.j Z Z .N) Z (.consN Z Z (fun E=>.j Z Z .N) Z (.consN Z Z (fun E=>.j Z Z .N) Z (.consN Z Z (fun E=>S.idxPb Z Z Z (by simpa only[lS] using q9 ha12) Z Z .N) Z (.consN Z Z (fun E=>S.loadP ha12 Z Z Z Z .N) Z (.consN Z Z (fun E=>.j Z Z .N) Z (.consN Z Z (fun E=>.j Z Z .N) Z (.consN Z Z (fun E=>S.idxPb Z Z Z (by simpa only[lS] using q9 ha16) Z Z .N) Z (.consN Z Z (fun E=>S.loadP ha16 Z Z Z Z .N) Z (.consN Z Z (fun E=>S.idxPb Z Z Z (by simpa only[lS] using q9 ha16) Z Z .N) Z ?_))))))))))))
 apply d5.consE (v:=.undef);exact Z;exact Z;intro E
 refine S.storeP (a:=a12) (by simpa only[lS] using h9 ha16) Z Z Z Z .N
 exact Z
 exact Z
 refine d5.consN Z Z (fun E=>S.idxPb Z Z (by simp only[lS]) (by simpa only[lS] using q9 ha12) Z Z .N) Z ?_
 apply d5.consE (v:=.undef);exact Z;exact Z;intro E
 refine S.storeP (a:=a16) (by simpa only[lS] using h9 ha12) Z Z Z Z .N
 exact Z
 exact Z
 refine d5.done Z ?_ ?_
 ·refine e8.cons Z Z (.go Z Z (fun E=>.j Z Z .N) (.skip Z (.skip Z .nil))) (.cons Z Z (.go Z Z (fun E=>.j Z Z .N) (.skip Z (.skip Z .nil))) (.cons Z Z (.go Z Z (fun E=>.j Z Z .N) (.go Z Z (fun E=>.j Z Z .N) (.skip Z .nil))) (.cons Z Z (.go Z Z (fun E=>.j Z Z .N) (.go Z Z (fun E=>.j Z Z .N) (.skip Z .nil))) (.cons Z Z (.go Z Z (fun E=>.j Z Z .N) (.skip Z (.skip Z .nil))) (.cons Z Z (.go Z Z (fun E=>.j Z Z .N) (.skip Z (.skip Z .nil))) (.cons Z Z (.go Z Z (fun E=>S.idxPb Z Z Z (by simpa only[lS] using q9 ha12) Z Z .N) (.skip Z (.skip Z .nil))) (.cons Z Z (.go Z Z (fun E=>S.loadP ha12 Z Z Z Z .N) (.skip Z (.skip Z .nil))) (.cons Z Z (.go Z Z (fun E=>.j Z Z .N) (.skip Z (.skip Z .nil))) (.cons Z Z (.go Z Z (fun E=>.j Z Z .N) (.skip Z (.skip Z .nil))) (.cons Z Z (.go Z Z (fun E=>S.idxPb Z Z Z (by simpa only[lS] using q9 ha16) Z Z .N) (.skip Z (.skip Z .nil))) (.cons Z Z (.go Z Z (fun E=>S.loadP ha16 Z Z Z Z .N) (.skip Z (.skip Z .nil))) ?_)))))))))))
  refine e8.cons Z Z (.go Z Z (fun E=>S.idxPb Z Z Z (by simpa only[lS] using q9 ha16) Z Z .N) (.skip Z (.skip Z .nil))) ?_
  refine e8.skip Z ?_
  refine e8.cons Z Z ?_ ?_
  refine f8.skip Z ?_
  refine f8.go Z Z (fun E=>S.idxPb Z Z (by simp only[lS]) (by simpa only[lS] using q9 ha12) Z Z .N) ?_
  refine f8.skip Z (f8.nil)
  refine e8.skip Z (e8.nil)
 dsimp only[j6]
 refine b5 ?_
 obtain⟨ha57,hha57,ha58,hha58,en59,hen59,h⟩:=b3 h
 obtain⟨en60,hen60,h⟩:=bind_some h
 refine AWP.drawEI [12,15] mixed Z Z Z ?_
 refine d5.consN Z Z (fun E=>.j Z Z .N) Z (.consN Z Z (fun E=>.j Z Z .N) Z (.consN Z Z (fun E=>S.idxPb Z Z (by simp only[lS]) (by simpa only[lS] using q9 ha16) Z Z .N) Z (.consN Z Z (fun E=>S.loadP hha57 Z Z Z Z .N) Z (.consN Z Z (fun E=>.j Z Z .N) Z (.consN Z Z (fun E=>.j Z Z .N) Z (.consN Z Z (fun E=>S.idxPb Z Z (by simp only[lS]) (by simpa only[lS] using q9 ha12) Z Z .N) Z (.consN Z Z (fun E=>S.loadP hha58 Z Z Z Z .N) Z (.consN Z Z (fun E=>.j Z Z .N) Z (.consN Z Z (fun E=>.j Z Z .N) Z (.consN Z Z (fun E=>S.nilCheckE Z Z (by simpa only[lS] using h9 hen59) Z .N) Z (.consN Z Z (fun E=>S.fieldE Z Z Z (by simpa only[lS] using h9 hen59) Z .N) Z ?_)))))))))))
 apply d5.consE (v:=.undef);exact Z;exact Z;intro E
 refine S.storeE (e':=(⟨en59.item,en59.key,en59.time,iv⟩:b8)) hen59 Z Z Z Z Z Z .N
 exact Z
 exact Z
 refine d5.consN Z Z (fun E=>S.nilCheckE Z Z (by simpa only[lS] using h9 hen60) Z .N) Z (.consN Z Z (fun E=>S.fieldE Z Z Z (by simpa only[lS] using h9 hen60) Z .N) Z ?_)
 apply d5.consE (v:=.undef);exact Z;exact Z;intro E
 refine S.storeE (e':=(⟨en60.item,en60.key,en60.time,kv⟩:b8)) hen60 Z Z Z Z Z Z .N
 exact Z
 exact Z
 refine d5.done Z ?_ ?_
 ·refine e8.cons Z Z (.go Z Z (fun E=>.j Z Z .N) (.skip Z (.skip Z .nil))) (.cons Z Z (.go Z Z (fun E=>.j Z Z .N) (.skip Z (.skip Z .nil))) (.cons Z Z (.go Z Z (fun E=>S.idxPb Z Z (by simp only[lS]) (by simpa only[lS] using q9 ha16) Z Z .N) (.skip Z (.skip Z .nil))) (.cons Z Z (.go Z Z (fun E=>S.loadP hha57 Z Z Z Z .N) (.skip Z (.skip Z .nil))) (.cons Z Z (.go Z Z (fun E=>.j Z Z .N) (.skip Z (.skip Z .nil))) (.cons Z Z (.go Z Z (fun E=>.j Z Z .N) (.skip Z (.skip Z .nil))) (.cons Z Z (.go Z Z (fun E=>S.idxPb Z Z (by simp only[lS]) (by simpa only[lS] using q9 ha12) Z Z .N) (.skip Z (.skip Z .nil))) (.cons Z Z (.go Z Z (fun E=>S.loadP hha58 Z Z Z Z .N) (.skip Z (.skip Z .nil))) (.cons Z Z (.go Z Z (fun E=>.j Z Z .N) (.skip Z (.skip Z .nil))) (.cons Z Z (.go Z Z (fun E=>.j Z Z .N) (.go Z Z (fun E=>.j Z Z .N) (.skip Z .nil))) (.cons Z Z (.go Z Z (fun E=>S.nilCheckE Z Z (by simpa only[lS] using h9 hen59) Z .N) (.skip Z (.skip Z .nil))) (.cons Z Z (.go Z Z (fun E=>S.fieldE Z Z Z (by simpa only[lS] using h9 hen59) Z .N) (.skip Z (.skip Z .nil))) ?_)))))))))))
  refine e8.skip Z ?_
  refine e8.cons Z Z ?_ ?_
  refine f8.skip Z ?_
  refine f8.go Z Z (fun E=>S.nilCheckE Z Z (by simpa only[lS] using h9 hen60) Z .N) ?_
  refine f8.skip Z (f8.nil)
  refine e8.cons Z Z ?_ ?_
  refine f8.skip Z ?_
  refine f8.go Z Z (fun E=>S.fieldE Z Z Z (by simpa only[lS] using h9 hen60) Z .N) ?_
  refine f8.skip Z (f8.nil)
  refine e8.skip Z (e8.nil)
 dsimp only[j6]
 obtain rfl:=oi h
 exact⟨⟨[],[.one (prow 1 ((l.set iv.toNat a12).set kv.toNat a16)),pool 4 b7 ((l4.set ha57.toNat (⟨en59.item,en59.key,en59.time,iv⟩:b8)).set ha58.toNat (⟨en60.item,en60.key,en60.time,kv⟩:b8))]⟩,Sub.env Y,Done.normal Z ⟨Z,Z⟩⟩
theorem an2{i01:Int}{nv:Int}{time:Int}{l:Li}{l5:List (Int×Int)}{l6:List b8}{r:Li×(List b8)×Bool}(h:B6 i01 nv time l l5 l6=some r):FnOk prog 128 [.c (.ifc 170 [.ptr 0 0 0] false),(cI i01),(cI nv)] (X8 i01 nv time l l5 l6) (fun tt ss=>tt=(cB r.2.2)∧ss=[(oE 3 [.own 1 0 r.1.length,.map 2,int time]),.one (prow 3 r.1),.one (pmap 3 vU l5),pool 4 b7 r.2.1]):=by
 refine FnOk.enter (rs:=[.t 6]) func128 Z ntmps128 results128 Z ⟨Y,Y⟩ (by kernel_rfl) Z ?_
 refine AWP.weak ?_
 unfold B6 at h
 refine AWP.q (.u (.v Z Z (.nil (b5 (.q (.u (.j Z Z (.v Z Z (.nil (b5 (.q (.J ?_))))))))))))
 obtain⟨⟨c63,c64,iv65⟩,ho1,h⟩:=bind_some h
 try dsimp only at h
 refine AWP.loopS ho1 (fun(c60,c61,iv62)=>⟨[(0,.c (.ifc 170 [.ptr 0 0 0] false)),(1,(cI i01)),(2,(cI nv)),(7,(cI iv62))],[(oE 3 [.own 1 0 c60.length,.map 2,int time]),.one (prow 3 c60),.one (pmap 3 vU l5),pool 4 b7 c61]⟩) (fun(c63,c64,iv65) e st=>e=.exit 0∧Sub (X8 i01 nv time l l5 l6) st ⟨[(1,(cI i01)),(7,(cI iv65))],[(oE 3 [.own 1 0 c63.length,.map 2,int time]),.one (prow 3 c63),.one (pmap 3 vU l5),pool 4 b7 c64]⟩) ?_ ?_ ?_
 ·try dsimp only
  exact Sub.env ⟨Z,Z,Z,Z,Y⟩
 ·intro s o h
  obtain⟨c60,c61,iv62⟩:=s
  unfold y7 at h
  try dsimp only at h ⊢
  refine AWP.J (.q (.u (.j Z Z (S.mul Z Z Z (S.add Z Z Z (.v Z Z (.nil (b5 (.q (.seqJ (⟨[(0,.c (.ifc 170 [.ptr 0 0 0] false)),(1,(cI i01)),(2,(cI nv)),(7,(cI iv62)),(8,(cI (w64 ((w64 (2 * iv62))+1)))),(21,(cB ((decide (nv≤w64 ((w64 (2 * iv62))+1)))||(decide (w64 ((w64 (2 * iv62))+1)<0)))))],[(oE 3 [.own 1 0 c60.length,.map 2,int time]),.one (prow 3 c60),.one (pmap 3 vU l5),pool 4 b7 c61]⟩) ?_ ?_))))))))))
  ·rcases bft (decide (nv≤w64 ((w64 (2 * iv62))+1))) with hb1|hb1
   ·refine AWP.u (.j Z Z (.j Z Z (.geq Z Z Z (.j Z Z (.B Z Z Z hb1 (.B Z Z Z hb1 (.U Z hb1 Z Z (.nil (b5 ?_)))))))))
    simp only[K3 hb1,or_t hb1,Bool.false_or,Bool.true_or,Bool.false_and,Bool.true_and]
    exact Sub.env ⟨Z,Z,Z,Z,Z,Z,Y⟩
   ·refine AWP.u (.j Z Z (.j Z Z (.geq Z Z Z (.j Z Z (.z Z Z Z hb1 (.j Z Z (.z Z Z Z hb1 (.F Z Z Z (.aa Z hb1 Z Z (.nil (b5 ?_)))))))))))
    simp only[D6 hb1,or_f hb1,Bool.false_or,Bool.true_or,Bool.false_and,Bool.true_and]
    exact Sub.env ⟨Z,Z,Z,Z,Z,Z,Y⟩
  ·refine AWP.ac Z h (fun hc66 h=> ?_) (fun hc66 h=> ?_)
   ·refine AWP.exit (d7 (F9 Z ?_))
    obtain rfl:=oi h
    refine d7 ⟨_,Z,Z,?_⟩
    exact Sub.env ⟨Z,Z,Y⟩
   ·refine AWP.skip (b5 (.q (.u (.j Z Z (.v Z Z (.nil (b5 ?_)))))))
    obtain⟨j67,hx68,h⟩:=bind_some h
    refine AWP.seqJ (⟨[(0,.c (.ifc 170 [.ptr 0 0 0] false)),(1,(cI i01)),(2,(cI nv)),(7,(cI iv62)),(9,(cI j67))],[(oE 3 [.own 1 0 c60.length,.map 2,int time]),.one (prow 3 c60),.one (pmap 3 vU l5),pool 4 b7 c61]⟩) ?_ ?_
    ·refine AWP.q (.u (.j Z Z (S.add Z Z Z (.v Z Z (.nil (b5 ?_))))))
     obtain⟨t69,hx70,hx68⟩:=bind_some hx68
     refine AWP.seqJ (⟨[(0,.c (.ifc 170 [.ptr 0 0 0] false)),(1,(cI i01)),(2,(cI nv)),(7,(cI iv62)),(9,(cI (w64 ((w64 (2 * iv62))+1)))),(10,(cI (w64 ((w64 ((w64 (2 * iv62))+1))+1)))),(33,(cB t69))],[(oE 3 [.own 1 0 c60.length,.map 2,int time]),.one (prow 3 c60),.one (pmap 3 vU l5),pool 4 b7 c61]⟩) ?_ ?_
     ·rcases bft (decide (w64 ((w64 ((w64 (2 * iv62))+1))+1)<nv)) with hb71|hb71
      ·replace hx70:=P1 hb71 hx70
       obtain⟨a32,ha32,hx70⟩:=bind_some hx70
       refine AWP.u (.j Z Z (.j Z Z (.F Z Z Z (.j Z Z (.z Z Z Z hb71 (.j Z Z (.z Z Z Z hb71 (.j Z Z (.z Z Z Z hb71 (.j Z Z (.z Z Z Z hb71 (S.invokeV (r2:=(cB a32)) (σ'':=[(oE 3 [.own 1 0 c60.length,.map 2,int time]),.one (prow 3 c60),.one (pmap 3 vU l5),pool 4 b7 c61]) Z Z Z Z Z Z Z (FnOk.lend [1,3] (A6 ha32) Z Z Z Z Z Z (by exact⟨(.one (i7 Z)),(.any m9),Y⟩) Z (by exact⟨(.live Z (.one (i4 fun _=>Z))),(.live Z RenE.pool),Y⟩) Z Z (by exact⟨(.old Z Z Z),(.new 0 Z Z (.one (i4 fun _=>Z))),(.old Z Z Z),(.new 1 Z Z RenE.pool),Y⟩)) (.U Z hb71 Z Z (.nil ?_))))))))))))))
       obtain rfl:=oi hx70
       refine b5 (Sub.env ⟨Z,Z,Z,Z,Z,Z,Z,Y⟩)
      ·replace hx70:=P3 hb71 hx70
       refine AWP.u (.j Z Z (.j Z Z (.F Z Z Z (.j Z Z (.B Z Z Z hb71 (.B Z Z Z hb71 (.B Z Z Z hb71 (.B Z Z Z hb71 (.aa Z hb71 Z Z (.nil ?_))))))))))
       obtain rfl:=oi hx70
       refine b5 (Sub.env ⟨Z,Z,Z,Z,Z,Z,Z,Y⟩)
     ·refine AWP.ac Z hx68 (fun hc72 hx68=> ?_) (fun hc72 hx68=> ?_)
      ·refine AWP.u (.j Z Z (.v Z Z (.nil ?_)))
       obtain rfl:=oi hx68
       refine b5 (Sub.env ⟨Z,Z,Z,Z,Z,Y⟩)
      ·refine AWP.skip ?_
       obtain rfl:=oi hx68
       refine b5 (Sub.env ⟨Z,Z,Z,Z,Z,Y⟩)
    ·refine AWP.q (.q ?_)
     obtain⟨a38,ha38,h⟩:=bind_some h
     refine AWP.u (.j Z Z (.j Z Z (.j Z Z (S.invokeV (r2:=(cB a38)) (σ'':=[(oE 3 [.own 1 0 c60.length,.map 2,int time]),.one (prow 3 c60),.one (pmap 3 vU l5),pool 4 b7 c61]) Z Z Z Z Z Z Z (FnOk.lend [1,3] (A6 ha38) Z Z Z Z Z Z (by exact⟨(.one (i7 Z)),(.any m9),Y⟩) Z (by exact⟨(.live Z (.one (i4 fun _=>Z))),(.live Z RenE.pool),Y⟩) Z Z (by exact⟨(.old Z Z Z),(.new 0 Z Z (.one (i4 fun _=>Z))),(.old Z Z Z),(.new 1 Z Z RenE.pool),Y⟩)) (.not Z Z (.nil (b5 (.ac Z h (fun hc73 h=> ?_) (fun hc73 h=> ?_)))))))))
     ·refine AWP.exit (d7 (F9 Z ?_))
      obtain rfl:=oi h
      refine d7 ⟨_,Z,Z,?_⟩
      exact Sub.env ⟨Z,Z,Y⟩
     ·refine AWP.skip (b5 (.q ?_))
      obtain⟨a43,ha43,u74,hu74,h⟩:=b2 h
      refine AWP.u (.j Z Z (.j Z Z (.j Z Z (S.invokeV (r2:=.tup []) (σ'':=[(oE 3 [.own 1 0 c60.length,.map 2,int time]),.one (prow 3 a43.1),.one (pmap 3 vU l5),pool 4 b7 a43.2]) Z Z Z Z Z Z Z (FnOk.lend [1,3] (P5 ha43) Z Z Z Z Z Z (by exact⟨(.one (i7 Z)),(.any m9),Y⟩) Z (by exact⟨(.live Z (.one (i4 fun _=>Z))),(.live Z RenE.pool),Y⟩) Z Z (by exact⟨(.old Z Z Z),(.new 0 Z Z (.one (i4 fun _=>Z))),(.old Z Z Z),(.new 1 Z Z RenE.pool),Y⟩)) (.nil (b5 (.u (.j Z Z (.v Z Z (.nil (d6 ?_)))))))))))
      obtain rfl:=oi h
      refine b5 ⟨_,Z,?_⟩
      exact Sub.cut ⟨Z,Z,Z,Z,Y⟩ Z ⟨(.eq Z (by first|rfl|rw[(al2 hu74)]|(simp only[lS];done))),(.one (i7 Z)),(.one (j7 Z)),(.any m9),Y⟩ Z
 ·intro e s hq
  obtain⟨rfl,hs⟩:=hq
  refine⟨_,hs,?_⟩
  refine i6 (b5 (.q (.u (.j Z Z (.j Z Z (.gtr Z Z Z (.v Z Z (.nil (b5 (.ret ?_))))))))))
  obtain rfl:=oi h
  exact⟨⟨[(6,(cB (decide (i01<iv65))))],[(oE 3 [.own 1 0 c63.length,.map 2,int time]),.one (prow 3 c63),.one (pmap 3 vU l5),pool 4 b7 c64]⟩,Sub.env ⟨Z,Y⟩,Done.ret Z ⟨Z,Z⟩⟩
theorem aa6{j:Int}{time:Int}{l:Li}{l4:List (Int×Int)}{l5:List b8}{r:Li×(List b8)}(h:E4 j time l l4 l5=some r):FnOk prog 129 [.c (.ifc 170 [.ptr 0 0 0] false),(cI j)] (ab3 j time l l4 l5) (fun tt ss=>tt=.tup []∧ss=[(oE 3 [.own 1 0 r.1.length,.map 2,int time]),.one (prow 3 r.1),.one (pmap 3 vU l4),pool 4 b7 r.2]):=by
 refine FnOk.enter (rs:=[]) func129 Z ntmps129 results129 Z Y (by kernel_rfl) Z ?_
 refine AWP.weak ?_
 unfold E4 at h
 refine AWP.J ?_
 obtain⟨⟨c61,c62⟩,ho1,h⟩:=bind_some h
 try dsimp only at h
 refine AWP.loopS ho1 (fun(c58,c59,j60)=>⟨[(0,.c (.ifc 170 [.ptr 0 0 0] false)),(1,(cI j60))],[(oE 3 [.own 1 0 c58.length,.map 2,int time]),.one (prow 3 c58),.one (pmap 3 vU l4),pool 4 b7 c59]⟩) (fun(c61,c62) e st=>e=.exit 0∧Sub (ab3 j time l l4 l5) st ⟨[],[(oE 3 [.own 1 0 c61.length,.map 2,int time]),.one (prow 3 c61),.one (pmap 3 vU l4),pool 4 b7 c62]⟩) ?_ ?_ ?_
 ·try dsimp only
  exact Sub.env ⟨Z,Z,Y⟩
 ·intro s o h
  obtain⟨c58,c59,j60⟩:=s
  unfold I8 at h
  try dsimp only at h ⊢
  refine AWP.J (.q ?_)
  obtain⟨u7,hu7,h⟩:=bind_some h
  refine AWP.u (.j Z Z (S.sub Z Z Z (S.quo hu7 Z Z Z (.v Z Z (.nil (b5 (.q ?_)))))))
  obtain⟨t63,hx64,h⟩:=bind_some h
  refine AWP.seqJ (⟨[(0,.c (.ifc 170 [.ptr 0 0 0] false)),(1,(cI j60)),(4,(cI (w64 ((w64 (j60 - 1)).tdiv 2)))),(17,(cB t63))],[(oE 3 [.own 1 0 c58.length,.map 2,int time]),.one (prow 3 c58),.one (pmap 3 vU l4),pool 4 b7 c59]⟩) ?_ ?_
  ·rcases bft (decide (w64 ((w64 (j60 - 1)).tdiv 2)=j60)) with hb65|hb65
   ·replace hx64:=P1 hb65 hx64
    refine AWP.u (.j Z Z (.j Z Z (.ad Z Z Z (.j Z Z (.B Z Z Z hb65 (.B Z Z Z hb65 (.B Z Z Z hb65 (.B Z Z Z hb65 (.B Z Z Z hb65 (.U Z hb65 Z Z (.nil ?_)))))))))))
    obtain rfl:=oi hx64
    refine b5 (Sub.env ⟨Z,Z,Z,Z,Y⟩)
   ·replace hx64:=P3 hb65 hx64
    obtain⟨a15,ha15,hx64⟩:=bind_some hx64
    refine AWP.u (.j Z Z (.j Z Z (.ad Z Z Z (.j Z Z (.z Z Z Z hb65 (.j Z Z (.z Z Z Z hb65 (.j Z Z (.z Z Z Z hb65 (.j Z Z (.z Z Z Z hb65 (S.invokeV (r2:=(cB a15)) (σ'':=[(oE 3 [.own 1 0 c58.length,.map 2,int time]),.one (prow 3 c58),.one (pmap 3 vU l4),pool 4 b7 c59]) Z Z Z Z Z Z Z (FnOk.lend [1,3] (A6 ha15) Z Z Z Z Z Z (by exact⟨(.one (i7 Z)),(.any m9),Y⟩) Z (by exact⟨(.live Z (.one (i4 fun _=>Z))),(.live Z RenE.pool),Y⟩) Z Z (by exact⟨(.old Z Z Z),(.new 0 Z Z (.one (i4 fun _=>Z))),(.old Z Z Z),(.new 1 Z Z RenE.pool),Y⟩)) (.z Z Z Z hb65 (.not Z Z (.aa Z hb65 Z Z (.nil ?_))))))))))))))))
    obtain rfl:=oi hx64
    refine b5 (Sub.env ⟨Z,Z,Z,Z,Y⟩)
  ·refine AWP.ac Z h (fun hc66 h=> ?_) (fun hc66 h=> ?_)
   ·refine AWP.exit (d7 (F9 Z ?_))
    obtain rfl:=oi h
    refine d7 ⟨_,Z,Z,?_⟩
    exact Sub.env Y
   ·refine AWP.skip (b5 (.q ?_))
    obtain⟨a21,ha21,u67,hu67,h⟩:=b2 h
    refine AWP.u (.j Z Z (.j Z Z (.j Z Z (S.invokeV (r2:=.tup []) (σ'':=[(oE 3 [.own 1 0 c58.length,.map 2,int time]),.one (prow 3 a21.1),.one (pmap 3 vU l4),pool 4 b7 a21.2]) Z Z Z Z Z Z Z (FnOk.lend [1,3] (P5 ha21) Z Z Z Z Z Z (by exact⟨(.one (i7 Z)),(.any m9),Y⟩) Z (by exact⟨(.live Z (.one (i4 fun _=>Z))),(.live Z RenE.pool),Y⟩) Z Z (by exact⟨(.old Z Z Z),(.new 0 Z Z (.one (i4 fun _=>Z))),(.old Z Z Z),(.new 1 Z Z RenE.pool),Y⟩)) (.nil (b5 (.u (.j Z Z (.v Z Z (.nil (d6 ?_)))))))))))
    obtain rfl:=oi h
    refine b5 ⟨_,Z,?_⟩
    exact Sub.cut ⟨Z,Z,Y⟩ Z ⟨(.eq Z (by first|rfl|rw[(al2 hu67)]|(simp only[lS];done))),(.one (i7 Z)),(.one (j7 Z)),(.any m9),Y⟩ Z
 ·intro e s hq
  obtain⟨rfl,hs⟩:=hq
  refine⟨_,hs,?_⟩
  refine i6 ?_
  obtain rfl:=oi h
  exact⟨⟨[],[(oE 3 [.own 1 0 c61.length,.map 2,int time]),.one (prow 3 c61),.one (pmap 3 vU l4),pool 4 b7 c62]⟩,Sub.env Y,Done.normal Z ⟨Z,Z⟩⟩
theorem aa5{iv:Int}{time:Int}{l:Li}{l4:List (Int×Int)}{l5:List b8}{r:Li×(List b8)}(h:C8 iv time l l4 l5=some r):FnOk prog 93 [.c (.ifc 170 [.ptr 0 0 0] false),(cI iv)] (ap5 iv time l l4 l5) (fun tt ss=>tt=.tup []∧ss=[(oE 3 [.own 1 0 r.1.length,.map 2,int time]),.one (prow 3 r.1),.one (pmap 3 vU l4),pool 4 b7 r.2]):=by
 refine FnOk.enter (rs:=[]) func93 Z ntmps93 results93 Z Y (by kernel_rfl) Z ?_
 refine AWP.weak ?_
 unfold C8 at h
 refine AWP.q ?_
 obtain⟨a7,ha7,a8,ha8,h⟩:=b2 h
 refine AWP.u (.j Z Z (.j Z Z (.j Z Z (S.invokeV (r2:=(cI (l.length:Int))) (σ'':=[(oE 3 [.own 1 0 l.length,.map 2,int time]),.one (prow 3 l),.one (pmap 3 vU l4),pool 4 b7 l5]) Z Z Z Z Z Z Z (FnOk.lend [1,3] (G3 ha7) Z Z Z Z Z Z (by exact⟨(.one (i7 Z)),(.any m9),Y⟩) Z (by exact⟨(.live Z (.one (i4 fun _=>Z))),(.live Z RenE.pool),Y⟩) Z Z (by exact⟨(.old Z Z Z),(.new 0 Z Z (.one (i4 fun _=>Z))),(.old Z Z Z),(.new 1 Z Z RenE.pool),Y⟩)) (.callF (r2:=(cB a8.2.2)) (σ'':=[(oE 3 [.own 1 0 a8.1.length,.map 2,int time]),.one (prow 3 a8.1),.one (pmap 3 vU l4),pool 4 b7 a8.2.1]) Z Z Z (FnOk.lend [0,1,2,3] (an2 ha8) Z Z Z Z Z Z (by exact⟨(.one Z),(.one (i7 Z)),(.one (j7 Z)),(.any m9),Y⟩) Z (by exact⟨(.live Z (.one Z)),(.live Z (.one (i4 fun _=>Z))),(.live Z (.one (m5 fun _=>Z))),(.live Z RenE.pool),Y⟩) Z Z (by exact⟨(.new 0 Z Z (.one Z)),(.new 1 Z Z (.one (i4 fun _=>Z))),(.new 2 Z Z (.one (m5 fun _=>Z))),(.new 3 Z Z RenE.pool),Y⟩)) (.not Z Z (.nil (b5 (.ac Z h (fun hc58 h=> ?_) (fun hc58 h=> ?_))))))))))
 ·obtain⟨a12,ha12,h⟩:=bind_some h
  refine AWP.u (.j Z Z (.j Z Z (.callF (r2:=.tup []) (σ'':=[(oE 3 [.own 1 0 a12.1.length,.map 2,int time]),.one (prow 3 a12.1),.one (pmap 3 vU l4),pool 4 b7 a12.2]) Z Z Z (FnOk.lend [0,1,2,3] (aa6 ha12) Z Z Z Z Z Z (by exact⟨(.one Z),(.one (i7 Z)),(.one (j7 Z)),(.any m9),Y⟩) Z (by exact⟨(.live Z (.one Z)),(.live Z (.one (i4 fun _=>Z))),(.live Z (.one (m5 fun _=>Z))),(.live Z RenE.pool),Y⟩) Z Z (by exact⟨(.new 0 Z Z (.one Z)),(.new 1 Z Z (.one (i4 fun _=>Z))),(.new 2 Z Z (.one (m5 fun _=>Z))),(.new 3 Z Z RenE.pool),Y⟩)) (.nil ?_))))
  obtain rfl:=oi h
  exact⟨⟨[],[(oE 3 [.own 1 0 a12.1.length,.map 2,int time]),.one (prow 3 a12.1),.one (pmap 3 vU l4),pool 4 b7 a12.2]⟩,Sub.env Y,Done.normal Z ⟨Z,Z⟩⟩
 ·refine AWP.skip ?_
  obtain rfl:=oi h
  exact⟨⟨[],[(oE 3 [.own 1 0 a8.1.length,.map 2,int time]),.one (prow 3 a8.1),.one (pmap 3 vU l4),pool 4 b7 a8.2.1]⟩,Sub.env Y,Done.normal Z ⟨Z,Z⟩⟩
theorem ad9{xv:Int}{time:Int}{l:List b8}{l4:Li}{l5:List (Int×Int)}{r:(List b8)×Li}(h:B9 xv time l l4 l5=some r):FnOk prog 172 [(cP 0 0 0),.c (.ifc 165 [.ptr (1,[xv.toNat]) 0 0] false)] (ac7 xv time l l4 l5) (fun tt ss=>tt=.tup []∧ss=[(oE 3 [.own 6 0 r.2.length,.map 3,int time]),pool 4 b7 r.1,.dead,.one (pmap 1 vU l5),.dead,.dead,.one (prow 1 r.2)]):=by
 refine FnOk.enter (rs:=[]) func172 Z ntmps172 results172 Z Y (by kernel_rfl) Z ?_
 refine AWP.weak ?_
 unfold B9 at h
 refine AWP.j (env':=[(0,(cP 0 0 0)),(1,.c (.ifc 165 [.ptr (1,[xv.toNat]) 0 0] false))]) (σ':=[(oE 3 [.own 4 0 l4.length,.map 3,int time]),pool 4 b7 l,.dead,.one (pmap 1 vU l5),.one (prow 1 l4)]) 4 2 Z Z Z ⟨Z,Z,Y⟩ Z ⟨⟨Z,Z⟩,(w3.pool Z),Y,⟨j7 Z,z8 Z N6⟩,⟨i7 Z,z8 Z N5⟩,Y⟩ (.q (.u (.j Z Z (S.assert Z Z Z (.v Z Z (.nil (b5 (.q ?_))))))))
 obtain⟨en58,hen58,h⟩:=bind_some h
 refine AWP.u (.j Z Z (.j Z Z (.ai Z Z Z (.E Z Z Z Z Z Z (.lenOwnB Z Z Z (fun hl11=>S.nilCheckE Z Z (by simpa only[lS] using h9 hen58) Z (S.fieldE Z Z Z (by simpa only[lS] using h9 hen58) Z (S.storeE (e':=(⟨en58.item,en58.key,en58.time,(l4.length:Int)⟩:b8)) hen58 Z Z Z Z Z Z (.nil (b5 ?_))))))))))
 obtain⟨a20,ha20,h⟩:=bind_some h
 refine AWP.u (.j Z Z (.j Z Z (.ai Z Z Z (.E Z Z Z Z Z Z (.j Z Z (W.lit1 Z Z Z Z Z Z Z Z Z (S.appendP ha20 Z Z Z Z Z Z Z Z Z Z Z Z (.ai Z Z Z (W.store Z Z Z Z Z (.nil ?_))))))))))
 obtain rfl:=oi h
 exact⟨⟨[],[(oE 3 [.own 6 0 a20.length,.map 3,int time]),pool 4 b7 (l.set xv.toNat (⟨en58.item,en58.key,en58.time,(l4.length:Int)⟩:b8)),.dead,.one (pmap 1 vU l5),.dead,.dead,.one (prow 1 a20)]⟩,Sub.cut Y Z ⟨.one Z,(.any m9),.dead,(.one (j7 Z)),.dead,.dead,(.one (i7 Z)),Y⟩ Z,Done.normal Z ⟨Z,Z⟩⟩
theorem X2{xv:Int}{time:Int}{l:List b8}{l4:Li}{l5:List (Int×Int)}{r:(List b8)×Li}(h:B8 xv time l l4 l5=some r):FnOk prog 94 [.c (.ifc 170 [.ptr 0 0 0] false),.c (.ifc 165 [.ptr (1,[xv.toNat]) 0 0] false)] (am7 xv time l l4 l5) (fun tt ss=>tt=.tup []∧ss=[(oE 3 [.own 6 0 r.2.length,.map 3,int time]),pool 4 b7 r.1,.dead,.one (pmap 1 vU l5),.dead,.dead,.one (prow 1 r.2)]):=by
 refine FnOk.enter (rs:=[]) func94 Z ntmps94 results94 Z Y (by kernel_rfl) Z ?_
 refine AWP.weak ?_
 unfold B8 at h
 refine AWP.q ?_
 obtain⟨a6,ha6,h⟩:=bind_some h
 refine AWP.u (.j Z Z (.j Z Z (S.invokeP (r2:=.tup []) (σ'':=[(oE 3 [.own 6 0 a6.2.length,.map 3,int time]),pool 4 b7 a6.1,.dead,.one (pmap 1 vU l5),.dead,.dead,.one (prow 1 a6.2)]) Z Z Z (FnOk.lend [0,1,2,3] (ad9 ha6) Z Z Z Z Z Z (by exact⟨(.one Z),(.any m9),(.one (i7 Z)),(.one (j7 Z)),Y⟩) Z (by exact⟨(.live Z (.one Z)),(.live Z RenE.pool),(.live Z (.one (i4 fun _=>Z))),(.live Z (.one (m5 fun _=>Z))),Y⟩) Z Z (by exact⟨(.new 0 Z Z (.one Z)),(.new 1 Z Z RenE.pool),.dead,(.new 3 Z Z (.one (m5 fun _=>Z))),.dead,.dead,(.new 6 Z Z (.one (i4 fun _=>Z))),Y⟩)) (.nil (b5 ?_)))))
 obtain⟨a9,ha9,a11,ha11,h⟩:=b2 h
 refine AWP.u (.j Z Z (.j Z Z (S.invokeV (r2:=(cI (a6.2.length:Int))) (σ'':=[(oE 3 [.own 6 0 a6.2.length,.map 3,int time]),pool 4 b7 a6.1,.dead,.one (pmap 1 vU l5),.dead,.dead,.one (prow 1 a6.2)]) Z Z Z Z Z Z Z (FnOk.lend [6,1] (G3 ha9) Z Z Z Z Z Z (by exact⟨(.one (i7 Z)),(.any m9),Y⟩) Z (by exact⟨(.live Z (.one (i4 fun _=>Z))),(.live Z RenE.pool),Y⟩) Z Z (by exact⟨(.old Z Z Z),(.new 1 Z Z RenE.pool),.dead,(.old Z Z Z),.dead,.dead,(.new 0 Z Z (.one (i4 fun _=>Z))),Y⟩)) (S.sub Z Z Z (.callF (r2:=.tup []) (σ'':=[(oE 3 [.own 6 0 a11.1.length,.map 3,int time]),pool 4 b7 a11.2,.dead,.one (pmap 1 vU l5),.dead,.dead,.one (prow 1 a11.1)]) Z Z Z (FnOk.lend [0,6,3,1] (aa6 ha11) Z Z Z Z Z Z (by exact⟨(.one Z),(.one (i7 Z)),(.one (j7 Z)),(.any m9),Y⟩) Z (by exact⟨(.live Z (.one Z)),(.live Z (.one (i4 fun _=>Z))),(.live Z (.one (m5 fun _=>Z))),(.live Z RenE.pool),Y⟩) Z Z (by exact⟨(.new 0 Z Z (.one Z)),(.new 3 Z Z RenE.pool),.dead,(.new 2 Z Z (.one (m5 fun _=>Z))),.dead,.dead,(.new 1 Z Z (.one (i4 fun _=>Z))),Y⟩)) (.nil ?_))))))
 obtain rfl:=oi h
 exact⟨⟨[],[(oE 3 [.own 6 0 a11.1.length,.map 3,int time]),pool 4 b7 a11.2,.dead,.one (pmap 1 vU l5),.dead,.dead,.one (prow 1 a11.1)]⟩,Sub.env Y,Done.normal Z ⟨Z,Z⟩⟩
theorem af3{item:Int}{key:Int}{time:Int}{l:Li}{l5:List (Int×Int)}{l6:List b8}{r:(List (Int×Int))×Li×(List b8)}(h:s8 item key time l l5 l6=some r):FnOk prog 80 [(cP 0 0 0),.c (.imm (.val (.int .u32 item))),(cI key)] (af8 item key time l l5 l6) (fun tt ss=>tt=.tup []∧ss=[(oE 3 [.own 4 0 r.2.1.length,.map 2,int (w64 (time+1))]),.dead,.one (pmap 5 vU r.1),.dead,.one (prow 5 r.2.1),pool 4 b7 r.2.2]):=by
 refine FnOk.enter (rs:=[]) func80 Z ntmps80 results80 Z Y (by kernel_rfl) Z ?_
 refine AWP.weak ?_
 unfold s8 at h
 refine AWP.j (env':=[(0,(cP 0 0 0)),(1,.c (.imm (.val (.int .u32 item)))),(2,(cI key))]) (σ':=[(oE 3 [.own 4 0 l.length,.map 2,int time]),.dead,.one (pmap 3 vU l5),pool 4 b7 l6,.one (prow 3 l)]) 4 1 Z Z Z ⟨Z,Z,Z,Y⟩ Z ⟨⟨Z,Z⟩,Y,⟨j7 Z,z8 Z N6⟩,(w3.pool Z),⟨i7 Z,z8 Z N5⟩,Y⟩ (.moveM (env':=[(0,(cP 0 0 0)),(1,.c (.imm (.val (.int .u32 item)))),(2,(cI key))]) (σ':=[(oE 3 [.own 4 0 l.length,.map 2,int time]),.dead,.one (pmap 5 vU l5),.dead,.one (prow 5 l),pool 4 b7 l6]) 5 3 Z Z Z ⟨Z,Z,Z,Y⟩ Z ⟨(.one Z Z),.dead,(.one (j7 Z) (H2 Z Z (m5 fun _=>Z))),.dead,(.one (i7 Z) (H2 Z Z (i4 fun _=>Z))),(EntR.pool Z Z),Y⟩ ?_)
 refine AWP.q (.u (.j Z Z (.ai Z Z Z (W.fieldAddr Z Z Z Z (.E Z Z Z Z Z Z (S.add Z Z Z (.ai Z Z Z (W.fieldAddr Z Z Z Z (W.store Z Z Z Z Z (.nil (b5 (.q (.q (.u (.j Z Z (.ai Z Z Z (W.fieldAddr Z Z Z Z (.E Z Z Z Z Z Z (.j Z Z (S.lookupOkP (fk:=vU) (k:=item) I3 Z Z Z Z Z (.j Z Z (.ab Z Z Z (.ab Z Z Z (.v Z Z (.v Z Z (.nil (b5 (.q (.u (.j Z Z (.nil (b5 (.ac Z h (fun hc60 h=> ?_) (fun hc60 h=> ?_))))))))))))))))))))))))))))))))))
 ·obtain⟨ap61,hap61,h⟩:=bind_some h
  refine AWP.sub (s':=⟨[(0,(cP 0 0 0)),(1,.c (.imm (.val (.int .u32 item)))),(2,(cI key)),(6,(cP (5,[ap61.toNat]) 0 0)),(7,(cB (Option.isSome (mget l5 item)))),(9,(cP 0 0 0)),(10,(cP 0 0 0)),(11,(cP 0 0 2)),(12,(cI time)),(13,(cI (w64 (time+1)))),(14,(cP 0 0 0)),(15,(cP 0 0 2)),(17,(cP 0 0 0)),(18,(cP 0 0 0)),(19,(cP 0 0 1)),(20,.c (.map 2)),(21,.c (.imm (.val (.int .u32 item)))),(23,(cP (5,[ap61.toNat]) 0 0)),(24,(cB (Option.isSome (mget l5 item)))),(25,(cB (Option.isSome (mget l5 item))))],[(oE 3 [.own 4 0 l.length,.map 2,int (w64 (time+1))]),.dead,.one (pmap 5 vU l5),.dead,.one (prow 5 l),pool 4 b7 l6]⟩) (Sub.env ⟨Z,Z,Z,(ap6 hap61),Z,Z,Z,Z,Z,Z,Z,Z,Z,Z,Z,Z,Z,(ap6 hap61),Z,Z,Y⟩) (.q ?_)
  obtain⟨en62,hen62,h⟩:=bind_some h
  refine AWP.u (.j Z Z (.j Z Z (.j Z Z (.j Z Z (.ai Z Z Z (W.fieldAddr Z Z Z Z (.E Z Z Z Z Z Z (S.nilCheckE Z Z (by simpa only[lS] using h9 hen62) Z (S.fieldE Z Z Z (by simpa only[lS] using h9 hen62) Z (S.storeE (e':=(⟨en62.item,key,en62.time,en62.fat⟩:b8)) hen62 Z Z Z Z Z Z (S.nilCheckE Z Z (by simpa only[lS] using h9 hen62) Z (S.fieldE Z Z Z (by simpa only[lS] using h9 hen62) Z (S.storeE (e':=(⟨en62.item,key,w64 (time+1),en62.fat⟩:b8)) (ab6 hen62) Z Z Z Z Z Z (.nil (b5 (.q ?_))))))))))))))))
  obtain⟨a45,ha45,h⟩:=bind_some h
  refine AWP.drawEI [8] mixed Z Z Z ?_
  refine d5.consN Z Z (fun E=>.j Z Z .N) Z (.consN Z Z (fun E=>.ai Z Z Z .N) Z (.consN Z Z (fun E=>W.fieldAddr Z Z Z Z .N) Z (.consN Z Z (fun E=>S.mkIfc Z Z Z .N) Z (.consN Z Z (fun E=>.j Z Z .N) Z (.consN Z Z (fun E=>S.nilCheckE Z Z (by simpa only[lS] using h9 hen62) Z .N) Z (.consN Z Z (fun E=>S.fieldE Z Z Z (by simpa only[lS] using h9 hen62) Z .N) Z (.consN Z Z (fun E=>.E Z Z (r9 Z (ab6 (ab6 hen62))) Z Z Z .N) Z ?_)))))))
  apply d5.consE;exact Z;exact Z;intro E
  refine AOps.callF (r2:=.tup []) (σ'':=[(oE 3 [.own 4 0 a45.1.length,.map 2,int (w64 (time+1))]),.dead,.one (pmap 5 vU l5),.dead,.one (prow 5 a45.1),pool 4 b7 a45.2]) Z Z Z (FnOk.lend [0,4,2,5] (aa5 ha45) Z Z Z Z Z Z (by exact⟨(.one Z),(.one (i7 Z)),(.one (j7 Z)),(.any m9),Y⟩) Z (by exact⟨(.live Z (.one Z)),(.live Z (.one (i4 fun _=>Z))),(.live Z (.one (m5 fun _=>Z))),(.live Z RenE.pool),Y⟩) Z Z (by exact⟨(.new 0 Z Z (.one Z)),.dead,(.new 2 Z Z (.one (m5 fun _=>Z))),.dead,(.new 1 Z Z (.one (i4 fun _=>Z))),(.new 3 Z Z RenE.pool),Y⟩)) .N
  exact Z
  exact Z
  refine d5.done Z ?_ ?_
  ·refine e8.cons Z Z (.go Z Z (fun E=>.j Z Z .N) (.skip Z .nil)) (.cons Z Z (.go Z Z (fun E=>.ai Z Z Z .N) (.skip Z .nil)) (.cons Z Z (.go Z Z (fun E=>W.fieldAddr Z Z Z Z .N) (.skip Z .nil)) (.cons Z Z (.go Z Z (fun E=>S.mkIfc Z Z Z .N) (.skip Z .nil)) (.cons Z Z (.go Z Z (fun E=>.j Z Z .N) (.skip Z .nil)) (.cons Z Z (.go Z Z (fun E=>S.nilCheckE Z Z (by simpa only[lS] using h9 hen62) Z .N) (.skip Z .nil)) (.cons Z Z (.go Z Z (fun E=>S.fieldE Z Z Z (by simpa only[lS] using h9 hen62) Z .N) (.skip Z .nil)) (.cons Z Z (.go Z Z (fun E=>.E Z Z (r9 Z (ab6 (ab6 hen62))) Z Z Z .N) (.skip Z .nil)) ?_)))))))
   refine e8.skip Z (e8.nil)
  dsimp only[j6]
  refine b5 (.ret (e6 ?_))
  obtain rfl:=oi h
  exact⟨⟨[],[(oE 3 [.own 4 0 a45.1.length,.map 2,int (w64 (time+1))]),.dead,.one (pmap 5 vU l5),.dead,.one (prow 5 a45.1),pool 4 b7 a45.2]⟩,Sub.env Y,Done.ret Z ⟨Z,Z⟩⟩
 ·refine AWP.skip (b5 (.q ?_))
  obtain⟨u63,hu63,u64,hu64,h⟩:=b2 h
  refine AWP.u (.j Z Z (.j Z Z (.j Z Z (.ai Z Z Z (W.fieldAddr Z Z Z Z (.E Z Z Z Z Z Z (W.build Z Z Z Z (W.box Z Z Z Z Z Z (.sub (Sub.move (env':=[(0,(cP 0 0 0)),(1,.c (.imm (.val (.int .u32 item)))),(2,(cI key)),(7,(cB (Option.isSome (mget l5 item)))),(9,(cP 0 0 0)),(10,(cP 0 0 0)),(11,(cP 0 0 2)),(12,(cI time)),(13,(cI (w64 (time+1)))),(14,(cP 0 0 0)),(15,(cP 0 0 2)),(17,(cP 0 0 0)),(18,(cP 0 0 0)),(19,(cP 0 0 1)),(20,.c (.map 2)),(21,.c (.imm (.val (.int .u32 item)))),(24,(cB (Option.isSome (mget l5 item)))),(25,(cB (Option.isSome (mget l5 item)))),(46,.c (.imm (.val (.int .u32 item)))),(47,(cI key)),(48,(cP 0 0 0)),(49,(cP 0 0 0)),(50,(cP 0 0 2)),(51,(cI (w64 (time+1)))),(52,.agg [.imm (.val (.int .u32 item)),int key,int (w64 (time+1)),int 0]),(53,(cP (5,[(l6.length:Int).toNat]) 0 0))]) (σ':=[(oE 3 [.own 4 0 l.length,.map 2,int (w64 (time+1))]),.dead,.one (pmap 5 vU l5),.dead,.one (prow 5 l),pool 4 b7 (l6++[(⟨item,key,w64 (time+1),0⟩:b8)])]) (5,[l6.length]) (6,[]) Z Z Z ⟨Z,Z,Z,Z,Z,Z,Z,Z,Z,Z,Z,Z,Z,Z,Z,Z,Z,Z,Z,Z,Z,Z,Z,Z,Z,ptr_adopt,Y⟩ Z ⟨⟨Z,Z⟩,Y,⟨j7 Z,ae4 Z (pmap_adopt hu63) ai0⟩,Y,⟨i7 Z,ae4 Z (prow_adopt hu64) ai0⟩,(w3.adopt Z Z),Y⟩) (.v Z Z (.nil (b5 (.q (.u (.j Z Z (.ai Z Z Z (W.fieldAddr Z Z Z Z (.E Z Z Z Z Z Z (.j Z Z (.j Z Z (S.mapUpdateP (fk:=vU) (k:=item) (a:=(l6.length:Int)) I3 Z Z Z Z Z (.nil (b5 ?_)))))))))))))))))))))))
  obtain⟨a66,ha66,h⟩:=bind_some h
  refine AWP.u (.j Z Z (.ai Z Z Z (W.fieldAddr Z Z Z Z (S.mkIfc Z Z Z (.j Z Z (S.mkIfc Z Z Z (.callF (r2:=.tup []) (σ'':=[(oE 3 [.own 8 0 a66.2.length,.map 2,int (w64 (time+1))]),.dead,.one (pmap 5 vU (mset l5 item (l6.length:Int))),.dead,.dead,pool 4 b7 a66.1,.dead,.dead,.one (prow 5 a66.2)]) Z Z Z (FnOk.lend [0,5,4,2] (X2 ha66) Z Z Z Z Z Z (by exact⟨(.one Z),(.any m9),(.one (i7 Z)),(.one (j7 Z)),Y⟩) Z (by exact⟨(.live Z (.one Z)),(.live Z RenE.pool),(.live Z (.one (i4 fun _=>Z))),(.live Z (.one (m5 fun _=>Z))),Y⟩) Z Z (by exact⟨(.new 0 Z Z (.one Z)),.dead,(.new 3 Z Z (.one (m5 fun _=>Z))),.dead,.dead,(.new 1 Z Z RenE.pool),.dead,.dead,(.new 6 Z Z (.one (i4 fun _=>Z))),Y⟩)) (.nil ?_))))))))
  obtain rfl:=oi h
  exact⟨⟨[],[(oE 3 [.own 4 0 a66.2.length,.map 2,int (w64 (time+1))]),.dead,.one (pmap 5 vU (mset l5 item (l6.length:Int))),.dead,.one (prow 5 a66.2),pool 4 b7 a66.1]⟩,(Sub.move (env':=[]) (σ':=[(oE 3 [.own 4 0 a66.2.length,.map 2,int (w64 (time+1))]),.dead,.one (pmap 5 vU (mset l5 item (l6.length:Int))),.dead,.one (prow 5 a66.2),pool 4 b7 a66.1,.dead,.dead]) 4 8 Z Z Z Y Z ⟨⟨Z,Z⟩,Y,⟨j7 Z,z8 Z N6⟩,Y,⟨i7 Z,z8 Z N5⟩,(w3.pool Z),Y,Y,Y⟩).trans (Sub.cut Y Z ⟨.one Z,.dead,(.one (j7 Z)),.dead,(.one (i7 Z)),(.any m9),Y⟩ Z),Done.normal Z ⟨Z,Z⟩⟩
theorem ah5{time:Int}{l:Li}{l3:List (Int×Int)}{l4:List b8}{r:Unit}(h:D9 time l l3 l4=some r):FnOk prog 82 [(cP 0 0 0)] (ah3 time l l3 l4) (fun tt ss=>tt=(cI (l.length:Int))∧ss=[(oE 3 [.own 1 0 l.length,.map 2,int time]),.one (prow 3 l),.one (pmap 3 vU l3),pool 4 b7 l4]):=by
 refine FnOk.enter (rs:=[.t 2]) func82 Z ntmps82 results82 Z ⟨Y,Y⟩ (by kernel_rfl) Z ?_
 refine AWP.weak ?_
 unfold D9 at h
 refine AWP.q (.u (.v Z Z (.nil (b5 (.q (.u (.j Z Z (.ai Z Z Z (W.fieldAddr Z Z Z Z (.E Z Z Z Z Z Z (.lenOwnB Z Z Z (fun hl7=>.v Z Z (.nil (b5 (.ret ?_)))))))))))))))
 obtain rfl:=oi h
 exact⟨⟨[(2,(cI (l.length:Int)))],[(oE 3 [.own 1 0 l.length,.map 2,int time]),.one (prow 3 l),.one (pmap 3 vU l3),pool 4 b7 l4]⟩,Sub.env ⟨Z,Y⟩,Done.ret Z ⟨Z,Z⟩⟩
end Ab
end
