/-
  Texts that the proof stands on.
-/
import Derived.Test.YthfddkcnegkbhaaGreatDoorKRwTopMerged3
set_option linter.all false
section
namespace Ab
open Go Go.Proofs
open Tryz
set_option maxHeartbeats 4000000
set_option linter.all false
attribute [local irreducible] AWP AOps thn inB Done f4 m5 Sub
abbrev tT(v:d7):List C:=[int v.facts,row 1 intI v.init,row 1 intI v.goal,row 4 f8 v.operators]
abbrev tF(a:Int)(b c:List Int)(d:List f9):List C:=[int a,row 1 intI b,row 1 intI c,row 4 f8 d]
abbrev wW(a b:Int)(i:Id)(n:Nat):List C:=[.imm (.val (.int .u32 a)),.imm (.val (.int .u32 b)),.own i 0 n]
abbrev vU:Int→Value:=Value.int .u32
abbrev vI:Int→Value:=Value.int .i64
abbrev nL:Value:=.slice none 0 0
instance:MethF prog 75 "Start" 30 true:=⟨by kernel_rfl⟩
instance:MethF prog 75 "Steps" 67 true:=⟨by kernel_rfl⟩
instance:MethF prog 189 "Len" 203 false:=⟨by kernel_rfl⟩
instance:MethF prog 189 "Less" 204 false:=⟨by kernel_rfl⟩
instance:MethF prog 189 "Pop" 206 true:=⟨by kernel_rfl⟩
instance:MethF prog 189 "Push" 207 true:=⟨by kernel_rfl⟩
instance:MethF prog 189 "Swap" 205 false:=⟨by kernel_rfl⟩
theorem r8{l:List Int}{nv:Int}{r:Bool}(h:A8 l nv=some r):f4 prog 56 [.c (row 1 intI l),.c (int nv)] (.c (bool r)):=by
 unfold f4
 refine FnOk.enter (rs:=[.t 4]) func56 Z ntmps56 results56 Z ⟨trivial,Y⟩ (by kernel_rfl) Z ?_
 unfold A8 at h
 refine AWP.q (.u (.v Z Z (.nil (b6 (.q (.q (.u (.j Z Z (S.len Z Z (fun hl8=>.j Z Z (.nil (b6 (.J ?_)))))))))))))
 obtain ⟨oo,ho1,h⟩:=bind_some h
 refine AWP.rngS ho1 (fun t3 _=>⟨[(0,.c (row 1 intI l)),(1,.c (int nv)),(7,.c (row 1 intI l)),(8,.c (int (l.length:Int))),(9,.c (int t3))],[]⟩) (fun o e st=>match o with | .inl _=>e=.exit 0∧Sub [] st ⟨[],[]⟩ | .inr x=>e=.ret∧Done [.t 4] (fun t _=>t=.c (bool x)) .ret st) ?_ ?_ ?_ ?_
 ·try dsimp only
  exact Sub.env ⟨Z,Z,Z,Z,Z,Y⟩
 ·intro t3 s hlot3 hltt3 _
  try dsimp only
  refine AWP.q (.u (.F Z Z Z (.nil (b6 (.q (.ae Z hltt3 (.exit (e8 (e8 ⟨Z, ?_⟩)))))))))
  exact Sub.env trivial
 ·intro t3 s o hlot3 hltt3 h
  unfold S8 at h
  try dsimp only at h ⊢
  refine AWP.q (.u (.F Z Z Z (.nil (b6 (.q (.af Z hltt3 (.skip (b6 (.q (.J (.q ?_)))))))))))
  obtain ⟨a12,ha12,h⟩:=bind_some h
  refine AWP.u (.j Z Z (S.idx ha12 Z Z Z Z (.ad Z Z Z Z (.v Z Z (.v Z Z (.nil (b6 ?_)))))))
  obtain ⟨t4,hx5,h⟩:=bind_some h
  refine AWP.seqJ (⟨[(0,.c (row 1 intI l)),(1,.c (int nv)),(7,.c (row 1 intI l)),(8,.c (int (l.length:Int))),(9,.c (int t3)),(33,.c (bool t4))],[]⟩) ?_ ?_
  ·rcases bft (decide (a12<0)) with hb6 | hb6
   ·replace hx5:=P3 hb6 hx5
    refine AWP.u (.j Z Z (.F Z Z Z (.j Z Z (.B Z Z Z hb6 (.B Z Z Z hb6 (.B Z Z Z hb6 (.U Z hb6 Z Z (.j Z Z (.B Z Z Z Z (.B Z Z Z Z (.B Z Z Z Z (.ah Z Z Z (.ah Z Z Z (.ah Z Z Z (.ah Z Z Z (.ah Z Z Z (.ah Z Z Z (.ah Z Z Z (.B Z Z Z Z (.U Z Z Z Z (.nil ?_)))))))))))))))))))))
    obtain rfl:=oi hx5
    refine b6 (Sub.env ⟨Z,Z,Z,Z,Z,Z,Y⟩)
   ·replace hx5:=P2 hb6 hx5
    rcases bft (decide (nv≤a12)) with hb7 | hb7
    ·replace hx5:=P3 hb7 hx5
     refine AWP.u (.j Z Z (.F Z Z Z (.j Z Z (.z Z Z Z hb6 (.j Z Z (.z Z Z Z hb6 (.j Z Z (.z Z Z Z hb6 (.geq Z Z Z (.aa Z hb6 Z Z (.j Z Z (.B Z Z Z hb7 (.B Z Z Z hb7 (.B Z Z Z hb7 (.ah Z Z Z (.ah Z Z Z (.ah Z Z Z (.ah Z Z Z (.ah Z Z Z (.ah Z Z Z (.ah Z Z Z (.B Z Z Z hb7 (.U Z hb7 Z Z (.nil ?_))))))))))))))))))))))))
     obtain rfl:=oi hx5
     refine b6 (Sub.env ⟨Z,Z,Z,Z,Z,Z,Y⟩)
    ·replace hx5:=P2 hb7 hx5
     rcases bft (decide (0<t3)) with hb8 | hb8
     ·replace hx5:=P3 hb8 hx5
      obtain ⟨a29,ha29,hx5⟩:=bind_some hx5
      refine AWP.u (.j Z Z (.F Z Z Z (.j Z Z (.z Z Z Z hb6 (.j Z Z (.z Z Z Z hb6 (.j Z Z (.z Z Z Z hb6 (.geq Z Z Z (.aa Z hb6 Z Z (.j Z Z (.z Z Z Z hb7 (.j Z Z (.z Z Z Z hb7 (.gtr Z Z Z (.z Z Z Z hb7 (.j Z Z (.z Z Z Z hb8 (.j Z Z (.z Z Z Z hb8 (.j Z Z (.z Z Z Z hb8 (.j Z Z (.z Z Z Z hb8 (.sub' Z Z Z (by omega) (.z Z Z Z hb8 (S.idx ha29 Z Z Z Z (.z Z Z Z hb8 (.ad Z Z Z Z (.z Z Z Z hb8 (.leq Z Z Z (.z Z Z Z hb7 (.U Z hb8 Z Z (.aa Z hb7 Z Z (.nil ?_)))))))))))))))))))))))))))))))))))
      obtain rfl:=oi hx5
      refine b6 (Sub.env ⟨Z,Z,Z,Z,Z,Z,Y⟩)
     ·replace hx5:=P2 hb8 hx5
      refine AWP.u (.j Z Z (.F Z Z Z (.j Z Z (.z Z Z Z hb6 (.j Z Z (.z Z Z Z hb6 (.j Z Z (.z Z Z Z hb6 (.geq Z Z Z (.aa Z hb6 Z Z (.j Z Z (.z Z Z Z hb7 (.j Z Z (.z Z Z Z hb7 (.gtr Z Z Z (.z Z Z Z hb7 (.j Z Z (.B Z Z Z hb8 (.B Z Z Z hb8 (.B Z Z Z hb8 (.B Z Z Z hb8 (.B Z Z Z hb8 (.B Z Z Z hb8 (.B Z Z Z hb8 (.z Z Z Z hb7 (.aa Z hb8 Z Z (.aa Z hb7 Z Z (.nil ?_))))))))))))))))))))))))))))
      obtain rfl:=oi hx5
      refine b6 (Sub.env ⟨Z,Z,Z,Z,Z,Z,Y⟩)
  ·refine AWP.ab Z h (fun hc9 h=> ?_) (fun hc9 h=> ?_)
   ·refine AWP.q (.u (.v Z Z (.nil (b6 (.ret (i9 (e7 ?_)))))))
    obtain rfl:=oi h
    refine e7 ⟨_,Z,Z, ?_⟩
    exact Done.ret Z Z
   ·refine AWP.skip (e9 (b6 (.u (.add Z Z Z (by omega) (.j Z Z (.nil ?_))))))
    obtain rfl:=oi h
    refine b6 ⟨_,Z, ?_⟩
    exact Sub.env ⟨Z,Z,Z,Z,Z,Y⟩
 ·intro e s hq
  rcases oo with u | x
  ·try dsimp only at h hq
   obtain ⟨rfl,hs⟩:=hq
   refine ⟨_,hs, ?_⟩
   refine j5 (b6 (.q (.u (.v Z Z (.nil (b6 (.ret ?_)))))))
   obtain rfl:=oi h
   exact Done.ret Z Z
  ·try dsimp only at h hq
   obtain ⟨rfl,hs⟩:=hq
   refine ⟨_,Sub.refl _ _, ?_⟩
   refine i9 (e7 ?_)
   obtain rfl:=oi h
   exact hs
theorem C6{xv:Int}{r:Bool}(h:cmp_isNaN_int xv=some r):f4 prog 124 [.c (int xv)] (.c (bool r)):=by
 unfold f4
 refine FnOk.enter (rs:=[.t 2]) func124 Z ntmps124 results124 Z ⟨trivial,Y⟩ (by kernel_rfl) Z ?_
 unfold cmp_isNaN_int at h
 refine AWP.q (.u (.v Z Z (.nil (b6 (.q (.u (.j Z Z (.j Z Z (.neq Z Z Z (.v Z Z (.nil (b6 (.ret ?_)))))))))))))
 obtain rfl:=oi h
 exact Done.ret Z Z
theorem cmp_Less_int_ok{xv:Int}{yv:Int}{r:Bool}(h:U9 xv yv=some r):f4 prog 119 [.c (int xv),.c (int yv)] (.c (bool r)):=by
 unfold f4
 refine FnOk.enter (rs:=[.t 4]) func119 Z ntmps119 results119 Z ⟨trivial,Y⟩ (by kernel_rfl) Z ?_
 unfold U9 at h
 refine AWP.q (.u (.v Z Z (.nil (b6 ?_))))
 obtain ⟨t3,hx4,h⟩:=bind_some h
 refine AWP.seqJ (⟨[(4,.c (bool t3))],[]⟩) ?_ ?_
 ·obtain ⟨a6,ha6,hx4⟩:=bind_some hx4
  rcases bft (a6) with hb5 | hb5
  ·replace hx4:=T0 hb5 hx4
   obtain ⟨a9,ha9,hx4⟩:=bind_some hx4
   rcases bft (!a9) with hb6 | hb6
   ·replace hx4:=T0 hb6 hx4
    refine AWP.u (.j Z Z (.O Z Z Z Z (C6 ha6) Z (.j Z Z (.z Z Z Z hb5 (.j Z Z (.z Z Z Z hb5 (.O Z Z Z Z (C6 ha9) Z (.z Z Z Z hb5 (.not Z Z (.U Z hb5 Z Z (.j Z Z (.B Z Z Z hb6 (.B Z Z Z hb6 (.B Z Z Z hb6 (.U Z hb6 Z Z (.v Z Z (.nil ?_)))))))))))))))))
    obtain rfl:=oi hx4
    refine b6 (Sub.env ⟨Z,Y⟩)
   ·replace hx4:=S6 hb6 hx4
    refine AWP.u (.j Z Z (.O Z Z Z Z (C6 ha6) Z (.j Z Z (.z Z Z Z hb5 (.j Z Z (.z Z Z Z hb5 (.O Z Z Z Z (C6 ha9) Z (.z Z Z Z hb5 (.not Z Z (.U Z hb5 Z Z (.j Z Z (.z Z Z Z hb6 (.j Z Z (.z Z Z Z hb6 (.j Z Z (.z Z Z Z hb6 (.F Z Z Z (.aa Z hb6 Z Z (.v Z Z (.nil ?_))))))))))))))))))))
    obtain rfl:=oi hx4
    refine b6 (Sub.env ⟨Z,Y⟩)
  ·replace hx4:=S6 hb5 hx4
   refine AWP.u (.j Z Z (.O Z Z Z Z (C6 ha6) Z (.j Z Z (.B Z Z Z hb5 (.B Z Z Z hb5 (.B Z Z Z hb5 (.aa Z hb5 Z Z (.j Z Z (.z Z Z Z Z (.j Z Z (.z Z Z Z Z (.j Z Z (.z Z Z Z Z (.F Z Z Z (.aa Z Z Z Z (.v Z Z (.nil ?_)))))))))))))))))
   obtain rfl:=oi hx4
   refine b6 (Sub.env ⟨Z,Y⟩)
 ·refine AWP.ret ?_
  obtain rfl:=oi h
  exact Done.ret Z Z
theorem S5{xv:Int}{r:Bool}(h:K7 xv=some r):f4 prog 120 [.c (int xv)] (.c (bool r)):=by
 unfold f4
 refine FnOk.enter (rs:=[.t 2]) func120 Z ntmps120 results120 Z ⟨trivial,Y⟩ (by kernel_rfl) Z ?_
 unfold K7 at h
 refine AWP.q (.u (.v Z Z (.nil (b6 (.q (.u (.j Z Z (.j Z Z (.neq Z Z Z (.v Z Z (.nil (b6 (.ret ?_)))))))))))))
 obtain rfl:=oi h
 exact Done.ret Z Z
theorem O5{xv:List Int}{target:Int}{r:Int × Bool}(h:q9 xv target=some r):f4 prog 86 [.c (row 1 intI xv),.c (int target)] (.tup [.c (int r.1),.c (bool r.2)]):=by
 unfold f4
 refine FnOk.enter (rs:=[.t 4,.t 5]) func86 Z ntmps86 results86 Z ⟨trivial,trivial,Y⟩ (by kernel_rfl) Z ?_
 unfold q9 at h
 refine AWP.q (.u (.v Z Z (.v Z Z (.nil (b6 (.q (.u (.j Z Z (S.len Z Z (fun hl11=>.v Z Z (.nil (b6 (.q (.u (.j Z Z (.v Z Z (.v Z Z (.nil (b6 (.q (.J ?_)))))))))))))))))))))
 obtain ⟨iv5,ho1,h⟩:=bind_some h
 refine AWP.loopS ho1 (fun (iv3,j4)=>⟨[(0,.c (row 1 intI xv)),(1,.c (int target)),(6,.c (int (xv.length:Int))),(7,.c (int iv3)),(8,.c (int j4))],[]⟩) (fun iv5 e st=>e=.exit 0∧Sub [] st ⟨[(0,.c (row 1 intI xv)),(1,.c (int target)),(6,.c (int (xv.length:Int))),(7,.c (int iv5))],[]⟩) ?_ ?_ ?_
 ·try dsimp only
  exact Sub.env ⟨Z,Z,Z,Z,Z,Y⟩
 ·intro s o h
  obtain ⟨iv3,j4⟩:=s
  unfold y8 at h
  try dsimp only at h ⊢
  refine AWP.q (.q (.u (.j Z Z (.j Z Z (.F Z Z Z (.nil (b6 (.ite Z h (fun hc6 h=> ?_) (fun hc6 h=> ?_)))))))))
  ·refine AWP.skip (b6 (.J (.q (.u (.j Z Z (.j Z Z (S.add Z Z Z (.convInt Z Z (.shr Z Z Z (by first | decide | omega) Z (.convInt Z Z (.v Z Z (.nil (b6 (.q ?_))))))))))))))
   obtain ⟨a24,ha24,a27,ha27,h⟩:=b2 h
   refine AWP.u (.j Z Z (.j Z Z (S.idx ha24 Z Z Z Z (.ad Z Z Z Z (.j Z Z (.O Z Z Z Z (cmp_Less_int_ok ha27) Z (.nil (b6 (.ab Z h (fun hc7 h=> ?_) (fun hc7 h=> ?_))))))))))
   ·refine AWP.u (.j Z Z (S.add Z Z Z (.v Z Z (.nil (e9 ?_)))))
    obtain rfl:=oi h
    refine b6 ⟨_,Z, ?_⟩
    exact Sub.env ⟨Z,Z,Z,Z,Z,Y⟩
   ·refine AWP.u (.j Z Z (.v Z Z (.nil (e9 ?_))))
    obtain rfl:=oi h
    refine b6 ⟨_,Z, ?_⟩
    exact Sub.env ⟨Z,Z,Z,Z,Z,Y⟩
  ·refine AWP.exit (e8 ?_)
   obtain rfl:=oi h
   refine e8 ⟨_,Z,Z, ?_⟩
   exact Sub.env ⟨Z,Z,Z,Z,Y⟩
 ·intro e s hq
  obtain ⟨rfl,hs⟩:=hq
  refine ⟨_,hs, ?_⟩
  refine j5 (b6 ?_)
  obtain ⟨t8,hx9,h⟩:=bind_some h
  refine AWP.seqJ (⟨[(4,.c (int iv5)),(5,.c (bool t8))],[]⟩) ?_ ?_
  ·rcases bft (decide (iv5<(xv.length:Int))) with hb10 | hb10
   ·replace hx9:=P3 hb10 hx9
    obtain ⟨a38,ha38,hx9⟩:=bind_some hx9
    rcases bft (decide (a38=target)) with hb11 | hb11
    ·replace hx9:=P3 hb11 hx9
     refine AWP.u (.j Z Z (.j Z Z (.j Z Z (.F Z Z Z (.j Z Z (.z Z Z Z hb10 (.j Z Z (.z Z Z Z hb10 (.j Z Z (.z Z Z Z hb10 (S.idx ha38 Z Z Z Z (.z Z Z Z hb10 (.ad Z Z Z Z (.z Z Z Z hb10 (.j Z Z (.z Z Z Z hb10 (.eql Z Z Z (.z Z Z Z hb10 (.j Z Z (.B Z Z Z hb11 (.B Z Z Z hb11 (.B Z Z Z hb11 (.B Z Z Z hb11 (.B Z Z Z hb11 (.B Z Z Z hb11 (.ah Z Z Z (.ah Z Z Z (.B Z Z Z hb11 (.z Z Z Z hb10 (.U Z hb11 Z Z (.U Z hb10 Z Z (.v Z Z (.v Z Z (.nil ?_))))))))))))))))))))))))))))))))))
     obtain rfl:=oi hx9
     refine b6 (Sub.env ⟨Z,Z,Y⟩)
    ·replace hx9:=P2 hb11 hx9
     obtain ⟨a45,ha45,a47,ha47,hx9⟩:=b2 hx9
     rcases bft (a47) with hb12 | hb12
     ·replace hx9:=T0 hb12 hx9
      obtain ⟨a50,ha50,hx9⟩:=bind_some hx9
      refine AWP.u (.j Z Z (.j Z Z (.j Z Z (.F Z Z Z (.j Z Z (.z Z Z Z hb10 (.j Z Z (.z Z Z Z hb10 (.j Z Z (.z Z Z Z hb10 (S.idx ha38 Z Z Z Z (.z Z Z Z hb10 (.ad Z Z Z Z (.z Z Z Z hb10 (.j Z Z (.z Z Z Z hb10 (.eql Z Z Z (.z Z Z Z hb10 (.j Z Z (.z Z Z Z hb11 (.j Z Z (.z Z Z Z hb11 (.j Z Z (.z Z Z Z hb11 (S.idx ha45 Z Z Z Z (.z Z Z Z hb11 (.ad Z Z Z Z (.z Z Z Z hb11 (.O Z Z Z Z (S5 ha47) Z (.z Z Z Z hb11 (.j Z Z (.z Z Z Z hb12 (.j Z Z (.z Z Z Z hb12 (.O Z Z Z Z (S5 ha50) Z (.z Z Z Z hb11 (.U Z hb12 Z Z (.z Z Z Z hb10 (.aa Z hb11 Z Z (.U Z hb10 Z Z (.v Z Z (.v Z Z (.nil ?_)))))))))))))))))))))))))))))))))))))))))))
      obtain rfl:=oi hx9
      refine b6 (Sub.env ⟨Z,Z,Y⟩)
     ·replace hx9:=S6 hb12 hx9
      refine AWP.u (.j Z Z (.j Z Z (.j Z Z (.F Z Z Z (.j Z Z (.z Z Z Z hb10 (.j Z Z (.z Z Z Z hb10 (.j Z Z (.z Z Z Z hb10 (S.idx ha38 Z Z Z Z (.z Z Z Z hb10 (.ad Z Z Z Z (.z Z Z Z hb10 (.j Z Z (.z Z Z Z hb10 (.eql Z Z Z (.z Z Z Z hb10 (.j Z Z (.z Z Z Z hb11 (.j Z Z (.z Z Z Z hb11 (.j Z Z (.z Z Z Z hb11 (S.idx ha45 Z Z Z Z (.z Z Z Z hb11 (.ad Z Z Z Z (.z Z Z Z hb11 (.O Z Z Z Z (S5 ha47) Z (.z Z Z Z hb11 (.j Z Z (.B Z Z Z hb12 (.B Z Z Z hb12 (.z Z Z Z hb11 (.aa Z hb12 Z Z (.z Z Z Z hb10 (.aa Z hb11 Z Z (.U Z hb10 Z Z (.v Z Z (.v Z Z (.nil ?_)))))))))))))))))))))))))))))))))))))))))
      obtain rfl:=oi hx9
      refine b6 (Sub.env ⟨Z,Z,Y⟩)
   ·replace hx9:=P2 hb10 hx9
    refine AWP.u (.j Z Z (.j Z Z (.j Z Z (.F Z Z Z (.j Z Z (.B Z Z Z hb10 (.B Z Z Z hb10 (.B Z Z Z hb10 (.B Z Z Z hb10 (.B Z Z Z hb10 (.B Z Z Z hb10 (.B Z Z Z hb10 (.ah Z Z Z (.ah Z Z Z (.ah Z Z Z (.ah Z Z Z (.ah Z Z Z (.ah Z Z Z (.ah Z Z Z (.ah Z Z Z (.ah Z Z Z (.B Z Z Z hb10 (.aa Z hb10 Z Z (.v Z Z (.v Z Z (.nil ?_))))))))))))))))))))))))))
    obtain rfl:=oi hx9
    refine b6 (Sub.env ⟨Z,Z,Y⟩)
  ·refine AWP.ret ?_
   obtain rfl:=oi h
   exact Done.ret Z Z
theorem at4{xv:Int}{c2:List Int}{r:Bool}(h:V3 xv c2=some r):f4 prog 127 [.c (int xv),.c (.imm (.ipt [.sl 1 (List.map intI c2)]))] (.c (bool r)):=by
 unfold f4
 refine FnOk.enter (rs:=[.t 3]) func127 Z ntmps127 results127 Z ⟨trivial,Y⟩ (by kernel_rfl) Z ?_
 unfold V3 at h
 refine AWP.q (.u (.v Z Z (.nil (b6 (.q ?_)))))
 obtain ⟨a9,ha9,h⟩:=bind_some h
 refine AWP.u (.ad Z Z Z Z (.j Z Z (.O Z Z Z Z (O5 ha9) Z (.j Z Z (.ac Z Z Z (.ac Z Z Z (.v Z Z (.v Z Z (.nil (b6 (.q (.u (.j Z Z (.v Z Z (.nil (b6 (.ret ?_)))))))))))))))))
 obtain rfl:=oi h
 exact Done.ret Z Z
theorem ag5{sv:List Int}{fv:Int→Option Bool}{r:Int}{fvfv:FuncId}{cvfv:List C}(hcvfv:C.okL 0 cvfv=true)(hfv:∀ {y1:Int} {z:Bool},fv y1=some z→f4 prog fvfv ([.c (int y1)]++cvfv.map T.c) (.c (bool z)))(h:E6 sv fv=some r):f4 prog 153 [.c (row 1 intI sv),.c (.fn fvfv cvfv)] (.c (int r)):=by
 unfold f4
 refine FnOk.enter (rs:=[.t 4]) func153 Z ntmps153 results153 Z ⟨trivial,Y⟩ (by kernel_rfl) Z ?_
 unfold E6 at h
 refine AWP.q (.u (.v Z Z (.nil (b6 (.q (.q (.u (.j Z Z (S.len Z Z (fun hl7=>.j Z Z (.nil (b6 (.J ?_)))))))))))))
 obtain ⟨oo,ho1,h⟩:=bind_some h
 refine AWP.rngS ho1 (fun t3 _=>⟨[(0,.c (row 1 intI sv)),(1,.c (.fn fvfv cvfv)),(7,.c (int (sv.length:Int))),(8,.c (int t3))],[]⟩) (fun o e st=>match o with | .inl _=>e=.exit 0∧Sub [] st ⟨[],[]⟩ | .inr x=>e=.ret∧Done [.t 4] (fun t _=>t=.c (int x)) .ret st) ?_ ?_ ?_ ?_
 ·try dsimp only
  exact Sub.env ⟨Z,Z,Z,Z,Y⟩
 ·intro t3 s hlot3 hltt3 _
  try dsimp only
  refine AWP.q (.u (.F Z Z Z (.nil (b6 (.q (.ae Z hltt3 (.exit (e8 (e8 ⟨Z, ?_⟩)))))))))
  exact Sub.env trivial
 ·intro t3 s o hlot3 hltt3 h
  unfold B8 at h
  try dsimp only at h ⊢
  refine AWP.q (.u (.F Z Z Z (.nil (b6 (.q (.af Z hltt3 (.skip (b6 (.q (.J (.q (.u (.j Z Z (.v Z Z (.nil (b6 (.q ?_)))))))))))))))))
  obtain ⟨a14,ha14,a16,ha16,h⟩:=b2 h
  refine AWP.u (.j Z Z (.j Z Z (.j Z Z (S.idx ha14 Z Z Z Z (.ad Z Z Z Z (.O Z Z (okL_app Z hcvfv) Z (hfv ha16) Z (.nil (b6 (.ab Z h (fun hc4 h=> ?_) (fun hc4 h=> ?_))))))))))
  ·refine AWP.q (.u (.j Z Z (.v Z Z (.nil (b6 (.ret (i9 (e7 ?_))))))))
   obtain rfl:=oi h
   refine e7 ⟨_,Z,Z, ?_⟩
   exact Done.ret Z Z
  ·refine AWP.skip (e9 (b6 (.u (.add Z Z Z (by omega) (.j Z Z (.nil ?_))))))
   obtain rfl:=oi h
   refine b6 ⟨_,Z, ?_⟩
   exact Sub.env ⟨Z,Z,Z,Z,Y⟩
 ·intro e s hq
  rcases oo with u | x
  ·try dsimp only at h hq
   obtain ⟨rfl,hs⟩:=hq
   refine ⟨_,hs, ?_⟩
   refine j5 (b6 (.q (.u (.v Z Z (.nil (b6 (.ret ?_)))))))
   obtain rfl:=oi h
   exact Done.ret Z Z
  ·try dsimp only at h hq
   obtain ⟨rfl,hs⟩:=hq
   refine ⟨_,Sub.refl _ _, ?_⟩
   refine i9 (e7 ?_)
   obtain rfl:=oi h
   exact hs
theorem ae1{sv:List Int}{fv:Int→Option Bool}{r:Bool}{fvfv:FuncId}{cvfv:List C}(hcvfv:C.okL 0 cvfv=true)(hfv:∀ {y1:Int} {z:Bool},fv y1=some z→f4 prog fvfv ([.c (int y1)]++cvfv.map T.c) (.c (bool z)))(h:w7 sv fv=some r):f4 prog 126 [.c (row 1 intI sv),.c (.fn fvfv cvfv)] (.c (bool r)):=by
 unfold f4
 refine FnOk.enter (rs:=[.t 4]) func126 Z ntmps126 results126 Z ⟨trivial,Y⟩ (by kernel_rfl) Z ?_
 unfold w7 at h
 refine AWP.q (.u (.v Z Z (.nil (b6 (.q ?_)))))
 obtain ⟨a7,ha7,h⟩:=bind_some h
 refine AWP.u (.j Z Z (.j Z Z (.O Z Z (by simp [T.okL,T.ok,C.ok,C.okL,hcvfv]) Z (ag5 hcvfv hfv ha7) Z (.geq Z Z Z (.v Z Z (.nil (b6 (.ret ?_))))))))
 obtain rfl:=oi h
 exact Done.ret Z Z
theorem strips_Meets_ok{av:List Int}{bv:List Int}{r:Bool}(h:T5 av bv=some r):f4 prog 99 [.c (row 1 intI av),.c (row 1 intI bv)] (.c (bool r)):=by
 unfold f4
 refine FnOk.enter (rs:=[.t 4]) func99 Z ntmps99 results99 Z ⟨trivial,Y⟩ (by kernel_rfl) Z ?_
 unfold T5 at h
 refine AWP.q (.u (W.box Z Z Z Z Z Z (.v Z Z (.nil (b6 (.q ?_))))))
 obtain ⟨a7,ha7,h⟩:=bind_some h
 refine AWP.u (.j Z Z (.makeFunc Z Z (.callL Z Z (.cons (.c .imm) (.cons (.c (.fn (.cons (.ptr (es:=[.sl 1 (List.map intI bv)]) Z Z (.cons .imm .nil)) .nil))) .nil)) Z (ae1 Z (fun hy=>at4 hy) ha7) Z ?_)))
 refine AOps.v Z Z (.nil (b6 (.ret ?_)))
 obtain rfl:=oi h
 exact Done.ret Z Z
theorem ai4{iv:Int}{r:ByteArray}(h:internal_strconv_small iv=some r):f4 prog 172 [.c (int iv)] (.c (.imm (.val (.string r)))):=by
 unfold f4
 refine FnOk.enter (rs:=[.t 2]) func172 Z ntmps172 results172 Z ⟨trivial,Y⟩ (by kernel_rfl) Z ?_
 unfold internal_strconv_small at h
 refine AWP.q (.u (.v Z Z (.nil (b6 (.q (.q (.u (.j Z Z (.F Z Z Z (.nil (b6 (.ite Z h (fun hc2 h=> ?_) (fun hc2 h=> ?_)))))))))))))
 ·refine AWP.q ?_
  obtain ⟨a8,ha8,h⟩:=bind_some h
  refine AWP.u (.j Z Z (.j Z Z (S.add Z Z Z (S.subStr ha8 Z Z Z Z (.v Z Z (.nil (b6 (.ret (e7 ?_)))))))))
  obtain rfl:=oi h
  exact Done.ret Z Z
 ·refine AWP.skip (b6 (.q ?_))
  obtain ⟨a14,ha14,h⟩:=bind_some h
  refine AWP.u (.j Z Z (S.mul Z Z Z (.j Z Z (S.mul Z Z Z (S.add Z Z Z (S.subStr ha14 Z Z Z Z (.v Z Z (.nil (b6 (.ret ?_))))))))))
  obtain rfl:=oi h
  exact Done.ret Z Z
theorem X5{iv:Int}{base:Int}{l:List Int}{r:(List Int)}(h:y5 iv base l=some r):FnOk prog 159 [.c (.own 0 0 l.length),.c (.imm (.val (.int .u64 iv))),.c (int base)] (X3 iv base l) (fun tt ss=>tt=.c (.own 2 0 r.length)∧ss=[.dead,.dead,.one (vec 1 eU8 r)]):=by
 refine FnOk.enter (rs:=[.t 6]) func159 Z ntmps159 results159 Z ⟨trivial,Y⟩ (by kernel_rfl) Z ?_
 refine AWP.weak ?_
 unfold y5 at h
 refine AWP.j (env':=[(0,.c (.own 1 0 l.length)),(1,.c (.imm (.val (.int .u64 iv)))),(2,.c (int base))]) (σ':=[.dead,.one (vec 1 eU8 l)]) 1 0 Z Z Z ⟨Z,Z,Z,Y⟩ Z ⟨trivial,⟨Blk.im_ok _ _ _,g9 Z⟩,Y⟩ (.q (.u (.v Z Z (.nil (b6 (.q (.q (.u (.j Z Z (.eql Z Z Z (.nil (b6 (.ite Z h (fun hc55 h=> ?_) (fun hc55 h=> ?_))))))))))))))
 ·refine AWP.q (.q (.u (.j Z Z (.F Z Z Z (.nil (b6 (.ite Z h (fun hc56 h=> ?_) (fun hc56 h=> ?_))))))))
  ·refine AWP.q ?_
   obtain ⟨a16,ha16,a17,ha17,h⟩:=b2 h
   refine AWP.u (.j Z Z (.j Z Z (.convInt Z Z (.O Z Z Z Z (ai4 ha16) Z (S.appendStr ha17 Z Z Z Z Z Z Z Z Z Z (.v Z Z (.nil (b6 (.ret (e7 (e7 ?_)))))))))))
   obtain rfl:=oi h
   exact ⟨⟨[(6,.c (.own 2 0 a17.length))],[.dead,.dead,.one (vec 1 eU8 a17)]⟩,Sub.env ⟨Z,Y⟩,Done.ret Z ⟨Z,Z⟩⟩
  ·cases h
 ·cases h
theorem aa5{iv:Int}{base:Int}{l:List Int}{r:(List Int)}(h:z6 iv base l=some r):FnOk prog 142 [.c (.own 0 0 l.length),.c (int iv),.c (int base)] (aa3 iv base l) (fun tt ss=>tt=.c (.own 3 0 r.length)∧ss=[.dead,.dead,.dead,.one (vec 1 eU8 r)]):=by
 refine FnOk.enter (rs:=[.t 6]) func142 Z ntmps142 results142 Z ⟨trivial,Y⟩ (by kernel_rfl) Z ?_
 refine AWP.weak ?_
 unfold z6 at h
 refine AWP.j (env':=[(0,.c (.own 1 0 l.length)),(1,.c (int iv)),(2,.c (int base))]) (σ':=[.dead,.one (vec 1 eU8 l)]) 1 0 Z Z Z ⟨Z,Z,Z,Y⟩ Z ⟨trivial,⟨Blk.im_ok _ _ _,g9 Z⟩,Y⟩ (.q (.u (.v Z Z (.nil (b6 (.q (.u (.j Z Z (.convInt Z Z (.v Z Z (.nil (b6 ?_))))))))))))
 obtain ⟨u,hx55,h⟩:=bind_some h
 refine AWP.seqJ (⟨[(0,.c (.own 1 0 l.length)),(2,.c (int base)),(7,.c (.imm (.val (.int .u64 ((IntKind.u64).wrap iv)))))],[.dead,.one (vec 1 eU8 l)]⟩) ?_ ?_
 ·refine AWP.q (.u (.j Z Z (.F Z Z Z (.nil (b6 (.ite Z hx55 (fun hc56 hx55=> ?_) (fun hc56 hx55=> ?_)))))))
  ·cases hx55
  ·refine AWP.skip ?_
   obtain rfl:=oi hx55
   refine b6 (Sub.env ⟨Z,Z,Z,Y⟩)
 ·try dsimp only at h
  refine AWP.q ?_
  obtain ⟨a20,ha20,h⟩:=bind_some h
  refine AWP.u (.j Z Z (.j Z Z (.j Z Z (.callF (r2:=.c (.own 3 0 a20.length)) (σ'':=[.dead,.dead,.dead,.one (vec 1 eU8 a20)]) Z Z Z (FnOk.lend [1] (X5 ha20) Z Z Z Z Z Z (by exact ⟨.vec,Y⟩) Z (by exact ⟨(.live Z .vec),Y⟩) Z Z (by exact ⟨.dead,.dead,.dead,(.new 2 Z Z .vec),Y⟩)) (.v Z Z (.nil (b6 (.ret ?_))))))))
  obtain rfl:=oi h
  exact ⟨⟨[(6,.c (.own 3 0 a20.length))],[.dead,.dead,.dead,.one (vec 1 eU8 a20)]⟩,Sub.env ⟨Z,Y⟩,Done.ret Z ⟨Z,Z⟩⟩
theorem am1{iv:Int}{base:Int}{l:List Int}{r:(List Int)}(h:B1 iv base l=some r):FnOk prog 111 [.c (.own 0 0 l.length),.c (int iv),.c (int base)] (am2 iv base l) (fun tt ss=>tt=.c (.own 4 0 r.length)∧ss=[.dead,.dead,.dead,.dead,.one (vec 1 eU8 r)]):=by
 refine FnOk.enter (rs:=[.t 6]) func111 Z ntmps111 results111 Z ⟨trivial,Y⟩ (by kernel_rfl) Z ?_
 refine AWP.weak ?_
 unfold B1 at h
 refine AWP.j (env':=[(0,.c (.own 1 0 l.length)),(1,.c (int iv)),(2,.c (int base))]) (σ':=[.dead,.one (vec 1 eU8 l)]) 1 0 Z Z Z ⟨Z,Z,Z,Y⟩ Z ⟨trivial,⟨Blk.im_ok _ _ _,g9 Z⟩,Y⟩ (.q (.u (.v Z Z (.nil (b6 (.q ?_))))))
 obtain ⟨a10,ha10,h⟩:=bind_some h
 refine AWP.u (.j Z Z (.j Z Z (.j Z Z (.callF (r2:=.c (.own 4 0 a10.length)) (σ'':=[.dead,.dead,.dead,.dead,.one (vec 1 eU8 a10)]) Z Z Z (FnOk.lend [1] (aa5 ha10) Z Z Z Z Z Z (by exact ⟨.vec,Y⟩) Z (by exact ⟨(.live Z .vec),Y⟩) Z Z (by exact ⟨.dead,.dead,.dead,.dead,(.new 3 Z Z .vec),Y⟩)) (.v Z Z (.nil (b6 (.ret ?_))))))))
 obtain rfl:=oi h
 exact ⟨⟨[(6,.c (.own 4 0 a10.length))],[.dead,.dead,.dead,.dead,.one (vec 1 eU8 a10)]⟩,Sub.env ⟨Z,Y⟩,Done.ret Z ⟨Z,Z⟩⟩
theorem R5{l:List (List Int)}{r:ByteArray}(h:y4 l=some r):f4 prog 74 [.c (row 1 d5 l)] (.c (.imm (.val (.string r)))):=by
 unfold f4
 refine FnOk.enter (rs:=[.t 2]) func74 Z ntmps74 results74 Z ⟨trivial,Y⟩ (by kernel_rfl) Z ?_
 unfold y4 at h
 refine AWP.q (.u (.v Z Z (.nil (b6 (.q (.u (.v Z Z (.nil (b6 (.q (.q (.u (.j Z Z (S.len Z Z (fun hl9=>.j Z Z (.nil (b6 (.J (.virtV 1 eU8 3 Z Z Z ?_)))))))))))))))))))
 obtain ⟨c2,ho1,h⟩:=bind_some h
 refine AWP.forS ho1 (fun t3 c2=>⟨[(3,.c (.own 0 0 c2.length)),(8,.c (row 1 d5 l)),(9,.c (int (l.length:Int))),(10,.c (int t3))],[.one (vec 1 eU8 c2)]⟩) (fun c2 e st=>e=.exit 0∧Sub [] st ⟨[(3,.c (.own 0 0 c2.length))],[.one (vec 1 eU8 c2)]⟩) ?_ ?_ ?_ ?_
 ·try dsimp only
  exact Sub.env ⟨(I5 (by first | rfl | simp only [List.length_set])),Z,Z,Z,Y⟩
 ·intro t3 c2 hlot3 hltt3 _
  try dsimp only
  refine AWP.q (.u (.F Z Z Z (.nil (b6 (.q (.ae Z hltt3 (.exit (e8 (e8 ⟨Z, ?_⟩)))))))))
  exact Sub.env ⟨Z,Y⟩
 ·intro t3 c2 o hlot3 hltt3 h
  unfold ah9 at h
  try dsimp only at h ⊢
  refine AWP.q (.u (.F Z Z Z (.nil (b6 (.q (.af Z hltt3 (.skip (b6 (.q (.J (.q ?_)))))))))))
  obtain ⟨a12,ha12,h⟩:=bind_some h
  refine AWP.u (S.idx ha12 Z Z Z Z (.ad Z Z Z Z (.v Z Z (.nil (b6 (.q (.q (.u (.j Z Z (S.len Z Z (fun hl15=>.j Z Z (.nil (b6 (.J ?_))))))))))))))
  obtain ⟨c4,ho2,h⟩:=bind_some h
  refine AWP.forS ho2 (fun t5 c4=>⟨[(3,.c (.own 0 0 c4.length)),(8,.c (row 1 d5 l)),(9,.c (int (l.length:Int))),(10,.c (int t3)),(14,.c (row 1 intI a12)),(15,.c (int (a12.length:Int))),(16,.c (int t5))],[.one (vec 1 eU8 c4)]⟩) (fun c4 e st=>e=.exit 2∧Sub [] st ⟨[(3,.c (.own 0 0 c4.length)),(8,.c (row 1 d5 l)),(9,.c (int (l.length:Int))),(10,.c (int t3))],[.one (vec 1 eU8 c4)]⟩) ?_ ?_ ?_ ?_
  ·try dsimp only
   exact Sub.env ⟨Z,Z,Z,Z,Z,Z,Z,Y⟩
  ·intro t5 c4 hlot5 hltt5 _
   try dsimp only
   refine AWP.q (.u (.F Z Z Z (.nil (b6 (.q (.ae Z hltt5 (.exit (e8 (e8 ⟨Z, ?_⟩)))))))))
   exact Sub.env ⟨Z,Z,Z,Z,Y⟩
  ·intro t5 c4 o hlot5 hltt5 h
   unfold ah8 at h
   try dsimp only at h ⊢
   refine AWP.q (.u (.F Z Z Z (.nil (b6 (.q (.af Z hltt5 (.skip (b6 (.q (.J (.q ?_)))))))))))
   obtain ⟨a18,ha18,h⟩:=bind_some h
   refine AWP.u (S.idx ha18 Z Z Z Z (.ad Z Z Z Z (.v Z Z (.nil (b6 ?_)))))
   obtain ⟨a22,ha22,a24,ha24,h⟩:=b2 h
   refine AWP.u (.j Z Z (.j Z Z (.callF (r2:=.c (.own 4 0 a22.length)) (σ'':=[.dead,.dead,.dead,.dead,.one (vec 1 eU8 a22)]) Z Z Z (FnOk.lend [0] (am1 ha22) Z Z Z Z Z Z (by exact ⟨.vec,Y⟩) Z (by exact ⟨(.live Z .vec),Y⟩) Z Z (by exact ⟨.dead,.dead,.dead,.dead,(.new 4 Z Z .vec),Y⟩)) (S.lit (f:=eU8) (l:=[44]) (ess:=[[.imm (.val (.int .u8 44))]]) Z Z Z Z Z Z Z ⟨⟨.inl Z,Y⟩,Y⟩ Z Z Z (S.append (f:=eU8) ha24 Z Z Z Z Z Z (.own Z Z) Z Z Z Z (.v Z Z (.nil (e9 (b6 (.j (env':=[(3,.c (.own 4 0 a24.length)),(8,.c (row 1 d5 l)),(9,.c (int (l.length:Int))),(10,.c (int t3)),(14,.c (row 1 intI a12)),(15,.c (int (a12.length:Int))),(16,.c (int t5))]) (σ':=[.dead,.dead,.dead,.dead,.one (vec 1 eU8 a24),.one (vec 1 eU8 [44])]) 4 6 Z Z Z ⟨Z,Z,Z,Z,Z,Z,Z,Y⟩ Z ⟨trivial,trivial,trivial,trivial,⟨Blk.im_ok _ _ _,g9 Z⟩,⟨Blk.im_ok _ _ _,g9 Z⟩,Y⟩ (.u (.add Z Z Z (by omega) (.j Z Z (.nil ?_))))))))))))))
   obtain rfl:=oi h
   refine b6 ((Sub.move (env':=[(3,.c (.own 0 0 a24.length)),(8,.c (row 1 d5 l)),(9,.c (int (l.length:Int))),(10,.c (int t3)),(14,.c (row 1 intI a12)),(15,.c (int (a12.length:Int))),(16,.c (int (t5+1)))]) (σ':=[.one (vec 1 eU8 a24),.dead,.dead,.dead,.dead,.one (vec 1 eU8 [44])]) 0 4 Z Z Z ⟨Z,Z,Z,Z,Z,Z,Z,Y⟩ Z ⟨⟨Blk.im_ok _ _ _,g9 Z⟩,trivial,trivial,trivial,trivial,⟨Blk.im_ok _ _ _,g9 Z⟩,Y⟩).trans (Sub.cut ⟨Z,Z,Z,Z,Z,Z,Z,Y⟩ Z ⟨.vec,Y⟩ Z))
  ·intro e s hq
   obtain ⟨rfl,hs⟩:=hq
   refine ⟨_,hs, ?_⟩
   refine j5 (b6 ?_)
   obtain ⟨a28,ha28,h⟩:=bind_some h
   refine AWP.u (.j Z Z (S.lit (f:=eU8) (l:=[59]) (ess:=[[.imm (.val (.int .u8 59))]]) Z Z Z Z Z Z Z ⟨⟨.inl Z,Y⟩,Y⟩ Z Z Z (S.append (f:=eU8) ha28 Z Z Z Z Z Z (.own Z Z) Z Z Z Z (.v Z Z (.nil (e9 (b6 (.j (env':=[(3,.c (.own 0 0 a28.length)),(8,.c (row 1 d5 l)),(9,.c (int (l.length:Int))),(10,.c (int t3))]) (σ':=[.one (vec 1 eU8 a28),.one (vec 1 eU8 [59])]) 0 2 Z Z Z ⟨Z,Z,Z,Z,Y⟩ Z ⟨⟨Blk.im_ok _ _ _,g9 Z⟩,⟨Blk.im_ok _ _ _,g9 Z⟩,Y⟩ (.u (.add Z Z Z (by omega) (.j Z Z (.nil ?_))))))))))))
   obtain rfl:=oi h
   refine b6 (Sub.cut ⟨Z,Z,Z,Z,Y⟩ Z ⟨.vec,Y⟩ Z)
 ·intro e s hq
  obtain ⟨rfl,hs⟩:=hq
  refine ⟨_,hs, ?_⟩
  refine j5 (b6 (.q (.u (.j Z Z (S.bytesStr Z Z Z Z (.v Z Z (.nil (b6 (.ret ?_)))))))))
  obtain rfl:=oi h
  exact Done.ret Z Z
theorem N1{sv:List Int}{part:List Int}{r:Bool}(h:y7 sv part=some r):f4 prog 37 [.c (row 1 intI sv),.c (row 1 intI part)] (.c (bool r)):=by
 unfold f4
 refine FnOk.enter (rs:=[.t 4]) func37 Z ntmps37 results37 Z ⟨trivial,Y⟩ (by kernel_rfl) Z ?_
 unfold y7 at h
 refine AWP.q (.u (.v Z Z (.nil (b6 (.q (.u (.v Z Z (.nil (b6 (.q (.q (.u (.j Z Z (S.len Z Z (fun hl9=>.j Z Z (.nil (b6 (.J ?_))))))))))))))))))
 obtain ⟨oo,ho1,h⟩:=bind_some h
 refine AWP.rngS ho1 (fun t4 iv3=>⟨[(0,.c (row 1 intI sv)),(5,.c (int iv3)),(8,.c (row 1 intI part)),(9,.c (int (part.length:Int))),(10,.c (int t4))],[]⟩) (fun o e st=>match o with | .inl iv3=>e=.exit 0∧Sub [] st ⟨[],[]⟩ | .inr x=>e=.ret∧Done [.t 4] (fun t _=>t=.c (bool x)) .ret st) ?_ ?_ ?_ ?_
 ·try dsimp only
  exact Sub.env ⟨Z,Z,Z,Z,Z,Y⟩
 ·intro t4 iv3 hlot4 hltt4 _
  try dsimp only
  refine AWP.q (.u (.F Z Z Z (.nil (b6 (.q (.ae Z hltt4 (.exit (e8 (e8 ⟨Z, ?_⟩)))))))))
  exact Sub.env trivial
 ·intro t4 iv3 o hlot4 hltt4 h
  unfold M8 at h
  try dsimp only at h ⊢
  refine AWP.q (.u (.F Z Z Z (.nil (b6 (.q (.af Z hltt4 (.skip (b6 (.q (.J (.q ?_)))))))))))
  obtain ⟨a12,ha12,h⟩:=bind_some h
  refine AWP.u (S.idx ha12 Z Z Z Z (.ad Z Z Z Z (.v Z Z (.nil (b6 (.q (.J ?_)))))))
  obtain ⟨iv6,ho2,h⟩:=bind_some h
  refine AWP.loopS ho2 (fun iv5=>⟨[(0,.c (row 1 intI sv)),(5,.c (int iv5)),(7,.c (int a12)),(8,.c (row 1 intI part)),(9,.c (int (part.length:Int))),(10,.c (int t4))],[]⟩) (fun iv6 e st=>e=.exit 2∧Sub [] st ⟨[(0,.c (row 1 intI sv)),(5,.c (int iv6)),(7,.c (int a12)),(8,.c (row 1 intI part)),(9,.c (int (part.length:Int))),(10,.c (int t4))],[]⟩) ?_ ?_ ?_
  ·try dsimp only
   exact Sub.env ⟨Z,Z,Z,Z,Z,Z,Y⟩
  ·intro iv5 o h
   unfold H0 at h
   try dsimp only at h ⊢
   refine AWP.q ?_
   obtain ⟨t7,hx8,h⟩:=bind_some h
   refine AWP.seqJ (⟨[(0,.c (row 1 intI sv)),(5,.c (int iv5)),(7,.c (int a12)),(8,.c (row 1 intI part)),(9,.c (int (part.length:Int))),(10,.c (int t4)),(25,.c (bool t7))],[]⟩) ?_ ?_
   ·rcases bft (decide (iv5<(sv.length:Int))) with hb9 | hb9
    ·replace hx8:=P3 hb9 hx8
     obtain ⟨a21,ha21,hx8⟩:=bind_some hx8
     refine AWP.u (.j Z Z (.j Z Z (S.len Z Z (fun hl16=>.F Z Z Z (.j Z Z (.z Z Z Z hb9 (.j Z Z (.z Z Z Z hb9 (.j Z Z (.z Z Z Z hb9 (S.idx ha21 Z Z Z Z (.z Z Z Z hb9 (.ad Z Z Z Z (.z Z Z Z hb9 (.j Z Z (.z Z Z Z hb9 (.F Z Z Z (.U Z hb9 Z Z (.nil ?_)))))))))))))))))))
     obtain rfl:=oi hx8
     refine b6 (Sub.env ⟨Z,Z,Z,Z,Z,Z,Z,Y⟩)
    ·replace hx8:=P2 hb9 hx8
     refine AWP.u (.j Z Z (.j Z Z (S.len Z Z (fun hl16=>.F Z Z Z (.j Z Z (.B Z Z Z hb9 (.B Z Z Z hb9 (.B Z Z Z hb9 (.B Z Z Z hb9 (.B Z Z Z hb9 (.B Z Z Z hb9 (.aa Z hb9 Z Z (.nil ?_)))))))))))))
     obtain rfl:=oi hx8
     refine b6 (Sub.env ⟨Z,Z,Z,Z,Z,Z,Z,Y⟩)
   ·refine AWP.ab Z h (fun hc10 h=> ?_) (fun hc10 h=> ?_)
    ·refine AWP.skip (b6 (.J (.u (.j Z Z (S.add Z Z Z (.v Z Z (.nil (e9 ?_))))))))
     obtain rfl:=oi h
     refine b6 ⟨_,Z, ?_⟩
     exact Sub.env ⟨Z,Z,Z,Z,Z,Z,Y⟩
    ·refine AWP.exit (e8 ?_)
     obtain rfl:=oi h
     refine e8 ⟨_,Z,Z, ?_⟩
     exact Sub.env ⟨Z,Z,Z,Z,Z,Z,Y⟩
  ·intro e s hq
   obtain ⟨rfl,hs⟩:=hq
   refine ⟨_,hs, ?_⟩
   refine j5 (b6 ?_)
   obtain ⟨t11,hx12,h⟩:=bind_some h
   refine AWP.seqJ (⟨[(0,.c (row 1 intI sv)),(5,.c (int iv6)),(8,.c (row 1 intI part)),(9,.c (int (part.length:Int))),(10,.c (int t4)),(39,.c (bool t11))],[]⟩) ?_ ?_
   ·rcases bft (decide (iv6=(sv.length:Int))) with hb13 | hb13
    ·replace hx12:=P3 hb13 hx12
     refine AWP.u (.j Z Z (.j Z Z (S.len Z Z (fun hl30=>.eql Z Z Z (.j Z Z (.B Z Z Z hb13 (.B Z Z Z hb13 (.B Z Z Z hb13 (.B Z Z Z hb13 (.B Z Z Z hb13 (.B Z Z Z hb13 (.U Z hb13 Z Z (.nil ?_)))))))))))))
     obtain rfl:=oi hx12
     refine b6 (Sub.env ⟨Z,Z,Z,Z,Z,Z,Y⟩)
    ·replace hx12:=P2 hb13 hx12
     obtain ⟨a35,ha35,hx12⟩:=bind_some hx12
     refine AWP.u (.j Z Z (.j Z Z (S.len Z Z (fun hl30=>.eql Z Z Z (.j Z Z (.z Z Z Z hb13 (.j Z Z (.z Z Z Z hb13 (.j Z Z (.z Z Z Z hb13 (S.idx ha35 Z Z Z Z (.z Z Z Z hb13 (.ad Z Z Z Z (.z Z Z Z hb13 (.j Z Z (.z Z Z Z hb13 (.neq Z Z Z (.aa Z hb13 Z Z (.nil ?_)))))))))))))))))))
     obtain rfl:=oi hx12
     refine b6 (Sub.env ⟨Z,Z,Z,Z,Z,Z,Y⟩)
   ·refine AWP.ab Z h (fun hc14 h=> ?_) (fun hc14 h=> ?_)
    ·refine AWP.q (.u (.v Z Z (.nil (b6 (.ret (i9 (e7 ?_)))))))
     obtain rfl:=oi h
     refine e7 ⟨_,Z,Z, ?_⟩
     exact Done.ret Z Z
    ·refine AWP.skip (e9 (b6 (.u (.add Z Z Z (by omega) (.j Z Z (.nil ?_))))))
     obtain rfl:=oi h
     refine b6 ⟨_,Z, ?_⟩
     exact Sub.env ⟨Z,Z,Z,Z,Z,Y⟩
 ·intro e s hq
  rcases oo with iv3 | x
  ·try dsimp only at h hq
   obtain ⟨rfl,hs⟩:=hq
   refine ⟨_,hs, ?_⟩
   refine j5 (b6 (.q (.u (.v Z Z (.nil (b6 (.ret ?_)))))))
   obtain rfl:=oi h
   exact Done.ret Z Z
  ·try dsimp only at h hq
   obtain ⟨rfl,hs⟩:=hq
   refine ⟨_,Sub.refl _ _, ?_⟩
   refine i9 (e7 ?_)
   obtain rfl:=oi h
   exact hs
theorem ab4{sv:List Int}{add:List Int}{del:List Int}{r:(List Int)}(h:C3 sv add del=some r):m5 prog 41 [.c (row 1 intI sv),.c (row 1 intI add),.c (row 1 intI del)] 1 (List.map intI r):=by
 unfold m5
 refine FnOk.enter (rs:=[.t 6]) func41 Z ntmps41 results41 Z ⟨trivial,Y⟩ (by kernel_rfl) Z ?_
 unfold C3 at h
 refine AWP.q (.u (.v Z Z (.nil (b6 (.q (.u (.v Z Z (.nil (b6 (.q (.q (.u (.j Z Z (S.len Z Z (fun hl13=>.j Z Z (.nil (b6 (.J (.virtV 1 intI 7 Z Z Z ?_)))))))))))))))))))
 obtain ⟨c4,ho1,h⟩:=bind_some h
 refine AWP.forS ho1 (fun t5 c4=>⟨[(1,.c (row 1 intI add)),(2,.c (row 1 intI del)),(7,.c (.own 0 0 c4.length)),(12,.c (row 1 intI sv)),(13,.c (int (sv.length:Int))),(14,.c (int t5))],[.one (vec 1 intI c4)]⟩) (fun c4 e st=>e=.exit 0∧Sub [] st ⟨[(1,.c (row 1 intI add)),(7,.c (.own 0 0 c4.length))],[.one (vec 1 intI c4)]⟩) ?_ ?_ ?_ ?_
 ·try dsimp only
  exact Sub.env ⟨Z,Z,(I5 (by first | rfl | simp only [List.length_set])),Z,Z,Z,Y⟩
 ·intro t5 c4 hlot5 hltt5 _
  try dsimp only
  refine AWP.q (.u (.F Z Z Z (.nil (b6 (.q (.ae Z hltt5 (.exit (e8 (e8 ⟨Z, ?_⟩)))))))))
  exact Sub.env ⟨Z,Z,Y⟩
 ·intro t5 c4 o hlot5 hltt5 h
  unfold aa7 at h
  try dsimp only at h ⊢
  refine AWP.q (.u (.F Z Z Z (.nil (b6 (.q (.af Z hltt5 (.skip (b6 ?_))))))))
  obtain ⟨c6,hx7,h⟩:=bind_some h
  refine AWP.seqJ (⟨[(1,.c (row 1 intI add)),(2,.c (row 1 intI del)),(7,.c (.own 2 0 c6.length)),(12,.c (row 1 intI sv)),(13,.c (int (sv.length:Int))),(14,.c (int t5))],[.dead,.dead,.one (vec 1 intI c6)]⟩) ?_ ?_
  ·refine AWP.J (.q ?_)
   obtain ⟨a16,ha16,hx7⟩:=bind_some hx7
   refine AWP.u (S.idx ha16 Z Z Z Z (.ad Z Z Z Z (.v Z Z (.nil (b6 (.q ?_))))))
   obtain ⟨a21,ha21,hx7⟩:=bind_some hx7
   refine AWP.u (.j Z Z (.j Z Z (.O Z Z Z Z (O5 ha21) Z (.j Z Z (.ac Z Z Z (.ac Z Z Z (.v Z Z (.v Z Z (.nil (b6 (.q (.u (.j Z Z (.not Z Z (.nil (b6 (.ab Z hx7 (fun hc8 hx7=> ?_) (fun hc8 hx7=> ?_))))))))))))))))))
   ·obtain ⟨a29,ha29,hx7⟩:=bind_some hx7
    refine AWP.u (.j Z Z (.j Z Z (S.lit (f:=intI) (l:=[a16]) (ess:=[[int a16]]) Z Z Z Z Z Z Z ⟨⟨.inl Z,Y⟩,Y⟩ Z Z Z (S.append (f:=intI) ha29 Z Z Z Z Z Z (.own Z Z) Z Z Z Z (.v Z Z (.nil (e9 ?_)))))))
    obtain rfl:=oi hx7
    refine b6 (Sub.cut ⟨Z,Z,Z,Z,Z,Z,Y⟩ Z ⟨.dead,.dead,.vec,Y⟩ Z)
   ·refine AWP.skip (e9 ?_)
    obtain rfl:=oi hx7
    refine b6 ((Sub.move (env':=[(1,.c (row 1 intI add)),(2,.c (row 1 intI del)),(7,.c (.own 2 0 c4.length)),(12,.c (row 1 intI sv)),(13,.c (int (sv.length:Int))),(14,.c (int t5))]) (σ':=[.dead,.dead,.one (vec 1 intI c4)]) 2 0 Z Z Z ⟨Z,Z,Z,Z,Z,Z,Y⟩ Z ⟨trivial,trivial,⟨Blk.im_ok _ _ _,g9 Z⟩,Y⟩).trans (Sub.env ⟨Z,Z,Z,Z,Z,Z,Y⟩))
  ·refine AWP.u (.add Z Z Z (by omega) (.j Z Z (.nil ?_)))
   obtain rfl:=oi h
   refine b6 ((Sub.move (env':=[(1,.c (row 1 intI add)),(2,.c (row 1 intI del)),(7,.c (.own 0 0 c6.length)),(12,.c (row 1 intI sv)),(13,.c (int (sv.length:Int))),(14,.c (int (t5+1)))]) (σ':=[.one (vec 1 intI c6),.dead]) 0 2 Z Z Z ⟨Z,Z,Z,Z,Z,Z,Y⟩ Z ⟨⟨Blk.im_ok _ _ _,g9 Z⟩,trivial,Y⟩).trans (Sub.cut ⟨Z,Z,Z,Z,Z,Z,Y⟩ Z ⟨.vec,Y⟩ Z))
 ·intro e s hq
  obtain ⟨rfl,hs⟩:=hq
  refine ⟨_,hs, ?_⟩
  refine j5 (b6 (.q ?_))
  obtain ⟨a33,ha33,h⟩:=bind_some h
  refine AWP.u (.j Z Z (.j Z Z (S.append (f:=intI) ha33 Z Z Z Z Z Z .row Z Z Z Z (.v Z Z (.nil (b6 (.q (.j (env':=[(7,.c (.own 0 0 a33.length))]) (σ':=[.one (vec 1 intI a33)]) 0 1 Z Z Z ⟨Z,Y⟩ Z ⟨⟨Blk.im_ok _ _ _,g9 Z⟩,Y⟩ ?_))))))))
  obtain ⟨a35,ha35,h⟩:=bind_some h
  refine AWP.u (.j Z Z (S.sort ha35 sortL_ok Z Z Z Z Z Z (.nil (b6 (.q (.u (.j Z Z (S.compact compactL_ok Z Z (sortL_len ha35) Z Z Z Z Z (.v Z Z (.nil (b6 (.ret ?_))))))))))))
  obtain rfl:=oi h
  exact Done.ret Z (Fresh.mk Z Z)
theorem ar6{xv:Int}{yv:Int}{r:Int}(h:cmp_Compare_int xv yv=some r):f4 prog 95 [.c (int xv),.c (int yv)] (.c (int r)):=by
 unfold f4
 refine FnOk.enter (rs:=[.t 4]) func95 Z ntmps95 results95 Z ⟨trivial,Y⟩ (by kernel_rfl) Z ?_
 unfold cmp_Compare_int at h
 refine AWP.q (.u (.v Z Z (.nil (b6 (.q ?_)))))
 obtain ⟨a8,ha8,h⟩:=bind_some h
 refine AWP.u (.j Z Z (.O Z Z Z Z (C6 ha8) Z (.v Z Z (.nil (b6 (.q ?_))))))
 obtain ⟨a10,ha10,h⟩:=bind_some h
 refine AWP.u (.j Z Z (.O Z Z Z Z (C6 ha10) Z (.v Z Z (.nil (b6 (.q (.q (.u (.j Z Z (.nil (b6 (.ab Z h (fun hc3 h=> ?_) (fun hc3 h=> ?_)))))))))))))
 ·refine AWP.q (.q (.u (.j Z Z (.nil (b6 (.ab Z h (fun hc4 h=> ?_) (fun hc4 h=> ?_)))))))
  ·refine AWP.q (.u (.v Z Z (.nil (b6 (.ret (e7 (e7 ?_)))))))
   obtain rfl:=oi h
   exact Done.ret Z Z
  ·refine AWP.skip (b6 (.q (.u (.v Z Z (.nil (b6 (.ret (e7 ?_))))))))
   obtain rfl:=oi h
   exact Done.ret Z Z
 ·refine AWP.skip (b6 (.q (.q (.u (.j Z Z (.nil (b6 (.ab Z h (fun hc5 h=> ?_) (fun hc5 h=> ?_)))))))))
  ·refine AWP.q (.u (.v Z Z (.nil (b6 (.ret (e7 ?_))))))
   obtain rfl:=oi h
   exact Done.ret Z Z
  ·refine AWP.skip (b6 (.q (.q (.u (.j Z Z (.j Z Z (.F Z Z Z (.nil (b6 (.ite Z h (fun hc6 h=> ?_) (fun hc6 h=> ?_)))))))))))
   ·refine AWP.q (.u (.v Z Z (.nil (b6 (.ret (e7 ?_))))))
    obtain rfl:=oi h
    exact Done.ret Z Z
   ·refine AWP.skip (b6 (.q (.q (.u (.j Z Z (.j Z Z (.gtr Z Z Z (.nil (b6 (.ite Z h (fun hc7 h=> ?_) (fun hc7 h=> ?_)))))))))))
    ·refine AWP.q (.u (.v Z Z (.nil (b6 (.ret (e7 ?_))))))
     obtain rfl:=oi h
     exact Done.ret Z Z
    ·refine AWP.skip (b6 (.q (.u (.v Z Z (.nil (b6 (.ret ?_)))))))
     obtain rfl:=oi h
     exact Done.ret Z Z
theorem S9{s11:List Int}{s22:List Int}{r:Int}(h:u4 s11 s22=some r):f4 prog 50 [.c (row 1 intI s11),.c (row 1 intI s22)] (.c (int r)):=by
 unfold f4
 refine FnOk.enter (rs:=[.t 4]) func50 Z ntmps50 results50 Z ⟨trivial,Y⟩ (by kernel_rfl) Z ?_
 unfold u4 at h
 refine AWP.q (.u (.v Z Z (.nil (b6 (.q (.q (.u (.j Z Z (S.len Z Z (fun hl10=>.j Z Z (.nil (b6 (.J ?_)))))))))))))
 obtain ⟨oo,ho1,h⟩:=bind_some h
 refine AWP.rngS ho1 (fun t3 _=>⟨[(0,.c (row 1 intI s11)),(1,.c (row 1 intI s22)),(9,.c (row 1 intI s11)),(10,.c (int (s11.length:Int))),(11,.c (int t3))],[]⟩) (fun o e st=>match o with | .inl _=>e=.exit 0∧Sub [] st ⟨[(0,.c (row 1 intI s11)),(1,.c (row 1 intI s22))],[]⟩ | .inr x=>e=.ret∧Done [.t 4] (fun t _=>t=.c (int x)) .ret st) ?_ ?_ ?_ ?_
 ·try dsimp only
  exact Sub.env ⟨Z,Z,Z,Z,Z,Y⟩
 ·intro t3 s hlot3 hltt3 _
  try dsimp only
  refine AWP.q (.u (.F Z Z Z (.nil (b6 (.q (.ae Z hltt3 (.exit (e8 (e8 ⟨Z, ?_⟩)))))))))
  exact Sub.env ⟨Z,Z,Y⟩
 ·intro t3 s o hlot3 hltt3 h
  unfold D2 at h
  try dsimp only at h ⊢
  refine AWP.q (.u (.F Z Z Z (.nil (b6 (.q (.af Z hltt3 (.skip (b6 (.q (.J (.q ?_)))))))))))
  obtain ⟨a14,ha14,h⟩:=bind_some h
  refine AWP.u (.j Z Z (S.idx ha14 Z Z Z Z (.ad Z Z Z Z (.v Z Z (.v Z Z (.nil (b6 (.q (.q (.u (.j Z Z (.j Z Z (S.len Z Z (fun hl18=>.geq Z Z Z (.nil (b6 (.ite Z h (fun hc4 h=> ?_) (fun hc4 h=> ?_))))))))))))))))))
  ·refine AWP.q (.u (.v Z Z (.nil (b6 (.ret (e7 (i9 (e7 ?_))))))))
   obtain rfl:=oi h
   refine e7 ⟨_,Z,Z, ?_⟩
   exact Done.ret Z Z
  ·refine AWP.skip (b6 (.q ?_))
   obtain ⟨a22,ha22,h⟩:=bind_some h
   refine AWP.u (.j Z Z (.j Z Z (S.idx ha22 Z Z Z Z (.ad Z Z Z Z (.v Z Z (.nil (b6 (.q ?_))))))))
   obtain ⟨a26,ha26,h⟩:=bind_some h
   refine AWP.u (.j Z Z (.j Z Z (.O Z Z Z Z (ar6 ha26) Z (.v Z Z (.nil (b6 (.q (.u (.j Z Z (.neq Z Z Z (.nil (b6 (.iteN Z h (fun hc5 h=> ?_) (fun hc5 h=> ?_))))))))))))))
   ·refine AWP.q (.u (.j Z Z (.v Z Z (.nil (b6 (.ret (i9 (e7 ?_))))))))
    obtain rfl:=oi h
    refine e7 ⟨_,Z,Z, ?_⟩
    exact Done.ret Z Z
   ·refine AWP.skip (e9 (b6 (.u (.add Z Z Z (by omega) (.j Z Z (.nil ?_))))))
    obtain rfl:=oi h
    refine b6 ⟨_,Z, ?_⟩
    exact Sub.env ⟨Z,Z,Z,Z,Z,Y⟩
 ·intro e s hq
  rcases oo with u | x
  ·try dsimp only at h hq
   obtain ⟨rfl,hs⟩:=hq
   refine ⟨_,hs, ?_⟩
   refine j5 (b6 (.q (.q (.u (.j Z Z (S.len Z Z (fun hl32=>.j Z Z (S.len Z Z (fun hl34=>.F Z Z Z (.nil (b6 (.ite Z h (fun hc6 h=> ?_) (fun hc6 h=> ?_)))))))))))))
   ·refine AWP.q (.u (.v Z Z (.nil (b6 (.ret (e7 ?_))))))
    obtain rfl:=oi h
    exact Done.ret Z Z
   ·refine AWP.skip (b6 (.q (.u (.v Z Z (.nil (b6 (.ret ?_)))))))
    obtain rfl:=oi h
    exact Done.ret Z Z
  ·try dsimp only at h hq
   obtain ⟨rfl,hs⟩:=hq
   refine ⟨_,Sub.refl _ _, ?_⟩
   refine i9 (e7 ?_)
   obtain rfl:=oi h
   exact hs
theorem W2{s11:List Int}{s22:List Int}{r:Bool}(h:B2 s11 s22=some r):f4 prog 82 [.c (row 1 intI s11),.c (row 1 intI s22)] (.c (bool r)):=by
 unfold f4
 refine FnOk.enter (rs:=[.t 4]) func82 Z ntmps82 results82 Z ⟨trivial,Y⟩ (by kernel_rfl) Z ?_
 unfold B2 at h
 refine AWP.q (.u (.v Z Z (.nil (b6 (.q (.q (.u (.j Z Z (S.len Z Z (fun hl7=>.j Z Z (S.len Z Z (fun hl9=>.neq Z Z Z (.nil (b6 (.iteN Z h (fun hc3 h=> ?_) (fun hc3 h=> ?_))))))))))))))))
 ·refine AWP.q (.u (.v Z Z (.nil (b6 (.ret (e7 ?_))))))
  obtain rfl:=oi h
  exact Done.ret Z Z
 ·refine AWP.skip (b6 (.q (.q (.u (.j Z Z (S.len Z Z (fun hl12=>.j Z Z (.nil (b6 (.J ?_))))))))))
  obtain ⟨oo,ho1,h⟩:=bind_some h
  refine AWP.rngS ho1 (fun t4 _=>⟨[(0,.c (row 1 intI s11)),(1,.c (row 1 intI s22)),(12,.c (int (s11.length:Int))),(13,.c (int t4))],[]⟩) (fun o e st=>match o with | .inl _=>e=.exit 0∧Sub [] st ⟨[],[]⟩ | .inr x=>e=.ret∧Done [.t 4] (fun t _=>t=.c (bool x)) .ret st) ?_ ?_ ?_ ?_
  ·try dsimp only
   exact Sub.env ⟨Z,Z,Z,Z,Y⟩
  ·intro t4 s hlot4 hltt4 _
   try dsimp only
   refine AWP.q (.u (.F Z Z Z (.nil (b6 (.q (.ae Z hltt4 (.exit (e8 (e8 ⟨Z, ?_⟩)))))))))
   exact Sub.env trivial
  ·intro t4 s o hlot4 hltt4 h
   unfold M1 at h
   try dsimp only at h ⊢
   refine AWP.q (.u (.F Z Z Z (.nil (b6 (.q (.af Z hltt4 (.skip (b6 (.q (.J (.q (.u (.j Z Z (.v Z Z (.nil (b6 (.q ?_)))))))))))))))))
   obtain ⟨a18,ha18,a22,ha22,h⟩:=b2 h
   refine AWP.drawI mixed Z ?_
   refine j7.consF Z (fun E=>AOps.j Z Z .N) Z (.consF Z (fun E=>AOps.j Z Z .N) Z (.consF Z (fun E=>S.idx ha18 Z Z Z Z .N) Z (.consF Z (fun E=>AOps.ad Z Z Z Z .N) Z (.consF Z (fun E=>AOps.j Z Z .N) Z (.consF Z (fun E=>AOps.j Z Z .N) Z (.consF Z (fun E=>S.idx ha22 Z Z Z Z .N) Z (.consF Z (fun E=>AOps.ad Z Z Z Z .N) Z (.consF Z (fun E=>AOps.neq Z Z Z .N) Z ?_))))))))
   refine j7.done ?_
   dsimp only [j9]
   refine b6 (.iteN Z h (fun hc5 h=> ?_) (fun hc5 h=> ?_))
   ·refine AWP.q (.u (.v Z Z (.nil (b6 (.ret (i9 (e7 ?_)))))))
    obtain rfl:=oi h
    refine e7 ⟨_,Z,Z, ?_⟩
    exact Done.ret Z Z
   ·refine AWP.skip (e9 (b6 (.u (.add Z Z Z (by omega) (.j Z Z (.nil ?_))))))
    obtain rfl:=oi h
    refine b6 ⟨_,Z, ?_⟩
    exact Sub.env ⟨Z,Z,Z,Z,Y⟩
  ·intro e s hq
   rcases oo with u | x
   ·try dsimp only at h hq
    obtain ⟨rfl,hs⟩:=hq
    refine ⟨_,hs, ?_⟩
    refine j5 (b6 (.q (.u (.v Z Z (.nil (b6 (.ret ?_)))))))
    obtain rfl:=oi h
    exact Done.ret Z Z
   ·try dsimp only at h hq
    obtain ⟨rfl,hs⟩:=hq
    refine ⟨_,Sub.refl _ _, ?_⟩
    refine i9 (e7 ?_)
    obtain rfl:=oi h
    exact hs
theorem ac4{l:List (List Int)}{r:(List (List Int))}(h:w4 l=some r):FnOk prog 118 [.c (.own 0 0 l.length),.c (.fn 82 [])] (x6 l) (fun tt ss=>tt=.c (.own 1 0 r.length)∧ss=[.dead,.one (vec 1 d5 r)]):=by
 refine FnOk.enter (rs:=[.t 4]) func118 Z ntmps118 results118 Z ⟨trivial,Y⟩ (by kernel_rfl) Z ?_
 refine AWP.weak ?_
 unfold w4 at h
 refine AWP.j (env':=[(0,.c (.own 1 0 l.length)),(1,.c (.fn 82 []))]) (σ':=[.dead,.one (vec 1 d5 l)]) 1 0 Z Z Z ⟨Z,Z,Y⟩ Z ⟨trivial,⟨Blk.im_ok _ _ _,g9 Z⟩,Y⟩ (.q (.u (.v Z Z (.nil (b6 (.q (.q (.u (.j Z Z (S.lenO Z Z Z (fun hl9=>.F Z Z Z (.nil (b6 (.ite Z h (fun hc53 h=> ?_) (fun hc53 h=> ?_)))))))))))))))
 ·refine AWP.q (.u (.j Z Z (.v Z Z (.nil (b6 (.ret (e7 ?_)))))))
  obtain rfl:=oi h
  exact ⟨⟨[(4,.c (.own 1 0 l.length))],[.dead,.one (vec 1 d5 l)]⟩,Sub.env ⟨Z,Y⟩,Done.ret Z ⟨Z,Z⟩⟩
 ·refine AWP.skip (b6 (.q (.q (.u (.v Z Z (.nil (b6 (.J ?_))))))))
  obtain ⟨oo,ho1,h⟩:=bind_some h
  refine AWP.rngS ho1 (fun kv54 _=>⟨[(0,.c (.own 1 0 l.length)),(1,.c (.fn 82 [])),(5,.c (int kv54))],[.dead,.one (vec 1 d5 l)]⟩) (fun o e st=>match o with | .inl _=>e=.exit 0∧Sub (x6 l) st ⟨[(0,.c (.own 1 0 l.length))],[.dead,.one (vec 1 d5 l)]⟩ | .inr x=>e=.ret∧∃ J,Sub (x6 l) st J∧Done [.t 4] (fun tt ss=>tt=.c (.own 1 0 x.length)∧ss=[.dead,.one (vec 1 d5 x)]) .ret J) ?_ ?_ ?_ ?_
  ·try dsimp only
   exact Sub.env ⟨Z,Z,Z,Y⟩
  ·intro kv54 s hlokv54 hltkv54 _
   try dsimp only
   refine AWP.q (.q (.u (.j Z Z (.j Z Z (S.lenO Z Z Z (fun hl14=>.F Z Z Z (.nil (b6 (.ae Z hltkv54 (.exit (e8 (e8 ⟨Z, ?_⟩))))))))))))
   exact Sub.env ⟨Z,Y⟩
  ·intro kv54 s o hlokv54 hltkv54 h
   unfold q8 at h
   try dsimp only at h ⊢
   refine AWP.q (.q (.u (.j Z Z (.j Z Z (S.lenO Z Z Z (fun hl14=>.F Z Z Z (.nil (b6 (.af Z hltkv54 (.skip (b6 (.q (.J (.q ?_))))))))))))))
   obtain ⟨a21,ha21,a26,ha26,a28,ha28,h⟩:=b3 h
   refine AWP.drawI mixed Z ?_
   refine j7.consF Z (fun E=>AOps.j Z Z .N) Z (.consF Z (fun E=>AOps.j Z Z .N) Z (.consF Z (fun E=>AOps.j Z Z .N) Z (.consF Z (fun E=>S.idxO ha21 Z Z Z Z Z .N) Z (.consF Z (fun E=>S.loadO ha21 Z Z Z Z Z .N) Z (.consF Z (fun E=>AOps.j Z Z .N) Z (.consF Z (fun E=>AOps.j Z Z .N) Z (.consF Z (fun E=>AOps.sub' Z Z Z (by omega) .N) Z (.consF Z (fun E=>S.idxO ha26 Z Z Z Z Z .N) Z (.consF Z (fun E=>S.loadO ha26 Z Z Z Z Z .N) Z (.consF Z (fun E=>AOps.O Z Z Z Z (W2 ha28) Z .N) Z ?_))))))))))
   refine j7.done ?_
   dsimp only [j9]
   refine b6 (.ab Z h (fun hc55 h=> ?_) (fun hc55 h=> ?_))
   ·refine AWP.q ?_
    obtain ⟨u31,hu31,h⟩:=bind_some h
    refine AWP.u (.j Z Z (.j Z Z (S.vFrom (S0 l) hu31 Z Z Z Z Z Z (.v Z Z (.nil (b6 (.q (.q (.u (.v Z Z (.nil (b6 (.J ?_)))))))))))))
    obtain ⟨⟨c56,kv57⟩,ho2,h⟩:=bind_some h
    try dsimp only at h
    refine AWP.forS ho2 (fun k258 (c56,kv57)=>⟨[(0,.c (.own 1 0 c56.length)),(1,.c (.fn 82 [])),(5,.c (int kv57)),(6,.c (.own 1 ((0+kv54).toNat) (((l.length:Int) - kv54).toNat))),(7,.c (int k258))],[.dead,.one (vec 1 d5 c56)]⟩) (fun (c56,kv57) e st=>e=.exit 2∧Sub (x6 l) st ⟨[(0,.c (.own 1 0 c56.length)),(5,.c (int kv57))],[.dead,.one (vec 1 d5 c56)]⟩) ?_ ?_ ?_ ?_
    ·try dsimp only
     exact Sub.env ⟨Z,Z,Z,Z,Z,Y⟩
    ·intro k258 s hlok258 hltk258 _
     obtain ⟨c56,kv57⟩:=s
     try dsimp only
     refine AWP.q (.q (.u (.j Z Z (.j Z Z (S.lenV (T2 (vw_cut (S0 l) hu31)).2.1 Z Z Z (fun hl34=>.F Z Z Z (.nil (b6 (.ae Z hltk258 (.exit (e8 (e8 ⟨Z, ?_⟩))))))))))))
     exact Sub.env ⟨Z,Z,Y⟩
    ·intro k258 s o hlok258 hltk258 h
     obtain ⟨c56,kv57⟩:=s
     unfold s8 at h
     try dsimp only at h ⊢
     refine AWP.q (.q (.u (.j Z Z (.j Z Z (S.lenV (T2 (vw_cut (S0 l) hu31)).2.1 Z Z Z (fun hl34=>.F Z Z Z (.nil (b6 (.af Z hltk258 (.skip (b6 ?_)))))))))))
     obtain ⟨⟨c59,kv60⟩,hx61,h⟩:=bind_some h
     refine AWP.seqJ (⟨[(0,.c (.own 1 0 c59.length)),(1,.c (.fn 82 [])),(5,.c (int kv60)),(6,.c (.own 1 ((0+kv54).toNat) (((l.length:Int) - kv54).toNat))),(7,.c (int k258))],[.dead,.one (vec 1 d5 c59)]⟩) ?_ ?_
     ·refine AWP.J (.q ?_)
      obtain ⟨a41,ha41,a46,ha46,a48,ha48,hx61⟩:=b3 hx61
      refine AWP.drawI mixed Z ?_
      refine j7.consF Z (fun E=>AOps.j Z Z .N) Z (.consF Z (fun E=>AOps.j Z Z .N) Z (.consF Z (fun E=>AOps.j Z Z .N) Z (.consF Z (fun E=>S.idxV ha41 Z Z Z Z .N) Z (.consF Z (fun E=>S.loadO (ixV_ix ha41) Z Z Z Z Z .N) Z (.consF Z (fun E=>AOps.j Z Z .N) Z (.consF Z (fun E=>AOps.j Z Z .N) Z (.consF Z (fun E=>AOps.sub' Z Z Z (by omega) .N) Z (.consF Z (fun E=>S.idxV ha46 Z Z Z Z .N) Z (.consF Z (fun E=>S.loadO (ixV_ix ha46) Z Z Z Z Z .N) Z (.consF Z (fun E=>AOps.O Z Z Z Z (W2 ha48) Z .N) Z (.consF Z (fun E=>AOps.not Z Z .N) Z ?_)))))))))))
      refine j7.done ?_
      dsimp only [j9]
      refine b6 (.ab Z hx61 (fun hc62 hx61=> ?_) (fun hc62 hx61=> ?_))
      ·refine AWP.q ?_
       obtain ⟨a54,ha54,a56,ha56,hx61⟩:=b2 hx61
       refine AWP.u (.j Z Z (.j Z Z (.j Z Z (.j Z Z (S.idxV ha54 Z Z Z Z (S.loadO (ixV_ix ha54) Z Z Z Z Z (S.idxO ha56 Z Z Z Z Z (S.storeO1 (f:=d5) (a':=a54) (h9 ha56) (fun _=>⟨_,Z⟩) Z Z Z Z Z ?_))))))))
       refine AOps.nil (b6 (.u (.j Z Z (S.add Z Z Z (.v Z Z (.nil (e9 ?_)))))))
       obtain ⟨ej0,ej1⟩:=o2 hx61
       subst ej0 ej1
       refine b6 (Sub.env ⟨(I5 (by first | rfl | simp only [List.length_set])),Z,Z,Z,Z,Y⟩)
      ·refine AWP.skip (e9 ?_)
       obtain ⟨ej0,ej1⟩:=o2 hx61
       subst ej0 ej1
       refine b6 (Sub.env ⟨Z,Z,Z,Z,Z,Y⟩)
     ·try dsimp only at h
      refine AWP.u (.j Z Z (.add Z Z Z (by omega) (.v Z Z (.nil ?_))))
      obtain rfl:=oi h
      refine b6 (Sub.env ⟨Z,Z,Z,Z,Z,Y⟩)
    ·intro e s hq
     obtain ⟨rfl,hs⟩:=hq
     refine ⟨_,hs, ?_⟩
     refine j5 (b6 (.q ?_))
     obtain ⟨u61,hu61,h⟩:=bind_some h
     refine AWP.u (.j Z Z (.j Z Z (S.vFrom (S0 c56) hu61 Z Z Z Z Z Z (S.clear (a0:=[]) Z Z Z (fun _ _ _ _=>.imm .slNil) (vw_cut (S0 c56) hu61) Z Z Z Z Z ?_))))
     refine AOps.nil (b6 (.q ?_))
     obtain ⟨u64,hu64,h⟩:=bind_some h
     refine AWP.u (.j Z Z (.j Z Z ?_))
     refine S.vTo (S0 (clrL c56 (0+kv57) ((c56.length:Int) - kv57) [])) hu64 Z Z (by rw [Int.toNat_natCast]; exact (clrL_len (vw_cut (S0 c56) hu61)).symm) Z Z Z ?_
     refine AOps.v Z Z (.nil (b6 (.reown (env':=[(4,.c (.own 2 0 ((n8 (clrL c56 (0+kv57) ((c56.length:Int) - kv57) []) 0 kv57).length)))]) 4 (vw_to (S0 (clrL c56 (0+kv57) ((c56.length:Int) - kv57) [])) hu64) Z Z Z Z Z Z Z Z (by exact ⟨.inl ⟨Z,Z⟩,Y⟩) (.ret (i9 (e7 ?_))))))
     obtain rfl:=oi h
     refine e7 ⟨_,Z,Z, ?_⟩
     exact ⟨⟨[(4,.c (.own 1 0 ((n8 (clrL c56 (0+kv57) ((c56.length:Int) - kv57) []) 0 kv57).length)))],[.dead,.one (vec 1 d5 (n8 (clrL c56 (0+kv57) ((c56.length:Int) - kv57) []) 0 kv57))]⟩,(Sub.move (env':=[(4,.c (.own 1 0 ((n8 (clrL c56 (0+kv57) ((c56.length:Int) - kv57) []) 0 kv57).length)))]) (σ':=[.dead,.one (vec 1 d5 (n8 (clrL c56 (0+kv57) ((c56.length:Int) - kv57) []) 0 kv57))]) 1 2 Z Z Z ⟨Z,Y⟩ Z ⟨trivial,⟨Blk.im_ok _ _ _,g9 Z⟩,Y⟩).trans (Sub.env ⟨Z,Y⟩),Done.ret Z ⟨Z,Z⟩⟩
   ·refine AWP.skip (e9 (b6 (.u (.j Z Z (.add Z Z Z (by omega) (.v Z Z (.nil ?_)))))))
    obtain rfl:=oi h
    refine b6 ⟨_,Z, ?_⟩
    exact Sub.env ⟨Z,Z,Z,Y⟩
  ·intro e s hq
   rcases oo with u | x
   ·try dsimp only at h hq
    obtain ⟨rfl,hs⟩:=hq
    refine ⟨_,hs, ?_⟩
    refine j5 (b6 (.q (.u (.j Z Z (.v Z Z (.nil (b6 (.ret ?_))))))))
    obtain rfl:=oi h
    exact ⟨⟨[(4,.c (.own 1 0 l.length))],[.dead,.one (vec 1 d5 l)]⟩,Sub.env ⟨Z,Y⟩,Done.ret Z ⟨Z,Z⟩⟩
   ·try dsimp only at h hq
    obtain ⟨rfl,hs⟩:=hq
    refine ⟨_,Sub.refl _ _, ?_⟩
    refine i9 (e7 ?_)
    obtain rfl:=oi h
    exact hs
theorem ag4{l:List (List Int)}{r:(List (List Int))}(h:I2 l=some r):FnOk prog 83 [.c (.own 0 0 l.length)] (as2 l) (fun tt ss=>tt=.c (.own 2 0 r.length)∧ss=[.dead,.dead,.one (vec 1 d5 r)]):=by
 refine FnOk.enter (rs:=[.t 2]) func83 Z ntmps83 results83 Z ⟨trivial,Y⟩ (by kernel_rfl) Z ?_
 refine AWP.weak ?_
 unfold I2 at h
 refine AWP.j (env':=[(0,.c (.own 1 0 l.length))]) (σ':=[.dead,.one (vec 1 d5 l)]) 1 0 Z Z Z ⟨Z,Y⟩ Z ⟨trivial,⟨Blk.im_ok _ _ _,g9 Z⟩,Y⟩ (.q (.u (.v Z Z (.nil (b6 (.q ?_))))))
 obtain ⟨a4,ha4,h⟩:=bind_some h
 refine AWP.u (.j Z Z (S.sortF (fun x=>.sl 1 (List.map intI x)) ha4 Z (fun hy=>S9 hy) sortF_LLi64_ok (⟨_,func50,Z,Z⟩) Z Z Z Z Z Z ?_))
 refine AOps.nil (b6 (.q ?_))
 obtain ⟨a6,ha6,h⟩:=bind_some h
 refine AWP.u (.j Z Z ?_)
 refine AOps.callF (r2:=.c (.own 2 0 a6.length)) (σ'':=[.dead,.dead,.one (vec 1 d5 a6)]) Z Z Z (FnOk.lend [1] (ac4 ha6) Z Z Z Z Z Z (by exact ⟨.vec,Y⟩) (by rw [(sortFL_len ha4)]<;>rfl) (by exact ⟨(.live Z .vec),Y⟩) Z Z (by exact ⟨.dead,.dead,(.new 1 Z Z .vec),Y⟩)) ?_
 refine AOps.v Z Z (.nil (b6 (.ret ?_)))
 obtain rfl:=oi h
 exact ⟨⟨[(2,.c (.own 2 0 a6.length))],[.dead,.dead,.one (vec 1 d5 a6)]⟩,Sub.env ⟨Z,Y⟩,Done.ret Z ⟨Z,Z⟩⟩
theorem ai8{sv:List (List Int)}{fv:(List Int)→Option Bool}{r:Int}{fvfv:FuncId}{cvfv:List C}(hcvfv:C.okL 0 cvfv=true)(hfv:∀ {y1:List Int} {z:Bool},fv y1=some z→f4 prog fvfv ([.c (row 1 intI y1)]++cvfv.map T.c) (.c (bool z)))(h:G4 sv fv=some r):f4 prog 116 [.c (row 1 d5 sv),.c (.fn fvfv cvfv)] (.c (int r)):=by
 unfold f4
 refine FnOk.enter (rs:=[.t 4]) func116 Z ntmps116 results116 Z ⟨trivial,Y⟩ (by kernel_rfl) Z ?_
 unfold G4 at h
 refine AWP.q (.u (.v Z Z (.nil (b6 (.q (.q (.u (.j Z Z (S.len Z Z (fun hl7=>.j Z Z (.nil (b6 (.J ?_)))))))))))))
 obtain ⟨oo,ho1,h⟩:=bind_some h
 refine AWP.rngS ho1 (fun t3 _=>⟨[(0,.c (row 1 d5 sv)),(1,.c (.fn fvfv cvfv)),(7,.c (int (sv.length:Int))),(8,.c (int t3))],[]⟩) (fun o e st=>match o with | .inl _=>e=.exit 0∧Sub [] st ⟨[],[]⟩ | .inr x=>e=.ret∧Done [.t 4] (fun t _=>t=.c (int x)) .ret st) ?_ ?_ ?_ ?_
 ·try dsimp only
  exact Sub.env ⟨Z,Z,Z,Z,Y⟩
 ·intro t3 s hlot3 hltt3 _
  try dsimp only
  refine AWP.q (.u (.F Z Z Z (.nil (b6 (.q (.ae Z hltt3 (.exit (e8 (e8 ⟨Z, ?_⟩)))))))))
  exact Sub.env trivial
 ·intro t3 s o hlot3 hltt3 h
  unfold D1 at h
  try dsimp only at h ⊢
  refine AWP.q (.u (.F Z Z Z (.nil (b6 (.q (.af Z hltt3 (.skip (b6 (.q (.J (.q (.u (.j Z Z (.v Z Z (.nil (b6 (.q ?_)))))))))))))))))
  obtain ⟨a14,ha14,a16,ha16,h⟩:=b2 h
  refine AWP.u (.j Z Z (.j Z Z (.j Z Z (S.idx ha14 Z Z Z Z (.ad Z Z Z Z (.O Z Z (okL_app Z hcvfv) Z (hfv ha16) Z (.nil (b6 (.ab Z h (fun hc4 h=> ?_) (fun hc4 h=> ?_))))))))))
  ·refine AWP.q (.u (.j Z Z (.v Z Z (.nil (b6 (.ret (i9 (e7 ?_))))))))
   obtain rfl:=oi h
   refine e7 ⟨_,Z,Z, ?_⟩
   exact Done.ret Z Z
  ·refine AWP.skip (e9 (b6 (.u (.add Z Z Z (by omega) (.j Z Z (.nil ?_))))))
   obtain rfl:=oi h
   refine b6 ⟨_,Z, ?_⟩
   exact Sub.env ⟨Z,Z,Z,Z,Y⟩
 ·intro e s hq
  rcases oo with u | x
  ·try dsimp only at h hq
   obtain ⟨rfl,hs⟩:=hq
   refine ⟨_,hs, ?_⟩
   refine j5 (b6 (.q (.u (.v Z Z (.nil (b6 (.ret ?_)))))))
   obtain rfl:=oi h
   exact Done.ret Z Z
  ·try dsimp only at h hq
   obtain ⟨rfl,hs⟩:=hq
   refine ⟨_,Sub.refl _ _, ?_⟩
   refine i9 (e7 ?_)
   obtain rfl:=oi h
   exact hs
theorem ae8{sv:List (List Int)}{fv:(List Int)→Option Bool}{r:Bool}{fvfv:FuncId}{cvfv:List C}(hcvfv:C.okL 0 cvfv=true)(hfv:∀ {y1:List Int} {z:Bool},fv y1=some z→f4 prog fvfv ([.c (row 1 intI y1)]++cvfv.map T.c) (.c (bool z)))(h:x9 sv fv=some r):f4 prog 80 [.c (row 1 d5 sv),.c (.fn fvfv cvfv)] (.c (bool r)):=by
 unfold f4
 refine FnOk.enter (rs:=[.t 4]) func80 Z ntmps80 results80 Z ⟨trivial,Y⟩ (by kernel_rfl) Z ?_
 unfold x9 at h
 refine AWP.q (.u (.v Z Z (.nil (b6 (.q ?_)))))
 obtain ⟨a7,ha7,h⟩:=bind_some h
 refine AWP.u (.j Z Z (.j Z Z (.O Z Z (by simp [T.okL,T.ok,C.ok,C.okL,hcvfv]) Z (ai8 hcvfv hfv ha7) Z (.geq Z Z Z (.v Z Z (.nil (b6 (.ret ?_))))))))
 obtain rfl:=oi h
 exact Done.ret Z Z
theorem as4{av:List Int}{bv:List Int}{r:Bool}(h:ah2 av bv=some r):f4 prog 34 [.c (row 1 intI av),.c (row 1 intI bv)] (.c (bool r)):=by
 unfold f4
 refine FnOk.enter (rs:=[.t 4]) func34 Z ntmps34 results34 Z ⟨trivial,Y⟩ (by kernel_rfl) Z ?_
 unfold ah2 at h
 refine AWP.q (.u (.v Z Z (.nil (b6 (.q (.q (.u (.j Z Z (S.len Z Z (fun hl7=>.j Z Z (S.len Z Z (fun hl9=>.neq Z Z Z (.nil (b6 (.iteN Z h (fun hc3 h=> ?_) (fun hc3 h=> ?_))))))))))))))))
 ·refine AWP.q (.u (.v Z Z (.nil (b6 (.ret (e7 ?_))))))
  obtain rfl:=oi h
  exact Done.ret Z Z
 ·refine AWP.skip (b6 (.q (.q (.u (.v Z Z (.nil (b6 (.J ?_))))))))
  obtain ⟨oo,ho1,h⟩:=bind_some h
  refine AWP.rngS ho1 (fun iv4 _=>⟨[(0,.c (row 1 intI av)),(1,.c (row 1 intI bv)),(5,.c (int iv4))],[]⟩) (fun o e st=>match o with | .inl _=>e=.exit 0∧Sub [] st ⟨[],[]⟩ | .inr x=>e=.ret∧Done [.t 4] (fun t _=>t=.c (bool x)) .ret st) ?_ ?_ ?_ ?_
  ·try dsimp only
   exact Sub.env ⟨Z,Z,Z,Y⟩
  ·intro iv4 s hloiv4 hltiv4 _
   try dsimp only
   refine AWP.q (.q (.u (.j Z Z (.j Z Z (S.len Z Z (fun hl13=>.F Z Z Z (.nil (b6 (.ae Z hltiv4 (.exit (e8 (e8 ⟨Z, ?_⟩))))))))))))
   exact Sub.env trivial
  ·intro iv4 s o hloiv4 hltiv4 h
   unfold al9 at h
   try dsimp only at h ⊢
   refine AWP.q (.q (.u (.j Z Z (.j Z Z (S.len Z Z (fun hl13=>.F Z Z Z (.nil (b6 (.af Z hltiv4 (.skip (b6 (.q (.J (.q ?_))))))))))))))
   obtain ⟨a19,ha19,a23,ha23,h⟩:=b2 h
   refine AWP.drawI mixed Z ?_
   refine j7.consF Z (fun E=>AOps.j Z Z .N) Z (.consF Z (fun E=>AOps.j Z Z .N) Z (.consF Z (fun E=>S.idx ha19 Z Z Z Z .N) Z (.consF Z (fun E=>AOps.ad Z Z Z Z .N) Z (.consF Z (fun E=>AOps.j Z Z .N) Z (.consF Z (fun E=>AOps.j Z Z .N) Z (.consF Z (fun E=>S.idx ha23 Z Z Z Z .N) Z (.consF Z (fun E=>AOps.ad Z Z Z Z .N) Z (.consF Z (fun E=>AOps.neq Z Z Z .N) Z ?_))))))))
   refine j7.done ?_
   dsimp only [j9]
   refine b6 (.iteN Z h (fun hc5 h=> ?_) (fun hc5 h=> ?_))
   ·refine AWP.q (.u (.v Z Z (.nil (b6 (.ret (i9 (e7 ?_)))))))
    obtain rfl:=oi h
    refine e7 ⟨_,Z,Z, ?_⟩
    exact Done.ret Z Z
   ·refine AWP.skip (e9 (b6 (.u (.j Z Z (.add Z Z Z (by omega) (.v Z Z (.nil ?_)))))))
    obtain rfl:=oi h
    refine b6 ⟨_,Z, ?_⟩
    exact Sub.env ⟨Z,Z,Z,Y⟩
  ·intro e s hq
   rcases oo with u | x
   ·try dsimp only at h hq
    obtain ⟨rfl,hs⟩:=hq
    refine ⟨_,hs, ?_⟩
    refine j5 (b6 (.q (.u (.v Z Z (.nil (b6 (.ret ?_)))))))
    obtain rfl:=oi h
    exact Done.ret Z Z
   ·try dsimp only at h hq
    obtain ⟨rfl,hs⟩:=hq
    refine ⟨_,Sub.refl _ _, ?_⟩
    refine i9 (e7 ?_)
    obtain rfl:=oi h
    exact hs
end Ab
end
section
namespace Ab
open Go Go.Proofs
open Tryz
set_option maxHeartbeats 4000000
set_option linter.all false
attribute [local irreducible] AWP AOps thn inB Done f4 m5 Sub
theorem as1{ov:f9}{facts:Int}{r:Int}(h:N6 ov facts=some r):f4 prog 100 [.agg [row 1 intI ov.pre,row 1 intI ov.add,row 1 intI ov.del,int ov.cost],.c (int facts)] (.c (int r)):=by
 unfold f4
 refine FnOk.enter (rs:=[.t 4]) func100 Z ntmps100 results100 Z ⟨trivial,Y⟩ (by kernel_rfl) Z ?_
 unfold N6 at h
 refine AWP.q (.u (W.box Z Z Z Z Z Z (.v Z Z (.nil (b6 (.q (.J ?_)))))))
 obtain ⟨t3,hx4,h⟩:=bind_some h
 refine AWP.seqJ (⟨[(2,.c (.ptr 0 0 0)),(5,.c (bool t3))],[.one (.cells 4 [[row 1 intI ov.pre,row 1 intI ov.add,row 1 intI ov.del,int ov.cost]])]⟩) ?_ ?_
 ·obtain ⟨a9,ha9,hx4⟩:=bind_some hx4
  rcases bft (!a9) with hb5 | hb5
  ·replace hx4:=T0 hb5 hx4
   refine AWP.u (W.fieldAddr Z Z Z Z (.E Z Z Z Z Z Z (.j Z Z (.O Z Z Z Z (r8 ha9) Z (.not Z Z (.j Z Z (.B Z Z Z hb5 (.B Z Z Z hb5 (.B Z Z Z hb5 (.B Z Z Z hb5 (.B Z Z Z hb5 (.U Z hb5 Z Z (.j Z Z (.B Z Z Z Z (.B Z Z Z Z (.B Z Z Z Z (.B Z Z Z Z (.B Z Z Z Z (.U Z Z Z Z (.j Z Z (.B Z Z Z Z (.B Z Z Z Z (.B Z Z Z Z (.B Z Z Z Z (.B Z Z Z Z (.U Z Z Z Z (.v Z Z (.nil ?_))))))))))))))))))))))))))))
   obtain rfl:=oi hx4
   refine b6 (Sub.env ⟨Z,Z,Y⟩)
  ·replace hx4:=S6 hb5 hx4
   obtain ⟨a15,ha15,hx4⟩:=bind_some hx4
   rcases bft (!a15) with hb6 | hb6
   ·replace hx4:=T0 hb6 hx4
    refine AWP.u (W.fieldAddr Z Z Z Z (.E Z Z Z Z Z Z (.j Z Z (.O Z Z Z Z (r8 ha9) Z (.not Z Z (.j Z Z (.z Z Z Z hb5 (W.fieldAddr Z Z Z Z (.z Z Z Z hb5 (.E Z Z Z Z Z Z (.z Z Z Z hb5 (.j Z Z (.z Z Z Z hb5 (.O Z Z Z Z (r8 ha15) Z (.z Z Z Z hb5 (.not Z Z (.aa Z hb5 Z Z (.j Z Z (.B Z Z Z hb6 (.B Z Z Z hb6 (.B Z Z Z hb6 (.B Z Z Z hb6 (.B Z Z Z hb6 (.U Z hb6 Z Z (.j Z Z (.B Z Z Z Z (.B Z Z Z Z (.B Z Z Z Z (.B Z Z Z Z (.B Z Z Z Z (.U Z Z Z Z (.v Z Z (.nil ?_)))))))))))))))))))))))))))))))))
    obtain rfl:=oi hx4
    refine b6 (Sub.env ⟨Z,Z,Y⟩)
   ·replace hx4:=S6 hb6 hx4
    obtain ⟨a22,ha22,hx4⟩:=bind_some hx4
    rcases bft (!a22) with hb7 | hb7
    ·replace hx4:=T0 hb7 hx4
     refine AWP.u (W.fieldAddr Z Z Z Z (.E Z Z Z Z Z Z (.j Z Z (.O Z Z Z Z (r8 ha9) Z (.not Z Z (.j Z Z (.z Z Z Z hb5 (W.fieldAddr Z Z Z Z (.z Z Z Z hb5 (.E Z Z Z Z Z Z (.z Z Z Z hb5 (.j Z Z (.z Z Z Z hb5 (.O Z Z Z Z (r8 ha15) Z (.z Z Z Z hb5 (.not Z Z (.aa Z hb5 Z Z (.j Z Z (.z Z Z Z hb6 (W.fieldAddr Z Z Z Z (.z Z Z Z hb6 (.E Z Z Z Z Z Z (.z Z Z Z hb6 (.j Z Z (.z Z Z Z hb6 (.O Z Z Z Z (r8 ha22) Z (.z Z Z Z hb6 (.not Z Z (.aa Z hb6 Z Z (.j Z Z (.B Z Z Z hb7 (.B Z Z Z hb7 (.B Z Z Z hb7 (.B Z Z Z hb7 (.B Z Z Z hb7 (.U Z hb7 Z Z (.v Z Z (.nil ?_))))))))))))))))))))))))))))))))))))))
     obtain rfl:=oi hx4
     refine b6 (Sub.env ⟨Z,Z,Y⟩)
    ·replace hx4:=S6 hb7 hx4
     obtain ⟨a30,ha30,hx4⟩:=bind_some hx4
     refine AWP.u (W.fieldAddr Z Z Z Z (.E Z Z Z Z Z Z (.j Z Z (.O Z Z Z Z (r8 ha9) Z (.not Z Z (.j Z Z (.z Z Z Z hb5 (W.fieldAddr Z Z Z Z (.z Z Z Z hb5 (.E Z Z Z Z Z Z (.z Z Z Z hb5 (.j Z Z (.z Z Z Z hb5 (.O Z Z Z Z (r8 ha15) Z (.z Z Z Z hb5 (.not Z Z (.aa Z hb5 Z Z (.j Z Z (.z Z Z Z hb6 (W.fieldAddr Z Z Z Z (.z Z Z Z hb6 (.E Z Z Z Z Z Z (.z Z Z Z hb6 (.j Z Z (.z Z Z Z hb6 (.O Z Z Z Z (r8 ha22) Z (.z Z Z Z hb6 (.not Z Z (.aa Z hb6 Z Z (.j Z Z (.z Z Z Z hb7 (W.fieldAddr Z Z Z Z (.z Z Z Z hb7 (.E Z Z Z Z Z Z (.z Z Z Z hb7 (W.fieldAddr Z Z Z Z (.z Z Z Z hb7 (.E Z Z Z Z Z Z (.z Z Z Z hb7 (.O Z Z Z Z (strips_Meets_ok ha30) Z (.aa Z hb7 Z Z (.v Z Z (.nil ?_)))))))))))))))))))))))))))))))))))))))))))
     obtain rfl:=oi hx4
     refine b6 (Sub.env ⟨Z,Z,Y⟩)
 ·refine AWP.ab Z h (fun hc8 h=> ?_) (fun hc8 h=> ?_)
  ·refine AWP.q (.u (.v Z Z (.nil (b6 (.ret (i9 (e7 ?_)))))))
   obtain rfl:=oi h
   exact Done.ret Z Z
  ·refine AWP.seqJ (⟨[(32,.c (bool ((decide (ov.cost<0)) || (decide (100<ov.cost)))))],[.one (.cells 4 [[row 1 intI ov.pre,row 1 intI ov.add,row 1 intI ov.del,int ov.cost]])]⟩) ?_ ?_
   ·rcases bft (decide (ov.cost<0)) with hb1 | hb1
    ·refine AWP.u (W.fieldAddr Z Z Z Z (.E Z Z Z Z Z Z (.F Z Z Z (.j Z Z (.B Z Z Z hb1 (.B Z Z Z hb1 (.B Z Z Z hb1 (.U Z hb1 Z Z (.v Z Z (.nil (b6 ?_)))))))))))
     simp only [Q6 hb1,or_t hb1,Bool.false_or,Bool.true_or,Bool.false_and,Bool.true_and]
     exact Sub.env ⟨Z,Y⟩
    ·refine AWP.u (W.fieldAddr Z Z Z Z (.E Z Z Z Z Z Z (.F Z Z Z (.j Z Z (.z Z Z Z hb1 (W.fieldAddr Z Z Z Z (.z Z Z Z hb1 (.E Z Z Z Z Z Z (.z Z Z Z hb1 (.gtr Z Z Z (.aa Z hb1 Z Z (.v Z Z (.nil (b6 ?_))))))))))))))
     simp only [N3 hb1,or_f hb1,Bool.false_or,Bool.true_or,Bool.false_and,Bool.true_and]
     exact Sub.env ⟨Z,Y⟩
   ·refine AWP.ab Z h (fun hc9 h=> ?_) (fun hc9 h=> ?_)
    ·refine AWP.q (.u (.v Z Z (.nil (b6 (.ret (i9 (e7 ?_)))))))
     obtain rfl:=oi h
     exact Done.ret Z Z
    ·refine AWP.skip (e9 (b6 (.q (.u (.v Z Z (.nil (b6 (.ret ?_))))))))
     obtain rfl:=oi h
     exact Done.ret Z Z
theorem C9{t:d7}{r:g8}(h:s6 t=some r):f4 prog 58 [.agg (tT t)] (.agg [int r.code,int r.index]):=by
 unfold f4
 refine FnOk.enter (rs:=[.cell 2 32 2]) func58 Z ntmps58 results58 Z ⟨rv _ Z,Y⟩ (by kernel_rfl) Z ?_
 unfold s6 at h
 refine AWP.q (.u (W.box Z Z Z Z Z Z (W.alloc Z Z Z Z (.nil (b6 (.q (.J (.seqJ (⟨[(1,.c (.ptr 0 0 0)),(2,.c (.ptr 1 0 0)),(6,.c (bool ((decide (t.facts<0)) || (decide (24<t.facts)))))],[.one (.cells 4 [(tT t)]),.one (.cells 2 [[int 0,int 0]])]⟩) ?_ ?_))))))))
 ·rcases bft (decide (t.facts<0)) with hb1 | hb1
  ·refine AWP.u (W.fieldAddr Z Z Z Z (.E Z Z Z Z Z Z (.F Z Z Z (.j Z Z (.B Z Z Z hb1 (.B Z Z Z hb1 (.B Z Z Z hb1 (.U Z hb1 Z Z (.v Z Z (.nil (b6 ?_)))))))))))
   simp only [Q6 hb1,or_t hb1,Bool.false_or,Bool.true_or,Bool.false_and,Bool.true_and]
   exact Sub.env ⟨Z,Z,Z,Y⟩
  ·refine AWP.u (W.fieldAddr Z Z Z Z (.E Z Z Z Z Z Z (.F Z Z Z (.j Z Z (.z Z Z Z hb1 (W.fieldAddr Z Z Z Z (.z Z Z Z hb1 (.E Z Z Z Z Z Z (.z Z Z Z hb1 (.gtr Z Z Z (.aa Z hb1 Z Z (.v Z Z (.nil (b6 ?_))))))))))))))
   simp only [N3 hb1,or_f hb1,Bool.false_or,Bool.true_or,Bool.false_and,Bool.true_and]
   exact Sub.env ⟨Z,Z,Z,Y⟩
 ·refine AWP.ab Z h (fun hc2 h=> ?_) (fun hc2 h=> ?_)
  ·refine AWP.q (.u (W.build Z Z Z Z (W.storeAgg Z Z Z Z Z Z Z (.nil (b6 (.ret (i9 (e7 ?_))))))))
   obtain rfl:=oi h
   exact Done.ret Z Z
  ·refine AWP.q ?_
   obtain ⟨a21,ha21,h⟩:=bind_some h
   refine AWP.u (W.fieldAddr Z Z Z Z (.E Z Z Z Z Z Z (W.fieldAddr Z Z Z Z (.E Z Z Z Z Z Z (.O Z Z Z Z (r8 ha21) Z (.not Z Z (.v Z Z (.nil (b6 (.ab Z h (fun hc3 h=> ?_) (fun hc3 h=> ?_)))))))))))
   ·refine AWP.q (.u (W.build Z Z Z Z (W.storeAgg Z Z Z Z Z Z Z (.nil (b6 (.ret (i9 (e7 ?_))))))))
    obtain rfl:=oi h
    exact Done.ret Z Z
   ·refine AWP.q ?_
    obtain ⟨a29,ha29,h⟩:=bind_some h
    refine AWP.u (W.fieldAddr Z Z Z Z (.E Z Z Z Z Z Z (W.fieldAddr Z Z Z Z (.E Z Z Z Z Z Z (.O Z Z Z Z (r8 ha29) Z (.not Z Z (.v Z Z (.nil (b6 (.ab Z h (fun hc4 h=> ?_) (fun hc4 h=> ?_)))))))))))
    ·refine AWP.q (.u (W.build Z Z Z Z (W.storeAgg Z Z Z Z Z Z Z (.nil (b6 (.ret (i9 (e7 ?_))))))))
     obtain rfl:=oi h
     exact Done.ret Z Z
    ·refine AWP.q (.u (W.fieldAddr Z Z Z Z (.E Z Z Z Z Z Z (S.len Z Z (fun hl35=>.gtr Z Z Z (.v Z Z (.nil (b6 (.ite Z h (fun hc5 h=> ?_) (fun hc5 h=> ?_))))))))))
     ·refine AWP.q (.u (W.build Z Z Z Z (W.storeAgg Z Z Z Z Z Z Z (.nil (b6 (.ret (i9 (e7 ?_))))))))
      obtain rfl:=oi h
      exact Done.ret Z Z
     ·refine AWP.skip (e9 (b6 (.q (.q (.u (W.fieldAddr Z Z Z Z (.E Z Z Z Z Z Z (S.len Z Z (fun hl40=>.j Z Z (.nil (b6 (.J ?_))))))))))))
      obtain ⟨oo,ho1,h⟩:=bind_some h
      refine AWP.rngS ho1 (fun t6 _=>⟨[(1,.c (.ptr 0 0 0)),(2,.c (.ptr 1 0 0)),(39,.c (row 4 f8 t.operators)),(40,.c (int (t.operators.length:Int))),(41,.c (int t6))],[.one (.cells 4 [(tT t)]),.one (.cells 2 [[int 0,int 0]])]⟩) (fun o e st=>match o with | .inl _=>e=.exit 1∧Sub [] st ⟨[(2,.c (.ptr 1 0 0))],[.one (.cells 4 [(tT t)]),.one (.cells 2 [[int 0,int 0]])]⟩ | .inr x=>e=.ret∧Done [.cell 2 32 2] (fun t _=>t=.agg [int x.code,int x.index]) .ret st) ?_ ?_ ?_ ?_
      ·try dsimp only
       exact Sub.env ⟨Z,Z,Z,Z,Z,Y⟩
      ·intro t6 s hlot6 hltt6 _
       try dsimp only
       refine AWP.q (.u (.F Z Z Z (.nil (b6 (.q (.ae Z hltt6 (.exit (e8 (e8 ⟨Z, ?_⟩)))))))))
       exact Sub.env ⟨Z,Y⟩
      ·intro t6 s o hlot6 hltt6 h
       unfold G8 at h
       try dsimp only at h ⊢
       refine AWP.q (.u (.F Z Z Z (.nil (b6 (.q (.af Z hltt6 (.skip (b6 (.q (.J (.q ?_)))))))))))
       obtain ⟨a44,ha44,h⟩:=bind_some h
       refine AWP.u (.j Z Z (S.idx ha44 Z Z Z Z (W.loadIAgg Z Z Z Z Z (W.alloc Z Z Z Z (.v Z Z (W.storeAgg Z Z Z Z Z Z Z (.nil (b6 (.q ?_)))))))))
       obtain ⟨a49,ha49,h⟩:=bind_some h
       refine AWP.u (W.loadAgg Z Z Z Z Z Z Z (W.fieldAddr Z Z Z Z (.E Z Z Z Z Z Z (.O Z Z Z Z (as1 ha49) Z (.v Z Z (.nil (b6 (.q (.u (.j Z Z (.neq Z Z Z (.nil (b6 (.iteN Z h (fun hc7 h=> ?_) (fun hc7 h=> ?_)))))))))))))))
       ·refine AWP.q (.u (.j Z Z (.j Z Z (W.build Z Z Z Z (W.storeAgg Z Z Z Z Z Z Z (.nil (b6 (.ret (i9 (e7 ?_))))))))))
        obtain rfl:=oi h
        refine e7 ⟨_,Z,Z, ?_⟩
        exact Done.ret Z Z
       ·refine AWP.skip (e9 (b6 (.u (.add Z Z Z (by omega) (.j Z Z (.nil ?_))))))
        obtain rfl:=oi h
        refine b6 ⟨_,Z, ?_⟩
        exact Sub.cut ⟨Z,Z,Z,Z,Z,Y⟩ Z ⟨.one Z,.one Z,Y⟩ Z
      ·intro e s hq
       rcases oo with u | x
       ·try dsimp only at h hq
        obtain ⟨rfl,hs⟩:=hq
        refine ⟨_,hs, ?_⟩
        refine j5 (b6 (.q (.u (W.build Z Z Z Z (W.storeAgg Z Z Z Z Z Z Z (.nil (b6 (.ret ?_))))))))
        obtain rfl:=oi h
        exact Done.ret Z Z
       ·try dsimp only at h hq
        obtain ⟨rfl,hs⟩:=hq
        refine ⟨_,Sub.refl _ _, ?_⟩
        refine i9 (e7 ?_)
        obtain rfl:=oi h
        exact hs
theorem A9{sv:List Int}{r:Int}(h:J8 sv=some r):f4 prog 101 [.c (row 1 intI sv)] (.c (.imm (.val (.int .u32 r)))):=by
 unfold f4
 refine FnOk.enter (rs:=[.t 2]) func101 Z ntmps101 results101 Z ⟨trivial,Y⟩ (by kernel_rfl) Z ?_
 unfold J8 at h
 refine AWP.q (.u (.v Z Z (.nil (b6 (.q (.u (.v Z Z (.nil (b6 (.q (.q (.u (.j Z Z (S.len Z Z (fun hl7=>.j Z Z (.nil (b6 (.J ?_))))))))))))))))))
 obtain ⟨w2,ho1,h⟩:=bind_some h
 refine AWP.forS ho1 (fun t3 w2=>⟨[(3,.c (.imm (.val (.int .u32 w2)))),(6,.c (row 1 intI sv)),(7,.c (int (sv.length:Int))),(8,.c (int t3))],[]⟩) (fun w2 e st=>e=.exit 0∧Sub [] st ⟨[(3,.c (.imm (.val (.int .u32 w2))))],[]⟩) ?_ ?_ ?_ ?_
 ·try dsimp only
  exact Sub.env ⟨Z,Z,Z,Z,Y⟩
 ·intro t3 w2 hlot3 hltt3 _
  try dsimp only
  refine AWP.q (.u (.F Z Z Z (.nil (b6 (.q (.ae Z hltt3 (.exit (e8 (e8 ⟨Z, ?_⟩)))))))))
  exact Sub.env ⟨Z,Y⟩
 ·intro t3 w2 o hlot3 hltt3 h
  unfold Y6 at h
  try dsimp only at h ⊢
  refine AWP.q (.u (.F Z Z Z (.nil (b6 (.q (.af Z hltt3 (.skip (b6 (.q (.J (.q ?_)))))))))))
  obtain ⟨a10,ha10,h⟩:=bind_some h
  refine AWP.u (S.idx ha10 Z Z Z Z (.ad Z Z Z Z (.v Z Z (.nil (b6 ?_)))))
  obtain ⟨u14,hu14,h⟩:=bind_some h
  refine AWP.u (.j Z Z (.j Z Z (S.shl hu14 Z Z Z (.bits Z Z Z (by simp) (.v Z Z (.nil (e9 (b6 (.u (.add Z Z Z (by omega) (.j Z Z (.nil ?_))))))))))))
  obtain rfl:=oi h
  refine b6 (Sub.env ⟨Z,Z,Z,Z,Y⟩)
 ·intro e s hq
  obtain ⟨rfl,hs⟩:=hq
  refine ⟨_,hs, ?_⟩
  refine j5 (b6 (.q (.u (.j Z Z (.v Z Z (.nil (b6 (.ret ?_))))))))
  obtain rfl:=oi h
  exact Done.ret Z Z
theorem ap2{w:Int}{r:(List Int)}(h:S1 w=some r):m5 prog 63 [.c (.imm (.val (.int .u32 w)))] 1 (List.map intI r):=by
 unfold m5
 refine FnOk.enter (rs:=[.t 2]) func63 Z ntmps63 results63 Z ⟨trivial,Y⟩ (by kernel_rfl) Z ?_
 unfold S1 at h
 refine AWP.q (.u (.v Z Z (.nil (b6 (.q (.u (.v Z Z (.nil (b6 (.q (.q (.u (.j Z Z (.nil (b6 (.J (.virtV 1 intI 3 Z Z Z ?_)))))))))))))))))
 obtain ⟨c2,ho1,h⟩:=bind_some h
 refine AWP.forS ho1 (fun t3 c2=>⟨[(0,.c (.imm (.val (.int .u32 w)))),(3,.c (.own 0 0 c2.length)),(5,.c (int t3))],[.one (vec 1 intI c2)]⟩) (fun c2 e st=>e=.exit 0∧Sub [] st ⟨[(3,.c (.own 0 0 c2.length))],[.one (vec 1 intI c2)]⟩) ?_ ?_ ?_ ?_
 ·try dsimp only
  exact Sub.env ⟨Z,(I5 (by first | rfl | simp only [List.length_set])),Z,Y⟩
 ·intro t3 c2 hlot3 hltt3 _
  try dsimp only
  refine AWP.q (.u (.F Z Z Z (.nil (b6 (.q (.ae Z hltt3 (.exit (e8 (e8 ⟨Z, ?_⟩)))))))))
  exact Sub.env ⟨Z,Y⟩
 ·intro t3 c2 o hlot3 hltt3 h
  unfold V5 at h
  try dsimp only at h ⊢
  refine AWP.q (.u (.F Z Z Z (.nil (b6 (.q (.af Z hltt3 (.skip (b6 ?_))))))))
  obtain ⟨c4,hx5,h⟩:=bind_some h
  refine AWP.seqJ (⟨[(0,.c (.imm (.val (.int .u32 w)))),(3,.c (.own 2 0 c4.length)),(5,.c (int t3))],[.dead,.dead,.one (vec 1 intI c4)]⟩) ?_ ?_
  ·refine AWP.J (.q (.u (.j Z Z (.v Z Z (.nil (b6 (.q (.u (.j Z Z (.j Z Z (.shr Z Z Z (by first | decide | omega) Z (.bits Z Z Z (by simp) (.eql Z Z Z (.nil (b6 (.ite Z hx5 (fun hc6 hx5=> ?_) (fun hc6 hx5=> ?_)))))))))))))))))
   ·obtain ⟨a16,ha16,hx5⟩:=bind_some hx5
    refine AWP.u (.j Z Z (.j Z Z (S.lit (f:=intI) (l:=[t3]) (ess:=[[int t3]]) Z Z Z Z Z Z Z ⟨⟨.inl Z,Y⟩,Y⟩ Z Z Z (S.append (f:=intI) ha16 Z Z Z Z Z Z (.own Z Z) Z Z Z Z (.v Z Z (.nil (e9 ?_)))))))
    obtain rfl:=oi hx5
    refine b6 (Sub.cut ⟨Z,Z,Z,Y⟩ Z ⟨.dead,.dead,.vec,Y⟩ Z)
   ·refine AWP.skip (e9 ?_)
    obtain rfl:=oi hx5
    refine b6 ((Sub.move (env':=[(0,.c (.imm (.val (.int .u32 w)))),(3,.c (.own 2 0 c2.length)),(5,.c (int t3))]) (σ':=[.dead,.dead,.one (vec 1 intI c2)]) 2 0 Z Z Z ⟨Z,Z,Z,Y⟩ Z ⟨trivial,trivial,⟨Blk.im_ok _ _ _,g9 Z⟩,Y⟩).trans (Sub.env ⟨Z,Z,Z,Y⟩))
  ·refine AWP.u (.add Z Z Z (by omega) (.j Z Z (.nil ?_)))
   obtain rfl:=oi h
   refine b6 ((Sub.move (env':=[(0,.c (.imm (.val (.int .u32 w)))),(3,.c (.own 0 0 c4.length)),(5,.c (int (t3+1)))]) (σ':=[.one (vec 1 intI c4),.dead]) 0 2 Z Z Z ⟨Z,Z,Z,Y⟩ Z ⟨⟨Blk.im_ok _ _ _,g9 Z⟩,trivial,Y⟩).trans (Sub.cut ⟨Z,Z,Z,Y⟩ Z ⟨.vec,Y⟩ Z))
 ·intro e s hq
  obtain ⟨rfl,hs⟩:=hq
  refine ⟨_,hs, ?_⟩
  refine j5 (b6 (.q (.u (.j Z Z (.v Z Z (.nil (b6 (.ret ?_))))))))
  obtain rfl:=oi h
  exact Done.ret Z (Fresh.mk Z Z)
theorem at1{av:Int}{bv:Int}{r:Int}(h:H9 av bv=some r):f4 prog 62 [.c (.imm (.val (.int .u32 av))),.c (.imm (.val (.int .u32 bv)))] (.c (int r)):=by
 unfold f4
 refine FnOk.enter (rs:=[.t 4]) func62 Z ntmps62 results62 Z ⟨trivial,Y⟩ (by kernel_rfl) Z ?_
 unfold H9 at h
 refine AWP.q (.u (.v Z Z (.nil (b6 (.q ?_)))))
 obtain ⟨a6,ha6,a8,ha8,a9,ha9,h⟩:=b3 h
 refine AWP.u (.j Z Z (S.fresh Z Z Z Z (ap2 ha6) Z Z (.j Z Z (S.fresh Z Z Z Z (ap2 ha8) Z Z (.callL Z Z (.cons (.c (.own Z Z)) (.cons (.c (.own Z Z)) .nil)) Z (S9 ha9) Z (.v Z Z (.nil (b6 (.ret ?_)))))))))
 obtain rfl:=oi h
 exact Done.ret Z Z
theorem space_Of_w_ok{t:d7}{r:Int × Int × (List i7)}(h:ae5 t=some r):FnOk prog 59 [.agg (tT t)] (aq9 t) (fun tt ss=>tt=.c (.ptr 1 0 0)∧ss=[.dead,.one (.cells 3 [[.imm (.val (.int .u32 r.1)),.imm (.val (.int .u32 r.2.1)),.own 2 0 r.2.2.length]]),.one (vec 4 d4 r.2.2)]):=by
 refine FnOk.enter (rs:=[.t 2]) func59 Z ntmps59 results59 Z ⟨trivial,Y⟩ (by kernel_rfl) Z ?_
 refine AWP.weak ?_
 unfold ae5 at h
 refine AWP.q (.u (W.box Z Z Z Z Z Z (.v Z Z (.nil (b6 (.q ?_))))))
 obtain ⟨a8,ha8,a11,ha11,h⟩:=b2 h
 refine AWP.drawEI [7] mixed Z Z Z ?_
 refine d6.consN Z Z (fun E=>W.fieldAddr Z Z Z Z .N) Z (.consN Z Z (fun E=>AOps.E Z Z Z Z Z Z .N) Z (.consN Z Z (fun E=>AOps.O Z Z Z Z (A9 ha8) Z .N) Z (.consN Z Z (fun E=>W.fieldAddr Z Z Z Z .N) Z (.consN Z Z (fun E=>AOps.E Z Z Z Z Z Z .N) Z (.consN Z Z (fun E=>AOps.O Z Z Z Z (A9 ha11) Z .N) Z (.consN Z Z (fun E=>W.build Z Z Z Z .N) Z ?_))))))
 apply d6.consE; exact Z; exact Z; intro E
 refine W.box Z Z Z Z Z Z .N
 exact Z
 exact Z
 refine d6.consN Z Z (fun E=>AOps.v Z Z .N) Z ?_
 refine d6.done Z ?_ ?_
 ·refine c9.cons Z Z ?_ ?_
  refine b7.go Z Z (fun E=>W.fieldAddr Z Z Z Z .N) ?_
  refine b7.skip Z (b7.nil)
  refine c9.cons Z Z ?_ ?_
  refine b7.go Z Z (fun E=>AOps.E Z Z Z Z Z Z .N) ?_
  refine b7.skip Z (b7.nil)
  refine c9.cons Z Z ?_ ?_
  refine b7.go Z Z (fun E=>AOps.O Z Z Z Z (A9 ha8) Z .N) ?_
  refine b7.skip Z (b7.nil)
  refine c9.cons Z Z ?_ ?_
  refine b7.go Z Z (fun E=>W.fieldAddr Z Z Z Z .N) ?_
  refine b7.skip Z (b7.nil)
  refine c9.cons Z Z ?_ ?_
  refine b7.go Z Z (fun E=>AOps.E Z Z Z Z Z Z .N) ?_
  refine b7.skip Z (b7.nil)
  refine c9.cons Z Z ?_ ?_
  refine b7.go Z Z (fun E=>AOps.O Z Z Z Z (A9 ha11) Z .N) ?_
  refine b7.skip Z (b7.nil)
  refine c9.cons Z Z ?_ ?_
  refine b7.go Z Z (fun E=>W.build Z Z Z Z .N) ?_
  refine b7.skip Z (b7.nil)
  refine c9.skip Z ?_
  refine c9.cons Z Z ?_ ?_
  refine b7.skip Z ?_
  refine b7.go Z Z (fun E=>AOps.v Z Z .N) ?_
  exact b7.nil
  exact c9.nil
 dsimp only [j9]
 refine b6 (.q (.q (.u (W.fieldAddr Z Z Z Z (.E Z Z Z Z Z Z (S.len Z Z (fun hl16=>.j Z Z (.nil (b6 (.J (.virtB 4 d4 (b:=1) (o:=2) Z Z Z Z Z Z ?_)))))))))))
 obtain ⟨c55,ho1,h⟩:=bind_some h
 refine AWP.forS ho1 (fun t56 c55=>⟨[(3,.c (.ptr 1 0 0)),(15,.c (row 4 f8 t.operators)),(16,.c (int (t.operators.length:Int))),(17,.c (int t56))],[.dead,.one (.cells 3 [(wW a8 a11 2 c55.length)]),.one (vec 4 d4 c55)]⟩) (fun c55 e st=>e=.exit 0∧Sub (aq9 t) st ⟨[(3,.c (.ptr 1 0 0))],[.dead,.one (.cells 3 [(wW a8 a11 2 c55.length)]),.one (vec 4 d4 c55)]⟩) ?_ ?_ ?_ ?_
 ·try dsimp only
  exact Sub.cut ⟨Z,Z,Z,Z,Y⟩ Z ⟨.dead,(.eq Z (by first | rfl | (simp only [List.length_set]; done))),.vec,Y⟩ Z
 ·intro t56 c55 hlot56 hltt56 _
  try dsimp only
  refine AWP.q (.u (.F Z Z Z (.nil (b6 (.q (.ae Z hltt56 (.exit (e8 (e8 ⟨Z, ?_⟩)))))))))
  exact Sub.env ⟨Z,Y⟩
 ·intro t56 c55 o hlot56 hltt56 h
  unfold Y3 at h
  try dsimp only at h ⊢
  refine AWP.q (.u (.F Z Z Z (.nil (b6 (.q (.af Z hltt56 (.skip (b6 (.q (.J (.q ?_)))))))))))
  obtain ⟨a19,ha19,h⟩:=bind_some h
  refine AWP.u (S.idx ha19 Z Z Z Z (W.loadIAgg Z Z Z Z Z (W.alloc Z Z Z Z (W.storeAgg Z Z Z Z Z Z Z (.nil (b6 ?_))))))
  obtain ⟨a28,ha28,a31,ha31,a34,ha34,h⟩:=b3 h
  obtain ⟨a39,ha39,h⟩:=bind_some h
  refine AWP.drawEI [17,18,21] mixed Z Z Z ?_
  refine d6.consN Z Z (fun E=>AOps.j Z Z .N) Z (.consN Z Z (fun E=>AOps.j Z Z .N) Z (.consN Z Z (fun E=>AOps.ag Z Z Z .N) Z (.consN Z Z (fun E=>W.fieldAddr Z Z Z Z .N) Z (.consN Z Z (fun E=>AOps.E Z Z Z Z Z Z .N) Z (.consN Z Z (fun E=>W.fieldAddr Z Z Z Z .N) Z (.consN Z Z (fun E=>AOps.E Z Z Z Z Z Z .N) Z (.consN Z Z (fun E=>AOps.O Z Z Z Z (A9 ha28) Z .N) Z (.consN Z Z (fun E=>W.fieldAddr Z Z Z Z .N) Z (.consN Z Z (fun E=>AOps.E Z Z Z Z Z Z .N) Z (.consN Z Z (fun E=>AOps.O Z Z Z Z (A9 ha31) Z .N) Z (.consN Z Z (fun E=>W.fieldAddr Z Z Z Z .N) Z (.consN Z Z (fun E=>AOps.E Z Z Z Z Z Z .N) Z (.consN Z Z (fun E=>AOps.O Z Z Z Z (A9 ha34) Z .N) Z (.consN Z Z (fun E=>W.fieldAddr Z Z Z Z .N) Z (.consN Z Z (fun E=>AOps.E Z Z Z Z Z Z .N) Z (.consN Z Z (fun E=>W.build Z Z Z Z .N) Z ?_))))))))))))))))
  apply d6.consE; exact Z; exact Z; intro E
  refine S.lit (f:=d4) (l:=[(⟨a28,a31,a34,a19.cost⟩:i7)]) (ess:=[[.imm (.val (.int .u32 a28)),.imm (.val (.int .u32 a31)),.imm (.val (.int .u32 a34)),int a19.cost]]) Z Z Z Z Z Z Z ⟨⟨.inl Z,.inl Z,.inl Z,.inl Z,Y⟩,Y⟩ Z Z Z .N
  exact Z
  exact Z
  apply d6.consE; exact Z; exact Z; intro E
  refine S.append (f:=d4) ha39 Z Z Z Z Z Z (.own Z Z) Z Z Z Z .N
  exact Z
  exact Z
  refine d6.consN Z Z (fun E=>AOps.ag Z Z Z .N) Z (.consN Z Z (fun E=>W.fieldAddr Z Z Z Z .N) Z ?_)
  apply d6.consE (v:=.undef); exact Z; exact Z; intro E
  refine W.store Z Z Z Z Z .N
  exact Z
  exact Z
  refine d6.done Z ?_ ?_
  ·refine c9.cons Z Z ?_ ?_
   refine b7.go Z Z (fun E=>AOps.j Z Z .N) ?_
   refine b7.go Z Z (fun E=>AOps.j Z Z .N) ?_
   refine b7.go Z Z (fun E=>AOps.j Z Z .N) ?_
   refine b7.skip Z (b7.nil)
   refine c9.cons Z Z ?_ ?_
   refine b7.go Z Z (fun E=>AOps.j Z Z .N) ?_
   refine b7.go Z Z (fun E=>AOps.j Z Z .N) ?_
   refine b7.skip Z (b7.skip Z (b7.nil))
   refine c9.cons Z Z ?_ ?_
   refine b7.go Z Z (fun E=>AOps.ag Z Z Z .N) ?_
   refine b7.go Z Z (fun E=>AOps.ag Z Z Z .N) ?_
   refine b7.skip Z (b7.skip Z (b7.nil))
   refine c9.cons Z Z ?_ ?_
   refine b7.go Z Z (fun E=>W.fieldAddr Z Z Z Z .N) ?_
   refine b7.go Z Z (fun E=>W.fieldAddr Z Z Z Z .N) ?_
   refine b7.skip Z (b7.skip Z (b7.nil))
   refine c9.cons Z Z ?_ ?_
   refine b7.go Z Z (fun E=>AOps.E Z Z Z Z Z Z .N) ?_
   refine b7.go Z Z (fun E=>AOps.E Z Z Z Z Z Z .N) ?_
   refine b7.skip Z (b7.skip Z (b7.nil))
   refine c9.cons Z Z ?_ ?_
   refine b7.go Z Z (fun E=>W.fieldAddr Z Z Z Z .N) ?_
   refine b7.skip Z (b7.skip Z (b7.skip Z (b7.nil)))
   refine c9.cons Z Z ?_ ?_
   refine b7.go Z Z (fun E=>AOps.E Z Z Z Z Z Z .N) ?_
   refine b7.skip Z (b7.skip Z (b7.skip Z (b7.nil)))
   refine c9.cons Z Z ?_ ?_
   refine b7.go Z Z (fun E=>AOps.O Z Z Z Z (A9 ha28) Z .N) ?_
   refine b7.skip Z (b7.skip Z (b7.skip Z (b7.nil)))
   refine c9.cons Z Z ?_ ?_
   refine b7.go Z Z (fun E=>W.fieldAddr Z Z Z Z .N) ?_
   refine b7.skip Z (b7.skip Z (b7.skip Z (b7.nil)))
   refine c9.cons Z Z ?_ ?_
   refine b7.go Z Z (fun E=>AOps.E Z Z Z Z Z Z .N) ?_
   refine b7.skip Z (b7.skip Z (b7.skip Z (b7.nil)))
   refine c9.cons Z Z ?_ ?_
   refine b7.go Z Z (fun E=>AOps.O Z Z Z Z (A9 ha31) Z .N) ?_
   refine b7.skip Z (b7.skip Z (b7.skip Z (b7.nil)))
   refine c9.cons Z Z ?_ ?_
   refine b7.go Z Z (fun E=>W.fieldAddr Z Z Z Z .N) ?_
   refine b7.skip Z (b7.skip Z (b7.skip Z (b7.nil)))
   refine c9.cons Z Z ?_ ?_
   refine b7.go Z Z (fun E=>AOps.E Z Z Z Z Z Z .N) ?_
   refine b7.skip Z (b7.skip Z (b7.skip Z (b7.nil)))
   refine c9.cons Z Z ?_ ?_
   refine b7.go Z Z (fun E=>AOps.O Z Z Z Z (A9 ha34) Z .N) ?_
   refine b7.skip Z (b7.skip Z (b7.skip Z (b7.nil)))
   refine c9.cons Z Z ?_ ?_
   refine b7.go Z Z (fun E=>W.fieldAddr Z Z Z Z .N) ?_
   refine b7.skip Z (b7.skip Z (b7.skip Z (b7.nil)))
   refine c9.cons Z Z ?_ ?_
   refine b7.go Z Z (fun E=>AOps.E Z Z Z Z Z Z .N) ?_
   refine b7.skip Z (b7.skip Z (b7.skip Z (b7.nil)))
   refine c9.cons Z Z ?_ ?_
   refine b7.go Z Z (fun E=>W.build Z Z Z Z .N) ?_
   refine b7.skip Z (b7.skip Z (b7.skip Z (b7.nil)))
   refine c9.skip Z (c9.skip Z ?_)
   refine c9.cons Z Z ?_ ?_
   refine b7.skip Z (b7.skip Z ?_)
   refine b7.go Z Z (fun E=>AOps.ag Z Z Z .N) ?_
   refine b7.skip Z (b7.nil)
   refine c9.cons Z Z ?_ ?_
   refine b7.skip Z (b7.skip Z ?_)
   refine b7.go Z Z (fun E=>W.fieldAddr Z Z Z Z .N) ?_
   refine b7.skip Z (b7.nil)
   refine c9.skip Z (c9.nil)
  dsimp only [j9]
  refine e9 (b6 (.j (env':=[(3,.c (.ptr 1 0 0)),(15,.c (row 4 f8 t.operators)),(16,.c (int (t.operators.length:Int))),(17,.c (int t56))]) (σ':=[.dead,.one (.cells 3 [(wW a8 a11 2 a39.length)]),.one (vec 4 d4 a39),.one (.cells 4 [[row 1 intI a19.pre,row 1 intI a19.add,row 1 intI a19.del,int a19.cost]]),.one (vec 4 d4 [(⟨a28,a31,a34,a19.cost⟩:i7)])]) 2 5 Z Z Z ⟨Z,Z,Z,Z,Y⟩ Z ⟨trivial,⟨Z,Z⟩,⟨Blk.im_ok _ _ _,g9 Z⟩,⟨Z,Z⟩,⟨Blk.im_ok _ _ _,g9 Z⟩,Y⟩ (.u (.add Z Z Z (by omega) (.j Z Z (.nil ?_))))))
  obtain rfl:=oi h
  refine b6 (Sub.cut ⟨Z,Z,Z,Z,Y⟩ Z ⟨.dead,.one Z,.vec,Y⟩ Z)
 ·intro e s hq
  obtain ⟨rfl,hs⟩:=hq
  refine ⟨_,hs, ?_⟩
  refine j5 (b6 (.q (.u (.j Z Z (.v Z Z (.nil (b6 (.ret ?_))))))))
  obtain rfl:=oi h
  exact ⟨⟨[(2,.c (.ptr 1 0 0))],[.dead,.one (.cells 3 [(wW a8 a11 2 c55.length)]),.one (vec 4 d4 c55)]⟩,Sub.env ⟨Z,Y⟩,Done.ret Z ⟨Z,Z⟩⟩
theorem O6{start:Int}{goal:Int}{l:List i7}{r:Unit}(h:x8 start goal l=some r):FnOk prog 30 [.c (.ptr 0 0 0)] (an7 start goal l) (fun tt ss=>tt=.c (.imm (.val (.int .u32 start)))∧ss=[.one (.cells 3 [(wW start goal 1 l.length)]),.one (vec 4 d4 l)]):=by
 refine FnOk.enter (rs:=[.t 2]) func30 Z ntmps30 results30 Z ⟨trivial,Y⟩ (by kernel_rfl) Z ?_
 refine AWP.weak ?_
 unfold x8 at h
 refine AWP.q (.u (.v Z Z (.nil (b6 (.q (.u (.j Z Z (.ag Z Z Z (W.fieldAddr Z Z Z Z (.E Z Z Z Z Z Z (.v Z Z (.nil (b6 (.ret ?_))))))))))))))
 obtain rfl:=oi h
 exact ⟨⟨[(2,.c (.imm (.val (.int .u32 start))))],[.one (.cells 3 [(wW start goal 1 l.length)]),.one (vec 4 d4 l)]⟩,Sub.env ⟨Z,Y⟩,Done.ret Z ⟨Z,Z⟩⟩
theorem X2{sv:Int}{start:Int}{goal:Int}{l:List i7}{r:Unit}(h:C0 sv start goal l=some r):FnOk prog 67 [.c (.ptr 0 0 0),.c (.imm (.val (.int .u32 sv)))] (ao3 sv start goal l) (fun tt ss=>tt=.c (.fn 106 [.ptr 2 0 0,.ptr 3 0 0])∧ss=[.one (.cells 3 [(wW start goal 1 l.length)]),.one (vec 4 d4 l),.one (.cells 1 [[.ptr 0 0 0]]),.one (.cells 1 [[.imm (.val (.int .u32 sv))]])]):=by
 refine FnOk.enter (rs:=[.t 4]) func67 Z ntmps67 results67 Z ⟨trivial,Y⟩ (by kernel_rfl) Z ?_
 refine AWP.weak ?_
 unfold C0 at h
 refine AWP.q (.u (W.box Z Z Z Z Z Z (W.box Z Z Z Z Z Z (.v Z Z (.nil (b6 (.q (.u (.makeFunc Z Z (.v Z Z (.nil (b6 (.ret ?_)))))))))))))
 obtain rfl:=oi h
 exact ⟨⟨[(4,.c (.fn 106 [.ptr 2 0 0,.ptr 3 0 0]))],[.one (.cells 3 [(wW start goal 1 l.length)]),.one (vec 4 d4 l),.one (.cells 1 [[.ptr 0 0 0]]),.one (.cells 1 [[.imm (.val (.int .u32 sv))]])]⟩,Sub.env ⟨Z,Y⟩,Done.ret Z ⟨Z,Z⟩⟩
theorem ao7{start:Int}{goal:Int}{l:List i7}{r:(List Int) × Bool}(h:H2 start goal l=some r):FnOk prog 60 [.c (.ifc 75 [.ptr 0 0 0] false)] (Q0 start goal l) (fun tt ss=>tt=.tup [.c (.own 12 0 r.1.length),.c (bool r.2)]∧ss=[.one (.cells 3 [(wW start goal 1 l.length)]),.one (vec 4 d4 l),.dead,.dead,.dead,.dead,.dead,.dead,.dead,.dead,.dead,.dead,.one (vec 1 eU32 r.1)]):=by
 refine FnOk.enter (rs:=[.t 2,.t 3]) func60 Z ntmps60 results60 Z ⟨trivial,trivial,Y⟩ (by kernel_rfl) Z ?_
 refine AWP.weak ?_
 unfold H2 at h
 refine AWP.q (.u (.v Z Z (.v Z Z (.nil (b6 (.q ?_))))))
 obtain ⟨a12,ha12,h⟩:=bind_some h
 refine AWP.u (.j Z Z (S.invokeP (r2:=.c (.imm (.val (.int .u32 start)))) (σ'':=[.one (.cells 3 [(wW start goal 1 l.length)]),.one (vec 4 d4 l)]) Z Z Z (FnOk.lend [0,1] (O6 ha12) Z Z Z Z Z Z (by exact ⟨(.one Z),.vec,Y⟩) Z (by exact ⟨(.live Z (.one Z)),(.live Z .vec),Y⟩) Z Z (by exact ⟨(.new 0 Z Z (.one Z)),(.new 1 Z Z .vec),Y⟩)) (S.lit (f:=eU32) (l:=[start]) (ess:=[[.imm (.val (.int .u32 start))]]) Z Z Z Z Z Z Z ⟨⟨.inl Z,Y⟩,Y⟩ Z Z Z (W.alloc Z Z Z Z (W.store Z Z Z Z Z (.nil (b6 (.q ?_))))))))
 obtain ⟨a16,ha16,h⟩:=bind_some h
 refine AWP.u (W.makeMap vU noV Z Z Z (.j Z Z (S.invokeP (r2:=.c (.imm (.val (.int .u32 start)))) (σ'':=[.one (.cells 3 [(wW start goal 1 l.length)]),.one (vec 4 d4 l),.one (vec 1 eU32 [start]),.one (.cells 1 [[.own 2 0 ([start].length)]]),.one (mapB vU noV ([]:List (Int × Unit)))]) Z Z Z (FnOk.lend [0,1] (O6 ha16) Z Z Z Z Z Z (by exact ⟨(.one Z),.vec,Y⟩) Z (by exact ⟨(.live Z (.one Z)),(.live Z .vec),Y⟩) Z Z (by exact ⟨(.new 0 Z Z (.one Z)),(.new 1 Z Z .vec),(.old Z Z Z),(.old Z Z Z),(.old Z Z Z),Y⟩)) (S.build0 Z Z Z (W.insertU (fk:=vU) (k:=start) G0 Z Z Z Z Z (.j Z Z (W.alloc Z Z Z Z (W.store Z Z Z Z Z (.nil (b6 (.q (.u (.v Z Z (.nil (b6 (.q (.J (.virtV 1 eU32 6 Z Z Z ?_))))))))))))))))))
 obtain ⟨oo,ho1,h⟩:=bind_some h
 refine AWP.loopS ho1 (fun (c56,c57,c58)=>⟨[(0,.c (.ifc 75 [.ptr 0 0 0] false)),(4,.c (.ptr 3 0 0)),(5,.c (.ptr 5 0 0)),(6,.c (.own 6 0 c58.length))],[.one (.cells 3 [(wW start goal 1 l.length)]),.one (vec 4 d4 l),.one (vec 1 eU32 c56),.one (.cells 1 [[.own 2 0 c56.length]]),.one (mapB vU noV c57),.one (.cells 1 [[.map 4]]),.one (vec 1 eU32 c58)]⟩) (fun o e st=>match o with | .inl c59=>e=.exit 0∧Sub (Q0 start goal l) st ⟨[(6,.c (.own 6 0 c59.length))],[.one (.cells 3 [(wW start goal 1 l.length)]),.one (vec 4 d4 l),.dead,.dead,.dead,.dead,.one (vec 1 eU32 c59)]⟩ | .inr x=>e=.ret∧∃ J,Sub (Q0 start goal l) st J∧Done [.t 2,.t 3] (fun tt ss=>tt=.tup [.c (.own 12 0 x.1.length),.c (bool x.2)]∧ss=[.one (.cells 3 [(wW start goal 1 l.length)]),.one (vec 4 d4 l),.dead,.dead,.dead,.dead,.dead,.dead,.dead,.dead,.dead,.dead,.one (vec 1 eU32 x.1)]) .ret J) ?_ ?_ ?_
 ·try dsimp only
  exact Sub.env ⟨Z,Z,Z,(I5 (by first | rfl | simp only [List.length_set])),Y⟩
 ·intro s o h
  obtain ⟨c56,c57,c58⟩:=s
  unfold H6 at h
  try dsimp only at h ⊢
  refine AWP.q (.q (.u (.E Z Z Z Z Z Z (S.lenO Z Z Z (fun hl20=>.gtr Z Z Z (.nil (b6 (.ite Z h (fun hc60 h=> ?_) (fun hc60 h=> ?_)))))))))
  ·refine AWP.skip (b6 (.J (.q ?_)))
   obtain ⟨a26,ha26,h⟩:=bind_some h
   refine AWP.u (.E Z Z Z Z Z Z (.E Z Z Z Z Z Z (S.lenO Z Z Z (fun hl24=>.sub' Z Z Z (by omega) (S.idxO ha26 Z Z Z Z Z (S.loadO ha26 Z Z Z Z Z (.v Z Z (.nil (b6 (.q ?_))))))))))
   obtain ⟨u32,hu32,h⟩:=bind_some h
   refine AWP.u (.E Z Z Z Z Z Z (.E Z Z Z Z Z Z (S.lenO Z Z Z (fun hl30=>.sub' Z Z Z (by omega) (S.vTo (S0 c56) hu32 Z Z Z Z Z Z (.sub (Sub.reown (env':=[(0,.c (.ifc 75 [.ptr 0 0 0] false)),(4,.c (.ptr 3 0 0)),(5,.c (.ptr 5 0 0)),(6,.c (.own 6 0 c58.length)),(7,.c (.imm (.val (.int .u32 a26)))),(20,.c (int (c56.length:Int))),(21,.c (bool (decide (0<(c56.length:Int))))),(24,.c (int (c56.length:Int))),(25,.c (int ((c56.length:Int) - 1))),(27,.c (.imm (.val (.int .u32 a26)))),(30,.c (int (c56.length:Int))),(31,.c (int ((c56.length:Int) - 1))),(32,.c (.own 7 0 ((n8 c56 0 ((c56.length:Int) - 1)).length)))]) 32 (vw_to (S0 c56) hu32) Z Z Z Z Z Z Z Z (by exact ⟨.inr Z,.inr Z,.inr Z,.inr Z,.inr Z,.inr Z,.inr Z,.inr Z,.inr Z,.inr Z,.inr Z,.inr Z,.inl ⟨Z,Z⟩,Y⟩)) (W.store Z Z Z Z Z (.nil (b6 (.q (.j (env':=[(0,.c (.ifc 75 [.ptr 0 0 0] false)),(4,.c (.ptr 3 0 0)),(5,.c (.ptr 5 0 0)),(6,.c (.own 6 0 c58.length)),(7,.c (.imm (.val (.int .u32 a26))))]) (σ':=[.one (.cells 3 [(wW start goal 1 l.length)]),.one (vec 4 d4 l),.one (vec 1 eU32 (n8 c56 0 ((c56.length:Int) - 1))),.one (.cells 1 [[.own 2 0 ((n8 c56 0 ((c56.length:Int) - 1)).length)]]),.one (mapB vU noV c57),.one (.cells 1 [[.map 4]]),.one (vec 1 eU32 c58)]) 2 7 Z Z Z ⟨Z,Z,Z,Z,Z,Y⟩ Z ⟨⟨Z,Z⟩,⟨Blk.im_ok _ _ _,g9 Z⟩,⟨Blk.im_ok _ _ _,g9 Z⟩,⟨Z,Z⟩,⟨Z,Z⟩,⟨Z,Z⟩,⟨Blk.im_ok _ _ _,g9 Z⟩,Y⟩ ?_)))))))))))
   obtain ⟨a36,ha36,h⟩:=bind_some h
   refine AWP.u (.j Z Z (.j Z Z (S.lit (f:=eU32) (l:=[a26]) (ess:=[[.imm (.val (.int .u32 a26))]]) Z Z Z Z Z Z Z ⟨⟨.inl Z,Y⟩,Y⟩ Z Z Z (S.append (f:=eU32) ha36 Z Z Z Z Z Z (.own Z Z) Z Z Z Z (.v Z Z (.nil (b6 (.q (.q (.j (env':=[(0,.c (.ifc 75 [.ptr 0 0 0] false)),(4,.c (.ptr 3 0 0)),(5,.c (.ptr 5 0 0)),(6,.c (.own 6 0 a36.length)),(7,.c (.imm (.val (.int .u32 a26))))]) (σ':=[.one (.cells 3 [(wW start goal 1 l.length)]),.one (vec 4 d4 l),.one (vec 1 eU32 (n8 c56 0 ((c56.length:Int) - 1))),.one (.cells 1 [[.own 2 0 ((n8 c56 0 ((c56.length:Int) - 1)).length)]]),.one (mapB vU noV c57),.one (.cells 1 [[.map 4]]),.one (vec 1 eU32 a36),.one (vec 1 eU32 [a26])]) 6 8 Z Z Z ⟨Z,Z,Z,Z,Z,Y⟩ Z ⟨⟨Z,Z⟩,⟨Blk.im_ok _ _ _,g9 Z⟩,⟨Blk.im_ok _ _ _,g9 Z⟩,⟨Z,Z⟩,⟨Z,Z⟩,⟨Z,Z⟩,⟨Blk.im_ok _ _ _,g9 Z⟩,⟨Blk.im_ok _ _ _,g9 Z⟩,Y⟩ ?_))))))))))
   obtain ⟨a39,ha39,h⟩:=bind_some h
   refine AWP.u (.j Z Z (.j Z Z (S.invokeP (r2:=.c (.fn 106 [.ptr 8 0 0,.ptr 9 0 0])) (σ'':=[.one (.cells 3 [(wW start goal 1 l.length)]),.one (vec 4 d4 l),.one (vec 1 eU32 (n8 c56 0 ((c56.length:Int) - 1))),.one (.cells 1 [[.own 2 0 ((n8 c56 0 ((c56.length:Int) - 1)).length)]]),.one (mapB vU noV c57),.one (.cells 1 [[.map 4]]),.one (vec 1 eU32 a36),.one (vec 1 eU32 [a26]),.one (.cells 1 [[.ptr 0 0 0]]),.one (.cells 1 [[.imm (.val (.int .u32 a26))]])]) Z Z Z (FnOk.lend [0,1] (X2 ha39) Z Z Z Z Z Z (by exact ⟨(.one Z),.vec,Y⟩) Z (by exact ⟨(.live Z (.one Z)),(.live Z .vec),Y⟩) Z Z (by exact ⟨(.new 0 Z Z (.one Z)),(.new 1 Z Z .vec),(.old Z Z Z),(.old Z Z Z),(.old Z Z Z),(.old Z Z Z),(.old Z Z Z),(.old Z Z Z),(.new 2 Z Z (.one Z)),(.new 3 Z Z (.one Z)),Y⟩)) (.nil (b6 (.J ?_))))))
   obtain ⟨xr61,hr61,h⟩:=bind_some h
   refine AWP.rangeB [(4,none),(5,none)] Z Z Z (fun as61 bo61 hA61 hB61=>⟨[.one (.cells 3 [(wW start goal 1 l.length)]),.one (vec 4 d4 l),.one (vec 1 eU32 (n8 c56 0 ((c56.length:Int) - 1))),.one (.cells 1 [[.own 2 0 ((n8 c56 0 ((c56.length:Int) - 1)).length)]]),.one (mapB vU noV c57),.one (.cells 1 [[.map 4]]),.one (vec 1 eU32 a36),.one (vec 1 eU32 [a26]),.one (.cells 1 [[.ptr 0 0 0]]),.one (.cells 1 [[.imm (.val (.int .u32 a26))]]),.one (k6 63 [40] as61 bo61 .ready none [(4,none),(5,none)] [.ptr 3 0 0,.ptr 5 0 0])],fun tt ss=>tt=.tup []∧ss=[.one (.cells 3 [(wW start goal 1 l.length)]),.one (vec 4 d4 l),.dead,.one (.cells 1 [[.own 11 0 xr61.2.length]]),.one (mapB vU noV xr61.1),.one (.cells 1 [[.map 4]]),.one (vec 1 eU32 a36),.one (vec 1 eU32 [a26]),.one (.cells 1 [[.ptr 0 0 0]]),.one (.cells 1 [[.imm (.val (.int .u32 a26))]]),.one (k6 63 [40] as61 bo61 .ready none [(4,none),(5,none)] [.ptr 3 0 0,.ptr 5 0 0]),.one (vec 1 eU32 xr61.2)],Z, ?_, ?_⟩)
   ·refine FnOk.enter (rs:=[]) func106 Z ntmps106 results106 Z trivial (by kernel_rfl) Z ?_
    refine AWP.weak ?_
    unfold I3 at hr61
    try dsimp only at hr61
    refine AWP.j (env':=[(0,.c (.yld 10)),(1,.c (.ptr 8 0 0)),(2,.c (.ptr 9 0 0))]) (σ':=[.one (.cells 3 [(wW start goal 1 l.length)]),.one (vec 4 d4 l),.dead,.one (.cells 1 [[.own 11 0 ((n8 c56 0 ((c56.length:Int) - 1)).length)]]),.one (mapB vU noV c57),.one (.cells 1 [[.map 4]]),.one (vec 1 eU32 a36),.one (vec 1 eU32 [a26]),.one (.cells 1 [[.ptr 0 0 0]]),.one (.cells 1 [[.imm (.val (.int .u32 a26))]]),.one (k6 63 [40] as61 bo61 .ready none [(4,none),(5,none)] [.ptr 3 0 0,.ptr 5 0 0]),.one (vec 1 eU32 (n8 c56 0 ((c56.length:Int) - 1)))]) 11 2 Z Z Z ⟨Z,Z,Z,Y⟩ Z ⟨⟨Z,Z⟩,⟨Blk.im_ok _ _ _,g9 Z⟩,trivial,⟨Z,Z⟩,⟨Z,Z⟩,⟨Z,Z⟩,⟨Blk.im_ok _ _ _,g9 Z⟩,⟨Blk.im_ok _ _ _,g9 Z⟩,⟨Z,Z⟩,⟨Z,Z⟩,⟨Z,Z⟩,⟨Blk.im_ok _ _ _,g9 Z⟩,Y⟩ (.q (.u (.E Z Z Z Z Z Z (.ag Z Z Z (W.fieldAddr Z Z Z Z (.E Z Z Z Z Z Z (S.lenO Z Z Z (fun hl10=>.j Z Z (.nil (b6 (.J ?_)))))))))))
    obtain ⟨⟨c64,c65⟩,ho2,hr61⟩:=bind_some hr61
    try dsimp only at hr61
    refine AWP.forS ho2 (fun t66 (c64,c65)=>⟨[(0,.c (.yld 10)),(2,.c (.ptr 9 0 0)),(9,.c (.own 1 0 l.length)),(10,.c (int (l.length:Int))),(11,.c (int t66))],[.one (.cells 3 [(wW start goal 1 l.length)]),.one (vec 4 d4 l),.dead,.one (.cells 1 [[.own 11 0 c65.length]]),.one (mapB vU noV c64),.one (.cells 1 [[.map 4]]),.one (vec 1 eU32 a36),.one (vec 1 eU32 [a26]),.one (.cells 1 [[.ptr 0 0 0]]),.one (.cells 1 [[.imm (.val (.int .u32 a26))]]),.one (k6 63 [40] as61 bo61 .ready none [(4,none),(5,none)] [.ptr 3 0 0,.ptr 5 0 0]),.one (vec 1 eU32 c65)]⟩) (fun (c64,c65) e st=>e=.exit 0∧Sub ([.one (.cells 3 [(wW start goal 1 l.length)]),.one (vec 4 d4 l),.one (vec 1 eU32 (n8 c56 0 ((c56.length:Int) - 1))),.one (.cells 1 [[.own 2 0 ((n8 c56 0 ((c56.length:Int) - 1)).length)]]),.one (mapB vU noV c57),.one (.cells 1 [[.map 4]]),.one (vec 1 eU32 a36),.one (vec 1 eU32 [a26]),.one (.cells 1 [[.ptr 0 0 0]]),.one (.cells 1 [[.imm (.val (.int .u32 a26))]]),.one (k6 63 [40] as61 bo61 .ready none [(4,none),(5,none)] [.ptr 3 0 0,.ptr 5 0 0])]:b8) st ⟨[],[.one (.cells 3 [(wW start goal 1 l.length)]),.one (vec 4 d4 l),.dead,.one (.cells 1 [[.own 11 0 c65.length]]),.one (mapB vU noV c64),.one (.cells 1 [[.map 4]]),.one (vec 1 eU32 a36),.one (vec 1 eU32 [a26]),.one (.cells 1 [[.ptr 0 0 0]]),.one (.cells 1 [[.imm (.val (.int .u32 a26))]]),.one (k6 63 [40] as61 bo61 .ready none [(4,none),(5,none)] [.ptr 3 0 0,.ptr 5 0 0]),.one (vec 1 eU32 c65)]⟩) ?_ ?_ ?_ ?_
    ·try dsimp only
     exact Sub.env ⟨Z,Z,Z,Z,Z,Y⟩
    ·intro t66 s hlot66 hltt66 _
     obtain ⟨c64,c65⟩:=s
     try dsimp only
     refine AWP.q (.u (.F Z Z Z (.nil (b6 (.q (.ae Z hltt66 (.exit (e8 (e8 ⟨Z, ?_⟩)))))))))
     exact Sub.env trivial
    ·intro t66 s o hlot66 hltt66 h
     obtain ⟨c64,c65⟩:=s
     unfold H8 at h
     try dsimp only at h ⊢
     refine AWP.q (.u (.F Z Z Z (.nil (b6 (.q (.af Z hltt66 (.skip (b6 (.q (.J (.q ?_)))))))))))
     obtain ⟨ai14,hai14,h⟩:=bind_some h
     refine AWP.u (.j Z Z (S.idxO hai14 Z Z Z Z Z (S.loadOAgg hai14 Z Z Z Z Z Z Z (W.alloc Z Z Z Z (.v Z Z (W.storeAgg Z Z Z Z Z Z Z (.nil (b6 (.q ?_)))))))))
     rcases bft (decide (Go.bits .and .u32 a26 ai14.pre=ai14.pre)) with hb67 | hb67
     ·replace h:=P3 hb67 h
      refine AWP.u (.E Z Z Z Z Z Z (W.fieldAddr Z Z Z Z (.E Z Z Z Z Z Z (.bits Z Z Z (by simp) (W.fieldAddr Z Z Z Z (.E Z Z Z Z Z Z (.eql Z Z Z (.j Z Z (.z Z Z Z hb67 (.j Z Z (.z Z Z Z hb67 (.j Z Z (.z Z Z Z hb67 (W.fieldAddr Z Z Z Z (.z Z Z Z hb67 (.E Z Z Z Z Z Z (.z Z Z Z hb67 (.E Z Z Z Z Z Z (.z Z Z Z hb67 (W.fieldAddr Z Z Z Z (.z Z Z Z hb67 (.E Z Z Z Z Z Z (.z Z Z Z hb67 (.bits Z Z Z (by simp) (.z Z Z Z hb67 (W.fieldAddr Z Z Z Z (.z Z Z Z hb67 (.E Z Z Z Z Z Z (.z Z Z Z hb67 (.bits Z Z Z (by simp) (.z Z Z Z hb67 (W.build Z Z Z Z ?_))))))))))))))))))))))))))))))))
      refine AOps.z Z Z Z hb67 ?_; refine AOps.yieldB (E1:=[(8,.c (.ptr 13 0 0)),(40,.agg [int t66,int ai14.cost,.imm (.val (.int .u32 (Go.bits .or .u32 (Go.bits .andNot .u32 a26 ai14.del) ai14.add)))]),(4,.c (.ptr 3 0 0)),(5,.c (.ptr 5 0 0))]) (σ1:=[.one (.cells 3 [(wW start goal 1 l.length)]),.one (vec 4 d4 l),.dead,.one (.cells 1 [[.own 11 0 c65.length]]),.one (mapB vU noV c64),.one (.cells 1 [[.map 4]]),.one (vec 1 eU32 a36),.one (vec 1 eU32 [a26]),.one (.cells 1 [[.ptr 0 0 0]]),.one (.cells 1 [[.imm (.val (.int .u32 a26))]]),.one (k6 63 [40] as61 bo61 .ready none [(4,none),(5,none)] [.ptr 3 0 0,.ptr 5 0 0]),.one (vec 1 eU32 c65),.one (.cells 4 [[.imm (.val (.int .u32 ai14.pre)),.imm (.val (.int .u32 ai14.add)),.imm (.val (.int .u32 ai14.del)),int ai14.cost]]),.one (.cells 3 [[int t66,int ai14.cost,.imm (.val (.int .u32 (Go.bits .or .u32 (Go.bits .andNot .u32 a26 ai14.del) ai14.add)))]])]) hA61 hB61 Z Z Z Z Z Z Z Z Z Z ?_ ?_
      ·refine AWP.u (W.alloc Z Z Z Z (W.storeAgg Z Z Z Z Z Z Z (.nil ?_)))
       exact ⟨Z,Z⟩
      refine AWP.sub (s':=⟨[(4,.c (.ptr 3 0 0)),(5,.c (.ptr 5 0 0)),(8,.c (.ptr 13 0 0))],[.one (.cells 3 [(wW start goal 1 l.length)]),.one (vec 4 d4 l),.dead,.one (.cells 1 [[.own 11 0 c65.length]]),.one (mapB vU noV c64),.one (.cells 1 [[.map 4]]),.one (vec 1 eU32 a36),.one (vec 1 eU32 [a26]),.one (.cells 1 [[.ptr 0 0 0]]),.one (.cells 1 [[.imm (.val (.int .u32 a26))]]),.one (k6 63 [40] as61 bo61 .busy none [(4,none),(5,none)] [.ptr 3 0 0,.ptr 5 0 0]),.one (vec 1 eU32 c65),.one (.cells 4 [[.imm (.val (.int .u32 ai14.pre)),.imm (.val (.int .u32 ai14.add)),.imm (.val (.int .u32 ai14.del)),int ai14.cost]]),.one (.cells 3 [[int t66,int ai14.cost,.imm (.val (.int .u32 (Go.bits .or .u32 (Go.bits .andNot .u32 a26 ai14.del) ai14.add)))]])]⟩) (Sub.env ⟨Z,Z,Z,Y⟩) (.J (.q (.u (.E Z Z Z Z Z Z (W.fieldAddr Z Z Z Z (.E Z Z Z Z Z Z (W.lookupOkU (fk:=vU) (k:=Go.bits .or .u32 (Go.bits .andNot .u32 a26 ai14.del) ai14.add) G0 Z Z Z Z Z (.j Z Z (.ac Z Z Z (.ac Z Z Z (W.alloc Z Z Z Z (S.store0 Z Z Z (.v Z Z (.nil (b6 (.q (.u (.j Z Z (.not Z Z (.nil (b6 (.ab Z h (fun hc68 h=> ?_) (fun hc68 h=> ?_)))))))))))))))))))))))
      ·refine AWP.q (.u (.E Z Z Z Z Z Z (W.fieldAddr Z Z Z Z (.E Z Z Z Z Z Z (S.build0 Z Z Z (W.mapUpdateU (fk:=vU) (k:=Go.bits .or .u32 (Go.bits .andNot .u32 a26 ai14.del) ai14.add) G0 Z Z Z Z Z (.nil (b6 ?_))))))))
       obtain ⟨ab58,hab58,h⟩:=bind_some h
       refine AWP.u (.E Z Z Z Z Z Z (W.fieldAddr Z Z Z Z (.E Z Z Z Z Z Z (S.lit (f:=eU32) (l:=[Go.bits .or .u32 (Go.bits .andNot .u32 a26 ai14.del) ai14.add]) (ess:=[[.imm (.val (.int .u32 (Go.bits .or .u32 (Go.bits .andNot .u32 a26 ai14.del) ai14.add)))]]) Z Z Z Z Z Z Z ⟨⟨.inl Z,Y⟩,Y⟩ Z Z Z (S.append (f:=eU32) hab58 Z Z Z Z Z Z (.own Z Z) Z Z Z Z (W.store Z Z Z Z Z (.nil (e9 (K5 Z Z (.z Z Z Z hb67 (.not Z Z (.U Z hb67 Z Z (.nil (b6 (.j (env':=[(0,.c (.yld 10)),(2,.c (.ptr 9 0 0)),(9,.c (.own 1 0 l.length)),(10,.c (int (l.length:Int))),(11,.c (int t66)),(38,.c (bool false))]) (σ':=[.one (.cells 3 [(wW start goal 1 l.length)]),.one (vec 4 d4 l),.dead,.one (.cells 1 [[.own 11 0 ab58.length]]),.one (mapB vU noV (mset c64 (Go.bits .or .u32 (Go.bits .andNot .u32 a26 ai14.del) ai14.add) ())),.one (.cells 1 [[.map 4]]),.one (vec 1 eU32 a36),.one (vec 1 eU32 [a26]),.one (.cells 1 [[.ptr 0 0 0]]),.one (.cells 1 [[.imm (.val (.int .u32 a26))]]),.one (k6 63 [40] as61 bo61 .ready none [(4,none),(5,none)] [.ptr 3 0 0,.ptr 5 0 0]),.one (vec 1 eU32 ab58),.one (.cells 4 [[.imm (.val (.int .u32 ai14.pre)),.imm (.val (.int .u32 ai14.add)),.imm (.val (.int .u32 ai14.del)),int ai14.cost]]),.one (.cells 3 [[int t66,int ai14.cost,.imm (.val (.int .u32 (Go.bits .or .u32 (Go.bits .andNot .u32 a26 ai14.del) ai14.add)))]]),.one (.cells 0 [[]]),.one (vec 1 eU32 [Go.bits .or .u32 (Go.bits .andNot .u32 a26 ai14.del) ai14.add])]) 11 16 Z Z Z ⟨Z,Z,Z,Z,Z,Z,Y⟩ Z ⟨⟨Z,Z⟩,⟨Blk.im_ok _ _ _,g9 Z⟩,trivial,⟨Z,Z⟩,⟨Z,Z⟩,⟨Z,Z⟩,⟨Blk.im_ok _ _ _,g9 Z⟩,⟨Blk.im_ok _ _ _,g9 Z⟩,⟨Z,Z⟩,⟨Z,Z⟩,⟨Z,Z⟩,⟨Blk.im_ok _ _ _,g9 Z⟩,⟨Z,Z⟩,⟨Z,Z⟩,⟨Z,Z⟩,⟨Blk.im_ok _ _ _,g9 Z⟩,Y⟩ (.condF Z (.skip (e9 (b6 (.u (.add Z Z Z (by omega) (.j Z Z (.nil ?_)))))))))))))))))))))))
       obtain rfl:=oi h
       refine b6 (Sub.cut ⟨Z,Z,Z,Z,Z,Y⟩ Z ⟨.one Z,.vec,.dead,.one Z,.one Z,.one Z,.vec,.vec,.one Z,.one Z,.one Z,.vec,Y⟩ Z)
      ·refine AWP.skip (e9 (K5 Z Z (.z Z Z Z hb67 (.not Z Z (.U Z hb67 Z Z (.nil (b6 (.condF Z (.skip (e9 (b6 (.u (.add Z Z Z (by omega) (.j Z Z (.nil ?_)))))))))))))))
       obtain rfl:=oi h
       refine b6 (Sub.cut ⟨Z,Z,Z,Z,Z,Y⟩ Z ⟨.one Z,.vec,.dead,.one Z,.one Z,.one Z,.vec,.vec,.one Z,.one Z,.one Z,.vec,Y⟩ Z)
     ·replace h:=P2 hb67 h
      refine AWP.u (.E Z Z Z Z Z Z (W.fieldAddr Z Z Z Z (.E Z Z Z Z Z Z (.bits Z Z Z (by simp) (W.fieldAddr Z Z Z Z (.E Z Z Z Z Z Z (.eql Z Z Z (.j Z Z (.B Z Z Z hb67 (.B Z Z Z hb67 (.B Z Z Z hb67 (.B Z Z Z hb67 (.B Z Z Z hb67 (.B Z Z Z hb67 (.B Z Z Z hb67 (.B Z Z Z hb67 (.B Z Z Z hb67 (.B Z Z Z hb67 (.B Z Z Z hb67 (.B Z Z Z hb67 (.B Z Z Z hb67 (.B Z Z Z hb67 (.aa Z hb67 Z Z (.nil (b6 (.condF Z (.skip (e9 (b6 (.u (.add Z Z Z (by omega) (.j Z Z (.nil ?_)))))))))))))))))))))))))))))))))
      obtain rfl:=oi h
      refine b6 (Sub.cut ⟨Z,Z,Z,Z,Z,Y⟩ Z ⟨.one Z,.vec,.dead,.one Z,.one Z,.one Z,.vec,.vec,.one Z,.one Z,.one Z,.vec,Y⟩ Z)
    ·intro e s hq
     obtain ⟨rfl,hs⟩:=hq
     refine ⟨_,hs, ?_⟩
     refine j5 ?_
     obtain rfl:=oi hr61
     exact ⟨⟨[],[.one (.cells 3 [(wW start goal 1 l.length)]),.one (vec 4 d4 l),.dead,.one (.cells 1 [[.own 11 0 c65.length]]),.one (mapB vU noV c64),.one (.cells 1 [[.map 4]]),.one (vec 1 eU32 a36),.one (vec 1 eU32 [a26]),.one (.cells 1 [[.ptr 0 0 0]]),.one (.cells 1 [[.imm (.val (.int .u32 a26))]]),.one (k6 63 [40] as61 bo61 .ready none [(4,none),(5,none)] [.ptr 3 0 0,.ptr 5 0 0]),.one (vec 1 eU32 c65)]⟩,Sub.env trivial,Done.normal Z ⟨Z,Z⟩⟩
   ·rintro tt ss ⟨rfl,rfl⟩
    obtain ⟨c62,c63⟩:=xr61
    try dsimp only at h ⊢
    refine ad8 Z Z (e9 (b6 (.q (.u (.E Z Z Z Z Z Z (S.lenMap (fk:=vU) (fv:=noV) Z Z Z (.gtr Z Z Z (.nil (b6 (.ite Z h (fun hc69 h=> ?_) (fun hc69 h=> ?_)))))))))))
    ·refine AWP.q (.u (.v Z Z (.v Z Z (.nil (b6 (.virtV 1 eU32 2 Z Z Z (.ret (i9 ?_))))))))
     obtain rfl:=oi h
     refine e7 ⟨_,Z,Z, ?_⟩
     exact ⟨⟨[(2,.c (.own 12 0 ([].length))),(3,.c (bool false))],[.one (.cells 3 [(wW start goal 1 l.length)]),.one (vec 4 d4 l),.dead,.dead,.dead,.dead,.dead,.dead,.dead,.dead,.dead,.dead,.one (vec 1 eU32 [])]⟩,Sub.cut ⟨(I5 (by first | rfl | simp only [List.length_set])),Z,Y⟩ Z ⟨.one Z,.vec,.dead,.dead,.dead,.dead,.dead,.dead,.dead,.dead,.dead,.dead,.vec,Y⟩ Z,Done.ret Z ⟨Z,Z⟩⟩
    ·refine AWP.skip (e9 ?_)
     obtain rfl:=oi h
     refine b6 ⟨_,Z, ?_⟩
     exact (Sub.move (env':=[(0,.c (.ifc 75 [.ptr 0 0 0] false)),(4,.c (.ptr 3 0 0)),(5,.c (.ptr 5 0 0)),(6,.c (.own 6 0 a36.length))]) (σ':=[.one (.cells 3 [(wW start goal 1 l.length)]),.one (vec 4 d4 l),.one (vec 1 eU32 c63),.one (.cells 1 [[.own 2 0 c63.length]]),.one (mapB vU noV c62),.one (.cells 1 [[.map 4]]),.one (vec 1 eU32 a36),.one (vec 1 eU32 [a26]),.one (.cells 1 [[.ptr 0 0 0]]),.one (.cells 1 [[.imm (.val (.int .u32 a26))]]),.dead]) 2 11 Z Z Z ⟨Z,Z,Z,Z,Y⟩ Z ⟨⟨Z,Z⟩,⟨Blk.im_ok _ _ _,g9 Z⟩,⟨Blk.im_ok _ _ _,g9 Z⟩,⟨Z,Z⟩,⟨Z,Z⟩,⟨Z,Z⟩,⟨Blk.im_ok _ _ _,g9 Z⟩,⟨Blk.im_ok _ _ _,g9 Z⟩,⟨Z,Z⟩,⟨Z,Z⟩,trivial,Y⟩).trans (Sub.cut ⟨Z,Z,Z,Z,Y⟩ Z ⟨.one Z,.vec,.vec,.one Z,.one Z,.one Z,.vec,Y⟩ Z)
  ·refine AWP.exit (e8 ?_)
   obtain rfl:=oi h
   refine e8 ⟨_,Z,Z, ?_⟩
   exact Sub.cut ⟨Z,Y⟩ Z ⟨.one Z,.vec,.dead,.dead,.dead,.dead,.vec,Y⟩ Z
 ·intro e s hq
  rcases oo with c59 | x
  ·try dsimp only at h hq
   obtain ⟨rfl,hs⟩:=hq
   refine ⟨_,hs, ?_⟩
   refine j5 (b6 (.q (.u (.j Z Z (.v Z Z (.v Z Z (.nil (b6 (.ret ?_)))))))))
   obtain rfl:=oi h
   exact ⟨⟨[(2,.c (.own 12 0 c59.length)),(3,.c (bool true))],[.one (.cells 3 [(wW start goal 1 l.length)]),.one (vec 4 d4 l),.dead,.dead,.dead,.dead,.dead,.dead,.dead,.dead,.dead,.dead,.one (vec 1 eU32 c59)]⟩,(Sub.move (env':=[(2,.c (.own 12 0 c59.length)),(3,.c (bool true))]) (σ':=[.one (.cells 3 [(wW start goal 1 l.length)]),.one (vec 4 d4 l),.dead,.dead,.dead,.dead,.dead,.dead,.dead,.dead,.dead,.dead,.one (vec 1 eU32 c59)]) 12 6 Z Z Z ⟨Z,Z,Y⟩ Z ⟨⟨Z,Z⟩,⟨Blk.im_ok _ _ _,g9 Z⟩,trivial,trivial,trivial,trivial,trivial,trivial,trivial,trivial,trivial,trivial,⟨Blk.im_ok _ _ _,g9 Z⟩,Y⟩).trans (Sub.env ⟨Z,Z,Y⟩),Done.ret Z ⟨Z,Z⟩⟩
  ·try dsimp only at h hq
   obtain ⟨rfl,hs⟩:=hq
   refine ⟨_,Sub.refl _ _, ?_⟩
   refine i9 (e7 ?_)
   obtain rfl:=oi h
   exact hs
theorem ah3{t:d7}{r:(Int × Int) ⊕ (Int × Int × (List i7) × (List Int))}(h:E7 t=some r):FnOk prog 28 [.agg (tT t)] (as9 t) (fun tt ss=>(∃ v:Int × Int,r=.inl v∧tt=.tup [.c (.imm (.val (.pointer none))),.c (row 1 eU32 []),.agg [int v.1,int v.2]]∧ss=[.dead,.one (.cells 2 [[int v.1,int v.2]])])∨(∃ v:Int × Int × (List i7) × (List Int),r=.inr v∧tt=.tup [.c (.ptr 4 0 0),.c (row 1 eU32 v.2.2.2),.agg [int 0,int 0]]∧ss=[.dead,.one (.cells 2 [[int 0,int 0]]),.dead,.dead,.one (.cells 3 [[.imm (.val (.int .u32 v.1)),.imm (.val (.int .u32 v.2.1)),.own 5 0 v.2.2.1.length]]),.one (vec 4 d4 v.2.2.1)])):=by
 refine FnOk.enter (rs:=[.t 2,.t 3,.cell 4 32 2]) func28 Z ntmps28 results28 Z ⟨trivial,trivial,rv _ Z,Y⟩ (by kernel_rfl) Z ?_
 refine AWP.weak ?_
 unfold E7 at h
 refine AWP.q (.u (W.box Z Z Z Z Z Z (.v Z Z (.v Z Z (W.alloc Z Z Z Z (.nil (b6 (.q (.q ?_)))))))))
 obtain ⟨a10,ha10,h⟩:=bind_some h
 refine AWP.u (W.loadAgg Z Z Z Z Z Z Z (.O Z Z Z Z (C9 ha10) Z (W.alloc Z Z Z Z (W.storeAgg Z Z Z Z Z Z Z (.nil (b6 (.q (.u (W.loadAgg Z Z Z Z Z Z Z (W.build Z Z Z Z (.neqP Z Z Z Z Z Z Z (.nil (b6 (.ab Z h (fun hc58 h=> ?_) (fun hc58 h=> ?_)))))))))))))))
 ·refine AWP.q (.drawEI [3] mixed Z Z Z ?_)
  refine d6.consN Z Z (fun E=>W.loadAgg Z Z Z Z Z Z Z .N) Z (.consN Z Z (fun E=>AOps.v Z Z .N) Z (.consN Z Z (fun E=>AOps.v Z Z .N) Z ?_))
  apply d6.consE (v:=.undef); exact Z; exact Z; intro E
  refine W.storeAgg Z Z Z Z Z Z Z .N
  exact Z
  exact Z
  refine d6.done Z ?_ ?_
  ·refine c9.cons Z Z ?_ ?_
   refine b7.go Z Z (fun E=>W.loadAgg Z Z Z Z Z Z Z .N) ?_
   refine b7.skip Z (b7.nil)
   refine c9.cons Z Z ?_ ?_
   refine b7.go Z Z (fun E=>AOps.v Z Z .N) ?_
   refine b7.skip Z (b7.nil)
   refine c9.cons Z Z ?_ ?_
   refine b7.go Z Z (fun E=>AOps.v Z Z .N) ?_
   refine b7.skip Z (b7.nil)
   refine c9.skip Z (c9.nil)
  dsimp only [j9]
  refine b6 (.nilrow 1 3 Z (.ret (e7 ?_)))
  obtain rfl:=oi h
  exact ⟨⟨[(2,.c (.imm (.val (.pointer none)))),(3,.c (row 1 eU32 [])),(4,.c (.ptr 1 0 0))],[.dead,.one (.cells 2 [[int a10.code,int a10.index]])]⟩,Sub.cut ⟨Z,Z,Z,Y⟩ Z ⟨.dead,.one Z,Y⟩ Z,Done.ret Z (.inl ⟨_,Z,Z,Z⟩)⟩
 ·refine AWP.skip (b6 (.q ?_))
  obtain ⟨a16,ha16,h⟩:=bind_some h
  refine AWP.u (W.loadAgg Z Z Z Z Z Z Z (.callF (r2:=.c (.ptr 4 0 0)) (σ'':=[.one (.cells 4 [(tT t)]),.one (.cells 2 [[int 0,int 0]]),.one (.cells 2 [[int a10.code,int a10.index]]),.dead,.one (.cells 3 [[.imm (.val (.int .u32 a16.1)),.imm (.val (.int .u32 a16.2.1)),.own 5 0 a16.2.2.length]]),.one (vec 4 d4 a16.2.2)]) Z Z Z (FnOk.lend [] (space_Of_w_ok ha16) Z Z Z Z Z Z (by exact trivial) Z (by exact trivial) Z Z (by exact ⟨(.old Z Z Z),(.old Z Z Z),(.old Z Z Z),.dead,(.new 1 Z Z (.one Z)),(.new 2 Z Z .vec),Y⟩)) (.v Z Z (.nil (b6 (.q ?_))))))
  obtain ⟨a20,ha20,h⟩:=bind_some h
  refine AWP.u (.j Z Z (S.mkIfc Z Z Z (.callF (r2:=.tup [.c (.own 16 0 a20.1.length),.c (bool a20.2)]) (σ'':=[.one (.cells 4 [(tT t)]),.one (.cells 2 [[int 0,int 0]]),.one (.cells 2 [[int a10.code,int a10.index]]),.dead,.one (.cells 3 [[.imm (.val (.int .u32 a16.1)),.imm (.val (.int .u32 a16.2.1)),.own 5 0 a16.2.2.length]]),.one (vec 4 d4 a16.2.2),.dead,.dead,.dead,.dead,.dead,.dead,.dead,.dead,.dead,.dead,.one (vec 1 eU32 a20.1)]) Z Z Z (FnOk.lend [4,5] (ao7 ha20) Z Z Z Z Z Z (by exact ⟨(.one Z),.vec,Y⟩) Z (by exact ⟨(.live Z (.one Z)),(.live Z .vec),Y⟩) Z Z (by exact ⟨(.old Z Z Z),(.old Z Z Z),(.old Z Z Z),.dead,(.new 0 Z Z (.one Z)),(.new 1 Z Z .vec),.dead,.dead,.dead,.dead,.dead,.dead,.dead,.dead,.dead,.dead,(.new 12 Z Z .vec),Y⟩)) (.j Z Z (.ac Z Z Z (.ac Z Z Z (.v Z Z (.v Z Z (.nil (b6 (.q (.q (.u (.j Z Z (.not Z Z (.nil (b6 (.ab Z h (fun hc59 h=> ?_) (fun hc59 h=> ?_)))))))))))))))))))
  ·refine AWP.q (.u (W.build Z Z Z Z (.v Z Z (.v Z Z (W.storeAgg Z Z Z Z Z Z Z (.nil (b6 (.nilrow 1 3 Z (.ret (e7 ?_))))))))))
   obtain rfl:=oi h
   exact ⟨⟨[(2,.c (.imm (.val (.pointer none)))),(3,.c (row 1 eU32 [])),(4,.c (.ptr 1 0 0))],[.dead,.one (.cells 2 [[int 10,int (-7)]])]⟩,Sub.cut ⟨Z,Z,Z,Y⟩ Z ⟨.dead,.one Z,Y⟩ Z,Done.ret Z (.inl ⟨_,Z,Z,Z⟩)⟩
  ·refine AWP.skip (b6 (.q ?_))
   obtain ⟨a27,ha27,h⟩:=bind_some h
   refine AWP.u (.j Z Z (S.sortFU ha27 (fun hy=>at1 hy) sortF_Lu32_ok (⟨_,func62,Z,Z⟩) Z Z Z Z Z Z ?_))
   refine AOps.nil (b6 (.q (.u (.j Z Z (.j Z Z (W.build Z Z Z Z (.v Z Z (.v Z Z (W.storeAgg Z Z Z Z Z Z Z (.nil (b6 (.frzV (id:=16) (l:=a27) (env2:=[(2,.c (.ptr 4 0 0)),(3,.c (row 1 eU32 a27)),(4,.c (.ptr 1 0 0))]) (σ2:=[.one (.cells 4 [(tT t)]),.one (.cells 2 [[int 0,int 0]]),.one (.cells 2 [[int a10.code,int a10.index]]),.dead,.one (.cells 3 [[.imm (.val (.int .u32 a16.1)),.imm (.val (.int .u32 a16.2.1)),.own 5 0 a16.2.2.length]]),.one (vec 4 d4 a16.2.2),.dead,.dead,.dead,.dead,.dead,.dead,.dead,.dead,.dead,.dead,.dead]) Z Z (by exact ⟨⟨_,Z,.inl ⟨Z,Z⟩⟩,⟨_,Z,.inr ⟨_,Z,(sortFU_len ha27),Z⟩⟩,⟨_,Z,.inl ⟨Z,Z⟩⟩,Y⟩) Z (by exact ⟨⟨Z,.inl ⟨Z,Z⟩,.inl ⟨Z,Z⟩,.inl ⟨Z,Z⟩,.inl ⟨Z,Z⟩,Y⟩,⟨Z,.inl ⟨Z,Z⟩,.inl ⟨Z,Z⟩,Y⟩,⟨Z,.inl ⟨Z,Z⟩,.inl ⟨Z,Z⟩,Y⟩,trivial,⟨Z,.inl ⟨Z,Z⟩,.inl ⟨Z,Z⟩,.inl ⟨Z,Z⟩,Y⟩,FrzB.vec,trivial,trivial,trivial,trivial,trivial,trivial,trivial,trivial,trivial,trivial,trivial,Y⟩) (.ret ?_)))))))))))))
   obtain rfl:=oi h
   exact ⟨⟨[(2,.c (.ptr 4 0 0)),(3,.c (row 1 eU32 a27)),(4,.c (.ptr 1 0 0))],[.dead,.one (.cells 2 [[int 0,int 0]]),.dead,.dead,.one (.cells 3 [[.imm (.val (.int .u32 a16.1)),.imm (.val (.int .u32 a16.2.1)),.own 5 0 a16.2.2.length]]),.one (vec 4 d4 a16.2.2)]⟩,Sub.cut ⟨Z,Z,Z,Y⟩ Z ⟨.dead,.one Z,.dead,.dead,.one Z,.vec,Y⟩ Z,Done.ret Z (.inr ⟨_,Z,Z,Z⟩)⟩
theorem al3{r:Unit}(h:H5=some r):FnOk prog 64 [] (al4) (fun tt ss=>tt=.c (.ptr 2 0 0)∧ss=[.one (pmap 1 vU ([]:List (Int × Int))),pool 4 b9 ([]:List c8),.one (.cells 3 [[.own 3 0 (([]:List Int).length),.map 0,int 0]]),.one (prow 1 ([]:List Int))]):=by
 refine FnOk.enter (rs:=[.t 0]) func64 Z ntmps64 results64 Z ⟨trivial,Y⟩ (by kernel_rfl) Z ?_
 refine AWP.weak ?_
 unfold H5 at h
 refine AWP.q (.u (.v Z Z (.nil (b6 (.q (.u (W.makeMapP 1 vU Z Z Z (.sub (Sub.newPool (size:=4) (f:=b9) Z) (W.build Z Z Z Z (W.box Z Z Z Z Z Z (.v Z Z (.nil (b6 (.virtP 1 (b:=2) (o:=0) Z Z Z Z Z Z (.ret ?_)))))))))))))))
 obtain rfl:=oi h
 exact ⟨⟨[(0,.c (.ptr 2 0 0))],[.one (pmap 1 vU ([]:List (Int × Int))),pool 4 b9 ([]:List c8),.one (.cells 3 [[.own 3 0 (([]:List Int).length),.map 0,int 0]]),.one (prow 1 ([]:List Int))]⟩,Sub.env ⟨Z,Y⟩,Done.ret Z ⟨Z,Z⟩⟩
theorem an6{sv:Int}{start:Int}{goal:Int}{l:List i7}{r:Unit}(h:L9 sv start goal l=some r):FnOk prog 65 [.c (.ptr 0 0 0),.c (.imm (.val (.int .u32 sv)))] (ao2 sv start goal l) (fun tt ss=>tt=.c (bool (decide (Go.bits .and .u32 sv goal=goal)))∧ss=[.one (.cells 3 [(wW start goal 1 l.length)]),.one (vec 4 d4 l)]):=by
 refine FnOk.enter (rs:=[.t 4]) func65 Z ntmps65 results65 Z ⟨trivial,Y⟩ (by kernel_rfl) Z ?_
 refine AWP.weak ?_
 unfold L9 at h
 refine AWP.q (.u (.v Z Z (.nil (b6 (.q (.drawI mixed Z ?_))))))
 refine j7.consF Z (fun E=>AOps.j Z Z .N) Z (.consF Z (fun E=>AOps.j Z Z .N) Z (.consF Z (fun E=>AOps.ag Z Z Z .N) Z (.consF Z (fun E=>W.fieldAddr Z Z Z Z .N) Z (.consF Z (fun E=>AOps.E Z Z Z Z Z Z .N) Z (.consF Z (fun E=>AOps.bits Z Z Z (by simp) .N) Z (.consF Z (fun E=>AOps.j Z Z .N) Z (.consF Z (fun E=>AOps.ag Z Z Z .N) Z (.consF Z (fun E=>W.fieldAddr Z Z Z Z .N) Z (.consF Z (fun E=>AOps.E Z Z Z Z Z Z .N) Z (.consF Z (fun E=>AOps.eql Z Z Z .N) Z (.consF Z (fun E=>AOps.v Z Z .N) Z ?_)))))))))))
 refine j7.done ?_
 dsimp only [j9]
 refine b6 (.ret ?_)
 obtain rfl:=oi h
 exact ⟨⟨[(4,.c (bool (decide (Go.bits .and .u32 sv goal=goal))))],[.one (.cells 3 [(wW start goal 1 l.length)]),.one (vec 4 d4 l)]⟩,Sub.env ⟨Z,Y⟩,Done.ret Z ⟨Z,Z⟩⟩
theorem D7{l:List Int}{l2:List c8}{r:Unit}(h:o4 l l2=some r):FnOk prog 203 [.c (.own 0 0 l.length)] (ae7 l l2) (fun tt ss=>tt=.c (int (l.length:Int))∧ss=[.one (prow 1 l),pool 4 b9 l2]):=by
 refine FnOk.enter (rs:=[.t 2]) func203 Z ntmps203 results203 Z ⟨trivial,Y⟩ (by kernel_rfl) Z ?_
 refine AWP.weak ?_
 unfold o4 at h
 refine AWP.q (.u (.v Z Z (.nil (b6 (.q (.u (.j Z Z (.lenOwnB Z Z Z (fun hl4=>.v Z Z (.nil (b6 (.ret ?_))))))))))))
 obtain rfl:=oi h
 exact ⟨⟨[(2,.c (int (l.length:Int)))],[.one (prow 1 l),pool 4 b9 l2]⟩,Sub.env ⟨Z,Y⟩,Done.ret Z ⟨Z,Z⟩⟩
theorem x7{iv:Int}{kv:Int}{l:List Int}{l4:List c8}{r:Bool}(h:m6 iv kv l l4=some r):FnOk prog 204 [.c (.own 0 0 l.length),.c (int iv),.c (int kv)] (ac9 iv kv l l4) (fun tt ss=>tt=.c (bool r)∧ss=[.one (prow 1 l),pool 4 b9 l4]):=by
 refine FnOk.enter (rs:=[.t 6]) func204 Z ntmps204 results204 Z ⟨trivial,Y⟩ (by kernel_rfl) Z ?_
 refine AWP.weak ?_
 unfold m6 at h
 refine AWP.q (.u (.v Z Z (.nil (b6 ?_))))
 obtain ⟨a9,ha9,en56,hen56,a16,ha16,h⟩:=b3 h
 obtain ⟨en57,hen57,h⟩:=bind_some h
 refine AWP.seqJ (⟨[(6,.c (bool ((decide (en56.key<en57.key)) || ((decide (en56.key=en57.key)) && (decide (en56.time<en57.time))))))],[.one (prow 1 l),pool 4 b9 l4]⟩) ?_ ?_
 ·rcases bft (decide (en56.key<en57.key)) with hb1 | hb1
  ·refine AWP.drawI mixed Z ?_
   refine j7.consF Z (fun E=>AOps.j Z Z .N) Z (.consF Z (fun E=>AOps.j Z Z .N) Z (.consF Z (fun E=>S.idxPb Z Z Z (by simpa only [List.length_set] using n7 ha9) Z Z .N) Z (.consF Z (fun E=>S.loadP ha9 Z Z Z Z .N) Z (.consF Z (fun E=>S.nilCheckE Z Z (by simpa only [List.length_set] using h9 hen56) Z .N) Z (.consF Z (fun E=>S.fieldE Z Z Z (by simpa only [List.length_set] using h9 hen56) Z .N) Z (.consF Z (fun E=>AOps.E Z Z (n9 Z hen56) Z Z Z .N) Z (.consF Z (fun E=>AOps.j Z Z .N) Z (.consF Z (fun E=>AOps.j Z Z .N) Z (.consF Z (fun E=>S.idxPb Z Z Z (by simpa only [List.length_set] using n7 ha16) Z Z .N) Z (.consF Z (fun E=>S.loadP ha16 Z Z Z Z .N) Z (.consF Z (fun E=>S.nilCheckE Z Z (by simpa only [List.length_set] using h9 hen57) Z .N) Z (.consF Z (fun E=>S.fieldE Z Z Z (by simpa only [List.length_set] using h9 hen57) Z .N) Z (.consF Z (fun E=>AOps.E Z Z (n9 Z hen57) Z Z Z .N) Z (.consF Z (fun E=>AOps.F Z Z Z .N) Z (.consF Z (fun E=>AOps.j Z Z .N) Z (.consF Z (fun E=>AOps.B Z Z Z hb1 .N) Z (.consF Z (fun E=>AOps.B Z Z Z hb1 .N) Z (.consF Z (fun E=>AOps.B Z Z Z hb1 .N) Z (.consF Z (fun E=>AOps.B Z Z Z hb1 .N) Z (.consF Z (fun E=>AOps.B Z Z Z hb1 .N) Z (.consF Z (fun E=>AOps.B Z Z Z hb1 .N) Z (.consF Z (fun E=>AOps.B Z Z Z hb1 .N) Z (.consF Z (fun E=>AOps.B Z Z Z hb1 .N) Z (.consF Z (fun E=>AOps.B Z Z Z hb1 .N) Z (.consF Z (fun E=>AOps.B Z Z Z hb1 .N) Z (.consF Z (fun E=>AOps.B Z Z Z hb1 .N) Z (.consF Z (fun E=>AOps.B Z Z Z hb1 .N) Z (.consF Z (fun E=>AOps.B Z Z Z hb1 .N) Z (.consF Z (fun E=>AOps.B Z Z Z hb1 .N) Z (.consF Z (fun E=>AOps.B Z Z Z hb1 .N) Z (.consF Z (fun E=>AOps.B Z Z Z hb1 .N) Z (.consF Z (fun E=>AOps.ah Z Z Z .N) Z (.consF Z (fun E=>AOps.ah Z Z Z .N) Z (.consF Z (fun E=>AOps.ah Z Z Z .N) Z (.consF Z (fun E=>AOps.ah Z Z Z .N) Z (.consF Z (fun E=>AOps.ah Z Z Z .N) Z (.consF Z (fun E=>AOps.ah Z Z Z .N) Z (.consF Z (fun E=>AOps.ah Z Z Z .N) Z (.consF Z (fun E=>AOps.ah Z Z Z .N) Z (.consF Z (fun E=>AOps.ah Z Z Z .N) Z (.consF Z (fun E=>AOps.ah Z Z Z .N) Z (.consF Z (fun E=>AOps.ah Z Z Z .N) Z (.consF Z (fun E=>AOps.ah Z Z Z .N) Z (.consF Z (fun E=>AOps.ah Z Z Z .N) Z (.consF Z (fun E=>AOps.ah Z Z Z .N) Z (.consF Z (fun E=>AOps.ah Z Z Z .N) Z (.consF Z (fun E=>AOps.B Z Z Z hb1 .N) Z (.consF Z (fun E=>AOps.U Z hb1 Z Z .N) Z (.consF Z (fun E=>AOps.v Z Z .N) Z ?_)))))))))))))))))))))))))))))))))))))))))))))))))
   refine j7.done ?_
   dsimp only [j9]
   refine b6 ?_
   simp only [Q6 hb1,or_t hb1,Bool.false_or,Bool.true_or,Bool.false_and,Bool.true_and]
   exact Sub.env ⟨Z,Y⟩
  ·rcases bft (decide (en56.key=en57.key)) with hb2 | hb2
   ·refine AWP.drawI mixed Z ?_
    refine j7.consF Z (fun E=>AOps.j Z Z .N) Z (.consF Z (fun E=>AOps.j Z Z .N) Z (.consF Z (fun E=>S.idxPb Z Z Z (by simpa only [List.length_set] using n7 ha9) Z Z .N) Z (.consF Z (fun E=>S.loadP ha9 Z Z Z Z .N) Z (.consF Z (fun E=>S.nilCheckE Z Z (by simpa only [List.length_set] using h9 hen56) Z .N) Z (.consF Z (fun E=>S.fieldE Z Z Z (by simpa only [List.length_set] using h9 hen56) Z .N) Z (.consF Z (fun E=>AOps.E Z Z (n9 Z hen56) Z Z Z .N) Z (.consF Z (fun E=>AOps.j Z Z .N) Z (.consF Z (fun E=>AOps.j Z Z .N) Z (.consF Z (fun E=>S.idxPb Z Z Z (by simpa only [List.length_set] using n7 ha16) Z Z .N) Z (.consF Z (fun E=>S.loadP ha16 Z Z Z Z .N) Z (.consF Z (fun E=>S.nilCheckE Z Z (by simpa only [List.length_set] using h9 hen57) Z .N) Z (.consF Z (fun E=>S.fieldE Z Z Z (by simpa only [List.length_set] using h9 hen57) Z .N) Z (.consF Z (fun E=>AOps.E Z Z (n9 Z hen57) Z Z Z .N) Z (.consF Z (fun E=>AOps.F Z Z Z .N) Z (.consF Z (fun E=>AOps.j Z Z .N) Z (.consF Z (fun E=>AOps.z Z Z Z hb1 (.j Z Z .N)) Z (.consF Z (fun E=>AOps.z Z Z Z hb1 (.j Z Z .N)) Z (.consF Z (fun E=>AOps.z Z Z Z hb1 (S.idxPb Z Z Z (by simpa only [List.length_set] using n7 ha9) Z Z .N)) Z (.consF Z (fun E=>AOps.z Z Z Z hb1 (S.loadP ha9 Z Z Z Z .N)) Z (.consF Z (fun E=>AOps.z Z Z Z hb1 (S.nilCheckE Z Z (by simpa only [List.length_set] using h9 hen56) Z .N)) Z (.consF Z (fun E=>AOps.z Z Z Z hb1 (S.fieldE Z Z Z (by simpa only [List.length_set] using h9 hen56) Z .N)) Z (.consF Z (fun E=>AOps.z Z Z Z hb1 (.E Z Z (n9 Z hen56) Z Z Z .N)) Z (.consF Z (fun E=>AOps.z Z Z Z hb1 (.j Z Z .N)) Z (.consF Z (fun E=>AOps.z Z Z Z hb1 (.j Z Z .N)) Z (.consF Z (fun E=>AOps.z Z Z Z hb1 (S.idxPb Z Z Z (by simpa only [List.length_set] using n7 ha16) Z Z .N)) Z (.consF Z (fun E=>AOps.z Z Z Z hb1 (S.loadP ha16 Z Z Z Z .N)) Z (.consF Z (fun E=>AOps.z Z Z Z hb1 (S.nilCheckE Z Z (by simpa only [List.length_set] using h9 hen57) Z .N)) Z (.consF Z (fun E=>AOps.z Z Z Z hb1 (S.fieldE Z Z Z (by simpa only [List.length_set] using h9 hen57) Z .N)) Z (.consF Z (fun E=>AOps.z Z Z Z hb1 (.E Z Z (n9 Z hen57) Z Z Z .N)) Z (.consF Z (fun E=>AOps.z Z Z Z hb1 (.eql Z Z Z .N)) Z (.consF Z (fun E=>AOps.z Z Z Z hb1 (.j Z Z .N)) Z (.consF Z (fun E=>AOps.z Z Z Z hb2 (.j Z Z .N)) Z (.consF Z (fun E=>AOps.z Z Z Z hb2 (.j Z Z .N)) Z (.consF Z (fun E=>AOps.z Z Z Z hb2 (S.idxPb Z Z Z (by simpa only [List.length_set] using n7 ha9) Z Z .N)) Z (.consF Z (fun E=>AOps.z Z Z Z hb2 (S.loadP ha9 Z Z Z Z .N)) Z (.consF Z (fun E=>AOps.z Z Z Z hb2 (S.nilCheckE Z Z (by simpa only [List.length_set] using h9 hen56) Z .N)) Z (.consF Z (fun E=>AOps.z Z Z Z hb2 (S.fieldE Z Z Z (by simpa only [List.length_set] using h9 hen56) Z .N)) Z (.consF Z (fun E=>AOps.z Z Z Z hb2 (.E Z Z (n9 Z hen56) Z Z Z .N)) Z (.consF Z (fun E=>AOps.z Z Z Z hb2 (.j Z Z .N)) Z (.consF Z (fun E=>AOps.z Z Z Z hb2 (.j Z Z .N)) Z (.consF Z (fun E=>AOps.z Z Z Z hb2 (S.idxPb Z Z Z (by simpa only [List.length_set] using n7 ha16) Z Z .N)) Z (.consF Z (fun E=>AOps.z Z Z Z hb2 (S.loadP ha16 Z Z Z Z .N)) Z (.consF Z (fun E=>AOps.z Z Z Z hb2 (S.nilCheckE Z Z (by simpa only [List.length_set] using h9 hen57) Z .N)) Z (.consF Z (fun E=>AOps.z Z Z Z hb2 (S.fieldE Z Z Z (by simpa only [List.length_set] using h9 hen57) Z .N)) Z (.consF Z (fun E=>AOps.z Z Z Z hb2 (.E Z Z (n9 Z hen57) Z Z Z .N)) Z (.consF Z (fun E=>AOps.z Z Z Z hb2 (.F Z Z Z .N)) Z (.consF Z (fun E=>AOps.z Z Z Z hb1 (.U Z hb2 Z Z .N)) Z (.consF Z (fun E=>AOps.aa Z hb1 Z Z .N) Z (.consF Z (fun E=>AOps.v Z Z .N) Z ?_)))))))))))))))))))))))))))))))))))))))))))))))))
    refine j7.done ?_
    dsimp only [j9]
    refine b6 ?_
    simp only [N3 hb1,or_f hb1,Q6 hb2,or_t hb2,Bool.false_or,Bool.true_or,Bool.false_and,Bool.true_and]
    exact Sub.env ⟨Z,Y⟩
   ·refine AWP.drawI mixed Z ?_
    refine j7.consF Z (fun E=>AOps.j Z Z .N) Z (.consF Z (fun E=>AOps.j Z Z .N) Z (.consF Z (fun E=>S.idxPb Z Z Z (by simpa only [List.length_set] using n7 ha9) Z Z .N) Z (.consF Z (fun E=>S.loadP ha9 Z Z Z Z .N) Z (.consF Z (fun E=>S.nilCheckE Z Z (by simpa only [List.length_set] using h9 hen56) Z .N) Z (.consF Z (fun E=>S.fieldE Z Z Z (by simpa only [List.length_set] using h9 hen56) Z .N) Z (.consF Z (fun E=>AOps.E Z Z (n9 Z hen56) Z Z Z .N) Z (.consF Z (fun E=>AOps.j Z Z .N) Z (.consF Z (fun E=>AOps.j Z Z .N) Z (.consF Z (fun E=>S.idxPb Z Z Z (by simpa only [List.length_set] using n7 ha16) Z Z .N) Z (.consF Z (fun E=>S.loadP ha16 Z Z Z Z .N) Z (.consF Z (fun E=>S.nilCheckE Z Z (by simpa only [List.length_set] using h9 hen57) Z .N) Z (.consF Z (fun E=>S.fieldE Z Z Z (by simpa only [List.length_set] using h9 hen57) Z .N) Z (.consF Z (fun E=>AOps.E Z Z (n9 Z hen57) Z Z Z .N) Z (.consF Z (fun E=>AOps.F Z Z Z .N) Z (.consF Z (fun E=>AOps.j Z Z .N) Z (.consF Z (fun E=>AOps.z Z Z Z hb1 (.j Z Z .N)) Z (.consF Z (fun E=>AOps.z Z Z Z hb1 (.j Z Z .N)) Z (.consF Z (fun E=>AOps.z Z Z Z hb1 (S.idxPb Z Z Z (by simpa only [List.length_set] using n7 ha9) Z Z .N)) Z (.consF Z (fun E=>AOps.z Z Z Z hb1 (S.loadP ha9 Z Z Z Z .N)) Z (.consF Z (fun E=>AOps.z Z Z Z hb1 (S.nilCheckE Z Z (by simpa only [List.length_set] using h9 hen56) Z .N)) Z (.consF Z (fun E=>AOps.z Z Z Z hb1 (S.fieldE Z Z Z (by simpa only [List.length_set] using h9 hen56) Z .N)) Z (.consF Z (fun E=>AOps.z Z Z Z hb1 (.E Z Z (n9 Z hen56) Z Z Z .N)) Z (.consF Z (fun E=>AOps.z Z Z Z hb1 (.j Z Z .N)) Z (.consF Z (fun E=>AOps.z Z Z Z hb1 (.j Z Z .N)) Z (.consF Z (fun E=>AOps.z Z Z Z hb1 (S.idxPb Z Z Z (by simpa only [List.length_set] using n7 ha16) Z Z .N)) Z (.consF Z (fun E=>AOps.z Z Z Z hb1 (S.loadP ha16 Z Z Z Z .N)) Z (.consF Z (fun E=>AOps.z Z Z Z hb1 (S.nilCheckE Z Z (by simpa only [List.length_set] using h9 hen57) Z .N)) Z (.consF Z (fun E=>AOps.z Z Z Z hb1 (S.fieldE Z Z Z (by simpa only [List.length_set] using h9 hen57) Z .N)) Z (.consF Z (fun E=>AOps.z Z Z Z hb1 (.E Z Z (n9 Z hen57) Z Z Z .N)) Z (.consF Z (fun E=>AOps.z Z Z Z hb1 (.eql Z Z Z .N)) Z (.consF Z (fun E=>AOps.z Z Z Z hb1 (.j Z Z .N)) Z (.consF Z (fun E=>AOps.B Z Z Z hb2 .N) Z (.consF Z (fun E=>AOps.B Z Z Z hb2 .N) Z (.consF Z (fun E=>AOps.B Z Z Z hb2 .N) Z (.consF Z (fun E=>AOps.B Z Z Z hb2 .N) Z (.consF Z (fun E=>AOps.B Z Z Z hb2 .N) Z (.consF Z (fun E=>AOps.B Z Z Z hb2 .N) Z (.consF Z (fun E=>AOps.B Z Z Z hb2 .N) Z (.consF Z (fun E=>AOps.B Z Z Z hb2 .N) Z (.consF Z (fun E=>AOps.B Z Z Z hb2 .N) Z (.consF Z (fun E=>AOps.B Z Z Z hb2 .N) Z (.consF Z (fun E=>AOps.B Z Z Z hb2 .N) Z (.consF Z (fun E=>AOps.B Z Z Z hb2 .N) Z (.consF Z (fun E=>AOps.B Z Z Z hb2 .N) Z (.consF Z (fun E=>AOps.B Z Z Z hb2 .N) Z (.consF Z (fun E=>AOps.B Z Z Z hb2 .N) Z (.consF Z (fun E=>AOps.z Z Z Z hb1 (.aa Z hb2 Z Z .N)) Z (.consF Z (fun E=>AOps.aa Z hb1 Z Z .N) Z (.consF Z (fun E=>AOps.v Z Z .N) Z ?_)))))))))))))))))))))))))))))))))))))))))))))))))
    refine j7.done ?_
    dsimp only [j9]
    refine b6 ?_
    simp only [N3 hb1,or_f hb1,N3 hb2,or_f hb2,Bool.false_or,Bool.true_or,Bool.false_and,Bool.true_and]
    exact Sub.env ⟨Z,Y⟩
 ·refine AWP.ret ?_
  obtain rfl:=oi h
  exact ⟨⟨[(6,.c (bool ((decide (en56.key<en57.key)) || ((decide (en56.key=en57.key)) && (decide (en56.time<en57.time))))))],[.one (prow 1 l),pool 4 b9 l4]⟩,Sub.env ⟨Z,Y⟩,Done.ret Z ⟨Z,Z⟩⟩
theorem M0{iv:Int}{kv:Int}{l:List Int}{l4:List c8}{r:(List Int) × (List c8)}(h:m4 iv kv l l4=some r):FnOk prog 205 [.c (.own 0 0 l.length),.c (int iv),.c (int kv)] (ac8 iv kv l l4) (fun tt ss=>tt=.tup []∧ss=[.one (prow 1 r.1),pool 4 b9 r.2]):=by
 refine FnOk.enter (rs:=[]) func205 Z ntmps205 results205 Z trivial (by kernel_rfl) Z ?_
 refine AWP.weak ?_
 unfold m4 at h
 refine AWP.q ?_
 obtain ⟨a12,ha12,a16,ha16,h⟩:=b2 h
 refine AWP.drawEI [13,15] mixed Z Z Z ?_
 refine d6.consN Z Z (fun E=>AOps.j Z Z .N) Z (.consN Z Z (fun E=>AOps.j Z Z .N) Z (.consN Z Z (fun E=>AOps.j Z Z .N) Z (.consN Z Z (fun E=>AOps.j Z Z .N) Z (.consN Z Z (fun E=>AOps.j Z Z .N) Z (.consN Z Z (fun E=>AOps.j Z Z .N) Z (.consN Z Z (fun E=>S.idxPb Z Z Z (by simpa only [List.length_set] using n7 ha12) Z Z .N) Z (.consN Z Z (fun E=>S.loadP ha12 Z Z Z Z .N) Z (.consN Z Z (fun E=>AOps.j Z Z .N) Z (.consN Z Z (fun E=>AOps.j Z Z .N) Z (.consN Z Z (fun E=>S.idxPb Z Z Z (by simpa only [List.length_set] using n7 ha16) Z Z .N) Z (.consN Z Z (fun E=>S.loadP ha16 Z Z Z Z .N) Z (.consN Z Z (fun E=>S.idxPb Z Z Z (by simpa only [List.length_set] using n7 ha16) Z Z .N) Z ?_))))))))))))
 apply d6.consE (v:=.undef); exact Z; exact Z; intro E
 refine S.storeP (a:=a12) (by simpa only [List.length_set] using h9 ha16) Z Z Z Z .N
 exact Z
 exact Z
 refine d6.consN Z Z (fun E=>S.idxPb Z Z (by simp only [List.length_set]) (by simpa only [List.length_set] using n7 ha12) Z Z .N) Z ?_
 apply d6.consE (v:=.undef); exact Z; exact Z; intro E
 refine S.storeP (a:=a16) (by simpa only [List.length_set] using h9 ha12) Z Z Z Z .N
 exact Z
 exact Z
 refine d6.done Z ?_ ?_
 ·refine c9.cons Z Z ?_ ?_
  refine b7.go Z Z (fun E=>AOps.j Z Z .N) ?_
  refine b7.skip Z (b7.skip Z (b7.nil))
  refine c9.cons Z Z ?_ ?_
  refine b7.go Z Z (fun E=>AOps.j Z Z .N) ?_
  refine b7.skip Z (b7.skip Z (b7.nil))
  refine c9.cons Z Z ?_ ?_
  refine b7.go Z Z (fun E=>AOps.j Z Z .N) ?_
  refine b7.go Z Z (fun E=>AOps.j Z Z .N) ?_
  refine b7.skip Z (b7.nil)
  refine c9.cons Z Z ?_ ?_
  refine b7.go Z Z (fun E=>AOps.j Z Z .N) ?_
  refine b7.go Z Z (fun E=>AOps.j Z Z .N) ?_
  refine b7.skip Z (b7.nil)
  refine c9.cons Z Z ?_ ?_
  refine b7.go Z Z (fun E=>AOps.j Z Z .N) ?_
  refine b7.skip Z (b7.skip Z (b7.nil))
  refine c9.cons Z Z ?_ ?_
  refine b7.go Z Z (fun E=>AOps.j Z Z .N) ?_
  refine b7.skip Z (b7.skip Z (b7.nil))
  refine c9.cons Z Z ?_ ?_
  refine b7.go Z Z (fun E=>S.idxPb Z Z Z (by simpa only [List.length_set] using n7 ha12) Z Z .N) ?_
  refine b7.skip Z (b7.skip Z (b7.nil))
  refine c9.cons Z Z ?_ ?_
  refine b7.go Z Z (fun E=>S.loadP ha12 Z Z Z Z .N) ?_
  refine b7.skip Z (b7.skip Z (b7.nil))
  refine c9.cons Z Z ?_ ?_
  refine b7.go Z Z (fun E=>AOps.j Z Z .N) ?_
  refine b7.skip Z (b7.skip Z (b7.nil))
  refine c9.cons Z Z ?_ ?_
  refine b7.go Z Z (fun E=>AOps.j Z Z .N) ?_
  refine b7.skip Z (b7.skip Z (b7.nil))
  refine c9.cons Z Z ?_ ?_
  refine b7.go Z Z (fun E=>S.idxPb Z Z Z (by simpa only [List.length_set] using n7 ha16) Z Z .N) ?_
  refine b7.skip Z (b7.skip Z (b7.nil))
  refine c9.cons Z Z ?_ ?_
  refine b7.go Z Z (fun E=>S.loadP ha16 Z Z Z Z .N) ?_
  refine b7.skip Z (b7.skip Z (b7.nil))
  refine c9.cons Z Z ?_ ?_
  refine b7.go Z Z (fun E=>S.idxPb Z Z Z (by simpa only [List.length_set] using n7 ha16) Z Z .N) ?_
  refine b7.skip Z (b7.skip Z (b7.nil))
  refine c9.skip Z ?_
  refine c9.cons Z Z ?_ ?_
  refine b7.skip Z ?_
  refine b7.go Z Z (fun E=>S.idxPb Z Z (by simp only [List.length_set]) (by simpa only [List.length_set] using n7 ha12) Z Z .N) ?_
  refine b7.skip Z (b7.nil)
  refine c9.skip Z (c9.nil)
 dsimp only [j9]
 refine b6 ?_
 obtain ⟨ha57,hha57,ha58,hha58,en59,hen59,h⟩:=b3 h
 obtain ⟨en60,hen60,h⟩:=bind_some h
 refine AWP.drawEI [12,15] mixed Z Z Z ?_
 refine d6.consN Z Z (fun E=>AOps.j Z Z .N) Z (.consN Z Z (fun E=>AOps.j Z Z .N) Z (.consN Z Z (fun E=>S.idxPb Z Z (by simp only [List.length_set]) (by simpa only [List.length_set] using n7 ha16) Z Z .N) Z (.consN Z Z (fun E=>S.loadP hha57 Z Z Z Z .N) Z (.consN Z Z (fun E=>AOps.j Z Z .N) Z (.consN Z Z (fun E=>AOps.j Z Z .N) Z (.consN Z Z (fun E=>S.idxPb Z Z (by simp only [List.length_set]) (by simpa only [List.length_set] using n7 ha12) Z Z .N) Z (.consN Z Z (fun E=>S.loadP hha58 Z Z Z Z .N) Z (.consN Z Z (fun E=>AOps.j Z Z .N) Z (.consN Z Z (fun E=>AOps.j Z Z .N) Z (.consN Z Z (fun E=>S.nilCheckE Z Z (by simpa only [List.length_set] using h9 hen59) Z .N) Z (.consN Z Z (fun E=>S.fieldE Z Z Z (by simpa only [List.length_set] using h9 hen59) Z .N) Z ?_)))))))))))
 apply d6.consE (v:=.undef); exact Z; exact Z; intro E
 refine S.storeE (e':=(⟨en59.item,en59.key,en59.time,iv⟩:c8)) hen59 Z Z Z Z Z Z .N
 exact Z
 exact Z
 refine d6.consN Z Z (fun E=>S.nilCheckE Z Z (by simpa only [List.length_set] using h9 hen60) Z .N) Z (.consN Z Z (fun E=>S.fieldE Z Z Z (by simpa only [List.length_set] using h9 hen60) Z .N) Z ?_)
 apply d6.consE (v:=.undef); exact Z; exact Z; intro E
 refine S.storeE (e':=(⟨en60.item,en60.key,en60.time,kv⟩:c8)) hen60 Z Z Z Z Z Z .N
 exact Z
 exact Z
 refine d6.done Z ?_ ?_
 ·refine c9.cons Z Z ?_ ?_
  refine b7.go Z Z (fun E=>AOps.j Z Z .N) ?_
  refine b7.skip Z (b7.skip Z (b7.nil))
  refine c9.cons Z Z ?_ ?_
  refine b7.go Z Z (fun E=>AOps.j Z Z .N) ?_
  refine b7.skip Z (b7.skip Z (b7.nil))
  refine c9.cons Z Z ?_ ?_
  refine b7.go Z Z (fun E=>S.idxPb Z Z (by simp only [List.length_set]) (by simpa only [List.length_set] using n7 ha16) Z Z .N) ?_
  refine b7.skip Z (b7.skip Z (b7.nil))
  refine c9.cons Z Z ?_ ?_
  refine b7.go Z Z (fun E=>S.loadP hha57 Z Z Z Z .N) ?_
  refine b7.skip Z (b7.skip Z (b7.nil))
  refine c9.cons Z Z ?_ ?_
  refine b7.go Z Z (fun E=>AOps.j Z Z .N) ?_
  refine b7.skip Z (b7.skip Z (b7.nil))
  refine c9.cons Z Z ?_ ?_
  refine b7.go Z Z (fun E=>AOps.j Z Z .N) ?_
  refine b7.skip Z (b7.skip Z (b7.nil))
  refine c9.cons Z Z ?_ ?_
  refine b7.go Z Z (fun E=>S.idxPb Z Z (by simp only [List.length_set]) (by simpa only [List.length_set] using n7 ha12) Z Z .N) ?_
  refine b7.skip Z (b7.skip Z (b7.nil))
  refine c9.cons Z Z ?_ ?_
  refine b7.go Z Z (fun E=>S.loadP hha58 Z Z Z Z .N) ?_
  refine b7.skip Z (b7.skip Z (b7.nil))
  refine c9.cons Z Z ?_ ?_
  refine b7.go Z Z (fun E=>AOps.j Z Z .N) ?_
  refine b7.skip Z (b7.skip Z (b7.nil))
  refine c9.cons Z Z ?_ ?_
  refine b7.go Z Z (fun E=>AOps.j Z Z .N) ?_
  refine b7.go Z Z (fun E=>AOps.j Z Z .N) ?_
  refine b7.skip Z (b7.nil)
  refine c9.cons Z Z ?_ ?_
  refine b7.go Z Z (fun E=>S.nilCheckE Z Z (by simpa only [List.length_set] using h9 hen59) Z .N) ?_
  refine b7.skip Z (b7.skip Z (b7.nil))
  refine c9.cons Z Z ?_ ?_
  refine b7.go Z Z (fun E=>S.fieldE Z Z Z (by simpa only [List.length_set] using h9 hen59) Z .N) ?_
  refine b7.skip Z (b7.skip Z (b7.nil))
  refine c9.skip Z ?_
  refine c9.cons Z Z ?_ ?_
  refine b7.skip Z ?_
  refine b7.go Z Z (fun E=>S.nilCheckE Z Z (by simpa only [List.length_set] using h9 hen60) Z .N) ?_
  refine b7.skip Z (b7.nil)
  refine c9.cons Z Z ?_ ?_
  refine b7.skip Z ?_
  refine b7.go Z Z (fun E=>S.fieldE Z Z Z (by simpa only [List.length_set] using h9 hen60) Z .N) ?_
  refine b7.skip Z (b7.nil)
  refine c9.skip Z (c9.nil)
 dsimp only [j9]
 obtain rfl:=oi h
 exact ⟨⟨[],[.one (prow 1 ((l.set iv.toNat a12).set kv.toNat a16)),pool 4 b9 ((l4.set ha57.toNat (⟨en59.item,en59.key,en59.time,iv⟩:c8)).set ha58.toNat (⟨en60.item,en60.key,en60.time,kv⟩:c8))]⟩,Sub.env trivial,Done.normal Z ⟨Z,Z⟩⟩
theorem al6{i01:Int}{nv:Int}{time:Int}{l:List Int}{l5:List (Int × Int)}{l6:List c8}{r:(List Int) × (List c8) × Bool}(h:y9 i01 nv time l l5 l6=some r):FnOk prog 138 [.c (.ifc 189 [.ptr 0 0 0] false),.c (int i01),.c (int nv)] (T4 i01 nv time l l5 l6) (fun tt ss=>tt=.c (bool r.2.2)∧ss=[.one (.cells 3 [[.own 1 0 r.1.length,.map 2,int time]]),.one (prow 3 r.1),.one (pmap 3 vU l5),pool 4 b9 r.2.1]):=by
 refine FnOk.enter (rs:=[.t 6]) func138 Z ntmps138 results138 Z ⟨trivial,Y⟩ (by kernel_rfl) Z ?_
 refine AWP.weak ?_
 unfold y9 at h
 refine AWP.q (.u (.v Z Z (.nil (b6 (.q (.u (.j Z Z (.v Z Z (.nil (b6 (.q (.J ?_))))))))))))
 obtain ⟨⟨c63,c64,iv65⟩,ho1,h⟩:=bind_some h
 try dsimp only at h
 refine AWP.loopS ho1 (fun (c60,c61,iv62)=>⟨[(0,.c (.ifc 189 [.ptr 0 0 0] false)),(1,.c (int i01)),(2,.c (int nv)),(7,.c (int iv62))],[.one (.cells 3 [[.own 1 0 c60.length,.map 2,int time]]),.one (prow 3 c60),.one (pmap 3 vU l5),pool 4 b9 c61]⟩) (fun (c63,c64,iv65) e st=>e=.exit 0∧Sub (T4 i01 nv time l l5 l6) st ⟨[(1,.c (int i01)),(7,.c (int iv65))],[.one (.cells 3 [[.own 1 0 c63.length,.map 2,int time]]),.one (prow 3 c63),.one (pmap 3 vU l5),pool 4 b9 c64]⟩) ?_ ?_ ?_
 ·try dsimp only
  exact Sub.env ⟨Z,Z,Z,Z,Y⟩
 ·intro s o h
  obtain ⟨c60,c61,iv62⟩:=s
  unfold v8 at h
  try dsimp only at h ⊢
  refine AWP.J (.q (.u (.j Z Z (S.mul Z Z Z (S.add Z Z Z (.v Z Z (.nil (b6 (.q (.seqJ (⟨[(0,.c (.ifc 189 [.ptr 0 0 0] false)),(1,.c (int i01)),(2,.c (int nv)),(7,.c (int iv62)),(8,.c (int (w64 ((w64 (2 * iv62))+1)))),(21,.c (bool ((decide (nv≤w64 ((w64 (2 * iv62))+1))) || (decide (w64 ((w64 (2 * iv62))+1)<0)))))],[.one (.cells 3 [[.own 1 0 c60.length,.map 2,int time]]),.one (prow 3 c60),.one (pmap 3 vU l5),pool 4 b9 c61]⟩) ?_ ?_))))))))))
  ·rcases bft (decide (nv≤w64 ((w64 (2 * iv62))+1))) with hb1 | hb1
   ·refine AWP.u (.j Z Z (.j Z Z (.geq Z Z Z (.j Z Z (.B Z Z Z hb1 (.B Z Z Z hb1 (.U Z hb1 Z Z (.nil (b6 ?_)))))))))
    simp only [Q6 hb1,or_t hb1,Bool.false_or,Bool.true_or,Bool.false_and,Bool.true_and]
    exact Sub.env ⟨Z,Z,Z,Z,Z,Z,Y⟩
   ·refine AWP.u (.j Z Z (.j Z Z (.geq Z Z Z (.j Z Z (.z Z Z Z hb1 (.j Z Z (.z Z Z Z hb1 (.F Z Z Z (.aa Z hb1 Z Z (.nil (b6 ?_)))))))))))
    simp only [N3 hb1,or_f hb1,Bool.false_or,Bool.true_or,Bool.false_and,Bool.true_and]
    exact Sub.env ⟨Z,Z,Z,Z,Z,Z,Y⟩
  ·refine AWP.ab Z h (fun hc66 h=> ?_) (fun hc66 h=> ?_)
   ·refine AWP.exit (e8 (S2 Z ?_))
    obtain rfl:=oi h
    refine e8 ⟨_,Z,Z, ?_⟩
    exact Sub.env ⟨Z,Z,Y⟩
   ·refine AWP.skip (b6 (.q (.u (.j Z Z (.v Z Z (.nil (b6 ?_)))))))
    obtain ⟨j67,hx68,h⟩:=bind_some h
    refine AWP.seqJ (⟨[(0,.c (.ifc 189 [.ptr 0 0 0] false)),(1,.c (int i01)),(2,.c (int nv)),(7,.c (int iv62)),(9,.c (int j67))],[.one (.cells 3 [[.own 1 0 c60.length,.map 2,int time]]),.one (prow 3 c60),.one (pmap 3 vU l5),pool 4 b9 c61]⟩) ?_ ?_
    ·refine AWP.q (.u (.j Z Z (S.add Z Z Z (.v Z Z (.nil (b6 ?_))))))
     obtain ⟨t69,hx70,hx68⟩:=bind_some hx68
     refine AWP.seqJ (⟨[(0,.c (.ifc 189 [.ptr 0 0 0] false)),(1,.c (int i01)),(2,.c (int nv)),(7,.c (int iv62)),(9,.c (int (w64 ((w64 (2 * iv62))+1)))),(10,.c (int (w64 ((w64 ((w64 (2 * iv62))+1))+1)))),(33,.c (bool t69))],[.one (.cells 3 [[.own 1 0 c60.length,.map 2,int time]]),.one (prow 3 c60),.one (pmap 3 vU l5),pool 4 b9 c61]⟩) ?_ ?_
     ·rcases bft (decide (w64 ((w64 ((w64 (2 * iv62))+1))+1)<nv)) with hb71 | hb71
      ·replace hx70:=P3 hb71 hx70
       obtain ⟨a32,ha32,hx70⟩:=bind_some hx70
       refine AWP.u (.j Z Z (.j Z Z (.F Z Z Z (.j Z Z (.z Z Z Z hb71 (.j Z Z (.z Z Z Z hb71 (.j Z Z (.z Z Z Z hb71 (.j Z Z (.z Z Z Z hb71 (S.invokeV (r2:=.c (bool a32)) (σ'':=[.one (.cells 3 [[.own 1 0 c60.length,.map 2,int time]]),.one (prow 3 c60),.one (pmap 3 vU l5),pool 4 b9 c61]) Z Z Z Z Z Z Z (FnOk.lend [1,3] (x7 ha32) Z Z Z Z Z Z (by exact ⟨(.one (i6 Z)),(.any l7),Y⟩) Z (by exact ⟨(.live Z (.one (i4 fun _=>Z))),(.live Z RenE.pool),Y⟩) Z Z (by exact ⟨(.old Z Z Z),(.new 0 Z Z (.one (i4 fun _=>Z))),(.old Z Z Z),(.new 1 Z Z RenE.pool),Y⟩)) (.U Z hb71 Z Z (.nil ?_))))))))))))))
       obtain rfl:=oi hx70
       refine b6 (Sub.env ⟨Z,Z,Z,Z,Z,Z,Z,Y⟩)
      ·replace hx70:=P2 hb71 hx70
       refine AWP.u (.j Z Z (.j Z Z (.F Z Z Z (.j Z Z (.B Z Z Z hb71 (.B Z Z Z hb71 (.B Z Z Z hb71 (.B Z Z Z hb71 (.aa Z hb71 Z Z (.nil ?_))))))))))
       obtain rfl:=oi hx70
       refine b6 (Sub.env ⟨Z,Z,Z,Z,Z,Z,Z,Y⟩)
     ·refine AWP.ab Z hx68 (fun hc72 hx68=> ?_) (fun hc72 hx68=> ?_)
      ·refine AWP.u (.j Z Z (.v Z Z (.nil ?_)))
       obtain rfl:=oi hx68
       refine b6 (Sub.env ⟨Z,Z,Z,Z,Z,Y⟩)
      ·refine AWP.skip ?_
       obtain rfl:=oi hx68
       refine b6 (Sub.env ⟨Z,Z,Z,Z,Z,Y⟩)
    ·refine AWP.q (.q ?_)
     obtain ⟨a38,ha38,h⟩:=bind_some h
     refine AWP.u (.j Z Z (.j Z Z (.j Z Z (S.invokeV (r2:=.c (bool a38)) (σ'':=[.one (.cells 3 [[.own 1 0 c60.length,.map 2,int time]]),.one (prow 3 c60),.one (pmap 3 vU l5),pool 4 b9 c61]) Z Z Z Z Z Z Z (FnOk.lend [1,3] (x7 ha38) Z Z Z Z Z Z (by exact ⟨(.one (i6 Z)),(.any l7),Y⟩) Z (by exact ⟨(.live Z (.one (i4 fun _=>Z))),(.live Z RenE.pool),Y⟩) Z Z (by exact ⟨(.old Z Z Z),(.new 0 Z Z (.one (i4 fun _=>Z))),(.old Z Z Z),(.new 1 Z Z RenE.pool),Y⟩)) (.not Z Z (.nil (b6 (.ab Z h (fun hc73 h=> ?_) (fun hc73 h=> ?_)))))))))
     ·refine AWP.exit (e8 (S2 Z ?_))
      obtain rfl:=oi h
      refine e8 ⟨_,Z,Z, ?_⟩
      exact Sub.env ⟨Z,Z,Y⟩
     ·refine AWP.skip (b6 (.q ?_))
      obtain ⟨a43,ha43,u74,hu74,h⟩:=b2 h
      refine AWP.u (.j Z Z (.j Z Z (.j Z Z (S.invokeV (r2:=.tup []) (σ'':=[.one (.cells 3 [[.own 1 0 c60.length,.map 2,int time]]),.one (prow 3 a43.1),.one (pmap 3 vU l5),pool 4 b9 a43.2]) Z Z Z Z Z Z Z (FnOk.lend [1,3] (M0 ha43) Z Z Z Z Z Z (by exact ⟨(.one (i6 Z)),(.any l7),Y⟩) Z (by exact ⟨(.live Z (.one (i4 fun _=>Z))),(.live Z RenE.pool),Y⟩) Z Z (by exact ⟨(.old Z Z Z),(.new 0 Z Z (.one (i4 fun _=>Z))),(.old Z Z Z),(.new 1 Z Z RenE.pool),Y⟩)) (.nil (b6 (.u (.j Z Z (.v Z Z (.nil (e9 ?_)))))))))))
      obtain rfl:=oi h
      refine b6 ⟨_,Z, ?_⟩
      exact Sub.cut ⟨Z,Z,Z,Z,Y⟩ Z ⟨(.eq Z (by first | rfl | rw [(aj0 hu74)] | (simp only [List.length_set]; done))),(.one (i6 Z)),(.one (j8 Z)),(.any l7),Y⟩ Z
 ·intro e s hq
  obtain ⟨rfl,hs⟩:=hq
  refine ⟨_,hs, ?_⟩
  refine j5 (b6 (.q (.u (.j Z Z (.j Z Z (.gtr Z Z Z (.v Z Z (.nil (b6 (.ret ?_))))))))))
  obtain rfl:=oi h
  exact ⟨⟨[(6,.c (bool (decide (i01<iv65))))],[.one (.cells 3 [[.own 1 0 c63.length,.map 2,int time]]),.one (prow 3 c63),.one (pmap 3 vU l5),pool 4 b9 c64]⟩,Sub.env ⟨Z,Y⟩,Done.ret Z ⟨Z,Z⟩⟩
theorem X6{j:Int}{time:Int}{l:List Int}{l4:List (Int × Int)}{l5:List c8}{r:(List Int) × (List c8)}(h:C1 j time l l4 l5=some r):FnOk prog 139 [.c (.ifc 189 [.ptr 0 0 0] false),.c (int j)] (W5 j time l l4 l5) (fun tt ss=>tt=.tup []∧ss=[.one (.cells 3 [[.own 1 0 r.1.length,.map 2,int time]]),.one (prow 3 r.1),.one (pmap 3 vU l4),pool 4 b9 r.2]):=by
 refine FnOk.enter (rs:=[]) func139 Z ntmps139 results139 Z trivial (by kernel_rfl) Z ?_
 refine AWP.weak ?_
 unfold C1 at h
 refine AWP.J ?_
 obtain ⟨⟨c61,c62⟩,ho1,h⟩:=bind_some h
 try dsimp only at h
 refine AWP.loopS ho1 (fun (c58,c59,j60)=>⟨[(0,.c (.ifc 189 [.ptr 0 0 0] false)),(1,.c (int j60))],[.one (.cells 3 [[.own 1 0 c58.length,.map 2,int time]]),.one (prow 3 c58),.one (pmap 3 vU l4),pool 4 b9 c59]⟩) (fun (c61,c62) e st=>e=.exit 0∧Sub (W5 j time l l4 l5) st ⟨[],[.one (.cells 3 [[.own 1 0 c61.length,.map 2,int time]]),.one (prow 3 c61),.one (pmap 3 vU l4),pool 4 b9 c62]⟩) ?_ ?_ ?_
 ·try dsimp only
  exact Sub.env ⟨Z,Z,Y⟩
 ·intro s o h
  obtain ⟨c58,c59,j60⟩:=s
  unfold G6 at h
  try dsimp only at h ⊢
  refine AWP.J (.q ?_)
  obtain ⟨u7,hu7,h⟩:=bind_some h
  refine AWP.u (.j Z Z (S.sub Z Z Z (S.quo hu7 Z Z Z (.v Z Z (.nil (b6 (.q ?_)))))))
  obtain ⟨t63,hx64,h⟩:=bind_some h
  refine AWP.seqJ (⟨[(0,.c (.ifc 189 [.ptr 0 0 0] false)),(1,.c (int j60)),(4,.c (int (w64 ((w64 (j60 - 1)).tdiv 2)))),(17,.c (bool t63))],[.one (.cells 3 [[.own 1 0 c58.length,.map 2,int time]]),.one (prow 3 c58),.one (pmap 3 vU l4),pool 4 b9 c59]⟩) ?_ ?_
  ·rcases bft (decide (w64 ((w64 (j60 - 1)).tdiv 2)=j60)) with hb65 | hb65
   ·replace hx64:=P3 hb65 hx64
    refine AWP.u (.j Z Z (.j Z Z (.eql Z Z Z (.j Z Z (.B Z Z Z hb65 (.B Z Z Z hb65 (.B Z Z Z hb65 (.B Z Z Z hb65 (.B Z Z Z hb65 (.U Z hb65 Z Z (.nil ?_)))))))))))
    obtain rfl:=oi hx64
    refine b6 (Sub.env ⟨Z,Z,Z,Z,Y⟩)
   ·replace hx64:=P2 hb65 hx64
    obtain ⟨a15,ha15,hx64⟩:=bind_some hx64
    refine AWP.u (.j Z Z (.j Z Z (.eql Z Z Z (.j Z Z (.z Z Z Z hb65 (.j Z Z (.z Z Z Z hb65 (.j Z Z (.z Z Z Z hb65 (.j Z Z (.z Z Z Z hb65 (S.invokeV (r2:=.c (bool a15)) (σ'':=[.one (.cells 3 [[.own 1 0 c58.length,.map 2,int time]]),.one (prow 3 c58),.one (pmap 3 vU l4),pool 4 b9 c59]) Z Z Z Z Z Z Z (FnOk.lend [1,3] (x7 ha15) Z Z Z Z Z Z (by exact ⟨(.one (i6 Z)),(.any l7),Y⟩) Z (by exact ⟨(.live Z (.one (i4 fun _=>Z))),(.live Z RenE.pool),Y⟩) Z Z (by exact ⟨(.old Z Z Z),(.new 0 Z Z (.one (i4 fun _=>Z))),(.old Z Z Z),(.new 1 Z Z RenE.pool),Y⟩)) (.z Z Z Z hb65 (.not Z Z (.aa Z hb65 Z Z (.nil ?_))))))))))))))))
    obtain rfl:=oi hx64
    refine b6 (Sub.env ⟨Z,Z,Z,Z,Y⟩)
  ·refine AWP.ab Z h (fun hc66 h=> ?_) (fun hc66 h=> ?_)
   ·refine AWP.exit (e8 (S2 Z ?_))
    obtain rfl:=oi h
    refine e8 ⟨_,Z,Z, ?_⟩
    exact Sub.env trivial
   ·refine AWP.skip (b6 (.q ?_))
    obtain ⟨a21,ha21,u67,hu67,h⟩:=b2 h
    refine AWP.u (.j Z Z (.j Z Z (.j Z Z (S.invokeV (r2:=.tup []) (σ'':=[.one (.cells 3 [[.own 1 0 c58.length,.map 2,int time]]),.one (prow 3 a21.1),.one (pmap 3 vU l4),pool 4 b9 a21.2]) Z Z Z Z Z Z Z (FnOk.lend [1,3] (M0 ha21) Z Z Z Z Z Z (by exact ⟨(.one (i6 Z)),(.any l7),Y⟩) Z (by exact ⟨(.live Z (.one (i4 fun _=>Z))),(.live Z RenE.pool),Y⟩) Z Z (by exact ⟨(.old Z Z Z),(.new 0 Z Z (.one (i4 fun _=>Z))),(.old Z Z Z),(.new 1 Z Z RenE.pool),Y⟩)) (.nil (b6 (.u (.j Z Z (.v Z Z (.nil (e9 ?_)))))))))))
    obtain rfl:=oi h
    refine b6 ⟨_,Z, ?_⟩
    exact Sub.cut ⟨Z,Z,Y⟩ Z ⟨(.eq Z (by first | rfl | rw [(aj0 hu67)] | (simp only [List.length_set]; done))),(.one (i6 Z)),(.one (j8 Z)),(.any l7),Y⟩ Z
 ·intro e s hq
  obtain ⟨rfl,hs⟩:=hq
  refine ⟨_,hs, ?_⟩
  refine j5 ?_
  obtain rfl:=oi h
  exact ⟨⟨[],[.one (.cells 3 [[.own 1 0 c61.length,.map 2,int time]]),.one (prow 3 c61),.one (pmap 3 vU l4),pool 4 b9 c62]⟩,Sub.env trivial,Done.normal Z ⟨Z,Z⟩⟩
theorem W1{iv:Int}{time:Int}{l:List Int}{l4:List (Int × Int)}{l5:List c8}{r:(List Int) × (List c8)}(h:B3 iv time l l4 l5=some r):FnOk prog 104 [.c (.ifc 189 [.ptr 0 0 0] false),.c (int iv)] (am4 iv time l l4 l5) (fun tt ss=>tt=.tup []∧ss=[.one (.cells 3 [[.own 1 0 r.1.length,.map 2,int time]]),.one (prow 3 r.1),.one (pmap 3 vU l4),pool 4 b9 r.2]):=by
 refine FnOk.enter (rs:=[]) func104 Z ntmps104 results104 Z trivial (by kernel_rfl) Z ?_
 refine AWP.weak ?_
 unfold B3 at h
 refine AWP.q ?_
 obtain ⟨a7,ha7,a8,ha8,h⟩:=b2 h
 refine AWP.u (.j Z Z (.j Z Z (.j Z Z (S.invokeV (r2:=.c (int (l.length:Int))) (σ'':=[.one (.cells 3 [[.own 1 0 l.length,.map 2,int time]]),.one (prow 3 l),.one (pmap 3 vU l4),pool 4 b9 l5]) Z Z Z Z Z Z Z (FnOk.lend [1,3] (D7 ha7) Z Z Z Z Z Z (by exact ⟨(.one (i6 Z)),(.any l7),Y⟩) Z (by exact ⟨(.live Z (.one (i4 fun _=>Z))),(.live Z RenE.pool),Y⟩) Z Z (by exact ⟨(.old Z Z Z),(.new 0 Z Z (.one (i4 fun _=>Z))),(.old Z Z Z),(.new 1 Z Z RenE.pool),Y⟩)) (.callF (r2:=.c (bool a8.2.2)) (σ'':=[.one (.cells 3 [[.own 1 0 a8.1.length,.map 2,int time]]),.one (prow 3 a8.1),.one (pmap 3 vU l4),pool 4 b9 a8.2.1]) Z Z Z (FnOk.lend [0,1,2,3] (al6 ha8) Z Z Z Z Z Z (by exact ⟨(.one Z),(.one (i6 Z)),(.one (j8 Z)),(.any l7),Y⟩) Z (by exact ⟨(.live Z (.one Z)),(.live Z (.one (i4 fun _=>Z))),(.live Z (.one (k8 fun _=>Z))),(.live Z RenE.pool),Y⟩) Z Z (by exact ⟨(.new 0 Z Z (.one Z)),(.new 1 Z Z (.one (i4 fun _=>Z))),(.new 2 Z Z (.one (k8 fun _=>Z))),(.new 3 Z Z RenE.pool),Y⟩)) (.not Z Z (.nil (b6 (.ab Z h (fun hc58 h=> ?_) (fun hc58 h=> ?_))))))))))
 ·obtain ⟨a12,ha12,h⟩:=bind_some h
  refine AWP.u (.j Z Z (.j Z Z (.callF (r2:=.tup []) (σ'':=[.one (.cells 3 [[.own 1 0 a12.1.length,.map 2,int time]]),.one (prow 3 a12.1),.one (pmap 3 vU l4),pool 4 b9 a12.2]) Z Z Z (FnOk.lend [0,1,2,3] (X6 ha12) Z Z Z Z Z Z (by exact ⟨(.one Z),(.one (i6 Z)),(.one (j8 Z)),(.any l7),Y⟩) Z (by exact ⟨(.live Z (.one Z)),(.live Z (.one (i4 fun _=>Z))),(.live Z (.one (k8 fun _=>Z))),(.live Z RenE.pool),Y⟩) Z Z (by exact ⟨(.new 0 Z Z (.one Z)),(.new 1 Z Z (.one (i4 fun _=>Z))),(.new 2 Z Z (.one (k8 fun _=>Z))),(.new 3 Z Z RenE.pool),Y⟩)) (.nil ?_))))
  obtain rfl:=oi h
  exact ⟨⟨[],[.one (.cells 3 [[.own 1 0 a12.1.length,.map 2,int time]]),.one (prow 3 a12.1),.one (pmap 3 vU l4),pool 4 b9 a12.2]⟩,Sub.env trivial,Done.normal Z ⟨Z,Z⟩⟩
 ·refine AWP.skip ?_
  obtain rfl:=oi h
  exact ⟨⟨[],[.one (.cells 3 [[.own 1 0 a8.1.length,.map 2,int time]]),.one (prow 3 a8.1),.one (pmap 3 vU l4),pool 4 b9 a8.2.1]⟩,Sub.env trivial,Done.normal Z ⟨Z,Z⟩⟩
theorem aa0{xv:Int}{time:Int}{l:List c8}{l4:List Int}{l5:List (Int × Int)}{r:(List c8) × (List Int)}(h:z7 xv time l l4 l5=some r):FnOk prog 207 [.c (.ptr 0 0 0),.c (.ifc 184 [.ptr (1,[xv.toNat]) 0 0] false)] (aa6 xv time l l4 l5) (fun tt ss=>tt=.tup []∧ss=[.one (.cells 3 [[.own 6 0 r.2.length,.map 3,int time]]),pool 4 b9 r.1,.dead,.one (pmap 1 vU l5),.dead,.dead,.one (prow 1 r.2)]):=by
 refine FnOk.enter (rs:=[]) func207 Z ntmps207 results207 Z trivial (by kernel_rfl) Z ?_
 refine AWP.weak ?_
 unfold z7 at h
 refine AWP.j (env':=[(0,.c (.ptr 0 0 0)),(1,.c (.ifc 184 [.ptr (1,[xv.toNat]) 0 0] false))]) (σ':=[.one (.cells 3 [[.own 4 0 l4.length,.map 3,int time]]),pool 4 b9 l,.dead,.one (pmap 1 vU l5),.one (prow 1 l4)]) 4 2 Z Z Z ⟨Z,Z,Y⟩ Z ⟨⟨Z,Z⟩,(r9.pool Z),trivial,⟨j8 Z,w9 Z K1⟩,⟨i6 Z,w9 Z K3⟩,Y⟩ (.q (.u (.j Z Z (S.assert Z Z Z (.v Z Z (.nil (b6 (.q ?_))))))))
 obtain ⟨en58,hen58,h⟩:=bind_some h
 refine AWP.u (.j Z Z (.j Z Z (.ag Z Z Z (.E Z Z Z Z Z Z (.lenOwnB Z Z Z (fun hl11=>S.nilCheckE Z Z (by simpa only [List.length_set] using h9 hen58) Z (S.fieldE Z Z Z (by simpa only [List.length_set] using h9 hen58) Z (S.storeE (e':=(⟨en58.item,en58.key,en58.time,(l4.length:Int)⟩:c8)) hen58 Z Z Z Z Z Z (.nil (b6 ?_))))))))))
 obtain ⟨a20,ha20,h⟩:=bind_some h
 refine AWP.u (.j Z Z (.j Z Z (.ag Z Z Z (.E Z Z Z Z Z Z (.j Z Z (W.lit1 Z Z Z Z Z Z Z Z Z (S.appendP ha20 Z Z Z Z Z Z Z Z Z Z Z Z (.ag Z Z Z (W.store Z Z Z Z Z (.nil ?_))))))))))
 obtain rfl:=oi h
 exact ⟨⟨[],[.one (.cells 3 [[.own 6 0 a20.length,.map 3,int time]]),pool 4 b9 (l.set xv.toNat (⟨en58.item,en58.key,en58.time,(l4.length:Int)⟩:c8)),.dead,.one (pmap 1 vU l5),.dead,.dead,.one (prow 1 a20)]⟩,Sub.cut trivial Z ⟨.one Z,(.any l7),.dead,(.one (j8 Z)),.dead,.dead,(.one (i6 Z)),Y⟩ Z,Done.normal Z ⟨Z,Z⟩⟩
theorem T8{xv:Int}{time:Int}{l:List c8}{l4:List Int}{l5:List (Int × Int)}{r:(List c8) × (List Int)}(h:z2 xv time l l4 l5=some r):FnOk prog 105 [.c (.ifc 189 [.ptr 0 0 0] false),.c (.ifc 184 [.ptr (1,[xv.toNat]) 0 0] false)] (al0 xv time l l4 l5) (fun tt ss=>tt=.tup []∧ss=[.one (.cells 3 [[.own 6 0 r.2.length,.map 3,int time]]),pool 4 b9 r.1,.dead,.one (pmap 1 vU l5),.dead,.dead,.one (prow 1 r.2)]):=by
 refine FnOk.enter (rs:=[]) func105 Z ntmps105 results105 Z trivial (by kernel_rfl) Z ?_
 refine AWP.weak ?_
 unfold z2 at h
 refine AWP.q ?_
 obtain ⟨a6,ha6,h⟩:=bind_some h
 refine AWP.u (.j Z Z (.j Z Z (S.invokeP (r2:=.tup []) (σ'':=[.one (.cells 3 [[.own 6 0 a6.2.length,.map 3,int time]]),pool 4 b9 a6.1,.dead,.one (pmap 1 vU l5),.dead,.dead,.one (prow 1 a6.2)]) Z Z Z (FnOk.lend [0,1,2,3] (aa0 ha6) Z Z Z Z Z Z (by exact ⟨(.one Z),(.any l7),(.one (i6 Z)),(.one (j8 Z)),Y⟩) Z (by exact ⟨(.live Z (.one Z)),(.live Z RenE.pool),(.live Z (.one (i4 fun _=>Z))),(.live Z (.one (k8 fun _=>Z))),Y⟩) Z Z (by exact ⟨(.new 0 Z Z (.one Z)),(.new 1 Z Z RenE.pool),.dead,(.new 3 Z Z (.one (k8 fun _=>Z))),.dead,.dead,(.new 6 Z Z (.one (i4 fun _=>Z))),Y⟩)) (.nil (b6 ?_)))))
 obtain ⟨a9,ha9,a11,ha11,h⟩:=b2 h
 refine AWP.u (.j Z Z (.j Z Z (S.invokeV (r2:=.c (int (a6.2.length:Int))) (σ'':=[.one (.cells 3 [[.own 6 0 a6.2.length,.map 3,int time]]),pool 4 b9 a6.1,.dead,.one (pmap 1 vU l5),.dead,.dead,.one (prow 1 a6.2)]) Z Z Z Z Z Z Z (FnOk.lend [6,1] (D7 ha9) Z Z Z Z Z Z (by exact ⟨(.one (i6 Z)),(.any l7),Y⟩) Z (by exact ⟨(.live Z (.one (i4 fun _=>Z))),(.live Z RenE.pool),Y⟩) Z Z (by exact ⟨(.old Z Z Z),(.new 1 Z Z RenE.pool),.dead,(.old Z Z Z),.dead,.dead,(.new 0 Z Z (.one (i4 fun _=>Z))),Y⟩)) (S.sub Z Z Z (.callF (r2:=.tup []) (σ'':=[.one (.cells 3 [[.own 6 0 a11.1.length,.map 3,int time]]),pool 4 b9 a11.2,.dead,.one (pmap 1 vU l5),.dead,.dead,.one (prow 1 a11.1)]) Z Z Z (FnOk.lend [0,6,3,1] (X6 ha11) Z Z Z Z Z Z (by exact ⟨(.one Z),(.one (i6 Z)),(.one (j8 Z)),(.any l7),Y⟩) Z (by exact ⟨(.live Z (.one Z)),(.live Z (.one (i4 fun _=>Z))),(.live Z (.one (k8 fun _=>Z))),(.live Z RenE.pool),Y⟩) Z Z (by exact ⟨(.new 0 Z Z (.one Z)),(.new 3 Z Z RenE.pool),.dead,(.new 2 Z Z (.one (k8 fun _=>Z))),.dead,.dead,(.new 1 Z Z (.one (i4 fun _=>Z))),Y⟩)) (.nil ?_))))))
 obtain rfl:=oi h
 exact ⟨⟨[],[.one (.cells 3 [[.own 6 0 a11.1.length,.map 3,int time]]),pool 4 b9 a11.2,.dead,.one (pmap 1 vU l5),.dead,.dead,.one (prow 1 a11.1)]⟩,Sub.env trivial,Done.normal Z ⟨Z,Z⟩⟩
theorem ac7{item:Int}{key:Int}{time:Int}{l:List Int}{l5:List (Int × Int)}{l6:List c8}{r:(List (Int × Int)) × (List Int) × (List c8)}(h:p8 item key time l l5 l6=some r):FnOk prog 66 [.c (.ptr 0 0 0),.c (.imm (.val (.int .u32 item))),.c (int key)] (ad2 item key time l l5 l6) (fun tt ss=>tt=.tup []∧ss=[.one (.cells 3 [[.own 4 0 r.2.1.length,.map 2,int (w64 (time+1))]]),.dead,.one (pmap 5 vU r.1),.dead,.one (prow 5 r.2.1),pool 4 b9 r.2.2]):=by
 refine FnOk.enter (rs:=[]) func66 Z ntmps66 results66 Z trivial (by kernel_rfl) Z ?_
 refine AWP.weak ?_
 unfold p8 at h
 refine AWP.j (env':=[(0,.c (.ptr 0 0 0)),(1,.c (.imm (.val (.int .u32 item)))),(2,.c (int key))]) (σ':=[.one (.cells 3 [[.own 4 0 l.length,.map 2,int time]]),.dead,.one (pmap 3 vU l5),pool 4 b9 l6,.one (prow 3 l)]) 4 1 Z Z Z ⟨Z,Z,Z,Y⟩ Z ⟨⟨Z,Z⟩,trivial,⟨j8 Z,w9 Z K1⟩,(r9.pool Z),⟨i6 Z,w9 Z K3⟩,Y⟩ (.moveM (env':=[(0,.c (.ptr 0 0 0)),(1,.c (.imm (.val (.int .u32 item)))),(2,.c (int key))]) (σ':=[.one (.cells 3 [[.own 4 0 l.length,.map 2,int time]]),.dead,.one (pmap 5 vU l5),.dead,.one (prow 5 l),pool 4 b9 l6]) 5 3 Z Z Z ⟨Z,Z,Z,Y⟩ Z ⟨(.one Z Z),.dead,(.one (j8 Z) (F0 Z Z (k8 fun _=>Z))),.dead,(.one (i6 Z) (F0 Z Z (i4 fun _=>Z))),(EntR.pool Z Z),Y⟩ ?_)
 refine AWP.q (.u (.j Z Z (.ag Z Z Z (W.fieldAddr Z Z Z Z (.E Z Z Z Z Z Z (S.add Z Z Z (.ag Z Z Z (W.fieldAddr Z Z Z Z (W.store Z Z Z Z Z (.nil (b6 (.q (.q (.u (.j Z Z (.ag Z Z Z (W.fieldAddr Z Z Z Z (.E Z Z Z Z Z Z (.j Z Z (S.lookupOkP (fk:=vU) (k:=item) G0 Z Z Z Z Z (.j Z Z (.ac Z Z Z (.ac Z Z Z (.v Z Z (.v Z Z (.nil (b6 (.q (.u (.j Z Z (.nil (b6 (.ab Z h (fun hc60 h=> ?_) (fun hc60 h=> ?_))))))))))))))))))))))))))))))))))
 ·obtain ⟨ap61,hap61,h⟩:=bind_some h
  refine AWP.sub (s':=⟨[(0,.c (.ptr 0 0 0)),(1,.c (.imm (.val (.int .u32 item)))),(2,.c (int key)),(6,.c (.ptr (5,[ap61.toNat]) 0 0)),(7,.c (bool (Option.isSome (mget l5 item)))),(9,.c (.ptr 0 0 0)),(10,.c (.ptr 0 0 0)),(11,.c (.ptr 0 0 2)),(12,.c (int time)),(13,.c (int (w64 (time+1)))),(14,.c (.ptr 0 0 0)),(15,.c (.ptr 0 0 2)),(17,.c (.ptr 0 0 0)),(18,.c (.ptr 0 0 0)),(19,.c (.ptr 0 0 1)),(20,.c (.map 2)),(21,.c (.imm (.val (.int .u32 item)))),(23,.c (.ptr (5,[ap61.toNat]) 0 0)),(24,.c (bool (Option.isSome (mget l5 item)))),(25,.c (bool (Option.isSome (mget l5 item))))],[.one (.cells 3 [[.own 4 0 l.length,.map 2,int (w64 (time+1))]]),.dead,.one (pmap 5 vU l5),.dead,.one (prow 5 l),pool 4 b9 l6]⟩) (Sub.env ⟨Z,Z,Z,(am8 hap61),Z,Z,Z,Z,Z,Z,Z,Z,Z,Z,Z,Z,Z,(am8 hap61),Z,Z,Y⟩) (.q ?_)
  obtain ⟨en62,hen62,h⟩:=bind_some h
  refine AWP.u (.j Z Z (.j Z Z (.j Z Z (.j Z Z (.ag Z Z Z (W.fieldAddr Z Z Z Z (.E Z Z Z Z Z Z (S.nilCheckE Z Z (by simpa only [List.length_set] using h9 hen62) Z (S.fieldE Z Z Z (by simpa only [List.length_set] using h9 hen62) Z (S.storeE (e':=(⟨en62.item,key,en62.time,en62.fat⟩:c8)) hen62 Z Z Z Z Z Z (S.nilCheckE Z Z (by simpa only [List.length_set] using h9 hen62) Z (S.fieldE Z Z Z (by simpa only [List.length_set] using h9 hen62) Z (S.storeE (e':=(⟨en62.item,key,w64 (time+1),en62.fat⟩:c8)) (X1 hen62) Z Z Z Z Z Z (.nil (b6 (.q ?_))))))))))))))))
  obtain ⟨a45,ha45,h⟩:=bind_some h
  refine AWP.drawEI [8] mixed Z Z Z ?_
  refine d6.consN Z Z (fun E=>AOps.j Z Z .N) Z (.consN Z Z (fun E=>AOps.ag Z Z Z .N) Z (.consN Z Z (fun E=>W.fieldAddr Z Z Z Z .N) Z (.consN Z Z (fun E=>S.mkIfc Z Z Z .N) Z (.consN Z Z (fun E=>AOps.j Z Z .N) Z (.consN Z Z (fun E=>S.nilCheckE Z Z (by simpa only [List.length_set] using h9 hen62) Z .N) Z (.consN Z Z (fun E=>S.fieldE Z Z Z (by simpa only [List.length_set] using h9 hen62) Z .N) Z (.consN Z Z (fun E=>AOps.E Z Z (n9 Z (X1 (X1 hen62))) Z Z Z .N) Z ?_)))))))
  apply d6.consE; exact Z; exact Z; intro E
  refine AOps.callF (r2:=.tup []) (σ'':=[.one (.cells 3 [[.own 4 0 a45.1.length,.map 2,int (w64 (time+1))]]),.dead,.one (pmap 5 vU l5),.dead,.one (prow 5 a45.1),pool 4 b9 a45.2]) Z Z Z (FnOk.lend [0,4,2,5] (W1 ha45) Z Z Z Z Z Z (by exact ⟨(.one Z),(.one (i6 Z)),(.one (j8 Z)),(.any l7),Y⟩) Z (by exact ⟨(.live Z (.one Z)),(.live Z (.one (i4 fun _=>Z))),(.live Z (.one (k8 fun _=>Z))),(.live Z RenE.pool),Y⟩) Z Z (by exact ⟨(.new 0 Z Z (.one Z)),.dead,(.new 2 Z Z (.one (k8 fun _=>Z))),.dead,(.new 1 Z Z (.one (i4 fun _=>Z))),(.new 3 Z Z RenE.pool),Y⟩)) .N
  exact Z
  exact Z
  refine d6.done Z ?_ ?_
  ·refine c9.cons Z Z ?_ ?_
   refine b7.go Z Z (fun E=>AOps.j Z Z .N) ?_
   refine b7.skip Z (b7.nil)
   refine c9.cons Z Z ?_ ?_
   refine b7.go Z Z (fun E=>AOps.ag Z Z Z .N) ?_
   refine b7.skip Z (b7.nil)
   refine c9.cons Z Z ?_ ?_
   refine b7.go Z Z (fun E=>W.fieldAddr Z Z Z Z .N) ?_
   refine b7.skip Z (b7.nil)
   refine c9.cons Z Z ?_ ?_
   refine b7.go Z Z (fun E=>S.mkIfc Z Z Z .N) ?_
   refine b7.skip Z (b7.nil)
   refine c9.cons Z Z ?_ ?_
   refine b7.go Z Z (fun E=>AOps.j Z Z .N) ?_
   refine b7.skip Z (b7.nil)
   refine c9.cons Z Z ?_ ?_
   refine b7.go Z Z (fun E=>S.nilCheckE Z Z (by simpa only [List.length_set] using h9 hen62) Z .N) ?_
   refine b7.skip Z (b7.nil)
   refine c9.cons Z Z ?_ ?_
   refine b7.go Z Z (fun E=>S.fieldE Z Z Z (by simpa only [List.length_set] using h9 hen62) Z .N) ?_
   refine b7.skip Z (b7.nil)
   refine c9.cons Z Z ?_ ?_
   refine b7.go Z Z (fun E=>AOps.E Z Z (n9 Z (X1 (X1 hen62))) Z Z Z .N) ?_
   refine b7.skip Z (b7.nil)
   refine c9.skip Z (c9.nil)
  dsimp only [j9]
  refine b6 (.ret (e7 ?_))
  obtain rfl:=oi h
  exact ⟨⟨[],[.one (.cells 3 [[.own 4 0 a45.1.length,.map 2,int (w64 (time+1))]]),.dead,.one (pmap 5 vU l5),.dead,.one (prow 5 a45.1),pool 4 b9 a45.2]⟩,Sub.env trivial,Done.ret Z ⟨Z,Z⟩⟩
 ·refine AWP.skip (b6 (.q ?_))
  obtain ⟨u63,hu63,u64,hu64,h⟩:=b2 h
  refine AWP.u (.j Z Z (.j Z Z (.j Z Z (.ag Z Z Z (W.fieldAddr Z Z Z Z (.E Z Z Z Z Z Z (W.build Z Z Z Z (W.box Z Z Z Z Z Z (.sub (Sub.move (env':=[(0,.c (.ptr 0 0 0)),(1,.c (.imm (.val (.int .u32 item)))),(2,.c (int key)),(7,.c (bool (Option.isSome (mget l5 item)))),(9,.c (.ptr 0 0 0)),(10,.c (.ptr 0 0 0)),(11,.c (.ptr 0 0 2)),(12,.c (int time)),(13,.c (int (w64 (time+1)))),(14,.c (.ptr 0 0 0)),(15,.c (.ptr 0 0 2)),(17,.c (.ptr 0 0 0)),(18,.c (.ptr 0 0 0)),(19,.c (.ptr 0 0 1)),(20,.c (.map 2)),(21,.c (.imm (.val (.int .u32 item)))),(24,.c (bool (Option.isSome (mget l5 item)))),(25,.c (bool (Option.isSome (mget l5 item)))),(46,.c (.imm (.val (.int .u32 item)))),(47,.c (int key)),(48,.c (.ptr 0 0 0)),(49,.c (.ptr 0 0 0)),(50,.c (.ptr 0 0 2)),(51,.c (int (w64 (time+1)))),(52,.agg [.imm (.val (.int .u32 item)),int key,int (w64 (time+1)),int 0]),(53,.c (.ptr (5,[(l6.length:Int).toNat]) 0 0))]) (σ':=[.one (.cells 3 [[.own 4 0 l.length,.map 2,int (w64 (time+1))]]),.dead,.one (pmap 5 vU l5),.dead,.one (prow 5 l),pool 4 b9 (l6++[(⟨item,key,w64 (time+1),0⟩:c8)])]) (5,[l6.length]) (6,[]) Z Z Z ⟨Z,Z,Z,Z,Z,Z,Z,Z,Z,Z,Z,Z,Z,Z,Z,Z,Z,Z,Z,Z,Z,Z,Z,Z,Z,ptr_adopt,Y⟩ Z ⟨⟨Z,Z⟩,trivial,⟨j8 Z,ab9 Z (pmap_adopt hu63) af2⟩,trivial,⟨i6 Z,ab9 Z (prow_adopt hu64) af2⟩,(r9.adopt Z Z),Y⟩) (.v Z Z (.nil (b6 (.q (.u (.j Z Z (.ag Z Z Z (W.fieldAddr Z Z Z Z (.E Z Z Z Z Z Z (.j Z Z (.j Z Z (S.mapUpdateP (fk:=vU) (k:=item) (a:=(l6.length:Int)) G0 Z Z Z Z Z (.nil (b6 ?_)))))))))))))))))))))))
  obtain ⟨a66,ha66,h⟩:=bind_some h
  refine AWP.u (.j Z Z (.ag Z Z Z (W.fieldAddr Z Z Z Z (S.mkIfc Z Z Z (.j Z Z (S.mkIfc Z Z Z (.callF (r2:=.tup []) (σ'':=[.one (.cells 3 [[.own 8 0 a66.2.length,.map 2,int (w64 (time+1))]]),.dead,.one (pmap 5 vU (mset l5 item (l6.length:Int))),.dead,.dead,pool 4 b9 a66.1,.dead,.dead,.one (prow 5 a66.2)]) Z Z Z (FnOk.lend [0,5,4,2] (T8 ha66) Z Z Z Z Z Z (by exact ⟨(.one Z),(.any l7),(.one (i6 Z)),(.one (j8 Z)),Y⟩) Z (by exact ⟨(.live Z (.one Z)),(.live Z RenE.pool),(.live Z (.one (i4 fun _=>Z))),(.live Z (.one (k8 fun _=>Z))),Y⟩) Z Z (by exact ⟨(.new 0 Z Z (.one Z)),.dead,(.new 3 Z Z (.one (k8 fun _=>Z))),.dead,.dead,(.new 1 Z Z RenE.pool),.dead,.dead,(.new 6 Z Z (.one (i4 fun _=>Z))),Y⟩)) (.nil ?_))))))))
  obtain rfl:=oi h
  exact ⟨⟨[],[.one (.cells 3 [[.own 4 0 a66.2.length,.map 2,int (w64 (time+1))]]),.dead,.one (pmap 5 vU (mset l5 item (l6.length:Int))),.dead,.one (prow 5 a66.2),pool 4 b9 a66.1]⟩,(Sub.move (env':=[]) (σ':=[.one (.cells 3 [[.own 4 0 a66.2.length,.map 2,int (w64 (time+1))]]),.dead,.one (pmap 5 vU (mset l5 item (l6.length:Int))),.dead,.one (prow 5 a66.2),pool 4 b9 a66.1,.dead,.dead]) 4 8 Z Z Z trivial Z ⟨⟨Z,Z⟩,trivial,⟨j8 Z,w9 Z K1⟩,trivial,⟨i6 Z,w9 Z K3⟩,(r9.pool Z),trivial,trivial,Y⟩).trans (Sub.cut trivial Z ⟨.one Z,.dead,(.one (j8 Z)),.dead,(.one (i6 Z)),(.any l7),Y⟩ Z),Done.normal Z ⟨Z,Z⟩⟩
theorem ae0{time:Int}{l:List Int}{l3:List (Int × Int)}{l4:List c8}{r:Unit}(h:B9 time l l3 l4=some r):FnOk prog 68 [.c (.ptr 0 0 0)] (ae3 time l l3 l4) (fun tt ss=>tt=.c (int (l.length:Int))∧ss=[.one (.cells 3 [[.own 1 0 l.length,.map 2,int time]]),.one (prow 3 l),.one (pmap 3 vU l3),pool 4 b9 l4]):=by
 refine FnOk.enter (rs:=[.t 2]) func68 Z ntmps68 results68 Z ⟨trivial,Y⟩ (by kernel_rfl) Z ?_
 refine AWP.weak ?_
 unfold B9 at h
 refine AWP.q (.u (.v Z Z (.nil (b6 (.q (.u (.j Z Z (.ag Z Z Z (W.fieldAddr Z Z Z Z (.E Z Z Z Z Z Z (.lenOwnB Z Z Z (fun hl7=>.v Z Z (.nil (b6 (.ret ?_)))))))))))))))
 obtain rfl:=oi h
 exact ⟨⟨[(2,.c (int (l.length:Int)))],[.one (.cells 3 [[.own 1 0 l.length,.map 2,int time]]),.one (prow 3 l),.one (pmap 3 vU l3),pool 4 b9 l4]⟩,Sub.env ⟨Z,Y⟩,Done.ret Z ⟨Z,Z⟩⟩
theorem L4{iv:Int}{kv:Int}{l:List Int}{l4:List c8}{r:(List Int) × (List c8)}(h:u9 iv kv l l4=some r):FnOk prog 205 [.c (.own 0 0 l.length),.c (int iv),.c (int kv)] (Y8 iv kv l l4) (fun tt ss=>tt=.tup []∧ss=[.one (prow 1 r.1),pool 4 b9 r.2]):=by
 refine FnOk.enter (rs:=[]) func205 Z ntmps205 results205 Z trivial (by kernel_rfl) Z ?_
 refine AWP.weak ?_
 unfold u9 at h
 refine AWP.q ?_
 obtain ⟨a12,ha12,a16,ha16,h⟩:=b2 h
 refine AWP.drawEI [13,15] mixed Z Z Z ?_
 refine d6.consN Z Z (fun E=>AOps.j Z Z .N) Z (.consN Z Z (fun E=>AOps.j Z Z .N) Z (.consN Z Z (fun E=>AOps.j Z Z .N) Z (.consN Z Z (fun E=>AOps.j Z Z .N) Z (.consN Z Z (fun E=>AOps.j Z Z .N) Z (.consN Z Z (fun E=>AOps.j Z Z .N) Z (.consN Z Z (fun E=>S.idxPb Z Z Z (by simpa only [List.length_set] using n7 ha12) Z Z .N) Z (.consN Z Z (fun E=>S.loadP ha12 Z Z Z Z .N) Z (.consN Z Z (fun E=>AOps.j Z Z .N) Z (.consN Z Z (fun E=>AOps.j Z Z .N) Z (.consN Z Z (fun E=>S.idxPb Z Z Z (by simpa only [List.length_set] using n7 ha16) Z Z .N) Z (.consN Z Z (fun E=>S.loadP ha16 Z Z Z Z .N) Z (.consN Z Z (fun E=>S.idxPb Z Z Z (by simpa only [List.length_set] using n7 ha16) Z Z .N) Z ?_))))))))))))
 apply d6.consE (v:=.undef); exact Z; exact Z; intro E
 refine S.storeP (a:=a12) (by simpa only [List.length_set] using h9 ha16) Z Z Z Z .N
 exact Z
 exact Z
 refine d6.consN Z Z (fun E=>S.idxPb Z Z (by simp only [List.length_set]) (by simpa only [List.length_set] using n7 ha12) Z Z .N) Z ?_
 apply d6.consE (v:=.undef); exact Z; exact Z; intro E
 refine S.storeP (a:=a16) (by simpa only [List.length_set] using h9 ha12) Z Z Z Z .N
 exact Z
 exact Z
 refine d6.done Z ?_ ?_
 ·refine c9.cons Z Z ?_ ?_
  refine b7.go Z Z (fun E=>AOps.j Z Z .N) ?_
  refine b7.skip Z (b7.skip Z (b7.nil))
  refine c9.cons Z Z ?_ ?_
  refine b7.go Z Z (fun E=>AOps.j Z Z .N) ?_
  refine b7.skip Z (b7.skip Z (b7.nil))
  refine c9.cons Z Z ?_ ?_
  refine b7.go Z Z (fun E=>AOps.j Z Z .N) ?_
  refine b7.go Z Z (fun E=>AOps.j Z Z .N) ?_
  refine b7.skip Z (b7.nil)
  refine c9.cons Z Z ?_ ?_
  refine b7.go Z Z (fun E=>AOps.j Z Z .N) ?_
  refine b7.go Z Z (fun E=>AOps.j Z Z .N) ?_
  refine b7.skip Z (b7.nil)
  refine c9.cons Z Z ?_ ?_
  refine b7.go Z Z (fun E=>AOps.j Z Z .N) ?_
  refine b7.skip Z (b7.skip Z (b7.nil))
  refine c9.cons Z Z ?_ ?_
  refine b7.go Z Z (fun E=>AOps.j Z Z .N) ?_
  refine b7.skip Z (b7.skip Z (b7.nil))
  refine c9.cons Z Z ?_ ?_
  refine b7.go Z Z (fun E=>S.idxPb Z Z Z (by simpa only [List.length_set] using n7 ha12) Z Z .N) ?_
  refine b7.skip Z (b7.skip Z (b7.nil))
  refine c9.cons Z Z ?_ ?_
  refine b7.go Z Z (fun E=>S.loadP ha12 Z Z Z Z .N) ?_
  refine b7.skip Z (b7.skip Z (b7.nil))
  refine c9.cons Z Z ?_ ?_
  refine b7.go Z Z (fun E=>AOps.j Z Z .N) ?_
  refine b7.skip Z (b7.skip Z (b7.nil))
  refine c9.cons Z Z ?_ ?_
  refine b7.go Z Z (fun E=>AOps.j Z Z .N) ?_
  refine b7.skip Z (b7.skip Z (b7.nil))
  refine c9.cons Z Z ?_ ?_
  refine b7.go Z Z (fun E=>S.idxPb Z Z Z (by simpa only [List.length_set] using n7 ha16) Z Z .N) ?_
  refine b7.skip Z (b7.skip Z (b7.nil))
  refine c9.cons Z Z ?_ ?_
  refine b7.go Z Z (fun E=>S.loadP ha16 Z Z Z Z .N) ?_
  refine b7.skip Z (b7.skip Z (b7.nil))
  refine c9.cons Z Z ?_ ?_
  refine b7.go Z Z (fun E=>S.idxPb Z Z Z (by simpa only [List.length_set] using n7 ha16) Z Z .N) ?_
  refine b7.skip Z (b7.skip Z (b7.nil))
  refine c9.skip Z ?_
  refine c9.cons Z Z ?_ ?_
  refine b7.skip Z ?_
  refine b7.go Z Z (fun E=>S.idxPb Z Z (by simp only [List.length_set]) (by simpa only [List.length_set] using n7 ha12) Z Z .N) ?_
  refine b7.skip Z (b7.nil)
  refine c9.skip Z (c9.nil)
 dsimp only [j9]
 refine b6 ?_
 obtain ⟨ha57,hha57,ha58,hha58,en59,hen59,h⟩:=b3 h
 obtain ⟨en60,hen60,h⟩:=bind_some h
 refine AWP.drawEI [12,15] mixed Z Z Z ?_
 refine d6.consN Z Z (fun E=>AOps.j Z Z .N) Z (.consN Z Z (fun E=>AOps.j Z Z .N) Z (.consN Z Z (fun E=>S.idxPb Z Z (by simp only [List.length_set]) (by simpa only [List.length_set] using n7 ha16) Z Z .N) Z (.consN Z Z (fun E=>S.loadP hha57 Z Z Z Z .N) Z (.consN Z Z (fun E=>AOps.j Z Z .N) Z (.consN Z Z (fun E=>AOps.j Z Z .N) Z (.consN Z Z (fun E=>S.idxPb Z Z (by simp only [List.length_set]) (by simpa only [List.length_set] using n7 ha12) Z Z .N) Z (.consN Z Z (fun E=>S.loadP hha58 Z Z Z Z .N) Z (.consN Z Z (fun E=>AOps.j Z Z .N) Z (.consN Z Z (fun E=>AOps.j Z Z .N) Z (.consN Z Z (fun E=>S.nilCheckE Z Z (by simpa only [List.length_set] using h9 hen59) Z .N) Z (.consN Z Z (fun E=>S.fieldE Z Z Z (by simpa only [List.length_set] using h9 hen59) Z .N) Z ?_)))))))))))
 apply d6.consE (v:=.undef); exact Z; exact Z; intro E
 refine S.storeE (e':=(⟨en59.item,en59.key,en59.time,iv⟩:c8)) hen59 Z Z Z Z Z Z .N
 exact Z
 exact Z
 refine d6.consN Z Z (fun E=>S.nilCheckE Z Z (by simpa only [List.length_set] using h9 hen60) Z .N) Z (.consN Z Z (fun E=>S.fieldE Z Z Z (by simpa only [List.length_set] using h9 hen60) Z .N) Z ?_)
 apply d6.consE (v:=.undef); exact Z; exact Z; intro E
 refine S.storeE (e':=(⟨en60.item,en60.key,en60.time,kv⟩:c8)) hen60 Z Z Z Z Z Z .N
 exact Z
 exact Z
 refine d6.done Z ?_ ?_
 ·refine c9.cons Z Z ?_ ?_
  refine b7.go Z Z (fun E=>AOps.j Z Z .N) ?_
  refine b7.skip Z (b7.skip Z (b7.nil))
  refine c9.cons Z Z ?_ ?_
  refine b7.go Z Z (fun E=>AOps.j Z Z .N) ?_
  refine b7.skip Z (b7.skip Z (b7.nil))
  refine c9.cons Z Z ?_ ?_
  refine b7.go Z Z (fun E=>S.idxPb Z Z (by simp only [List.length_set]) (by simpa only [List.length_set] using n7 ha16) Z Z .N) ?_
  refine b7.skip Z (b7.skip Z (b7.nil))
  refine c9.cons Z Z ?_ ?_
  refine b7.go Z Z (fun E=>S.loadP hha57 Z Z Z Z .N) ?_
  refine b7.skip Z (b7.skip Z (b7.nil))
  refine c9.cons Z Z ?_ ?_
  refine b7.go Z Z (fun E=>AOps.j Z Z .N) ?_
  refine b7.skip Z (b7.skip Z (b7.nil))
  refine c9.cons Z Z ?_ ?_
  refine b7.go Z Z (fun E=>AOps.j Z Z .N) ?_
  refine b7.skip Z (b7.skip Z (b7.nil))
  refine c9.cons Z Z ?_ ?_
  refine b7.go Z Z (fun E=>S.idxPb Z Z (by simp only [List.length_set]) (by simpa only [List.length_set] using n7 ha12) Z Z .N) ?_
  refine b7.skip Z (b7.skip Z (b7.nil))
  refine c9.cons Z Z ?_ ?_
  refine b7.go Z Z (fun E=>S.loadP hha58 Z Z Z Z .N) ?_
  refine b7.skip Z (b7.skip Z (b7.nil))
  refine c9.cons Z Z ?_ ?_
  refine b7.go Z Z (fun E=>AOps.j Z Z .N) ?_
  refine b7.skip Z (b7.skip Z (b7.nil))
  refine c9.cons Z Z ?_ ?_
  refine b7.go Z Z (fun E=>AOps.j Z Z .N) ?_
  refine b7.go Z Z (fun E=>AOps.j Z Z .N) ?_
  refine b7.skip Z (b7.nil)
  refine c9.cons Z Z ?_ ?_
  refine b7.go Z Z (fun E=>S.nilCheckE Z Z (by simpa only [List.length_set] using h9 hen59) Z .N) ?_
  refine b7.skip Z (b7.skip Z (b7.nil))
  refine c9.cons Z Z ?_ ?_
  refine b7.go Z Z (fun E=>S.fieldE Z Z Z (by simpa only [List.length_set] using h9 hen59) Z .N) ?_
  refine b7.skip Z (b7.skip Z (b7.nil))
  refine c9.skip Z ?_
  refine c9.cons Z Z ?_ ?_
  refine b7.skip Z ?_
  refine b7.go Z Z (fun E=>S.nilCheckE Z Z (by simpa only [List.length_set] using h9 hen60) Z .N) ?_
  refine b7.skip Z (b7.nil)
  refine c9.cons Z Z ?_ ?_
  refine b7.skip Z ?_
  refine b7.go Z Z (fun E=>S.fieldE Z Z Z (by simpa only [List.length_set] using h9 hen60) Z .N) ?_
  refine b7.skip Z (b7.nil)
  refine c9.skip Z (c9.nil)
 dsimp only [j9]
 obtain rfl:=oi h
 exact ⟨⟨[],[.one (prow 1 ((l.set iv.toNat a12).set kv.toNat a16)),pool 4 b9 ((l4.set ha57.toNat (⟨en59.item,en59.key,en59.time,iv⟩:c8)).set ha58.toNat (⟨en60.item,en60.key,en60.time,kv⟩:c8))]⟩,Sub.env trivial,Done.normal Z ⟨Z,Z⟩⟩
theorem ab6{iv:Int}{kv:Int}{l:List Int}{l4:List c8}{r:Bool}(h:F3 iv kv l l4=some r):FnOk prog 204 [.c (.own 0 0 l.length),.c (int iv),.c (int kv)] (ab3 iv kv l l4) (fun tt ss=>tt=.c (bool r)∧ss=[.one (prow 1 l),pool 4 b9 l4]):=by
 refine FnOk.enter (rs:=[.t 6]) func204 Z ntmps204 results204 Z ⟨trivial,Y⟩ (by kernel_rfl) Z ?_
 refine AWP.weak ?_
 unfold F3 at h
 refine AWP.q (.u (.v Z Z (.nil (b6 ?_))))
 obtain ⟨a9,ha9,en56,hen56,a16,ha16,h⟩:=b3 h
 obtain ⟨en57,hen57,h⟩:=bind_some h
 refine AWP.seqJ (⟨[(6,.c (bool ((decide (en56.key<en57.key)) || ((decide (en56.key=en57.key)) && (decide (en56.time<en57.time))))))],[.one (prow 1 l),pool 4 b9 l4]⟩) ?_ ?_
 ·rcases bft (decide (en56.key<en57.key)) with hb1 | hb1
  ·refine AWP.drawI mixed Z ?_
   refine j7.consF Z (fun E=>AOps.j Z Z .N) Z (.consF Z (fun E=>AOps.j Z Z .N) Z (.consF Z (fun E=>S.idxPb Z Z Z (by simpa only [List.length_set] using n7 ha9) Z Z .N) Z (.consF Z (fun E=>S.loadP ha9 Z Z Z Z .N) Z (.consF Z (fun E=>S.nilCheckE Z Z (by simpa only [List.length_set] using h9 hen56) Z .N) Z (.consF Z (fun E=>S.fieldE Z Z Z (by simpa only [List.length_set] using h9 hen56) Z .N) Z (.consF Z (fun E=>AOps.E Z Z (n9 Z hen56) Z Z Z .N) Z (.consF Z (fun E=>AOps.j Z Z .N) Z (.consF Z (fun E=>AOps.j Z Z .N) Z (.consF Z (fun E=>S.idxPb Z Z Z (by simpa only [List.length_set] using n7 ha16) Z Z .N) Z (.consF Z (fun E=>S.loadP ha16 Z Z Z Z .N) Z (.consF Z (fun E=>S.nilCheckE Z Z (by simpa only [List.length_set] using h9 hen57) Z .N) Z (.consF Z (fun E=>S.fieldE Z Z Z (by simpa only [List.length_set] using h9 hen57) Z .N) Z (.consF Z (fun E=>AOps.E Z Z (n9 Z hen57) Z Z Z .N) Z (.consF Z (fun E=>AOps.F Z Z Z .N) Z (.consF Z (fun E=>AOps.j Z Z .N) Z (.consF Z (fun E=>AOps.B Z Z Z hb1 .N) Z (.consF Z (fun E=>AOps.B Z Z Z hb1 .N) Z (.consF Z (fun E=>AOps.B Z Z Z hb1 .N) Z (.consF Z (fun E=>AOps.B Z Z Z hb1 .N) Z (.consF Z (fun E=>AOps.B Z Z Z hb1 .N) Z (.consF Z (fun E=>AOps.B Z Z Z hb1 .N) Z (.consF Z (fun E=>AOps.B Z Z Z hb1 .N) Z (.consF Z (fun E=>AOps.B Z Z Z hb1 .N) Z (.consF Z (fun E=>AOps.B Z Z Z hb1 .N) Z (.consF Z (fun E=>AOps.B Z Z Z hb1 .N) Z (.consF Z (fun E=>AOps.B Z Z Z hb1 .N) Z (.consF Z (fun E=>AOps.B Z Z Z hb1 .N) Z (.consF Z (fun E=>AOps.B Z Z Z hb1 .N) Z (.consF Z (fun E=>AOps.B Z Z Z hb1 .N) Z (.consF Z (fun E=>AOps.B Z Z Z hb1 .N) Z (.consF Z (fun E=>AOps.B Z Z Z hb1 .N) Z (.consF Z (fun E=>AOps.ah Z Z Z .N) Z (.consF Z (fun E=>AOps.ah Z Z Z .N) Z (.consF Z (fun E=>AOps.ah Z Z Z .N) Z (.consF Z (fun E=>AOps.ah Z Z Z .N) Z (.consF Z (fun E=>AOps.ah Z Z Z .N) Z (.consF Z (fun E=>AOps.ah Z Z Z .N) Z (.consF Z (fun E=>AOps.ah Z Z Z .N) Z (.consF Z (fun E=>AOps.ah Z Z Z .N) Z (.consF Z (fun E=>AOps.ah Z Z Z .N) Z (.consF Z (fun E=>AOps.ah Z Z Z .N) Z (.consF Z (fun E=>AOps.ah Z Z Z .N) Z (.consF Z (fun E=>AOps.ah Z Z Z .N) Z (.consF Z (fun E=>AOps.ah Z Z Z .N) Z (.consF Z (fun E=>AOps.ah Z Z Z .N) Z (.consF Z (fun E=>AOps.ah Z Z Z .N) Z (.consF Z (fun E=>AOps.B Z Z Z hb1 .N) Z (.consF Z (fun E=>AOps.U Z hb1 Z Z .N) Z (.consF Z (fun E=>AOps.v Z Z .N) Z ?_)))))))))))))))))))))))))))))))))))))))))))))))))
   refine j7.done ?_
   dsimp only [j9]
   refine b6 ?_
   simp only [Q6 hb1,or_t hb1,Bool.false_or,Bool.true_or,Bool.false_and,Bool.true_and]
   exact Sub.env ⟨Z,Y⟩
  ·rcases bft (decide (en56.key=en57.key)) with hb2 | hb2
   ·refine AWP.drawI mixed Z ?_
    refine j7.consF Z (fun E=>AOps.j Z Z .N) Z (.consF Z (fun E=>AOps.j Z Z .N) Z (.consF Z (fun E=>S.idxPb Z Z Z (by simpa only [List.length_set] using n7 ha9) Z Z .N) Z (.consF Z (fun E=>S.loadP ha9 Z Z Z Z .N) Z (.consF Z (fun E=>S.nilCheckE Z Z (by simpa only [List.length_set] using h9 hen56) Z .N) Z (.consF Z (fun E=>S.fieldE Z Z Z (by simpa only [List.length_set] using h9 hen56) Z .N) Z (.consF Z (fun E=>AOps.E Z Z (n9 Z hen56) Z Z Z .N) Z (.consF Z (fun E=>AOps.j Z Z .N) Z (.consF Z (fun E=>AOps.j Z Z .N) Z (.consF Z (fun E=>S.idxPb Z Z Z (by simpa only [List.length_set] using n7 ha16) Z Z .N) Z (.consF Z (fun E=>S.loadP ha16 Z Z Z Z .N) Z (.consF Z (fun E=>S.nilCheckE Z Z (by simpa only [List.length_set] using h9 hen57) Z .N) Z (.consF Z (fun E=>S.fieldE Z Z Z (by simpa only [List.length_set] using h9 hen57) Z .N) Z (.consF Z (fun E=>AOps.E Z Z (n9 Z hen57) Z Z Z .N) Z (.consF Z (fun E=>AOps.F Z Z Z .N) Z (.consF Z (fun E=>AOps.j Z Z .N) Z (.consF Z (fun E=>AOps.z Z Z Z hb1 (.j Z Z .N)) Z (.consF Z (fun E=>AOps.z Z Z Z hb1 (.j Z Z .N)) Z (.consF Z (fun E=>AOps.z Z Z Z hb1 (S.idxPb Z Z Z (by simpa only [List.length_set] using n7 ha9) Z Z .N)) Z (.consF Z (fun E=>AOps.z Z Z Z hb1 (S.loadP ha9 Z Z Z Z .N)) Z (.consF Z (fun E=>AOps.z Z Z Z hb1 (S.nilCheckE Z Z (by simpa only [List.length_set] using h9 hen56) Z .N)) Z (.consF Z (fun E=>AOps.z Z Z Z hb1 (S.fieldE Z Z Z (by simpa only [List.length_set] using h9 hen56) Z .N)) Z (.consF Z (fun E=>AOps.z Z Z Z hb1 (.E Z Z (n9 Z hen56) Z Z Z .N)) Z (.consF Z (fun E=>AOps.z Z Z Z hb1 (.j Z Z .N)) Z (.consF Z (fun E=>AOps.z Z Z Z hb1 (.j Z Z .N)) Z (.consF Z (fun E=>AOps.z Z Z Z hb1 (S.idxPb Z Z Z (by simpa only [List.length_set] using n7 ha16) Z Z .N)) Z (.consF Z (fun E=>AOps.z Z Z Z hb1 (S.loadP ha16 Z Z Z Z .N)) Z (.consF Z (fun E=>AOps.z Z Z Z hb1 (S.nilCheckE Z Z (by simpa only [List.length_set] using h9 hen57) Z .N)) Z (.consF Z (fun E=>AOps.z Z Z Z hb1 (S.fieldE Z Z Z (by simpa only [List.length_set] using h9 hen57) Z .N)) Z (.consF Z (fun E=>AOps.z Z Z Z hb1 (.E Z Z (n9 Z hen57) Z Z Z .N)) Z (.consF Z (fun E=>AOps.z Z Z Z hb1 (.eql Z Z Z .N)) Z (.consF Z (fun E=>AOps.z Z Z Z hb1 (.j Z Z .N)) Z (.consF Z (fun E=>AOps.z Z Z Z hb2 (.j Z Z .N)) Z (.consF Z (fun E=>AOps.z Z Z Z hb2 (.j Z Z .N)) Z (.consF Z (fun E=>AOps.z Z Z Z hb2 (S.idxPb Z Z Z (by simpa only [List.length_set] using n7 ha9) Z Z .N)) Z (.consF Z (fun E=>AOps.z Z Z Z hb2 (S.loadP ha9 Z Z Z Z .N)) Z (.consF Z (fun E=>AOps.z Z Z Z hb2 (S.nilCheckE Z Z (by simpa only [List.length_set] using h9 hen56) Z .N)) Z (.consF Z (fun E=>AOps.z Z Z Z hb2 (S.fieldE Z Z Z (by simpa only [List.length_set] using h9 hen56) Z .N)) Z (.consF Z (fun E=>AOps.z Z Z Z hb2 (.E Z Z (n9 Z hen56) Z Z Z .N)) Z (.consF Z (fun E=>AOps.z Z Z Z hb2 (.j Z Z .N)) Z (.consF Z (fun E=>AOps.z Z Z Z hb2 (.j Z Z .N)) Z (.consF Z (fun E=>AOps.z Z Z Z hb2 (S.idxPb Z Z Z (by simpa only [List.length_set] using n7 ha16) Z Z .N)) Z (.consF Z (fun E=>AOps.z Z Z Z hb2 (S.loadP ha16 Z Z Z Z .N)) Z (.consF Z (fun E=>AOps.z Z Z Z hb2 (S.nilCheckE Z Z (by simpa only [List.length_set] using h9 hen57) Z .N)) Z (.consF Z (fun E=>AOps.z Z Z Z hb2 (S.fieldE Z Z Z (by simpa only [List.length_set] using h9 hen57) Z .N)) Z (.consF Z (fun E=>AOps.z Z Z Z hb2 (.E Z Z (n9 Z hen57) Z Z Z .N)) Z (.consF Z (fun E=>AOps.z Z Z Z hb2 (.F Z Z Z .N)) Z (.consF Z (fun E=>AOps.z Z Z Z hb1 (.U Z hb2 Z Z .N)) Z (.consF Z (fun E=>AOps.aa Z hb1 Z Z .N) Z (.consF Z (fun E=>AOps.v Z Z .N) Z ?_)))))))))))))))))))))))))))))))))))))))))))))))))
    refine j7.done ?_
    dsimp only [j9]
    refine b6 ?_
    simp only [N3 hb1,or_f hb1,Q6 hb2,or_t hb2,Bool.false_or,Bool.true_or,Bool.false_and,Bool.true_and]
    exact Sub.env ⟨Z,Y⟩
   ·refine AWP.drawI mixed Z ?_
    refine j7.consF Z (fun E=>AOps.j Z Z .N) Z (.consF Z (fun E=>AOps.j Z Z .N) Z (.consF Z (fun E=>S.idxPb Z Z Z (by simpa only [List.length_set] using n7 ha9) Z Z .N) Z (.consF Z (fun E=>S.loadP ha9 Z Z Z Z .N) Z (.consF Z (fun E=>S.nilCheckE Z Z (by simpa only [List.length_set] using h9 hen56) Z .N) Z (.consF Z (fun E=>S.fieldE Z Z Z (by simpa only [List.length_set] using h9 hen56) Z .N) Z (.consF Z (fun E=>AOps.E Z Z (n9 Z hen56) Z Z Z .N) Z (.consF Z (fun E=>AOps.j Z Z .N) Z (.consF Z (fun E=>AOps.j Z Z .N) Z (.consF Z (fun E=>S.idxPb Z Z Z (by simpa only [List.length_set] using n7 ha16) Z Z .N) Z (.consF Z (fun E=>S.loadP ha16 Z Z Z Z .N) Z (.consF Z (fun E=>S.nilCheckE Z Z (by simpa only [List.length_set] using h9 hen57) Z .N) Z (.consF Z (fun E=>S.fieldE Z Z Z (by simpa only [List.length_set] using h9 hen57) Z .N) Z (.consF Z (fun E=>AOps.E Z Z (n9 Z hen57) Z Z Z .N) Z (.consF Z (fun E=>AOps.F Z Z Z .N) Z (.consF Z (fun E=>AOps.j Z Z .N) Z (.consF Z (fun E=>AOps.z Z Z Z hb1 (.j Z Z .N)) Z (.consF Z (fun E=>AOps.z Z Z Z hb1 (.j Z Z .N)) Z (.consF Z (fun E=>AOps.z Z Z Z hb1 (S.idxPb Z Z Z (by simpa only [List.length_set] using n7 ha9) Z Z .N)) Z (.consF Z (fun E=>AOps.z Z Z Z hb1 (S.loadP ha9 Z Z Z Z .N)) Z (.consF Z (fun E=>AOps.z Z Z Z hb1 (S.nilCheckE Z Z (by simpa only [List.length_set] using h9 hen56) Z .N)) Z (.consF Z (fun E=>AOps.z Z Z Z hb1 (S.fieldE Z Z Z (by simpa only [List.length_set] using h9 hen56) Z .N)) Z (.consF Z (fun E=>AOps.z Z Z Z hb1 (.E Z Z (n9 Z hen56) Z Z Z .N)) Z (.consF Z (fun E=>AOps.z Z Z Z hb1 (.j Z Z .N)) Z (.consF Z (fun E=>AOps.z Z Z Z hb1 (.j Z Z .N)) Z (.consF Z (fun E=>AOps.z Z Z Z hb1 (S.idxPb Z Z Z (by simpa only [List.length_set] using n7 ha16) Z Z .N)) Z (.consF Z (fun E=>AOps.z Z Z Z hb1 (S.loadP ha16 Z Z Z Z .N)) Z (.consF Z (fun E=>AOps.z Z Z Z hb1 (S.nilCheckE Z Z (by simpa only [List.length_set] using h9 hen57) Z .N)) Z (.consF Z (fun E=>AOps.z Z Z Z hb1 (S.fieldE Z Z Z (by simpa only [List.length_set] using h9 hen57) Z .N)) Z (.consF Z (fun E=>AOps.z Z Z Z hb1 (.E Z Z (n9 Z hen57) Z Z Z .N)) Z (.consF Z (fun E=>AOps.z Z Z Z hb1 (.eql Z Z Z .N)) Z (.consF Z (fun E=>AOps.z Z Z Z hb1 (.j Z Z .N)) Z (.consF Z (fun E=>AOps.B Z Z Z hb2 .N) Z (.consF Z (fun E=>AOps.B Z Z Z hb2 .N) Z (.consF Z (fun E=>AOps.B Z Z Z hb2 .N) Z (.consF Z (fun E=>AOps.B Z Z Z hb2 .N) Z (.consF Z (fun E=>AOps.B Z Z Z hb2 .N) Z (.consF Z (fun E=>AOps.B Z Z Z hb2 .N) Z (.consF Z (fun E=>AOps.B Z Z Z hb2 .N) Z (.consF Z (fun E=>AOps.B Z Z Z hb2 .N) Z (.consF Z (fun E=>AOps.B Z Z Z hb2 .N) Z (.consF Z (fun E=>AOps.B Z Z Z hb2 .N) Z (.consF Z (fun E=>AOps.B Z Z Z hb2 .N) Z (.consF Z (fun E=>AOps.B Z Z Z hb2 .N) Z (.consF Z (fun E=>AOps.B Z Z Z hb2 .N) Z (.consF Z (fun E=>AOps.B Z Z Z hb2 .N) Z (.consF Z (fun E=>AOps.B Z Z Z hb2 .N) Z (.consF Z (fun E=>AOps.z Z Z Z hb1 (.aa Z hb2 Z Z .N)) Z (.consF Z (fun E=>AOps.aa Z hb1 Z Z .N) Z (.consF Z (fun E=>AOps.v Z Z .N) Z ?_)))))))))))))))))))))))))))))))))))))))))))))))))
    refine j7.done ?_
    dsimp only [j9]
    refine b6 ?_
    simp only [N3 hb1,or_f hb1,N3 hb2,or_f hb2,Bool.false_or,Bool.true_or,Bool.false_and,Bool.true_and]
    exact Sub.env ⟨Z,Y⟩
 ·refine AWP.ret ?_
  obtain rfl:=oi h
  exact ⟨⟨[(6,.c (bool ((decide (en56.key<en57.key)) || ((decide (en56.key=en57.key)) && (decide (en56.time<en57.time))))))],[.one (prow 1 l),pool 4 b9 l4]⟩,Sub.env ⟨Z,Y⟩,Done.ret Z ⟨Z,Z⟩⟩
theorem aj1{i01:Int}{nv:Int}{time:Int}{l:List Int}{l5:List (Int × Int)}{l6:List c8}{r:(List Int) × (List c8) × Bool}(h:G5 i01 nv time l l5 l6=some r):FnOk prog 138 [.c (.ifc 189 [.ptr 0 0 0] false),.c (int i01),.c (int nv)] (T1 i01 nv time l l5 l6) (fun tt ss=>tt=.c (bool r.2.2)∧ss=[.one (.cells 3 [[.own 1 0 r.1.length,.map 2,int time]]),.one (prow 3 r.1),.one (pmap 3 vU l5),pool 4 b9 r.2.1]):=by
 refine FnOk.enter (rs:=[.t 6]) func138 Z ntmps138 results138 Z ⟨trivial,Y⟩ (by kernel_rfl) Z ?_
 refine AWP.weak ?_
 unfold G5 at h
 refine AWP.q (.u (.v Z Z (.nil (b6 (.q (.u (.j Z Z (.v Z Z (.nil (b6 (.q (.J ?_))))))))))))
 obtain ⟨⟨c63,c64,iv65⟩,ho1,h⟩:=bind_some h
 try dsimp only at h
 refine AWP.loopS ho1 (fun (c60,c61,iv62)=>⟨[(0,.c (.ifc 189 [.ptr 0 0 0] false)),(1,.c (int i01)),(2,.c (int nv)),(7,.c (int iv62))],[.one (.cells 3 [[.own 1 0 c60.length,.map 2,int time]]),.one (prow 3 c60),.one (pmap 3 vU l5),pool 4 b9 c61]⟩) (fun (c63,c64,iv65) e st=>e=.exit 0∧Sub (T1 i01 nv time l l5 l6) st ⟨[(1,.c (int i01)),(7,.c (int iv65))],[.one (.cells 3 [[.own 1 0 c63.length,.map 2,int time]]),.one (prow 3 c63),.one (pmap 3 vU l5),pool 4 b9 c64]⟩) ?_ ?_ ?_
 ·try dsimp only
  exact Sub.env ⟨Z,Z,Z,Z,Y⟩
 ·intro s o h
  obtain ⟨c60,c61,iv62⟩:=s
  unfold S7 at h
  try dsimp only at h ⊢
  refine AWP.J (.q (.u (.j Z Z (S.mul Z Z Z (S.add Z Z Z (.v Z Z (.nil (b6 (.q (.seqJ (⟨[(0,.c (.ifc 189 [.ptr 0 0 0] false)),(1,.c (int i01)),(2,.c (int nv)),(7,.c (int iv62)),(8,.c (int (w64 ((w64 (2 * iv62))+1)))),(21,.c (bool ((decide (nv≤w64 ((w64 (2 * iv62))+1))) || (decide (w64 ((w64 (2 * iv62))+1)<0)))))],[.one (.cells 3 [[.own 1 0 c60.length,.map 2,int time]]),.one (prow 3 c60),.one (pmap 3 vU l5),pool 4 b9 c61]⟩) ?_ ?_))))))))))
  ·rcases bft (decide (nv≤w64 ((w64 (2 * iv62))+1))) with hb1 | hb1
   ·refine AWP.u (.j Z Z (.j Z Z (.geq Z Z Z (.j Z Z (.B Z Z Z hb1 (.B Z Z Z hb1 (.U Z hb1 Z Z (.nil (b6 ?_)))))))))
    simp only [Q6 hb1,or_t hb1,Bool.false_or,Bool.true_or,Bool.false_and,Bool.true_and]
    exact Sub.env ⟨Z,Z,Z,Z,Z,Z,Y⟩
   ·refine AWP.u (.j Z Z (.j Z Z (.geq Z Z Z (.j Z Z (.z Z Z Z hb1 (.j Z Z (.z Z Z Z hb1 (.F Z Z Z (.aa Z hb1 Z Z (.nil (b6 ?_)))))))))))
    simp only [N3 hb1,or_f hb1,Bool.false_or,Bool.true_or,Bool.false_and,Bool.true_and]
    exact Sub.env ⟨Z,Z,Z,Z,Z,Z,Y⟩
  ·refine AWP.ab Z h (fun hc66 h=> ?_) (fun hc66 h=> ?_)
   ·refine AWP.exit (e8 (S2 Z ?_))
    obtain rfl:=oi h
    refine e8 ⟨_,Z,Z, ?_⟩
    exact Sub.env ⟨Z,Z,Y⟩
   ·refine AWP.skip (b6 (.q (.u (.j Z Z (.v Z Z (.nil (b6 ?_)))))))
    obtain ⟨j67,hx68,h⟩:=bind_some h
    refine AWP.seqJ (⟨[(0,.c (.ifc 189 [.ptr 0 0 0] false)),(1,.c (int i01)),(2,.c (int nv)),(7,.c (int iv62)),(9,.c (int j67))],[.one (.cells 3 [[.own 1 0 c60.length,.map 2,int time]]),.one (prow 3 c60),.one (pmap 3 vU l5),pool 4 b9 c61]⟩) ?_ ?_
    ·refine AWP.q (.u (.j Z Z (S.add Z Z Z (.v Z Z (.nil (b6 ?_))))))
     obtain ⟨t69,hx70,hx68⟩:=bind_some hx68
     refine AWP.seqJ (⟨[(0,.c (.ifc 189 [.ptr 0 0 0] false)),(1,.c (int i01)),(2,.c (int nv)),(7,.c (int iv62)),(9,.c (int (w64 ((w64 (2 * iv62))+1)))),(10,.c (int (w64 ((w64 ((w64 (2 * iv62))+1))+1)))),(33,.c (bool t69))],[.one (.cells 3 [[.own 1 0 c60.length,.map 2,int time]]),.one (prow 3 c60),.one (pmap 3 vU l5),pool 4 b9 c61]⟩) ?_ ?_
     ·rcases bft (decide (w64 ((w64 ((w64 (2 * iv62))+1))+1)<nv)) with hb71 | hb71
      ·replace hx70:=P3 hb71 hx70
       obtain ⟨a32,ha32,hx70⟩:=bind_some hx70
       refine AWP.u (.j Z Z (.j Z Z (.F Z Z Z (.j Z Z (.z Z Z Z hb71 (.j Z Z (.z Z Z Z hb71 (.j Z Z (.z Z Z Z hb71 (.j Z Z (.z Z Z Z hb71 (S.invokeV (r2:=.c (bool a32)) (σ'':=[.one (.cells 3 [[.own 1 0 c60.length,.map 2,int time]]),.one (prow 3 c60),.one (pmap 3 vU l5),pool 4 b9 c61]) Z Z Z Z Z Z Z (FnOk.lend [1,3] (x7 ha32) Z Z Z Z Z Z (by exact ⟨(.one (i6 Z)),(.any l7),Y⟩) Z (by exact ⟨(.live Z (.one (i4 fun _=>Z))),(.live Z RenE.pool),Y⟩) Z Z (by exact ⟨(.old Z Z Z),(.new 0 Z Z (.one (i4 fun _=>Z))),(.old Z Z Z),(.new 1 Z Z RenE.pool),Y⟩)) (.U Z hb71 Z Z (.nil ?_))))))))))))))
       obtain rfl:=oi hx70
       refine b6 (Sub.env ⟨Z,Z,Z,Z,Z,Z,Z,Y⟩)
      ·replace hx70:=P2 hb71 hx70
       refine AWP.u (.j Z Z (.j Z Z (.F Z Z Z (.j Z Z (.B Z Z Z hb71 (.B Z Z Z hb71 (.B Z Z Z hb71 (.B Z Z Z hb71 (.aa Z hb71 Z Z (.nil ?_))))))))))
       obtain rfl:=oi hx70
       refine b6 (Sub.env ⟨Z,Z,Z,Z,Z,Z,Z,Y⟩)
     ·refine AWP.ab Z hx68 (fun hc72 hx68=> ?_) (fun hc72 hx68=> ?_)
      ·refine AWP.u (.j Z Z (.v Z Z (.nil ?_)))
       obtain rfl:=oi hx68
       refine b6 (Sub.env ⟨Z,Z,Z,Z,Z,Y⟩)
      ·refine AWP.skip ?_
       obtain rfl:=oi hx68
       refine b6 (Sub.env ⟨Z,Z,Z,Z,Z,Y⟩)
    ·refine AWP.q (.q ?_)
     obtain ⟨a38,ha38,h⟩:=bind_some h
     refine AWP.u (.j Z Z (.j Z Z (.j Z Z (S.invokeV (r2:=.c (bool a38)) (σ'':=[.one (.cells 3 [[.own 1 0 c60.length,.map 2,int time]]),.one (prow 3 c60),.one (pmap 3 vU l5),pool 4 b9 c61]) Z Z Z Z Z Z Z (FnOk.lend [1,3] (ab6 ha38) Z Z Z Z Z Z (by exact ⟨(.one (i6 Z)),(.any l7),Y⟩) Z (by exact ⟨(.live Z (.one (i4 fun _=>Z))),(.live Z RenE.pool),Y⟩) Z Z (by exact ⟨(.old Z Z Z),(.new 0 Z Z (.one (i4 fun _=>Z))),(.old Z Z Z),(.new 1 Z Z RenE.pool),Y⟩)) (.not Z Z (.nil (b6 (.ab Z h (fun hc73 h=> ?_) (fun hc73 h=> ?_)))))))))
     ·refine AWP.exit (e8 (S2 Z ?_))
      obtain rfl:=oi h
      refine e8 ⟨_,Z,Z, ?_⟩
      exact Sub.env ⟨Z,Z,Y⟩
     ·refine AWP.skip (b6 (.q ?_))
      obtain ⟨a43,ha43,u74,hu74,h⟩:=b2 h
      refine AWP.u (.j Z Z (.j Z Z (.j Z Z (S.invokeV (r2:=.tup []) (σ'':=[.one (.cells 3 [[.own 1 0 c60.length,.map 2,int time]]),.one (prow 3 a43.1),.one (pmap 3 vU l5),pool 4 b9 a43.2]) Z Z Z Z Z Z Z (FnOk.lend [1,3] (L4 ha43) Z Z Z Z Z Z (by exact ⟨(.one (i6 Z)),(.any l7),Y⟩) Z (by exact ⟨(.live Z (.one (i4 fun _=>Z))),(.live Z RenE.pool),Y⟩) Z Z (by exact ⟨(.old Z Z Z),(.new 0 Z Z (.one (i4 fun _=>Z))),(.old Z Z Z),(.new 1 Z Z RenE.pool),Y⟩)) (.nil (b6 (.u (.j Z Z (.v Z Z (.nil (e9 ?_)))))))))))
      obtain rfl:=oi h
      refine b6 ⟨_,Z, ?_⟩
      exact Sub.cut ⟨Z,Z,Z,Z,Y⟩ Z ⟨(.eq Z (by first | rfl | rw [(aj0 hu74)] | (simp only [List.length_set]; done))),(.one (i6 Z)),(.one (j8 Z)),(.any l7),Y⟩ Z
 ·intro e s hq
  obtain ⟨rfl,hs⟩:=hq
  refine ⟨_,hs, ?_⟩
  refine j5 (b6 (.q (.u (.j Z Z (.j Z Z (.gtr Z Z Z (.v Z Z (.nil (b6 (.ret ?_))))))))))
  obtain rfl:=oi h
  exact ⟨⟨[(6,.c (bool (decide (i01<iv65))))],[.one (.cells 3 [[.own 1 0 c63.length,.map 2,int time]]),.one (prow 3 c63),.one (pmap 3 vU l5),pool 4 b9 c64]⟩,Sub.env ⟨Z,Y⟩,Done.ret Z ⟨Z,Z⟩⟩
theorem ad1{time:Int}{l:List Int}{l3:List (Int × Int)}{l4:List c8}{r:(List Int) × Int}(h:B0 time l l3 l4=some r):FnOk prog 206 [.c (.ptr 0 0 0)] (ac5 time l l3 l4) (fun tt ss=>tt=.c (.ifc 184 [.ptr (3,[r.2.toNat]) 0 0] false)∧ss=[.one (.cells 3 [[.own 5 0 r.1.length,.map 2,int time]]),.dead,.one (pmap 3 vU l3),pool 4 b9 l4,.dead,.one (prow 3 r.1)]):=by
 refine FnOk.enter (rs:=[.t 2]) func206 Z ntmps206 results206 Z ⟨trivial,Y⟩ (by kernel_rfl) Z ?_
 refine AWP.weak ?_
 unfold B0 at h
 refine AWP.j (env':=[(0,.c (.ptr 0 0 0))]) (σ':=[.one (.cells 3 [[.own 4 0 l.length,.map 2,int time]]),.dead,.one (pmap 3 vU l3),pool 4 b9 l4,.one (prow 3 l)]) 4 1 Z Z Z ⟨Z,Y⟩ Z ⟨⟨Z,Z⟩,trivial,⟨j8 Z,w9 Z K1⟩,(r9.pool Z),⟨i6 Z,w9 Z K3⟩,Y⟩ (.q (.u (.v Z Z (.nil (b6 (.q (.u (.j Z Z (.ag Z Z Z (.E Z Z Z Z Z Z (.v Z Z (.nil (b6 (.q ?_))))))))))))))
 obtain ⟨a12,ha12,h⟩:=bind_some h
 refine AWP.u (.j Z Z (.j Z Z (.lenOwnB Z Z Z (fun hl10=>.sub' Z Z Z (by omega) (S.idxPb Z Z Z (by simpa only [List.length_set] using n7 ha12) Z Z (S.loadP ha12 Z Z Z Z (.v Z Z (.nil (b6 (.q ?_))))))))))
 obtain ⟨a19,ha19,h⟩:=bind_some h
 refine AWP.u (.j Z Z (.j Z Z (.j Z Z (.lenOwnB Z Z Z (fun hl17=>.sub' Z Z Z (by omega) (S.shrinkP ha19 Z Z Z Z Z (.sub (Sub.reownP (env':=[(0,.c (.ptr 0 0 0)),(2,.c (.imm (.val .nilIface))),(4,.c (.ptr (3,[a12.toNat]) 0 0)),(5,.c (.ptr 0 0 0)),(6,.c (.ptr 0 0 0)),(10,.c (int (l.length:Int))),(11,.c (int ((l.length:Int) - 1))),(13,.c (.ptr (3,[a12.toNat]) 0 0)),(14,.c (.ptr 0 0 0)),(17,.c (int (l.length:Int))),(18,.c (int ((l.length:Int) - 1))),(19,.c (.own 5 0 a19.length))]) 19 ha19 Z Z Z Z Z Z Z (by exact ⟨.inr Z,.inr Z,.inr Z,.inr Z,.inr Z,.inr Z,.inr Z,.inr Z,.inr Z,.inr Z,.inr Z,.inl ⟨Z,Z⟩,Y⟩)) (.ag Z Z Z (W.store Z Z Z Z Z (.nil (b6 (.q (.u (.j Z Z (S.mkIfc Z Z Z (.v Z Z (.nil (b6 (.ret ?_)))))))))))))))))))
 obtain rfl:=oi h
 exact ⟨⟨[(2,.c (.ifc 184 [.ptr (3,[a12.toNat]) 0 0] false))],[.one (.cells 3 [[.own 5 0 a19.length,.map 2,int time]]),.dead,.one (pmap 3 vU l3),pool 4 b9 l4,.dead,.one (prow 3 a19)]⟩,Sub.env ⟨Z,Y⟩,Done.ret Z ⟨Z,Z⟩⟩
theorem am0{time:Int}{l:List Int}{l3:List (Int × Int)}{l4:List c8}{r:(List c8) × (List Int) × Int}(h:E8 time l l3 l4=some r):FnOk prog 107 [.c (.ifc 189 [.ptr 0 0 0] false)] (am5 time l l3 l4) (fun tt ss=>tt=.c (.ifc 184 [.ptr (3,[r.2.2.toNat]) 0 0] false)∧ss=[.one (.cells 3 [[.own 5 0 r.2.1.length,.map 2,int time]]),.dead,.one (pmap 3 vU l3),pool 4 b9 r.1,.dead,.one (prow 3 r.2.1)]):=by
 refine FnOk.enter (rs:=[.t 2]) func107 Z ntmps107 results107 Z ⟨trivial,Y⟩ (by kernel_rfl) Z ?_
 refine AWP.weak ?_
 unfold E8 at h
 refine AWP.q (.u (.v Z Z (.nil (b6 (.q ?_)))))
 obtain ⟨a5,ha5,h⟩:=bind_some h
 refine AWP.u (.j Z Z (S.invokeV (r2:=.c (int (l.length:Int))) (σ'':=[.one (.cells 3 [[.own 1 0 l.length,.map 2,int time]]),.one (prow 3 l),.one (pmap 3 vU l3),pool 4 b9 l4]) Z Z Z Z Z Z Z (FnOk.lend [1,3] (D7 ha5) Z Z Z Z Z Z (by exact ⟨(.one (i6 Z)),(.any l7),Y⟩) Z (by exact ⟨(.live Z (.one (i4 fun _=>Z))),(.live Z RenE.pool),Y⟩) Z Z (by exact ⟨(.old Z Z Z),(.new 0 Z Z (.one (i4 fun _=>Z))),(.old Z Z Z),(.new 1 Z Z RenE.pool),Y⟩)) (S.sub Z Z Z (.v Z Z (.nil (b6 (.q ?_)))))))
 obtain ⟨a9,ha9,u58,hu58,h⟩:=b2 h
 refine AWP.u (.j Z Z (.j Z Z (S.invokeV (r2:=.tup []) (σ'':=[.one (.cells 3 [[.own 1 0 l.length,.map 2,int time]]),.one (prow 3 a9.1),.one (pmap 3 vU l3),pool 4 b9 a9.2]) Z Z Z Z Z Z Z (FnOk.lend [1,3] (L4 ha9) Z Z Z Z Z Z (by exact ⟨(.one (i6 Z)),(.any l7),Y⟩) Z (by exact ⟨(.live Z (.one (i4 fun _=>Z))),(.live Z RenE.pool),Y⟩) Z Z (by exact ⟨(.old Z Z Z),(.new 0 Z Z (.one (i4 fun _=>Z))),(.old Z Z Z),(.new 1 Z Z RenE.pool),Y⟩)) (.nil (b6 (.q ?_))))))
 obtain ⟨a12,ha12,h⟩:=bind_some h
 refine AWP.u (.j Z Z (.j Z Z (.sub (s':=⟨[(0,.c (.ifc 189 [.ptr 0 0 0] false)),(2,.c (.imm (.val .nilIface))),(3,.c (int (w64 ((l.length:Int) - 1)))),(4,.c (.ifc 189 [.ptr 0 0 0] false)),(5,.c (int (l.length:Int))),(6,.c (int (w64 ((l.length:Int) - 1)))),(7,.c (.ifc 189 [.ptr 0 0 0] false)),(8,.c (int (w64 ((l.length:Int) - 1)))),(9,.tup []),(10,.c (.ifc 189 [.ptr 0 0 0] false)),(11,.c (int (w64 ((l.length:Int) - 1))))],[.one (.cells 3 [[.own 1 0 a9.1.length,.map 2,int time]]),.one (prow 3 a9.1),.one (pmap 3 vU l3),pool 4 b9 a9.2]⟩) (Sub.cut ⟨Z,Z,Z,Z,Z,Z,Z,Z,Z,Z,Z,Y⟩ Z ⟨(.eq Z (by rw [(aj0 hu58)])),(.one (i6 Z)),(.one (j8 Z)),(.any l7),Y⟩ Z) (.callF (r2:=.c (bool a12.2.2)) (σ'':=[.one (.cells 3 [[.own 1 0 a12.1.length,.map 2,int time]]),.one (prow 3 a12.1),.one (pmap 3 vU l3),pool 4 b9 a12.2.1]) Z Z Z (FnOk.lend [0,1,2,3] (aj1 ha12) Z Z Z Z Z Z (by exact ⟨(.one Z),(.one (i6 Z)),(.one (j8 Z)),(.any l7),Y⟩) Z (by exact ⟨(.live Z (.one Z)),(.live Z (.one (i4 fun _=>Z))),(.live Z (.one (k8 fun _=>Z))),(.live Z RenE.pool),Y⟩) Z Z (by exact ⟨(.new 0 Z Z (.one Z)),(.new 1 Z Z (.one (i4 fun _=>Z))),(.new 2 Z Z (.one (k8 fun _=>Z))),(.new 3 Z Z RenE.pool),Y⟩)) (.nil (b6 (.q ?_)))))))
 obtain ⟨a14,ha14,h⟩:=bind_some h
 refine AWP.u (.j Z Z (S.invokeP (r2:=.c (.ifc 184 [.ptr (3,[a14.2.toNat]) 0 0] false)) (σ'':=[.one (.cells 3 [[.own 5 0 a14.1.length,.map 2,int time]]),.dead,.one (pmap 3 vU l3),pool 4 b9 a12.2.1,.dead,.one (prow 3 a14.1)]) Z Z Z (FnOk.lend [0,1,2,3] (ad1 ha14) Z Z Z Z Z Z (by exact ⟨(.one Z),(.one (i6 Z)),(.one (j8 Z)),(.any l7),Y⟩) Z (by exact ⟨(.live Z (.one Z)),(.live Z (.one (i4 fun _=>Z))),(.live Z (.one (k8 fun _=>Z))),(.live Z RenE.pool),Y⟩) Z Z (by exact ⟨(.new 0 Z Z (.one Z)),.dead,(.new 2 Z Z (.one (k8 fun _=>Z))),(.new 3 Z Z RenE.pool),.dead,(.new 5 Z Z (.one (i4 fun _=>Z))),Y⟩)) (.v Z Z (.nil (b6 (.ret ?_))))))
 obtain rfl:=oi h
 exact ⟨⟨[(2,.c (.ifc 184 [.ptr (3,[a14.2.toNat]) 0 0] false))],[.one (.cells 3 [[.own 5 0 a14.1.length,.map 2,int time]]),.dead,.one (pmap 3 vU l3),pool 4 b9 a12.2.1,.dead,.one (prow 3 a14.1)]⟩,Sub.env ⟨Z,Y⟩,Done.ret Z ⟨Z,Z⟩⟩
theorem aa4{time:Int}{l:List Int}{l3:List (Int × Int)}{l4:List c8}{r:(List (Int × Int)) × (List c8) × (List Int) × Int × Int × Bool}(h:v6 time l l3 l4=some r):FnOk prog 69 [.c (.ptr 0 0 0)] (ab1 time l l3 l4) (fun tt ss=>tt=.tup [.c (.imm (.val (.int .u32 r.2.2.2.1))),.c (int r.2.2.2.2.1),.c (bool r.2.2.2.2.2)]∧ss=[.one (.cells 3 [[.own 4 0 r.2.2.1.length,.map 2,int time]]),.dead,.one (pmap 3 vU r.1),pool 4 b9 r.2.1,.one (prow 3 r.2.2.1)]):=by
 refine FnOk.enter (rs:=[.t 2,.t 3,.t 4]) func69 Z ntmps69 results69 Z ⟨trivial,trivial,trivial,Y⟩ (by kernel_rfl) Z ?_
 refine AWP.weak ?_
 unfold v6 at h
 refine AWP.j (env':=[(0,.c (.ptr 0 0 0))]) (σ':=[.one (.cells 3 [[.own 4 0 l.length,.map 2,int time]]),.dead,.one (pmap 3 vU l3),pool 4 b9 l4,.one (prow 3 l)]) 4 1 Z Z Z ⟨Z,Y⟩ Z ⟨⟨Z,Z⟩,trivial,⟨j8 Z,w9 Z K1⟩,(r9.pool Z),⟨i6 Z,w9 Z K3⟩,Y⟩ (.q (.u (.v Z Z (.v Z Z (.v Z Z (.nil (b6 (.q (.q (.u (.j Z Z (.ag Z Z Z (W.fieldAddr Z Z Z Z (.E Z Z Z Z Z Z (.lenOwnB Z Z Z (fun hl10=>.eql Z Z Z (.nil (b6 (.ite Z h (fun hc61 h=> ?_) (fun hc61 h=> ?_))))))))))))))))))))
 ·refine AWP.q (.u (.j Z Z (.v Z Z (.v Z Z (.v Z Z (.nil (b6 (.ret (e7 ?_)))))))))
  obtain rfl:=oi h
  exact ⟨⟨[(2,.c (.imm (.val (.int .u32 0)))),(3,.c (int 0)),(4,.c (bool false))],[.one (.cells 3 [[.own 4 0 l.length,.map 2,int time]]),.dead,.one (pmap 3 vU l3),pool 4 b9 l4,.one (prow 3 l)]⟩,Sub.env ⟨Z,Z,Z,Y⟩,Done.ret Z ⟨Z,Z⟩⟩
 ·refine AWP.skip (b6 (.q ?_))
  obtain ⟨a17,ha17,h⟩:=bind_some h
  refine AWP.u (.j Z Z (.ag Z Z Z (W.fieldAddr Z Z Z Z (S.mkIfc Z Z Z (.callF (r2:=.c (.ifc 184 [.ptr (3,[a17.2.2.toNat]) 0 0] false)) (σ'':=[.one (.cells 3 [[.own 6 0 a17.2.1.length,.map 2,int time]]),.dead,.one (pmap 3 vU l3),pool 4 b9 a17.1,.dead,.dead,.one (prow 3 a17.2.1)]) Z Z Z (FnOk.lend [0,4,2,3] (am0 ha17) Z Z Z Z Z Z (by exact ⟨(.one Z),(.one (i6 Z)),(.one (j8 Z)),(.any l7),Y⟩) Z (by exact ⟨(.live Z (.one Z)),(.live Z (.one (i4 fun _=>Z))),(.live Z (.one (k8 fun _=>Z))),(.live Z RenE.pool),Y⟩) Z Z (by exact ⟨(.new 0 Z Z (.one Z)),.dead,(.new 2 Z Z (.one (k8 fun _=>Z))),(.new 3 Z Z RenE.pool),.dead,.dead,(.new 5 Z Z (.one (i4 fun _=>Z))),Y⟩)) (S.assert Z Z Z (.v Z Z (.nil (b6 (.q ?_))))))))))
  obtain ⟨en62,hen62,h⟩:=bind_some h
  refine AWP.drawEI [8] mixed Z Z Z ?_
  refine d6.consN Z Z (fun E=>AOps.j Z Z .N) Z (.consN Z Z (fun E=>AOps.ag Z Z Z .N) Z (.consN Z Z (fun E=>W.fieldAddr Z Z Z Z .N) Z (.consN Z Z (fun E=>AOps.E Z Z Z Z Z Z .N) Z (.consN Z Z (fun E=>AOps.j Z Z .N) Z (.consN Z Z (fun E=>S.nilCheckE Z Z (by simpa only [List.length_set] using h9 hen62) Z .N) Z (.consN Z Z (fun E=>S.fieldE Z Z Z (by simpa only [List.length_set] using h9 hen62) Z .N) Z (.consN Z Z (fun E=>AOps.E Z Z (n9 Z hen62) Z Z Z .N) Z ?_)))))))
  apply d6.consE (v:=.undef); exact Z; exact Z; intro E
  refine S.deleteP (fk:=vU) (k:=en62.item) G0 Z Z Z Z Z .N
  exact Z
  exact Z
  refine d6.done Z ?_ ?_
  ·refine c9.cons Z Z ?_ ?_
   refine b7.go Z Z (fun E=>AOps.j Z Z .N) ?_
   refine b7.skip Z (b7.nil)
   refine c9.cons Z Z ?_ ?_
   refine b7.go Z Z (fun E=>AOps.ag Z Z Z .N) ?_
   refine b7.skip Z (b7.nil)
   refine c9.cons Z Z ?_ ?_
   refine b7.go Z Z (fun E=>W.fieldAddr Z Z Z Z .N) ?_
   refine b7.skip Z (b7.nil)
   refine c9.cons Z Z ?_ ?_
   refine b7.go Z Z (fun E=>AOps.E Z Z Z Z Z Z .N) ?_
   refine b7.skip Z (b7.nil)
   refine c9.cons Z Z ?_ ?_
   refine b7.go Z Z (fun E=>AOps.j Z Z .N) ?_
   refine b7.skip Z (b7.nil)
   refine c9.cons Z Z ?_ ?_
   refine b7.go Z Z (fun E=>S.nilCheckE Z Z (by simpa only [List.length_set] using h9 hen62) Z .N) ?_
   refine b7.skip Z (b7.nil)
   refine c9.cons Z Z ?_ ?_
   refine b7.go Z Z (fun E=>S.fieldE Z Z Z (by simpa only [List.length_set] using h9 hen62) Z .N) ?_
   refine b7.skip Z (b7.nil)
   refine c9.cons Z Z ?_ ?_
   refine b7.go Z Z (fun E=>AOps.E Z Z (n9 Z hen62) Z Z Z .N) ?_
   refine b7.skip Z (b7.nil)
   refine c9.skip Z (c9.nil)
  dsimp only [j9]
  refine b6 (.q (.drawI mixed Z ?_))
  refine j7.consF Z (fun E=>AOps.j Z Z .N) Z (.consF Z (fun E=>S.nilCheckE Z Z (by simpa only [List.length_set] using h9 hen62) Z .N) Z (.consF Z (fun E=>S.fieldE Z Z Z (by simpa only [List.length_set] using h9 hen62) Z .N) Z (.consF Z (fun E=>AOps.E Z Z (n9 Z hen62) Z Z Z .N) Z (.consF Z (fun E=>AOps.j Z Z .N) Z (.consF Z (fun E=>S.nilCheckE Z Z (by simpa only [List.length_set] using h9 hen62) Z .N) Z (.consF Z (fun E=>S.fieldE Z Z Z (by simpa only [List.length_set] using h9 hen62) Z .N) Z (.consF Z (fun E=>AOps.E Z Z (n9 Z hen62) Z Z Z .N) Z (.consF Z (fun E=>AOps.v Z Z .N) Z (.consF Z (fun E=>AOps.v Z Z .N) Z (.consF Z (fun E=>AOps.v Z Z .N) Z ?_))))))))))
  refine j7.done ?_
  dsimp only [j9]
  refine b6 (.ret ?_)
  obtain rfl:=oi h
  exact ⟨⟨[(2,.c (.imm (.val (.int .u32 en62.item)))),(3,.c (int en62.key)),(4,.c (bool true))],[.one (.cells 3 [[.own 4 0 a17.2.1.length,.map 2,int time]]),.dead,.one (pmap 3 vU (mdel l3 en62.item)),pool 4 b9 a17.1,.one (prow 3 a17.2.1)]⟩,(Sub.move (env':=[(2,.c (.imm (.val (.int .u32 en62.item)))),(3,.c (int en62.key)),(4,.c (bool true))]) (σ':=[.one (.cells 3 [[.own 4 0 a17.2.1.length,.map 2,int time]]),.dead,.one (pmap 3 vU (mdel l3 en62.item)),pool 4 b9 a17.1,.one (prow 3 a17.2.1),.dead]) 4 6 Z Z Z ⟨Z,Z,Z,Y⟩ Z ⟨⟨Z,Z⟩,trivial,⟨j8 Z,w9 Z K1⟩,(r9.pool Z),⟨i6 Z,w9 Z K3⟩,trivial,Y⟩).trans (Sub.cut ⟨Z,Z,Z,Y⟩ Z ⟨.one Z,.dead,(.one (j8 Z)),(.any l7),(.one (i6 Z)),Y⟩ Z),Done.ret Z ⟨Z,Z⟩⟩
end Ab
end
