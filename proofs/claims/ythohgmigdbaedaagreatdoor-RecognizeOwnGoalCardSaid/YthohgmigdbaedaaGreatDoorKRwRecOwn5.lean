/-
  Texts that the proof stands on.
-/
import Derived.Test.YthohgmigdbaedaaGreatDoorKRwRecOwn4
set_option linter.all false
section
namespace Ab
open Go Go.Proofs
open Tryz
set_option maxHeartbeats 4000000
set_option linter.all false
attribute [local irreducible] AWP AOps thn inB Done h9 s7 Sub
theorem B7{sv:List Int}{r:Int}(h:K3 sv=some r):h9 prog 79 [.c (row 1 intI sv)] (.c (.imm (.val (.int .u32 r)))):=by
 unfold h9
 refine FnOk.enter (rs:=[.t 2]) func79 Z ntmps79 results79 Z ⟨trivial,Y⟩ (by kernel_rfl) Z ?_
 unfold K3 at h
 refine AWP.q (.u (.v Z Z (.nil (b6 (.q (.u (.v Z Z (.nil (b6 (.q (.q (.u (.j Z Z (S.len Z Z (fun hl7=>.j Z Z (.nil (b6 (.J ?_))))))))))))))))))
 obtain ⟨w2,ho1,h⟩:=bind_some h
 refine AWP.forS ho1 (fun t3 w2=>⟨[(3,.c (.imm (.val (.int .u32 w2)))),(6,.c (row 1 intI sv)),(7,.c (int (sv.length:Int))),(8,.c (int t3))],[]⟩) (fun w2 e st=>e=.exit 0∧Sub [] st ⟨[(3,.c (.imm (.val (.int .u32 w2))))],[]⟩) ?_ ?_ ?_ ?_
 ·try dsimp only
  exact Sub.env ⟨Z,Z,Z,Z,Y⟩
 ·intro t3 w2 hlot3 hltt3 _
  try dsimp only
  refine AWP.q (.u (.F Z Z Z (.nil (b6 (.q (.ad Z hltt3 (.exit (f8 (f8 ⟨Z, ?_⟩)))))))))
  exact Sub.env ⟨Z,Y⟩
 ·intro t3 w2 o hlot3 hltt3 h
  unfold aa3 at h
  try dsimp only at h ⊢
  refine AWP.q (.u (.F Z Z Z (.nil (b6 (.q (.ae Z hltt3 (.skip (b6 (.q (.J (.q ?_)))))))))))
  obtain ⟨a10,ha10,h⟩:=bind_some h
  refine AWP.u (S.idx ha10 Z Z Z Z (.ag Z Z Z Z (.v Z Z (.nil (b6 ?_)))))
  obtain ⟨u14,hu14,h⟩:=bind_some h
  refine AWP.u (.j Z Z (.j Z Z (S.shl hu14 Z Z Z (.bits Z Z Z (by simp) (.v Z Z (.nil (f5 (b6 (.u (.add Z Z Z (by omega) (.j Z Z (.nil ?_))))))))))))
  obtain rfl:=oi h
  refine b6 (Sub.env ⟨Z,Z,Z,Z,Y⟩)
 ·intro e s hq
  obtain ⟨rfl,hs⟩:=hq
  refine ⟨_,hs, ?_⟩
  refine k8 (b6 (.q (.u (.j Z Z (.v Z Z (.nil (b6 (.ret ?_))))))))
  obtain rfl:=oi h
  exact Done.ret Z Z
theorem ap3{w:Int}{r:(List Int)}(h:U2 w=some r):s7 prog 59 [.c (.imm (.val (.int .u32 w)))] 1 (List.map intI r):=by
 unfold s7
 refine FnOk.enter (rs:=[.t 2]) func59 Z ntmps59 results59 Z ⟨trivial,Y⟩ (by kernel_rfl) Z ?_
 unfold U2 at h
 refine AWP.q (.u (.v Z Z (.nil (b6 (.q (.u (.v Z Z (.nil (b6 (.q (.q (.u (.j Z Z (.nil (b6 (.J (.virtV 1 intI 3 Z Z Z ?_)))))))))))))))))
 obtain ⟨c2,ho1,h⟩:=bind_some h
 refine AWP.forS ho1 (fun t3 c2=>⟨[(0,.c (.imm (.val (.int .u32 w)))),(3,.c (.own 0 0 c2.length)),(5,.c (int t3))],[.one (vec 1 intI c2)]⟩) (fun c2 e st=>e=.exit 0∧Sub [] st ⟨[(3,.c (.own 0 0 c2.length))],[.one (vec 1 intI c2)]⟩) ?_ ?_ ?_ ?_
 ·try dsimp only
  exact Sub.env ⟨Z,(R4 (by first | rfl | simp only [List.length_set])),Z,Y⟩
 ·intro t3 c2 hlot3 hltt3 _
  try dsimp only
  refine AWP.q (.u (.F Z Z Z (.nil (b6 (.q (.ad Z hltt3 (.exit (f8 (f8 ⟨Z, ?_⟩)))))))))
  exact Sub.env ⟨Z,Y⟩
 ·intro t3 c2 o hlot3 hltt3 h
  unfold X6 at h
  try dsimp only at h ⊢
  refine AWP.q (.u (.F Z Z Z (.nil (b6 (.q (.ae Z hltt3 (.skip (b6 ?_))))))))
  obtain ⟨c4,hx5,h⟩:=bind_some h
  refine AWP.seqJ (⟨[(0,.c (.imm (.val (.int .u32 w)))),(3,.c (.own 2 0 c4.length)),(5,.c (int t3))],[.dead,.dead,.one (vec 1 intI c4)]⟩) ?_ ?_
  ·refine AWP.J (.q (.u (.j Z Z (.v Z Z (.nil (b6 (.q (.u (.j Z Z (.j Z Z (.shr Z Z Z (by first | decide | omega) Z (.bits Z Z Z (by simp) (.ab Z Z Z (.nil (b6 (.ite Z hx5 (fun hc6 hx5=> ?_) (fun hc6 hx5=> ?_)))))))))))))))))
   ·obtain ⟨a16,ha16,hx5⟩:=bind_some hx5
    refine AWP.u (.j Z Z (.j Z Z (S.lit (f:=intI) (l:=[t3]) (ess:=[[int t3]]) Z Z Z Z Z Z Z ⟨⟨.inl Z,Y⟩,Y⟩ Z Z Z (S.append (f:=intI) ha16 Z Z Z Z Z Z (.own Z Z) Z Z Z Z (.v Z Z (.nil (f5 ?_)))))))
    obtain rfl:=oi hx5
    refine b6 (Sub.cut ⟨Z,Z,Z,Y⟩ Z ⟨.dead,.dead,.vec,Y⟩ Z)
   ·refine AWP.skip (f5 ?_)
    obtain rfl:=oi hx5
    refine b6 ((Sub.move (env':=[(0,.c (.imm (.val (.int .u32 w)))),(3,.c (.own 2 0 c2.length)),(5,.c (int t3))]) (σ':=[.dead,.dead,.one (vec 1 intI c2)]) 2 0 Z Z Z ⟨Z,Z,Z,Y⟩ Z ⟨trivial,trivial,⟨Blk.im_ok _ _ _,j6 Z⟩,Y⟩).trans (Sub.env ⟨Z,Z,Z,Y⟩))
  ·refine AWP.u (.add Z Z Z (by omega) (.j Z Z (.nil ?_)))
   obtain rfl:=oi h
   refine b6 ((Sub.move (env':=[(0,.c (.imm (.val (.int .u32 w)))),(3,.c (.own 0 0 c4.length)),(5,.c (int (t3+1)))]) (σ':=[.one (vec 1 intI c4),.dead]) 0 2 Z Z Z ⟨Z,Z,Z,Y⟩ Z ⟨⟨Blk.im_ok _ _ _,j6 Z⟩,trivial,Y⟩).trans (Sub.cut ⟨Z,Z,Z,Y⟩ Z ⟨.vec,Y⟩ Z))
 ·intro e s hq
  obtain ⟨rfl,hs⟩:=hq
  refine ⟨_,hs, ?_⟩
  refine k8 (b6 (.q (.u (.j Z Z (.v Z Z (.nil (b6 (.ret ?_))))))))
  obtain rfl:=oi h
  exact Done.ret Z (Fresh.mk Z Z)
theorem at4{av:Int}{bv:Int}{r:Int}(h:I6 av bv=some r):h9 prog 57 [.c (.imm (.val (.int .u32 av))),.c (.imm (.val (.int .u32 bv)))] (.c (int r)):=by
 unfold h9
 refine FnOk.enter (rs:=[.t 4]) func57 Z ntmps57 results57 Z ⟨trivial,Y⟩ (by kernel_rfl) Z ?_
 unfold I6 at h
 refine AWP.q (.u (.v Z Z (.nil (b6 (.q ?_)))))
 obtain ⟨a6,ha6,a8,ha8,a9,ha9,h⟩:=b3 h
 refine AWP.u (.j Z Z (S.fresh Z Z Z Z (ap3 ha6) Z Z (.j Z Z (S.fresh Z Z Z Z (ap3 ha8) Z Z (.callL Z Z (.cons (.c (.own Z Z)) (.cons (.c (.own Z Z)) .nil)) Z (V0 ha9) Z (.v Z Z (.nil (b6 (.ret ?_)))))))))
 obtain rfl:=oi h
 exact Done.ret Z Z
theorem space_Of_w_ok{t:f9}{r:Int × Int × (List j8)}(h:ae7 t=some r):FnOk prog 54 [.agg (tT t)] (ar3 t) (fun tt ss=>tt=.c (.ptr 1 0 0)∧ss=[.dead,.one (.cells 3 [[.imm (.val (.int .u32 r.1)),.imm (.val (.int .u32 r.2.1)),.own 2 0 r.2.2.length]]),.one (vec 4 e8 r.2.2)]):=by
 refine FnOk.enter (rs:=[.t 2]) func54 Z ntmps54 results54 Z ⟨trivial,Y⟩ (by kernel_rfl) Z ?_
 refine AWP.weak ?_
 unfold ae7 at h
 refine AWP.q (.u (W.box Z Z Z Z Z Z (.v Z Z (.nil (b6 (.q ?_))))))
 obtain ⟨a8,ha8,a11,ha11,h⟩:=b2 h
 refine AWP.drawEI [7] mixed Z Z Z ?_
 refine e9.consN Z Z (fun E=>W.fieldAddr Z Z Z Z .N) Z (.consN Z Z (fun E=>AOps.E Z Z Z Z Z Z .N) Z (.consN Z Z (fun E=>AOps.aa Z Z Z Z (B7 ha8) Z .N) Z (.consN Z Z (fun E=>W.fieldAddr Z Z Z Z .N) Z (.consN Z Z (fun E=>AOps.E Z Z Z Z Z Z .N) Z (.consN Z Z (fun E=>AOps.aa Z Z Z Z (B7 ha11) Z .N) Z (.consN Z Z (fun E=>W.build Z Z Z Z .N) Z ?_))))))
 apply e9.consE; exact Z; exact Z; intro E
 refine W.box Z Z Z Z Z Z .N
 exact Z
 exact Z
 refine e9.consN Z Z (fun E=>AOps.v Z Z .N) Z ?_
 refine e9.done Z ?_ ?_
 ·refine d9.cons Z Z ?_ ?_
  refine b7.go Z Z (fun E=>W.fieldAddr Z Z Z Z .N) ?_
  refine b7.skip Z (b7.nil)
  refine d9.cons Z Z ?_ ?_
  refine b7.go Z Z (fun E=>AOps.E Z Z Z Z Z Z .N) ?_
  refine b7.skip Z (b7.nil)
  refine d9.cons Z Z ?_ ?_
  refine b7.go Z Z (fun E=>AOps.aa Z Z Z Z (B7 ha8) Z .N) ?_
  refine b7.skip Z (b7.nil)
  refine d9.cons Z Z ?_ ?_
  refine b7.go Z Z (fun E=>W.fieldAddr Z Z Z Z .N) ?_
  refine b7.skip Z (b7.nil)
  refine d9.cons Z Z ?_ ?_
  refine b7.go Z Z (fun E=>AOps.E Z Z Z Z Z Z .N) ?_
  refine b7.skip Z (b7.nil)
  refine d9.cons Z Z ?_ ?_
  refine b7.go Z Z (fun E=>AOps.aa Z Z Z Z (B7 ha11) Z .N) ?_
  refine b7.skip Z (b7.nil)
  refine d9.cons Z Z ?_ ?_
  refine b7.go Z Z (fun E=>W.build Z Z Z Z .N) ?_
  refine b7.skip Z (b7.nil)
  refine d9.skip Z ?_
  refine d9.cons Z Z ?_ ?_
  refine b7.skip Z ?_
  refine b7.go Z Z (fun E=>AOps.v Z Z .N) ?_
  exact b7.nil
  exact d9.nil
 dsimp only [l8]
 refine b6 (.q (.q (.u (W.fieldAddr Z Z Z Z (.E Z Z Z Z Z Z (S.len Z Z (fun hl16=>.j Z Z (.nil (b6 (.J (.virtB 4 e8 (b:=1) (o:=2) Z Z Z Z Z Z ?_)))))))))))
 obtain ⟨c55,ho1,h⟩:=bind_some h
 refine AWP.forS ho1 (fun t56 c55=>⟨[(3,.c (.ptr 1 0 0)),(15,.c (row 4 u5 t.operators)),(16,.c (int (t.operators.length:Int))),(17,.c (int t56))],[.dead,.one (.cells 3 [(wW a8 a11 2 c55.length)]),.one (vec 4 e8 c55)]⟩) (fun c55 e st=>e=.exit 0∧Sub (ar3 t) st ⟨[(3,.c (.ptr 1 0 0))],[.dead,.one (.cells 3 [(wW a8 a11 2 c55.length)]),.one (vec 4 e8 c55)]⟩) ?_ ?_ ?_ ?_
 ·try dsimp only
  exact Sub.cut ⟨Z,Z,Z,Z,Y⟩ Z ⟨.dead,(.eq Z (by first | rfl | (simp only [List.length_set]; done))),.vec,Y⟩ Z
 ·intro t56 c55 hlot56 hltt56 _
  try dsimp only
  refine AWP.q (.u (.F Z Z Z (.nil (b6 (.q (.ad Z hltt56 (.exit (f8 (f8 ⟨Z, ?_⟩)))))))))
  exact Sub.env ⟨Z,Y⟩
 ·intro t56 c55 o hlot56 hltt56 h
  unfold aa1 at h
  try dsimp only at h ⊢
  refine AWP.q (.u (.F Z Z Z (.nil (b6 (.q (.ae Z hltt56 (.skip (b6 (.q (.J (.q ?_)))))))))))
  obtain ⟨a19,ha19,h⟩:=bind_some h
  refine AWP.u (S.idx ha19 Z Z Z Z (W.loadIAgg Z Z Z Z Z (W.alloc Z Z Z Z (W.storeAgg Z Z Z Z Z Z Z (.nil (b6 ?_))))))
  obtain ⟨a28,ha28,a31,ha31,a34,ha34,h⟩:=b3 h
  obtain ⟨a39,ha39,h⟩:=bind_some h
  refine AWP.drawEI [17,18,21] mixed Z Z Z ?_
  refine e9.consN Z Z (fun E=>AOps.j Z Z .N) Z (.consN Z Z (fun E=>AOps.j Z Z .N) Z (.consN Z Z (fun E=>AOps.ah Z Z Z .N) Z (.consN Z Z (fun E=>W.fieldAddr Z Z Z Z .N) Z (.consN Z Z (fun E=>AOps.E Z Z Z Z Z Z .N) Z (.consN Z Z (fun E=>W.fieldAddr Z Z Z Z .N) Z (.consN Z Z (fun E=>AOps.E Z Z Z Z Z Z .N) Z (.consN Z Z (fun E=>AOps.aa Z Z Z Z (B7 ha28) Z .N) Z (.consN Z Z (fun E=>W.fieldAddr Z Z Z Z .N) Z (.consN Z Z (fun E=>AOps.E Z Z Z Z Z Z .N) Z (.consN Z Z (fun E=>AOps.aa Z Z Z Z (B7 ha31) Z .N) Z (.consN Z Z (fun E=>W.fieldAddr Z Z Z Z .N) Z (.consN Z Z (fun E=>AOps.E Z Z Z Z Z Z .N) Z (.consN Z Z (fun E=>AOps.aa Z Z Z Z (B7 ha34) Z .N) Z (.consN Z Z (fun E=>W.fieldAddr Z Z Z Z .N) Z (.consN Z Z (fun E=>AOps.E Z Z Z Z Z Z .N) Z (.consN Z Z (fun E=>W.build Z Z Z Z .N) Z ?_))))))))))))))))
  apply e9.consE; exact Z; exact Z; intro E
  refine S.lit (f:=e8) (l:=[(⟨a28,a31,a34,a19.cost⟩:j8)]) (ess:=[[.imm (.val (.int .u32 a28)),.imm (.val (.int .u32 a31)),.imm (.val (.int .u32 a34)),int a19.cost]]) Z Z Z Z Z Z Z ⟨⟨.inl Z,.inl Z,.inl Z,.inl Z,Y⟩,Y⟩ Z Z Z .N
  exact Z
  exact Z
  apply e9.consE; exact Z; exact Z; intro E
  refine S.append (f:=e8) ha39 Z Z Z Z Z Z (.own Z Z) Z Z Z Z .N
  exact Z
  exact Z
  refine e9.consN Z Z (fun E=>AOps.ah Z Z Z .N) Z (.consN Z Z (fun E=>W.fieldAddr Z Z Z Z .N) Z ?_)
  apply e9.consE (v:=.undef); exact Z; exact Z; intro E
  refine W.store Z Z Z Z Z .N
  exact Z
  exact Z
  refine e9.done Z ?_ ?_
  ·refine d9.cons Z Z ?_ ?_
   refine b7.go Z Z (fun E=>AOps.j Z Z .N) ?_
   refine b7.go Z Z (fun E=>AOps.j Z Z .N) ?_
   refine b7.go Z Z (fun E=>AOps.j Z Z .N) ?_
   refine b7.skip Z (b7.nil)
   refine d9.cons Z Z ?_ ?_
   refine b7.go Z Z (fun E=>AOps.j Z Z .N) ?_
   refine b7.go Z Z (fun E=>AOps.j Z Z .N) ?_
   refine b7.skip Z (b7.skip Z (b7.nil))
   refine d9.cons Z Z ?_ ?_
   refine b7.go Z Z (fun E=>AOps.ah Z Z Z .N) ?_
   refine b7.go Z Z (fun E=>AOps.ah Z Z Z .N) ?_
   refine b7.skip Z (b7.skip Z (b7.nil))
   refine d9.cons Z Z ?_ ?_
   refine b7.go Z Z (fun E=>W.fieldAddr Z Z Z Z .N) ?_
   refine b7.go Z Z (fun E=>W.fieldAddr Z Z Z Z .N) ?_
   refine b7.skip Z (b7.skip Z (b7.nil))
   refine d9.cons Z Z ?_ ?_
   refine b7.go Z Z (fun E=>AOps.E Z Z Z Z Z Z .N) ?_
   refine b7.go Z Z (fun E=>AOps.E Z Z Z Z Z Z .N) ?_
   refine b7.skip Z (b7.skip Z (b7.nil))
   refine d9.cons Z Z ?_ ?_
   refine b7.go Z Z (fun E=>W.fieldAddr Z Z Z Z .N) ?_
   refine b7.skip Z (b7.skip Z (b7.skip Z (b7.nil)))
   refine d9.cons Z Z ?_ ?_
   refine b7.go Z Z (fun E=>AOps.E Z Z Z Z Z Z .N) ?_
   refine b7.skip Z (b7.skip Z (b7.skip Z (b7.nil)))
   refine d9.cons Z Z ?_ ?_
   refine b7.go Z Z (fun E=>AOps.aa Z Z Z Z (B7 ha28) Z .N) ?_
   refine b7.skip Z (b7.skip Z (b7.skip Z (b7.nil)))
   refine d9.cons Z Z ?_ ?_
   refine b7.go Z Z (fun E=>W.fieldAddr Z Z Z Z .N) ?_
   refine b7.skip Z (b7.skip Z (b7.skip Z (b7.nil)))
   refine d9.cons Z Z ?_ ?_
   refine b7.go Z Z (fun E=>AOps.E Z Z Z Z Z Z .N) ?_
   refine b7.skip Z (b7.skip Z (b7.skip Z (b7.nil)))
   refine d9.cons Z Z ?_ ?_
   refine b7.go Z Z (fun E=>AOps.aa Z Z Z Z (B7 ha31) Z .N) ?_
   refine b7.skip Z (b7.skip Z (b7.skip Z (b7.nil)))
   refine d9.cons Z Z ?_ ?_
   refine b7.go Z Z (fun E=>W.fieldAddr Z Z Z Z .N) ?_
   refine b7.skip Z (b7.skip Z (b7.skip Z (b7.nil)))
   refine d9.cons Z Z ?_ ?_
   refine b7.go Z Z (fun E=>AOps.E Z Z Z Z Z Z .N) ?_
   refine b7.skip Z (b7.skip Z (b7.skip Z (b7.nil)))
   refine d9.cons Z Z ?_ ?_
   refine b7.go Z Z (fun E=>AOps.aa Z Z Z Z (B7 ha34) Z .N) ?_
   refine b7.skip Z (b7.skip Z (b7.skip Z (b7.nil)))
   refine d9.cons Z Z ?_ ?_
   refine b7.go Z Z (fun E=>W.fieldAddr Z Z Z Z .N) ?_
   refine b7.skip Z (b7.skip Z (b7.skip Z (b7.nil)))
   refine d9.cons Z Z ?_ ?_
   refine b7.go Z Z (fun E=>AOps.E Z Z Z Z Z Z .N) ?_
   refine b7.skip Z (b7.skip Z (b7.skip Z (b7.nil)))
   refine d9.cons Z Z ?_ ?_
   refine b7.go Z Z (fun E=>W.build Z Z Z Z .N) ?_
   refine b7.skip Z (b7.skip Z (b7.skip Z (b7.nil)))
   refine d9.skip Z (d9.skip Z ?_)
   refine d9.cons Z Z ?_ ?_
   refine b7.skip Z (b7.skip Z ?_)
   refine b7.go Z Z (fun E=>AOps.ah Z Z Z .N) ?_
   refine b7.skip Z (b7.nil)
   refine d9.cons Z Z ?_ ?_
   refine b7.skip Z (b7.skip Z ?_)
   refine b7.go Z Z (fun E=>W.fieldAddr Z Z Z Z .N) ?_
   refine b7.skip Z (b7.nil)
   refine d9.skip Z (d9.nil)
  dsimp only [l8]
  refine f5 (b6 (.j (env':=[(3,.c (.ptr 1 0 0)),(15,.c (row 4 u5 t.operators)),(16,.c (int (t.operators.length:Int))),(17,.c (int t56))]) (σ':=[.dead,.one (.cells 3 [(wW a8 a11 2 a39.length)]),.one (vec 4 e8 a39),.one (.cells 4 [[row 1 intI a19.pre,row 1 intI a19.add,row 1 intI a19.del,int a19.cost]]),.one (vec 4 e8 [(⟨a28,a31,a34,a19.cost⟩:j8)])]) 2 5 Z Z Z ⟨Z,Z,Z,Z,Y⟩ Z ⟨trivial,⟨Z,Z⟩,⟨Blk.im_ok _ _ _,j6 Z⟩,⟨Z,Z⟩,⟨Blk.im_ok _ _ _,j6 Z⟩,Y⟩ (.u (.add Z Z Z (by omega) (.j Z Z (.nil ?_))))))
  obtain rfl:=oi h
  refine b6 (Sub.cut ⟨Z,Z,Z,Z,Y⟩ Z ⟨.dead,.one Z,.vec,Y⟩ Z)
 ·intro e s hq
  obtain ⟨rfl,hs⟩:=hq
  refine ⟨_,hs, ?_⟩
  refine k8 (b6 (.q (.u (.j Z Z (.v Z Z (.nil (b6 (.ret ?_))))))))
  obtain rfl:=oi h
  exact ⟨⟨[(2,.c (.ptr 1 0 0))],[.dead,.one (.cells 3 [(wW a8 a11 2 c55.length)]),.one (vec 4 e8 c55)]⟩,Sub.env ⟨Z,Y⟩,Done.ret Z ⟨Z,Z⟩⟩
theorem Q0{start:Int}{goal:Int}{l:List j8}{r:Unit}(h:z8 start goal l=some r):FnOk prog 36 [.c (.ptr 0 0 0)] (ao4 start goal l) (fun tt ss=>tt=.c (.imm (.val (.int .u32 start)))∧ss=[.one (.cells 3 [(wW start goal 1 l.length)]),.one (vec 4 e8 l)]):=by
 refine FnOk.enter (rs:=[.t 2]) func36 Z ntmps36 results36 Z ⟨trivial,Y⟩ (by kernel_rfl) Z ?_
 refine AWP.weak ?_
 unfold z8 at h
 refine AWP.q (.u (.v Z Z (.nil (b6 (.q (.u (.j Z Z (.ah Z Z Z (W.fieldAddr Z Z Z Z (.E Z Z Z Z Z Z (.v Z Z (.nil (b6 (.ret ?_))))))))))))))
 obtain rfl:=oi h
 exact ⟨⟨[(2,.c (.imm (.val (.int .u32 start))))],[.one (.cells 3 [(wW start goal 1 l.length)]),.one (vec 4 e8 l)]⟩,Sub.env ⟨Z,Y⟩,Done.ret Z ⟨Z,Z⟩⟩
theorem Y9{sv:Int}{start:Int}{goal:Int}{l:List j8}{r:Unit}(h:D0 sv start goal l=some r):FnOk prog 63 [.c (.ptr 0 0 0),.c (.imm (.val (.int .u32 sv)))] (ao6 sv start goal l) (fun tt ss=>tt=.c (.fn 84 [.ptr 2 0 0,.ptr 3 0 0])∧ss=[.one (.cells 3 [(wW start goal 1 l.length)]),.one (vec 4 e8 l),.one (.cells 1 [[.ptr 0 0 0]]),.one (.cells 1 [[.imm (.val (.int .u32 sv))]])]):=by
 refine FnOk.enter (rs:=[.t 4]) func63 Z ntmps63 results63 Z ⟨trivial,Y⟩ (by kernel_rfl) Z ?_
 refine AWP.weak ?_
 unfold D0 at h
 refine AWP.q (.u (W.box Z Z Z Z Z Z (W.box Z Z Z Z Z Z (.v Z Z (.nil (b6 (.q (.u (.makeFunc Z Z (.v Z Z (.nil (b6 (.ret ?_)))))))))))))
 obtain rfl:=oi h
 exact ⟨⟨[(4,.c (.fn 84 [.ptr 2 0 0,.ptr 3 0 0]))],[.one (.cells 3 [(wW start goal 1 l.length)]),.one (vec 4 e8 l),.one (.cells 1 [[.ptr 0 0 0]]),.one (.cells 1 [[.imm (.val (.int .u32 sv))]])]⟩,Sub.env ⟨Z,Y⟩,Done.ret Z ⟨Z,Z⟩⟩
theorem ao8{start:Int}{goal:Int}{l:List j8}{r:(List Int) × Bool}(h:H6 start goal l=some r):FnOk prog 55 [.c (.ifc 66 [.ptr 0 0 0] false)] (Q9 start goal l) (fun tt ss=>tt=.tup [.c (.own 12 0 r.1.length),.c (bool r.2)]∧ss=[.one (.cells 3 [(wW start goal 1 l.length)]),.one (vec 4 e8 l),.dead,.dead,.dead,.dead,.dead,.dead,.dead,.dead,.dead,.dead,.one (vec 1 eU32 r.1)]):=by
 refine FnOk.enter (rs:=[.t 2,.t 3]) func55 Z ntmps55 results55 Z ⟨trivial,trivial,Y⟩ (by kernel_rfl) Z ?_
 refine AWP.weak ?_
 unfold H6 at h
 refine AWP.q (.u (.v Z Z (.v Z Z (.nil (b6 (.q ?_))))))
 obtain ⟨a12,ha12,h⟩:=bind_some h
 refine AWP.u (.j Z Z (S.invokeP (r2:=.c (.imm (.val (.int .u32 start)))) (σ'':=[.one (.cells 3 [(wW start goal 1 l.length)]),.one (vec 4 e8 l)]) Z Z Z (FnOk.lend [0,1] (Q0 ha12) Z Z Z Z Z Z (by exact ⟨(.one Z),.vec,Y⟩) Z (by exact ⟨(.live Z (.one Z)),(.live Z .vec),Y⟩) Z Z (by exact ⟨(.new 0 Z Z (.one Z)),(.new 1 Z Z .vec),Y⟩)) (S.lit (f:=eU32) (l:=[start]) (ess:=[[.imm (.val (.int .u32 start))]]) Z Z Z Z Z Z Z ⟨⟨.inl Z,Y⟩,Y⟩ Z Z Z (W.alloc Z Z Z Z (W.store Z Z Z Z Z (.nil (b6 (.q ?_))))))))
 obtain ⟨a16,ha16,h⟩:=bind_some h
 refine AWP.u (W.makeMap vU noV Z Z Z (.j Z Z (S.invokeP (r2:=.c (.imm (.val (.int .u32 start)))) (σ'':=[.one (.cells 3 [(wW start goal 1 l.length)]),.one (vec 4 e8 l),.one (vec 1 eU32 [start]),.one (.cells 1 [[.own 2 0 ([start].length)]]),.one (mapB vU noV ([]:List (Int × Unit)))]) Z Z Z (FnOk.lend [0,1] (Q0 ha16) Z Z Z Z Z Z (by exact ⟨(.one Z),.vec,Y⟩) Z (by exact ⟨(.live Z (.one Z)),(.live Z .vec),Y⟩) Z Z (by exact ⟨(.new 0 Z Z (.one Z)),(.new 1 Z Z .vec),(.old Z Z Z),(.old Z Z Z),(.old Z Z Z),Y⟩)) (S.build0 Z Z Z (W.insertU (fk:=vU) (k:=start) G7 Z Z Z Z Z (.j Z Z (W.alloc Z Z Z Z (W.store Z Z Z Z Z (.nil (b6 (.q (.u (.v Z Z (.nil (b6 (.q (.J (.virtV 1 eU32 6 Z Z Z ?_))))))))))))))))))
 obtain ⟨oo,ho1,h⟩:=bind_some h
 refine AWP.loopS ho1 (fun (c56,c57,c58)=>⟨[(0,.c (.ifc 66 [.ptr 0 0 0] false)),(4,.c (.ptr 3 0 0)),(5,.c (.ptr 5 0 0)),(6,.c (.own 6 0 c58.length))],[.one (.cells 3 [(wW start goal 1 l.length)]),.one (vec 4 e8 l),.one (vec 1 eU32 c56),.one (.cells 1 [[.own 2 0 c56.length]]),.one (mapB vU noV c57),.one (.cells 1 [[.map 4]]),.one (vec 1 eU32 c58)]⟩) (fun o e st=>match o with | .inl c59=>e=.exit 0∧Sub (Q9 start goal l) st ⟨[(6,.c (.own 6 0 c59.length))],[.one (.cells 3 [(wW start goal 1 l.length)]),.one (vec 4 e8 l),.dead,.dead,.dead,.dead,.one (vec 1 eU32 c59)]⟩ | .inr x=>e=.ret∧∃ J,Sub (Q9 start goal l) st J∧Done [.t 2,.t 3] (fun tt ss=>tt=.tup [.c (.own 12 0 x.1.length),.c (bool x.2)]∧ss=[.one (.cells 3 [(wW start goal 1 l.length)]),.one (vec 4 e8 l),.dead,.dead,.dead,.dead,.dead,.dead,.dead,.dead,.dead,.dead,.one (vec 1 eU32 x.1)]) .ret J) ?_ ?_ ?_
 ·try dsimp only
  exact Sub.env ⟨Z,Z,Z,(R4 (by first | rfl | simp only [List.length_set])),Y⟩
 ·intro s o h
  obtain ⟨c56,c57,c58⟩:=s
  unfold I4 at h
  try dsimp only at h ⊢
  refine AWP.q (.q (.u (.E Z Z Z Z Z Z (S.lenO Z Z Z (fun hl20=>.gtr Z Z Z (.nil (b6 (.ite Z h (fun hc60 h=> ?_) (fun hc60 h=> ?_)))))))))
  ·refine AWP.skip (b6 (.J (.q ?_)))
   obtain ⟨a26,ha26,h⟩:=bind_some h
   refine AWP.u (.E Z Z Z Z Z Z (.E Z Z Z Z Z Z (S.lenO Z Z Z (fun hl24=>.sub' Z Z Z (by omega) (S.idxO ha26 Z Z Z Z Z (S.loadO ha26 Z Z Z Z Z (.v Z Z (.nil (b6 (.q ?_))))))))))
   obtain ⟨u32,hu32,h⟩:=bind_some h
   refine AWP.u (.E Z Z Z Z Z Z (.E Z Z Z Z Z Z (S.lenO Z Z Z (fun hl30=>.sub' Z Z Z (by omega) (S.vTo (L7 c56) hu32 Z Z Z Z Z Z (.sub (Sub.reown (env':=[(0,.c (.ifc 66 [.ptr 0 0 0] false)),(4,.c (.ptr 3 0 0)),(5,.c (.ptr 5 0 0)),(6,.c (.own 6 0 c58.length)),(7,.c (.imm (.val (.int .u32 a26)))),(20,.c (int (c56.length:Int))),(21,.c (bool (decide (0<(c56.length:Int))))),(24,.c (int (c56.length:Int))),(25,.c (int ((c56.length:Int) - 1))),(27,.c (.imm (.val (.int .u32 a26)))),(30,.c (int (c56.length:Int))),(31,.c (int ((c56.length:Int) - 1))),(32,.c (.own 7 0 ((k6 c56 0 ((c56.length:Int) - 1)).length)))]) 32 (vw_to (L7 c56) hu32) Z Z Z Z Z Z Z Z (by exact ⟨.inr Z,.inr Z,.inr Z,.inr Z,.inr Z,.inr Z,.inr Z,.inr Z,.inr Z,.inr Z,.inr Z,.inr Z,.inl ⟨Z,Z⟩,Y⟩)) (W.store Z Z Z Z Z (.nil (b6 (.q (.j (env':=[(0,.c (.ifc 66 [.ptr 0 0 0] false)),(4,.c (.ptr 3 0 0)),(5,.c (.ptr 5 0 0)),(6,.c (.own 6 0 c58.length)),(7,.c (.imm (.val (.int .u32 a26))))]) (σ':=[.one (.cells 3 [(wW start goal 1 l.length)]),.one (vec 4 e8 l),.one (vec 1 eU32 (k6 c56 0 ((c56.length:Int) - 1))),.one (.cells 1 [[.own 2 0 ((k6 c56 0 ((c56.length:Int) - 1)).length)]]),.one (mapB vU noV c57),.one (.cells 1 [[.map 4]]),.one (vec 1 eU32 c58)]) 2 7 Z Z Z ⟨Z,Z,Z,Z,Z,Y⟩ Z ⟨⟨Z,Z⟩,⟨Blk.im_ok _ _ _,j6 Z⟩,⟨Blk.im_ok _ _ _,j6 Z⟩,⟨Z,Z⟩,⟨Z,Z⟩,⟨Z,Z⟩,⟨Blk.im_ok _ _ _,j6 Z⟩,Y⟩ ?_)))))))))))
   obtain ⟨a36,ha36,h⟩:=bind_some h
   refine AWP.u (.j Z Z (.j Z Z (S.lit (f:=eU32) (l:=[a26]) (ess:=[[.imm (.val (.int .u32 a26))]]) Z Z Z Z Z Z Z ⟨⟨.inl Z,Y⟩,Y⟩ Z Z Z (S.append (f:=eU32) ha36 Z Z Z Z Z Z (.own Z Z) Z Z Z Z (.v Z Z (.nil (b6 (.q (.q (.j (env':=[(0,.c (.ifc 66 [.ptr 0 0 0] false)),(4,.c (.ptr 3 0 0)),(5,.c (.ptr 5 0 0)),(6,.c (.own 6 0 a36.length)),(7,.c (.imm (.val (.int .u32 a26))))]) (σ':=[.one (.cells 3 [(wW start goal 1 l.length)]),.one (vec 4 e8 l),.one (vec 1 eU32 (k6 c56 0 ((c56.length:Int) - 1))),.one (.cells 1 [[.own 2 0 ((k6 c56 0 ((c56.length:Int) - 1)).length)]]),.one (mapB vU noV c57),.one (.cells 1 [[.map 4]]),.one (vec 1 eU32 a36),.one (vec 1 eU32 [a26])]) 6 8 Z Z Z ⟨Z,Z,Z,Z,Z,Y⟩ Z ⟨⟨Z,Z⟩,⟨Blk.im_ok _ _ _,j6 Z⟩,⟨Blk.im_ok _ _ _,j6 Z⟩,⟨Z,Z⟩,⟨Z,Z⟩,⟨Z,Z⟩,⟨Blk.im_ok _ _ _,j6 Z⟩,⟨Blk.im_ok _ _ _,j6 Z⟩,Y⟩ ?_))))))))))
   obtain ⟨a39,ha39,h⟩:=bind_some h
   refine AWP.u (.j Z Z (.j Z Z (S.invokeP (r2:=.c (.fn 84 [.ptr 8 0 0,.ptr 9 0 0])) (σ'':=[.one (.cells 3 [(wW start goal 1 l.length)]),.one (vec 4 e8 l),.one (vec 1 eU32 (k6 c56 0 ((c56.length:Int) - 1))),.one (.cells 1 [[.own 2 0 ((k6 c56 0 ((c56.length:Int) - 1)).length)]]),.one (mapB vU noV c57),.one (.cells 1 [[.map 4]]),.one (vec 1 eU32 a36),.one (vec 1 eU32 [a26]),.one (.cells 1 [[.ptr 0 0 0]]),.one (.cells 1 [[.imm (.val (.int .u32 a26))]])]) Z Z Z (FnOk.lend [0,1] (Y9 ha39) Z Z Z Z Z Z (by exact ⟨(.one Z),.vec,Y⟩) Z (by exact ⟨(.live Z (.one Z)),(.live Z .vec),Y⟩) Z Z (by exact ⟨(.new 0 Z Z (.one Z)),(.new 1 Z Z .vec),(.old Z Z Z),(.old Z Z Z),(.old Z Z Z),(.old Z Z Z),(.old Z Z Z),(.old Z Z Z),(.new 2 Z Z (.one Z)),(.new 3 Z Z (.one Z)),Y⟩)) (.nil (b6 (.J ?_))))))
   obtain ⟨xr61,hr61,h⟩:=bind_some h
   refine AWP.rangeB [(4,none),(5,none)] Z Z Z (fun as61 bo61 hA61 hB61=>⟨[.one (.cells 3 [(wW start goal 1 l.length)]),.one (vec 4 e8 l),.one (vec 1 eU32 (k6 c56 0 ((c56.length:Int) - 1))),.one (.cells 1 [[.own 2 0 ((k6 c56 0 ((c56.length:Int) - 1)).length)]]),.one (mapB vU noV c57),.one (.cells 1 [[.map 4]]),.one (vec 1 eU32 a36),.one (vec 1 eU32 [a26]),.one (.cells 1 [[.ptr 0 0 0]]),.one (.cells 1 [[.imm (.val (.int .u32 a26))]]),.one (l7 63 [40] as61 bo61 .ready none [(4,none),(5,none)] [.ptr 3 0 0,.ptr 5 0 0])],fun tt ss=>tt=.tup []∧ss=[.one (.cells 3 [(wW start goal 1 l.length)]),.one (vec 4 e8 l),.dead,.one (.cells 1 [[.own 11 0 xr61.2.length]]),.one (mapB vU noV xr61.1),.one (.cells 1 [[.map 4]]),.one (vec 1 eU32 a36),.one (vec 1 eU32 [a26]),.one (.cells 1 [[.ptr 0 0 0]]),.one (.cells 1 [[.imm (.val (.int .u32 a26))]]),.one (l7 63 [40] as61 bo61 .ready none [(4,none),(5,none)] [.ptr 3 0 0,.ptr 5 0 0]),.one (vec 1 eU32 xr61.2)],Z, ?_, ?_⟩)
   ·refine FnOk.enter (rs:=[]) func84 Z ntmps84 results84 Z trivial (by kernel_rfl) Z ?_
    refine AWP.weak ?_
    unfold J0 at hr61
    try dsimp only at hr61
    refine AWP.j (env':=[(0,.c (.yld 10)),(1,.c (.ptr 8 0 0)),(2,.c (.ptr 9 0 0))]) (σ':=[.one (.cells 3 [(wW start goal 1 l.length)]),.one (vec 4 e8 l),.dead,.one (.cells 1 [[.own 11 0 ((k6 c56 0 ((c56.length:Int) - 1)).length)]]),.one (mapB vU noV c57),.one (.cells 1 [[.map 4]]),.one (vec 1 eU32 a36),.one (vec 1 eU32 [a26]),.one (.cells 1 [[.ptr 0 0 0]]),.one (.cells 1 [[.imm (.val (.int .u32 a26))]]),.one (l7 63 [40] as61 bo61 .ready none [(4,none),(5,none)] [.ptr 3 0 0,.ptr 5 0 0]),.one (vec 1 eU32 (k6 c56 0 ((c56.length:Int) - 1)))]) 11 2 Z Z Z ⟨Z,Z,Z,Y⟩ Z ⟨⟨Z,Z⟩,⟨Blk.im_ok _ _ _,j6 Z⟩,trivial,⟨Z,Z⟩,⟨Z,Z⟩,⟨Z,Z⟩,⟨Blk.im_ok _ _ _,j6 Z⟩,⟨Blk.im_ok _ _ _,j6 Z⟩,⟨Z,Z⟩,⟨Z,Z⟩,⟨Z,Z⟩,⟨Blk.im_ok _ _ _,j6 Z⟩,Y⟩ (.q (.u (.E Z Z Z Z Z Z (.ah Z Z Z (W.fieldAddr Z Z Z Z (.E Z Z Z Z Z Z (S.lenO Z Z Z (fun hl10=>.j Z Z (.nil (b6 (.J ?_)))))))))))
    obtain ⟨⟨c64,c65⟩,ho2,hr61⟩:=bind_some hr61
    try dsimp only at hr61
    refine AWP.forS ho2 (fun t66 (c64,c65)=>⟨[(0,.c (.yld 10)),(2,.c (.ptr 9 0 0)),(9,.c (.own 1 0 l.length)),(10,.c (int (l.length:Int))),(11,.c (int t66))],[.one (.cells 3 [(wW start goal 1 l.length)]),.one (vec 4 e8 l),.dead,.one (.cells 1 [[.own 11 0 c65.length]]),.one (mapB vU noV c64),.one (.cells 1 [[.map 4]]),.one (vec 1 eU32 a36),.one (vec 1 eU32 [a26]),.one (.cells 1 [[.ptr 0 0 0]]),.one (.cells 1 [[.imm (.val (.int .u32 a26))]]),.one (l7 63 [40] as61 bo61 .ready none [(4,none),(5,none)] [.ptr 3 0 0,.ptr 5 0 0]),.one (vec 1 eU32 c65)]⟩) (fun (c64,c65) e st=>e=.exit 0∧Sub ([.one (.cells 3 [(wW start goal 1 l.length)]),.one (vec 4 e8 l),.one (vec 1 eU32 (k6 c56 0 ((c56.length:Int) - 1))),.one (.cells 1 [[.own 2 0 ((k6 c56 0 ((c56.length:Int) - 1)).length)]]),.one (mapB vU noV c57),.one (.cells 1 [[.map 4]]),.one (vec 1 eU32 a36),.one (vec 1 eU32 [a26]),.one (.cells 1 [[.ptr 0 0 0]]),.one (.cells 1 [[.imm (.val (.int .u32 a26))]]),.one (l7 63 [40] as61 bo61 .ready none [(4,none),(5,none)] [.ptr 3 0 0,.ptr 5 0 0])]:b8) st ⟨[],[.one (.cells 3 [(wW start goal 1 l.length)]),.one (vec 4 e8 l),.dead,.one (.cells 1 [[.own 11 0 c65.length]]),.one (mapB vU noV c64),.one (.cells 1 [[.map 4]]),.one (vec 1 eU32 a36),.one (vec 1 eU32 [a26]),.one (.cells 1 [[.ptr 0 0 0]]),.one (.cells 1 [[.imm (.val (.int .u32 a26))]]),.one (l7 63 [40] as61 bo61 .ready none [(4,none),(5,none)] [.ptr 3 0 0,.ptr 5 0 0]),.one (vec 1 eU32 c65)]⟩) ?_ ?_ ?_ ?_
    ·try dsimp only
     exact Sub.env ⟨Z,Z,Z,Z,Z,Y⟩
    ·intro t66 s hlot66 hltt66 _
     obtain ⟨c64,c65⟩:=s
     try dsimp only
     refine AWP.q (.u (.F Z Z Z (.nil (b6 (.q (.ad Z hltt66 (.exit (f8 (f8 ⟨Z, ?_⟩)))))))))
     exact Sub.env trivial
    ·intro t66 s o hlot66 hltt66 h
     obtain ⟨c64,c65⟩:=s
     unfold I9 at h
     try dsimp only at h ⊢
     refine AWP.q (.u (.F Z Z Z (.nil (b6 (.q (.ae Z hltt66 (.skip (b6 (.q (.J (.q ?_)))))))))))
     obtain ⟨ai14,hai14,h⟩:=bind_some h
     refine AWP.u (.j Z Z (S.idxO hai14 Z Z Z Z Z (S.loadOAgg hai14 Z Z Z Z Z Z Z (W.alloc Z Z Z Z (.v Z Z (W.storeAgg Z Z Z Z Z Z Z (.nil (b6 (.q ?_)))))))))
     rcases bft (decide (Go.bits .and .u32 a26 ai14.pre=ai14.pre)) with hb67 | hb67
     ·replace h:=E9 hb67 h
      refine AWP.u (.E Z Z Z Z Z Z (W.fieldAddr Z Z Z Z (.E Z Z Z Z Z Z (.bits Z Z Z (by simp) (W.fieldAddr Z Z Z Z (.E Z Z Z Z Z Z (.ab Z Z Z (.j Z Z (.z Z Z Z hb67 (.j Z Z (.z Z Z Z hb67 (.j Z Z (.z Z Z Z hb67 (W.fieldAddr Z Z Z Z (.z Z Z Z hb67 (.E Z Z Z Z Z Z (.z Z Z Z hb67 (.E Z Z Z Z Z Z (.z Z Z Z hb67 (W.fieldAddr Z Z Z Z (.z Z Z Z hb67 (.E Z Z Z Z Z Z (.z Z Z Z hb67 (.bits Z Z Z (by simp) (.z Z Z Z hb67 (W.fieldAddr Z Z Z Z (.z Z Z Z hb67 (.E Z Z Z Z Z Z (.z Z Z Z hb67 (.bits Z Z Z (by simp) (.z Z Z Z hb67 (W.build Z Z Z Z ?_))))))))))))))))))))))))))))))))
      refine AOps.z Z Z Z hb67 ?_; refine AOps.yieldB (E1:=[(8,.c (.ptr 13 0 0)),(40,.agg [int t66,int ai14.cost,.imm (.val (.int .u32 (Go.bits .or .u32 (Go.bits .andNot .u32 a26 ai14.del) ai14.add)))]),(4,.c (.ptr 3 0 0)),(5,.c (.ptr 5 0 0))]) (σ1:=[.one (.cells 3 [(wW start goal 1 l.length)]),.one (vec 4 e8 l),.dead,.one (.cells 1 [[.own 11 0 c65.length]]),.one (mapB vU noV c64),.one (.cells 1 [[.map 4]]),.one (vec 1 eU32 a36),.one (vec 1 eU32 [a26]),.one (.cells 1 [[.ptr 0 0 0]]),.one (.cells 1 [[.imm (.val (.int .u32 a26))]]),.one (l7 63 [40] as61 bo61 .ready none [(4,none),(5,none)] [.ptr 3 0 0,.ptr 5 0 0]),.one (vec 1 eU32 c65),.one (.cells 4 [[.imm (.val (.int .u32 ai14.pre)),.imm (.val (.int .u32 ai14.add)),.imm (.val (.int .u32 ai14.del)),int ai14.cost]]),.one (.cells 3 [[int t66,int ai14.cost,.imm (.val (.int .u32 (Go.bits .or .u32 (Go.bits .andNot .u32 a26 ai14.del) ai14.add)))]])]) hA61 hB61 Z Z Z Z Z Z Z Z Z Z ?_ ?_
      ·refine AWP.u (W.alloc Z Z Z Z (W.storeAgg Z Z Z Z Z Z Z (.nil ?_)))
       exact ⟨Z,Z⟩
      refine AWP.sub (s':=⟨[(4,.c (.ptr 3 0 0)),(5,.c (.ptr 5 0 0)),(8,.c (.ptr 13 0 0))],[.one (.cells 3 [(wW start goal 1 l.length)]),.one (vec 4 e8 l),.dead,.one (.cells 1 [[.own 11 0 c65.length]]),.one (mapB vU noV c64),.one (.cells 1 [[.map 4]]),.one (vec 1 eU32 a36),.one (vec 1 eU32 [a26]),.one (.cells 1 [[.ptr 0 0 0]]),.one (.cells 1 [[.imm (.val (.int .u32 a26))]]),.one (l7 63 [40] as61 bo61 .busy none [(4,none),(5,none)] [.ptr 3 0 0,.ptr 5 0 0]),.one (vec 1 eU32 c65),.one (.cells 4 [[.imm (.val (.int .u32 ai14.pre)),.imm (.val (.int .u32 ai14.add)),.imm (.val (.int .u32 ai14.del)),int ai14.cost]]),.one (.cells 3 [[int t66,int ai14.cost,.imm (.val (.int .u32 (Go.bits .or .u32 (Go.bits .andNot .u32 a26 ai14.del) ai14.add)))]])]⟩) (Sub.env ⟨Z,Z,Z,Y⟩) (.J (.q (.u (.E Z Z Z Z Z Z (W.fieldAddr Z Z Z Z (.E Z Z Z Z Z Z (W.lookupOkU (fk:=vU) (k:=Go.bits .or .u32 (Go.bits .andNot .u32 a26 ai14.del) ai14.add) G7 Z Z Z Z Z (.j Z Z (.ac Z Z Z (.ac Z Z Z (W.alloc Z Z Z Z (S.store0 Z Z Z (.v Z Z (.nil (b6 (.q (.u (.j Z Z (.not Z Z (.nil (b6 (.af Z h (fun hc68 h=> ?_) (fun hc68 h=> ?_)))))))))))))))))))))))
      ·refine AWP.q (.u (.E Z Z Z Z Z Z (W.fieldAddr Z Z Z Z (.E Z Z Z Z Z Z (S.build0 Z Z Z (W.mapUpdateU (fk:=vU) (k:=Go.bits .or .u32 (Go.bits .andNot .u32 a26 ai14.del) ai14.add) G7 Z Z Z Z Z (.nil (b6 ?_))))))))
       obtain ⟨ab58,hab58,h⟩:=bind_some h
       refine AWP.u (.E Z Z Z Z Z Z (W.fieldAddr Z Z Z Z (.E Z Z Z Z Z Z (S.lit (f:=eU32) (l:=[Go.bits .or .u32 (Go.bits .andNot .u32 a26 ai14.del) ai14.add]) (ess:=[[.imm (.val (.int .u32 (Go.bits .or .u32 (Go.bits .andNot .u32 a26 ai14.del) ai14.add)))]]) Z Z Z Z Z Z Z ⟨⟨.inl Z,Y⟩,Y⟩ Z Z Z (S.append (f:=eU32) hab58 Z Z Z Z Z Z (.own Z Z) Z Z Z Z (W.store Z Z Z Z Z (.nil (f5 (M5 Z Z (.z Z Z Z hb67 (.not Z Z (.O Z hb67 Z Z (.nil (b6 (.j (env':=[(0,.c (.yld 10)),(2,.c (.ptr 9 0 0)),(9,.c (.own 1 0 l.length)),(10,.c (int (l.length:Int))),(11,.c (int t66)),(38,.c (bool false))]) (σ':=[.one (.cells 3 [(wW start goal 1 l.length)]),.one (vec 4 e8 l),.dead,.one (.cells 1 [[.own 11 0 ab58.length]]),.one (mapB vU noV (mset c64 (Go.bits .or .u32 (Go.bits .andNot .u32 a26 ai14.del) ai14.add) ())),.one (.cells 1 [[.map 4]]),.one (vec 1 eU32 a36),.one (vec 1 eU32 [a26]),.one (.cells 1 [[.ptr 0 0 0]]),.one (.cells 1 [[.imm (.val (.int .u32 a26))]]),.one (l7 63 [40] as61 bo61 .ready none [(4,none),(5,none)] [.ptr 3 0 0,.ptr 5 0 0]),.one (vec 1 eU32 ab58),.one (.cells 4 [[.imm (.val (.int .u32 ai14.pre)),.imm (.val (.int .u32 ai14.add)),.imm (.val (.int .u32 ai14.del)),int ai14.cost]]),.one (.cells 3 [[int t66,int ai14.cost,.imm (.val (.int .u32 (Go.bits .or .u32 (Go.bits .andNot .u32 a26 ai14.del) ai14.add)))]]),.one (.cells 0 [[]]),.one (vec 1 eU32 [Go.bits .or .u32 (Go.bits .andNot .u32 a26 ai14.del) ai14.add])]) 11 16 Z Z Z ⟨Z,Z,Z,Z,Z,Z,Y⟩ Z ⟨⟨Z,Z⟩,⟨Blk.im_ok _ _ _,j6 Z⟩,trivial,⟨Z,Z⟩,⟨Z,Z⟩,⟨Z,Z⟩,⟨Blk.im_ok _ _ _,j6 Z⟩,⟨Blk.im_ok _ _ _,j6 Z⟩,⟨Z,Z⟩,⟨Z,Z⟩,⟨Z,Z⟩,⟨Blk.im_ok _ _ _,j6 Z⟩,⟨Z,Z⟩,⟨Z,Z⟩,⟨Z,Z⟩,⟨Blk.im_ok _ _ _,j6 Z⟩,Y⟩ (.condF Z (.skip (f5 (b6 (.u (.add Z Z Z (by omega) (.j Z Z (.nil ?_)))))))))))))))))))))))
       obtain rfl:=oi h
       refine b6 (Sub.cut ⟨Z,Z,Z,Z,Z,Y⟩ Z ⟨.one Z,.vec,.dead,.one Z,.one Z,.one Z,.vec,.vec,.one Z,.one Z,.one Z,.vec,Y⟩ Z)
      ·refine AWP.skip (f5 (M5 Z Z (.z Z Z Z hb67 (.not Z Z (.O Z hb67 Z Z (.nil (b6 (.condF Z (.skip (f5 (b6 (.u (.add Z Z Z (by omega) (.j Z Z (.nil ?_)))))))))))))))
       obtain rfl:=oi h
       refine b6 (Sub.cut ⟨Z,Z,Z,Z,Z,Y⟩ Z ⟨.one Z,.vec,.dead,.one Z,.one Z,.one Z,.vec,.vec,.one Z,.one Z,.one Z,.vec,Y⟩ Z)
     ·replace h:=F2 hb67 h
      refine AWP.u (.E Z Z Z Z Z Z (W.fieldAddr Z Z Z Z (.E Z Z Z Z Z Z (.bits Z Z Z (by simp) (W.fieldAddr Z Z Z Z (.E Z Z Z Z Z Z (.ab Z Z Z (.j Z Z (.B Z Z Z hb67 (.B Z Z Z hb67 (.B Z Z Z hb67 (.B Z Z Z hb67 (.B Z Z Z hb67 (.B Z Z Z hb67 (.B Z Z Z hb67 (.B Z Z Z hb67 (.B Z Z Z hb67 (.B Z Z Z hb67 (.B Z Z Z hb67 (.B Z Z Z hb67 (.B Z Z Z hb67 (.B Z Z Z hb67 (.U Z hb67 Z Z (.nil (b6 (.condF Z (.skip (f5 (b6 (.u (.add Z Z Z (by omega) (.j Z Z (.nil ?_)))))))))))))))))))))))))))))))))
      obtain rfl:=oi h
      refine b6 (Sub.cut ⟨Z,Z,Z,Z,Z,Y⟩ Z ⟨.one Z,.vec,.dead,.one Z,.one Z,.one Z,.vec,.vec,.one Z,.one Z,.one Z,.vec,Y⟩ Z)
    ·intro e s hq
     obtain ⟨rfl,hs⟩:=hq
     refine ⟨_,hs, ?_⟩
     refine k8 ?_
     obtain rfl:=oi hr61
     exact ⟨⟨[],[.one (.cells 3 [(wW start goal 1 l.length)]),.one (vec 4 e8 l),.dead,.one (.cells 1 [[.own 11 0 c65.length]]),.one (mapB vU noV c64),.one (.cells 1 [[.map 4]]),.one (vec 1 eU32 a36),.one (vec 1 eU32 [a26]),.one (.cells 1 [[.ptr 0 0 0]]),.one (.cells 1 [[.imm (.val (.int .u32 a26))]]),.one (l7 63 [40] as61 bo61 .ready none [(4,none),(5,none)] [.ptr 3 0 0,.ptr 5 0 0]),.one (vec 1 eU32 c65)]⟩,Sub.env trivial,Done.normal Z ⟨Z,Z⟩⟩
   ·rintro tt ss ⟨rfl,rfl⟩
    obtain ⟨c62,c63⟩:=xr61
    try dsimp only at h ⊢
    refine ae5 Z Z (f5 (b6 (.q (.u (.E Z Z Z Z Z Z (S.lenMap (fk:=vU) (fv:=noV) Z Z Z (.gtr Z Z Z (.nil (b6 (.ite Z h (fun hc69 h=> ?_) (fun hc69 h=> ?_)))))))))))
    ·refine AWP.q (.u (.v Z Z (.v Z Z (.nil (b6 (.virtV 1 eU32 2 Z Z Z (.ret (m8 ?_))))))))
     obtain rfl:=oi h
     refine g9 ⟨_,Z,Z, ?_⟩
     exact ⟨⟨[(2,.c (.own 12 0 ([].length))),(3,.c (bool false))],[.one (.cells 3 [(wW start goal 1 l.length)]),.one (vec 4 e8 l),.dead,.dead,.dead,.dead,.dead,.dead,.dead,.dead,.dead,.dead,.one (vec 1 eU32 [])]⟩,Sub.cut ⟨(R4 (by first | rfl | simp only [List.length_set])),Z,Y⟩ Z ⟨.one Z,.vec,.dead,.dead,.dead,.dead,.dead,.dead,.dead,.dead,.dead,.dead,.vec,Y⟩ Z,Done.ret Z ⟨Z,Z⟩⟩
    ·refine AWP.skip (f5 ?_)
     obtain rfl:=oi h
     refine b6 ⟨_,Z, ?_⟩
     exact (Sub.move (env':=[(0,.c (.ifc 66 [.ptr 0 0 0] false)),(4,.c (.ptr 3 0 0)),(5,.c (.ptr 5 0 0)),(6,.c (.own 6 0 a36.length))]) (σ':=[.one (.cells 3 [(wW start goal 1 l.length)]),.one (vec 4 e8 l),.one (vec 1 eU32 c63),.one (.cells 1 [[.own 2 0 c63.length]]),.one (mapB vU noV c62),.one (.cells 1 [[.map 4]]),.one (vec 1 eU32 a36),.one (vec 1 eU32 [a26]),.one (.cells 1 [[.ptr 0 0 0]]),.one (.cells 1 [[.imm (.val (.int .u32 a26))]]),.dead]) 2 11 Z Z Z ⟨Z,Z,Z,Z,Y⟩ Z ⟨⟨Z,Z⟩,⟨Blk.im_ok _ _ _,j6 Z⟩,⟨Blk.im_ok _ _ _,j6 Z⟩,⟨Z,Z⟩,⟨Z,Z⟩,⟨Z,Z⟩,⟨Blk.im_ok _ _ _,j6 Z⟩,⟨Blk.im_ok _ _ _,j6 Z⟩,⟨Z,Z⟩,⟨Z,Z⟩,trivial,Y⟩).trans (Sub.cut ⟨Z,Z,Z,Z,Y⟩ Z ⟨.one Z,.vec,.vec,.one Z,.one Z,.one Z,.vec,Y⟩ Z)
  ·refine AWP.exit (f8 ?_)
   obtain rfl:=oi h
   refine f8 ⟨_,Z,Z, ?_⟩
   exact Sub.cut ⟨Z,Y⟩ Z ⟨.one Z,.vec,.dead,.dead,.dead,.dead,.vec,Y⟩ Z
 ·intro e s hq
  rcases oo with c59 | x
  ·try dsimp only at h hq
   obtain ⟨rfl,hs⟩:=hq
   refine ⟨_,hs, ?_⟩
   refine k8 (b6 (.q (.u (.j Z Z (.v Z Z (.v Z Z (.nil (b6 (.ret ?_)))))))))
   obtain rfl:=oi h
   exact ⟨⟨[(2,.c (.own 12 0 c59.length)),(3,.c (bool true))],[.one (.cells 3 [(wW start goal 1 l.length)]),.one (vec 4 e8 l),.dead,.dead,.dead,.dead,.dead,.dead,.dead,.dead,.dead,.dead,.one (vec 1 eU32 c59)]⟩,(Sub.move (env':=[(2,.c (.own 12 0 c59.length)),(3,.c (bool true))]) (σ':=[.one (.cells 3 [(wW start goal 1 l.length)]),.one (vec 4 e8 l),.dead,.dead,.dead,.dead,.dead,.dead,.dead,.dead,.dead,.dead,.one (vec 1 eU32 c59)]) 12 6 Z Z Z ⟨Z,Z,Y⟩ Z ⟨⟨Z,Z⟩,⟨Blk.im_ok _ _ _,j6 Z⟩,trivial,trivial,trivial,trivial,trivial,trivial,trivial,trivial,trivial,trivial,⟨Blk.im_ok _ _ _,j6 Z⟩,Y⟩).trans (Sub.env ⟨Z,Z,Y⟩),Done.ret Z ⟨Z,Z⟩⟩
  ·try dsimp only at h hq
   obtain ⟨rfl,hs⟩:=hq
   refine ⟨_,Sub.refl _ _, ?_⟩
   refine m8 (g9 ?_)
   obtain rfl:=oi h
   exact hs
theorem ah9{t:f9}{r:(Int × Int) ⊕ (Int × Int × (List j8) × (List Int))}(h:F6 t=some r):FnOk prog 34 [.agg (tT t)] (ar8 t) (fun tt ss=>(∃ v:Int × Int,r=.inl v∧tt=.tup [.c (.imm (.val (.pointer none))),.c (row 1 eU32 []),.agg [int v.1,int v.2]]∧ss=[.dead,.one (.cells 2 [[int v.1,int v.2]])])∨(∃ v:Int × Int × (List j8) × (List Int),r=.inr v∧tt=.tup [.c (.ptr 4 0 0),.c (row 1 eU32 v.2.2.2),.agg [int 0,int 0]]∧ss=[.dead,.one (.cells 2 [[int 0,int 0]]),.dead,.dead,.one (.cells 3 [[.imm (.val (.int .u32 v.1)),.imm (.val (.int .u32 v.2.1)),.own 5 0 v.2.2.1.length]]),.one (vec 4 e8 v.2.2.1)])):=by
 refine FnOk.enter (rs:=[.t 2,.t 3,.cell 4 29 2]) func34 Z ntmps34 results34 Z ⟨trivial,trivial,rv _ Z,Y⟩ (by kernel_rfl) Z ?_
 refine AWP.weak ?_
 unfold F6 at h
 refine AWP.q (.u (W.box Z Z Z Z Z Z (.v Z Z (.v Z Z (W.alloc Z Z Z Z (.nil (b6 (.q (.q ?_)))))))))
 obtain ⟨a10,ha10,h⟩:=bind_some h
 refine AWP.u (W.loadAgg Z Z Z Z Z Z Z (.aa Z Z Z Z (ai4 ha10) Z (W.alloc Z Z Z Z (W.storeAgg Z Z Z Z Z Z Z (.nil (b6 (.q (.u (W.loadAgg Z Z Z Z Z Z Z (W.build Z Z Z Z (.neqP Z Z Z Z Z Z Z (.nil (b6 (.af Z h (fun hc58 h=> ?_) (fun hc58 h=> ?_)))))))))))))))
 ·refine AWP.q (.drawEI [3] mixed Z Z Z ?_)
  refine e9.consN Z Z (fun E=>W.loadAgg Z Z Z Z Z Z Z .N) Z (.consN Z Z (fun E=>AOps.v Z Z .N) Z (.consN Z Z (fun E=>AOps.v Z Z .N) Z ?_))
  apply e9.consE (v:=.undef); exact Z; exact Z; intro E
  refine W.storeAgg Z Z Z Z Z Z Z .N
  exact Z
  exact Z
  refine e9.done Z ?_ ?_
  ·refine d9.cons Z Z ?_ ?_
   refine b7.go Z Z (fun E=>W.loadAgg Z Z Z Z Z Z Z .N) ?_
   refine b7.skip Z (b7.nil)
   refine d9.cons Z Z ?_ ?_
   refine b7.go Z Z (fun E=>AOps.v Z Z .N) ?_
   refine b7.skip Z (b7.nil)
   refine d9.cons Z Z ?_ ?_
   refine b7.go Z Z (fun E=>AOps.v Z Z .N) ?_
   refine b7.skip Z (b7.nil)
   refine d9.skip Z (d9.nil)
  dsimp only [l8]
  refine b6 (.nilrow 1 3 Z (.ret (g9 ?_)))
  obtain rfl:=oi h
  exact ⟨⟨[(2,.c (.imm (.val (.pointer none)))),(3,.c (row 1 eU32 [])),(4,.c (.ptr 1 0 0))],[.dead,.one (.cells 2 [[int a10.code,int a10.index]])]⟩,Sub.cut ⟨Z,Z,Z,Y⟩ Z ⟨.dead,.one Z,Y⟩ Z,Done.ret Z (.inl ⟨_,Z,Z,Z⟩)⟩
 ·refine AWP.skip (b6 (.q ?_))
  obtain ⟨a16,ha16,h⟩:=bind_some h
  refine AWP.u (W.loadAgg Z Z Z Z Z Z Z (.callF (r2:=.c (.ptr 4 0 0)) (σ'':=[.one (.cells 4 [(tT t)]),.one (.cells 2 [[int 0,int 0]]),.one (.cells 2 [[int a10.code,int a10.index]]),.dead,.one (.cells 3 [[.imm (.val (.int .u32 a16.1)),.imm (.val (.int .u32 a16.2.1)),.own 5 0 a16.2.2.length]]),.one (vec 4 e8 a16.2.2)]) Z Z Z (FnOk.lend [] (space_Of_w_ok ha16) Z Z Z Z Z Z (by exact trivial) Z (by exact trivial) Z Z (by exact ⟨(.old Z Z Z),(.old Z Z Z),(.old Z Z Z),.dead,(.new 1 Z Z (.one Z)),(.new 2 Z Z .vec),Y⟩)) (.v Z Z (.nil (b6 (.q ?_))))))
  obtain ⟨a20,ha20,h⟩:=bind_some h
  refine AWP.u (.j Z Z (S.mkIfc Z Z Z (.callF (r2:=.tup [.c (.own 16 0 a20.1.length),.c (bool a20.2)]) (σ'':=[.one (.cells 4 [(tT t)]),.one (.cells 2 [[int 0,int 0]]),.one (.cells 2 [[int a10.code,int a10.index]]),.dead,.one (.cells 3 [[.imm (.val (.int .u32 a16.1)),.imm (.val (.int .u32 a16.2.1)),.own 5 0 a16.2.2.length]]),.one (vec 4 e8 a16.2.2),.dead,.dead,.dead,.dead,.dead,.dead,.dead,.dead,.dead,.dead,.one (vec 1 eU32 a20.1)]) Z Z Z (FnOk.lend [4,5] (ao8 ha20) Z Z Z Z Z Z (by exact ⟨(.one Z),.vec,Y⟩) Z (by exact ⟨(.live Z (.one Z)),(.live Z .vec),Y⟩) Z Z (by exact ⟨(.old Z Z Z),(.old Z Z Z),(.old Z Z Z),.dead,(.new 0 Z Z (.one Z)),(.new 1 Z Z .vec),.dead,.dead,.dead,.dead,.dead,.dead,.dead,.dead,.dead,.dead,(.new 12 Z Z .vec),Y⟩)) (.j Z Z (.ac Z Z Z (.ac Z Z Z (.v Z Z (.v Z Z (.nil (b6 (.q (.q (.u (.j Z Z (.not Z Z (.nil (b6 (.af Z h (fun hc59 h=> ?_) (fun hc59 h=> ?_)))))))))))))))))))
  ·refine AWP.q (.u (W.build Z Z Z Z (.v Z Z (.v Z Z (W.storeAgg Z Z Z Z Z Z Z (.nil (b6 (.nilrow 1 3 Z (.ret (g9 ?_))))))))))
   obtain rfl:=oi h
   exact ⟨⟨[(2,.c (.imm (.val (.pointer none)))),(3,.c (row 1 eU32 [])),(4,.c (.ptr 1 0 0))],[.dead,.one (.cells 2 [[int 10,int (-7)]])]⟩,Sub.cut ⟨Z,Z,Z,Y⟩ Z ⟨.dead,.one Z,Y⟩ Z,Done.ret Z (.inl ⟨_,Z,Z,Z⟩)⟩
  ·refine AWP.skip (b6 (.q ?_))
   obtain ⟨a27,ha27,h⟩:=bind_some h
   refine AWP.u (.j Z Z (S.sortFU ha27 (fun hy=>at4 hy) sortF_Lu32_ok (⟨_,func57,Z,Z⟩) Z Z Z Z Z Z ?_))
   refine AOps.nil (b6 (.q (.u (.j Z Z (.j Z Z (W.build Z Z Z Z (.v Z Z (.v Z Z (W.storeAgg Z Z Z Z Z Z Z (.nil (b6 (.frzV (id:=16) (l:=a27) (env2:=[(2,.c (.ptr 4 0 0)),(3,.c (row 1 eU32 a27)),(4,.c (.ptr 1 0 0))]) (σ2:=[.one (.cells 4 [(tT t)]),.one (.cells 2 [[int 0,int 0]]),.one (.cells 2 [[int a10.code,int a10.index]]),.dead,.one (.cells 3 [[.imm (.val (.int .u32 a16.1)),.imm (.val (.int .u32 a16.2.1)),.own 5 0 a16.2.2.length]]),.one (vec 4 e8 a16.2.2),.dead,.dead,.dead,.dead,.dead,.dead,.dead,.dead,.dead,.dead,.dead]) Z Z (by exact ⟨⟨_,Z,.inl ⟨Z,Z⟩⟩,⟨_,Z,.inr ⟨_,Z,(sortFU_len ha27),Z⟩⟩,⟨_,Z,.inl ⟨Z,Z⟩⟩,Y⟩) Z (by exact ⟨⟨Z,.inl ⟨Z,Z⟩,.inl ⟨Z,Z⟩,.inl ⟨Z,Z⟩,.inl ⟨Z,Z⟩,Y⟩,⟨Z,.inl ⟨Z,Z⟩,.inl ⟨Z,Z⟩,Y⟩,⟨Z,.inl ⟨Z,Z⟩,.inl ⟨Z,Z⟩,Y⟩,trivial,⟨Z,.inl ⟨Z,Z⟩,.inl ⟨Z,Z⟩,.inl ⟨Z,Z⟩,Y⟩,FrzB.vec,trivial,trivial,trivial,trivial,trivial,trivial,trivial,trivial,trivial,trivial,trivial,Y⟩) (.ret ?_)))))))))))))
   obtain rfl:=oi h
   exact ⟨⟨[(2,.c (.ptr 4 0 0)),(3,.c (row 1 eU32 a27)),(4,.c (.ptr 1 0 0))],[.dead,.one (.cells 2 [[int 0,int 0]]),.dead,.dead,.one (.cells 3 [[.imm (.val (.int .u32 a16.1)),.imm (.val (.int .u32 a16.2.1)),.own 5 0 a16.2.2.length]]),.one (vec 4 e8 a16.2.2)]⟩,Sub.cut ⟨Z,Z,Z,Y⟩ Z ⟨.dead,.one Z,.dead,.dead,.one Z,.vec,Y⟩ Z,Done.ret Z (.inr ⟨_,Z,Z,Z⟩)⟩
theorem ak8{r:Unit}(h:I3=some r):FnOk prog 60 [] (al8) (fun tt ss=>tt=.c (.ptr 2 0 0)∧ss=[.one (pmap 1 vU ([]:List (Int × Int))),pool 4 b9 ([]:List c9),.one (.cells 3 [[.own 3 0 (([]:List Int).length),.map 0,int 0]]),.one (prow 1 ([]:List Int))]):=by
 refine FnOk.enter (rs:=[.t 0]) func60 Z ntmps60 results60 Z ⟨trivial,Y⟩ (by kernel_rfl) Z ?_
 refine AWP.weak ?_
 unfold I3 at h
 refine AWP.q (.u (.v Z Z (.nil (b6 (.q (.u (W.makeMapP 1 vU Z Z Z (.sub (Sub.newPool (size:=4) (f:=b9) Z) (W.build Z Z Z Z (W.box Z Z Z Z Z Z (.v Z Z (.nil (b6 (.virtP 1 (b:=2) (o:=0) Z Z Z Z Z Z (.ret ?_)))))))))))))))
 obtain rfl:=oi h
 exact ⟨⟨[(0,.c (.ptr 2 0 0))],[.one (pmap 1 vU ([]:List (Int × Int))),pool 4 b9 ([]:List c9),.one (.cells 3 [[.own 3 0 (([]:List Int).length),.map 0,int 0]]),.one (prow 1 ([]:List Int))]⟩,Sub.env ⟨Z,Y⟩,Done.ret Z ⟨Z,Z⟩⟩
theorem ao0{sv:Int}{start:Int}{goal:Int}{l:List j8}{r:Unit}(h:N0 sv start goal l=some r):FnOk prog 61 [.c (.ptr 0 0 0),.c (.imm (.val (.int .u32 sv)))] (ao5 sv start goal l) (fun tt ss=>tt=.c (bool (decide (Go.bits .and .u32 sv goal=goal)))∧ss=[.one (.cells 3 [(wW start goal 1 l.length)]),.one (vec 4 e8 l)]):=by
 refine FnOk.enter (rs:=[.t 4]) func61 Z ntmps61 results61 Z ⟨trivial,Y⟩ (by kernel_rfl) Z ?_
 refine AWP.weak ?_
 unfold N0 at h
 refine AWP.q (.u (.v Z Z (.nil (b6 (.q (.drawI mixed Z ?_))))))
 refine k9.consF Z (fun E=>AOps.j Z Z .N) Z (.consF Z (fun E=>AOps.j Z Z .N) Z (.consF Z (fun E=>AOps.ah Z Z Z .N) Z (.consF Z (fun E=>W.fieldAddr Z Z Z Z .N) Z (.consF Z (fun E=>AOps.E Z Z Z Z Z Z .N) Z (.consF Z (fun E=>AOps.bits Z Z Z (by simp) .N) Z (.consF Z (fun E=>AOps.j Z Z .N) Z (.consF Z (fun E=>AOps.ah Z Z Z .N) Z (.consF Z (fun E=>W.fieldAddr Z Z Z Z .N) Z (.consF Z (fun E=>AOps.E Z Z Z Z Z Z .N) Z (.consF Z (fun E=>AOps.ab Z Z Z .N) Z (.consF Z (fun E=>AOps.v Z Z .N) Z ?_)))))))))))
 refine k9.done ?_
 dsimp only [l8]
 refine b6 (.ret ?_)
 obtain rfl:=oi h
 exact ⟨⟨[(4,.c (bool (decide (Go.bits .and .u32 sv goal=goal))))],[.one (.cells 3 [(wW start goal 1 l.length)]),.one (vec 4 e8 l)]⟩,Sub.env ⟨Z,Y⟩,Done.ret Z ⟨Z,Z⟩⟩
theorem F0{l:List Int}{l2:List c9}{r:Unit}(h:o9 l l2=some r):FnOk prog 183 [.c (.own 0 0 l.length)] (ae0 l l2) (fun tt ss=>tt=.c (int (l.length:Int))∧ss=[.one (prow 1 l),pool 4 b9 l2]):=by
 refine FnOk.enter (rs:=[.t 2]) func183 Z ntmps183 results183 Z ⟨trivial,Y⟩ (by kernel_rfl) Z ?_
 refine AWP.weak ?_
 unfold o9 at h
 refine AWP.q (.u (.v Z Z (.nil (b6 (.q (.u (.j Z Z (.lenOwnB Z Z Z (fun hl4=>.v Z Z (.nil (b6 (.ret ?_))))))))))))
 obtain rfl:=oi h
 exact ⟨⟨[(2,.c (int (l.length:Int)))],[.one (prow 1 l),pool 4 b9 l2]⟩,Sub.env ⟨Z,Y⟩,Done.ret Z ⟨Z,Z⟩⟩
theorem y9{iv:Int}{kv:Int}{l:List Int}{l4:List c9}{r:Bool}(h:n8 iv kv l l4=some r):FnOk prog 184 [.c (.own 0 0 l.length),.c (int iv),.c (int kv)] (ac6 iv kv l l4) (fun tt ss=>tt=.c (bool r)∧ss=[.one (prow 1 l),pool 4 b9 l4]):=by
 refine FnOk.enter (rs:=[.t 6]) func184 Z ntmps184 results184 Z ⟨trivial,Y⟩ (by kernel_rfl) Z ?_
 refine AWP.weak ?_
 unfold n8 at h
 refine AWP.q (.u (.v Z Z (.nil (b6 ?_))))
 obtain ⟨a9,ha9,en56,hen56,a16,ha16,h⟩:=b3 h
 obtain ⟨en57,hen57,h⟩:=bind_some h
 refine AWP.seqJ (⟨[(6,.c (bool ((decide (en56.key<en57.key)) || ((decide (en56.key=en57.key)) && (decide (en56.time<en57.time))))))],[.one (prow 1 l),pool 4 b9 l4]⟩) ?_ ?_
 ·rcases bft (decide (en56.key<en57.key)) with hb1 | hb1
  ·refine AWP.drawI mixed Z ?_
   refine k9.consF Z (fun E=>AOps.j Z Z .N) Z (.consF Z (fun E=>AOps.j Z Z .N) Z (.consF Z (fun E=>S.idxPb Z Z Z (by simpa only [List.length_set] using o6 ha9) Z Z .N) Z (.consF Z (fun E=>S.loadP ha9 Z Z Z Z .N) Z (.consF Z (fun E=>S.nilCheckE Z Z (by simpa only [List.length_set] using i5 hen56) Z .N) Z (.consF Z (fun E=>S.fieldE Z Z Z (by simpa only [List.length_set] using i5 hen56) Z .N) Z (.consF Z (fun E=>AOps.E Z Z (o7 Z hen56) Z Z Z .N) Z (.consF Z (fun E=>AOps.j Z Z .N) Z (.consF Z (fun E=>AOps.j Z Z .N) Z (.consF Z (fun E=>S.idxPb Z Z Z (by simpa only [List.length_set] using o6 ha16) Z Z .N) Z (.consF Z (fun E=>S.loadP ha16 Z Z Z Z .N) Z (.consF Z (fun E=>S.nilCheckE Z Z (by simpa only [List.length_set] using i5 hen57) Z .N) Z (.consF Z (fun E=>S.fieldE Z Z Z (by simpa only [List.length_set] using i5 hen57) Z .N) Z (.consF Z (fun E=>AOps.E Z Z (o7 Z hen57) Z Z Z .N) Z (.consF Z (fun E=>AOps.F Z Z Z .N) Z (.consF Z (fun E=>AOps.j Z Z .N) Z (.consF Z (fun E=>AOps.B Z Z Z hb1 .N) Z (.consF Z (fun E=>AOps.B Z Z Z hb1 .N) Z (.consF Z (fun E=>AOps.B Z Z Z hb1 .N) Z (.consF Z (fun E=>AOps.B Z Z Z hb1 .N) Z (.consF Z (fun E=>AOps.B Z Z Z hb1 .N) Z (.consF Z (fun E=>AOps.B Z Z Z hb1 .N) Z (.consF Z (fun E=>AOps.B Z Z Z hb1 .N) Z (.consF Z (fun E=>AOps.B Z Z Z hb1 .N) Z (.consF Z (fun E=>AOps.B Z Z Z hb1 .N) Z (.consF Z (fun E=>AOps.B Z Z Z hb1 .N) Z (.consF Z (fun E=>AOps.B Z Z Z hb1 .N) Z (.consF Z (fun E=>AOps.B Z Z Z hb1 .N) Z (.consF Z (fun E=>AOps.B Z Z Z hb1 .N) Z (.consF Z (fun E=>AOps.B Z Z Z hb1 .N) Z (.consF Z (fun E=>AOps.B Z Z Z hb1 .N) Z (.consF Z (fun E=>AOps.B Z Z Z hb1 .N) Z (.consF Z (fun E=>AOps.ai Z Z Z .N) Z (.consF Z (fun E=>AOps.ai Z Z Z .N) Z (.consF Z (fun E=>AOps.ai Z Z Z .N) Z (.consF Z (fun E=>AOps.ai Z Z Z .N) Z (.consF Z (fun E=>AOps.ai Z Z Z .N) Z (.consF Z (fun E=>AOps.ai Z Z Z .N) Z (.consF Z (fun E=>AOps.ai Z Z Z .N) Z (.consF Z (fun E=>AOps.ai Z Z Z .N) Z (.consF Z (fun E=>AOps.ai Z Z Z .N) Z (.consF Z (fun E=>AOps.ai Z Z Z .N) Z (.consF Z (fun E=>AOps.ai Z Z Z .N) Z (.consF Z (fun E=>AOps.ai Z Z Z .N) Z (.consF Z (fun E=>AOps.ai Z Z Z .N) Z (.consF Z (fun E=>AOps.ai Z Z Z .N) Z (.consF Z (fun E=>AOps.ai Z Z Z .N) Z (.consF Z (fun E=>AOps.B Z Z Z hb1 .N) Z (.consF Z (fun E=>AOps.O Z hb1 Z Z .N) Z (.consF Z (fun E=>AOps.v Z Z .N) Z ?_)))))))))))))))))))))))))))))))))))))))))))))))))
   refine k9.done ?_
   dsimp only [l8]
   refine b6 ?_
   simp only [X4 hb1,or_t hb1,Bool.false_or,Bool.true_or,Bool.false_and,Bool.true_and]
   exact Sub.env ⟨Z,Y⟩
  ·rcases bft (decide (en56.key=en57.key)) with hb2 | hb2
   ·refine AWP.drawI mixed Z ?_
    refine k9.consF Z (fun E=>AOps.j Z Z .N) Z (.consF Z (fun E=>AOps.j Z Z .N) Z (.consF Z (fun E=>S.idxPb Z Z Z (by simpa only [List.length_set] using o6 ha9) Z Z .N) Z (.consF Z (fun E=>S.loadP ha9 Z Z Z Z .N) Z (.consF Z (fun E=>S.nilCheckE Z Z (by simpa only [List.length_set] using i5 hen56) Z .N) Z (.consF Z (fun E=>S.fieldE Z Z Z (by simpa only [List.length_set] using i5 hen56) Z .N) Z (.consF Z (fun E=>AOps.E Z Z (o7 Z hen56) Z Z Z .N) Z (.consF Z (fun E=>AOps.j Z Z .N) Z (.consF Z (fun E=>AOps.j Z Z .N) Z (.consF Z (fun E=>S.idxPb Z Z Z (by simpa only [List.length_set] using o6 ha16) Z Z .N) Z (.consF Z (fun E=>S.loadP ha16 Z Z Z Z .N) Z (.consF Z (fun E=>S.nilCheckE Z Z (by simpa only [List.length_set] using i5 hen57) Z .N) Z (.consF Z (fun E=>S.fieldE Z Z Z (by simpa only [List.length_set] using i5 hen57) Z .N) Z (.consF Z (fun E=>AOps.E Z Z (o7 Z hen57) Z Z Z .N) Z (.consF Z (fun E=>AOps.F Z Z Z .N) Z (.consF Z (fun E=>AOps.j Z Z .N) Z (.consF Z (fun E=>AOps.z Z Z Z hb1 (.j Z Z .N)) Z (.consF Z (fun E=>AOps.z Z Z Z hb1 (.j Z Z .N)) Z (.consF Z (fun E=>AOps.z Z Z Z hb1 (S.idxPb Z Z Z (by simpa only [List.length_set] using o6 ha9) Z Z .N)) Z (.consF Z (fun E=>AOps.z Z Z Z hb1 (S.loadP ha9 Z Z Z Z .N)) Z (.consF Z (fun E=>AOps.z Z Z Z hb1 (S.nilCheckE Z Z (by simpa only [List.length_set] using i5 hen56) Z .N)) Z (.consF Z (fun E=>AOps.z Z Z Z hb1 (S.fieldE Z Z Z (by simpa only [List.length_set] using i5 hen56) Z .N)) Z (.consF Z (fun E=>AOps.z Z Z Z hb1 (.E Z Z (o7 Z hen56) Z Z Z .N)) Z (.consF Z (fun E=>AOps.z Z Z Z hb1 (.j Z Z .N)) Z (.consF Z (fun E=>AOps.z Z Z Z hb1 (.j Z Z .N)) Z (.consF Z (fun E=>AOps.z Z Z Z hb1 (S.idxPb Z Z Z (by simpa only [List.length_set] using o6 ha16) Z Z .N)) Z (.consF Z (fun E=>AOps.z Z Z Z hb1 (S.loadP ha16 Z Z Z Z .N)) Z (.consF Z (fun E=>AOps.z Z Z Z hb1 (S.nilCheckE Z Z (by simpa only [List.length_set] using i5 hen57) Z .N)) Z (.consF Z (fun E=>AOps.z Z Z Z hb1 (S.fieldE Z Z Z (by simpa only [List.length_set] using i5 hen57) Z .N)) Z (.consF Z (fun E=>AOps.z Z Z Z hb1 (.E Z Z (o7 Z hen57) Z Z Z .N)) Z (.consF Z (fun E=>AOps.z Z Z Z hb1 (.ab Z Z Z .N)) Z (.consF Z (fun E=>AOps.z Z Z Z hb1 (.j Z Z .N)) Z (.consF Z (fun E=>AOps.z Z Z Z hb2 (.j Z Z .N)) Z (.consF Z (fun E=>AOps.z Z Z Z hb2 (.j Z Z .N)) Z (.consF Z (fun E=>AOps.z Z Z Z hb2 (S.idxPb Z Z Z (by simpa only [List.length_set] using o6 ha9) Z Z .N)) Z (.consF Z (fun E=>AOps.z Z Z Z hb2 (S.loadP ha9 Z Z Z Z .N)) Z (.consF Z (fun E=>AOps.z Z Z Z hb2 (S.nilCheckE Z Z (by simpa only [List.length_set] using i5 hen56) Z .N)) Z (.consF Z (fun E=>AOps.z Z Z Z hb2 (S.fieldE Z Z Z (by simpa only [List.length_set] using i5 hen56) Z .N)) Z (.consF Z (fun E=>AOps.z Z Z Z hb2 (.E Z Z (o7 Z hen56) Z Z Z .N)) Z (.consF Z (fun E=>AOps.z Z Z Z hb2 (.j Z Z .N)) Z (.consF Z (fun E=>AOps.z Z Z Z hb2 (.j Z Z .N)) Z (.consF Z (fun E=>AOps.z Z Z Z hb2 (S.idxPb Z Z Z (by simpa only [List.length_set] using o6 ha16) Z Z .N)) Z (.consF Z (fun E=>AOps.z Z Z Z hb2 (S.loadP ha16 Z Z Z Z .N)) Z (.consF Z (fun E=>AOps.z Z Z Z hb2 (S.nilCheckE Z Z (by simpa only [List.length_set] using i5 hen57) Z .N)) Z (.consF Z (fun E=>AOps.z Z Z Z hb2 (S.fieldE Z Z Z (by simpa only [List.length_set] using i5 hen57) Z .N)) Z (.consF Z (fun E=>AOps.z Z Z Z hb2 (.E Z Z (o7 Z hen57) Z Z Z .N)) Z (.consF Z (fun E=>AOps.z Z Z Z hb2 (.F Z Z Z .N)) Z (.consF Z (fun E=>AOps.z Z Z Z hb1 (.O Z hb2 Z Z .N)) Z (.consF Z (fun E=>AOps.U Z hb1 Z Z .N) Z (.consF Z (fun E=>AOps.v Z Z .N) Z ?_)))))))))))))))))))))))))))))))))))))))))))))))))
    refine k9.done ?_
    dsimp only [l8]
    refine b6 ?_
    simp only [S0 hb1,or_f hb1,X4 hb2,or_t hb2,Bool.false_or,Bool.true_or,Bool.false_and,Bool.true_and]
    exact Sub.env ⟨Z,Y⟩
   ·refine AWP.drawI mixed Z ?_
    refine k9.consF Z (fun E=>AOps.j Z Z .N) Z (.consF Z (fun E=>AOps.j Z Z .N) Z (.consF Z (fun E=>S.idxPb Z Z Z (by simpa only [List.length_set] using o6 ha9) Z Z .N) Z (.consF Z (fun E=>S.loadP ha9 Z Z Z Z .N) Z (.consF Z (fun E=>S.nilCheckE Z Z (by simpa only [List.length_set] using i5 hen56) Z .N) Z (.consF Z (fun E=>S.fieldE Z Z Z (by simpa only [List.length_set] using i5 hen56) Z .N) Z (.consF Z (fun E=>AOps.E Z Z (o7 Z hen56) Z Z Z .N) Z (.consF Z (fun E=>AOps.j Z Z .N) Z (.consF Z (fun E=>AOps.j Z Z .N) Z (.consF Z (fun E=>S.idxPb Z Z Z (by simpa only [List.length_set] using o6 ha16) Z Z .N) Z (.consF Z (fun E=>S.loadP ha16 Z Z Z Z .N) Z (.consF Z (fun E=>S.nilCheckE Z Z (by simpa only [List.length_set] using i5 hen57) Z .N) Z (.consF Z (fun E=>S.fieldE Z Z Z (by simpa only [List.length_set] using i5 hen57) Z .N) Z (.consF Z (fun E=>AOps.E Z Z (o7 Z hen57) Z Z Z .N) Z (.consF Z (fun E=>AOps.F Z Z Z .N) Z (.consF Z (fun E=>AOps.j Z Z .N) Z (.consF Z (fun E=>AOps.z Z Z Z hb1 (.j Z Z .N)) Z (.consF Z (fun E=>AOps.z Z Z Z hb1 (.j Z Z .N)) Z (.consF Z (fun E=>AOps.z Z Z Z hb1 (S.idxPb Z Z Z (by simpa only [List.length_set] using o6 ha9) Z Z .N)) Z (.consF Z (fun E=>AOps.z Z Z Z hb1 (S.loadP ha9 Z Z Z Z .N)) Z (.consF Z (fun E=>AOps.z Z Z Z hb1 (S.nilCheckE Z Z (by simpa only [List.length_set] using i5 hen56) Z .N)) Z (.consF Z (fun E=>AOps.z Z Z Z hb1 (S.fieldE Z Z Z (by simpa only [List.length_set] using i5 hen56) Z .N)) Z (.consF Z (fun E=>AOps.z Z Z Z hb1 (.E Z Z (o7 Z hen56) Z Z Z .N)) Z (.consF Z (fun E=>AOps.z Z Z Z hb1 (.j Z Z .N)) Z (.consF Z (fun E=>AOps.z Z Z Z hb1 (.j Z Z .N)) Z (.consF Z (fun E=>AOps.z Z Z Z hb1 (S.idxPb Z Z Z (by simpa only [List.length_set] using o6 ha16) Z Z .N)) Z (.consF Z (fun E=>AOps.z Z Z Z hb1 (S.loadP ha16 Z Z Z Z .N)) Z (.consF Z (fun E=>AOps.z Z Z Z hb1 (S.nilCheckE Z Z (by simpa only [List.length_set] using i5 hen57) Z .N)) Z (.consF Z (fun E=>AOps.z Z Z Z hb1 (S.fieldE Z Z Z (by simpa only [List.length_set] using i5 hen57) Z .N)) Z (.consF Z (fun E=>AOps.z Z Z Z hb1 (.E Z Z (o7 Z hen57) Z Z Z .N)) Z (.consF Z (fun E=>AOps.z Z Z Z hb1 (.ab Z Z Z .N)) Z (.consF Z (fun E=>AOps.z Z Z Z hb1 (.j Z Z .N)) Z (.consF Z (fun E=>AOps.B Z Z Z hb2 .N) Z (.consF Z (fun E=>AOps.B Z Z Z hb2 .N) Z (.consF Z (fun E=>AOps.B Z Z Z hb2 .N) Z (.consF Z (fun E=>AOps.B Z Z Z hb2 .N) Z (.consF Z (fun E=>AOps.B Z Z Z hb2 .N) Z (.consF Z (fun E=>AOps.B Z Z Z hb2 .N) Z (.consF Z (fun E=>AOps.B Z Z Z hb2 .N) Z (.consF Z (fun E=>AOps.B Z Z Z hb2 .N) Z (.consF Z (fun E=>AOps.B Z Z Z hb2 .N) Z (.consF Z (fun E=>AOps.B Z Z Z hb2 .N) Z (.consF Z (fun E=>AOps.B Z Z Z hb2 .N) Z (.consF Z (fun E=>AOps.B Z Z Z hb2 .N) Z (.consF Z (fun E=>AOps.B Z Z Z hb2 .N) Z (.consF Z (fun E=>AOps.B Z Z Z hb2 .N) Z (.consF Z (fun E=>AOps.B Z Z Z hb2 .N) Z (.consF Z (fun E=>AOps.z Z Z Z hb1 (.U Z hb2 Z Z .N)) Z (.consF Z (fun E=>AOps.U Z hb1 Z Z .N) Z (.consF Z (fun E=>AOps.v Z Z .N) Z ?_)))))))))))))))))))))))))))))))))))))))))))))))))
    refine k9.done ?_
    dsimp only [l8]
    refine b6 ?_
    simp only [S0 hb1,or_f hb1,S0 hb2,or_f hb2,Bool.false_or,Bool.true_or,Bool.false_and,Bool.true_and]
    exact Sub.env ⟨Z,Y⟩
 ·refine AWP.ret ?_
  obtain rfl:=oi h
  exact ⟨⟨[(6,.c (bool ((decide (en56.key<en57.key)) || ((decide (en56.key=en57.key)) && (decide (en56.time<en57.time))))))],[.one (prow 1 l),pool 4 b9 l4]⟩,Sub.env ⟨Z,Y⟩,Done.ret Z ⟨Z,Z⟩⟩
theorem N2{iv:Int}{kv:Int}{l:List Int}{l4:List c9}{r:(List Int) × (List c9)}(h:n7 iv kv l l4=some r):FnOk prog 185 [.c (.own 0 0 l.length),.c (int iv),.c (int kv)] (ac9 iv kv l l4) (fun tt ss=>tt=.tup []∧ss=[.one (prow 1 r.1),pool 4 b9 r.2]):=by
 refine FnOk.enter (rs:=[]) func185 Z ntmps185 results185 Z trivial (by kernel_rfl) Z ?_
 refine AWP.weak ?_
 unfold n7 at h
 refine AWP.q ?_
 obtain ⟨a12,ha12,a16,ha16,h⟩:=b2 h
 refine AWP.drawEI [13,15] mixed Z Z Z ?_
 refine e9.consN Z Z (fun E=>AOps.j Z Z .N) Z (.consN Z Z (fun E=>AOps.j Z Z .N) Z (.consN Z Z (fun E=>AOps.j Z Z .N) Z (.consN Z Z (fun E=>AOps.j Z Z .N) Z (.consN Z Z (fun E=>AOps.j Z Z .N) Z (.consN Z Z (fun E=>AOps.j Z Z .N) Z (.consN Z Z (fun E=>S.idxPb Z Z Z (by simpa only [List.length_set] using o6 ha12) Z Z .N) Z (.consN Z Z (fun E=>S.loadP ha12 Z Z Z Z .N) Z (.consN Z Z (fun E=>AOps.j Z Z .N) Z (.consN Z Z (fun E=>AOps.j Z Z .N) Z (.consN Z Z (fun E=>S.idxPb Z Z Z (by simpa only [List.length_set] using o6 ha16) Z Z .N) Z (.consN Z Z (fun E=>S.loadP ha16 Z Z Z Z .N) Z (.consN Z Z (fun E=>S.idxPb Z Z Z (by simpa only [List.length_set] using o6 ha16) Z Z .N) Z ?_))))))))))))
 apply e9.consE (v:=.undef); exact Z; exact Z; intro E
 refine S.storeP (a:=a12) (by simpa only [List.length_set] using i5 ha16) Z Z Z Z .N
 exact Z
 exact Z
 refine e9.consN Z Z (fun E=>S.idxPb Z Z (by simp only [List.length_set]) (by simpa only [List.length_set] using o6 ha12) Z Z .N) Z ?_
 apply e9.consE (v:=.undef); exact Z; exact Z; intro E
 refine S.storeP (a:=a16) (by simpa only [List.length_set] using i5 ha12) Z Z Z Z .N
 exact Z
 exact Z
 refine e9.done Z ?_ ?_
 ·refine d9.cons Z Z ?_ ?_
  refine b7.go Z Z (fun E=>AOps.j Z Z .N) ?_
  refine b7.skip Z (b7.skip Z (b7.nil))
  refine d9.cons Z Z ?_ ?_
  refine b7.go Z Z (fun E=>AOps.j Z Z .N) ?_
  refine b7.skip Z (b7.skip Z (b7.nil))
  refine d9.cons Z Z ?_ ?_
  refine b7.go Z Z (fun E=>AOps.j Z Z .N) ?_
  refine b7.go Z Z (fun E=>AOps.j Z Z .N) ?_
  refine b7.skip Z (b7.nil)
  refine d9.cons Z Z ?_ ?_
  refine b7.go Z Z (fun E=>AOps.j Z Z .N) ?_
  refine b7.go Z Z (fun E=>AOps.j Z Z .N) ?_
  refine b7.skip Z (b7.nil)
  refine d9.cons Z Z ?_ ?_
  refine b7.go Z Z (fun E=>AOps.j Z Z .N) ?_
  refine b7.skip Z (b7.skip Z (b7.nil))
  refine d9.cons Z Z ?_ ?_
  refine b7.go Z Z (fun E=>AOps.j Z Z .N) ?_
  refine b7.skip Z (b7.skip Z (b7.nil))
  refine d9.cons Z Z ?_ ?_
  refine b7.go Z Z (fun E=>S.idxPb Z Z Z (by simpa only [List.length_set] using o6 ha12) Z Z .N) ?_
  refine b7.skip Z (b7.skip Z (b7.nil))
  refine d9.cons Z Z ?_ ?_
  refine b7.go Z Z (fun E=>S.loadP ha12 Z Z Z Z .N) ?_
  refine b7.skip Z (b7.skip Z (b7.nil))
  refine d9.cons Z Z ?_ ?_
  refine b7.go Z Z (fun E=>AOps.j Z Z .N) ?_
  refine b7.skip Z (b7.skip Z (b7.nil))
  refine d9.cons Z Z ?_ ?_
  refine b7.go Z Z (fun E=>AOps.j Z Z .N) ?_
  refine b7.skip Z (b7.skip Z (b7.nil))
  refine d9.cons Z Z ?_ ?_
  refine b7.go Z Z (fun E=>S.idxPb Z Z Z (by simpa only [List.length_set] using o6 ha16) Z Z .N) ?_
  refine b7.skip Z (b7.skip Z (b7.nil))
  refine d9.cons Z Z ?_ ?_
  refine b7.go Z Z (fun E=>S.loadP ha16 Z Z Z Z .N) ?_
  refine b7.skip Z (b7.skip Z (b7.nil))
  refine d9.cons Z Z ?_ ?_
  refine b7.go Z Z (fun E=>S.idxPb Z Z Z (by simpa only [List.length_set] using o6 ha16) Z Z .N) ?_
  refine b7.skip Z (b7.skip Z (b7.nil))
  refine d9.skip Z ?_
  refine d9.cons Z Z ?_ ?_
  refine b7.skip Z ?_
  refine b7.go Z Z (fun E=>S.idxPb Z Z (by simp only [List.length_set]) (by simpa only [List.length_set] using o6 ha12) Z Z .N) ?_
  refine b7.skip Z (b7.nil)
  refine d9.skip Z (d9.nil)
 dsimp only [l8]
 refine b6 ?_
 obtain ⟨ha57,hha57,ha58,hha58,en59,hen59,h⟩:=b3 h
 obtain ⟨en60,hen60,h⟩:=bind_some h
 refine AWP.drawEI [12,15] mixed Z Z Z ?_
 refine e9.consN Z Z (fun E=>AOps.j Z Z .N) Z (.consN Z Z (fun E=>AOps.j Z Z .N) Z (.consN Z Z (fun E=>S.idxPb Z Z (by simp only [List.length_set]) (by simpa only [List.length_set] using o6 ha16) Z Z .N) Z (.consN Z Z (fun E=>S.loadP hha57 Z Z Z Z .N) Z (.consN Z Z (fun E=>AOps.j Z Z .N) Z (.consN Z Z (fun E=>AOps.j Z Z .N) Z (.consN Z Z (fun E=>S.idxPb Z Z (by simp only [List.length_set]) (by simpa only [List.length_set] using o6 ha12) Z Z .N) Z (.consN Z Z (fun E=>S.loadP hha58 Z Z Z Z .N) Z (.consN Z Z (fun E=>AOps.j Z Z .N) Z (.consN Z Z (fun E=>AOps.j Z Z .N) Z (.consN Z Z (fun E=>S.nilCheckE Z Z (by simpa only [List.length_set] using i5 hen59) Z .N) Z (.consN Z Z (fun E=>S.fieldE Z Z Z (by simpa only [List.length_set] using i5 hen59) Z .N) Z ?_)))))))))))
 apply e9.consE (v:=.undef); exact Z; exact Z; intro E
 refine S.storeE (e':=(⟨en59.item,en59.key,en59.time,iv⟩:c9)) hen59 Z Z Z Z Z Z .N
 exact Z
 exact Z
 refine e9.consN Z Z (fun E=>S.nilCheckE Z Z (by simpa only [List.length_set] using i5 hen60) Z .N) Z (.consN Z Z (fun E=>S.fieldE Z Z Z (by simpa only [List.length_set] using i5 hen60) Z .N) Z ?_)
 apply e9.consE (v:=.undef); exact Z; exact Z; intro E
 refine S.storeE (e':=(⟨en60.item,en60.key,en60.time,kv⟩:c9)) hen60 Z Z Z Z Z Z .N
 exact Z
 exact Z
 refine e9.done Z ?_ ?_
 ·refine d9.cons Z Z ?_ ?_
  refine b7.go Z Z (fun E=>AOps.j Z Z .N) ?_
  refine b7.skip Z (b7.skip Z (b7.nil))
  refine d9.cons Z Z ?_ ?_
  refine b7.go Z Z (fun E=>AOps.j Z Z .N) ?_
  refine b7.skip Z (b7.skip Z (b7.nil))
  refine d9.cons Z Z ?_ ?_
  refine b7.go Z Z (fun E=>S.idxPb Z Z (by simp only [List.length_set]) (by simpa only [List.length_set] using o6 ha16) Z Z .N) ?_
  refine b7.skip Z (b7.skip Z (b7.nil))
  refine d9.cons Z Z ?_ ?_
  refine b7.go Z Z (fun E=>S.loadP hha57 Z Z Z Z .N) ?_
  refine b7.skip Z (b7.skip Z (b7.nil))
  refine d9.cons Z Z ?_ ?_
  refine b7.go Z Z (fun E=>AOps.j Z Z .N) ?_
  refine b7.skip Z (b7.skip Z (b7.nil))
  refine d9.cons Z Z ?_ ?_
  refine b7.go Z Z (fun E=>AOps.j Z Z .N) ?_
  refine b7.skip Z (b7.skip Z (b7.nil))
  refine d9.cons Z Z ?_ ?_
  refine b7.go Z Z (fun E=>S.idxPb Z Z (by simp only [List.length_set]) (by simpa only [List.length_set] using o6 ha12) Z Z .N) ?_
  refine b7.skip Z (b7.skip Z (b7.nil))
  refine d9.cons Z Z ?_ ?_
  refine b7.go Z Z (fun E=>S.loadP hha58 Z Z Z Z .N) ?_
  refine b7.skip Z (b7.skip Z (b7.nil))
  refine d9.cons Z Z ?_ ?_
  refine b7.go Z Z (fun E=>AOps.j Z Z .N) ?_
  refine b7.skip Z (b7.skip Z (b7.nil))
  refine d9.cons Z Z ?_ ?_
  refine b7.go Z Z (fun E=>AOps.j Z Z .N) ?_
  refine b7.go Z Z (fun E=>AOps.j Z Z .N) ?_
  refine b7.skip Z (b7.nil)
  refine d9.cons Z Z ?_ ?_
  refine b7.go Z Z (fun E=>S.nilCheckE Z Z (by simpa only [List.length_set] using i5 hen59) Z .N) ?_
  refine b7.skip Z (b7.skip Z (b7.nil))
  refine d9.cons Z Z ?_ ?_
  refine b7.go Z Z (fun E=>S.fieldE Z Z Z (by simpa only [List.length_set] using i5 hen59) Z .N) ?_
  refine b7.skip Z (b7.skip Z (b7.nil))
  refine d9.skip Z ?_
  refine d9.cons Z Z ?_ ?_
  refine b7.skip Z ?_
  refine b7.go Z Z (fun E=>S.nilCheckE Z Z (by simpa only [List.length_set] using i5 hen60) Z .N) ?_
  refine b7.skip Z (b7.nil)
  refine d9.cons Z Z ?_ ?_
  refine b7.skip Z ?_
  refine b7.go Z Z (fun E=>S.fieldE Z Z Z (by simpa only [List.length_set] using i5 hen60) Z .N) ?_
  refine b7.skip Z (b7.nil)
  refine d9.skip Z (d9.nil)
 dsimp only [l8]
 obtain rfl:=oi h
 exact ⟨⟨[],[.one (prow 1 ((l.set iv.toNat a12).set kv.toNat a16)),pool 4 b9 ((l4.set ha57.toNat (⟨en59.item,en59.key,en59.time,iv⟩:c9)).set ha58.toNat (⟨en60.item,en60.key,en60.time,kv⟩:c9))]⟩,Sub.env trivial,Done.normal Z ⟨Z,Z⟩⟩
theorem am0{i01:Int}{nv:Int}{time:Int}{l:List Int}{l5:List (Int × Int)}{l6:List c9}{r:(List Int) × (List c9) × Bool}(h:A8 i01 nv time l l5 l6=some r):FnOk prog 73 [.c (.ifc 158 [.ptr 0 0 0] false),.c (int i01),.c (int nv)] (W5 i01 nv time l l5 l6) (fun tt ss=>tt=.c (bool r.2.2)∧ss=[.one (.cells 3 [[.own 1 0 r.1.length,.map 2,int time]]),.one (prow 3 r.1),.one (pmap 3 vU l5),pool 4 b9 r.2.1]):=by
 refine FnOk.enter (rs:=[.t 6]) func73 Z ntmps73 results73 Z ⟨trivial,Y⟩ (by kernel_rfl) Z ?_
 refine AWP.weak ?_
 unfold A8 at h
 refine AWP.q (.u (.v Z Z (.nil (b6 (.q (.u (.j Z Z (.v Z Z (.nil (b6 (.q (.J ?_))))))))))))
 obtain ⟨⟨c63,c64,iv65⟩,ho1,h⟩:=bind_some h
 try dsimp only at h
 refine AWP.loopS ho1 (fun (c60,c61,iv62)=>⟨[(0,.c (.ifc 158 [.ptr 0 0 0] false)),(1,.c (int i01)),(2,.c (int nv)),(7,.c (int iv62))],[.one (.cells 3 [[.own 1 0 c60.length,.map 2,int time]]),.one (prow 3 c60),.one (pmap 3 vU l5),pool 4 b9 c61]⟩) (fun (c63,c64,iv65) e st=>e=.exit 0∧Sub (W5 i01 nv time l l5 l6) st ⟨[(1,.c (int i01)),(7,.c (int iv65))],[.one (.cells 3 [[.own 1 0 c63.length,.map 2,int time]]),.one (prow 3 c63),.one (pmap 3 vU l5),pool 4 b9 c64]⟩) ?_ ?_ ?_
 ·try dsimp only
  exact Sub.env ⟨Z,Z,Z,Z,Y⟩
 ·intro s o h
  obtain ⟨c60,c61,iv62⟩:=s
  unfold x7 at h
  try dsimp only at h ⊢
  refine AWP.J (.q (.u (.j Z Z (S.mul Z Z Z (S.add Z Z Z (.v Z Z (.nil (b6 (.q (.seqJ (⟨[(0,.c (.ifc 158 [.ptr 0 0 0] false)),(1,.c (int i01)),(2,.c (int nv)),(7,.c (int iv62)),(8,.c (int (w64 ((w64 (2 * iv62))+1)))),(21,.c (bool ((decide (nv≤w64 ((w64 (2 * iv62))+1))) || (decide (w64 ((w64 (2 * iv62))+1)<0)))))],[.one (.cells 3 [[.own 1 0 c60.length,.map 2,int time]]),.one (prow 3 c60),.one (pmap 3 vU l5),pool 4 b9 c61]⟩) ?_ ?_))))))))))
  ·rcases bft (decide (nv≤w64 ((w64 (2 * iv62))+1))) with hb1 | hb1
   ·refine AWP.u (.j Z Z (.j Z Z (.geq Z Z Z (.j Z Z (.B Z Z Z hb1 (.B Z Z Z hb1 (.O Z hb1 Z Z (.nil (b6 ?_)))))))))
    simp only [X4 hb1,or_t hb1,Bool.false_or,Bool.true_or,Bool.false_and,Bool.true_and]
    exact Sub.env ⟨Z,Z,Z,Z,Z,Z,Y⟩
   ·refine AWP.u (.j Z Z (.j Z Z (.geq Z Z Z (.j Z Z (.z Z Z Z hb1 (.j Z Z (.z Z Z Z hb1 (.F Z Z Z (.U Z hb1 Z Z (.nil (b6 ?_)))))))))))
    simp only [S0 hb1,or_f hb1,Bool.false_or,Bool.true_or,Bool.false_and,Bool.true_and]
    exact Sub.env ⟨Z,Z,Z,Z,Z,Z,Y⟩
  ·refine AWP.af Z h (fun hc66 h=> ?_) (fun hc66 h=> ?_)
   ·refine AWP.exit (f8 (B6 Z ?_))
    obtain rfl:=oi h
    refine f8 ⟨_,Z,Z, ?_⟩
    exact Sub.env ⟨Z,Z,Y⟩
   ·refine AWP.skip (b6 (.q (.u (.j Z Z (.v Z Z (.nil (b6 ?_)))))))
    obtain ⟨j67,hx68,h⟩:=bind_some h
    refine AWP.seqJ (⟨[(0,.c (.ifc 158 [.ptr 0 0 0] false)),(1,.c (int i01)),(2,.c (int nv)),(7,.c (int iv62)),(9,.c (int j67))],[.one (.cells 3 [[.own 1 0 c60.length,.map 2,int time]]),.one (prow 3 c60),.one (pmap 3 vU l5),pool 4 b9 c61]⟩) ?_ ?_
    ·refine AWP.q (.u (.j Z Z (S.add Z Z Z (.v Z Z (.nil (b6 ?_))))))
     obtain ⟨t69,hx70,hx68⟩:=bind_some hx68
     refine AWP.seqJ (⟨[(0,.c (.ifc 158 [.ptr 0 0 0] false)),(1,.c (int i01)),(2,.c (int nv)),(7,.c (int iv62)),(9,.c (int (w64 ((w64 (2 * iv62))+1)))),(10,.c (int (w64 ((w64 ((w64 (2 * iv62))+1))+1)))),(33,.c (bool t69))],[.one (.cells 3 [[.own 1 0 c60.length,.map 2,int time]]),.one (prow 3 c60),.one (pmap 3 vU l5),pool 4 b9 c61]⟩) ?_ ?_
     ·rcases bft (decide (w64 ((w64 ((w64 (2 * iv62))+1))+1)<nv)) with hb71 | hb71
      ·replace hx70:=E9 hb71 hx70
       obtain ⟨a32,ha32,hx70⟩:=bind_some hx70
       refine AWP.u (.j Z Z (.j Z Z (.F Z Z Z (.j Z Z (.z Z Z Z hb71 (.j Z Z (.z Z Z Z hb71 (.j Z Z (.z Z Z Z hb71 (.j Z Z (.z Z Z Z hb71 (S.invokeV (r2:=.c (bool a32)) (σ'':=[.one (.cells 3 [[.own 1 0 c60.length,.map 2,int time]]),.one (prow 3 c60),.one (pmap 3 vU l5),pool 4 b9 c61]) Z Z Z Z Z Z Z (FnOk.lend [1,3] (y9 ha32) Z Z Z Z Z Z (by exact ⟨(.one (j7 Z)),(.any n3),Y⟩) Z (by exact ⟨(.live Z (.one (i8 fun _=>Z))),(.live Z RenE.pool),Y⟩) Z Z (by exact ⟨(.old Z Z Z),(.new 0 Z Z (.one (i8 fun _=>Z))),(.old Z Z Z),(.new 1 Z Z RenE.pool),Y⟩)) (.O Z hb71 Z Z (.nil ?_))))))))))))))
       obtain rfl:=oi hx70
       refine b6 (Sub.env ⟨Z,Z,Z,Z,Z,Z,Z,Y⟩)
      ·replace hx70:=F2 hb71 hx70
       refine AWP.u (.j Z Z (.j Z Z (.F Z Z Z (.j Z Z (.B Z Z Z hb71 (.B Z Z Z hb71 (.B Z Z Z hb71 (.B Z Z Z hb71 (.U Z hb71 Z Z (.nil ?_))))))))))
       obtain rfl:=oi hx70
       refine b6 (Sub.env ⟨Z,Z,Z,Z,Z,Z,Z,Y⟩)
     ·refine AWP.af Z hx68 (fun hc72 hx68=> ?_) (fun hc72 hx68=> ?_)
      ·refine AWP.u (.j Z Z (.v Z Z (.nil ?_)))
       obtain rfl:=oi hx68
       refine b6 (Sub.env ⟨Z,Z,Z,Z,Z,Y⟩)
      ·refine AWP.skip ?_
       obtain rfl:=oi hx68
       refine b6 (Sub.env ⟨Z,Z,Z,Z,Z,Y⟩)
    ·refine AWP.q (.q ?_)
     obtain ⟨a38,ha38,h⟩:=bind_some h
     refine AWP.u (.j Z Z (.j Z Z (.j Z Z (S.invokeV (r2:=.c (bool a38)) (σ'':=[.one (.cells 3 [[.own 1 0 c60.length,.map 2,int time]]),.one (prow 3 c60),.one (pmap 3 vU l5),pool 4 b9 c61]) Z Z Z Z Z Z Z (FnOk.lend [1,3] (y9 ha38) Z Z Z Z Z Z (by exact ⟨(.one (j7 Z)),(.any n3),Y⟩) Z (by exact ⟨(.live Z (.one (i8 fun _=>Z))),(.live Z RenE.pool),Y⟩) Z Z (by exact ⟨(.old Z Z Z),(.new 0 Z Z (.one (i8 fun _=>Z))),(.old Z Z Z),(.new 1 Z Z RenE.pool),Y⟩)) (.not Z Z (.nil (b6 (.af Z h (fun hc73 h=> ?_) (fun hc73 h=> ?_)))))))))
     ·refine AWP.exit (f8 (B6 Z ?_))
      obtain rfl:=oi h
      refine f8 ⟨_,Z,Z, ?_⟩
      exact Sub.env ⟨Z,Z,Y⟩
     ·refine AWP.skip (b6 (.q ?_))
      obtain ⟨a43,ha43,u74,hu74,h⟩:=b2 h
      refine AWP.u (.j Z Z (.j Z Z (.j Z Z (S.invokeV (r2:=.tup []) (σ'':=[.one (.cells 3 [[.own 1 0 c60.length,.map 2,int time]]),.one (prow 3 a43.1),.one (pmap 3 vU l5),pool 4 b9 a43.2]) Z Z Z Z Z Z Z (FnOk.lend [1,3] (N2 ha43) Z Z Z Z Z Z (by exact ⟨(.one (j7 Z)),(.any n3),Y⟩) Z (by exact ⟨(.live Z (.one (i8 fun _=>Z))),(.live Z RenE.pool),Y⟩) Z Z (by exact ⟨(.old Z Z Z),(.new 0 Z Z (.one (i8 fun _=>Z))),(.old Z Z Z),(.new 1 Z Z RenE.pool),Y⟩)) (.nil (b6 (.u (.j Z Z (.v Z Z (.nil (f5 ?_)))))))))))
      obtain rfl:=oi h
      refine b6 ⟨_,Z, ?_⟩
      exact Sub.cut ⟨Z,Z,Z,Z,Y⟩ Z ⟨(.eq Z (by first | rfl | rw [(S4 hu74)] | (simp only [List.length_set]; done))),(.one (j7 Z)),(.one (l0 Z)),(.any n3),Y⟩ Z
 ·intro e s hq
  obtain ⟨rfl,hs⟩:=hq
  refine ⟨_,hs, ?_⟩
  refine k8 (b6 (.q (.u (.j Z Z (.j Z Z (.gtr Z Z Z (.v Z Z (.nil (b6 (.ret ?_))))))))))
  obtain rfl:=oi h
  exact ⟨⟨[(6,.c (bool (decide (i01<iv65))))],[.one (.cells 3 [[.own 1 0 c63.length,.map 2,int time]]),.one (prow 3 c63),.one (pmap 3 vU l5),pool 4 b9 c64]⟩,Sub.env ⟨Z,Y⟩,Done.ret Z ⟨Z,Z⟩⟩
theorem Y8{j:Int}{time:Int}{l:List Int}{l4:List (Int × Int)}{l5:List c9}{r:(List Int) × (List c9)}(h:C9 j time l l4 l5=some r):FnOk prog 77 [.c (.ifc 158 [.ptr 0 0 0] false),.c (int j)] (Y6 j time l l4 l5) (fun tt ss=>tt=.tup []∧ss=[.one (.cells 3 [[.own 1 0 r.1.length,.map 2,int time]]),.one (prow 3 r.1),.one (pmap 3 vU l4),pool 4 b9 r.2]):=by
 refine FnOk.enter (rs:=[]) func77 Z ntmps77 results77 Z trivial (by kernel_rfl) Z ?_
 refine AWP.weak ?_
 unfold C9 at h
 refine AWP.J ?_
 obtain ⟨⟨c61,c62⟩,ho1,h⟩:=bind_some h
 try dsimp only at h
 refine AWP.loopS ho1 (fun (c58,c59,j60)=>⟨[(0,.c (.ifc 158 [.ptr 0 0 0] false)),(1,.c (int j60))],[.one (.cells 3 [[.own 1 0 c58.length,.map 2,int time]]),.one (prow 3 c58),.one (pmap 3 vU l4),pool 4 b9 c59]⟩) (fun (c61,c62) e st=>e=.exit 0∧Sub (Y6 j time l l4 l5) st ⟨[],[.one (.cells 3 [[.own 1 0 c61.length,.map 2,int time]]),.one (prow 3 c61),.one (pmap 3 vU l4),pool 4 b9 c62]⟩) ?_ ?_ ?_
 ·try dsimp only
  exact Sub.env ⟨Z,Z,Y⟩
 ·intro s o h
  obtain ⟨c58,c59,j60⟩:=s
  unfold H0 at h
  try dsimp only at h ⊢
  refine AWP.J (.q ?_)
  obtain ⟨u7,hu7,h⟩:=bind_some h
  refine AWP.u (.j Z Z (S.sub Z Z Z (S.quo hu7 Z Z Z (.v Z Z (.nil (b6 (.q ?_)))))))
  obtain ⟨t63,hx64,h⟩:=bind_some h
  refine AWP.seqJ (⟨[(0,.c (.ifc 158 [.ptr 0 0 0] false)),(1,.c (int j60)),(4,.c (int (w64 ((w64 (j60 - 1)).tdiv 2)))),(17,.c (bool t63))],[.one (.cells 3 [[.own 1 0 c58.length,.map 2,int time]]),.one (prow 3 c58),.one (pmap 3 vU l4),pool 4 b9 c59]⟩) ?_ ?_
  ·rcases bft (decide (w64 ((w64 (j60 - 1)).tdiv 2)=j60)) with hb65 | hb65
   ·replace hx64:=E9 hb65 hx64
    refine AWP.u (.j Z Z (.j Z Z (.ab Z Z Z (.j Z Z (.B Z Z Z hb65 (.B Z Z Z hb65 (.B Z Z Z hb65 (.B Z Z Z hb65 (.B Z Z Z hb65 (.O Z hb65 Z Z (.nil ?_)))))))))))
    obtain rfl:=oi hx64
    refine b6 (Sub.env ⟨Z,Z,Z,Z,Y⟩)
   ·replace hx64:=F2 hb65 hx64
    obtain ⟨a15,ha15,hx64⟩:=bind_some hx64
    refine AWP.u (.j Z Z (.j Z Z (.ab Z Z Z (.j Z Z (.z Z Z Z hb65 (.j Z Z (.z Z Z Z hb65 (.j Z Z (.z Z Z Z hb65 (.j Z Z (.z Z Z Z hb65 (S.invokeV (r2:=.c (bool a15)) (σ'':=[.one (.cells 3 [[.own 1 0 c58.length,.map 2,int time]]),.one (prow 3 c58),.one (pmap 3 vU l4),pool 4 b9 c59]) Z Z Z Z Z Z Z (FnOk.lend [1,3] (y9 ha15) Z Z Z Z Z Z (by exact ⟨(.one (j7 Z)),(.any n3),Y⟩) Z (by exact ⟨(.live Z (.one (i8 fun _=>Z))),(.live Z RenE.pool),Y⟩) Z Z (by exact ⟨(.old Z Z Z),(.new 0 Z Z (.one (i8 fun _=>Z))),(.old Z Z Z),(.new 1 Z Z RenE.pool),Y⟩)) (.z Z Z Z hb65 (.not Z Z (.U Z hb65 Z Z (.nil ?_))))))))))))))))
    obtain rfl:=oi hx64
    refine b6 (Sub.env ⟨Z,Z,Z,Z,Y⟩)
  ·refine AWP.af Z h (fun hc66 h=> ?_) (fun hc66 h=> ?_)
   ·refine AWP.exit (f8 (B6 Z ?_))
    obtain rfl:=oi h
    refine f8 ⟨_,Z,Z, ?_⟩
    exact Sub.env trivial
   ·refine AWP.skip (b6 (.q ?_))
    obtain ⟨a21,ha21,u67,hu67,h⟩:=b2 h
    refine AWP.u (.j Z Z (.j Z Z (.j Z Z (S.invokeV (r2:=.tup []) (σ'':=[.one (.cells 3 [[.own 1 0 c58.length,.map 2,int time]]),.one (prow 3 a21.1),.one (pmap 3 vU l4),pool 4 b9 a21.2]) Z Z Z Z Z Z Z (FnOk.lend [1,3] (N2 ha21) Z Z Z Z Z Z (by exact ⟨(.one (j7 Z)),(.any n3),Y⟩) Z (by exact ⟨(.live Z (.one (i8 fun _=>Z))),(.live Z RenE.pool),Y⟩) Z Z (by exact ⟨(.old Z Z Z),(.new 0 Z Z (.one (i8 fun _=>Z))),(.old Z Z Z),(.new 1 Z Z RenE.pool),Y⟩)) (.nil (b6 (.u (.j Z Z (.v Z Z (.nil (f5 ?_)))))))))))
    obtain rfl:=oi h
    refine b6 ⟨_,Z, ?_⟩
    exact Sub.cut ⟨Z,Z,Y⟩ Z ⟨(.eq Z (by first | rfl | rw [(S4 hu67)] | (simp only [List.length_set]; done))),(.one (j7 Z)),(.one (l0 Z)),(.any n3),Y⟩ Z
 ·intro e s hq
  obtain ⟨rfl,hs⟩:=hq
  refine ⟨_,hs, ?_⟩
  refine k8 ?_
  obtain rfl:=oi h
  exact ⟨⟨[],[.one (.cells 3 [[.own 1 0 c61.length,.map 2,int time]]),.one (prow 3 c61),.one (pmap 3 vU l4),pool 4 b9 c62]⟩,Sub.env trivial,Done.normal Z ⟨Z,Z⟩⟩
theorem X9{iv:Int}{time:Int}{l:List Int}{l4:List (Int × Int)}{l5:List c9}{r:(List Int) × (List c9)}(h:B9 iv time l l4 l5=some r):FnOk prog 83 [.c (.ifc 158 [.ptr 0 0 0] false),.c (int iv)] (am9 iv time l l4 l5) (fun tt ss=>tt=.tup []∧ss=[.one (.cells 3 [[.own 1 0 r.1.length,.map 2,int time]]),.one (prow 3 r.1),.one (pmap 3 vU l4),pool 4 b9 r.2]):=by
 refine FnOk.enter (rs:=[]) func83 Z ntmps83 results83 Z trivial (by kernel_rfl) Z ?_
 refine AWP.weak ?_
 unfold B9 at h
 refine AWP.q ?_
 obtain ⟨a7,ha7,a8,ha8,h⟩:=b2 h
 refine AWP.u (.j Z Z (.j Z Z (.j Z Z (S.invokeV (r2:=.c (int (l.length:Int))) (σ'':=[.one (.cells 3 [[.own 1 0 l.length,.map 2,int time]]),.one (prow 3 l),.one (pmap 3 vU l4),pool 4 b9 l5]) Z Z Z Z Z Z Z (FnOk.lend [1,3] (F0 ha7) Z Z Z Z Z Z (by exact ⟨(.one (j7 Z)),(.any n3),Y⟩) Z (by exact ⟨(.live Z (.one (i8 fun _=>Z))),(.live Z RenE.pool),Y⟩) Z Z (by exact ⟨(.old Z Z Z),(.new 0 Z Z (.one (i8 fun _=>Z))),(.old Z Z Z),(.new 1 Z Z RenE.pool),Y⟩)) (.callF (r2:=.c (bool a8.2.2)) (σ'':=[.one (.cells 3 [[.own 1 0 a8.1.length,.map 2,int time]]),.one (prow 3 a8.1),.one (pmap 3 vU l4),pool 4 b9 a8.2.1]) Z Z Z (FnOk.lend [0,1,2,3] (am0 ha8) Z Z Z Z Z Z (by exact ⟨(.one Z),(.one (j7 Z)),(.one (l0 Z)),(.any n3),Y⟩) Z (by exact ⟨(.live Z (.one Z)),(.live Z (.one (i8 fun _=>Z))),(.live Z (.one (m7 fun _=>Z))),(.live Z RenE.pool),Y⟩) Z Z (by exact ⟨(.new 0 Z Z (.one Z)),(.new 1 Z Z (.one (i8 fun _=>Z))),(.new 2 Z Z (.one (m7 fun _=>Z))),(.new 3 Z Z RenE.pool),Y⟩)) (.not Z Z (.nil (b6 (.af Z h (fun hc58 h=> ?_) (fun hc58 h=> ?_))))))))))
 ·obtain ⟨a12,ha12,h⟩:=bind_some h
  refine AWP.u (.j Z Z (.j Z Z (.callF (r2:=.tup []) (σ'':=[.one (.cells 3 [[.own 1 0 a12.1.length,.map 2,int time]]),.one (prow 3 a12.1),.one (pmap 3 vU l4),pool 4 b9 a12.2]) Z Z Z (FnOk.lend [0,1,2,3] (Y8 ha12) Z Z Z Z Z Z (by exact ⟨(.one Z),(.one (j7 Z)),(.one (l0 Z)),(.any n3),Y⟩) Z (by exact ⟨(.live Z (.one Z)),(.live Z (.one (i8 fun _=>Z))),(.live Z (.one (m7 fun _=>Z))),(.live Z RenE.pool),Y⟩) Z Z (by exact ⟨(.new 0 Z Z (.one Z)),(.new 1 Z Z (.one (i8 fun _=>Z))),(.new 2 Z Z (.one (m7 fun _=>Z))),(.new 3 Z Z RenE.pool),Y⟩)) (.nil ?_))))
  obtain rfl:=oi h
  exact ⟨⟨[],[.one (.cells 3 [[.own 1 0 a12.1.length,.map 2,int time]]),.one (prow 3 a12.1),.one (pmap 3 vU l4),pool 4 b9 a12.2]⟩,Sub.env trivial,Done.normal Z ⟨Z,Z⟩⟩
 ·refine AWP.skip ?_
  obtain rfl:=oi h
  exact ⟨⟨[],[.one (.cells 3 [[.own 1 0 a8.1.length,.map 2,int time]]),.one (prow 3 a8.1),.one (pmap 3 vU l4),pool 4 b9 a8.2.1]⟩,Sub.env trivial,Done.normal Z ⟨Z,Z⟩⟩
theorem ab2{xv:Int}{time:Int}{l:List c9}{l4:List Int}{l5:List (Int × Int)}{r:(List c9) × (List Int)}(h:B0 xv time l l4 l5=some r):FnOk prog 187 [.c (.ptr 0 0 0),.c (.ifc 154 [.ptr (1,[xv.toNat]) 0 0] false)] (ab1 xv time l l4 l5) (fun tt ss=>tt=.tup []∧ss=[.one (.cells 3 [[.own 6 0 r.2.length,.map 3,int time]]),pool 4 b9 r.1,.dead,.one (pmap 1 vU l5),.dead,.dead,.one (prow 1 r.2)]):=by
 refine FnOk.enter (rs:=[]) func187 Z ntmps187 results187 Z trivial (by kernel_rfl) Z ?_
 refine AWP.weak ?_
 unfold B0 at h
 refine AWP.j (env':=[(0,.c (.ptr 0 0 0)),(1,.c (.ifc 154 [.ptr (1,[xv.toNat]) 0 0] false))]) (σ':=[.one (.cells 3 [[.own 4 0 l4.length,.map 3,int time]]),pool 4 b9 l,.dead,.one (pmap 1 vU l5),.one (prow 1 l4)]) 4 2 Z Z Z ⟨Z,Z,Y⟩ Z ⟨⟨Z,Z⟩,(u6.pool Z),trivial,⟨l0 Z,y6 Z L5⟩,⟨j7 Z,y6 Z L9⟩,Y⟩ (.q (.u (.j Z Z (S.assert Z Z Z (.v Z Z (.nil (b6 (.q ?_))))))))
 obtain ⟨en58,hen58,h⟩:=bind_some h
 refine AWP.u (.j Z Z (.j Z Z (.ah Z Z Z (.E Z Z Z Z Z Z (.lenOwnB Z Z Z (fun hl11=>S.nilCheckE Z Z (by simpa only [List.length_set] using i5 hen58) Z (S.fieldE Z Z Z (by simpa only [List.length_set] using i5 hen58) Z (S.storeE (e':=(⟨en58.item,en58.key,en58.time,(l4.length:Int)⟩:c9)) hen58 Z Z Z Z Z Z (.nil (b6 ?_))))))))))
 obtain ⟨a20,ha20,h⟩:=bind_some h
 refine AWP.u (.j Z Z (.j Z Z (.ah Z Z Z (.E Z Z Z Z Z Z (.j Z Z (W.lit1 Z Z Z Z Z Z Z Z Z (S.appendP ha20 Z Z Z Z Z Z Z Z Z Z Z Z (.ah Z Z Z (W.store Z Z Z Z Z (.nil ?_))))))))))
 obtain rfl:=oi h
 exact ⟨⟨[],[.one (.cells 3 [[.own 6 0 a20.length,.map 3,int time]]),pool 4 b9 (l.set xv.toNat (⟨en58.item,en58.key,en58.time,(l4.length:Int)⟩:c9)),.dead,.one (pmap 1 vU l5),.dead,.dead,.one (prow 1 a20)]⟩,Sub.cut trivial Z ⟨.one Z,(.any n3),.dead,(.one (l0 Z)),.dead,.dead,(.one (j7 Z)),Y⟩ Z,Done.normal Z ⟨Z,Z⟩⟩
theorem W0{xv:Int}{time:Int}{l:List c9}{l4:List Int}{l5:List (Int × Int)}{r:(List c9) × (List Int)}(h:A9 xv time l l4 l5=some r):FnOk prog 47 [.c (.ifc 158 [.ptr 0 0 0] false),.c (.ifc 154 [.ptr (1,[xv.toNat]) 0 0] false)] (al9 xv time l l4 l5) (fun tt ss=>tt=.tup []∧ss=[.one (.cells 3 [[.own 6 0 r.2.length,.map 3,int time]]),pool 4 b9 r.1,.dead,.one (pmap 1 vU l5),.dead,.dead,.one (prow 1 r.2)]):=by
 refine FnOk.enter (rs:=[]) func47 Z ntmps47 results47 Z trivial (by kernel_rfl) Z ?_
 refine AWP.weak ?_
 unfold A9 at h
 refine AWP.q ?_
 obtain ⟨a6,ha6,h⟩:=bind_some h
 refine AWP.u (.j Z Z (.j Z Z (S.invokeP (r2:=.tup []) (σ'':=[.one (.cells 3 [[.own 6 0 a6.2.length,.map 3,int time]]),pool 4 b9 a6.1,.dead,.one (pmap 1 vU l5),.dead,.dead,.one (prow 1 a6.2)]) Z Z Z (FnOk.lend [0,1,2,3] (ab2 ha6) Z Z Z Z Z Z (by exact ⟨(.one Z),(.any n3),(.one (j7 Z)),(.one (l0 Z)),Y⟩) Z (by exact ⟨(.live Z (.one Z)),(.live Z RenE.pool),(.live Z (.one (i8 fun _=>Z))),(.live Z (.one (m7 fun _=>Z))),Y⟩) Z Z (by exact ⟨(.new 0 Z Z (.one Z)),(.new 1 Z Z RenE.pool),.dead,(.new 3 Z Z (.one (m7 fun _=>Z))),.dead,.dead,(.new 6 Z Z (.one (i8 fun _=>Z))),Y⟩)) (.nil (b6 ?_)))))
 obtain ⟨a9,ha9,a11,ha11,h⟩:=b2 h
 refine AWP.u (.j Z Z (.j Z Z (S.invokeV (r2:=.c (int (a6.2.length:Int))) (σ'':=[.one (.cells 3 [[.own 6 0 a6.2.length,.map 3,int time]]),pool 4 b9 a6.1,.dead,.one (pmap 1 vU l5),.dead,.dead,.one (prow 1 a6.2)]) Z Z Z Z Z Z Z (FnOk.lend [6,1] (F0 ha9) Z Z Z Z Z Z (by exact ⟨(.one (j7 Z)),(.any n3),Y⟩) Z (by exact ⟨(.live Z (.one (i8 fun _=>Z))),(.live Z RenE.pool),Y⟩) Z Z (by exact ⟨(.old Z Z Z),(.new 1 Z Z RenE.pool),.dead,(.old Z Z Z),.dead,.dead,(.new 0 Z Z (.one (i8 fun _=>Z))),Y⟩)) (S.sub Z Z Z (.callF (r2:=.tup []) (σ'':=[.one (.cells 3 [[.own 6 0 a11.1.length,.map 3,int time]]),pool 4 b9 a11.2,.dead,.one (pmap 1 vU l5),.dead,.dead,.one (prow 1 a11.1)]) Z Z Z (FnOk.lend [0,6,3,1] (Y8 ha11) Z Z Z Z Z Z (by exact ⟨(.one Z),(.one (j7 Z)),(.one (l0 Z)),(.any n3),Y⟩) Z (by exact ⟨(.live Z (.one Z)),(.live Z (.one (i8 fun _=>Z))),(.live Z (.one (m7 fun _=>Z))),(.live Z RenE.pool),Y⟩) Z Z (by exact ⟨(.new 0 Z Z (.one Z)),(.new 3 Z Z RenE.pool),.dead,(.new 2 Z Z (.one (m7 fun _=>Z))),.dead,.dead,(.new 1 Z Z (.one (i8 fun _=>Z))),Y⟩)) (.nil ?_))))))
 obtain rfl:=oi h
 exact ⟨⟨[],[.one (.cells 3 [[.own 6 0 a11.1.length,.map 3,int time]]),pool 4 b9 a11.2,.dead,.one (pmap 1 vU l5),.dead,.dead,.one (prow 1 a11.1)]⟩,Sub.env trivial,Done.normal Z ⟨Z,Z⟩⟩
theorem ad2{item:Int}{key:Int}{time:Int}{l:List Int}{l5:List (Int × Int)}{l6:List c9}{r:(List (Int × Int)) × (List Int) × (List c9)}(h:q8 item key time l l5 l6=some r):FnOk prog 62 [.c (.ptr 0 0 0),.c (.imm (.val (.int .u32 item))),.c (int key)] (ad1 item key time l l5 l6) (fun tt ss=>tt=.tup []∧ss=[.one (.cells 3 [[.own 4 0 r.2.1.length,.map 2,int (w64 (time+1))]]),.dead,.one (pmap 5 vU r.1),.dead,.one (prow 5 r.2.1),pool 4 b9 r.2.2]):=by
 refine FnOk.enter (rs:=[]) func62 Z ntmps62 results62 Z trivial (by kernel_rfl) Z ?_
 refine AWP.weak ?_
 unfold q8 at h
 refine AWP.j (env':=[(0,.c (.ptr 0 0 0)),(1,.c (.imm (.val (.int .u32 item)))),(2,.c (int key))]) (σ':=[.one (.cells 3 [[.own 4 0 l.length,.map 2,int time]]),.dead,.one (pmap 3 vU l5),pool 4 b9 l6,.one (prow 3 l)]) 4 1 Z Z Z ⟨Z,Z,Z,Y⟩ Z ⟨⟨Z,Z⟩,trivial,⟨l0 Z,y6 Z L5⟩,(u6.pool Z),⟨j7 Z,y6 Z L9⟩,Y⟩ (.moveM (env':=[(0,.c (.ptr 0 0 0)),(1,.c (.imm (.val (.int .u32 item)))),(2,.c (int key))]) (σ':=[.one (.cells 3 [[.own 4 0 l.length,.map 2,int time]]),.dead,.one (pmap 5 vU l5),.dead,.one (prow 5 l),pool 4 b9 l6]) 5 3 Z Z Z ⟨Z,Z,Z,Y⟩ Z ⟨(.one Z Z),.dead,(.one (l0 Z) (F9 Z Z (m7 fun _=>Z))),.dead,(.one (j7 Z) (F9 Z Z (i8 fun _=>Z))),(EntR.pool Z Z),Y⟩ ?_)
 refine AWP.q (.u (.j Z Z (.ah Z Z Z (W.fieldAddr Z Z Z Z (.E Z Z Z Z Z Z (S.add Z Z Z (.ah Z Z Z (W.fieldAddr Z Z Z Z (W.store Z Z Z Z Z (.nil (b6 (.q (.q (.u (.j Z Z (.ah Z Z Z (W.fieldAddr Z Z Z Z (.E Z Z Z Z Z Z (.j Z Z (S.lookupOkP (fk:=vU) (k:=item) G7 Z Z Z Z Z (.j Z Z (.ac Z Z Z (.ac Z Z Z (.v Z Z (.v Z Z (.nil (b6 (.q (.u (.j Z Z (.nil (b6 (.af Z h (fun hc60 h=> ?_) (fun hc60 h=> ?_))))))))))))))))))))))))))))))))))
 ·obtain ⟨ap61,hap61,h⟩:=bind_some h
  refine AWP.sub (s':=⟨[(0,.c (.ptr 0 0 0)),(1,.c (.imm (.val (.int .u32 item)))),(2,.c (int key)),(6,.c (.ptr (5,[ap61.toNat]) 0 0)),(7,.c (bool (Option.isSome (mget l5 item)))),(9,.c (.ptr 0 0 0)),(10,.c (.ptr 0 0 0)),(11,.c (.ptr 0 0 2)),(12,.c (int time)),(13,.c (int (w64 (time+1)))),(14,.c (.ptr 0 0 0)),(15,.c (.ptr 0 0 2)),(17,.c (.ptr 0 0 0)),(18,.c (.ptr 0 0 0)),(19,.c (.ptr 0 0 1)),(20,.c (.map 2)),(21,.c (.imm (.val (.int .u32 item)))),(23,.c (.ptr (5,[ap61.toNat]) 0 0)),(24,.c (bool (Option.isSome (mget l5 item)))),(25,.c (bool (Option.isSome (mget l5 item))))],[.one (.cells 3 [[.own 4 0 l.length,.map 2,int (w64 (time+1))]]),.dead,.one (pmap 5 vU l5),.dead,.one (prow 5 l),pool 4 b9 l6]⟩) (Sub.env ⟨Z,Z,Z,(an4 hap61),Z,Z,Z,Z,Z,Z,Z,Z,Z,Z,Z,Z,Z,(an4 hap61),Z,Z,Y⟩) (.q ?_)
  obtain ⟨en62,hen62,h⟩:=bind_some h
  refine AWP.u (.j Z Z (.j Z Z (.j Z Z (.j Z Z (.ah Z Z Z (W.fieldAddr Z Z Z Z (.E Z Z Z Z Z Z (S.nilCheckE Z Z (by simpa only [List.length_set] using i5 hen62) Z (S.fieldE Z Z Z (by simpa only [List.length_set] using i5 hen62) Z (S.storeE (e':=(⟨en62.item,key,en62.time,en62.fat⟩:c9)) hen62 Z Z Z Z Z Z (S.nilCheckE Z Z (by simpa only [List.length_set] using i5 hen62) Z (S.fieldE Z Z Z (by simpa only [List.length_set] using i5 hen62) Z (S.storeE (e':=(⟨en62.item,key,w64 (time+1),en62.fat⟩:c9)) (aa0 hen62) Z Z Z Z Z Z (.nil (b6 (.q ?_))))))))))))))))
  obtain ⟨a45,ha45,h⟩:=bind_some h
  refine AWP.drawEI [8] mixed Z Z Z ?_
  refine e9.consN Z Z (fun E=>AOps.j Z Z .N) Z (.consN Z Z (fun E=>AOps.ah Z Z Z .N) Z (.consN Z Z (fun E=>W.fieldAddr Z Z Z Z .N) Z (.consN Z Z (fun E=>S.mkIfc Z Z Z .N) Z (.consN Z Z (fun E=>AOps.j Z Z .N) Z (.consN Z Z (fun E=>S.nilCheckE Z Z (by simpa only [List.length_set] using i5 hen62) Z .N) Z (.consN Z Z (fun E=>S.fieldE Z Z Z (by simpa only [List.length_set] using i5 hen62) Z .N) Z (.consN Z Z (fun E=>AOps.E Z Z (o7 Z (aa0 (aa0 hen62))) Z Z Z .N) Z ?_)))))))
  apply e9.consE; exact Z; exact Z; intro E
  refine AOps.callF (r2:=.tup []) (σ'':=[.one (.cells 3 [[.own 4 0 a45.1.length,.map 2,int (w64 (time+1))]]),.dead,.one (pmap 5 vU l5),.dead,.one (prow 5 a45.1),pool 4 b9 a45.2]) Z Z Z (FnOk.lend [0,4,2,5] (X9 ha45) Z Z Z Z Z Z (by exact ⟨(.one Z),(.one (j7 Z)),(.one (l0 Z)),(.any n3),Y⟩) Z (by exact ⟨(.live Z (.one Z)),(.live Z (.one (i8 fun _=>Z))),(.live Z (.one (m7 fun _=>Z))),(.live Z RenE.pool),Y⟩) Z Z (by exact ⟨(.new 0 Z Z (.one Z)),.dead,(.new 2 Z Z (.one (m7 fun _=>Z))),.dead,(.new 1 Z Z (.one (i8 fun _=>Z))),(.new 3 Z Z RenE.pool),Y⟩)) .N
  exact Z
  exact Z
  refine e9.done Z ?_ ?_
  ·refine d9.cons Z Z ?_ ?_
   refine b7.go Z Z (fun E=>AOps.j Z Z .N) ?_
   refine b7.skip Z (b7.nil)
   refine d9.cons Z Z ?_ ?_
   refine b7.go Z Z (fun E=>AOps.ah Z Z Z .N) ?_
   refine b7.skip Z (b7.nil)
   refine d9.cons Z Z ?_ ?_
   refine b7.go Z Z (fun E=>W.fieldAddr Z Z Z Z .N) ?_
   refine b7.skip Z (b7.nil)
   refine d9.cons Z Z ?_ ?_
   refine b7.go Z Z (fun E=>S.mkIfc Z Z Z .N) ?_
   refine b7.skip Z (b7.nil)
   refine d9.cons Z Z ?_ ?_
   refine b7.go Z Z (fun E=>AOps.j Z Z .N) ?_
   refine b7.skip Z (b7.nil)
   refine d9.cons Z Z ?_ ?_
   refine b7.go Z Z (fun E=>S.nilCheckE Z Z (by simpa only [List.length_set] using i5 hen62) Z .N) ?_
   refine b7.skip Z (b7.nil)
   refine d9.cons Z Z ?_ ?_
   refine b7.go Z Z (fun E=>S.fieldE Z Z Z (by simpa only [List.length_set] using i5 hen62) Z .N) ?_
   refine b7.skip Z (b7.nil)
   refine d9.cons Z Z ?_ ?_
   refine b7.go Z Z (fun E=>AOps.E Z Z (o7 Z (aa0 (aa0 hen62))) Z Z Z .N) ?_
   refine b7.skip Z (b7.nil)
   refine d9.skip Z (d9.nil)
  dsimp only [l8]
  refine b6 (.ret (g9 ?_))
  obtain rfl:=oi h
  exact ⟨⟨[],[.one (.cells 3 [[.own 4 0 a45.1.length,.map 2,int (w64 (time+1))]]),.dead,.one (pmap 5 vU l5),.dead,.one (prow 5 a45.1),pool 4 b9 a45.2]⟩,Sub.env trivial,Done.ret Z ⟨Z,Z⟩⟩
 ·refine AWP.skip (b6 (.q ?_))
  obtain ⟨u63,hu63,u64,hu64,h⟩:=b2 h
  refine AWP.u (.j Z Z (.j Z Z (.j Z Z (.ah Z Z Z (W.fieldAddr Z Z Z Z (.E Z Z Z Z Z Z (W.build Z Z Z Z (W.box Z Z Z Z Z Z (.sub (Sub.move (env':=[(0,.c (.ptr 0 0 0)),(1,.c (.imm (.val (.int .u32 item)))),(2,.c (int key)),(7,.c (bool (Option.isSome (mget l5 item)))),(9,.c (.ptr 0 0 0)),(10,.c (.ptr 0 0 0)),(11,.c (.ptr 0 0 2)),(12,.c (int time)),(13,.c (int (w64 (time+1)))),(14,.c (.ptr 0 0 0)),(15,.c (.ptr 0 0 2)),(17,.c (.ptr 0 0 0)),(18,.c (.ptr 0 0 0)),(19,.c (.ptr 0 0 1)),(20,.c (.map 2)),(21,.c (.imm (.val (.int .u32 item)))),(24,.c (bool (Option.isSome (mget l5 item)))),(25,.c (bool (Option.isSome (mget l5 item)))),(46,.c (.imm (.val (.int .u32 item)))),(47,.c (int key)),(48,.c (.ptr 0 0 0)),(49,.c (.ptr 0 0 0)),(50,.c (.ptr 0 0 2)),(51,.c (int (w64 (time+1)))),(52,.agg [.imm (.val (.int .u32 item)),int key,int (w64 (time+1)),int 0]),(53,.c (.ptr (5,[(l6.length:Int).toNat]) 0 0))]) (σ':=[.one (.cells 3 [[.own 4 0 l.length,.map 2,int (w64 (time+1))]]),.dead,.one (pmap 5 vU l5),.dead,.one (prow 5 l),pool 4 b9 (l6++[(⟨item,key,w64 (time+1),0⟩:c9)])]) (5,[l6.length]) (6,[]) Z Z Z ⟨Z,Z,Z,Z,Z,Z,Z,Z,Z,Z,Z,Z,Z,Z,Z,Z,Z,Z,Z,Z,Z,Z,Z,Z,Z,ptr_adopt,Y⟩ Z ⟨⟨Z,Z⟩,trivial,⟨l0 Z,ac3 Z (pmap_adopt hu63) af6⟩,trivial,⟨j7 Z,ac3 Z (prow_adopt hu64) af6⟩,(u6.adopt Z Z),Y⟩) (.v Z Z (.nil (b6 (.q (.u (.j Z Z (.ah Z Z Z (W.fieldAddr Z Z Z Z (.E Z Z Z Z Z Z (.j Z Z (.j Z Z (S.mapUpdateP (fk:=vU) (k:=item) (a:=(l6.length:Int)) G7 Z Z Z Z Z (.nil (b6 ?_)))))))))))))))))))))))
  obtain ⟨a66,ha66,h⟩:=bind_some h
  refine AWP.u (.j Z Z (.ah Z Z Z (W.fieldAddr Z Z Z Z (S.mkIfc Z Z Z (.j Z Z (S.mkIfc Z Z Z (.callF (r2:=.tup []) (σ'':=[.one (.cells 3 [[.own 8 0 a66.2.length,.map 2,int (w64 (time+1))]]),.dead,.one (pmap 5 vU (mset l5 item (l6.length:Int))),.dead,.dead,pool 4 b9 a66.1,.dead,.dead,.one (prow 5 a66.2)]) Z Z Z (FnOk.lend [0,5,4,2] (W0 ha66) Z Z Z Z Z Z (by exact ⟨(.one Z),(.any n3),(.one (j7 Z)),(.one (l0 Z)),Y⟩) Z (by exact ⟨(.live Z (.one Z)),(.live Z RenE.pool),(.live Z (.one (i8 fun _=>Z))),(.live Z (.one (m7 fun _=>Z))),Y⟩) Z Z (by exact ⟨(.new 0 Z Z (.one Z)),.dead,(.new 3 Z Z (.one (m7 fun _=>Z))),.dead,.dead,(.new 1 Z Z RenE.pool),.dead,.dead,(.new 6 Z Z (.one (i8 fun _=>Z))),Y⟩)) (.nil ?_))))))))
  obtain rfl:=oi h
  exact ⟨⟨[],[.one (.cells 3 [[.own 4 0 a66.2.length,.map 2,int (w64 (time+1))]]),.dead,.one (pmap 5 vU (mset l5 item (l6.length:Int))),.dead,.one (prow 5 a66.2),pool 4 b9 a66.1]⟩,(Sub.move (env':=[]) (σ':=[.one (.cells 3 [[.own 4 0 a66.2.length,.map 2,int (w64 (time+1))]]),.dead,.one (pmap 5 vU (mset l5 item (l6.length:Int))),.dead,.one (prow 5 a66.2),pool 4 b9 a66.1,.dead,.dead]) 4 8 Z Z Z trivial Z ⟨⟨Z,Z⟩,trivial,⟨l0 Z,y6 Z L5⟩,trivial,⟨j7 Z,y6 Z L9⟩,(u6.pool Z),trivial,trivial,Y⟩).trans (Sub.cut trivial Z ⟨.one Z,.dead,(.one (l0 Z)),.dead,(.one (j7 Z)),(.any n3),Y⟩ Z),Done.normal Z ⟨Z,Z⟩⟩
theorem ae2{time:Int}{l:List Int}{l3:List (Int × Int)}{l4:List c9}{r:Unit}(h:C7 time l l3 l4=some r):FnOk prog 64 [.c (.ptr 0 0 0)] (ae3 time l l3 l4) (fun tt ss=>tt=.c (int (l.length:Int))∧ss=[.one (.cells 3 [[.own 1 0 l.length,.map 2,int time]]),.one (prow 3 l),.one (pmap 3 vU l3),pool 4 b9 l4]):=by
 refine FnOk.enter (rs:=[.t 2]) func64 Z ntmps64 results64 Z ⟨trivial,Y⟩ (by kernel_rfl) Z ?_
 refine AWP.weak ?_
 unfold C7 at h
 refine AWP.q (.u (.v Z Z (.nil (b6 (.q (.u (.j Z Z (.ah Z Z Z (W.fieldAddr Z Z Z Z (.E Z Z Z Z Z Z (.lenOwnB Z Z Z (fun hl7=>.v Z Z (.nil (b6 (.ret ?_)))))))))))))))
 obtain rfl:=oi h
 exact ⟨⟨[(2,.c (int (l.length:Int)))],[.one (.cells 3 [[.own 1 0 l.length,.map 2,int time]]),.one (prow 3 l),.one (pmap 3 vU l3),pool 4 b9 l4]⟩,Sub.env ⟨Z,Y⟩,Done.ret Z ⟨Z,Z⟩⟩
theorem M4{iv:Int}{kv:Int}{l:List Int}{l4:List c9}{r:(List Int) × (List c9)}(h:x5 iv kv l l4=some r):FnOk prog 185 [.c (.own 0 0 l.length),.c (int iv),.c (int kv)] (aa8 iv kv l l4) (fun tt ss=>tt=.tup []∧ss=[.one (prow 1 r.1),pool 4 b9 r.2]):=by
 refine FnOk.enter (rs:=[]) func185 Z ntmps185 results185 Z trivial (by kernel_rfl) Z ?_
 refine AWP.weak ?_
 unfold x5 at h
 refine AWP.q ?_
 obtain ⟨a12,ha12,a16,ha16,h⟩:=b2 h
 refine AWP.drawEI [13,15] mixed Z Z Z ?_
 refine e9.consN Z Z (fun E=>AOps.j Z Z .N) Z (.consN Z Z (fun E=>AOps.j Z Z .N) Z (.consN Z Z (fun E=>AOps.j Z Z .N) Z (.consN Z Z (fun E=>AOps.j Z Z .N) Z (.consN Z Z (fun E=>AOps.j Z Z .N) Z (.consN Z Z (fun E=>AOps.j Z Z .N) Z (.consN Z Z (fun E=>S.idxPb Z Z Z (by simpa only [List.length_set] using o6 ha12) Z Z .N) Z (.consN Z Z (fun E=>S.loadP ha12 Z Z Z Z .N) Z (.consN Z Z (fun E=>AOps.j Z Z .N) Z (.consN Z Z (fun E=>AOps.j Z Z .N) Z (.consN Z Z (fun E=>S.idxPb Z Z Z (by simpa only [List.length_set] using o6 ha16) Z Z .N) Z (.consN Z Z (fun E=>S.loadP ha16 Z Z Z Z .N) Z (.consN Z Z (fun E=>S.idxPb Z Z Z (by simpa only [List.length_set] using o6 ha16) Z Z .N) Z ?_))))))))))))
 apply e9.consE (v:=.undef); exact Z; exact Z; intro E
 refine S.storeP (a:=a12) (by simpa only [List.length_set] using i5 ha16) Z Z Z Z .N
 exact Z
 exact Z
 refine e9.consN Z Z (fun E=>S.idxPb Z Z (by simp only [List.length_set]) (by simpa only [List.length_set] using o6 ha12) Z Z .N) Z ?_
 apply e9.consE (v:=.undef); exact Z; exact Z; intro E
 refine S.storeP (a:=a16) (by simpa only [List.length_set] using i5 ha12) Z Z Z Z .N
 exact Z
 exact Z
 refine e9.done Z ?_ ?_
 ·refine d9.cons Z Z ?_ ?_
  refine b7.go Z Z (fun E=>AOps.j Z Z .N) ?_
  refine b7.skip Z (b7.skip Z (b7.nil))
  refine d9.cons Z Z ?_ ?_
  refine b7.go Z Z (fun E=>AOps.j Z Z .N) ?_
  refine b7.skip Z (b7.skip Z (b7.nil))
  refine d9.cons Z Z ?_ ?_
  refine b7.go Z Z (fun E=>AOps.j Z Z .N) ?_
  refine b7.go Z Z (fun E=>AOps.j Z Z .N) ?_
  refine b7.skip Z (b7.nil)
  refine d9.cons Z Z ?_ ?_
  refine b7.go Z Z (fun E=>AOps.j Z Z .N) ?_
  refine b7.go Z Z (fun E=>AOps.j Z Z .N) ?_
  refine b7.skip Z (b7.nil)
  refine d9.cons Z Z ?_ ?_
  refine b7.go Z Z (fun E=>AOps.j Z Z .N) ?_
  refine b7.skip Z (b7.skip Z (b7.nil))
  refine d9.cons Z Z ?_ ?_
  refine b7.go Z Z (fun E=>AOps.j Z Z .N) ?_
  refine b7.skip Z (b7.skip Z (b7.nil))
  refine d9.cons Z Z ?_ ?_
  refine b7.go Z Z (fun E=>S.idxPb Z Z Z (by simpa only [List.length_set] using o6 ha12) Z Z .N) ?_
  refine b7.skip Z (b7.skip Z (b7.nil))
  refine d9.cons Z Z ?_ ?_
  refine b7.go Z Z (fun E=>S.loadP ha12 Z Z Z Z .N) ?_
  refine b7.skip Z (b7.skip Z (b7.nil))
  refine d9.cons Z Z ?_ ?_
  refine b7.go Z Z (fun E=>AOps.j Z Z .N) ?_
  refine b7.skip Z (b7.skip Z (b7.nil))
  refine d9.cons Z Z ?_ ?_
  refine b7.go Z Z (fun E=>AOps.j Z Z .N) ?_
  refine b7.skip Z (b7.skip Z (b7.nil))
  refine d9.cons Z Z ?_ ?_
  refine b7.go Z Z (fun E=>S.idxPb Z Z Z (by simpa only [List.length_set] using o6 ha16) Z Z .N) ?_
  refine b7.skip Z (b7.skip Z (b7.nil))
  refine d9.cons Z Z ?_ ?_
  refine b7.go Z Z (fun E=>S.loadP ha16 Z Z Z Z .N) ?_
  refine b7.skip Z (b7.skip Z (b7.nil))
  refine d9.cons Z Z ?_ ?_
  refine b7.go Z Z (fun E=>S.idxPb Z Z Z (by simpa only [List.length_set] using o6 ha16) Z Z .N) ?_
  refine b7.skip Z (b7.skip Z (b7.nil))
  refine d9.skip Z ?_
  refine d9.cons Z Z ?_ ?_
  refine b7.skip Z ?_
  refine b7.go Z Z (fun E=>S.idxPb Z Z (by simp only [List.length_set]) (by simpa only [List.length_set] using o6 ha12) Z Z .N) ?_
  refine b7.skip Z (b7.nil)
  refine d9.skip Z (d9.nil)
 dsimp only [l8]
 refine b6 ?_
 obtain ⟨ha57,hha57,ha58,hha58,en59,hen59,h⟩:=b3 h
 obtain ⟨en60,hen60,h⟩:=bind_some h
 refine AWP.drawEI [12,15] mixed Z Z Z ?_
 refine e9.consN Z Z (fun E=>AOps.j Z Z .N) Z (.consN Z Z (fun E=>AOps.j Z Z .N) Z (.consN Z Z (fun E=>S.idxPb Z Z (by simp only [List.length_set]) (by simpa only [List.length_set] using o6 ha16) Z Z .N) Z (.consN Z Z (fun E=>S.loadP hha57 Z Z Z Z .N) Z (.consN Z Z (fun E=>AOps.j Z Z .N) Z (.consN Z Z (fun E=>AOps.j Z Z .N) Z (.consN Z Z (fun E=>S.idxPb Z Z (by simp only [List.length_set]) (by simpa only [List.length_set] using o6 ha12) Z Z .N) Z (.consN Z Z (fun E=>S.loadP hha58 Z Z Z Z .N) Z (.consN Z Z (fun E=>AOps.j Z Z .N) Z (.consN Z Z (fun E=>AOps.j Z Z .N) Z (.consN Z Z (fun E=>S.nilCheckE Z Z (by simpa only [List.length_set] using i5 hen59) Z .N) Z (.consN Z Z (fun E=>S.fieldE Z Z Z (by simpa only [List.length_set] using i5 hen59) Z .N) Z ?_)))))))))))
 apply e9.consE (v:=.undef); exact Z; exact Z; intro E
 refine S.storeE (e':=(⟨en59.item,en59.key,en59.time,iv⟩:c9)) hen59 Z Z Z Z Z Z .N
 exact Z
 exact Z
 refine e9.consN Z Z (fun E=>S.nilCheckE Z Z (by simpa only [List.length_set] using i5 hen60) Z .N) Z (.consN Z Z (fun E=>S.fieldE Z Z Z (by simpa only [List.length_set] using i5 hen60) Z .N) Z ?_)
 apply e9.consE (v:=.undef); exact Z; exact Z; intro E
 refine S.storeE (e':=(⟨en60.item,en60.key,en60.time,kv⟩:c9)) hen60 Z Z Z Z Z Z .N
 exact Z
 exact Z
 refine e9.done Z ?_ ?_
 ·refine d9.cons Z Z ?_ ?_
  refine b7.go Z Z (fun E=>AOps.j Z Z .N) ?_
  refine b7.skip Z (b7.skip Z (b7.nil))
  refine d9.cons Z Z ?_ ?_
  refine b7.go Z Z (fun E=>AOps.j Z Z .N) ?_
  refine b7.skip Z (b7.skip Z (b7.nil))
  refine d9.cons Z Z ?_ ?_
  refine b7.go Z Z (fun E=>S.idxPb Z Z (by simp only [List.length_set]) (by simpa only [List.length_set] using o6 ha16) Z Z .N) ?_
  refine b7.skip Z (b7.skip Z (b7.nil))
  refine d9.cons Z Z ?_ ?_
  refine b7.go Z Z (fun E=>S.loadP hha57 Z Z Z Z .N) ?_
  refine b7.skip Z (b7.skip Z (b7.nil))
  refine d9.cons Z Z ?_ ?_
  refine b7.go Z Z (fun E=>AOps.j Z Z .N) ?_
  refine b7.skip Z (b7.skip Z (b7.nil))
  refine d9.cons Z Z ?_ ?_
  refine b7.go Z Z (fun E=>AOps.j Z Z .N) ?_
  refine b7.skip Z (b7.skip Z (b7.nil))
  refine d9.cons Z Z ?_ ?_
  refine b7.go Z Z (fun E=>S.idxPb Z Z (by simp only [List.length_set]) (by simpa only [List.length_set] using o6 ha12) Z Z .N) ?_
  refine b7.skip Z (b7.skip Z (b7.nil))
  refine d9.cons Z Z ?_ ?_
  refine b7.go Z Z (fun E=>S.loadP hha58 Z Z Z Z .N) ?_
  refine b7.skip Z (b7.skip Z (b7.nil))
  refine d9.cons Z Z ?_ ?_
  refine b7.go Z Z (fun E=>AOps.j Z Z .N) ?_
  refine b7.skip Z (b7.skip Z (b7.nil))
  refine d9.cons Z Z ?_ ?_
  refine b7.go Z Z (fun E=>AOps.j Z Z .N) ?_
  refine b7.go Z Z (fun E=>AOps.j Z Z .N) ?_
  refine b7.skip Z (b7.nil)
  refine d9.cons Z Z ?_ ?_
  refine b7.go Z Z (fun E=>S.nilCheckE Z Z (by simpa only [List.length_set] using i5 hen59) Z .N) ?_
  refine b7.skip Z (b7.skip Z (b7.nil))
  refine d9.cons Z Z ?_ ?_
  refine b7.go Z Z (fun E=>S.fieldE Z Z Z (by simpa only [List.length_set] using i5 hen59) Z .N) ?_
  refine b7.skip Z (b7.skip Z (b7.nil))
  refine d9.skip Z ?_
  refine d9.cons Z Z ?_ ?_
  refine b7.skip Z ?_
  refine b7.go Z Z (fun E=>S.nilCheckE Z Z (by simpa only [List.length_set] using i5 hen60) Z .N) ?_
  refine b7.skip Z (b7.nil)
  refine d9.cons Z Z ?_ ?_
  refine b7.skip Z ?_
  refine b7.go Z Z (fun E=>S.fieldE Z Z Z (by simpa only [List.length_set] using i5 hen60) Z .N) ?_
  refine b7.skip Z (b7.nil)
  refine d9.skip Z (d9.nil)
 dsimp only [l8]
 obtain rfl:=oi h
 exact ⟨⟨[],[.one (prow 1 ((l.set iv.toNat a12).set kv.toNat a16)),pool 4 b9 ((l4.set ha57.toNat (⟨en59.item,en59.key,en59.time,iv⟩:c9)).set ha58.toNat (⟨en60.item,en60.key,en60.time,kv⟩:c9))]⟩,Sub.env trivial,Done.normal Z ⟨Z,Z⟩⟩
theorem ab6{iv:Int}{kv:Int}{l:List Int}{l4:List c9}{r:Bool}(h:G1 iv kv l l4=some r):FnOk prog 184 [.c (.own 0 0 l.length),.c (int iv),.c (int kv)] (ab0 iv kv l l4) (fun tt ss=>tt=.c (bool r)∧ss=[.one (prow 1 l),pool 4 b9 l4]):=by
 refine FnOk.enter (rs:=[.t 6]) func184 Z ntmps184 results184 Z ⟨trivial,Y⟩ (by kernel_rfl) Z ?_
 refine AWP.weak ?_
 unfold G1 at h
 refine AWP.q (.u (.v Z Z (.nil (b6 ?_))))
 obtain ⟨a9,ha9,en56,hen56,a16,ha16,h⟩:=b3 h
 obtain ⟨en57,hen57,h⟩:=bind_some h
 refine AWP.seqJ (⟨[(6,.c (bool ((decide (en56.key<en57.key)) || ((decide (en56.key=en57.key)) && (decide (en56.time<en57.time))))))],[.one (prow 1 l),pool 4 b9 l4]⟩) ?_ ?_
 ·rcases bft (decide (en56.key<en57.key)) with hb1 | hb1
  ·refine AWP.drawI mixed Z ?_
   refine k9.consF Z (fun E=>AOps.j Z Z .N) Z (.consF Z (fun E=>AOps.j Z Z .N) Z (.consF Z (fun E=>S.idxPb Z Z Z (by simpa only [List.length_set] using o6 ha9) Z Z .N) Z (.consF Z (fun E=>S.loadP ha9 Z Z Z Z .N) Z (.consF Z (fun E=>S.nilCheckE Z Z (by simpa only [List.length_set] using i5 hen56) Z .N) Z (.consF Z (fun E=>S.fieldE Z Z Z (by simpa only [List.length_set] using i5 hen56) Z .N) Z (.consF Z (fun E=>AOps.E Z Z (o7 Z hen56) Z Z Z .N) Z (.consF Z (fun E=>AOps.j Z Z .N) Z (.consF Z (fun E=>AOps.j Z Z .N) Z (.consF Z (fun E=>S.idxPb Z Z Z (by simpa only [List.length_set] using o6 ha16) Z Z .N) Z (.consF Z (fun E=>S.loadP ha16 Z Z Z Z .N) Z (.consF Z (fun E=>S.nilCheckE Z Z (by simpa only [List.length_set] using i5 hen57) Z .N) Z (.consF Z (fun E=>S.fieldE Z Z Z (by simpa only [List.length_set] using i5 hen57) Z .N) Z (.consF Z (fun E=>AOps.E Z Z (o7 Z hen57) Z Z Z .N) Z (.consF Z (fun E=>AOps.F Z Z Z .N) Z (.consF Z (fun E=>AOps.j Z Z .N) Z (.consF Z (fun E=>AOps.B Z Z Z hb1 .N) Z (.consF Z (fun E=>AOps.B Z Z Z hb1 .N) Z (.consF Z (fun E=>AOps.B Z Z Z hb1 .N) Z (.consF Z (fun E=>AOps.B Z Z Z hb1 .N) Z (.consF Z (fun E=>AOps.B Z Z Z hb1 .N) Z (.consF Z (fun E=>AOps.B Z Z Z hb1 .N) Z (.consF Z (fun E=>AOps.B Z Z Z hb1 .N) Z (.consF Z (fun E=>AOps.B Z Z Z hb1 .N) Z (.consF Z (fun E=>AOps.B Z Z Z hb1 .N) Z (.consF Z (fun E=>AOps.B Z Z Z hb1 .N) Z (.consF Z (fun E=>AOps.B Z Z Z hb1 .N) Z (.consF Z (fun E=>AOps.B Z Z Z hb1 .N) Z (.consF Z (fun E=>AOps.B Z Z Z hb1 .N) Z (.consF Z (fun E=>AOps.B Z Z Z hb1 .N) Z (.consF Z (fun E=>AOps.B Z Z Z hb1 .N) Z (.consF Z (fun E=>AOps.B Z Z Z hb1 .N) Z (.consF Z (fun E=>AOps.ai Z Z Z .N) Z (.consF Z (fun E=>AOps.ai Z Z Z .N) Z (.consF Z (fun E=>AOps.ai Z Z Z .N) Z (.consF Z (fun E=>AOps.ai Z Z Z .N) Z (.consF Z (fun E=>AOps.ai Z Z Z .N) Z (.consF Z (fun E=>AOps.ai Z Z Z .N) Z (.consF Z (fun E=>AOps.ai Z Z Z .N) Z (.consF Z (fun E=>AOps.ai Z Z Z .N) Z (.consF Z (fun E=>AOps.ai Z Z Z .N) Z (.consF Z (fun E=>AOps.ai Z Z Z .N) Z (.consF Z (fun E=>AOps.ai Z Z Z .N) Z (.consF Z (fun E=>AOps.ai Z Z Z .N) Z (.consF Z (fun E=>AOps.ai Z Z Z .N) Z (.consF Z (fun E=>AOps.ai Z Z Z .N) Z (.consF Z (fun E=>AOps.ai Z Z Z .N) Z (.consF Z (fun E=>AOps.B Z Z Z hb1 .N) Z (.consF Z (fun E=>AOps.O Z hb1 Z Z .N) Z (.consF Z (fun E=>AOps.v Z Z .N) Z ?_)))))))))))))))))))))))))))))))))))))))))))))))))
   refine k9.done ?_
   dsimp only [l8]
   refine b6 ?_
   simp only [X4 hb1,or_t hb1,Bool.false_or,Bool.true_or,Bool.false_and,Bool.true_and]
   exact Sub.env ⟨Z,Y⟩
  ·rcases bft (decide (en56.key=en57.key)) with hb2 | hb2
   ·refine AWP.drawI mixed Z ?_
    refine k9.consF Z (fun E=>AOps.j Z Z .N) Z (.consF Z (fun E=>AOps.j Z Z .N) Z (.consF Z (fun E=>S.idxPb Z Z Z (by simpa only [List.length_set] using o6 ha9) Z Z .N) Z (.consF Z (fun E=>S.loadP ha9 Z Z Z Z .N) Z (.consF Z (fun E=>S.nilCheckE Z Z (by simpa only [List.length_set] using i5 hen56) Z .N) Z (.consF Z (fun E=>S.fieldE Z Z Z (by simpa only [List.length_set] using i5 hen56) Z .N) Z (.consF Z (fun E=>AOps.E Z Z (o7 Z hen56) Z Z Z .N) Z (.consF Z (fun E=>AOps.j Z Z .N) Z (.consF Z (fun E=>AOps.j Z Z .N) Z (.consF Z (fun E=>S.idxPb Z Z Z (by simpa only [List.length_set] using o6 ha16) Z Z .N) Z (.consF Z (fun E=>S.loadP ha16 Z Z Z Z .N) Z (.consF Z (fun E=>S.nilCheckE Z Z (by simpa only [List.length_set] using i5 hen57) Z .N) Z (.consF Z (fun E=>S.fieldE Z Z Z (by simpa only [List.length_set] using i5 hen57) Z .N) Z (.consF Z (fun E=>AOps.E Z Z (o7 Z hen57) Z Z Z .N) Z (.consF Z (fun E=>AOps.F Z Z Z .N) Z (.consF Z (fun E=>AOps.j Z Z .N) Z (.consF Z (fun E=>AOps.z Z Z Z hb1 (.j Z Z .N)) Z (.consF Z (fun E=>AOps.z Z Z Z hb1 (.j Z Z .N)) Z (.consF Z (fun E=>AOps.z Z Z Z hb1 (S.idxPb Z Z Z (by simpa only [List.length_set] using o6 ha9) Z Z .N)) Z (.consF Z (fun E=>AOps.z Z Z Z hb1 (S.loadP ha9 Z Z Z Z .N)) Z (.consF Z (fun E=>AOps.z Z Z Z hb1 (S.nilCheckE Z Z (by simpa only [List.length_set] using i5 hen56) Z .N)) Z (.consF Z (fun E=>AOps.z Z Z Z hb1 (S.fieldE Z Z Z (by simpa only [List.length_set] using i5 hen56) Z .N)) Z (.consF Z (fun E=>AOps.z Z Z Z hb1 (.E Z Z (o7 Z hen56) Z Z Z .N)) Z (.consF Z (fun E=>AOps.z Z Z Z hb1 (.j Z Z .N)) Z (.consF Z (fun E=>AOps.z Z Z Z hb1 (.j Z Z .N)) Z (.consF Z (fun E=>AOps.z Z Z Z hb1 (S.idxPb Z Z Z (by simpa only [List.length_set] using o6 ha16) Z Z .N)) Z (.consF Z (fun E=>AOps.z Z Z Z hb1 (S.loadP ha16 Z Z Z Z .N)) Z (.consF Z (fun E=>AOps.z Z Z Z hb1 (S.nilCheckE Z Z (by simpa only [List.length_set] using i5 hen57) Z .N)) Z (.consF Z (fun E=>AOps.z Z Z Z hb1 (S.fieldE Z Z Z (by simpa only [List.length_set] using i5 hen57) Z .N)) Z (.consF Z (fun E=>AOps.z Z Z Z hb1 (.E Z Z (o7 Z hen57) Z Z Z .N)) Z (.consF Z (fun E=>AOps.z Z Z Z hb1 (.ab Z Z Z .N)) Z (.consF Z (fun E=>AOps.z Z Z Z hb1 (.j Z Z .N)) Z (.consF Z (fun E=>AOps.z Z Z Z hb2 (.j Z Z .N)) Z (.consF Z (fun E=>AOps.z Z Z Z hb2 (.j Z Z .N)) Z (.consF Z (fun E=>AOps.z Z Z Z hb2 (S.idxPb Z Z Z (by simpa only [List.length_set] using o6 ha9) Z Z .N)) Z (.consF Z (fun E=>AOps.z Z Z Z hb2 (S.loadP ha9 Z Z Z Z .N)) Z (.consF Z (fun E=>AOps.z Z Z Z hb2 (S.nilCheckE Z Z (by simpa only [List.length_set] using i5 hen56) Z .N)) Z (.consF Z (fun E=>AOps.z Z Z Z hb2 (S.fieldE Z Z Z (by simpa only [List.length_set] using i5 hen56) Z .N)) Z (.consF Z (fun E=>AOps.z Z Z Z hb2 (.E Z Z (o7 Z hen56) Z Z Z .N)) Z (.consF Z (fun E=>AOps.z Z Z Z hb2 (.j Z Z .N)) Z (.consF Z (fun E=>AOps.z Z Z Z hb2 (.j Z Z .N)) Z (.consF Z (fun E=>AOps.z Z Z Z hb2 (S.idxPb Z Z Z (by simpa only [List.length_set] using o6 ha16) Z Z .N)) Z (.consF Z (fun E=>AOps.z Z Z Z hb2 (S.loadP ha16 Z Z Z Z .N)) Z (.consF Z (fun E=>AOps.z Z Z Z hb2 (S.nilCheckE Z Z (by simpa only [List.length_set] using i5 hen57) Z .N)) Z (.consF Z (fun E=>AOps.z Z Z Z hb2 (S.fieldE Z Z Z (by simpa only [List.length_set] using i5 hen57) Z .N)) Z (.consF Z (fun E=>AOps.z Z Z Z hb2 (.E Z Z (o7 Z hen57) Z Z Z .N)) Z (.consF Z (fun E=>AOps.z Z Z Z hb2 (.F Z Z Z .N)) Z (.consF Z (fun E=>AOps.z Z Z Z hb1 (.O Z hb2 Z Z .N)) Z (.consF Z (fun E=>AOps.U Z hb1 Z Z .N) Z (.consF Z (fun E=>AOps.v Z Z .N) Z ?_)))))))))))))))))))))))))))))))))))))))))))))))))
    refine k9.done ?_
    dsimp only [l8]
    refine b6 ?_
    simp only [S0 hb1,or_f hb1,X4 hb2,or_t hb2,Bool.false_or,Bool.true_or,Bool.false_and,Bool.true_and]
    exact Sub.env ⟨Z,Y⟩
   ·refine AWP.drawI mixed Z ?_
    refine k9.consF Z (fun E=>AOps.j Z Z .N) Z (.consF Z (fun E=>AOps.j Z Z .N) Z (.consF Z (fun E=>S.idxPb Z Z Z (by simpa only [List.length_set] using o6 ha9) Z Z .N) Z (.consF Z (fun E=>S.loadP ha9 Z Z Z Z .N) Z (.consF Z (fun E=>S.nilCheckE Z Z (by simpa only [List.length_set] using i5 hen56) Z .N) Z (.consF Z (fun E=>S.fieldE Z Z Z (by simpa only [List.length_set] using i5 hen56) Z .N) Z (.consF Z (fun E=>AOps.E Z Z (o7 Z hen56) Z Z Z .N) Z (.consF Z (fun E=>AOps.j Z Z .N) Z (.consF Z (fun E=>AOps.j Z Z .N) Z (.consF Z (fun E=>S.idxPb Z Z Z (by simpa only [List.length_set] using o6 ha16) Z Z .N) Z (.consF Z (fun E=>S.loadP ha16 Z Z Z Z .N) Z (.consF Z (fun E=>S.nilCheckE Z Z (by simpa only [List.length_set] using i5 hen57) Z .N) Z (.consF Z (fun E=>S.fieldE Z Z Z (by simpa only [List.length_set] using i5 hen57) Z .N) Z (.consF Z (fun E=>AOps.E Z Z (o7 Z hen57) Z Z Z .N) Z (.consF Z (fun E=>AOps.F Z Z Z .N) Z (.consF Z (fun E=>AOps.j Z Z .N) Z (.consF Z (fun E=>AOps.z Z Z Z hb1 (.j Z Z .N)) Z (.consF Z (fun E=>AOps.z Z Z Z hb1 (.j Z Z .N)) Z (.consF Z (fun E=>AOps.z Z Z Z hb1 (S.idxPb Z Z Z (by simpa only [List.length_set] using o6 ha9) Z Z .N)) Z (.consF Z (fun E=>AOps.z Z Z Z hb1 (S.loadP ha9 Z Z Z Z .N)) Z (.consF Z (fun E=>AOps.z Z Z Z hb1 (S.nilCheckE Z Z (by simpa only [List.length_set] using i5 hen56) Z .N)) Z (.consF Z (fun E=>AOps.z Z Z Z hb1 (S.fieldE Z Z Z (by simpa only [List.length_set] using i5 hen56) Z .N)) Z (.consF Z (fun E=>AOps.z Z Z Z hb1 (.E Z Z (o7 Z hen56) Z Z Z .N)) Z (.consF Z (fun E=>AOps.z Z Z Z hb1 (.j Z Z .N)) Z (.consF Z (fun E=>AOps.z Z Z Z hb1 (.j Z Z .N)) Z (.consF Z (fun E=>AOps.z Z Z Z hb1 (S.idxPb Z Z Z (by simpa only [List.length_set] using o6 ha16) Z Z .N)) Z (.consF Z (fun E=>AOps.z Z Z Z hb1 (S.loadP ha16 Z Z Z Z .N)) Z (.consF Z (fun E=>AOps.z Z Z Z hb1 (S.nilCheckE Z Z (by simpa only [List.length_set] using i5 hen57) Z .N)) Z (.consF Z (fun E=>AOps.z Z Z Z hb1 (S.fieldE Z Z Z (by simpa only [List.length_set] using i5 hen57) Z .N)) Z (.consF Z (fun E=>AOps.z Z Z Z hb1 (.E Z Z (o7 Z hen57) Z Z Z .N)) Z (.consF Z (fun E=>AOps.z Z Z Z hb1 (.ab Z Z Z .N)) Z (.consF Z (fun E=>AOps.z Z Z Z hb1 (.j Z Z .N)) Z (.consF Z (fun E=>AOps.B Z Z Z hb2 .N) Z (.consF Z (fun E=>AOps.B Z Z Z hb2 .N) Z (.consF Z (fun E=>AOps.B Z Z Z hb2 .N) Z (.consF Z (fun E=>AOps.B Z Z Z hb2 .N) Z (.consF Z (fun E=>AOps.B Z Z Z hb2 .N) Z (.consF Z (fun E=>AOps.B Z Z Z hb2 .N) Z (.consF Z (fun E=>AOps.B Z Z Z hb2 .N) Z (.consF Z (fun E=>AOps.B Z Z Z hb2 .N) Z (.consF Z (fun E=>AOps.B Z Z Z hb2 .N) Z (.consF Z (fun E=>AOps.B Z Z Z hb2 .N) Z (.consF Z (fun E=>AOps.B Z Z Z hb2 .N) Z (.consF Z (fun E=>AOps.B Z Z Z hb2 .N) Z (.consF Z (fun E=>AOps.B Z Z Z hb2 .N) Z (.consF Z (fun E=>AOps.B Z Z Z hb2 .N) Z (.consF Z (fun E=>AOps.B Z Z Z hb2 .N) Z (.consF Z (fun E=>AOps.z Z Z Z hb1 (.U Z hb2 Z Z .N)) Z (.consF Z (fun E=>AOps.U Z hb1 Z Z .N) Z (.consF Z (fun E=>AOps.v Z Z .N) Z ?_)))))))))))))))))))))))))))))))))))))))))))))))))
    refine k9.done ?_
    dsimp only [l8]
    refine b6 ?_
    simp only [S0 hb1,or_f hb1,S0 hb2,or_f hb2,Bool.false_or,Bool.true_or,Bool.false_and,Bool.true_and]
    exact Sub.env ⟨Z,Y⟩
 ·refine AWP.ret ?_
  obtain rfl:=oi h
  exact ⟨⟨[(6,.c (bool ((decide (en56.key<en57.key)) || ((decide (en56.key=en57.key)) && (decide (en56.time<en57.time))))))],[.one (prow 1 l),pool 4 b9 l4]⟩,Sub.env ⟨Z,Y⟩,Done.ret Z ⟨Z,Z⟩⟩
end Ab
end
section
namespace Ab
open Go Go.Proofs
open Tryz
set_option maxHeartbeats 4000000
set_option linter.all false
attribute [local irreducible] AWP AOps thn inB Done h9 s7 Sub
theorem ak1{i01:Int}{nv:Int}{time:Int}{l:List Int}{l5:List (Int × Int)}{l6:List c9}{r:(List Int) × (List c9) × Bool}(h:H3 i01 nv time l l5 l6=some r):FnOk prog 73 [.c (.ifc 158 [.ptr 0 0 0] false),.c (int i01),.c (int nv)] (U5 i01 nv time l l5 l6) (fun tt ss=>tt=.c (bool r.2.2)∧ss=[.one (.cells 3 [[.own 1 0 r.1.length,.map 2,int time]]),.one (prow 3 r.1),.one (pmap 3 vU l5),pool 4 b9 r.2.1]):=by
 refine FnOk.enter (rs:=[.t 6]) func73 Z ntmps73 results73 Z ⟨trivial,Y⟩ (by kernel_rfl) Z ?_
 refine AWP.weak ?_
 unfold H3 at h
 refine AWP.q (.u (.v Z Z (.nil (b6 (.q (.u (.j Z Z (.v Z Z (.nil (b6 (.q (.J ?_))))))))))))
 obtain ⟨⟨c63,c64,iv65⟩,ho1,h⟩:=bind_some h
 try dsimp only at h
 refine AWP.loopS ho1 (fun (c60,c61,iv62)=>⟨[(0,.c (.ifc 158 [.ptr 0 0 0] false)),(1,.c (int i01)),(2,.c (int nv)),(7,.c (int iv62))],[.one (.cells 3 [[.own 1 0 c60.length,.map 2,int time]]),.one (prow 3 c60),.one (pmap 3 vU l5),pool 4 b9 c61]⟩) (fun (c63,c64,iv65) e st=>e=.exit 0∧Sub (U5 i01 nv time l l5 l6) st ⟨[(1,.c (int i01)),(7,.c (int iv65))],[.one (.cells 3 [[.own 1 0 c63.length,.map 2,int time]]),.one (prow 3 c63),.one (pmap 3 vU l5),pool 4 b9 c64]⟩) ?_ ?_ ?_
 ·try dsimp only
  exact Sub.env ⟨Z,Z,Z,Z,Y⟩
 ·intro s o h
  obtain ⟨c60,c61,iv62⟩:=s
  unfold V4 at h
  try dsimp only at h ⊢
  refine AWP.J (.q (.u (.j Z Z (S.mul Z Z Z (S.add Z Z Z (.v Z Z (.nil (b6 (.q (.seqJ (⟨[(0,.c (.ifc 158 [.ptr 0 0 0] false)),(1,.c (int i01)),(2,.c (int nv)),(7,.c (int iv62)),(8,.c (int (w64 ((w64 (2 * iv62))+1)))),(21,.c (bool ((decide (nv≤w64 ((w64 (2 * iv62))+1))) || (decide (w64 ((w64 (2 * iv62))+1)<0)))))],[.one (.cells 3 [[.own 1 0 c60.length,.map 2,int time]]),.one (prow 3 c60),.one (pmap 3 vU l5),pool 4 b9 c61]⟩) ?_ ?_))))))))))
  ·rcases bft (decide (nv≤w64 ((w64 (2 * iv62))+1))) with hb1 | hb1
   ·refine AWP.u (.j Z Z (.j Z Z (.geq Z Z Z (.j Z Z (.B Z Z Z hb1 (.B Z Z Z hb1 (.O Z hb1 Z Z (.nil (b6 ?_)))))))))
    simp only [X4 hb1,or_t hb1,Bool.false_or,Bool.true_or,Bool.false_and,Bool.true_and]
    exact Sub.env ⟨Z,Z,Z,Z,Z,Z,Y⟩
   ·refine AWP.u (.j Z Z (.j Z Z (.geq Z Z Z (.j Z Z (.z Z Z Z hb1 (.j Z Z (.z Z Z Z hb1 (.F Z Z Z (.U Z hb1 Z Z (.nil (b6 ?_)))))))))))
    simp only [S0 hb1,or_f hb1,Bool.false_or,Bool.true_or,Bool.false_and,Bool.true_and]
    exact Sub.env ⟨Z,Z,Z,Z,Z,Z,Y⟩
  ·refine AWP.af Z h (fun hc66 h=> ?_) (fun hc66 h=> ?_)
   ·refine AWP.exit (f8 (B6 Z ?_))
    obtain rfl:=oi h
    refine f8 ⟨_,Z,Z, ?_⟩
    exact Sub.env ⟨Z,Z,Y⟩
   ·refine AWP.skip (b6 (.q (.u (.j Z Z (.v Z Z (.nil (b6 ?_)))))))
    obtain ⟨j67,hx68,h⟩:=bind_some h
    refine AWP.seqJ (⟨[(0,.c (.ifc 158 [.ptr 0 0 0] false)),(1,.c (int i01)),(2,.c (int nv)),(7,.c (int iv62)),(9,.c (int j67))],[.one (.cells 3 [[.own 1 0 c60.length,.map 2,int time]]),.one (prow 3 c60),.one (pmap 3 vU l5),pool 4 b9 c61]⟩) ?_ ?_
    ·refine AWP.q (.u (.j Z Z (S.add Z Z Z (.v Z Z (.nil (b6 ?_))))))
     obtain ⟨t69,hx70,hx68⟩:=bind_some hx68
     refine AWP.seqJ (⟨[(0,.c (.ifc 158 [.ptr 0 0 0] false)),(1,.c (int i01)),(2,.c (int nv)),(7,.c (int iv62)),(9,.c (int (w64 ((w64 (2 * iv62))+1)))),(10,.c (int (w64 ((w64 ((w64 (2 * iv62))+1))+1)))),(33,.c (bool t69))],[.one (.cells 3 [[.own 1 0 c60.length,.map 2,int time]]),.one (prow 3 c60),.one (pmap 3 vU l5),pool 4 b9 c61]⟩) ?_ ?_
     ·rcases bft (decide (w64 ((w64 ((w64 (2 * iv62))+1))+1)<nv)) with hb71 | hb71
      ·replace hx70:=E9 hb71 hx70
       obtain ⟨a32,ha32,hx70⟩:=bind_some hx70
       refine AWP.u (.j Z Z (.j Z Z (.F Z Z Z (.j Z Z (.z Z Z Z hb71 (.j Z Z (.z Z Z Z hb71 (.j Z Z (.z Z Z Z hb71 (.j Z Z (.z Z Z Z hb71 (S.invokeV (r2:=.c (bool a32)) (σ'':=[.one (.cells 3 [[.own 1 0 c60.length,.map 2,int time]]),.one (prow 3 c60),.one (pmap 3 vU l5),pool 4 b9 c61]) Z Z Z Z Z Z Z (FnOk.lend [1,3] (y9 ha32) Z Z Z Z Z Z (by exact ⟨(.one (j7 Z)),(.any n3),Y⟩) Z (by exact ⟨(.live Z (.one (i8 fun _=>Z))),(.live Z RenE.pool),Y⟩) Z Z (by exact ⟨(.old Z Z Z),(.new 0 Z Z (.one (i8 fun _=>Z))),(.old Z Z Z),(.new 1 Z Z RenE.pool),Y⟩)) (.O Z hb71 Z Z (.nil ?_))))))))))))))
       obtain rfl:=oi hx70
       refine b6 (Sub.env ⟨Z,Z,Z,Z,Z,Z,Z,Y⟩)
      ·replace hx70:=F2 hb71 hx70
       refine AWP.u (.j Z Z (.j Z Z (.F Z Z Z (.j Z Z (.B Z Z Z hb71 (.B Z Z Z hb71 (.B Z Z Z hb71 (.B Z Z Z hb71 (.U Z hb71 Z Z (.nil ?_))))))))))
       obtain rfl:=oi hx70
       refine b6 (Sub.env ⟨Z,Z,Z,Z,Z,Z,Z,Y⟩)
     ·refine AWP.af Z hx68 (fun hc72 hx68=> ?_) (fun hc72 hx68=> ?_)
      ·refine AWP.u (.j Z Z (.v Z Z (.nil ?_)))
       obtain rfl:=oi hx68
       refine b6 (Sub.env ⟨Z,Z,Z,Z,Z,Y⟩)
      ·refine AWP.skip ?_
       obtain rfl:=oi hx68
       refine b6 (Sub.env ⟨Z,Z,Z,Z,Z,Y⟩)
    ·refine AWP.q (.q ?_)
     obtain ⟨a38,ha38,h⟩:=bind_some h
     refine AWP.u (.j Z Z (.j Z Z (.j Z Z (S.invokeV (r2:=.c (bool a38)) (σ'':=[.one (.cells 3 [[.own 1 0 c60.length,.map 2,int time]]),.one (prow 3 c60),.one (pmap 3 vU l5),pool 4 b9 c61]) Z Z Z Z Z Z Z (FnOk.lend [1,3] (ab6 ha38) Z Z Z Z Z Z (by exact ⟨(.one (j7 Z)),(.any n3),Y⟩) Z (by exact ⟨(.live Z (.one (i8 fun _=>Z))),(.live Z RenE.pool),Y⟩) Z Z (by exact ⟨(.old Z Z Z),(.new 0 Z Z (.one (i8 fun _=>Z))),(.old Z Z Z),(.new 1 Z Z RenE.pool),Y⟩)) (.not Z Z (.nil (b6 (.af Z h (fun hc73 h=> ?_) (fun hc73 h=> ?_)))))))))
     ·refine AWP.exit (f8 (B6 Z ?_))
      obtain rfl:=oi h
      refine f8 ⟨_,Z,Z, ?_⟩
      exact Sub.env ⟨Z,Z,Y⟩
     ·refine AWP.skip (b6 (.q ?_))
      obtain ⟨a43,ha43,u74,hu74,h⟩:=b2 h
      refine AWP.u (.j Z Z (.j Z Z (.j Z Z (S.invokeV (r2:=.tup []) (σ'':=[.one (.cells 3 [[.own 1 0 c60.length,.map 2,int time]]),.one (prow 3 a43.1),.one (pmap 3 vU l5),pool 4 b9 a43.2]) Z Z Z Z Z Z Z (FnOk.lend [1,3] (M4 ha43) Z Z Z Z Z Z (by exact ⟨(.one (j7 Z)),(.any n3),Y⟩) Z (by exact ⟨(.live Z (.one (i8 fun _=>Z))),(.live Z RenE.pool),Y⟩) Z Z (by exact ⟨(.old Z Z Z),(.new 0 Z Z (.one (i8 fun _=>Z))),(.old Z Z Z),(.new 1 Z Z RenE.pool),Y⟩)) (.nil (b6 (.u (.j Z Z (.v Z Z (.nil (f5 ?_)))))))))))
      obtain rfl:=oi h
      refine b6 ⟨_,Z, ?_⟩
      exact Sub.cut ⟨Z,Z,Z,Z,Y⟩ Z ⟨(.eq Z (by first | rfl | rw [(S4 hu74)] | (simp only [List.length_set]; done))),(.one (j7 Z)),(.one (l0 Z)),(.any n3),Y⟩ Z
 ·intro e s hq
  obtain ⟨rfl,hs⟩:=hq
  refine ⟨_,hs, ?_⟩
  refine k8 (b6 (.q (.u (.j Z Z (.j Z Z (.gtr Z Z Z (.v Z Z (.nil (b6 (.ret ?_))))))))))
  obtain rfl:=oi h
  exact ⟨⟨[(6,.c (bool (decide (i01<iv65))))],[.one (.cells 3 [[.own 1 0 c63.length,.map 2,int time]]),.one (prow 3 c63),.one (pmap 3 vU l5),pool 4 b9 c64]⟩,Sub.env ⟨Z,Y⟩,Done.ret Z ⟨Z,Z⟩⟩
theorem ad4{time:Int}{l:List Int}{l3:List (Int × Int)}{l4:List c9}{r:(List Int) × Int}(h:C1 time l l3 l4=some r):FnOk prog 186 [.c (.ptr 0 0 0)] (ad0 time l l3 l4) (fun tt ss=>tt=.c (.ifc 154 [.ptr (3,[r.2.toNat]) 0 0] false)∧ss=[.one (.cells 3 [[.own 5 0 r.1.length,.map 2,int time]]),.dead,.one (pmap 3 vU l3),pool 4 b9 l4,.dead,.one (prow 3 r.1)]):=by
 refine FnOk.enter (rs:=[.t 2]) func186 Z ntmps186 results186 Z ⟨trivial,Y⟩ (by kernel_rfl) Z ?_
 refine AWP.weak ?_
 unfold C1 at h
 refine AWP.j (env':=[(0,.c (.ptr 0 0 0))]) (σ':=[.one (.cells 3 [[.own 4 0 l.length,.map 2,int time]]),.dead,.one (pmap 3 vU l3),pool 4 b9 l4,.one (prow 3 l)]) 4 1 Z Z Z ⟨Z,Y⟩ Z ⟨⟨Z,Z⟩,trivial,⟨l0 Z,y6 Z L5⟩,(u6.pool Z),⟨j7 Z,y6 Z L9⟩,Y⟩ (.q (.u (.v Z Z (.nil (b6 (.q (.u (.j Z Z (.ah Z Z Z (.E Z Z Z Z Z Z (.v Z Z (.nil (b6 (.q ?_))))))))))))))
 obtain ⟨a12,ha12,h⟩:=bind_some h
 refine AWP.u (.j Z Z (.j Z Z (.lenOwnB Z Z Z (fun hl10=>.sub' Z Z Z (by omega) (S.idxPb Z Z Z (by simpa only [List.length_set] using o6 ha12) Z Z (S.loadP ha12 Z Z Z Z (.v Z Z (.nil (b6 (.q ?_))))))))))
 obtain ⟨a19,ha19,h⟩:=bind_some h
 refine AWP.u (.j Z Z (.j Z Z (.j Z Z (.lenOwnB Z Z Z (fun hl17=>.sub' Z Z Z (by omega) (S.shrinkP ha19 Z Z Z Z Z (.sub (Sub.reownP (env':=[(0,.c (.ptr 0 0 0)),(2,.c (.imm (.val .nilIface))),(4,.c (.ptr (3,[a12.toNat]) 0 0)),(5,.c (.ptr 0 0 0)),(6,.c (.ptr 0 0 0)),(10,.c (int (l.length:Int))),(11,.c (int ((l.length:Int) - 1))),(13,.c (.ptr (3,[a12.toNat]) 0 0)),(14,.c (.ptr 0 0 0)),(17,.c (int (l.length:Int))),(18,.c (int ((l.length:Int) - 1))),(19,.c (.own 5 0 a19.length))]) 19 ha19 Z Z Z Z Z Z Z (by exact ⟨.inr Z,.inr Z,.inr Z,.inr Z,.inr Z,.inr Z,.inr Z,.inr Z,.inr Z,.inr Z,.inr Z,.inl ⟨Z,Z⟩,Y⟩)) (.ah Z Z Z (W.store Z Z Z Z Z (.nil (b6 (.q (.u (.j Z Z (S.mkIfc Z Z Z (.v Z Z (.nil (b6 (.ret ?_)))))))))))))))))))
 obtain rfl:=oi h
 exact ⟨⟨[(2,.c (.ifc 154 [.ptr (3,[a12.toNat]) 0 0] false))],[.one (.cells 3 [[.own 5 0 a19.length,.map 2,int time]]),.dead,.one (pmap 3 vU l3),pool 4 b9 l4,.dead,.one (prow 3 a19)]⟩,Sub.env ⟨Z,Y⟩,Done.ret Z ⟨Z,Z⟩⟩
theorem an0{time:Int}{l:List Int}{l3:List (Int × Int)}{l4:List c9}{r:(List c9) × (List Int) × Int}(h:F8 time l l3 l4=some r):FnOk prog 44 [.c (.ifc 158 [.ptr 0 0 0] false)] (am4 time l l3 l4) (fun tt ss=>tt=.c (.ifc 154 [.ptr (3,[r.2.2.toNat]) 0 0] false)∧ss=[.one (.cells 3 [[.own 5 0 r.2.1.length,.map 2,int time]]),.dead,.one (pmap 3 vU l3),pool 4 b9 r.1,.dead,.one (prow 3 r.2.1)]):=by
 refine FnOk.enter (rs:=[.t 2]) func44 Z ntmps44 results44 Z ⟨trivial,Y⟩ (by kernel_rfl) Z ?_
 refine AWP.weak ?_
 unfold F8 at h
 refine AWP.q (.u (.v Z Z (.nil (b6 (.q ?_)))))
 obtain ⟨a5,ha5,h⟩:=bind_some h
 refine AWP.u (.j Z Z (S.invokeV (r2:=.c (int (l.length:Int))) (σ'':=[.one (.cells 3 [[.own 1 0 l.length,.map 2,int time]]),.one (prow 3 l),.one (pmap 3 vU l3),pool 4 b9 l4]) Z Z Z Z Z Z Z (FnOk.lend [1,3] (F0 ha5) Z Z Z Z Z Z (by exact ⟨(.one (j7 Z)),(.any n3),Y⟩) Z (by exact ⟨(.live Z (.one (i8 fun _=>Z))),(.live Z RenE.pool),Y⟩) Z Z (by exact ⟨(.old Z Z Z),(.new 0 Z Z (.one (i8 fun _=>Z))),(.old Z Z Z),(.new 1 Z Z RenE.pool),Y⟩)) (S.sub Z Z Z (.v Z Z (.nil (b6 (.q ?_)))))))
 obtain ⟨a9,ha9,u58,hu58,h⟩:=b2 h
 refine AWP.u (.j Z Z (.j Z Z (S.invokeV (r2:=.tup []) (σ'':=[.one (.cells 3 [[.own 1 0 l.length,.map 2,int time]]),.one (prow 3 a9.1),.one (pmap 3 vU l3),pool 4 b9 a9.2]) Z Z Z Z Z Z Z (FnOk.lend [1,3] (M4 ha9) Z Z Z Z Z Z (by exact ⟨(.one (j7 Z)),(.any n3),Y⟩) Z (by exact ⟨(.live Z (.one (i8 fun _=>Z))),(.live Z RenE.pool),Y⟩) Z Z (by exact ⟨(.old Z Z Z),(.new 0 Z Z (.one (i8 fun _=>Z))),(.old Z Z Z),(.new 1 Z Z RenE.pool),Y⟩)) (.nil (b6 (.q ?_))))))
 obtain ⟨a12,ha12,h⟩:=bind_some h
 refine AWP.u (.j Z Z (.j Z Z (.sub (s':=⟨[(0,.c (.ifc 158 [.ptr 0 0 0] false)),(2,.c (.imm (.val .nilIface))),(3,.c (int (w64 ((l.length:Int) - 1)))),(4,.c (.ifc 158 [.ptr 0 0 0] false)),(5,.c (int (l.length:Int))),(6,.c (int (w64 ((l.length:Int) - 1)))),(7,.c (.ifc 158 [.ptr 0 0 0] false)),(8,.c (int (w64 ((l.length:Int) - 1)))),(9,.tup []),(10,.c (.ifc 158 [.ptr 0 0 0] false)),(11,.c (int (w64 ((l.length:Int) - 1))))],[.one (.cells 3 [[.own 1 0 a9.1.length,.map 2,int time]]),.one (prow 3 a9.1),.one (pmap 3 vU l3),pool 4 b9 a9.2]⟩) (Sub.cut ⟨Z,Z,Z,Z,Z,Z,Z,Z,Z,Z,Z,Y⟩ Z ⟨(.eq Z (by rw [(S4 hu58)])),(.one (j7 Z)),(.one (l0 Z)),(.any n3),Y⟩ Z) (.callF (r2:=.c (bool a12.2.2)) (σ'':=[.one (.cells 3 [[.own 1 0 a12.1.length,.map 2,int time]]),.one (prow 3 a12.1),.one (pmap 3 vU l3),pool 4 b9 a12.2.1]) Z Z Z (FnOk.lend [0,1,2,3] (ak1 ha12) Z Z Z Z Z Z (by exact ⟨(.one Z),(.one (j7 Z)),(.one (l0 Z)),(.any n3),Y⟩) Z (by exact ⟨(.live Z (.one Z)),(.live Z (.one (i8 fun _=>Z))),(.live Z (.one (m7 fun _=>Z))),(.live Z RenE.pool),Y⟩) Z Z (by exact ⟨(.new 0 Z Z (.one Z)),(.new 1 Z Z (.one (i8 fun _=>Z))),(.new 2 Z Z (.one (m7 fun _=>Z))),(.new 3 Z Z RenE.pool),Y⟩)) (.nil (b6 (.q ?_)))))))
 obtain ⟨a14,ha14,h⟩:=bind_some h
 refine AWP.u (.j Z Z (S.invokeP (r2:=.c (.ifc 154 [.ptr (3,[a14.2.toNat]) 0 0] false)) (σ'':=[.one (.cells 3 [[.own 5 0 a14.1.length,.map 2,int time]]),.dead,.one (pmap 3 vU l3),pool 4 b9 a12.2.1,.dead,.one (prow 3 a14.1)]) Z Z Z (FnOk.lend [0,1,2,3] (ad4 ha14) Z Z Z Z Z Z (by exact ⟨(.one Z),(.one (j7 Z)),(.one (l0 Z)),(.any n3),Y⟩) Z (by exact ⟨(.live Z (.one Z)),(.live Z (.one (i8 fun _=>Z))),(.live Z (.one (m7 fun _=>Z))),(.live Z RenE.pool),Y⟩) Z Z (by exact ⟨(.new 0 Z Z (.one Z)),.dead,(.new 2 Z Z (.one (m7 fun _=>Z))),(.new 3 Z Z RenE.pool),.dead,(.new 5 Z Z (.one (i8 fun _=>Z))),Y⟩)) (.v Z Z (.nil (b6 (.ret ?_))))))
 obtain rfl:=oi h
 exact ⟨⟨[(2,.c (.ifc 154 [.ptr (3,[a14.2.toNat]) 0 0] false))],[.one (.cells 3 [[.own 5 0 a14.1.length,.map 2,int time]]),.dead,.one (pmap 3 vU l3),pool 4 b9 a12.2.1,.dead,.one (prow 3 a14.1)]⟩,Sub.env ⟨Z,Y⟩,Done.ret Z ⟨Z,Z⟩⟩
theorem ab9{time:Int}{l:List Int}{l3:List (Int × Int)}{l4:List c9}{r:(List (Int × Int)) × (List c9) × (List Int) × Int × Int × Bool}(h:x6 time l l3 l4=some r):FnOk prog 65 [.c (.ptr 0 0 0)] (aa7 time l l3 l4) (fun tt ss=>tt=.tup [.c (.imm (.val (.int .u32 r.2.2.2.1))),.c (int r.2.2.2.2.1),.c (bool r.2.2.2.2.2)]∧ss=[.one (.cells 3 [[.own 4 0 r.2.2.1.length,.map 2,int time]]),.dead,.one (pmap 3 vU r.1),pool 4 b9 r.2.1,.one (prow 3 r.2.2.1)]):=by
 refine FnOk.enter (rs:=[.t 2,.t 3,.t 4]) func65 Z ntmps65 results65 Z ⟨trivial,trivial,trivial,Y⟩ (by kernel_rfl) Z ?_
 refine AWP.weak ?_
 unfold x6 at h
 refine AWP.j (env':=[(0,.c (.ptr 0 0 0))]) (σ':=[.one (.cells 3 [[.own 4 0 l.length,.map 2,int time]]),.dead,.one (pmap 3 vU l3),pool 4 b9 l4,.one (prow 3 l)]) 4 1 Z Z Z ⟨Z,Y⟩ Z ⟨⟨Z,Z⟩,trivial,⟨l0 Z,y6 Z L5⟩,(u6.pool Z),⟨j7 Z,y6 Z L9⟩,Y⟩ (.q (.u (.v Z Z (.v Z Z (.v Z Z (.nil (b6 (.q (.q (.u (.j Z Z (.ah Z Z Z (W.fieldAddr Z Z Z Z (.E Z Z Z Z Z Z (.lenOwnB Z Z Z (fun hl10=>.ab Z Z Z (.nil (b6 (.ite Z h (fun hc61 h=> ?_) (fun hc61 h=> ?_))))))))))))))))))))
 ·refine AWP.q (.u (.j Z Z (.v Z Z (.v Z Z (.v Z Z (.nil (b6 (.ret (g9 ?_)))))))))
  obtain rfl:=oi h
  exact ⟨⟨[(2,.c (.imm (.val (.int .u32 0)))),(3,.c (int 0)),(4,.c (bool false))],[.one (.cells 3 [[.own 4 0 l.length,.map 2,int time]]),.dead,.one (pmap 3 vU l3),pool 4 b9 l4,.one (prow 3 l)]⟩,Sub.env ⟨Z,Z,Z,Y⟩,Done.ret Z ⟨Z,Z⟩⟩
 ·refine AWP.skip (b6 (.q ?_))
  obtain ⟨a17,ha17,h⟩:=bind_some h
  refine AWP.u (.j Z Z (.ah Z Z Z (W.fieldAddr Z Z Z Z (S.mkIfc Z Z Z (.callF (r2:=.c (.ifc 154 [.ptr (3,[a17.2.2.toNat]) 0 0] false)) (σ'':=[.one (.cells 3 [[.own 6 0 a17.2.1.length,.map 2,int time]]),.dead,.one (pmap 3 vU l3),pool 4 b9 a17.1,.dead,.dead,.one (prow 3 a17.2.1)]) Z Z Z (FnOk.lend [0,4,2,3] (an0 ha17) Z Z Z Z Z Z (by exact ⟨(.one Z),(.one (j7 Z)),(.one (l0 Z)),(.any n3),Y⟩) Z (by exact ⟨(.live Z (.one Z)),(.live Z (.one (i8 fun _=>Z))),(.live Z (.one (m7 fun _=>Z))),(.live Z RenE.pool),Y⟩) Z Z (by exact ⟨(.new 0 Z Z (.one Z)),.dead,(.new 2 Z Z (.one (m7 fun _=>Z))),(.new 3 Z Z RenE.pool),.dead,.dead,(.new 5 Z Z (.one (i8 fun _=>Z))),Y⟩)) (S.assert Z Z Z (.v Z Z (.nil (b6 (.q ?_))))))))))
  obtain ⟨en62,hen62,h⟩:=bind_some h
  refine AWP.drawEI [8] mixed Z Z Z ?_
  refine e9.consN Z Z (fun E=>AOps.j Z Z .N) Z (.consN Z Z (fun E=>AOps.ah Z Z Z .N) Z (.consN Z Z (fun E=>W.fieldAddr Z Z Z Z .N) Z (.consN Z Z (fun E=>AOps.E Z Z Z Z Z Z .N) Z (.consN Z Z (fun E=>AOps.j Z Z .N) Z (.consN Z Z (fun E=>S.nilCheckE Z Z (by simpa only [List.length_set] using i5 hen62) Z .N) Z (.consN Z Z (fun E=>S.fieldE Z Z Z (by simpa only [List.length_set] using i5 hen62) Z .N) Z (.consN Z Z (fun E=>AOps.E Z Z (o7 Z hen62) Z Z Z .N) Z ?_)))))))
  apply e9.consE (v:=.undef); exact Z; exact Z; intro E
  refine S.deleteP (fk:=vU) (k:=en62.item) G7 Z Z Z Z Z .N
  exact Z
  exact Z
  refine e9.done Z ?_ ?_
  ·refine d9.cons Z Z ?_ ?_
   refine b7.go Z Z (fun E=>AOps.j Z Z .N) ?_
   refine b7.skip Z (b7.nil)
   refine d9.cons Z Z ?_ ?_
   refine b7.go Z Z (fun E=>AOps.ah Z Z Z .N) ?_
   refine b7.skip Z (b7.nil)
   refine d9.cons Z Z ?_ ?_
   refine b7.go Z Z (fun E=>W.fieldAddr Z Z Z Z .N) ?_
   refine b7.skip Z (b7.nil)
   refine d9.cons Z Z ?_ ?_
   refine b7.go Z Z (fun E=>AOps.E Z Z Z Z Z Z .N) ?_
   refine b7.skip Z (b7.nil)
   refine d9.cons Z Z ?_ ?_
   refine b7.go Z Z (fun E=>AOps.j Z Z .N) ?_
   refine b7.skip Z (b7.nil)
   refine d9.cons Z Z ?_ ?_
   refine b7.go Z Z (fun E=>S.nilCheckE Z Z (by simpa only [List.length_set] using i5 hen62) Z .N) ?_
   refine b7.skip Z (b7.nil)
   refine d9.cons Z Z ?_ ?_
   refine b7.go Z Z (fun E=>S.fieldE Z Z Z (by simpa only [List.length_set] using i5 hen62) Z .N) ?_
   refine b7.skip Z (b7.nil)
   refine d9.cons Z Z ?_ ?_
   refine b7.go Z Z (fun E=>AOps.E Z Z (o7 Z hen62) Z Z Z .N) ?_
   refine b7.skip Z (b7.nil)
   refine d9.skip Z (d9.nil)
  dsimp only [l8]
  refine b6 (.q (.drawI mixed Z ?_))
  refine k9.consF Z (fun E=>AOps.j Z Z .N) Z (.consF Z (fun E=>S.nilCheckE Z Z (by simpa only [List.length_set] using i5 hen62) Z .N) Z (.consF Z (fun E=>S.fieldE Z Z Z (by simpa only [List.length_set] using i5 hen62) Z .N) Z (.consF Z (fun E=>AOps.E Z Z (o7 Z hen62) Z Z Z .N) Z (.consF Z (fun E=>AOps.j Z Z .N) Z (.consF Z (fun E=>S.nilCheckE Z Z (by simpa only [List.length_set] using i5 hen62) Z .N) Z (.consF Z (fun E=>S.fieldE Z Z Z (by simpa only [List.length_set] using i5 hen62) Z .N) Z (.consF Z (fun E=>AOps.E Z Z (o7 Z hen62) Z Z Z .N) Z (.consF Z (fun E=>AOps.v Z Z .N) Z (.consF Z (fun E=>AOps.v Z Z .N) Z (.consF Z (fun E=>AOps.v Z Z .N) Z ?_))))))))))
  refine k9.done ?_
  dsimp only [l8]
  refine b6 (.ret ?_)
  obtain rfl:=oi h
  exact ⟨⟨[(2,.c (.imm (.val (.int .u32 en62.item)))),(3,.c (int en62.key)),(4,.c (bool true))],[.one (.cells 3 [[.own 4 0 a17.2.1.length,.map 2,int time]]),.dead,.one (pmap 3 vU (mdel l3 en62.item)),pool 4 b9 a17.1,.one (prow 3 a17.2.1)]⟩,(Sub.move (env':=[(2,.c (.imm (.val (.int .u32 en62.item)))),(3,.c (int en62.key)),(4,.c (bool true))]) (σ':=[.one (.cells 3 [[.own 4 0 a17.2.1.length,.map 2,int time]]),.dead,.one (pmap 3 vU (mdel l3 en62.item)),pool 4 b9 a17.1,.one (prow 3 a17.2.1),.dead]) 4 6 Z Z Z ⟨Z,Z,Z,Y⟩ Z ⟨⟨Z,Z⟩,trivial,⟨l0 Z,y6 Z L5⟩,(u6.pool Z),⟨j7 Z,y6 Z L9⟩,trivial,Y⟩).trans (Sub.cut ⟨Z,Z,Z,Y⟩ Z ⟨.one Z,.dead,(.one (l0 Z)),(.any n3),(.one (j7 Z)),Y⟩ Z),Done.ret Z ⟨Z,Z⟩⟩
theorem ac8{item:Int}{key:Int}{time:Int}{l:List Int}{l5:List (Int × Int)}{l6:List c9}{r:(List (Int × Int)) × (List Int) × (List c9)}(h:C0 item key time l l5 l6=some r):FnOk prog 62 [.c (.ptr 0 0 0),.c (.imm (.val (.int .u32 item))),.c (int key)] (ad3 item key time l l5 l6) (fun tt ss=>tt=.tup []∧ss=[.one (.cells 3 [[.own 4 0 r.2.1.length,.map 2,int (w64 (time+1))]]),.dead,.one (pmap 5 vU r.1),.dead,.one (prow 5 r.2.1),pool 4 b9 r.2.2]):=by
 refine FnOk.enter (rs:=[]) func62 Z ntmps62 results62 Z trivial (by kernel_rfl) Z ?_
 refine AWP.weak ?_
 unfold C0 at h
 refine AWP.j (env':=[(0,.c (.ptr 0 0 0)),(1,.c (.imm (.val (.int .u32 item)))),(2,.c (int key))]) (σ':=[.one (.cells 3 [[.own 4 0 l.length,.map 2,int time]]),.dead,.one (pmap 3 vU l5),pool 4 b9 l6,.one (prow 3 l)]) 4 1 Z Z Z ⟨Z,Z,Z,Y⟩ Z ⟨⟨Z,Z⟩,trivial,⟨l0 Z,y6 Z L5⟩,(u6.pool Z),⟨j7 Z,y6 Z L9⟩,Y⟩ (.moveM (env':=[(0,.c (.ptr 0 0 0)),(1,.c (.imm (.val (.int .u32 item)))),(2,.c (int key))]) (σ':=[.one (.cells 3 [[.own 4 0 l.length,.map 2,int time]]),.dead,.one (pmap 5 vU l5),.dead,.one (prow 5 l),pool 4 b9 l6]) 5 3 Z Z Z ⟨Z,Z,Z,Y⟩ Z ⟨(.one Z Z),.dead,(.one (l0 Z) (F9 Z Z (m7 fun _=>Z))),.dead,(.one (j7 Z) (F9 Z Z (i8 fun _=>Z))),(EntR.pool Z Z),Y⟩ ?_)
 refine AWP.q (.u (.j Z Z (.ah Z Z Z (W.fieldAddr Z Z Z Z (.E Z Z Z Z Z Z (S.add Z Z Z (.ah Z Z Z (W.fieldAddr Z Z Z Z (W.store Z Z Z Z Z (.nil (b6 (.q (.q (.u (.j Z Z (.ah Z Z Z (W.fieldAddr Z Z Z Z (.E Z Z Z Z Z Z (.j Z Z (S.lookupOkP (fk:=vU) (k:=item) G7 Z Z Z Z Z (.j Z Z (.ac Z Z Z (.ac Z Z Z (.v Z Z (.v Z Z (.nil (b6 (.q (.u (.j Z Z (.nil (b6 (.af Z h (fun hc60 h=> ?_) (fun hc60 h=> ?_))))))))))))))))))))))))))))))))))
 ·obtain ⟨ap61,hap61,h⟩:=bind_some h
  refine AWP.sub (s':=⟨[(0,.c (.ptr 0 0 0)),(1,.c (.imm (.val (.int .u32 item)))),(2,.c (int key)),(6,.c (.ptr (5,[ap61.toNat]) 0 0)),(7,.c (bool (Option.isSome (mget l5 item)))),(9,.c (.ptr 0 0 0)),(10,.c (.ptr 0 0 0)),(11,.c (.ptr 0 0 2)),(12,.c (int time)),(13,.c (int (w64 (time+1)))),(14,.c (.ptr 0 0 0)),(15,.c (.ptr 0 0 2)),(17,.c (.ptr 0 0 0)),(18,.c (.ptr 0 0 0)),(19,.c (.ptr 0 0 1)),(20,.c (.map 2)),(21,.c (.imm (.val (.int .u32 item)))),(23,.c (.ptr (5,[ap61.toNat]) 0 0)),(24,.c (bool (Option.isSome (mget l5 item)))),(25,.c (bool (Option.isSome (mget l5 item))))],[.one (.cells 3 [[.own 4 0 l.length,.map 2,int (w64 (time+1))]]),.dead,.one (pmap 5 vU l5),.dead,.one (prow 5 l),pool 4 b9 l6]⟩) (Sub.env ⟨Z,Z,Z,(an4 hap61),Z,Z,Z,Z,Z,Z,Z,Z,Z,Z,Z,Z,Z,(an4 hap61),Z,Z,Y⟩) (.q ?_)
  obtain ⟨en62,hen62,h⟩:=bind_some h
  refine AWP.u (.j Z Z (.j Z Z (.j Z Z (.j Z Z (.ah Z Z Z (W.fieldAddr Z Z Z Z (.E Z Z Z Z Z Z (S.nilCheckE Z Z (by simpa only [List.length_set] using i5 hen62) Z (S.fieldE Z Z Z (by simpa only [List.length_set] using i5 hen62) Z (S.storeE (e':=(⟨en62.item,key,en62.time,en62.fat⟩:c9)) hen62 Z Z Z Z Z Z (S.nilCheckE Z Z (by simpa only [List.length_set] using i5 hen62) Z (S.fieldE Z Z Z (by simpa only [List.length_set] using i5 hen62) Z (S.storeE (e':=(⟨en62.item,key,w64 (time+1),en62.fat⟩:c9)) (aa0 hen62) Z Z Z Z Z Z (.nil (b6 (.q ?_))))))))))))))))
  obtain ⟨a45,ha45,h⟩:=bind_some h
  refine AWP.drawEI [8] mixed Z Z Z ?_
  refine e9.consN Z Z (fun E=>AOps.j Z Z .N) Z (.consN Z Z (fun E=>AOps.ah Z Z Z .N) Z (.consN Z Z (fun E=>W.fieldAddr Z Z Z Z .N) Z (.consN Z Z (fun E=>S.mkIfc Z Z Z .N) Z (.consN Z Z (fun E=>AOps.j Z Z .N) Z (.consN Z Z (fun E=>S.nilCheckE Z Z (by simpa only [List.length_set] using i5 hen62) Z .N) Z (.consN Z Z (fun E=>S.fieldE Z Z Z (by simpa only [List.length_set] using i5 hen62) Z .N) Z (.consN Z Z (fun E=>AOps.E Z Z (o7 Z (aa0 (aa0 hen62))) Z Z Z .N) Z ?_)))))))
  apply e9.consE; exact Z; exact Z; intro E
  refine AOps.callF (r2:=.tup []) (σ'':=[.one (.cells 3 [[.own 4 0 a45.1.length,.map 2,int (w64 (time+1))]]),.dead,.one (pmap 5 vU l5),.dead,.one (prow 5 a45.1),pool 4 b9 a45.2]) Z Z Z (FnOk.lend [0,4,2,5] (X9 ha45) Z Z Z Z Z Z (by exact ⟨(.one Z),(.one (j7 Z)),(.one (l0 Z)),(.any n3),Y⟩) Z (by exact ⟨(.live Z (.one Z)),(.live Z (.one (i8 fun _=>Z))),(.live Z (.one (m7 fun _=>Z))),(.live Z RenE.pool),Y⟩) Z Z (by exact ⟨(.new 0 Z Z (.one Z)),.dead,(.new 2 Z Z (.one (m7 fun _=>Z))),.dead,(.new 1 Z Z (.one (i8 fun _=>Z))),(.new 3 Z Z RenE.pool),Y⟩)) .N
  exact Z
  exact Z
  refine e9.done Z ?_ ?_
  ·refine d9.cons Z Z ?_ ?_
   refine b7.go Z Z (fun E=>AOps.j Z Z .N) ?_
   refine b7.skip Z (b7.nil)
   refine d9.cons Z Z ?_ ?_
   refine b7.go Z Z (fun E=>AOps.ah Z Z Z .N) ?_
   refine b7.skip Z (b7.nil)
   refine d9.cons Z Z ?_ ?_
   refine b7.go Z Z (fun E=>W.fieldAddr Z Z Z Z .N) ?_
   refine b7.skip Z (b7.nil)
   refine d9.cons Z Z ?_ ?_
   refine b7.go Z Z (fun E=>S.mkIfc Z Z Z .N) ?_
   refine b7.skip Z (b7.nil)
   refine d9.cons Z Z ?_ ?_
   refine b7.go Z Z (fun E=>AOps.j Z Z .N) ?_
   refine b7.skip Z (b7.nil)
   refine d9.cons Z Z ?_ ?_
   refine b7.go Z Z (fun E=>S.nilCheckE Z Z (by simpa only [List.length_set] using i5 hen62) Z .N) ?_
   refine b7.skip Z (b7.nil)
   refine d9.cons Z Z ?_ ?_
   refine b7.go Z Z (fun E=>S.fieldE Z Z Z (by simpa only [List.length_set] using i5 hen62) Z .N) ?_
   refine b7.skip Z (b7.nil)
   refine d9.cons Z Z ?_ ?_
   refine b7.go Z Z (fun E=>AOps.E Z Z (o7 Z (aa0 (aa0 hen62))) Z Z Z .N) ?_
   refine b7.skip Z (b7.nil)
   refine d9.skip Z (d9.nil)
  dsimp only [l8]
  refine b6 (.ret (g9 ?_))
  obtain rfl:=oi h
  exact ⟨⟨[],[.one (.cells 3 [[.own 4 0 a45.1.length,.map 2,int (w64 (time+1))]]),.dead,.one (pmap 5 vU l5),.dead,.one (prow 5 a45.1),pool 4 b9 a45.2]⟩,Sub.env trivial,Done.ret Z ⟨Z,Z⟩⟩
 ·refine AWP.skip (b6 (.q ?_))
  obtain ⟨u63,hu63,u64,hu64,h⟩:=b2 h
  refine AWP.u (.j Z Z (.j Z Z (.j Z Z (.ah Z Z Z (W.fieldAddr Z Z Z Z (.E Z Z Z Z Z Z (W.build Z Z Z Z (W.box Z Z Z Z Z Z (.sub (Sub.move (env':=[(0,.c (.ptr 0 0 0)),(1,.c (.imm (.val (.int .u32 item)))),(2,.c (int key)),(7,.c (bool (Option.isSome (mget l5 item)))),(9,.c (.ptr 0 0 0)),(10,.c (.ptr 0 0 0)),(11,.c (.ptr 0 0 2)),(12,.c (int time)),(13,.c (int (w64 (time+1)))),(14,.c (.ptr 0 0 0)),(15,.c (.ptr 0 0 2)),(17,.c (.ptr 0 0 0)),(18,.c (.ptr 0 0 0)),(19,.c (.ptr 0 0 1)),(20,.c (.map 2)),(21,.c (.imm (.val (.int .u32 item)))),(24,.c (bool (Option.isSome (mget l5 item)))),(25,.c (bool (Option.isSome (mget l5 item)))),(46,.c (.imm (.val (.int .u32 item)))),(47,.c (int key)),(48,.c (.ptr 0 0 0)),(49,.c (.ptr 0 0 0)),(50,.c (.ptr 0 0 2)),(51,.c (int (w64 (time+1)))),(52,.agg [.imm (.val (.int .u32 item)),int key,int (w64 (time+1)),int 0]),(53,.c (.ptr (5,[(l6.length:Int).toNat]) 0 0))]) (σ':=[.one (.cells 3 [[.own 4 0 l.length,.map 2,int (w64 (time+1))]]),.dead,.one (pmap 5 vU l5),.dead,.one (prow 5 l),pool 4 b9 (l6++[(⟨item,key,w64 (time+1),0⟩:c9)])]) (5,[l6.length]) (6,[]) Z Z Z ⟨Z,Z,Z,Z,Z,Z,Z,Z,Z,Z,Z,Z,Z,Z,Z,Z,Z,Z,Z,Z,Z,Z,Z,Z,Z,ptr_adopt,Y⟩ Z ⟨⟨Z,Z⟩,trivial,⟨l0 Z,ac3 Z (pmap_adopt hu63) af6⟩,trivial,⟨j7 Z,ac3 Z (prow_adopt hu64) af6⟩,(u6.adopt Z Z),Y⟩) (.v Z Z (.nil (b6 (.q (.u (.j Z Z (.ah Z Z Z (W.fieldAddr Z Z Z Z (.E Z Z Z Z Z Z (.j Z Z (.j Z Z (S.mapUpdateP (fk:=vU) (k:=item) (a:=(l6.length:Int)) G7 Z Z Z Z Z (.nil (b6 ?_)))))))))))))))))))))))
  obtain ⟨a66,ha66,h⟩:=bind_some h
  refine AWP.u (.j Z Z (.ah Z Z Z (W.fieldAddr Z Z Z Z (S.mkIfc Z Z Z (.j Z Z (S.mkIfc Z Z Z (.callF (r2:=.tup []) (σ'':=[.one (.cells 3 [[.own 8 0 a66.2.length,.map 2,int (w64 (time+1))]]),.dead,.one (pmap 5 vU (mset l5 item (l6.length:Int))),.dead,.dead,pool 4 b9 a66.1,.dead,.dead,.one (prow 5 a66.2)]) Z Z Z (FnOk.lend [0,5,4,2] (W0 ha66) Z Z Z Z Z Z (by exact ⟨(.one Z),(.any n3),(.one (j7 Z)),(.one (l0 Z)),Y⟩) Z (by exact ⟨(.live Z (.one Z)),(.live Z RenE.pool),(.live Z (.one (i8 fun _=>Z))),(.live Z (.one (m7 fun _=>Z))),Y⟩) Z Z (by exact ⟨(.new 0 Z Z (.one Z)),.dead,(.new 3 Z Z (.one (m7 fun _=>Z))),.dead,.dead,(.new 1 Z Z RenE.pool),.dead,.dead,(.new 6 Z Z (.one (i8 fun _=>Z))),Y⟩)) (.nil ?_))))))))
  obtain rfl:=oi h
  exact ⟨⟨[],[.one (.cells 3 [[.own 4 0 a66.2.length,.map 2,int (w64 (time+1))]]),.dead,.one (pmap 5 vU (mset l5 item (l6.length:Int))),.dead,.one (prow 5 a66.2),pool 4 b9 a66.1]⟩,(Sub.move (env':=[]) (σ':=[.one (.cells 3 [[.own 4 0 a66.2.length,.map 2,int (w64 (time+1))]]),.dead,.one (pmap 5 vU (mset l5 item (l6.length:Int))),.dead,.one (prow 5 a66.2),pool 4 b9 a66.1,.dead,.dead]) 4 8 Z Z Z trivial Z ⟨⟨Z,Z⟩,trivial,⟨l0 Z,y6 Z L5⟩,trivial,⟨j7 Z,y6 Z L9⟩,(u6.pool Z),trivial,trivial,Y⟩).trans (Sub.cut trivial Z ⟨.one Z,.dead,(.one (l0 Z)),.dead,(.one (j7 Z)),(.any n3),Y⟩ Z),Done.normal Z ⟨Z,Z⟩⟩
theorem at7{l:List Int}{start:Int}{goal:Int}{l4:List j8}{r:(List (Int × Int))}(h:Q8 l start goal l4=some r):FnOk prog 35 [.c (.ptr 0 0 0),.c (row 1 eU32 l)] (Q3 l start goal l4) (fun tt ss=>tt=.c (.map 4)∧ss=[.one (.cells 3 [(wW start goal 1 l4.length)]),.one (vec 4 e8 l4),.dead,.dead,.one (mapB vU vI r)]):=by
 refine FnOk.enter (rs:=[.t 4]) func35 Z ntmps35 results35 Z ⟨trivial,Y⟩ (by kernel_rfl) Z ?_
 refine AWP.weak ?_
 unfold Q8 at h
 refine AWP.q (.u (.v Z Z (.nil (b6 (.q (.u (W.makeMapM 2 2 vU j9 Z Z Z (W.alloc Z Z Z Z (W.store Z Z Z Z Z (.nil (b6 (.q (.u (W.makeMap vU vI Z Z Z (.v Z Z (.nil (b6 (.q ?_))))))))))))))))))
 obtain ⟨a18,ha18,h⟩:=bind_some h
 refine AWP.u (.callF (r2:=.c (.ptr 7 0 0)) (σ'':=[.one (.cells 3 [(wW start goal 1 l4.length)]),.one (vec 4 e8 l4),mmap 2 2 vU j9 ([]:List (Int × List w7)),.one (.cells 1 [[.map 2]]),.one (mapB vU vI ([]:List (Int × Int))),.one (pmap 6 vU ([]:List (Int × Int))),pool 4 b9 ([]:List c9),.one (.cells 3 [[.own 8 0 (([]:List Int).length),.map 5,int 0]]),.one (prow 6 ([]:List Int))]) Z Z Z (FnOk.lend [] (ak8 ha18) Z Z Z Z Z Z (by exact trivial) Z (by exact trivial) Z Z (by exact ⟨(.old Z Z Z),(.old Z Z Z),(.old Z Z Z),(.old Z Z Z),(.old Z Z Z),(.new 0 Z Z (.one (m7 fun _=>Z))),(.new 1 Z Z RenE.pool),(.new 2 Z Z (.one Z)),(.new 3 Z Z (.one (i8 fun _=>Z))),Y⟩)) (.v Z Z (.nil (b6 (.q (.q (.u (.j Z Z (S.len Z Z (fun hl20=>.j Z Z (.nil (b6 (.J ?_)))))))))))))
 obtain ⟨⟨c56,c57,c58,c59,c60,c61⟩,ho1,h⟩:=bind_some h
 try dsimp only at h
 refine AWP.forS ho1 (fun t62 (c56,c57,c58,c59,c60,c61)=>⟨[(0,.c (.ptr 0 0 0)),(5,.c (.ptr 3 0 0)),(6,.c (.map 4)),(7,.c (.ptr 7 0 0)),(19,.c (row 1 eU32 l)),(20,.c (int (l.length:Int))),(21,.c (int t62))],[.one (.cells 3 [(wW start goal 1 l4.length)]),.one (vec 4 e8 l4),mmap 2 2 vU j9 c56,.one (.cells 1 [[.map 2]]),.one (mapB vU vI c57),.one (pmap 6 vU c58),pool 4 b9 c59,.one (.cells 3 [[.own 8 0 c61.length,.map 5,int c60]]),.one (prow 6 c61)]⟩) (fun (c56,c57,c58,c59,c60,c61) e st=>e=.exit 0∧Sub (Q3 l start goal l4) st ⟨[(5,.c (.ptr 3 0 0)),(6,.c (.map 4)),(7,.c (.ptr 7 0 0))],[.one (.cells 3 [(wW start goal 1 l4.length)]),.one (vec 4 e8 l4),mmap 2 2 vU j9 c56,.one (.cells 1 [[.map 2]]),.one (mapB vU vI c57),.one (pmap 6 vU c58),pool 4 b9 c59,.one (.cells 3 [[.own 8 0 c61.length,.map 5,int c60]]),.one (prow 6 c61)]⟩) ?_ ?_ ?_ ?_
 ·try dsimp only
  exact Sub.env ⟨Z,Z,Z,Z,Z,Z,Z,Y⟩
 ·intro t62 s hlot62 hltt62 _
  obtain ⟨c56,c57,c58,c59,c60,c61⟩:=s
  try dsimp only
  refine AWP.q (.u (.F Z Z Z (.nil (b6 (.q (.ad Z hltt62 (.exit (f8 (f8 ⟨Z, ?_⟩)))))))))
  exact Sub.env ⟨Z,Z,Z,Y⟩
 ·intro t62 s o hlot62 hltt62 h
  obtain ⟨c56,c57,c58,c59,c60,c61⟩:=s
  unfold J9 at h
  try dsimp only at h ⊢
  refine AWP.q (.u (.F Z Z Z (.nil (b6 (.q (.ae Z hltt62 (.skip (b6 (.q (.J (.q ?_)))))))))))
  obtain ⟨a23,ha23,h⟩:=bind_some h
  refine AWP.u (S.idx ha23 Z Z Z Z (.ag Z Z Z Z (W.alloc Z Z Z Z (W.store Z Z Z Z Z (.nil (b6 (.q (.u (.j Z Z (.E Z Z Z Z Z Z (W.mapUpdate (fk:=vU) (fv:=vI) (k:=a23) (a:=1000000000) G7 Z Z Z Z Z (.nil (b6 ?_)))))))))))))
  obtain ⟨⟨c63,c64,c65,c66,c67⟩,hx68,h⟩:=bind_some h
  refine AWP.seqJ (⟨[(0,.c (.ptr 0 0 0)),(5,.c (.ptr 3 0 0)),(6,.c (.map 4)),(7,.c (.ptr 7 0 0)),(9,.c (.ptr 9 0 0)),(19,.c (row 1 eU32 l)),(20,.c (int (l.length:Int))),(21,.c (int t62))],[.one (.cells 3 [(wW start goal 1 l4.length)]),.one (vec 4 e8 l4),mmap 2 2 vU j9 c56,.one (.cells 1 [[.map 2]]),.one (mapB vU vI c63),.one (pmap 11 vU c64),.dead,.one (.cells 3 [[.own 10 0 c66.length,.map 5,int c65]]),.dead,.one (.cells 1 [[.imm (.val (.int .u32 a23))]]),.one (prow 11 c66),pool 4 b9 c67]⟩) ?_ ?_
  ·refine AWP.q ?_
   obtain ⟨a29,ha29,hx68⟩:=bind_some hx68
   refine AWP.u (.j Z Z (.E Z Z Z Z Z Z (.callF (r2:=.c (bool (decide (Go.bits .and .u32 a23 goal=goal)))) (σ'':=[.one (.cells 3 [(wW start goal 1 l4.length)]),.one (vec 4 e8 l4),mmap 2 2 vU j9 c56,.one (.cells 1 [[.map 2]]),.one (mapB vU vI (mset c57 a23 1000000000)),.one (pmap 6 vU c58),pool 4 b9 c59,.one (.cells 3 [[.own 8 0 c61.length,.map 5,int c60]]),.one (prow 6 c61),.one (.cells 1 [[.imm (.val (.int .u32 a23))]])]) Z Z Z (FnOk.lend [0,1] (ao0 ha29) Z Z Z Z Z Z (by exact ⟨(.one Z),.vec,Y⟩) Z (by exact ⟨(.live Z (.one Z)),(.live Z .vec),Y⟩) Z Z (by exact ⟨(.new 0 Z Z (.one Z)),(.new 1 Z Z .vec),(.old Z Z Z),(.old Z Z Z),(.old Z Z Z),(.old Z Z Z),(.old Z Z Z),(.old Z Z Z),(.old Z Z Z),(.old Z Z Z),Y⟩)) (.nil (b6 (.ite Z hx68 (fun hc69 hx68=> ?_) (fun hc69 hx68=> ?_)))))))
   ·refine AWP.q (.u (.j Z Z (.E Z Z Z Z Z Z (W.mapUpdate (fk:=vU) (fv:=vI) (k:=a23) (a:=0) G7 Z Z Z Z Z (.nil (b6 ?_))))))
    obtain ⟨a34,ha34,hx68⟩:=bind_some hx68
    refine AWP.u (.j Z Z (.E Z Z Z Z Z Z (.callF (r2:=.tup []) (σ'':=[.one (.cells 3 [(wW start goal 1 l4.length)]),.one (vec 4 e8 l4),mmap 2 2 vU j9 c56,.one (.cells 1 [[.map 2]]),.one (mapB vU vI (mset (mset c57 a23 1000000000) a23 0)),.one (pmap 11 vU a34.1),.dead,.one (.cells 3 [[.own 10 0 a34.2.1.length,.map 5,int (w64 (c60+1))]]),.dead,.one (.cells 1 [[.imm (.val (.int .u32 a23))]]),.one (prow 11 a34.2.1),pool 4 b9 a34.2.2]) Z Z Z (FnOk.lend [7,8,5,6] (ad2 ha34) Z Z Z Z Z Z (by exact ⟨(.one Z),(.one (j7 Z)),(.one (l0 Z)),(.any n3),Y⟩) Z (by exact ⟨(.live Z (.one Z)),(.live Z (.one (i8 fun _=>Z))),(.live Z (.one (m7 fun _=>Z))),(.live Z RenE.pool),Y⟩) Z Z (by exact ⟨(.old Z Z Z),(.old Z Z Z),(.old Z Z Z),(.old Z Z Z),(.old Z Z Z),(.new 2 Z Z (.one (m7 fun _=>Z))),.dead,(.new 0 Z Z (.one Z)),.dead,(.old Z Z Z),(.new 4 Z Z (.one (i8 fun _=>Z))),(.new 5 Z Z RenE.pool),Y⟩)) (.nil ?_))))
    have ej:=Option.some.inj hx68
    simp only [Prod.mk.injEq] at ej
    obtain ⟨ej0,ej1,ej2,ej3,ej4⟩:=ej
    subst ej0
    subst ej1
    subst ej2
    subst ej3
    subst ej4
    refine b6 (Sub.env ⟨Z,Z,Z,Z,Z,Z,Z,Z,Y⟩)
   ·refine AWP.skip ?_
    have ej:=Option.some.inj hx68
    simp only [Prod.mk.injEq] at ej
    obtain ⟨ej0,ej1,ej2,ej3,ej4⟩:=ej
    subst ej0
    subst ej1
    subst ej2
    subst ej3
    subst ej4
    refine b6 ((Sub.move (env':=[(0,.c (.ptr 0 0 0)),(5,.c (.ptr 3 0 0)),(6,.c (.map 4)),(7,.c (.ptr 7 0 0)),(9,.c (.ptr 9 0 0)),(19,.c (row 1 eU32 l)),(20,.c (int (l.length:Int))),(21,.c (int t62))]) (σ':=[.one (.cells 3 [(wW start goal 1 l4.length)]),.one (vec 4 e8 l4),mmap 2 2 vU j9 c56,.one (.cells 1 [[.map 2]]),.one (mapB vU vI (mset c57 a23 1000000000)),.one (pmap 6 vU c58),pool 4 b9 c59,.one (.cells 3 [[.own 10 0 c61.length,.map 5,int c60]]),.dead,.one (.cells 1 [[.imm (.val (.int .u32 a23))]]),.one (prow 6 c61)]) 10 8 Z Z Z ⟨Z,Z,Z,Z,Z,Z,Z,Z,Y⟩ Z ⟨⟨Z,Z⟩,⟨Blk.im_ok _ _ _,j6 Z⟩,(u6.mmap Z Z Z),⟨Z,Z⟩,⟨Z,Z⟩,⟨l0 Z,y6 Z L5⟩,(u6.pool Z),⟨Z,Z⟩,trivial,⟨Z,Z⟩,⟨j7 Z,y6 Z L9⟩,Y⟩).trans ((Sub.moveM (env':=[(0,.c (.ptr 0 0 0)),(5,.c (.ptr 3 0 0)),(6,.c (.map 4)),(7,.c (.ptr 7 0 0)),(9,.c (.ptr 9 0 0)),(19,.c (row 1 eU32 l)),(20,.c (int (l.length:Int))),(21,.c (int t62))]) (σ':=[.one (.cells 3 [(wW start goal 1 l4.length)]),.one (vec 4 e8 l4),mmap 2 2 vU j9 c56,.one (.cells 1 [[.map 2]]),.one (mapB vU vI (mset c57 a23 1000000000)),.one (pmap 11 vU c58),.dead,.one (.cells 3 [[.own 10 0 c61.length,.map 5,int c60]]),.dead,.one (.cells 1 [[.imm (.val (.int .u32 a23))]]),.one (prow 11 c61),pool 4 b9 c59]) 11 6 Z Z Z ⟨Z,Z,Z,Z,Z,Z,Z,Z,Y⟩ Z ⟨(.one Z Z),(.vec Z),(EntR.mmap Z Z Z),(.one Z Z),(.one Z Z),(.one (l0 Z) (F9 Z Z (m7 fun _=>Z))),.dead,(.one Z Z),.dead,(.one Z Z),(.one (j7 Z) (F9 Z Z (i8 fun _=>Z))),(EntR.pool Z Z),Y⟩).trans (Sub.env ⟨Z,Z,Z,Z,Z,Z,Z,Z,Y⟩)))
  ·try dsimp only at h
   refine AWP.q ?_
   obtain ⟨a37,ha37,h⟩:=bind_some h
   refine AWP.u (.j Z Z (.E Z Z Z Z Z Z (.callF (r2:=.c (.fn 84 [.ptr 12 0 0,.ptr 13 0 0])) (σ'':=[.one (.cells 3 [(wW start goal 1 l4.length)]),.one (vec 4 e8 l4),mmap 2 2 vU j9 c56,.one (.cells 1 [[.map 2]]),.one (mapB vU vI c63),.one (pmap 11 vU c64),.dead,.one (.cells 3 [[.own 10 0 c66.length,.map 5,int c65]]),.dead,.one (.cells 1 [[.imm (.val (.int .u32 a23))]]),.one (prow 11 c66),pool 4 b9 c67,.one (.cells 1 [[.ptr 0 0 0]]),.one (.cells 1 [[.imm (.val (.int .u32 a23))]])]) Z Z Z (FnOk.lend [0,1] (Y9 ha37) Z Z Z Z Z Z (by exact ⟨(.one Z),.vec,Y⟩) Z (by exact ⟨(.live Z (.one Z)),(.live Z .vec),Y⟩) Z Z (by exact ⟨(.new 0 Z Z (.one Z)),(.new 1 Z Z .vec),(.old Z Z Z),(.old Z Z Z),(.old Z Z Z),(.old Z Z Z),.dead,(.old Z Z Z),.dead,(.old Z Z Z),(.old Z Z Z),(.old Z Z Z),(.new 2 Z Z (.one Z)),(.new 3 Z Z (.one Z)),Y⟩)) (.nil (b6 (.J ?_))))))
   obtain ⟨c71,hr70,h⟩:=bind_some h
   refine AWP.rangeB [(5,none),(9,none)] Z Z Z (fun as70 bo70 hA70 hB70=>⟨[.one (.cells 3 [(wW start goal 1 l4.length)]),.one (vec 4 e8 l4),mmap 2 2 vU j9 c56,.one (.cells 1 [[.map 2]]),.one (mapB vU vI c63),.one (pmap 11 vU c64),.dead,.one (.cells 3 [[.own 10 0 c66.length,.map 5,int c65]]),.dead,.one (.cells 1 [[.imm (.val (.int .u32 a23))]]),.one (prow 11 c66),pool 4 b9 c67,.one (.cells 1 [[.ptr 0 0 0]]),.one (.cells 1 [[.imm (.val (.int .u32 a23))]]),.one (l7 96 [38] as70 bo70 .ready none [(5,none),(9,none)] [.ptr 3 0 0,.ptr 9 0 0])],fun tt ss=>tt=.tup []∧ss=[.one (.cells 3 [(wW start goal 1 l4.length)]),.one (vec 4 e8 l4),.dead,.one (.cells 1 [[.map 15]]),.one (mapB vU vI c63),.one (pmap 11 vU c64),.dead,.one (.cells 3 [[.own 10 0 c66.length,.map 5,int c65]]),.dead,.one (.cells 1 [[.imm (.val (.int .u32 a23))]]),.one (prow 11 c66),pool 4 b9 c67,.one (.cells 1 [[.ptr 0 0 0]]),.one (.cells 1 [[.imm (.val (.int .u32 a23))]]),.one (l7 96 [38] as70 bo70 .ready none [(5,none),(9,none)] [.ptr 3 0 0,.ptr 9 0 0]),mmap 15 2 vU j9 c71],Z, ?_, ?_⟩)
   ·refine FnOk.enter (rs:=[]) func84 Z ntmps84 results84 Z trivial (by kernel_rfl) Z ?_
    refine AWP.weak ?_
    unfold Q4 at hr70
    try dsimp only at hr70
    refine AWP.moveM (env':=[(0,.c (.yld 14)),(1,.c (.ptr 12 0 0)),(2,.c (.ptr 13 0 0))]) (σ':=[.one (.cells 3 [(wW start goal 1 l4.length)]),.one (vec 4 e8 l4),.dead,.one (.cells 1 [[.map 15]]),.one (mapB vU vI c63),.one (pmap 11 vU c64),.dead,.one (.cells 3 [[.own 10 0 c66.length,.map 5,int c65]]),.dead,.one (.cells 1 [[.imm (.val (.int .u32 a23))]]),.one (prow 11 c66),pool 4 b9 c67,.one (.cells 1 [[.ptr 0 0 0]]),.one (.cells 1 [[.imm (.val (.int .u32 a23))]]),.one (l7 96 [38] as70 bo70 .ready none [(5,none),(9,none)] [.ptr 3 0 0,.ptr 9 0 0]),mmap 15 2 vU j9 c56]) 15 2 Z Z Z ⟨Z,Z,Z,Y⟩ Z ⟨(.one Z Z),(.vec Z),.dead,(.one Z Z),(.one Z Z),(.one (l0 Z) (F9 Z Z (m7 fun _=>Z))),.dead,(.one Z Z),.dead,(.one Z Z),(.one (j7 Z) (F9 Z Z (i8 fun _=>Z))),(EntR.pool Z Z),(.one Z Z),(.one Z Z),(.one Z Z),(EntR.mmap Z Z Z),Y⟩ ?_
    refine AWP.q (.u (.E Z Z Z Z Z Z (.ah Z Z Z (W.fieldAddr Z Z Z Z (.E Z Z Z Z Z Z (S.lenO Z Z Z (fun hl10=>.j Z Z (.nil (b6 (.J ?_))))))))))
    obtain ⟨c72,ho2,hr70⟩:=bind_some hr70
    refine AWP.forS ho2 (fun t73 c72=>⟨[(0,.c (.yld 14)),(2,.c (.ptr 13 0 0)),(9,.c (.own 1 0 l4.length)),(10,.c (int (l4.length:Int))),(11,.c (int t73))],[.one (.cells 3 [(wW start goal 1 l4.length)]),.one (vec 4 e8 l4),.dead,.one (.cells 1 [[.map 15]]),.one (mapB vU vI c63),.one (pmap 11 vU c64),.dead,.one (.cells 3 [[.own 10 0 c66.length,.map 5,int c65]]),.dead,.one (.cells 1 [[.imm (.val (.int .u32 a23))]]),.one (prow 11 c66),pool 4 b9 c67,.one (.cells 1 [[.ptr 0 0 0]]),.one (.cells 1 [[.imm (.val (.int .u32 a23))]]),.one (l7 96 [38] as70 bo70 .ready none [(5,none),(9,none)] [.ptr 3 0 0,.ptr 9 0 0]),mmap 15 2 vU j9 c72]⟩) (fun c72 e st=>e=.exit 0∧Sub ([.one (.cells 3 [(wW start goal 1 l4.length)]),.one (vec 4 e8 l4),mmap 2 2 vU j9 c56,.one (.cells 1 [[.map 2]]),.one (mapB vU vI c63),.one (pmap 11 vU c64),.dead,.one (.cells 3 [[.own 10 0 c66.length,.map 5,int c65]]),.dead,.one (.cells 1 [[.imm (.val (.int .u32 a23))]]),.one (prow 11 c66),pool 4 b9 c67,.one (.cells 1 [[.ptr 0 0 0]]),.one (.cells 1 [[.imm (.val (.int .u32 a23))]]),.one (l7 96 [38] as70 bo70 .ready none [(5,none),(9,none)] [.ptr 3 0 0,.ptr 9 0 0])]:b8) st ⟨[],[.one (.cells 3 [(wW start goal 1 l4.length)]),.one (vec 4 e8 l4),.dead,.one (.cells 1 [[.map 15]]),.one (mapB vU vI c63),.one (pmap 11 vU c64),.dead,.one (.cells 3 [[.own 10 0 c66.length,.map 5,int c65]]),.dead,.one (.cells 1 [[.imm (.val (.int .u32 a23))]]),.one (prow 11 c66),pool 4 b9 c67,.one (.cells 1 [[.ptr 0 0 0]]),.one (.cells 1 [[.imm (.val (.int .u32 a23))]]),.one (l7 96 [38] as70 bo70 .ready none [(5,none),(9,none)] [.ptr 3 0 0,.ptr 9 0 0]),mmap 15 2 vU j9 c72]⟩) ?_ ?_ ?_ ?_
    ·try dsimp only
     exact Sub.env ⟨Z,Z,Z,Z,Z,Y⟩
    ·intro t73 c72 hlot73 hltt73 _
     try dsimp only
     refine AWP.q (.u (.F Z Z Z (.nil (b6 (.q (.ad Z hltt73 (.exit (f8 (f8 ⟨Z, ?_⟩)))))))))
     exact Sub.env trivial
    ·intro t73 c72 o hlot73 hltt73 h
     unfold Q7 at h
     try dsimp only at h ⊢
     refine AWP.q (.u (.F Z Z Z (.nil (b6 (.q (.ae Z hltt73 (.skip (b6 (.q (.J (.q ?_)))))))))))
     obtain ⟨ai14,hai14,h⟩:=bind_some h
     refine AWP.u (.j Z Z (S.idxO hai14 Z Z Z Z Z (S.loadOAgg hai14 Z Z Z Z Z Z Z (W.alloc Z Z Z Z (.v Z Z (W.storeAgg Z Z Z Z Z Z Z (.nil (b6 (.q ?_)))))))))
     rcases bft (decide (Go.bits .and .u32 a23 ai14.pre=ai14.pre)) with hb74 | hb74
     ·replace h:=E9 hb74 h
      refine AWP.u (.E Z Z Z Z Z Z (W.fieldAddr Z Z Z Z (.E Z Z Z Z Z Z (.bits Z Z Z (by simp) (W.fieldAddr Z Z Z Z (.E Z Z Z Z Z Z (.ab Z Z Z (.j Z Z (.z Z Z Z hb74 (.j Z Z (.z Z Z Z hb74 (.j Z Z (.z Z Z Z hb74 (W.fieldAddr Z Z Z Z (.z Z Z Z hb74 (.E Z Z Z Z Z Z (.z Z Z Z hb74 (.E Z Z Z Z Z Z (.z Z Z Z hb74 (W.fieldAddr Z Z Z Z (.z Z Z Z hb74 (.E Z Z Z Z Z Z (.z Z Z Z hb74 (.bits Z Z Z (by simp) (.z Z Z Z hb74 (W.fieldAddr Z Z Z Z (.z Z Z Z hb74 (.E Z Z Z Z Z Z (.z Z Z Z hb74 (.bits Z Z Z (by simp) (.z Z Z Z hb74 (W.build Z Z Z Z ?_))))))))))))))))))))))))))))))))
      refine AOps.z Z Z Z hb74 ?_; refine AOps.yieldB (E1:=[(10,.c (.ptr 17 0 0)),(38,.agg [int t73,int ai14.cost,.imm (.val (.int .u32 (Go.bits .or .u32 (Go.bits .andNot .u32 a23 ai14.del) ai14.add)))]),(5,.c (.ptr 3 0 0)),(9,.c (.ptr 9 0 0))]) (σ1:=[.one (.cells 3 [(wW start goal 1 l4.length)]),.one (vec 4 e8 l4),.dead,.one (.cells 1 [[.map 15]]),.one (mapB vU vI c63),.one (pmap 11 vU c64),.dead,.one (.cells 3 [[.own 10 0 c66.length,.map 5,int c65]]),.dead,.one (.cells 1 [[.imm (.val (.int .u32 a23))]]),.one (prow 11 c66),pool 4 b9 c67,.one (.cells 1 [[.ptr 0 0 0]]),.one (.cells 1 [[.imm (.val (.int .u32 a23))]]),.one (l7 96 [38] as70 bo70 .ready none [(5,none),(9,none)] [.ptr 3 0 0,.ptr 9 0 0]),mmap 15 2 vU j9 c72,.one (.cells 4 [[.imm (.val (.int .u32 ai14.pre)),.imm (.val (.int .u32 ai14.add)),.imm (.val (.int .u32 ai14.del)),int ai14.cost]]),.one (.cells 3 [[int t73,int ai14.cost,.imm (.val (.int .u32 (Go.bits .or .u32 (Go.bits .andNot .u32 a23 ai14.del) ai14.add)))]])]) hA70 hB70 Z Z Z Z Z Z Z Z Z Z ?_ ?_
      ·refine AWP.u (W.alloc Z Z Z Z (W.storeAgg Z Z Z Z Z Z Z (.nil ?_)))
       exact ⟨Z,Z⟩
      refine AWP.sub (s':=⟨[(5,.c (.ptr 3 0 0)),(9,.c (.ptr 9 0 0)),(10,.c (.ptr 17 0 0))],[.one (.cells 3 [(wW start goal 1 l4.length)]),.one (vec 4 e8 l4),.dead,.one (.cells 1 [[.map 15]]),.one (mapB vU vI c63),.one (pmap 11 vU c64),.dead,.one (.cells 3 [[.own 10 0 c66.length,.map 5,int c65]]),.dead,.one (.cells 1 [[.imm (.val (.int .u32 a23))]]),.one (prow 11 c66),pool 4 b9 c67,.one (.cells 1 [[.ptr 0 0 0]]),.one (.cells 1 [[.imm (.val (.int .u32 a23))]]),.one (l7 96 [38] as70 bo70 .busy none [(5,none),(9,none)] [.ptr 3 0 0,.ptr 9 0 0]),mmap 15 2 vU j9 c72,.one (.cells 4 [[.imm (.val (.int .u32 ai14.pre)),.imm (.val (.int .u32 ai14.add)),.imm (.val (.int .u32 ai14.del)),int ai14.cost]]),.one (.cells 3 [[int t73,int ai14.cost,.imm (.val (.int .u32 (Go.bits .or .u32 (Go.bits .andNot .u32 a23 ai14.del) ai14.add)))]])]⟩) (Sub.env ⟨Z,Z,Z,Y⟩) (.J ?_)
      obtain ⟨ab51,hab51,h⟩:=bind_some h
      refine AWP.drawEI [11,12,13] mixed Z Z Z ?_
      refine e9.consN Z Z (fun E=>AOps.E Z Z Z Z Z Z .N) Z (.consN Z Z (fun E=>W.fieldAddr Z Z Z Z .N) Z (.consN Z Z (fun E=>AOps.E Z Z Z Z Z Z .N) Z (.consN Z Z (fun E=>AOps.E Z Z Z Z Z Z .N) Z (.consN Z Z (fun E=>W.fieldAddr Z Z Z Z .N) Z (.consN Z Z (fun E=>AOps.E Z Z Z Z Z Z .N) Z (.consN Z Z (fun E=>S.lookupM (fk:=vU) (key:=Go.bits .or .u32 (Go.bits .andNot .u32 a23 ai14.del) ai14.add) G7 Z Z Z Z Z .N) Z (.consN Z Z (fun E=>AOps.E Z Z Z Z Z Z .N) Z (.consN Z Z (fun E=>W.fieldAddr Z Z Z Z .N) Z (.consN Z Z (fun E=>AOps.E Z Z Z Z Z Z .N) Z (.consN Z Z (fun E=>W.build Z Z Z Z .N) Z ?_))))))))))
      apply e9.consE; exact Z; exact Z; intro E
      refine S.lit (f:=j9) (l:=[(⟨a23,ai14.cost⟩:w7)]) (ess:=[[.imm (.val (.int .u32 a23)),int ai14.cost]]) Z Z Z Z Z Z Z ⟨⟨.inl Z,.inl Z,Y⟩,Y⟩ Z Z Z .N
      exact Z
      exact Z
      apply e9.consE; exact Z; exact Z; intro E
      refine S.appendMM (f:=j9) hab51 Z Z Z Z Z (.own Z Z) Z Z Z Z .N
      exact Z
      exact Z
      apply e9.consE (v:=.undef); exact Z; exact Z; intro E
      refine S.updateMM (fk:=vU) (key:=Go.bits .or .u32 (Go.bits .andNot .u32 a23 ai14.del) ai14.add) G7 Z Z Z Z Z .N
      exact Z
      exact Z
      refine e9.done Z ?_ ?_
      ·refine d9.cons Z Z ?_ ?_
       refine b7.go Z Z (fun E=>AOps.E Z Z Z Z Z Z .N) ?_
       refine b7.go Z Z (fun E=>AOps.E Z Z Z Z Z Z .N) ?_
       refine b7.go Z Z (fun E=>AOps.E Z Z Z Z Z Z .N) ?_
       refine b7.skip Z (b7.nil)
       refine d9.cons Z Z ?_ ?_
       refine b7.go Z Z (fun E=>W.fieldAddr Z Z Z Z .N) ?_
       refine b7.go Z Z (fun E=>W.fieldAddr Z Z Z Z .N) ?_
       refine b7.go Z Z (fun E=>W.fieldAddr Z Z Z Z .N) ?_
       refine b7.skip Z (b7.nil)
       refine d9.cons Z Z ?_ ?_
       refine b7.go Z Z (fun E=>AOps.E Z Z Z Z Z Z .N) ?_
       refine b7.go Z Z (fun E=>AOps.E Z Z Z Z Z Z .N) ?_
       refine b7.go Z Z (fun E=>AOps.E Z Z Z Z Z Z .N) ?_
       refine b7.skip Z (b7.nil)
       refine d9.cons Z Z ?_ ?_
       refine b7.go Z Z (fun E=>AOps.E Z Z Z Z Z Z .N) ?_
       refine b7.go Z Z (fun E=>AOps.E Z Z Z Z Z Z .N) ?_
       refine b7.skip Z (b7.skip Z (b7.nil))
       refine d9.cons Z Z ?_ ?_
       refine b7.go Z Z (fun E=>W.fieldAddr Z Z Z Z .N) ?_
       refine b7.go Z Z (fun E=>W.fieldAddr Z Z Z Z .N) ?_
       refine b7.skip Z (b7.skip Z (b7.nil))
       refine d9.cons Z Z ?_ ?_
       refine b7.go Z Z (fun E=>AOps.E Z Z Z Z Z Z .N) ?_
       refine b7.go Z Z (fun E=>AOps.E Z Z Z Z Z Z .N) ?_
       refine b7.skip Z (b7.skip Z (b7.nil))
       refine d9.cons Z Z ?_ ?_
       refine b7.go Z Z (fun E=>S.lookupM (fk:=vU) (key:=Go.bits .or .u32 (Go.bits .andNot .u32 a23 ai14.del) ai14.add) G7 Z Z Z Z Z .N) ?_
       refine b7.go Z Z (fun E=>S.lookupM (fk:=vU) (key:=Go.bits .or .u32 (Go.bits .andNot .u32 a23 ai14.del) ai14.add) G7 Z Z Z Z Z .N) ?_
       refine b7.skip Z (b7.skip Z (b7.nil))
       refine d9.cons Z Z ?_ ?_
       refine b7.go Z Z (fun E=>AOps.E Z Z Z Z Z Z .N) ?_
       refine b7.skip Z (b7.skip Z (b7.skip Z (b7.nil)))
       refine d9.cons Z Z ?_ ?_
       refine b7.go Z Z (fun E=>W.fieldAddr Z Z Z Z .N) ?_
       refine b7.skip Z (b7.skip Z (b7.skip Z (b7.nil)))
       refine d9.cons Z Z ?_ ?_
       refine b7.go Z Z (fun E=>AOps.E Z Z Z Z Z Z .N) ?_
       refine b7.skip Z (b7.skip Z (b7.skip Z (b7.nil)))
       refine d9.cons Z Z ?_ ?_
       refine b7.go Z Z (fun E=>W.build Z Z Z Z .N) ?_
       refine b7.skip Z (b7.skip Z (b7.skip Z (b7.nil)))
       refine d9.skip Z (d9.skip Z (d9.skip Z (d9.nil)))
      dsimp only [l8]
      refine f5 (M5 Z Z (.z Z Z Z hb74 (.not Z Z (.O Z hb74 Z Z (.nil (b6 (.j (env':=[(0,.c (.yld 14)),(2,.c (.ptr 13 0 0)),(9,.c (.own 1 0 l4.length)),(10,.c (int (l4.length:Int))),(11,.c (int t73)),(38,.c (bool false))]) (σ':=[.one (.cells 3 [(wW start goal 1 l4.length)]),.one (vec 4 e8 l4),.dead,.one (.cells 1 [[.map 15]]),.one (mapB vU vI c63),.one (pmap 11 vU c64),.dead,.one (.cells 3 [[.own 10 0 c66.length,.map 5,int c65]]),.dead,.one (.cells 1 [[.imm (.val (.int .u32 a23))]]),.one (prow 11 c66),pool 4 b9 c67,.one (.cells 1 [[.ptr 0 0 0]]),.one (.cells 1 [[.imm (.val (.int .u32 a23))]]),.one (l7 96 [38] as70 bo70 .ready none [(5,none),(9,none)] [.ptr 3 0 0,.ptr 9 0 0]),mmap 15 2 vU j9 (mset c72 (Go.bits .or .u32 (Go.bits .andNot .u32 a23 ai14.del) ai14.add) ab51),.one (.cells 4 [[.imm (.val (.int .u32 ai14.pre)),.imm (.val (.int .u32 ai14.add)),.imm (.val (.int .u32 ai14.del)),int ai14.cost]]),.one (.cells 3 [[int t73,int ai14.cost,.imm (.val (.int .u32 (Go.bits .or .u32 (Go.bits .andNot .u32 a23 ai14.del) ai14.add)))]]),.one (vec 2 j9 [(⟨a23,ai14.cost⟩:w7)])]) (15,[posM c72 (Go.bits .or .u32 (Go.bits .andNot .u32 a23 ai14.del) ai14.add)]) (19,[]) Z Z Z ⟨Z,Z,Z,Z,Z,Z,Y⟩ Z ⟨⟨Z,Z⟩,⟨Blk.im_ok _ _ _,j6 Z⟩,trivial,⟨Z,Z⟩,⟨Z,Z⟩,⟨l0 Z,ac3 Z (pmap_mvR Z) af6⟩,trivial,⟨Z,Z⟩,trivial,⟨Z,Z⟩,⟨j7 Z,ac3 Z (prow_mvR Z) af6⟩,(u6.poolR Z Z),⟨Z,Z⟩,⟨Z,Z⟩,⟨Z,Z⟩,(u6.putMM Z Z Z Z),⟨Z,Z⟩,⟨Z,Z⟩,⟨Blk.im_ok _ _ _,j6 Z⟩,Y⟩ (.condF Z (.skip (f5 (b6 (.u (.add Z Z Z (by omega) (.j Z Z (.nil ?_)))))))))))))))
      obtain rfl:=oi h
      refine b6 (Sub.cut ⟨Z,Z,Z,Z,Z,Y⟩ Z ⟨.one Z,.vec,.dead,.one Z,.one Z,(.one (l0 Z)),.dead,.one Z,.dead,.one Z,(.one (j7 Z)),(.any n3),.one Z,.one Z,.one Z,(.any (mm_ok Z)),Y⟩ Z)
     ·replace h:=F2 hb74 h
      refine AWP.u (.E Z Z Z Z Z Z (W.fieldAddr Z Z Z Z (.E Z Z Z Z Z Z (.bits Z Z Z (by simp) (W.fieldAddr Z Z Z Z (.E Z Z Z Z Z Z (.ab Z Z Z (.j Z Z (.B Z Z Z hb74 (.B Z Z Z hb74 (.B Z Z Z hb74 (.B Z Z Z hb74 (.B Z Z Z hb74 (.B Z Z Z hb74 (.B Z Z Z hb74 (.B Z Z Z hb74 (.B Z Z Z hb74 (.B Z Z Z hb74 (.B Z Z Z hb74 (.B Z Z Z hb74 (.B Z Z Z hb74 (.B Z Z Z hb74 (.U Z hb74 Z Z (.nil (b6 (.condF Z (.skip (f5 (b6 (.u (.add Z Z Z (by omega) (.j Z Z (.nil ?_)))))))))))))))))))))))))))))))))
      obtain rfl:=oi h
      refine b6 (Sub.cut ⟨Z,Z,Z,Z,Z,Y⟩ Z ⟨.one Z,.vec,.dead,.one Z,.one Z,(.one (l0 Z)),.dead,.one Z,.dead,.one Z,(.one (j7 Z)),(.any n3),.one Z,.one Z,.one Z,(.any (mm_ok Z)),Y⟩ Z)
    ·intro e s hq
     obtain ⟨rfl,hs⟩:=hq
     refine ⟨_,hs, ?_⟩
     refine k8 ?_
     obtain rfl:=oi hr70
     exact ⟨⟨[],[.one (.cells 3 [(wW start goal 1 l4.length)]),.one (vec 4 e8 l4),.dead,.one (.cells 1 [[.map 15]]),.one (mapB vU vI c63),.one (pmap 11 vU c64),.dead,.one (.cells 3 [[.own 10 0 c66.length,.map 5,int c65]]),.dead,.one (.cells 1 [[.imm (.val (.int .u32 a23))]]),.one (prow 11 c66),pool 4 b9 c67,.one (.cells 1 [[.ptr 0 0 0]]),.one (.cells 1 [[.imm (.val (.int .u32 a23))]]),.one (l7 96 [38] as70 bo70 .ready none [(5,none),(9,none)] [.ptr 3 0 0,.ptr 9 0 0]),mmap 15 2 vU j9 c72]⟩,Sub.env trivial,Done.normal Z ⟨Z,Z⟩⟩
   ·rintro tt ss ⟨rfl,rfl⟩
    try dsimp only at h ⊢
    refine ae5 Z Z (f5 (f5 (b6 (.u (.add Z Z Z (by omega) (.j Z Z (.nil ?_)))))))
    obtain rfl:=oi h
    refine b6 ((Sub.moveM (env':=[(0,.c (.ptr 0 0 0)),(5,.c (.ptr 3 0 0)),(6,.c (.map 4)),(7,.c (.ptr 7 0 0)),(19,.c (row 1 eU32 l)),(20,.c (int (l.length:Int))),(21,.c (int (t62+1)))]) (σ':=[.one (.cells 3 [(wW start goal 1 l4.length)]),.one (vec 4 e8 l4),mmap 2 2 vU j9 c71,.one (.cells 1 [[.map 2]]),.one (mapB vU vI c63),.one (pmap 11 vU c64),.dead,.one (.cells 3 [[.own 10 0 c66.length,.map 5,int c65]]),.dead,.one (.cells 1 [[.imm (.val (.int .u32 a23))]]),.one (prow 11 c66),pool 4 b9 c67,.one (.cells 1 [[.ptr 0 0 0]]),.one (.cells 1 [[.imm (.val (.int .u32 a23))]]),.dead]) 2 15 Z Z Z ⟨Z,Z,Z,Z,Z,Z,Z,Y⟩ Z ⟨(.one Z Z),(.vec Z),(EntR.mmap Z Z Z),(.one Z Z),(.one Z Z),(.one (l0 Z) (F9 Z Z (m7 fun _=>Z))),.dead,(.one Z Z),.dead,(.one Z Z),(.one (j7 Z) (F9 Z Z (i8 fun _=>Z))),(EntR.pool Z Z),(.one Z Z),(.one Z Z),.dead,Y⟩).trans ((Sub.move (env':=[(0,.c (.ptr 0 0 0)),(5,.c (.ptr 3 0 0)),(6,.c (.map 4)),(7,.c (.ptr 7 0 0)),(19,.c (row 1 eU32 l)),(20,.c (int (l.length:Int))),(21,.c (int (t62+1)))]) (σ':=[.one (.cells 3 [(wW start goal 1 l4.length)]),.one (vec 4 e8 l4),mmap 2 2 vU j9 c71,.one (.cells 1 [[.map 2]]),.one (mapB vU vI c63),.one (pmap 11 vU c64),.dead,.one (.cells 3 [[.own 8 0 c66.length,.map 5,int c65]]),.one (prow 11 c66),.one (.cells 1 [[.imm (.val (.int .u32 a23))]]),.dead,pool 4 b9 c67,.one (.cells 1 [[.ptr 0 0 0]]),.one (.cells 1 [[.imm (.val (.int .u32 a23))]]),.dead]) 8 10 Z Z Z ⟨Z,Z,Z,Z,Z,Z,Z,Y⟩ Z ⟨⟨Z,Z⟩,⟨Blk.im_ok _ _ _,j6 Z⟩,(u6.mmap Z Z Z),⟨Z,Z⟩,⟨Z,Z⟩,⟨l0 Z,y6 Z L5⟩,trivial,⟨Z,Z⟩,⟨j7 Z,y6 Z L9⟩,⟨Z,Z⟩,trivial,(u6.pool Z),⟨Z,Z⟩,⟨Z,Z⟩,trivial,Y⟩).trans ((Sub.moveM (env':=[(0,.c (.ptr 0 0 0)),(5,.c (.ptr 3 0 0)),(6,.c (.map 4)),(7,.c (.ptr 7 0 0)),(19,.c (row 1 eU32 l)),(20,.c (int (l.length:Int))),(21,.c (int (t62+1)))]) (σ':=[.one (.cells 3 [(wW start goal 1 l4.length)]),.one (vec 4 e8 l4),mmap 2 2 vU j9 c71,.one (.cells 1 [[.map 2]]),.one (mapB vU vI c63),.one (pmap 6 vU c64),pool 4 b9 c67,.one (.cells 3 [[.own 8 0 c66.length,.map 5,int c65]]),.one (prow 6 c66),.one (.cells 1 [[.imm (.val (.int .u32 a23))]]),.dead,.dead,.one (.cells 1 [[.ptr 0 0 0]]),.one (.cells 1 [[.imm (.val (.int .u32 a23))]]),.dead]) 6 11 Z Z Z ⟨Z,Z,Z,Z,Z,Z,Z,Y⟩ Z ⟨(.one Z Z),(.vec Z),(EntR.mmap Z Z Z),(.one Z Z),(.one Z Z),(.one (l0 Z) (F9 Z Z (m7 fun _=>Z))),(EntR.pool Z Z),(.one Z Z),(.one (j7 Z) (F9 Z Z (i8 fun _=>Z))),(.one Z Z),.dead,.dead,(.one Z Z),(.one Z Z),.dead,Y⟩).trans (Sub.cut ⟨Z,Z,Z,Z,Z,Z,Z,Y⟩ Z ⟨.one Z,.vec,(.any (mm_ok Z)),.one Z,.one Z,(.one (l0 Z)),(.any n3),.one Z,(.one (j7 Z)),Y⟩ Z))))
 ·intro e s hq
  obtain ⟨rfl,hs⟩:=hq
  refine ⟨_,hs, ?_⟩
  refine k8 (b6 (.q (.J ?_)))
  obtain ⟨c80,ho4,h⟩:=bind_some h
  refine AWP.loopS ho4 (fun (c75,c76,c77,c78,c79)=>⟨[(5,.c (.ptr 3 0 0)),(6,.c (.map 4)),(7,.c (.ptr 7 0 0))],[.one (.cells 3 [(wW start goal 1 l4.length)]),.one (vec 4 e8 l4),mmap 2 2 vU j9 c56,.one (.cells 1 [[.map 2]]),.one (mapB vU vI c75),.one (pmap 6 vU c76),pool 4 b9 c77,.one (.cells 3 [[.own 8 0 c79.length,.map 5,int c78]]),.one (prow 6 c79)]⟩) (fun c80 e st=>e=.exit 4∧Sub (Q3 l start goal l4) st ⟨[(6,.c (.map 4))],[.one (.cells 3 [(wW start goal 1 l4.length)]),.one (vec 4 e8 l4),.dead,.dead,.one (mapB vU vI c80)]⟩) ?_ ?_ ?_
  ·try dsimp only
   exact Sub.env ⟨Z,Z,Z,Y⟩
  ·intro s o h
   obtain ⟨c75,c76,c77,c78,c79⟩:=s
   unfold J7 at h
   try dsimp only at h ⊢
   refine AWP.q (.q ?_)
   obtain ⟨a54,ha54,h⟩:=bind_some h
   refine AWP.u (.j Z Z (.callF (r2:=.c (int (c79.length:Int))) (σ'':=[.one (.cells 3 [(wW start goal 1 l4.length)]),.one (vec 4 e8 l4),mmap 2 2 vU j9 c56,.one (.cells 1 [[.map 2]]),.one (mapB vU vI c75),.one (pmap 6 vU c76),pool 4 b9 c77,.one (.cells 3 [[.own 8 0 c79.length,.map 5,int c78]]),.one (prow 6 c79)]) Z Z Z (FnOk.lend [7,8,5,6] (ae2 ha54) Z Z Z Z Z Z (by exact ⟨(.one Z),(.one (j7 Z)),(.one (l0 Z)),(.any n3),Y⟩) Z (by exact ⟨(.live Z (.one Z)),(.live Z (.one (i8 fun _=>Z))),(.live Z (.one (m7 fun _=>Z))),(.live Z RenE.pool),Y⟩) Z Z (by exact ⟨(.old Z Z Z),(.old Z Z Z),(.old Z Z Z),(.old Z Z Z),(.old Z Z Z),(.new 2 Z Z (.one (m7 fun _=>Z))),(.new 3 Z Z RenE.pool),(.new 0 Z Z (.one Z)),(.new 1 Z Z (.one (i8 fun _=>Z))),Y⟩)) (.gtr Z Z Z (.nil (b6 (.ite Z h (fun hc81 h=> ?_) (fun hc81 h=> ?_)))))))
   ·refine AWP.skip (b6 (.J (.q ?_)))
    obtain ⟨a58,ha58,h⟩:=bind_some h
    refine AWP.u (.j Z Z (.callF (r2:=.tup [.c (.imm (.val (.int .u32 a58.2.2.2.1))),.c (int a58.2.2.2.2.1),.c (bool a58.2.2.2.2.2)]) (σ'':=[.one (.cells 3 [(wW start goal 1 l4.length)]),.one (vec 4 e8 l4),mmap 2 2 vU j9 c56,.one (.cells 1 [[.map 2]]),.one (mapB vU vI c75),.one (pmap 6 vU a58.1),pool 4 b9 a58.2.1,.one (.cells 3 [[.own 9 0 a58.2.2.1.length,.map 5,int c78]]),.dead,.one (prow 6 a58.2.2.1)]) Z Z Z (FnOk.lend [7,8,5,6] (ab9 ha58) Z Z Z Z Z Z (by exact ⟨(.one Z),(.one (j7 Z)),(.one (l0 Z)),(.any n3),Y⟩) Z (by exact ⟨(.live Z (.one Z)),(.live Z (.one (i8 fun _=>Z))),(.live Z (.one (m7 fun _=>Z))),(.live Z RenE.pool),Y⟩) Z Z (by exact ⟨(.old Z Z Z),(.old Z Z Z),(.old Z Z Z),(.old Z Z Z),(.old Z Z Z),(.new 2 Z Z (.one (m7 fun _=>Z))),(.new 3 Z Z RenE.pool),(.new 0 Z Z (.one Z)),.dead,(.new 4 Z Z (.one (i8 fun _=>Z))),Y⟩)) (.j Z Z (.ac Z Z Z (.ac Z Z Z (.ac Z Z Z (.v Z Z (.v Z Z (.v Z Z (.nil (b6 (.q (.u (.E Z Z Z Z Z Z (.j Z Z (S.lookupM (fk:=vU) (key:=a58.2.2.2.1) G7 Z Z Z Z Z (S.lenMM Z Z Z (fun hl65=>.j Z Z (.nil (b6 (.J ?_)))))))))))))))))))))
    obtain ⟨⟨c82,c83,c84,c85,c86⟩,ho5,h⟩:=bind_some h
    try dsimp only at h
    refine AWP.forS ho5 (fun t87 (c82,c83,c84,c85,c86)=>⟨[(5,.c (.ptr 3 0 0)),(6,.c (.map 4)),(7,.c (.ptr 7 0 0)),(12,.c (int a58.2.2.2.2.1)),(64,.c (rowC 2 c56 a58.2.2.2.1)),(65,.c (int ((rowM c56 a58.2.2.2.1).length:Int))),(66,.c (int t87))],[.one (.cells 3 [(wW start goal 1 l4.length)]),.one (vec 4 e8 l4),mmap 2 2 vU j9 c56,.one (.cells 1 [[.map 2]]),.one (mapB vU vI c82),.one (pmap 6 vU c83),pool 4 b9 c84,.one (.cells 3 [[.own 9 0 c86.length,.map 5,int c85]]),.dead,.one (prow 6 c86)]⟩) (fun (c82,c83,c84,c85,c86) e st=>e=.exit 6∧Sub (Q3 l start goal l4) st ⟨[(5,.c (.ptr 3 0 0)),(6,.c (.map 4)),(7,.c (.ptr 7 0 0))],[.one (.cells 3 [(wW start goal 1 l4.length)]),.one (vec 4 e8 l4),mmap 2 2 vU j9 c56,.one (.cells 1 [[.map 2]]),.one (mapB vU vI c82),.one (pmap 6 vU c83),pool 4 b9 c84,.one (.cells 3 [[.own 9 0 c86.length,.map 5,int c85]]),.dead,.one (prow 6 c86)]⟩) ?_ ?_ ?_ ?_
    ·try dsimp only
     exact Sub.env ⟨Z,Z,Z,Z,Z,Z,Z,Y⟩
    ·intro t87 s hlot87 hltt87 _
     obtain ⟨c82,c83,c84,c85,c86⟩:=s
     try dsimp only
     refine AWP.q (.u (.F Z Z Z (.nil (b6 (.q (.ad Z hltt87 (.exit (f8 (f8 ⟨Z, ?_⟩)))))))))
     exact Sub.env ⟨Z,Z,Z,Y⟩
    ·intro t87 s o hlot87 hltt87 h
     obtain ⟨c82,c83,c84,c85,c86⟩:=s
     unfold J4 at h
     try dsimp only at h ⊢
     refine AWP.q (.u (.F Z Z Z (.nil (b6 (.q (.ae Z hltt87 (.skip (b6 ?_))))))))
     obtain ⟨⟨c88,c89,c90,c91,c92⟩,hx93,h⟩:=bind_some h
     refine AWP.seqJ (⟨[(5,.c (.ptr 3 0 0)),(6,.c (.map 4)),(7,.c (.ptr 7 0 0)),(12,.c (int a58.2.2.2.2.1)),(64,.c (rowC 2 c56 a58.2.2.2.1)),(65,.c (int ((rowM c56 a58.2.2.2.1).length:Int))),(66,.c (int t87))],[.one (.cells 3 [(wW start goal 1 l4.length)]),.one (vec 4 e8 l4),mmap 2 2 vU j9 c56,.one (.cells 1 [[.map 2]]),.one (mapB vU vI c88),.one (pmap 12 vU c89),.dead,.one (.cells 3 [[.own 11 0 c91.length,.map 5,int c90]]),.dead,.dead,.dead,.one (prow 12 c91),pool 4 b9 c92]⟩) ?_ ?_
     ·refine AWP.J (.q ?_)
      obtain ⟨a68,ha68,hx93⟩:=bind_some hx93
      refine AWP.u (S.idxMM ha68 Z Z Z Z (S.loadOAgg ha68 Z Z (mm_get Z ha68) Z Z Z Z (W.alloc Z Z Z Z (W.storeAgg Z Z Z Z Z Z Z (.nil (b6 (.q (.u (.j Z Z (W.fieldAddr Z Z Z Z (.E Z Z Z Z Z Z (S.add Z Z Z (.j Z Z (W.fieldAddr Z Z Z Z (.E Z Z Z Z Z Z (W.lookup (fk:=vU) (fv:=vI) (k:=a68.ffrom) (z:=0) G7 Z (fun _=>Z) Z Z Z Z ?_))))))))))))))))
      refine AOps.F Z Z Z (.nil (b6 (.ite Z hx93 (fun hc94 hx93=> ?_) (fun hc94 hx93=> ?_))))
      ·refine AWP.q (.u (.j Z Z (W.fieldAddr Z Z Z Z (.E Z Z Z Z Z Z (.j Z Z (W.fieldAddr Z Z Z Z (.E Z Z Z Z Z Z (S.add Z Z Z (W.mapUpdate (fk:=vU) (fv:=vI) (k:=a68.ffrom) (a:=w64 (a58.2.2.2.2.1+a68.cost)) G7 Z Z Z Z Z (.nil (b6 ?_)))))))))))
       obtain ⟨a93,ha93,hx93⟩:=bind_some hx93
       refine AWP.u (.j Z Z (W.fieldAddr Z Z Z Z (.E Z Z Z Z Z Z (.j Z Z (W.fieldAddr Z Z Z Z (.E Z Z Z Z Z Z (S.add Z Z Z (.callF (r2:=.tup []) (σ'':=[.one (.cells 3 [(wW start goal 1 l4.length)]),.one (vec 4 e8 l4),mmap 2 2 vU j9 c56,.one (.cells 1 [[.map 2]]),.one (mapB vU vI (mset c82 a68.ffrom (w64 (a58.2.2.2.2.1+a68.cost)))),.one (pmap 12 vU a93.1),.dead,.one (.cells 3 [[.own 11 0 a93.2.1.length,.map 5,int (w64 (c85+1))]]),.dead,.dead,.one (.cells 2 [[.imm (.val (.int .u32 a68.ffrom)),int a68.cost]]),.one (prow 12 a93.2.1),pool 4 b9 a93.2.2]) Z Z Z (FnOk.lend [7,9,5,6] (ac8 ha93) Z Z Z Z Z Z (by exact ⟨(.one Z),(.one (j7 Z)),(.one (l0 Z)),(.any n3),Y⟩) Z (by exact ⟨(.live Z (.one Z)),(.live Z (.one (i8 fun _=>Z))),(.live Z (.one (m7 fun _=>Z))),(.live Z RenE.pool),Y⟩) Z Z (by exact ⟨(.old Z Z Z),(.old Z Z Z),(.old Z Z Z),(.old Z Z Z),(.old Z Z Z),(.new 2 Z Z (.one (m7 fun _=>Z))),.dead,(.new 0 Z Z (.one Z)),.dead,.dead,(.old Z Z Z),(.new 4 Z Z (.one (i8 fun _=>Z))),(.new 5 Z Z RenE.pool),Y⟩)) (.nil (f5 ?_))))))))))
       have ej:=Option.some.inj hx93
       simp only [Prod.mk.injEq] at ej
       obtain ⟨ej0,ej1,ej2,ej3,ej4⟩:=ej
       subst ej0
       subst ej1
       subst ej2
       subst ej3
       subst ej4
       refine b6 (Sub.cut ⟨Z,Z,Z,Z,Z,Z,Z,Y⟩ Z ⟨.one Z,.vec,(.any (mm_ok Z)),.one Z,.one Z,(.one (l0 Z)),.dead,.one Z,.dead,.dead,.dead,(.one (j7 Z)),(.any n3),Y⟩ (eOk1 Z (eOk1 Z (eOk1 Z (eOk1 Z (eOk1 (ag6 Z) (eOk1 Z (eOk1 Z Z))))))))
      ·refine AWP.skip (f5 ?_)
       have ej:=Option.some.inj hx93
       simp only [Prod.mk.injEq] at ej
       obtain ⟨ej0,ej1,ej2,ej3,ej4⟩:=ej
       subst ej0
       subst ej1
       subst ej2
       subst ej3
       subst ej4
       refine b6 ((Sub.move (env':=[(5,.c (.ptr 3 0 0)),(6,.c (.map 4)),(7,.c (.ptr 7 0 0)),(12,.c (int a58.2.2.2.2.1)),(64,.c (rowC 2 c56 a58.2.2.2.1)),(65,.c (int ((rowM c56 a58.2.2.2.1).length:Int))),(66,.c (int t87))]) (σ':=[.one (.cells 3 [(wW start goal 1 l4.length)]),.one (vec 4 e8 l4),mmap 2 2 vU j9 c56,.one (.cells 1 [[.map 2]]),.one (mapB vU vI c82),.one (pmap 6 vU c83),pool 4 b9 c84,.one (.cells 3 [[.own 11 0 c86.length,.map 5,int c85]]),.dead,.dead,.one (.cells 2 [[.imm (.val (.int .u32 a68.ffrom)),int a68.cost]]),.one (prow 6 c86)]) 11 9 Z Z Z ⟨Z,Z,Z,Z,rowC_mv (fun _=>Z) Z,Z,Z,Y⟩ (eOk1 Z (eOk1 Z (eOk1 Z (eOk1 Z (eOk1 (ag6 Z) (eOk1 Z (eOk1 Z Z))))))) ⟨⟨Z,Z⟩,⟨Blk.im_ok _ _ _,j6 Z⟩,(u6.mmap Z Z Z),⟨Z,Z⟩,⟨Z,Z⟩,⟨l0 Z,y6 Z L5⟩,(u6.pool Z),⟨Z,Z⟩,trivial,trivial,⟨Z,Z⟩,⟨j7 Z,y6 Z L9⟩,Y⟩).trans ((Sub.moveM (env':=[(5,.c (.ptr 3 0 0)),(6,.c (.map 4)),(7,.c (.ptr 7 0 0)),(12,.c (int a58.2.2.2.2.1)),(64,.c (rowC 2 c56 a58.2.2.2.1)),(65,.c (int ((rowM c56 a58.2.2.2.1).length:Int))),(66,.c (int t87))]) (σ':=[.one (.cells 3 [(wW start goal 1 l4.length)]),.one (vec 4 e8 l4),mmap 2 2 vU j9 c56,.one (.cells 1 [[.map 2]]),.one (mapB vU vI c82),.one (pmap 12 vU c83),.dead,.one (.cells 3 [[.own 11 0 c86.length,.map 5,int c85]]),.dead,.dead,.one (.cells 2 [[.imm (.val (.int .u32 a68.ffrom)),int a68.cost]]),.one (prow 12 c86),pool 4 b9 c84]) 12 6 Z Z Z ⟨Z,Z,Z,Z,rowC_mv (fun _=>Z) Z,Z,Z,Y⟩ (eOk1 Z (eOk1 Z (eOk1 Z (eOk1 Z (eOk1 (ag6 Z) (eOk1 Z (eOk1 Z Z))))))) ⟨(.one Z Z),(.vec Z),(EntR.mmap Z Z Z),(.one Z Z),(.one Z Z),(.one (l0 Z) (F9 Z Z (m7 fun _=>Z))),.dead,(.one Z Z),.dead,.dead,(.one Z Z),(.one (j7 Z) (F9 Z Z (i8 fun _=>Z))),(EntR.pool Z Z),Y⟩).trans (Sub.cut ⟨Z,Z,Z,Z,Z,Z,Z,Y⟩ Z ⟨.one Z,.vec,(.any (mm_ok Z)),.one Z,.one Z,(.one (l0 Z)),.dead,.one Z,.dead,.dead,.dead,(.one (j7 Z)),(.any n3),Y⟩ (eOk1 Z (eOk1 Z (eOk1 Z (eOk1 Z (eOk1 (ag6 Z) (eOk1 Z (eOk1 Z Z))))))))))
     ·try dsimp only at h
      refine AWP.u (.add Z Z Z (by omega) (.j Z Z (.nil ?_)))
      obtain rfl:=oi h
      refine b6 ((Sub.move (env':=[(5,.c (.ptr 3 0 0)),(6,.c (.map 4)),(7,.c (.ptr 7 0 0)),(12,.c (int a58.2.2.2.2.1)),(64,.c (rowC 2 c56 a58.2.2.2.1)),(65,.c (int ((rowM c56 a58.2.2.2.1).length:Int))),(66,.c (int (t87+1)))]) (σ':=[.one (.cells 3 [(wW start goal 1 l4.length)]),.one (vec 4 e8 l4),mmap 2 2 vU j9 c56,.one (.cells 1 [[.map 2]]),.one (mapB vU vI c88),.one (pmap 12 vU c89),.dead,.one (.cells 3 [[.own 9 0 c91.length,.map 5,int c90]]),.dead,.one (prow 12 c91),.dead,.dead,pool 4 b9 c92]) 9 11 Z Z Z ⟨Z,Z,Z,Z,rowC_mv (fun _=>Z) Z,Z,Z,Y⟩ (eOk1 Z (eOk1 Z (eOk1 Z (eOk1 Z (eOk1 (ag6 Z) (eOk1 Z (eOk1 Z Z))))))) ⟨⟨Z,Z⟩,⟨Blk.im_ok _ _ _,j6 Z⟩,(u6.mmap Z Z Z),⟨Z,Z⟩,⟨Z,Z⟩,⟨l0 Z,y6 Z L5⟩,trivial,⟨Z,Z⟩,trivial,⟨j7 Z,y6 Z L9⟩,trivial,trivial,(u6.pool Z),Y⟩).trans ((Sub.moveM (env':=[(5,.c (.ptr 3 0 0)),(6,.c (.map 4)),(7,.c (.ptr 7 0 0)),(12,.c (int a58.2.2.2.2.1)),(64,.c (rowC 2 c56 a58.2.2.2.1)),(65,.c (int ((rowM c56 a58.2.2.2.1).length:Int))),(66,.c (int (t87+1)))]) (σ':=[.one (.cells 3 [(wW start goal 1 l4.length)]),.one (vec 4 e8 l4),mmap 2 2 vU j9 c56,.one (.cells 1 [[.map 2]]),.one (mapB vU vI c88),.one (pmap 6 vU c89),pool 4 b9 c92,.one (.cells 3 [[.own 9 0 c91.length,.map 5,int c90]]),.dead,.one (prow 6 c91),.dead,.dead]) 6 12 Z Z Z ⟨Z,Z,Z,Z,rowC_mv (fun _=>Z) Z,Z,Z,Y⟩ (eOk1 Z (eOk1 Z (eOk1 Z (eOk1 Z (eOk1 (ag6 Z) (eOk1 Z (eOk1 Z Z))))))) ⟨(.one Z Z),(.vec Z),(EntR.mmap Z Z Z),(.one Z Z),(.one Z Z),(.one (l0 Z) (F9 Z Z (m7 fun _=>Z))),(EntR.pool Z Z),(.one Z Z),.dead,(.one (j7 Z) (F9 Z Z (i8 fun _=>Z))),.dead,.dead,Y⟩).trans (Sub.cut ⟨Z,Z,Z,Z,Z,Z,Z,Y⟩ Z ⟨.one Z,.vec,(.any (mm_ok Z)),.one Z,.one Z,(.one (l0 Z)),(.any n3),.one Z,.dead,(.one (j7 Z)),Y⟩ (eOk1 Z (eOk1 Z (eOk1 Z (eOk1 Z (eOk1 (ag6 Z) (eOk1 Z (eOk1 Z Z))))))))))
    ·intro e s hq
     obtain ⟨rfl,hs⟩:=hq
     refine ⟨_,hs, ?_⟩
     refine k8 (f5 ?_)
     obtain rfl:=oi h
     refine b6 ⟨_,Z, ?_⟩
     exact (Sub.move (env':=[(5,.c (.ptr 3 0 0)),(6,.c (.map 4)),(7,.c (.ptr 7 0 0))]) (σ':=[.one (.cells 3 [(wW start goal 1 l4.length)]),.one (vec 4 e8 l4),mmap 2 2 vU j9 c56,.one (.cells 1 [[.map 2]]),.one (mapB vU vI c82),.one (pmap 6 vU c83),pool 4 b9 c84,.one (.cells 3 [[.own 8 0 c86.length,.map 5,int c85]]),.one (prow 6 c86)]) 8 9 Z Z Z ⟨Z,Z,Z,Y⟩ Z ⟨⟨Z,Z⟩,⟨Blk.im_ok _ _ _,j6 Z⟩,(u6.mmap Z Z Z),⟨Z,Z⟩,⟨Z,Z⟩,⟨l0 Z,y6 Z L5⟩,(u6.pool Z),⟨Z,Z⟩,⟨j7 Z,y6 Z L9⟩,Y⟩).trans (Sub.env ⟨Z,Z,Z,Y⟩)
   ·refine AWP.exit (f8 ?_)
    obtain rfl:=oi h
    refine f8 ⟨_,Z,Z, ?_⟩
    exact Sub.cut ⟨Z,Y⟩ Z ⟨.one Z,.vec,.dead,.dead,.one Z,Y⟩ Z
  ·intro e s hq
   obtain ⟨rfl,hs⟩:=hq
   refine ⟨_,hs, ?_⟩
   refine k8 (b6 (.q (.u (.j Z Z (.v Z Z (.nil (b6 (.ret ?_))))))))
   obtain rfl:=oi h
   exact ⟨⟨[(4,.c (.map 4))],[.one (.cells 3 [(wW start goal 1 l4.length)]),.one (vec 4 e8 l4),.dead,.dead,.one (mapB vU vI c80)]⟩,Sub.env ⟨Z,Y⟩,Done.ret Z ⟨Z,Z⟩⟩
theorem au2{t:f9}{r:Int × TFault}(h:T1 t=some r):h9 prog 19 [.agg (tT t)] (.tup [.c (int r.1),.agg [int r.2.code,int r.2.index]]):=by
 unfold h9
 refine FnOk.enter (rs:=[.t 2,.cell 3 29 2]) func19 Z ntmps19 results19 Z ⟨trivial,rv _ Z,Y⟩ (by kernel_rfl) Z ?_
 unfold T1 at h
 refine AWP.q (.u (W.box Z Z Z Z Z Z (.v Z Z (W.alloc Z Z Z Z (.nil (b6 (.q ?_)))))))
 obtain ⟨fk2,hfk2,h⟩:=bind_some h
 rcases fk2 with fk2 | fk2
 ·try dsimp only at h
  refine AWP.u (W.loadAgg Z Z Z Z Z Z Z (.callF (r2:=.tup [.c (.imm (.val (.pointer none))),.c (row 1 eU32 []),.agg [int fk2.1,int fk2.2]]) (σ'':=[.one (.cells 4 [(tT t)]),.one (.cells 2 [[int 0,int 0]]),.dead,.one (.cells 2 [[int fk2.1,int fk2.2]])]) Z Z Z (FnOk.lend [] (FnOk.alt1 (ah9 hfk2)) Z Z Z Z Z Z (by exact trivial) Z (by exact trivial) Z Z (by exact ⟨(.old Z Z Z),(.old Z Z Z),.dead,(.new 1 Z Z (.one Z)),Y⟩)) (.j Z Z (.ac Z Z Z (.ac Z Z Z (.ac Z Z Z (W.alloc Z Z Z Z (.v Z Z (.v Z Z (W.storeAgg Z Z Z Z Z Z Z (.nil (b6 (.q (.q (.u (W.loadAgg Z Z Z Z Z Z Z (W.build Z Z Z Z (.neqP Z Z Z Z Z Z Z (.nil (b6 (.af Z h (fun hc3 h=> ?_) (fun hc3 h=> ?_))))))))))))))))))))))
  ·refine AWP.q (.drawEI [2] mixed Z Z Z ?_)
   refine e9.consN Z Z (fun E=>W.loadAgg Z Z Z Z Z Z Z .N) Z (.consN Z Z (fun E=>AOps.v Z Z .N) Z ?_)
   apply e9.consE (v:=.undef); exact Z; exact Z; intro E
   refine W.storeAgg Z Z Z Z Z Z Z .N
   exact Z
   exact Z
   refine e9.done Z ?_ ?_
   ·refine d9.cons Z Z ?_ ?_
    refine b7.go Z Z (fun E=>W.loadAgg Z Z Z Z Z Z Z .N) ?_
    refine b7.skip Z (b7.nil)
    refine d9.cons Z Z ?_ ?_
    refine b7.go Z Z (fun E=>AOps.v Z Z .N) ?_
    refine b7.skip Z (b7.nil)
    refine d9.skip Z (d9.nil)
   dsimp only [l8]
   refine b6 (.ret (g9 ?_))
   obtain rfl:=oi h
   exact Done.ret Z Z
  ·cases h
 ·try dsimp only at h
  refine AWP.u (W.loadAgg Z Z Z Z Z Z Z (.callF (r2:=.tup [.c (.ptr 6 0 0),.c (row 1 eU32 fk2.2.2.2),.agg [int 0,int 0]]) (σ'':=[.one (.cells 4 [(tT t)]),.one (.cells 2 [[int 0,int 0]]),.dead,.one (.cells 2 [[int 0,int 0]]),.dead,.dead,.one (.cells 3 [[.imm (.val (.int .u32 fk2.1)),.imm (.val (.int .u32 fk2.2.1)),.own 7 0 fk2.2.2.1.length]]),.one (vec 4 e8 fk2.2.2.1)]) Z Z Z (FnOk.lend [] (FnOk.alt2 (ah9 hfk2)) Z Z Z Z Z Z (by exact trivial) Z (by exact trivial) Z Z (by exact ⟨(.old Z Z Z),(.old Z Z Z),.dead,(.new 1 Z Z (.one Z)),.dead,.dead,(.new 4 Z Z (.one Z)),(.new 5 Z Z .vec),Y⟩)) (.j Z Z (.ac Z Z Z (.ac Z Z Z (.ac Z Z Z (W.alloc Z Z Z Z (.v Z Z (.v Z Z (W.storeAgg Z Z Z Z Z Z Z (.nil (b6 (.q (.q (.u (W.loadAgg Z Z Z Z Z Z Z (W.build Z Z Z Z (.neqP Z Z Z Z Z Z Z (.nil (b6 (.af Z h (fun hc3 h=> ?_) (fun hc3 h=> ?_))))))))))))))))))))))
  ·refine AWP.q (.drawEI [2] mixed Z Z Z ?_)
   refine e9.consN Z Z (fun E=>W.loadAgg Z Z Z Z Z Z Z .N) Z (.consN Z Z (fun E=>AOps.v Z Z .N) Z ?_)
   apply e9.consE (v:=.undef); exact Z; exact Z; intro E
   refine W.storeAgg Z Z Z Z Z Z Z .N
   exact Z
   exact Z
   refine e9.done Z ?_ ?_
   ·refine d9.cons Z Z ?_ ?_
    refine b7.go Z Z (fun E=>W.loadAgg Z Z Z Z Z Z Z .N) ?_
    refine b7.skip Z (b7.nil)
    refine d9.cons Z Z ?_ ?_
    refine b7.go Z Z (fun E=>AOps.v Z Z .N) ?_
    refine b7.skip Z (b7.nil)
    refine d9.skip Z (d9.nil)
   dsimp only [l8]
   refine b6 (.ret (g9 ?_))
   obtain rfl:=oi h
   exact Done.ret Z Z
  ·refine AWP.skip (b6 (.q ?_))
   obtain ⟨a19,ha19,a21,ha21,h⟩:=b2 h
   refine AWP.u (.j Z Z (.j Z Z (.callF (r2:=.c (.map 11)) (σ'':=[.one (.cells 4 [(tT t)]),.one (.cells 2 [[int 0,int 0]]),.dead,.one (.cells 2 [[int 0,int 0]]),.dead,.dead,.one (.cells 3 [[.imm (.val (.int .u32 fk2.1)),.imm (.val (.int .u32 fk2.2.1)),.own 7 0 fk2.2.2.1.length]]),.one (vec 4 e8 fk2.2.2.1),.one (.cells 2 [[int 0,int 0]]),.dead,.dead,.one (mapB vU vI a19)]) Z Z Z (FnOk.lend [6,7] (at7 ha19) Z Z Z Z Z Z (by exact ⟨(.one Z),.vec,Y⟩) Z (by exact ⟨(.live Z (.one Z)),(.live Z .vec),Y⟩) Z Z (by exact ⟨(.old Z Z Z),(.old Z Z Z),.dead,(.old Z Z Z),.dead,.dead,(.new 0 Z Z (.one Z)),(.new 1 Z Z .vec),(.old Z Z Z),.dead,.dead,(.new 4 Z Z (.one Z)),Y⟩)) (.j Z Z (.callF (r2:=.c (.imm (.val (.int .u32 fk2.1)))) (σ'':=[.one (.cells 4 [(tT t)]),.one (.cells 2 [[int 0,int 0]]),.dead,.one (.cells 2 [[int 0,int 0]]),.dead,.dead,.one (.cells 3 [[.imm (.val (.int .u32 fk2.1)),.imm (.val (.int .u32 fk2.2.1)),.own 7 0 fk2.2.2.1.length]]),.one (vec 4 e8 fk2.2.2.1),.one (.cells 2 [[int 0,int 0]]),.dead,.dead,.one (mapB vU vI a19)]) Z Z Z (FnOk.lend [6,7] (Q0 ha21) Z Z Z Z Z Z (by exact ⟨(.one Z),.vec,Y⟩) Z (by exact ⟨(.live Z (.one Z)),(.live Z .vec),Y⟩) Z Z (by exact ⟨(.old Z Z Z),(.old Z Z Z),.dead,(.old Z Z Z),.dead,.dead,(.new 0 Z Z (.one Z)),(.new 1 Z Z .vec),(.old Z Z Z),.dead,.dead,(.old Z Z Z),Y⟩)) (W.lookup (fk:=vU) (fv:=vI) (k:=fk2.1) (z:=0) G7 Z (fun _=>Z) Z Z Z Z ?_))))))
   refine W.build Z Z Z Z (.v Z Z (W.storeAgg Z Z Z Z Z Z Z (.nil (b6 (.ret ?_)))))
   obtain rfl:=oi h
   exact Done.ret Z Z
theorem al2{t:f9}{r:Bool}(h:J2 t=some r):h9 prog 7 [.agg (tT t)] (.c (bool r)):=by
 unfold h9
 refine FnOk.enter (rs:=[.t 2]) func7 Z ntmps7 results7 Z ⟨trivial,Y⟩ (by kernel_rfl) Z ?_
 unfold J2 at h
 refine AWP.q (.u (W.box Z Z Z Z Z Z (.v Z Z (.nil (b6 (.q ?_))))))
 obtain ⟨a12,ha12,h⟩:=bind_some h
 refine AWP.u (W.loadAgg Z Z Z Z Z Z Z (W.fieldAddr Z Z Z Z (.E Z Z Z Z Z Z (S.lit (f:=i4) (l:=[t.goal]) (ess:=[[row 1 intI t.goal]]) Z Z Z Z Z Z Z ⟨⟨.inl Z,Y⟩,Y⟩ Z Z Z (.frzV (id:=1) (l:=[t.goal]) (env2:=[(1,.c (.ptr 0 0 0)),(8,.agg (tT t)),(11,.c (row 1 i4 [t.goal]))]) (σ2:=[.one (.cells 4 [(tT t)]),.dead]) Z Z (by exact ⟨⟨_,Z,.inl ⟨Z,Z⟩⟩,⟨_,Z,⟨.inl ⟨Z,Z⟩,.inl ⟨Z,Z⟩,.inl ⟨Z,Z⟩,.inl ⟨Z,Z⟩,Y⟩⟩,⟨_,Z,.inr ⟨_,Z,Z,Z⟩⟩,Y⟩) Z (by exact ⟨⟨Z,.inl ⟨Z,Z⟩,.inl ⟨Z,Z⟩,.inl ⟨Z,Z⟩,.inl ⟨Z,Z⟩,Y⟩,trivial,Y⟩) (.aa Z Z Z Z (h9.nil (by exact ⟨⟨(.inl Z),(.inl Z),(.inl Z),(.inl Z),Y⟩,(.inl Z),(.inr ⟨Z,_,Z⟩),Y⟩) (V9 ha12)) Z (.j Z Z (.ac Z Z Z (.ac Z Z Z (W.alloc Z Z Z Z (.v Z Z (W.storeAgg Z Z Z Z Z Z Z (.nil (b6 (.q ?_)))))))))))))))
 obtain ⟨a17,ha17,h⟩:=bind_some h
 refine AWP.u (W.loadAgg Z Z Z Z Z Z Z (.aa Z Z Z Z (au2 ha17) Z (.j Z Z (.ac Z Z Z (.ac Z Z Z (W.alloc Z Z Z Z (.v Z Z (W.storeAgg Z Z Z Z Z Z Z (.nil (b6 (.q (.seqJ (⟨[(3,.c (row 2 u4 a12.1)),(4,.c (.ptr 2 0 0)),(5,.c (int a17.1)),(6,.c (.ptr 3 0 0)),(27,.c (bool ((!(decide (a12.2.code=0))) || (!(decide (a17.2.code=0))))))],[.one (.cells 4 [(tT t)]),.dead,.one (.cells 2 [[int a12.2.code,int a12.2.index]]),.one (.cells 2 [[int a17.2.code,int a17.2.index]])]⟩) ?_ ?_))))))))))))
 ·rcases bft (!(decide (a12.2.code=0))) with hb1 | hb1
  ·refine AWP.u (W.fieldAddr Z Z Z Z (.E Z Z Z Z Z Z (.neq Z Z Z (.j Z Z (.B Z Z Z hb1 (.B Z Z Z hb1 (.B Z Z Z hb1 (.O Z hb1 Z Z (.nil (b6 ?_))))))))))
   simp only [X4 hb1,or_t hb1,Bool.false_or,Bool.true_or,Bool.false_and,Bool.true_and]
   exact Sub.env ⟨Z,Z,Z,Z,Z,Y⟩
  ·refine AWP.u (W.fieldAddr Z Z Z Z (.E Z Z Z Z Z Z (.neq Z Z Z (.j Z Z (.z Z Z Z hb1 (W.fieldAddr Z Z Z Z (.z Z Z Z hb1 (.E Z Z Z Z Z Z (.z Z Z Z hb1 (.neq Z Z Z (.U Z hb1 Z Z (.nil (b6 ?_)))))))))))))
   simp only [S0 hb1,or_f hb1,Bool.false_or,Bool.true_or,Bool.false_and,Bool.true_and]
   exact Sub.env ⟨Z,Z,Z,Z,Z,Y⟩
 ·refine AWP.af Z h (fun hc2 h=> ?_) (fun hc2 h=> ?_)
  ·obtain ⟨t3,hx4,h⟩:=bind_some h
   refine AWP.seqJ (⟨[(2,.c (bool t3))],[]⟩) ?_ ?_
   ·rcases bft ((decide (a12.2.code=a17.2.code)) && (decide (a12.2.index=a17.2.index))) with hb5 | hb5
    ·replace hx4:=iteBT hb5 hx4
     obtain ⟨a32,ha32,hx4⟩:=bind_some hx4
     refine AWP.u (W.loadAgg Z Z Z Z Z Z Z (W.loadAgg Z Z Z Z Z Z Z (.eqlP Z Z Z Z Z Z Z (.j Z Z (.z Z Z Z hb5 (.aa Z Z Z Z (aj3 ha32) Z (.O Z hb5 Z Z (.v Z Z (.nil ?_)))))))))
     obtain rfl:=oi hx4
     refine b6 (Sub.cut ⟨Z,Y⟩ Z trivial Z)
    ·replace hx4:=iteBF hb5 hx4
     refine AWP.u (W.loadAgg Z Z Z Z Z Z Z (W.loadAgg Z Z Z Z Z Z Z (.eqlP Z Z Z Z Z Z Z (.j Z Z (.B Z Z Z hb5 (.U Z hb5 Z Z (.v Z Z (.nil ?_))))))))
     obtain rfl:=oi hx4
     refine b6 (Sub.cut ⟨Z,Y⟩ Z trivial Z)
   ·refine AWP.ret (g9 ?_)
    obtain rfl:=oi h
    exact Done.ret Z Z
  ·refine AWP.skip (b6 ?_)
   obtain ⟨t6,hx7,h⟩:=bind_some h
   refine AWP.seqJ (⟨[(2,.c (bool t6))],[]⟩) ?_ ?_
   ·obtain ⟨a39,ha39,hx7⟩:=bind_some hx7
    rcases bft (a39) with hb8 | hb8
    ·replace hx7:=iteBT hb8 hx7
     obtain ⟨a41,ha41,hx7⟩:=bind_some hx7
     refine AWP.u (.j Z Z (.j Z Z (.j Z Z (.buildA Z Z Z Z (S.lit (f:=u4) (l:=[(a17.1,a17.1)]) (ess:=[[int a17.1,int a17.1]]) Z Z Z Z Z Z Z ⟨⟨.inl Z,.inl Z,Y⟩,Y⟩ Z Z Z (.callL Z Z (.cons (.c .imm) (.cons (.c (.own Z Z)) .nil)) Z (S5 ha39) Z (.j Z Z (.z Z Z Z hb8 (.aa Z Z Z Z (aj3 ha41) Z (.O Z hb8 Z Z (.v Z Z (.nil ?_))))))))))))
     obtain rfl:=oi hx7
     refine b6 (Sub.cut ⟨Z,Y⟩ Z trivial Z)
    ·replace hx7:=iteBF hb8 hx7
     refine AWP.u (.j Z Z (.j Z Z (.j Z Z (.buildA Z Z Z Z (S.lit (f:=u4) (l:=[(a17.1,a17.1)]) (ess:=[[int a17.1,int a17.1]]) Z Z Z Z Z Z Z ⟨⟨.inl Z,.inl Z,Y⟩,Y⟩ Z Z Z (.callL Z Z (.cons (.c .imm) (.cons (.c (.own Z Z)) .nil)) Z (S5 ha39) Z (.j Z Z (.B Z Z Z hb8 (.U Z hb8 Z Z (.v Z Z (.nil ?_)))))))))))
     obtain rfl:=oi hx7
     refine b6 (Sub.cut ⟨Z,Y⟩ Z trivial Z)
   ·refine AWP.ret ?_
    obtain rfl:=oi h
    exact Done.ret Z Z
end Ab
end
section
namespace Ab
open Go
theorem P0{α:Type}{l:List α}{k:Nat}:ix l (k:Int)=l[k]? :=by simp [ix]
theorem m4{α:Type}{l:List α}{i:Int}(h0:0≤i)(h1:i<l.length):∃ a,ix l i=some a∧l[i.toNat]? =some a:=by
 have h:i.toNat<l.length:=by omega
 exact ⟨l[i.toNat],by simp [ix,h0,h],by simp [h]⟩
theorem p9{α:Type}{l:List α}{i:Int}{a:α}(h:ix l i=some a):0≤i∧i<l.length∧l[i.toNat]? =some a:=by
 unfold ix at h
 split at h
 ·have:=(List.getElem?_eq_some_iff.1 h).1
  exact ⟨by assumption,by omega,h⟩
 ·cases h
theorem v7{n:Int}(h1: -9223372036854775808≤n)(h2:n≤9223372036854775807):w64 n=n:=w64_eq ⟨h1,h2⟩
theorem forN_inv{S:Type}{body:Int→S→Option S}(P:Int→S→Prop):∀ (k:Nat) (i:Int) (s:S),P i s→
  (∀ j s,i≤j→j<i+k→P j s→∃ s',body j s=some s'∧P (j+1) s')→∃ s',forN body k i s=some s'∧P (i+k) s'
 | 0,i,s,h,_=>⟨s,rfl,by simpa using h⟩
 | k+1,i,s,h,hb=>by
  obtain ⟨s1,h1,h2⟩:=hb i s (Int.le_refl _) (by omega) h
  obtain ⟨s2,h3,h4⟩:=forN_inv P k (i+1) s1 h2 (fun j s g1 g2=>hb j s (by omega) (by omega))
  exact ⟨s2,by simp only [forN,h1]; exact h3,by rw [show i+((k+1:Nat):Int)=i+1+k by omega]; exact h4⟩
theorem F4{S:Type}{body:Int→S→Option S}{n:Int}(P:Int→S→Prop){s:S}(hn:0≤n)(h0:P 0 s)
  (hb:∀ j s,0≤j→j<n→P j s→∃ s',body j s=some s'∧P (j+1) s'):∃ s',forR 0 n body s=some s'∧P n s':=by
 obtain ⟨s',h1,h2⟩:=forN_inv P (n - 0).toNat 0 s h0 (fun j s g1 g2=>hb j s g1 (by omega))
 exact ⟨s',h1,by rwa [show (0:Int)+((n - 0).toNat:Int)=n by omega] at h2⟩
theorem rngN_inv{S O:Type}{body:Int→S→Option (S ⊕ O)}(P:Int→S→Prop)(Q:O→Prop):∀ (k:Nat) (i:Int) (s:S),P i s→
  (∀ j s,i≤j→j<i+k→P j s→(∃ s',body j s=some (.inl s')∧P (j+1) s')∨∃ o,body j s=some (.inr o)∧Q o)→
  (∃ s',rngN body k i s=some (.inl s')∧P (i+k) s')∨∃ o,rngN body k i s=some (.inr o)∧Q o
 | 0,i,s,h,_=>.inl ⟨s,rfl,by simpa using h⟩
 | k+1,i,s,h,hb=>by
  rcases hb i s (Int.le_refl _) (by omega) h with ⟨s1,h1,h2⟩ | ⟨o,h1,h2⟩
  ·rcases rngN_inv P Q k (i+1) s1 h2 (fun j s g1 g2=>hb j s (by omega) (by omega)) with ⟨s2,h3,h4⟩ | ⟨o,h3,h4⟩
   ·exact .inl ⟨s2,by simp only [rngN,h1]; exact h3,by rw [show i+((k+1:Nat):Int)=i+1+k by omega]; exact h4⟩
   ·exact .inr ⟨o,by simp only [rngN,h1]; exact h3,h4⟩
  ·exact .inr ⟨o,by simp only [rngN,h1],h2⟩
theorem ap9{S O:Type}{body:Int→S→Option (S ⊕ O)}{n:Int}(P:Int→S→Prop)(Q:O→Prop){s:S}(hn:0≤n)(h0:P 0 s)
  (hb:∀ j s,0≤j→j<n→P j s→(∃ s',body j s=some (.inl s')∧P (j+1) s')∨∃ o,body j s=some (.inr o)∧Q o):
  (∃ s',rngX 0 n body s=some (.inl s')∧P n s')∨∃ o,rngX 0 n body s=some (.inr o)∧Q o:=by
 rcases rngN_inv P Q (n - 0).toNat 0 s h0 (fun j s g1 g2=>hb j s g1 (by omega)) with ⟨s',h1,h2⟩ | h
 ·exact .inl ⟨s',h1,by rwa [show (0:Int)+((n - 0).toNat:Int)=n by omega] at h2⟩
 ·exact .inr h
theorem LoopN_inv{S O:Type}{body:S→Option (S ⊕ O)}(P:S→Prop)(Q:O→Prop)(μ:S→Nat)(hb:∀ s,P s→(∃ s',body s=some (.inl s')∧P s'∧μ s'<μ s)∨∃ o,body s=some (.inr o)∧Q o):
  ∀ (k:Nat) (s:S),μ s<k→P s→∃ o,V1 body k s=some o∧Q o
 | 0,s,h,_=>by omega
 | k+1,s,h,hs=>by
  rcases hb s hs with ⟨s',h1,h2,h3⟩ | ⟨o,h1,h2⟩
  ·obtain ⟨o,g1,g2⟩:=LoopN_inv P Q μ hb k s' (by omega) h2
   exact ⟨o,by simp only [V1,h1]; exact g1,g2⟩
  ·exact ⟨o,by simp only [V1,h1],h2⟩
theorem P9{S O:Type}{body:S→Option (S ⊕ O)}(P:S→Prop)(Q:O→Prop)(μ:S→Nat){s:S}(hs:P s)
  (hb:∀ s,P s→(∃ s',body s=some (.inl s')∧P s'∧μ s'<μ s)∨∃ o,body s=some (.inr o)∧Q o):∃ o,Loop body s=some o∧Q o:=by
 obtain ⟨o,h1,h2⟩:=LoopN_inv P Q μ hb (μ s+1) s (by omega) hs
 exact ⟨o,Loop_iff.2 ⟨_,h1⟩,h2⟩
/-! ### Two loops that do the same -/
theorem rngN_eq{S O:Type}{b1 b2:Int→S→Option (S ⊕ O)}(P:Int→S→Prop):∀ (k:Nat) (i:Int) (s:S),P i s→
  (∀ j s,i≤j→j<i+k→P j s→b1 j s=b2 j s∧b1 j s ≠ none∧∀ s',b1 j s=some (.inl s')→P (j+1) s')→
  rngN b1 k i s=rngN b2 k i s∧rngN b1 k i s ≠ none∧∀ s',rngN b1 k i s=some (.inl s')→P (i+k) s'
 | 0,i,s,h,_=>⟨rfl,by simp [rngN],fun s' hs=>by simp only [rngN,Option.some.injEq,Sum.inl.injEq] at hs; subst hs; simpa using h⟩
 | k+1,i,s,h,hb=>by
  obtain ⟨h1,h2,h3⟩:=hb i s (Int.le_refl _) (by omega) h
  simp only [rngN]
  rw [← h1]
  cases hc:b1 i s with
  | none=>exact absurd hc h2
  | some x=>
   cases x with
   | inr o=>exact ⟨rfl,by simp,fun s' hs=>by simp at hs⟩
   | inl s1=>
    dsimp only
    have:=rngN_eq (b1:=b1) (b2:=b2) P k (i+1) s1 (h3 s1 hc) (fun j s g1 g2=>hb j s (by omega) (by omega))
    rwa [show i+1+(k:Int)=i+((k+1:Nat):Int) by omega] at this
theorem rngX_eq{S O:Type}{b1 b2:Int→S→Option (S ⊕ O)}{n:Int}(P:Int→S→Prop){s:S}(hn:0≤n)(h0:P 0 s)
  (hb:∀ j s,0≤j→j<n→P j s→b1 j s=b2 j s∧b1 j s ≠ none∧∀ s',b1 j s=some (.inl s')→P (j+1) s'):
  rngX 0 n b1 s=rngX 0 n b2 s∧rngX 0 n b1 s ≠ none∧∀ s',rngX 0 n b1 s=some (.inl s')→P n s':=by
 have:=rngN_eq P (n - 0).toNat 0 s h0 (fun j s g1 g2=>hb j s g1 (by omega))
 rwa [show (0:Int)+((n - 0).toNat:Int)=n by omega] at this
end Ab
end
section
namespace Ab
open Go
noncomputable def dec(p:Prop):Bool:=@decide p (Classical.propDecidable p)
@[simp] theorem m5 {p:Prop}:dec p=true↔p:=by simp [dec]
@[simp] theorem dec_false {p:Prop}:dec p=false↔¬ p:=by simp [dec]
@[simp] theorem L4 {p:Prop}:(!dec p)=dec (¬ p):=by by_cases h:p<;>simp [dec,h]
theorem aq3{p:Prop}[Decidable p]:decide p=dec p:=by by_cases h:p<;>simp [dec,h]
theorem m9{p:Prop}(h:p):dec p=true:=m5.2 h
theorem w9{p:Prop}(h:¬ p):dec p=false:=dec_false.2 h
theorem O5{p q:Prop}(h:p↔q):dec p=dec q:=by rw [propext h]
theorem dec_and{p q:Prop}:(dec p && dec q)=dec (p∧q):=by by_cases h:p<;>by_cases g:q<;>simp [dec,h,g]
theorem dec_or{p q:Prop}:(dec p || dec q)=dec (p∨q):=by by_cases h:p<;>by_cases g:q<;>simp [dec,h,g]
theorem ifP{α:Type}{p:Prop}{a b:α}(h:p):(if dec p=true then a else b)=a:=if_pos (m9 h)
theorem ifN{α:Type}{p:Prop}{a b:α}(h:¬ p):(if dec p=true then a else b)=b:=if_neg fun g=>h (m5.1 g)
theorem ifNN{α:Type}{p:Prop}{a b:α}(h:p):(if dec (¬ p)=true then a else b)=b:=ifN (not_not_intro h)
theorem ix_ltN{α:Type}{l:List α}{k:Nat}(h:k<l.length):ix l (k:Int)=some l[k]:=by rw [P0]; simp [h]
theorem w6{α:Type}{l:List α}{i:Int}{a:α}(h:ix l i=some a):a ∈ l:=List.mem_of_getElem? (p9 h).2.2
theorem D3{α:Type}{l:List α}{a:α}(h:a ∈ l):∃ i:Int,0≤i∧i<l.length∧ix l i=some a:=by
 obtain ⟨k,hk⟩:=List.getElem?_of_mem h
 exact ⟨k,by omega,by have:=(List.getElem?_eq_some_iff.1 hk).1; omega,by rw [P0,hk]⟩
theorem ae8{α:Type}{l:List α}{i j:Int}{x:α}(h0:0≤i)(h1:i<l.length)(hj:0≤j):ix (l.set i.toNat x) j=if j=i then some x else ix l j:=by
 simp only [ix,hj,if_true,List.getElem?_set]
 by_cases h:j=i
 ·subst h; rw [if_pos rfl,if_pos rfl,if_pos (by omega)]
 ·rw [if_neg h,if_neg (by omega)]
theorem L3{O:Type}{body:Int→Unit→Option (Unit ⊕ O)}{n:Int}(g:Int→Option O)(hn:0≤n)
  (hb:∀ j,0≤j→j<n→(∀ i,0≤i→i<j→g i=none)→body j ()=some (match g j with | none=>.inl () | some o=>.inr o)):
  (rngX 0 n body ()=some (.inl ())∧∀ j,0≤j→j<n→g j=none)∨∃ j o,0≤j∧j<n∧g j=some o∧(∀ i,0≤i→i<j→g i=none)∧rngX 0 n body ()=some (.inr o):=by
 rcases ap9 (body:=body) (n:=n) (fun j _=>∀ i,0≤i→i<j→g i=none) (fun o=>∃ j,0≤j∧j<n∧g j=some o∧∀ i,0≤i→i<j→g i=none) (s:=()) hn (fun i h1 h2=>by omega) (fun j s h0 h1 hP=>by
  have:=hb j h0 h1 hP
  cases hg:g j with
  | none=>rw [hg] at this; exact .inl ⟨(),this,fun i h2 h3=>by
    rcases Int.lt_or_eq_of_le (Int.le_of_lt_add_one h3) with h | h
    ·exact hP i h2 h
    ·rw [h,hg]⟩
  | some o=>rw [hg] at this; exact .inr ⟨o,this,j,h0,h1,hg,hP⟩) with ⟨s',h1,h2⟩ | ⟨o,h1,j,h2,h3,h4,h5⟩
 ·exact .inl ⟨h1,h2⟩
 ·exact .inr ⟨j,o,h2,h3,h4,h5,h1⟩
theorem rng_list{α O:Type}{l:List α}{body:Int→Unit→Option (Unit ⊕ O)}(q:α→Prop)(b:O)
  (hb:∀ j a,ix l j=some a→(q a∧body j ()=some (.inl ()))∨(¬ q a∧body j ()=some (.inr b))):
  rngX 0 (l.length:Int) body ()=some (if dec (∀ a ∈ l,q a)=true then .inl () else .inr b):=by
 rcases L3 (body:=body) (n:=(l.length:Int)) (fun j=>match ix l j with | some a=>if dec (q a)=true then none else some b | none=>none) (by omega) (fun j h0 h1 _=>by
  obtain ⟨a,h2,_⟩:=m4 h0 h1
  rw [h2]
  rcases hb j a h2 with ⟨h3,h4⟩ | ⟨h3,h4⟩
  ·rw [h4]; simp [h3]
  ·rw [h4]; simp [h3]) with ⟨h1,h2⟩ | ⟨j,o,h0,h1,h2,_,h4⟩
 ·rw [h1,if_pos]
  rw [m5]
  intro a ha
  obtain ⟨i,g1,g2,g3⟩:=D3 ha
  have:=h2 i g1 g2
  rw [g3] at this
  simpa using this
 ·rw [h4]
  obtain ⟨a,g1,_⟩:=m4 h0 h1
  rw [g1] at h2
  simp only [m5] at h2
  split at h2
  ·cases h2
  ·rename_i hq
   cases h2
   rw [if_neg]
   rw [m5]
   exact fun h=>hq (m9 (h a (w6 g1)))
abbrev Inc(l:List Int):Prop:=l.Pairwise (· < ·)
theorem inc_of_adj:∀ {l:List Int},(∀ (k:Nat) a b,l[k]? =some a→l[k+1]? =some b→a<b)→Inc l
 | [],_=>.nil
 | [_],_=>by simp
 | a::b::l,h=>by
  have ih:Inc (b::l):=inc_of_adj fun k x y h1 h2=>h (k+1) x y (by simpa using h1) (by simpa using h2)
  have hab:a<b:=h 0 a b rfl rfl
  refine List.pairwise_cons.2 ⟨fun c hc=> ?_,ih⟩
  rcases List.mem_cons.1 hc with rfl | hc
  ·exact hab
  ·exact Int.lt_trans hab ((List.pairwise_cons.1 ih).1 c hc)
theorem Inc.get{l:List Int}(h:Inc l){i j:Nat}{a b:Int}(hi:l[i]? =some a)(hj:l[j]? =some b)(hij:i<j):a<b:=by
 obtain ⟨h1,rfl⟩:=List.getElem?_eq_some_iff.1 hi
 obtain ⟨h2,rfl⟩:=List.getElem?_eq_some_iff.1 hj
 exact List.pairwise_iff_getElem.1 h i j h1 h2 hij
theorem Inc.ext:∀ {l m:List Int},Inc l→Inc m→(∀ x,x ∈ l↔x ∈ m)→l=m
 | [],[],_,_,_=>rfl
 | [],b::m,_,_,h=>absurd ((h b).2 (by simp)) (by simp)
 | a::l,[],_,_,h=>absurd ((h a).1 (by simp)) (by simp)
 | a::l,b::m,hl,hm,h=>by
  obtain ⟨l1,l2⟩:=List.pairwise_cons.1 hl
  obtain ⟨m1,m2⟩:=List.pairwise_cons.1 hm
  have hab:a=b:=by
   rcases List.mem_cons.1 ((h a).1 (by simp)) with e | e
   ·exact e
   ·rcases List.mem_cons.1 ((h b).2 (by simp)) with e' | e'
    ·exact e'.symm
    ·have:=l1 b e'; have:=m1 a e; omega
  subst hab
  rw [Inc.ext l2 m2 fun x=>⟨fun hx=> ?_,fun hx=> ?_⟩]
  ·rcases List.mem_cons.1 ((h x).1 (by simp [hx])) with e | e
   ·have:=l1 x hx; omega
   ·exact e
  ·rcases List.mem_cons.1 ((h x).2 (by simp [hx])) with e | e
   ·have:=m1 x hx; omega
   ·exact e
theorem Inc.filter{l:List Int}(h:Inc l)(p:Int→Bool):Inc (l.filter p):=List.Pairwise.filter p h
def nums(lo:Int):Nat→List Int
 | 0=>[]
 | k+1=>lo::nums (lo+1) k
theorem W1{x:Int}:∀ {k:Nat} {lo:Int},x ∈ nums lo k↔lo≤x∧x<lo+k
 | 0,lo=>by simp [nums]
 | k+1,lo=>by
  rw [nums,List.mem_cons,W1 (k:=k)]
  omega
theorem aq4:∀ (k:Nat) (lo:Int),Inc (nums lo k)
 | 0,_=>.nil
 | k+1,lo=>List.pairwise_cons.2 ⟨fun x hx=>by have:=W1.1 hx; omega,aq4 k (lo+1)⟩
theorem len_nums:∀ (k:Nat) (lo:Int),(nums lo k).length=k
 | 0,_=>rfl
 | k+1,lo=>by simp [nums,len_nums k]
noncomputable def G5(p:Int→Prop)(n:Int):List Int:=(nums 0 n.toNat).filter fun x=>dec (p x)
theorem R8{p:Int→Prop}{n x:Int}:x ∈ G5 p n↔0≤x∧x<n∧p x:=by
 rw [G5,List.mem_filter,W1,m5]
 constructor
 ·rintro ⟨⟨h1,h2⟩,h3⟩; exact ⟨h1,by omega,h3⟩
 ·rintro ⟨h1,h2,h3⟩; exact ⟨⟨h1,by omega⟩,h3⟩
theorem an3(p:Int→Prop)(n:Int):Inc (G5 p n):=(aq4 _ _).filter _
theorem setOf_congr{p q:Int→Prop}{n:Int}(h:∀ x,0≤x→x<n→(p x↔q x)):G5 p n=G5 q n:=by
 refine List.filter_congr fun x hx=>O5 ?_
 have:=W1.1 hx
 exact h x (by omega) (by omega)
def SetN(l:List Int)(n:Int):Prop:=Inc l∧∀ x ∈ l,0≤x∧x<n
theorem ar2(p:Int→Prop)(n:Int):SetN (G5 p n) n:=⟨an3 p n,fun x hx=>by have:=R8.1 hx; exact ⟨this.1,this.2.1⟩⟩
theorem SetN.eq{l:List Int}{n:Int}(h:SetN l n):l=G5 (· ∈ l) n:=
 h.1.ext (an3 _ _) fun x=>⟨fun hx=>R8.2 ⟨(h.2 x hx).1,(h.2 x hx).2,hx⟩,fun hx=>(R8.1 hx).2.2⟩
theorem SetN.eq_of{l:List Int}{n:Int}(h:SetN l n){p:Int→Prop}(hp:∀ x,0≤x→x<n→(x ∈ l↔p x)):l=G5 p n:=
 h.eq.trans (setOf_congr hp)
theorem SetN.len{l:List Int}{n:Int}(h:SetN l n):l.length≤n.toNat:=by
 rw [h.eq,G5]
 exact Nat.le_trans (List.length_filter_le _ _) (Nat.le_of_eq (len_nums _ _))
theorem setN_nil(n:Int):SetN [] n:=⟨.nil,by simp⟩
theorem forR_filter{α:Type}{l:List α}{b:Nat}{body:Int→List α→Option (List α)}(q:α→Prop)
  (hb:∀ j a c,ix l j=some a→(q a→body j c=app b c [a])∧(¬ q a→body j c=some c)) (c0:List α) (hl:(c0.length+l.length) * b≤140737488355328):
  forR 0 (l.length:Int) body c0=some (c0++l.filter fun a=>dec (q a)):=by
 obtain ⟨s',h1,h2⟩:=F4 (body:=body) (n:=(l.length:Int)) (s:=c0) (fun j c=>c=c0++(l.take j.toNat).filter fun a=>dec (q a)) (by omega) (by simp) (fun j c h0 h1 hP=>by
  obtain ⟨a,g1,g2⟩:=m4 h0 h1
  have e:(j+1).toNat=j.toNat+1:=by omega
  have ht:l.take (j+1).toNat=l.take j.toNat++[a]:=by rw [e,List.take_add_one,g2]; rfl
  by_cases hq:q a
  ·have happ:app b c [a]=some (c++[a]):=by
    rw [app,if_pos]
    have h3:((l.take j.toNat).filter fun a=>dec (q a)).length≤(l.take j.toNat).length:=List.length_filter_le _ _
    rw [List.length_take] at h3
    have h5:c.length+1≤c0.length+l.length:=by rw [hP,List.length_append]; omega
    refine Nat.le_trans (Nat.mul_le_mul_right b ?_) hl
    simpa using h5
   refine ⟨c++[a],by rw [(hb j a c g1).1 hq,happ], ?_⟩
   rw [ht,List.filter_append,hP]
   simp [hq]
  ·refine ⟨c,(hb j a c g1).2 hq, ?_⟩
   rw [ht,List.filter_append,hP]
   simp [hq])
 rw [h1,h2]
 simp
theorem forR_setOf{b:Nat}{n:Int}{body:Int→List Int→Option (List Int)}(q:Int→Prop)(hn:0≤n)(hl:n.toNat * b≤140737488355328)
  (hb:∀ j c,0≤j→j<n→(q j→body j c=app b c [j])∧(¬ q j→body j c=some c)):forR 0 n body []=some (G5 q n):=by
 obtain ⟨s',h1,h2⟩:=F4 (body:=body) (n:=n) (s:=[]) (fun j c=>c=G5 q j) hn (by simp [G5,nums]) (fun j c h0 h1 hP=>by
  have hs:G5 q (j+1)=G5 q j++if dec (q j)=true then [j] else []:=by
   refine (an3 q (j+1)).ext ?_ fun x=> ?_
   ·refine List.pairwise_append.2 ⟨an3 _ _,by split<;>simp,fun a ha b hb=> ?_⟩
    have:=R8.1 ha
    split at hb
    ·simp at hb; omega
    ·cases hb
   ·rw [List.mem_append,R8,R8]
    by_cases hq:q j
    ·rw [if_pos (m9 hq)]
     simp only [List.mem_singleton]
     refine ⟨fun h=> ?_,fun h=> ?_⟩
     ·by_cases e:x=j
      ·exact .inr e
      ·exact .inl ⟨h.1,by omega,h.2.2⟩
     ·rcases h with h | rfl
      ·exact ⟨h.1,by omega,h.2.2⟩
      ·exact ⟨h0,by omega,hq⟩
    ·rw [if_neg (by simpa using hq)]
     simp only [List.not_mem_nil,or_false]
     refine ⟨fun h=>⟨h.1, ?_,h.2.2⟩,fun h=>⟨h.1,by omega,h.2.2⟩⟩
     rcases Int.lt_or_eq_of_le (Int.le_of_lt_add_one h.2.1) with e | e
     ·exact e
     ·rw [e] at h; exact absurd h.2.2 hq
  by_cases hq:q j
  ·refine ⟨c++[j], ?_,by rw [hs,hP,if_pos (m9 hq)]⟩
   rw [(hb j c h0 h1).1 hq,app,if_pos]
   have h3:c.length≤j.toNat:=by rw [hP]; exact (ar2 q j).len
   refine Nat.le_trans (Nat.mul_le_mul_right b ?_) hl
   simp; omega
  ·refine ⟨c,(hb j c h0 h1).2 hq, ?_⟩
   rw [hs,hP,if_neg (by simpa using hq),List.append_nil])
 rw [h1,h2]
end Ab
end
section
namespace Ab
open Go
theorem has_eq(l:List Int)(n:Int):ref1_Has l n=some (dec (n ∈ l)):=by
 unfold ref1_Has
 rw [rng_list (l:=l) (fun a=>a ≠ n) true (fun j a h=>by
  unfold ref1_Has_l1
  rw [h]
  by_cases e:a=n<;>simp [e])]
 by_cases h:n ∈ l
 ·rw [if_neg (by simp only [m5]; exact fun g=>g n h rfl)]
  simp [h]
 ·rw [if_pos (by simp only [m5]; exact fun a ha e=>h (e ▸ ha))]
  simp [h]
theorem disjoint_eq(a b:List Int):ai7 a b=some (dec (∀ x ∈ a,x ∉ b)):=by
 unfold ai7
 rw [rng_list (l:=a) (fun x=>x ∉ b) false (fun j x h=>by
  unfold al5
  rw [h]
  by_cases e:x ∈ b<;>simp [e,has_eq])]
 by_cases h:∀ x ∈ a,x ∉ b
 ·rw [if_pos (m9 h),m9 h]; rfl
 ·rw [if_neg (by rw [w9 h]; simp),w9 h]; rfl
theorem in_eq(n lo hi:Int):ah1 n lo hi=some (dec (lo≤n∧n≤hi)):=by
 unfold ah1; rw [aq3,aq3,dec_and]
theorem at_eq(c i:Int):M1 c i=some ⟨c,i⟩:=rfl
def stepOk(l:List Int)(n j:Int):Prop:=∀ a,ix l j=some a→(0≤a∧a<n)∧∀ b,0<j→ix l (j - 1)=some b→b<a
theorem aj8{l:List Int}{n:Int}:(∀ j:Int,0≤j→j<l.length→stepOk l n j)↔SetN l n:=by
 constructor
 ·intro h
  refine ⟨inc_of_adj fun k a b h1 h2=> ?_,fun x hx=> ?_⟩
  ·have hk:=(List.getElem?_eq_some_iff.1 h2).1
   have:=(h ((k+1:Nat):Int) (by omega) (by omega) b (by rw [P0]; exact h2)).2 a (by omega)
   rw [show ((k+1:Nat):Int) - 1=(k:Nat) by omega] at this
   exact this (by rw [P0]; exact h1)
  ·obtain ⟨i,h1,h2,h3⟩:=D3 hx
   exact (h i h1 h2 x h3).1
 ·intro h j h0 h1 a ha
  refine ⟨h.2 a (w6 ha),fun b hj hb=> ?_⟩
  obtain ⟨_,_,ga⟩:=p9 ha
  obtain ⟨_,_,gb⟩:=p9 hb
  exact h.1.get gb ga (by omega)
theorem ap8(l:List Int)(n:Int):D2 l n=some (dec (SetN l n)):=by
 unfold D2
 rcases L3 (body:=V2 l n) (n:=(l.length:Int)) (fun j=>if dec (stepOk l n j)=true then none else some false) (by omega) (fun j h0 h1 _=>by
  obtain ⟨a,ha,_⟩:=m4 (l:=l) h0 h1
  unfold V2
  rw [ha]
  simp only [oB]
  by_cases c1:a<0
  ·rw [if_pos c1,if_neg]
   ·rfl
   ·rw [m5]; intro h; have:=(h a ha).1; omega
  ·rw [if_neg c1]
   by_cases c2:n≤a
   ·rw [if_pos c2,if_neg]
    ·rfl
    ·rw [m5]; intro h; have:=(h a ha).1; omega
   ·rw [if_neg c2]
    by_cases c3:0<j
    ·obtain ⟨b,hb,_⟩:=m4 (l:=l) (i:=j - 1) (by omega) (by omega)
     rw [if_pos c3,hb]
     simp only [oB]
     by_cases c4:a≤b
     ·rw [if_pos (by simpa using c4),if_neg]
      rw [m5]; intro h; have:=(h a ha).2 b c3 hb; omega
     ·rw [if_neg (by simpa using c4),if_pos]
      rw [m5]; intro x hx
      rw [ha] at hx; cases hx
      exact ⟨by omega,fun y _ hy=>by rw [hb] at hy; cases hy; omega⟩
    ·rw [if_neg c3]
     simp only [oB]
     rw [if_neg (by simp),if_pos]
     rw [m5]; intro x hx
     rw [ha] at hx; cases hx
     exact ⟨by omega,fun y hy=>absurd hy c3⟩) with ⟨h1,h2⟩ | ⟨j,o,h0,h1,h2,_,h4⟩
 ·rw [h1,m9]
  ·rfl
  ·exact aj8.1 fun j g1 g2=>by have:=h2 j g1 g2; simpa using this
 ·rw [h4]
  split at h2
  ·cases h2
  ·rename_i hs
   cases h2
   rw [w9]
   ·rfl
   ·exact fun h=>hs (m9 (aj8.2 h j h0 h1))
theorem rIsSet_eq(l:List Int){n:Int}(hn: -9223372036854775808<n)(hn':n≤9223372036854775807):P8 l n=some (dec (SetN l n)):=by
 unfold P8
 rcases L3 (body:=ai9 l n) (n:=(l.length:Int)) (fun j=>if dec (stepOk l n j)=true then none else some false) (by omega) (fun j h0 h1 _=>by
  obtain ⟨a,ha,_⟩:=m4 (l:=l) h0 h1
  unfold ai9
  rw [ha]
  simp only [oB,in_eq,v7 (n:=n - 1) (by omega) (by omega),L4]
  by_cases c1:0≤a∧a≤n - 1
  ·rw [if_neg (by simpa using c1)]
   by_cases c3:0<j
   ·obtain ⟨b,hb,_⟩:=m4 (l:=l) (i:=j - 1) (by omega) (by omega)
    rw [if_pos c3,hb]
    simp only [oB]
    by_cases c4:a≤b
    ·rw [if_pos (by simpa using c4),if_neg]
     rw [m5]; intro h; have:=(h a ha).2 b c3 hb; omega
    ·rw [if_neg (by simpa using c4),if_pos]
     rw [m5]; intro x hx
     rw [ha] at hx; cases hx
     exact ⟨by omega,fun y _ hy=>by rw [hb] at hy; cases hy; omega⟩
   ·rw [if_neg c3]
    simp only [oB]
    rw [if_neg (by simp),if_pos]
    rw [m5]; intro x hx
    rw [ha] at hx; cases hx
    exact ⟨by omega,fun y hy=>absurd hy c3⟩
  ·rw [if_pos (by simpa using c1),if_neg]
   ·rfl
   ·rw [m5]; intro h; have:=(h a ha).1; omega) with ⟨h1,h2⟩ | ⟨j,o,h0,h1,h2,_,h4⟩
 ·rw [h1,m9]
  ·rfl
  ·exact aj8.1 fun j g1 g2=>by have:=h2 j g1 g2; simpa using this
 ·rw [h4]
  split at h2
  ·cases h2
  ·rename_i hs
   cases h2
   rw [w9]
   ·rfl
   ·exact fun h=>hs (m9 (aj8.2 h j h0 h1))
theorem containsLoop{s:List Int}(hs:Inc s)(hl:s.length≤1000000)(x:Int){i:Int}(h0:0≤i)(h1:i≤s.length)(hlt:∀ k a,0≤k→k<i→ix s k=some a→a<x):
  ∃ i',Loop (I0 s x) i=some i'∧i≤i'∧i'≤s.length∧(∀ k a,0≤k→k<i'→ix s k=some a→a<x)∧(∀ a,ix s i'=some a→x≤a):=by
 obtain ⟨o,h2,h3⟩:=P9 (body:=I0 s x) (fun j=>i≤j∧j≤s.length∧∀ k a,0≤k→k<j→ix s k=some a→a<x) (fun i'=>i≤i'∧i'≤s.length∧(∀ k a,0≤k→k<i'→ix s k=some a→a<x)∧(∀ a,ix s i'=some a→x≤a)) (fun j=>(s.length - j).toNat) (s:=i) ⟨Int.le_refl _,h1,hlt⟩ (fun j ⟨g1,g2,g3⟩=>by
  unfold I0
  by_cases c:j<s.length
  ·obtain ⟨a,ha,_⟩:=m4 (l:=s) (i:=j) (by omega) c
   rw [if_pos c,ha]
   simp only [oB,decide_eq_true_eq]
   by_cases c2:a<x
   ·rw [if_pos c2]
    rw [v7 (by omega) (by omega)]
    refine .inl ⟨j+1,rfl,⟨by omega,by omega,fun k b k0 k1 hb=> ?_⟩,by omega⟩
    by_cases e:k=j
    ·subst e; rw [ha] at hb; cases hb; exact c2
    ·exact g3 k b k0 (by omega) hb
   ·rw [if_neg c2]
    exact .inr ⟨j,rfl,g1,g2,g3,fun b hb=>by rw [ha] at hb; cases hb; omega⟩
  ·rw [if_neg c]
   exact .inr ⟨j,rfl,g1,g2,g3,fun b hb=>by have:=(p9 hb).2.1; omega⟩)
 exact ⟨o,h2,h3⟩
theorem ao2{s part:List Int}(hs:Inc s)(hp:Inc part)(hl:s.length≤1000000):F3 s part=some (dec (∀ x ∈ part,x ∈ s)):=by
 unfold F3
 rcases ap9 (body:=O0 s part) (n:=(part.length:Int)) (fun j i=>(0≤i∧i≤s.length∧∀ k a,0≤k→k<i→ix s k=some a→∀ m x,j≤m→ix part m=some x→a<x)∧∀ m x,0≤m→m<j→ix part m=some x→x ∈ s) (fun o=>o=false∧¬ ∀ x ∈ part,x ∈ s) (s:=0) (by omega) ⟨⟨by omega,by omega,fun k a h1 h2=>by omega⟩,fun m x h1 h2=>by omega⟩ (fun j i h0 h1 ⟨⟨g1,g2,g3⟩,g4⟩=>by
  obtain ⟨x,hx,gx⟩:=m4 (l:=part) h0 h1
  unfold O0
  obtain ⟨i',e1,e2,e3,e4,e5⟩:=containsLoop hs hl x g1 g2 (fun k a k0 k1 ha=>g3 k a k0 k1 ha j x (Int.le_refl _) hx)
  rw [hx]
  simp only [oB,e1]
  have nin:(∀ a,ix s i'=some a→x<a)→x ∉ s:=fun hgt hin=>by
   obtain ⟨k,k0,k1,hk⟩:=D3 hin
   rcases Int.lt_trichotomy k i' with c | c | c
   ·have:=e4 k x k0 c hk; omega
   ·subst c; have:=hgt x hk; omega
   ·obtain ⟨b,hb,gb⟩:=m4 (l:=s) (i:=i') (by omega) (by omega)
    obtain ⟨_,_,gk⟩:=p9 hk
    have:=hs.get gb gk (by omega)
    have:=e5 b hb
    omega
  by_cases c:i'=s.length
  ·rw [if_pos c]
   refine .inr ⟨false,rfl,rfl,fun h=> ?_⟩
   exact nin (fun a ha=>by have:=(p9 ha).2.1; omega) (h x (w6 hx))
  ·rw [if_neg c]
   obtain ⟨b,hb,gb⟩:=m4 (l:=s) (i:=i') (by omega) (by omega)
   rw [hb]
   simp only [oB]
   have hxb:=e5 b hb
   by_cases c2:b=x
   ·subst c2
    rw [if_neg (by simp)]
    refine .inl ⟨i',rfl,⟨by omega,e3,fun k a k0 k1 ha m y hm hy=> ?_⟩,fun m y m0 m1 hy=> ?_⟩
    ·obtain ⟨_,_,gy⟩:=p9 hy
     have:=hp.get gx gy (by omega)
     have:=e4 k a k0 k1 ha
     omega
    ·by_cases e:m=j
     ·subst e; rw [hx] at hy; cases hy; exact w6 hb
     ·exact g4 m y m0 (by omega) hy
   ·rw [if_pos (by simpa using c2)]
    refine .inr ⟨false,rfl,rfl,fun h=> ?_⟩
    exact nin (fun a ha=>by rw [hb] at ha; cases ha; omega) (h x (w6 hx))) with ⟨s',h1,_,h2⟩ | ⟨o,h1,rfl,h2⟩
 ·rw [h1,m9]
  ·rfl
  ·intro x hx
   obtain ⟨m,m0,m1,hm⟩:=D3 hx
   exact h2 m x m0 m1 hm
 ·rw [h1,w9 h2]; rfl
end Ab
end
section
namespace Ab
open Go
theorem half_eq{i j:Int}(h0:0≤i)(h1:i≤j)(h2:j≤1000000):w64 (shrW .u64 ((IntKind.u64).wrap (w64 (i+j))) 1)=(i+j) / 2:=by
 rw [v7 (n:=i+j) (by omega) (by omega),IntKind.wrap_u64,Int.emod_eq_of_lt (by omega) (by omega)]
 have:shrW .u64 (i+j) 1=(i+j) / 2:=by
  simp only [shrW,IntKind.bits]
  rw [show min (1:Int).toNat 64=1 by rfl,Int.fdiv_eq_ediv_of_nonneg _ (by decide)]
  rfl
 rw [this]
 exact v7 (by omega) (by omega)
theorem less_eq(a b:Int):V7 a b=some (decide (a<b)):=by simp [V7,G0]
theorem bsearch_eq{xs:List Int}(hs:Inc xs)(hl:xs.length≤500000)(t:Int):∃ i,r9 xs t=some (i,dec (t ∈ xs))∧0≤i∧i≤xs.length∧(∀ k a,0≤k→k<i→ix xs k=some a→a<t)∧(∀ k a,i≤k→ix xs k=some a→t≤a):=by
 unfold r9
 obtain ⟨i,h1,h2,h3,h4,h5⟩:=P9 (body:=A5 xs t) (fun p=>(0≤p.1∧p.1≤p.2∧p.2≤xs.length)∧(∀ k a,0≤k→k<p.1→ix xs k=some a→a<t)∧(∀ k a,p.2≤k→ix xs k=some a→t≤a))
  (fun i=>0≤i∧i≤xs.length∧(∀ k a,0≤k→k<i→ix xs k=some a→a<t)∧(∀ k a,i≤k→ix xs k=some a→t≤a)) (fun p=>(p.2 - p.1).toNat) (s:=(0,(xs.length:Int)))
  ⟨⟨by simp,by simp,by simp⟩,fun k a h1 h2=>by simp at h2; omega,fun k a h1 h2=>by have:=(p9 h2).2.1; simp at h1; omega⟩ (fun ⟨i,j⟩ ⟨⟨g1,g2,g3⟩,g4,g5⟩=>by
  dsimp only at g1 g2 g3 g4 g5 ⊢
  unfold A5
  dsimp only
  by_cases c:i<j
  ·rw [if_pos c,half_eq g1 g2 (by omega)]
   obtain ⟨a,ha,ga⟩:=m4 (l:=xs) (i:=(i+j) / 2) (by omega) (by omega)
   rw [ha]
   simp only [oB,less_eq,decide_eq_true_eq]
   by_cases c2:a<t
   ·rw [if_pos c2,v7 (by omega) (by omega)]
    refine .inl ⟨_,rfl,⟨⟨by dsimp only; omega,by dsimp only; omega,g3⟩,fun k b k0 k1 hb=> ?_,g5⟩,by dsimp only; omega⟩
    dsimp only at k1
    obtain ⟨_,_,gb⟩:=p9 hb
    by_cases e:k=(i+j) / 2
    ·subst e; rw [ha] at hb; cases hb; exact c2
    ·have:=hs.get gb ga (by omega); omega
   ·rw [if_neg c2]
    refine .inl ⟨_,rfl,⟨⟨g1,by dsimp only; omega,by dsimp only; omega⟩,g4,fun k b k0 hb=> ?_⟩,by dsimp only; omega⟩
    dsimp only at k0
    obtain ⟨_,_,gb⟩:=p9 hb
    by_cases e:k=(i+j) / 2
    ·subst e; rw [ha] at hb; cases hb; omega
    ·have:=hs.get ga gb (by omega); omega
  ·rw [if_neg c]
   have:i=j:=by omega
   subst this
   exact .inr ⟨i,rfl,g1,g3,g4,g5⟩)
 rw [h1]
 simp only [oB]
 refine ⟨i, ?_,h2,h3,h4,h5⟩
 have nin:(∀ a,ix xs i=some a→a ≠ t)→t ∉ xs:=fun hne hin=>by
  obtain ⟨k,k0,k1,hk⟩:=D3 hin
  rcases Int.lt_trichotomy k i with c | c | c
  ·have:=h4 k t k0 c hk; omega
  ·subst c; exact hne t hk rfl
  ·obtain ⟨b,hb,gb⟩:=m4 (l:=xs) (i:=i) (by omega) (by omega)
   obtain ⟨_,_,gk⟩:=p9 hk
   have:=hs.get gb gk (by omega)
   have:=h5 i b (Int.le_refl _) hb
   omega
 by_cases c:i<xs.length
 ·obtain ⟨a,ha,ga⟩:=m4 (l:=xs) (i:=i) (by omega) c
  rw [if_pos c,ha]
  simp only [oB]
  by_cases c2:a=t
  ·subst c2
   rw [if_pos rfl,m9 (w6 ha)]
   rfl
  ·rw [if_neg c2]
   simp only [M6,decide_true,Bool.not_true,Bool.false_eq_true,if_false,oB]
   rw [w9 (nin fun b hb=>by rw [ha] at hb; cases hb; exact c2)]
 ·rw [if_neg c]
  simp only [oB]
  rw [w9 (nin fun b hb=>by have:=(p9 hb).2.1; omega)]
theorem bsearch2{xs:List Int}(hs:Inc xs)(hl:xs.length≤500000)(t:Int):∃ i,r9 xs t=some (i,dec (t ∈ xs)):=
 let ⟨i,h,_⟩:=bsearch_eq hs hl t
 ⟨i,h⟩
theorem containsFunc_eq{l:List Int}{f:Int→Option Bool}(p:Int→Prop)(hf:∀ x ∈ l,f x=some (dec (p x))):y7 l f=some (dec (∃ x ∈ l,p x)):=by
 unfold y7 F5
 rcases L3 (body:=C6 l f) (n:=(l.length:Int)) (fun j=>if dec (∀ a,ix l j=some a→¬ p a)=true then none else some j) (by omega) (fun j h0 h1 _=>by
  obtain ⟨a,ha,_⟩:=m4 (l:=l) h0 h1
  unfold C6
  rw [ha]
  simp only [oB,hf a (w6 ha)]
  by_cases c:p a
  ·rw [if_pos (m9 c),if_neg (by rw [m5]; exact fun h=>h a rfl c)]
  ·rw [if_neg (by rw [w9 c]; simp),if_pos (m9 fun b hb=>by cases hb; exact c)]) with ⟨h1,h2⟩ | ⟨j,o,h0,h1,h2,_,h4⟩
 ·rw [h1]
  simp only [oB]
  rw [w9]
  ·rfl
  ·rintro ⟨x,hx,hp⟩
   obtain ⟨i,g1,g2,g3⟩:=D3 hx
   have:=h2 i g1 g2
   split at this
   ·rename_i h; exact m5.1 h x g3 hp
   ·cases this
 ·rw [h4]
  split at h2
  ·cases h2
  ·rename_i h
   cases h2
   simp only [oB]
   rw [m9]
   ·simp [h0]
   ·simp only [m5] at h
    obtain ⟨a,g1,_⟩:=m4 (l:=l) h0 h1
    refine ⟨a,w6 g1, ?_⟩
    rcases Classical.em (p a) with c | c
    ·exact c
    ·exact absurd (fun b hb=>by rw [g1] at hb; cases hb; exact c) h
theorem meets_eq{a b:List Int}(hb:Inc b)(hl:b.length≤500000):V8 a b=some (dec (∃ x ∈ a,x ∈ b)):=by
 unfold V8
 rw [containsFunc_eq (fun x=>x ∈ b) (fun x _=>by
  unfold X1
  obtain ⟨i,h⟩:=bsearch2 hb hl x
  rw [h]; rfl)]
 rfl
/-! ### Sorted, and equal neighbours made one -/
theorem compact_spec{l:List Int}(hs:l.Pairwise (· ≤ ·)):Inc (aa9 l)∧∀ x,x ∈ aa9 l↔x ∈ l:=by
 have key:∀ m,m≤l.length→Inc (Go.Lib.compactUpTo l.toArray m)∧(∀ x,x ∈ Go.Lib.compactUpTo l.toArray m↔x ∈ l.take m):=by
  intro m
  induction m with
  | zero=>intro _; simp [Go.Lib.compactUpTo]
  | succ m ih=>
   intro hm
   obtain ⟨h1,h2⟩:=ih (by omega)
   have hlt:m<l.length:=by omega
   have hd:l.toArray[m]! =l[m]:=by simp [hlt]
   have ht:l.take (m+1)=l.take m++[l[m]]:=by rw [List.take_add_one]; simp [hlt]
   rw [Go.Lib.compactUpTo_succ,ht]
   by_cases hk:Go.Lib.keeps l.toArray m=true
   ·rw [if_pos hk,hd]
    refine ⟨List.pairwise_append.2 ⟨h1,by simp,fun a ha b hb=> ?_⟩,fun x=>by rw [List.mem_append,List.mem_append,h2]⟩
    simp only [List.mem_singleton] at hb
    subst hb
    have ha':=(h2 a).1 ha
    obtain ⟨i,hi,rfl⟩:=List.mem_iff_getElem.1 ha'
    rw [List.length_take] at hi
    rw [List.getElem_take]
    simp only [Go.Lib.keeps,decide_eq_true_eq] at hk
    rcases hk with hk | hk
    ·omega
    ·have hm1:l.toArray[m - 1]! =l[m - 1]:=by simp [show m - 1<l.length by omega]
     rw [hd,hm1] at hk
     have e1:l[m - 1]≤l[m]:=List.pairwise_iff_getElem.1 hs (m - 1) m (by omega) hlt (by omega)
     have e2:l[i]≤l[m - 1]:=by
      rcases Nat.lt_or_ge i (m - 1) with c | c
      ·exact List.pairwise_iff_getElem.1 hs i (m - 1) (by omega) (by omega) c
      ·have:i=m - 1:=by omega
       subst this; exact Int.le_refl _
     omega
   ·rw [if_neg hk,List.append_nil]
    refine ⟨h1,fun x=> ?_⟩
    rw [h2,List.mem_append]
    refine ⟨.inl,fun h=> ?_⟩
    rcases h with h | h
    ·exact h
    ·simp only [List.mem_singleton] at h
     subst h
     have hm0:m ≠ 0:=fun e=>hk (by simp [Go.Lib.keeps,e])
     have hm1:l.toArray[m - 1]! =l[m - 1]:=by simp [show m - 1<l.length by omega]
     have he:l[m]=l[m - 1]:=by
      simp only [Go.Lib.keeps,decide_eq_true_eq,not_or] at hk
      have h3:l.toArray[m]! =l.toArray[m - 1]! :=Classical.not_not.1 (fun h=>hk.2 h)
      rw [hd,hm1] at h3; exact h3
     rw [he,List.mem_take_iff_getElem]
     exact ⟨m - 1,by omega,rfl⟩
 obtain ⟨h1,h2⟩:=key l.length (Nat.le_refl _)
 refine ⟨?_,fun x=> ?_⟩
 ·simpa [aa9,Go.Lib.compact] using h1
 ·have:=h2 x
  rw [List.take_length] at this
  simpa [aa9,Go.Lib.compact] using this
theorem srt_spec(l:List Int):(srt l).Pairwise (· ≤ ·)∧∀ x,x ∈ srt l↔x ∈ l:=by
 refine ⟨?_,fun x=>by simp [srt]⟩
 have:=List.pairwise_mergeSort (le:=fun x y:Int=>decide (x≤y)) (fun a b c h1 h2=>by simp at h1 h2 ⊢; omega) (fun a b=>by simp; omega) l
 refine this.imp fun h=>by simpa using h
theorem sortL_eq{l:List Int}(h:l.length<4611686018427387904):sortL l=some (srt l):=by rw [sortL,if_pos h]
theorem update_inc{s add del:List Int}(hd:Inc del)(hl:del.length≤500000)(h1:s.length≤500000)(h2:add.length≤500000):
  ∃ r,N5 s add del=some r∧Inc r∧∀ x,x ∈ r↔(x ∈ s∧x ∉ del)∨x ∈ add:=by
 unfold N5
 rw [forR_filter (l:=s) (b:=8) (fun a=>a ∉ del) (fun j a c h=>by
  obtain ⟨i,hi⟩:=bsearch2 hd hl a
  unfold ac0
  rw [h]
  simp only [oB,hi,L4]
  refine ⟨fun hq=> ?_,fun hq=> ?_⟩
  ·rw [if_pos (m9 hq)]
   cases app 8 c [a]<;>rfl
  ·rw [if_neg (by simpa using hq)]; rfl) [] (by simp; omega)]
 simp only [oB,List.nil_append]
 have hle:(s.filter fun a=>dec (a ∉ del)).length≤s.length:=List.length_filter_le _ _
 rw [show app 8 (s.filter fun a=>dec (a ∉ del)) add=some ((s.filter fun a=>dec (a ∉ del))++add) by rw [app,if_pos]; omega]
 simp only [oB]
 rw [sortL_eq (by rw [List.length_append]; omega)]
 simp only [oB]
 obtain ⟨e1,e2⟩:=srt_spec ((s.filter fun a=>dec (a ∉ del))++add)
 obtain ⟨e3,e4⟩:=compact_spec e1
 refine ⟨_,rfl,e3,fun x=> ?_⟩
 rw [e4,e2,List.mem_append,List.mem_filter,m5]
theorem update_eq{s add del:List Int}{n:Int}(hn:n≤1000)(hd:Inc del)(hl:del.length≤500000)(hs:SetN s n)(ha:SetN add n):
  N5 s add del=some (G5 (fun x=>(x ∈ s∧x ∉ del)∨x ∈ add) n):=by
 have h1:=hs.len; have h2:=ha.len
 obtain ⟨r,e1,e2,e3⟩:=update_inc (s:=s) (add:=add) hd hl (by omega) (by omega)
 rw [e1,SetN.eq_of (n:=n) ⟨e2,fun x hx=> ?_⟩ (fun x _ _=>e3 x)]
 rcases (e3 x).1 hx with h | h
 ·exact hs.2 x h.1
 ·exact ha.2 x h
end Ab
end
section
namespace Ab
open Go
def T0(o:k7)(n:Int):Prop:=SetN o.pre n∧SetN o.add n∧SetN o.del n∧∀ x ∈ o.add,x ∉ o.del
def ae6(o:k7):Prop:=0≤o.cost∧o.cost≤100
noncomputable def T7(o:k7)(n:Int):Int:=if dec (T0 o n)=true then if dec (ae6 o)=true then 0 else 3 else 5
structure m6(t:f9):Prop where
 n0:0≤t.facts
 n1:t.facts≤24
 init:SetN t.init t.facts
 goal:SetN t.goal t.facts
 ops:t.operators.length≤40
 op:∀ o ∈ t.operators,T0 o t.facts∧ae6 o
theorem opCode_zero{o:k7}{n:Int}:T7 o n=0↔T0 o n∧ae6 o:=by
 unfold T7
 by_cases h:T0 o n
 ·rw [if_pos (m9 h)]
  by_cases g:ae6 o
  ·rw [if_pos (m9 g)]; simp [h,g]
  ·rw [if_neg (by rw [w9 g]; simp)]; simp [g]
 ·rw [if_neg (by rw [w9 h]; simp)]; simp [h]
theorem operator_eq{o:k7}{n:Int}(h0:0≤n)(h1:n≤24):O6 o n=some (T7 o n):=by
 unfold O6 T7
 simp only [ap8,oB,L4]
 have bad:¬ T0 o n→dec (T0 o n)=true→False:=fun h g=>h (m5.1 g)
 by_cases c1:SetN o.pre n
 ·rw [if_neg (by simpa using c1)]
  by_cases c2:SetN o.add n
  ·rw [if_neg (by simpa using c2)]
   by_cases c3:SetN o.del n
   ·rw [if_neg (by simpa using c3)]
    have hl:=c3.len
    rw [meets_eq c3.1 (by omega)]
    simp only [oB]
    by_cases c4:∃ x ∈ o.add,x ∈ o.del
    ·rw [if_pos (m9 c4),if_neg]
     rw [m5]
     obtain ⟨x,g1,g2⟩:=c4
     exact fun h=>h.2.2.2 x g1 g2
    ·have hs:T0 o n:=⟨c1,c2,c3,fun x g1 g2=>c4 ⟨x,g1,g2⟩⟩
     rw [if_neg (by rw [w9 c4]; simp),if_pos (m9 hs)]
     by_cases c5:ae6 o
     ·rw [if_pos (m9 c5),if_neg]
      have:=c5.1; have:=c5.2
      simp; omega
     ·rw [if_neg (fun h=>c5 (m5.1 h)),if_pos]
      unfold ae6 at c5
      simp; omega
   ·rw [if_pos (by simpa using c3)]
    simp only [oB,if_true]
    rw [if_neg fun h=>c3 (m5.1 h).2.2.1]
  ·rw [if_pos (by simpa using c2)]
   simp only [oB,if_true]
   rw [if_neg fun h=>c2 (m5.1 h).2.1]
 ·rw [if_pos (by simpa using c1)]
  simp only [oB,if_true]
  rw [if_neg fun h=>c1 (m5.1 h).1]
theorem validate_eq(t:f9):∃ f,y5 t=some f∧ah3 t=some f∧((f=⟨0,0⟩∧m6 t)∨(f.code ≠ 0∧¬ m6 t)):=by
 unfold y5 ah3
 simp only [in_eq,at_eq,oB,L4]
 by_cases c1:0≤t.facts∧t.facts≤24
 ·rw [if_neg (by simp; omega),ifNN c1]
  simp only [ap8,rIsSet_eq (n:=t.facts) _ (by omega) (by omega),oB,L4]
  by_cases c2:SetN t.init t.facts
  ·rw [ifNN c2,ifNN c2]
   by_cases c3:SetN t.goal t.facts
   ·rw [ifNN c3,ifNN c3]
    by_cases c4:40<(t.operators.length:Int)
    ·rw [if_pos c4,if_pos c4]
     exact ⟨_,rfl,rfl,.inr ⟨by simp,fun h=>by have:=h.ops; omega⟩⟩
    ·rw [if_neg c4,if_neg c4]
     have hb:∀ j:Int,0≤j→j<t.operators.length→∃ o,ix t.operators j=some o∧H8 t j ()=some (if T7 o t.facts=0 then .inl () else .inr ⟨T7 o t.facts,j⟩)∧J6 t j ()=some (if T7 o t.facts=0 then .inl () else .inr ⟨T7 o t.facts,j⟩):=fun j h0 h1=>by
      obtain ⟨o,ho,_⟩:=m4 (l:=t.operators) h0 h1
      refine ⟨o,ho, ?_, ?_⟩
      ·unfold H8
       rw [ho]
       simp only [oB,operator_eq c1.1 c1.2]
       by_cases e:T7 o t.facts=0
       ·rw [if_pos e,if_pos e]
       ·rw [if_neg e,if_neg e]
      ·unfold J6
       rw [ho]
       simp only [oB,rIsSet_eq (n:=t.facts) _ (show -9223372036854775808<t.facts by omega) (show t.facts≤9223372036854775807 by omega),disjoint_eq,in_eq,at_eq,L4]
       have hp:(if dec (¬ SetN o.pre t.facts)=true then some true else if dec (¬ SetN o.add t.facts)=true then some true else if dec (¬ SetN o.del t.facts)=true then some true else some (dec (¬ ∀ x ∈ o.add,x ∉ o.del)))=some (dec (¬ T0 o t.facts)):=by
        unfold T0
        by_cases g1:SetN o.pre t.facts
        ·rw [if_neg (by simpa using g1)]
         by_cases g2:SetN o.add t.facts
         ·rw [if_neg (by simpa using g2)]
          by_cases g3:SetN o.del t.facts
          ·rw [if_neg (by simpa using g3)]
           exact congrArg some (O5 ⟨fun h g=>h g.2.2.2,fun h g=>h ⟨g1,g2,g3,g⟩⟩)
          ·rw [if_pos (by simpa using g3),m9 (fun g=>g3 g.2.2.1)]
         ·rw [if_pos (by simpa using g2),m9 (fun g=>g2 g.2.1)]
        ·rw [if_pos (by simpa using g1),m9 (fun g=>g1 g.1)]
       rw [hp]
       simp only [oB]
       unfold T7
       by_cases g1:T0 o t.facts
       ·rw [if_neg (by simpa using g1),if_pos (m9 g1)]
        by_cases g2:ae6 o
        ·rw [ifP g2,ifNN (p:=0≤o.cost∧o.cost≤100) g2]; rfl
        ·rw [ifN g2,ifP (p:=¬ (0≤o.cost∧o.cost≤100)) g2]; rfl
       ·rw [if_pos (m9 g1),if_neg (fun h=>g1 (m5.1 h))]; rfl
     have heq:rngX 0 (t.operators.length:Int) (H8 t) ()=rngX 0 (t.operators.length:Int) (J6 t) ():=
      (rngX_eq (fun _ _=>True) (by omega) trivial (fun j s h0 h1 _=>by
       obtain ⟨o,_,e1,e2⟩:=hb j h0 h1
       exact ⟨by rw [e1,e2],by rw [e1]; simp,fun _ _=>trivial⟩)).1
     rcases L3 (body:=J6 t) (n:=(t.operators.length:Int)) (fun j=>match ix t.operators j with | some o=>if T7 o t.facts=0 then none else some (⟨T7 o t.facts,j⟩:TFault) | none=>none) (by omega) (fun j h0 h1 _=>by
      obtain ⟨o,e0,_,e2⟩:=hb j h0 h1
      rw [e2,e0]
      dsimp only
      split<;>rfl) with ⟨h1,h2⟩ | ⟨j,f,h0,h1,h2,_,h4⟩
     ·rw [heq,h1]
      refine ⟨⟨0,0⟩,rfl,rfl,.inl ⟨rfl,c1.1,c1.2,c2,c3,by omega,fun o ho=> ?_⟩⟩
      obtain ⟨j,g0,g1,g2⟩:=D3 ho
      have:=h2 j g0 g1
      rw [g2] at this
      dsimp only at this
      split at this
      ·rename_i e; exact opCode_zero.1 e
      ·cases this
     ·rw [heq,h4]
      obtain ⟨o,e0,_,_⟩:=hb j h0 h1
      rw [e0] at h2
      dsimp only at h2
      split at h2
      ·cases h2
      ·rename_i e
       cases h2
       exact ⟨_,rfl,rfl,.inr ⟨e,fun h=>e (opCode_zero.2 (h.op o (w6 e0)))⟩⟩
   ·rw [ifP c3,ifP c3]
    exact ⟨_,rfl,rfl,.inr ⟨by simp,fun h=>c3 h.goal⟩⟩
  ·rw [ifP c2,ifP c2]
   exact ⟨_,rfl,rfl,.inr ⟨by simp,fun h=>c2 h.init⟩⟩
 ·rw [if_pos (by simp; omega),if_pos (m9 c1)]
  exact ⟨_,rfl,rfl,.inr ⟨by simp,fun h=>c1 ⟨h.n0,h.n1⟩⟩⟩
theorem rSteps_eq{n:Int}(h0:0≤n)(h1:n≤9223372036854775807)(plan:List Int):∃ f,ae9 n plan=some f∧((f=⟨0,0⟩∧plan.length≤60∧∀ x ∈ plan,0≤x∧x<n)∨(f.code ≠ 0∧¬ (plan.length≤60∧∀ x ∈ plan,0≤x∧x<n))):=by
 unfold ae9
 by_cases c:60<(plan.length:Int)
 ·rw [if_pos c]
  exact ⟨⟨2, -5⟩,rfl,.inr ⟨by simp,fun h=>by omega⟩⟩
 ·rw [if_neg c]
  rw [rng_list (l:=plan) (fun x=>0≤x∧x<n) (⟨3, -6⟩:TFault) (fun j a h=>by
   unfold ai0
   rw [h]
   simp only [oB,in_eq,at_eq,v7 (n:=n - 1) (by omega) (by omega),L4]
   by_cases g:0≤a∧a<n
   ·rw [if_neg (by simp; omega)]; exact .inl ⟨g,rfl⟩
   ·rw [if_pos (by rw [m5]; omega)]; exact .inr ⟨g,rfl⟩)]
  by_cases g:∀ x ∈ plan,0≤x∧x<n
  ·rw [if_pos (m9 g)]
   exact ⟨_,rfl,.inl ⟨rfl,by omega,g⟩⟩
  ·rw [if_neg (fun h=>g (m5.1 h))]
   exact ⟨_,rfl,.inr ⟨by simp,fun h=>g h.2⟩⟩
/-! ### What operators and plans do -/
def noOp:k7:=⟨[],[],[],0⟩
def opAt(t:f9)(op:Int):k7:=(t.operators[op.toNat]?).getD noOp
theorem ix_op{t:f9}{op:Int}(h0:0≤op)(h1:op<t.operators.length):ix t.operators op=some (opAt t op):=by
 obtain ⟨a,h2,h3⟩:=m4 h0 h1
 rw [h2,opAt,h3]; rfl
theorem m6.at{t:f9}(h:m6 t){op:Int}(h0:0≤op)(h1:op<t.operators.length):T0 (opAt t op) t.facts∧ae6 (opAt t op):=h.op _ (w6 (ix_op h0 h1))
def can(t:f9)(s:List Int)(op:Int):Prop:=∀ x ∈ (opAt t op).pre,x ∈ s
noncomputable def aft(t:f9)(s:List Int)(op:Int):List Int:=G5 (fun x=>x ∈ (opAt t op).add∨x ∈ s∧x ∉ (opAt t op).del) t.facts
theorem setN_aft(t:f9)(s:List Int)(op:Int):SetN (aft t s op) t.facts:=ar2 _ _
theorem can_eq{t:f9}(ht:m6 t){op:Int}(h0:0≤op)(h1:op<t.operators.length){s:List Int}(hs:SetN s t.facts):ad6 t s op=some (dec (can t s op)):=by
 have:=ht.n1; have:=hs.len
 unfold ad6
 rw [ix_op h0 h1]
 simp only [oB]
 rw [ao2 hs.1 (ht.at h0 h1).1.1.1 (by omega)]
 rfl
theorem next_eq{t:f9}(ht:m6 t){op:Int}(h0:0≤op)(h1:op<t.operators.length){s:List Int}(hs:SetN s t.facts):T8 t s op=some (aft t s op):=by
 have:=ht.n1
 obtain ⟨⟨_,k2,k3,_⟩,_⟩:=ht.at h0 h1
 have hl:=k3.len
 unfold T8
 rw [ix_op h0 h1]
 simp only [oB]
 rw [update_eq (n:=t.facts) (by omega) k3.1 (by omega) hs k2]
 simp only [oB,aft]
 exact congrArg some (setOf_congr fun x _ _=>Or.comm)
noncomputable def ends(t:f9):List Int→List Int→Option (List Int)
 | s,[]=>some s
 | s,op::r=>if dec (can t s op)=true then ends t (aft t s op) r else none
theorem ends_append{t:f9}:∀ {p q s:List Int},ends t s (p++q)=(ends t s p).bind fun e=>ends t e q
 | [],q,s=>rfl
 | op::r,q,s=>by
  simp only [List.cons_append,ends]
  split
  ·exact ends_append
  ·rfl
def works(t:f9)(s plan:List Int):Prop:=∃ e,ends t s plan=some e∧∀ x ∈ t.goal,x ∈ e
end Ab
end
section
namespace Ab
open Go
/-! ### States as' numbers -/
def wsN:List Int→Nat
 | []=>0
 | a::l=>2 ^ a.toNat+wsN l
theorem wsN_dvd{k:Nat}:∀ {l:List Int},(∀ x ∈ l,k≤x.toNat)→2 ^ k ∣ wsN l
 | [],_=>⟨0,rfl⟩
 | a::l,h=>Nat.dvd_add (Nat.pow_dvd_pow 2 (h a (by simp))) (wsN_dvd fun x hx=>h x (List.mem_cons_of_mem _ hx))
theorem two_pow_no{k:Nat}(h:2 ^ (k+1) ∣ 2 ^ k):False:=by
 have h1:=Nat.le_of_dvd (Nat.two_pow_pos k) h
 have h2:=Nat.two_pow_pos k
 rw [Nat.pow_succ] at h1
 omega
theorem wsN_ne{a:Int}{l m:List Int}(ha:0≤a)(hl:∀ x ∈ l,a<x)(hm:∀ x ∈ m,a<x):wsN (a::l) ≠ wsN m:=fun h=>by
 have d1:2 ^ (a.toNat+1) ∣ wsN l:=wsN_dvd fun x hx=>by have:=hl x hx; omega
 have d2:2 ^ (a.toNat+1) ∣ wsN m:=wsN_dvd fun x hx=>by have:=hm x hx; omega
 rw [← h,wsN] at d2
 exact two_pow_no ((Nat.dvd_add_left d1).1 d2)
theorem wsN_inj:∀ {l m:List Int},Inc l→Inc m→(∀ x ∈ l,0≤x)→(∀ x ∈ m,0≤x)→wsN l=wsN m→l=m
 | [],[],_,_,_,_,_=>rfl
 | [],b::m,_,_,_,_,h=>by
  have:=Nat.two_pow_pos b.toNat
  simp only [wsN] at h; omega
 | a::l,[],_,_,_,_,h=>by
  have:=Nat.two_pow_pos a.toNat
  simp only [wsN] at h; omega
 | a::l,b::m,h1,h2,h3,h4,h=>by
  obtain ⟨l1,l2⟩:=List.pairwise_cons.1 h1
  obtain ⟨m1,m2⟩:=List.pairwise_cons.1 h2
  rcases Int.lt_trichotomy a b with c | c | c
  ·exact absurd h (wsN_ne (h3 a (by simp)) l1 fun x hx=>by
    rcases List.mem_cons.1 hx with rfl | hx
    ·exact c
    ·have:=m1 x hx; omega)
  ·subst c
   simp only [wsN] at h
   rw [wsN_inj l2 m2 (fun x hx=>h3 x (List.mem_cons_of_mem _ hx)) (fun x hx=>h4 x (List.mem_cons_of_mem _ hx)) (by omega)]
  ·exact absurd h.symm (wsN_ne (h4 b (by simp)) m1 fun x hx=>by
    rcases List.mem_cons.1 hx with rfl | hx
    ·exact c
    ·have:=l1 x hx; omega)
theorem SetN.word_inj{s s':List Int}{n:Int}(h:SetN s n)(h':SetN s' n)(e:wsN s=wsN s'):s=s':=
 wsN_inj h.1 h'.1 (fun x hx=>(h.2 x hx).1) (fun x hx=>(h'.2 x hx).1) e
end Ab
end
section
namespace Ab
open Go
def dg(x:Int):List Int:=if x<10 then [48+x] else [48+x / 10,48+x % 10]
def encS(s:List Int):List Int:=s.flatMap (fun x=>dg x++[44])++[59]
def encK(l:List (List Int)):List Int:=l.flatMap encS
def U7(s:List Int):Prop:=∀ x ∈ s,0≤x∧x<100
theorem dg_split{x y:Int}(hx:0≤x∧x<100)(hy:0≤y∧y<100){r r':List Int}(h:dg x++44::r=dg y++44::r'):x=y∧r=r':=by
 unfold dg at h
 split at h<;>split at h<;>simp only [List.cons_append,List.nil_append,List.cons.injEq] at h
 ·exact ⟨by omega,h.2.2⟩
 ·exfalso; omega
 ·exfalso; omega
 ·exact ⟨by omega,h.2.2.2⟩
theorem dg_head{x:Int}(hx:0≤x∧x<100):∃ a l,dg x=a::l∧48≤a∧a<58:=by
 unfold dg
 split
 ·exact ⟨_,_,rfl,by omega,by omega⟩
 ·exact ⟨_,_,rfl,by omega,by omega⟩
theorem ah8(x:Int)(s:List Int):encS (x::s)=dg x++44::encS s:=by simp [encS]
theorem encS_inj:∀ {s s' r r':List Int},U7 s→U7 s'→encS s++r=encS s'++r'→s=s'∧r=r'
 | [],[],r,r',_,_,h=>by simp [encS] at h; exact ⟨rfl,h⟩
 | [],y::s',r,r',_,h2,h=>by
  obtain ⟨a,l,ha,h3,h4⟩:=dg_head (h2 y (by simp))
  rw [ah8,ha] at h
  simp only [encS,List.flatMap_nil,List.nil_append,List.cons_append,List.cons.injEq] at h
  omega
 | x::s,[],r,r',h1,_,h=>by
  obtain ⟨a,l,ha,h3,h4⟩:=dg_head (h1 x (by simp))
  rw [ah8,ha] at h
  simp only [encS,List.flatMap_nil,List.nil_append,List.cons_append,List.cons.injEq] at h
  omega
 | x::s,y::s',r,r',h1,h2,h=>by
  rw [ah8,ah8,List.append_assoc,List.append_assoc,List.cons_append,List.cons_append] at h
  obtain ⟨rfl,g⟩:=dg_split (h1 x (by simp)) (h2 y (by simp)) h
  obtain ⟨e1,e2⟩:=encS_inj (s:=s) (s':=s') (fun z hz=>h1 z (List.mem_cons_of_mem _ hz)) (fun z hz=>h2 z (List.mem_cons_of_mem _ hz)) g
  exact ⟨by rw [e1],e2⟩
theorem encK_inj:∀ {l l':List (List Int)},(∀ s ∈ l,U7 s)→(∀ s ∈ l',U7 s)→encK l=encK l'→l=l'
 | [],[],_,_,_=>rfl
 | [],s::l',_,_,h=>by
  have h:=congrArg List.length h
  simp only [encK,encS,List.flatMap_nil,List.flatMap_cons,List.length_append,List.length_nil,List.length_cons] at h
  omega
 | s::l,[],_,_,h=>by
  have h:=congrArg List.length h
  simp only [encK,encS,List.flatMap_nil,List.flatMap_cons,List.length_append,List.length_nil,List.length_cons] at h
  omega
 | s::l,s'::l',h1,h2,h=>by
  have h:encS s++encK l=encS s'++encK l':=h
  obtain ⟨e1,e2⟩:=encS_inj (h1 s (List.mem_cons_self ..)) (h2 s' (List.mem_cons_self ..)) h
  have e3:=encK_inj (l:=l) (l':=l') (fun z hz=>h1 z (List.mem_cons_of_mem _ hz)) (fun z hz=>h2 z (List.mem_cons_of_mem _ hz)) e2
  rw [e1,e3]
theorem dg_byte{x:Int}(hx:0≤x∧x<100):∀ a ∈ dg x,0≤a∧a<256:=by
 intro a ha
 unfold dg at ha
 split at ha<;>simp at ha<;>omega
theorem encS_byte{s:List Int}(h:U7 s):∀ a ∈ encS s,0≤a∧a<256:=by
 intro a ha
 simp only [encS,List.mem_append,List.mem_flatMap,List.mem_singleton] at ha
 rcases ha with ⟨x,hx,h1 | h1⟩ | h1
 ·exact dg_byte (h x hx) a h1
 ·omega
 ·omega
theorem encK_byte{l:List (List Int)}(h:∀ s ∈ l,U7 s):∀ a ∈ encK l,0≤a∧a<256:=by
 intro a ha
 simp only [encK,List.mem_flatMap] at ha
 obtain ⟨s,hs,h1⟩:=ha
 exact encS_byte (h s hs) a h1
theorem strB_inj{l l':List Int}(h1:∀ a ∈ l,0≤a∧a<256)(h2:∀ a ∈ l',0≤a∧a<256)(h:strB l=strB l'):l=l':=by
 have h3:l.map (fun n=>UInt8.ofNat n.toNat)=l'.map (fun n=>UInt8.ofNat n.toNat):=by
  have:=congrArg ByteArray.data h
  simpa [strB] using this
 have back:∀ {m:List Int},(∀ a ∈ m,0≤a∧a<256)→(m.map (fun n=>UInt8.ofNat n.toNat)).map (fun b=>(b.toNat:Int))=m:=by
  intro m hm
  rw [List.map_map]
  conv=>rhs; rw [← List.map_id m]
  apply List.map_congr_left
  intro a ha
  have:=hm a ha
  simp only [Function.comp_apply,id_eq,UInt8.toNat_ofNat']
  omega
 rw [← back h1,← back h2,h3]
def keyK(l:List (List Int)):ByteArray:=strB (encK l)
theorem keyK_inj{l l':List (List Int)}(h1:∀ s ∈ l,U7 s)(h2:∀ s ∈ l',U7 s)(h:keyK l=keyK l'):l=l':=encK_inj h1 h2 (strB_inj (encK_byte h1) (encK_byte h2) h)
/-! ### Maps -/
theorem B3{K V:Type}[DecidableEq K](k k':K)(v:V):∀ m:List (K × V),mget (mset m k v) k'=if k'=k then some v else mget m k'
 | []=>by
  simp only [mset,mget]
 | p::r=>by
  simp only [mset]
  by_cases h:k=p.1
  ·rw [if_pos h]
   simp only [mget]
   by_cases h2:k'=k
   ·rw [if_pos h2,if_pos h2]
   ·rw [if_neg h2,if_neg h2,if_neg (by rw [← h]; exact h2)]
  ·rw [if_neg h]
   simp only [mget]
   rw [B3 k k' v r]
   by_cases h2:k'=p.1
   ·rw [if_pos h2,if_pos h2,if_neg (fun e=>h (e.symm.trans h2))]
   ·rw [if_neg h2,if_neg h2]
end Ab
end
section
namespace Ab
open Go
theorem W6{α:Type}[DecidableEq α]:∀ {c S:List α},c.Nodup→(∀ x ∈ c,x ∈ S)→c.length≤S.length
 | [],_,_,_=>Nat.zero_le _
 | a::c,S,h,hs=>by
  obtain ⟨h1,h2⟩:=List.nodup_cons.1 h
  have ha:=hs a (by simp)
  have:=W6 (c:=c) (S:=S.erase a) h2 fun x hx=>by
   have hne:x ≠ a:=fun e=>h1 (e ▸ hx)
   exact (List.mem_erase_of_ne hne).2 (hs x (List.mem_cons_of_mem _ hx))
  rw [List.length_erase_of_mem ha] at this
  have:0<S.length:=List.length_pos_of_mem ha
  simp only [List.length_cons]
  omega
section
variable {α:Type}
def Dn(G L:α→Prop)(nx:α→List α):Nat→α→Prop
 | 0,s=>G s
 | k+1,s=>G s∨(L s∧∀ y ∈ nx s,Dn G L nx k y)
variable {G L:α→Prop} {nx:α→List α}
theorem Dn.goal{k:Nat}{s:α}(h:G s):Dn G L nx k s:=by
 cases k with
 | zero=>exact h
 | succ k=>exact .inl h
theorem Dn.succ:∀ {k:Nat} {s:α},Dn G L nx k s→Dn G L nx (k+1) s
 | 0,s,h=>.inl h
 | k+1,s,h=>by
  rcases h with h | ⟨h1,h2⟩
  ·exact .inl h
  ·exact .inr ⟨h1,fun y hy=>(h2 y hy).succ⟩
theorem Dn.mono{k m:Nat}{s:α}(h:Dn G L nx k s)(hm:k≤m):Dn G L nx m s:=by
 induction hm with
 | refl=>exact h
 | step _ ih=>exact ih.succ
def Ht(G L:α→Prop)(nx:α→List α)(k:Nat)(s:α):Prop:=Dn G L nx k s∧∀ j,j<k→¬ Dn G L nx j s
theorem Ht.unique{k m:Nat}{s:α}(h:Ht G L nx k s)(h':Ht G L nx m s):k=m:=by
 rcases Nat.lt_trichotomy k m with c | c | c
 ·exact absurd h.1 (h'.2 k c)
 ·exact c
 ·exact absurd h'.1 (h.2 m c)
theorem Ht.le{k m:Nat}{s:α}(h:Ht G L nx k s)(h':Dn G L nx m s):k≤m:=by
 rcases Nat.lt_or_ge m k with c | c
 ·exact absurd h' (h.2 m c)
 ·exact c
theorem Ht.of_dn:∀ {k:Nat} {s:α},Dn G L nx k s→∃ m,m≤k∧Ht G L nx m s
 | 0,s,h=>⟨0,Nat.le_refl _,h,fun j hj=>by omega⟩
 | k+1,s,h=>by
  by_cases c:Dn G L nx k s
  ·obtain ⟨m,h1,h2⟩:=Ht.of_dn c
   exact ⟨m,by omega,h2⟩
  ·exact ⟨k+1,Nat.le_refl _,h,fun j hj hd=>c (hd.mono (by omega))⟩
theorem Ht.zero{s:α}(h:G s):Ht G L nx 0 s:=⟨h,fun j hj=>by omega⟩
theorem Ht.goal{k:Nat}{s:α}(h:Ht G L nx k s)(hg:G s):k=0:=h.unique (.zero hg)
theorem Ht.step{k:Nat}{s:α}(h:Ht G L nx k s)(hg:¬ G s)(hne:∀ s,L s→nx s ≠ []):∃ m,k=m+1∧L s∧(∀ y ∈ nx s,∃ j,j≤m∧Ht G L nx j y)∧∃ y ∈ nx s,Ht G L nx m y:=by
 cases k with
 | zero=>exact absurd h.1 hg
 | succ m=>
  rcases h.1 with g | ⟨h1,h2⟩
  ·exact absurd g hg
  ·refine ⟨m,rfl,h1,fun y hy=>Ht.of_dn (h2 y hy), ?_⟩
   cases m with
   | zero=>
    obtain ⟨y,hy⟩:=List.exists_mem_of_ne_nil _ (hne s h1)
    exact ⟨y,hy,h2 y hy,fun j hj=>by omega⟩
   | succ m=>
    have hn:=h.2 (m+1) (by omega)
    have:∃ y ∈ nx s,¬ Dn G L nx m y:=Classical.byContradiction fun hc=>hn (.inr ⟨h1,fun y hy=>Classical.byContradiction fun hy2=>hc ⟨y,hy,hy2⟩⟩)
    obtain ⟨y,hy,hy2⟩:=this
    exact ⟨y,hy,h2 y hy,fun j hj hd=>hy2 (hd.mono (by omega))⟩
end
end Ab
end
section
namespace Ab
open Go
/-! ### Maps -/
section
variable {K V:Type} [DecidableEq K]
theorem S7{k:K}{v:V}:∀ {m:List (K × V)},mget m k=none→mset m k v=m++[(k,v)]
 | [],_=>rfl
 | p::r,h=>by
  simp only [mget] at h
  split at h
  ·cases h
  ·rename_i hne
   simp only [mset,if_neg hne,S7 h,List.cons_append]
theorem mset_keys{k:K}{v:V}:∀ {m:List (K × V)},mget m k ≠ none→(mset m k v).map (·.1)=m.map (·.1)
 | [],h=>absurd rfl h
 | p::r,h=>by
  simp only [mget] at h
  simp only [mset]
  split
  ·rename_i e; simp [e]
  ·rename_i hne
   rw [if_neg hne] at h
   simp [mset_keys h]
theorem mget_mem{k:K}{v:V}:∀ {m:List (K × V)},mget m k=some v→(k,v) ∈ m
 | [],h=>by cases h
 | p::r,h=>by
  simp only [mget] at h
  split at h
  ·rename_i e; cases h; subst e; exact List.mem_cons_self
  ·exact List.mem_cons_of_mem _ (mget_mem h)
theorem an5{k:K}:∀ {m:List (K × V)},mget m k=none→k ∉ m.map (·.1)
 | [],_=>by simp
 | p::r,h=>by
  simp only [mget] at h
  split at h
  ·cases h
  ·rename_i hne
   have:=an5 h
   simp only [List.map_cons,List.mem_cons,not_or]
   exact ⟨hne,this⟩
end
theorem P5{α:Type}{l:List α}{i:Int}(h:i<0):ix l i=none:=by
 unfold ix; rw [if_neg (by omega)]
theorem af8{α:Type}{l:List α}{x:α}{i:Int}:ix (l++[x]) i=if i=l.length then some x else ix l i:=by
 by_cases h0:0≤i
 ·obtain ⟨k,rfl⟩:=Int.eq_ofNat_of_zero_le h0
  rw [P0,P0]
  by_cases e:k=l.length
  ·subst e; simp
  ·rw [if_neg (by omega)]
   rcases Nat.lt_or_ge k l.length with h | h
   ·rw [List.getElem?_append_left h]
   ·rw [List.getElem?_eq_none (by simp; omega),List.getElem?_eq_none h]
 ·rw [P5 (by omega),P5 (by omega),if_neg (by omega)]
theorem an9{α:Type}{l:List α}{x a:α}{i:Int}(h:ix l i=some a):ix (l++[x]) i=some a:=by
 rw [af8,if_neg (by have:=p9 h; omega),h]
theorem ix_snoc_new{α:Type}{l:List α}{x:α}:ix (l++[x]) (l.length:Int)=some x:=by rw [af8,if_pos rfl]
end Ab
end
section
namespace Ab
open Go
theorem numbers_eq(a b:List Int):T4 a b=some (dec (a=b)):=by
 unfold T4
 by_cases hl:(a.length:Int)=b.length
 ·rw [if_pos hl]
  rcases L3 (body:=S6 a b) (n:=(a.length:Int)) (fun j=>if dec (ix a j=ix b j)=true then none else some false) (by omega) (fun j h0 h1 _=>by
   obtain ⟨x,hx,_⟩:=m4 (l:=a) h0 h1
   obtain ⟨y,hy,_⟩:=m4 (l:=b) (i:=j) h0 (by omega)
   unfold S6
   rw [hx,hy]
   simp only [oB]
   by_cases e:x=y
   ·rw [if_pos e,ifP (by rw [e])]
   ·rw [if_neg e,ifN (by simpa using e)]) with ⟨h1,h2⟩ | ⟨j,o,h0,h1,h2,_,h4⟩
  ·rw [h1,m9]
   ·rfl
   ·refine List.ext_getElem? fun k=> ?_
    by_cases hk:k<a.length
    ·have:=h2 k (by omega) (by omega)
     split at this
     ·rename_i e
      have:=m5.1 e
      rwa [P0,P0] at this
     ·cases this
    ·rw [List.getElem?_eq_none (by omega),List.getElem?_eq_none (by omega)]
  ·rw [h4]
   split at h2
   ·cases h2
   ·rename_i e
    cases h2
    rw [w9 (fun h=>e (m9 (by rw [h])))]; rfl
 ·rw [if_neg hl,w9 (fun h=>hl (by rw [h]))]
theorem setN1(a:Int){n:Int}(h0:0≤a)(h1:a<n):SetN [a] n:=⟨by simp,by simp [h0,h1]⟩
def s5:f9:=⟨2,[0],[1],[⟨[0],[1],[0],1⟩,⟨[],[1],[],3⟩]⟩
theorem step_ok:m6 s5 where
 n0:=by decide
 n1:=by decide
 init:=setN1 0 (by decide) (by decide)
 goal:=setN1 1 (by decide) (by decide)
 ops:=by decide
 op o ho:=by
  simp only [s5,List.mem_cons,List.not_mem_nil,or_false] at ho
  rcases ho with rfl | rfl
  ·exact ⟨⟨setN1 0 (by decide) (by decide),setN1 1 (by decide) (by decide),setN1 0 (by decide) (by decide),by simp⟩,by decide,by decide⟩
  ·exact ⟨⟨setN_nil _,setN1 1 (by decide) (by decide),setN_nil _,by simp⟩,by decide,by decide⟩
end Ab
end
section
namespace Ab
open Go
def llt:List Int→List Int→Prop
 | [],[]=>False
 | [],_::_=>True
 | _::_,[]=>False
 | a::l,b::m=>a<b∨a=b∧llt l m
theorem X5:∀ l:List Int,¬ llt l l
 | []=>id
 | a::l=>fun h=>by
  rcases h with h | ⟨_,h⟩
  ·omega
  ·exact X5 l h
theorem ac4:∀ {a b c:List Int},llt a b→llt b c→llt a c
 | [],[],_,h,_=>h.elim
 | [],_::_,[],_,h=>h.elim
 | [],_::_,_::_,_,_=>trivial
 | _::_,[],_,h,_=>h.elim
 | _::_,_::_,[],_,h=>h.elim
 | x::a,y::b,z::c,h,g=>by
  rcases h with h | ⟨rfl,h⟩<;>rcases g with g | ⟨rfl,g⟩
  ·exact .inl (by omega)
  ·exact .inl h
  ·exact .inl g
  ·exact .inr ⟨rfl,ac4 h g⟩
theorem ac2:∀ a b:List Int,llt a b∨a=b∨llt b a
 | [],[]=>.inr (.inl rfl)
 | [],_::_=>.inl trivial
 | _::_,[]=>.inr (.inr trivial)
 | x::a,y::b=>by
  rcases Int.lt_trichotomy x y with h | rfl | h
  ·exact .inl (.inl h)
  ·rcases ac2 a b with h | rfl | h
   ·exact .inl (.inr ⟨rfl,h⟩)
   ·exact .inr (.inl rfl)
   ·exact .inr (.inr (.inr ⟨rfl,h⟩))
  ·exact .inr (.inr (.inl h))
theorem llt_asymm{a b:List Int}(h:llt a b)(g:llt b a):False:=X5 a (ac4 h g)
noncomputable def cmpL(a b:List Int):Int:=if dec (llt a b)=true then -1 else if dec (a=b)=true then 0 else 1
theorem ah4{a b:List Int}:cmpL a b<0↔llt a b:=by
 unfold cmpL
 by_cases h:llt a b
 ·rw [ifP h]; simp [h]
 ·rw [ifN h]
  split<;>simp [h]
theorem cmpL_eq{a b:List Int}:cmpL a b=0↔a=b:=by
 unfold cmpL
 by_cases h:llt a b
 ·rw [ifP h]
  constructor
  ·intro e; omega
  ·rintro rfl; exact absurd h (X5 _)
 ·rw [ifN h]
  by_cases g:a=b
  ·rw [ifP g]; simp [g]
  ·rw [ifN g]; simp [g]
theorem cmpInt_eq(x y:Int):P3 x y=some (if x<y then -1 else if y<x then 1 else 0):=by
 unfold P3 G0
 simp only [decide_true,Bool.not_true,oB,Bool.false_eq_true,if_false]
 split
 ·rfl
 ·split<;>rfl
theorem llt_drop:∀ {a b:List Int} (k:Nat),k≤a.length→k≤b.length→a.take k=b.take k→(llt a b↔llt (a.drop k) (b.drop k))
 | _,_,0,_,_,_=>by simp
 | [],_,k+1,h,_,_=>by simp at h
 | _::_,[],k+1,_,h,_=>by simp at h
 | x::a,y::b,k+1,h1,h2,h3=>by
  simp only [List.take_succ_cons,List.cons.injEq] at h3
  obtain ⟨rfl,h3⟩:=h3
  simp only [List.drop_succ_cons]
  rw [← llt_drop k (by simpa using h1) (by simpa using h2) h3]
  simp [llt]
theorem compare_eq(a b:List Int):w8 a b=some (cmpL a b):=by
 unfold w8
 rcases ap9 (body:=E4 a b) (n:=(a.length:Int)) (s:=()) (fun j _=>j≤b.length∧a.take j.toNat=b.take j.toNat) (fun o=>o=cmpL a b) (by omega) ⟨by omega,by simp⟩ (fun j _ j0 j1 ⟨k1,k2⟩=>by
  obtain ⟨x,hx,gx⟩:=m4 (l:=a) j0 j1
  have hxl:=(List.getElem?_eq_some_iff.1 gx).2
  unfold E4
  rw [hx]
  simp only [oB]
  have hd:=llt_drop (a:=a) (b:=b) j.toNat (by omega) (by omega) k2
  have da:a.drop j.toNat=x::a.drop (j.toNat+1):=by rw [← hxl]; exact List.drop_eq_getElem_cons (by omega)
  by_cases c:(b.length:Int)≤j
  ·rw [if_pos c]
   refine .inr ⟨_,rfl, ?_⟩
   have db:b.drop j.toNat=[]:=List.drop_of_length_le (by omega)
   rw [da,db] at hd
   unfold cmpL
   rw [ifN (fun h=>(hd.1 h).elim),ifN]
   rintro rfl; omega
  ·rw [if_neg c]
   obtain ⟨y,hy,gy⟩:=m4 (l:=b) (i:=j) j0 (by omega)
   have hyl:=(List.getElem?_eq_some_iff.1 gy).2
   have db:b.drop j.toNat=y::b.drop (j.toNat+1):=by rw [← hyl]; exact List.drop_eq_getElem_cons (by omega)
   rw [hy]
   simp only [oB,cmpInt_eq]
   rw [da,db] at hd
   have hne:x ≠ y→a ≠ b:=fun h e=>by subst e; rw [hx] at hy; cases hy; exact h rfl
   rcases Int.lt_trichotomy x y with h | rfl | h
   ·rw [if_pos h,if_neg (by decide)]
    refine .inr ⟨_,rfl, ?_⟩
    unfold cmpL
    rw [ifP (hd.2 (.inl h))]
   ·simp only [Int.lt_irrefl,if_false,if_true]
    refine .inl ⟨(),trivial,by omega, ?_⟩
    rw [show (j+1).toNat=j.toNat+1 by omega,List.take_add_one,List.take_add_one,gx,gy,k2]
   ·rw [if_neg (show ¬ x<y by omega),if_pos h,if_neg (by decide)]
    refine .inr ⟨_,rfl, ?_⟩
    unfold cmpL
    rw [ifN,ifN (hne (by omega))]
    intro g
    rcases hd.1 g with g | ⟨g,_⟩<;>omega) with ⟨_,r1,r2,r3⟩ | ⟨o,r1,rfl⟩
 ·rw [r1]
  simp only [oB]
  have hd:=llt_drop (a:=a) (b:=b) a.length (Nat.le_refl _) (by omega) (by simpa using r3)
  have da:a.drop a.length=[]:=by simp
  rw [da] at hd
  have e3:a=b.take a.length:=by simpa using r3
  by_cases c:(a.length:Int)<b.length
  ·rw [if_pos c]
   have:b.drop a.length ≠ []:=by simp; omega
   unfold cmpL
   rw [ifP]
   rw [hd]
   cases h:b.drop a.length with
   | nil=>exact absurd h this
   | cons x l=>trivial
  ·rw [if_neg c]
   have:a=b:=by rw [e3,List.take_of_length_le (by omega)]
   rw [cmpL_eq.2 this]
 ·rw [r1]; rfl
theorem cmp_ok:CmpOk w8 cmpL:=by
 refine ⟨compare_eq,⟨fun x=> ?_,fun x y z h1 h2=> ?_,fun x y z h1 h2=> ?_⟩,fun a b h1 h2=> ?_⟩
 ·simp only [Go.Proofs.ltOf,decide_eq_false_iff_not,ah4]
  exact X5 x
 ·simp only [Go.Proofs.ltOf,decide_eq_true_eq,ah4] at h1 h2 ⊢
  exact ac4 h1 h2
 ·simp only [Go.Proofs.ltOf,decide_eq_false_iff_not,ah4] at h1 h2 ⊢
  intro h
  rcases ac2 x y with g | rfl | g
  ·exact h1 g
  ·exact h2 h
  ·exact h2 (ac4 g h)
 ·rw [ah4] at h1 h2
  rcases ac2 a b with g | g | g
  ·exact absurd g h1
  ·exact g
  ·exact absurd g h2
/-! ### Lists compared -/
theorem listEq{α:Type}{a b:List α}{body:Int→Unit→Option (Unit ⊕ Bool)}(hl:a.length=b.length)(hb:∀ j x y,ix a j=some x→ix b j=some y→(x=y∧body j ()=some (.inl ()))∨(x ≠ y∧body j ()=some (.inr false))):
  (Option.bind (rngX 0 (a.length:Int) body ()) fun | .inl _=>some true | .inr x=>some x)=some (dec (a=b)):=by
 rcases L3 (body:=body) (n:=(a.length:Int)) (fun j=>if dec (ix a j=ix b j)=true then none else some false) (by omega) (fun j h0 h1 _=>by
  obtain ⟨x,hx,_⟩:=m4 (l:=a) h0 h1
  obtain ⟨y,hy,_⟩:=m4 (l:=b) (i:=j) h0 (by omega)
  rcases hb j x y hx hy with ⟨e,h⟩ | ⟨e,h⟩
  ·rw [h,ifP (by rw [hx,hy,e])]
  ·rw [h,ifN (by rw [hx,hy]; simpa using e)]) with ⟨h1,h2⟩ | ⟨j,o,h0,h1,h2,_,h4⟩
 ·rw [h1,m9]
  ·rfl
  ·refine List.ext_getElem? fun k=> ?_
   by_cases hk:k<a.length
   ·have:=h2 k (by omega) (by omega)
    split at this
    ·rename_i e
     have:=m5.1 e
     rwa [P0,P0] at this
    ·cases this
   ·rw [List.getElem?_eq_none (by omega),List.getElem?_eq_none (by omega)]
 ·rw [h4]
  split at h2
  ·cases h2
  ·rename_i e
   cases h2
   rw [w9 (fun h=>e (m9 (by rw [h])))]; rfl
theorem twoInts_eq(a b:List (Int × Int)):N4 a b=some (dec (a=b)):=by
 unfold N4
 by_cases hl:(a.length:Int)=b.length
 ·rw [if_pos hl]
  refine listEq (by omega) fun j x y hx hy=> ?_
  unfold aa6
  simp only [hx,hy,oB]
  by_cases e:x=y
  ·subst e
   rw [if_neg (by simp)]; exact .inl ⟨rfl,rfl⟩
  ·rw [if_pos]
   ·exact .inr ⟨e,rfl⟩
   ·obtain ⟨x1,x2⟩:=x
    obtain ⟨y1,y2⟩:=y
    simp only [Prod.mk.injEq,not_and] at e
    simp
    by_cases h:x1=y1
    ·exact .inr (e h)
    ·exact .inl h
 ·rw [if_neg hl,w9 (fun h=>hl (by rw [h]))]
theorem equal_eq(a b:List Int):C3 a b=some (dec (a=b)):=by
 unfold C3
 by_cases hl:(a.length:Int)=b.length
 ·rw [if_pos hl]
  refine listEq (by omega) fun j x y hx hy=> ?_
  unfold N3
  simp only [hx,hy,oB]
  by_cases e:x=y
  ·rw [if_pos e]; exact .inl ⟨e,rfl⟩
  ·rw [if_neg e]; exact .inr ⟨e,rfl⟩
 ·rw [if_neg hl,w9 (fun h=>hl (by rw [h]))]
/-! ### Ordered lists -/
abbrev Ord(l:List (List Int)):Prop:=l.Pairwise llt
theorem Ord.ext:∀ {l m:List (List Int)},Ord l→Ord m→(∀ x,x ∈ l↔x ∈ m)→l=m
 | [],[],_,_,_=>rfl
 | [],b::m,_,_,h=>absurd ((h b).2 (by simp)) (by simp)
 | a::l,[],_,_,h=>absurd ((h a).1 (by simp)) (by simp)
 | a::l,b::m,hl,hm,h=>by
  obtain ⟨l1,l2⟩:=List.pairwise_cons.1 hl
  obtain ⟨m1,m2⟩:=List.pairwise_cons.1 hm
  have hab:a=b:=by
   rcases List.mem_cons.1 ((h a).1 (by simp)) with e | e
   ·exact e
   ·rcases List.mem_cons.1 ((h b).2 (by simp)) with e' | e'
    ·exact e'.symm
    ·exact (llt_asymm (l1 b e') (m1 a e)).elim
  subst hab
  rw [Ord.ext l2 m2 fun x=>⟨fun hx=> ?_,fun hx=> ?_⟩]
  ·rcases List.mem_cons.1 ((h x).1 (by simp [hx])) with e | e
   ·subst e; exact absurd (l1 x hx) (X5 x)
   ·exact e
  ·rcases List.mem_cons.1 ((h x).2 (by simp [hx])) with e | e
   ·subst e; exact absurd (m1 x hx) (X5 x)
   ·exact e
def ddN(l:List (List Int)):Nat→List (List Int)
 | 0=>[]
 | m+1=>ddN l m++if decide (m=0∨l[m]? ≠ l[m - 1]?)=true then l[m]?.toList else []
theorem ddN_spec{l:List (List Int)}(hs:l.Pairwise fun a b=>¬ llt b a):∀ m,m≤l.length→Ord (ddN l m)∧∀ x,x ∈ ddN l m↔x ∈ l.take m:=by
 intro m
 induction m with
 | zero=>intro _; simp [ddN]
 | succ m ih=>
  intro hm
  obtain ⟨h1,h2⟩:=ih (by omega)
  have hlt:m<l.length:=by omega
  have ht:l.take (m+1)=l.take m++[l[m]]:=by rw [List.take_add_one]; simp [hlt]
  rw [ddN,ht]
  by_cases hk:m=0∨l[m]? ≠ l[m - 1]?
  ·rw [if_pos (by simpa using hk)]
   simp only [List.getElem?_eq_getElem hlt,Option.toList_some]
   refine ⟨List.pairwise_append.2 ⟨h1,by simp,fun a ha b hb=> ?_⟩,fun x=>by rw [List.mem_append,List.mem_append,h2]⟩
   simp only [List.mem_singleton] at hb
   subst hb
   have ha':=(h2 a).1 ha
   obtain ⟨i,hi,rfl⟩:=List.mem_iff_getElem.1 ha'
   rw [List.length_take] at hi
   rw [List.getElem_take]
   rcases hk with hk | hk
   ·omega
   ·have hm1:m - 1<l.length:=by omega
    rw [List.getElem?_eq_getElem hlt,List.getElem?_eq_getElem hm1] at hk
    have e1:¬ llt l[m] l[m - 1]:=List.pairwise_iff_getElem.1 hs (m - 1) m hm1 hlt (by omega)
    have e2:llt l[m - 1] l[m]:=by
     rcases ac2 l[m - 1] l[m] with h | h | h
     ·exact h
     ·exact absurd (by rw [h]) hk
     ·exact absurd h e1
    by_cases hi2:i=m - 1
    ·subst hi2; exact e2
    ·have e3:¬ llt l[m - 1] l[i]:=List.pairwise_iff_getElem.1 hs i (m - 1) (by omega) hm1 (by omega)
     rcases ac2 l[i] l[m] with h | h | h
     ·exact h
     ·rw [h] at e3; exact absurd e2 e3
     ·exact absurd (ac4 e2 h) e3
  ·rw [if_neg (by simpa using hk),List.append_nil]
   refine ⟨h1,fun x=> ?_⟩
   rw [h2,List.mem_append]
   refine ⟨.inl,fun h=> ?_⟩
   rcases h with h | h
   ·exact h
   ·simp only [List.mem_singleton] at h
    subst h
    have hm0:m ≠ 0:=fun e=>hk (.inl e)
    have he:l[m]? =l[m - 1]? :=Classical.not_not.1 fun e=>hk (.inr e)
    rw [List.getElem?_eq_getElem hlt,List.getElem?_eq_getElem (show m - 1<l.length by omega)] at he
    rw [Option.some.inj he,List.mem_take_iff_getElem]
    exact ⟨m - 1,by omega,rfl⟩
theorem ddN_len(l:List (List Int)):∀ m,(ddN l m).length≤m
 | 0=>by simp [ddN]
 | m+1=>by
  have:=ddN_len l m
  rw [ddN,List.length_append]
  split
  ·have:(l[m]?.toList).length≤1:=by cases l[m]? <;>simp
   omega
  ·simp; omega
theorem ddN_all{l:List (List Int)}:∀ m,m≤l.length→(∀ i,0<i→i<m→l[i]? ≠ l[i - 1]?)→ddN l m=l.take m
 | 0,_,_=>by simp [ddN]
 | m+1,hm,h=>by
  rw [ddN,ddN_all m (by omega) fun i h0 h1=>h i h0 (by omega),if_pos,List.take_add_one]
  rw [decide_eq_true_eq]
  by_cases e:m=0
  ·exact .inl e
  ·exact .inr (h m (by omega) (by omega))
theorem compactF_eq{l:List (List Int)}(hl:l.length≤1000000):x8 l=some (ddN l l.length):=by
 unfold x8
 by_cases c0:(l.length:Int)<2
 ·rw [if_pos c0,ddN_all l.length (Nat.le_refl _) fun i h0 h1=>by omega,List.take_length]
 ·rw [if_neg c0]
  have key:=rngN_inv (body:=q9 l) (fun j _=>∀ i:Nat,0<i→(i:Int)<j→l[i]? ≠ l[i - 1]?) (fun o=>o=ddN l l.length) ((l.length:Int) - 1).toNat 1 () (fun i h0 h1=>by omega) (fun j _ j0 j1 hP=>by
   obtain ⟨a,ha,ga⟩:=m4 (l:=l) (i:=j) (by omega) (by omega)
   obtain ⟨b,hb,gb⟩:=m4 (l:=l) (i:=j - 1) (by omega) (by omega)
   unfold q9
   simp only [ha,hb,oB,equal_eq]
   have ej:(j - 1).toNat=j.toNat - 1:=by omega
   rw [ej] at gb
   by_cases c:a=b
   ·rw [ifP c]
    subst c
    right
    rw [show cutV (l.length:Int) j (l.length:Int)=some () by rw [cutV,if_pos (by omega)]]
    simp only [oB]
    obtain ⟨⟨cs,kv⟩,r1,r2,r3,r4,r5,r6⟩:=forN_inv (body:=v6 l j) (fun k2 p=>p.1.length=l.length∧j≤p.2∧p.2≤j+k2 - 1∧p.1.take p.2.toNat=ddN l (j+k2).toNat∧∀ i:Nat,j+k2 - 1≤i→p.1[i]? =l[i]?) ((l.length:Int) - j - 1).toNat 1 (l,j) ⟨rfl,by simp,by dsimp only; omega,by
      dsimp only
      rw [show (j+1).toNat=j.toNat+1 by omega,ddN,if_neg,List.append_nil,ddN_all j.toNat (by omega) fun i h0 h1=>hP i h0 (by omega)]
      rw [decide_eq_true_eq]
      rintro (h | h)
      ·omega
      ·exact h (ga.trans gb.symm),fun i _=>rfl⟩ (fun k2 ⟨cs,kv⟩ k0 k1 ⟨g1,g2,g3,g4,g5⟩=>by
      dsimp only at g1 g2 g3 g4 g5 ⊢
      obtain ⟨x,hx,gx⟩:=m4 (l:=l) (i:=j+k2) (by omega) (by omega)
      obtain ⟨y,hy,gy⟩:=m4 (l:=l) (i:=j+k2 - 1) (by omega) (by omega)
      have iv:∀ i:Int,0≤i→i<(l.length:Int) - j→ixV cs (0+j) ((l.length:Int) - j) i=ix cs (j+i):=fun i h0 h1=>by
       rw [ixV,if_pos (by omega),Int.zero_add]
      have same:∀ i:Int,j+k2 - 1≤i→ix cs i=ix l i:=fun i hi=>by
       have:=g5 i.toNat (by omega)
       simp only [ix]
       rw [this]
      unfold v6
      dsimp only
      rw [iv k2 (by omega) (by omega),iv (k2 - 1) (by omega) (by omega),show j+(k2 - 1)=j+k2 - 1 by omega,same _ (by omega),same _ (by omega),hx,hy]
      simp only [oB,equal_eq,L4]
      have ek:(j+(k2+1)).toNat=(j+k2).toNat+1:=by omega
      have ek1:(j+k2 - 1).toNat=(j+k2).toNat - 1:=by omega
      rw [ek1] at gy
      by_cases cx:x=y
      ·rw [ifNN cx]
       refine ⟨_,rfl,g1,g2,by omega, ?_,fun i hi=>g5 i (by omega)⟩
       dsimp only
       rw [ek,ddN,if_neg,List.append_nil]
       ·exact g4
       ·rw [decide_eq_true_eq]
        rintro (h | h)
        ·omega
        ·exact h (by rw [gx,gy,cx])
      ·rw [ifP cx]
       obtain ⟨z,hz,gz⟩:=m4 (l:=cs) (i:=kv) (by omega) (by omega)
       simp only [hz,oB]
       rw [v7 (by omega) (by omega)]
       refine ⟨_,rfl,by rw [List.length_set]; exact g1,by omega,by omega, ?_,fun i hi=> ?_⟩
       ·dsimp only
        rw [ek,ddN,if_pos,gx,show (kv+1).toNat=kv.toNat+1 by omega,List.take_add_one,List.getElem?_set,if_pos rfl,if_pos (by omega),List.take_set_of_le (Nat.le_refl _),g4]
        rw [decide_eq_true_eq]
        exact .inr (by rw [gx,gy]; simpa using cx)
       ·dsimp only
        rw [List.getElem?_set,if_neg (by omega)]
        exact g5 i (by omega))
    have ef:forR 1 ((l.length:Int) - j) (v6 l j) (l,j)=some (cs,kv):=r1
    dsimp only at r2 r3 r4 r5 r6
    rw [ef]
    simp only [oB]
    have hcl:(clrL cs (0+kv) ((cs.length:Int) - kv) []).length=cs.length:=by simp [clrL]; omega
    rw [show cutV (cs.length:Int) kv (cs.length:Int)=some () by rw [cutV,if_pos (by omega)]]
    simp only [oB,hcl]
    rw [show cutV (cs.length:Int) 0 kv=some () by rw [cutV,if_pos (by omega)]]
    refine ⟨_,rfl, ?_⟩
    have e1:k6 (clrL cs (0+kv) ((cs.length:Int) - kv) []) 0 kv=cs.take kv.toNat:=by
     simp only [k6,clrL,Int.zero_add,Int.toNat_zero,List.drop_zero]
     rw [List.append_assoc,List.take_append_of_le_length (by simp; omega),List.take_take,Nat.min_self]
    rw [e1,r5]
    congr 1
    omega
   ·rw [ifN c]
    left
    refine ⟨(),rfl,fun i h0 h1=> ?_⟩
    by_cases e:(i:Int)=j
    ·have:i=j.toNat:=by omega
     subst this
     rw [ga,gb]
     simpa using c
    ·exact hP i h0 (by omega))
  rcases key with ⟨_,h1,h2⟩ | ⟨o,h1,rfl⟩
  ·have:rngX 1 (l.length:Int) (q9 l) ()=some (.inl ()):=h1
   rw [this]
   simp only [oB]
   rw [ddN_all l.length (Nat.le_refl _) fun i h0 h1=>h2 i h0 (by omega),List.take_length]
  ·have:rngX 1 (l.length:Int) (q9 l) ()=some (.inr (ddN l l.length)):=h1
   rw [this]; rfl
theorem normal_eq{l:List (List Int)}(hl:l.length≤1000000):∃ r,P1 l=some r∧Ord r∧(∀ x,x ∈ r↔x ∈ l)∧r.length≤l.length:=by
 unfold P1
 rw [sortFL_eq (by omega) cmp_ok]
 simp only [oB]
 have hlen:(l.mergeSort fun x y=>decide (¬ cmpL y x<0)).length=l.length:=by simp
 rw [compactF_eq (by rw [hlen]; exact hl)]
 have hs:(l.mergeSort fun x y=>decide (¬ cmpL y x<0)).Pairwise fun a b=>¬ llt b a:=by
  have:=List.pairwise_mergeSort (le:=fun x y:List Int=>decide (¬ cmpL y x<0)) (fun a b c h1 h2=>by
   simp only [decide_eq_true_eq,ah4] at h1 h2 ⊢
   intro h
   rcases ac2 b a with g | g | g
   ·exact h1 g
   ·subst g; exact h2 h
   ·exact h2 (ac4 h g)) (fun a b=>by
   simp only [Bool.or_eq_true,decide_eq_true_eq,ah4]
   by_cases h:llt b a
   ·exact .inr fun g=>llt_asymm h g
   ·exact .inl h) l
  exact this.imp fun h=>by simpa [ah4] using h
 obtain ⟨h1,h2⟩:=ddN_spec hs _ (Nat.le_refl _)
 refine ⟨_,rfl,h1,fun x=> ?_, ?_⟩
 ·rw [h2,List.take_length]; simp
 ·have:=ddN_len (l.mergeSort fun x y=>decide (¬ cmpL y x<0)) (l.mergeSort fun x y=>decide (¬ cmpL y x<0)).length
  rw [hlen] at this
  rw [hlen]; exact this
end Ab
end
section
namespace Ab
open Go
theorem wsN_tb:∀ {l:List Int},Inc l→(∀ x ∈ l,0≤x)→∀ k:Nat,(wsN l).testBit k=dec ((k:Int) ∈ l)
 | [],_,_,k=>by simp [wsN,dec]
 | a::l,h,h0,k=>by
  have hc:=List.pairwise_cons.1 h
  obtain ⟨q,hq⟩:2 ^ (a.toNat+1) ∣ wsN l:=wsN_dvd fun x hx=>by have:=hc.1 x hx; have:=h0 a (by simp); omega
  have ih:=wsN_tb hc.2 (fun x hx=>h0 x (List.mem_cons_of_mem _ hx)) k
  have e:wsN (a::l)=wsN l ||| 2 ^ a.toNat:=by
   rw [hq,← Nat.two_pow_add_eq_or_of_lt (Nat.pow_lt_pow_right (by omega) (by omega)) q,← hq]
   simp only [wsN]; omega
  rw [e,Nat.testBit_or,ih,Nat.testBit_two_pow]
  have ha:=h0 a (by simp)
  by_cases c:(k:Int)=a
  ·have:a.toNat=k:=by omega
   simp [this,c]
  ·have:¬ a.toNat=k:=by omega
   simp [this,c]
theorem SetN.tb{s:List Int}{n:Int}(h:SetN s n)(k:Nat):(wsN s).testBit k=dec ((k:Int) ∈ s):=wsN_tb h.1 (fun x hx=>(h.2 x hx).1) k
theorem SetN.w32{s:List Int}{n:Int}(h:SetN s n)(hn:n≤24):wsN s<4294967296:=by
 refine Nat.lt_pow_two_of_testBit (n:=32) _ fun i hi=> ?_
 rw [h.tb,dec_false]
 intro q
 have:=(h.2 _ q).2
 omega
theorem wrap32{n:Nat}(h:n<4294967296):IntKind.wrap .u32 (n:Int)=n:=by
 simp only [IntKind.wrap,IntKind.bits,IntKind.signed,Bool.false_and,Bool.false_eq_true,if_false]
 omega
theorem bit_and{a b:Nat}(ha:a<4294967296):Go.bits .and .u32 (a:Int) (b:Int)=((a &&& b:Nat):Int):=by
 have e:(BitVec.ofNat 32 a &&& BitVec.ofNat 32 b).toNat=a &&& b:=by
  rw [BitVec.toNat_and,BitVec.toNat_ofNat,BitVec.toNat_ofNat]
  refine Nat.eq_of_testBit_eq fun i=> ?_
  simp only [Nat.testBit_and,Nat.testBit_mod_two_pow]
  by_cases c:i<32
  ·simp [c]
  ·have:a.testBit i=false:=Nat.testBit_lt_two_pow (Nat.lt_of_lt_of_le ha (Nat.pow_le_pow_right (n:=2) (by omega) (show 32≤i by omega)))
   simp [this]
 rw [← e]
 simp only [Go.bits,BitVec.ofInt_natCast,IntKind.bits]
 exact wrap32 (BitVec.ofNat 32 a &&& BitVec.ofNat 32 b).isLt
theorem bit_or{a b:Nat}(ha:a<4294967296)(hb:b<4294967296):Go.bits .or .u32 (a:Int) (b:Int)=((a ||| b:Nat):Int):=by
 have e:(BitVec.ofNat 32 a ||| BitVec.ofNat 32 b).toNat=a ||| b:=by
  rw [BitVec.toNat_or,BitVec.toNat_ofNat,BitVec.toNat_ofNat,Nat.mod_eq_of_lt (by simpa using ha),Nat.mod_eq_of_lt (by simpa using hb)]
 rw [← e]
 simp only [Go.bits,BitVec.ofInt_natCast,IntKind.bits]
 exact wrap32 (BitVec.ofNat 32 a ||| BitVec.ofNat 32 b).isLt
theorem bit_andNot{a b:Nat}(ha:a<4294967296):∃ c:Nat,Go.bits .andNot .u32 (a:Int) (b:Int)=(c:Int)∧c<4294967296∧∀ k,c.testBit k=(a.testBit k && !b.testBit k):=by
 refine ⟨(BitVec.ofNat 32 a &&& ~~~BitVec.ofNat 32 b).toNat, ?_,(BitVec.ofNat 32 a &&& ~~~BitVec.ofNat 32 b).isLt,fun k=> ?_⟩
 ·simp only [Go.bits,BitVec.ofInt_natCast,IntKind.bits]
  exact wrap32 (BitVec.ofNat 32 a &&& ~~~BitVec.ofNat 32 b).isLt
 ·rw [BitVec.testBit_toNat,BitVec.getLsbD_and,BitVec.getLsbD_not,BitVec.getLsbD_ofNat,BitVec.getLsbD_ofNat]
  by_cases c:k<32
  ·simp [c]
  ·have:a.testBit k=false:=Nat.testBit_lt_two_pow (Nat.lt_of_lt_of_le ha (Nat.pow_le_pow_right (n:=2) (by omega) (show 32≤k by omega)))
   simp [c,this]
theorem sub_word{s p:List Int}{n:Int}(hs:SetN s n)(hp:SetN p n)(hn:n≤24):Go.bits .and .u32 (wsN s:Int) (wsN p:Int)=(wsN p:Int)↔∀ x ∈ p,x ∈ s:=by
 rw [bit_and (hs.w32 hn)]
 constructor
 ·intro h x hx
  have h0:=(hp.2 x hx).1
  have e:(wsN s &&& wsN p)=wsN p:=by omega
  have:=congrArg (fun n=>Nat.testBit n x.toNat) e
  simp only [Nat.testBit_and,hs.tb,hp.tb,show ((x.toNat:Nat):Int)=x by omega,m9 hx,Bool.and_true,m5] at this
  exact this
 ·intro h
  have e:(wsN s &&& wsN p)=wsN p:=by
   refine Nat.eq_of_testBit_eq fun i=> ?_
   rw [Nat.testBit_and,hs.tb,hp.tb,dec_and]
   exact O5 ⟨fun q=>q.2,fun q=>⟨h _ q,q⟩⟩
  rw [e]
theorem next_word{s d a:List Int}{n:Int}(hs:SetN s n)(hd:SetN d n)(ha:SetN a n)(hn:n≤24):
  Go.bits .or .u32 (Go.bits .andNot .u32 (wsN s:Int) (wsN d:Int)) (wsN a:Int)=(wsN (G5 (fun x=>x ∈ a∨x ∈ s∧x ∉ d) n):Int):=by
 obtain ⟨c,c1,c2,c3⟩:=bit_andNot (b:=wsN d) (hs.w32 hn)
 have hr:SetN (G5 (fun x=>x ∈ a∨x ∈ s∧x ∉ d) n) n:=ar2 _ _
 rw [c1,bit_or c2 (ha.w32 hn)]
 have e:c ||| wsN a=wsN (G5 (fun x=>x ∈ a∨x ∈ s∧x ∉ d) n):=by
  refine Nat.eq_of_testBit_eq fun i=> ?_
  rw [Nat.testBit_or,c3,hs.tb,hd.tb,ha.tb,hr.tb,L4,dec_and,dec_or]
  refine O5 ?_
  rw [R8]
  constructor
  ·rintro (⟨q1,q2⟩ | q)
   ·exact ⟨(hs.2 _ q1).1,(hs.2 _ q1).2,.inr ⟨q1,q2⟩⟩
   ·exact ⟨(ha.2 _ q).1,(ha.2 _ q).2,.inl q⟩
  ·rintro ⟨_,_,q | q⟩
   ·exact .inr q
   ·exact .inl q
 rw [e]
theorem al4{s:List Int}{n:Int}(hs:SetN s n)(hn:n≤24):K3 s=some (wsN s:Int):=by
 unfold K3
 obtain ⟨w,h1,h2⟩:=F4 (body:=aa3 s) (n:=(s.length:Int)) (s:=0) (fun j w=>w=(wsN (s.take j.toNat):Int)) (by omega) (by simp [wsN]) (fun j w j0 j1 hP=>by
  obtain ⟨a,ha,ga⟩:=m4 (l:=s) j0 j1
  have hb:=hs.2 a (w6 ha)
  have ht:s.take (j+1).toNat=s.take j.toNat++[a]:=by rw [show (j+1).toNat=j.toNat+1 by omega,List.take_add_one,ga]; rfl
  have h1:SetN (s.take j.toNat) n:=⟨List.Pairwise.sublist (List.take_sublist _ _) hs.1,fun x hx=>hs.2 x (List.mem_of_mem_take hx)⟩
  have h2:SetN (s.take j.toNat++[a]) n:=by rw [← ht]; exact ⟨List.Pairwise.sublist (List.take_sublist _ _) hs.1,fun x hx=>hs.2 x (List.mem_of_mem_take hx)⟩
  have h3:SetN [a] n:=⟨List.pairwise_singleton _ _,fun x hx=>by simp at hx; subst hx; exact hb⟩
  have e1:shlW .u32 1 a=(wsN [a]:Int):=by
   have:=h3.w32 hn
   unfold shlW
   simp only [wsN,Nat.add_zero] at this ⊢
   rw [show min a.toNat (IntKind.u32).bits=a.toNat by simp only [IntKind.bits]; omega,Int.one_mul]
   have ep:(2:Int) ^ a.toNat=((2 ^ a.toNat:Nat):Int):=by push_cast; rfl
   rw [ep]; exact wrap32 this
  refine ⟨Go.bits .or .u32 w (shlW .u32 1 a),by simp only [aa3,ha,oB,chk0,if_neg (show ¬ a<0 by omega)], ?_⟩
  rw [e1,hP,bit_or (h1.w32 hn) (h3.w32 hn),ht]
  have e:wsN (s.take j.toNat) ||| wsN [a]=wsN (s.take j.toNat++[a]):=by
   refine Nat.eq_of_testBit_eq fun i=> ?_
   rw [Nat.testBit_or,h1.tb,h2.tb,h3.tb,dec_or]
   exact O5 (by simp)
  rw [e])
 rw [h1,h2,Int.toNat_natCast,List.take_length]
 rfl
noncomputable def K0(w:Nat)(n:Nat):List Int:=(nums 0 n).filter fun x=>w.testBit x.toNat
theorem facts_eq{w:Nat}(hw:w<4294967296):U2 (w:Int)=some (K0 w 32):=by
 unfold U2
 obtain ⟨r,h1,h2⟩:=F4 (body:=X6 (w:Int)) (n:=32) (s:=[]) (fun j c=>c=K0 w j.toNat) (by omega) (by simp [K0,nums]) (fun j c j0 j1 hP=>by
  subst hP
  have hlen:(K0 w j.toNat).length≤32:=by
   refine Nat.le_trans (List.length_filter_le _ _) ?_
   rw [len_nums]; omega
  have hn:nums 0 (j+1).toNat=nums 0 j.toNat++[j]:=by
   refine Inc.ext (aq4 _ _) (List.pairwise_append.2 ⟨aq4 _ _,List.pairwise_singleton _ _,fun x hx y hy=> ?_⟩) fun x=> ?_
   ·simp at hy; subst hy; have:=W1.1 hx; omega
   ·rw [List.mem_append,W1,W1,List.mem_singleton]; omega
  have e1:shrW .u32 (w:Int) j=((w>>>j.toNat:Nat):Int):=by
   unfold shrW
   rw [show min j.toNat (IntKind.u32).bits=j.toNat by simp only [IntKind.bits]; omega]
   have ep:(2:Int) ^ j.toNat=((2 ^ j.toNat:Nat):Int):=by push_cast; rfl
   rw [ep,Nat.shiftRight_eq_div_pow,Int.fdiv_eq_ediv_of_nonneg _ (Int.natCast_nonneg _)]
   rfl
  have h2:w>>>j.toNat<4294967296:=Nat.lt_of_le_of_lt (Nat.shiftRight_le _ _) hw
  have e2:Go.bits .and .u32 ((w>>>j.toNat:Nat):Int) 1=((w>>>j.toNat &&& 1:Nat):Int):=bit_and (b:=1) h2
  have e3:(w>>>j.toNat &&& 1=1)↔w.testBit j.toNat=true:=by
   rw [Nat.testBit]; simp [Nat.and_comm]
  unfold X6
  rw [e1,e2]
  by_cases c:w.testBit j.toNat=true
  ·rw [if_pos (by have:=e3.2 c; omega),app,if_pos (by simp; omega)]
   exact ⟨_,rfl,by simp [K0,hn,List.filter_append,c]⟩
  ·rw [if_neg (fun q=>c (e3.1 (by omega)))]
   exact ⟨_,rfl,by simp [K0,hn,List.filter_append,c]⟩)
 rw [h1,h2]; rfl
theorem bitsOf_inj{a b:Nat}(ha:a<4294967296)(hb:b<4294967296)(h:K0 a 32=K0 b 32):a=b:=by
 refine Nat.eq_of_testBit_eq fun i=> ?_
 by_cases c:i<32
 ·have key:∀ w:Nat,(i:Int) ∈ K0 w 32↔w.testBit i=true:=fun w=>by
   simp only [K0,List.mem_filter,W1,Int.toNat_natCast]
   exact ⟨fun q=>q.2,fun q=>⟨by omega,q⟩⟩
  have:=(key a).symm.trans ((by rw [h]):((i:Int) ∈ K0 a 32↔(i:Int) ∈ K0 b 32)) |>.trans (key b)
  cases h1:a.testBit i<;>cases h2:b.testBit i<;>simp [h1,h2] at this ⊢
 ·have low:∀ w:Nat,w<4294967296→w.testBit i=false:=fun w hw=>Nat.testBit_lt_two_pow (Nat.lt_of_lt_of_le hw (Nat.pow_le_pow_right (n:=2) (by omega) (show 32≤i by omega)))
  rw [low a ha,low b hb]
theorem words_cmp:CmpOk (fun a b:U32=>I6 a.1 b.1) (fun a b=>cmpL (K0 a.1.toNat 32) (K0 b.1.toNat 32)):=by
 obtain ⟨h1,h2,h3⟩:=cmp_ok
 refine ⟨fun a b=> ?_,⟨fun x=>h2.irrefl _,fun x y z=>h2.trans _ _ _,fun x y z=>h2.ntrans _ _ _⟩,fun a b q1 q2=> ?_⟩
 ·have ea:=facts_eq (w:=a.1.toNat) (by have:=a.2; omega)
  have eb:=facts_eq (w:=b.1.toNat) (by have:=b.2; omega)
  rw [show ((a.1.toNat:Nat):Int)=a.1 by have:=a.2; omega] at ea
  rw [show ((b.1.toNat:Nat):Int)=b.1 by have:=b.2; omega] at eb
  simp only [I6,ea,eb,oB,h1]
 ·have:=bitsOf_inj (a:=a.1.toNat) (b:=b.1.toNat) (by have:=a.2; omega) (by have:=b.2; omega) (h3 _ _ q1 q2)
  have ha:=a.2; have hb:=b.2
  exact Subtype.ext (by omega)
theorem sortW{l:List Int}(hl:l.length≤1000000)(hw:∀ x ∈ l,0≤x∧x<4294967296):∃ l',sortFU I6 l=some l'∧l'.Perm l:=by
 unfold sortFU
 rw [dif_pos hw,sortFL_eq (by simp; omega) words_cmp]
 refine ⟨_,rfl, ?_⟩
 have:=(List.mergeSort_perm (l.attach.map fun x=>(⟨x.1,hw x.1 x.2⟩:U32)) (fun x y=>decide (¬ cmpL (K0 y.1.toNat 32) (K0 x.1.toNat 32)<0))).map (fun z:U32=>z.1)
 simpa using this
end Ab
end
section
namespace Ab
open Go
inductive Rt(t:f9):List Int→Prop
 | init:Rt t t.init
 | step {s:List Int} {op:Int} (h:Rt t s) (h0:0≤op) (h1:op<t.operators.length) (hc:can t s op):Rt t (aft t s op)
theorem Rt.setN{t:f9}(ht:m6 t){s:List Int}(h:Rt t s):SetN s t.facts:=by
 cases h with
 | init=>exact ht.init
 | step=>exact setN_aft _ _ _
theorem Rt.ends{t:f9}:∀ {plan s e:List Int},Rt t s→(∀ x ∈ plan,(0:Int)≤x∧x<t.operators.length)→ends t s plan=some e→Rt t e
 | [],s,e,hs,_,h=>by simp only [Ab.ends,Option.some.injEq] at h; subst h; exact hs
 | op::r,s,e,hs,hv,h=>by
  simp only [Ab.ends] at h
  split at h
  ·rename_i hc
   have:=hv op List.mem_cons_self
   exact Rt.ends (hs.step this.1 this.2 (m5.1 hc)) (fun x hx=>hv x (List.mem_cons_of_mem _ hx)) h
  ·cases h
theorem Rt.way{t:f9}{s:List Int}(h:Rt t s):∃ plan:List Int,(∀ x ∈ plan,(0:Int)≤x∧x<t.operators.length)∧Ab.ends t t.init plan=some s:=by
 induction h with
 | init=>exact ⟨[],by simp,rfl⟩
 | @step s op h h0 h1 hc ih=>
  obtain ⟨p,p1,p2⟩:=ih
  refine ⟨p++[op],fun x hx=> ?_, ?_⟩
  ·rcases List.mem_append.1 hx with hx | hx
   ·exact p1 x hx
   ·simp only [List.mem_singleton] at hx; subst hx; exact ⟨h0,h1⟩
  ·rw [ends_append,p2]
   simp only [oB,Ab.ends]
   rw [if_pos (m9 hc)]
def Cls(t:f9)(l:List (List Int))(s:List Int):Prop:=∀ op:Int,0≤op→op<t.operators.length→can t s op→aft t s op ∈ l
theorem Rt.mem{t:f9}{l:List (List Int)}(hi:t.init ∈ l)(hc:∀ s ∈ l,Cls t l s){s:List Int}(h:Rt t s):s ∈ l:=by
 induction h with
 | init=>exact hi
 | step h h0 h1 hcan ih=>exact hc _ ih _ h0 h1 hcan
def Many(t:f9):Prop:=∃ l:List (List Int),l.Nodup∧l.length=2001∧∀ s ∈ l,Rt t s
end Ab
end
section
namespace Ab
open Go
abbrev Mk:=j8
def wd(s:List Int):Int:=(wsN s:Int)
def mkOf(o:k7):Mk:=⟨wd o.pre,wd o.add,wd o.del,o.cost⟩
def mks(t:f9):List Mk:=t.operators.map mkOf
def canW(m:Mk)(x:Int):Prop:=Go.bits .and .u32 x m.pre=m.pre
def tgtW(m:Mk)(x:Int):Int:=Go.bits .or .u32 (Go.bits .andNot .u32 x m.del) m.add
theorem wd_inj{t:f9}(ht:m6 t){s s':List Int}(h:SetN s t.facts)(h':SetN s' t.facts)(e:wd s=wd s'):s=s':=
 h.word_inj h' (by unfold wd at e; omega)
theorem wd_u32{t:f9}(ht:m6 t){s:List Int}(h:SetN s t.facts):0≤wd s∧wd s<4294967296:=by
 have:=h.w32 ht.n1; unfold wd; omega
theorem U6{t:f9}(ht:m6 t){op:Int}(h0:0≤op)(h1:op<t.operators.length):T0 (opAt t op) t.facts∧ae6 (opAt t op):=ht.op _ (w6 (ix_op h0 h1))
theorem aq7{t:f9}(ht:m6 t){s:List Int}(h:SetN s t.facts){op:Int}(h0:0≤op)(h1:op<t.operators.length):canW (mkOf (opAt t op)) (wd s)↔can t s op:=
 sub_word h (U6 ht h0 h1).1.1 ht.n1
theorem tgtW_eq{t:f9}(ht:m6 t){s:List Int}(h:SetN s t.facts){op:Int}(h0:0≤op)(h1:op<t.operators.length):tgtW (mkOf (opAt t op)) (wd s)=wd (aft t s op):=
 next_word h (U6 ht h0 h1).1.2.2.1 (U6 ht h0 h1).1.2.1 ht.n1
theorem mks_mem{t:f9}{m:Mk}(h:m ∈ mks t):∃ op:Int,0≤op∧op<t.operators.length∧m=mkOf (opAt t op):=by
 obtain ⟨o,ho,rfl⟩:=List.mem_map.1 h
 obtain ⟨i,h0,h1,h2⟩:=D3 ho
 rw [ix_op h0 h1] at h2; cases h2
 exact ⟨i,h0,h1,rfl⟩
theorem mks_of{t:f9}{op:Int}(h0:0≤op)(h1:op<t.operators.length):mkOf (opAt t op) ∈ mks t:=List.mem_map.2 ⟨_,w6 (ix_op h0 h1),rfl⟩
theorem of_eq{t:f9}(ht:m6 t):ae7 t=some (wd t.init,wd t.goal,mks t):=by
 unfold ae7
 rw [al4 ht.init ht.n1,al4 ht.goal ht.n1]
 simp only [oB]
 obtain ⟨r,h1,h2⟩:=F4 (body:=aa1 t) (n:=(t.operators.length:Int)) (s:=[]) (fun j c=>c=(t.operators.take j.toNat).map mkOf) (by omega) (by simp) (fun j c j0 j1 hP=>by
  have ho:=U6 ht j0 j1
  have hx:=ix_op j0 j1
  have ga:=(p9 hx).2.2
  have hl:=ht.ops
  have htk:t.operators.take (j+1).toNat=t.operators.take j.toNat++[opAt t j]:=by rw [show (j+1).toNat=j.toNat+1 by omega,List.take_add_one,ga]; rfl
  unfold aa1
  rw [hx]
  simp only [oB,al4 ho.1.1 ht.n1,al4 ho.1.2.1 ht.n1,al4 ho.1.2.2.1 ht.n1]
  refine ⟨c++[mkOf (opAt t j)], ?_, ?_⟩
  ·unfold app
   rw [if_pos (by rw [hP]; simp; omega)]; rfl
  ·rw [hP,htk]; simp)
 rw [h1,h2,Int.toNat_natCast,List.take_length]
 rfl
def Rwd(t:f9)(x:Int):Prop:=∃ s,Rt t s∧x=wd s
theorem states_of{t:f9}:∀ {l:List Int},(∀ x ∈ l,Rwd t x)→∃ ss:List (List Int),ss.map wd=l∧∀ s ∈ ss,Rt t s
 | [],_=>⟨[],rfl,by simp⟩
 | x::l,h=>by
  obtain ⟨s,s1,s2⟩:=h x (by simp)
  obtain ⟨ss,h1,h2⟩:=states_of (l:=l) fun y hy=>h y (List.mem_cons_of_mem _ hy)
  exact ⟨s::ss,by simp [h1,s2],by simp [s1]; exact h2⟩
theorem al6{α β:Type}{f:α→β}:∀ {l:List α},(l.map f).Nodup→l.Nodup
 | [],_=>List.nodup_nil
 | x::l,h=>by
  simp only [List.map_cons,List.nodup_cons] at h
  exact List.nodup_cons.2 ⟨fun hx=>h.1 (List.mem_map.2 ⟨x,hx,rfl⟩),al6 h.2⟩
theorem many_of{t:f9}{l:List Int}(hn:l.Nodup)(hl:2000<l.length)(h:∀ x ∈ l,Rwd t x):Many t:=by
 obtain ⟨ss,h1,h2⟩:=states_of (l:=l.take 2001) fun x hx=>h x (List.mem_of_mem_take hx)
 refine ⟨ss,al6 (f:=wd) (by rw [h1]; exact hn.sublist (List.take_sublist _ _)), ?_,h2⟩
 have:=congrArg List.length h1
 simp only [List.length_map,List.length_take] at this
 omega
theorem Rwd.next{t:f9}(ht:m6 t){x:Int}(h:Rwd t x){m:Mk}(hm:m ∈ mks t)(hc:canW m x):Rwd t (tgtW m x):=by
 obtain ⟨s,s1,rfl⟩:=h
 obtain ⟨op,h0,h1,rfl⟩:=mks_mem hm
 have hs:=s1.setN ht
 exact ⟨_,.step s1 h0 h1 ((aq7 ht hs h0 h1).1 hc),tgtW_eq ht hs h0 h1⟩
theorem Rwd.all{t:f9}(ht:m6 t){l:List Int}(hi:wd t.init ∈ l)(hc:∀ x ∈ l,∀ m ∈ mks t,canW m x→tgtW m x ∈ l){x:Int}(h:Rwd t x):x ∈ l:=by
 obtain ⟨s,h,rfl⟩:=h
 induction h with
 | init=>exact hi
 | step h h0 h1 hcan ih=>
  have hs:=h.setN ht
  have:=hc _ ih _ (mks_of h0 h1) ((aq7 ht hs h0 h1).2 hcan)
  rwa [tgtW_eq ht hs h0 h1] at this
abbrev MpU:=List (Int × Unit)
theorem mgetU{m:MpU}{x:Int}:mget m x=none↔x ∉ m.map (·.1):=by
 constructor
 ·exact an5
 ·intro h
  cases e:mget m x with
  | none=>rfl
  | some u=>exact absurd (List.mem_map.2 ⟨_,mget_mem e,rfl⟩) h
structure AlW(t:f9)(q:List Int)(f:MpU)(a:List Int):Prop where
 nd:(f.map (·.1)).Nodup
 pm:(f.map (·.1)).Perm (q++a)
 rw:∀ x ∈ f.map (·.1),Rwd t x
theorem all_in{t:f9}(ht:m6 t){q a:List Int}{f:MpU}{x:Int}(hx:Rwd t x)(h:AlW t q f a)(hf:f.length≤2000)(u:Unit){c:List Int}(hc:k6 c 0 ((c.length:Int) - 1)=q):
  ∃ f' q',J0 (mks t) c f x u=some (f',q')∧AlW t q' f' a∧(∀ y ∈ f.map (·.1),y ∈ f'.map (·.1))∧∀ m ∈ mks t,canW m x→tgtW m x ∈ f'.map (·.1):=by
 unfold J0
 have hml:(mks t).length≤40:=by simp [mks]; exact ht.ops
 obtain ⟨r,h1,h2,h3,h4,h5⟩:=F4 (body:=I9 (mks t) x u) (n:=((mks t).length:Int)) (s:=(f,k6 c 0 ((c.length:Int) - 1)))
  (fun j s=>AlW t s.2 s.1 a∧(∀ y ∈ f.map (·.1),y ∈ s.1.map (·.1))∧s.1.length≤2000+j∧∀ i m,i<j→ix (mks t) i=some m→canW m x→tgtW m x ∈ s.1.map (·.1)) (by omega)
  ⟨by rw [hc]; exact h,fun _ h=>h,by simp only; omega,fun i m hi hm=>by have:=(p9 hm).1; omega⟩ (fun j s j0 j1 hP=>by
   obtain ⟨f',q'⟩:=s
   obtain ⟨p1,p2,p3,p4⟩:=hP
   simp only at p1 p2 p3 p4
   obtain ⟨m,hm,_⟩:=m4 j0 j1
   have hmm:=w6 hm
   unfold I9
   simp only [hm,oB]
   by_cases c1:Go.bits .and .u32 x m.pre=m.pre
   ·rw [if_pos c1]
    have c1':canW m x:=c1
    have ee:Go.bits .or .u32 (Go.bits .andNot .u32 x m.del) m.add=tgtW m x:=rfl
    rw [ee]
    by_cases c2:mget f' (tgtW m x)=none
    ·rw [if_pos (by simp [c2])]
     have hq:q'.length≤f'.length:=by have:=p1.pm.length_eq; simp at this; omega
     have ha:app 4 q' [tgtW m x]=some (q'++[tgtW m x]):=by unfold app; rw [if_pos (by simp; omega)]
     simp only [ha,oB]
     have hmem:=mgetU.1 c2
     refine ⟨_,rfl,⟨?_, ?_, ?_⟩, ?_, ?_, ?_⟩
     ·simp only [S7 c2,List.map_append]
      refine List.nodup_append.2 ⟨p1.nd,by simp,fun y hy z hz e=> ?_⟩
      simp at hz; subst hz; subst e; exact hmem hy
     ·simp only [S7 c2,List.map_append,List.map_cons,List.map_nil]
      refine (p1.pm.append_right _).trans ?_
      rw [List.append_assoc,List.append_assoc]
      exact List.Perm.append_left _ List.perm_append_comm
     ·intro y hy
      simp only [S7 c2,List.map_append,List.mem_append,List.map_cons,List.map_nil,List.mem_singleton] at hy
      rcases hy with hy | rfl
      ·exact p1.rw y hy
      ·exact hx.next ht hmm c1'
     ·intro y hy
      simp only [S7 c2,List.map_append,List.mem_append]
      exact .inl (p2 y hy)
     ·simp only [S7 c2,List.length_append,List.length_singleton]; omega
     ·intro i m' hi hm' hc'
      simp only [S7 c2,List.map_append,List.mem_append]
      by_cases e:i=j
      ·subst e; rw [hm] at hm'; cases hm'; exact .inr (by simp)
      ·exact .inl (p4 i m' (by omega) hm' hc')
    ·rw [if_neg (by simp; cases e:mget f' (tgtW m x) with | none=>exact absurd e c2 | some _=>simp)]
     refine ⟨_,rfl,p1,p2,by simp only; omega,fun i m' hi hm' hc'=> ?_⟩
     by_cases e:i=j
     ·subst e; rw [hm] at hm'; cases hm'
      exact Classical.byContradiction fun q=>c2 (mgetU.2 q)
     ·exact p4 i m' (by omega) hm' hc'
   ·rw [if_neg c1]
    refine ⟨_,rfl,p1,p2,by simp only; omega,fun i m' hi hm' hc'=> ?_⟩
    by_cases e:i=j
    ·subst e; rw [hm] at hm'; cases hm'; exact absurd hc' c1
    ·exact p4 i m' (by omega) hm' hc')
 refine ⟨r.1,r.2,by rw [h1]; rfl,h2,h3,fun m hm hcan=> ?_⟩
 obtain ⟨i,i0,i1,hi⟩:=D3 hm
 exact h5 i m i1 hi hcan
theorem all_spec{t:f9}(ht:m6 t)(goal:Int):∃ l b,H6 (wd t.init) goal (mks t)=some (l,b)∧(b=false→Many t)∧(b=true→l.Nodup∧l.length≤2000∧∀ x,x ∈ l↔Rwd t x):=by
 unfold H6
 simp only [z8,oB]
 have hi0:Rwd t (wd t.init):=⟨_,.init,rfl⟩
 obtain ⟨o,h1,h2⟩:=P9 (body:=I4 (wd t.init) goal (mks t)) (s:=([wd t.init],mset ([]:MpU) (wd t.init) (),[]))
  (fun s=>AlW t s.1 s.2.1 s.2.2∧wd t.init ∈ s.2.1.map (·.1)∧s.2.1.length≤2000∧∀ x ∈ s.2.2,∀ m ∈ mks t,canW m x→tgtW m x ∈ s.2.1.map (·.1))
  (fun o=>match o with | .inl l=>l.Nodup∧l.length≤2000∧∀ x,x ∈ l↔Rwd t x | .inr x=>x=([],false)∧Many t)
  (fun s=>2000 - s.2.2.length) ⟨⟨by simp [mset],by simp [mset],by simp [mset]; exact hi0⟩,by simp [mset],by simp [mset],by simp⟩ (by
   rintro ⟨q,f,a⟩ ⟨p1,p2,p3,p4⟩
   simp only at p1 p2 p3 p4
   have hlen:f.length=q.length+a.length:=by have:=p1.pm.length_eq; simpa using this
   unfold I4
   by_cases c:0<q.length
   ·simp only [show (0:Int)<(q.length:Int) by omega,if_true]
    obtain ⟨x,hx,gx⟩:=m4 (l:=q) (i:=(q.length:Int) - 1) (by omega) (by omega)
    have hq:k6 q 0 ((q.length:Int) - 1)++[x]=q:=by
     have:k6 q 0 ((q.length:Int) - 1)=q.take (q.length - 1):=by
      simp only [k6,Int.toNat_zero,List.drop_zero]
      rw [show ((q.length:Int) - 1).toNat=q.length - 1 by omega]
     rw [this]
     have e:q.take (q.length - 1+1)=q.take (q.length - 1)++[x]:=by
      rw [List.take_add_one]
      rw [show ((q.length:Int) - 1).toNat=q.length - 1 by omega] at gx
      rw [gx]; rfl
     rw [← e,show q.length - 1+1=q.length by omega,List.take_length]
    have hxm:x ∈ f.map (·.1):=p1.pm.mem_iff.2 (List.mem_append_left _ (w6 hx))
    have hxr:=p1.rw x hxm
    have ha:app 4 a [x]=some (a++[x]):=by unfold app; rw [if_pos (by simp; omega)]
    have p1':AlW t (k6 q 0 ((q.length:Int) - 1)) f (a++[x]):=⟨p1.nd,p1.pm.trans (by
     rw (occs:=.pos [1]) [← hq]
     rw [List.append_assoc]
     exact List.Perm.append_left _ List.perm_append_comm),p1.rw⟩
    obtain ⟨f',q',k1,k2,k3,k4⟩:=all_in ht hxr p1' p3 () rfl
    simp only [hx,ha,cutV,oB,D0]
    rw [if_pos (by omega)]
    simp only [oB,k1]
    by_cases big:2000<f'.length
    ·rw [if_pos (by omega)]
     exact .inr ⟨_,rfl,rfl,many_of k2.nd (by simpa using big) k2.rw⟩
    ·rw [if_neg (by omega)]
     have hlen':f'.length=q'.length+(a++[x]).length:=by have:=k2.pm.length_eq; simpa using this
     refine .inl ⟨_,rfl,⟨k2,k3 _ p2,by simp only; omega,fun y hy m hm hc=> ?_⟩,by simp only [List.length_append,List.length_singleton] at hlen' ⊢; omega⟩
     simp only [List.mem_append,List.mem_singleton] at hy
     rcases hy with hy | rfl
     ·exact k3 _ (p4 y hy m hm hc)
     ·exact k4 m hm hc
   ·have:q=[]:=List.eq_nil_of_length_eq_zero (by omega)
    subst this
    refine .inr ⟨.inl a,by simp, ?_⟩
    have hp:(f.map (·.1)).Perm a:=by simpa using p1.pm
    refine ⟨hp.nodup_iff.1 p1.nd,by simp at hlen; omega,fun x=>⟨fun hx=>p1.rw x (hp.mem_iff.2 hx),fun hx=> ?_⟩⟩
    exact Rwd.all ht (hp.mem_iff.1 p2) (fun y hy m hm hc=>hp.mem_iff.1 (p4 y hy m hm hc)) hx)
 rw [h1]
 rcases o with l | o
 ·exact ⟨l,true,rfl,by simp,fun _=>h2⟩
 ·obtain ⟨rfl,h3⟩:=h2
  exact ⟨[],false,rfl,fun _=>h3,by simp⟩
end Ab
end
