/-
  Texts that the proof stands on.
-/
import Derived.Test.YthfddkcnegkbhaaGreatDoorKRwSwc4
set_option linter.all false
section
namespace Ab
open Go Go.Proofs
open Tryz
set_option maxHeartbeats 4000000
set_option linter.all false
attribute [local irreducible] AWP AOps thn inB Done e8 r8 Sub
theorem aj3{r:Bool}(h:U0=some r):e8 prog 6 [] (.c (bool r)):=by
 unfold e8
 refine FnOk.enter (rs:=[.t 0]) func6 Z ntmps6 results6 Z ⟨trivial,Y⟩ (by kernel_rfl) Z ?_
 unfold U0 at h
 refine AWP.q (.z (.u Z Z (.nil (b5 (.q ?_)))))
 obtain⟨a8,ha8,a9,ha9,h⟩:=b2 h
 refine AWP.z (.U Z Z Z Z (aw8 ha8) Z (.U Z Z Z Z (ap2 ha9) Z (.j Z Z (.ac Z Z Z (.ac Z Z Z (.ac Z Z Z (W.alloc Z Z Z Z (.u Z Z (.u Z Z (W.storeAgg Z Z Z Z Z Z Z (.nil (b5 (.q ?_)))))))))))))
 obtain⟨a14,ha14,a16,ha16,h⟩:=b2 h
 refine AWP.z (.U Z Z Z Z (aw8 ha14) Z (.j Z Z (.U Z Z Z Z (strong_Check_ok ha16) Z (.j Z Z (.ac Z Z Z (.ac Z Z Z (.ac Z Z Z (W.alloc Z Z Z Z (.u Z Z (.u Z Z (W.storeAgg Z Z Z Z Z Z Z (.nil (b5 ?_)))))))))))))
 obtain⟨t1,hx2,h⟩:=bind_some h
 refine AWP.seqJ (⟨[(0,.c (bool t1))],[]⟩) ?_ ?_
 ·rcases bft (decide (a9.2.2.code=0)) with hb3|hb3
  ·replace hx2:=J5 hb3 hx2
   rcases bft (decide (a16.2.2.code=0)) with hb4|hb4
   ·replace hx2:=J5 hb4 hx2
    rcases bft (a9.2.1) with hb5|hb5
    ·replace hx2:=ac2 hb5 hx2
     rcases bft (a16.2.1) with hb6|hb6
     ·replace hx2:=ac2 hb6 hx2
      rcases bft (decide (a16.1=1)) with hb7|hb7
      ·replace hx2:=J5 hb7 hx2
       obtain⟨a42,ha42,hx2⟩:=bind_some hx2
       refine AWP.z (W.fieldAddr Z Z Z Z (.F Z Z Z Z Z Z (.eql Z Z Z (.j Z Z (.B Z Z Z hb3 (W.fieldAddr Z Z Z Z (.B Z Z Z hb3 (.F Z Z Z Z Z Z (.B Z Z Z hb3 (.eql Z Z Z (.aa Z hb3 Z Z (.j Z Z (.B Z Z Z hb4 (.j Z Z (.aa Z hb4 Z Z (.j Z Z (.B Z Z Z hb5 (.j Z Z (.aa Z hb5 Z Z (.j Z Z (.B Z Z Z hb6 (.j Z Z (.B Z Z Z hb6 (.eql Z Z Z (.aa Z hb6 Z Z (.j Z Z (.B Z Z Z hb7 (.j Z Z (.B Z Z Z hb7 (W.build Z Z Z Z (.B Z Z Z hb7 (S.lit (f:=i9) (l:=[(⟨[],0⟩:d9)]) (ess:=[[.imm (.val nL),int 0]]) Z Z Z Z Z Z Z ⟨⟨.inr ⟨Z,_,Z⟩,.inl Z,Y⟩,Y⟩ Z Z Z (.B Z Z Z hb7 (.callL Z Z (.cons (.c .imm) (.cons (.c (.own Z Z)) .nil)) Z (ref8_Choices_ok ha42) Z (.aa Z hb7 Z Z (.u Z Z (.nil ?_)))))))))))))))))))))))))))))))))))))
       obtain rfl:=oi hx2
       refine b5 (Sub.cut ⟨Z,Y⟩ Z trivial Z)
      ·replace hx2:=J9 hb7 hx2
       refine AWP.z (W.fieldAddr Z Z Z Z (.F Z Z Z Z Z Z (.eql Z Z Z (.j Z Z (.B Z Z Z hb3 (W.fieldAddr Z Z Z Z (.B Z Z Z hb3 (.F Z Z Z Z Z Z (.B Z Z Z hb3 (.eql Z Z Z (.aa Z hb3 Z Z (.j Z Z (.B Z Z Z hb4 (.j Z Z (.aa Z hb4 Z Z (.j Z Z (.B Z Z Z hb5 (.j Z Z (.aa Z hb5 Z Z (.j Z Z (.B Z Z Z hb6 (.j Z Z (.B Z Z Z hb6 (.eql Z Z Z (.aa Z hb6 Z Z (.j Z Z (.E Z Z Z hb7 (.E Z Z Z hb7 (.E Z Z Z hb7 (.E Z Z Z hb7 (.ab Z hb7 Z Z (.u Z Z (.nil ?_)))))))))))))))))))))))))))))))))
       obtain rfl:=oi hx2
       refine b5 (Sub.cut ⟨Z,Y⟩ Z trivial Z)
     ·replace hx2:=ac1 hb6 hx2
      refine AWP.z (W.fieldAddr Z Z Z Z (.F Z Z Z Z Z Z (.eql Z Z Z (.j Z Z (.B Z Z Z hb3 (W.fieldAddr Z Z Z Z (.B Z Z Z hb3 (.F Z Z Z Z Z Z (.B Z Z Z hb3 (.eql Z Z Z (.aa Z hb3 Z Z (.j Z Z (.B Z Z Z hb4 (.j Z Z (.aa Z hb4 Z Z (.j Z Z (.B Z Z Z hb5 (.j Z Z (.aa Z hb5 Z Z (.j Z Z (.E Z Z Z hb6 (.E Z Z Z hb6 (.ab Z hb6 Z Z (.j Z Z (.E Z Z Z Z (.E Z Z Z Z (.E Z Z Z Z (.E Z Z Z Z (.ab Z Z Z Z (.u Z Z (.nil ?_)))))))))))))))))))))))))))))))
      obtain rfl:=oi hx2
      refine b5 (Sub.cut ⟨Z,Y⟩ Z trivial Z)
    ·replace hx2:=ac1 hb5 hx2
     refine AWP.z (W.fieldAddr Z Z Z Z (.F Z Z Z Z Z Z (.eql Z Z Z (.j Z Z (.B Z Z Z hb3 (W.fieldAddr Z Z Z Z (.B Z Z Z hb3 (.F Z Z Z Z Z Z (.B Z Z Z hb3 (.eql Z Z Z (.aa Z hb3 Z Z (.j Z Z (.B Z Z Z hb4 (.j Z Z (.aa Z hb4 Z Z (.j Z Z (.E Z Z Z hb5 (.ab Z hb5 Z Z (.j Z Z (.E Z Z Z Z (.E Z Z Z Z (.ab Z Z Z Z (.j Z Z (.E Z Z Z Z (.E Z Z Z Z (.E Z Z Z Z (.E Z Z Z Z (.ab Z Z Z Z (.u Z Z (.nil ?_))))))))))))))))))))))))))))))
     obtain rfl:=oi hx2
     refine b5 (Sub.cut ⟨Z,Y⟩ Z trivial Z)
   ·replace hx2:=J9 hb4 hx2
    refine AWP.z (W.fieldAddr Z Z Z Z (.F Z Z Z Z Z Z (.eql Z Z Z (.j Z Z (.B Z Z Z hb3 (W.fieldAddr Z Z Z Z (.B Z Z Z hb3 (.F Z Z Z Z Z Z (.B Z Z Z hb3 (.eql Z Z Z (.aa Z hb3 Z Z (.j Z Z (.E Z Z Z hb4 (.ab Z hb4 Z Z (.j Z Z (.E Z Z Z Z (.ab Z Z Z Z (.j Z Z (.E Z Z Z Z (.E Z Z Z Z (.ab Z Z Z Z (.j Z Z (.E Z Z Z Z (.E Z Z Z Z (.E Z Z Z Z (.E Z Z Z Z (.ab Z Z Z Z (.u Z Z (.nil ?_)))))))))))))))))))))))))))))
    obtain rfl:=oi hx2
    refine b5 (Sub.cut ⟨Z,Y⟩ Z trivial Z)
  ·replace hx2:=J9 hb3 hx2
   refine AWP.z (W.fieldAddr Z Z Z Z (.F Z Z Z Z Z Z (.eql Z Z Z (.j Z Z (.E Z Z Z hb3 (.E Z Z Z hb3 (.E Z Z Z hb3 (.ab Z hb3 Z Z (.j Z Z (.E Z Z Z Z (.ab Z Z Z Z (.j Z Z (.E Z Z Z Z (.ab Z Z Z Z (.j Z Z (.E Z Z Z Z (.E Z Z Z Z (.ab Z Z Z Z (.j Z Z (.E Z Z Z Z (.E Z Z Z Z (.E Z Z Z Z (.E Z Z Z Z (.ab Z Z Z Z (.u Z Z (.nil ?_))))))))))))))))))))))))))
   obtain rfl:=oi hx2
   refine b5 (Sub.cut ⟨Z,Y⟩ Z trivial Z)
 ·refine AWP.ret ?_
  obtain rfl:=oi h
  exact Done.ret Z Z
theorem aw4{ov:d4}{r:m6×(List (Int×Int))×k6}(h:F7 ov=some r):e8 prog 8 [.agg (tO ov)] (.tup [.agg (tT r.1),.c (row 2 P9 r.2.1),.agg [int r.2.2.code,int r.2.2.index]]):=by
 unfold e8
 refine FnOk.enter (rs:=[.cell 2 37 4,.t 3,.cell 4 32 2]) func8 Z ntmps8 results8 Z ⟨rv _ Z,trivial,rv _ Z,Y⟩ (by kernel_rfl) Z ?_
 unfold F7 at h
 refine AWP.q (.z (W.box Z Z Z Z Z Z (W.alloc Z Z Z Z (.u Z Z (W.alloc Z Z Z Z (.nil (b5 (.q (.q ?_)))))))))
 obtain⟨a13,ha13,h⟩:=bind_some h
 refine AWP.z (W.loadAgg Z Z Z Z Z Z Z (.U Z Z Z Z (ae2 ha13) Z (W.alloc Z Z Z Z (W.storeAgg Z Z Z Z Z Z Z (.nil (b5 (.q (.z (W.loadAgg Z Z Z Z Z Z Z (W.build Z Z Z Z (.neqP Z Z Z Z Z Z Z (.nil (b5 (.ag Z h (fun hc2 h=> ?_) (fun hc2 h=> ?_)))))))))))))))
 ·refine AWP.q (.drawEI [2,4] mixed Z Z Z ?_)
  refine e6.consN Z Z (fun E=>W.build Z Z Z Z .N) Z (.consN Z Z (fun E=>W.loadAgg Z Z Z Z Z Z Z .N) Z ?_)
  apply e6.consE (v:=.undef);exact Z;exact Z;intro E
  refine W.storeAgg Z Z Z Z Z Z Z .N
  exact Z
  exact Z
  refine e6.consN Z Z (fun E=>AOps.u Z Z .N) Z ?_
  apply e6.consE (v:=.undef);exact Z;exact Z;intro E
  refine W.storeAgg Z Z Z Z Z Z Z .N
  exact Z
  exact Z
  refine e6.done Z ?_ ?_
  ·refine d5.cons Z Z (b7.go Z Z (fun E=>W.build Z Z Z Z .N) (b7.skip Z (b7.skip Z (b7.nil)))) (d5.cons Z Z (b7.go Z Z (fun E=>W.loadAgg Z Z Z Z Z Z Z .N) (b7.go Z Z (fun E=>W.loadAgg Z Z Z Z Z Z Z .N) (b7.skip Z (b7.nil)))) ?_)
   refine d5.skip Z ?_
   refine d5.cons Z Z ?_ ?_
   refine b7.skip Z ?_
   refine b7.go Z Z (fun E=>AOps.u Z Z .N) ?_
   refine b7.skip Z (b7.nil)
   refine d5.skip Z (d5.nil)
  dsimp only[l7]
  refine b5 (.nilB (b:=1) [int 0,row 1 intI [],row 1 intI [],row 4 u4 []] Z (by exact⟨.inl Z,.inr ⟨Z,_,Z⟩,.inr ⟨Z,_,Z⟩,.inr ⟨Z,_,Z⟩,Y⟩) Z Z (.nilrow 2 3 Z (.ret (e7 ?_))))
  obtain rfl:=oi h
  exact Done.ret Z Z
 ·refine AWP.skip (b5 (.q ?_))
  obtain⟨a23,ha23,a26,ha26,h⟩:=b2 h
  refine AWP.sub (s':=⟨[(0,.agg (tO ov)),(1,.c (.ptr 0 0 0)),(2,.c (.ptr 1 0 0)),(3,.c (.imm (.val nL))),(4,.c (.ptr 2 0 0)),(5,.c (.ptr 3 0 0)),(12,.agg (tO ov)),(13,.agg [int a13.code,int a13.index]),(14,.agg [int a13.code,int a13.index]),(15,.agg [int 0,int 0]),(16,.c (bool (!((decide (a13.code=0)) && (decide (a13.index=0))))))],[.one (.cells 4 [(tO ov)]),.one (.cells 4 [[int 0,.imm (.val nL),.imm (.val nL),.imm (.val nL)]]),.one (.cells 2 [[int 0,int 0]]),.one (.cells 2 [[int a13.code,int a13.index]]),.dead,.dead,.dead]⟩) (Sub.cut ⟨Z,Z,Z,Z,Z,Z,Z,Z,Z,Z,Z,Y⟩ Z ⟨.one Z,.one Z,.one Z,.one Z,.dead,.dead,.dead,Y⟩ Z) (.drawTI [.c (.ptr 0 0 0),.c (int ov.facts),.c (.ptr 0 0 1),.c (row 1 intI ov.init),.c (.own 4 0 a23.length),.c (.ptr 0 0 2),.c (row 1 intI ov.goal),.c (.own 5 0 a26.length),.agg [int ov.facts,.own 4 0 a23.length,.own 5 0 a26.length,.imm (.val nL)],.c (.ptr 6 0 0),.undef] [4,7,9,10] [([],[.one (.cells 4 [(tO ov)]),.one (.cells 4 [[int 0,.imm (.val nL),.imm (.val nL),.imm (.val nL)]]),.one (.cells 2 [[int 0,int 0]]),.one (.cells 2 [[int a13.code,int a13.index]]),.dead,.dead,.dead]),([4],[.one (.cells 4 [(tO ov)]),.one (.cells 4 [[int 0,.imm (.val nL),.imm (.val nL),.imm (.val nL)]]),.one (.cells 2 [[int 0,int 0]]),.one (.cells 2 [[int a13.code,int a13.index]]),.one (vec 1 intI a23),.dead,.dead]),([4,7],[.one (.cells 4 [(tO ov)]),.one (.cells 4 [[int 0,.imm (.val nL),.imm (.val nL),.imm (.val nL)]]),.one (.cells 2 [[int 0,int 0]]),.one (.cells 2 [[int a13.code,int a13.index]]),.one (vec 1 intI a23),.one (vec 1 intI a26),.dead]),([9],[.one (.cells 4 [(tO ov)]),.one (.cells 4 [[int 0,.imm (.val nL),.imm (.val nL),.imm (.val nL)]]),.one (.cells 2 [[int 0,int 0]]),.one (.cells 2 [[int a13.code,int a13.index]]),.dead,.dead,.one (.cells 4 [[int 0,.imm (.val nL),.imm (.val nL),.imm (.val nL)]])]),([4,9],[.one (.cells 4 [(tO ov)]),.one (.cells 4 [[int 0,.imm (.val nL),.imm (.val nL),.imm (.val nL)]]),.one (.cells 2 [[int 0,int 0]]),.one (.cells 2 [[int a13.code,int a13.index]]),.one (vec 1 intI a23),.dead,.one (.cells 4 [[int 0,.imm (.val nL),.imm (.val nL),.imm (.val nL)]])]),([4,7,9],[.one (.cells 4 [(tO ov)]),.one (.cells 4 [[int 0,.imm (.val nL),.imm (.val nL),.imm (.val nL)]]),.one (.cells 2 [[int 0,int 0]]),.one (.cells 2 [[int a13.code,int a13.index]]),.one (vec 1 intI a23),.one (vec 1 intI a26),.one (.cells 4 [[int 0,.imm (.val nL),.imm (.val nL),.imm (.val nL)]])]),([4,7,9,10],[.one (.cells 4 [(tO ov)]),.one (.cells 4 [[int 0,.imm (.val nL),.imm (.val nL),.imm (.val nL)]]),.one (.cells 2 [[int 0,int 0]]),.one (.cells 2 [[int a13.code,int a13.index]]),.one (vec 1 intI a23),.one (vec 1 intI a26),.one (.cells 4 [[int ov.facts,.own 4 0 a23.length,.own 5 0 a26.length,.imm (.val nL)]])])] [.one (.cells 4 [(tO ov)]),.one (.cells 4 [[int 0,.imm (.val nL),.imm (.val nL),.imm (.val nL)]]),.one (.cells 2 [[int 0,int 0]]),.one (.cells 2 [[int a13.code,int a13.index]]),.one (vec 1 intI a23),.one (vec 1 intI a26),.one (.cells 4 [[int ov.facts,.own 4 0 a23.length,.own 5 0 a26.length,.imm (.val nL)]])] mixed Z Z Z Z Z ?_ ?_)
  ·refine O4.cons ?_ ?_
   ·apply f7.go;exact Z;exact Z;exact Z;intro E hE;(refine W.fieldAddr Z Z Z Z ?_);exact AOps.nil ⟨Z,Z⟩
    apply f7.go;exact Z;exact Z;exact Z;intro E hE;(refine AOps.F Z Z Z Z Z Z ?_);exact AOps.nil ⟨Z,Z⟩
    apply f7.go;exact Z;exact Z;exact Z;intro E hE;(refine W.fieldAddr Z Z Z Z ?_);exact AOps.nil ⟨Z,Z⟩
    apply f7.go;exact Z;exact Z;exact Z;intro E hE;(refine AOps.F Z Z Z Z Z Z ?_);exact AOps.nil ⟨Z,Z⟩
    apply f7.eff;exact Z;exact Z;exact Z;exact Z;intro E hE;(refine AOps.newAt 4 (.c (.own 4 0 a23.length)) (vec 1 intI a23) (.inl Z) Z hE Z Z Z Z (.vec) (.vec) Z Z Z ⟨.one Z,.one Z,.one Z,.one Z,.dead,.dead,.dead,Y⟩ (fun hh=>by(refine S.fresh Z Z Z Z (m8 ha23) Z Z ?_;exact hh)) ?_);exact AOps.nil ⟨Z,Z⟩
    apply f7.go;exact Z;exact Z;exact Z;intro E hE;(refine W.fieldAddr Z Z Z Z ?_);exact AOps.nil ⟨Z,Z⟩
    apply f7.go;exact Z;exact Z;exact Z;intro E hE;(refine AOps.F Z Z Z Z Z Z ?_);exact AOps.nil ⟨Z,Z⟩
    refine f7.no Z (f7.no Z ?_)
    apply f7.eff;exact Z;exact Z;exact Z;exact Z;intro E hE;(refine AOps.allocAt 6 hE Z Z Z Z Z Z Z ⟨.one Z,.one Z,.one Z,.one Z,.dead,.dead,.dead,Y⟩ Z ?_);exact AOps.nil ⟨Z,Z⟩
    refine f7.no Z (f7.nil)
   refine O4.cons ?_ ?_
   ·apply f7.go;exact Z;exact Z;exact Z;intro E hE;(refine W.fieldAddr Z Z Z Z ?_);exact AOps.nil ⟨Z,Z⟩
    apply f7.go;exact Z;exact Z;exact Z;intro E hE;(refine AOps.F Z Z Z Z Z Z ?_);exact AOps.nil ⟨Z,Z⟩
    refine f7.no Z (f7.no Z (f7.no Z ?_))
    apply f7.go;exact Z;exact Z;exact Z;intro E hE;(refine W.fieldAddr Z Z Z Z ?_);exact AOps.nil ⟨Z,Z⟩
    apply f7.go;exact Z;exact Z;exact Z;intro E hE;(refine AOps.F Z Z Z Z Z Z ?_);exact AOps.nil ⟨Z,Z⟩
    apply f7.eff;exact Z;exact Z;exact Z;exact Z;intro E hE;(refine AOps.newAt 5 (.c (.own 5 0 a26.length)) (vec 1 intI a26) (.inl Z) Z hE Z Z Z Z (.vec) (.vec) Z Z Z ⟨.one Z,.one Z,.one Z,.one Z,.vec,.dead,.dead,Y⟩ (fun hh=>by(refine S.fresh Z Z Z Z (m8 ha26) Z Z ?_;exact hh)) ?_);exact AOps.nil ⟨Z,Z⟩
    refine f7.no Z ?_
    apply f7.eff;exact Z;exact Z;exact Z;exact Z;intro E hE;(refine AOps.allocAt 6 hE Z Z Z Z Z Z Z ⟨.one Z,.one Z,.one Z,.one Z,.vec,.dead,.dead,Y⟩ Z ?_);exact AOps.nil ⟨Z,Z⟩
    refine f7.no Z (f7.nil)
   refine O4.cons ?_ ?_
   ·apply f7.go;exact Z;exact Z;exact Z;intro E hE;(refine W.fieldAddr Z Z Z Z ?_);exact AOps.nil ⟨Z,Z⟩
    apply f7.go;exact Z;exact Z;exact Z;intro E hE;(refine AOps.F Z Z Z Z Z Z ?_);exact AOps.nil ⟨Z,Z⟩
    refine f7.no Z (f7.no Z (f7.no Z (f7.no Z (f7.no Z (f7.no Z ?_)))))
    apply f7.go;exact Z;exact Z;exact Z;intro E hE;(refine W.build Z Z Z Z ?_);exact AOps.nil ⟨Z,Z⟩
    apply f7.eff;exact Z;exact Z;exact Z;exact Z;intro E hE;(refine AOps.allocAt 6 hE Z Z Z Z Z Z Z ⟨.one Z,.one Z,.one Z,.one Z,.vec,.vec,.dead,Y⟩ Z ?_);exact AOps.nil ⟨Z,Z⟩
    refine f7.no Z (f7.nil)
   refine O4.cons ?_ ?_
   ·apply f7.go;exact Z;exact Z;exact Z;intro E hE;(refine W.fieldAddr Z Z Z Z ?_);exact AOps.nil ⟨Z,Z⟩
    apply f7.go;exact Z;exact Z;exact Z;intro E hE;(refine AOps.F Z Z Z Z Z Z ?_);exact AOps.nil ⟨Z,Z⟩
    apply f7.go;exact Z;exact Z;exact Z;intro E hE;(refine W.fieldAddr Z Z Z Z ?_);exact AOps.nil ⟨Z,Z⟩
    apply f7.go;exact Z;exact Z;exact Z;intro E hE;(refine AOps.F Z Z Z Z Z Z ?_);exact AOps.nil ⟨Z,Z⟩
    apply f7.eff;exact Z;exact Z;exact Z;exact Z;intro E hE;(refine AOps.newAt 4 (.c (.own 4 0 a23.length)) (vec 1 intI a23) (.inl Z) Z hE Z Z Z Z (.vec) (.vec) Z Z Z ⟨.one Z,.one Z,.one Z,.one Z,.dead,.dead,.one Z,Y⟩ (fun hh=>by(refine S.fresh Z Z Z Z (m8 ha23) Z Z ?_;exact hh)) ?_);exact AOps.nil ⟨Z,Z⟩
    apply f7.go;exact Z;exact Z;exact Z;intro E hE;(refine W.fieldAddr Z Z Z Z ?_);exact AOps.nil ⟨Z,Z⟩
    apply f7.go;exact Z;exact Z;exact Z;intro E hE;(refine AOps.F Z Z Z Z Z Z ?_);exact AOps.nil ⟨Z,Z⟩
    refine f7.no Z (f7.no Z (f7.no Z (f7.no Z (f7.nil))))
   refine O4.cons ?_ ?_
   ·apply f7.go;exact Z;exact Z;exact Z;intro E hE;(refine W.fieldAddr Z Z Z Z ?_);exact AOps.nil ⟨Z,Z⟩
    apply f7.go;exact Z;exact Z;exact Z;intro E hE;(refine AOps.F Z Z Z Z Z Z ?_);exact AOps.nil ⟨Z,Z⟩
    refine f7.no Z (f7.no Z (f7.no Z ?_))
    apply f7.go;exact Z;exact Z;exact Z;intro E hE;(refine W.fieldAddr Z Z Z Z ?_);exact AOps.nil ⟨Z,Z⟩
    apply f7.go;exact Z;exact Z;exact Z;intro E hE;(refine AOps.F Z Z Z Z Z Z ?_);exact AOps.nil ⟨Z,Z⟩
    apply f7.eff;exact Z;exact Z;exact Z;exact Z;intro E hE;(refine AOps.newAt 5 (.c (.own 5 0 a26.length)) (vec 1 intI a26) (.inl Z) Z hE Z Z Z Z (.vec) (.vec) Z Z Z ⟨.one Z,.one Z,.one Z,.one Z,.vec,.dead,.one Z,Y⟩ (fun hh=>by(refine S.fresh Z Z Z Z (m8 ha26) Z Z ?_;exact hh)) ?_);exact AOps.nil ⟨Z,Z⟩
    refine f7.no Z (f7.no Z (f7.no Z (f7.nil)))
   refine O4.cons ?_ ?_
   ·apply f7.go;exact Z;exact Z;exact Z;intro E hE;(refine W.fieldAddr Z Z Z Z ?_);exact AOps.nil ⟨Z,Z⟩
    apply f7.go;exact Z;exact Z;exact Z;intro E hE;(refine AOps.F Z Z Z Z Z Z ?_);exact AOps.nil ⟨Z,Z⟩
    refine f7.no Z (f7.no Z (f7.no Z (f7.no Z (f7.no Z (f7.no Z ?_)))))
    apply f7.go;exact Z;exact Z;exact Z;intro E hE;(refine W.build Z Z Z Z ?_);exact AOps.nil ⟨Z,Z⟩
    refine f7.no Z ?_
    apply f7.eff;exact Z;exact Z;exact Z;exact Z;intro E hE;(refine W.storeAgg Z Z Z Z Z Z Z ?_);exact AOps.nil ⟨Z,Z⟩
    exact f7.nil
   refine O4.cons ?_ ?_
   ·refine f7.no Z (f7.no Z (f7.no Z (f7.no Z (f7.no Z (f7.no Z (f7.no Z (f7.no Z (f7.no Z (f7.no Z (f7.no Z (f7.nil)))))))))))
   exact O4.nil
  dsimp only[l7]
  refine b5 (.q (.z (.u Z Z (.nil (b5 (.q (.q (.z (W.fieldAddr Z Z Z Z (.F Z Z Z Z Z Z (S.len Z Z (fun hl30=>.j Z Z (.nil (b5 (.O (.virtV 2 P9 7 Z Z Z (.virtB 4 u4 (b:=6) (o:=3) Z Z Z Z Z Z ?_)))))))))))))))))
  obtain⟨⟨c3,c4⟩,ho1,h⟩:=bind_some h
  try dsimp only at h
  refine AWP.forS ho1 (fun t5 (c3,c4)=>⟨[(2,.c (.ptr 1 0 0)),(4,.c (.ptr 2 0 0)),(6,.c (.ptr 6 0 0)),(7,.c (.own 7 0 c3.length)),(29,.c (row 3 o8 ov.operators)),(30,.c (int (ov.operators.length:Int))),(31,.c (int t5))],[.dead,.one (.cells 4 [[int 0,.imm (.val nL),.imm (.val nL),.imm (.val nL)]]),.one (.cells 2 [[int 0,int 0]]),.dead,.one (vec 1 intI a23),.one (vec 1 intI a26),.one (.cells 4 [[int ov.facts,.own 4 0 a23.length,.own 5 0 a26.length,.own 8 0 c4.length]]),.one (vec 2 P9 c3),.one (vec 4 u4 c4)]⟩) (fun(c3,c4) e st=>e=.exit 0∧Sub [] st ⟨[(2,.c (.ptr 1 0 0)),(4,.c (.ptr 2 0 0)),(6,.c (.ptr 6 0 0)),(7,.c (.own 7 0 c3.length))],[.dead,.one (.cells 4 [[int 0,.imm (.val nL),.imm (.val nL),.imm (.val nL)]]),.one (.cells 2 [[int 0,int 0]]),.dead,.one (vec 1 intI a23),.one (vec 1 intI a26),.one (.cells 4 [[int ov.facts,.own 4 0 a23.length,.own 5 0 a26.length,.own 8 0 c4.length]]),.one (vec 2 P9 c3),.one (vec 4 u4 c4)]⟩) ?_ ?_ ?_ ?_
  ·try dsimp only
   exact Sub.cut ⟨Z,Z,Z,(J3 (by first|rfl|simp only[lS])),Z,Z,Z,Y⟩ Z ⟨.dead,.one Z,.one Z,.dead,.vec,.vec,(.eq Z (by first|rfl|(simp only[lS];done))),.vec,.vec,Y⟩ Z
  ·intro t5 s hlot5 hltt5 _
   obtain⟨c3,c4⟩:=s
   try dsimp only
   refine AWP.q (.z (.J Z Z Z (.nil (b5 (.q (.ae Z hltt5 (.exit (d8 (d8 ⟨Z,?_⟩)))))))))
   exact Sub.env ⟨Z,Z,Z,Z,Y⟩
  ·intro t5 s o hlot5 hltt5 h
   obtain⟨c3,c4⟩:=s
   unfold F0 at h
   try dsimp only at h ⊢
   refine AWP.q (.z (.J Z Z Z (.nil (b5 (.q (.af Z hltt5 (.skip (b5 (.q (.O (.q ?_)))))))))))
   obtain⟨a34,ha34,h⟩:=bind_some h
   refine AWP.z (.j Z Z (S.idx ha34 Z Z Z Z (W.loadIAgg Z Z Z Z Z (W.alloc Z Z Z Z (.u Z Z (W.storeAgg Z Z Z Z Z Z Z (.nil (b5 (.q (.z (W.fieldAddr Z Z Z Z (.F Z Z Z Z Z Z (S.len Z Z (fun hl38=>.j Z Z (.nil (b5 (.O ?_)))))))))))))))))
   obtain⟨⟨c6,c7⟩,ho2,h⟩:=bind_some h
   try dsimp only at h
   refine AWP.forS ho2 (fun t8 (c6,c7)=>⟨[(2,.c (.ptr 1 0 0)),(4,.c (.ptr 2 0 0)),(6,.c (.ptr 6 0 0)),(7,.c (.own 7 0 c6.length)),(8,.c (int t5)),(9,.c (.ptr 9 0 0)),(29,.c (row 3 o8 ov.operators)),(30,.c (int (ov.operators.length:Int))),(31,.c (int t5)),(37,.c (row 3 w9 a34.outcomes)),(38,.c (int (a34.outcomes.length:Int))),(39,.c (int t8))],[.dead,.one (.cells 4 [[int 0,.imm (.val nL),.imm (.val nL),.imm (.val nL)]]),.one (.cells 2 [[int 0,int 0]]),.dead,.one (vec 1 intI a23),.one (vec 1 intI a26),.one (.cells 4 [[int ov.facts,.own 4 0 a23.length,.own 5 0 a26.length,.own 8 0 c7.length]]),.one (vec 2 P9 c6),.one (vec 4 u4 c7),.one (.cells 3 [[row 1 intI a34.pre,row 3 w9 a34.outcomes,int a34.cost]])]⟩) (fun(c6,c7) e st=>e=.exit 2∧Sub [] st ⟨[(2,.c (.ptr 1 0 0)),(4,.c (.ptr 2 0 0)),(6,.c (.ptr 6 0 0)),(7,.c (.own 7 0 c6.length)),(29,.c (row 3 o8 ov.operators)),(30,.c (int (ov.operators.length:Int))),(31,.c (int t5))],[.dead,.one (.cells 4 [[int 0,.imm (.val nL),.imm (.val nL),.imm (.val nL)]]),.one (.cells 2 [[int 0,int 0]]),.dead,.one (vec 1 intI a23),.one (vec 1 intI a26),.one (.cells 4 [[int ov.facts,.own 4 0 a23.length,.own 5 0 a26.length,.own 8 0 c7.length]]),.one (vec 2 P9 c6),.one (vec 4 u4 c7),.one (.cells 3 [[row 1 intI a34.pre,row 3 w9 a34.outcomes,int a34.cost]])]⟩) ?_ ?_ ?_ ?_
   ·try dsimp only
    exact Sub.env ⟨Z,Z,Z,Z,Z,Z,Z,Z,Z,Z,Z,Z,Y⟩
   ·intro t8 s hlot8 hltt8 _
    obtain⟨c6,c7⟩:=s
    try dsimp only
    refine AWP.q (.z (.J Z Z Z (.nil (b5 (.q (.ae Z hltt8 (.exit (d8 (d8 ⟨Z,?_⟩)))))))))
    exact Sub.env ⟨Z,Z,Z,Z,Z,Z,Z,Y⟩
   ·intro t8 s o hlot8 hltt8 h
    obtain⟨c6,c7⟩:=s
    unfold I7 at h
    try dsimp only at h ⊢
    refine AWP.q (.z (.J Z Z Z (.nil (b5 (.q (.af Z hltt8 (.skip (b5 (.q (.O (.q ?_)))))))))))
    obtain⟨a42,ha42,h⟩:=bind_some h
    refine AWP.z (.j Z Z (S.idx ha42 Z Z Z Z (W.loadIAgg Z Z Z Z Z (W.alloc Z Z Z Z (.u Z Z (W.storeAgg Z Z Z Z Z Z Z (.nil (b5 (.q ?_)))))))))
    obtain⟨a48,ha48,a51,ha51,a54,ha54,h⟩:=b3 h
    obtain⟨a59,ha59,h⟩:=bind_some h
    refine AWP.drawEI [14,15,17] mixed Z Z Z ?_
    refine e6.consN Z Z (fun E=>W.fieldAddr Z Z Z Z .N) Z (.consN Z Z (fun E=>AOps.F Z Z Z Z Z Z .N) Z (.consN Z Z (fun E=>W.fieldAddr Z Z Z Z .N) Z (.consN Z Z (fun E=>AOps.F Z Z Z Z Z Z .N) Z (.consN Z Z (fun E=>AOps.U Z Z Z Z (r8.data (m8 ha48)) Z .N) Z (.consN Z Z (fun E=>W.fieldAddr Z Z Z Z .N) Z (.consN Z Z (fun E=>AOps.F Z Z Z Z Z Z .N) Z (.consN Z Z (fun E=>AOps.U Z Z Z Z (r8.data (m8 ha51)) Z .N) Z (.consN Z Z (fun E=>W.fieldAddr Z Z Z Z .N) Z (.consN Z Z (fun E=>AOps.F Z Z Z Z Z Z .N) Z (.consN Z Z (fun E=>AOps.U Z Z Z Z (r8.data (m8 ha54)) Z .N) Z (.consN Z Z (fun E=>W.fieldAddr Z Z Z Z .N) Z (.consN Z Z (fun E=>AOps.F Z Z Z Z Z Z .N) Z (.consN Z Z (fun E=>W.build Z Z Z Z .N) Z ?_)))))))))))))
    apply e6.consE;exact Z;exact Z;intro E
    refine S.lit (f:=u4) (l:=[(⟨a48,a51,a54,a34.cost⟩:s9)]) (ess:=[[row 1 intI a48,row 1 intI a51,row 1 intI a54,int a34.cost]]) Z Z Z Z Z Z Z ⟨⟨.inl Z,.inl Z,.inl Z,.inl Z,Y⟩,Y⟩ Z Z Z .N
    exact Z
    exact Z
    apply e6.consE;exact Z;exact Z;intro E
    refine S.append (f:=u4) ha59 Z Z Z Z Z Z (.own Z Z) Z Z Z Z .N
    exact Z
    exact Z
    refine e6.consN Z Z (fun E=>W.fieldAddr Z Z Z Z .N) Z ?_
    apply e6.consE (v:=.undef);exact Z;exact Z;intro E
    refine W.store Z Z Z Z Z .N
    exact Z
    exact Z
    refine e6.done Z ?_ ?_
    ·refine d5.cons Z Z (b7.go Z Z (fun E=>W.fieldAddr Z Z Z Z .N) (b7.go Z Z (fun E=>W.fieldAddr Z Z Z Z .N) (b7.skip Z (b7.skip Z (b7.nil))))) (d5.cons Z Z (b7.go Z Z (fun E=>AOps.F Z Z Z Z Z Z .N) (b7.go Z Z (fun E=>AOps.F Z Z Z Z Z Z .N) (b7.skip Z (b7.skip Z (b7.nil))))) (d5.cons Z Z (b7.go Z Z (fun E=>W.fieldAddr Z Z Z Z .N) (b7.skip Z (b7.skip Z (b7.skip Z (b7.nil))))) (d5.cons Z Z (b7.go Z Z (fun E=>AOps.F Z Z Z Z Z Z .N) (b7.skip Z (b7.skip Z (b7.skip Z (b7.nil))))) (d5.cons Z Z (b7.go Z Z (fun E=>AOps.U Z Z Z Z (r8.data (m8 ha48)) Z .N) (b7.skip Z (b7.skip Z (b7.skip Z (b7.nil))))) (d5.cons Z Z (b7.go Z Z (fun E=>W.fieldAddr Z Z Z Z .N) (b7.skip Z (b7.skip Z (b7.skip Z (b7.nil))))) (d5.cons Z Z (b7.go Z Z (fun E=>AOps.F Z Z Z Z Z Z .N) (b7.skip Z (b7.skip Z (b7.skip Z (b7.nil))))) (d5.cons Z Z (b7.go Z Z (fun E=>AOps.U Z Z Z Z (r8.data (m8 ha51)) Z .N) (b7.skip Z (b7.skip Z (b7.skip Z (b7.nil))))) (d5.cons Z Z (b7.go Z Z (fun E=>W.fieldAddr Z Z Z Z .N) (b7.skip Z (b7.skip Z (b7.skip Z (b7.nil))))) (d5.cons Z Z (b7.go Z Z (fun E=>AOps.F Z Z Z Z Z Z .N) (b7.skip Z (b7.skip Z (b7.skip Z (b7.nil))))) (d5.cons Z Z (b7.go Z Z (fun E=>AOps.U Z Z Z Z (r8.data (m8 ha54)) Z .N) (b7.skip Z (b7.skip Z (b7.skip Z (b7.nil))))) (d5.cons Z Z (b7.go Z Z (fun E=>W.fieldAddr Z Z Z Z .N) (b7.skip Z (b7.skip Z (b7.skip Z (b7.nil))))) ?_)))))))))))
     refine d5.cons Z Z (b7.go Z Z (fun E=>AOps.F Z Z Z Z Z Z .N) (b7.skip Z (b7.skip Z (b7.skip Z (b7.nil))))) (d5.cons Z Z (b7.go Z Z (fun E=>W.build Z Z Z Z .N) (b7.skip Z (b7.skip Z (b7.skip Z (b7.nil))))) ?_)
     refine d5.skip Z (d5.skip Z ?_)
     refine d5.cons Z Z ?_ ?_
     refine b7.skip Z (b7.skip Z ?_)
     refine b7.go Z Z (fun E=>W.fieldAddr Z Z Z Z .N) ?_
     refine b7.skip Z (b7.nil)
     refine d5.skip Z (d5.nil)
    dsimp only[l7]
    refine b5 (.j (env':=[(2,.c (.ptr 1 0 0)),(4,.c (.ptr 2 0 0)),(6,.c (.ptr 6 0 0)),(7,.c (.own 7 0 c6.length)),(8,.c (int t5)),(9,.c (.ptr 9 0 0)),(10,.c (int t8)),(29,.c (row 3 o8 ov.operators)),(30,.c (int (ov.operators.length:Int))),(31,.c (int t5)),(37,.c (row 3 w9 a34.outcomes)),(38,.c (int (a34.outcomes.length:Int))),(39,.c (int t8))]) (σ':=[.dead,.one (.cells 4 [[int 0,.imm (.val nL),.imm (.val nL),.imm (.val nL)]]),.one (.cells 2 [[int 0,int 0]]),.dead,.one (vec 1 intI a23),.one (vec 1 intI a26),.one (.cells 4 [[int ov.facts,.own 4 0 a23.length,.own 5 0 a26.length,.own 8 0 a59.length]]),.one (vec 2 P9 c6),.one (vec 4 u4 a59),.one (.cells 3 [[row 1 intI a34.pre,row 3 w9 a34.outcomes,int a34.cost]]),.one (.cells 3 [[row 1 intI a42.add,row 1 intI a42.del,int a42.weight]]),.one (vec 4 u4 [(⟨a48,a51,a54,a34.cost⟩:s9)])]) 8 12 Z Z Z ⟨Z,Z,Z,Z,Z,Z,Z,Z,Z,Z,Z,Z,Z,Y⟩ Z ⟨trivial,⟨Z,Z⟩,⟨Z,Z⟩,trivial,⟨Blk.im_ok _ _ _,i6 Z⟩,⟨Blk.im_ok _ _ _,i6 Z⟩,⟨Z,Z⟩,⟨Blk.im_ok _ _ _,i6 Z⟩,⟨Blk.im_ok _ _ _,i6 Z⟩,⟨Z,Z⟩,⟨Z,Z⟩,⟨Blk.im_ok _ _ _,i6 Z⟩,Y⟩ ?_)
    obtain⟨a66,ha66,h⟩:=bind_some h
    refine AWP.z (.j Z Z (.j Z Z (.j Z Z (.buildA Z Z Z Z (S.lit (f:=P9) (l:=[(t5,t8)]) (ess:=[[int t5,int t8]]) Z Z Z Z Z Z Z ⟨⟨.inl Z,.inl Z,Y⟩,Y⟩ Z Z Z (S.append (f:=P9) ha66 Z Z Z Z Z Z (.own Z Z) Z Z Z Z (.u Z Z (.nil (d6 (b5 (.j (env':=[(2,.c (.ptr 1 0 0)),(4,.c (.ptr 2 0 0)),(6,.c (.ptr 6 0 0)),(7,.c (.own 7 0 a66.length)),(8,.c (int t5)),(9,.c (.ptr 9 0 0)),(29,.c (row 3 o8 ov.operators)),(30,.c (int (ov.operators.length:Int))),(31,.c (int t5)),(37,.c (row 3 w9 a34.outcomes)),(38,.c (int (a34.outcomes.length:Int))),(39,.c (int t8))]) (σ':=[.dead,.one (.cells 4 [[int 0,.imm (.val nL),.imm (.val nL),.imm (.val nL)]]),.one (.cells 2 [[int 0,int 0]]),.dead,.one (vec 1 intI a23),.one (vec 1 intI a26),.one (.cells 4 [[int ov.facts,.own 4 0 a23.length,.own 5 0 a26.length,.own 8 0 a59.length]]),.one (vec 2 P9 a66),.one (vec 4 u4 a59),.one (.cells 3 [[row 1 intI a34.pre,row 3 w9 a34.outcomes,int a34.cost]]),.one (.cells 3 [[row 1 intI a42.add,row 1 intI a42.del,int a42.weight]]),.one (vec 4 u4 [(⟨a48,a51,a54,a34.cost⟩:s9)]),.one (vec 2 P9 [(t5,t8)])]) 7 13 Z Z Z ⟨Z,Z,Z,Z,Z,Z,Z,Z,Z,Z,Z,Z,Y⟩ Z ⟨trivial,⟨Z,Z⟩,⟨Z,Z⟩,trivial,⟨Blk.im_ok _ _ _,i6 Z⟩,⟨Blk.im_ok _ _ _,i6 Z⟩,⟨Z,Z⟩,⟨Blk.im_ok _ _ _,i6 Z⟩,⟨Blk.im_ok _ _ _,i6 Z⟩,⟨Z,Z⟩,⟨Z,Z⟩,⟨Blk.im_ok _ _ _,i6 Z⟩,⟨Blk.im_ok _ _ _,i6 Z⟩,Y⟩ (.z (.add Z Z Z (by omega) (.j Z Z (.nil ?_)))))))))))))))
    obtain rfl:=oi h
    refine b5 (Sub.cut ⟨Z,Z,Z,Z,Z,Z,Z,Z,Z,Z,Z,Z,Y⟩ Z ⟨.dead,.one Z,.one Z,.dead,.vec,.vec,.one Z,.vec,.vec,.one Z,Y⟩ Z)
   ·intro e s hq
    obtain⟨rfl,hs⟩:=hq
    refine⟨_,hs,?_⟩
    refine g8 (d6 (b5 (.z (.add Z Z Z (by omega) (.j Z Z (.nil ?_))))))
    obtain rfl:=oi h
    refine b5 (Sub.cut ⟨Z,Z,Z,Z,Z,Z,Z,Y⟩ Z ⟨.dead,.one Z,.one Z,.dead,.vec,.vec,.one Z,.vec,.vec,Y⟩ Z)
  ·intro e s hq
   obtain⟨rfl,hs⟩:=hq
   refine⟨_,hs,?_⟩
   refine g8 (b5 (.q (.q (.z (.j Z Z (S.lenO Z Z Z (fun hl70=>.gtr Z Z Z (.nil (b5 (.ite Z h (fun hc9 h=> ?_) (fun hc9 h=> ?_)))))))))))
   ·refine AWP.q (.z (W.build Z Z Z Z (W.build Z Z Z Z (W.storeAgg Z Z Z Z Z Z Z (.u Z Z (W.storeAgg Z Z Z Z Z Z Z (.nil (b5 (.nilB (b:=1) [int 0,row 1 intI [],row 1 intI [],row 4 u4 []] Z (by exact⟨.inl Z,.inr ⟨Z,_,Z⟩,.inr ⟨Z,_,Z⟩,.inr ⟨Z,_,Z⟩,Y⟩) Z Z (.nilrow 2 3 Z (.ret (e7 ?_))))))))))))
    obtain rfl:=oi h
    exact Done.ret Z Z
   ·refine AWP.skip (b5 (.q (.z (W.loadAgg Z Z Z Z Z Z Z (.j Z Z (W.build Z Z Z Z (W.storeAgg Z Z Z Z Z Z Z (.u Z Z (W.storeAgg Z Z Z Z Z Z Z (.nil (b5 (.frzV (id:=4) (l:=a23) (env2:=[(2,.c (.ptr 1 0 0)),(3,.c (.own 7 0 c3.length)),(4,.c (.ptr 2 0 0))]) (σ2:=[.dead,.one (.cells 4 [[int ov.facts,row 1 intI a23,.own 5 0 a26.length,.own 8 0 c4.length]]),.one (.cells 2 [[int 0,int 0]]),.dead,.dead,.one (vec 1 intI a26),.one (.cells 4 [[int ov.facts,row 1 intI a23,.own 5 0 a26.length,.own 8 0 c4.length]]),.one (vec 2 P9 c3),.one (vec 4 u4 c4)]) Z Z (by exact⟨⟨_,Z,.inl ⟨Z,Z⟩⟩,⟨_,Z,.inl ⟨Z,Z⟩⟩,⟨_,Z,.inl ⟨Z,Z⟩⟩,Y⟩) Z (by exact⟨trivial,⟨Z,.inl ⟨Z,Z⟩,.inr ⟨_,Z,Z,Z⟩,.inl ⟨Z,Z⟩,.inl ⟨Z,Z⟩,Y⟩,⟨Z,.inl ⟨Z,Z⟩,.inl ⟨Z,Z⟩,Y⟩,trivial,trivial,FrzB.vec,⟨Z,.inl ⟨Z,Z⟩,.inr ⟨_,Z,Z,Z⟩,.inl ⟨Z,Z⟩,.inl ⟨Z,Z⟩,Y⟩,FrzB.vec,FrzB.vec,Y⟩) (.frzV (id:=5) (l:=a26) (env2:=[(2,.c (.ptr 1 0 0)),(3,.c (.own 7 0 c3.length)),(4,.c (.ptr 2 0 0))]) (σ2:=[.dead,.one (.cells 4 [[int ov.facts,row 1 intI a23,row 1 intI a26,.own 8 0 c4.length]]),.one (.cells 2 [[int 0,int 0]]),.dead,.dead,.dead,.one (.cells 4 [[int ov.facts,row 1 intI a23,row 1 intI a26,.own 8 0 c4.length]]),.one (vec 2 P9 c3),.one (vec 4 u4 c4)]) Z Z (by exact⟨⟨_,Z,.inl ⟨Z,Z⟩⟩,⟨_,Z,.inl ⟨Z,Z⟩⟩,⟨_,Z,.inl ⟨Z,Z⟩⟩,Y⟩) Z (by exact⟨trivial,⟨Z,.inl ⟨Z,Z⟩,.inl ⟨Z,Z⟩,.inr ⟨_,Z,Z,Z⟩,.inl ⟨Z,Z⟩,Y⟩,⟨Z,.inl ⟨Z,Z⟩,.inl ⟨Z,Z⟩,Y⟩,trivial,trivial,trivial,⟨Z,.inl ⟨Z,Z⟩,.inl ⟨Z,Z⟩,.inr ⟨_,Z,Z,Z⟩,.inl ⟨Z,Z⟩,Y⟩,FrzB.vec,FrzB.vec,Y⟩) (.frzV (id:=8) (l:=c4) (env2:=[(2,.c (.ptr 1 0 0)),(3,.c (.own 7 0 c3.length)),(4,.c (.ptr 2 0 0))]) (σ2:=[.dead,.one (.cells 4 [[int ov.facts,row 1 intI a23,row 1 intI a26,row 4 u4 c4]]),.one (.cells 2 [[int 0,int 0]]),.dead,.dead,.dead,.one (.cells 4 [[int ov.facts,row 1 intI a23,row 1 intI a26,row 4 u4 c4]]),.one (vec 2 P9 c3),.dead]) Z Z (by exact⟨⟨_,Z,.inl ⟨Z,Z⟩⟩,⟨_,Z,.inl ⟨Z,Z⟩⟩,⟨_,Z,.inl ⟨Z,Z⟩⟩,Y⟩) Z (by exact⟨trivial,⟨Z,.inl ⟨Z,Z⟩,.inl ⟨Z,Z⟩,.inl ⟨Z,Z⟩,.inr ⟨_,Z,Z,Z⟩,Y⟩,⟨Z,.inl ⟨Z,Z⟩,.inl ⟨Z,Z⟩,Y⟩,trivial,trivial,trivial,⟨Z,.inl ⟨Z,Z⟩,.inl ⟨Z,Z⟩,.inl ⟨Z,Z⟩,.inr ⟨_,Z,Z,Z⟩,Y⟩,FrzB.vec,trivial,Y⟩) (.frzV (id:=7) (l:=c3) (env2:=[(2,.c (.ptr 1 0 0)),(3,.c (row 2 P9 c3)),(4,.c (.ptr 2 0 0))]) (σ2:=[.dead,.one (.cells 4 [[int ov.facts,row 1 intI a23,row 1 intI a26,row 4 u4 c4]]),.one (.cells 2 [[int 0,int 0]]),.dead,.dead,.dead,.one (.cells 4 [[int ov.facts,row 1 intI a23,row 1 intI a26,row 4 u4 c4]]),.dead,.dead]) Z Z (by exact⟨⟨_,Z,.inl ⟨Z,Z⟩⟩,⟨_,Z,.inr ⟨_,Z,Z,Z⟩⟩,⟨_,Z,.inl ⟨Z,Z⟩⟩,Y⟩) Z (by exact⟨trivial,⟨Z,.inl ⟨Z,Z⟩,.inl ⟨Z,Z⟩,.inl ⟨Z,Z⟩,.inl ⟨Z,Z⟩,Y⟩,⟨Z,.inl ⟨Z,Z⟩,.inl ⟨Z,Z⟩,Y⟩,trivial,trivial,trivial,⟨Z,.inl ⟨Z,Z⟩,.inl ⟨Z,Z⟩,.inl ⟨Z,Z⟩,.inl ⟨Z,Z⟩,Y⟩,trivial,trivial,Y⟩) (.ret ?_))))))))))))))))
    obtain rfl:=oi h
    exact Done.ret Z Z
theorem ax8{ov:s9}{facts:Int}{r:Int}(h:R7 ov facts=some r):e8 prog 100 [.agg [row 1 intI ov.pre,row 1 intI ov.add,row 1 intI ov.del,int ov.cost],.c (int facts)] (.c (int r)):=by
 unfold e8
 refine FnOk.enter (rs:=[.t 4]) func100 Z ntmps100 results100 Z ⟨trivial,Y⟩ (by kernel_rfl) Z ?_
 unfold R7 at h
 refine AWP.q (.z (W.box Z Z Z Z Z Z (.u Z Z (.nil (b5 (.q (.O ?_)))))))
 obtain⟨t3,hx4,h⟩:=bind_some h
 refine AWP.seqJ (⟨[(2,.c (.ptr 0 0 0)),(5,.c (bool t3))],[.one (.cells 4 [[row 1 intI ov.pre,row 1 intI ov.add,row 1 intI ov.del,int ov.cost]])]⟩) ?_ ?_
 ·obtain⟨a9,ha9,hx4⟩:=bind_some hx4
  rcases bft (!a9) with hb5|hb5
  ·replace hx4:=ac2 hb5 hx4
   refine AWP.z (W.fieldAddr Z Z Z Z (.F Z Z Z Z Z Z (.j Z Z (.U Z Z Z Z (m5 ha9) Z (.not Z Z (.j Z Z (.E Z Z Z hb5 (.E Z Z Z hb5 (.E Z Z Z hb5 (.E Z Z Z hb5 (.E Z Z Z hb5 (.aa Z hb5 Z Z (.j Z Z (.E Z Z Z Z (.E Z Z Z Z (.E Z Z Z Z (.E Z Z Z Z (.E Z Z Z Z (.aa Z Z Z Z (.j Z Z (.E Z Z Z Z (.E Z Z Z Z (.E Z Z Z Z (.E Z Z Z Z (.E Z Z Z Z (.aa Z Z Z Z (.u Z Z (.nil ?_))))))))))))))))))))))))))))
   obtain rfl:=oi hx4
   refine b5 (Sub.env ⟨Z,Z,Y⟩)
  ·replace hx4:=ac1 hb5 hx4
   obtain⟨a15,ha15,hx4⟩:=bind_some hx4
   rcases bft (!a15) with hb6|hb6
   ·replace hx4:=ac2 hb6 hx4
    refine AWP.z (W.fieldAddr Z Z Z Z (.F Z Z Z Z Z Z (.j Z Z (.U Z Z Z Z (m5 ha9) Z (.not Z Z (.j Z Z (.B Z Z Z hb5 (W.fieldAddr Z Z Z Z (.B Z Z Z hb5 (.F Z Z Z Z Z Z (.B Z Z Z hb5 (.j Z Z (.B Z Z Z hb5 (.U Z Z Z Z (m5 ha15) Z (.B Z Z Z hb5 (.not Z Z (.ab Z hb5 Z Z (.j Z Z (.E Z Z Z hb6 (.E Z Z Z hb6 (.E Z Z Z hb6 (.E Z Z Z hb6 (.E Z Z Z hb6 (.aa Z hb6 Z Z (.j Z Z (.E Z Z Z Z (.E Z Z Z Z (.E Z Z Z Z (.E Z Z Z Z (.E Z Z Z Z (.aa Z Z Z Z (.u Z Z (.nil ?_)))))))))))))))))))))))))))))))))
    obtain rfl:=oi hx4
    refine b5 (Sub.env ⟨Z,Z,Y⟩)
   ·replace hx4:=ac1 hb6 hx4
    obtain⟨a22,ha22,hx4⟩:=bind_some hx4
    rcases bft (!a22) with hb7|hb7
    ·replace hx4:=ac2 hb7 hx4
     refine AWP.z (W.fieldAddr Z Z Z Z (.F Z Z Z Z Z Z (.j Z Z (.U Z Z Z Z (m5 ha9) Z (.not Z Z (.j Z Z (.B Z Z Z hb5 (W.fieldAddr Z Z Z Z (.B Z Z Z hb5 (.F Z Z Z Z Z Z (.B Z Z Z hb5 (.j Z Z (.B Z Z Z hb5 (.U Z Z Z Z (m5 ha15) Z (.B Z Z Z hb5 (.not Z Z (.ab Z hb5 Z Z (.j Z Z (.B Z Z Z hb6 (W.fieldAddr Z Z Z Z (.B Z Z Z hb6 (.F Z Z Z Z Z Z (.B Z Z Z hb6 (.j Z Z (.B Z Z Z hb6 (.U Z Z Z Z (m5 ha22) Z (.B Z Z Z hb6 (.not Z Z (.ab Z hb6 Z Z (.j Z Z (.E Z Z Z hb7 (.E Z Z Z hb7 (.E Z Z Z hb7 (.E Z Z Z hb7 (.E Z Z Z hb7 (.aa Z hb7 Z Z (.u Z Z (.nil ?_))))))))))))))))))))))))))))))))))))))
     obtain rfl:=oi hx4
     refine b5 (Sub.env ⟨Z,Z,Y⟩)
    ·replace hx4:=ac1 hb7 hx4
     obtain⟨a30,ha30,hx4⟩:=bind_some hx4
     refine AWP.z (W.fieldAddr Z Z Z Z (.F Z Z Z Z Z Z (.j Z Z (.U Z Z Z Z (m5 ha9) Z (.not Z Z (.j Z Z (.B Z Z Z hb5 (W.fieldAddr Z Z Z Z (.B Z Z Z hb5 (.F Z Z Z Z Z Z (.B Z Z Z hb5 (.j Z Z (.B Z Z Z hb5 (.U Z Z Z Z (m5 ha15) Z (.B Z Z Z hb5 (.not Z Z (.ab Z hb5 Z Z (.j Z Z (.B Z Z Z hb6 (W.fieldAddr Z Z Z Z (.B Z Z Z hb6 (.F Z Z Z Z Z Z (.B Z Z Z hb6 (.j Z Z (.B Z Z Z hb6 (.U Z Z Z Z (m5 ha22) Z (.B Z Z Z hb6 (.not Z Z (.ab Z hb6 Z Z (.j Z Z (.B Z Z Z hb7 (W.fieldAddr Z Z Z Z (.B Z Z Z hb7 (.F Z Z Z Z Z Z (.B Z Z Z hb7 (W.fieldAddr Z Z Z Z (.B Z Z Z hb7 (.F Z Z Z Z Z Z (.B Z Z Z hb7 (.U Z Z Z Z (ar2 ha30) Z (.ab Z hb7 Z Z (.u Z Z (.nil ?_)))))))))))))))))))))))))))))))))))))))))))
     obtain rfl:=oi hx4
     refine b5 (Sub.env ⟨Z,Z,Y⟩)
 ·refine AWP.ag Z h (fun hc8 h=> ?_) (fun hc8 h=> ?_)
  ·refine AWP.q (.z (.u Z Z (.nil (b5 (.ret (i8 (e7 ?_)))))))
   obtain rfl:=oi h
   exact Done.ret Z Z
  ·refine AWP.seqJ (⟨[(32,.c (bool ((decide (ov.cost<0))||(decide (100<ov.cost)))))],[.one (.cells 4 [[row 1 intI ov.pre,row 1 intI ov.add,row 1 intI ov.del,int ov.cost]])]⟩) ?_ ?_
   ·rcases bft (decide (ov.cost<0)) with hb1|hb1
    ·refine AWP.z (W.fieldAddr Z Z Z Z (.F Z Z Z Z Z Z (.J Z Z Z (.j Z Z (.E Z Z Z hb1 (.E Z Z Z hb1 (.E Z Z Z hb1 (.aa Z hb1 Z Z (.u Z Z (.nil (b5 ?_)))))))))))
     simp only[O3 hb1,or_t hb1,Bool.false_or,Bool.true_or,Bool.false_and,Bool.true_and]
     exact Sub.env ⟨Z,Y⟩
    ·refine AWP.z (W.fieldAddr Z Z Z Z (.F Z Z Z Z Z Z (.J Z Z Z (.j Z Z (.B Z Z Z hb1 (W.fieldAddr Z Z Z Z (.B Z Z Z hb1 (.F Z Z Z Z Z Z (.B Z Z Z hb1 (.gtr Z Z Z (.ab Z hb1 Z Z (.u Z Z (.nil (b5 ?_))))))))))))))
     simp only[J7 hb1,or_f hb1,Bool.false_or,Bool.true_or,Bool.false_and,Bool.true_and]
     exact Sub.env ⟨Z,Y⟩
   ·refine AWP.ag Z h (fun hc9 h=> ?_) (fun hc9 h=> ?_)
    ·refine AWP.q (.z (.u Z Z (.nil (b5 (.ret (i8 (e7 ?_)))))))
     obtain rfl:=oi h
     exact Done.ret Z Z
    ·refine AWP.skip (d6 (b5 (.q (.z (.u Z Z (.nil (b5 (.ret ?_))))))))
     obtain rfl:=oi h
     exact Done.ret Z Z
theorem ax6{t:m6}{r:k6}(h:H7 t=some r):e8 prog 58 [.agg (tT t)] (.agg [int r.code,int r.index]):=by
 unfold e8
 refine FnOk.enter (rs:=[.cell 2 32 2]) func58 Z ntmps58 results58 Z ⟨rv _ Z,Y⟩ (by kernel_rfl) Z ?_
 unfold H7 at h
 refine AWP.q (.z (W.box Z Z Z Z Z Z (W.alloc Z Z Z Z (.nil (b5 (.q (.O (.seqJ (⟨[(1,.c (.ptr 0 0 0)),(2,.c (.ptr 1 0 0)),(6,.c (bool ((decide (t.facts<0))||(decide (24<t.facts)))))],[.one (.cells 4 [(tT t)]),.one (.cells 2 [[int 0,int 0]])]⟩) ?_ ?_))))))))
 ·rcases bft (decide (t.facts<0)) with hb1|hb1
  ·refine AWP.z (W.fieldAddr Z Z Z Z (.F Z Z Z Z Z Z (.J Z Z Z (.j Z Z (.E Z Z Z hb1 (.E Z Z Z hb1 (.E Z Z Z hb1 (.aa Z hb1 Z Z (.u Z Z (.nil (b5 ?_)))))))))))
   simp only[O3 hb1,or_t hb1,Bool.false_or,Bool.true_or,Bool.false_and,Bool.true_and]
   exact Sub.env ⟨Z,Z,Z,Y⟩
  ·refine AWP.z (W.fieldAddr Z Z Z Z (.F Z Z Z Z Z Z (.J Z Z Z (.j Z Z (.B Z Z Z hb1 (W.fieldAddr Z Z Z Z (.B Z Z Z hb1 (.F Z Z Z Z Z Z (.B Z Z Z hb1 (.gtr Z Z Z (.ab Z hb1 Z Z (.u Z Z (.nil (b5 ?_))))))))))))))
   simp only[J7 hb1,or_f hb1,Bool.false_or,Bool.true_or,Bool.false_and,Bool.true_and]
   exact Sub.env ⟨Z,Z,Z,Y⟩
 ·refine AWP.ag Z h (fun hc2 h=> ?_) (fun hc2 h=> ?_)
  ·refine AWP.q (.z (W.build Z Z Z Z (W.storeAgg Z Z Z Z Z Z Z (.nil (b5 (.ret (i8 (e7 ?_))))))))
   obtain rfl:=oi h
   exact Done.ret Z Z
  ·refine AWP.q ?_
   obtain⟨a21,ha21,h⟩:=bind_some h
   refine AWP.z (W.fieldAddr Z Z Z Z (.F Z Z Z Z Z Z (W.fieldAddr Z Z Z Z (.F Z Z Z Z Z Z (.U Z Z Z Z (m5 ha21) Z (.not Z Z (.u Z Z (.nil (b5 (.ag Z h (fun hc3 h=> ?_) (fun hc3 h=> ?_)))))))))))
   ·refine AWP.q (.z (W.build Z Z Z Z (W.storeAgg Z Z Z Z Z Z Z (.nil (b5 (.ret (i8 (e7 ?_))))))))
    obtain rfl:=oi h
    exact Done.ret Z Z
   ·refine AWP.q ?_
    obtain⟨a29,ha29,h⟩:=bind_some h
    refine AWP.z (W.fieldAddr Z Z Z Z (.F Z Z Z Z Z Z (W.fieldAddr Z Z Z Z (.F Z Z Z Z Z Z (.U Z Z Z Z (m5 ha29) Z (.not Z Z (.u Z Z (.nil (b5 (.ag Z h (fun hc4 h=> ?_) (fun hc4 h=> ?_)))))))))))
    ·refine AWP.q (.z (W.build Z Z Z Z (W.storeAgg Z Z Z Z Z Z Z (.nil (b5 (.ret (i8 (e7 ?_))))))))
     obtain rfl:=oi h
     exact Done.ret Z Z
    ·refine AWP.q (.z (W.fieldAddr Z Z Z Z (.F Z Z Z Z Z Z (S.len Z Z (fun hl35=>.gtr Z Z Z (.u Z Z (.nil (b5 (.ite Z h (fun hc5 h=> ?_) (fun hc5 h=> ?_))))))))))
     ·refine AWP.q (.z (W.build Z Z Z Z (W.storeAgg Z Z Z Z Z Z Z (.nil (b5 (.ret (i8 (e7 ?_))))))))
      obtain rfl:=oi h
      exact Done.ret Z Z
     ·refine AWP.skip (d6 (b5 (.q (.q (.z (W.fieldAddr Z Z Z Z (.F Z Z Z Z Z Z (S.len Z Z (fun hl40=>.j Z Z (.nil (b5 (.O ?_))))))))))))
      obtain⟨oo,ho1,h⟩:=bind_some h
      refine AWP.rngS ho1 (fun t6 _=>⟨[(1,.c (.ptr 0 0 0)),(2,.c (.ptr 1 0 0)),(39,.c (row 4 u4 t.operators)),(40,.c (int (t.operators.length:Int))),(41,.c (int t6))],[.one (.cells 4 [(tT t)]),.one (.cells 2 [[int 0,int 0]])]⟩) (fun o e st=>match o with| .inl _=>e=.exit 1∧Sub [] st ⟨[(2,.c (.ptr 1 0 0))],[.one (.cells 4 [(tT t)]),.one (.cells 2 [[int 0,int 0]])]⟩| .inr x=>e=.ret∧Done [.cell 2 32 2] (fun t _=>t=.agg [int x.code,int x.index]) .ret st) ?_ ?_ ?_ ?_
      ·try dsimp only
       exact Sub.env ⟨Z,Z,Z,Z,Z,Y⟩
      ·intro t6 s hlot6 hltt6 _
       try dsimp only
       refine AWP.q (.z (.J Z Z Z (.nil (b5 (.q (.ae Z hltt6 (.exit (d8 (d8 ⟨Z,?_⟩)))))))))
       exact Sub.env ⟨Z,Y⟩
      ·intro t6 s o hlot6 hltt6 h
       unfold K7 at h
       try dsimp only at h ⊢
       refine AWP.q (.z (.J Z Z Z (.nil (b5 (.q (.af Z hltt6 (.skip (b5 (.q (.O (.q ?_)))))))))))
       obtain⟨a44,ha44,h⟩:=bind_some h
       refine AWP.z (.j Z Z (S.idx ha44 Z Z Z Z (W.loadIAgg Z Z Z Z Z (W.alloc Z Z Z Z (.u Z Z (W.storeAgg Z Z Z Z Z Z Z (.nil (b5 (.q ?_)))))))))
       obtain⟨a49,ha49,h⟩:=bind_some h
       refine AWP.z (W.loadAgg Z Z Z Z Z Z Z (W.fieldAddr Z Z Z Z (.F Z Z Z Z Z Z (.U Z Z Z Z (ax8 ha49) Z (.u Z Z (.nil (b5 (.q (.z (.j Z Z (.neq Z Z Z (.nil (b5 (.iteN Z h (fun hc7 h=> ?_) (fun hc7 h=> ?_)))))))))))))))
       ·refine AWP.q (.z (.j Z Z (.j Z Z (W.build Z Z Z Z (W.storeAgg Z Z Z Z Z Z Z (.nil (b5 (.ret (i8 (e7 ?_))))))))))
        obtain rfl:=oi h
        refine e7 ⟨_,Z,Z,?_⟩
        exact Done.ret Z Z
       ·refine AWP.skip (d6 (b5 (.z (.add Z Z Z (by omega) (.j Z Z (.nil ?_))))))
        obtain rfl:=oi h
        refine b5 ⟨_,Z,?_⟩
        exact Sub.cut ⟨Z,Z,Z,Z,Z,Y⟩ Z ⟨.one Z,.one Z,Y⟩ Z
      ·intro e s hq
       rcases oo with u|x
       ·try dsimp only at h hq
        obtain⟨rfl,hs⟩:=hq
        refine⟨_,hs,?_⟩
        refine g8 (b5 (.q (.z (W.build Z Z Z Z (W.storeAgg Z Z Z Z Z Z Z (.nil (b5 (.ret ?_))))))))
        obtain rfl:=oi h
        exact Done.ret Z Z
       ·try dsimp only at h hq
        obtain⟨rfl,hs⟩:=hq
        refine⟨_,Sub.refl _ _,?_⟩
        refine i8 (e7 ?_)
        obtain rfl:=oi h
        exact hs
theorem D1{sv:Li}{r:Int}(h:N9 sv=some r):e8 prog 101 [.c (row 1 intI sv)] (.c (.imm (.val (.int .u32 r)))):=by
 unfold e8
 refine FnOk.enter (rs:=[.t 2]) func101 Z ntmps101 results101 Z ⟨trivial,Y⟩ (by kernel_rfl) Z ?_
 unfold N9 at h
 refine AWP.q (.z (.u Z Z (.nil (b5 (.q (.z (.u Z Z (.nil (b5 (.q (.q (.z (.j Z Z (S.len Z Z (fun hl7=>.j Z Z (.nil (b5 (.O ?_))))))))))))))))))
 obtain⟨w2,ho1,h⟩:=bind_some h
 refine AWP.forS ho1 (fun t3 w2=>⟨[(3,.c (.imm (.val (.int .u32 w2)))),(6,.c (row 1 intI sv)),(7,.c (int (sv.length:Int))),(8,.c (int t3))],[]⟩) (fun w2 e st=>e=.exit 0∧Sub [] st ⟨[(3,.c (.imm (.val (.int .u32 w2))))],[]⟩) ?_ ?_ ?_ ?_
 ·try dsimp only
  exact Sub.env ⟨Z,Z,Z,Z,Y⟩
 ·intro t3 w2 hlot3 hltt3 _
  try dsimp only
  refine AWP.q (.z (.J Z Z Z (.nil (b5 (.q (.ae Z hltt3 (.exit (d8 (d8 ⟨Z,?_⟩)))))))))
  exact Sub.env ⟨Z,Y⟩
 ·intro t3 w2 o hlot3 hltt3 h
  unfold ae0 at h
  try dsimp only at h ⊢
  refine AWP.q (.z (.J Z Z Z (.nil (b5 (.q (.af Z hltt3 (.skip (b5 (.q (.O (.q ?_)))))))))))
  obtain⟨a10,ha10,h⟩:=bind_some h
  refine AWP.z (S.idx ha10 Z Z Z Z (.ad Z Z Z Z (.u Z Z (.nil (b5 ?_)))))
  obtain⟨u14,hu14,h⟩:=bind_some h
  refine AWP.z (.j Z Z (.j Z Z (S.shl hu14 Z Z Z (.bits Z Z Z (by simp) (.u Z Z (.nil (d6 (b5 (.z (.add Z Z Z (by omega) (.j Z Z (.nil ?_))))))))))))
  obtain rfl:=oi h
  refine b5 (Sub.env ⟨Z,Z,Z,Z,Y⟩)
 ·intro e s hq
  obtain⟨rfl,hs⟩:=hq
  refine⟨_,hs,?_⟩
  refine g8 (b5 (.q (.z (.j Z Z (.u Z Z (.nil (b5 (.ret ?_))))))))
  obtain rfl:=oi h
  exact Done.ret Z Z
theorem at6{w:Int}{r:Li}(h:W9 w=some r):r8 prog 63 [.c (.imm (.val (.int .u32 w)))] 1 (List.map intI r):=by
 unfold r8
 refine FnOk.enter (rs:=[.t 2]) func63 Z ntmps63 results63 Z ⟨trivial,Y⟩ (by kernel_rfl) Z ?_
 unfold W9 at h
 refine AWP.q (.z (.u Z Z (.nil (b5 (.q (.z (.u Z Z (.nil (b5 (.q (.q (.z (.j Z Z (.nil (b5 (.O (.virtV 1 intI 3 Z Z Z ?_)))))))))))))))))
 obtain⟨c2,ho1,h⟩:=bind_some h
 refine AWP.forS ho1 (fun t3 c2=>⟨[(0,.c (.imm (.val (.int .u32 w)))),(3,.c (.own 0 0 c2.length)),(5,.c (int t3))],[.one (vec 1 intI c2)]⟩) (fun c2 e st=>e=.exit 0∧Sub [] st ⟨[(3,.c (.own 0 0 c2.length))],[.one (vec 1 intI c2)]⟩) ?_ ?_ ?_ ?_
 ·try dsimp only
  exact Sub.env ⟨Z,(J3 (by first|rfl|simp only[lS])),Z,Y⟩
 ·intro t3 c2 hlot3 hltt3 _
  try dsimp only
  refine AWP.q (.z (.J Z Z Z (.nil (b5 (.q (.ae Z hltt3 (.exit (d8 (d8 ⟨Z,?_⟩)))))))))
  exact Sub.env ⟨Z,Y⟩
 ·intro t3 c2 o hlot3 hltt3 h
  unfold ab7 at h
  try dsimp only at h ⊢
  refine AWP.q (.z (.J Z Z Z (.nil (b5 (.q (.af Z hltt3 (.skip (b5 ?_))))))))
  obtain⟨c4,hx5,h⟩:=bind_some h
  refine AWP.seqJ (⟨[(0,.c (.imm (.val (.int .u32 w)))),(3,.c (.own 2 0 c4.length)),(5,.c (int t3))],[.dead,.dead,.one (vec 1 intI c4)]⟩) ?_ ?_
  ·refine AWP.O (.q (.z (.j Z Z (.u Z Z (.nil (b5 (.q (.z (.j Z Z (.j Z Z (.shr Z Z Z (by first|decide|omega) Z (.bits Z Z Z (by simp) (.eql Z Z Z (.nil (b5 (.ite Z hx5 (fun hc6 hx5=> ?_) (fun hc6 hx5=> ?_)))))))))))))))))
   ·obtain⟨a16,ha16,hx5⟩:=bind_some hx5
    refine AWP.z (.j Z Z (.j Z Z (S.lit (f:=intI) (l:=[t3]) (ess:=[[int t3]]) Z Z Z Z Z Z Z ⟨⟨.inl Z,Y⟩,Y⟩ Z Z Z (S.append (f:=intI) ha16 Z Z Z Z Z Z (.own Z Z) Z Z Z Z (.u Z Z (.nil (d6 ?_)))))))
    obtain rfl:=oi hx5
    refine b5 (Sub.cut ⟨Z,Z,Z,Y⟩ Z ⟨.dead,.dead,.vec,Y⟩ Z)
   ·refine AWP.skip (d6 ?_)
    obtain rfl:=oi hx5
    refine b5 ((Sub.move (env':=[(0,.c (.imm (.val (.int .u32 w)))),(3,.c (.own 2 0 c2.length)),(5,.c (int t3))]) (σ':=[.dead,.dead,.one (vec 1 intI c2)]) 2 0 Z Z Z ⟨Z,Z,Z,Y⟩ Z ⟨trivial,trivial,⟨Blk.im_ok _ _ _,i6 Z⟩,Y⟩).trans (Sub.env ⟨Z,Z,Z,Y⟩))
  ·refine AWP.z (.add Z Z Z (by omega) (.j Z Z (.nil ?_)))
   obtain rfl:=oi h
   refine b5 ((Sub.move (env':=[(0,.c (.imm (.val (.int .u32 w)))),(3,.c (.own 0 0 c4.length)),(5,.c (int (t3+1)))]) (σ':=[.one (vec 1 intI c4),.dead]) 0 2 Z Z Z ⟨Z,Z,Z,Y⟩ Z ⟨⟨Blk.im_ok _ _ _,i6 Z⟩,trivial,Y⟩).trans (Sub.cut ⟨Z,Z,Z,Y⟩ Z ⟨.vec,Y⟩ Z))
 ·intro e s hq
  obtain⟨rfl,hs⟩:=hq
  refine⟨_,hs,?_⟩
  refine g8 (b5 (.q (.z (.j Z Z (.u Z Z (.nil (b5 (.ret ?_))))))))
  obtain rfl:=oi h
  exact Done.ret Z (Fresh.mk Z Z)
theorem ay0{av:Int}{bv:Int}{r:Int}(h:L3 av bv=some r):e8 prog 62 [.c (.imm (.val (.int .u32 av))),.c (.imm (.val (.int .u32 bv)))] (.c (int r)):=by
 unfold e8
 refine FnOk.enter (rs:=[.t 4]) func62 Z ntmps62 results62 Z ⟨trivial,Y⟩ (by kernel_rfl) Z ?_
 unfold L3 at h
 refine AWP.q (.z (.u Z Z (.nil (b5 (.q ?_)))))
 obtain⟨a6,ha6,a8,ha8,a9,ha9,h⟩:=b3 h
 refine AWP.z (.j Z Z (S.fresh Z Z Z Z (at6 ha6) Z Z (.j Z Z (S.fresh Z Z Z Z (at6 ha8) Z Z (.callL Z Z (.cons (.c (.own Z Z)) (.cons (.c (.own Z Z)) .nil)) Z (x5 ha9) Z (.u Z Z (.nil (b5 (.ret ?_)))))))))
 obtain rfl:=oi h
 exact Done.ret Z Z
theorem space_Of_w_ok{t:m6}{r:Int×Int×(List j8)}(h:ai1 t=some r):FnOk prog 59 [.agg (tT t)] (aw0 t) (fun tt ss=>tt=.c (.ptr 1 0 0)∧ss=[.dead,.one (.cells 3 [[.imm (.val (.int .u32 r.1)),.imm (.val (.int .u32 r.2.1)),.own 2 0 r.2.2.length]]),.one (vec 4 d7 r.2.2)]):=by
 refine FnOk.enter (rs:=[.t 2]) func59 Z ntmps59 results59 Z ⟨trivial,Y⟩ (by kernel_rfl) Z ?_
 refine AWP.weak ?_
 unfold ai1 at h
 refine AWP.q (.z (W.box Z Z Z Z Z Z (.u Z Z (.nil (b5 (.q ?_))))))
 obtain⟨a8,ha8,a11,ha11,h⟩:=b2 h
 refine AWP.drawEI [7] mixed Z Z Z ?_
 refine e6.consN Z Z (fun E=>W.fieldAddr Z Z Z Z .N) Z (.consN Z Z (fun E=>AOps.F Z Z Z Z Z Z .N) Z (.consN Z Z (fun E=>AOps.U Z Z Z Z (D1 ha8) Z .N) Z (.consN Z Z (fun E=>W.fieldAddr Z Z Z Z .N) Z (.consN Z Z (fun E=>AOps.F Z Z Z Z Z Z .N) Z (.consN Z Z (fun E=>AOps.U Z Z Z Z (D1 ha11) Z .N) Z (.consN Z Z (fun E=>W.build Z Z Z Z .N) Z ?_))))))
 apply e6.consE;exact Z;exact Z;intro E
 refine W.box Z Z Z Z Z Z .N
 exact Z
 exact Z
 refine e6.consN Z Z (fun E=>AOps.u Z Z .N) Z ?_
 refine e6.done Z ?_ ?_
 ·refine d5.cons Z Z (b7.go Z Z (fun E=>W.fieldAddr Z Z Z Z .N) (b7.skip Z (b7.nil))) (d5.cons Z Z (b7.go Z Z (fun E=>AOps.F Z Z Z Z Z Z .N) (b7.skip Z (b7.nil))) (d5.cons Z Z (b7.go Z Z (fun E=>AOps.U Z Z Z Z (D1 ha8) Z .N) (b7.skip Z (b7.nil))) (d5.cons Z Z (b7.go Z Z (fun E=>W.fieldAddr Z Z Z Z .N) (b7.skip Z (b7.nil))) (d5.cons Z Z (b7.go Z Z (fun E=>AOps.F Z Z Z Z Z Z .N) (b7.skip Z (b7.nil))) (d5.cons Z Z (b7.go Z Z (fun E=>AOps.U Z Z Z Z (D1 ha11) Z .N) (b7.skip Z (b7.nil))) (d5.cons Z Z (b7.go Z Z (fun E=>W.build Z Z Z Z .N) (b7.skip Z (b7.nil))) ?_))))))
  refine d5.skip Z ?_
  refine d5.cons Z Z ?_ ?_
  refine b7.skip Z ?_
  refine b7.go Z Z (fun E=>AOps.u Z Z .N) ?_
  exact b7.nil
  exact d5.nil
 dsimp only[l7]
 refine b5 (.q (.q (.z (W.fieldAddr Z Z Z Z (.F Z Z Z Z Z Z (S.len Z Z (fun hl16=>.j Z Z (.nil (b5 (.O (.virtB 4 d7 (b:=1) (o:=2) Z Z Z Z Z Z ?_)))))))))))
 obtain⟨c55,ho1,h⟩:=bind_some h
 refine AWP.forS ho1 (fun t56 c55=>⟨[(3,.c (.ptr 1 0 0)),(15,.c (row 4 u4 t.operators)),(16,.c (int (t.operators.length:Int))),(17,.c (int t56))],[.dead,.one (.cells 3 [(wW a8 a11 2 c55.length)]),.one (vec 4 d7 c55)]⟩) (fun c55 e st=>e=.exit 0∧Sub (aw0 t) st ⟨[(3,.c (.ptr 1 0 0))],[.dead,.one (.cells 3 [(wW a8 a11 2 c55.length)]),.one (vec 4 d7 c55)]⟩) ?_ ?_ ?_ ?_
 ·try dsimp only
  exact Sub.cut ⟨Z,Z,Z,Z,Y⟩ Z ⟨.dead,(.eq Z (by first|rfl|(simp only[lS];done))),.vec,Y⟩ Z
 ·intro t56 c55 hlot56 hltt56 _
  try dsimp only
  refine AWP.q (.z (.J Z Z Z (.nil (b5 (.q (.ae Z hltt56 (.exit (d8 (d8 ⟨Z,?_⟩)))))))))
  exact Sub.env ⟨Z,Y⟩
 ·intro t56 c55 o hlot56 hltt56 h
  unfold ad7 at h
  try dsimp only at h ⊢
  refine AWP.q (.z (.J Z Z Z (.nil (b5 (.q (.af Z hltt56 (.skip (b5 (.q (.O (.q ?_)))))))))))
  obtain⟨a19,ha19,h⟩:=bind_some h
  refine AWP.z (S.idx ha19 Z Z Z Z (W.loadIAgg Z Z Z Z Z (W.alloc Z Z Z Z (W.storeAgg Z Z Z Z Z Z Z (.nil (b5 ?_))))))
  obtain⟨a28,ha28,a31,ha31,a34,ha34,h⟩:=b3 h
  obtain⟨a39,ha39,h⟩:=bind_some h
  refine AWP.drawEI [17,18,21] mixed Z Z Z ?_
  refine e6.consN Z Z (fun E=>AOps.j Z Z .N) Z (.consN Z Z (fun E=>AOps.j Z Z .N) Z (.consN Z Z (fun E=>AOps.ai Z Z Z .N) Z (.consN Z Z (fun E=>W.fieldAddr Z Z Z Z .N) Z (.consN Z Z (fun E=>AOps.F Z Z Z Z Z Z .N) Z (.consN Z Z (fun E=>W.fieldAddr Z Z Z Z .N) Z (.consN Z Z (fun E=>AOps.F Z Z Z Z Z Z .N) Z (.consN Z Z (fun E=>AOps.U Z Z Z Z (D1 ha28) Z .N) Z (.consN Z Z (fun E=>W.fieldAddr Z Z Z Z .N) Z (.consN Z Z (fun E=>AOps.F Z Z Z Z Z Z .N) Z (.consN Z Z (fun E=>AOps.U Z Z Z Z (D1 ha31) Z .N) Z (.consN Z Z (fun E=>W.fieldAddr Z Z Z Z .N) Z (.consN Z Z (fun E=>AOps.F Z Z Z Z Z Z .N) Z (.consN Z Z (fun E=>AOps.U Z Z Z Z (D1 ha34) Z .N) Z (.consN Z Z (fun E=>W.fieldAddr Z Z Z Z .N) Z (.consN Z Z (fun E=>AOps.F Z Z Z Z Z Z .N) Z (.consN Z Z (fun E=>W.build Z Z Z Z .N) Z ?_))))))))))))))))
  apply e6.consE;exact Z;exact Z;intro E
  refine S.lit (f:=d7) (l:=[(⟨a28,a31,a34,a19.cost⟩:j8)]) (ess:=[[.imm (.val (.int .u32 a28)),.imm (.val (.int .u32 a31)),.imm (.val (.int .u32 a34)),int a19.cost]]) Z Z Z Z Z Z Z ⟨⟨.inl Z,.inl Z,.inl Z,.inl Z,Y⟩,Y⟩ Z Z Z .N
  exact Z
  exact Z
  apply e6.consE;exact Z;exact Z;intro E
  refine S.append (f:=d7) ha39 Z Z Z Z Z Z (.own Z Z) Z Z Z Z .N
  exact Z
  exact Z
  refine e6.consN Z Z (fun E=>AOps.ai Z Z Z .N) Z (.consN Z Z (fun E=>W.fieldAddr Z Z Z Z .N) Z ?_)
  apply e6.consE (v:=.undef);exact Z;exact Z;intro E
  refine W.store Z Z Z Z Z .N
  exact Z
  exact Z
  refine e6.done Z ?_ ?_
  ·refine d5.cons Z Z (b7.go Z Z (fun E=>AOps.j Z Z .N) (b7.go Z Z (fun E=>AOps.j Z Z .N) (b7.go Z Z (fun E=>AOps.j Z Z .N) (b7.skip Z (b7.nil))))) (d5.cons Z Z (b7.go Z Z (fun E=>AOps.j Z Z .N) (b7.go Z Z (fun E=>AOps.j Z Z .N) (b7.skip Z (b7.skip Z (b7.nil))))) (d5.cons Z Z (b7.go Z Z (fun E=>AOps.ai Z Z Z .N) (b7.go Z Z (fun E=>AOps.ai Z Z Z .N) (b7.skip Z (b7.skip Z (b7.nil))))) (d5.cons Z Z (b7.go Z Z (fun E=>W.fieldAddr Z Z Z Z .N) (b7.go Z Z (fun E=>W.fieldAddr Z Z Z Z .N) (b7.skip Z (b7.skip Z (b7.nil))))) (d5.cons Z Z (b7.go Z Z (fun E=>AOps.F Z Z Z Z Z Z .N) (b7.go Z Z (fun E=>AOps.F Z Z Z Z Z Z .N) (b7.skip Z (b7.skip Z (b7.nil))))) (d5.cons Z Z (b7.go Z Z (fun E=>W.fieldAddr Z Z Z Z .N) (b7.skip Z (b7.skip Z (b7.skip Z (b7.nil))))) (d5.cons Z Z (b7.go Z Z (fun E=>AOps.F Z Z Z Z Z Z .N) (b7.skip Z (b7.skip Z (b7.skip Z (b7.nil))))) (d5.cons Z Z (b7.go Z Z (fun E=>AOps.U Z Z Z Z (D1 ha28) Z .N) (b7.skip Z (b7.skip Z (b7.skip Z (b7.nil))))) (d5.cons Z Z (b7.go Z Z (fun E=>W.fieldAddr Z Z Z Z .N) (b7.skip Z (b7.skip Z (b7.skip Z (b7.nil))))) (d5.cons Z Z (b7.go Z Z (fun E=>AOps.F Z Z Z Z Z Z .N) (b7.skip Z (b7.skip Z (b7.skip Z (b7.nil))))) (d5.cons Z Z (b7.go Z Z (fun E=>AOps.U Z Z Z Z (D1 ha31) Z .N) (b7.skip Z (b7.skip Z (b7.skip Z (b7.nil))))) (d5.cons Z Z (b7.go Z Z (fun E=>W.fieldAddr Z Z Z Z .N) (b7.skip Z (b7.skip Z (b7.skip Z (b7.nil))))) ?_)))))))))))
   refine d5.cons Z Z (b7.go Z Z (fun E=>AOps.F Z Z Z Z Z Z .N) (b7.skip Z (b7.skip Z (b7.skip Z (b7.nil))))) (d5.cons Z Z (b7.go Z Z (fun E=>AOps.U Z Z Z Z (D1 ha34) Z .N) (b7.skip Z (b7.skip Z (b7.skip Z (b7.nil))))) (d5.cons Z Z (b7.go Z Z (fun E=>W.fieldAddr Z Z Z Z .N) (b7.skip Z (b7.skip Z (b7.skip Z (b7.nil))))) (d5.cons Z Z (b7.go Z Z (fun E=>AOps.F Z Z Z Z Z Z .N) (b7.skip Z (b7.skip Z (b7.skip Z (b7.nil))))) (d5.cons Z Z (b7.go Z Z (fun E=>W.build Z Z Z Z .N) (b7.skip Z (b7.skip Z (b7.skip Z (b7.nil))))) ?_))))
   refine d5.skip Z (d5.skip Z ?_)
   refine d5.cons Z Z ?_ ?_
   refine b7.skip Z (b7.skip Z ?_)
   refine b7.go Z Z (fun E=>AOps.ai Z Z Z .N) ?_
   refine b7.skip Z (b7.nil)
   refine d5.cons Z Z ?_ ?_
   refine b7.skip Z (b7.skip Z ?_)
   refine b7.go Z Z (fun E=>W.fieldAddr Z Z Z Z .N) ?_
   refine b7.skip Z (b7.nil)
   refine d5.skip Z (d5.nil)
  dsimp only[l7]
  refine d6 (b5 (.j (env':=[(3,.c (.ptr 1 0 0)),(15,.c (row 4 u4 t.operators)),(16,.c (int (t.operators.length:Int))),(17,.c (int t56))]) (σ':=[.dead,.one (.cells 3 [(wW a8 a11 2 a39.length)]),.one (vec 4 d7 a39),.one (.cells 4 [[row 1 intI a19.pre,row 1 intI a19.add,row 1 intI a19.del,int a19.cost]]),.one (vec 4 d7 [(⟨a28,a31,a34,a19.cost⟩:j8)])]) 2 5 Z Z Z ⟨Z,Z,Z,Z,Y⟩ Z ⟨trivial,⟨Z,Z⟩,⟨Blk.im_ok _ _ _,i6 Z⟩,⟨Z,Z⟩,⟨Blk.im_ok _ _ _,i6 Z⟩,Y⟩ (.z (.add Z Z Z (by omega) (.j Z Z (.nil ?_))))))
  obtain rfl:=oi h
  refine b5 (Sub.cut ⟨Z,Z,Z,Z,Y⟩ Z ⟨.dead,.one Z,.vec,Y⟩ Z)
 ·intro e s hq
  obtain⟨rfl,hs⟩:=hq
  refine⟨_,hs,?_⟩
  refine g8 (b5 (.q (.z (.j Z Z (.u Z Z (.nil (b5 (.ret ?_))))))))
  obtain rfl:=oi h
  exact⟨⟨[(2,.c (.ptr 1 0 0))],[.dead,.one (.cells 3 [(wW a8 a11 2 c55.length)]),.one (vec 4 d7 c55)]⟩,Sub.env ⟨Z,Y⟩,Done.ret Z ⟨Z,Z⟩⟩
theorem T7{start:Int}{goal:Int}{l:List j8}{r:Unit}(h:B9 start goal l=some r):FnOk prog 30 [.c (.ptr 0 0 0)] (as9 start goal l) (fun tt ss=>tt=.c (.imm (.val (.int .u32 start)))∧ss=[.one (.cells 3 [(wW start goal 1 l.length)]),.one (vec 4 d7 l)]):=by
 refine FnOk.enter (rs:=[.t 2]) func30 Z ntmps30 results30 Z ⟨trivial,Y⟩ (by kernel_rfl) Z ?_
 refine AWP.weak ?_
 unfold B9 at h
 refine AWP.q (.z (.u Z Z (.nil (b5 (.q (.z (.j Z Z (.ai Z Z Z (W.fieldAddr Z Z Z Z (.F Z Z Z Z Z Z (.u Z Z (.nil (b5 (.ret ?_))))))))))))))
 obtain rfl:=oi h
 exact⟨⟨[(2,.c (.imm (.val (.int .u32 start))))],[.one (.cells 3 [(wW start goal 1 l.length)]),.one (vec 4 d7 l)]⟩,Sub.env ⟨Z,Y⟩,Done.ret Z ⟨Z,Z⟩⟩
theorem ac8{sv:Int}{start:Int}{goal:Int}{l:List j8}{r:Unit}(h:F2 sv start goal l=some r):FnOk prog 67 [.c (.ptr 0 0 0),.c (.imm (.val (.int .u32 sv)))] (as6 sv start goal l) (fun tt ss=>tt=.c (.fn 106 [.ptr 2 0 0,.ptr 3 0 0])∧ss=[.one (.cells 3 [(wW start goal 1 l.length)]),.one (vec 4 d7 l),.one (.cells 1 [[.ptr 0 0 0]]),.one (.cells 1 [[.imm (.val (.int .u32 sv))]])]):=by
 refine FnOk.enter (rs:=[.t 4]) func67 Z ntmps67 results67 Z ⟨trivial,Y⟩ (by kernel_rfl) Z ?_
 refine AWP.weak ?_
 unfold F2 at h
 refine AWP.q (.z (W.box Z Z Z Z Z Z (W.box Z Z Z Z Z Z (.u Z Z (.nil (b5 (.q (.z (.makeFunc Z Z (.u Z Z (.nil (b5 (.ret ?_)))))))))))))
 obtain rfl:=oi h
 exact⟨⟨[(4,.c (.fn 106 [.ptr 2 0 0,.ptr 3 0 0]))],[.one (.cells 3 [(wW start goal 1 l.length)]),.one (vec 4 d7 l),.one (.cells 1 [[.ptr 0 0 0]]),.one (.cells 1 [[.imm (.val (.int .u32 sv))]])]⟩,Sub.env ⟨Z,Y⟩,Done.ret Z ⟨Z,Z⟩⟩
theorem at3{start:Int}{goal:Int}{l:List j8}{r:Li×Bool}(h:K5 start goal l=some r):FnOk prog 60 [.c (.ifc 75 [.ptr 0 0 0] false)] (U5 start goal l) (fun tt ss=>tt=.tup [.c (.own 12 0 r.1.length),.c (bool r.2)]∧ss=[.one (.cells 3 [(wW start goal 1 l.length)]),.one (vec 4 d7 l),.dead,.dead,.dead,.dead,.dead,.dead,.dead,.dead,.dead,.dead,.one (vec 1 eU32 r.1)]):=by
 refine FnOk.enter (rs:=[.t 2,.t 3]) func60 Z ntmps60 results60 Z ⟨trivial,trivial,Y⟩ (by kernel_rfl) Z ?_
 refine AWP.weak ?_
 unfold K5 at h
 refine AWP.q (.z (.u Z Z (.u Z Z (.nil (b5 (.q ?_))))))
 obtain⟨a12,ha12,h⟩:=bind_some h
 refine AWP.z (.j Z Z (S.invokeP (r2:=.c (.imm (.val (.int .u32 start)))) (σ'':=[.one (.cells 3 [(wW start goal 1 l.length)]),.one (vec 4 d7 l)]) Z Z Z (FnOk.lend [0,1] (T7 ha12) Z Z Z Z Z Z (by exact⟨(.one Z),.vec,Y⟩) Z (by exact⟨(.live Z (.one Z)),(.live Z .vec),Y⟩) Z Z (by exact⟨(.new 0 Z Z (.one Z)),(.new 1 Z Z .vec),Y⟩)) (S.lit (f:=eU32) (l:=[start]) (ess:=[[.imm (.val (.int .u32 start))]]) Z Z Z Z Z Z Z ⟨⟨.inl Z,Y⟩,Y⟩ Z Z Z (W.alloc Z Z Z Z (W.store Z Z Z Z Z (.nil (b5 (.q ?_))))))))
 obtain⟨a16,ha16,h⟩:=bind_some h
 refine AWP.z (W.makeMap vU noV Z Z Z (.j Z Z (S.invokeP (r2:=.c (.imm (.val (.int .u32 start)))) (σ'':=[.one (.cells 3 [(wW start goal 1 l.length)]),.one (vec 4 d7 l),.one (vec 1 eU32 [start]),.one (.cells 1 [[.own 2 0 ([start].length)]]),.one (mapB vU noV ([]:List (Int×Unit)))]) Z Z Z (FnOk.lend [0,1] (T7 ha16) Z Z Z Z Z Z (by exact⟨(.one Z),.vec,Y⟩) Z (by exact⟨(.live Z (.one Z)),(.live Z .vec),Y⟩) Z Z (by exact⟨(.new 0 Z Z (.one Z)),(.new 1 Z Z .vec),(.old Z Z Z),(.old Z Z Z),(.old Z Z Z),Y⟩)) (S.build0 Z Z Z (W.insertU (fk:=vU) (k:=start) I9 Z Z Z Z Z (.j Z Z (W.alloc Z Z Z Z (W.store Z Z Z Z Z (.nil (b5 (.q (.z (.u Z Z (.nil (b5 (.q (.O (.virtV 1 eU32 6 Z Z Z ?_))))))))))))))))))
 obtain⟨oo,ho1,h⟩:=bind_some h
 refine AWP.loopS ho1 (fun(c56,c57,c58)=>⟨[(0,.c (.ifc 75 [.ptr 0 0 0] false)),(4,.c (.ptr 3 0 0)),(5,.c (.ptr 5 0 0)),(6,.c (.own 6 0 c58.length))],[.one (.cells 3 [(wW start goal 1 l.length)]),.one (vec 4 d7 l),.one (vec 1 eU32 c56),.one (.cells 1 [[.own 2 0 c56.length]]),.one (mapB vU noV c57),.one (.cells 1 [[.map 4]]),.one (vec 1 eU32 c58)]⟩) (fun o e st=>match o with| .inl c59=>e=.exit 0∧Sub (U5 start goal l) st ⟨[(6,.c (.own 6 0 c59.length))],[.one (.cells 3 [(wW start goal 1 l.length)]),.one (vec 4 d7 l),.dead,.dead,.dead,.dead,.one (vec 1 eU32 c59)]⟩| .inr x=>e=.ret∧∃J,Sub (U5 start goal l) st J∧Done [.t 2,.t 3] (fun tt ss=>tt=.tup [.c (.own 12 0 x.1.length),.c (bool x.2)]∧ss=[.one (.cells 3 [(wW start goal 1 l.length)]),.one (vec 4 d7 l),.dead,.dead,.dead,.dead,.dead,.dead,.dead,.dead,.dead,.dead,.one (vec 1 eU32 x.1)]) .ret J) ?_ ?_ ?_
 ·try dsimp only
  exact Sub.env ⟨Z,Z,Z,(J3 (by first|rfl|simp only[lS])),Y⟩
 ·intro s o h
  obtain⟨c56,c57,c58⟩:=s
  unfold L8 at h
  try dsimp only at h ⊢
  refine AWP.q (.q (.z (.F Z Z Z Z Z Z (S.lenO Z Z Z (fun hl20=>.gtr Z Z Z (.nil (b5 (.ite Z h (fun hc60 h=> ?_) (fun hc60 h=> ?_)))))))))
  ·refine AWP.skip (b5 (.O (.q ?_)))
   obtain⟨a26,ha26,h⟩:=bind_some h
   refine AWP.z (.F Z Z Z Z Z Z (.F Z Z Z Z Z Z (S.lenO Z Z Z (fun hl24=>.sub' Z Z Z (by omega) (S.idxO ha26 Z Z Z Z Z (S.loadO ha26 Z Z Z Z Z (.u Z Z (.nil (b5 (.q ?_))))))))))
   obtain⟨u32,hu32,h⟩:=bind_some h
   refine AWP.z (.F Z Z Z Z Z Z (.F Z Z Z Z Z Z (S.lenO Z Z Z (fun hl30=>.sub' Z Z Z (by omega) (S.vTo (X2 c56) hu32 Z Z Z Z Z Z (.sub (Sub.reown (env':=[(0,.c (.ifc 75 [.ptr 0 0 0] false)),(4,.c (.ptr 3 0 0)),(5,.c (.ptr 5 0 0)),(6,.c (.own 6 0 c58.length)),(7,.c (.imm (.val (.int .u32 a26)))),(20,.c (int (c56.length:Int))),(21,.c (bool (decide (0<(c56.length:Int))))),(24,.c (int (c56.length:Int))),(25,.c (int ((c56.length:Int) - 1))),(27,.c (.imm (.val (.int .u32 a26)))),(30,.c (int (c56.length:Int))),(31,.c (int ((c56.length:Int) - 1))),(32,.c (.own 7 0 ((r9 c56 0 ((c56.length:Int) - 1)).length)))]) 32 (vw_to (X2 c56) hu32) Z Z Z Z Z Z Z Z (by exact⟨.inr Z,.inr Z,.inr Z,.inr Z,.inr Z,.inr Z,.inr Z,.inr Z,.inr Z,.inr Z,.inr Z,.inr Z,.inl ⟨Z,Z⟩,Y⟩)) (W.store Z Z Z Z Z (.nil (b5 (.q (.j (env':=[(0,.c (.ifc 75 [.ptr 0 0 0] false)),(4,.c (.ptr 3 0 0)),(5,.c (.ptr 5 0 0)),(6,.c (.own 6 0 c58.length)),(7,.c (.imm (.val (.int .u32 a26))))]) (σ':=[.one (.cells 3 [(wW start goal 1 l.length)]),.one (vec 4 d7 l),.one (vec 1 eU32 (r9 c56 0 ((c56.length:Int) - 1))),.one (.cells 1 [[.own 2 0 ((r9 c56 0 ((c56.length:Int) - 1)).length)]]),.one (mapB vU noV c57),.one (.cells 1 [[.map 4]]),.one (vec 1 eU32 c58)]) 2 7 Z Z Z ⟨Z,Z,Z,Z,Z,Y⟩ Z ⟨⟨Z,Z⟩,⟨Blk.im_ok _ _ _,i6 Z⟩,⟨Blk.im_ok _ _ _,i6 Z⟩,⟨Z,Z⟩,⟨Z,Z⟩,⟨Z,Z⟩,⟨Blk.im_ok _ _ _,i6 Z⟩,Y⟩ ?_)))))))))))
   obtain⟨a36,ha36,h⟩:=bind_some h
   refine AWP.z (.j Z Z (.j Z Z (S.lit (f:=eU32) (l:=[a26]) (ess:=[[.imm (.val (.int .u32 a26))]]) Z Z Z Z Z Z Z ⟨⟨.inl Z,Y⟩,Y⟩ Z Z Z (S.append (f:=eU32) ha36 Z Z Z Z Z Z (.own Z Z) Z Z Z Z (.u Z Z (.nil (b5 (.q (.q (.j (env':=[(0,.c (.ifc 75 [.ptr 0 0 0] false)),(4,.c (.ptr 3 0 0)),(5,.c (.ptr 5 0 0)),(6,.c (.own 6 0 a36.length)),(7,.c (.imm (.val (.int .u32 a26))))]) (σ':=[.one (.cells 3 [(wW start goal 1 l.length)]),.one (vec 4 d7 l),.one (vec 1 eU32 (r9 c56 0 ((c56.length:Int) - 1))),.one (.cells 1 [[.own 2 0 ((r9 c56 0 ((c56.length:Int) - 1)).length)]]),.one (mapB vU noV c57),.one (.cells 1 [[.map 4]]),.one (vec 1 eU32 a36),.one (vec 1 eU32 [a26])]) 6 8 Z Z Z ⟨Z,Z,Z,Z,Z,Y⟩ Z ⟨⟨Z,Z⟩,⟨Blk.im_ok _ _ _,i6 Z⟩,⟨Blk.im_ok _ _ _,i6 Z⟩,⟨Z,Z⟩,⟨Z,Z⟩,⟨Z,Z⟩,⟨Blk.im_ok _ _ _,i6 Z⟩,⟨Blk.im_ok _ _ _,i6 Z⟩,Y⟩ ?_))))))))))
   obtain⟨a39,ha39,h⟩:=bind_some h
   refine AWP.z (.j Z Z (.j Z Z (S.invokeP (r2:=.c (.fn 106 [.ptr 8 0 0,.ptr 9 0 0])) (σ'':=[.one (.cells 3 [(wW start goal 1 l.length)]),.one (vec 4 d7 l),.one (vec 1 eU32 (r9 c56 0 ((c56.length:Int) - 1))),.one (.cells 1 [[.own 2 0 ((r9 c56 0 ((c56.length:Int) - 1)).length)]]),.one (mapB vU noV c57),.one (.cells 1 [[.map 4]]),.one (vec 1 eU32 a36),.one (vec 1 eU32 [a26]),.one (.cells 1 [[.ptr 0 0 0]]),.one (.cells 1 [[.imm (.val (.int .u32 a26))]])]) Z Z Z (FnOk.lend [0,1] (ac8 ha39) Z Z Z Z Z Z (by exact⟨(.one Z),.vec,Y⟩) Z (by exact⟨(.live Z (.one Z)),(.live Z .vec),Y⟩) Z Z (by exact⟨(.new 0 Z Z (.one Z)),(.new 1 Z Z .vec),(.old Z Z Z),(.old Z Z Z),(.old Z Z Z),(.old Z Z Z),(.old Z Z Z),(.old Z Z Z),(.new 2 Z Z (.one Z)),(.new 3 Z Z (.one Z)),Y⟩)) (.nil (b5 (.O ?_))))))
   obtain⟨xr61,hr61,h⟩:=bind_some h
   refine AWP.rangeB [(4,none),(5,none)] Z Z Z (fun as61 bo61 hA61 hB61=>⟨[.one (.cells 3 [(wW start goal 1 l.length)]),.one (vec 4 d7 l),.one (vec 1 eU32 (r9 c56 0 ((c56.length:Int) - 1))),.one (.cells 1 [[.own 2 0 ((r9 c56 0 ((c56.length:Int) - 1)).length)]]),.one (mapB vU noV c57),.one (.cells 1 [[.map 4]]),.one (vec 1 eU32 a36),.one (vec 1 eU32 [a26]),.one (.cells 1 [[.ptr 0 0 0]]),.one (.cells 1 [[.imm (.val (.int .u32 a26))]]),.one (y4 63 [40] as61 bo61 .ready none [(4,none),(5,none)] [.ptr 3 0 0,.ptr 5 0 0])],fun tt ss=>tt=.tup []∧ss=[.one (.cells 3 [(wW start goal 1 l.length)]),.one (vec 4 d7 l),.dead,.one (.cells 1 [[.own 11 0 xr61.2.length]]),.one (mapB vU noV xr61.1),.one (.cells 1 [[.map 4]]),.one (vec 1 eU32 a36),.one (vec 1 eU32 [a26]),.one (.cells 1 [[.ptr 0 0 0]]),.one (.cells 1 [[.imm (.val (.int .u32 a26))]]),.one (y4 63 [40] as61 bo61 .ready none [(4,none),(5,none)] [.ptr 3 0 0,.ptr 5 0 0]),.one (vec 1 eU32 xr61.2)],Z,?_,?_⟩)
   ·refine FnOk.enter (rs:=[]) func106 Z ntmps106 results106 Z trivial (by kernel_rfl) Z ?_
    refine AWP.weak ?_
    unfold M0 at hr61
    try dsimp only at hr61
    refine AWP.j (env':=[(0,.c (.yld 10)),(1,.c (.ptr 8 0 0)),(2,.c (.ptr 9 0 0))]) (σ':=[.one (.cells 3 [(wW start goal 1 l.length)]),.one (vec 4 d7 l),.dead,.one (.cells 1 [[.own 11 0 ((r9 c56 0 ((c56.length:Int) - 1)).length)]]),.one (mapB vU noV c57),.one (.cells 1 [[.map 4]]),.one (vec 1 eU32 a36),.one (vec 1 eU32 [a26]),.one (.cells 1 [[.ptr 0 0 0]]),.one (.cells 1 [[.imm (.val (.int .u32 a26))]]),.one (y4 63 [40] as61 bo61 .ready none [(4,none),(5,none)] [.ptr 3 0 0,.ptr 5 0 0]),.one (vec 1 eU32 (r9 c56 0 ((c56.length:Int) - 1)))]) 11 2 Z Z Z ⟨Z,Z,Z,Y⟩ Z ⟨⟨Z,Z⟩,⟨Blk.im_ok _ _ _,i6 Z⟩,trivial,⟨Z,Z⟩,⟨Z,Z⟩,⟨Z,Z⟩,⟨Blk.im_ok _ _ _,i6 Z⟩,⟨Blk.im_ok _ _ _,i6 Z⟩,⟨Z,Z⟩,⟨Z,Z⟩,⟨Z,Z⟩,⟨Blk.im_ok _ _ _,i6 Z⟩,Y⟩ (.q (.z (.F Z Z Z Z Z Z (.ai Z Z Z (W.fieldAddr Z Z Z Z (.F Z Z Z Z Z Z (S.lenO Z Z Z (fun hl10=>.j Z Z (.nil (b5 (.O ?_)))))))))))
    obtain⟨⟨c64,c65⟩,ho2,hr61⟩:=bind_some hr61
    try dsimp only at hr61
    refine AWP.forS ho2 (fun t66 (c64,c65)=>⟨[(0,.c (.yld 10)),(2,.c (.ptr 9 0 0)),(9,.c (.own 1 0 l.length)),(10,.c (int (l.length:Int))),(11,.c (int t66))],[.one (.cells 3 [(wW start goal 1 l.length)]),.one (vec 4 d7 l),.dead,.one (.cells 1 [[.own 11 0 c65.length]]),.one (mapB vU noV c64),.one (.cells 1 [[.map 4]]),.one (vec 1 eU32 a36),.one (vec 1 eU32 [a26]),.one (.cells 1 [[.ptr 0 0 0]]),.one (.cells 1 [[.imm (.val (.int .u32 a26))]]),.one (y4 63 [40] as61 bo61 .ready none [(4,none),(5,none)] [.ptr 3 0 0,.ptr 5 0 0]),.one (vec 1 eU32 c65)]⟩) (fun(c64,c65) e st=>e=.exit 0∧Sub ([.one (.cells 3 [(wW start goal 1 l.length)]),.one (vec 4 d7 l),.one (vec 1 eU32 (r9 c56 0 ((c56.length:Int) - 1))),.one (.cells 1 [[.own 2 0 ((r9 c56 0 ((c56.length:Int) - 1)).length)]]),.one (mapB vU noV c57),.one (.cells 1 [[.map 4]]),.one (vec 1 eU32 a36),.one (vec 1 eU32 [a26]),.one (.cells 1 [[.ptr 0 0 0]]),.one (.cells 1 [[.imm (.val (.int .u32 a26))]]),.one (y4 63 [40] as61 bo61 .ready none [(4,none),(5,none)] [.ptr 3 0 0,.ptr 5 0 0])]:b6) st ⟨[],[.one (.cells 3 [(wW start goal 1 l.length)]),.one (vec 4 d7 l),.dead,.one (.cells 1 [[.own 11 0 c65.length]]),.one (mapB vU noV c64),.one (.cells 1 [[.map 4]]),.one (vec 1 eU32 a36),.one (vec 1 eU32 [a26]),.one (.cells 1 [[.ptr 0 0 0]]),.one (.cells 1 [[.imm (.val (.int .u32 a26))]]),.one (y4 63 [40] as61 bo61 .ready none [(4,none),(5,none)] [.ptr 3 0 0,.ptr 5 0 0]),.one (vec 1 eU32 c65)]⟩) ?_ ?_ ?_ ?_
    ·try dsimp only
     exact Sub.env ⟨Z,Z,Z,Z,Z,Y⟩
    ·intro t66 s hlot66 hltt66 _
     obtain⟨c64,c65⟩:=s
     try dsimp only
     refine AWP.q (.z (.J Z Z Z (.nil (b5 (.q (.ae Z hltt66 (.exit (d8 (d8 ⟨Z,?_⟩)))))))))
     exact Sub.env trivial
    ·intro t66 s o hlot66 hltt66 h
     obtain⟨c64,c65⟩:=s
     unfold L9 at h
     try dsimp only at h ⊢
     refine AWP.q (.z (.J Z Z Z (.nil (b5 (.q (.af Z hltt66 (.skip (b5 (.q (.O (.q ?_)))))))))))
     obtain⟨ai14,hai14,h⟩:=bind_some h
     refine AWP.z (.j Z Z (S.idxO hai14 Z Z Z Z Z (S.loadOAgg hai14 Z Z Z Z Z Z Z (W.alloc Z Z Z Z (.u Z Z (W.storeAgg Z Z Z Z Z Z Z (.nil (b5 (.q ?_)))))))))
     rcases bft (decide (Go.bits .and .u32 a26 ai14.pre=ai14.pre)) with hb67|hb67
     ·replace h:=J5 hb67 h
      refine AWP.z (.F Z Z Z Z Z Z (W.fieldAddr Z Z Z Z (.F Z Z Z Z Z Z (.bits Z Z Z (by simp) (W.fieldAddr Z Z Z Z (.F Z Z Z Z Z Z (.eql Z Z Z (.j Z Z (.B Z Z Z hb67 (.j Z Z (.B Z Z Z hb67 (.j Z Z (.B Z Z Z hb67 (W.fieldAddr Z Z Z Z (.B Z Z Z hb67 (.F Z Z Z Z Z Z (.B Z Z Z hb67 (.F Z Z Z Z Z Z (.B Z Z Z hb67 (W.fieldAddr Z Z Z Z (.B Z Z Z hb67 (.F Z Z Z Z Z Z (.B Z Z Z hb67 (.bits Z Z Z (by simp) (.B Z Z Z hb67 (W.fieldAddr Z Z Z Z (.B Z Z Z hb67 (.F Z Z Z Z Z Z (.B Z Z Z hb67 (.bits Z Z Z (by simp) (.B Z Z Z hb67 (W.build Z Z Z Z ?_))))))))))))))))))))))))))))))))
      refine AOps.B Z Z Z hb67 ?_;refine AOps.yieldB (E1:=[(8,.c (.ptr 13 0 0)),(40,.agg [int t66,int ai14.cost,.imm (.val (.int .u32 (Go.bits .or .u32 (Go.bits .andNot .u32 a26 ai14.del) ai14.add)))]),(4,.c (.ptr 3 0 0)),(5,.c (.ptr 5 0 0))]) (σ1:=[.one (.cells 3 [(wW start goal 1 l.length)]),.one (vec 4 d7 l),.dead,.one (.cells 1 [[.own 11 0 c65.length]]),.one (mapB vU noV c64),.one (.cells 1 [[.map 4]]),.one (vec 1 eU32 a36),.one (vec 1 eU32 [a26]),.one (.cells 1 [[.ptr 0 0 0]]),.one (.cells 1 [[.imm (.val (.int .u32 a26))]]),.one (y4 63 [40] as61 bo61 .ready none [(4,none),(5,none)] [.ptr 3 0 0,.ptr 5 0 0]),.one (vec 1 eU32 c65),.one (.cells 4 [[.imm (.val (.int .u32 ai14.pre)),.imm (.val (.int .u32 ai14.add)),.imm (.val (.int .u32 ai14.del)),int ai14.cost]]),.one (.cells 3 [[int t66,int ai14.cost,.imm (.val (.int .u32 (Go.bits .or .u32 (Go.bits .andNot .u32 a26 ai14.del) ai14.add)))]])]) hA61 hB61 Z Z Z Z Z Z Z Z Z Z ?_ ?_
      ·refine AWP.z (W.alloc Z Z Z Z (W.storeAgg Z Z Z Z Z Z Z (.nil ?_)))
       exact⟨Z,Z⟩
      refine AWP.sub (s':=⟨[(4,.c (.ptr 3 0 0)),(5,.c (.ptr 5 0 0)),(8,.c (.ptr 13 0 0))],[.one (.cells 3 [(wW start goal 1 l.length)]),.one (vec 4 d7 l),.dead,.one (.cells 1 [[.own 11 0 c65.length]]),.one (mapB vU noV c64),.one (.cells 1 [[.map 4]]),.one (vec 1 eU32 a36),.one (vec 1 eU32 [a26]),.one (.cells 1 [[.ptr 0 0 0]]),.one (.cells 1 [[.imm (.val (.int .u32 a26))]]),.one (y4 63 [40] as61 bo61 .busy none [(4,none),(5,none)] [.ptr 3 0 0,.ptr 5 0 0]),.one (vec 1 eU32 c65),.one (.cells 4 [[.imm (.val (.int .u32 ai14.pre)),.imm (.val (.int .u32 ai14.add)),.imm (.val (.int .u32 ai14.del)),int ai14.cost]]),.one (.cells 3 [[int t66,int ai14.cost,.imm (.val (.int .u32 (Go.bits .or .u32 (Go.bits .andNot .u32 a26 ai14.del) ai14.add)))]])]⟩) (Sub.env ⟨Z,Z,Z,Y⟩) (.O (.q (.z (.F Z Z Z Z Z Z (W.fieldAddr Z Z Z Z (.F Z Z Z Z Z Z (W.lookupOkU (fk:=vU) (k:=Go.bits .or .u32 (Go.bits .andNot .u32 a26 ai14.del) ai14.add) I9 Z Z Z Z Z (.j Z Z (.ac Z Z Z (.ac Z Z Z (W.alloc Z Z Z Z (S.store0 Z Z Z (.u Z Z (.nil (b5 (.q (.z (.j Z Z (.not Z Z (.nil (b5 (.ag Z h (fun hc68 h=> ?_) (fun hc68 h=> ?_)))))))))))))))))))))))
      ·refine AWP.q (.z (.F Z Z Z Z Z Z (W.fieldAddr Z Z Z Z (.F Z Z Z Z Z Z (S.build0 Z Z Z (W.mapUpdateU (fk:=vU) (k:=Go.bits .or .u32 (Go.bits .andNot .u32 a26 ai14.del) ai14.add) I9 Z Z Z Z Z (.nil (b5 ?_))))))))
       obtain⟨ab58,hab58,h⟩:=bind_some h
       refine AWP.z (.F Z Z Z Z Z Z (W.fieldAddr Z Z Z Z (.F Z Z Z Z Z Z (S.lit (f:=eU32) (l:=[Go.bits .or .u32 (Go.bits .andNot .u32 a26 ai14.del) ai14.add]) (ess:=[[.imm (.val (.int .u32 (Go.bits .or .u32 (Go.bits .andNot .u32 a26 ai14.del) ai14.add)))]]) Z Z Z Z Z Z Z ⟨⟨.inl Z,Y⟩,Y⟩ Z Z Z (S.append (f:=eU32) hab58 Z Z Z Z Z Z (.own Z Z) Z Z Z Z (W.store Z Z Z Z Z (.nil (d6 (ap1 Z Z (.B Z Z Z hb67 (.not Z Z (.aa Z hb67 Z Z (.nil (b5 (.j (env':=[(0,.c (.yld 10)),(2,.c (.ptr 9 0 0)),(9,.c (.own 1 0 l.length)),(10,.c (int (l.length:Int))),(11,.c (int t66)),(38,.c (bool false))]) (σ':=[.one (.cells 3 [(wW start goal 1 l.length)]),.one (vec 4 d7 l),.dead,.one (.cells 1 [[.own 11 0 ab58.length]]),.one (mapB vU noV (mset c64 (Go.bits .or .u32 (Go.bits .andNot .u32 a26 ai14.del) ai14.add) ())),.one (.cells 1 [[.map 4]]),.one (vec 1 eU32 a36),.one (vec 1 eU32 [a26]),.one (.cells 1 [[.ptr 0 0 0]]),.one (.cells 1 [[.imm (.val (.int .u32 a26))]]),.one (y4 63 [40] as61 bo61 .ready none [(4,none),(5,none)] [.ptr 3 0 0,.ptr 5 0 0]),.one (vec 1 eU32 ab58),.one (.cells 4 [[.imm (.val (.int .u32 ai14.pre)),.imm (.val (.int .u32 ai14.add)),.imm (.val (.int .u32 ai14.del)),int ai14.cost]]),.one (.cells 3 [[int t66,int ai14.cost,.imm (.val (.int .u32 (Go.bits .or .u32 (Go.bits .andNot .u32 a26 ai14.del) ai14.add)))]]),.one (.cells 0 [[]]),.one (vec 1 eU32 [Go.bits .or .u32 (Go.bits .andNot .u32 a26 ai14.del) ai14.add])]) 11 16 Z Z Z ⟨Z,Z,Z,Z,Z,Z,Y⟩ Z ⟨⟨Z,Z⟩,⟨Blk.im_ok _ _ _,i6 Z⟩,trivial,⟨Z,Z⟩,⟨Z,Z⟩,⟨Z,Z⟩,⟨Blk.im_ok _ _ _,i6 Z⟩,⟨Blk.im_ok _ _ _,i6 Z⟩,⟨Z,Z⟩,⟨Z,Z⟩,⟨Z,Z⟩,⟨Blk.im_ok _ _ _,i6 Z⟩,⟨Z,Z⟩,⟨Z,Z⟩,⟨Z,Z⟩,⟨Blk.im_ok _ _ _,i6 Z⟩,Y⟩ (.condF Z (.skip (d6 (b5 (.z (.add Z Z Z (by omega) (.j Z Z (.nil ?_)))))))))))))))))))))))
       obtain rfl:=oi h
       refine b5 (Sub.cut ⟨Z,Z,Z,Z,Z,Y⟩ Z ⟨.one Z,.vec,.dead,.one Z,.one Z,.one Z,.vec,.vec,.one Z,.one Z,.one Z,.vec,Y⟩ Z)
      ·refine AWP.skip (d6 (ap1 Z Z (.B Z Z Z hb67 (.not Z Z (.aa Z hb67 Z Z (.nil (b5 (.condF Z (.skip (d6 (b5 (.z (.add Z Z Z (by omega) (.j Z Z (.nil ?_)))))))))))))))
       obtain rfl:=oi h
       refine b5 (Sub.cut ⟨Z,Z,Z,Z,Z,Y⟩ Z ⟨.one Z,.vec,.dead,.one Z,.one Z,.one Z,.vec,.vec,.one Z,.one Z,.one Z,.vec,Y⟩ Z)
     ·replace h:=J9 hb67 h
      refine AWP.z (.F Z Z Z Z Z Z (W.fieldAddr Z Z Z Z (.F Z Z Z Z Z Z (.bits Z Z Z (by simp) (W.fieldAddr Z Z Z Z (.F Z Z Z Z Z Z (.eql Z Z Z (.j Z Z (.E Z Z Z hb67 (.E Z Z Z hb67 (.E Z Z Z hb67 (.E Z Z Z hb67 (.E Z Z Z hb67 (.E Z Z Z hb67 (.E Z Z Z hb67 (.E Z Z Z hb67 (.E Z Z Z hb67 (.E Z Z Z hb67 (.E Z Z Z hb67 (.E Z Z Z hb67 (.E Z Z Z hb67 (.E Z Z Z hb67 (.ab Z hb67 Z Z (.nil (b5 (.condF Z (.skip (d6 (b5 (.z (.add Z Z Z (by omega) (.j Z Z (.nil ?_)))))))))))))))))))))))))))))))))
      obtain rfl:=oi h
      refine b5 (Sub.cut ⟨Z,Z,Z,Z,Z,Y⟩ Z ⟨.one Z,.vec,.dead,.one Z,.one Z,.one Z,.vec,.vec,.one Z,.one Z,.one Z,.vec,Y⟩ Z)
    ·intro e s hq
     obtain⟨rfl,hs⟩:=hq
     refine⟨_,hs,?_⟩
     refine g8 ?_
     obtain rfl:=oi hr61
     exact⟨⟨[],[.one (.cells 3 [(wW start goal 1 l.length)]),.one (vec 4 d7 l),.dead,.one (.cells 1 [[.own 11 0 c65.length]]),.one (mapB vU noV c64),.one (.cells 1 [[.map 4]]),.one (vec 1 eU32 a36),.one (vec 1 eU32 [a26]),.one (.cells 1 [[.ptr 0 0 0]]),.one (.cells 1 [[.imm (.val (.int .u32 a26))]]),.one (y4 63 [40] as61 bo61 .ready none [(4,none),(5,none)] [.ptr 3 0 0,.ptr 5 0 0]),.one (vec 1 eU32 c65)]⟩,Sub.env trivial,Done.normal Z ⟨Z,Z⟩⟩
   ·rintro tt ss ⟨rfl,rfl⟩
    obtain⟨c62,c63⟩:=xr61
    try dsimp only at h ⊢
    refine ax4 Z Z (d6 (b5 (.q (.z (.F Z Z Z Z Z Z (S.lenMap (fk:=vU) (fv:=noV) Z Z Z (.gtr Z Z Z (.nil (b5 (.ite Z h (fun hc69 h=> ?_) (fun hc69 h=> ?_)))))))))))
    ·refine AWP.q (.z (.u Z Z (.u Z Z (.nil (b5 (.virtV 1 eU32 2 Z Z Z (.ret (i8 ?_))))))))
     obtain rfl:=oi h
     refine e7 ⟨_,Z,Z,?_⟩
     exact⟨⟨[(2,.c (.own 12 0 ([].length))),(3,.c (bool false))],[.one (.cells 3 [(wW start goal 1 l.length)]),.one (vec 4 d7 l),.dead,.dead,.dead,.dead,.dead,.dead,.dead,.dead,.dead,.dead,.one (vec 1 eU32 [])]⟩,Sub.cut ⟨(J3 (by first|rfl|simp only[lS])),Z,Y⟩ Z ⟨.one Z,.vec,.dead,.dead,.dead,.dead,.dead,.dead,.dead,.dead,.dead,.dead,.vec,Y⟩ Z,Done.ret Z ⟨Z,Z⟩⟩
    ·refine AWP.skip (d6 ?_)
     obtain rfl:=oi h
     refine b5 ⟨_,Z,?_⟩
     exact(Sub.move (env':=[(0,.c (.ifc 75 [.ptr 0 0 0] false)),(4,.c (.ptr 3 0 0)),(5,.c (.ptr 5 0 0)),(6,.c (.own 6 0 a36.length))]) (σ':=[.one (.cells 3 [(wW start goal 1 l.length)]),.one (vec 4 d7 l),.one (vec 1 eU32 c63),.one (.cells 1 [[.own 2 0 c63.length]]),.one (mapB vU noV c62),.one (.cells 1 [[.map 4]]),.one (vec 1 eU32 a36),.one (vec 1 eU32 [a26]),.one (.cells 1 [[.ptr 0 0 0]]),.one (.cells 1 [[.imm (.val (.int .u32 a26))]]),.dead]) 2 11 Z Z Z ⟨Z,Z,Z,Z,Y⟩ Z ⟨⟨Z,Z⟩,⟨Blk.im_ok _ _ _,i6 Z⟩,⟨Blk.im_ok _ _ _,i6 Z⟩,⟨Z,Z⟩,⟨Z,Z⟩,⟨Z,Z⟩,⟨Blk.im_ok _ _ _,i6 Z⟩,⟨Blk.im_ok _ _ _,i6 Z⟩,⟨Z,Z⟩,⟨Z,Z⟩,trivial,Y⟩).trans (Sub.cut ⟨Z,Z,Z,Z,Y⟩ Z ⟨.one Z,.vec,.vec,.one Z,.one Z,.one Z,.vec,Y⟩ Z)
  ·refine AWP.exit (d8 ?_)
   obtain rfl:=oi h
   refine d8 ⟨_,Z,Z,?_⟩
   exact Sub.cut ⟨Z,Y⟩ Z ⟨.one Z,.vec,.dead,.dead,.dead,.dead,.vec,Y⟩ Z
 ·intro e s hq
  rcases oo with c59|x
  ·try dsimp only at h hq
   obtain⟨rfl,hs⟩:=hq
   refine⟨_,hs,?_⟩
   refine g8 (b5 (.q (.z (.j Z Z (.u Z Z (.u Z Z (.nil (b5 (.ret ?_)))))))))
   obtain rfl:=oi h
   exact⟨⟨[(2,.c (.own 12 0 c59.length)),(3,.c (bool true))],[.one (.cells 3 [(wW start goal 1 l.length)]),.one (vec 4 d7 l),.dead,.dead,.dead,.dead,.dead,.dead,.dead,.dead,.dead,.dead,.one (vec 1 eU32 c59)]⟩,(Sub.move (env':=[(2,.c (.own 12 0 c59.length)),(3,.c (bool true))]) (σ':=[.one (.cells 3 [(wW start goal 1 l.length)]),.one (vec 4 d7 l),.dead,.dead,.dead,.dead,.dead,.dead,.dead,.dead,.dead,.dead,.one (vec 1 eU32 c59)]) 12 6 Z Z Z ⟨Z,Z,Y⟩ Z ⟨⟨Z,Z⟩,⟨Blk.im_ok _ _ _,i6 Z⟩,trivial,trivial,trivial,trivial,trivial,trivial,trivial,trivial,trivial,trivial,⟨Blk.im_ok _ _ _,i6 Z⟩,Y⟩).trans (Sub.env ⟨Z,Z,Y⟩),Done.ret Z ⟨Z,Z⟩⟩
  ·try dsimp only at h hq
   obtain⟨rfl,hs⟩:=hq
   refine⟨_,Sub.refl _ _,?_⟩
   refine i8 (e7 ?_)
   obtain rfl:=oi h
   exact hs
theorem ak5{t:m6}{r:(Int×Int)⊕(Int×Int×(List j8)×Li)}(h:G9 t=some r):FnOk prog 28 [.agg (tT t)] (ax9 t) (fun tt ss=>(∃v:Int×Int,r=.inl v∧tt=.tup [.c (.imm (.val (.pointer none))),.c (row 1 eU32 []),.agg [int v.1,int v.2]]∧ss=[.dead,.one (.cells 2 [[int v.1,int v.2]])])∨(∃v:Int×Int×(List j8)×Li,r=.inr v∧tt=.tup [.c (.ptr 4 0 0),.c (row 1 eU32 v.2.2.2),.agg [int 0,int 0]]∧ss=[.dead,.one (.cells 2 [[int 0,int 0]]),.dead,.dead,.one (.cells 3 [[.imm (.val (.int .u32 v.1)),.imm (.val (.int .u32 v.2.1)),.own 5 0 v.2.2.1.length]]),.one (vec 4 d7 v.2.2.1)])):=by
 refine FnOk.enter (rs:=[.t 2,.t 3,.cell 4 32 2]) func28 Z ntmps28 results28 Z ⟨trivial,trivial,rv _ Z,Y⟩ (by kernel_rfl) Z ?_
 refine AWP.weak ?_
 unfold G9 at h
 refine AWP.q (.z (W.box Z Z Z Z Z Z (.u Z Z (.u Z Z (W.alloc Z Z Z Z (.nil (b5 (.q (.q ?_)))))))))
 obtain⟨a10,ha10,h⟩:=bind_some h
 refine AWP.z (W.loadAgg Z Z Z Z Z Z Z (.U Z Z Z Z (ax6 ha10) Z (W.alloc Z Z Z Z (W.storeAgg Z Z Z Z Z Z Z (.nil (b5 (.q (.z (W.loadAgg Z Z Z Z Z Z Z (W.build Z Z Z Z (.neqP Z Z Z Z Z Z Z (.nil (b5 (.ag Z h (fun hc58 h=> ?_) (fun hc58 h=> ?_)))))))))))))))
 ·refine AWP.q (.drawEI [3] mixed Z Z Z ?_)
  refine e6.consN Z Z (fun E=>W.loadAgg Z Z Z Z Z Z Z .N) Z (.consN Z Z (fun E=>AOps.u Z Z .N) Z (.consN Z Z (fun E=>AOps.u Z Z .N) Z ?_))
  apply e6.consE (v:=.undef);exact Z;exact Z;intro E
  refine W.storeAgg Z Z Z Z Z Z Z .N
  exact Z
  exact Z
  refine e6.done Z ?_ ?_
  ·refine d5.cons Z Z (b7.go Z Z (fun E=>W.loadAgg Z Z Z Z Z Z Z .N) (b7.skip Z (b7.nil))) (d5.cons Z Z (b7.go Z Z (fun E=>AOps.u Z Z .N) (b7.skip Z (b7.nil))) (d5.cons Z Z (b7.go Z Z (fun E=>AOps.u Z Z .N) (b7.skip Z (b7.nil))) ?_))
   refine d5.skip Z (d5.nil)
  dsimp only[l7]
  refine b5 (.nilrow 1 3 Z (.ret (e7 ?_)))
  obtain rfl:=oi h
  exact⟨⟨[(2,.c (.imm (.val (.pointer none)))),(3,.c (row 1 eU32 [])),(4,.c (.ptr 1 0 0))],[.dead,.one (.cells 2 [[int a10.code,int a10.index]])]⟩,Sub.cut ⟨Z,Z,Z,Y⟩ Z ⟨.dead,.one Z,Y⟩ Z,Done.ret Z (.inl ⟨_,Z,Z,Z⟩)⟩
 ·refine AWP.skip (b5 (.q ?_))
  obtain⟨a16,ha16,h⟩:=bind_some h
  refine AWP.z (W.loadAgg Z Z Z Z Z Z Z (.callF (r2:=.c (.ptr 4 0 0)) (σ'':=[.one (.cells 4 [(tT t)]),.one (.cells 2 [[int 0,int 0]]),.one (.cells 2 [[int a10.code,int a10.index]]),.dead,.one (.cells 3 [[.imm (.val (.int .u32 a16.1)),.imm (.val (.int .u32 a16.2.1)),.own 5 0 a16.2.2.length]]),.one (vec 4 d7 a16.2.2)]) Z Z Z (FnOk.lend [] (space_Of_w_ok ha16) Z Z Z Z Z Z (by exact trivial) Z (by exact trivial) Z Z (by exact⟨(.old Z Z Z),(.old Z Z Z),(.old Z Z Z),.dead,(.new 1 Z Z (.one Z)),(.new 2 Z Z .vec),Y⟩)) (.u Z Z (.nil (b5 (.q ?_))))))
  obtain⟨a20,ha20,h⟩:=bind_some h
  refine AWP.z (.j Z Z (S.mkIfc Z Z Z (.callF (r2:=.tup [.c (.own 16 0 a20.1.length),.c (bool a20.2)]) (σ'':=[.one (.cells 4 [(tT t)]),.one (.cells 2 [[int 0,int 0]]),.one (.cells 2 [[int a10.code,int a10.index]]),.dead,.one (.cells 3 [[.imm (.val (.int .u32 a16.1)),.imm (.val (.int .u32 a16.2.1)),.own 5 0 a16.2.2.length]]),.one (vec 4 d7 a16.2.2),.dead,.dead,.dead,.dead,.dead,.dead,.dead,.dead,.dead,.dead,.one (vec 1 eU32 a20.1)]) Z Z Z (FnOk.lend [4,5] (at3 ha20) Z Z Z Z Z Z (by exact⟨(.one Z),.vec,Y⟩) Z (by exact⟨(.live Z (.one Z)),(.live Z .vec),Y⟩) Z Z (by exact⟨(.old Z Z Z),(.old Z Z Z),(.old Z Z Z),.dead,(.new 0 Z Z (.one Z)),(.new 1 Z Z .vec),.dead,.dead,.dead,.dead,.dead,.dead,.dead,.dead,.dead,.dead,(.new 12 Z Z .vec),Y⟩)) (.j Z Z (.ac Z Z Z (.ac Z Z Z (.u Z Z (.u Z Z (.nil (b5 (.q (.q (.z (.j Z Z (.not Z Z (.nil (b5 (.ag Z h (fun hc59 h=> ?_) (fun hc59 h=> ?_)))))))))))))))))))
  ·refine AWP.q (.z (W.build Z Z Z Z (.u Z Z (.u Z Z (W.storeAgg Z Z Z Z Z Z Z (.nil (b5 (.nilrow 1 3 Z (.ret (e7 ?_))))))))))
   obtain rfl:=oi h
   exact⟨⟨[(2,.c (.imm (.val (.pointer none)))),(3,.c (row 1 eU32 [])),(4,.c (.ptr 1 0 0))],[.dead,.one (.cells 2 [[int 10,int (-7)]])]⟩,Sub.cut ⟨Z,Z,Z,Y⟩ Z ⟨.dead,.one Z,Y⟩ Z,Done.ret Z (.inl ⟨_,Z,Z,Z⟩)⟩
  ·refine AWP.skip (b5 (.q ?_))
   obtain⟨a27,ha27,h⟩:=bind_some h
   refine AWP.z (.j Z Z (S.sortFU ha27 (fun hy=>ay0 hy) sortF_Lu32_ok (⟨_,func62,Z,Z⟩) Z Z Z Z Z Z ?_))
   refine AOps.nil (b5 (.q (.z (.j Z Z (.j Z Z (W.build Z Z Z Z (.u Z Z (.u Z Z (W.storeAgg Z Z Z Z Z Z Z (.nil (b5 (.frzV (id:=16) (l:=a27) (env2:=[(2,.c (.ptr 4 0 0)),(3,.c (row 1 eU32 a27)),(4,.c (.ptr 1 0 0))]) (σ2:=[.one (.cells 4 [(tT t)]),.one (.cells 2 [[int 0,int 0]]),.one (.cells 2 [[int a10.code,int a10.index]]),.dead,.one (.cells 3 [[.imm (.val (.int .u32 a16.1)),.imm (.val (.int .u32 a16.2.1)),.own 5 0 a16.2.2.length]]),.one (vec 4 d7 a16.2.2),.dead,.dead,.dead,.dead,.dead,.dead,.dead,.dead,.dead,.dead,.dead]) Z Z (by exact⟨⟨_,Z,.inl ⟨Z,Z⟩⟩,⟨_,Z,.inr ⟨_,Z,(sortFU_len ha27),Z⟩⟩,⟨_,Z,.inl ⟨Z,Z⟩⟩,Y⟩) Z (by exact⟨⟨Z,.inl ⟨Z,Z⟩,.inl ⟨Z,Z⟩,.inl ⟨Z,Z⟩,.inl ⟨Z,Z⟩,Y⟩,⟨Z,.inl ⟨Z,Z⟩,.inl ⟨Z,Z⟩,Y⟩,⟨Z,.inl ⟨Z,Z⟩,.inl ⟨Z,Z⟩,Y⟩,trivial,⟨Z,.inl ⟨Z,Z⟩,.inl ⟨Z,Z⟩,.inl ⟨Z,Z⟩,Y⟩,FrzB.vec,trivial,trivial,trivial,trivial,trivial,trivial,trivial,trivial,trivial,trivial,trivial,Y⟩) (.ret ?_)))))))))))))
   obtain rfl:=oi h
   exact⟨⟨[(2,.c (.ptr 4 0 0)),(3,.c (row 1 eU32 a27)),(4,.c (.ptr 1 0 0))],[.dead,.one (.cells 2 [[int 0,int 0]]),.dead,.dead,.one (.cells 3 [[.imm (.val (.int .u32 a16.1)),.imm (.val (.int .u32 a16.2.1)),.own 5 0 a16.2.2.length]]),.one (vec 4 d7 a16.2.2)]⟩,Sub.cut ⟨Z,Z,Z,Y⟩ Z ⟨.dead,.one Z,.dead,.dead,.one Z,.vec,Y⟩ Z,Done.ret Z (.inr ⟨_,Z,Z,Z⟩)⟩
theorem aq1{r:Unit}(h:K8=some r):FnOk prog 64 [] (ap0) (fun tt ss=>tt=.c (.ptr 2 0 0)∧ss=[.one (pmap 1 vU ([]:List (Int×Int))),pool 4 b8 ([]:List b9),.one (.cells 3 [[.own 3 0 (([]:Li).length),.map 0,int 0]]),.one (prow 1 ([]:Li))]):=by
 refine FnOk.enter (rs:=[.t 0]) func64 Z ntmps64 results64 Z ⟨trivial,Y⟩ (by kernel_rfl) Z ?_
 refine AWP.weak ?_
 unfold K8 at h
 refine AWP.q (.z (.u Z Z (.nil (b5 (.q (.z (W.makeMapP 1 vU Z Z Z (.sub (Sub.newPool (size:=4) (f:=b8) Z) (W.build Z Z Z Z (W.box Z Z Z Z Z Z (.u Z Z (.nil (b5 (.virtP 1 (b:=2) (o:=0) Z Z Z Z Z Z (.ret ?_)))))))))))))))
 obtain rfl:=oi h
 exact⟨⟨[(0,.c (.ptr 2 0 0))],[.one (pmap 1 vU ([]:List (Int×Int))),pool 4 b8 ([]:List b9),.one (.cells 3 [[.own 3 0 (([]:Li).length),.map 0,int 0]]),.one (prow 1 ([]:Li))]⟩,Sub.env ⟨Z,Y⟩,Done.ret Z ⟨Z,Z⟩⟩
theorem as3{sv:Int}{start:Int}{goal:Int}{l:List j8}{r:Unit}(h:Q4 sv start goal l=some r):FnOk prog 65 [.c (.ptr 0 0 0),.c (.imm (.val (.int .u32 sv)))] (as8 sv start goal l) (fun tt ss=>tt=.c (bool (decide (Go.bits .and .u32 sv goal=goal)))∧ss=[.one (.cells 3 [(wW start goal 1 l.length)]),.one (vec 4 d7 l)]):=by
 refine FnOk.enter (rs:=[.t 4]) func65 Z ntmps65 results65 Z ⟨trivial,Y⟩ (by kernel_rfl) Z ?_
 refine AWP.weak ?_
 unfold Q4 at h
 refine AWP.q (.z (.u Z Z (.nil (b5 (.q (.drawI mixed Z ?_))))))
 refine j6.consF Z (fun E=>AOps.j Z Z .N) Z (.consF Z (fun E=>AOps.j Z Z .N) Z (.consF Z (fun E=>AOps.ai Z Z Z .N) Z (.consF Z (fun E=>W.fieldAddr Z Z Z Z .N) Z (.consF Z (fun E=>AOps.F Z Z Z Z Z Z .N) Z (.consF Z (fun E=>AOps.bits Z Z Z (by simp) .N) Z (.consF Z (fun E=>AOps.j Z Z .N) Z (.consF Z (fun E=>AOps.ai Z Z Z .N) Z (.consF Z (fun E=>W.fieldAddr Z Z Z Z .N) Z (.consF Z (fun E=>AOps.F Z Z Z Z Z Z .N) Z (.consF Z (fun E=>AOps.eql Z Z Z .N) Z (.consF Z (fun E=>AOps.u Z Z .N) Z ?_)))))))))))
 refine j6.done ?_
 dsimp only[l7]
 refine b5 (.ret ?_)
 obtain rfl:=oi h
 exact⟨⟨[(4,.c (bool (decide (Go.bits .and .u32 sv goal=goal))))],[.one (.cells 3 [(wW start goal 1 l.length)]),.one (vec 4 d7 l)]⟩,Sub.env ⟨Z,Y⟩,Done.ret Z ⟨Z,Z⟩⟩
theorem H0{l:Li}{l2:List b9}{r:Unit}(h:u3 l l2=some r):FnOk prog 203 [.c (.own 0 0 l.length)] (ah3 l l2) (fun tt ss=>tt=.c (int (l.length:Int))∧ss=[.one (prow 1 l),pool 4 b8 l2]):=by
 refine FnOk.enter (rs:=[.t 2]) func203 Z ntmps203 results203 Z ⟨trivial,Y⟩ (by kernel_rfl) Z ?_
 refine AWP.weak ?_
 unfold u3 at h
 refine AWP.q (.z (.u Z Z (.nil (b5 (.q (.z (.j Z Z (.lenOwnB Z Z Z (fun hl4=>.u Z Z (.nil (b5 (.ret ?_))))))))))))
 obtain rfl:=oi h
 exact⟨⟨[(2,.c (int (l.length:Int)))],[.one (prow 1 l),pool 4 b8 l2]⟩,Sub.env ⟨Z,Y⟩,Done.ret Z ⟨Z,Z⟩⟩
theorem B7{iv:Int}{kv:Int}{l:Li}{l4:List b9}{r:Bool}(h:q7 iv kv l l4=some r):FnOk prog 204 [.c (.own 0 0 l.length),.c (int iv),.c (int kv)] (ah0 iv kv l l4) (fun tt ss=>tt=.c (bool r)∧ss=[.one (prow 1 l),pool 4 b8 l4]):=by
 refine FnOk.enter (rs:=[.t 6]) func204 Z ntmps204 results204 Z ⟨trivial,Y⟩ (by kernel_rfl) Z ?_
 refine AWP.weak ?_
 unfold q7 at h
 refine AWP.q (.z (.u Z Z (.nil (b5 ?_))))
 obtain⟨a9,ha9,en56,hen56,a16,ha16,h⟩:=b3 h
 obtain⟨en57,hen57,h⟩:=bind_some h
 refine AWP.seqJ (⟨[(6,.c (bool ((decide (en56.key<en57.key))||((decide (en56.key=en57.key)) && (decide (en56.time<en57.time))))))],[.one (prow 1 l),pool 4 b8 l4]⟩) ?_ ?_
 ·rcases bft (decide (en56.key<en57.key)) with hb1|hb1
  ·refine AWP.drawI mixed Z ?_
   refine j6.consF Z (fun E=>AOps.j Z Z .N) Z (.consF Z (fun E=>AOps.j Z Z .N) Z (.consF Z (fun E=>S.idxPb Z Z Z (by simpa only[lS] using s5 ha9) Z Z .N) Z (.consF Z (fun E=>S.loadP ha9 Z Z Z Z .N) Z (.consF Z (fun E=>S.nilCheckE Z Z (by simpa only[lS] using f8 hen56) Z .N) Z (.consF Z (fun E=>S.fieldE Z Z Z (by simpa only[lS] using f8 hen56) Z .N) Z (.consF Z (fun E=>AOps.F Z Z (s8 Z hen56) Z Z Z .N) Z (.consF Z (fun E=>AOps.j Z Z .N) Z (.consF Z (fun E=>AOps.j Z Z .N) Z (.consF Z (fun E=>S.idxPb Z Z Z (by simpa only[lS] using s5 ha16) Z Z .N) Z (.consF Z (fun E=>S.loadP ha16 Z Z Z Z .N) Z (.consF Z (fun E=>S.nilCheckE Z Z (by simpa only[lS] using f8 hen57) Z .N) Z (.consF Z (fun E=>S.fieldE Z Z Z (by simpa only[lS] using f8 hen57) Z .N) Z (.consF Z (fun E=>AOps.F Z Z (s8 Z hen57) Z Z Z .N) Z (.consF Z (fun E=>AOps.J Z Z Z .N) Z (.consF Z (fun E=>AOps.j Z Z .N) Z (.consF Z (fun E=>AOps.E Z Z Z hb1 .N) Z (.consF Z (fun E=>AOps.E Z Z Z hb1 .N) Z (.consF Z (fun E=>AOps.E Z Z Z hb1 .N) Z (.consF Z (fun E=>AOps.E Z Z Z hb1 .N) Z (.consF Z (fun E=>AOps.E Z Z Z hb1 .N) Z (.consF Z (fun E=>AOps.E Z Z Z hb1 .N) Z (.consF Z (fun E=>AOps.E Z Z Z hb1 .N) Z (.consF Z (fun E=>AOps.E Z Z Z hb1 .N) Z (.consF Z (fun E=>AOps.E Z Z Z hb1 .N) Z (.consF Z (fun E=>AOps.E Z Z Z hb1 .N) Z (.consF Z (fun E=>AOps.E Z Z Z hb1 .N) Z (.consF Z (fun E=>AOps.E Z Z Z hb1 .N) Z (.consF Z (fun E=>AOps.E Z Z Z hb1 .N) Z (.consF Z (fun E=>AOps.E Z Z Z hb1 .N) Z (.consF Z (fun E=>AOps.E Z Z Z hb1 .N) Z (.consF Z (fun E=>AOps.E Z Z Z hb1 .N) Z (.consF Z (fun E=>AOps.ah Z Z Z .N) Z (.consF Z (fun E=>AOps.ah Z Z Z .N) Z (.consF Z (fun E=>AOps.ah Z Z Z .N) Z (.consF Z (fun E=>AOps.ah Z Z Z .N) Z (.consF Z (fun E=>AOps.ah Z Z Z .N) Z (.consF Z (fun E=>AOps.ah Z Z Z .N) Z (.consF Z (fun E=>AOps.ah Z Z Z .N) Z (.consF Z (fun E=>AOps.ah Z Z Z .N) Z (.consF Z (fun E=>AOps.ah Z Z Z .N) Z (.consF Z (fun E=>AOps.ah Z Z Z .N) Z (.consF Z (fun E=>AOps.ah Z Z Z .N) Z (.consF Z (fun E=>AOps.ah Z Z Z .N) Z (.consF Z (fun E=>AOps.ah Z Z Z .N) Z (.consF Z (fun E=>AOps.ah Z Z Z .N) Z (.consF Z (fun E=>AOps.ah Z Z Z .N) Z (.consF Z (fun E=>AOps.E Z Z Z hb1 .N) Z (.consF Z (fun E=>AOps.aa Z hb1 Z Z .N) Z (.consF Z (fun E=>AOps.u Z Z .N) Z ?_)))))))))))))))))))))))))))))))))))))))))))))))))
   refine j6.done ?_
   dsimp only[l7]
   refine b5 ?_
   simp only[O3 hb1,or_t hb1,Bool.false_or,Bool.true_or,Bool.false_and,Bool.true_and]
   exact Sub.env ⟨Z,Y⟩
  ·rcases bft (decide (en56.key=en57.key)) with hb2|hb2
   ·refine AWP.drawI mixed Z ?_
    refine j6.consF Z (fun E=>AOps.j Z Z .N) Z (.consF Z (fun E=>AOps.j Z Z .N) Z (.consF Z (fun E=>S.idxPb Z Z Z (by simpa only[lS] using s5 ha9) Z Z .N) Z (.consF Z (fun E=>S.loadP ha9 Z Z Z Z .N) Z (.consF Z (fun E=>S.nilCheckE Z Z (by simpa only[lS] using f8 hen56) Z .N) Z (.consF Z (fun E=>S.fieldE Z Z Z (by simpa only[lS] using f8 hen56) Z .N) Z (.consF Z (fun E=>AOps.F Z Z (s8 Z hen56) Z Z Z .N) Z (.consF Z (fun E=>AOps.j Z Z .N) Z (.consF Z (fun E=>AOps.j Z Z .N) Z (.consF Z (fun E=>S.idxPb Z Z Z (by simpa only[lS] using s5 ha16) Z Z .N) Z (.consF Z (fun E=>S.loadP ha16 Z Z Z Z .N) Z (.consF Z (fun E=>S.nilCheckE Z Z (by simpa only[lS] using f8 hen57) Z .N) Z (.consF Z (fun E=>S.fieldE Z Z Z (by simpa only[lS] using f8 hen57) Z .N) Z (.consF Z (fun E=>AOps.F Z Z (s8 Z hen57) Z Z Z .N) Z (.consF Z (fun E=>AOps.J Z Z Z .N) Z (.consF Z (fun E=>AOps.j Z Z .N) Z (.consF Z (fun E=>AOps.B Z Z Z hb1 (.j Z Z .N)) Z (.consF Z (fun E=>AOps.B Z Z Z hb1 (.j Z Z .N)) Z (.consF Z (fun E=>AOps.B Z Z Z hb1 (S.idxPb Z Z Z (by simpa only[lS] using s5 ha9) Z Z .N)) Z (.consF Z (fun E=>AOps.B Z Z Z hb1 (S.loadP ha9 Z Z Z Z .N)) Z (.consF Z (fun E=>AOps.B Z Z Z hb1 (S.nilCheckE Z Z (by simpa only[lS] using f8 hen56) Z .N)) Z (.consF Z (fun E=>AOps.B Z Z Z hb1 (S.fieldE Z Z Z (by simpa only[lS] using f8 hen56) Z .N)) Z (.consF Z (fun E=>AOps.B Z Z Z hb1 (.F Z Z (s8 Z hen56) Z Z Z .N)) Z (.consF Z (fun E=>AOps.B Z Z Z hb1 (.j Z Z .N)) Z (.consF Z (fun E=>AOps.B Z Z Z hb1 (.j Z Z .N)) Z (.consF Z (fun E=>AOps.B Z Z Z hb1 (S.idxPb Z Z Z (by simpa only[lS] using s5 ha16) Z Z .N)) Z (.consF Z (fun E=>AOps.B Z Z Z hb1 (S.loadP ha16 Z Z Z Z .N)) Z (.consF Z (fun E=>AOps.B Z Z Z hb1 (S.nilCheckE Z Z (by simpa only[lS] using f8 hen57) Z .N)) Z (.consF Z (fun E=>AOps.B Z Z Z hb1 (S.fieldE Z Z Z (by simpa only[lS] using f8 hen57) Z .N)) Z (.consF Z (fun E=>AOps.B Z Z Z hb1 (.F Z Z (s8 Z hen57) Z Z Z .N)) Z (.consF Z (fun E=>AOps.B Z Z Z hb1 (.eql Z Z Z .N)) Z (.consF Z (fun E=>AOps.B Z Z Z hb1 (.j Z Z .N)) Z (.consF Z (fun E=>AOps.B Z Z Z hb2 (.j Z Z .N)) Z (.consF Z (fun E=>AOps.B Z Z Z hb2 (.j Z Z .N)) Z (.consF Z (fun E=>AOps.B Z Z Z hb2 (S.idxPb Z Z Z (by simpa only[lS] using s5 ha9) Z Z .N)) Z (.consF Z (fun E=>AOps.B Z Z Z hb2 (S.loadP ha9 Z Z Z Z .N)) Z (.consF Z (fun E=>AOps.B Z Z Z hb2 (S.nilCheckE Z Z (by simpa only[lS] using f8 hen56) Z .N)) Z (.consF Z (fun E=>AOps.B Z Z Z hb2 (S.fieldE Z Z Z (by simpa only[lS] using f8 hen56) Z .N)) Z (.consF Z (fun E=>AOps.B Z Z Z hb2 (.F Z Z (s8 Z hen56) Z Z Z .N)) Z (.consF Z (fun E=>AOps.B Z Z Z hb2 (.j Z Z .N)) Z (.consF Z (fun E=>AOps.B Z Z Z hb2 (.j Z Z .N)) Z (.consF Z (fun E=>AOps.B Z Z Z hb2 (S.idxPb Z Z Z (by simpa only[lS] using s5 ha16) Z Z .N)) Z (.consF Z (fun E=>AOps.B Z Z Z hb2 (S.loadP ha16 Z Z Z Z .N)) Z (.consF Z (fun E=>AOps.B Z Z Z hb2 (S.nilCheckE Z Z (by simpa only[lS] using f8 hen57) Z .N)) Z (.consF Z (fun E=>AOps.B Z Z Z hb2 (S.fieldE Z Z Z (by simpa only[lS] using f8 hen57) Z .N)) Z (.consF Z (fun E=>AOps.B Z Z Z hb2 (.F Z Z (s8 Z hen57) Z Z Z .N)) Z (.consF Z (fun E=>AOps.B Z Z Z hb2 (.J Z Z Z .N)) Z (.consF Z (fun E=>AOps.B Z Z Z hb1 (.aa Z hb2 Z Z .N)) Z (.consF Z (fun E=>AOps.ab Z hb1 Z Z .N) Z (.consF Z (fun E=>AOps.u Z Z .N) Z ?_)))))))))))))))))))))))))))))))))))))))))))))))))
    refine j6.done ?_
    dsimp only[l7]
    refine b5 ?_
    simp only[J7 hb1,or_f hb1,O3 hb2,or_t hb2,Bool.false_or,Bool.true_or,Bool.false_and,Bool.true_and]
    exact Sub.env ⟨Z,Y⟩
   ·refine AWP.drawI mixed Z ?_
    refine j6.consF Z (fun E=>AOps.j Z Z .N) Z (.consF Z (fun E=>AOps.j Z Z .N) Z (.consF Z (fun E=>S.idxPb Z Z Z (by simpa only[lS] using s5 ha9) Z Z .N) Z (.consF Z (fun E=>S.loadP ha9 Z Z Z Z .N) Z (.consF Z (fun E=>S.nilCheckE Z Z (by simpa only[lS] using f8 hen56) Z .N) Z (.consF Z (fun E=>S.fieldE Z Z Z (by simpa only[lS] using f8 hen56) Z .N) Z (.consF Z (fun E=>AOps.F Z Z (s8 Z hen56) Z Z Z .N) Z (.consF Z (fun E=>AOps.j Z Z .N) Z (.consF Z (fun E=>AOps.j Z Z .N) Z (.consF Z (fun E=>S.idxPb Z Z Z (by simpa only[lS] using s5 ha16) Z Z .N) Z (.consF Z (fun E=>S.loadP ha16 Z Z Z Z .N) Z (.consF Z (fun E=>S.nilCheckE Z Z (by simpa only[lS] using f8 hen57) Z .N) Z (.consF Z (fun E=>S.fieldE Z Z Z (by simpa only[lS] using f8 hen57) Z .N) Z (.consF Z (fun E=>AOps.F Z Z (s8 Z hen57) Z Z Z .N) Z (.consF Z (fun E=>AOps.J Z Z Z .N) Z (.consF Z (fun E=>AOps.j Z Z .N) Z (.consF Z (fun E=>AOps.B Z Z Z hb1 (.j Z Z .N)) Z (.consF Z (fun E=>AOps.B Z Z Z hb1 (.j Z Z .N)) Z (.consF Z (fun E=>AOps.B Z Z Z hb1 (S.idxPb Z Z Z (by simpa only[lS] using s5 ha9) Z Z .N)) Z (.consF Z (fun E=>AOps.B Z Z Z hb1 (S.loadP ha9 Z Z Z Z .N)) Z (.consF Z (fun E=>AOps.B Z Z Z hb1 (S.nilCheckE Z Z (by simpa only[lS] using f8 hen56) Z .N)) Z (.consF Z (fun E=>AOps.B Z Z Z hb1 (S.fieldE Z Z Z (by simpa only[lS] using f8 hen56) Z .N)) Z (.consF Z (fun E=>AOps.B Z Z Z hb1 (.F Z Z (s8 Z hen56) Z Z Z .N)) Z (.consF Z (fun E=>AOps.B Z Z Z hb1 (.j Z Z .N)) Z (.consF Z (fun E=>AOps.B Z Z Z hb1 (.j Z Z .N)) Z (.consF Z (fun E=>AOps.B Z Z Z hb1 (S.idxPb Z Z Z (by simpa only[lS] using s5 ha16) Z Z .N)) Z (.consF Z (fun E=>AOps.B Z Z Z hb1 (S.loadP ha16 Z Z Z Z .N)) Z (.consF Z (fun E=>AOps.B Z Z Z hb1 (S.nilCheckE Z Z (by simpa only[lS] using f8 hen57) Z .N)) Z (.consF Z (fun E=>AOps.B Z Z Z hb1 (S.fieldE Z Z Z (by simpa only[lS] using f8 hen57) Z .N)) Z (.consF Z (fun E=>AOps.B Z Z Z hb1 (.F Z Z (s8 Z hen57) Z Z Z .N)) Z (.consF Z (fun E=>AOps.B Z Z Z hb1 (.eql Z Z Z .N)) Z (.consF Z (fun E=>AOps.B Z Z Z hb1 (.j Z Z .N)) Z (.consF Z (fun E=>AOps.E Z Z Z hb2 .N) Z (.consF Z (fun E=>AOps.E Z Z Z hb2 .N) Z (.consF Z (fun E=>AOps.E Z Z Z hb2 .N) Z (.consF Z (fun E=>AOps.E Z Z Z hb2 .N) Z (.consF Z (fun E=>AOps.E Z Z Z hb2 .N) Z (.consF Z (fun E=>AOps.E Z Z Z hb2 .N) Z (.consF Z (fun E=>AOps.E Z Z Z hb2 .N) Z (.consF Z (fun E=>AOps.E Z Z Z hb2 .N) Z (.consF Z (fun E=>AOps.E Z Z Z hb2 .N) Z (.consF Z (fun E=>AOps.E Z Z Z hb2 .N) Z (.consF Z (fun E=>AOps.E Z Z Z hb2 .N) Z (.consF Z (fun E=>AOps.E Z Z Z hb2 .N) Z (.consF Z (fun E=>AOps.E Z Z Z hb2 .N) Z (.consF Z (fun E=>AOps.E Z Z Z hb2 .N) Z (.consF Z (fun E=>AOps.E Z Z Z hb2 .N) Z (.consF Z (fun E=>AOps.B Z Z Z hb1 (.ab Z hb2 Z Z .N)) Z (.consF Z (fun E=>AOps.ab Z hb1 Z Z .N) Z (.consF Z (fun E=>AOps.u Z Z .N) Z ?_)))))))))))))))))))))))))))))))))))))))))))))))))
    refine j6.done ?_
    dsimp only[l7]
    refine b5 ?_
    simp only[J7 hb1,or_f hb1,J7 hb2,or_f hb2,Bool.false_or,Bool.true_or,Bool.false_and,Bool.true_and]
    exact Sub.env ⟨Z,Y⟩
 ·refine AWP.ret ?_
  obtain rfl:=oi h
  exact⟨⟨[(6,.c (bool ((decide (en56.key<en57.key))||((decide (en56.key=en57.key)) && (decide (en56.time<en57.time))))))],[.one (prow 1 l),pool 4 b8 l4]⟩,Sub.env ⟨Z,Y⟩,Done.ret Z ⟨Z,Z⟩⟩
theorem Q6{iv:Int}{kv:Int}{l:Li}{l4:List b9}{r:Li×(List b9)}(h:p8 iv kv l l4=some r):FnOk prog 205 [.c (.own 0 0 l.length),.c (int iv),.c (int kv)] (ag9 iv kv l l4) (fun tt ss=>tt=.tup []∧ss=[.one (prow 1 r.1),pool 4 b8 r.2]):=by
 refine FnOk.enter (rs:=[]) func205 Z ntmps205 results205 Z trivial (by kernel_rfl) Z ?_
 refine AWP.weak ?_
 unfold p8 at h
 refine AWP.q ?_
 obtain⟨a12,ha12,a16,ha16,h⟩:=b2 h
 refine AWP.drawEI [13,15] mixed Z Z Z ?_
 refine e6.consN Z Z (fun E=>AOps.j Z Z .N) Z (.consN Z Z (fun E=>AOps.j Z Z .N) Z (.consN Z Z (fun E=>AOps.j Z Z .N) Z (.consN Z Z (fun E=>AOps.j Z Z .N) Z (.consN Z Z (fun E=>AOps.j Z Z .N) Z (.consN Z Z (fun E=>AOps.j Z Z .N) Z (.consN Z Z (fun E=>S.idxPb Z Z Z (by simpa only[lS] using s5 ha12) Z Z .N) Z (.consN Z Z (fun E=>S.loadP ha12 Z Z Z Z .N) Z (.consN Z Z (fun E=>AOps.j Z Z .N) Z (.consN Z Z (fun E=>AOps.j Z Z .N) Z (.consN Z Z (fun E=>S.idxPb Z Z Z (by simpa only[lS] using s5 ha16) Z Z .N) Z (.consN Z Z (fun E=>S.loadP ha16 Z Z Z Z .N) Z (.consN Z Z (fun E=>S.idxPb Z Z Z (by simpa only[lS] using s5 ha16) Z Z .N) Z ?_))))))))))))
 apply e6.consE (v:=.undef);exact Z;exact Z;intro E
 refine S.storeP (a:=a12) (by simpa only[lS] using f8 ha16) Z Z Z Z .N
 exact Z
 exact Z
 refine e6.consN Z Z (fun E=>S.idxPb Z Z (by simp only[lS]) (by simpa only[lS] using s5 ha12) Z Z .N) Z ?_
 apply e6.consE (v:=.undef);exact Z;exact Z;intro E
 refine S.storeP (a:=a16) (by simpa only[lS] using f8 ha12) Z Z Z Z .N
 exact Z
 exact Z
 refine e6.done Z ?_ ?_
 ·refine d5.cons Z Z (b7.go Z Z (fun E=>AOps.j Z Z .N) (b7.skip Z (b7.skip Z (b7.nil)))) (d5.cons Z Z (b7.go Z Z (fun E=>AOps.j Z Z .N) (b7.skip Z (b7.skip Z (b7.nil)))) (d5.cons Z Z (b7.go Z Z (fun E=>AOps.j Z Z .N) (b7.go Z Z (fun E=>AOps.j Z Z .N) (b7.skip Z (b7.nil)))) (d5.cons Z Z (b7.go Z Z (fun E=>AOps.j Z Z .N) (b7.go Z Z (fun E=>AOps.j Z Z .N) (b7.skip Z (b7.nil)))) (d5.cons Z Z (b7.go Z Z (fun E=>AOps.j Z Z .N) (b7.skip Z (b7.skip Z (b7.nil)))) (d5.cons Z Z (b7.go Z Z (fun E=>AOps.j Z Z .N) (b7.skip Z (b7.skip Z (b7.nil)))) (d5.cons Z Z (b7.go Z Z (fun E=>S.idxPb Z Z Z (by simpa only[lS] using s5 ha12) Z Z .N) (b7.skip Z (b7.skip Z (b7.nil)))) (d5.cons Z Z (b7.go Z Z (fun E=>S.loadP ha12 Z Z Z Z .N) (b7.skip Z (b7.skip Z (b7.nil)))) (d5.cons Z Z (b7.go Z Z (fun E=>AOps.j Z Z .N) (b7.skip Z (b7.skip Z (b7.nil)))) (d5.cons Z Z (b7.go Z Z (fun E=>AOps.j Z Z .N) (b7.skip Z (b7.skip Z (b7.nil)))) (d5.cons Z Z (b7.go Z Z (fun E=>S.idxPb Z Z Z (by simpa only[lS] using s5 ha16) Z Z .N) (b7.skip Z (b7.skip Z (b7.nil)))) (d5.cons Z Z (b7.go Z Z (fun E=>S.loadP ha16 Z Z Z Z .N) (b7.skip Z (b7.skip Z (b7.nil)))) ?_)))))))))))
  refine d5.cons Z Z (b7.go Z Z (fun E=>S.idxPb Z Z Z (by simpa only[lS] using s5 ha16) Z Z .N) (b7.skip Z (b7.skip Z (b7.nil)))) ?_
  refine d5.skip Z ?_
  refine d5.cons Z Z ?_ ?_
  refine b7.skip Z ?_
  refine b7.go Z Z (fun E=>S.idxPb Z Z (by simp only[lS]) (by simpa only[lS] using s5 ha12) Z Z .N) ?_
  refine b7.skip Z (b7.nil)
  refine d5.skip Z (d5.nil)
 dsimp only[l7]
 refine b5 ?_
 obtain⟨ha57,hha57,ha58,hha58,en59,hen59,h⟩:=b3 h
 obtain⟨en60,hen60,h⟩:=bind_some h
 refine AWP.drawEI [12,15] mixed Z Z Z ?_
 refine e6.consN Z Z (fun E=>AOps.j Z Z .N) Z (.consN Z Z (fun E=>AOps.j Z Z .N) Z (.consN Z Z (fun E=>S.idxPb Z Z (by simp only[lS]) (by simpa only[lS] using s5 ha16) Z Z .N) Z (.consN Z Z (fun E=>S.loadP hha57 Z Z Z Z .N) Z (.consN Z Z (fun E=>AOps.j Z Z .N) Z (.consN Z Z (fun E=>AOps.j Z Z .N) Z (.consN Z Z (fun E=>S.idxPb Z Z (by simp only[lS]) (by simpa only[lS] using s5 ha12) Z Z .N) Z (.consN Z Z (fun E=>S.loadP hha58 Z Z Z Z .N) Z (.consN Z Z (fun E=>AOps.j Z Z .N) Z (.consN Z Z (fun E=>AOps.j Z Z .N) Z (.consN Z Z (fun E=>S.nilCheckE Z Z (by simpa only[lS] using f8 hen59) Z .N) Z (.consN Z Z (fun E=>S.fieldE Z Z Z (by simpa only[lS] using f8 hen59) Z .N) Z ?_)))))))))))
 apply e6.consE (v:=.undef);exact Z;exact Z;intro E
 refine S.storeE (e':=(⟨en59.item,en59.key,en59.time,iv⟩:b9)) hen59 Z Z Z Z Z Z .N
 exact Z
 exact Z
 refine e6.consN Z Z (fun E=>S.nilCheckE Z Z (by simpa only[lS] using f8 hen60) Z .N) Z (.consN Z Z (fun E=>S.fieldE Z Z Z (by simpa only[lS] using f8 hen60) Z .N) Z ?_)
 apply e6.consE (v:=.undef);exact Z;exact Z;intro E
 refine S.storeE (e':=(⟨en60.item,en60.key,en60.time,kv⟩:b9)) hen60 Z Z Z Z Z Z .N
 exact Z
 exact Z
 refine e6.done Z ?_ ?_
 ·refine d5.cons Z Z (b7.go Z Z (fun E=>AOps.j Z Z .N) (b7.skip Z (b7.skip Z (b7.nil)))) (d5.cons Z Z (b7.go Z Z (fun E=>AOps.j Z Z .N) (b7.skip Z (b7.skip Z (b7.nil)))) (d5.cons Z Z (b7.go Z Z (fun E=>S.idxPb Z Z (by simp only[lS]) (by simpa only[lS] using s5 ha16) Z Z .N) (b7.skip Z (b7.skip Z (b7.nil)))) (d5.cons Z Z (b7.go Z Z (fun E=>S.loadP hha57 Z Z Z Z .N) (b7.skip Z (b7.skip Z (b7.nil)))) (d5.cons Z Z (b7.go Z Z (fun E=>AOps.j Z Z .N) (b7.skip Z (b7.skip Z (b7.nil)))) (d5.cons Z Z (b7.go Z Z (fun E=>AOps.j Z Z .N) (b7.skip Z (b7.skip Z (b7.nil)))) (d5.cons Z Z (b7.go Z Z (fun E=>S.idxPb Z Z (by simp only[lS]) (by simpa only[lS] using s5 ha12) Z Z .N) (b7.skip Z (b7.skip Z (b7.nil)))) (d5.cons Z Z (b7.go Z Z (fun E=>S.loadP hha58 Z Z Z Z .N) (b7.skip Z (b7.skip Z (b7.nil)))) (d5.cons Z Z (b7.go Z Z (fun E=>AOps.j Z Z .N) (b7.skip Z (b7.skip Z (b7.nil)))) (d5.cons Z Z (b7.go Z Z (fun E=>AOps.j Z Z .N) (b7.go Z Z (fun E=>AOps.j Z Z .N) (b7.skip Z (b7.nil)))) (d5.cons Z Z (b7.go Z Z (fun E=>S.nilCheckE Z Z (by simpa only[lS] using f8 hen59) Z .N) (b7.skip Z (b7.skip Z (b7.nil)))) (d5.cons Z Z (b7.go Z Z (fun E=>S.fieldE Z Z Z (by simpa only[lS] using f8 hen59) Z .N) (b7.skip Z (b7.skip Z (b7.nil)))) ?_)))))))))))
  refine d5.skip Z ?_
  refine d5.cons Z Z ?_ ?_
  refine b7.skip Z ?_
  refine b7.go Z Z (fun E=>S.nilCheckE Z Z (by simpa only[lS] using f8 hen60) Z .N) ?_
  refine b7.skip Z (b7.nil)
  refine d5.cons Z Z ?_ ?_
  refine b7.skip Z ?_
  refine b7.go Z Z (fun E=>S.fieldE Z Z Z (by simpa only[lS] using f8 hen60) Z .N) ?_
  refine b7.skip Z (b7.nil)
  refine d5.skip Z (d5.nil)
 dsimp only[l7]
 obtain rfl:=oi h
 exact⟨⟨[],[.one (prow 1 ((l.set iv.toNat a12).set kv.toNat a16)),pool 4 b8 ((l4.set ha57.toNat (⟨en59.item,en59.key,en59.time,iv⟩:b9)).set ha58.toNat (⟨en60.item,en60.key,en60.time,kv⟩:b9))]⟩,Sub.env trivial,Done.normal Z ⟨Z,Z⟩⟩
theorem ap8{i01:Int}{nv:Int}{time:Int}{l:Li}{l5:List (Int×Int)}{l6:List b9}{r:Li×(List b9)×Bool}(h:C5 i01 nv time l l5 l6=some r):FnOk prog 138 [.c (.ifc 189 [.ptr 0 0 0] false),.c (int i01),.c (int nv)] (Y5 i01 nv time l l5 l6) (fun tt ss=>tt=.c (bool r.2.2)∧ss=[.one (.cells 3 [[.own 1 0 r.1.length,.map 2,int time]]),.one (prow 3 r.1),.one (pmap 3 vU l5),pool 4 b8 r.2.1]):=by
 refine FnOk.enter (rs:=[.t 6]) func138 Z ntmps138 results138 Z ⟨trivial,Y⟩ (by kernel_rfl) Z ?_
 refine AWP.weak ?_
 unfold C5 at h
 refine AWP.q (.z (.u Z Z (.nil (b5 (.q (.z (.j Z Z (.u Z Z (.nil (b5 (.q (.O ?_))))))))))))
 obtain⟨⟨c63,c64,iv65⟩,ho1,h⟩:=bind_some h
 try dsimp only at h
 refine AWP.loopS ho1 (fun(c60,c61,iv62)=>⟨[(0,.c (.ifc 189 [.ptr 0 0 0] false)),(1,.c (int i01)),(2,.c (int nv)),(7,.c (int iv62))],[.one (.cells 3 [[.own 1 0 c60.length,.map 2,int time]]),.one (prow 3 c60),.one (pmap 3 vU l5),pool 4 b8 c61]⟩) (fun(c63,c64,iv65) e st=>e=.exit 0∧Sub (Y5 i01 nv time l l5 l6) st ⟨[(1,.c (int i01)),(7,.c (int iv65))],[.one (.cells 3 [[.own 1 0 c63.length,.map 2,int time]]),.one (prow 3 c63),.one (pmap 3 vU l5),pool 4 b8 c64]⟩) ?_ ?_ ?_
 ·try dsimp only
  exact Sub.env ⟨Z,Z,Z,Z,Y⟩
 ·intro s o h
  obtain⟨c60,c61,iv62⟩:=s
  unfold A4 at h
  try dsimp only at h ⊢
  refine AWP.O (.q (.z (.j Z Z (S.mul Z Z Z (S.add Z Z Z (.u Z Z (.nil (b5 (.q (.seqJ (⟨[(0,.c (.ifc 189 [.ptr 0 0 0] false)),(1,.c (int i01)),(2,.c (int nv)),(7,.c (int iv62)),(8,.c (int (w64 ((w64 (2 * iv62))+1)))),(21,.c (bool ((decide (nv≤w64 ((w64 (2 * iv62))+1)))||(decide (w64 ((w64 (2 * iv62))+1)<0)))))],[.one (.cells 3 [[.own 1 0 c60.length,.map 2,int time]]),.one (prow 3 c60),.one (pmap 3 vU l5),pool 4 b8 c61]⟩) ?_ ?_))))))))))
  ·rcases bft (decide (nv≤w64 ((w64 (2 * iv62))+1))) with hb1|hb1
   ·refine AWP.z (.j Z Z (.j Z Z (.geq Z Z Z (.j Z Z (.E Z Z Z hb1 (.E Z Z Z hb1 (.aa Z hb1 Z Z (.nil (b5 ?_)))))))))
    simp only[O3 hb1,or_t hb1,Bool.false_or,Bool.true_or,Bool.false_and,Bool.true_and]
    exact Sub.env ⟨Z,Z,Z,Z,Z,Z,Y⟩
   ·refine AWP.z (.j Z Z (.j Z Z (.geq Z Z Z (.j Z Z (.B Z Z Z hb1 (.j Z Z (.B Z Z Z hb1 (.J Z Z Z (.ab Z hb1 Z Z (.nil (b5 ?_)))))))))))
    simp only[J7 hb1,or_f hb1,Bool.false_or,Bool.true_or,Bool.false_and,Bool.true_and]
    exact Sub.env ⟨Z,Z,Z,Z,Z,Z,Y⟩
  ·refine AWP.ag Z h (fun hc66 h=> ?_) (fun hc66 h=> ?_)
   ·refine AWP.exit (d8 (K1 Z ?_))
    obtain rfl:=oi h
    refine d8 ⟨_,Z,Z,?_⟩
    exact Sub.env ⟨Z,Z,Y⟩
   ·refine AWP.skip (b5 (.q (.z (.j Z Z (.u Z Z (.nil (b5 ?_)))))))
    obtain⟨j67,hx68,h⟩:=bind_some h
    refine AWP.seqJ (⟨[(0,.c (.ifc 189 [.ptr 0 0 0] false)),(1,.c (int i01)),(2,.c (int nv)),(7,.c (int iv62)),(9,.c (int j67))],[.one (.cells 3 [[.own 1 0 c60.length,.map 2,int time]]),.one (prow 3 c60),.one (pmap 3 vU l5),pool 4 b8 c61]⟩) ?_ ?_
    ·refine AWP.q (.z (.j Z Z (S.add Z Z Z (.u Z Z (.nil (b5 ?_))))))
     obtain⟨t69,hx70,hx68⟩:=bind_some hx68
     refine AWP.seqJ (⟨[(0,.c (.ifc 189 [.ptr 0 0 0] false)),(1,.c (int i01)),(2,.c (int nv)),(7,.c (int iv62)),(9,.c (int (w64 ((w64 (2 * iv62))+1)))),(10,.c (int (w64 ((w64 ((w64 (2 * iv62))+1))+1)))),(33,.c (bool t69))],[.one (.cells 3 [[.own 1 0 c60.length,.map 2,int time]]),.one (prow 3 c60),.one (pmap 3 vU l5),pool 4 b8 c61]⟩) ?_ ?_
     ·rcases bft (decide (w64 ((w64 ((w64 (2 * iv62))+1))+1)<nv)) with hb71|hb71
      ·replace hx70:=J5 hb71 hx70
       obtain⟨a32,ha32,hx70⟩:=bind_some hx70
       refine AWP.z (.j Z Z (.j Z Z (.J Z Z Z (.j Z Z (.B Z Z Z hb71 (.j Z Z (.B Z Z Z hb71 (.j Z Z (.B Z Z Z hb71 (.j Z Z (.B Z Z Z hb71 (S.invokeV (r2:=.c (bool a32)) (σ'':=[.one (.cells 3 [[.own 1 0 c60.length,.map 2,int time]]),.one (prow 3 c60),.one (pmap 3 vU l5),pool 4 b8 c61]) Z Z Z Z Z Z Z (FnOk.lend [1,3] (B7 ha32) Z Z Z Z Z Z (by exact⟨(.one (i7 Z)),(.any n9),Y⟩) Z (by exact⟨(.live Z (.one (f9 fun _=>Z))),(.live Z RenE.pool),Y⟩) Z Z (by exact⟨(.old Z Z Z),(.new 0 Z Z (.one (f9 fun _=>Z))),(.old Z Z Z),(.new 1 Z Z RenE.pool),Y⟩)) (.aa Z hb71 Z Z (.nil ?_))))))))))))))
       obtain rfl:=oi hx70
       refine b5 (Sub.env ⟨Z,Z,Z,Z,Z,Z,Z,Y⟩)
      ·replace hx70:=J9 hb71 hx70
       refine AWP.z (.j Z Z (.j Z Z (.J Z Z Z (.j Z Z (.E Z Z Z hb71 (.E Z Z Z hb71 (.E Z Z Z hb71 (.E Z Z Z hb71 (.ab Z hb71 Z Z (.nil ?_))))))))))
       obtain rfl:=oi hx70
       refine b5 (Sub.env ⟨Z,Z,Z,Z,Z,Z,Z,Y⟩)
     ·refine AWP.ag Z hx68 (fun hc72 hx68=> ?_) (fun hc72 hx68=> ?_)
      ·refine AWP.z (.j Z Z (.u Z Z (.nil ?_)))
       obtain rfl:=oi hx68
       refine b5 (Sub.env ⟨Z,Z,Z,Z,Z,Y⟩)
      ·refine AWP.skip ?_
       obtain rfl:=oi hx68
       refine b5 (Sub.env ⟨Z,Z,Z,Z,Z,Y⟩)
    ·refine AWP.q (.q ?_)
     obtain⟨a38,ha38,h⟩:=bind_some h
     refine AWP.z (.j Z Z (.j Z Z (.j Z Z (S.invokeV (r2:=.c (bool a38)) (σ'':=[.one (.cells 3 [[.own 1 0 c60.length,.map 2,int time]]),.one (prow 3 c60),.one (pmap 3 vU l5),pool 4 b8 c61]) Z Z Z Z Z Z Z (FnOk.lend [1,3] (B7 ha38) Z Z Z Z Z Z (by exact⟨(.one (i7 Z)),(.any n9),Y⟩) Z (by exact⟨(.live Z (.one (f9 fun _=>Z))),(.live Z RenE.pool),Y⟩) Z Z (by exact⟨(.old Z Z Z),(.new 0 Z Z (.one (f9 fun _=>Z))),(.old Z Z Z),(.new 1 Z Z RenE.pool),Y⟩)) (.not Z Z (.nil (b5 (.ag Z h (fun hc73 h=> ?_) (fun hc73 h=> ?_)))))))))
     ·refine AWP.exit (d8 (K1 Z ?_))
      obtain rfl:=oi h
      refine d8 ⟨_,Z,Z,?_⟩
      exact Sub.env ⟨Z,Z,Y⟩
     ·refine AWP.skip (b5 (.q ?_))
      obtain⟨a43,ha43,u74,hu74,h⟩:=b2 h
      refine AWP.z (.j Z Z (.j Z Z (.j Z Z (S.invokeV (r2:=.tup []) (σ'':=[.one (.cells 3 [[.own 1 0 c60.length,.map 2,int time]]),.one (prow 3 a43.1),.one (pmap 3 vU l5),pool 4 b8 a43.2]) Z Z Z Z Z Z Z (FnOk.lend [1,3] (Q6 ha43) Z Z Z Z Z Z (by exact⟨(.one (i7 Z)),(.any n9),Y⟩) Z (by exact⟨(.live Z (.one (f9 fun _=>Z))),(.live Z RenE.pool),Y⟩) Z Z (by exact⟨(.old Z Z Z),(.new 0 Z Z (.one (f9 fun _=>Z))),(.old Z Z Z),(.new 1 Z Z RenE.pool),Y⟩)) (.nil (b5 (.z (.j Z Z (.u Z Z (.nil (d6 ?_)))))))))))
      obtain rfl:=oi h
      refine b5 ⟨_,Z,?_⟩
      exact Sub.cut ⟨Z,Z,Z,Z,Y⟩ Z ⟨(.eq Z (by first|rfl|rw[(an1 hu74)]|(simp only[lS];done))),(.one (i7 Z)),(.one (k9 Z)),(.any n9),Y⟩ Z
 ·intro e s hq
  obtain⟨rfl,hs⟩:=hq
  refine⟨_,hs,?_⟩
  refine g8 (b5 (.q (.z (.j Z Z (.j Z Z (.gtr Z Z Z (.u Z Z (.nil (b5 (.ret ?_))))))))))
  obtain rfl:=oi h
  exact⟨⟨[(6,.c (bool (decide (i01<iv65))))],[.one (.cells 3 [[.own 1 0 c63.length,.map 2,int time]]),.one (prow 3 c63),.one (pmap 3 vU l5),pool 4 b8 c64]⟩,Sub.env ⟨Z,Y⟩,Done.ret Z ⟨Z,Z⟩⟩
theorem ad3{j:Int}{time:Int}{l:Li}{l4:List (Int×Int)}{l5:List b9}{r:Li×(List b9)}(h:F1 j time l l4 l5=some r):FnOk prog 139 [.c (.ifc 189 [.ptr 0 0 0] false),.c (int j)] (ad1 j time l l4 l5) (fun tt ss=>tt=.tup []∧ss=[.one (.cells 3 [[.own 1 0 r.1.length,.map 2,int time]]),.one (prow 3 r.1),.one (pmap 3 vU l4),pool 4 b8 r.2]):=by
 refine FnOk.enter (rs:=[]) func139 Z ntmps139 results139 Z trivial (by kernel_rfl) Z ?_
 refine AWP.weak ?_
 unfold F1 at h
 refine AWP.O ?_
 obtain⟨⟨c61,c62⟩,ho1,h⟩:=bind_some h
 try dsimp only at h
 refine AWP.loopS ho1 (fun(c58,c59,j60)=>⟨[(0,.c (.ifc 189 [.ptr 0 0 0] false)),(1,.c (int j60))],[.one (.cells 3 [[.own 1 0 c58.length,.map 2,int time]]),.one (prow 3 c58),.one (pmap 3 vU l4),pool 4 b8 c59]⟩) (fun(c61,c62) e st=>e=.exit 0∧Sub (ad1 j time l l4 l5) st ⟨[],[.one (.cells 3 [[.own 1 0 c61.length,.map 2,int time]]),.one (prow 3 c61),.one (pmap 3 vU l4),pool 4 b8 c62]⟩) ?_ ?_ ?_
 ·try dsimp only
  exact Sub.env ⟨Z,Z,Y⟩
 ·intro s o h
  obtain⟨c58,c59,j60⟩:=s
  unfold K3 at h
  try dsimp only at h ⊢
  refine AWP.O (.q ?_)
  obtain⟨u7,hu7,h⟩:=bind_some h
  refine AWP.z (.j Z Z (S.sub Z Z Z (S.quo hu7 Z Z Z (.u Z Z (.nil (b5 (.q ?_)))))))
  obtain⟨t63,hx64,h⟩:=bind_some h
  refine AWP.seqJ (⟨[(0,.c (.ifc 189 [.ptr 0 0 0] false)),(1,.c (int j60)),(4,.c (int (w64 ((w64 (j60 - 1)).tdiv 2)))),(17,.c (bool t63))],[.one (.cells 3 [[.own 1 0 c58.length,.map 2,int time]]),.one (prow 3 c58),.one (pmap 3 vU l4),pool 4 b8 c59]⟩) ?_ ?_
  ·rcases bft (decide (w64 ((w64 (j60 - 1)).tdiv 2)=j60)) with hb65|hb65
   ·replace hx64:=J5 hb65 hx64
    refine AWP.z (.j Z Z (.j Z Z (.eql Z Z Z (.j Z Z (.E Z Z Z hb65 (.E Z Z Z hb65 (.E Z Z Z hb65 (.E Z Z Z hb65 (.E Z Z Z hb65 (.aa Z hb65 Z Z (.nil ?_)))))))))))
    obtain rfl:=oi hx64
    refine b5 (Sub.env ⟨Z,Z,Z,Z,Y⟩)
   ·replace hx64:=J9 hb65 hx64
    obtain⟨a15,ha15,hx64⟩:=bind_some hx64
    refine AWP.z (.j Z Z (.j Z Z (.eql Z Z Z (.j Z Z (.B Z Z Z hb65 (.j Z Z (.B Z Z Z hb65 (.j Z Z (.B Z Z Z hb65 (.j Z Z (.B Z Z Z hb65 (S.invokeV (r2:=.c (bool a15)) (σ'':=[.one (.cells 3 [[.own 1 0 c58.length,.map 2,int time]]),.one (prow 3 c58),.one (pmap 3 vU l4),pool 4 b8 c59]) Z Z Z Z Z Z Z (FnOk.lend [1,3] (B7 ha15) Z Z Z Z Z Z (by exact⟨(.one (i7 Z)),(.any n9),Y⟩) Z (by exact⟨(.live Z (.one (f9 fun _=>Z))),(.live Z RenE.pool),Y⟩) Z Z (by exact⟨(.old Z Z Z),(.new 0 Z Z (.one (f9 fun _=>Z))),(.old Z Z Z),(.new 1 Z Z RenE.pool),Y⟩)) (.B Z Z Z hb65 (.not Z Z (.ab Z hb65 Z Z (.nil ?_))))))))))))))))
    obtain rfl:=oi hx64
    refine b5 (Sub.env ⟨Z,Z,Z,Z,Y⟩)
  ·refine AWP.ag Z h (fun hc66 h=> ?_) (fun hc66 h=> ?_)
   ·refine AWP.exit (d8 (K1 Z ?_))
    obtain rfl:=oi h
    refine d8 ⟨_,Z,Z,?_⟩
    exact Sub.env trivial
   ·refine AWP.skip (b5 (.q ?_))
    obtain⟨a21,ha21,u67,hu67,h⟩:=b2 h
    refine AWP.z (.j Z Z (.j Z Z (.j Z Z (S.invokeV (r2:=.tup []) (σ'':=[.one (.cells 3 [[.own 1 0 c58.length,.map 2,int time]]),.one (prow 3 a21.1),.one (pmap 3 vU l4),pool 4 b8 a21.2]) Z Z Z Z Z Z Z (FnOk.lend [1,3] (Q6 ha21) Z Z Z Z Z Z (by exact⟨(.one (i7 Z)),(.any n9),Y⟩) Z (by exact⟨(.live Z (.one (f9 fun _=>Z))),(.live Z RenE.pool),Y⟩) Z Z (by exact⟨(.old Z Z Z),(.new 0 Z Z (.one (f9 fun _=>Z))),(.old Z Z Z),(.new 1 Z Z RenE.pool),Y⟩)) (.nil (b5 (.z (.j Z Z (.u Z Z (.nil (d6 ?_)))))))))))
    obtain rfl:=oi h
    refine b5 ⟨_,Z,?_⟩
    exact Sub.cut ⟨Z,Z,Y⟩ Z ⟨(.eq Z (by first|rfl|rw[(an1 hu67)]|(simp only[lS];done))),(.one (i7 Z)),(.one (k9 Z)),(.any n9),Y⟩ Z
 ·intro e s hq
  obtain⟨rfl,hs⟩:=hq
  refine⟨_,hs,?_⟩
  refine g8 ?_
  obtain rfl:=oi h
  exact⟨⟨[],[.one (.cells 3 [[.own 1 0 c61.length,.map 2,int time]]),.one (prow 3 c61),.one (pmap 3 vU l4),pool 4 b8 c62]⟩,Sub.env trivial,Done.normal Z ⟨Z,Z⟩⟩
theorem ac3{iv:Int}{time:Int}{l:Li}{l4:List (Int×Int)}{l5:List b9}{r:Li×(List b9)}(h:D9 iv time l l4 l5=some r):FnOk prog 104 [.c (.ifc 189 [.ptr 0 0 0] false),.c (int iv)] (aq8 iv time l l4 l5) (fun tt ss=>tt=.tup []∧ss=[.one (.cells 3 [[.own 1 0 r.1.length,.map 2,int time]]),.one (prow 3 r.1),.one (pmap 3 vU l4),pool 4 b8 r.2]):=by
 refine FnOk.enter (rs:=[]) func104 Z ntmps104 results104 Z trivial (by kernel_rfl) Z ?_
 refine AWP.weak ?_
 unfold D9 at h
 refine AWP.q ?_
 obtain⟨a7,ha7,a8,ha8,h⟩:=b2 h
 refine AWP.z (.j Z Z (.j Z Z (.j Z Z (S.invokeV (r2:=.c (int (l.length:Int))) (σ'':=[.one (.cells 3 [[.own 1 0 l.length,.map 2,int time]]),.one (prow 3 l),.one (pmap 3 vU l4),pool 4 b8 l5]) Z Z Z Z Z Z Z (FnOk.lend [1,3] (H0 ha7) Z Z Z Z Z Z (by exact⟨(.one (i7 Z)),(.any n9),Y⟩) Z (by exact⟨(.live Z (.one (f9 fun _=>Z))),(.live Z RenE.pool),Y⟩) Z Z (by exact⟨(.old Z Z Z),(.new 0 Z Z (.one (f9 fun _=>Z))),(.old Z Z Z),(.new 1 Z Z RenE.pool),Y⟩)) (.callF (r2:=.c (bool a8.2.2)) (σ'':=[.one (.cells 3 [[.own 1 0 a8.1.length,.map 2,int time]]),.one (prow 3 a8.1),.one (pmap 3 vU l4),pool 4 b8 a8.2.1]) Z Z Z (FnOk.lend [0,1,2,3] (ap8 ha8) Z Z Z Z Z Z (by exact⟨(.one Z),(.one (i7 Z)),(.one (k9 Z)),(.any n9),Y⟩) Z (by exact⟨(.live Z (.one Z)),(.live Z (.one (f9 fun _=>Z))),(.live Z (.one (m9 fun _=>Z))),(.live Z RenE.pool),Y⟩) Z Z (by exact⟨(.new 0 Z Z (.one Z)),(.new 1 Z Z (.one (f9 fun _=>Z))),(.new 2 Z Z (.one (m9 fun _=>Z))),(.new 3 Z Z RenE.pool),Y⟩)) (.not Z Z (.nil (b5 (.ag Z h (fun hc58 h=> ?_) (fun hc58 h=> ?_))))))))))
 ·obtain⟨a12,ha12,h⟩:=bind_some h
  refine AWP.z (.j Z Z (.j Z Z (.callF (r2:=.tup []) (σ'':=[.one (.cells 3 [[.own 1 0 a12.1.length,.map 2,int time]]),.one (prow 3 a12.1),.one (pmap 3 vU l4),pool 4 b8 a12.2]) Z Z Z (FnOk.lend [0,1,2,3] (ad3 ha12) Z Z Z Z Z Z (by exact⟨(.one Z),(.one (i7 Z)),(.one (k9 Z)),(.any n9),Y⟩) Z (by exact⟨(.live Z (.one Z)),(.live Z (.one (f9 fun _=>Z))),(.live Z (.one (m9 fun _=>Z))),(.live Z RenE.pool),Y⟩) Z Z (by exact⟨(.new 0 Z Z (.one Z)),(.new 1 Z Z (.one (f9 fun _=>Z))),(.new 2 Z Z (.one (m9 fun _=>Z))),(.new 3 Z Z RenE.pool),Y⟩)) (.nil ?_))))
  obtain rfl:=oi h
  exact⟨⟨[],[.one (.cells 3 [[.own 1 0 a12.1.length,.map 2,int time]]),.one (prow 3 a12.1),.one (pmap 3 vU l4),pool 4 b8 a12.2]⟩,Sub.env trivial,Done.normal Z ⟨Z,Z⟩⟩
 ·refine AWP.skip ?_
  obtain rfl:=oi h
  exact⟨⟨[],[.one (.cells 3 [[.own 1 0 a8.1.length,.map 2,int time]]),.one (prow 3 a8.1),.one (pmap 3 vU l4),pool 4 b8 a8.2.1]⟩,Sub.env trivial,Done.normal Z ⟨Z,Z⟩⟩
theorem af4{xv:Int}{time:Int}{l:List b9}{l4:Li}{l5:List (Int×Int)}{r:(List b9)×Li}(h:C7 xv time l l4 l5=some r):FnOk prog 207 [.c (.ptr 0 0 0),.c (.ifc 184 [.ptr (1,[xv.toNat]) 0 0] false)] (af1 xv time l l4 l5) (fun tt ss=>tt=.tup []∧ss=[.one (.cells 3 [[.own 6 0 r.2.length,.map 3,int time]]),pool 4 b8 r.1,.dead,.one (pmap 1 vU l5),.dead,.dead,.one (prow 1 r.2)]):=by
 refine FnOk.enter (rs:=[]) func207 Z ntmps207 results207 Z trivial (by kernel_rfl) Z ?_
 refine AWP.weak ?_
 unfold C7 at h
 refine AWP.j (env':=[(0,.c (.ptr 0 0 0)),(1,.c (.ifc 184 [.ptr (1,[xv.toNat]) 0 0] false))]) (σ':=[.one (.cells 3 [[.own 4 0 l4.length,.map 3,int time]]),pool 4 b8 l,.dead,.one (pmap 1 vU l5),.one (prow 1 l4)]) 4 2 Z Z Z ⟨Z,Z,Y⟩ Z ⟨⟨Z,Z⟩,(x9.pool Z),trivial,⟨k9 Z,B1 Z O9⟩,⟨i7 Z,B1 Z O8⟩,Y⟩ (.q (.z (.j Z Z (S.assert Z Z Z (.u Z Z (.nil (b5 (.q ?_))))))))
 obtain⟨en58,hen58,h⟩:=bind_some h
 refine AWP.z (.j Z Z (.j Z Z (.ai Z Z Z (.F Z Z Z Z Z Z (.lenOwnB Z Z Z (fun hl11=>S.nilCheckE Z Z (by simpa only[lS] using f8 hen58) Z (S.fieldE Z Z Z (by simpa only[lS] using f8 hen58) Z (S.storeE (e':=(⟨en58.item,en58.key,en58.time,(l4.length:Int)⟩:b9)) hen58 Z Z Z Z Z Z (.nil (b5 ?_))))))))))
 obtain⟨a20,ha20,h⟩:=bind_some h
 refine AWP.z (.j Z Z (.j Z Z (.ai Z Z Z (.F Z Z Z Z Z Z (.j Z Z (W.lit1 Z Z Z Z Z Z Z Z Z (S.appendP ha20 Z Z Z Z Z Z Z Z Z Z Z Z (.ai Z Z Z (W.store Z Z Z Z Z (.nil ?_))))))))))
 obtain rfl:=oi h
 exact⟨⟨[],[.one (.cells 3 [[.own 6 0 a20.length,.map 3,int time]]),pool 4 b8 (l.set xv.toNat (⟨en58.item,en58.key,en58.time,(l4.length:Int)⟩:b9)),.dead,.one (pmap 1 vU l5),.dead,.dead,.one (prow 1 a20)]⟩,Sub.cut trivial Z ⟨.one Z,(.any n9),.dead,(.one (k9 Z)),.dead,.dead,(.one (i7 Z)),Y⟩ Z,Done.normal Z ⟨Z,Z⟩⟩
theorem ab1{xv:Int}{time:Int}{l:List b9}{l4:Li}{l5:List (Int×Int)}{r:(List b9)×Li}(h:C3 xv time l l4 l5=some r):FnOk prog 105 [.c (.ifc 189 [.ptr 0 0 0] false),.c (.ifc 184 [.ptr (1,[xv.toNat]) 0 0] false)] (ao9 xv time l l4 l5) (fun tt ss=>tt=.tup []∧ss=[.one (.cells 3 [[.own 6 0 r.2.length,.map 3,int time]]),pool 4 b8 r.1,.dead,.one (pmap 1 vU l5),.dead,.dead,.one (prow 1 r.2)]):=by
 refine FnOk.enter (rs:=[]) func105 Z ntmps105 results105 Z trivial (by kernel_rfl) Z ?_
 refine AWP.weak ?_
 unfold C3 at h
 refine AWP.q ?_
 obtain⟨a6,ha6,h⟩:=bind_some h
 refine AWP.z (.j Z Z (.j Z Z (S.invokeP (r2:=.tup []) (σ'':=[.one (.cells 3 [[.own 6 0 a6.2.length,.map 3,int time]]),pool 4 b8 a6.1,.dead,.one (pmap 1 vU l5),.dead,.dead,.one (prow 1 a6.2)]) Z Z Z (FnOk.lend [0,1,2,3] (af4 ha6) Z Z Z Z Z Z (by exact⟨(.one Z),(.any n9),(.one (i7 Z)),(.one (k9 Z)),Y⟩) Z (by exact⟨(.live Z (.one Z)),(.live Z RenE.pool),(.live Z (.one (f9 fun _=>Z))),(.live Z (.one (m9 fun _=>Z))),Y⟩) Z Z (by exact⟨(.new 0 Z Z (.one Z)),(.new 1 Z Z RenE.pool),.dead,(.new 3 Z Z (.one (m9 fun _=>Z))),.dead,.dead,(.new 6 Z Z (.one (f9 fun _=>Z))),Y⟩)) (.nil (b5 ?_)))))
 obtain⟨a9,ha9,a11,ha11,h⟩:=b2 h
 refine AWP.z (.j Z Z (.j Z Z (S.invokeV (r2:=.c (int (a6.2.length:Int))) (σ'':=[.one (.cells 3 [[.own 6 0 a6.2.length,.map 3,int time]]),pool 4 b8 a6.1,.dead,.one (pmap 1 vU l5),.dead,.dead,.one (prow 1 a6.2)]) Z Z Z Z Z Z Z (FnOk.lend [6,1] (H0 ha9) Z Z Z Z Z Z (by exact⟨(.one (i7 Z)),(.any n9),Y⟩) Z (by exact⟨(.live Z (.one (f9 fun _=>Z))),(.live Z RenE.pool),Y⟩) Z Z (by exact⟨(.old Z Z Z),(.new 1 Z Z RenE.pool),.dead,(.old Z Z Z),.dead,.dead,(.new 0 Z Z (.one (f9 fun _=>Z))),Y⟩)) (S.sub Z Z Z (.callF (r2:=.tup []) (σ'':=[.one (.cells 3 [[.own 6 0 a11.1.length,.map 3,int time]]),pool 4 b8 a11.2,.dead,.one (pmap 1 vU l5),.dead,.dead,.one (prow 1 a11.1)]) Z Z Z (FnOk.lend [0,6,3,1] (ad3 ha11) Z Z Z Z Z Z (by exact⟨(.one Z),(.one (i7 Z)),(.one (k9 Z)),(.any n9),Y⟩) Z (by exact⟨(.live Z (.one Z)),(.live Z (.one (f9 fun _=>Z))),(.live Z (.one (m9 fun _=>Z))),(.live Z RenE.pool),Y⟩) Z Z (by exact⟨(.new 0 Z Z (.one Z)),(.new 3 Z Z RenE.pool),.dead,(.new 2 Z Z (.one (m9 fun _=>Z))),.dead,.dead,(.new 1 Z Z (.one (f9 fun _=>Z))),Y⟩)) (.nil ?_))))))
 obtain rfl:=oi h
 exact⟨⟨[],[.one (.cells 3 [[.own 6 0 a11.1.length,.map 3,int time]]),pool 4 b8 a11.2,.dead,.one (pmap 1 vU l5),.dead,.dead,.one (prow 1 a11.1)]⟩,Sub.env trivial,Done.normal Z ⟨Z,Z⟩⟩
theorem ag3{item:Int}{key:Int}{time:Int}{l:Li}{l5:List (Int×Int)}{l6:List b9}{r:(List (Int×Int))×Li×(List b9)}(h:v6 item key time l l5 l6=some r):FnOk prog 66 [.c (.ptr 0 0 0),.c (.imm (.val (.int .u32 item))),.c (int key)] (ag5 item key time l l5 l6) (fun tt ss=>tt=.tup []∧ss=[.one (.cells 3 [[.own 4 0 r.2.1.length,.map 2,int (w64 (time+1))]]),.dead,.one (pmap 5 vU r.1),.dead,.one (prow 5 r.2.1),pool 4 b8 r.2.2]):=by
 refine FnOk.enter (rs:=[]) func66 Z ntmps66 results66 Z trivial (by kernel_rfl) Z ?_
 refine AWP.weak ?_
 unfold v6 at h
 refine AWP.j (env':=[(0,.c (.ptr 0 0 0)),(1,.c (.imm (.val (.int .u32 item)))),(2,.c (int key))]) (σ':=[.one (.cells 3 [[.own 4 0 l.length,.map 2,int time]]),.dead,.one (pmap 3 vU l5),pool 4 b8 l6,.one (prow 3 l)]) 4 1 Z Z Z ⟨Z,Z,Z,Y⟩ Z ⟨⟨Z,Z⟩,trivial,⟨k9 Z,B1 Z O9⟩,(x9.pool Z),⟨i7 Z,B1 Z O8⟩,Y⟩ (.moveM (env':=[(0,.c (.ptr 0 0 0)),(1,.c (.imm (.val (.int .u32 item)))),(2,.c (int key))]) (σ':=[.one (.cells 3 [[.own 4 0 l.length,.map 2,int time]]),.dead,.one (pmap 5 vU l5),.dead,.one (prow 5 l),pool 4 b8 l6]) 5 3 Z Z Z ⟨Z,Z,Z,Y⟩ Z ⟨(.one Z Z),.dead,(.one (k9 Z) (H9 Z Z (m9 fun _=>Z))),.dead,(.one (i7 Z) (H9 Z Z (f9 fun _=>Z))),(EntR.pool Z Z),Y⟩ ?_)
 refine AWP.q (.z (.j Z Z (.ai Z Z Z (W.fieldAddr Z Z Z Z (.F Z Z Z Z Z Z (S.add Z Z Z (.ai Z Z Z (W.fieldAddr Z Z Z Z (W.store Z Z Z Z Z (.nil (b5 (.q (.q (.z (.j Z Z (.ai Z Z Z (W.fieldAddr Z Z Z Z (.F Z Z Z Z Z Z (.j Z Z (S.lookupOkP (fk:=vU) (k:=item) I9 Z Z Z Z Z (.j Z Z (.ac Z Z Z (.ac Z Z Z (.u Z Z (.u Z Z (.nil (b5 (.q (.z (.j Z Z (.nil (b5 (.ag Z h (fun hc60 h=> ?_) (fun hc60 h=> ?_))))))))))))))))))))))))))))))))))
 ·obtain⟨ap61,hap61,h⟩:=bind_some h
  refine AWP.sub (s':=⟨[(0,.c (.ptr 0 0 0)),(1,.c (.imm (.val (.int .u32 item)))),(2,.c (int key)),(6,.c (.ptr (5,[ap61.toNat]) 0 0)),(7,.c (bool (Option.isSome (mget l5 item)))),(9,.c (.ptr 0 0 0)),(10,.c (.ptr 0 0 0)),(11,.c (.ptr 0 0 2)),(12,.c (int time)),(13,.c (int (w64 (time+1)))),(14,.c (.ptr 0 0 0)),(15,.c (.ptr 0 0 2)),(17,.c (.ptr 0 0 0)),(18,.c (.ptr 0 0 0)),(19,.c (.ptr 0 0 1)),(20,.c (.map 2)),(21,.c (.imm (.val (.int .u32 item)))),(23,.c (.ptr (5,[ap61.toNat]) 0 0)),(24,.c (bool (Option.isSome (mget l5 item)))),(25,.c (bool (Option.isSome (mget l5 item))))],[.one (.cells 3 [[.own 4 0 l.length,.map 2,int (w64 (time+1))]]),.dead,.one (pmap 5 vU l5),.dead,.one (prow 5 l),pool 4 b8 l6]⟩) (Sub.env ⟨Z,Z,Z,(ar9 hap61),Z,Z,Z,Z,Z,Z,Z,Z,Z,Z,Z,Z,Z,(ar9 hap61),Z,Z,Y⟩) (.q ?_)
  obtain⟨en62,hen62,h⟩:=bind_some h
  refine AWP.z (.j Z Z (.j Z Z (.j Z Z (.j Z Z (.ai Z Z Z (W.fieldAddr Z Z Z Z (.F Z Z Z Z Z Z (S.nilCheckE Z Z (by simpa only[lS] using f8 hen62) Z (S.fieldE Z Z Z (by simpa only[lS] using f8 hen62) Z (S.storeE (e':=(⟨en62.item,key,en62.time,en62.fat⟩:b9)) hen62 Z Z Z Z Z Z (S.nilCheckE Z Z (by simpa only[lS] using f8 hen62) Z (S.fieldE Z Z Z (by simpa only[lS] using f8 hen62) Z (S.storeE (e':=(⟨en62.item,key,w64 (time+1),en62.fat⟩:b9)) (ad5 hen62) Z Z Z Z Z Z (.nil (b5 (.q ?_))))))))))))))))
  obtain⟨a45,ha45,h⟩:=bind_some h
  refine AWP.drawEI [8] mixed Z Z Z ?_
  refine e6.consN Z Z (fun E=>AOps.j Z Z .N) Z (.consN Z Z (fun E=>AOps.ai Z Z Z .N) Z (.consN Z Z (fun E=>W.fieldAddr Z Z Z Z .N) Z (.consN Z Z (fun E=>S.mkIfc Z Z Z .N) Z (.consN Z Z (fun E=>AOps.j Z Z .N) Z (.consN Z Z (fun E=>S.nilCheckE Z Z (by simpa only[lS] using f8 hen62) Z .N) Z (.consN Z Z (fun E=>S.fieldE Z Z Z (by simpa only[lS] using f8 hen62) Z .N) Z (.consN Z Z (fun E=>AOps.F Z Z (s8 Z (ad5 (ad5 hen62))) Z Z Z .N) Z ?_)))))))
  apply e6.consE;exact Z;exact Z;intro E
  refine AOps.callF (r2:=.tup []) (σ'':=[.one (.cells 3 [[.own 4 0 a45.1.length,.map 2,int (w64 (time+1))]]),.dead,.one (pmap 5 vU l5),.dead,.one (prow 5 a45.1),pool 4 b8 a45.2]) Z Z Z (FnOk.lend [0,4,2,5] (ac3 ha45) Z Z Z Z Z Z (by exact⟨(.one Z),(.one (i7 Z)),(.one (k9 Z)),(.any n9),Y⟩) Z (by exact⟨(.live Z (.one Z)),(.live Z (.one (f9 fun _=>Z))),(.live Z (.one (m9 fun _=>Z))),(.live Z RenE.pool),Y⟩) Z Z (by exact⟨(.new 0 Z Z (.one Z)),.dead,(.new 2 Z Z (.one (m9 fun _=>Z))),.dead,(.new 1 Z Z (.one (f9 fun _=>Z))),(.new 3 Z Z RenE.pool),Y⟩)) .N
  exact Z
  exact Z
  refine e6.done Z ?_ ?_
  ·refine d5.cons Z Z (b7.go Z Z (fun E=>AOps.j Z Z .N) (b7.skip Z (b7.nil))) (d5.cons Z Z (b7.go Z Z (fun E=>AOps.ai Z Z Z .N) (b7.skip Z (b7.nil))) (d5.cons Z Z (b7.go Z Z (fun E=>W.fieldAddr Z Z Z Z .N) (b7.skip Z (b7.nil))) (d5.cons Z Z (b7.go Z Z (fun E=>S.mkIfc Z Z Z .N) (b7.skip Z (b7.nil))) (d5.cons Z Z (b7.go Z Z (fun E=>AOps.j Z Z .N) (b7.skip Z (b7.nil))) (d5.cons Z Z (b7.go Z Z (fun E=>S.nilCheckE Z Z (by simpa only[lS] using f8 hen62) Z .N) (b7.skip Z (b7.nil))) (d5.cons Z Z (b7.go Z Z (fun E=>S.fieldE Z Z Z (by simpa only[lS] using f8 hen62) Z .N) (b7.skip Z (b7.nil))) (d5.cons Z Z (b7.go Z Z (fun E=>AOps.F Z Z (s8 Z (ad5 (ad5 hen62))) Z Z Z .N) (b7.skip Z (b7.nil))) ?_)))))))
   refine d5.skip Z (d5.nil)
  dsimp only[l7]
  refine b5 (.ret (e7 ?_))
  obtain rfl:=oi h
  exact⟨⟨[],[.one (.cells 3 [[.own 4 0 a45.1.length,.map 2,int (w64 (time+1))]]),.dead,.one (pmap 5 vU l5),.dead,.one (prow 5 a45.1),pool 4 b8 a45.2]⟩,Sub.env trivial,Done.ret Z ⟨Z,Z⟩⟩
 ·refine AWP.skip (b5 (.q ?_))
  obtain⟨u63,hu63,u64,hu64,h⟩:=b2 h
  refine AWP.z (.j Z Z (.j Z Z (.j Z Z (.ai Z Z Z (W.fieldAddr Z Z Z Z (.F Z Z Z Z Z Z (W.build Z Z Z Z (W.box Z Z Z Z Z Z (.sub (Sub.move (env':=[(0,.c (.ptr 0 0 0)),(1,.c (.imm (.val (.int .u32 item)))),(2,.c (int key)),(7,.c (bool (Option.isSome (mget l5 item)))),(9,.c (.ptr 0 0 0)),(10,.c (.ptr 0 0 0)),(11,.c (.ptr 0 0 2)),(12,.c (int time)),(13,.c (int (w64 (time+1)))),(14,.c (.ptr 0 0 0)),(15,.c (.ptr 0 0 2)),(17,.c (.ptr 0 0 0)),(18,.c (.ptr 0 0 0)),(19,.c (.ptr 0 0 1)),(20,.c (.map 2)),(21,.c (.imm (.val (.int .u32 item)))),(24,.c (bool (Option.isSome (mget l5 item)))),(25,.c (bool (Option.isSome (mget l5 item)))),(46,.c (.imm (.val (.int .u32 item)))),(47,.c (int key)),(48,.c (.ptr 0 0 0)),(49,.c (.ptr 0 0 0)),(50,.c (.ptr 0 0 2)),(51,.c (int (w64 (time+1)))),(52,.agg [.imm (.val (.int .u32 item)),int key,int (w64 (time+1)),int 0]),(53,.c (.ptr (5,[(l6.length:Int).toNat]) 0 0))]) (σ':=[.one (.cells 3 [[.own 4 0 l.length,.map 2,int (w64 (time+1))]]),.dead,.one (pmap 5 vU l5),.dead,.one (prow 5 l),pool 4 b8 (l6++[(⟨item,key,w64 (time+1),0⟩:b9)])]) (5,[l6.length]) (6,[]) Z Z Z ⟨Z,Z,Z,Z,Z,Z,Z,Z,Z,Z,Z,Z,Z,Z,Z,Z,Z,Z,Z,Z,Z,Z,Z,Z,Z,ptr_adopt,Y⟩ Z ⟨⟨Z,Z⟩,trivial,⟨k9 Z,af6 Z (pmap_adopt hu63) ai8⟩,trivial,⟨i7 Z,af6 Z (prow_adopt hu64) ai8⟩,(x9.adopt Z Z),Y⟩) (.u Z Z (.nil (b5 (.q (.z (.j Z Z (.ai Z Z Z (W.fieldAddr Z Z Z Z (.F Z Z Z Z Z Z (.j Z Z (.j Z Z (S.mapUpdateP (fk:=vU) (k:=item) (a:=(l6.length:Int)) I9 Z Z Z Z Z (.nil (b5 ?_)))))))))))))))))))))))
  obtain⟨a66,ha66,h⟩:=bind_some h
  refine AWP.z (.j Z Z (.ai Z Z Z (W.fieldAddr Z Z Z Z (S.mkIfc Z Z Z (.j Z Z (S.mkIfc Z Z Z (.callF (r2:=.tup []) (σ'':=[.one (.cells 3 [[.own 8 0 a66.2.length,.map 2,int (w64 (time+1))]]),.dead,.one (pmap 5 vU (mset l5 item (l6.length:Int))),.dead,.dead,pool 4 b8 a66.1,.dead,.dead,.one (prow 5 a66.2)]) Z Z Z (FnOk.lend [0,5,4,2] (ab1 ha66) Z Z Z Z Z Z (by exact⟨(.one Z),(.any n9),(.one (i7 Z)),(.one (k9 Z)),Y⟩) Z (by exact⟨(.live Z (.one Z)),(.live Z RenE.pool),(.live Z (.one (f9 fun _=>Z))),(.live Z (.one (m9 fun _=>Z))),Y⟩) Z Z (by exact⟨(.new 0 Z Z (.one Z)),.dead,(.new 3 Z Z (.one (m9 fun _=>Z))),.dead,.dead,(.new 1 Z Z RenE.pool),.dead,.dead,(.new 6 Z Z (.one (f9 fun _=>Z))),Y⟩)) (.nil ?_))))))))
  obtain rfl:=oi h
  exact⟨⟨[],[.one (.cells 3 [[.own 4 0 a66.2.length,.map 2,int (w64 (time+1))]]),.dead,.one (pmap 5 vU (mset l5 item (l6.length:Int))),.dead,.one (prow 5 a66.2),pool 4 b8 a66.1]⟩,(Sub.move (env':=[]) (σ':=[.one (.cells 3 [[.own 4 0 a66.2.length,.map 2,int (w64 (time+1))]]),.dead,.one (pmap 5 vU (mset l5 item (l6.length:Int))),.dead,.one (prow 5 a66.2),pool 4 b8 a66.1,.dead,.dead]) 4 8 Z Z Z trivial Z ⟨⟨Z,Z⟩,trivial,⟨k9 Z,B1 Z O9⟩,trivial,⟨i7 Z,B1 Z O8⟩,(x9.pool Z),trivial,trivial,Y⟩).trans (Sub.cut trivial Z ⟨.one Z,.dead,(.one (k9 Z)),.dead,(.one (i7 Z)),(.any n9),Y⟩ Z),Done.normal Z ⟨Z,Z⟩⟩
theorem ah8{time:Int}{l:Li}{l3:List (Int×Int)}{l4:List b9}{r:Unit}(h:E7 time l l3 l4=some r):FnOk prog 68 [.c (.ptr 0 0 0)] (ai2 time l l3 l4) (fun tt ss=>tt=.c (int (l.length:Int))∧ss=[.one (.cells 3 [[.own 1 0 l.length,.map 2,int time]]),.one (prow 3 l),.one (pmap 3 vU l3),pool 4 b8 l4]):=by
 refine FnOk.enter (rs:=[.t 2]) func68 Z ntmps68 results68 Z ⟨trivial,Y⟩ (by kernel_rfl) Z ?_
 refine AWP.weak ?_
 unfold E7 at h
 refine AWP.q (.z (.u Z Z (.nil (b5 (.q (.z (.j Z Z (.ai Z Z Z (W.fieldAddr Z Z Z Z (.F Z Z Z Z Z Z (.lenOwnB Z Z Z (fun hl7=>.u Z Z (.nil (b5 (.ret ?_)))))))))))))))
 obtain rfl:=oi h
 exact⟨⟨[(2,.c (int (l.length:Int)))],[.one (.cells 3 [[.own 1 0 l.length,.map 2,int time]]),.one (prow 3 l),.one (pmap 3 vU l3),pool 4 b8 l4]⟩,Sub.env ⟨Z,Y⟩,Done.ret Z ⟨Z,Z⟩⟩
theorem P6{iv:Int}{kv:Int}{l:Li}{l4:List b9}{r:Li×(List b9)}(h:A0 iv kv l l4=some r):FnOk prog 205 [.c (.own 0 0 l.length),.c (int iv),.c (int kv)] (af2 iv kv l l4) (fun tt ss=>tt=.tup []∧ss=[.one (prow 1 r.1),pool 4 b8 r.2]):=by
 refine FnOk.enter (rs:=[]) func205 Z ntmps205 results205 Z trivial (by kernel_rfl) Z ?_
 refine AWP.weak ?_
 unfold A0 at h
 refine AWP.q ?_
 obtain⟨a12,ha12,a16,ha16,h⟩:=b2 h
 refine AWP.drawEI [13,15] mixed Z Z Z ?_
 refine e6.consN Z Z (fun E=>AOps.j Z Z .N) Z (.consN Z Z (fun E=>AOps.j Z Z .N) Z (.consN Z Z (fun E=>AOps.j Z Z .N) Z (.consN Z Z (fun E=>AOps.j Z Z .N) Z (.consN Z Z (fun E=>AOps.j Z Z .N) Z (.consN Z Z (fun E=>AOps.j Z Z .N) Z (.consN Z Z (fun E=>S.idxPb Z Z Z (by simpa only[lS] using s5 ha12) Z Z .N) Z (.consN Z Z (fun E=>S.loadP ha12 Z Z Z Z .N) Z (.consN Z Z (fun E=>AOps.j Z Z .N) Z (.consN Z Z (fun E=>AOps.j Z Z .N) Z (.consN Z Z (fun E=>S.idxPb Z Z Z (by simpa only[lS] using s5 ha16) Z Z .N) Z (.consN Z Z (fun E=>S.loadP ha16 Z Z Z Z .N) Z (.consN Z Z (fun E=>S.idxPb Z Z Z (by simpa only[lS] using s5 ha16) Z Z .N) Z ?_))))))))))))
 apply e6.consE (v:=.undef);exact Z;exact Z;intro E
 refine S.storeP (a:=a12) (by simpa only[lS] using f8 ha16) Z Z Z Z .N
 exact Z
 exact Z
 refine e6.consN Z Z (fun E=>S.idxPb Z Z (by simp only[lS]) (by simpa only[lS] using s5 ha12) Z Z .N) Z ?_
 apply e6.consE (v:=.undef);exact Z;exact Z;intro E
 refine S.storeP (a:=a16) (by simpa only[lS] using f8 ha12) Z Z Z Z .N
 exact Z
 exact Z
 refine e6.done Z ?_ ?_
 ·refine d5.cons Z Z (b7.go Z Z (fun E=>AOps.j Z Z .N) (b7.skip Z (b7.skip Z (b7.nil)))) (d5.cons Z Z (b7.go Z Z (fun E=>AOps.j Z Z .N) (b7.skip Z (b7.skip Z (b7.nil)))) (d5.cons Z Z (b7.go Z Z (fun E=>AOps.j Z Z .N) (b7.go Z Z (fun E=>AOps.j Z Z .N) (b7.skip Z (b7.nil)))) (d5.cons Z Z (b7.go Z Z (fun E=>AOps.j Z Z .N) (b7.go Z Z (fun E=>AOps.j Z Z .N) (b7.skip Z (b7.nil)))) (d5.cons Z Z (b7.go Z Z (fun E=>AOps.j Z Z .N) (b7.skip Z (b7.skip Z (b7.nil)))) (d5.cons Z Z (b7.go Z Z (fun E=>AOps.j Z Z .N) (b7.skip Z (b7.skip Z (b7.nil)))) (d5.cons Z Z (b7.go Z Z (fun E=>S.idxPb Z Z Z (by simpa only[lS] using s5 ha12) Z Z .N) (b7.skip Z (b7.skip Z (b7.nil)))) (d5.cons Z Z (b7.go Z Z (fun E=>S.loadP ha12 Z Z Z Z .N) (b7.skip Z (b7.skip Z (b7.nil)))) (d5.cons Z Z (b7.go Z Z (fun E=>AOps.j Z Z .N) (b7.skip Z (b7.skip Z (b7.nil)))) (d5.cons Z Z (b7.go Z Z (fun E=>AOps.j Z Z .N) (b7.skip Z (b7.skip Z (b7.nil)))) (d5.cons Z Z (b7.go Z Z (fun E=>S.idxPb Z Z Z (by simpa only[lS] using s5 ha16) Z Z .N) (b7.skip Z (b7.skip Z (b7.nil)))) (d5.cons Z Z (b7.go Z Z (fun E=>S.loadP ha16 Z Z Z Z .N) (b7.skip Z (b7.skip Z (b7.nil)))) ?_)))))))))))
  refine d5.cons Z Z (b7.go Z Z (fun E=>S.idxPb Z Z Z (by simpa only[lS] using s5 ha16) Z Z .N) (b7.skip Z (b7.skip Z (b7.nil)))) ?_
  refine d5.skip Z ?_
  refine d5.cons Z Z ?_ ?_
  refine b7.skip Z ?_
  refine b7.go Z Z (fun E=>S.idxPb Z Z (by simp only[lS]) (by simpa only[lS] using s5 ha12) Z Z .N) ?_
  refine b7.skip Z (b7.nil)
  refine d5.skip Z (d5.nil)
 dsimp only[l7]
 refine b5 ?_
 obtain⟨ha57,hha57,ha58,hha58,en59,hen59,h⟩:=b3 h
 obtain⟨en60,hen60,h⟩:=bind_some h
 refine AWP.drawEI [12,15] mixed Z Z Z ?_
 refine e6.consN Z Z (fun E=>AOps.j Z Z .N) Z (.consN Z Z (fun E=>AOps.j Z Z .N) Z (.consN Z Z (fun E=>S.idxPb Z Z (by simp only[lS]) (by simpa only[lS] using s5 ha16) Z Z .N) Z (.consN Z Z (fun E=>S.loadP hha57 Z Z Z Z .N) Z (.consN Z Z (fun E=>AOps.j Z Z .N) Z (.consN Z Z (fun E=>AOps.j Z Z .N) Z (.consN Z Z (fun E=>S.idxPb Z Z (by simp only[lS]) (by simpa only[lS] using s5 ha12) Z Z .N) Z (.consN Z Z (fun E=>S.loadP hha58 Z Z Z Z .N) Z (.consN Z Z (fun E=>AOps.j Z Z .N) Z (.consN Z Z (fun E=>AOps.j Z Z .N) Z (.consN Z Z (fun E=>S.nilCheckE Z Z (by simpa only[lS] using f8 hen59) Z .N) Z (.consN Z Z (fun E=>S.fieldE Z Z Z (by simpa only[lS] using f8 hen59) Z .N) Z ?_)))))))))))
 apply e6.consE (v:=.undef);exact Z;exact Z;intro E
 refine S.storeE (e':=(⟨en59.item,en59.key,en59.time,iv⟩:b9)) hen59 Z Z Z Z Z Z .N
 exact Z
 exact Z
 refine e6.consN Z Z (fun E=>S.nilCheckE Z Z (by simpa only[lS] using f8 hen60) Z .N) Z (.consN Z Z (fun E=>S.fieldE Z Z Z (by simpa only[lS] using f8 hen60) Z .N) Z ?_)
 apply e6.consE (v:=.undef);exact Z;exact Z;intro E
 refine S.storeE (e':=(⟨en60.item,en60.key,en60.time,kv⟩:b9)) hen60 Z Z Z Z Z Z .N
 exact Z
 exact Z
 refine e6.done Z ?_ ?_
 ·refine d5.cons Z Z (b7.go Z Z (fun E=>AOps.j Z Z .N) (b7.skip Z (b7.skip Z (b7.nil)))) (d5.cons Z Z (b7.go Z Z (fun E=>AOps.j Z Z .N) (b7.skip Z (b7.skip Z (b7.nil)))) (d5.cons Z Z (b7.go Z Z (fun E=>S.idxPb Z Z (by simp only[lS]) (by simpa only[lS] using s5 ha16) Z Z .N) (b7.skip Z (b7.skip Z (b7.nil)))) (d5.cons Z Z (b7.go Z Z (fun E=>S.loadP hha57 Z Z Z Z .N) (b7.skip Z (b7.skip Z (b7.nil)))) (d5.cons Z Z (b7.go Z Z (fun E=>AOps.j Z Z .N) (b7.skip Z (b7.skip Z (b7.nil)))) (d5.cons Z Z (b7.go Z Z (fun E=>AOps.j Z Z .N) (b7.skip Z (b7.skip Z (b7.nil)))) (d5.cons Z Z (b7.go Z Z (fun E=>S.idxPb Z Z (by simp only[lS]) (by simpa only[lS] using s5 ha12) Z Z .N) (b7.skip Z (b7.skip Z (b7.nil)))) (d5.cons Z Z (b7.go Z Z (fun E=>S.loadP hha58 Z Z Z Z .N) (b7.skip Z (b7.skip Z (b7.nil)))) (d5.cons Z Z (b7.go Z Z (fun E=>AOps.j Z Z .N) (b7.skip Z (b7.skip Z (b7.nil)))) (d5.cons Z Z (b7.go Z Z (fun E=>AOps.j Z Z .N) (b7.go Z Z (fun E=>AOps.j Z Z .N) (b7.skip Z (b7.nil)))) (d5.cons Z Z (b7.go Z Z (fun E=>S.nilCheckE Z Z (by simpa only[lS] using f8 hen59) Z .N) (b7.skip Z (b7.skip Z (b7.nil)))) (d5.cons Z Z (b7.go Z Z (fun E=>S.fieldE Z Z Z (by simpa only[lS] using f8 hen59) Z .N) (b7.skip Z (b7.skip Z (b7.nil)))) ?_)))))))))))
  refine d5.skip Z ?_
  refine d5.cons Z Z ?_ ?_
  refine b7.skip Z ?_
  refine b7.go Z Z (fun E=>S.nilCheckE Z Z (by simpa only[lS] using f8 hen60) Z .N) ?_
  refine b7.skip Z (b7.nil)
  refine d5.cons Z Z ?_ ?_
  refine b7.skip Z ?_
  refine b7.go Z Z (fun E=>S.fieldE Z Z Z (by simpa only[lS] using f8 hen60) Z .N) ?_
  refine b7.skip Z (b7.nil)
  refine d5.skip Z (d5.nil)
 dsimp only[l7]
 obtain rfl:=oi h
 exact⟨⟨[],[.one (prow 1 ((l.set iv.toNat a12).set kv.toNat a16)),pool 4 b8 ((l4.set ha57.toNat (⟨en59.item,en59.key,en59.time,iv⟩:b9)).set ha58.toNat (⟨en60.item,en60.key,en60.time,kv⟩:b9))]⟩,Sub.env trivial,Done.normal Z ⟨Z,Z⟩⟩
theorem ae3{iv:Int}{kv:Int}{l:Li}{l4:List b9}{r:Bool}(h:I5 iv kv l l4=some r):FnOk prog 204 [.c (.own 0 0 l.length),.c (int iv),.c (int kv)] (af0 iv kv l l4) (fun tt ss=>tt=.c (bool r)∧ss=[.one (prow 1 l),pool 4 b8 l4]):=by
 refine FnOk.enter (rs:=[.t 6]) func204 Z ntmps204 results204 Z ⟨trivial,Y⟩ (by kernel_rfl) Z ?_
 refine AWP.weak ?_
 unfold I5 at h
 refine AWP.q (.z (.u Z Z (.nil (b5 ?_))))
 obtain⟨a9,ha9,en56,hen56,a16,ha16,h⟩:=b3 h
 obtain⟨en57,hen57,h⟩:=bind_some h
 refine AWP.seqJ (⟨[(6,.c (bool ((decide (en56.key<en57.key))||((decide (en56.key=en57.key)) && (decide (en56.time<en57.time))))))],[.one (prow 1 l),pool 4 b8 l4]⟩) ?_ ?_
 ·rcases bft (decide (en56.key<en57.key)) with hb1|hb1
  ·refine AWP.drawI mixed Z ?_
   refine j6.consF Z (fun E=>AOps.j Z Z .N) Z (.consF Z (fun E=>AOps.j Z Z .N) Z (.consF Z (fun E=>S.idxPb Z Z Z (by simpa only[lS] using s5 ha9) Z Z .N) Z (.consF Z (fun E=>S.loadP ha9 Z Z Z Z .N) Z (.consF Z (fun E=>S.nilCheckE Z Z (by simpa only[lS] using f8 hen56) Z .N) Z (.consF Z (fun E=>S.fieldE Z Z Z (by simpa only[lS] using f8 hen56) Z .N) Z (.consF Z (fun E=>AOps.F Z Z (s8 Z hen56) Z Z Z .N) Z (.consF Z (fun E=>AOps.j Z Z .N) Z (.consF Z (fun E=>AOps.j Z Z .N) Z (.consF Z (fun E=>S.idxPb Z Z Z (by simpa only[lS] using s5 ha16) Z Z .N) Z (.consF Z (fun E=>S.loadP ha16 Z Z Z Z .N) Z (.consF Z (fun E=>S.nilCheckE Z Z (by simpa only[lS] using f8 hen57) Z .N) Z (.consF Z (fun E=>S.fieldE Z Z Z (by simpa only[lS] using f8 hen57) Z .N) Z (.consF Z (fun E=>AOps.F Z Z (s8 Z hen57) Z Z Z .N) Z (.consF Z (fun E=>AOps.J Z Z Z .N) Z (.consF Z (fun E=>AOps.j Z Z .N) Z (.consF Z (fun E=>AOps.E Z Z Z hb1 .N) Z (.consF Z (fun E=>AOps.E Z Z Z hb1 .N) Z (.consF Z (fun E=>AOps.E Z Z Z hb1 .N) Z (.consF Z (fun E=>AOps.E Z Z Z hb1 .N) Z (.consF Z (fun E=>AOps.E Z Z Z hb1 .N) Z (.consF Z (fun E=>AOps.E Z Z Z hb1 .N) Z (.consF Z (fun E=>AOps.E Z Z Z hb1 .N) Z (.consF Z (fun E=>AOps.E Z Z Z hb1 .N) Z (.consF Z (fun E=>AOps.E Z Z Z hb1 .N) Z (.consF Z (fun E=>AOps.E Z Z Z hb1 .N) Z (.consF Z (fun E=>AOps.E Z Z Z hb1 .N) Z (.consF Z (fun E=>AOps.E Z Z Z hb1 .N) Z (.consF Z (fun E=>AOps.E Z Z Z hb1 .N) Z (.consF Z (fun E=>AOps.E Z Z Z hb1 .N) Z (.consF Z (fun E=>AOps.E Z Z Z hb1 .N) Z (.consF Z (fun E=>AOps.E Z Z Z hb1 .N) Z (.consF Z (fun E=>AOps.ah Z Z Z .N) Z (.consF Z (fun E=>AOps.ah Z Z Z .N) Z (.consF Z (fun E=>AOps.ah Z Z Z .N) Z (.consF Z (fun E=>AOps.ah Z Z Z .N) Z (.consF Z (fun E=>AOps.ah Z Z Z .N) Z (.consF Z (fun E=>AOps.ah Z Z Z .N) Z (.consF Z (fun E=>AOps.ah Z Z Z .N) Z (.consF Z (fun E=>AOps.ah Z Z Z .N) Z (.consF Z (fun E=>AOps.ah Z Z Z .N) Z (.consF Z (fun E=>AOps.ah Z Z Z .N) Z (.consF Z (fun E=>AOps.ah Z Z Z .N) Z (.consF Z (fun E=>AOps.ah Z Z Z .N) Z (.consF Z (fun E=>AOps.ah Z Z Z .N) Z (.consF Z (fun E=>AOps.ah Z Z Z .N) Z (.consF Z (fun E=>AOps.ah Z Z Z .N) Z (.consF Z (fun E=>AOps.E Z Z Z hb1 .N) Z (.consF Z (fun E=>AOps.aa Z hb1 Z Z .N) Z (.consF Z (fun E=>AOps.u Z Z .N) Z ?_)))))))))))))))))))))))))))))))))))))))))))))))))
   refine j6.done ?_
   dsimp only[l7]
   refine b5 ?_
   simp only[O3 hb1,or_t hb1,Bool.false_or,Bool.true_or,Bool.false_and,Bool.true_and]
   exact Sub.env ⟨Z,Y⟩
  ·rcases bft (decide (en56.key=en57.key)) with hb2|hb2
   ·refine AWP.drawI mixed Z ?_
    refine j6.consF Z (fun E=>AOps.j Z Z .N) Z (.consF Z (fun E=>AOps.j Z Z .N) Z (.consF Z (fun E=>S.idxPb Z Z Z (by simpa only[lS] using s5 ha9) Z Z .N) Z (.consF Z (fun E=>S.loadP ha9 Z Z Z Z .N) Z (.consF Z (fun E=>S.nilCheckE Z Z (by simpa only[lS] using f8 hen56) Z .N) Z (.consF Z (fun E=>S.fieldE Z Z Z (by simpa only[lS] using f8 hen56) Z .N) Z (.consF Z (fun E=>AOps.F Z Z (s8 Z hen56) Z Z Z .N) Z (.consF Z (fun E=>AOps.j Z Z .N) Z (.consF Z (fun E=>AOps.j Z Z .N) Z (.consF Z (fun E=>S.idxPb Z Z Z (by simpa only[lS] using s5 ha16) Z Z .N) Z (.consF Z (fun E=>S.loadP ha16 Z Z Z Z .N) Z (.consF Z (fun E=>S.nilCheckE Z Z (by simpa only[lS] using f8 hen57) Z .N) Z (.consF Z (fun E=>S.fieldE Z Z Z (by simpa only[lS] using f8 hen57) Z .N) Z (.consF Z (fun E=>AOps.F Z Z (s8 Z hen57) Z Z Z .N) Z (.consF Z (fun E=>AOps.J Z Z Z .N) Z (.consF Z (fun E=>AOps.j Z Z .N) Z (.consF Z (fun E=>AOps.B Z Z Z hb1 (.j Z Z .N)) Z (.consF Z (fun E=>AOps.B Z Z Z hb1 (.j Z Z .N)) Z (.consF Z (fun E=>AOps.B Z Z Z hb1 (S.idxPb Z Z Z (by simpa only[lS] using s5 ha9) Z Z .N)) Z (.consF Z (fun E=>AOps.B Z Z Z hb1 (S.loadP ha9 Z Z Z Z .N)) Z (.consF Z (fun E=>AOps.B Z Z Z hb1 (S.nilCheckE Z Z (by simpa only[lS] using f8 hen56) Z .N)) Z (.consF Z (fun E=>AOps.B Z Z Z hb1 (S.fieldE Z Z Z (by simpa only[lS] using f8 hen56) Z .N)) Z (.consF Z (fun E=>AOps.B Z Z Z hb1 (.F Z Z (s8 Z hen56) Z Z Z .N)) Z (.consF Z (fun E=>AOps.B Z Z Z hb1 (.j Z Z .N)) Z (.consF Z (fun E=>AOps.B Z Z Z hb1 (.j Z Z .N)) Z (.consF Z (fun E=>AOps.B Z Z Z hb1 (S.idxPb Z Z Z (by simpa only[lS] using s5 ha16) Z Z .N)) Z (.consF Z (fun E=>AOps.B Z Z Z hb1 (S.loadP ha16 Z Z Z Z .N)) Z (.consF Z (fun E=>AOps.B Z Z Z hb1 (S.nilCheckE Z Z (by simpa only[lS] using f8 hen57) Z .N)) Z (.consF Z (fun E=>AOps.B Z Z Z hb1 (S.fieldE Z Z Z (by simpa only[lS] using f8 hen57) Z .N)) Z (.consF Z (fun E=>AOps.B Z Z Z hb1 (.F Z Z (s8 Z hen57) Z Z Z .N)) Z (.consF Z (fun E=>AOps.B Z Z Z hb1 (.eql Z Z Z .N)) Z (.consF Z (fun E=>AOps.B Z Z Z hb1 (.j Z Z .N)) Z (.consF Z (fun E=>AOps.B Z Z Z hb2 (.j Z Z .N)) Z (.consF Z (fun E=>AOps.B Z Z Z hb2 (.j Z Z .N)) Z (.consF Z (fun E=>AOps.B Z Z Z hb2 (S.idxPb Z Z Z (by simpa only[lS] using s5 ha9) Z Z .N)) Z (.consF Z (fun E=>AOps.B Z Z Z hb2 (S.loadP ha9 Z Z Z Z .N)) Z (.consF Z (fun E=>AOps.B Z Z Z hb2 (S.nilCheckE Z Z (by simpa only[lS] using f8 hen56) Z .N)) Z (.consF Z (fun E=>AOps.B Z Z Z hb2 (S.fieldE Z Z Z (by simpa only[lS] using f8 hen56) Z .N)) Z (.consF Z (fun E=>AOps.B Z Z Z hb2 (.F Z Z (s8 Z hen56) Z Z Z .N)) Z (.consF Z (fun E=>AOps.B Z Z Z hb2 (.j Z Z .N)) Z (.consF Z (fun E=>AOps.B Z Z Z hb2 (.j Z Z .N)) Z (.consF Z (fun E=>AOps.B Z Z Z hb2 (S.idxPb Z Z Z (by simpa only[lS] using s5 ha16) Z Z .N)) Z (.consF Z (fun E=>AOps.B Z Z Z hb2 (S.loadP ha16 Z Z Z Z .N)) Z (.consF Z (fun E=>AOps.B Z Z Z hb2 (S.nilCheckE Z Z (by simpa only[lS] using f8 hen57) Z .N)) Z (.consF Z (fun E=>AOps.B Z Z Z hb2 (S.fieldE Z Z Z (by simpa only[lS] using f8 hen57) Z .N)) Z (.consF Z (fun E=>AOps.B Z Z Z hb2 (.F Z Z (s8 Z hen57) Z Z Z .N)) Z (.consF Z (fun E=>AOps.B Z Z Z hb2 (.J Z Z Z .N)) Z (.consF Z (fun E=>AOps.B Z Z Z hb1 (.aa Z hb2 Z Z .N)) Z (.consF Z (fun E=>AOps.ab Z hb1 Z Z .N) Z (.consF Z (fun E=>AOps.u Z Z .N) Z ?_)))))))))))))))))))))))))))))))))))))))))))))))))
    refine j6.done ?_
    dsimp only[l7]
    refine b5 ?_
    simp only[J7 hb1,or_f hb1,O3 hb2,or_t hb2,Bool.false_or,Bool.true_or,Bool.false_and,Bool.true_and]
    exact Sub.env ⟨Z,Y⟩
   ·refine AWP.drawI mixed Z ?_
    refine j6.consF Z (fun E=>AOps.j Z Z .N) Z (.consF Z (fun E=>AOps.j Z Z .N) Z (.consF Z (fun E=>S.idxPb Z Z Z (by simpa only[lS] using s5 ha9) Z Z .N) Z (.consF Z (fun E=>S.loadP ha9 Z Z Z Z .N) Z (.consF Z (fun E=>S.nilCheckE Z Z (by simpa only[lS] using f8 hen56) Z .N) Z (.consF Z (fun E=>S.fieldE Z Z Z (by simpa only[lS] using f8 hen56) Z .N) Z (.consF Z (fun E=>AOps.F Z Z (s8 Z hen56) Z Z Z .N) Z (.consF Z (fun E=>AOps.j Z Z .N) Z (.consF Z (fun E=>AOps.j Z Z .N) Z (.consF Z (fun E=>S.idxPb Z Z Z (by simpa only[lS] using s5 ha16) Z Z .N) Z (.consF Z (fun E=>S.loadP ha16 Z Z Z Z .N) Z (.consF Z (fun E=>S.nilCheckE Z Z (by simpa only[lS] using f8 hen57) Z .N) Z (.consF Z (fun E=>S.fieldE Z Z Z (by simpa only[lS] using f8 hen57) Z .N) Z (.consF Z (fun E=>AOps.F Z Z (s8 Z hen57) Z Z Z .N) Z (.consF Z (fun E=>AOps.J Z Z Z .N) Z (.consF Z (fun E=>AOps.j Z Z .N) Z (.consF Z (fun E=>AOps.B Z Z Z hb1 (.j Z Z .N)) Z (.consF Z (fun E=>AOps.B Z Z Z hb1 (.j Z Z .N)) Z (.consF Z (fun E=>AOps.B Z Z Z hb1 (S.idxPb Z Z Z (by simpa only[lS] using s5 ha9) Z Z .N)) Z (.consF Z (fun E=>AOps.B Z Z Z hb1 (S.loadP ha9 Z Z Z Z .N)) Z (.consF Z (fun E=>AOps.B Z Z Z hb1 (S.nilCheckE Z Z (by simpa only[lS] using f8 hen56) Z .N)) Z (.consF Z (fun E=>AOps.B Z Z Z hb1 (S.fieldE Z Z Z (by simpa only[lS] using f8 hen56) Z .N)) Z (.consF Z (fun E=>AOps.B Z Z Z hb1 (.F Z Z (s8 Z hen56) Z Z Z .N)) Z (.consF Z (fun E=>AOps.B Z Z Z hb1 (.j Z Z .N)) Z (.consF Z (fun E=>AOps.B Z Z Z hb1 (.j Z Z .N)) Z (.consF Z (fun E=>AOps.B Z Z Z hb1 (S.idxPb Z Z Z (by simpa only[lS] using s5 ha16) Z Z .N)) Z (.consF Z (fun E=>AOps.B Z Z Z hb1 (S.loadP ha16 Z Z Z Z .N)) Z (.consF Z (fun E=>AOps.B Z Z Z hb1 (S.nilCheckE Z Z (by simpa only[lS] using f8 hen57) Z .N)) Z (.consF Z (fun E=>AOps.B Z Z Z hb1 (S.fieldE Z Z Z (by simpa only[lS] using f8 hen57) Z .N)) Z (.consF Z (fun E=>AOps.B Z Z Z hb1 (.F Z Z (s8 Z hen57) Z Z Z .N)) Z (.consF Z (fun E=>AOps.B Z Z Z hb1 (.eql Z Z Z .N)) Z (.consF Z (fun E=>AOps.B Z Z Z hb1 (.j Z Z .N)) Z (.consF Z (fun E=>AOps.E Z Z Z hb2 .N) Z (.consF Z (fun E=>AOps.E Z Z Z hb2 .N) Z (.consF Z (fun E=>AOps.E Z Z Z hb2 .N) Z (.consF Z (fun E=>AOps.E Z Z Z hb2 .N) Z (.consF Z (fun E=>AOps.E Z Z Z hb2 .N) Z (.consF Z (fun E=>AOps.E Z Z Z hb2 .N) Z (.consF Z (fun E=>AOps.E Z Z Z hb2 .N) Z (.consF Z (fun E=>AOps.E Z Z Z hb2 .N) Z (.consF Z (fun E=>AOps.E Z Z Z hb2 .N) Z (.consF Z (fun E=>AOps.E Z Z Z hb2 .N) Z (.consF Z (fun E=>AOps.E Z Z Z hb2 .N) Z (.consF Z (fun E=>AOps.E Z Z Z hb2 .N) Z (.consF Z (fun E=>AOps.E Z Z Z hb2 .N) Z (.consF Z (fun E=>AOps.E Z Z Z hb2 .N) Z (.consF Z (fun E=>AOps.E Z Z Z hb2 .N) Z (.consF Z (fun E=>AOps.B Z Z Z hb1 (.ab Z hb2 Z Z .N)) Z (.consF Z (fun E=>AOps.ab Z hb1 Z Z .N) Z (.consF Z (fun E=>AOps.u Z Z .N) Z ?_)))))))))))))))))))))))))))))))))))))))))))))))))
    refine j6.done ?_
    dsimp only[l7]
    refine b5 ?_
    simp only[J7 hb1,or_f hb1,J7 hb2,or_f hb2,Bool.false_or,Bool.true_or,Bool.false_and,Bool.true_and]
    exact Sub.env ⟨Z,Y⟩
 ·refine AWP.ret ?_
  obtain rfl:=oi h
  exact⟨⟨[(6,.c (bool ((decide (en56.key<en57.key))||((decide (en56.key=en57.key)) && (decide (en56.time<en57.time))))))],[.one (prow 1 l),pool 4 b8 l4]⟩,Sub.env ⟨Z,Y⟩,Done.ret Z ⟨Z,Z⟩⟩
theorem am9{i01:Int}{nv:Int}{time:Int}{l:Li}{l5:List (Int×Int)}{l6:List b9}{r:Li×(List b9)×Bool}(h:K4 i01 nv time l l5 l6=some r):FnOk prog 138 [.c (.ifc 189 [.ptr 0 0 0] false),.c (int i01),.c (int nv)] (X7 i01 nv time l l5 l6) (fun tt ss=>tt=.c (bool r.2.2)∧ss=[.one (.cells 3 [[.own 1 0 r.1.length,.map 2,int time]]),.one (prow 3 r.1),.one (pmap 3 vU l5),pool 4 b8 r.2.1]):=by
 refine FnOk.enter (rs:=[.t 6]) func138 Z ntmps138 results138 Z ⟨trivial,Y⟩ (by kernel_rfl) Z ?_
 refine AWP.weak ?_
 unfold K4 at h
 refine AWP.q (.z (.u Z Z (.nil (b5 (.q (.z (.j Z Z (.u Z Z (.nil (b5 (.q (.O ?_))))))))))))
 obtain⟨⟨c63,c64,iv65⟩,ho1,h⟩:=bind_some h
 try dsimp only at h
 refine AWP.loopS ho1 (fun(c60,c61,iv62)=>⟨[(0,.c (.ifc 189 [.ptr 0 0 0] false)),(1,.c (int i01)),(2,.c (int nv)),(7,.c (int iv62))],[.one (.cells 3 [[.own 1 0 c60.length,.map 2,int time]]),.one (prow 3 c60),.one (pmap 3 vU l5),pool 4 b8 c61]⟩) (fun(c63,c64,iv65) e st=>e=.exit 0∧Sub (X7 i01 nv time l l5 l6) st ⟨[(1,.c (int i01)),(7,.c (int iv65))],[.one (.cells 3 [[.own 1 0 c63.length,.map 2,int time]]),.one (prow 3 c63),.one (pmap 3 vU l5),pool 4 b8 c64]⟩) ?_ ?_ ?_
 ·try dsimp only
  exact Sub.env ⟨Z,Z,Z,Z,Y⟩
 ·intro s o h
  obtain⟨c60,c61,iv62⟩:=s
  unfold X8 at h
  try dsimp only at h ⊢
  refine AWP.O (.q (.z (.j Z Z (S.mul Z Z Z (S.add Z Z Z (.u Z Z (.nil (b5 (.q (.seqJ (⟨[(0,.c (.ifc 189 [.ptr 0 0 0] false)),(1,.c (int i01)),(2,.c (int nv)),(7,.c (int iv62)),(8,.c (int (w64 ((w64 (2 * iv62))+1)))),(21,.c (bool ((decide (nv≤w64 ((w64 (2 * iv62))+1)))||(decide (w64 ((w64 (2 * iv62))+1)<0)))))],[.one (.cells 3 [[.own 1 0 c60.length,.map 2,int time]]),.one (prow 3 c60),.one (pmap 3 vU l5),pool 4 b8 c61]⟩) ?_ ?_))))))))))
  ·rcases bft (decide (nv≤w64 ((w64 (2 * iv62))+1))) with hb1|hb1
   ·refine AWP.z (.j Z Z (.j Z Z (.geq Z Z Z (.j Z Z (.E Z Z Z hb1 (.E Z Z Z hb1 (.aa Z hb1 Z Z (.nil (b5 ?_)))))))))
    simp only[O3 hb1,or_t hb1,Bool.false_or,Bool.true_or,Bool.false_and,Bool.true_and]
    exact Sub.env ⟨Z,Z,Z,Z,Z,Z,Y⟩
   ·refine AWP.z (.j Z Z (.j Z Z (.geq Z Z Z (.j Z Z (.B Z Z Z hb1 (.j Z Z (.B Z Z Z hb1 (.J Z Z Z (.ab Z hb1 Z Z (.nil (b5 ?_)))))))))))
    simp only[J7 hb1,or_f hb1,Bool.false_or,Bool.true_or,Bool.false_and,Bool.true_and]
    exact Sub.env ⟨Z,Z,Z,Z,Z,Z,Y⟩
  ·refine AWP.ag Z h (fun hc66 h=> ?_) (fun hc66 h=> ?_)
   ·refine AWP.exit (d8 (K1 Z ?_))
    obtain rfl:=oi h
    refine d8 ⟨_,Z,Z,?_⟩
    exact Sub.env ⟨Z,Z,Y⟩
   ·refine AWP.skip (b5 (.q (.z (.j Z Z (.u Z Z (.nil (b5 ?_)))))))
    obtain⟨j67,hx68,h⟩:=bind_some h
    refine AWP.seqJ (⟨[(0,.c (.ifc 189 [.ptr 0 0 0] false)),(1,.c (int i01)),(2,.c (int nv)),(7,.c (int iv62)),(9,.c (int j67))],[.one (.cells 3 [[.own 1 0 c60.length,.map 2,int time]]),.one (prow 3 c60),.one (pmap 3 vU l5),pool 4 b8 c61]⟩) ?_ ?_
    ·refine AWP.q (.z (.j Z Z (S.add Z Z Z (.u Z Z (.nil (b5 ?_))))))
     obtain⟨t69,hx70,hx68⟩:=bind_some hx68
     refine AWP.seqJ (⟨[(0,.c (.ifc 189 [.ptr 0 0 0] false)),(1,.c (int i01)),(2,.c (int nv)),(7,.c (int iv62)),(9,.c (int (w64 ((w64 (2 * iv62))+1)))),(10,.c (int (w64 ((w64 ((w64 (2 * iv62))+1))+1)))),(33,.c (bool t69))],[.one (.cells 3 [[.own 1 0 c60.length,.map 2,int time]]),.one (prow 3 c60),.one (pmap 3 vU l5),pool 4 b8 c61]⟩) ?_ ?_
     ·rcases bft (decide (w64 ((w64 ((w64 (2 * iv62))+1))+1)<nv)) with hb71|hb71
      ·replace hx70:=J5 hb71 hx70
       obtain⟨a32,ha32,hx70⟩:=bind_some hx70
       refine AWP.z (.j Z Z (.j Z Z (.J Z Z Z (.j Z Z (.B Z Z Z hb71 (.j Z Z (.B Z Z Z hb71 (.j Z Z (.B Z Z Z hb71 (.j Z Z (.B Z Z Z hb71 (S.invokeV (r2:=.c (bool a32)) (σ'':=[.one (.cells 3 [[.own 1 0 c60.length,.map 2,int time]]),.one (prow 3 c60),.one (pmap 3 vU l5),pool 4 b8 c61]) Z Z Z Z Z Z Z (FnOk.lend [1,3] (B7 ha32) Z Z Z Z Z Z (by exact⟨(.one (i7 Z)),(.any n9),Y⟩) Z (by exact⟨(.live Z (.one (f9 fun _=>Z))),(.live Z RenE.pool),Y⟩) Z Z (by exact⟨(.old Z Z Z),(.new 0 Z Z (.one (f9 fun _=>Z))),(.old Z Z Z),(.new 1 Z Z RenE.pool),Y⟩)) (.aa Z hb71 Z Z (.nil ?_))))))))))))))
       obtain rfl:=oi hx70
       refine b5 (Sub.env ⟨Z,Z,Z,Z,Z,Z,Z,Y⟩)
      ·replace hx70:=J9 hb71 hx70
       refine AWP.z (.j Z Z (.j Z Z (.J Z Z Z (.j Z Z (.E Z Z Z hb71 (.E Z Z Z hb71 (.E Z Z Z hb71 (.E Z Z Z hb71 (.ab Z hb71 Z Z (.nil ?_))))))))))
       obtain rfl:=oi hx70
       refine b5 (Sub.env ⟨Z,Z,Z,Z,Z,Z,Z,Y⟩)
     ·refine AWP.ag Z hx68 (fun hc72 hx68=> ?_) (fun hc72 hx68=> ?_)
      ·refine AWP.z (.j Z Z (.u Z Z (.nil ?_)))
       obtain rfl:=oi hx68
       refine b5 (Sub.env ⟨Z,Z,Z,Z,Z,Y⟩)
      ·refine AWP.skip ?_
       obtain rfl:=oi hx68
       refine b5 (Sub.env ⟨Z,Z,Z,Z,Z,Y⟩)
    ·refine AWP.q (.q ?_)
     obtain⟨a38,ha38,h⟩:=bind_some h
     refine AWP.z (.j Z Z (.j Z Z (.j Z Z (S.invokeV (r2:=.c (bool a38)) (σ'':=[.one (.cells 3 [[.own 1 0 c60.length,.map 2,int time]]),.one (prow 3 c60),.one (pmap 3 vU l5),pool 4 b8 c61]) Z Z Z Z Z Z Z (FnOk.lend [1,3] (ae3 ha38) Z Z Z Z Z Z (by exact⟨(.one (i7 Z)),(.any n9),Y⟩) Z (by exact⟨(.live Z (.one (f9 fun _=>Z))),(.live Z RenE.pool),Y⟩) Z Z (by exact⟨(.old Z Z Z),(.new 0 Z Z (.one (f9 fun _=>Z))),(.old Z Z Z),(.new 1 Z Z RenE.pool),Y⟩)) (.not Z Z (.nil (b5 (.ag Z h (fun hc73 h=> ?_) (fun hc73 h=> ?_)))))))))
     ·refine AWP.exit (d8 (K1 Z ?_))
      obtain rfl:=oi h
      refine d8 ⟨_,Z,Z,?_⟩
      exact Sub.env ⟨Z,Z,Y⟩
     ·refine AWP.skip (b5 (.q ?_))
      obtain⟨a43,ha43,u74,hu74,h⟩:=b2 h
      refine AWP.z (.j Z Z (.j Z Z (.j Z Z (S.invokeV (r2:=.tup []) (σ'':=[.one (.cells 3 [[.own 1 0 c60.length,.map 2,int time]]),.one (prow 3 a43.1),.one (pmap 3 vU l5),pool 4 b8 a43.2]) Z Z Z Z Z Z Z (FnOk.lend [1,3] (P6 ha43) Z Z Z Z Z Z (by exact⟨(.one (i7 Z)),(.any n9),Y⟩) Z (by exact⟨(.live Z (.one (f9 fun _=>Z))),(.live Z RenE.pool),Y⟩) Z Z (by exact⟨(.old Z Z Z),(.new 0 Z Z (.one (f9 fun _=>Z))),(.old Z Z Z),(.new 1 Z Z RenE.pool),Y⟩)) (.nil (b5 (.z (.j Z Z (.u Z Z (.nil (d6 ?_)))))))))))
      obtain rfl:=oi h
      refine b5 ⟨_,Z,?_⟩
      exact Sub.cut ⟨Z,Z,Z,Z,Y⟩ Z ⟨(.eq Z (by first|rfl|rw[(an1 hu74)]|(simp only[lS];done))),(.one (i7 Z)),(.one (k9 Z)),(.any n9),Y⟩ Z
 ·intro e s hq
  obtain⟨rfl,hs⟩:=hq
  refine⟨_,hs,?_⟩
  refine g8 (b5 (.q (.z (.j Z Z (.j Z Z (.gtr Z Z Z (.u Z Z (.nil (b5 (.ret ?_))))))))))
  obtain rfl:=oi h
  exact⟨⟨[(6,.c (bool (decide (i01<iv65))))],[.one (.cells 3 [[.own 1 0 c63.length,.map 2,int time]]),.one (prow 3 c63),.one (pmap 3 vU l5),pool 4 b8 c64]⟩,Sub.env ⟨Z,Y⟩,Done.ret Z ⟨Z,Z⟩⟩
theorem ag8{time:Int}{l:Li}{l3:List (Int×Int)}{l4:List b9}{r:Li×Int}(h:D7 time l l3 l4=some r):FnOk prog 206 [.c (.ptr 0 0 0)] (ag4 time l l3 l4) (fun tt ss=>tt=.c (.ifc 184 [.ptr (3,[r.2.toNat]) 0 0] false)∧ss=[.one (.cells 3 [[.own 5 0 r.1.length,.map 2,int time]]),.dead,.one (pmap 3 vU l3),pool 4 b8 l4,.dead,.one (prow 3 r.1)]):=by
 refine FnOk.enter (rs:=[.t 2]) func206 Z ntmps206 results206 Z ⟨trivial,Y⟩ (by kernel_rfl) Z ?_
 refine AWP.weak ?_
 unfold D7 at h
 refine AWP.j (env':=[(0,.c (.ptr 0 0 0))]) (σ':=[.one (.cells 3 [[.own 4 0 l.length,.map 2,int time]]),.dead,.one (pmap 3 vU l3),pool 4 b8 l4,.one (prow 3 l)]) 4 1 Z Z Z ⟨Z,Y⟩ Z ⟨⟨Z,Z⟩,trivial,⟨k9 Z,B1 Z O9⟩,(x9.pool Z),⟨i7 Z,B1 Z O8⟩,Y⟩ (.q (.z (.u Z Z (.nil (b5 (.q (.z (.j Z Z (.ai Z Z Z (.F Z Z Z Z Z Z (.u Z Z (.nil (b5 (.q ?_))))))))))))))
 obtain⟨a12,ha12,h⟩:=bind_some h
 refine AWP.z (.j Z Z (.j Z Z (.lenOwnB Z Z Z (fun hl10=>.sub' Z Z Z (by omega) (S.idxPb Z Z Z (by simpa only[lS] using s5 ha12) Z Z (S.loadP ha12 Z Z Z Z (.u Z Z (.nil (b5 (.q ?_))))))))))
 obtain⟨a19,ha19,h⟩:=bind_some h
 refine AWP.z (.j Z Z (.j Z Z (.j Z Z (.lenOwnB Z Z Z (fun hl17=>.sub' Z Z Z (by omega) (S.shrinkP ha19 Z Z Z Z Z (.sub (Sub.reownP (env':=[(0,.c (.ptr 0 0 0)),(2,.c (.imm (.val .nilIface))),(4,.c (.ptr (3,[a12.toNat]) 0 0)),(5,.c (.ptr 0 0 0)),(6,.c (.ptr 0 0 0)),(10,.c (int (l.length:Int))),(11,.c (int ((l.length:Int) - 1))),(13,.c (.ptr (3,[a12.toNat]) 0 0)),(14,.c (.ptr 0 0 0)),(17,.c (int (l.length:Int))),(18,.c (int ((l.length:Int) - 1))),(19,.c (.own 5 0 a19.length))]) 19 ha19 Z Z Z Z Z Z Z (by exact⟨.inr Z,.inr Z,.inr Z,.inr Z,.inr Z,.inr Z,.inr Z,.inr Z,.inr Z,.inr Z,.inr Z,.inl ⟨Z,Z⟩,Y⟩)) (.ai Z Z Z (W.store Z Z Z Z Z (.nil (b5 (.q (.z (.j Z Z (S.mkIfc Z Z Z (.u Z Z (.nil (b5 (.ret ?_)))))))))))))))))))
 obtain rfl:=oi h
 exact⟨⟨[(2,.c (.ifc 184 [.ptr (3,[a12.toNat]) 0 0] false))],[.one (.cells 3 [[.own 5 0 a19.length,.map 2,int time]]),.dead,.one (pmap 3 vU l3),pool 4 b8 l4,.dead,.one (prow 3 a19)]⟩,Sub.env ⟨Z,Y⟩,Done.ret Z ⟨Z,Z⟩⟩
theorem aq9{time:Int}{l:Li}{l3:List (Int×Int)}{l4:List b9}{r:(List b9)×Li×Int}(h:H1 time l l3 l4=some r):FnOk prog 107 [.c (.ifc 189 [.ptr 0 0 0] false)] (aq7 time l l3 l4) (fun tt ss=>tt=.c (.ifc 184 [.ptr (3,[r.2.2.toNat]) 0 0] false)∧ss=[.one (.cells 3 [[.own 5 0 r.2.1.length,.map 2,int time]]),.dead,.one (pmap 3 vU l3),pool 4 b8 r.1,.dead,.one (prow 3 r.2.1)]):=by
 refine FnOk.enter (rs:=[.t 2]) func107 Z ntmps107 results107 Z ⟨trivial,Y⟩ (by kernel_rfl) Z ?_
 refine AWP.weak ?_
 unfold H1 at h
 refine AWP.q (.z (.u Z Z (.nil (b5 (.q ?_)))))
 obtain⟨a5,ha5,h⟩:=bind_some h
 refine AWP.z (.j Z Z (S.invokeV (r2:=.c (int (l.length:Int))) (σ'':=[.one (.cells 3 [[.own 1 0 l.length,.map 2,int time]]),.one (prow 3 l),.one (pmap 3 vU l3),pool 4 b8 l4]) Z Z Z Z Z Z Z (FnOk.lend [1,3] (H0 ha5) Z Z Z Z Z Z (by exact⟨(.one (i7 Z)),(.any n9),Y⟩) Z (by exact⟨(.live Z (.one (f9 fun _=>Z))),(.live Z RenE.pool),Y⟩) Z Z (by exact⟨(.old Z Z Z),(.new 0 Z Z (.one (f9 fun _=>Z))),(.old Z Z Z),(.new 1 Z Z RenE.pool),Y⟩)) (S.sub Z Z Z (.u Z Z (.nil (b5 (.q ?_)))))))
 obtain⟨a9,ha9,u58,hu58,h⟩:=b2 h
 refine AWP.z (.j Z Z (.j Z Z (S.invokeV (r2:=.tup []) (σ'':=[.one (.cells 3 [[.own 1 0 l.length,.map 2,int time]]),.one (prow 3 a9.1),.one (pmap 3 vU l3),pool 4 b8 a9.2]) Z Z Z Z Z Z Z (FnOk.lend [1,3] (P6 ha9) Z Z Z Z Z Z (by exact⟨(.one (i7 Z)),(.any n9),Y⟩) Z (by exact⟨(.live Z (.one (f9 fun _=>Z))),(.live Z RenE.pool),Y⟩) Z Z (by exact⟨(.old Z Z Z),(.new 0 Z Z (.one (f9 fun _=>Z))),(.old Z Z Z),(.new 1 Z Z RenE.pool),Y⟩)) (.nil (b5 (.q ?_))))))
 obtain⟨a12,ha12,h⟩:=bind_some h
 refine AWP.z (.j Z Z (.j Z Z (.sub (s':=⟨[(0,.c (.ifc 189 [.ptr 0 0 0] false)),(2,.c (.imm (.val .nilIface))),(3,.c (int (w64 ((l.length:Int) - 1)))),(4,.c (.ifc 189 [.ptr 0 0 0] false)),(5,.c (int (l.length:Int))),(6,.c (int (w64 ((l.length:Int) - 1)))),(7,.c (.ifc 189 [.ptr 0 0 0] false)),(8,.c (int (w64 ((l.length:Int) - 1)))),(9,.tup []),(10,.c (.ifc 189 [.ptr 0 0 0] false)),(11,.c (int (w64 ((l.length:Int) - 1))))],[.one (.cells 3 [[.own 1 0 a9.1.length,.map 2,int time]]),.one (prow 3 a9.1),.one (pmap 3 vU l3),pool 4 b8 a9.2]⟩) (Sub.cut ⟨Z,Z,Z,Z,Z,Z,Z,Z,Z,Z,Z,Y⟩ Z ⟨(.eq Z (by rw[(an1 hu58)])),(.one (i7 Z)),(.one (k9 Z)),(.any n9),Y⟩ Z) (.callF (r2:=.c (bool a12.2.2)) (σ'':=[.one (.cells 3 [[.own 1 0 a12.1.length,.map 2,int time]]),.one (prow 3 a12.1),.one (pmap 3 vU l3),pool 4 b8 a12.2.1]) Z Z Z (FnOk.lend [0,1,2,3] (am9 ha12) Z Z Z Z Z Z (by exact⟨(.one Z),(.one (i7 Z)),(.one (k9 Z)),(.any n9),Y⟩) Z (by exact⟨(.live Z (.one Z)),(.live Z (.one (f9 fun _=>Z))),(.live Z (.one (m9 fun _=>Z))),(.live Z RenE.pool),Y⟩) Z Z (by exact⟨(.new 0 Z Z (.one Z)),(.new 1 Z Z (.one (f9 fun _=>Z))),(.new 2 Z Z (.one (m9 fun _=>Z))),(.new 3 Z Z RenE.pool),Y⟩)) (.nil (b5 (.q ?_)))))))
 obtain⟨a14,ha14,h⟩:=bind_some h
 refine AWP.z (.j Z Z (S.invokeP (r2:=.c (.ifc 184 [.ptr (3,[a14.2.toNat]) 0 0] false)) (σ'':=[.one (.cells 3 [[.own 5 0 a14.1.length,.map 2,int time]]),.dead,.one (pmap 3 vU l3),pool 4 b8 a12.2.1,.dead,.one (prow 3 a14.1)]) Z Z Z (FnOk.lend [0,1,2,3] (ag8 ha14) Z Z Z Z Z Z (by exact⟨(.one Z),(.one (i7 Z)),(.one (k9 Z)),(.any n9),Y⟩) Z (by exact⟨(.live Z (.one Z)),(.live Z (.one (f9 fun _=>Z))),(.live Z (.one (m9 fun _=>Z))),(.live Z RenE.pool),Y⟩) Z Z (by exact⟨(.new 0 Z Z (.one Z)),.dead,(.new 2 Z Z (.one (m9 fun _=>Z))),(.new 3 Z Z RenE.pool),.dead,(.new 5 Z Z (.one (f9 fun _=>Z))),Y⟩)) (.u Z Z (.nil (b5 (.ret ?_))))))
 obtain rfl:=oi h
 exact⟨⟨[(2,.c (.ifc 184 [.ptr (3,[a14.2.toNat]) 0 0] false))],[.one (.cells 3 [[.own 5 0 a14.1.length,.map 2,int time]]),.dead,.one (pmap 3 vU l3),pool 4 b8 a12.2.1,.dead,.one (prow 3 a14.1)]⟩,Sub.env ⟨Z,Y⟩,Done.ret Z ⟨Z,Z⟩⟩
theorem af5{time:Int}{l:Li}{l3:List (Int×Int)}{l4:List b9}{r:(List (Int×Int))×(List b9)×Li×Int×Int×Bool}(h:z8 time l l3 l4=some r):FnOk prog 69 [.c (.ptr 0 0 0)] (ae9 time l l3 l4) (fun tt ss=>tt=.tup [.c (.imm (.val (.int .u32 r.2.2.2.1))),.c (int r.2.2.2.2.1),.c (bool r.2.2.2.2.2)]∧ss=[.one (.cells 3 [[.own 4 0 r.2.2.1.length,.map 2,int time]]),.dead,.one (pmap 3 vU r.1),pool 4 b8 r.2.1,.one (prow 3 r.2.2.1)]):=by
 refine FnOk.enter (rs:=[.t 2,.t 3,.t 4]) func69 Z ntmps69 results69 Z ⟨trivial,trivial,trivial,Y⟩ (by kernel_rfl) Z ?_
 refine AWP.weak ?_
 unfold z8 at h
 refine AWP.j (env':=[(0,.c (.ptr 0 0 0))]) (σ':=[.one (.cells 3 [[.own 4 0 l.length,.map 2,int time]]),.dead,.one (pmap 3 vU l3),pool 4 b8 l4,.one (prow 3 l)]) 4 1 Z Z Z ⟨Z,Y⟩ Z ⟨⟨Z,Z⟩,trivial,⟨k9 Z,B1 Z O9⟩,(x9.pool Z),⟨i7 Z,B1 Z O8⟩,Y⟩ (.q (.z (.u Z Z (.u Z Z (.u Z Z (.nil (b5 (.q (.q (.z (.j Z Z (.ai Z Z Z (W.fieldAddr Z Z Z Z (.F Z Z Z Z Z Z (.lenOwnB Z Z Z (fun hl10=>.eql Z Z Z (.nil (b5 (.ite Z h (fun hc61 h=> ?_) (fun hc61 h=> ?_))))))))))))))))))))
 ·refine AWP.q (.z (.j Z Z (.u Z Z (.u Z Z (.u Z Z (.nil (b5 (.ret (e7 ?_)))))))))
  obtain rfl:=oi h
  exact⟨⟨[(2,.c (.imm (.val (.int .u32 0)))),(3,.c (int 0)),(4,.c (bool false))],[.one (.cells 3 [[.own 4 0 l.length,.map 2,int time]]),.dead,.one (pmap 3 vU l3),pool 4 b8 l4,.one (prow 3 l)]⟩,Sub.env ⟨Z,Z,Z,Y⟩,Done.ret Z ⟨Z,Z⟩⟩
 ·refine AWP.skip (b5 (.q ?_))
  obtain⟨a17,ha17,h⟩:=bind_some h
  refine AWP.z (.j Z Z (.ai Z Z Z (W.fieldAddr Z Z Z Z (S.mkIfc Z Z Z (.callF (r2:=.c (.ifc 184 [.ptr (3,[a17.2.2.toNat]) 0 0] false)) (σ'':=[.one (.cells 3 [[.own 6 0 a17.2.1.length,.map 2,int time]]),.dead,.one (pmap 3 vU l3),pool 4 b8 a17.1,.dead,.dead,.one (prow 3 a17.2.1)]) Z Z Z (FnOk.lend [0,4,2,3] (aq9 ha17) Z Z Z Z Z Z (by exact⟨(.one Z),(.one (i7 Z)),(.one (k9 Z)),(.any n9),Y⟩) Z (by exact⟨(.live Z (.one Z)),(.live Z (.one (f9 fun _=>Z))),(.live Z (.one (m9 fun _=>Z))),(.live Z RenE.pool),Y⟩) Z Z (by exact⟨(.new 0 Z Z (.one Z)),.dead,(.new 2 Z Z (.one (m9 fun _=>Z))),(.new 3 Z Z RenE.pool),.dead,.dead,(.new 5 Z Z (.one (f9 fun _=>Z))),Y⟩)) (S.assert Z Z Z (.u Z Z (.nil (b5 (.q ?_))))))))))
  obtain⟨en62,hen62,h⟩:=bind_some h
  refine AWP.drawEI [8] mixed Z Z Z ?_
  refine e6.consN Z Z (fun E=>AOps.j Z Z .N) Z (.consN Z Z (fun E=>AOps.ai Z Z Z .N) Z (.consN Z Z (fun E=>W.fieldAddr Z Z Z Z .N) Z (.consN Z Z (fun E=>AOps.F Z Z Z Z Z Z .N) Z (.consN Z Z (fun E=>AOps.j Z Z .N) Z (.consN Z Z (fun E=>S.nilCheckE Z Z (by simpa only[lS] using f8 hen62) Z .N) Z (.consN Z Z (fun E=>S.fieldE Z Z Z (by simpa only[lS] using f8 hen62) Z .N) Z (.consN Z Z (fun E=>AOps.F Z Z (s8 Z hen62) Z Z Z .N) Z ?_)))))))
  apply e6.consE (v:=.undef);exact Z;exact Z;intro E
  refine S.deleteP (fk:=vU) (k:=en62.item) I9 Z Z Z Z Z .N
  exact Z
  exact Z
  refine e6.done Z ?_ ?_
  ·refine d5.cons Z Z (b7.go Z Z (fun E=>AOps.j Z Z .N) (b7.skip Z (b7.nil))) (d5.cons Z Z (b7.go Z Z (fun E=>AOps.ai Z Z Z .N) (b7.skip Z (b7.nil))) (d5.cons Z Z (b7.go Z Z (fun E=>W.fieldAddr Z Z Z Z .N) (b7.skip Z (b7.nil))) (d5.cons Z Z (b7.go Z Z (fun E=>AOps.F Z Z Z Z Z Z .N) (b7.skip Z (b7.nil))) (d5.cons Z Z (b7.go Z Z (fun E=>AOps.j Z Z .N) (b7.skip Z (b7.nil))) (d5.cons Z Z (b7.go Z Z (fun E=>S.nilCheckE Z Z (by simpa only[lS] using f8 hen62) Z .N) (b7.skip Z (b7.nil))) (d5.cons Z Z (b7.go Z Z (fun E=>S.fieldE Z Z Z (by simpa only[lS] using f8 hen62) Z .N) (b7.skip Z (b7.nil))) (d5.cons Z Z (b7.go Z Z (fun E=>AOps.F Z Z (s8 Z hen62) Z Z Z .N) (b7.skip Z (b7.nil))) ?_)))))))
   refine d5.skip Z (d5.nil)
  dsimp only[l7]
  refine b5 (.q (.drawI mixed Z ?_))
  refine j6.consF Z (fun E=>AOps.j Z Z .N) Z (.consF Z (fun E=>S.nilCheckE Z Z (by simpa only[lS] using f8 hen62) Z .N) Z (.consF Z (fun E=>S.fieldE Z Z Z (by simpa only[lS] using f8 hen62) Z .N) Z (.consF Z (fun E=>AOps.F Z Z (s8 Z hen62) Z Z Z .N) Z (.consF Z (fun E=>AOps.j Z Z .N) Z (.consF Z (fun E=>S.nilCheckE Z Z (by simpa only[lS] using f8 hen62) Z .N) Z (.consF Z (fun E=>S.fieldE Z Z Z (by simpa only[lS] using f8 hen62) Z .N) Z (.consF Z (fun E=>AOps.F Z Z (s8 Z hen62) Z Z Z .N) Z (.consF Z (fun E=>AOps.u Z Z .N) Z (.consF Z (fun E=>AOps.u Z Z .N) Z (.consF Z (fun E=>AOps.u Z Z .N) Z ?_))))))))))
  refine j6.done ?_
  dsimp only[l7]
  refine b5 (.ret ?_)
  obtain rfl:=oi h
  exact⟨⟨[(2,.c (.imm (.val (.int .u32 en62.item)))),(3,.c (int en62.key)),(4,.c (bool true))],[.one (.cells 3 [[.own 4 0 a17.2.1.length,.map 2,int time]]),.dead,.one (pmap 3 vU (mdel l3 en62.item)),pool 4 b8 a17.1,.one (prow 3 a17.2.1)]⟩,(Sub.move (env':=[(2,.c (.imm (.val (.int .u32 en62.item)))),(3,.c (int en62.key)),(4,.c (bool true))]) (σ':=[.one (.cells 3 [[.own 4 0 a17.2.1.length,.map 2,int time]]),.dead,.one (pmap 3 vU (mdel l3 en62.item)),pool 4 b8 a17.1,.one (prow 3 a17.2.1),.dead]) 4 6 Z Z Z ⟨Z,Z,Z,Y⟩ Z ⟨⟨Z,Z⟩,trivial,⟨k9 Z,B1 Z O9⟩,(x9.pool Z),⟨i7 Z,B1 Z O8⟩,trivial,Y⟩).trans (Sub.cut ⟨Z,Z,Z,Y⟩ Z ⟨.one Z,.dead,(.one (k9 Z)),(.any n9),(.one (i7 Z)),Y⟩ Z),Done.ret Z ⟨Z,Z⟩⟩
end Ab
end
section
namespace Ab
open Go Go.Proofs
open Tryz
set_option maxHeartbeats 4000000
set_option linter.all false
attribute [local irreducible] AWP AOps thn inB Done e8 r8 Sub
theorem ag2{item:Int}{key:Int}{time:Int}{l:Li}{l5:List (Int×Int)}{l6:List b9}{r:(List (Int×Int))×Li×(List b9)}(h:D4 item key time l l5 l6=some r):FnOk prog 66 [.c (.ptr 0 0 0),.c (.imm (.val (.int .u32 item))),.c (int key)] (ag6 item key time l l5 l6) (fun tt ss=>tt=.tup []∧ss=[.one (.cells 3 [[.own 4 0 r.2.1.length,.map 2,int (w64 (time+1))]]),.dead,.one (pmap 5 vU r.1),.dead,.one (prow 5 r.2.1),pool 4 b8 r.2.2]):=by
 refine FnOk.enter (rs:=[]) func66 Z ntmps66 results66 Z trivial (by kernel_rfl) Z ?_
 refine AWP.weak ?_
 unfold D4 at h
 refine AWP.j (env':=[(0,.c (.ptr 0 0 0)),(1,.c (.imm (.val (.int .u32 item)))),(2,.c (int key))]) (σ':=[.one (.cells 3 [[.own 4 0 l.length,.map 2,int time]]),.dead,.one (pmap 3 vU l5),pool 4 b8 l6,.one (prow 3 l)]) 4 1 Z Z Z ⟨Z,Z,Z,Y⟩ Z ⟨⟨Z,Z⟩,trivial,⟨k9 Z,B1 Z O9⟩,(x9.pool Z),⟨i7 Z,B1 Z O8⟩,Y⟩ (.moveM (env':=[(0,.c (.ptr 0 0 0)),(1,.c (.imm (.val (.int .u32 item)))),(2,.c (int key))]) (σ':=[.one (.cells 3 [[.own 4 0 l.length,.map 2,int time]]),.dead,.one (pmap 5 vU l5),.dead,.one (prow 5 l),pool 4 b8 l6]) 5 3 Z Z Z ⟨Z,Z,Z,Y⟩ Z ⟨(.one Z Z),.dead,(.one (k9 Z) (H9 Z Z (m9 fun _=>Z))),.dead,(.one (i7 Z) (H9 Z Z (f9 fun _=>Z))),(EntR.pool Z Z),Y⟩ ?_)
 refine AWP.q (.z (.j Z Z (.ai Z Z Z (W.fieldAddr Z Z Z Z (.F Z Z Z Z Z Z (S.add Z Z Z (.ai Z Z Z (W.fieldAddr Z Z Z Z (W.store Z Z Z Z Z (.nil (b5 (.q (.q (.z (.j Z Z (.ai Z Z Z (W.fieldAddr Z Z Z Z (.F Z Z Z Z Z Z (.j Z Z (S.lookupOkP (fk:=vU) (k:=item) I9 Z Z Z Z Z (.j Z Z (.ac Z Z Z (.ac Z Z Z (.u Z Z (.u Z Z (.nil (b5 (.q (.z (.j Z Z (.nil (b5 (.ag Z h (fun hc60 h=> ?_) (fun hc60 h=> ?_))))))))))))))))))))))))))))))))))
 ·obtain⟨ap61,hap61,h⟩:=bind_some h
  refine AWP.sub (s':=⟨[(0,.c (.ptr 0 0 0)),(1,.c (.imm (.val (.int .u32 item)))),(2,.c (int key)),(6,.c (.ptr (5,[ap61.toNat]) 0 0)),(7,.c (bool (Option.isSome (mget l5 item)))),(9,.c (.ptr 0 0 0)),(10,.c (.ptr 0 0 0)),(11,.c (.ptr 0 0 2)),(12,.c (int time)),(13,.c (int (w64 (time+1)))),(14,.c (.ptr 0 0 0)),(15,.c (.ptr 0 0 2)),(17,.c (.ptr 0 0 0)),(18,.c (.ptr 0 0 0)),(19,.c (.ptr 0 0 1)),(20,.c (.map 2)),(21,.c (.imm (.val (.int .u32 item)))),(23,.c (.ptr (5,[ap61.toNat]) 0 0)),(24,.c (bool (Option.isSome (mget l5 item)))),(25,.c (bool (Option.isSome (mget l5 item))))],[.one (.cells 3 [[.own 4 0 l.length,.map 2,int (w64 (time+1))]]),.dead,.one (pmap 5 vU l5),.dead,.one (prow 5 l),pool 4 b8 l6]⟩) (Sub.env ⟨Z,Z,Z,(ar9 hap61),Z,Z,Z,Z,Z,Z,Z,Z,Z,Z,Z,Z,Z,(ar9 hap61),Z,Z,Y⟩) (.q ?_)
  obtain⟨en62,hen62,h⟩:=bind_some h
  refine AWP.z (.j Z Z (.j Z Z (.j Z Z (.j Z Z (.ai Z Z Z (W.fieldAddr Z Z Z Z (.F Z Z Z Z Z Z (S.nilCheckE Z Z (by simpa only[lS] using f8 hen62) Z (S.fieldE Z Z Z (by simpa only[lS] using f8 hen62) Z (S.storeE (e':=(⟨en62.item,key,en62.time,en62.fat⟩:b9)) hen62 Z Z Z Z Z Z (S.nilCheckE Z Z (by simpa only[lS] using f8 hen62) Z (S.fieldE Z Z Z (by simpa only[lS] using f8 hen62) Z (S.storeE (e':=(⟨en62.item,key,w64 (time+1),en62.fat⟩:b9)) (ad5 hen62) Z Z Z Z Z Z (.nil (b5 (.q ?_))))))))))))))))
  obtain⟨a45,ha45,h⟩:=bind_some h
  refine AWP.drawEI [8] mixed Z Z Z ?_
  refine e6.consN Z Z (fun E=>AOps.j Z Z .N) Z (.consN Z Z (fun E=>AOps.ai Z Z Z .N) Z (.consN Z Z (fun E=>W.fieldAddr Z Z Z Z .N) Z (.consN Z Z (fun E=>S.mkIfc Z Z Z .N) Z (.consN Z Z (fun E=>AOps.j Z Z .N) Z (.consN Z Z (fun E=>S.nilCheckE Z Z (by simpa only[lS] using f8 hen62) Z .N) Z (.consN Z Z (fun E=>S.fieldE Z Z Z (by simpa only[lS] using f8 hen62) Z .N) Z (.consN Z Z (fun E=>AOps.F Z Z (s8 Z (ad5 (ad5 hen62))) Z Z Z .N) Z ?_)))))))
  apply e6.consE;exact Z;exact Z;intro E
  refine AOps.callF (r2:=.tup []) (σ'':=[.one (.cells 3 [[.own 4 0 a45.1.length,.map 2,int (w64 (time+1))]]),.dead,.one (pmap 5 vU l5),.dead,.one (prow 5 a45.1),pool 4 b8 a45.2]) Z Z Z (FnOk.lend [0,4,2,5] (ac3 ha45) Z Z Z Z Z Z (by exact⟨(.one Z),(.one (i7 Z)),(.one (k9 Z)),(.any n9),Y⟩) Z (by exact⟨(.live Z (.one Z)),(.live Z (.one (f9 fun _=>Z))),(.live Z (.one (m9 fun _=>Z))),(.live Z RenE.pool),Y⟩) Z Z (by exact⟨(.new 0 Z Z (.one Z)),.dead,(.new 2 Z Z (.one (m9 fun _=>Z))),.dead,(.new 1 Z Z (.one (f9 fun _=>Z))),(.new 3 Z Z RenE.pool),Y⟩)) .N
  exact Z
  exact Z
  refine e6.done Z ?_ ?_
  ·refine d5.cons Z Z (b7.go Z Z (fun E=>AOps.j Z Z .N) (b7.skip Z (b7.nil))) (d5.cons Z Z (b7.go Z Z (fun E=>AOps.ai Z Z Z .N) (b7.skip Z (b7.nil))) (d5.cons Z Z (b7.go Z Z (fun E=>W.fieldAddr Z Z Z Z .N) (b7.skip Z (b7.nil))) (d5.cons Z Z (b7.go Z Z (fun E=>S.mkIfc Z Z Z .N) (b7.skip Z (b7.nil))) (d5.cons Z Z (b7.go Z Z (fun E=>AOps.j Z Z .N) (b7.skip Z (b7.nil))) (d5.cons Z Z (b7.go Z Z (fun E=>S.nilCheckE Z Z (by simpa only[lS] using f8 hen62) Z .N) (b7.skip Z (b7.nil))) (d5.cons Z Z (b7.go Z Z (fun E=>S.fieldE Z Z Z (by simpa only[lS] using f8 hen62) Z .N) (b7.skip Z (b7.nil))) (d5.cons Z Z (b7.go Z Z (fun E=>AOps.F Z Z (s8 Z (ad5 (ad5 hen62))) Z Z Z .N) (b7.skip Z (b7.nil))) ?_)))))))
   refine d5.skip Z (d5.nil)
  dsimp only[l7]
  refine b5 (.ret (e7 ?_))
  obtain rfl:=oi h
  exact⟨⟨[],[.one (.cells 3 [[.own 4 0 a45.1.length,.map 2,int (w64 (time+1))]]),.dead,.one (pmap 5 vU l5),.dead,.one (prow 5 a45.1),pool 4 b8 a45.2]⟩,Sub.env trivial,Done.ret Z ⟨Z,Z⟩⟩
 ·refine AWP.skip (b5 (.q ?_))
  obtain⟨u63,hu63,u64,hu64,h⟩:=b2 h
  refine AWP.z (.j Z Z (.j Z Z (.j Z Z (.ai Z Z Z (W.fieldAddr Z Z Z Z (.F Z Z Z Z Z Z (W.build Z Z Z Z (W.box Z Z Z Z Z Z (.sub (Sub.move (env':=[(0,.c (.ptr 0 0 0)),(1,.c (.imm (.val (.int .u32 item)))),(2,.c (int key)),(7,.c (bool (Option.isSome (mget l5 item)))),(9,.c (.ptr 0 0 0)),(10,.c (.ptr 0 0 0)),(11,.c (.ptr 0 0 2)),(12,.c (int time)),(13,.c (int (w64 (time+1)))),(14,.c (.ptr 0 0 0)),(15,.c (.ptr 0 0 2)),(17,.c (.ptr 0 0 0)),(18,.c (.ptr 0 0 0)),(19,.c (.ptr 0 0 1)),(20,.c (.map 2)),(21,.c (.imm (.val (.int .u32 item)))),(24,.c (bool (Option.isSome (mget l5 item)))),(25,.c (bool (Option.isSome (mget l5 item)))),(46,.c (.imm (.val (.int .u32 item)))),(47,.c (int key)),(48,.c (.ptr 0 0 0)),(49,.c (.ptr 0 0 0)),(50,.c (.ptr 0 0 2)),(51,.c (int (w64 (time+1)))),(52,.agg [.imm (.val (.int .u32 item)),int key,int (w64 (time+1)),int 0]),(53,.c (.ptr (5,[(l6.length:Int).toNat]) 0 0))]) (σ':=[.one (.cells 3 [[.own 4 0 l.length,.map 2,int (w64 (time+1))]]),.dead,.one (pmap 5 vU l5),.dead,.one (prow 5 l),pool 4 b8 (l6++[(⟨item,key,w64 (time+1),0⟩:b9)])]) (5,[l6.length]) (6,[]) Z Z Z ⟨Z,Z,Z,Z,Z,Z,Z,Z,Z,Z,Z,Z,Z,Z,Z,Z,Z,Z,Z,Z,Z,Z,Z,Z,Z,ptr_adopt,Y⟩ Z ⟨⟨Z,Z⟩,trivial,⟨k9 Z,af6 Z (pmap_adopt hu63) ai8⟩,trivial,⟨i7 Z,af6 Z (prow_adopt hu64) ai8⟩,(x9.adopt Z Z),Y⟩) (.u Z Z (.nil (b5 (.q (.z (.j Z Z (.ai Z Z Z (W.fieldAddr Z Z Z Z (.F Z Z Z Z Z Z (.j Z Z (.j Z Z (S.mapUpdateP (fk:=vU) (k:=item) (a:=(l6.length:Int)) I9 Z Z Z Z Z (.nil (b5 ?_)))))))))))))))))))))))
  obtain⟨a66,ha66,h⟩:=bind_some h
  refine AWP.z (.j Z Z (.ai Z Z Z (W.fieldAddr Z Z Z Z (S.mkIfc Z Z Z (.j Z Z (S.mkIfc Z Z Z (.callF (r2:=.tup []) (σ'':=[.one (.cells 3 [[.own 8 0 a66.2.length,.map 2,int (w64 (time+1))]]),.dead,.one (pmap 5 vU (mset l5 item (l6.length:Int))),.dead,.dead,pool 4 b8 a66.1,.dead,.dead,.one (prow 5 a66.2)]) Z Z Z (FnOk.lend [0,5,4,2] (ab1 ha66) Z Z Z Z Z Z (by exact⟨(.one Z),(.any n9),(.one (i7 Z)),(.one (k9 Z)),Y⟩) Z (by exact⟨(.live Z (.one Z)),(.live Z RenE.pool),(.live Z (.one (f9 fun _=>Z))),(.live Z (.one (m9 fun _=>Z))),Y⟩) Z Z (by exact⟨(.new 0 Z Z (.one Z)),.dead,(.new 3 Z Z (.one (m9 fun _=>Z))),.dead,.dead,(.new 1 Z Z RenE.pool),.dead,.dead,(.new 6 Z Z (.one (f9 fun _=>Z))),Y⟩)) (.nil ?_))))))))
  obtain rfl:=oi h
  exact⟨⟨[],[.one (.cells 3 [[.own 4 0 a66.2.length,.map 2,int (w64 (time+1))]]),.dead,.one (pmap 5 vU (mset l5 item (l6.length:Int))),.dead,.one (prow 5 a66.2),pool 4 b8 a66.1]⟩,(Sub.move (env':=[]) (σ':=[.one (.cells 3 [[.own 4 0 a66.2.length,.map 2,int (w64 (time+1))]]),.dead,.one (pmap 5 vU (mset l5 item (l6.length:Int))),.dead,.one (prow 5 a66.2),pool 4 b8 a66.1,.dead,.dead]) 4 8 Z Z Z trivial Z ⟨⟨Z,Z⟩,trivial,⟨k9 Z,B1 Z O9⟩,trivial,⟨i7 Z,B1 Z O8⟩,(x9.pool Z),trivial,trivial,Y⟩).trans (Sub.cut trivial Z ⟨.one Z,.dead,(.one (k9 Z)),.dead,(.one (i7 Z)),(.any n9),Y⟩ Z),Done.normal Z ⟨Z,Z⟩⟩
theorem ay2{l:Li}{start:Int}{goal:Int}{l4:List j8}{r:(List (Int×Int))}(h:V1 l start goal l4=some r):FnOk prog 29 [.c (.ptr 0 0 0),.c (row 1 eU32 l)] (U2 l start goal l4) (fun tt ss=>tt=.c (.map 4)∧ss=[.one (.cells 3 [(wW start goal 1 l4.length)]),.one (vec 4 d7 l4),.dead,.dead,.one (mapB vU vI r)]):=by
 refine FnOk.enter (rs:=[.t 4]) func29 Z ntmps29 results29 Z ⟨trivial,Y⟩ (by kernel_rfl) Z ?_
 refine AWP.weak ?_
 unfold V1 at h
 refine AWP.q (.z (.u Z Z (.nil (b5 (.q (.z (W.makeMapM 2 2 vU j9 Z Z Z (W.alloc Z Z Z Z (W.store Z Z Z Z Z (.nil (b5 (.q (.z (W.makeMap vU vI Z Z Z (.u Z Z (.nil (b5 (.q ?_))))))))))))))))))
 obtain⟨a18,ha18,h⟩:=bind_some h
 refine AWP.z (.callF (r2:=.c (.ptr 7 0 0)) (σ'':=[.one (.cells 3 [(wW start goal 1 l4.length)]),.one (vec 4 d7 l4),mmap 2 2 vU j9 ([]:List (Int×List z6)),.one (.cells 1 [[.map 2]]),.one (mapB vU vI ([]:List (Int×Int))),.one (pmap 6 vU ([]:List (Int×Int))),pool 4 b8 ([]:List b9),.one (.cells 3 [[.own 8 0 (([]:Li).length),.map 5,int 0]]),.one (prow 6 ([]:Li))]) Z Z Z (FnOk.lend [] (aq1 ha18) Z Z Z Z Z Z (by exact trivial) Z (by exact trivial) Z Z (by exact⟨(.old Z Z Z),(.old Z Z Z),(.old Z Z Z),(.old Z Z Z),(.old Z Z Z),(.new 0 Z Z (.one (m9 fun _=>Z))),(.new 1 Z Z RenE.pool),(.new 2 Z Z (.one Z)),(.new 3 Z Z (.one (f9 fun _=>Z))),Y⟩)) (.u Z Z (.nil (b5 (.q (.q (.z (.j Z Z (S.len Z Z (fun hl20=>.j Z Z (.nil (b5 (.O ?_)))))))))))))
 obtain⟨⟨c56,c57,c58,c59,c60,c61⟩,ho1,h⟩:=bind_some h
 try dsimp only at h
 refine AWP.forS ho1 (fun t62 (c56,c57,c58,c59,c60,c61)=>⟨[(0,.c (.ptr 0 0 0)),(5,.c (.ptr 3 0 0)),(6,.c (.map 4)),(7,.c (.ptr 7 0 0)),(19,.c (row 1 eU32 l)),(20,.c (int (l.length:Int))),(21,.c (int t62))],[.one (.cells 3 [(wW start goal 1 l4.length)]),.one (vec 4 d7 l4),mmap 2 2 vU j9 c56,.one (.cells 1 [[.map 2]]),.one (mapB vU vI c57),.one (pmap 6 vU c58),pool 4 b8 c59,.one (.cells 3 [[.own 8 0 c61.length,.map 5,int c60]]),.one (prow 6 c61)]⟩) (fun(c56,c57,c58,c59,c60,c61) e st=>e=.exit 0∧Sub (U2 l start goal l4) st ⟨[(5,.c (.ptr 3 0 0)),(6,.c (.map 4)),(7,.c (.ptr 7 0 0))],[.one (.cells 3 [(wW start goal 1 l4.length)]),.one (vec 4 d7 l4),mmap 2 2 vU j9 c56,.one (.cells 1 [[.map 2]]),.one (mapB vU vI c57),.one (pmap 6 vU c58),pool 4 b8 c59,.one (.cells 3 [[.own 8 0 c61.length,.map 5,int c60]]),.one (prow 6 c61)]⟩) ?_ ?_ ?_ ?_
 ·try dsimp only
  exact Sub.env ⟨Z,Z,Z,Z,Z,Z,Z,Y⟩
 ·intro t62 s hlot62 hltt62 _
  obtain⟨c56,c57,c58,c59,c60,c61⟩:=s
  try dsimp only
  refine AWP.q (.z (.J Z Z Z (.nil (b5 (.q (.ae Z hltt62 (.exit (d8 (d8 ⟨Z,?_⟩)))))))))
  exact Sub.env ⟨Z,Z,Z,Y⟩
 ·intro t62 s o hlot62 hltt62 h
  obtain⟨c56,c57,c58,c59,c60,c61⟩:=s
  unfold N1 at h
  try dsimp only at h ⊢
  refine AWP.q (.z (.J Z Z Z (.nil (b5 (.q (.af Z hltt62 (.skip (b5 (.q (.O (.q ?_)))))))))))
  obtain⟨a23,ha23,h⟩:=bind_some h
  refine AWP.z (S.idx ha23 Z Z Z Z (.ad Z Z Z Z (W.alloc Z Z Z Z (W.store Z Z Z Z Z (.nil (b5 (.q (.z (.j Z Z (.F Z Z Z Z Z Z (W.mapUpdate (fk:=vU) (fv:=vI) (k:=a23) (a:=1000000000) I9 Z Z Z Z Z (.nil (b5 ?_)))))))))))))
  obtain⟨⟨c63,c64,c65,c66,c67⟩,hx68,h⟩:=bind_some h
  refine AWP.seqJ (⟨[(0,.c (.ptr 0 0 0)),(5,.c (.ptr 3 0 0)),(6,.c (.map 4)),(7,.c (.ptr 7 0 0)),(9,.c (.ptr 9 0 0)),(19,.c (row 1 eU32 l)),(20,.c (int (l.length:Int))),(21,.c (int t62))],[.one (.cells 3 [(wW start goal 1 l4.length)]),.one (vec 4 d7 l4),mmap 2 2 vU j9 c56,.one (.cells 1 [[.map 2]]),.one (mapB vU vI c63),.one (pmap 11 vU c64),.dead,.one (.cells 3 [[.own 10 0 c66.length,.map 5,int c65]]),.dead,.one (.cells 1 [[.imm (.val (.int .u32 a23))]]),.one (prow 11 c66),pool 4 b8 c67]⟩) ?_ ?_
  ·refine AWP.q ?_
   obtain⟨a29,ha29,hx68⟩:=bind_some hx68
   refine AWP.z (.j Z Z (.F Z Z Z Z Z Z (.callF (r2:=.c (bool (decide (Go.bits .and .u32 a23 goal=goal)))) (σ'':=[.one (.cells 3 [(wW start goal 1 l4.length)]),.one (vec 4 d7 l4),mmap 2 2 vU j9 c56,.one (.cells 1 [[.map 2]]),.one (mapB vU vI (mset c57 a23 1000000000)),.one (pmap 6 vU c58),pool 4 b8 c59,.one (.cells 3 [[.own 8 0 c61.length,.map 5,int c60]]),.one (prow 6 c61),.one (.cells 1 [[.imm (.val (.int .u32 a23))]])]) Z Z Z (FnOk.lend [0,1] (as3 ha29) Z Z Z Z Z Z (by exact⟨(.one Z),.vec,Y⟩) Z (by exact⟨(.live Z (.one Z)),(.live Z .vec),Y⟩) Z Z (by exact⟨(.new 0 Z Z (.one Z)),(.new 1 Z Z .vec),(.old Z Z Z),(.old Z Z Z),(.old Z Z Z),(.old Z Z Z),(.old Z Z Z),(.old Z Z Z),(.old Z Z Z),(.old Z Z Z),Y⟩)) (.nil (b5 (.ite Z hx68 (fun hc69 hx68=> ?_) (fun hc69 hx68=> ?_)))))))
   ·refine AWP.q (.z (.j Z Z (.F Z Z Z Z Z Z (W.mapUpdate (fk:=vU) (fv:=vI) (k:=a23) (a:=0) I9 Z Z Z Z Z (.nil (b5 ?_))))))
    obtain⟨a34,ha34,hx68⟩:=bind_some hx68
    refine AWP.z (.j Z Z (.F Z Z Z Z Z Z (.callF (r2:=.tup []) (σ'':=[.one (.cells 3 [(wW start goal 1 l4.length)]),.one (vec 4 d7 l4),mmap 2 2 vU j9 c56,.one (.cells 1 [[.map 2]]),.one (mapB vU vI (mset (mset c57 a23 1000000000) a23 0)),.one (pmap 11 vU a34.1),.dead,.one (.cells 3 [[.own 10 0 a34.2.1.length,.map 5,int (w64 (c60+1))]]),.dead,.one (.cells 1 [[.imm (.val (.int .u32 a23))]]),.one (prow 11 a34.2.1),pool 4 b8 a34.2.2]) Z Z Z (FnOk.lend [7,8,5,6] (ag3 ha34) Z Z Z Z Z Z (by exact⟨(.one Z),(.one (i7 Z)),(.one (k9 Z)),(.any n9),Y⟩) Z (by exact⟨(.live Z (.one Z)),(.live Z (.one (f9 fun _=>Z))),(.live Z (.one (m9 fun _=>Z))),(.live Z RenE.pool),Y⟩) Z Z (by exact⟨(.old Z Z Z),(.old Z Z Z),(.old Z Z Z),(.old Z Z Z),(.old Z Z Z),(.new 2 Z Z (.one (m9 fun _=>Z))),.dead,(.new 0 Z Z (.one Z)),.dead,(.old Z Z Z),(.new 4 Z Z (.one (f9 fun _=>Z))),(.new 5 Z Z RenE.pool),Y⟩)) (.nil ?_))))
    obtain⟨ej0,ej1,ej2,ej3,ej4⟩:=o5 hx68
    subst ej0 ej1 ej2 ej3 ej4
    refine b5 (Sub.env ⟨Z,Z,Z,Z,Z,Z,Z,Z,Y⟩)
   ·refine AWP.skip ?_
    obtain⟨ej0,ej1,ej2,ej3,ej4⟩:=o5 hx68
    subst ej0 ej1 ej2 ej3 ej4
    refine b5 ((Sub.move (env':=[(0,.c (.ptr 0 0 0)),(5,.c (.ptr 3 0 0)),(6,.c (.map 4)),(7,.c (.ptr 7 0 0)),(9,.c (.ptr 9 0 0)),(19,.c (row 1 eU32 l)),(20,.c (int (l.length:Int))),(21,.c (int t62))]) (σ':=[.one (.cells 3 [(wW start goal 1 l4.length)]),.one (vec 4 d7 l4),mmap 2 2 vU j9 c56,.one (.cells 1 [[.map 2]]),.one (mapB vU vI (mset c57 a23 1000000000)),.one (pmap 6 vU c58),pool 4 b8 c59,.one (.cells 3 [[.own 10 0 c61.length,.map 5,int c60]]),.dead,.one (.cells 1 [[.imm (.val (.int .u32 a23))]]),.one (prow 6 c61)]) 10 8 Z Z Z ⟨Z,Z,Z,Z,Z,Z,Z,Z,Y⟩ Z ⟨⟨Z,Z⟩,⟨Blk.im_ok _ _ _,i6 Z⟩,(x9.mmap Z Z Z),⟨Z,Z⟩,⟨Z,Z⟩,⟨k9 Z,B1 Z O9⟩,(x9.pool Z),⟨Z,Z⟩,trivial,⟨Z,Z⟩,⟨i7 Z,B1 Z O8⟩,Y⟩).trans ((Sub.moveM (env':=[(0,.c (.ptr 0 0 0)),(5,.c (.ptr 3 0 0)),(6,.c (.map 4)),(7,.c (.ptr 7 0 0)),(9,.c (.ptr 9 0 0)),(19,.c (row 1 eU32 l)),(20,.c (int (l.length:Int))),(21,.c (int t62))]) (σ':=[.one (.cells 3 [(wW start goal 1 l4.length)]),.one (vec 4 d7 l4),mmap 2 2 vU j9 c56,.one (.cells 1 [[.map 2]]),.one (mapB vU vI (mset c57 a23 1000000000)),.one (pmap 11 vU c58),.dead,.one (.cells 3 [[.own 10 0 c61.length,.map 5,int c60]]),.dead,.one (.cells 1 [[.imm (.val (.int .u32 a23))]]),.one (prow 11 c61),pool 4 b8 c59]) 11 6 Z Z Z ⟨Z,Z,Z,Z,Z,Z,Z,Z,Y⟩ Z ⟨(.one Z Z),(.vec Z),(EntR.mmap Z Z Z),(.one Z Z),(.one Z Z),(.one (k9 Z) (H9 Z Z (m9 fun _=>Z))),.dead,(.one Z Z),.dead,(.one Z Z),(.one (i7 Z) (H9 Z Z (f9 fun _=>Z))),(EntR.pool Z Z),Y⟩).trans (Sub.env ⟨Z,Z,Z,Z,Z,Z,Z,Z,Y⟩)))
  ·try dsimp only at h
   refine AWP.q ?_
   obtain⟨a37,ha37,h⟩:=bind_some h
   refine AWP.z (.j Z Z (.F Z Z Z Z Z Z (.callF (r2:=.c (.fn 106 [.ptr 12 0 0,.ptr 13 0 0])) (σ'':=[.one (.cells 3 [(wW start goal 1 l4.length)]),.one (vec 4 d7 l4),mmap 2 2 vU j9 c56,.one (.cells 1 [[.map 2]]),.one (mapB vU vI c63),.one (pmap 11 vU c64),.dead,.one (.cells 3 [[.own 10 0 c66.length,.map 5,int c65]]),.dead,.one (.cells 1 [[.imm (.val (.int .u32 a23))]]),.one (prow 11 c66),pool 4 b8 c67,.one (.cells 1 [[.ptr 0 0 0]]),.one (.cells 1 [[.imm (.val (.int .u32 a23))]])]) Z Z Z (FnOk.lend [0,1] (ac8 ha37) Z Z Z Z Z Z (by exact⟨(.one Z),.vec,Y⟩) Z (by exact⟨(.live Z (.one Z)),(.live Z .vec),Y⟩) Z Z (by exact⟨(.new 0 Z Z (.one Z)),(.new 1 Z Z .vec),(.old Z Z Z),(.old Z Z Z),(.old Z Z Z),(.old Z Z Z),.dead,(.old Z Z Z),.dead,(.old Z Z Z),(.old Z Z Z),(.old Z Z Z),(.new 2 Z Z (.one Z)),(.new 3 Z Z (.one Z)),Y⟩)) (.nil (b5 (.O ?_))))))
   obtain⟨c71,hr70,h⟩:=bind_some h
   refine AWP.rangeB [(5,none),(9,none)] Z Z Z (fun as70 bo70 hA70 hB70=>⟨[.one (.cells 3 [(wW start goal 1 l4.length)]),.one (vec 4 d7 l4),mmap 2 2 vU j9 c56,.one (.cells 1 [[.map 2]]),.one (mapB vU vI c63),.one (pmap 11 vU c64),.dead,.one (.cells 3 [[.own 10 0 c66.length,.map 5,int c65]]),.dead,.one (.cells 1 [[.imm (.val (.int .u32 a23))]]),.one (prow 11 c66),pool 4 b8 c67,.one (.cells 1 [[.ptr 0 0 0]]),.one (.cells 1 [[.imm (.val (.int .u32 a23))]]),.one (y4 96 [38] as70 bo70 .ready none [(5,none),(9,none)] [.ptr 3 0 0,.ptr 9 0 0])],fun tt ss=>tt=.tup []∧ss=[.one (.cells 3 [(wW start goal 1 l4.length)]),.one (vec 4 d7 l4),.dead,.one (.cells 1 [[.map 15]]),.one (mapB vU vI c63),.one (pmap 11 vU c64),.dead,.one (.cells 3 [[.own 10 0 c66.length,.map 5,int c65]]),.dead,.one (.cells 1 [[.imm (.val (.int .u32 a23))]]),.one (prow 11 c66),pool 4 b8 c67,.one (.cells 1 [[.ptr 0 0 0]]),.one (.cells 1 [[.imm (.val (.int .u32 a23))]]),.one (y4 96 [38] as70 bo70 .ready none [(5,none),(9,none)] [.ptr 3 0 0,.ptr 9 0 0]),mmap 15 2 vU j9 c71],Z,?_,?_⟩)
   ·refine FnOk.enter (rs:=[]) func106 Z ntmps106 results106 Z trivial (by kernel_rfl) Z ?_
    refine AWP.weak ?_
    unfold U3 at hr70
    try dsimp only at hr70
    refine AWP.moveM (env':=[(0,.c (.yld 14)),(1,.c (.ptr 12 0 0)),(2,.c (.ptr 13 0 0))]) (σ':=[.one (.cells 3 [(wW start goal 1 l4.length)]),.one (vec 4 d7 l4),.dead,.one (.cells 1 [[.map 15]]),.one (mapB vU vI c63),.one (pmap 11 vU c64),.dead,.one (.cells 3 [[.own 10 0 c66.length,.map 5,int c65]]),.dead,.one (.cells 1 [[.imm (.val (.int .u32 a23))]]),.one (prow 11 c66),pool 4 b8 c67,.one (.cells 1 [[.ptr 0 0 0]]),.one (.cells 1 [[.imm (.val (.int .u32 a23))]]),.one (y4 96 [38] as70 bo70 .ready none [(5,none),(9,none)] [.ptr 3 0 0,.ptr 9 0 0]),mmap 15 2 vU j9 c56]) 15 2 Z Z Z ⟨Z,Z,Z,Y⟩ Z ⟨(.one Z Z),(.vec Z),.dead,(.one Z Z),(.one Z Z),(.one (k9 Z) (H9 Z Z (m9 fun _=>Z))),.dead,(.one Z Z),.dead,(.one Z Z),(.one (i7 Z) (H9 Z Z (f9 fun _=>Z))),(EntR.pool Z Z),(.one Z Z),(.one Z Z),(.one Z Z),(EntR.mmap Z Z Z),Y⟩ ?_
    refine AWP.q (.z (.F Z Z Z Z Z Z (.ai Z Z Z (W.fieldAddr Z Z Z Z (.F Z Z Z Z Z Z (S.lenO Z Z Z (fun hl10=>.j Z Z (.nil (b5 (.O ?_))))))))))
    obtain⟨c72,ho2,hr70⟩:=bind_some hr70
    refine AWP.forS ho2 (fun t73 c72=>⟨[(0,.c (.yld 14)),(2,.c (.ptr 13 0 0)),(9,.c (.own 1 0 l4.length)),(10,.c (int (l4.length:Int))),(11,.c (int t73))],[.one (.cells 3 [(wW start goal 1 l4.length)]),.one (vec 4 d7 l4),.dead,.one (.cells 1 [[.map 15]]),.one (mapB vU vI c63),.one (pmap 11 vU c64),.dead,.one (.cells 3 [[.own 10 0 c66.length,.map 5,int c65]]),.dead,.one (.cells 1 [[.imm (.val (.int .u32 a23))]]),.one (prow 11 c66),pool 4 b8 c67,.one (.cells 1 [[.ptr 0 0 0]]),.one (.cells 1 [[.imm (.val (.int .u32 a23))]]),.one (y4 96 [38] as70 bo70 .ready none [(5,none),(9,none)] [.ptr 3 0 0,.ptr 9 0 0]),mmap 15 2 vU j9 c72]⟩) (fun c72 e st=>e=.exit 0∧Sub ([.one (.cells 3 [(wW start goal 1 l4.length)]),.one (vec 4 d7 l4),mmap 2 2 vU j9 c56,.one (.cells 1 [[.map 2]]),.one (mapB vU vI c63),.one (pmap 11 vU c64),.dead,.one (.cells 3 [[.own 10 0 c66.length,.map 5,int c65]]),.dead,.one (.cells 1 [[.imm (.val (.int .u32 a23))]]),.one (prow 11 c66),pool 4 b8 c67,.one (.cells 1 [[.ptr 0 0 0]]),.one (.cells 1 [[.imm (.val (.int .u32 a23))]]),.one (y4 96 [38] as70 bo70 .ready none [(5,none),(9,none)] [.ptr 3 0 0,.ptr 9 0 0])]:b6) st ⟨[],[.one (.cells 3 [(wW start goal 1 l4.length)]),.one (vec 4 d7 l4),.dead,.one (.cells 1 [[.map 15]]),.one (mapB vU vI c63),.one (pmap 11 vU c64),.dead,.one (.cells 3 [[.own 10 0 c66.length,.map 5,int c65]]),.dead,.one (.cells 1 [[.imm (.val (.int .u32 a23))]]),.one (prow 11 c66),pool 4 b8 c67,.one (.cells 1 [[.ptr 0 0 0]]),.one (.cells 1 [[.imm (.val (.int .u32 a23))]]),.one (y4 96 [38] as70 bo70 .ready none [(5,none),(9,none)] [.ptr 3 0 0,.ptr 9 0 0]),mmap 15 2 vU j9 c72]⟩) ?_ ?_ ?_ ?_
    ·try dsimp only
     exact Sub.env ⟨Z,Z,Z,Z,Z,Y⟩
    ·intro t73 c72 hlot73 hltt73 _
     try dsimp only
     refine AWP.q (.z (.J Z Z Z (.nil (b5 (.q (.ae Z hltt73 (.exit (d8 (d8 ⟨Z,?_⟩)))))))))
     exact Sub.env trivial
    ·intro t73 c72 o hlot73 hltt73 h
     unfold U4 at h
     try dsimp only at h ⊢
     refine AWP.q (.z (.J Z Z Z (.nil (b5 (.q (.af Z hltt73 (.skip (b5 (.q (.O (.q ?_)))))))))))
     obtain⟨ai14,hai14,h⟩:=bind_some h
     refine AWP.z (.j Z Z (S.idxO hai14 Z Z Z Z Z (S.loadOAgg hai14 Z Z Z Z Z Z Z (W.alloc Z Z Z Z (.u Z Z (W.storeAgg Z Z Z Z Z Z Z (.nil (b5 (.q ?_)))))))))
     rcases bft (decide (Go.bits .and .u32 a23 ai14.pre=ai14.pre)) with hb74|hb74
     ·replace h:=J5 hb74 h
      refine AWP.z (.F Z Z Z Z Z Z (W.fieldAddr Z Z Z Z (.F Z Z Z Z Z Z (.bits Z Z Z (by simp) (W.fieldAddr Z Z Z Z (.F Z Z Z Z Z Z (.eql Z Z Z (.j Z Z (.B Z Z Z hb74 (.j Z Z (.B Z Z Z hb74 (.j Z Z (.B Z Z Z hb74 (W.fieldAddr Z Z Z Z (.B Z Z Z hb74 (.F Z Z Z Z Z Z (.B Z Z Z hb74 (.F Z Z Z Z Z Z (.B Z Z Z hb74 (W.fieldAddr Z Z Z Z (.B Z Z Z hb74 (.F Z Z Z Z Z Z (.B Z Z Z hb74 (.bits Z Z Z (by simp) (.B Z Z Z hb74 (W.fieldAddr Z Z Z Z (.B Z Z Z hb74 (.F Z Z Z Z Z Z (.B Z Z Z hb74 (.bits Z Z Z (by simp) (.B Z Z Z hb74 (W.build Z Z Z Z ?_))))))))))))))))))))))))))))))))
      refine AOps.B Z Z Z hb74 ?_;refine AOps.yieldB (E1:=[(10,.c (.ptr 17 0 0)),(38,.agg [int t73,int ai14.cost,.imm (.val (.int .u32 (Go.bits .or .u32 (Go.bits .andNot .u32 a23 ai14.del) ai14.add)))]),(5,.c (.ptr 3 0 0)),(9,.c (.ptr 9 0 0))]) (σ1:=[.one (.cells 3 [(wW start goal 1 l4.length)]),.one (vec 4 d7 l4),.dead,.one (.cells 1 [[.map 15]]),.one (mapB vU vI c63),.one (pmap 11 vU c64),.dead,.one (.cells 3 [[.own 10 0 c66.length,.map 5,int c65]]),.dead,.one (.cells 1 [[.imm (.val (.int .u32 a23))]]),.one (prow 11 c66),pool 4 b8 c67,.one (.cells 1 [[.ptr 0 0 0]]),.one (.cells 1 [[.imm (.val (.int .u32 a23))]]),.one (y4 96 [38] as70 bo70 .ready none [(5,none),(9,none)] [.ptr 3 0 0,.ptr 9 0 0]),mmap 15 2 vU j9 c72,.one (.cells 4 [[.imm (.val (.int .u32 ai14.pre)),.imm (.val (.int .u32 ai14.add)),.imm (.val (.int .u32 ai14.del)),int ai14.cost]]),.one (.cells 3 [[int t73,int ai14.cost,.imm (.val (.int .u32 (Go.bits .or .u32 (Go.bits .andNot .u32 a23 ai14.del) ai14.add)))]])]) hA70 hB70 Z Z Z Z Z Z Z Z Z Z ?_ ?_
      ·refine AWP.z (W.alloc Z Z Z Z (W.storeAgg Z Z Z Z Z Z Z (.nil ?_)))
       exact⟨Z,Z⟩
      refine AWP.sub (s':=⟨[(5,.c (.ptr 3 0 0)),(9,.c (.ptr 9 0 0)),(10,.c (.ptr 17 0 0))],[.one (.cells 3 [(wW start goal 1 l4.length)]),.one (vec 4 d7 l4),.dead,.one (.cells 1 [[.map 15]]),.one (mapB vU vI c63),.one (pmap 11 vU c64),.dead,.one (.cells 3 [[.own 10 0 c66.length,.map 5,int c65]]),.dead,.one (.cells 1 [[.imm (.val (.int .u32 a23))]]),.one (prow 11 c66),pool 4 b8 c67,.one (.cells 1 [[.ptr 0 0 0]]),.one (.cells 1 [[.imm (.val (.int .u32 a23))]]),.one (y4 96 [38] as70 bo70 .busy none [(5,none),(9,none)] [.ptr 3 0 0,.ptr 9 0 0]),mmap 15 2 vU j9 c72,.one (.cells 4 [[.imm (.val (.int .u32 ai14.pre)),.imm (.val (.int .u32 ai14.add)),.imm (.val (.int .u32 ai14.del)),int ai14.cost]]),.one (.cells 3 [[int t73,int ai14.cost,.imm (.val (.int .u32 (Go.bits .or .u32 (Go.bits .andNot .u32 a23 ai14.del) ai14.add)))]])]⟩) (Sub.env ⟨Z,Z,Z,Y⟩) (.O ?_)
      obtain⟨ab51,hab51,h⟩:=bind_some h
      refine AWP.drawEI [11,12,13] mixed Z Z Z ?_
      refine e6.consN Z Z (fun E=>AOps.F Z Z Z Z Z Z .N) Z (.consN Z Z (fun E=>W.fieldAddr Z Z Z Z .N) Z (.consN Z Z (fun E=>AOps.F Z Z Z Z Z Z .N) Z (.consN Z Z (fun E=>AOps.F Z Z Z Z Z Z .N) Z (.consN Z Z (fun E=>W.fieldAddr Z Z Z Z .N) Z (.consN Z Z (fun E=>AOps.F Z Z Z Z Z Z .N) Z (.consN Z Z (fun E=>S.lookupM (fk:=vU) (key:=Go.bits .or .u32 (Go.bits .andNot .u32 a23 ai14.del) ai14.add) I9 Z Z Z Z Z .N) Z (.consN Z Z (fun E=>AOps.F Z Z Z Z Z Z .N) Z (.consN Z Z (fun E=>W.fieldAddr Z Z Z Z .N) Z (.consN Z Z (fun E=>AOps.F Z Z Z Z Z Z .N) Z (.consN Z Z (fun E=>W.build Z Z Z Z .N) Z ?_))))))))))
      apply e6.consE;exact Z;exact Z;intro E
      refine S.lit (f:=j9) (l:=[(⟨a23,ai14.cost⟩:z6)]) (ess:=[[.imm (.val (.int .u32 a23)),int ai14.cost]]) Z Z Z Z Z Z Z ⟨⟨.inl Z,.inl Z,Y⟩,Y⟩ Z Z Z .N
      exact Z
      exact Z
      apply e6.consE;exact Z;exact Z;intro E
      refine S.appendMM (f:=j9) hab51 Z Z Z Z Z (.own Z Z) Z Z Z Z .N
      exact Z
      exact Z
      apply e6.consE (v:=.undef);exact Z;exact Z;intro E
      refine S.updateMM (fk:=vU) (key:=Go.bits .or .u32 (Go.bits .andNot .u32 a23 ai14.del) ai14.add) I9 Z Z Z Z Z .N
      exact Z
      exact Z
      refine e6.done Z ?_ ?_
      ·refine d5.cons Z Z (b7.go Z Z (fun E=>AOps.F Z Z Z Z Z Z .N) (b7.go Z Z (fun E=>AOps.F Z Z Z Z Z Z .N) (b7.go Z Z (fun E=>AOps.F Z Z Z Z Z Z .N) (b7.skip Z (b7.nil))))) (d5.cons Z Z (b7.go Z Z (fun E=>W.fieldAddr Z Z Z Z .N) (b7.go Z Z (fun E=>W.fieldAddr Z Z Z Z .N) (b7.go Z Z (fun E=>W.fieldAddr Z Z Z Z .N) (b7.skip Z (b7.nil))))) (d5.cons Z Z (b7.go Z Z (fun E=>AOps.F Z Z Z Z Z Z .N) (b7.go Z Z (fun E=>AOps.F Z Z Z Z Z Z .N) (b7.go Z Z (fun E=>AOps.F Z Z Z Z Z Z .N) (b7.skip Z (b7.nil))))) (d5.cons Z Z (b7.go Z Z (fun E=>AOps.F Z Z Z Z Z Z .N) (b7.go Z Z (fun E=>AOps.F Z Z Z Z Z Z .N) (b7.skip Z (b7.skip Z (b7.nil))))) (d5.cons Z Z (b7.go Z Z (fun E=>W.fieldAddr Z Z Z Z .N) (b7.go Z Z (fun E=>W.fieldAddr Z Z Z Z .N) (b7.skip Z (b7.skip Z (b7.nil))))) (d5.cons Z Z (b7.go Z Z (fun E=>AOps.F Z Z Z Z Z Z .N) (b7.go Z Z (fun E=>AOps.F Z Z Z Z Z Z .N) (b7.skip Z (b7.skip Z (b7.nil))))) (d5.cons Z Z (b7.go Z Z (fun E=>S.lookupM (fk:=vU) (key:=Go.bits .or .u32 (Go.bits .andNot .u32 a23 ai14.del) ai14.add) I9 Z Z Z Z Z .N) (b7.go Z Z (fun E=>S.lookupM (fk:=vU) (key:=Go.bits .or .u32 (Go.bits .andNot .u32 a23 ai14.del) ai14.add) I9 Z Z Z Z Z .N) (b7.skip Z (b7.skip Z (b7.nil))))) (d5.cons Z Z (b7.go Z Z (fun E=>AOps.F Z Z Z Z Z Z .N) (b7.skip Z (b7.skip Z (b7.skip Z (b7.nil))))) (d5.cons Z Z (b7.go Z Z (fun E=>W.fieldAddr Z Z Z Z .N) (b7.skip Z (b7.skip Z (b7.skip Z (b7.nil))))) (d5.cons Z Z (b7.go Z Z (fun E=>AOps.F Z Z Z Z Z Z .N) (b7.skip Z (b7.skip Z (b7.skip Z (b7.nil))))) (d5.cons Z Z (b7.go Z Z (fun E=>W.build Z Z Z Z .N) (b7.skip Z (b7.skip Z (b7.skip Z (b7.nil))))) ?_))))))))))
       refine d5.skip Z (d5.skip Z (d5.skip Z (d5.nil)))
      dsimp only[l7]
      refine d6 (ap1 Z Z (.B Z Z Z hb74 (.not Z Z (.aa Z hb74 Z Z (.nil (b5 (.j (env':=[(0,.c (.yld 14)),(2,.c (.ptr 13 0 0)),(9,.c (.own 1 0 l4.length)),(10,.c (int (l4.length:Int))),(11,.c (int t73)),(38,.c (bool false))]) (σ':=[.one (.cells 3 [(wW start goal 1 l4.length)]),.one (vec 4 d7 l4),.dead,.one (.cells 1 [[.map 15]]),.one (mapB vU vI c63),.one (pmap 11 vU c64),.dead,.one (.cells 3 [[.own 10 0 c66.length,.map 5,int c65]]),.dead,.one (.cells 1 [[.imm (.val (.int .u32 a23))]]),.one (prow 11 c66),pool 4 b8 c67,.one (.cells 1 [[.ptr 0 0 0]]),.one (.cells 1 [[.imm (.val (.int .u32 a23))]]),.one (y4 96 [38] as70 bo70 .ready none [(5,none),(9,none)] [.ptr 3 0 0,.ptr 9 0 0]),mmap 15 2 vU j9 (mset c72 (Go.bits .or .u32 (Go.bits .andNot .u32 a23 ai14.del) ai14.add) ab51),.one (.cells 4 [[.imm (.val (.int .u32 ai14.pre)),.imm (.val (.int .u32 ai14.add)),.imm (.val (.int .u32 ai14.del)),int ai14.cost]]),.one (.cells 3 [[int t73,int ai14.cost,.imm (.val (.int .u32 (Go.bits .or .u32 (Go.bits .andNot .u32 a23 ai14.del) ai14.add)))]]),.one (vec 2 j9 [(⟨a23,ai14.cost⟩:z6)])]) (15,[posM c72 (Go.bits .or .u32 (Go.bits .andNot .u32 a23 ai14.del) ai14.add)]) (19,[]) Z Z Z ⟨Z,Z,Z,Z,Z,Z,Y⟩ Z ⟨⟨Z,Z⟩,⟨Blk.im_ok _ _ _,i6 Z⟩,trivial,⟨Z,Z⟩,⟨Z,Z⟩,⟨k9 Z,af6 Z (pmap_mvR Z) ai8⟩,trivial,⟨Z,Z⟩,trivial,⟨Z,Z⟩,⟨i7 Z,af6 Z (prow_mvR Z) ai8⟩,(x9.poolR Z Z),⟨Z,Z⟩,⟨Z,Z⟩,⟨Z,Z⟩,(x9.putMM Z Z Z Z),⟨Z,Z⟩,⟨Z,Z⟩,⟨Blk.im_ok _ _ _,i6 Z⟩,Y⟩ (.condF Z (.skip (d6 (b5 (.z (.add Z Z Z (by omega) (.j Z Z (.nil ?_)))))))))))))))
      obtain rfl:=oi h
      refine b5 (Sub.cut ⟨Z,Z,Z,Z,Z,Y⟩ Z ⟨.one Z,.vec,.dead,.one Z,.one Z,(.one (k9 Z)),.dead,.one Z,.dead,.one Z,(.one (i7 Z)),(.any n9),.one Z,.one Z,.one Z,(.any (mm_ok Z)),Y⟩ Z)
     ·replace h:=J9 hb74 h
      refine AWP.z (.F Z Z Z Z Z Z (W.fieldAddr Z Z Z Z (.F Z Z Z Z Z Z (.bits Z Z Z (by simp) (W.fieldAddr Z Z Z Z (.F Z Z Z Z Z Z (.eql Z Z Z (.j Z Z (.E Z Z Z hb74 (.E Z Z Z hb74 (.E Z Z Z hb74 (.E Z Z Z hb74 (.E Z Z Z hb74 (.E Z Z Z hb74 (.E Z Z Z hb74 (.E Z Z Z hb74 (.E Z Z Z hb74 (.E Z Z Z hb74 (.E Z Z Z hb74 (.E Z Z Z hb74 (.E Z Z Z hb74 (.E Z Z Z hb74 (.ab Z hb74 Z Z (.nil (b5 (.condF Z (.skip (d6 (b5 (.z (.add Z Z Z (by omega) (.j Z Z (.nil ?_)))))))))))))))))))))))))))))))))
      obtain rfl:=oi h
      refine b5 (Sub.cut ⟨Z,Z,Z,Z,Z,Y⟩ Z ⟨.one Z,.vec,.dead,.one Z,.one Z,(.one (k9 Z)),.dead,.one Z,.dead,.one Z,(.one (i7 Z)),(.any n9),.one Z,.one Z,.one Z,(.any (mm_ok Z)),Y⟩ Z)
    ·intro e s hq
     obtain⟨rfl,hs⟩:=hq
     refine⟨_,hs,?_⟩
     refine g8 ?_
     obtain rfl:=oi hr70
     exact⟨⟨[],[.one (.cells 3 [(wW start goal 1 l4.length)]),.one (vec 4 d7 l4),.dead,.one (.cells 1 [[.map 15]]),.one (mapB vU vI c63),.one (pmap 11 vU c64),.dead,.one (.cells 3 [[.own 10 0 c66.length,.map 5,int c65]]),.dead,.one (.cells 1 [[.imm (.val (.int .u32 a23))]]),.one (prow 11 c66),pool 4 b8 c67,.one (.cells 1 [[.ptr 0 0 0]]),.one (.cells 1 [[.imm (.val (.int .u32 a23))]]),.one (y4 96 [38] as70 bo70 .ready none [(5,none),(9,none)] [.ptr 3 0 0,.ptr 9 0 0]),mmap 15 2 vU j9 c72]⟩,Sub.env trivial,Done.normal Z ⟨Z,Z⟩⟩
   ·rintro tt ss ⟨rfl,rfl⟩
    try dsimp only at h ⊢
    refine ax4 Z Z (d6 (d6 (b5 (.z (.add Z Z Z (by omega) (.j Z Z (.nil ?_)))))))
    obtain rfl:=oi h
    refine b5 ((Sub.moveM (env':=[(0,.c (.ptr 0 0 0)),(5,.c (.ptr 3 0 0)),(6,.c (.map 4)),(7,.c (.ptr 7 0 0)),(19,.c (row 1 eU32 l)),(20,.c (int (l.length:Int))),(21,.c (int (t62+1)))]) (σ':=[.one (.cells 3 [(wW start goal 1 l4.length)]),.one (vec 4 d7 l4),mmap 2 2 vU j9 c71,.one (.cells 1 [[.map 2]]),.one (mapB vU vI c63),.one (pmap 11 vU c64),.dead,.one (.cells 3 [[.own 10 0 c66.length,.map 5,int c65]]),.dead,.one (.cells 1 [[.imm (.val (.int .u32 a23))]]),.one (prow 11 c66),pool 4 b8 c67,.one (.cells 1 [[.ptr 0 0 0]]),.one (.cells 1 [[.imm (.val (.int .u32 a23))]]),.dead]) 2 15 Z Z Z ⟨Z,Z,Z,Z,Z,Z,Z,Y⟩ Z ⟨(.one Z Z),(.vec Z),(EntR.mmap Z Z Z),(.one Z Z),(.one Z Z),(.one (k9 Z) (H9 Z Z (m9 fun _=>Z))),.dead,(.one Z Z),.dead,(.one Z Z),(.one (i7 Z) (H9 Z Z (f9 fun _=>Z))),(EntR.pool Z Z),(.one Z Z),(.one Z Z),.dead,Y⟩).trans ((Sub.move (env':=[(0,.c (.ptr 0 0 0)),(5,.c (.ptr 3 0 0)),(6,.c (.map 4)),(7,.c (.ptr 7 0 0)),(19,.c (row 1 eU32 l)),(20,.c (int (l.length:Int))),(21,.c (int (t62+1)))]) (σ':=[.one (.cells 3 [(wW start goal 1 l4.length)]),.one (vec 4 d7 l4),mmap 2 2 vU j9 c71,.one (.cells 1 [[.map 2]]),.one (mapB vU vI c63),.one (pmap 11 vU c64),.dead,.one (.cells 3 [[.own 8 0 c66.length,.map 5,int c65]]),.one (prow 11 c66),.one (.cells 1 [[.imm (.val (.int .u32 a23))]]),.dead,pool 4 b8 c67,.one (.cells 1 [[.ptr 0 0 0]]),.one (.cells 1 [[.imm (.val (.int .u32 a23))]]),.dead]) 8 10 Z Z Z ⟨Z,Z,Z,Z,Z,Z,Z,Y⟩ Z ⟨⟨Z,Z⟩,⟨Blk.im_ok _ _ _,i6 Z⟩,(x9.mmap Z Z Z),⟨Z,Z⟩,⟨Z,Z⟩,⟨k9 Z,B1 Z O9⟩,trivial,⟨Z,Z⟩,⟨i7 Z,B1 Z O8⟩,⟨Z,Z⟩,trivial,(x9.pool Z),⟨Z,Z⟩,⟨Z,Z⟩,trivial,Y⟩).trans ((Sub.moveM (env':=[(0,.c (.ptr 0 0 0)),(5,.c (.ptr 3 0 0)),(6,.c (.map 4)),(7,.c (.ptr 7 0 0)),(19,.c (row 1 eU32 l)),(20,.c (int (l.length:Int))),(21,.c (int (t62+1)))]) (σ':=[.one (.cells 3 [(wW start goal 1 l4.length)]),.one (vec 4 d7 l4),mmap 2 2 vU j9 c71,.one (.cells 1 [[.map 2]]),.one (mapB vU vI c63),.one (pmap 6 vU c64),pool 4 b8 c67,.one (.cells 3 [[.own 8 0 c66.length,.map 5,int c65]]),.one (prow 6 c66),.one (.cells 1 [[.imm (.val (.int .u32 a23))]]),.dead,.dead,.one (.cells 1 [[.ptr 0 0 0]]),.one (.cells 1 [[.imm (.val (.int .u32 a23))]]),.dead]) 6 11 Z Z Z ⟨Z,Z,Z,Z,Z,Z,Z,Y⟩ Z ⟨(.one Z Z),(.vec Z),(EntR.mmap Z Z Z),(.one Z Z),(.one Z Z),(.one (k9 Z) (H9 Z Z (m9 fun _=>Z))),(EntR.pool Z Z),(.one Z Z),(.one (i7 Z) (H9 Z Z (f9 fun _=>Z))),(.one Z Z),.dead,.dead,(.one Z Z),(.one Z Z),.dead,Y⟩).trans (Sub.cut ⟨Z,Z,Z,Z,Z,Z,Z,Y⟩ Z ⟨.one Z,.vec,(.any (mm_ok Z)),.one Z,.one Z,(.one (k9 Z)),(.any n9),.one Z,(.one (i7 Z)),Y⟩ Z))))
 ·intro e s hq
  obtain⟨rfl,hs⟩:=hq
  refine⟨_,hs,?_⟩
  refine g8 (b5 (.q (.O ?_)))
  obtain⟨c80,ho4,h⟩:=bind_some h
  refine AWP.loopS ho4 (fun(c75,c76,c77,c78,c79)=>⟨[(5,.c (.ptr 3 0 0)),(6,.c (.map 4)),(7,.c (.ptr 7 0 0))],[.one (.cells 3 [(wW start goal 1 l4.length)]),.one (vec 4 d7 l4),mmap 2 2 vU j9 c56,.one (.cells 1 [[.map 2]]),.one (mapB vU vI c75),.one (pmap 6 vU c76),pool 4 b8 c77,.one (.cells 3 [[.own 8 0 c79.length,.map 5,int c78]]),.one (prow 6 c79)]⟩) (fun c80 e st=>e=.exit 4∧Sub (U2 l start goal l4) st ⟨[(6,.c (.map 4))],[.one (.cells 3 [(wW start goal 1 l4.length)]),.one (vec 4 d7 l4),.dead,.dead,.one (mapB vU vI c80)]⟩) ?_ ?_ ?_
  ·try dsimp only
   exact Sub.env ⟨Z,Z,Z,Y⟩
  ·intro s o h
   obtain⟨c75,c76,c77,c78,c79⟩:=s
   unfold N5 at h
   try dsimp only at h ⊢
   refine AWP.q (.q ?_)
   obtain⟨a54,ha54,h⟩:=bind_some h
   refine AWP.z (.j Z Z (.callF (r2:=.c (int (c79.length:Int))) (σ'':=[.one (.cells 3 [(wW start goal 1 l4.length)]),.one (vec 4 d7 l4),mmap 2 2 vU j9 c56,.one (.cells 1 [[.map 2]]),.one (mapB vU vI c75),.one (pmap 6 vU c76),pool 4 b8 c77,.one (.cells 3 [[.own 8 0 c79.length,.map 5,int c78]]),.one (prow 6 c79)]) Z Z Z (FnOk.lend [7,8,5,6] (ah8 ha54) Z Z Z Z Z Z (by exact⟨(.one Z),(.one (i7 Z)),(.one (k9 Z)),(.any n9),Y⟩) Z (by exact⟨(.live Z (.one Z)),(.live Z (.one (f9 fun _=>Z))),(.live Z (.one (m9 fun _=>Z))),(.live Z RenE.pool),Y⟩) Z Z (by exact⟨(.old Z Z Z),(.old Z Z Z),(.old Z Z Z),(.old Z Z Z),(.old Z Z Z),(.new 2 Z Z (.one (m9 fun _=>Z))),(.new 3 Z Z RenE.pool),(.new 0 Z Z (.one Z)),(.new 1 Z Z (.one (f9 fun _=>Z))),Y⟩)) (.gtr Z Z Z (.nil (b5 (.ite Z h (fun hc81 h=> ?_) (fun hc81 h=> ?_)))))))
   ·refine AWP.skip (b5 (.O (.q ?_)))
    obtain⟨a58,ha58,h⟩:=bind_some h
    refine AWP.z (.j Z Z (.callF (r2:=.tup [.c (.imm (.val (.int .u32 a58.2.2.2.1))),.c (int a58.2.2.2.2.1),.c (bool a58.2.2.2.2.2)]) (σ'':=[.one (.cells 3 [(wW start goal 1 l4.length)]),.one (vec 4 d7 l4),mmap 2 2 vU j9 c56,.one (.cells 1 [[.map 2]]),.one (mapB vU vI c75),.one (pmap 6 vU a58.1),pool 4 b8 a58.2.1,.one (.cells 3 [[.own 9 0 a58.2.2.1.length,.map 5,int c78]]),.dead,.one (prow 6 a58.2.2.1)]) Z Z Z (FnOk.lend [7,8,5,6] (af5 ha58) Z Z Z Z Z Z (by exact⟨(.one Z),(.one (i7 Z)),(.one (k9 Z)),(.any n9),Y⟩) Z (by exact⟨(.live Z (.one Z)),(.live Z (.one (f9 fun _=>Z))),(.live Z (.one (m9 fun _=>Z))),(.live Z RenE.pool),Y⟩) Z Z (by exact⟨(.old Z Z Z),(.old Z Z Z),(.old Z Z Z),(.old Z Z Z),(.old Z Z Z),(.new 2 Z Z (.one (m9 fun _=>Z))),(.new 3 Z Z RenE.pool),(.new 0 Z Z (.one Z)),.dead,(.new 4 Z Z (.one (f9 fun _=>Z))),Y⟩)) (.j Z Z (.ac Z Z Z (.ac Z Z Z (.ac Z Z Z (.u Z Z (.u Z Z (.u Z Z (.nil (b5 (.q (.z (.F Z Z Z Z Z Z (.j Z Z (S.lookupM (fk:=vU) (key:=a58.2.2.2.1) I9 Z Z Z Z Z (S.lenMM Z Z Z (fun hl65=>.j Z Z (.nil (b5 (.O ?_)))))))))))))))))))))
    obtain⟨⟨c82,c83,c84,c85,c86⟩,ho5,h⟩:=bind_some h
    try dsimp only at h
    refine AWP.forS ho5 (fun t87 (c82,c83,c84,c85,c86)=>⟨[(5,.c (.ptr 3 0 0)),(6,.c (.map 4)),(7,.c (.ptr 7 0 0)),(12,.c (int a58.2.2.2.2.1)),(64,.c (rowC 2 c56 a58.2.2.2.1)),(65,.c (int ((rowM c56 a58.2.2.2.1).length:Int))),(66,.c (int t87))],[.one (.cells 3 [(wW start goal 1 l4.length)]),.one (vec 4 d7 l4),mmap 2 2 vU j9 c56,.one (.cells 1 [[.map 2]]),.one (mapB vU vI c82),.one (pmap 6 vU c83),pool 4 b8 c84,.one (.cells 3 [[.own 9 0 c86.length,.map 5,int c85]]),.dead,.one (prow 6 c86)]⟩) (fun(c82,c83,c84,c85,c86) e st=>e=.exit 6∧Sub (U2 l start goal l4) st ⟨[(5,.c (.ptr 3 0 0)),(6,.c (.map 4)),(7,.c (.ptr 7 0 0))],[.one (.cells 3 [(wW start goal 1 l4.length)]),.one (vec 4 d7 l4),mmap 2 2 vU j9 c56,.one (.cells 1 [[.map 2]]),.one (mapB vU vI c82),.one (pmap 6 vU c83),pool 4 b8 c84,.one (.cells 3 [[.own 9 0 c86.length,.map 5,int c85]]),.dead,.one (prow 6 c86)]⟩) ?_ ?_ ?_ ?_
    ·try dsimp only
     exact Sub.env ⟨Z,Z,Z,Z,Z,Z,Z,Y⟩
    ·intro t87 s hlot87 hltt87 _
     obtain⟨c82,c83,c84,c85,c86⟩:=s
     try dsimp only
     refine AWP.q (.z (.J Z Z Z (.nil (b5 (.q (.ae Z hltt87 (.exit (d8 (d8 ⟨Z,?_⟩)))))))))
     exact Sub.env ⟨Z,Z,Z,Y⟩
    ·intro t87 s o hlot87 hltt87 h
     obtain⟨c82,c83,c84,c85,c86⟩:=s
     unfold N0 at h
     try dsimp only at h ⊢
     refine AWP.q (.z (.J Z Z Z (.nil (b5 (.q (.af Z hltt87 (.skip (b5 ?_))))))))
     obtain⟨⟨c88,c89,c90,c91,c92⟩,hx93,h⟩:=bind_some h
     refine AWP.seqJ (⟨[(5,.c (.ptr 3 0 0)),(6,.c (.map 4)),(7,.c (.ptr 7 0 0)),(12,.c (int a58.2.2.2.2.1)),(64,.c (rowC 2 c56 a58.2.2.2.1)),(65,.c (int ((rowM c56 a58.2.2.2.1).length:Int))),(66,.c (int t87))],[.one (.cells 3 [(wW start goal 1 l4.length)]),.one (vec 4 d7 l4),mmap 2 2 vU j9 c56,.one (.cells 1 [[.map 2]]),.one (mapB vU vI c88),.one (pmap 12 vU c89),.dead,.one (.cells 3 [[.own 11 0 c91.length,.map 5,int c90]]),.dead,.dead,.dead,.one (prow 12 c91),pool 4 b8 c92]⟩) ?_ ?_
     ·refine AWP.O (.q ?_)
      obtain⟨a68,ha68,hx93⟩:=bind_some hx93
      refine AWP.z (S.idxMM ha68 Z Z Z Z (S.loadOAgg ha68 Z Z (mm_get Z ha68) Z Z Z Z (W.alloc Z Z Z Z (W.storeAgg Z Z Z Z Z Z Z (.nil (b5 (.q (.z (.j Z Z (W.fieldAddr Z Z Z Z (.F Z Z Z Z Z Z (S.add Z Z Z (.j Z Z (W.fieldAddr Z Z Z Z (.F Z Z Z Z Z Z (W.lookup (fk:=vU) (fv:=vI) (k:=a68.ffrom) (z:=0) I9 Z (fun _=>Z) Z Z Z Z ?_))))))))))))))))
      refine AOps.J Z Z Z (.nil (b5 (.ite Z hx93 (fun hc94 hx93=> ?_) (fun hc94 hx93=> ?_))))
      ·refine AWP.q (.z (.j Z Z (W.fieldAddr Z Z Z Z (.F Z Z Z Z Z Z (.j Z Z (W.fieldAddr Z Z Z Z (.F Z Z Z Z Z Z (S.add Z Z Z (W.mapUpdate (fk:=vU) (fv:=vI) (k:=a68.ffrom) (a:=w64 (a58.2.2.2.2.1+a68.cost)) I9 Z Z Z Z Z (.nil (b5 ?_)))))))))))
       obtain⟨a93,ha93,hx93⟩:=bind_some hx93
       refine AWP.z (.j Z Z (W.fieldAddr Z Z Z Z (.F Z Z Z Z Z Z (.j Z Z (W.fieldAddr Z Z Z Z (.F Z Z Z Z Z Z (S.add Z Z Z (.callF (r2:=.tup []) (σ'':=[.one (.cells 3 [(wW start goal 1 l4.length)]),.one (vec 4 d7 l4),mmap 2 2 vU j9 c56,.one (.cells 1 [[.map 2]]),.one (mapB vU vI (mset c82 a68.ffrom (w64 (a58.2.2.2.2.1+a68.cost)))),.one (pmap 12 vU a93.1),.dead,.one (.cells 3 [[.own 11 0 a93.2.1.length,.map 5,int (w64 (c85+1))]]),.dead,.dead,.one (.cells 2 [[.imm (.val (.int .u32 a68.ffrom)),int a68.cost]]),.one (prow 12 a93.2.1),pool 4 b8 a93.2.2]) Z Z Z (FnOk.lend [7,9,5,6] (ag2 ha93) Z Z Z Z Z Z (by exact⟨(.one Z),(.one (i7 Z)),(.one (k9 Z)),(.any n9),Y⟩) Z (by exact⟨(.live Z (.one Z)),(.live Z (.one (f9 fun _=>Z))),(.live Z (.one (m9 fun _=>Z))),(.live Z RenE.pool),Y⟩) Z Z (by exact⟨(.old Z Z Z),(.old Z Z Z),(.old Z Z Z),(.old Z Z Z),(.old Z Z Z),(.new 2 Z Z (.one (m9 fun _=>Z))),.dead,(.new 0 Z Z (.one Z)),.dead,.dead,(.old Z Z Z),(.new 4 Z Z (.one (f9 fun _=>Z))),(.new 5 Z Z RenE.pool),Y⟩)) (.nil (d6 ?_))))))))))
       obtain⟨ej0,ej1,ej2,ej3,ej4⟩:=o5 hx93
       subst ej0 ej1 ej2 ej3 ej4
       refine b5 (Sub.cut ⟨Z,Z,Z,Z,Z,Z,Z,Y⟩ Z ⟨.one Z,.vec,(.any (mm_ok Z)),.one Z,.one Z,(.one (k9 Z)),.dead,.one Z,.dead,.dead,.dead,(.one (i7 Z)),(.any n9),Y⟩ (eOk1 Z (eOk1 Z (eOk1 Z (eOk1 Z (eOk1 (aj0 Z) (eOk1 Z (eOk1 Z Z))))))))
      ·refine AWP.skip (d6 ?_)
       obtain⟨ej0,ej1,ej2,ej3,ej4⟩:=o5 hx93
       subst ej0 ej1 ej2 ej3 ej4
       refine b5 ((Sub.move (env':=[(5,.c (.ptr 3 0 0)),(6,.c (.map 4)),(7,.c (.ptr 7 0 0)),(12,.c (int a58.2.2.2.2.1)),(64,.c (rowC 2 c56 a58.2.2.2.1)),(65,.c (int ((rowM c56 a58.2.2.2.1).length:Int))),(66,.c (int t87))]) (σ':=[.one (.cells 3 [(wW start goal 1 l4.length)]),.one (vec 4 d7 l4),mmap 2 2 vU j9 c56,.one (.cells 1 [[.map 2]]),.one (mapB vU vI c82),.one (pmap 6 vU c83),pool 4 b8 c84,.one (.cells 3 [[.own 11 0 c86.length,.map 5,int c85]]),.dead,.dead,.one (.cells 2 [[.imm (.val (.int .u32 a68.ffrom)),int a68.cost]]),.one (prow 6 c86)]) 11 9 Z Z Z ⟨Z,Z,Z,Z,rowC_mv (fun _=>Z) Z,Z,Z,Y⟩ (eOk1 Z (eOk1 Z (eOk1 Z (eOk1 Z (eOk1 (aj0 Z) (eOk1 Z (eOk1 Z Z))))))) ⟨⟨Z,Z⟩,⟨Blk.im_ok _ _ _,i6 Z⟩,(x9.mmap Z Z Z),⟨Z,Z⟩,⟨Z,Z⟩,⟨k9 Z,B1 Z O9⟩,(x9.pool Z),⟨Z,Z⟩,trivial,trivial,⟨Z,Z⟩,⟨i7 Z,B1 Z O8⟩,Y⟩).trans ((Sub.moveM (env':=[(5,.c (.ptr 3 0 0)),(6,.c (.map 4)),(7,.c (.ptr 7 0 0)),(12,.c (int a58.2.2.2.2.1)),(64,.c (rowC 2 c56 a58.2.2.2.1)),(65,.c (int ((rowM c56 a58.2.2.2.1).length:Int))),(66,.c (int t87))]) (σ':=[.one (.cells 3 [(wW start goal 1 l4.length)]),.one (vec 4 d7 l4),mmap 2 2 vU j9 c56,.one (.cells 1 [[.map 2]]),.one (mapB vU vI c82),.one (pmap 12 vU c83),.dead,.one (.cells 3 [[.own 11 0 c86.length,.map 5,int c85]]),.dead,.dead,.one (.cells 2 [[.imm (.val (.int .u32 a68.ffrom)),int a68.cost]]),.one (prow 12 c86),pool 4 b8 c84]) 12 6 Z Z Z ⟨Z,Z,Z,Z,rowC_mv (fun _=>Z) Z,Z,Z,Y⟩ (eOk1 Z (eOk1 Z (eOk1 Z (eOk1 Z (eOk1 (aj0 Z) (eOk1 Z (eOk1 Z Z))))))) ⟨(.one Z Z),(.vec Z),(EntR.mmap Z Z Z),(.one Z Z),(.one Z Z),(.one (k9 Z) (H9 Z Z (m9 fun _=>Z))),.dead,(.one Z Z),.dead,.dead,(.one Z Z),(.one (i7 Z) (H9 Z Z (f9 fun _=>Z))),(EntR.pool Z Z),Y⟩).trans (Sub.cut ⟨Z,Z,Z,Z,Z,Z,Z,Y⟩ Z ⟨.one Z,.vec,(.any (mm_ok Z)),.one Z,.one Z,(.one (k9 Z)),.dead,.one Z,.dead,.dead,.dead,(.one (i7 Z)),(.any n9),Y⟩ (eOk1 Z (eOk1 Z (eOk1 Z (eOk1 Z (eOk1 (aj0 Z) (eOk1 Z (eOk1 Z Z))))))))))
     ·try dsimp only at h
      refine AWP.z (.add Z Z Z (by omega) (.j Z Z (.nil ?_)))
      obtain rfl:=oi h
      refine b5 ((Sub.move (env':=[(5,.c (.ptr 3 0 0)),(6,.c (.map 4)),(7,.c (.ptr 7 0 0)),(12,.c (int a58.2.2.2.2.1)),(64,.c (rowC 2 c56 a58.2.2.2.1)),(65,.c (int ((rowM c56 a58.2.2.2.1).length:Int))),(66,.c (int (t87+1)))]) (σ':=[.one (.cells 3 [(wW start goal 1 l4.length)]),.one (vec 4 d7 l4),mmap 2 2 vU j9 c56,.one (.cells 1 [[.map 2]]),.one (mapB vU vI c88),.one (pmap 12 vU c89),.dead,.one (.cells 3 [[.own 9 0 c91.length,.map 5,int c90]]),.dead,.one (prow 12 c91),.dead,.dead,pool 4 b8 c92]) 9 11 Z Z Z ⟨Z,Z,Z,Z,rowC_mv (fun _=>Z) Z,Z,Z,Y⟩ (eOk1 Z (eOk1 Z (eOk1 Z (eOk1 Z (eOk1 (aj0 Z) (eOk1 Z (eOk1 Z Z))))))) ⟨⟨Z,Z⟩,⟨Blk.im_ok _ _ _,i6 Z⟩,(x9.mmap Z Z Z),⟨Z,Z⟩,⟨Z,Z⟩,⟨k9 Z,B1 Z O9⟩,trivial,⟨Z,Z⟩,trivial,⟨i7 Z,B1 Z O8⟩,trivial,trivial,(x9.pool Z),Y⟩).trans ((Sub.moveM (env':=[(5,.c (.ptr 3 0 0)),(6,.c (.map 4)),(7,.c (.ptr 7 0 0)),(12,.c (int a58.2.2.2.2.1)),(64,.c (rowC 2 c56 a58.2.2.2.1)),(65,.c (int ((rowM c56 a58.2.2.2.1).length:Int))),(66,.c (int (t87+1)))]) (σ':=[.one (.cells 3 [(wW start goal 1 l4.length)]),.one (vec 4 d7 l4),mmap 2 2 vU j9 c56,.one (.cells 1 [[.map 2]]),.one (mapB vU vI c88),.one (pmap 6 vU c89),pool 4 b8 c92,.one (.cells 3 [[.own 9 0 c91.length,.map 5,int c90]]),.dead,.one (prow 6 c91),.dead,.dead]) 6 12 Z Z Z ⟨Z,Z,Z,Z,rowC_mv (fun _=>Z) Z,Z,Z,Y⟩ (eOk1 Z (eOk1 Z (eOk1 Z (eOk1 Z (eOk1 (aj0 Z) (eOk1 Z (eOk1 Z Z))))))) ⟨(.one Z Z),(.vec Z),(EntR.mmap Z Z Z),(.one Z Z),(.one Z Z),(.one (k9 Z) (H9 Z Z (m9 fun _=>Z))),(EntR.pool Z Z),(.one Z Z),.dead,(.one (i7 Z) (H9 Z Z (f9 fun _=>Z))),.dead,.dead,Y⟩).trans (Sub.cut ⟨Z,Z,Z,Z,Z,Z,Z,Y⟩ Z ⟨.one Z,.vec,(.any (mm_ok Z)),.one Z,.one Z,(.one (k9 Z)),(.any n9),.one Z,.dead,(.one (i7 Z)),Y⟩ (eOk1 Z (eOk1 Z (eOk1 Z (eOk1 Z (eOk1 (aj0 Z) (eOk1 Z (eOk1 Z Z))))))))))
    ·intro e s hq
     obtain⟨rfl,hs⟩:=hq
     refine⟨_,hs,?_⟩
     refine g8 (d6 ?_)
     obtain rfl:=oi h
     refine b5 ⟨_,Z,?_⟩
     exact(Sub.move (env':=[(5,.c (.ptr 3 0 0)),(6,.c (.map 4)),(7,.c (.ptr 7 0 0))]) (σ':=[.one (.cells 3 [(wW start goal 1 l4.length)]),.one (vec 4 d7 l4),mmap 2 2 vU j9 c56,.one (.cells 1 [[.map 2]]),.one (mapB vU vI c82),.one (pmap 6 vU c83),pool 4 b8 c84,.one (.cells 3 [[.own 8 0 c86.length,.map 5,int c85]]),.one (prow 6 c86)]) 8 9 Z Z Z ⟨Z,Z,Z,Y⟩ Z ⟨⟨Z,Z⟩,⟨Blk.im_ok _ _ _,i6 Z⟩,(x9.mmap Z Z Z),⟨Z,Z⟩,⟨Z,Z⟩,⟨k9 Z,B1 Z O9⟩,(x9.pool Z),⟨Z,Z⟩,⟨i7 Z,B1 Z O8⟩,Y⟩).trans (Sub.env ⟨Z,Z,Z,Y⟩)
   ·refine AWP.exit (d8 ?_)
    obtain rfl:=oi h
    refine d8 ⟨_,Z,Z,?_⟩
    exact Sub.cut ⟨Z,Y⟩ Z ⟨.one Z,.vec,.dead,.dead,.one Z,Y⟩ Z
  ·intro e s hq
   obtain⟨rfl,hs⟩:=hq
   refine⟨_,hs,?_⟩
   refine g8 (b5 (.q (.z (.j Z Z (.u Z Z (.nil (b5 (.ret ?_))))))))
   obtain rfl:=oi h
   exact⟨⟨[(4,.c (.map 4))],[.one (.cells 3 [(wW start goal 1 l4.length)]),.one (vec 4 d7 l4),.dead,.dead,.one (mapB vU vI c80)]⟩,Sub.env ⟨Z,Y⟩,Done.ret Z ⟨Z,Z⟩⟩
theorem ay9{t:m6}{r:Int×k6}(h:W5 t=some r):e8 prog 9 [.agg (tT t)] (.tup [.c (int r.1),.agg [int r.2.code,int r.2.index]]):=by
 unfold e8
 refine FnOk.enter (rs:=[.t 2,.cell 3 32 2]) func9 Z ntmps9 results9 Z ⟨trivial,rv _ Z,Y⟩ (by kernel_rfl) Z ?_
 unfold W5 at h
 refine AWP.q (.z (W.box Z Z Z Z Z Z (.u Z Z (W.alloc Z Z Z Z (.nil (b5 (.q ?_)))))))
 obtain⟨fk2,hfk2,h⟩:=bind_some h
 rcases fk2 with fk2|fk2
 ·try dsimp only at h
  refine AWP.z (W.loadAgg Z Z Z Z Z Z Z (.callF (r2:=.tup [.c (.imm (.val (.pointer none))),.c (row 1 eU32 []),.agg [int fk2.1,int fk2.2]]) (σ'':=[.one (.cells 4 [(tT t)]),.one (.cells 2 [[int 0,int 0]]),.dead,.one (.cells 2 [[int fk2.1,int fk2.2]])]) Z Z Z (FnOk.lend [] (FnOk.alt1 (ak5 hfk2)) Z Z Z Z Z Z (by exact trivial) Z (by exact trivial) Z Z (by exact⟨(.old Z Z Z),(.old Z Z Z),.dead,(.new 1 Z Z (.one Z)),Y⟩)) (.j Z Z (.ac Z Z Z (.ac Z Z Z (.ac Z Z Z (W.alloc Z Z Z Z (.u Z Z (.u Z Z (W.storeAgg Z Z Z Z Z Z Z (.nil (b5 (.q (.q (.z (W.loadAgg Z Z Z Z Z Z Z (W.build Z Z Z Z (.neqP Z Z Z Z Z Z Z (.nil (b5 (.ag Z h (fun hc3 h=> ?_) (fun hc3 h=> ?_))))))))))))))))))))))
  ·refine AWP.q (.drawEI [2] mixed Z Z Z ?_)
   refine e6.consN Z Z (fun E=>W.loadAgg Z Z Z Z Z Z Z .N) Z (.consN Z Z (fun E=>AOps.u Z Z .N) Z ?_)
   apply e6.consE (v:=.undef);exact Z;exact Z;intro E
   refine W.storeAgg Z Z Z Z Z Z Z .N
   exact Z
   exact Z
   refine e6.done Z ?_ ?_
   ·refine d5.cons Z Z (b7.go Z Z (fun E=>W.loadAgg Z Z Z Z Z Z Z .N) (b7.skip Z (b7.nil))) (d5.cons Z Z (b7.go Z Z (fun E=>AOps.u Z Z .N) (b7.skip Z (b7.nil))) ?_)
    refine d5.skip Z (d5.nil)
   dsimp only[l7]
   refine b5 (.ret (e7 ?_))
   obtain rfl:=oi h
   exact Done.ret Z Z
  ·cases h
 ·try dsimp only at h
  refine AWP.z (W.loadAgg Z Z Z Z Z Z Z (.callF (r2:=.tup [.c (.ptr 6 0 0),.c (row 1 eU32 fk2.2.2.2),.agg [int 0,int 0]]) (σ'':=[.one (.cells 4 [(tT t)]),.one (.cells 2 [[int 0,int 0]]),.dead,.one (.cells 2 [[int 0,int 0]]),.dead,.dead,.one (.cells 3 [[.imm (.val (.int .u32 fk2.1)),.imm (.val (.int .u32 fk2.2.1)),.own 7 0 fk2.2.2.1.length]]),.one (vec 4 d7 fk2.2.2.1)]) Z Z Z (FnOk.lend [] (FnOk.alt2 (ak5 hfk2)) Z Z Z Z Z Z (by exact trivial) Z (by exact trivial) Z Z (by exact⟨(.old Z Z Z),(.old Z Z Z),.dead,(.new 1 Z Z (.one Z)),.dead,.dead,(.new 4 Z Z (.one Z)),(.new 5 Z Z .vec),Y⟩)) (.j Z Z (.ac Z Z Z (.ac Z Z Z (.ac Z Z Z (W.alloc Z Z Z Z (.u Z Z (.u Z Z (W.storeAgg Z Z Z Z Z Z Z (.nil (b5 (.q (.q (.z (W.loadAgg Z Z Z Z Z Z Z (W.build Z Z Z Z (.neqP Z Z Z Z Z Z Z (.nil (b5 (.ag Z h (fun hc3 h=> ?_) (fun hc3 h=> ?_))))))))))))))))))))))
  ·refine AWP.q (.drawEI [2] mixed Z Z Z ?_)
   refine e6.consN Z Z (fun E=>W.loadAgg Z Z Z Z Z Z Z .N) Z (.consN Z Z (fun E=>AOps.u Z Z .N) Z ?_)
   apply e6.consE (v:=.undef);exact Z;exact Z;intro E
   refine W.storeAgg Z Z Z Z Z Z Z .N
   exact Z
   exact Z
   refine e6.done Z ?_ ?_
   ·refine d5.cons Z Z (b7.go Z Z (fun E=>W.loadAgg Z Z Z Z Z Z Z .N) (b7.skip Z (b7.nil))) (d5.cons Z Z (b7.go Z Z (fun E=>AOps.u Z Z .N) (b7.skip Z (b7.nil))) ?_)
    refine d5.skip Z (d5.nil)
   dsimp only[l7]
   refine b5 (.ret (e7 ?_))
   obtain rfl:=oi h
   exact Done.ret Z Z
  ·refine AWP.skip (b5 (.q ?_))
   obtain⟨a19,ha19,a21,ha21,h⟩:=b2 h
   refine AWP.z (.j Z Z (.j Z Z (.callF (r2:=.c (.map 11)) (σ'':=[.one (.cells 4 [(tT t)]),.one (.cells 2 [[int 0,int 0]]),.dead,.one (.cells 2 [[int 0,int 0]]),.dead,.dead,.one (.cells 3 [[.imm (.val (.int .u32 fk2.1)),.imm (.val (.int .u32 fk2.2.1)),.own 7 0 fk2.2.2.1.length]]),.one (vec 4 d7 fk2.2.2.1),.one (.cells 2 [[int 0,int 0]]),.dead,.dead,.one (mapB vU vI a19)]) Z Z Z (FnOk.lend [6,7] (ay2 ha19) Z Z Z Z Z Z (by exact⟨(.one Z),.vec,Y⟩) Z (by exact⟨(.live Z (.one Z)),(.live Z .vec),Y⟩) Z Z (by exact⟨(.old Z Z Z),(.old Z Z Z),.dead,(.old Z Z Z),.dead,.dead,(.new 0 Z Z (.one Z)),(.new 1 Z Z .vec),(.old Z Z Z),.dead,.dead,(.new 4 Z Z (.one Z)),Y⟩)) (.j Z Z (.callF (r2:=.c (.imm (.val (.int .u32 fk2.1)))) (σ'':=[.one (.cells 4 [(tT t)]),.one (.cells 2 [[int 0,int 0]]),.dead,.one (.cells 2 [[int 0,int 0]]),.dead,.dead,.one (.cells 3 [[.imm (.val (.int .u32 fk2.1)),.imm (.val (.int .u32 fk2.2.1)),.own 7 0 fk2.2.2.1.length]]),.one (vec 4 d7 fk2.2.2.1),.one (.cells 2 [[int 0,int 0]]),.dead,.dead,.one (mapB vU vI a19)]) Z Z Z (FnOk.lend [6,7] (T7 ha21) Z Z Z Z Z Z (by exact⟨(.one Z),.vec,Y⟩) Z (by exact⟨(.live Z (.one Z)),(.live Z .vec),Y⟩) Z Z (by exact⟨(.old Z Z Z),(.old Z Z Z),.dead,(.old Z Z Z),.dead,.dead,(.new 0 Z Z (.one Z)),(.new 1 Z Z .vec),(.old Z Z Z),.dead,.dead,(.old Z Z Z),Y⟩)) (W.lookup (fk:=vU) (fv:=vI) (k:=fk2.1) (z:=0) I9 Z (fun _=>Z) Z Z Z Z ?_))))))
   refine W.build Z Z Z Z (.u Z Z (W.storeAgg Z Z Z Z Z Z Z (.nil (b5 (.ret ?_)))))
   obtain rfl:=oi h
   exact Done.ret Z Z
theorem ak8{ov:d4}{r:Bool}(h:H6 ov=some r):e8 prog 3 [.agg (tO ov)] (.c (bool r)):=by
 unfold e8
 refine FnOk.enter (rs:=[.t 2]) func3 Z ntmps3 results3 Z ⟨trivial,Y⟩ (by kernel_rfl) Z ?_
 unfold H6 at h
 refine AWP.q (.z (W.box Z Z Z Z Z Z (.u Z Z (.nil (b5 (.q (.q (.z (.u Z Z (.nil (b5 (.O ?_))))))))))))
 obtain⟨oo,ho1,h⟩:=bind_some h
 refine AWP.rngS ho1 (fun iv2 _=>⟨[(1,.c (.ptr 0 0 0)),(3,.c (int iv2))],[.one (.cells 4 [(tO ov)])]⟩) (fun o e st=>match o with| .inl _=>e=.exit 0∧Sub [] st ⟨[(1,.c (.ptr 0 0 0))],[.one (.cells 4 [(tO ov)])]⟩| .inr x=>e=.ret∧Done [.t 2] (fun t _=>t=.c (bool x)) .ret st) ?_ ?_ ?_ ?_
 ·try dsimp only
  exact Sub.env ⟨Z,Z,Y⟩
 ·intro iv2 s hloiv2 hltiv2 _
  try dsimp only
  refine AWP.q (.q (.z (.j Z Z (W.fieldAddr Z Z Z Z (.F Z Z Z Z Z Z (S.len Z Z (fun hl15=>.J Z Z Z (.nil (b5 (.ae Z hltiv2 (.exit (d8 (d8 ⟨Z,?_⟩)))))))))))))
  exact Sub.env ⟨Z,Y⟩
 ·intro iv2 s o hloiv2 hltiv2 h
  unfold E5 at h
  try dsimp only at h ⊢
  refine AWP.q (.q (.z (.j Z Z (W.fieldAddr Z Z Z Z (.F Z Z Z Z Z Z (S.len Z Z (fun hl15=>.J Z Z Z (.nil (b5 (.af Z hltiv2 (.skip (b5 (.q (.O (.q ?_)))))))))))))))
  obtain⟨a22,ha22,h⟩:=bind_some h
  refine AWP.z (W.fieldAddr Z Z Z Z (.F Z Z Z Z Z Z (.j Z Z (S.idx ha22 Z Z Z Z (W.fieldAddrI Z Z Z Z (.ad Z Z Z Z (S.len Z Z (fun hl25=>.neq Z Z Z (.nil (b5 (.iteN Z h (fun hc3 h=> ?_) (fun hc3 h=> ?_))))))))))))
  ·refine AWP.q ?_
   obtain⟨a27,ha27,h⟩:=bind_some h
   refine AWP.z (.U Z Z Z Z (aj3 ha27) Z (.u Z Z (.nil (b5 (.ret (i8 (e7 ?_)))))))
   obtain rfl:=oi h
   refine e7 ⟨_,Z,Z,?_⟩
   exact Done.ret Z Z
  ·refine AWP.skip (d6 (b5 (.z (.j Z Z (.add Z Z Z (by omega) (.u Z Z (.nil ?_)))))))
   obtain rfl:=oi h
   refine b5 ⟨_,Z,?_⟩
   exact Sub.env ⟨Z,Z,Y⟩
 ·intro e s hq
  rcases oo with u|x
  ·try dsimp only at h hq
   obtain⟨rfl,hs⟩:=hq
   refine⟨_,hs,?_⟩
   refine g8 (b5 (.q ?_))
   obtain⟨a30,ha30,h⟩:=bind_some h
   refine AWP.z (W.loadAgg Z Z Z Z Z Z Z (.U Z Z Z Z (ap2 ha30) Z (.j Z Z (.ac Z Z Z (.ac Z Z Z (.ac Z Z Z (W.alloc Z Z Z Z (.u Z Z (.u Z Z (W.storeAgg Z Z Z Z Z Z Z (.nil (b5 (.q ?_)))))))))))))
   obtain⟨a36,ha36,h⟩:=bind_some h
   refine AWP.z (W.loadAgg Z Z Z Z Z Z Z (.U Z Z Z Z (aw4 ha36) Z (.j Z Z (.ac Z Z Z (.ac Z Z Z (.ac Z Z Z (W.alloc Z Z Z Z (W.alloc Z Z Z Z (W.storeAgg Z Z Z Z Z Z Z (.u Z Z (W.storeAgg Z Z Z Z Z Z Z (.nil (b5 (.q ?_))))))))))))))
   obtain⟨a42,ha42,h⟩:=bind_some h
   refine AWP.z (W.loadAgg Z Z Z Z Z Z Z (.U Z Z Z Z (ay9 ha42) Z (.j Z Z (.ac Z Z Z (.ac Z Z Z (W.alloc Z Z Z Z (.u Z Z (W.storeAgg Z Z Z Z Z Z Z (.nil (b5 (.q (.seqJ (⟨[(5,.c (bool a30.2.1)),(10,.c (int a42.1)),(57,.c (bool (((!(decide (a30.2.2.code=0)))||(!(decide (a36.2.2.code=0))))||(!(decide (a42.2.code=0))))))],[.one (.cells 4 [(tO ov)]),.one (.cells 2 [[int a30.2.2.code,int a30.2.2.index]]),.one (.cells 4 [(tT a36.1)]),.one (.cells 2 [[int a36.2.2.code,int a36.2.2.index]]),.one (.cells 2 [[int a42.2.code,int a42.2.index]])]⟩) ?_ ?_))))))))))))
   ·rcases bft (!(decide (a30.2.2.code=0))) with hb1|hb1
    ·refine AWP.z (W.fieldAddr Z Z Z Z (.F Z Z Z Z Z Z (.neq Z Z Z (.j Z Z (.E Z Z Z hb1 (.E Z Z Z hb1 (.E Z Z Z hb1 (.aa Z hb1 Z Z (.j Z Z (.E Z Z Z Z (.E Z Z Z Z (.E Z Z Z Z (.aa Z Z Z Z (.nil (b5 ?_)))))))))))))))
     simp only[O3 hb1,or_t hb1,Bool.false_or,Bool.true_or,Bool.false_and,Bool.true_and]
     exact Sub.env ⟨Z,Z,Z,Y⟩
    ·rcases bft (!(decide (a36.2.2.code=0))) with hb2|hb2
     ·refine AWP.z (W.fieldAddr Z Z Z Z (.F Z Z Z Z Z Z (.neq Z Z Z (.j Z Z (.B Z Z Z hb1 (W.fieldAddr Z Z Z Z (.B Z Z Z hb1 (.F Z Z Z Z Z Z (.B Z Z Z hb1 (.neq Z Z Z (.ab Z hb1 Z Z (.j Z Z (.E Z Z Z hb2 (.E Z Z Z hb2 (.E Z Z Z hb2 (.aa Z hb2 Z Z (.nil (b5 ?_))))))))))))))))))
      simp only[J7 hb1,or_f hb1,O3 hb2,or_t hb2,Bool.false_or,Bool.true_or,Bool.false_and,Bool.true_and]
      exact Sub.env ⟨Z,Z,Z,Y⟩
     ·refine AWP.z (W.fieldAddr Z Z Z Z (.F Z Z Z Z Z Z (.neq Z Z Z (.j Z Z (.B Z Z Z hb1 (W.fieldAddr Z Z Z Z (.B Z Z Z hb1 (.F Z Z Z Z Z Z (.B Z Z Z hb1 (.neq Z Z Z (.ab Z hb1 Z Z (.j Z Z (.B Z Z Z hb2 (W.fieldAddr Z Z Z Z (.B Z Z Z hb2 (.F Z Z Z Z Z Z (.B Z Z Z hb2 (.neq Z Z Z (.ab Z hb2 Z Z (.nil (b5 ?_)))))))))))))))))))))
      simp only[J7 hb1,or_f hb1,J7 hb2,or_f hb2,Bool.false_or,Bool.true_or,Bool.false_and,Bool.true_and]
      exact Sub.env ⟨Z,Z,Z,Y⟩
   ·refine AWP.ag Z h (fun hc4 h=> ?_) (fun hc4 h=> ?_)
    ·refine AWP.q ?_
     obtain⟨a58,ha58,h⟩:=bind_some h
     refine AWP.z (.U Z Z Z Z (aj3 ha58) Z (.u Z Z (.nil (b5 (.ret (e7 ?_))))))
     obtain rfl:=oi h
     exact Done.ret Z Z
    ·refine AWP.skip (b5 ?_)
     obtain⟨t5,hx6,h⟩:=bind_some h
     refine AWP.seqJ (⟨[(2,.c (bool t5))],[]⟩) ?_ ?_
     ·rcases bft (decide (a30.2.1=(decide (a42.1<1000000000)))) with hb7|hb7
      ·replace hx6:=J5 hb7 hx6
       obtain⟨a64,ha64,hx6⟩:=bind_some hx6
       refine AWP.z (.j Z Z (.j Z Z (.J Z Z Z (.eqlB Z Z Z (.j Z Z (.B Z Z Z hb7 (.U Z Z Z Z (aj3 ha64) Z (.aa Z hb7 Z Z (.u Z Z (.nil ?_))))))))))
       obtain rfl:=oi hx6
       refine b5 (Sub.cut ⟨Z,Y⟩ Z trivial Z)
      ·replace hx6:=J9 hb7 hx6
       refine AWP.z (.j Z Z (.j Z Z (.J Z Z Z (.eqlB Z Z Z (.j Z Z (.E Z Z Z hb7 (.ab Z hb7 Z Z (.u Z Z (.nil ?_)))))))))
       obtain rfl:=oi hx6
       refine b5 (Sub.cut ⟨Z,Y⟩ Z trivial Z)
     ·refine AWP.ret ?_
      obtain rfl:=oi h
      exact Done.ret Z Z
  ·try dsimp only at h hq
   obtain⟨rfl,hs⟩:=hq
   refine⟨_,Sub.refl _ _,?_⟩
   refine i8 (e7 ?_)
   obtain rfl:=oi h
   exact hs
end Ab
end
section
namespace Ab
open Go Go.Proofs
set_option maxHeartbeats 4000000
set_option linter.all false
attribute [local irreducible] AWP AOps thn inB Done e8 r8 Sub
end Ab
end
section
namespace Ab
open Go
theorem N3{α:Type}{l:List α}{k:Nat}:ix l (k:Int)=l[k]? :=by simp[ix]
theorem g9{α:Type}{l:List α}{i:Int}(h0:0≤i)(h1:i<l.length):∃a,ix l i=some a∧l[i.toNat]? =some a:=by
 have h:i.toNat<l.length:=by omega
 exact⟨l[i.toNat],by simp[ix,h0,h],by simp[h]⟩
theorem k8{α:Type}{l:List α}{i:Int}{a:α}(h:ix l i=some a):0≤i∧i<l.length∧l[i.toNat]? =some a:=by
 unfold ix at h
 split at h
 ·have:=(lG.1 h).1
  exact⟨by assumption,by omega,h⟩
 ·cases h
theorem y6{n:Int}(h1: -9223372036854775808≤n)(h2:n≤9223372036854775807):w64 n=n:=w64_eq ⟨h1,h2⟩
theorem forN_inv{S:Type}{body:Int→S→Option S}(P:Int→S→Prop):∀(k:Nat) (i:Int) (s:S),P i s→
  (∀j s,i≤j→j<i+k→P j s→∃s',body j s=some s'∧P (j+1) s')→∃s',forN body k i s=some s'∧P (i+k) s'
 |0,i,s,h,_=>⟨s,rfl,by simpa using h⟩
 |k+1,i,s,h,hb=>by
  obtain⟨s1,h1,h2⟩:=hb i s (Int.le_refl _) (by omega) h
  obtain⟨s2,h3,h4⟩:=forN_inv P k (i+1) s1 h2 (fun j s g1 g2=>hb j s (by omega) (by omega))
  exact⟨s2,by simp only[forN,h1];exact h3,by rw[show i+((k+1:Nat):Int)=i+1+k by omega];exact h4⟩
theorem w8{S:Type}{body:Int→S→Option S}{n:Int}(P:Int→S→Prop){s:S}(hn:0≤n)(h0:P 0 s)
  (hb:∀j s,0≤j→j<n→P j s→∃s',body j s=some s'∧P (j+1) s'):∃s',forR 0 n body s=some s'∧P n s':=by
 obtain⟨s',h1,h2⟩:=forN_inv P (n - 0).toNat 0 s h0 (fun j s g1 g2=>hb j s g1 (by omega))
 exact⟨s',h1,by rwa [show(0:Int)+((n - 0).toNat:Int)=n by omega] at h2⟩
theorem rngN_inv{S O:Type}{body:Int→S→Option (S⊕O)}(P:Int→S→Prop)(Q:O→Prop):∀(k:Nat) (i:Int) (s:S),P i s→
  (∀j s,i≤j→j<i+k→P j s→(∃s',body j s=some (.inl s')∧P (j+1) s')∨∃o,body j s=some (.inr o)∧Q o)→
  (∃s',rngN body k i s=some (.inl s')∧P (i+k) s')∨∃o,rngN body k i s=some (.inr o)∧Q o
 |0,i,s,h,_=>.inl ⟨s,rfl,by simpa using h⟩
 |k+1,i,s,h,hb=>by
  rcases hb i s (Int.le_refl _) (by omega) h with⟨s1,h1,h2⟩|⟨o,h1,h2⟩
  ·rcases rngN_inv P Q k (i+1) s1 h2 (fun j s g1 g2=>hb j s (by omega) (by omega)) with⟨s2,h3,h4⟩|⟨o,h3,h4⟩
   ·exact .inl ⟨s2,by simp only[rngN,h1];exact h3,by rw[show i+((k+1:Nat):Int)=i+1+k by omega];exact h4⟩
   ·exact .inr ⟨o,by simp only[rngN,h1];exact h3,h4⟩
  ·exact .inr ⟨o,by simp only[rngN,h1],h2⟩
theorem aa4{S O:Type}{body:Int→S→Option (S⊕O)}{n:Int}(P:Int→S→Prop)(Q:O→Prop){s:S}(hn:0≤n)(h0:P 0 s)
  (hb:∀j s,0≤j→j<n→P j s→(∃s',body j s=some (.inl s')∧P (j+1) s')∨∃o,body j s=some (.inr o)∧Q o):
  (∃s',rngX 0 n body s=some (.inl s')∧P n s')∨∃o,rngX 0 n body s=some (.inr o)∧Q o:=by
 rcases rngN_inv P Q (n - 0).toNat 0 s h0 (fun j s g1 g2=>hb j s g1 (by omega)) with⟨s',h1,h2⟩|h
 ·exact .inl ⟨s',h1,by rwa [show(0:Int)+((n - 0).toNat:Int)=n by omega] at h2⟩
 ·exact .inr h
theorem rngX_all{O:Type}{body:Int→Unit→Option (Unit⊕O)}{n:Int}(hn:0≤n)(hb:∀j,0≤j→j<n→body j ()=some (.inl ())):rngX 0 n body ()=some (.inl ()):=by
 rcases aa4 (body:=body) (fun _ _=>True) (fun _=>False) (s:=()) hn trivial (fun j s g1 g2 _=>.inl ⟨(),hb j g1 g2,trivial⟩) with⟨s',h,_⟩|⟨o,_,h⟩
 ·exact h
 ·exact h.elim
theorem LoopN_inv{S O:Type}{body:S→Option (S⊕O)}(P:S→Prop)(Q:O→Prop)(μ:S→Nat)(hb:∀s,P s→(∃s',body s=some (.inl s')∧P s'∧μ s'<μ s)∨∃o,body s=some (.inr o)∧Q o):
  ∀(k:Nat) (s:S),μ s<k→P s→∃o,R3 body k s=some o∧Q o
 |0,s,h,_=>by omega
 |k+1,s,h,hs=>by
  rcases hb s hs with⟨s',h1,h2,h3⟩|⟨o,h1,h2⟩
  ·obtain⟨o,g1,g2⟩:=LoopN_inv P Q μ hb k s' (by omega) h2
   exact⟨o,by simp only[R3,h1];exact g1,g2⟩
  ·exact⟨o,by simp only[R3,h1],h2⟩
theorem J4{S O:Type}{body:S→Option (S⊕O)}(P:S→Prop)(Q:O→Prop)(μ:S→Nat){s:S}(hs:P s)
  (hb:∀s,P s→(∃s',body s=some (.inl s')∧P s'∧μ s'<μ s)∨∃o,body s=some (.inr o)∧Q o):∃o,Loop body s=some o∧Q o:=by
 obtain⟨o,h1,h2⟩:=LoopN_inv P Q μ hb (μ s+1) s (by omega) hs
 exact⟨o,ap9.2 ⟨_,h1⟩,h2⟩
/-! ### Two loops that do the same -/
theorem rngN_eq{S O:Type}{b1 b2:Int→S→Option (S⊕O)}(P:Int→S→Prop):∀(k:Nat) (i:Int) (s:S),P i s→
  (∀j s,i≤j→j<i+k→P j s→b1 j s=b2 j s∧b1 j s ≠ none∧∀s',b1 j s=some (.inl s')→P (j+1) s')→
  rngN b1 k i s=rngN b2 k i s∧rngN b1 k i s ≠ none∧∀s',rngN b1 k i s=some (.inl s')→P (i+k) s'
 |0,i,s,h,_=>⟨rfl,by simp[rngN],fun s' hs=>by simp only[rngN,Option.some.injEq,Sum.inl.injEq] at hs;subst hs;simpa using h⟩
 |k+1,i,s,h,hb=>by
  obtain⟨h1,h2,h3⟩:=hb i s (Int.le_refl _) (by omega) h
  simp only[rngN]
  rw[← h1]
  cases hc:b1 i s with
  |none=>exact absurd hc h2
  |some x=>
   cases x with
   |inr o=>exact⟨rfl,by simp,fun s' hs=>by simp at hs⟩
   |inl s1=>
    dsimp only
    have:=rngN_eq (b1:=b1) (b2:=b2) P k (i+1) s1 (h3 s1 hc) (fun j s g1 g2=>hb j s (by omega) (by omega))
    rwa [show i+1+(k:Int)=i+((k+1:Nat):Int) by omega] at this
theorem rngX_eq{S O:Type}{b1 b2:Int→S→Option (S⊕O)}{n:Int}(P:Int→S→Prop){s:S}(hn:0≤n)(h0:P 0 s)
  (hb:∀j s,0≤j→j<n→P j s→b1 j s=b2 j s∧b1 j s ≠ none∧∀s',b1 j s=some (.inl s')→P (j+1) s'):
  rngX 0 n b1 s=rngX 0 n b2 s∧rngX 0 n b1 s ≠ none∧∀s',rngX 0 n b1 s=some (.inl s')→P n s':=by
 have:=rngN_eq P (n - 0).toNat 0 s h0 (fun j s g1 g2=>hb j s g1 (by omega))
 rwa [show(0:Int)+((n - 0).toNat:Int)=n by omega] at this
end Ab
end
section
namespace Ab
open Go
noncomputable def dec(p:Prop):Bool:=@decide p (Classical.propDecidable p)
@[simp] theorem m7 {p:Prop}:dec p=true↔p:=by simp[dec]
@[simp] theorem dec_false {p:Prop}:dec p=false↔¬ p:=by simp[dec]
@[simp] theorem y8 {p:Prop}:(!dec p)=dec (¬ p):=by by_cases h:p<;>simp[dec,h]
theorem W1{p:Prop}[Decidable p]:decide p=dec p:=by by_cases h:p<;>simp[dec,h]
theorem l9{p:Prop}(h:p):dec p=true:=m7.2 h
theorem x7{p:Prop}(h:¬ p):dec p=false:=dec_false.2 h
theorem z2{p q:Prop}(h:p↔q):dec p=dec q:=by rw[propext h]
theorem dec_and{p q:Prop}:(dec p && dec q)=dec (p∧q):=by by_cases h:p<;>by_cases g:q<;>simp[dec,h,g]
theorem dec_or{p q:Prop}:(dec p||dec q)=dec (p∨q):=by by_cases h:p<;>by_cases g:q<;>simp[dec,h,g]
theorem ifP{α:Type}{p:Prop}{a b:α}(h:p):(if dec p=true then a else b)=a:=if_pos (l9 h)
theorem ifN{α:Type}{p:Prop}{a b:α}(h:¬ p):(if dec p=true then a else b)=b:=if_neg fun g=>h (m7.1 g)
theorem ifNN{α:Type}{p:Prop}{a b:α}(h:p):(if dec (¬ p)=true then a else b)=b:=ifN (not_not_intro h)
theorem ix_ltN{α:Type}{l:List α}{k:Nat}(h:k<l.length):ix l (k:Int)=some l[k]:=by rw[N3];simp[h]
theorem k7{α:Type}{l:List α}{i:Int}{a:α}(h:ix l i=some a):a ∈ l:=List.mem_of_getElem? (k8 h).2.2
theorem o7{α:Type}{l:List α}{a:α}(h:a ∈ l):∃i:Int,0≤i∧i<l.length∧ix l i=some a:=by
 obtain⟨k,hk⟩:=List.getElem?_of_mem h
 exact⟨k,by omega,by have:=(lG.1 hk).1;omega,by rw[N3,hk]⟩
theorem W2{α:Type}{l:List α}{i j:Int}{x:α}(h0:0≤i)(h1:i<l.length)(hj:0≤j):ix (l.set i.toNat x) j=if j=i then some x else ix l j:=by
 simp only[ix,hj,if_true,List.getElem?_set]
 by_cases h:j=i
 ·subst h;rw[if_pos rfl,if_pos rfl,if_pos (by omega)]
 ·rw[if_neg h,if_neg (by omega)]
theorem E6{O:Type}{body:Int→Unit→Option (Unit⊕O)}{n:Int}(g:Int→Option O)(hn:0≤n)
  (hb:∀j,0≤j→j<n→(∀i,0≤i→i<j→g i=none)→body j ()=some (match g j with|none=>.inl ()|some o=>.inr o)):
  (rngX 0 n body ()=some (.inl ())∧∀j,0≤j→j<n→g j=none)∨∃j o,0≤j∧j<n∧g j=some o∧(∀i,0≤i→i<j→g i=none)∧rngX 0 n body ()=some (.inr o):=by
 rcases aa4 (body:=body) (n:=n) (fun j _=>∀i,0≤i→i<j→g i=none) (fun o=>∃j,0≤j∧j<n∧g j=some o∧∀i,0≤i→i<j→g i=none) (s:=()) hn (fun i h1 h2=>by omega) (fun j s h0 h1 hP=>by
  have:=hb j h0 h1 hP
  cases hg:g j with
  |none=>rw[hg] at this;exact .inl ⟨(),this,fun i h2 h3=>by
    rcases Int.lt_or_eq_of_le (Int.le_of_lt_add_one h3) with h|h
    ·exact hP i h2 h
    ·rw[h,hg]⟩
  |some o=>rw[hg] at this;exact .inr ⟨o,this,j,h0,h1,hg,hP⟩) with⟨s',h1,h2⟩|⟨o,h1,j,h2,h3,h4,h5⟩
 ·exact .inl ⟨h1,h2⟩
 ·exact .inr ⟨j,o,h2,h3,h4,h5,h1⟩
theorem rng_list{α O:Type}{l:List α}{body:Int→Unit→Option (Unit⊕O)}(q:α→Prop)(b:O)
  (hb:∀j a,ix l j=some a→(q a∧body j ()=some (.inl ()))∨(¬ q a∧body j ()=some (.inr b))):
  rngX 0 (l.length:Int) body ()=some (if dec (∀a ∈ l,q a)=true then .inl () else .inr b):=by
 rcases E6 (body:=body) (n:=(l.length:Int)) (fun j=>match ix l j with|some a=>if dec (q a)=true then none else some b|none=>none) (by omega) (fun j h0 h1 _=>by
  obtain⟨a,h2,_⟩:=g9 h0 h1
  rw[h2]
  rcases hb j a h2 with⟨h3,h4⟩|⟨h3,h4⟩
  ·rw[h4];simp[h3]
  ·rw[h4];simp[h3]) with⟨h1,h2⟩|⟨j,o,h0,h1,h2,_,h4⟩
 ·rw[h1,if_pos]
  rw[m7]
  intro a ha
  obtain⟨i,g1,g2,g3⟩:=o7 ha
  have:=h2 i g1 g2
  rw[g3] at this
  simpa using this
 ·rw[h4]
  obtain⟨a,g1,_⟩:=g9 h0 h1
  rw[g1] at h2
  simp only[m7] at h2
  split at h2
  ·cases h2
  ·rename_i hq
   cases h2
   rw[if_neg]
   rw[m7]
   exact fun h=>hq (l9 (h a (k7 g1)))
abbrev Inc(l:Li):Prop:=l.Pairwise (· < ·)
theorem inc_of_adj:∀{l:Li},(∀(k:Nat) a b,l[k]? =some a→l[k+1]? =some b→a<b)→Inc l
 |[],_=>.nil
 |[_],_=>by simp
 |a::b::l,h=>by
  have ih:Inc (b::l):=inc_of_adj fun k x y h1 h2=>h (k+1) x y (by simpa using h1) (by simpa using h2)
  have hab:a<b:=h 0 a b rfl rfl
  refine List.pairwise_cons.2 ⟨fun c hc=> ?_,ih⟩
  rcases List.mem_cons.1 hc with rfl|hc
  ·exact hab
  ·exact Int.lt_trans hab ((List.pairwise_cons.1 ih).1 c hc)
theorem Inc.get{l:Li}(h:Inc l){i j:Nat}{a b:Int}(hi:l[i]? =some a)(hj:l[j]? =some b)(hij:i<j):a<b:=by
 obtain⟨h1,rfl⟩:=lG.1 hi
 obtain⟨h2,rfl⟩:=lG.1 hj
 exact List.pairwise_iff_getElem.1 h i j h1 h2 hij
theorem Inc.ext:∀{l m:Li},Inc l→Inc m→(∀x,x ∈ l↔x ∈ m)→l=m
 |[],[],_,_,_=>rfl
 |[],b::m,_,_,h=>absurd ((h b).2 (by simp)) (by simp)
 |a::l,[],_,_,h=>absurd ((h a).1 (by simp)) (by simp)
 |a::l,b::m,hl,hm,h=>by
  obtain⟨l1,l2⟩:=List.pairwise_cons.1 hl
  obtain⟨m1,m2⟩:=List.pairwise_cons.1 hm
  have hab:a=b:=by
   rcases List.mem_cons.1 ((h a).1 (by simp)) with e|e
   ·exact e
   ·rcases List.mem_cons.1 ((h b).2 (by simp)) with e'|e'
    ·exact e'.symm
    ·have:=l1 b e';have:=m1 a e;omega
  subst hab
  rw[Inc.ext l2 m2 fun x=>⟨fun hx=> ?_,fun hx=> ?_⟩]
  ·rcases List.mem_cons.1 ((h x).1 (by simp[hx])) with e|e
   ·have:=l1 x hx;omega
   ·exact e
  ·rcases List.mem_cons.1 ((h x).2 (by simp[hx])) with e|e
   ·have:=m1 x hx;omega
   ·exact e
theorem Inc.filter{l:Li}(h:Inc l)(p:Int→Bool):Inc (l.filter p):=List.Pairwise.filter p h
def nums(lo:Int):Nat→Li
 |0=>[]
 |k+1=>lo::nums (lo+1) k
theorem aa1{x:Int}:∀{k:Nat} {lo:Int},x ∈ nums lo k↔lo≤x∧x<lo+k
 |0,lo=>by simp[nums]
 |k+1,lo=>by
  rw[nums,List.mem_cons,aa1 (k:=k)]
  omega
theorem av0:∀(k:Nat) (lo:Int),Inc (nums lo k)
 |0,_=>.nil
 |k+1,lo=>List.pairwise_cons.2 ⟨fun x hx=>by have:=aa1.1 hx;omega,av0 k (lo+1)⟩
theorem len_nums:∀(k:Nat) (lo:Int),(nums lo k).length=k
 |0,_=>rfl
 |k+1,lo=>by simp[nums,len_nums k]
noncomputable def M1(p:Int→Prop)(n:Int):Li:=(nums 0 n.toNat).filter fun x=>dec (p x)
theorem Y6{p:Int→Prop}{n x:Int}:x ∈ M1 p n↔0≤x∧x<n∧p x:=by
 rw[M1,List.mem_filter,aa1,m7]
 constructor
 ·rintro ⟨⟨h1,h2⟩,h3⟩;exact⟨h1,by omega,h3⟩
 ·rintro ⟨h1,h2,h3⟩;exact⟨⟨h1,by omega⟩,h3⟩
theorem ar8(p:Int→Prop)(n:Int):Inc (M1 p n):=(av0 _ _).filter _
theorem setOf_congr{p q:Int→Prop}{n:Int}(h:∀x,0≤x→x<n→(p x↔q x)):M1 p n=M1 q n:=by
 refine List.filter_congr fun x hx=>z2 ?_
 have:=aa1.1 hx
 exact h x (by omega) (by omega)
def SetN(l:Li)(n:Int):Prop:=Inc l∧∀x ∈ l,0≤x∧x<n
theorem am7(p:Int→Prop)(n:Int):SetN (M1 p n) n:=⟨ar8 p n,fun x hx=>by have:=Y6.1 hx;exact⟨this.1,this.2.1⟩⟩
theorem SetN.eq{l:Li}{n:Int}(h:SetN l n):l=M1 (· ∈ l) n:=
 h.1.ext (ar8 _ _) fun x=>⟨fun hx=>Y6.2 ⟨(h.2 x hx).1,(h.2 x hx).2,hx⟩,fun hx=>(Y6.1 hx).2.2⟩
theorem SetN.eq_of{l:Li}{n:Int}(h:SetN l n){p:Int→Prop}(hp:∀x,0≤x→x<n→(x ∈ l↔p x)):l=M1 p n:=
 h.eq.trans (setOf_congr hp)
theorem SetN.len{l:Li}{n:Int}(h:SetN l n):l.length≤n.toNat:=by
 rw[h.eq,M1]
 exact Nat.le_trans (List.length_filter_le _ _) (Nat.le_of_eq (len_nums _ _))
theorem W0(n:Int):SetN [] n:=⟨.nil,by simp⟩
theorem forR_filter{α:Type}{l:List α}{b:Nat}{body:Int→List α→Option (List α)}(q:α→Prop)
  (hb:∀j a c,ix l j=some a→(q a→body j c=app b c [a])∧(¬ q a→body j c=some c)) (c0:List α) (hl:(c0.length+l.length) * b≤140737488355328):
  forR 0 (l.length:Int) body c0=some (c0++l.filter fun a=>dec (q a)):=by
 obtain⟨s',h1,h2⟩:=w8 (body:=body) (n:=(l.length:Int)) (s:=c0) (fun j c=>c=c0++(l.take j.toNat).filter fun a=>dec (q a)) (by omega) (by simp) (fun j c h0 h1 hP=>by
  obtain⟨a,g1,g2⟩:=g9 h0 h1
  have e:(j+1).toNat=j.toNat+1:=by omega
  have ht:l.take (j+1).toNat=l.take j.toNat++[a]:=by rw[e,List.take_add_one,g2];rfl
  by_cases hq:q a
  ·have happ:app b c [a]=some (c++[a]):=by
    rw[app,if_pos]
    have h3:((l.take j.toNat).filter fun a=>dec (q a)).length≤(l.take j.toNat).length:=List.length_filter_le _ _
    rw[List.length_take] at h3
    have h5:c.length+1≤c0.length+l.length:=by rw[hP,List.length_append];omega
    refine Nat.le_trans (Nat.mul_le_mul_right b ?_) hl
    simpa using h5
   refine⟨c++[a],by rw[(hb j a c g1).1 hq,happ],?_⟩
   rw[ht,List.filter_append,hP]
   simp[hq]
  ·refine⟨c,(hb j a c g1).2 hq,?_⟩
   rw[ht,List.filter_append,hP]
   simp[hq])
 rw[h1,h2]
 simp
theorem forR_setOf{b:Nat}{n:Int}{body:Int→Li→Option Li}(q:Int→Prop)(hn:0≤n)(hl:n.toNat * b≤140737488355328)
  (hb:∀j c,0≤j→j<n→(q j→body j c=app b c [j])∧(¬ q j→body j c=some c)):forR 0 n body []=some (M1 q n):=by
 obtain⟨s',h1,h2⟩:=w8 (body:=body) (n:=n) (s:=[]) (fun j c=>c=M1 q j) hn (by simp[M1,nums]) (fun j c h0 h1 hP=>by
  have hs:M1 q (j+1)=M1 q j++if dec (q j)=true then [j] else []:=by
   refine(ar8 q (j+1)).ext ?_ fun x=> ?_
   ·refine List.pairwise_append.2 ⟨ar8 _ _,by split<;>simp,fun a ha b hb=> ?_⟩
    have:=Y6.1 ha
    split at hb
    ·simp at hb;omega
    ·cases hb
   ·rw[List.mem_append,Y6,Y6]
    by_cases hq:q j
    ·rw[if_pos (l9 hq)]
     simp only[List.mem_singleton]
     refine⟨fun h=> ?_,fun h=> ?_⟩
     ·by_cases e:x=j
      ·exact .inr e
      ·exact .inl ⟨h.1,by omega,h.2.2⟩
     ·rcases h with h|rfl
      ·exact⟨h.1,by omega,h.2.2⟩
      ·exact⟨h0,by omega,hq⟩
    ·rw[if_neg (by simpa using hq)]
     simp only[List.not_mem_nil,or_false]
     refine⟨fun h=>⟨h.1,?_,h.2.2⟩,fun h=>⟨h.1,by omega,h.2.2⟩⟩
     rcases Int.lt_or_eq_of_le (Int.le_of_lt_add_one h.2.1) with e|e
     ·exact e
     ·rw[e] at h;exact absurd h.2.2 hq
  by_cases hq:q j
  ·refine⟨c++[j],?_,by rw[hs,hP,if_pos (l9 hq)]⟩
   rw[(hb j c h0 h1).1 hq,app,if_pos]
   have h3:c.length≤j.toNat:=by rw[hP];exact(am7 q j).len
   refine Nat.le_trans (Nat.mul_le_mul_right b ?_) hl
   simp;omega
  ·refine⟨c,(hb j c h0 h1).2 hq,?_⟩
   rw[hs,hP,if_neg (by simpa using hq),List.append_nil])
 rw[h1,h2]
end Ab
end
section
namespace Ab
open Go
theorem has_eq(l:Li)(n:Int):ab3 l n=some (dec (n ∈ l)):=by
 unfold ab3
 rw[rng_list (l:=l) (fun a=>a ≠ n) true (fun j a h=>by
  unfold ref1_Has_l1
  rw[h]
  by_cases e:a=n<;>simp[e])]
 by_cases h:n ∈ l
 ·rw[if_neg (by simp only[m7];exact fun g=>g n h rfl)]
  simp[h]
 ·rw[if_pos (by simp only[m7];exact fun a ha e=>h (e ▸ ha))]
  simp[h]
theorem subset_eq(part l:Li):as7 part l=some (dec (∀x ∈ part,x ∈ l)):=by
 unfold as7
 rw[rng_list (l:=part) (fun a=>a ∈ l) false (fun j a h=>by
  unfold at7
  rw[h]
  by_cases e:a ∈ l<;>simp[e,has_eq])]
 by_cases h:∀x ∈ part,x ∈ l
 ·rw[if_pos (l9 h),l9 h];rfl
 ·rw[if_neg (by rw[x7 h];simp),x7 h];rfl
theorem disjoint_eq(a b:Li):ad8 a b=some (dec (∀x ∈ a,x ∉ b)):=by
 unfold ad8
 rw[rng_list (l:=a) (fun x=>x ∉ b) false (fun j x h=>by
  unfold ao5
  rw[h]
  by_cases e:x ∈ b<;>simp[e,has_eq])]
 by_cases h:∀x ∈ a,x ∉ b
 ·rw[if_pos (l9 h),l9 h];rfl
 ·rw[if_neg (by rw[x7 h];simp),x7 h];rfl
theorem in_eq(n lo hi:Int):X1 n lo hi=some (dec (lo≤n∧n≤hi)):=by
 unfold X1;rw[W1,W1,dec_and]
theorem at_eq(c i:Int):I0 c i=some ⟨c,i⟩:=rfl
def stepOk(l:Li)(n j:Int):Prop:=∀a,ix l j=some a→(0≤a∧a<n)∧∀b,0<j→ix l (j - 1)=some b→b<a
theorem am5{l:Li}{n:Int}:(∀j:Int,0≤j→j<l.length→stepOk l n j)↔SetN l n:=by
 constructor
 ·intro h
  refine⟨inc_of_adj fun k a b h1 h2=> ?_,fun x hx=> ?_⟩
  ·have hk:=(lG.1 h2).1
   have:=(h ((k+1:Nat):Int) (by omega) (by omega) b (by rw[N3];exact h2)).2 a (by omega)
   rw[show((k+1:Nat):Int) - 1=(k:Nat) by omega] at this
   exact this (by rw[N3];exact h1)
  ·obtain⟨i,h1,h2,h3⟩:=o7 hx
   exact(h i h1 h2 x h3).1
 ·intro h j h0 h1 a ha
  refine⟨h.2 a (k7 ha),fun b hj hb=> ?_⟩
  obtain⟨_,_,ga⟩:=k8 ha
  obtain⟨_,_,gb⟩:=k8 hb
  exact h.1.get gb ga (by omega)
theorem aj8(l:Li)(n:Int):x8 l n=some (dec (SetN l n)):=by
 unfold x8
 rcases E6 (body:=Y0 l n) (n:=(l.length:Int)) (fun j=>if dec (stepOk l n j)=true then none else some false) (by omega) (fun j h0 h1 _=>by
  obtain⟨a,ha,_⟩:=g9 (l:=l) h0 h1
  unfold Y0
  rw[ha]
  simp only[oB]
  by_cases c1:a<0
  ·rw[if_pos c1,if_neg]
   ·rfl
   ·rw[m7];intro h;have:=(h a ha).1;omega
  ·rw[if_neg c1]
   by_cases c2:n≤a
   ·rw[if_pos c2,if_neg]
    ·rfl
    ·rw[m7];intro h;have:=(h a ha).1;omega
   ·rw[if_neg c2]
    by_cases c3:0<j
    ·obtain⟨b,hb,_⟩:=g9 (l:=l) (i:=j - 1) (by omega) (by omega)
     rw[if_pos c3,hb]
     simp only[oB]
     by_cases c4:a≤b
     ·rw[if_pos (by simpa using c4),if_neg]
      rw[m7];intro h;have:=(h a ha).2 b c3 hb;omega
     ·rw[if_neg (by simpa using c4),if_pos]
      rw[m7];intro x hx
      rw[ha] at hx;cases hx
      exact⟨by omega,fun y _ hy=>by rw[hb] at hy;cases hy;omega⟩
    ·rw[if_neg c3]
     simp only[oB]
     rw[if_neg (by simp),if_pos]
     rw[m7];intro x hx
     rw[ha] at hx;cases hx
     exact⟨by omega,fun y hy=>absurd hy c3⟩) with⟨h1,h2⟩|⟨j,o,h0,h1,h2,_,h4⟩
 ·rw[h1,l9]
  ·rfl
  ·exact am5.1 fun j g1 g2=>by have:=h2 j g1 g2;simpa using this
 ·rw[h4]
  split at h2
  ·cases h2
  ·rename_i hs
   cases h2
   rw[x7]
   ·rfl
   ·exact fun h=>hs (l9 (am5.2 h j h0 h1))
theorem af9(l:Li){n:Int}(hn: -9223372036854775808<n)(hn':n≤9223372036854775807):D6 l n=some (dec (SetN l n)):=by
 unfold D6
 rcases E6 (body:=al5 l n) (n:=(l.length:Int)) (fun j=>if dec (stepOk l n j)=true then none else some false) (by omega) (fun j h0 h1 _=>by
  obtain⟨a,ha,_⟩:=g9 (l:=l) h0 h1
  unfold al5
  rw[ha]
  simp only[oB,in_eq,y6 (n:=n - 1) (by omega) (by omega),y8]
  by_cases c1:0≤a∧a≤n - 1
  ·rw[if_neg (by simpa using c1)]
   by_cases c3:0<j
   ·obtain⟨b,hb,_⟩:=g9 (l:=l) (i:=j - 1) (by omega) (by omega)
    rw[if_pos c3,hb]
    simp only[oB]
    by_cases c4:a≤b
    ·rw[if_pos (by simpa using c4),if_neg]
     rw[m7];intro h;have:=(h a ha).2 b c3 hb;omega
    ·rw[if_neg (by simpa using c4),if_pos]
     rw[m7];intro x hx
     rw[ha] at hx;cases hx
     exact⟨by omega,fun y _ hy=>by rw[hb] at hy;cases hy;omega⟩
   ·rw[if_neg c3]
    simp only[oB]
    rw[if_neg (by simp),if_pos]
    rw[m7];intro x hx
    rw[ha] at hx;cases hx
    exact⟨by omega,fun y hy=>absurd hy c3⟩
  ·rw[if_pos (by simpa using c1),if_neg]
   ·rfl
   ·rw[m7];intro h;have:=(h a ha).1;omega) with⟨h1,h2⟩|⟨j,o,h0,h1,h2,_,h4⟩
 ·rw[h1,l9]
  ·rfl
  ·exact am5.1 fun j g1 g2=>by have:=h2 j g1 g2;simpa using this
 ·rw[h4]
  split at h2
  ·cases h2
  ·rename_i hs
   cases h2
   rw[x7]
   ·rfl
   ·exact fun h=>hs (l9 (am5.2 h j h0 h1))
theorem containsLoop{s:Li}(hs:Inc s)(hl:s.length≤1000000)(x:Int){i:Int}(h0:0≤i)(h1:i≤s.length)(hlt:∀k a,0≤k→k<i→ix s k=some a→a<x):
  ∃i',Loop (K6 s x) i=some i'∧i≤i'∧i'≤s.length∧(∀k a,0≤k→k<i'→ix s k=some a→a<x)∧(∀a,ix s i'=some a→x≤a):=by
 obtain⟨o,h2,h3⟩:=J4 (body:=K6 s x) (fun j=>i≤j∧j≤s.length∧∀k a,0≤k→k<j→ix s k=some a→a<x) (fun i'=>i≤i'∧i'≤s.length∧(∀k a,0≤k→k<i'→ix s k=some a→a<x)∧(∀a,ix s i'=some a→x≤a)) (fun j=>(s.length - j).toNat) (s:=i) ⟨Int.le_refl _,h1,hlt⟩ (fun j ⟨g1,g2,g3⟩=>by
  unfold K6
  by_cases c:j<s.length
  ·obtain⟨a,ha,_⟩:=g9 (l:=s) (i:=j) (by omega) c
   rw[if_pos c,ha]
   simp only[oB,decide_eq_true_eq]
   by_cases c2:a<x
   ·rw[if_pos c2]
    rw[y6 (by omega) (by omega)]
    refine .inl ⟨j+1,rfl,⟨by omega,by omega,fun k b k0 k1 hb=> ?_⟩,by omega⟩
    by_cases e:k=j
    ·subst e;rw[ha] at hb;cases hb;exact c2
    ·exact g3 k b k0 (by omega) hb
   ·rw[if_neg c2]
    exact .inr ⟨j,rfl,g1,g2,g3,fun b hb=>by rw[ha] at hb;cases hb;omega⟩
  ·rw[if_neg c]
   exact .inr ⟨j,rfl,g1,g2,g3,fun b hb=>by have:=(k8 hb).2.1;omega⟩)
 exact⟨o,h2,h3⟩
theorem T6{s part:Li}(hs:Inc s)(hp:Inc part)(hl:s.length≤1000000):z7 s part=some (dec (∀x ∈ part,x ∈ s)):=by
 unfold z7
 rcases aa4 (body:=T0 s part) (n:=(part.length:Int)) (fun j i=>(0≤i∧i≤s.length∧∀k a,0≤k→k<i→ix s k=some a→∀m x,j≤m→ix part m=some x→a<x)∧∀m x,0≤m→m<j→ix part m=some x→x ∈ s) (fun o=>o=false∧¬ ∀x ∈ part,x ∈ s) (s:=0) (by omega) ⟨⟨by omega,by omega,fun k a h1 h2=>by omega⟩,fun m x h1 h2=>by omega⟩ (fun j i h0 h1 ⟨⟨g1,g2,g3⟩,g4⟩=>by
  obtain⟨x,hx,gx⟩:=g9 (l:=part) h0 h1
  unfold T0
  obtain⟨i',e1,e2,e3,e4,e5⟩:=containsLoop hs hl x g1 g2 (fun k a k0 k1 ha=>g3 k a k0 k1 ha j x (Int.le_refl _) hx)
  rw[hx]
  simp only[oB,e1]
  have nin:(∀a,ix s i'=some a→x<a)→x ∉ s:=fun hgt hin=>by
   obtain⟨k,k0,k1,hk⟩:=o7 hin
   rcases Int.lt_trichotomy k i' with c|c|c
   ·have:=e4 k x k0 c hk;omega
   ·subst c;have:=hgt x hk;omega
   ·obtain⟨b,hb,gb⟩:=g9 (l:=s) (i:=i') (by omega) (by omega)
    obtain⟨_,_,gk⟩:=k8 hk
    have:=hs.get gb gk (by omega)
    have:=e5 b hb
    omega
  by_cases c:i'=s.length
  ·rw[if_pos c]
   refine .inr ⟨false,rfl,rfl,fun h=> ?_⟩
   exact nin (fun a ha=>by have:=(k8 ha).2.1;omega) (h x (k7 hx))
  ·rw[if_neg c]
   obtain⟨b,hb,gb⟩:=g9 (l:=s) (i:=i') (by omega) (by omega)
   rw[hb]
   simp only[oB]
   have hxb:=e5 b hb
   by_cases c2:b=x
   ·subst c2
    rw[if_neg (by simp)]
    refine .inl ⟨i',rfl,⟨by omega,e3,fun k a k0 k1 ha m y hm hy=> ?_⟩,fun m y m0 m1 hy=> ?_⟩
    ·obtain⟨_,_,gy⟩:=k8 hy
     have:=hp.get gx gy (by omega)
     have:=e4 k a k0 k1 ha
     omega
    ·by_cases e:m=j
     ·subst e;rw[hx] at hy;cases hy;exact k7 hb
     ·exact g4 m y m0 (by omega) hy
   ·rw[if_pos (by simpa using c2)]
    refine .inr ⟨false,rfl,rfl,fun h=> ?_⟩
    exact nin (fun a ha=>by rw[hb] at ha;cases ha;omega) (h x (k7 hx))) with⟨s',h1,_,h2⟩|⟨o,h1,rfl,h2⟩
 ·rw[h1,l9]
  ·rfl
  ·intro x hx
   obtain⟨m,m0,m1,hm⟩:=o7 hx
   exact h2 m x m0 m1 hm
 ·rw[h1,x7 h2];rfl
end Ab
end
section
namespace Ab
open Go
theorem half_eq{i j:Int}(h0:0≤i)(h1:i≤j)(h2:j≤1000000):w64 (shrW .u64 ((IntKind.u64).wrap (w64 (i+j))) 1)=(i+j) / 2:=by
 rw[y6 (n:=i+j) (by omega) (by omega),IntKind.wrap_u64,Int.emod_eq_of_lt (by omega) (by omega)]
 have:shrW .u64 (i+j) 1=(i+j) / 2:=by
  simp only[shrW,IntKind.bits]
  rw[show min (1:Int).toNat 64=1 by rfl,Int.fdiv_eq_ediv_of_nonneg _ (by decide)]
  rfl
 rw[this]
 exact y6 (by omega) (by omega)
theorem less_eq(a b:Int):aa9 a b=some (decide (a<b)):=by simp[aa9,cmp_isNaN_int]
theorem bsearch_eq{xs:Li}(hs:Inc xs)(hl:xs.length≤500000)(t:Int):∃i,w6 xs t=some (i,dec (t ∈ xs))∧0≤i∧i≤xs.length∧(∀k a,0≤k→k<i→ix xs k=some a→a<t)∧(∀k a,i≤k→ix xs k=some a→t≤a):=by
 unfold w6
 obtain⟨i,h1,h2,h3,h4,h5⟩:=J4 (body:=C2 xs t) (fun p=>(0≤p.1∧p.1≤p.2∧p.2≤xs.length)∧(∀k a,0≤k→k<p.1→ix xs k=some a→a<t)∧(∀k a,p.2≤k→ix xs k=some a→t≤a))
  (fun i=>0≤i∧i≤xs.length∧(∀k a,0≤k→k<i→ix xs k=some a→a<t)∧(∀k a,i≤k→ix xs k=some a→t≤a)) (fun p=>(p.2 - p.1).toNat) (s:=(0,(xs.length:Int)))
  ⟨⟨by simp,by simp,by simp⟩,fun k a h1 h2=>by simp at h2;omega,fun k a h1 h2=>by have:=(k8 h2).2.1;simp at h1;omega⟩ (fun⟨i,j⟩ ⟨⟨g1,g2,g3⟩,g4,g5⟩=>by
  dsimp only at g1 g2 g3 g4 g5 ⊢
  unfold C2
  dsimp only
  by_cases c:i<j
  ·rw[if_pos c,half_eq g1 g2 (by omega)]
   obtain⟨a,ha,ga⟩:=g9 (l:=xs) (i:=(i+j) / 2) (by omega) (by omega)
   rw[ha]
   simp only[oB,less_eq,decide_eq_true_eq]
   by_cases c2:a<t
   ·rw[if_pos c2,y6 (by omega) (by omega)]
    refine .inl ⟨_,rfl,⟨⟨by dsimp only;omega,by dsimp only;omega,g3⟩,fun k b k0 k1 hb=> ?_,g5⟩,by dsimp only;omega⟩
    dsimp only at k1
    obtain⟨_,_,gb⟩:=k8 hb
    by_cases e:k=(i+j) / 2
    ·subst e;rw[ha] at hb;cases hb;exact c2
    ·have:=hs.get gb ga (by omega);omega
   ·rw[if_neg c2]
    refine .inl ⟨_,rfl,⟨⟨g1,by dsimp only;omega,by dsimp only;omega⟩,g4,fun k b k0 hb=> ?_⟩,by dsimp only;omega⟩
    dsimp only at k0
    obtain⟨_,_,gb⟩:=k8 hb
    by_cases e:k=(i+j) / 2
    ·subst e;rw[ha] at hb;cases hb;omega
    ·have:=hs.get ga gb (by omega);omega
  ·rw[if_neg c]
   have:i=j:=by omega
   subst this
   exact .inr ⟨i,rfl,g1,g3,g4,g5⟩)
 rw[h1]
 simp only[oB]
 refine⟨i,?_,h2,h3,h4,h5⟩
 have nin:(∀a,ix xs i=some a→a ≠ t)→t ∉ xs:=fun hne hin=>by
  obtain⟨k,k0,k1,hk⟩:=o7 hin
  rcases Int.lt_trichotomy k i with c|c|c
  ·have:=h4 k t k0 c hk;omega
  ·subst c;exact hne t hk rfl
  ·obtain⟨b,hb,gb⟩:=g9 (l:=xs) (i:=i) (by omega) (by omega)
   obtain⟨_,_,gk⟩:=k8 hk
   have:=hs.get gb gk (by omega)
   have:=h5 i b (Int.le_refl _) hb
   omega
 by_cases c:i<xs.length
 ·obtain⟨a,ha,ga⟩:=g9 (l:=xs) (i:=i) (by omega) c
  rw[if_pos c,ha]
  simp only[oB]
  by_cases c2:a=t
  ·subst c2
   rw[if_pos rfl,l9 (k7 ha)]
   rfl
  ·rw[if_neg c2]
   simp only[P8,decide_true,Bool.not_true,Bool.false_eq_true,if_false,oB]
   rw[x7 (nin fun b hb=>by rw[ha] at hb;cases hb;exact c2)]
 ·rw[if_neg c]
  simp only[oB]
  rw[x7 (nin fun b hb=>by have:=(k8 hb).2.1;omega)]
theorem bsearch2{xs:Li}(hs:Inc xs)(hl:xs.length≤500000)(t:Int):∃i,w6 xs t=some (i,dec (t ∈ xs)):=
 let ⟨i,h,_⟩:=bsearch_eq hs hl t
 ⟨i,h⟩
theorem containsFunc_eq{l:Li}{f:Int→Option Bool}(p:Int→Prop)(hf:∀x ∈ l,f x=some (dec (p x))):B2 l f=some (dec (∃x ∈ l,p x)):=by
 unfold B2 G8
 rcases E6 (body:=E9 l f) (n:=(l.length:Int)) (fun j=>if dec (∀a,ix l j=some a→¬ p a)=true then none else some j) (by omega) (fun j h0 h1 _=>by
  obtain⟨a,ha,_⟩:=g9 (l:=l) h0 h1
  unfold E9
  rw[ha]
  simp only[oB,hf a (k7 ha)]
  by_cases c:p a
  ·rw[if_pos (l9 c),if_neg (by rw[m7];exact fun h=>h a rfl c)]
  ·rw[if_neg (by rw[x7 c];simp),if_pos (l9 fun b hb=>by cases hb;exact c)]) with⟨h1,h2⟩|⟨j,o,h0,h1,h2,_,h4⟩
 ·rw[h1]
  simp only[oB]
  rw[x7]
  ·rfl
  ·rintro ⟨x,hx,hp⟩
   obtain⟨i,g1,g2,g3⟩:=o7 hx
   have:=h2 i g1 g2
   split at this
   ·rename_i h;exact m7.1 h x g3 hp
   ·cases this
 ·rw[h4]
  split at h2
  ·cases h2
  ·rename_i h
   cases h2
   simp only[oB]
   rw[l9]
   ·simp[h0]
   ·simp only[m7] at h
    obtain⟨a,g1,_⟩:=g9 (l:=l) h0 h1
    refine⟨a,k7 g1,?_⟩
    rcases Classical.em (p a) with c|c
    ·exact c
    ·exact absurd (fun b hb=>by rw[g1] at hb;cases hb;exact c) h
theorem meets_eq{a b:Li}(hb:Inc b)(hl:b.length≤500000):V2 a b=some (dec (∃x ∈ a,x ∈ b)):=by
 unfold V2
 rw[containsFunc_eq (fun x=>x ∈ b) (fun x _=>by
  unfold ac0
  obtain⟨i,h⟩:=bsearch2 hb hl x
  rw[h];rfl)]
 rfl
/-! ### Sorted, and equal neighbours made one -/
theorem compact_spec{l:Li}(hs:l.Pairwise (· ≤ ·)):Inc (ae7 l)∧∀x,x ∈ ae7 l↔x ∈ l:=by
 have key:∀m,m≤l.length→Inc (Go.Lib.compactUpTo l.toArray m)∧(∀x,x ∈ Go.Lib.compactUpTo l.toArray m↔x ∈ l.take m):=by
  intro m
  induction m with
  |zero=>intro _;simp[Go.Lib.compactUpTo]
  |succ m ih=>
   intro hm
   obtain⟨h1,h2⟩:=ih (by omega)
   have hlt:m<l.length:=by omega
   have hd:l.toArray[m]! =l[m]:=by simp[hlt]
   have ht:l.take (m+1)=l.take m++[l[m]]:=by rw[List.take_add_one];simp[hlt]
   rw[Go.Lib.compactUpTo_succ,ht]
   by_cases hk:Go.Lib.keeps l.toArray m=true
   ·rw[if_pos hk,hd]
    refine⟨List.pairwise_append.2 ⟨h1,by simp,fun a ha b hb=> ?_⟩,fun x=>by rw[List.mem_append,List.mem_append,h2]⟩
    simp only[List.mem_singleton] at hb
    subst hb
    have ha':=(h2 a).1 ha
    obtain⟨i,hi,rfl⟩:=List.mem_iff_getElem.1 ha'
    rw[List.length_take] at hi
    rw[List.getElem_take]
    simp only[Go.Lib.keeps,decide_eq_true_eq] at hk
    rcases hk with hk|hk
    ·omega
    ·have hm1:l.toArray[m - 1]! =l[m - 1]:=by simp[show m - 1<l.length by omega]
     rw[hd,hm1] at hk
     have e1:l[m - 1]≤l[m]:=List.pairwise_iff_getElem.1 hs (m - 1) m (by omega) hlt (by omega)
     have e2:l[i]≤l[m - 1]:=by
      rcases Nat.lt_or_ge i (m - 1) with c|c
      ·exact List.pairwise_iff_getElem.1 hs i (m - 1) (by omega) (by omega) c
      ·have:i=m - 1:=by omega
       subst this;exact Int.le_refl _
     omega
   ·rw[if_neg hk,List.append_nil]
    refine⟨h1,fun x=> ?_⟩
    rw[h2,List.mem_append]
    refine⟨.inl,fun h=> ?_⟩
    rcases h with h|h
    ·exact h
    ·simp only[List.mem_singleton] at h
     subst h
     have hm0:m ≠ 0:=fun e=>hk (by simp[Go.Lib.keeps,e])
     have hm1:l.toArray[m - 1]! =l[m - 1]:=by simp[show m - 1<l.length by omega]
     have he:l[m]=l[m - 1]:=by
      simp only[Go.Lib.keeps,decide_eq_true_eq,not_or] at hk
      have h3:l.toArray[m]! =l.toArray[m - 1]! :=Classical.not_not.1 (fun h=>hk.2 h)
      rw[hd,hm1] at h3;exact h3
     rw[he,List.mem_take_iff_getElem]
     exact⟨m - 1,by omega,rfl⟩
 obtain⟨h1,h2⟩:=key l.length (Nat.le_refl _)
 refine⟨?_,fun x=> ?_⟩
 ·simpa[ae7,Go.Lib.compact] using h1
 ·have:=h2 x
  rw[List.take_length] at this
  simpa[ae7,Go.Lib.compact] using this
theorem srt_spec(l:Li):(srt l).Pairwise (· ≤ ·)∧∀x,x ∈ srt l↔x ∈ l:=by
 refine⟨?_,fun x=>by simp[srt]⟩
 have:=List.pairwise_mergeSort (le:=fun x y:Int=>decide (x≤y)) (fun a b c h1 h2=>by simp at h1 h2 ⊢;omega) (fun a b=>by simp;omega) l
 refine this.imp fun h=>by simpa using h
theorem sortL_eq{l:Li}(h:l.length<4611686018427387904):sortL l=some (srt l):=by rw[sortL,if_pos h]
theorem update_inc{s add del:Li}(hd:Inc del)(hl:del.length≤500000)(h1:s.length≤500000)(h2:add.length≤500000):
  ∃r,M6 s add del=some r∧Inc r∧∀x,x ∈ r↔(x ∈ s∧x ∉ del)∨x ∈ add:=by
 unfold M6
 rw[forR_filter (l:=s) (b:=8) (fun a=>a ∉ del) (fun j a c h=>by
  obtain⟨i,hi⟩:=bsearch2 hd hl a
  unfold af3
  rw[h]
  simp only[oB,hi,y8]
  refine⟨fun hq=> ?_,fun hq=> ?_⟩
  ·rw[if_pos (l9 hq)]
   cases app 8 c [a]<;>rfl
  ·rw[if_neg (by simpa using hq)];rfl) [] (by simp;omega)]
 simp only[oB,List.nil_append]
 have hle:(s.filter fun a=>dec (a ∉ del)).length≤s.length:=List.length_filter_le _ _
 rw[show app 8 (s.filter fun a=>dec (a ∉ del)) add=some ((s.filter fun a=>dec (a ∉ del))++add) by rw[app,if_pos];omega]
 simp only[oB]
 rw[sortL_eq (by rw[List.length_append];omega)]
 simp only[oB]
 obtain⟨e1,e2⟩:=srt_spec ((s.filter fun a=>dec (a ∉ del))++add)
 obtain⟨e3,e4⟩:=compact_spec e1
 refine⟨_,rfl,e3,fun x=> ?_⟩
 rw[e4,e2,List.mem_append,List.mem_filter,m7]
theorem update_eq{s add del:Li}{n:Int}(hn:n≤1000)(hd:Inc del)(hl:del.length≤500000)(hs:SetN s n)(ha:SetN add n):
  M6 s add del=some (M1 (fun x=>(x ∈ s∧x ∉ del)∨x ∈ add) n):=by
 have h1:=hs.len;have h2:=ha.len
 obtain⟨r,e1,e2,e3⟩:=update_inc (s:=s) (add:=add) hd hl (by omega) (by omega)
 rw[e1,SetN.eq_of (n:=n) ⟨e2,fun x hx=> ?_⟩ (fun x _ _=>e3 x)]
 rcases(e3 x).1 hx with h|h
 ·exact hs.2 x h.1
 ·exact ha.2 x h
end Ab
end
section
namespace Ab
open Go
def W3(o:s9)(n:Int):Prop:=SetN o.pre n∧SetN o.add n∧SetN o.del n∧∀x ∈ o.add,x ∉ o.del
def ah6(o:s9):Prop:=0≤o.cost∧o.cost≤100
noncomputable def W7(o:s9)(n:Int):Int:=if dec (W3 o n)=true then if dec (ah6 o)=true then 0 else 3 else 5
structure B0(t:m6):Prop where
 n0:0≤t.facts
 n1:t.facts≤24
 init:SetN t.init t.facts
 goal:SetN t.goal t.facts
 ops:t.operators.length≤40
 op:∀o ∈ t.operators,W3 o t.facts∧ah6 o
theorem opCode_zero{o:s9}{n:Int}:W7 o n=0↔W3 o n∧ah6 o:=by
 unfold W7
 by_cases h:W3 o n
 ·rw[if_pos (l9 h)]
  by_cases g:ah6 o
  ·rw[if_pos (l9 g)];simp[h,g]
  ·rw[if_neg (by rw[x7 g];simp)];simp[g]
 ·rw[if_neg (by rw[x7 h];simp)];simp[h]
theorem operator_eq{o:s9}{n:Int}(h0:0≤n)(h1:n≤24):R7 o n=some (W7 o n):=by
 unfold R7 W7
 simp only[aj8,oB,y8]
 have bad:¬ W3 o n→dec (W3 o n)=true→False:=fun h g=>h (m7.1 g)
 by_cases c1:SetN o.pre n
 ·rw[if_neg (by simpa using c1)]
  by_cases c2:SetN o.add n
  ·rw[if_neg (by simpa using c2)]
   by_cases c3:SetN o.del n
   ·rw[if_neg (by simpa using c3)]
    have hl:=c3.len
    rw[meets_eq c3.1 (by omega)]
    simp only[oB]
    by_cases c4:∃x ∈ o.add,x ∈ o.del
    ·rw[if_pos (l9 c4),if_neg]
     rw[m7]
     obtain⟨x,g1,g2⟩:=c4
     exact fun h=>h.2.2.2 x g1 g2
    ·have hs:W3 o n:=⟨c1,c2,c3,fun x g1 g2=>c4 ⟨x,g1,g2⟩⟩
     rw[if_neg (by rw[x7 c4];simp),if_pos (l9 hs)]
     by_cases c5:ah6 o
     ·rw[if_pos (l9 c5),if_neg]
      have:=c5.1;have:=c5.2
      simp;omega
     ·rw[if_neg (fun h=>c5 (m7.1 h)),if_pos]
      unfold ah6 at c5
      simp;omega
   ·rw[if_pos (by simpa using c3)]
    simp only[oB,if_true]
    rw[if_neg fun h=>c3 (m7.1 h).2.2.1]
  ·rw[if_pos (by simpa using c2)]
   simp only[oB,if_true]
   rw[if_neg fun h=>c2 (m7.1 h).2.1]
 ·rw[if_pos (by simpa using c1)]
  simp only[oB,if_true]
  rw[if_neg fun h=>c1 (m7.1 h).1]
theorem validate_eq(t:m6):∃f,H7 t=some f∧at9 t=some f∧((f=⟨0,0⟩∧B0 t)∨(f.code ≠ 0∧¬ B0 t)):=by
 unfold H7 at9
 simp only[in_eq,at_eq,oB,y8]
 by_cases c1:0≤t.facts∧t.facts≤24
 ·rw[if_neg (by simp;omega),ifNN c1]
  simp only[aj8,af9 (n:=t.facts) _ (by omega) (by omega),oB,y8]
  by_cases c2:SetN t.init t.facts
  ·rw[ifNN c2,ifNN c2]
   by_cases c3:SetN t.goal t.facts
   ·rw[ifNN c3,ifNN c3]
    by_cases c4:40<(t.operators.length:Int)
    ·rw[if_pos c4,if_pos c4]
     exact⟨_,rfl,rfl,.inr ⟨by simp,fun h=>by have:=h.ops;omega⟩⟩
    ·rw[if_neg c4,if_neg c4]
     have hb:∀j:Int,0≤j→j<t.operators.length→∃o,ix t.operators j=some o∧K7 t j ()=some (if W7 o t.facts=0 then .inl () else .inr ⟨W7 o t.facts,j⟩)∧M8 t j ()=some (if W7 o t.facts=0 then .inl () else .inr ⟨W7 o t.facts,j⟩):=fun j h0 h1=>by
      obtain⟨o,ho,_⟩:=g9 (l:=t.operators) h0 h1
      refine⟨o,ho,?_,?_⟩
      ·unfold K7
       rw[ho]
       simp only[oB,operator_eq c1.1 c1.2]
       by_cases e:W7 o t.facts=0
       ·rw[if_pos e,if_pos e]
       ·rw[if_neg e,if_neg e]
      ·unfold M8
       rw[ho]
       simp only[oB,af9 (n:=t.facts) _ (show -9223372036854775808<t.facts by omega) (show t.facts≤9223372036854775807 by omega),disjoint_eq,in_eq,at_eq,y8]
       have hp:(if dec (¬ SetN o.pre t.facts)=true then some true else if dec (¬ SetN o.add t.facts)=true then some true else if dec (¬ SetN o.del t.facts)=true then some true else some (dec (¬ ∀x ∈ o.add,x ∉ o.del)))=some (dec (¬ W3 o t.facts)):=by
        unfold W3
        by_cases g1:SetN o.pre t.facts
        ·rw[if_neg (by simpa using g1)]
         by_cases g2:SetN o.add t.facts
         ·rw[if_neg (by simpa using g2)]
          by_cases g3:SetN o.del t.facts
          ·rw[if_neg (by simpa using g3)]
           exact congrArg some (z2 ⟨fun h g=>h g.2.2.2,fun h g=>h ⟨g1,g2,g3,g⟩⟩)
          ·rw[if_pos (by simpa using g3),l9 (fun g=>g3 g.2.2.1)]
         ·rw[if_pos (by simpa using g2),l9 (fun g=>g2 g.2.1)]
        ·rw[if_pos (by simpa using g1),l9 (fun g=>g1 g.1)]
       rw[hp]
       simp only[oB]
       unfold W7
       by_cases g1:W3 o t.facts
       ·rw[if_neg (by simpa using g1),if_pos (l9 g1)]
        by_cases g2:ah6 o
        ·rw[ifP g2,ifNN (p:=0≤o.cost∧o.cost≤100) g2];rfl
        ·rw[ifN g2,ifP (p:=¬ (0≤o.cost∧o.cost≤100)) g2];rfl
       ·rw[if_pos (l9 g1),if_neg (fun h=>g1 (m7.1 h))];rfl
     have heq:rngX 0 (t.operators.length:Int) (K7 t) ()=rngX 0 (t.operators.length:Int) (M8 t) ():=
      (rngX_eq (fun _ _=>True) (by omega) trivial (fun j s h0 h1 _=>by
       obtain⟨o,_,e1,e2⟩:=hb j h0 h1
       exact⟨by rw[e1,e2],by rw[e1];simp,fun _ _=>trivial⟩)).1
     rcases E6 (body:=M8 t) (n:=(t.operators.length:Int)) (fun j=>match ix t.operators j with|some o=>if W7 o t.facts=0 then none else some (⟨W7 o t.facts,j⟩:k6)|none=>none) (by omega) (fun j h0 h1 _=>by
      obtain⟨o,e0,_,e2⟩:=hb j h0 h1
      rw[e2,e0]
      dsimp only
      split<;>rfl) with⟨h1,h2⟩|⟨j,f,h0,h1,h2,_,h4⟩
     ·rw[heq,h1]
      refine⟨⟨0,0⟩,rfl,rfl,.inl ⟨rfl,c1.1,c1.2,c2,c3,by omega,fun o ho=> ?_⟩⟩
      obtain⟨j,g0,g1,g2⟩:=o7 ho
      have:=h2 j g0 g1
      rw[g2] at this
      dsimp only at this
      split at this
      ·rename_i e;exact opCode_zero.1 e
      ·cases this
     ·rw[heq,h4]
      obtain⟨o,e0,_,_⟩:=hb j h0 h1
      rw[e0] at h2
      dsimp only at h2
      split at h2
      ·cases h2
      ·rename_i e
       cases h2
       exact⟨_,rfl,rfl,.inr ⟨e,fun h=>e (opCode_zero.2 (h.op o (k7 e0)))⟩⟩
   ·rw[ifP c3,ifP c3]
    exact⟨_,rfl,rfl,.inr ⟨by simp,fun h=>c3 h.goal⟩⟩
  ·rw[ifP c2,ifP c2]
   exact⟨_,rfl,rfl,.inr ⟨by simp,fun h=>c2 h.init⟩⟩
 ·rw[if_pos (by simp;omega),if_pos (l9 c1)]
  exact⟨_,rfl,rfl,.inr ⟨by simp,fun h=>c1 ⟨h.n0,h.n1⟩⟩⟩
theorem au9{f:k6}(h:f.code ≠ 0):(!((decide (f.code=0)) && (decide (f.index=0))))=true:=by simp[h]
/-! ### What operators and plans do -/
def noOp:s9:=⟨[],[],[],0⟩
def opAt(t:m6)(op:Int):s9:=(t.operators[op.toNat]?).getD noOp
theorem ix_op{t:m6}{op:Int}(h0:0≤op)(h1:op<t.operators.length):ix t.operators op=some (opAt t op):=by
 obtain⟨a,h2,h3⟩:=g9 h0 h1
 rw[h2,opAt,h3];rfl
theorem B0.at{t:m6}(h:B0 t){op:Int}(h0:0≤op)(h1:op<t.operators.length):W3 (opAt t op) t.facts∧ah6 (opAt t op):=h.op _ (k7 (ix_op h0 h1))
def can(t:m6)(s:Li)(op:Int):Prop:=∀x ∈ (opAt t op).pre,x ∈ s
noncomputable def aft(t:m6)(s:Li)(op:Int):Li:=M1 (fun x=>x ∈ (opAt t op).add∨x ∈ s∧x ∉ (opAt t op).del) t.facts
theorem setN_aft(t:m6)(s:Li)(op:Int):SetN (aft t s op) t.facts:=am7 _ _
noncomputable def ends(t:m6):Li→Li→Option Li
 |s,[]=>some s
 |s,op::r=>if dec (can t s op)=true then ends t (aft t s op) r else none
def works(t:m6)(s plan:Li):Prop:=∃e,ends t s plan=some e∧∀x ∈ t.goal,x ∈ e
theorem T8{s:Li}(h:s.length≤1000000):q9 s=some s:=by
 rw[q9,app,if_pos (by simp;omega)];rfl
end Ab
end
section
namespace Ab
open Go
/-! ### States as' numbers -/
def wsN:Li→Nat
 |[]=>0
 |a::l=>2 ^ a.toNat+wsN l
theorem wsN_append:∀{l m:Li},wsN (l++m)=wsN l+wsN m
 |[],m=>by simp[wsN]
 |a::l,m=>by simp only[List.cons_append,wsN,wsN_append (l:=l)];omega
theorem wsN_le:∀{l:Li},(∀x ∈ l,x<24)→wsN l≤l.length * 16777216
 |[],_=>by simp[wsN]
 |a::l,h=>by
  have h1:=wsN_le (l:=l) fun x hx=>h x (List.mem_cons_of_mem _ hx)
  have h2:2 ^ a.toNat≤2 ^ 24:=Nat.pow_le_pow_right (by decide) (by have:=h a (by simp);omega)
  simp only[wsN,List.length_cons]
  omega
theorem wsN_dvd{k:Nat}:∀{l:Li},(∀x ∈ l,k≤x.toNat)→2 ^ k ∣ wsN l
 |[],_=>⟨0,rfl⟩
 |a::l,h=>Nat.dvd_add (Nat.pow_dvd_pow 2 (h a (by simp))) (wsN_dvd fun x hx=>h x (List.mem_cons_of_mem _ hx))
theorem two_pow_no{k:Nat}(h:2 ^ (k+1) ∣ 2 ^ k):False:=by
 have h1:=Nat.le_of_dvd (Nat.two_pow_pos k) h
 have h2:=Nat.two_pow_pos k
 rw[Nat.pow_succ] at h1
 omega
theorem wsN_ne{a:Int}{l m:Li}(ha:0≤a)(hl:∀x ∈ l,a<x)(hm:∀x ∈ m,a<x):wsN (a::l) ≠ wsN m:=fun h=>by
 have d1:2 ^ (a.toNat+1) ∣ wsN l:=wsN_dvd fun x hx=>by have:=hl x hx;omega
 have d2:2 ^ (a.toNat+1) ∣ wsN m:=wsN_dvd fun x hx=>by have:=hm x hx;omega
 rw[← h,wsN] at d2
 exact two_pow_no ((Nat.dvd_add_left d1).1 d2)
theorem wsN_inj:∀{l m:Li},Inc l→Inc m→(∀x ∈ l,0≤x)→(∀x ∈ m,0≤x)→wsN l=wsN m→l=m
 |[],[],_,_,_,_,_=>rfl
 |[],b::m,_,_,_,_,h=>by
  have:=Nat.two_pow_pos b.toNat
  simp only[wsN] at h;omega
 |a::l,[],_,_,_,_,h=>by
  have:=Nat.two_pow_pos a.toNat
  simp only[wsN] at h;omega
 |a::l,b::m,h1,h2,h3,h4,h=>by
  obtain⟨l1,l2⟩:=List.pairwise_cons.1 h1
  obtain⟨m1,m2⟩:=List.pairwise_cons.1 h2
  rcases Int.lt_trichotomy a b with c|c|c
  ·exact absurd h (wsN_ne (h3 a (by simp)) l1 fun x hx=>by
    rcases List.mem_cons.1 hx with rfl|hx
    ·exact c
    ·have:=m1 x hx;omega)
  ·subst c
   simp only[wsN] at h
   rw[wsN_inj l2 m2 (fun x hx=>h3 x (List.mem_cons_of_mem _ hx)) (fun x hx=>h4 x (List.mem_cons_of_mem _ hx)) (by omega)]
  ·exact absurd h.symm (wsN_ne (h4 b (by simp)) m1 fun x hx=>by
    rcases List.mem_cons.1 hx with rfl|hx
    ·exact c
    ·have:=l1 x hx;omega)
theorem SetN.word_inj{s s':Li}{n:Int}(h:SetN s n)(h':SetN s' n)(e:wsN s=wsN s'):s=s':=
 wsN_inj h.1 h'.1 (fun x hx=>(h.2 x hx).1) (fun x hx=>(h'.2 x hx).1) e
theorem word_eq{s:Li}{n:Int}(hs:SetN s n)(hn:n≤24):al1 s=some (wsN s:Int):=by
 have hl:=hs.len
 unfold al1
 obtain⟨w,h1,h2⟩:=w8 (body:=ap4 s) (n:=(s.length:Int)) (s:=0) (fun j w=>w=(wsN (s.take j.toNat):Int)) (by omega) (by simp[wsN]) (fun j w j0 j1 hP=>by
  obtain⟨a,ha,ga⟩:=g9 (l:=s) j0 j1
  have hb:=hs.2 a (k7 ha)
  have ht:s.take (j+1).toNat=s.take j.toNat++[a]:=by rw[show(j+1).toNat=j.toNat+1 by omega,List.take_add_one,ga];rfl
  have b1:wsN (s.take j.toNat)≤(s.take j.toNat).length * 16777216:=wsN_le fun x hx=>by have:=hs.2 x (List.mem_of_mem_take hx);omega
  have b2:(s.take j.toNat).length≤24:=by rw[List.length_take];omega
  have b4:(s.take j.toNat).length * 16777216≤24 * 16777216:=Nat.mul_le_mul_right _ b2
  obtain⟨q,hq⟩:∃q:Nat,q=2 ^ a.toNat:=⟨_,rfl⟩
  have b3:q≤16777216:=by rw[hq];exact(Nat.pow_le_pow_right (by decide) (by omega):2 ^ a.toNat≤2 ^ 24)
  have ep:(2:Int) ^ a.toNat=(q:Int):=by rw[hq];push_cast;rfl
  unfold ap4
  rw[ha]
  simp only[oB]
  rw[IntKind.wrap_u64,Int.emod_eq_of_lt (by omega) (by omega),chk0,if_neg (by omega)]
  simp only[oB]
  have es:shlW .i64 1 a=(q:Int):=by
   unfold shlW
   rw[show min a.toNat (IntKind.i64).bits=a.toNat by simp only[IntKind.bits];omega,Int.one_mul,ep]
   exact y6 (by omega) (by omega)
  rw[es,y6 (by omega) (by omega),ht,wsN_append,hP]
  refine⟨_,rfl,?_⟩
  simp only[wsN,← hq]
  omega)
 rw[h1,h2,Int.toNat_natCast,List.take_length]
 rfl
end Ab
end
section
namespace Ab
open Go
theorem setN1(a:Int){n:Int}(h0:0≤a)(h1:a<n):SetN [a] n:=⟨by simp,by simp[h0,h1]⟩
theorem subL_drop{α:Type}{l:List α}{i:Int}(h0:0≤i)(h1:i≤l.length):subL l i (l.length:Int)=some (l.drop i.toNat):=by
 rw[subL,if_pos (by omega)]
 rw[show((l.length:Int)).toNat=l.length by omega,List.take_length]
theorem subL_take{α:Type}{l:List α}{i:Int}(h0:0≤i)(h1:i≤l.length):subL l 0 i=some (l.take i.toNat):=by
 rw[subL,if_pos (by omega)];rfl
end Ab
end
section
namespace Ab
open Go
def llt:Li→Li→Prop
 |[],[]=>False
 |[],_::_=>True
 |_::_,[]=>False
 |a::l,b::m=>a<b∨a=b∧llt l m
theorem K2:∀l:Li,¬ llt l l
 |[]=>id
 |a::l=>fun h=>by
  rcases h with h|⟨_,h⟩
  ·omega
  ·exact K2 l h
theorem I4:∀{a b c:Li},llt a b→llt b c→llt a c
 |[],[],_,h,_=>h.elim
 |[],_::_,[],_,h=>h.elim
 |[],_::_,_::_,_,_=>trivial
 |_::_,[],_,h,_=>h.elim
 |_::_,_::_,[],_,h=>h.elim
 |x::a,y::b,z::c,h,g=>by
  rcases h with h|⟨rfl,h⟩<;>rcases g with g|⟨rfl,g⟩
  ·exact .inl (by omega)
  ·exact .inl h
  ·exact .inl g
  ·exact .inr ⟨rfl,I4 h g⟩
theorem V6:∀a b:Li,llt a b∨a=b∨llt b a
 |[],[]=>.inr (.inl rfl)
 |[],_::_=>.inl trivial
 |_::_,[]=>.inr (.inr trivial)
 |x::a,y::b=>by
  rcases Int.lt_trichotomy x y with h|rfl|h
  ·exact .inl (.inl h)
  ·rcases V6 a b with h|rfl|h
   ·exact .inl (.inr ⟨rfl,h⟩)
   ·exact .inr (.inl rfl)
   ·exact .inr (.inr (.inr ⟨rfl,h⟩))
  ·exact .inr (.inr (.inl h))
theorem llt_asymm{a b:Li}(h:llt a b)(g:llt b a):False:=K2 a (I4 h g)
noncomputable def cmpL(a b:Li):Int:=if dec (llt a b)=true then -1 else if dec (a=b)=true then 0 else 1
theorem U9{a b:Li}:cmpL a b<0↔llt a b:=by
 unfold cmpL
 by_cases h:llt a b
 ·rw[ifP h];simp[h]
 ·rw[ifN h]
  split<;>simp[h]
theorem cmpL_eq{a b:Li}:cmpL a b=0↔a=b:=by
 unfold cmpL
 by_cases h:llt a b
 ·rw[ifP h]
  constructor
  ·intro e;omega
  ·rintro rfl;exact absurd h (K2 _)
 ·rw[ifN h]
  by_cases g:a=b
  ·rw[ifP g];simp[g]
  ·rw[ifN g];simp[g]
theorem cmpL_ge{a b:Li}:0≤cmpL a b↔¬ llt a b:=by rw[← U9];omega
theorem cmpInt_eq(x y:Int):cmp_Compare_int x y=some (if x<y then -1 else if y<x then 1 else 0):=by
 unfold cmp_Compare_int cmp_isNaN_int
 simp only[decide_true,Bool.not_true,oB,Bool.false_eq_true,if_false]
 split
 ·rfl
 ·split<;>rfl
theorem av2:∀{a b:Li} (k:Nat),k≤a.length→k≤b.length→a.take k=b.take k→(llt a b↔llt (a.drop k) (b.drop k))
 |_,_,0,_,_,_=>by simp
 |[],_,k+1,h,_,_=>by simp at h
 |_::_,[],k+1,_,h,_=>by simp at h
 |x::a,y::b,k+1,h1,h2,h3=>by
  simp only[List.take_succ_cons,List.cons.injEq] at h3
  obtain⟨rfl,h3⟩:=h3
  simp only[List.drop_succ_cons]
  rw[← av2 k (by simpa using h1) (by simpa using h2) h3]
  simp[llt]
theorem ah2(a b:Li):slices_Compare_int_int a b=some (cmpL a b):=by
 unfold slices_Compare_int_int
 rcases aa4 (body:=G3 a b) (n:=(a.length:Int)) (s:=()) (fun j _=>j≤b.length∧a.take j.toNat=b.take j.toNat) (fun o=>o=cmpL a b) (by omega) ⟨by omega,by simp⟩ (fun j _ j0 j1 ⟨k1,k2⟩=>by
  obtain⟨x,hx,gx⟩:=g9 (l:=a) j0 j1
  have hxl:=(lG.1 gx).2
  unfold G3
  rw[hx]
  simp only[oB]
  have hd:=av2 (a:=a) (b:=b) j.toNat (by omega) (by omega) k2
  have da:a.drop j.toNat=x::a.drop (j.toNat+1):=by rw[← hxl];exact List.drop_eq_getElem_cons (by omega)
  by_cases c:(b.length:Int)≤j
  ·rw[if_pos c]
   refine .inr ⟨_,rfl,?_⟩
   have db:b.drop j.toNat=[]:=List.drop_of_length_le (by omega)
   rw[da,db] at hd
   unfold cmpL
   rw[ifN (fun h=>(hd.1 h).elim),ifN]
   rintro rfl;omega
  ·rw[if_neg c]
   obtain⟨y,hy,gy⟩:=g9 (l:=b) (i:=j) j0 (by omega)
   have hyl:=(lG.1 gy).2
   have db:b.drop j.toNat=y::b.drop (j.toNat+1):=by rw[← hyl];exact List.drop_eq_getElem_cons (by omega)
   rw[hy]
   simp only[oB,cmpInt_eq]
   rw[da,db] at hd
   have hne:x ≠ y→a ≠ b:=fun h e=>by subst e;rw[hx] at hy;cases hy;exact h rfl
   rcases Int.lt_trichotomy x y with h|rfl|h
   ·rw[if_pos h,if_neg (by decide)]
    refine .inr ⟨_,rfl,?_⟩
    unfold cmpL
    rw[ifP (hd.2 (.inl h))]
   ·simp only[Int.lt_irrefl,if_false,if_true]
    refine .inl ⟨(),trivial,by omega,?_⟩
    rw[show(j+1).toNat=j.toNat+1 by omega,List.take_add_one,List.take_add_one,gx,gy,k2]
   ·rw[if_neg (show ¬ x<y by omega),if_pos h,if_neg (by decide)]
    refine .inr ⟨_,rfl,?_⟩
    unfold cmpL
    rw[ifN,ifN (hne (by omega))]
    intro g
    rcases hd.1 g with g|⟨g,_⟩<;>omega) with⟨_,r1,r2,r3⟩|⟨o,r1,rfl⟩
 ·rw[r1]
  simp only[oB]
  have hd:=av2 (a:=a) (b:=b) a.length (Nat.le_refl _) (by omega) (by simpa using r3)
  have da:a.drop a.length=[]:=by simp
  rw[da] at hd
  have e3:a=b.take a.length:=by simpa using r3
  by_cases c:(a.length:Int)<b.length
  ·rw[if_pos c]
   have:b.drop a.length ≠ []:=by simp;omega
   unfold cmpL
   rw[ifP]
   rw[hd]
   cases h:b.drop a.length with
   |nil=>exact absurd h this
   |cons x l=>trivial
  ·rw[if_neg c]
   have:a=b:=by rw[e3,List.take_of_length_le (by omega)]
   rw[cmpL_eq.2 this]
 ·rw[r1];rfl
theorem cmp_ok:CmpOk slices_Compare_int_int cmpL:=by
 refine⟨ah2,⟨fun x=> ?_,fun x y z h1 h2=> ?_,fun x y z h1 h2=> ?_⟩,fun a b h1 h2=> ?_⟩
 ·simp only[Go.Proofs.ltOf,decide_eq_false_iff_not,U9]
  exact K2 x
 ·simp only[Go.Proofs.ltOf,decide_eq_true_eq,U9] at h1 h2 ⊢
  exact I4 h1 h2
 ·simp only[Go.Proofs.ltOf,decide_eq_false_iff_not,U9] at h1 h2 ⊢
  intro h
  rcases V6 x y with g|rfl|g
  ·exact h1 g
  ·exact h2 h
  ·exact h2 (I4 g h)
 ·rw[U9] at h1 h2
  rcases V6 a b with g|g|g
  ·exact absurd g h1
  ·exact g
  ·exact absurd g h2
/-! ### Lists compared -/
theorem listEq{α:Type}{a b:List α}{body:Int→Unit→Option (Unit⊕Bool)}(hl:a.length=b.length)(hb:∀j x y,ix a j=some x→ix b j=some y→(x=y∧body j ()=some (.inl ()))∨(x ≠ y∧body j ()=some (.inr false))):
  (Option.bind (rngX 0 (a.length:Int) body ()) fun| .inl _=>some true| .inr x=>some x)=some (dec (a=b)):=by
 rcases E6 (body:=body) (n:=(a.length:Int)) (fun j=>if dec (ix a j=ix b j)=true then none else some false) (by omega) (fun j h0 h1 _=>by
  obtain⟨x,hx,_⟩:=g9 (l:=a) h0 h1
  obtain⟨y,hy,_⟩:=g9 (l:=b) (i:=j) h0 (by omega)
  rcases hb j x y hx hy with⟨e,h⟩|⟨e,h⟩
  ·rw[h,ifP (by rw[hx,hy,e])]
  ·rw[h,ifN (by rw[hx,hy];simpa using e)]) with⟨h1,h2⟩|⟨j,o,h0,h1,h2,_,h4⟩
 ·rw[h1,l9]
  ·rfl
  ·refine List.ext_getElem? fun k=> ?_
   by_cases hk:k<a.length
   ·have:=h2 k (by omega) (by omega)
    split at this
    ·rename_i e
     have:=m7.1 e
     rwa [N3,N3] at this
    ·cases this
   ·rw[List.getElem?_eq_none (by omega),List.getElem?_eq_none (by omega)]
 ·rw[h4]
  split at h2
  ·cases h2
  ·rename_i e
   cases h2
   rw[x7 (fun h=>e (l9 (by rw[h])))];rfl
theorem ints_eq(a b:Li):O6 a b=some (dec (a=b)):=by
 unfold O6
 by_cases hl:(a.length:Int)=b.length
 ·rw[if_pos hl]
  refine listEq (by omega) fun j x y hx hy=> ?_
  unfold ap7
  simp only[hx,hy,oB]
  by_cases e:x=y
  ·rw[if_pos e];exact .inl ⟨e,rfl⟩
  ·rw[if_neg e];exact .inr ⟨e,rfl⟩
 ·rw[if_neg hl,x7 (fun h=>hl (by rw[h]))]
theorem equal_eq(a b:Li):B4 a b=some (dec (a=b)):=by
 unfold B4
 by_cases hl:(a.length:Int)=b.length
 ·rw[if_pos hl]
  refine listEq (by omega) fun j x y hx hy=> ?_
  unfold Q8
  simp only[hx,hy,oB]
  by_cases e:x=y
  ·rw[if_pos e];exact .inl ⟨e,rfl⟩
  ·rw[if_neg e];exact .inr ⟨e,rfl⟩
 ·rw[if_neg hl,x7 (fun h=>hl (by rw[h]))]
theorem place_eq(l:LL)(s:Li):∃r,av5 l s=some r∧((r= -1∧s ∉ l)∨(0≤r∧r<l.length∧ix l r=some s∧∀j,0≤j→j<r→ix l j ≠ some s)):=by
 unfold av5
 rcases E6 (body:=al4 l s) (n:=(l.length:Int)) (fun j=>if dec (ix l j=some s)=true then some j else none) (by omega) (fun j h0 h1 _=>by
  obtain⟨x,hx,_⟩:=g9 (l:=l) h0 h1
  unfold al4
  simp only[hx,oB,ints_eq]
  by_cases e:x=s
  ·rw[ifP e,ifP (by rw[e])]
  ·rw[ifN e,ifN (by simpa using e)]) with⟨h1,h2⟩|⟨j,o,h0,h1,h2,h3,h4⟩
 ·rw[h1]
  refine⟨-1,rfl,.inl ⟨rfl,fun hs=> ?_⟩⟩
  obtain⟨i,i0,i1,hi⟩:=o7 hs
  have:=h2 i i0 i1
  rw[ifP hi] at this
  cases this
 ·rw[h4]
  split at h2
  ·rename_i e
   cases h2
   refine⟨_,rfl,.inr ⟨h0,h1,m7.1 e,fun i i0 i1=> ?_⟩⟩
   have:=h3 i i0 i1
   split at this
   ·cases this
   ·rename_i e
    exact fun h=>e (l9 h)
  ·cases h2
/-! ### Ordered lists -/
abbrev Ord(l:LL):Prop:=l.Pairwise llt
theorem Ord.ext:∀{l m:LL},Ord l→Ord m→(∀x,x ∈ l↔x ∈ m)→l=m
 |[],[],_,_,_=>rfl
 |[],b::m,_,_,h=>absurd ((h b).2 (by simp)) (by simp)
 |a::l,[],_,_,h=>absurd ((h a).1 (by simp)) (by simp)
 |a::l,b::m,hl,hm,h=>by
  obtain⟨l1,l2⟩:=List.pairwise_cons.1 hl
  obtain⟨m1,m2⟩:=List.pairwise_cons.1 hm
  have hab:a=b:=by
   rcases List.mem_cons.1 ((h a).1 (by simp)) with e|e
   ·exact e
   ·rcases List.mem_cons.1 ((h b).2 (by simp)) with e'|e'
    ·exact e'.symm
    ·exact(llt_asymm (l1 b e') (m1 a e)).elim
  subst hab
  rw[Ord.ext l2 m2 fun x=>⟨fun hx=> ?_,fun hx=> ?_⟩]
  ·rcases List.mem_cons.1 ((h x).1 (by simp[hx])) with e|e
   ·subst e;exact absurd (l1 x hx) (K2 x)
   ·exact e
  ·rcases List.mem_cons.1 ((h x).2 (by simp[hx])) with e|e
   ·subst e;exact absurd (m1 x hx) (K2 x)
   ·exact e
theorem Ord.get{l:LL}(h:Ord l){i j:Int}{a b:Li}(hi:ix l i=some a)(hj:ix l j=some b)(hij:i<j):llt a b:=by
 obtain⟨i0,i1,hi⟩:=k8 hi
 obtain⟨j0,j1,hj⟩:=k8 hj
 obtain⟨h1,rfl⟩:=lG.1 hi
 obtain⟨h2,rfl⟩:=lG.1 hj
 exact List.pairwise_iff_getElem.1 h _ _ h1 h2 (by omega)
theorem Ord.inj{l:LL}(h:Ord l){i j:Int}{a:Li}(hi:ix l i=some a)(hj:ix l j=some a):i=j:=by
 rcases Int.lt_trichotomy i j with e|e|e
 ·exact absurd (h.get hi hj e) (K2 a)
 ·exact e
 ·exact absurd (h.get hj hi e) (K2 a)
def ddN(l:LL):Nat→LL
 |0=>[]
 |m+1=>ddN l m++if decide (m=0∨l[m]? ≠ l[m - 1]?)=true then l[m]?.toList else []
theorem ddN_spec{l:LL}(hs:l.Pairwise fun a b=>¬ llt b a):∀m,m≤l.length→Ord (ddN l m)∧∀x,x ∈ ddN l m↔x ∈ l.take m:=by
 intro m
 induction m with
 |zero=>intro _;simp[ddN]
 |succ m ih=>
  intro hm
  obtain⟨h1,h2⟩:=ih (by omega)
  have hlt:m<l.length:=by omega
  have ht:l.take (m+1)=l.take m++[l[m]]:=by rw[List.take_add_one];simp[hlt]
  rw[ddN,ht]
  by_cases hk:m=0∨l[m]? ≠ l[m - 1]?
  ·rw[if_pos (by simpa using hk)]
   simp only[List.getElem?_eq_getElem hlt,Option.toList_some]
   refine⟨List.pairwise_append.2 ⟨h1,by simp,fun a ha b hb=> ?_⟩,fun x=>by rw[List.mem_append,List.mem_append,h2]⟩
   simp only[List.mem_singleton] at hb
   subst hb
   have ha':=(h2 a).1 ha
   obtain⟨i,hi,rfl⟩:=List.mem_iff_getElem.1 ha'
   rw[List.length_take] at hi
   rw[List.getElem_take]
   rcases hk with hk|hk
   ·omega
   ·have hm1:m - 1<l.length:=by omega
    rw[List.getElem?_eq_getElem hlt,List.getElem?_eq_getElem hm1] at hk
    have e1:¬ llt l[m] l[m - 1]:=List.pairwise_iff_getElem.1 hs (m - 1) m hm1 hlt (by omega)
    have e2:llt l[m - 1] l[m]:=by
     rcases V6 l[m - 1] l[m] with h|h|h
     ·exact h
     ·exact absurd (by rw[h]) hk
     ·exact absurd h e1
    by_cases hi2:i=m - 1
    ·subst hi2;exact e2
    ·have e3:¬ llt l[m - 1] l[i]:=List.pairwise_iff_getElem.1 hs i (m - 1) (by omega) hm1 (by omega)
     rcases V6 l[i] l[m] with h|h|h
     ·exact h
     ·rw[h] at e3;exact absurd e2 e3
     ·exact absurd (I4 e2 h) e3
  ·rw[if_neg (by simpa using hk),List.append_nil]
   refine⟨h1,fun x=> ?_⟩
   rw[h2,List.mem_append]
   refine⟨.inl,fun h=> ?_⟩
   rcases h with h|h
   ·exact h
   ·simp only[List.mem_singleton] at h
    subst h
    have hm0:m ≠ 0:=fun e=>hk (.inl e)
    have he:l[m]? =l[m - 1]? :=Classical.not_not.1 fun e=>hk (.inr e)
    rw[List.getElem?_eq_getElem hlt,List.getElem?_eq_getElem (show m - 1<l.length by omega)] at he
    rw[Option.some.inj he,List.mem_take_iff_getElem]
    exact⟨m - 1,by omega,rfl⟩
theorem ddN_len(l:LL):∀m,(ddN l m).length≤m
 |0=>by simp[ddN]
 |m+1=>by
  have:=ddN_len l m
  rw[ddN,List.length_append]
  split
  ·have:(l[m]?.toList).length≤1:=by cases l[m]? <;>simp
   omega
  ·simp;omega
theorem ddN_all{l:LL}:∀m,m≤l.length→(∀i,0<i→i<m→l[i]? ≠ l[i - 1]?)→ddN l m=l.take m
 |0,_,_=>by simp[ddN]
 |m+1,hm,h=>by
  rw[ddN,ddN_all m (by omega) fun i h0 h1=>h i h0 (by omega),if_pos,List.take_add_one]
  rw[decide_eq_true_eq]
  by_cases e:m=0
  ·exact .inl e
  ·exact .inr (h m (by omega) (by omega))
theorem compactF_eq{l:LL}(hl:l.length≤1000000):A5 l=some (ddN l l.length):=by
 unfold A5
 by_cases c0:(l.length:Int)<2
 ·rw[if_pos c0,ddN_all l.length (Nat.le_refl _) fun i h0 h1=>by omega,List.take_length]
 ·rw[if_neg c0]
  have key:=rngN_inv (body:=w5 l) (fun j _=>∀i:Nat,0<i→(i:Int)<j→l[i]? ≠ l[i - 1]?) (fun o=>o=ddN l l.length) ((l.length:Int) - 1).toNat 1 () (fun i h0 h1=>by omega) (fun j _ j0 j1 hP=>by
   obtain⟨a,ha,ga⟩:=g9 (l:=l) (i:=j) (by omega) (by omega)
   obtain⟨b,hb,gb⟩:=g9 (l:=l) (i:=j - 1) (by omega) (by omega)
   unfold w5
   simp only[ha,hb,oB,equal_eq]
   have ej:(j - 1).toNat=j.toNat - 1:=by omega
   rw[ej] at gb
   by_cases c:a=b
   ·rw[ifP c]
    subst c
    right
    rw[show cutV (l.length:Int) j (l.length:Int)=some () by rw[cutV,if_pos (by omega)]]
    simp only[oB]
    obtain⟨⟨cs,kv⟩,r1,r2,r3,r4,r5,r6⟩:=forN_inv (body:=y7 l j) (fun k2 p=>p.1.length=l.length∧j≤p.2∧p.2≤j+k2 - 1∧p.1.take p.2.toNat=ddN l (j+k2).toNat∧∀i:Nat,j+k2 - 1≤i→p.1[i]? =l[i]?) ((l.length:Int) - j - 1).toNat 1 (l,j) ⟨rfl,by simp,by dsimp only;omega,by
      dsimp only
      rw[show(j+1).toNat=j.toNat+1 by omega,ddN,if_neg,List.append_nil,ddN_all j.toNat (by omega) fun i h0 h1=>hP i h0 (by omega)]
      rw[decide_eq_true_eq]
      rintro (h|h)
      ·omega
      ·exact h (ga.trans gb.symm),fun i _=>rfl⟩ (fun k2 ⟨cs,kv⟩ k0 k1 ⟨g1,g2,g3,g4,g5⟩=>by
      dsimp only at g1 g2 g3 g4 g5 ⊢
      obtain⟨x,hx,gx⟩:=g9 (l:=l) (i:=j+k2) (by omega) (by omega)
      obtain⟨y,hy,gy⟩:=g9 (l:=l) (i:=j+k2 - 1) (by omega) (by omega)
      have iv:∀i:Int,0≤i→i<(l.length:Int) - j→ixV cs (0+j) ((l.length:Int) - j) i=ix cs (j+i):=fun i h0 h1=>by
       rw[ixV,if_pos (by omega),Int.zero_add]
      have same:∀i:Int,j+k2 - 1≤i→ix cs i=ix l i:=fun i hi=>by
       have:=g5 i.toNat (by omega)
       simp only[ix]
       rw[this]
      unfold y7
      dsimp only
      rw[iv k2 (by omega) (by omega),iv (k2 - 1) (by omega) (by omega),show j+(k2 - 1)=j+k2 - 1 by omega,same _ (by omega),same _ (by omega),hx,hy]
      simp only[oB,equal_eq,y8]
      have ek:(j+(k2+1)).toNat=(j+k2).toNat+1:=by omega
      have ek1:(j+k2 - 1).toNat=(j+k2).toNat - 1:=by omega
      rw[ek1] at gy
      by_cases cx:x=y
      ·rw[ifNN cx]
       refine⟨_,rfl,g1,g2,by omega,?_,fun i hi=>g5 i (by omega)⟩
       dsimp only
       rw[ek,ddN,if_neg,List.append_nil]
       ·exact g4
       ·rw[decide_eq_true_eq]
        rintro (h|h)
        ·omega
        ·exact h (by rw[gx,gy,cx])
      ·rw[ifP cx]
       obtain⟨z,hz,gz⟩:=g9 (l:=cs) (i:=kv) (by omega) (by omega)
       simp only[hz,oB]
       rw[y6 (by omega) (by omega)]
       refine⟨_,rfl,by rw[lS];exact g1,by omega,by omega,?_,fun i hi=> ?_⟩
       ·dsimp only
        rw[ek,ddN,if_pos,gx,show(kv+1).toNat=kv.toNat+1 by omega,List.take_add_one,List.getElem?_set,if_pos rfl,if_pos (by omega),List.take_set_of_le (Nat.le_refl _),g4]
        rw[decide_eq_true_eq]
        exact .inr (by rw[gx,gy];simpa using cx)
       ·dsimp only
        rw[List.getElem?_set,if_neg (by omega)]
        exact g5 i (by omega))
    have ef:forR 1 ((l.length:Int) - j) (y7 l j) (l,j)=some (cs,kv):=r1
    dsimp only at r2 r3 r4 r5 r6
    rw[ef]
    simp only[oB]
    have hcl:(clrL cs (0+kv) ((cs.length:Int) - kv) []).length=cs.length:=by simp[clrL];omega
    rw[show cutV (cs.length:Int) kv (cs.length:Int)=some () by rw[cutV,if_pos (by omega)]]
    simp only[oB,hcl]
    rw[show cutV (cs.length:Int) 0 kv=some () by rw[cutV,if_pos (by omega)]]
    refine⟨_,rfl,?_⟩
    have e1:r9 (clrL cs (0+kv) ((cs.length:Int) - kv) []) 0 kv=cs.take kv.toNat:=by
     simp only[r9,clrL,Int.zero_add,Int.toNat_zero,List.drop_zero]
     rw[List.append_assoc,List.take_append_of_le_length (by simp;omega),List.take_take,Nat.min_self]
    rw[e1,r5]
    congr 1
    omega
   ·rw[ifN c]
    left
    refine⟨(),rfl,fun i h0 h1=> ?_⟩
    by_cases e:(i:Int)=j
    ·have:i=j.toNat:=by omega
     subst this
     rw[ga,gb]
     simpa using c
    ·exact hP i h0 (by omega))
  rcases key with⟨_,h1,h2⟩|⟨o,h1,rfl⟩
  ·have:rngX 1 (l.length:Int) (w5 l) ()=some (.inl ()):=h1
   rw[this]
   simp only[oB]
   rw[ddN_all l.length (Nat.le_refl _) fun i h0 h1=>h2 i h0 (by omega),List.take_length]
  ·have:rngX 1 (l.length:Int) (w5 l) ()=some (.inr (ddN l l.length)):=h1
   rw[this];rfl
theorem ar1{l:LL}(hl:l.length≤1000000):∃r,H8 l=some r∧Ord r∧(∀x,x ∈ r↔x ∈ l)∧r.length≤l.length:=by
 unfold H8
 rw[sortFL_eq (by omega) cmp_ok]
 simp only[oB]
 have hlen:(l.mergeSort fun x y=>decide (¬ cmpL y x<0)).length=l.length:=by simp
 rw[compactF_eq (by rw[hlen];exact hl)]
 have hs:(l.mergeSort fun x y=>decide (¬ cmpL y x<0)).Pairwise fun a b=>¬ llt b a:=by
  have:=List.pairwise_mergeSort (le:=fun x y:Li=>decide (¬ cmpL y x<0)) (fun a b c h1 h2=>by
   simp only[decide_eq_true_eq,U9] at h1 h2 ⊢
   intro h
   rcases V6 b a with g|g|g
   ·exact h1 g
   ·subst g;exact h2 h
   ·exact h2 (I4 h g)) (fun a b=>by
   simp only[Bool.or_eq_true,decide_eq_true_eq,U9]
   by_cases h:llt b a
   ·exact .inr fun g=>llt_asymm h g
   ·exact .inl h) l
  exact this.imp fun h=>by simpa[U9] using h
 obtain⟨h1,h2⟩:=ddN_spec hs _ (Nat.le_refl _)
 refine⟨_,rfl,h1,fun x=> ?_,?_⟩
 ·rw[h2,List.take_length];simp
 ·have:=ddN_len (l.mergeSort fun x y=>decide (¬ cmpL y x<0)) (l.mergeSort fun x y=>decide (¬ cmpL y x<0)).length
  rw[hlen] at this
  rw[hlen];exact this
end Ab
end
