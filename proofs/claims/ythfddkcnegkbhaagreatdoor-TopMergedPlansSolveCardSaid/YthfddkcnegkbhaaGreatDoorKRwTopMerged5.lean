/-
  Texts that the proof stands on.
-/
import Derived.Test.YthfddkcnegkbhaaGreatDoorKRwTopMerged4
set_option linter.all false
section
namespace Ab
open Go Go.Proofs
open Tryz
set_option maxHeartbeats 4000000
set_option linter.all false
attribute [local irreducible] AWP AOps thn inB Done f4 m5 Sub
theorem ad0{item:Int}{key:Int}{time:Int}{l:List Int}{l5:List (Int × Int)}{l6:List c8}{r:(List (Int × Int)) × (List Int) × (List c8)}(h:B4 item key time l l5 l6=some r):FnOk prog 66 [.c (.ptr 0 0 0),.c (.imm (.val (.int .u32 item))),.c (int key)] (ac6 item key time l l5 l6) (fun tt ss=>tt=.tup []∧ss=[.one (.cells 3 [[.own 4 0 r.2.1.length,.map 2,int (w64 (time+1))]]),.dead,.one (pmap 5 vU r.1),.dead,.one (prow 5 r.2.1),pool 4 b9 r.2.2]):=by
 refine FnOk.enter (rs:=[]) func66 Z ntmps66 results66 Z trivial (by kernel_rfl) Z ?_
 refine AWP.weak ?_
 unfold B4 at h
 refine AWP.j (env':=[(0,.c (.ptr 0 0 0)),(1,.c (.imm (.val (.int .u32 item)))),(2,.c (int key))]) (σ':=[.one (.cells 3 [[.own 4 0 l.length,.map 2,int time]]),.dead,.one (pmap 3 vU l5),pool 4 b9 l6,.one (prow 3 l)]) 4 1 Z Z Z ⟨Z,Z,Z,Y⟩ Z ⟨⟨Z,Z⟩,trivial,⟨j8 Z,w9 Z K1⟩,(r9.pool Z),⟨i6 Z,w9 Z K3⟩,Y⟩ (.moveM (env':=[(0,.c (.ptr 0 0 0)),(1,.c (.imm (.val (.int .u32 item)))),(2,.c (int key))]) (σ':=[.one (.cells 3 [[.own 4 0 l.length,.map 2,int time]]),.dead,.one (pmap 5 vU l5),.dead,.one (prow 5 l),pool 4 b9 l6]) 5 3 Z Z Z ⟨Z,Z,Z,Y⟩ Z ⟨(.one Z Z),.dead,(.one (j8 Z) (F0 Z Z (k8 fun _=>Z))),.dead,(.one (i6 Z) (F0 Z Z (i4 fun _=>Z))),(EntR.pool Z Z),Y⟩ ?_)
 refine AWP.q (.u (.j Z Z (.ag Z Z Z (W.fieldAddr Z Z Z Z (.E Z Z Z Z Z Z (S.add Z Z Z (.ag Z Z Z (W.fieldAddr Z Z Z Z (W.store Z Z Z Z Z (.nil (b6 (.q (.q (.u (.j Z Z (.ag Z Z Z (W.fieldAddr Z Z Z Z (.E Z Z Z Z Z Z (.j Z Z (S.lookupOkP (fk:=vU) (k:=item) G0 Z Z Z Z Z (.j Z Z (.ac Z Z Z (.ac Z Z Z (.v Z Z (.v Z Z (.nil (b6 (.q (.u (.j Z Z (.nil (b6 (.ab Z h (fun hc60 h=> ?_) (fun hc60 h=> ?_))))))))))))))))))))))))))))))))))
 ·obtain ⟨ap61,hap61,h⟩:=bind_some h
  refine AWP.sub (s':=⟨[(0,.c (.ptr 0 0 0)),(1,.c (.imm (.val (.int .u32 item)))),(2,.c (int key)),(6,.c (.ptr (5,[ap61.toNat]) 0 0)),(7,.c (bool (Option.isSome (mget l5 item)))),(9,.c (.ptr 0 0 0)),(10,.c (.ptr 0 0 0)),(11,.c (.ptr 0 0 2)),(12,.c (int time)),(13,.c (int (w64 (time+1)))),(14,.c (.ptr 0 0 0)),(15,.c (.ptr 0 0 2)),(17,.c (.ptr 0 0 0)),(18,.c (.ptr 0 0 0)),(19,.c (.ptr 0 0 1)),(20,.c (.map 2)),(21,.c (.imm (.val (.int .u32 item)))),(23,.c (.ptr (5,[ap61.toNat]) 0 0)),(24,.c (bool (Option.isSome (mget l5 item)))),(25,.c (bool (Option.isSome (mget l5 item))))],[.one (.cells 3 [[.own 4 0 l.length,.map 2,int (w64 (time+1))]]),.dead,.one (pmap 5 vU l5),.dead,.one (prow 5 l),pool 4 b9 l6]⟩) (Sub.env ⟨Z,Z,Z,(am8 hap61),Z,Z,Z,Z,Z,Z,Z,Z,Z,Z,Z,Z,Z,(am8 hap61),Z,Z,Y⟩) (.q ?_)
  obtain ⟨en62,hen62,h⟩:=bind_some h
  refine AWP.u (.j Z Z (.j Z Z (.j Z Z (.j Z Z (.ag Z Z Z (W.fieldAddr Z Z Z Z (.E Z Z Z Z Z Z (S.nilCheckE Z Z (by simpa only [List.length_set] using h9 hen62) Z (S.fieldE Z Z Z (by simpa only [List.length_set] using h9 hen62) Z (S.storeE (e':=(⟨en62.item,key,en62.time,en62.fat⟩:c8)) hen62 Z Z Z Z Z Z (S.nilCheckE Z Z (by simpa only [List.length_set] using h9 hen62) Z (S.fieldE Z Z Z (by simpa only [List.length_set] using h9 hen62) Z (S.storeE (e':=(⟨en62.item,key,w64 (time+1),en62.fat⟩:c8)) (X1 hen62) Z Z Z Z Z Z (.nil (b6 (.q ?_))))))))))))))))
  obtain ⟨a45,ha45,h⟩:=bind_some h
  refine AWP.drawEI [8] mixed Z Z Z ?_
  refine d6.consN Z Z (fun E=>AOps.j Z Z .N) Z (.consN Z Z (fun E=>AOps.ag Z Z Z .N) Z (.consN Z Z (fun E=>W.fieldAddr Z Z Z Z .N) Z (.consN Z Z (fun E=>S.mkIfc Z Z Z .N) Z (.consN Z Z (fun E=>AOps.j Z Z .N) Z (.consN Z Z (fun E=>S.nilCheckE Z Z (by simpa only [List.length_set] using h9 hen62) Z .N) Z (.consN Z Z (fun E=>S.fieldE Z Z Z (by simpa only [List.length_set] using h9 hen62) Z .N) Z (.consN Z Z (fun E=>AOps.E Z Z (n9 Z (X1 (X1 hen62))) Z Z Z .N) Z ?_)))))))
  apply d6.consE; exact Z; exact Z; intro E
  refine AOps.callF (r2:=.tup []) (σ'':=[.one (.cells 3 [[.own 4 0 a45.1.length,.map 2,int (w64 (time+1))]]),.dead,.one (pmap 5 vU l5),.dead,.one (prow 5 a45.1),pool 4 b9 a45.2]) Z Z Z (FnOk.lend [0,4,2,5] (W1 ha45) Z Z Z Z Z Z (by exact ⟨(.one Z),(.one (i6 Z)),(.one (j8 Z)),(.any l7),Y⟩) Z (by exact ⟨(.live Z (.one Z)),(.live Z (.one (i4 fun _=>Z))),(.live Z (.one (k8 fun _=>Z))),(.live Z RenE.pool),Y⟩) Z Z (by exact ⟨(.new 0 Z Z (.one Z)),.dead,(.new 2 Z Z (.one (k8 fun _=>Z))),.dead,(.new 1 Z Z (.one (i4 fun _=>Z))),(.new 3 Z Z RenE.pool),Y⟩)) .N
  exact Z
  exact Z
  refine d6.done Z ?_ ?_
  ·refine c9.cons Z Z ?_ ?_
   refine b7.go Z Z (fun E=>AOps.j Z Z .N) ?_
   refine b7.skip Z (b7.nil)
   refine c9.cons Z Z ?_ ?_
   refine b7.go Z Z (fun E=>AOps.ag Z Z Z .N) ?_
   refine b7.skip Z (b7.nil)
   refine c9.cons Z Z ?_ ?_
   refine b7.go Z Z (fun E=>W.fieldAddr Z Z Z Z .N) ?_
   refine b7.skip Z (b7.nil)
   refine c9.cons Z Z ?_ ?_
   refine b7.go Z Z (fun E=>S.mkIfc Z Z Z .N) ?_
   refine b7.skip Z (b7.nil)
   refine c9.cons Z Z ?_ ?_
   refine b7.go Z Z (fun E=>AOps.j Z Z .N) ?_
   refine b7.skip Z (b7.nil)
   refine c9.cons Z Z ?_ ?_
   refine b7.go Z Z (fun E=>S.nilCheckE Z Z (by simpa only [List.length_set] using h9 hen62) Z .N) ?_
   refine b7.skip Z (b7.nil)
   refine c9.cons Z Z ?_ ?_
   refine b7.go Z Z (fun E=>S.fieldE Z Z Z (by simpa only [List.length_set] using h9 hen62) Z .N) ?_
   refine b7.skip Z (b7.nil)
   refine c9.cons Z Z ?_ ?_
   refine b7.go Z Z (fun E=>AOps.E Z Z (n9 Z (X1 (X1 hen62))) Z Z Z .N) ?_
   refine b7.skip Z (b7.nil)
   refine c9.skip Z (c9.nil)
  dsimp only [j9]
  refine b6 (.ret (e7 ?_))
  obtain rfl:=oi h
  exact ⟨⟨[],[.one (.cells 3 [[.own 4 0 a45.1.length,.map 2,int (w64 (time+1))]]),.dead,.one (pmap 5 vU l5),.dead,.one (prow 5 a45.1),pool 4 b9 a45.2]⟩,Sub.env trivial,Done.ret Z ⟨Z,Z⟩⟩
 ·refine AWP.skip (b6 (.q ?_))
  obtain ⟨u63,hu63,u64,hu64,h⟩:=b2 h
  refine AWP.u (.j Z Z (.j Z Z (.j Z Z (.ag Z Z Z (W.fieldAddr Z Z Z Z (.E Z Z Z Z Z Z (W.build Z Z Z Z (W.box Z Z Z Z Z Z (.sub (Sub.move (env':=[(0,.c (.ptr 0 0 0)),(1,.c (.imm (.val (.int .u32 item)))),(2,.c (int key)),(7,.c (bool (Option.isSome (mget l5 item)))),(9,.c (.ptr 0 0 0)),(10,.c (.ptr 0 0 0)),(11,.c (.ptr 0 0 2)),(12,.c (int time)),(13,.c (int (w64 (time+1)))),(14,.c (.ptr 0 0 0)),(15,.c (.ptr 0 0 2)),(17,.c (.ptr 0 0 0)),(18,.c (.ptr 0 0 0)),(19,.c (.ptr 0 0 1)),(20,.c (.map 2)),(21,.c (.imm (.val (.int .u32 item)))),(24,.c (bool (Option.isSome (mget l5 item)))),(25,.c (bool (Option.isSome (mget l5 item)))),(46,.c (.imm (.val (.int .u32 item)))),(47,.c (int key)),(48,.c (.ptr 0 0 0)),(49,.c (.ptr 0 0 0)),(50,.c (.ptr 0 0 2)),(51,.c (int (w64 (time+1)))),(52,.agg [.imm (.val (.int .u32 item)),int key,int (w64 (time+1)),int 0]),(53,.c (.ptr (5,[(l6.length:Int).toNat]) 0 0))]) (σ':=[.one (.cells 3 [[.own 4 0 l.length,.map 2,int (w64 (time+1))]]),.dead,.one (pmap 5 vU l5),.dead,.one (prow 5 l),pool 4 b9 (l6++[(⟨item,key,w64 (time+1),0⟩:c8)])]) (5,[l6.length]) (6,[]) Z Z Z ⟨Z,Z,Z,Z,Z,Z,Z,Z,Z,Z,Z,Z,Z,Z,Z,Z,Z,Z,Z,Z,Z,Z,Z,Z,Z,ptr_adopt,Y⟩ Z ⟨⟨Z,Z⟩,trivial,⟨j8 Z,ab9 Z (pmap_adopt hu63) af2⟩,trivial,⟨i6 Z,ab9 Z (prow_adopt hu64) af2⟩,(r9.adopt Z Z),Y⟩) (.v Z Z (.nil (b6 (.q (.u (.j Z Z (.ag Z Z Z (W.fieldAddr Z Z Z Z (.E Z Z Z Z Z Z (.j Z Z (.j Z Z (S.mapUpdateP (fk:=vU) (k:=item) (a:=(l6.length:Int)) G0 Z Z Z Z Z (.nil (b6 ?_)))))))))))))))))))))))
  obtain ⟨a66,ha66,h⟩:=bind_some h
  refine AWP.u (.j Z Z (.ag Z Z Z (W.fieldAddr Z Z Z Z (S.mkIfc Z Z Z (.j Z Z (S.mkIfc Z Z Z (.callF (r2:=.tup []) (σ'':=[.one (.cells 3 [[.own 8 0 a66.2.length,.map 2,int (w64 (time+1))]]),.dead,.one (pmap 5 vU (mset l5 item (l6.length:Int))),.dead,.dead,pool 4 b9 a66.1,.dead,.dead,.one (prow 5 a66.2)]) Z Z Z (FnOk.lend [0,5,4,2] (T8 ha66) Z Z Z Z Z Z (by exact ⟨(.one Z),(.any l7),(.one (i6 Z)),(.one (j8 Z)),Y⟩) Z (by exact ⟨(.live Z (.one Z)),(.live Z RenE.pool),(.live Z (.one (i4 fun _=>Z))),(.live Z (.one (k8 fun _=>Z))),Y⟩) Z Z (by exact ⟨(.new 0 Z Z (.one Z)),.dead,(.new 3 Z Z (.one (k8 fun _=>Z))),.dead,.dead,(.new 1 Z Z RenE.pool),.dead,.dead,(.new 6 Z Z (.one (i4 fun _=>Z))),Y⟩)) (.nil ?_))))))))
  obtain rfl:=oi h
  exact ⟨⟨[],[.one (.cells 3 [[.own 4 0 a66.2.length,.map 2,int (w64 (time+1))]]),.dead,.one (pmap 5 vU (mset l5 item (l6.length:Int))),.dead,.one (prow 5 a66.2),pool 4 b9 a66.1]⟩,(Sub.move (env':=[]) (σ':=[.one (.cells 3 [[.own 4 0 a66.2.length,.map 2,int (w64 (time+1))]]),.dead,.one (pmap 5 vU (mset l5 item (l6.length:Int))),.dead,.one (prow 5 a66.2),pool 4 b9 a66.1,.dead,.dead]) 4 8 Z Z Z trivial Z ⟨⟨Z,Z⟩,trivial,⟨j8 Z,w9 Z K1⟩,trivial,⟨i6 Z,w9 Z K3⟩,(r9.pool Z),trivial,trivial,Y⟩).trans (Sub.cut trivial Z ⟨.one Z,.dead,(.one (j8 Z)),.dead,(.one (i6 Z)),(.any l7),Y⟩ Z),Done.normal Z ⟨Z,Z⟩⟩
theorem at5{l:List Int}{start:Int}{goal:Int}{l4:List i7}{r:(List (Int × Int))}(h:P5 l start goal l4=some r):FnOk prog 29 [.c (.ptr 0 0 0),.c (row 1 eU32 l)] (P4 l start goal l4) (fun tt ss=>tt=.c (.map 4)∧ss=[.one (.cells 3 [(wW start goal 1 l4.length)]),.one (vec 4 d4 l4),.dead,.dead,.one (mapB vU vI r)]):=by
 refine FnOk.enter (rs:=[.t 4]) func29 Z ntmps29 results29 Z ⟨trivial,Y⟩ (by kernel_rfl) Z ?_
 refine AWP.weak ?_
 unfold P5 at h
 refine AWP.q (.u (.v Z Z (.nil (b6 (.q (.u (W.makeMapM 2 2 vU i8 Z Z Z (W.alloc Z Z Z Z (W.store Z Z Z Z Z (.nil (b6 (.q (.u (W.makeMap vU vI Z Z Z (.v Z Z (.nil (b6 (.q ?_))))))))))))))))))
 obtain ⟨a18,ha18,h⟩:=bind_some h
 refine AWP.u (.callF (r2:=.c (.ptr 7 0 0)) (σ'':=[.one (.cells 3 [(wW start goal 1 l4.length)]),.one (vec 4 d4 l4),mmap 2 2 vU i8 ([]:List (Int × List s9)),.one (.cells 1 [[.map 2]]),.one (mapB vU vI ([]:List (Int × Int))),.one (pmap 6 vU ([]:List (Int × Int))),pool 4 b9 ([]:List c8),.one (.cells 3 [[.own 8 0 (([]:List Int).length),.map 5,int 0]]),.one (prow 6 ([]:List Int))]) Z Z Z (FnOk.lend [] (al3 ha18) Z Z Z Z Z Z (by exact trivial) Z (by exact trivial) Z Z (by exact ⟨(.old Z Z Z),(.old Z Z Z),(.old Z Z Z),(.old Z Z Z),(.old Z Z Z),(.new 0 Z Z (.one (k8 fun _=>Z))),(.new 1 Z Z RenE.pool),(.new 2 Z Z (.one Z)),(.new 3 Z Z (.one (i4 fun _=>Z))),Y⟩)) (.v Z Z (.nil (b6 (.q (.q (.u (.j Z Z (S.len Z Z (fun hl20=>.j Z Z (.nil (b6 (.J ?_)))))))))))))
 obtain ⟨⟨c56,c57,c58,c59,c60,c61⟩,ho1,h⟩:=bind_some h
 try dsimp only at h
 refine AWP.forS ho1 (fun t62 (c56,c57,c58,c59,c60,c61)=>⟨[(0,.c (.ptr 0 0 0)),(5,.c (.ptr 3 0 0)),(6,.c (.map 4)),(7,.c (.ptr 7 0 0)),(19,.c (row 1 eU32 l)),(20,.c (int (l.length:Int))),(21,.c (int t62))],[.one (.cells 3 [(wW start goal 1 l4.length)]),.one (vec 4 d4 l4),mmap 2 2 vU i8 c56,.one (.cells 1 [[.map 2]]),.one (mapB vU vI c57),.one (pmap 6 vU c58),pool 4 b9 c59,.one (.cells 3 [[.own 8 0 c61.length,.map 5,int c60]]),.one (prow 6 c61)]⟩) (fun (c56,c57,c58,c59,c60,c61) e st=>e=.exit 0∧Sub (P4 l start goal l4) st ⟨[(5,.c (.ptr 3 0 0)),(6,.c (.map 4)),(7,.c (.ptr 7 0 0))],[.one (.cells 3 [(wW start goal 1 l4.length)]),.one (vec 4 d4 l4),mmap 2 2 vU i8 c56,.one (.cells 1 [[.map 2]]),.one (mapB vU vI c57),.one (pmap 6 vU c58),pool 4 b9 c59,.one (.cells 3 [[.own 8 0 c61.length,.map 5,int c60]]),.one (prow 6 c61)]⟩) ?_ ?_ ?_ ?_
 ·try dsimp only
  exact Sub.env ⟨Z,Z,Z,Z,Z,Z,Z,Y⟩
 ·intro t62 s hlot62 hltt62 _
  obtain ⟨c56,c57,c58,c59,c60,c61⟩:=s
  try dsimp only
  refine AWP.q (.u (.F Z Z Z (.nil (b6 (.q (.ae Z hltt62 (.exit (e8 (e8 ⟨Z, ?_⟩)))))))))
  exact Sub.env ⟨Z,Z,Z,Y⟩
 ·intro t62 s o hlot62 hltt62 h
  obtain ⟨c56,c57,c58,c59,c60,c61⟩:=s
  unfold J0 at h
  try dsimp only at h ⊢
  refine AWP.q (.u (.F Z Z Z (.nil (b6 (.q (.af Z hltt62 (.skip (b6 (.q (.J (.q ?_)))))))))))
  obtain ⟨a23,ha23,h⟩:=bind_some h
  refine AWP.u (S.idx ha23 Z Z Z Z (.ad Z Z Z Z (W.alloc Z Z Z Z (W.store Z Z Z Z Z (.nil (b6 (.q (.u (.j Z Z (.E Z Z Z Z Z Z (W.mapUpdate (fk:=vU) (fv:=vI) (k:=a23) (a:=1000000000) G0 Z Z Z Z Z (.nil (b6 ?_)))))))))))))
  obtain ⟨⟨c63,c64,c65,c66,c67⟩,hx68,h⟩:=bind_some h
  refine AWP.seqJ (⟨[(0,.c (.ptr 0 0 0)),(5,.c (.ptr 3 0 0)),(6,.c (.map 4)),(7,.c (.ptr 7 0 0)),(9,.c (.ptr 9 0 0)),(19,.c (row 1 eU32 l)),(20,.c (int (l.length:Int))),(21,.c (int t62))],[.one (.cells 3 [(wW start goal 1 l4.length)]),.one (vec 4 d4 l4),mmap 2 2 vU i8 c56,.one (.cells 1 [[.map 2]]),.one (mapB vU vI c63),.one (pmap 11 vU c64),.dead,.one (.cells 3 [[.own 10 0 c66.length,.map 5,int c65]]),.dead,.one (.cells 1 [[.imm (.val (.int .u32 a23))]]),.one (prow 11 c66),pool 4 b9 c67]⟩) ?_ ?_
  ·refine AWP.q ?_
   obtain ⟨a29,ha29,hx68⟩:=bind_some hx68
   refine AWP.u (.j Z Z (.E Z Z Z Z Z Z (.callF (r2:=.c (bool (decide (Go.bits .and .u32 a23 goal=goal)))) (σ'':=[.one (.cells 3 [(wW start goal 1 l4.length)]),.one (vec 4 d4 l4),mmap 2 2 vU i8 c56,.one (.cells 1 [[.map 2]]),.one (mapB vU vI (mset c57 a23 1000000000)),.one (pmap 6 vU c58),pool 4 b9 c59,.one (.cells 3 [[.own 8 0 c61.length,.map 5,int c60]]),.one (prow 6 c61),.one (.cells 1 [[.imm (.val (.int .u32 a23))]])]) Z Z Z (FnOk.lend [0,1] (an6 ha29) Z Z Z Z Z Z (by exact ⟨(.one Z),.vec,Y⟩) Z (by exact ⟨(.live Z (.one Z)),(.live Z .vec),Y⟩) Z Z (by exact ⟨(.new 0 Z Z (.one Z)),(.new 1 Z Z .vec),(.old Z Z Z),(.old Z Z Z),(.old Z Z Z),(.old Z Z Z),(.old Z Z Z),(.old Z Z Z),(.old Z Z Z),(.old Z Z Z),Y⟩)) (.nil (b6 (.ite Z hx68 (fun hc69 hx68=> ?_) (fun hc69 hx68=> ?_)))))))
   ·refine AWP.q (.u (.j Z Z (.E Z Z Z Z Z Z (W.mapUpdate (fk:=vU) (fv:=vI) (k:=a23) (a:=0) G0 Z Z Z Z Z (.nil (b6 ?_))))))
    obtain ⟨a34,ha34,hx68⟩:=bind_some hx68
    refine AWP.u (.j Z Z (.E Z Z Z Z Z Z (.callF (r2:=.tup []) (σ'':=[.one (.cells 3 [(wW start goal 1 l4.length)]),.one (vec 4 d4 l4),mmap 2 2 vU i8 c56,.one (.cells 1 [[.map 2]]),.one (mapB vU vI (mset (mset c57 a23 1000000000) a23 0)),.one (pmap 11 vU a34.1),.dead,.one (.cells 3 [[.own 10 0 a34.2.1.length,.map 5,int (w64 (c60+1))]]),.dead,.one (.cells 1 [[.imm (.val (.int .u32 a23))]]),.one (prow 11 a34.2.1),pool 4 b9 a34.2.2]) Z Z Z (FnOk.lend [7,8,5,6] (ac7 ha34) Z Z Z Z Z Z (by exact ⟨(.one Z),(.one (i6 Z)),(.one (j8 Z)),(.any l7),Y⟩) Z (by exact ⟨(.live Z (.one Z)),(.live Z (.one (i4 fun _=>Z))),(.live Z (.one (k8 fun _=>Z))),(.live Z RenE.pool),Y⟩) Z Z (by exact ⟨(.old Z Z Z),(.old Z Z Z),(.old Z Z Z),(.old Z Z Z),(.old Z Z Z),(.new 2 Z Z (.one (k8 fun _=>Z))),.dead,(.new 0 Z Z (.one Z)),.dead,(.old Z Z Z),(.new 4 Z Z (.one (i4 fun _=>Z))),(.new 5 Z Z RenE.pool),Y⟩)) (.nil ?_))))
    have ej:=Option.some.inj hx68
    simp only [Prod.mk.injEq] at ej
    obtain ⟨ej0,ej1,ej2,ej3,ej4⟩:=ej
    subst ej0
    subst ej1
    subst ej2
    subst ej3
    subst ej4
    refine b6 (Sub.env ⟨Z,Z,Z,Z,Z,Z,Z,Z,Y⟩)
   ·refine AWP.skip ?_
    have ej:=Option.some.inj hx68
    simp only [Prod.mk.injEq] at ej
    obtain ⟨ej0,ej1,ej2,ej3,ej4⟩:=ej
    subst ej0
    subst ej1
    subst ej2
    subst ej3
    subst ej4
    refine b6 ((Sub.move (env':=[(0,.c (.ptr 0 0 0)),(5,.c (.ptr 3 0 0)),(6,.c (.map 4)),(7,.c (.ptr 7 0 0)),(9,.c (.ptr 9 0 0)),(19,.c (row 1 eU32 l)),(20,.c (int (l.length:Int))),(21,.c (int t62))]) (σ':=[.one (.cells 3 [(wW start goal 1 l4.length)]),.one (vec 4 d4 l4),mmap 2 2 vU i8 c56,.one (.cells 1 [[.map 2]]),.one (mapB vU vI (mset c57 a23 1000000000)),.one (pmap 6 vU c58),pool 4 b9 c59,.one (.cells 3 [[.own 10 0 c61.length,.map 5,int c60]]),.dead,.one (.cells 1 [[.imm (.val (.int .u32 a23))]]),.one (prow 6 c61)]) 10 8 Z Z Z ⟨Z,Z,Z,Z,Z,Z,Z,Z,Y⟩ Z ⟨⟨Z,Z⟩,⟨Blk.im_ok _ _ _,g9 Z⟩,(r9.mmap Z Z Z),⟨Z,Z⟩,⟨Z,Z⟩,⟨j8 Z,w9 Z K1⟩,(r9.pool Z),⟨Z,Z⟩,trivial,⟨Z,Z⟩,⟨i6 Z,w9 Z K3⟩,Y⟩).trans ((Sub.moveM (env':=[(0,.c (.ptr 0 0 0)),(5,.c (.ptr 3 0 0)),(6,.c (.map 4)),(7,.c (.ptr 7 0 0)),(9,.c (.ptr 9 0 0)),(19,.c (row 1 eU32 l)),(20,.c (int (l.length:Int))),(21,.c (int t62))]) (σ':=[.one (.cells 3 [(wW start goal 1 l4.length)]),.one (vec 4 d4 l4),mmap 2 2 vU i8 c56,.one (.cells 1 [[.map 2]]),.one (mapB vU vI (mset c57 a23 1000000000)),.one (pmap 11 vU c58),.dead,.one (.cells 3 [[.own 10 0 c61.length,.map 5,int c60]]),.dead,.one (.cells 1 [[.imm (.val (.int .u32 a23))]]),.one (prow 11 c61),pool 4 b9 c59]) 11 6 Z Z Z ⟨Z,Z,Z,Z,Z,Z,Z,Z,Y⟩ Z ⟨(.one Z Z),(.vec Z),(EntR.mmap Z Z Z),(.one Z Z),(.one Z Z),(.one (j8 Z) (F0 Z Z (k8 fun _=>Z))),.dead,(.one Z Z),.dead,(.one Z Z),(.one (i6 Z) (F0 Z Z (i4 fun _=>Z))),(EntR.pool Z Z),Y⟩).trans (Sub.env ⟨Z,Z,Z,Z,Z,Z,Z,Z,Y⟩)))
  ·try dsimp only at h
   refine AWP.q ?_
   obtain ⟨a37,ha37,h⟩:=bind_some h
   refine AWP.u (.j Z Z (.E Z Z Z Z Z Z (.callF (r2:=.c (.fn 106 [.ptr 12 0 0,.ptr 13 0 0])) (σ'':=[.one (.cells 3 [(wW start goal 1 l4.length)]),.one (vec 4 d4 l4),mmap 2 2 vU i8 c56,.one (.cells 1 [[.map 2]]),.one (mapB vU vI c63),.one (pmap 11 vU c64),.dead,.one (.cells 3 [[.own 10 0 c66.length,.map 5,int c65]]),.dead,.one (.cells 1 [[.imm (.val (.int .u32 a23))]]),.one (prow 11 c66),pool 4 b9 c67,.one (.cells 1 [[.ptr 0 0 0]]),.one (.cells 1 [[.imm (.val (.int .u32 a23))]])]) Z Z Z (FnOk.lend [0,1] (X2 ha37) Z Z Z Z Z Z (by exact ⟨(.one Z),.vec,Y⟩) Z (by exact ⟨(.live Z (.one Z)),(.live Z .vec),Y⟩) Z Z (by exact ⟨(.new 0 Z Z (.one Z)),(.new 1 Z Z .vec),(.old Z Z Z),(.old Z Z Z),(.old Z Z Z),(.old Z Z Z),.dead,(.old Z Z Z),.dead,(.old Z Z Z),(.old Z Z Z),(.old Z Z Z),(.new 2 Z Z (.one Z)),(.new 3 Z Z (.one Z)),Y⟩)) (.nil (b6 (.J ?_))))))
   obtain ⟨c71,hr70,h⟩:=bind_some h
   refine AWP.rangeB [(5,none),(9,none)] Z Z Z (fun as70 bo70 hA70 hB70=>⟨[.one (.cells 3 [(wW start goal 1 l4.length)]),.one (vec 4 d4 l4),mmap 2 2 vU i8 c56,.one (.cells 1 [[.map 2]]),.one (mapB vU vI c63),.one (pmap 11 vU c64),.dead,.one (.cells 3 [[.own 10 0 c66.length,.map 5,int c65]]),.dead,.one (.cells 1 [[.imm (.val (.int .u32 a23))]]),.one (prow 11 c66),pool 4 b9 c67,.one (.cells 1 [[.ptr 0 0 0]]),.one (.cells 1 [[.imm (.val (.int .u32 a23))]]),.one (k6 96 [38] as70 bo70 .ready none [(5,none),(9,none)] [.ptr 3 0 0,.ptr 9 0 0])],fun tt ss=>tt=.tup []∧ss=[.one (.cells 3 [(wW start goal 1 l4.length)]),.one (vec 4 d4 l4),.dead,.one (.cells 1 [[.map 15]]),.one (mapB vU vI c63),.one (pmap 11 vU c64),.dead,.one (.cells 3 [[.own 10 0 c66.length,.map 5,int c65]]),.dead,.one (.cells 1 [[.imm (.val (.int .u32 a23))]]),.one (prow 11 c66),pool 4 b9 c67,.one (.cells 1 [[.ptr 0 0 0]]),.one (.cells 1 [[.imm (.val (.int .u32 a23))]]),.one (k6 96 [38] as70 bo70 .ready none [(5,none),(9,none)] [.ptr 3 0 0,.ptr 9 0 0]),mmap 15 2 vU i8 c71],Z, ?_, ?_⟩)
   ·refine FnOk.enter (rs:=[]) func106 Z ntmps106 results106 Z trivial (by kernel_rfl) Z ?_
    refine AWP.weak ?_
    unfold P0 at hr70
    try dsimp only at hr70
    refine AWP.moveM (env':=[(0,.c (.yld 14)),(1,.c (.ptr 12 0 0)),(2,.c (.ptr 13 0 0))]) (σ':=[.one (.cells 3 [(wW start goal 1 l4.length)]),.one (vec 4 d4 l4),.dead,.one (.cells 1 [[.map 15]]),.one (mapB vU vI c63),.one (pmap 11 vU c64),.dead,.one (.cells 3 [[.own 10 0 c66.length,.map 5,int c65]]),.dead,.one (.cells 1 [[.imm (.val (.int .u32 a23))]]),.one (prow 11 c66),pool 4 b9 c67,.one (.cells 1 [[.ptr 0 0 0]]),.one (.cells 1 [[.imm (.val (.int .u32 a23))]]),.one (k6 96 [38] as70 bo70 .ready none [(5,none),(9,none)] [.ptr 3 0 0,.ptr 9 0 0]),mmap 15 2 vU i8 c56]) 15 2 Z Z Z ⟨Z,Z,Z,Y⟩ Z ⟨(.one Z Z),(.vec Z),.dead,(.one Z Z),(.one Z Z),(.one (j8 Z) (F0 Z Z (k8 fun _=>Z))),.dead,(.one Z Z),.dead,(.one Z Z),(.one (i6 Z) (F0 Z Z (i4 fun _=>Z))),(EntR.pool Z Z),(.one Z Z),(.one Z Z),(.one Z Z),(EntR.mmap Z Z Z),Y⟩ ?_
    refine AWP.q (.u (.E Z Z Z Z Z Z (.ag Z Z Z (W.fieldAddr Z Z Z Z (.E Z Z Z Z Z Z (S.lenO Z Z Z (fun hl10=>.j Z Z (.nil (b6 (.J ?_))))))))))
    obtain ⟨c72,ho2,hr70⟩:=bind_some hr70
    refine AWP.forS ho2 (fun t73 c72=>⟨[(0,.c (.yld 14)),(2,.c (.ptr 13 0 0)),(9,.c (.own 1 0 l4.length)),(10,.c (int (l4.length:Int))),(11,.c (int t73))],[.one (.cells 3 [(wW start goal 1 l4.length)]),.one (vec 4 d4 l4),.dead,.one (.cells 1 [[.map 15]]),.one (mapB vU vI c63),.one (pmap 11 vU c64),.dead,.one (.cells 3 [[.own 10 0 c66.length,.map 5,int c65]]),.dead,.one (.cells 1 [[.imm (.val (.int .u32 a23))]]),.one (prow 11 c66),pool 4 b9 c67,.one (.cells 1 [[.ptr 0 0 0]]),.one (.cells 1 [[.imm (.val (.int .u32 a23))]]),.one (k6 96 [38] as70 bo70 .ready none [(5,none),(9,none)] [.ptr 3 0 0,.ptr 9 0 0]),mmap 15 2 vU i8 c72]⟩) (fun c72 e st=>e=.exit 0∧Sub ([.one (.cells 3 [(wW start goal 1 l4.length)]),.one (vec 4 d4 l4),mmap 2 2 vU i8 c56,.one (.cells 1 [[.map 2]]),.one (mapB vU vI c63),.one (pmap 11 vU c64),.dead,.one (.cells 3 [[.own 10 0 c66.length,.map 5,int c65]]),.dead,.one (.cells 1 [[.imm (.val (.int .u32 a23))]]),.one (prow 11 c66),pool 4 b9 c67,.one (.cells 1 [[.ptr 0 0 0]]),.one (.cells 1 [[.imm (.val (.int .u32 a23))]]),.one (k6 96 [38] as70 bo70 .ready none [(5,none),(9,none)] [.ptr 3 0 0,.ptr 9 0 0])]:b8) st ⟨[],[.one (.cells 3 [(wW start goal 1 l4.length)]),.one (vec 4 d4 l4),.dead,.one (.cells 1 [[.map 15]]),.one (mapB vU vI c63),.one (pmap 11 vU c64),.dead,.one (.cells 3 [[.own 10 0 c66.length,.map 5,int c65]]),.dead,.one (.cells 1 [[.imm (.val (.int .u32 a23))]]),.one (prow 11 c66),pool 4 b9 c67,.one (.cells 1 [[.ptr 0 0 0]]),.one (.cells 1 [[.imm (.val (.int .u32 a23))]]),.one (k6 96 [38] as70 bo70 .ready none [(5,none),(9,none)] [.ptr 3 0 0,.ptr 9 0 0]),mmap 15 2 vU i8 c72]⟩) ?_ ?_ ?_ ?_
    ·try dsimp only
     exact Sub.env ⟨Z,Z,Z,Z,Z,Y⟩
    ·intro t73 c72 hlot73 hltt73 _
     try dsimp only
     refine AWP.q (.u (.F Z Z Z (.nil (b6 (.q (.ae Z hltt73 (.exit (e8 (e8 ⟨Z, ?_⟩)))))))))
     exact Sub.env trivial
    ·intro t73 c72 o hlot73 hltt73 h
     unfold P1 at h
     try dsimp only at h ⊢
     refine AWP.q (.u (.F Z Z Z (.nil (b6 (.q (.af Z hltt73 (.skip (b6 (.q (.J (.q ?_)))))))))))
     obtain ⟨ai14,hai14,h⟩:=bind_some h
     refine AWP.u (.j Z Z (S.idxO hai14 Z Z Z Z Z (S.loadOAgg hai14 Z Z Z Z Z Z Z (W.alloc Z Z Z Z (.v Z Z (W.storeAgg Z Z Z Z Z Z Z (.nil (b6 (.q ?_)))))))))
     rcases bft (decide (Go.bits .and .u32 a23 ai14.pre=ai14.pre)) with hb74 | hb74
     ·replace h:=P3 hb74 h
      refine AWP.u (.E Z Z Z Z Z Z (W.fieldAddr Z Z Z Z (.E Z Z Z Z Z Z (.bits Z Z Z (by simp) (W.fieldAddr Z Z Z Z (.E Z Z Z Z Z Z (.eql Z Z Z (.j Z Z (.z Z Z Z hb74 (.j Z Z (.z Z Z Z hb74 (.j Z Z (.z Z Z Z hb74 (W.fieldAddr Z Z Z Z (.z Z Z Z hb74 (.E Z Z Z Z Z Z (.z Z Z Z hb74 (.E Z Z Z Z Z Z (.z Z Z Z hb74 (W.fieldAddr Z Z Z Z (.z Z Z Z hb74 (.E Z Z Z Z Z Z (.z Z Z Z hb74 (.bits Z Z Z (by simp) (.z Z Z Z hb74 (W.fieldAddr Z Z Z Z (.z Z Z Z hb74 (.E Z Z Z Z Z Z (.z Z Z Z hb74 (.bits Z Z Z (by simp) (.z Z Z Z hb74 (W.build Z Z Z Z ?_))))))))))))))))))))))))))))))))
      refine AOps.z Z Z Z hb74 ?_; refine AOps.yieldB (E1:=[(10,.c (.ptr 17 0 0)),(38,.agg [int t73,int ai14.cost,.imm (.val (.int .u32 (Go.bits .or .u32 (Go.bits .andNot .u32 a23 ai14.del) ai14.add)))]),(5,.c (.ptr 3 0 0)),(9,.c (.ptr 9 0 0))]) (σ1:=[.one (.cells 3 [(wW start goal 1 l4.length)]),.one (vec 4 d4 l4),.dead,.one (.cells 1 [[.map 15]]),.one (mapB vU vI c63),.one (pmap 11 vU c64),.dead,.one (.cells 3 [[.own 10 0 c66.length,.map 5,int c65]]),.dead,.one (.cells 1 [[.imm (.val (.int .u32 a23))]]),.one (prow 11 c66),pool 4 b9 c67,.one (.cells 1 [[.ptr 0 0 0]]),.one (.cells 1 [[.imm (.val (.int .u32 a23))]]),.one (k6 96 [38] as70 bo70 .ready none [(5,none),(9,none)] [.ptr 3 0 0,.ptr 9 0 0]),mmap 15 2 vU i8 c72,.one (.cells 4 [[.imm (.val (.int .u32 ai14.pre)),.imm (.val (.int .u32 ai14.add)),.imm (.val (.int .u32 ai14.del)),int ai14.cost]]),.one (.cells 3 [[int t73,int ai14.cost,.imm (.val (.int .u32 (Go.bits .or .u32 (Go.bits .andNot .u32 a23 ai14.del) ai14.add)))]])]) hA70 hB70 Z Z Z Z Z Z Z Z Z Z ?_ ?_
      ·refine AWP.u (W.alloc Z Z Z Z (W.storeAgg Z Z Z Z Z Z Z (.nil ?_)))
       exact ⟨Z,Z⟩
      refine AWP.sub (s':=⟨[(5,.c (.ptr 3 0 0)),(9,.c (.ptr 9 0 0)),(10,.c (.ptr 17 0 0))],[.one (.cells 3 [(wW start goal 1 l4.length)]),.one (vec 4 d4 l4),.dead,.one (.cells 1 [[.map 15]]),.one (mapB vU vI c63),.one (pmap 11 vU c64),.dead,.one (.cells 3 [[.own 10 0 c66.length,.map 5,int c65]]),.dead,.one (.cells 1 [[.imm (.val (.int .u32 a23))]]),.one (prow 11 c66),pool 4 b9 c67,.one (.cells 1 [[.ptr 0 0 0]]),.one (.cells 1 [[.imm (.val (.int .u32 a23))]]),.one (k6 96 [38] as70 bo70 .busy none [(5,none),(9,none)] [.ptr 3 0 0,.ptr 9 0 0]),mmap 15 2 vU i8 c72,.one (.cells 4 [[.imm (.val (.int .u32 ai14.pre)),.imm (.val (.int .u32 ai14.add)),.imm (.val (.int .u32 ai14.del)),int ai14.cost]]),.one (.cells 3 [[int t73,int ai14.cost,.imm (.val (.int .u32 (Go.bits .or .u32 (Go.bits .andNot .u32 a23 ai14.del) ai14.add)))]])]⟩) (Sub.env ⟨Z,Z,Z,Y⟩) (.J ?_)
      obtain ⟨ab51,hab51,h⟩:=bind_some h
      refine AWP.drawEI [11,12,13] mixed Z Z Z ?_
      refine d6.consN Z Z (fun E=>AOps.E Z Z Z Z Z Z .N) Z (.consN Z Z (fun E=>W.fieldAddr Z Z Z Z .N) Z (.consN Z Z (fun E=>AOps.E Z Z Z Z Z Z .N) Z (.consN Z Z (fun E=>AOps.E Z Z Z Z Z Z .N) Z (.consN Z Z (fun E=>W.fieldAddr Z Z Z Z .N) Z (.consN Z Z (fun E=>AOps.E Z Z Z Z Z Z .N) Z (.consN Z Z (fun E=>S.lookupM (fk:=vU) (key:=Go.bits .or .u32 (Go.bits .andNot .u32 a23 ai14.del) ai14.add) G0 Z Z Z Z Z .N) Z (.consN Z Z (fun E=>AOps.E Z Z Z Z Z Z .N) Z (.consN Z Z (fun E=>W.fieldAddr Z Z Z Z .N) Z (.consN Z Z (fun E=>AOps.E Z Z Z Z Z Z .N) Z (.consN Z Z (fun E=>W.build Z Z Z Z .N) Z ?_))))))))))
      apply d6.consE; exact Z; exact Z; intro E
      refine S.lit (f:=i8) (l:=[(⟨a23,ai14.cost⟩:s9)]) (ess:=[[.imm (.val (.int .u32 a23)),int ai14.cost]]) Z Z Z Z Z Z Z ⟨⟨.inl Z,.inl Z,Y⟩,Y⟩ Z Z Z .N
      exact Z
      exact Z
      apply d6.consE; exact Z; exact Z; intro E
      refine S.appendMM (f:=i8) hab51 Z Z Z Z Z (.own Z Z) Z Z Z Z .N
      exact Z
      exact Z
      apply d6.consE (v:=.undef); exact Z; exact Z; intro E
      refine S.updateMM (fk:=vU) (key:=Go.bits .or .u32 (Go.bits .andNot .u32 a23 ai14.del) ai14.add) G0 Z Z Z Z Z .N
      exact Z
      exact Z
      refine d6.done Z ?_ ?_
      ·refine c9.cons Z Z ?_ ?_
       refine b7.go Z Z (fun E=>AOps.E Z Z Z Z Z Z .N) ?_
       refine b7.go Z Z (fun E=>AOps.E Z Z Z Z Z Z .N) ?_
       refine b7.go Z Z (fun E=>AOps.E Z Z Z Z Z Z .N) ?_
       refine b7.skip Z (b7.nil)
       refine c9.cons Z Z ?_ ?_
       refine b7.go Z Z (fun E=>W.fieldAddr Z Z Z Z .N) ?_
       refine b7.go Z Z (fun E=>W.fieldAddr Z Z Z Z .N) ?_
       refine b7.go Z Z (fun E=>W.fieldAddr Z Z Z Z .N) ?_
       refine b7.skip Z (b7.nil)
       refine c9.cons Z Z ?_ ?_
       refine b7.go Z Z (fun E=>AOps.E Z Z Z Z Z Z .N) ?_
       refine b7.go Z Z (fun E=>AOps.E Z Z Z Z Z Z .N) ?_
       refine b7.go Z Z (fun E=>AOps.E Z Z Z Z Z Z .N) ?_
       refine b7.skip Z (b7.nil)
       refine c9.cons Z Z ?_ ?_
       refine b7.go Z Z (fun E=>AOps.E Z Z Z Z Z Z .N) ?_
       refine b7.go Z Z (fun E=>AOps.E Z Z Z Z Z Z .N) ?_
       refine b7.skip Z (b7.skip Z (b7.nil))
       refine c9.cons Z Z ?_ ?_
       refine b7.go Z Z (fun E=>W.fieldAddr Z Z Z Z .N) ?_
       refine b7.go Z Z (fun E=>W.fieldAddr Z Z Z Z .N) ?_
       refine b7.skip Z (b7.skip Z (b7.nil))
       refine c9.cons Z Z ?_ ?_
       refine b7.go Z Z (fun E=>AOps.E Z Z Z Z Z Z .N) ?_
       refine b7.go Z Z (fun E=>AOps.E Z Z Z Z Z Z .N) ?_
       refine b7.skip Z (b7.skip Z (b7.nil))
       refine c9.cons Z Z ?_ ?_
       refine b7.go Z Z (fun E=>S.lookupM (fk:=vU) (key:=Go.bits .or .u32 (Go.bits .andNot .u32 a23 ai14.del) ai14.add) G0 Z Z Z Z Z .N) ?_
       refine b7.go Z Z (fun E=>S.lookupM (fk:=vU) (key:=Go.bits .or .u32 (Go.bits .andNot .u32 a23 ai14.del) ai14.add) G0 Z Z Z Z Z .N) ?_
       refine b7.skip Z (b7.skip Z (b7.nil))
       refine c9.cons Z Z ?_ ?_
       refine b7.go Z Z (fun E=>AOps.E Z Z Z Z Z Z .N) ?_
       refine b7.skip Z (b7.skip Z (b7.skip Z (b7.nil)))
       refine c9.cons Z Z ?_ ?_
       refine b7.go Z Z (fun E=>W.fieldAddr Z Z Z Z .N) ?_
       refine b7.skip Z (b7.skip Z (b7.skip Z (b7.nil)))
       refine c9.cons Z Z ?_ ?_
       refine b7.go Z Z (fun E=>AOps.E Z Z Z Z Z Z .N) ?_
       refine b7.skip Z (b7.skip Z (b7.skip Z (b7.nil)))
       refine c9.cons Z Z ?_ ?_
       refine b7.go Z Z (fun E=>W.build Z Z Z Z .N) ?_
       refine b7.skip Z (b7.skip Z (b7.skip Z (b7.nil)))
       refine c9.skip Z (c9.skip Z (c9.skip Z (c9.nil)))
      dsimp only [j9]
      refine e9 (K5 Z Z (.z Z Z Z hb74 (.not Z Z (.U Z hb74 Z Z (.nil (b6 (.j (env':=[(0,.c (.yld 14)),(2,.c (.ptr 13 0 0)),(9,.c (.own 1 0 l4.length)),(10,.c (int (l4.length:Int))),(11,.c (int t73)),(38,.c (bool false))]) (σ':=[.one (.cells 3 [(wW start goal 1 l4.length)]),.one (vec 4 d4 l4),.dead,.one (.cells 1 [[.map 15]]),.one (mapB vU vI c63),.one (pmap 11 vU c64),.dead,.one (.cells 3 [[.own 10 0 c66.length,.map 5,int c65]]),.dead,.one (.cells 1 [[.imm (.val (.int .u32 a23))]]),.one (prow 11 c66),pool 4 b9 c67,.one (.cells 1 [[.ptr 0 0 0]]),.one (.cells 1 [[.imm (.val (.int .u32 a23))]]),.one (k6 96 [38] as70 bo70 .ready none [(5,none),(9,none)] [.ptr 3 0 0,.ptr 9 0 0]),mmap 15 2 vU i8 (mset c72 (Go.bits .or .u32 (Go.bits .andNot .u32 a23 ai14.del) ai14.add) ab51),.one (.cells 4 [[.imm (.val (.int .u32 ai14.pre)),.imm (.val (.int .u32 ai14.add)),.imm (.val (.int .u32 ai14.del)),int ai14.cost]]),.one (.cells 3 [[int t73,int ai14.cost,.imm (.val (.int .u32 (Go.bits .or .u32 (Go.bits .andNot .u32 a23 ai14.del) ai14.add)))]]),.one (vec 2 i8 [(⟨a23,ai14.cost⟩:s9)])]) (15,[posM c72 (Go.bits .or .u32 (Go.bits .andNot .u32 a23 ai14.del) ai14.add)]) (19,[]) Z Z Z ⟨Z,Z,Z,Z,Z,Z,Y⟩ Z ⟨⟨Z,Z⟩,⟨Blk.im_ok _ _ _,g9 Z⟩,trivial,⟨Z,Z⟩,⟨Z,Z⟩,⟨j8 Z,ab9 Z (pmap_mvR Z) af2⟩,trivial,⟨Z,Z⟩,trivial,⟨Z,Z⟩,⟨i6 Z,ab9 Z (prow_mvR Z) af2⟩,(r9.poolR Z Z),⟨Z,Z⟩,⟨Z,Z⟩,⟨Z,Z⟩,(r9.putMM Z Z Z Z),⟨Z,Z⟩,⟨Z,Z⟩,⟨Blk.im_ok _ _ _,g9 Z⟩,Y⟩ (.condF Z (.skip (e9 (b6 (.u (.add Z Z Z (by omega) (.j Z Z (.nil ?_)))))))))))))))
      obtain rfl:=oi h
      refine b6 (Sub.cut ⟨Z,Z,Z,Z,Z,Y⟩ Z ⟨.one Z,.vec,.dead,.one Z,.one Z,(.one (j8 Z)),.dead,.one Z,.dead,.one Z,(.one (i6 Z)),(.any l7),.one Z,.one Z,.one Z,(.any (mm_ok Z)),Y⟩ Z)
     ·replace h:=P2 hb74 h
      refine AWP.u (.E Z Z Z Z Z Z (W.fieldAddr Z Z Z Z (.E Z Z Z Z Z Z (.bits Z Z Z (by simp) (W.fieldAddr Z Z Z Z (.E Z Z Z Z Z Z (.eql Z Z Z (.j Z Z (.B Z Z Z hb74 (.B Z Z Z hb74 (.B Z Z Z hb74 (.B Z Z Z hb74 (.B Z Z Z hb74 (.B Z Z Z hb74 (.B Z Z Z hb74 (.B Z Z Z hb74 (.B Z Z Z hb74 (.B Z Z Z hb74 (.B Z Z Z hb74 (.B Z Z Z hb74 (.B Z Z Z hb74 (.B Z Z Z hb74 (.aa Z hb74 Z Z (.nil (b6 (.condF Z (.skip (e9 (b6 (.u (.add Z Z Z (by omega) (.j Z Z (.nil ?_)))))))))))))))))))))))))))))))))
      obtain rfl:=oi h
      refine b6 (Sub.cut ⟨Z,Z,Z,Z,Z,Y⟩ Z ⟨.one Z,.vec,.dead,.one Z,.one Z,(.one (j8 Z)),.dead,.one Z,.dead,.one Z,(.one (i6 Z)),(.any l7),.one Z,.one Z,.one Z,(.any (mm_ok Z)),Y⟩ Z)
    ·intro e s hq
     obtain ⟨rfl,hs⟩:=hq
     refine ⟨_,hs, ?_⟩
     refine j5 ?_
     obtain rfl:=oi hr70
     exact ⟨⟨[],[.one (.cells 3 [(wW start goal 1 l4.length)]),.one (vec 4 d4 l4),.dead,.one (.cells 1 [[.map 15]]),.one (mapB vU vI c63),.one (pmap 11 vU c64),.dead,.one (.cells 3 [[.own 10 0 c66.length,.map 5,int c65]]),.dead,.one (.cells 1 [[.imm (.val (.int .u32 a23))]]),.one (prow 11 c66),pool 4 b9 c67,.one (.cells 1 [[.ptr 0 0 0]]),.one (.cells 1 [[.imm (.val (.int .u32 a23))]]),.one (k6 96 [38] as70 bo70 .ready none [(5,none),(9,none)] [.ptr 3 0 0,.ptr 9 0 0]),mmap 15 2 vU i8 c72]⟩,Sub.env trivial,Done.normal Z ⟨Z,Z⟩⟩
   ·rintro tt ss ⟨rfl,rfl⟩
    try dsimp only at h ⊢
    refine ad8 Z Z (e9 (e9 (b6 (.u (.add Z Z Z (by omega) (.j Z Z (.nil ?_)))))))
    obtain rfl:=oi h
    refine b6 ((Sub.moveM (env':=[(0,.c (.ptr 0 0 0)),(5,.c (.ptr 3 0 0)),(6,.c (.map 4)),(7,.c (.ptr 7 0 0)),(19,.c (row 1 eU32 l)),(20,.c (int (l.length:Int))),(21,.c (int (t62+1)))]) (σ':=[.one (.cells 3 [(wW start goal 1 l4.length)]),.one (vec 4 d4 l4),mmap 2 2 vU i8 c71,.one (.cells 1 [[.map 2]]),.one (mapB vU vI c63),.one (pmap 11 vU c64),.dead,.one (.cells 3 [[.own 10 0 c66.length,.map 5,int c65]]),.dead,.one (.cells 1 [[.imm (.val (.int .u32 a23))]]),.one (prow 11 c66),pool 4 b9 c67,.one (.cells 1 [[.ptr 0 0 0]]),.one (.cells 1 [[.imm (.val (.int .u32 a23))]]),.dead]) 2 15 Z Z Z ⟨Z,Z,Z,Z,Z,Z,Z,Y⟩ Z ⟨(.one Z Z),(.vec Z),(EntR.mmap Z Z Z),(.one Z Z),(.one Z Z),(.one (j8 Z) (F0 Z Z (k8 fun _=>Z))),.dead,(.one Z Z),.dead,(.one Z Z),(.one (i6 Z) (F0 Z Z (i4 fun _=>Z))),(EntR.pool Z Z),(.one Z Z),(.one Z Z),.dead,Y⟩).trans ((Sub.move (env':=[(0,.c (.ptr 0 0 0)),(5,.c (.ptr 3 0 0)),(6,.c (.map 4)),(7,.c (.ptr 7 0 0)),(19,.c (row 1 eU32 l)),(20,.c (int (l.length:Int))),(21,.c (int (t62+1)))]) (σ':=[.one (.cells 3 [(wW start goal 1 l4.length)]),.one (vec 4 d4 l4),mmap 2 2 vU i8 c71,.one (.cells 1 [[.map 2]]),.one (mapB vU vI c63),.one (pmap 11 vU c64),.dead,.one (.cells 3 [[.own 8 0 c66.length,.map 5,int c65]]),.one (prow 11 c66),.one (.cells 1 [[.imm (.val (.int .u32 a23))]]),.dead,pool 4 b9 c67,.one (.cells 1 [[.ptr 0 0 0]]),.one (.cells 1 [[.imm (.val (.int .u32 a23))]]),.dead]) 8 10 Z Z Z ⟨Z,Z,Z,Z,Z,Z,Z,Y⟩ Z ⟨⟨Z,Z⟩,⟨Blk.im_ok _ _ _,g9 Z⟩,(r9.mmap Z Z Z),⟨Z,Z⟩,⟨Z,Z⟩,⟨j8 Z,w9 Z K1⟩,trivial,⟨Z,Z⟩,⟨i6 Z,w9 Z K3⟩,⟨Z,Z⟩,trivial,(r9.pool Z),⟨Z,Z⟩,⟨Z,Z⟩,trivial,Y⟩).trans ((Sub.moveM (env':=[(0,.c (.ptr 0 0 0)),(5,.c (.ptr 3 0 0)),(6,.c (.map 4)),(7,.c (.ptr 7 0 0)),(19,.c (row 1 eU32 l)),(20,.c (int (l.length:Int))),(21,.c (int (t62+1)))]) (σ':=[.one (.cells 3 [(wW start goal 1 l4.length)]),.one (vec 4 d4 l4),mmap 2 2 vU i8 c71,.one (.cells 1 [[.map 2]]),.one (mapB vU vI c63),.one (pmap 6 vU c64),pool 4 b9 c67,.one (.cells 3 [[.own 8 0 c66.length,.map 5,int c65]]),.one (prow 6 c66),.one (.cells 1 [[.imm (.val (.int .u32 a23))]]),.dead,.dead,.one (.cells 1 [[.ptr 0 0 0]]),.one (.cells 1 [[.imm (.val (.int .u32 a23))]]),.dead]) 6 11 Z Z Z ⟨Z,Z,Z,Z,Z,Z,Z,Y⟩ Z ⟨(.one Z Z),(.vec Z),(EntR.mmap Z Z Z),(.one Z Z),(.one Z Z),(.one (j8 Z) (F0 Z Z (k8 fun _=>Z))),(EntR.pool Z Z),(.one Z Z),(.one (i6 Z) (F0 Z Z (i4 fun _=>Z))),(.one Z Z),.dead,.dead,(.one Z Z),(.one Z Z),.dead,Y⟩).trans (Sub.cut ⟨Z,Z,Z,Z,Z,Z,Z,Y⟩ Z ⟨.one Z,.vec,(.any (mm_ok Z)),.one Z,.one Z,(.one (j8 Z)),(.any l7),.one Z,(.one (i6 Z)),Y⟩ Z))))
 ·intro e s hq
  obtain ⟨rfl,hs⟩:=hq
  refine ⟨_,hs, ?_⟩
  refine j5 (b6 (.q (.J ?_)))
  obtain ⟨c80,ho4,h⟩:=bind_some h
  refine AWP.loopS ho4 (fun (c75,c76,c77,c78,c79)=>⟨[(5,.c (.ptr 3 0 0)),(6,.c (.map 4)),(7,.c (.ptr 7 0 0))],[.one (.cells 3 [(wW start goal 1 l4.length)]),.one (vec 4 d4 l4),mmap 2 2 vU i8 c56,.one (.cells 1 [[.map 2]]),.one (mapB vU vI c75),.one (pmap 6 vU c76),pool 4 b9 c77,.one (.cells 3 [[.own 8 0 c79.length,.map 5,int c78]]),.one (prow 6 c79)]⟩) (fun c80 e st=>e=.exit 4∧Sub (P4 l start goal l4) st ⟨[(6,.c (.map 4))],[.one (.cells 3 [(wW start goal 1 l4.length)]),.one (vec 4 d4 l4),.dead,.dead,.one (mapB vU vI c80)]⟩) ?_ ?_ ?_
  ·try dsimp only
   exact Sub.env ⟨Z,Z,Z,Y⟩
  ·intro s o h
   obtain ⟨c75,c76,c77,c78,c79⟩:=s
   unfold J3 at h
   try dsimp only at h ⊢
   refine AWP.q (.q ?_)
   obtain ⟨a54,ha54,h⟩:=bind_some h
   refine AWP.u (.j Z Z (.callF (r2:=.c (int (c79.length:Int))) (σ'':=[.one (.cells 3 [(wW start goal 1 l4.length)]),.one (vec 4 d4 l4),mmap 2 2 vU i8 c56,.one (.cells 1 [[.map 2]]),.one (mapB vU vI c75),.one (pmap 6 vU c76),pool 4 b9 c77,.one (.cells 3 [[.own 8 0 c79.length,.map 5,int c78]]),.one (prow 6 c79)]) Z Z Z (FnOk.lend [7,8,5,6] (ae0 ha54) Z Z Z Z Z Z (by exact ⟨(.one Z),(.one (i6 Z)),(.one (j8 Z)),(.any l7),Y⟩) Z (by exact ⟨(.live Z (.one Z)),(.live Z (.one (i4 fun _=>Z))),(.live Z (.one (k8 fun _=>Z))),(.live Z RenE.pool),Y⟩) Z Z (by exact ⟨(.old Z Z Z),(.old Z Z Z),(.old Z Z Z),(.old Z Z Z),(.old Z Z Z),(.new 2 Z Z (.one (k8 fun _=>Z))),(.new 3 Z Z RenE.pool),(.new 0 Z Z (.one Z)),(.new 1 Z Z (.one (i4 fun _=>Z))),Y⟩)) (.gtr Z Z Z (.nil (b6 (.ite Z h (fun hc81 h=> ?_) (fun hc81 h=> ?_)))))))
   ·refine AWP.skip (b6 (.J (.q ?_)))
    obtain ⟨a58,ha58,h⟩:=bind_some h
    refine AWP.u (.j Z Z (.callF (r2:=.tup [.c (.imm (.val (.int .u32 a58.2.2.2.1))),.c (int a58.2.2.2.2.1),.c (bool a58.2.2.2.2.2)]) (σ'':=[.one (.cells 3 [(wW start goal 1 l4.length)]),.one (vec 4 d4 l4),mmap 2 2 vU i8 c56,.one (.cells 1 [[.map 2]]),.one (mapB vU vI c75),.one (pmap 6 vU a58.1),pool 4 b9 a58.2.1,.one (.cells 3 [[.own 9 0 a58.2.2.1.length,.map 5,int c78]]),.dead,.one (prow 6 a58.2.2.1)]) Z Z Z (FnOk.lend [7,8,5,6] (aa4 ha58) Z Z Z Z Z Z (by exact ⟨(.one Z),(.one (i6 Z)),(.one (j8 Z)),(.any l7),Y⟩) Z (by exact ⟨(.live Z (.one Z)),(.live Z (.one (i4 fun _=>Z))),(.live Z (.one (k8 fun _=>Z))),(.live Z RenE.pool),Y⟩) Z Z (by exact ⟨(.old Z Z Z),(.old Z Z Z),(.old Z Z Z),(.old Z Z Z),(.old Z Z Z),(.new 2 Z Z (.one (k8 fun _=>Z))),(.new 3 Z Z RenE.pool),(.new 0 Z Z (.one Z)),.dead,(.new 4 Z Z (.one (i4 fun _=>Z))),Y⟩)) (.j Z Z (.ac Z Z Z (.ac Z Z Z (.ac Z Z Z (.v Z Z (.v Z Z (.v Z Z (.nil (b6 (.q (.u (.E Z Z Z Z Z Z (.j Z Z (S.lookupM (fk:=vU) (key:=a58.2.2.2.1) G0 Z Z Z Z Z (S.lenMM Z Z Z (fun hl65=>.j Z Z (.nil (b6 (.J ?_)))))))))))))))))))))
    obtain ⟨⟨c82,c83,c84,c85,c86⟩,ho5,h⟩:=bind_some h
    try dsimp only at h
    refine AWP.forS ho5 (fun t87 (c82,c83,c84,c85,c86)=>⟨[(5,.c (.ptr 3 0 0)),(6,.c (.map 4)),(7,.c (.ptr 7 0 0)),(12,.c (int a58.2.2.2.2.1)),(64,.c (rowC 2 c56 a58.2.2.2.1)),(65,.c (int ((rowM c56 a58.2.2.2.1).length:Int))),(66,.c (int t87))],[.one (.cells 3 [(wW start goal 1 l4.length)]),.one (vec 4 d4 l4),mmap 2 2 vU i8 c56,.one (.cells 1 [[.map 2]]),.one (mapB vU vI c82),.one (pmap 6 vU c83),pool 4 b9 c84,.one (.cells 3 [[.own 9 0 c86.length,.map 5,int c85]]),.dead,.one (prow 6 c86)]⟩) (fun (c82,c83,c84,c85,c86) e st=>e=.exit 6∧Sub (P4 l start goal l4) st ⟨[(5,.c (.ptr 3 0 0)),(6,.c (.map 4)),(7,.c (.ptr 7 0 0))],[.one (.cells 3 [(wW start goal 1 l4.length)]),.one (vec 4 d4 l4),mmap 2 2 vU i8 c56,.one (.cells 1 [[.map 2]]),.one (mapB vU vI c82),.one (pmap 6 vU c83),pool 4 b9 c84,.one (.cells 3 [[.own 9 0 c86.length,.map 5,int c85]]),.dead,.one (prow 6 c86)]⟩) ?_ ?_ ?_ ?_
    ·try dsimp only
     exact Sub.env ⟨Z,Z,Z,Z,Z,Z,Z,Y⟩
    ·intro t87 s hlot87 hltt87 _
     obtain ⟨c82,c83,c84,c85,c86⟩:=s
     try dsimp only
     refine AWP.q (.u (.F Z Z Z (.nil (b6 (.q (.ae Z hltt87 (.exit (e8 (e8 ⟨Z, ?_⟩)))))))))
     exact Sub.env ⟨Z,Z,Z,Y⟩
    ·intro t87 s o hlot87 hltt87 h
     obtain ⟨c82,c83,c84,c85,c86⟩:=s
     unfold J2 at h
     try dsimp only at h ⊢
     refine AWP.q (.u (.F Z Z Z (.nil (b6 (.q (.af Z hltt87 (.skip (b6 ?_))))))))
     obtain ⟨⟨c88,c89,c90,c91,c92⟩,hx93,h⟩:=bind_some h
     refine AWP.seqJ (⟨[(5,.c (.ptr 3 0 0)),(6,.c (.map 4)),(7,.c (.ptr 7 0 0)),(12,.c (int a58.2.2.2.2.1)),(64,.c (rowC 2 c56 a58.2.2.2.1)),(65,.c (int ((rowM c56 a58.2.2.2.1).length:Int))),(66,.c (int t87))],[.one (.cells 3 [(wW start goal 1 l4.length)]),.one (vec 4 d4 l4),mmap 2 2 vU i8 c56,.one (.cells 1 [[.map 2]]),.one (mapB vU vI c88),.one (pmap 12 vU c89),.dead,.one (.cells 3 [[.own 11 0 c91.length,.map 5,int c90]]),.dead,.dead,.dead,.one (prow 12 c91),pool 4 b9 c92]⟩) ?_ ?_
     ·refine AWP.J (.q ?_)
      obtain ⟨a68,ha68,hx93⟩:=bind_some hx93
      refine AWP.u (S.idxMM ha68 Z Z Z Z (S.loadOAgg ha68 Z Z (mm_get Z ha68) Z Z Z Z (W.alloc Z Z Z Z (W.storeAgg Z Z Z Z Z Z Z (.nil (b6 (.q (.u (.j Z Z (W.fieldAddr Z Z Z Z (.E Z Z Z Z Z Z (S.add Z Z Z (.j Z Z (W.fieldAddr Z Z Z Z (.E Z Z Z Z Z Z (W.lookup (fk:=vU) (fv:=vI) (k:=a68.ffrom) (z:=0) G0 Z (fun _=>Z) Z Z Z Z ?_))))))))))))))))
      refine AOps.F Z Z Z (.nil (b6 (.ite Z hx93 (fun hc94 hx93=> ?_) (fun hc94 hx93=> ?_))))
      ·refine AWP.q (.u (.j Z Z (W.fieldAddr Z Z Z Z (.E Z Z Z Z Z Z (.j Z Z (W.fieldAddr Z Z Z Z (.E Z Z Z Z Z Z (S.add Z Z Z (W.mapUpdate (fk:=vU) (fv:=vI) (k:=a68.ffrom) (a:=w64 (a58.2.2.2.2.1+a68.cost)) G0 Z Z Z Z Z (.nil (b6 ?_)))))))))))
       obtain ⟨a93,ha93,hx93⟩:=bind_some hx93
       refine AWP.u (.j Z Z (W.fieldAddr Z Z Z Z (.E Z Z Z Z Z Z (.j Z Z (W.fieldAddr Z Z Z Z (.E Z Z Z Z Z Z (S.add Z Z Z (.callF (r2:=.tup []) (σ'':=[.one (.cells 3 [(wW start goal 1 l4.length)]),.one (vec 4 d4 l4),mmap 2 2 vU i8 c56,.one (.cells 1 [[.map 2]]),.one (mapB vU vI (mset c82 a68.ffrom (w64 (a58.2.2.2.2.1+a68.cost)))),.one (pmap 12 vU a93.1),.dead,.one (.cells 3 [[.own 11 0 a93.2.1.length,.map 5,int (w64 (c85+1))]]),.dead,.dead,.one (.cells 2 [[.imm (.val (.int .u32 a68.ffrom)),int a68.cost]]),.one (prow 12 a93.2.1),pool 4 b9 a93.2.2]) Z Z Z (FnOk.lend [7,9,5,6] (ad0 ha93) Z Z Z Z Z Z (by exact ⟨(.one Z),(.one (i6 Z)),(.one (j8 Z)),(.any l7),Y⟩) Z (by exact ⟨(.live Z (.one Z)),(.live Z (.one (i4 fun _=>Z))),(.live Z (.one (k8 fun _=>Z))),(.live Z RenE.pool),Y⟩) Z Z (by exact ⟨(.old Z Z Z),(.old Z Z Z),(.old Z Z Z),(.old Z Z Z),(.old Z Z Z),(.new 2 Z Z (.one (k8 fun _=>Z))),.dead,(.new 0 Z Z (.one Z)),.dead,.dead,(.old Z Z Z),(.new 4 Z Z (.one (i4 fun _=>Z))),(.new 5 Z Z RenE.pool),Y⟩)) (.nil (e9 ?_))))))))))
       have ej:=Option.some.inj hx93
       simp only [Prod.mk.injEq] at ej
       obtain ⟨ej0,ej1,ej2,ej3,ej4⟩:=ej
       subst ej0
       subst ej1
       subst ej2
       subst ej3
       subst ej4
       refine b6 (Sub.cut ⟨Z,Z,Z,Z,Z,Z,Z,Y⟩ Z ⟨.one Z,.vec,(.any (mm_ok Z)),.one Z,.one Z,(.one (j8 Z)),.dead,.one Z,.dead,.dead,.dead,(.one (i6 Z)),(.any l7),Y⟩ (eOk1 Z (eOk1 Z (eOk1 Z (eOk1 Z (eOk1 (af0 Z) (eOk1 Z (eOk1 Z Z))))))))
      ·refine AWP.skip (e9 ?_)
       have ej:=Option.some.inj hx93
       simp only [Prod.mk.injEq] at ej
       obtain ⟨ej0,ej1,ej2,ej3,ej4⟩:=ej
       subst ej0
       subst ej1
       subst ej2
       subst ej3
       subst ej4
       refine b6 ((Sub.move (env':=[(5,.c (.ptr 3 0 0)),(6,.c (.map 4)),(7,.c (.ptr 7 0 0)),(12,.c (int a58.2.2.2.2.1)),(64,.c (rowC 2 c56 a58.2.2.2.1)),(65,.c (int ((rowM c56 a58.2.2.2.1).length:Int))),(66,.c (int t87))]) (σ':=[.one (.cells 3 [(wW start goal 1 l4.length)]),.one (vec 4 d4 l4),mmap 2 2 vU i8 c56,.one (.cells 1 [[.map 2]]),.one (mapB vU vI c82),.one (pmap 6 vU c83),pool 4 b9 c84,.one (.cells 3 [[.own 11 0 c86.length,.map 5,int c85]]),.dead,.dead,.one (.cells 2 [[.imm (.val (.int .u32 a68.ffrom)),int a68.cost]]),.one (prow 6 c86)]) 11 9 Z Z Z ⟨Z,Z,Z,Z,rowC_mv (fun _=>Z) Z,Z,Z,Y⟩ (eOk1 Z (eOk1 Z (eOk1 Z (eOk1 Z (eOk1 (af0 Z) (eOk1 Z (eOk1 Z Z))))))) ⟨⟨Z,Z⟩,⟨Blk.im_ok _ _ _,g9 Z⟩,(r9.mmap Z Z Z),⟨Z,Z⟩,⟨Z,Z⟩,⟨j8 Z,w9 Z K1⟩,(r9.pool Z),⟨Z,Z⟩,trivial,trivial,⟨Z,Z⟩,⟨i6 Z,w9 Z K3⟩,Y⟩).trans ((Sub.moveM (env':=[(5,.c (.ptr 3 0 0)),(6,.c (.map 4)),(7,.c (.ptr 7 0 0)),(12,.c (int a58.2.2.2.2.1)),(64,.c (rowC 2 c56 a58.2.2.2.1)),(65,.c (int ((rowM c56 a58.2.2.2.1).length:Int))),(66,.c (int t87))]) (σ':=[.one (.cells 3 [(wW start goal 1 l4.length)]),.one (vec 4 d4 l4),mmap 2 2 vU i8 c56,.one (.cells 1 [[.map 2]]),.one (mapB vU vI c82),.one (pmap 12 vU c83),.dead,.one (.cells 3 [[.own 11 0 c86.length,.map 5,int c85]]),.dead,.dead,.one (.cells 2 [[.imm (.val (.int .u32 a68.ffrom)),int a68.cost]]),.one (prow 12 c86),pool 4 b9 c84]) 12 6 Z Z Z ⟨Z,Z,Z,Z,rowC_mv (fun _=>Z) Z,Z,Z,Y⟩ (eOk1 Z (eOk1 Z (eOk1 Z (eOk1 Z (eOk1 (af0 Z) (eOk1 Z (eOk1 Z Z))))))) ⟨(.one Z Z),(.vec Z),(EntR.mmap Z Z Z),(.one Z Z),(.one Z Z),(.one (j8 Z) (F0 Z Z (k8 fun _=>Z))),.dead,(.one Z Z),.dead,.dead,(.one Z Z),(.one (i6 Z) (F0 Z Z (i4 fun _=>Z))),(EntR.pool Z Z),Y⟩).trans (Sub.cut ⟨Z,Z,Z,Z,Z,Z,Z,Y⟩ Z ⟨.one Z,.vec,(.any (mm_ok Z)),.one Z,.one Z,(.one (j8 Z)),.dead,.one Z,.dead,.dead,.dead,(.one (i6 Z)),(.any l7),Y⟩ (eOk1 Z (eOk1 Z (eOk1 Z (eOk1 Z (eOk1 (af0 Z) (eOk1 Z (eOk1 Z Z))))))))))
     ·try dsimp only at h
      refine AWP.u (.add Z Z Z (by omega) (.j Z Z (.nil ?_)))
      obtain rfl:=oi h
      refine b6 ((Sub.move (env':=[(5,.c (.ptr 3 0 0)),(6,.c (.map 4)),(7,.c (.ptr 7 0 0)),(12,.c (int a58.2.2.2.2.1)),(64,.c (rowC 2 c56 a58.2.2.2.1)),(65,.c (int ((rowM c56 a58.2.2.2.1).length:Int))),(66,.c (int (t87+1)))]) (σ':=[.one (.cells 3 [(wW start goal 1 l4.length)]),.one (vec 4 d4 l4),mmap 2 2 vU i8 c56,.one (.cells 1 [[.map 2]]),.one (mapB vU vI c88),.one (pmap 12 vU c89),.dead,.one (.cells 3 [[.own 9 0 c91.length,.map 5,int c90]]),.dead,.one (prow 12 c91),.dead,.dead,pool 4 b9 c92]) 9 11 Z Z Z ⟨Z,Z,Z,Z,rowC_mv (fun _=>Z) Z,Z,Z,Y⟩ (eOk1 Z (eOk1 Z (eOk1 Z (eOk1 Z (eOk1 (af0 Z) (eOk1 Z (eOk1 Z Z))))))) ⟨⟨Z,Z⟩,⟨Blk.im_ok _ _ _,g9 Z⟩,(r9.mmap Z Z Z),⟨Z,Z⟩,⟨Z,Z⟩,⟨j8 Z,w9 Z K1⟩,trivial,⟨Z,Z⟩,trivial,⟨i6 Z,w9 Z K3⟩,trivial,trivial,(r9.pool Z),Y⟩).trans ((Sub.moveM (env':=[(5,.c (.ptr 3 0 0)),(6,.c (.map 4)),(7,.c (.ptr 7 0 0)),(12,.c (int a58.2.2.2.2.1)),(64,.c (rowC 2 c56 a58.2.2.2.1)),(65,.c (int ((rowM c56 a58.2.2.2.1).length:Int))),(66,.c (int (t87+1)))]) (σ':=[.one (.cells 3 [(wW start goal 1 l4.length)]),.one (vec 4 d4 l4),mmap 2 2 vU i8 c56,.one (.cells 1 [[.map 2]]),.one (mapB vU vI c88),.one (pmap 6 vU c89),pool 4 b9 c92,.one (.cells 3 [[.own 9 0 c91.length,.map 5,int c90]]),.dead,.one (prow 6 c91),.dead,.dead]) 6 12 Z Z Z ⟨Z,Z,Z,Z,rowC_mv (fun _=>Z) Z,Z,Z,Y⟩ (eOk1 Z (eOk1 Z (eOk1 Z (eOk1 Z (eOk1 (af0 Z) (eOk1 Z (eOk1 Z Z))))))) ⟨(.one Z Z),(.vec Z),(EntR.mmap Z Z Z),(.one Z Z),(.one Z Z),(.one (j8 Z) (F0 Z Z (k8 fun _=>Z))),(EntR.pool Z Z),(.one Z Z),.dead,(.one (i6 Z) (F0 Z Z (i4 fun _=>Z))),.dead,.dead,Y⟩).trans (Sub.cut ⟨Z,Z,Z,Z,Z,Z,Z,Y⟩ Z ⟨.one Z,.vec,(.any (mm_ok Z)),.one Z,.one Z,(.one (j8 Z)),(.any l7),.one Z,.dead,(.one (i6 Z)),Y⟩ (eOk1 Z (eOk1 Z (eOk1 Z (eOk1 Z (eOk1 (af0 Z) (eOk1 Z (eOk1 Z Z))))))))))
    ·intro e s hq
     obtain ⟨rfl,hs⟩:=hq
     refine ⟨_,hs, ?_⟩
     refine j5 (e9 ?_)
     obtain rfl:=oi h
     refine b6 ⟨_,Z, ?_⟩
     exact (Sub.move (env':=[(5,.c (.ptr 3 0 0)),(6,.c (.map 4)),(7,.c (.ptr 7 0 0))]) (σ':=[.one (.cells 3 [(wW start goal 1 l4.length)]),.one (vec 4 d4 l4),mmap 2 2 vU i8 c56,.one (.cells 1 [[.map 2]]),.one (mapB vU vI c82),.one (pmap 6 vU c83),pool 4 b9 c84,.one (.cells 3 [[.own 8 0 c86.length,.map 5,int c85]]),.one (prow 6 c86)]) 8 9 Z Z Z ⟨Z,Z,Z,Y⟩ Z ⟨⟨Z,Z⟩,⟨Blk.im_ok _ _ _,g9 Z⟩,(r9.mmap Z Z Z),⟨Z,Z⟩,⟨Z,Z⟩,⟨j8 Z,w9 Z K1⟩,(r9.pool Z),⟨Z,Z⟩,⟨i6 Z,w9 Z K3⟩,Y⟩).trans (Sub.env ⟨Z,Z,Z,Y⟩)
   ·refine AWP.exit (e8 ?_)
    obtain rfl:=oi h
    refine e8 ⟨_,Z,Z, ?_⟩
    exact Sub.cut ⟨Z,Y⟩ Z ⟨.one Z,.vec,.dead,.dead,.one Z,Y⟩ Z
  ·intro e s hq
   obtain ⟨rfl,hs⟩:=hq
   refine ⟨_,hs, ?_⟩
   refine j5 (b6 (.q (.u (.j Z Z (.v Z Z (.nil (b6 (.ret ?_))))))))
   obtain rfl:=oi h
   exact ⟨⟨[(4,.c (.map 4))],[.one (.cells 3 [(wW start goal 1 l4.length)]),.one (vec 4 d4 l4),.dead,.dead,.one (mapB vU vI c80)]⟩,Sub.env ⟨Z,Y⟩,Done.ret Z ⟨Z,Z⟩⟩
theorem au3{t:d7}{r:Int × g8}(h:R4 t=some r):f4 prog 9 [.agg (tT t)] (.tup [.c (int r.1),.agg [int r.2.code,int r.2.index]]):=by
 unfold f4
 refine FnOk.enter (rs:=[.t 2,.cell 3 32 2]) func9 Z ntmps9 results9 Z ⟨trivial,rv _ Z,Y⟩ (by kernel_rfl) Z ?_
 unfold R4 at h
 refine AWP.q (.u (W.box Z Z Z Z Z Z (.v Z Z (W.alloc Z Z Z Z (.nil (b6 (.q ?_)))))))
 obtain ⟨fk2,hfk2,h⟩:=bind_some h
 rcases fk2 with fk2 | fk2
 ·try dsimp only at h
  refine AWP.u (W.loadAgg Z Z Z Z Z Z Z (.callF (r2:=.tup [.c (.imm (.val (.pointer none))),.c (row 1 eU32 []),.agg [int fk2.1,int fk2.2]]) (σ'':=[.one (.cells 4 [(tT t)]),.one (.cells 2 [[int 0,int 0]]),.dead,.one (.cells 2 [[int fk2.1,int fk2.2]])]) Z Z Z (FnOk.lend [] (FnOk.alt1 (ah3 hfk2)) Z Z Z Z Z Z (by exact trivial) Z (by exact trivial) Z Z (by exact ⟨(.old Z Z Z),(.old Z Z Z),.dead,(.new 1 Z Z (.one Z)),Y⟩)) (.j Z Z (.ac Z Z Z (.ac Z Z Z (.ac Z Z Z (W.alloc Z Z Z Z (.v Z Z (.v Z Z (W.storeAgg Z Z Z Z Z Z Z (.nil (b6 (.q (.q (.u (W.loadAgg Z Z Z Z Z Z Z (W.build Z Z Z Z (.neqP Z Z Z Z Z Z Z (.nil (b6 (.ab Z h (fun hc3 h=> ?_) (fun hc3 h=> ?_))))))))))))))))))))))
  ·refine AWP.q (.drawEI [2] mixed Z Z Z ?_)
   refine d6.consN Z Z (fun E=>W.loadAgg Z Z Z Z Z Z Z .N) Z (.consN Z Z (fun E=>AOps.v Z Z .N) Z ?_)
   apply d6.consE (v:=.undef); exact Z; exact Z; intro E
   refine W.storeAgg Z Z Z Z Z Z Z .N
   exact Z
   exact Z
   refine d6.done Z ?_ ?_
   ·refine c9.cons Z Z ?_ ?_
    refine b7.go Z Z (fun E=>W.loadAgg Z Z Z Z Z Z Z .N) ?_
    refine b7.skip Z (b7.nil)
    refine c9.cons Z Z ?_ ?_
    refine b7.go Z Z (fun E=>AOps.v Z Z .N) ?_
    refine b7.skip Z (b7.nil)
    refine c9.skip Z (c9.nil)
   dsimp only [j9]
   refine b6 (.ret (e7 ?_))
   obtain rfl:=oi h
   exact Done.ret Z Z
  ·cases h
 ·try dsimp only at h
  refine AWP.u (W.loadAgg Z Z Z Z Z Z Z (.callF (r2:=.tup [.c (.ptr 6 0 0),.c (row 1 eU32 fk2.2.2.2),.agg [int 0,int 0]]) (σ'':=[.one (.cells 4 [(tT t)]),.one (.cells 2 [[int 0,int 0]]),.dead,.one (.cells 2 [[int 0,int 0]]),.dead,.dead,.one (.cells 3 [[.imm (.val (.int .u32 fk2.1)),.imm (.val (.int .u32 fk2.2.1)),.own 7 0 fk2.2.2.1.length]]),.one (vec 4 d4 fk2.2.2.1)]) Z Z Z (FnOk.lend [] (FnOk.alt2 (ah3 hfk2)) Z Z Z Z Z Z (by exact trivial) Z (by exact trivial) Z Z (by exact ⟨(.old Z Z Z),(.old Z Z Z),.dead,(.new 1 Z Z (.one Z)),.dead,.dead,(.new 4 Z Z (.one Z)),(.new 5 Z Z .vec),Y⟩)) (.j Z Z (.ac Z Z Z (.ac Z Z Z (.ac Z Z Z (W.alloc Z Z Z Z (.v Z Z (.v Z Z (W.storeAgg Z Z Z Z Z Z Z (.nil (b6 (.q (.q (.u (W.loadAgg Z Z Z Z Z Z Z (W.build Z Z Z Z (.neqP Z Z Z Z Z Z Z (.nil (b6 (.ab Z h (fun hc3 h=> ?_) (fun hc3 h=> ?_))))))))))))))))))))))
  ·refine AWP.q (.drawEI [2] mixed Z Z Z ?_)
   refine d6.consN Z Z (fun E=>W.loadAgg Z Z Z Z Z Z Z .N) Z (.consN Z Z (fun E=>AOps.v Z Z .N) Z ?_)
   apply d6.consE (v:=.undef); exact Z; exact Z; intro E
   refine W.storeAgg Z Z Z Z Z Z Z .N
   exact Z
   exact Z
   refine d6.done Z ?_ ?_
   ·refine c9.cons Z Z ?_ ?_
    refine b7.go Z Z (fun E=>W.loadAgg Z Z Z Z Z Z Z .N) ?_
    refine b7.skip Z (b7.nil)
    refine c9.cons Z Z ?_ ?_
    refine b7.go Z Z (fun E=>AOps.v Z Z .N) ?_
    refine b7.skip Z (b7.nil)
    refine c9.skip Z (c9.nil)
   dsimp only [j9]
   refine b6 (.ret (e7 ?_))
   obtain rfl:=oi h
   exact Done.ret Z Z
  ·refine AWP.skip (b6 (.q ?_))
   obtain ⟨a19,ha19,a21,ha21,h⟩:=b2 h
   refine AWP.u (.j Z Z (.j Z Z (.callF (r2:=.c (.map 11)) (σ'':=[.one (.cells 4 [(tT t)]),.one (.cells 2 [[int 0,int 0]]),.dead,.one (.cells 2 [[int 0,int 0]]),.dead,.dead,.one (.cells 3 [[.imm (.val (.int .u32 fk2.1)),.imm (.val (.int .u32 fk2.2.1)),.own 7 0 fk2.2.2.1.length]]),.one (vec 4 d4 fk2.2.2.1),.one (.cells 2 [[int 0,int 0]]),.dead,.dead,.one (mapB vU vI a19)]) Z Z Z (FnOk.lend [6,7] (at5 ha19) Z Z Z Z Z Z (by exact ⟨(.one Z),.vec,Y⟩) Z (by exact ⟨(.live Z (.one Z)),(.live Z .vec),Y⟩) Z Z (by exact ⟨(.old Z Z Z),(.old Z Z Z),.dead,(.old Z Z Z),.dead,.dead,(.new 0 Z Z (.one Z)),(.new 1 Z Z .vec),(.old Z Z Z),.dead,.dead,(.new 4 Z Z (.one Z)),Y⟩)) (.j Z Z (.callF (r2:=.c (.imm (.val (.int .u32 fk2.1)))) (σ'':=[.one (.cells 4 [(tT t)]),.one (.cells 2 [[int 0,int 0]]),.dead,.one (.cells 2 [[int 0,int 0]]),.dead,.dead,.one (.cells 3 [[.imm (.val (.int .u32 fk2.1)),.imm (.val (.int .u32 fk2.2.1)),.own 7 0 fk2.2.2.1.length]]),.one (vec 4 d4 fk2.2.2.1),.one (.cells 2 [[int 0,int 0]]),.dead,.dead,.one (mapB vU vI a19)]) Z Z Z (FnOk.lend [6,7] (O6 ha21) Z Z Z Z Z Z (by exact ⟨(.one Z),.vec,Y⟩) Z (by exact ⟨(.live Z (.one Z)),(.live Z .vec),Y⟩) Z Z (by exact ⟨(.old Z Z Z),(.old Z Z Z),.dead,(.old Z Z Z),.dead,.dead,(.new 0 Z Z (.one Z)),(.new 1 Z Z .vec),(.old Z Z Z),.dead,.dead,(.old Z Z Z),Y⟩)) (W.lookup (fk:=vU) (fv:=vI) (k:=fk2.1) (z:=0) G0 Z (fun _=>Z) Z Z Z Z ?_))))))
   refine W.build Z Z Z Z (.v Z Z (W.storeAgg Z Z Z Z Z Z Z (.nil (b6 (.ret ?_)))))
   obtain rfl:=oi h
   exact Done.ret Z Z
theorem ao9{r:d7}(h:X7=some r):f4 prog 32 [] (.agg (tT r)):=by
 unfold f4
 refine FnOk.enter (rs:=[.cell 0 37 4]) func32 Z ntmps32 results32 Z ⟨rv _ Z,Y⟩ (by kernel_rfl) Z ?_
 unfold X7 at h
 refine AWP.q (.u (W.alloc Z Z Z Z (.nil (b6 (.q (.u (S.lit (f:=intI) (l:=[0]) (ess:=[[int 0]]) Z Z Z Z Z Z Z ⟨⟨.inl Z,Y⟩,Y⟩ Z Z Z (S.lit (f:=intI) (l:=[0]) (ess:=[[int 0]]) Z Z Z Z Z Z Z ⟨⟨.inl Z,Y⟩,Y⟩ Z Z Z (W.build Z Z Z Z (.frzV (id:=2) (l:=[0]) (env2:=[(0,.c (.ptr 0 0 0)),(1,.c (.own 1 0 ([0].length))),(3,.agg [.imm (.val nL),row 1 intI [0],.imm (.val nL),int 2])]) (σ2:=[.one (.cells 4 [[int 0,.imm (.val nL),.imm (.val nL),.imm (.val nL)]]),.one (vec 1 intI [0]),.dead]) Z Z (by exact ⟨⟨_,Z,.inl ⟨Z,Z⟩⟩,⟨_,Z,.inl ⟨Z,Z⟩⟩,⟨_,Z,⟨.inl ⟨Z,Z⟩,.inr ⟨_,Z,Z,Z⟩,.inl ⟨Z,Z⟩,.inl ⟨Z,Z⟩,Y⟩⟩,Y⟩) Z (by exact ⟨⟨Z,.inl ⟨Z,Z⟩,.inl ⟨Z,Z⟩,.inl ⟨Z,Z⟩,.inl ⟨Z,Z⟩,Y⟩,FrzB.vec,trivial,Y⟩) (S.lit (f:=f8) (l:=[(⟨[],[0],[],2⟩:f9)]) (ess:=[[.imm (.val nL),row 1 intI [0],.imm (.val nL),int 2]]) Z Z Z Z Z Z Z ⟨⟨.inr ⟨Z,_,Z⟩,.inl Z,.inr ⟨Z,_,Z⟩,.inl Z,Y⟩,Y⟩ Z Z Z (W.build Z Z Z Z (W.storeAgg Z Z Z Z Z Z Z (.nil (b6 (.frzV (id:=1) (l:=[0]) (env2:=[(0,.c (.ptr 0 0 0))]) (σ2:=[.one (.cells 4 [[int 1,.imm (.val nL),row 1 intI [0],.own 3 0 (([(⟨[],[0],[],2⟩:f9)]).length)]]),.dead,.dead,.one (vec 4 f8 ([(⟨[],[0],[],2⟩:f9)]))]) Z Z (by exact ⟨⟨_,Z,.inl ⟨Z,Z⟩⟩,Y⟩) Z (by exact ⟨⟨Z,.inl ⟨Z,Z⟩,.inl ⟨Z,Z⟩,.inr ⟨_,Z,Z,Z⟩,.inl ⟨Z,Z⟩,Y⟩,trivial,trivial,FrzB.vec,Y⟩) (.frzV (id:=3) (l:=[(⟨[],[0],[],2⟩:f9)]) (env2:=[(0,.c (.ptr 0 0 0))]) (σ2:=[.one (.cells 4 [[int 1,.imm (.val nL),row 1 intI [0],row 4 f8 ([(⟨[],[0],[],2⟩:f9)])]]),.dead,.dead,.dead]) Z Z (by exact ⟨⟨_,Z,.inl ⟨Z,Z⟩⟩,Y⟩) Z (by exact ⟨⟨Z,.inl ⟨Z,Z⟩,.inl ⟨Z,Z⟩,.inl ⟨Z,Z⟩,.inr ⟨_,Z,Z,Z⟩,Y⟩,trivial,trivial,trivial,Y⟩) (.nilB (b:=0) [int 1,row 1 intI [],row 1 intI [0],row 4 f8 ([(⟨[],[0],[],2⟩:f9)])] Z (by exact ⟨.inl Z,.inr ⟨Z,_,Z⟩,.inl Z,.inl Z,Y⟩) Z Z (.ret ?_)))))))))))))))))))
 obtain rfl:=oi h
 exact Done.ret Z Z
theorem an9{t:d7}{unknown:List Int}{r:g8}(h:F9 t unknown=some r):f4 prog 70 [.agg (tT t),.c (row 1 intI unknown)] (.agg [int r.code,int r.index]):=by
 unfold f4
 refine FnOk.enter (rs:=[.cell 4 32 2]) func70 Z ntmps70 results70 Z ⟨rv _ Z,Y⟩ (by kernel_rfl) Z ?_
 unfold F9 at h
 refine AWP.q (.u (W.box Z Z Z Z Z Z (W.alloc Z Z Z Z (.nil (b6 (.q (.q ?_)))))))
 obtain ⟨a7,ha7,h⟩:=bind_some h
 refine AWP.u (W.loadAgg Z Z Z Z Z Z Z (.O Z Z Z Z (C9 ha7) Z (W.alloc Z Z Z Z (W.storeAgg Z Z Z Z Z Z Z (.nil (b6 (.q (.u (W.loadAgg Z Z Z Z Z Z Z (W.build Z Z Z Z (.neqP Z Z Z Z Z Z Z (.nil (b6 (.ab Z h (fun hc3 h=> ?_) (fun hc3 h=> ?_)))))))))))))))
 ·refine AWP.q (.u (W.loadAgg Z Z Z Z Z Z Z (W.storeAgg Z Z Z Z Z Z Z (.nil (b6 (.ret (e7 ?_)))))))
  obtain rfl:=oi h
  exact Done.ret Z Z
 ·refine AWP.skip (b6 (.q (.J (.q (.u (.j Z Z (S.len Z Z (fun hl14=>.gtr Z Z Z (.v Z Z (.nil (b6 (.ite Z h (fun hc4 h=> ?_) (fun hc4 h=> ?_)))))))))))))
  ·refine AWP.q (.u (W.build Z Z Z Z (W.storeAgg Z Z Z Z Z Z Z (.nil (b6 (.ret (i9 (e7 ?_))))))))
   obtain rfl:=oi h
   exact Done.ret Z Z
  ·refine AWP.q ?_
   obtain ⟨a21,ha21,h⟩:=bind_some h
   refine AWP.u (.j Z Z (W.fieldAddr Z Z Z Z (.E Z Z Z Z Z Z (.O Z Z Z Z (r8 ha21) Z (.not Z Z (.v Z Z (.nil (b6 (.ab Z h (fun hc5 h=> ?_) (fun hc5 h=> ?_))))))))))
   ·refine AWP.q (.u (W.build Z Z Z Z (W.storeAgg Z Z Z Z Z Z Z (.nil (b6 (.ret (i9 (e7 ?_))))))))
    obtain rfl:=oi h
    exact Done.ret Z Z
   ·refine AWP.skip (e9 (b6 (.q (.u (W.build Z Z Z Z (W.storeAgg Z Z Z Z Z Z Z (.nil (b6 (.ret ?_)))))))))
    obtain rfl:=oi h
    exact Done.ret Z Z
theorem at8{sv:List Int}{c2:List Int}{r:Bool}(h:X9 sv c2=some r):f4 prog 113 [.c (row 1 intI sv),.c (.imm (.ipt [.sl 1 (List.map intI c2)]))] (.c (bool r)):=by
 unfold f4
 refine FnOk.enter (rs:=[.t 3]) func113 Z ntmps113 results113 Z ⟨trivial,Y⟩ (by kernel_rfl) Z ?_
 unfold X9 at h
 refine AWP.q (.u (.v Z Z (.nil (b6 (.q ?_)))))
 obtain ⟨a6,ha6,h⟩:=bind_some h
 refine AWP.u (.j Z Z (.ad Z Z Z Z (.O Z Z Z Z (N1 ha6) Z (.not Z Z (.v Z Z (.nil (b6 (.ret ?_))))))))
 obtain rfl:=oi h
 exact Done.ret Z Z
theorem P9{worlds:List (List Int)}{facts:List Int}{r:Bool}(h:K0 worlds facts=some r):f4 prog 77 [.c (row 1 d5 worlds),.c (row 1 intI facts)] (.c (bool r)):=by
 unfold f4
 refine FnOk.enter (rs:=[.t 4]) func77 Z ntmps77 results77 Z ⟨trivial,Y⟩ (by kernel_rfl) Z ?_
 unfold K0 at h
 refine AWP.q (.u (W.box Z Z Z Z Z Z (.v Z Z (.nil (b6 (.q ?_))))))
 obtain ⟨a7,ha7,h⟩:=bind_some h
 refine AWP.u (.j Z Z (.makeFunc Z Z (.callL Z Z (.cons (.c .imm) (.cons (.c (.fn (.cons (.ptr (es:=[.sl 1 (List.map intI facts)]) Z Z (.cons .imm .nil)) .nil))) .nil)) Z (ae8 Z (fun hy=>at8 hy) ha7) Z ?_)))
 refine AOps.not Z Z (.v Z Z (.nil (b6 (.ret ?_))))
 obtain rfl:=oi h
 exact Done.ret Z Z
theorem V8{t:d7}{sv:List Int}{op:Int}{r:(List Int)}(h:O7 t sv op=some r):m5 prog 93 [.agg (tT t),.c (row 1 intI sv),.c (int op)] 1 (List.map intI r):=by
 unfold m5
 refine FnOk.enter (rs:=[.t 6]) func93 Z ntmps93 results93 Z ⟨trivial,Y⟩ (by kernel_rfl) Z ?_
 unfold O7 at h
 refine AWP.q (.u (W.box Z Z Z Z Z Z (.v Z Z (.nil (b6 (.q ?_))))))
 obtain ⟨a11,ha11,h⟩:=bind_some h
 refine AWP.u (W.fieldAddr Z Z Z Z (.E Z Z Z Z Z Z (.j Z Z (S.idx ha11 Z Z Z Z (W.loadIAgg Z Z Z Z Z (W.alloc Z Z Z Z (W.storeAgg Z Z Z Z Z Z Z (.nil (b6 (.q ?_))))))))))
 obtain ⟨a18,ha18,h⟩:=bind_some h
 refine AWP.u (.j Z Z (W.fieldAddr Z Z Z Z (.E Z Z Z Z Z Z (W.fieldAddr Z Z Z Z (.E Z Z Z Z Z Z (S.fresh Z Z Z Z (ab4 ha18) Z Z (.v Z Z (.nil (b6 (.ret ?_))))))))))
 obtain rfl:=oi h
 exact Done.ret Z (Fresh.mk Z Z)
theorem an1{t:d7}{worlds:List (List Int)}{op:Int}{r:(List (List Int))}(h:H1 t worlds op=some r):m5 prog 141 [.agg (tT t),.c (row 1 d5 worlds),.c (int op)] 1 (List.map d5 r):=by
 unfold m5
 refine FnOk.enter (rs:=[.t 6]) func141 Z ntmps141 results141 Z ⟨trivial,Y⟩ (by kernel_rfl) Z ?_
 unfold H1 at h
 refine AWP.q (.u (W.box Z Z Z Z Z Z (.v Z Z (.nil (b6 (.q (.u (.v Z Z (.nil (b6 (.q (.q (.u (.j Z Z (S.len Z Z (fun hl11=>.j Z Z (.nil (b6 (.J (.virtV 1 d5 7 Z Z Z ?_))))))))))))))))))))
 obtain ⟨c4,ho1,h⟩:=bind_some h
 refine AWP.forS ho1 (fun t5 c4=>⟨[(2,.c (int op)),(3,.c (.ptr 0 0 0)),(7,.c (.own 1 0 c4.length)),(10,.c (row 1 d5 worlds)),(11,.c (int (worlds.length:Int))),(12,.c (int t5))],[.one (.cells 4 [(tT t)]),.one (vec 1 d5 c4)]⟩) (fun c4 e st=>e=.exit 0∧Sub [] st ⟨[(7,.c (.own 1 0 c4.length))],[.one (.cells 4 [(tT t)]),.one (vec 1 d5 c4)]⟩) ?_ ?_ ?_ ?_
 ·try dsimp only
  exact Sub.env ⟨Z,Z,(I5 (by first | rfl | simp only [List.length_set])),Z,Z,Z,Y⟩
 ·intro t5 c4 hlot5 hltt5 _
  try dsimp only
  refine AWP.q (.u (.F Z Z Z (.nil (b6 (.q (.ae Z hltt5 (.exit (e8 (e8 ⟨Z, ?_⟩)))))))))
  exact Sub.env ⟨Z,Y⟩
 ·intro t5 c4 o hlot5 hltt5 h
  unfold N8 at h
  try dsimp only at h ⊢
  refine AWP.q (.u (.F Z Z Z (.nil (b6 (.q (.af Z hltt5 (.skip (b6 (.q (.J (.q ?_)))))))))))
  obtain ⟨a14,ha14,h⟩:=bind_some h
  refine AWP.u (S.idx ha14 Z Z Z Z (.ad Z Z Z Z (.v Z Z (.nil (b6 ?_)))))
  obtain ⟨a20,ha20,a22,ha22,h⟩:=b2 h
  refine AWP.u (.j Z Z (W.loadAgg Z Z Z Z Z Z Z (.j Z Z (.j Z Z (S.fresh Z Z Z Z (V8 ha20) Z Z (.frzV (id:=2) (l:=a20) (env2:=[(2,.c (int op)),(3,.c (.ptr 0 0 0)),(10,.c (row 1 d5 worlds)),(11,.c (int (worlds.length:Int))),(12,.c (int t5)),(16,.c (.own 1 0 c4.length)),(20,.c (row 1 intI a20))]) (σ2:=[.one (.cells 4 [(tT t)]),.one (vec 1 d5 c4),.dead]) Z Z (by exact ⟨⟨_,Z,.inl ⟨Z,Z⟩⟩,⟨_,Z,.inl ⟨Z,Z⟩⟩,⟨_,Z,.inl ⟨Z,Z⟩⟩,⟨_,Z,.inl ⟨Z,Z⟩⟩,⟨_,Z,.inl ⟨Z,Z⟩⟩,⟨_,Z,.inl ⟨Z,Z⟩⟩,⟨_,Z,.inr ⟨_,Z,Z,Z⟩⟩,Y⟩) Z (by exact ⟨⟨Z,.inl ⟨Z,Z⟩,.inl ⟨Z,Z⟩,.inl ⟨Z,Z⟩,.inl ⟨Z,Z⟩,Y⟩,FrzB.vec,trivial,Y⟩) (S.lit (f:=d5) (l:=[a20]) (ess:=[[row 1 intI a20]]) Z Z Z Z Z Z Z ⟨⟨.inl Z,Y⟩,Y⟩ Z Z Z (S.append (f:=d5) ha22 Z Z Z Z Z Z (.own Z Z) Z Z Z Z (.v Z Z (.nil (e9 (b6 (.j (env':=[(2,.c (int op)),(3,.c (.ptr 0 0 0)),(7,.c (.own 1 0 a22.length)),(10,.c (row 1 d5 worlds)),(11,.c (int (worlds.length:Int))),(12,.c (int t5))]) (σ':=[.one (.cells 4 [(tT t)]),.one (vec 1 d5 a22),.dead,.one (vec 1 d5 [a20])]) 1 4 Z Z Z ⟨Z,Z,Z,Z,Z,Z,Y⟩ Z ⟨⟨Z,Z⟩,⟨Blk.im_ok _ _ _,g9 Z⟩,trivial,⟨Blk.im_ok _ _ _,g9 Z⟩,Y⟩ (.u (.add Z Z Z (by omega) (.j Z Z (.nil ?_)))))))))))))))))
  obtain rfl:=oi h
  refine b6 (Sub.cut ⟨Z,Z,Z,Z,Z,Z,Y⟩ Z ⟨.one Z,.vec,Y⟩ Z)
 ·intro e s hq
  obtain ⟨rfl,hs⟩:=hq
  refine ⟨_,hs, ?_⟩
  refine j5 (b6 (.q ?_))
  obtain ⟨a25,ha25,h⟩:=bind_some h
  refine AWP.u (.j Z Z (.callF (r2:=.c (.own 3 0 a25.length)) (σ'':=[.one (.cells 4 [(tT t)]),.dead,.dead,.one (vec 1 d5 a25)]) Z Z Z (FnOk.lend [1] (ag4 ha25) Z Z Z Z Z Z (by exact ⟨.vec,Y⟩) Z (by exact ⟨(.live Z .vec),Y⟩) Z Z (by exact ⟨(.old Z Z Z),.dead,.dead,(.new 2 Z Z .vec),Y⟩)) (.v Z Z (.nil (b6 (.ret ?_))))))
  obtain rfl:=oi h
  exact Done.ret Z (Fresh.mk Z Z)
theorem ao1{t:d7}{worlds:List (List Int)}{r:Unit}(h:G1 t worlds=some r):FnOk prog 109 [.agg (tT t),.c (row 1 d5 worlds)] (an8 t worlds) (fun tt ss=>tt=.c (.fn 140 [.ptr 0 0 0,.ptr 1 0 0])∧ss=[.one (.cells 4 [(tT t)]),.one (.cells 1 [[row 1 d5 worlds]])]):=by
 refine FnOk.enter (rs:=[.t 4]) func109 Z ntmps109 results109 Z ⟨trivial,Y⟩ (by kernel_rfl) Z ?_
 refine AWP.weak ?_
 unfold G1 at h
 refine AWP.q (.u (W.box Z Z Z Z Z Z (W.box Z Z Z Z Z Z (.v Z Z (.nil (b6 (.q (.u (.makeFunc Z Z (.v Z Z (.nil (b6 (.ret ?_)))))))))))))
 obtain rfl:=oi h
 exact ⟨⟨[(4,.c (.fn 140 [.ptr 0 0 0,.ptr 1 0 0]))],[.one (.cells 4 [(tT t)]),.one (.cells 1 [[row 1 d5 worlds]])]⟩,Sub.env ⟨Z,Y⟩,Done.ret Z ⟨Z,Z⟩⟩
theorem ak1{t:d7}{unknown:List Int}{r:(List (List Int))}(h:M3 t unknown=some r):m5 prog 73 [.agg (tT t),.c (row 1 intI unknown)] 1 (List.map d5 r):=by
 unfold m5
 refine FnOk.enter (rs:=[.t 4]) func73 Z ntmps73 results73 Z ⟨trivial,Y⟩ (by kernel_rfl) Z ?_
 unfold M3 at h
 refine AWP.q (.u (W.box Z Z Z Z Z Z (.v Z Z (.nil (b6 (.q (.u (.v Z Z (.nil (b6 (.q (.q ?_))))))))))))
 obtain ⟨u12,hu12,h⟩:=bind_some h
 refine AWP.u (.j Z Z (S.len Z Z (fun hl11=>S.shl hu12 Z Z Z (.j Z Z (.nil (b6 (.J (.virtV 1 d5 5 Z Z Z ?_))))))))
 obtain ⟨hnt4,h⟩:=ite_none h
 obtain ⟨c3,ho1,h⟩:=bind_some h
 refine AWP.forS ho1 (fun t4 c3=>⟨[(1,.c (row 1 intI unknown)),(2,.c (.ptr 0 0 0)),(5,.c (.own 1 0 c3.length)),(12,.c (int (shlW .i64 1 (unknown.length:Int)))),(13,.c (int t4))],[.one (.cells 4 [(tT t)]),.one (vec 1 d5 c3)]⟩) (fun c3 e st=>e=.exit 0∧Sub [] st ⟨[(5,.c (.own 1 0 c3.length))],[.one (.cells 4 [(tT t)]),.one (vec 1 d5 c3)]⟩) ?_ ?_ ?_ ?_
 ·try dsimp only
  exact Sub.env ⟨Z,Z,(I5 (by first | rfl | simp only [List.length_set])),Z,Z,Y⟩
 ·intro t4 c3 hlot4 hltt4 _
  try dsimp only
  refine AWP.q (.u (.F Z Z Z (.nil (b6 (.q (.ae Z hltt4 (.exit (e8 (e8 ⟨Z, ?_⟩)))))))))
  exact Sub.env ⟨Z,Y⟩
 ·intro t4 c3 o hlot4 hltt4 h
  unfold K4 at h
  try dsimp only at h ⊢
  refine AWP.q (.u (.F Z Z Z (.nil (b6 (.q (.af Z hltt4 (.skip (b6 (.q (.J (.q (.u (.j Z Z (.v Z Z (.nil (b6 (.q (.u (.v Z Z (.nil (b6 (.q (.q (.u (.j Z Z (S.len Z Z (fun hl17=>.j Z Z (.nil (b6 (.J (.virtV 1 intI 7 Z Z Z ?_)))))))))))))))))))))))))))))))
  obtain ⟨c5,ho2,h⟩:=bind_some h
  refine AWP.forS ho2 (fun t6 c5=>⟨[(1,.c (row 1 intI unknown)),(2,.c (.ptr 0 0 0)),(5,.c (.own 1 0 c3.length)),(6,.c (int t4)),(7,.c (.own 2 0 c5.length)),(12,.c (int (shlW .i64 1 (unknown.length:Int)))),(13,.c (int t4)),(16,.c (row 1 intI unknown)),(17,.c (int (unknown.length:Int))),(18,.c (int t6))],[.one (.cells 4 [(tT t)]),.one (vec 1 d5 c3),.one (vec 1 intI c5)]⟩) (fun c5 e st=>e=.exit 2∧Sub [] st ⟨[(1,.c (row 1 intI unknown)),(2,.c (.ptr 0 0 0)),(5,.c (.own 1 0 c3.length)),(7,.c (.own 2 0 c5.length)),(12,.c (int (shlW .i64 1 (unknown.length:Int)))),(13,.c (int t4))],[.one (.cells 4 [(tT t)]),.one (vec 1 d5 c3),.one (vec 1 intI c5)]⟩) ?_ ?_ ?_ ?_
  ·try dsimp only
   exact Sub.env ⟨Z,Z,Z,Z,(I5 (by first | rfl | simp only [List.length_set])),Z,Z,Z,Z,Z,Y⟩
  ·intro t6 c5 hlot6 hltt6 _
   try dsimp only
   refine AWP.q (.u (.F Z Z Z (.nil (b6 (.q (.ae Z hltt6 (.exit (e8 (e8 ⟨Z, ?_⟩)))))))))
   exact Sub.env ⟨Z,Z,Z,Z,Z,Z,Y⟩
  ·intro t6 c5 o hlot6 hltt6 h
   unfold Y7 at h
   try dsimp only at h ⊢
   refine AWP.q (.u (.F Z Z Z (.nil (b6 (.q (.af Z hltt6 (.skip (b6 ?_))))))))
   obtain ⟨c7,hx8,h⟩:=bind_some h
   refine AWP.seqJ (⟨[(1,.c (row 1 intI unknown)),(2,.c (.ptr 0 0 0)),(5,.c (.own 1 0 c3.length)),(6,.c (int t4)),(7,.c (.own 4 0 c7.length)),(12,.c (int (shlW .i64 1 (unknown.length:Int)))),(13,.c (int t4)),(16,.c (row 1 intI unknown)),(17,.c (int (unknown.length:Int))),(18,.c (int t6))],[.one (.cells 4 [(tT t)]),.one (vec 1 d5 c3),.dead,.dead,.one (vec 1 intI c7)]⟩) ?_ ?_
   ·refine AWP.J (.q ?_)
    obtain ⟨a21,ha21,hx8⟩:=bind_some hx8
    refine AWP.u (.j Z Z (S.idx ha21 Z Z Z Z (.ad Z Z Z Z (.v Z Z (.v Z Z (.nil (b6 (.q (.u (.j Z Z (.j Z Z (.shr Z Z Z (by first | decide | omega) Z (.bits Z Z Z (by simp) (.eql Z Z Z (.nil (b6 (.ite Z hx8 (fun hc9 hx8=> ?_) (fun hc9 hx8=> ?_))))))))))))))))))
    ·obtain ⟨a31,ha31,hx8⟩:=bind_some hx8
     refine AWP.u (.j Z Z (.j Z Z (S.lit (f:=intI) (l:=[a21]) (ess:=[[int a21]]) Z Z Z Z Z Z Z ⟨⟨.inl Z,Y⟩,Y⟩ Z Z Z (S.append (f:=intI) ha31 Z Z Z Z Z Z (.own Z Z) Z Z Z Z (.v Z Z (.nil (e9 ?_)))))))
     obtain rfl:=oi hx8
     refine b6 (Sub.cut ⟨Z,Z,Z,Z,Z,Z,Z,Z,Z,Z,Y⟩ Z ⟨.one Z,.vec,.dead,.dead,.vec,Y⟩ Z)
    ·refine AWP.skip (e9 ?_)
     obtain rfl:=oi hx8
     refine b6 ((Sub.move (env':=[(1,.c (row 1 intI unknown)),(2,.c (.ptr 0 0 0)),(5,.c (.own 1 0 c3.length)),(6,.c (int t4)),(7,.c (.own 4 0 c5.length)),(12,.c (int (shlW .i64 1 (unknown.length:Int)))),(13,.c (int t4)),(16,.c (row 1 intI unknown)),(17,.c (int (unknown.length:Int))),(18,.c (int t6))]) (σ':=[.one (.cells 4 [(tT t)]),.one (vec 1 d5 c3),.dead,.dead,.one (vec 1 intI c5)]) 4 2 Z Z Z ⟨Z,Z,Z,Z,Z,Z,Z,Z,Z,Z,Y⟩ Z ⟨⟨Z,Z⟩,⟨Blk.im_ok _ _ _,g9 Z⟩,trivial,trivial,⟨Blk.im_ok _ _ _,g9 Z⟩,Y⟩).trans (Sub.env ⟨Z,Z,Z,Z,Z,Z,Z,Z,Z,Z,Y⟩))
   ·refine AWP.u (.add Z Z Z (by omega) (.j Z Z (.nil ?_)))
    obtain rfl:=oi h
    refine b6 ((Sub.move (env':=[(1,.c (row 1 intI unknown)),(2,.c (.ptr 0 0 0)),(5,.c (.own 1 0 c3.length)),(6,.c (int t4)),(7,.c (.own 2 0 c7.length)),(12,.c (int (shlW .i64 1 (unknown.length:Int)))),(13,.c (int t4)),(16,.c (row 1 intI unknown)),(17,.c (int (unknown.length:Int))),(18,.c (int (t6+1)))]) (σ':=[.one (.cells 4 [(tT t)]),.one (vec 1 d5 c3),.one (vec 1 intI c7),.dead]) 2 4 Z Z Z ⟨Z,Z,Z,Z,Z,Z,Z,Z,Z,Z,Y⟩ Z ⟨⟨Z,Z⟩,⟨Blk.im_ok _ _ _,g9 Z⟩,⟨Blk.im_ok _ _ _,g9 Z⟩,trivial,Y⟩).trans (Sub.cut ⟨Z,Z,Z,Z,Z,Z,Z,Z,Z,Z,Y⟩ Z ⟨.one Z,.vec,.vec,Y⟩ Z))
  ·intro e s hq
   obtain ⟨rfl,hs⟩:=hq
   refine ⟨_,hs, ?_⟩
   refine j5 (b6 ?_)
   obtain ⟨a38,ha38,a40,ha40,h⟩:=b2 h
   refine AWP.u (.j Z Z (W.fieldAddr Z Z Z Z (.E Z Z Z Z Z Z (.j Z Z (.j Z Z (S.freshL (fun _=>Z) Z Z (.cons (.c .imm) (.cons (.c (.own Z Z)) (.cons (.c .imm) .nil))) Z (ab4 ha38) Z Z ?_))))))
   refine AOps.frzV (id:=3) (l:=a38) (env2:=[(1,.c (row 1 intI unknown)),(2,.c (.ptr 0 0 0)),(12,.c (int (shlW .i64 1 (unknown.length:Int)))),(13,.c (int t4)),(33,.c (.own 1 0 c3.length)),(38,.c (row 1 intI a38))]) (σ2:=[.one (.cells 4 [(tT t)]),.one (vec 1 d5 c3),.one (vec 1 intI c5),.dead]) Z Z (by exact ⟨⟨_,Z,.inl ⟨Z,Z⟩⟩,⟨_,Z,.inl ⟨Z,Z⟩⟩,⟨_,Z,.inl ⟨Z,Z⟩⟩,⟨_,Z,.inl ⟨Z,Z⟩⟩,⟨_,Z,.inl ⟨Z,Z⟩⟩,⟨_,Z,.inr ⟨_,Z,Z,Z⟩⟩,Y⟩) Z (by exact ⟨⟨Z,.inl ⟨Z,Z⟩,.inl ⟨Z,Z⟩,.inl ⟨Z,Z⟩,.inl ⟨Z,Z⟩,Y⟩,FrzB.vec,FrzB.vec,trivial,Y⟩) (S.lit (f:=d5) (l:=[a38]) (ess:=[[row 1 intI a38]]) Z Z Z Z Z Z Z ⟨⟨.inl Z,Y⟩,Y⟩ Z Z Z (S.append (f:=d5) ha40 Z Z Z Z Z Z (.own Z Z) Z Z Z Z (.v Z Z (.nil (e9 (b6 (.j (env':=[(1,.c (row 1 intI unknown)),(2,.c (.ptr 0 0 0)),(5,.c (.own 1 0 a40.length)),(12,.c (int (shlW .i64 1 (unknown.length:Int)))),(13,.c (int t4))]) (σ':=[.one (.cells 4 [(tT t)]),.one (vec 1 d5 a40),.one (vec 1 intI c5),.dead,.one (vec 1 d5 [a38])]) 1 5 Z Z Z ⟨Z,Z,Z,Z,Z,Y⟩ Z ⟨⟨Z,Z⟩,⟨Blk.im_ok _ _ _,g9 Z⟩,⟨Blk.im_ok _ _ _,g9 Z⟩,trivial,⟨Blk.im_ok _ _ _,g9 Z⟩,Y⟩ (.u (.add Z Z Z (by omega) (.j Z Z (.nil ?_)))))))))))
   obtain rfl:=oi h
   refine b6 (Sub.cut ⟨Z,Z,Z,Z,Z,Y⟩ Z ⟨.one Z,.vec,Y⟩ Z)
 ·intro e s hq
  obtain ⟨rfl,hs⟩:=hq
  refine ⟨_,hs, ?_⟩
  refine j5 (b6 (.q ?_))
  obtain ⟨a43,ha43,h⟩:=bind_some h
  refine AWP.u (.j Z Z (.callF (r2:=.c (.own 3 0 a43.length)) (σ'':=[.one (.cells 4 [(tT t)]),.dead,.dead,.one (vec 1 d5 a43)]) Z Z Z (FnOk.lend [1] (ag4 ha43) Z Z Z Z Z Z (by exact ⟨.vec,Y⟩) Z (by exact ⟨(.live Z .vec),Y⟩) Z Z (by exact ⟨(.old Z Z Z),.dead,.dead,(.new 2 Z Z .vec),Y⟩)) (.v Z Z (.nil (b6 (.ret ?_))))))
  obtain rfl:=oi h
  exact Done.ret Z (Fresh.mk Z Z)
theorem ao4{v:List (List Int)}{r:Bool}(h:M7 v=some r):f4 prog 110 [.c (row 1 d5 v)] (.c (bool r)):=by
 unfold f4
 refine FnOk.enter (rs:=[.t 2]) func110 Z ntmps110 results110 Z ⟨trivial,Y⟩ (by kernel_rfl) Z ?_
 unfold M7 at h
 refine AWP.q (.u (.v Z Z (.nil (b6 (.q (.u (.v Z Z (.nil (b6 (.ret ?_))))))))))
 obtain rfl:=oi h
 exact Done.ret Z Z
theorem au0{w:List (List Int)}{c2:d7}{r:Bool}(h:I7 w c2=some r):f4 prog 76 [.c (row 1 d5 w),.c (.imm (.ipt [.val (.int .i64 c2.facts),.sl 1 (List.map intI c2.init),.sl 1 (List.map intI c2.goal),.sl 4 (List.map f8 c2.operators)]))] (.c (bool r)):=by
 unfold f4
 refine FnOk.enter (rs:=[.t 3]) func76 Z ntmps76 results76 Z ⟨trivial,Y⟩ (by kernel_rfl) Z ?_
 unfold I7 at h
 refine AWP.q (.u (.v Z Z (.nil (b6 (.q ?_)))))
 obtain ⟨a7,ha7,h⟩:=bind_some h
 refine AWP.u (.j Z Z (W.fieldAddrI Z Z Z Z (.ad Z Z Z Z (.O Z Z Z Z (P9 ha7) Z (.v Z Z (.nil (b6 (.ret ?_))))))))
 obtain rfl:=oi h
 exact Done.ret Z Z
theorem au9{t:d7}{r:Unit}(h:Y2 t=some r):FnOk prog 71 [.agg (tT t)] (at9 t) (fun tt ss=>tt=.c (.fn 108 [.ptr 0 0 0])∧ss=[.one (.cells 4 [(tT t)])]):=by
 refine FnOk.enter (rs:=[.t 2]) func71 Z ntmps71 results71 Z ⟨trivial,Y⟩ (by kernel_rfl) Z ?_
 refine AWP.weak ?_
 unfold Y2 at h
 refine AWP.q (.u (W.box Z Z Z Z Z Z (.v Z Z (.nil (b6 (.q (.u (.makeFunc Z Z (.v Z Z (.nil (b6 (.ret ?_))))))))))))
 obtain rfl:=oi h
 exact ⟨⟨[(2,.c (.fn 108 [.ptr 0 0 0]))],[.one (.cells 4 [(tT t)])]⟩,Sub.env ⟨Z,Y⟩,Done.ret Z ⟨Z,Z⟩⟩
theorem ag2{worlds:List (List Int)}{Facts:Int}{Init:List Int}{Goal:List Int}{Operators:List f9}{r:Unit}(h:H3 worlds Facts Init Goal Operators=some r):FnOk prog 108 [.c (row 1 d5 worlds),.c (.ptr 0 0 0)] (ar8 worlds Facts Init Goal Operators) (fun tt ss=>tt=.c (.fn 140 [.ptr 1 0 0,.ptr 2 0 0])∧ss=[.one (.cells 4 [(tF Facts Init Goal Operators)]),.one (.cells 4 [(tF Facts Init Goal Operators)]),.one (.cells 1 [[row 1 d5 worlds]])]):=by
 refine FnOk.enter (rs:=[.t 3]) func108 Z ntmps108 results108 Z ⟨trivial,Y⟩ (by kernel_rfl) Z ?_
 refine AWP.weak ?_
 unfold H3 at h
 refine AWP.q (.u (.v Z Z (.nil (b6 (.q ?_)))))
 obtain ⟨a6,ha6,h⟩:=bind_some h
 refine AWP.u (W.loadAgg Z Z Z Z Z Z Z (.j Z Z (.callF (r2:=.c (.fn 140 [.ptr 1 0 0,.ptr 2 0 0])) (σ'':=[.one (.cells 4 [(tF Facts Init Goal Operators)]),.one (.cells 4 [(tF Facts Init Goal Operators)]),.one (.cells 1 [[row 1 d5 worlds]])]) Z Z Z (FnOk.lend [] (ao1 ha6) Z Z Z Z Z Z (by exact trivial) Z (by exact trivial) Z Z (by exact ⟨(.old Z Z Z),(.new 0 Z Z (.one Z)),(.new 1 Z Z (.one Z)),Y⟩)) (.v Z Z (.nil (b6 (.ret ?_)))))))
 obtain rfl:=oi h
 exact ⟨⟨[(3,.c (.fn 140 [.ptr 1 0 0,.ptr 2 0 0]))],[.one (.cells 4 [(tF Facts Init Goal Operators)]),.one (.cells 4 [(tF Facts Init Goal Operators)]),.one (.cells 1 [[row 1 d5 worlds]])]⟩,Sub.env ⟨Z,Y⟩,Done.ret Z ⟨Z,Z⟩⟩
theorem am3{start:List (List Int)}{Facts:Int}{Init:List Int}{Goal:List Int}{Operators:List f9}{r:(List Int) × Bool × Bool}(h:J5 start Facts Init Goal Operators=some r):FnOk prog 75 [.c (row 1 d5 start),.c (.fn 74 []),.c (.fn 108 [.ptr 0 0 0]),.c (.fn 110 [])] (F7 start Facts Init Goal Operators) (fun tt ss=>tt=.tup [.c (row 1 intI r.1),.c (bool r.2.1),.c (bool r.2.2)]∧ss=[.one (.cells 4 [(tF Facts Init Goal Operators)]),.dead,.one (.cells 1 [[row 1 intI r.1]]),.one (.cells 1 [[bool r.2.1]]),.one (.cells 1 [[bool r.2.2]])]):=by
 refine FnOk.enter (rs:=[.one 8 22,.one 9 4,.one 10 4]) func75 Z ntmps75 results75 Z ⟨rv1 _ Z,rv1 _ Z,rv1 _ Z,Y⟩ (by kernel_rfl) Z ?_
 refine AWP.weak ?_
 unfold J5 at h
 refine AWP.q (.u (W.box Z Z Z Z Z Z (W.alloc Z Z Z Z (W.alloc Z Z Z Z (W.alloc Z Z Z Z (.nil (b6 (.q (.u (.j Z Z (W.build Z Z Z Z (S.lit (f:=d8) (l:=[(⟨start, -1,0⟩:d9)]) (ess:=[[row 1 d5 start,int (-1),int 0]]) Z Z Z Z Z Z Z ⟨⟨.inl Z,.inl Z,.inl Z,Y⟩,Y⟩ Z Z Z (W.alloc Z Z Z Z (W.store Z Z Z Z Z (.nil (b6 (.q ?_)))))))))))))))))
 obtain ⟨a25,ha25,h⟩:=bind_some h
 refine AWP.u (W.makeMap Value.string vI Z Z Z (.E Z Z Z Z Z Z (.j Z Z (.O Z Z Z Z (R5 ha25) Z (W.insert (fk:=Value.string) (fv:=vI) (k:=a25) (a:=1) ah4 Z Z Z Z Z (.j Z Z (W.alloc Z Z Z Z (W.store Z Z Z Z Z (.nil (b6 (.q (.q (.u (W.alloc Z Z Z Z (W.store Z Z Z Z Z (.nil (b6 (.J ?_))))))))))))))))))
 obtain ⟨oo,ho1,h⟩:=bind_some h
 refine AWP.loopS ho1 (fun (c59,c60,c61)=>⟨[(2,.c (.fn 108 [.ptr 0 0 0])),(3,.c (.fn 110 [])),(5,.c (.ptr 1 0 0)),(8,.c (.ptr 2 0 0)),(9,.c (.ptr 3 0 0)),(10,.c (.ptr 4 0 0)),(11,.c (.ptr 6 0 0)),(12,.c (.ptr 8 0 0)),(13,.c (.ptr 9 0 0))],[.one (.cells 4 [(tF Facts Init Goal Operators)]),.one (.cells 1 [[.fn 74 []]]),.one (.cells 1 [[.imm (.val nL)]]),.one (.cells 1 [[bool false]]),.one (.cells 1 [[bool false]]),.one (vec 3 d8 c59),.one (.cells 1 [[.own 5 0 c59.length]]),.one (mapB Value.string vI c60),.one (.cells 1 [[.map 7]]),.one (.cells 1 [[int c61]])]⟩) (fun o e st=>match o with | .inl _=>e=.exit 0∧Sub (F7 start Facts Init Goal Operators) st ⟨[(8,.c (.ptr 2 0 0)),(9,.c (.ptr 3 0 0)),(10,.c (.ptr 4 0 0))],[.one (.cells 4 [(tF Facts Init Goal Operators)]),.dead,.one (.cells 1 [[.imm (.val nL)]]),.one (.cells 1 [[bool false]]),.one (.cells 1 [[bool false]])]⟩ | .inr x=>e=.ret∧∃ J,Sub (F7 start Facts Init Goal Operators) st J∧Done [.one 8 22,.one 9 4,.one 10 4] (fun tt ss=>tt=.tup [.c (row 1 intI x.1),.c (bool x.2.1),.c (bool x.2.2)]∧ss=[.one (.cells 4 [(tF Facts Init Goal Operators)]),.dead,.one (.cells 1 [[row 1 intI x.1]]),.one (.cells 1 [[bool x.2.1]]),.one (.cells 1 [[bool x.2.2]])]) .ret J) ?_ ?_ ?_
 ·try dsimp only
  exact Sub.env ⟨Z,Z,Z,Z,Z,Z,Z,Z,Z,Y⟩
 ·intro s o h
  obtain ⟨c59,c60,c61⟩:=s
  unfold F5 at h
  try dsimp only at h ⊢
  refine AWP.q (.q (.u (.E Z Z Z Z Z Z (.E Z Z Z Z Z Z (S.lenO Z Z Z (fun hl29=>.F Z Z Z (.nil (b6 (.ite Z h (fun hc62 h=> ?_) (fun hc62 h=> ?_))))))))))
  ·refine AWP.skip (b6 (.q (.J (.q (.q ?_)))))
   obtain ⟨a36,ha36,a39,ha39,h⟩:=b2 h
   refine AWP.u (.j Z Z (.E Z Z Z Z Z Z (.E Z Z Z Z Z Z (S.idxO ha36 Z Z Z Z Z (W.fieldAddr Z Z Z Z (S.loadO ha36 Z Z Z Z Z (.O Z Z Z Z (ao4 ha39) Z (.nil (b6 (.ab Z h (fun hc63 h=> ?_) (fun hc63 h=> ?_)))))))))))
   ·refine AWP.q (.u (.v Z Z (.nil (b6 (.q (.q (.u (.E Z Z Z Z Z Z (.v Z Z (.nil (b6 (.J (.virtV 1 intI 14 Z Z Z ?_)))))))))))))
    obtain ⟨c66,ho2,h⟩:=bind_some h
    refine AWP.loopS ho2 (fun (c64,iv65)=>⟨[(8,.c (.ptr 2 0 0)),(9,.c (.ptr 3 0 0)),(10,.c (.ptr 4 0 0)),(11,.c (.ptr 6 0 0)),(14,.c (.own 10 0 c64.length)),(15,.c (int iv65))],[.one (.cells 4 [(tF Facts Init Goal Operators)]),.dead,.one (.cells 1 [[.imm (.val nL)]]),.one (.cells 1 [[bool false]]),.one (.cells 1 [[bool false]]),.one (vec 3 d8 c59),.one (.cells 1 [[.own 5 0 c59.length]]),.dead,.dead,.dead,.one (vec 1 intI c64)]⟩) (fun c66 e st=>e=.exit 2∧Sub (F7 start Facts Init Goal Operators) st ⟨[(8,.c (.ptr 2 0 0)),(9,.c (.ptr 3 0 0)),(10,.c (.ptr 4 0 0)),(14,.c (.own 10 0 c66.length))],[.one (.cells 4 [(tF Facts Init Goal Operators)]),.dead,.one (.cells 1 [[.imm (.val nL)]]),.one (.cells 1 [[bool false]]),.one (.cells 1 [[bool false]]),.dead,.dead,.dead,.dead,.dead,.one (vec 1 intI c66)]⟩) ?_ ?_ ?_
    ·try dsimp only
     exact Sub.cut ⟨Z,Z,Z,Z,(I5 (by first | rfl | simp only [List.length_set])),Z,Y⟩ Z ⟨.one Z,.dead,.one Z,.one Z,.one Z,.vec,.one Z,.dead,.dead,.dead,.vec,Y⟩ Z
    ·intro s o h
     obtain ⟨c64,iv65⟩:=s
     unfold W0 at h
     try dsimp only at h ⊢
     refine AWP.q (.q ?_)
     obtain ⟨a43,ha43,h⟩:=bind_some h
     refine AWP.u (.E Z Z Z Z Z Z (.j Z Z (S.idxO ha43 Z Z Z Z Z (W.fieldAddr Z Z Z Z (S.loadO ha43 Z Z Z Z Z (.geq Z Z Z (.nil (b6 (.ite Z h (fun hc67 h=> ?_) (fun hc67 h=> ?_))))))))))
     ·refine AWP.skip (b6 (.q (.J ?_)))
      obtain ⟨a55,ha55,a59,ha59,h⟩:=b2 h
      refine AWP.u (.j Z Z (.E Z Z Z Z Z Z (.j Z Z (S.idxO ha55 Z Z Z Z Z (W.fieldAddr Z Z Z Z (S.loadO ha55 Z Z Z Z Z (S.lit (f:=intI) (l:=[a55.step]) (ess:=[[int a55.step]]) Z Z Z Z Z Z Z ⟨⟨.inl Z,Y⟩,Y⟩ Z Z Z (S.append (f:=intI) ha59 Z Z Z Z Z Z (.own Z Z) Z Z Z Z (.v Z Z (.nil (e9 (b6 (.j (env':=[(8,.c (.ptr 2 0 0)),(9,.c (.ptr 3 0 0)),(10,.c (.ptr 4 0 0)),(11,.c (.ptr 6 0 0)),(14,.c (.own 10 0 a59.length)),(15,.c (int iv65))]) (σ':=[.one (.cells 4 [(tF Facts Init Goal Operators)]),.dead,.one (.cells 1 [[.imm (.val nL)]]),.one (.cells 1 [[bool false]]),.one (.cells 1 [[bool false]]),.one (vec 3 d8 c59),.one (.cells 1 [[.own 5 0 c59.length]]),.dead,.dead,.dead,.one (vec 1 intI a59),.one (vec 1 intI [a55.step])]) 10 12 Z Z Z ⟨Z,Z,Z,Z,Z,Z,Y⟩ Z ⟨⟨Z,Z⟩,trivial,⟨Z,Z⟩,⟨Z,Z⟩,⟨Z,Z⟩,⟨Blk.im_ok _ _ _,g9 Z⟩,⟨Z,Z⟩,trivial,trivial,trivial,⟨Blk.im_ok _ _ _,g9 Z⟩,⟨Blk.im_ok _ _ _,g9 Z⟩,Y⟩ ?_)))))))))))))
      obtain ⟨a49,ha49,h⟩:=bind_some h
      refine AWP.u (.E Z Z Z Z Z Z (.j Z Z (S.idxO ha49 Z Z Z Z Z (W.fieldAddr Z Z Z Z (S.loadO ha49 Z Z Z Z Z (.v Z Z (.nil ?_)))))))
      obtain rfl:=oi h
      refine b6 ⟨_,Z, ?_⟩
      exact Sub.cut ⟨Z,Z,Z,Z,Z,Z,Y⟩ Z ⟨.one Z,.dead,.one Z,.one Z,.one Z,.vec,.one Z,.dead,.dead,.dead,.vec,Y⟩ Z
     ·refine AWP.exit (e8 ?_)
      obtain rfl:=oi h
      refine e8 ⟨_,Z,Z, ?_⟩
      exact Sub.cut ⟨Z,Z,Z,Z,Y⟩ Z ⟨.one Z,.dead,.one Z,.one Z,.one Z,.dead,.dead,.dead,.dead,.dead,.vec,Y⟩ Z
    ·intro e s hq
     obtain ⟨rfl,hs⟩:=hq
     refine ⟨_,hs, ?_⟩
     refine j5 (b6 (.q (.u (.j Z Z (S.rev revL_ok Z Z Z Z Z Z (.nil (b6 (.q (.u (.j Z Z (W.store Z Z Z Z Z (W.store Z Z Z Z Z (W.store Z Z Z Z Z (.nil (b6 (.frzV (id:=10) (l:=c66.reverse) (env2:=[(8,.c (.ptr 2 0 0)),(9,.c (.ptr 3 0 0)),(10,.c (.ptr 4 0 0))]) (σ2:=[.one (.cells 4 [(tF Facts Init Goal Operators)]),.dead,.one (.cells 1 [[row 1 intI c66.reverse]]),.one (.cells 1 [[bool true]]),.one (.cells 1 [[bool true]]),.dead,.dead,.dead,.dead,.dead,.dead]) Z Z (by exact ⟨⟨_,Z,.inl ⟨Z,Z⟩⟩,⟨_,Z,.inl ⟨Z,Z⟩⟩,⟨_,Z,.inl ⟨Z,Z⟩⟩,Y⟩) Z (by exact ⟨⟨Z,.inl ⟨Z,Z⟩,.inl ⟨Z,Z⟩,.inl ⟨Z,Z⟩,.inl ⟨Z,Z⟩,Y⟩,trivial,⟨Z,.inr ⟨_,Z,List.length_reverse.symm,Z⟩,Y⟩,⟨Z,.inl ⟨Z,Z⟩,Y⟩,⟨Z,.inl ⟨Z,Z⟩,Y⟩,trivial,trivial,trivial,trivial,trivial,trivial,Y⟩) (.ret (e7 (i9 (e7 ?_))))))))))))))))))))
     obtain rfl:=oi h
     refine e7 ⟨_,Z,Z, ?_⟩
     exact ⟨⟨[(8,.c (.ptr 2 0 0)),(9,.c (.ptr 3 0 0)),(10,.c (.ptr 4 0 0))],[.one (.cells 4 [(tF Facts Init Goal Operators)]),.dead,.one (.cells 1 [[row 1 intI c66.reverse]]),.one (.cells 1 [[bool true]]),.one (.cells 1 [[bool true]])]⟩,Sub.cut ⟨Z,Z,Z,Y⟩ Z ⟨.one Z,.dead,.one Z,.one Z,.one Z,Y⟩ Z,Done.ret Z ⟨Z,Z⟩⟩
   ·refine AWP.skip (b6 (.q ?_))
    obtain ⟨a66,ha66,a69,ha69,h⟩:=b2 h
    refine AWP.u (.j Z Z (.E Z Z Z Z Z Z (.E Z Z Z Z Z Z (S.idxO ha66 Z Z Z Z Z (W.fieldAddr Z Z Z Z (S.loadO ha66 Z Z Z Z Z (.callF (r2:=.c (.fn 140 [.ptr 10 0 0,.ptr 11 0 0])) (σ'':=[.one (.cells 4 [(tF Facts Init Goal Operators)]),.one (.cells 1 [[.fn 74 []]]),.one (.cells 1 [[.imm (.val nL)]]),.one (.cells 1 [[bool false]]),.one (.cells 1 [[bool false]]),.one (vec 3 d8 c59),.one (.cells 1 [[.own 5 0 c59.length]]),.one (mapB Value.string vI c60),.one (.cells 1 [[.map 7]]),.one (.cells 1 [[int c61]]),.one (.cells 4 [(tF Facts Init Goal Operators)]),.one (.cells 1 [[row 1 d5 a66.node]])]) Z Z Z (FnOk.lend [0] (ag2 ha69) Z Z Z Z Z Z (by exact ⟨(.one Z),Y⟩) Z (by exact ⟨(.live Z (.one Z)),Y⟩) Z Z (by exact ⟨(.new 0 Z Z (.one Z)),(.old Z Z Z),(.old Z Z Z),(.old Z Z Z),(.old Z Z Z),(.old Z Z Z),(.old Z Z Z),(.old Z Z Z),(.old Z Z Z),(.old Z Z Z),(.new 1 Z Z (.one Z)),(.new 2 Z Z (.one Z)),Y⟩)) (.nil (b6 (.J ?_))))))))))
    obtain ⟨xr68,hr68,h⟩:=bind_some h
    refine AWP.rangeB [(5,none),(8,none),(9,none),(10,none),(11,none),(12,none),(13,none)] Z Z Z (fun as68 bo68 hA68 hB68=>⟨[.one (.cells 4 [(tF Facts Init Goal Operators)]),.one (.cells 1 [[.fn 74 []]]),.one (.cells 1 [[.imm (.val nL)]]),.one (.cells 1 [[bool false]]),.one (.cells 1 [[bool false]]),.one (vec 3 d8 c59),.one (.cells 1 [[.own 5 0 c59.length]]),.one (mapB Value.string vI c60),.one (.cells 1 [[.map 7]]),.one (.cells 1 [[int c61]]),.one (.cells 4 [(tF Facts Init Goal Operators)]),.one (.cells 1 [[row 1 d5 a66.node]]),.one (k6 92 [70,71] as68 bo68 .ready none [(5,none),(8,none),(9,none),(10,none),(11,none),(12,none),(13,none)] [.ptr 1 0 0,.ptr 2 0 0,.ptr 3 0 0,.ptr 4 0 0,.ptr 6 0 0,.ptr 8 0 0,.ptr 9 0 0])],fun tt ss=>(∃ v:(List (ByteArray × Int)) × (List d9),xr68=.inl v∧tt=.tup []∧ss=[.one (.cells 4 [(tF Facts Init Goal Operators)]),.one (.cells 1 [[.fn 74 []]]),.one (.cells 1 [[.imm (.val nL)]]),.one (.cells 1 [[bool false]]),.one (.cells 1 [[bool false]]),.dead,.one (.cells 1 [[.own 13 0 v.2.length]]),.one (mapB Value.string vI v.1),.one (.cells 1 [[.map 7]]),.one (.cells 1 [[int c61]]),.one (.cells 4 [(tF Facts Init Goal Operators)]),.one (.cells 1 [[row 1 d5 a66.node]]),.one (k6 92 [70,71] as68 bo68 .ready none [(5,none),(8,none),(9,none),(10,none),(11,none),(12,none),(13,none)] [.ptr 1 0 0,.ptr 2 0 0,.ptr 3 0 0,.ptr 4 0 0,.ptr 6 0 0,.ptr 8 0 0,.ptr 9 0 0]),.one (vec 3 d8 v.2)])∨(∃ v:(List (ByteArray × Int)) × (List d9),xr68=.inr v∧tt=.tup []∧ss=[.one (.cells 4 [(tF Facts Init Goal Operators)]),.one (.cells 1 [[.fn 74 []]]),.one (.cells 1 [[.imm (.val nL)]]),.one (.cells 1 [[bool false]]),.one (.cells 1 [[bool false]]),.dead,.one (.cells 1 [[.own 13 0 v.2.length]]),.one (mapB Value.string vI v.1),.one (.cells 1 [[.map 7]]),.one (.cells 1 [[int c61]]),.one (.cells 4 [(tF Facts Init Goal Operators)]),.one (.cells 1 [[row 1 d5 a66.node]]),.one (k6 92 [70,71] as68 bo68 .done (some .ret) [(5,none),(8,none),(9,none),(10,none),(11,none),(12,none),(13,none)] [.ptr 1 0 0,.ptr 2 0 0,.ptr 3 0 0,.ptr 4 0 0,.ptr 6 0 0,.ptr 8 0 0,.ptr 9 0 0]),.one (vec 3 d8 v.2)]),Z, ?_, ?_⟩)
    ·clear h
     refine FnOk.enter (rs:=[]) func140 Z ntmps140 results140 Z trivial (by kernel_rfl) Z ?_
     refine AWP.weak ?_
     unfold B7 at hr68
     try dsimp only at hr68
     refine AWP.j (env':=[(0,.c (.yld 12)),(1,.c (.ptr 10 0 0)),(2,.c (.ptr 11 0 0))]) (σ':=[.one (.cells 4 [(tF Facts Init Goal Operators)]),.one (.cells 1 [[.fn 74 []]]),.one (.cells 1 [[.imm (.val nL)]]),.one (.cells 1 [[bool false]]),.one (.cells 1 [[bool false]]),.dead,.one (.cells 1 [[.own 13 0 c59.length]]),.one (mapB Value.string vI c60),.one (.cells 1 [[.map 7]]),.one (.cells 1 [[int c61]]),.one (.cells 4 [(tF Facts Init Goal Operators)]),.one (.cells 1 [[row 1 d5 a66.node]]),.one (k6 92 [70,71] as68 bo68 .ready none [(5,none),(8,none),(9,none),(10,none),(11,none),(12,none),(13,none)] [.ptr 1 0 0,.ptr 2 0 0,.ptr 3 0 0,.ptr 4 0 0,.ptr 6 0 0,.ptr 8 0 0,.ptr 9 0 0]),.one (vec 3 d8 c59)]) 13 5 Z Z Z ⟨Z,Z,Z,Y⟩ Z ⟨⟨Z,Z⟩,⟨Z,Z⟩,⟨Z,Z⟩,⟨Z,Z⟩,⟨Z,Z⟩,trivial,⟨Z,Z⟩,⟨Z,Z⟩,⟨Z,Z⟩,⟨Z,Z⟩,⟨Z,Z⟩,⟨Z,Z⟩,⟨Z,Z⟩,⟨Blk.im_ok _ _ _,g9 Z⟩,Y⟩ (.q (.u (W.fieldAddr Z Z Z Z (.E Z Z Z Z Z Z (S.len Z Z (fun hl8=>.j Z Z (.nil (b6 (.J ?_)))))))))
     obtain ⟨oo,ho3,hr68⟩:=bind_some hr68
     refine AWP.rngS ho3 (fun t75 (c73,c74)=>⟨[(0,.c (.yld 12)),(1,.c (.ptr 10 0 0)),(2,.c (.ptr 11 0 0)),(7,.c (row 4 f8 Operators)),(8,.c (int (Operators.length:Int))),(9,.c (int t75))],[.one (.cells 4 [(tF Facts Init Goal Operators)]),.one (.cells 1 [[.fn 74 []]]),.one (.cells 1 [[.imm (.val nL)]]),.one (.cells 1 [[bool false]]),.one (.cells 1 [[bool false]]),.dead,.one (.cells 1 [[.own 13 0 c74.length]]),.one (mapB Value.string vI c73),.one (.cells 1 [[.map 7]]),.one (.cells 1 [[int c61]]),.one (.cells 4 [(tF Facts Init Goal Operators)]),.one (.cells 1 [[row 1 d5 a66.node]]),.one (k6 92 [70,71] as68 bo68 .ready none [(5,none),(8,none),(9,none),(10,none),(11,none),(12,none),(13,none)] [.ptr 1 0 0,.ptr 2 0 0,.ptr 3 0 0,.ptr 4 0 0,.ptr 6 0 0,.ptr 8 0 0,.ptr 9 0 0]),.one (vec 3 d8 c74)]⟩) (fun o e st=>match o with | .inl (c73,c74)=>e=.exit 0∧Sub ([.one (.cells 4 [(tF Facts Init Goal Operators)]),.one (.cells 1 [[.fn 74 []]]),.one (.cells 1 [[.imm (.val nL)]]),.one (.cells 1 [[bool false]]),.one (.cells 1 [[bool false]]),.one (vec 3 d8 c59),.one (.cells 1 [[.own 5 0 c59.length]]),.one (mapB Value.string vI c60),.one (.cells 1 [[.map 7]]),.one (.cells 1 [[int c61]]),.one (.cells 4 [(tF Facts Init Goal Operators)]),.one (.cells 1 [[row 1 d5 a66.node]]),.one (k6 92 [70,71] as68 bo68 .ready none [(5,none),(8,none),(9,none),(10,none),(11,none),(12,none),(13,none)] [.ptr 1 0 0,.ptr 2 0 0,.ptr 3 0 0,.ptr 4 0 0,.ptr 6 0 0,.ptr 8 0 0,.ptr 9 0 0])]:b8) st ⟨[],[.one (.cells 4 [(tF Facts Init Goal Operators)]),.one (.cells 1 [[.fn 74 []]]),.one (.cells 1 [[.imm (.val nL)]]),.one (.cells 1 [[bool false]]),.one (.cells 1 [[bool false]]),.dead,.one (.cells 1 [[.own 13 0 c74.length]]),.one (mapB Value.string vI c73),.one (.cells 1 [[.map 7]]),.one (.cells 1 [[int c61]]),.one (.cells 4 [(tF Facts Init Goal Operators)]),.one (.cells 1 [[row 1 d5 a66.node]]),.one (k6 92 [70,71] as68 bo68 .ready none [(5,none),(8,none),(9,none),(10,none),(11,none),(12,none),(13,none)] [.ptr 1 0 0,.ptr 2 0 0,.ptr 3 0 0,.ptr 4 0 0,.ptr 6 0 0,.ptr 8 0 0,.ptr 9 0 0]),.one (vec 3 d8 c74)]⟩ | .inr x=>e=.ret∧∃ J,Sub ([.one (.cells 4 [(tF Facts Init Goal Operators)]),.one (.cells 1 [[.fn 74 []]]),.one (.cells 1 [[.imm (.val nL)]]),.one (.cells 1 [[bool false]]),.one (.cells 1 [[bool false]]),.one (vec 3 d8 c59),.one (.cells 1 [[.own 5 0 c59.length]]),.one (mapB Value.string vI c60),.one (.cells 1 [[.map 7]]),.one (.cells 1 [[int c61]]),.one (.cells 4 [(tF Facts Init Goal Operators)]),.one (.cells 1 [[row 1 d5 a66.node]]),.one (k6 92 [70,71] as68 bo68 .ready none [(5,none),(8,none),(9,none),(10,none),(11,none),(12,none),(13,none)] [.ptr 1 0 0,.ptr 2 0 0,.ptr 3 0 0,.ptr 4 0 0,.ptr 6 0 0,.ptr 8 0 0,.ptr 9 0 0])]:b8) st J∧Done [] (fun tt ss=>(∃ v:(List (ByteArray × Int)) × (List d9),x=.inl v∧tt=.tup []∧ss=[.one (.cells 4 [(tF Facts Init Goal Operators)]),.one (.cells 1 [[.fn 74 []]]),.one (.cells 1 [[.imm (.val nL)]]),.one (.cells 1 [[bool false]]),.one (.cells 1 [[bool false]]),.dead,.one (.cells 1 [[.own 13 0 v.2.length]]),.one (mapB Value.string vI v.1),.one (.cells 1 [[.map 7]]),.one (.cells 1 [[int c61]]),.one (.cells 4 [(tF Facts Init Goal Operators)]),.one (.cells 1 [[row 1 d5 a66.node]]),.one (k6 92 [70,71] as68 bo68 .ready none [(5,none),(8,none),(9,none),(10,none),(11,none),(12,none),(13,none)] [.ptr 1 0 0,.ptr 2 0 0,.ptr 3 0 0,.ptr 4 0 0,.ptr 6 0 0,.ptr 8 0 0,.ptr 9 0 0]),.one (vec 3 d8 v.2)])∨(∃ v:(List (ByteArray × Int)) × (List d9),x=.inr v∧tt=.tup []∧ss=[.one (.cells 4 [(tF Facts Init Goal Operators)]),.one (.cells 1 [[.fn 74 []]]),.one (.cells 1 [[.imm (.val nL)]]),.one (.cells 1 [[bool false]]),.one (.cells 1 [[bool false]]),.dead,.one (.cells 1 [[.own 13 0 v.2.length]]),.one (mapB Value.string vI v.1),.one (.cells 1 [[.map 7]]),.one (.cells 1 [[int c61]]),.one (.cells 4 [(tF Facts Init Goal Operators)]),.one (.cells 1 [[row 1 d5 a66.node]]),.one (k6 92 [70,71] as68 bo68 .done (some .ret) [(5,none),(8,none),(9,none),(10,none),(11,none),(12,none),(13,none)] [.ptr 1 0 0,.ptr 2 0 0,.ptr 3 0 0,.ptr 4 0 0,.ptr 6 0 0,.ptr 8 0 0,.ptr 9 0 0]),.one (vec 3 d8 v.2)])) .ret J) ?_ ?_ ?_ ?_
     ·try dsimp only
      exact Sub.env ⟨Z,Z,Z,Z,Z,Z,Y⟩
     ·intro t75 s hlot75 hltt75 _
      obtain ⟨c73,c74⟩:=s
      try dsimp only
      refine AWP.q (.u (.F Z Z Z (.nil (b6 (.q (.ae Z hltt75 (.exit (e8 (e8 ⟨Z, ?_⟩)))))))))
      exact Sub.env trivial
     ·intro t75 s o hlot75 hltt75 h
      obtain ⟨c73,c74⟩:=s
      unfold F8 at h
      try dsimp only at h ⊢
      refine AWP.q (.u (.F Z Z Z (.nil (b6 (.q (.af Z hltt75 (.skip (b6 (.q (.J (.q ?_)))))))))))
      obtain ⟨ai12,hai12,h⟩:=bind_some h
      refine AWP.u (.j Z Z (S.idx hai12 Z Z Z Z (W.loadIAgg Z Z Z Z Z (W.alloc Z Z Z Z (.v Z Z (W.storeAgg Z Z Z Z Z Z Z (.nil (b6 (.q ?_)))))))))
      obtain ⟨ai17,hai17,h⟩:=bind_some h
      rcases bft (ai17) with hb76 | hb76
      ·replace h:=T0 hb76 h
       obtain ⟨ai24,hai24,h⟩:=bind_some h
       refine AWP.u (.E Z Z Z Z Z Z (W.fieldAddr Z Z Z Z (.E Z Z Z Z Z Z (.O Z Z Z Z (P9 hai17) Z (.j Z Z (.z Z Z Z hb76 (.j Z Z (.z Z Z Z hb76 (.j Z Z (.z Z Z Z hb76 (W.loadAgg Z Z Z Z Z Z Z (.z Z Z Z hb76 (.E Z Z Z Z Z Z (.z Z Z Z hb76 (.j Z Z (.z Z Z Z hb76 (S.fresh Z Z Z Z (an1 hai24) Z Z (.frzV (id:=15) (l:=ai24) (env2:=[(0,.c (.yld 12)),(1,.c (.ptr 10 0 0)),(2,.c (.ptr 11 0 0)),(7,.c (row 4 f8 Operators)),(8,.c (int (Operators.length:Int))),(9,.c (int t75)),(18,.c (bool ai17)),(19,.c (.yld 12)),(20,.c (int t75)),(24,.c (row 1 d5 ai24))]) (σ2:=[.one (.cells 4 [(tF Facts Init Goal Operators)]),.one (.cells 1 [[.fn 74 []]]),.one (.cells 1 [[.imm (.val nL)]]),.one (.cells 1 [[bool false]]),.one (.cells 1 [[bool false]]),.dead,.one (.cells 1 [[.own 13 0 c74.length]]),.one (mapB Value.string vI c73),.one (.cells 1 [[.map 7]]),.one (.cells 1 [[int c61]]),.one (.cells 4 [(tF Facts Init Goal Operators)]),.one (.cells 1 [[row 1 d5 a66.node]]),.one (k6 92 [70,71] as68 bo68 .ready none [(5,none),(8,none),(9,none),(10,none),(11,none),(12,none),(13,none)] [.ptr 1 0 0,.ptr 2 0 0,.ptr 3 0 0,.ptr 4 0 0,.ptr 6 0 0,.ptr 8 0 0,.ptr 9 0 0]),.one (vec 3 d8 c74),.one (.cells 4 [[row 1 intI ai12.pre,row 1 intI ai12.add,row 1 intI ai12.del,int ai12.cost]]),.dead]) Z Z (by exact ⟨⟨_,Z,.inl ⟨Z,Z⟩⟩,⟨_,Z,.inl ⟨Z,Z⟩⟩,⟨_,Z,.inl ⟨Z,Z⟩⟩,⟨_,Z,.inl ⟨Z,Z⟩⟩,⟨_,Z,.inl ⟨Z,Z⟩⟩,⟨_,Z,.inl ⟨Z,Z⟩⟩,⟨_,Z,.inl ⟨Z,Z⟩⟩,⟨_,Z,.inl ⟨Z,Z⟩⟩,⟨_,Z,.inl ⟨Z,Z⟩⟩,⟨_,Z,.inr ⟨_,Z,Z,Z⟩⟩,Y⟩) Z (by exact ⟨⟨Z,.inl ⟨Z,Z⟩,.inl ⟨Z,Z⟩,.inl ⟨Z,Z⟩,.inl ⟨Z,Z⟩,Y⟩,⟨Z,.inl ⟨Z,Z⟩,Y⟩,⟨Z,.inl ⟨Z,Z⟩,Y⟩,⟨Z,.inl ⟨Z,Z⟩,Y⟩,⟨Z,.inl ⟨Z,Z⟩,Y⟩,trivial,⟨Z,.inl ⟨Z,Z⟩,Y⟩,⟨Z,Z⟩,⟨Z,.inl ⟨Z,Z⟩,Y⟩,⟨Z,.inl ⟨Z,Z⟩,Y⟩,⟨Z,.inl ⟨Z,Z⟩,.inl ⟨Z,Z⟩,.inl ⟨Z,Z⟩,.inl ⟨Z,Z⟩,Y⟩,⟨Z,.inl ⟨Z,Z⟩,Y⟩,⟨Z,Z⟩,FrzB.vec,⟨Z,.inl ⟨Z,Z⟩,.inl ⟨Z,Z⟩,.inl ⟨Z,Z⟩,.inl ⟨Z,Z⟩,Y⟩,trivial,Y⟩) ?_))))))))))))))))))
       refine AOps.z Z Z Z hb76 ?_; refine AOps.yieldB (E1:=[(17,.c (row 1 d5 ai24)),(16,.c (int t75)),(71,.c (row 1 d5 ai24)),(70,.c (int t75)),(5,.c (.ptr 1 0 0)),(8,.c (.ptr 2 0 0)),(9,.c (.ptr 3 0 0)),(10,.c (.ptr 4 0 0)),(11,.c (.ptr 6 0 0)),(12,.c (.ptr 8 0 0)),(13,.c (.ptr 9 0 0))]) (σ1:=[.one (.cells 4 [(tF Facts Init Goal Operators)]),.one (.cells 1 [[.fn 74 []]]),.one (.cells 1 [[.imm (.val nL)]]),.one (.cells 1 [[bool false]]),.one (.cells 1 [[bool false]]),.dead,.one (.cells 1 [[.own 13 0 c74.length]]),.one (mapB Value.string vI c73),.one (.cells 1 [[.map 7]]),.one (.cells 1 [[int c61]]),.one (.cells 4 [(tF Facts Init Goal Operators)]),.one (.cells 1 [[row 1 d5 a66.node]]),.one (k6 92 [70,71] as68 bo68 .ready none [(5,none),(8,none),(9,none),(10,none),(11,none),(12,none),(13,none)] [.ptr 1 0 0,.ptr 2 0 0,.ptr 3 0 0,.ptr 4 0 0,.ptr 6 0 0,.ptr 8 0 0,.ptr 9 0 0]),.one (vec 3 d8 c74),.one (.cells 4 [[row 1 intI ai12.pre,row 1 intI ai12.add,row 1 intI ai12.del,int ai12.cost]]),.dead]) hA68 hB68 Z Z Z Z Z Z Z Z Z Z ?_ ?_
       ·refine AWP.q (.u (.v Z Z (.nil (b6 (.u (.v Z Z (.nil ?_)))))))
        exact ⟨Z,Z⟩
       refine AWP.sub (s':=⟨[(5,.c (.ptr 1 0 0)),(8,.c (.ptr 2 0 0)),(9,.c (.ptr 3 0 0)),(10,.c (.ptr 4 0 0)),(11,.c (.ptr 6 0 0)),(12,.c (.ptr 8 0 0)),(13,.c (.ptr 9 0 0)),(16,.c (int t75)),(17,.c (row 1 d5 ai24))],[.one (.cells 4 [(tF Facts Init Goal Operators)]),.one (.cells 1 [[.fn 74 []]]),.one (.cells 1 [[.imm (.val nL)]]),.one (.cells 1 [[bool false]]),.one (.cells 1 [[bool false]]),.dead,.one (.cells 1 [[.own 13 0 c74.length]]),.one (mapB Value.string vI c73),.one (.cells 1 [[.map 7]]),.one (.cells 1 [[int c61]]),.one (.cells 4 [(tF Facts Init Goal Operators)]),.one (.cells 1 [[row 1 d5 a66.node]]),.one (k6 92 [70,71] as68 bo68 .busy none [(5,none),(8,none),(9,none),(10,none),(11,none),(12,none),(13,none)] [.ptr 1 0 0,.ptr 2 0 0,.ptr 3 0 0,.ptr 4 0 0,.ptr 6 0 0,.ptr 8 0 0,.ptr 9 0 0]),.one (vec 3 d8 c74),.one (.cells 4 [[row 1 intI ai12.pre,row 1 intI ai12.add,row 1 intI ai12.del,int ai12.cost]]),.dead]⟩) (Sub.env ⟨Z,Z,Z,Z,Z,Z,Z,Z,Z,Y⟩) (.J (.q ?_))
       obtain ⟨ab74,hab74,h⟩:=bind_some h
       refine AWP.u (.E Z Z Z Z Z Z (.j Z Z (.O Z Z Z Z (R5 hab74) Z (.v Z Z (.nil (b6 (.q (.q (.u (.E Z Z Z Z Z Z (.j Z Z (W.lookup (fk:=Value.string) (fv:=vI) (k:=ab74) (z:=0) ah4 Z (fun _=>Z) Z Z Z Z ?_))))))))))))
       refine AOps.gtr Z Z Z (.nil (b6 (.ite Z h (fun hc77 h=> ?_) (fun hc77 h=> ?_))))
       ·refine AWP.exit (e8 (j5 (K5 Z Z (.z Z Z Z hb76 (.not Z Z (.U Z hb76 Z Z (.nil (b6 (.condF Z (.skip (e9 (b6 (.u (.add Z Z Z (by omega) (.j Z Z (.nil ?_))))))))))))))))
        obtain rfl:=oi h
        refine b6 ⟨_,Z, ?_⟩
        exact Sub.cut ⟨Z,Z,Z,Z,Z,Z,Y⟩ Z ⟨.one Z,.one Z,.one Z,.one Z,.one Z,.dead,.one Z,.one Z,.one Z,.one Z,.one Z,.one Z,.one Z,.vec,Y⟩ Z
       ·refine AWP.skip (b6 (.q (.q (.u (.E Z Z Z Z Z Z (S.lenO Z Z Z (fun hl80=>.eql Z Z Z (.nil (b6 (.ite Z h (fun hc78 h=> ?_) (fun hc78 h=> ?_)))))))))))
        ·refine AWP.q (.u (W.store Z Z Z Z Z (W.store Z Z Z Z Z (W.store Z Z Z Z Z (.nil (b6 (.ret (e7 (i9 (yPost_ret Z Z (.z Z Z Z hb76 (.not Z Z (.U Z hb76 Z Z (.nil (b6 (.condT Z (.ret (i9 (e7 ?_)))))))))))))))))))
         obtain rfl:=oi h
         refine e7 ⟨_,Z,Z, ?_⟩
         exact ⟨⟨[],[.one (.cells 4 [(tF Facts Init Goal Operators)]),.one (.cells 1 [[.fn 74 []]]),.one (.cells 1 [[.imm (.val nL)]]),.one (.cells 1 [[bool false]]),.one (.cells 1 [[bool false]]),.dead,.one (.cells 1 [[.own 13 0 c74.length]]),.one (mapB Value.string vI c73),.one (.cells 1 [[.map 7]]),.one (.cells 1 [[int c61]]),.one (.cells 4 [(tF Facts Init Goal Operators)]),.one (.cells 1 [[row 1 d5 a66.node]]),.one (k6 92 [70,71] as68 bo68 .done (some .ret) [(5,none),(8,none),(9,none),(10,none),(11,none),(12,none),(13,none)] [.ptr 1 0 0,.ptr 2 0 0,.ptr 3 0 0,.ptr 4 0 0,.ptr 6 0 0,.ptr 8 0 0,.ptr 9 0 0]),.one (vec 3 d8 c74)]⟩,Sub.cut trivial Z ⟨.one Z,.one Z,.one Z,.one Z,.one Z,.dead,.one Z,.one Z,.one Z,.one Z,.one Z,.one Z,.one Z,.vec,Y⟩ Z,Done.ret Z (.inr ⟨_,Z,Z,Z⟩)⟩
        ·refine AWP.skip (b6 (.q (.u (.E Z Z Z Z Z Z (.j Z Z (W.mapUpdate (fk:=Value.string) (fv:=vI) (k:=ab74) (a:=1) ah4 Z Z Z Z Z (.nil (b6 ?_))))))))
         obtain ⟨ab90,hab90,h⟩:=bind_some h
         refine AWP.u (.E Z Z Z Z Z Z (.j Z Z (.E Z Z Z Z Z Z (.j Z Z (W.build Z Z Z Z (S.lit (f:=d8) (l:=[(⟨ai24,c61,t75⟩:d9)]) (ess:=[[row 1 d5 ai24,int c61,int t75]]) Z Z Z Z Z Z Z ⟨⟨.inl Z,.inl Z,.inl Z,Y⟩,Y⟩ Z Z Z (S.append (f:=d8) hab90 Z Z Z Z Z Z (.own Z Z) Z Z Z Z (W.store Z Z Z Z Z (.nil (e9 (K5 Z Z (.z Z Z Z hb76 (.not Z Z (.U Z hb76 Z Z (.nil (b6 (.j (env':=[(0,.c (.yld 12)),(1,.c (.ptr 10 0 0)),(2,.c (.ptr 11 0 0)),(7,.c (row 4 f8 Operators)),(8,.c (int (Operators.length:Int))),(9,.c (int t75)),(27,.c (bool false))]) (σ':=[.one (.cells 4 [(tF Facts Init Goal Operators)]),.one (.cells 1 [[.fn 74 []]]),.one (.cells 1 [[.imm (.val nL)]]),.one (.cells 1 [[bool false]]),.one (.cells 1 [[bool false]]),.dead,.one (.cells 1 [[.own 13 0 ab90.length]]),.one (mapB Value.string vI (mset c73 ab74 1)),.one (.cells 1 [[.map 7]]),.one (.cells 1 [[int c61]]),.one (.cells 4 [(tF Facts Init Goal Operators)]),.one (.cells 1 [[row 1 d5 a66.node]]),.one (k6 92 [70,71] as68 bo68 .ready none [(5,none),(8,none),(9,none),(10,none),(11,none),(12,none),(13,none)] [.ptr 1 0 0,.ptr 2 0 0,.ptr 3 0 0,.ptr 4 0 0,.ptr 6 0 0,.ptr 8 0 0,.ptr 9 0 0]),.one (vec 3 d8 ab90),.one (.cells 4 [[row 1 intI ai12.pre,row 1 intI ai12.add,row 1 intI ai12.del,int ai12.cost]]),.dead,.one (vec 3 d8 [(⟨ai24,c61,t75⟩:d9)])]) 13 17 Z Z Z ⟨Z,Z,Z,Z,Z,Z,Z,Y⟩ Z ⟨⟨Z,Z⟩,⟨Z,Z⟩,⟨Z,Z⟩,⟨Z,Z⟩,⟨Z,Z⟩,trivial,⟨Z,Z⟩,⟨Z,Z⟩,⟨Z,Z⟩,⟨Z,Z⟩,⟨Z,Z⟩,⟨Z,Z⟩,⟨Z,Z⟩,⟨Blk.im_ok _ _ _,g9 Z⟩,⟨Z,Z⟩,trivial,⟨Blk.im_ok _ _ _,g9 Z⟩,Y⟩ (.condF Z (.skip (e9 (b6 (.u (.add Z Z Z (by omega) (.j Z Z (.nil ?_)))))))))))))))))))))))))
         obtain rfl:=oi h
         refine b6 ⟨_,Z, ?_⟩
         exact Sub.cut ⟨Z,Z,Z,Z,Z,Z,Y⟩ Z ⟨.one Z,.one Z,.one Z,.one Z,.one Z,.dead,.one Z,.one Z,.one Z,.one Z,.one Z,.one Z,.one Z,.vec,Y⟩ Z
      ·replace h:=S6 hb76 h
       refine AWP.u (.E Z Z Z Z Z Z (W.fieldAddr Z Z Z Z (.E Z Z Z Z Z Z (.O Z Z Z Z (P9 hai17) Z (.j Z Z (.B Z Z Z hb76 (.B Z Z Z hb76 (.B Z Z Z hb76 (.B Z Z Z hb76 (.B Z Z Z hb76 (.B Z Z Z hb76 (.B Z Z Z hb76 (.B Z Z Z hb76 (.aa Z hb76 Z Z (.nil (b6 (.condF Z (.skip (e9 (b6 (.u (.add Z Z Z (by omega) (.j Z Z (.nil ?_))))))))))))))))))))))))
       obtain rfl:=oi h
       refine b6 ⟨_,Z, ?_⟩
       exact Sub.cut ⟨Z,Z,Z,Z,Z,Z,Y⟩ Z ⟨.one Z,.one Z,.one Z,.one Z,.one Z,.dead,.one Z,.one Z,.one Z,.one Z,.one Z,.one Z,.one Z,.vec,Y⟩ Z
     ·intro e s hq
      rcases oo with ⟨c73,c74⟩ | x
      ·try dsimp only at hr68 hq
       obtain ⟨rfl,hs⟩:=hq
       refine ⟨_,hs, ?_⟩
       refine j5 ?_
       obtain rfl:=oi hr68
       exact ⟨⟨[],[.one (.cells 4 [(tF Facts Init Goal Operators)]),.one (.cells 1 [[.fn 74 []]]),.one (.cells 1 [[.imm (.val nL)]]),.one (.cells 1 [[bool false]]),.one (.cells 1 [[bool false]]),.dead,.one (.cells 1 [[.own 13 0 c74.length]]),.one (mapB Value.string vI c73),.one (.cells 1 [[.map 7]]),.one (.cells 1 [[int c61]]),.one (.cells 4 [(tF Facts Init Goal Operators)]),.one (.cells 1 [[row 1 d5 a66.node]]),.one (k6 92 [70,71] as68 bo68 .ready none [(5,none),(8,none),(9,none),(10,none),(11,none),(12,none),(13,none)] [.ptr 1 0 0,.ptr 2 0 0,.ptr 3 0 0,.ptr 4 0 0,.ptr 6 0 0,.ptr 8 0 0,.ptr 9 0 0]),.one (vec 3 d8 c74)]⟩,Sub.env trivial,Done.normal Z (.inl ⟨_,Z,Z,Z⟩)⟩
      ·try dsimp only at hr68 hq
       obtain ⟨rfl,hs⟩:=hq
       refine ⟨_,Sub.refl _ _, ?_⟩
       refine i9 ?_
       obtain rfl:=oi hr68
       exact hs
    ·rintro tt ss (⟨⟨c69,c70⟩,rfl,rfl,rfl⟩ | ⟨⟨c71,c72⟩,rfl,rfl,rfl⟩)
     ·try dsimp only at h ⊢
      refine ad8 Z Z (e9 (e9 (b6 (.q (.q (.u (.E Z Z Z Z Z Z (.nil (b6 (.u (W.alloc Z Z Z Z (W.store Z Z Z Z Z (.nil (b6 (.u (.E Z Z Z Z Z Z (S.add Z Z Z (W.store Z Z Z Z Z (.nil ?_)))))))))))))))))))
      obtain rfl:=oi h
      refine b6 ⟨_,Z, ?_⟩
      exact (Sub.move (env':=[(2,.c (.fn 108 [.ptr 0 0 0])),(3,.c (.fn 110 [])),(5,.c (.ptr 1 0 0)),(8,.c (.ptr 2 0 0)),(9,.c (.ptr 3 0 0)),(10,.c (.ptr 4 0 0)),(11,.c (.ptr 6 0 0)),(12,.c (.ptr 8 0 0)),(13,.c (.ptr 9 0 0))]) (σ':=[.one (.cells 4 [(tF Facts Init Goal Operators)]),.one (.cells 1 [[.fn 74 []]]),.one (.cells 1 [[.imm (.val nL)]]),.one (.cells 1 [[bool false]]),.one (.cells 1 [[bool false]]),.dead,.one (.cells 1 [[.own 13 0 c70.length]]),.one (mapB Value.string vI c69),.one (.cells 1 [[.map 7]]),.one (.cells 1 [[int (w64 (c61+1))]]),.one (.cells 4 [(tF Facts Init Goal Operators)]),.one (.cells 1 [[row 1 d5 a66.node]]),.dead,.one (vec 3 d8 c70)]) 9 14 Z Z Z ⟨Z,Z,Z,Z,Z,Z,Z,Z,Z,Y⟩ Z ⟨⟨Z,Z⟩,⟨Z,Z⟩,⟨Z,Z⟩,⟨Z,Z⟩,⟨Z,Z⟩,trivial,⟨Z,Z⟩,⟨Z,Z⟩,⟨Z,Z⟩,⟨Z,Z⟩,⟨Z,Z⟩,⟨Z,Z⟩,trivial,⟨Blk.im_ok _ _ _,g9 Z⟩,Y⟩).trans ((Sub.move (env':=[(2,.c (.fn 108 [.ptr 0 0 0])),(3,.c (.fn 110 [])),(5,.c (.ptr 1 0 0)),(8,.c (.ptr 2 0 0)),(9,.c (.ptr 3 0 0)),(10,.c (.ptr 4 0 0)),(11,.c (.ptr 6 0 0)),(12,.c (.ptr 8 0 0)),(13,.c (.ptr 9 0 0))]) (σ':=[.one (.cells 4 [(tF Facts Init Goal Operators)]),.one (.cells 1 [[.fn 74 []]]),.one (.cells 1 [[.imm (.val nL)]]),.one (.cells 1 [[bool false]]),.one (.cells 1 [[bool false]]),.one (vec 3 d8 c70),.one (.cells 1 [[.own 5 0 c70.length]]),.one (mapB Value.string vI c69),.one (.cells 1 [[.map 7]]),.one (.cells 1 [[int (w64 (c61+1))]]),.one (.cells 4 [(tF Facts Init Goal Operators)]),.one (.cells 1 [[row 1 d5 a66.node]]),.dead]) 5 13 Z Z Z ⟨Z,Z,Z,Z,Z,Z,Z,Z,Z,Y⟩ Z ⟨⟨Z,Z⟩,⟨Z,Z⟩,⟨Z,Z⟩,⟨Z,Z⟩,⟨Z,Z⟩,⟨Blk.im_ok _ _ _,g9 Z⟩,⟨Z,Z⟩,⟨Z,Z⟩,⟨Z,Z⟩,⟨Z,Z⟩,⟨Z,Z⟩,⟨Z,Z⟩,trivial,Y⟩).trans (Sub.cut ⟨Z,Z,Z,Z,Z,Z,Z,Z,Z,Y⟩ Z ⟨.one Z,.one Z,.one Z,.one Z,.one Z,.vec,.one Z,.one Z,.one Z,.one Z,Y⟩ Z))
     ·try dsimp only at h ⊢
      refine rPost_jump Z Z (.nilB (b:=2) [row 1 intI []] Z (by exact ⟨.inr ⟨Z,_,Z⟩,Y⟩) Z Z (.ret (i9 (i9 (e7 ?_)))))
      obtain rfl:=oi h
      refine e7 ⟨_,Z,Z, ?_⟩
      exact ⟨⟨[(8,.c (.ptr 2 0 0)),(9,.c (.ptr 3 0 0)),(10,.c (.ptr 4 0 0))],[.one (.cells 4 [(tF Facts Init Goal Operators)]),.dead,.one (.cells 1 [[row 1 intI []]]),.one (.cells 1 [[bool false]]),.one (.cells 1 [[bool false]])]⟩,Sub.cut ⟨Z,Z,Z,Y⟩ Z ⟨.one Z,.dead,.one Z,.one Z,.one Z,Y⟩ Z,Done.ret Z ⟨Z,Z⟩⟩
  ·refine AWP.exit (e8 ?_)
   obtain rfl:=oi h
   refine e8 ⟨_,Z,Z, ?_⟩
   exact Sub.cut ⟨Z,Z,Z,Y⟩ Z ⟨.one Z,.dead,.one Z,.one Z,.one Z,Y⟩ Z
 ·intro e s hq
  rcases oo with u | x
  ·try dsimp only at h hq
   obtain ⟨rfl,hs⟩:=hq
   refine ⟨_,hs, ?_⟩
   refine j5 (b6 (.q (.u (W.store Z Z Z Z Z (W.store Z Z Z Z Z (W.store Z Z Z Z Z (.nil (b6 (.nilB (b:=2) [row 1 intI []] Z (by exact ⟨.inr ⟨Z,_,Z⟩,Y⟩) Z Z (.ret ?_))))))))))
   obtain rfl:=oi h
   exact ⟨⟨[(8,.c (.ptr 2 0 0)),(9,.c (.ptr 3 0 0)),(10,.c (.ptr 4 0 0))],[.one (.cells 4 [(tF Facts Init Goal Operators)]),.dead,.one (.cells 1 [[row 1 intI []]]),.one (.cells 1 [[bool false]]),.one (.cells 1 [[bool true]])]⟩,Sub.env ⟨Z,Z,Z,Y⟩,Done.ret Z ⟨Z,Z⟩⟩
  ·try dsimp only at h hq
   obtain ⟨rfl,hs⟩:=hq
   refine ⟨_,Sub.refl _ _, ?_⟩
   refine i9 (e7 ?_)
   obtain rfl:=oi h
   exact hs
theorem ap1{start:List (List Int)}{Facts:Int}{Init:List Int}{Goal:List Int}{Operators:List f9}{r:Bool}(h:z8 start Facts Init Goal Operators=some r):FnOk prog 72 [.c (row 1 d5 start),.c (.fn 74 []),.c (.fn 108 [.ptr 0 0 0])] (ao8 start Facts Init Goal Operators) (fun tt ss=>tt=.c (bool r)∧ss=[.one (.cells 4 [(tF Facts Init Goal Operators)])]):=by
 refine FnOk.enter (rs:=[.t 6]) func72 Z ntmps72 results72 Z ⟨trivial,Y⟩ (by kernel_rfl) Z ?_
 refine AWP.weak ?_
 unfold z8 at h
 refine AWP.q (.u (.v Z Z (.nil (b6 (.q ?_)))))
 obtain ⟨a14,ha14,h⟩:=bind_some h
 refine AWP.u (.j Z Z (.j Z Z (.j Z Z (.callF (r2:=.tup [.c (row 1 intI a14.1),.c (bool a14.2.1),.c (bool a14.2.2)]) (σ'':=[.one (.cells 4 [(tF Facts Init Goal Operators)]),.dead,.one (.cells 1 [[row 1 intI a14.1]]),.one (.cells 1 [[bool a14.2.1]]),.one (.cells 1 [[bool a14.2.2]])]) Z Z Z (FnOk.lend [0] (am3 ha14) Z Z Z Z Z Z (by exact ⟨(.one Z),Y⟩) Z (by exact ⟨(.live Z (.one Z)),Y⟩) Z Z (by exact ⟨(.new 0 Z Z (.one Z)),.dead,(.new 2 Z Z (.one Z)),(.new 3 Z Z (.one Z)),(.new 4 Z Z (.one Z)),Y⟩)) (.j Z Z (.ac Z Z Z (.ac Z Z Z (.ac Z Z Z (.v Z Z (.v Z Z (.v Z Z (.nil (b6 (.q (.u (.j Z Z (.v Z Z (.nil (b6 (.ret ?_))))))))))))))))))))
 obtain rfl:=oi h
 exact ⟨⟨[(6,.c (bool a14.2.2))],[.one (.cells 4 [(tF Facts Init Goal Operators)])]⟩,Sub.cut ⟨Z,Y⟩ Z ⟨.one Z,Y⟩ Z,Done.ret Z ⟨Z,Z⟩⟩
theorem al5{start:List (List Int)}{Facts:Int}{Init:List Int}{Goal:List Int}{Operators:List f9}{Facts6:Int}{Init7:List Int}{Goal8:List Int}{Operators9:List f9}{r:(List Int) × Bool × Bool}(h:C8 start Facts Init Goal Operators Facts6 Init7 Goal8 Operators9=some r):FnOk prog 75 [.c (row 1 d5 start),.c (.fn 74 []),.c (.fn 108 [.ptr 0 0 0]),.c (.fn 76 [.ptr 1 0 0])] (E4 start Facts Init Goal Operators Facts6 Init7 Goal8 Operators9) (fun tt ss=>tt=.tup [.c (row 1 intI r.1),.c (bool r.2.1),.c (bool r.2.2)]∧ss=[.one (.cells 4 [(tF Facts Init Goal Operators)]),.one (.cells 4 [(tF Facts6 Init7 Goal8 Operators9)]),.dead,.one (.cells 1 [[row 1 intI r.1]]),.one (.cells 1 [[bool r.2.1]]),.one (.cells 1 [[bool r.2.2]])]):=by
 refine FnOk.enter (rs:=[.one 8 22,.one 9 4,.one 10 4]) func75 Z ntmps75 results75 Z ⟨rv1 _ Z,rv1 _ Z,rv1 _ Z,Y⟩ (by kernel_rfl) Z ?_
 refine AWP.weak ?_
 unfold C8 at h
 refine AWP.q (.u (W.box Z Z Z Z Z Z (W.alloc Z Z Z Z (W.alloc Z Z Z Z (W.alloc Z Z Z Z (.nil (b6 (.q (.u (.j Z Z (W.build Z Z Z Z (S.lit (f:=d8) (l:=[(⟨start, -1,0⟩:d9)]) (ess:=[[row 1 d5 start,int (-1),int 0]]) Z Z Z Z Z Z Z ⟨⟨.inl Z,.inl Z,.inl Z,Y⟩,Y⟩ Z Z Z (W.alloc Z Z Z Z (W.store Z Z Z Z Z (.nil (b6 (.q ?_)))))))))))))))))
 obtain ⟨a25,ha25,h⟩:=bind_some h
 refine AWP.u (W.makeMap Value.string vI Z Z Z (.E Z Z Z Z Z Z (.j Z Z (.O Z Z Z Z (R5 ha25) Z (W.insert (fk:=Value.string) (fv:=vI) (k:=a25) (a:=1) ah4 Z Z Z Z Z (.j Z Z (W.alloc Z Z Z Z (W.store Z Z Z Z Z (.nil (b6 (.q (.q (.u (W.alloc Z Z Z Z (W.store Z Z Z Z Z (.nil (b6 (.J ?_))))))))))))))))))
 obtain ⟨oo,ho1,h⟩:=bind_some h
 refine AWP.loopS ho1 (fun (c63,c64,c65)=>⟨[(2,.c (.fn 108 [.ptr 0 0 0])),(3,.c (.fn 76 [.ptr 1 0 0])),(5,.c (.ptr 2 0 0)),(8,.c (.ptr 3 0 0)),(9,.c (.ptr 4 0 0)),(10,.c (.ptr 5 0 0)),(11,.c (.ptr 7 0 0)),(12,.c (.ptr 9 0 0)),(13,.c (.ptr 10 0 0))],[.one (.cells 4 [(tF Facts Init Goal Operators)]),.one (.cells 4 [(tF Facts6 Init7 Goal8 Operators9)]),.one (.cells 1 [[.fn 74 []]]),.one (.cells 1 [[.imm (.val nL)]]),.one (.cells 1 [[bool false]]),.one (.cells 1 [[bool false]]),.one (vec 3 d8 c63),.one (.cells 1 [[.own 6 0 c63.length]]),.one (mapB Value.string vI c64),.one (.cells 1 [[.map 8]]),.one (.cells 1 [[int c65]])]⟩) (fun o e st=>match o with | .inl _=>e=.exit 0∧Sub (E4 start Facts Init Goal Operators Facts6 Init7 Goal8 Operators9) st ⟨[(8,.c (.ptr 3 0 0)),(9,.c (.ptr 4 0 0)),(10,.c (.ptr 5 0 0))],[.one (.cells 4 [(tF Facts Init Goal Operators)]),.one (.cells 4 [(tF Facts6 Init7 Goal8 Operators9)]),.dead,.one (.cells 1 [[.imm (.val nL)]]),.one (.cells 1 [[bool false]]),.one (.cells 1 [[bool false]])]⟩ | .inr x=>e=.ret∧∃ J,Sub (E4 start Facts Init Goal Operators Facts6 Init7 Goal8 Operators9) st J∧Done [.one 8 22,.one 9 4,.one 10 4] (fun tt ss=>tt=.tup [.c (row 1 intI x.1),.c (bool x.2.1),.c (bool x.2.2)]∧ss=[.one (.cells 4 [(tF Facts Init Goal Operators)]),.one (.cells 4 [(tF Facts6 Init7 Goal8 Operators9)]),.dead,.one (.cells 1 [[row 1 intI x.1]]),.one (.cells 1 [[bool x.2.1]]),.one (.cells 1 [[bool x.2.2]])]) .ret J) ?_ ?_ ?_
 ·try dsimp only
  exact Sub.env ⟨Z,Z,Z,Z,Z,Z,Z,Z,Z,Y⟩
 ·intro s o h
  obtain ⟨c63,c64,c65⟩:=s
  unfold v7 at h
  try dsimp only at h ⊢
  refine AWP.q (.q (.u (.E Z Z Z Z Z Z (.E Z Z Z Z Z Z (S.lenO Z Z Z (fun hl29=>.F Z Z Z (.nil (b6 (.ite Z h (fun hc66 h=> ?_) (fun hc66 h=> ?_))))))))))
  ·refine AWP.skip (b6 (.q (.J (.q (.q ?_)))))
   obtain ⟨a36,ha36,a39,ha39,h⟩:=b2 h
   refine AWP.u (.j Z Z (.E Z Z Z Z Z Z (.E Z Z Z Z Z Z (S.idxO ha36 Z Z Z Z Z (W.fieldAddr Z Z Z Z (S.loadO ha36 Z Z Z Z Z (.callL Z Z (.cons (.c .imm) (.cons (.c (.ptr (es:=[.val (.int .i64 Facts6),.sl 1 (List.map intI Init7),.sl 1 (List.map intI Goal8),.sl 4 (List.map f8 Operators9)]) Z Z (.cons .imm (.cons .imm (.cons .imm (.cons .imm .nil)))))) .nil)) Z (au0 ha39) Z (.nil (b6 (.ab Z h (fun hc67 h=> ?_) (fun hc67 h=> ?_)))))))))))
   ·refine AWP.q (.u (.v Z Z (.nil (b6 (.q (.q (.u (.E Z Z Z Z Z Z (.v Z Z (.nil (b6 (.J (.virtV 1 intI 14 Z Z Z ?_)))))))))))))
    obtain ⟨c70,ho2,h⟩:=bind_some h
    refine AWP.loopS ho2 (fun (c68,iv69)=>⟨[(8,.c (.ptr 3 0 0)),(9,.c (.ptr 4 0 0)),(10,.c (.ptr 5 0 0)),(11,.c (.ptr 7 0 0)),(14,.c (.own 11 0 c68.length)),(15,.c (int iv69))],[.one (.cells 4 [(tF Facts Init Goal Operators)]),.one (.cells 4 [(tF Facts6 Init7 Goal8 Operators9)]),.dead,.one (.cells 1 [[.imm (.val nL)]]),.one (.cells 1 [[bool false]]),.one (.cells 1 [[bool false]]),.one (vec 3 d8 c63),.one (.cells 1 [[.own 6 0 c63.length]]),.dead,.dead,.dead,.one (vec 1 intI c68)]⟩) (fun c70 e st=>e=.exit 2∧Sub (E4 start Facts Init Goal Operators Facts6 Init7 Goal8 Operators9) st ⟨[(8,.c (.ptr 3 0 0)),(9,.c (.ptr 4 0 0)),(10,.c (.ptr 5 0 0)),(14,.c (.own 11 0 c70.length))],[.one (.cells 4 [(tF Facts Init Goal Operators)]),.one (.cells 4 [(tF Facts6 Init7 Goal8 Operators9)]),.dead,.one (.cells 1 [[.imm (.val nL)]]),.one (.cells 1 [[bool false]]),.one (.cells 1 [[bool false]]),.dead,.dead,.dead,.dead,.dead,.one (vec 1 intI c70)]⟩) ?_ ?_ ?_
    ·try dsimp only
     exact Sub.cut ⟨Z,Z,Z,Z,(I5 (by first | rfl | simp only [List.length_set])),Z,Y⟩ Z ⟨.one Z,.one Z,.dead,.one Z,.one Z,.one Z,.vec,.one Z,.dead,.dead,.dead,.vec,Y⟩ Z
    ·intro s o h
     obtain ⟨c68,iv69⟩:=s
     unfold A7 at h
     try dsimp only at h ⊢
     refine AWP.q (.q ?_)
     obtain ⟨a43,ha43,h⟩:=bind_some h
     refine AWP.u (.E Z Z Z Z Z Z (.j Z Z (S.idxO ha43 Z Z Z Z Z (W.fieldAddr Z Z Z Z (S.loadO ha43 Z Z Z Z Z (.geq Z Z Z (.nil (b6 (.ite Z h (fun hc71 h=> ?_) (fun hc71 h=> ?_))))))))))
     ·refine AWP.skip (b6 (.q (.J ?_)))
      obtain ⟨a55,ha55,a59,ha59,h⟩:=b2 h
      refine AWP.u (.j Z Z (.E Z Z Z Z Z Z (.j Z Z (S.idxO ha55 Z Z Z Z Z (W.fieldAddr Z Z Z Z (S.loadO ha55 Z Z Z Z Z (S.lit (f:=intI) (l:=[a55.step]) (ess:=[[int a55.step]]) Z Z Z Z Z Z Z ⟨⟨.inl Z,Y⟩,Y⟩ Z Z Z (S.append (f:=intI) ha59 Z Z Z Z Z Z (.own Z Z) Z Z Z Z (.v Z Z (.nil (e9 (b6 (.j (env':=[(8,.c (.ptr 3 0 0)),(9,.c (.ptr 4 0 0)),(10,.c (.ptr 5 0 0)),(11,.c (.ptr 7 0 0)),(14,.c (.own 11 0 a59.length)),(15,.c (int iv69))]) (σ':=[.one (.cells 4 [(tF Facts Init Goal Operators)]),.one (.cells 4 [(tF Facts6 Init7 Goal8 Operators9)]),.dead,.one (.cells 1 [[.imm (.val nL)]]),.one (.cells 1 [[bool false]]),.one (.cells 1 [[bool false]]),.one (vec 3 d8 c63),.one (.cells 1 [[.own 6 0 c63.length]]),.dead,.dead,.dead,.one (vec 1 intI a59),.one (vec 1 intI [a55.step])]) 11 13 Z Z Z ⟨Z,Z,Z,Z,Z,Z,Y⟩ Z ⟨⟨Z,Z⟩,⟨Z,Z⟩,trivial,⟨Z,Z⟩,⟨Z,Z⟩,⟨Z,Z⟩,⟨Blk.im_ok _ _ _,g9 Z⟩,⟨Z,Z⟩,trivial,trivial,trivial,⟨Blk.im_ok _ _ _,g9 Z⟩,⟨Blk.im_ok _ _ _,g9 Z⟩,Y⟩ ?_)))))))))))))
      obtain ⟨a49,ha49,h⟩:=bind_some h
      refine AWP.u (.E Z Z Z Z Z Z (.j Z Z (S.idxO ha49 Z Z Z Z Z (W.fieldAddr Z Z Z Z (S.loadO ha49 Z Z Z Z Z (.v Z Z (.nil ?_)))))))
      obtain rfl:=oi h
      refine b6 ⟨_,Z, ?_⟩
      exact Sub.cut ⟨Z,Z,Z,Z,Z,Z,Y⟩ Z ⟨.one Z,.one Z,.dead,.one Z,.one Z,.one Z,.vec,.one Z,.dead,.dead,.dead,.vec,Y⟩ Z
     ·refine AWP.exit (e8 ?_)
      obtain rfl:=oi h
      refine e8 ⟨_,Z,Z, ?_⟩
      exact Sub.cut ⟨Z,Z,Z,Z,Y⟩ Z ⟨.one Z,.one Z,.dead,.one Z,.one Z,.one Z,.dead,.dead,.dead,.dead,.dead,.vec,Y⟩ Z
    ·intro e s hq
     obtain ⟨rfl,hs⟩:=hq
     refine ⟨_,hs, ?_⟩
     refine j5 (b6 (.q (.u (.j Z Z (S.rev revL_ok Z Z Z Z Z Z (.nil (b6 (.q (.u (.j Z Z (W.store Z Z Z Z Z (W.store Z Z Z Z Z (W.store Z Z Z Z Z (.nil (b6 (.frzV (id:=11) (l:=c70.reverse) (env2:=[(8,.c (.ptr 3 0 0)),(9,.c (.ptr 4 0 0)),(10,.c (.ptr 5 0 0))]) (σ2:=[.one (.cells 4 [(tF Facts Init Goal Operators)]),.one (.cells 4 [(tF Facts6 Init7 Goal8 Operators9)]),.dead,.one (.cells 1 [[row 1 intI c70.reverse]]),.one (.cells 1 [[bool true]]),.one (.cells 1 [[bool true]]),.dead,.dead,.dead,.dead,.dead,.dead]) Z Z (by exact ⟨⟨_,Z,.inl ⟨Z,Z⟩⟩,⟨_,Z,.inl ⟨Z,Z⟩⟩,⟨_,Z,.inl ⟨Z,Z⟩⟩,Y⟩) Z (by exact ⟨⟨Z,.inl ⟨Z,Z⟩,.inl ⟨Z,Z⟩,.inl ⟨Z,Z⟩,.inl ⟨Z,Z⟩,Y⟩,⟨Z,.inl ⟨Z,Z⟩,.inl ⟨Z,Z⟩,.inl ⟨Z,Z⟩,.inl ⟨Z,Z⟩,Y⟩,trivial,⟨Z,.inr ⟨_,Z,List.length_reverse.symm,Z⟩,Y⟩,⟨Z,.inl ⟨Z,Z⟩,Y⟩,⟨Z,.inl ⟨Z,Z⟩,Y⟩,trivial,trivial,trivial,trivial,trivial,trivial,Y⟩) (.ret (e7 (i9 (e7 ?_))))))))))))))))))))
     obtain rfl:=oi h
     refine e7 ⟨_,Z,Z, ?_⟩
     exact ⟨⟨[(8,.c (.ptr 3 0 0)),(9,.c (.ptr 4 0 0)),(10,.c (.ptr 5 0 0))],[.one (.cells 4 [(tF Facts Init Goal Operators)]),.one (.cells 4 [(tF Facts6 Init7 Goal8 Operators9)]),.dead,.one (.cells 1 [[row 1 intI c70.reverse]]),.one (.cells 1 [[bool true]]),.one (.cells 1 [[bool true]])]⟩,Sub.cut ⟨Z,Z,Z,Y⟩ Z ⟨.one Z,.one Z,.dead,.one Z,.one Z,.one Z,Y⟩ Z,Done.ret Z ⟨Z,Z⟩⟩
   ·refine AWP.skip (b6 (.q ?_))
    obtain ⟨a66,ha66,a69,ha69,h⟩:=b2 h
    refine AWP.u (.j Z Z (.E Z Z Z Z Z Z (.E Z Z Z Z Z Z (S.idxO ha66 Z Z Z Z Z (W.fieldAddr Z Z Z Z (S.loadO ha66 Z Z Z Z Z (.callF (r2:=.c (.fn 140 [.ptr 11 0 0,.ptr 12 0 0])) (σ'':=[.one (.cells 4 [(tF Facts Init Goal Operators)]),.one (.cells 4 [(tF Facts6 Init7 Goal8 Operators9)]),.one (.cells 1 [[.fn 74 []]]),.one (.cells 1 [[.imm (.val nL)]]),.one (.cells 1 [[bool false]]),.one (.cells 1 [[bool false]]),.one (vec 3 d8 c63),.one (.cells 1 [[.own 6 0 c63.length]]),.one (mapB Value.string vI c64),.one (.cells 1 [[.map 8]]),.one (.cells 1 [[int c65]]),.one (.cells 4 [(tF Facts Init Goal Operators)]),.one (.cells 1 [[row 1 d5 a66.node]])]) Z Z Z (FnOk.lend [0] (ag2 ha69) Z Z Z Z Z Z (by exact ⟨(.one Z),Y⟩) Z (by exact ⟨(.live Z (.one Z)),Y⟩) Z Z (by exact ⟨(.new 0 Z Z (.one Z)),(.old Z Z Z),(.old Z Z Z),(.old Z Z Z),(.old Z Z Z),(.old Z Z Z),(.old Z Z Z),(.old Z Z Z),(.old Z Z Z),(.old Z Z Z),(.old Z Z Z),(.new 1 Z Z (.one Z)),(.new 2 Z Z (.one Z)),Y⟩)) (.nil (b6 (.J ?_))))))))))
    obtain ⟨xr72,hr72,h⟩:=bind_some h
    refine AWP.rangeB [(5,none),(8,none),(9,none),(10,none),(11,none),(12,none),(13,none)] Z Z Z (fun as72 bo72 hA72 hB72=>⟨[.one (.cells 4 [(tF Facts Init Goal Operators)]),.one (.cells 4 [(tF Facts6 Init7 Goal8 Operators9)]),.one (.cells 1 [[.fn 74 []]]),.one (.cells 1 [[.imm (.val nL)]]),.one (.cells 1 [[bool false]]),.one (.cells 1 [[bool false]]),.one (vec 3 d8 c63),.one (.cells 1 [[.own 6 0 c63.length]]),.one (mapB Value.string vI c64),.one (.cells 1 [[.map 8]]),.one (.cells 1 [[int c65]]),.one (.cells 4 [(tF Facts Init Goal Operators)]),.one (.cells 1 [[row 1 d5 a66.node]]),.one (k6 92 [70,71] as72 bo72 .ready none [(5,none),(8,none),(9,none),(10,none),(11,none),(12,none),(13,none)] [.ptr 2 0 0,.ptr 3 0 0,.ptr 4 0 0,.ptr 5 0 0,.ptr 7 0 0,.ptr 9 0 0,.ptr 10 0 0])],fun tt ss=>(∃ v:(List (ByteArray × Int)) × (List d9),xr72=.inl v∧tt=.tup []∧ss=[.one (.cells 4 [(tF Facts Init Goal Operators)]),.one (.cells 4 [(tF Facts6 Init7 Goal8 Operators9)]),.one (.cells 1 [[.fn 74 []]]),.one (.cells 1 [[.imm (.val nL)]]),.one (.cells 1 [[bool false]]),.one (.cells 1 [[bool false]]),.dead,.one (.cells 1 [[.own 14 0 v.2.length]]),.one (mapB Value.string vI v.1),.one (.cells 1 [[.map 8]]),.one (.cells 1 [[int c65]]),.one (.cells 4 [(tF Facts Init Goal Operators)]),.one (.cells 1 [[row 1 d5 a66.node]]),.one (k6 92 [70,71] as72 bo72 .ready none [(5,none),(8,none),(9,none),(10,none),(11,none),(12,none),(13,none)] [.ptr 2 0 0,.ptr 3 0 0,.ptr 4 0 0,.ptr 5 0 0,.ptr 7 0 0,.ptr 9 0 0,.ptr 10 0 0]),.one (vec 3 d8 v.2)])∨(∃ v:(List (ByteArray × Int)) × (List d9),xr72=.inr v∧tt=.tup []∧ss=[.one (.cells 4 [(tF Facts Init Goal Operators)]),.one (.cells 4 [(tF Facts6 Init7 Goal8 Operators9)]),.one (.cells 1 [[.fn 74 []]]),.one (.cells 1 [[.imm (.val nL)]]),.one (.cells 1 [[bool false]]),.one (.cells 1 [[bool false]]),.dead,.one (.cells 1 [[.own 14 0 v.2.length]]),.one (mapB Value.string vI v.1),.one (.cells 1 [[.map 8]]),.one (.cells 1 [[int c65]]),.one (.cells 4 [(tF Facts Init Goal Operators)]),.one (.cells 1 [[row 1 d5 a66.node]]),.one (k6 92 [70,71] as72 bo72 .done (some .ret) [(5,none),(8,none),(9,none),(10,none),(11,none),(12,none),(13,none)] [.ptr 2 0 0,.ptr 3 0 0,.ptr 4 0 0,.ptr 5 0 0,.ptr 7 0 0,.ptr 9 0 0,.ptr 10 0 0]),.one (vec 3 d8 v.2)]),Z, ?_, ?_⟩)
    ·clear h
     refine FnOk.enter (rs:=[]) func140 Z ntmps140 results140 Z trivial (by kernel_rfl) Z ?_
     refine AWP.weak ?_
     unfold D8 at hr72
     try dsimp only at hr72
     refine AWP.j (env':=[(0,.c (.yld 13)),(1,.c (.ptr 11 0 0)),(2,.c (.ptr 12 0 0))]) (σ':=[.one (.cells 4 [(tF Facts Init Goal Operators)]),.one (.cells 4 [(tF Facts6 Init7 Goal8 Operators9)]),.one (.cells 1 [[.fn 74 []]]),.one (.cells 1 [[.imm (.val nL)]]),.one (.cells 1 [[bool false]]),.one (.cells 1 [[bool false]]),.dead,.one (.cells 1 [[.own 14 0 c63.length]]),.one (mapB Value.string vI c64),.one (.cells 1 [[.map 8]]),.one (.cells 1 [[int c65]]),.one (.cells 4 [(tF Facts Init Goal Operators)]),.one (.cells 1 [[row 1 d5 a66.node]]),.one (k6 92 [70,71] as72 bo72 .ready none [(5,none),(8,none),(9,none),(10,none),(11,none),(12,none),(13,none)] [.ptr 2 0 0,.ptr 3 0 0,.ptr 4 0 0,.ptr 5 0 0,.ptr 7 0 0,.ptr 9 0 0,.ptr 10 0 0]),.one (vec 3 d8 c63)]) 14 6 Z Z Z ⟨Z,Z,Z,Y⟩ Z ⟨⟨Z,Z⟩,⟨Z,Z⟩,⟨Z,Z⟩,⟨Z,Z⟩,⟨Z,Z⟩,⟨Z,Z⟩,trivial,⟨Z,Z⟩,⟨Z,Z⟩,⟨Z,Z⟩,⟨Z,Z⟩,⟨Z,Z⟩,⟨Z,Z⟩,⟨Z,Z⟩,⟨Blk.im_ok _ _ _,g9 Z⟩,Y⟩ (.q (.u (W.fieldAddr Z Z Z Z (.E Z Z Z Z Z Z (S.len Z Z (fun hl8=>.j Z Z (.nil (b6 (.J ?_)))))))))
     obtain ⟨oo,ho3,hr72⟩:=bind_some hr72
     refine AWP.rngS ho3 (fun t79 (c77,c78)=>⟨[(0,.c (.yld 13)),(1,.c (.ptr 11 0 0)),(2,.c (.ptr 12 0 0)),(7,.c (row 4 f8 Operators)),(8,.c (int (Operators.length:Int))),(9,.c (int t79))],[.one (.cells 4 [(tF Facts Init Goal Operators)]),.one (.cells 4 [(tF Facts6 Init7 Goal8 Operators9)]),.one (.cells 1 [[.fn 74 []]]),.one (.cells 1 [[.imm (.val nL)]]),.one (.cells 1 [[bool false]]),.one (.cells 1 [[bool false]]),.dead,.one (.cells 1 [[.own 14 0 c78.length]]),.one (mapB Value.string vI c77),.one (.cells 1 [[.map 8]]),.one (.cells 1 [[int c65]]),.one (.cells 4 [(tF Facts Init Goal Operators)]),.one (.cells 1 [[row 1 d5 a66.node]]),.one (k6 92 [70,71] as72 bo72 .ready none [(5,none),(8,none),(9,none),(10,none),(11,none),(12,none),(13,none)] [.ptr 2 0 0,.ptr 3 0 0,.ptr 4 0 0,.ptr 5 0 0,.ptr 7 0 0,.ptr 9 0 0,.ptr 10 0 0]),.one (vec 3 d8 c78)]⟩) (fun o e st=>match o with | .inl (c77,c78)=>e=.exit 0∧Sub ([.one (.cells 4 [(tF Facts Init Goal Operators)]),.one (.cells 4 [(tF Facts6 Init7 Goal8 Operators9)]),.one (.cells 1 [[.fn 74 []]]),.one (.cells 1 [[.imm (.val nL)]]),.one (.cells 1 [[bool false]]),.one (.cells 1 [[bool false]]),.one (vec 3 d8 c63),.one (.cells 1 [[.own 6 0 c63.length]]),.one (mapB Value.string vI c64),.one (.cells 1 [[.map 8]]),.one (.cells 1 [[int c65]]),.one (.cells 4 [(tF Facts Init Goal Operators)]),.one (.cells 1 [[row 1 d5 a66.node]]),.one (k6 92 [70,71] as72 bo72 .ready none [(5,none),(8,none),(9,none),(10,none),(11,none),(12,none),(13,none)] [.ptr 2 0 0,.ptr 3 0 0,.ptr 4 0 0,.ptr 5 0 0,.ptr 7 0 0,.ptr 9 0 0,.ptr 10 0 0])]:b8) st ⟨[],[.one (.cells 4 [(tF Facts Init Goal Operators)]),.one (.cells 4 [(tF Facts6 Init7 Goal8 Operators9)]),.one (.cells 1 [[.fn 74 []]]),.one (.cells 1 [[.imm (.val nL)]]),.one (.cells 1 [[bool false]]),.one (.cells 1 [[bool false]]),.dead,.one (.cells 1 [[.own 14 0 c78.length]]),.one (mapB Value.string vI c77),.one (.cells 1 [[.map 8]]),.one (.cells 1 [[int c65]]),.one (.cells 4 [(tF Facts Init Goal Operators)]),.one (.cells 1 [[row 1 d5 a66.node]]),.one (k6 92 [70,71] as72 bo72 .ready none [(5,none),(8,none),(9,none),(10,none),(11,none),(12,none),(13,none)] [.ptr 2 0 0,.ptr 3 0 0,.ptr 4 0 0,.ptr 5 0 0,.ptr 7 0 0,.ptr 9 0 0,.ptr 10 0 0]),.one (vec 3 d8 c78)]⟩ | .inr x=>e=.ret∧∃ J,Sub ([.one (.cells 4 [(tF Facts Init Goal Operators)]),.one (.cells 4 [(tF Facts6 Init7 Goal8 Operators9)]),.one (.cells 1 [[.fn 74 []]]),.one (.cells 1 [[.imm (.val nL)]]),.one (.cells 1 [[bool false]]),.one (.cells 1 [[bool false]]),.one (vec 3 d8 c63),.one (.cells 1 [[.own 6 0 c63.length]]),.one (mapB Value.string vI c64),.one (.cells 1 [[.map 8]]),.one (.cells 1 [[int c65]]),.one (.cells 4 [(tF Facts Init Goal Operators)]),.one (.cells 1 [[row 1 d5 a66.node]]),.one (k6 92 [70,71] as72 bo72 .ready none [(5,none),(8,none),(9,none),(10,none),(11,none),(12,none),(13,none)] [.ptr 2 0 0,.ptr 3 0 0,.ptr 4 0 0,.ptr 5 0 0,.ptr 7 0 0,.ptr 9 0 0,.ptr 10 0 0])]:b8) st J∧Done [] (fun tt ss=>(∃ v:(List (ByteArray × Int)) × (List d9),x=.inl v∧tt=.tup []∧ss=[.one (.cells 4 [(tF Facts Init Goal Operators)]),.one (.cells 4 [(tF Facts6 Init7 Goal8 Operators9)]),.one (.cells 1 [[.fn 74 []]]),.one (.cells 1 [[.imm (.val nL)]]),.one (.cells 1 [[bool false]]),.one (.cells 1 [[bool false]]),.dead,.one (.cells 1 [[.own 14 0 v.2.length]]),.one (mapB Value.string vI v.1),.one (.cells 1 [[.map 8]]),.one (.cells 1 [[int c65]]),.one (.cells 4 [(tF Facts Init Goal Operators)]),.one (.cells 1 [[row 1 d5 a66.node]]),.one (k6 92 [70,71] as72 bo72 .ready none [(5,none),(8,none),(9,none),(10,none),(11,none),(12,none),(13,none)] [.ptr 2 0 0,.ptr 3 0 0,.ptr 4 0 0,.ptr 5 0 0,.ptr 7 0 0,.ptr 9 0 0,.ptr 10 0 0]),.one (vec 3 d8 v.2)])∨(∃ v:(List (ByteArray × Int)) × (List d9),x=.inr v∧tt=.tup []∧ss=[.one (.cells 4 [(tF Facts Init Goal Operators)]),.one (.cells 4 [(tF Facts6 Init7 Goal8 Operators9)]),.one (.cells 1 [[.fn 74 []]]),.one (.cells 1 [[.imm (.val nL)]]),.one (.cells 1 [[bool false]]),.one (.cells 1 [[bool false]]),.dead,.one (.cells 1 [[.own 14 0 v.2.length]]),.one (mapB Value.string vI v.1),.one (.cells 1 [[.map 8]]),.one (.cells 1 [[int c65]]),.one (.cells 4 [(tF Facts Init Goal Operators)]),.one (.cells 1 [[row 1 d5 a66.node]]),.one (k6 92 [70,71] as72 bo72 .done (some .ret) [(5,none),(8,none),(9,none),(10,none),(11,none),(12,none),(13,none)] [.ptr 2 0 0,.ptr 3 0 0,.ptr 4 0 0,.ptr 5 0 0,.ptr 7 0 0,.ptr 9 0 0,.ptr 10 0 0]),.one (vec 3 d8 v.2)])) .ret J) ?_ ?_ ?_ ?_
     ·try dsimp only
      exact Sub.env ⟨Z,Z,Z,Z,Z,Z,Y⟩
     ·intro t79 s hlot79 hltt79 _
      obtain ⟨c77,c78⟩:=s
      try dsimp only
      refine AWP.q (.u (.F Z Z Z (.nil (b6 (.q (.ae Z hltt79 (.exit (e8 (e8 ⟨Z, ?_⟩)))))))))
      exact Sub.env trivial
     ·intro t79 s o hlot79 hltt79 h
      obtain ⟨c77,c78⟩:=s
      unfold w3 at h
      try dsimp only at h ⊢
      refine AWP.q (.u (.F Z Z Z (.nil (b6 (.q (.af Z hltt79 (.skip (b6 (.q (.J (.q ?_)))))))))))
      obtain ⟨ai12,hai12,h⟩:=bind_some h
      refine AWP.u (.j Z Z (S.idx hai12 Z Z Z Z (W.loadIAgg Z Z Z Z Z (W.alloc Z Z Z Z (.v Z Z (W.storeAgg Z Z Z Z Z Z Z (.nil (b6 (.q ?_)))))))))
      obtain ⟨ai17,hai17,h⟩:=bind_some h
      rcases bft (ai17) with hb80 | hb80
      ·replace h:=T0 hb80 h
       obtain ⟨ai24,hai24,h⟩:=bind_some h
       refine AWP.u (.E Z Z Z Z Z Z (W.fieldAddr Z Z Z Z (.E Z Z Z Z Z Z (.O Z Z Z Z (P9 hai17) Z (.j Z Z (.z Z Z Z hb80 (.j Z Z (.z Z Z Z hb80 (.j Z Z (.z Z Z Z hb80 (W.loadAgg Z Z Z Z Z Z Z (.z Z Z Z hb80 (.E Z Z Z Z Z Z (.z Z Z Z hb80 (.j Z Z (.z Z Z Z hb80 (S.fresh Z Z Z Z (an1 hai24) Z Z (.frzV (id:=16) (l:=ai24) (env2:=[(0,.c (.yld 13)),(1,.c (.ptr 11 0 0)),(2,.c (.ptr 12 0 0)),(7,.c (row 4 f8 Operators)),(8,.c (int (Operators.length:Int))),(9,.c (int t79)),(18,.c (bool ai17)),(19,.c (.yld 13)),(20,.c (int t79)),(24,.c (row 1 d5 ai24))]) (σ2:=[.one (.cells 4 [(tF Facts Init Goal Operators)]),.one (.cells 4 [(tF Facts6 Init7 Goal8 Operators9)]),.one (.cells 1 [[.fn 74 []]]),.one (.cells 1 [[.imm (.val nL)]]),.one (.cells 1 [[bool false]]),.one (.cells 1 [[bool false]]),.dead,.one (.cells 1 [[.own 14 0 c78.length]]),.one (mapB Value.string vI c77),.one (.cells 1 [[.map 8]]),.one (.cells 1 [[int c65]]),.one (.cells 4 [(tF Facts Init Goal Operators)]),.one (.cells 1 [[row 1 d5 a66.node]]),.one (k6 92 [70,71] as72 bo72 .ready none [(5,none),(8,none),(9,none),(10,none),(11,none),(12,none),(13,none)] [.ptr 2 0 0,.ptr 3 0 0,.ptr 4 0 0,.ptr 5 0 0,.ptr 7 0 0,.ptr 9 0 0,.ptr 10 0 0]),.one (vec 3 d8 c78),.one (.cells 4 [[row 1 intI ai12.pre,row 1 intI ai12.add,row 1 intI ai12.del,int ai12.cost]]),.dead]) Z Z (by exact ⟨⟨_,Z,.inl ⟨Z,Z⟩⟩,⟨_,Z,.inl ⟨Z,Z⟩⟩,⟨_,Z,.inl ⟨Z,Z⟩⟩,⟨_,Z,.inl ⟨Z,Z⟩⟩,⟨_,Z,.inl ⟨Z,Z⟩⟩,⟨_,Z,.inl ⟨Z,Z⟩⟩,⟨_,Z,.inl ⟨Z,Z⟩⟩,⟨_,Z,.inl ⟨Z,Z⟩⟩,⟨_,Z,.inl ⟨Z,Z⟩⟩,⟨_,Z,.inr ⟨_,Z,Z,Z⟩⟩,Y⟩) Z (by exact ⟨⟨Z,.inl ⟨Z,Z⟩,.inl ⟨Z,Z⟩,.inl ⟨Z,Z⟩,.inl ⟨Z,Z⟩,Y⟩,⟨Z,.inl ⟨Z,Z⟩,.inl ⟨Z,Z⟩,.inl ⟨Z,Z⟩,.inl ⟨Z,Z⟩,Y⟩,⟨Z,.inl ⟨Z,Z⟩,Y⟩,⟨Z,.inl ⟨Z,Z⟩,Y⟩,⟨Z,.inl ⟨Z,Z⟩,Y⟩,⟨Z,.inl ⟨Z,Z⟩,Y⟩,trivial,⟨Z,.inl ⟨Z,Z⟩,Y⟩,⟨Z,Z⟩,⟨Z,.inl ⟨Z,Z⟩,Y⟩,⟨Z,.inl ⟨Z,Z⟩,Y⟩,⟨Z,.inl ⟨Z,Z⟩,.inl ⟨Z,Z⟩,.inl ⟨Z,Z⟩,.inl ⟨Z,Z⟩,Y⟩,⟨Z,.inl ⟨Z,Z⟩,Y⟩,⟨Z,Z⟩,FrzB.vec,⟨Z,.inl ⟨Z,Z⟩,.inl ⟨Z,Z⟩,.inl ⟨Z,Z⟩,.inl ⟨Z,Z⟩,Y⟩,trivial,Y⟩) ?_))))))))))))))))))
       refine AOps.z Z Z Z hb80 ?_; refine AOps.yieldB (E1:=[(17,.c (row 1 d5 ai24)),(16,.c (int t79)),(71,.c (row 1 d5 ai24)),(70,.c (int t79)),(5,.c (.ptr 2 0 0)),(8,.c (.ptr 3 0 0)),(9,.c (.ptr 4 0 0)),(10,.c (.ptr 5 0 0)),(11,.c (.ptr 7 0 0)),(12,.c (.ptr 9 0 0)),(13,.c (.ptr 10 0 0))]) (σ1:=[.one (.cells 4 [(tF Facts Init Goal Operators)]),.one (.cells 4 [(tF Facts6 Init7 Goal8 Operators9)]),.one (.cells 1 [[.fn 74 []]]),.one (.cells 1 [[.imm (.val nL)]]),.one (.cells 1 [[bool false]]),.one (.cells 1 [[bool false]]),.dead,.one (.cells 1 [[.own 14 0 c78.length]]),.one (mapB Value.string vI c77),.one (.cells 1 [[.map 8]]),.one (.cells 1 [[int c65]]),.one (.cells 4 [(tF Facts Init Goal Operators)]),.one (.cells 1 [[row 1 d5 a66.node]]),.one (k6 92 [70,71] as72 bo72 .ready none [(5,none),(8,none),(9,none),(10,none),(11,none),(12,none),(13,none)] [.ptr 2 0 0,.ptr 3 0 0,.ptr 4 0 0,.ptr 5 0 0,.ptr 7 0 0,.ptr 9 0 0,.ptr 10 0 0]),.one (vec 3 d8 c78),.one (.cells 4 [[row 1 intI ai12.pre,row 1 intI ai12.add,row 1 intI ai12.del,int ai12.cost]]),.dead]) hA72 hB72 Z Z Z Z Z Z Z Z Z Z ?_ ?_
       ·refine AWP.q (.u (.v Z Z (.nil (b6 (.u (.v Z Z (.nil ?_)))))))
        exact ⟨Z,Z⟩
       refine AWP.sub (s':=⟨[(5,.c (.ptr 2 0 0)),(8,.c (.ptr 3 0 0)),(9,.c (.ptr 4 0 0)),(10,.c (.ptr 5 0 0)),(11,.c (.ptr 7 0 0)),(12,.c (.ptr 9 0 0)),(13,.c (.ptr 10 0 0)),(16,.c (int t79)),(17,.c (row 1 d5 ai24))],[.one (.cells 4 [(tF Facts Init Goal Operators)]),.one (.cells 4 [(tF Facts6 Init7 Goal8 Operators9)]),.one (.cells 1 [[.fn 74 []]]),.one (.cells 1 [[.imm (.val nL)]]),.one (.cells 1 [[bool false]]),.one (.cells 1 [[bool false]]),.dead,.one (.cells 1 [[.own 14 0 c78.length]]),.one (mapB Value.string vI c77),.one (.cells 1 [[.map 8]]),.one (.cells 1 [[int c65]]),.one (.cells 4 [(tF Facts Init Goal Operators)]),.one (.cells 1 [[row 1 d5 a66.node]]),.one (k6 92 [70,71] as72 bo72 .busy none [(5,none),(8,none),(9,none),(10,none),(11,none),(12,none),(13,none)] [.ptr 2 0 0,.ptr 3 0 0,.ptr 4 0 0,.ptr 5 0 0,.ptr 7 0 0,.ptr 9 0 0,.ptr 10 0 0]),.one (vec 3 d8 c78),.one (.cells 4 [[row 1 intI ai12.pre,row 1 intI ai12.add,row 1 intI ai12.del,int ai12.cost]]),.dead]⟩) (Sub.env ⟨Z,Z,Z,Z,Z,Z,Z,Z,Z,Y⟩) (.J (.q ?_))
       obtain ⟨ab74,hab74,h⟩:=bind_some h
       refine AWP.u (.E Z Z Z Z Z Z (.j Z Z (.O Z Z Z Z (R5 hab74) Z (.v Z Z (.nil (b6 (.q (.q (.u (.E Z Z Z Z Z Z (.j Z Z (W.lookup (fk:=Value.string) (fv:=vI) (k:=ab74) (z:=0) ah4 Z (fun _=>Z) Z Z Z Z ?_))))))))))))
       refine AOps.gtr Z Z Z (.nil (b6 (.ite Z h (fun hc81 h=> ?_) (fun hc81 h=> ?_))))
       ·refine AWP.exit (e8 (j5 (K5 Z Z (.z Z Z Z hb80 (.not Z Z (.U Z hb80 Z Z (.nil (b6 (.condF Z (.skip (e9 (b6 (.u (.add Z Z Z (by omega) (.j Z Z (.nil ?_))))))))))))))))
        obtain rfl:=oi h
        refine b6 ⟨_,Z, ?_⟩
        exact Sub.cut ⟨Z,Z,Z,Z,Z,Z,Y⟩ Z ⟨.one Z,.one Z,.one Z,.one Z,.one Z,.one Z,.dead,.one Z,.one Z,.one Z,.one Z,.one Z,.one Z,.one Z,.vec,Y⟩ Z
       ·refine AWP.skip (b6 (.q (.q (.u (.E Z Z Z Z Z Z (S.lenO Z Z Z (fun hl80=>.eql Z Z Z (.nil (b6 (.ite Z h (fun hc82 h=> ?_) (fun hc82 h=> ?_)))))))))))
        ·refine AWP.q (.u (W.store Z Z Z Z Z (W.store Z Z Z Z Z (W.store Z Z Z Z Z (.nil (b6 (.ret (e7 (i9 (yPost_ret Z Z (.z Z Z Z hb80 (.not Z Z (.U Z hb80 Z Z (.nil (b6 (.condT Z (.ret (i9 (e7 ?_)))))))))))))))))))
         obtain rfl:=oi h
         refine e7 ⟨_,Z,Z, ?_⟩
         exact ⟨⟨[],[.one (.cells 4 [(tF Facts Init Goal Operators)]),.one (.cells 4 [(tF Facts6 Init7 Goal8 Operators9)]),.one (.cells 1 [[.fn 74 []]]),.one (.cells 1 [[.imm (.val nL)]]),.one (.cells 1 [[bool false]]),.one (.cells 1 [[bool false]]),.dead,.one (.cells 1 [[.own 14 0 c78.length]]),.one (mapB Value.string vI c77),.one (.cells 1 [[.map 8]]),.one (.cells 1 [[int c65]]),.one (.cells 4 [(tF Facts Init Goal Operators)]),.one (.cells 1 [[row 1 d5 a66.node]]),.one (k6 92 [70,71] as72 bo72 .done (some .ret) [(5,none),(8,none),(9,none),(10,none),(11,none),(12,none),(13,none)] [.ptr 2 0 0,.ptr 3 0 0,.ptr 4 0 0,.ptr 5 0 0,.ptr 7 0 0,.ptr 9 0 0,.ptr 10 0 0]),.one (vec 3 d8 c78)]⟩,Sub.cut trivial Z ⟨.one Z,.one Z,.one Z,.one Z,.one Z,.one Z,.dead,.one Z,.one Z,.one Z,.one Z,.one Z,.one Z,.one Z,.vec,Y⟩ Z,Done.ret Z (.inr ⟨_,Z,Z,Z⟩)⟩
        ·refine AWP.skip (b6 (.q (.u (.E Z Z Z Z Z Z (.j Z Z (W.mapUpdate (fk:=Value.string) (fv:=vI) (k:=ab74) (a:=1) ah4 Z Z Z Z Z (.nil (b6 ?_))))))))
         obtain ⟨ab90,hab90,h⟩:=bind_some h
         refine AWP.u (.E Z Z Z Z Z Z (.j Z Z (.E Z Z Z Z Z Z (.j Z Z (W.build Z Z Z Z (S.lit (f:=d8) (l:=[(⟨ai24,c65,t79⟩:d9)]) (ess:=[[row 1 d5 ai24,int c65,int t79]]) Z Z Z Z Z Z Z ⟨⟨.inl Z,.inl Z,.inl Z,Y⟩,Y⟩ Z Z Z (S.append (f:=d8) hab90 Z Z Z Z Z Z (.own Z Z) Z Z Z Z (W.store Z Z Z Z Z (.nil (e9 (K5 Z Z (.z Z Z Z hb80 (.not Z Z (.U Z hb80 Z Z (.nil (b6 (.j (env':=[(0,.c (.yld 13)),(1,.c (.ptr 11 0 0)),(2,.c (.ptr 12 0 0)),(7,.c (row 4 f8 Operators)),(8,.c (int (Operators.length:Int))),(9,.c (int t79)),(27,.c (bool false))]) (σ':=[.one (.cells 4 [(tF Facts Init Goal Operators)]),.one (.cells 4 [(tF Facts6 Init7 Goal8 Operators9)]),.one (.cells 1 [[.fn 74 []]]),.one (.cells 1 [[.imm (.val nL)]]),.one (.cells 1 [[bool false]]),.one (.cells 1 [[bool false]]),.dead,.one (.cells 1 [[.own 14 0 ab90.length]]),.one (mapB Value.string vI (mset c77 ab74 1)),.one (.cells 1 [[.map 8]]),.one (.cells 1 [[int c65]]),.one (.cells 4 [(tF Facts Init Goal Operators)]),.one (.cells 1 [[row 1 d5 a66.node]]),.one (k6 92 [70,71] as72 bo72 .ready none [(5,none),(8,none),(9,none),(10,none),(11,none),(12,none),(13,none)] [.ptr 2 0 0,.ptr 3 0 0,.ptr 4 0 0,.ptr 5 0 0,.ptr 7 0 0,.ptr 9 0 0,.ptr 10 0 0]),.one (vec 3 d8 ab90),.one (.cells 4 [[row 1 intI ai12.pre,row 1 intI ai12.add,row 1 intI ai12.del,int ai12.cost]]),.dead,.one (vec 3 d8 [(⟨ai24,c65,t79⟩:d9)])]) 14 18 Z Z Z ⟨Z,Z,Z,Z,Z,Z,Z,Y⟩ Z ⟨⟨Z,Z⟩,⟨Z,Z⟩,⟨Z,Z⟩,⟨Z,Z⟩,⟨Z,Z⟩,⟨Z,Z⟩,trivial,⟨Z,Z⟩,⟨Z,Z⟩,⟨Z,Z⟩,⟨Z,Z⟩,⟨Z,Z⟩,⟨Z,Z⟩,⟨Z,Z⟩,⟨Blk.im_ok _ _ _,g9 Z⟩,⟨Z,Z⟩,trivial,⟨Blk.im_ok _ _ _,g9 Z⟩,Y⟩ (.condF Z (.skip (e9 (b6 (.u (.add Z Z Z (by omega) (.j Z Z (.nil ?_)))))))))))))))))))))))))
         obtain rfl:=oi h
         refine b6 ⟨_,Z, ?_⟩
         exact Sub.cut ⟨Z,Z,Z,Z,Z,Z,Y⟩ Z ⟨.one Z,.one Z,.one Z,.one Z,.one Z,.one Z,.dead,.one Z,.one Z,.one Z,.one Z,.one Z,.one Z,.one Z,.vec,Y⟩ Z
      ·replace h:=S6 hb80 h
       refine AWP.u (.E Z Z Z Z Z Z (W.fieldAddr Z Z Z Z (.E Z Z Z Z Z Z (.O Z Z Z Z (P9 hai17) Z (.j Z Z (.B Z Z Z hb80 (.B Z Z Z hb80 (.B Z Z Z hb80 (.B Z Z Z hb80 (.B Z Z Z hb80 (.B Z Z Z hb80 (.B Z Z Z hb80 (.B Z Z Z hb80 (.aa Z hb80 Z Z (.nil (b6 (.condF Z (.skip (e9 (b6 (.u (.add Z Z Z (by omega) (.j Z Z (.nil ?_))))))))))))))))))))))))
       obtain rfl:=oi h
       refine b6 ⟨_,Z, ?_⟩
       exact Sub.cut ⟨Z,Z,Z,Z,Z,Z,Y⟩ Z ⟨.one Z,.one Z,.one Z,.one Z,.one Z,.one Z,.dead,.one Z,.one Z,.one Z,.one Z,.one Z,.one Z,.one Z,.vec,Y⟩ Z
     ·intro e s hq
      rcases oo with ⟨c77,c78⟩ | x
      ·try dsimp only at hr72 hq
       obtain ⟨rfl,hs⟩:=hq
       refine ⟨_,hs, ?_⟩
       refine j5 ?_
       obtain rfl:=oi hr72
       exact ⟨⟨[],[.one (.cells 4 [(tF Facts Init Goal Operators)]),.one (.cells 4 [(tF Facts6 Init7 Goal8 Operators9)]),.one (.cells 1 [[.fn 74 []]]),.one (.cells 1 [[.imm (.val nL)]]),.one (.cells 1 [[bool false]]),.one (.cells 1 [[bool false]]),.dead,.one (.cells 1 [[.own 14 0 c78.length]]),.one (mapB Value.string vI c77),.one (.cells 1 [[.map 8]]),.one (.cells 1 [[int c65]]),.one (.cells 4 [(tF Facts Init Goal Operators)]),.one (.cells 1 [[row 1 d5 a66.node]]),.one (k6 92 [70,71] as72 bo72 .ready none [(5,none),(8,none),(9,none),(10,none),(11,none),(12,none),(13,none)] [.ptr 2 0 0,.ptr 3 0 0,.ptr 4 0 0,.ptr 5 0 0,.ptr 7 0 0,.ptr 9 0 0,.ptr 10 0 0]),.one (vec 3 d8 c78)]⟩,Sub.env trivial,Done.normal Z (.inl ⟨_,Z,Z,Z⟩)⟩
      ·try dsimp only at hr72 hq
       obtain ⟨rfl,hs⟩:=hq
       refine ⟨_,Sub.refl _ _, ?_⟩
       refine i9 ?_
       obtain rfl:=oi hr72
       exact hs
    ·rintro tt ss (⟨⟨c73,c74⟩,rfl,rfl,rfl⟩ | ⟨⟨c75,c76⟩,rfl,rfl,rfl⟩)
     ·try dsimp only at h ⊢
      refine ad8 Z Z (e9 (e9 (b6 (.q (.q (.u (.E Z Z Z Z Z Z (.nil (b6 (.u (W.alloc Z Z Z Z (W.store Z Z Z Z Z (.nil (b6 (.u (.E Z Z Z Z Z Z (S.add Z Z Z (W.store Z Z Z Z Z (.nil ?_)))))))))))))))))))
      obtain rfl:=oi h
      refine b6 ⟨_,Z, ?_⟩
      exact (Sub.move (env':=[(2,.c (.fn 108 [.ptr 0 0 0])),(3,.c (.fn 76 [.ptr 1 0 0])),(5,.c (.ptr 2 0 0)),(8,.c (.ptr 3 0 0)),(9,.c (.ptr 4 0 0)),(10,.c (.ptr 5 0 0)),(11,.c (.ptr 7 0 0)),(12,.c (.ptr 9 0 0)),(13,.c (.ptr 10 0 0))]) (σ':=[.one (.cells 4 [(tF Facts Init Goal Operators)]),.one (.cells 4 [(tF Facts6 Init7 Goal8 Operators9)]),.one (.cells 1 [[.fn 74 []]]),.one (.cells 1 [[.imm (.val nL)]]),.one (.cells 1 [[bool false]]),.one (.cells 1 [[bool false]]),.dead,.one (.cells 1 [[.own 14 0 c74.length]]),.one (mapB Value.string vI c73),.one (.cells 1 [[.map 8]]),.one (.cells 1 [[int (w64 (c65+1))]]),.one (.cells 4 [(tF Facts Init Goal Operators)]),.one (.cells 1 [[row 1 d5 a66.node]]),.dead,.one (vec 3 d8 c74)]) 10 15 Z Z Z ⟨Z,Z,Z,Z,Z,Z,Z,Z,Z,Y⟩ Z ⟨⟨Z,Z⟩,⟨Z,Z⟩,⟨Z,Z⟩,⟨Z,Z⟩,⟨Z,Z⟩,⟨Z,Z⟩,trivial,⟨Z,Z⟩,⟨Z,Z⟩,⟨Z,Z⟩,⟨Z,Z⟩,⟨Z,Z⟩,⟨Z,Z⟩,trivial,⟨Blk.im_ok _ _ _,g9 Z⟩,Y⟩).trans ((Sub.move (env':=[(2,.c (.fn 108 [.ptr 0 0 0])),(3,.c (.fn 76 [.ptr 1 0 0])),(5,.c (.ptr 2 0 0)),(8,.c (.ptr 3 0 0)),(9,.c (.ptr 4 0 0)),(10,.c (.ptr 5 0 0)),(11,.c (.ptr 7 0 0)),(12,.c (.ptr 9 0 0)),(13,.c (.ptr 10 0 0))]) (σ':=[.one (.cells 4 [(tF Facts Init Goal Operators)]),.one (.cells 4 [(tF Facts6 Init7 Goal8 Operators9)]),.one (.cells 1 [[.fn 74 []]]),.one (.cells 1 [[.imm (.val nL)]]),.one (.cells 1 [[bool false]]),.one (.cells 1 [[bool false]]),.one (vec 3 d8 c74),.one (.cells 1 [[.own 6 0 c74.length]]),.one (mapB Value.string vI c73),.one (.cells 1 [[.map 8]]),.one (.cells 1 [[int (w64 (c65+1))]]),.one (.cells 4 [(tF Facts Init Goal Operators)]),.one (.cells 1 [[row 1 d5 a66.node]]),.dead]) 6 14 Z Z Z ⟨Z,Z,Z,Z,Z,Z,Z,Z,Z,Y⟩ Z ⟨⟨Z,Z⟩,⟨Z,Z⟩,⟨Z,Z⟩,⟨Z,Z⟩,⟨Z,Z⟩,⟨Z,Z⟩,⟨Blk.im_ok _ _ _,g9 Z⟩,⟨Z,Z⟩,⟨Z,Z⟩,⟨Z,Z⟩,⟨Z,Z⟩,⟨Z,Z⟩,⟨Z,Z⟩,trivial,Y⟩).trans (Sub.cut ⟨Z,Z,Z,Z,Z,Z,Z,Z,Z,Y⟩ Z ⟨.one Z,.one Z,.one Z,.one Z,.one Z,.one Z,.vec,.one Z,.one Z,.one Z,.one Z,Y⟩ Z))
     ·try dsimp only at h ⊢
      refine rPost_jump Z Z (.nilB (b:=3) [row 1 intI []] Z (by exact ⟨.inr ⟨Z,_,Z⟩,Y⟩) Z Z (.ret (i9 (i9 (e7 ?_)))))
      obtain rfl:=oi h
      refine e7 ⟨_,Z,Z, ?_⟩
      exact ⟨⟨[(8,.c (.ptr 3 0 0)),(9,.c (.ptr 4 0 0)),(10,.c (.ptr 5 0 0))],[.one (.cells 4 [(tF Facts Init Goal Operators)]),.one (.cells 4 [(tF Facts6 Init7 Goal8 Operators9)]),.dead,.one (.cells 1 [[row 1 intI []]]),.one (.cells 1 [[bool false]]),.one (.cells 1 [[bool false]])]⟩,Sub.cut ⟨Z,Z,Z,Y⟩ Z ⟨.one Z,.one Z,.dead,.one Z,.one Z,.one Z,Y⟩ Z,Done.ret Z ⟨Z,Z⟩⟩
  ·refine AWP.exit (e8 ?_)
   obtain rfl:=oi h
   refine e8 ⟨_,Z,Z, ?_⟩
   exact Sub.cut ⟨Z,Z,Z,Y⟩ Z ⟨.one Z,.one Z,.dead,.one Z,.one Z,.one Z,Y⟩ Z
 ·intro e s hq
  rcases oo with u | x
  ·try dsimp only at h hq
   obtain ⟨rfl,hs⟩:=hq
   refine ⟨_,hs, ?_⟩
   refine j5 (b6 (.q (.u (W.store Z Z Z Z Z (W.store Z Z Z Z Z (W.store Z Z Z Z Z (.nil (b6 (.nilB (b:=3) [row 1 intI []] Z (by exact ⟨.inr ⟨Z,_,Z⟩,Y⟩) Z Z (.ret ?_))))))))))
   obtain rfl:=oi h
   exact ⟨⟨[(8,.c (.ptr 3 0 0)),(9,.c (.ptr 4 0 0)),(10,.c (.ptr 5 0 0))],[.one (.cells 4 [(tF Facts Init Goal Operators)]),.one (.cells 4 [(tF Facts6 Init7 Goal8 Operators9)]),.dead,.one (.cells 1 [[row 1 intI []]]),.one (.cells 1 [[bool false]]),.one (.cells 1 [[bool true]])]⟩,Sub.env ⟨Z,Z,Z,Y⟩,Done.ret Z ⟨Z,Z⟩⟩
  ·try dsimp only at h hq
   obtain ⟨rfl,hs⟩:=hq
   refine ⟨_,Sub.refl _ _, ?_⟩
   refine i9 (e7 ?_)
   obtain rfl:=oi h
   exact hs
theorem belief_Plan_ok{t:d7}{unknown:List Int}{r:(List Int) × Bool × g8}(h:X8 t unknown=some r):f4 prog 31 [.agg (tT t),.c (row 1 intI unknown)] (.tup [.c (row 1 intI r.1),.c (bool r.2.1),.agg [int r.2.2.code,int r.2.2.index]]):=by
 unfold f4
 refine FnOk.enter (rs:=[.t 4,.t 5,.cell 6 32 2]) func31 Z ntmps31 results31 Z ⟨trivial,trivial,rv _ Z,Y⟩ (by kernel_rfl) Z ?_
 unfold X8 at h
 refine AWP.q (.u (W.box Z Z Z Z Z Z (.v Z Z (.v Z Z (W.alloc Z Z Z Z (.nil (b6 (.q (.q ?_)))))))))
 obtain ⟨a14,ha14,h⟩:=bind_some h
 refine AWP.u (W.loadAgg Z Z Z Z Z Z Z (.j Z Z (.O Z Z Z Z (an9 ha14) Z (W.alloc Z Z Z Z (W.storeAgg Z Z Z Z Z Z Z (.nil (b6 (.q (.u (W.loadAgg Z Z Z Z Z Z Z (W.build Z Z Z Z (.neqP Z Z Z Z Z Z Z (.nil (b6 (.ab Z h (fun hc3 h=> ?_) (fun hc3 h=> ?_))))))))))))))))
 ·refine AWP.q (.drawEI [3] mixed Z Z Z ?_)
  refine d6.consN Z Z (fun E=>W.loadAgg Z Z Z Z Z Z Z .N) Z (.consN Z Z (fun E=>AOps.v Z Z .N) Z (.consN Z Z (fun E=>AOps.v Z Z .N) Z ?_))
  apply d6.consE (v:=.undef); exact Z; exact Z; intro E
  refine W.storeAgg Z Z Z Z Z Z Z .N
  exact Z
  exact Z
  refine d6.done Z ?_ ?_
  ·refine c9.cons Z Z ?_ ?_
   refine b7.go Z Z (fun E=>W.loadAgg Z Z Z Z Z Z Z .N) ?_
   refine b7.skip Z (b7.nil)
   refine c9.cons Z Z ?_ ?_
   refine b7.go Z Z (fun E=>AOps.v Z Z .N) ?_
   refine b7.skip Z (b7.nil)
   refine c9.cons Z Z ?_ ?_
   refine b7.go Z Z (fun E=>AOps.v Z Z .N) ?_
   refine b7.skip Z (b7.nil)
   refine c9.skip Z (c9.nil)
  dsimp only [j9]
  refine b6 (.nilrow 1 4 Z (.ret (e7 ?_)))
  obtain rfl:=oi h
  exact Done.ret Z Z
 ·refine AWP.skip (b6 (.q ?_))
  obtain ⟨a20,ha20,h⟩:=bind_some h
  refine AWP.u (W.loadAgg Z Z Z Z Z Z Z (.callF (r2:=.c (.fn 108 [.ptr 3 0 0])) (σ'':=[.one (.cells 4 [(tT t)]),.one (.cells 2 [[int 0,int 0]]),.one (.cells 2 [[int a14.code,int a14.index]]),.one (.cells 4 [(tT t)])]) Z Z Z (FnOk.lend [] (au9 ha20) Z Z Z Z Z Z (by exact trivial) Z (by exact trivial) Z Z (by exact ⟨(.old Z Z Z),(.old Z Z Z),(.old Z Z Z),(.new 0 Z Z (.one Z)),Y⟩)) (.v Z Z (.nil (b6 (.q (.q ?_)))))))
  obtain ⟨a23,ha23,a25,ha25,h⟩:=b2 h
  refine AWP.u (W.loadAgg Z Z Z Z Z Z Z (.j Z Z (S.fresh Z Z Z Z (ak1 ha23) Z Z (.j Z Z (.frzV (id:=4) (l:=a23) (env2:=[(1,.c (row 1 intI unknown)),(2,.c (.ptr 0 0 0)),(6,.c (.ptr 1 0 0)),(8,.c (.fn 108 [.ptr 3 0 0])),(23,.c (row 1 d5 a23)),(24,.c (.fn 108 [.ptr 3 0 0]))]) (σ2:=[.one (.cells 4 [(tT t)]),.one (.cells 2 [[int 0,int 0]]),.one (.cells 2 [[int a14.code,int a14.index]]),.one (.cells 4 [(tT t)]),.dead]) Z Z (by exact ⟨⟨_,Z,.inl ⟨Z,Z⟩⟩,⟨_,Z,.inl ⟨Z,Z⟩⟩,⟨_,Z,.inl ⟨Z,Z⟩⟩,⟨_,Z,.inl ⟨Z,Z⟩⟩,⟨_,Z,.inr ⟨_,Z,Z,Z⟩⟩,⟨_,Z,.inl ⟨Z,Z⟩⟩,Y⟩) Z (by exact ⟨⟨Z,.inl ⟨Z,Z⟩,.inl ⟨Z,Z⟩,.inl ⟨Z,Z⟩,.inl ⟨Z,Z⟩,Y⟩,⟨Z,.inl ⟨Z,Z⟩,.inl ⟨Z,Z⟩,Y⟩,⟨Z,.inl ⟨Z,Z⟩,.inl ⟨Z,Z⟩,Y⟩,⟨Z,.inl ⟨Z,Z⟩,.inl ⟨Z,Z⟩,.inl ⟨Z,Z⟩,.inl ⟨Z,Z⟩,Y⟩,trivial,Y⟩) (.callF (r2:=.c (bool a25)) (σ'':=[.one (.cells 4 [(tT t)]),.one (.cells 2 [[int 0,int 0]]),.one (.cells 2 [[int a14.code,int a14.index]]),.one (.cells 4 [(tT t)]),.dead]) Z Z Z (FnOk.lend [3] (ap1 ha25) Z Z Z Z Z Z (by exact ⟨(.one Z),Y⟩) Z (by exact ⟨(.live Z (.one Z)),Y⟩) Z Z (by exact ⟨(.old Z Z Z),(.old Z Z Z),(.old Z Z Z),(.new 0 Z Z (.one Z)),.dead,Y⟩)) (.not Z Z (.nil (b6 (.ab Z h (fun hc4 h=> ?_) (fun hc4 h=> ?_)))))))))))
  ·refine AWP.q (.u (W.build Z Z Z Z (.v Z Z (.v Z Z (W.storeAgg Z Z Z Z Z Z Z (.nil (b6 (.nilrow 1 4 Z (.ret (e7 ?_))))))))))
   obtain rfl:=oi h
   exact Done.ret Z Z
  ·refine AWP.skip (b6 (.q ?_))
   obtain ⟨a31,ha31,a34,ha34,h⟩:=b2 h
   refine AWP.u (W.loadAgg Z Z Z Z Z Z Z (.j Z Z (S.fresh Z Z Z Z (ak1 ha31) Z Z (.j Z Z (.makeFunc Z Z (.frzV (id:=5) (l:=a31) (env2:=[(6,.c (.ptr 1 0 0)),(31,.c (row 1 d5 a31)),(32,.c (.fn 108 [.ptr 3 0 0])),(33,.c (.fn 76 [.ptr 0 0 0]))]) (σ2:=[.one (.cells 4 [(tT t)]),.one (.cells 2 [[int 0,int 0]]),.one (.cells 2 [[int a14.code,int a14.index]]),.one (.cells 4 [(tT t)]),.dead,.dead]) Z Z (by exact ⟨⟨_,Z,.inl ⟨Z,Z⟩⟩,⟨_,Z,.inr ⟨_,Z,Z,Z⟩⟩,⟨_,Z,.inl ⟨Z,Z⟩⟩,⟨_,Z,.inl ⟨Z,Z⟩⟩,Y⟩) Z (by exact ⟨⟨Z,.inl ⟨Z,Z⟩,.inl ⟨Z,Z⟩,.inl ⟨Z,Z⟩,.inl ⟨Z,Z⟩,Y⟩,⟨Z,.inl ⟨Z,Z⟩,.inl ⟨Z,Z⟩,Y⟩,⟨Z,.inl ⟨Z,Z⟩,.inl ⟨Z,Z⟩,Y⟩,⟨Z,.inl ⟨Z,Z⟩,.inl ⟨Z,Z⟩,.inl ⟨Z,Z⟩,.inl ⟨Z,Z⟩,Y⟩,trivial,trivial,Y⟩) (.callF (r2:=.tup [.c (row 1 intI a34.1),.c (bool a34.2.1),.c (bool a34.2.2)]) (σ'':=[.one (.cells 4 [(tT t)]),.one (.cells 2 [[int 0,int 0]]),.one (.cells 2 [[int a14.code,int a14.index]]),.one (.cells 4 [(tT t)]),.dead,.dead,.dead,.one (.cells 1 [[row 1 intI a34.1]]),.one (.cells 1 [[bool a34.2.1]]),.one (.cells 1 [[bool a34.2.2]])]) Z Z Z (FnOk.lend [3,0] (al5 ha34) Z Z Z Z Z Z (by exact ⟨(.one Z),(.one Z),Y⟩) Z (by exact ⟨(.live Z (.one Z)),(.live Z (.one Z)),Y⟩) Z Z (by exact ⟨(.new 1 Z Z (.one Z)),(.old Z Z Z),(.old Z Z Z),(.new 0 Z Z (.one Z)),.dead,.dead,.dead,(.new 3 Z Z (.one Z)),(.new 4 Z Z (.one Z)),(.new 5 Z Z (.one Z)),Y⟩)) (.j Z Z (.ac Z Z Z (.ac Z Z Z (.ac Z Z Z (.v Z Z (.v Z Z (.v Z Z (.nil (b6 (.q (.q (.u (.j Z Z (S.len Z Z (fun hl39=>.gtr Z Z Z (.nil (b6 (.ite Z h (fun hc5 h=> ?_) (fun hc5 h=> ?_))))))))))))))))))))))))))
   ·refine AWP.q (.u (W.build Z Z Z Z (.v Z Z (.v Z Z (W.storeAgg Z Z Z Z Z Z Z (.nil (b6 (.nilrow 1 4 Z (.ret (e7 ?_))))))))))
    obtain rfl:=oi h
    exact Done.ret Z Z
   ·refine AWP.skip (b6 (.q (.u (.j Z Z (.j Z Z (W.build Z Z Z Z (.v Z Z (.v Z Z (W.storeAgg Z Z Z Z Z Z Z (.nil (b6 (.ret ?_))))))))))))
    obtain rfl:=oi h
    exact Done.ret Z Z
theorem at3{t:d7}{op:Int}{r:g8}(h:G3 t op=some r):f4 prog 78 [.agg (tT t),.c (int op)] (.agg [int r.code,int r.index]):=by
 unfold f4
 refine FnOk.enter (rs:=[.cell 4 32 2]) func78 Z ntmps78 results78 Z ⟨rv _ Z,Y⟩ (by kernel_rfl) Z ?_
 unfold G3 at h
 refine AWP.q (.u (W.box Z Z Z Z Z Z (W.alloc Z Z Z Z (.nil (b6 (.q (.q ?_)))))))
 obtain ⟨a7,ha7,h⟩:=bind_some h
 refine AWP.u (W.loadAgg Z Z Z Z Z Z Z (.O Z Z Z Z (C9 ha7) Z (W.alloc Z Z Z Z (W.storeAgg Z Z Z Z Z Z Z (.nil (b6 (.q (.u (W.loadAgg Z Z Z Z Z Z Z (W.build Z Z Z Z (.neqP Z Z Z Z Z Z Z (.nil (b6 (.ab Z h (fun hc3 h=> ?_) (fun hc3 h=> ?_)))))))))))))))
 ·refine AWP.q (.u (W.loadAgg Z Z Z Z Z Z Z (W.storeAgg Z Z Z Z Z Z Z (.nil (b6 (.ret (e7 ?_)))))))
  obtain rfl:=oi h
  exact Done.ret Z Z
 ·refine AWP.skip (b6 (.q (.seqJ (⟨[(4,.c (.ptr 1 0 0)),(20,.c (bool ((decide (op<0)) || (decide ((t.operators.length:Int)≤op)))))],[.one (.cells 4 [(tT t)]),.one (.cells 2 [[int 0,int 0]]),.one (.cells 2 [[int a7.code,int a7.index]])]⟩) ?_ ?_)))
  ·rcases bft (decide (op<0)) with hb1 | hb1
   ·refine AWP.u (.j Z Z (.F Z Z Z (.j Z Z (.B Z Z Z hb1 (.B Z Z Z hb1 (.B Z Z Z hb1 (.B Z Z Z hb1 (.B Z Z Z hb1 (.U Z hb1 Z Z (.nil (b6 ?_)))))))))))
    simp only [Q6 hb1,or_t hb1,Bool.false_or,Bool.true_or,Bool.false_and,Bool.true_and]
    exact Sub.env ⟨Z,Z,Y⟩
   ·refine AWP.u (.j Z Z (.F Z Z Z (.j Z Z (.z Z Z Z hb1 (.j Z Z (.z Z Z Z hb1 (W.fieldAddr Z Z Z Z (.z Z Z Z hb1 (.E Z Z Z Z Z Z ?_)))))))))
    refine AOps.z Z Z Z hb1 ?_; refine S.len Z Z (fun hl18=> ?_)
    refine AOps.z Z Z Z hb1 (.geq Z Z Z (.aa Z hb1 Z Z (.nil (b6 ?_))))
    simp only [N3 hb1,or_f hb1,Bool.false_or,Bool.true_or,Bool.false_and,Bool.true_and]
    exact Sub.env ⟨Z,Z,Y⟩
  ·refine AWP.ab Z h (fun hc4 h=> ?_) (fun hc4 h=> ?_)
   ·refine AWP.q (.u (W.build Z Z Z Z (W.storeAgg Z Z Z Z Z Z Z (.nil (b6 (.ret (e7 ?_)))))))
    obtain rfl:=oi h
    exact Done.ret Z Z
   ·refine AWP.skip (b6 (.q (.u (W.build Z Z Z Z (W.storeAgg Z Z Z Z Z Z Z (.nil (b6 (.ret ?_))))))))
    obtain rfl:=oi h
    exact Done.ret Z Z
theorem am6{t:d7}{op:Int}{r:g8}(h:E5 t op=some r):f4 prog 114 [.agg (tT t),.c (int op)] (.agg [int r.code,int r.index]):=by
 unfold f4
 refine FnOk.enter (rs:=[.cell 4 32 2]) func114 Z ntmps114 results114 Z ⟨rv _ Z,Y⟩ (by kernel_rfl) Z ?_
 unfold E5 at h
 refine AWP.q (.u (W.box Z Z Z Z Z Z (W.alloc Z Z Z Z (.nil (b6 (.q (.q ?_)))))))
 obtain ⟨a7,ha7,h⟩:=bind_some h
 refine AWP.u (W.loadAgg Z Z Z Z Z Z Z (.O Z Z Z Z (C9 ha7) Z (W.alloc Z Z Z Z (W.storeAgg Z Z Z Z Z Z Z (.nil (b6 (.q (.u (W.loadAgg Z Z Z Z Z Z Z (W.build Z Z Z Z (.neqP Z Z Z Z Z Z Z (.nil (b6 (.ab Z h (fun hc3 h=> ?_) (fun hc3 h=> ?_)))))))))))))))
 ·refine AWP.q (.u (W.loadAgg Z Z Z Z Z Z Z (W.storeAgg Z Z Z Z Z Z Z (.nil (b6 (.ret (e7 ?_)))))))
  obtain rfl:=oi h
  exact Done.ret Z Z
 ·refine AWP.skip (b6 (.q (.seqJ (⟨[(4,.c (.ptr 1 0 0)),(20,.c (bool ((decide (op<0)) || (decide ((t.operators.length:Int)≤op)))))],[.one (.cells 4 [(tT t)]),.one (.cells 2 [[int 0,int 0]]),.one (.cells 2 [[int a7.code,int a7.index]])]⟩) ?_ ?_)))
  ·rcases bft (decide (op<0)) with hb1 | hb1
   ·refine AWP.u (.j Z Z (.F Z Z Z (.j Z Z (.B Z Z Z hb1 (.B Z Z Z hb1 (.B Z Z Z hb1 (.B Z Z Z hb1 (.B Z Z Z hb1 (.U Z hb1 Z Z (.nil (b6 ?_)))))))))))
    simp only [Q6 hb1,or_t hb1,Bool.false_or,Bool.true_or,Bool.false_and,Bool.true_and]
    exact Sub.env ⟨Z,Z,Y⟩
   ·refine AWP.u (.j Z Z (.F Z Z Z (.j Z Z (.z Z Z Z hb1 (.j Z Z (.z Z Z Z hb1 (W.fieldAddr Z Z Z Z (.z Z Z Z hb1 (.E Z Z Z Z Z Z ?_)))))))))
    refine AOps.z Z Z Z hb1 ?_; refine S.len Z Z (fun hl18=> ?_)
    refine AOps.z Z Z Z hb1 (.geq Z Z Z (.aa Z hb1 Z Z (.nil (b6 ?_))))
    simp only [N3 hb1,or_f hb1,Bool.false_or,Bool.true_or,Bool.false_and,Bool.true_and]
    exact Sub.env ⟨Z,Z,Y⟩
  ·refine AWP.ab Z h (fun hc4 h=> ?_) (fun hc4 h=> ?_)
   ·refine AWP.q (.u (W.build Z Z Z Z (W.storeAgg Z Z Z Z Z Z Z (.nil (b6 (.ret (e7 ?_)))))))
    obtain rfl:=oi h
    exact Done.ret Z Z
   ·refine AWP.skip (b6 (.q (.u (W.build Z Z Z Z (W.storeAgg Z Z Z Z Z Z Z (.nil (b6 (.ret ?_))))))))
    obtain rfl:=oi h
    exact Done.ret Z Z
theorem as3{t:d7}{r:(List Int) × (List Int) × (List f9)}(h:N5 t=some r):FnOk prog 115 [.agg (tT t)] (ag6 t) (fun tt ss=>tt=.agg [int t.facts,.own 2 0 r.1.length,.own 3 0 r.2.1.length,.own 5 0 r.2.2.length]∧ss=[.dead,.one (.cells 4 [[int t.facts,.own 2 0 r.1.length,.own 3 0 r.2.1.length,.own 5 0 r.2.2.length]]),.one (vec 1 intI r.1),.one (vec 1 intI r.2.1),.dead,omOp 5 r.2.2]):=by
 refine FnOk.enter (rs:=[.cell 2 37 4]) func115 Z ntmps115 results115 Z ⟨rv _ Z,Y⟩ (by kernel_rfl) Z ?_
 refine AWP.weak ?_
 unfold N5 at h
 refine AWP.q (.u (W.box Z Z Z Z Z Z (W.alloc Z Z Z Z (.nil (b6 (.q ?_))))))
 obtain ⟨a10,ha10,a13,ha13,h⟩:=b2 h
 refine AWP.sub (s':=⟨[(0,.agg (tT t)),(1,.c (.ptr 0 0 0)),(2,.c (.ptr 1 0 0))],[.one (.cells 4 [(tT t)]),.one (.cells 4 [[int 0,.imm (.val nL),.imm (.val nL),.imm (.val nL)]]),.dead,.dead,.dead]⟩) (Sub.cut ⟨Z,Z,Z,Y⟩ Z ⟨.one Z,.one Z,.dead,.dead,.dead,Y⟩ Z) (.drawTI [.c (.ptr 0 0 0),.c (int t.facts),.c (.ptr 0 0 1),.c (row 1 intI t.init),.c (.own 2 0 a10.length),.c (.ptr 0 0 2),.c (row 1 intI t.goal),.c (.own 3 0 a13.length),.agg [int t.facts,.own 2 0 a10.length,.own 3 0 a13.length,.imm (.val nL)],.c (.ptr 4 0 0),.undef] [4,7,9,10] [([],[.one (.cells 4 [(tT t)]),.one (.cells 4 [[int 0,.imm (.val nL),.imm (.val nL),.imm (.val nL)]]),.dead,.dead,.dead]),([4],[.one (.cells 4 [(tT t)]),.one (.cells 4 [[int 0,.imm (.val nL),.imm (.val nL),.imm (.val nL)]]),.one (vec 1 intI a10),.dead,.dead]),([4,7],[.one (.cells 4 [(tT t)]),.one (.cells 4 [[int 0,.imm (.val nL),.imm (.val nL),.imm (.val nL)]]),.one (vec 1 intI a10),.one (vec 1 intI a13),.dead]),([9],[.one (.cells 4 [(tT t)]),.one (.cells 4 [[int 0,.imm (.val nL),.imm (.val nL),.imm (.val nL)]]),.dead,.dead,.one (.cells 4 [[int 0,.imm (.val nL),.imm (.val nL),.imm (.val nL)]])]),([4,9],[.one (.cells 4 [(tT t)]),.one (.cells 4 [[int 0,.imm (.val nL),.imm (.val nL),.imm (.val nL)]]),.one (vec 1 intI a10),.dead,.one (.cells 4 [[int 0,.imm (.val nL),.imm (.val nL),.imm (.val nL)]])]),([4,7,9],[.one (.cells 4 [(tT t)]),.one (.cells 4 [[int 0,.imm (.val nL),.imm (.val nL),.imm (.val nL)]]),.one (vec 1 intI a10),.one (vec 1 intI a13),.one (.cells 4 [[int 0,.imm (.val nL),.imm (.val nL),.imm (.val nL)]])]),([4,7,9,10],[.one (.cells 4 [(tT t)]),.one (.cells 4 [[int 0,.imm (.val nL),.imm (.val nL),.imm (.val nL)]]),.one (vec 1 intI a10),.one (vec 1 intI a13),.one (.cells 4 [[int t.facts,.own 2 0 a10.length,.own 3 0 a13.length,.imm (.val nL)]])])] [.one (.cells 4 [(tT t)]),.one (.cells 4 [[int 0,.imm (.val nL),.imm (.val nL),.imm (.val nL)]]),.one (vec 1 intI a10),.one (vec 1 intI a13),.one (.cells 4 [[int t.facts,.own 2 0 a10.length,.own 3 0 a13.length,.imm (.val nL)]])] mixed Z Z Z Z Z ?_ ?_)
 ·refine C4.cons ?_ ?_
  ·apply e6.go; exact Z; exact Z; exact Z; intro E hE; (refine W.fieldAddr Z Z Z Z ?_); exact AOps.nil ⟨Z,Z⟩
   apply e6.go; exact Z; exact Z; exact Z; intro E hE; (refine AOps.E Z Z Z Z Z Z ?_); exact AOps.nil ⟨Z,Z⟩
   apply e6.go; exact Z; exact Z; exact Z; intro E hE; (refine W.fieldAddr Z Z Z Z ?_); exact AOps.nil ⟨Z,Z⟩
   apply e6.go; exact Z; exact Z; exact Z; intro E hE; (refine AOps.E Z Z Z Z Z Z ?_); exact AOps.nil ⟨Z,Z⟩
   apply e6.eff; exact Z; exact Z; exact Z; exact Z; intro E hE; (refine AOps.newAt 2 (.c (.own 2 0 a10.length)) (vec 1 intI a10) (.inl Z) Z hE Z Z Z Z (.vec) (.vec) Z Z Z ⟨.one Z,.one Z,.dead,.dead,.dead,Y⟩ (fun hh=>by (refine S.fresh Z Z Z Z (m8 ha10) Z Z ?_; exact hh)) ?_); exact AOps.nil ⟨Z,Z⟩
   apply e6.go; exact Z; exact Z; exact Z; intro E hE; (refine W.fieldAddr Z Z Z Z ?_); exact AOps.nil ⟨Z,Z⟩
   apply e6.go; exact Z; exact Z; exact Z; intro E hE; (refine AOps.E Z Z Z Z Z Z ?_); exact AOps.nil ⟨Z,Z⟩
   refine e6.no Z (e6.no Z ?_)
   apply e6.eff; exact Z; exact Z; exact Z; exact Z; intro E hE; (refine AOps.allocAt 4 hE Z Z Z Z Z Z Z ⟨.one Z,.one Z,.dead,.dead,.dead,Y⟩ Z ?_); exact AOps.nil ⟨Z,Z⟩
   refine e6.no Z (e6.nil)
  refine C4.cons ?_ ?_
  ·apply e6.go; exact Z; exact Z; exact Z; intro E hE; (refine W.fieldAddr Z Z Z Z ?_); exact AOps.nil ⟨Z,Z⟩
   apply e6.go; exact Z; exact Z; exact Z; intro E hE; (refine AOps.E Z Z Z Z Z Z ?_); exact AOps.nil ⟨Z,Z⟩
   refine e6.no Z (e6.no Z (e6.no Z ?_))
   apply e6.go; exact Z; exact Z; exact Z; intro E hE; (refine W.fieldAddr Z Z Z Z ?_); exact AOps.nil ⟨Z,Z⟩
   apply e6.go; exact Z; exact Z; exact Z; intro E hE; (refine AOps.E Z Z Z Z Z Z ?_); exact AOps.nil ⟨Z,Z⟩
   apply e6.eff; exact Z; exact Z; exact Z; exact Z; intro E hE; (refine AOps.newAt 3 (.c (.own 3 0 a13.length)) (vec 1 intI a13) (.inl Z) Z hE Z Z Z Z (.vec) (.vec) Z Z Z ⟨.one Z,.one Z,.vec,.dead,.dead,Y⟩ (fun hh=>by (refine S.fresh Z Z Z Z (m8 ha13) Z Z ?_; exact hh)) ?_); exact AOps.nil ⟨Z,Z⟩
   refine e6.no Z ?_
   apply e6.eff; exact Z; exact Z; exact Z; exact Z; intro E hE; (refine AOps.allocAt 4 hE Z Z Z Z Z Z Z ⟨.one Z,.one Z,.vec,.dead,.dead,Y⟩ Z ?_); exact AOps.nil ⟨Z,Z⟩
   refine e6.no Z (e6.nil)
  refine C4.cons ?_ ?_
  ·apply e6.go; exact Z; exact Z; exact Z; intro E hE; (refine W.fieldAddr Z Z Z Z ?_); exact AOps.nil ⟨Z,Z⟩
   apply e6.go; exact Z; exact Z; exact Z; intro E hE; (refine AOps.E Z Z Z Z Z Z ?_); exact AOps.nil ⟨Z,Z⟩
   refine e6.no Z (e6.no Z (e6.no Z (e6.no Z (e6.no Z (e6.no Z ?_)))))
   apply e6.go; exact Z; exact Z; exact Z; intro E hE; (refine W.build Z Z Z Z ?_); exact AOps.nil ⟨Z,Z⟩
   apply e6.eff; exact Z; exact Z; exact Z; exact Z; intro E hE; (refine AOps.allocAt 4 hE Z Z Z Z Z Z Z ⟨.one Z,.one Z,.vec,.vec,.dead,Y⟩ Z ?_); exact AOps.nil ⟨Z,Z⟩
   refine e6.no Z (e6.nil)
  refine C4.cons ?_ ?_
  ·apply e6.go; exact Z; exact Z; exact Z; intro E hE; (refine W.fieldAddr Z Z Z Z ?_); exact AOps.nil ⟨Z,Z⟩
   apply e6.go; exact Z; exact Z; exact Z; intro E hE; (refine AOps.E Z Z Z Z Z Z ?_); exact AOps.nil ⟨Z,Z⟩
   apply e6.go; exact Z; exact Z; exact Z; intro E hE; (refine W.fieldAddr Z Z Z Z ?_); exact AOps.nil ⟨Z,Z⟩
   apply e6.go; exact Z; exact Z; exact Z; intro E hE; (refine AOps.E Z Z Z Z Z Z ?_); exact AOps.nil ⟨Z,Z⟩
   apply e6.eff; exact Z; exact Z; exact Z; exact Z; intro E hE; (refine AOps.newAt 2 (.c (.own 2 0 a10.length)) (vec 1 intI a10) (.inl Z) Z hE Z Z Z Z (.vec) (.vec) Z Z Z ⟨.one Z,.one Z,.dead,.dead,.one Z,Y⟩ (fun hh=>by (refine S.fresh Z Z Z Z (m8 ha10) Z Z ?_; exact hh)) ?_); exact AOps.nil ⟨Z,Z⟩
   apply e6.go; exact Z; exact Z; exact Z; intro E hE; (refine W.fieldAddr Z Z Z Z ?_); exact AOps.nil ⟨Z,Z⟩
   apply e6.go; exact Z; exact Z; exact Z; intro E hE; (refine AOps.E Z Z Z Z Z Z ?_); exact AOps.nil ⟨Z,Z⟩
   refine e6.no Z (e6.no Z (e6.no Z (e6.no Z (e6.nil))))
  refine C4.cons ?_ ?_
  ·apply e6.go; exact Z; exact Z; exact Z; intro E hE; (refine W.fieldAddr Z Z Z Z ?_); exact AOps.nil ⟨Z,Z⟩
   apply e6.go; exact Z; exact Z; exact Z; intro E hE; (refine AOps.E Z Z Z Z Z Z ?_); exact AOps.nil ⟨Z,Z⟩
   refine e6.no Z (e6.no Z (e6.no Z ?_))
   apply e6.go; exact Z; exact Z; exact Z; intro E hE; (refine W.fieldAddr Z Z Z Z ?_); exact AOps.nil ⟨Z,Z⟩
   apply e6.go; exact Z; exact Z; exact Z; intro E hE; (refine AOps.E Z Z Z Z Z Z ?_); exact AOps.nil ⟨Z,Z⟩
   apply e6.eff; exact Z; exact Z; exact Z; exact Z; intro E hE; (refine AOps.newAt 3 (.c (.own 3 0 a13.length)) (vec 1 intI a13) (.inl Z) Z hE Z Z Z Z (.vec) (.vec) Z Z Z ⟨.one Z,.one Z,.vec,.dead,.one Z,Y⟩ (fun hh=>by (refine S.fresh Z Z Z Z (m8 ha13) Z Z ?_; exact hh)) ?_); exact AOps.nil ⟨Z,Z⟩
   refine e6.no Z (e6.no Z (e6.no Z (e6.nil)))
  refine C4.cons ?_ ?_
  ·apply e6.go; exact Z; exact Z; exact Z; intro E hE; (refine W.fieldAddr Z Z Z Z ?_); exact AOps.nil ⟨Z,Z⟩
   apply e6.go; exact Z; exact Z; exact Z; intro E hE; (refine AOps.E Z Z Z Z Z Z ?_); exact AOps.nil ⟨Z,Z⟩
   refine e6.no Z (e6.no Z (e6.no Z (e6.no Z (e6.no Z (e6.no Z ?_)))))
   apply e6.go; exact Z; exact Z; exact Z; intro E hE; (refine W.build Z Z Z Z ?_); exact AOps.nil ⟨Z,Z⟩
   refine e6.no Z ?_
   apply e6.eff; exact Z; exact Z; exact Z; exact Z; intro E hE; (refine W.storeAgg Z Z Z Z Z Z Z ?_); exact AOps.nil ⟨Z,Z⟩
   exact e6.nil
  refine C4.cons ?_ ?_
  ·refine e6.no Z (e6.no Z (e6.no Z (e6.no Z (e6.no Z (e6.no Z (e6.no Z (e6.no Z (e6.no Z (e6.no Z (e6.no Z (e6.nil)))))))))))
  exact C4.nil
 dsimp only [j9]
 refine b6 (.q (.q (.u (W.fieldAddr Z Z Z Z (.E Z Z Z Z Z Z (S.len Z Z (fun hl17=>.j Z Z (.nil (b6 (.J (.virtBO 4 preOp postOp f9.add 1 intI (b:=4) (o:=3) Z Z Z Z Z Z Z Z ?_)))))))))))
 obtain ⟨c55,ho1,h⟩:=bind_some h
 refine AWP.forS ho1 (fun t56 c55=>⟨[(2,.c (.ptr 1 0 0)),(3,.c (.ptr 4 0 0)),(16,.c (row 4 f8 t.operators)),(17,.c (int (t.operators.length:Int))),(18,.c (int t56))],[.dead,.one (.cells 4 [[int 0,.imm (.val nL),.imm (.val nL),.imm (.val nL)]]),.one (vec 1 intI a10),.one (vec 1 intI a13),.one (.cells 4 [[int t.facts,.own 2 0 a10.length,.own 3 0 a13.length,.own 5 0 c55.length]]),omOp 5 c55]⟩) (fun c55 e st=>e=.exit 0∧Sub (ag6 t) st ⟨[(2,.c (.ptr 1 0 0)),(3,.c (.ptr 4 0 0))],[.dead,.one (.cells 4 [[int 0,.imm (.val nL),.imm (.val nL),.imm (.val nL)]]),.one (vec 1 intI a10),.one (vec 1 intI a13),.one (.cells 4 [[int t.facts,.own 2 0 a10.length,.own 3 0 a13.length,.own 5 0 c55.length]]),omOp 5 c55]⟩) ?_ ?_ ?_ ?_
 ·try dsimp only
  exact Sub.cut ⟨Z,Z,Z,Z,Z,Y⟩ Z ⟨.dead,.one Z,.vec,.vec,.one Z,(.any (om_ok Z)),Y⟩ Z
 ·intro t56 c55 hlot56 hltt56 _
  try dsimp only
  refine AWP.q (.u (.F Z Z Z (.nil (b6 (.q (.ae Z hltt56 (.exit (e8 (e8 ⟨Z, ?_⟩)))))))))
  exact Sub.env ⟨Z,Z,Y⟩
 ·intro t56 c55 o hlot56 hltt56 h
  unfold G9 at h
  try dsimp only at h ⊢
  refine AWP.q (.u (.F Z Z Z (.nil (b6 (.q (.af Z hltt56 (.skip (b6 (.q (.J (.q ?_)))))))))))
  obtain ⟨a20,ha20,h⟩:=bind_some h
  refine AWP.u (S.idx ha20 Z Z Z Z (W.loadIAgg Z Z Z Z Z (W.alloc Z Z Z Z (W.storeAgg Z Z Z Z Z Z Z (.nil (b6 ?_))))))
  obtain ⟨a26,ha26,a29,ha29,a32,ha32,h⟩:=b3 h
  obtain ⟨a37,ha37,h⟩:=bind_some h
  refine AWP.drawEI [7,14,15,17] mixed Z Z Z ?_
  refine d6.consN Z Z (fun E=>W.fieldAddr Z Z Z Z .N) Z (.consN Z Z (fun E=>AOps.E Z Z Z Z Z Z .N) Z (.consN Z Z (fun E=>W.fieldAddr Z Z Z Z .N) Z (.consN Z Z (fun E=>AOps.E Z Z Z Z Z Z .N) Z (.consN Z Z (fun E=>AOps.O Z Z Z Z (m5.data (m8 ha26)) Z .N) Z (.consN Z Z (fun E=>W.fieldAddr Z Z Z Z .N) Z (.consN Z Z (fun E=>AOps.E Z Z Z Z Z Z .N) Z ?_))))))
  apply d6.consE; exact Z; exact Z; intro E
  refine S.fresh Z Z Z Z (m8 ha29) Z Z .N
  exact Z
  exact Z
  refine d6.consN Z Z (fun E=>W.fieldAddr Z Z Z Z .N) Z (.consN Z Z (fun E=>AOps.E Z Z Z Z Z Z .N) Z (.consN Z Z (fun E=>AOps.O Z Z Z Z (m5.data (m8 ha32)) Z .N) Z (.consN Z Z (fun E=>W.fieldAddr Z Z Z Z .N) Z (.consN Z Z (fun E=>AOps.E Z Z Z Z Z Z .N) Z (.consN Z Z (fun E=>W.build Z Z Z Z .N) Z ?_)))))
  apply d6.consE; exact Z; exact Z; intro E
  refine W.lit1 Z Z Z Z Z Z Z Z Z .N
  exact Z
  exact Z
  apply d6.consE; exact Z; exact Z; intro E
  refine S.appendO (a:=(⟨a26,a29,a32,a20.cost⟩:f9)) ha37 Z Z Z Z Z Z Z Z Z Z Z Z Z Z Z Z .N
  exact Z
  exact Z
  refine d6.consN Z Z (fun E=>W.fieldAddr Z Z Z Z .N) Z ?_
  apply d6.consE (v:=.undef); exact Z; exact Z; intro E
  refine W.store Z Z Z Z Z .N
  exact Z
  exact Z
  refine d6.done Z ?_ ?_
  ·refine c9.cons Z Z ?_ ?_
   refine b7.go Z Z (fun E=>W.fieldAddr Z Z Z Z .N) ?_
   refine b7.go Z Z (fun E=>W.fieldAddr Z Z Z Z .N) ?_
   refine b7.go Z Z (fun E=>W.fieldAddr Z Z Z Z .N) ?_
   refine b7.skip Z (b7.skip Z (b7.nil))
   refine c9.cons Z Z ?_ ?_
   refine b7.go Z Z (fun E=>AOps.E Z Z Z Z Z Z .N) ?_
   refine b7.go Z Z (fun E=>AOps.E Z Z Z Z Z Z .N) ?_
   refine b7.go Z Z (fun E=>AOps.E Z Z Z Z Z Z .N) ?_
   refine b7.skip Z (b7.skip Z (b7.nil))
   refine c9.cons Z Z ?_ ?_
   refine b7.go Z Z (fun E=>W.fieldAddr Z Z Z Z .N) ?_
   refine b7.skip Z (b7.skip Z (b7.skip Z (b7.skip Z (b7.nil))))
   refine c9.cons Z Z ?_ ?_
   refine b7.go Z Z (fun E=>AOps.E Z Z Z Z Z Z .N) ?_
   refine b7.skip Z (b7.skip Z (b7.skip Z (b7.skip Z (b7.nil))))
   refine c9.cons Z Z ?_ ?_
   refine b7.go Z Z (fun E=>AOps.O Z Z Z Z (m5.data (m8 ha26)) Z .N) ?_
   refine b7.skip Z (b7.skip Z (b7.skip Z (b7.skip Z (b7.nil))))
   refine c9.cons Z Z ?_ ?_
   refine b7.go Z Z (fun E=>W.fieldAddr Z Z Z Z .N) ?_
   refine b7.skip Z (b7.skip Z (b7.skip Z (b7.skip Z (b7.nil))))
   refine c9.cons Z Z ?_ ?_
   refine b7.go Z Z (fun E=>AOps.E Z Z Z Z Z Z .N) ?_
   refine b7.skip Z (b7.skip Z (b7.skip Z (b7.skip Z (b7.nil))))
   refine c9.skip Z ?_
   refine c9.cons Z Z ?_ ?_
   refine b7.go Z Z (fun E=>W.fieldAddr Z Z Z Z .N) ?_
   refine b7.go Z Z (fun E=>W.fieldAddr Z Z Z Z .N) ?_
   refine b7.skip Z (b7.skip Z (b7.skip Z (b7.nil)))
   refine c9.cons Z Z ?_ ?_
   refine b7.go Z Z (fun E=>AOps.E Z Z Z Z Z Z .N) ?_
   refine b7.go Z Z (fun E=>AOps.E Z Z Z Z Z Z .N) ?_
   refine b7.skip Z (b7.skip Z (b7.skip Z (b7.nil)))
   refine c9.cons Z Z ?_ ?_
   refine b7.skip Z ?_
   refine b7.go Z Z (fun E=>AOps.O Z Z Z Z (m5.data (m8 ha32)) Z .N) ?_
   refine b7.skip Z (b7.skip Z (b7.skip Z (b7.nil)))
   refine c9.cons Z Z ?_ ?_
   refine b7.go Z Z (fun E=>W.fieldAddr Z Z Z Z .N) ?_
   refine b7.go Z Z (fun E=>W.fieldAddr Z Z Z Z .N) ?_
   refine b7.skip Z (b7.skip Z (b7.skip Z (b7.nil)))
   refine c9.cons Z Z ?_ ?_
   refine b7.go Z Z (fun E=>AOps.E Z Z Z Z Z Z .N) ?_
   refine b7.go Z Z (fun E=>AOps.E Z Z Z Z Z Z .N) ?_
   refine b7.skip Z (b7.skip Z (b7.skip Z (b7.nil)))
   refine c9.cons Z Z ?_ ?_
   refine b7.skip Z ?_
   refine b7.go Z Z (fun E=>W.build Z Z Z Z .N) ?_
   refine b7.skip Z (b7.skip Z (b7.skip Z (b7.nil)))
   refine c9.skip Z (c9.skip Z ?_)
   refine c9.cons Z Z ?_ ?_
   refine b7.skip Z (b7.skip Z (b7.skip Z ?_))
   refine b7.go Z Z (fun E=>W.fieldAddr Z Z Z Z .N) ?_
   refine b7.skip Z (b7.nil)
   refine c9.skip Z (c9.nil)
  dsimp only [j9]
  refine e9 (b6 (.moveM (env':=[(2,.c (.ptr 1 0 0)),(3,.c (.ptr 4 0 0)),(16,.c (row 4 f8 t.operators)),(17,.c (int (t.operators.length:Int))),(18,.c (int t56))]) (σ':=[.dead,.one (.cells 4 [[int 0,.imm (.val nL),.imm (.val nL),.imm (.val nL)]]),.one (vec 1 intI a10),.one (vec 1 intI a13),.one (.cells 4 [[int t.facts,.own 2 0 a10.length,.own 3 0 a13.length,.own 5 0 a37.length]]),omOp 5 a37,.one (.cells 4 [[row 1 intI a20.pre,row 1 intI a20.add,row 1 intI a20.del,int a20.cost]]),.dead,.one (.cells 4 [[row 1 intI a26,.own 7 0 a29.length,row 1 intI a32,int a20.cost]])]) 5 9 Z Z Z ⟨Z,Z,Z,Z,Z,Y⟩ Z ⟨.dead,(.one Z Z),(.vec Z),(.vec Z),(.one Z Z),(EntR.omat Z Z Z),(.one Z Z),.dead,(.one Z Z),Y⟩ (.u (.add Z Z Z (by omega) (.j Z Z (.nil ?_))))))
  obtain rfl:=oi h
  refine b6 (Sub.cut ⟨Z,Z,Z,Z,Z,Y⟩ Z ⟨.dead,.one Z,.vec,.vec,.one Z,(.any (om_ok Z)),Y⟩ Z)
 ·intro e s hq
  obtain ⟨rfl,hs⟩:=hq
  refine ⟨_,hs, ?_⟩
  refine j5 (b6 (.q (.u (W.loadAgg Z Z Z Z Z Z Z (W.storeAgg Z Z Z Z Z Z Z (.nil (b6 (.ret ?_))))))))
  obtain rfl:=oi h
  exact ⟨⟨[(2,.c (.ptr 1 0 0))],[.dead,.one (.cells 4 [[int t.facts,.own 2 0 a10.length,.own 3 0 a13.length,.own 5 0 c55.length]]),.one (vec 1 intI a10),.one (vec 1 intI a13),.dead,omOp 5 c55]⟩,Sub.cut ⟨Z,Y⟩ Z ⟨.dead,.one Z,.vec,.vec,.dead,(.any (om_ok Z)),Y⟩ Z,Done.ret Z ⟨Z,Z⟩⟩
end Ab
end
section
namespace Ab
open Go Go.Proofs
open Tryz
set_option maxHeartbeats 4000000
set_option linter.all false
attribute [local irreducible] AWP AOps thn inB Done f4 m5 Sub
theorem as7{t:d7}{op:Int}{r:d7 × g8}(h:H4 t op=some r):f4 prog 79 [.agg (tT t),.c (int op)] (.tup [.agg (tT r.1),.agg [int r.2.code,int r.2.index]]):=by
 unfold f4
 refine FnOk.enter (rs:=[.cell 4 37 4,.cell 5 32 2]) func79 Z ntmps79 results79 Z ⟨rv _ Z,rv _ Z,Y⟩ (by kernel_rfl) Z ?_
 unfold H4 at h
 refine AWP.q (.u (W.box Z Z Z Z Z Z (W.alloc Z Z Z Z (W.alloc Z Z Z Z (.nil (b6 (.q (.q ?_))))))))
 obtain ⟨a10,ha10,h⟩:=bind_some h
 refine AWP.u (W.loadAgg Z Z Z Z Z Z Z (.j Z Z (.O Z Z Z Z (am6 ha10) Z (W.alloc Z Z Z Z (W.storeAgg Z Z Z Z Z Z Z (.nil (b6 (.q (.u (W.loadAgg Z Z Z Z Z Z Z (W.build Z Z Z Z (.neqP Z Z Z Z Z Z Z (.nil (b6 (.ab Z h (fun hc3 h=> ?_) (fun hc3 h=> ?_))))))))))))))))
 ·refine AWP.q (.drawEI [2,3] mixed Z Z Z ?_)
  refine d6.consN Z Z (fun E=>W.build Z Z Z Z .N) Z (.consN Z Z (fun E=>W.loadAgg Z Z Z Z Z Z Z .N) Z ?_)
  apply d6.consE (v:=.undef); exact Z; exact Z; intro E
  refine W.storeAgg Z Z Z Z Z Z Z .N
  exact Z
  exact Z
  apply d6.consE (v:=.undef); exact Z; exact Z; intro E
  refine W.storeAgg Z Z Z Z Z Z Z .N
  exact Z
  exact Z
  refine d6.done Z ?_ ?_
  ·refine c9.cons Z Z ?_ ?_
   refine b7.go Z Z (fun E=>W.build Z Z Z Z .N) ?_
   refine b7.skip Z (b7.skip Z (b7.nil))
   refine c9.cons Z Z ?_ ?_
   refine b7.go Z Z (fun E=>W.loadAgg Z Z Z Z Z Z Z .N) ?_
   refine b7.go Z Z (fun E=>W.loadAgg Z Z Z Z Z Z Z .N) ?_
   refine b7.skip Z (b7.nil)
   refine c9.skip Z (c9.skip Z (c9.nil))
  dsimp only [j9]
  refine b6 (.nilB (b:=1) [int 0,row 1 intI [],row 1 intI [],row 4 f8 []] Z (by exact ⟨.inl Z,.inr ⟨Z,_,Z⟩,.inr ⟨Z,_,Z⟩,.inr ⟨Z,_,Z⟩,Y⟩) Z Z (.ret (e7 ?_)))
  obtain rfl:=oi h
  exact Done.ret Z Z
 ·refine AWP.skip (b6 (.q (.q (.u (W.fieldAddr Z Z Z Z (.E Z Z Z Z Z Z (.eql Z Z Z (.nil (b6 (.ite Z h (fun hc4 h=> ?_) (fun hc4 h=> ?_)))))))))))
  ·refine AWP.q (.u (W.build Z Z Z Z (W.build Z Z Z Z (W.storeAgg Z Z Z Z Z Z Z (W.storeAgg Z Z Z Z Z Z Z (.nil (b6 (.nilB (b:=1) [int 0,row 1 intI [],row 1 intI [],row 4 f8 []] Z (by exact ⟨.inl Z,.inr ⟨Z,_,Z⟩,.inr ⟨Z,_,Z⟩,.inr ⟨Z,_,Z⟩,Y⟩) Z Z (.ret (e7 ?_))))))))))
   obtain rfl:=oi h
   exact Done.ret Z Z
  ·refine AWP.skip (b6 (.q ?_))
   obtain ⟨a22,ha22,ao5,hao5,h⟩:=b2 h
   refine AWP.u (W.loadAgg Z Z Z Z Z Z Z ?_)
   refine AOps.callF (r2:=.agg [int t.facts,.own 6 0 a22.1.length,.own 7 0 a22.2.1.length,.own 9 0 a22.2.2.length]) (σ'':=[.one (.cells 4 [(tT t)]),.one (.cells 4 [[int 0,.imm (.val nL),.imm (.val nL),.imm (.val nL)]]),.one (.cells 2 [[int 0,int 0]]),.one (.cells 2 [[int a10.code,int a10.index]]),.dead,.one (.cells 4 [[int t.facts,.own 6 0 a22.1.length,.own 7 0 a22.2.1.length,.own 9 0 a22.2.2.length]]),.one (vec 1 intI a22.1),.one (vec 1 intI a22.2.1),.dead,omOp 9 a22.2.2]) Z Z Z (FnOk.lend [] (as3 ha22) Z Z Z Z Z Z (by exact trivial) Z (by exact trivial) Z Z (by exact ⟨(.old Z Z Z),(.old Z Z Z),(.old Z Z Z),(.old Z Z Z),.dead,(.new 1 Z Z (.one Z)),(.new 2 Z Z .vec),(.new 3 Z Z .vec),.dead,(.new 5 Z Z (RenE.omat fun _=>Z)),Y⟩)) ?_; refine AOps.sub (s':=⟨[(0,.agg (tT t)),(1,.c (int op)),(2,.c (.ptr 0 0 0)),(4,.c (.ptr 1 0 0)),(5,.c (.ptr 2 0 0)),(6,.c (.ptr 3 0 0)),(8,.agg (tT t)),(9,.c (int op)),(10,.agg [int a10.code,int a10.index]),(11,.agg [int a10.code,int a10.index]),(12,.agg [int 0,int 0]),(13,.c (bool (!((decide (a10.code=0)) && (decide (a10.index=0)))))),(16,.c (.ptr 0 0 0)),(17,.c (int t.facts)),(18,.c (bool (decide (t.facts=24)))),(21,.agg (tT t)),(22,.agg [int t.facts,.own 6 0 a22.1.length,.own 7 0 a22.2.1.length,.own 9 0 a22.2.2.length])],[.one (.cells 4 [(tT t)]),.one (.cells 4 [[int 0,.imm (.val nL),.imm (.val nL),.imm (.val nL)]]),.one (.cells 2 [[int 0,int 0]]),.one (.cells 2 [[int a10.code,int a10.index]]),.dead,.one (.cells 4 [[int t.facts,.own 6 0 a22.1.length,.own 7 0 a22.2.1.length,.own 9 0 a22.2.2.length]]),.one (vec 1 intI a22.1),.one (vec 1 intI a22.2.1),.dead,omOp 9 a22.2.2]⟩) (Sub.env ⟨Z,Z,Z,Z,Z,Z,Z,Z,Z,Z,Z,Z,Z,Z,Z,Z,Z,Y⟩) ?_; refine AOps.sub (s':=⟨[(0,.agg (tT t)),(1,.c (int op)),(2,.c (.ptr 0 0 0)),(4,.c (.ptr 1 0 0)),(5,.c (.ptr 2 0 0)),(6,.c (.ptr 3 0 0)),(8,.agg (tT t)),(9,.c (int op)),(10,.agg [int a10.code,int a10.index]),(11,.agg [int a10.code,int a10.index]),(12,.agg [int 0,int 0]),(13,.c (bool (!((decide (a10.code=0)) && (decide (a10.index=0)))))),(16,.c (.ptr 0 0 0)),(17,.c (int t.facts)),(18,.c (bool (decide (t.facts=24)))),(21,.agg (tT t)),(22,.agg [int t.facts,.own 6 0 a22.1.length,.own 7 0 a22.2.1.length,.own 9 0 a22.2.2.length])],[.one (.cells 4 [(tT t)]),.one (.cells 4 [[int 0,.imm (.val nL),.imm (.val nL),.imm (.val nL)]]),.one (.cells 2 [[int 0,int 0]]),.one (.cells 2 [[int a10.code,int a10.index]]),.dead,.one (.cells 4 [[int t.facts,.own 6 0 a22.1.length,.own 7 0 a22.2.1.length,.own 9 0 a22.2.2.length]]),.one (vec 1 intI a22.1),.one (vec 1 intI a22.2.1),.dead,.one (vpOp a22.2.2 op.toNat 10 ao5.add.length ao5),.one (vec 1 intI ao5.add)]⟩) (Sub.splitO (r:=9) (n:=10) Z Z (O3 hao5).2 (RlL.all (by exact ⟨.one (fun _=>Z),.one (fun _=>Z),.one (fun _=>Z),.one (fun _=>Z),.dead,.one (fun _=>Z),.vec,.vec,.dead,.self,Y⟩)) Z Z Z Z) ?_
   refine W.alloc Z Z Z Z (W.storeAgg Z Z Z Z Z Z Z (.nil (b6 (.q ?_))))
   obtain ⟨a28,ha28,h⟩:=bind_some h
   refine AWP.u (W.fieldAddr Z Z Z Z (.E Z Z Z Z Z Z (W.fieldAddr Z Z Z Z (.E Z Z Z Z Z Z (S.lit (f:=intI) (l:=[t.facts]) (ess:=[[int t.facts]]) Z Z Z Z Z Z Z ⟨⟨.inl Z,Y⟩,Y⟩ Z Z Z (S.append (f:=intI) ha28 Z Z Z Z Z Z (.own Z Z) Z Z Z Z (W.fieldAddr Z Z Z Z (W.store Z Z Z Z Z (.nil (b6 (.q (.j (env':=[(1,.c (int op)),(4,.c (.ptr 1 0 0)),(5,.c (.ptr 2 0 0)),(7,.c (.ptr 11 0 0))]) (σ':=[.one (.cells 4 [(tT t)]),.one (.cells 4 [[int 0,.imm (.val nL),.imm (.val nL),.imm (.val nL)]]),.one (.cells 2 [[int 0,int 0]]),.one (.cells 2 [[int a10.code,int a10.index]]),.dead,.dead,.one (vec 1 intI a22.1),.one (vec 1 intI a28),.dead,.one (vpOp a22.2.2 op.toNat 10 ao5.add.length ao5),.one (vec 1 intI ao5.add),.one (.cells 4 [[int t.facts,.own 6 0 a22.1.length,.own 7 0 a28.length,.own 9 0 a22.2.2.length]]),.one (vec 1 intI [t.facts])]) 7 13 Z Z Z ⟨Z,Z,Z,Z,Y⟩ Z ⟨⟨Z,Z⟩,⟨Z,Z⟩,⟨Z,Z⟩,⟨Z,Z⟩,trivial,trivial,⟨Blk.im_ok _ _ _,g9 Z⟩,⟨Blk.im_ok _ _ _,g9 Z⟩,trivial,⟨vp_ok Z,vp_mv Z Z⟩,⟨Blk.im_ok _ _ _,g9 Z⟩,⟨Z,Z⟩,⟨Blk.im_ok _ _ _,g9 Z⟩,Y⟩ ?_))))))))))))
   obtain ⟨a42,ha42,h⟩:=bind_some h
   refine AWP.drawEI [11,12,15] mixed Z Z Z ?_
   refine d6.consN Z Z (fun E=>W.fieldAddr Z Z Z Z .N) Z (.consN Z Z (fun E=>AOps.E Z Z Z Z Z Z .N) Z (.consN Z Z (fun E=>AOps.j Z Z .N) Z (.consN Z Z (fun E=>W.fieldAddr Z Z Z Z .N) Z (.consN Z Z (fun E=>AOps.E Z Z Z Z Z Z .N) Z (.consN Z Z (fun E=>AOps.j Z Z .N) Z (.consN Z Z (fun E=>S.idxVP hao5 Z Z Z Z Z .N) Z (.consN Z Z (fun E=>W.fieldAddr Z Z Z Z .N) Z (.consN Z Z (fun E=>S.loadVP hao5 Z Z Z Z Z .N) Z (.consN Z Z (fun E=>W.fieldAddr Z Z Z Z .N) Z (.consN Z Z (fun E=>AOps.E Z Z Z Z Z Z .N) Z ?_))))))))))
   apply d6.consE; exact Z; exact Z; intro E
   refine S.lit (f:=intI) (l:=[t.facts]) (ess:=[[int t.facts]]) Z Z Z Z Z Z Z ⟨⟨.inl Z,Y⟩,Y⟩ Z Z Z .N
   exact Z
   exact Z
   apply d6.consE; exact Z; exact Z; intro E
   refine S.append (f:=intI) ha42 Z Z Z Z Z Z (.own Z Z) Z Z Z Z .N
   exact Z
   exact Z
   refine d6.consN Z Z (fun E=>S.idxVP hao5 Z Z Z Z Z .N) Z (.consN Z Z (fun E=>W.fieldAddr Z Z Z Z .N) Z ?_)
   apply d6.consE (v:=.undef); exact Z; exact Z; intro E
   refine S.storeVP hao5 Z Z Z Z Z .N
   exact Z
   exact Z
   refine d6.done Z ?_ ?_
   ·refine c9.cons Z Z ?_ ?_
    refine b7.go Z Z (fun E=>W.fieldAddr Z Z Z Z .N) ?_
    refine b7.go Z Z (fun E=>W.fieldAddr Z Z Z Z .N) ?_
    refine b7.go Z Z (fun E=>W.fieldAddr Z Z Z Z .N) ?_
    refine b7.skip Z (b7.nil)
    refine c9.cons Z Z ?_ ?_
    refine b7.go Z Z (fun E=>AOps.E Z Z Z Z Z Z .N) ?_
    refine b7.go Z Z (fun E=>AOps.E Z Z Z Z Z Z .N) ?_
    refine b7.go Z Z (fun E=>AOps.E Z Z Z Z Z Z .N) ?_
    refine b7.skip Z (b7.nil)
    refine c9.cons Z Z ?_ ?_
    refine b7.go Z Z (fun E=>AOps.j Z Z .N) ?_
    refine b7.go Z Z (fun E=>AOps.j Z Z .N) ?_
    refine b7.go Z Z (fun E=>AOps.j Z Z .N) ?_
    refine b7.skip Z (b7.nil)
    refine c9.cons Z Z ?_ ?_
    refine b7.go Z Z (fun E=>W.fieldAddr Z Z Z Z .N) ?_
    refine b7.go Z Z (fun E=>W.fieldAddr Z Z Z Z .N) ?_
    refine b7.skip Z (b7.skip Z (b7.nil))
    refine c9.cons Z Z ?_ ?_
    refine b7.go Z Z (fun E=>AOps.E Z Z Z Z Z Z .N) ?_
    refine b7.go Z Z (fun E=>AOps.E Z Z Z Z Z Z .N) ?_
    refine b7.skip Z (b7.skip Z (b7.nil))
    refine c9.cons Z Z ?_ ?_
    refine b7.go Z Z (fun E=>AOps.j Z Z .N) ?_
    refine b7.go Z Z (fun E=>AOps.j Z Z .N) ?_
    refine b7.skip Z (b7.skip Z (b7.nil))
    refine c9.cons Z Z ?_ ?_
    refine b7.go Z Z (fun E=>S.idxVP hao5 Z Z Z Z Z .N) ?_
    refine b7.go Z Z (fun E=>S.idxVP hao5 Z Z Z Z Z .N) ?_
    refine b7.skip Z (b7.skip Z (b7.nil))
    refine c9.cons Z Z ?_ ?_
    refine b7.go Z Z (fun E=>W.fieldAddr Z Z Z Z .N) ?_
    refine b7.go Z Z (fun E=>W.fieldAddr Z Z Z Z .N) ?_
    refine b7.skip Z (b7.skip Z (b7.nil))
    refine c9.cons Z Z ?_ ?_
    refine b7.go Z Z (fun E=>S.loadVP hao5 Z Z Z Z Z .N) ?_
    refine b7.go Z Z (fun E=>S.loadVP hao5 Z Z Z Z Z .N) ?_
    refine b7.skip Z (b7.skip Z (b7.nil))
    refine c9.cons Z Z ?_ ?_
    refine b7.go Z Z (fun E=>W.fieldAddr Z Z Z Z .N) ?_
    refine b7.skip Z (b7.skip Z (b7.skip Z (b7.nil)))
    refine c9.cons Z Z ?_ ?_
    refine b7.go Z Z (fun E=>AOps.E Z Z Z Z Z Z .N) ?_
    refine b7.skip Z (b7.skip Z (b7.skip Z (b7.nil)))
    refine c9.skip Z (c9.skip Z ?_)
    refine c9.cons Z Z ?_ ?_
    refine b7.skip Z (b7.skip Z ?_)
    refine b7.go Z Z (fun E=>S.idxVP hao5 Z Z Z Z Z .N) ?_
    refine b7.skip Z (b7.nil)
    refine c9.cons Z Z ?_ ?_
    refine b7.skip Z (b7.skip Z ?_)
    refine b7.go Z Z (fun E=>W.fieldAddr Z Z Z Z .N) ?_
    refine b7.skip Z (b7.nil)
    refine c9.skip Z (c9.nil)
   dsimp only [j9]
   refine b6 (.q (.j (env':=[(4,.c (.ptr 1 0 0)),(5,.c (.ptr 2 0 0)),(7,.c (.ptr 11 0 0))]) (σ':=[.one (.cells 4 [(tT t)]),.one (.cells 4 [[int 0,.imm (.val nL),.imm (.val nL),.imm (.val nL)]]),.one (.cells 2 [[int 0,int 0]]),.one (.cells 2 [[int a10.code,int a10.index]]),.dead,.dead,.one (vec 1 intI a22.1),.one (vec 1 intI a28),.dead,.one (vpOp a22.2.2 op.toNat 10 a42.length ao5),.one (vec 1 intI a42),.one (.cells 4 [[int t.facts,.own 6 0 a22.1.length,.own 7 0 a28.length,.own 9 0 a22.2.2.length]]),.one (vec 1 intI [t.facts]),.one (vec 1 intI [t.facts])]) 10 14 Z Z Z ⟨Z,Z,Z,Y⟩ Z ⟨⟨Z,Z⟩,⟨Z,Z⟩,⟨Z,Z⟩,⟨Z,Z⟩,trivial,trivial,⟨Blk.im_ok _ _ _,g9 Z⟩,⟨Blk.im_ok _ _ _,g9 Z⟩,trivial,⟨vp_ok Z,vp_mv Z Z⟩,⟨Blk.im_ok _ _ _,g9 Z⟩,⟨Z,Z⟩,⟨Blk.im_ok _ _ _,g9 Z⟩,⟨Blk.im_ok _ _ _,g9 Z⟩,Y⟩ (.u (W.fieldAddr Z Z Z Z (.E Z Z Z Z Z Z (S.add Z Z Z (W.fieldAddr Z Z Z Z (W.store Z Z Z Z Z (.nil (b6 (.q (.u (W.loadAgg Z Z Z Z Z Z Z (W.build Z Z Z Z (W.storeAgg Z Z Z Z Z Z Z (W.storeAgg Z Z Z Z Z Z Z (.nil (b6 (.frzW (id:=10) (M:=a42) (env2:=[(4,.c (.ptr 1 0 0)),(5,.c (.ptr 2 0 0))]) (σ2:=[.one (.cells 4 [(tT t)]),.one (.cells 4 [[int (w64 (t.facts+1)),.own 6 0 a22.1.length,.own 7 0 a28.length,.own 9 0 a22.2.2.length]]),.one (.cells 2 [[int 0,int 0]]),.one (.cells 2 [[int a10.code,int a10.index]]),.dead,.dead,.one (vec 1 intI a22.1),.one (vec 1 intI a28),.dead,.one (vec 4 f8 (a22.2.2.set op.toNat (⟨ao5.pre,a42,ao5.del,ao5.cost⟩:f9))),.dead,.one (.cells 4 [[int (w64 (t.facts+1)),.own 6 0 a22.1.length,.own 7 0 a28.length,.own 9 0 a22.2.2.length]]),.one (vec 1 intI [t.facts]),.one (vec 1 intI [t.facts])]) Z Z (by exact ⟨⟨_,Z,.inl ⟨Z,Z⟩⟩,⟨_,Z,.inl ⟨Z,Z⟩⟩,Y⟩) Z (by exact ⟨.old ⟨Z,.inl ⟨Z,Z⟩,.inl ⟨Z,Z⟩,.inl ⟨Z,Z⟩,.inl ⟨Z,Z⟩,Y⟩,.old ⟨Z,.inl ⟨Z,Z⟩,.inl ⟨Z,Z⟩,.inl ⟨Z,Z⟩,.inl ⟨Z,Z⟩,Y⟩,.old ⟨Z,.inl ⟨Z,Z⟩,.inl ⟨Z,Z⟩,Y⟩,.old ⟨Z,.inl ⟨Z,Z⟩,.inl ⟨Z,Z⟩,Y⟩,.old (trivial),.old (trivial),.old (FrzB.vec),.old (FrzB.vec),.old (trivial),(.any (vp_frz Z Z)),.old (trivial),.old ⟨Z,.inl ⟨Z,Z⟩,.inl ⟨Z,Z⟩,.inl ⟨Z,Z⟩,.inl ⟨Z,Z⟩,Y⟩,.old (FrzB.vec),.old (FrzB.vec),Y⟩) (.frzV (id:=6) (l:=a22.1) (env2:=[(4,.c (.ptr 1 0 0)),(5,.c (.ptr 2 0 0))]) (σ2:=[.one (.cells 4 [(tT t)]),.one (.cells 4 [[int (w64 (t.facts+1)),row 1 intI a22.1,.own 7 0 a28.length,.own 9 0 a22.2.2.length]]),.one (.cells 2 [[int 0,int 0]]),.one (.cells 2 [[int a10.code,int a10.index]]),.dead,.dead,.dead,.one (vec 1 intI a28),.dead,.one (vec 4 f8 (a22.2.2.set op.toNat (⟨ao5.pre,a42,ao5.del,ao5.cost⟩:f9))),.dead,.one (.cells 4 [[int (w64 (t.facts+1)),row 1 intI a22.1,.own 7 0 a28.length,.own 9 0 a22.2.2.length]]),.one (vec 1 intI [t.facts]),.one (vec 1 intI [t.facts])]) Z Z (by exact ⟨⟨_,Z,.inl ⟨Z,Z⟩⟩,⟨_,Z,.inl ⟨Z,Z⟩⟩,Y⟩) Z (by exact ⟨⟨Z,.inl ⟨Z,Z⟩,.inl ⟨Z,Z⟩,.inl ⟨Z,Z⟩,.inl ⟨Z,Z⟩,Y⟩,⟨Z,.inl ⟨Z,Z⟩,.inr ⟨_,Z,Z,Z⟩,.inl ⟨Z,Z⟩,.inl ⟨Z,Z⟩,Y⟩,⟨Z,.inl ⟨Z,Z⟩,.inl ⟨Z,Z⟩,Y⟩,⟨Z,.inl ⟨Z,Z⟩,.inl ⟨Z,Z⟩,Y⟩,trivial,trivial,trivial,FrzB.vec,trivial,FrzB.vec,trivial,⟨Z,.inl ⟨Z,Z⟩,.inr ⟨_,Z,Z,Z⟩,.inl ⟨Z,Z⟩,.inl ⟨Z,Z⟩,Y⟩,FrzB.vec,FrzB.vec,Y⟩) (.frzV (id:=7) (l:=a28) (env2:=[(4,.c (.ptr 1 0 0)),(5,.c (.ptr 2 0 0))]) (σ2:=[.one (.cells 4 [(tT t)]),.one (.cells 4 [[int (w64 (t.facts+1)),row 1 intI a22.1,row 1 intI a28,.own 9 0 a22.2.2.length]]),.one (.cells 2 [[int 0,int 0]]),.one (.cells 2 [[int a10.code,int a10.index]]),.dead,.dead,.dead,.dead,.dead,.one (vec 4 f8 (a22.2.2.set op.toNat (⟨ao5.pre,a42,ao5.del,ao5.cost⟩:f9))),.dead,.one (.cells 4 [[int (w64 (t.facts+1)),row 1 intI a22.1,row 1 intI a28,.own 9 0 a22.2.2.length]]),.one (vec 1 intI [t.facts]),.one (vec 1 intI [t.facts])]) Z Z (by exact ⟨⟨_,Z,.inl ⟨Z,Z⟩⟩,⟨_,Z,.inl ⟨Z,Z⟩⟩,Y⟩) Z (by exact ⟨⟨Z,.inl ⟨Z,Z⟩,.inl ⟨Z,Z⟩,.inl ⟨Z,Z⟩,.inl ⟨Z,Z⟩,Y⟩,⟨Z,.inl ⟨Z,Z⟩,.inl ⟨Z,Z⟩,.inr ⟨_,Z,Z,Z⟩,.inl ⟨Z,Z⟩,Y⟩,⟨Z,.inl ⟨Z,Z⟩,.inl ⟨Z,Z⟩,Y⟩,⟨Z,.inl ⟨Z,Z⟩,.inl ⟨Z,Z⟩,Y⟩,trivial,trivial,trivial,trivial,trivial,FrzB.vec,trivial,⟨Z,.inl ⟨Z,Z⟩,.inl ⟨Z,Z⟩,.inr ⟨_,Z,Z,Z⟩,.inl ⟨Z,Z⟩,Y⟩,FrzB.vec,FrzB.vec,Y⟩) (.frzV (id:=9) (l:=a22.2.2.set op.toNat (⟨ao5.pre,a42,ao5.del,ao5.cost⟩:f9)) (env2:=[(4,.c (.ptr 1 0 0)),(5,.c (.ptr 2 0 0))]) (σ2:=[.one (.cells 4 [(tT t)]),.one (.cells 4 [[int (w64 (t.facts+1)),row 1 intI a22.1,row 1 intI a28,row 4 f8 (a22.2.2.set op.toNat (⟨ao5.pre,a42,ao5.del,ao5.cost⟩:f9))]]),.one (.cells 2 [[int 0,int 0]]),.one (.cells 2 [[int a10.code,int a10.index]]),.dead,.dead,.dead,.dead,.dead,.dead,.dead,.one (.cells 4 [[int (w64 (t.facts+1)),row 1 intI a22.1,row 1 intI a28,row 4 f8 (a22.2.2.set op.toNat (⟨ao5.pre,a42,ao5.del,ao5.cost⟩:f9))]]),.one (vec 1 intI [t.facts]),.one (vec 1 intI [t.facts])]) Z Z (by exact ⟨⟨_,Z,.inl ⟨Z,Z⟩⟩,⟨_,Z,.inl ⟨Z,Z⟩⟩,Y⟩) Z (by exact ⟨⟨Z,.inl ⟨Z,Z⟩,.inl ⟨Z,Z⟩,.inl ⟨Z,Z⟩,.inl ⟨Z,Z⟩,Y⟩,⟨Z,.inl ⟨Z,Z⟩,.inl ⟨Z,Z⟩,.inl ⟨Z,Z⟩,.inr ⟨_,Z,(by simp only [List.length_set]),Z⟩,Y⟩,⟨Z,.inl ⟨Z,Z⟩,.inl ⟨Z,Z⟩,Y⟩,⟨Z,.inl ⟨Z,Z⟩,.inl ⟨Z,Z⟩,Y⟩,trivial,trivial,trivial,trivial,trivial,trivial,trivial,⟨Z,.inl ⟨Z,Z⟩,.inl ⟨Z,Z⟩,.inl ⟨Z,Z⟩,.inr ⟨_,Z,(by simp only [List.length_set]),Z⟩,Y⟩,FrzB.vec,FrzB.vec,Y⟩) (.ret ?_)))))))))))))))))))))))
   obtain rfl:=oi h
   exact Done.ret Z Z
theorem at7{t:d7}{op:Int}{r:Int × g8}(h:M5 t op=some r):f4 prog 33 [.agg (tT t),.c (int op)] (.tup [.c (int r.1),.agg [int r.2.code,int r.2.index]]):=by
 unfold f4
 refine FnOk.enter (rs:=[.t 4,.cell 5 32 2]) func33 Z ntmps33 results33 Z ⟨trivial,rv _ Z,Y⟩ (by kernel_rfl) Z ?_
 unfold M5 at h
 refine AWP.q (.u (W.box Z Z Z Z Z Z (.v Z Z (W.alloc Z Z Z Z (.nil (b6 (.q (.q ?_))))))))
 obtain ⟨a11,ha11,h⟩:=bind_some h
 refine AWP.u (W.loadAgg Z Z Z Z Z Z Z (.j Z Z (.O Z Z Z Z (at3 ha11) Z (W.alloc Z Z Z Z (W.storeAgg Z Z Z Z Z Z Z (.nil (b6 (.q (.u (W.loadAgg Z Z Z Z Z Z Z (W.build Z Z Z Z (.neqP Z Z Z Z Z Z Z (.nil (b6 (.ab Z h (fun hc3 h=> ?_) (fun hc3 h=> ?_))))))))))))))))
 ·refine AWP.q (.drawEI [2] mixed Z Z Z ?_)
  refine d6.consN Z Z (fun E=>W.loadAgg Z Z Z Z Z Z Z .N) Z (.consN Z Z (fun E=>AOps.v Z Z .N) Z ?_)
  apply d6.consE (v:=.undef); exact Z; exact Z; intro E
  refine W.storeAgg Z Z Z Z Z Z Z .N
  exact Z
  exact Z
  refine d6.done Z ?_ ?_
  ·refine c9.cons Z Z ?_ ?_
   refine b7.go Z Z (fun E=>W.loadAgg Z Z Z Z Z Z Z .N) ?_
   refine b7.skip Z (b7.nil)
   refine c9.cons Z Z ?_ ?_
   refine b7.go Z Z (fun E=>AOps.v Z Z .N) ?_
   refine b7.skip Z (b7.nil)
   refine c9.skip Z (c9.nil)
  dsimp only [j9]
  refine b6 (.ret (e7 ?_))
  obtain rfl:=oi h
  exact Done.ret Z Z
 ·refine AWP.skip (b6 (.q ?_))
  obtain ⟨a19,ha19,h⟩:=bind_some h
  refine AWP.u (W.loadAgg Z Z Z Z Z Z Z (.j Z Z (.O Z Z Z Z (as7 ha19) Z (.j Z Z (.ac Z Z Z (.ac Z Z Z (W.alloc Z Z Z Z (W.alloc Z Z Z Z (W.storeAgg Z Z Z Z Z Z Z (W.storeAgg Z Z Z Z Z Z Z (.nil (b6 (.q (.q (.u (W.loadAgg Z Z Z Z Z Z Z (W.build Z Z Z Z (.neqP Z Z Z Z Z Z Z (.nil (b6 (.ab Z h (fun hc4 h=> ?_) (fun hc4 h=> ?_))))))))))))))))))))))
  ·refine AWP.q (.drawEI [2] mixed Z Z Z ?_)
   refine d6.consN Z Z (fun E=>W.loadAgg Z Z Z Z Z Z Z .N) Z (.consN Z Z (fun E=>AOps.v Z Z .N) Z ?_)
   apply d6.consE (v:=.undef); exact Z; exact Z; intro E
   refine W.storeAgg Z Z Z Z Z Z Z .N
   exact Z
   exact Z
   refine d6.done Z ?_ ?_
   ·refine c9.cons Z Z ?_ ?_
    refine b7.go Z Z (fun E=>W.loadAgg Z Z Z Z Z Z Z .N) ?_
    refine b7.skip Z (b7.nil)
    refine c9.cons Z Z ?_ ?_
    refine b7.go Z Z (fun E=>AOps.v Z Z .N) ?_
    refine b7.skip Z (b7.nil)
    refine c9.skip Z (c9.nil)
   dsimp only [j9]
   refine b6 (.ret (e7 ?_))
   obtain rfl:=oi h
   exact Done.ret Z Z
  ·refine AWP.skip (b6 (.q ?_))
   obtain ⟨a27,ha27,h⟩:=bind_some h
   refine AWP.u (W.loadAgg Z Z Z Z Z Z Z (.O Z Z Z Z (au3 ha27) Z (.ac Z Z Z (.ac Z Z Z (.v Z Z (W.storeAgg Z Z Z Z Z Z Z (.nil (b6 (.ret ?_)))))))))
   obtain rfl:=oi h
   exact Done.ret Z Z
theorem ak7{r:Bool}(h:M6=some r):f4 prog 10 [] (.c (bool r)):=by
 unfold f4
 refine FnOk.enter (rs:=[.t 0]) func10 Z ntmps10 results10 Z ⟨trivial,Y⟩ (by kernel_rfl) Z ?_
 unfold M6 at h
 refine AWP.q (.u (.v Z Z (.nil (b6 (.q ?_)))))
 obtain ⟨a7,ha7,a8,ha8,h⟩:=b2 h
 refine AWP.u (.O Z Z Z Z (ao9 ha7) Z (.O Z Z Z Z (f4.nil (by exact ⟨⟨(.inl Z),(.inl Z),(.inl Z),(.inl Z),Y⟩,(.inr ⟨Z,_,Z⟩),Y⟩) (belief_Plan_ok ha8)) Z (.j Z Z (.ac Z Z Z (.ac Z Z Z (.ac Z Z Z (W.alloc Z Z Z Z (.v Z Z (.v Z Z (W.storeAgg Z Z Z Z Z Z Z (.nil (b6 (.q ?_)))))))))))))
 obtain ⟨a13,ha13,a14,ha14,h⟩:=b2 h
 refine AWP.u (.O Z Z Z Z (ao9 ha13) Z (.O Z Z Z Z (at7 ha14) Z (.j Z Z (.ac Z Z Z (.ac Z Z Z (W.alloc Z Z Z Z (.v Z Z (W.storeAgg Z Z Z Z Z Z Z (.nil (b6 ?_))))))))))
 obtain ⟨t1,hx2,h⟩:=bind_some h
 refine AWP.seqJ (⟨[(0,.c (bool t1))],[]⟩) ?_ ?_
 ·rcases bft (decide (a8.2.2.code=0)) with hb3 | hb3
  ·replace hx2:=P3 hb3 hx2
   rcases bft (decide (a14.2.code=0)) with hb4 | hb4
   ·replace hx2:=P3 hb4 hx2
    rcases bft (a8.2.1) with hb5 | hb5
    ·replace hx2:=T0 hb5 hx2
     obtain ⟨a31,ha31,hx2⟩:=bind_some hx2
     rcases bft (a31) with hb6 | hb6
     ·replace hx2:=T0 hb6 hx2
      refine AWP.u (W.fieldAddr Z Z Z Z (.E Z Z Z Z Z Z (.eql Z Z Z (.j Z Z (.z Z Z Z hb3 (W.fieldAddr Z Z Z Z (.z Z Z Z hb3 (.E Z Z Z Z Z Z (.z Z Z Z hb3 (.eql Z Z Z (.U Z hb3 Z Z (.j Z Z (.z Z Z Z hb4 (.j Z Z (.U Z hb4 Z Z (.j Z Z (.z Z Z Z hb5 (.j Z Z (.z Z Z Z hb5 (S.lit (f:=intI) (l:=[0]) (ess:=[[int 0]]) Z Z Z Z Z Z Z ⟨⟨.inl Z,Y⟩,Y⟩ Z Z Z (.z Z Z Z hb5 (.callL Z Z (.cons (.c .imm) (.cons (.c (.own Z Z)) .nil)) Z (as4 ha31) Z (.U Z hb5 Z Z (.j Z Z (.z Z Z Z hb6 (.j Z Z (.z Z Z Z hb6 (.eql Z Z Z (.U Z hb6 Z Z (.v Z Z (.nil ?_)))))))))))))))))))))))))))))))
      obtain rfl:=oi hx2
      refine b6 (Sub.cut ⟨Z,Y⟩ Z trivial Z)
     ·replace hx2:=S6 hb6 hx2
      refine AWP.u (W.fieldAddr Z Z Z Z (.E Z Z Z Z Z Z (.eql Z Z Z (.j Z Z (.z Z Z Z hb3 (W.fieldAddr Z Z Z Z (.z Z Z Z hb3 (.E Z Z Z Z Z Z (.z Z Z Z hb3 (.eql Z Z Z (.U Z hb3 Z Z (.j Z Z (.z Z Z Z hb4 (.j Z Z (.U Z hb4 Z Z (.j Z Z (.z Z Z Z hb5 (.j Z Z (.z Z Z Z hb5 (S.lit (f:=intI) (l:=[0]) (ess:=[[int 0]]) Z Z Z Z Z Z Z ⟨⟨.inl Z,Y⟩,Y⟩ Z Z Z (.z Z Z Z hb5 (.callL Z Z (.cons (.c .imm) (.cons (.c (.own Z Z)) .nil)) Z (as4 ha31) Z (.U Z hb5 Z Z (.j Z Z (.B Z Z Z hb6 (.B Z Z Z hb6 (.aa Z hb6 Z Z (.v Z Z (.nil ?_)))))))))))))))))))))))))))))
      obtain rfl:=oi hx2
      refine b6 (Sub.cut ⟨Z,Y⟩ Z trivial Z)
    ·replace hx2:=S6 hb5 hx2
     refine AWP.u (W.fieldAddr Z Z Z Z (.E Z Z Z Z Z Z (.eql Z Z Z (.j Z Z (.z Z Z Z hb3 (W.fieldAddr Z Z Z Z (.z Z Z Z hb3 (.E Z Z Z Z Z Z (.z Z Z Z hb3 (.eql Z Z Z (.U Z hb3 Z Z (.j Z Z (.z Z Z Z hb4 (.j Z Z (.U Z hb4 Z Z (.j Z Z (.B Z Z Z hb5 (.B Z Z Z hb5 (.B Z Z Z hb5 (.aa Z hb5 Z Z (.j Z Z (.B Z Z Z Z (.B Z Z Z Z (.aa Z Z Z Z (.v Z Z (.nil ?_))))))))))))))))))))))))))
     obtain rfl:=oi hx2
     refine b6 (Sub.cut ⟨Z,Y⟩ Z trivial Z)
   ·replace hx2:=P2 hb4 hx2
    refine AWP.u (W.fieldAddr Z Z Z Z (.E Z Z Z Z Z Z (.eql Z Z Z (.j Z Z (.z Z Z Z hb3 (W.fieldAddr Z Z Z Z (.z Z Z Z hb3 (.E Z Z Z Z Z Z (.z Z Z Z hb3 (.eql Z Z Z (.U Z hb3 Z Z (.j Z Z (.B Z Z Z hb4 (.aa Z hb4 Z Z (.j Z Z (.B Z Z Z Z (.B Z Z Z Z (.B Z Z Z Z (.aa Z Z Z Z (.j Z Z (.B Z Z Z Z (.B Z Z Z Z (.aa Z Z Z Z (.v Z Z (.nil ?_)))))))))))))))))))))))))
    obtain rfl:=oi hx2
    refine b6 (Sub.cut ⟨Z,Y⟩ Z trivial Z)
  ·replace hx2:=P2 hb3 hx2
   refine AWP.u (W.fieldAddr Z Z Z Z (.E Z Z Z Z Z Z (.eql Z Z Z (.j Z Z (.B Z Z Z hb3 (.B Z Z Z hb3 (.B Z Z Z hb3 (.aa Z hb3 Z Z (.j Z Z (.B Z Z Z Z (.aa Z Z Z Z (.j Z Z (.B Z Z Z Z (.B Z Z Z Z (.B Z Z Z Z (.aa Z Z Z Z (.j Z Z (.B Z Z Z Z (.B Z Z Z Z (.aa Z Z Z Z (.v Z Z (.nil ?_))))))))))))))))))))))
   obtain rfl:=oi hx2
   refine b6 (Sub.cut ⟨Z,Y⟩ Z trivial Z)
 ·refine AWP.ret ?_
  obtain rfl:=oi h
  exact Done.ret Z Z
theorem strips_Steps_ok{operators:Int}{plan:List Int}{r:g8}(h:U7 operators plan=some r):f4 prog 89 [.c (int operators),.c (row 1 intI plan)] (.agg [int r.code,int r.index]):=by
 unfold f4
 refine FnOk.enter (rs:=[.cell 4 32 2]) func89 Z ntmps89 results89 Z ⟨rv _ Z,Y⟩ (by kernel_rfl) Z ?_
 unfold U7 at h
 refine AWP.q (.u (W.alloc Z Z Z Z (.nil (b6 (.q (.q (.u (.j Z Z (S.len Z Z (fun hl8=>.gtr Z Z Z (.nil (b6 (.ite Z h (fun hc3 h=> ?_) (fun hc3 h=> ?_))))))))))))))
 ·refine AWP.q (.u (W.build Z Z Z Z (W.storeAgg Z Z Z Z Z Z Z (.nil (b6 (.ret (e7 ?_)))))))
  obtain rfl:=oi h
  exact Done.ret Z Z
 ·refine AWP.skip (b6 (.q (.q (.u (.j Z Z (S.len Z Z (fun hl12=>.j Z Z (.nil (b6 (.J ?_))))))))))
  obtain ⟨oo,ho1,h⟩:=bind_some h
  refine AWP.rngS ho1 (fun t4 _=>⟨[(0,.c (int operators)),(4,.c (.ptr 0 0 0)),(11,.c (row 1 intI plan)),(12,.c (int (plan.length:Int))),(13,.c (int t4))],[.one (.cells 2 [[int 0,int 0]])]⟩) (fun o e st=>match o with | .inl _=>e=.exit 0∧Sub [] st ⟨[(4,.c (.ptr 0 0 0))],[.one (.cells 2 [[int 0,int 0]])]⟩ | .inr x=>e=.ret∧Done [.cell 4 32 2] (fun t _=>t=.agg [int x.code,int x.index]) .ret st) ?_ ?_ ?_ ?_
  ·try dsimp only
   exact Sub.env ⟨Z,Z,Z,Z,Z,Y⟩
  ·intro t4 s hlot4 hltt4 _
   try dsimp only
   refine AWP.q (.u (.F Z Z Z (.nil (b6 (.q (.ae Z hltt4 (.exit (e8 (e8 ⟨Z, ?_⟩)))))))))
   exact Sub.env ⟨Z,Y⟩
  ·intro t4 s o hlot4 hltt4 h
   unfold ae6 at h
   try dsimp only at h ⊢
   refine AWP.q (.u (.F Z Z Z (.nil (b6 (.q (.af Z hltt4 (.skip (b6 (.q (.J (.q ?_)))))))))))
   obtain ⟨a15,ha15,h⟩:=bind_some h
   refine AWP.u (S.idx ha15 Z Z Z Z (.ad Z Z Z Z (.v Z Z (.nil (b6 (.seqJ (⟨[(0,.c (int operators)),(4,.c (.ptr 0 0 0)),(11,.c (row 1 intI plan)),(12,.c (int (plan.length:Int))),(13,.c (int t4)),(23,.c (bool ((decide (a15<0)) || (decide (operators≤a15)))))],[.one (.cells 2 [[int 0,int 0]])]⟩) ?_ ?_))))))
   ·rcases bft (decide (a15<0)) with hb1 | hb1
    ·refine AWP.u (.j Z Z (.F Z Z Z (.j Z Z (.B Z Z Z hb1 (.B Z Z Z hb1 (.B Z Z Z hb1 (.U Z hb1 Z Z (.nil (b6 ?_)))))))))
     simp only [Q6 hb1,or_t hb1,Bool.false_or,Bool.true_or,Bool.false_and,Bool.true_and]
     exact Sub.env ⟨Z,Z,Z,Z,Z,Z,Y⟩
    ·refine AWP.u (.j Z Z (.F Z Z Z (.j Z Z (.z Z Z Z hb1 (.j Z Z (.z Z Z Z hb1 (.j Z Z (.z Z Z Z hb1 (.geq Z Z Z (.aa Z hb1 Z Z (.nil (b6 ?_))))))))))))
     simp only [N3 hb1,or_f hb1,Bool.false_or,Bool.true_or,Bool.false_and,Bool.true_and]
     exact Sub.env ⟨Z,Z,Z,Z,Z,Z,Y⟩
   ·refine AWP.ab Z h (fun hc5 h=> ?_) (fun hc5 h=> ?_)
    ·refine AWP.q (.u (W.build Z Z Z Z (W.storeAgg Z Z Z Z Z Z Z (.nil (b6 (.ret (i9 (e7 ?_))))))))
     obtain rfl:=oi h
     refine e7 ⟨_,Z,Z, ?_⟩
     exact Done.ret Z Z
    ·refine AWP.skip (e9 (b6 (.u (.add Z Z Z (by omega) (.j Z Z (.nil ?_))))))
     obtain rfl:=oi h
     refine b6 ⟨_,Z, ?_⟩
     exact Sub.env ⟨Z,Z,Z,Z,Z,Y⟩
  ·intro e s hq
   rcases oo with u | x
   ·try dsimp only at h hq
    obtain ⟨rfl,hs⟩:=hq
    refine ⟨_,hs, ?_⟩
    refine j5 (b6 (.q (.u (W.build Z Z Z Z (W.storeAgg Z Z Z Z Z Z Z (.nil (b6 (.ret ?_))))))))
    obtain rfl:=oi h
    exact Done.ret Z Z
   ·try dsimp only at h hq
    obtain ⟨rfl,hs⟩:=hq
    refine ⟨_,Sub.refl _ _, ?_⟩
    refine i9 (e7 ?_)
    obtain rfl:=oi h
    exact hs
theorem ar3{t:d7}{plan:List Int}{r:g8}(h:K6 t plan=some r):f4 prog 42 [.agg (tT t),.c (row 1 intI plan)] (.agg [int r.code,int r.index]):=by
 unfold f4
 refine FnOk.enter (rs:=[.cell 4 32 2]) func42 Z ntmps42 results42 Z ⟨rv _ Z,Y⟩ (by kernel_rfl) Z ?_
 unfold K6 at h
 refine AWP.q (.u (W.box Z Z Z Z Z Z (W.alloc Z Z Z Z (.nil (b6 (.q (.q ?_)))))))
 obtain ⟨a7,ha7,h⟩:=bind_some h
 refine AWP.u (W.loadAgg Z Z Z Z Z Z Z (.O Z Z Z Z (C9 ha7) Z (W.alloc Z Z Z Z (W.storeAgg Z Z Z Z Z Z Z (.nil (b6 (.q (.u (W.loadAgg Z Z Z Z Z Z Z (W.build Z Z Z Z (.neqP Z Z Z Z Z Z Z (.nil (b6 (.ab Z h (fun hc3 h=> ?_) (fun hc3 h=> ?_)))))))))))))))
 ·refine AWP.q (.u (W.loadAgg Z Z Z Z Z Z Z (W.storeAgg Z Z Z Z Z Z Z (.nil (b6 (.ret (e7 ?_)))))))
  obtain rfl:=oi h
  exact Done.ret Z Z
 ·refine AWP.skip (b6 (.q ?_))
  obtain ⟨a16,ha16,h⟩:=bind_some h
  refine AWP.u (W.fieldAddr Z Z Z Z (.E Z Z Z Z Z Z (S.len Z Z (fun hl14=>.j Z Z (.O Z Z Z Z (strips_Steps_ok ha16) Z (W.storeAgg Z Z Z Z Z Z Z (.nil (b6 (.ret ?_)))))))))
  obtain rfl:=oi h
  exact Done.ret Z Z
theorem ar1{t:d7}{sv:List Int}{op:Int}{r:Bool}(h:V9 t sv op=some r):f4 prog 92 [.agg (tT t),.c (row 1 intI sv),.c (int op)] (.c (bool r)):=by
 unfold f4
 refine FnOk.enter (rs:=[.t 6]) func92 Z ntmps92 results92 Z ⟨trivial,Y⟩ (by kernel_rfl) Z ?_
 unfold V9 at h
 refine AWP.q (.u (W.box Z Z Z Z Z Z (.v Z Z (.nil (b6 (.q ?_))))))
 obtain ⟨a11,ha11,a14,ha14,h⟩:=b2 h
 refine AWP.u (.j Z Z (W.fieldAddr Z Z Z Z (.E Z Z Z Z Z Z (.j Z Z (S.idx ha11 Z Z Z Z (W.fieldAddrI Z Z Z Z (.ad Z Z Z Z (.O Z Z Z Z (N1 ha14) Z (.v Z Z (.nil (b6 (.ret ?_))))))))))))
 obtain rfl:=oi h
 exact Done.ret Z Z
theorem strips_Run_ok{t:d7}{sv:List Int}{plan:List Int}{r:(List (List Int))}(h:ae4 t sv plan=some r):m5 prog 90 [.agg (tT t),.c (row 1 intI sv),.c (row 1 intI plan)] 1 (List.map d5 r):=by
 unfold m5
 refine FnOk.enter (rs:=[.t 6]) func90 Z ntmps90 results90 Z ⟨trivial,Y⟩ (by kernel_rfl) Z ?_
 unfold ae4 at h
 refine AWP.q (.u (W.box Z Z Z Z Z Z (.v Z Z (.nil (b6 (.q ?_))))))
 obtain ⟨a11,ha11,h⟩:=bind_some h
 refine AWP.u (.j Z Z (S.fresh Z Z Z Z (m8 ha11) Z Z (.frzV (id:=1) (l:=a11) (env2:=[(1,.c (row 1 intI sv)),(2,.c (row 1 intI plan)),(3,.c (.ptr 0 0 0)),(11,.c (row 1 intI a11))]) (σ2:=[.one (.cells 4 [(tT t)]),.dead]) Z Z (by exact ⟨⟨_,Z,.inl ⟨Z,Z⟩⟩,⟨_,Z,.inl ⟨Z,Z⟩⟩,⟨_,Z,.inl ⟨Z,Z⟩⟩,⟨_,Z,.inr ⟨_,Z,Z,Z⟩⟩,Y⟩) Z (by exact ⟨⟨Z,.inl ⟨Z,Z⟩,.inl ⟨Z,Z⟩,.inl ⟨Z,Z⟩,.inl ⟨Z,Z⟩,Y⟩,trivial,Y⟩) (S.lit (f:=d5) (l:=[a11]) (ess:=[[row 1 intI a11]]) Z Z Z Z Z Z Z ⟨⟨.inl Z,Y⟩,Y⟩ Z Z Z (.v Z Z (.nil (b6 (.q (.q (.u (.j Z Z (S.len Z Z (fun hl14=>.j Z Z (.nil (b6 (.J ?_))))))))))))))))
 obtain ⟨c7,ho1,h⟩:=bind_some h
 refine AWP.loopS ho1 (fun (c4,sv5,t6)=>⟨[(1,.c (row 1 intI sv5)),(3,.c (.ptr 0 0 0)),(7,.c (.own 2 0 c4.length)),(13,.c (row 1 intI plan)),(14,.c (int (plan.length:Int))),(15,.c (int t6))],[.one (.cells 4 [(tT t)]),.dead,.one (vec 1 d5 c4)]⟩) (fun c7 e st=>e=.exit 0∧Sub [] st ⟨[(7,.c (.own 2 0 c7.length))],[.dead,.dead,.one (vec 1 d5 c7)]⟩) ?_ ?_ ?_
 ·try dsimp only
  exact Sub.env ⟨Z,Z,Z,Z,Z,Z,Y⟩
 ·intro s o h
  obtain ⟨c4,sv5,t6⟩:=s
  unfold Y5 at h
  try dsimp only at h ⊢
  refine AWP.q (.u (.F Z Z Z (.nil (b6 (.q (.ite Z h (fun hc8 h=> ?_) (fun hc8 h=> ?_)))))))
  ·refine AWP.skip (b6 (.q (.J (.q ?_))))
   obtain ⟨a17,ha17,h⟩:=bind_some h
   refine AWP.u (S.idx ha17 Z Z Z Z (.ad Z Z Z Z (.v Z Z (.nil (b6 (.q (.q ?_)))))))
   obtain ⟨a22,ha22,h⟩:=bind_some h
   refine AWP.u (W.loadAgg Z Z Z Z Z Z Z (.j Z Z (.j Z Z (.O Z Z Z Z (ar1 ha22) Z (.not Z Z (.nil (b6 (.ab Z h (fun hc9 h=> ?_) (fun hc9 h=> ?_)))))))))
   ·refine AWP.exit (e8 (S2 Z (e8 ?_)))
    obtain rfl:=oi h
    refine e8 ⟨_,Z,Z, ?_⟩
    exact Sub.cut ⟨Z,Y⟩ Z ⟨.dead,.dead,.vec,Y⟩ Z
   ·refine AWP.skip (b6 (.q ?_))
    obtain ⟨a27,ha27,h⟩:=bind_some h
    refine AWP.u (W.loadAgg Z Z Z Z Z Z Z (.j Z Z (.j Z Z (S.fresh Z Z Z Z (V8 ha27) Z Z (.v Z Z (.nil (b6 ?_)))))))
    obtain ⟨a31,ha31,h⟩:=bind_some h
    refine AWP.u (.j Z Z (.j Z Z (.frzV (id:=3) (l:=a27) (env2:=[(1,.c (row 1 intI a27)),(3,.c (.ptr 0 0 0)),(13,.c (row 1 intI plan)),(14,.c (int (plan.length:Int))),(15,.c (int t6)),(28,.c (.own 2 0 c4.length)),(29,.c (row 1 intI a27))]) (σ2:=[.one (.cells 4 [(tT t)]),.dead,.one (vec 1 d5 c4),.dead]) Z Z (by exact ⟨⟨_,Z,.inr ⟨_,Z,Z,Z⟩⟩,⟨_,Z,.inl ⟨Z,Z⟩⟩,⟨_,Z,.inl ⟨Z,Z⟩⟩,⟨_,Z,.inl ⟨Z,Z⟩⟩,⟨_,Z,.inl ⟨Z,Z⟩⟩,⟨_,Z,.inl ⟨Z,Z⟩⟩,⟨_,Z,.inr ⟨_,Z,Z,Z⟩⟩,Y⟩) Z (by exact ⟨⟨Z,.inl ⟨Z,Z⟩,.inl ⟨Z,Z⟩,.inl ⟨Z,Z⟩,.inl ⟨Z,Z⟩,Y⟩,trivial,FrzB.vec,trivial,Y⟩) (S.lit (f:=d5) (l:=[a27]) (ess:=[[row 1 intI a27]]) Z Z Z Z Z Z Z ⟨⟨.inl Z,Y⟩,Y⟩ Z Z Z (S.append (f:=d5) ha31 Z Z Z Z Z Z (.own Z Z) Z Z Z Z (.v Z Z (.nil (e9 (b6 (.j (env':=[(1,.c (row 1 intI a27)),(3,.c (.ptr 0 0 0)),(7,.c (.own 2 0 a31.length)),(13,.c (row 1 intI plan)),(14,.c (int (plan.length:Int))),(15,.c (int t6))]) (σ':=[.one (.cells 4 [(tT t)]),.dead,.one (vec 1 d5 a31),.dead,.one (vec 1 d5 [a27])]) 2 5 Z Z Z ⟨Z,Z,Z,Z,Z,Z,Y⟩ Z ⟨⟨Z,Z⟩,trivial,⟨Blk.im_ok _ _ _,g9 Z⟩,trivial,⟨Blk.im_ok _ _ _,g9 Z⟩,Y⟩ (.u (S.add Z Z Z (.j Z Z (.nil ?_))))))))))))))
    obtain rfl:=oi h
    refine b6 ⟨_,Z, ?_⟩
    exact Sub.cut ⟨Z,Z,Z,Z,Z,Z,Y⟩ Z ⟨.one Z,.dead,.vec,Y⟩ Z
  ·refine AWP.exit (e8 ?_)
   obtain rfl:=oi h
   refine e8 ⟨_,Z,Z, ?_⟩
   exact Sub.cut ⟨Z,Y⟩ Z ⟨.dead,.dead,.vec,Y⟩ Z
 ·intro e s hq
  obtain ⟨rfl,hs⟩:=hq
  refine ⟨_,hs, ?_⟩
  refine j5 (b6 (.q (.u (.j Z Z (.v Z Z (.nil (b6 (.ret ?_))))))))
  obtain rfl:=oi h
  exact Done.ret Z (Fresh.mk Z Z)
theorem strips_Works_ok{t:d7}{sv:List Int}{plan:List Int}{r:Bool}(h:U0 t sv plan=some r):f4 prog 43 [.agg (tT t),.c (row 1 intI sv),.c (row 1 intI plan)] (.c (bool r)):=by
 unfold f4
 refine FnOk.enter (rs:=[.t 6]) func43 Z ntmps43 results43 Z ⟨trivial,Y⟩ (by kernel_rfl) Z ?_
 unfold U0 at h
 refine AWP.q (.u (W.box Z Z Z Z Z Z (.v Z Z (.nil (b6 (.q ?_))))))
 obtain ⟨a11,ha11,h⟩:=bind_some h
 refine AWP.u (W.loadAgg Z Z Z Z Z Z Z (.j Z Z (.j Z Z (S.fresh Z Z Z Z (strips_Run_ok ha11) Z Z (.v Z Z (.nil (b6 ?_)))))))
 obtain ⟨t4,hx5,h⟩:=bind_some h
 refine AWP.seqJ (⟨[(6,.c (bool t4))],[]⟩) ?_ ?_
 ·rcases bft (decide ((a11.length:Int)=w64 ((plan.length:Int)+1))) with hb6 | hb6
  ·replace hx5:=P3 hb6 hx5
   obtain ⟨a22,ha22,a26,ha26,hx5⟩:=b2 hx5
   refine AWP.drawI mixed Z ?_
   refine j7.consF Z (fun E=>AOps.j Z Z .N) Z (.consF Z (fun E=>S.lenO Z Z Z (fun hl13=>.nil ⟨Z,Z⟩)) Z (.consF Z (fun E=>AOps.j Z Z .N) Z (.consF Z (fun E=>S.len Z Z (fun hl15=>.nil ⟨Z,Z⟩)) Z (.consF Z (fun E=>S.add Z Z Z .N) Z (.consF Z (fun E=>AOps.eql Z Z Z .N) Z (.consF Z (fun E=>AOps.j Z Z .N) Z (.consF Z (fun E=>AOps.z Z Z Z hb6 (.j Z Z .N)) Z (.consF Z (fun E=>AOps.z Z Z Z hb6 (.j Z Z .N)) Z ?_))))))))
   apply j7.consF; exact Z; intro E
   refine AOps.z Z Z Z hb6 ?_; refine S.len Z Z (fun hl21=> ?_)
   exact AOps.nil ⟨Z,Z⟩
   exact Z
   refine j7.consF Z (fun E=>AOps.z Z Z Z hb6 (S.idxO ha22 Z Z Z Z Z .N)) Z (.consF Z (fun E=>AOps.z Z Z Z hb6 (S.loadO ha22 Z Z Z Z Z .N)) Z (.consF Z (fun E=>AOps.z Z Z Z hb6 (W.fieldAddr Z Z Z Z .N)) Z (.consF Z (fun E=>AOps.z Z Z Z hb6 (.E Z Z Z Z Z Z .N)) Z (.consF Z (fun E=>AOps.z Z Z Z hb6 (.O Z Z Z Z (N1 ha26) Z .N)) Z (.consF Z (fun E=>AOps.U Z hb6 Z Z .N) Z (.consF Z (fun E=>AOps.v Z Z .N) Z ?_))))))
   refine j7.done ?_
   dsimp only [j9]
   obtain rfl:=oi hx5
   refine b6 (Sub.cut ⟨Z,Y⟩ Z trivial Z)
  ·replace hx5:=P2 hb6 hx5
   refine AWP.drawI mixed Z ?_
   refine j7.consF Z (fun E=>AOps.j Z Z .N) Z (.consF Z (fun E=>S.lenO Z Z Z (fun hl13=>.nil ⟨Z,Z⟩)) Z (.consF Z (fun E=>AOps.j Z Z .N) Z (.consF Z (fun E=>S.len Z Z (fun hl15=>.nil ⟨Z,Z⟩)) Z (.consF Z (fun E=>S.add Z Z Z .N) Z (.consF Z (fun E=>AOps.eql Z Z Z .N) Z (.consF Z (fun E=>AOps.j Z Z .N) Z (.consF Z (fun E=>AOps.B Z Z Z hb6 .N) Z (.consF Z (fun E=>AOps.B Z Z Z hb6 .N) Z (.consF Z (fun E=>AOps.B Z Z Z hb6 .N) Z (.consF Z (fun E=>AOps.B Z Z Z hb6 .N) Z (.consF Z (fun E=>AOps.B Z Z Z hb6 .N) Z (.consF Z (fun E=>AOps.B Z Z Z hb6 .N) Z (.consF Z (fun E=>AOps.B Z Z Z hb6 .N) Z (.consF Z (fun E=>AOps.B Z Z Z hb6 .N) Z (.consF Z (fun E=>AOps.aa Z hb6 Z Z .N) Z (.consF Z (fun E=>AOps.v Z Z .N) Z ?_))))))))))))))))
   refine j7.done ?_
   dsimp only [j9]
   obtain rfl:=oi hx5
   refine b6 (Sub.cut ⟨Z,Y⟩ Z trivial Z)
 ·refine AWP.ret ?_
  obtain rfl:=oi h
  exact Done.ret Z Z
theorem au7{t:d7}{plan:List Int}{r:Bool × g8}(h:R0 t plan=some r):f4 prog 14 [.agg (tT t),.c (row 1 intI plan)] (.tup [.c (bool r.1),.agg [int r.2.code,int r.2.index]]):=by
 unfold f4
 refine FnOk.enter (rs:=[.t 4,.cell 5 32 2]) func14 Z ntmps14 results14 Z ⟨trivial,rv _ Z,Y⟩ (by kernel_rfl) Z ?_
 unfold R0 at h
 refine AWP.q (.u (W.box Z Z Z Z Z Z (.v Z Z (W.alloc Z Z Z Z (.nil (b6 (.q (.q ?_))))))))
 obtain ⟨a9,ha9,h⟩:=bind_some h
 refine AWP.u (W.loadAgg Z Z Z Z Z Z Z (.j Z Z (.O Z Z Z Z (ar3 ha9) Z (W.alloc Z Z Z Z (W.storeAgg Z Z Z Z Z Z Z (.nil (b6 (.q (.u (W.loadAgg Z Z Z Z Z Z Z (W.build Z Z Z Z (.neqP Z Z Z Z Z Z Z (.nil (b6 (.ab Z h (fun hc3 h=> ?_) (fun hc3 h=> ?_))))))))))))))))
 ·refine AWP.q (.drawEI [2] mixed Z Z Z ?_)
  refine d6.consN Z Z (fun E=>W.loadAgg Z Z Z Z Z Z Z .N) Z (.consN Z Z (fun E=>AOps.v Z Z .N) Z ?_)
  apply d6.consE (v:=.undef); exact Z; exact Z; intro E
  refine W.storeAgg Z Z Z Z Z Z Z .N
  exact Z
  exact Z
  refine d6.done Z ?_ ?_
  ·refine c9.cons Z Z ?_ ?_
   refine b7.go Z Z (fun E=>W.loadAgg Z Z Z Z Z Z Z .N) ?_
   refine b7.skip Z (b7.nil)
   refine c9.cons Z Z ?_ ?_
   refine b7.go Z Z (fun E=>AOps.v Z Z .N) ?_
   refine b7.skip Z (b7.nil)
   refine c9.skip Z (c9.nil)
  dsimp only [j9]
  refine b6 (.ret (e7 ?_))
  obtain rfl:=oi h
  exact Done.ret Z Z
 ·refine AWP.skip (b6 (.q ?_))
  obtain ⟨a18,ha18,h⟩:=bind_some h
  refine AWP.u (W.loadAgg Z Z Z Z Z Z Z (W.fieldAddr Z Z Z Z (.E Z Z Z Z Z Z (.j Z Z (.O Z Z Z Z (strips_Works_ok ha18) Z (W.build Z Z Z Z (.v Z Z (W.storeAgg Z Z Z Z Z Z Z (.nil (b6 (.ret ?_)))))))))))
  obtain rfl:=oi h
  exact Done.ret Z Z
theorem au6{t:d7}{goals:List (List Int)}{plans:List (List Int)}{r:g8}(h:R3 t goals plans=some r):f4 prog 44 [.agg (tT t),.c (row 1 d5 goals),.c (row 1 d5 plans)] (.agg [int r.code,int r.index]):=by
 unfold f4
 refine FnOk.enter (rs:=[.cell 6 32 2]) func44 Z ntmps44 results44 Z ⟨rv _ Z,Y⟩ (by kernel_rfl) Z ?_
 unfold R3 at h
 refine AWP.q (.u (W.box Z Z Z Z Z Z (W.alloc Z Z Z Z (.nil (b6 (.q (.q ?_)))))))
 obtain ⟨a15,ha15,h⟩:=bind_some h
 refine AWP.u (W.loadAgg Z Z Z Z Z Z Z (.O Z Z Z Z (C9 ha15) Z (W.alloc Z Z Z Z (W.storeAgg Z Z Z Z Z Z Z (.nil (b6 (.q (.u (W.loadAgg Z Z Z Z Z Z Z (W.build Z Z Z Z (.neqP Z Z Z Z Z Z Z (.nil (b6 (.ab Z h (fun hc4 h=> ?_) (fun hc4 h=> ?_)))))))))))))))
 ·refine AWP.q (.u (W.loadAgg Z Z Z Z Z Z Z (W.storeAgg Z Z Z Z Z Z Z (.nil (b6 (.ret (e7 ?_)))))))
  obtain rfl:=oi h
  exact Done.ret Z Z
 ·refine AWP.skip (b6 (.q (.J (.seqJ (⟨[(1,.c (row 1 d5 goals)),(2,.c (row 1 d5 plans)),(3,.c (.ptr 0 0 0)),(6,.c (.ptr 1 0 0)),(20,.c (bool ((decide ((plans.length:Int)=0)) || (decide (4<(plans.length:Int))))))],[.one (.cells 4 [(tT t)]),.one (.cells 2 [[int 0,int 0]]),.one (.cells 2 [[int a15.code,int a15.index]])]⟩) ?_ ?_))))
  ·rcases bft (decide ((plans.length:Int)=0)) with hb1 | hb1
   ·refine AWP.u (.j Z Z (S.len Z Z (fun hl22=>.eql Z Z Z (.j Z Z (.B Z Z Z hb1 (.B Z Z Z hb1 (.B Z Z Z hb1 (.U Z hb1 Z Z (.v Z Z (.nil (b6 ?_)))))))))))
    simp only [Q6 hb1,or_t hb1,Bool.false_or,Bool.true_or,Bool.false_and,Bool.true_and]
    exact Sub.env ⟨Z,Z,Z,Z,Z,Y⟩
   ·refine AWP.u (.j Z Z (S.len Z Z (fun hl22=>.eql Z Z Z (.j Z Z (.z Z Z Z hb1 (.j Z Z ?_))))))
    refine AOps.z Z Z Z hb1 ?_; refine S.len Z Z (fun hl26=> ?_)
    refine AOps.z Z Z Z hb1 (.gtr Z Z Z (.aa Z hb1 Z Z (.v Z Z (.nil (b6 ?_)))))
    simp only [N3 hb1,or_f hb1,Bool.false_or,Bool.true_or,Bool.false_and,Bool.true_and]
    exact Sub.env ⟨Z,Z,Z,Z,Z,Y⟩
  ·refine AWP.ab Z h (fun hc5 h=> ?_) (fun hc5 h=> ?_)
   ·refine AWP.q (.u (W.build Z Z Z Z (W.storeAgg Z Z Z Z Z Z Z (.nil (b6 (.ret (i9 (e7 ?_))))))))
    obtain rfl:=oi h
    exact Done.ret Z Z
   ·refine AWP.q (.u (.j Z Z (S.len Z Z (fun hl32=>.j Z Z (S.len Z Z (fun hl34=>.neq Z Z Z (.v Z Z (.nil (b6 (.iteN Z h (fun hc6 h=> ?_) (fun hc6 h=> ?_)))))))))))
    ·refine AWP.q (.u (W.build Z Z Z Z (W.storeAgg Z Z Z Z Z Z Z (.nil (b6 (.ret (i9 (e7 ?_))))))))
     obtain rfl:=oi h
     exact Done.ret Z Z
    ·refine AWP.skip (e9 (b6 (.q (.q (.u (.j Z Z (S.len Z Z (fun hl38=>.j Z Z (.nil (b6 (.J ?_)))))))))))
     obtain ⟨oo,ho1,h⟩:=bind_some h
     refine AWP.rngS ho1 (fun t7 _=>⟨[(2,.c (row 1 d5 plans)),(3,.c (.ptr 0 0 0)),(6,.c (.ptr 1 0 0)),(37,.c (row 1 d5 goals)),(38,.c (int (goals.length:Int))),(39,.c (int t7))],[.one (.cells 4 [(tT t)]),.one (.cells 2 [[int 0,int 0]])]⟩) (fun o e st=>match o with | .inl _=>e=.exit 1∧Sub [] st ⟨[(2,.c (row 1 d5 plans)),(3,.c (.ptr 0 0 0)),(6,.c (.ptr 1 0 0))],[.one (.cells 4 [(tT t)]),.one (.cells 2 [[int 0,int 0]])]⟩ | .inr x=>e=.ret∧Done [.cell 6 32 2] (fun t _=>t=.agg [int x.code,int x.index]) .ret st) ?_ ?_ ?_ ?_
     ·try dsimp only
      exact Sub.cut ⟨Z,Z,Z,Z,Z,Z,Y⟩ Z ⟨.one Z,.one Z,Y⟩ Z
     ·intro t7 s hlot7 hltt7 _
      try dsimp only
      refine AWP.q (.u (.F Z Z Z (.nil (b6 (.q (.ae Z hltt7 (.exit (e8 (e8 ⟨Z, ?_⟩)))))))))
      exact Sub.env ⟨Z,Z,Z,Y⟩
     ·intro t7 s o hlot7 hltt7 h
      unfold L7 at h
      try dsimp only at h ⊢
      refine AWP.q (.u (.F Z Z Z (.nil (b6 (.q (.af Z hltt7 (.skip (b6 (.q (.J (.q ?_)))))))))))
      obtain ⟨a42,ha42,h⟩:=bind_some h
      refine AWP.u (.j Z Z (S.idx ha42 Z Z Z Z (.ad Z Z Z Z (.v Z Z (.v Z Z (.nil (b6 (.q ?_))))))))
      obtain ⟨a47,ha47,h⟩:=bind_some h
      refine AWP.u (.j Z Z (W.fieldAddr Z Z Z Z (.E Z Z Z Z Z Z (.O Z Z Z Z (r8 ha47) Z (.not Z Z (.nil (b6 (.ab Z h (fun hc8 h=> ?_) (fun hc8 h=> ?_)))))))))
      ·refine AWP.q (.u (.j Z Z (S.sub Z Z Z (W.build Z Z Z Z (W.storeAgg Z Z Z Z Z Z Z (.nil (b6 (.ret (i9 (e7 ?_))))))))))
       obtain rfl:=oi h
       refine e7 ⟨_,Z,Z, ?_⟩
       exact Done.ret Z Z
      ·refine AWP.skip (e9 (b6 (.u (.add Z Z Z (by omega) (.j Z Z (.nil ?_))))))
       obtain rfl:=oi h
       refine b6 ⟨_,Z, ?_⟩
       exact Sub.env ⟨Z,Z,Z,Z,Z,Z,Y⟩
     ·intro e s hq
      rcases oo with u | x
      ·try dsimp only at h hq
       obtain ⟨rfl,hs⟩:=hq
       refine ⟨_,hs, ?_⟩
       refine j5 (b6 (.q (.q (.u (.j Z Z (S.len Z Z (fun hl54=>.j Z Z (.nil (b6 (.J ?_))))))))))
       obtain ⟨oo,ho2,h⟩:=bind_some h
       refine AWP.rngS ho2 (fun t9 _=>⟨[(3,.c (.ptr 0 0 0)),(6,.c (.ptr 1 0 0)),(53,.c (row 1 d5 plans)),(54,.c (int (plans.length:Int))),(55,.c (int t9))],[.one (.cells 4 [(tT t)]),.one (.cells 2 [[int 0,int 0]])]⟩) (fun o e st=>match o with | .inl _=>e=.exit 3∧Sub [] st ⟨[(6,.c (.ptr 1 0 0))],[.one (.cells 4 [(tT t)]),.one (.cells 2 [[int 0,int 0]])]⟩ | .inr x=>e=.ret∧Done [.cell 6 32 2] (fun t _=>t=.agg [int x.code,int x.index]) .ret st) ?_ ?_ ?_ ?_
       ·try dsimp only
        exact Sub.env ⟨Z,Z,Z,Z,Z,Y⟩
       ·intro t9 s hlot9 hltt9 _
        try dsimp only
        refine AWP.q (.u (.F Z Z Z (.nil (b6 (.q (.ae Z hltt9 (.exit (e8 (e8 ⟨Z, ?_⟩)))))))))
        exact Sub.env ⟨Z,Y⟩
       ·intro t9 s o hlot9 hltt9 h
        unfold L5 at h
        try dsimp only at h ⊢
        refine AWP.q (.u (.F Z Z Z (.nil (b6 (.q (.af Z hltt9 (.skip (b6 (.q (.J (.q ?_)))))))))))
        obtain ⟨a58,ha58,h⟩:=bind_some h
        refine AWP.u (.j Z Z (S.idx ha58 Z Z Z Z (.ad Z Z Z Z (.v Z Z (.v Z Z (.nil (b6 (.q (.q (.u (.j Z Z (S.len Z Z (fun hl61=>.gtr Z Z Z (.nil (b6 (.ite Z h (fun hc10 h=> ?_) (fun hc10 h=> ?_)))))))))))))))))
        ·refine AWP.q (.u (.j Z Z (S.sub Z Z Z (W.build Z Z Z Z (W.storeAgg Z Z Z Z Z Z Z (.nil (b6 (.ret (e7 (i9 (e7 ?_)))))))))))
         obtain rfl:=oi h
         refine e7 ⟨_,Z,Z, ?_⟩
         exact Done.ret Z Z
        ·refine AWP.skip (b6 (.q (.u (.j Z Z (S.len Z Z (fun hl67=>.j Z Z (.nil (b6 (.J ?_)))))))))
         obtain ⟨oo,ho3,h⟩:=bind_some h
         refine AWP.rngS ho3 (fun t11 _=>⟨[(3,.c (.ptr 0 0 0)),(6,.c (.ptr 1 0 0)),(10,.c (int t9)),(53,.c (row 1 d5 plans)),(54,.c (int (plans.length:Int))),(55,.c (int t9)),(66,.c (row 1 intI a58)),(67,.c (int (a58.length:Int))),(68,.c (int t11))],[.one (.cells 4 [(tT t)]),.one (.cells 2 [[int 0,int 0]])]⟩) (fun o e st=>match o with | .inl _=>e=.exit 5∧Sub [] st ⟨[(3,.c (.ptr 0 0 0)),(6,.c (.ptr 1 0 0)),(53,.c (row 1 d5 plans)),(54,.c (int (plans.length:Int))),(55,.c (int t9))],[.one (.cells 4 [(tT t)]),.one (.cells 2 [[int 0,int 0]])]⟩ | .inr x=>e=.ret∧Done [.cell 6 32 2] (fun t _=>t=.agg [int x.code,int x.index]) .ret st) ?_ ?_ ?_ ?_
         ·try dsimp only
          exact Sub.env ⟨Z,Z,Z,Z,Z,Z,Z,Z,Z,Y⟩
         ·intro t11 s hlot11 hltt11 _
          try dsimp only
          refine AWP.q (.u (.F Z Z Z (.nil (b6 (.q (.ae Z hltt11 (.exit (e8 (e8 ⟨Z, ?_⟩)))))))))
          exact Sub.env ⟨Z,Z,Z,Z,Z,Y⟩
         ·intro t11 s o hlot11 hltt11 h
          unfold Y9 at h
          try dsimp only at h ⊢
          refine AWP.q (.u (.F Z Z Z (.nil (b6 (.q (.af Z hltt11 (.skip (b6 (.q (.J (.q ?_)))))))))))
          obtain ⟨a70,ha70,h⟩:=bind_some h
          refine AWP.u (S.idx ha70 Z Z Z Z (.ad Z Z Z Z (.v Z Z (.nil (b6 (.seqJ (⟨[(3,.c (.ptr 0 0 0)),(6,.c (.ptr 1 0 0)),(10,.c (int t9)),(53,.c (row 1 d5 plans)),(54,.c (int (plans.length:Int))),(55,.c (int t9)),(66,.c (row 1 intI a58)),(67,.c (int (a58.length:Int))),(68,.c (int t11)),(80,.c (bool ((decide (a70<0)) || (decide ((t.operators.length:Int)≤a70)))))],[.one (.cells 4 [(tT t)]),.one (.cells 2 [[int 0,int 0]])]⟩) ?_ ?_))))))
          ·rcases bft (decide (a70<0)) with hb1 | hb1
           ·refine AWP.u (.j Z Z (.F Z Z Z (.j Z Z (.B Z Z Z hb1 (.B Z Z Z hb1 (.B Z Z Z hb1 (.B Z Z Z hb1 (.B Z Z Z hb1 (.U Z hb1 Z Z (.nil (b6 ?_)))))))))))
            simp only [Q6 hb1,or_t hb1,Bool.false_or,Bool.true_or,Bool.false_and,Bool.true_and]
            exact Sub.env ⟨Z,Z,Z,Z,Z,Z,Z,Z,Z,Z,Y⟩
           ·refine AWP.u (.j Z Z (.F Z Z Z (.j Z Z (.z Z Z Z hb1 (.j Z Z (.z Z Z Z hb1 (W.fieldAddr Z Z Z Z (.z Z Z Z hb1 (.E Z Z Z Z Z Z ?_)))))))))
            refine AOps.z Z Z Z hb1 ?_; refine S.len Z Z (fun hl78=> ?_)
            refine AOps.z Z Z Z hb1 (.geq Z Z Z (.aa Z hb1 Z Z (.nil (b6 ?_))))
            simp only [N3 hb1,or_f hb1,Bool.false_or,Bool.true_or,Bool.false_and,Bool.true_and]
            exact Sub.env ⟨Z,Z,Z,Z,Z,Z,Z,Z,Z,Z,Y⟩
          ·refine AWP.ab Z h (fun hc12 h=> ?_) (fun hc12 h=> ?_)
           ·refine AWP.q (.u (.j Z Z (S.sub Z Z Z (W.build Z Z Z Z (W.storeAgg Z Z Z Z Z Z Z (.nil (b6 (.ret (i9 (e7 ?_))))))))))
            obtain rfl:=oi h
            refine e7 ⟨_,Z,Z, ?_⟩
            exact Done.ret Z Z
           ·refine AWP.skip (e9 (b6 (.u (.add Z Z Z (by omega) (.j Z Z (.nil ?_))))))
            obtain rfl:=oi h
            refine b6 ⟨_,Z, ?_⟩
            exact Sub.env ⟨Z,Z,Z,Z,Z,Z,Z,Z,Z,Y⟩
         ·intro e s hq
          rcases oo with u | x
          ·try dsimp only at h hq
           obtain ⟨rfl,hs⟩:=hq
           refine ⟨_,hs, ?_⟩
           refine j5 (e9 (b6 (.u (.add Z Z Z (by omega) (.j Z Z (.nil ?_))))))
           obtain rfl:=oi h
           refine b6 ⟨_,Z, ?_⟩
           exact Sub.env ⟨Z,Z,Z,Z,Z,Y⟩
          ·try dsimp only at h hq
           obtain ⟨rfl,hs⟩:=hq
           refine ⟨_,Sub.refl _ _, ?_⟩
           refine i9 (i9 (e7 ?_))
           obtain rfl:=oi h
           refine e7 ⟨_,Z,Z, ?_⟩
           exact hs
       ·intro e s hq
        rcases oo with u | x
        ·try dsimp only at h hq
         obtain ⟨rfl,hs⟩:=hq
         refine ⟨_,hs, ?_⟩
         refine j5 (b6 (.q (.u (W.build Z Z Z Z (W.storeAgg Z Z Z Z Z Z Z (.nil (b6 (.ret ?_))))))))
         obtain rfl:=oi h
         exact Done.ret Z Z
        ·try dsimp only at h hq
         obtain ⟨rfl,hs⟩:=hq
         refine ⟨_,Sub.refl _ _, ?_⟩
         refine i9 (e7 ?_)
         obtain rfl:=oi h
         exact hs
      ·try dsimp only at h hq
       obtain ⟨rfl,hs⟩:=hq
       refine ⟨_,Sub.refl _ _, ?_⟩
       refine i9 (e7 ?_)
       obtain rfl:=oi h
       exact hs
theorem strips_Union_ok{av:List Int}{bv:List Int}{r:(List Int)}(h:U3 av bv=some r):m5 prog 91 [.c (row 1 intI av),.c (row 1 intI bv)] 1 (List.map intI r):=by
 unfold m5
 refine FnOk.enter (rs:=[.t 4]) func91 Z ntmps91 results91 Z ⟨trivial,Y⟩ (by kernel_rfl) Z ?_
 unfold U3 at h
 refine AWP.q (.u (.v Z Z (.nil (b6 (.q ?_)))))
 obtain ⟨a7,ha7,h⟩:=bind_some h
 refine AWP.u (.j Z Z (.j Z Z (S.fresh Z Z Z Z (m5.nil (by exact ⟨(.inl Z),(.inl Z),(.inr ⟨Z,_,Z⟩),Y⟩) (ab4 ha7)) Z Z (.v Z Z (.nil (b6 (.ret ?_)))))))
 obtain rfl:=oi h
 exact Done.ret Z (Fresh.mk Z Z)
theorem al1{l:List (List Int)}{r:(List Int)}(h:R7 l=some r):m5 prog 45 [.c (row 1 d5 l)] 1 (List.map intI r):=by
 unfold m5
 refine FnOk.enter (rs:=[.t 2]) func45 Z ntmps45 results45 Z ⟨trivial,Y⟩ (by kernel_rfl) Z ?_
 unfold R7 at h
 refine AWP.q (.u (.v Z Z (.nil (b6 (.q (.u (.v Z Z (.nil (b6 (.q (.q (.u (.j Z Z (S.len Z Z (fun hl7=>.j Z Z (.nil (b6 (.J (.virtV 1 intI 3 Z Z Z ?_)))))))))))))))))))
 obtain ⟨c2,ho1,h⟩:=bind_some h
 refine AWP.forS ho1 (fun t3 c2=>⟨[(3,.c (.own 0 0 c2.length)),(6,.c (row 1 d5 l)),(7,.c (int (l.length:Int))),(8,.c (int t3))],[.one (vec 1 intI c2)]⟩) (fun c2 e st=>e=.exit 0∧Sub [] st ⟨[(3,.c (.own 0 0 c2.length))],[.one (vec 1 intI c2)]⟩) ?_ ?_ ?_ ?_
 ·try dsimp only
  exact Sub.env ⟨(I5 (by first | rfl | simp only [List.length_set])),Z,Z,Z,Y⟩
 ·intro t3 c2 hlot3 hltt3 _
  try dsimp only
  refine AWP.q (.u (.F Z Z Z (.nil (b6 (.q (.ae Z hltt3 (.exit (e8 (e8 ⟨Z, ?_⟩)))))))))
  exact Sub.env ⟨Z,Y⟩
 ·intro t3 c2 o hlot3 hltt3 h
  unfold Q4 at h
  try dsimp only at h ⊢
  refine AWP.q (.u (.F Z Z Z (.nil (b6 (.q (.af Z hltt3 (.skip (b6 (.q (.J (.q ?_)))))))))))
  obtain ⟨a10,ha10,h⟩:=bind_some h
  refine AWP.u (S.idx ha10 Z Z Z Z (.ad Z Z Z Z (.v Z Z (.nil (b6 ?_)))))
  obtain ⟨a14,ha14,h⟩:=bind_some h
  refine AWP.u (.j Z Z (.j Z Z (S.freshL (fun _=>Z) Z Z (.cons (.c (.own Z Z)) (.cons (.c .imm) .nil)) Z (strips_Union_ok ha14) Z Z ?_)))
  refine AOps.v Z Z (.nil (e9 (b6 (.u (.add Z Z Z (by omega) (.j Z Z (.nil ?_)))))))
  obtain rfl:=oi h
  refine b6 ((Sub.move (env':=[(3,.c (.own 0 0 a14.length)),(6,.c (row 1 d5 l)),(7,.c (int (l.length:Int))),(8,.c (int (t3+1)))]) (σ':=[.one (vec 1 intI a14)]) 0 1 Z Z Z ⟨Z,Z,Z,Z,Y⟩ Z ⟨⟨Blk.im_ok _ _ _,g9 Z⟩,Y⟩).trans (Sub.env ⟨Z,Z,Z,Z,Y⟩))
 ·intro e s hq
  obtain ⟨rfl,hs⟩:=hq
  refine ⟨_,hs, ?_⟩
  refine j5 (b6 (.q (.u (.j Z Z (.v Z Z (.nil (b6 (.ret ?_))))))))
  obtain rfl:=oi h
  exact Done.ret Z (Fresh.mk Z Z)
theorem ah5{t:d7}{plans:List (List Int)}:∀ (n:Nat) (xs:(List Int) × (List Int) × (List Int) × (List (ByteArray × Int))) (r:(List Int) × Bool × (List Int) × (List (ByteArray × Int))),recN (n2 t plans) n xs=some r→FnOk prog 46 [.c (.ptr 0 0 0),.c (row 1 intI xs.1),.c (row 1 intI xs.2.1)] (D3 xs.1 xs.2.1 t plans xs.2.2.1 xs.2.2.2) (fun tt ss=>tt=.tup [.c (row 1 intI r.1),.c (bool r.2.1)]∧ss=[.one (.cells 7 [[int t.facts,row 1 intI t.init,row 1 intI t.goal,row 4 f8 t.operators,row 1 d5 plans,.own 1 0 r.2.2.1.length,.map 2]]),.one (vec 1 intI r.2.2.1),.one (mapB Value.string vI r.2.2.2)]):=by
 intro n
 induction n with
 | zero=>intro xs r h; cases h
 | succ n ih=>
  intro xs r h
  obtain ⟨sv,atv,l,l6⟩:=xs
  have h:n2 t plans (recN (n2 t plans) n) (sv,atv,l,l6)=some r:=h
  revert ih h
  generalize recN (n2 t plans) n=slf
  intro hslf h
  try dsimp only
  refine FnOk.enter (rs:=[.t 6,.t 7]) func46 Z ntmps46 results46 Z ⟨trivial,trivial,Y⟩ (by kernel_rfl) Z ?_
  refine AWP.weak ?_
  unfold n2 at h
  try dsimp only at h
  refine AWP.q (.u (.v Z Z (.v Z Z (.nil (b6 (.q ?_))))))
  obtain ⟨a18,ha18,h⟩:=bind_some h
  refine AWP.u (.j Z Z (.j Z Z (S.lit (f:=d5) (l:=[sv,atv]) (ess:=[[row 1 intI sv],[row 1 intI atv]]) Z Z Z Z Z Z Z ⟨⟨.inl Z,Y⟩,⟨.inl Z,Y⟩,Y⟩ Z Z Z (.callL Z Z (.cons (.c (.own Z Z)) .nil) Z (R5 ha18) Z (.v Z Z (.nil (b6 (.q (.q (.u (.j Z Z (.ag Z Z Z (W.fieldAddr Z Z Z Z (.E Z Z Z Z Z Z (.j Z Z (W.lookup (fk:=Value.string) (fv:=vI) (k:=a18) (z:=0) ah4 Z (fun _=>Z) Z Z Z Z ?_))))))))))))))))
  refine AOps.gtr Z Z Z (.nil (b6 (.ite Z h (fun hc11 h=> ?_) (fun hc11 h=> ?_))))
  ·refine AWP.q (.u (.v Z Z (.v Z Z (.nil (b6 (.nilrow 1 6 Z (.ret (e7 ?_))))))))
   obtain rfl:=oi h
   exact ⟨⟨[(6,.c (row 1 intI [])),(7,.c (bool false))],[.one (.cells 7 [[int t.facts,row 1 intI t.init,row 1 intI t.goal,row 4 f8 t.operators,row 1 d5 plans,.own 1 0 l.length,.map 2]]),.one (vec 1 intI l),.one (mapB Value.string vI l6)]⟩,Sub.cut ⟨Z,Z,Y⟩ Z ⟨.one Z,.vec,.one Z,Y⟩ Z,Done.ret Z ⟨Z,Z⟩⟩
  ·refine AWP.skip (b6 (.q (.u (.v Z Z (.nil (b6 (.q (.q (.u (.j Z Z (.ag Z Z Z (W.fieldAddr Z Z Z Z (.E Z Z Z Z Z Z (S.len Z Z (fun hl30=>.j Z Z (.nil (b6 (.J ?_))))))))))))))))))
   obtain ⟨oo,ho1,h⟩:=bind_some h
   refine AWP.rngS ho1 (fun t15 (c12,c13,done14)=>⟨[(0,.c (.ptr 0 0 0)),(1,.c (row 1 intI sv)),(2,.c (row 1 intI atv)),(8,.c (.imm (.val (.string a18)))),(9,.c (bool done14)),(29,.c (row 1 d5 plans)),(30,.c (int (plans.length:Int))),(31,.c (int t15))],[.one (.cells 7 [[int t.facts,row 1 intI t.init,row 1 intI t.goal,row 4 f8 t.operators,row 1 d5 plans,.own 1 0 c12.length,.map 2]]),.one (vec 1 intI c12),.one (mapB Value.string vI c13)]⟩) (fun o e st=>match o with | .inl (c12,c13,done14)=>e=.exit 0∧Sub (D3 sv atv t plans l l6) st ⟨[(0,.c (.ptr 0 0 0)),(1,.c (row 1 intI sv)),(8,.c (.imm (.val (.string a18)))),(9,.c (bool done14))],[.one (.cells 7 [[int t.facts,row 1 intI t.init,row 1 intI t.goal,row 4 f8 t.operators,row 1 d5 plans,.own 1 0 c12.length,.map 2]]),.one (vec 1 intI c12),.one (mapB Value.string vI c13)]⟩ | .inr x=>e=.ret∧∃ J,Sub (D3 sv atv t plans l l6) st J∧Done [.t 6,.t 7] (fun tt ss=>tt=.tup [.c (row 1 intI x.1),.c (bool x.2.1)]∧ss=[.one (.cells 7 [[int t.facts,row 1 intI t.init,row 1 intI t.goal,row 4 f8 t.operators,row 1 d5 plans,.own 1 0 x.2.2.1.length,.map 2]]),.one (vec 1 intI x.2.2.1),.one (mapB Value.string vI x.2.2.2)]) .ret J) ?_ ?_ ?_ ?_
   ·try dsimp only
    exact Sub.cut ⟨Z,Z,Z,Z,Z,Z,Z,Z,Y⟩ Z ⟨.one Z,.vec,.one Z,Y⟩ Z
   ·intro t15 s hlot15 hltt15 _
    obtain ⟨c12,c13,done14⟩:=s
    try dsimp only
    refine AWP.q (.u (.F Z Z Z (.nil (b6 (.q (.ae Z hltt15 (.exit (e8 (e8 ⟨Z, ?_⟩)))))))))
    exact Sub.env ⟨Z,Z,Z,Z,Y⟩
   ·intro t15 s o hlot15 hltt15 h
    obtain ⟨c12,c13,done14⟩:=s
    unfold s5 at h
    try dsimp only at h ⊢
    refine AWP.q (.u (.F Z Z Z (.nil (b6 (.q (.af Z hltt15 (.skip (b6 (.seqF (u5) o (fun (c16,c17,done18)=>⟨[(0,.c (.ptr 0 0 0)),(1,.c (row 1 intI sv)),(2,.c (row 1 intI atv)),(8,.c (.imm (.val (.string a18)))),(9,.c (bool done18)),(29,.c (row 1 d5 plans)),(30,.c (int (plans.length:Int))),(31,.c (int t15))],[.one (.cells 7 [[int t.facts,row 1 intI t.init,row 1 intI t.goal,row 4 f8 t.operators,row 1 d5 plans,.own 1 0 c16.length,.map 2]]),.one (vec 1 intI c16),.one (mapB Value.string vI c17)]⟩) (fun x h=> ?_) ?_)))))))))
    ·obtain ⟨c16,c17,done18⟩:=x
     unfold u5 at h
     try dsimp only at h ⊢
     refine AWP.u (.add Z Z Z (by omega) (.j Z Z (.nil ?_)))
     obtain rfl:=oi h
     refine b6 ⟨_,Z, ?_⟩
     exact Sub.env ⟨Z,Z,Z,Z,Z,Z,Z,Z,Y⟩
    ·refine AWP.J (.q ?_)
     obtain ⟨a34,ha34,h⟩:=bind_some h
     refine AWP.u (.j Z Z (S.idx ha34 Z Z Z Z (.ad Z Z Z Z (.v Z Z (.v Z Z (.nil (b6 (.q (.q ?_)))))))))
     obtain ⟨a38,ha38,h⟩:=bind_some h
     refine AWP.u (.j Z Z (.j Z Z (S.idx ha38 Z Z Z Z (.ad Z Z Z Z (.j Z Z (S.len Z Z (fun hl41=>.eql Z Z Z (.nil (b6 (.ite Z h (fun hc19 h=> ?_) (fun hc19 h=> ?_)))))))))))
     ·refine AWP.exit (e8 (j5 (b6 ⟨_,h, ?_⟩)))
      exact Sub.env ⟨Z,Z,Z,Z,Z,Z,Z,Z,Y⟩
     ·refine AWP.skip (b6 (.q (.u (.v Z Z (.nil (b6 (.q (.q ?_))))))))
      obtain ⟨a51,ha51,a53,ha53,a55,ha55,h⟩:=b3 h
      refine AWP.drawI mixed Z ?_
      refine j7.consF Z (fun E=>AOps.j Z Z .N) Z (.consF Z (fun E=>AOps.ag Z Z Z .N) Z (.consF Z (fun E=>W.fieldAddr Z Z Z Z .N) Z (.consF Z (fun E=>W.loadAgg Z Z Z Z Z Z Z .N) Z (.consF Z (fun E=>AOps.j Z Z .N) Z (.consF Z (fun E=>AOps.j Z Z .N) Z (.consF Z (fun E=>AOps.j Z Z .N) Z (.consF Z (fun E=>AOps.j Z Z .N) Z (.consF Z (fun E=>S.idx ha51 Z Z Z Z .N) Z (.consF Z (fun E=>AOps.ad Z Z Z Z .N) Z (.consF Z (fun E=>S.idx ha53 Z Z Z Z .N) Z (.consF Z (fun E=>AOps.ad Z Z Z Z .N) Z (.consF Z (fun E=>AOps.O Z Z Z Z (ar1 ha55) Z .N) Z (.consF Z (fun E=>AOps.not Z Z .N) Z ?_)))))))))))))
      refine j7.done ?_
      dsimp only [j9]
      refine b6 (.ab Z h (fun hc20 h=> ?_) (fun hc20 h=> ?_))
      ·refine AWP.exit (e8 (j5 (b6 ⟨_,h, ?_⟩)))
       exact Sub.env ⟨Z,Z,Z,Z,Z,Z,Z,Z,Y⟩
      ·refine AWP.skip (b6 (.q ?_))
       obtain ⟨a58,ha58,h⟩:=bind_some h
       refine AWP.u (.j Z Z (S.fresh Z Z Z Z (m8 ha58) Z Z (.v Z Z (.nil (b6 (.q ?_))))))
       obtain ⟨a61,ha61,a64,ha64,h⟩:=b2 h
       refine AWP.u (.j Z Z (.j Z Z (S.idxO ha61 Z Z Z Z Z (S.loadO ha61 Z Z Z Z Z (S.add Z Z Z (S.idxO ha64 Z Z Z Z Z (S.storeO1 (f:=intI) (a':=w64 (a61+1)) (h9 ha64) (fun _=>⟨_,Z⟩) Z Z Z Z Z ?_)))))))
       refine AOps.nil (b6 (.q (.frzV (id:=3) (l:=a58.set t15.toNat (w64 (a61+1))) (env2:=[(0,.c (.ptr 0 0 0)),(1,.c (row 1 intI sv)),(2,.c (row 1 intI atv)),(8,.c (.imm (.val (.string a18)))),(9,.c (bool false)),(10,.c (int t15)),(11,.c (row 1 intI a34)),(12,.c (row 1 intI (a58.set t15.toNat (w64 (a61+1))))),(29,.c (row 1 d5 plans)),(30,.c (int (plans.length:Int))),(31,.c (int t15))]) (σ2:=[.one (.cells 7 [[int t.facts,row 1 intI t.init,row 1 intI t.goal,row 4 f8 t.operators,row 1 d5 plans,.own 1 0 c12.length,.map 2]]),.one (vec 1 intI c12),.one (mapB Value.string vI c13),.dead]) Z Z (by exact ⟨⟨_,Z,.inl ⟨Z,Z⟩⟩,⟨_,Z,.inl ⟨Z,Z⟩⟩,⟨_,Z,.inl ⟨Z,Z⟩⟩,⟨_,Z,.inl ⟨Z,Z⟩⟩,⟨_,Z,.inl ⟨Z,Z⟩⟩,⟨_,Z,.inl ⟨Z,Z⟩⟩,⟨_,Z,.inl ⟨Z,Z⟩⟩,⟨_,Z,.inr ⟨_,Z,(by simp only [List.length_set]),Z⟩⟩,⟨_,Z,.inl ⟨Z,Z⟩⟩,⟨_,Z,.inl ⟨Z,Z⟩⟩,⟨_,Z,.inl ⟨Z,Z⟩⟩,Y⟩) Z (by exact ⟨⟨Z,.inl ⟨Z,Z⟩,.inl ⟨Z,Z⟩,.inl ⟨Z,Z⟩,.inl ⟨Z,Z⟩,.inl ⟨Z,Z⟩,.inl ⟨Z,Z⟩,.inl ⟨Z,Z⟩,Y⟩,FrzB.vec,⟨Z,Z⟩,trivial,Y⟩) ?_)))
       obtain ⟨a75,ha75,a77,ha77,a79,ha79,h⟩:=b3 h
       obtain ⟨a81,ha81,h⟩:=bind_some h
       refine AWP.drawEI [15] mixed Z Z Z ?_
       refine d6.consN Z Z (fun E=>AOps.j Z Z .N) Z (.consN Z Z (fun E=>AOps.j Z Z .N) Z (.consN Z Z (fun E=>AOps.ag Z Z Z .N) Z (.consN Z Z (fun E=>W.fieldAddr Z Z Z Z .N) Z (.consN Z Z (fun E=>W.loadAgg Z Z Z Z Z Z Z .N) Z (.consN Z Z (fun E=>AOps.j Z Z .N) Z (.consN Z Z (fun E=>AOps.j Z Z .N) Z (.consN Z Z (fun E=>AOps.j Z Z .N) Z (.consN Z Z (fun E=>AOps.j Z Z .N) Z (.consN Z Z (fun E=>S.idx ha75 Z Z Z Z .N) Z (.consN Z Z (fun E=>AOps.ad Z Z Z Z .N) Z (.consN Z Z (fun E=>S.idx ha77 Z Z Z Z .N) Z (.consN Z Z (fun E=>AOps.ad Z Z Z Z .N) Z (.consN Z Z (fun E=>AOps.O Z Z Z Z (m5.data (V8 ha79)) Z .N) Z (.consN Z Z (fun E=>AOps.j Z Z .N) Z ?_))))))))))))))
       apply d6.consE; exact Z; exact Z; intro E
       refine AOps.callF (r2:=.tup [.c (row 1 intI a81.1),.c (bool a81.2.1)]) (σ'':=[.one (.cells 7 [[int t.facts,row 1 intI t.init,row 1 intI t.goal,row 4 f8 t.operators,row 1 d5 plans,.own 1 0 a81.2.2.1.length,.map 2]]),.one (vec 1 intI a81.2.2.1),.one (mapB Value.string vI a81.2.2.2),.dead]) Z Z Z (FnOk.lend [0,1,2] (hslf _ _ ha81) Z Z Z Z Z Z (by exact ⟨(.one Z),.vec,(.one Z),Y⟩) Z (by exact ⟨(.live Z (.one Z)),(.live Z .vec),(.live Z (.one Z)),Y⟩) Z Z (by exact ⟨(.new 0 Z Z (.one Z)),(.new 1 Z Z .vec),(.new 2 Z Z (.one Z)),.dead,Y⟩)) .N
       exact Z
       exact Z
       refine d6.consN Z Z (fun E=>AOps.j Z Z .N) Z (.consN Z Z (fun E=>AOps.ac Z Z Z .N) Z (.consN Z Z (fun E=>AOps.ac Z Z Z .N) Z (.consN Z Z (fun E=>AOps.v Z Z .N) Z (.consN Z Z (fun E=>AOps.v Z Z .N) Z ?_))))
       refine d6.done Z ?_ ?_
       ·refine c9.cons Z Z ?_ ?_
        refine b7.go Z Z (fun E=>AOps.j Z Z .N) ?_
        refine b7.skip Z (b7.nil)
        refine c9.cons Z Z ?_ ?_
        refine b7.go Z Z (fun E=>AOps.j Z Z .N) ?_
        refine b7.skip Z (b7.nil)
        refine c9.cons Z Z ?_ ?_
        refine b7.go Z Z (fun E=>AOps.ag Z Z Z .N) ?_
        refine b7.skip Z (b7.nil)
        refine c9.cons Z Z ?_ ?_
        refine b7.go Z Z (fun E=>W.fieldAddr Z Z Z Z .N) ?_
        refine b7.skip Z (b7.nil)
        refine c9.cons Z Z ?_ ?_
        refine b7.go Z Z (fun E=>W.loadAgg Z Z Z Z Z Z Z .N) ?_
        refine b7.skip Z (b7.nil)
        refine c9.cons Z Z ?_ ?_
        refine b7.go Z Z (fun E=>AOps.j Z Z .N) ?_
        refine b7.skip Z (b7.nil)
        refine c9.cons Z Z ?_ ?_
        refine b7.go Z Z (fun E=>AOps.j Z Z .N) ?_
        refine b7.skip Z (b7.nil)
        refine c9.cons Z Z ?_ ?_
        refine b7.go Z Z (fun E=>AOps.j Z Z .N) ?_
        refine b7.skip Z (b7.nil)
        refine c9.cons Z Z ?_ ?_
        refine b7.go Z Z (fun E=>AOps.j Z Z .N) ?_
        refine b7.skip Z (b7.nil)
        refine c9.cons Z Z ?_ ?_
        refine b7.go Z Z (fun E=>S.idx ha75 Z Z Z Z .N) ?_
        refine b7.skip Z (b7.nil)
        refine c9.cons Z Z ?_ ?_
        refine b7.go Z Z (fun E=>AOps.ad Z Z Z Z .N) ?_
        refine b7.skip Z (b7.nil)
        refine c9.cons Z Z ?_ ?_
        refine b7.go Z Z (fun E=>S.idx ha77 Z Z Z Z .N) ?_
        refine b7.skip Z (b7.nil)
        refine c9.cons Z Z ?_ ?_
        refine b7.go Z Z (fun E=>AOps.ad Z Z Z Z .N) ?_
        refine b7.skip Z (b7.nil)
        refine c9.cons Z Z ?_ ?_
        refine b7.go Z Z (fun E=>AOps.O Z Z Z Z (m5.data (V8 ha79)) Z .N) ?_
        refine b7.skip Z (b7.nil)
        refine c9.cons Z Z ?_ ?_
        refine b7.go Z Z (fun E=>AOps.j Z Z .N) ?_
        refine b7.skip Z (b7.nil)
        refine c9.skip Z ?_
        refine c9.cons Z Z ?_ ?_
        refine b7.skip Z ?_
        refine b7.go Z Z (fun E=>AOps.j Z Z .N) ?_
        exact b7.nil
        refine c9.cons Z Z ?_ ?_
        refine b7.skip Z ?_
        refine b7.go Z Z (fun E=>AOps.ac Z Z Z .N) ?_
        exact b7.nil
        refine c9.cons Z Z ?_ ?_
        refine b7.skip Z ?_
        refine b7.go Z Z (fun E=>AOps.ac Z Z Z .N) ?_
        exact b7.nil
        refine c9.cons Z Z ?_ ?_
        refine b7.skip Z ?_
        refine b7.go Z Z (fun E=>AOps.v Z Z .N) ?_
        exact b7.nil
        refine c9.cons Z Z ?_ ?_
        refine b7.skip Z ?_
        refine b7.go Z Z (fun E=>AOps.v Z Z .N) ?_
        exact b7.nil
        exact c9.nil
       dsimp only [j9]
       refine b6 (.q (.u (.j Z Z (.nil (b6 (.ab Z h (fun hc21 h=> ?_) (fun hc21 h=> ?_)))))))
       ·refine AWP.q ?_
        obtain ⟨a88,ha88,h⟩:=bind_some h
        refine AWP.u (.j Z Z (S.lit (f:=intI) (l:=[t15]) (ess:=[[int t15]]) Z Z Z Z Z Z Z ⟨⟨.inl Z,Y⟩,Y⟩ Z Z Z (.j Z Z (S.append (f:=intI) ha88 Z Z Z Z Z Z .row Z Z Z Z (.v Z Z (.v Z Z (.nil (b6 (.frzV (id:=5) (l:=a88) (env2:=[(6,.c (row 1 intI a88)),(7,.c (bool true))]) (σ2:=[.one (.cells 7 [[int t.facts,row 1 intI t.init,row 1 intI t.goal,row 4 f8 t.operators,row 1 d5 plans,.own 1 0 a81.2.2.1.length,.map 2]]),.one (vec 1 intI a81.2.2.1),.one (mapB Value.string vI a81.2.2.2),.dead,.dead,.dead]) Z Z (by exact ⟨⟨_,Z,.inr ⟨_,Z,Z,Z⟩⟩,⟨_,Z,.inl ⟨Z,Z⟩⟩,Y⟩) Z (by exact ⟨⟨Z,.inl ⟨Z,Z⟩,.inl ⟨Z,Z⟩,.inl ⟨Z,Z⟩,.inl ⟨Z,Z⟩,.inl ⟨Z,Z⟩,.inl ⟨Z,Z⟩,.inl ⟨Z,Z⟩,Y⟩,FrzB.vec,⟨Z,Z⟩,trivial,trivial,trivial,Y⟩) (.ret (i9 (e7 ?_))))))))))))
        obtain rfl:=oi h
        refine e7 ⟨_,Z,Z, ?_⟩
        exact ⟨⟨[(6,.c (row 1 intI a88)),(7,.c (bool true))],[.one (.cells 7 [[int t.facts,row 1 intI t.init,row 1 intI t.goal,row 4 f8 t.operators,row 1 d5 plans,.own 1 0 a81.2.2.1.length,.map 2]]),.one (vec 1 intI a81.2.2.1),.one (mapB Value.string vI a81.2.2.2)]⟩,Sub.cut ⟨Z,Z,Y⟩ Z ⟨.one Z,.vec,.one Z,Y⟩ Z,Done.ret Z ⟨Z,Z⟩⟩
       ·refine AWP.skip (e9 (b6 ⟨_,h, ?_⟩))
        exact Sub.cut ⟨Z,Z,Z,Z,Z,Z,Z,Z,Y⟩ Z ⟨.one Z,.vec,.one Z,Y⟩ Z
   ·intro e s hq
    rcases oo with ⟨c12,c13,done14⟩ | x
    ·try dsimp only at h hq
     obtain ⟨rfl,hs⟩:=hq
     refine ⟨_,hs, ?_⟩
     refine j5 (b6 (.q ?_))
     obtain ⟨t22,hx23,h⟩:=bind_some h
     refine AWP.seqJ (⟨[(0,.c (.ptr 0 0 0)),(8,.c (.imm (.val (.string a18)))),(98,.c (bool t22))],[.one (.cells 7 [[int t.facts,row 1 intI t.init,row 1 intI t.goal,row 4 f8 t.operators,row 1 d5 plans,.own 1 0 c12.length,.map 2]]),.one (vec 1 intI c12),.one (mapB Value.string vI c13)]⟩) ?_ ?_
     ·rcases bft (done14) with hb24 | hb24
      ·replace hx23:=T0 hb24 hx23
       obtain ⟨a97,ha97,hx23⟩:=bind_some hx23
       refine AWP.u (.j Z Z (.j Z Z (.z Z Z Z hb24 (.j Z Z (.z Z Z Z hb24 (.j Z Z (.z Z Z Z hb24 (.ag Z Z Z (.z Z Z Z hb24 (W.fieldAddr Z Z Z Z (.z Z Z Z hb24 (.E Z Z Z Z Z Z (.z Z Z Z hb24 (.callL Z Z (.cons (.c .imm) (.cons (.c (.own Z Z)) .nil)) Z (N1 ha97) Z (.U Z hb24 Z Z (.nil ?_))))))))))))))))
       obtain rfl:=oi hx23
       refine b6 (Sub.env ⟨Z,Z,Z,Y⟩)
      ·replace hx23:=S6 hb24 hx23
       refine AWP.u (.j Z Z (.j Z Z (.B Z Z Z hb24 (.B Z Z Z hb24 (.B Z Z Z hb24 (.B Z Z Z hb24 (.B Z Z Z hb24 (.B Z Z Z hb24 (.aa Z hb24 Z Z (.nil ?_))))))))))
       obtain rfl:=oi hx23
       refine b6 (Sub.env ⟨Z,Z,Z,Y⟩)
     ·refine AWP.ab Z h (fun hc25 h=> ?_) (fun hc25 h=> ?_)
      ·refine AWP.q (.u (.v Z Z (.v Z Z (.nil (b6 (.nilrow 1 6 Z (.ret (e7 ?_))))))))
       obtain rfl:=oi h
       exact ⟨⟨[(6,.c (row 1 intI [])),(7,.c (bool true))],[.one (.cells 7 [[int t.facts,row 1 intI t.init,row 1 intI t.goal,row 4 f8 t.operators,row 1 d5 plans,.own 1 0 c12.length,.map 2]]),.one (vec 1 intI c12),.one (mapB Value.string vI c13)]⟩,Sub.env ⟨Z,Z,Y⟩,Done.ret Z ⟨Z,Z⟩⟩
      ·refine AWP.skip (b6 (.q (.u (.j Z Z (.ag Z Z Z (W.fieldAddr Z Z Z Z (.E Z Z Z Z Z Z (.j Z Z (W.mapUpdate (fk:=Value.string) (fv:=vI) (k:=a18) (a:=1) ah4 Z Z Z Z Z (.nil (b6 (.q (.u (.v Z Z (.v Z Z (.nil (b6 (.nilrow 1 6 Z (.ret ?_)))))))))))))))))))
       obtain rfl:=oi h
       exact ⟨⟨[(6,.c (row 1 intI [])),(7,.c (bool false))],[.one (.cells 7 [[int t.facts,row 1 intI t.init,row 1 intI t.goal,row 4 f8 t.operators,row 1 d5 plans,.own 1 0 c12.length,.map 2]]),.one (vec 1 intI c12),.one (mapB Value.string vI (mset c13 a18 1))]⟩,Sub.env ⟨Z,Z,Y⟩,Done.ret Z ⟨Z,Z⟩⟩
    ·try dsimp only at h hq
     obtain ⟨rfl,hs⟩:=hq
     refine ⟨_,Sub.refl _ _, ?_⟩
     refine i9 (e7 ?_)
     obtain rfl:=oi h
     exact hs
theorem aj2{sv:List Int}{atv:List Int}{t:d7}{plans:List (List Int)}{l:List Int}{l6:List (ByteArray × Int)}{r:(List Int) × Bool × (List Int) × (List (ByteArray × Int))}(h:O9 sv atv t plans l l6=some r):FnOk prog 46 [.c (.ptr 0 0 0),.c (row 1 intI sv),.c (row 1 intI atv)] (D3 sv atv t plans l l6) (fun tt ss=>tt=.tup [.c (row 1 intI r.1),.c (bool r.2.1)]∧ss=[.one (.cells 7 [[int t.facts,row 1 intI t.init,row 1 intI t.goal,row 4 f8 t.operators,row 1 d5 plans,.own 1 0 r.2.2.1.length,.map 2]]),.one (vec 1 intI r.2.2.1),.one (mapB Value.string vI r.2.2.2)]):=by
 obtain ⟨n,hn⟩:=Rec_some h
 exact ah5 n _ r hn
theorem au5{t:d7}{goals:List (List Int)}{plans:List (List Int)}{r:(List Int) × Bool × g8}(h:R6 t goals plans=some r):f4 prog 15 [.agg (tT t),.c (row 1 d5 goals),.c (row 1 d5 plans)] (.tup [.c (row 1 intI r.1),.c (bool r.2.1),.agg [int r.2.2.code,int r.2.2.index]]):=by
 unfold f4
 refine FnOk.enter (rs:=[.t 6,.t 7,.cell 8 32 2]) func15 Z ntmps15 results15 Z ⟨trivial,trivial,rv _ Z,Y⟩ (by kernel_rfl) Z ?_
 unfold R6 at h
 refine AWP.q (.u (W.box Z Z Z Z Z Z (.v Z Z (.v Z Z (W.alloc Z Z Z Z (.nil (b6 (.q (.q ?_)))))))))
 obtain ⟨a16,ha16,h⟩:=bind_some h
 refine AWP.u (W.loadAgg Z Z Z Z Z Z Z (.j Z Z (.j Z Z (.O Z Z Z Z (au6 ha16) Z (W.alloc Z Z Z Z (W.storeAgg Z Z Z Z Z Z Z (.nil (b6 (.q (.u (W.loadAgg Z Z Z Z Z Z Z (W.build Z Z Z Z (.neqP Z Z Z Z Z Z Z (.nil (b6 (.ab Z h (fun hc4 h=> ?_) (fun hc4 h=> ?_)))))))))))))))))
 ·refine AWP.q (.drawEI [3] mixed Z Z Z ?_)
  refine d6.consN Z Z (fun E=>W.loadAgg Z Z Z Z Z Z Z .N) Z (.consN Z Z (fun E=>AOps.v Z Z .N) Z (.consN Z Z (fun E=>AOps.v Z Z .N) Z ?_))
  apply d6.consE (v:=.undef); exact Z; exact Z; intro E
  refine W.storeAgg Z Z Z Z Z Z Z .N
  exact Z
  exact Z
  refine d6.done Z ?_ ?_
  ·refine c9.cons Z Z ?_ ?_
   refine b7.go Z Z (fun E=>W.loadAgg Z Z Z Z Z Z Z .N) ?_
   refine b7.skip Z (b7.nil)
   refine c9.cons Z Z ?_ ?_
   refine b7.go Z Z (fun E=>AOps.v Z Z .N) ?_
   refine b7.skip Z (b7.nil)
   refine c9.cons Z Z ?_ ?_
   refine b7.go Z Z (fun E=>AOps.v Z Z .N) ?_
   refine b7.skip Z (b7.nil)
   refine c9.skip Z (c9.nil)
  dsimp only [j9]
  refine b6 (.nilrow 1 6 Z (.ret (e7 ?_)))
  obtain rfl:=oi h
  exact Done.ret Z Z
 ·refine AWP.skip (b6 (.q ?_))
  obtain ⟨a24,ha24,h⟩:=bind_some h
  refine AWP.sub (s':=⟨[(0,.agg (tT t)),(1,.c (row 1 d5 goals)),(2,.c (row 1 d5 plans)),(3,.c (.ptr 0 0 0)),(6,.c (.imm (.val nL))),(7,.c (bool false)),(8,.c (.ptr 1 0 0)),(9,.c (.ptr 2 0 0)),(13,.agg (tT t)),(14,.c (row 1 d5 goals)),(15,.c (row 1 d5 plans)),(16,.agg [int a16.code,int a16.index]),(17,.agg [int a16.code,int a16.index]),(18,.agg [int 0,int 0]),(19,.c (bool (!((decide (a16.code=0)) && (decide (a16.index=0))))))],[.one (.cells 4 [(tT t)]),.one (.cells 2 [[int 0,int 0]]),.one (.cells 2 [[int a16.code,int a16.index]]),.dead,.dead,.dead]⟩) (Sub.cut ⟨Z,Z,Z,Z,Z,Z,Z,Z,Z,Z,Z,Z,Z,Z,Z,Y⟩ Z ⟨.one Z,.one Z,.one Z,.dead,.dead,.dead,Y⟩ Z) (.drawTI [.agg (tT t),.c (row 1 d5 plans),.c (row 1 d5 goals),.c (.own 3 0 a24.length),.c (.map 4),.agg [int t.facts,row 1 intI t.init,row 1 intI t.goal,row 4 f8 t.operators,row 1 d5 plans,.own 3 0 a24.length,.map 4],.c (.ptr 5 0 0),.c (.ptr 5 0 0)] [3,4,6] [([],[.one (.cells 4 [(tT t)]),.one (.cells 2 [[int 0,int 0]]),.one (.cells 2 [[int a16.code,int a16.index]]),.dead,.dead,.dead]),([3],[.one (.cells 4 [(tT t)]),.one (.cells 2 [[int 0,int 0]]),.one (.cells 2 [[int a16.code,int a16.index]]),.one (vec 1 intI a24),.dead,.dead]),([4],[.one (.cells 4 [(tT t)]),.one (.cells 2 [[int 0,int 0]]),.one (.cells 2 [[int a16.code,int a16.index]]),.dead,.one (mapB Value.string vI ([]:List (ByteArray × Int))),.dead]),([3,4],[.one (.cells 4 [(tT t)]),.one (.cells 2 [[int 0,int 0]]),.one (.cells 2 [[int a16.code,int a16.index]]),.one (vec 1 intI a24),.one (mapB Value.string vI ([]:List (ByteArray × Int))),.dead]),([3,4,6],[.one (.cells 4 [(tT t)]),.one (.cells 2 [[int 0,int 0]]),.one (.cells 2 [[int a16.code,int a16.index]]),.one (vec 1 intI a24),.one (mapB Value.string vI ([]:List (ByteArray × Int))),.one (.cells 7 [[int t.facts,row 1 intI t.init,row 1 intI t.goal,row 4 f8 t.operators,row 1 d5 plans,.own 3 0 a24.length,.map 4]])])] [.one (.cells 4 [(tT t)]),.one (.cells 2 [[int 0,int 0]]),.one (.cells 2 [[int a16.code,int a16.index]]),.one (vec 1 intI a24),.one (mapB Value.string vI ([]:List (ByteArray × Int))),.one (.cells 7 [[int t.facts,row 1 intI t.init,row 1 intI t.goal,row 4 f8 t.operators,row 1 d5 plans,.own 3 0 a24.length,.map 4]])] mixed Z Z Z Z Z ?_ ?_)
  ·refine C4.cons ?_ ?_
   ·apply e6.go; exact Z; exact Z; exact Z; intro E hE; (refine W.loadAgg Z Z Z Z Z Z Z ?_); exact AOps.nil ⟨Z,Z⟩
    apply e6.go; exact Z; exact Z; exact Z; intro E hE; (refine AOps.j Z Z ?_); exact AOps.nil ⟨Z,Z⟩
    apply e6.go; exact Z; exact Z; exact Z; intro E hE; (refine AOps.j Z Z ?_); exact AOps.nil ⟨Z,Z⟩
    apply e6.eff; exact Z; exact Z; exact Z; exact Z; intro E hE; (refine AOps.newAt 3 (.c (.own 3 0 a24.length)) (vec 1 intI a24) (.inl Z) Z hE Z Z Z Z (.vec) (.vec) Z Z Z ⟨.one Z,.one Z,.one Z,.dead,.dead,.dead,Y⟩ (fun hh=>by (refine S.fresh Z Z Z Z (al1 ha24) Z Z ?_; exact hh)) ?_); exact AOps.nil ⟨Z,Z⟩
    apply e6.eff; exact Z; exact Z; exact Z; exact Z; intro E hE; (refine AOps.newAt 4 (.c (.map 4)) (mapB Value.string vI ([]:List (ByteArray × Int))) (.inl Z) Z hE Z Z Z Z (.one Z) (.one Z) Z Z Z ⟨.one Z,.one Z,.one Z,.dead,.dead,.dead,Y⟩ (fun hh=>by (refine W.makeMap Value.string vI Z Z Z ?_; exact hh)) ?_); exact AOps.nil ⟨Z,Z⟩
    refine e6.no Z (e6.no Z (e6.no Z (e6.nil)))
   refine C4.cons ?_ ?_
   ·apply e6.go; exact Z; exact Z; exact Z; intro E hE; (refine W.loadAgg Z Z Z Z Z Z Z ?_); exact AOps.nil ⟨Z,Z⟩
    apply e6.go; exact Z; exact Z; exact Z; intro E hE; (refine AOps.j Z Z ?_); exact AOps.nil ⟨Z,Z⟩
    refine e6.no Z (e6.no Z ?_)
    apply e6.eff; exact Z; exact Z; exact Z; exact Z; intro E hE; (refine AOps.newAt 4 (.c (.map 4)) (mapB Value.string vI ([]:List (ByteArray × Int))) (.inl Z) Z hE Z Z Z Z (.one Z) (.one Z) Z Z Z ⟨.one Z,.one Z,.one Z,.vec,.dead,.dead,Y⟩ (fun hh=>by (refine W.makeMap Value.string vI Z Z Z ?_; exact hh)) ?_); exact AOps.nil ⟨Z,Z⟩
    refine e6.no Z (e6.no Z (e6.no Z (e6.nil)))
   refine C4.cons ?_ ?_
   ·apply e6.go; exact Z; exact Z; exact Z; intro E hE; (refine W.loadAgg Z Z Z Z Z Z Z ?_); exact AOps.nil ⟨Z,Z⟩
    apply e6.go; exact Z; exact Z; exact Z; intro E hE; (refine AOps.j Z Z ?_); exact AOps.nil ⟨Z,Z⟩
    apply e6.go; exact Z; exact Z; exact Z; intro E hE; (refine AOps.j Z Z ?_); exact AOps.nil ⟨Z,Z⟩
    apply e6.eff; exact Z; exact Z; exact Z; exact Z; intro E hE; (refine AOps.newAt 3 (.c (.own 3 0 a24.length)) (vec 1 intI a24) (.inl Z) Z hE Z Z Z Z (.vec) (.vec) Z Z Z ⟨.one Z,.one Z,.one Z,.dead,.one Z,.dead,Y⟩ (fun hh=>by (refine S.fresh Z Z Z Z (al1 ha24) Z Z ?_; exact hh)) ?_); exact AOps.nil ⟨Z,Z⟩
    refine e6.no Z (e6.no Z (e6.no Z (e6.no Z (e6.nil))))
   refine C4.cons ?_ ?_
   ·apply e6.go; exact Z; exact Z; exact Z; intro E hE; (refine W.loadAgg Z Z Z Z Z Z Z ?_); exact AOps.nil ⟨Z,Z⟩
    apply e6.go; exact Z; exact Z; exact Z; intro E hE; (refine AOps.j Z Z ?_); exact AOps.nil ⟨Z,Z⟩
    refine e6.no Z (e6.no Z (e6.no Z ?_))
    apply e6.go; exact Z; exact Z; exact Z; intro E hE; (refine W.buildP Z Z Z Z ?_); exact AOps.nil ⟨Z,Z⟩
    apply e6.eff; exact Z; exact Z; exact Z; exact Z; intro E hE; (refine AOps.newAt 5 (.c (.ptr 5 0 0)) (.cells 7 [[int t.facts,row 1 intI t.init,row 1 intI t.goal,row 4 f8 t.operators,row 1 d5 plans,.own 3 0 a24.length,.map 4]]) (.inl Z) Z hE Z Z Z Z (.one Z) (.one Z) Z Z Z ⟨.one Z,.one Z,.one Z,.vec,.one Z,.dead,Y⟩ (fun hh=>by (refine W.box Z Z Z Z Z Z ?_; exact hh)) ?_); exact AOps.nil ⟨Z,Z⟩
    refine e6.no Z (e6.nil)
   refine C4.cons ?_ ?_
   ·refine e6.no Z (e6.no Z (e6.no Z (e6.no Z (e6.no Z (e6.no Z (e6.no Z ?_))))))
    apply e6.go; exact Z; exact Z; exact Z; intro E hE; (refine AOps.v Z Z ?_); exact AOps.nil ⟨Z,Z⟩
    exact e6.nil
   exact C4.nil
  dsimp only [j9]
  refine b6 (.q ?_)
  obtain ⟨a34,ha34,a35,ha35,h⟩:=b2 h
  refine AWP.drawEI [6] mixed Z Z Z ?_
  refine d6.consN Z Z (fun E=>AOps.j Z Z .N) Z (.consN Z Z (fun E=>W.fieldAddr Z Z Z Z .N) Z (.consN Z Z (fun E=>AOps.E Z Z Z Z Z Z .N) Z (.consN Z Z (fun E=>AOps.j Z Z .N) Z (.consN Z Z (fun E=>S.len Z Z (fun hl33=>.nil ⟨Z,Z⟩)) Z (.consN Z Z (fun E=>S.makeD (f:=intI) ha34 (by exact ⟨.inl Z,Y⟩) Z Z Z Z .N) Z ?_)))))
  apply d6.consE; exact Z; exact Z; intro E
  refine AOps.callF (r2:=.tup [.c (row 1 intI a35.1),.c (bool a35.2.1)]) (σ'':=[.one (.cells 4 [(tT t)]),.one (.cells 2 [[int 0,int 0]]),.one (.cells 2 [[int a16.code,int a16.index]]),.one (vec 1 intI a35.2.2.1),.one (mapB Value.string vI a35.2.2.2),.one (.cells 7 [[int t.facts,row 1 intI t.init,row 1 intI t.goal,row 4 f8 t.operators,row 1 d5 plans,.own 3 0 a35.2.2.1.length,.map 4]])]) Z Z Z (FnOk.lend [5,3,4] (aj2 ha35) Z Z Z Z Z Z (by exact ⟨(.one Z),.vec,(.one Z),Y⟩) Z (by exact ⟨(.live Z (.one Z)),(.live Z .vec),(.live Z (.one Z)),Y⟩) Z Z (by exact ⟨(.old Z Z Z),(.old Z Z Z),(.old Z Z Z),(.new 1 Z Z .vec),(.new 2 Z Z (.one Z)),(.new 0 Z Z (.one Z)),Y⟩)) .N
  exact Z
  exact Z
  refine d6.consN Z Z (fun E=>AOps.j Z Z .N) Z (.consN Z Z (fun E=>AOps.ac Z Z Z .N) Z (.consN Z Z (fun E=>AOps.ac Z Z Z .N) Z (.consN Z Z (fun E=>AOps.v Z Z .N) Z (.consN Z Z (fun E=>AOps.v Z Z .N) Z ?_))))
  refine d6.done Z ?_ ?_
  ·refine c9.cons Z Z ?_ ?_
   refine b7.go Z Z (fun E=>AOps.j Z Z .N) ?_
   refine b7.skip Z (b7.nil)
   refine c9.cons Z Z ?_ ?_
   refine b7.go Z Z (fun E=>W.fieldAddr Z Z Z Z .N) ?_
   refine b7.skip Z (b7.nil)
   refine c9.cons Z Z ?_ ?_
   refine b7.go Z Z (fun E=>AOps.E Z Z Z Z Z Z .N) ?_
   refine b7.skip Z (b7.nil)
   refine c9.cons Z Z ?_ ?_
   refine b7.go Z Z (fun E=>AOps.j Z Z .N) ?_
   refine b7.skip Z (b7.nil)
   refine c9.cons Z Z ?_ ?_
   apply b7.go; exact Z; exact Z; intro E; refine S.len Z Z (fun hl33=> ?_); exact AOps.nil ⟨Z,Z⟩
   refine b7.skip Z (b7.nil)
   refine c9.cons Z Z ?_ ?_
   refine b7.go Z Z (fun E=>S.makeD (f:=intI) ha34 (by exact ⟨.inl Z,Y⟩) Z Z Z Z .N) ?_
   refine b7.skip Z (b7.nil)
   refine c9.skip Z ?_
   refine c9.cons Z Z ?_ ?_
   refine b7.skip Z ?_
   refine b7.go Z Z (fun E=>AOps.j Z Z .N) ?_
   exact b7.nil
   refine c9.cons Z Z ?_ ?_
   refine b7.skip Z ?_
   refine b7.go Z Z (fun E=>AOps.ac Z Z Z .N) ?_
   exact b7.nil
   refine c9.cons Z Z ?_ ?_
   refine b7.skip Z ?_
   refine b7.go Z Z (fun E=>AOps.ac Z Z Z .N) ?_
   exact b7.nil
   refine c9.cons Z Z ?_ ?_
   refine b7.skip Z ?_
   refine b7.go Z Z (fun E=>AOps.v Z Z .N) ?_
   exact b7.nil
   refine c9.cons Z Z ?_ ?_
   refine b7.skip Z ?_
   refine b7.go Z Z (fun E=>AOps.v Z Z .N) ?_
   exact b7.nil
   exact c9.nil
  dsimp only [j9]
  refine b6 (.q (.u (.j Z Z (.j Z Z (W.build Z Z Z Z (.v Z Z (.v Z Z (W.storeAgg Z Z Z Z Z Z Z (.nil (b6 (.ret ?_)))))))))))
  obtain rfl:=oi h
  exact Done.ret Z Z
theorem ref1_In_ok{nv:Int}{low:Int}{high:Int}{r:Bool}(h:R8 nv low high=some r):f4 prog 16 [.c (int nv),.c (int low),.c (int high)] (.c (bool r)):=by
 unfold f4
 refine FnOk.enter (rs:=[.t 6]) func16 Z ntmps16 results16 Z ⟨trivial,Y⟩ (by kernel_rfl) Z ?_
 unfold R8 at h
 refine AWP.q (.u (.v Z Z (.nil (b6 (.seqJ (⟨[(6,.c (bool ((decide (low≤nv)) && (decide (nv≤high)))))],[]⟩) ?_ ?_)))))
 ·rcases bft (decide (low≤nv)) with hb1 | hb1
  ·refine AWP.u (.j Z Z (.j Z Z (.geq Z Z Z (.j Z Z (.z Z Z Z hb1 (.j Z Z (.z Z Z Z hb1 (.j Z Z (.z Z Z Z hb1 (.leq Z Z Z (.U Z hb1 Z Z (.v Z Z (.nil (b6 ?_))))))))))))))
   simp only [Q6 hb1,or_t hb1,Bool.false_or,Bool.true_or,Bool.false_and,Bool.true_and]
   exact Sub.env ⟨Z,Y⟩
  ·refine AWP.u (.j Z Z (.j Z Z (.geq Z Z Z (.j Z Z (.B Z Z Z hb1 (.B Z Z Z hb1 (.B Z Z Z hb1 (.aa Z hb1 Z Z (.v Z Z (.nil (b6 ?_)))))))))))
   simp only [N3 hb1,or_f hb1,Bool.false_or,Bool.true_or,Bool.false_and,Bool.true_and]
   exact Sub.env ⟨Z,Y⟩
 ·refine AWP.ret ?_
  obtain rfl:=oi h
  exact Done.ret Z Z
theorem ref1_Has_ok{l:List Int}{nv:Int}{r:Bool}(h:af6 l nv=some r):f4 prog 17 [.c (row 1 intI l),.c (int nv)] (.c (bool r)):=by
 unfold f4
 refine FnOk.enter (rs:=[.t 4]) func17 Z ntmps17 results17 Z ⟨trivial,Y⟩ (by kernel_rfl) Z ?_
 unfold af6 at h
 refine AWP.q (.u (.v Z Z (.nil (b6 (.q (.q (.u (.v Z Z (.nil (b6 (.J ?_)))))))))))
 obtain ⟨oo,ho1,h⟩:=bind_some h
 refine AWP.rngS ho1 (fun iv3 _=>⟨[(0,.c (row 1 intI l)),(1,.c (int nv)),(5,.c (int iv3))],[]⟩) (fun o e st=>match o with | .inl _=>e=.exit 0∧Sub [] st ⟨[],[]⟩ | .inr x=>e=.ret∧Done [.t 4] (fun t _=>t=.c (bool x)) .ret st) ?_ ?_ ?_ ?_
 ·try dsimp only
  exact Sub.env ⟨Z,Z,Z,Y⟩
 ·intro iv3 s hloiv3 hltiv3 _
  try dsimp only
  refine AWP.q (.q (.u (.j Z Z (.j Z Z (S.len Z Z (fun hl8=>.F Z Z Z (.nil (b6 (.ae Z hltiv3 (.exit (e8 (e8 ⟨Z, ?_⟩))))))))))))
  exact Sub.env trivial
 ·intro iv3 s o hloiv3 hltiv3 h
  unfold an5 at h
  try dsimp only at h ⊢
  refine AWP.q (.q (.u (.j Z Z (.j Z Z (S.len Z Z (fun hl8=>.F Z Z Z (.nil (b6 (.af Z hltiv3 (.skip (b6 (.q (.J (.q ?_))))))))))))))
  obtain ⟨a14,ha14,h⟩:=bind_some h
  refine AWP.u (.j Z Z (.j Z Z (S.idx ha14 Z Z Z Z (.ad Z Z Z Z (.j Z Z (.eql Z Z Z (.nil (b6 (.ite Z h (fun hc4 h=> ?_) (fun hc4 h=> ?_))))))))))
  ·refine AWP.q (.u (.v Z Z (.nil (b6 (.ret (i9 (e7 ?_)))))))
   obtain rfl:=oi h
   refine e7 ⟨_,Z,Z, ?_⟩
   exact Done.ret Z Z
  ·refine AWP.skip (e9 (b6 (.u (.j Z Z (.add Z Z Z (by omega) (.v Z Z (.nil ?_)))))))
   obtain rfl:=oi h
   refine b6 ⟨_,Z, ?_⟩
   exact Sub.env ⟨Z,Z,Z,Y⟩
 ·intro e s hq
  rcases oo with u | x
  ·try dsimp only at h hq
   obtain ⟨rfl,hs⟩:=hq
   refine ⟨_,hs, ?_⟩
   refine j5 (b6 (.q (.u (.v Z Z (.nil (b6 (.ret ?_)))))))
   obtain rfl:=oi h
   exact Done.ret Z Z
  ·try dsimp only at h hq
   obtain ⟨rfl,hs⟩:=hq
   refine ⟨_,Sub.refl _ _, ?_⟩
   refine i9 (e7 ?_)
   obtain rfl:=oi h
   exact hs
theorem ah6{t:d7}{goals:List (List Int)}{plans:List (List Int)}{r:Bool}(h:F6 t goals plans=some r):f4 prog 5 [.agg (tT t),.c (row 1 d5 goals),.c (row 1 d5 plans)] (.c (bool r)):=by
 unfold f4
 refine FnOk.enter (rs:=[.t 6]) func5 Z ntmps5 results5 Z ⟨trivial,Y⟩ (by kernel_rfl) Z ?_
 unfold F6 at h
 refine AWP.q (.u (W.box Z Z Z Z Z Z (.v Z Z (.nil (b6 (.q ?_))))))
 obtain ⟨a24,ha24,h⟩:=bind_some h
 refine AWP.u (W.loadAgg Z Z Z Z Z Z Z (.j Z Z (.j Z Z (.O Z Z Z Z (au5 ha24) Z (.j Z Z (.ac Z Z Z (.ac Z Z Z (.ac Z Z Z (W.alloc Z Z Z Z (.v Z Z (.v Z Z (W.storeAgg Z Z Z Z Z Z Z (.nil (b6 (.q (.seqJ (⟨[(1,.c (row 1 d5 goals)),(2,.c (row 1 d5 plans)),(3,.c (.ptr 0 0 0)),(7,.c (row 1 intI a24.1)),(34,.c (bool ((!(decide (a24.2.2.code=0))) || (!a24.2.1))))],[.one (.cells 4 [(tT t)]),.one (.cells 2 [[int a24.2.2.code,int a24.2.2.index]])]⟩) ?_ ?_))))))))))))))))
 ·rcases bft (!(decide (a24.2.2.code=0))) with hb1 | hb1
  ·refine AWP.u (W.fieldAddr Z Z Z Z (.E Z Z Z Z Z Z (.neq Z Z Z (.j Z Z (.B Z Z Z hb1 (.B Z Z Z hb1 (.U Z hb1 Z Z (.nil (b6 ?_)))))))))
   simp only [Q6 hb1,or_t hb1,Bool.false_or,Bool.true_or,Bool.false_and,Bool.true_and]
   exact Sub.env ⟨Z,Z,Z,Z,Z,Y⟩
  ·refine AWP.u (W.fieldAddr Z Z Z Z (.E Z Z Z Z Z Z (.neq Z Z Z (.j Z Z (.z Z Z Z hb1 (.j Z Z (.z Z Z Z hb1 (.not Z Z (.aa Z hb1 Z Z (.nil (b6 ?_)))))))))))
   simp only [N3 hb1,or_f hb1,Bool.false_or,Bool.true_or,Bool.false_and,Bool.true_and]
   exact Sub.env ⟨Z,Z,Z,Z,Z,Y⟩
 ·refine AWP.ab Z h (fun hc4 h=> ?_) (fun hc4 h=> ?_)
  ·refine AWP.q ?_
   obtain ⟨a35,ha35,h⟩:=bind_some h
   refine AWP.u (.O Z Z Z Z (ak7 ha35) Z (.v Z Z (.nil (b6 (.ret (e7 ?_))))))
   obtain rfl:=oi h
   exact Done.ret Z Z
  ·refine AWP.skip (b6 (.q ?_))
   obtain ⟨a38,ha38,h⟩:=bind_some h
   refine AWP.u (.j Z Z (S.len Z Z (fun hl37=>S.make (f:=intI) ha38 (.val .nil) Z Z Z Z Z Z (.v Z Z (.nil (b6 (.q (.u (.v Z Z (.nil (b6 (.q (.q (.u (.v Z Z (.nil (b6 (.J (.virtV 1 intI 11 Z Z Z ?_)))))))))))))))))))
   obtain ⟨oo,ho1,h⟩:=bind_some h
   refine AWP.rngS ho1 (fun iv7 (c5,c6)=>⟨[(1,.c (row 1 d5 goals)),(2,.c (row 1 d5 plans)),(3,.c (.ptr 0 0 0)),(7,.c (row 1 intI a24.1)),(10,.c (.own 2 0 c5.length)),(11,.c (.own 3 0 c6.length)),(12,.c (int iv7))],[.one (.cells 4 [(tT t)]),.dead,.one (vec 1 intI c5),.one (vec 1 intI c6)]⟩) (fun o e st=>match o with | .inl (c5,c6)=>e=.exit 0∧Sub [] st ⟨[(1,.c (row 1 d5 goals)),(3,.c (.ptr 0 0 0)),(11,.c (.own 3 0 c6.length))],[.one (.cells 4 [(tT t)]),.dead,.one (vec 1 intI c5),.one (vec 1 intI c6)]⟩ | .inr x=>e=.ret∧Done [.t 6] (fun t _=>t=.c (bool x)) .ret st) ?_ ?_ ?_ ?_
   ·try dsimp only
    exact Sub.cut ⟨Z,Z,Z,Z,Z,(I5 (by first | rfl | simp only [List.length_set])),Z,Y⟩ Z ⟨.one Z,.dead,.vec,.vec,Y⟩ Z
   ·intro iv7 s hloiv7 hltiv7 _
    obtain ⟨c5,c6⟩:=s
    try dsimp only
    refine AWP.q (.q (.u (.j Z Z (.j Z Z (S.len Z Z (fun hl41=>.F Z Z Z (.nil (b6 (.ae Z hltiv7 (.exit (e8 (e8 ⟨Z, ?_⟩))))))))))))
    exact Sub.env ⟨Z,Z,Z,Y⟩
   ·intro iv7 s o hloiv7 hltiv7 h
    obtain ⟨c5,c6⟩:=s
    unfold C2 at h
    try dsimp only at h ⊢
    refine AWP.q (.q (.u (.j Z Z (.j Z Z (S.len Z Z (fun hl41=>.F Z Z Z (.nil (b6 (.af Z hltiv7 (.skip (b6 (.q (.J (.q ?_))))))))))))))
    obtain ⟨a47,ha47,h⟩:=bind_some h
    refine AWP.u (.j Z Z (.j Z Z (S.idx ha47 Z Z Z Z (.ad Z Z Z Z (.v Z Z (.nil (b6 (.q ?_))))))))
    obtain ⟨t8,hx9,h⟩:=bind_some h
    refine AWP.seqJ (⟨[(1,.c (row 1 d5 goals)),(2,.c (row 1 d5 plans)),(3,.c (.ptr 0 0 0)),(7,.c (row 1 intI a24.1)),(10,.c (.own 2 0 c5.length)),(11,.c (.own 3 0 c6.length)),(12,.c (int iv7)),(13,.c (int a47)),(66,.c (bool t8))],[.one (.cells 4 [(tT t)]),.dead,.one (vec 1 intI c5),.one (vec 1 intI c6)]⟩) ?_ ?_
    ·obtain ⟨a53,ha53,hx9⟩:=bind_some hx9
     rcases bft (!a53) with hb10 | hb10
     ·replace hx9:=T0 hb10 hx9
      refine AWP.drawI mixed Z ?_
      refine j7.consF Z (fun E=>AOps.j Z Z .N) Z (.consF Z (fun E=>AOps.j Z Z .N) Z (.consF Z (fun E=>S.len Z Z (fun hl51=>.nil ⟨Z,Z⟩)) Z (.consF Z (fun E=>S.sub Z Z Z .N) Z (.consF Z (fun E=>AOps.O Z Z Z Z (ref1_In_ok ha53) Z .N) Z (.consF Z (fun E=>AOps.not Z Z .N) Z (.consF Z (fun E=>AOps.j Z Z .N) Z (.consF Z (fun E=>AOps.B Z Z Z hb10 .N) Z (.consF Z (fun E=>AOps.B Z Z Z hb10 .N) Z (.consF Z (fun E=>AOps.B Z Z Z hb10 .N) Z (.consF Z (fun E=>AOps.B Z Z Z hb10 .N) Z (.consF Z (fun E=>AOps.B Z Z Z hb10 .N) Z (.consF Z (fun E=>AOps.B Z Z Z hb10 .N) Z (.consF Z (fun E=>AOps.B Z Z Z hb10 .N) Z (.consF Z (fun E=>AOps.B Z Z Z hb10 .N) Z (.consF Z (fun E=>AOps.B Z Z Z hb10 .N) Z (.consF Z (fun E=>AOps.B Z Z Z hb10 .N) Z (.consF Z (fun E=>AOps.U Z hb10 Z Z .N) Z ?_)))))))))))))))))
      refine j7.done ?_
      dsimp only [j9]
      obtain rfl:=oi hx9
      refine b6 (Sub.env ⟨Z,Z,Z,Z,Z,Z,Z,Z,Z,Y⟩)
     ·replace hx9:=S6 hb10 hx9
      obtain ⟨a58,ha58,a62,ha62,hx9⟩:=b2 hx9
      refine AWP.drawI mixed Z ?_
      refine j7.consF Z (fun E=>AOps.j Z Z .N) Z (.consF Z (fun E=>AOps.j Z Z .N) Z (.consF Z (fun E=>S.len Z Z (fun hl51=>.nil ⟨Z,Z⟩)) Z (.consF Z (fun E=>S.sub Z Z Z .N) Z (.consF Z (fun E=>AOps.O Z Z Z Z (ref1_In_ok ha53) Z .N) Z (.consF Z (fun E=>AOps.not Z Z .N) Z (.consF Z (fun E=>AOps.j Z Z .N) Z (.consF Z (fun E=>AOps.z Z Z Z hb10 (.j Z Z .N)) Z (.consF Z (fun E=>AOps.z Z Z Z hb10 (.j Z Z .N)) Z (.consF Z (fun E=>AOps.z Z Z Z hb10 (S.idxO ha58 Z Z Z Z Z .N)) Z (.consF Z (fun E=>AOps.z Z Z Z hb10 (S.loadO ha58 Z Z Z Z Z .N)) Z (.consF Z (fun E=>AOps.z Z Z Z hb10 (.j Z Z .N)) Z (.consF Z (fun E=>AOps.z Z Z Z hb10 (.j Z Z .N)) Z (.consF Z (fun E=>AOps.z Z Z Z hb10 (S.idx ha62 Z Z Z Z .N)) Z (.consF Z (fun E=>AOps.z Z Z Z hb10 (.ad Z Z Z Z .N)) Z ?_))))))))))))))
      apply j7.consF; exact Z; intro E
      refine AOps.z Z Z Z hb10 ?_; refine S.len Z Z (fun hl64=> ?_)
      exact AOps.nil ⟨Z,Z⟩
      exact Z
      refine j7.consF Z (fun E=>AOps.z Z Z Z hb10 (.geq Z Z Z .N)) Z (.consF Z (fun E=>AOps.aa Z hb10 Z Z .N) Z ?_)
      refine j7.done ?_
      dsimp only [j9]
      obtain rfl:=oi hx9
      refine b6 (Sub.env ⟨Z,Z,Z,Z,Z,Z,Z,Z,Z,Y⟩)
    ·refine AWP.ab Z h (fun hc11 h=> ?_) (fun hc11 h=> ?_)
     ·refine AWP.q (.u (.v Z Z (.nil (b6 (.ret (e7 (i9 (e7 ?_))))))))
      obtain rfl:=oi h
      refine e7 ⟨_,Z,Z, ?_⟩
      exact Done.ret Z Z
     ·refine AWP.skip (b6 (.q ?_))
      obtain ⟨a70,ha70,a74,ha74,a76,ha76,h⟩:=b3 h
      obtain ⟨a79,ha79,h⟩:=bind_some h
      refine AWP.drawEI [11,12] mixed Z Z Z ?_
      refine d6.consN Z Z (fun E=>AOps.j Z Z .N) Z (.consN Z Z (fun E=>AOps.j Z Z .N) Z (.consN Z Z (fun E=>AOps.j Z Z .N) Z (.consN Z Z (fun E=>S.idx ha70 Z Z Z Z .N) Z (.consN Z Z (fun E=>AOps.ad Z Z Z Z .N) Z (.consN Z Z (fun E=>AOps.j Z Z .N) Z (.consN Z Z (fun E=>AOps.j Z Z .N) Z (.consN Z Z (fun E=>S.idxO ha74 Z Z Z Z Z .N) Z (.consN Z Z (fun E=>S.loadO ha74 Z Z Z Z Z .N) Z (.consN Z Z (fun E=>S.idx ha76 Z Z Z Z .N) Z (.consN Z Z (fun E=>AOps.ad Z Z Z Z .N) Z ?_))))))))))
      apply d6.consE; exact Z; exact Z; intro E
      refine S.lit (f:=intI) (l:=[a76]) (ess:=[[int a76]]) Z Z Z Z Z Z Z ⟨⟨.inl Z,Y⟩,Y⟩ Z Z Z .N
      exact Z
      exact Z
      apply d6.consE; exact Z; exact Z; intro E
      refine S.append (f:=intI) ha79 Z Z Z Z Z Z (.own Z Z) Z Z Z Z .N
      exact Z
      exact Z
      refine d6.consN Z Z (fun E=>AOps.v Z Z .N) Z ?_
      refine d6.done Z ?_ ?_
      ·refine c9.cons Z Z ?_ ?_
       refine b7.go Z Z (fun E=>AOps.j Z Z .N) ?_
       refine b7.go Z Z (fun E=>AOps.j Z Z .N) ?_
       refine b7.skip Z (b7.nil)
       refine c9.cons Z Z ?_ ?_
       refine b7.go Z Z (fun E=>AOps.j Z Z .N) ?_
       refine b7.skip Z (b7.skip Z (b7.nil))
       refine c9.cons Z Z ?_ ?_
       refine b7.go Z Z (fun E=>AOps.j Z Z .N) ?_
       refine b7.skip Z (b7.skip Z (b7.nil))
       refine c9.cons Z Z ?_ ?_
       refine b7.go Z Z (fun E=>S.idx ha70 Z Z Z Z .N) ?_
       refine b7.skip Z (b7.skip Z (b7.nil))
       refine c9.cons Z Z ?_ ?_
       refine b7.go Z Z (fun E=>AOps.ad Z Z Z Z .N) ?_
       refine b7.skip Z (b7.skip Z (b7.nil))
       refine c9.cons Z Z ?_ ?_
       refine b7.go Z Z (fun E=>AOps.j Z Z .N) ?_
       refine b7.skip Z (b7.skip Z (b7.nil))
       refine c9.cons Z Z ?_ ?_
       refine b7.go Z Z (fun E=>AOps.j Z Z .N) ?_
       refine b7.skip Z (b7.skip Z (b7.nil))
       refine c9.cons Z Z ?_ ?_
       refine b7.go Z Z (fun E=>S.idxO ha74 Z Z Z Z Z .N) ?_
       refine b7.skip Z (b7.skip Z (b7.nil))
       refine c9.cons Z Z ?_ ?_
       refine b7.go Z Z (fun E=>S.loadO ha74 Z Z Z Z Z .N) ?_
       refine b7.skip Z (b7.skip Z (b7.nil))
       refine c9.cons Z Z ?_ ?_
       refine b7.go Z Z (fun E=>S.idx ha76 Z Z Z Z .N) ?_
       refine b7.skip Z (b7.skip Z (b7.nil))
       refine c9.cons Z Z ?_ ?_
       refine b7.go Z Z (fun E=>AOps.ad Z Z Z Z .N) ?_
       refine b7.skip Z (b7.skip Z (b7.nil))
       refine c9.skip Z (c9.skip Z ?_)
       refine c9.cons Z Z ?_ ?_
       refine b7.skip Z (b7.skip Z ?_)
       refine b7.go Z Z (fun E=>AOps.v Z Z .N) ?_
       exact b7.nil
       exact c9.nil
      dsimp only [j9]
      refine b6 (.j (env':=[(1,.c (row 1 d5 goals)),(2,.c (row 1 d5 plans)),(3,.c (.ptr 0 0 0)),(7,.c (row 1 intI a24.1)),(10,.c (.own 2 0 c5.length)),(11,.c (.own 3 0 a79.length)),(12,.c (int iv7)),(13,.c (int a47))]) (σ':=[.one (.cells 4 [(tT t)]),.dead,.one (vec 1 intI c5),.one (vec 1 intI a79),.one (vec 1 intI [a76])]) 3 5 Z Z Z ⟨Z,Z,Z,Z,Z,Z,Z,Z,Y⟩ Z ⟨⟨Z,Z⟩,trivial,⟨Blk.im_ok _ _ _,g9 Z⟩,⟨Blk.im_ok _ _ _,g9 Z⟩,⟨Blk.im_ok _ _ _,g9 Z⟩,Y⟩ ?_)
      obtain ⟨a82,ha82,a85,ha85,h⟩:=b2 h
      refine AWP.u (.j Z Z (.j Z Z (S.idxO ha82 Z Z Z Z Z (S.loadO ha82 Z Z Z Z Z (S.add Z Z Z (S.idxO ha85 Z Z Z Z Z (S.storeO1 (f:=intI) (a':=w64 (a82+1)) (h9 ha85) (fun _=>⟨_,Z⟩) Z Z Z Z Z ?_)))))))
      refine AOps.nil (e9 (b6 (.u (.j Z Z (.add Z Z Z (by omega) (.v Z Z (.nil ?_)))))))
      obtain rfl:=oi h
      refine b6 ⟨_,Z, ?_⟩
      exact Sub.cut ⟨Z,Z,Z,Z,(I5 (by first | rfl | simp only [List.length_set])),Z,Z,Y⟩ Z ⟨.one Z,.dead,.vec,.vec,Y⟩ Z
   ·intro e s hq
    rcases oo with ⟨c5,c6⟩ | x
    ·try dsimp only at h hq
     obtain ⟨rfl,hs⟩:=hq
     refine ⟨_,hs, ?_⟩
     refine j5 (b6 (.q (.u (W.loadAgg Z Z Z Z Z Z Z (W.alloc Z Z Z Z (W.storeAgg Z Z Z Z Z Z Z (.nil (b6 (.q (.u (W.fieldAddr Z Z Z Z (W.store Z Z Z Z Z (.nil (b6 (.q (.q (.virtB 1 intI (b:=4) (o:=2) Z Z Z Z Z Z (.u (.v Z Z (.nil (b6 (.J ?_))))))))))))))))))))))
     obtain ⟨hnp13,h⟩:=ite_none h
     obtain ⟨c12,ho2,h⟩:=bind_some h
     refine AWP.forS ho2 (fun p13 c12=>⟨[(1,.c (row 1 d5 goals)),(3,.c (.ptr 0 0 0)),(11,.c (.own 3 0 c6.length)),(14,.c (.ptr 4 0 0)),(15,.c (int p13))],[.one (.cells 4 [(tT t)]),.dead,.dead,.one (vec 1 intI c6),.one (.cells 4 [[int t.facts,row 1 intI t.init,.own 5 0 c12.length,row 4 f8 t.operators]]),.one (vec 1 intI c12)]⟩) (fun c12 e st=>e=.exit 2∧Sub [] st ⟨[(11,.c (.own 3 0 c6.length)),(14,.c (.ptr 4 0 0))],[.one (.cells 4 [(tT t)]),.dead,.dead,.one (vec 1 intI c6),.one (.cells 4 [[int t.facts,row 1 intI t.init,.own 5 0 c12.length,row 4 f8 t.operators]]),.one (vec 1 intI c12)]⟩) ?_ ?_ ?_ ?_
     ·try dsimp only
      exact Sub.cut ⟨Z,Z,Z,Z,Z,Y⟩ Z ⟨.one Z,.dead,.dead,.vec,.one Z,.vec,Y⟩ Z
     ·intro p13 c12 hlop13 hltp13 _
      try dsimp only
      refine AWP.q (.q (.u (.j Z Z (W.fieldAddr Z Z Z Z (.E Z Z Z Z Z Z (.F Z Z Z (.nil (b6 (.ae Z hltp13 (.exit (e8 (e8 ⟨Z, ?_⟩))))))))))))
      exact Sub.env ⟨Z,Z,Y⟩
     ·intro p13 c12 o hlop13 hltp13 h
      unfold C5 at h
      try dsimp only at h ⊢
      refine AWP.q (.q (.u (.j Z Z (W.fieldAddr Z Z Z Z (.E Z Z Z Z Z Z (.F Z Z Z (.nil (b6 (.af Z hltp13 (.skip (b6 ?_)))))))))))
      obtain ⟨c14,hx15,h⟩:=bind_some h
      refine AWP.seqJ (⟨[(1,.c (row 1 d5 goals)),(3,.c (.ptr 0 0 0)),(11,.c (.own 3 0 c6.length)),(14,.c (.ptr 4 0 0)),(15,.c (int p13))],[.one (.cells 4 [(tT t)]),.dead,.dead,.one (vec 1 intI c6),.one (.cells 4 [[int t.facts,row 1 intI t.init,.own 7 0 c14.length,row 4 f8 t.operators]]),.dead,.dead,.one (vec 1 intI c14)]⟩) ?_ ?_
      ·refine AWP.J (.q (.u (.v Z Z (.nil (b6 (.q (.q (.u (.v Z Z (.nil (b6 (.J ?_))))))))))))
       obtain ⟨wanted16,ho3,hx15⟩:=bind_some hx15
       refine AWP.forS ho3 (fun q17 wanted16=>⟨[(1,.c (row 1 d5 goals)),(3,.c (.ptr 0 0 0)),(11,.c (.own 3 0 c6.length)),(14,.c (.ptr 4 0 0)),(15,.c (int p13)),(16,.c (bool wanted16)),(17,.c (int q17))],[.one (.cells 4 [(tT t)]),.dead,.dead,.one (vec 1 intI c6),.one (.cells 4 [[int t.facts,row 1 intI t.init,.own 5 0 c12.length,row 4 f8 t.operators]]),.one (vec 1 intI c12)]⟩) (fun wanted16 e st=>e=.exit 4∧Sub [] st ⟨[(1,.c (row 1 d5 goals)),(3,.c (.ptr 0 0 0)),(11,.c (.own 3 0 c6.length)),(14,.c (.ptr 4 0 0)),(15,.c (int p13)),(16,.c (bool wanted16))],[.one (.cells 4 [(tT t)]),.dead,.dead,.one (vec 1 intI c6),.one (.cells 4 [[int t.facts,row 1 intI t.init,.own 5 0 c12.length,row 4 f8 t.operators]]),.one (vec 1 intI c12)]⟩) ?_ ?_ ?_ ?_
       ·try dsimp only
        exact Sub.env ⟨Z,Z,Z,Z,Z,Z,Z,Y⟩
       ·intro q17 wanted16 hloq17 hltq17 _
        try dsimp only
        refine AWP.q (.q (.u (.j Z Z (.j Z Z (S.len Z Z (fun hl96=>.F Z Z Z (.nil (b6 (.ae Z hltq17 (.exit (e8 (e8 ⟨Z, ?_⟩))))))))))))
        exact Sub.env ⟨Z,Z,Z,Z,Z,Z,Y⟩
       ·intro q17 wanted16 o hloq17 hltq17 h
        unfold x4 at h
        try dsimp only at h ⊢
        refine AWP.q (.q (.u (.j Z Z (.j Z Z (S.len Z Z (fun hl96=>.F Z Z Z (.nil (b6 (.af Z hltq17 (.skip (b6 ?_)))))))))))
        obtain ⟨wanted18,hx19,h⟩:=bind_some h
        refine AWP.seqJ (⟨[(1,.c (row 1 d5 goals)),(3,.c (.ptr 0 0 0)),(11,.c (.own 3 0 c6.length)),(14,.c (.ptr 4 0 0)),(15,.c (int p13)),(16,.c (bool wanted18)),(17,.c (int q17))],[.one (.cells 4 [(tT t)]),.dead,.dead,.one (vec 1 intI c6),.one (.cells 4 [[int t.facts,row 1 intI t.init,.own 5 0 c12.length,row 4 f8 t.operators]]),.one (vec 1 intI c12)]⟩) ?_ ?_
        ·refine AWP.J ?_
         rcases bft (wanted16) with hb20 | hb20
         ·replace hx19:=T0 hb20 hx19
          refine AWP.u (.j Z Z (.j Z Z (.B Z Z Z hb20 (.B Z Z Z hb20 (.B Z Z Z hb20 (.B Z Z Z hb20 (.B Z Z Z hb20 (.B Z Z Z hb20 (.U Z hb20 Z Z (.v Z Z (.nil (e9 ?_))))))))))))
          obtain rfl:=oi hx19
          refine b6 (Sub.env ⟨Z,Z,Z,Z,Z,Z,Z,Y⟩)
         ·replace hx19:=S6 hb20 hx19
          obtain ⟨a104,ha104,a107,ha107,hx19⟩:=b2 hx19
          refine AWP.u (.j Z Z (.j Z Z (.z Z Z Z hb20 (.j Z Z (.z Z Z Z hb20 (.j Z Z (.z Z Z Z hb20 (S.idx ha104 Z Z Z Z (.z Z Z Z hb20 (.ad Z Z Z Z (.z Z Z Z hb20 (.j Z Z (.z Z Z Z hb20 (.O Z Z Z Z (ref1_Has_ok ha107) Z (.aa Z hb20 Z Z (.v Z Z (.nil (e9 ?_))))))))))))))))))
          obtain rfl:=oi hx19
          refine b6 (Sub.env ⟨Z,Z,Z,Z,Z,Z,Z,Y⟩)
        ·refine AWP.u (.j Z Z (.add Z Z Z (by omega) (.v Z Z (.nil ?_))))
         obtain rfl:=oi h
         refine b6 (Sub.env ⟨Z,Z,Z,Z,Z,Z,Z,Y⟩)
       ·intro e s hq
        obtain ⟨rfl,hs⟩:=hq
        refine ⟨_,hs, ?_⟩
        refine j5 (b6 (.q (.u (.j Z Z (.nil (b6 (.ab Z hx15 (fun hc21 hx15=> ?_) (fun hc21 hx15=> ?_))))))))
        ·obtain ⟨a114,ha114,hx15⟩:=bind_some hx15
         refine AWP.u (W.fieldAddr Z Z Z Z (.E Z Z Z Z Z Z (.j Z Z (S.lit (f:=intI) (l:=[p13]) (ess:=[[int p13]]) Z Z Z Z Z Z Z ⟨⟨.inl Z,Y⟩,Y⟩ Z Z Z (S.append (f:=intI) ha114 Z Z Z Z Z Z (.own Z Z) Z Z Z Z (W.fieldAddr Z Z Z Z (W.store Z Z Z Z Z (.nil (e9 ?_)))))))))
         obtain rfl:=oi hx15
         refine b6 (Sub.cut ⟨Z,Z,Z,Z,Z,Y⟩ Z ⟨.one Z,.dead,.dead,.vec,.one Z,.dead,.dead,.vec,Y⟩ Z)
        ·refine AWP.skip (e9 ?_)
         obtain rfl:=oi hx15
         refine b6 ((Sub.move (env':=[(1,.c (row 1 d5 goals)),(3,.c (.ptr 0 0 0)),(11,.c (.own 3 0 c6.length)),(14,.c (.ptr 4 0 0)),(15,.c (int p13))]) (σ':=[.one (.cells 4 [(tT t)]),.dead,.dead,.one (vec 1 intI c6),.one (.cells 4 [[int t.facts,row 1 intI t.init,.own 7 0 c12.length,row 4 f8 t.operators]]),.dead,.dead,.one (vec 1 intI c12)]) 7 5 Z Z Z ⟨Z,Z,Z,Z,Z,Y⟩ Z ⟨⟨Z,Z⟩,trivial,trivial,⟨Blk.im_ok _ _ _,g9 Z⟩,⟨Z,Z⟩,trivial,trivial,⟨Blk.im_ok _ _ _,g9 Z⟩,Y⟩).trans (Sub.env ⟨Z,Z,Z,Z,Z,Y⟩))
      ·refine AWP.u (.j Z Z (.add Z Z Z (by omega) (.v Z Z (.nil ?_))))
       obtain rfl:=oi h
       refine b6 ((Sub.move (env':=[(1,.c (row 1 d5 goals)),(3,.c (.ptr 0 0 0)),(11,.c (.own 3 0 c6.length)),(14,.c (.ptr 4 0 0)),(15,.c (int (p13+1)))]) (σ':=[.one (.cells 4 [(tT t)]),.dead,.dead,.one (vec 1 intI c6),.one (.cells 4 [[int t.facts,row 1 intI t.init,.own 5 0 c14.length,row 4 f8 t.operators]]),.one (vec 1 intI c14),.dead]) 5 7 Z Z Z ⟨Z,Z,Z,Z,Z,Y⟩ Z ⟨⟨Z,Z⟩,trivial,trivial,⟨Blk.im_ok _ _ _,g9 Z⟩,⟨Z,Z⟩,⟨Blk.im_ok _ _ _,g9 Z⟩,trivial,Y⟩).trans (Sub.cut ⟨Z,Z,Z,Z,Z,Y⟩ Z ⟨.one Z,.dead,.dead,.vec,.one Z,.vec,Y⟩ Z))
     ·intro e s hq
      obtain ⟨rfl,hs⟩:=hq
      refine ⟨_,hs, ?_⟩
      refine j5 (b6 (.q ?_))
      obtain ⟨a119,ha119,h⟩:=bind_some h
      refine AWP.u (W.loadAgg Z Z Z Z Z Z Z (.j Z Z (.callL Z Z (.cons (.agg (.cons .imm (.cons .imm (.cons (.own Z Z) (.cons .imm .nil))))) (.cons (.c (.own Z Z)) .nil)) Z (au7 ha119) Z (.j Z Z (.ac Z Z Z (.ac Z Z Z (W.alloc Z Z Z Z (.v Z Z (W.storeAgg Z Z Z Z Z Z Z (.nil (b6 ?_)))))))))))
      obtain ⟨t22,hx23,h⟩:=bind_some h
      refine AWP.seqJ (⟨[(6,.c (bool t22))],[]⟩) ?_ ?_
      ·rcases bft (decide (a119.2.code=0)) with hb24 | hb24
       ·replace hx23:=P3 hb24 hx23
        rcases bft (a119.1) with hb25 | hb25
        ·replace hx23:=T0 hb25 hx23
         obtain ⟨a129,ha129,hx23⟩:=bind_some hx23
         refine AWP.u (W.fieldAddr Z Z Z Z (.E Z Z Z Z Z Z (.eql Z Z Z (.j Z Z (.z Z Z Z hb24 (.j Z Z (.U Z hb24 Z Z (.j Z Z (.z Z Z Z hb25 (.O Z Z Z Z (ak7 ha129) Z (.U Z hb25 Z Z (.v Z Z (.nil ?_)))))))))))))
         obtain rfl:=oi hx23
         refine b6 (Sub.cut ⟨Z,Y⟩ Z trivial Z)
        ·replace hx23:=S6 hb25 hx23
         refine AWP.u (W.fieldAddr Z Z Z Z (.E Z Z Z Z Z Z (.eql Z Z Z (.j Z Z (.z Z Z Z hb24 (.j Z Z (.U Z hb24 Z Z (.j Z Z (.B Z Z Z hb25 (.aa Z hb25 Z Z (.v Z Z (.nil ?_))))))))))))
         obtain rfl:=oi hx23
         refine b6 (Sub.cut ⟨Z,Y⟩ Z trivial Z)
       ·replace hx23:=P2 hb24 hx23
        refine AWP.u (W.fieldAddr Z Z Z Z (.E Z Z Z Z Z Z (.eql Z Z Z (.j Z Z (.B Z Z Z hb24 (.aa Z hb24 Z Z (.j Z Z (.B Z Z Z Z (.aa Z Z Z Z (.v Z Z (.nil ?_)))))))))))
        obtain rfl:=oi hx23
        refine b6 (Sub.cut ⟨Z,Y⟩ Z trivial Z)
      ·refine AWP.ret ?_
       obtain rfl:=oi h
       exact Done.ret Z Z
    ·try dsimp only at h hq
     obtain ⟨rfl,hs⟩:=hq
     refine ⟨_,Sub.refl _ _, ?_⟩
     refine i9 (e7 ?_)
     obtain rfl:=oi h
     exact hs
end Ab
end
section
namespace Ab
open Go
theorem L6{α:Type}{l:List α}{k:Nat}:ix l (k:Int)=l[k]? :=by simp [ix]
theorem m9{α:Type}{l:List α}{i:Int}(h0:0≤i)(h1:i<l.length):∃ a,ix l i=some a∧l[i.toNat]? =some a:=by
 have h:i.toNat<l.length:=by omega
 exact ⟨l[i.toNat],by simp [ix,h0,h],by simp [h]⟩
theorem o6{α:Type}{l:List α}{i:Int}{a:α}(h:ix l i=some a):0≤i∧i<l.length∧l[i.toNat]? =some a:=by
 unfold ix at h
 split at h
 ·have:=(List.getElem?_eq_some_iff.1 h).1
  exact ⟨by assumption,by omega,h⟩
 ·cases h
theorem x5{n:Int}(h1: -9223372036854775808≤n)(h2:n≤9223372036854775807):w64 n=n:=w64_eq ⟨h1,h2⟩
theorem forN_inv{S:Type}{body:Int→S→Option S}(P:Int→S→Prop):∀ (k:Nat) (i:Int) (s:S),P i s→
  (∀ j s,i≤j→j<i+k→P j s→∃ s',body j s=some s'∧P (j+1) s')→∃ s',forN body k i s=some s'∧P (i+k) s'
 | 0,i,s,h,_=>⟨s,rfl,by simpa using h⟩
 | k+1,i,s,h,hb=>by
  obtain ⟨s1,h1,h2⟩:=hb i s (Int.le_refl _) (by omega) h
  obtain ⟨s2,h3,h4⟩:=forN_inv P k (i+1) s1 h2 (fun j s g1 g2=>hb j s (by omega) (by omega))
  exact ⟨s2,by simp only [forN,h1]; exact h3,by rw [show i+((k+1:Nat):Int)=i+1+k by omega]; exact h4⟩
theorem G2{S:Type}{body:Int→S→Option S}{n:Int}(P:Int→S→Prop){s:S}(hn:0≤n)(h0:P 0 s)
  (hb:∀ j s,0≤j→j<n→P j s→∃ s',body j s=some s'∧P (j+1) s'):∃ s',forR 0 n body s=some s'∧P n s':=by
 obtain ⟨s',h1,h2⟩:=forN_inv P (n - 0).toNat 0 s h0 (fun j s g1 g2=>hb j s g1 (by omega))
 exact ⟨s',h1,by rwa [show (0:Int)+((n - 0).toNat:Int)=n by omega] at h2⟩
theorem rngN_inv{S O:Type}{body:Int→S→Option (S ⊕ O)}(P:Int→S→Prop)(Q:O→Prop):∀ (k:Nat) (i:Int) (s:S),P i s→
  (∀ j s,i≤j→j<i+k→P j s→(∃ s',body j s=some (.inl s')∧P (j+1) s')∨∃ o,body j s=some (.inr o)∧Q o)→
  (∃ s',rngN body k i s=some (.inl s')∧P (i+k) s')∨∃ o,rngN body k i s=some (.inr o)∧Q o
 | 0,i,s,h,_=>.inl ⟨s,rfl,by simpa using h⟩
 | k+1,i,s,h,hb=>by
  rcases hb i s (Int.le_refl _) (by omega) h with ⟨s1,h1,h2⟩ | ⟨o,h1,h2⟩
  ·rcases rngN_inv P Q k (i+1) s1 h2 (fun j s g1 g2=>hb j s (by omega) (by omega)) with ⟨s2,h3,h4⟩ | ⟨o,h3,h4⟩
   ·exact .inl ⟨s2,by simp only [rngN,h1]; exact h3,by rw [show i+((k+1:Nat):Int)=i+1+k by omega]; exact h4⟩
   ·exact .inr ⟨o,by simp only [rngN,h1]; exact h3,h4⟩
  ·exact .inr ⟨o,by simp only [rngN,h1],h2⟩
theorem U2{S O:Type}{body:Int→S→Option (S ⊕ O)}{n:Int}(P:Int→S→Prop)(Q:O→Prop){s:S}(hn:0≤n)(h0:P 0 s)
  (hb:∀ j s,0≤j→j<n→P j s→(∃ s',body j s=some (.inl s')∧P (j+1) s')∨∃ o,body j s=some (.inr o)∧Q o):
  (∃ s',rngX 0 n body s=some (.inl s')∧P n s')∨∃ o,rngX 0 n body s=some (.inr o)∧Q o:=by
 rcases rngN_inv P Q (n - 0).toNat 0 s h0 (fun j s g1 g2=>hb j s g1 (by omega)) with ⟨s',h1,h2⟩ | h
 ·exact .inl ⟨s',h1,by rwa [show (0:Int)+((n - 0).toNat:Int)=n by omega] at h2⟩
 ·exact .inr h
theorem LoopN_inv{S O:Type}{body:S→Option (S ⊕ O)}(P:S→Prop)(Q:O→Prop)(μ:S→Nat)(hb:∀ s,P s→(∃ s',body s=some (.inl s')∧P s'∧μ s'<μ s)∨∃ o,body s=some (.inr o)∧Q o):
  ∀ (k:Nat) (s:S),μ s<k→P s→∃ o,LoopN body k s=some o∧Q o
 | 0,s,h,_=>by omega
 | k+1,s,h,hs=>by
  rcases hb s hs with ⟨s',h1,h2,h3⟩ | ⟨o,h1,h2⟩
  ·obtain ⟨o,g1,g2⟩:=LoopN_inv P Q μ hb k s' (by omega) h2
   exact ⟨o,by simp only [LoopN,h1]; exact g1,g2⟩
  ·exact ⟨o,by simp only [LoopN,h1],h2⟩
theorem U6{S O:Type}{body:S→Option (S ⊕ O)}(P:S→Prop)(Q:O→Prop)(μ:S→Nat){s:S}(hs:P s)
  (hb:∀ s,P s→(∃ s',body s=some (.inl s')∧P s'∧μ s'<μ s)∨∃ o,body s=some (.inr o)∧Q o):∃ o,Loop body s=some o∧Q o:=by
 obtain ⟨o,h1,h2⟩:=LoopN_inv P Q μ hb (μ s+1) s (by omega) hs
 exact ⟨o,aa1.2 ⟨_,h1⟩,h2⟩
/-! ### Two loops that do the same -/
theorem rngN_eq{S O:Type}{b1 b2:Int→S→Option (S ⊕ O)}(P:Int→S→Prop):∀ (k:Nat) (i:Int) (s:S),P i s→
  (∀ j s,i≤j→j<i+k→P j s→b1 j s=b2 j s∧b1 j s ≠ none∧∀ s',b1 j s=some (.inl s')→P (j+1) s')→
  rngN b1 k i s=rngN b2 k i s∧rngN b1 k i s ≠ none∧∀ s',rngN b1 k i s=some (.inl s')→P (i+k) s'
 | 0,i,s,h,_=>⟨rfl,by simp [rngN],fun s' hs=>by simp only [rngN,Option.some.injEq,Sum.inl.injEq] at hs; subst hs; simpa using h⟩
 | k+1,i,s,h,hb=>by
  obtain ⟨h1,h2,h3⟩:=hb i s (Int.le_refl _) (by omega) h
  simp only [rngN]
  rw [← h1]
  cases hc:b1 i s with
  | none=>exact absurd hc h2
  | some x=>
   cases x with
   | inr o=>exact ⟨rfl,by simp,fun s' hs=>by simp at hs⟩
   | inl s1=>
    dsimp only
    have:=rngN_eq (b1:=b1) (b2:=b2) P k (i+1) s1 (h3 s1 hc) (fun j s g1 g2=>hb j s (by omega) (by omega))
    rwa [show i+1+(k:Int)=i+((k+1:Nat):Int) by omega] at this
theorem rngX_eq{S O:Type}{b1 b2:Int→S→Option (S ⊕ O)}{n:Int}(P:Int→S→Prop){s:S}(hn:0≤n)(h0:P 0 s)
  (hb:∀ j s,0≤j→j<n→P j s→b1 j s=b2 j s∧b1 j s ≠ none∧∀ s',b1 j s=some (.inl s')→P (j+1) s'):
  rngX 0 n b1 s=rngX 0 n b2 s∧rngX 0 n b1 s ≠ none∧∀ s',rngX 0 n b1 s=some (.inl s')→P n s':=by
 have:=rngN_eq P (n - 0).toNat 0 s h0 (fun j s g1 g2=>hb j s g1 (by omega))
 rwa [show (0:Int)+((n - 0).toNat:Int)=n by omega] at this
end Ab
end
section
namespace Ab
open Go
noncomputable def dec(p:Prop):Bool:=@decide p (Classical.propDecidable p)
@[simp] theorem k7 {p:Prop}:dec p=true↔p:=by simp [dec]
@[simp] theorem dec_false {p:Prop}:dec p=false↔¬ p:=by simp [dec]
@[simp] theorem B6 {p:Prop}:(!dec p)=dec (¬ p):=by by_cases h:p<;>simp [dec,h]
theorem decide_dec{p:Prop}[Decidable p]:decide p=dec p:=by by_cases h:p<;>simp [dec,h]
theorem l8{p:Prop}(h:p):dec p=true:=k7.2 h
theorem y6{p:Prop}(h:¬ p):dec p=false:=dec_false.2 h
theorem F1{p q:Prop}(h:p↔q):dec p=dec q:=by rw [propext h]
theorem dec_and{p q:Prop}:(dec p && dec q)=dec (p∧q):=by by_cases h:p<;>by_cases g:q<;>simp [dec,h,g]
theorem dec_or{p q:Prop}:(dec p || dec q)=dec (p∨q):=by by_cases h:p<;>by_cases g:q<;>simp [dec,h,g]
theorem ifP{α:Type}{p:Prop}{a b:α}(h:p):(if dec p=true then a else b)=a:=if_pos (l8 h)
theorem ifN{α:Type}{p:Prop}{a b:α}(h:¬ p):(if dec p=true then a else b)=b:=if_neg fun g=>h (k7.1 g)
theorem ifNN{α:Type}{p:Prop}{a b:α}(h:p):(if dec (¬ p)=true then a else b)=b:=ifN (not_not_intro h)
theorem ix_ltN{α:Type}{l:List α}{k:Nat}(h:k<l.length):ix l (k:Int)=some l[k]:=by rw [L6]; simp [h]
theorem o5{α:Type}{l:List α}{i:Int}{a:α}(h:ix l i=some a):a ∈ l:=List.mem_of_getElem? (o6 h).2.2
theorem w8{α:Type}{l:List α}{a:α}(h:a ∈ l):∃ i:Int,0≤i∧i<l.length∧ix l i=some a:=by
 obtain ⟨k,hk⟩:=List.getElem?_of_mem h
 exact ⟨k,by omega,by have:=(List.getElem?_eq_some_iff.1 hk).1; omega,by rw [L6,hk]⟩
theorem ad7{α:Type}{l:List α}{i j:Int}{x:α}(h0:0≤i)(h1:i<l.length)(hj:0≤j):ix (l.set i.toNat x) j=if j=i then some x else ix l j:=by
 simp only [ix,hj,if_true,List.getElem?_set]
 by_cases h:j=i
 ·subst h; rw [if_pos rfl,if_pos rfl,if_pos (by omega)]
 ·rw [if_neg h,if_neg (by omega)]
theorem V0{O:Type}{body:Int→Unit→Option (Unit ⊕ O)}{n:Int}(g:Int→Option O)(hn:0≤n)
  (hb:∀ j,0≤j→j<n→(∀ i,0≤i→i<j→g i=none)→body j ()=some (match g j with | none=>.inl () | some o=>.inr o)):
  (rngX 0 n body ()=some (.inl ())∧∀ j,0≤j→j<n→g j=none)∨∃ j o,0≤j∧j<n∧g j=some o∧(∀ i,0≤i→i<j→g i=none)∧rngX 0 n body ()=some (.inr o):=by
 rcases U2 (body:=body) (n:=n) (fun j _=>∀ i,0≤i→i<j→g i=none) (fun o=>∃ j,0≤j∧j<n∧g j=some o∧∀ i,0≤i→i<j→g i=none) (s:=()) hn (fun i h1 h2=>by omega) (fun j s h0 h1 hP=>by
  have:=hb j h0 h1 hP
  cases hg:g j with
  | none=>rw [hg] at this; exact .inl ⟨(),this,fun i h2 h3=>by
    rcases Int.lt_or_eq_of_le (Int.le_of_lt_add_one h3) with h | h
    ·exact hP i h2 h
    ·rw [h,hg]⟩
  | some o=>rw [hg] at this; exact .inr ⟨o,this,j,h0,h1,hg,hP⟩) with ⟨s',h1,h2⟩ | ⟨o,h1,j,h2,h3,h4,h5⟩
 ·exact .inl ⟨h1,h2⟩
 ·exact .inr ⟨j,o,h2,h3,h4,h5,h1⟩
theorem af1{α O:Type}{l:List α}{body:Int→Unit→Option (Unit ⊕ O)}(q:α→Prop)(b:O)
  (hb:∀ j a,ix l j=some a→(q a∧body j ()=some (.inl ()))∨(¬ q a∧body j ()=some (.inr b))):
  rngX 0 (l.length:Int) body ()=some (if dec (∀ a ∈ l,q a)=true then .inl () else .inr b):=by
 rcases V0 (body:=body) (n:=(l.length:Int)) (fun j=>match ix l j with | some a=>if dec (q a)=true then none else some b | none=>none) (by omega) (fun j h0 h1 _=>by
  obtain ⟨a,h2,_⟩:=m9 h0 h1
  rw [h2]
  rcases hb j a h2 with ⟨h3,h4⟩ | ⟨h3,h4⟩
  ·rw [h4]; simp [h3]
  ·rw [h4]; simp [h3]) with ⟨h1,h2⟩ | ⟨j,o,h0,h1,h2,_,h4⟩
 ·rw [h1,if_pos]
  rw [k7]
  intro a ha
  obtain ⟨i,g1,g2,g3⟩:=w8 ha
  have:=h2 i g1 g2
  rw [g3] at this
  simpa using this
 ·rw [h4]
  obtain ⟨a,g1,_⟩:=m9 h0 h1
  rw [g1] at h2
  simp only [k7] at h2
  split at h2
  ·cases h2
  ·rename_i hq
   cases h2
   rw [if_neg]
   rw [k7]
   exact fun h=>hq (l8 (h a (o5 g1)))
abbrev Inc(l:List Int):Prop:=l.Pairwise (· < ·)
theorem inc_of_adj:∀ {l:List Int},(∀ (k:Nat) a b,l[k]? =some a→l[k+1]? =some b→a<b)→Inc l
 | [],_=>.nil
 | [_],_=>by simp
 | a::b::l,h=>by
  have ih:Inc (b::l):=inc_of_adj fun k x y h1 h2=>h (k+1) x y (by simpa using h1) (by simpa using h2)
  have hab:a<b:=h 0 a b rfl rfl
  refine List.pairwise_cons.2 ⟨fun c hc=> ?_,ih⟩
  rcases List.mem_cons.1 hc with rfl | hc
  ·exact hab
  ·exact Int.lt_trans hab ((List.pairwise_cons.1 ih).1 c hc)
theorem Inc.get{l:List Int}(h:Inc l){i j:Nat}{a b:Int}(hi:l[i]? =some a)(hj:l[j]? =some b)(hij:i<j):a<b:=by
 obtain ⟨h1,rfl⟩:=List.getElem?_eq_some_iff.1 hi
 obtain ⟨h2,rfl⟩:=List.getElem?_eq_some_iff.1 hj
 exact List.pairwise_iff_getElem.1 h i j h1 h2 hij
theorem Inc.ext:∀ {l m:List Int},Inc l→Inc m→(∀ x,x ∈ l↔x ∈ m)→l=m
 | [],[],_,_,_=>rfl
 | [],b::m,_,_,h=>absurd ((h b).2 (by simp)) (by simp)
 | a::l,[],_,_,h=>absurd ((h a).1 (by simp)) (by simp)
 | a::l,b::m,hl,hm,h=>by
  obtain ⟨l1,l2⟩:=List.pairwise_cons.1 hl
  obtain ⟨m1,m2⟩:=List.pairwise_cons.1 hm
  have hab:a=b:=by
   rcases List.mem_cons.1 ((h a).1 (by simp)) with e | e
   ·exact e
   ·rcases List.mem_cons.1 ((h b).2 (by simp)) with e' | e'
    ·exact e'.symm
    ·have:=l1 b e'; have:=m1 a e; omega
  subst hab
  rw [Inc.ext l2 m2 fun x=>⟨fun hx=> ?_,fun hx=> ?_⟩]
  ·rcases List.mem_cons.1 ((h x).1 (by simp [hx])) with e | e
   ·have:=l1 x hx; omega
   ·exact e
  ·rcases List.mem_cons.1 ((h x).2 (by simp [hx])) with e | e
   ·have:=m1 x hx; omega
   ·exact e
theorem Inc.filter{l:List Int}(h:Inc l)(p:Int→Bool):Inc (l.filter p):=List.Pairwise.filter p h
def nums(lo:Int):Nat→List Int
 | 0=>[]
 | k+1=>lo::nums (lo+1) k
theorem U5{x:Int}:∀ {k:Nat} {lo:Int},x ∈ nums lo k↔lo≤x∧x<lo+k
 | 0,lo=>by simp [nums]
 | k+1,lo=>by
  rw [nums,List.mem_cons,U5 (k:=k)]
  omega
theorem ap6:∀ (k:Nat) (lo:Int),Inc (nums lo k)
 | 0,_=>.nil
 | k+1,lo=>List.pairwise_cons.2 ⟨fun x hx=>by have:=U5.1 hx; omega,ap6 k (lo+1)⟩
theorem len_nums:∀ (k:Nat) (lo:Int),(nums lo k).length=k
 | 0,_=>rfl
 | k+1,lo=>by simp [nums,len_nums k]
noncomputable def F4(p:Int→Prop)(n:Int):List Int:=(nums 0 n.toNat).filter fun x=>dec (p x)
theorem N2{p:Int→Prop}{n x:Int}:x ∈ F4 p n↔0≤x∧x<n∧p x:=by
 rw [F4,List.mem_filter,U5,k7]
 constructor
 ·rintro ⟨⟨h1,h2⟩,h3⟩; exact ⟨h1,by omega,h3⟩
 ·rintro ⟨h1,h2,h3⟩; exact ⟨⟨h1,by omega⟩,h3⟩
theorem am9(p:Int→Prop)(n:Int):Inc (F4 p n):=(ap6 _ _).filter _
theorem af9{p q:Int→Prop}{n:Int}(h:∀ x,0≤x→x<n→(p x↔q x)):F4 p n=F4 q n:=by
 refine List.filter_congr fun x hx=>F1 ?_
 have:=U5.1 hx
 exact h x (by omega) (by omega)
def SetN(l:List Int)(n:Int):Prop:=Inc l∧∀ x ∈ l,0≤x∧x<n
theorem V4(p:Int→Prop)(n:Int):SetN (F4 p n) n:=⟨am9 p n,fun x hx=>by have:=N2.1 hx; exact ⟨this.1,this.2.1⟩⟩
theorem SetN.eq{l:List Int}{n:Int}(h:SetN l n):l=F4 (· ∈ l) n:=
 h.1.ext (am9 _ _) fun x=>⟨fun hx=>N2.2 ⟨(h.2 x hx).1,(h.2 x hx).2,hx⟩,fun hx=>(N2.1 hx).2.2⟩
theorem SetN.eq_of{l:List Int}{n:Int}(h:SetN l n){p:Int→Prop}(hp:∀ x,0≤x→x<n→(x ∈ l↔p x)):l=F4 p n:=
 h.eq.trans (af9 hp)
theorem SetN.len{l:List Int}{n:Int}(h:SetN l n):l.length≤n.toNat:=by
 rw [h.eq,F4]
 exact Nat.le_trans (List.length_filter_le _ _) (Nat.le_of_eq (len_nums _ _))
theorem O8(n:Int):SetN [] n:=⟨.nil,by simp⟩
theorem forR_filter{α:Type}{l:List α}{b:Nat}{body:Int→List α→Option (List α)}(q:α→Prop)
  (hb:∀ j a c,ix l j=some a→(q a→body j c=app b c [a])∧(¬ q a→body j c=some c)) (c0:List α) (hl:(c0.length+l.length) * b≤140737488355328):
  forR 0 (l.length:Int) body c0=some (c0++l.filter fun a=>dec (q a)):=by
 obtain ⟨s',h1,h2⟩:=G2 (body:=body) (n:=(l.length:Int)) (s:=c0) (fun j c=>c=c0++(l.take j.toNat).filter fun a=>dec (q a)) (by omega) (by simp) (fun j c h0 h1 hP=>by
  obtain ⟨a,g1,g2⟩:=m9 h0 h1
  have e:(j+1).toNat=j.toNat+1:=by omega
  have ht:l.take (j+1).toNat=l.take j.toNat++[a]:=by rw [e,List.take_add_one,g2]; rfl
  by_cases hq:q a
  ·have happ:app b c [a]=some (c++[a]):=by
    rw [app,if_pos]
    have h3:((l.take j.toNat).filter fun a=>dec (q a)).length≤(l.take j.toNat).length:=List.length_filter_le _ _
    rw [List.length_take] at h3
    have h5:c.length+1≤c0.length+l.length:=by rw [hP,List.length_append]; omega
    refine Nat.le_trans (Nat.mul_le_mul_right b ?_) hl
    simpa using h5
   refine ⟨c++[a],by rw [(hb j a c g1).1 hq,happ], ?_⟩
   rw [ht,List.filter_append,hP]
   simp [hq]
  ·refine ⟨c,(hb j a c g1).2 hq, ?_⟩
   rw [ht,List.filter_append,hP]
   simp [hq])
 rw [h1,h2]
 simp
theorem forR_setOf{b:Nat}{n:Int}{body:Int→List Int→Option (List Int)}(q:Int→Prop)(hn:0≤n)(hl:n.toNat * b≤140737488355328)
  (hb:∀ j c,0≤j→j<n→(q j→body j c=app b c [j])∧(¬ q j→body j c=some c)):forR 0 n body []=some (F4 q n):=by
 obtain ⟨s',h1,h2⟩:=G2 (body:=body) (n:=n) (s:=[]) (fun j c=>c=F4 q j) hn (by simp [F4,nums]) (fun j c h0 h1 hP=>by
  have hs:F4 q (j+1)=F4 q j++if dec (q j)=true then [j] else []:=by
   refine (am9 q (j+1)).ext ?_ fun x=> ?_
   ·refine List.pairwise_append.2 ⟨am9 _ _,by split<;>simp,fun a ha b hb=> ?_⟩
    have:=N2.1 ha
    split at hb
    ·simp at hb; omega
    ·cases hb
   ·rw [List.mem_append,N2,N2]
    by_cases hq:q j
    ·rw [if_pos (l8 hq)]
     simp only [List.mem_singleton]
     refine ⟨fun h=> ?_,fun h=> ?_⟩
     ·by_cases e:x=j
      ·exact .inr e
      ·exact .inl ⟨h.1,by omega,h.2.2⟩
     ·rcases h with h | rfl
      ·exact ⟨h.1,by omega,h.2.2⟩
      ·exact ⟨h0,by omega,hq⟩
    ·rw [if_neg (by simpa using hq)]
     simp only [List.not_mem_nil,or_false]
     refine ⟨fun h=>⟨h.1, ?_,h.2.2⟩,fun h=>⟨h.1,by omega,h.2.2⟩⟩
     rcases Int.lt_or_eq_of_le (Int.le_of_lt_add_one h.2.1) with e | e
     ·exact e
     ·rw [e] at h; exact absurd h.2.2 hq
  by_cases hq:q j
  ·refine ⟨c++[j], ?_,by rw [hs,hP,if_pos (l8 hq)]⟩
   rw [(hb j c h0 h1).1 hq,app,if_pos]
   have h3:c.length≤j.toNat:=by rw [hP]; exact (V4 q j).len
   refine Nat.le_trans (Nat.mul_le_mul_right b ?_) hl
   simp; omega
  ·refine ⟨c,(hb j c h0 h1).2 hq, ?_⟩
   rw [hs,hP,if_neg (by simpa using hq),List.append_nil])
 rw [h1,h2]
end Ab
end
section
namespace Ab
open Go
theorem has_eq(l:List Int)(n:Int):af6 l n=some (dec (n ∈ l)):=by
 unfold af6
 rw [af1 (l:=l) (fun a=>a ≠ n) true (fun j a h=>by
  unfold an5
  rw [h]
  by_cases e:a=n<;>simp [e])]
 by_cases h:n ∈ l
 ·rw [if_neg (by simp only [k7]; exact fun g=>g n h rfl)]
  simp [h]
 ·rw [if_pos (by simp only [k7]; exact fun a ha e=>h (e ▸ ha))]
  simp [h]
theorem disjoint_eq(a b:List Int):ah7 a b=some (dec (∀ x ∈ a,x ∉ b)):=by
 unfold ah7
 rw [af1 (l:=a) (fun x=>x ∉ b) false (fun j x h=>by
  unfold ak3
  rw [h]
  by_cases e:x ∈ b<;>simp [e,has_eq])]
 by_cases h:∀ x ∈ a,x ∉ b
 ·rw [if_pos (l8 h),l8 h]; rfl
 ·rw [if_neg (by rw [y6 h]; simp),y6 h]; rfl
theorem in_eq(n lo hi:Int):R8 n lo hi=some (dec (lo≤n∧n≤hi)):=by
 unfold R8; rw [decide_dec,decide_dec,dec_and]
theorem at_eq(c i:Int):I4 c i=some ⟨c,i⟩:=rfl
def stepOk(l:List Int)(n j:Int):Prop:=∀ a,ix l j=some a→(0≤a∧a<n)∧∀ b,0<j→ix l (j - 1)=some b→b<a
theorem aj3{l:List Int}{n:Int}:(∀ j:Int,0≤j→j<l.length→stepOk l n j)↔SetN l n:=by
 constructor
 ·intro h
  refine ⟨inc_of_adj fun k a b h1 h2=> ?_,fun x hx=> ?_⟩
  ·have hk:=(List.getElem?_eq_some_iff.1 h2).1
   have:=(h ((k+1:Nat):Int) (by omega) (by omega) b (by rw [L6]; exact h2)).2 a (by omega)
   rw [show ((k+1:Nat):Int) - 1=(k:Nat) by omega] at this
   exact this (by rw [L6]; exact h1)
  ·obtain ⟨i,h1,h2,h3⟩:=w8 hx
   exact (h i h1 h2 x h3).1
 ·intro h j h0 h1 a ha
  refine ⟨h.2 a (o5 ha),fun b hj hb=> ?_⟩
  obtain ⟨_,_,ga⟩:=o6 ha
  obtain ⟨_,_,gb⟩:=o6 hb
  exact h.1.get gb ga (by omega)
theorem aq4(l:List Int)(n:Int):A8 l n=some (dec (SetN l n)):=by
 unfold A8
 rcases V0 (body:=S8 l n) (n:=(l.length:Int)) (fun j=>if dec (stepOk l n j)=true then none else some false) (by omega) (fun j h0 h1 _=>by
  obtain ⟨a,ha,_⟩:=m9 (l:=l) h0 h1
  unfold S8
  rw [ha]
  simp only [oB]
  by_cases c1:a<0
  ·rw [if_pos c1,if_neg]
   ·rfl
   ·rw [k7]; intro h; have:=(h a ha).1; omega
  ·rw [if_neg c1]
   by_cases c2:n≤a
   ·rw [if_pos c2,if_neg]
    ·rfl
    ·rw [k7]; intro h; have:=(h a ha).1; omega
   ·rw [if_neg c2]
    by_cases c3:0<j
    ·obtain ⟨b,hb,_⟩:=m9 (l:=l) (i:=j - 1) (by omega) (by omega)
     rw [if_pos c3,hb]
     simp only [oB]
     by_cases c4:a≤b
     ·rw [if_pos (by simpa using c4),if_neg]
      rw [k7]; intro h; have:=(h a ha).2 b c3 hb; omega
     ·rw [if_neg (by simpa using c4),if_pos]
      rw [k7]; intro x hx
      rw [ha] at hx; cases hx
      exact ⟨by omega,fun y _ hy=>by rw [hb] at hy; cases hy; omega⟩
    ·rw [if_neg c3]
     simp only [oB]
     rw [if_neg (by simp),if_pos]
     rw [k7]; intro x hx
     rw [ha] at hx; cases hx
     exact ⟨by omega,fun y hy=>absurd hy c3⟩) with ⟨h1,h2⟩ | ⟨j,o,h0,h1,h2,_,h4⟩
 ·rw [h1,l8]
  ·rfl
  ·exact aj3.1 fun j g1 g2=>by have:=h2 j g1 g2; simpa using this
 ·rw [h4]
  split at h2
  ·cases h2
  ·rename_i hs
   cases h2
   rw [y6]
   ·rfl
   ·exact fun h=>hs (l8 (aj3.2 h j h0 h1))
theorem rIsSet_eq(l:List Int){n:Int}(hn: -9223372036854775808<n)(hn':n≤9223372036854775807):N9 l n=some (dec (SetN l n)):=by
 unfold N9
 rcases V0 (body:=ai1 l n) (n:=(l.length:Int)) (fun j=>if dec (stepOk l n j)=true then none else some false) (by omega) (fun j h0 h1 _=>by
  obtain ⟨a,ha,_⟩:=m9 (l:=l) h0 h1
  unfold ai1
  rw [ha]
  simp only [oB,in_eq,x5 (n:=n - 1) (by omega) (by omega),B6]
  by_cases c1:0≤a∧a≤n - 1
  ·rw [if_neg (by simpa using c1)]
   by_cases c3:0<j
   ·obtain ⟨b,hb,_⟩:=m9 (l:=l) (i:=j - 1) (by omega) (by omega)
    rw [if_pos c3,hb]
    simp only [oB]
    by_cases c4:a≤b
    ·rw [if_pos (by simpa using c4),if_neg]
     rw [k7]; intro h; have:=(h a ha).2 b c3 hb; omega
    ·rw [if_neg (by simpa using c4),if_pos]
     rw [k7]; intro x hx
     rw [ha] at hx; cases hx
     exact ⟨by omega,fun y _ hy=>by rw [hb] at hy; cases hy; omega⟩
   ·rw [if_neg c3]
    simp only [oB]
    rw [if_neg (by simp),if_pos]
    rw [k7]; intro x hx
    rw [ha] at hx; cases hx
    exact ⟨by omega,fun y hy=>absurd hy c3⟩
  ·rw [if_pos (by simpa using c1),if_neg]
   ·rfl
   ·rw [k7]; intro h; have:=(h a ha).1; omega) with ⟨h1,h2⟩ | ⟨j,o,h0,h1,h2,_,h4⟩
 ·rw [h1,l8]
  ·rfl
  ·exact aj3.1 fun j g1 g2=>by have:=h2 j g1 g2; simpa using this
 ·rw [h4]
  split at h2
  ·cases h2
  ·rename_i hs
   cases h2
   rw [y6]
   ·rfl
   ·exact fun h=>hs (l8 (aj3.2 h j h0 h1))
theorem containsLoop{s:List Int}(hs:Inc s)(hl:s.length≤1000000)(x:Int){i:Int}(h0:0≤i)(h1:i≤s.length)(hlt:∀ k a,0≤k→k<i→ix s k=some a→a<x):
  ∃ i',Loop (H0 s x) i=some i'∧i≤i'∧i'≤s.length∧(∀ k a,0≤k→k<i'→ix s k=some a→a<x)∧(∀ a,ix s i'=some a→x≤a):=by
 obtain ⟨o,h2,h3⟩:=U6 (body:=H0 s x) (fun j=>i≤j∧j≤s.length∧∀ k a,0≤k→k<j→ix s k=some a→a<x) (fun i'=>i≤i'∧i'≤s.length∧(∀ k a,0≤k→k<i'→ix s k=some a→a<x)∧(∀ a,ix s i'=some a→x≤a)) (fun j=>(s.length - j).toNat) (s:=i) ⟨Int.le_refl _,h1,hlt⟩ (fun j ⟨g1,g2,g3⟩=>by
  unfold H0
  by_cases c:j<s.length
  ·obtain ⟨a,ha,_⟩:=m9 (l:=s) (i:=j) (by omega) c
   rw [if_pos c,ha]
   simp only [oB,decide_eq_true_eq]
   by_cases c2:a<x
   ·rw [if_pos c2]
    rw [x5 (by omega) (by omega)]
    refine .inl ⟨j+1,rfl,⟨by omega,by omega,fun k b k0 k1 hb=> ?_⟩,by omega⟩
    by_cases e:k=j
    ·subst e; rw [ha] at hb; cases hb; exact c2
    ·exact g3 k b k0 (by omega) hb
   ·rw [if_neg c2]
    exact .inr ⟨j,rfl,g1,g2,g3,fun b hb=>by rw [ha] at hb; cases hb; omega⟩
  ·rw [if_neg c]
   exact .inr ⟨j,rfl,g1,g2,g3,fun b hb=>by have:=(o6 hb).2.1; omega⟩)
 exact ⟨o,h2,h3⟩
theorem af8{s part:List Int}(hs:Inc s)(hp:Inc part)(hl:s.length≤1000000):y7 s part=some (dec (∀ x ∈ part,x ∈ s)):=by
 unfold y7
 rcases U2 (body:=M8 s part) (n:=(part.length:Int)) (fun j i=>(0≤i∧i≤s.length∧∀ k a,0≤k→k<i→ix s k=some a→∀ m x,j≤m→ix part m=some x→a<x)∧∀ m x,0≤m→m<j→ix part m=some x→x ∈ s) (fun o=>o=false∧¬ ∀ x ∈ part,x ∈ s) (s:=0) (by omega) ⟨⟨by omega,by omega,fun k a h1 h2=>by omega⟩,fun m x h1 h2=>by omega⟩ (fun j i h0 h1 ⟨⟨g1,g2,g3⟩,g4⟩=>by
  obtain ⟨x,hx,gx⟩:=m9 (l:=part) h0 h1
  unfold M8
  obtain ⟨i',e1,e2,e3,e4,e5⟩:=containsLoop hs hl x g1 g2 (fun k a k0 k1 ha=>g3 k a k0 k1 ha j x (Int.le_refl _) hx)
  rw [hx]
  simp only [oB,e1]
  have nin:(∀ a,ix s i'=some a→x<a)→x ∉ s:=fun hgt hin=>by
   obtain ⟨k,k0,k1,hk⟩:=w8 hin
   rcases Int.lt_trichotomy k i' with c | c | c
   ·have:=e4 k x k0 c hk; omega
   ·subst c; have:=hgt x hk; omega
   ·obtain ⟨b,hb,gb⟩:=m9 (l:=s) (i:=i') (by omega) (by omega)
    obtain ⟨_,_,gk⟩:=o6 hk
    have:=hs.get gb gk (by omega)
    have:=e5 b hb
    omega
  by_cases c:i'=s.length
  ·rw [if_pos c]
   refine .inr ⟨false,rfl,rfl,fun h=> ?_⟩
   exact nin (fun a ha=>by have:=(o6 ha).2.1; omega) (h x (o5 hx))
  ·rw [if_neg c]
   obtain ⟨b,hb,gb⟩:=m9 (l:=s) (i:=i') (by omega) (by omega)
   rw [hb]
   simp only [oB]
   have hxb:=e5 b hb
   by_cases c2:b=x
   ·subst c2
    rw [if_neg (by simp)]
    refine .inl ⟨i',rfl,⟨by omega,e3,fun k a k0 k1 ha m y hm hy=> ?_⟩,fun m y m0 m1 hy=> ?_⟩
    ·obtain ⟨_,_,gy⟩:=o6 hy
     have:=hp.get gx gy (by omega)
     have:=e4 k a k0 k1 ha
     omega
    ·by_cases e:m=j
     ·subst e; rw [hx] at hy; cases hy; exact o5 hb
     ·exact g4 m y m0 (by omega) hy
   ·rw [if_pos (by simpa using c2)]
    refine .inr ⟨false,rfl,rfl,fun h=> ?_⟩
    exact nin (fun a ha=>by rw [hb] at ha; cases ha; omega) (h x (o5 hx))) with ⟨s',h1,_,h2⟩ | ⟨o,h1,rfl,h2⟩
 ·rw [h1,l8]
  ·rfl
  ·intro x hx
   obtain ⟨m,m0,m1,hm⟩:=w8 hx
   exact h2 m x m0 m1 hm
 ·rw [h1,y6 h2]; rfl
end Ab
end
