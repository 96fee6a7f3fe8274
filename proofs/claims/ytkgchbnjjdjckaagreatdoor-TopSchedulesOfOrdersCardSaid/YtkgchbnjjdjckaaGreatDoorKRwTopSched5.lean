/-
  Texts that the proof stands on.
-/
import Derived.Test.YtkgchbnjjdjckaaGreatDoorKRwTopSched4
set_option linter.all false
section
namespace Ab
open Go Go.Proofs
open Tryz
set_option maxHeartbeats 4000000
set_option linter.all false
attribute [local irreducible] AWP AOps thn inB Done e9 q8 Sub
theorem O0{iv:Int}{kv:Int}{l:Li}{l4:List b8}{r:Li×(List b8)}(h:y4 iv kv l l4=some r):FnOk prog 170 [.c (.own 0 0 l.length),(cI iv),(cI kv)] (ae1 iv kv l l4) (fun tt ss=>tt=.tup []∧ss=[.one (prow 1 r.1),pool 4 b7 r.2]):=by
 refine FnOk.enter (rs:=[]) func170 Z ntmps170 results170 Z Y (by kernel_rfl) Z ?_
 refine AWP.weak ?_
 unfold y4 at h
 refine AWP.q ?_
 obtain⟨a12,ha12,a16,ha16,h⟩:=b2 h
 refine AWP.drawEI [13,15] mixed Z Z Z ?_
 refine d5.consN Z Z (fun E=>.j Z Z .N) Z (.consN Z Z (fun E=>.j Z Z .N) Z (.consN Z Z (fun E=>.j Z Z .N) Z (.consN Z Z (fun E=>.j Z Z .N) Z (.consN Z Z (fun E=>.j Z Z .N) Z (.consN Z Z (fun E=>.j Z Z .N) Z (.consN Z Z (fun E=>S.idxPb Z Z Z (by simpa only[lS] using q9 ha12) Z Z .N) Z (.consN Z Z (fun E=>S.loadP ha12 Z Z Z Z .N) Z (.consN Z Z (fun E=>.j Z Z .N) Z (.consN Z Z (fun E=>.j Z Z .N) Z (.consN Z Z (fun E=>S.idxPb Z Z Z (by simpa only[lS] using q9 ha16) Z Z .N) Z (.consN Z Z (fun E=>S.loadP ha16 Z Z Z Z .N) Z (.consN Z Z (fun E=>S.idxPb Z Z Z (by simpa only[lS] using q9 ha16) Z Z .N) Z ?_))))))))))))
 apply d5.consE (v:=.undef);exact Z;exact Z;intro E
 refine S.storeP (a:=a12) (by simpa only[lS] using h9 ha16) Z Z Z Z .N
 exact Z
 exact Z
 refine d5.consN Z Z (fun E=>S.idxPb Z Z (by simp only[lS]) (by simpa only[lS] using q9 ha12) Z Z .N) Z ?_
 apply d5.consE (v:=.undef);exact Z;exact Z;intro E
 refine S.storeP (a:=a16) (by simpa only[lS] using h9 ha12) Z Z Z Z .N
 exact Z
 exact Z
 refine d5.done Z ?_ ?_
 ·refine e8.cons Z Z (.go Z Z (fun E=>.j Z Z .N) (.skip Z (.skip Z .nil))) (.cons Z Z (.go Z Z (fun E=>.j Z Z .N) (.skip Z (.skip Z .nil))) (.cons Z Z (.go Z Z (fun E=>.j Z Z .N) (.go Z Z (fun E=>.j Z Z .N) (.skip Z .nil))) (.cons Z Z (.go Z Z (fun E=>.j Z Z .N) (.go Z Z (fun E=>.j Z Z .N) (.skip Z .nil))) (.cons Z Z (.go Z Z (fun E=>.j Z Z .N) (.skip Z (.skip Z .nil))) (.cons Z Z (.go Z Z (fun E=>.j Z Z .N) (.skip Z (.skip Z .nil))) (.cons Z Z (.go Z Z (fun E=>S.idxPb Z Z Z (by simpa only[lS] using q9 ha12) Z Z .N) (.skip Z (.skip Z .nil))) (.cons Z Z (.go Z Z (fun E=>S.loadP ha12 Z Z Z Z .N) (.skip Z (.skip Z .nil))) (.cons Z Z (.go Z Z (fun E=>.j Z Z .N) (.skip Z (.skip Z .nil))) (.cons Z Z (.go Z Z (fun E=>.j Z Z .N) (.skip Z (.skip Z .nil))) (.cons Z Z (.go Z Z (fun E=>S.idxPb Z Z Z (by simpa only[lS] using q9 ha16) Z Z .N) (.skip Z (.skip Z .nil))) (.cons Z Z (.go Z Z (fun E=>S.loadP ha16 Z Z Z Z .N) (.skip Z (.skip Z .nil))) ?_)))))))))))
  refine e8.cons Z Z (.go Z Z (fun E=>S.idxPb Z Z Z (by simpa only[lS] using q9 ha16) Z Z .N) (.skip Z (.skip Z .nil))) ?_
  refine e8.skip Z ?_
  refine e8.cons Z Z ?_ ?_
  refine f8.skip Z ?_
  refine f8.go Z Z (fun E=>S.idxPb Z Z (by simp only[lS]) (by simpa only[lS] using q9 ha12) Z Z .N) ?_
  refine f8.skip Z (f8.nil)
  refine e8.skip Z (e8.nil)
 dsimp only[j6]
 refine b5 ?_
 obtain⟨ha57,hha57,ha58,hha58,en59,hen59,h⟩:=b3 h
 obtain⟨en60,hen60,h⟩:=bind_some h
 refine AWP.drawEI [12,15] mixed Z Z Z ?_
 refine d5.consN Z Z (fun E=>.j Z Z .N) Z (.consN Z Z (fun E=>.j Z Z .N) Z (.consN Z Z (fun E=>S.idxPb Z Z (by simp only[lS]) (by simpa only[lS] using q9 ha16) Z Z .N) Z (.consN Z Z (fun E=>S.loadP hha57 Z Z Z Z .N) Z (.consN Z Z (fun E=>.j Z Z .N) Z (.consN Z Z (fun E=>.j Z Z .N) Z (.consN Z Z (fun E=>S.idxPb Z Z (by simp only[lS]) (by simpa only[lS] using q9 ha12) Z Z .N) Z (.consN Z Z (fun E=>S.loadP hha58 Z Z Z Z .N) Z (.consN Z Z (fun E=>.j Z Z .N) Z (.consN Z Z (fun E=>.j Z Z .N) Z (.consN Z Z (fun E=>S.nilCheckE Z Z (by simpa only[lS] using h9 hen59) Z .N) Z (.consN Z Z (fun E=>S.fieldE Z Z Z (by simpa only[lS] using h9 hen59) Z .N) Z ?_)))))))))))
 apply d5.consE (v:=.undef);exact Z;exact Z;intro E
 refine S.storeE (e':=(⟨en59.item,en59.key,en59.time,iv⟩:b8)) hen59 Z Z Z Z Z Z .N
 exact Z
 exact Z
 refine d5.consN Z Z (fun E=>S.nilCheckE Z Z (by simpa only[lS] using h9 hen60) Z .N) Z (.consN Z Z (fun E=>S.fieldE Z Z Z (by simpa only[lS] using h9 hen60) Z .N) Z ?_)
 apply d5.consE (v:=.undef);exact Z;exact Z;intro E
 refine S.storeE (e':=(⟨en60.item,en60.key,en60.time,kv⟩:b8)) hen60 Z Z Z Z Z Z .N
 exact Z
 exact Z
 refine d5.done Z ?_ ?_
 ·refine e8.cons Z Z (.go Z Z (fun E=>.j Z Z .N) (.skip Z (.skip Z .nil))) (.cons Z Z (.go Z Z (fun E=>.j Z Z .N) (.skip Z (.skip Z .nil))) (.cons Z Z (.go Z Z (fun E=>S.idxPb Z Z (by simp only[lS]) (by simpa only[lS] using q9 ha16) Z Z .N) (.skip Z (.skip Z .nil))) (.cons Z Z (.go Z Z (fun E=>S.loadP hha57 Z Z Z Z .N) (.skip Z (.skip Z .nil))) (.cons Z Z (.go Z Z (fun E=>.j Z Z .N) (.skip Z (.skip Z .nil))) (.cons Z Z (.go Z Z (fun E=>.j Z Z .N) (.skip Z (.skip Z .nil))) (.cons Z Z (.go Z Z (fun E=>S.idxPb Z Z (by simp only[lS]) (by simpa only[lS] using q9 ha12) Z Z .N) (.skip Z (.skip Z .nil))) (.cons Z Z (.go Z Z (fun E=>S.loadP hha58 Z Z Z Z .N) (.skip Z (.skip Z .nil))) (.cons Z Z (.go Z Z (fun E=>.j Z Z .N) (.skip Z (.skip Z .nil))) (.cons Z Z (.go Z Z (fun E=>.j Z Z .N) (.go Z Z (fun E=>.j Z Z .N) (.skip Z .nil))) (.cons Z Z (.go Z Z (fun E=>S.nilCheckE Z Z (by simpa only[lS] using h9 hen59) Z .N) (.skip Z (.skip Z .nil))) (.cons Z Z (.go Z Z (fun E=>S.fieldE Z Z Z (by simpa only[lS] using h9 hen59) Z .N) (.skip Z (.skip Z .nil))) ?_)))))))))))
  refine e8.skip Z ?_
  refine e8.cons Z Z ?_ ?_
  refine f8.skip Z ?_
  refine f8.go Z Z (fun E=>S.nilCheckE Z Z (by simpa only[lS] using h9 hen60) Z .N) ?_
  refine f8.skip Z (f8.nil)
  refine e8.cons Z Z ?_ ?_
  refine f8.skip Z ?_
  refine f8.go Z Z (fun E=>S.fieldE Z Z Z (by simpa only[lS] using h9 hen60) Z .N) ?_
  refine f8.skip Z (f8.nil)
  refine e8.skip Z (e8.nil)
 dsimp only[j6]
 obtain rfl:=oi h
 exact⟨⟨[],[.one (prow 1 ((l.set iv.toNat a12).set kv.toNat a16)),pool 4 b7 ((l4.set ha57.toNat (⟨en59.item,en59.key,en59.time,iv⟩:b8)).set ha58.toNat (⟨en60.item,en60.key,en60.time,kv⟩:b8))]⟩,Sub.env Y,Done.normal Z ⟨Z,Z⟩⟩
theorem ad0{iv:Int}{kv:Int}{l:Li}{l4:List b8}{r:Bool}(h:H4 iv kv l l4=some r):FnOk prog 169 [.c (.own 0 0 l.length),(cI iv),(cI kv)] (ad1 iv kv l l4) (fun tt ss=>tt=(cB r)∧ss=[.one (prow 1 l),pool 4 b7 l4]):=by
 refine FnOk.enter (rs:=[.t 6]) func169 Z ntmps169 results169 Z ⟨Y,Y⟩ (by kernel_rfl) Z ?_
 refine AWP.weak ?_
 unfold H4 at h
 refine AWP.q (.u (.v Z Z (.nil (b5 ?_))))
 obtain⟨a9,ha9,en56,hen56,a16,ha16,h⟩:=b3 h
 obtain⟨en57,hen57,h⟩:=bind_some h
 refine AWP.seqJ (⟨[(6,(cB ((decide (en56.key<en57.key))||((decide (en56.key=en57.key)) && (decide (en56.time<en57.time))))))],[.one (prow 1 l),pool 4 b7 l4]⟩) ?_ ?_
 ·rcases bft (decide (en56.key<en57.key)) with hb1|hb1
  ·refine AWP.drawI mixed Z ?_
   refine l7.consF Z (fun E=>.j Z Z .N) Z (.consF Z (fun E=>.j Z Z .N) Z (.consF Z (fun E=>S.idxPb Z Z Z (by simpa only[lS] using q9 ha9) Z Z .N) Z (.consF Z (fun E=>S.loadP ha9 Z Z Z Z .N) Z (.consF Z (fun E=>S.nilCheckE Z Z (by simpa only[lS] using h9 hen56) Z .N) Z (.consF Z (fun E=>S.fieldE Z Z Z (by simpa only[lS] using h9 hen56) Z .N) Z (.consF Z (fun E=>.E Z Z (r9 Z hen56) Z Z Z .N) Z (.consF Z (fun E=>.j Z Z .N) Z (.consF Z (fun E=>.j Z Z .N) Z (.consF Z (fun E=>S.idxPb Z Z Z (by simpa only[lS] using q9 ha16) Z Z .N) Z (.consF Z (fun E=>S.loadP ha16 Z Z Z Z .N) Z (.consF Z (fun E=>S.nilCheckE Z Z (by simpa only[lS] using h9 hen57) Z .N) Z (.consF Z (fun E=>S.fieldE Z Z Z (by simpa only[lS] using h9 hen57) Z .N) Z (.consF Z (fun E=>.E Z Z (r9 Z hen57) Z Z Z .N) Z (.consF Z (fun E=>.F Z Z Z .N) Z (.consF Z (fun E=>.j Z Z .N) Z (.consF Z (fun E=>.B Z Z Z hb1 .N) Z (.consF Z (fun E=>.B Z Z Z hb1 .N) Z (.consF Z (fun E=>.B Z Z Z hb1 .N) Z (.consF Z (fun E=>.B Z Z Z hb1 .N) Z (.consF Z (fun E=>.B Z Z Z hb1 .N) Z (.consF Z (fun E=>.B Z Z Z hb1 .N) Z (.consF Z (fun E=>.B Z Z Z hb1 .N) Z (.consF Z (fun E=>.B Z Z Z hb1 .N) Z (.consF Z (fun E=>.B Z Z Z hb1 .N) Z (.consF Z (fun E=>.B Z Z Z hb1 .N) Z (.consF Z (fun E=>.B Z Z Z hb1 .N) Z (.consF Z (fun E=>.B Z Z Z hb1 .N) Z (.consF Z (fun E=>.B Z Z Z hb1 .N) Z (.consF Z (fun E=>.B Z Z Z hb1 .N) Z (.consF Z (fun E=>.B Z Z Z hb1 .N) Z (.consF Z (fun E=>.B Z Z Z hb1 .N) Z (.consF Z (fun E=>.ah Z Z Z .N) Z (.consF Z (fun E=>.ah Z Z Z .N) Z (.consF Z (fun E=>.ah Z Z Z .N) Z (.consF Z (fun E=>.ah Z Z Z .N) Z (.consF Z (fun E=>.ah Z Z Z .N) Z (.consF Z (fun E=>.ah Z Z Z .N) Z (.consF Z (fun E=>.ah Z Z Z .N) Z (.consF Z (fun E=>.ah Z Z Z .N) Z (.consF Z (fun E=>.ah Z Z Z .N) Z (.consF Z (fun E=>.ah Z Z Z .N) Z (.consF Z (fun E=>.ah Z Z Z .N) Z (.consF Z (fun E=>.ah Z Z Z .N) Z (.consF Z (fun E=>.ah Z Z Z .N) Z (.consF Z (fun E=>.ah Z Z Z .N) Z (.consF Z (fun E=>.ah Z Z Z .N) Z (.consF Z (fun E=>.B Z Z Z hb1 .N) Z (.consF Z (fun E=>.U Z hb1 Z Z .N) Z (.consF Z (fun E=>.v Z Z .N) Z ?_)))))))))))))))))))))))))))))))))))))))))))))))))
   refine l7.done ?_
   dsimp only[j6]
   refine b5 ?_
   simp only[K3 hb1,or_t hb1,Bool.false_or,Bool.true_or,Bool.false_and,Bool.true_and]
   exact Sub.env ⟨Z,Y⟩
  ·rcases bft (decide (en56.key=en57.key)) with hb2|hb2
   ·refine AWP.drawI mixed Z ?_
    refine l7.consF Z (fun E=>.j Z Z .N) Z (.consF Z (fun E=>.j Z Z .N) Z (.consF Z (fun E=>S.idxPb Z Z Z (by simpa only[lS] using q9 ha9) Z Z .N) Z (.consF Z (fun E=>S.loadP ha9 Z Z Z Z .N) Z (.consF Z (fun E=>S.nilCheckE Z Z (by simpa only[lS] using h9 hen56) Z .N) Z (.consF Z (fun E=>S.fieldE Z Z Z (by simpa only[lS] using h9 hen56) Z .N) Z (.consF Z (fun E=>.E Z Z (r9 Z hen56) Z Z Z .N) Z (.consF Z (fun E=>.j Z Z .N) Z (.consF Z (fun E=>.j Z Z .N) Z (.consF Z (fun E=>S.idxPb Z Z Z (by simpa only[lS] using q9 ha16) Z Z .N) Z (.consF Z (fun E=>S.loadP ha16 Z Z Z Z .N) Z (.consF Z (fun E=>S.nilCheckE Z Z (by simpa only[lS] using h9 hen57) Z .N) Z (.consF Z (fun E=>S.fieldE Z Z Z (by simpa only[lS] using h9 hen57) Z .N) Z (.consF Z (fun E=>.E Z Z (r9 Z hen57) Z Z Z .N) Z (.consF Z (fun E=>.F Z Z Z .N) Z (.consF Z (fun E=>.j Z Z .N) Z (.consF Z (fun E=>.z Z Z Z hb1 (.j Z Z .N)) Z (.consF Z (fun E=>.z Z Z Z hb1 (.j Z Z .N)) Z (.consF Z (fun E=>.z Z Z Z hb1 (S.idxPb Z Z Z (by simpa only[lS] using q9 ha9) Z Z .N)) Z (.consF Z (fun E=>.z Z Z Z hb1 (S.loadP ha9 Z Z Z Z .N)) Z (.consF Z (fun E=>.z Z Z Z hb1 (S.nilCheckE Z Z (by simpa only[lS] using h9 hen56) Z .N)) Z (.consF Z (fun E=>.z Z Z Z hb1 (S.fieldE Z Z Z (by simpa only[lS] using h9 hen56) Z .N)) Z (.consF Z (fun E=>.z Z Z Z hb1 (.E Z Z (r9 Z hen56) Z Z Z .N)) Z (.consF Z (fun E=>.z Z Z Z hb1 (.j Z Z .N)) Z (.consF Z (fun E=>.z Z Z Z hb1 (.j Z Z .N)) Z (.consF Z (fun E=>.z Z Z Z hb1 (S.idxPb Z Z Z (by simpa only[lS] using q9 ha16) Z Z .N)) Z (.consF Z (fun E=>.z Z Z Z hb1 (S.loadP ha16 Z Z Z Z .N)) Z (.consF Z (fun E=>.z Z Z Z hb1 (S.nilCheckE Z Z (by simpa only[lS] using h9 hen57) Z .N)) Z (.consF Z (fun E=>.z Z Z Z hb1 (S.fieldE Z Z Z (by simpa only[lS] using h9 hen57) Z .N)) Z (.consF Z (fun E=>.z Z Z Z hb1 (.E Z Z (r9 Z hen57) Z Z Z .N)) Z (.consF Z (fun E=>.z Z Z Z hb1 (.ad Z Z Z .N)) Z (.consF Z (fun E=>.z Z Z Z hb1 (.j Z Z .N)) Z (.consF Z (fun E=>.z Z Z Z hb2 (.j Z Z .N)) Z (.consF Z (fun E=>.z Z Z Z hb2 (.j Z Z .N)) Z (.consF Z (fun E=>.z Z Z Z hb2 (S.idxPb Z Z Z (by simpa only[lS] using q9 ha9) Z Z .N)) Z (.consF Z (fun E=>.z Z Z Z hb2 (S.loadP ha9 Z Z Z Z .N)) Z (.consF Z (fun E=>.z Z Z Z hb2 (S.nilCheckE Z Z (by simpa only[lS] using h9 hen56) Z .N)) Z (.consF Z (fun E=>.z Z Z Z hb2 (S.fieldE Z Z Z (by simpa only[lS] using h9 hen56) Z .N)) Z (.consF Z (fun E=>.z Z Z Z hb2 (.E Z Z (r9 Z hen56) Z Z Z .N)) Z (.consF Z (fun E=>.z Z Z Z hb2 (.j Z Z .N)) Z (.consF Z (fun E=>.z Z Z Z hb2 (.j Z Z .N)) Z (.consF Z (fun E=>.z Z Z Z hb2 (S.idxPb Z Z Z (by simpa only[lS] using q9 ha16) Z Z .N)) Z (.consF Z (fun E=>.z Z Z Z hb2 (S.loadP ha16 Z Z Z Z .N)) Z (.consF Z (fun E=>.z Z Z Z hb2 (S.nilCheckE Z Z (by simpa only[lS] using h9 hen57) Z .N)) Z (.consF Z (fun E=>.z Z Z Z hb2 (S.fieldE Z Z Z (by simpa only[lS] using h9 hen57) Z .N)) Z (.consF Z (fun E=>.z Z Z Z hb2 (.E Z Z (r9 Z hen57) Z Z Z .N)) Z (.consF Z (fun E=>.z Z Z Z hb2 (.F Z Z Z .N)) Z (.consF Z (fun E=>.z Z Z Z hb1 (.U Z hb2 Z Z .N)) Z (.consF Z (fun E=>.aa Z hb1 Z Z .N) Z (.consF Z (fun E=>.v Z Z .N) Z ?_)))))))))))))))))))))))))))))))))))))))))))))))))
    refine l7.done ?_
    dsimp only[j6]
    refine b5 ?_
    simp only[D6 hb1,or_f hb1,K3 hb2,or_t hb2,Bool.false_or,Bool.true_or,Bool.false_and,Bool.true_and]
    exact Sub.env ⟨Z,Y⟩
   ·refine AWP.drawI mixed Z ?_
    refine l7.consF Z (fun E=>.j Z Z .N) Z (.consF Z (fun E=>.j Z Z .N) Z (.consF Z (fun E=>S.idxPb Z Z Z (by simpa only[lS] using q9 ha9) Z Z .N) Z (.consF Z (fun E=>S.loadP ha9 Z Z Z Z .N) Z (.consF Z (fun E=>S.nilCheckE Z Z (by simpa only[lS] using h9 hen56) Z .N) Z (.consF Z (fun E=>S.fieldE Z Z Z (by simpa only[lS] using h9 hen56) Z .N) Z (.consF Z (fun E=>.E Z Z (r9 Z hen56) Z Z Z .N) Z (.consF Z (fun E=>.j Z Z .N) Z (.consF Z (fun E=>.j Z Z .N) Z (.consF Z (fun E=>S.idxPb Z Z Z (by simpa only[lS] using q9 ha16) Z Z .N) Z (.consF Z (fun E=>S.loadP ha16 Z Z Z Z .N) Z (.consF Z (fun E=>S.nilCheckE Z Z (by simpa only[lS] using h9 hen57) Z .N) Z (.consF Z (fun E=>S.fieldE Z Z Z (by simpa only[lS] using h9 hen57) Z .N) Z (.consF Z (fun E=>.E Z Z (r9 Z hen57) Z Z Z .N) Z (.consF Z (fun E=>.F Z Z Z .N) Z (.consF Z (fun E=>.j Z Z .N) Z (.consF Z (fun E=>.z Z Z Z hb1 (.j Z Z .N)) Z (.consF Z (fun E=>.z Z Z Z hb1 (.j Z Z .N)) Z (.consF Z (fun E=>.z Z Z Z hb1 (S.idxPb Z Z Z (by simpa only[lS] using q9 ha9) Z Z .N)) Z (.consF Z (fun E=>.z Z Z Z hb1 (S.loadP ha9 Z Z Z Z .N)) Z (.consF Z (fun E=>.z Z Z Z hb1 (S.nilCheckE Z Z (by simpa only[lS] using h9 hen56) Z .N)) Z (.consF Z (fun E=>.z Z Z Z hb1 (S.fieldE Z Z Z (by simpa only[lS] using h9 hen56) Z .N)) Z (.consF Z (fun E=>.z Z Z Z hb1 (.E Z Z (r9 Z hen56) Z Z Z .N)) Z (.consF Z (fun E=>.z Z Z Z hb1 (.j Z Z .N)) Z (.consF Z (fun E=>.z Z Z Z hb1 (.j Z Z .N)) Z (.consF Z (fun E=>.z Z Z Z hb1 (S.idxPb Z Z Z (by simpa only[lS] using q9 ha16) Z Z .N)) Z (.consF Z (fun E=>.z Z Z Z hb1 (S.loadP ha16 Z Z Z Z .N)) Z (.consF Z (fun E=>.z Z Z Z hb1 (S.nilCheckE Z Z (by simpa only[lS] using h9 hen57) Z .N)) Z (.consF Z (fun E=>.z Z Z Z hb1 (S.fieldE Z Z Z (by simpa only[lS] using h9 hen57) Z .N)) Z (.consF Z (fun E=>.z Z Z Z hb1 (.E Z Z (r9 Z hen57) Z Z Z .N)) Z (.consF Z (fun E=>.z Z Z Z hb1 (.ad Z Z Z .N)) Z (.consF Z (fun E=>.z Z Z Z hb1 (.j Z Z .N)) Z (.consF Z (fun E=>.B Z Z Z hb2 .N) Z (.consF Z (fun E=>.B Z Z Z hb2 .N) Z (.consF Z (fun E=>.B Z Z Z hb2 .N) Z (.consF Z (fun E=>.B Z Z Z hb2 .N) Z (.consF Z (fun E=>.B Z Z Z hb2 .N) Z (.consF Z (fun E=>.B Z Z Z hb2 .N) Z (.consF Z (fun E=>.B Z Z Z hb2 .N) Z (.consF Z (fun E=>.B Z Z Z hb2 .N) Z (.consF Z (fun E=>.B Z Z Z hb2 .N) Z (.consF Z (fun E=>.B Z Z Z hb2 .N) Z (.consF Z (fun E=>.B Z Z Z hb2 .N) Z (.consF Z (fun E=>.B Z Z Z hb2 .N) Z (.consF Z (fun E=>.B Z Z Z hb2 .N) Z (.consF Z (fun E=>.B Z Z Z hb2 .N) Z (.consF Z (fun E=>.B Z Z Z hb2 .N) Z (.consF Z (fun E=>.z Z Z Z hb1 (.aa Z hb2 Z Z .N)) Z (.consF Z (fun E=>.aa Z hb1 Z Z .N) Z (.consF Z (fun E=>.v Z Z .N) Z ?_)))))))))))))))))))))))))))))))))))))))))))))))))
    refine l7.done ?_
    dsimp only[j6]
    refine b5 ?_
    simp only[D6 hb1,or_f hb1,D6 hb2,or_f hb2,Bool.false_or,Bool.true_or,Bool.false_and,Bool.true_and]
    exact Sub.env ⟨Z,Y⟩
 ·refine AWP.ret ?_
  obtain rfl:=oi h
  exact⟨⟨[(6,(cB ((decide (en56.key<en57.key))||((decide (en56.key=en57.key)) && (decide (en56.time<en57.time))))))],[.one (prow 1 l),pool 4 b7 l4]⟩,Sub.env ⟨Z,Y⟩,Done.ret Z ⟨Z,Z⟩⟩
theorem al0{i01:Int}{nv:Int}{time:Int}{l:Li}{l5:List (Int×Int)}{l6:List b8}{r:Li×(List b8)×Bool}(h:I7 i01 nv time l l5 l6=some r):FnOk prog 128 [.c (.ifc 170 [.ptr 0 0 0] false),(cI i01),(cI nv)] (W5 i01 nv time l l5 l6) (fun tt ss=>tt=(cB r.2.2)∧ss=[(oE 3 [.own 1 0 r.1.length,.map 2,int time]),.one (prow 3 r.1),.one (pmap 3 vU l5),pool 4 b7 r.2.1]):=by
 refine FnOk.enter (rs:=[.t 6]) func128 Z ntmps128 results128 Z ⟨Y,Y⟩ (by kernel_rfl) Z ?_
 refine AWP.weak ?_
 unfold I7 at h
 refine AWP.q (.u (.v Z Z (.nil (b5 (.q (.u (.j Z Z (.v Z Z (.nil (b5 (.q (.J ?_))))))))))))
 obtain⟨⟨c63,c64,iv65⟩,ho1,h⟩:=bind_some h
 try dsimp only at h
 refine AWP.loopS ho1 (fun(c60,c61,iv62)=>⟨[(0,.c (.ifc 170 [.ptr 0 0 0] false)),(1,(cI i01)),(2,(cI nv)),(7,(cI iv62))],[(oE 3 [.own 1 0 c60.length,.map 2,int time]),.one (prow 3 c60),.one (pmap 3 vU l5),pool 4 b7 c61]⟩) (fun(c63,c64,iv65) e st=>e=.exit 0∧Sub (W5 i01 nv time l l5 l6) st ⟨[(1,(cI i01)),(7,(cI iv65))],[(oE 3 [.own 1 0 c63.length,.map 2,int time]),.one (prow 3 c63),.one (pmap 3 vU l5),pool 4 b7 c64]⟩) ?_ ?_ ?_
 ·try dsimp only
  exact Sub.env ⟨Z,Z,Z,Z,Y⟩
 ·intro s o h
  obtain⟨c60,c61,iv62⟩:=s
  unfold W0 at h
  try dsimp only at h ⊢
  refine AWP.J (.q (.u (.j Z Z (S.mul Z Z Z (S.add Z Z Z (.v Z Z (.nil (b5 (.q (.seqJ (⟨[(0,.c (.ifc 170 [.ptr 0 0 0] false)),(1,(cI i01)),(2,(cI nv)),(7,(cI iv62)),(8,(cI (w64 ((w64 (2 * iv62))+1)))),(21,(cB ((decide (nv≤w64 ((w64 (2 * iv62))+1)))||(decide (w64 ((w64 (2 * iv62))+1)<0)))))],[(oE 3 [.own 1 0 c60.length,.map 2,int time]),.one (prow 3 c60),.one (pmap 3 vU l5),pool 4 b7 c61]⟩) ?_ ?_))))))))))
  ·rcases bft (decide (nv≤w64 ((w64 (2 * iv62))+1))) with hb1|hb1
   ·refine AWP.u (.j Z Z (.j Z Z (.geq Z Z Z (.j Z Z (.B Z Z Z hb1 (.B Z Z Z hb1 (.U Z hb1 Z Z (.nil (b5 ?_)))))))))
    simp only[K3 hb1,or_t hb1,Bool.false_or,Bool.true_or,Bool.false_and,Bool.true_and]
    exact Sub.env ⟨Z,Z,Z,Z,Z,Z,Y⟩
   ·refine AWP.u (.j Z Z (.j Z Z (.geq Z Z Z (.j Z Z (.z Z Z Z hb1 (.j Z Z (.z Z Z Z hb1 (.F Z Z Z (.aa Z hb1 Z Z (.nil (b5 ?_)))))))))))
    simp only[D6 hb1,or_f hb1,Bool.false_or,Bool.true_or,Bool.false_and,Bool.true_and]
    exact Sub.env ⟨Z,Z,Z,Z,Z,Z,Y⟩
  ·refine AWP.ac Z h (fun hc66 h=> ?_) (fun hc66 h=> ?_)
   ·refine AWP.exit (d7 (F9 Z ?_))
    obtain rfl:=oi h
    refine d7 ⟨_,Z,Z,?_⟩
    exact Sub.env ⟨Z,Z,Y⟩
   ·refine AWP.skip (b5 (.q (.u (.j Z Z (.v Z Z (.nil (b5 ?_)))))))
    obtain⟨j67,hx68,h⟩:=bind_some h
    refine AWP.seqJ (⟨[(0,.c (.ifc 170 [.ptr 0 0 0] false)),(1,(cI i01)),(2,(cI nv)),(7,(cI iv62)),(9,(cI j67))],[(oE 3 [.own 1 0 c60.length,.map 2,int time]),.one (prow 3 c60),.one (pmap 3 vU l5),pool 4 b7 c61]⟩) ?_ ?_
    ·refine AWP.q (.u (.j Z Z (S.add Z Z Z (.v Z Z (.nil (b5 ?_))))))
     obtain⟨t69,hx70,hx68⟩:=bind_some hx68
     refine AWP.seqJ (⟨[(0,.c (.ifc 170 [.ptr 0 0 0] false)),(1,(cI i01)),(2,(cI nv)),(7,(cI iv62)),(9,(cI (w64 ((w64 (2 * iv62))+1)))),(10,(cI (w64 ((w64 ((w64 (2 * iv62))+1))+1)))),(33,(cB t69))],[(oE 3 [.own 1 0 c60.length,.map 2,int time]),.one (prow 3 c60),.one (pmap 3 vU l5),pool 4 b7 c61]⟩) ?_ ?_
     ·rcases bft (decide (w64 ((w64 ((w64 (2 * iv62))+1))+1)<nv)) with hb71|hb71
      ·replace hx70:=P1 hb71 hx70
       obtain⟨a32,ha32,hx70⟩:=bind_some hx70
       refine AWP.u (.j Z Z (.j Z Z (.F Z Z Z (.j Z Z (.z Z Z Z hb71 (.j Z Z (.z Z Z Z hb71 (.j Z Z (.z Z Z Z hb71 (.j Z Z (.z Z Z Z hb71 (S.invokeV (r2:=(cB a32)) (σ'':=[(oE 3 [.own 1 0 c60.length,.map 2,int time]),.one (prow 3 c60),.one (pmap 3 vU l5),pool 4 b7 c61]) Z Z Z Z Z Z Z (FnOk.lend [1,3] (A6 ha32) Z Z Z Z Z Z (by exact⟨(.one (i7 Z)),(.any m9),Y⟩) Z (by exact⟨(.live Z (.one (i4 fun _=>Z))),(.live Z RenE.pool),Y⟩) Z Z (by exact⟨(.old Z Z Z),(.new 0 Z Z (.one (i4 fun _=>Z))),(.old Z Z Z),(.new 1 Z Z RenE.pool),Y⟩)) (.U Z hb71 Z Z (.nil ?_))))))))))))))
       obtain rfl:=oi hx70
       refine b5 (Sub.env ⟨Z,Z,Z,Z,Z,Z,Z,Y⟩)
      ·replace hx70:=P3 hb71 hx70
       refine AWP.u (.j Z Z (.j Z Z (.F Z Z Z (.j Z Z (.B Z Z Z hb71 (.B Z Z Z hb71 (.B Z Z Z hb71 (.B Z Z Z hb71 (.aa Z hb71 Z Z (.nil ?_))))))))))
       obtain rfl:=oi hx70
       refine b5 (Sub.env ⟨Z,Z,Z,Z,Z,Z,Z,Y⟩)
     ·refine AWP.ac Z hx68 (fun hc72 hx68=> ?_) (fun hc72 hx68=> ?_)
      ·refine AWP.u (.j Z Z (.v Z Z (.nil ?_)))
       obtain rfl:=oi hx68
       refine b5 (Sub.env ⟨Z,Z,Z,Z,Z,Y⟩)
      ·refine AWP.skip ?_
       obtain rfl:=oi hx68
       refine b5 (Sub.env ⟨Z,Z,Z,Z,Z,Y⟩)
    ·refine AWP.q (.q ?_)
     obtain⟨a38,ha38,h⟩:=bind_some h
     refine AWP.u (.j Z Z (.j Z Z (.j Z Z (S.invokeV (r2:=(cB a38)) (σ'':=[(oE 3 [.own 1 0 c60.length,.map 2,int time]),.one (prow 3 c60),.one (pmap 3 vU l5),pool 4 b7 c61]) Z Z Z Z Z Z Z (FnOk.lend [1,3] (ad0 ha38) Z Z Z Z Z Z (by exact⟨(.one (i7 Z)),(.any m9),Y⟩) Z (by exact⟨(.live Z (.one (i4 fun _=>Z))),(.live Z RenE.pool),Y⟩) Z Z (by exact⟨(.old Z Z Z),(.new 0 Z Z (.one (i4 fun _=>Z))),(.old Z Z Z),(.new 1 Z Z RenE.pool),Y⟩)) (.not Z Z (.nil (b5 (.ac Z h (fun hc73 h=> ?_) (fun hc73 h=> ?_)))))))))
     ·refine AWP.exit (d7 (F9 Z ?_))
      obtain rfl:=oi h
      refine d7 ⟨_,Z,Z,?_⟩
      exact Sub.env ⟨Z,Z,Y⟩
     ·refine AWP.skip (b5 (.q ?_))
      obtain⟨a43,ha43,u74,hu74,h⟩:=b2 h
      refine AWP.u (.j Z Z (.j Z Z (.j Z Z (S.invokeV (r2:=.tup []) (σ'':=[(oE 3 [.own 1 0 c60.length,.map 2,int time]),.one (prow 3 a43.1),.one (pmap 3 vU l5),pool 4 b7 a43.2]) Z Z Z Z Z Z Z (FnOk.lend [1,3] (O0 ha43) Z Z Z Z Z Z (by exact⟨(.one (i7 Z)),(.any m9),Y⟩) Z (by exact⟨(.live Z (.one (i4 fun _=>Z))),(.live Z RenE.pool),Y⟩) Z Z (by exact⟨(.old Z Z Z),(.new 0 Z Z (.one (i4 fun _=>Z))),(.old Z Z Z),(.new 1 Z Z RenE.pool),Y⟩)) (.nil (b5 (.u (.j Z Z (.v Z Z (.nil (d6 ?_)))))))))))
      obtain rfl:=oi h
      refine b5 ⟨_,Z,?_⟩
      exact Sub.cut ⟨Z,Z,Z,Z,Y⟩ Z ⟨(.eq Z (by first|rfl|rw[(al2 hu74)]|(simp only[lS];done))),(.one (i7 Z)),(.one (j7 Z)),(.any m9),Y⟩ Z
 ·intro e s hq
  obtain⟨rfl,hs⟩:=hq
  refine⟨_,hs,?_⟩
  refine i6 (b5 (.q (.u (.j Z Z (.j Z Z (.gtr Z Z Z (.v Z Z (.nil (b5 (.ret ?_))))))))))
  obtain rfl:=oi h
  exact⟨⟨[(6,(cB (decide (i01<iv65))))],[(oE 3 [.own 1 0 c63.length,.map 2,int time]),.one (prow 3 c63),.one (pmap 3 vU l5),pool 4 b7 c64]⟩,Sub.env ⟨Z,Y⟩,Done.ret Z ⟨Z,Z⟩⟩
theorem af6{time:Int}{l:Li}{l3:List (Int×Int)}{l4:List b8}{r:Li×Int}(h:C7 time l l3 l4=some r):FnOk prog 171 [(cP 0 0 0)] (af1 time l l3 l4) (fun tt ss=>tt=.c (.ifc 165 [.ptr (3,[r.2.toNat]) 0 0] false)∧ss=[(oE 3 [.own 5 0 r.1.length,.map 2,int time]),.dead,.one (pmap 3 vU l3),pool 4 b7 l4,.dead,.one (prow 3 r.1)]):=by
 refine FnOk.enter (rs:=[.t 2]) func171 Z ntmps171 results171 Z ⟨Y,Y⟩ (by kernel_rfl) Z ?_
 refine AWP.weak ?_
 unfold C7 at h
 refine AWP.j (env':=[(0,(cP 0 0 0))]) (σ':=[(oE 3 [.own 4 0 l.length,.map 2,int time]),.dead,.one (pmap 3 vU l3),pool 4 b7 l4,.one (prow 3 l)]) 4 1 Z Z Z ⟨Z,Y⟩ Z ⟨⟨Z,Z⟩,Y,⟨j7 Z,z8 Z N6⟩,(w3.pool Z),⟨i7 Z,z8 Z N5⟩,Y⟩ (.q (.u (.v Z Z (.nil (b5 (.q (.u (.j Z Z (.ai Z Z Z (.E Z Z Z Z Z Z (.v Z Z (.nil (b5 (.q ?_))))))))))))))
 obtain⟨a12,ha12,h⟩:=bind_some h
 refine AWP.u (.j Z Z (.j Z Z (.lenOwnB Z Z Z (fun hl10=>.sub' Z Z Z (by omega) (S.idxPb Z Z Z (by simpa only[lS] using q9 ha12) Z Z (S.loadP ha12 Z Z Z Z (.v Z Z (.nil (b5 (.q ?_))))))))))
 obtain⟨a19,ha19,h⟩:=bind_some h
 refine AWP.u (.j Z Z (.j Z Z (.j Z Z (.lenOwnB Z Z Z (fun hl17=>.sub' Z Z Z (by omega) (S.shrinkP ha19 Z Z Z Z Z (.sub (Sub.reownP (env':=[(0,(cP 0 0 0)),(2,.c (.imm (.val .nilIface))),(4,(cP (3,[a12.toNat]) 0 0)),(5,(cP 0 0 0)),(6,(cP 0 0 0)),(10,(cI (l.length:Int))),(11,(cI ((l.length:Int) - 1))),(13,(cP (3,[a12.toNat]) 0 0)),(14,(cP 0 0 0)),(17,(cI (l.length:Int))),(18,(cI ((l.length:Int) - 1))),(19,.c (.own 5 0 a19.length))]) 19 ha19 Z Z Z Z Z Z Z (by exact⟨.inr Z,.inr Z,.inr Z,.inr Z,.inr Z,.inr Z,.inr Z,.inr Z,.inr Z,.inr Z,.inr Z,.inl ⟨Z,Z⟩,Y⟩)) (.ai Z Z Z (W.store Z Z Z Z Z (.nil (b5 (.q (.u (.j Z Z (S.mkIfc Z Z Z (.v Z Z (.nil (b5 (.ret ?_)))))))))))))))))))
 obtain rfl:=oi h
 exact⟨⟨[(2,.c (.ifc 165 [.ptr (3,[a12.toNat]) 0 0] false))],[(oE 3 [.own 5 0 a19.length,.map 2,int time]),.dead,.one (pmap 3 vU l3),pool 4 b7 l4,.dead,.one (prow 3 a19)]⟩,Sub.env ⟨Z,Y⟩,Done.ret Z ⟨Z,Z⟩⟩
theorem ao8{time:Int}{l:Li}{l3:List (Int×Int)}{l4:List b8}{r:(List b8)×Li×Int}(h:G1 time l l3 l4=some r):FnOk prog 96 [.c (.ifc 170 [.ptr 0 0 0] false)] (ap2 time l l3 l4) (fun tt ss=>tt=.c (.ifc 165 [.ptr (3,[r.2.2.toNat]) 0 0] false)∧ss=[(oE 3 [.own 5 0 r.2.1.length,.map 2,int time]),.dead,.one (pmap 3 vU l3),pool 4 b7 r.1,.dead,.one (prow 3 r.2.1)]):=by
 refine FnOk.enter (rs:=[.t 2]) func96 Z ntmps96 results96 Z ⟨Y,Y⟩ (by kernel_rfl) Z ?_
 refine AWP.weak ?_
 unfold G1 at h
 refine AWP.q (.u (.v Z Z (.nil (b5 (.q ?_)))))
 obtain⟨a5,ha5,h⟩:=bind_some h
 refine AWP.u (.j Z Z (S.invokeV (r2:=(cI (l.length:Int))) (σ'':=[(oE 3 [.own 1 0 l.length,.map 2,int time]),.one (prow 3 l),.one (pmap 3 vU l3),pool 4 b7 l4]) Z Z Z Z Z Z Z (FnOk.lend [1,3] (G3 ha5) Z Z Z Z Z Z (by exact⟨(.one (i7 Z)),(.any m9),Y⟩) Z (by exact⟨(.live Z (.one (i4 fun _=>Z))),(.live Z RenE.pool),Y⟩) Z Z (by exact⟨(.old Z Z Z),(.new 0 Z Z (.one (i4 fun _=>Z))),(.old Z Z Z),(.new 1 Z Z RenE.pool),Y⟩)) (S.sub Z Z Z (.v Z Z (.nil (b5 (.q ?_)))))))
 obtain⟨a9,ha9,u58,hu58,h⟩:=b2 h
 refine AWP.u (.j Z Z (.j Z Z (S.invokeV (r2:=.tup []) (σ'':=[(oE 3 [.own 1 0 l.length,.map 2,int time]),.one (prow 3 a9.1),.one (pmap 3 vU l3),pool 4 b7 a9.2]) Z Z Z Z Z Z Z (FnOk.lend [1,3] (O0 ha9) Z Z Z Z Z Z (by exact⟨(.one (i7 Z)),(.any m9),Y⟩) Z (by exact⟨(.live Z (.one (i4 fun _=>Z))),(.live Z RenE.pool),Y⟩) Z Z (by exact⟨(.old Z Z Z),(.new 0 Z Z (.one (i4 fun _=>Z))),(.old Z Z Z),(.new 1 Z Z RenE.pool),Y⟩)) (.nil (b5 (.q ?_))))))
 obtain⟨a12,ha12,h⟩:=bind_some h
 refine AWP.u (.j Z Z (.j Z Z (.sub (s':=⟨[(0,.c (.ifc 170 [.ptr 0 0 0] false)),(2,.c (.imm (.val .nilIface))),(3,(cI (w64 ((l.length:Int) - 1)))),(4,.c (.ifc 170 [.ptr 0 0 0] false)),(5,(cI (l.length:Int))),(6,(cI (w64 ((l.length:Int) - 1)))),(7,.c (.ifc 170 [.ptr 0 0 0] false)),(8,(cI (w64 ((l.length:Int) - 1)))),(9,.tup []),(10,.c (.ifc 170 [.ptr 0 0 0] false)),(11,(cI (w64 ((l.length:Int) - 1))))],[(oE 3 [.own 1 0 a9.1.length,.map 2,int time]),.one (prow 3 a9.1),.one (pmap 3 vU l3),pool 4 b7 a9.2]⟩) (Sub.cut ⟨Z,Z,Z,Z,Z,Z,Z,Z,Z,Z,Z,Y⟩ Z ⟨(.eq Z (by rw[(al2 hu58)])),(.one (i7 Z)),(.one (j7 Z)),(.any m9),Y⟩ Z) (.callF (r2:=(cB a12.2.2)) (σ'':=[(oE 3 [.own 1 0 a12.1.length,.map 2,int time]),.one (prow 3 a12.1),.one (pmap 3 vU l3),pool 4 b7 a12.2.1]) Z Z Z (FnOk.lend [0,1,2,3] (al0 ha12) Z Z Z Z Z Z (by exact⟨(.one Z),(.one (i7 Z)),(.one (j7 Z)),(.any m9),Y⟩) Z (by exact⟨(.live Z (.one Z)),(.live Z (.one (i4 fun _=>Z))),(.live Z (.one (m5 fun _=>Z))),(.live Z RenE.pool),Y⟩) Z Z (by exact⟨(.new 0 Z Z (.one Z)),(.new 1 Z Z (.one (i4 fun _=>Z))),(.new 2 Z Z (.one (m5 fun _=>Z))),(.new 3 Z Z RenE.pool),Y⟩)) (.nil (b5 (.q ?_)))))))
 obtain⟨a14,ha14,h⟩:=bind_some h
 refine AWP.u (.j Z Z (S.invokeP (r2:=.c (.ifc 165 [.ptr (3,[a14.2.toNat]) 0 0] false)) (σ'':=[(oE 3 [.own 5 0 a14.1.length,.map 2,int time]),.dead,.one (pmap 3 vU l3),pool 4 b7 a12.2.1,.dead,.one (prow 3 a14.1)]) Z Z Z (FnOk.lend [0,1,2,3] (af6 ha14) Z Z Z Z Z Z (by exact⟨(.one Z),(.one (i7 Z)),(.one (j7 Z)),(.any m9),Y⟩) Z (by exact⟨(.live Z (.one Z)),(.live Z (.one (i4 fun _=>Z))),(.live Z (.one (m5 fun _=>Z))),(.live Z RenE.pool),Y⟩) Z Z (by exact⟨(.new 0 Z Z (.one Z)),.dead,(.new 2 Z Z (.one (m5 fun _=>Z))),(.new 3 Z Z RenE.pool),.dead,(.new 5 Z Z (.one (i4 fun _=>Z))),Y⟩)) (.v Z Z (.nil (b5 (.ret ?_))))))
 obtain rfl:=oi h
 exact⟨⟨[(2,.c (.ifc 165 [.ptr (3,[a14.2.toNat]) 0 0] false))],[(oE 3 [.own 5 0 a14.1.length,.map 2,int time]),.dead,.one (pmap 3 vU l3),pool 4 b7 a12.2.1,.dead,.one (prow 3 a14.1)]⟩,Sub.env ⟨Z,Y⟩,Done.ret Z ⟨Z,Z⟩⟩
theorem ac6{time:Int}{l:Li}{l3:List (Int×Int)}{l4:List b8}{r:(List (Int×Int))×(List b8)×Li×Int×Int×Bool}(h:x9 time l l3 l4=some r):FnOk prog 83 [(cP 0 0 0)] (ad2 time l l3 l4) (fun tt ss=>tt=.tup [.c (.imm (.val (.int .u32 r.2.2.2.1))),(cI r.2.2.2.2.1),(cB r.2.2.2.2.2)]∧ss=[(oE 3 [.own 4 0 r.2.2.1.length,.map 2,int time]),.dead,.one (pmap 3 vU r.1),pool 4 b7 r.2.1,.one (prow 3 r.2.2.1)]):=by
 refine FnOk.enter (rs:=[.t 2,.t 3,.t 4]) func83 Z ntmps83 results83 Z ⟨Y,Y,Y,Y⟩ (by kernel_rfl) Z ?_
 refine AWP.weak ?_
 unfold x9 at h
 refine AWP.j (env':=[(0,(cP 0 0 0))]) (σ':=[(oE 3 [.own 4 0 l.length,.map 2,int time]),.dead,.one (pmap 3 vU l3),pool 4 b7 l4,.one (prow 3 l)]) 4 1 Z Z Z ⟨Z,Y⟩ Z ⟨⟨Z,Z⟩,Y,⟨j7 Z,z8 Z N6⟩,(w3.pool Z),⟨i7 Z,z8 Z N5⟩,Y⟩ (.q (.u (.v Z Z (.v Z Z (.v Z Z (.nil (b5 (.q (.q (.u (.j Z Z (.ai Z Z Z (W.fieldAddr Z Z Z Z (.E Z Z Z Z Z Z (.lenOwnB Z Z Z (fun hl10=>.ad Z Z Z (.nil (b5 (.ite Z h (fun hc61 h=> ?_) (fun hc61 h=> ?_))))))))))))))))))))
 ·refine AWP.q (.u (.j Z Z (.v Z Z (.v Z Z (.v Z Z (.nil (b5 (.ret (e6 ?_)))))))))
  obtain rfl:=oi h
  exact⟨⟨[(2,.c (.imm (.val (.int .u32 0)))),(3,(cI 0)),(4,(cB false))],[(oE 3 [.own 4 0 l.length,.map 2,int time]),.dead,.one (pmap 3 vU l3),pool 4 b7 l4,.one (prow 3 l)]⟩,Sub.env ⟨Z,Z,Z,Y⟩,Done.ret Z ⟨Z,Z⟩⟩
 ·refine AWP.skip (b5 (.q ?_))
  obtain⟨a17,ha17,h⟩:=bind_some h
  refine AWP.u (.j Z Z (.ai Z Z Z (W.fieldAddr Z Z Z Z (S.mkIfc Z Z Z (.callF (r2:=.c (.ifc 165 [.ptr (3,[a17.2.2.toNat]) 0 0] false)) (σ'':=[(oE 3 [.own 6 0 a17.2.1.length,.map 2,int time]),.dead,.one (pmap 3 vU l3),pool 4 b7 a17.1,.dead,.dead,.one (prow 3 a17.2.1)]) Z Z Z (FnOk.lend [0,4,2,3] (ao8 ha17) Z Z Z Z Z Z (by exact⟨(.one Z),(.one (i7 Z)),(.one (j7 Z)),(.any m9),Y⟩) Z (by exact⟨(.live Z (.one Z)),(.live Z (.one (i4 fun _=>Z))),(.live Z (.one (m5 fun _=>Z))),(.live Z RenE.pool),Y⟩) Z Z (by exact⟨(.new 0 Z Z (.one Z)),.dead,(.new 2 Z Z (.one (m5 fun _=>Z))),(.new 3 Z Z RenE.pool),.dead,.dead,(.new 5 Z Z (.one (i4 fun _=>Z))),Y⟩)) (S.assert Z Z Z (.v Z Z (.nil (b5 (.q ?_))))))))))
  obtain⟨en62,hen62,h⟩:=bind_some h
  refine AWP.drawEI [8] mixed Z Z Z ?_
  refine d5.consN Z Z (fun E=>.j Z Z .N) Z (.consN Z Z (fun E=>.ai Z Z Z .N) Z (.consN Z Z (fun E=>W.fieldAddr Z Z Z Z .N) Z (.consN Z Z (fun E=>.E Z Z Z Z Z Z .N) Z (.consN Z Z (fun E=>.j Z Z .N) Z (.consN Z Z (fun E=>S.nilCheckE Z Z (by simpa only[lS] using h9 hen62) Z .N) Z (.consN Z Z (fun E=>S.fieldE Z Z Z (by simpa only[lS] using h9 hen62) Z .N) Z (.consN Z Z (fun E=>.E Z Z (r9 Z hen62) Z Z Z .N) Z ?_)))))))
  apply d5.consE (v:=.undef);exact Z;exact Z;intro E
  refine S.deleteP (fk:=vU) (k:=en62.item) I3 Z Z Z Z Z .N
  exact Z
  exact Z
  refine d5.done Z ?_ ?_
  ·refine e8.cons Z Z (.go Z Z (fun E=>.j Z Z .N) (.skip Z .nil)) (.cons Z Z (.go Z Z (fun E=>.ai Z Z Z .N) (.skip Z .nil)) (.cons Z Z (.go Z Z (fun E=>W.fieldAddr Z Z Z Z .N) (.skip Z .nil)) (.cons Z Z (.go Z Z (fun E=>.E Z Z Z Z Z Z .N) (.skip Z .nil)) (.cons Z Z (.go Z Z (fun E=>.j Z Z .N) (.skip Z .nil)) (.cons Z Z (.go Z Z (fun E=>S.nilCheckE Z Z (by simpa only[lS] using h9 hen62) Z .N) (.skip Z .nil)) (.cons Z Z (.go Z Z (fun E=>S.fieldE Z Z Z (by simpa only[lS] using h9 hen62) Z .N) (.skip Z .nil)) (.cons Z Z (.go Z Z (fun E=>.E Z Z (r9 Z hen62) Z Z Z .N) (.skip Z .nil)) ?_)))))))
   refine e8.skip Z (e8.nil)
  dsimp only[j6]
  refine b5 (.q (.drawI mixed Z ?_))
  refine l7.consF Z (fun E=>.j Z Z .N) Z (.consF Z (fun E=>S.nilCheckE Z Z (by simpa only[lS] using h9 hen62) Z .N) Z (.consF Z (fun E=>S.fieldE Z Z Z (by simpa only[lS] using h9 hen62) Z .N) Z (.consF Z (fun E=>.E Z Z (r9 Z hen62) Z Z Z .N) Z (.consF Z (fun E=>.j Z Z .N) Z (.consF Z (fun E=>S.nilCheckE Z Z (by simpa only[lS] using h9 hen62) Z .N) Z (.consF Z (fun E=>S.fieldE Z Z Z (by simpa only[lS] using h9 hen62) Z .N) Z (.consF Z (fun E=>.E Z Z (r9 Z hen62) Z Z Z .N) Z (.consF Z (fun E=>.v Z Z .N) Z (.consF Z (fun E=>.v Z Z .N) Z (.consF Z (fun E=>.v Z Z .N) Z ?_))))))))))
  refine l7.done ?_
  dsimp only[j6]
  refine b5 (.ret ?_)
  obtain rfl:=oi h
  exact⟨⟨[(2,.c (.imm (.val (.int .u32 en62.item)))),(3,(cI en62.key)),(4,(cB true))],[(oE 3 [.own 4 0 a17.2.1.length,.map 2,int time]),.dead,.one (pmap 3 vU (mdel l3 en62.item)),pool 4 b7 a17.1,.one (prow 3 a17.2.1)]⟩,(Sub.move (env':=[(2,.c (.imm (.val (.int .u32 en62.item)))),(3,(cI en62.key)),(4,(cB true))]) (σ':=[(oE 3 [.own 4 0 a17.2.1.length,.map 2,int time]),.dead,.one (pmap 3 vU (mdel l3 en62.item)),pool 4 b7 a17.1,.one (prow 3 a17.2.1),.dead]) 4 6 Z Z Z ⟨Z,Z,Z,Y⟩ Z ⟨⟨Z,Z⟩,Y,⟨j7 Z,z8 Z N6⟩,(w3.pool Z),⟨i7 Z,z8 Z N5⟩,Y,Y⟩).trans (Sub.cut ⟨Z,Z,Z,Y⟩ Z ⟨.one Z,.dead,(.one (j7 Z)),(.any m9),(.one (i7 Z)),Y⟩ Z),Done.ret Z ⟨Z,Z⟩⟩
theorem af9{item:Int}{key:Int}{time:Int}{l:Li}{l5:List (Int×Int)}{l6:List b8}{r:(List (Int×Int))×Li×(List b8)}(h:D0 item key time l l5 l6=some r):FnOk prog 80 [(cP 0 0 0),.c (.imm (.val (.int .u32 item))),(cI key)] (af7 item key time l l5 l6) (fun tt ss=>tt=.tup []∧ss=[(oE 3 [.own 4 0 r.2.1.length,.map 2,int (w64 (time+1))]),.dead,.one (pmap 5 vU r.1),.dead,.one (prow 5 r.2.1),pool 4 b7 r.2.2]):=by
 refine FnOk.enter (rs:=[]) func80 Z ntmps80 results80 Z Y (by kernel_rfl) Z ?_
 refine AWP.weak ?_
 unfold D0 at h
 refine AWP.j (env':=[(0,(cP 0 0 0)),(1,.c (.imm (.val (.int .u32 item)))),(2,(cI key))]) (σ':=[(oE 3 [.own 4 0 l.length,.map 2,int time]),.dead,.one (pmap 3 vU l5),pool 4 b7 l6,.one (prow 3 l)]) 4 1 Z Z Z ⟨Z,Z,Z,Y⟩ Z ⟨⟨Z,Z⟩,Y,⟨j7 Z,z8 Z N6⟩,(w3.pool Z),⟨i7 Z,z8 Z N5⟩,Y⟩ (.moveM (env':=[(0,(cP 0 0 0)),(1,.c (.imm (.val (.int .u32 item)))),(2,(cI key))]) (σ':=[(oE 3 [.own 4 0 l.length,.map 2,int time]),.dead,.one (pmap 5 vU l5),.dead,.one (prow 5 l),pool 4 b7 l6]) 5 3 Z Z Z ⟨Z,Z,Z,Y⟩ Z ⟨(.one Z Z),.dead,(.one (j7 Z) (H2 Z Z (m5 fun _=>Z))),.dead,(.one (i7 Z) (H2 Z Z (i4 fun _=>Z))),(EntR.pool Z Z),Y⟩ ?_)
 refine AWP.q (.u (.j Z Z (.ai Z Z Z (W.fieldAddr Z Z Z Z (.E Z Z Z Z Z Z (S.add Z Z Z (.ai Z Z Z (W.fieldAddr Z Z Z Z (W.store Z Z Z Z Z (.nil (b5 (.q (.q (.u (.j Z Z (.ai Z Z Z (W.fieldAddr Z Z Z Z (.E Z Z Z Z Z Z (.j Z Z (S.lookupOkP (fk:=vU) (k:=item) I3 Z Z Z Z Z (.j Z Z (.ab Z Z Z (.ab Z Z Z (.v Z Z (.v Z Z (.nil (b5 (.q (.u (.j Z Z (.nil (b5 (.ac Z h (fun hc60 h=> ?_) (fun hc60 h=> ?_))))))))))))))))))))))))))))))))))
 ·obtain⟨ap61,hap61,h⟩:=bind_some h
  refine AWP.sub (s':=⟨[(0,(cP 0 0 0)),(1,.c (.imm (.val (.int .u32 item)))),(2,(cI key)),(6,(cP (5,[ap61.toNat]) 0 0)),(7,(cB (Option.isSome (mget l5 item)))),(9,(cP 0 0 0)),(10,(cP 0 0 0)),(11,(cP 0 0 2)),(12,(cI time)),(13,(cI (w64 (time+1)))),(14,(cP 0 0 0)),(15,(cP 0 0 2)),(17,(cP 0 0 0)),(18,(cP 0 0 0)),(19,(cP 0 0 1)),(20,.c (.map 2)),(21,.c (.imm (.val (.int .u32 item)))),(23,(cP (5,[ap61.toNat]) 0 0)),(24,(cB (Option.isSome (mget l5 item)))),(25,(cB (Option.isSome (mget l5 item))))],[(oE 3 [.own 4 0 l.length,.map 2,int (w64 (time+1))]),.dead,.one (pmap 5 vU l5),.dead,.one (prow 5 l),pool 4 b7 l6]⟩) (Sub.env ⟨Z,Z,Z,(ap6 hap61),Z,Z,Z,Z,Z,Z,Z,Z,Z,Z,Z,Z,Z,(ap6 hap61),Z,Z,Y⟩) (.q ?_)
  obtain⟨en62,hen62,h⟩:=bind_some h
  refine AWP.u (.j Z Z (.j Z Z (.j Z Z (.j Z Z (.ai Z Z Z (W.fieldAddr Z Z Z Z (.E Z Z Z Z Z Z (S.nilCheckE Z Z (by simpa only[lS] using h9 hen62) Z (S.fieldE Z Z Z (by simpa only[lS] using h9 hen62) Z (S.storeE (e':=(⟨en62.item,key,en62.time,en62.fat⟩:b8)) hen62 Z Z Z Z Z Z (S.nilCheckE Z Z (by simpa only[lS] using h9 hen62) Z (S.fieldE Z Z Z (by simpa only[lS] using h9 hen62) Z (S.storeE (e':=(⟨en62.item,key,w64 (time+1),en62.fat⟩:b8)) (ab6 hen62) Z Z Z Z Z Z (.nil (b5 (.q ?_))))))))))))))))
  obtain⟨a45,ha45,h⟩:=bind_some h
  refine AWP.drawEI [8] mixed Z Z Z ?_
  refine d5.consN Z Z (fun E=>.j Z Z .N) Z (.consN Z Z (fun E=>.ai Z Z Z .N) Z (.consN Z Z (fun E=>W.fieldAddr Z Z Z Z .N) Z (.consN Z Z (fun E=>S.mkIfc Z Z Z .N) Z (.consN Z Z (fun E=>.j Z Z .N) Z (.consN Z Z (fun E=>S.nilCheckE Z Z (by simpa only[lS] using h9 hen62) Z .N) Z (.consN Z Z (fun E=>S.fieldE Z Z Z (by simpa only[lS] using h9 hen62) Z .N) Z (.consN Z Z (fun E=>.E Z Z (r9 Z (ab6 (ab6 hen62))) Z Z Z .N) Z ?_)))))))
  apply d5.consE;exact Z;exact Z;intro E
  refine AOps.callF (r2:=.tup []) (σ'':=[(oE 3 [.own 4 0 a45.1.length,.map 2,int (w64 (time+1))]),.dead,.one (pmap 5 vU l5),.dead,.one (prow 5 a45.1),pool 4 b7 a45.2]) Z Z Z (FnOk.lend [0,4,2,5] (aa5 ha45) Z Z Z Z Z Z (by exact⟨(.one Z),(.one (i7 Z)),(.one (j7 Z)),(.any m9),Y⟩) Z (by exact⟨(.live Z (.one Z)),(.live Z (.one (i4 fun _=>Z))),(.live Z (.one (m5 fun _=>Z))),(.live Z RenE.pool),Y⟩) Z Z (by exact⟨(.new 0 Z Z (.one Z)),.dead,(.new 2 Z Z (.one (m5 fun _=>Z))),.dead,(.new 1 Z Z (.one (i4 fun _=>Z))),(.new 3 Z Z RenE.pool),Y⟩)) .N
  exact Z
  exact Z
  refine d5.done Z ?_ ?_
  ·refine e8.cons Z Z (.go Z Z (fun E=>.j Z Z .N) (.skip Z .nil)) (.cons Z Z (.go Z Z (fun E=>.ai Z Z Z .N) (.skip Z .nil)) (.cons Z Z (.go Z Z (fun E=>W.fieldAddr Z Z Z Z .N) (.skip Z .nil)) (.cons Z Z (.go Z Z (fun E=>S.mkIfc Z Z Z .N) (.skip Z .nil)) (.cons Z Z (.go Z Z (fun E=>.j Z Z .N) (.skip Z .nil)) (.cons Z Z (.go Z Z (fun E=>S.nilCheckE Z Z (by simpa only[lS] using h9 hen62) Z .N) (.skip Z .nil)) (.cons Z Z (.go Z Z (fun E=>S.fieldE Z Z Z (by simpa only[lS] using h9 hen62) Z .N) (.skip Z .nil)) (.cons Z Z (.go Z Z (fun E=>.E Z Z (r9 Z (ab6 (ab6 hen62))) Z Z Z .N) (.skip Z .nil)) ?_)))))))
   refine e8.skip Z (e8.nil)
  dsimp only[j6]
  refine b5 (.ret (e6 ?_))
  obtain rfl:=oi h
  exact⟨⟨[],[(oE 3 [.own 4 0 a45.1.length,.map 2,int (w64 (time+1))]),.dead,.one (pmap 5 vU l5),.dead,.one (prow 5 a45.1),pool 4 b7 a45.2]⟩,Sub.env Y,Done.ret Z ⟨Z,Z⟩⟩
 ·refine AWP.skip (b5 (.q ?_))
  obtain⟨u63,hu63,u64,hu64,h⟩:=b2 h
  refine AWP.u (.j Z Z (.j Z Z (.j Z Z (.ai Z Z Z (W.fieldAddr Z Z Z Z (.E Z Z Z Z Z Z (W.build Z Z Z Z (W.box Z Z Z Z Z Z (.sub (Sub.move (env':=[(0,(cP 0 0 0)),(1,.c (.imm (.val (.int .u32 item)))),(2,(cI key)),(7,(cB (Option.isSome (mget l5 item)))),(9,(cP 0 0 0)),(10,(cP 0 0 0)),(11,(cP 0 0 2)),(12,(cI time)),(13,(cI (w64 (time+1)))),(14,(cP 0 0 0)),(15,(cP 0 0 2)),(17,(cP 0 0 0)),(18,(cP 0 0 0)),(19,(cP 0 0 1)),(20,.c (.map 2)),(21,.c (.imm (.val (.int .u32 item)))),(24,(cB (Option.isSome (mget l5 item)))),(25,(cB (Option.isSome (mget l5 item)))),(46,.c (.imm (.val (.int .u32 item)))),(47,(cI key)),(48,(cP 0 0 0)),(49,(cP 0 0 0)),(50,(cP 0 0 2)),(51,(cI (w64 (time+1)))),(52,.agg [.imm (.val (.int .u32 item)),int key,int (w64 (time+1)),int 0]),(53,(cP (5,[(l6.length:Int).toNat]) 0 0))]) (σ':=[(oE 3 [.own 4 0 l.length,.map 2,int (w64 (time+1))]),.dead,.one (pmap 5 vU l5),.dead,.one (prow 5 l),pool 4 b7 (l6++[(⟨item,key,w64 (time+1),0⟩:b8)])]) (5,[l6.length]) (6,[]) Z Z Z ⟨Z,Z,Z,Z,Z,Z,Z,Z,Z,Z,Z,Z,Z,Z,Z,Z,Z,Z,Z,Z,Z,Z,Z,Z,Z,ptr_adopt,Y⟩ Z ⟨⟨Z,Z⟩,Y,⟨j7 Z,ae4 Z (pmap_adopt hu63) ai0⟩,Y,⟨i7 Z,ae4 Z (prow_adopt hu64) ai0⟩,(w3.adopt Z Z),Y⟩) (.v Z Z (.nil (b5 (.q (.u (.j Z Z (.ai Z Z Z (W.fieldAddr Z Z Z Z (.E Z Z Z Z Z Z (.j Z Z (.j Z Z (S.mapUpdateP (fk:=vU) (k:=item) (a:=(l6.length:Int)) I3 Z Z Z Z Z (.nil (b5 ?_)))))))))))))))))))))))
  obtain⟨a66,ha66,h⟩:=bind_some h
  refine AWP.u (.j Z Z (.ai Z Z Z (W.fieldAddr Z Z Z Z (S.mkIfc Z Z Z (.j Z Z (S.mkIfc Z Z Z (.callF (r2:=.tup []) (σ'':=[(oE 3 [.own 8 0 a66.2.length,.map 2,int (w64 (time+1))]),.dead,.one (pmap 5 vU (mset l5 item (l6.length:Int))),.dead,.dead,pool 4 b7 a66.1,.dead,.dead,.one (prow 5 a66.2)]) Z Z Z (FnOk.lend [0,5,4,2] (X2 ha66) Z Z Z Z Z Z (by exact⟨(.one Z),(.any m9),(.one (i7 Z)),(.one (j7 Z)),Y⟩) Z (by exact⟨(.live Z (.one Z)),(.live Z RenE.pool),(.live Z (.one (i4 fun _=>Z))),(.live Z (.one (m5 fun _=>Z))),Y⟩) Z Z (by exact⟨(.new 0 Z Z (.one Z)),.dead,(.new 3 Z Z (.one (m5 fun _=>Z))),.dead,.dead,(.new 1 Z Z RenE.pool),.dead,.dead,(.new 6 Z Z (.one (i4 fun _=>Z))),Y⟩)) (.nil ?_))))))))
  obtain rfl:=oi h
  exact⟨⟨[],[(oE 3 [.own 4 0 a66.2.length,.map 2,int (w64 (time+1))]),.dead,.one (pmap 5 vU (mset l5 item (l6.length:Int))),.dead,.one (prow 5 a66.2),pool 4 b7 a66.1]⟩,(Sub.move (env':=[]) (σ':=[(oE 3 [.own 4 0 a66.2.length,.map 2,int (w64 (time+1))]),.dead,.one (pmap 5 vU (mset l5 item (l6.length:Int))),.dead,.one (prow 5 a66.2),pool 4 b7 a66.1,.dead,.dead]) 4 8 Z Z Z Y Z ⟨⟨Z,Z⟩,Y,⟨j7 Z,z8 Z N6⟩,Y,⟨i7 Z,z8 Z N5⟩,(w3.pool Z),Y,Y,Y⟩).trans (Sub.cut Y Z ⟨.one Z,.dead,(.one (j7 Z)),.dead,(.one (i7 Z)),(.any m9),Y⟩ Z),Done.normal Z ⟨Z,Z⟩⟩
theorem aw7{l:Li}{start:Int}{goal:Int}{l4:List i8}{r:(List (Int×Int))}(h:T8 l start goal l4=some r):FnOk prog 54 [(cP 0 0 0),.c (row 1 eU32 l)] (S9 l start goal l4) (fun tt ss=>tt=.c (.map 4)∧ss=[(oE 3 (wW start goal 1 l4.length)),(oV 4 d4 l4),.dead,.dead,(oW vU vI r)]):=by
 refine FnOk.enter (rs:=[.t 4]) func54 Z ntmps54 results54 Z ⟨Y,Y⟩ (by kernel_rfl) Z ?_
 refine AWP.weak ?_
 unfold T8 at h
 refine AWP.q (.u (.v Z Z (.nil (b5 (.q (.u (W.makeMapM 2 2 vU i9 Z Z Z (W.alloc Z Z Z Z (W.store Z Z Z Z Z (.nil (b5 (.q (.u (W.makeMap vU vI Z Z Z (.v Z Z (.nil (b5 (.q ?_))))))))))))))))))
 obtain⟨a18,ha18,h⟩:=bind_some h
 refine AWP.u (.callF (r2:=(cP 7 0 0)) (σ'':=[(oE 3 (wW start goal 1 l4.length)),(oV 4 d4 l4),mmap 2 2 vU i9 ([]:List (Int×List x4)),(o1 (.map 2)),(oW vU vI ([]:List (Int×Int))),.one (pmap 6 vU ([]:List (Int×Int))),pool 4 b7 ([]:List b8),(oE 3 [.own 8 0 (([]:Li).length),.map 5,int 0]),.one (prow 6 ([]:Li))]) Z Z Z (FnOk.lend [] (ao0 ha18) Z Z Z Z Z Z (by exact Y) Z (by exact Y) Z Z (by exact⟨(.old Z Z Z),(.old Z Z Z),(.old Z Z Z),(.old Z Z Z),(.old Z Z Z),(.new 0 Z Z (.one (m5 fun _=>Z))),(.new 1 Z Z RenE.pool),(.new 2 Z Z (.one Z)),(.new 3 Z Z (.one (i4 fun _=>Z))),Y⟩)) (.v Z Z (.nil (b5 (.q (.q (.u (.j Z Z (S.len Z Z (fun hl20=>.j Z Z (.nil (b5 (.J ?_)))))))))))))
 obtain⟨⟨c56,c57,c58,c59,c60,c61⟩,ho1,h⟩:=bind_some h
 try dsimp only at h
 refine AWP.forS ho1 (fun t62 (c56,c57,c58,c59,c60,c61)=>⟨[(0,(cP 0 0 0)),(5,(cP 3 0 0)),(6,.c (.map 4)),(7,(cP 7 0 0)),(19,.c (row 1 eU32 l)),(20,(cI (l.length:Int))),(21,(cI t62))],[(oE 3 (wW start goal 1 l4.length)),(oV 4 d4 l4),mmap 2 2 vU i9 c56,(o1 (.map 2)),(oW vU vI c57),.one (pmap 6 vU c58),pool 4 b7 c59,(oE 3 [.own 8 0 c61.length,.map 5,int c60]),.one (prow 6 c61)]⟩) (fun(c56,c57,c58,c59,c60,c61) e st=>e=.exit 0∧Sub (S9 l start goal l4) st ⟨[(5,(cP 3 0 0)),(6,.c (.map 4)),(7,(cP 7 0 0))],[(oE 3 (wW start goal 1 l4.length)),(oV 4 d4 l4),mmap 2 2 vU i9 c56,(o1 (.map 2)),(oW vU vI c57),.one (pmap 6 vU c58),pool 4 b7 c59,(oE 3 [.own 8 0 c61.length,.map 5,int c60]),.one (prow 6 c61)]⟩) ?_ ?_ ?_ ?_
 ·try dsimp only
  exact Sub.env ⟨Z,Z,Z,Z,Z,Z,Z,Y⟩
 ·intro t62 s hlot62 hltt62 _
  obtain⟨c56,c57,c58,c59,c60,c61⟩:=s
  try dsimp only
  refine AWP.q (.u (.F Z Z Z (.nil (b5 (.q (.ae Z hltt62 (.exit (d7 (d7 ⟨Z,?_⟩)))))))))
  exact Sub.env ⟨Z,Z,Z,Y⟩
 ·intro t62 s o hlot62 hltt62 h
  obtain⟨c56,c57,c58,c59,c60,c61⟩:=s
  unfold M3 at h
  try dsimp only at h ⊢
  refine AWP.q (.u (.F Z Z Z (.nil (b5 (.q (.af Z hltt62 (.skip (b5 (.q (.J (.q ?_)))))))))))
  obtain⟨a23,ha23,h⟩:=bind_some h
  refine AWP.u (S.idx ha23 Z Z Z Z (.ag Z Z Z Z (W.alloc Z Z Z Z (W.store Z Z Z Z Z (.nil (b5 (.q (.u (.j Z Z (.E Z Z Z Z Z Z (W.mapUpdate (fk:=vU) (fv:=vI) (k:=a23) (a:=1000000000) I3 Z Z Z Z Z (.nil (b5 ?_)))))))))))))
  obtain⟨⟨c63,c64,c65,c66,c67⟩,hx68,h⟩:=bind_some h
  refine AWP.seqJ (⟨[(0,(cP 0 0 0)),(5,(cP 3 0 0)),(6,.c (.map 4)),(7,(cP 7 0 0)),(9,(cP 9 0 0)),(19,.c (row 1 eU32 l)),(20,(cI (l.length:Int))),(21,(cI t62))],[(oE 3 (wW start goal 1 l4.length)),(oV 4 d4 l4),mmap 2 2 vU i9 c56,(o1 (.map 2)),(oW vU vI c63),.one (pmap 11 vU c64),.dead,(oE 3 [.own 10 0 c66.length,.map 5,int c65]),.dead,(o1 (.imm (.val (.int .u32 a23)))),.one (prow 11 c66),pool 4 b7 c67]⟩) ?_ ?_
  ·refine AWP.q ?_
   obtain⟨a29,ha29,hx68⟩:=bind_some hx68
   refine AWP.u (.j Z Z (.E Z Z Z Z Z Z (.callF (r2:=(cB (decide (Go.bits .and .u32 a23 goal=goal)))) (σ'':=[(oE 3 (wW start goal 1 l4.length)),(oV 4 d4 l4),mmap 2 2 vU i9 c56,(o1 (.map 2)),(oW vU vI (mset c57 a23 1000000000)),.one (pmap 6 vU c58),pool 4 b7 c59,(oE 3 [.own 8 0 c61.length,.map 5,int c60]),.one (prow 6 c61),(o1 (.imm (.val (.int .u32 a23))))]) Z Z Z (FnOk.lend [0,1] (aq2 ha29) Z Z Z Z Z Z (by exact⟨(.one Z),.vec,Y⟩) Z (by exact⟨(.live Z (.one Z)),(.live Z .vec),Y⟩) Z Z (by exact⟨(.new 0 Z Z (.one Z)),(.new 1 Z Z .vec),(.old Z Z Z),(.old Z Z Z),(.old Z Z Z),(.old Z Z Z),(.old Z Z Z),(.old Z Z Z),(.old Z Z Z),(.old Z Z Z),Y⟩)) (.nil (b5 (.ite Z hx68 (fun hc69 hx68=> ?_) (fun hc69 hx68=> ?_)))))))
   ·refine AWP.q (.u (.j Z Z (.E Z Z Z Z Z Z (W.mapUpdate (fk:=vU) (fv:=vI) (k:=a23) (a:=0) I3 Z Z Z Z Z (.nil (b5 ?_))))))
    obtain⟨a34,ha34,hx68⟩:=bind_some hx68
    refine AWP.u (.j Z Z (.E Z Z Z Z Z Z (.callF (r2:=.tup []) (σ'':=[(oE 3 (wW start goal 1 l4.length)),(oV 4 d4 l4),mmap 2 2 vU i9 c56,(o1 (.map 2)),(oW vU vI (mset (mset c57 a23 1000000000) a23 0)),.one (pmap 11 vU a34.1),.dead,(oE 3 [.own 10 0 a34.2.1.length,.map 5,int (w64 (c60+1))]),.dead,(o1 (.imm (.val (.int .u32 a23)))),.one (prow 11 a34.2.1),pool 4 b7 a34.2.2]) Z Z Z (FnOk.lend [7,8,5,6] (af3 ha34) Z Z Z Z Z Z (by exact⟨(.one Z),(.one (i7 Z)),(.one (j7 Z)),(.any m9),Y⟩) Z (by exact⟨(.live Z (.one Z)),(.live Z (.one (i4 fun _=>Z))),(.live Z (.one (m5 fun _=>Z))),(.live Z RenE.pool),Y⟩) Z Z (by exact⟨(.old Z Z Z),(.old Z Z Z),(.old Z Z Z),(.old Z Z Z),(.old Z Z Z),(.new 2 Z Z (.one (m5 fun _=>Z))),.dead,(.new 0 Z Z (.one Z)),.dead,(.old Z Z Z),(.new 4 Z Z (.one (i4 fun _=>Z))),(.new 5 Z Z RenE.pool),Y⟩)) (.nil ?_))))
    obtain⟨ej0,ej1,ej2,ej3,ej4⟩:=o5 hx68
    subst ej0 ej1 ej2 ej3 ej4
    refine b5 (Sub.env ⟨Z,Z,Z,Z,Z,Z,Z,Z,Y⟩)
   ·refine AWP.skip ?_
    obtain⟨ej0,ej1,ej2,ej3,ej4⟩:=o5 hx68
    subst ej0 ej1 ej2 ej3 ej4
    refine b5 ((Sub.move (env':=[(0,(cP 0 0 0)),(5,(cP 3 0 0)),(6,.c (.map 4)),(7,(cP 7 0 0)),(9,(cP 9 0 0)),(19,.c (row 1 eU32 l)),(20,(cI (l.length:Int))),(21,(cI t62))]) (σ':=[(oE 3 (wW start goal 1 l4.length)),(oV 4 d4 l4),mmap 2 2 vU i9 c56,(o1 (.map 2)),(oW vU vI (mset c57 a23 1000000000)),.one (pmap 6 vU c58),pool 4 b7 c59,(oE 3 [.own 10 0 c61.length,.map 5,int c60]),.dead,(o1 (.imm (.val (.int .u32 a23)))),.one (prow 6 c61)]) 10 8 Z Z Z ⟨Z,Z,Z,Z,Z,Z,Z,Z,Y⟩ Z ⟨⟨Z,Z⟩,⟨Blk.im_ok _ _ _,g9 Z⟩,(w3.mmap Z Z Z),⟨Z,Z⟩,⟨Z,Z⟩,⟨j7 Z,z8 Z N6⟩,(w3.pool Z),⟨Z,Z⟩,Y,⟨Z,Z⟩,⟨i7 Z,z8 Z N5⟩,Y⟩).trans ((Sub.moveM (env':=[(0,(cP 0 0 0)),(5,(cP 3 0 0)),(6,.c (.map 4)),(7,(cP 7 0 0)),(9,(cP 9 0 0)),(19,.c (row 1 eU32 l)),(20,(cI (l.length:Int))),(21,(cI t62))]) (σ':=[(oE 3 (wW start goal 1 l4.length)),(oV 4 d4 l4),mmap 2 2 vU i9 c56,(o1 (.map 2)),(oW vU vI (mset c57 a23 1000000000)),.one (pmap 11 vU c58),.dead,(oE 3 [.own 10 0 c61.length,.map 5,int c60]),.dead,(o1 (.imm (.val (.int .u32 a23)))),.one (prow 11 c61),pool 4 b7 c59]) 11 6 Z Z Z ⟨Z,Z,Z,Z,Z,Z,Z,Z,Y⟩ Z ⟨(.one Z Z),(.vec Z),(EntR.mmap Z Z Z),(.one Z Z),(.one Z Z),(.one (j7 Z) (H2 Z Z (m5 fun _=>Z))),.dead,(.one Z Z),.dead,(.one Z Z),(.one (i7 Z) (H2 Z Z (i4 fun _=>Z))),(EntR.pool Z Z),Y⟩).trans (Sub.env ⟨Z,Z,Z,Z,Z,Z,Z,Z,Y⟩)))
  ·try dsimp only at h
   refine AWP.q ?_
   obtain⟨a37,ha37,h⟩:=bind_some h
   refine AWP.u (.j Z Z (.E Z Z Z Z Z Z (.callF (r2:=.c (.fn 95 [.ptr 12 0 0,.ptr 13 0 0])) (σ'':=[(oE 3 (wW start goal 1 l4.length)),(oV 4 d4 l4),mmap 2 2 vU i9 c56,(o1 (.map 2)),(oW vU vI c63),.one (pmap 11 vU c64),.dead,(oE 3 [.own 10 0 c66.length,.map 5,int c65]),.dead,(o1 (.imm (.val (.int .u32 a23)))),.one (prow 11 c66),pool 4 b7 c67,(o1 (.ptr 0 0 0)),(o1 (.imm (.val (.int .u32 a23))))]) Z Z Z (FnOk.lend [0,1] (aa8 ha37) Z Z Z Z Z Z (by exact⟨(.one Z),.vec,Y⟩) Z (by exact⟨(.live Z (.one Z)),(.live Z .vec),Y⟩) Z Z (by exact⟨(.new 0 Z Z (.one Z)),(.new 1 Z Z .vec),(.old Z Z Z),(.old Z Z Z),(.old Z Z Z),(.old Z Z Z),.dead,(.old Z Z Z),.dead,(.old Z Z Z),(.old Z Z Z),(.old Z Z Z),(.new 2 Z Z (.one Z)),(.new 3 Z Z (.one Z)),Y⟩)) (.nil (b5 (.J ?_))))))
   obtain⟨c71,hr70,h⟩:=bind_some h
   refine AWP.rangeB [(5,none),(9,none)] Z Z Z (fun as70 bo70 hA70 hB70=>⟨[(oE 3 (wW start goal 1 l4.length)),(oV 4 d4 l4),mmap 2 2 vU i9 c56,(o1 (.map 2)),(oW vU vI c63),.one (pmap 11 vU c64),.dead,(oE 3 [.own 10 0 c66.length,.map 5,int c65]),.dead,(o1 (.imm (.val (.int .u32 a23)))),.one (prow 11 c66),pool 4 b7 c67,(o1 (.ptr 0 0 0)),(o1 (.imm (.val (.int .u32 a23)))),.one (k7 96 [38] as70 bo70 .ready none [(5,none),(9,none)] [.ptr 3 0 0,.ptr 9 0 0])],fun tt ss=>tt=.tup []∧ss=[(oE 3 (wW start goal 1 l4.length)),(oV 4 d4 l4),.dead,(o1 (.map 15)),(oW vU vI c63),.one (pmap 11 vU c64),.dead,(oE 3 [.own 10 0 c66.length,.map 5,int c65]),.dead,(o1 (.imm (.val (.int .u32 a23)))),.one (prow 11 c66),pool 4 b7 c67,(o1 (.ptr 0 0 0)),(o1 (.imm (.val (.int .u32 a23)))),.one (k7 96 [38] as70 bo70 .ready none [(5,none),(9,none)] [.ptr 3 0 0,.ptr 9 0 0]),mmap 15 2 vU i9 c71],Z,?_,?_⟩)
   ·refine FnOk.enter (rs:=[]) func95 Z ntmps95 results95 Z Y (by kernel_rfl) Z ?_
    refine AWP.weak ?_
    unfold T0 at hr70
    try dsimp only at hr70
    refine AWP.moveM (env':=[(0,.c (.yld 14)),(1,(cP 12 0 0)),(2,(cP 13 0 0))]) (σ':=[(oE 3 (wW start goal 1 l4.length)),(oV 4 d4 l4),.dead,(o1 (.map 15)),(oW vU vI c63),.one (pmap 11 vU c64),.dead,(oE 3 [.own 10 0 c66.length,.map 5,int c65]),.dead,(o1 (.imm (.val (.int .u32 a23)))),.one (prow 11 c66),pool 4 b7 c67,(o1 (.ptr 0 0 0)),(o1 (.imm (.val (.int .u32 a23)))),.one (k7 96 [38] as70 bo70 .ready none [(5,none),(9,none)] [.ptr 3 0 0,.ptr 9 0 0]),mmap 15 2 vU i9 c56]) 15 2 Z Z Z ⟨Z,Z,Z,Y⟩ Z ⟨(.one Z Z),(.vec Z),.dead,(.one Z Z),(.one Z Z),(.one (j7 Z) (H2 Z Z (m5 fun _=>Z))),.dead,(.one Z Z),.dead,(.one Z Z),(.one (i7 Z) (H2 Z Z (i4 fun _=>Z))),(EntR.pool Z Z),(.one Z Z),(.one Z Z),(.one Z Z),(EntR.mmap Z Z Z),Y⟩ ?_
    refine AWP.q (.u (.E Z Z Z Z Z Z (.ai Z Z Z (W.fieldAddr Z Z Z Z (.E Z Z Z Z Z Z (S.lenO Z Z Z (fun hl10=>.j Z Z (.nil (b5 (.J ?_))))))))))
    obtain⟨c72,ho2,hr70⟩:=bind_some hr70
    refine AWP.forS ho2 (fun t73 c72=>⟨[(0,.c (.yld 14)),(2,(cP 13 0 0)),(9,.c (.own 1 0 l4.length)),(10,(cI (l4.length:Int))),(11,(cI t73))],[(oE 3 (wW start goal 1 l4.length)),(oV 4 d4 l4),.dead,(o1 (.map 15)),(oW vU vI c63),.one (pmap 11 vU c64),.dead,(oE 3 [.own 10 0 c66.length,.map 5,int c65]),.dead,(o1 (.imm (.val (.int .u32 a23)))),.one (prow 11 c66),pool 4 b7 c67,(o1 (.ptr 0 0 0)),(o1 (.imm (.val (.int .u32 a23)))),.one (k7 96 [38] as70 bo70 .ready none [(5,none),(9,none)] [.ptr 3 0 0,.ptr 9 0 0]),mmap 15 2 vU i9 c72]⟩) (fun c72 e st=>e=.exit 0∧Sub ([(oE 3 (wW start goal 1 l4.length)),(oV 4 d4 l4),mmap 2 2 vU i9 c56,(o1 (.map 2)),(oW vU vI c63),.one (pmap 11 vU c64),.dead,(oE 3 [.own 10 0 c66.length,.map 5,int c65]),.dead,(o1 (.imm (.val (.int .u32 a23)))),.one (prow 11 c66),pool 4 b7 c67,(o1 (.ptr 0 0 0)),(o1 (.imm (.val (.int .u32 a23)))),.one (k7 96 [38] as70 bo70 .ready none [(5,none),(9,none)] [.ptr 3 0 0,.ptr 9 0 0])]:b6) st ⟨[],[(oE 3 (wW start goal 1 l4.length)),(oV 4 d4 l4),.dead,(o1 (.map 15)),(oW vU vI c63),.one (pmap 11 vU c64),.dead,(oE 3 [.own 10 0 c66.length,.map 5,int c65]),.dead,(o1 (.imm (.val (.int .u32 a23)))),.one (prow 11 c66),pool 4 b7 c67,(o1 (.ptr 0 0 0)),(o1 (.imm (.val (.int .u32 a23)))),.one (k7 96 [38] as70 bo70 .ready none [(5,none),(9,none)] [.ptr 3 0 0,.ptr 9 0 0]),mmap 15 2 vU i9 c72]⟩) ?_ ?_ ?_ ?_
    ·try dsimp only
     exact Sub.env ⟨Z,Z,Z,Z,Z,Y⟩
    ·intro t73 c72 hlot73 hltt73 _
     try dsimp only
     refine AWP.q (.u (.F Z Z Z (.nil (b5 (.q (.ae Z hltt73 (.exit (d7 (d7 ⟨Z,?_⟩)))))))))
     exact Sub.env Y
    ·intro t73 c72 o hlot73 hltt73 h
     unfold T1 at h
     try dsimp only at h ⊢
     refine AWP.q (.u (.F Z Z Z (.nil (b5 (.q (.af Z hltt73 (.skip (b5 (.q (.J (.q ?_)))))))))))
     obtain⟨ai14,hai14,h⟩:=bind_some h
     refine AWP.u (.j Z Z (S.idxO hai14 Z Z Z Z Z (S.loadOAgg hai14 Z Z Z Z Z Z Z (W.alloc Z Z Z Z (.v Z Z (W.storeAgg Z Z Z Z Z Z Z (.nil (b5 (.q ?_)))))))))
     rcases bft (decide (Go.bits .and .u32 a23 ai14.pre=ai14.pre)) with hb74|hb74
     ·replace h:=P1 hb74 h
      refine AWP.u (.E Z Z Z Z Z Z (W.fieldAddr Z Z Z Z (.E Z Z Z Z Z Z (.bits Z Z Z (by simp) (W.fieldAddr Z Z Z Z (.E Z Z Z Z Z Z (.ad Z Z Z (.j Z Z (.z Z Z Z hb74 (.j Z Z (.z Z Z Z hb74 (.j Z Z (.z Z Z Z hb74 (W.fieldAddr Z Z Z Z (.z Z Z Z hb74 (.E Z Z Z Z Z Z (.z Z Z Z hb74 (.E Z Z Z Z Z Z (.z Z Z Z hb74 (W.fieldAddr Z Z Z Z (.z Z Z Z hb74 (.E Z Z Z Z Z Z (.z Z Z Z hb74 (.bits Z Z Z (by simp) (.z Z Z Z hb74 (W.fieldAddr Z Z Z Z (.z Z Z Z hb74 (.E Z Z Z Z Z Z (.z Z Z Z hb74 (.bits Z Z Z (by simp) (.z Z Z Z hb74 (W.build Z Z Z Z ?_))))))))))))))))))))))))))))))))
      refine AOps.z Z Z Z hb74 ?_;refine AOps.yieldB (E1:=[(10,(cP 17 0 0)),(38,.agg [int t73,int ai14.cost,.imm (.val (.int .u32 (Go.bits .or .u32 (Go.bits .andNot .u32 a23 ai14.del) ai14.add)))]),(5,(cP 3 0 0)),(9,(cP 9 0 0))]) (σ1:=[(oE 3 (wW start goal 1 l4.length)),(oV 4 d4 l4),.dead,(o1 (.map 15)),(oW vU vI c63),.one (pmap 11 vU c64),.dead,(oE 3 [.own 10 0 c66.length,.map 5,int c65]),.dead,(o1 (.imm (.val (.int .u32 a23)))),.one (prow 11 c66),pool 4 b7 c67,(o1 (.ptr 0 0 0)),(o1 (.imm (.val (.int .u32 a23)))),.one (k7 96 [38] as70 bo70 .ready none [(5,none),(9,none)] [.ptr 3 0 0,.ptr 9 0 0]),mmap 15 2 vU i9 c72,(oE 4 [.imm (.val (.int .u32 ai14.pre)),.imm (.val (.int .u32 ai14.add)),.imm (.val (.int .u32 ai14.del)),int ai14.cost]),(oE 3 [int t73,int ai14.cost,.imm (.val (.int .u32 (Go.bits .or .u32 (Go.bits .andNot .u32 a23 ai14.del) ai14.add)))])]) hA70 hB70 Z Z Z Z Z Z Z Z Z Z ?_ ?_
      ·refine AWP.u (W.alloc Z Z Z Z (W.storeAgg Z Z Z Z Z Z Z (.nil ?_)))
       exact⟨Z,Z⟩
      refine AWP.sub (s':=⟨[(5,(cP 3 0 0)),(9,(cP 9 0 0)),(10,(cP 17 0 0))],[(oE 3 (wW start goal 1 l4.length)),(oV 4 d4 l4),.dead,(o1 (.map 15)),(oW vU vI c63),.one (pmap 11 vU c64),.dead,(oE 3 [.own 10 0 c66.length,.map 5,int c65]),.dead,(o1 (.imm (.val (.int .u32 a23)))),.one (prow 11 c66),pool 4 b7 c67,(o1 (.ptr 0 0 0)),(o1 (.imm (.val (.int .u32 a23)))),.one (k7 96 [38] as70 bo70 .busy none [(5,none),(9,none)] [.ptr 3 0 0,.ptr 9 0 0]),mmap 15 2 vU i9 c72,(oE 4 [.imm (.val (.int .u32 ai14.pre)),.imm (.val (.int .u32 ai14.add)),.imm (.val (.int .u32 ai14.del)),int ai14.cost]),(oE 3 [int t73,int ai14.cost,.imm (.val (.int .u32 (Go.bits .or .u32 (Go.bits .andNot .u32 a23 ai14.del) ai14.add)))])]⟩) (Sub.env ⟨Z,Z,Z,Y⟩) (.J ?_)
      obtain⟨ab51,hab51,h⟩:=bind_some h
      refine AWP.drawEI [11,12,13] mixed Z Z Z ?_
      refine d5.consN Z Z (fun E=>.E Z Z Z Z Z Z .N) Z (.consN Z Z (fun E=>W.fieldAddr Z Z Z Z .N) Z (.consN Z Z (fun E=>.E Z Z Z Z Z Z .N) Z (.consN Z Z (fun E=>.E Z Z Z Z Z Z .N) Z (.consN Z Z (fun E=>W.fieldAddr Z Z Z Z .N) Z (.consN Z Z (fun E=>.E Z Z Z Z Z Z .N) Z (.consN Z Z (fun E=>S.lookupM (fk:=vU) (key:=Go.bits .or .u32 (Go.bits .andNot .u32 a23 ai14.del) ai14.add) I3 Z Z Z Z Z .N) Z (.consN Z Z (fun E=>.E Z Z Z Z Z Z .N) Z (.consN Z Z (fun E=>W.fieldAddr Z Z Z Z .N) Z (.consN Z Z (fun E=>.E Z Z Z Z Z Z .N) Z (.consN Z Z (fun E=>W.build Z Z Z Z .N) Z ?_))))))))))
      apply d5.consE;exact Z;exact Z;intro E
      refine S.lit (f:=i9) (l:=[(⟨a23,ai14.cost⟩:x4)]) (ess:=[[.imm (.val (.int .u32 a23)),int ai14.cost]]) Z Z Z Z Z Z Z ⟨⟨.inl Z,.inl Z,Y⟩,Y⟩ Z Z Z .N
      exact Z
      exact Z
      apply d5.consE;exact Z;exact Z;intro E
      refine S.appendMM (f:=i9) hab51 Z Z Z Z Z (.own Z Z) Z Z Z Z .N
      exact Z
      exact Z
      apply d5.consE (v:=.undef);exact Z;exact Z;intro E
      refine S.updateMM (fk:=vU) (key:=Go.bits .or .u32 (Go.bits .andNot .u32 a23 ai14.del) ai14.add) I3 Z Z Z Z Z .N
      exact Z
      exact Z
      refine d5.done Z ?_ ?_
      ·refine e8.cons Z Z (.go Z Z (fun E=>.E Z Z Z Z Z Z .N) (.go Z Z (fun E=>.E Z Z Z Z Z Z .N) (.go Z Z (fun E=>.E Z Z Z Z Z Z .N) (.skip Z .nil)))) (.cons Z Z (.go Z Z (fun E=>W.fieldAddr Z Z Z Z .N) (.go Z Z (fun E=>W.fieldAddr Z Z Z Z .N) (.go Z Z (fun E=>W.fieldAddr Z Z Z Z .N) (.skip Z .nil)))) (.cons Z Z (.go Z Z (fun E=>.E Z Z Z Z Z Z .N) (.go Z Z (fun E=>.E Z Z Z Z Z Z .N) (.go Z Z (fun E=>.E Z Z Z Z Z Z .N) (.skip Z .nil)))) (.cons Z Z (.go Z Z (fun E=>.E Z Z Z Z Z Z .N) (.go Z Z (fun E=>.E Z Z Z Z Z Z .N) (.skip Z (.skip Z .nil)))) (.cons Z Z (.go Z Z (fun E=>W.fieldAddr Z Z Z Z .N) (.go Z Z (fun E=>W.fieldAddr Z Z Z Z .N) (.skip Z (.skip Z .nil)))) (.cons Z Z (.go Z Z (fun E=>.E Z Z Z Z Z Z .N) (.go Z Z (fun E=>.E Z Z Z Z Z Z .N) (.skip Z (.skip Z .nil)))) (.cons Z Z (.go Z Z (fun E=>S.lookupM (fk:=vU) (key:=Go.bits .or .u32 (Go.bits .andNot .u32 a23 ai14.del) ai14.add) I3 Z Z Z Z Z .N) (.go Z Z (fun E=>S.lookupM (fk:=vU) (key:=Go.bits .or .u32 (Go.bits .andNot .u32 a23 ai14.del) ai14.add) I3 Z Z Z Z Z .N) (.skip Z (.skip Z .nil)))) (.cons Z Z (.go Z Z (fun E=>.E Z Z Z Z Z Z .N) (.skip Z (.skip Z (.skip Z .nil)))) (.cons Z Z (.go Z Z (fun E=>W.fieldAddr Z Z Z Z .N) (.skip Z (.skip Z (.skip Z .nil)))) (.cons Z Z (.go Z Z (fun E=>.E Z Z Z Z Z Z .N) (.skip Z (.skip Z (.skip Z .nil)))) (.cons Z Z (.go Z Z (fun E=>W.build Z Z Z Z .N) (.skip Z (.skip Z (.skip Z .nil)))) ?_))))))))))
       refine e8.skip Z (e8.skip Z (e8.skip Z (e8.nil)))
      dsimp only[j6]
      refine d6 (O2 Z Z (.z Z Z Z hb74 (.not Z Z (.U Z hb74 Z Z (.nil (b5 (.j (env':=[(0,.c (.yld 14)),(2,(cP 13 0 0)),(9,.c (.own 1 0 l4.length)),(10,(cI (l4.length:Int))),(11,(cI t73)),(38,(cB false))]) (σ':=[(oE 3 (wW start goal 1 l4.length)),(oV 4 d4 l4),.dead,(o1 (.map 15)),(oW vU vI c63),.one (pmap 11 vU c64),.dead,(oE 3 [.own 10 0 c66.length,.map 5,int c65]),.dead,(o1 (.imm (.val (.int .u32 a23)))),.one (prow 11 c66),pool 4 b7 c67,(o1 (.ptr 0 0 0)),(o1 (.imm (.val (.int .u32 a23)))),.one (k7 96 [38] as70 bo70 .ready none [(5,none),(9,none)] [.ptr 3 0 0,.ptr 9 0 0]),mmap 15 2 vU i9 (mset c72 (Go.bits .or .u32 (Go.bits .andNot .u32 a23 ai14.del) ai14.add) ab51),(oE 4 [.imm (.val (.int .u32 ai14.pre)),.imm (.val (.int .u32 ai14.add)),.imm (.val (.int .u32 ai14.del)),int ai14.cost]),(oE 3 [int t73,int ai14.cost,.imm (.val (.int .u32 (Go.bits .or .u32 (Go.bits .andNot .u32 a23 ai14.del) ai14.add)))]),(oV 2 i9 [(⟨a23,ai14.cost⟩:x4)])]) (15,[posM c72 (Go.bits .or .u32 (Go.bits .andNot .u32 a23 ai14.del) ai14.add)]) (19,[]) Z Z Z ⟨Z,Z,Z,Z,Z,Z,Y⟩ Z ⟨⟨Z,Z⟩,⟨Blk.im_ok _ _ _,g9 Z⟩,Y,⟨Z,Z⟩,⟨Z,Z⟩,⟨j7 Z,ae4 Z (pmap_mvR Z) ai0⟩,Y,⟨Z,Z⟩,Y,⟨Z,Z⟩,⟨i7 Z,ae4 Z (prow_mvR Z) ai0⟩,(w3.poolR Z Z),⟨Z,Z⟩,⟨Z,Z⟩,⟨Z,Z⟩,(w3.putMM Z Z Z Z),⟨Z,Z⟩,⟨Z,Z⟩,⟨Blk.im_ok _ _ _,g9 Z⟩,Y⟩ (.condF Z (.skip (d6 (b5 (.u (.add Z Z Z (by omega) (.j Z Z (.nil ?_)))))))))))))))
      obtain rfl:=oi h
      refine b5 (Sub.cut ⟨Z,Z,Z,Z,Z,Y⟩ Z ⟨.one Z,.vec,.dead,.one Z,.one Z,(.one (j7 Z)),.dead,.one Z,.dead,.one Z,(.one (i7 Z)),(.any m9),.one Z,.one Z,.one Z,(.any (mm_ok Z)),Y⟩ Z)
     ·replace h:=P3 hb74 h
      refine AWP.u (.E Z Z Z Z Z Z (W.fieldAddr Z Z Z Z (.E Z Z Z Z Z Z (.bits Z Z Z (by simp) (W.fieldAddr Z Z Z Z (.E Z Z Z Z Z Z (.ad Z Z Z (.j Z Z (.B Z Z Z hb74 (.B Z Z Z hb74 (.B Z Z Z hb74 (.B Z Z Z hb74 (.B Z Z Z hb74 (.B Z Z Z hb74 (.B Z Z Z hb74 (.B Z Z Z hb74 (.B Z Z Z hb74 (.B Z Z Z hb74 (.B Z Z Z hb74 (.B Z Z Z hb74 (.B Z Z Z hb74 (.B Z Z Z hb74 (.aa Z hb74 Z Z (.nil (b5 (.condF Z (.skip (d6 (b5 (.u (.add Z Z Z (by omega) (.j Z Z (.nil ?_)))))))))))))))))))))))))))))))))
      obtain rfl:=oi h
      refine b5 (Sub.cut ⟨Z,Z,Z,Z,Z,Y⟩ Z ⟨.one Z,.vec,.dead,.one Z,.one Z,(.one (j7 Z)),.dead,.one Z,.dead,.one Z,(.one (i7 Z)),(.any m9),.one Z,.one Z,.one Z,(.any (mm_ok Z)),Y⟩ Z)
    ·intro e s hq
     obtain⟨rfl,hs⟩:=hq
     refine⟨_,hs,?_⟩
     refine i6 ?_
     obtain rfl:=oi hr70
     exact⟨⟨[],[(oE 3 (wW start goal 1 l4.length)),(oV 4 d4 l4),.dead,(o1 (.map 15)),(oW vU vI c63),.one (pmap 11 vU c64),.dead,(oE 3 [.own 10 0 c66.length,.map 5,int c65]),.dead,(o1 (.imm (.val (.int .u32 a23)))),.one (prow 11 c66),pool 4 b7 c67,(o1 (.ptr 0 0 0)),(o1 (.imm (.val (.int .u32 a23)))),.one (k7 96 [38] as70 bo70 .ready none [(5,none),(9,none)] [.ptr 3 0 0,.ptr 9 0 0]),mmap 15 2 vU i9 c72]⟩,Sub.env Y,Done.normal Z ⟨Z,Z⟩⟩
   ·rintro tt ss ⟨rfl,rfl⟩
    try dsimp only at h ⊢
    refine ah2 Z Z (d6 (d6 (b5 (.u (.add Z Z Z (by omega) (.j Z Z (.nil ?_)))))))
    obtain rfl:=oi h
    refine b5 ((Sub.moveM (env':=[(0,(cP 0 0 0)),(5,(cP 3 0 0)),(6,.c (.map 4)),(7,(cP 7 0 0)),(19,.c (row 1 eU32 l)),(20,(cI (l.length:Int))),(21,(cI (t62+1)))]) (σ':=[(oE 3 (wW start goal 1 l4.length)),(oV 4 d4 l4),mmap 2 2 vU i9 c71,(o1 (.map 2)),(oW vU vI c63),.one (pmap 11 vU c64),.dead,(oE 3 [.own 10 0 c66.length,.map 5,int c65]),.dead,(o1 (.imm (.val (.int .u32 a23)))),.one (prow 11 c66),pool 4 b7 c67,(o1 (.ptr 0 0 0)),(o1 (.imm (.val (.int .u32 a23)))),.dead]) 2 15 Z Z Z ⟨Z,Z,Z,Z,Z,Z,Z,Y⟩ Z ⟨(.one Z Z),(.vec Z),(EntR.mmap Z Z Z),(.one Z Z),(.one Z Z),(.one (j7 Z) (H2 Z Z (m5 fun _=>Z))),.dead,(.one Z Z),.dead,(.one Z Z),(.one (i7 Z) (H2 Z Z (i4 fun _=>Z))),(EntR.pool Z Z),(.one Z Z),(.one Z Z),.dead,Y⟩).trans ((Sub.move (env':=[(0,(cP 0 0 0)),(5,(cP 3 0 0)),(6,.c (.map 4)),(7,(cP 7 0 0)),(19,.c (row 1 eU32 l)),(20,(cI (l.length:Int))),(21,(cI (t62+1)))]) (σ':=[(oE 3 (wW start goal 1 l4.length)),(oV 4 d4 l4),mmap 2 2 vU i9 c71,(o1 (.map 2)),(oW vU vI c63),.one (pmap 11 vU c64),.dead,(oE 3 [.own 8 0 c66.length,.map 5,int c65]),.one (prow 11 c66),(o1 (.imm (.val (.int .u32 a23)))),.dead,pool 4 b7 c67,(o1 (.ptr 0 0 0)),(o1 (.imm (.val (.int .u32 a23)))),.dead]) 8 10 Z Z Z ⟨Z,Z,Z,Z,Z,Z,Z,Y⟩ Z ⟨⟨Z,Z⟩,⟨Blk.im_ok _ _ _,g9 Z⟩,(w3.mmap Z Z Z),⟨Z,Z⟩,⟨Z,Z⟩,⟨j7 Z,z8 Z N6⟩,Y,⟨Z,Z⟩,⟨i7 Z,z8 Z N5⟩,⟨Z,Z⟩,Y,(w3.pool Z),⟨Z,Z⟩,⟨Z,Z⟩,Y,Y⟩).trans ((Sub.moveM (env':=[(0,(cP 0 0 0)),(5,(cP 3 0 0)),(6,.c (.map 4)),(7,(cP 7 0 0)),(19,.c (row 1 eU32 l)),(20,(cI (l.length:Int))),(21,(cI (t62+1)))]) (σ':=[(oE 3 (wW start goal 1 l4.length)),(oV 4 d4 l4),mmap 2 2 vU i9 c71,(o1 (.map 2)),(oW vU vI c63),.one (pmap 6 vU c64),pool 4 b7 c67,(oE 3 [.own 8 0 c66.length,.map 5,int c65]),.one (prow 6 c66),(o1 (.imm (.val (.int .u32 a23)))),.dead,.dead,(o1 (.ptr 0 0 0)),(o1 (.imm (.val (.int .u32 a23)))),.dead]) 6 11 Z Z Z ⟨Z,Z,Z,Z,Z,Z,Z,Y⟩ Z ⟨(.one Z Z),(.vec Z),(EntR.mmap Z Z Z),(.one Z Z),(.one Z Z),(.one (j7 Z) (H2 Z Z (m5 fun _=>Z))),(EntR.pool Z Z),(.one Z Z),(.one (i7 Z) (H2 Z Z (i4 fun _=>Z))),(.one Z Z),.dead,.dead,(.one Z Z),(.one Z Z),.dead,Y⟩).trans (Sub.cut ⟨Z,Z,Z,Z,Z,Z,Z,Y⟩ Z ⟨.one Z,.vec,(.any (mm_ok Z)),.one Z,.one Z,(.one (j7 Z)),(.any m9),.one Z,(.one (i7 Z)),Y⟩ Z))))
 ·intro e s hq
  obtain⟨rfl,hs⟩:=hq
  refine⟨_,hs,?_⟩
  refine i6 (b5 (.q (.J ?_)))
  obtain⟨c80,ho4,h⟩:=bind_some h
  refine AWP.loopS ho4 (fun(c75,c76,c77,c78,c79)=>⟨[(5,(cP 3 0 0)),(6,.c (.map 4)),(7,(cP 7 0 0))],[(oE 3 (wW start goal 1 l4.length)),(oV 4 d4 l4),mmap 2 2 vU i9 c56,(o1 (.map 2)),(oW vU vI c75),.one (pmap 6 vU c76),pool 4 b7 c77,(oE 3 [.own 8 0 c79.length,.map 5,int c78]),.one (prow 6 c79)]⟩) (fun c80 e st=>e=.exit 4∧Sub (S9 l start goal l4) st ⟨[(6,.c (.map 4))],[(oE 3 (wW start goal 1 l4.length)),(oV 4 d4 l4),.dead,.dead,(oW vU vI c80)]⟩) ?_ ?_ ?_
  ·try dsimp only
   exact Sub.env ⟨Z,Z,Z,Y⟩
  ·intro s o h
   obtain⟨c75,c76,c77,c78,c79⟩:=s
   unfold M1 at h
   try dsimp only at h ⊢
   refine AWP.q (.q ?_)
   obtain⟨a54,ha54,h⟩:=bind_some h
   refine AWP.u (.j Z Z (.callF (r2:=(cI (c79.length:Int))) (σ'':=[(oE 3 (wW start goal 1 l4.length)),(oV 4 d4 l4),mmap 2 2 vU i9 c56,(o1 (.map 2)),(oW vU vI c75),.one (pmap 6 vU c76),pool 4 b7 c77,(oE 3 [.own 8 0 c79.length,.map 5,int c78]),.one (prow 6 c79)]) Z Z Z (FnOk.lend [7,8,5,6] (ah5 ha54) Z Z Z Z Z Z (by exact⟨(.one Z),(.one (i7 Z)),(.one (j7 Z)),(.any m9),Y⟩) Z (by exact⟨(.live Z (.one Z)),(.live Z (.one (i4 fun _=>Z))),(.live Z (.one (m5 fun _=>Z))),(.live Z RenE.pool),Y⟩) Z Z (by exact⟨(.old Z Z Z),(.old Z Z Z),(.old Z Z Z),(.old Z Z Z),(.old Z Z Z),(.new 2 Z Z (.one (m5 fun _=>Z))),(.new 3 Z Z RenE.pool),(.new 0 Z Z (.one Z)),(.new 1 Z Z (.one (i4 fun _=>Z))),Y⟩)) (.gtr Z Z Z (.nil (b5 (.ite Z h (fun hc81 h=> ?_) (fun hc81 h=> ?_)))))))
   ·refine AWP.skip (b5 (.J (.q ?_)))
    obtain⟨a58,ha58,h⟩:=bind_some h
    refine AWP.u (.j Z Z (.callF (r2:=.tup [.c (.imm (.val (.int .u32 a58.2.2.2.1))),(cI a58.2.2.2.2.1),(cB a58.2.2.2.2.2)]) (σ'':=[(oE 3 (wW start goal 1 l4.length)),(oV 4 d4 l4),mmap 2 2 vU i9 c56,(o1 (.map 2)),(oW vU vI c75),.one (pmap 6 vU a58.1),pool 4 b7 a58.2.1,(oE 3 [.own 9 0 a58.2.2.1.length,.map 5,int c78]),.dead,.one (prow 6 a58.2.2.1)]) Z Z Z (FnOk.lend [7,8,5,6] (ac6 ha58) Z Z Z Z Z Z (by exact⟨(.one Z),(.one (i7 Z)),(.one (j7 Z)),(.any m9),Y⟩) Z (by exact⟨(.live Z (.one Z)),(.live Z (.one (i4 fun _=>Z))),(.live Z (.one (m5 fun _=>Z))),(.live Z RenE.pool),Y⟩) Z Z (by exact⟨(.old Z Z Z),(.old Z Z Z),(.old Z Z Z),(.old Z Z Z),(.old Z Z Z),(.new 2 Z Z (.one (m5 fun _=>Z))),(.new 3 Z Z RenE.pool),(.new 0 Z Z (.one Z)),.dead,(.new 4 Z Z (.one (i4 fun _=>Z))),Y⟩)) (.j Z Z (.ab Z Z Z (.ab Z Z Z (.ab Z Z Z (.v Z Z (.v Z Z (.v Z Z (.nil (b5 (.q (.u (.E Z Z Z Z Z Z (.j Z Z (S.lookupM (fk:=vU) (key:=a58.2.2.2.1) I3 Z Z Z Z Z (S.lenMM Z Z Z (fun hl65=>.j Z Z (.nil (b5 (.J ?_)))))))))))))))))))))
    obtain⟨⟨c82,c83,c84,c85,c86⟩,ho5,h⟩:=bind_some h
    try dsimp only at h
    refine AWP.forS ho5 (fun t87 (c82,c83,c84,c85,c86)=>⟨[(5,(cP 3 0 0)),(6,.c (.map 4)),(7,(cP 7 0 0)),(12,(cI a58.2.2.2.2.1)),(64,.c (rowC 2 c56 a58.2.2.2.1)),(65,(cI ((rowM c56 a58.2.2.2.1).length:Int))),(66,(cI t87))],[(oE 3 (wW start goal 1 l4.length)),(oV 4 d4 l4),mmap 2 2 vU i9 c56,(o1 (.map 2)),(oW vU vI c82),.one (pmap 6 vU c83),pool 4 b7 c84,(oE 3 [.own 9 0 c86.length,.map 5,int c85]),.dead,.one (prow 6 c86)]⟩) (fun(c82,c83,c84,c85,c86) e st=>e=.exit 6∧Sub (S9 l start goal l4) st ⟨[(5,(cP 3 0 0)),(6,.c (.map 4)),(7,(cP 7 0 0))],[(oE 3 (wW start goal 1 l4.length)),(oV 4 d4 l4),mmap 2 2 vU i9 c56,(o1 (.map 2)),(oW vU vI c82),.one (pmap 6 vU c83),pool 4 b7 c84,(oE 3 [.own 9 0 c86.length,.map 5,int c85]),.dead,.one (prow 6 c86)]⟩) ?_ ?_ ?_ ?_
    ·try dsimp only
     exact Sub.env ⟨Z,Z,Z,Z,Z,Z,Z,Y⟩
    ·intro t87 s hlot87 hltt87 _
     obtain⟨c82,c83,c84,c85,c86⟩:=s
     try dsimp only
     refine AWP.q (.u (.F Z Z Z (.nil (b5 (.q (.ae Z hltt87 (.exit (d7 (d7 ⟨Z,?_⟩)))))))))
     exact Sub.env ⟨Z,Z,Z,Y⟩
    ·intro t87 s o hlot87 hltt87 h
     obtain⟨c82,c83,c84,c85,c86⟩:=s
     unfold M4 at h
     try dsimp only at h ⊢
     refine AWP.q (.u (.F Z Z Z (.nil (b5 (.q (.af Z hltt87 (.skip (b5 ?_))))))))
     obtain⟨⟨c88,c89,c90,c91,c92⟩,hx93,h⟩:=bind_some h
     refine AWP.seqJ (⟨[(5,(cP 3 0 0)),(6,.c (.map 4)),(7,(cP 7 0 0)),(12,(cI a58.2.2.2.2.1)),(64,.c (rowC 2 c56 a58.2.2.2.1)),(65,(cI ((rowM c56 a58.2.2.2.1).length:Int))),(66,(cI t87))],[(oE 3 (wW start goal 1 l4.length)),(oV 4 d4 l4),mmap 2 2 vU i9 c56,(o1 (.map 2)),(oW vU vI c88),.one (pmap 12 vU c89),.dead,(oE 3 [.own 11 0 c91.length,.map 5,int c90]),.dead,.dead,.dead,.one (prow 12 c91),pool 4 b7 c92]⟩) ?_ ?_
     ·refine AWP.J (.q ?_)
      obtain⟨a68,ha68,hx93⟩:=bind_some hx93
      refine AWP.u (S.idxMM ha68 Z Z Z Z (S.loadOAgg ha68 Z Z (mm_get Z ha68) Z Z Z Z (W.alloc Z Z Z Z (W.storeAgg Z Z Z Z Z Z Z (.nil (b5 (.q (.u (.j Z Z (W.fieldAddr Z Z Z Z (.E Z Z Z Z Z Z (S.add Z Z Z (.j Z Z (W.fieldAddr Z Z Z Z (.E Z Z Z Z Z Z (W.lookup (fk:=vU) (fv:=vI) (k:=a68.ffrom) (z:=0) I3 Z (fun _=>Z) Z Z Z Z ?_))))))))))))))))
      refine AOps.F Z Z Z (.nil (b5 (.ite Z hx93 (fun hc94 hx93=> ?_) (fun hc94 hx93=> ?_))))
      ·refine AWP.q (.u (.j Z Z (W.fieldAddr Z Z Z Z (.E Z Z Z Z Z Z (.j Z Z (W.fieldAddr Z Z Z Z (.E Z Z Z Z Z Z (S.add Z Z Z (W.mapUpdate (fk:=vU) (fv:=vI) (k:=a68.ffrom) (a:=w64 (a58.2.2.2.2.1+a68.cost)) I3 Z Z Z Z Z (.nil (b5 ?_)))))))))))
       obtain⟨a93,ha93,hx93⟩:=bind_some hx93
       refine AWP.u (.j Z Z (W.fieldAddr Z Z Z Z (.E Z Z Z Z Z Z (.j Z Z (W.fieldAddr Z Z Z Z (.E Z Z Z Z Z Z (S.add Z Z Z (.callF (r2:=.tup []) (σ'':=[(oE 3 (wW start goal 1 l4.length)),(oV 4 d4 l4),mmap 2 2 vU i9 c56,(o1 (.map 2)),(oW vU vI (mset c82 a68.ffrom (w64 (a58.2.2.2.2.1+a68.cost)))),.one (pmap 12 vU a93.1),.dead,(oE 3 [.own 11 0 a93.2.1.length,.map 5,int (w64 (c85+1))]),.dead,.dead,(oE 2 [.imm (.val (.int .u32 a68.ffrom)),int a68.cost]),.one (prow 12 a93.2.1),pool 4 b7 a93.2.2]) Z Z Z (FnOk.lend [7,9,5,6] (af9 ha93) Z Z Z Z Z Z (by exact⟨(.one Z),(.one (i7 Z)),(.one (j7 Z)),(.any m9),Y⟩) Z (by exact⟨(.live Z (.one Z)),(.live Z (.one (i4 fun _=>Z))),(.live Z (.one (m5 fun _=>Z))),(.live Z RenE.pool),Y⟩) Z Z (by exact⟨(.old Z Z Z),(.old Z Z Z),(.old Z Z Z),(.old Z Z Z),(.old Z Z Z),(.new 2 Z Z (.one (m5 fun _=>Z))),.dead,(.new 0 Z Z (.one Z)),.dead,.dead,(.old Z Z Z),(.new 4 Z Z (.one (i4 fun _=>Z))),(.new 5 Z Z RenE.pool),Y⟩)) (.nil (d6 ?_))))))))))
       obtain⟨ej0,ej1,ej2,ej3,ej4⟩:=o5 hx93
       subst ej0 ej1 ej2 ej3 ej4
       refine b5 (Sub.cut ⟨Z,Z,Z,Z,Z,Z,Z,Y⟩ Z ⟨.one Z,.vec,(.any (mm_ok Z)),.one Z,.one Z,(.one (j7 Z)),.dead,.one Z,.dead,.dead,.dead,(.one (i7 Z)),(.any m9),Y⟩ (eOk1 Z (eOk1 Z (eOk1 Z (eOk1 Z (eOk1 (ai2 Z) (eOk1 Z (eOk1 Z Z))))))))
      ·refine AWP.skip (d6 ?_)
       obtain⟨ej0,ej1,ej2,ej3,ej4⟩:=o5 hx93
       subst ej0 ej1 ej2 ej3 ej4
       refine b5 ((Sub.move (env':=[(5,(cP 3 0 0)),(6,.c (.map 4)),(7,(cP 7 0 0)),(12,(cI a58.2.2.2.2.1)),(64,.c (rowC 2 c56 a58.2.2.2.1)),(65,(cI ((rowM c56 a58.2.2.2.1).length:Int))),(66,(cI t87))]) (σ':=[(oE 3 (wW start goal 1 l4.length)),(oV 4 d4 l4),mmap 2 2 vU i9 c56,(o1 (.map 2)),(oW vU vI c82),.one (pmap 6 vU c83),pool 4 b7 c84,(oE 3 [.own 11 0 c86.length,.map 5,int c85]),.dead,.dead,(oE 2 [.imm (.val (.int .u32 a68.ffrom)),int a68.cost]),.one (prow 6 c86)]) 11 9 Z Z Z ⟨Z,Z,Z,Z,rowC_mv (fun _=>Z) Z,Z,Z,Y⟩ (eOk1 Z (eOk1 Z (eOk1 Z (eOk1 Z (eOk1 (ai2 Z) (eOk1 Z (eOk1 Z Z))))))) ⟨⟨Z,Z⟩,⟨Blk.im_ok _ _ _,g9 Z⟩,(w3.mmap Z Z Z),⟨Z,Z⟩,⟨Z,Z⟩,⟨j7 Z,z8 Z N6⟩,(w3.pool Z),⟨Z,Z⟩,Y,Y,⟨Z,Z⟩,⟨i7 Z,z8 Z N5⟩,Y⟩).trans ((Sub.moveM (env':=[(5,(cP 3 0 0)),(6,.c (.map 4)),(7,(cP 7 0 0)),(12,(cI a58.2.2.2.2.1)),(64,.c (rowC 2 c56 a58.2.2.2.1)),(65,(cI ((rowM c56 a58.2.2.2.1).length:Int))),(66,(cI t87))]) (σ':=[(oE 3 (wW start goal 1 l4.length)),(oV 4 d4 l4),mmap 2 2 vU i9 c56,(o1 (.map 2)),(oW vU vI c82),.one (pmap 12 vU c83),.dead,(oE 3 [.own 11 0 c86.length,.map 5,int c85]),.dead,.dead,(oE 2 [.imm (.val (.int .u32 a68.ffrom)),int a68.cost]),.one (prow 12 c86),pool 4 b7 c84]) 12 6 Z Z Z ⟨Z,Z,Z,Z,rowC_mv (fun _=>Z) Z,Z,Z,Y⟩ (eOk1 Z (eOk1 Z (eOk1 Z (eOk1 Z (eOk1 (ai2 Z) (eOk1 Z (eOk1 Z Z))))))) ⟨(.one Z Z),(.vec Z),(EntR.mmap Z Z Z),(.one Z Z),(.one Z Z),(.one (j7 Z) (H2 Z Z (m5 fun _=>Z))),.dead,(.one Z Z),.dead,.dead,(.one Z Z),(.one (i7 Z) (H2 Z Z (i4 fun _=>Z))),(EntR.pool Z Z),Y⟩).trans (Sub.cut ⟨Z,Z,Z,Z,Z,Z,Z,Y⟩ Z ⟨.one Z,.vec,(.any (mm_ok Z)),.one Z,.one Z,(.one (j7 Z)),.dead,.one Z,.dead,.dead,.dead,(.one (i7 Z)),(.any m9),Y⟩ (eOk1 Z (eOk1 Z (eOk1 Z (eOk1 Z (eOk1 (ai2 Z) (eOk1 Z (eOk1 Z Z))))))))))
     ·try dsimp only at h
      refine AWP.u (.add Z Z Z (by omega) (.j Z Z (.nil ?_)))
      obtain rfl:=oi h
      refine b5 ((Sub.move (env':=[(5,(cP 3 0 0)),(6,.c (.map 4)),(7,(cP 7 0 0)),(12,(cI a58.2.2.2.2.1)),(64,.c (rowC 2 c56 a58.2.2.2.1)),(65,(cI ((rowM c56 a58.2.2.2.1).length:Int))),(66,(cI (t87+1)))]) (σ':=[(oE 3 (wW start goal 1 l4.length)),(oV 4 d4 l4),mmap 2 2 vU i9 c56,(o1 (.map 2)),(oW vU vI c88),.one (pmap 12 vU c89),.dead,(oE 3 [.own 9 0 c91.length,.map 5,int c90]),.dead,.one (prow 12 c91),.dead,.dead,pool 4 b7 c92]) 9 11 Z Z Z ⟨Z,Z,Z,Z,rowC_mv (fun _=>Z) Z,Z,Z,Y⟩ (eOk1 Z (eOk1 Z (eOk1 Z (eOk1 Z (eOk1 (ai2 Z) (eOk1 Z (eOk1 Z Z))))))) ⟨⟨Z,Z⟩,⟨Blk.im_ok _ _ _,g9 Z⟩,(w3.mmap Z Z Z),⟨Z,Z⟩,⟨Z,Z⟩,⟨j7 Z,z8 Z N6⟩,Y,⟨Z,Z⟩,Y,⟨i7 Z,z8 Z N5⟩,Y,Y,(w3.pool Z),Y⟩).trans ((Sub.moveM (env':=[(5,(cP 3 0 0)),(6,.c (.map 4)),(7,(cP 7 0 0)),(12,(cI a58.2.2.2.2.1)),(64,.c (rowC 2 c56 a58.2.2.2.1)),(65,(cI ((rowM c56 a58.2.2.2.1).length:Int))),(66,(cI (t87+1)))]) (σ':=[(oE 3 (wW start goal 1 l4.length)),(oV 4 d4 l4),mmap 2 2 vU i9 c56,(o1 (.map 2)),(oW vU vI c88),.one (pmap 6 vU c89),pool 4 b7 c92,(oE 3 [.own 9 0 c91.length,.map 5,int c90]),.dead,.one (prow 6 c91),.dead,.dead]) 6 12 Z Z Z ⟨Z,Z,Z,Z,rowC_mv (fun _=>Z) Z,Z,Z,Y⟩ (eOk1 Z (eOk1 Z (eOk1 Z (eOk1 Z (eOk1 (ai2 Z) (eOk1 Z (eOk1 Z Z))))))) ⟨(.one Z Z),(.vec Z),(EntR.mmap Z Z Z),(.one Z Z),(.one Z Z),(.one (j7 Z) (H2 Z Z (m5 fun _=>Z))),(EntR.pool Z Z),(.one Z Z),.dead,(.one (i7 Z) (H2 Z Z (i4 fun _=>Z))),.dead,.dead,Y⟩).trans (Sub.cut ⟨Z,Z,Z,Z,Z,Z,Z,Y⟩ Z ⟨.one Z,.vec,(.any (mm_ok Z)),.one Z,.one Z,(.one (j7 Z)),(.any m9),.one Z,.dead,(.one (i7 Z)),Y⟩ (eOk1 Z (eOk1 Z (eOk1 Z (eOk1 Z (eOk1 (ai2 Z) (eOk1 Z (eOk1 Z Z))))))))))
    ·intro e s hq
     obtain⟨rfl,hs⟩:=hq
     refine⟨_,hs,?_⟩
     refine i6 (d6 ?_)
     obtain rfl:=oi h
     refine b5 ⟨_,Z,?_⟩
     exact(Sub.move (env':=[(5,(cP 3 0 0)),(6,.c (.map 4)),(7,(cP 7 0 0))]) (σ':=[(oE 3 (wW start goal 1 l4.length)),(oV 4 d4 l4),mmap 2 2 vU i9 c56,(o1 (.map 2)),(oW vU vI c82),.one (pmap 6 vU c83),pool 4 b7 c84,(oE 3 [.own 8 0 c86.length,.map 5,int c85]),.one (prow 6 c86)]) 8 9 Z Z Z ⟨Z,Z,Z,Y⟩ Z ⟨⟨Z,Z⟩,⟨Blk.im_ok _ _ _,g9 Z⟩,(w3.mmap Z Z Z),⟨Z,Z⟩,⟨Z,Z⟩,⟨j7 Z,z8 Z N6⟩,(w3.pool Z),⟨Z,Z⟩,⟨i7 Z,z8 Z N5⟩,Y⟩).trans (Sub.env ⟨Z,Z,Z,Y⟩)
   ·refine AWP.exit (d7 ?_)
    obtain rfl:=oi h
    refine d7 ⟨_,Z,Z,?_⟩
    exact Sub.cut ⟨Z,Y⟩ Z ⟨.one Z,.vec,.dead,.dead,.one Z,Y⟩ Z
  ·intro e s hq
   obtain⟨rfl,hs⟩:=hq
   refine⟨_,hs,?_⟩
   refine i6 (b5 (.q (.u (.j Z Z (.v Z Z (.nil (b5 (.ret ?_))))))))
   obtain rfl:=oi h
   exact⟨⟨[(4,.c (.map 4))],[(oE 3 (wW start goal 1 l4.length)),(oV 4 d4 l4),.dead,.dead,(oW vU vI c80)]⟩,Sub.env ⟨Z,Y⟩,Done.ret Z ⟨Z,Z⟩⟩
theorem ax7{t:e7}{r:Int×g8}(h:U6 t=some r):e9 prog 31 [.agg (tT t)] (.tup [(cI r.1),.agg [int r.2.code,int r.2.index]]):=by
 unfold e9
 refine FnOk.enter (rs:=[.t 2,.cell 3 28 2]) func31 Z ntmps31 results31 Z ⟨Y,rv _ Z,Y⟩ (by kernel_rfl) Z ?_
 unfold U6 at h
 refine AWP.q (.u (W.box Z Z Z Z Z Z (.v Z Z (W.alloc Z Z Z Z (.nil (b5 (.q ?_)))))))
 obtain⟨fk2,hfk2,h⟩:=bind_some h
 rcases fk2 with fk2|fk2
 ·try dsimp only at h
  refine AWP.u (W.loadAgg Z Z Z Z Z Z Z (.callF (r2:=.tup [.c (.imm (.val (.pointer none))),.c (row 1 eU32 []),.agg [int fk2.1,int fk2.2]]) (σ'':=[(oE 4 (tT t)),(oE 2 [int 0,int 0]),.dead,(oE 2 [int fk2.1,int fk2.2])]) Z Z Z (FnOk.lend [] (FnOk.alt1 (aj9 hfk2)) Z Z Z Z Z Z (by exact Y) Z (by exact Y) Z Z (by exact⟨(.old Z Z Z),(.old Z Z Z),.dead,(.new 1 Z Z (.one Z)),Y⟩)) (.j Z Z (.ab Z Z Z (.ab Z Z Z (.ab Z Z Z (W.alloc Z Z Z Z (.v Z Z (.v Z Z (W.storeAgg Z Z Z Z Z Z Z (.nil (b5 (.q (.q (.u (W.loadAgg Z Z Z Z Z Z Z (W.build Z Z Z Z (.neqP Z Z Z Z Z Z Z (.nil (b5 (.ac Z h (fun hc3 h=> ?_) (fun hc3 h=> ?_))))))))))))))))))))))
  ·refine AWP.q (.drawEI [2] mixed Z Z Z ?_)
   refine d5.consN Z Z (fun E=>W.loadAgg Z Z Z Z Z Z Z .N) Z (.consN Z Z (fun E=>.v Z Z .N) Z ?_)
   apply d5.consE (v:=.undef);exact Z;exact Z;intro E
   refine W.storeAgg Z Z Z Z Z Z Z .N
   exact Z
   exact Z
   refine d5.done Z ?_ ?_
   ·refine e8.cons Z Z (.go Z Z (fun E=>W.loadAgg Z Z Z Z Z Z Z .N) (.skip Z .nil)) (.cons Z Z (.go Z Z (fun E=>.v Z Z .N) (.skip Z .nil)) ?_)
    refine e8.skip Z (e8.nil)
   dsimp only[j6]
   refine b5 (.ret (e6 ?_))
   obtain rfl:=oi h
   exact Done.ret Z Z
  ·cases h
 ·try dsimp only at h
  refine AWP.u (W.loadAgg Z Z Z Z Z Z Z (.callF (r2:=.tup [(cP 6 0 0),.c (row 1 eU32 fk2.2.2.2),.agg [int 0,int 0]]) (σ'':=[(oE 4 (tT t)),(oE 2 [int 0,int 0]),.dead,(oE 2 [int 0,int 0]),.dead,.dead,(oE 3 [.imm (.val (.int .u32 fk2.1)),.imm (.val (.int .u32 fk2.2.1)),.own 7 0 fk2.2.2.1.length]),(oV 4 d4 fk2.2.2.1)]) Z Z Z (FnOk.lend [] (FnOk.alt2 (aj9 hfk2)) Z Z Z Z Z Z (by exact Y) Z (by exact Y) Z Z (by exact⟨(.old Z Z Z),(.old Z Z Z),.dead,(.new 1 Z Z (.one Z)),.dead,.dead,(.new 4 Z Z (.one Z)),(.new 5 Z Z .vec),Y⟩)) (.j Z Z (.ab Z Z Z (.ab Z Z Z (.ab Z Z Z (W.alloc Z Z Z Z (.v Z Z (.v Z Z (W.storeAgg Z Z Z Z Z Z Z (.nil (b5 (.q (.q (.u (W.loadAgg Z Z Z Z Z Z Z (W.build Z Z Z Z (.neqP Z Z Z Z Z Z Z (.nil (b5 (.ac Z h (fun hc3 h=> ?_) (fun hc3 h=> ?_))))))))))))))))))))))
  ·refine AWP.q (.drawEI [2] mixed Z Z Z ?_)
   refine d5.consN Z Z (fun E=>W.loadAgg Z Z Z Z Z Z Z .N) Z (.consN Z Z (fun E=>.v Z Z .N) Z ?_)
   apply d5.consE (v:=.undef);exact Z;exact Z;intro E
   refine W.storeAgg Z Z Z Z Z Z Z .N
   exact Z
   exact Z
   refine d5.done Z ?_ ?_
   ·refine e8.cons Z Z (.go Z Z (fun E=>W.loadAgg Z Z Z Z Z Z Z .N) (.skip Z .nil)) (.cons Z Z (.go Z Z (fun E=>.v Z Z .N) (.skip Z .nil)) ?_)
    refine e8.skip Z (e8.nil)
   dsimp only[j6]
   refine b5 (.ret (e6 ?_))
   obtain rfl:=oi h
   exact Done.ret Z Z
  ·refine AWP.skip (b5 (.q ?_))
   obtain⟨a19,ha19,a21,ha21,h⟩:=b2 h
   refine AWP.u (.j Z Z (.j Z Z (.callF (r2:=.c (.map 11)) (σ'':=[(oE 4 (tT t)),(oE 2 [int 0,int 0]),.dead,(oE 2 [int 0,int 0]),.dead,.dead,(oE 3 [.imm (.val (.int .u32 fk2.1)),.imm (.val (.int .u32 fk2.2.1)),.own 7 0 fk2.2.2.1.length]),(oV 4 d4 fk2.2.2.1),(oE 2 [int 0,int 0]),.dead,.dead,(oW vU vI a19)]) Z Z Z (FnOk.lend [6,7] (aw7 ha19) Z Z Z Z Z Z (by exact⟨(.one Z),.vec,Y⟩) Z (by exact⟨(.live Z (.one Z)),(.live Z .vec),Y⟩) Z Z (by exact⟨(.old Z Z Z),(.old Z Z Z),.dead,(.old Z Z Z),.dead,.dead,(.new 0 Z Z (.one Z)),(.new 1 Z Z .vec),(.old Z Z Z),.dead,.dead,(.new 4 Z Z (.one Z)),Y⟩)) (.j Z Z (.callF (r2:=.c (.imm (.val (.int .u32 fk2.1)))) (σ'':=[(oE 4 (tT t)),(oE 2 [int 0,int 0]),.dead,(oE 2 [int 0,int 0]),.dead,.dead,(oE 3 [.imm (.val (.int .u32 fk2.1)),.imm (.val (.int .u32 fk2.2.1)),.own 7 0 fk2.2.2.1.length]),(oV 4 d4 fk2.2.2.1),(oE 2 [int 0,int 0]),.dead,.dead,(oW vU vI a19)]) Z Z Z (FnOk.lend [6,7] (S5 ha21) Z Z Z Z Z Z (by exact⟨(.one Z),.vec,Y⟩) Z (by exact⟨(.live Z (.one Z)),(.live Z .vec),Y⟩) Z Z (by exact⟨(.old Z Z Z),(.old Z Z Z),.dead,(.old Z Z Z),.dead,.dead,(.new 0 Z Z (.one Z)),(.new 1 Z Z .vec),(.old Z Z Z),.dead,.dead,(.old Z Z Z),Y⟩)) (W.lookup (fk:=vU) (fv:=vI) (k:=fk2.1) (z:=0) I3 Z (fun _=>Z) Z Z Z Z ?_))))))
   refine W.build Z Z Z Z (.v Z Z (W.storeAgg Z Z Z Z Z Z Z (.nil (b5 (.ret ?_)))))
   obtain rfl:=oi h
   exact Done.ret Z Z
theorem ax4{t:e7}{op:Int}{r:Int×g8}(h:P8 t op=some r):e9 prog 13 [.agg (tT t),(cI op)] (.tup [(cI r.1),.agg [int r.2.code,int r.2.index]]):=by
 unfold e9
 refine FnOk.enter (rs:=[.t 4,.cell 5 28 2]) func13 Z ntmps13 results13 Z ⟨Y,rv _ Z,Y⟩ (by kernel_rfl) Z ?_
 unfold P8 at h
 refine AWP.q (.u (W.box Z Z Z Z Z Z (.v Z Z (W.alloc Z Z Z Z (.nil (b5 (.q (.q ?_))))))))
 obtain⟨a11,ha11,h⟩:=bind_some h
 refine AWP.u (W.loadAgg Z Z Z Z Z Z Z (.j Z Z (.O Z Z Z Z (aw9 ha11) Z (W.alloc Z Z Z Z (W.storeAgg Z Z Z Z Z Z Z (.nil (b5 (.q (.u (W.loadAgg Z Z Z Z Z Z Z (W.build Z Z Z Z (.neqP Z Z Z Z Z Z Z (.nil (b5 (.ac Z h (fun hc3 h=> ?_) (fun hc3 h=> ?_))))))))))))))))
 ·refine AWP.q (.drawEI [2] mixed Z Z Z ?_)
  refine d5.consN Z Z (fun E=>W.loadAgg Z Z Z Z Z Z Z .N) Z (.consN Z Z (fun E=>.v Z Z .N) Z ?_)
  apply d5.consE (v:=.undef);exact Z;exact Z;intro E
  refine W.storeAgg Z Z Z Z Z Z Z .N
  exact Z
  exact Z
  refine d5.done Z ?_ ?_
  ·refine e8.cons Z Z (.go Z Z (fun E=>W.loadAgg Z Z Z Z Z Z Z .N) (.skip Z .nil)) (.cons Z Z (.go Z Z (fun E=>.v Z Z .N) (.skip Z .nil)) ?_)
   refine e8.skip Z (e8.nil)
  dsimp only[j6]
  refine b5 (.ret (e6 ?_))
  obtain rfl:=oi h
  exact Done.ret Z Z
 ·refine AWP.skip (b5 (.q ?_))
  obtain⟨a19,ha19,h⟩:=bind_some h
  refine AWP.u (W.loadAgg Z Z Z Z Z Z Z (.j Z Z (.O Z Z Z Z (aw3 ha19) Z (.j Z Z (.ab Z Z Z (.ab Z Z Z (W.alloc Z Z Z Z (W.alloc Z Z Z Z (W.storeAgg Z Z Z Z Z Z Z (W.storeAgg Z Z Z Z Z Z Z (.nil (b5 (.q (.q (.u (W.loadAgg Z Z Z Z Z Z Z (W.build Z Z Z Z (.neqP Z Z Z Z Z Z Z (.nil (b5 (.ac Z h (fun hc4 h=> ?_) (fun hc4 h=> ?_))))))))))))))))))))))
  ·refine AWP.q (.drawEI [2] mixed Z Z Z ?_)
   refine d5.consN Z Z (fun E=>W.loadAgg Z Z Z Z Z Z Z .N) Z (.consN Z Z (fun E=>.v Z Z .N) Z ?_)
   apply d5.consE (v:=.undef);exact Z;exact Z;intro E
   refine W.storeAgg Z Z Z Z Z Z Z .N
   exact Z
   exact Z
   refine d5.done Z ?_ ?_
   ·refine e8.cons Z Z (.go Z Z (fun E=>W.loadAgg Z Z Z Z Z Z Z .N) (.skip Z .nil)) (.cons Z Z (.go Z Z (fun E=>.v Z Z .N) (.skip Z .nil)) ?_)
    refine e8.skip Z (e8.nil)
   dsimp only[j6]
   refine b5 (.ret (e6 ?_))
   obtain rfl:=oi h
   exact Done.ret Z Z
  ·refine AWP.skip (b5 (.q ?_))
   obtain⟨a27,ha27,h⟩:=bind_some h
   refine AWP.u (W.loadAgg Z Z Z Z Z Z Z (.O Z Z Z Z (ax7 ha27) Z (.ab Z Z Z (.ab Z Z Z (.v Z Z (W.storeAgg Z Z Z Z Z Z Z (.nil (b5 (.ret ?_)))))))))
   obtain rfl:=oi h
   exact Done.ret Z Z
theorem av5{av:Li}{bv:Li}{r:Bool}(h:aj0 av bv=some r):e9 prog 14 [(cR av),(cR bv)] ((cB r)):=by
 unfold e9
 refine FnOk.enter (rs:=[.t 4]) func14 Z ntmps14 results14 Z ⟨Y,Y⟩ (by kernel_rfl) Z ?_
 unfold aj0 at h
 refine AWP.q (.u (.v Z Z (.nil (b5 (.q (.q (.u (.j Z Z (S.len Z Z (fun hl7=>.j Z Z (S.len Z Z (fun hl9=>.neq Z Z Z (.nil (b5 (.iteN Z h (fun hc3 h=> ?_) (fun hc3 h=> ?_))))))))))))))))
 ·refine AWP.q (.u (.v Z Z (.nil (b5 (.ret (e6 ?_))))))
  obtain rfl:=oi h
  exact Done.ret Z Z
 ·refine AWP.skip (b5 (.q (.q (.u (.v Z Z (.nil (b5 (.J ?_))))))))
  obtain⟨oo,ho1,h⟩:=bind_some h
  refine AWP.rngS ho1 (fun iv4 _=>⟨[(0,(cR av)),(1,(cR bv)),(5,(cI iv4))],[]⟩) (fun o e st=>match o with| .inl _=>e=.exit 0∧Sub [] st ⟨[],[]⟩| .inr x=>e=.ret∧Done [.t 4] (fun t _=>t=(cB x)) .ret st) ?_ ?_ ?_ ?_
  ·try dsimp only
   exact Sub.env ⟨Z,Z,Z,Y⟩
  ·intro iv4 s hloiv4 hltiv4 _
   try dsimp only
   refine AWP.q (.q (.u (.j Z Z (.j Z Z (S.len Z Z (fun hl13=>.F Z Z Z (.nil (b5 (.ae Z hltiv4 (.exit (d7 (d7 ⟨Z,?_⟩))))))))))))
   exact Sub.env Y
  ·intro iv4 s o hloiv4 hltiv4 h
   unfold an3 at h
   try dsimp only at h ⊢
   refine AWP.q (.q (.u (.j Z Z (.j Z Z (S.len Z Z (fun hl13=>.F Z Z Z (.nil (b5 (.af Z hltiv4 (.skip (b5 (.q (.J (.q ?_))))))))))))))
   obtain⟨a19,ha19,a23,ha23,h⟩:=b2 h
   refine AWP.drawI mixed Z ?_
   refine l7.consF Z (fun E=>.j Z Z .N) Z (.consF Z (fun E=>.j Z Z .N) Z (.consF Z (fun E=>S.idx ha19 Z Z Z Z .N) Z (.consF Z (fun E=>.ag Z Z Z Z .N) Z (.consF Z (fun E=>.j Z Z .N) Z (.consF Z (fun E=>.j Z Z .N) Z (.consF Z (fun E=>S.idx ha23 Z Z Z Z .N) Z (.consF Z (fun E=>.ag Z Z Z Z .N) Z (.consF Z (fun E=>.neq Z Z Z .N) Z ?_))))))))
   refine l7.done ?_
   dsimp only[j6]
   refine b5 (.iteN Z h (fun hc5 h=> ?_) (fun hc5 h=> ?_))
   ·refine AWP.q (.u (.v Z Z (.nil (b5 (.ret (j5 (e6 ?_)))))))
    obtain rfl:=oi h
    refine e6 ⟨_,Z,Z,?_⟩
    exact Done.ret Z Z
   ·refine AWP.skip (d6 (b5 (.u (.j Z Z (.add Z Z Z (by omega) (.v Z Z (.nil ?_)))))))
    obtain rfl:=oi h
    refine b5 ⟨_,Z,?_⟩
    exact Sub.env ⟨Z,Z,Z,Y⟩
  ·intro e s hq
   rcases oo with u|x
   ·try dsimp only at h hq
    obtain⟨rfl,hs⟩:=hq
    refine⟨_,hs,?_⟩
    refine i6 (b5 (.q (.u (.v Z Z (.nil (b5 (.ret ?_)))))))
    obtain rfl:=oi h
    exact Done.ret Z Z
   ·try dsimp only at h hq
    obtain⟨rfl,hs⟩:=hq
    refine⟨_,Sub.refl _ _,?_⟩
    refine j5 (e6 ?_)
    obtain rfl:=oi h
    exact hs
theorem am9{r:Bool}(h:Q0=some r):e9 prog 5 [] ((cB r)):=by
 unfold e9
 refine FnOk.enter (rs:=[.t 0]) func5 Z ntmps5 results5 Z ⟨Y,Y⟩ (by kernel_rfl) Z ?_
 unfold Q0 at h
 refine AWP.q (.u (.v Z Z (.nil (b5 (.q ?_)))))
 obtain⟨a7,ha7,a8,ha8,h⟩:=b2 h
 refine AWP.u (.O Z Z Z Z (ar6 ha7) Z (.O Z Z Z Z (e9.nil (by exact⟨⟨(.inl Z),(.inl Z),(.inl Z),(.inl Z),Y⟩,(.inr ⟨Z,_,Z⟩),Y⟩) (belief_Plan_ok ha8)) Z (.j Z Z (.ab Z Z Z (.ab Z Z Z (.ab Z Z Z (W.alloc Z Z Z Z (.v Z Z (.v Z Z (W.storeAgg Z Z Z Z Z Z Z (.nil (b5 (.q ?_)))))))))))))
 obtain⟨a13,ha13,a14,ha14,h⟩:=b2 h
 refine AWP.u (.O Z Z Z Z (ar6 ha13) Z (.O Z Z Z Z (ax4 ha14) Z (.j Z Z (.ab Z Z Z (.ab Z Z Z (W.alloc Z Z Z Z (.v Z Z (W.storeAgg Z Z Z Z Z Z Z (.nil (b5 ?_))))))))))
 obtain⟨t1,hx2,h⟩:=bind_some h
 refine AWP.seqJ (⟨[(0,(cB t1))],[]⟩) ?_ ?_
 ·rcases bft (decide (a8.2.2.code=0)) with hb3|hb3
  ·replace hx2:=P1 hb3 hx2
   rcases bft (decide (a14.2.code=0)) with hb4|hb4
   ·replace hx2:=P1 hb4 hx2
    rcases bft (a8.2.1) with hb5|hb5
    ·replace hx2:=S7 hb5 hx2
     obtain⟨a31,ha31,hx2⟩:=bind_some hx2
     rcases bft (a31) with hb6|hb6
     ·replace hx2:=S7 hb6 hx2
      refine AWP.u (W.fieldAddr Z Z Z Z (.E Z Z Z Z Z Z (.ad Z Z Z (.j Z Z (.z Z Z Z hb3 (W.fieldAddr Z Z Z Z (.z Z Z Z hb3 (.E Z Z Z Z Z Z (.z Z Z Z hb3 (.ad Z Z Z (.U Z hb3 Z Z (.j Z Z (.z Z Z Z hb4 (.j Z Z (.U Z hb4 Z Z (.j Z Z (.z Z Z Z hb5 (.j Z Z (.z Z Z Z hb5 (S.lit (f:=intI) (l:=[0]) (ess:=[[int 0]]) Z Z Z Z Z Z Z ⟨⟨.inl Z,Y⟩,Y⟩ Z Z Z (.z Z Z Z hb5 (.callL Z Z (.cons (.c .imm) (.cons (.c (.own Z Z)) .nil)) Z (av5 ha31) Z (.U Z hb5 Z Z (.j Z Z (.z Z Z Z hb6 (.j Z Z (.z Z Z Z hb6 (.ad Z Z Z (.U Z hb6 Z Z (.v Z Z (.nil ?_)))))))))))))))))))))))))))))))
      obtain rfl:=oi hx2
      refine b5 (Sub.cut ⟨Z,Y⟩ Z Y Z)
     ·replace hx2:=S6 hb6 hx2
      refine AWP.u (W.fieldAddr Z Z Z Z (.E Z Z Z Z Z Z (.ad Z Z Z (.j Z Z (.z Z Z Z hb3 (W.fieldAddr Z Z Z Z (.z Z Z Z hb3 (.E Z Z Z Z Z Z (.z Z Z Z hb3 (.ad Z Z Z (.U Z hb3 Z Z (.j Z Z (.z Z Z Z hb4 (.j Z Z (.U Z hb4 Z Z (.j Z Z (.z Z Z Z hb5 (.j Z Z (.z Z Z Z hb5 (S.lit (f:=intI) (l:=[0]) (ess:=[[int 0]]) Z Z Z Z Z Z Z ⟨⟨.inl Z,Y⟩,Y⟩ Z Z Z (.z Z Z Z hb5 (.callL Z Z (.cons (.c .imm) (.cons (.c (.own Z Z)) .nil)) Z (av5 ha31) Z (.U Z hb5 Z Z (.j Z Z (.B Z Z Z hb6 (.B Z Z Z hb6 (.aa Z hb6 Z Z (.v Z Z (.nil ?_)))))))))))))))))))))))))))))
      obtain rfl:=oi hx2
      refine b5 (Sub.cut ⟨Z,Y⟩ Z Y Z)
    ·replace hx2:=S6 hb5 hx2
     refine AWP.u (W.fieldAddr Z Z Z Z (.E Z Z Z Z Z Z (.ad Z Z Z (.j Z Z (.z Z Z Z hb3 (W.fieldAddr Z Z Z Z (.z Z Z Z hb3 (.E Z Z Z Z Z Z (.z Z Z Z hb3 (.ad Z Z Z (.U Z hb3 Z Z (.j Z Z (.z Z Z Z hb4 (.j Z Z (.U Z hb4 Z Z (.j Z Z (.B Z Z Z hb5 (.B Z Z Z hb5 (.B Z Z Z hb5 (.aa Z hb5 Z Z (.j Z Z (.B Z Z Z Z (.B Z Z Z Z (.aa Z Z Z Z (.v Z Z (.nil ?_))))))))))))))))))))))))))
     obtain rfl:=oi hx2
     refine b5 (Sub.cut ⟨Z,Y⟩ Z Y Z)
   ·replace hx2:=P3 hb4 hx2
    refine AWP.u (W.fieldAddr Z Z Z Z (.E Z Z Z Z Z Z (.ad Z Z Z (.j Z Z (.z Z Z Z hb3 (W.fieldAddr Z Z Z Z (.z Z Z Z hb3 (.E Z Z Z Z Z Z (.z Z Z Z hb3 (.ad Z Z Z (.U Z hb3 Z Z (.j Z Z (.B Z Z Z hb4 (.aa Z hb4 Z Z (.j Z Z (.B Z Z Z Z (.B Z Z Z Z (.B Z Z Z Z (.aa Z Z Z Z (.j Z Z (.B Z Z Z Z (.B Z Z Z Z (.aa Z Z Z Z (.v Z Z (.nil ?_)))))))))))))))))))))))))
    obtain rfl:=oi hx2
    refine b5 (Sub.cut ⟨Z,Y⟩ Z Y Z)
  ·replace hx2:=P3 hb3 hx2
   refine AWP.u (W.fieldAddr Z Z Z Z (.E Z Z Z Z Z Z (.ad Z Z Z (.j Z Z (.B Z Z Z hb3 (.B Z Z Z hb3 (.B Z Z Z hb3 (.aa Z hb3 Z Z (.j Z Z (.B Z Z Z Z (.aa Z Z Z Z (.j Z Z (.B Z Z Z Z (.B Z Z Z Z (.B Z Z Z Z (.aa Z Z Z Z (.j Z Z (.B Z Z Z Z (.B Z Z Z Z (.aa Z Z Z Z (.v Z Z (.nil ?_))))))))))))))))))))))
   obtain rfl:=oi hx2
   refine b5 (Sub.cut ⟨Z,Y⟩ Z Y Z)
 ·refine AWP.ret ?_
  obtain rfl:=oi h
  exact Done.ret Z Z
theorem au6{l:Y9}{nv:Int}{r:Int}(h:O4 l nv=some r):e9 prog 56 [.agg [int l.fFrom,int l.to,int l.low,int l.high],(cI nv)] ((cI r)):=by
 unfold e9
 refine FnOk.enter (rs:=[.t 4]) func56 Z ntmps56 results56 Z ⟨Y,Y⟩ (by kernel_rfl) Z ?_
 unfold O4 at h
 refine AWP.q (.u (W.box Z Z Z Z Z Z (.v Z Z (.nil (b5 (.q (.J (.seqJ (⟨[(2,(cP 0 0 0)),(5,(cB ((((decide (l.fFrom<0))||(decide (nv≤l.fFrom)))||(decide (l.to<0)))||(decide (nv≤l.to)))))],[(oE 4 [int l.fFrom,int l.to,int l.low,int l.high])]⟩) ?_ ?_))))))))
 ·rcases bft (decide (l.fFrom<0)) with hb1|hb1
  ·refine AWP.u (W.fieldAddr Z Z Z Z (.E Z Z Z Z Z Z (.F Z Z Z (.j Z Z (.B Z Z Z hb1 (.B Z Z Z hb1 (.B Z Z Z hb1 (.B Z Z Z hb1 (.U Z hb1 Z Z (.j Z Z (.B Z Z Z Z (.B Z Z Z Z (.B Z Z Z Z (.U Z Z Z Z (.j Z Z (.B Z Z Z Z (.B Z Z Z Z (.B Z Z Z Z (.B Z Z Z Z (.U Z Z Z Z (.v Z Z (.nil (b5 ?_)))))))))))))))))))))))
   simp only[K3 hb1,or_t hb1,Bool.false_or,Bool.true_or,Bool.false_and,Bool.true_and]
   exact Sub.env ⟨Z,Z,Y⟩
  ·rcases bft (decide (nv≤l.fFrom)) with hb2|hb2
   ·refine AWP.u (W.fieldAddr Z Z Z Z (.E Z Z Z Z Z Z (.F Z Z Z (.j Z Z (.z Z Z Z hb1 (W.fieldAddr Z Z Z Z (.z Z Z Z hb1 (.E Z Z Z Z Z Z (.z Z Z Z hb1 (.j Z Z (.z Z Z Z hb1 (.geq Z Z Z (.aa Z hb1 Z Z (.j Z Z (.B Z Z Z hb2 (.B Z Z Z hb2 (.B Z Z Z hb2 (.U Z hb2 Z Z (.j Z Z (.B Z Z Z Z (.B Z Z Z Z (.B Z Z Z Z (.B Z Z Z Z (.U Z Z Z Z (.v Z Z (.nil (b5 ?_)))))))))))))))))))))))))))
    simp only[D6 hb1,or_f hb1,K3 hb2,or_t hb2,Bool.false_or,Bool.true_or,Bool.false_and,Bool.true_and]
    exact Sub.env ⟨Z,Z,Y⟩
   ·rcases bft (decide (l.to<0)) with hb3|hb3
    ·refine AWP.u (W.fieldAddr Z Z Z Z (.E Z Z Z Z Z Z (.F Z Z Z (.j Z Z (.z Z Z Z hb1 (W.fieldAddr Z Z Z Z (.z Z Z Z hb1 (.E Z Z Z Z Z Z (.z Z Z Z hb1 (.j Z Z (.z Z Z Z hb1 (.geq Z Z Z (.aa Z hb1 Z Z (.j Z Z (.z Z Z Z hb2 (W.fieldAddr Z Z Z Z (.z Z Z Z hb2 (.E Z Z Z Z Z Z (.z Z Z Z hb2 (.F Z Z Z (.aa Z hb2 Z Z (.j Z Z (.B Z Z Z hb3 (.B Z Z Z hb3 (.B Z Z Z hb3 (.B Z Z Z hb3 (.U Z hb3 Z Z (.v Z Z (.nil (b5 ?_))))))))))))))))))))))))))))))
     simp only[D6 hb1,or_f hb1,D6 hb2,or_f hb2,K3 hb3,or_t hb3,Bool.false_or,Bool.true_or,Bool.false_and,Bool.true_and]
     exact Sub.env ⟨Z,Z,Y⟩
    ·refine AWP.u (W.fieldAddr Z Z Z Z (.E Z Z Z Z Z Z (.F Z Z Z (.j Z Z (.z Z Z Z hb1 (W.fieldAddr Z Z Z Z (.z Z Z Z hb1 (.E Z Z Z Z Z Z (.z Z Z Z hb1 (.j Z Z (.z Z Z Z hb1 (.geq Z Z Z (.aa Z hb1 Z Z (.j Z Z (.z Z Z Z hb2 (W.fieldAddr Z Z Z Z (.z Z Z Z hb2 (.E Z Z Z Z Z Z (.z Z Z Z hb2 (.F Z Z Z (.aa Z hb2 Z Z (.j Z Z (.z Z Z Z hb3 (W.fieldAddr Z Z Z Z (.z Z Z Z hb3 (.E Z Z Z Z Z Z (.z Z Z Z hb3 (.j Z Z (.z Z Z Z hb3 (.geq Z Z Z (.aa Z hb3 Z Z (.v Z Z (.nil (b5 ?_))))))))))))))))))))))))))))))))))
     simp only[D6 hb1,or_f hb1,D6 hb2,or_f hb2,D6 hb3,or_f hb3,Bool.false_or,Bool.true_or,Bool.false_and,Bool.true_and]
     exact Sub.env ⟨Z,Z,Y⟩
 ·refine AWP.ac Z h (fun hc3 h=> ?_) (fun hc3 h=> ?_)
  ·refine AWP.q (.u (.v Z Z (.nil (b5 (.ret (j5 (e6 ?_)))))))
   obtain rfl:=oi h
   exact Done.ret Z Z
  ·refine AWP.seqJ (⟨[(2,(cP 0 0 0)),(26,(cB ((decide (1000<max (max (max l.low (w64 (0 - l.low))) l.high) (w64 (0 - l.high))))||(decide (min (min (min l.low (w64 (0 - l.low))) l.high) (w64 (0 - l.high))<(-1000))))))],[(oE 4 [int l.fFrom,int l.to,int l.low,int l.high])]⟩) ?_ ?_
   ·rcases bft (decide (1000<max (max (max l.low (w64 (0 - l.low))) l.high) (w64 (0 - l.high)))) with hb1|hb1
    ·refine AWP.u (W.fieldAddr Z Z Z Z (.E Z Z Z Z Z Z (W.fieldAddr Z Z Z Z (.E Z Z Z Z Z Z (S.neg Z Z (W.fieldAddr Z Z Z Z (.E Z Z Z Z Z Z (W.fieldAddr Z Z Z Z (.E Z Z Z Z Z Z (S.neg Z Z (.max4 Z Z Z Z Z (.gtr Z Z Z (.j Z Z (.B Z Z Z hb1 (.B Z Z Z hb1 (.B Z Z Z hb1 (.B Z Z Z hb1 (.B Z Z Z hb1 (.B Z Z Z hb1 (.B Z Z Z hb1 (.B Z Z Z hb1 (.B Z Z Z hb1 (.B Z Z Z hb1 (.B Z Z Z hb1 (.B Z Z Z hb1 (.U Z hb1 Z Z (.v Z Z (.nil (b5 ?_)))))))))))))))))))))))))))))
     simp only[K3 hb1,or_t hb1,Bool.false_or,Bool.true_or,Bool.false_and,Bool.true_and]
     exact Sub.env ⟨Z,Z,Y⟩
    ·refine AWP.u (W.fieldAddr Z Z Z Z (.E Z Z Z Z Z Z (W.fieldAddr Z Z Z Z (.E Z Z Z Z Z Z (S.neg Z Z (W.fieldAddr Z Z Z Z (.E Z Z Z Z Z Z (W.fieldAddr Z Z Z Z (.E Z Z Z Z Z Z (S.neg Z Z (.max4 Z Z Z Z Z (.gtr Z Z Z (.j Z Z (.z Z Z Z hb1 (W.fieldAddr Z Z Z Z (.z Z Z Z hb1 (.E Z Z Z Z Z Z (.z Z Z Z hb1 (W.fieldAddr Z Z Z Z (.z Z Z Z hb1 (.E Z Z Z Z Z Z (.z Z Z Z hb1 (S.neg Z Z (.z Z Z Z hb1 (W.fieldAddr Z Z Z Z (.z Z Z Z hb1 (.E Z Z Z Z Z Z (.z Z Z Z hb1 (W.fieldAddr Z Z Z Z (.z Z Z Z hb1 (.E Z Z Z Z Z Z (.z Z Z Z hb1 (S.neg Z Z (.z Z Z Z hb1 (.min4 Z Z Z Z Z (.z Z Z Z hb1 (.F Z Z Z (.aa Z hb1 Z Z (.v Z Z (.nil (b5 ?_)))))))))))))))))))))))))))))))))))))))))
     simp only[D6 hb1,or_f hb1,Bool.false_or,Bool.true_or,Bool.false_and,Bool.true_and]
     exact Sub.env ⟨Z,Z,Y⟩
   ·refine AWP.ac Z h (fun hc4 h=> ?_) (fun hc4 h=> ?_)
    ·refine AWP.q (.u (.v Z Z (.nil (b5 (.ret (j5 (e6 ?_)))))))
     obtain rfl:=oi h
     exact Done.ret Z Z
    ·refine AWP.seqJ (⟨[(53,(cB ((decide (l.fFrom=l.to))||(decide (l.high<l.low)))))],[(oE 4 [int l.fFrom,int l.to,int l.low,int l.high])]⟩) ?_ ?_
     ·rcases bft (decide (l.fFrom=l.to)) with hb1|hb1
      ·refine AWP.u (W.fieldAddr Z Z Z Z (.E Z Z Z Z Z Z (W.fieldAddr Z Z Z Z (.E Z Z Z Z Z Z (.ad Z Z Z (.j Z Z (.B Z Z Z hb1 (.B Z Z Z hb1 (.B Z Z Z hb1 (.B Z Z Z hb1 (.B Z Z Z hb1 (.U Z hb1 Z Z (.v Z Z (.nil (b5 ?_)))))))))))))))
       simp only[K3 hb1,or_t hb1,Bool.false_or,Bool.true_or,Bool.false_and,Bool.true_and]
       exact Sub.env ⟨Z,Y⟩
      ·refine AWP.u (W.fieldAddr Z Z Z Z (.E Z Z Z Z Z Z (W.fieldAddr Z Z Z Z (.E Z Z Z Z Z Z (.ad Z Z Z (.j Z Z (.z Z Z Z hb1 (W.fieldAddr Z Z Z Z (.z Z Z Z hb1 (.E Z Z Z Z Z Z (.z Z Z Z hb1 (W.fieldAddr Z Z Z Z (.z Z Z Z hb1 (.E Z Z Z Z Z Z (.z Z Z Z hb1 (.gtr Z Z Z (.aa Z hb1 Z Z (.v Z Z (.nil (b5 ?_))))))))))))))))))))
       simp only[D6 hb1,or_f hb1,Bool.false_or,Bool.true_or,Bool.false_and,Bool.true_and]
       exact Sub.env ⟨Z,Y⟩
     ·refine AWP.ac Z h (fun hc5 h=> ?_) (fun hc5 h=> ?_)
      ·refine AWP.q (.u (.v Z Z (.nil (b5 (.ret (j5 (e6 ?_)))))))
       obtain rfl:=oi h
       exact Done.ret Z Z
      ·refine AWP.skip (d6 (b5 (.q (.u (.v Z Z (.nil (b5 (.ret ?_))))))))
       obtain rfl:=oi h
       exact Done.ret Z Z
theorem au5{nv:A4}{r:g8}(h:O1 nv=some r):e9 prog 32 [.agg [int nv.events,row 4 B3 nv.links]] (.agg [int r.code,int r.index]):=by
 unfold e9
 refine FnOk.enter (rs:=[.cell 2 28 2]) func32 Z ntmps32 results32 Z ⟨rv _ Z,Y⟩ (by kernel_rfl) Z ?_
 unfold O1 at h
 refine AWP.q (.u (W.box Z Z Z Z Z Z (W.alloc Z Z Z Z (.nil (b5 (.q (.J (.seqJ (⟨[(1,(cP 0 0 0)),(2,(cP 1 0 0)),(6,(cB ((decide (nv.events<1))||(decide (10<nv.events)))))],[(oE 2 [int nv.events,row 4 B3 nv.links]),(oE 2 [int 0,int 0])]⟩) ?_ ?_))))))))
 ·rcases bft (decide (nv.events<1)) with hb1|hb1
  ·refine AWP.u (W.fieldAddr Z Z Z Z (.E Z Z Z Z Z Z (.F Z Z Z (.j Z Z (.B Z Z Z hb1 (.B Z Z Z hb1 (.B Z Z Z hb1 (.U Z hb1 Z Z (.v Z Z (.nil (b5 ?_)))))))))))
   simp only[K3 hb1,or_t hb1,Bool.false_or,Bool.true_or,Bool.false_and,Bool.true_and]
   exact Sub.env ⟨Z,Z,Z,Y⟩
  ·refine AWP.u (W.fieldAddr Z Z Z Z (.E Z Z Z Z Z Z (.F Z Z Z (.j Z Z (.z Z Z Z hb1 (W.fieldAddr Z Z Z Z (.z Z Z Z hb1 (.E Z Z Z Z Z Z (.z Z Z Z hb1 (.gtr Z Z Z (.aa Z hb1 Z Z (.v Z Z (.nil (b5 ?_))))))))))))))
   simp only[D6 hb1,or_f hb1,Bool.false_or,Bool.true_or,Bool.false_and,Bool.true_and]
   exact Sub.env ⟨Z,Z,Z,Y⟩
 ·refine AWP.ac Z h (fun hc2 h=> ?_) (fun hc2 h=> ?_)
  ·refine AWP.q (.u (W.build Z Z Z Z (W.storeAgg Z Z Z Z Z Z Z (.nil (b5 (.ret (j5 (e6 ?_))))))))
   obtain rfl:=oi h
   exact Done.ret Z Z
  ·refine AWP.q (.u (W.fieldAddr Z Z Z Z (.E Z Z Z Z Z Z (S.len Z Z (fun hl19=>.gtr Z Z Z (.v Z Z (.nil (b5 (.ite Z h (fun hc3 h=> ?_) (fun hc3 h=> ?_))))))))))
   ·refine AWP.q (.u (W.build Z Z Z Z (W.storeAgg Z Z Z Z Z Z Z (.nil (b5 (.ret (j5 (e6 ?_))))))))
    obtain rfl:=oi h
    exact Done.ret Z Z
   ·refine AWP.skip (d6 (b5 (.q (.q (.u (W.fieldAddr Z Z Z Z (.E Z Z Z Z Z Z (S.len Z Z (fun hl24=>.j Z Z (.nil (b5 (.J ?_))))))))))))
    obtain⟨oo,ho1,h⟩:=bind_some h
    refine AWP.rngS ho1 (fun t4 _=>⟨[(1,(cP 0 0 0)),(2,(cP 1 0 0)),(23,.c (row 4 B3 nv.links)),(24,(cI (nv.links.length:Int))),(25,(cI t4))],[(oE 2 [int nv.events,row 4 B3 nv.links]),(oE 2 [int 0,int 0])]⟩) (fun o e st=>match o with| .inl _=>e=.exit 1∧Sub [] st ⟨[(2,(cP 1 0 0))],[(oE 2 [int nv.events,row 4 B3 nv.links]),(oE 2 [int 0,int 0])]⟩| .inr x=>e=.ret∧Done [.cell 2 28 2] (fun t _=>t=.agg [int x.code,int x.index]) .ret st) ?_ ?_ ?_ ?_
    ·try dsimp only
     exact Sub.env ⟨Z,Z,Z,Z,Z,Y⟩
    ·intro t4 s hlot4 hltt4 _
     try dsimp only
     refine AWP.q (.u (.F Z Z Z (.nil (b5 (.q (.ae Z hltt4 (.exit (d7 (d7 ⟨Z,?_⟩)))))))))
     exact Sub.env ⟨Z,Y⟩
    ·intro t4 s o hlot4 hltt4 h
     unfold V8 at h
     try dsimp only at h ⊢
     refine AWP.q (.u (.F Z Z Z (.nil (b5 (.q (.af Z hltt4 (.skip (b5 (.q (.J (.q ?_)))))))))))
     obtain⟨a28,ha28,h⟩:=bind_some h
     refine AWP.u (.j Z Z (S.idx ha28 Z Z Z Z (W.loadIAgg Z Z Z Z Z (W.alloc Z Z Z Z (.v Z Z (W.storeAgg Z Z Z Z Z Z Z (.nil (b5 (.q ?_)))))))))
     obtain⟨a33,ha33,h⟩:=bind_some h
     refine AWP.u (W.loadAgg Z Z Z Z Z Z Z (W.fieldAddr Z Z Z Z (.E Z Z Z Z Z Z (.O Z Z Z Z (au6 ha33) Z (.v Z Z (.nil (b5 (.q (.u (.j Z Z (.neq Z Z Z (.nil (b5 (.iteN Z h (fun hc5 h=> ?_) (fun hc5 h=> ?_)))))))))))))))
     ·refine AWP.q (.u (.j Z Z (.j Z Z (W.build Z Z Z Z (W.storeAgg Z Z Z Z Z Z Z (.nil (b5 (.ret (j5 (e6 ?_))))))))))
      obtain rfl:=oi h
      refine e6 ⟨_,Z,Z,?_⟩
      exact Done.ret Z Z
     ·refine AWP.skip (d6 (b5 (.u (.add Z Z Z (by omega) (.j Z Z (.nil ?_))))))
      obtain rfl:=oi h
      refine b5 ⟨_,Z,?_⟩
      exact Sub.cut ⟨Z,Z,Z,Z,Z,Y⟩ Z ⟨.one Z,.one Z,Y⟩ Z
    ·intro e s hq
     rcases oo with u|x
     ·try dsimp only at h hq
      obtain⟨rfl,hs⟩:=hq
      refine⟨_,hs,?_⟩
      refine i6 (b5 (.q (.u (W.build Z Z Z Z (W.storeAgg Z Z Z Z Z Z Z (.nil (b5 (.ret ?_))))))))
      obtain rfl:=oi h
      exact Done.ret Z Z
     ·try dsimp only at h hq
      obtain⟨rfl,hs⟩:=hq
      refine⟨_,Sub.refl _ _,?_⟩
      refine j5 (e6 ?_)
      obtain rfl:=oi h
      exact hs
theorem ar7{xv:Li}{r:Int}(h:J0 xv=some r):e9 prog 59 [(cR xv)] ((cI r)):=by
 unfold e9
 refine FnOk.enter (rs:=[.t 2]) func59 Z ntmps59 results59 Z ⟨Y,Y⟩ (by kernel_rfl) Z ?_
 unfold J0 at h
 refine AWP.q (.u (.v Z Z (.nil (b5 ?_))))
 obtain⟨u,hx2,h⟩:=bind_some h
 refine AWP.seqJ (⟨[(0,(cR xv))],[]⟩) ?_ ?_
 ·refine AWP.q (.u (.j Z Z (S.len Z Z (fun hl6=>.F Z Z Z (.nil (b5 (.ite Z hx2 (fun hc3 hx2=> ?_) (fun hc3 hx2=> ?_))))))))
  ·cases hx2
  ·refine AWP.skip ?_
   obtain rfl:=oi hx2
   refine b5 (Sub.env ⟨Z,Y⟩)
 ·try dsimp only at h
  refine AWP.q ?_
  obtain⟨a10,ha10,h⟩:=bind_some h
  refine AWP.u (.j Z Z (S.idx ha10 Z Z Z Z (.ag Z Z Z Z (.v Z Z (.nil (b5 (.q (.q (.u (.v Z Z (.nil (b5 (.J ?_)))))))))))))
  obtain⟨m4,ho1,h⟩:=bind_some h
  refine AWP.forS ho1 (fun iv5 m4=>⟨[(0,(cR xv)),(3,(cI m4)),(4,(cI iv5))],[]⟩) (fun m4 e st=>e=.exit 0∧Sub [] st ⟨[(3,(cI m4))],[]⟩) ?_ ?_ ?_ ?_
  ·try dsimp only
   exact Sub.env ⟨Z,Z,Z,Y⟩
  ·intro iv5 m4 hloiv5 hltiv5 _
   try dsimp only
   refine AWP.q (.q (.u (.j Z Z (.j Z Z (S.len Z Z (fun hl14=>.F Z Z Z (.nil (b5 (.ae Z hltiv5 (.exit (d7 (d7 ⟨Z,?_⟩))))))))))))
   exact Sub.env ⟨Z,Y⟩
  ·intro iv5 m4 o hloiv5 hltiv5 h
   unfold L4 at h
   try dsimp only at h ⊢
   refine AWP.q (.q (.u (.j Z Z (.j Z Z (S.len Z Z (fun hl14=>.F Z Z Z (.nil (b5 (.af Z hltiv5 (.skip (b5 (.q (.J ?_)))))))))))))
   obtain⟨a21,ha21,h⟩:=bind_some h
   refine AWP.u (.j Z Z (.j Z Z (.j Z Z (S.idx ha21 Z Z Z Z (.ag Z Z Z Z (.min2 Z Z Z (.v Z Z (.nil (d6 (b5 (.u (.j Z Z (.add Z Z Z (by omega) (.v Z Z (.nil ?_)))))))))))))))
   obtain rfl:=oi h
   refine b5 (Sub.env ⟨Z,Z,Z,Y⟩)
  ·intro e s hq
   obtain⟨rfl,hs⟩:=hq
   refine⟨_,hs,?_⟩
   refine i6 (b5 (.q (.u (.j Z Z (.v Z Z (.nil (b5 (.ret ?_))))))))
   obtain rfl:=oi h
   exact Done.ret Z Z
theorem at7{rowv:Li}{r:Bool}(h:S8 rowv=some r):e9 prog 58 [(cR rowv)] ((cB r)):=by
 unfold e9
 refine FnOk.enter (rs:=[.t 2]) func58 Z ntmps58 results58 Z ⟨Y,Y⟩ (by kernel_rfl) Z ?_
 unfold S8 at h
 refine AWP.q (.u (.v Z Z (.nil (b5 (.q ?_)))))
 obtain⟨a4,ha4,h⟩:=bind_some h
 refine AWP.u (.j Z Z (.O Z Z Z Z (ar7 ha4) Z (.F Z Z Z (.v Z Z (.nil (b5 (.ret ?_)))))))
 obtain rfl:=oi h
 exact Done.ret Z Z
theorem au4{nv:A4}{r:(LL)}(h:O9 nv=some r):FnOk prog 57 [.agg [int nv.events,row 4 B3 nv.links]] (V9 nv) (fun tt ss=>tt=.c (.own 1 0 r.length)∧ss=[.dead,mat (1,[]) 1 intI r]):=by
 refine FnOk.enter (rs:=[.t 2]) func57 Z ntmps57 results57 Z ⟨Y,Y⟩ (by kernel_rfl) Z ?_
 refine AWP.weak ?_
 unfold O9 at h
 refine AWP.q (.u (W.box Z Z Z Z Z Z (.v Z Z (.nil (b5 (.q ?_))))))
 obtain⟨a9,ha9,h⟩:=bind_some h
 refine AWP.u (W.fieldAddr Z Z Z Z (.E Z Z Z Z Z Z (S.makeM 1 intI ha9 Z Z Z Z Z (.v Z Z (.nil (b5 (.q (.q (.u (.j Z Z (S.lenM Z Z Z (fun hl11=>.j Z Z (.nil (b5 (.J ?_)))))))))))))))
 obtain⟨c53,ho1,h⟩:=bind_some h
 refine AWP.forS ho1 (fun t54 c53=>⟨[(1,(cP 0 0 0)),(3,.c (.own 1 0 c53.length)),(11,(cI (a9.length:Int))),(12,(cI t54))],[(oE 2 [int nv.events,row 4 B3 nv.links]),mat (1,[]) 1 intI c53]⟩) (fun c53 e st=>e=.exit 0∧Sub (V9 nv) st ⟨[(1,(cP 0 0 0)),(3,.c (.own 1 0 c53.length))],[(oE 2 [int nv.events,row 4 B3 nv.links]),mat (1,[]) 1 intI c53]⟩) ?_ ?_ ?_ ?_
 ·try dsimp only
  exact Sub.env ⟨Z,Z,Z,Z,Y⟩
 ·intro t54 c53 hlot54 hltt54 _
  try dsimp only
  refine AWP.q (.u (.F Z Z Z (.nil (b5 (.q (.ae Z hltt54 (.exit (d7 (d7 ⟨Z,?_⟩)))))))))
  exact Sub.env ⟨Z,Z,Y⟩
 ·intro t54 c53 o hlot54 hltt54 h
  unfold I2 at h
  try dsimp only at h ⊢
  refine AWP.q (.u (.F Z Z Z (.nil (b5 (.q (.af Z hltt54 (.skip (b5 (.q (.J (.q (.u (.j Z Z (.v Z Z (.nil (b5 (.q ?_)))))))))))))))))
  obtain⟨a20,ha20,a21,ha21,h⟩:=b2 h
  refine AWP.u (.j Z Z (.j Z Z (S.lit (f:=intI) (l:=[1000000000]) (ess:=[[int 1000000000]]) Z Z Z Z Z Z Z ⟨⟨.inl Z,Y⟩,Y⟩ Z Z Z (W.fieldAddr Z Z Z Z (.E Z Z Z Z Z Z (S.freshL (fun _=>Z) Z Z (.cons (.c (.own Z Z)) (.cons (.c .imm) .nil)) Z (an1 ha20) Z Z ?_))))))
  refine S.idxH ha21 Z Z Z (by simp) Z Z (S.storeH (B0 ha21).2 Z Z Z Z (.nil (b5 (.q (.moveR (k:=1) (f:=intI) (M:=c53) (env':=[(1,(cP 0 0 0)),(3,.c (.own 1 0 c53.length)),(4,(cI t54)),(11,(cI (a9.length:Int))),(12,(cI t54))]) (σ':=[(oE 2 [int nv.events,row 4 B3 nv.links]),mat (1,[]) 1 intI (c53.set t54.toNat a20),(oV 1 intI [1000000000])]) (r:=1) (s:=3) (p:=t54.toNat) (matS_at Z) (B0 ha21).2 Z Z Z Z Z (.inl Z) ⟨.one Z Z,.self,.vec,Y⟩ ⟨Z,Z,Z,Z,Z,Y⟩ Z Z ?_)))))
  obtain⟨a24,ha24,a26,ha26,h⟩:=b2 h
  refine AWP.u (.j Z Z (.j Z Z (S.idxH ha24 Z (by simp only[lS]) Z (by simp) Z Z (S.loadM ha24 Z Z Z Z (S.idxO ha26 Z Z (p9 Z ha24) Z Z (S.storeR1 (f:=intI) (a':=0) (B0 ha24).2 (h9 ha26) (fun _=>⟨_,Z⟩) Z Z Z Z Z ?_))))))
  refine AOps.nil (b5 ?_)
  obtain⟨a29,ha29,a32,ha32,h⟩:=b2 h
  refine AWP.u (.j Z Z (.j Z Z (S.idxH ha29 Z (by simp only[lS]) Z (by simp) Z Z (S.loadM ha29 Z Z Z Z (.j Z Z (S.idxO ha32 Z Z (p9 Z ha29) Z Z (S.storeR1 (f:=intI) (a':=0) (B0 ha29).2 (h9 ha32) (fun _=>⟨_,Z⟩) Z Z Z Z Z ?_)))))))
  refine AOps.nil (d6 (b5 (.u (.add Z Z Z (by omega) (.j Z Z (.nil ?_))))))
  obtain rfl:=oi h
  refine b5 (Sub.cut ⟨Z,(F2 (by first|rfl|simp only[lS])),Z,Z,Y⟩ Z ⟨.one Z,.mat Z,Y⟩ Z)
 ·intro e s hq
  obtain⟨rfl,hs⟩:=hq
  refine⟨_,hs,?_⟩
  refine i6 (b5 (.q (.q (.u (W.fieldAddr Z Z Z Z (.E Z Z Z Z Z Z (S.len Z Z (fun hl36=>.j Z Z (.nil (b5 (.J ?_)))))))))))
  obtain⟨c55,ho2,h⟩:=bind_some h
  refine AWP.forS ho2 (fun t56 c55=>⟨[(3,.c (.own 1 0 c55.length)),(35,.c (row 4 B3 nv.links)),(36,(cI (nv.links.length:Int))),(37,(cI t56))],[.dead,mat (1,[]) 1 intI c55]⟩) (fun c55 e st=>e=.exit 2∧Sub (V9 nv) st ⟨[(3,.c (.own 1 0 c55.length))],[.dead,mat (1,[]) 1 intI c55]⟩) ?_ ?_ ?_ ?_
  ·try dsimp only
   exact Sub.cut ⟨Z,Z,Z,Z,Y⟩ Z ⟨.dead,.mat Z,Y⟩ Z
  ·intro t56 c55 hlot56 hltt56 _
   try dsimp only
   refine AWP.q (.u (.F Z Z Z (.nil (b5 (.q (.ae Z hltt56 (.exit (d7 (d7 ⟨Z,?_⟩)))))))))
   exact Sub.env ⟨Z,Y⟩
  ·intro t56 c55 o hlot56 hltt56 h
   unfold P2 at h
   try dsimp only at h ⊢
   refine AWP.q (.u (.F Z Z Z (.nil (b5 (.q (.af Z hltt56 (.skip (b5 (.q (.J (.q ?_)))))))))))
   obtain⟨a39,ha39,h⟩:=bind_some h
   refine AWP.u (S.idx ha39 Z Z Z Z (W.loadIAgg Z Z Z Z Z (W.alloc Z Z Z Z (W.storeAgg Z Z Z Z Z Z Z (.nil (b5 (.q ?_)))))))
   obtain⟨a44,ha44,a51,ha51,a55,ha55,h⟩:=b3 h
   obtain⟨a60,ha60,h⟩:=bind_some h
   refine AWP.drawEI [20] mixed Z Z Z ?_
   refine d5.consN Z Z (fun E=>.j Z Z .N) Z (.consN Z Z (fun E=>W.fieldAddr Z Z Z Z .N) Z (.consN Z Z (fun E=>.E Z Z Z Z Z Z .N) Z (.consN Z Z (fun E=>S.idxH ha44 Z Z Z (by simp) Z Z .N) Z (.consN Z Z (fun E=>S.loadM ha44 Z Z Z Z .N) Z (.consN Z Z (fun E=>W.fieldAddr Z Z Z Z .N) Z (.consN Z Z (fun E=>.E Z Z Z Z Z Z .N) Z (.consN Z Z (fun E=>.j Z Z .N) Z (.consN Z Z (fun E=>W.fieldAddr Z Z Z Z .N) Z (.consN Z Z (fun E=>.E Z Z Z Z Z Z .N) Z (.consN Z Z (fun E=>S.idxH ha51 Z Z Z (by simp) Z Z .N) Z (.consN Z Z (fun E=>S.loadM ha51 Z Z Z Z .N) Z (.consN Z Z (fun E=>W.fieldAddr Z Z Z Z .N) Z (.consN Z Z (fun E=>.E Z Z Z Z Z Z .N) Z (.consN Z Z (fun E=>S.idxO ha55 Z Z (p9 Z ha51) Z Z .N) Z (.consN Z Z (fun E=>S.loadO ha55 Z Z (p9 Z ha51) Z Z .N) Z (.consN Z Z (fun E=>W.fieldAddr Z Z Z Z .N) Z (.consN Z Z (fun E=>.E Z Z Z Z Z Z .N) Z (.consN Z Z (fun E=>.min2 Z Z Z .N) Z (.consN Z Z (fun E=>S.idxO ha60 Z Z (p9 Z ha44) Z Z .N) Z ?_)))))))))))))))))))
   apply d5.consE (v:=.undef);exact Z;exact Z;intro E
   refine S.storeR1 (f:=intI) (a':=min a55 a39.high) (B0 ha44).2 (h9 ha60) (fun _=>⟨_,Z⟩) Z Z Z Z Z ?_
   exact AOps.nil ⟨Z,Z⟩
   exact Z
   exact Z
   refine d5.done Z ?_ ?_
   ·refine e8.cons Z Z (.go Z Z (fun E=>.j Z Z .N) (.skip Z .nil)) (.cons Z Z (.go Z Z (fun E=>W.fieldAddr Z Z Z Z .N) (.skip Z .nil)) (.cons Z Z (.go Z Z (fun E=>.E Z Z Z Z Z Z .N) (.skip Z .nil)) (.cons Z Z (.go Z Z (fun E=>S.idxH ha44 Z Z Z (by simp) Z Z .N) (.skip Z .nil)) (.cons Z Z (.go Z Z (fun E=>S.loadM ha44 Z Z Z Z .N) (.skip Z .nil)) (.cons Z Z (.go Z Z (fun E=>W.fieldAddr Z Z Z Z .N) (.skip Z .nil)) (.cons Z Z (.go Z Z (fun E=>.E Z Z Z Z Z Z .N) (.skip Z .nil)) (.cons Z Z (.go Z Z (fun E=>.j Z Z .N) (.skip Z .nil)) (.cons Z Z (.go Z Z (fun E=>W.fieldAddr Z Z Z Z .N) (.skip Z .nil)) (.cons Z Z (.go Z Z (fun E=>.E Z Z Z Z Z Z .N) (.skip Z .nil)) (.cons Z Z (.go Z Z (fun E=>S.idxH ha51 Z Z Z (by simp) Z Z .N) (.skip Z .nil)) (.cons Z Z (.go Z Z (fun E=>S.loadM ha51 Z Z Z Z .N) (.skip Z .nil)) ?_)))))))))))
    refine e8.cons Z Z (.go Z Z (fun E=>W.fieldAddr Z Z Z Z .N) (.skip Z .nil)) (.cons Z Z (.go Z Z (fun E=>.E Z Z Z Z Z Z .N) (.skip Z .nil)) (.cons Z Z (.go Z Z (fun E=>S.idxO ha55 Z Z (p9 Z ha51) Z Z .N) (.skip Z .nil)) (.cons Z Z (.go Z Z (fun E=>S.loadO ha55 Z Z (p9 Z ha51) Z Z .N) (.skip Z .nil)) (.cons Z Z (.go Z Z (fun E=>W.fieldAddr Z Z Z Z .N) (.skip Z .nil)) (.cons Z Z (.go Z Z (fun E=>.E Z Z Z Z Z Z .N) (.skip Z .nil)) (.cons Z Z (.go Z Z (fun E=>.min2 Z Z Z .N) (.skip Z .nil)) (.cons Z Z (.go Z Z (fun E=>S.idxO ha60 Z Z (p9 Z ha44) Z Z .N) (.skip Z .nil)) ?_)))))))
    refine e8.skip Z (e8.nil)
   dsimp only[j6]
   refine b5 ?_
   obtain⟨a64,ha64,a71,ha71,a75,ha75,h⟩:=b3 h
   obtain⟨a81,ha81,h⟩:=bind_some h
   refine AWP.drawEI [21] mixed Z Z Z ?_
   refine d5.consN Z Z (fun E=>.j Z Z .N) Z (.consN Z Z (fun E=>W.fieldAddr Z Z Z Z .N) Z (.consN Z Z (fun E=>.E Z Z Z Z Z Z .N) Z (.consN Z Z (fun E=>S.idxH ha64 Z (by simp only[lS]) Z (by simp) Z Z .N) Z (.consN Z Z (fun E=>S.loadM ha64 Z Z Z Z .N) Z (.consN Z Z (fun E=>W.fieldAddr Z Z Z Z .N) Z (.consN Z Z (fun E=>.E Z Z Z Z Z Z .N) Z (.consN Z Z (fun E=>.j Z Z .N) Z (.consN Z Z (fun E=>W.fieldAddr Z Z Z Z .N) Z (.consN Z Z (fun E=>.E Z Z Z Z Z Z .N) Z (.consN Z Z (fun E=>S.idxH ha71 Z (by simp only[lS]) Z (by simp) Z Z .N) Z (.consN Z Z (fun E=>S.loadM ha71 Z Z Z Z .N) Z (.consN Z Z (fun E=>W.fieldAddr Z Z Z Z .N) Z (.consN Z Z (fun E=>.E Z Z Z Z Z Z .N) Z (.consN Z Z (fun E=>S.idxO ha75 Z Z (p9 Z ha71) Z Z .N) Z (.consN Z Z (fun E=>S.loadO ha75 Z Z (p9 Z ha71) Z Z .N) Z (.consN Z Z (fun E=>W.fieldAddr Z Z Z Z .N) Z (.consN Z Z (fun E=>.E Z Z Z Z Z Z .N) Z (.consN Z Z (fun E=>S.neg Z Z .N) Z (.consN Z Z (fun E=>.min2 Z Z Z .N) Z (.consN Z Z (fun E=>S.idxO ha81 Z Z (p9 Z ha64) Z Z .N) Z ?_))))))))))))))))))))
   apply d5.consE (v:=.undef);exact Z;exact Z;intro E
   refine S.storeR1 (f:=intI) (a':=min a75 (w64 (0 - a39.low))) (B0 ha64).2 (h9 ha81) (fun _=>⟨_,Z⟩) Z Z Z Z Z ?_
   exact AOps.nil ⟨Z,Z⟩
   exact Z
   exact Z
   refine d5.done Z ?_ ?_
   ·refine e8.cons Z Z (.go Z Z (fun E=>.j Z Z .N) (.skip Z .nil)) (.cons Z Z (.go Z Z (fun E=>W.fieldAddr Z Z Z Z .N) (.skip Z .nil)) (.cons Z Z (.go Z Z (fun E=>.E Z Z Z Z Z Z .N) (.skip Z .nil)) (.cons Z Z (.go Z Z (fun E=>S.idxH ha64 Z (by simp only[lS]) Z (by simp) Z Z .N) (.skip Z .nil)) (.cons Z Z (.go Z Z (fun E=>S.loadM ha64 Z Z Z Z .N) (.skip Z .nil)) (.cons Z Z (.go Z Z (fun E=>W.fieldAddr Z Z Z Z .N) (.skip Z .nil)) (.cons Z Z (.go Z Z (fun E=>.E Z Z Z Z Z Z .N) (.skip Z .nil)) (.cons Z Z (.go Z Z (fun E=>.j Z Z .N) (.skip Z .nil)) (.cons Z Z (.go Z Z (fun E=>W.fieldAddr Z Z Z Z .N) (.skip Z .nil)) (.cons Z Z (.go Z Z (fun E=>.E Z Z Z Z Z Z .N) (.skip Z .nil)) (.cons Z Z (.go Z Z (fun E=>S.idxH ha71 Z (by simp only[lS]) Z (by simp) Z Z .N) (.skip Z .nil)) (.cons Z Z (.go Z Z (fun E=>S.loadM ha71 Z Z Z Z .N) (.skip Z .nil)) ?_)))))))))))
    refine e8.cons Z Z (.go Z Z (fun E=>W.fieldAddr Z Z Z Z .N) (.skip Z .nil)) (.cons Z Z (.go Z Z (fun E=>.E Z Z Z Z Z Z .N) (.skip Z .nil)) (.cons Z Z (.go Z Z (fun E=>S.idxO ha75 Z Z (p9 Z ha71) Z Z .N) (.skip Z .nil)) (.cons Z Z (.go Z Z (fun E=>S.loadO ha75 Z Z (p9 Z ha71) Z Z .N) (.skip Z .nil)) (.cons Z Z (.go Z Z (fun E=>W.fieldAddr Z Z Z Z .N) (.skip Z .nil)) (.cons Z Z (.go Z Z (fun E=>.E Z Z Z Z Z Z .N) (.skip Z .nil)) (.cons Z Z (.go Z Z (fun E=>S.neg Z Z .N) (.skip Z .nil)) (.cons Z Z (.go Z Z (fun E=>.min2 Z Z Z .N) (.skip Z .nil)) (.cons Z Z (.go Z Z (fun E=>S.idxO ha81 Z Z (p9 Z ha64) Z Z .N) (.skip Z .nil)) ?_))))))))
    refine e8.skip Z (e8.nil)
   dsimp only[j6]
   refine d6 (b5 (.u (.add Z Z Z (by omega) (.j Z Z (.nil ?_)))))
   obtain rfl:=oi h
   refine b5 (Sub.cut ⟨(F2 (by first|rfl|simp only[lS])),Z,Z,Z,Y⟩ Z ⟨.dead,.mat Z,Y⟩ Z)
  ·intro e s hq
   obtain⟨rfl,hs⟩:=hq
   refine⟨_,hs,?_⟩
   refine i6 (b5 (.q (.u (.j Z Z (.v Z Z (.nil (b5 (.ret ?_))))))))
   obtain rfl:=oi h
   exact⟨⟨[(2,.c (.own 1 0 c55.length))],[.dead,mat (1,[]) 1 intI c55]⟩,Sub.env ⟨Z,Y⟩,Done.ret Z ⟨Z,Z⟩⟩
theorem aw0{nv:A4}{r:(LL)×Bool}(h:R0 nv=some r):e9 prog 33 [.agg [int nv.events,row 4 B3 nv.links]] (.tup [.c (row 1 f7 r.1),(cB r.2)]):=by
 unfold e9
 refine FnOk.enter (rs:=[.t 2,.t 3]) func33 Z ntmps33 results33 Z ⟨Y,Y,Y⟩ (by kernel_rfl) Z ?_
 unfold R0 at h
 refine AWP.q (.u (W.box Z Z Z Z Z Z (.v Z Z (.v Z Z (.nil (b5 (.q ?_)))))))
 obtain⟨a10,ha10,h⟩:=bind_some h
 refine AWP.u (W.loadAgg Z Z Z Z Z Z Z (.callF (r2:=.c (.own 2 0 a10.length)) (σ'':=[(oE 2 [int nv.events,row 4 B3 nv.links]),.dead,mat (2,[]) 1 intI a10]) Z Z Z (FnOk.lend [] (au4 ha10) Z Z Z Z Z Z (by exact Y) Z (by exact Y) Z Z (by exact⟨(.old Z Z Z),.dead,(.new 1 Z Z .mat),Y⟩)) (.v Z Z (.nil (b5 (.q (.q (.u (.j Z Z (S.lenM Z Z Z (fun hl12=>.j Z Z (.nil (b5 (.J ?_))))))))))))))
 obtain⟨oo,ho1,h⟩:=bind_some h
 refine AWP.rngS ho1 (fun t3 c2=>⟨[(4,.c (.own 2 0 c2.length)),(12,(cI (a10.length:Int))),(13,(cI t3))],[.dead,.dead,mat (2,[]) 1 intI c2]⟩) (fun o e st=>match o with| .inl c2=>e=.exit 0∧Sub [] st ⟨[(4,.c (.own 2 0 c2.length))],[.dead,.dead,mat (2,[]) 1 intI c2]⟩| .inr x=>e=.ret∧Done [.t 2,.t 3] (fun t _=>t=.tup [.c (row 1 f7 x.1),(cB x.2)]) .ret st) ?_ ?_ ?_ ?_
 ·try dsimp only
  exact Sub.cut ⟨Z,Z,Z,Y⟩ Z ⟨.dead,.dead,.mat Z,Y⟩ Z
 ·intro t3 c2 hlot3 hltt3 _
  try dsimp only
  refine AWP.q (.u (.F Z Z Z (.nil (b5 (.q (.ae Z hltt3 (.exit (d7 (d7 ⟨Z,?_⟩)))))))))
  exact Sub.env ⟨Z,Y⟩
 ·intro t3 c2 o hlot3 hltt3 h
  unfold F4 at h
  try dsimp only at h ⊢
  refine AWP.q (.u (.F Z Z Z (.nil (b5 (.q (.af Z hltt3 (.skip (b5 (.q (.J (.q (.u (.j Z Z (.v Z Z (.nil (b5 (.q (.q (.u (.j Z Z (S.lenM Z Z Z (fun hl17=>.j Z Z (.nil (b5 (.J ?_)))))))))))))))))))))))))
  obtain⟨c4,ho2,h⟩:=bind_some h
  refine AWP.forS ho2 (fun t5 c4=>⟨[(4,.c (.own 2 0 c4.length)),(5,(cI t3)),(12,(cI (a10.length:Int))),(13,(cI t3)),(17,(cI (c2.length:Int))),(18,(cI t5))],[.dead,.dead,mat (2,[]) 1 intI c4]⟩) (fun c4 e st=>e=.exit 2∧Sub [] st ⟨[(4,.c (.own 2 0 c4.length)),(12,(cI (a10.length:Int))),(13,(cI t3))],[.dead,.dead,mat (2,[]) 1 intI c4]⟩) ?_ ?_ ?_ ?_
  ·try dsimp only
   exact Sub.env ⟨Z,Z,Z,Z,Z,Z,Y⟩
  ·intro t5 c4 hlot5 hltt5 _
   try dsimp only
   refine AWP.q (.u (.F Z Z Z (.nil (b5 (.q (.ae Z hltt5 (.exit (d7 (d7 ⟨Z,?_⟩)))))))))
   exact Sub.env ⟨Z,Z,Z,Y⟩
  ·intro t5 c4 o hlot5 hltt5 h
   unfold J8 at h
   try dsimp only at h ⊢
   refine AWP.q (.u (.F Z Z Z (.nil (b5 (.q (.af Z hltt5 (.skip (b5 (.q (.J (.q (.u (.j Z Z (.v Z Z (.nil (b5 (.q (.u (.j Z Z (S.lenM Z Z Z (fun hl22=>.j Z Z (.nil (b5 (.J ?_))))))))))))))))))))))))
   obtain⟨c6,ho3,h⟩:=bind_some h
   refine AWP.forS ho3 (fun t7 c6=>⟨[(4,.c (.own 2 0 c6.length)),(5,(cI t3)),(6,(cI t5)),(12,(cI (a10.length:Int))),(13,(cI t3)),(17,(cI (c2.length:Int))),(18,(cI t5)),(22,(cI (c4.length:Int))),(23,(cI t7))],[.dead,.dead,mat (2,[]) 1 intI c6]⟩) (fun c6 e st=>e=.exit 4∧Sub [] st ⟨[(4,.c (.own 2 0 c6.length)),(5,(cI t3)),(12,(cI (a10.length:Int))),(13,(cI t3)),(17,(cI (c2.length:Int))),(18,(cI t5))],[.dead,.dead,mat (2,[]) 1 intI c6]⟩) ?_ ?_ ?_ ?_
   ·try dsimp only
    exact Sub.env ⟨Z,Z,Z,Z,Z,Z,Z,Z,Z,Y⟩
   ·intro t7 c6 hlot7 hltt7 _
    try dsimp only
    refine AWP.q (.u (.F Z Z Z (.nil (b5 (.q (.ae Z hltt7 (.exit (d7 (d7 ⟨Z,?_⟩)))))))))
    exact Sub.env ⟨Z,Z,Z,Z,Z,Z,Y⟩
   ·intro t7 c6 o hlot7 hltt7 h
    unfold J3 at h
    try dsimp only at h ⊢
    refine AWP.q (.u (.F Z Z Z (.nil (b5 (.q (.af Z hltt7 (.skip (b5 ?_))))))))
    obtain⟨c8,hx9,h⟩:=bind_some h
    refine AWP.seqJ (⟨[(4,.c (.own 2 0 c8.length)),(5,(cI t3)),(6,(cI t5)),(12,(cI (a10.length:Int))),(13,(cI t3)),(17,(cI (c2.length:Int))),(18,(cI t5)),(22,(cI (c4.length:Int))),(23,(cI t7))],[.dead,.dead,mat (2,[]) 1 intI c8]⟩) ?_ ?_
    ·refine AWP.J (.q (.u (.j Z Z (.v Z Z (.nil (b5 ?_))))))
     obtain⟨t10,hx11,hx9⟩:=bind_some hx9
     refine AWP.seqJ (⟨[(4,.c (.own 2 0 c6.length)),(5,(cI t3)),(6,(cI t5)),(7,(cI t7)),(12,(cI (a10.length:Int))),(13,(cI t3)),(17,(cI (c2.length:Int))),(18,(cI t5)),(22,(cI (c4.length:Int))),(23,(cI t7)),(43,(cB t10))],[.dead,.dead,mat (2,[]) 1 intI c6]⟩) ?_ ?_
     ·obtain⟨a28,ha28,a31,ha31,hx11⟩:=b2 hx11
      rcases bft (decide (a31<1000000000)) with hb12|hb12
      ·replace hx11:=P1 hb12 hx11
       obtain⟨a37,ha37,a40,ha40,hx11⟩:=b2 hx11
       refine AWP.u (.j Z Z (.j Z Z (S.idxH ha28 Z Z Z (by simp) Z Z (S.loadM ha28 Z Z Z Z (.j Z Z (S.idxO ha31 Z Z (p9 Z ha28) Z Z (S.loadO ha31 Z Z (p9 Z ha28) Z Z (.F Z Z Z (.j Z Z (.z Z Z Z hb12 (.j Z Z (.z Z Z Z hb12 (.j Z Z (.z Z Z Z hb12 (S.idxH ha37 Z Z Z (by simp) Z Z (.z Z Z Z hb12 (S.loadM ha37 Z Z Z Z (.z Z Z Z hb12 (.j Z Z (.z Z Z Z hb12 (S.idxO ha40 Z Z (p9 Z ha37) Z Z (.z Z Z Z hb12 (S.loadO ha40 Z Z (p9 Z ha37) Z Z (.z Z Z Z hb12 (.F Z Z Z (.U Z hb12 Z Z (.nil ?_)))))))))))))))))))))))))))
       obtain rfl:=oi hx11
       refine b5 (Sub.env ⟨Z,Z,Z,Z,Z,Z,Z,Z,Z,Z,Z,Y⟩)
      ·replace hx11:=P3 hb12 hx11
       refine AWP.u (.j Z Z (.j Z Z (S.idxH ha28 Z Z Z (by simp) Z Z (S.loadM ha28 Z Z Z Z (.j Z Z (S.idxO ha31 Z Z (p9 Z ha28) Z Z (S.loadO ha31 Z Z (p9 Z ha28) Z Z (.F Z Z Z (.j Z Z (.B Z Z Z hb12 (.B Z Z Z hb12 (.B Z Z Z hb12 (.B Z Z Z hb12 (.B Z Z Z hb12 (.B Z Z Z hb12 (.B Z Z Z hb12 (.B Z Z Z hb12 (.aa Z hb12 Z Z (.nil ?_)))))))))))))))))))
       obtain rfl:=oi hx11
       refine b5 (Sub.env ⟨Z,Z,Z,Z,Z,Z,Z,Z,Z,Z,Z,Y⟩)
     ·refine AWP.ac Z hx9 (fun hc13 hx9=> ?_) (fun hc13 hx9=> ?_)
      ·obtain⟨a46,ha46,a51,ha51,a54,ha54,hx9⟩:=b3 hx9
       obtain⟨a58,ha58,a61,ha61,a65,ha65,hx9⟩:=b3 hx9
       obtain⟨a68,ha68,a72,ha72,hx9⟩:=b2 hx9
       refine AWP.drawEI [29] mixed Z Z Z ?_
       refine d5.consN Z Z (fun E=>.j Z Z .N) Z (.consN Z Z (fun E=>.j Z Z .N) Z (.consN Z Z (fun E=>S.idxH ha46 Z Z Z (by simp) Z Z .N) Z (.consN Z Z (fun E=>S.loadM ha46 Z Z Z Z .N) Z (.consN Z Z (fun E=>.j Z Z .N) Z (.consN Z Z (fun E=>.j Z Z .N) Z (.consN Z Z (fun E=>.j Z Z .N) Z (.consN Z Z (fun E=>S.idxH ha51 Z Z Z (by simp) Z Z .N) Z (.consN Z Z (fun E=>S.loadM ha51 Z Z Z Z .N) Z (.consN Z Z (fun E=>.j Z Z .N) Z (.consN Z Z (fun E=>S.idxO ha54 Z Z (p9 Z ha51) Z Z .N) Z (.consN Z Z (fun E=>S.loadO ha54 Z Z (p9 Z ha51) Z Z .N) Z (.consN Z Z (fun E=>.j Z Z .N) Z (.consN Z Z (fun E=>.j Z Z .N) Z (.consN Z Z (fun E=>S.idxH ha58 Z Z Z (by simp) Z Z .N) Z (.consN Z Z (fun E=>S.loadM ha58 Z Z Z Z .N) Z (.consN Z Z (fun E=>.j Z Z .N) Z (.consN Z Z (fun E=>S.idxO ha61 Z Z (p9 Z ha58) Z Z .N) Z (.consN Z Z (fun E=>S.loadO ha61 Z Z (p9 Z ha58) Z Z .N) Z (.consN Z Z (fun E=>.j Z Z .N) Z (.consN Z Z (fun E=>.j Z Z .N) Z (.consN Z Z (fun E=>S.idxH ha65 Z Z Z (by simp) Z Z .N) Z (.consN Z Z (fun E=>S.loadM ha65 Z Z Z Z .N) Z (.consN Z Z (fun E=>.j Z Z .N) Z (.consN Z Z (fun E=>S.idxO ha68 Z Z (p9 Z ha65) Z Z .N) Z (.consN Z Z (fun E=>S.loadO ha68 Z Z (p9 Z ha65) Z Z .N) Z (.consN Z Z (fun E=>S.add Z Z Z .N) Z (.consN Z Z (fun E=>.min2 Z Z Z .N) Z (.consN Z Z (fun E=>S.idxO ha72 Z Z (p9 Z ha46) Z Z .N) Z ?_))))))))))))))))))))))))))))
       apply d5.consE (v:=.undef);exact Z;exact Z;intro E
       refine S.storeR1 (f:=intI) (a':=min a54 (w64 (a61+a68))) (B0 ha46).2 (h9 ha72) (fun _=>⟨_,Z⟩) Z Z Z Z Z ?_
       exact AOps.nil ⟨Z,Z⟩
       exact Z
       exact Z
       refine d5.done Z ?_ ?_
       ·refine e8.cons Z Z (.go Z Z (fun E=>.j Z Z .N) (.skip Z .nil)) (.cons Z Z (.go Z Z (fun E=>.j Z Z .N) (.skip Z .nil)) (.cons Z Z (.go Z Z (fun E=>S.idxH ha46 Z Z Z (by simp) Z Z .N) (.skip Z .nil)) (.cons Z Z (.go Z Z (fun E=>S.loadM ha46 Z Z Z Z .N) (.skip Z .nil)) (.cons Z Z (.go Z Z (fun E=>.j Z Z .N) (.skip Z .nil)) (.cons Z Z (.go Z Z (fun E=>.j Z Z .N) (.skip Z .nil)) (.cons Z Z (.go Z Z (fun E=>.j Z Z .N) (.skip Z .nil)) (.cons Z Z (.go Z Z (fun E=>S.idxH ha51 Z Z Z (by simp) Z Z .N) (.skip Z .nil)) (.cons Z Z (.go Z Z (fun E=>S.loadM ha51 Z Z Z Z .N) (.skip Z .nil)) (.cons Z Z (.go Z Z (fun E=>.j Z Z .N) (.skip Z .nil)) (.cons Z Z (.go Z Z (fun E=>S.idxO ha54 Z Z (p9 Z ha51) Z Z .N) (.skip Z .nil)) (.cons Z Z (.go Z Z (fun E=>S.loadO ha54 Z Z (p9 Z ha51) Z Z .N) (.skip Z .nil)) ?_)))))))))))
        refine e8.cons Z Z (.go Z Z (fun E=>.j Z Z .N) (.skip Z .nil)) (.cons Z Z (.go Z Z (fun E=>.j Z Z .N) (.skip Z .nil)) (.cons Z Z (.go Z Z (fun E=>S.idxH ha58 Z Z Z (by simp) Z Z .N) (.skip Z .nil)) (.cons Z Z (.go Z Z (fun E=>S.loadM ha58 Z Z Z Z .N) (.skip Z .nil)) (.cons Z Z (.go Z Z (fun E=>.j Z Z .N) (.skip Z .nil)) (.cons Z Z (.go Z Z (fun E=>S.idxO ha61 Z Z (p9 Z ha58) Z Z .N) (.skip Z .nil)) (.cons Z Z (.go Z Z (fun E=>S.loadO ha61 Z Z (p9 Z ha58) Z Z .N) (.skip Z .nil)) (.cons Z Z (.go Z Z (fun E=>.j Z Z .N) (.skip Z .nil)) (.cons Z Z (.go Z Z (fun E=>.j Z Z .N) (.skip Z .nil)) (.cons Z Z (.go Z Z (fun E=>S.idxH ha65 Z Z Z (by simp) Z Z .N) (.skip Z .nil)) (.cons Z Z (.go Z Z (fun E=>S.loadM ha65 Z Z Z Z .N) (.skip Z .nil)) (.cons Z Z (.go Z Z (fun E=>.j Z Z .N) (.skip Z .nil)) ?_)))))))))))
        refine e8.cons Z Z (.go Z Z (fun E=>S.idxO ha68 Z Z (p9 Z ha65) Z Z .N) (.skip Z .nil)) (.cons Z Z (.go Z Z (fun E=>S.loadO ha68 Z Z (p9 Z ha65) Z Z .N) (.skip Z .nil)) (.cons Z Z (.go Z Z (fun E=>S.add Z Z Z .N) (.skip Z .nil)) (.cons Z Z (.go Z Z (fun E=>.min2 Z Z Z .N) (.skip Z .nil)) (.cons Z Z (.go Z Z (fun E=>S.idxO ha72 Z Z (p9 Z ha46) Z Z .N) (.skip Z .nil)) ?_))))
        refine e8.skip Z (e8.nil)
       dsimp only[j6]
       refine d6 ?_
       obtain rfl:=oi hx9
       refine b5 (Sub.env ⟨(F2 (by first|rfl|simp only[lS])),Z,Z,Z,Z,Z,Z,Z,Z,Y⟩)
      ·refine AWP.skip (d6 ?_)
       obtain rfl:=oi hx9
       refine b5 (Sub.env ⟨Z,Z,Z,Z,Z,Z,Z,Z,Z,Y⟩)
    ·refine AWP.u (.add Z Z Z (by omega) (.j Z Z (.nil ?_)))
     obtain rfl:=oi h
     refine b5 (Sub.env ⟨Z,Z,Z,Z,Z,Z,Z,Z,Z,Y⟩)
   ·intro e s hq
    obtain⟨rfl,hs⟩:=hq
    refine⟨_,hs,?_⟩
    refine i6 (d6 (b5 (.u (.add Z Z Z (by omega) (.j Z Z (.nil ?_))))))
    obtain rfl:=oi h
    refine b5 (Sub.env ⟨Z,Z,Z,Z,Z,Z,Y⟩)
  ·intro e s hq
   obtain⟨rfl,hs⟩:=hq
   refine⟨_,hs,?_⟩
   refine i6 (b5 (.q ?_))
   obtain⟨a76,ha76,h⟩:=bind_some h
   refine AWP.u (.j Z Z (.callLV (Sub.matV' (k:=1) (f:=intI) (env':=[(4,.c (.own 2 0 c4.length)),(12,(cI (a10.length:Int))),(13,(cI t3)),(75,.c (.own 2 0 c4.length))]) (σ':=[.dead,.dead,(oV 1 f7 c4)]) 2 Z ⟨Z,Z,Z,Z,Y⟩ Z (by exact⟨.dead,.dead,.self,Y⟩) Z Z) Z Z (.cons (.c (.own Z Z)) (.cons (.c (.fn .nil)) .nil)) Z (T2 Z (fun hy=>at7 hy) ha76) Z ?_))
   refine AOps.nil (b5 (.ac Z h (fun hc14 h=> ?_) (fun hc14 h=> ?_)))
   ·refine AWP.q (.u (.v Z Z (.v Z Z (.nil (b5 (.nilrow 1 2 Z (.ret (j5 (e6 ?_)))))))))
    obtain rfl:=oi h
    refine e6 ⟨_,Z,Z,?_⟩
    exact Done.ret Z Z
   ·refine AWP.skip (d6 (b5 (.u (.add Z Z Z (by omega) (.j Z Z (.nil ?_))))))
    obtain rfl:=oi h
    refine b5 ⟨_,Z,?_⟩
    exact Sub.env ⟨Z,Z,Z,Y⟩
 ·intro e s hq
  rcases oo with c2|x
  ·try dsimp only at h hq
   obtain⟨rfl,hs⟩:=hq
   refine⟨_,hs,?_⟩
   refine i6 (b5 (.q (.q (.u (.j Z Z (S.lenM Z Z Z (fun hl79=>.j Z Z (.nil (b5 (.J ?_))))))))))
   obtain⟨oo,ho4,h⟩:=bind_some h
   refine AWP.rngS ho4 (fun t15 _=>⟨[(4,.c (.own 2 0 c2.length)),(79,(cI (c2.length:Int))),(80,(cI t15))],[.dead,.dead,mat (2,[]) 1 intI c2]⟩) (fun o e st=>match o with| .inl _=>e=.exit 6∧Sub [] st ⟨[(4,.c (.own 2 0 c2.length))],[.dead,.dead,mat (2,[]) 1 intI c2]⟩| .inr x=>e=.ret∧Done [.t 2,.t 3] (fun t _=>t=.tup [.c (row 1 f7 x.1),(cB x.2)]) .ret st) ?_ ?_ ?_ ?_
   ·try dsimp only
    exact Sub.env ⟨Z,Z,Z,Y⟩
   ·intro t15 s hlot15 hltt15 _
    try dsimp only
    refine AWP.q (.u (.F Z Z Z (.nil (b5 (.q (.ae Z hltt15 (.exit (d7 (d7 ⟨Z,?_⟩)))))))))
    exact Sub.env ⟨Z,Y⟩
   ·intro t15 s o hlot15 hltt15 h
    unfold Q7 at h
    try dsimp only at h ⊢
    refine AWP.q (.u (.F Z Z Z (.nil (b5 (.q (.af Z hltt15 (.skip (b5 (.q (.J (.q (.u (.j Z Z (.v Z Z (.nil (b5 (.q ?_)))))))))))))))))
    obtain⟨a85,ha85,a88,ha88,h⟩:=b2 h
    refine AWP.u (.j Z Z (.j Z Z (S.idxH ha85 Z Z Z (by simp) Z Z (S.loadM ha85 Z Z Z Z (.j Z Z (S.idxO ha88 Z Z (p9 Z ha85) Z Z (S.loadO ha88 Z Z (p9 Z ha85) Z Z (.F Z Z Z (.nil (b5 (.ite Z h (fun hc16 h=> ?_) (fun hc16 h=> ?_))))))))))))
    ·refine AWP.q (.u (.v Z Z (.v Z Z (.nil (b5 (.nilrow 1 2 Z (.ret (j5 (e6 ?_)))))))))
     obtain rfl:=oi h
     refine e6 ⟨_,Z,Z,?_⟩
     exact Done.ret Z Z
    ·refine AWP.skip (d6 (b5 (.u (.add Z Z Z (by omega) (.j Z Z (.nil ?_))))))
     obtain rfl:=oi h
     refine b5 ⟨_,Z,?_⟩
     exact Sub.env ⟨Z,Z,Z,Y⟩
   ·intro e s hq
    rcases oo with u|x
    ·try dsimp only at h hq
     obtain⟨rfl,hs⟩:=hq
     refine⟨_,hs,?_⟩
     refine i6 (b5 (.q (.u (.j Z Z (.v Z Z (.v Z Z (.nil (b5 (.matV' (k:=1) (f:=intI) (env':=[(2,.c (.own 2 0 c2.length)),(3,(cB true))]) (σ':=[.dead,.dead,(oV 1 f7 c2)]) 2 Z ⟨Z,Z,Y⟩ Z (by exact⟨.dead,.dead,.self,Y⟩) Z Z (.frzV (id:=2) (l:=c2) (env2:=[(2,.c (row 1 f7 c2)),(3,(cB true))]) (σ2:=[.dead,.dead,.dead]) Z Z (by exact⟨⟨_,Z,.inr ⟨_,Z,Z,Z⟩⟩,⟨_,Z,.inl ⟨Z,Z⟩⟩,Y⟩) Z (by exact⟨Y,Y,Y,Y⟩) (.ret ?_)))))))))))
     obtain rfl:=oi h
     exact Done.ret Z Z
    ·try dsimp only at h hq
     obtain⟨rfl,hs⟩:=hq
     refine⟨_,Sub.refl _ _,?_⟩
     refine j5 (e6 ?_)
     obtain rfl:=oi h
     exact hs
  ·try dsimp only at h hq
   obtain⟨rfl,hs⟩:=hq
   refine⟨_,Sub.refl _ _,?_⟩
   refine j5 (e6 ?_)
   obtain rfl:=oi h
   exact hs
theorem aw2{nv:A4}{r:(LL)×Bool×g8}(h:W3 nv=some r):e9 prog 15 [.agg [int nv.events,row 4 B3 nv.links]] (.tup [.c (row 1 f7 r.1),(cB r.2.1),.agg [int r.2.2.code,int r.2.2.index]]):=by
 unfold e9
 refine FnOk.enter (rs:=[.t 2,.t 3,.cell 4 28 2]) func15 Z ntmps15 results15 Z ⟨Y,Y,rv _ Z,Y⟩ (by kernel_rfl) Z ?_
 unfold W3 at h
 refine AWP.q (.u (W.box Z Z Z Z Z Z (.v Z Z (.v Z Z (W.alloc Z Z Z Z (.nil (b5 (.q (.q ?_)))))))))
 obtain⟨a9,ha9,h⟩:=bind_some h
 refine AWP.u (W.loadAgg Z Z Z Z Z Z Z (.O Z Z Z Z (au5 ha9) Z (W.alloc Z Z Z Z (W.storeAgg Z Z Z Z Z Z Z (.nil (b5 (.q (.u (W.loadAgg Z Z Z Z Z Z Z (W.build Z Z Z Z (.neqP Z Z Z Z Z Z Z (.nil (b5 (.ac Z h (fun hc2 h=> ?_) (fun hc2 h=> ?_)))))))))))))))
 ·refine AWP.q (.drawEI [3] mixed Z Z Z ?_)
  refine d5.consN Z Z (fun E=>W.loadAgg Z Z Z Z Z Z Z .N) Z (.consN Z Z (fun E=>.v Z Z .N) Z (.consN Z Z (fun E=>.v Z Z .N) Z ?_))
  apply d5.consE (v:=.undef);exact Z;exact Z;intro E
  refine W.storeAgg Z Z Z Z Z Z Z .N
  exact Z
  exact Z
  refine d5.done Z ?_ ?_
  ·refine e8.cons Z Z (.go Z Z (fun E=>W.loadAgg Z Z Z Z Z Z Z .N) (.skip Z .nil)) (.cons Z Z (.go Z Z (fun E=>.v Z Z .N) (.skip Z .nil)) (.cons Z Z (.go Z Z (fun E=>.v Z Z .N) (.skip Z .nil)) ?_))
   refine e8.skip Z (e8.nil)
  dsimp only[j6]
  refine b5 (.nilrow 1 2 Z (.ret (e6 ?_)))
  obtain rfl:=oi h
  exact Done.ret Z Z
 ·refine AWP.skip (b5 (.q ?_))
  obtain⟨a16,ha16,h⟩:=bind_some h
  refine AWP.u (W.loadAgg Z Z Z Z Z Z Z (.O Z Z Z Z (aw0 ha16) Z (.j Z Z (.ab Z Z Z (.ab Z Z Z (.v Z Z (.v Z Z (.nil (b5 (.q (.u (.j Z Z (.j Z Z (W.build Z Z Z Z (.v Z Z (.v Z Z (W.storeAgg Z Z Z Z Z Z Z (.nil (b5 (.ret ?_))))))))))))))))))))
  obtain rfl:=oi h
  exact Done.ret Z Z
theorem au3{nv:A4}{r:Li×Bool×g8}(h:N8 nv=some r):e9 prog 6 [.agg [int nv.events,row 4 B3 nv.links]] (.tup [(cR r.1),(cB r.2.1),.agg [int r.2.2.code,int r.2.2.index]]):=by
 unfold e9
 refine FnOk.enter (rs:=[.t 2,.t 3,.cell 4 28 2]) func6 Z ntmps6 results6 Z ⟨Y,Y,rv _ Z,Y⟩ (by kernel_rfl) Z ?_
 unfold N8 at h
 refine AWP.q (.u (W.box Z Z Z Z Z Z (.v Z Z (.v Z Z (W.alloc Z Z Z Z (.nil (b5 (.q ?_))))))))
 obtain⟨a12,ha12,h⟩:=bind_some h
 refine AWP.u (W.loadAgg Z Z Z Z Z Z Z (.O Z Z Z Z (aw2 ha12) Z (.j Z Z (.ab Z Z Z (.ab Z Z Z (.ab Z Z Z (W.alloc Z Z Z Z (.v Z Z (.v Z Z (W.storeAgg Z Z Z Z Z Z Z (.nil (b5 (.q (.q (.u (.j Z Z (.not Z Z (.nil (b5 (.ac Z h (fun hc2 h=> ?_) (fun hc2 h=> ?_)))))))))))))))))))))
 ·refine AWP.q (.drawEI [3] mixed Z Z Z ?_)
  refine d5.consN Z Z (fun E=>W.loadAgg Z Z Z Z Z Z Z .N) Z (.consN Z Z (fun E=>.v Z Z .N) Z (.consN Z Z (fun E=>.v Z Z .N) Z ?_))
  apply d5.consE (v:=.undef);exact Z;exact Z;intro E
  refine W.storeAgg Z Z Z Z Z Z Z .N
  exact Z
  exact Z
  refine d5.done Z ?_ ?_
  ·refine e8.cons Z Z (.go Z Z (fun E=>W.loadAgg Z Z Z Z Z Z Z .N) (.skip Z .nil)) (.cons Z Z (.go Z Z (fun E=>.v Z Z .N) (.skip Z .nil)) (.cons Z Z (.go Z Z (fun E=>.v Z Z .N) (.skip Z .nil)) ?_))
   refine e8.skip Z (e8.nil)
  dsimp only[j6]
  refine b5 (.nilrow 1 2 Z (.ret (e6 ?_)))
  obtain rfl:=oi h
  exact Done.ret Z Z
 ·refine AWP.skip (b5 (.q (.u (.v Z Z (.nil (b5 (.q (.q (.u (.j Z Z (S.len Z Z (fun hl20=>.j Z Z (.nil (b5 (.J (.virtV 1 intI 8 Z Z Z ?_))))))))))))))))
  obtain⟨c3,ho1,h⟩:=bind_some h
  refine AWP.forS ho1 (fun t4 c3=>⟨[(4,(cP 1 0 0)),(5,.c (row 1 f7 a12.1)),(7,(cP 2 0 0)),(8,.c (.own 3 0 c3.length)),(20,(cI (a12.1.length:Int))),(21,(cI t4))],[.dead,(oE 2 [int 0,int 0]),(oE 2 [int a12.2.2.code,int a12.2.2.index]),(oV 1 intI c3)]⟩) (fun c3 e st=>e=.exit 0∧Sub [] st ⟨[(4,(cP 1 0 0)),(7,(cP 2 0 0)),(8,.c (.own 3 0 c3.length))],[.dead,(oE 2 [int 0,int 0]),(oE 2 [int a12.2.2.code,int a12.2.2.index]),(oV 1 intI c3)]⟩) ?_ ?_ ?_ ?_
  ·try dsimp only
   exact Sub.cut ⟨Z,Z,Z,(F2 (by first|rfl|simp only[lS])),Z,Z,Y⟩ Z ⟨.dead,.one Z,.one Z,.vec,Y⟩ Z
  ·intro t4 c3 hlot4 hltt4 _
   try dsimp only
   refine AWP.q (.u (.F Z Z Z (.nil (b5 (.q (.ae Z hltt4 (.exit (d7 (d7 ⟨Z,?_⟩)))))))))
   exact Sub.env ⟨Z,Z,Z,Y⟩
  ·intro t4 c3 o hlot4 hltt4 h
   unfold P4 at h
   try dsimp only at h ⊢
   refine AWP.q (.u (.F Z Z Z (.nil (b5 (.q (.af Z hltt4 (.skip (b5 (.q (.J (.q (.u (.j Z Z (.v Z Z (.nil (b5 ?_))))))))))))))))
   obtain⟨a27,ha27,a29,ha29,a33,ha33,h⟩:=b3 h
   refine AWP.u (.j Z Z (.j Z Z (.j Z Z (S.idx ha27 Z Z Z Z (.ag Z Z Z Z (S.idx ha29 Z Z Z Z (.ag Z Z Z Z (S.neg Z Z (S.lit (f:=intI) (l:=[w64 (0 - a29)]) (ess:=[[int (w64 (0 - a29))]]) Z Z Z Z Z Z Z ⟨⟨.inl Z,Y⟩,Y⟩ Z Z Z (S.append (f:=intI) ha33 Z Z Z Z Z Z (.own Z Z) Z Z Z Z (.v Z Z (.nil (d6 (b5 (.j (env':=[(4,(cP 1 0 0)),(5,.c (row 1 f7 a12.1)),(7,(cP 2 0 0)),(8,.c (.own 3 0 a33.length)),(20,(cI (a12.1.length:Int))),(21,(cI t4))]) (σ':=[.dead,(oE 2 [int 0,int 0]),(oE 2 [int a12.2.2.code,int a12.2.2.index]),(oV 1 intI a33),(oV 1 intI [w64 (0 - a29)])]) 3 5 Z Z Z ⟨Z,Z,Z,Z,Z,Z,Y⟩ Z ⟨Y,⟨Z,Z⟩,⟨Z,Z⟩,⟨Blk.im_ok _ _ _,g9 Z⟩,⟨Blk.im_ok _ _ _,g9 Z⟩,Y⟩ (.u (.add Z Z Z (by omega) (.j Z Z (.nil ?_)))))))))))))))))))
   obtain rfl:=oi h
   refine b5 (Sub.cut ⟨Z,Z,Z,Z,Z,Z,Y⟩ Z ⟨.dead,.one Z,.one Z,.vec,Y⟩ Z)
  ·intro e s hq
   obtain⟨rfl,hs⟩:=hq
   refine⟨_,hs,?_⟩
   refine i6 (b5 (.q (.drawEI [4] mixed Z Z Z ?_)))
   refine d5.consN Z Z (fun E=>.j Z Z .N) Z (.consN Z Z (fun E=>W.loadAgg Z Z Z Z Z Z Z .N) Z (.consN Z Z (fun E=>.v Z Z .N) Z (.consN Z Z (fun E=>.v Z Z .N) Z ?_)))
   apply d5.consE (v:=.undef);exact Z;exact Z;intro E
   refine W.storeAgg Z Z Z Z Z Z Z .N
   exact Z
   exact Z
   refine d5.done Z ?_ ?_
   ·refine e8.cons Z Z (.go Z Z (fun E=>.j Z Z .N) (.skip Z .nil)) (.cons Z Z (.go Z Z (fun E=>W.loadAgg Z Z Z Z Z Z Z .N) (.skip Z .nil)) (.cons Z Z (.go Z Z (fun E=>.v Z Z .N) (.skip Z .nil)) (.cons Z Z (.go Z Z (fun E=>.v Z Z .N) (.skip Z .nil)) ?_)))
    refine e8.skip Z (e8.nil)
   dsimp only[j6]
   refine b5 (.frzV (id:=3) (l:=c3) (env2:=[(2,(cR c3)),(3,(cB true)),(4,(cP 1 0 0))]) (σ2:=[.dead,(oE 2 [int a12.2.2.code,int a12.2.2.index]),(oE 2 [int a12.2.2.code,int a12.2.2.index]),.dead]) Z Z (by exact⟨⟨_,Z,.inr ⟨_,Z,Z,Z⟩⟩,⟨_,Z,.inl ⟨Z,Z⟩⟩,⟨_,Z,.inl ⟨Z,Z⟩⟩,Y⟩) Z (by exact⟨Y,⟨Z,.inl ⟨Z,Z⟩,.inl ⟨Z,Z⟩,Y⟩,⟨Z,.inl ⟨Z,Z⟩,.inl ⟨Z,Z⟩,Y⟩,Y,Y⟩) (.ret ?_))
   obtain rfl:=oi h
   exact Done.ret Z Z
theorem ay0{t:e7}{plan:Li}{r:Bool×g8}(h:V0 t plan=some r):e9 prog 7 [.agg (tT t),(cR plan)] (.tup [(cB r.1),.agg [int r.2.code,int r.2.index]]):=by
 unfold e9
 refine FnOk.enter (rs:=[.t 4,.cell 5 28 2]) func7 Z ntmps7 results7 Z ⟨Y,rv _ Z,Y⟩ (by kernel_rfl) Z ?_
 unfold V0 at h
 refine AWP.q (.u (W.box Z Z Z Z Z Z (.v Z Z (W.alloc Z Z Z Z (.nil (b5 (.q (.q ?_))))))))
 obtain⟨a9,ha9,h⟩:=bind_some h
 refine AWP.u (W.loadAgg Z Z Z Z Z Z Z (.j Z Z (.O Z Z Z Z (ah6 ha9) Z (W.alloc Z Z Z Z (W.storeAgg Z Z Z Z Z Z Z (.nil (b5 (.q (.u (W.loadAgg Z Z Z Z Z Z Z (W.build Z Z Z Z (.neqP Z Z Z Z Z Z Z (.nil (b5 (.ac Z h (fun hc3 h=> ?_) (fun hc3 h=> ?_))))))))))))))))
 ·refine AWP.q (.drawEI [2] mixed Z Z Z ?_)
  refine d5.consN Z Z (fun E=>W.loadAgg Z Z Z Z Z Z Z .N) Z (.consN Z Z (fun E=>.v Z Z .N) Z ?_)
  apply d5.consE (v:=.undef);exact Z;exact Z;intro E
  refine W.storeAgg Z Z Z Z Z Z Z .N
  exact Z
  exact Z
  refine d5.done Z ?_ ?_
  ·refine e8.cons Z Z (.go Z Z (fun E=>W.loadAgg Z Z Z Z Z Z Z .N) (.skip Z .nil)) (.cons Z Z (.go Z Z (fun E=>.v Z Z .N) (.skip Z .nil)) ?_)
   refine e8.skip Z (e8.nil)
  dsimp only[j6]
  refine b5 (.ret (e6 ?_))
  obtain rfl:=oi h
  exact Done.ret Z Z
 ·refine AWP.skip (b5 (.q ?_))
  obtain⟨a18,ha18,h⟩:=bind_some h
  refine AWP.u (W.loadAgg Z Z Z Z Z Z Z (W.fieldAddr Z Z Z Z (.E Z Z Z Z Z Z (.j Z Z (.O Z Z Z Z (ap8 ha18) Z (W.build Z Z Z Z (.v Z Z (W.storeAgg Z Z Z Z Z Z Z (.nil (b5 (.ret ?_)))))))))))
  obtain rfl:=oi h
  exact Done.ret Z Z
end Ab
end
section
namespace Ab
open Go Go.Proofs
open Tryz
set_option maxHeartbeats 4000000
set_option linter.all false
attribute [local irreducible] AWP AOps thn inB Done e9 q8 Sub
theorem aj1{t:e7}{plan:Li}{r:Bool}(h:H1 t plan=some r):e9 prog 3 [.agg (tT t),(cR plan)] ((cB r)):=by
 unfold e9
 refine FnOk.enter (rs:=[.t 4]) func3 Z ntmps3 results3 Z ⟨Y,Y⟩ (by kernel_rfl) Z ?_
 unfold H1 at h
 refine AWP.q (.u (W.box Z Z Z Z Z Z (.v Z Z (.nil (b5 (.q ?_))))))
 obtain⟨a20,ha20,h⟩:=bind_some h
 refine AWP.u (W.loadAgg Z Z Z Z Z Z Z (.j Z Z (.O Z Z Z Z (ap1 ha20) Z (.j Z Z (.ab Z Z Z (.ab Z Z Z (W.alloc Z Z Z Z (.v Z Z (W.storeAgg Z Z Z Z Z Z Z (.nil (b5 (.q (.seqJ (⟨[(1,(cR plan)),(2,(cP 0 0 0)),(5,.c (row 2 N9 a20.1)),(30,(cB ((!(decide (a20.2.code=0)))||(decide (30<(a20.1.length:Int))))))],[(oE 4 (tT t)),(oE 2 [int a20.2.code,int a20.2.index])]⟩) ?_ ?_)))))))))))))
 ·rcases bft (!(decide (a20.2.code=0))) with hb1|hb1
  ·refine AWP.u (W.fieldAddr Z Z Z Z (.E Z Z Z Z Z Z (.neq Z Z Z (.j Z Z (.B Z Z Z hb1 (.B Z Z Z hb1 (.B Z Z Z hb1 (.U Z hb1 Z Z (.nil (b5 ?_))))))))))
   simp only[K3 hb1,or_t hb1,Bool.false_or,Bool.true_or,Bool.false_and,Bool.true_and]
   exact Sub.env ⟨Z,Z,Z,Z,Y⟩
  ·refine AWP.u (W.fieldAddr Z Z Z Z (.E Z Z Z Z Z Z (.neq Z Z Z (.j Z Z (.z Z Z Z hb1 (.j Z Z ?_))))))
   refine AOps.z Z Z Z hb1 ?_;refine S.len Z Z (fun hl28=> ?_)
   refine AOps.z Z Z Z hb1 (.gtr Z Z Z (.aa Z hb1 Z Z (.nil (b5 ?_))))
   simp only[D6 hb1,or_f hb1,Bool.false_or,Bool.true_or,Bool.false_and,Bool.true_and]
   exact Sub.env ⟨Z,Z,Z,Z,Y⟩
 ·refine AWP.ac Z h (fun hc3 h=> ?_) (fun hc3 h=> ?_)
  ·refine AWP.q ?_
   obtain⟨a31,ha31,h⟩:=bind_some h
   refine AWP.u (.O Z Z Z Z (am9 ha31) Z (.v Z Z (.nil (b5 (.ret (e6 ?_))))))
   obtain rfl:=oi h
   exact Done.ret Z Z
  ·refine AWP.skip (b5 (.q (.u (.j Z Z (S.len Z Z (fun hl33=>S.add Z Z Z (W.build Z Z Z Z (W.alloc Z Z Z Z (W.storeAgg Z Z Z Z Z Z Z (.nil (b5 (.q (.q (.u (.v Z Z (.nil (b5 (.J (.virtB 4 B3 (b:=2) (o:=1) Z Z Z Z Z Z ?_)))))))))))))))))))
   obtain⟨c4,ho1,h⟩:=bind_some h
   refine AWP.forS ho1 (fun iv5 c4=>⟨[(1,(cR plan)),(2,(cP 0 0 0)),(5,.c (row 2 N9 a20.1)),(7,(cP 2 0 0)),(8,(cI iv5))],[(oE 4 (tT t)),.dead,(oE 2 [int (w64 ((plan.length:Int)+1)),.own 3 0 c4.length]),(oV 4 B3 c4)]⟩) (fun c4 e st=>e=.exit 0∧Sub [] st ⟨[(1,(cR plan)),(2,(cP 0 0 0)),(7,(cP 2 0 0))],[(oE 4 (tT t)),.dead,(oE 2 [int (w64 ((plan.length:Int)+1)),.own 3 0 c4.length]),(oV 4 B3 c4)]⟩) ?_ ?_ ?_ ?_
   ·try dsimp only
    exact Sub.cut ⟨Z,Z,Z,Z,Z,Y⟩ Z ⟨.one Z,.dead,(.eq Z (by first|rfl|(simp only[lS];done))),.vec,Y⟩ Z
   ·intro iv5 c4 hloiv5 hltiv5 _
    try dsimp only
    refine AWP.q (.q (.u (.j Z Z (.j Z Z (S.len Z Z (fun hl38=>.F Z Z Z (.nil (b5 (.ae Z hltiv5 (.exit (d7 (d7 ⟨Z,?_⟩))))))))))))
    exact Sub.env ⟨Z,Z,Z,Y⟩
   ·intro iv5 c4 o hloiv5 hltiv5 h
    unfold D5 at h
    try dsimp only at h ⊢
    refine AWP.q (.q (.u (.j Z Z (.j Z Z (S.len Z Z (fun hl38=>.F Z Z Z (.nil (b5 (.af Z hltiv5 (.skip (b5 (.q (.J ?_)))))))))))))
    obtain⟨a46,ha46,a52,ha52,a58,ha58,h⟩:=b3 h
    refine AWP.drawEI [15,16,18] mixed Z Z Z ?_
    refine d5.consN Z Z (fun E=>W.fieldAddr Z Z Z Z .N) Z (.consN Z Z (fun E=>.E Z Z Z Z Z Z .N) Z (.consN Z Z (fun E=>.j Z Z .N) Z (.consN Z Z (fun E=>.j Z Z .N) Z (.consN Z Z (fun E=>S.idx ha46 Z Z Z Z .N) Z (.consN Z Z (fun E=>W.idxArrI Z Z Z (Nat.le_of_ble_eq_true Z) Z Z .N) Z (.consN Z Z (fun E=>.ag Z Z Z Z .N) Z (.consN Z Z (fun E=>S.add Z Z Z .N) Z (.consN Z Z (fun E=>.j Z Z .N) Z (.consN Z Z (fun E=>.j Z Z .N) Z (.consN Z Z (fun E=>S.idx ha52 Z Z Z Z .N) Z (.consN Z Z (fun E=>W.idxArrI Z Z Z (Nat.le_of_ble_eq_true Z) Z Z .N) Z (.consN Z Z (fun E=>.ag Z Z Z Z .N) Z (.consN Z Z (fun E=>S.add Z Z Z .N) Z (.consN Z Z (fun E=>W.build Z Z Z Z .N) Z ?_))))))))))))))
    apply d5.consE;exact Z;exact Z;intro E
    refine S.lit (f:=B3) (l:=[(⟨w64 (a46.1+1),w64 (a52.2+1),1,1000⟩:Y9)]) (ess:=[[int (w64 (a46.1+1)),int (w64 (a52.2+1)),int 1,int 1000]]) Z Z Z Z Z Z Z ⟨⟨.inl Z,.inl Z,.inl Z,.inl Z,Y⟩,Y⟩ Z Z Z .N
    exact Z
    exact Z
    apply d5.consE;exact Z;exact Z;intro E
    refine S.append (f:=B3) ha58 Z Z Z Z Z Z (.own Z Z) Z Z Z Z .N
    exact Z
    exact Z
    refine d5.consN Z Z (fun E=>W.fieldAddr Z Z Z Z .N) Z ?_
    apply d5.consE (v:=.undef);exact Z;exact Z;intro E
    refine W.store Z Z Z Z Z .N
    exact Z
    exact Z
    refine d5.done Z ?_ ?_
    ·refine e8.cons Z Z (.go Z Z (fun E=>W.fieldAddr Z Z Z Z .N) (.go Z Z (fun E=>W.fieldAddr Z Z Z Z .N) (.skip Z (.skip Z .nil)))) (.cons Z Z (.go Z Z (fun E=>.E Z Z Z Z Z Z .N) (.go Z Z (fun E=>.E Z Z Z Z Z Z .N) (.skip Z (.skip Z .nil)))) (.cons Z Z (.go Z Z (fun E=>.j Z Z .N) (.skip Z (.skip Z (.skip Z .nil)))) (.cons Z Z (.go Z Z (fun E=>.j Z Z .N) (.skip Z (.skip Z (.skip Z .nil)))) (.cons Z Z (.go Z Z (fun E=>S.idx ha46 Z Z Z Z .N) (.skip Z (.skip Z (.skip Z .nil)))) (.cons Z Z (.go Z Z (fun E=>W.idxArrI Z Z Z (Nat.le_of_ble_eq_true Z) Z Z .N) (.skip Z (.skip Z (.skip Z .nil)))) (.cons Z Z (.go Z Z (fun E=>.ag Z Z Z Z .N) (.skip Z (.skip Z (.skip Z .nil)))) (.cons Z Z (.go Z Z (fun E=>S.add Z Z Z .N) (.skip Z (.skip Z (.skip Z .nil)))) (.cons Z Z (.go Z Z (fun E=>.j Z Z .N) (.skip Z (.skip Z (.skip Z .nil)))) (.cons Z Z (.go Z Z (fun E=>.j Z Z .N) (.skip Z (.skip Z (.skip Z .nil)))) (.cons Z Z (.go Z Z (fun E=>S.idx ha52 Z Z Z Z .N) (.skip Z (.skip Z (.skip Z .nil)))) (.cons Z Z (.go Z Z (fun E=>W.idxArrI Z Z Z (Nat.le_of_ble_eq_true Z) Z Z .N) (.skip Z (.skip Z (.skip Z .nil)))) ?_)))))))))))
     refine e8.cons Z Z (.go Z Z (fun E=>.ag Z Z Z Z .N) (.skip Z (.skip Z (.skip Z .nil)))) (.cons Z Z (.go Z Z (fun E=>S.add Z Z Z .N) (.skip Z (.skip Z (.skip Z .nil)))) (.cons Z Z (.go Z Z (fun E=>W.build Z Z Z Z .N) (.skip Z (.skip Z (.skip Z .nil)))) ?_))
     refine e8.skip Z (e8.skip Z ?_)
     refine e8.cons Z Z ?_ ?_
     refine f8.skip Z (f8.skip Z ?_)
     refine f8.go Z Z (fun E=>W.fieldAddr Z Z Z Z .N) ?_
     refine f8.skip Z (f8.nil)
     refine e8.skip Z (e8.nil)
    dsimp only[j6]
    refine d6 (b5 (.j (env':=[(1,(cR plan)),(2,(cP 0 0 0)),(5,.c (row 2 N9 a20.1)),(7,(cP 2 0 0)),(8,(cI iv5))]) (σ':=[(oE 4 (tT t)),.dead,(oE 2 [int (w64 ((plan.length:Int)+1)),.own 3 0 a58.length]),(oV 4 B3 a58),(oV 4 B3 [(⟨w64 (a46.1+1),w64 (a52.2+1),1,1000⟩:Y9)])]) 3 5 Z Z Z ⟨Z,Z,Z,Z,Z,Y⟩ Z ⟨⟨Z,Z⟩,Y,⟨Z,Z⟩,⟨Blk.im_ok _ _ _,g9 Z⟩,⟨Blk.im_ok _ _ _,g9 Z⟩,Y⟩ (.u (.j Z Z (.add Z Z Z (by omega) (.v Z Z (.nil ?_)))))))
    obtain rfl:=oi h
    refine b5 (Sub.cut ⟨Z,Z,Z,Z,Z,Y⟩ Z ⟨.one Z,.dead,.one Z,.vec,Y⟩ Z)
   ·intro e s hq
    obtain⟨rfl,hs⟩:=hq
    refine⟨_,hs,?_⟩
    refine i6 (b5 (.q ?_))
    obtain⟨a62,ha62,h⟩:=bind_some h
    refine AWP.u (W.loadAgg Z Z Z Z Z Z Z (.frzV (id:=3) (l:=c4) (env2:=[(1,(cR plan)),(2,(cP 0 0 0)),(61,.agg [int (w64 ((plan.length:Int)+1)),row 4 B3 c4])]) (σ2:=[(oE 4 (tT t)),.dead,(oE 2 [int (w64 ((plan.length:Int)+1)),row 4 B3 c4]),.dead]) Z Z (by exact⟨⟨_,Z,.inl ⟨Z,Z⟩⟩,⟨_,Z,.inl ⟨Z,Z⟩⟩,⟨_,Z,⟨.inl ⟨Z,Z⟩,.inr ⟨_,Z,Z,Z⟩,Y⟩⟩,Y⟩) Z (by exact⟨⟨Z,.inl ⟨Z,Z⟩,.inl ⟨Z,Z⟩,.inl ⟨Z,Z⟩,.inl ⟨Z,Z⟩,Y⟩,Y,⟨Z,.inl ⟨Z,Z⟩,.inr ⟨_,Z,Z,Z⟩,Y⟩,Y,Y⟩) (.O Z Z Z Z (au3 ha62) Z (.j Z Z (.ab Z Z Z (.ab Z Z Z (.ab Z Z Z (W.alloc Z Z Z Z (.v Z Z (.v Z Z (W.storeAgg Z Z Z Z Z Z Z (.nil (b5 (.q (.seqJ (⟨[(1,(cR plan)),(2,(cP 0 0 0)),(9,(cR a62.1)),(80,(cB (((!(decide (a62.2.2.code=0)))||(!a62.2.1))||(!(decide ((a62.1.length:Int)=w64 ((plan.length:Int)+1)))))))],[(oE 4 (tT t)),.dead,(oE 2 [int (w64 ((plan.length:Int)+1)),row 4 B3 c4]),.dead,(oE 2 [int a62.2.2.code,int a62.2.2.index])]⟩) ?_ ?_)))))))))))))))
    ·rcases bft (!(decide (a62.2.2.code=0))) with hb1|hb1
     ·refine AWP.u (W.fieldAddr Z Z Z Z (.E Z Z Z Z Z Z (.neq Z Z Z (.j Z Z (.B Z Z Z hb1 (.B Z Z Z hb1 (.U Z hb1 Z Z (.j Z Z (.B Z Z Z Z (.B Z Z Z Z (.B Z Z Z Z (.B Z Z Z Z (.B Z Z Z Z (.B Z Z Z Z (.U Z Z Z Z (.nil (b5 ?_)))))))))))))))))
      simp only[K3 hb1,or_t hb1,Bool.false_or,Bool.true_or,Bool.false_and,Bool.true_and]
      exact Sub.env ⟨Z,Z,Z,Z,Y⟩
     ·rcases bft (!a62.2.1) with hb2|hb2
      ·refine AWP.u (W.fieldAddr Z Z Z Z (.E Z Z Z Z Z Z (.neq Z Z Z (.j Z Z (.z Z Z Z hb1 (.j Z Z (.z Z Z Z hb1 (.not Z Z (.aa Z hb1 Z Z (.j Z Z (.B Z Z Z hb2 (.B Z Z Z hb2 (.B Z Z Z hb2 (.B Z Z Z hb2 (.B Z Z Z hb2 (.B Z Z Z hb2 (.U Z hb2 Z Z (.nil (b5 ?_)))))))))))))))))))
       simp only[D6 hb1,or_f hb1,K3 hb2,or_t hb2,Bool.false_or,Bool.true_or,Bool.false_and,Bool.true_and]
       exact Sub.env ⟨Z,Z,Z,Z,Y⟩
      ·refine AWP.u (W.fieldAddr Z Z Z Z (.E Z Z Z Z Z Z (.neq Z Z Z (.j Z Z (.z Z Z Z hb1 (.j Z Z (.z Z Z Z hb1 (.not Z Z (.aa Z hb1 Z Z (.j Z Z (.z Z Z Z hb2 (.j Z Z ?_))))))))))))
       refine AOps.z Z Z Z hb2 ?_;refine S.len Z Z (fun hl75=> ?_)
       refine AOps.z Z Z Z hb2 (.j Z Z ?_)
       refine AOps.z Z Z Z hb2 ?_;refine S.len Z Z (fun hl77=> ?_)
       refine AOps.z Z Z Z hb2 (S.add Z Z Z (.z Z Z Z hb2 (.neq Z Z Z (.aa Z hb2 Z Z (.nil (b5 ?_))))))
       simp only[D6 hb1,or_f hb1,D6 hb2,or_f hb2,Bool.false_or,Bool.true_or,Bool.false_and,Bool.true_and]
       exact Sub.env ⟨Z,Z,Z,Z,Y⟩
    ·refine AWP.ac Z h (fun hc6 h=> ?_) (fun hc6 h=> ?_)
     ·refine AWP.q (.u (.v Z Z (.nil (b5 (.ret (e6 ?_))))))
      obtain rfl:=oi h
      exact Done.ret Z Z
     ·refine AWP.skip (b5 (.q (.u (.v Z Z (.nil (b5 (.q (.q (.u (.v Z Z (.nil (b5 (.J (.virtV 1 intI 12 Z Z Z ?_))))))))))))))
      obtain⟨c9,ho2,h⟩:=bind_some h
      refine AWP.loopS ho2 (fun(c7,now8)=>⟨[(1,(cR plan)),(2,(cP 0 0 0)),(9,(cR a62.1)),(12,.c (.own 5 0 c7.length)),(13,(cI now8))],[(oE 4 (tT t)),.dead,.dead,.dead,.dead,(oV 1 intI c7)]⟩) (fun c9 e st=>e=.exit 2∧Sub [] st ⟨[(1,(cR plan)),(2,(cP 0 0 0)),(12,.c (.own 5 0 c9.length))],[(oE 4 (tT t)),.dead,.dead,.dead,.dead,(oV 1 intI c9)]⟩) ?_ ?_ ?_
      ·try dsimp only
       exact Sub.cut ⟨Z,Z,Z,(F2 (by first|rfl|simp only[lS])),Z,Y⟩ Z ⟨.one Z,.dead,.dead,.dead,.dead,.vec,Y⟩ Z
      ·intro s o h
       obtain⟨c7,now8⟩:=s
       unfold z6 at h
       try dsimp only at h ⊢
       refine AWP.q (.q (.u (.j Z Z (.j Z Z (S.len Z Z (fun hl83=>.leq Z Z Z (.nil (b5 (.ite Z h (fun hc10 h=> ?_) (fun hc10 h=> ?_))))))))))
       ·refine AWP.skip (b5 (.q (.J (.q (.u (.j Z Z (S.len Z Z (fun hl88=>.sub' Z Z Z (by omega) (.v Z Z (.nil (b5 (.J ?_))))))))))))
        obtain⟨c13,ho3,h⟩:=bind_some h
        refine AWP.loopS ho3 (fun(c11,iv12)=>⟨[(1,(cR plan)),(2,(cP 0 0 0)),(9,(cR a62.1)),(12,.c (.own 5 0 c11.length)),(13,(cI now8)),(14,(cI iv12))],[(oE 4 (tT t)),.dead,.dead,.dead,.dead,(oV 1 intI c11)]⟩) (fun c13 e st=>e=.exit 4∧Sub [] st ⟨[(1,(cR plan)),(2,(cP 0 0 0)),(9,(cR a62.1)),(12,.c (.own 5 0 c13.length)),(13,(cI now8))],[(oE 4 (tT t)),.dead,.dead,.dead,.dead,(oV 1 intI c13)]⟩) ?_ ?_ ?_
        ·try dsimp only
         exact Sub.env ⟨Z,Z,Z,Z,Z,Z,Y⟩
        ·intro s o h
         obtain⟨c11,iv12⟩:=s
         unfold A0 at h
         try dsimp only at h ⊢
         refine AWP.q (.q (.u (.j Z Z (.geq Z Z Z (.nil (b5 (.ite Z h (fun hc14 h=> ?_) (fun hc14 h=> ?_))))))))
         ·refine AWP.skip (b5 ?_)
          obtain⟨c15,hx16,h⟩:=bind_some h
          refine AWP.seqJ (⟨[(1,(cR plan)),(2,(cP 0 0 0)),(9,(cR a62.1)),(12,.c (.own 7 0 c15.length)),(13,(cI now8)),(14,(cI iv12))],[(oE 4 (tT t)),.dead,.dead,.dead,.dead,.dead,.dead,(oV 1 intI c15)]⟩) ?_ ?_
          ·refine AWP.J (.q ?_)
           obtain⟨a97,ha97,hx16⟩:=bind_some hx16
           refine AWP.u (.j Z Z (.j Z Z (S.add Z Z Z (S.idx ha97 Z Z Z Z (.ag Z Z Z Z (.j Z Z (.ad Z Z Z (.nil (b5 (.ite Z hx16 (fun hc17 hx16=> ?_) (fun hc17 hx16=> ?_)))))))))))
           ·obtain⟨a104,ha104,a107,ha107,hx16⟩:=b2 hx16
            refine AWP.u (.j Z Z (.j Z Z (.j Z Z (S.idx ha104 Z Z Z Z (.ag Z Z Z Z (S.lit (f:=intI) (l:=[a104]) (ess:=[[int a104]]) Z Z Z Z Z Z Z ⟨⟨.inl Z,Y⟩,Y⟩ Z Z Z (S.append (f:=intI) ha107 Z Z Z Z Z Z (.own Z Z) Z Z Z Z (.v Z Z (.nil (d6 ?_))))))))))
            obtain rfl:=oi hx16
            refine b5 (Sub.cut ⟨Z,Z,Z,Z,Z,Z,Y⟩ Z ⟨.one Z,.dead,.dead,.dead,.dead,.dead,.dead,.vec,Y⟩ Z)
           ·refine AWP.skip (d6 ?_)
            obtain rfl:=oi hx16
            refine b5 ((Sub.move (env':=[(1,(cR plan)),(2,(cP 0 0 0)),(9,(cR a62.1)),(12,.c (.own 7 0 c11.length)),(13,(cI now8)),(14,(cI iv12))]) (σ':=[(oE 4 (tT t)),.dead,.dead,.dead,.dead,.dead,.dead,(oV 1 intI c11)]) 7 5 Z Z Z ⟨Z,Z,Z,Z,Z,Z,Y⟩ Z ⟨⟨Z,Z⟩,Y,Y,Y,Y,Y,Y,⟨Blk.im_ok _ _ _,g9 Z⟩,Y⟩).trans (Sub.env ⟨Z,Z,Z,Z,Z,Z,Y⟩))
          ·refine AWP.u (.j Z Z (S.sub Z Z Z (.v Z Z (.nil ?_))))
           obtain rfl:=oi h
           refine b5 ⟨_,Z,?_⟩
           exact(Sub.move (env':=[(1,(cR plan)),(2,(cP 0 0 0)),(9,(cR a62.1)),(12,.c (.own 5 0 c15.length)),(13,(cI now8)),(14,(cI (w64 (iv12 - 1))))]) (σ':=[(oE 4 (tT t)),.dead,.dead,.dead,.dead,(oV 1 intI c15),.dead]) 5 7 Z Z Z ⟨Z,Z,Z,Z,Z,Z,Y⟩ Z ⟨⟨Z,Z⟩,Y,Y,Y,Y,⟨Blk.im_ok _ _ _,g9 Z⟩,Y,Y⟩).trans (Sub.cut ⟨Z,Z,Z,Z,Z,Z,Y⟩ Z ⟨.one Z,.dead,.dead,.dead,.dead,.vec,Y⟩ Z)
         ·refine AWP.exit (d7 ?_)
          obtain rfl:=oi h
          refine d7 ⟨_,Z,Z,?_⟩
          exact Sub.env ⟨Z,Z,Z,Z,Z,Y⟩
        ·intro e s hq
         obtain⟨rfl,hs⟩:=hq
         refine⟨_,hs,?_⟩
         refine i6 (d6 (b5 (.u (.j Z Z (S.add Z Z Z (.v Z Z (.nil ?_)))))))
         obtain rfl:=oi h
         refine b5 ⟨_,Z,?_⟩
         exact Sub.env ⟨Z,Z,Z,Z,Z,Y⟩
       ·refine AWP.exit (d7 ?_)
        obtain rfl:=oi h
        refine d7 ⟨_,Z,Z,?_⟩
        exact Sub.env ⟨Z,Z,Z,Y⟩
      ·intro e s hq
       obtain⟨rfl,hs⟩:=hq
       refine⟨_,hs,?_⟩
       refine i6 (b5 (.q ?_))
       obtain⟨a111,ha111,h⟩:=bind_some h
       refine AWP.u (W.loadAgg Z Z Z Z Z Z Z (.j Z Z (.callL Z Z (.cons (.agg (.cons .imm (.cons .imm (.cons .imm (.cons .imm .nil))))) (.cons (.c (.own Z Z)) .nil)) Z (ay0 ha111) Z (.j Z Z (.ab Z Z Z (.ab Z Z Z (W.alloc Z Z Z Z (.v Z Z (W.storeAgg Z Z Z Z Z Z Z (.nil (b5 ?_)))))))))))
       obtain⟨t18,hx19,h⟩:=bind_some h
       refine AWP.seqJ (⟨[(4,(cB t18))],[]⟩) ?_ ?_
       ·rcases bft (decide (a111.2.code=0)) with hb20|hb20
        ·replace hx19:=P1 hb20 hx19
         rcases bft (a111.1) with hb21|hb21
         ·replace hx19:=S7 hb21 hx19
          rcases bft (decide ((c9.length:Int)=(plan.length:Int))) with hb22|hb22
          ·replace hx19:=P1 hb22 hx19
           obtain⟨a128,ha128,hx19⟩:=bind_some hx19
           refine AWP.u (W.fieldAddr Z Z Z Z (.E Z Z Z Z Z Z (.ad Z Z Z (.j Z Z (.z Z Z Z hb20 (.j Z Z (.U Z hb20 Z Z (.j Z Z (.z Z Z Z hb21 (.j Z Z ?_))))))))))
           refine AOps.z Z Z Z hb21 ?_;refine S.lenO Z Z Z (fun hl122=> ?_)
           refine AOps.z Z Z Z hb21 (.j Z Z ?_)
           refine AOps.z Z Z Z hb21 ?_;refine S.len Z Z (fun hl124=> ?_)
           refine AOps.z Z Z Z hb21 (.ad Z Z Z (.U Z hb21 Z Z (.j Z Z (.z Z Z Z hb22 (.O Z Z Z Z (am9 ha128) Z (.U Z hb22 Z Z (.v Z Z (.nil ?_))))))))
           obtain rfl:=oi hx19
           refine b5 (Sub.cut ⟨Z,Y⟩ Z Y Z)
          ·replace hx19:=P3 hb22 hx19
           refine AWP.u (W.fieldAddr Z Z Z Z (.E Z Z Z Z Z Z (.ad Z Z Z (.j Z Z (.z Z Z Z hb20 (.j Z Z (.U Z hb20 Z Z (.j Z Z (.z Z Z Z hb21 (.j Z Z ?_))))))))))
           refine AOps.z Z Z Z hb21 ?_;refine S.lenO Z Z Z (fun hl122=> ?_)
           refine AOps.z Z Z Z hb21 (.j Z Z ?_)
           refine AOps.z Z Z Z hb21 ?_;refine S.len Z Z (fun hl124=> ?_)
           refine AOps.z Z Z Z hb21 (.ad Z Z Z (.U Z hb21 Z Z (.j Z Z (.B Z Z Z hb22 (.aa Z hb22 Z Z (.v Z Z (.nil ?_)))))))
           obtain rfl:=oi hx19
           refine b5 (Sub.cut ⟨Z,Y⟩ Z Y Z)
         ·replace hx19:=S6 hb21 hx19
          refine AWP.u (W.fieldAddr Z Z Z Z (.E Z Z Z Z Z Z (.ad Z Z Z (.j Z Z (.z Z Z Z hb20 (.j Z Z (.U Z hb20 Z Z (.j Z Z (.B Z Z Z hb21 (.B Z Z Z hb21 (.B Z Z Z hb21 (.B Z Z Z hb21 (.B Z Z Z hb21 (.aa Z hb21 Z Z (.j Z Z (.B Z Z Z Z (.aa Z Z Z Z (.v Z Z (.nil ?_)))))))))))))))))))
          obtain rfl:=oi hx19
          refine b5 (Sub.cut ⟨Z,Y⟩ Z Y Z)
        ·replace hx19:=P3 hb20 hx19
         refine AWP.u (W.fieldAddr Z Z Z Z (.E Z Z Z Z Z Z (.ad Z Z Z (.j Z Z (.B Z Z Z hb20 (.aa Z hb20 Z Z (.j Z Z (.B Z Z Z Z (.B Z Z Z Z (.B Z Z Z Z (.B Z Z Z Z (.B Z Z Z Z (.aa Z Z Z Z (.j Z Z (.B Z Z Z Z (.aa Z Z Z Z (.v Z Z (.nil ?_))))))))))))))))))
         obtain rfl:=oi hx19
         refine b5 (Sub.cut ⟨Z,Y⟩ Z Y Z)
       ·refine AWP.ret ?_
        obtain rfl:=oi h
        exact Done.ret Z Z
end Ab
end
section
namespace Ab
open Go
theorem M0{α:Type}{l:List α}{k:Nat}:ix l (k:Int)=l[k]? :=by simp[ix]
theorem m8{α:Type}{l:List α}{i:Int}(h0:0≤i)(h1:i<l.length):∃a,ix l i=some a∧l[i.toNat]? =some a:=by
 have h:i.toNat<l.length:=by omega
 exact⟨l[i.toNat],by simp[ix,h0,h],by simp[h]⟩
theorem w8{α:Type}{l:List α}{i:Int}{a:α}(h:ix l i=some a):0≤i∧i<l.length∧l[i.toNat]? =some a:=by
 unfold ix at h
 split at h
 ·have:=(lG.1 h).1
  exact⟨by assumption,by omega,h⟩
 ·cases h
theorem w7{n:Int}(h1: -9223372036854775808≤n)(h2:n≤9223372036854775807):w64 n=n:=w64_eq ⟨h1,h2⟩
theorem at3{S:Type}{body:Int→S→Option S}(P:Int→S→Prop):∀(k:Nat) (i:Int) (s:S),P i s→
  (∀j s,i≤j→j<i+k→P j s→∃s',body j s=some s'∧P (j+1) s')→∃s',forN body k i s=some s'∧P (i+k) s'
 |0,i,s,h,_=>⟨s,rfl,by simpa using h⟩
 |k+1,i,s,h,hb=>by
  obtain⟨s1,h1,h2⟩:=hb i s (Int.le_refl _) (by omega) h
  obtain⟨s2,h3,h4⟩:=at3 P k (i+1) s1 h2 (fun j s g1 g2=>hb j s (by omega) (by omega))
  exact⟨s2,by simp only[forN,h1];exact h3,by rw[show i+((k+1:Nat):Int)=i+1+k by omega];exact h4⟩
theorem C4{S:Type}{body:Int→S→Option S}{n:Int}(P:Int→S→Prop){s:S}(hn:0≤n)(h0:P 0 s)
  (hb:∀j s,0≤j→j<n→P j s→∃s',body j s=some s'∧P (j+1) s'):∃s',forR 0 n body s=some s'∧P n s':=by
 obtain⟨s',h1,h2⟩:=at3 P (n - 0).toNat 0 s h0 (fun j s g1 g2=>hb j s g1 (by omega))
 exact⟨s',h1,by rwa [show(0:Int)+((n - 0).toNat:Int)=n by omega] at h2⟩
theorem rngN_inv{S O:Type}{body:Int→S→Option (S⊕O)}(P:Int→S→Prop)(Q:O→Prop):∀(k:Nat) (i:Int) (s:S),P i s→
  (∀j s,i≤j→j<i+k→P j s→(∃s',body j s=some (.inl s')∧P (j+1) s')∨∃o,body j s=some (.inr o)∧Q o)→
  (∃s',rngN body k i s=some (.inl s')∧P (i+k) s')∨∃o,rngN body k i s=some (.inr o)∧Q o
 |0,i,s,h,_=>.inl ⟨s,rfl,by simpa using h⟩
 |k+1,i,s,h,hb=>by
  rcases hb i s (Int.le_refl _) (by omega) h with⟨s1,h1,h2⟩|⟨o,h1,h2⟩
  ·rcases rngN_inv P Q k (i+1) s1 h2 (fun j s g1 g2=>hb j s (by omega) (by omega)) with⟨s2,h3,h4⟩|⟨o,h3,h4⟩
   ·exact .inl ⟨s2,by simp only[rngN,h1];exact h3,by rw[show i+((k+1:Nat):Int)=i+1+k by omega];exact h4⟩
   ·exact .inr ⟨o,by simp only[rngN,h1];exact h3,h4⟩
  ·exact .inr ⟨o,by simp only[rngN,h1],h2⟩
theorem ah7{S O:Type}{body:Int→S→Option (S⊕O)}{n:Int}(P:Int→S→Prop)(Q:O→Prop){s:S}(hn:0≤n)(h0:P 0 s)
  (hb:∀j s,0≤j→j<n→P j s→(∃s',body j s=some (.inl s')∧P (j+1) s')∨∃o,body j s=some (.inr o)∧Q o):
  (∃s',rngX 0 n body s=some (.inl s')∧P n s')∨∃o,rngX 0 n body s=some (.inr o)∧Q o:=by
 rcases rngN_inv P Q (n - 0).toNat 0 s h0 (fun j s g1 g2=>hb j s g1 (by omega)) with⟨s',h1,h2⟩|h
 ·exact .inl ⟨s',h1,by rwa [show(0:Int)+((n - 0).toNat:Int)=n by omega] at h2⟩
 ·exact .inr h
theorem rngX_all{O:Type}{body:Int→Unit→Option (Unit⊕O)}{n:Int}(hn:0≤n)(hb:∀j,0≤j→j<n→body j ()=some (.inl ())):rngX 0 n body ()=some (.inl ()):=by
 rcases ah7 (body:=body) (fun _ _=>True) (fun _=>False) (s:=()) hn trivial (fun j s g1 g2 _=>.inl ⟨(),hb j g1 g2,trivial⟩) with⟨s',h,_⟩|⟨o,_,h⟩
 ·exact h
 ·exact h.elim
theorem LoopN_inv{S O:Type}{body:S→Option (S⊕O)}(P:S→Prop)(Q:O→Prop)(μ:S→Nat)(hb:∀s,P s→(∃s',body s=some (.inl s')∧P s'∧μ s'<μ s)∨∃o,body s=some (.inr o)∧Q o):
  ∀(k:Nat) (s:S),μ s<k→P s→∃o,R1 body k s=some o∧Q o
 |0,s,h,_=>by omega
 |k+1,s,h,hs=>by
  rcases hb s hs with⟨s',h1,h2,h3⟩|⟨o,h1,h2⟩
  ·obtain⟨o,g1,g2⟩:=LoopN_inv P Q μ hb k s' (by omega) h2
   exact⟨o,by simp only[R1,h1];exact g1,g2⟩
  ·exact⟨o,by simp only[R1,h1],h2⟩
theorem S4{S O:Type}{body:S→Option (S⊕O)}(P:S→Prop)(Q:O→Prop)(μ:S→Nat){s:S}(hs:P s)
  (hb:∀s,P s→(∃s',body s=some (.inl s')∧P s'∧μ s'<μ s)∨∃o,body s=some (.inr o)∧Q o):∃o,Loop body s=some o∧Q o:=by
 obtain⟨o,h1,h2⟩:=LoopN_inv P Q μ hb (μ s+1) s (by omega) hs
 exact⟨o,an4.2 ⟨_,h1⟩,h2⟩
/-! ### Two loops that do the same -/
theorem rngN_eq{S O:Type}{b1 b2:Int→S→Option (S⊕O)}(P:Int→S→Prop):∀(k:Nat) (i:Int) (s:S),P i s→
  (∀j s,i≤j→j<i+k→P j s→b1 j s=b2 j s∧b1 j s ≠ none∧∀s',b1 j s=some (.inl s')→P (j+1) s')→
  rngN b1 k i s=rngN b2 k i s∧rngN b1 k i s ≠ none∧∀s',rngN b1 k i s=some (.inl s')→P (i+k) s'
 |0,i,s,h,_=>⟨rfl,by simp[rngN],fun s' hs=>by simp only[rngN,Option.some.injEq,Sum.inl.injEq] at hs;subst hs;simpa using h⟩
 |k+1,i,s,h,hb=>by
  obtain⟨h1,h2,h3⟩:=hb i s (Int.le_refl _) (by omega) h
  simp only[rngN]
  rw[← h1]
  cases hc:b1 i s with
  |none=>exact absurd hc h2
  |some x=>
   cases x with
   |inr o=>exact⟨rfl,by simp,fun s' hs=>by simp at hs⟩
   |inl s1=>
    dsimp only
    have:=rngN_eq (b1:=b1) (b2:=b2) P k (i+1) s1 (h3 s1 hc) (fun j s g1 g2=>hb j s (by omega) (by omega))
    rwa [show i+1+(k:Int)=i+((k+1:Nat):Int) by omega] at this
theorem rngX_eq{S O:Type}{b1 b2:Int→S→Option (S⊕O)}{n:Int}(P:Int→S→Prop){s:S}(hn:0≤n)(h0:P 0 s)
  (hb:∀j s,0≤j→j<n→P j s→b1 j s=b2 j s∧b1 j s ≠ none∧∀s',b1 j s=some (.inl s')→P (j+1) s'):
  rngX 0 n b1 s=rngX 0 n b2 s∧rngX 0 n b1 s ≠ none∧∀s',rngX 0 n b1 s=some (.inl s')→P n s':=by
 have:=rngN_eq P (n - 0).toNat 0 s h0 (fun j s g1 g2=>hb j s g1 (by omega))
 rwa [show(0:Int)+((n - 0).toNat:Int)=n by omega] at this
end Ab
end
section
namespace Ab
open Go
noncomputable def dec(p:Prop):Bool:=@decide p (Classical.propDecidable p)
@[simp] theorem m6 {p:Prop}:dec p=true↔p:=by simp[dec]
@[simp] theorem dec_false {p:Prop}:dec p=false↔¬ p:=by simp[dec]
@[simp] theorem K8 {p:Prop}:(!dec p)=dec (¬ p):=by by_cases h:p<;>simp[dec,h]
theorem decide_dec{p:Prop}[Decidable p]:decide p=dec p:=by by_cases h:p<;>simp[dec,h]
theorem o7{p:Prop}(h:p):dec p=true:=m6.2 h
theorem B4{p:Prop}(h:¬ p):dec p=false:=dec_false.2 h
theorem I9{p q:Prop}(h:p↔q):dec p=dec q:=by rw[propext h]
theorem dec_and{p q:Prop}:(dec p && dec q)=dec (p∧q):=by by_cases h:p<;>by_cases g:q<;>simp[dec,h,g]
theorem dec_or{p q:Prop}:(dec p||dec q)=dec (p∨q):=by by_cases h:p<;>by_cases g:q<;>simp[dec,h,g]
theorem ifP{α:Type}{p:Prop}{a b:α}(h:p):(if dec p=true then a else b)=a:=if_pos (o7 h)
theorem ifN{α:Type}{p:Prop}{a b:α}(h:¬ p):(if dec p=true then a else b)=b:=if_neg fun g=>h (m6.1 g)
theorem ifNN{α:Type}{p:Prop}{a b:α}(h:p):(if dec (¬ p)=true then a else b)=b:=ifN (not_not_intro h)
theorem ix_ltN{α:Type}{l:List α}{k:Nat}(h:k<l.length):ix l (k:Int)=some l[k]:=by rw[M0];simp[h]
theorem v8{α:Type}{l:List α}{i:Int}{a:α}(h:ix l i=some a):a ∈ l:=List.mem_of_getElem? (w8 h).2.2
theorem C2{α:Type}{l:List α}{a:α}(h:a ∈ l):∃i:Int,0≤i∧i<l.length∧ix l i=some a:=by
 obtain⟨k,hk⟩:=List.getElem?_of_mem h
 exact⟨k,by omega,by have:=(lG.1 hk).1;omega,by rw[M0,hk]⟩
theorem J7{α:Type}{l:List α}{i j:Int}{x:α}(h0:0≤i)(h1:i<l.length)(hj:0≤j):ix (l.set i.toNat x) j=if j=i then some x else ix l j:=by
 simp only[ix,hj,if_true,List.getElem?_set]
 by_cases h:j=i
 ·subst h;rw[if_pos rfl,if_pos rfl,if_pos (by omega)]
 ·rw[if_neg h,if_neg (by omega)]
theorem X6{O:Type}{body:Int→Unit→Option (Unit⊕O)}{n:Int}(g:Int→Option O)(hn:0≤n)
  (hb:∀j,0≤j→j<n→(∀i,0≤i→i<j→g i=none)→body j ()=some (match g j with|none=>.inl ()|some o=>.inr o)):
  (rngX 0 n body ()=some (.inl ())∧∀j,0≤j→j<n→g j=none)∨∃j o,0≤j∧j<n∧g j=some o∧(∀i,0≤i→i<j→g i=none)∧rngX 0 n body ()=some (.inr o):=by
 rcases ah7 (body:=body) (n:=n) (fun j _=>∀i,0≤i→i<j→g i=none) (fun o=>∃j,0≤j∧j<n∧g j=some o∧∀i,0≤i→i<j→g i=none) (s:=()) hn (fun i h1 h2=>by omega) (fun j s h0 h1 hP=>by
  have:=hb j h0 h1 hP
  cases hg:g j with
  |none=>rw[hg] at this;exact .inl ⟨(),this,fun i h2 h3=>by
    rcases Int.lt_or_eq_of_le (Int.le_of_lt_add_one h3) with h|h
    ·exact hP i h2 h
    ·rw[h,hg]⟩
  |some o=>rw[hg] at this;exact .inr ⟨o,this,j,h0,h1,hg,hP⟩) with⟨s',h1,h2⟩|⟨o,h1,j,h2,h3,h4,h5⟩
 ·exact .inl ⟨h1,h2⟩
 ·exact .inr ⟨j,o,h2,h3,h4,h5,h1⟩
theorem at9{α O:Type}{l:List α}{body:Int→Unit→Option (Unit⊕O)}(q:α→Prop)(b:O)
  (hb:∀j a,ix l j=some a→(q a∧body j ()=some (.inl ()))∨(¬ q a∧body j ()=some (.inr b))):
  rngX 0 (l.length:Int) body ()=some (if dec (∀a ∈ l,q a)=true then .inl () else .inr b):=by
 rcases X6 (body:=body) (n:=(l.length:Int)) (fun j=>match ix l j with|some a=>if dec (q a)=true then none else some b|none=>none) (by omega) (fun j h0 h1 _=>by
  obtain⟨a,h2,_⟩:=m8 h0 h1
  rw[h2]
  rcases hb j a h2 with⟨h3,h4⟩|⟨h3,h4⟩
  ·rw[h4];simp[h3]
  ·rw[h4];simp[h3]) with⟨h1,h2⟩|⟨j,o,h0,h1,h2,_,h4⟩
 ·rw[h1,if_pos]
  rw[m6]
  intro a ha
  obtain⟨i,g1,g2,g3⟩:=C2 ha
  have:=h2 i g1 g2
  rw[g3] at this
  simpa using this
 ·rw[h4]
  obtain⟨a,g1,_⟩:=m8 h0 h1
  rw[g1] at h2
  simp only[m6] at h2
  split at h2
  ·cases h2
  ·rename_i hq
   cases h2
   rw[if_neg]
   rw[m6]
   exact fun h=>hq (o7 (h a (v8 g1)))
abbrev Inc(l:Li):Prop:=l.Pairwise (· < ·)
theorem inc_of_adj:∀{l:Li},(∀(k:Nat) a b,l[k]? =some a→l[k+1]? =some b→a<b)→Inc l
 |[],_=>.nil
 |[_],_=>by simp
 |a::b::l,h=>by
  have ih:Inc (b::l):=inc_of_adj fun k x y h1 h2=>h (k+1) x y (by simpa using h1) (by simpa using h2)
  have hab:a<b:=h 0 a b rfl rfl
  refine List.pairwise_cons.2 ⟨fun c hc=> ?_,ih⟩
  rcases List.mem_cons.1 hc with rfl|hc
  ·exact hab
  ·exact Int.lt_trans hab ((List.pairwise_cons.1 ih).1 c hc)
theorem Inc.get{l:Li}(h:Inc l){i j:Nat}{a b:Int}(hi:l[i]? =some a)(hj:l[j]? =some b)(hij:i<j):a<b:=by
 obtain⟨h1,rfl⟩:=lG.1 hi
 obtain⟨h2,rfl⟩:=lG.1 hj
 exact List.pairwise_iff_getElem.1 h i j h1 h2 hij
theorem Inc.ext:∀{l m:Li},Inc l→Inc m→(∀x,x ∈ l↔x ∈ m)→l=m
 |[],[],_,_,_=>rfl
 |[],b::m,_,_,h=>absurd ((h b).2 (by simp)) (by simp)
 |a::l,[],_,_,h=>absurd ((h a).1 (by simp)) (by simp)
 |a::l,b::m,hl,hm,h=>by
  obtain⟨l1,l2⟩:=List.pairwise_cons.1 hl
  obtain⟨m1,m2⟩:=List.pairwise_cons.1 hm
  have hab:a=b:=by
   rcases List.mem_cons.1 ((h a).1 (by simp)) with e|e
   ·exact e
   ·rcases List.mem_cons.1 ((h b).2 (by simp)) with e'|e'
    ·exact e'.symm
    ·have:=l1 b e';have:=m1 a e;omega
  subst hab
  rw[Inc.ext l2 m2 fun x=>⟨fun hx=> ?_,fun hx=> ?_⟩]
  ·rcases List.mem_cons.1 ((h x).1 (by simp[hx])) with e|e
   ·have:=l1 x hx;omega
   ·exact e
  ·rcases List.mem_cons.1 ((h x).2 (by simp[hx])) with e|e
   ·have:=m1 x hx;omega
   ·exact e
theorem Inc.filter{l:Li}(h:Inc l)(p:Int→Bool):Inc (l.filter p):=List.Pairwise.filter p h
def nums(lo:Int):Nat→Li
 |0=>[]
 |k+1=>lo::nums (lo+1) k
theorem Y0{x:Int}:∀{k:Nat} {lo:Int},x ∈ nums lo k↔lo≤x∧x<lo+k
 |0,lo=>by simp[nums]
 |k+1,lo=>by
  rw[nums,List.mem_cons,Y0 (k:=k)]
  omega
theorem at5:∀(k:Nat) (lo:Int),Inc (nums lo k)
 |0,_=>.nil
 |k+1,lo=>List.pairwise_cons.2 ⟨fun x hx=>by have:=Y0.1 hx;omega,at5 k (lo+1)⟩
theorem len_nums:∀(k:Nat) (lo:Int),(nums lo k).length=k
 |0,_=>rfl
 |k+1,lo=>by simp[nums,len_nums k]
noncomputable def W1(p:Int→Prop)(n:Int):Li:=(nums 0 n.toNat).filter fun x=>dec (p x)
theorem ae9{p:Int→Prop}{n x:Int}:x ∈ W1 p n↔0≤x∧x<n∧p x:=by
 rw[W1,List.mem_filter,Y0,m6]
 constructor
 ·rintro ⟨⟨h1,h2⟩,h3⟩;exact⟨h1,by omega,h3⟩
 ·rintro ⟨h1,h2,h3⟩;exact⟨⟨h1,by omega⟩,h3⟩
theorem inc_setOf(p:Int→Prop)(n:Int):Inc (W1 p n):=(at5 _ _).filter _
theorem aq8{p q:Int→Prop}{n:Int}(h:∀x,0≤x→x<n→(p x↔q x)):W1 p n=W1 q n:=by
 refine List.filter_congr fun x hx=>I9 ?_
 have:=Y0.1 hx
 exact h x (by omega) (by omega)
def SetN(l:Li)(n:Int):Prop:=Inc l∧∀x ∈ l,0≤x∧x<n
theorem setN_setOf(p:Int→Prop)(n:Int):SetN (W1 p n) n:=⟨inc_setOf p n,fun x hx=>by have:=ae9.1 hx;exact⟨this.1,this.2.1⟩⟩
theorem SetN.eq{l:Li}{n:Int}(h:SetN l n):l=W1 (· ∈ l) n:=
 h.1.ext (inc_setOf _ _) fun x=>⟨fun hx=>ae9.2 ⟨(h.2 x hx).1,(h.2 x hx).2,hx⟩,fun hx=>(ae9.1 hx).2.2⟩
theorem SetN.eq_of{l:Li}{n:Int}(h:SetN l n){p:Int→Prop}(hp:∀x,0≤x→x<n→(x ∈ l↔p x)):l=W1 p n:=
 h.eq.trans (aq8 hp)
theorem SetN.len{l:Li}{n:Int}(h:SetN l n):l.length≤n.toNat:=by
 rw[h.eq,W1]
 exact Nat.le_trans (List.length_filter_le _ _) (Nat.le_of_eq (len_nums _ _))
theorem U4(n:Int):SetN [] n:=⟨.nil,by simp⟩
theorem forR_filter{α:Type}{l:List α}{b:Nat}{body:Int→List α→Option (List α)}(q:α→Prop)
  (hb:∀j a c,ix l j=some a→(q a→body j c=app b c [a])∧(¬ q a→body j c=some c)) (c0:List α) (hl:(c0.length+l.length) * b≤140737488355328):
  forR 0 (l.length:Int) body c0=some (c0++l.filter fun a=>dec (q a)):=by
 obtain⟨s',h1,h2⟩:=C4 (body:=body) (n:=(l.length:Int)) (s:=c0) (fun j c=>c=c0++(l.take j.toNat).filter fun a=>dec (q a)) (by omega) (by simp) (fun j c h0 h1 hP=>by
  obtain⟨a,g1,g2⟩:=m8 h0 h1
  have e:(j+1).toNat=j.toNat+1:=by omega
  have ht:l.take (j+1).toNat=l.take j.toNat++[a]:=by rw[e,List.take_add_one,g2];rfl
  by_cases hq:q a
  ·have happ:app b c [a]=some (c++[a]):=by
    rw[app,if_pos]
    have h3:((l.take j.toNat).filter fun a=>dec (q a)).length≤(l.take j.toNat).length:=List.length_filter_le _ _
    rw[List.length_take] at h3
    have h5:c.length+1≤c0.length+l.length:=by rw[hP,List.length_append];omega
    refine Nat.le_trans (Nat.mul_le_mul_right b ?_) hl
    simpa using h5
   refine⟨c++[a],by rw[(hb j a c g1).1 hq,happ],?_⟩
   rw[ht,List.filter_append,hP]
   simp[hq]
  ·refine⟨c,(hb j a c g1).2 hq,?_⟩
   rw[ht,List.filter_append,hP]
   simp[hq])
 rw[h1,h2]
 simp
end Ab
end
section
namespace Ab
open Go
theorem has_eq(l:Li)(n:Int):ref1_Has l n=some (dec (n ∈ l)):=by
 unfold ref1_Has
 rw[at9 (l:=l) (fun a=>a ≠ n) true (fun j a h=>by
  unfold ref1_Has_l1
  rw[h]
  by_cases e:a=n<;>simp[e])]
 by_cases h:n ∈ l
 ·rw[if_neg (by simp only[m6];exact fun g=>g n h rfl)]
  simp[h]
 ·rw[if_pos (by simp only[m6];exact fun a ha e=>h (e ▸ ha))]
  simp[h]
theorem disjoint_eq(a b:Li):ak4 a b=some (dec (∀x ∈ a,x ∉ b)):=by
 unfold ak4
 rw[at9 (l:=a) (fun x=>x ∉ b) false (fun j x h=>by
  unfold ao4
  rw[h]
  by_cases e:x ∈ b<;>simp[e,has_eq])]
 by_cases h:∀x ∈ a,x ∉ b
 ·rw[if_pos (o7 h),o7 h];rfl
 ·rw[if_neg (by rw[B4 h];simp),B4 h];rfl
theorem in_eq(n lo hi:Int):am0 n lo hi=some (dec (lo≤n∧n≤hi)):=by
 unfold am0;rw[decide_dec,decide_dec,dec_and]
theorem at_eq(c i:Int):aa1 c i=some ⟨c,i⟩:=rfl
def stepOk(l:Li)(n j:Int):Prop:=∀a,ix l j=some a→(0≤a∧a<n)∧∀b,0<j→ix l (j - 1)=some b→b<a
theorem ak8{l:Li}{n:Int}:(∀j:Int,0≤j→j<l.length→stepOk l n j)↔SetN l n:=by
 constructor
 ·intro h
  refine⟨inc_of_adj fun k a b h1 h2=> ?_,fun x hx=> ?_⟩
  ·have hk:=(lG.1 h2).1
   have:=(h ((k+1:Nat):Int) (by omega) (by omega) b (by rw[M0];exact h2)).2 a (by omega)
   rw[show((k+1:Nat):Int) - 1=(k:Nat) by omega] at this
   exact this (by rw[M0];exact h1)
  ·obtain⟨i,h1,h2,h3⟩:=C2 hx
   exact(h i h1 h2 x h3).1
 ·intro h j h0 h1 a ha
  refine⟨h.2 a (v8 ha),fun b hj hb=> ?_⟩
  obtain⟨_,_,ga⟩:=w8 ha
  obtain⟨_,_,gb⟩:=w8 hb
  exact h.1.get gb ga (by omega)
theorem isSet_eq(l:Li)(n:Int):E8 l n=some (dec (SetN l n)):=by
 unfold E8
 rcases X6 (body:=W2 l n) (n:=(l.length:Int)) (fun j=>if dec (stepOk l n j)=true then none else some false) (by omega) (fun j h0 h1 _=>by
  obtain⟨a,ha,_⟩:=m8 (l:=l) h0 h1
  unfold W2
  rw[ha]
  simp only[oB]
  by_cases c1:a<0
  ·rw[if_pos c1,if_neg]
   ·rfl
   ·rw[m6];intro h;have:=(h a ha).1;omega
  ·rw[if_neg c1]
   by_cases c2:n≤a
   ·rw[if_pos c2,if_neg]
    ·rfl
    ·rw[m6];intro h;have:=(h a ha).1;omega
   ·rw[if_neg c2]
    by_cases c3:0<j
    ·obtain⟨b,hb,_⟩:=m8 (l:=l) (i:=j - 1) (by omega) (by omega)
     rw[if_pos c3,hb]
     simp only[oB]
     by_cases c4:a≤b
     ·rw[if_pos (by simpa using c4),if_neg]
      rw[m6];intro h;have:=(h a ha).2 b c3 hb;omega
     ·rw[if_neg (by simpa using c4),if_pos]
      rw[m6];intro x hx
      rw[ha] at hx;cases hx
      exact⟨by omega,fun y _ hy=>by rw[hb] at hy;cases hy;omega⟩
    ·rw[if_neg c3]
     simp only[oB]
     rw[if_neg (by simp),if_pos]
     rw[m6];intro x hx
     rw[ha] at hx;cases hx
     exact⟨by omega,fun y hy=>absurd hy c3⟩) with⟨h1,h2⟩|⟨j,o,h0,h1,h2,_,h4⟩
 ·rw[h1,o7]
  ·rfl
  ·exact ak8.1 fun j g1 g2=>by have:=h2 j g1 g2;simpa using this
 ·rw[h4]
  split at h2
  ·cases h2
  ·rename_i hs
   cases h2
   rw[B4]
   ·rfl
   ·exact fun h=>hs (o7 (ak8.2 h j h0 h1))
theorem rIsSet_eq(l:Li){n:Int}(hn: -9223372036854775808<n)(hn':n≤9223372036854775807):U2 l n=some (dec (SetN l n)):=by
 unfold U2
 rcases X6 (body:=ak1 l n) (n:=(l.length:Int)) (fun j=>if dec (stepOk l n j)=true then none else some false) (by omega) (fun j h0 h1 _=>by
  obtain⟨a,ha,_⟩:=m8 (l:=l) h0 h1
  unfold ak1
  rw[ha]
  simp only[oB,in_eq,w7 (n:=n - 1) (by omega) (by omega),K8]
  by_cases c1:0≤a∧a≤n - 1
  ·rw[if_neg (by simpa using c1)]
   by_cases c3:0<j
   ·obtain⟨b,hb,_⟩:=m8 (l:=l) (i:=j - 1) (by omega) (by omega)
    rw[if_pos c3,hb]
    simp only[oB]
    by_cases c4:a≤b
    ·rw[if_pos (by simpa using c4),if_neg]
     rw[m6];intro h;have:=(h a ha).2 b c3 hb;omega
    ·rw[if_neg (by simpa using c4),if_pos]
     rw[m6];intro x hx
     rw[ha] at hx;cases hx
     exact⟨by omega,fun y _ hy=>by rw[hb] at hy;cases hy;omega⟩
   ·rw[if_neg c3]
    simp only[oB]
    rw[if_neg (by simp),if_pos]
    rw[m6];intro x hx
    rw[ha] at hx;cases hx
    exact⟨by omega,fun y hy=>absurd hy c3⟩
  ·rw[if_pos (by simpa using c1),if_neg]
   ·rfl
   ·rw[m6];intro h;have:=(h a ha).1;omega) with⟨h1,h2⟩|⟨j,o,h0,h1,h2,_,h4⟩
 ·rw[h1,o7]
  ·rfl
  ·exact ak8.1 fun j g1 g2=>by have:=h2 j g1 g2;simpa using this
 ·rw[h4]
  split at h2
  ·cases h2
  ·rename_i hs
   cases h2
   rw[B4]
   ·rfl
   ·exact fun h=>hs (o7 (ak8.2 h j h0 h1))
theorem containsLoop{s:Li}(hs:Inc s)(hl:s.length≤1000000)(x:Int){i:Int}(h0:0≤i)(h1:i≤s.length)(hlt:∀k a,0≤k→k<i→ix s k=some a→a<x):
  ∃i',Loop (J9 s x) i=some i'∧i≤i'∧i'≤s.length∧(∀k a,0≤k→k<i'→ix s k=some a→a<x)∧(∀a,ix s i'=some a→x≤a):=by
 obtain⟨o,h2,h3⟩:=S4 (body:=J9 s x) (fun j=>i≤j∧j≤s.length∧∀k a,0≤k→k<j→ix s k=some a→a<x) (fun i'=>i≤i'∧i'≤s.length∧(∀k a,0≤k→k<i'→ix s k=some a→a<x)∧(∀a,ix s i'=some a→x≤a)) (fun j=>(s.length - j).toNat) (s:=i) ⟨Int.le_refl _,h1,hlt⟩ (fun j ⟨g1,g2,g3⟩=>by
  unfold J9
  by_cases c:j<s.length
  ·obtain⟨a,ha,_⟩:=m8 (l:=s) (i:=j) (by omega) c
   rw[if_pos c,ha]
   simp only[oB,decide_eq_true_eq]
   by_cases c2:a<x
   ·rw[if_pos c2]
    rw[w7 (by omega) (by omega)]
    refine .inl ⟨j+1,rfl,⟨by omega,by omega,fun k b k0 k1 hb=> ?_⟩,by omega⟩
    by_cases e:k=j
    ·subst e;rw[ha] at hb;cases hb;exact c2
    ·exact g3 k b k0 (by omega) hb
   ·rw[if_neg c2]
    exact .inr ⟨j,rfl,g1,g2,g3,fun b hb=>by rw[ha] at hb;cases hb;omega⟩
  ·rw[if_neg c]
   exact .inr ⟨j,rfl,g1,g2,g3,fun b hb=>by have:=(w8 hb).2.1;omega⟩)
 exact⟨o,h2,h3⟩
theorem aq3{s part:Li}(hs:Inc s)(hp:Inc part)(hl:s.length≤1000000):G6 s part=some (dec (∀x ∈ part,x ∈ s)):=by
 unfold G6
 rcases ah7 (body:=R2 s part) (n:=(part.length:Int)) (fun j i=>(0≤i∧i≤s.length∧∀k a,0≤k→k<i→ix s k=some a→∀m x,j≤m→ix part m=some x→a<x)∧∀m x,0≤m→m<j→ix part m=some x→x ∈ s) (fun o=>o=false∧¬ ∀x ∈ part,x ∈ s) (s:=0) (by omega) ⟨⟨by omega,by omega,fun k a h1 h2=>by omega⟩,fun m x h1 h2=>by omega⟩ (fun j i h0 h1 ⟨⟨g1,g2,g3⟩,g4⟩=>by
  obtain⟨x,hx,gx⟩:=m8 (l:=part) h0 h1
  unfold R2
  obtain⟨i',e1,e2,e3,e4,e5⟩:=containsLoop hs hl x g1 g2 (fun k a k0 k1 ha=>g3 k a k0 k1 ha j x (Int.le_refl _) hx)
  rw[hx]
  simp only[oB,e1]
  have nin:(∀a,ix s i'=some a→x<a)→x ∉ s:=fun hgt hin=>by
   obtain⟨k,k0,k1,hk⟩:=C2 hin
   rcases Int.lt_trichotomy k i' with c|c|c
   ·have:=e4 k x k0 c hk;omega
   ·subst c;have:=hgt x hk;omega
   ·obtain⟨b,hb,gb⟩:=m8 (l:=s) (i:=i') (by omega) (by omega)
    obtain⟨_,_,gk⟩:=w8 hk
    have:=hs.get gb gk (by omega)
    have:=e5 b hb
    omega
  by_cases c:i'=s.length
  ·rw[if_pos c]
   refine .inr ⟨false,rfl,rfl,fun h=> ?_⟩
   exact nin (fun a ha=>by have:=(w8 ha).2.1;omega) (h x (v8 hx))
  ·rw[if_neg c]
   obtain⟨b,hb,gb⟩:=m8 (l:=s) (i:=i') (by omega) (by omega)
   rw[hb]
   simp only[oB]
   have hxb:=e5 b hb
   by_cases c2:b=x
   ·subst c2
    rw[if_neg (by simp)]
    refine .inl ⟨i',rfl,⟨by omega,e3,fun k a k0 k1 ha m y hm hy=> ?_⟩,fun m y m0 m1 hy=> ?_⟩
    ·obtain⟨_,_,gy⟩:=w8 hy
     have:=hp.get gx gy (by omega)
     have:=e4 k a k0 k1 ha
     omega
    ·by_cases e:m=j
     ·subst e;rw[hx] at hy;cases hy;exact v8 hb
     ·exact g4 m y m0 (by omega) hy
   ·rw[if_pos (by simpa using c2)]
    refine .inr ⟨false,rfl,rfl,fun h=> ?_⟩
    exact nin (fun a ha=>by rw[hb] at ha;cases ha;omega) (h x (v8 hx))) with⟨s',h1,_,h2⟩|⟨o,h1,rfl,h2⟩
 ·rw[h1,o7]
  ·rfl
  ·intro x hx
   obtain⟨m,m0,m1,hm⟩:=C2 hx
   exact h2 m x m0 m1 hm
 ·rw[h1,B4 h2];rfl
end Ab
end
section
namespace Ab
open Go
theorem half_eq{i j:Int}(h0:0≤i)(h1:i≤j)(h2:j≤1000000):w64 (shrW .u64 ((IntKind.u64).wrap (w64 (i+j))) 1)=(i+j) / 2:=by
 rw[w7 (n:=i+j) (by omega) (by omega),IntKind.wrap_u64,Int.emod_eq_of_lt (by omega) (by omega)]
 have:shrW .u64 (i+j) 1=(i+j) / 2:=by
  simp only[shrW,IntKind.bits]
  rw[show min (1:Int).toNat 64=1 by rfl,Int.fdiv_eq_ediv_of_nonneg _ (by decide)]
  rfl
 rw[this]
 exact w7 (by omega) (by omega)
theorem less_eq(a b:Int):W8 a b=some (decide (a<b)):=by simp[W8,cmp_isNaN_int]
theorem bsearch_eq{xs:Li}(hs:Inc xs)(hl:xs.length≤500000)(t:Int):∃i,v7 xs t=some (i,dec (t ∈ xs))∧0≤i∧i≤xs.length∧(∀k a,0≤k→k<i→ix xs k=some a→a<t)∧(∀k a,i≤k→ix xs k=some a→t≤a):=by
 unfold v7
 obtain⟨i,h1,h2,h3,h4,h5⟩:=S4 (body:=B5 xs t) (fun p=>(0≤p.1∧p.1≤p.2∧p.2≤xs.length)∧(∀k a,0≤k→k<p.1→ix xs k=some a→a<t)∧(∀k a,p.2≤k→ix xs k=some a→t≤a))
  (fun i=>0≤i∧i≤xs.length∧(∀k a,0≤k→k<i→ix xs k=some a→a<t)∧(∀k a,i≤k→ix xs k=some a→t≤a)) (fun p=>(p.2 - p.1).toNat) (s:=(0,(xs.length:Int)))
  ⟨⟨by simp,by simp,by simp⟩,fun k a h1 h2=>by simp at h2;omega,fun k a h1 h2=>by have:=(w8 h2).2.1;simp at h1;omega⟩ (fun⟨i,j⟩ ⟨⟨g1,g2,g3⟩,g4,g5⟩=>by
  dsimp only at g1 g2 g3 g4 g5 ⊢
  unfold B5
  dsimp only
  by_cases c:i<j
  ·rw[if_pos c,half_eq g1 g2 (by omega)]
   obtain⟨a,ha,ga⟩:=m8 (l:=xs) (i:=(i+j) / 2) (by omega) (by omega)
   rw[ha]
   simp only[oB,less_eq,decide_eq_true_eq]
   by_cases c2:a<t
   ·rw[if_pos c2,w7 (by omega) (by omega)]
    refine .inl ⟨_,rfl,⟨⟨by dsimp only;omega,by dsimp only;omega,g3⟩,fun k b k0 k1 hb=> ?_,g5⟩,by dsimp only;omega⟩
    dsimp only at k1
    obtain⟨_,_,gb⟩:=w8 hb
    by_cases e:k=(i+j) / 2
    ·subst e;rw[ha] at hb;cases hb;exact c2
    ·have:=hs.get gb ga (by omega);omega
   ·rw[if_neg c2]
    refine .inl ⟨_,rfl,⟨⟨g1,by dsimp only;omega,by dsimp only;omega⟩,g4,fun k b k0 hb=> ?_⟩,by dsimp only;omega⟩
    dsimp only at k0
    obtain⟨_,_,gb⟩:=w8 hb
    by_cases e:k=(i+j) / 2
    ·subst e;rw[ha] at hb;cases hb;omega
    ·have:=hs.get ga gb (by omega);omega
  ·rw[if_neg c]
   have:i=j:=by omega
   subst this
   exact .inr ⟨i,rfl,g1,g3,g4,g5⟩)
 rw[h1]
 simp only[oB]
 refine⟨i,?_,h2,h3,h4,h5⟩
 have nin:(∀a,ix xs i=some a→a ≠ t)→t ∉ xs:=fun hne hin=>by
  obtain⟨k,k0,k1,hk⟩:=C2 hin
  rcases Int.lt_trichotomy k i with c|c|c
  ·have:=h4 k t k0 c hk;omega
  ·subst c;exact hne t hk rfl
  ·obtain⟨b,hb,gb⟩:=m8 (l:=xs) (i:=i) (by omega) (by omega)
   obtain⟨_,_,gk⟩:=w8 hk
   have:=hs.get gb gk (by omega)
   have:=h5 i b (Int.le_refl _) hb
   omega
 by_cases c:i<xs.length
 ·obtain⟨a,ha,ga⟩:=m8 (l:=xs) (i:=i) (by omega) c
  rw[if_pos c,ha]
  simp only[oB]
  by_cases c2:a=t
  ·subst c2
   rw[if_pos rfl,o7 (v8 ha)]
   rfl
  ·rw[if_neg c2]
   simp only[O3,decide_true,Bool.not_true,Bool.false_eq_true,if_false,oB]
   rw[B4 (nin fun b hb=>by rw[ha] at hb;cases hb;exact c2)]
 ·rw[if_neg c]
  simp only[oB]
  rw[B4 (nin fun b hb=>by have:=(w8 hb).2.1;omega)]
theorem bsearch2{xs:Li}(hs:Inc xs)(hl:xs.length≤500000)(t:Int):∃i,v7 xs t=some (i,dec (t ∈ xs)):=
 let ⟨i,h,_⟩:=bsearch_eq hs hl t
 ⟨i,h⟩
theorem containsFunc_eq{l:Li}{f:Int→Option Bool}(p:Int→Prop)(hf:∀x ∈ l,f x=some (dec (p x))):z7 l f=some (dec (∃x ∈ l,p x)):=by
 unfold z7 G2
 rcases X6 (body:=D7 l f) (n:=(l.length:Int)) (fun j=>if dec (∀a,ix l j=some a→¬ p a)=true then none else some j) (by omega) (fun j h0 h1 _=>by
  obtain⟨a,ha,_⟩:=m8 (l:=l) h0 h1
  unfold D7
  rw[ha]
  simp only[oB,hf a (v8 ha)]
  by_cases c:p a
  ·rw[if_pos (o7 c),if_neg (by rw[m6];exact fun h=>h a rfl c)]
  ·rw[if_neg (by rw[B4 c];simp),if_pos (o7 fun b hb=>by cases hb;exact c)]) with⟨h1,h2⟩|⟨j,o,h0,h1,h2,_,h4⟩
 ·rw[h1]
  simp only[oB]
  rw[B4]
  ·rfl
  ·rintro ⟨x,hx,hp⟩
   obtain⟨i,g1,g2,g3⟩:=C2 hx
   have:=h2 i g1 g2
   split at this
   ·rename_i h;exact m6.1 h x g3 hp
   ·cases this
 ·rw[h4]
  split at h2
  ·cases h2
  ·rename_i h
   cases h2
   simp only[oB]
   rw[o7]
   ·simp[h0]
   ·simp only[m6] at h
    obtain⟨a,g1,_⟩:=m8 (l:=l) h0 h1
    refine⟨a,v8 g1,?_⟩
    rcases Classical.em (p a) with c|c
    ·exact c
    ·exact absurd (fun b hb=>by rw[g1] at hb;cases hb;exact c) h
theorem ad4{a b:Li}(hb:Inc b)(hl:b.length≤500000):C5 a b=some (dec (∃x ∈ a,x ∈ b)):=by
 unfold C5
 rw[containsFunc_eq (fun x=>x ∈ b) (fun x _=>by
  unfold Y7
  obtain⟨i,h⟩:=bsearch2 hb hl x
  rw[h];rfl)]
 rfl
/-! ### Sorted, and equal neighbours made one -/
theorem compact_spec{l:Li}(hs:l.Pairwise (· ≤ ·)):Inc (ae2 l)∧∀x,x ∈ ae2 l↔x ∈ l:=by
 have key:∀m,m≤l.length→Inc (Go.Lib.compactUpTo l.toArray m)∧(∀x,x ∈ Go.Lib.compactUpTo l.toArray m↔x ∈ l.take m):=by
  intro m
  induction m with
  |zero=>intro _;simp[Go.Lib.compactUpTo]
  |succ m ih=>
   intro hm
   obtain⟨h1,h2⟩:=ih (by omega)
   have hlt:m<l.length:=by omega
   have hd:l.toArray[m]! =l[m]:=by simp[hlt]
   have ht:l.take (m+1)=l.take m++[l[m]]:=by rw[List.take_add_one];simp[hlt]
   rw[Go.Lib.compactUpTo_succ,ht]
   by_cases hk:Go.Lib.keeps l.toArray m=true
   ·rw[if_pos hk,hd]
    refine⟨List.pairwise_append.2 ⟨h1,by simp,fun a ha b hb=> ?_⟩,fun x=>by rw[List.mem_append,List.mem_append,h2]⟩
    simp only[List.mem_singleton] at hb
    subst hb
    have ha':=(h2 a).1 ha
    obtain⟨i,hi,rfl⟩:=List.mem_iff_getElem.1 ha'
    rw[List.length_take] at hi
    rw[List.getElem_take]
    simp only[Go.Lib.keeps,decide_eq_true_eq] at hk
    rcases hk with hk|hk
    ·omega
    ·have hm1:l.toArray[m - 1]! =l[m - 1]:=by simp[show m - 1<l.length by omega]
     rw[hd,hm1] at hk
     have e1:l[m - 1]≤l[m]:=List.pairwise_iff_getElem.1 hs (m - 1) m (by omega) hlt (by omega)
     have e2:l[i]≤l[m - 1]:=by
      rcases Nat.lt_or_ge i (m - 1) with c|c
      ·exact List.pairwise_iff_getElem.1 hs i (m - 1) (by omega) (by omega) c
      ·have:i=m - 1:=by omega
       subst this;exact Int.le_refl _
     omega
   ·rw[if_neg hk,List.append_nil]
    refine⟨h1,fun x=> ?_⟩
    rw[h2,List.mem_append]
    refine⟨.inl,fun h=> ?_⟩
    rcases h with h|h
    ·exact h
    ·simp only[List.mem_singleton] at h
     subst h
     have hm0:m ≠ 0:=fun e=>hk (by simp[Go.Lib.keeps,e])
     have hm1:l.toArray[m - 1]! =l[m - 1]:=by simp[show m - 1<l.length by omega]
     have he:l[m]=l[m - 1]:=by
      simp only[Go.Lib.keeps,decide_eq_true_eq,not_or] at hk
      have h3:l.toArray[m]! =l.toArray[m - 1]! :=Classical.not_not.1 (fun h=>hk.2 h)
      rw[hd,hm1] at h3;exact h3
     rw[he,List.mem_take_iff_getElem]
     exact⟨m - 1,by omega,rfl⟩
 obtain⟨h1,h2⟩:=key l.length (Nat.le_refl _)
 refine⟨?_,fun x=> ?_⟩
 ·simpa[ae2,Go.Lib.compact] using h1
 ·have:=h2 x
  rw[List.take_length] at this
  simpa[ae2,Go.Lib.compact] using this
theorem srt_spec(l:Li):(srt l).Pairwise (· ≤ ·)∧∀x,x ∈ srt l↔x ∈ l:=by
 refine⟨?_,fun x=>by simp[srt]⟩
 have:=List.pairwise_mergeSort (le:=fun x y:Int=>decide (x≤y)) (fun a b c h1 h2=>by simp at h1 h2 ⊢;omega) (fun a b=>by simp;omega) l
 refine this.imp fun h=>by simpa using h
theorem sortL_eq{l:Li}(h:l.length<4611686018427387904):sortL l=some (srt l):=by rw[sortL,if_pos h]
theorem update_inc{s add del:Li}(hd:Inc del)(hl:del.length≤500000)(h1:s.length≤500000)(h2:add.length≤500000):
  ∃r,H3 s add del=some r∧Inc r∧∀x,x ∈ r↔(x ∈ s∧x ∉ del)∨x ∈ add:=by
 unfold H3
 rw[forR_filter (l:=s) (b:=8) (fun a=>a ∉ del) (fun j a c h=>by
  obtain⟨i,hi⟩:=bsearch2 hd hl a
  unfold ad3
  rw[h]
  simp only[oB,hi,K8]
  refine⟨fun hq=> ?_,fun hq=> ?_⟩
  ·rw[if_pos (o7 hq)]
   cases app 8 c [a]<;>rfl
  ·rw[if_neg (by simpa using hq)];rfl) [] (by simp;omega)]
 simp only[oB,List.nil_append]
 have hle:(s.filter fun a=>dec (a ∉ del)).length≤s.length:=List.length_filter_le _ _
 rw[show app 8 (s.filter fun a=>dec (a ∉ del)) add=some ((s.filter fun a=>dec (a ∉ del))++add) by rw[app,if_pos];omega]
 simp only[oB]
 rw[sortL_eq (by rw[List.length_append];omega)]
 simp only[oB]
 obtain⟨e1,e2⟩:=srt_spec ((s.filter fun a=>dec (a ∉ del))++add)
 obtain⟨e3,e4⟩:=compact_spec e1
 refine⟨_,rfl,e3,fun x=> ?_⟩
 rw[e4,e2,List.mem_append,List.mem_filter,m6]
theorem update_eq{s add del:Li}{n:Int}(hn:n≤1000)(hd:Inc del)(hl:del.length≤500000)(hs:SetN s n)(ha:SetN add n):
  H3 s add del=some (W1 (fun x=>(x ∈ s∧x ∉ del)∨x ∈ add) n):=by
 have h1:=hs.len;have h2:=ha.len
 obtain⟨r,e1,e2,e3⟩:=update_inc (s:=s) (add:=add) hd hl (by omega) (by omega)
 rw[e1,SetN.eq_of (n:=n) ⟨e2,fun x hx=> ?_⟩ (fun x _ _=>e3 x)]
 rcases(e3 x).1 hx with h|h
 ·exact hs.2 x h.1
 ·exact ha.2 x h
end Ab
end
section
namespace Ab
open Go
def U8(o:f9)(n:Int):Prop:=SetN o.pre n∧SetN o.add n∧SetN o.del n∧∀x ∈ o.add,x ∉ o.del
def ab5(o:f9):Prop:=0≤o.cost∧o.cost≤100
noncomputable def U7(o:f9)(n:Int):Int:=if dec (U8 o n)=true then if dec (ab5 o)=true then 0 else 3 else 5
structure j8(t:e7):Prop where
 n0:0≤t.facts
 n1:t.facts≤24
 init:SetN t.init t.facts
 goal:SetN t.goal t.facts
 ops:t.operators.length≤40
 op:∀o ∈ t.operators,U8 o t.facts∧ab5 o
def PlanOk(t:e7)(plan:Li):Prop:=plan.length≤60∧∀x ∈ plan,0≤x∧x<t.operators.length
theorem opCode_zero{o:f9}{n:Int}:U7 o n=0↔U8 o n∧ab5 o:=by
 unfold U7
 by_cases h:U8 o n
 ·rw[if_pos (o7 h)]
  by_cases g:ab5 o
  ·rw[if_pos (o7 g)];simp[h,g]
  ·rw[if_neg (by rw[B4 g];simp)];simp[g]
 ·rw[if_neg (by rw[B4 h];simp)];simp[h]
theorem operator_eq{o:f9}{n:Int}(h0:0≤n)(h1:n≤24):S3 o n=some (U7 o n):=by
 unfold S3 U7
 simp only[isSet_eq,oB,K8]
 have bad:¬ U8 o n→dec (U8 o n)=true→False:=fun h g=>h (m6.1 g)
 by_cases c1:SetN o.pre n
 ·rw[if_neg (by simpa using c1)]
  by_cases c2:SetN o.add n
  ·rw[if_neg (by simpa using c2)]
   by_cases c3:SetN o.del n
   ·rw[if_neg (by simpa using c3)]
    have hl:=c3.len
    rw[ad4 c3.1 (by omega)]
    simp only[oB]
    by_cases c4:∃x ∈ o.add,x ∈ o.del
    ·rw[if_pos (o7 c4),if_neg]
     rw[m6]
     obtain⟨x,g1,g2⟩:=c4
     exact fun h=>h.2.2.2 x g1 g2
    ·have hs:U8 o n:=⟨c1,c2,c3,fun x g1 g2=>c4 ⟨x,g1,g2⟩⟩
     rw[if_neg (by rw[B4 c4];simp),if_pos (o7 hs)]
     by_cases c5:ab5 o
     ·rw[if_pos (o7 c5),if_neg]
      have:=c5.1;have:=c5.2
      simp;omega
     ·rw[if_neg (fun h=>c5 (m6.1 h)),if_pos]
      unfold ab5 at c5
      simp;omega
   ·rw[if_pos (by simpa using c3)]
    simp only[oB,if_true]
    rw[if_neg fun h=>c3 (m6.1 h).2.2.1]
  ·rw[if_pos (by simpa using c2)]
   simp only[oB,if_true]
   rw[if_neg fun h=>c2 (m6.1 h).2.1]
 ·rw[if_pos (by simpa using c1)]
  simp only[oB,if_true]
  rw[if_neg fun h=>c1 (m6.1 h).1]
theorem ai4(t:e7):∃f,x5 t=some f∧ai1 t=some f∧((f=⟨0,0⟩∧j8 t)∨(f.code ≠ 0∧¬ j8 t)):=by
 unfold x5 ai1
 simp only[in_eq,at_eq,oB,K8]
 by_cases c1:0≤t.facts∧t.facts≤24
 ·rw[if_neg (by simp;omega),ifNN c1]
  simp only[isSet_eq,rIsSet_eq (n:=t.facts) _ (by omega) (by omega),oB,K8]
  by_cases c2:SetN t.init t.facts
  ·rw[ifNN c2,ifNN c2]
   by_cases c3:SetN t.goal t.facts
   ·rw[ifNN c3,ifNN c3]
    by_cases c4:40<(t.operators.length:Int)
    ·rw[if_pos c4,if_pos c4]
     exact⟨_,rfl,rfl,.inr ⟨by simp,fun h=>by have:=h.ops;omega⟩⟩
    ·rw[if_neg c4,if_neg c4]
     have hb:∀j:Int,0≤j→j<t.operators.length→∃o,ix t.operators j=some o∧J6 t j ()=some (if U7 o t.facts=0 then .inl () else .inr ⟨U7 o t.facts,j⟩)∧M5 t j ()=some (if U7 o t.facts=0 then .inl () else .inr ⟨U7 o t.facts,j⟩):=fun j h0 h1=>by
      obtain⟨o,ho,_⟩:=m8 (l:=t.operators) h0 h1
      refine⟨o,ho,?_,?_⟩
      ·unfold J6
       rw[ho]
       simp only[oB,operator_eq c1.1 c1.2]
       by_cases e:U7 o t.facts=0
       ·rw[if_pos e,if_pos e]
       ·rw[if_neg e,if_neg e]
      ·unfold M5
       rw[ho]
       simp only[oB,rIsSet_eq (n:=t.facts) _ (show -9223372036854775808<t.facts by omega) (show t.facts≤9223372036854775807 by omega),disjoint_eq,in_eq,at_eq,K8]
       have hp:(if dec (¬ SetN o.pre t.facts)=true then some true else if dec (¬ SetN o.add t.facts)=true then some true else if dec (¬ SetN o.del t.facts)=true then some true else some (dec (¬ ∀x ∈ o.add,x ∉ o.del)))=some (dec (¬ U8 o t.facts)):=by
        unfold U8
        by_cases g1:SetN o.pre t.facts
        ·rw[if_neg (by simpa using g1)]
         by_cases g2:SetN o.add t.facts
         ·rw[if_neg (by simpa using g2)]
          by_cases g3:SetN o.del t.facts
          ·rw[if_neg (by simpa using g3)]
           exact congrArg some (I9 ⟨fun h g=>h g.2.2.2,fun h g=>h ⟨g1,g2,g3,g⟩⟩)
          ·rw[if_pos (by simpa using g3),o7 (fun g=>g3 g.2.2.1)]
         ·rw[if_pos (by simpa using g2),o7 (fun g=>g2 g.2.1)]
        ·rw[if_pos (by simpa using g1),o7 (fun g=>g1 g.1)]
       rw[hp]
       simp only[oB]
       unfold U7
       by_cases g1:U8 o t.facts
       ·rw[if_neg (by simpa using g1),if_pos (o7 g1)]
        by_cases g2:ab5 o
        ·rw[ifP g2,ifNN (p:=0≤o.cost∧o.cost≤100) g2];rfl
        ·rw[ifN g2,ifP (p:=¬ (0≤o.cost∧o.cost≤100)) g2];rfl
       ·rw[if_pos (o7 g1),if_neg (fun h=>g1 (m6.1 h))];rfl
     have heq:rngX 0 (t.operators.length:Int) (J6 t) ()=rngX 0 (t.operators.length:Int) (M5 t) ():=
      (rngX_eq (fun _ _=>True) (by omega) trivial (fun j s h0 h1 _=>by
       obtain⟨o,_,e1,e2⟩:=hb j h0 h1
       exact⟨by rw[e1,e2],by rw[e1];simp,fun _ _=>Y⟩)).1
     rcases X6 (body:=M5 t) (n:=(t.operators.length:Int)) (fun j=>match ix t.operators j with|some o=>if U7 o t.facts=0 then none else some (⟨U7 o t.facts,j⟩:g8)|none=>none) (by omega) (fun j h0 h1 _=>by
      obtain⟨o,e0,_,e2⟩:=hb j h0 h1
      rw[e2,e0]
      dsimp only
      split<;>rfl) with⟨h1,h2⟩|⟨j,f,h0,h1,h2,_,h4⟩
     ·rw[heq,h1]
      refine⟨⟨0,0⟩,rfl,rfl,.inl ⟨rfl,c1.1,c1.2,c2,c3,by omega,fun o ho=> ?_⟩⟩
      obtain⟨j,g0,g1,g2⟩:=C2 ho
      have:=h2 j g0 g1
      rw[g2] at this
      dsimp only at this
      split at this
      ·rename_i e;exact opCode_zero.1 e
      ·cases this
     ·rw[heq,h4]
      obtain⟨o,e0,_,_⟩:=hb j h0 h1
      rw[e0] at h2
      dsimp only at h2
      split at h2
      ·cases h2
      ·rename_i e
       cases h2
       exact⟨_,rfl,rfl,.inr ⟨e,fun h=>e (opCode_zero.2 (h.op o (v8 e0)))⟩⟩
   ·rw[ifP c3,ifP c3]
    exact⟨_,rfl,rfl,.inr ⟨by simp,fun h=>c3 h.goal⟩⟩
  ·rw[ifP c2,ifP c2]
   exact⟨_,rfl,rfl,.inr ⟨by simp,fun h=>c2 h.init⟩⟩
 ·rw[if_pos (by simp;omega),if_pos (o7 c1)]
  exact⟨_,rfl,rfl,.inr ⟨by simp,fun h=>c1 ⟨h.n0,h.n1⟩⟩⟩
theorem fault_no{f:g8}(h:f.code ≠ 0):(!((decide (f.code=0)) && (decide (f.index=0))))=true:=by simp[h]
theorem steps_eq{n:Int}(h0:0≤n)(h1:n≤9223372036854775807)(plan:Li):∃f,Y1 n plan=some f∧ag2 n plan=some f∧((f=⟨0,0⟩∧plan.length≤60∧∀x ∈ plan,0≤x∧x<n)∨(f.code ≠ 0∧¬ (plan.length≤60∧∀x ∈ plan,0≤x∧x<n))):=by
 unfold Y1 ag2
 by_cases c:60<(plan.length:Int)
 ·rw[if_pos c,if_pos c]
  exact⟨⟨2, -5⟩,rfl,rfl,.inr ⟨by simp,fun h=>by omega⟩⟩
 ·rw[if_neg c,if_neg c]
  rw[at9 (l:=plan) (fun x=>0≤x∧x<n) (⟨3, -6⟩:g8) (fun j a h=>by
   unfold ah4
   rw[h]
   simp only[oB]
   by_cases g:0≤a∧a<n
   ·rw[if_neg (by simp;omega)];exact .inl ⟨g,rfl⟩
   ·rw[if_pos (by simp;omega)];exact .inr ⟨g,rfl⟩)]
  rw[at9 (l:=plan) (fun x=>0≤x∧x<n) (⟨3, -6⟩:g8) (fun j a h=>by
   unfold aj3
   rw[h]
   simp only[oB,in_eq,at_eq,w7 (n:=n - 1) (by omega) (by omega),K8]
   by_cases g:0≤a∧a<n
   ·rw[if_neg (by simp;omega)];exact .inl ⟨g,rfl⟩
   ·rw[if_pos (by rw[m6];omega)];exact .inr ⟨g,rfl⟩)]
  by_cases g:∀x ∈ plan,0≤x∧x<n
  ·rw[if_pos (o7 g)]
   exact⟨_,rfl,rfl,.inl ⟨rfl,by omega,g⟩⟩
  ·rw[if_neg (fun h=>g (m6.1 h))]
   exact⟨_,rfl,rfl,.inr ⟨by simp,fun h=>g h.2⟩⟩
theorem aw4(t:e7)(plan:Li):∃f,I5 t plan=some f∧as0 t plan=some f∧((f=⟨0,0⟩∧j8 t∧PlanOk t plan)∨(f.code ≠ 0∧¬ (j8 t∧PlanOk t plan))):=by
 obtain⟨f,h1,h2,h3⟩:=ai4 t
 unfold I5 as0
 rw[h1,h2]
 simp only[oB]
 rcases h3 with⟨rfl,ht⟩|⟨hc,ht⟩
 ·obtain⟨g,g1,g2,g3⟩:=steps_eq (n:=(t.operators.length:Int)) (by omega) (by have:=ht.ops;omega) plan
  rw[if_neg (by simp),if_pos rfl,g1,g2]
  refine⟨g,rfl,rfl,?_⟩
  rcases g3 with⟨e,k⟩|⟨e,k⟩
  ·exact .inl ⟨e,ht,k⟩
  ·exact .inr ⟨e,fun h=>k h.2⟩
 ·rw[if_pos (fault_no hc),if_neg hc]
  exact⟨f,rfl,rfl,.inr ⟨hc,fun h=>ht h.1⟩⟩
/-! ### What operators and plans do -/
def noOp:f9:=⟨[],[],[],0⟩
def opAt(t:e7)(op:Int):f9:=(t.operators[op.toNat]?).getD noOp
theorem Y8{t:e7}{op:Int}(h0:0≤op)(h1:op<t.operators.length):ix t.operators op=some (opAt t op):=by
 obtain⟨a,h2,h3⟩:=m8 h0 h1
 rw[h2,opAt,h3];rfl
theorem j8.at{t:e7}(h:j8 t){op:Int}(h0:0≤op)(h1:op<t.operators.length):U8 (opAt t op) t.facts∧ab5 (opAt t op):=h.op _ (v8 (Y8 h0 h1))
def can(t:e7)(s:Li)(op:Int):Prop:=∀x ∈ (opAt t op).pre,x ∈ s
noncomputable def aft(t:e7)(s:Li)(op:Int):Li:=W1 (fun x=>x ∈ (opAt t op).add∨x ∈ s∧x ∉ (opAt t op).del) t.facts
theorem W7(t:e7)(s:Li)(op:Int):SetN (aft t s op) t.facts:=setN_setOf _ _
theorem can_eq{t:e7}(ht:j8 t){op:Int}(h0:0≤op)(h1:op<t.operators.length){s:Li}(hs:SetN s t.facts):ag7 t s op=some (dec (can t s op)):=by
 have:=ht.n1;have:=hs.len
 unfold ag7
 rw[Y8 h0 h1]
 simp only[oB]
 rw[aq3 hs.1 (ht.at h0 h1).1.1.1 (by omega)]
 rfl
theorem next_eq{t:e7}(ht:j8 t){op:Int}(h0:0≤op)(h1:op<t.operators.length){s:Li}(hs:SetN s t.facts):V5 t s op=some (aft t s op):=by
 have:=ht.n1
 obtain⟨⟨_,k2,k3,_⟩,_⟩:=ht.at h0 h1
 have hl:=k3.len
 unfold V5
 rw[Y8 h0 h1]
 simp only[oB]
 rw[update_eq (n:=t.facts) (by omega) k3.1 (by omega) hs k2]
 simp only[oB,aft]
 exact congrArg some (aq8 fun x _ _=>Or.comm)
noncomputable def ends(t:e7):Li→Li→Option Li
 |s,[]=>some s
 |s,op::r=>if dec (can t s op)=true then ends t (aft t s op) r else none
theorem ends_setN{t:e7}:∀{plan s e:Li},SetN s t.facts→ends t s plan=some e→SetN e t.facts
 |[],s,e,hs,h=>by cases h;exact hs
 |op::r,s,e,hs,h=>by
  simp only[ends] at h
  split at h
  ·exact ends_setN (W7 t s op) h
  ·cases h
def Y6(t:e7)(s plan:Li):Prop:=∃e,ends t s plan=some e∧∀x ∈ t.goal,x ∈ e
theorem clone_eq{s:Li}(h:s.length≤1000000):p8 s=some s:=by
 rw[p8,app,if_pos (by simp;omega)];rfl
noncomputable def run(t:e7):Li→Li→LL
 |s,[]=>[s]
 |s,op::r=>s::if dec (can t s op)=true then run t (aft t s op) r else []
theorem run_ends{t:e7}:∀{plan s:Li},(ends t s plan=none→(run t s plan).length ≠ plan.length+1)∧∀e,ends t s plan=some e→(run t s plan).length=plan.length+1∧(run t s plan)[plan.length]? =some e
 |[],s=>⟨fun h=>by simp[ends] at h,fun e h=>by cases h;simp[run]⟩
 |op::r,s=>by
  obtain⟨h1,h2⟩:=run_ends (t:=t) (plan:=r) (s:=aft t s op)
  simp only[ends,run,List.length_cons]
  by_cases c:can t s op
  ·rw[ifP c,ifP c]
   exact⟨fun h=>by have:=h1 h;omega,fun e h=>by obtain⟨g1,g2⟩:=h2 e h;exact⟨by omega,by simpa using g2⟩⟩
  ·rw[ifN c,ifN c]
   exact⟨fun _=>by simp,fun e h=>by cases h⟩
theorem run_eq{t:e7}(ht:j8 t){plan:Li}(hp:PlanOk t plan){s:Li}(hs:SetN s t.facts):ag0 t s plan=some (run t s plan):=by
 have hl:=hp.1
 have hsl:=hs.len
 have hn:=ht.n1
 unfold ag0
 rw[clone_eq (by omega)]
 simp only[oB]
 obtain⟨o,h1,h2⟩:=S4 (body:=ac5 t plan) (fun p=>0≤p.2.2∧p.2.2≤plan.length∧SetN p.2.1 t.facts∧p.1.length=p.2.2.toNat+1∧∃pre,p.1=pre++[p.2.1]∧run t s plan=pre++run t p.2.1 (plan.drop p.2.2.toNat))
  (fun o=>o=run t s plan) (fun p=>(plan.length - p.2.2).toNat) (s:=([s],s,0)) ⟨by simp,by simp,hs,by simp,[],rfl,by simp⟩ (fun⟨c,s',j⟩ ⟨g0,g1,g2,g3,pre,g4,g5⟩=>by
   dsimp only at g0 g1 g2 g3 g4 g5 ⊢
   unfold ac5
   dsimp only
   by_cases cj:j<plan.length
   ·obtain⟨op,hop,gop⟩:=m8 (l:=plan) g0 cj
    have hm:=hp.2 op (v8 hop)
    have hd:plan.drop j.toNat=op::plan.drop (j.toNat+1):=by
     obtain⟨hlt,rfl⟩:=lG.1 gop
     exact List.drop_eq_getElem_cons hlt
    rw[hd] at g5
    rw[if_pos cj,hop]
    simp only[oB,can_eq ht hm.1 hm.2 g2,K8,next_eq ht hm.1 hm.2 g2]
    by_cases cc:can t s' op
    ·rw[ifNN cc,app,if_pos (by simp;omega)]
     simp only[oB]
     rw[w7 (by omega) (by omega)]
     refine .inl ⟨_,rfl,⟨by dsimp only;omega,by dsimp only;omega,W7 _ _ _,by simp;omega,c,rfl,?_⟩,by dsimp only;omega⟩
     dsimp only
     rw[g5,run,ifP cc,g4,show(j+1).toNat=j.toNat+1 by omega]
     simp
    ·rw[ifP cc]
     refine .inr ⟨_,rfl,?_⟩
     rw[g5,run,ifN cc,g4]
   ·rw[if_neg cj]
    refine .inr ⟨_,rfl,?_⟩
    rw[g5,List.drop_of_length_le (by omega),run,g4])
 rw[h1,h2];rfl
theorem sWorks_eq{t:e7}(ht:j8 t){plan:Li}(hp:PlanOk t plan){s:Li}(hs:SetN s t.facts):T4 t s plan=some (dec (Y6 t s plan)):=by
 have hl:=hp.1
 have hn:=ht.n1
 unfold T4
 rw[run_eq ht hp hs,w7 (by omega) (by omega)]
 simp only[oB]
 obtain⟨h1,h2⟩:=run_ends (t:=t) (plan:=plan) (s:=s)
 cases h:ends t s plan with
 |none=>
  rw[if_neg (by have:=h1 h;omega)]
  simp only[oB]
  rw[B4]
  rintro ⟨e,g,_⟩
  rw[h] at g;cases g
 |some e=>
  obtain⟨g1,g2⟩:=h2 e h
  have he:=ends_setN hs h
  have hel:=he.len
  rw[if_pos (by omega)]
  simp only[M0,g2,oB]
  rw[aq3 he.1 ht.goal.1 (by omega)]
  simp only[oB]
  exact congrArg some (I9 ⟨fun g=>⟨e,h,g⟩,fun⟨e',k1,k2⟩=>by rw[h] at k1;cases k1;exact k2⟩)
end Ab
end
section
namespace Ab
open Go
theorem setN1(a:Int){n:Int}(h0:0≤a)(h1:a<n):SetN [a] n:=⟨by simp,by simp[h0,h1]⟩
end Ab
end
section
namespace Ab
open Go
def llt:Li→Li→Prop
 |[],[]=>False
 |[],_::_=>True
 |_::_,[]=>False
 |a::l,b::m=>a<b∨a=b∧llt l m
theorem Y5:∀l:Li,¬ llt l l
 |[]=>id
 |a::l=>fun h=>by
  rcases h with h|⟨_,h⟩
  ·omega
  ·exact Y5 l h
theorem af0:∀{a b c:Li},llt a b→llt b c→llt a c
 |[],[],_,h,_=>h.elim
 |[],_::_,[],_,h=>h.elim
 |[],_::_,_::_,_,_=>trivial
 |_::_,[],_,h,_=>h.elim
 |_::_,_::_,[],_,h=>h.elim
 |x::a,y::b,z::c,h,g=>by
  rcases h with h|⟨rfl,h⟩<;>rcases g with g|⟨rfl,g⟩
  ·exact .inl (by omega)
  ·exact .inl h
  ·exact .inl g
  ·exact .inr ⟨rfl,af0 h g⟩
theorem ae7:∀a b:Li,llt a b∨a=b∨llt b a
 |[],[]=>.inr (.inl rfl)
 |[],_::_=>.inl trivial
 |_::_,[]=>.inr (.inr trivial)
 |x::a,y::b=>by
  rcases Int.lt_trichotomy x y with h|rfl|h
  ·exact .inl (.inl h)
  ·rcases ae7 a b with h|rfl|h
   ·exact .inl (.inr ⟨rfl,h⟩)
   ·exact .inr (.inl rfl)
   ·exact .inr (.inr (.inr ⟨rfl,h⟩))
  ·exact .inr (.inr (.inl h))
theorem llt_asymm{a b:Li}(h:llt a b)(g:llt b a):False:=Y5 a (af0 h g)
noncomputable def cmpL(a b:Li):Int:=if dec (llt a b)=true then -1 else if dec (a=b)=true then 0 else 1
theorem ah8{a b:Li}:cmpL a b<0↔llt a b:=by
 unfold cmpL
 by_cases h:llt a b
 ·rw[ifP h];simp[h]
 ·rw[ifN h]
  split<;>simp[h]
theorem cmpL_eq{a b:Li}:cmpL a b=0↔a=b:=by
 unfold cmpL
 by_cases h:llt a b
 ·rw[ifP h]
  constructor
  ·intro e;omega
  ·rintro rfl;exact absurd h (Y5 _)
 ·rw[ifN h]
  by_cases g:a=b
  ·rw[ifP g];simp[g]
  ·rw[ifN g];simp[g]
theorem cmpInt_eq(x y:Int):cmp_Compare_int x y=some (if x<y then -1 else if y<x then 1 else 0):=by
 unfold cmp_Compare_int cmp_isNaN_int
 simp only[decide_true,Bool.not_true,oB,Bool.false_eq_true,if_false]
 split
 ·rfl
 ·split<;>rfl
theorem llt_drop:∀{a b:Li} (k:Nat),k≤a.length→k≤b.length→a.take k=b.take k→(llt a b↔llt (a.drop k) (b.drop k))
 |_,_,0,_,_,_=>by simp
 |[],_,k+1,h,_,_=>by simp at h
 |_::_,[],k+1,_,h,_=>by simp at h
 |x::a,y::b,k+1,h1,h2,h3=>by
  simp only[List.take_succ_cons,List.cons.injEq] at h3
  obtain⟨rfl,h3⟩:=h3
  simp only[List.drop_succ_cons]
  rw[← llt_drop k (by simpa using h1) (by simpa using h2) h3]
  simp[llt]
theorem compare_eq(a b:Li):x6 a b=some (cmpL a b):=by
 unfold x6
 rcases ah7 (body:=F8 a b) (n:=(a.length:Int)) (s:=()) (fun j _=>j≤b.length∧a.take j.toNat=b.take j.toNat) (fun o=>o=cmpL a b) (by omega) ⟨by omega,by simp⟩ (fun j _ j0 j1 ⟨k1,k2⟩=>by
  obtain⟨x,hx,gx⟩:=m8 (l:=a) j0 j1
  have hxl:=(lG.1 gx).2
  unfold F8
  rw[hx]
  simp only[oB]
  have hd:=llt_drop (a:=a) (b:=b) j.toNat (by omega) (by omega) k2
  have da:a.drop j.toNat=x::a.drop (j.toNat+1):=by rw[← hxl];exact List.drop_eq_getElem_cons (by omega)
  by_cases c:(b.length:Int)≤j
  ·rw[if_pos c]
   refine .inr ⟨_,rfl,?_⟩
   have db:b.drop j.toNat=[]:=List.drop_of_length_le (by omega)
   rw[da,db] at hd
   unfold cmpL
   rw[ifN (fun h=>(hd.1 h).elim),ifN]
   rintro rfl;omega
  ·rw[if_neg c]
   obtain⟨y,hy,gy⟩:=m8 (l:=b) (i:=j) j0 (by omega)
   have hyl:=(lG.1 gy).2
   have db:b.drop j.toNat=y::b.drop (j.toNat+1):=by rw[← hyl];exact List.drop_eq_getElem_cons (by omega)
   rw[hy]
   simp only[oB,cmpInt_eq]
   rw[da,db] at hd
   have hne:x ≠ y→a ≠ b:=fun h e=>by subst e;rw[hx] at hy;cases hy;exact h rfl
   rcases Int.lt_trichotomy x y with h|rfl|h
   ·rw[if_pos h,if_neg (by decide)]
    refine .inr ⟨_,rfl,?_⟩
    unfold cmpL
    rw[ifP (hd.2 (.inl h))]
   ·simp only[Int.lt_irrefl,if_false,if_true]
    refine .inl ⟨(),Y,by omega,?_⟩
    rw[show(j+1).toNat=j.toNat+1 by omega,List.take_add_one,List.take_add_one,gx,gy,k2]
   ·rw[if_neg (show ¬ x<y by omega),if_pos h,if_neg (by decide)]
    refine .inr ⟨_,rfl,?_⟩
    unfold cmpL
    rw[ifN,ifN (hne (by omega))]
    intro g
    rcases hd.1 g with g|⟨g,_⟩<;>omega) with⟨_,r1,r2,r3⟩|⟨o,r1,rfl⟩
 ·rw[r1]
  simp only[oB]
  have hd:=llt_drop (a:=a) (b:=b) a.length (Nat.le_refl _) (by omega) (by simpa using r3)
  have da:a.drop a.length=[]:=by simp
  rw[da] at hd
  have e3:a=b.take a.length:=by simpa using r3
  by_cases c:(a.length:Int)<b.length
  ·rw[if_pos c]
   have:b.drop a.length ≠ []:=by simp;omega
   unfold cmpL
   rw[ifP]
   rw[hd]
   cases h:b.drop a.length with
   |nil=>exact absurd h this
   |cons x l=>trivial
  ·rw[if_neg c]
   have:a=b:=by rw[e3,List.take_of_length_le (by omega)]
   rw[cmpL_eq.2 this]
 ·rw[r1];rfl
theorem cmp_ok:CmpOk x6 cmpL:=by
 refine⟨compare_eq,⟨fun x=> ?_,fun x y z h1 h2=> ?_,fun x y z h1 h2=> ?_⟩,fun a b h1 h2=> ?_⟩
 ·simp only[Go.Proofs.ltOf,decide_eq_false_iff_not,ah8]
  exact Y5 x
 ·simp only[Go.Proofs.ltOf,decide_eq_true_eq,ah8] at h1 h2 ⊢
  exact af0 h1 h2
 ·simp only[Go.Proofs.ltOf,decide_eq_false_iff_not,ah8] at h1 h2 ⊢
  intro h
  rcases ae7 x y with g|rfl|g
  ·exact h1 g
  ·exact h2 h
  ·exact h2 (af0 g h)
 ·rw[ah8] at h1 h2
  rcases ae7 a b with g|g|g
  ·exact absurd g h1
  ·exact g
  ·exact absurd g h2
/-! ### Lists compared -/
theorem listEq{α:Type}{a b:List α}{body:Int→Unit→Option (Unit⊕Bool)}(hl:a.length=b.length)(hb:∀j x y,ix a j=some x→ix b j=some y→(x=y∧body j ()=some (.inl ()))∨(x ≠ y∧body j ()=some (.inr false))):
  (Option.bind (rngX 0 (a.length:Int) body ()) fun| .inl _=>some true| .inr x=>some x)=some (dec (a=b)):=by
 rcases X6 (body:=body) (n:=(a.length:Int)) (fun j=>if dec (ix a j=ix b j)=true then none else some false) (by omega) (fun j h0 h1 _=>by
  obtain⟨x,hx,_⟩:=m8 (l:=a) h0 h1
  obtain⟨y,hy,_⟩:=m8 (l:=b) (i:=j) h0 (by omega)
  rcases hb j x y hx hy with⟨e,h⟩|⟨e,h⟩
  ·rw[h,ifP (by rw[hx,hy,e])]
  ·rw[h,ifN (by rw[hx,hy];simpa using e)]) with⟨h1,h2⟩|⟨j,o,h0,h1,h2,_,h4⟩
 ·rw[h1,o7]
  ·rfl
  ·refine List.ext_getElem? fun k=> ?_
   by_cases hk:k<a.length
   ·have:=h2 k (by omega) (by omega)
    split at this
    ·rename_i e
     have:=m6.1 e
     rwa [M0,M0] at this
    ·cases this
   ·rw[List.getElem?_eq_none (by omega),List.getElem?_eq_none (by omega)]
 ·rw[h4]
  split at h2
  ·cases h2
  ·rename_i e
   cases h2
   rw[B4 (fun h=>e (o7 (by rw[h])))];rfl
theorem ints_eq(a b:Li):aj0 a b=some (dec (a=b)):=by
 unfold aj0
 by_cases hl:(a.length:Int)=b.length
 ·rw[if_pos hl]
  refine listEq (by omega) fun j x y hx hy=> ?_
  unfold an3
  simp only[hx,hy,oB]
  by_cases e:x=y
  ·rw[if_pos e];exact .inl ⟨e,rfl⟩
  ·rw[if_neg e];exact .inr ⟨e,rfl⟩
 ·rw[if_neg hl,B4 (fun h=>hl (by rw[h]))]
theorem equal_eq(a b:Li):D2 a b=some (dec (a=b)):=by
 unfold D2
 by_cases hl:(a.length:Int)=b.length
 ·rw[if_pos hl]
  refine listEq (by omega) fun j x y hx hy=> ?_
  unfold P6
  simp only[hx,hy,oB]
  by_cases e:x=y
  ·rw[if_pos e];exact .inl ⟨e,rfl⟩
  ·rw[if_neg e];exact .inr ⟨e,rfl⟩
 ·rw[if_neg hl,B4 (fun h=>hl (by rw[h]))]
/-! ### Ordered lists -/
abbrev Ord(l:LL):Prop:=l.Pairwise llt
theorem Ord.ext:∀{l m:LL},Ord l→Ord m→(∀x,x ∈ l↔x ∈ m)→l=m
 |[],[],_,_,_=>rfl
 |[],b::m,_,_,h=>absurd ((h b).2 (by simp)) (by simp)
 |a::l,[],_,_,h=>absurd ((h a).1 (by simp)) (by simp)
 |a::l,b::m,hl,hm,h=>by
  obtain⟨l1,l2⟩:=List.pairwise_cons.1 hl
  obtain⟨m1,m2⟩:=List.pairwise_cons.1 hm
  have hab:a=b:=by
   rcases List.mem_cons.1 ((h a).1 (by simp)) with e|e
   ·exact e
   ·rcases List.mem_cons.1 ((h b).2 (by simp)) with e'|e'
    ·exact e'.symm
    ·exact(llt_asymm (l1 b e') (m1 a e)).elim
  subst hab
  rw[Ord.ext l2 m2 fun x=>⟨fun hx=> ?_,fun hx=> ?_⟩]
  ·rcases List.mem_cons.1 ((h x).1 (by simp[hx])) with e|e
   ·subst e;exact absurd (l1 x hx) (Y5 x)
   ·exact e
  ·rcases List.mem_cons.1 ((h x).2 (by simp[hx])) with e|e
   ·subst e;exact absurd (m1 x hx) (Y5 x)
   ·exact e
def ddN(l:LL):Nat→LL
 |0=>[]
 |m+1=>ddN l m++if decide (m=0∨l[m]? ≠ l[m - 1]?)=true then l[m]?.toList else []
theorem ddN_spec{l:LL}(hs:l.Pairwise fun a b=>¬ llt b a):∀m,m≤l.length→Ord (ddN l m)∧∀x,x ∈ ddN l m↔x ∈ l.take m:=by
 intro m
 induction m with
 |zero=>intro _;simp[ddN]
 |succ m ih=>
  intro hm
  obtain⟨h1,h2⟩:=ih (by omega)
  have hlt:m<l.length:=by omega
  have ht:l.take (m+1)=l.take m++[l[m]]:=by rw[List.take_add_one];simp[hlt]
  rw[ddN,ht]
  by_cases hk:m=0∨l[m]? ≠ l[m - 1]?
  ·rw[if_pos (by simpa using hk)]
   simp only[List.getElem?_eq_getElem hlt,Option.toList_some]
   refine⟨List.pairwise_append.2 ⟨h1,by simp,fun a ha b hb=> ?_⟩,fun x=>by rw[List.mem_append,List.mem_append,h2]⟩
   simp only[List.mem_singleton] at hb
   subst hb
   have ha':=(h2 a).1 ha
   obtain⟨i,hi,rfl⟩:=List.mem_iff_getElem.1 ha'
   rw[List.length_take] at hi
   rw[List.getElem_take]
   rcases hk with hk|hk
   ·omega
   ·have hm1:m - 1<l.length:=by omega
    rw[List.getElem?_eq_getElem hlt,List.getElem?_eq_getElem hm1] at hk
    have e1:¬ llt l[m] l[m - 1]:=List.pairwise_iff_getElem.1 hs (m - 1) m hm1 hlt (by omega)
    have e2:llt l[m - 1] l[m]:=by
     rcases ae7 l[m - 1] l[m] with h|h|h
     ·exact h
     ·exact absurd (by rw[h]) hk
     ·exact absurd h e1
    by_cases hi2:i=m - 1
    ·subst hi2;exact e2
    ·have e3:¬ llt l[m - 1] l[i]:=List.pairwise_iff_getElem.1 hs i (m - 1) (by omega) hm1 (by omega)
     rcases ae7 l[i] l[m] with h|h|h
     ·exact h
     ·rw[h] at e3;exact absurd e2 e3
     ·exact absurd (af0 e2 h) e3
  ·rw[if_neg (by simpa using hk),List.append_nil]
   refine⟨h1,fun x=> ?_⟩
   rw[h2,List.mem_append]
   refine⟨.inl,fun h=> ?_⟩
   rcases h with h|h
   ·exact h
   ·simp only[List.mem_singleton] at h
    subst h
    have hm0:m ≠ 0:=fun e=>hk (.inl e)
    have he:l[m]? =l[m - 1]? :=Classical.not_not.1 fun e=>hk (.inr e)
    rw[List.getElem?_eq_getElem hlt,List.getElem?_eq_getElem (show m - 1<l.length by omega)] at he
    rw[Option.some.inj he,List.mem_take_iff_getElem]
    exact⟨m - 1,by omega,rfl⟩
theorem ddN_len(l:LL):∀m,(ddN l m).length≤m
 |0=>by simp[ddN]
 |m+1=>by
  have:=ddN_len l m
  rw[ddN,List.length_append]
  split
  ·have:(l[m]?.toList).length≤1:=by cases l[m]? <;>simp
   omega
  ·simp;omega
theorem ddN_all{l:LL}:∀m,m≤l.length→(∀i,0<i→i<m→l[i]? ≠ l[i - 1]?)→ddN l m=l.take m
 |0,_,_=>by simp[ddN]
 |m+1,hm,h=>by
  rw[ddN,ddN_all m (by omega) fun i h0 h1=>h i h0 (by omega),if_pos,List.take_add_one]
  rw[decide_eq_true_eq]
  by_cases e:m=0
  ·exact .inl e
  ·exact .inr (h m (by omega) (by omega))
theorem compactF_eq{l:LL}(hl:l.length≤1000000):y5 l=some (ddN l l.length):=by
 unfold y5
 by_cases c0:(l.length:Int)<2
 ·rw[if_pos c0,ddN_all l.length (Nat.le_refl _) fun i h0 h1=>by omega,List.take_length]
 ·rw[if_neg c0]
  have key:=rngN_inv (body:=u9 l) (fun j _=>∀i:Nat,0<i→(i:Int)<j→l[i]? ≠ l[i - 1]?) (fun o=>o=ddN l l.length) ((l.length:Int) - 1).toNat 1 () (fun i h0 h1=>by omega) (fun j _ j0 j1 hP=>by
   obtain⟨a,ha,ga⟩:=m8 (l:=l) (i:=j) (by omega) (by omega)
   obtain⟨b,hb,gb⟩:=m8 (l:=l) (i:=j - 1) (by omega) (by omega)
   unfold u9
   simp only[ha,hb,oB,equal_eq]
   have ej:(j - 1).toNat=j.toNat - 1:=by omega
   rw[ej] at gb
   by_cases c:a=b
   ·rw[ifP c]
    subst c
    right
    rw[show cutV (l.length:Int) j (l.length:Int)=some () by rw[cutV,if_pos (by omega)]]
    simp only[oB]
    obtain⟨⟨cs,kv⟩,r1,r2,r3,r4,r5,r6⟩:=at3 (body:=w6 l j) (fun k2 p=>p.1.length=l.length∧j≤p.2∧p.2≤j+k2 - 1∧p.1.take p.2.toNat=ddN l (j+k2).toNat∧∀i:Nat,j+k2 - 1≤i→p.1[i]? =l[i]?) ((l.length:Int) - j - 1).toNat 1 (l,j) ⟨rfl,by simp,by dsimp only;omega,by
      dsimp only
      rw[show(j+1).toNat=j.toNat+1 by omega,ddN,if_neg,List.append_nil,ddN_all j.toNat (by omega) fun i h0 h1=>hP i h0 (by omega)]
      rw[decide_eq_true_eq]
      rintro (h|h)
      ·omega
      ·exact h (ga.trans gb.symm),fun i _=>rfl⟩ (fun k2 ⟨cs,kv⟩ k0 k1 ⟨g1,g2,g3,g4,g5⟩=>by
      dsimp only at g1 g2 g3 g4 g5 ⊢
      obtain⟨x,hx,gx⟩:=m8 (l:=l) (i:=j+k2) (by omega) (by omega)
      obtain⟨y,hy,gy⟩:=m8 (l:=l) (i:=j+k2 - 1) (by omega) (by omega)
      have iv:∀i:Int,0≤i→i<(l.length:Int) - j→ixV cs (0+j) ((l.length:Int) - j) i=ix cs (j+i):=fun i h0 h1=>by
       rw[ixV,if_pos (by omega),Int.zero_add]
      have same:∀i:Int,j+k2 - 1≤i→ix cs i=ix l i:=fun i hi=>by
       have:=g5 i.toNat (by omega)
       simp only[ix]
       rw[this]
      unfold w6
      dsimp only
      rw[iv k2 (by omega) (by omega),iv (k2 - 1) (by omega) (by omega),show j+(k2 - 1)=j+k2 - 1 by omega,same _ (by omega),same _ (by omega),hx,hy]
      simp only[oB,equal_eq,K8]
      have ek:(j+(k2+1)).toNat=(j+k2).toNat+1:=by omega
      have ek1:(j+k2 - 1).toNat=(j+k2).toNat - 1:=by omega
      rw[ek1] at gy
      by_cases cx:x=y
      ·rw[ifNN cx]
       refine⟨_,rfl,g1,g2,by omega,?_,fun i hi=>g5 i (by omega)⟩
       dsimp only
       rw[ek,ddN,if_neg,List.append_nil]
       ·exact g4
       ·rw[decide_eq_true_eq]
        rintro (h|h)
        ·omega
        ·exact h (by rw[gx,gy,cx])
      ·rw[ifP cx]
       obtain⟨z,hz,gz⟩:=m8 (l:=cs) (i:=kv) (by omega) (by omega)
       simp only[hz,oB]
       rw[w7 (by omega) (by omega)]
       refine⟨_,rfl,by rw[lS];exact g1,by omega,by omega,?_,fun i hi=> ?_⟩
       ·dsimp only
        rw[ek,ddN,if_pos,gx,show(kv+1).toNat=kv.toNat+1 by omega,List.take_add_one,List.getElem?_set,if_pos rfl,if_pos (by omega),List.take_set_of_le (Nat.le_refl _),g4]
        rw[decide_eq_true_eq]
        exact .inr (by rw[gx,gy];simpa using cx)
       ·dsimp only
        rw[List.getElem?_set,if_neg (by omega)]
        exact g5 i (by omega))
    have ef:forR 1 ((l.length:Int) - j) (w6 l j) (l,j)=some (cs,kv):=r1
    dsimp only at r2 r3 r4 r5 r6
    rw[ef]
    simp only[oB]
    have hcl:(clrL cs (0+kv) ((cs.length:Int) - kv) []).length=cs.length:=by simp[clrL];omega
    rw[show cutV (cs.length:Int) kv (cs.length:Int)=some () by rw[cutV,if_pos (by omega)]]
    simp only[oB,hcl]
    rw[show cutV (cs.length:Int) 0 kv=some () by rw[cutV,if_pos (by omega)]]
    refine⟨_,rfl,?_⟩
    have e1:r8 (clrL cs (0+kv) ((cs.length:Int) - kv) []) 0 kv=cs.take kv.toNat:=by
     simp only[r8,clrL,Int.zero_add,Int.toNat_zero,List.drop_zero]
     rw[List.append_assoc,List.take_append_of_le_length (by simp;omega),List.take_take,Nat.min_self]
    rw[e1,r5]
    congr 1
    omega
   ·rw[ifN c]
    left
    refine⟨(),rfl,fun i h0 h1=> ?_⟩
    by_cases e:(i:Int)=j
    ·have:i=j.toNat:=by omega
     subst this
     rw[ga,gb]
     simpa using c
    ·exact hP i h0 (by omega))
  rcases key with⟨_,h1,h2⟩|⟨o,h1,rfl⟩
  ·have:rngX 1 (l.length:Int) (u9 l) ()=some (.inl ()):=h1
   rw[this]
   simp only[oB]
   rw[ddN_all l.length (Nat.le_refl _) fun i h0 h1=>h2 i h0 (by omega),List.take_length]
  ·have:rngX 1 (l.length:Int) (u9 l) ()=some (.inr (ddN l l.length)):=h1
   rw[this];rfl
theorem normal_eq{l:LL}(hl:l.length≤1000000):∃r,K5 l=some r∧Ord r∧(∀x,x ∈ r↔x ∈ l)∧r.length≤l.length:=by
 unfold K5
 rw[sortFL_eq (by omega) cmp_ok]
 simp only[oB]
 have hlen:(l.mergeSort fun x y=>decide (¬ cmpL y x<0)).length=l.length:=by simp
 rw[compactF_eq (by rw[hlen];exact hl)]
 have hs:(l.mergeSort fun x y=>decide (¬ cmpL y x<0)).Pairwise fun a b=>¬ llt b a:=by
  have:=List.pairwise_mergeSort (le:=fun x y:Li=>decide (¬ cmpL y x<0)) (fun a b c h1 h2=>by
   simp only[decide_eq_true_eq,ah8] at h1 h2 ⊢
   intro h
   rcases ae7 b a with g|g|g
   ·exact h1 g
   ·subst g;exact h2 h
   ·exact h2 (af0 h g)) (fun a b=>by
   simp only[Bool.or_eq_true,decide_eq_true_eq,ah8]
   by_cases h:llt b a
   ·exact .inr fun g=>llt_asymm h g
   ·exact .inl h) l
  exact this.imp fun h=>by simpa[ah8] using h
 obtain⟨h1,h2⟩:=ddN_spec hs _ (Nat.le_refl _)
 refine⟨_,rfl,h1,fun x=> ?_,?_⟩
 ·rw[h2,List.take_length];simp
 ·have:=ddN_len (l.mergeSort fun x y=>decide (¬ cmpL y x<0)) (l.mergeSort fun x y=>decide (¬ cmpL y x<0)).length
  rw[hlen] at this
  rw[hlen];exact this
end Ab
end
section
namespace Ab
open Go
inductive Ed:Nat→Li→Li→Prop
 |nil:Ed 0 [] []
 |keep {n:Nat} {x:Int} {a b:Li} (h:Ed n a b):Ed n (x::a) (x::b)
 |del {n:Nat} {x:Int} {a b:Li} (h:Ed n a b):Ed (n+1) (x::a) b
 |ins {n:Nat} {y:Int} {a b:Li} (h:Ed n a b):Ed (n+1) a (y::b)
theorem Ed.symm{n:Nat}{a b:Li}(h:Ed n a b):Ed n b a:=by
 induction h with
 |nil=>exact .nil
 |keep _ ih=>exact .keep ih
 |del _ ih=>exact .ins ih
 |ins _ ih=>exact .del ih
theorem Ed.refl:∀a:Li,Ed 0 a a
 |[]=>.nil
 |_::a=>.keep (Ed.refl a)
theorem Ed.trans{n m:Nat}{a b c:Li}(h:Ed n a b)(k:Ed m b c):∃q,q≤n+m∧Ed q a c:=by
 induction h generalizing m c with
 |nil=>exact⟨m,by omega,k⟩
 |@keep n x a b h ih=>
  generalize hb:x::b=b' at k
  induction k with
  |nil=>cases hb
  |keep k _=>
   cases hb
   obtain⟨q,h1,h2⟩:=ih k
   exact⟨q,h1,.keep h2⟩
  |del k _=>
   cases hb
   obtain⟨q,h1,h2⟩:=ih k
   exact⟨q+1,by omega,.del h2⟩
  |ins k ihk=>
   obtain⟨q,h1,h2⟩:=ihk hb
   exact⟨q+1,by omega,.ins h2⟩
 |del h ih=>
  obtain⟨q,h1,h2⟩:=ih k
  exact⟨q+1,by omega,.del h2⟩
 |@ins n y a b h ih=>
  generalize hb:y::b=b' at k
  induction k with
  |nil=>cases hb
  |keep k _=>
   cases hb
   obtain⟨q,h1,h2⟩:=ih k
   exact⟨q+1,by omega,.ins h2⟩
  |del k _=>
   cases hb
   obtain⟨q,h1,h2⟩:=ih k
   exact⟨q,by omega,h2⟩
  |ins k ihk=>
   obtain⟨q,h1,h2⟩:=ihk hb
   exact⟨q+1,by omega,.ins h2⟩
theorem Ed.all:∀b:Li,Ed b.length [] b
 |[]=>.nil
 |_::b=>.ins (Ed.all b)
theorem Ed.none:∀b:Li,Ed b.length b []
 |[]=>.nil
 |_::b=>.del (Ed.none b)
/-! ### Distance -/
def RowIs(m:Nat)(f:Nat→Nat)(row:Li):Prop:=row.length=m+1∧∀k,k≤m→row[k]? =some (f k:Int)
theorem RowIs.ix{m:Nat}{f:Nat→Nat}{row:Li}(h:RowIs m f row){k:Nat}(hk:k≤m):ix row (k:Int)=some (f k:Int):=by rw[M0];exact h.2 k hk
theorem RowIs.set{m:Nat}{f:Nat→Nat}{row:Li}(h:RowIs m f row)(k v:Nat):RowIs m (fun i=>if i=k then v else f i) (row.set k (v:Int)):=by
 refine⟨by rw[lS];exact h.1,fun i hi=> ?_⟩
 rw[List.getElem?_set]
 by_cases e:k=i
 ·subst e;simp[h.1];omega
 ·rw[if_neg e,h.2 i hi];simp[show ¬ i=k from fun e'=>e e'.symm]
theorem RowIs.congr{m:Nat}{f g:Nat→Nat}{row:Li}(h:RowIs m f row)(hg:∀k,k≤m→f k=g k):RowIs m g row:=⟨h.1,fun k hk=>by rw[h.2 k hk,hg k hk]⟩
def rk(l:Li)(k:Nat):Li:=(l.take k).reverse
end Ab
end
section
namespace Ab
open Go
end Ab
end
section
namespace Ab
open Go
def dg(x:Int):Li:=if x<10 then [48+x] else [48+x / 10,48+x % 10]
def encS(s:Li):Li:=s.flatMap (fun x=>dg x++[44])++[59]
def encK(l:LL):Li:=l.flatMap encS
def small(s:Li):Prop:=∀x ∈ s,0≤x∧x<100
theorem dg_split{x y:Int}(hx:0≤x∧x<100)(hy:0≤y∧y<100){r r':Li}(h:dg x++44::r=dg y++44::r'):x=y∧r=r':=by
 unfold dg at h
 split at h<;>split at h<;>simp only[List.cons_append,List.nil_append,List.cons.injEq] at h
 ·exact⟨by omega,h.2.2⟩
 ·exfalso;omega
 ·exfalso;omega
 ·exact⟨by omega,h.2.2.2⟩
theorem dg_head{x:Int}(hx:0≤x∧x<100):∃a l,dg x=a::l∧48≤a∧a<58:=by
 unfold dg
 split
 ·exact⟨_,_,rfl,by omega,by omega⟩
 ·exact⟨_,_,rfl,by omega,by omega⟩
theorem ai9(x:Int)(s:Li):encS (x::s)=dg x++44::encS s:=by simp[encS]
theorem encS_inj:∀{s s' r r':Li},small s→small s'→encS s++r=encS s'++r'→s=s'∧r=r'
 |[],[],r,r',_,_,h=>by simp[encS] at h;exact⟨rfl,h⟩
 |[],y::s',r,r',_,h2,h=>by
  obtain⟨a,l,ha,h3,h4⟩:=dg_head (h2 y (by simp))
  rw[ai9,ha] at h
  simp only[encS,List.flatMap_nil,List.nil_append,List.cons_append,List.cons.injEq] at h
  omega
 |x::s,[],r,r',h1,_,h=>by
  obtain⟨a,l,ha,h3,h4⟩:=dg_head (h1 x (by simp))
  rw[ai9,ha] at h
  simp only[encS,List.flatMap_nil,List.nil_append,List.cons_append,List.cons.injEq] at h
  omega
 |x::s,y::s',r,r',h1,h2,h=>by
  rw[ai9,ai9,List.append_assoc,List.append_assoc,List.cons_append,List.cons_append] at h
  obtain⟨rfl,g⟩:=dg_split (h1 x (by simp)) (h2 y (by simp)) h
  obtain⟨e1,e2⟩:=encS_inj (s:=s) (s':=s') (fun z hz=>h1 z (List.mem_cons_of_mem _ hz)) (fun z hz=>h2 z (List.mem_cons_of_mem _ hz)) g
  exact⟨by rw[e1],e2⟩
theorem encK_inj:∀{l l':LL},(∀s ∈ l,small s)→(∀s ∈ l',small s)→encK l=encK l'→l=l'
 |[],[],_,_,_=>rfl
 |[],s::l',_,_,h=>by
  have h:=congrArg List.length h
  simp only[encK,encS,List.flatMap_nil,List.flatMap_cons,List.length_append,List.length_nil,List.length_cons] at h
  omega
 |s::l,[],_,_,h=>by
  have h:=congrArg List.length h
  simp only[encK,encS,List.flatMap_nil,List.flatMap_cons,List.length_append,List.length_nil,List.length_cons] at h
  omega
 |s::l,s'::l',h1,h2,h=>by
  have h:encS s++encK l=encS s'++encK l':=h
  obtain⟨e1,e2⟩:=encS_inj (h1 s (List.mem_cons_self ..)) (h2 s' (List.mem_cons_self ..)) h
  have e3:=encK_inj (l:=l) (l':=l') (fun z hz=>h1 z (List.mem_cons_of_mem _ hz)) (fun z hz=>h2 z (List.mem_cons_of_mem _ hz)) e2
  rw[e1,e3]
theorem dg_byte{x:Int}(hx:0≤x∧x<100):∀a ∈ dg x,0≤a∧a<256:=by
 intro a ha
 unfold dg at ha
 split at ha<;>simp at ha<;>omega
theorem encS_byte{s:Li}(h:small s):∀a ∈ encS s,0≤a∧a<256:=by
 intro a ha
 simp only[encS,List.mem_append,List.mem_flatMap,List.mem_singleton] at ha
 rcases ha with⟨x,hx,h1|h1⟩|h1
 ·exact dg_byte (h x hx) a h1
 ·omega
 ·omega
theorem encK_byte{l:LL}(h:∀s ∈ l,small s):∀a ∈ encK l,0≤a∧a<256:=by
 intro a ha
 simp only[encK,List.mem_flatMap] at ha
 obtain⟨s,hs,h1⟩:=ha
 exact encS_byte (h s hs) a h1
theorem strB_inj{l l':Li}(h1:∀a ∈ l,0≤a∧a<256)(h2:∀a ∈ l',0≤a∧a<256)(h:strB l=strB l'):l=l':=by
 have h3:l.map (fun n=>UInt8.ofNat n.toNat)=l'.map (fun n=>UInt8.ofNat n.toNat):=by
  have:=congrArg ByteArray.data h
  simpa[strB] using this
 have back:∀{m:Li},(∀a ∈ m,0≤a∧a<256)→(m.map (fun n=>UInt8.ofNat n.toNat)).map (fun b=>(b.toNat:Int))=m:=by
  intro m hm
  rw[List.map_map]
  conv=>rhs;rw[← List.map_id m]
  apply List.map_congr_left
  intro a ha
  have:=hm a ha
  simp only[Function.comp_apply,id_eq,UInt8.toNat_ofNat']
  omega
 rw[← back h1,← back h2,h3]
def keyK(l:LL):ByteArray:=strB (encK l)
theorem keyK_inj{l l':LL}(h1:∀s ∈ l,small s)(h2:∀s ∈ l',small s)(h:keyK l=keyK l'):l=l':=encK_inj h1 h2 (strB_inj (encK_byte h1) (encK_byte h2) h)
/-! ### Maps -/
theorem E0{K V:Type}[DecidableEq K](k k':K)(v:V):∀m:List (K×V),mget (mset m k v) k'=if k'=k then some v else mget m k'
 |[]=>by
  simp only[mset,mget]
 |p::r=>by
  simp only[mset]
  by_cases h:k=p.1
  ·rw[if_pos h]
   simp only[mget]
   by_cases h2:k'=k
   ·rw[if_pos h2,if_pos h2]
   ·rw[if_neg h2,if_neg h2,if_neg (by rw[← h];exact h2)]
  ·rw[if_neg h]
   simp only[mget]
   rw[E0 k k' v r]
   by_cases h2:k'=p.1
   ·rw[if_pos h2,if_pos h2,if_neg (fun e=>h (e.symm.trans h2))]
   ·rw[if_neg h2,if_neg h2]
end Ab
end
section
namespace Ab
open Go
theorem aj4{α:Type}[DecidableEq α]:∀{c S:List α},c.Nodup→(∀x ∈ c,x ∈ S)→c.length≤S.length
 |[],_,_,_=>Nat.zero_le _
 |a::c,S,h,hs=>by
  obtain⟨h1,h2⟩:=List.nodup_cons.1 h
  have ha:=hs a (by simp)
  have:=aj4 (c:=c) (S:=S.erase a) h2 fun x hx=>by
   have hne:x ≠ a:=fun e=>h1 (e ▸ hx)
   exact(List.mem_erase_of_ne hne).2 (hs x (List.mem_cons_of_mem _ hx))
  rw[List.length_erase_of_mem ha] at this
  have:0<S.length:=List.length_pos_of_mem ha
  simp only[List.length_cons]
  omega
section
variable {α:Type}
def Dn(G L:α→Prop)(nx:α→List α):Nat→α→Prop
 |0,s=>G s
 |k+1,s=>G s∨(L s∧∀y ∈ nx s,Dn G L nx k y)
variable {G L:α→Prop}{nx:α→List α}
theorem Dn.goal{k:Nat}{s:α}(h:G s):Dn G L nx k s:=by
 cases k with
 |zero=>exact h
 |succ k=>exact .inl h
theorem Dn.succ:∀{k:Nat} {s:α},Dn G L nx k s→Dn G L nx (k+1) s
 |0,s,h=>.inl h
 |k+1,s,h=>by
  rcases h with h|⟨h1,h2⟩
  ·exact .inl h
  ·exact .inr ⟨h1,fun y hy=>(h2 y hy).succ⟩
theorem Dn.mono{k m:Nat}{s:α}(h:Dn G L nx k s)(hm:k≤m):Dn G L nx m s:=by
 induction hm with
 |refl=>exact h
 |step _ ih=>exact ih.succ
def Ht(G L:α→Prop)(nx:α→List α)(k:Nat)(s:α):Prop:=Dn G L nx k s∧∀j,j<k→¬ Dn G L nx j s
theorem Ht.unique{k m:Nat}{s:α}(h:Ht G L nx k s)(h':Ht G L nx m s):k=m:=by
 rcases Nat.lt_trichotomy k m with c|c|c
 ·exact absurd h.1 (h'.2 k c)
 ·exact c
 ·exact absurd h'.1 (h.2 m c)
theorem Ht.le{k m:Nat}{s:α}(h:Ht G L nx k s)(h':Dn G L nx m s):k≤m:=by
 rcases Nat.lt_or_ge m k with c|c
 ·exact absurd h' (h.2 m c)
 ·exact c
theorem Ht.of_dn:∀{k:Nat} {s:α},Dn G L nx k s→∃m,m≤k∧Ht G L nx m s
 |0,s,h=>⟨0,Nat.le_refl _,h,fun j hj=>by omega⟩
 |k+1,s,h=>by
  by_cases c:Dn G L nx k s
  ·obtain⟨m,h1,h2⟩:=Ht.of_dn c
   exact⟨m,by omega,h2⟩
  ·exact⟨k+1,Nat.le_refl _,h,fun j hj hd=>c (hd.mono (by omega))⟩
theorem Ht.zero{s:α}(h:G s):Ht G L nx 0 s:=⟨h,fun j hj=>by omega⟩
theorem Ht.goal{k:Nat}{s:α}(h:Ht G L nx k s)(hg:G s):k=0:=h.unique (.zero hg)
theorem Ht.step{k:Nat}{s:α}(h:Ht G L nx k s)(hg:¬ G s)(hne:∀s,L s→nx s ≠ []):∃m,k=m+1∧L s∧(∀y ∈ nx s,∃j,j≤m∧Ht G L nx j y)∧∃y ∈ nx s,Ht G L nx m y:=by
 cases k with
 |zero=>exact absurd h.1 hg
 |succ m=>
  rcases h.1 with g|⟨h1,h2⟩
  ·exact absurd g hg
  ·refine⟨m,rfl,h1,fun y hy=>Ht.of_dn (h2 y hy),?_⟩
   cases m with
   |zero=>
    obtain⟨y,hy⟩:=List.exists_mem_of_ne_nil _ (hne s h1)
    exact⟨y,hy,h2 y hy,fun j hj=>by omega⟩
   |succ m=>
    have hn:=h.2 (m+1) (by omega)
    have:∃y ∈ nx s,¬ Dn G L nx m y:=Classical.byContradiction fun hc=>hn (.inr ⟨h1,fun y hy=>Classical.byContradiction fun hy2=>hc ⟨y,hy,hy2⟩⟩)
    obtain⟨y,hy,hy2⟩:=this
    exact⟨y,hy,h2 y hy,fun j hj hd=>hy2 (hd.mono (by omega))⟩
end
end Ab
end
section
namespace Ab
open Go
/-! ### Maps -/
section
variable {K V:Type}[DecidableEq K]
theorem X7{k:K}{v:V}:∀{m:List (K×V)},mget m k=none→mset m k v=m++[(k,v)]
 |[],_=>rfl
 |p::r,h=>by
  simp only[mget] at h
  split at h
  ·cases h
  ·rename_i hne
   simp only[mset,if_neg hne,X7 h,List.cons_append]
theorem mset_keys{k:K}{v:V}:∀{m:List (K×V)},mget m k ≠ none→(mset m k v).map (·.1)=m.map (·.1)
 |[],h=>absurd rfl h
 |p::r,h=>by
  simp only[mget] at h
  simp only[mset]
  split
  ·rename_i e;simp[e]
  ·rename_i hne
   rw[if_neg hne] at h
   simp[mset_keys h]
theorem mget_mem{k:K}{v:V}:∀{m:List (K×V)},mget m k=some v→(k,v) ∈ m
 |[],h=>by cases h
 |p::r,h=>by
  simp only[mget] at h
  split at h
  ·rename_i e;cases h;subst e;exact List.mem_cons_self
  ·exact List.mem_cons_of_mem _ (mget_mem h)
theorem mget_none{k:K}:∀{m:List (K×V)},mget m k=none→k ∉ m.map (·.1)
 |[],_=>by simp
 |p::r,h=>by
  simp only[mget] at h
  split at h
  ·cases h
  ·rename_i hne
   have:=mget_none h
   simp only[List.map_cons,List.mem_cons,not_or]
   exact⟨hne,this⟩
end
theorem R7{α:Type}{l:List α}{i:Int}(h:i<0):ix l i=none:=by
 unfold ix;rw[if_neg (by omega)]
theorem am3{α:Type}{l:List α}{x:α}{i:Int}:ix (l++[x]) i=if i=l.length then some x else ix l i:=by
 by_cases h0:0≤i
 ·obtain⟨k,rfl⟩:=Int.eq_ofNat_of_zero_le h0
  rw[M0,M0]
  by_cases e:k=l.length
  ·subst e;simp
  ·rw[if_neg (by omega)]
   rcases Nat.lt_or_ge k l.length with h|h
   ·rw[List.getElem?_append_left h]
   ·rw[List.getElem?_eq_none (by simp;omega),List.getElem?_eq_none h]
 ·rw[R7 (by omega),R7 (by omega),if_neg (by omega)]
theorem aq9{α:Type}{l:List α}{x a:α}{i:Int}(h:ix l i=some a):ix (l++[x]) i=some a:=by
 rw[am3,if_neg (by have:=w8 h;omega),h]
theorem ix_snoc_new{α:Type}{l:List α}{x:α}:ix (l++[x]) (l.length:Int)=some x:=by rw[am3,if_pos rfl]
end Ab
end
section
namespace Ab
open Go
inductive Rt(t:e7):Li→Prop
 |init:Rt t t.init
 |step {s:Li} {op:Int} (h:Rt t s) (h0:0≤op) (h1:op<t.operators.length) (hc:can t s op):Rt t (aft t s op)
theorem Rt.setN{t:e7}(ht:j8 t){s:Li}(h:Rt t s):SetN s t.facts:=by
 cases h with
 |init=>exact ht.init
 |step=>exact W7 _ _ _
theorem Rt.ends{t:e7}:∀{plan s e:Li},Rt t s→(∀x ∈ plan,(0:Int)≤x∧x<t.operators.length)→ends t s plan=some e→Rt t e
 |[],s,e,hs,_,h=>by simp only[Ab.ends,Option.some.injEq] at h;subst h;exact hs
 |op::r,s,e,hs,hv,h=>by
  simp only[Ab.ends] at h
  split at h
  ·rename_i hc
   have:=hv op List.mem_cons_self
   exact Rt.ends (hs.step this.1 this.2 (m6.1 hc)) (fun x hx=>hv x (List.mem_cons_of_mem _ hx)) h
  ·cases h
def Cls(t:e7)(l:LL)(s:Li):Prop:=∀op:Int,0≤op→op<t.operators.length→can t s op→aft t s op ∈ l
theorem Rt.mem{t:e7}{l:LL}(hi:t.init ∈ l)(hc:∀s ∈ l,Cls t l s){s:Li}(h:Rt t s):s ∈ l:=by
 induction h with
 |init=>exact hi
 |step h h0 h1 hcan ih=>exact hc _ ih _ h0 h1 hcan
def Many(t:e7):Prop:=∃l:LL,l.Nodup∧l.length=2001∧∀s ∈ l,Rt t s
end Ab
end
section
namespace Ab
open Go
theorem av0{α β:Type}{l:List α}{body:Int→List β→Option (List β)}(g:α→List β)(N:Nat)(c0:List β)
  (hb:∀j a c,ix l j=some a→c.length+(g a).length≤N→body j c=some (c++g a)) (hN:c0.length+(l.flatMap g).length≤N):
  forR 0 (l.length:Int) body c0=some (c0++l.flatMap g):=by
 obtain⟨s',h1,h2⟩:=C4 (body:=body) (n:=(l.length:Int)) (s:=c0) (fun j c=>c=c0++(l.take j.toNat).flatMap g) (by omega) (by simp) (fun j c h0 h1 hP=>by
  obtain⟨a,g1,g2⟩:=m8 h0 h1
  have e:(j+1).toNat=j.toNat+1:=by omega
  have ht:l.take (j+1).toNat=l.take j.toNat++[a]:=by rw[e,List.take_add_one,g2];rfl
  refine⟨c++g a,hb j a c g1 ?_,?_⟩
  ·have hs:l=l.take j.toNat++[a]++l.drop (j+1).toNat:=by rw[← ht,List.take_append_drop]
   have hl:(l.flatMap g).length=((l.take j.toNat).flatMap g).length+(g a).length+((l.drop (j+1).toNat).flatMap g).length:=by
    conv=>lhs;rw[hs]
    simp[List.flatMap_append];omega
   rw[hP,List.length_append];omega
  ·rw[ht,List.flatMap_append,hP];simp)
 rw[h1,h2]
 simp
theorem small_eq:∀n:Fin 100,(internal_strconv_small (n:Nat)).map strL=some (dg (n:Nat)):=by decide+kernel
theorem appendInt_eq{x:Int}(hx:0≤x∧x<100){l:Li}(hl:l.length≤1000000):D1 x 10 l=some (l++dg x):=by
 have h:=small_eq ⟨x.toNat,by omega⟩
 rw[show(((⟨x.toNat,by omega⟩:Fin 100):Nat):Int)=x by simp;omega] at h
 obtain⟨b,h1,h2⟩:=oM.1 h
 first
  |unfold D1 C0 A9
  |unfold D1 internal_strconv_AppendInt_w2 internal_strconv_AppendUint_w3
 rw[if_neg (by omega),IntKind.wrap_u64,Int.emod_eq_of_lt (by omega) (by omega)]
 simp only[oB,if_true]
 rw[if_pos hx.2,w7 (by omega) (by omega),h1]
 simp only[oB,h2]
 have:(dg x).length≤2:=by unfold dg;split<;>simp
 rw[app,if_pos (by omega)]
 rfl
theorem dg_len(x:Int):(dg x).length≤2:=by unfold dg;split<;>simp
theorem key_eq{l:LL}(hs:∀s ∈ l,small s)(hN:(encK l).length≤900000):G4 l=some (keyK l):=by
 unfold G4
 rw[av0 encS 900000 [] (fun j s c hj hc=>by
  unfold ak5
  rw[hj]
  simp only[oB]
  have hlen:(encS s).length=(s.flatMap fun x=>dg x++[44]).length+1:=by simp[encS]
  rw[av0 (fun x=>dg x++[44]) 900000 c (fun i x c' hi hc'=>by
   unfold ak3
   rw[hi]
   simp only[List.length_append,List.length_singleton] at hc'
   simp only[oB,appendInt_eq (hs s (v8 hj) x (v8 hi)) (l:=c') (by omega)]
   rw[app,if_pos (by simp;omega)]
   simp) (by omega)]
  simp only[oB]
  rw[app,if_pos (by rw[List.length_append];simp only[List.length_singleton];omega)]
  simp[encS]) (by simpa[encK] using hN)]
 rfl
theorem encS_len:∀s:Li,(encS s).length≤3 * s.length+1
 |[]=>by simp[encS]
 |x::s=>by
  have:=encS_len s
  have:=dg_len x
  rw[ai9]
  simp only[List.length_append,List.length_cons]
  omega
end Ab
end
section
namespace Ab
open Go
/-! ### All sets -/
/-! ### Keys -/
theorem aj2{t:e7}(ht:j8 t){s:Li}(hs:SetN s t.facts):small s:=fun x hx=>by
 have:=ht.n1
 have:=hs.2 x hx
 omega
/-! ### Maps -/
section
variable {K V:Type}[DecidableEq K]
end
/-! ### What the search keeps -/
abbrev Mp':=List (ByteArray×Int)
end Ab
end
section
namespace Ab
open Go
theorem kone_eq{s:Li}(hs:small s)(h1:s.length≤1000):G4 [s]=some (keyK [s]):=by
 refine key_eq (by simp[hs]) ?_
 have:=encS_len s
 simp only[encK,List.flatMap_cons,List.flatMap_nil,List.append_nil]
 omega
theorem kone_inj{t:e7}(ht:j8 t){s s':Li}(h:SetN s t.facts)(h':SetN s' t.facts)(e:keyK [s]=keyK [s']):s=s':=by
 have:=keyK_inj (fun x hx=>by simp at hx;subst hx;exact aj2 ht h) (fun x hx=>by simp at hx;subst hx;exact aj2 ht h') e
 simpa using this
theorem ar4{l:LL}{f:Li→Option Bool}{p:Li→Prop}(h:∀x ∈ l,f x=some (dec (p x))):x8 l f=some (dec (∃x ∈ l,p x)):=by
 unfold x8 I6
 rcases X6 (body:=F7 l f) (n:=(l.length:Int)) (fun j=>if dec (∃x,ix l j=some x∧p x)=true then some j else none) (by omega) (fun j h0 h1 _=>by
  obtain⟨x,hx,_⟩:=m8 (l:=l) h0 h1
  unfold F7
  simp only[hx,oB,h x (v8 hx)]
  by_cases e:p x
  ·rw[ifP e,ifP ⟨x,rfl,e⟩]
  ·rw[ifN e,ifN (by rintro ⟨z,hz,hp⟩;cases hz;exact e hp)]) with⟨h1,h2⟩|⟨j,o,h0,h1,h2,h3,h4⟩
 ·rw[h1]
  simp only[oB]
  rw[B4]
  ·rfl
  ·rintro ⟨x,hx,hp⟩
   obtain⟨i,i0,i1,hi⟩:=C2 hx
   have:=h2 i i0 i1
   rw[ifP ⟨x,hi,hp⟩] at this
   cases this
 ·rw[h4]
  split at h2
  ·rename_i e
   cases h2
   simp only[oB]
   obtain⟨x,hx,hp⟩:=m6.1 e
   rw[o7 ⟨x,v8 hx,hp⟩,decide_eq_true h0]
  ·cases h2
theorem as8{s pre:Li}(hs:Inc s)(hp:Inc pre)(hl:s.length≤1000000):N2 [s] pre=some (dec (∀x ∈ pre,x ∈ s)):=by
 unfold N2
 rw[ar4 (p:=fun y=>¬ ∀x ∈ pre,x ∈ y) (fun x hx=>by
  simp only[List.mem_singleton] at hx
  subst hx
  unfold ac0
  rw[aq3 hs hp hl]
  simp only[oB,K8])]
 simp only[oB,K8]
 refine congrArg some (I9 ⟨fun h=>Classical.byContradiction fun g=>h ⟨s,by simp,g⟩,fun h=> ?_⟩)
 rintro ⟨x,hx,hn⟩
 simp only[List.mem_singleton] at hx
 subst hx
 exact hn h
theorem after_one{t:e7}(ht:j8 t){s:Li}(hs:SetN s t.facts){op:Int}(h0:0≤op)(h1:op<t.operators.length):J4 t [s] op=some [aft t s op]:=by
 have e:forR 0 (([s]:LL).length:Int) (Q6 t [s] op) []=some [aft t s op]:=by
  show forN (Q6 t [s] op) 1 0 []=_
  simp only[forN]
  have e0:ix [s] 0=some s:=rfl
  have e1:app 24 ([]:LL) [aft t s op]=some [aft t s op]:=rfl
  unfold Q6
  simp only[e0,oB,next_eq ht h0 h1 hs,e1]
 unfold J4
 rw[e]
 simp only[oB]
 obtain⟨r,r1,r2,r3,_⟩:=normal_eq (l:=[aft t s op]) (by simp)
 rw[r1]
 simp only[oB]
 rw[Ord.ext r2 (by simp) r3]
structure Bq(t:e7)(l:LL)(m:Mp')(qu:List d9):Prop where
 node:qu.map (·.node)=l.map (fun s=>[s])
 nd:l.Nodup
 rt:∀s ∈ l,Rt t s
 map:∀s,SetN s t.facts→(0<(mget m (keyK [s])).getD 0↔s ∈ l)
 len:l.length≤2000
theorem Bq.ql{t:e7}{l:LL}{m:Mp'}{qu:List d9}(h:Bq t l m qu):qu.length=l.length:=by
 have:=congrArg List.length h.node
 simpa using this
theorem Bq.at{t:e7}{l:LL}{m:Mp'}{qu:List d9}(h:Bq t l m qu){i:Int}{e:d9}(hi:ix qu i=some e):∃s,ix l i=some s∧e.node=[s]:=by
 obtain⟨h0,h1,h2⟩:=w8 hi
 have hg:=congrArg (fun l=>l[i.toNat]?) h.node
 simp only[lM,h2,Option.map_some] at hg
 cases hs:l[i.toNat]? with
 |none=>rw[hs] at hg;cases hg
 |some s=>
  rw[hs] at hg
  simp only[Option.map_some,Option.some.injEq] at hg
  refine⟨s,?_,hg⟩
  rw[show i=((i.toNat:Nat):Int) by omega,M0]
  exact hs
theorem breadth_in{t:e7}(ht:j8 t){l:LL}{m:Mp'}{qu:List d9}(h:Bq t l m qu){c:Int}{e:d9}{s:Li}(hs:s ∈ l)(he:e.node=[s]):
  (∃l' m' qu',D3 t.facts t.init t.goal t.operators qu m c e=some (.inl (m',qu'))∧Bq t l' m' qu'∧(∃ex,l'=l++ex)∧Cls t l' s)∨(∃y,D3 t.facts t.init t.goal t.operators qu m c e=some (.inr y)∧Many t):=by
 have hsN:=(h.rt s hs).setN ht
 have h24:=ht.n1
 unfold D3
 rcases ah7 (body:=H6 t.facts t.init t.goal t.operators c e) (n:=(t.operators.length:Int)) (s:=(m,qu))
  (fun j st=>∃l',Bq t l' st.1 st.2∧(∃ex,l'=l++ex)∧∀op:Int,0≤op→op<j→can t s op→aft t s op ∈ l')
  (fun o=>∃y,o=.inr y∧Many t) (by omega) ⟨l,h,⟨[],by simp⟩,fun op o0 o1=>by omega⟩
  (fun j st j0 j1 hP=>by
   obtain⟨m1,qu1⟩:=st
   obtain⟨l1,g1,g2,g3⟩:=hP
   simp only at g1
   have hop:=ht.at j0 j1
   have hnew:=W7 t s j
   unfold H6
   simp only[Y8 j0 j1,oB,he]
   rw[as8 hsN.1 hop.1.1.1 (by have:=hsN.len;omega)]
   simp only[oB]
   by_cases hc:can t s j
   ·rw[if_pos (o7 (show ∀x ∈ (opAt t j).pre,x ∈ s from hc))]
    have ea:J4 (⟨t.facts,t.init,t.goal,t.operators⟩:e7) [s] j=some [aft t s j]:=after_one ht hsN j0 j1
    rw[ea]
    simp only[oB,kone_eq (aj2 ht hnew) (by have:=hnew.len;omega)]
    by_cases hm:aft t s j ∈ l1
    ·rw[if_pos ((g1.map _ hnew).2 hm)]
     refine .inl ⟨_,rfl,l1,g1,g2,fun op o0 o1 oc=> ?_⟩
     by_cases eo:op=j
     ·subst eo;exact hm
     ·exact g3 op o0 (by omega) oc
    ·rw[if_neg (fun hx=>hm ((g1.map _ hnew).1 hx))]
     have hrt:Rt t (aft t s j):=(h.rt s hs).step j0 j1 hc
     have hnd:(l1++[aft t s j]).Nodup:=by
      rw[List.nodup_append]
      refine⟨g1.nd,by simp,fun a ha b hb eab=> ?_⟩
      simp only[List.mem_singleton] at hb
      subst hb;subst eab;exact hm ha
     have hrs:∀y ∈ l1++[aft t s j],Rt t y:=fun y hy=>by
      rcases List.mem_append.1 hy with hy|hy
      ·exact g1.rt y hy
      ·simp only[List.mem_singleton] at hy;subst hy;exact hrt
     have hql:=g1.ql
     have hlen:=g1.len
     by_cases hq:(qu1.length:Int)=2000
     ·rw[if_pos hq]
      exact .inr ⟨_,rfl,_,rfl,l1++[aft t s j],hnd,by simp;omega,hrs⟩
     ·rw[if_neg hq]
      have ha:app 40 qu1 [(⟨[aft t s j],c,j⟩:d9)]=some (qu1++[⟨[aft t s j],c,j⟩]):=by rw[app,if_pos (by simp;omega)]
      rw[ha]
      refine .inl ⟨_,rfl,l1++[aft t s j],⟨by simp[g1.node],hnd,hrs,fun y hy=> ?_,by simp;omega⟩,?_,fun op o0 o1 oc=> ?_⟩
      ·simp only
       rw[E0]
       by_cases ek:keyK [y]=keyK [aft t s j]
       ·rw[if_pos ek,kone_inj ht hy hnew ek];simp
       ·rw[if_neg ek,g1.map y hy,List.mem_append,List.mem_singleton]
        exact⟨.inl,fun g=>g.elim id fun g=>absurd (by rw[g]) ek⟩
      ·obtain⟨ex,rfl⟩:=g2
       exact⟨ex++[aft t s j],by simp⟩
      ·by_cases eo:op=j
       ·subst eo;simp
       ·exact List.mem_append_left _ (g3 op o0 (by omega) oc)
   ·rw[if_neg (show ¬ dec (∀x ∈ (opAt t j).pre,x ∈ s)=true from fun g=>hc (m6.1 g))]
    refine .inl ⟨_,rfl,l1,g1,g2,fun op o0 o1 oc=> ?_⟩
    by_cases eo:op=j
    ·subst eo;exact absurd oc hc
    ·exact g3 op o0 (by omega) oc) with⟨⟨m',qu'⟩,h1,l',h2,h3,h4⟩|⟨o,h1,y,rfl,h2⟩
 ·left
  rw[h1]
  exact⟨l',m',qu',rfl,h2,h3,h4⟩
 ·right
  rw[h1]
  exact⟨y,rfl,h2⟩
theorem breadth_spec{t:e7}(ht:j8 t):∃b,C3 [t.init] t.facts t.init t.goal t.operators=some b∧(b=false→Many t)∧(b=true→∃l:LL,l.Nodup∧l.length≤2000∧∀s,s ∈ l↔Rt t s):=by
 have h24:=ht.n1
 unfold C3 N0
 rw[kone_eq (aj2 ht ht.init) (by have:=ht.init.len;omega)]
 simp only[oB]
 obtain⟨o,h1,h2⟩:=S4 (body:=H7 t.facts t.init t.goal t.operators) (s:=([(⟨[t.init], -1,0⟩:d9)],mset ([]:List (ByteArray×Int)) (keyK [t.init]) 1,0))
  (fun s=>∃l,Bq t l s.2.1 s.1∧t.init ∈ l∧0≤s.2.2∧s.2.2≤l.length∧∀(k:Int) (x:Li),k<s.2.2→ix l k=some x→Cls t l x)
  (fun o=>(o=.inl ()∧∃l:LL,l.Nodup∧l.length≤2000∧∀s,s ∈ l↔Rt t s)∨(o=.inr ([],false,false)∧Many t))
  (fun s=>2001 - s.2.2.toNat) ⟨[t.init],⟨rfl,by simp,fun s hs=>by simp at hs;subst hs;exact .init,fun s hs=>by
   simp only
   rw[E0]
   by_cases ek:keyK [s]=keyK [t.init]
   ·rw[if_pos ek,kone_inj ht hs ht.init ek];simp
   ·rw[if_neg ek]
    simp only[mget,Option.getD_none,List.mem_singleton]
    exact⟨fun h=>by omega,fun g=>absurd (by rw[g]) ek⟩,by simp⟩,by simp,by simp only;omega,by simp only;omega,fun k x hk hx=>by have:=w8 hx;simp only at hk;omega⟩
  (fun s hP=>by
   obtain⟨qu,m,c⟩:=s
   obtain⟨l,g1,g2,g3,g4,g5⟩:=hP
   simp only at g1 g3 g4 g5
   have hql:=g1.ql
   have hlen:=g1.len
   unfold H7
   dsimp only
   by_cases cc:c<(qu.length:Int)
   ·rw[if_pos cc]
    obtain⟨e,he,_⟩:=m8 (l:=qu) g3 cc
    obtain⟨s,hs,hn⟩:=g1.at he
    simp only[he,oB,R3,K6,I0]
    rw[if_neg (by simp)]
    rcases breadth_in ht g1 (c:=c) (v8 hs) hn with⟨l',m',qu',k1,k2,⟨ex,rfl⟩,k4⟩|⟨⟨y1,y2⟩,k1,k2⟩
    ·left
     rw[k1]
     refine⟨(qu',m',c+1),by simp only[oB];rw[w7 (by omega) (by omega)],⟨l++ex,k2,List.mem_append_left _ g2,by simp only;omega,by simp only[List.length_append];omega,fun k x hk hx=> ?_⟩,by simp only;omega⟩
     simp only at hk
     have hx0:=w8 hx
     have hx2:ix l k=some x:=by
      rw[show k=((k.toNat:Nat):Int) by omega,M0] at hx ⊢
      rwa [List.getElem?_append_left (by omega)] at hx
     by_cases ek:k=c
     ·subst ek
      rw[hs] at hx2;cases hx2
      exact k4
     ·exact fun op o0 o1 oc=>List.mem_append_left _ (g5 k x (by omega) hx2 op o0 o1 oc)
    ·right
     rw[k1]
     exact⟨_,rfl,.inr ⟨rfl,k2⟩⟩
   ·rw[if_neg cc]
    right
    refine⟨_,rfl,.inl ⟨rfl,l,g1.nd,hlen,fun s=>⟨g1.rt s,fun hs=>hs.mem g2 fun x hx=> ?_⟩⟩⟩
    obtain⟨k,k0,k1,k2⟩:=C2 hx
    exact g5 k x (by omega) k2)
 rw[h1]
 rcases h2 with⟨rfl,h2⟩|⟨rfl,h2⟩
 ·exact⟨true,rfl,by simp,fun _=>h2⟩
 ·exact⟨false,rfl,fun _=>h2,by simp⟩
theorem small_of{t:e7}(ht:j8 t){S:LL}(hS:S.length≤2000)(hm:∀s,Rt t s→s ∈ S):C3 [t.init] t.facts t.init t.goal t.operators=some true:=by
 obtain⟨b,h1,h2,_⟩:=breadth_spec ht
 cases b with
 |true=>exact h1
 |false=>
  obtain⟨l,l1,l2,l3⟩:=h2 rfl
  have:=aj4 l1 (fun s hs=>hm s (l3 s hs))
  omega
end Ab
end
section
namespace Ab
open Go
theorem tc_repeat(c:Int){n:Nat}(h1:1≤n)(hn:n≤100000):B7 [c] (n:Int)=some (List.replicate n c):=by
 unfold B7
 dsimp only
 rw[if_pos (show(1:Int)≤n∧(n:Int)≤4294967295 by omega)]
 simp
theorem tc_forR{S:Type}{body:Int→S→Option S}{lo n:Int}(P:Int→S→Prop){s:S}(hn:lo≤n)(h0:P lo s)
  (hb:∀j s,lo≤j→j<n→P j s→∃s',body j s=some s'∧P (j+1) s'):∃s',forR lo n body s=some s'∧P n s':=by
 obtain⟨s',h1,h2⟩:=at3 P (n - lo).toNat lo s h0 (fun j s g1 g2=>hb j s g1 (by omega))
 exact⟨s',h1,by rwa [show lo+((n - lo).toNat:Int)=n by omega] at h2⟩
/-! ### Tables of numbers -/
structure Mt(n:Int)(c:LL)(D:Int→Int→Int):Prop where
 len:(c.length:Int)=n
 row:∀i,0≤i→i<n→∃r,ix c i=some r∧(r.length:Int)=n∧∀j,0≤j→j<n→ix r j=some (D i j)
section
variable {n:Int}{c:LL}{D:Int→Int→Int}
theorem Mt.congr(h:Mt n c D){D':Int→Int→Int}(he:∀i j,0≤i→i<n→0≤j→j<n→D i j=D' i j):Mt n c D':=⟨h.len,fun i i0 i1=>by
 obtain⟨r,r1,r2,r3⟩:=h.row i i0 i1
 exact⟨r,r1,r2,fun j j0 j1=>by rw[r3 j j0 j1,he i j i0 i1 j0 j1]⟩⟩
def updD(D:Int→Int→Int)(i j v:Int):Int→Int→Int:=fun a b=>if a=i∧b=j then v else D a b
theorem Mt.put(h:Mt n c D){i j v:Int}(i0:0≤i)(i1:i<n)(j0:0≤j)(j1:j<n){r:Li}(hr:ix c i=some r):Mt n (c.set i.toNat (r.set j.toNat v)) (updD D i j v):=by
 have hl:=h.len
 refine⟨by rw[lS];exact hl,fun a a0 a1=> ?_⟩
 rw[J7 i0 (by omega) a0]
 obtain⟨r',g1,g2,g3⟩:=h.row a a0 a1
 by_cases e:a=i
 ·subst e
  rw[hr] at g1;cases g1
  rw[if_pos rfl]
  refine⟨_,rfl,by rw[lS];exact g2,fun b b0 b1=> ?_⟩
  rw[J7 j0 (by omega) b0,updD]
  by_cases e:b=j
  ·rw[if_pos e,if_pos ⟨rfl,e⟩]
  ·rw[if_neg e,if_neg (fun h=>e h.2),g3 b b0 b1]
 ·rw[if_neg e]
  exact⟨r',g1,g2,fun b b0 b1=>by rw[g3 b b0 b1,updD,if_neg (fun h=>e h.1)]⟩
def relD(D:Int→Int→Int)(k:Int):Int→Int→Int:=fun i j=>if D i k<1000000000∧D k j<1000000000 then min (D i j) (D i k+D k j) else D i j
def midD(D:Int→Int→Int)(k i j:Int):Int→Int→Int:=fun a b=>if a<i∨a=i∧b<j then relD D k a b else D a b
theorem relD_row{k:Int}(hk:D k k=0)(i:Int):relD D k i k=D i k:=by
 unfold relD
 split
 ·rw[hk,Int.add_zero,Int.min_self]
 ·rfl
theorem relD_col{k:Int}(hk:D k k=0)(j:Int):relD D k k j=D k j:=by
 unfold relD
 split
 ·rw[hk,Int.zero_add,Int.min_self]
 ·rfl
theorem midD_row{k:Int}(hk:D k k=0)(i j a:Int):midD D k i j a k=D a k:=by
 unfold midD
 split
 ·exact relD_row hk a
 ·rfl
theorem midD_col{k:Int}(hk:D k k=0)(i j b:Int):midD D k i j k b=D k b:=by
 unfold midD
 split
 ·exact relD_col hk b
 ·rfl
theorem midD_self{k i j:Int}:midD D k i j i j=D i j:=by
 unfold midD
 rw[if_neg (by omega)]
structure Ent0(n:Int)(D:Int→Int→Int)(M:Int):Prop where
 low:∀i j,0≤i→i<n→0≤j→j<n→j - i≤D i j
 zero:∀i,0≤i→i<n→D i 0≤0
 diag:∀i,0≤i→i<n→D i i=0
 up:∀i j,0≤i→i<n→0≤j→j<n→D i j=1000000000∨D i j≤M
def TriD(n:Int)(D:Int→Int→Int)(m0:Int):Prop:=∀m i j,0≤m→m<m0→m<n→0≤i→i<n→0≤j→j<n→D i m<1000000000→D m j<1000000000→D i j≤D i m+D m j
variable {M:Int}
theorem relD_le{k:Int}(i j:Int):relD D k i j≤D i j:=by
 unfold relD
 split
 ·omega
 ·omega
theorem ag9{k:Int}(i j:Int):(relD D k i j=D i j)∨(D i k<1000000000∧D k j<1000000000∧relD D k i j=D i k+D k j):=by
 unfold relD
 split
 ·rename_i h
  by_cases c:D i j≤D i k+D k j
  ·exact .inl (by omega)
  ·exact .inr ⟨h.1,h.2,by omega⟩
 ·exact .inl rfl
theorem as9{k:Int}{i j:Int}(h1:D i k<1000000000)(h2:D k j<1000000000):relD D k i j≤D i k+D k j:=by
 unfold relD
 rw[if_pos ⟨h1,h2⟩]
 omega
theorem Ent0.rel(h:Ent0 n D M)(hM:0≤M){k:Int}(k0:0≤k)(k1:k<n):Ent0 n (relD D k) (2 * M):=by
 refine⟨fun i j i0 i1 j0 j1=> ?_,fun i i0 i1=> ?_,fun i i0 i1=> ?_,fun i j i0 i1 j0 j1=> ?_⟩
 ·have a1:=h.low i j i0 i1 j0 j1;have a2:=h.low i k i0 i1 k0 k1;have a3:=h.low k j k0 k1 j0 j1
  rcases ag9 (D:=D) (k:=k) i j with e|⟨_,_,e⟩<;>omega
 ·have a1:=h.zero i i0 i1;have a2:=relD_le (D:=D) (k:=k) i 0
  omega
 ·have a1:=h.diag i i0 i1;have a2:=relD_le (D:=D) (k:=k) i i
  have a3:=h.low i k i0 i1 k0 k1;have a4:=h.low k i k0 k1 i0 i1
  rcases ag9 (D:=D) (k:=k) i i with e|⟨_,_,e⟩<;>omega
 ·have a1:=h.up i j i0 i1 j0 j1;have a2:=h.up i k i0 i1 k0 k1;have a3:=h.up k j k0 k1 j0 j1
  rcases ag9 (D:=D) (k:=k) i j with e|⟨e1,e2,e⟩
  ·omega
  ·right;omega
theorem TriD.rel{k:Int}(ht:TriD n D k)(h:Ent0 n D M)(hM:M≤400000000)(k0:0≤k)(k1:k<n):TriD n (relD D k) (k+1):=fun m i j m0 m1 mn i0 i1 j0 j1 e1 e2=>by
 have hk:=h.diag k k0 k1
 by_cases e:m=k
 ·subst e
  rw[relD_row hk] at e1 ⊢
  rw[relD_col hk] at e2 ⊢
  exact as9 e1 e2
 ·have hm:m<k:=by omega
  have u1:=h.up i m i0 i1 m0 mn;have u2:=h.up m j m0 mn j0 j1;have u3:=h.up k m k0 k1 m0 mn;have u4:=h.up m k m0 mn k0 k1;have u5:=h.up i k i0 i1 k0 k1;have u6:=h.up k j k0 k1 j0 j1
  have le:=relD_le (D:=D) (k:=k) i j
  rcases ag9 (D:=D) (k:=k) i m with a|⟨a1,a2,a⟩<;>rcases ag9 (D:=D) (k:=k) m j with b|⟨b1,b2,b⟩
  ·rw[a] at e1 ⊢;rw[b] at e2 ⊢
   have:=ht m i j m0 hm mn i0 i1 j0 j1 e1 e2
   omega
  ·rw[a] at e1 ⊢;rw[b]
   have:=ht m i k m0 hm mn i0 i1 k0 k1 e1 b1
   have:=as9 (D:=D) (k:=k) (i:=i) (j:=j) (by omega) b2
   omega
  ·rw[a];rw[b] at e2 ⊢
   have:=ht m k j m0 hm mn k0 k1 j0 j1 a2 e2
   have:=as9 (D:=D) (k:=k) (i:=i) (j:=j) a1 (by omega)
   omega
  ·rw[a,b]
   have:=ht m k k m0 hm mn k0 k1 k0 k1 a2 b1
   have:=as9 (D:=D) (k:=k) (i:=i) (j:=j) a1 b2
   omega
/-! ### One round -/
theorem tight3(h:Ent0 n D M)(hM:0≤M)(hM2:M≤400000000)(hn:n≤10){k i j:Int}(k0:0≤k)(k1:k<n)(i0:0≤i)(i1:i<n)(j0:0≤j)(j1:j<n)(hc:Mt n c (midD D k i j)):
  ∃c',J3 k i j c=some c'∧Mt n c' (midD D k i (j+1)):=by
 have hk:=h.diag k k0 k1
 obtain⟨ri,a1,a2,a3⟩:=hc.row i i0 i1
 obtain⟨rk,b1,b2,b3⟩:=hc.row k k0 k1
 have a4:=a3 k k0 k1;have a5:=a3 j j0 j1;have b4:=b3 j j0 j1
 rw[midD_row hk] at a4
 rw[midD_self] at a5
 rw[midD_col hk] at b4
 have u1:=h.up i k i0 i1 k0 k1;have u2:=h.up k j k0 k1 j0 j1
 have l1:=h.low i k i0 i1 k0 k1;have l2:=h.low k j k0 k1 j0 j1
 unfold J3
 simp only[a1,a4,oB,b1,b4]
 have key:(if D i k<1000000000 then some (decide (D k j<1000000000)) else some false)=some (decide (D i k<1000000000∧D k j<1000000000)):=by
  by_cases c1:D i k<1000000000<;>by_cases c2:D k j<1000000000<;>simp[c1,c2]
 rw[key]
 simp only[oB]
 by_cases cc:D i k<1000000000∧D k j<1000000000
 ·rw[if_pos (decide_eq_true cc)]
  simp only[a5,oB]
  rw[w7 (by omega) (by omega)]
  refine⟨_,rfl,(hc.put i0 i1 j0 j1 a1).congr fun a b _ _ _ _=> ?_⟩
  unfold updD
  by_cases e:a=i∧b=j
  ·obtain⟨rfl,rfl⟩:=e
   rw[if_pos ⟨rfl,rfl⟩,midD,if_pos (by omega),relD,if_pos cc]
  ·rw[if_neg e]
   unfold midD
   by_cases e2:a<i∨a=i∧b<j
   ·rw[if_pos e2,if_pos (by omega)]
   ·rw[if_neg e2,if_neg (by omega)]
 ·rw[if_neg (by simpa using cc)]
  refine⟨_,rfl,hc.congr fun a b _ _ _ _=> ?_⟩
  unfold midD
  by_cases e:a=i∧b=j
  ·obtain⟨rfl,rfl⟩:=e
   rw[if_neg (by omega),if_pos (by omega),relD,if_neg cc]
  ·by_cases e2:a<i∨a=i∧b<j
   ·rw[if_pos e2,if_pos (by omega)]
   ·rw[if_neg e2,if_neg (by omega)]
theorem tight2(h:Ent0 n D M)(hM:0≤M)(hM2:M≤400000000)(hn:n≤10){k i:Int}(k0:0≤k)(k1:k<n)(i0:0≤i)(i1:i<n)(hc:Mt n c (midD D k i 0)):
  ∃c',J8 k i c=some c'∧Mt n c' (midD D k (i+1) 0):=by
 obtain⟨c',r1,r2⟩:=C4 (body:=J3 k i) (n:=(c.length:Int)) (s:=c) (fun j c'=>Mt n c' (midD D k i j)) (by omega) hc (fun j c' j0 j1 hP=>tight3 h hM hM2 hn k0 k1 i0 i1 j0 (by have:=hc.len;omega) hP)
 unfold J8
 rw[r1]
 refine⟨_,rfl,r2.congr fun a b _ _ b0 b1=> ?_⟩
 have:=hc.len
 unfold midD
 by_cases e:a<i∨a=i∧b<(c.length:Int)
 ·rw[if_pos e,if_pos (by omega)]
 ·rw[if_neg e,if_neg (by omega)]
theorem min_row{r:Li}(h:r ≠ []):∃m,J0 r=some m∧m ∈ r:=by
 have hl:0<r.length:=List.length_pos_iff.2 h
 obtain⟨x,hx,_⟩:=m8 (l:=r) (i:=0) (by omega) (by omega)
 unfold J0
 rw[if_neg (by omega)]
 simp only[oB,hx]
 obtain⟨m,r1,r2⟩:=tc_forR (lo:=1) (body:=L4 r) (n:=(r.length:Int)) (s:=x) (fun j m=>m ∈ r) (by omega) (v8 hx) (fun j m j0 j1 hP=>by
  obtain⟨y,hy,_⟩:=m8 (l:=r) (i:=j) (by omega) j1
  unfold L4
  rw[hy]
  refine⟨_,rfl,?_⟩
  by_cases e:m≤y
  ·rw[Int.min_eq_left e];exact hP
  ·rw[Int.min_eq_right (by omega)];exact v8 hy)
 rw[r1]
 exact⟨m,rfl,r2⟩
theorem tight1(h:Ent0 n D M)(hM:0≤M)(hM2:M≤200000000)(h1:1≤n)(hn:n≤10){k:Int}(k0:0≤k)(k1:k<n)(hc:Mt n c D):
  ∃c',F4 k c=some (.inl c')∧Mt n c' (relD D k):=by
 have hlen:=hc.len
 obtain⟨c',r1,r2⟩:=C4 (body:=J8 k) (n:=(c.length:Int)) (s:=c) (fun i c'=>Mt n c' (midD D k i 0)) (by omega) (hc.congr fun a b a0 _ b0 _=>by unfold midD;rw[if_neg (by omega)]) (fun i c' i0 i1 hP=>tight2 h hM (by omega) hn k0 k1 i0 (by omega) hP)
 have hm:Mt n c' (relD D k):=r2.congr fun a b _ a1 _ _=>by unfold midD;rw[if_pos (by omega)]
 have hE:=h.rel hM k0 k1
 unfold F4
 rw[r1]
 simp only[oB]
 rw[ar4 (p:=fun _=>False) (fun r hr=>by
  obtain⟨i,i0,i1,hi⟩:=C2 hr
  have hl':=hm.len
  obtain⟨r',g1,g2,g3⟩:=hm.row i i0 (by omega)
  rw[hi] at g1;cases g1
  obtain⟨m,m1,m2⟩:=min_row (r:=r) (by intro e;rw[e] at g2;simp at g2;omega)
  obtain⟨j,j0,j1,hj⟩:=C2 m2
  rw[g3 j j0 (by omega)] at hj
  have:=hE.low i j i0 (by omega) j0 (by omega)
  have hme:=Option.some.inj hj
  unfold S8
  rw[m1]
  simp only[oB]
  rw[B4 (fun h=>h),decide_eq_false (by omega)])]
 simp only[oB]
 rw[B4 (by simp),if_neg (by simp)]
 exact⟨c',rfl,hm⟩
theorem tight_all{L:Int→Int→Prop}(h:Ent0 n D 1000)(h1:1≤n)(hn:n≤10)(hc:Mt n c D)(hL:∀i j,L i j→0≤i∧i<n∧0≤j∧j<n∧D i j≤ -1):
  ∃c' D',(Option.bind (rngX 0 (c.length:Int) F4 c) fun| .inl c2=>(Option.bind (rngX 0 (c2.length:Int) (Q7 c2) ()) fun| .inl _=>some (c2,true)| .inr x=>some x)| .inr x=>some x)=some (c',true)∧Mt n c' D'∧(∀i,0≤i→i<n→ -i≤D' i 0∧D' i 0≤0)∧∀i j,L i j→D' i 0≤D' j 0 - 1:=by
 have hlen:=hc.len
 rcases ah7 (body:=F4) (n:=(c.length:Int)) (s:=c) (fun k c'=>∃D',Mt n c' D'∧Ent0 n D' (1000 * 2 ^ k.toNat)∧TriD n D' k∧∀i j,L i j→D' i j≤ -1) (fun _=>False) (by omega) ⟨D,hc,by simpa using h,fun m i j m0 m1=>by omega,fun i j hl=>(hL i j hl).2.2.2.2⟩ (fun k c' k0 k1 ⟨D',g1,g2,g3,g4⟩=>by
  have hp:(2:Int) ^ k.toNat≤2 ^ 10:=by
   have:(2:Nat) ^ k.toNat≤2 ^ 10:=Nat.pow_le_pow_right (by decide) (by omega)
   exact_mod_cast this
  have hp0:(0:Int)<2 ^ k.toNat:=by
   have:0<(2:Nat) ^ k.toNat:=Nat.pow_pos (by decide)
   exact_mod_cast this
  have hp2:(2:Int) ^ (k+1).toNat=2 * 2 ^ k.toNat:=by
   rw[show(k+1).toNat=k.toNat+1 by omega,Int.pow_succ,Int.mul_comm]
  obtain⟨c2,e1,e2⟩:=tight1 g2 (by omega) (by omega) h1 hn k0 (by omega) g1
  refine .inl ⟨c2,e1,_,e2,?_,g3.rel g2 (by omega) k0 (by omega),fun i j hl=> ?_⟩
  ·rw[hp2,show(1000:Int) * (2 * 2 ^ k.toNat)=2 * (1000 * 2 ^ k.toNat) by omega]
   exact g2.rel (by omega) k0 (by omega)
  ·have:=g4 i j hl;have:=relD_le (D:=D') (k:=k) i j
   omega) with⟨c',e1,D',g1,g2,g3,g4⟩|⟨o,_,hF⟩
 ·rw[e1]
  simp only[oB]
  have hl':=g1.len
  rw[rngX_all (by omega) (fun i i0 i1=>by
   obtain⟨r,r1,r2,r3⟩:=g1.row i i0 (by omega)
   unfold Q7
   simp only[r1,oB,r3 i i0 (by omega)]
   have:=g2.diag i i0 (by omega)
   rw[if_neg (by omega)])]
  refine⟨c',D',rfl,g1,fun i i0 i1=> ?_,fun i j hl=> ?_⟩
  ·have:=g2.low i 0 i0 i1 (by omega) (by omega);have:=g2.zero i i0 i1
   omega
  ·obtain⟨i0,i1,j0,j1,_⟩:=hL i j hl
   have a1:=g4 i j hl;have a2:=g2.zero j j0 j1
   have:=g3 j i 0 j0 (by omega) j1 i0 i1 (by omega) (by omega) (by omega) (by omega)
   omega
 ·exact hF.elim
end
/-! ### The bounds that the links say -/
def lnkOk(n:Int)(l:Y9):Prop:=0≤l.fFrom∧l.fFrom<l.to∧l.to<n∧l.low=1∧l.high=1000
def b0D(a b:Int):Int:=if b=0∨b=a then 0 else 1000000000
theorem bounds1{nv:A4}{n:Int}(he:nv.events=n)(h1:1≤n)(hn:n≤10){c:LL}(hc:(c.length:Int)=n):∃c',forR 0 (c.length:Int) (I2 nv) c=some c'∧Mt n c' b0D:=by
 obtain⟨c',r1,r2,r3⟩:=C4 (body:=I2 nv) (n:=(c.length:Int)) (s:=c) (fun t c'=>(c'.length:Int)=n∧∀i,0≤i→i<t→∃r,ix c' i=some r∧(r.length:Int)=n∧∀j,0≤j→j<n→ix r j=some (b0D i j)) (by omega) ⟨hc,fun i i0 i1=>by omega⟩ (fun t c' t0 t1 ⟨p1,p2⟩=>by
  have hr:B7 [1000000000] nv.events=some (List.replicate n.toNat 1000000000):=by
   have:=tc_repeat 1000000000 (n:=n.toNat) (by omega) (by omega)
   rw[he,← show(n.toNat:Int)=n by omega]
   exact this
  have tl:t<(c'.length:Int):=by omega
  obtain⟨x,hx,_⟩:=m8 (l:=c') t0 tl
  have l0:((List.replicate n.toNat (1000000000:Int)).length:Int)=n:=by simp;omega
  obtain⟨y,hy,_⟩:=m8 (l:=List.replicate n.toNat (1000000000:Int)) (i:=0) (by omega) (by omega)
  have l1:(((List.replicate n.toNat (1000000000:Int)).set (0:Int).toNat 0).length:Int)=n:=by rw[lS];exact l0
  obtain⟨z,hz,_⟩:=m8 (l:=(List.replicate n.toNat (1000000000:Int)).set (0:Int).toNat 0) (i:=t) t0 (by omega)
  unfold I2
  simp only[hr,hx,oB]
  rw[J7 t0 tl t0,if_pos rfl]
  simp only[oB,hy]
  rw[J7 t0 (by rw[lS];exact tl) t0,if_pos rfl]
  simp only[oB,hz]
  refine⟨_,rfl,by simp only[lS];exact p1,fun i i0 i1=> ?_⟩
  rw[J7 t0 (by simp only[lS];exact tl) i0]
  by_cases e:i=t
  ·subst e
   rw[if_pos rfl]
   refine⟨_,rfl,by simp only[lS];exact l0,fun j j0 j1=> ?_⟩
   rw[J7 i0 (by rw[lS];omega) j0,J7 (by omega) (by omega) j0]
   unfold b0D
   by_cases e1:j=i
   ·rw[if_pos e1,if_pos (.inr e1)]
   ·rw[if_neg e1]
    by_cases e2:j=0
    ·rw[if_pos e2,if_pos (.inl e2)]
    ·rw[if_neg e2,if_neg (fun h=>h.elim e2 e1)]
     obtain⟨q,hq,_⟩:=m8 (l:=List.replicate n.toNat (1000000000:Int)) (i:=j) j0 (by omega)
     rw[hq,List.eq_of_mem_replicate (v8 hq)]
  ·rw[if_neg e,J7 t0 (by rw[lS];exact tl) i0,if_neg e,J7 t0 tl i0,if_neg e]
   exact p2 i i0 (by omega))
 exact⟨c',r1,r2,fun i i0 i1=>r3 i i0 (by omega)⟩
theorem b0_ent{n:Int}(hn:n≤10):Ent0 n b0D 1000:=by
 refine⟨fun i j i0 i1 j0 j1=> ?_,fun i i0 i1=> ?_,fun i i0 i1=> ?_,fun i j i0 i1 j0 j1=> ?_⟩<;>unfold b0D
 ·split<;>omega
 ·rw[if_pos (.inl rfl)];omega
 ·rw[if_pos (.inr rfl)]
 ·split
  ·right;omega
  ·left;rfl
theorem Ent0.put{n:Int}{D:Int→Int→Int}(h:Ent0 n D 1000){i j v:Int}(hv:j - i≤v)(h2:v≤1000)(h3:v≤D i j)(hij:i ≠ j):Ent0 n (updD D i j v) 1000:=by
 refine⟨fun a b a0 a1 b0 b1=> ?_,fun a a0 a1=> ?_,fun a a0 a1=> ?_,fun a b a0 a1 b0 b1=> ?_⟩<;>unfold updD
 ·split
  ·omega
  ·exact h.low a b a0 a1 b0 b1
 ·have:=h.zero a a0 a1
  split
  ·rename_i e;obtain⟨rfl,rfl⟩:=e;omega
  ·exact this
 ·rw[if_neg (by omega)];exact h.diag a a0 a1
 ·split
  ·right;exact h2
  ·exact h.up a b a0 a1 b0 b1
theorem bounds_all{nv:A4}{n:Int}(he:nv.events=n)(h1:1≤n)(hn:n≤10)(hl:nv.links.length≤30)(hk:∀l ∈ nv.links,lnkOk n l):∃c D,O9 nv=some c∧Mt n c D∧Ent0 n D 1000∧∀l ∈ nv.links,D l.to l.fFrom≤ -1:=by
 unfold O9
 rw[show mkL 24 nv.events ([]:Li)=some (List.replicate n.toNat []) by rw[he,mkL,if_pos (by omega)]]
 simp only[oB]
 obtain⟨c,r1,r2⟩:=bounds1 he h1 hn (c:=List.replicate n.toNat []) (by simp;omega)
 rw[r1]
 simp only[oB]
 obtain⟨c',q1,D,q2,q3,q4⟩:=C4 (body:=P2 nv) (n:=(nv.links.length:Int)) (s:=c) (fun t c'=>∃D,Mt n c' D∧Ent0 n D 1000∧∀i l,i<t→ix nv.links i=some l→D l.to l.fFrom≤ -1) (by omega) ⟨b0D,r2,b0_ent hn,fun i l i1 hi=>by have:=(w8 hi).1;omega⟩ (fun t c' t0 t1 ⟨D,p1,p2,p3⟩=>by
  obtain⟨l,hl,_⟩:=m8 (l:=nv.links) t0 t1
  obtain⟨k1,k2,k3,k4,k5⟩:=hk l (v8 hl)
  obtain⟨rf,a1,a2,a3⟩:=p1.row l.fFrom k1 (by omega)
  have a4:=a3 l.to (by omega) k3
  have m1:=p1.put (v:=min (D l.fFrom l.to) l.high) k1 (by omega) (show 0≤l.to by omega) k3 a1
  obtain⟨rt,b1,b2,b3⟩:=m1.row l.to (by omega) k3
  have b4:=b3 l.fFrom k1 (by omega)
  have m2:=m1.put (v:=min (updD D l.fFrom l.to (min (D l.fFrom l.to) l.high) l.to l.fFrom) (w64 (0 - l.low))) (show 0≤l.to by omega) k3 k1 (by omega) b1
  have lo1:=p2.low l.fFrom l.to k1 (by omega) (by omega) k3
  have e1:Ent0 n (updD D l.fFrom l.to (min (D l.fFrom l.to) l.high)) 1000:=p2.put (by omega) (by omega) (by omega) (by omega)
  have lo2:=e1.low l.to l.fFrom (by omega) k3 k1 (by omega)
  have hw:w64 (0 - l.low)= -1:=by rw[k4];rfl
  rw[hw] at m2
  have e2:=e1.put (i:=l.to) (j:=l.fFrom) (v:=min (updD D l.fFrom l.to (min (D l.fFrom l.to) l.high) l.to l.fFrom) (-1)) (by omega) (by omega) (by omega) (by omega)
  unfold P2
  simp only[hl,a1,a4,oB,b1,b4,hw]
  refine⟨_,rfl,_,m2,e2,fun i l' i1 hi=> ?_⟩
  have old:i<t→D l'.to l'.fFrom≤ -1:=fun h=>p3 i l' h hi
  by_cases e:l'.to=l.to∧l'.fFrom=l.fFrom
  ·rw[updD,if_pos e];omega
  ·rw[updD,if_neg e,updD]
   have hne:i ≠ t:=fun h=>by rw[h,hl] at hi;cases hi;exact e ⟨rfl,rfl⟩
   have:=old (by omega)
   split
   ·rename_i e3
    rw[e3.1,e3.2] at this
    omega
   ·exact this)
 exact⟨c',D,by rw[q1];rfl,q2,q3,fun l hl=>by
  obtain⟨i,i0,i1,hi⟩:=C2 hl
  exact q4 i l i1 hi⟩
theorem net_valid{nv:A4}{n:Int}(he:nv.events=n)(h1:1≤n)(hn:n≤10)(hl:nv.links.length≤30)(hk:∀l ∈ nv.links,lnkOk n l):O1 nv=some ⟨0,0⟩:=by
 unfold O1
 rw[he,if_neg (by simp;omega),if_neg (by omega),rngX_all (by omega) (fun j j0 j1=>by
  obtain⟨l,hl,_⟩:=m8 (l:=nv.links) j0 j1
  obtain⟨k1,k2,k3,k4,k5⟩:=hk l (v8 hl)
  have hc:O4 l n=some 0:=by
   have w1:w64 (0 - l.low)= -1:=by rw[k4];rfl
   have w2:w64 (0 - l.high)= -1000:=by rw[k5];rfl
   unfold O4
   rw[w1,w2,k4,k5,if_neg (by simp;omega),if_neg (by decide),if_neg (by simp;omega)]
  unfold V8
  rw[hl]
  simp only[oB]
  rw[he,hc]
  rfl)]
 rfl
theorem earliest_ok{nv:A4}{n:Int}(he:nv.events=n)(h1:1≤n)(hn:n≤10)(hl:nv.links.length≤30)(hk:∀l ∈ nv.links,lnkOk n l):
  ∃out,N8 nv=some (out,true,⟨0,0⟩)∧(out.length:Int)=n∧∃T:Int→Int,(∀i,0≤i→i<n→ix out i=some (T i)∧0≤T i∧T i≤i)∧∀l ∈ nv.links,T l.fFrom+1≤T l.to:=by
 obtain⟨c,D,q1,q2,q3,q4⟩:=bounds_all he h1 hn hl hk
 obtain⟨c',D',t1,t2,t3,t4⟩:=tight_all (L:=fun i j=>∃l ∈ nv.links,i=l.to∧j=l.fFrom) q3 h1 hn q2 (fun i j ⟨l,hl,e1,e2⟩=>by
  obtain⟨k1,k2,k3,_⟩:=hk l hl
  subst e1;subst e2
  exact⟨by omega,k3,k1,by omega,q4 l hl⟩)
 have ht:R0 nv=some (c',true):=by
  unfold R0
  rw[q1]
  exact t1
 unfold N8 W3
 rw[net_valid he h1 hn hl hk]
 simp only[oB]
 rw[if_neg (by simp),ht]
 simp only[oB]
 rw[if_neg (by simp)]
 have hlen:=t2.len
 obtain⟨out,r1,r2,r3⟩:=C4 (body:=P4 (c',true,⟨0,0⟩)) (n:=(c'.length:Int)) (s:=[]) (fun j o=>(o.length:Int)=j∧∀i,0≤i→i<j→ix o i=some (-D' i 0)) (by omega) ⟨rfl,fun i i0 i1=>by omega⟩ (fun j o j0 j1 ⟨p1,p2⟩=>by
  obtain⟨r,a1,a2,a3⟩:=t2.row j j0 (by omega)
  have:=t3 j j0 (by omega)
  unfold P4
  dsimp only
  simp only[a1,oB,a3 0 (by omega) (by omega)]
  rw[w7 (by omega) (by omega),app,if_pos (by simp;omega)]
  refine⟨_,rfl,by rw[List.length_append,List.length_singleton];omega,fun i i0 i1=> ?_⟩
  by_cases e:i=j
  ·subst e
   have:i=((o.length:Nat):Int):=by omega
   rw[this,M0]
   simp
  ·have g:=p2 i i0 (by omega)
   obtain⟨_,_,g2⟩:=w8 g
   have hlt:=(w8 g).2.1
   rw[ix,if_pos i0,List.getElem?_append_left (by omega),g2])
 rw[r1]
 refine⟨out,rfl,by omega,fun i=> -D' i 0,fun i i0 i1=>⟨r3 i i0 (by omega),?_⟩,fun l hl=> ?_⟩
 ·have:=t3 i i0 i1
  dsimp only
  omega
 ·have:=t4 l.to l.fFrom ⟨l,hl,rfl,rfl⟩
  dsimp only
  omega
end Ab
end
section
namespace Ab
open Go
/-! ### States as' numbers -/
def wsN:Li→Nat
 |[]=>0
 |a::l=>2 ^ a.toNat+wsN l
theorem wsN_dvd{k:Nat}:∀{l:Li},(∀x ∈ l,k≤x.toNat)→2 ^ k ∣ wsN l
 |[],_=>⟨0,rfl⟩
 |a::l,h=>Nat.dvd_add (Nat.pow_dvd_pow 2 (h a (by simp))) (wsN_dvd fun x hx=>h x (List.mem_cons_of_mem _ hx))
theorem two_pow_no{k:Nat}(h:2 ^ (k+1) ∣ 2 ^ k):False:=by
 have h1:=Nat.le_of_dvd (Nat.two_pow_pos k) h
 have h2:=Nat.two_pow_pos k
 rw[Nat.pow_succ] at h1
 omega
theorem wsN_ne{a:Int}{l m:Li}(ha:0≤a)(hl:∀x ∈ l,a<x)(hm:∀x ∈ m,a<x):wsN (a::l) ≠ wsN m:=fun h=>by
 have d1:2 ^ (a.toNat+1) ∣ wsN l:=wsN_dvd fun x hx=>by have:=hl x hx;omega
 have d2:2 ^ (a.toNat+1) ∣ wsN m:=wsN_dvd fun x hx=>by have:=hm x hx;omega
 rw[← h,wsN] at d2
 exact two_pow_no ((Nat.dvd_add_left d1).1 d2)
theorem wsN_inj:∀{l m:Li},Inc l→Inc m→(∀x ∈ l,0≤x)→(∀x ∈ m,0≤x)→wsN l=wsN m→l=m
 |[],[],_,_,_,_,_=>rfl
 |[],b::m,_,_,_,_,h=>by
  have:=Nat.two_pow_pos b.toNat
  simp only[wsN] at h;omega
 |a::l,[],_,_,_,_,h=>by
  have:=Nat.two_pow_pos a.toNat
  simp only[wsN] at h;omega
 |a::l,b::m,h1,h2,h3,h4,h=>by
  obtain⟨l1,l2⟩:=List.pairwise_cons.1 h1
  obtain⟨m1,m2⟩:=List.pairwise_cons.1 h2
  rcases Int.lt_trichotomy a b with c|c|c
  ·exact absurd h (wsN_ne (h3 a (by simp)) l1 fun x hx=>by
    rcases List.mem_cons.1 hx with rfl|hx
    ·exact c
    ·have:=m1 x hx;omega)
  ·subst c
   simp only[wsN] at h
   rw[wsN_inj l2 m2 (fun x hx=>h3 x (List.mem_cons_of_mem _ hx)) (fun x hx=>h4 x (List.mem_cons_of_mem _ hx)) (by omega)]
  ·exact absurd h.symm (wsN_ne (h4 b (by simp)) m1 fun x hx=>by
    rcases List.mem_cons.1 hx with rfl|hx
    ·exact c
    ·have:=l1 x hx;omega)
theorem SetN.word_inj{s s':Li}{n:Int}(h:SetN s n)(h':SetN s' n)(e:wsN s=wsN s'):s=s':=
 wsN_inj h.1 h'.1 (fun x hx=>(h.2 x hx).1) (fun x hx=>(h'.2 x hx).1) e
end Ab
end
section
namespace Ab
open Go
theorem wsN_tb:∀{l:Li},Inc l→(∀x ∈ l,0≤x)→∀k:Nat,(wsN l).testBit k=dec ((k:Int) ∈ l)
 |[],_,_,k=>by simp[wsN,dec]
 |a::l,h,h0,k=>by
  have hc:=List.pairwise_cons.1 h
  obtain⟨q,hq⟩:2 ^ (a.toNat+1) ∣ wsN l:=wsN_dvd fun x hx=>by have:=hc.1 x hx;have:=h0 a (by simp);omega
  have ih:=wsN_tb hc.2 (fun x hx=>h0 x (List.mem_cons_of_mem _ hx)) k
  have e:wsN (a::l)=wsN l|||2 ^ a.toNat:=by
   rw[hq,← Nat.two_pow_add_eq_or_of_lt (Nat.pow_lt_pow_right (by omega) (by omega)) q,← hq]
   simp only[wsN];omega
  rw[e,Nat.testBit_or,ih,Nat.testBit_two_pow]
  have ha:=h0 a (by simp)
  by_cases c:(k:Int)=a
  ·have:a.toNat=k:=by omega
   simp[this,c]
  ·have:¬ a.toNat=k:=by omega
   simp[this,c]
theorem SetN.tb{s:Li}{n:Int}(h:SetN s n)(k:Nat):(wsN s).testBit k=dec ((k:Int) ∈ s):=wsN_tb h.1 (fun x hx=>(h.2 x hx).1) k
theorem SetN.w32{s:Li}{n:Int}(h:SetN s n)(hn:n≤24):wsN s<4294967296:=by
 refine Nat.lt_pow_two_of_testBit (n:=32) _ fun i hi=> ?_
 rw[h.tb,dec_false]
 intro q
 have:=(h.2 _ q).2
 omega
theorem wrap32{n:Nat}(h:n<4294967296):IntKind.wrap .u32 (n:Int)=n:=by
 simp only[IntKind.wrap,IntKind.bits,IntKind.signed,Bool.false_and,Bool.false_eq_true,if_false]
 omega
theorem bit_and{a b:Nat}(ha:a<4294967296):Go.bits .and .u32 (a:Int) (b:Int)=((a &&& b:Nat):Int):=by
 have e:(BitVec.ofNat 32 a &&& BitVec.ofNat 32 b).toNat=a &&& b:=by
  rw[BitVec.toNat_and,BitVec.toNat_ofNat,BitVec.toNat_ofNat]
  refine Nat.eq_of_testBit_eq fun i=> ?_
  simp only[Nat.testBit_and,Nat.testBit_mod_two_pow]
  by_cases c:i<32
  ·simp[c]
  ·have:a.testBit i=false:=Nat.testBit_lt_two_pow (Nat.lt_of_lt_of_le ha (Nat.pow_le_pow_right (n:=2) (by omega) (show 32≤i by omega)))
   simp[this]
 rw[← e]
 simp only[Go.bits,BitVec.ofInt_natCast,IntKind.bits]
 exact wrap32 (BitVec.ofNat 32 a &&& BitVec.ofNat 32 b).isLt
theorem bit_or{a b:Nat}(ha:a<4294967296)(hb:b<4294967296):Go.bits .or .u32 (a:Int) (b:Int)=((a|||b:Nat):Int):=by
 have e:(BitVec.ofNat 32 a|||BitVec.ofNat 32 b).toNat=a|||b:=by
  rw[BitVec.toNat_or,BitVec.toNat_ofNat,BitVec.toNat_ofNat,Nat.mod_eq_of_lt (by simpa using ha),Nat.mod_eq_of_lt (by simpa using hb)]
 rw[← e]
 simp only[Go.bits,BitVec.ofInt_natCast,IntKind.bits]
 exact wrap32 (BitVec.ofNat 32 a|||BitVec.ofNat 32 b).isLt
theorem bit_andNot{a b:Nat}(ha:a<4294967296):∃c:Nat,Go.bits .andNot .u32 (a:Int) (b:Int)=(c:Int)∧c<4294967296∧∀k,c.testBit k=(a.testBit k && !b.testBit k):=by
 refine⟨(BitVec.ofNat 32 a &&& ~~~BitVec.ofNat 32 b).toNat,?_,(BitVec.ofNat 32 a &&& ~~~BitVec.ofNat 32 b).isLt,fun k=> ?_⟩
 ·simp only[Go.bits,BitVec.ofInt_natCast,IntKind.bits]
  exact wrap32 (BitVec.ofNat 32 a &&& ~~~BitVec.ofNat 32 b).isLt
 ·rw[BitVec.testBit_toNat,BitVec.getLsbD_and,BitVec.getLsbD_not,BitVec.getLsbD_ofNat,BitVec.getLsbD_ofNat]
  by_cases c:k<32
  ·simp[c]
  ·have:a.testBit k=false:=Nat.testBit_lt_two_pow (Nat.lt_of_lt_of_le ha (Nat.pow_le_pow_right (n:=2) (by omega) (show 32≤k by omega)))
   simp[c,this]
theorem sub_word{s p:Li}{n:Int}(hs:SetN s n)(hp:SetN p n)(hn:n≤24):Go.bits .and .u32 (wsN s:Int) (wsN p:Int)=(wsN p:Int)↔∀x ∈ p,x ∈ s:=by
 rw[bit_and (hs.w32 hn)]
 constructor
 ·intro h x hx
  have h0:=(hp.2 x hx).1
  have e:(wsN s &&& wsN p)=wsN p:=by omega
  have:=congrArg (fun n=>Nat.testBit n x.toNat) e
  simp only[Nat.testBit_and,hs.tb,hp.tb,show((x.toNat:Nat):Int)=x by omega,o7 hx,Bool.and_true,m6] at this
  exact this
 ·intro h
  have e:(wsN s &&& wsN p)=wsN p:=by
   refine Nat.eq_of_testBit_eq fun i=> ?_
   rw[Nat.testBit_and,hs.tb,hp.tb,dec_and]
   exact I9 ⟨fun q=>q.2,fun q=>⟨h _ q,q⟩⟩
  rw[e]
theorem next_word{s d a:Li}{n:Int}(hs:SetN s n)(hd:SetN d n)(ha:SetN a n)(hn:n≤24):
  Go.bits .or .u32 (Go.bits .andNot .u32 (wsN s:Int) (wsN d:Int)) (wsN a:Int)=(wsN (W1 (fun x=>x ∈ a∨x ∈ s∧x ∉ d) n):Int):=by
 obtain⟨c,c1,c2,c3⟩:=bit_andNot (b:=wsN d) (hs.w32 hn)
 have hr:SetN (W1 (fun x=>x ∈ a∨x ∈ s∧x ∉ d) n) n:=setN_setOf _ _
 rw[c1,bit_or c2 (ha.w32 hn)]
 have e:c|||wsN a=wsN (W1 (fun x=>x ∈ a∨x ∈ s∧x ∉ d) n):=by
  refine Nat.eq_of_testBit_eq fun i=> ?_
  rw[Nat.testBit_or,c3,hs.tb,hd.tb,ha.tb,hr.tb,K8,dec_and,dec_or]
  refine I9 ?_
  rw[ae9]
  constructor
  ·rintro (⟨q1,q2⟩|q)
   ·exact⟨(hs.2 _ q1).1,(hs.2 _ q1).2,.inr ⟨q1,q2⟩⟩
   ·exact⟨(ha.2 _ q).1,(ha.2 _ q).2,.inl q⟩
  ·rintro ⟨_,_,q|q⟩
   ·exact .inr q
   ·exact .inl q
 rw[e]
theorem an0{s:Li}{n:Int}(hs:SetN s n)(hn:n≤24):N1 s=some (wsN s:Int):=by
 unfold N1
 obtain⟨w,h1,h2⟩:=C4 (body:=ac2 s) (n:=(s.length:Int)) (s:=0) (fun j w=>w=(wsN (s.take j.toNat):Int)) (by omega) (by simp[wsN]) (fun j w j0 j1 hP=>by
  obtain⟨a,ha,ga⟩:=m8 (l:=s) j0 j1
  have hb:=hs.2 a (v8 ha)
  have ht:s.take (j+1).toNat=s.take j.toNat++[a]:=by rw[show(j+1).toNat=j.toNat+1 by omega,List.take_add_one,ga];rfl
  have h1:SetN (s.take j.toNat) n:=⟨List.Pairwise.sublist (List.take_sublist _ _) hs.1,fun x hx=>hs.2 x (List.mem_of_mem_take hx)⟩
  have h2:SetN (s.take j.toNat++[a]) n:=by rw[← ht];exact⟨List.Pairwise.sublist (List.take_sublist _ _) hs.1,fun x hx=>hs.2 x (List.mem_of_mem_take hx)⟩
  have h3:SetN [a] n:=⟨List.pairwise_singleton _ _,fun x hx=>by simp at hx;subst hx;exact hb⟩
  have e1:shlW .u32 1 a=(wsN [a]:Int):=by
   have:=h3.w32 hn
   unfold shlW
   simp only[wsN,Nat.add_zero] at this ⊢
   rw[show min a.toNat (IntKind.u32).bits=a.toNat by simp only[IntKind.bits];omega,Int.one_mul]
   have ep:(2:Int) ^ a.toNat=((2 ^ a.toNat:Nat):Int):=by push_cast;rfl
   rw[ep];exact wrap32 this
  refine⟨Go.bits .or .u32 w (shlW .u32 1 a),by simp only[ac2,ha,oB,chk0,if_neg (show ¬ a<0 by omega)],?_⟩
  rw[e1,hP,bit_or (h1.w32 hn) (h3.w32 hn),ht]
  have e:wsN (s.take j.toNat)|||wsN [a]=wsN (s.take j.toNat++[a]):=by
   refine Nat.eq_of_testBit_eq fun i=> ?_
   rw[Nat.testBit_or,h1.tb,h2.tb,h3.tb,dec_or]
   exact I9 (by simp)
  rw[e])
 rw[h1,h2,Int.toNat_natCast,List.take_length]
 rfl
noncomputable def M6(w:Nat)(n:Nat):Li:=(nums 0 n).filter fun x=>w.testBit x.toNat
theorem facts_eq{w:Nat}(hw:w<4294967296):V1 (w:Int)=some (M6 w 32):=by
 unfold V1
 obtain⟨r,h1,h2⟩:=C4 (body:=aa0 (w:Int)) (n:=32) (s:=[]) (fun j c=>c=M6 w j.toNat) (by omega) (by simp[M6,nums]) (fun j c j0 j1 hP=>by
  subst hP
  have hlen:(M6 w j.toNat).length≤32:=by
   refine Nat.le_trans (List.length_filter_le _ _) ?_
   rw[len_nums];omega
  have hn:nums 0 (j+1).toNat=nums 0 j.toNat++[j]:=by
   refine Inc.ext (at5 _ _) (List.pairwise_append.2 ⟨at5 _ _,List.pairwise_singleton _ _,fun x hx y hy=> ?_⟩) fun x=> ?_
   ·simp at hy;subst hy;have:=Y0.1 hx;omega
   ·rw[List.mem_append,Y0,Y0,List.mem_singleton];omega
  have e1:shrW .u32 (w:Int) j=((w>>>j.toNat:Nat):Int):=by
   unfold shrW
   rw[show min j.toNat (IntKind.u32).bits=j.toNat by simp only[IntKind.bits];omega]
   have ep:(2:Int) ^ j.toNat=((2 ^ j.toNat:Nat):Int):=by push_cast;rfl
   rw[ep,Nat.shiftRight_eq_div_pow,Int.fdiv_eq_ediv_of_nonneg _ (Int.natCast_nonneg _)]
   rfl
  have h2:w>>>j.toNat<4294967296:=Nat.lt_of_le_of_lt (Nat.shiftRight_le _ _) hw
  have e2:Go.bits .and .u32 ((w>>>j.toNat:Nat):Int) 1=((w>>>j.toNat &&& 1:Nat):Int):=bit_and (b:=1) h2
  have e3:(w>>>j.toNat &&& 1=1)↔w.testBit j.toNat=true:=by
   rw[Nat.testBit];simp[Nat.and_comm]
  unfold aa0
  rw[e1,e2]
  by_cases c:w.testBit j.toNat=true
  ·rw[if_pos (by have:=e3.2 c;omega),app,if_pos (by simp;omega)]
   exact⟨_,rfl,by simp[M6,hn,List.filter_append,c]⟩
  ·rw[if_neg (fun q=>c (e3.1 (by omega)))]
   exact⟨_,rfl,by simp[M6,hn,List.filter_append,c]⟩)
 rw[h1,h2];rfl
theorem bitsOf_inj{a b:Nat}(ha:a<4294967296)(hb:b<4294967296)(h:M6 a 32=M6 b 32):a=b:=by
 refine Nat.eq_of_testBit_eq fun i=> ?_
 by_cases c:i<32
 ·have key:∀w:Nat,(i:Int) ∈ M6 w 32↔w.testBit i=true:=fun w=>by
   simp only[M6,List.mem_filter,Y0,Int.toNat_natCast]
   exact⟨fun q=>q.2,fun q=>⟨by omega,q⟩⟩
  have:=(key a).symm.trans ((by rw[h]):((i:Int) ∈ M6 a 32↔(i:Int) ∈ M6 b 32))|>.trans (key b)
  cases h1:a.testBit i<;>cases h2:b.testBit i<;>simp[h1,h2] at this ⊢
 ·have low:∀w:Nat,w<4294967296→w.testBit i=false:=fun w hw=>Nat.testBit_lt_two_pow (Nat.lt_of_lt_of_le hw (Nat.pow_le_pow_right (n:=2) (by omega) (show 32≤i by omega)))
  rw[low a ha,low b hb]
theorem words_cmp:CmpOk (fun a b:U32=>K9 a.1 b.1) (fun a b=>cmpL (M6 a.1.toNat 32) (M6 b.1.toNat 32)):=by
 obtain⟨h1,h2,h3⟩:=cmp_ok
 refine⟨fun a b=> ?_,⟨fun x=>h2.irrefl _,fun x y z=>h2.trans _ _ _,fun x y z=>h2.ntrans _ _ _⟩,fun a b q1 q2=> ?_⟩
 ·have ea:=facts_eq (w:=a.1.toNat) (by have:=a.2;omega)
  have eb:=facts_eq (w:=b.1.toNat) (by have:=b.2;omega)
  rw[show((a.1.toNat:Nat):Int)=a.1 by have:=a.2;omega] at ea
  rw[show((b.1.toNat:Nat):Int)=b.1 by have:=b.2;omega] at eb
  simp only[K9,ea,eb,oB,h1]
 ·have:=bitsOf_inj (a:=a.1.toNat) (b:=b.1.toNat) (by have:=a.2;omega) (by have:=b.2;omega) (h3 _ _ q1 q2)
  have ha:=a.2;have hb:=b.2
  exact Subtype.ext (by omega)
theorem sortW{l:Li}(hl:l.length≤1000000)(hw:∀x ∈ l,0≤x∧x<4294967296):∃l',sortFU K9 l=some l'∧l'.Perm l:=by
 unfold sortFU
 rw[dif_pos hw,sortFL_eq (by simp;omega) words_cmp]
 refine⟨_,rfl,?_⟩
 have:=(List.mergeSort_perm (l.attach.map fun x=>(⟨x.1,hw x.1 x.2⟩:U32)) (fun x y=>decide (¬ cmpL (M6 y.1.toNat 32) (M6 x.1.toNat 32)<0))).map (fun z:U32=>z.1)
 simpa using this
end Ab
end
section
namespace Ab
open Go
abbrev Mk:=i8
def wd(s:Li):Int:=(wsN s:Int)
def mkOf(o:f9):Mk:=⟨wd o.pre,wd o.add,wd o.del,o.cost⟩
def mks(t:e7):List Mk:=t.operators.map mkOf
def canW(m:Mk)(x:Int):Prop:=Go.bits .and .u32 x m.pre=m.pre
def tgtW(m:Mk)(x:Int):Int:=Go.bits .or .u32 (Go.bits .andNot .u32 x m.del) m.add
theorem wd_inj{t:e7}(ht:j8 t){s s':Li}(h:SetN s t.facts)(h':SetN s' t.facts)(e:wd s=wd s'):s=s':=
 h.word_inj h' (by unfold wd at e;omega)
theorem wd_u32{t:e7}(ht:j8 t){s:Li}(h:SetN s t.facts):0≤wd s∧wd s<4294967296:=by
 have:=h.w32 ht.n1;unfold wd;omega
theorem op_ok{t:e7}(ht:j8 t){op:Int}(h0:0≤op)(h1:op<t.operators.length):U8 (opAt t op) t.facts∧ab5 (opAt t op):=ht.op _ (v8 (Y8 h0 h1))
theorem as7{t:e7}(ht:j8 t){s:Li}(h:SetN s t.facts){op:Int}(h0:0≤op)(h1:op<t.operators.length):canW (mkOf (opAt t op)) (wd s)↔can t s op:=
 sub_word h (op_ok ht h0 h1).1.1 ht.n1
theorem tgtW_eq{t:e7}(ht:j8 t){s:Li}(h:SetN s t.facts){op:Int}(h0:0≤op)(h1:op<t.operators.length):tgtW (mkOf (opAt t op)) (wd s)=wd (aft t s op):=
 next_word h (op_ok ht h0 h1).1.2.2.1 (op_ok ht h0 h1).1.2.1 ht.n1
theorem mks_mem{t:e7}{m:Mk}(h:m ∈ mks t):∃op:Int,0≤op∧op<t.operators.length∧m=mkOf (opAt t op):=by
 obtain⟨o,ho,rfl⟩:=List.mem_map.1 h
 obtain⟨i,h0,h1,h2⟩:=C2 ho
 rw[Y8 h0 h1] at h2;cases h2
 exact⟨i,h0,h1,rfl⟩
theorem mks_of{t:e7}{op:Int}(h0:0≤op)(h1:op<t.operators.length):mkOf (opAt t op) ∈ mks t:=List.mem_map.2 ⟨_,v8 (Y8 h0 h1),rfl⟩
theorem of_eq{t:e7}(ht:j8 t):ah0 t=some (wd t.init,wd t.goal,mks t):=by
 unfold ah0
 rw[an0 ht.init ht.n1,an0 ht.goal ht.n1]
 simp only[oB]
 obtain⟨r,h1,h2⟩:=C4 (body:=ac1 t) (n:=(t.operators.length:Int)) (s:=[]) (fun j c=>c=(t.operators.take j.toNat).map mkOf) (by omega) (by simp) (fun j c j0 j1 hP=>by
  have ho:=op_ok ht j0 j1
  have hx:=Y8 j0 j1
  have ga:=(w8 hx).2.2
  have hl:=ht.ops
  have htk:t.operators.take (j+1).toNat=t.operators.take j.toNat++[opAt t j]:=by rw[show(j+1).toNat=j.toNat+1 by omega,List.take_add_one,ga];rfl
  unfold ac1
  rw[hx]
  simp only[oB,an0 ho.1.1 ht.n1,an0 ho.1.2.1 ht.n1,an0 ho.1.2.2.1 ht.n1]
  refine⟨c++[mkOf (opAt t j)],?_,?_⟩
  ·unfold app
   rw[if_pos (by rw[hP];simp;omega)];rfl
  ·rw[hP,htk];simp)
 rw[h1,h2,Int.toNat_natCast,List.take_length]
 rfl
def Rwd(t:e7)(x:Int):Prop:=∃s,Rt t s∧x=wd s
theorem states_of{t:e7}:∀{l:Li},(∀x ∈ l,Rwd t x)→∃ss:LL,ss.map wd=l∧∀s ∈ ss,Rt t s
 |[],_=>⟨[],rfl,by simp⟩
 |x::l,h=>by
  obtain⟨s,s1,s2⟩:=h x (by simp)
  obtain⟨ss,h1,h2⟩:=states_of (l:=l) fun y hy=>h y (List.mem_cons_of_mem _ hy)
  exact⟨s::ss,by simp[h1,s2],by simp[s1];exact h2⟩
theorem am8{α β:Type}{f:α→β}:∀{l:List α},(l.map f).Nodup→l.Nodup
 |[],_=>List.nodup_nil
 |x::l,h=>by
  simp only[List.map_cons,List.nodup_cons] at h
  exact List.nodup_cons.2 ⟨fun hx=>h.1 (List.mem_map.2 ⟨x,hx,rfl⟩),am8 h.2⟩
theorem many_of{t:e7}{l:Li}(hn:l.Nodup)(hl:2000<l.length)(h:∀x ∈ l,Rwd t x):Many t:=by
 obtain⟨ss,h1,h2⟩:=states_of (l:=l.take 2001) fun x hx=>h x (List.mem_of_mem_take hx)
 refine⟨ss,am8 (f:=wd) (by rw[h1];exact hn.sublist (List.take_sublist _ _)),?_,h2⟩
 have:=congrArg List.length h1
 simp only[List.length_map,List.length_take] at this
 omega
theorem Rwd.next{t:e7}(ht:j8 t){x:Int}(h:Rwd t x){m:Mk}(hm:m ∈ mks t)(hc:canW m x):Rwd t (tgtW m x):=by
 obtain⟨s,s1,rfl⟩:=h
 obtain⟨op,h0,h1,rfl⟩:=mks_mem hm
 have hs:=s1.setN ht
 exact⟨_,.step s1 h0 h1 ((as7 ht hs h0 h1).1 hc),tgtW_eq ht hs h0 h1⟩
theorem Rwd.all{t:e7}(ht:j8 t){l:Li}(hi:wd t.init ∈ l)(hc:∀x ∈ l,∀m ∈ mks t,canW m x→tgtW m x ∈ l){x:Int}(h:Rwd t x):x ∈ l:=by
 obtain⟨s,h,rfl⟩:=h
 induction h with
 |init=>exact hi
 |step h h0 h1 hcan ih=>
  have hs:=h.setN ht
  have:=hc _ ih _ (mks_of h0 h1) ((as7 ht hs h0 h1).2 hcan)
  rwa [tgtW_eq ht hs h0 h1] at this
abbrev MpU:=List (Int×Unit)
theorem mgetU{m:MpU}{x:Int}:mget m x=none↔x ∉ m.map (·.1):=by
 constructor
 ·exact mget_none
 ·intro h
  cases e:mget m x with
  |none=>rfl
  |some u=>exact absurd (List.mem_map.2 ⟨_,mget_mem e,rfl⟩) h
structure AlW(t:e7)(q:Li)(f:MpU)(a:Li):Prop where
 nd:(f.map (·.1)).Nodup
 pm:(f.map (·.1)).Perm (q++a)
 rw:∀x ∈ f.map (·.1),Rwd t x
theorem all_in{t:e7}(ht:j8 t){q a:Li}{f:MpU}{x:Int}(hx:Rwd t x)(h:AlW t q f a)(hf:f.length≤2000)(u:Unit){c:Li}(hc:r8 c 0 ((c.length:Int) - 1)=q):
  ∃f' q',L6 (mks t) c f x u=some (f',q')∧AlW t q' f' a∧(∀y ∈ f.map (·.1),y ∈ f'.map (·.1))∧∀m ∈ mks t,canW m x→tgtW m x ∈ f'.map (·.1):=by
 unfold L6
 have hml:(mks t).length≤40:=by simp[mks];exact ht.ops
 obtain⟨r,h1,h2,h3,h4,h5⟩:=C4 (body:=K1 (mks t) x u) (n:=((mks t).length:Int)) (s:=(f,r8 c 0 ((c.length:Int) - 1)))
  (fun j s=>AlW t s.2 s.1 a∧(∀y ∈ f.map (·.1),y ∈ s.1.map (·.1))∧s.1.length≤2000+j∧∀i m,i<j→ix (mks t) i=some m→canW m x→tgtW m x ∈ s.1.map (·.1)) (by omega)
  ⟨by rw[hc];exact h,fun _ h=>h,by simp only;omega,fun i m hi hm=>by have:=(w8 hm).1;omega⟩ (fun j s j0 j1 hP=>by
   obtain⟨f',q'⟩:=s
   obtain⟨p1,p2,p3,p4⟩:=hP
   simp only at p1 p2 p3 p4
   obtain⟨m,hm,_⟩:=m8 j0 j1
   have hmm:=v8 hm
   unfold K1
   simp only[hm,oB]
   by_cases c1:Go.bits .and .u32 x m.pre=m.pre
   ·rw[if_pos c1]
    have c1':canW m x:=c1
    have ee:Go.bits .or .u32 (Go.bits .andNot .u32 x m.del) m.add=tgtW m x:=rfl
    rw[ee]
    by_cases c2:mget f' (tgtW m x)=none
    ·rw[if_pos (by simp[c2])]
     have hq:q'.length≤f'.length:=by have:=p1.pm.length_eq;simp at this;omega
     have ha:app 4 q' [tgtW m x]=some (q'++[tgtW m x]):=by unfold app;rw[if_pos (by simp;omega)]
     simp only[ha,oB]
     have hmem:=mgetU.1 c2
     refine⟨_,rfl,⟨?_,?_,?_⟩,?_,?_,?_⟩
     ·simp only[X7 c2,List.map_append]
      refine List.nodup_append.2 ⟨p1.nd,by simp,fun y hy z hz e=> ?_⟩
      simp at hz;subst hz;subst e;exact hmem hy
     ·simp only[X7 c2,List.map_append,List.map_cons,List.map_nil]
      refine(p1.pm.append_right _).trans ?_
      rw[List.append_assoc,List.append_assoc]
      exact List.Perm.append_left _ List.perm_append_comm
     ·intro y hy
      simp only[X7 c2,List.map_append,List.mem_append,List.map_cons,List.map_nil,List.mem_singleton] at hy
      rcases hy with hy|rfl
      ·exact p1.rw y hy
      ·exact hx.next ht hmm c1'
     ·intro y hy
      simp only[X7 c2,List.map_append,List.mem_append]
      exact .inl (p2 y hy)
     ·simp only[X7 c2,List.length_append,List.length_singleton];omega
     ·intro i m' hi hm' hc'
      simp only[X7 c2,List.map_append,List.mem_append]
      by_cases e:i=j
      ·subst e;rw[hm] at hm';cases hm';exact .inr (by simp)
      ·exact .inl (p4 i m' (by omega) hm' hc')
    ·rw[if_neg (by simp;cases e:mget f' (tgtW m x) with|none=>exact absurd e c2|some _=>simp)]
     refine⟨_,rfl,p1,p2,by simp only;omega,fun i m' hi hm' hc'=> ?_⟩
     by_cases e:i=j
     ·subst e;rw[hm] at hm';cases hm'
      exact Classical.byContradiction fun q=>c2 (mgetU.2 q)
     ·exact p4 i m' (by omega) hm' hc'
   ·rw[if_neg c1]
    refine⟨_,rfl,p1,p2,by simp only;omega,fun i m' hi hm' hc'=> ?_⟩
    by_cases e:i=j
    ·subst e;rw[hm] at hm';cases hm';exact absurd hc' c1
    ·exact p4 i m' (by omega) hm' hc')
 refine⟨r.1,r.2,by rw[h1];rfl,h2,h3,fun m hm hcan=> ?_⟩
 obtain⟨i,i0,i1,hi⟩:=C2 hm
 exact h5 i m i1 hi hcan
theorem all_spec{t:e7}(ht:j8 t)(goal:Int):∃l b,J2 (wd t.init) goal (mks t)=some (l,b)∧(b=false→Many t)∧(b=true→l.Nodup∧l.length≤2000∧∀x,x ∈ l↔Rwd t x):=by
 unfold J2
 simp only[A8,oB]
 have hi0:Rwd t (wd t.init):=⟨_,.init,rfl⟩
 obtain⟨o,h1,h2⟩:=S4 (body:=K4 (wd t.init) goal (mks t)) (s:=([wd t.init],mset ([]:MpU) (wd t.init) (),[]))
  (fun s=>AlW t s.1 s.2.1 s.2.2∧wd t.init ∈ s.2.1.map (·.1)∧s.2.1.length≤2000∧∀x ∈ s.2.2,∀m ∈ mks t,canW m x→tgtW m x ∈ s.2.1.map (·.1))
  (fun o=>match o with| .inl l=>l.Nodup∧l.length≤2000∧∀x,x ∈ l↔Rwd t x| .inr x=>x=([],false)∧Many t)
  (fun s=>2000 - s.2.2.length) ⟨⟨by simp[mset],by simp[mset],by simp[mset];exact hi0⟩,by simp[mset],by simp[mset],by simp⟩ (by
   rintro ⟨q,f,a⟩ ⟨p1,p2,p3,p4⟩
   simp only at p1 p2 p3 p4
   have hlen:f.length=q.length+a.length:=by have:=p1.pm.length_eq;simpa using this
   unfold K4
   by_cases c:0<q.length
   ·simp only[show(0:Int)<(q.length:Int) by omega,if_true]
    obtain⟨x,hx,gx⟩:=m8 (l:=q) (i:=(q.length:Int) - 1) (by omega) (by omega)
    have hq:r8 q 0 ((q.length:Int) - 1)++[x]=q:=by
     have:r8 q 0 ((q.length:Int) - 1)=q.take (q.length - 1):=by
      simp only[r8,Int.toNat_zero,List.drop_zero]
      rw[show((q.length:Int) - 1).toNat=q.length - 1 by omega]
     rw[this]
     have e:q.take (q.length - 1+1)=q.take (q.length - 1)++[x]:=by
      rw[List.take_add_one]
      rw[show((q.length:Int) - 1).toNat=q.length - 1 by omega] at gx
      rw[gx];rfl
     rw[← e,show q.length - 1+1=q.length by omega,List.take_length]
    have hxm:x ∈ f.map (·.1):=p1.pm.mem_iff.2 (List.mem_append_left _ (v8 hx))
    have hxr:=p1.rw x hxm
    have ha:app 4 a [x]=some (a++[x]):=by unfold app;rw[if_pos (by simp;omega)]
    have p1':AlW t (r8 q 0 ((q.length:Int) - 1)) f (a++[x]):=⟨p1.nd,p1.pm.trans (by
     rw (occs:=.pos [1]) [← hq]
     rw[List.append_assoc]
     exact List.Perm.append_left _ List.perm_append_comm),p1.rw⟩
    obtain⟨f',q',k1,k2,k3,k4⟩:=all_in ht hxr p1' p3 () rfl
    simp only[hx,ha,cutV,oB,E3]
    rw[if_pos (by omega)]
    simp only[oB,k1]
    by_cases big:2000<f'.length
    ·rw[if_pos (by omega)]
     exact .inr ⟨_,rfl,rfl,many_of k2.nd (by simpa using big) k2.rw⟩
    ·rw[if_neg (by omega)]
     have hlen':f'.length=q'.length+(a++[x]).length:=by have:=k2.pm.length_eq;simpa using this
     refine .inl ⟨_,rfl,⟨k2,k3 _ p2,by simp only;omega,fun y hy m hm hc=> ?_⟩,by simp only[List.length_append,List.length_singleton] at hlen' ⊢;omega⟩
     simp only[List.mem_append,List.mem_singleton] at hy
     rcases hy with hy|rfl
     ·exact k3 _ (p4 y hy m hm hc)
     ·exact k4 m hm hc
   ·have:q=[]:=List.eq_nil_of_length_eq_zero (by omega)
    subst this
    refine .inr ⟨.inl a,by simp,?_⟩
    have hp:(f.map (·.1)).Perm a:=by simpa using p1.pm
    refine⟨hp.nodup_iff.1 p1.nd,by simp at hlen;omega,fun x=>⟨fun hx=>p1.rw x (hp.mem_iff.2 hx),fun hx=> ?_⟩⟩
    exact Rwd.all ht (hp.mem_iff.1 p2) (fun y hy m hm hc=>hp.mem_iff.1 (p4 y hy m hm hc)) hx)
 rw[h1]
 rcases o with l|o
 ·exact⟨l,true,rfl,by simp,fun _=>h2⟩
 ·obtain⟨rfl,h3⟩:=h2
  exact⟨[],false,rfl,fun _=>h3,by simp⟩
end Ab
end
