/-
  Texts that the proof stands on.
-/
import Derived.Test.YtnkccobmgoikcaaGreatDoorKRwTopRepair4
set_option linter.all false
section
namespace Ab
open Go Go.Proofs
open Tryz
set_option maxHeartbeats 4000000
set_option linter.all false
attribute [local irreducible] AWP AOps thn inB Done g9 n8 Sub
theorem repair_Plan_ok{t:d6}{plan:Li}{r:Li×Int×Bool×i9}(h:V3 t plan=some r):g9 prog 4 [.agg (tT t),(cR plan)] (.tup [(cR r.1),(cI r.2.1),(cB r.2.2.1),.agg [int r.2.2.2.code,int r.2.2.2.index]]):=by
 unfold g9
 refine FnOk.enter (rs:=[.t 4,.t 5,.t 6,.cell 7 27 2]) func4 Z ntmps4 results4 Z ⟨Y,Y,Y,rv _ Z,Y⟩ (by kernel_rfl) Z ?_
 unfold V3 at h
 refine AWP.q (.u (W.box Z Z Z Z Z Z (.v Z Z (.v Z Z (.v Z Z (W.alloc Z Z Z Z (.nil (b6 (.q (.q ?_))))))))))
 obtain⟨a16,ha16,h⟩:=b9 h
 refine AWP.u (W.loadAgg Z Z Z Z Z Z Z (.j Z Z (.O Z Z Z Z (ap6 ha16) Z (W.alloc Z Z Z Z (W.storeAgg Z Z Z Z Z Z Z (.nil (b6 (.q (.u (W.loadAgg Z Z Z Z Z Z Z (W.build Z Z Z Z (.neqP Z Z Z Z Z Z Z (.nil (b6 (.ad Z h (fun hc3 h=> ?_) (fun hc3 h=> ?_))))))))))))))))
 ·refine AWP.q (.drawEI [4] mixed Z Z Z ?_)
  refine d3.consN Z Z (fun E=>W.loadAgg Z Z Z Z Z Z Z .N) Z (.consN Z Z (fun E=>.v Z Z .N) Z (.consN Z Z (fun E=>.v Z Z .N) Z (.consN Z Z (fun E=>.v Z Z .N) Z ?_)))
  apply d3.consE (v:=.undef);exact Z;exact Z;intro E
  refine W.storeAgg Z Z Z Z Z Z Z .N
  exact Z
  exact Z
  refine d3.done Z ?_ ?_
  ·refine f7.cons Z Z (.go Z Z (fun E=>W.loadAgg Z Z Z Z Z Z Z .N) (.skip Z .nil)) (.cons Z Z (.go Z Z (fun E=>.v Z Z .N) (.skip Z .nil)) (.cons Z Z (.go Z Z (fun E=>.v Z Z .N) (.skip Z .nil)) (.cons Z Z (.go Z Z (fun E=>.v Z Z .N) (.skip Z .nil)) ?_)))
   refine f7.skip Z (f7.nil)
  dsimp only[j9]
  refine b6 (.nilrow 1 4 Z (.ret (e8 ?_)))
  obtain rfl:=oi h
  exact Done.ret Z Z
 ·refine AWP.skip (b6 (.q (.q ?_)))
  obtain⟨a25,ha25,a26,ha26,h⟩:=b2 h
  refine AWP.drawEI [4,5] mixed Z Z Z ?_
  refine d3.consN Z Z (fun E=>W.fieldAddr Z Z Z Z .N) Z (.consN Z Z (fun E=>.B Z Z Z Z Z Z .N) Z (.consN Z Z (fun E=>S.litD (f:=f9) (l:=[t.init]) (ess:=[[row 1 intI t.init]]) Z Z Z Z Z Z Z Z ⟨⟨.inl Z,Y⟩,Y⟩ Z .N) Z (.consN Z Z (fun E=>W.loadAgg Z Z Z Z Z Z Z .N) Z ?_)))
  apply d3.consE;exact Z;exact Z;intro E
  refine AOps.callF (r2:=.c (.fn 28 [.ptr 3 0 0])) (σ'':=[(oE 4 (tT t)),(oE 2 [int 0,int 0]),(oE 2 [int a16.code,int a16.index]),(oE 4 (tT t))]) Z Z Z (FnOk.lend [] (aj0 ha25) Z Z Z Z Z Z (by exact Y) Z (by exact Y) Z Z (by exact⟨(.old Z Z Z),(.old Z Z Z),(.old Z Z Z),(.new 0 Z Z (.one Z)),Y⟩)) .N
  exact Z
  exact Z
  apply d3.consE;exact Z;exact Z;intro E
  refine AOps.callF (r2:=(cB a26)) (σ'':=[(oE 4 (tT t)),(oE 2 [int 0,int 0]),(oE 2 [int a16.code,int a16.index]),(oE 4 (tT t))]) Z Z Z (FnOk.lend [3] (aa0 ha26) Z Z Z Z Z Z (by exact⟨(.one Z),Y⟩) Z (by exact⟨(.live Z (.one Z)),Y⟩) Z Z (by exact⟨(.old Z Z Z),(.old Z Z Z),(.old Z Z Z),(.new 0 Z Z (.one Z)),Y⟩)) .N
  exact Z
  exact Z
  refine d3.consN Z Z (fun E=>.not Z Z .N) Z ?_
  refine d3.done Z ?_ ?_
  ·refine f7.cons Z Z (.go Z Z (fun E=>W.fieldAddr Z Z Z Z .N) (.go Z Z (fun E=>W.fieldAddr Z Z Z Z .N) (.skip Z .nil))) (.cons Z Z (.go Z Z (fun E=>.B Z Z Z Z Z Z .N) (.go Z Z (fun E=>.B Z Z Z Z Z Z .N) (.skip Z .nil))) (.cons Z Z (.go Z Z (fun E=>S.litD (f:=f9) (l:=[t.init]) (ess:=[[row 1 intI t.init]]) Z Z Z Z Z Z Z Z ⟨⟨.inl Z,Y⟩,Y⟩ Z .N) (.go Z Z (fun E=>S.litD (f:=f9) (l:=[t.init]) (ess:=[[row 1 intI t.init]]) Z Z Z Z Z Z Z Z ⟨⟨.inl Z,Y⟩,Y⟩ Z .N) (.skip Z .nil))) (.cons Z Z (.go Z Z (fun E=>W.loadAgg Z Z Z Z Z Z Z .N) (.skip Z (.skip Z .nil))) ?_)))
   refine f7.skip Z (f7.skip Z ?_)
   refine f7.cons Z Z ?_ ?_
   refine j2.skip Z (j2.skip Z ?_)
   refine j2.go Z Z (fun E=>.not Z Z .N) ?_
   exact j2.nil
   exact f7.nil
  dsimp only[j9]
  refine b6 (.ad Z h (fun hc4 h=> ?_) (fun hc4 h=> ?_))
  ·refine AWP.q (.u (W.build Z Z Z Z (.v Z Z (.v Z Z (.v Z Z (W.storeAgg Z Z Z Z Z Z Z (.nil (b6 (.nilrow 1 4 Z (.ret (e8 ?_)))))))))))
   obtain rfl:=oi h
   exact Done.ret Z Z
  ·refine AWP.skip (b6 (.q (.u (W.loadAgg Z Z Z Z Z Z Z (.j Z Z (W.makeMap Value.string vI Z Z Z (W.buildP Z Z Z Z (W.box Z Z Z Z Z Z (.v Z Z (.nil (b6 (.q (.virtB 5 e9 (b:=5) (o:=5) Z Z Z Z Z Z (.virtBM 1 intI (b:=5) (o:=6) Z Z Z Z Z Z Z Z ?_))))))))))))))
   obtain⟨a38,ha38,h⟩:=b9 h
   refine AWP.u (.j Z Z (W.fieldAddr Z Z Z Z (.B Z Z Z Z Z Z (W.build Z Z Z Z (.callF (r2:=.tup []) (σ'':=[(oE 4 (tT t)),(oE 2 [int 0,int 0]),(oE 2 [int a16.code,int a16.index]),(oE 4 (tT t)),(oW Value.string vI a38.1),(oE 8 [int t.facts,row 1 intI t.init,row 1 intI t.goal,row 4 d9 t.operators,row 1 intI plan,.own 8 0 a38.2.1.length,.own 9 0 a38.2.2.length,.map 4]),.dead,.dead,(oV 5 e9 a38.2.1),mat (9,[]) 1 intI a38.2.2]) Z Z Z (FnOk.lend [5,6,7,4] (D0 ha38) Z Z Z Z Z Z (by exact⟨(.one Z),.vec,(.mat Z),(.one Z),Y⟩) Z (by exact⟨(.live Z (.one Z)),(.live Z .vec),(.live Z .mat),(.live Z (.one Z)),Y⟩) Z Z (by exact⟨(.old Z Z Z),(.old Z Z Z),(.old Z Z Z),(.old Z Z Z),(.new 3 Z Z (.one Z)),(.new 0 Z Z (.one Z)),.dead,.dead,(.new 4 Z Z .vec),(.new 5 Z Z .mat),Y⟩)) (.nil (b6 (.q (.q (.u (.v Z Z (.nil (b6 (.F ?_))))))))))))))
   obtain⟨oo,ho1,h⟩:=b9 h
   refine AWP.loopS ho1 (fun(c5,c6,c7,change8)=>⟨[(1,(cR plan)),(2,(cP 0 0 0)),(7,(cP 1 0 0)),(9,(cP 5 0 0)),(10,(cI change8))],[(oE 4 (tT t)),(oE 2 [int 0,int 0]),.dead,.dead,(oW Value.string vI c5),(oE 8 [int t.facts,row 1 intI t.init,row 1 intI t.goal,row 4 d9 t.operators,row 1 intI plan,.own 8 0 c6.length,.own 9 0 c7.length,.map 4]),.dead,.dead,(oV 5 e9 c6),mat (9,[]) 1 intI c7]⟩) (fun o e st=>match o with| .inl _=>e=.exit 0∧Sub [] st ⟨[(7,(cP 1 0 0))],[.dead,(oE 2 [int 0,int 0])]⟩| .inr x=>e=.ret∧Done [.t 4,.t 5,.t 6,.cell 7 27 2] (fun t _=>t=.tup [(cR x.1),(cI x.2.1),(cB x.2.2.1),.agg [int x.2.2.2.code,int x.2.2.2.index]]) .ret st) ?_ ?_ ?_
   ·try dsimp only
    exact Sub.cut ⟨Z,Z,Z,Z,Z,Y⟩ Z ⟨.one Z,.one Z,.dead,.dead,.one Z,.one Z,.dead,.dead,.vec,.mat Z,Y⟩ Z
   ·intro s o h
    obtain⟨c5,c6,c7,change8⟩:=s
    unfold N9 at h
    try dsimp only at h ⊢
    refine AWP.q (.q (.u (.j Z Z (.j Z Z (.ah Z Z Z (W.fieldAddr Z Z Z Z (.B Z Z Z Z Z Z (S.lenM Z Z Z (fun hl44=>.J Z Z Z (.nil (b6 (.ac Z h (fun hc9 h=> ?_) (fun hc9 h=> ?_)))))))))))))
    ·refine AWP.skip (b6 (.q (.F (.q (.u (.v Z Z (.nil (b6 (.F ?_)))))))))
     obtain⟨oo,ho2,h⟩:=b9 h
     refine AWP.loopS ho2 (fun(c10,c11,c12,j13)=>⟨[(1,(cR plan)),(2,(cP 0 0 0)),(7,(cP 1 0 0)),(9,(cP 5 0 0)),(10,(cI change8)),(11,(cI j13))],[(oE 4 (tT t)),(oE 2 [int 0,int 0]),.dead,.dead,(oW Value.string vI c10),(oE 8 [int t.facts,row 1 intI t.init,row 1 intI t.goal,row 4 d9 t.operators,row 1 intI plan,.own 8 0 c11.length,.own 9 0 c12.length,.map 4]),.dead,.dead,(oV 5 e9 c11),mat (9,[]) 1 intI c12]⟩) (fun o e st=>match o with| .inl (c14,c15,c16)=>e=.exit 2∧Sub [] st ⟨[(1,(cR plan)),(2,(cP 0 0 0)),(7,(cP 1 0 0)),(9,(cP 5 0 0)),(10,(cI change8))],[(oE 4 (tT t)),(oE 2 [int 0,int 0]),.dead,.dead,(oW Value.string vI c14),(oE 8 [int t.facts,row 1 intI t.init,row 1 intI t.goal,row 4 d9 t.operators,row 1 intI plan,.own 8 0 c15.length,.own 9 0 c16.length,.map 4]),.dead,.dead,(oV 5 e9 c15),mat (9,[]) 1 intI c16]⟩| .inr x=>e=.ret∧Done [.t 4,.t 5,.t 6,.cell 7 27 2] (fun t _=>t=.tup [(cR x.1),(cI x.2.1),(cB x.2.2.1),.agg [int x.2.2.2.code,int x.2.2.2.index]]) .ret st) ?_ ?_ ?_
     ·try dsimp only
      exact Sub.env ⟨Z,Z,Z,Z,Z,Z,Y⟩
     ·intro s o h
      obtain⟨c10,c11,c12,j13⟩:=s
      unfold O0 at h
      try dsimp only at h ⊢
      refine AWP.q (.q ?_)
      obtain⟨a54,ha54,h⟩:=b9 h
      refine AWP.u (.j Z Z (.j Z Z (.ah Z Z Z (W.fieldAddr Z Z Z Z (.B Z Z Z Z Z Z (.j Z Z (S.idxH ha54 Z Z Z (by simp) Z Z (S.loadM ha54 Z Z Z Z (S.lenO Z (mat_get Z ha54) Z (fun hl56=>.J Z Z Z (.nil (b6 (.ac Z h (fun hc17 h=> ?_) (fun hc17 h=> ?_))))))))))))))
      ·refine AWP.skip (b6 (.q (.F (.q ?_))))
       obtain⟨a65,ha65,a68,ha68,h⟩:=b2 h
       refine AWP.u (.j Z Z (.ah Z Z Z (W.fieldAddr Z Z Z Z (.B Z Z Z Z Z Z (.j Z Z (S.idxH ha65 Z Z Z (by simp) Z Z (S.loadM ha65 Z Z Z Z (.j Z Z (S.idxO ha68 Z Z (mat_get Z ha65) Z Z (S.loadO ha68 Z Z (mat_get Z ha65) Z Z (.v Z Z (.nil (b6 (.q ?_))))))))))))))
       obtain⟨t18,hx19,h⟩:=b9 h
       refine AWP.seqJ (⟨[(1,(cR plan)),(2,(cP 0 0 0)),(7,(cP 1 0 0)),(9,(cP 5 0 0)),(10,(cI change8)),(11,(cI j13)),(12,(cI a68)),(93,(cB t18))],[(oE 4 (tT t)),(oE 2 [int 0,int 0]),.dead,.dead,(oW Value.string vI c10),(oE 8 [int t.facts,row 1 intI t.init,row 1 intI t.goal,row 4 d9 t.operators,row 1 intI plan,.own 8 0 c11.length,.own 9 0 c12.length,.map 4]),.dead,.dead,(oV 5 e9 c11),mat (9,[]) 1 intI c12]⟩) ?_ ?_
       ·obtain⟨a75,ha75,hx19⟩:=b9 hx19
        rcases bft (decide (a75.fat=(plan.length:Int))) with hb20|hb20
        ·replace hx19:=N0 hb20 hx19
         obtain⟨a87,ha87,a92,ha92,hx19⟩:=b2 hx19
         refine AWP.drawI mixed Z ?_
         refine k9.consF Z (fun E=>.j Z Z .N) Z (.consF Z (fun E=>.ah Z Z Z .N) Z (.consF Z (fun E=>W.fieldAddr Z Z Z Z .N) Z (.consF Z (fun E=>.B Z Z Z Z Z Z .N) Z (.consF Z (fun E=>.j Z Z .N) Z (.consF Z (fun E=>S.idxO ha75 Z Z Z Z Z .N) Z (.consF Z (fun E=>W.fieldAddr Z Z Z Z .N) Z (.consF Z (fun E=>S.loadO ha75 Z Z Z Z Z .N) Z (.consF Z (fun E=>.j Z Z .N) Z (.consF Z (fun E=>S.len Z Z (fun hl79=>.nil ⟨Z,Z⟩)) Z (.consF Z (fun E=>.eql Z Z Z .N) Z (.consF Z (fun E=>.j Z Z .N) Z (.consF Z (fun E=>.z Z Z Z hb20 (.j Z Z .N)) Z (.consF Z (fun E=>.z Z Z Z hb20 (.ah Z Z Z .N)) Z (.consF Z (fun E=>.z Z Z Z hb20 (W.fieldAddr Z Z Z Z .N)) Z (.consF Z (fun E=>.z Z Z Z hb20 (.B Z Z Z Z Z Z .N)) Z (.consF Z (fun E=>.z Z Z Z hb20 (.j Z Z .N)) Z (.consF Z (fun E=>.z Z Z Z hb20 (S.idxO ha87 Z Z Z Z Z .N)) Z (.consF Z (fun E=>.z Z Z Z hb20 (W.fieldAddr Z Z Z Z .N)) Z (.consF Z (fun E=>.z Z Z Z hb20 (S.loadO ha87 Z Z Z Z Z .N)) Z (.consF Z (fun E=>.z Z Z Z hb20 (W.fieldAddr Z Z Z Z .N)) Z (.consF Z (fun E=>.z Z Z Z hb20 (.B Z Z Z Z Z Z .N)) Z (.consF Z (fun E=>.z Z Z Z hb20 (.O Z Z Z Z (T7 ha92) Z .N)) Z (.consF Z (fun E=>.U Z hb20 Z Z .N) Z ?_)))))))))))))))))))))))
         refine k9.done ?_
         dsimp only[j9]
         obtain rfl:=oi hx19
         refine b6 (Sub.env ⟨Z,Z,Z,Z,Z,Z,Z,Z,Y⟩)
        ·replace hx19:=L9 hb20 hx19
         refine AWP.drawI mixed Z ?_
         refine k9.consF Z (fun E=>.j Z Z .N) Z (.consF Z (fun E=>.ah Z Z Z .N) Z (.consF Z (fun E=>W.fieldAddr Z Z Z Z .N) Z (.consF Z (fun E=>.B Z Z Z Z Z Z .N) Z (.consF Z (fun E=>.j Z Z .N) Z (.consF Z (fun E=>S.idxO ha75 Z Z Z Z Z .N) Z (.consF Z (fun E=>W.fieldAddr Z Z Z Z .N) Z (.consF Z (fun E=>S.loadO ha75 Z Z Z Z Z .N) Z (.consF Z (fun E=>.j Z Z .N) Z (.consF Z (fun E=>S.len Z Z (fun hl79=>.nil ⟨Z,Z⟩)) Z (.consF Z (fun E=>.eql Z Z Z .N) Z (.consF Z (fun E=>.j Z Z .N) Z (.consF Z (fun E=>.E Z Z Z hb20 .N) Z (.consF Z (fun E=>.E Z Z Z hb20 .N) Z (.consF Z (fun E=>.E Z Z Z hb20 .N) Z (.consF Z (fun E=>.E Z Z Z hb20 .N) Z (.consF Z (fun E=>.E Z Z Z hb20 .N) Z (.consF Z (fun E=>.E Z Z Z hb20 .N) Z (.consF Z (fun E=>.E Z Z Z hb20 .N) Z (.consF Z (fun E=>.E Z Z Z hb20 .N) Z (.consF Z (fun E=>.E Z Z Z hb20 .N) Z (.consF Z (fun E=>.E Z Z Z hb20 .N) Z (.consF Z (fun E=>.E Z Z Z hb20 .N) Z (.consF Z (fun E=>.ab Z hb20 Z Z .N) Z ?_)))))))))))))))))))))))
         refine k9.done ?_
         dsimp only[j9]
         obtain rfl:=oi hx19
         refine b6 (Sub.env ⟨Z,Z,Z,Z,Z,Z,Z,Z,Y⟩)
       ·refine AWP.ad Z h (fun hc21 h=> ?_) (fun hc21 h=> ?_)
        ·refine AWP.q ?_
         obtain⟨a96,ha96,h⟩:=b9 h
         refine AWP.u (.j Z Z (.j Z Z (.callF (r2:=(cR a96)) (σ'':=[(oE 4 (tT t)),(oE 2 [int 0,int 0]),.dead,.dead,(oW Value.string vI c10),(oE 8 [int t.facts,row 1 intI t.init,row 1 intI t.goal,row 4 d9 t.operators,row 1 intI plan,.own 8 0 c11.length,.own 9 0 c12.length,.map 4]),.dead,.dead,(oV 5 e9 c11),mat (9,[]) 1 intI c12]) Z Z Z (FnOk.lend [5,8,9,4] (ag2 ha96) Z Z Z Z Z Z (by exact⟨(.one Z),.vec,(.mat Z),(.one Z),Y⟩) Z (by exact⟨(.live Z (.one Z)),(.live Z .vec),(.live Z .mat),(.live Z (.one Z)),Y⟩) Z Z (by exact⟨(.old Z Z Z),(.old Z Z Z),.dead,.dead,(.new 3 Z Z (.one Z)),(.new 0 Z Z (.one Z)),.dead,.dead,(.new 1 Z Z .vec),(.new 2 Z Z .mat),Y⟩)) (.v Z Z (.nil (b6 (.q (.q (.u (.j Z Z (S.len Z Z (fun hl98=>.gtr Z Z Z (.nil (b6 (.ac Z h (fun hc22 h=> ?_) (fun hc22 h=> ?_))))))))))))))))
         ·refine AWP.q (.u (W.build Z Z Z Z (.v Z Z (.v Z Z (.v Z Z (W.storeAgg Z Z Z Z Z Z Z (.nil (b6 (.nilrow 1 4 Z (.ret (e8 (e8 (j8 (e8 ?_))))))))))))))
          obtain rfl:=oi h
          refine e8 ⟨_,Z,Z,?_⟩
          exact Done.ret Z Z
         ·refine AWP.skip (b6 (.q (.u (.j Z Z (.j Z Z (W.build Z Z Z Z (.v Z Z (.v Z Z (.v Z Z (W.storeAgg Z Z Z Z Z Z Z (.nil (b6 (.ret (e8 (j8 (e8 ?_))))))))))))))))
          obtain rfl:=oi h
          refine e8 ⟨_,Z,Z,?_⟩
          exact Done.ret Z Z
        ·refine AWP.skip (b6 ?_)
         obtain⟨a106,ha106,h⟩:=b9 h
         refine AWP.u (.j Z Z (.j Z Z (.callF (r2:=.tup []) (σ'':=[(oE 4 (tT t)),(oE 2 [int 0,int 0]),.dead,.dead,(oW Value.string vI a106.1),(oE 8 [int t.facts,row 1 intI t.init,row 1 intI t.goal,row 4 d9 t.operators,row 1 intI plan,.own 20 0 a106.2.1.length,.own 21 0 a106.2.2.length,.map 4]),.dead,.dead,.dead,.dead,.dead,.dead,.dead,.dead,.dead,.dead,.dead,.dead,.dead,.dead,(oV 5 e9 a106.2.1),mat (21,[]) 1 intI a106.2.2]) Z Z Z (FnOk.lend [5,8,9,4] (af4 ha106) Z Z Z Z Z Z (by exact⟨(.one Z),.vec,(.mat Z),(.one Z),Y⟩) Z (by exact⟨(.live Z (.one Z)),(.live Z .vec),(.live Z .mat),(.live Z (.one Z)),Y⟩) Z Z (by exact⟨(.old Z Z Z),(.old Z Z Z),.dead,.dead,(.new 3 Z Z (.one Z)),(.new 0 Z Z (.one Z)),.dead,.dead,.dead,.dead,.dead,.dead,.dead,.dead,.dead,.dead,.dead,.dead,.dead,.dead,(.new 14 Z Z .vec),(.new 15 Z Z .mat),Y⟩)) (.nil (f4 (b6 (.u (.j Z Z (S.add Z Z Z (.v Z Z (.nil ?_)))))))))))
         obtain rfl:=oi h
         refine b6 ⟨_,Z,?_⟩
         exact(Sub.move (env':=[(1,(cR plan)),(2,(cP 0 0 0)),(7,(cP 1 0 0)),(9,(cP 5 0 0)),(10,(cI change8)),(11,(cI (w64 (j13+1))))]) (σ':=[(oE 4 (tT t)),(oE 2 [int 0,int 0]),.dead,.dead,(oW Value.string vI a106.1),(oE 8 [int t.facts,row 1 intI t.init,row 1 intI t.goal,row 4 d9 t.operators,row 1 intI plan,.own 8 0 a106.2.1.length,.own 21 0 a106.2.2.length,.map 4]),.dead,.dead,(oV 5 e9 a106.2.1),.dead,.dead,.dead,.dead,.dead,.dead,.dead,.dead,.dead,.dead,.dead,.dead,mat (21,[]) 1 intI a106.2.2]) 8 20 Z Z Z ⟨Z,Z,Z,Z,Z,Z,Y⟩ Z ⟨⟨Z,Z⟩,⟨Z,Z⟩,Y,Y,⟨Z,Z⟩,⟨Z,Z⟩,Y,Y,⟨Blk.im_ok _ _ _,g8 Z⟩,Y,Y,Y,Y,Y,Y,Y,Y,Y,Y,Y,Y,.mat Z Z Z,Y⟩).trans ((Sub.moveM (env':=[(1,(cR plan)),(2,(cP 0 0 0)),(7,(cP 1 0 0)),(9,(cP 5 0 0)),(10,(cI change8)),(11,(cI (w64 (j13+1))))]) (σ':=[(oE 4 (tT t)),(oE 2 [int 0,int 0]),.dead,.dead,(oW Value.string vI a106.1),(oE 8 [int t.facts,row 1 intI t.init,row 1 intI t.goal,row 4 d9 t.operators,row 1 intI plan,.own 8 0 a106.2.1.length,.own 9 0 a106.2.2.length,.map 4]),.dead,.dead,(oV 5 e9 a106.2.1),mat (9,[]) 1 intI a106.2.2,.dead,.dead,.dead,.dead,.dead,.dead,.dead,.dead,.dead,.dead,.dead]) 9 21 Z Z Z ⟨Z,Z,Z,Z,Z,Z,Y⟩ Z ⟨(.one Z Z),(.one Z Z),.dead,.dead,(.one Z Z),(.one Z Z),.dead,.dead,(.vec Z),(.mat Z Z Z),.dead,.dead,.dead,.dead,.dead,.dead,.dead,.dead,.dead,.dead,.dead,Y⟩).trans (Sub.cut ⟨Z,Z,Z,Z,Z,Z,Y⟩ Z ⟨.one Z,.one Z,.dead,.dead,.one Z,.one Z,.dead,.dead,.vec,.mat Z,Y⟩ Z))
      ·refine AWP.exit (f5 ?_)
       obtain rfl:=oi h
       refine f5 ⟨_,Z,Z,?_⟩
       exact Sub.env ⟨Z,Z,Z,Z,Z,Y⟩
     ·intro e s hq
      rcases oo with⟨c14,c15,c16⟩|x
      ·try dsimp only at h hq
       obtain⟨rfl,hs⟩:=hq
       refine⟨_,hs,?_⟩
       refine j7 (f4 (b6 (.u (.j Z Z (S.add Z Z Z (.v Z Z (.nil ?_)))))))
       obtain rfl:=oi h
       refine b6 ⟨_,Z,?_⟩
       exact Sub.env ⟨Z,Z,Z,Z,Z,Y⟩
      ·try dsimp only at h hq
       obtain⟨rfl,hs⟩:=hq
       refine⟨_,Sub.refl _ _,?_⟩
       refine j8 (j8 (e8 ?_))
       obtain rfl:=oi h
       refine e8 ⟨_,Z,Z,?_⟩
       exact hs
    ·refine AWP.exit (f5 ?_)
     obtain rfl:=oi h
     refine f5 ⟨_,Z,Z,?_⟩
     exact Sub.cut ⟨Z,Y⟩ Z ⟨.dead,.one Z,Y⟩ Z
   ·intro e s hq
    rcases oo with u|x
    ·try dsimp only at h hq
     obtain⟨rfl,hs⟩:=hq
     refine⟨_,hs,?_⟩
     refine j7 (b6 (.q (.u (W.build Z Z Z Z (.v Z Z (.v Z Z (.v Z Z (W.storeAgg Z Z Z Z Z Z Z (.nil (b6 (.nilrow 1 4 Z (.ret ?_))))))))))))
     obtain rfl:=oi h
     exact Done.ret Z Z
    ·try dsimp only at h hq
     obtain⟨rfl,hs⟩:=hq
     refine⟨_,Sub.refl _ _,?_⟩
     refine j8 (e8 ?_)
     obtain rfl:=oi h
     exact hs
theorem y9{sv:Li}{r:Int}(h:I6 sv=some r):g9 prog 55 [(cR sv)] (.c (.imm (.val (.int .u32 r)))):=by
 unfold g9
 refine FnOk.enter (rs:=[.t 2]) func55 Z ntmps55 results55 Z ⟨Y,Y⟩ (by kernel_rfl) Z ?_
 unfold I6 at h
 refine AWP.q (.u (.v Z Z (.nil (b6 (.q (.u (.v Z Z (.nil (b6 (.q (.q (.u (.j Z Z (S.len Z Z (fun hl7=>.j Z Z (.nil (b6 (.F ?_))))))))))))))))))
 obtain⟨w2,ho1,h⟩:=b9 h
 refine AWP.forS ho1 (fun t3 w2=>⟨[(3,.c (.imm (.val (.int .u32 w2)))),(6,(cR sv)),(7,(cI (sv.length:Int))),(8,(cI t3))],[]⟩) (fun w2 e st=>e=.exit 0∧Sub [] st ⟨[(3,.c (.imm (.val (.int .u32 w2))))],[]⟩) ?_ ?_ ?_ ?_
 ·try dsimp only
  exact Sub.env ⟨Z,Z,Z,Z,Y⟩
 ·intro t3 w2 hlot3 hltt3 _
  try dsimp only
  refine AWP.q (.u (.J Z Z Z (.nil (b6 (.q (.ae Z hltt3 (.exit (f5 (f5 ⟨Z,?_⟩)))))))))
  exact Sub.env ⟨Z,Y⟩
 ·intro t3 w2 o hlot3 hltt3 h
  unfold W6 at h
  try dsimp only at h ⊢
  refine AWP.q (.u (.J Z Z Z (.nil (b6 (.q (.af Z hltt3 (.skip (b6 (.q (.F (.q ?_)))))))))))
  obtain⟨a10,ha10,h⟩:=b9 h
  refine AWP.u (S.idx ha10 Z Z Z Z (.ai Z Z Z Z (.v Z Z (.nil (b6 ?_)))))
  obtain⟨u14,hu14,h⟩:=b9 h
  refine AWP.u (.j Z Z (.j Z Z (S.shl hu14 Z Z Z (.bits Z Z Z (by simp) (.v Z Z (.nil (f4 (b6 (.u (.add Z Z Z (by omega) (.j Z Z (.nil ?_))))))))))))
  obtain rfl:=oi h
  refine b6 (Sub.env ⟨Z,Z,Z,Z,Y⟩)
 ·intro e s hq
  obtain⟨rfl,hs⟩:=hq
  refine⟨_,hs,?_⟩
  refine j7 (b6 (.q (.u (.j Z Z (.v Z Z (.nil (b6 (.ret ?_))))))))
  obtain rfl:=oi h
  exact Done.ret Z Z
theorem an4{w:Int}{r:Li}(h:Q6 w=some r):n8 prog 39 [.c (.imm (.val (.int .u32 w)))] 1 (List.map intI r):=by
 unfold n8
 refine FnOk.enter (rs:=[.t 2]) func39 Z ntmps39 results39 Z ⟨Y,Y⟩ (by kernel_rfl) Z ?_
 unfold Q6 at h
 refine AWP.q (.u (.v Z Z (.nil (b6 (.q (.u (.v Z Z (.nil (b6 (.q (.q (.u (.j Z Z (.nil (b6 (.F (.virtV 1 intI 3 Z Z Z ?_)))))))))))))))))
 obtain⟨c2,ho1,h⟩:=b9 h
 refine AWP.forS ho1 (fun t3 c2=>⟨[(0,.c (.imm (.val (.int .u32 w)))),(3,.c (.own 0 0 c2.length)),(5,(cI t3))],[(oV 1 intI c2)]⟩) (fun c2 e st=>e=.exit 0∧Sub [] st ⟨[(3,.c (.own 0 0 c2.length))],[(oV 1 intI c2)]⟩) ?_ ?_ ?_ ?_
 ·try dsimp only
  exact Sub.env ⟨Z,(J3 (by first|rfl|simp only[lS])),Z,Y⟩
 ·intro t3 c2 hlot3 hltt3 _
  try dsimp only
  refine AWP.q (.u (.J Z Z Z (.nil (b6 (.q (.ae Z hltt3 (.exit (f5 (f5 ⟨Z,?_⟩)))))))))
  exact Sub.env ⟨Z,Y⟩
 ·intro t3 c2 o hlot3 hltt3 h
  unfold U9 at h
  try dsimp only at h ⊢
  refine AWP.q (.u (.J Z Z Z (.nil (b6 (.q (.af Z hltt3 (.skip (b6 ?_))))))))
  obtain⟨c4,hx5,h⟩:=b9 h
  refine AWP.seqJ (⟨[(0,.c (.imm (.val (.int .u32 w)))),(3,.c (.own 2 0 c4.length)),(5,(cI t3))],[.dead,.dead,(oV 1 intI c4)]⟩) ?_ ?_
  ·refine AWP.F (.q (.u (.j Z Z (.v Z Z (.nil (b6 (.q (.u (.j Z Z (.j Z Z (.shr Z Z Z (by first|decide|omega) Z (.bits Z Z Z (by simp) (.eql Z Z Z (.nil (b6 (.ac Z hx5 (fun hc6 hx5=> ?_) (fun hc6 hx5=> ?_)))))))))))))))))
   ·obtain⟨a16,ha16,hx5⟩:=b9 hx5
    refine AWP.u (.j Z Z (.j Z Z (S.lit (f:=intI) (l:=[t3]) (ess:=[[int t3]]) Z Z Z Z Z Z Z ⟨⟨.inl Z,Y⟩,Y⟩ Z Z Z (S.append (f:=intI) ha16 Z Z Z Z Z Z (.own Z Z) Z Z Z Z (.v Z Z (.nil (f4 ?_)))))))
    obtain rfl:=oi hx5
    refine b6 (Sub.cut ⟨Z,Z,Z,Y⟩ Z ⟨.dead,.dead,.vec,Y⟩ Z)
   ·refine AWP.skip (f4 ?_)
    obtain rfl:=oi hx5
    refine b6 ((Sub.move (env':=[(0,.c (.imm (.val (.int .u32 w)))),(3,.c (.own 2 0 c2.length)),(5,(cI t3))]) (σ':=[.dead,.dead,(oV 1 intI c2)]) 2 0 Z Z Z ⟨Z,Z,Z,Y⟩ Z ⟨Y,Y,⟨Blk.im_ok _ _ _,g8 Z⟩,Y⟩).trans (Sub.env ⟨Z,Z,Z,Y⟩))
  ·refine AWP.u (.add Z Z Z (by omega) (.j Z Z (.nil ?_)))
   obtain rfl:=oi h
   refine b6 ((Sub.move (env':=[(0,.c (.imm (.val (.int .u32 w)))),(3,.c (.own 0 0 c4.length)),(5,(cI (t3+1)))]) (σ':=[(oV 1 intI c4),.dead]) 0 2 Z Z Z ⟨Z,Z,Z,Y⟩ Z ⟨⟨Blk.im_ok _ _ _,g8 Z⟩,Y,Y⟩).trans (Sub.cut ⟨Z,Z,Z,Y⟩ Z ⟨.vec,Y⟩ Z))
 ·intro e s hq
  obtain⟨rfl,hs⟩:=hq
  refine⟨_,hs,?_⟩
  refine j7 (b6 (.q (.u (.j Z Z (.v Z Z (.nil (b6 (.ret ?_))))))))
  obtain rfl:=oi h
  exact Done.ret Z (Fresh.mk Z Z)
theorem ar1{av:Int}{bv:Int}{r:Int}(h:H4 av bv=some r):g9 prog 37 [.c (.imm (.val (.int .u32 av))),.c (.imm (.val (.int .u32 bv)))] ((cI r)):=by
 unfold g9
 refine FnOk.enter (rs:=[.t 4]) func37 Z ntmps37 results37 Z ⟨Y,Y⟩ (by kernel_rfl) Z ?_
 unfold H4 at h
 refine AWP.q (.u (.v Z Z (.nil (b6 (.q ?_)))))
 obtain⟨a6,ha6,a8,ha8,a9,ha9,h⟩:=b3 h
 refine AWP.u (.j Z Z (S.fresh Z Z Z Z (an4 ha6) Z Z (.j Z Z (S.fresh Z Z Z Z (an4 ha8) Z Z (.callL Z Z (.cons (.c (.own Z Z)) (.cons (.c (.own Z Z)) .nil)) Z (R5 ha9) Z (.v Z Z (.nil (b6 (.ret ?_)))))))))
 obtain rfl:=oi h
 exact Done.ret Z Z
theorem aq6{plan:Li}{ok:Bool}{r:Li×Bool×i9}(h:R1 plan ok=some r):g9 prog 16 [(cR plan),(cB ok)] (.tup [(cR r.1),(cB r.2.1),.agg [int r.2.2.code,int r.2.2.index]]):=by
 unfold g9
 refine FnOk.enter (rs:=[.t 4,.t 5,.cell 6 27 2]) func16 Z ntmps16 results16 Z ⟨Y,Y,rv _ Z,Y⟩ (by kernel_rfl) Z ?_
 unfold R1 at h
 refine AWP.q (.u (.v Z Z (.v Z Z (W.alloc Z Z Z Z (.nil (b6 (.q (.q (.u (.j Z Z (S.len Z Z (fun hl8=>.gtr Z Z Z (.nil (b6 (.ac Z h (fun hc3 h=> ?_) (fun hc3 h=> ?_))))))))))))))))
 ·refine AWP.q (.u (W.build Z Z Z Z (.v Z Z (.v Z Z (W.storeAgg Z Z Z Z Z Z Z (.nil (b6 (.nilrow 1 4 Z (.ret (e8 ?_))))))))))
  obtain rfl:=oi h
  exact Done.ret Z Z
 ·refine AWP.skip (b6 (.q (.u (.j Z Z (.j Z Z (W.build Z Z Z Z (.v Z Z (.v Z Z (W.storeAgg Z Z Z Z Z Z Z (.nil (b6 (.ret ?_))))))))))))
  obtain rfl:=oi h
  exact Done.ret Z Z
theorem space_Of_w_ok{t:d6}{r:Int×Int×(List i7)}(h:U8 t=some r):FnOk prog 34 [.agg (tT t)] (ap4 t) (fun tt ss=>tt=(cP 1 0 0)∧ss=[.dead,(oE 3 [.imm (.val (.int .u32 r.1)),.imm (.val (.int .u32 r.2.1)),.own 2 0 r.2.2.length]),(oV 4 c9 r.2.2)]):=by
 refine FnOk.enter (rs:=[.t 2]) func34 Z ntmps34 results34 Z ⟨Y,Y⟩ (by kernel_rfl) Z ?_
 refine AWP.weak ?_
 unfold U8 at h
 refine AWP.q (.u (W.box Z Z Z Z Z Z (.v Z Z (.nil (b6 (.q ?_))))))
 obtain⟨a8,ha8,a11,ha11,h⟩:=b2 h
 refine AWP.drawEI [7] mixed Z Z Z ?_
 refine d3.consN Z Z (fun E=>W.fieldAddr Z Z Z Z .N) Z (.consN Z Z (fun E=>.B Z Z Z Z Z Z .N) Z (.consN Z Z (fun E=>.O Z Z Z Z (y9 ha8) Z .N) Z (.consN Z Z (fun E=>W.fieldAddr Z Z Z Z .N) Z (.consN Z Z (fun E=>.B Z Z Z Z Z Z .N) Z (.consN Z Z (fun E=>.O Z Z Z Z (y9 ha11) Z .N) Z (.consN Z Z (fun E=>W.build Z Z Z Z .N) Z ?_))))))
 apply d3.consE;exact Z;exact Z;intro E
 refine W.box Z Z Z Z Z Z .N
 exact Z
 exact Z
 refine d3.consN Z Z (fun E=>.v Z Z .N) Z ?_
 refine d3.done Z ?_ ?_
 ·refine f7.cons Z Z (.go Z Z (fun E=>W.fieldAddr Z Z Z Z .N) (.skip Z .nil)) (.cons Z Z (.go Z Z (fun E=>.B Z Z Z Z Z Z .N) (.skip Z .nil)) (.cons Z Z (.go Z Z (fun E=>.O Z Z Z Z (y9 ha8) Z .N) (.skip Z .nil)) (.cons Z Z (.go Z Z (fun E=>W.fieldAddr Z Z Z Z .N) (.skip Z .nil)) (.cons Z Z (.go Z Z (fun E=>.B Z Z Z Z Z Z .N) (.skip Z .nil)) (.cons Z Z (.go Z Z (fun E=>.O Z Z Z Z (y9 ha11) Z .N) (.skip Z .nil)) (.cons Z Z (.go Z Z (fun E=>W.build Z Z Z Z .N) (.skip Z .nil)) ?_))))))
  refine f7.skip Z ?_
  refine f7.cons Z Z ?_ ?_
  refine j2.skip Z ?_
  refine j2.go Z Z (fun E=>.v Z Z .N) ?_
  exact j2.nil
  exact f7.nil
 dsimp only[j9]
 refine b6 (.q (.q (.u (W.fieldAddr Z Z Z Z (.B Z Z Z Z Z Z (S.len Z Z (fun hl16=>.j Z Z (.nil (b6 (.F (.virtB 4 c9 (b:=1) (o:=2) Z Z Z Z Z Z ?_)))))))))))
 obtain⟨c55,ho1,h⟩:=b9 h
 refine AWP.forS ho1 (fun t56 c55=>⟨[(3,(cP 1 0 0)),(15,.c (row 4 d9 t.operators)),(16,(cI (t.operators.length:Int))),(17,(cI t56))],[.dead,(oE 3 (wW a8 a11 2 c55.length)),(oV 4 c9 c55)]⟩) (fun c55 e st=>e=.exit 0∧Sub (ap4 t) st ⟨[(3,(cP 1 0 0))],[.dead,(oE 3 (wW a8 a11 2 c55.length)),(oV 4 c9 c55)]⟩) ?_ ?_ ?_ ?_
 ·try dsimp only
  exact Sub.cut ⟨Z,Z,Z,Z,Y⟩ Z ⟨.dead,(.eq Z (by first|rfl|(simp only[lS];done))),.vec,Y⟩ Z
 ·intro t56 c55 hlot56 hltt56 _
  try dsimp only
  refine AWP.q (.u (.J Z Z Z (.nil (b6 (.q (.ae Z hltt56 (.exit (f5 (f5 ⟨Z,?_⟩)))))))))
  exact Sub.env ⟨Z,Y⟩
 ·intro t56 c55 o hlot56 hltt56 h
  unfold X1 at h
  try dsimp only at h ⊢
  refine AWP.q (.u (.J Z Z Z (.nil (b6 (.q (.af Z hltt56 (.skip (b6 (.q (.F (.q ?_)))))))))))
  obtain⟨a19,ha19,h⟩:=b9 h
  refine AWP.u (S.idx ha19 Z Z Z Z (W.loadIAgg Z Z Z Z Z (W.alloc Z Z Z Z (W.storeAgg Z Z Z Z Z Z Z (.nil (b6 ?_))))))
  obtain⟨a28,ha28,a31,ha31,a34,ha34,h⟩:=b3 h
  obtain⟨a39,ha39,h⟩:=b9 h
  refine AWP.drawEI [17,18,21] mixed Z Z Z ?_
  refine d3.consN Z Z (fun E=>.j Z Z .N) Z (.consN Z Z (fun E=>.j Z Z .N) Z (.consN Z Z (fun E=>.ah Z Z Z .N) Z (.consN Z Z (fun E=>W.fieldAddr Z Z Z Z .N) Z (.consN Z Z (fun E=>.B Z Z Z Z Z Z .N) Z (.consN Z Z (fun E=>W.fieldAddr Z Z Z Z .N) Z (.consN Z Z (fun E=>.B Z Z Z Z Z Z .N) Z (.consN Z Z (fun E=>.O Z Z Z Z (y9 ha28) Z .N) Z (.consN Z Z (fun E=>W.fieldAddr Z Z Z Z .N) Z (.consN Z Z (fun E=>.B Z Z Z Z Z Z .N) Z (.consN Z Z (fun E=>.O Z Z Z Z (y9 ha31) Z .N) Z (.consN Z Z (fun E=>W.fieldAddr Z Z Z Z .N) Z (.consN Z Z (fun E=>.B Z Z Z Z Z Z .N) Z (.consN Z Z (fun E=>.O Z Z Z Z (y9 ha34) Z .N) Z (.consN Z Z (fun E=>W.fieldAddr Z Z Z Z .N) Z (.consN Z Z (fun E=>.B Z Z Z Z Z Z .N) Z (.consN Z Z (fun E=>W.build Z Z Z Z .N) Z ?_))))))))))))))))
  apply d3.consE;exact Z;exact Z;intro E
  refine S.lit (f:=c9) (l:=[(⟨a28,a31,a34,a19.cost⟩:i7)]) (ess:=[[.imm (.val (.int .u32 a28)),.imm (.val (.int .u32 a31)),.imm (.val (.int .u32 a34)),int a19.cost]]) Z Z Z Z Z Z Z ⟨⟨.inl Z,.inl Z,.inl Z,.inl Z,Y⟩,Y⟩ Z Z Z .N
  exact Z
  exact Z
  apply d3.consE;exact Z;exact Z;intro E
  refine S.append (f:=c9) ha39 Z Z Z Z Z Z (.own Z Z) Z Z Z Z .N
  exact Z
  exact Z
  refine d3.consN Z Z (fun E=>.ah Z Z Z .N) Z (.consN Z Z (fun E=>W.fieldAddr Z Z Z Z .N) Z ?_)
  apply d3.consE (v:=.undef);exact Z;exact Z;intro E
  refine W.store Z Z Z Z Z .N
  exact Z
  exact Z
  refine d3.done Z ?_ ?_
  ·refine f7.cons Z Z (.go Z Z (fun E=>.j Z Z .N) (.go Z Z (fun E=>.j Z Z .N) (.go Z Z (fun E=>.j Z Z .N) (.skip Z .nil)))) (.cons Z Z (.go Z Z (fun E=>.j Z Z .N) (.go Z Z (fun E=>.j Z Z .N) (.skip Z (.skip Z .nil)))) (.cons Z Z (.go Z Z (fun E=>.ah Z Z Z .N) (.go Z Z (fun E=>.ah Z Z Z .N) (.skip Z (.skip Z .nil)))) (.cons Z Z (.go Z Z (fun E=>W.fieldAddr Z Z Z Z .N) (.go Z Z (fun E=>W.fieldAddr Z Z Z Z .N) (.skip Z (.skip Z .nil)))) (.cons Z Z (.go Z Z (fun E=>.B Z Z Z Z Z Z .N) (.go Z Z (fun E=>.B Z Z Z Z Z Z .N) (.skip Z (.skip Z .nil)))) (.cons Z Z (.go Z Z (fun E=>W.fieldAddr Z Z Z Z .N) (.skip Z (.skip Z (.skip Z .nil)))) (.cons Z Z (.go Z Z (fun E=>.B Z Z Z Z Z Z .N) (.skip Z (.skip Z (.skip Z .nil)))) (.cons Z Z (.go Z Z (fun E=>.O Z Z Z Z (y9 ha28) Z .N) (.skip Z (.skip Z (.skip Z .nil)))) (.cons Z Z (.go Z Z (fun E=>W.fieldAddr Z Z Z Z .N) (.skip Z (.skip Z (.skip Z .nil)))) (.cons Z Z (.go Z Z (fun E=>.B Z Z Z Z Z Z .N) (.skip Z (.skip Z (.skip Z .nil)))) (.cons Z Z (.go Z Z (fun E=>.O Z Z Z Z (y9 ha31) Z .N) (.skip Z (.skip Z (.skip Z .nil)))) (.cons Z Z (.go Z Z (fun E=>W.fieldAddr Z Z Z Z .N) (.skip Z (.skip Z (.skip Z .nil)))) ?_)))))))))))
   refine f7.cons Z Z (.go Z Z (fun E=>.B Z Z Z Z Z Z .N) (.skip Z (.skip Z (.skip Z .nil)))) (.cons Z Z (.go Z Z (fun E=>.O Z Z Z Z (y9 ha34) Z .N) (.skip Z (.skip Z (.skip Z .nil)))) (.cons Z Z (.go Z Z (fun E=>W.fieldAddr Z Z Z Z .N) (.skip Z (.skip Z (.skip Z .nil)))) (.cons Z Z (.go Z Z (fun E=>.B Z Z Z Z Z Z .N) (.skip Z (.skip Z (.skip Z .nil)))) (.cons Z Z (.go Z Z (fun E=>W.build Z Z Z Z .N) (.skip Z (.skip Z (.skip Z .nil)))) ?_))))
   refine f7.skip Z (f7.skip Z ?_)
   refine f7.cons Z Z ?_ ?_
   refine j2.skip Z (j2.skip Z ?_)
   refine j2.go Z Z (fun E=>.ah Z Z Z .N) ?_
   refine j2.skip Z (j2.nil)
   refine f7.cons Z Z ?_ ?_
   refine j2.skip Z (j2.skip Z ?_)
   refine j2.go Z Z (fun E=>W.fieldAddr Z Z Z Z .N) ?_
   refine j2.skip Z (j2.nil)
   refine f7.skip Z (f7.nil)
  dsimp only[j9]
  refine f4 (b6 (.j (env':=[(3,(cP 1 0 0)),(15,.c (row 4 d9 t.operators)),(16,(cI (t.operators.length:Int))),(17,(cI t56))]) (σ':=[.dead,(oE 3 (wW a8 a11 2 a39.length)),(oV 4 c9 a39),(oE 4 [row 1 intI a19.pre,row 1 intI a19.add,row 1 intI a19.del,int a19.cost]),(oV 4 c9 [(⟨a28,a31,a34,a19.cost⟩:i7)])]) 2 5 Z Z Z ⟨Z,Z,Z,Z,Y⟩ Z ⟨Y,⟨Z,Z⟩,⟨Blk.im_ok _ _ _,g8 Z⟩,⟨Z,Z⟩,⟨Blk.im_ok _ _ _,g8 Z⟩,Y⟩ (.u (.add Z Z Z (by omega) (.j Z Z (.nil ?_))))))
  obtain rfl:=oi h
  refine b6 (Sub.cut ⟨Z,Z,Z,Z,Y⟩ Z ⟨.dead,.one Z,.vec,Y⟩ Z)
 ·intro e s hq
  obtain⟨rfl,hs⟩:=hq
  refine⟨_,hs,?_⟩
  refine j7 (b6 (.q (.u (.j Z Z (.v Z Z (.nil (b6 (.ret ?_))))))))
  obtain rfl:=oi h
  exact⟨⟨[(2,(cP 1 0 0))],[.dead,(oE 3 (wW a8 a11 2 c55.length)),(oV 4 c9 c55)]⟩,Sub.env ⟨Z,Y⟩,Done.ret Z ⟨Z,Z⟩⟩
theorem F8{start:Int}{goal:Int}{l:List i7}{r:Unit}(h:p8 start goal l=some r):FnOk prog 65 [(cP 0 0 0)] (am3 start goal l) (fun tt ss=>tt=.c (.imm (.val (.int .u32 start)))∧ss=[(oE 3 (wW start goal 1 l.length)),(oV 4 c9 l)]):=by
 refine FnOk.enter (rs:=[.t 2]) func65 Z ntmps65 results65 Z ⟨Y,Y⟩ (by kernel_rfl) Z ?_
 refine AWP.weak ?_
 unfold p8 at h
 refine AWP.q (.u (.v Z Z (.nil (b6 (.q (.u (.j Z Z (.ah Z Z Z (W.fieldAddr Z Z Z Z (.B Z Z Z Z Z Z (.v Z Z (.nil (b6 (.ret ?_))))))))))))))
 obtain rfl:=oi h
 exact⟨⟨[(2,.c (.imm (.val (.int .u32 start))))],[(oE 3 (wW start goal 1 l.length)),(oV 4 c9 l)]⟩,Sub.env ⟨Z,Y⟩,Done.ret Z ⟨Z,Z⟩⟩
theorem N2{sv:Int}{start:Int}{goal:Int}{l:List i7}{r:Unit}(h:w7 sv start goal l=some r):FnOk prog 89 [(cP 0 0 0),.c (.imm (.val (.int .u32 sv)))] (am2 sv start goal l) (fun tt ss=>tt=.c (.fn 109 [.ptr 2 0 0,.ptr 3 0 0])∧ss=[(oE 3 (wW start goal 1 l.length)),(oV 4 c9 l),(o1 (.ptr 0 0 0)),(o1 (.imm (.val (.int .u32 sv))))]):=by
 refine FnOk.enter (rs:=[.t 4]) func89 Z ntmps89 results89 Z ⟨Y,Y⟩ (by kernel_rfl) Z ?_
 refine AWP.weak ?_
 unfold w7 at h
 refine AWP.q (.u (W.box Z Z Z Z Z Z (W.box Z Z Z Z Z Z (.v Z Z (.nil (b6 (.q (.u (.ak Z Z (.v Z Z (.nil (b6 (.ret ?_)))))))))))))
 obtain rfl:=oi h
 exact⟨⟨[(4,.c (.fn 109 [.ptr 2 0 0,.ptr 3 0 0]))],[(oE 3 (wW start goal 1 l.length)),(oV 4 c9 l),(o1 (.ptr 0 0 0)),(o1 (.imm (.val (.int .u32 sv))))]⟩,Sub.env ⟨Z,Y⟩,Done.ret Z ⟨Z,Z⟩⟩
theorem an2{start:Int}{goal:Int}{l:List i7}{r:Li×Bool}(h:C6 start goal l=some r):FnOk prog 35 [.c (.ifc 51 [.ptr 0 0 0] false)] (O1 start goal l) (fun tt ss=>tt=.tup [.c (.own 12 0 r.1.length),(cB r.2)]∧ss=[(oE 3 (wW start goal 1 l.length)),(oV 4 c9 l),.dead,.dead,.dead,.dead,.dead,.dead,.dead,.dead,.dead,.dead,(oV 1 eU32 r.1)]):=by
 refine FnOk.enter (rs:=[.t 2,.t 3]) func35 Z ntmps35 results35 Z ⟨Y,Y,Y⟩ (by kernel_rfl) Z ?_
 refine AWP.weak ?_
 unfold C6 at h
 refine AWP.q (.u (.v Z Z (.v Z Z (.nil (b6 (.q ?_))))))
 obtain⟨a12,ha12,h⟩:=b9 h
 refine AWP.u (.j Z Z (S.invokeP (r2:=.c (.imm (.val (.int .u32 start)))) (σ'':=[(oE 3 (wW start goal 1 l.length)),(oV 4 c9 l)]) Z Z Z (FnOk.lend [0,1] (F8 ha12) Z Z Z Z Z Z (by exact⟨(.one Z),.vec,Y⟩) Z (by exact⟨(.live Z (.one Z)),(.live Z .vec),Y⟩) Z Z (by exact⟨(.new 0 Z Z (.one Z)),(.new 1 Z Z .vec),Y⟩)) (S.lit (f:=eU32) (l:=[start]) (ess:=[[.imm (.val (.int .u32 start))]]) Z Z Z Z Z Z Z ⟨⟨.inl Z,Y⟩,Y⟩ Z Z Z (W.alloc Z Z Z Z (W.store Z Z Z Z Z (.nil (b6 (.q ?_))))))))
 obtain⟨a16,ha16,h⟩:=b9 h
 refine AWP.u (W.makeMap vU noV Z Z Z (.j Z Z (S.invokeP (r2:=.c (.imm (.val (.int .u32 start)))) (σ'':=[(oE 3 (wW start goal 1 l.length)),(oV 4 c9 l),(oV 1 eU32 [start]),(o1 (.own 2 0 ([start].length))),(oW vU noV ([]:List (Int×Unit)))]) Z Z Z (FnOk.lend [0,1] (F8 ha16) Z Z Z Z Z Z (by exact⟨(.one Z),.vec,Y⟩) Z (by exact⟨(.live Z (.one Z)),(.live Z .vec),Y⟩) Z Z (by exact⟨(.new 0 Z Z (.one Z)),(.new 1 Z Z .vec),(.old Z Z Z),(.old Z Z Z),(.old Z Z Z),Y⟩)) (S.build0 Z Z Z (W.insertU (fk:=vU) (k:=start) C1 Z Z Z Z Z (.j Z Z (W.alloc Z Z Z Z (W.store Z Z Z Z Z (.nil (b6 (.q (.u (.v Z Z (.nil (b6 (.q (.F (.virtV 1 eU32 6 Z Z Z ?_))))))))))))))))))
 obtain⟨oo,ho1,h⟩:=b9 h
 refine AWP.loopS ho1 (fun(c56,c57,c58)=>⟨[(0,.c (.ifc 51 [.ptr 0 0 0] false)),(4,(cP 3 0 0)),(5,(cP 5 0 0)),(6,.c (.own 6 0 c58.length))],[(oE 3 (wW start goal 1 l.length)),(oV 4 c9 l),(oV 1 eU32 c56),(o1 (.own 2 0 c56.length)),(oW vU noV c57),(o1 (.map 4)),(oV 1 eU32 c58)]⟩) (fun o e st=>match o with| .inl c59=>e=.exit 0∧Sub (O1 start goal l) st ⟨[(6,.c (.own 6 0 c59.length))],[(oE 3 (wW start goal 1 l.length)),(oV 4 c9 l),.dead,.dead,.dead,.dead,(oV 1 eU32 c59)]⟩| .inr x=>e=.ret∧∃J,Sub (O1 start goal l) st J∧Done [.t 2,.t 3] (fun tt ss=>tt=.tup [.c (.own 12 0 x.1.length),(cB x.2)]∧ss=[(oE 3 (wW start goal 1 l.length)),(oV 4 c9 l),.dead,.dead,.dead,.dead,.dead,.dead,.dead,.dead,.dead,.dead,(oV 1 eU32 x.1)]) .ret J) ?_ ?_ ?_
 ·try dsimp only
  exact Sub.env ⟨Z,Z,Z,(J3 (by first|rfl|simp only[lS])),Y⟩
 ·intro s o h
  obtain⟨c56,c57,c58⟩:=s
  unfold H3 at h
  try dsimp only at h ⊢
  refine AWP.q (.q (.u (.B Z Z Z Z Z Z (S.lenO Z Z Z (fun hl20=>.gtr Z Z Z (.nil (b6 (.ac Z h (fun hc60 h=> ?_) (fun hc60 h=> ?_)))))))))
  ·refine AWP.skip (b6 (.F (.q ?_)))
   obtain⟨a26,ha26,h⟩:=b9 h
   refine AWP.u (.B Z Z Z Z Z Z (.B Z Z Z Z Z Z (S.lenO Z Z Z (fun hl24=>.sub' Z Z Z (by omega) (S.idxO ha26 Z Z Z Z Z (S.loadO ha26 Z Z Z Z Z (.v Z Z (.nil (b6 (.q ?_))))))))))
   obtain⟨u32,hu32,h⟩:=b9 h
   refine AWP.u (.B Z Z Z Z Z Z (.B Z Z Z Z Z Z (S.lenO Z Z Z (fun hl30=>.sub' Z Z Z (by omega) (S.vTo (L5 c56) hu32 Z Z Z Z Z Z (.sub (Sub.reown (env':=[(0,.c (.ifc 51 [.ptr 0 0 0] false)),(4,(cP 3 0 0)),(5,(cP 5 0 0)),(6,.c (.own 6 0 c58.length)),(7,.c (.imm (.val (.int .u32 a26)))),(20,(cI (c56.length:Int))),(21,(cB (decide (0<(c56.length:Int))))),(24,(cI (c56.length:Int))),(25,(cI ((c56.length:Int) - 1))),(27,.c (.imm (.val (.int .u32 a26)))),(30,(cI (c56.length:Int))),(31,(cI ((c56.length:Int) - 1))),(32,.c (.own 7 0 ((k6 c56 0 ((c56.length:Int) - 1)).length)))]) 32 (vw_to (L5 c56) hu32) Z Z Z Z Z Z Z Z (by exact⟨.inr Z,.inr Z,.inr Z,.inr Z,.inr Z,.inr Z,.inr Z,.inr Z,.inr Z,.inr Z,.inr Z,.inr Z,.inl ⟨Z,Z⟩,Y⟩)) (W.store Z Z Z Z Z (.nil (b6 (.q (.j (env':=[(0,.c (.ifc 51 [.ptr 0 0 0] false)),(4,(cP 3 0 0)),(5,(cP 5 0 0)),(6,.c (.own 6 0 c58.length)),(7,.c (.imm (.val (.int .u32 a26))))]) (σ':=[(oE 3 (wW start goal 1 l.length)),(oV 4 c9 l),(oV 1 eU32 (k6 c56 0 ((c56.length:Int) - 1))),(o1 (.own 2 0 ((k6 c56 0 ((c56.length:Int) - 1)).length))),(oW vU noV c57),(o1 (.map 4)),(oV 1 eU32 c58)]) 2 7 Z Z Z ⟨Z,Z,Z,Z,Z,Y⟩ Z ⟨⟨Z,Z⟩,⟨Blk.im_ok _ _ _,g8 Z⟩,⟨Blk.im_ok _ _ _,g8 Z⟩,⟨Z,Z⟩,⟨Z,Z⟩,⟨Z,Z⟩,⟨Blk.im_ok _ _ _,g8 Z⟩,Y⟩ ?_)))))))))))
   obtain⟨a36,ha36,h⟩:=b9 h
   refine AWP.u (.j Z Z (.j Z Z (S.lit (f:=eU32) (l:=[a26]) (ess:=[[.imm (.val (.int .u32 a26))]]) Z Z Z Z Z Z Z ⟨⟨.inl Z,Y⟩,Y⟩ Z Z Z (S.append (f:=eU32) ha36 Z Z Z Z Z Z (.own Z Z) Z Z Z Z (.v Z Z (.nil (b6 (.q (.q (.j (env':=[(0,.c (.ifc 51 [.ptr 0 0 0] false)),(4,(cP 3 0 0)),(5,(cP 5 0 0)),(6,.c (.own 6 0 a36.length)),(7,.c (.imm (.val (.int .u32 a26))))]) (σ':=[(oE 3 (wW start goal 1 l.length)),(oV 4 c9 l),(oV 1 eU32 (k6 c56 0 ((c56.length:Int) - 1))),(o1 (.own 2 0 ((k6 c56 0 ((c56.length:Int) - 1)).length))),(oW vU noV c57),(o1 (.map 4)),(oV 1 eU32 a36),(oV 1 eU32 [a26])]) 6 8 Z Z Z ⟨Z,Z,Z,Z,Z,Y⟩ Z ⟨⟨Z,Z⟩,⟨Blk.im_ok _ _ _,g8 Z⟩,⟨Blk.im_ok _ _ _,g8 Z⟩,⟨Z,Z⟩,⟨Z,Z⟩,⟨Z,Z⟩,⟨Blk.im_ok _ _ _,g8 Z⟩,⟨Blk.im_ok _ _ _,g8 Z⟩,Y⟩ ?_))))))))))
   obtain⟨a39,ha39,h⟩:=b9 h
   refine AWP.u (.j Z Z (.j Z Z (S.invokeP (r2:=.c (.fn 109 [.ptr 8 0 0,.ptr 9 0 0])) (σ'':=[(oE 3 (wW start goal 1 l.length)),(oV 4 c9 l),(oV 1 eU32 (k6 c56 0 ((c56.length:Int) - 1))),(o1 (.own 2 0 ((k6 c56 0 ((c56.length:Int) - 1)).length))),(oW vU noV c57),(o1 (.map 4)),(oV 1 eU32 a36),(oV 1 eU32 [a26]),(o1 (.ptr 0 0 0)),(o1 (.imm (.val (.int .u32 a26))))]) Z Z Z (FnOk.lend [0,1] (N2 ha39) Z Z Z Z Z Z (by exact⟨(.one Z),.vec,Y⟩) Z (by exact⟨(.live Z (.one Z)),(.live Z .vec),Y⟩) Z Z (by exact⟨(.new 0 Z Z (.one Z)),(.new 1 Z Z .vec),(.old Z Z Z),(.old Z Z Z),(.old Z Z Z),(.old Z Z Z),(.old Z Z Z),(.old Z Z Z),(.new 2 Z Z (.one Z)),(.new 3 Z Z (.one Z)),Y⟩)) (.nil (b6 (.F ?_))))))
   obtain⟨xr61,hr61,h⟩:=b9 h
   refine AWP.rangeB [(4,none),(5,none)] Z Z Z (fun as61 bo61 hA61 hB61=>⟨[(oE 3 (wW start goal 1 l.length)),(oV 4 c9 l),(oV 1 eU32 (k6 c56 0 ((c56.length:Int) - 1))),(o1 (.own 2 0 ((k6 c56 0 ((c56.length:Int) - 1)).length))),(oW vU noV c57),(o1 (.map 4)),(oV 1 eU32 a36),(oV 1 eU32 [a26]),(o1 (.ptr 0 0 0)),(o1 (.imm (.val (.int .u32 a26)))),.one (i8 63 [40] as61 bo61 .ready none [(4,none),(5,none)] [.ptr 3 0 0,.ptr 5 0 0])],fun tt ss=>tt=.tup []∧ss=[(oE 3 (wW start goal 1 l.length)),(oV 4 c9 l),.dead,(o1 (.own 11 0 xr61.2.length)),(oW vU noV xr61.1),(o1 (.map 4)),(oV 1 eU32 a36),(oV 1 eU32 [a26]),(o1 (.ptr 0 0 0)),(o1 (.imm (.val (.int .u32 a26)))),.one (i8 63 [40] as61 bo61 .ready none [(4,none),(5,none)] [.ptr 3 0 0,.ptr 5 0 0]),(oV 1 eU32 xr61.2)],Z,?_,?_⟩)
   ·refine FnOk.enter (rs:=[]) func109 Z ntmps109 results109 Z Y (by kernel_rfl) Z ?_
    refine AWP.weak ?_
    unfold H2 at hr61
    try dsimp only at hr61
    refine AWP.j (env':=[(0,.c (.yld 10)),(1,(cP 8 0 0)),(2,(cP 9 0 0))]) (σ':=[(oE 3 (wW start goal 1 l.length)),(oV 4 c9 l),.dead,(o1 (.own 11 0 ((k6 c56 0 ((c56.length:Int) - 1)).length))),(oW vU noV c57),(o1 (.map 4)),(oV 1 eU32 a36),(oV 1 eU32 [a26]),(o1 (.ptr 0 0 0)),(o1 (.imm (.val (.int .u32 a26)))),.one (i8 63 [40] as61 bo61 .ready none [(4,none),(5,none)] [.ptr 3 0 0,.ptr 5 0 0]),(oV 1 eU32 (k6 c56 0 ((c56.length:Int) - 1)))]) 11 2 Z Z Z ⟨Z,Z,Z,Y⟩ Z ⟨⟨Z,Z⟩,⟨Blk.im_ok _ _ _,g8 Z⟩,Y,⟨Z,Z⟩,⟨Z,Z⟩,⟨Z,Z⟩,⟨Blk.im_ok _ _ _,g8 Z⟩,⟨Blk.im_ok _ _ _,g8 Z⟩,⟨Z,Z⟩,⟨Z,Z⟩,⟨Z,Z⟩,⟨Blk.im_ok _ _ _,g8 Z⟩,Y⟩ (.q (.u (.B Z Z Z Z Z Z (.ah Z Z Z (W.fieldAddr Z Z Z Z (.B Z Z Z Z Z Z (S.lenO Z Z Z (fun hl10=>.j Z Z (.nil (b6 (.F ?_)))))))))))
    obtain⟨⟨c64,c65⟩,ho2,hr61⟩:=b9 hr61
    try dsimp only at hr61
    refine AWP.forS ho2 (fun t66 (c64,c65)=>⟨[(0,.c (.yld 10)),(2,(cP 9 0 0)),(9,.c (.own 1 0 l.length)),(10,(cI (l.length:Int))),(11,(cI t66))],[(oE 3 (wW start goal 1 l.length)),(oV 4 c9 l),.dead,(o1 (.own 11 0 c65.length)),(oW vU noV c64),(o1 (.map 4)),(oV 1 eU32 a36),(oV 1 eU32 [a26]),(o1 (.ptr 0 0 0)),(o1 (.imm (.val (.int .u32 a26)))),.one (i8 63 [40] as61 bo61 .ready none [(4,none),(5,none)] [.ptr 3 0 0,.ptr 5 0 0]),(oV 1 eU32 c65)]⟩) (fun(c64,c65) e st=>e=.exit 0∧Sub ([(oE 3 (wW start goal 1 l.length)),(oV 4 c9 l),(oV 1 eU32 (k6 c56 0 ((c56.length:Int) - 1))),(o1 (.own 2 0 ((k6 c56 0 ((c56.length:Int) - 1)).length))),(oW vU noV c57),(o1 (.map 4)),(oV 1 eU32 a36),(oV 1 eU32 [a26]),(o1 (.ptr 0 0 0)),(o1 (.imm (.val (.int .u32 a26)))),.one (i8 63 [40] as61 bo61 .ready none [(4,none),(5,none)] [.ptr 3 0 0,.ptr 5 0 0])]:b7) st ⟨[],[(oE 3 (wW start goal 1 l.length)),(oV 4 c9 l),.dead,(o1 (.own 11 0 c65.length)),(oW vU noV c64),(o1 (.map 4)),(oV 1 eU32 a36),(oV 1 eU32 [a26]),(o1 (.ptr 0 0 0)),(o1 (.imm (.val (.int .u32 a26)))),.one (i8 63 [40] as61 bo61 .ready none [(4,none),(5,none)] [.ptr 3 0 0,.ptr 5 0 0]),(oV 1 eU32 c65)]⟩) ?_ ?_ ?_ ?_
    ·try dsimp only
     exact Sub.env ⟨Z,Z,Z,Z,Z,Y⟩
    ·intro t66 s hlot66 hltt66 _
     obtain⟨c64,c65⟩:=s
     try dsimp only
     refine AWP.q (.u (.J Z Z Z (.nil (b6 (.q (.ae Z hltt66 (.exit (f5 (f5 ⟨Z,?_⟩)))))))))
     exact Sub.env Y
    ·intro t66 s o hlot66 hltt66 h
     obtain⟨c64,c65⟩:=s
     unfold H1 at h
     try dsimp only at h ⊢
     refine AWP.q (.u (.J Z Z Z (.nil (b6 (.q (.af Z hltt66 (.skip (b6 (.q (.F (.q ?_)))))))))))
     obtain⟨ai14,hai14,h⟩:=b9 h
     refine AWP.u (.j Z Z (S.idxO hai14 Z Z Z Z Z (S.loadOAgg hai14 Z Z Z Z Z Z Z (W.alloc Z Z Z Z (.v Z Z (W.storeAgg Z Z Z Z Z Z Z (.nil (b6 (.q ?_)))))))))
     rcases bft (decide (Go.bits .and .u32 a26 ai14.pre=ai14.pre)) with hb67|hb67
     ·replace h:=N0 hb67 h
      refine AWP.u (.B Z Z Z Z Z Z (W.fieldAddr Z Z Z Z (.B Z Z Z Z Z Z (.bits Z Z Z (by simp) (W.fieldAddr Z Z Z Z (.B Z Z Z Z Z Z (.eql Z Z Z (.j Z Z (.z Z Z Z hb67 (.j Z Z (.z Z Z Z hb67 (.j Z Z (.z Z Z Z hb67 (W.fieldAddr Z Z Z Z (.z Z Z Z hb67 (.B Z Z Z Z Z Z (.z Z Z Z hb67 (.B Z Z Z Z Z Z (.z Z Z Z hb67 (W.fieldAddr Z Z Z Z (.z Z Z Z hb67 (.B Z Z Z Z Z Z (.z Z Z Z hb67 (.bits Z Z Z (by simp) (.z Z Z Z hb67 (W.fieldAddr Z Z Z Z (.z Z Z Z hb67 (.B Z Z Z Z Z Z (.z Z Z Z hb67 (.bits Z Z Z (by simp) (.z Z Z Z hb67 (W.build Z Z Z Z ?_))))))))))))))))))))))))))))))))
      refine AOps.z Z Z Z hb67 ?_;refine AOps.yieldB (E1:=[(8,(cP 13 0 0)),(40,.agg [int t66,int ai14.cost,.imm (.val (.int .u32 (Go.bits .or .u32 (Go.bits .andNot .u32 a26 ai14.del) ai14.add)))]),(4,(cP 3 0 0)),(5,(cP 5 0 0))]) (σ1:=[(oE 3 (wW start goal 1 l.length)),(oV 4 c9 l),.dead,(o1 (.own 11 0 c65.length)),(oW vU noV c64),(o1 (.map 4)),(oV 1 eU32 a36),(oV 1 eU32 [a26]),(o1 (.ptr 0 0 0)),(o1 (.imm (.val (.int .u32 a26)))),.one (i8 63 [40] as61 bo61 .ready none [(4,none),(5,none)] [.ptr 3 0 0,.ptr 5 0 0]),(oV 1 eU32 c65),(oE 4 [.imm (.val (.int .u32 ai14.pre)),.imm (.val (.int .u32 ai14.add)),.imm (.val (.int .u32 ai14.del)),int ai14.cost]),(oE 3 [int t66,int ai14.cost,.imm (.val (.int .u32 (Go.bits .or .u32 (Go.bits .andNot .u32 a26 ai14.del) ai14.add)))])]) hA61 hB61 Z Z Z Z Z Z Z Z Z Z ?_ ?_
      ·refine AWP.u (W.alloc Z Z Z Z (W.storeAgg Z Z Z Z Z Z Z (.nil ?_)))
       exact⟨Z,Z⟩
      refine AWP.sub (s':=⟨[(4,(cP 3 0 0)),(5,(cP 5 0 0)),(8,(cP 13 0 0))],[(oE 3 (wW start goal 1 l.length)),(oV 4 c9 l),.dead,(o1 (.own 11 0 c65.length)),(oW vU noV c64),(o1 (.map 4)),(oV 1 eU32 a36),(oV 1 eU32 [a26]),(o1 (.ptr 0 0 0)),(o1 (.imm (.val (.int .u32 a26)))),.one (i8 63 [40] as61 bo61 .busy none [(4,none),(5,none)] [.ptr 3 0 0,.ptr 5 0 0]),(oV 1 eU32 c65),(oE 4 [.imm (.val (.int .u32 ai14.pre)),.imm (.val (.int .u32 ai14.add)),.imm (.val (.int .u32 ai14.del)),int ai14.cost]),(oE 3 [int t66,int ai14.cost,.imm (.val (.int .u32 (Go.bits .or .u32 (Go.bits .andNot .u32 a26 ai14.del) ai14.add)))])]⟩) (Sub.env ⟨Z,Z,Z,Y⟩) (.F (.q (.u (.B Z Z Z Z Z Z (W.fieldAddr Z Z Z Z (.B Z Z Z Z Z Z (W.lookupOkU (fk:=vU) (k:=Go.bits .or .u32 (Go.bits .andNot .u32 a26 ai14.del) ai14.add) C1 Z Z Z Z Z (.j Z Z (.aa Z Z Z (.aa Z Z Z (W.alloc Z Z Z Z (S.store0 Z Z Z (.v Z Z (.nil (b6 (.q (.u (.j Z Z (.not Z Z (.nil (b6 (.ad Z h (fun hc68 h=> ?_) (fun hc68 h=> ?_)))))))))))))))))))))))
      ·refine AWP.q (.u (.B Z Z Z Z Z Z (W.fieldAddr Z Z Z Z (.B Z Z Z Z Z Z (S.build0 Z Z Z (W.mapUpdateU (fk:=vU) (k:=Go.bits .or .u32 (Go.bits .andNot .u32 a26 ai14.del) ai14.add) C1 Z Z Z Z Z (.nil (b6 ?_))))))))
       obtain⟨ab58,hab58,h⟩:=b9 h
       refine AWP.u (.B Z Z Z Z Z Z (W.fieldAddr Z Z Z Z (.B Z Z Z Z Z Z (S.lit (f:=eU32) (l:=[Go.bits .or .u32 (Go.bits .andNot .u32 a26 ai14.del) ai14.add]) (ess:=[[.imm (.val (.int .u32 (Go.bits .or .u32 (Go.bits .andNot .u32 a26 ai14.del) ai14.add)))]]) Z Z Z Z Z Z Z ⟨⟨.inl Z,Y⟩,Y⟩ Z Z Z (S.append (f:=eU32) hab58 Z Z Z Z Z Z (.own Z Z) Z Z Z Z (W.store Z Z Z Z Z (.nil (f4 (B2 Z Z (.z Z Z Z hb67 (.not Z Z (.U Z hb67 Z Z (.nil (b6 (.j (env':=[(0,.c (.yld 10)),(2,(cP 9 0 0)),(9,.c (.own 1 0 l.length)),(10,(cI (l.length:Int))),(11,(cI t66)),(38,(cB false))]) (σ':=[(oE 3 (wW start goal 1 l.length)),(oV 4 c9 l),.dead,(o1 (.own 11 0 ab58.length)),(oW vU noV (mset c64 (Go.bits .or .u32 (Go.bits .andNot .u32 a26 ai14.del) ai14.add) ())),(o1 (.map 4)),(oV 1 eU32 a36),(oV 1 eU32 [a26]),(o1 (.ptr 0 0 0)),(o1 (.imm (.val (.int .u32 a26)))),.one (i8 63 [40] as61 bo61 .ready none [(4,none),(5,none)] [.ptr 3 0 0,.ptr 5 0 0]),(oV 1 eU32 ab58),(oE 4 [.imm (.val (.int .u32 ai14.pre)),.imm (.val (.int .u32 ai14.add)),.imm (.val (.int .u32 ai14.del)),int ai14.cost]),(oE 3 [int t66,int ai14.cost,.imm (.val (.int .u32 (Go.bits .or .u32 (Go.bits .andNot .u32 a26 ai14.del) ai14.add)))]),(oE 0 []),(oV 1 eU32 [Go.bits .or .u32 (Go.bits .andNot .u32 a26 ai14.del) ai14.add])]) 11 16 Z Z Z ⟨Z,Z,Z,Z,Z,Z,Y⟩ Z ⟨⟨Z,Z⟩,⟨Blk.im_ok _ _ _,g8 Z⟩,Y,⟨Z,Z⟩,⟨Z,Z⟩,⟨Z,Z⟩,⟨Blk.im_ok _ _ _,g8 Z⟩,⟨Blk.im_ok _ _ _,g8 Z⟩,⟨Z,Z⟩,⟨Z,Z⟩,⟨Z,Z⟩,⟨Blk.im_ok _ _ _,g8 Z⟩,⟨Z,Z⟩,⟨Z,Z⟩,⟨Z,Z⟩,⟨Blk.im_ok _ _ _,g8 Z⟩,Y⟩ (.aj Z (.skip (f4 (b6 (.u (.add Z Z Z (by omega) (.j Z Z (.nil ?_)))))))))))))))))))))))
       obtain rfl:=oi h
       refine b6 (Sub.cut ⟨Z,Z,Z,Z,Z,Y⟩ Z ⟨.one Z,.vec,.dead,.one Z,.one Z,.one Z,.vec,.vec,.one Z,.one Z,.one Z,.vec,Y⟩ Z)
      ·refine AWP.skip (f4 (B2 Z Z (.z Z Z Z hb67 (.not Z Z (.U Z hb67 Z Z (.nil (b6 (.aj Z (.skip (f4 (b6 (.u (.add Z Z Z (by omega) (.j Z Z (.nil ?_)))))))))))))))
       obtain rfl:=oi h
       refine b6 (Sub.cut ⟨Z,Z,Z,Z,Z,Y⟩ Z ⟨.one Z,.vec,.dead,.one Z,.one Z,.one Z,.vec,.vec,.one Z,.one Z,.one Z,.vec,Y⟩ Z)
     ·replace h:=L9 hb67 h
      refine AWP.u (.B Z Z Z Z Z Z (W.fieldAddr Z Z Z Z (.B Z Z Z Z Z Z (.bits Z Z Z (by simp) (W.fieldAddr Z Z Z Z (.B Z Z Z Z Z Z (.eql Z Z Z (.j Z Z (.E Z Z Z hb67 (.E Z Z Z hb67 (.E Z Z Z hb67 (.E Z Z Z hb67 (.E Z Z Z hb67 (.E Z Z Z hb67 (.E Z Z Z hb67 (.E Z Z Z hb67 (.E Z Z Z hb67 (.E Z Z Z hb67 (.E Z Z Z hb67 (.E Z Z Z hb67 (.E Z Z Z hb67 (.E Z Z Z hb67 (.ab Z hb67 Z Z (.nil (b6 (.aj Z (.skip (f4 (b6 (.u (.add Z Z Z (by omega) (.j Z Z (.nil ?_)))))))))))))))))))))))))))))))))
      obtain rfl:=oi h
      refine b6 (Sub.cut ⟨Z,Z,Z,Z,Z,Y⟩ Z ⟨.one Z,.vec,.dead,.one Z,.one Z,.one Z,.vec,.vec,.one Z,.one Z,.one Z,.vec,Y⟩ Z)
    ·intro e s hq
     obtain⟨rfl,hs⟩:=hq
     refine⟨_,hs,?_⟩
     refine j7 ?_
     obtain rfl:=oi hr61
     exact⟨⟨[],[(oE 3 (wW start goal 1 l.length)),(oV 4 c9 l),.dead,(o1 (.own 11 0 c65.length)),(oW vU noV c64),(o1 (.map 4)),(oV 1 eU32 a36),(oV 1 eU32 [a26]),(o1 (.ptr 0 0 0)),(o1 (.imm (.val (.int .u32 a26)))),.one (i8 63 [40] as61 bo61 .ready none [(4,none),(5,none)] [.ptr 3 0 0,.ptr 5 0 0]),(oV 1 eU32 c65)]⟩,Sub.env Y,Done.normal Z ⟨Z,Z⟩⟩
   ·rintro tt ss ⟨rfl,rfl⟩
    obtain⟨c62,c63⟩:=xr61
    try dsimp only at h ⊢
    refine O2 Z Z (f4 (b6 (.q (.u (.B Z Z Z Z Z Z (S.lenMap (fk:=vU) (fv:=noV) Z Z Z (.gtr Z Z Z (.nil (b6 (.ac Z h (fun hc69 h=> ?_) (fun hc69 h=> ?_)))))))))))
    ·refine AWP.q (.u (.v Z Z (.v Z Z (.nil (b6 (.virtV 1 eU32 2 Z Z Z (.ret (j8 ?_))))))))
     obtain rfl:=oi h
     refine e8 ⟨_,Z,Z,?_⟩
     exact⟨⟨[(2,.c (.own 12 0 ([].length))),(3,(cB false))],[(oE 3 (wW start goal 1 l.length)),(oV 4 c9 l),.dead,.dead,.dead,.dead,.dead,.dead,.dead,.dead,.dead,.dead,(oV 1 eU32 [])]⟩,Sub.cut ⟨(J3 (by first|rfl|simp only[lS])),Z,Y⟩ Z ⟨.one Z,.vec,.dead,.dead,.dead,.dead,.dead,.dead,.dead,.dead,.dead,.dead,.vec,Y⟩ Z,Done.ret Z ⟨Z,Z⟩⟩
    ·refine AWP.skip (f4 ?_)
     obtain rfl:=oi h
     refine b6 ⟨_,Z,?_⟩
     exact(Sub.move (env':=[(0,.c (.ifc 51 [.ptr 0 0 0] false)),(4,(cP 3 0 0)),(5,(cP 5 0 0)),(6,.c (.own 6 0 a36.length))]) (σ':=[(oE 3 (wW start goal 1 l.length)),(oV 4 c9 l),(oV 1 eU32 c63),(o1 (.own 2 0 c63.length)),(oW vU noV c62),(o1 (.map 4)),(oV 1 eU32 a36),(oV 1 eU32 [a26]),(o1 (.ptr 0 0 0)),(o1 (.imm (.val (.int .u32 a26)))),.dead]) 2 11 Z Z Z ⟨Z,Z,Z,Z,Y⟩ Z ⟨⟨Z,Z⟩,⟨Blk.im_ok _ _ _,g8 Z⟩,⟨Blk.im_ok _ _ _,g8 Z⟩,⟨Z,Z⟩,⟨Z,Z⟩,⟨Z,Z⟩,⟨Blk.im_ok _ _ _,g8 Z⟩,⟨Blk.im_ok _ _ _,g8 Z⟩,⟨Z,Z⟩,⟨Z,Z⟩,Y,Y⟩).trans (Sub.cut ⟨Z,Z,Z,Z,Y⟩ Z ⟨.one Z,.vec,.vec,.one Z,.one Z,.one Z,.vec,Y⟩ Z)
  ·refine AWP.exit (f5 ?_)
   obtain rfl:=oi h
   refine f5 ⟨_,Z,Z,?_⟩
   exact Sub.cut ⟨Z,Y⟩ Z ⟨.one Z,.vec,.dead,.dead,.dead,.dead,.vec,Y⟩ Z
 ·intro e s hq
  rcases oo with c59|x
  ·try dsimp only at h hq
   obtain⟨rfl,hs⟩:=hq
   refine⟨_,hs,?_⟩
   refine j7 (b6 (.q (.u (.j Z Z (.v Z Z (.v Z Z (.nil (b6 (.ret ?_)))))))))
   obtain rfl:=oi h
   exact⟨⟨[(2,.c (.own 12 0 c59.length)),(3,(cB true))],[(oE 3 (wW start goal 1 l.length)),(oV 4 c9 l),.dead,.dead,.dead,.dead,.dead,.dead,.dead,.dead,.dead,.dead,(oV 1 eU32 c59)]⟩,(Sub.move (env':=[(2,.c (.own 12 0 c59.length)),(3,(cB true))]) (σ':=[(oE 3 (wW start goal 1 l.length)),(oV 4 c9 l),.dead,.dead,.dead,.dead,.dead,.dead,.dead,.dead,.dead,.dead,(oV 1 eU32 c59)]) 12 6 Z Z Z ⟨Z,Z,Y⟩ Z ⟨⟨Z,Z⟩,⟨Blk.im_ok _ _ _,g8 Z⟩,Y,Y,Y,Y,Y,Y,Y,Y,Y,Y,⟨Blk.im_ok _ _ _,g8 Z⟩,Y⟩).trans (Sub.env ⟨Z,Z,Y⟩),Done.ret Z ⟨Z,Z⟩⟩
  ·try dsimp only at h hq
   obtain⟨rfl,hs⟩:=hq
   refine⟨_,Sub.refl _ _,?_⟩
   refine j8 (e8 ?_)
   obtain rfl:=oi h
   exact hs
theorem M0{t:d6}{r:(Int×Int)⊕(Int×Int×(List i7)×Li)}(h:x6 t=some r):FnOk prog 15 [.agg (tT t)] (aq8 t) (fun tt ss=>(∃v:Int×Int,r=.inl v∧tt=.tup [.c (.imm (.val (.pointer none))),.c (row 1 eU32 []),.agg [int v.1,int v.2]]∧ss=[.dead,(oE 2 [int v.1,int v.2])])∨(∃v:Int×Int×(List i7)×Li,r=.inr v∧tt=.tup [(cP 4 0 0),.c (row 1 eU32 v.2.2.2),.agg [int 0,int 0]]∧ss=[.dead,(oE 2 [int 0,int 0]),.dead,.dead,(oE 3 [.imm (.val (.int .u32 v.1)),.imm (.val (.int .u32 v.2.1)),.own 5 0 v.2.2.1.length]),(oV 4 c9 v.2.2.1)])):=by
 refine FnOk.enter (rs:=[.t 2,.t 3,.cell 4 27 2]) func15 Z ntmps15 results15 Z ⟨Y,Y,rv _ Z,Y⟩ (by kernel_rfl) Z ?_
 refine AWP.weak ?_
 unfold x6 at h
 refine AWP.q (.u (W.box Z Z Z Z Z Z (.v Z Z (.v Z Z (W.alloc Z Z Z Z (.nil (b6 (.q (.q ?_)))))))))
 obtain⟨a10,ha10,h⟩:=b9 h
 refine AWP.u (W.loadAgg Z Z Z Z Z Z Z (.O Z Z Z Z (G1 ha10) Z (W.alloc Z Z Z Z (W.storeAgg Z Z Z Z Z Z Z (.nil (b6 (.q (.u (W.loadAgg Z Z Z Z Z Z Z (W.build Z Z Z Z (.neqP Z Z Z Z Z Z Z (.nil (b6 (.ad Z h (fun hc58 h=> ?_) (fun hc58 h=> ?_)))))))))))))))
 ·refine AWP.q (.drawEI [3] mixed Z Z Z ?_)
  refine d3.consN Z Z (fun E=>W.loadAgg Z Z Z Z Z Z Z .N) Z (.consN Z Z (fun E=>.v Z Z .N) Z (.consN Z Z (fun E=>.v Z Z .N) Z ?_))
  apply d3.consE (v:=.undef);exact Z;exact Z;intro E
  refine W.storeAgg Z Z Z Z Z Z Z .N
  exact Z
  exact Z
  refine d3.done Z ?_ ?_
  ·refine f7.cons Z Z (.go Z Z (fun E=>W.loadAgg Z Z Z Z Z Z Z .N) (.skip Z .nil)) (.cons Z Z (.go Z Z (fun E=>.v Z Z .N) (.skip Z .nil)) (.cons Z Z (.go Z Z (fun E=>.v Z Z .N) (.skip Z .nil)) ?_))
   refine f7.skip Z (f7.nil)
  dsimp only[j9]
  refine b6 (.nilrow 1 3 Z (.ret (e8 ?_)))
  obtain rfl:=oi h
  exact⟨⟨[(2,.c (.imm (.val (.pointer none)))),(3,.c (row 1 eU32 [])),(4,(cP 1 0 0))],[.dead,(oE 2 [int a10.code,int a10.index])]⟩,Sub.cut ⟨Z,Z,Z,Y⟩ Z ⟨.dead,.one Z,Y⟩ Z,Done.ret Z (.inl ⟨_,Z,Z,Z⟩)⟩
 ·refine AWP.skip (b6 (.q ?_))
  obtain⟨a16,ha16,h⟩:=b9 h
  refine AWP.u (W.loadAgg Z Z Z Z Z Z Z (.callF (r2:=(cP 4 0 0)) (σ'':=[(oE 4 (tT t)),(oE 2 [int 0,int 0]),(oE 2 [int a10.code,int a10.index]),.dead,(oE 3 [.imm (.val (.int .u32 a16.1)),.imm (.val (.int .u32 a16.2.1)),.own 5 0 a16.2.2.length]),(oV 4 c9 a16.2.2)]) Z Z Z (FnOk.lend [] (space_Of_w_ok ha16) Z Z Z Z Z Z (by exact Y) Z (by exact Y) Z Z (by exact⟨(.old Z Z Z),(.old Z Z Z),(.old Z Z Z),.dead,(.new 1 Z Z (.one Z)),(.new 2 Z Z .vec),Y⟩)) (.v Z Z (.nil (b6 (.q ?_))))))
  obtain⟨a20,ha20,h⟩:=b9 h
  refine AWP.u (.j Z Z (S.mkIfc Z Z Z (.callF (r2:=.tup [.c (.own 16 0 a20.1.length),(cB a20.2)]) (σ'':=[(oE 4 (tT t)),(oE 2 [int 0,int 0]),(oE 2 [int a10.code,int a10.index]),.dead,(oE 3 [.imm (.val (.int .u32 a16.1)),.imm (.val (.int .u32 a16.2.1)),.own 5 0 a16.2.2.length]),(oV 4 c9 a16.2.2),.dead,.dead,.dead,.dead,.dead,.dead,.dead,.dead,.dead,.dead,(oV 1 eU32 a20.1)]) Z Z Z (FnOk.lend [4,5] (an2 ha20) Z Z Z Z Z Z (by exact⟨(.one Z),.vec,Y⟩) Z (by exact⟨(.live Z (.one Z)),(.live Z .vec),Y⟩) Z Z (by exact⟨(.old Z Z Z),(.old Z Z Z),(.old Z Z Z),.dead,(.new 0 Z Z (.one Z)),(.new 1 Z Z .vec),.dead,.dead,.dead,.dead,.dead,.dead,.dead,.dead,.dead,.dead,(.new 12 Z Z .vec),Y⟩)) (.j Z Z (.aa Z Z Z (.aa Z Z Z (.v Z Z (.v Z Z (.nil (b6 (.q (.q (.u (.j Z Z (.not Z Z (.nil (b6 (.ad Z h (fun hc59 h=> ?_) (fun hc59 h=> ?_)))))))))))))))))))
  ·refine AWP.q (.u (W.build Z Z Z Z (.v Z Z (.v Z Z (W.storeAgg Z Z Z Z Z Z Z (.nil (b6 (.nilrow 1 3 Z (.ret (e8 ?_))))))))))
   obtain rfl:=oi h
   exact⟨⟨[(2,.c (.imm (.val (.pointer none)))),(3,.c (row 1 eU32 [])),(4,(cP 1 0 0))],[.dead,(oE 2 [int 10,int (-7)])]⟩,Sub.cut ⟨Z,Z,Z,Y⟩ Z ⟨.dead,.one Z,Y⟩ Z,Done.ret Z (.inl ⟨_,Z,Z,Z⟩)⟩
  ·refine AWP.skip (b6 (.q ?_))
   obtain⟨a27,ha27,h⟩:=b9 h
   refine AWP.u (.j Z Z (S.sortFU ha27 (fun hy=>ar1 hy) sortF_Lu32_ok (⟨_,func37,Z,Z⟩) Z Z Z Z Z Z ?_))
   refine AOps.nil (b6 (.q (.u (.j Z Z (.j Z Z (W.build Z Z Z Z (.v Z Z (.v Z Z (W.storeAgg Z Z Z Z Z Z Z (.nil (b6 (.frzV (id:=16) (l:=a27) (env2:=[(2,(cP 4 0 0)),(3,.c (row 1 eU32 a27)),(4,(cP 1 0 0))]) (σ2:=[(oE 4 (tT t)),(oE 2 [int 0,int 0]),(oE 2 [int a10.code,int a10.index]),.dead,(oE 3 [.imm (.val (.int .u32 a16.1)),.imm (.val (.int .u32 a16.2.1)),.own 5 0 a16.2.2.length]),(oV 4 c9 a16.2.2),.dead,.dead,.dead,.dead,.dead,.dead,.dead,.dead,.dead,.dead,.dead]) Z Z (by exact⟨⟨_,Z,.inl ⟨Z,Z⟩⟩,⟨_,Z,.inr ⟨_,Z,(sortFU_len ha27),Z⟩⟩,⟨_,Z,.inl ⟨Z,Z⟩⟩,Y⟩) Z (by exact⟨⟨Z,.inl ⟨Z,Z⟩,.inl ⟨Z,Z⟩,.inl ⟨Z,Z⟩,.inl ⟨Z,Z⟩,Y⟩,⟨Z,.inl ⟨Z,Z⟩,.inl ⟨Z,Z⟩,Y⟩,⟨Z,.inl ⟨Z,Z⟩,.inl ⟨Z,Z⟩,Y⟩,Y,⟨Z,.inl ⟨Z,Z⟩,.inl ⟨Z,Z⟩,.inl ⟨Z,Z⟩,Y⟩,FrzB.vec,Y,Y,Y,Y,Y,Y,Y,Y,Y,Y,Y,Y⟩) (.ret ?_)))))))))))))
   obtain rfl:=oi h
   exact⟨⟨[(2,(cP 4 0 0)),(3,.c (row 1 eU32 a27)),(4,(cP 1 0 0))],[.dead,(oE 2 [int 0,int 0]),.dead,.dead,(oE 3 [.imm (.val (.int .u32 a16.1)),.imm (.val (.int .u32 a16.2.1)),.own 5 0 a16.2.2.length]),(oV 4 c9 a16.2.2)]⟩,Sub.cut ⟨Z,Z,Z,Y⟩ Z ⟨.dead,.one Z,.dead,.dead,.one Z,.vec,Y⟩ Z,Done.ret Z (.inr ⟨_,Z,Z,Z⟩)⟩
theorem Y9{sv:Int}{start:Int}{goal:Int}{l:List i7}{r:Unit}(h:G5 sv start goal l=some r):FnOk prog 18 [(cP 0 0 0),.c (.imm (.val (.int .u32 sv)))] (an0 sv start goal l) (fun tt ss=>tt=(cB (decide (Go.bits .and .u32 sv goal=goal)))∧ss=[(oE 3 (wW start goal 1 l.length)),(oV 4 c9 l)]):=by
 refine FnOk.enter (rs:=[.t 4]) func18 Z ntmps18 results18 Z ⟨Y,Y⟩ (by kernel_rfl) Z ?_
 refine AWP.weak ?_
 unfold G5 at h
 refine AWP.q (.u (.v Z Z (.nil (b6 (.q (.drawI mixed Z ?_))))))
 refine k9.consF Z (fun E=>.j Z Z .N) Z (.consF Z (fun E=>.j Z Z .N) Z (.consF Z (fun E=>.ah Z Z Z .N) Z (.consF Z (fun E=>W.fieldAddr Z Z Z Z .N) Z (.consF Z (fun E=>.B Z Z Z Z Z Z .N) Z (.consF Z (fun E=>.bits Z Z Z (by simp) .N) Z (.consF Z (fun E=>.j Z Z .N) Z (.consF Z (fun E=>.ah Z Z Z .N) Z (.consF Z (fun E=>W.fieldAddr Z Z Z Z .N) Z (.consF Z (fun E=>.B Z Z Z Z Z Z .N) Z (.consF Z (fun E=>.eql Z Z Z .N) Z (.consF Z (fun E=>.v Z Z .N) Z ?_)))))))))))
 refine k9.done ?_
 dsimp only[j9]
 refine b6 (.ret ?_)
 obtain rfl:=oi h
 exact⟨⟨[(4,(cB (decide (Go.bits .and .u32 sv goal=goal))))],[(oE 3 (wW start goal 1 l.length)),(oV 4 c9 l)]⟩,Sub.env ⟨Z,Y⟩,Done.ret Z ⟨Z,Z⟩⟩
theorem al5{start:Int}{sv:Int}{l:List (Int×d4)}{r:Li}(h:K1 start sv l=some r):FnOk prog 40 [.c (.map 0),.c (.imm (.val (.int .u32 start))),.c (.imm (.val (.int .u32 sv)))] (V6 start sv l) (fun tt ss=>tt=(cR r)∧ss=[(oW vU (valA (fun(z0:d4)=>([.int .u32 z0.fFrom,.int .i64 z0.op]:List Vl))) l)]):=by
 refine FnOk.enter (rs:=[.t 6]) func40 Z ntmps40 results40 Z ⟨Y,Y⟩ (by kernel_rfl) Z ?_
 refine AWP.weak ?_
 unfold K1 at h
 refine AWP.q (.u (.v Z Z (.nil (b6 (.q (.u (.v Z Z (.nil (b6 (.q (.F (.virtV 1 intI 7 Z Z Z ?_))))))))))))
 obtain⟨c57,ho1,h⟩:=b9 h
 refine AWP.loopS ho1 (fun(c55,sv56)=>⟨[(0,.c (.map 0)),(1,.c (.imm (.val (.int .u32 start)))),(2,.c (.imm (.val (.int .u32 sv56)))),(7,.c (.own 1 0 c55.length))],[(oW vU (valA (fun(z0:d4)=>([.int .u32 z0.fFrom,.int .i64 z0.op]:List Vl))) l),(oV 1 intI c55)]⟩) (fun c57 e st=>e=.exit 0∧Sub (V6 start sv l) st ⟨[(7,.c (.own 1 0 c57.length))],[(oW vU (valA (fun(z0:d4)=>([.int .u32 z0.fFrom,.int .i64 z0.op]:List Vl))) l),(oV 1 intI c57)]⟩) ?_ ?_ ?_
 ·try dsimp only
  exact Sub.env ⟨Z,Z,Z,(J3 (by first|rfl|simp only[lS])),Y⟩
 ·intro s o h
  obtain⟨c55,sv56⟩:=s
  unfold s5 at h
  try dsimp only at h ⊢
  refine AWP.q (.q (.u (.j Z Z (.j Z Z (.neq Z Z Z (.nil (b6 (.iteN Z h (fun hc58 h=> ?_) (fun hc58 h=> ?_)))))))))
  ·refine AWP.skip (b6 (.F (.q (.u (.j Z Z (.j Z Z ?_))))))
   refine W.lookupA (fk:=vU) (gv:=(fun(z0:d4)=>([.int .u32 z0.fFrom,.int .i64 z0.op]:List Vl))) (k:=sv56) (z:=(⟨0,0⟩:d4)) C1 Z (fun _ _ h=>by simp only[List.mem_cons,List.not_mem_nil,or_false] at h;rcases h with rfl|rfl<;>rfl) Z Z Z Z ?_
   refine W.alloc Z Z Z Z (W.storeAgg Z Z Z Z Z Z Z (.nil (b6 (.q ?_))))
   obtain⟨a19,ha19,h⟩:=b9 h
   refine AWP.u (.j Z Z (W.fieldAddr Z Z Z Z (.B Z Z Z Z Z Z (S.lit (f:=intI) (l:=[(Option.getD (mget l sv56) (⟨0,0⟩:d4)).op]) (ess:=[[int ((Option.getD (mget l sv56) (⟨0,0⟩:d4)).op)]]) Z Z Z Z Z Z Z ⟨⟨.inl Z,Y⟩,Y⟩ Z Z Z (S.append (f:=intI) ha19 Z Z Z Z Z Z (.own Z Z) Z Z Z Z (.v Z Z (.nil (b6 (.j (env':=[(0,.c (.map 0)),(1,.c (.imm (.val (.int .u32 start)))),(7,.c (.own 1 0 a19.length)),(8,(cP 2 0 0))]) (σ':=[(oW vU (valA (fun(z0:d4)=>([.int .u32 z0.fFrom,.int .i64 z0.op]:List Vl))) l),(oV 1 intI a19),(oE 2 [.imm (.val (.int .u32 ((Option.getD (mget l sv56) (⟨0,0⟩:d4)).fFrom))),int ((Option.getD (mget l sv56) (⟨0,0⟩:d4)).op)]),(oV 1 intI [(Option.getD (mget l sv56) (⟨0,0⟩:d4)).op])]) 1 4 Z Z Z ⟨Z,Z,Z,Z,Y⟩ Z ⟨⟨Z,Z⟩,⟨Blk.im_ok _ _ _,g8 Z⟩,⟨Z,Z⟩,⟨Blk.im_ok _ _ _,g8 Z⟩,Y⟩ ?_)))))))))
   refine AWP.u (W.fieldAddr Z Z Z Z (.B Z Z Z Z Z Z (.v Z Z (.nil (f4 ?_)))))
   obtain rfl:=oi h
   refine b6 ⟨_,Z,?_⟩
   exact Sub.cut ⟨Z,Z,Z,Z,Y⟩ Z ⟨.one Z,.vec,Y⟩ Z
  ·refine AWP.exit (f5 ?_)
   obtain rfl:=oi h
   refine f5 ⟨_,Z,Z,?_⟩
   exact Sub.env ⟨Z,Y⟩
 ·intro e s hq
  obtain⟨rfl,hs⟩:=hq
  refine⟨_,hs,?_⟩
  refine j7 (b6 (.q (.u (.j Z Z (S.rev revL_ok Z Z Z Z Z Z (.nil (b6 (.q (.u (.j Z Z (.v Z Z (.nil (b6 (.frzV (id:=1) (l:=c57.reverse) (env2:=[(6,(cR c57.reverse))]) (σ2:=[(oW vU (valA (fun(z0:d4)=>([.int .u32 z0.fFrom,.int .i64 z0.op]:List Vl))) l),.dead]) Z Z (by exact⟨⟨_,Z,.inr ⟨_,Z,List.length_reverse.symm,Z⟩⟩,Y⟩) Z (by exact⟨⟨Z,Z⟩,Y,Y⟩) (.ret ?_)))))))))))))))
  obtain rfl:=oi h
  exact⟨⟨[(6,(cR c57.reverse))],[(oW vU (valA (fun(z0:d4)=>([.int .u32 z0.fFrom,.int .i64 z0.op]:List Vl))) l)]⟩,Sub.cut ⟨Z,Y⟩ Z ⟨.one Z,Y⟩ Z,Done.ret Z ⟨Z,Z⟩⟩
theorem af6{start:Int}{goal:Int}{l:List i7}{r:Li×Bool}(h:A4 start goal l=some r):FnOk prog 17 [.c (.ifc 51 [.ptr 0 0 0] false),.c (.fnb 18 [.ptr 0 0 0])] (H6 start goal l) (fun tt ss=>tt=.tup [(cR r.1),(cB r.2)]∧ss=[(oE 3 (wW start goal 1 l.length)),(oV 4 c9 l)]):=by
 refine FnOk.enter (rs:=[.t 4,.t 5]) func17 Z ntmps17 results17 Z ⟨Y,Y,Y⟩ (by kernel_rfl) Z ?_
 refine AWP.weak ?_
 unfold A4 at h
 refine AWP.q (.u (.v Z Z (.v Z Z (.nil (b6 (.q ?_))))))
 obtain⟨a14,ha14,h⟩:=b9 h
 refine AWP.u (.j Z Z (S.invokeP (r2:=.c (.imm (.val (.int .u32 start)))) (σ'':=[(oE 3 (wW start goal 1 l.length)),(oV 4 c9 l)]) Z Z Z (FnOk.lend [0,1] (F8 ha14) Z Z Z Z Z Z (by exact⟨(.one Z),.vec,Y⟩) Z (by exact⟨(.live Z (.one Z)),(.live Z .vec),Y⟩) Z Z (by exact⟨(.new 0 Z Z (.one Z)),(.new 1 Z Z .vec),Y⟩)) (.v Z Z (.nil (b6 (.q (.u (W.makeMap vU (valA (fun(z0:d4)=>([.int .u32 z0.fFrom,.int .i64 z0.op]:List Vl))) Z Z Z ?_))))))))
 refine AOps.j Z Z (.j Z Z (W.build Z Z Z Z (W.insertA (fk:=vU) (gv:=(fun(z0:d4)=>([.int .u32 z0.fFrom,.int .i64 z0.op]:List Vl))) (k:=start) (a:=(⟨start,0⟩:d4)) C1 Z Z Z Z Z ?_)))
 refine AOps.j Z Z (W.alloc Z Z Z Z (W.store Z Z Z Z Z (.nil (b6 (.q (.u (.j Z Z (S.lit (f:=eU32) (l:=[start]) (ess:=[[.imm (.val (.int .u32 start))]]) Z Z Z Z Z Z Z ⟨⟨.inl Z,Y⟩,Y⟩ Z Z Z (W.alloc Z Z Z Z (W.store Z Z Z Z Z (.nil (b6 (.q (.F ?_))))))))))))))
 obtain⟨oo,ho1,h⟩:=b9 h
 refine AWP.loopS ho1 (fun(c56,c57)=>⟨[(0,.c (.ifc 51 [.ptr 0 0 0] false)),(1,.c (.fnb 18 [.ptr 0 0 0])),(6,.c (.imm (.val (.int .u32 start)))),(7,(cP 3 0 0)),(8,(cP 5 0 0))],[(oE 3 (wW start goal 1 l.length)),(oV 4 c9 l),(oW vU (valA (fun(z0:d4)=>([.int .u32 z0.fFrom,.int .i64 z0.op]:List Vl))) c56),(o1 (.map 2)),(oV 1 eU32 c57),(o1 (.own 4 0 c57.length))]⟩) (fun o e st=>match o with| .inl _=>e=.exit 0∧Sub (H6 start goal l) st ⟨[],[(oE 3 (wW start goal 1 l.length)),(oV 4 c9 l)]⟩| .inr x=>e=.ret∧∃J,Sub (H6 start goal l) st J∧Done [.t 4,.t 5] (fun tt ss=>tt=.tup [(cR x.1),(cB x.2)]∧ss=[(oE 3 (wW start goal 1 l.length)),(oV 4 c9 l)]) .ret J) ?_ ?_ ?_
 ·try dsimp only
  exact Sub.env ⟨Z,Z,Z,Z,Z,Y⟩
 ·intro s o h
  obtain⟨c56,c57⟩:=s
  unfold B6 at h
  try dsimp only at h ⊢
  refine AWP.q (.q (.u (.B Z Z Z Z Z Z (S.lenO Z Z Z (fun hl23=>.gtr Z Z Z (.nil (b6 (.ac Z h (fun hc58 h=> ?_) (fun hc58 h=> ?_)))))))))
  ·refine AWP.skip (b6 (.F (.q ?_)))
   obtain⟨a26,ha26,h⟩:=b9 h
   refine AWP.u (.B Z Z Z Z Z Z (S.idxO ha26 Z Z Z Z Z (S.loadO ha26 Z Z Z Z Z (W.alloc Z Z Z Z (W.store Z Z Z Z Z (.nil (b6 (.q ?_))))))))
   obtain⟨u29,hu29,h⟩:=b9 h
   refine AWP.u (.B Z Z Z Z Z Z (S.vFrom (L5 c57) hu29 Z Z Z Z Z Z (.sub (Sub.reown (env':=[(0,.c (.ifc 51 [.ptr 0 0 0] false)),(1,.c (.fnb 18 [.ptr 0 0 0])),(6,.c (.imm (.val (.int .u32 start)))),(7,(cP 3 0 0)),(8,(cP 5 0 0)),(9,(cP 6 0 0)),(23,(cI (c57.length:Int))),(24,(cB (decide (0<(c57.length:Int))))),(27,.c (.imm (.val (.int .u32 a26)))),(29,.c (.own 7 0 ((k6 c57 (0+1) ((c57.length:Int) - 1)).length)))]) 29 (vw_cut (L5 c57) hu29) Z Z Z Z Z Z Z Z (by exact⟨.inr Z,.inr Z,.inr Z,.inr Z,.inr Z,.inr Z,.inr Z,.inr Z,.inr Z,.inl ⟨Z,Z⟩,Y⟩)) (W.store Z Z Z Z Z (.nil (b6 (.q (.q (.j (env':=[(0,.c (.ifc 51 [.ptr 0 0 0] false)),(1,.c (.fnb 18 [.ptr 0 0 0])),(6,.c (.imm (.val (.int .u32 start)))),(7,(cP 3 0 0)),(8,(cP 5 0 0)),(9,(cP 6 0 0))]) (σ':=[(oE 3 (wW start goal 1 l.length)),(oV 4 c9 l),(oW vU (valA (fun(z0:d4)=>([.int .u32 z0.fFrom,.int .i64 z0.op]:List Vl))) c56),(o1 (.map 2)),(oV 1 eU32 (k6 c57 (0+1) ((c57.length:Int) - 1))),(o1 (.own 4 0 ((k6 c57 (0+1) ((c57.length:Int) - 1)).length))),(o1 (.imm (.val (.int .u32 a26))))]) 4 7 Z Z Z ⟨Z,Z,Z,Z,Z,Z,Y⟩ Z ⟨⟨Z,Z⟩,⟨Blk.im_ok _ _ _,g8 Z⟩,⟨Z,Z⟩,⟨Z,Z⟩,⟨Blk.im_ok _ _ _,g8 Z⟩,⟨Z,Z⟩,⟨Z,Z⟩,Y⟩ ?_)))))))))
   obtain⟨a32,ha32,h⟩:=b9 h
   refine AWP.u (.j Z Z (.B Z Z Z Z Z Z (.callFB (r2:=(cB (decide (Go.bits .and .u32 a26 goal=goal)))) (σ'':=[(oE 3 (wW start goal 1 l.length)),(oV 4 c9 l),(oW vU (valA (fun(z0:d4)=>([.int .u32 z0.fFrom,.int .i64 z0.op]:List Vl))) c56),(o1 (.map 2)),(oV 1 eU32 (k6 c57 (0+1) ((c57.length:Int) - 1))),(o1 (.own 4 0 ((k6 c57 (0+1) ((c57.length:Int) - 1)).length))),(o1 (.imm (.val (.int .u32 a26))))]) Z Z Z (FnOk.lend [0,1] (Y9 ha32) Z Z Z Z Z Z (by exact⟨(.one Z),.vec,Y⟩) Z (by exact⟨(.live Z (.one Z)),(.live Z .vec),Y⟩) Z Z (by exact⟨(.new 0 Z Z (.one Z)),(.new 1 Z Z .vec),(.old Z Z Z),(.old Z Z Z),(.old Z Z Z),(.old Z Z Z),(.old Z Z Z),Y⟩)) (.nil (b6 (.ac Z h (fun hc59 h=> ?_) (fun hc59 h=> ?_)))))))
   ·refine AWP.q ?_
    obtain⟨a36,ha36,h⟩:=b9 h
    refine AWP.u (.B Z Z Z Z Z Z (.j Z Z (.B Z Z Z Z Z Z (.callF (r2:=(cR a36)) (σ'':=[(oE 3 (wW start goal 1 l.length)),(oV 4 c9 l),(oW vU (valA (fun(z0:d4)=>([.int .u32 z0.fFrom,.int .i64 z0.op]:List Vl))) c56),(o1 (.map 2)),(oV 1 eU32 (k6 c57 (0+1) ((c57.length:Int) - 1))),(o1 (.own 4 0 ((k6 c57 (0+1) ((c57.length:Int) - 1)).length))),(o1 (.imm (.val (.int .u32 a26))))]) Z Z Z (FnOk.lend [2] (al5 ha36) Z Z Z Z Z Z (by exact⟨(.one Z),Y⟩) Z (by exact⟨(.live Z (.one Z)),Y⟩) Z Z (by exact⟨(.old Z Z Z),(.old Z Z Z),(.new 0 Z Z (.one Z)),(.old Z Z Z),(.old Z Z Z),(.old Z Z Z),(.old Z Z Z),Y⟩)) (.v Z Z (.v Z Z (.nil (b6 (.ret (e8 (j8 ?_)))))))))))
    obtain rfl:=oi h
    refine e8 ⟨_,Z,Z,?_⟩
    exact⟨⟨[(4,(cR a36)),(5,(cB true))],[(oE 3 (wW start goal 1 l.length)),(oV 4 c9 l)]⟩,Sub.cut ⟨Z,Z,Y⟩ Z ⟨.one Z,.vec,Y⟩ Z,Done.ret Z ⟨Z,Z⟩⟩
   ·refine AWP.skip (b6 (.q ?_))
    obtain⟨a39,ha39,h⟩:=b9 h
    refine AWP.u (.j Z Z (.B Z Z Z Z Z Z (S.invokeP (r2:=.c (.fn 109 [.ptr 7 0 0,.ptr 8 0 0])) (σ'':=[(oE 3 (wW start goal 1 l.length)),(oV 4 c9 l),(oW vU (valA (fun(z0:d4)=>([.int .u32 z0.fFrom,.int .i64 z0.op]:List Vl))) c56),(o1 (.map 2)),(oV 1 eU32 (k6 c57 (0+1) ((c57.length:Int) - 1))),(o1 (.own 4 0 ((k6 c57 (0+1) ((c57.length:Int) - 1)).length))),(o1 (.imm (.val (.int .u32 a26)))),(o1 (.ptr 0 0 0)),(o1 (.imm (.val (.int .u32 a26))))]) Z Z Z (FnOk.lend [0,1] (N2 ha39) Z Z Z Z Z Z (by exact⟨(.one Z),.vec,Y⟩) Z (by exact⟨(.live Z (.one Z)),(.live Z .vec),Y⟩) Z Z (by exact⟨(.new 0 Z Z (.one Z)),(.new 1 Z Z .vec),(.old Z Z Z),(.old Z Z Z),(.old Z Z Z),(.old Z Z Z),(.old Z Z Z),(.new 2 Z Z (.one Z)),(.new 3 Z Z (.one Z)),Y⟩)) (.nil (b6 (.F ?_))))))
    obtain⟨xr60,hr60,h⟩:=b9 h
    refine AWP.rangeB [(7,none),(8,none),(9,none)] Z Z Z (fun as60 bo60 hA60 hB60=>⟨[(oE 3 (wW start goal 1 l.length)),(oV 4 c9 l),(oW vU (valA (fun(z0:d4)=>([.int .u32 z0.fFrom,.int .i64 z0.op]:List Vl))) c56),(o1 (.map 2)),(oV 1 eU32 (k6 c57 (0+1) ((c57.length:Int) - 1))),(o1 (.own 4 0 ((k6 c57 (0+1) ((c57.length:Int) - 1)).length))),(o1 (.imm (.val (.int .u32 a26)))),(o1 (.ptr 0 0 0)),(o1 (.imm (.val (.int .u32 a26)))),.one (i8 62 [40] as60 bo60 .ready none [(7,none),(8,none),(9,none)] [.ptr 3 0 0,.ptr 5 0 0,.ptr 6 0 0])],fun tt ss=>tt=.tup []∧ss=[(oE 3 (wW start goal 1 l.length)),(oV 4 c9 l),(oW vU (valA (fun(z0:d4)=>([.int .u32 z0.fFrom,.int .i64 z0.op]:List Vl))) xr60.1),(o1 (.map 2)),.dead,(o1 (.own 10 0 xr60.2.length)),(o1 (.imm (.val (.int .u32 a26)))),(o1 (.ptr 0 0 0)),(o1 (.imm (.val (.int .u32 a26)))),.one (i8 62 [40] as60 bo60 .ready none [(7,none),(8,none),(9,none)] [.ptr 3 0 0,.ptr 5 0 0,.ptr 6 0 0]),(oV 1 eU32 xr60.2)],Z,?_,?_⟩)
    ·refine FnOk.enter (rs:=[]) func109 Z ntmps109 results109 Z Y (by kernel_rfl) Z ?_
     refine AWP.weak ?_
     unfold B7 at hr60
     try dsimp only at hr60
     refine AWP.j (env':=[(0,.c (.yld 9)),(1,(cP 7 0 0)),(2,(cP 8 0 0))]) (σ':=[(oE 3 (wW start goal 1 l.length)),(oV 4 c9 l),(oW vU (valA (fun(z0:d4)=>([.int .u32 z0.fFrom,.int .i64 z0.op]:List Vl))) c56),(o1 (.map 2)),.dead,(o1 (.own 10 0 ((k6 c57 (0+1) ((c57.length:Int) - 1)).length))),(o1 (.imm (.val (.int .u32 a26)))),(o1 (.ptr 0 0 0)),(o1 (.imm (.val (.int .u32 a26)))),.one (i8 62 [40] as60 bo60 .ready none [(7,none),(8,none),(9,none)] [.ptr 3 0 0,.ptr 5 0 0,.ptr 6 0 0]),(oV 1 eU32 (k6 c57 (0+1) ((c57.length:Int) - 1)))]) 10 4 Z Z Z ⟨Z,Z,Z,Y⟩ Z ⟨⟨Z,Z⟩,⟨Blk.im_ok _ _ _,g8 Z⟩,⟨Z,Z⟩,⟨Z,Z⟩,Y,⟨Z,Z⟩,⟨Z,Z⟩,⟨Z,Z⟩,⟨Z,Z⟩,⟨Z,Z⟩,⟨Blk.im_ok _ _ _,g8 Z⟩,Y⟩ ?_
     refine AWP.q (.u (.B Z Z Z Z Z Z (.ah Z Z Z (W.fieldAddr Z Z Z Z (.B Z Z Z Z Z Z (S.lenO Z Z Z (fun hl10=>.j Z Z (.nil (b6 (.F ?_))))))))))
     obtain⟨⟨c63,c64⟩,ho2,hr60⟩:=b9 hr60
     try dsimp only at hr60
     refine AWP.forS ho2 (fun t65 (c63,c64)=>⟨[(0,.c (.yld 9)),(2,(cP 8 0 0)),(9,.c (.own 1 0 l.length)),(10,(cI (l.length:Int))),(11,(cI t65))],[(oE 3 (wW start goal 1 l.length)),(oV 4 c9 l),(oW vU (valA (fun(z0:d4)=>([.int .u32 z0.fFrom,.int .i64 z0.op]:List Vl))) c63),(o1 (.map 2)),.dead,(o1 (.own 10 0 c64.length)),(o1 (.imm (.val (.int .u32 a26)))),(o1 (.ptr 0 0 0)),(o1 (.imm (.val (.int .u32 a26)))),.one (i8 62 [40] as60 bo60 .ready none [(7,none),(8,none),(9,none)] [.ptr 3 0 0,.ptr 5 0 0,.ptr 6 0 0]),(oV 1 eU32 c64)]⟩) (fun(c63,c64) e st=>e=.exit 0∧Sub ([(oE 3 (wW start goal 1 l.length)),(oV 4 c9 l),(oW vU (valA (fun(z0:d4)=>([.int .u32 z0.fFrom,.int .i64 z0.op]:List Vl))) c56),(o1 (.map 2)),(oV 1 eU32 (k6 c57 (0+1) ((c57.length:Int) - 1))),(o1 (.own 4 0 ((k6 c57 (0+1) ((c57.length:Int) - 1)).length))),(o1 (.imm (.val (.int .u32 a26)))),(o1 (.ptr 0 0 0)),(o1 (.imm (.val (.int .u32 a26)))),.one (i8 62 [40] as60 bo60 .ready none [(7,none),(8,none),(9,none)] [.ptr 3 0 0,.ptr 5 0 0,.ptr 6 0 0])]:b7) st ⟨[],[(oE 3 (wW start goal 1 l.length)),(oV 4 c9 l),(oW vU (valA (fun(z0:d4)=>([.int .u32 z0.fFrom,.int .i64 z0.op]:List Vl))) c63),(o1 (.map 2)),.dead,(o1 (.own 10 0 c64.length)),(o1 (.imm (.val (.int .u32 a26)))),(o1 (.ptr 0 0 0)),(o1 (.imm (.val (.int .u32 a26)))),.one (i8 62 [40] as60 bo60 .ready none [(7,none),(8,none),(9,none)] [.ptr 3 0 0,.ptr 5 0 0,.ptr 6 0 0]),(oV 1 eU32 c64)]⟩) ?_ ?_ ?_ ?_
     ·try dsimp only
      exact Sub.env ⟨Z,Z,Z,Z,Z,Y⟩
     ·intro t65 s hlot65 hltt65 _
      obtain⟨c63,c64⟩:=s
      try dsimp only
      refine AWP.q (.u (.J Z Z Z (.nil (b6 (.q (.ae Z hltt65 (.exit (f5 (f5 ⟨Z,?_⟩)))))))))
      exact Sub.env Y
     ·intro t65 s o hlot65 hltt65 h
      obtain⟨c63,c64⟩:=s
      unfold B4 at h
      try dsimp only at h ⊢
      refine AWP.q (.u (.J Z Z Z (.nil (b6 (.q (.af Z hltt65 (.skip (b6 (.q (.F (.q ?_)))))))))))
      obtain⟨ai14,hai14,h⟩:=b9 h
      refine AWP.u (.j Z Z (S.idxO hai14 Z Z Z Z Z (S.loadOAgg hai14 Z Z Z Z Z Z Z (W.alloc Z Z Z Z (.v Z Z (W.storeAgg Z Z Z Z Z Z Z (.nil (b6 (.q ?_)))))))))
      rcases bft (decide (Go.bits .and .u32 a26 ai14.pre=ai14.pre)) with hb66|hb66
      ·replace h:=N0 hb66 h
       refine AWP.u (.B Z Z Z Z Z Z (W.fieldAddr Z Z Z Z (.B Z Z Z Z Z Z (.bits Z Z Z (by simp) (W.fieldAddr Z Z Z Z (.B Z Z Z Z Z Z (.eql Z Z Z (.j Z Z (.z Z Z Z hb66 (.j Z Z (.z Z Z Z hb66 (.j Z Z (.z Z Z Z hb66 (W.fieldAddr Z Z Z Z (.z Z Z Z hb66 (.B Z Z Z Z Z Z (.z Z Z Z hb66 (.B Z Z Z Z Z Z (.z Z Z Z hb66 (W.fieldAddr Z Z Z Z (.z Z Z Z hb66 (.B Z Z Z Z Z Z (.z Z Z Z hb66 (.bits Z Z Z (by simp) (.z Z Z Z hb66 (W.fieldAddr Z Z Z Z (.z Z Z Z hb66 (.B Z Z Z Z Z Z (.z Z Z Z hb66 (.bits Z Z Z (by simp) (.z Z Z Z hb66 (W.build Z Z Z Z ?_))))))))))))))))))))))))))))))))
       refine AOps.z Z Z Z hb66 ?_;refine AOps.yieldB (E1:=[(10,(cP 12 0 0)),(40,.agg [int t65,int ai14.cost,.imm (.val (.int .u32 (Go.bits .or .u32 (Go.bits .andNot .u32 a26 ai14.del) ai14.add)))]),(7,(cP 3 0 0)),(8,(cP 5 0 0)),(9,(cP 6 0 0))]) (σ1:=[(oE 3 (wW start goal 1 l.length)),(oV 4 c9 l),(oW vU (valA (fun(z0:d4)=>([.int .u32 z0.fFrom,.int .i64 z0.op]:List Vl))) c63),(o1 (.map 2)),.dead,(o1 (.own 10 0 c64.length)),(o1 (.imm (.val (.int .u32 a26)))),(o1 (.ptr 0 0 0)),(o1 (.imm (.val (.int .u32 a26)))),.one (i8 62 [40] as60 bo60 .ready none [(7,none),(8,none),(9,none)] [.ptr 3 0 0,.ptr 5 0 0,.ptr 6 0 0]),(oV 1 eU32 c64),(oE 4 [.imm (.val (.int .u32 ai14.pre)),.imm (.val (.int .u32 ai14.add)),.imm (.val (.int .u32 ai14.del)),int ai14.cost]),(oE 3 [int t65,int ai14.cost,.imm (.val (.int .u32 (Go.bits .or .u32 (Go.bits .andNot .u32 a26 ai14.del) ai14.add)))])]) hA60 hB60 Z Z Z Z Z Z Z Z Z Z ?_ ?_
       ·refine AWP.u (W.alloc Z Z Z Z (W.storeAgg Z Z Z Z Z Z Z (.nil ?_)))
        exact⟨Z,Z⟩
       refine AWP.sub (s':=⟨[(7,(cP 3 0 0)),(8,(cP 5 0 0)),(9,(cP 6 0 0)),(10,(cP 12 0 0))],[(oE 3 (wW start goal 1 l.length)),(oV 4 c9 l),(oW vU (valA (fun(z0:d4)=>([.int .u32 z0.fFrom,.int .i64 z0.op]:List Vl))) c63),(o1 (.map 2)),.dead,(o1 (.own 10 0 c64.length)),(o1 (.imm (.val (.int .u32 a26)))),(o1 (.ptr 0 0 0)),(o1 (.imm (.val (.int .u32 a26)))),.one (i8 62 [40] as60 bo60 .busy none [(7,none),(8,none),(9,none)] [.ptr 3 0 0,.ptr 5 0 0,.ptr 6 0 0]),(oV 1 eU32 c64),(oE 4 [.imm (.val (.int .u32 ai14.pre)),.imm (.val (.int .u32 ai14.add)),.imm (.val (.int .u32 ai14.del)),int ai14.cost]),(oE 3 [int t65,int ai14.cost,.imm (.val (.int .u32 (Go.bits .or .u32 (Go.bits .andNot .u32 a26 ai14.del) ai14.add)))])]⟩) (Sub.env ⟨Z,Z,Z,Z,Y⟩) (.F (.q (.u (.B Z Z Z Z Z Z (W.fieldAddr Z Z Z Z (.B Z Z Z Z Z Z ?_))))))
       refine W.lookupOkA (fk:=vU) (gv:=(fun(z0:d4)=>([.int .u32 z0.fFrom,.int .i64 z0.op]:List Vl))) (k:=Go.bits .or .u32 (Go.bits .andNot .u32 a26 ai14.del) ai14.add) (z:=(⟨0,0⟩:d4)) C1 Z (fun _ _ h=>by simp only[List.mem_cons,List.not_mem_nil,or_false] at h;rcases h with rfl|rfl<;>rfl) Z Z Z Z ?_
       refine AOps.j Z Z (.aa Z Z Z (.aa Z Z Z (W.alloc Z Z Z Z (W.storeAgg Z Z Z Z Z Z Z (.v Z Z (.nil (b6 (.q (.u (.j Z Z (.not Z Z (.nil (b6 (.ad Z h (fun hc67 h=> ?_) (fun hc67 h=> ?_)))))))))))))))
       ·refine AWP.q (.u (.B Z Z Z Z Z Z (W.fieldAddr Z Z Z Z (.B Z Z Z Z Z Z (.B Z Z Z Z Z Z (W.fieldAddr Z Z Z Z (.B Z Z Z Z Z Z (W.build Z Z Z Z (W.mapUpdateA (fk:=vU) (gv:=(fun(z0:d4)=>([.int .u32 z0.fFrom,.int .i64 z0.op]:List Vl))) (k:=Go.bits .or .u32 (Go.bits .andNot .u32 a26 ai14.del) ai14.add) (a:=(⟨a26,t65⟩:d4)) C1 Z Z Z Z Z ?_)))))))))
        refine AOps.nil (b6 ?_)
        obtain⟨ab61,hab61,h⟩:=b9 h
        refine AWP.u (.B Z Z Z Z Z Z (W.fieldAddr Z Z Z Z (.B Z Z Z Z Z Z (S.lit (f:=eU32) (l:=[Go.bits .or .u32 (Go.bits .andNot .u32 a26 ai14.del) ai14.add]) (ess:=[[.imm (.val (.int .u32 (Go.bits .or .u32 (Go.bits .andNot .u32 a26 ai14.del) ai14.add)))]]) Z Z Z Z Z Z Z ⟨⟨.inl Z,Y⟩,Y⟩ Z Z Z (S.append (f:=eU32) hab61 Z Z Z Z Z Z (.own Z Z) Z Z Z Z (W.store Z Z Z Z Z (.nil (f4 (B2 Z Z (.z Z Z Z hb66 (.not Z Z (.U Z hb66 Z Z (.nil (b6 (.j (env':=[(0,.c (.yld 9)),(2,(cP 8 0 0)),(9,.c (.own 1 0 l.length)),(10,(cI (l.length:Int))),(11,(cI t65)),(38,(cB false))]) (σ':=[(oE 3 (wW start goal 1 l.length)),(oV 4 c9 l),(oW vU (valA (fun(z0:d4)=>([.int .u32 z0.fFrom,.int .i64 z0.op]:List Vl))) (mset c63 (Go.bits .or .u32 (Go.bits .andNot .u32 a26 ai14.del) ai14.add) (⟨a26,t65⟩:d4))),(o1 (.map 2)),.dead,(o1 (.own 10 0 ab61.length)),(o1 (.imm (.val (.int .u32 a26)))),(o1 (.ptr 0 0 0)),(o1 (.imm (.val (.int .u32 a26)))),.one (i8 62 [40] as60 bo60 .ready none [(7,none),(8,none),(9,none)] [.ptr 3 0 0,.ptr 5 0 0,.ptr 6 0 0]),(oV 1 eU32 ab61),(oE 4 [.imm (.val (.int .u32 ai14.pre)),.imm (.val (.int .u32 ai14.add)),.imm (.val (.int .u32 ai14.del)),int ai14.cost]),(oE 3 [int t65,int ai14.cost,.imm (.val (.int .u32 (Go.bits .or .u32 (Go.bits .andNot .u32 a26 ai14.del) ai14.add)))]),(oE 2 [.imm (.val (.int .u32 ((Option.getD (mget c63 (Go.bits .or .u32 (Go.bits .andNot .u32 a26 ai14.del) ai14.add)) (⟨0,0⟩:d4)).fFrom))),int ((Option.getD (mget c63 (Go.bits .or .u32 (Go.bits .andNot .u32 a26 ai14.del) ai14.add)) (⟨0,0⟩:d4)).op)]),(oV 1 eU32 [Go.bits .or .u32 (Go.bits .andNot .u32 a26 ai14.del) ai14.add])]) 10 15 Z Z Z ⟨Z,Z,Z,Z,Z,Z,Y⟩ Z ⟨⟨Z,Z⟩,⟨Blk.im_ok _ _ _,g8 Z⟩,⟨Z,Z⟩,⟨Z,Z⟩,Y,⟨Z,Z⟩,⟨Z,Z⟩,⟨Z,Z⟩,⟨Z,Z⟩,⟨Z,Z⟩,⟨Blk.im_ok _ _ _,g8 Z⟩,⟨Z,Z⟩,⟨Z,Z⟩,⟨Z,Z⟩,⟨Blk.im_ok _ _ _,g8 Z⟩,Y⟩ ?_)))))))))))))))
        refine AWP.aj Z (.skip (f4 (b6 (.u (.add Z Z Z (by omega) (.j Z Z (.nil ?_)))))))
        obtain rfl:=oi h
        refine b6 (Sub.cut ⟨Z,Z,Z,Z,Z,Y⟩ Z ⟨.one Z,.vec,.one Z,.one Z,.dead,.one Z,.one Z,.one Z,.one Z,.one Z,.vec,Y⟩ Z)
       ·refine AWP.skip (f4 (B2 Z Z (.z Z Z Z hb66 (.not Z Z (.U Z hb66 Z Z (.nil (b6 (.aj Z (.skip (f4 (b6 (.u (.add Z Z Z (by omega) (.j Z Z (.nil ?_)))))))))))))))
        obtain rfl:=oi h
        refine b6 (Sub.cut ⟨Z,Z,Z,Z,Z,Y⟩ Z ⟨.one Z,.vec,.one Z,.one Z,.dead,.one Z,.one Z,.one Z,.one Z,.one Z,.vec,Y⟩ Z)
      ·replace h:=L9 hb66 h
       refine AWP.u (.B Z Z Z Z Z Z (W.fieldAddr Z Z Z Z (.B Z Z Z Z Z Z (.bits Z Z Z (by simp) (W.fieldAddr Z Z Z Z (.B Z Z Z Z Z Z (.eql Z Z Z (.j Z Z (.E Z Z Z hb66 (.E Z Z Z hb66 (.E Z Z Z hb66 (.E Z Z Z hb66 (.E Z Z Z hb66 (.E Z Z Z hb66 (.E Z Z Z hb66 (.E Z Z Z hb66 (.E Z Z Z hb66 (.E Z Z Z hb66 (.E Z Z Z hb66 (.E Z Z Z hb66 (.E Z Z Z hb66 (.E Z Z Z hb66 (.ab Z hb66 Z Z (.nil (b6 (.aj Z (.skip (f4 (b6 (.u (.add Z Z Z (by omega) (.j Z Z (.nil ?_)))))))))))))))))))))))))))))))))
       obtain rfl:=oi h
       refine b6 (Sub.cut ⟨Z,Z,Z,Z,Z,Y⟩ Z ⟨.one Z,.vec,.one Z,.one Z,.dead,.one Z,.one Z,.one Z,.one Z,.one Z,.vec,Y⟩ Z)
     ·intro e s hq
      obtain⟨rfl,hs⟩:=hq
      refine⟨_,hs,?_⟩
      refine j7 ?_
      obtain rfl:=oi hr60
      exact⟨⟨[],[(oE 3 (wW start goal 1 l.length)),(oV 4 c9 l),(oW vU (valA (fun(z0:d4)=>([.int .u32 z0.fFrom,.int .i64 z0.op]:List Vl))) c63),(o1 (.map 2)),.dead,(o1 (.own 10 0 c64.length)),(o1 (.imm (.val (.int .u32 a26)))),(o1 (.ptr 0 0 0)),(o1 (.imm (.val (.int .u32 a26)))),.one (i8 62 [40] as60 bo60 .ready none [(7,none),(8,none),(9,none)] [.ptr 3 0 0,.ptr 5 0 0,.ptr 6 0 0]),(oV 1 eU32 c64)]⟩,Sub.env Y,Done.normal Z ⟨Z,Z⟩⟩
    ·rintro tt ss ⟨rfl,rfl⟩
     obtain⟨c61,c62⟩:=xr60
     try dsimp only at h ⊢
     refine O2 Z Z (f4 (f4 ?_))
     obtain rfl:=oi h
     refine b6 ⟨_,Z,?_⟩
     exact(Sub.move (env':=[(0,.c (.ifc 51 [.ptr 0 0 0] false)),(1,.c (.fnb 18 [.ptr 0 0 0])),(6,.c (.imm (.val (.int .u32 start)))),(7,(cP 3 0 0)),(8,(cP 5 0 0))]) (σ':=[(oE 3 (wW start goal 1 l.length)),(oV 4 c9 l),(oW vU (valA (fun(z0:d4)=>([.int .u32 z0.fFrom,.int .i64 z0.op]:List Vl))) c61),(o1 (.map 2)),(oV 1 eU32 c62),(o1 (.own 4 0 c62.length)),(o1 (.imm (.val (.int .u32 a26)))),(o1 (.ptr 0 0 0)),(o1 (.imm (.val (.int .u32 a26)))),.dead]) 4 10 Z Z Z ⟨Z,Z,Z,Z,Z,Y⟩ Z ⟨⟨Z,Z⟩,⟨Blk.im_ok _ _ _,g8 Z⟩,⟨Z,Z⟩,⟨Z,Z⟩,⟨Blk.im_ok _ _ _,g8 Z⟩,⟨Z,Z⟩,⟨Z,Z⟩,⟨Z,Z⟩,⟨Z,Z⟩,Y,Y⟩).trans (Sub.cut ⟨Z,Z,Z,Z,Z,Y⟩ Z ⟨.one Z,.vec,.one Z,.one Z,.vec,.one Z,Y⟩ Z)
  ·refine AWP.exit (f5 ?_)
   obtain rfl:=oi h
   refine f5 ⟨_,Z,Z,?_⟩
   exact Sub.cut Y Z ⟨.one Z,.vec,Y⟩ Z
 ·intro e s hq
  rcases oo with u|x
  ·try dsimp only at h hq
   obtain⟨rfl,hs⟩:=hq
   refine⟨_,hs,?_⟩
   refine j7 (b6 (.q (.u (.v Z Z (.v Z Z (.nil (b6 (.nilrow 1 4 Z (.ret ?_)))))))))
   obtain rfl:=oi h
   exact⟨⟨[(4,(cR [])),(5,(cB false))],[(oE 3 (wW start goal 1 l.length)),(oV 4 c9 l)]⟩,Sub.env ⟨Z,Z,Y⟩,Done.ret Z ⟨Z,Z⟩⟩
  ·try dsimp only at h hq
   obtain⟨rfl,hs⟩:=hq
   refine⟨_,Sub.refl _ _,?_⟩
   refine j8 (e8 ?_)
   obtain rfl:=oi h
   exact hs
theorem breadth_Plan_ok{t:d6}{r:Li×Bool×i9}(h:T8 t=some r):g9 prog 5 [.agg (tT t)] (.tup [(cR r.1),(cB r.2.1),.agg [int r.2.2.code,int r.2.2.index]]):=by
 unfold g9
 refine FnOk.enter (rs:=[.t 2,.t 3,.cell 4 27 2]) func5 Z ntmps5 results5 Z ⟨Y,Y,rv _ Z,Y⟩ (by kernel_rfl) Z ?_
 unfold T8 at h
 refine AWP.q (.u (W.box Z Z Z Z Z Z (.v Z Z (.v Z Z (W.alloc Z Z Z Z (.nil (b6 (.q ?_))))))))
 obtain⟨fk2,hfk2,h⟩:=b9 h
 rcases fk2 with fk2|fk2
 ·try dsimp only at h
  refine AWP.u (W.loadAgg Z Z Z Z Z Z Z (.callF (r2:=.tup [.c (.imm (.val (.pointer none))),.c (row 1 eU32 []),.agg [int fk2.1,int fk2.2]]) (σ'':=[(oE 4 (tT t)),(oE 2 [int 0,int 0]),.dead,(oE 2 [int fk2.1,int fk2.2])]) Z Z Z (FnOk.lend [] (FnOk.alt1 (M0 hfk2)) Z Z Z Z Z Z (by exact Y) Z (by exact Y) Z Z (by exact⟨(.old Z Z Z),(.old Z Z Z),.dead,(.new 1 Z Z (.one Z)),Y⟩)) (.j Z Z (.aa Z Z Z (.aa Z Z Z (.aa Z Z Z (W.alloc Z Z Z Z (.v Z Z (.v Z Z (W.storeAgg Z Z Z Z Z Z Z (.nil (b6 (.q (.q (.u (W.loadAgg Z Z Z Z Z Z Z (W.build Z Z Z Z (.neqP Z Z Z Z Z Z Z (.nil (b6 (.ad Z h (fun hc3 h=> ?_) (fun hc3 h=> ?_))))))))))))))))))))))
  ·refine AWP.q (.drawEI [3] mixed Z Z Z ?_)
   refine d3.consN Z Z (fun E=>W.loadAgg Z Z Z Z Z Z Z .N) Z (.consN Z Z (fun E=>.v Z Z .N) Z (.consN Z Z (fun E=>.v Z Z .N) Z ?_))
   apply d3.consE (v:=.undef);exact Z;exact Z;intro E
   refine W.storeAgg Z Z Z Z Z Z Z .N
   exact Z
   exact Z
   refine d3.done Z ?_ ?_
   ·refine f7.cons Z Z (.go Z Z (fun E=>W.loadAgg Z Z Z Z Z Z Z .N) (.skip Z .nil)) (.cons Z Z (.go Z Z (fun E=>.v Z Z .N) (.skip Z .nil)) (.cons Z Z (.go Z Z (fun E=>.v Z Z .N) (.skip Z .nil)) ?_))
    refine f7.skip Z (f7.nil)
   dsimp only[j9]
   refine b6 (.nilrow 1 2 Z (.ret (e8 ?_)))
   obtain rfl:=oi h
   exact Done.ret Z Z
  ·cases h
 ·try dsimp only at h
  refine AWP.u (W.loadAgg Z Z Z Z Z Z Z (.callF (r2:=.tup [(cP 6 0 0),.c (row 1 eU32 fk2.2.2.2),.agg [int 0,int 0]]) (σ'':=[(oE 4 (tT t)),(oE 2 [int 0,int 0]),.dead,(oE 2 [int 0,int 0]),.dead,.dead,(oE 3 [.imm (.val (.int .u32 fk2.1)),.imm (.val (.int .u32 fk2.2.1)),.own 7 0 fk2.2.2.1.length]),(oV 4 c9 fk2.2.2.1)]) Z Z Z (FnOk.lend [] (FnOk.alt2 (M0 hfk2)) Z Z Z Z Z Z (by exact Y) Z (by exact Y) Z Z (by exact⟨(.old Z Z Z),(.old Z Z Z),.dead,(.new 1 Z Z (.one Z)),.dead,.dead,(.new 4 Z Z (.one Z)),(.new 5 Z Z .vec),Y⟩)) (.j Z Z (.aa Z Z Z (.aa Z Z Z (.aa Z Z Z (W.alloc Z Z Z Z (.v Z Z (.v Z Z (W.storeAgg Z Z Z Z Z Z Z (.nil (b6 (.q (.q (.u (W.loadAgg Z Z Z Z Z Z Z (W.build Z Z Z Z (.neqP Z Z Z Z Z Z Z (.nil (b6 (.ad Z h (fun hc3 h=> ?_) (fun hc3 h=> ?_))))))))))))))))))))))
  ·refine AWP.q (.drawEI [3] mixed Z Z Z ?_)
   refine d3.consN Z Z (fun E=>W.loadAgg Z Z Z Z Z Z Z .N) Z (.consN Z Z (fun E=>.v Z Z .N) Z (.consN Z Z (fun E=>.v Z Z .N) Z ?_))
   apply d3.consE (v:=.undef);exact Z;exact Z;intro E
   refine W.storeAgg Z Z Z Z Z Z Z .N
   exact Z
   exact Z
   refine d3.done Z ?_ ?_
   ·refine f7.cons Z Z (.go Z Z (fun E=>W.loadAgg Z Z Z Z Z Z Z .N) (.skip Z .nil)) (.cons Z Z (.go Z Z (fun E=>.v Z Z .N) (.skip Z .nil)) (.cons Z Z (.go Z Z (fun E=>.v Z Z .N) (.skip Z .nil)) ?_))
    refine f7.skip Z (f7.nil)
   dsimp only[j9]
   refine b6 (.nilrow 1 2 Z (.ret (e8 ?_)))
   obtain rfl:=oi h
   exact Done.ret Z Z
  ·refine AWP.skip (b6 (.q ?_))
   obtain⟨a22,ha22,a25,ha25,h⟩:=b2 h
   refine AWP.u (.j Z Z (S.mkIfc Z Z Z (.j Z Z (.makeFuncB Z Z (.callF (r2:=.tup [(cR a22.1),(cB a22.2)]) (σ'':=[(oE 4 (tT t)),(oE 2 [int 0,int 0]),.dead,(oE 2 [int 0,int 0]),.dead,.dead,(oE 3 [.imm (.val (.int .u32 fk2.1)),.imm (.val (.int .u32 fk2.2.1)),.own 7 0 fk2.2.2.1.length]),(oV 4 c9 fk2.2.2.1),(oE 2 [int 0,int 0])]) Z Z Z (FnOk.lend [6,7] (af6 ha22) Z Z Z Z Z Z (by exact⟨(.one Z),.vec,Y⟩) Z (by exact⟨(.live Z (.one Z)),(.live Z .vec),Y⟩) Z Z (by exact⟨(.old Z Z Z),(.old Z Z Z),.dead,(.old Z Z Z),.dead,.dead,(.new 0 Z Z (.one Z)),(.new 1 Z Z .vec),(.old Z Z Z),Y⟩)) (.aa Z Z Z (.aa Z Z Z (.O Z Z Z Z (aq6 ha25) Z (.aa Z Z Z (.aa Z Z Z (.aa Z Z Z (.v Z Z (.v Z Z (W.storeAgg Z Z Z Z Z Z Z (.nil (b6 (.ret ?_)))))))))))))))))
   obtain rfl:=oi h
   exact Done.ret Z Z
theorem an3{r:d6}(h:V2=some r):g9 prog 20 [] (.agg (tT r)):=by
 unfold g9
 refine FnOk.enter (rs:=[.cell 0 25 4]) func20 Z ntmps20 results20 Z ⟨rv _ Z,Y⟩ (by kernel_rfl) Z ?_
 unfold V2 at h
 refine AWP.q (.u (W.alloc Z Z Z Z (.nil (b6 (.q (.u (S.lit (f:=intI) (l:=[0]) (ess:=[[int 0]]) Z Z Z Z Z Z Z ⟨⟨.inl Z,Y⟩,Y⟩ Z Z Z (S.lit (f:=intI) (l:=[0]) (ess:=[[int 0]]) Z Z Z Z Z Z Z ⟨⟨.inl Z,Y⟩,Y⟩ Z Z Z (W.build Z Z Z Z (.frzV (id:=2) (l:=[0]) (env2:=[(0,(cP 0 0 0)),(1,.c (.own 1 0 ([0].length))),(3,.agg [.imm (.val nL),row 1 intI [0],.imm (.val nL),int 2])]) (σ2:=[(oE 4 [int 0,.imm (.val nL),.imm (.val nL),.imm (.val nL)]),(oV 1 intI [0]),.dead]) Z Z (by exact⟨⟨_,Z,.inl ⟨Z,Z⟩⟩,⟨_,Z,.inl ⟨Z,Z⟩⟩,⟨_,Z,⟨.inl ⟨Z,Z⟩,.inr ⟨_,Z,Z,Z⟩,.inl ⟨Z,Z⟩,.inl ⟨Z,Z⟩,Y⟩⟩,Y⟩) Z (by exact⟨⟨Z,.inl ⟨Z,Z⟩,.inl ⟨Z,Z⟩,.inl ⟨Z,Z⟩,.inl ⟨Z,Z⟩,Y⟩,FrzB.vec,Y,Y⟩) (S.lit (f:=d9) (l:=[(⟨[],[0],[],2⟩:i4)]) (ess:=[[.imm (.val nL),row 1 intI [0],.imm (.val nL),int 2]]) Z Z Z Z Z Z Z ⟨⟨.inr ⟨Z,_,Z⟩,.inl Z,.inr ⟨Z,_,Z⟩,.inl Z,Y⟩,Y⟩ Z Z Z (W.build Z Z Z Z (W.storeAgg Z Z Z Z Z Z Z (.nil (b6 (.frzV (id:=1) (l:=[0]) (env2:=[(0,(cP 0 0 0))]) (σ2:=[(oE 4 [int 1,.imm (.val nL),row 1 intI [0],.own 3 0 (([(⟨[],[0],[],2⟩:i4)]).length)]),.dead,.dead,(oV 4 d9 ([(⟨[],[0],[],2⟩:i4)]))]) Z Z (by exact⟨⟨_,Z,.inl ⟨Z,Z⟩⟩,Y⟩) Z (by exact⟨⟨Z,.inl ⟨Z,Z⟩,.inl ⟨Z,Z⟩,.inr ⟨_,Z,Z,Z⟩,.inl ⟨Z,Z⟩,Y⟩,Y,Y,FrzB.vec,Y⟩) (.frzV (id:=3) (l:=[(⟨[],[0],[],2⟩:i4)]) (env2:=[(0,(cP 0 0 0))]) (σ2:=[(oE 4 [int 1,.imm (.val nL),row 1 intI [0],row 4 d9 ([(⟨[],[0],[],2⟩:i4)])]),.dead,.dead,.dead]) Z Z (by exact⟨⟨_,Z,.inl ⟨Z,Z⟩⟩,Y⟩) Z (by exact⟨⟨Z,.inl ⟨Z,Z⟩,.inl ⟨Z,Z⟩,.inl ⟨Z,Z⟩,.inr ⟨_,Z,Z,Z⟩,Y⟩,Y,Y,Y,Y⟩) (.nilB (b:=0) [int 1,row 1 intI [],row 1 intI [0],row 4 d9 ([(⟨[],[0],[],2⟩:i4)])] Z (by exact⟨.inl Z,.inr ⟨Z,_,Z⟩,.inl Z,.inl Z,Y⟩) Z Z (.ret ?_)))))))))))))))))))
 obtain rfl:=oi h
 exact Done.ret Z Z
theorem am0{t:d6}{unknown:Li}{r:i9}(h:F3 t unknown=some r):g9 prog 41 [.agg (tT t),(cR unknown)] (.agg [int r.code,int r.index]):=by
 unfold g9
 refine FnOk.enter (rs:=[.cell 4 27 2]) func41 Z ntmps41 results41 Z ⟨rv _ Z,Y⟩ (by kernel_rfl) Z ?_
 unfold F3 at h
 refine AWP.q (.u (W.box Z Z Z Z Z Z (W.alloc Z Z Z Z (.nil (b6 (.q (.q ?_)))))))
 obtain⟨a7,ha7,h⟩:=b9 h
 refine AWP.u (W.loadAgg Z Z Z Z Z Z Z (.O Z Z Z Z (G1 ha7) Z (W.alloc Z Z Z Z (W.storeAgg Z Z Z Z Z Z Z (.nil (b6 (.q (.u (W.loadAgg Z Z Z Z Z Z Z (W.build Z Z Z Z (.neqP Z Z Z Z Z Z Z (.nil (b6 (.ad Z h (fun hc3 h=> ?_) (fun hc3 h=> ?_)))))))))))))))
 ·refine AWP.q (.u (W.loadAgg Z Z Z Z Z Z Z (W.storeAgg Z Z Z Z Z Z Z (.nil (b6 (.ret (e8 ?_)))))))
  obtain rfl:=oi h
  exact Done.ret Z Z
 ·refine AWP.skip (b6 (.q (.F (.q (.u (.j Z Z (S.len Z Z (fun hl14=>.gtr Z Z Z (.v Z Z (.nil (b6 (.ac Z h (fun hc4 h=> ?_) (fun hc4 h=> ?_)))))))))))))
  ·refine AWP.q (.u (W.build Z Z Z Z (W.storeAgg Z Z Z Z Z Z Z (.nil (b6 (.ret (j8 (e8 ?_))))))))
   obtain rfl:=oi h
   exact Done.ret Z Z
  ·refine AWP.q ?_
   obtain⟨a21,ha21,h⟩:=b9 h
   refine AWP.u (.j Z Z (W.fieldAddr Z Z Z Z (.B Z Z Z Z Z Z (.O Z Z Z Z (q8 ha21) Z (.not Z Z (.v Z Z (.nil (b6 (.ad Z h (fun hc5 h=> ?_) (fun hc5 h=> ?_))))))))))
   ·refine AWP.q (.u (W.build Z Z Z Z (W.storeAgg Z Z Z Z Z Z Z (.nil (b6 (.ret (j8 (e8 ?_))))))))
    obtain rfl:=oi h
    exact Done.ret Z Z
   ·refine AWP.skip (f4 (b6 (.q (.u (W.build Z Z Z Z (W.storeAgg Z Z Z Z Z Z Z (.nil (b6 (.ret ?_)))))))))
    obtain rfl:=oi h
    exact Done.ret Z Z
theorem aj6{t:d6}{unknown:Li}{r:(LL)}(h:K8 t unknown=some r):n8 prog 42 [.agg (tT t),(cR unknown)] 1 (List.map f9 r):=by
 unfold n8
 refine FnOk.enter (rs:=[.t 4]) func42 Z ntmps42 results42 Z ⟨Y,Y⟩ (by kernel_rfl) Z ?_
 unfold K8 at h
 refine AWP.q (.u (W.box Z Z Z Z Z Z (.v Z Z (.nil (b6 (.q (.u (.v Z Z (.nil (b6 (.q (.q ?_))))))))))))
 obtain⟨u12,hu12,h⟩:=b9 h
 refine AWP.u (.j Z Z (S.len Z Z (fun hl11=>S.shl hu12 Z Z Z (.j Z Z (.nil (b6 (.F (.virtV 1 f9 5 Z Z Z ?_))))))))
 obtain⟨hnt4,h⟩:=ite_none h
 obtain⟨c3,ho1,h⟩:=b9 h
 refine AWP.forS ho1 (fun t4 c3=>⟨[(1,(cR unknown)),(2,(cP 0 0 0)),(5,.c (.own 1 0 c3.length)),(12,(cI (shlW .i64 1 (unknown.length:Int)))),(13,(cI t4))],[(oE 4 (tT t)),(oV 1 f9 c3)]⟩) (fun c3 e st=>e=.exit 0∧Sub [] st ⟨[(5,.c (.own 1 0 c3.length))],[(oE 4 (tT t)),(oV 1 f9 c3)]⟩) ?_ ?_ ?_ ?_
 ·try dsimp only
  exact Sub.env ⟨Z,Z,(J3 (by first|rfl|simp only[lS])),Z,Z,Y⟩
 ·intro t4 c3 hlot4 hltt4 _
  try dsimp only
  refine AWP.q (.u (.J Z Z Z (.nil (b6 (.q (.ae Z hltt4 (.exit (f5 (f5 ⟨Z,?_⟩)))))))))
  exact Sub.env ⟨Z,Y⟩
 ·intro t4 c3 o hlot4 hltt4 h
  unfold J5 at h
  try dsimp only at h ⊢
  refine AWP.q (.u (.J Z Z Z (.nil (b6 (.q (.af Z hltt4 (.skip (b6 (.q (.F (.q (.u (.j Z Z (.v Z Z (.nil (b6 (.q (.u (.v Z Z (.nil (b6 (.q (.q (.u (.j Z Z (S.len Z Z (fun hl17=>.j Z Z (.nil (b6 (.F (.virtV 1 intI 7 Z Z Z ?_)))))))))))))))))))))))))))))))
  obtain⟨c5,ho2,h⟩:=b9 h
  refine AWP.forS ho2 (fun t6 c5=>⟨[(1,(cR unknown)),(2,(cP 0 0 0)),(5,.c (.own 1 0 c3.length)),(6,(cI t4)),(7,.c (.own 2 0 c5.length)),(12,(cI (shlW .i64 1 (unknown.length:Int)))),(13,(cI t4)),(16,(cR unknown)),(17,(cI (unknown.length:Int))),(18,(cI t6))],[(oE 4 (tT t)),(oV 1 f9 c3),(oV 1 intI c5)]⟩) (fun c5 e st=>e=.exit 2∧Sub [] st ⟨[(1,(cR unknown)),(2,(cP 0 0 0)),(5,.c (.own 1 0 c3.length)),(7,.c (.own 2 0 c5.length)),(12,(cI (shlW .i64 1 (unknown.length:Int)))),(13,(cI t4))],[(oE 4 (tT t)),(oV 1 f9 c3),(oV 1 intI c5)]⟩) ?_ ?_ ?_ ?_
  ·try dsimp only
   exact Sub.env ⟨Z,Z,Z,Z,(J3 (by first|rfl|simp only[lS])),Z,Z,Z,Z,Z,Y⟩
  ·intro t6 c5 hlot6 hltt6 _
   try dsimp only
   refine AWP.q (.u (.J Z Z Z (.nil (b6 (.q (.ae Z hltt6 (.exit (f5 (f5 ⟨Z,?_⟩)))))))))
   exact Sub.env ⟨Z,Z,Z,Z,Z,Z,Y⟩
  ·intro t6 c5 o hlot6 hltt6 h
   unfold Y2 at h
   try dsimp only at h ⊢
   refine AWP.q (.u (.J Z Z Z (.nil (b6 (.q (.af Z hltt6 (.skip (b6 ?_))))))))
   obtain⟨c7,hx8,h⟩:=b9 h
   refine AWP.seqJ (⟨[(1,(cR unknown)),(2,(cP 0 0 0)),(5,.c (.own 1 0 c3.length)),(6,(cI t4)),(7,.c (.own 4 0 c7.length)),(12,(cI (shlW .i64 1 (unknown.length:Int)))),(13,(cI t4)),(16,(cR unknown)),(17,(cI (unknown.length:Int))),(18,(cI t6))],[(oE 4 (tT t)),(oV 1 f9 c3),.dead,.dead,(oV 1 intI c7)]⟩) ?_ ?_
   ·refine AWP.F (.q ?_)
    obtain⟨a21,ha21,hx8⟩:=b9 hx8
    refine AWP.u (.j Z Z (S.idx ha21 Z Z Z Z (.ai Z Z Z Z (.v Z Z (.v Z Z (.nil (b6 (.q (.u (.j Z Z (.j Z Z (.shr Z Z Z (by first|decide|omega) Z (.bits Z Z Z (by simp) (.eql Z Z Z (.nil (b6 (.ac Z hx8 (fun hc9 hx8=> ?_) (fun hc9 hx8=> ?_))))))))))))))))))
    ·obtain⟨a31,ha31,hx8⟩:=b9 hx8
     refine AWP.u (.j Z Z (.j Z Z (S.lit (f:=intI) (l:=[a21]) (ess:=[[int a21]]) Z Z Z Z Z Z Z ⟨⟨.inl Z,Y⟩,Y⟩ Z Z Z (S.append (f:=intI) ha31 Z Z Z Z Z Z (.own Z Z) Z Z Z Z (.v Z Z (.nil (f4 ?_)))))))
     obtain rfl:=oi hx8
     refine b6 (Sub.cut ⟨Z,Z,Z,Z,Z,Z,Z,Z,Z,Z,Y⟩ Z ⟨.one Z,.vec,.dead,.dead,.vec,Y⟩ Z)
    ·refine AWP.skip (f4 ?_)
     obtain rfl:=oi hx8
     refine b6 ((Sub.move (env':=[(1,(cR unknown)),(2,(cP 0 0 0)),(5,.c (.own 1 0 c3.length)),(6,(cI t4)),(7,.c (.own 4 0 c5.length)),(12,(cI (shlW .i64 1 (unknown.length:Int)))),(13,(cI t4)),(16,(cR unknown)),(17,(cI (unknown.length:Int))),(18,(cI t6))]) (σ':=[(oE 4 (tT t)),(oV 1 f9 c3),.dead,.dead,(oV 1 intI c5)]) 4 2 Z Z Z ⟨Z,Z,Z,Z,Z,Z,Z,Z,Z,Z,Y⟩ Z ⟨⟨Z,Z⟩,⟨Blk.im_ok _ _ _,g8 Z⟩,Y,Y,⟨Blk.im_ok _ _ _,g8 Z⟩,Y⟩).trans (Sub.env ⟨Z,Z,Z,Z,Z,Z,Z,Z,Z,Z,Y⟩))
   ·refine AWP.u (.add Z Z Z (by omega) (.j Z Z (.nil ?_)))
    obtain rfl:=oi h
    refine b6 ((Sub.move (env':=[(1,(cR unknown)),(2,(cP 0 0 0)),(5,.c (.own 1 0 c3.length)),(6,(cI t4)),(7,.c (.own 2 0 c7.length)),(12,(cI (shlW .i64 1 (unknown.length:Int)))),(13,(cI t4)),(16,(cR unknown)),(17,(cI (unknown.length:Int))),(18,(cI (t6+1)))]) (σ':=[(oE 4 (tT t)),(oV 1 f9 c3),(oV 1 intI c7),.dead]) 2 4 Z Z Z ⟨Z,Z,Z,Z,Z,Z,Z,Z,Z,Z,Y⟩ Z ⟨⟨Z,Z⟩,⟨Blk.im_ok _ _ _,g8 Z⟩,⟨Blk.im_ok _ _ _,g8 Z⟩,Y,Y⟩).trans (Sub.cut ⟨Z,Z,Z,Z,Z,Z,Z,Z,Z,Z,Y⟩ Z ⟨.one Z,.vec,.vec,Y⟩ Z))
  ·intro e s hq
   obtain⟨rfl,hs⟩:=hq
   refine⟨_,hs,?_⟩
   refine j7 (b6 ?_)
   obtain⟨a38,ha38,a40,ha40,h⟩:=b2 h
   refine AWP.u (.j Z Z (W.fieldAddr Z Z Z Z (.B Z Z Z Z Z Z (.j Z Z (.j Z Z (S.freshL (fun _=>Z) Z Z (.cons (.c .imm) (.cons (.c (.own Z Z)) (.cons (.c .imm) .nil))) Z (aj4 ha38) Z Z ?_))))))
   refine AOps.frzV (id:=3) (l:=a38) (env2:=[(1,(cR unknown)),(2,(cP 0 0 0)),(12,(cI (shlW .i64 1 (unknown.length:Int)))),(13,(cI t4)),(33,.c (.own 1 0 c3.length)),(38,(cR a38))]) (σ2:=[(oE 4 (tT t)),(oV 1 f9 c3),(oV 1 intI c5),.dead]) Z Z (by exact⟨⟨_,Z,.inl ⟨Z,Z⟩⟩,⟨_,Z,.inl ⟨Z,Z⟩⟩,⟨_,Z,.inl ⟨Z,Z⟩⟩,⟨_,Z,.inl ⟨Z,Z⟩⟩,⟨_,Z,.inl ⟨Z,Z⟩⟩,⟨_,Z,.inr ⟨_,Z,Z,Z⟩⟩,Y⟩) Z (by exact⟨⟨Z,.inl ⟨Z,Z⟩,.inl ⟨Z,Z⟩,.inl ⟨Z,Z⟩,.inl ⟨Z,Z⟩,Y⟩,FrzB.vec,FrzB.vec,Y,Y⟩) (S.lit (f:=f9) (l:=[a38]) (ess:=[[row 1 intI a38]]) Z Z Z Z Z Z Z ⟨⟨.inl Z,Y⟩,Y⟩ Z Z Z (S.append (f:=f9) ha40 Z Z Z Z Z Z (.own Z Z) Z Z Z Z (.v Z Z (.nil (f4 (b6 (.j (env':=[(1,(cR unknown)),(2,(cP 0 0 0)),(5,.c (.own 1 0 a40.length)),(12,(cI (shlW .i64 1 (unknown.length:Int)))),(13,(cI t4))]) (σ':=[(oE 4 (tT t)),(oV 1 f9 a40),(oV 1 intI c5),.dead,(oV 1 f9 [a38])]) 1 5 Z Z Z ⟨Z,Z,Z,Z,Z,Y⟩ Z ⟨⟨Z,Z⟩,⟨Blk.im_ok _ _ _,g8 Z⟩,⟨Blk.im_ok _ _ _,g8 Z⟩,Y,⟨Blk.im_ok _ _ _,g8 Z⟩,Y⟩ (.u (.add Z Z Z (by omega) (.j Z Z (.nil ?_)))))))))))
   obtain rfl:=oi h
   refine b6 (Sub.cut ⟨Z,Z,Z,Z,Z,Y⟩ Z ⟨.one Z,.vec,Y⟩ Z)
 ·intro e s hq
  obtain⟨rfl,hs⟩:=hq
  refine⟨_,hs,?_⟩
  refine j7 (b6 (.q ?_))
  obtain⟨a43,ha43,h⟩:=b9 h
  refine AWP.u (.j Z Z (.callF (r2:=.c (.own 3 0 a43.length)) (σ'':=[(oE 4 (tT t)),.dead,.dead,(oV 1 f9 a43)]) Z Z Z (FnOk.lend [1] (ae1 ha43) Z Z Z Z Z Z (by exact⟨.vec,Y⟩) Z (by exact⟨(.live Z .vec),Y⟩) Z Z (by exact⟨(.old Z Z Z),.dead,.dead,(.new 2 Z Z .vec),Y⟩)) (.v Z Z (.nil (b6 (.ret ?_))))))
  obtain rfl:=oi h
  exact Done.ret Z (Fresh.mk Z Z)
theorem as4{w:LL}{c2:d6}{r:Bool}(h:I0 w c2=some r):g9 prog 43 [.c (row 1 f9 w),.c (.imm (.ipt [.val (.int .i64 c2.facts),.sl 1 (List.map intI c2.init),.sl 1 (List.map intI c2.goal),.sl 4 (List.map d9 c2.operators)]))] ((cB r)):=by
 unfold g9
 refine FnOk.enter (rs:=[.t 3]) func43 Z ntmps43 results43 Z ⟨Y,Y⟩ (by kernel_rfl) Z ?_
 unfold I0 at h
 refine AWP.q (.u (.v Z Z (.nil (b6 (.q ?_)))))
 obtain⟨a7,ha7,h⟩:=b9 h
 refine AWP.u (.j Z Z (W.fieldAddrI Z Z Z Z (.ai Z Z Z Z (.O Z Z Z Z (N8 ha7) Z (.v Z Z (.nil (b6 (.ret ?_))))))))
 obtain rfl:=oi h
 exact Done.ret Z Z
theorem ai8{start:LL}{Facts:Int}{Init:Li}{Goal:Li}{Operators:List i4}{Facts6:Int}{Init7:Li}{Goal8:Li}{Operators9:List i4}{r:Li×Bool×Bool}(h:C4 start Facts Init Goal Operators Facts6 Init7 Goal8 Operators9=some r):FnOk prog 25 [.c (row 1 f9 start),.c (.fn 9 []),.c (.fn 28 [.ptr 0 0 0]),.c (.fn 43 [.ptr 1 0 0])] (D5 start Facts Init Goal Operators Facts6 Init7 Goal8 Operators9) (fun tt ss=>tt=.tup [(cR r.1),(cB r.2.1),(cB r.2.2)]∧ss=[(oE 4 (tF Facts Init Goal Operators)),(oE 4 (tF Facts6 Init7 Goal8 Operators9)),.dead,(o1 (row 1 intI r.1)),(o1 (bool r.2.1)),(o1 (bool r.2.2))]):=by
 refine FnOk.enter (rs:=[.one 8 22,.one 9 4,.one 10 4]) func25 Z ntmps25 results25 Z ⟨rv1 _ Z,rv1 _ Z,rv1 _ Z,Y⟩ (by kernel_rfl) Z ?_
 refine AWP.weak ?_
 unfold C4 at h
 refine AWP.q (.u (W.box Z Z Z Z Z Z (W.alloc Z Z Z Z (W.alloc Z Z Z Z (W.alloc Z Z Z Z (.nil (b6 (.q (.u (.j Z Z (W.build Z Z Z Z (S.lit (f:=d7) (l:=[(⟨start, -1,0⟩:d8)]) (ess:=[[row 1 f9 start,int (-1),int 0]]) Z Z Z Z Z Z Z ⟨⟨.inl Z,.inl Z,.inl Z,Y⟩,Y⟩ Z Z Z (W.alloc Z Z Z Z (W.store Z Z Z Z Z (.nil (b6 (.q ?_)))))))))))))))))
 obtain⟨a25,ha25,h⟩:=b9 h
 refine AWP.u (W.makeMap Value.string vI Z Z Z (.B Z Z Z Z Z Z (.j Z Z (.O Z Z Z Z (Q3 ha25) Z (W.insert (fk:=Value.string) (fv:=vI) (k:=a25) (a:=1) ad8 Z Z Z Z Z (.j Z Z (W.alloc Z Z Z Z (W.store Z Z Z Z Z (.nil (b6 (.q (.q (.u (W.alloc Z Z Z Z (W.store Z Z Z Z Z (.nil (b6 (.F ?_))))))))))))))))))
 obtain⟨oo,ho1,h⟩:=b9 h
 refine AWP.loopS ho1 (fun(c63,c64,c65)=>⟨[(2,.c (.fn 28 [.ptr 0 0 0])),(3,.c (.fn 43 [.ptr 1 0 0])),(5,(cP 2 0 0)),(8,(cP 3 0 0)),(9,(cP 4 0 0)),(10,(cP 5 0 0)),(11,(cP 7 0 0)),(12,(cP 9 0 0)),(13,(cP 10 0 0))],[(oE 4 (tF Facts Init Goal Operators)),(oE 4 (tF Facts6 Init7 Goal8 Operators9)),(o1 (.fn 9 [])),(o1 (.imm (.val nL))),(o1 (bool false)),(o1 (bool false)),(oV 3 d7 c63),(o1 (.own 6 0 c63.length)),(oW Value.string vI c64),(o1 (.map 8)),(o1 (int c65))]⟩) (fun o e st=>match o with| .inl _=>e=.exit 0∧Sub (D5 start Facts Init Goal Operators Facts6 Init7 Goal8 Operators9) st ⟨[(8,(cP 3 0 0)),(9,(cP 4 0 0)),(10,(cP 5 0 0))],[(oE 4 (tF Facts Init Goal Operators)),(oE 4 (tF Facts6 Init7 Goal8 Operators9)),.dead,(o1 (.imm (.val nL))),(o1 (bool false)),(o1 (bool false))]⟩| .inr x=>e=.ret∧∃J,Sub (D5 start Facts Init Goal Operators Facts6 Init7 Goal8 Operators9) st J∧Done [.one 8 22,.one 9 4,.one 10 4] (fun tt ss=>tt=.tup [(cR x.1),(cB x.2.1),(cB x.2.2)]∧ss=[(oE 4 (tF Facts Init Goal Operators)),(oE 4 (tF Facts6 Init7 Goal8 Operators9)),.dead,(o1 (row 1 intI x.1)),(o1 (bool x.2.1)),(o1 (bool x.2.2))]) .ret J) ?_ ?_ ?_
 ·try dsimp only
  exact Sub.env ⟨Z,Z,Z,Z,Z,Z,Z,Z,Z,Y⟩
 ·intro s o h
  obtain⟨c63,c64,c65⟩:=s
  unfold u5 at h
  try dsimp only at h ⊢
  refine AWP.q (.q (.u (.B Z Z Z Z Z Z (.B Z Z Z Z Z Z (S.lenO Z Z Z (fun hl29=>.J Z Z Z (.nil (b6 (.ac Z h (fun hc66 h=> ?_) (fun hc66 h=> ?_))))))))))
  ·refine AWP.skip (b6 (.q (.F (.q (.q ?_)))))
   obtain⟨a36,ha36,a39,ha39,h⟩:=b2 h
   refine AWP.u (.j Z Z (.B Z Z Z Z Z Z (.B Z Z Z Z Z Z (S.idxO ha36 Z Z Z Z Z (W.fieldAddr Z Z Z Z (S.loadO ha36 Z Z Z Z Z (.callL Z Z (.cons (.c .imm) (.cons (.c (.ptr (es:=[.val (.int .i64 Facts6),.sl 1 (List.map intI Init7),.sl 1 (List.map intI Goal8),.sl 4 (List.map d9 Operators9)]) Z Z (.cons .imm (.cons .imm (.cons .imm (.cons .imm .nil)))))) .nil)) Z (as4 ha39) Z (.nil (b6 (.ad Z h (fun hc67 h=> ?_) (fun hc67 h=> ?_)))))))))))
   ·refine AWP.q (.u (.v Z Z (.nil (b6 (.q (.q (.u (.B Z Z Z Z Z Z (.v Z Z (.nil (b6 (.F (.virtV 1 intI 14 Z Z Z ?_)))))))))))))
    obtain⟨c70,ho2,h⟩:=b9 h
    refine AWP.loopS ho2 (fun(c68,iv69)=>⟨[(8,(cP 3 0 0)),(9,(cP 4 0 0)),(10,(cP 5 0 0)),(11,(cP 7 0 0)),(14,.c (.own 11 0 c68.length)),(15,(cI iv69))],[(oE 4 (tF Facts Init Goal Operators)),(oE 4 (tF Facts6 Init7 Goal8 Operators9)),.dead,(o1 (.imm (.val nL))),(o1 (bool false)),(o1 (bool false)),(oV 3 d7 c63),(o1 (.own 6 0 c63.length)),.dead,.dead,.dead,(oV 1 intI c68)]⟩) (fun c70 e st=>e=.exit 2∧Sub (D5 start Facts Init Goal Operators Facts6 Init7 Goal8 Operators9) st ⟨[(8,(cP 3 0 0)),(9,(cP 4 0 0)),(10,(cP 5 0 0)),(14,.c (.own 11 0 c70.length))],[(oE 4 (tF Facts Init Goal Operators)),(oE 4 (tF Facts6 Init7 Goal8 Operators9)),.dead,(o1 (.imm (.val nL))),(o1 (bool false)),(o1 (bool false)),.dead,.dead,.dead,.dead,.dead,(oV 1 intI c70)]⟩) ?_ ?_ ?_
    ·try dsimp only
     exact Sub.cut ⟨Z,Z,Z,Z,(J3 (by first|rfl|simp only[lS])),Z,Y⟩ Z ⟨.one Z,.one Z,.dead,.one Z,.one Z,.one Z,.vec,.one Z,.dead,.dead,.dead,.vec,Y⟩ Z
    ·intro s o h
     obtain⟨c68,iv69⟩:=s
     unfold y8 at h
     try dsimp only at h ⊢
     refine AWP.q (.q ?_)
     obtain⟨a43,ha43,h⟩:=b9 h
     refine AWP.u (.B Z Z Z Z Z Z (.j Z Z (S.idxO ha43 Z Z Z Z Z (W.fieldAddr Z Z Z Z (S.loadO ha43 Z Z Z Z Z (.geq Z Z Z (.nil (b6 (.ac Z h (fun hc71 h=> ?_) (fun hc71 h=> ?_))))))))))
     ·refine AWP.skip (b6 (.q (.F ?_)))
      obtain⟨a55,ha55,a59,ha59,h⟩:=b2 h
      refine AWP.u (.j Z Z (.B Z Z Z Z Z Z (.j Z Z (S.idxO ha55 Z Z Z Z Z (W.fieldAddr Z Z Z Z (S.loadO ha55 Z Z Z Z Z (S.lit (f:=intI) (l:=[a55.step]) (ess:=[[int a55.step]]) Z Z Z Z Z Z Z ⟨⟨.inl Z,Y⟩,Y⟩ Z Z Z (S.append (f:=intI) ha59 Z Z Z Z Z Z (.own Z Z) Z Z Z Z (.v Z Z (.nil (f4 (b6 (.j (env':=[(8,(cP 3 0 0)),(9,(cP 4 0 0)),(10,(cP 5 0 0)),(11,(cP 7 0 0)),(14,.c (.own 11 0 a59.length)),(15,(cI iv69))]) (σ':=[(oE 4 (tF Facts Init Goal Operators)),(oE 4 (tF Facts6 Init7 Goal8 Operators9)),.dead,(o1 (.imm (.val nL))),(o1 (bool false)),(o1 (bool false)),(oV 3 d7 c63),(o1 (.own 6 0 c63.length)),.dead,.dead,.dead,(oV 1 intI a59),(oV 1 intI [a55.step])]) 11 13 Z Z Z ⟨Z,Z,Z,Z,Z,Z,Y⟩ Z ⟨⟨Z,Z⟩,⟨Z,Z⟩,Y,⟨Z,Z⟩,⟨Z,Z⟩,⟨Z,Z⟩,⟨Blk.im_ok _ _ _,g8 Z⟩,⟨Z,Z⟩,Y,Y,Y,⟨Blk.im_ok _ _ _,g8 Z⟩,⟨Blk.im_ok _ _ _,g8 Z⟩,Y⟩ ?_)))))))))))))
      obtain⟨a49,ha49,h⟩:=b9 h
      refine AWP.u (.B Z Z Z Z Z Z (.j Z Z (S.idxO ha49 Z Z Z Z Z (W.fieldAddr Z Z Z Z (S.loadO ha49 Z Z Z Z Z (.v Z Z (.nil ?_)))))))
      obtain rfl:=oi h
      refine b6 ⟨_,Z,?_⟩
      exact Sub.cut ⟨Z,Z,Z,Z,Z,Z,Y⟩ Z ⟨.one Z,.one Z,.dead,.one Z,.one Z,.one Z,.vec,.one Z,.dead,.dead,.dead,.vec,Y⟩ Z
     ·refine AWP.exit (f5 ?_)
      obtain rfl:=oi h
      refine f5 ⟨_,Z,Z,?_⟩
      exact Sub.cut ⟨Z,Z,Z,Z,Y⟩ Z ⟨.one Z,.one Z,.dead,.one Z,.one Z,.one Z,.dead,.dead,.dead,.dead,.dead,.vec,Y⟩ Z
    ·intro e s hq
     obtain⟨rfl,hs⟩:=hq
     refine⟨_,hs,?_⟩
     refine j7 (b6 (.q (.u (.j Z Z (S.rev revL_ok Z Z Z Z Z Z (.nil (b6 (.q (.u (.j Z Z (W.store Z Z Z Z Z (W.store Z Z Z Z Z (W.store Z Z Z Z Z (.nil (b6 (.frzV (id:=11) (l:=c70.reverse) (env2:=[(8,(cP 3 0 0)),(9,(cP 4 0 0)),(10,(cP 5 0 0))]) (σ2:=[(oE 4 (tF Facts Init Goal Operators)),(oE 4 (tF Facts6 Init7 Goal8 Operators9)),.dead,(o1 (row 1 intI c70.reverse)),(o1 (bool true)),(o1 (bool true)),.dead,.dead,.dead,.dead,.dead,.dead]) Z Z (by exact⟨⟨_,Z,.inl ⟨Z,Z⟩⟩,⟨_,Z,.inl ⟨Z,Z⟩⟩,⟨_,Z,.inl ⟨Z,Z⟩⟩,Y⟩) Z (by exact⟨⟨Z,.inl ⟨Z,Z⟩,.inl ⟨Z,Z⟩,.inl ⟨Z,Z⟩,.inl ⟨Z,Z⟩,Y⟩,⟨Z,.inl ⟨Z,Z⟩,.inl ⟨Z,Z⟩,.inl ⟨Z,Z⟩,.inl ⟨Z,Z⟩,Y⟩,Y,⟨Z,.inr ⟨_,Z,List.length_reverse.symm,Z⟩,Y⟩,⟨Z,.inl ⟨Z,Z⟩,Y⟩,⟨Z,.inl ⟨Z,Z⟩,Y⟩,Y,Y,Y,Y,Y,Y,Y⟩) (.ret (e8 (j8 (e8 ?_))))))))))))))))))))
     obtain rfl:=oi h
     refine e8 ⟨_,Z,Z,?_⟩
     exact⟨⟨[(8,(cP 3 0 0)),(9,(cP 4 0 0)),(10,(cP 5 0 0))],[(oE 4 (tF Facts Init Goal Operators)),(oE 4 (tF Facts6 Init7 Goal8 Operators9)),.dead,(o1 (row 1 intI c70.reverse)),(o1 (bool true)),(o1 (bool true))]⟩,Sub.cut ⟨Z,Z,Z,Y⟩ Z ⟨.one Z,.one Z,.dead,.one Z,.one Z,.one Z,Y⟩ Z,Done.ret Z ⟨Z,Z⟩⟩
   ·refine AWP.skip (b6 (.q ?_))
    obtain⟨a66,ha66,a69,ha69,h⟩:=b2 h
    refine AWP.u (.j Z Z (.B Z Z Z Z Z Z (.B Z Z Z Z Z Z (S.idxO ha66 Z Z Z Z Z (W.fieldAddr Z Z Z Z (S.loadO ha66 Z Z Z Z Z (.callF (r2:=.c (.fn 51 [.ptr 11 0 0,.ptr 12 0 0])) (σ'':=[(oE 4 (tF Facts Init Goal Operators)),(oE 4 (tF Facts6 Init7 Goal8 Operators9)),(o1 (.fn 9 [])),(o1 (.imm (.val nL))),(o1 (bool false)),(o1 (bool false)),(oV 3 d7 c63),(o1 (.own 6 0 c63.length)),(oW Value.string vI c64),(o1 (.map 8)),(o1 (int c65)),(oE 4 (tF Facts Init Goal Operators)),(o1 (row 1 f9 a66.node))]) Z Z Z (FnOk.lend [0] (af0 ha69) Z Z Z Z Z Z (by exact⟨(.one Z),Y⟩) Z (by exact⟨(.live Z (.one Z)),Y⟩) Z Z (by exact⟨(.new 0 Z Z (.one Z)),(.old Z Z Z),(.old Z Z Z),(.old Z Z Z),(.old Z Z Z),(.old Z Z Z),(.old Z Z Z),(.old Z Z Z),(.old Z Z Z),(.old Z Z Z),(.old Z Z Z),(.new 1 Z Z (.one Z)),(.new 2 Z Z (.one Z)),Y⟩)) (.nil (b6 (.F ?_))))))))))
    obtain⟨xr72,hr72,h⟩:=b9 h
    refine AWP.rangeB [(5,none),(8,none),(9,none),(10,none),(11,none),(12,none),(13,none)] Z Z Z (fun as72 bo72 hA72 hB72=>⟨[(oE 4 (tF Facts Init Goal Operators)),(oE 4 (tF Facts6 Init7 Goal8 Operators9)),(o1 (.fn 9 [])),(o1 (.imm (.val nL))),(o1 (bool false)),(o1 (bool false)),(oV 3 d7 c63),(o1 (.own 6 0 c63.length)),(oW Value.string vI c64),(o1 (.map 8)),(o1 (int c65)),(oE 4 (tF Facts Init Goal Operators)),(o1 (row 1 f9 a66.node)),.one (i8 92 [70,71] as72 bo72 .ready none [(5,none),(8,none),(9,none),(10,none),(11,none),(12,none),(13,none)] [.ptr 2 0 0,.ptr 3 0 0,.ptr 4 0 0,.ptr 5 0 0,.ptr 7 0 0,.ptr 9 0 0,.ptr 10 0 0])],fun tt ss=>(∃v:(List (ByteArray×Int))×(List d8),xr72=.inl v∧tt=.tup []∧ss=[(oE 4 (tF Facts Init Goal Operators)),(oE 4 (tF Facts6 Init7 Goal8 Operators9)),(o1 (.fn 9 [])),(o1 (.imm (.val nL))),(o1 (bool false)),(o1 (bool false)),.dead,(o1 (.own 14 0 v.2.length)),(oW Value.string vI v.1),(o1 (.map 8)),(o1 (int c65)),(oE 4 (tF Facts Init Goal Operators)),(o1 (row 1 f9 a66.node)),.one (i8 92 [70,71] as72 bo72 .ready none [(5,none),(8,none),(9,none),(10,none),(11,none),(12,none),(13,none)] [.ptr 2 0 0,.ptr 3 0 0,.ptr 4 0 0,.ptr 5 0 0,.ptr 7 0 0,.ptr 9 0 0,.ptr 10 0 0]),(oV 3 d7 v.2)])∨(∃v:(List (ByteArray×Int))×(List d8),xr72=.inr v∧tt=.tup []∧ss=[(oE 4 (tF Facts Init Goal Operators)),(oE 4 (tF Facts6 Init7 Goal8 Operators9)),(o1 (.fn 9 [])),(o1 (.imm (.val nL))),(o1 (bool false)),(o1 (bool false)),.dead,(o1 (.own 14 0 v.2.length)),(oW Value.string vI v.1),(o1 (.map 8)),(o1 (int c65)),(oE 4 (tF Facts Init Goal Operators)),(o1 (row 1 f9 a66.node)),.one (i8 92 [70,71] as72 bo72 .done (some .ret) [(5,none),(8,none),(9,none),(10,none),(11,none),(12,none),(13,none)] [.ptr 2 0 0,.ptr 3 0 0,.ptr 4 0 0,.ptr 5 0 0,.ptr 7 0 0,.ptr 9 0 0,.ptr 10 0 0]),(oV 3 d7 v.2)]),Z,?_,?_⟩)
    ·clear h
     refine FnOk.enter (rs:=[]) func51 Z ntmps51 results51 Z Y (by kernel_rfl) Z ?_
     refine AWP.weak ?_
     unfold D6 at hr72
     try dsimp only at hr72
     refine AWP.j (env':=[(0,.c (.yld 13)),(1,(cP 11 0 0)),(2,(cP 12 0 0))]) (σ':=[(oE 4 (tF Facts Init Goal Operators)),(oE 4 (tF Facts6 Init7 Goal8 Operators9)),(o1 (.fn 9 [])),(o1 (.imm (.val nL))),(o1 (bool false)),(o1 (bool false)),.dead,(o1 (.own 14 0 c63.length)),(oW Value.string vI c64),(o1 (.map 8)),(o1 (int c65)),(oE 4 (tF Facts Init Goal Operators)),(o1 (row 1 f9 a66.node)),.one (i8 92 [70,71] as72 bo72 .ready none [(5,none),(8,none),(9,none),(10,none),(11,none),(12,none),(13,none)] [.ptr 2 0 0,.ptr 3 0 0,.ptr 4 0 0,.ptr 5 0 0,.ptr 7 0 0,.ptr 9 0 0,.ptr 10 0 0]),(oV 3 d7 c63)]) 14 6 Z Z Z ⟨Z,Z,Z,Y⟩ Z ⟨⟨Z,Z⟩,⟨Z,Z⟩,⟨Z,Z⟩,⟨Z,Z⟩,⟨Z,Z⟩,⟨Z,Z⟩,Y,⟨Z,Z⟩,⟨Z,Z⟩,⟨Z,Z⟩,⟨Z,Z⟩,⟨Z,Z⟩,⟨Z,Z⟩,⟨Z,Z⟩,⟨Blk.im_ok _ _ _,g8 Z⟩,Y⟩ (.q (.u (W.fieldAddr Z Z Z Z (.B Z Z Z Z Z Z (S.len Z Z (fun hl8=>.j Z Z (.nil (b6 (.F ?_)))))))))
     obtain⟨oo,ho3,hr72⟩:=b9 hr72
     refine AWP.rngS ho3 (fun t79 (c77,c78)=>⟨[(0,.c (.yld 13)),(1,(cP 11 0 0)),(2,(cP 12 0 0)),(7,.c (row 4 d9 Operators)),(8,(cI (Operators.length:Int))),(9,(cI t79))],[(oE 4 (tF Facts Init Goal Operators)),(oE 4 (tF Facts6 Init7 Goal8 Operators9)),(o1 (.fn 9 [])),(o1 (.imm (.val nL))),(o1 (bool false)),(o1 (bool false)),.dead,(o1 (.own 14 0 c78.length)),(oW Value.string vI c77),(o1 (.map 8)),(o1 (int c65)),(oE 4 (tF Facts Init Goal Operators)),(o1 (row 1 f9 a66.node)),.one (i8 92 [70,71] as72 bo72 .ready none [(5,none),(8,none),(9,none),(10,none),(11,none),(12,none),(13,none)] [.ptr 2 0 0,.ptr 3 0 0,.ptr 4 0 0,.ptr 5 0 0,.ptr 7 0 0,.ptr 9 0 0,.ptr 10 0 0]),(oV 3 d7 c78)]⟩) (fun o e st=>match o with| .inl (c77,c78)=>e=.exit 0∧Sub ([(oE 4 (tF Facts Init Goal Operators)),(oE 4 (tF Facts6 Init7 Goal8 Operators9)),(o1 (.fn 9 [])),(o1 (.imm (.val nL))),(o1 (bool false)),(o1 (bool false)),(oV 3 d7 c63),(o1 (.own 6 0 c63.length)),(oW Value.string vI c64),(o1 (.map 8)),(o1 (int c65)),(oE 4 (tF Facts Init Goal Operators)),(o1 (row 1 f9 a66.node)),.one (i8 92 [70,71] as72 bo72 .ready none [(5,none),(8,none),(9,none),(10,none),(11,none),(12,none),(13,none)] [.ptr 2 0 0,.ptr 3 0 0,.ptr 4 0 0,.ptr 5 0 0,.ptr 7 0 0,.ptr 9 0 0,.ptr 10 0 0])]:b7) st ⟨[],[(oE 4 (tF Facts Init Goal Operators)),(oE 4 (tF Facts6 Init7 Goal8 Operators9)),(o1 (.fn 9 [])),(o1 (.imm (.val nL))),(o1 (bool false)),(o1 (bool false)),.dead,(o1 (.own 14 0 c78.length)),(oW Value.string vI c77),(o1 (.map 8)),(o1 (int c65)),(oE 4 (tF Facts Init Goal Operators)),(o1 (row 1 f9 a66.node)),.one (i8 92 [70,71] as72 bo72 .ready none [(5,none),(8,none),(9,none),(10,none),(11,none),(12,none),(13,none)] [.ptr 2 0 0,.ptr 3 0 0,.ptr 4 0 0,.ptr 5 0 0,.ptr 7 0 0,.ptr 9 0 0,.ptr 10 0 0]),(oV 3 d7 c78)]⟩| .inr x=>e=.ret∧∃J,Sub ([(oE 4 (tF Facts Init Goal Operators)),(oE 4 (tF Facts6 Init7 Goal8 Operators9)),(o1 (.fn 9 [])),(o1 (.imm (.val nL))),(o1 (bool false)),(o1 (bool false)),(oV 3 d7 c63),(o1 (.own 6 0 c63.length)),(oW Value.string vI c64),(o1 (.map 8)),(o1 (int c65)),(oE 4 (tF Facts Init Goal Operators)),(o1 (row 1 f9 a66.node)),.one (i8 92 [70,71] as72 bo72 .ready none [(5,none),(8,none),(9,none),(10,none),(11,none),(12,none),(13,none)] [.ptr 2 0 0,.ptr 3 0 0,.ptr 4 0 0,.ptr 5 0 0,.ptr 7 0 0,.ptr 9 0 0,.ptr 10 0 0])]:b7) st J∧Done [] (fun tt ss=>(∃v:(List (ByteArray×Int))×(List d8),x=.inl v∧tt=.tup []∧ss=[(oE 4 (tF Facts Init Goal Operators)),(oE 4 (tF Facts6 Init7 Goal8 Operators9)),(o1 (.fn 9 [])),(o1 (.imm (.val nL))),(o1 (bool false)),(o1 (bool false)),.dead,(o1 (.own 14 0 v.2.length)),(oW Value.string vI v.1),(o1 (.map 8)),(o1 (int c65)),(oE 4 (tF Facts Init Goal Operators)),(o1 (row 1 f9 a66.node)),.one (i8 92 [70,71] as72 bo72 .ready none [(5,none),(8,none),(9,none),(10,none),(11,none),(12,none),(13,none)] [.ptr 2 0 0,.ptr 3 0 0,.ptr 4 0 0,.ptr 5 0 0,.ptr 7 0 0,.ptr 9 0 0,.ptr 10 0 0]),(oV 3 d7 v.2)])∨(∃v:(List (ByteArray×Int))×(List d8),x=.inr v∧tt=.tup []∧ss=[(oE 4 (tF Facts Init Goal Operators)),(oE 4 (tF Facts6 Init7 Goal8 Operators9)),(o1 (.fn 9 [])),(o1 (.imm (.val nL))),(o1 (bool false)),(o1 (bool false)),.dead,(o1 (.own 14 0 v.2.length)),(oW Value.string vI v.1),(o1 (.map 8)),(o1 (int c65)),(oE 4 (tF Facts Init Goal Operators)),(o1 (row 1 f9 a66.node)),.one (i8 92 [70,71] as72 bo72 .done (some .ret) [(5,none),(8,none),(9,none),(10,none),(11,none),(12,none),(13,none)] [.ptr 2 0 0,.ptr 3 0 0,.ptr 4 0 0,.ptr 5 0 0,.ptr 7 0 0,.ptr 9 0 0,.ptr 10 0 0]),(oV 3 d7 v.2)])) .ret J) ?_ ?_ ?_ ?_
     ·try dsimp only
      exact Sub.env ⟨Z,Z,Z,Z,Z,Z,Y⟩
     ·intro t79 s hlot79 hltt79 _
      obtain⟨c77,c78⟩:=s
      try dsimp only
      refine AWP.q (.u (.J Z Z Z (.nil (b6 (.q (.ae Z hltt79 (.exit (f5 (f5 ⟨Z,?_⟩)))))))))
      exact Sub.env Y
     ·intro t79 s o hlot79 hltt79 h
      obtain⟨c77,c78⟩:=s
      unfold s9 at h
      try dsimp only at h ⊢
      refine AWP.q (.u (.J Z Z Z (.nil (b6 (.q (.af Z hltt79 (.skip (b6 (.q (.F (.q ?_)))))))))))
      obtain⟨ai12,hai12,h⟩:=b9 h
      refine AWP.u (.j Z Z (S.idx hai12 Z Z Z Z (W.loadIAgg Z Z Z Z Z (W.alloc Z Z Z Z (.v Z Z (W.storeAgg Z Z Z Z Z Z Z (.nil (b6 (.q ?_)))))))))
      obtain⟨ai17,hai17,h⟩:=b9 h
      rcases bft (ai17) with hb80|hb80
      ·replace h:=W8 hb80 h
       obtain⟨ai24,hai24,h⟩:=b9 h
       refine AWP.u (.B Z Z Z Z Z Z (W.fieldAddr Z Z Z Z (.B Z Z Z Z Z Z (.O Z Z Z Z (N8 hai17) Z (.j Z Z (.z Z Z Z hb80 (.j Z Z (.z Z Z Z hb80 (.j Z Z (.z Z Z Z hb80 (W.loadAgg Z Z Z Z Z Z Z (.z Z Z Z hb80 (.B Z Z Z Z Z Z (.z Z Z Z hb80 (.j Z Z (.z Z Z Z hb80 (S.fresh Z Z Z Z (al2 hai24) Z Z (.frzV (id:=16) (l:=ai24) (env2:=[(0,.c (.yld 13)),(1,(cP 11 0 0)),(2,(cP 12 0 0)),(7,.c (row 4 d9 Operators)),(8,(cI (Operators.length:Int))),(9,(cI t79)),(18,(cB ai17)),(19,.c (.yld 13)),(20,(cI t79)),(24,.c (row 1 f9 ai24))]) (σ2:=[(oE 4 (tF Facts Init Goal Operators)),(oE 4 (tF Facts6 Init7 Goal8 Operators9)),(o1 (.fn 9 [])),(o1 (.imm (.val nL))),(o1 (bool false)),(o1 (bool false)),.dead,(o1 (.own 14 0 c78.length)),(oW Value.string vI c77),(o1 (.map 8)),(o1 (int c65)),(oE 4 (tF Facts Init Goal Operators)),(o1 (row 1 f9 a66.node)),.one (i8 92 [70,71] as72 bo72 .ready none [(5,none),(8,none),(9,none),(10,none),(11,none),(12,none),(13,none)] [.ptr 2 0 0,.ptr 3 0 0,.ptr 4 0 0,.ptr 5 0 0,.ptr 7 0 0,.ptr 9 0 0,.ptr 10 0 0]),(oV 3 d7 c78),(oE 4 [row 1 intI ai12.pre,row 1 intI ai12.add,row 1 intI ai12.del,int ai12.cost]),.dead]) Z Z (by exact⟨⟨_,Z,.inl ⟨Z,Z⟩⟩,⟨_,Z,.inl ⟨Z,Z⟩⟩,⟨_,Z,.inl ⟨Z,Z⟩⟩,⟨_,Z,.inl ⟨Z,Z⟩⟩,⟨_,Z,.inl ⟨Z,Z⟩⟩,⟨_,Z,.inl ⟨Z,Z⟩⟩,⟨_,Z,.inl ⟨Z,Z⟩⟩,⟨_,Z,.inl ⟨Z,Z⟩⟩,⟨_,Z,.inl ⟨Z,Z⟩⟩,⟨_,Z,.inr ⟨_,Z,Z,Z⟩⟩,Y⟩) Z (by exact⟨⟨Z,.inl ⟨Z,Z⟩,.inl ⟨Z,Z⟩,.inl ⟨Z,Z⟩,.inl ⟨Z,Z⟩,Y⟩,⟨Z,.inl ⟨Z,Z⟩,.inl ⟨Z,Z⟩,.inl ⟨Z,Z⟩,.inl ⟨Z,Z⟩,Y⟩,⟨Z,.inl ⟨Z,Z⟩,Y⟩,⟨Z,.inl ⟨Z,Z⟩,Y⟩,⟨Z,.inl ⟨Z,Z⟩,Y⟩,⟨Z,.inl ⟨Z,Z⟩,Y⟩,Y,⟨Z,.inl ⟨Z,Z⟩,Y⟩,⟨Z,Z⟩,⟨Z,.inl ⟨Z,Z⟩,Y⟩,⟨Z,.inl ⟨Z,Z⟩,Y⟩,⟨Z,.inl ⟨Z,Z⟩,.inl ⟨Z,Z⟩,.inl ⟨Z,Z⟩,.inl ⟨Z,Z⟩,Y⟩,⟨Z,.inl ⟨Z,Z⟩,Y⟩,⟨Z,Z⟩,FrzB.vec,⟨Z,.inl ⟨Z,Z⟩,.inl ⟨Z,Z⟩,.inl ⟨Z,Z⟩,.inl ⟨Z,Z⟩,Y⟩,Y,Y⟩) ?_))))))))))))))))))
       refine AOps.z Z Z Z hb80 ?_;refine AOps.yieldB (E1:=[(17,.c (row 1 f9 ai24)),(16,(cI t79)),(71,.c (row 1 f9 ai24)),(70,(cI t79)),(5,(cP 2 0 0)),(8,(cP 3 0 0)),(9,(cP 4 0 0)),(10,(cP 5 0 0)),(11,(cP 7 0 0)),(12,(cP 9 0 0)),(13,(cP 10 0 0))]) (σ1:=[(oE 4 (tF Facts Init Goal Operators)),(oE 4 (tF Facts6 Init7 Goal8 Operators9)),(o1 (.fn 9 [])),(o1 (.imm (.val nL))),(o1 (bool false)),(o1 (bool false)),.dead,(o1 (.own 14 0 c78.length)),(oW Value.string vI c77),(o1 (.map 8)),(o1 (int c65)),(oE 4 (tF Facts Init Goal Operators)),(o1 (row 1 f9 a66.node)),.one (i8 92 [70,71] as72 bo72 .ready none [(5,none),(8,none),(9,none),(10,none),(11,none),(12,none),(13,none)] [.ptr 2 0 0,.ptr 3 0 0,.ptr 4 0 0,.ptr 5 0 0,.ptr 7 0 0,.ptr 9 0 0,.ptr 10 0 0]),(oV 3 d7 c78),(oE 4 [row 1 intI ai12.pre,row 1 intI ai12.add,row 1 intI ai12.del,int ai12.cost]),.dead]) hA72 hB72 Z Z Z Z Z Z Z Z Z Z ?_ ?_
       ·refine AWP.q (.u (.v Z Z (.nil (b6 (.u (.v Z Z (.nil ?_)))))))
        exact⟨Z,Z⟩
       refine AWP.sub (s':=⟨[(5,(cP 2 0 0)),(8,(cP 3 0 0)),(9,(cP 4 0 0)),(10,(cP 5 0 0)),(11,(cP 7 0 0)),(12,(cP 9 0 0)),(13,(cP 10 0 0)),(16,(cI t79)),(17,.c (row 1 f9 ai24))],[(oE 4 (tF Facts Init Goal Operators)),(oE 4 (tF Facts6 Init7 Goal8 Operators9)),(o1 (.fn 9 [])),(o1 (.imm (.val nL))),(o1 (bool false)),(o1 (bool false)),.dead,(o1 (.own 14 0 c78.length)),(oW Value.string vI c77),(o1 (.map 8)),(o1 (int c65)),(oE 4 (tF Facts Init Goal Operators)),(o1 (row 1 f9 a66.node)),.one (i8 92 [70,71] as72 bo72 .busy none [(5,none),(8,none),(9,none),(10,none),(11,none),(12,none),(13,none)] [.ptr 2 0 0,.ptr 3 0 0,.ptr 4 0 0,.ptr 5 0 0,.ptr 7 0 0,.ptr 9 0 0,.ptr 10 0 0]),(oV 3 d7 c78),(oE 4 [row 1 intI ai12.pre,row 1 intI ai12.add,row 1 intI ai12.del,int ai12.cost]),.dead]⟩) (Sub.env ⟨Z,Z,Z,Z,Z,Z,Z,Z,Z,Y⟩) (.F (.q ?_))
       obtain⟨ab74,hab74,h⟩:=b9 h
       refine AWP.u (.B Z Z Z Z Z Z (.j Z Z (.O Z Z Z Z (Q3 hab74) Z (.v Z Z (.nil (b6 (.q (.q (.u (.B Z Z Z Z Z Z (.j Z Z (W.lookup (fk:=Value.string) (fv:=vI) (k:=ab74) (z:=0) ad8 Z (fun _=>Z) Z Z Z Z ?_))))))))))))
       refine AOps.gtr Z Z Z (.nil (b6 (.ac Z h (fun hc81 h=> ?_) (fun hc81 h=> ?_))))
       ·refine AWP.exit (f5 (j7 (B2 Z Z (.z Z Z Z hb80 (.not Z Z (.U Z hb80 Z Z (.nil (b6 (.aj Z (.skip (f4 (b6 (.u (.add Z Z Z (by omega) (.j Z Z (.nil ?_))))))))))))))))
        obtain rfl:=oi h
        refine b6 ⟨_,Z,?_⟩
        exact Sub.cut ⟨Z,Z,Z,Z,Z,Z,Y⟩ Z ⟨.one Z,.one Z,.one Z,.one Z,.one Z,.one Z,.dead,.one Z,.one Z,.one Z,.one Z,.one Z,.one Z,.one Z,.vec,Y⟩ Z
       ·refine AWP.skip (b6 (.q (.q (.u (.B Z Z Z Z Z Z (S.lenO Z Z Z (fun hl80=>.eql Z Z Z (.nil (b6 (.ac Z h (fun hc82 h=> ?_) (fun hc82 h=> ?_)))))))))))
        ·refine AWP.q (.u (W.store Z Z Z Z Z (W.store Z Z Z Z Z (W.store Z Z Z Z Z (.nil (b6 (.ret (e8 (j8 (yPost_ret Z Z (.z Z Z Z hb80 (.not Z Z (.U Z hb80 Z Z (.nil (b6 (.condT Z (.ret (j8 (e8 ?_)))))))))))))))))))
         obtain rfl:=oi h
         refine e8 ⟨_,Z,Z,?_⟩
         exact⟨⟨[],[(oE 4 (tF Facts Init Goal Operators)),(oE 4 (tF Facts6 Init7 Goal8 Operators9)),(o1 (.fn 9 [])),(o1 (.imm (.val nL))),(o1 (bool false)),(o1 (bool false)),.dead,(o1 (.own 14 0 c78.length)),(oW Value.string vI c77),(o1 (.map 8)),(o1 (int c65)),(oE 4 (tF Facts Init Goal Operators)),(o1 (row 1 f9 a66.node)),.one (i8 92 [70,71] as72 bo72 .done (some .ret) [(5,none),(8,none),(9,none),(10,none),(11,none),(12,none),(13,none)] [.ptr 2 0 0,.ptr 3 0 0,.ptr 4 0 0,.ptr 5 0 0,.ptr 7 0 0,.ptr 9 0 0,.ptr 10 0 0]),(oV 3 d7 c78)]⟩,Sub.cut Y Z ⟨.one Z,.one Z,.one Z,.one Z,.one Z,.one Z,.dead,.one Z,.one Z,.one Z,.one Z,.one Z,.one Z,.one Z,.vec,Y⟩ Z,Done.ret Z (.inr ⟨_,Z,Z,Z⟩)⟩
        ·refine AWP.skip (b6 (.q (.u (.B Z Z Z Z Z Z (.j Z Z (W.mapUpdate (fk:=Value.string) (fv:=vI) (k:=ab74) (a:=1) ad8 Z Z Z Z Z (.nil (b6 ?_))))))))
         obtain⟨ab90,hab90,h⟩:=b9 h
         refine AWP.u (.B Z Z Z Z Z Z (.j Z Z (.B Z Z Z Z Z Z (.j Z Z (W.build Z Z Z Z (S.lit (f:=d7) (l:=[(⟨ai24,c65,t79⟩:d8)]) (ess:=[[row 1 f9 ai24,int c65,int t79]]) Z Z Z Z Z Z Z ⟨⟨.inl Z,.inl Z,.inl Z,Y⟩,Y⟩ Z Z Z (S.append (f:=d7) hab90 Z Z Z Z Z Z (.own Z Z) Z Z Z Z (W.store Z Z Z Z Z (.nil (f4 (B2 Z Z (.z Z Z Z hb80 (.not Z Z (.U Z hb80 Z Z (.nil (b6 (.j (env':=[(0,.c (.yld 13)),(1,(cP 11 0 0)),(2,(cP 12 0 0)),(7,.c (row 4 d9 Operators)),(8,(cI (Operators.length:Int))),(9,(cI t79)),(27,(cB false))]) (σ':=[(oE 4 (tF Facts Init Goal Operators)),(oE 4 (tF Facts6 Init7 Goal8 Operators9)),(o1 (.fn 9 [])),(o1 (.imm (.val nL))),(o1 (bool false)),(o1 (bool false)),.dead,(o1 (.own 14 0 ab90.length)),(oW Value.string vI (mset c77 ab74 1)),(o1 (.map 8)),(o1 (int c65)),(oE 4 (tF Facts Init Goal Operators)),(o1 (row 1 f9 a66.node)),.one (i8 92 [70,71] as72 bo72 .ready none [(5,none),(8,none),(9,none),(10,none),(11,none),(12,none),(13,none)] [.ptr 2 0 0,.ptr 3 0 0,.ptr 4 0 0,.ptr 5 0 0,.ptr 7 0 0,.ptr 9 0 0,.ptr 10 0 0]),(oV 3 d7 ab90),(oE 4 [row 1 intI ai12.pre,row 1 intI ai12.add,row 1 intI ai12.del,int ai12.cost]),.dead,(oV 3 d7 [(⟨ai24,c65,t79⟩:d8)])]) 14 18 Z Z Z ⟨Z,Z,Z,Z,Z,Z,Z,Y⟩ Z ⟨⟨Z,Z⟩,⟨Z,Z⟩,⟨Z,Z⟩,⟨Z,Z⟩,⟨Z,Z⟩,⟨Z,Z⟩,Y,⟨Z,Z⟩,⟨Z,Z⟩,⟨Z,Z⟩,⟨Z,Z⟩,⟨Z,Z⟩,⟨Z,Z⟩,⟨Z,Z⟩,⟨Blk.im_ok _ _ _,g8 Z⟩,⟨Z,Z⟩,Y,⟨Blk.im_ok _ _ _,g8 Z⟩,Y⟩ (.aj Z (.skip (f4 (b6 (.u (.add Z Z Z (by omega) (.j Z Z (.nil ?_)))))))))))))))))))))))))
         obtain rfl:=oi h
         refine b6 ⟨_,Z,?_⟩
         exact Sub.cut ⟨Z,Z,Z,Z,Z,Z,Y⟩ Z ⟨.one Z,.one Z,.one Z,.one Z,.one Z,.one Z,.dead,.one Z,.one Z,.one Z,.one Z,.one Z,.one Z,.one Z,.vec,Y⟩ Z
      ·replace h:=X2 hb80 h
       refine AWP.u (.B Z Z Z Z Z Z (W.fieldAddr Z Z Z Z (.B Z Z Z Z Z Z (.O Z Z Z Z (N8 hai17) Z (.j Z Z (.E Z Z Z hb80 (.E Z Z Z hb80 (.E Z Z Z hb80 (.E Z Z Z hb80 (.E Z Z Z hb80 (.E Z Z Z hb80 (.E Z Z Z hb80 (.E Z Z Z hb80 (.ab Z hb80 Z Z (.nil (b6 (.aj Z (.skip (f4 (b6 (.u (.add Z Z Z (by omega) (.j Z Z (.nil ?_))))))))))))))))))))))))
       obtain rfl:=oi h
       refine b6 ⟨_,Z,?_⟩
       exact Sub.cut ⟨Z,Z,Z,Z,Z,Z,Y⟩ Z ⟨.one Z,.one Z,.one Z,.one Z,.one Z,.one Z,.dead,.one Z,.one Z,.one Z,.one Z,.one Z,.one Z,.one Z,.vec,Y⟩ Z
     ·intro e s hq
      rcases oo with⟨c77,c78⟩|x
      ·try dsimp only at hr72 hq
       obtain⟨rfl,hs⟩:=hq
       refine⟨_,hs,?_⟩
       refine j7 ?_
       obtain rfl:=oi hr72
       exact⟨⟨[],[(oE 4 (tF Facts Init Goal Operators)),(oE 4 (tF Facts6 Init7 Goal8 Operators9)),(o1 (.fn 9 [])),(o1 (.imm (.val nL))),(o1 (bool false)),(o1 (bool false)),.dead,(o1 (.own 14 0 c78.length)),(oW Value.string vI c77),(o1 (.map 8)),(o1 (int c65)),(oE 4 (tF Facts Init Goal Operators)),(o1 (row 1 f9 a66.node)),.one (i8 92 [70,71] as72 bo72 .ready none [(5,none),(8,none),(9,none),(10,none),(11,none),(12,none),(13,none)] [.ptr 2 0 0,.ptr 3 0 0,.ptr 4 0 0,.ptr 5 0 0,.ptr 7 0 0,.ptr 9 0 0,.ptr 10 0 0]),(oV 3 d7 c78)]⟩,Sub.env Y,Done.normal Z (.inl ⟨_,Z,Z,Z⟩)⟩
      ·try dsimp only at hr72 hq
       obtain⟨rfl,hs⟩:=hq
       refine⟨_,Sub.refl _ _,?_⟩
       refine j8 ?_
       obtain rfl:=oi hr72
       exact hs
    ·rintro tt ss (⟨⟨c73,c74⟩,rfl,rfl,rfl⟩|⟨⟨c75,c76⟩,rfl,rfl,rfl⟩)
     ·try dsimp only at h ⊢
      refine O2 Z Z (f4 (f4 (b6 (.q (.q (.u (.B Z Z Z Z Z Z (.nil (b6 (.u (W.alloc Z Z Z Z (W.store Z Z Z Z Z (.nil (b6 (.u (.B Z Z Z Z Z Z (S.add Z Z Z (W.store Z Z Z Z Z (.nil ?_)))))))))))))))))))
      obtain rfl:=oi h
      refine b6 ⟨_,Z,?_⟩
      exact(Sub.move (env':=[(2,.c (.fn 28 [.ptr 0 0 0])),(3,.c (.fn 43 [.ptr 1 0 0])),(5,(cP 2 0 0)),(8,(cP 3 0 0)),(9,(cP 4 0 0)),(10,(cP 5 0 0)),(11,(cP 7 0 0)),(12,(cP 9 0 0)),(13,(cP 10 0 0))]) (σ':=[(oE 4 (tF Facts Init Goal Operators)),(oE 4 (tF Facts6 Init7 Goal8 Operators9)),(o1 (.fn 9 [])),(o1 (.imm (.val nL))),(o1 (bool false)),(o1 (bool false)),.dead,(o1 (.own 14 0 c74.length)),(oW Value.string vI c73),(o1 (.map 8)),(o1 (int (w64 (c65+1)))),(oE 4 (tF Facts Init Goal Operators)),(o1 (row 1 f9 a66.node)),.dead,(oV 3 d7 c74)]) 10 15 Z Z Z ⟨Z,Z,Z,Z,Z,Z,Z,Z,Z,Y⟩ Z ⟨⟨Z,Z⟩,⟨Z,Z⟩,⟨Z,Z⟩,⟨Z,Z⟩,⟨Z,Z⟩,⟨Z,Z⟩,Y,⟨Z,Z⟩,⟨Z,Z⟩,⟨Z,Z⟩,⟨Z,Z⟩,⟨Z,Z⟩,⟨Z,Z⟩,Y,⟨Blk.im_ok _ _ _,g8 Z⟩,Y⟩).trans ((Sub.move (env':=[(2,.c (.fn 28 [.ptr 0 0 0])),(3,.c (.fn 43 [.ptr 1 0 0])),(5,(cP 2 0 0)),(8,(cP 3 0 0)),(9,(cP 4 0 0)),(10,(cP 5 0 0)),(11,(cP 7 0 0)),(12,(cP 9 0 0)),(13,(cP 10 0 0))]) (σ':=[(oE 4 (tF Facts Init Goal Operators)),(oE 4 (tF Facts6 Init7 Goal8 Operators9)),(o1 (.fn 9 [])),(o1 (.imm (.val nL))),(o1 (bool false)),(o1 (bool false)),(oV 3 d7 c74),(o1 (.own 6 0 c74.length)),(oW Value.string vI c73),(o1 (.map 8)),(o1 (int (w64 (c65+1)))),(oE 4 (tF Facts Init Goal Operators)),(o1 (row 1 f9 a66.node)),.dead]) 6 14 Z Z Z ⟨Z,Z,Z,Z,Z,Z,Z,Z,Z,Y⟩ Z ⟨⟨Z,Z⟩,⟨Z,Z⟩,⟨Z,Z⟩,⟨Z,Z⟩,⟨Z,Z⟩,⟨Z,Z⟩,⟨Blk.im_ok _ _ _,g8 Z⟩,⟨Z,Z⟩,⟨Z,Z⟩,⟨Z,Z⟩,⟨Z,Z⟩,⟨Z,Z⟩,⟨Z,Z⟩,Y,Y⟩).trans (Sub.cut ⟨Z,Z,Z,Z,Z,Z,Z,Z,Z,Y⟩ Z ⟨.one Z,.one Z,.one Z,.one Z,.one Z,.one Z,.vec,.one Z,.one Z,.one Z,.one Z,Y⟩ Z))
     ·try dsimp only at h ⊢
      refine rPost_jump Z Z (.nilB (b:=3) [row 1 intI []] Z (by exact⟨.inr ⟨Z,_,Z⟩,Y⟩) Z Z (.ret (j8 (j8 (e8 ?_)))))
      obtain rfl:=oi h
      refine e8 ⟨_,Z,Z,?_⟩
      exact⟨⟨[(8,(cP 3 0 0)),(9,(cP 4 0 0)),(10,(cP 5 0 0))],[(oE 4 (tF Facts Init Goal Operators)),(oE 4 (tF Facts6 Init7 Goal8 Operators9)),.dead,(o1 (row 1 intI [])),(o1 (bool false)),(o1 (bool false))]⟩,Sub.cut ⟨Z,Z,Z,Y⟩ Z ⟨.one Z,.one Z,.dead,.one Z,.one Z,.one Z,Y⟩ Z,Done.ret Z ⟨Z,Z⟩⟩
  ·refine AWP.exit (f5 ?_)
   obtain rfl:=oi h
   refine f5 ⟨_,Z,Z,?_⟩
   exact Sub.cut ⟨Z,Z,Z,Y⟩ Z ⟨.one Z,.one Z,.dead,.one Z,.one Z,.one Z,Y⟩ Z
 ·intro e s hq
  rcases oo with u|x
  ·try dsimp only at h hq
   obtain⟨rfl,hs⟩:=hq
   refine⟨_,hs,?_⟩
   refine j7 (b6 (.q (.u (W.store Z Z Z Z Z (W.store Z Z Z Z Z (W.store Z Z Z Z Z (.nil (b6 (.nilB (b:=3) [row 1 intI []] Z (by exact⟨.inr ⟨Z,_,Z⟩,Y⟩) Z Z (.ret ?_))))))))))
   obtain rfl:=oi h
   exact⟨⟨[(8,(cP 3 0 0)),(9,(cP 4 0 0)),(10,(cP 5 0 0))],[(oE 4 (tF Facts Init Goal Operators)),(oE 4 (tF Facts6 Init7 Goal8 Operators9)),.dead,(o1 (row 1 intI [])),(o1 (bool false)),(o1 (bool true))]⟩,Sub.env ⟨Z,Z,Z,Y⟩,Done.ret Z ⟨Z,Z⟩⟩
  ·try dsimp only at h hq
   obtain⟨rfl,hs⟩:=hq
   refine⟨_,Sub.refl _ _,?_⟩
   refine j8 (e8 ?_)
   obtain rfl:=oi h
   exact hs
theorem belief_Plan_ok{t:d6}{unknown:Li}{r:Li×Bool×i9}(h:V4 t unknown=some r):g9 prog 19 [.agg (tT t),(cR unknown)] (.tup [(cR r.1),(cB r.2.1),.agg [int r.2.2.code,int r.2.2.index]]):=by
 unfold g9
 refine FnOk.enter (rs:=[.t 4,.t 5,.cell 6 27 2]) func19 Z ntmps19 results19 Z ⟨Y,Y,rv _ Z,Y⟩ (by kernel_rfl) Z ?_
 unfold V4 at h
 refine AWP.q (.u (W.box Z Z Z Z Z Z (.v Z Z (.v Z Z (W.alloc Z Z Z Z (.nil (b6 (.q (.q ?_)))))))))
 obtain⟨a14,ha14,h⟩:=b9 h
 refine AWP.u (W.loadAgg Z Z Z Z Z Z Z (.j Z Z (.O Z Z Z Z (am0 ha14) Z (W.alloc Z Z Z Z (W.storeAgg Z Z Z Z Z Z Z (.nil (b6 (.q (.u (W.loadAgg Z Z Z Z Z Z Z (W.build Z Z Z Z (.neqP Z Z Z Z Z Z Z (.nil (b6 (.ad Z h (fun hc3 h=> ?_) (fun hc3 h=> ?_))))))))))))))))
 ·refine AWP.q (.drawEI [3] mixed Z Z Z ?_)
  refine d3.consN Z Z (fun E=>W.loadAgg Z Z Z Z Z Z Z .N) Z (.consN Z Z (fun E=>.v Z Z .N) Z (.consN Z Z (fun E=>.v Z Z .N) Z ?_))
  apply d3.consE (v:=.undef);exact Z;exact Z;intro E
  refine W.storeAgg Z Z Z Z Z Z Z .N
  exact Z
  exact Z
  refine d3.done Z ?_ ?_
  ·refine f7.cons Z Z (.go Z Z (fun E=>W.loadAgg Z Z Z Z Z Z Z .N) (.skip Z .nil)) (.cons Z Z (.go Z Z (fun E=>.v Z Z .N) (.skip Z .nil)) (.cons Z Z (.go Z Z (fun E=>.v Z Z .N) (.skip Z .nil)) ?_))
   refine f7.skip Z (f7.nil)
  dsimp only[j9]
  refine b6 (.nilrow 1 4 Z (.ret (e8 ?_)))
  obtain rfl:=oi h
  exact Done.ret Z Z
 ·refine AWP.skip (b6 (.q ?_))
  obtain⟨a20,ha20,h⟩:=b9 h
  refine AWP.u (W.loadAgg Z Z Z Z Z Z Z (.callF (r2:=.c (.fn 28 [.ptr 3 0 0])) (σ'':=[(oE 4 (tT t)),(oE 2 [int 0,int 0]),(oE 2 [int a14.code,int a14.index]),(oE 4 (tT t))]) Z Z Z (FnOk.lend [] (aj0 ha20) Z Z Z Z Z Z (by exact Y) Z (by exact Y) Z Z (by exact⟨(.old Z Z Z),(.old Z Z Z),(.old Z Z Z),(.new 0 Z Z (.one Z)),Y⟩)) (.v Z Z (.nil (b6 (.q (.q ?_)))))))
  obtain⟨a23,ha23,a25,ha25,h⟩:=b2 h
  refine AWP.u (W.loadAgg Z Z Z Z Z Z Z (.j Z Z (S.fresh Z Z Z Z (aj6 ha23) Z Z (.j Z Z (.frzV (id:=4) (l:=a23) (env2:=[(1,(cR unknown)),(2,(cP 0 0 0)),(6,(cP 1 0 0)),(8,.c (.fn 28 [.ptr 3 0 0])),(23,.c (row 1 f9 a23)),(24,.c (.fn 28 [.ptr 3 0 0]))]) (σ2:=[(oE 4 (tT t)),(oE 2 [int 0,int 0]),(oE 2 [int a14.code,int a14.index]),(oE 4 (tT t)),.dead]) Z Z (by exact⟨⟨_,Z,.inl ⟨Z,Z⟩⟩,⟨_,Z,.inl ⟨Z,Z⟩⟩,⟨_,Z,.inl ⟨Z,Z⟩⟩,⟨_,Z,.inl ⟨Z,Z⟩⟩,⟨_,Z,.inr ⟨_,Z,Z,Z⟩⟩,⟨_,Z,.inl ⟨Z,Z⟩⟩,Y⟩) Z (by exact⟨⟨Z,.inl ⟨Z,Z⟩,.inl ⟨Z,Z⟩,.inl ⟨Z,Z⟩,.inl ⟨Z,Z⟩,Y⟩,⟨Z,.inl ⟨Z,Z⟩,.inl ⟨Z,Z⟩,Y⟩,⟨Z,.inl ⟨Z,Z⟩,.inl ⟨Z,Z⟩,Y⟩,⟨Z,.inl ⟨Z,Z⟩,.inl ⟨Z,Z⟩,.inl ⟨Z,Z⟩,.inl ⟨Z,Z⟩,Y⟩,Y,Y⟩) (.callF (r2:=(cB a25)) (σ'':=[(oE 4 (tT t)),(oE 2 [int 0,int 0]),(oE 2 [int a14.code,int a14.index]),(oE 4 (tT t)),.dead]) Z Z Z (FnOk.lend [3] (aa0 ha25) Z Z Z Z Z Z (by exact⟨(.one Z),Y⟩) Z (by exact⟨(.live Z (.one Z)),Y⟩) Z Z (by exact⟨(.old Z Z Z),(.old Z Z Z),(.old Z Z Z),(.new 0 Z Z (.one Z)),.dead,Y⟩)) (.not Z Z (.nil (b6 (.ad Z h (fun hc4 h=> ?_) (fun hc4 h=> ?_)))))))))))
  ·refine AWP.q (.u (W.build Z Z Z Z (.v Z Z (.v Z Z (W.storeAgg Z Z Z Z Z Z Z (.nil (b6 (.nilrow 1 4 Z (.ret (e8 ?_))))))))))
   obtain rfl:=oi h
   exact Done.ret Z Z
  ·refine AWP.skip (b6 (.q ?_))
   obtain⟨a31,ha31,a34,ha34,h⟩:=b2 h
   refine AWP.u (W.loadAgg Z Z Z Z Z Z Z (.j Z Z (S.fresh Z Z Z Z (aj6 ha31) Z Z (.j Z Z (.ak Z Z (.frzV (id:=5) (l:=a31) (env2:=[(6,(cP 1 0 0)),(31,.c (row 1 f9 a31)),(32,.c (.fn 28 [.ptr 3 0 0])),(33,.c (.fn 43 [.ptr 0 0 0]))]) (σ2:=[(oE 4 (tT t)),(oE 2 [int 0,int 0]),(oE 2 [int a14.code,int a14.index]),(oE 4 (tT t)),.dead,.dead]) Z Z (by exact⟨⟨_,Z,.inl ⟨Z,Z⟩⟩,⟨_,Z,.inr ⟨_,Z,Z,Z⟩⟩,⟨_,Z,.inl ⟨Z,Z⟩⟩,⟨_,Z,.inl ⟨Z,Z⟩⟩,Y⟩) Z (by exact⟨⟨Z,.inl ⟨Z,Z⟩,.inl ⟨Z,Z⟩,.inl ⟨Z,Z⟩,.inl ⟨Z,Z⟩,Y⟩,⟨Z,.inl ⟨Z,Z⟩,.inl ⟨Z,Z⟩,Y⟩,⟨Z,.inl ⟨Z,Z⟩,.inl ⟨Z,Z⟩,Y⟩,⟨Z,.inl ⟨Z,Z⟩,.inl ⟨Z,Z⟩,.inl ⟨Z,Z⟩,.inl ⟨Z,Z⟩,Y⟩,Y,Y,Y⟩) (.callF (r2:=.tup [(cR a34.1),(cB a34.2.1),(cB a34.2.2)]) (σ'':=[(oE 4 (tT t)),(oE 2 [int 0,int 0]),(oE 2 [int a14.code,int a14.index]),(oE 4 (tT t)),.dead,.dead,.dead,(o1 (row 1 intI a34.1)),(o1 (bool a34.2.1)),(o1 (bool a34.2.2))]) Z Z Z (FnOk.lend [3,0] (ai8 ha34) Z Z Z Z Z Z (by exact⟨(.one Z),(.one Z),Y⟩) Z (by exact⟨(.live Z (.one Z)),(.live Z (.one Z)),Y⟩) Z Z (by exact⟨(.new 1 Z Z (.one Z)),(.old Z Z Z),(.old Z Z Z),(.new 0 Z Z (.one Z)),.dead,.dead,.dead,(.new 3 Z Z (.one Z)),(.new 4 Z Z (.one Z)),(.new 5 Z Z (.one Z)),Y⟩)) (.j Z Z (.aa Z Z Z (.aa Z Z Z (.aa Z Z Z (.v Z Z (.v Z Z (.v Z Z (.nil (b6 (.q (.q (.u (.j Z Z (S.len Z Z (fun hl39=>.gtr Z Z Z (.nil (b6 (.ac Z h (fun hc5 h=> ?_) (fun hc5 h=> ?_))))))))))))))))))))))))))
   ·refine AWP.q (.u (W.build Z Z Z Z (.v Z Z (.v Z Z (W.storeAgg Z Z Z Z Z Z Z (.nil (b6 (.nilrow 1 4 Z (.ret (e8 ?_))))))))))
    obtain rfl:=oi h
    exact Done.ret Z Z
   ·refine AWP.skip (b6 (.q (.u (.j Z Z (.j Z Z (W.build Z Z Z Z (.v Z Z (.v Z Z (W.storeAgg Z Z Z Z Z Z Z (.nil (b6 (.ret ?_))))))))))))
    obtain rfl:=oi h
    exact Done.ret Z Z
theorem ar7{t:d6}{op:Int}{r:i9}(h:U4 t op=some r):g9 prog 45 [.agg (tT t),(cI op)] (.agg [int r.code,int r.index]):=by
 unfold g9
 refine FnOk.enter (rs:=[.cell 4 27 2]) func45 Z ntmps45 results45 Z ⟨rv _ Z,Y⟩ (by kernel_rfl) Z ?_
 unfold U4 at h
 refine AWP.q (.u (W.box Z Z Z Z Z Z (W.alloc Z Z Z Z (.nil (b6 (.q (.q ?_)))))))
 obtain⟨a7,ha7,h⟩:=b9 h
 refine AWP.u (W.loadAgg Z Z Z Z Z Z Z (.O Z Z Z Z (G1 ha7) Z (W.alloc Z Z Z Z (W.storeAgg Z Z Z Z Z Z Z (.nil (b6 (.q (.u (W.loadAgg Z Z Z Z Z Z Z (W.build Z Z Z Z (.neqP Z Z Z Z Z Z Z (.nil (b6 (.ad Z h (fun hc3 h=> ?_) (fun hc3 h=> ?_)))))))))))))))
 ·refine AWP.q (.u (W.loadAgg Z Z Z Z Z Z Z (W.storeAgg Z Z Z Z Z Z Z (.nil (b6 (.ret (e8 ?_)))))))
  obtain rfl:=oi h
  exact Done.ret Z Z
 ·refine AWP.skip (b6 (.q (.seqJ (⟨[(4,(cP 1 0 0)),(20,(cB ((decide (op<0))||(decide ((t.operators.length:Int)≤op)))))],[(oE 4 (tT t)),(oE 2 [int 0,int 0]),(oE 2 [int a7.code,int a7.index])]⟩) ?_ ?_)))
  ·rcases bft (decide (op<0)) with hb1|hb1
   ·refine AWP.u (.j Z Z (.J Z Z Z (.j Z Z (.E Z Z Z hb1 (.E Z Z Z hb1 (.E Z Z Z hb1 (.E Z Z Z hb1 (.E Z Z Z hb1 (.U Z hb1 Z Z (.nil (b6 ?_)))))))))))
    simp only[and_t hb1,or_t hb1,Bool.false_or,Bool.true_or,Bool.false_and,Bool.true_and]
    exact Sub.env ⟨Z,Z,Y⟩
   ·refine AWP.u (.j Z Z (.J Z Z Z (.j Z Z (.z Z Z Z hb1 (.j Z Z (.z Z Z Z hb1 (W.fieldAddr Z Z Z Z (.z Z Z Z hb1 (.B Z Z Z Z Z Z ?_)))))))))
    refine AOps.z Z Z Z hb1 ?_;refine S.len Z Z (fun hl18=> ?_)
    refine AOps.z Z Z Z hb1 (.geq Z Z Z (.ab Z hb1 Z Z (.nil (b6 ?_))))
    simp only[and_f hb1,or_f hb1,Bool.false_or,Bool.true_or,Bool.false_and,Bool.true_and]
    exact Sub.env ⟨Z,Z,Y⟩
  ·refine AWP.ad Z h (fun hc4 h=> ?_) (fun hc4 h=> ?_)
   ·refine AWP.q (.u (W.build Z Z Z Z (W.storeAgg Z Z Z Z Z Z Z (.nil (b6 (.ret (e8 ?_)))))))
    obtain rfl:=oi h
    exact Done.ret Z Z
   ·refine AWP.skip (b6 (.q (.u (W.build Z Z Z Z (W.storeAgg Z Z Z Z Z Z Z (.nil (b6 (.ret ?_))))))))
    obtain rfl:=oi h
    exact Done.ret Z Z
theorem ak7{t:d6}{op:Int}{r:i9}(h:P4 t op=some r):g9 prog 62 [.agg (tT t),(cI op)] (.agg [int r.code,int r.index]):=by
 unfold g9
 refine FnOk.enter (rs:=[.cell 4 27 2]) func62 Z ntmps62 results62 Z ⟨rv _ Z,Y⟩ (by kernel_rfl) Z ?_
 unfold P4 at h
 refine AWP.q (.u (W.box Z Z Z Z Z Z (W.alloc Z Z Z Z (.nil (b6 (.q (.q ?_)))))))
 obtain⟨a7,ha7,h⟩:=b9 h
 refine AWP.u (W.loadAgg Z Z Z Z Z Z Z (.O Z Z Z Z (G1 ha7) Z (W.alloc Z Z Z Z (W.storeAgg Z Z Z Z Z Z Z (.nil (b6 (.q (.u (W.loadAgg Z Z Z Z Z Z Z (W.build Z Z Z Z (.neqP Z Z Z Z Z Z Z (.nil (b6 (.ad Z h (fun hc3 h=> ?_) (fun hc3 h=> ?_)))))))))))))))
 ·refine AWP.q (.u (W.loadAgg Z Z Z Z Z Z Z (W.storeAgg Z Z Z Z Z Z Z (.nil (b6 (.ret (e8 ?_)))))))
  obtain rfl:=oi h
  exact Done.ret Z Z
 ·refine AWP.skip (b6 (.q (.seqJ (⟨[(4,(cP 1 0 0)),(20,(cB ((decide (op<0))||(decide ((t.operators.length:Int)≤op)))))],[(oE 4 (tT t)),(oE 2 [int 0,int 0]),(oE 2 [int a7.code,int a7.index])]⟩) ?_ ?_)))
  ·rcases bft (decide (op<0)) with hb1|hb1
   ·refine AWP.u (.j Z Z (.J Z Z Z (.j Z Z (.E Z Z Z hb1 (.E Z Z Z hb1 (.E Z Z Z hb1 (.E Z Z Z hb1 (.E Z Z Z hb1 (.U Z hb1 Z Z (.nil (b6 ?_)))))))))))
    simp only[and_t hb1,or_t hb1,Bool.false_or,Bool.true_or,Bool.false_and,Bool.true_and]
    exact Sub.env ⟨Z,Z,Y⟩
   ·refine AWP.u (.j Z Z (.J Z Z Z (.j Z Z (.z Z Z Z hb1 (.j Z Z (.z Z Z Z hb1 (W.fieldAddr Z Z Z Z (.z Z Z Z hb1 (.B Z Z Z Z Z Z ?_)))))))))
    refine AOps.z Z Z Z hb1 ?_;refine S.len Z Z (fun hl18=> ?_)
    refine AOps.z Z Z Z hb1 (.geq Z Z Z (.ab Z hb1 Z Z (.nil (b6 ?_))))
    simp only[and_f hb1,or_f hb1,Bool.false_or,Bool.true_or,Bool.false_and,Bool.true_and]
    exact Sub.env ⟨Z,Z,Y⟩
  ·refine AWP.ad Z h (fun hc4 h=> ?_) (fun hc4 h=> ?_)
   ·refine AWP.q (.u (W.build Z Z Z Z (W.storeAgg Z Z Z Z Z Z Z (.nil (b6 (.ret (e8 ?_)))))))
    obtain rfl:=oi h
    exact Done.ret Z Z
   ·refine AWP.skip (b6 (.q (.u (W.build Z Z Z Z (W.storeAgg Z Z Z Z Z Z Z (.nil (b6 (.ret ?_))))))))
    obtain rfl:=oi h
    exact Done.ret Z Z
theorem aq7{t:d6}{r:Li×Li×(List i4)}(h:ac2 t=some r):FnOk prog 63 [.agg (tT t)] (ad7 t) (fun tt ss=>tt=.agg [int t.facts,.own 2 0 r.1.length,.own 3 0 r.2.1.length,.own 5 0 r.2.2.length]∧ss=[.dead,(oE 4 [int t.facts,.own 2 0 r.1.length,.own 3 0 r.2.1.length,.own 5 0 r.2.2.length]),(oV 1 intI r.1),(oV 1 intI r.2.1),.dead,omOp 5 r.2.2]):=by
 refine FnOk.enter (rs:=[.cell 2 25 4]) func63 Z ntmps63 results63 Z ⟨rv _ Z,Y⟩ (by kernel_rfl) Z ?_
 refine AWP.weak ?_
 unfold ac2 at h
 refine AWP.q (.u (W.box Z Z Z Z Z Z (W.alloc Z Z Z Z (.nil (b6 (.q ?_))))))
 obtain⟨a10,ha10,a13,ha13,h⟩:=b2 h
 refine AWP.sub (s':=⟨[(0,.agg (tT t)),(1,(cP 0 0 0)),(2,(cP 1 0 0))],[(oE 4 (tT t)),(oE 4 [int 0,.imm (.val nL),.imm (.val nL),.imm (.val nL)]),.dead,.dead,.dead]⟩) (Sub.cut ⟨Z,Z,Z,Y⟩ Z ⟨.one Z,.one Z,.dead,.dead,.dead,Y⟩ Z) (.drawTI [(cP 0 0 0),(cI t.facts),(cP 0 0 1),(cR t.init),.c (.own 2 0 a10.length),(cP 0 0 2),(cR t.goal),.c (.own 3 0 a13.length),.agg [int t.facts,.own 2 0 a10.length,.own 3 0 a13.length,.imm (.val nL)],(cP 4 0 0),.undef] [4,7,9,10] [([],[(oE 4 (tT t)),(oE 4 [int 0,.imm (.val nL),.imm (.val nL),.imm (.val nL)]),.dead,.dead,.dead]),([4],[(oE 4 (tT t)),(oE 4 [int 0,.imm (.val nL),.imm (.val nL),.imm (.val nL)]),(oV 1 intI a10),.dead,.dead]),([4,7],[(oE 4 (tT t)),(oE 4 [int 0,.imm (.val nL),.imm (.val nL),.imm (.val nL)]),(oV 1 intI a10),(oV 1 intI a13),.dead]),([9],[(oE 4 (tT t)),(oE 4 [int 0,.imm (.val nL),.imm (.val nL),.imm (.val nL)]),.dead,.dead,(oE 4 [int 0,.imm (.val nL),.imm (.val nL),.imm (.val nL)])]),([4,9],[(oE 4 (tT t)),(oE 4 [int 0,.imm (.val nL),.imm (.val nL),.imm (.val nL)]),(oV 1 intI a10),.dead,(oE 4 [int 0,.imm (.val nL),.imm (.val nL),.imm (.val nL)])]),([4,7,9],[(oE 4 (tT t)),(oE 4 [int 0,.imm (.val nL),.imm (.val nL),.imm (.val nL)]),(oV 1 intI a10),(oV 1 intI a13),(oE 4 [int 0,.imm (.val nL),.imm (.val nL),.imm (.val nL)])]),([4,7,9,10],[(oE 4 (tT t)),(oE 4 [int 0,.imm (.val nL),.imm (.val nL),.imm (.val nL)]),(oV 1 intI a10),(oV 1 intI a13),(oE 4 [int t.facts,.own 2 0 a10.length,.own 3 0 a13.length,.imm (.val nL)])])] [(oE 4 (tT t)),(oE 4 [int 0,.imm (.val nL),.imm (.val nL),.imm (.val nL)]),(oV 1 intI a10),(oV 1 intI a13),(oE 4 [int t.facts,.own 2 0 a10.length,.own 3 0 a13.length,.imm (.val nL)])] mixed Z Z Z Z Z ?_ ?_)
 ·refine I8.cons ?_ ?_
  ·refine i5.go Z Z Z (fun E hE=>W.fieldAddr Z Z Z Z .N) ?_
   refine i5.go Z Z Z (fun E hE=>.B Z Z Z Z Z Z .N) ?_
   refine i5.go Z Z Z (fun E hE=>W.fieldAddr Z Z Z Z .N) ?_
   refine i5.go Z Z Z (fun E hE=>.B Z Z Z Z Z Z .N) ?_
   apply i5.eff;exact Z;exact Z;exact Z;exact Z;intro E hE;(refine AOps.newAt 2 (.c (.own 2 0 a10.length)) (vec 1 intI a10) (.inl Z) Z hE Z Z Z Z (.vec) (.vec) Z Z Z ⟨.one Z,.one Z,.dead,.dead,.dead,Y⟩ (fun hh=>by(refine S.fresh Z Z Z Z (n5 ha10) Z Z ?_;exact hh)) ?_);exact AOps.nil ⟨Z,Z⟩
   refine i5.go Z Z Z (fun E hE=>W.fieldAddr Z Z Z Z .N) ?_
   refine i5.go Z Z Z (fun E hE=>.B Z Z Z Z Z Z .N) ?_
   refine i5.no Z (i5.no Z ?_)
   apply i5.eff;exact Z;exact Z;exact Z;exact Z;intro E hE;(refine AOps.allocAt 4 hE Z Z Z Z Z Z Z ⟨.one Z,.one Z,.dead,.dead,.dead,Y⟩ Z ?_);exact AOps.nil ⟨Z,Z⟩
   refine i5.no Z (i5.nil)
  refine I8.cons ?_ ?_
  ·refine i5.go Z Z Z (fun E hE=>W.fieldAddr Z Z Z Z .N) ?_
   refine i5.go Z Z Z (fun E hE=>.B Z Z Z Z Z Z .N) ?_
   refine i5.no Z (i5.no Z (i5.no Z ?_))
   refine i5.go Z Z Z (fun E hE=>W.fieldAddr Z Z Z Z .N) ?_
   refine i5.go Z Z Z (fun E hE=>.B Z Z Z Z Z Z .N) ?_
   apply i5.eff;exact Z;exact Z;exact Z;exact Z;intro E hE;(refine AOps.newAt 3 (.c (.own 3 0 a13.length)) (vec 1 intI a13) (.inl Z) Z hE Z Z Z Z (.vec) (.vec) Z Z Z ⟨.one Z,.one Z,.vec,.dead,.dead,Y⟩ (fun hh=>by(refine S.fresh Z Z Z Z (n5 ha13) Z Z ?_;exact hh)) ?_);exact AOps.nil ⟨Z,Z⟩
   refine i5.no Z ?_
   apply i5.eff;exact Z;exact Z;exact Z;exact Z;intro E hE;(refine AOps.allocAt 4 hE Z Z Z Z Z Z Z ⟨.one Z,.one Z,.vec,.dead,.dead,Y⟩ Z ?_);exact AOps.nil ⟨Z,Z⟩
   refine i5.no Z (i5.nil)
  refine I8.cons ?_ ?_
  ·refine i5.go Z Z Z (fun E hE=>W.fieldAddr Z Z Z Z .N) ?_
   refine i5.go Z Z Z (fun E hE=>.B Z Z Z Z Z Z .N) ?_
   refine i5.no Z (i5.no Z (i5.no Z (i5.no Z (i5.no Z (i5.no Z ?_)))))
   refine i5.go Z Z Z (fun E hE=>W.build Z Z Z Z .N) ?_
   apply i5.eff;exact Z;exact Z;exact Z;exact Z;intro E hE;(refine AOps.allocAt 4 hE Z Z Z Z Z Z Z ⟨.one Z,.one Z,.vec,.vec,.dead,Y⟩ Z ?_);exact AOps.nil ⟨Z,Z⟩
   refine i5.no Z (i5.nil)
  refine I8.cons ?_ ?_
  ·refine i5.go Z Z Z (fun E hE=>W.fieldAddr Z Z Z Z .N) ?_
   refine i5.go Z Z Z (fun E hE=>.B Z Z Z Z Z Z .N) ?_
   refine i5.go Z Z Z (fun E hE=>W.fieldAddr Z Z Z Z .N) ?_
   refine i5.go Z Z Z (fun E hE=>.B Z Z Z Z Z Z .N) ?_
   apply i5.eff;exact Z;exact Z;exact Z;exact Z;intro E hE;(refine AOps.newAt 2 (.c (.own 2 0 a10.length)) (vec 1 intI a10) (.inl Z) Z hE Z Z Z Z (.vec) (.vec) Z Z Z ⟨.one Z,.one Z,.dead,.dead,.one Z,Y⟩ (fun hh=>by(refine S.fresh Z Z Z Z (n5 ha10) Z Z ?_;exact hh)) ?_);exact AOps.nil ⟨Z,Z⟩
   refine i5.go Z Z Z (fun E hE=>W.fieldAddr Z Z Z Z .N) ?_
   refine i5.go Z Z Z (fun E hE=>.B Z Z Z Z Z Z .N) ?_
   refine i5.no Z (i5.no Z (i5.no Z (i5.no Z (i5.nil))))
  refine I8.cons ?_ ?_
  ·refine i5.go Z Z Z (fun E hE=>W.fieldAddr Z Z Z Z .N) ?_
   refine i5.go Z Z Z (fun E hE=>.B Z Z Z Z Z Z .N) ?_
   refine i5.no Z (i5.no Z (i5.no Z ?_))
   refine i5.go Z Z Z (fun E hE=>W.fieldAddr Z Z Z Z .N) ?_
   refine i5.go Z Z Z (fun E hE=>.B Z Z Z Z Z Z .N) ?_
   apply i5.eff;exact Z;exact Z;exact Z;exact Z;intro E hE;(refine AOps.newAt 3 (.c (.own 3 0 a13.length)) (vec 1 intI a13) (.inl Z) Z hE Z Z Z Z (.vec) (.vec) Z Z Z ⟨.one Z,.one Z,.vec,.dead,.one Z,Y⟩ (fun hh=>by(refine S.fresh Z Z Z Z (n5 ha13) Z Z ?_;exact hh)) ?_);exact AOps.nil ⟨Z,Z⟩
   refine i5.no Z (i5.no Z (i5.no Z (i5.nil)))
  refine I8.cons ?_ ?_
  ·refine i5.go Z Z Z (fun E hE=>W.fieldAddr Z Z Z Z .N) ?_
   refine i5.go Z Z Z (fun E hE=>.B Z Z Z Z Z Z .N) ?_
   refine i5.no Z (i5.no Z (i5.no Z (i5.no Z (i5.no Z (i5.no Z ?_)))))
   refine i5.go Z Z Z (fun E hE=>W.build Z Z Z Z .N) ?_
   refine i5.no Z ?_
   apply i5.eff;exact Z;exact Z;exact Z;exact Z;intro E hE;(refine W.storeAgg Z Z Z Z Z Z Z ?_);exact AOps.nil ⟨Z,Z⟩
   exact i5.nil
  refine I8.cons ?_ ?_
  ·refine i5.no Z (i5.no Z (i5.no Z (i5.no Z (i5.no Z (i5.no Z (i5.no Z (i5.no Z (i5.no Z (i5.no Z (i5.no Z (i5.nil)))))))))))
  exact I8.nil
 dsimp only[j9]
 refine b6 (.q (.q (.u (W.fieldAddr Z Z Z Z (.B Z Z Z Z Z Z (S.len Z Z (fun hl17=>.j Z Z (.nil (b6 (.F (.virtBO 4 preOp postOp i4.add 1 intI (b:=4) (o:=3) Z Z Z Z Z Z Z Z ?_)))))))))))
 obtain⟨c55,ho1,h⟩:=b9 h
 refine AWP.forS ho1 (fun t56 c55=>⟨[(2,(cP 1 0 0)),(3,(cP 4 0 0)),(16,.c (row 4 d9 t.operators)),(17,(cI (t.operators.length:Int))),(18,(cI t56))],[.dead,(oE 4 [int 0,.imm (.val nL),.imm (.val nL),.imm (.val nL)]),(oV 1 intI a10),(oV 1 intI a13),(oE 4 [int t.facts,.own 2 0 a10.length,.own 3 0 a13.length,.own 5 0 c55.length]),omOp 5 c55]⟩) (fun c55 e st=>e=.exit 0∧Sub (ad7 t) st ⟨[(2,(cP 1 0 0)),(3,(cP 4 0 0))],[.dead,(oE 4 [int 0,.imm (.val nL),.imm (.val nL),.imm (.val nL)]),(oV 1 intI a10),(oV 1 intI a13),(oE 4 [int t.facts,.own 2 0 a10.length,.own 3 0 a13.length,.own 5 0 c55.length]),omOp 5 c55]⟩) ?_ ?_ ?_ ?_
 ·try dsimp only
  exact Sub.cut ⟨Z,Z,Z,Z,Z,Y⟩ Z ⟨.dead,.one Z,.vec,.vec,.one Z,(.any (om_ok Z)),Y⟩ Z
 ·intro t56 c55 hlot56 hltt56 _
  try dsimp only
  refine AWP.q (.u (.J Z Z Z (.nil (b6 (.q (.ae Z hltt56 (.exit (f5 (f5 ⟨Z,?_⟩)))))))))
  exact Sub.env ⟨Z,Z,Y⟩
 ·intro t56 c55 o hlot56 hltt56 h
  unfold af3 at h
  try dsimp only at h ⊢
  refine AWP.q (.u (.J Z Z Z (.nil (b6 (.q (.af Z hltt56 (.skip (b6 (.q (.F (.q ?_)))))))))))
  obtain⟨a20,ha20,h⟩:=b9 h
  refine AWP.u (S.idx ha20 Z Z Z Z (W.loadIAgg Z Z Z Z Z (W.alloc Z Z Z Z (W.storeAgg Z Z Z Z Z Z Z (.nil (b6 ?_))))))
  obtain⟨a26,ha26,a29,ha29,a32,ha32,h⟩:=b3 h
  obtain⟨a37,ha37,h⟩:=b9 h
  refine AWP.drawEI [7,14,15,17] mixed Z Z Z ?_
  refine d3.consN Z Z (fun E=>W.fieldAddr Z Z Z Z .N) Z (.consN Z Z (fun E=>.B Z Z Z Z Z Z .N) Z (.consN Z Z (fun E=>W.fieldAddr Z Z Z Z .N) Z (.consN Z Z (fun E=>.B Z Z Z Z Z Z .N) Z (.consN Z Z (fun E=>.O Z Z Z Z (n8.data (n5 ha26)) Z .N) Z (.consN Z Z (fun E=>W.fieldAddr Z Z Z Z .N) Z (.consN Z Z (fun E=>.B Z Z Z Z Z Z .N) Z ?_))))))
  apply d3.consE;exact Z;exact Z;intro E
  refine S.fresh Z Z Z Z (n5 ha29) Z Z .N
  exact Z
  exact Z
  refine d3.consN Z Z (fun E=>W.fieldAddr Z Z Z Z .N) Z (.consN Z Z (fun E=>.B Z Z Z Z Z Z .N) Z (.consN Z Z (fun E=>.O Z Z Z Z (n8.data (n5 ha32)) Z .N) Z (.consN Z Z (fun E=>W.fieldAddr Z Z Z Z .N) Z (.consN Z Z (fun E=>.B Z Z Z Z Z Z .N) Z (.consN Z Z (fun E=>W.build Z Z Z Z .N) Z ?_)))))
  apply d3.consE;exact Z;exact Z;intro E
  refine W.lit1 Z Z Z Z Z Z Z Z Z .N
  exact Z
  exact Z
  apply d3.consE;exact Z;exact Z;intro E
  refine S.appendO (a:=(⟨a26,a29,a32,a20.cost⟩:i4)) ha37 Z Z Z Z Z Z Z Z Z Z Z Z Z Z Z Z .N
  exact Z
  exact Z
  refine d3.consN Z Z (fun E=>W.fieldAddr Z Z Z Z .N) Z ?_
  apply d3.consE (v:=.undef);exact Z;exact Z;intro E
  refine W.store Z Z Z Z Z .N
  exact Z
  exact Z
  refine d3.done Z ?_ ?_
  ·refine f7.cons Z Z (.go Z Z (fun E=>W.fieldAddr Z Z Z Z .N) (.go Z Z (fun E=>W.fieldAddr Z Z Z Z .N) (.go Z Z (fun E=>W.fieldAddr Z Z Z Z .N) (.skip Z (.skip Z .nil))))) (.cons Z Z (.go Z Z (fun E=>.B Z Z Z Z Z Z .N) (.go Z Z (fun E=>.B Z Z Z Z Z Z .N) (.go Z Z (fun E=>.B Z Z Z Z Z Z .N) (.skip Z (.skip Z .nil))))) (.cons Z Z (.go Z Z (fun E=>W.fieldAddr Z Z Z Z .N) (.skip Z (.skip Z (.skip Z (.skip Z .nil))))) (.cons Z Z (.go Z Z (fun E=>.B Z Z Z Z Z Z .N) (.skip Z (.skip Z (.skip Z (.skip Z .nil))))) (.cons Z Z (.go Z Z (fun E=>.O Z Z Z Z (n8.data (n5 ha26)) Z .N) (.skip Z (.skip Z (.skip Z (.skip Z .nil))))) (.cons Z Z (.go Z Z (fun E=>W.fieldAddr Z Z Z Z .N) (.skip Z (.skip Z (.skip Z (.skip Z .nil))))) (.cons Z Z (.go Z Z (fun E=>.B Z Z Z Z Z Z .N) (.skip Z (.skip Z (.skip Z (.skip Z .nil))))) ?_))))))
   refine f7.skip Z ?_
   refine f7.cons Z Z (.go Z Z (fun E=>W.fieldAddr Z Z Z Z .N) (.go Z Z (fun E=>W.fieldAddr Z Z Z Z .N) (.skip Z (.skip Z (.skip Z .nil))))) (.cons Z Z (.go Z Z (fun E=>.B Z Z Z Z Z Z .N) (.go Z Z (fun E=>.B Z Z Z Z Z Z .N) (.skip Z (.skip Z (.skip Z .nil))))) ?_)
   refine f7.cons Z Z ?_ ?_
   refine j2.skip Z ?_
   refine j2.go Z Z (fun E=>.O Z Z Z Z (n8.data (n5 ha32)) Z .N) ?_
   refine j2.skip Z (j2.skip Z (j2.skip Z (j2.nil)))
   refine f7.cons Z Z (.go Z Z (fun E=>W.fieldAddr Z Z Z Z .N) (.go Z Z (fun E=>W.fieldAddr Z Z Z Z .N) (.skip Z (.skip Z (.skip Z .nil))))) (.cons Z Z (.go Z Z (fun E=>.B Z Z Z Z Z Z .N) (.go Z Z (fun E=>.B Z Z Z Z Z Z .N) (.skip Z (.skip Z (.skip Z .nil))))) ?_)
   refine f7.cons Z Z ?_ ?_
   refine j2.skip Z ?_
   refine j2.go Z Z (fun E=>W.build Z Z Z Z .N) ?_
   refine j2.skip Z (j2.skip Z (j2.skip Z (j2.nil)))
   refine f7.skip Z (f7.skip Z ?_)
   refine f7.cons Z Z ?_ ?_
   refine j2.skip Z (j2.skip Z (j2.skip Z ?_))
   refine j2.go Z Z (fun E=>W.fieldAddr Z Z Z Z .N) ?_
   refine j2.skip Z (j2.nil)
   refine f7.skip Z (f7.nil)
  dsimp only[j9]
  refine f4 (b6 (.moveM (env':=[(2,(cP 1 0 0)),(3,(cP 4 0 0)),(16,.c (row 4 d9 t.operators)),(17,(cI (t.operators.length:Int))),(18,(cI t56))]) (σ':=[.dead,(oE 4 [int 0,.imm (.val nL),.imm (.val nL),.imm (.val nL)]),(oV 1 intI a10),(oV 1 intI a13),(oE 4 [int t.facts,.own 2 0 a10.length,.own 3 0 a13.length,.own 5 0 a37.length]),omOp 5 a37,(oE 4 [row 1 intI a20.pre,row 1 intI a20.add,row 1 intI a20.del,int a20.cost]),.dead,(oE 4 [row 1 intI a26,.own 7 0 a29.length,row 1 intI a32,int a20.cost])]) 5 9 Z Z Z ⟨Z,Z,Z,Z,Z,Y⟩ Z ⟨.dead,(.one Z Z),(.vec Z),(.vec Z),(.one Z Z),(EntR.omat Z Z Z),(.one Z Z),.dead,(.one Z Z),Y⟩ (.u (.add Z Z Z (by omega) (.j Z Z (.nil ?_))))))
  obtain rfl:=oi h
  refine b6 (Sub.cut ⟨Z,Z,Z,Z,Z,Y⟩ Z ⟨.dead,.one Z,.vec,.vec,.one Z,(.any (om_ok Z)),Y⟩ Z)
 ·intro e s hq
  obtain⟨rfl,hs⟩:=hq
  refine⟨_,hs,?_⟩
  refine j7 (b6 (.q (.u (W.loadAgg Z Z Z Z Z Z Z (W.storeAgg Z Z Z Z Z Z Z (.nil (b6 (.ret ?_))))))))
  obtain rfl:=oi h
  exact⟨⟨[(2,(cP 1 0 0))],[.dead,(oE 4 [int t.facts,.own 2 0 a10.length,.own 3 0 a13.length,.own 5 0 c55.length]),(oV 1 intI a10),(oV 1 intI a13),.dead,omOp 5 c55]⟩,Sub.cut ⟨Z,Y⟩ Z ⟨.dead,.one Z,.vec,.vec,.dead,(.any (om_ok Z)),Y⟩ Z,Done.ret Z ⟨Z,Z⟩⟩
end Ab
end
section
namespace Ab
open Go Go.Proofs
open Tryz
set_option maxHeartbeats 4000000
set_option linter.all false
attribute [local irreducible] AWP AOps thn inB Done g9 n8 Sub
theorem ar3{t:d6}{op:Int}{r:d6×i9}(h:R3 t op=some r):g9 prog 46 [.agg (tT t),(cI op)] (.tup [.agg (tT r.1),.agg [int r.2.code,int r.2.index]]):=by
 unfold g9
 refine FnOk.enter (rs:=[.cell 4 25 4,.cell 5 27 2]) func46 Z ntmps46 results46 Z ⟨rv _ Z,rv _ Z,Y⟩ (by kernel_rfl) Z ?_
 unfold R3 at h
 refine AWP.q (.u (W.box Z Z Z Z Z Z (W.alloc Z Z Z Z (W.alloc Z Z Z Z (.nil (b6 (.q (.q ?_))))))))
 obtain⟨a10,ha10,h⟩:=b9 h
 refine AWP.u (W.loadAgg Z Z Z Z Z Z Z (.j Z Z (.O Z Z Z Z (ak7 ha10) Z (W.alloc Z Z Z Z (W.storeAgg Z Z Z Z Z Z Z (.nil (b6 (.q (.u (W.loadAgg Z Z Z Z Z Z Z (W.build Z Z Z Z (.neqP Z Z Z Z Z Z Z (.nil (b6 (.ad Z h (fun hc3 h=> ?_) (fun hc3 h=> ?_))))))))))))))))
 ·refine AWP.q (.drawEI [2,3] mixed Z Z Z ?_)
  refine d3.consN Z Z (fun E=>W.build Z Z Z Z .N) Z (.consN Z Z (fun E=>W.loadAgg Z Z Z Z Z Z Z .N) Z ?_)
  apply d3.consE (v:=.undef);exact Z;exact Z;intro E
  refine W.storeAgg Z Z Z Z Z Z Z .N
  exact Z
  exact Z
  apply d3.consE (v:=.undef);exact Z;exact Z;intro E
  refine W.storeAgg Z Z Z Z Z Z Z .N
  exact Z
  exact Z
  refine d3.done Z ?_ ?_
  ·refine f7.cons Z Z (.go Z Z (fun E=>W.build Z Z Z Z .N) (.skip Z (.skip Z .nil))) (.cons Z Z (.go Z Z (fun E=>W.loadAgg Z Z Z Z Z Z Z .N) (.go Z Z (fun E=>W.loadAgg Z Z Z Z Z Z Z .N) (.skip Z .nil))) ?_)
   refine f7.skip Z (f7.skip Z (f7.nil))
  dsimp only[j9]
  refine b6 (.nilB (b:=1) [int 0,row 1 intI [],row 1 intI [],row 4 d9 []] Z (by exact⟨.inl Z,.inr ⟨Z,_,Z⟩,.inr ⟨Z,_,Z⟩,.inr ⟨Z,_,Z⟩,Y⟩) Z Z (.ret (e8 ?_)))
  obtain rfl:=oi h
  exact Done.ret Z Z
 ·refine AWP.skip (b6 (.q (.q (.u (W.fieldAddr Z Z Z Z (.B Z Z Z Z Z Z (.eql Z Z Z (.nil (b6 (.ac Z h (fun hc4 h=> ?_) (fun hc4 h=> ?_)))))))))))
  ·refine AWP.q (.u (W.build Z Z Z Z (W.build Z Z Z Z (W.storeAgg Z Z Z Z Z Z Z (W.storeAgg Z Z Z Z Z Z Z (.nil (b6 (.nilB (b:=1) [int 0,row 1 intI [],row 1 intI [],row 4 d9 []] Z (by exact⟨.inl Z,.inr ⟨Z,_,Z⟩,.inr ⟨Z,_,Z⟩,.inr ⟨Z,_,Z⟩,Y⟩) Z Z (.ret (e8 ?_))))))))))
   obtain rfl:=oi h
   exact Done.ret Z Z
  ·refine AWP.skip (b6 (.q ?_))
   obtain⟨a22,ha22,ao5,hao5,h⟩:=b2 h
   refine AWP.u (W.loadAgg Z Z Z Z Z Z Z ?_)
   refine AOps.callF (r2:=.agg [int t.facts,.own 6 0 a22.1.length,.own 7 0 a22.2.1.length,.own 9 0 a22.2.2.length]) (σ'':=[(oE 4 (tT t)),(oE 4 [int 0,.imm (.val nL),.imm (.val nL),.imm (.val nL)]),(oE 2 [int 0,int 0]),(oE 2 [int a10.code,int a10.index]),.dead,(oE 4 [int t.facts,.own 6 0 a22.1.length,.own 7 0 a22.2.1.length,.own 9 0 a22.2.2.length]),(oV 1 intI a22.1),(oV 1 intI a22.2.1),.dead,omOp 9 a22.2.2]) Z Z Z (FnOk.lend [] (aq7 ha22) Z Z Z Z Z Z (by exact Y) Z (by exact Y) Z Z (by exact⟨(.old Z Z Z),(.old Z Z Z),(.old Z Z Z),(.old Z Z Z),.dead,(.new 1 Z Z (.one Z)),(.new 2 Z Z .vec),(.new 3 Z Z .vec),.dead,(.new 5 Z Z (RenE.omat fun _=>Z)),Y⟩)) ?_;refine AOps.sub (s':=⟨[(0,.agg (tT t)),(1,(cI op)),(2,(cP 0 0 0)),(4,(cP 1 0 0)),(5,(cP 2 0 0)),(6,(cP 3 0 0)),(8,.agg (tT t)),(9,(cI op)),(10,.agg [int a10.code,int a10.index]),(11,.agg [int a10.code,int a10.index]),(12,.agg [int 0,int 0]),(13,(cB (!((decide (a10.code=0)) && (decide (a10.index=0)))))),(16,(cP 0 0 0)),(17,(cI t.facts)),(18,(cB (decide (t.facts=24)))),(21,.agg (tT t)),(22,.agg [int t.facts,.own 6 0 a22.1.length,.own 7 0 a22.2.1.length,.own 9 0 a22.2.2.length])],[(oE 4 (tT t)),(oE 4 [int 0,.imm (.val nL),.imm (.val nL),.imm (.val nL)]),(oE 2 [int 0,int 0]),(oE 2 [int a10.code,int a10.index]),.dead,(oE 4 [int t.facts,.own 6 0 a22.1.length,.own 7 0 a22.2.1.length,.own 9 0 a22.2.2.length]),(oV 1 intI a22.1),(oV 1 intI a22.2.1),.dead,omOp 9 a22.2.2]⟩) (Sub.env ⟨Z,Z,Z,Z,Z,Z,Z,Z,Z,Z,Z,Z,Z,Z,Z,Z,Z,Y⟩) ?_;refine AOps.sub (s':=⟨[(0,.agg (tT t)),(1,(cI op)),(2,(cP 0 0 0)),(4,(cP 1 0 0)),(5,(cP 2 0 0)),(6,(cP 3 0 0)),(8,.agg (tT t)),(9,(cI op)),(10,.agg [int a10.code,int a10.index]),(11,.agg [int a10.code,int a10.index]),(12,.agg [int 0,int 0]),(13,(cB (!((decide (a10.code=0)) && (decide (a10.index=0)))))),(16,(cP 0 0 0)),(17,(cI t.facts)),(18,(cB (decide (t.facts=24)))),(21,.agg (tT t)),(22,.agg [int t.facts,.own 6 0 a22.1.length,.own 7 0 a22.2.1.length,.own 9 0 a22.2.2.length])],[(oE 4 (tT t)),(oE 4 [int 0,.imm (.val nL),.imm (.val nL),.imm (.val nL)]),(oE 2 [int 0,int 0]),(oE 2 [int a10.code,int a10.index]),.dead,(oE 4 [int t.facts,.own 6 0 a22.1.length,.own 7 0 a22.2.1.length,.own 9 0 a22.2.2.length]),(oV 1 intI a22.1),(oV 1 intI a22.2.1),.dead,.one (vpOp a22.2.2 op.toNat 10 ao5.add.length ao5),(oV 1 intI ao5.add)]⟩) (Sub.splitO (r:=9) (n:=10) Z Z (C7 hao5).2 (RlL.all (by exact⟨.one (fun _=>Z),.one (fun _=>Z),.one (fun _=>Z),.one (fun _=>Z),.dead,.one (fun _=>Z),.vec,.vec,.dead,.self,Y⟩)) Z Z Z Z) ?_
   refine W.alloc Z Z Z Z (W.storeAgg Z Z Z Z Z Z Z (.nil (b6 (.q ?_))))
   obtain⟨a28,ha28,h⟩:=b9 h
   refine AWP.u (W.fieldAddr Z Z Z Z (.B Z Z Z Z Z Z (W.fieldAddr Z Z Z Z (.B Z Z Z Z Z Z (S.lit (f:=intI) (l:=[t.facts]) (ess:=[[int t.facts]]) Z Z Z Z Z Z Z ⟨⟨.inl Z,Y⟩,Y⟩ Z Z Z (S.append (f:=intI) ha28 Z Z Z Z Z Z (.own Z Z) Z Z Z Z (W.fieldAddr Z Z Z Z (W.store Z Z Z Z Z (.nil (b6 (.q (.j (env':=[(1,(cI op)),(4,(cP 1 0 0)),(5,(cP 2 0 0)),(7,(cP 11 0 0))]) (σ':=[(oE 4 (tT t)),(oE 4 [int 0,.imm (.val nL),.imm (.val nL),.imm (.val nL)]),(oE 2 [int 0,int 0]),(oE 2 [int a10.code,int a10.index]),.dead,.dead,(oV 1 intI a22.1),(oV 1 intI a28),.dead,.one (vpOp a22.2.2 op.toNat 10 ao5.add.length ao5),(oV 1 intI ao5.add),(oE 4 [int t.facts,.own 6 0 a22.1.length,.own 7 0 a28.length,.own 9 0 a22.2.2.length]),(oV 1 intI [t.facts])]) 7 13 Z Z Z ⟨Z,Z,Z,Z,Y⟩ Z ⟨⟨Z,Z⟩,⟨Z,Z⟩,⟨Z,Z⟩,⟨Z,Z⟩,Y,Y,⟨Blk.im_ok _ _ _,g8 Z⟩,⟨Blk.im_ok _ _ _,g8 Z⟩,Y,⟨vp_ok Z,vp_mv Z Z⟩,⟨Blk.im_ok _ _ _,g8 Z⟩,⟨Z,Z⟩,⟨Blk.im_ok _ _ _,g8 Z⟩,Y⟩ ?_))))))))))))
   obtain⟨a42,ha42,h⟩:=b9 h
   refine AWP.drawEI [11,12,15] mixed Z Z Z ?_
   refine d3.consN Z Z (fun E=>W.fieldAddr Z Z Z Z .N) Z (.consN Z Z (fun E=>.B Z Z Z Z Z Z .N) Z (.consN Z Z (fun E=>.j Z Z .N) Z (.consN Z Z (fun E=>W.fieldAddr Z Z Z Z .N) Z (.consN Z Z (fun E=>.B Z Z Z Z Z Z .N) Z (.consN Z Z (fun E=>.j Z Z .N) Z (.consN Z Z (fun E=>S.idxVP hao5 Z Z Z Z Z .N) Z (.consN Z Z (fun E=>W.fieldAddr Z Z Z Z .N) Z (.consN Z Z (fun E=>S.loadVP hao5 Z Z Z Z Z .N) Z (.consN Z Z (fun E=>W.fieldAddr Z Z Z Z .N) Z (.consN Z Z (fun E=>.B Z Z Z Z Z Z .N) Z ?_))))))))))
   apply d3.consE;exact Z;exact Z;intro E
   refine S.lit (f:=intI) (l:=[t.facts]) (ess:=[[int t.facts]]) Z Z Z Z Z Z Z ⟨⟨.inl Z,Y⟩,Y⟩ Z Z Z .N
   exact Z
   exact Z
   apply d3.consE;exact Z;exact Z;intro E
   refine S.append (f:=intI) ha42 Z Z Z Z Z Z (.own Z Z) Z Z Z Z .N
   exact Z
   exact Z
   refine d3.consN Z Z (fun E=>S.idxVP hao5 Z Z Z Z Z .N) Z (.consN Z Z (fun E=>W.fieldAddr Z Z Z Z .N) Z ?_)
   apply d3.consE (v:=.undef);exact Z;exact Z;intro E
   refine S.storeVP hao5 Z Z Z Z Z .N
   exact Z
   exact Z
   refine d3.done Z ?_ ?_
   ·refine f7.cons Z Z (.go Z Z (fun E=>W.fieldAddr Z Z Z Z .N) (.go Z Z (fun E=>W.fieldAddr Z Z Z Z .N) (.go Z Z (fun E=>W.fieldAddr Z Z Z Z .N) (.skip Z .nil)))) (.cons Z Z (.go Z Z (fun E=>.B Z Z Z Z Z Z .N) (.go Z Z (fun E=>.B Z Z Z Z Z Z .N) (.go Z Z (fun E=>.B Z Z Z Z Z Z .N) (.skip Z .nil)))) (.cons Z Z (.go Z Z (fun E=>.j Z Z .N) (.go Z Z (fun E=>.j Z Z .N) (.go Z Z (fun E=>.j Z Z .N) (.skip Z .nil)))) (.cons Z Z (.go Z Z (fun E=>W.fieldAddr Z Z Z Z .N) (.go Z Z (fun E=>W.fieldAddr Z Z Z Z .N) (.skip Z (.skip Z .nil)))) (.cons Z Z (.go Z Z (fun E=>.B Z Z Z Z Z Z .N) (.go Z Z (fun E=>.B Z Z Z Z Z Z .N) (.skip Z (.skip Z .nil)))) (.cons Z Z (.go Z Z (fun E=>.j Z Z .N) (.go Z Z (fun E=>.j Z Z .N) (.skip Z (.skip Z .nil)))) (.cons Z Z (.go Z Z (fun E=>S.idxVP hao5 Z Z Z Z Z .N) (.go Z Z (fun E=>S.idxVP hao5 Z Z Z Z Z .N) (.skip Z (.skip Z .nil)))) (.cons Z Z (.go Z Z (fun E=>W.fieldAddr Z Z Z Z .N) (.go Z Z (fun E=>W.fieldAddr Z Z Z Z .N) (.skip Z (.skip Z .nil)))) (.cons Z Z (.go Z Z (fun E=>S.loadVP hao5 Z Z Z Z Z .N) (.go Z Z (fun E=>S.loadVP hao5 Z Z Z Z Z .N) (.skip Z (.skip Z .nil)))) (.cons Z Z (.go Z Z (fun E=>W.fieldAddr Z Z Z Z .N) (.skip Z (.skip Z (.skip Z .nil)))) (.cons Z Z (.go Z Z (fun E=>.B Z Z Z Z Z Z .N) (.skip Z (.skip Z (.skip Z .nil)))) ?_))))))))))
    refine f7.skip Z (f7.skip Z ?_)
    refine f7.cons Z Z ?_ ?_
    refine j2.skip Z (j2.skip Z ?_)
    refine j2.go Z Z (fun E=>S.idxVP hao5 Z Z Z Z Z .N) ?_
    refine j2.skip Z (j2.nil)
    refine f7.cons Z Z ?_ ?_
    refine j2.skip Z (j2.skip Z ?_)
    refine j2.go Z Z (fun E=>W.fieldAddr Z Z Z Z .N) ?_
    refine j2.skip Z (j2.nil)
    refine f7.skip Z (f7.nil)
   dsimp only[j9]
   refine b6 (.q (.j (env':=[(4,(cP 1 0 0)),(5,(cP 2 0 0)),(7,(cP 11 0 0))]) (σ':=[(oE 4 (tT t)),(oE 4 [int 0,.imm (.val nL),.imm (.val nL),.imm (.val nL)]),(oE 2 [int 0,int 0]),(oE 2 [int a10.code,int a10.index]),.dead,.dead,(oV 1 intI a22.1),(oV 1 intI a28),.dead,.one (vpOp a22.2.2 op.toNat 10 a42.length ao5),(oV 1 intI a42),(oE 4 [int t.facts,.own 6 0 a22.1.length,.own 7 0 a28.length,.own 9 0 a22.2.2.length]),(oV 1 intI [t.facts]),(oV 1 intI [t.facts])]) 10 14 Z Z Z ⟨Z,Z,Z,Y⟩ Z ⟨⟨Z,Z⟩,⟨Z,Z⟩,⟨Z,Z⟩,⟨Z,Z⟩,Y,Y,⟨Blk.im_ok _ _ _,g8 Z⟩,⟨Blk.im_ok _ _ _,g8 Z⟩,Y,⟨vp_ok Z,vp_mv Z Z⟩,⟨Blk.im_ok _ _ _,g8 Z⟩,⟨Z,Z⟩,⟨Blk.im_ok _ _ _,g8 Z⟩,⟨Blk.im_ok _ _ _,g8 Z⟩,Y⟩ (.u (W.fieldAddr Z Z Z Z (.B Z Z Z Z Z Z (S.add Z Z Z (W.fieldAddr Z Z Z Z (W.store Z Z Z Z Z (.nil (b6 (.q (.u (W.loadAgg Z Z Z Z Z Z Z (W.build Z Z Z Z (W.storeAgg Z Z Z Z Z Z Z (W.storeAgg Z Z Z Z Z Z Z (.nil (b6 (.frzW (id:=10) (M:=a42) (env2:=[(4,(cP 1 0 0)),(5,(cP 2 0 0))]) (σ2:=[(oE 4 (tT t)),(oE 4 [int (w64 (t.facts+1)),.own 6 0 a22.1.length,.own 7 0 a28.length,.own 9 0 a22.2.2.length]),(oE 2 [int 0,int 0]),(oE 2 [int a10.code,int a10.index]),.dead,.dead,(oV 1 intI a22.1),(oV 1 intI a28),.dead,(oV 4 d9 (a22.2.2.set op.toNat (⟨ao5.pre,a42,ao5.del,ao5.cost⟩:i4))),.dead,(oE 4 [int (w64 (t.facts+1)),.own 6 0 a22.1.length,.own 7 0 a28.length,.own 9 0 a22.2.2.length]),(oV 1 intI [t.facts]),(oV 1 intI [t.facts])]) Z Z (by exact⟨⟨_,Z,.inl ⟨Z,Z⟩⟩,⟨_,Z,.inl ⟨Z,Z⟩⟩,Y⟩) Z (by exact⟨.old ⟨Z,.inl ⟨Z,Z⟩,.inl ⟨Z,Z⟩,.inl ⟨Z,Z⟩,.inl ⟨Z,Z⟩,Y⟩,.old ⟨Z,.inl ⟨Z,Z⟩,.inl ⟨Z,Z⟩,.inl ⟨Z,Z⟩,.inl ⟨Z,Z⟩,Y⟩,.old ⟨Z,.inl ⟨Z,Z⟩,.inl ⟨Z,Z⟩,Y⟩,.old ⟨Z,.inl ⟨Z,Z⟩,.inl ⟨Z,Z⟩,Y⟩,.old (Y),.old (Y),.old (FrzB.vec),.old (FrzB.vec),.old (Y),(.any (vp_frz Z Z)),.old (Y),.old ⟨Z,.inl ⟨Z,Z⟩,.inl ⟨Z,Z⟩,.inl ⟨Z,Z⟩,.inl ⟨Z,Z⟩,Y⟩,.old (FrzB.vec),.old (FrzB.vec),Y⟩) (.frzV (id:=6) (l:=a22.1) (env2:=[(4,(cP 1 0 0)),(5,(cP 2 0 0))]) (σ2:=[(oE 4 (tT t)),(oE 4 [int (w64 (t.facts+1)),row 1 intI a22.1,.own 7 0 a28.length,.own 9 0 a22.2.2.length]),(oE 2 [int 0,int 0]),(oE 2 [int a10.code,int a10.index]),.dead,.dead,.dead,(oV 1 intI a28),.dead,(oV 4 d9 (a22.2.2.set op.toNat (⟨ao5.pre,a42,ao5.del,ao5.cost⟩:i4))),.dead,(oE 4 [int (w64 (t.facts+1)),row 1 intI a22.1,.own 7 0 a28.length,.own 9 0 a22.2.2.length]),(oV 1 intI [t.facts]),(oV 1 intI [t.facts])]) Z Z (by exact⟨⟨_,Z,.inl ⟨Z,Z⟩⟩,⟨_,Z,.inl ⟨Z,Z⟩⟩,Y⟩) Z (by exact⟨⟨Z,.inl ⟨Z,Z⟩,.inl ⟨Z,Z⟩,.inl ⟨Z,Z⟩,.inl ⟨Z,Z⟩,Y⟩,⟨Z,.inl ⟨Z,Z⟩,.inr ⟨_,Z,Z,Z⟩,.inl ⟨Z,Z⟩,.inl ⟨Z,Z⟩,Y⟩,⟨Z,.inl ⟨Z,Z⟩,.inl ⟨Z,Z⟩,Y⟩,⟨Z,.inl ⟨Z,Z⟩,.inl ⟨Z,Z⟩,Y⟩,Y,Y,Y,FrzB.vec,Y,FrzB.vec,Y,⟨Z,.inl ⟨Z,Z⟩,.inr ⟨_,Z,Z,Z⟩,.inl ⟨Z,Z⟩,.inl ⟨Z,Z⟩,Y⟩,FrzB.vec,FrzB.vec,Y⟩) (.frzV (id:=7) (l:=a28) (env2:=[(4,(cP 1 0 0)),(5,(cP 2 0 0))]) (σ2:=[(oE 4 (tT t)),(oE 4 [int (w64 (t.facts+1)),row 1 intI a22.1,row 1 intI a28,.own 9 0 a22.2.2.length]),(oE 2 [int 0,int 0]),(oE 2 [int a10.code,int a10.index]),.dead,.dead,.dead,.dead,.dead,(oV 4 d9 (a22.2.2.set op.toNat (⟨ao5.pre,a42,ao5.del,ao5.cost⟩:i4))),.dead,(oE 4 [int (w64 (t.facts+1)),row 1 intI a22.1,row 1 intI a28,.own 9 0 a22.2.2.length]),(oV 1 intI [t.facts]),(oV 1 intI [t.facts])]) Z Z (by exact⟨⟨_,Z,.inl ⟨Z,Z⟩⟩,⟨_,Z,.inl ⟨Z,Z⟩⟩,Y⟩) Z (by exact⟨⟨Z,.inl ⟨Z,Z⟩,.inl ⟨Z,Z⟩,.inl ⟨Z,Z⟩,.inl ⟨Z,Z⟩,Y⟩,⟨Z,.inl ⟨Z,Z⟩,.inl ⟨Z,Z⟩,.inr ⟨_,Z,Z,Z⟩,.inl ⟨Z,Z⟩,Y⟩,⟨Z,.inl ⟨Z,Z⟩,.inl ⟨Z,Z⟩,Y⟩,⟨Z,.inl ⟨Z,Z⟩,.inl ⟨Z,Z⟩,Y⟩,Y,Y,Y,Y,Y,FrzB.vec,Y,⟨Z,.inl ⟨Z,Z⟩,.inl ⟨Z,Z⟩,.inr ⟨_,Z,Z,Z⟩,.inl ⟨Z,Z⟩,Y⟩,FrzB.vec,FrzB.vec,Y⟩) (.frzV (id:=9) (l:=a22.2.2.set op.toNat (⟨ao5.pre,a42,ao5.del,ao5.cost⟩:i4)) (env2:=[(4,(cP 1 0 0)),(5,(cP 2 0 0))]) (σ2:=[(oE 4 (tT t)),(oE 4 [int (w64 (t.facts+1)),row 1 intI a22.1,row 1 intI a28,row 4 d9 (a22.2.2.set op.toNat (⟨ao5.pre,a42,ao5.del,ao5.cost⟩:i4))]),(oE 2 [int 0,int 0]),(oE 2 [int a10.code,int a10.index]),.dead,.dead,.dead,.dead,.dead,.dead,.dead,(oE 4 [int (w64 (t.facts+1)),row 1 intI a22.1,row 1 intI a28,row 4 d9 (a22.2.2.set op.toNat (⟨ao5.pre,a42,ao5.del,ao5.cost⟩:i4))]),(oV 1 intI [t.facts]),(oV 1 intI [t.facts])]) Z Z (by exact⟨⟨_,Z,.inl ⟨Z,Z⟩⟩,⟨_,Z,.inl ⟨Z,Z⟩⟩,Y⟩) Z (by exact⟨⟨Z,.inl ⟨Z,Z⟩,.inl ⟨Z,Z⟩,.inl ⟨Z,Z⟩,.inl ⟨Z,Z⟩,Y⟩,⟨Z,.inl ⟨Z,Z⟩,.inl ⟨Z,Z⟩,.inl ⟨Z,Z⟩,.inr ⟨_,Z,(by simp only[lS]),Z⟩,Y⟩,⟨Z,.inl ⟨Z,Z⟩,.inl ⟨Z,Z⟩,Y⟩,⟨Z,.inl ⟨Z,Z⟩,.inl ⟨Z,Z⟩,Y⟩,Y,Y,Y,Y,Y,Y,Y,⟨Z,.inl ⟨Z,Z⟩,.inl ⟨Z,Z⟩,.inl ⟨Z,Z⟩,.inr ⟨_,Z,(by simp only[lS]),Z⟩,Y⟩,FrzB.vec,FrzB.vec,Y⟩) (.ret ?_)))))))))))))))))))))))
   obtain rfl:=oi h
   exact Done.ret Z Z
theorem aj8{r:Unit}(h:N7=some r):FnOk prog 87 [] (aj1) (fun tt ss=>tt=(cP 2 0 0)∧ss=[.one (pmap 1 vU ([]:List (Int×Int))),pool 4 b8 ([]:List c8),(oE 3 [.own 3 0 (([]:Li).length),.map 0,int 0]),.one (prow 1 ([]:Li))]):=by
 refine FnOk.enter (rs:=[.t 0]) func87 Z ntmps87 results87 Z ⟨Y,Y⟩ (by kernel_rfl) Z ?_
 refine AWP.weak ?_
 unfold N7 at h
 refine AWP.q (.u (.v Z Z (.nil (b6 (.q (.u (W.makeMapP 1 vU Z Z Z (.sub (Sub.newPool (size:=4) (f:=b8) Z) (W.build Z Z Z Z (W.box Z Z Z Z Z Z (.v Z Z (.nil (b6 (.virtP 1 (b:=2) (o:=0) Z Z Z Z Z Z (.ret ?_)))))))))))))))
 obtain rfl:=oi h
 exact⟨⟨[(0,(cP 2 0 0))],[.one (pmap 1 vU ([]:List (Int×Int))),pool 4 b8 ([]:List c8),(oE 3 [.own 3 0 (([]:Li).length),.map 0,int 0]),.one (prow 1 ([]:Li))]⟩,Sub.env ⟨Z,Y⟩,Done.ret Z ⟨Z,Z⟩⟩
theorem D8{l:Li}{l2:List c8}{r:Unit}(h:v7 l l2=some r):FnOk prog 161 [.c (.own 0 0 l.length)] (ab4 l l2) (fun tt ss=>tt=(cI (l.length:Int))∧ss=[.one (prow 1 l),pool 4 b8 l2]):=by
 refine FnOk.enter (rs:=[.t 2]) func161 Z ntmps161 results161 Z ⟨Y,Y⟩ (by kernel_rfl) Z ?_
 refine AWP.weak ?_
 unfold v7 at h
 refine AWP.q (.u (.v Z Z (.nil (b6 (.q (.u (.j Z Z (.lenOwnB Z Z Z (fun hl4=>.v Z Z (.nil (b6 (.ret ?_))))))))))))
 obtain rfl:=oi h
 exact⟨⟨[(2,(cI (l.length:Int)))],[.one (prow 1 l),pool 4 b8 l2]⟩,Sub.env ⟨Z,Y⟩,Done.ret Z ⟨Z,Z⟩⟩
theorem D3{iv:Int}{kv:Int}{l:Li}{l4:List c8}{r:Bool}(h:u4 iv kv l l4=some r):FnOk prog 162 [.c (.own 0 0 l.length),(cI iv),(cI kv)] (aa8 iv kv l l4) (fun tt ss=>tt=(cB r)∧ss=[.one (prow 1 l),pool 4 b8 l4]):=by
 refine FnOk.enter (rs:=[.t 6]) func162 Z ntmps162 results162 Z ⟨Y,Y⟩ (by kernel_rfl) Z ?_
 refine AWP.weak ?_
 unfold u4 at h
 refine AWP.q (.u (.v Z Z (.nil (b6 ?_))))
 obtain⟨a9,ha9,en56,hen56,a16,ha16,h⟩:=b3 h
 obtain⟨en57,hen57,h⟩:=b9 h
 refine AWP.seqJ (⟨[(6,(cB ((decide (en56.key<en57.key))||((decide (en56.key=en57.key)) && (decide (en56.time<en57.time))))))],[.one (prow 1 l),pool 4 b8 l4]⟩) ?_ ?_
 ·rcases bft (decide (en56.key<en57.key)) with hb1|hb1
  ·refine AWP.drawI mixed Z ?_
   refine k9.consF Z (fun E=>.j Z Z .N) Z (.consF Z (fun E=>.j Z Z .N) Z (.consF Z (fun E=>S.idxPb Z Z Z (by simpa only[lS] using B5 ha9) Z Z .N) Z (.consF Z (fun E=>S.loadP ha9 Z Z Z Z .N) Z (.consF Z (fun E=>S.nilCheckE Z Z (by simpa only[lS] using l8 hen56) Z .N) Z (.consF Z (fun E=>S.fieldE Z Z Z (by simpa only[lS] using l8 hen56) Z .N) Z (.consF Z (fun E=>.B Z Z (y5 Z hen56) Z Z Z .N) Z (.consF Z (fun E=>.j Z Z .N) Z (.consF Z (fun E=>.j Z Z .N) Z (.consF Z (fun E=>S.idxPb Z Z Z (by simpa only[lS] using B5 ha16) Z Z .N) Z (.consF Z (fun E=>S.loadP ha16 Z Z Z Z .N) Z (.consF Z (fun E=>S.nilCheckE Z Z (by simpa only[lS] using l8 hen57) Z .N) Z (.consF Z (fun E=>S.fieldE Z Z Z (by simpa only[lS] using l8 hen57) Z .N) Z (.consF Z (fun E=>.B Z Z (y5 Z hen57) Z Z Z .N) Z (.consF Z (fun E=>.J Z Z Z .N) Z (.consF Z (fun E=>.j Z Z .N) Z (.consF Z (fun E=>.E Z Z Z hb1 .N) Z (.consF Z (fun E=>.E Z Z Z hb1 .N) Z (.consF Z (fun E=>.E Z Z Z hb1 .N) Z (.consF Z (fun E=>.E Z Z Z hb1 .N) Z (.consF Z (fun E=>.E Z Z Z hb1 .N) Z (.consF Z (fun E=>.E Z Z Z hb1 .N) Z (.consF Z (fun E=>.E Z Z Z hb1 .N) Z (.consF Z (fun E=>.E Z Z Z hb1 .N) Z (.consF Z (fun E=>.E Z Z Z hb1 .N) Z (.consF Z (fun E=>.E Z Z Z hb1 .N) Z (.consF Z (fun E=>.E Z Z Z hb1 .N) Z (.consF Z (fun E=>.E Z Z Z hb1 .N) Z (.consF Z (fun E=>.E Z Z Z hb1 .N) Z (.consF Z (fun E=>.E Z Z Z hb1 .N) Z (.consF Z (fun E=>.E Z Z Z hb1 .N) Z (.consF Z (fun E=>.E Z Z Z hb1 .N) Z (.consF Z (fun E=>.ag Z Z Z .N) Z (.consF Z (fun E=>.ag Z Z Z .N) Z (.consF Z (fun E=>.ag Z Z Z .N) Z (.consF Z (fun E=>.ag Z Z Z .N) Z (.consF Z (fun E=>.ag Z Z Z .N) Z (.consF Z (fun E=>.ag Z Z Z .N) Z (.consF Z (fun E=>.ag Z Z Z .N) Z (.consF Z (fun E=>.ag Z Z Z .N) Z (.consF Z (fun E=>.ag Z Z Z .N) Z (.consF Z (fun E=>.ag Z Z Z .N) Z (.consF Z (fun E=>.ag Z Z Z .N) Z (.consF Z (fun E=>.ag Z Z Z .N) Z (.consF Z (fun E=>.ag Z Z Z .N) Z (.consF Z (fun E=>.ag Z Z Z .N) Z (.consF Z (fun E=>.ag Z Z Z .N) Z (.consF Z (fun E=>.E Z Z Z hb1 .N) Z (.consF Z (fun E=>.U Z hb1 Z Z .N) Z (.consF Z (fun E=>.v Z Z .N) Z ?_)))))))))))))))))))))))))))))))))))))))))))))))))
   refine k9.done ?_
   dsimp only[j9]
   refine b6 ?_
   simp only[and_t hb1,or_t hb1,Bool.false_or,Bool.true_or,Bool.false_and,Bool.true_and]
   exact Sub.env ⟨Z,Y⟩
  ·rcases bft (decide (en56.key=en57.key)) with hb2|hb2
   ·refine AWP.drawI mixed Z ?_
    refine k9.consF Z (fun E=>.j Z Z .N) Z (.consF Z (fun E=>.j Z Z .N) Z (.consF Z (fun E=>S.idxPb Z Z Z (by simpa only[lS] using B5 ha9) Z Z .N) Z (.consF Z (fun E=>S.loadP ha9 Z Z Z Z .N) Z (.consF Z (fun E=>S.nilCheckE Z Z (by simpa only[lS] using l8 hen56) Z .N) Z (.consF Z (fun E=>S.fieldE Z Z Z (by simpa only[lS] using l8 hen56) Z .N) Z (.consF Z (fun E=>.B Z Z (y5 Z hen56) Z Z Z .N) Z (.consF Z (fun E=>.j Z Z .N) Z (.consF Z (fun E=>.j Z Z .N) Z (.consF Z (fun E=>S.idxPb Z Z Z (by simpa only[lS] using B5 ha16) Z Z .N) Z (.consF Z (fun E=>S.loadP ha16 Z Z Z Z .N) Z (.consF Z (fun E=>S.nilCheckE Z Z (by simpa only[lS] using l8 hen57) Z .N) Z (.consF Z (fun E=>S.fieldE Z Z Z (by simpa only[lS] using l8 hen57) Z .N) Z (.consF Z (fun E=>.B Z Z (y5 Z hen57) Z Z Z .N) Z (.consF Z (fun E=>.J Z Z Z .N) Z (.consF Z (fun E=>.j Z Z .N) Z (.consF Z (fun E=>.z Z Z Z hb1 (.j Z Z .N)) Z (.consF Z (fun E=>.z Z Z Z hb1 (.j Z Z .N)) Z (.consF Z (fun E=>.z Z Z Z hb1 (S.idxPb Z Z Z (by simpa only[lS] using B5 ha9) Z Z .N)) Z (.consF Z (fun E=>.z Z Z Z hb1 (S.loadP ha9 Z Z Z Z .N)) Z (.consF Z (fun E=>.z Z Z Z hb1 (S.nilCheckE Z Z (by simpa only[lS] using l8 hen56) Z .N)) Z (.consF Z (fun E=>.z Z Z Z hb1 (S.fieldE Z Z Z (by simpa only[lS] using l8 hen56) Z .N)) Z (.consF Z (fun E=>.z Z Z Z hb1 (.B Z Z (y5 Z hen56) Z Z Z .N)) Z (.consF Z (fun E=>.z Z Z Z hb1 (.j Z Z .N)) Z (.consF Z (fun E=>.z Z Z Z hb1 (.j Z Z .N)) Z (.consF Z (fun E=>.z Z Z Z hb1 (S.idxPb Z Z Z (by simpa only[lS] using B5 ha16) Z Z .N)) Z (.consF Z (fun E=>.z Z Z Z hb1 (S.loadP ha16 Z Z Z Z .N)) Z (.consF Z (fun E=>.z Z Z Z hb1 (S.nilCheckE Z Z (by simpa only[lS] using l8 hen57) Z .N)) Z (.consF Z (fun E=>.z Z Z Z hb1 (S.fieldE Z Z Z (by simpa only[lS] using l8 hen57) Z .N)) Z (.consF Z (fun E=>.z Z Z Z hb1 (.B Z Z (y5 Z hen57) Z Z Z .N)) Z (.consF Z (fun E=>.z Z Z Z hb1 (.eql Z Z Z .N)) Z (.consF Z (fun E=>.z Z Z Z hb1 (.j Z Z .N)) Z (.consF Z (fun E=>.z Z Z Z hb2 (.j Z Z .N)) Z (.consF Z (fun E=>.z Z Z Z hb2 (.j Z Z .N)) Z (.consF Z (fun E=>.z Z Z Z hb2 (S.idxPb Z Z Z (by simpa only[lS] using B5 ha9) Z Z .N)) Z (.consF Z (fun E=>.z Z Z Z hb2 (S.loadP ha9 Z Z Z Z .N)) Z (.consF Z (fun E=>.z Z Z Z hb2 (S.nilCheckE Z Z (by simpa only[lS] using l8 hen56) Z .N)) Z (.consF Z (fun E=>.z Z Z Z hb2 (S.fieldE Z Z Z (by simpa only[lS] using l8 hen56) Z .N)) Z (.consF Z (fun E=>.z Z Z Z hb2 (.B Z Z (y5 Z hen56) Z Z Z .N)) Z (.consF Z (fun E=>.z Z Z Z hb2 (.j Z Z .N)) Z (.consF Z (fun E=>.z Z Z Z hb2 (.j Z Z .N)) Z (.consF Z (fun E=>.z Z Z Z hb2 (S.idxPb Z Z Z (by simpa only[lS] using B5 ha16) Z Z .N)) Z (.consF Z (fun E=>.z Z Z Z hb2 (S.loadP ha16 Z Z Z Z .N)) Z (.consF Z (fun E=>.z Z Z Z hb2 (S.nilCheckE Z Z (by simpa only[lS] using l8 hen57) Z .N)) Z (.consF Z (fun E=>.z Z Z Z hb2 (S.fieldE Z Z Z (by simpa only[lS] using l8 hen57) Z .N)) Z (.consF Z (fun E=>.z Z Z Z hb2 (.B Z Z (y5 Z hen57) Z Z Z .N)) Z (.consF Z (fun E=>.z Z Z Z hb2 (.J Z Z Z .N)) Z (.consF Z (fun E=>.z Z Z Z hb1 (.U Z hb2 Z Z .N)) Z (.consF Z (fun E=>.ab Z hb1 Z Z .N) Z (.consF Z (fun E=>.v Z Z .N) Z ?_)))))))))))))))))))))))))))))))))))))))))))))))))
    refine k9.done ?_
    dsimp only[j9]
    refine b6 ?_
    simp only[and_f hb1,or_f hb1,and_t hb2,or_t hb2,Bool.false_or,Bool.true_or,Bool.false_and,Bool.true_and]
    exact Sub.env ⟨Z,Y⟩
   ·refine AWP.drawI mixed Z ?_
    refine k9.consF Z (fun E=>.j Z Z .N) Z (.consF Z (fun E=>.j Z Z .N) Z (.consF Z (fun E=>S.idxPb Z Z Z (by simpa only[lS] using B5 ha9) Z Z .N) Z (.consF Z (fun E=>S.loadP ha9 Z Z Z Z .N) Z (.consF Z (fun E=>S.nilCheckE Z Z (by simpa only[lS] using l8 hen56) Z .N) Z (.consF Z (fun E=>S.fieldE Z Z Z (by simpa only[lS] using l8 hen56) Z .N) Z (.consF Z (fun E=>.B Z Z (y5 Z hen56) Z Z Z .N) Z (.consF Z (fun E=>.j Z Z .N) Z (.consF Z (fun E=>.j Z Z .N) Z (.consF Z (fun E=>S.idxPb Z Z Z (by simpa only[lS] using B5 ha16) Z Z .N) Z (.consF Z (fun E=>S.loadP ha16 Z Z Z Z .N) Z (.consF Z (fun E=>S.nilCheckE Z Z (by simpa only[lS] using l8 hen57) Z .N) Z (.consF Z (fun E=>S.fieldE Z Z Z (by simpa only[lS] using l8 hen57) Z .N) Z (.consF Z (fun E=>.B Z Z (y5 Z hen57) Z Z Z .N) Z (.consF Z (fun E=>.J Z Z Z .N) Z (.consF Z (fun E=>.j Z Z .N) Z (.consF Z (fun E=>.z Z Z Z hb1 (.j Z Z .N)) Z (.consF Z (fun E=>.z Z Z Z hb1 (.j Z Z .N)) Z (.consF Z (fun E=>.z Z Z Z hb1 (S.idxPb Z Z Z (by simpa only[lS] using B5 ha9) Z Z .N)) Z (.consF Z (fun E=>.z Z Z Z hb1 (S.loadP ha9 Z Z Z Z .N)) Z (.consF Z (fun E=>.z Z Z Z hb1 (S.nilCheckE Z Z (by simpa only[lS] using l8 hen56) Z .N)) Z (.consF Z (fun E=>.z Z Z Z hb1 (S.fieldE Z Z Z (by simpa only[lS] using l8 hen56) Z .N)) Z (.consF Z (fun E=>.z Z Z Z hb1 (.B Z Z (y5 Z hen56) Z Z Z .N)) Z (.consF Z (fun E=>.z Z Z Z hb1 (.j Z Z .N)) Z (.consF Z (fun E=>.z Z Z Z hb1 (.j Z Z .N)) Z (.consF Z (fun E=>.z Z Z Z hb1 (S.idxPb Z Z Z (by simpa only[lS] using B5 ha16) Z Z .N)) Z (.consF Z (fun E=>.z Z Z Z hb1 (S.loadP ha16 Z Z Z Z .N)) Z (.consF Z (fun E=>.z Z Z Z hb1 (S.nilCheckE Z Z (by simpa only[lS] using l8 hen57) Z .N)) Z (.consF Z (fun E=>.z Z Z Z hb1 (S.fieldE Z Z Z (by simpa only[lS] using l8 hen57) Z .N)) Z (.consF Z (fun E=>.z Z Z Z hb1 (.B Z Z (y5 Z hen57) Z Z Z .N)) Z (.consF Z (fun E=>.z Z Z Z hb1 (.eql Z Z Z .N)) Z (.consF Z (fun E=>.z Z Z Z hb1 (.j Z Z .N)) Z (.consF Z (fun E=>.E Z Z Z hb2 .N) Z (.consF Z (fun E=>.E Z Z Z hb2 .N) Z (.consF Z (fun E=>.E Z Z Z hb2 .N) Z (.consF Z (fun E=>.E Z Z Z hb2 .N) Z (.consF Z (fun E=>.E Z Z Z hb2 .N) Z (.consF Z (fun E=>.E Z Z Z hb2 .N) Z (.consF Z (fun E=>.E Z Z Z hb2 .N) Z (.consF Z (fun E=>.E Z Z Z hb2 .N) Z (.consF Z (fun E=>.E Z Z Z hb2 .N) Z (.consF Z (fun E=>.E Z Z Z hb2 .N) Z (.consF Z (fun E=>.E Z Z Z hb2 .N) Z (.consF Z (fun E=>.E Z Z Z hb2 .N) Z (.consF Z (fun E=>.E Z Z Z hb2 .N) Z (.consF Z (fun E=>.E Z Z Z hb2 .N) Z (.consF Z (fun E=>.E Z Z Z hb2 .N) Z (.consF Z (fun E=>.z Z Z Z hb1 (.ab Z hb2 Z Z .N)) Z (.consF Z (fun E=>.ab Z hb1 Z Z .N) Z (.consF Z (fun E=>.v Z Z .N) Z ?_)))))))))))))))))))))))))))))))))))))))))))))))))
    refine k9.done ?_
    dsimp only[j9]
    refine b6 ?_
    simp only[and_f hb1,or_f hb1,and_f hb2,or_f hb2,Bool.false_or,Bool.true_or,Bool.false_and,Bool.true_and]
    exact Sub.env ⟨Z,Y⟩
 ·refine AWP.ret ?_
  obtain rfl:=oi h
  exact⟨⟨[(6,(cB ((decide (en56.key<en57.key))||((decide (en56.key=en57.key)) && (decide (en56.time<en57.time))))))],[.one (prow 1 l),pool 4 b8 l4]⟩,Sub.env ⟨Z,Y⟩,Done.ret Z ⟨Z,Z⟩⟩
theorem D2{iv:Int}{kv:Int}{l:Li}{l4:List c8}{r:Li×(List c8)}(h:u3 iv kv l l4=some r):FnOk prog 163 [.c (.own 0 0 l.length),(cI iv),(cI kv)] (ab3 iv kv l l4) (fun tt ss=>tt=.tup []∧ss=[.one (prow 1 r.1),pool 4 b8 r.2]):=by
 refine FnOk.enter (rs:=[]) func163 Z ntmps163 results163 Z Y (by kernel_rfl) Z ?_
 refine AWP.weak ?_
 unfold u3 at h
 refine AWP.q ?_
 obtain⟨a12,ha12,a16,ha16,h⟩:=b2 h
 refine AWP.drawEI [13,15] mixed Z Z Z ?_
 refine d3.consN Z Z (fun E=>.j Z Z .N) Z (.consN Z Z (fun E=>.j Z Z .N) Z (.consN Z Z (fun E=>.j Z Z .N) Z (.consN Z Z (fun E=>.j Z Z .N) Z (.consN Z Z (fun E=>.j Z Z .N) Z (.consN Z Z (fun E=>.j Z Z .N) Z (.consN Z Z (fun E=>S.idxPb Z Z Z (by simpa only[lS] using B5 ha12) Z Z .N) Z (.consN Z Z (fun E=>S.loadP ha12 Z Z Z Z .N) Z (.consN Z Z (fun E=>.j Z Z .N) Z (.consN Z Z (fun E=>.j Z Z .N) Z (.consN Z Z (fun E=>S.idxPb Z Z Z (by simpa only[lS] using B5 ha16) Z Z .N) Z (.consN Z Z (fun E=>S.loadP ha16 Z Z Z Z .N) Z (.consN Z Z (fun E=>S.idxPb Z Z Z (by simpa only[lS] using B5 ha16) Z Z .N) Z ?_))))))))))))
 apply d3.consE (v:=.undef);exact Z;exact Z;intro E
 refine S.storeP (a:=a12) (by simpa only[lS] using l8 ha16) Z Z Z Z .N
 exact Z
 exact Z
 refine d3.consN Z Z (fun E=>S.idxPb Z Z (by simp only[lS]) (by simpa only[lS] using B5 ha12) Z Z .N) Z ?_
 apply d3.consE (v:=.undef);exact Z;exact Z;intro E
 refine S.storeP (a:=a16) (by simpa only[lS] using l8 ha12) Z Z Z Z .N
 exact Z
 exact Z
 refine d3.done Z ?_ ?_
 ·refine f7.cons Z Z (.go Z Z (fun E=>.j Z Z .N) (.skip Z (.skip Z .nil))) (.cons Z Z (.go Z Z (fun E=>.j Z Z .N) (.skip Z (.skip Z .nil))) (.cons Z Z (.go Z Z (fun E=>.j Z Z .N) (.go Z Z (fun E=>.j Z Z .N) (.skip Z .nil))) (.cons Z Z (.go Z Z (fun E=>.j Z Z .N) (.go Z Z (fun E=>.j Z Z .N) (.skip Z .nil))) (.cons Z Z (.go Z Z (fun E=>.j Z Z .N) (.skip Z (.skip Z .nil))) (.cons Z Z (.go Z Z (fun E=>.j Z Z .N) (.skip Z (.skip Z .nil))) (.cons Z Z (.go Z Z (fun E=>S.idxPb Z Z Z (by simpa only[lS] using B5 ha12) Z Z .N) (.skip Z (.skip Z .nil))) (.cons Z Z (.go Z Z (fun E=>S.loadP ha12 Z Z Z Z .N) (.skip Z (.skip Z .nil))) (.cons Z Z (.go Z Z (fun E=>.j Z Z .N) (.skip Z (.skip Z .nil))) (.cons Z Z (.go Z Z (fun E=>.j Z Z .N) (.skip Z (.skip Z .nil))) (.cons Z Z (.go Z Z (fun E=>S.idxPb Z Z Z (by simpa only[lS] using B5 ha16) Z Z .N) (.skip Z (.skip Z .nil))) (.cons Z Z (.go Z Z (fun E=>S.loadP ha16 Z Z Z Z .N) (.skip Z (.skip Z .nil))) ?_)))))))))))
  refine f7.cons Z Z (.go Z Z (fun E=>S.idxPb Z Z Z (by simpa only[lS] using B5 ha16) Z Z .N) (.skip Z (.skip Z .nil))) ?_
  refine f7.skip Z ?_
  refine f7.cons Z Z ?_ ?_
  refine j2.skip Z ?_
  refine j2.go Z Z (fun E=>S.idxPb Z Z (by simp only[lS]) (by simpa only[lS] using B5 ha12) Z Z .N) ?_
  refine j2.skip Z (j2.nil)
  refine f7.skip Z (f7.nil)
 dsimp only[j9]
 refine b6 ?_
 obtain⟨ha57,hha57,ha58,hha58,en59,hen59,h⟩:=b3 h
 obtain⟨en60,hen60,h⟩:=b9 h
 refine AWP.drawEI [12,15] mixed Z Z Z ?_
 refine d3.consN Z Z (fun E=>.j Z Z .N) Z (.consN Z Z (fun E=>.j Z Z .N) Z (.consN Z Z (fun E=>S.idxPb Z Z (by simp only[lS]) (by simpa only[lS] using B5 ha16) Z Z .N) Z (.consN Z Z (fun E=>S.loadP hha57 Z Z Z Z .N) Z (.consN Z Z (fun E=>.j Z Z .N) Z (.consN Z Z (fun E=>.j Z Z .N) Z (.consN Z Z (fun E=>S.idxPb Z Z (by simp only[lS]) (by simpa only[lS] using B5 ha12) Z Z .N) Z (.consN Z Z (fun E=>S.loadP hha58 Z Z Z Z .N) Z (.consN Z Z (fun E=>.j Z Z .N) Z (.consN Z Z (fun E=>.j Z Z .N) Z (.consN Z Z (fun E=>S.nilCheckE Z Z (by simpa only[lS] using l8 hen59) Z .N) Z (.consN Z Z (fun E=>S.fieldE Z Z Z (by simpa only[lS] using l8 hen59) Z .N) Z ?_)))))))))))
 apply d3.consE (v:=.undef);exact Z;exact Z;intro E
 refine S.storeE (e':=(⟨en59.item,en59.key,en59.time,iv⟩:c8)) hen59 Z Z Z Z Z Z .N
 exact Z
 exact Z
 refine d3.consN Z Z (fun E=>S.nilCheckE Z Z (by simpa only[lS] using l8 hen60) Z .N) Z (.consN Z Z (fun E=>S.fieldE Z Z Z (by simpa only[lS] using l8 hen60) Z .N) Z ?_)
 apply d3.consE (v:=.undef);exact Z;exact Z;intro E
 refine S.storeE (e':=(⟨en60.item,en60.key,en60.time,kv⟩:c8)) hen60 Z Z Z Z Z Z .N
 exact Z
 exact Z
 refine d3.done Z ?_ ?_
 ·refine f7.cons Z Z (.go Z Z (fun E=>.j Z Z .N) (.skip Z (.skip Z .nil))) (.cons Z Z (.go Z Z (fun E=>.j Z Z .N) (.skip Z (.skip Z .nil))) (.cons Z Z (.go Z Z (fun E=>S.idxPb Z Z (by simp only[lS]) (by simpa only[lS] using B5 ha16) Z Z .N) (.skip Z (.skip Z .nil))) (.cons Z Z (.go Z Z (fun E=>S.loadP hha57 Z Z Z Z .N) (.skip Z (.skip Z .nil))) (.cons Z Z (.go Z Z (fun E=>.j Z Z .N) (.skip Z (.skip Z .nil))) (.cons Z Z (.go Z Z (fun E=>.j Z Z .N) (.skip Z (.skip Z .nil))) (.cons Z Z (.go Z Z (fun E=>S.idxPb Z Z (by simp only[lS]) (by simpa only[lS] using B5 ha12) Z Z .N) (.skip Z (.skip Z .nil))) (.cons Z Z (.go Z Z (fun E=>S.loadP hha58 Z Z Z Z .N) (.skip Z (.skip Z .nil))) (.cons Z Z (.go Z Z (fun E=>.j Z Z .N) (.skip Z (.skip Z .nil))) (.cons Z Z (.go Z Z (fun E=>.j Z Z .N) (.go Z Z (fun E=>.j Z Z .N) (.skip Z .nil))) (.cons Z Z (.go Z Z (fun E=>S.nilCheckE Z Z (by simpa only[lS] using l8 hen59) Z .N) (.skip Z (.skip Z .nil))) (.cons Z Z (.go Z Z (fun E=>S.fieldE Z Z Z (by simpa only[lS] using l8 hen59) Z .N) (.skip Z (.skip Z .nil))) ?_)))))))))))
  refine f7.skip Z ?_
  refine f7.cons Z Z ?_ ?_
  refine j2.skip Z ?_
  refine j2.go Z Z (fun E=>S.nilCheckE Z Z (by simpa only[lS] using l8 hen60) Z .N) ?_
  refine j2.skip Z (j2.nil)
  refine f7.cons Z Z ?_ ?_
  refine j2.skip Z ?_
  refine j2.go Z Z (fun E=>S.fieldE Z Z Z (by simpa only[lS] using l8 hen60) Z .N) ?_
  refine j2.skip Z (j2.nil)
  refine f7.skip Z (f7.nil)
 dsimp only[j9]
 obtain rfl:=oi h
 exact⟨⟨[],[.one (prow 1 ((l.set iv.toNat a12).set kv.toNat a16)),pool 4 b8 ((l4.set ha57.toNat (⟨en59.item,en59.key,en59.time,iv⟩:c8)).set ha58.toNat (⟨en60.item,en60.key,en60.time,kv⟩:c8))]⟩,Sub.env Y,Done.normal Z ⟨Z,Z⟩⟩
theorem S1{i01:Int}{nv:Int}{time:Int}{l:Li}{l5:List (Int×Int)}{l6:List c8}{r:Li×(List c8)×Bool}(h:H0 i01 nv time l l5 l6=some r):FnOk prog 133 [.c (.ifc 188 [.ptr 0 0 0] false),(cI i01),(cI nv)] (T4 i01 nv time l l5 l6) (fun tt ss=>tt=(cB r.2.2)∧ss=[(oE 3 [.own 1 0 r.1.length,.map 2,int time]),.one (prow 3 r.1),.one (pmap 3 vU l5),pool 4 b8 r.2.1]):=by
 refine FnOk.enter (rs:=[.t 6]) func133 Z ntmps133 results133 Z ⟨Y,Y⟩ (by kernel_rfl) Z ?_
 refine AWP.weak ?_
 unfold H0 at h
 refine AWP.q (.u (.v Z Z (.nil (b6 (.q (.u (.j Z Z (.v Z Z (.nil (b6 (.q (.F ?_))))))))))))
 obtain⟨⟨c63,c64,iv65⟩,ho1,h⟩:=b9 h
 try dsimp only at h
 refine AWP.loopS ho1 (fun(c60,c61,iv62)=>⟨[(0,.c (.ifc 188 [.ptr 0 0 0] false)),(1,(cI i01)),(2,(cI nv)),(7,(cI iv62))],[(oE 3 [.own 1 0 c60.length,.map 2,int time]),.one (prow 3 c60),.one (pmap 3 vU l5),pool 4 b8 c61]⟩) (fun(c63,c64,iv65) e st=>e=.exit 0∧Sub (T4 i01 nv time l l5 l6) st ⟨[(1,(cI i01)),(7,(cI iv65))],[(oE 3 [.own 1 0 c63.length,.map 2,int time]),.one (prow 3 c63),.one (pmap 3 vU l5),pool 4 b8 c64]⟩) ?_ ?_ ?_
 ·try dsimp only
  exact Sub.env ⟨Z,Z,Z,Z,Y⟩
 ·intro s o h
  obtain⟨c60,c61,iv62⟩:=s
  unfold S7 at h
  try dsimp only at h ⊢
  refine AWP.F (.q (.u (.j Z Z (S.mul Z Z Z (S.add Z Z Z (.v Z Z (.nil (b6 (.q (.seqJ (⟨[(0,.c (.ifc 188 [.ptr 0 0 0] false)),(1,(cI i01)),(2,(cI nv)),(7,(cI iv62)),(8,(cI (w64 ((w64 (2 * iv62))+1)))),(21,(cB ((decide (nv≤w64 ((w64 (2 * iv62))+1)))||(decide (w64 ((w64 (2 * iv62))+1)<0)))))],[(oE 3 [.own 1 0 c60.length,.map 2,int time]),.one (prow 3 c60),.one (pmap 3 vU l5),pool 4 b8 c61]⟩) ?_ ?_))))))))))
  ·rcases bft (decide (nv≤w64 ((w64 (2 * iv62))+1))) with hb1|hb1
   ·refine AWP.u (.j Z Z (.j Z Z (.geq Z Z Z (.j Z Z (.E Z Z Z hb1 (.E Z Z Z hb1 (.U Z hb1 Z Z (.nil (b6 ?_)))))))))
    simp only[and_t hb1,or_t hb1,Bool.false_or,Bool.true_or,Bool.false_and,Bool.true_and]
    exact Sub.env ⟨Z,Z,Z,Z,Z,Z,Y⟩
   ·refine AWP.u (.j Z Z (.j Z Z (.geq Z Z Z (.j Z Z (.z Z Z Z hb1 (.j Z Z (.z Z Z Z hb1 (.J Z Z Z (.ab Z hb1 Z Z (.nil (b6 ?_)))))))))))
    simp only[and_f hb1,or_f hb1,Bool.false_or,Bool.true_or,Bool.false_and,Bool.true_and]
    exact Sub.env ⟨Z,Z,Z,Z,Z,Z,Y⟩
  ·refine AWP.ad Z h (fun hc66 h=> ?_) (fun hc66 h=> ?_)
   ·refine AWP.exit (f5 (am5 Z ?_))
    obtain rfl:=oi h
    refine f5 ⟨_,Z,Z,?_⟩
    exact Sub.env ⟨Z,Z,Y⟩
   ·refine AWP.skip (b6 (.q (.u (.j Z Z (.v Z Z (.nil (b6 ?_)))))))
    obtain⟨j67,hx68,h⟩:=b9 h
    refine AWP.seqJ (⟨[(0,.c (.ifc 188 [.ptr 0 0 0] false)),(1,(cI i01)),(2,(cI nv)),(7,(cI iv62)),(9,(cI j67))],[(oE 3 [.own 1 0 c60.length,.map 2,int time]),.one (prow 3 c60),.one (pmap 3 vU l5),pool 4 b8 c61]⟩) ?_ ?_
    ·refine AWP.q (.u (.j Z Z (S.add Z Z Z (.v Z Z (.nil (b6 ?_))))))
     obtain⟨t69,hx70,hx68⟩:=b9 hx68
     refine AWP.seqJ (⟨[(0,.c (.ifc 188 [.ptr 0 0 0] false)),(1,(cI i01)),(2,(cI nv)),(7,(cI iv62)),(9,(cI (w64 ((w64 (2 * iv62))+1)))),(10,(cI (w64 ((w64 ((w64 (2 * iv62))+1))+1)))),(33,(cB t69))],[(oE 3 [.own 1 0 c60.length,.map 2,int time]),.one (prow 3 c60),.one (pmap 3 vU l5),pool 4 b8 c61]⟩) ?_ ?_
     ·rcases bft (decide (w64 ((w64 ((w64 (2 * iv62))+1))+1)<nv)) with hb71|hb71
      ·replace hx70:=N0 hb71 hx70
       obtain⟨a32,ha32,hx70⟩:=b9 hx70
       refine AWP.u (.j Z Z (.j Z Z (.J Z Z Z (.j Z Z (.z Z Z Z hb71 (.j Z Z (.z Z Z Z hb71 (.j Z Z (.z Z Z Z hb71 (.j Z Z (.z Z Z Z hb71 (S.invokeV (r2:=(cB a32)) (σ'':=[(oE 3 [.own 1 0 c60.length,.map 2,int time]),.one (prow 3 c60),.one (pmap 3 vU l5),pool 4 b8 c61]) Z Z Z Z Z Z Z (FnOk.lend [1,3] (D3 ha32) Z Z Z Z Z Z (by exact⟨(.one (j6 Z)),(.any m9),Y⟩) Z (by exact⟨(.live Z (.one (j5 fun _=>Z))),(.live Z RenE.pool),Y⟩) Z Z (by exact⟨(.old Z Z Z),(.new 0 Z Z (.one (j5 fun _=>Z))),(.old Z Z Z),(.new 1 Z Z RenE.pool),Y⟩)) (.U Z hb71 Z Z (.nil ?_))))))))))))))
       obtain rfl:=oi hx70
       refine b6 (Sub.env ⟨Z,Z,Z,Z,Z,Z,Z,Y⟩)
      ·replace hx70:=L9 hb71 hx70
       refine AWP.u (.j Z Z (.j Z Z (.J Z Z Z (.j Z Z (.E Z Z Z hb71 (.E Z Z Z hb71 (.E Z Z Z hb71 (.E Z Z Z hb71 (.ab Z hb71 Z Z (.nil ?_))))))))))
       obtain rfl:=oi hx70
       refine b6 (Sub.env ⟨Z,Z,Z,Z,Z,Z,Z,Y⟩)
     ·refine AWP.ad Z hx68 (fun hc72 hx68=> ?_) (fun hc72 hx68=> ?_)
      ·refine AWP.u (.j Z Z (.v Z Z (.nil ?_)))
       obtain rfl:=oi hx68
       refine b6 (Sub.env ⟨Z,Z,Z,Z,Z,Y⟩)
      ·refine AWP.skip ?_
       obtain rfl:=oi hx68
       refine b6 (Sub.env ⟨Z,Z,Z,Z,Z,Y⟩)
    ·refine AWP.q (.q ?_)
     obtain⟨a38,ha38,h⟩:=b9 h
     refine AWP.u (.j Z Z (.j Z Z (.j Z Z (S.invokeV (r2:=(cB a38)) (σ'':=[(oE 3 [.own 1 0 c60.length,.map 2,int time]),.one (prow 3 c60),.one (pmap 3 vU l5),pool 4 b8 c61]) Z Z Z Z Z Z Z (FnOk.lend [1,3] (D3 ha38) Z Z Z Z Z Z (by exact⟨(.one (j6 Z)),(.any m9),Y⟩) Z (by exact⟨(.live Z (.one (j5 fun _=>Z))),(.live Z RenE.pool),Y⟩) Z Z (by exact⟨(.old Z Z Z),(.new 0 Z Z (.one (j5 fun _=>Z))),(.old Z Z Z),(.new 1 Z Z RenE.pool),Y⟩)) (.not Z Z (.nil (b6 (.ad Z h (fun hc73 h=> ?_) (fun hc73 h=> ?_)))))))))
     ·refine AWP.exit (f5 (am5 Z ?_))
      obtain rfl:=oi h
      refine f5 ⟨_,Z,Z,?_⟩
      exact Sub.env ⟨Z,Z,Y⟩
     ·refine AWP.skip (b6 (.q ?_))
      obtain⟨a43,ha43,u74,hu74,h⟩:=b2 h
      refine AWP.u (.j Z Z (.j Z Z (.j Z Z (S.invokeV (r2:=.tup []) (σ'':=[(oE 3 [.own 1 0 c60.length,.map 2,int time]),.one (prow 3 a43.1),.one (pmap 3 vU l5),pool 4 b8 a43.2]) Z Z Z Z Z Z Z (FnOk.lend [1,3] (D2 ha43) Z Z Z Z Z Z (by exact⟨(.one (j6 Z)),(.any m9),Y⟩) Z (by exact⟨(.live Z (.one (j5 fun _=>Z))),(.live Z RenE.pool),Y⟩) Z Z (by exact⟨(.old Z Z Z),(.new 0 Z Z (.one (j5 fun _=>Z))),(.old Z Z Z),(.new 1 Z Z RenE.pool),Y⟩)) (.nil (b6 (.u (.j Z Z (.v Z Z (.nil (f4 ?_)))))))))))
      obtain rfl:=oi h
      refine b6 ⟨_,Z,?_⟩
      exact Sub.cut ⟨Z,Z,Z,Z,Y⟩ Z ⟨(.eq Z (by first|rfl|rw[(ap2 hu74)]|(simp only[lS];done))),(.one (j6 Z)),(.one (l0 Z)),(.any m9),Y⟩ Z
 ·intro e s hq
  obtain⟨rfl,hs⟩:=hq
  refine⟨_,hs,?_⟩
  refine j7 (b6 (.q (.u (.j Z Z (.j Z Z (.gtr Z Z Z (.v Z Z (.nil (b6 (.ret ?_))))))))))
  obtain rfl:=oi h
  exact⟨⟨[(6,(cB (decide (i01<iv65))))],[(oE 3 [.own 1 0 c63.length,.map 2,int time]),.one (prow 3 c63),.one (pmap 3 vU l5),pool 4 b8 c64]⟩,Sub.env ⟨Z,Y⟩,Done.ret Z ⟨Z,Z⟩⟩
theorem W1{j:Int}{time:Int}{l:Li}{l4:List (Int×Int)}{l5:List c8}{r:Li×(List c8)}(h:K2 j time l l4 l5=some r):FnOk prog 134 [.c (.ifc 188 [.ptr 0 0 0] false),(cI j)] (W0 j time l l4 l5) (fun tt ss=>tt=.tup []∧ss=[(oE 3 [.own 1 0 r.1.length,.map 2,int time]),.one (prow 3 r.1),.one (pmap 3 vU l4),pool 4 b8 r.2]):=by
 refine FnOk.enter (rs:=[]) func134 Z ntmps134 results134 Z Y (by kernel_rfl) Z ?_
 refine AWP.weak ?_
 unfold K2 at h
 refine AWP.F ?_
 obtain⟨⟨c61,c62⟩,ho1,h⟩:=b9 h
 try dsimp only at h
 refine AWP.loopS ho1 (fun(c58,c59,j60)=>⟨[(0,.c (.ifc 188 [.ptr 0 0 0] false)),(1,(cI j60))],[(oE 3 [.own 1 0 c58.length,.map 2,int time]),.one (prow 3 c58),.one (pmap 3 vU l4),pool 4 b8 c59]⟩) (fun(c61,c62) e st=>e=.exit 0∧Sub (W0 j time l l4 l5) st ⟨[],[(oE 3 [.own 1 0 c61.length,.map 2,int time]),.one (prow 3 c61),.one (pmap 3 vU l4),pool 4 b8 c62]⟩) ?_ ?_ ?_
 ·try dsimp only
  exact Sub.env ⟨Z,Z,Y⟩
 ·intro s o h
  obtain⟨c58,c59,j60⟩:=s
  unfold W4 at h
  try dsimp only at h ⊢
  refine AWP.F (.q ?_)
  obtain⟨u7,hu7,h⟩:=b9 h
  refine AWP.u (.j Z Z (S.sub Z Z Z (S.quo hu7 Z Z Z (.v Z Z (.nil (b6 (.q ?_)))))))
  obtain⟨t63,hx64,h⟩:=b9 h
  refine AWP.seqJ (⟨[(0,.c (.ifc 188 [.ptr 0 0 0] false)),(1,(cI j60)),(4,(cI (w64 ((w64 (j60 - 1)).tdiv 2)))),(17,(cB t63))],[(oE 3 [.own 1 0 c58.length,.map 2,int time]),.one (prow 3 c58),.one (pmap 3 vU l4),pool 4 b8 c59]⟩) ?_ ?_
  ·rcases bft (decide (w64 ((w64 (j60 - 1)).tdiv 2)=j60)) with hb65|hb65
   ·replace hx64:=N0 hb65 hx64
    refine AWP.u (.j Z Z (.j Z Z (.eql Z Z Z (.j Z Z (.E Z Z Z hb65 (.E Z Z Z hb65 (.E Z Z Z hb65 (.E Z Z Z hb65 (.E Z Z Z hb65 (.U Z hb65 Z Z (.nil ?_)))))))))))
    obtain rfl:=oi hx64
    refine b6 (Sub.env ⟨Z,Z,Z,Z,Y⟩)
   ·replace hx64:=L9 hb65 hx64
    obtain⟨a15,ha15,hx64⟩:=b9 hx64
    refine AWP.u (.j Z Z (.j Z Z (.eql Z Z Z (.j Z Z (.z Z Z Z hb65 (.j Z Z (.z Z Z Z hb65 (.j Z Z (.z Z Z Z hb65 (.j Z Z (.z Z Z Z hb65 (S.invokeV (r2:=(cB a15)) (σ'':=[(oE 3 [.own 1 0 c58.length,.map 2,int time]),.one (prow 3 c58),.one (pmap 3 vU l4),pool 4 b8 c59]) Z Z Z Z Z Z Z (FnOk.lend [1,3] (D3 ha15) Z Z Z Z Z Z (by exact⟨(.one (j6 Z)),(.any m9),Y⟩) Z (by exact⟨(.live Z (.one (j5 fun _=>Z))),(.live Z RenE.pool),Y⟩) Z Z (by exact⟨(.old Z Z Z),(.new 0 Z Z (.one (j5 fun _=>Z))),(.old Z Z Z),(.new 1 Z Z RenE.pool),Y⟩)) (.z Z Z Z hb65 (.not Z Z (.ab Z hb65 Z Z (.nil ?_))))))))))))))))
    obtain rfl:=oi hx64
    refine b6 (Sub.env ⟨Z,Z,Z,Z,Y⟩)
  ·refine AWP.ad Z h (fun hc66 h=> ?_) (fun hc66 h=> ?_)
   ·refine AWP.exit (f5 (am5 Z ?_))
    obtain rfl:=oi h
    refine f5 ⟨_,Z,Z,?_⟩
    exact Sub.env Y
   ·refine AWP.skip (b6 (.q ?_))
    obtain⟨a21,ha21,u67,hu67,h⟩:=b2 h
    refine AWP.u (.j Z Z (.j Z Z (.j Z Z (S.invokeV (r2:=.tup []) (σ'':=[(oE 3 [.own 1 0 c58.length,.map 2,int time]),.one (prow 3 a21.1),.one (pmap 3 vU l4),pool 4 b8 a21.2]) Z Z Z Z Z Z Z (FnOk.lend [1,3] (D2 ha21) Z Z Z Z Z Z (by exact⟨(.one (j6 Z)),(.any m9),Y⟩) Z (by exact⟨(.live Z (.one (j5 fun _=>Z))),(.live Z RenE.pool),Y⟩) Z Z (by exact⟨(.old Z Z Z),(.new 0 Z Z (.one (j5 fun _=>Z))),(.old Z Z Z),(.new 1 Z Z RenE.pool),Y⟩)) (.nil (b6 (.u (.j Z Z (.v Z Z (.nil (f4 ?_)))))))))))
    obtain rfl:=oi h
    refine b6 ⟨_,Z,?_⟩
    exact Sub.cut ⟨Z,Z,Y⟩ Z ⟨(.eq Z (by first|rfl|rw[(ap2 hu67)]|(simp only[lS];done))),(.one (j6 Z)),(.one (l0 Z)),(.any m9),Y⟩ Z
 ·intro e s hq
  obtain⟨rfl,hs⟩:=hq
  refine⟨_,hs,?_⟩
  refine j7 ?_
  obtain rfl:=oi h
  exact⟨⟨[],[(oE 3 [.own 1 0 c61.length,.map 2,int time]),.one (prow 3 c61),.one (pmap 3 vU l4),pool 4 b8 c62]⟩,Sub.env Y,Done.normal Z ⟨Z,Z⟩⟩
theorem ak1{iv:Int}{time:Int}{l:Li}{l4:List (Int×Int)}{l5:List c8}{r:Li×(List c8)}(h:P0 iv time l l4 l5=some r):FnOk prog 107 [.c (.ifc 188 [.ptr 0 0 0] false),(cI iv)] (ak4 iv time l l4 l5) (fun tt ss=>tt=.tup []∧ss=[(oE 3 [.own 1 0 r.1.length,.map 2,int time]),.one (prow 3 r.1),.one (pmap 3 vU l4),pool 4 b8 r.2]):=by
 refine FnOk.enter (rs:=[]) func107 Z ntmps107 results107 Z Y (by kernel_rfl) Z ?_
 refine AWP.weak ?_
 unfold P0 at h
 refine AWP.q ?_
 obtain⟨a7,ha7,a8,ha8,h⟩:=b2 h
 refine AWP.u (.j Z Z (.j Z Z (.j Z Z (S.invokeV (r2:=(cI (l.length:Int))) (σ'':=[(oE 3 [.own 1 0 l.length,.map 2,int time]),.one (prow 3 l),.one (pmap 3 vU l4),pool 4 b8 l5]) Z Z Z Z Z Z Z (FnOk.lend [1,3] (D8 ha7) Z Z Z Z Z Z (by exact⟨(.one (j6 Z)),(.any m9),Y⟩) Z (by exact⟨(.live Z (.one (j5 fun _=>Z))),(.live Z RenE.pool),Y⟩) Z Z (by exact⟨(.old Z Z Z),(.new 0 Z Z (.one (j5 fun _=>Z))),(.old Z Z Z),(.new 1 Z Z RenE.pool),Y⟩)) (.callF (r2:=(cB a8.2.2)) (σ'':=[(oE 3 [.own 1 0 a8.1.length,.map 2,int time]),.one (prow 3 a8.1),.one (pmap 3 vU l4),pool 4 b8 a8.2.1]) Z Z Z (FnOk.lend [0,1,2,3] (S1 ha8) Z Z Z Z Z Z (by exact⟨(.one Z),(.one (j6 Z)),(.one (l0 Z)),(.any m9),Y⟩) Z (by exact⟨(.live Z (.one Z)),(.live Z (.one (j5 fun _=>Z))),(.live Z (.one (m4 fun _=>Z))),(.live Z RenE.pool),Y⟩) Z Z (by exact⟨(.new 0 Z Z (.one Z)),(.new 1 Z Z (.one (j5 fun _=>Z))),(.new 2 Z Z (.one (m4 fun _=>Z))),(.new 3 Z Z RenE.pool),Y⟩)) (.not Z Z (.nil (b6 (.ad Z h (fun hc58 h=> ?_) (fun hc58 h=> ?_))))))))))
 ·obtain⟨a12,ha12,h⟩:=b9 h
  refine AWP.u (.j Z Z (.j Z Z (.callF (r2:=.tup []) (σ'':=[(oE 3 [.own 1 0 a12.1.length,.map 2,int time]),.one (prow 3 a12.1),.one (pmap 3 vU l4),pool 4 b8 a12.2]) Z Z Z (FnOk.lend [0,1,2,3] (W1 ha12) Z Z Z Z Z Z (by exact⟨(.one Z),(.one (j6 Z)),(.one (l0 Z)),(.any m9),Y⟩) Z (by exact⟨(.live Z (.one Z)),(.live Z (.one (j5 fun _=>Z))),(.live Z (.one (m4 fun _=>Z))),(.live Z RenE.pool),Y⟩) Z Z (by exact⟨(.new 0 Z Z (.one Z)),(.new 1 Z Z (.one (j5 fun _=>Z))),(.new 2 Z Z (.one (m4 fun _=>Z))),(.new 3 Z Z RenE.pool),Y⟩)) (.nil ?_))))
  obtain rfl:=oi h
  exact⟨⟨[],[(oE 3 [.own 1 0 a12.1.length,.map 2,int time]),.one (prow 3 a12.1),.one (pmap 3 vU l4),pool 4 b8 a12.2]⟩,Sub.env Y,Done.normal Z ⟨Z,Z⟩⟩
 ·refine AWP.skip ?_
  obtain rfl:=oi h
  exact⟨⟨[],[(oE 3 [.own 1 0 a8.1.length,.map 2,int time]),.one (prow 3 a8.1),.one (pmap 3 vU l4),pool 4 b8 a8.2.1]⟩,Sub.env Y,Done.normal Z ⟨Z,Z⟩⟩
theorem X9{xv:Int}{time:Int}{l:List c8}{l4:Li}{l5:List (Int×Int)}{r:(List c8)×Li}(h:E8 xv time l l4 l5=some r):FnOk prog 165 [(cP 0 0 0),.c (.ifc 183 [.ptr (1,[xv.toNat]) 0 0] false)] (X5 xv time l l4 l5) (fun tt ss=>tt=.tup []∧ss=[(oE 3 [.own 6 0 r.2.length,.map 3,int time]),pool 4 b8 r.1,.dead,.one (pmap 1 vU l5),.dead,.dead,.one (prow 1 r.2)]):=by
 refine FnOk.enter (rs:=[]) func165 Z ntmps165 results165 Z Y (by kernel_rfl) Z ?_
 refine AWP.weak ?_
 unfold E8 at h
 refine AWP.j (env':=[(0,(cP 0 0 0)),(1,.c (.ifc 183 [.ptr (1,[xv.toNat]) 0 0] false))]) (σ':=[(oE 3 [.own 4 0 l4.length,.map 3,int time]),pool 4 b8 l,.dead,.one (pmap 1 vU l5),.one (prow 1 l4)]) 4 2 Z Z Z ⟨Z,Z,Y⟩ Z ⟨⟨Z,Z⟩,(r9.pool Z),Y,⟨l0 Z,A5 Z O3⟩,⟨j6 Z,A5 Z O5⟩,Y⟩ (.q (.u (.j Z Z (S.assert Z Z Z (.v Z Z (.nil (b6 (.q ?_))))))))
 obtain⟨en58,hen58,h⟩:=b9 h
 refine AWP.u (.j Z Z (.j Z Z (.ah Z Z Z (.B Z Z Z Z Z Z (.lenOwnB Z Z Z (fun hl11=>S.nilCheckE Z Z (by simpa only[lS] using l8 hen58) Z (S.fieldE Z Z Z (by simpa only[lS] using l8 hen58) Z (S.storeE (e':=(⟨en58.item,en58.key,en58.time,(l4.length:Int)⟩:c8)) hen58 Z Z Z Z Z Z (.nil (b6 ?_))))))))))
 obtain⟨a20,ha20,h⟩:=b9 h
 refine AWP.u (.j Z Z (.j Z Z (.ah Z Z Z (.B Z Z Z Z Z Z (.j Z Z (W.lit1 Z Z Z Z Z Z Z Z Z (S.appendP ha20 Z Z Z Z Z Z Z Z Z Z Z Z (.ah Z Z Z (W.store Z Z Z Z Z (.nil ?_))))))))))
 obtain rfl:=oi h
 exact⟨⟨[],[(oE 3 [.own 6 0 a20.length,.map 3,int time]),pool 4 b8 (l.set xv.toNat (⟨en58.item,en58.key,en58.time,(l4.length:Int)⟩:c8)),.dead,.one (pmap 1 vU l5),.dead,.dead,.one (prow 1 a20)]⟩,Sub.cut Y Z ⟨.one Z,(.any m9),.dead,(.one (l0 Z)),.dead,.dead,(.one (j6 Z)),Y⟩ Z,Done.normal Z ⟨Z,Z⟩⟩
theorem ai4{xv:Int}{time:Int}{l:List c8}{l4:Li}{l5:List (Int×Int)}{r:(List c8)×Li}(h:N5 xv time l l4 l5=some r):FnOk prog 108 [.c (.ifc 188 [.ptr 0 0 0] false),.c (.ifc 183 [.ptr (1,[xv.toNat]) 0 0] false)] (aj3 xv time l l4 l5) (fun tt ss=>tt=.tup []∧ss=[(oE 3 [.own 6 0 r.2.length,.map 3,int time]),pool 4 b8 r.1,.dead,.one (pmap 1 vU l5),.dead,.dead,.one (prow 1 r.2)]):=by
 refine FnOk.enter (rs:=[]) func108 Z ntmps108 results108 Z Y (by kernel_rfl) Z ?_
 refine AWP.weak ?_
 unfold N5 at h
 refine AWP.q ?_
 obtain⟨a6,ha6,h⟩:=b9 h
 refine AWP.u (.j Z Z (.j Z Z (S.invokeP (r2:=.tup []) (σ'':=[(oE 3 [.own 6 0 a6.2.length,.map 3,int time]),pool 4 b8 a6.1,.dead,.one (pmap 1 vU l5),.dead,.dead,.one (prow 1 a6.2)]) Z Z Z (FnOk.lend [0,1,2,3] (X9 ha6) Z Z Z Z Z Z (by exact⟨(.one Z),(.any m9),(.one (j6 Z)),(.one (l0 Z)),Y⟩) Z (by exact⟨(.live Z (.one Z)),(.live Z RenE.pool),(.live Z (.one (j5 fun _=>Z))),(.live Z (.one (m4 fun _=>Z))),Y⟩) Z Z (by exact⟨(.new 0 Z Z (.one Z)),(.new 1 Z Z RenE.pool),.dead,(.new 3 Z Z (.one (m4 fun _=>Z))),.dead,.dead,(.new 6 Z Z (.one (j5 fun _=>Z))),Y⟩)) (.nil (b6 ?_)))))
 obtain⟨a9,ha9,a11,ha11,h⟩:=b2 h
 refine AWP.u (.j Z Z (.j Z Z (S.invokeV (r2:=(cI (a6.2.length:Int))) (σ'':=[(oE 3 [.own 6 0 a6.2.length,.map 3,int time]),pool 4 b8 a6.1,.dead,.one (pmap 1 vU l5),.dead,.dead,.one (prow 1 a6.2)]) Z Z Z Z Z Z Z (FnOk.lend [6,1] (D8 ha9) Z Z Z Z Z Z (by exact⟨(.one (j6 Z)),(.any m9),Y⟩) Z (by exact⟨(.live Z (.one (j5 fun _=>Z))),(.live Z RenE.pool),Y⟩) Z Z (by exact⟨(.old Z Z Z),(.new 1 Z Z RenE.pool),.dead,(.old Z Z Z),.dead,.dead,(.new 0 Z Z (.one (j5 fun _=>Z))),Y⟩)) (S.sub Z Z Z (.callF (r2:=.tup []) (σ'':=[(oE 3 [.own 6 0 a11.1.length,.map 3,int time]),pool 4 b8 a11.2,.dead,.one (pmap 1 vU l5),.dead,.dead,.one (prow 1 a11.1)]) Z Z Z (FnOk.lend [0,6,3,1] (W1 ha11) Z Z Z Z Z Z (by exact⟨(.one Z),(.one (j6 Z)),(.one (l0 Z)),(.any m9),Y⟩) Z (by exact⟨(.live Z (.one Z)),(.live Z (.one (j5 fun _=>Z))),(.live Z (.one (m4 fun _=>Z))),(.live Z RenE.pool),Y⟩) Z Z (by exact⟨(.new 0 Z Z (.one Z)),(.new 3 Z Z RenE.pool),.dead,(.new 2 Z Z (.one (m4 fun _=>Z))),.dead,.dead,(.new 1 Z Z (.one (j5 fun _=>Z))),Y⟩)) (.nil ?_))))))
 obtain rfl:=oi h
 exact⟨⟨[],[(oE 3 [.own 6 0 a11.1.length,.map 3,int time]),pool 4 b8 a11.2,.dead,.one (pmap 1 vU l5),.dead,.dead,.one (prow 1 a11.1)]⟩,Sub.env Y,Done.normal Z ⟨Z,Z⟩⟩
theorem K3{item:Int}{key:Int}{time:Int}{l:Li}{l5:List (Int×Int)}{l6:List c8}{r:(List (Int×Int))×Li×(List c8)}(h:z7 item key time l l5 l6=some r):FnOk prog 88 [(cP 0 0 0),.c (.imm (.val (.int .u32 item))),(cI key)] (ab0 item key time l l5 l6) (fun tt ss=>tt=.tup []∧ss=[(oE 3 [.own 4 0 r.2.1.length,.map 2,int (w64 (time+1))]),.dead,.one (pmap 5 vU r.1),.dead,.one (prow 5 r.2.1),pool 4 b8 r.2.2]):=by
 refine FnOk.enter (rs:=[]) func88 Z ntmps88 results88 Z Y (by kernel_rfl) Z ?_
 refine AWP.weak ?_
 unfold z7 at h
 refine AWP.j (env':=[(0,(cP 0 0 0)),(1,.c (.imm (.val (.int .u32 item)))),(2,(cI key))]) (σ':=[(oE 3 [.own 4 0 l.length,.map 2,int time]),.dead,.one (pmap 3 vU l5),pool 4 b8 l6,.one (prow 3 l)]) 4 1 Z Z Z ⟨Z,Z,Z,Y⟩ Z ⟨⟨Z,Z⟩,Y,⟨l0 Z,A5 Z O3⟩,(r9.pool Z),⟨j6 Z,A5 Z O5⟩,Y⟩ (.moveM (env':=[(0,(cP 0 0 0)),(1,.c (.imm (.val (.int .u32 item)))),(2,(cI key))]) (σ':=[(oE 3 [.own 4 0 l.length,.map 2,int time]),.dead,.one (pmap 5 vU l5),.dead,.one (prow 5 l),pool 4 b8 l6]) 5 3 Z Z Z ⟨Z,Z,Z,Y⟩ Z ⟨(.one Z Z),.dead,(.one (l0 Z) (G9 Z Z (m4 fun _=>Z))),.dead,(.one (j6 Z) (G9 Z Z (j5 fun _=>Z))),(EntR.pool Z Z),Y⟩ ?_)
 refine AWP.q (.u (.j Z Z (.ah Z Z Z (W.fieldAddr Z Z Z Z (.B Z Z Z Z Z Z (S.add Z Z Z (.ah Z Z Z (W.fieldAddr Z Z Z Z (W.store Z Z Z Z Z (.nil (b6 (.q (.q (.u (.j Z Z (.ah Z Z Z (W.fieldAddr Z Z Z Z (.B Z Z Z Z Z Z (.j Z Z (S.lookupOkP (fk:=vU) (k:=item) C1 Z Z Z Z Z (.j Z Z (.aa Z Z Z (.aa Z Z Z (.v Z Z (.v Z Z (.nil (b6 (.q (.u (.j Z Z (.nil (b6 (.ad Z h (fun hc60 h=> ?_) (fun hc60 h=> ?_))))))))))))))))))))))))))))))))))
 ·obtain⟨ap61,hap61,h⟩:=b9 h
  refine AWP.sub (s':=⟨[(0,(cP 0 0 0)),(1,.c (.imm (.val (.int .u32 item)))),(2,(cI key)),(6,(cP (5,[ap61.toNat]) 0 0)),(7,(cB (Option.isSome (mget l5 item)))),(9,(cP 0 0 0)),(10,(cP 0 0 0)),(11,(cP 0 0 2)),(12,(cI time)),(13,(cI (w64 (time+1)))),(14,(cP 0 0 0)),(15,(cP 0 0 2)),(17,(cP 0 0 0)),(18,(cP 0 0 0)),(19,(cP 0 0 1)),(20,.c (.map 2)),(21,.c (.imm (.val (.int .u32 item)))),(23,(cP (5,[ap61.toNat]) 0 0)),(24,(cB (Option.isSome (mget l5 item)))),(25,(cB (Option.isSome (mget l5 item))))],[(oE 3 [.own 4 0 l.length,.map 2,int (w64 (time+1))]),.dead,.one (pmap 5 vU l5),.dead,.one (prow 5 l),pool 4 b8 l6]⟩) (Sub.env ⟨Z,Z,Z,(ptrO_some hap61),Z,Z,Z,Z,Z,Z,Z,Z,Z,Z,Z,Z,Z,(ptrO_some hap61),Z,Z,Y⟩) (.q ?_)
  obtain⟨en62,hen62,h⟩:=b9 h
  refine AWP.u (.j Z Z (.j Z Z (.j Z Z (.j Z Z (.ah Z Z Z (W.fieldAddr Z Z Z Z (.B Z Z Z Z Z Z (S.nilCheckE Z Z (by simpa only[lS] using l8 hen62) Z (S.fieldE Z Z Z (by simpa only[lS] using l8 hen62) Z (S.storeE (e':=(⟨en62.item,key,en62.time,en62.fat⟩:c8)) hen62 Z Z Z Z Z Z (S.nilCheckE Z Z (by simpa only[lS] using l8 hen62) Z (S.fieldE Z Z Z (by simpa only[lS] using l8 hen62) Z (S.storeE (e':=(⟨en62.item,key,w64 (time+1),en62.fat⟩:c8)) (ix_set hen62) Z Z Z Z Z Z (.nil (b6 (.q ?_))))))))))))))))
  obtain⟨a45,ha45,h⟩:=b9 h
  refine AWP.drawEI [8] mixed Z Z Z ?_
  refine d3.consN Z Z (fun E=>.j Z Z .N) Z (.consN Z Z (fun E=>.ah Z Z Z .N) Z (.consN Z Z (fun E=>W.fieldAddr Z Z Z Z .N) Z (.consN Z Z (fun E=>S.mkIfc Z Z Z .N) Z (.consN Z Z (fun E=>.j Z Z .N) Z (.consN Z Z (fun E=>S.nilCheckE Z Z (by simpa only[lS] using l8 hen62) Z .N) Z (.consN Z Z (fun E=>S.fieldE Z Z Z (by simpa only[lS] using l8 hen62) Z .N) Z (.consN Z Z (fun E=>.B Z Z (y5 Z (ix_set (ix_set hen62))) Z Z Z .N) Z ?_)))))))
  apply d3.consE;exact Z;exact Z;intro E
  refine AOps.callF (r2:=.tup []) (σ'':=[(oE 3 [.own 4 0 a45.1.length,.map 2,int (w64 (time+1))]),.dead,.one (pmap 5 vU l5),.dead,.one (prow 5 a45.1),pool 4 b8 a45.2]) Z Z Z (FnOk.lend [0,4,2,5] (ak1 ha45) Z Z Z Z Z Z (by exact⟨(.one Z),(.one (j6 Z)),(.one (l0 Z)),(.any m9),Y⟩) Z (by exact⟨(.live Z (.one Z)),(.live Z (.one (j5 fun _=>Z))),(.live Z (.one (m4 fun _=>Z))),(.live Z RenE.pool),Y⟩) Z Z (by exact⟨(.new 0 Z Z (.one Z)),.dead,(.new 2 Z Z (.one (m4 fun _=>Z))),.dead,(.new 1 Z Z (.one (j5 fun _=>Z))),(.new 3 Z Z RenE.pool),Y⟩)) .N
  exact Z
  exact Z
  refine d3.done Z ?_ ?_
  ·refine f7.cons Z Z (.go Z Z (fun E=>.j Z Z .N) (.skip Z .nil)) (.cons Z Z (.go Z Z (fun E=>.ah Z Z Z .N) (.skip Z .nil)) (.cons Z Z (.go Z Z (fun E=>W.fieldAddr Z Z Z Z .N) (.skip Z .nil)) (.cons Z Z (.go Z Z (fun E=>S.mkIfc Z Z Z .N) (.skip Z .nil)) (.cons Z Z (.go Z Z (fun E=>.j Z Z .N) (.skip Z .nil)) (.cons Z Z (.go Z Z (fun E=>S.nilCheckE Z Z (by simpa only[lS] using l8 hen62) Z .N) (.skip Z .nil)) (.cons Z Z (.go Z Z (fun E=>S.fieldE Z Z Z (by simpa only[lS] using l8 hen62) Z .N) (.skip Z .nil)) (.cons Z Z (.go Z Z (fun E=>.B Z Z (y5 Z (ix_set (ix_set hen62))) Z Z Z .N) (.skip Z .nil)) ?_)))))))
   refine f7.skip Z (f7.nil)
  dsimp only[j9]
  refine b6 (.ret (e8 ?_))
  obtain rfl:=oi h
  exact⟨⟨[],[(oE 3 [.own 4 0 a45.1.length,.map 2,int (w64 (time+1))]),.dead,.one (pmap 5 vU l5),.dead,.one (prow 5 a45.1),pool 4 b8 a45.2]⟩,Sub.env Y,Done.ret Z ⟨Z,Z⟩⟩
 ·refine AWP.skip (b6 (.q ?_))
  obtain⟨u63,hu63,u64,hu64,h⟩:=b2 h
  refine AWP.u (.j Z Z (.j Z Z (.j Z Z (.ah Z Z Z (W.fieldAddr Z Z Z Z (.B Z Z Z Z Z Z (W.build Z Z Z Z (W.box Z Z Z Z Z Z (.sub (Sub.move (env':=[(0,(cP 0 0 0)),(1,.c (.imm (.val (.int .u32 item)))),(2,(cI key)),(7,(cB (Option.isSome (mget l5 item)))),(9,(cP 0 0 0)),(10,(cP 0 0 0)),(11,(cP 0 0 2)),(12,(cI time)),(13,(cI (w64 (time+1)))),(14,(cP 0 0 0)),(15,(cP 0 0 2)),(17,(cP 0 0 0)),(18,(cP 0 0 0)),(19,(cP 0 0 1)),(20,.c (.map 2)),(21,.c (.imm (.val (.int .u32 item)))),(24,(cB (Option.isSome (mget l5 item)))),(25,(cB (Option.isSome (mget l5 item)))),(46,.c (.imm (.val (.int .u32 item)))),(47,(cI key)),(48,(cP 0 0 0)),(49,(cP 0 0 0)),(50,(cP 0 0 2)),(51,(cI (w64 (time+1)))),(52,.agg [.imm (.val (.int .u32 item)),int key,int (w64 (time+1)),int 0]),(53,(cP (5,[(l6.length:Int).toNat]) 0 0))]) (σ':=[(oE 3 [.own 4 0 l.length,.map 2,int (w64 (time+1))]),.dead,.one (pmap 5 vU l5),.dead,.one (prow 5 l),pool 4 b8 (l6++[(⟨item,key,w64 (time+1),0⟩:c8)])]) (5,[l6.length]) (6,[]) Z Z Z ⟨Z,Z,Z,Z,Z,Z,Z,Z,Z,Z,Z,Z,Z,Z,Z,Z,Z,Z,Z,Z,Z,Z,Z,Z,Z,ptr_adopt,Y⟩ Z ⟨⟨Z,Z⟩,Y,⟨l0 Z,al1 Z (pmap_adopt hu63) mv_root⟩,Y,⟨j6 Z,al1 Z (prow_adopt hu64) mv_root⟩,(r9.adopt Z Z),Y⟩) (.v Z Z (.nil (b6 (.q (.u (.j Z Z (.ah Z Z Z (W.fieldAddr Z Z Z Z (.B Z Z Z Z Z Z (.j Z Z (.j Z Z (S.mapUpdateP (fk:=vU) (k:=item) (a:=(l6.length:Int)) C1 Z Z Z Z Z (.nil (b6 ?_)))))))))))))))))))))))
  obtain⟨a66,ha66,h⟩:=b9 h
  refine AWP.u (.j Z Z (.ah Z Z Z (W.fieldAddr Z Z Z Z (S.mkIfc Z Z Z (.j Z Z (S.mkIfc Z Z Z (.callF (r2:=.tup []) (σ'':=[(oE 3 [.own 8 0 a66.2.length,.map 2,int (w64 (time+1))]),.dead,.one (pmap 5 vU (mset l5 item (l6.length:Int))),.dead,.dead,pool 4 b8 a66.1,.dead,.dead,.one (prow 5 a66.2)]) Z Z Z (FnOk.lend [0,5,4,2] (ai4 ha66) Z Z Z Z Z Z (by exact⟨(.one Z),(.any m9),(.one (j6 Z)),(.one (l0 Z)),Y⟩) Z (by exact⟨(.live Z (.one Z)),(.live Z RenE.pool),(.live Z (.one (j5 fun _=>Z))),(.live Z (.one (m4 fun _=>Z))),Y⟩) Z Z (by exact⟨(.new 0 Z Z (.one Z)),.dead,(.new 3 Z Z (.one (m4 fun _=>Z))),.dead,.dead,(.new 1 Z Z RenE.pool),.dead,.dead,(.new 6 Z Z (.one (j5 fun _=>Z))),Y⟩)) (.nil ?_))))))))
  obtain rfl:=oi h
  exact⟨⟨[],[(oE 3 [.own 4 0 a66.2.length,.map 2,int (w64 (time+1))]),.dead,.one (pmap 5 vU (mset l5 item (l6.length:Int))),.dead,.one (prow 5 a66.2),pool 4 b8 a66.1]⟩,(Sub.move (env':=[]) (σ':=[(oE 3 [.own 4 0 a66.2.length,.map 2,int (w64 (time+1))]),.dead,.one (pmap 5 vU (mset l5 item (l6.length:Int))),.dead,.one (prow 5 a66.2),pool 4 b8 a66.1,.dead,.dead]) 4 8 Z Z Z Y Z ⟨⟨Z,Z⟩,Y,⟨l0 Z,A5 Z O3⟩,Y,⟨j6 Z,A5 Z O5⟩,(r9.pool Z),Y,Y,Y⟩).trans (Sub.cut Y Z ⟨.one Z,.dead,(.one (l0 Z)),.dead,(.one (j6 Z)),(.any m9),Y⟩ Z),Done.normal Z ⟨Z,Z⟩⟩
theorem ab9{time:Int}{l:Li}{l3:List (Int×Int)}{l4:List c8}{r:Unit}(h:G4 time l l3 l4=some r):FnOk prog 90 [(cP 0 0 0)] (ab6 time l l3 l4) (fun tt ss=>tt=(cI (l.length:Int))∧ss=[(oE 3 [.own 1 0 l.length,.map 2,int time]),.one (prow 3 l),.one (pmap 3 vU l3),pool 4 b8 l4]):=by
 refine FnOk.enter (rs:=[.t 2]) func90 Z ntmps90 results90 Z ⟨Y,Y⟩ (by kernel_rfl) Z ?_
 refine AWP.weak ?_
 unfold G4 at h
 refine AWP.q (.u (.v Z Z (.nil (b6 (.q (.u (.j Z Z (.ah Z Z Z (W.fieldAddr Z Z Z Z (.B Z Z Z Z Z Z (.lenOwnB Z Z Z (fun hl7=>.v Z Z (.nil (b6 (.ret ?_)))))))))))))))
 obtain rfl:=oi h
 exact⟨⟨[(2,(cI (l.length:Int)))],[(oE 3 [.own 1 0 l.length,.map 2,int time]),.one (prow 3 l),.one (pmap 3 vU l3),pool 4 b8 l4]⟩,Sub.env ⟨Z,Y⟩,Done.ret Z ⟨Z,Z⟩⟩
theorem aa9{time:Int}{l:Li}{l3:List (Int×Int)}{l4:List c8}{r:Li×Int}(h:F6 time l l3 l4=some r):FnOk prog 164 [(cP 0 0 0)] (ab2 time l l3 l4) (fun tt ss=>tt=.c (.ifc 183 [.ptr (3,[r.2.toNat]) 0 0] false)∧ss=[(oE 3 [.own 5 0 r.1.length,.map 2,int time]),.dead,.one (pmap 3 vU l3),pool 4 b8 l4,.dead,.one (prow 3 r.1)]):=by
 refine FnOk.enter (rs:=[.t 2]) func164 Z ntmps164 results164 Z ⟨Y,Y⟩ (by kernel_rfl) Z ?_
 refine AWP.weak ?_
 unfold F6 at h
 refine AWP.j (env':=[(0,(cP 0 0 0))]) (σ':=[(oE 3 [.own 4 0 l.length,.map 2,int time]),.dead,.one (pmap 3 vU l3),pool 4 b8 l4,.one (prow 3 l)]) 4 1 Z Z Z ⟨Z,Y⟩ Z ⟨⟨Z,Z⟩,Y,⟨l0 Z,A5 Z O3⟩,(r9.pool Z),⟨j6 Z,A5 Z O5⟩,Y⟩ (.q (.u (.v Z Z (.nil (b6 (.q (.u (.j Z Z (.ah Z Z Z (.B Z Z Z Z Z Z (.v Z Z (.nil (b6 (.q ?_))))))))))))))
 obtain⟨a12,ha12,h⟩:=b9 h
 refine AWP.u (.j Z Z (.j Z Z (.lenOwnB Z Z Z (fun hl10=>.sub' Z Z Z (by omega) (S.idxPb Z Z Z (by simpa only[lS] using B5 ha12) Z Z (S.loadP ha12 Z Z Z Z (.v Z Z (.nil (b6 (.q ?_))))))))))
 obtain⟨a19,ha19,h⟩:=b9 h
 refine AWP.u (.j Z Z (.j Z Z (.j Z Z (.lenOwnB Z Z Z (fun hl17=>.sub' Z Z Z (by omega) (S.shrinkP ha19 Z Z Z Z Z (.sub (Sub.reownP (env':=[(0,(cP 0 0 0)),(2,.c (.imm (.val .nilIface))),(4,(cP (3,[a12.toNat]) 0 0)),(5,(cP 0 0 0)),(6,(cP 0 0 0)),(10,(cI (l.length:Int))),(11,(cI ((l.length:Int) - 1))),(13,(cP (3,[a12.toNat]) 0 0)),(14,(cP 0 0 0)),(17,(cI (l.length:Int))),(18,(cI ((l.length:Int) - 1))),(19,.c (.own 5 0 a19.length))]) 19 ha19 Z Z Z Z Z Z Z (by exact⟨.inr Z,.inr Z,.inr Z,.inr Z,.inr Z,.inr Z,.inr Z,.inr Z,.inr Z,.inr Z,.inr Z,.inl ⟨Z,Z⟩,Y⟩)) (.ah Z Z Z (W.store Z Z Z Z Z (.nil (b6 (.q (.u (.j Z Z (S.mkIfc Z Z Z (.v Z Z (.nil (b6 (.ret ?_)))))))))))))))))))
 obtain rfl:=oi h
 exact⟨⟨[(2,.c (.ifc 183 [.ptr (3,[a12.toNat]) 0 0] false))],[(oE 3 [.own 5 0 a19.length,.map 2,int time]),.dead,.one (pmap 3 vU l3),pool 4 b8 l4,.dead,.one (prow 3 a19)]⟩,Sub.env ⟨Z,Y⟩,Done.ret Z ⟨Z,Z⟩⟩
theorem ak3{time:Int}{l:Li}{l3:List (Int×Int)}{l4:List c8}{r:(List c8)×Li×Int}(h:P1 time l l3 l4=some r):FnOk prog 110 [.c (.ifc 188 [.ptr 0 0 0] false)] (ak2 time l l3 l4) (fun tt ss=>tt=.c (.ifc 183 [.ptr (3,[r.2.2.toNat]) 0 0] false)∧ss=[(oE 3 [.own 5 0 r.2.1.length,.map 2,int time]),.dead,.one (pmap 3 vU l3),pool 4 b8 r.1,.dead,.one (prow 3 r.2.1)]):=by
 refine FnOk.enter (rs:=[.t 2]) func110 Z ntmps110 results110 Z ⟨Y,Y⟩ (by kernel_rfl) Z ?_
 refine AWP.weak ?_
 unfold P1 at h
 refine AWP.q (.u (.v Z Z (.nil (b6 (.q ?_)))))
 obtain⟨a5,ha5,h⟩:=b9 h
 refine AWP.u (.j Z Z (S.invokeV (r2:=(cI (l.length:Int))) (σ'':=[(oE 3 [.own 1 0 l.length,.map 2,int time]),.one (prow 3 l),.one (pmap 3 vU l3),pool 4 b8 l4]) Z Z Z Z Z Z Z (FnOk.lend [1,3] (D8 ha5) Z Z Z Z Z Z (by exact⟨(.one (j6 Z)),(.any m9),Y⟩) Z (by exact⟨(.live Z (.one (j5 fun _=>Z))),(.live Z RenE.pool),Y⟩) Z Z (by exact⟨(.old Z Z Z),(.new 0 Z Z (.one (j5 fun _=>Z))),(.old Z Z Z),(.new 1 Z Z RenE.pool),Y⟩)) (S.sub Z Z Z (.v Z Z (.nil (b6 (.q ?_)))))))
 obtain⟨a9,ha9,u58,hu58,h⟩:=b2 h
 refine AWP.u (.j Z Z (.j Z Z (S.invokeV (r2:=.tup []) (σ'':=[(oE 3 [.own 1 0 l.length,.map 2,int time]),.one (prow 3 a9.1),.one (pmap 3 vU l3),pool 4 b8 a9.2]) Z Z Z Z Z Z Z (FnOk.lend [1,3] (D2 ha9) Z Z Z Z Z Z (by exact⟨(.one (j6 Z)),(.any m9),Y⟩) Z (by exact⟨(.live Z (.one (j5 fun _=>Z))),(.live Z RenE.pool),Y⟩) Z Z (by exact⟨(.old Z Z Z),(.new 0 Z Z (.one (j5 fun _=>Z))),(.old Z Z Z),(.new 1 Z Z RenE.pool),Y⟩)) (.nil (b6 (.q ?_))))))
 obtain⟨a12,ha12,h⟩:=b9 h
 refine AWP.u (.j Z Z (.j Z Z (.sub (s':=⟨[(0,.c (.ifc 188 [.ptr 0 0 0] false)),(2,.c (.imm (.val .nilIface))),(3,(cI (w64 ((l.length:Int) - 1)))),(4,.c (.ifc 188 [.ptr 0 0 0] false)),(5,(cI (l.length:Int))),(6,(cI (w64 ((l.length:Int) - 1)))),(7,.c (.ifc 188 [.ptr 0 0 0] false)),(8,(cI (w64 ((l.length:Int) - 1)))),(9,.tup []),(10,.c (.ifc 188 [.ptr 0 0 0] false)),(11,(cI (w64 ((l.length:Int) - 1))))],[(oE 3 [.own 1 0 a9.1.length,.map 2,int time]),.one (prow 3 a9.1),.one (pmap 3 vU l3),pool 4 b8 a9.2]⟩) (Sub.cut ⟨Z,Z,Z,Z,Z,Z,Z,Z,Z,Z,Z,Y⟩ Z ⟨(.eq Z (by rw[(ap2 hu58)])),(.one (j6 Z)),(.one (l0 Z)),(.any m9),Y⟩ Z) (.callF (r2:=(cB a12.2.2)) (σ'':=[(oE 3 [.own 1 0 a12.1.length,.map 2,int time]),.one (prow 3 a12.1),.one (pmap 3 vU l3),pool 4 b8 a12.2.1]) Z Z Z (FnOk.lend [0,1,2,3] (S1 ha12) Z Z Z Z Z Z (by exact⟨(.one Z),(.one (j6 Z)),(.one (l0 Z)),(.any m9),Y⟩) Z (by exact⟨(.live Z (.one Z)),(.live Z (.one (j5 fun _=>Z))),(.live Z (.one (m4 fun _=>Z))),(.live Z RenE.pool),Y⟩) Z Z (by exact⟨(.new 0 Z Z (.one Z)),(.new 1 Z Z (.one (j5 fun _=>Z))),(.new 2 Z Z (.one (m4 fun _=>Z))),(.new 3 Z Z RenE.pool),Y⟩)) (.nil (b6 (.q ?_)))))))
 obtain⟨a14,ha14,h⟩:=b9 h
 refine AWP.u (.j Z Z (S.invokeP (r2:=.c (.ifc 183 [.ptr (3,[a14.2.toNat]) 0 0] false)) (σ'':=[(oE 3 [.own 5 0 a14.1.length,.map 2,int time]),.dead,.one (pmap 3 vU l3),pool 4 b8 a12.2.1,.dead,.one (prow 3 a14.1)]) Z Z Z (FnOk.lend [0,1,2,3] (aa9 ha14) Z Z Z Z Z Z (by exact⟨(.one Z),(.one (j6 Z)),(.one (l0 Z)),(.any m9),Y⟩) Z (by exact⟨(.live Z (.one Z)),(.live Z (.one (j5 fun _=>Z))),(.live Z (.one (m4 fun _=>Z))),(.live Z RenE.pool),Y⟩) Z Z (by exact⟨(.new 0 Z Z (.one Z)),.dead,(.new 2 Z Z (.one (m4 fun _=>Z))),(.new 3 Z Z RenE.pool),.dead,(.new 5 Z Z (.one (j5 fun _=>Z))),Y⟩)) (.v Z Z (.nil (b6 (.ret ?_))))))
 obtain rfl:=oi h
 exact⟨⟨[(2,.c (.ifc 183 [.ptr (3,[a14.2.toNat]) 0 0] false))],[(oE 3 [.own 5 0 a14.1.length,.map 2,int time]),.dead,.one (pmap 3 vU l3),pool 4 b8 a12.2.1,.dead,.one (prow 3 a14.1)]⟩,Sub.env ⟨Z,Y⟩,Done.ret Z ⟨Z,Z⟩⟩
theorem X4{time:Int}{l:Li}{l3:List (Int×Int)}{l4:List c8}{r:(List (Int×Int))×(List c8)×Li×Int×Int×Bool}(h:E7 time l l3 l4=some r):FnOk prog 91 [(cP 0 0 0)] (Y3 time l l3 l4) (fun tt ss=>tt=.tup [.c (.imm (.val (.int .u32 r.2.2.2.1))),(cI r.2.2.2.2.1),(cB r.2.2.2.2.2)]∧ss=[(oE 3 [.own 4 0 r.2.2.1.length,.map 2,int time]),.dead,.one (pmap 3 vU r.1),pool 4 b8 r.2.1,.one (prow 3 r.2.2.1)]):=by
 refine FnOk.enter (rs:=[.t 2,.t 3,.t 4]) func91 Z ntmps91 results91 Z ⟨Y,Y,Y,Y⟩ (by kernel_rfl) Z ?_
 refine AWP.weak ?_
 unfold E7 at h
 refine AWP.j (env':=[(0,(cP 0 0 0))]) (σ':=[(oE 3 [.own 4 0 l.length,.map 2,int time]),.dead,.one (pmap 3 vU l3),pool 4 b8 l4,.one (prow 3 l)]) 4 1 Z Z Z ⟨Z,Y⟩ Z ⟨⟨Z,Z⟩,Y,⟨l0 Z,A5 Z O3⟩,(r9.pool Z),⟨j6 Z,A5 Z O5⟩,Y⟩ (.q (.u (.v Z Z (.v Z Z (.v Z Z (.nil (b6 (.q (.q (.u (.j Z Z (.ah Z Z Z (W.fieldAddr Z Z Z Z (.B Z Z Z Z Z Z (.lenOwnB Z Z Z (fun hl10=>.eql Z Z Z (.nil (b6 (.ac Z h (fun hc61 h=> ?_) (fun hc61 h=> ?_))))))))))))))))))))
 ·refine AWP.q (.u (.j Z Z (.v Z Z (.v Z Z (.v Z Z (.nil (b6 (.ret (e8 ?_)))))))))
  obtain rfl:=oi h
  exact⟨⟨[(2,.c (.imm (.val (.int .u32 0)))),(3,(cI 0)),(4,(cB false))],[(oE 3 [.own 4 0 l.length,.map 2,int time]),.dead,.one (pmap 3 vU l3),pool 4 b8 l4,.one (prow 3 l)]⟩,Sub.env ⟨Z,Z,Z,Y⟩,Done.ret Z ⟨Z,Z⟩⟩
 ·refine AWP.skip (b6 (.q ?_))
  obtain⟨a17,ha17,h⟩:=b9 h
  refine AWP.u (.j Z Z (.ah Z Z Z (W.fieldAddr Z Z Z Z (S.mkIfc Z Z Z (.callF (r2:=.c (.ifc 183 [.ptr (3,[a17.2.2.toNat]) 0 0] false)) (σ'':=[(oE 3 [.own 6 0 a17.2.1.length,.map 2,int time]),.dead,.one (pmap 3 vU l3),pool 4 b8 a17.1,.dead,.dead,.one (prow 3 a17.2.1)]) Z Z Z (FnOk.lend [0,4,2,3] (ak3 ha17) Z Z Z Z Z Z (by exact⟨(.one Z),(.one (j6 Z)),(.one (l0 Z)),(.any m9),Y⟩) Z (by exact⟨(.live Z (.one Z)),(.live Z (.one (j5 fun _=>Z))),(.live Z (.one (m4 fun _=>Z))),(.live Z RenE.pool),Y⟩) Z Z (by exact⟨(.new 0 Z Z (.one Z)),.dead,(.new 2 Z Z (.one (m4 fun _=>Z))),(.new 3 Z Z RenE.pool),.dead,.dead,(.new 5 Z Z (.one (j5 fun _=>Z))),Y⟩)) (S.assert Z Z Z (.v Z Z (.nil (b6 (.q ?_))))))))))
  obtain⟨en62,hen62,h⟩:=b9 h
  refine AWP.drawEI [8] mixed Z Z Z ?_
  refine d3.consN Z Z (fun E=>.j Z Z .N) Z (.consN Z Z (fun E=>.ah Z Z Z .N) Z (.consN Z Z (fun E=>W.fieldAddr Z Z Z Z .N) Z (.consN Z Z (fun E=>.B Z Z Z Z Z Z .N) Z (.consN Z Z (fun E=>.j Z Z .N) Z (.consN Z Z (fun E=>S.nilCheckE Z Z (by simpa only[lS] using l8 hen62) Z .N) Z (.consN Z Z (fun E=>S.fieldE Z Z Z (by simpa only[lS] using l8 hen62) Z .N) Z (.consN Z Z (fun E=>.B Z Z (y5 Z hen62) Z Z Z .N) Z ?_)))))))
  apply d3.consE (v:=.undef);exact Z;exact Z;intro E
  refine S.deleteP (fk:=vU) (k:=en62.item) C1 Z Z Z Z Z .N
  exact Z
  exact Z
  refine d3.done Z ?_ ?_
  ·refine f7.cons Z Z (.go Z Z (fun E=>.j Z Z .N) (.skip Z .nil)) (.cons Z Z (.go Z Z (fun E=>.ah Z Z Z .N) (.skip Z .nil)) (.cons Z Z (.go Z Z (fun E=>W.fieldAddr Z Z Z Z .N) (.skip Z .nil)) (.cons Z Z (.go Z Z (fun E=>.B Z Z Z Z Z Z .N) (.skip Z .nil)) (.cons Z Z (.go Z Z (fun E=>.j Z Z .N) (.skip Z .nil)) (.cons Z Z (.go Z Z (fun E=>S.nilCheckE Z Z (by simpa only[lS] using l8 hen62) Z .N) (.skip Z .nil)) (.cons Z Z (.go Z Z (fun E=>S.fieldE Z Z Z (by simpa only[lS] using l8 hen62) Z .N) (.skip Z .nil)) (.cons Z Z (.go Z Z (fun E=>.B Z Z (y5 Z hen62) Z Z Z .N) (.skip Z .nil)) ?_)))))))
   refine f7.skip Z (f7.nil)
  dsimp only[j9]
  refine b6 (.q (.drawI mixed Z ?_))
  refine k9.consF Z (fun E=>.j Z Z .N) Z (.consF Z (fun E=>S.nilCheckE Z Z (by simpa only[lS] using l8 hen62) Z .N) Z (.consF Z (fun E=>S.fieldE Z Z Z (by simpa only[lS] using l8 hen62) Z .N) Z (.consF Z (fun E=>.B Z Z (y5 Z hen62) Z Z Z .N) Z (.consF Z (fun E=>.j Z Z .N) Z (.consF Z (fun E=>S.nilCheckE Z Z (by simpa only[lS] using l8 hen62) Z .N) Z (.consF Z (fun E=>S.fieldE Z Z Z (by simpa only[lS] using l8 hen62) Z .N) Z (.consF Z (fun E=>.B Z Z (y5 Z hen62) Z Z Z .N) Z (.consF Z (fun E=>.v Z Z .N) Z (.consF Z (fun E=>.v Z Z .N) Z (.consF Z (fun E=>.v Z Z .N) Z ?_))))))))))
  refine k9.done ?_
  dsimp only[j9]
  refine b6 (.ret ?_)
  obtain rfl:=oi h
  exact⟨⟨[(2,.c (.imm (.val (.int .u32 en62.item)))),(3,(cI en62.key)),(4,(cB true))],[(oE 3 [.own 4 0 a17.2.1.length,.map 2,int time]),.dead,.one (pmap 3 vU (mdel l3 en62.item)),pool 4 b8 a17.1,.one (prow 3 a17.2.1)]⟩,(Sub.move (env':=[(2,.c (.imm (.val (.int .u32 en62.item)))),(3,(cI en62.key)),(4,(cB true))]) (σ':=[(oE 3 [.own 4 0 a17.2.1.length,.map 2,int time]),.dead,.one (pmap 3 vU (mdel l3 en62.item)),pool 4 b8 a17.1,.one (prow 3 a17.2.1),.dead]) 4 6 Z Z Z ⟨Z,Z,Z,Y⟩ Z ⟨⟨Z,Z⟩,Y,⟨l0 Z,A5 Z O3⟩,(r9.pool Z),⟨j6 Z,A5 Z O5⟩,Y,Y⟩).trans (Sub.cut ⟨Z,Z,Z,Y⟩ Z ⟨.one Z,.dead,(.one (l0 Z)),(.any m9),(.one (j6 Z)),Y⟩ Z),Done.ret Z ⟨Z,Z⟩⟩
theorem ar6{l:Li}{start:Int}{goal:Int}{l4:List i7}{r:(List (Int×Int))}(h:O4 l start goal l4=some r):FnOk prog 64 [(cP 0 0 0),.c (row 1 eU32 l)] (N4 l start goal l4) (fun tt ss=>tt=.c (.map 4)∧ss=[(oE 3 (wW start goal 1 l4.length)),(oV 4 c9 l4),.dead,.dead,(oW vU vI r)]):=by
 refine FnOk.enter (rs:=[.t 4]) func64 Z ntmps64 results64 Z ⟨Y,Y⟩ (by kernel_rfl) Z ?_
 refine AWP.weak ?_
 unfold O4 at h
 refine AWP.q (.u (.v Z Z (.nil (b6 (.q (.u (W.makeMapM 2 2 vU j3 Z Z Z (W.alloc Z Z Z Z (W.store Z Z Z Z Z (.nil (b6 (.q (.u (W.makeMap vU vI Z Z Z (.v Z Z (.nil (b6 (.q ?_))))))))))))))))))
 obtain⟨a18,ha18,h⟩:=b9 h
 refine AWP.u (.callF (r2:=(cP 7 0 0)) (σ'':=[(oE 3 (wW start goal 1 l4.length)),(oV 4 c9 l4),mmap 2 2 vU j3 ([]:List (Int×List x7)),(o1 (.map 2)),(oW vU vI ([]:List (Int×Int))),.one (pmap 6 vU ([]:List (Int×Int))),pool 4 b8 ([]:List c8),(oE 3 [.own 8 0 (([]:Li).length),.map 5,int 0]),.one (prow 6 ([]:Li))]) Z Z Z (FnOk.lend [] (aj8 ha18) Z Z Z Z Z Z (by exact Y) Z (by exact Y) Z Z (by exact⟨(.old Z Z Z),(.old Z Z Z),(.old Z Z Z),(.old Z Z Z),(.old Z Z Z),(.new 0 Z Z (.one (m4 fun _=>Z))),(.new 1 Z Z RenE.pool),(.new 2 Z Z (.one Z)),(.new 3 Z Z (.one (j5 fun _=>Z))),Y⟩)) (.v Z Z (.nil (b6 (.q (.q (.u (.j Z Z (S.len Z Z (fun hl20=>.j Z Z (.nil (b6 (.F ?_)))))))))))))
 obtain⟨⟨c56,c57,c58,c59,c60,c61⟩,ho1,h⟩:=b9 h
 try dsimp only at h
 refine AWP.forS ho1 (fun t62 (c56,c57,c58,c59,c60,c61)=>⟨[(0,(cP 0 0 0)),(5,(cP 3 0 0)),(6,.c (.map 4)),(7,(cP 7 0 0)),(19,.c (row 1 eU32 l)),(20,(cI (l.length:Int))),(21,(cI t62))],[(oE 3 (wW start goal 1 l4.length)),(oV 4 c9 l4),mmap 2 2 vU j3 c56,(o1 (.map 2)),(oW vU vI c57),.one (pmap 6 vU c58),pool 4 b8 c59,(oE 3 [.own 8 0 c61.length,.map 5,int c60]),.one (prow 6 c61)]⟩) (fun(c56,c57,c58,c59,c60,c61) e st=>e=.exit 0∧Sub (N4 l start goal l4) st ⟨[(5,(cP 3 0 0)),(6,.c (.map 4)),(7,(cP 7 0 0))],[(oE 3 (wW start goal 1 l4.length)),(oV 4 c9 l4),mmap 2 2 vU j3 c56,(o1 (.map 2)),(oW vU vI c57),.one (pmap 6 vU c58),pool 4 b8 c59,(oE 3 [.own 8 0 c61.length,.map 5,int c60]),.one (prow 6 c61)]⟩) ?_ ?_ ?_ ?_
 ·try dsimp only
  exact Sub.env ⟨Z,Z,Z,Z,Z,Z,Z,Y⟩
 ·intro t62 s hlot62 hltt62 _
  obtain⟨c56,c57,c58,c59,c60,c61⟩:=s
  try dsimp only
  refine AWP.q (.u (.J Z Z Z (.nil (b6 (.q (.ae Z hltt62 (.exit (f5 (f5 ⟨Z,?_⟩)))))))))
  exact Sub.env ⟨Z,Z,Z,Y⟩
 ·intro t62 s o hlot62 hltt62 h
  obtain⟨c56,c57,c58,c59,c60,c61⟩:=s
  unfold ag8 at h
  try dsimp only at h ⊢
  refine AWP.q (.u (.J Z Z Z (.nil (b6 (.q (.af Z hltt62 (.skip (b6 (.q (.F (.q ?_)))))))))))
  obtain⟨a23,ha23,h⟩:=b9 h
  refine AWP.u (S.idx ha23 Z Z Z Z (.ai Z Z Z Z (W.alloc Z Z Z Z (W.store Z Z Z Z Z (.nil (b6 (.q (.u (.j Z Z (.B Z Z Z Z Z Z (W.mapUpdate (fk:=vU) (fv:=vI) (k:=a23) (a:=1000000000) C1 Z Z Z Z Z (.nil (b6 ?_)))))))))))))
  obtain⟨⟨c63,c64,c65,c66,c67⟩,hx68,h⟩:=b9 h
  refine AWP.seqJ (⟨[(0,(cP 0 0 0)),(5,(cP 3 0 0)),(6,.c (.map 4)),(7,(cP 7 0 0)),(9,(cP 9 0 0)),(19,.c (row 1 eU32 l)),(20,(cI (l.length:Int))),(21,(cI t62))],[(oE 3 (wW start goal 1 l4.length)),(oV 4 c9 l4),mmap 2 2 vU j3 c56,(o1 (.map 2)),(oW vU vI c63),.one (pmap 11 vU c64),.dead,(oE 3 [.own 10 0 c66.length,.map 5,int c65]),.dead,(o1 (.imm (.val (.int .u32 a23)))),.one (prow 11 c66),pool 4 b8 c67]⟩) ?_ ?_
  ·refine AWP.q ?_
   obtain⟨a29,ha29,hx68⟩:=b9 hx68
   refine AWP.u (.j Z Z (.B Z Z Z Z Z Z (.callF (r2:=(cB (decide (Go.bits .and .u32 a23 goal=goal)))) (σ'':=[(oE 3 (wW start goal 1 l4.length)),(oV 4 c9 l4),mmap 2 2 vU j3 c56,(o1 (.map 2)),(oW vU vI (mset c57 a23 1000000000)),.one (pmap 6 vU c58),pool 4 b8 c59,(oE 3 [.own 8 0 c61.length,.map 5,int c60]),.one (prow 6 c61),(o1 (.imm (.val (.int .u32 a23))))]) Z Z Z (FnOk.lend [0,1] (Y9 ha29) Z Z Z Z Z Z (by exact⟨(.one Z),.vec,Y⟩) Z (by exact⟨(.live Z (.one Z)),(.live Z .vec),Y⟩) Z Z (by exact⟨(.new 0 Z Z (.one Z)),(.new 1 Z Z .vec),(.old Z Z Z),(.old Z Z Z),(.old Z Z Z),(.old Z Z Z),(.old Z Z Z),(.old Z Z Z),(.old Z Z Z),(.old Z Z Z),Y⟩)) (.nil (b6 (.ac Z hx68 (fun hc69 hx68=> ?_) (fun hc69 hx68=> ?_)))))))
   ·refine AWP.q (.u (.j Z Z (.B Z Z Z Z Z Z (W.mapUpdate (fk:=vU) (fv:=vI) (k:=a23) (a:=0) C1 Z Z Z Z Z (.nil (b6 ?_))))))
    obtain⟨a34,ha34,hx68⟩:=b9 hx68
    refine AWP.u (.j Z Z (.B Z Z Z Z Z Z (.callF (r2:=.tup []) (σ'':=[(oE 3 (wW start goal 1 l4.length)),(oV 4 c9 l4),mmap 2 2 vU j3 c56,(o1 (.map 2)),(oW vU vI (mset (mset c57 a23 1000000000) a23 0)),.one (pmap 11 vU a34.1),.dead,(oE 3 [.own 10 0 a34.2.1.length,.map 5,int (w64 (c60+1))]),.dead,(o1 (.imm (.val (.int .u32 a23)))),.one (prow 11 a34.2.1),pool 4 b8 a34.2.2]) Z Z Z (FnOk.lend [7,8,5,6] (K3 ha34) Z Z Z Z Z Z (by exact⟨(.one Z),(.one (j6 Z)),(.one (l0 Z)),(.any m9),Y⟩) Z (by exact⟨(.live Z (.one Z)),(.live Z (.one (j5 fun _=>Z))),(.live Z (.one (m4 fun _=>Z))),(.live Z RenE.pool),Y⟩) Z Z (by exact⟨(.old Z Z Z),(.old Z Z Z),(.old Z Z Z),(.old Z Z Z),(.old Z Z Z),(.new 2 Z Z (.one (m4 fun _=>Z))),.dead,(.new 0 Z Z (.one Z)),.dead,(.old Z Z Z),(.new 4 Z Z (.one (j5 fun _=>Z))),(.new 5 Z Z RenE.pool),Y⟩)) (.nil ?_))))
    obtain⟨ej0,ej1,ej2,ej3,ej4⟩:=o5 hx68
    subst ej0 ej1 ej2 ej3 ej4
    refine b6 (Sub.env ⟨Z,Z,Z,Z,Z,Z,Z,Z,Y⟩)
   ·refine AWP.skip ?_
    obtain⟨ej0,ej1,ej2,ej3,ej4⟩:=o5 hx68
    subst ej0 ej1 ej2 ej3 ej4
    refine b6 ((Sub.move (env':=[(0,(cP 0 0 0)),(5,(cP 3 0 0)),(6,.c (.map 4)),(7,(cP 7 0 0)),(9,(cP 9 0 0)),(19,.c (row 1 eU32 l)),(20,(cI (l.length:Int))),(21,(cI t62))]) (σ':=[(oE 3 (wW start goal 1 l4.length)),(oV 4 c9 l4),mmap 2 2 vU j3 c56,(o1 (.map 2)),(oW vU vI (mset c57 a23 1000000000)),.one (pmap 6 vU c58),pool 4 b8 c59,(oE 3 [.own 10 0 c61.length,.map 5,int c60]),.dead,(o1 (.imm (.val (.int .u32 a23)))),.one (prow 6 c61)]) 10 8 Z Z Z ⟨Z,Z,Z,Z,Z,Z,Z,Z,Y⟩ Z ⟨⟨Z,Z⟩,⟨Blk.im_ok _ _ _,g8 Z⟩,(r9.mmap Z Z Z),⟨Z,Z⟩,⟨Z,Z⟩,⟨l0 Z,A5 Z O3⟩,(r9.pool Z),⟨Z,Z⟩,Y,⟨Z,Z⟩,⟨j6 Z,A5 Z O5⟩,Y⟩).trans ((Sub.moveM (env':=[(0,(cP 0 0 0)),(5,(cP 3 0 0)),(6,.c (.map 4)),(7,(cP 7 0 0)),(9,(cP 9 0 0)),(19,.c (row 1 eU32 l)),(20,(cI (l.length:Int))),(21,(cI t62))]) (σ':=[(oE 3 (wW start goal 1 l4.length)),(oV 4 c9 l4),mmap 2 2 vU j3 c56,(o1 (.map 2)),(oW vU vI (mset c57 a23 1000000000)),.one (pmap 11 vU c58),.dead,(oE 3 [.own 10 0 c61.length,.map 5,int c60]),.dead,(o1 (.imm (.val (.int .u32 a23)))),.one (prow 11 c61),pool 4 b8 c59]) 11 6 Z Z Z ⟨Z,Z,Z,Z,Z,Z,Z,Z,Y⟩ Z ⟨(.one Z Z),(.vec Z),(EntR.mmap Z Z Z),(.one Z Z),(.one Z Z),(.one (l0 Z) (G9 Z Z (m4 fun _=>Z))),.dead,(.one Z Z),.dead,(.one Z Z),(.one (j6 Z) (G9 Z Z (j5 fun _=>Z))),(EntR.pool Z Z),Y⟩).trans (Sub.env ⟨Z,Z,Z,Z,Z,Z,Z,Z,Y⟩)))
  ·try dsimp only at h
   refine AWP.q ?_
   obtain⟨a37,ha37,h⟩:=b9 h
   refine AWP.u (.j Z Z (.B Z Z Z Z Z Z (.callF (r2:=.c (.fn 109 [.ptr 12 0 0,.ptr 13 0 0])) (σ'':=[(oE 3 (wW start goal 1 l4.length)),(oV 4 c9 l4),mmap 2 2 vU j3 c56,(o1 (.map 2)),(oW vU vI c63),.one (pmap 11 vU c64),.dead,(oE 3 [.own 10 0 c66.length,.map 5,int c65]),.dead,(o1 (.imm (.val (.int .u32 a23)))),.one (prow 11 c66),pool 4 b8 c67,(o1 (.ptr 0 0 0)),(o1 (.imm (.val (.int .u32 a23))))]) Z Z Z (FnOk.lend [0,1] (N2 ha37) Z Z Z Z Z Z (by exact⟨(.one Z),.vec,Y⟩) Z (by exact⟨(.live Z (.one Z)),(.live Z .vec),Y⟩) Z Z (by exact⟨(.new 0 Z Z (.one Z)),(.new 1 Z Z .vec),(.old Z Z Z),(.old Z Z Z),(.old Z Z Z),(.old Z Z Z),.dead,(.old Z Z Z),.dead,(.old Z Z Z),(.old Z Z Z),(.old Z Z Z),(.new 2 Z Z (.one Z)),(.new 3 Z Z (.one Z)),Y⟩)) (.nil (b6 (.F ?_))))))
   obtain⟨c71,hr70,h⟩:=b9 h
   refine AWP.rangeB [(5,none),(9,none)] Z Z Z (fun as70 bo70 hA70 hB70=>⟨[(oE 3 (wW start goal 1 l4.length)),(oV 4 c9 l4),mmap 2 2 vU j3 c56,(o1 (.map 2)),(oW vU vI c63),.one (pmap 11 vU c64),.dead,(oE 3 [.own 10 0 c66.length,.map 5,int c65]),.dead,(o1 (.imm (.val (.int .u32 a23)))),.one (prow 11 c66),pool 4 b8 c67,(o1 (.ptr 0 0 0)),(o1 (.imm (.val (.int .u32 a23)))),.one (i8 96 [38] as70 bo70 .ready none [(5,none),(9,none)] [.ptr 3 0 0,.ptr 9 0 0])],fun tt ss=>tt=.tup []∧ss=[(oE 3 (wW start goal 1 l4.length)),(oV 4 c9 l4),.dead,(o1 (.map 15)),(oW vU vI c63),.one (pmap 11 vU c64),.dead,(oE 3 [.own 10 0 c66.length,.map 5,int c65]),.dead,(o1 (.imm (.val (.int .u32 a23)))),.one (prow 11 c66),pool 4 b8 c67,(o1 (.ptr 0 0 0)),(o1 (.imm (.val (.int .u32 a23)))),.one (i8 96 [38] as70 bo70 .ready none [(5,none),(9,none)] [.ptr 3 0 0,.ptr 9 0 0]),mmap 15 2 vU j3 c71],Z,?_,?_⟩)
   ·refine FnOk.enter (rs:=[]) func109 Z ntmps109 results109 Z Y (by kernel_rfl) Z ?_
    refine AWP.weak ?_
    unfold ag6 at hr70
    try dsimp only at hr70
    refine AWP.moveM (env':=[(0,.c (.yld 14)),(1,(cP 12 0 0)),(2,(cP 13 0 0))]) (σ':=[(oE 3 (wW start goal 1 l4.length)),(oV 4 c9 l4),.dead,(o1 (.map 15)),(oW vU vI c63),.one (pmap 11 vU c64),.dead,(oE 3 [.own 10 0 c66.length,.map 5,int c65]),.dead,(o1 (.imm (.val (.int .u32 a23)))),.one (prow 11 c66),pool 4 b8 c67,(o1 (.ptr 0 0 0)),(o1 (.imm (.val (.int .u32 a23)))),.one (i8 96 [38] as70 bo70 .ready none [(5,none),(9,none)] [.ptr 3 0 0,.ptr 9 0 0]),mmap 15 2 vU j3 c56]) 15 2 Z Z Z ⟨Z,Z,Z,Y⟩ Z ⟨(.one Z Z),(.vec Z),.dead,(.one Z Z),(.one Z Z),(.one (l0 Z) (G9 Z Z (m4 fun _=>Z))),.dead,(.one Z Z),.dead,(.one Z Z),(.one (j6 Z) (G9 Z Z (j5 fun _=>Z))),(EntR.pool Z Z),(.one Z Z),(.one Z Z),(.one Z Z),(EntR.mmap Z Z Z),Y⟩ ?_
    refine AWP.q (.u (.B Z Z Z Z Z Z (.ah Z Z Z (W.fieldAddr Z Z Z Z (.B Z Z Z Z Z Z (S.lenO Z Z Z (fun hl10=>.j Z Z (.nil (b6 (.F ?_))))))))))
    obtain⟨c72,ho2,hr70⟩:=b9 hr70
    refine AWP.forS ho2 (fun t73 c72=>⟨[(0,.c (.yld 14)),(2,(cP 13 0 0)),(9,.c (.own 1 0 l4.length)),(10,(cI (l4.length:Int))),(11,(cI t73))],[(oE 3 (wW start goal 1 l4.length)),(oV 4 c9 l4),.dead,(o1 (.map 15)),(oW vU vI c63),.one (pmap 11 vU c64),.dead,(oE 3 [.own 10 0 c66.length,.map 5,int c65]),.dead,(o1 (.imm (.val (.int .u32 a23)))),.one (prow 11 c66),pool 4 b8 c67,(o1 (.ptr 0 0 0)),(o1 (.imm (.val (.int .u32 a23)))),.one (i8 96 [38] as70 bo70 .ready none [(5,none),(9,none)] [.ptr 3 0 0,.ptr 9 0 0]),mmap 15 2 vU j3 c72]⟩) (fun c72 e st=>e=.exit 0∧Sub ([(oE 3 (wW start goal 1 l4.length)),(oV 4 c9 l4),mmap 2 2 vU j3 c56,(o1 (.map 2)),(oW vU vI c63),.one (pmap 11 vU c64),.dead,(oE 3 [.own 10 0 c66.length,.map 5,int c65]),.dead,(o1 (.imm (.val (.int .u32 a23)))),.one (prow 11 c66),pool 4 b8 c67,(o1 (.ptr 0 0 0)),(o1 (.imm (.val (.int .u32 a23)))),.one (i8 96 [38] as70 bo70 .ready none [(5,none),(9,none)] [.ptr 3 0 0,.ptr 9 0 0])]:b7) st ⟨[],[(oE 3 (wW start goal 1 l4.length)),(oV 4 c9 l4),.dead,(o1 (.map 15)),(oW vU vI c63),.one (pmap 11 vU c64),.dead,(oE 3 [.own 10 0 c66.length,.map 5,int c65]),.dead,(o1 (.imm (.val (.int .u32 a23)))),.one (prow 11 c66),pool 4 b8 c67,(o1 (.ptr 0 0 0)),(o1 (.imm (.val (.int .u32 a23)))),.one (i8 96 [38] as70 bo70 .ready none [(5,none),(9,none)] [.ptr 3 0 0,.ptr 9 0 0]),mmap 15 2 vU j3 c72]⟩) ?_ ?_ ?_ ?_
    ·try dsimp only
     exact Sub.env ⟨Z,Z,Z,Z,Z,Y⟩
    ·intro t73 c72 hlot73 hltt73 _
     try dsimp only
     refine AWP.q (.u (.J Z Z Z (.nil (b6 (.q (.ae Z hltt73 (.exit (f5 (f5 ⟨Z,?_⟩)))))))))
     exact Sub.env Y
    ·intro t73 c72 o hlot73 hltt73 h
     unfold ag9 at h
     try dsimp only at h ⊢
     refine AWP.q (.u (.J Z Z Z (.nil (b6 (.q (.af Z hltt73 (.skip (b6 (.q (.F (.q ?_)))))))))))
     obtain⟨ai14,hai14,h⟩:=b9 h
     refine AWP.u (.j Z Z (S.idxO hai14 Z Z Z Z Z (S.loadOAgg hai14 Z Z Z Z Z Z Z (W.alloc Z Z Z Z (.v Z Z (W.storeAgg Z Z Z Z Z Z Z (.nil (b6 (.q ?_)))))))))
     rcases bft (decide (Go.bits .and .u32 a23 ai14.pre=ai14.pre)) with hb74|hb74
     ·replace h:=N0 hb74 h
      refine AWP.u (.B Z Z Z Z Z Z (W.fieldAddr Z Z Z Z (.B Z Z Z Z Z Z (.bits Z Z Z (by simp) (W.fieldAddr Z Z Z Z (.B Z Z Z Z Z Z (.eql Z Z Z (.j Z Z (.z Z Z Z hb74 (.j Z Z (.z Z Z Z hb74 (.j Z Z (.z Z Z Z hb74 (W.fieldAddr Z Z Z Z (.z Z Z Z hb74 (.B Z Z Z Z Z Z (.z Z Z Z hb74 (.B Z Z Z Z Z Z (.z Z Z Z hb74 (W.fieldAddr Z Z Z Z (.z Z Z Z hb74 (.B Z Z Z Z Z Z (.z Z Z Z hb74 (.bits Z Z Z (by simp) (.z Z Z Z hb74 (W.fieldAddr Z Z Z Z (.z Z Z Z hb74 (.B Z Z Z Z Z Z (.z Z Z Z hb74 (.bits Z Z Z (by simp) (.z Z Z Z hb74 (W.build Z Z Z Z ?_))))))))))))))))))))))))))))))))
      refine AOps.z Z Z Z hb74 ?_;refine AOps.yieldB (E1:=[(10,(cP 17 0 0)),(38,.agg [int t73,int ai14.cost,.imm (.val (.int .u32 (Go.bits .or .u32 (Go.bits .andNot .u32 a23 ai14.del) ai14.add)))]),(5,(cP 3 0 0)),(9,(cP 9 0 0))]) (σ1:=[(oE 3 (wW start goal 1 l4.length)),(oV 4 c9 l4),.dead,(o1 (.map 15)),(oW vU vI c63),.one (pmap 11 vU c64),.dead,(oE 3 [.own 10 0 c66.length,.map 5,int c65]),.dead,(o1 (.imm (.val (.int .u32 a23)))),.one (prow 11 c66),pool 4 b8 c67,(o1 (.ptr 0 0 0)),(o1 (.imm (.val (.int .u32 a23)))),.one (i8 96 [38] as70 bo70 .ready none [(5,none),(9,none)] [.ptr 3 0 0,.ptr 9 0 0]),mmap 15 2 vU j3 c72,(oE 4 [.imm (.val (.int .u32 ai14.pre)),.imm (.val (.int .u32 ai14.add)),.imm (.val (.int .u32 ai14.del)),int ai14.cost]),(oE 3 [int t73,int ai14.cost,.imm (.val (.int .u32 (Go.bits .or .u32 (Go.bits .andNot .u32 a23 ai14.del) ai14.add)))])]) hA70 hB70 Z Z Z Z Z Z Z Z Z Z ?_ ?_
      ·refine AWP.u (W.alloc Z Z Z Z (W.storeAgg Z Z Z Z Z Z Z (.nil ?_)))
       exact⟨Z,Z⟩
      refine AWP.sub (s':=⟨[(5,(cP 3 0 0)),(9,(cP 9 0 0)),(10,(cP 17 0 0))],[(oE 3 (wW start goal 1 l4.length)),(oV 4 c9 l4),.dead,(o1 (.map 15)),(oW vU vI c63),.one (pmap 11 vU c64),.dead,(oE 3 [.own 10 0 c66.length,.map 5,int c65]),.dead,(o1 (.imm (.val (.int .u32 a23)))),.one (prow 11 c66),pool 4 b8 c67,(o1 (.ptr 0 0 0)),(o1 (.imm (.val (.int .u32 a23)))),.one (i8 96 [38] as70 bo70 .busy none [(5,none),(9,none)] [.ptr 3 0 0,.ptr 9 0 0]),mmap 15 2 vU j3 c72,(oE 4 [.imm (.val (.int .u32 ai14.pre)),.imm (.val (.int .u32 ai14.add)),.imm (.val (.int .u32 ai14.del)),int ai14.cost]),(oE 3 [int t73,int ai14.cost,.imm (.val (.int .u32 (Go.bits .or .u32 (Go.bits .andNot .u32 a23 ai14.del) ai14.add)))])]⟩) (Sub.env ⟨Z,Z,Z,Y⟩) (.F ?_)
      obtain⟨ab51,hab51,h⟩:=b9 h
      refine AWP.drawEI [11,12,13] mixed Z Z Z ?_
      refine d3.consN Z Z (fun E=>.B Z Z Z Z Z Z .N) Z (.consN Z Z (fun E=>W.fieldAddr Z Z Z Z .N) Z (.consN Z Z (fun E=>.B Z Z Z Z Z Z .N) Z (.consN Z Z (fun E=>.B Z Z Z Z Z Z .N) Z (.consN Z Z (fun E=>W.fieldAddr Z Z Z Z .N) Z (.consN Z Z (fun E=>.B Z Z Z Z Z Z .N) Z (.consN Z Z (fun E=>S.lookupM (fk:=vU) (key:=Go.bits .or .u32 (Go.bits .andNot .u32 a23 ai14.del) ai14.add) C1 Z Z Z Z Z .N) Z (.consN Z Z (fun E=>.B Z Z Z Z Z Z .N) Z (.consN Z Z (fun E=>W.fieldAddr Z Z Z Z .N) Z (.consN Z Z (fun E=>.B Z Z Z Z Z Z .N) Z (.consN Z Z (fun E=>W.build Z Z Z Z .N) Z ?_))))))))))
      apply d3.consE;exact Z;exact Z;intro E
      refine S.lit (f:=j3) (l:=[(⟨a23,ai14.cost⟩:x7)]) (ess:=[[.imm (.val (.int .u32 a23)),int ai14.cost]]) Z Z Z Z Z Z Z ⟨⟨.inl Z,.inl Z,Y⟩,Y⟩ Z Z Z .N
      exact Z
      exact Z
      apply d3.consE;exact Z;exact Z;intro E
      refine S.appendMM (f:=j3) hab51 Z Z Z Z Z (.own Z Z) Z Z Z Z .N
      exact Z
      exact Z
      apply d3.consE (v:=.undef);exact Z;exact Z;intro E
      refine S.updateMM (fk:=vU) (key:=Go.bits .or .u32 (Go.bits .andNot .u32 a23 ai14.del) ai14.add) C1 Z Z Z Z Z .N
      exact Z
      exact Z
      refine d3.done Z ?_ ?_
      ·refine f7.cons Z Z (.go Z Z (fun E=>.B Z Z Z Z Z Z .N) (.go Z Z (fun E=>.B Z Z Z Z Z Z .N) (.go Z Z (fun E=>.B Z Z Z Z Z Z .N) (.skip Z .nil)))) (.cons Z Z (.go Z Z (fun E=>W.fieldAddr Z Z Z Z .N) (.go Z Z (fun E=>W.fieldAddr Z Z Z Z .N) (.go Z Z (fun E=>W.fieldAddr Z Z Z Z .N) (.skip Z .nil)))) (.cons Z Z (.go Z Z (fun E=>.B Z Z Z Z Z Z .N) (.go Z Z (fun E=>.B Z Z Z Z Z Z .N) (.go Z Z (fun E=>.B Z Z Z Z Z Z .N) (.skip Z .nil)))) (.cons Z Z (.go Z Z (fun E=>.B Z Z Z Z Z Z .N) (.go Z Z (fun E=>.B Z Z Z Z Z Z .N) (.skip Z (.skip Z .nil)))) (.cons Z Z (.go Z Z (fun E=>W.fieldAddr Z Z Z Z .N) (.go Z Z (fun E=>W.fieldAddr Z Z Z Z .N) (.skip Z (.skip Z .nil)))) (.cons Z Z (.go Z Z (fun E=>.B Z Z Z Z Z Z .N) (.go Z Z (fun E=>.B Z Z Z Z Z Z .N) (.skip Z (.skip Z .nil)))) (.cons Z Z (.go Z Z (fun E=>S.lookupM (fk:=vU) (key:=Go.bits .or .u32 (Go.bits .andNot .u32 a23 ai14.del) ai14.add) C1 Z Z Z Z Z .N) (.go Z Z (fun E=>S.lookupM (fk:=vU) (key:=Go.bits .or .u32 (Go.bits .andNot .u32 a23 ai14.del) ai14.add) C1 Z Z Z Z Z .N) (.skip Z (.skip Z .nil)))) (.cons Z Z (.go Z Z (fun E=>.B Z Z Z Z Z Z .N) (.skip Z (.skip Z (.skip Z .nil)))) (.cons Z Z (.go Z Z (fun E=>W.fieldAddr Z Z Z Z .N) (.skip Z (.skip Z (.skip Z .nil)))) (.cons Z Z (.go Z Z (fun E=>.B Z Z Z Z Z Z .N) (.skip Z (.skip Z (.skip Z .nil)))) (.cons Z Z (.go Z Z (fun E=>W.build Z Z Z Z .N) (.skip Z (.skip Z (.skip Z .nil)))) ?_))))))))))
       refine f7.skip Z (f7.skip Z (f7.skip Z (f7.nil)))
      dsimp only[j9]
      refine f4 (B2 Z Z (.z Z Z Z hb74 (.not Z Z (.U Z hb74 Z Z (.nil (b6 (.j (env':=[(0,.c (.yld 14)),(2,(cP 13 0 0)),(9,.c (.own 1 0 l4.length)),(10,(cI (l4.length:Int))),(11,(cI t73)),(38,(cB false))]) (σ':=[(oE 3 (wW start goal 1 l4.length)),(oV 4 c9 l4),.dead,(o1 (.map 15)),(oW vU vI c63),.one (pmap 11 vU c64),.dead,(oE 3 [.own 10 0 c66.length,.map 5,int c65]),.dead,(o1 (.imm (.val (.int .u32 a23)))),.one (prow 11 c66),pool 4 b8 c67,(o1 (.ptr 0 0 0)),(o1 (.imm (.val (.int .u32 a23)))),.one (i8 96 [38] as70 bo70 .ready none [(5,none),(9,none)] [.ptr 3 0 0,.ptr 9 0 0]),mmap 15 2 vU j3 (mset c72 (Go.bits .or .u32 (Go.bits .andNot .u32 a23 ai14.del) ai14.add) ab51),(oE 4 [.imm (.val (.int .u32 ai14.pre)),.imm (.val (.int .u32 ai14.add)),.imm (.val (.int .u32 ai14.del)),int ai14.cost]),(oE 3 [int t73,int ai14.cost,.imm (.val (.int .u32 (Go.bits .or .u32 (Go.bits .andNot .u32 a23 ai14.del) ai14.add)))]),(oV 2 j3 [(⟨a23,ai14.cost⟩:x7)])]) (15,[posM c72 (Go.bits .or .u32 (Go.bits .andNot .u32 a23 ai14.del) ai14.add)]) (19,[]) Z Z Z ⟨Z,Z,Z,Z,Z,Z,Y⟩ Z ⟨⟨Z,Z⟩,⟨Blk.im_ok _ _ _,g8 Z⟩,Y,⟨Z,Z⟩,⟨Z,Z⟩,⟨l0 Z,al1 Z (pmap_mvR Z) mv_root⟩,Y,⟨Z,Z⟩,Y,⟨Z,Z⟩,⟨j6 Z,al1 Z (prow_mvR Z) mv_root⟩,(r9.poolR Z Z),⟨Z,Z⟩,⟨Z,Z⟩,⟨Z,Z⟩,(r9.putMM Z Z Z Z),⟨Z,Z⟩,⟨Z,Z⟩,⟨Blk.im_ok _ _ _,g8 Z⟩,Y⟩ (.aj Z (.skip (f4 (b6 (.u (.add Z Z Z (by omega) (.j Z Z (.nil ?_)))))))))))))))
      obtain rfl:=oi h
      refine b6 (Sub.cut ⟨Z,Z,Z,Z,Z,Y⟩ Z ⟨.one Z,.vec,.dead,.one Z,.one Z,(.one (l0 Z)),.dead,.one Z,.dead,.one Z,(.one (j6 Z)),(.any m9),.one Z,.one Z,.one Z,(.any (mm_ok Z)),Y⟩ Z)
     ·replace h:=L9 hb74 h
      refine AWP.u (.B Z Z Z Z Z Z (W.fieldAddr Z Z Z Z (.B Z Z Z Z Z Z (.bits Z Z Z (by simp) (W.fieldAddr Z Z Z Z (.B Z Z Z Z Z Z (.eql Z Z Z (.j Z Z (.E Z Z Z hb74 (.E Z Z Z hb74 (.E Z Z Z hb74 (.E Z Z Z hb74 (.E Z Z Z hb74 (.E Z Z Z hb74 (.E Z Z Z hb74 (.E Z Z Z hb74 (.E Z Z Z hb74 (.E Z Z Z hb74 (.E Z Z Z hb74 (.E Z Z Z hb74 (.E Z Z Z hb74 (.E Z Z Z hb74 (.ab Z hb74 Z Z (.nil (b6 (.aj Z (.skip (f4 (b6 (.u (.add Z Z Z (by omega) (.j Z Z (.nil ?_)))))))))))))))))))))))))))))))))
      obtain rfl:=oi h
      refine b6 (Sub.cut ⟨Z,Z,Z,Z,Z,Y⟩ Z ⟨.one Z,.vec,.dead,.one Z,.one Z,(.one (l0 Z)),.dead,.one Z,.dead,.one Z,(.one (j6 Z)),(.any m9),.one Z,.one Z,.one Z,(.any (mm_ok Z)),Y⟩ Z)
    ·intro e s hq
     obtain⟨rfl,hs⟩:=hq
     refine⟨_,hs,?_⟩
     refine j7 ?_
     obtain rfl:=oi hr70
     exact⟨⟨[],[(oE 3 (wW start goal 1 l4.length)),(oV 4 c9 l4),.dead,(o1 (.map 15)),(oW vU vI c63),.one (pmap 11 vU c64),.dead,(oE 3 [.own 10 0 c66.length,.map 5,int c65]),.dead,(o1 (.imm (.val (.int .u32 a23)))),.one (prow 11 c66),pool 4 b8 c67,(o1 (.ptr 0 0 0)),(o1 (.imm (.val (.int .u32 a23)))),.one (i8 96 [38] as70 bo70 .ready none [(5,none),(9,none)] [.ptr 3 0 0,.ptr 9 0 0]),mmap 15 2 vU j3 c72]⟩,Sub.env Y,Done.normal Z ⟨Z,Z⟩⟩
   ·rintro tt ss ⟨rfl,rfl⟩
    try dsimp only at h ⊢
    refine O2 Z Z (f4 (f4 (b6 (.u (.add Z Z Z (by omega) (.j Z Z (.nil ?_)))))))
    obtain rfl:=oi h
    refine b6 ((Sub.moveM (env':=[(0,(cP 0 0 0)),(5,(cP 3 0 0)),(6,.c (.map 4)),(7,(cP 7 0 0)),(19,.c (row 1 eU32 l)),(20,(cI (l.length:Int))),(21,(cI (t62+1)))]) (σ':=[(oE 3 (wW start goal 1 l4.length)),(oV 4 c9 l4),mmap 2 2 vU j3 c71,(o1 (.map 2)),(oW vU vI c63),.one (pmap 11 vU c64),.dead,(oE 3 [.own 10 0 c66.length,.map 5,int c65]),.dead,(o1 (.imm (.val (.int .u32 a23)))),.one (prow 11 c66),pool 4 b8 c67,(o1 (.ptr 0 0 0)),(o1 (.imm (.val (.int .u32 a23)))),.dead]) 2 15 Z Z Z ⟨Z,Z,Z,Z,Z,Z,Z,Y⟩ Z ⟨(.one Z Z),(.vec Z),(EntR.mmap Z Z Z),(.one Z Z),(.one Z Z),(.one (l0 Z) (G9 Z Z (m4 fun _=>Z))),.dead,(.one Z Z),.dead,(.one Z Z),(.one (j6 Z) (G9 Z Z (j5 fun _=>Z))),(EntR.pool Z Z),(.one Z Z),(.one Z Z),.dead,Y⟩).trans ((Sub.move (env':=[(0,(cP 0 0 0)),(5,(cP 3 0 0)),(6,.c (.map 4)),(7,(cP 7 0 0)),(19,.c (row 1 eU32 l)),(20,(cI (l.length:Int))),(21,(cI (t62+1)))]) (σ':=[(oE 3 (wW start goal 1 l4.length)),(oV 4 c9 l4),mmap 2 2 vU j3 c71,(o1 (.map 2)),(oW vU vI c63),.one (pmap 11 vU c64),.dead,(oE 3 [.own 8 0 c66.length,.map 5,int c65]),.one (prow 11 c66),(o1 (.imm (.val (.int .u32 a23)))),.dead,pool 4 b8 c67,(o1 (.ptr 0 0 0)),(o1 (.imm (.val (.int .u32 a23)))),.dead]) 8 10 Z Z Z ⟨Z,Z,Z,Z,Z,Z,Z,Y⟩ Z ⟨⟨Z,Z⟩,⟨Blk.im_ok _ _ _,g8 Z⟩,(r9.mmap Z Z Z),⟨Z,Z⟩,⟨Z,Z⟩,⟨l0 Z,A5 Z O3⟩,Y,⟨Z,Z⟩,⟨j6 Z,A5 Z O5⟩,⟨Z,Z⟩,Y,(r9.pool Z),⟨Z,Z⟩,⟨Z,Z⟩,Y,Y⟩).trans ((Sub.moveM (env':=[(0,(cP 0 0 0)),(5,(cP 3 0 0)),(6,.c (.map 4)),(7,(cP 7 0 0)),(19,.c (row 1 eU32 l)),(20,(cI (l.length:Int))),(21,(cI (t62+1)))]) (σ':=[(oE 3 (wW start goal 1 l4.length)),(oV 4 c9 l4),mmap 2 2 vU j3 c71,(o1 (.map 2)),(oW vU vI c63),.one (pmap 6 vU c64),pool 4 b8 c67,(oE 3 [.own 8 0 c66.length,.map 5,int c65]),.one (prow 6 c66),(o1 (.imm (.val (.int .u32 a23)))),.dead,.dead,(o1 (.ptr 0 0 0)),(o1 (.imm (.val (.int .u32 a23)))),.dead]) 6 11 Z Z Z ⟨Z,Z,Z,Z,Z,Z,Z,Y⟩ Z ⟨(.one Z Z),(.vec Z),(EntR.mmap Z Z Z),(.one Z Z),(.one Z Z),(.one (l0 Z) (G9 Z Z (m4 fun _=>Z))),(EntR.pool Z Z),(.one Z Z),(.one (j6 Z) (G9 Z Z (j5 fun _=>Z))),(.one Z Z),.dead,.dead,(.one Z Z),(.one Z Z),.dead,Y⟩).trans (Sub.cut ⟨Z,Z,Z,Z,Z,Z,Z,Y⟩ Z ⟨.one Z,.vec,(.any (mm_ok Z)),.one Z,.one Z,(.one (l0 Z)),(.any m9),.one Z,(.one (j6 Z)),Y⟩ Z))))
 ·intro e s hq
  obtain⟨rfl,hs⟩:=hq
  refine⟨_,hs,?_⟩
  refine j7 (b6 (.q (.F ?_)))
  obtain⟨c80,ho4,h⟩:=b9 h
  refine AWP.loopS ho4 (fun(c75,c76,c77,c78,c79)=>⟨[(5,(cP 3 0 0)),(6,.c (.map 4)),(7,(cP 7 0 0))],[(oE 3 (wW start goal 1 l4.length)),(oV 4 c9 l4),mmap 2 2 vU j3 c56,(o1 (.map 2)),(oW vU vI c75),.one (pmap 6 vU c76),pool 4 b8 c77,(oE 3 [.own 8 0 c79.length,.map 5,int c78]),.one (prow 6 c79)]⟩) (fun c80 e st=>e=.exit 4∧Sub (N4 l start goal l4) st ⟨[(6,.c (.map 4))],[(oE 3 (wW start goal 1 l4.length)),(oV 4 c9 l4),.dead,.dead,(oW vU vI c80)]⟩) ?_ ?_ ?_
  ·try dsimp only
   exact Sub.env ⟨Z,Z,Z,Y⟩
  ·intro s o h
   obtain⟨c75,c76,c77,c78,c79⟩:=s
   unfold ag4 at h
   try dsimp only at h ⊢
   refine AWP.q (.q ?_)
   obtain⟨a54,ha54,h⟩:=b9 h
   refine AWP.u (.j Z Z (.callF (r2:=(cI (c79.length:Int))) (σ'':=[(oE 3 (wW start goal 1 l4.length)),(oV 4 c9 l4),mmap 2 2 vU j3 c56,(o1 (.map 2)),(oW vU vI c75),.one (pmap 6 vU c76),pool 4 b8 c77,(oE 3 [.own 8 0 c79.length,.map 5,int c78]),.one (prow 6 c79)]) Z Z Z (FnOk.lend [7,8,5,6] (ab9 ha54) Z Z Z Z Z Z (by exact⟨(.one Z),(.one (j6 Z)),(.one (l0 Z)),(.any m9),Y⟩) Z (by exact⟨(.live Z (.one Z)),(.live Z (.one (j5 fun _=>Z))),(.live Z (.one (m4 fun _=>Z))),(.live Z RenE.pool),Y⟩) Z Z (by exact⟨(.old Z Z Z),(.old Z Z Z),(.old Z Z Z),(.old Z Z Z),(.old Z Z Z),(.new 2 Z Z (.one (m4 fun _=>Z))),(.new 3 Z Z RenE.pool),(.new 0 Z Z (.one Z)),(.new 1 Z Z (.one (j5 fun _=>Z))),Y⟩)) (.gtr Z Z Z (.nil (b6 (.ac Z h (fun hc81 h=> ?_) (fun hc81 h=> ?_)))))))
   ·refine AWP.skip (b6 (.F (.q ?_)))
    obtain⟨a58,ha58,h⟩:=b9 h
    refine AWP.u (.j Z Z (.callF (r2:=.tup [.c (.imm (.val (.int .u32 a58.2.2.2.1))),(cI a58.2.2.2.2.1),(cB a58.2.2.2.2.2)]) (σ'':=[(oE 3 (wW start goal 1 l4.length)),(oV 4 c9 l4),mmap 2 2 vU j3 c56,(o1 (.map 2)),(oW vU vI c75),.one (pmap 6 vU a58.1),pool 4 b8 a58.2.1,(oE 3 [.own 9 0 a58.2.2.1.length,.map 5,int c78]),.dead,.one (prow 6 a58.2.2.1)]) Z Z Z (FnOk.lend [7,8,5,6] (X4 ha58) Z Z Z Z Z Z (by exact⟨(.one Z),(.one (j6 Z)),(.one (l0 Z)),(.any m9),Y⟩) Z (by exact⟨(.live Z (.one Z)),(.live Z (.one (j5 fun _=>Z))),(.live Z (.one (m4 fun _=>Z))),(.live Z RenE.pool),Y⟩) Z Z (by exact⟨(.old Z Z Z),(.old Z Z Z),(.old Z Z Z),(.old Z Z Z),(.old Z Z Z),(.new 2 Z Z (.one (m4 fun _=>Z))),(.new 3 Z Z RenE.pool),(.new 0 Z Z (.one Z)),.dead,(.new 4 Z Z (.one (j5 fun _=>Z))),Y⟩)) (.j Z Z (.aa Z Z Z (.aa Z Z Z (.aa Z Z Z (.v Z Z (.v Z Z (.v Z Z (.nil (b6 (.q (.u (.B Z Z Z Z Z Z (.j Z Z (S.lookupM (fk:=vU) (key:=a58.2.2.2.1) C1 Z Z Z Z Z (S.lenMM Z Z Z (fun hl65=>.j Z Z (.nil (b6 (.F ?_)))))))))))))))))))))
    obtain⟨⟨c82,c83,c84,c85,c86⟩,ho5,h⟩:=b9 h
    try dsimp only at h
    refine AWP.forS ho5 (fun t87 (c82,c83,c84,c85,c86)=>⟨[(5,(cP 3 0 0)),(6,.c (.map 4)),(7,(cP 7 0 0)),(12,(cI a58.2.2.2.2.1)),(64,.c (rowC 2 c56 a58.2.2.2.1)),(65,(cI ((rowM c56 a58.2.2.2.1).length:Int))),(66,(cI t87))],[(oE 3 (wW start goal 1 l4.length)),(oV 4 c9 l4),mmap 2 2 vU j3 c56,(o1 (.map 2)),(oW vU vI c82),.one (pmap 6 vU c83),pool 4 b8 c84,(oE 3 [.own 9 0 c86.length,.map 5,int c85]),.dead,.one (prow 6 c86)]⟩) (fun(c82,c83,c84,c85,c86) e st=>e=.exit 6∧Sub (N4 l start goal l4) st ⟨[(5,(cP 3 0 0)),(6,.c (.map 4)),(7,(cP 7 0 0))],[(oE 3 (wW start goal 1 l4.length)),(oV 4 c9 l4),mmap 2 2 vU j3 c56,(o1 (.map 2)),(oW vU vI c82),.one (pmap 6 vU c83),pool 4 b8 c84,(oE 3 [.own 9 0 c86.length,.map 5,int c85]),.dead,.one (prow 6 c86)]⟩) ?_ ?_ ?_ ?_
    ·try dsimp only
     exact Sub.env ⟨Z,Z,Z,Z,Z,Z,Z,Y⟩
    ·intro t87 s hlot87 hltt87 _
     obtain⟨c82,c83,c84,c85,c86⟩:=s
     try dsimp only
     refine AWP.q (.u (.J Z Z Z (.nil (b6 (.q (.ae Z hltt87 (.exit (f5 (f5 ⟨Z,?_⟩)))))))))
     exact Sub.env ⟨Z,Z,Z,Y⟩
    ·intro t87 s o hlot87 hltt87 h
     obtain⟨c82,c83,c84,c85,c86⟩:=s
     unfold ag7 at h
     try dsimp only at h ⊢
     refine AWP.q (.u (.J Z Z Z (.nil (b6 (.q (.af Z hltt87 (.skip (b6 ?_))))))))
     obtain⟨⟨c88,c89,c90,c91,c92⟩,hx93,h⟩:=b9 h
     refine AWP.seqJ (⟨[(5,(cP 3 0 0)),(6,.c (.map 4)),(7,(cP 7 0 0)),(12,(cI a58.2.2.2.2.1)),(64,.c (rowC 2 c56 a58.2.2.2.1)),(65,(cI ((rowM c56 a58.2.2.2.1).length:Int))),(66,(cI t87))],[(oE 3 (wW start goal 1 l4.length)),(oV 4 c9 l4),mmap 2 2 vU j3 c56,(o1 (.map 2)),(oW vU vI c88),.one (pmap 12 vU c89),.dead,(oE 3 [.own 11 0 c91.length,.map 5,int c90]),.dead,.dead,.dead,.one (prow 12 c91),pool 4 b8 c92]⟩) ?_ ?_
     ·refine AWP.F (.q ?_)
      obtain⟨a68,ha68,hx93⟩:=b9 hx93
      refine AWP.u (S.idxMM ha68 Z Z Z Z (S.loadOAgg ha68 Z Z (mm_get Z ha68) Z Z Z Z (W.alloc Z Z Z Z (W.storeAgg Z Z Z Z Z Z Z (.nil (b6 (.q (.u (.j Z Z (W.fieldAddr Z Z Z Z (.B Z Z Z Z Z Z (S.add Z Z Z (.j Z Z (W.fieldAddr Z Z Z Z (.B Z Z Z Z Z Z (W.lookup (fk:=vU) (fv:=vI) (k:=a68.ffrom) (z:=0) C1 Z (fun _=>Z) Z Z Z Z ?_))))))))))))))))
      refine AOps.J Z Z Z (.nil (b6 (.ac Z hx93 (fun hc94 hx93=> ?_) (fun hc94 hx93=> ?_))))
      ·refine AWP.q (.u (.j Z Z (W.fieldAddr Z Z Z Z (.B Z Z Z Z Z Z (.j Z Z (W.fieldAddr Z Z Z Z (.B Z Z Z Z Z Z (S.add Z Z Z (W.mapUpdate (fk:=vU) (fv:=vI) (k:=a68.ffrom) (a:=w64 (a58.2.2.2.2.1+a68.cost)) C1 Z Z Z Z Z (.nil (b6 ?_)))))))))))
       obtain⟨a93,ha93,hx93⟩:=b9 hx93
       refine AWP.u (.j Z Z (W.fieldAddr Z Z Z Z (.B Z Z Z Z Z Z (.j Z Z (W.fieldAddr Z Z Z Z (.B Z Z Z Z Z Z (S.add Z Z Z (.callF (r2:=.tup []) (σ'':=[(oE 3 (wW start goal 1 l4.length)),(oV 4 c9 l4),mmap 2 2 vU j3 c56,(o1 (.map 2)),(oW vU vI (mset c82 a68.ffrom (w64 (a58.2.2.2.2.1+a68.cost)))),.one (pmap 12 vU a93.1),.dead,(oE 3 [.own 11 0 a93.2.1.length,.map 5,int (w64 (c85+1))]),.dead,.dead,(oE 2 [.imm (.val (.int .u32 a68.ffrom)),int a68.cost]),.one (prow 12 a93.2.1),pool 4 b8 a93.2.2]) Z Z Z (FnOk.lend [7,9,5,6] (K3 ha93) Z Z Z Z Z Z (by exact⟨(.one Z),(.one (j6 Z)),(.one (l0 Z)),(.any m9),Y⟩) Z (by exact⟨(.live Z (.one Z)),(.live Z (.one (j5 fun _=>Z))),(.live Z (.one (m4 fun _=>Z))),(.live Z RenE.pool),Y⟩) Z Z (by exact⟨(.old Z Z Z),(.old Z Z Z),(.old Z Z Z),(.old Z Z Z),(.old Z Z Z),(.new 2 Z Z (.one (m4 fun _=>Z))),.dead,(.new 0 Z Z (.one Z)),.dead,.dead,(.old Z Z Z),(.new 4 Z Z (.one (j5 fun _=>Z))),(.new 5 Z Z RenE.pool),Y⟩)) (.nil (f4 ?_))))))))))
       obtain⟨ej0,ej1,ej2,ej3,ej4⟩:=o5 hx93
       subst ej0 ej1 ej2 ej3 ej4
       refine b6 (Sub.cut ⟨Z,Z,Z,Z,Z,Z,Z,Y⟩ Z ⟨.one Z,.vec,(.any (mm_ok Z)),.one Z,.one Z,(.one (l0 Z)),.dead,.one Z,.dead,.dead,.dead,(.one (j6 Z)),(.any m9),Y⟩ (eOk1 Z (eOk1 Z (eOk1 Z (eOk1 Z (eOk1 (ad3 Z) (eOk1 Z (eOk1 Z Z))))))))
      ·refine AWP.skip (f4 ?_)
       obtain⟨ej0,ej1,ej2,ej3,ej4⟩:=o5 hx93
       subst ej0 ej1 ej2 ej3 ej4
       refine b6 ((Sub.move (env':=[(5,(cP 3 0 0)),(6,.c (.map 4)),(7,(cP 7 0 0)),(12,(cI a58.2.2.2.2.1)),(64,.c (rowC 2 c56 a58.2.2.2.1)),(65,(cI ((rowM c56 a58.2.2.2.1).length:Int))),(66,(cI t87))]) (σ':=[(oE 3 (wW start goal 1 l4.length)),(oV 4 c9 l4),mmap 2 2 vU j3 c56,(o1 (.map 2)),(oW vU vI c82),.one (pmap 6 vU c83),pool 4 b8 c84,(oE 3 [.own 11 0 c86.length,.map 5,int c85]),.dead,.dead,(oE 2 [.imm (.val (.int .u32 a68.ffrom)),int a68.cost]),.one (prow 6 c86)]) 11 9 Z Z Z ⟨Z,Z,Z,Z,rowC_mv (fun _=>Z) Z,Z,Z,Y⟩ (eOk1 Z (eOk1 Z (eOk1 Z (eOk1 Z (eOk1 (ad3 Z) (eOk1 Z (eOk1 Z Z))))))) ⟨⟨Z,Z⟩,⟨Blk.im_ok _ _ _,g8 Z⟩,(r9.mmap Z Z Z),⟨Z,Z⟩,⟨Z,Z⟩,⟨l0 Z,A5 Z O3⟩,(r9.pool Z),⟨Z,Z⟩,Y,Y,⟨Z,Z⟩,⟨j6 Z,A5 Z O5⟩,Y⟩).trans ((Sub.moveM (env':=[(5,(cP 3 0 0)),(6,.c (.map 4)),(7,(cP 7 0 0)),(12,(cI a58.2.2.2.2.1)),(64,.c (rowC 2 c56 a58.2.2.2.1)),(65,(cI ((rowM c56 a58.2.2.2.1).length:Int))),(66,(cI t87))]) (σ':=[(oE 3 (wW start goal 1 l4.length)),(oV 4 c9 l4),mmap 2 2 vU j3 c56,(o1 (.map 2)),(oW vU vI c82),.one (pmap 12 vU c83),.dead,(oE 3 [.own 11 0 c86.length,.map 5,int c85]),.dead,.dead,(oE 2 [.imm (.val (.int .u32 a68.ffrom)),int a68.cost]),.one (prow 12 c86),pool 4 b8 c84]) 12 6 Z Z Z ⟨Z,Z,Z,Z,rowC_mv (fun _=>Z) Z,Z,Z,Y⟩ (eOk1 Z (eOk1 Z (eOk1 Z (eOk1 Z (eOk1 (ad3 Z) (eOk1 Z (eOk1 Z Z))))))) ⟨(.one Z Z),(.vec Z),(EntR.mmap Z Z Z),(.one Z Z),(.one Z Z),(.one (l0 Z) (G9 Z Z (m4 fun _=>Z))),.dead,(.one Z Z),.dead,.dead,(.one Z Z),(.one (j6 Z) (G9 Z Z (j5 fun _=>Z))),(EntR.pool Z Z),Y⟩).trans (Sub.cut ⟨Z,Z,Z,Z,Z,Z,Z,Y⟩ Z ⟨.one Z,.vec,(.any (mm_ok Z)),.one Z,.one Z,(.one (l0 Z)),.dead,.one Z,.dead,.dead,.dead,(.one (j6 Z)),(.any m9),Y⟩ (eOk1 Z (eOk1 Z (eOk1 Z (eOk1 Z (eOk1 (ad3 Z) (eOk1 Z (eOk1 Z Z))))))))))
     ·try dsimp only at h
      refine AWP.u (.add Z Z Z (by omega) (.j Z Z (.nil ?_)))
      obtain rfl:=oi h
      refine b6 ((Sub.move (env':=[(5,(cP 3 0 0)),(6,.c (.map 4)),(7,(cP 7 0 0)),(12,(cI a58.2.2.2.2.1)),(64,.c (rowC 2 c56 a58.2.2.2.1)),(65,(cI ((rowM c56 a58.2.2.2.1).length:Int))),(66,(cI (t87+1)))]) (σ':=[(oE 3 (wW start goal 1 l4.length)),(oV 4 c9 l4),mmap 2 2 vU j3 c56,(o1 (.map 2)),(oW vU vI c88),.one (pmap 12 vU c89),.dead,(oE 3 [.own 9 0 c91.length,.map 5,int c90]),.dead,.one (prow 12 c91),.dead,.dead,pool 4 b8 c92]) 9 11 Z Z Z ⟨Z,Z,Z,Z,rowC_mv (fun _=>Z) Z,Z,Z,Y⟩ (eOk1 Z (eOk1 Z (eOk1 Z (eOk1 Z (eOk1 (ad3 Z) (eOk1 Z (eOk1 Z Z))))))) ⟨⟨Z,Z⟩,⟨Blk.im_ok _ _ _,g8 Z⟩,(r9.mmap Z Z Z),⟨Z,Z⟩,⟨Z,Z⟩,⟨l0 Z,A5 Z O3⟩,Y,⟨Z,Z⟩,Y,⟨j6 Z,A5 Z O5⟩,Y,Y,(r9.pool Z),Y⟩).trans ((Sub.moveM (env':=[(5,(cP 3 0 0)),(6,.c (.map 4)),(7,(cP 7 0 0)),(12,(cI a58.2.2.2.2.1)),(64,.c (rowC 2 c56 a58.2.2.2.1)),(65,(cI ((rowM c56 a58.2.2.2.1).length:Int))),(66,(cI (t87+1)))]) (σ':=[(oE 3 (wW start goal 1 l4.length)),(oV 4 c9 l4),mmap 2 2 vU j3 c56,(o1 (.map 2)),(oW vU vI c88),.one (pmap 6 vU c89),pool 4 b8 c92,(oE 3 [.own 9 0 c91.length,.map 5,int c90]),.dead,.one (prow 6 c91),.dead,.dead]) 6 12 Z Z Z ⟨Z,Z,Z,Z,rowC_mv (fun _=>Z) Z,Z,Z,Y⟩ (eOk1 Z (eOk1 Z (eOk1 Z (eOk1 Z (eOk1 (ad3 Z) (eOk1 Z (eOk1 Z Z))))))) ⟨(.one Z Z),(.vec Z),(EntR.mmap Z Z Z),(.one Z Z),(.one Z Z),(.one (l0 Z) (G9 Z Z (m4 fun _=>Z))),(EntR.pool Z Z),(.one Z Z),.dead,(.one (j6 Z) (G9 Z Z (j5 fun _=>Z))),.dead,.dead,Y⟩).trans (Sub.cut ⟨Z,Z,Z,Z,Z,Z,Z,Y⟩ Z ⟨.one Z,.vec,(.any (mm_ok Z)),.one Z,.one Z,(.one (l0 Z)),(.any m9),.one Z,.dead,(.one (j6 Z)),Y⟩ (eOk1 Z (eOk1 Z (eOk1 Z (eOk1 Z (eOk1 (ad3 Z) (eOk1 Z (eOk1 Z Z))))))))))
    ·intro e s hq
     obtain⟨rfl,hs⟩:=hq
     refine⟨_,hs,?_⟩
     refine j7 (f4 ?_)
     obtain rfl:=oi h
     refine b6 ⟨_,Z,?_⟩
     exact(Sub.move (env':=[(5,(cP 3 0 0)),(6,.c (.map 4)),(7,(cP 7 0 0))]) (σ':=[(oE 3 (wW start goal 1 l4.length)),(oV 4 c9 l4),mmap 2 2 vU j3 c56,(o1 (.map 2)),(oW vU vI c82),.one (pmap 6 vU c83),pool 4 b8 c84,(oE 3 [.own 8 0 c86.length,.map 5,int c85]),.one (prow 6 c86)]) 8 9 Z Z Z ⟨Z,Z,Z,Y⟩ Z ⟨⟨Z,Z⟩,⟨Blk.im_ok _ _ _,g8 Z⟩,(r9.mmap Z Z Z),⟨Z,Z⟩,⟨Z,Z⟩,⟨l0 Z,A5 Z O3⟩,(r9.pool Z),⟨Z,Z⟩,⟨j6 Z,A5 Z O5⟩,Y⟩).trans (Sub.env ⟨Z,Z,Z,Y⟩)
   ·refine AWP.exit (f5 ?_)
    obtain rfl:=oi h
    refine f5 ⟨_,Z,Z,?_⟩
    exact Sub.cut ⟨Z,Y⟩ Z ⟨.one Z,.vec,.dead,.dead,.one Z,Y⟩ Z
  ·intro e s hq
   obtain⟨rfl,hs⟩:=hq
   refine⟨_,hs,?_⟩
   refine j7 (b6 (.q (.u (.j Z Z (.v Z Z (.nil (b6 (.ret ?_))))))))
   obtain rfl:=oi h
   exact⟨⟨[(4,.c (.map 4))],[(oE 3 (wW start goal 1 l4.length)),(oV 4 c9 l4),.dead,.dead,(oW vU vI c80)]⟩,Sub.env ⟨Z,Y⟩,Done.ret Z ⟨Z,Z⟩⟩
theorem as2{t:d6}{r:Int×i9}(h:W5 t=some r):g9 prog 47 [.agg (tT t)] (.tup [(cI r.1),.agg [int r.2.code,int r.2.index]]):=by
 unfold g9
 refine FnOk.enter (rs:=[.t 2,.cell 3 27 2]) func47 Z ntmps47 results47 Z ⟨Y,rv _ Z,Y⟩ (by kernel_rfl) Z ?_
 unfold W5 at h
 refine AWP.q (.u (W.box Z Z Z Z Z Z (.v Z Z (W.alloc Z Z Z Z (.nil (b6 (.q ?_)))))))
 obtain⟨fk2,hfk2,h⟩:=b9 h
 rcases fk2 with fk2|fk2
 ·try dsimp only at h
  refine AWP.u (W.loadAgg Z Z Z Z Z Z Z (.callF (r2:=.tup [.c (.imm (.val (.pointer none))),.c (row 1 eU32 []),.agg [int fk2.1,int fk2.2]]) (σ'':=[(oE 4 (tT t)),(oE 2 [int 0,int 0]),.dead,(oE 2 [int fk2.1,int fk2.2])]) Z Z Z (FnOk.lend [] (FnOk.alt1 (M0 hfk2)) Z Z Z Z Z Z (by exact Y) Z (by exact Y) Z Z (by exact⟨(.old Z Z Z),(.old Z Z Z),.dead,(.new 1 Z Z (.one Z)),Y⟩)) (.j Z Z (.aa Z Z Z (.aa Z Z Z (.aa Z Z Z (W.alloc Z Z Z Z (.v Z Z (.v Z Z (W.storeAgg Z Z Z Z Z Z Z (.nil (b6 (.q (.q (.u (W.loadAgg Z Z Z Z Z Z Z (W.build Z Z Z Z (.neqP Z Z Z Z Z Z Z (.nil (b6 (.ad Z h (fun hc3 h=> ?_) (fun hc3 h=> ?_))))))))))))))))))))))
  ·refine AWP.q (.drawEI [2] mixed Z Z Z ?_)
   refine d3.consN Z Z (fun E=>W.loadAgg Z Z Z Z Z Z Z .N) Z (.consN Z Z (fun E=>.v Z Z .N) Z ?_)
   apply d3.consE (v:=.undef);exact Z;exact Z;intro E
   refine W.storeAgg Z Z Z Z Z Z Z .N
   exact Z
   exact Z
   refine d3.done Z ?_ ?_
   ·refine f7.cons Z Z (.go Z Z (fun E=>W.loadAgg Z Z Z Z Z Z Z .N) (.skip Z .nil)) (.cons Z Z (.go Z Z (fun E=>.v Z Z .N) (.skip Z .nil)) ?_)
    refine f7.skip Z (f7.nil)
   dsimp only[j9]
   refine b6 (.ret (e8 ?_))
   obtain rfl:=oi h
   exact Done.ret Z Z
  ·cases h
 ·try dsimp only at h
  refine AWP.u (W.loadAgg Z Z Z Z Z Z Z (.callF (r2:=.tup [(cP 6 0 0),.c (row 1 eU32 fk2.2.2.2),.agg [int 0,int 0]]) (σ'':=[(oE 4 (tT t)),(oE 2 [int 0,int 0]),.dead,(oE 2 [int 0,int 0]),.dead,.dead,(oE 3 [.imm (.val (.int .u32 fk2.1)),.imm (.val (.int .u32 fk2.2.1)),.own 7 0 fk2.2.2.1.length]),(oV 4 c9 fk2.2.2.1)]) Z Z Z (FnOk.lend [] (FnOk.alt2 (M0 hfk2)) Z Z Z Z Z Z (by exact Y) Z (by exact Y) Z Z (by exact⟨(.old Z Z Z),(.old Z Z Z),.dead,(.new 1 Z Z (.one Z)),.dead,.dead,(.new 4 Z Z (.one Z)),(.new 5 Z Z .vec),Y⟩)) (.j Z Z (.aa Z Z Z (.aa Z Z Z (.aa Z Z Z (W.alloc Z Z Z Z (.v Z Z (.v Z Z (W.storeAgg Z Z Z Z Z Z Z (.nil (b6 (.q (.q (.u (W.loadAgg Z Z Z Z Z Z Z (W.build Z Z Z Z (.neqP Z Z Z Z Z Z Z (.nil (b6 (.ad Z h (fun hc3 h=> ?_) (fun hc3 h=> ?_))))))))))))))))))))))
  ·refine AWP.q (.drawEI [2] mixed Z Z Z ?_)
   refine d3.consN Z Z (fun E=>W.loadAgg Z Z Z Z Z Z Z .N) Z (.consN Z Z (fun E=>.v Z Z .N) Z ?_)
   apply d3.consE (v:=.undef);exact Z;exact Z;intro E
   refine W.storeAgg Z Z Z Z Z Z Z .N
   exact Z
   exact Z
   refine d3.done Z ?_ ?_
   ·refine f7.cons Z Z (.go Z Z (fun E=>W.loadAgg Z Z Z Z Z Z Z .N) (.skip Z .nil)) (.cons Z Z (.go Z Z (fun E=>.v Z Z .N) (.skip Z .nil)) ?_)
    refine f7.skip Z (f7.nil)
   dsimp only[j9]
   refine b6 (.ret (e8 ?_))
   obtain rfl:=oi h
   exact Done.ret Z Z
  ·refine AWP.skip (b6 (.q ?_))
   obtain⟨a19,ha19,a21,ha21,h⟩:=b2 h
   refine AWP.u (.j Z Z (.j Z Z (.callF (r2:=.c (.map 11)) (σ'':=[(oE 4 (tT t)),(oE 2 [int 0,int 0]),.dead,(oE 2 [int 0,int 0]),.dead,.dead,(oE 3 [.imm (.val (.int .u32 fk2.1)),.imm (.val (.int .u32 fk2.2.1)),.own 7 0 fk2.2.2.1.length]),(oV 4 c9 fk2.2.2.1),(oE 2 [int 0,int 0]),.dead,.dead,(oW vU vI a19)]) Z Z Z (FnOk.lend [6,7] (ar6 ha19) Z Z Z Z Z Z (by exact⟨(.one Z),.vec,Y⟩) Z (by exact⟨(.live Z (.one Z)),(.live Z .vec),Y⟩) Z Z (by exact⟨(.old Z Z Z),(.old Z Z Z),.dead,(.old Z Z Z),.dead,.dead,(.new 0 Z Z (.one Z)),(.new 1 Z Z .vec),(.old Z Z Z),.dead,.dead,(.new 4 Z Z (.one Z)),Y⟩)) (.j Z Z (.callF (r2:=.c (.imm (.val (.int .u32 fk2.1)))) (σ'':=[(oE 4 (tT t)),(oE 2 [int 0,int 0]),.dead,(oE 2 [int 0,int 0]),.dead,.dead,(oE 3 [.imm (.val (.int .u32 fk2.1)),.imm (.val (.int .u32 fk2.2.1)),.own 7 0 fk2.2.2.1.length]),(oV 4 c9 fk2.2.2.1),(oE 2 [int 0,int 0]),.dead,.dead,(oW vU vI a19)]) Z Z Z (FnOk.lend [6,7] (F8 ha21) Z Z Z Z Z Z (by exact⟨(.one Z),.vec,Y⟩) Z (by exact⟨(.live Z (.one Z)),(.live Z .vec),Y⟩) Z Z (by exact⟨(.old Z Z Z),(.old Z Z Z),.dead,(.old Z Z Z),.dead,.dead,(.new 0 Z Z (.one Z)),(.new 1 Z Z .vec),(.old Z Z Z),.dead,.dead,(.old Z Z Z),Y⟩)) (W.lookup (fk:=vU) (fv:=vI) (k:=fk2.1) (z:=0) C1 Z (fun _=>Z) Z Z Z Z ?_))))))
   refine W.build Z Z Z Z (.v Z Z (W.storeAgg Z Z Z Z Z Z Z (.nil (b6 (.ret ?_)))))
   obtain rfl:=oi h
   exact Done.ret Z Z
theorem as0{t:d6}{op:Int}{r:Int×i9}(h:Q0 t op=some r):g9 prog 21 [.agg (tT t),(cI op)] (.tup [(cI r.1),.agg [int r.2.code,int r.2.index]]):=by
 unfold g9
 refine FnOk.enter (rs:=[.t 4,.cell 5 27 2]) func21 Z ntmps21 results21 Z ⟨Y,rv _ Z,Y⟩ (by kernel_rfl) Z ?_
 unfold Q0 at h
 refine AWP.q (.u (W.box Z Z Z Z Z Z (.v Z Z (W.alloc Z Z Z Z (.nil (b6 (.q (.q ?_))))))))
 obtain⟨a11,ha11,h⟩:=b9 h
 refine AWP.u (W.loadAgg Z Z Z Z Z Z Z (.j Z Z (.O Z Z Z Z (ar7 ha11) Z (W.alloc Z Z Z Z (W.storeAgg Z Z Z Z Z Z Z (.nil (b6 (.q (.u (W.loadAgg Z Z Z Z Z Z Z (W.build Z Z Z Z (.neqP Z Z Z Z Z Z Z (.nil (b6 (.ad Z h (fun hc3 h=> ?_) (fun hc3 h=> ?_))))))))))))))))
 ·refine AWP.q (.drawEI [2] mixed Z Z Z ?_)
  refine d3.consN Z Z (fun E=>W.loadAgg Z Z Z Z Z Z Z .N) Z (.consN Z Z (fun E=>.v Z Z .N) Z ?_)
  apply d3.consE (v:=.undef);exact Z;exact Z;intro E
  refine W.storeAgg Z Z Z Z Z Z Z .N
  exact Z
  exact Z
  refine d3.done Z ?_ ?_
  ·refine f7.cons Z Z (.go Z Z (fun E=>W.loadAgg Z Z Z Z Z Z Z .N) (.skip Z .nil)) (.cons Z Z (.go Z Z (fun E=>.v Z Z .N) (.skip Z .nil)) ?_)
   refine f7.skip Z (f7.nil)
  dsimp only[j9]
  refine b6 (.ret (e8 ?_))
  obtain rfl:=oi h
  exact Done.ret Z Z
 ·refine AWP.skip (b6 (.q ?_))
  obtain⟨a19,ha19,h⟩:=b9 h
  refine AWP.u (W.loadAgg Z Z Z Z Z Z Z (.j Z Z (.O Z Z Z Z (ar3 ha19) Z (.j Z Z (.aa Z Z Z (.aa Z Z Z (W.alloc Z Z Z Z (W.alloc Z Z Z Z (W.storeAgg Z Z Z Z Z Z Z (W.storeAgg Z Z Z Z Z Z Z (.nil (b6 (.q (.q (.u (W.loadAgg Z Z Z Z Z Z Z (W.build Z Z Z Z (.neqP Z Z Z Z Z Z Z (.nil (b6 (.ad Z h (fun hc4 h=> ?_) (fun hc4 h=> ?_))))))))))))))))))))))
  ·refine AWP.q (.drawEI [2] mixed Z Z Z ?_)
   refine d3.consN Z Z (fun E=>W.loadAgg Z Z Z Z Z Z Z .N) Z (.consN Z Z (fun E=>.v Z Z .N) Z ?_)
   apply d3.consE (v:=.undef);exact Z;exact Z;intro E
   refine W.storeAgg Z Z Z Z Z Z Z .N
   exact Z
   exact Z
   refine d3.done Z ?_ ?_
   ·refine f7.cons Z Z (.go Z Z (fun E=>W.loadAgg Z Z Z Z Z Z Z .N) (.skip Z .nil)) (.cons Z Z (.go Z Z (fun E=>.v Z Z .N) (.skip Z .nil)) ?_)
    refine f7.skip Z (f7.nil)
   dsimp only[j9]
   refine b6 (.ret (e8 ?_))
   obtain rfl:=oi h
   exact Done.ret Z Z
  ·refine AWP.skip (b6 (.q ?_))
   obtain⟨a27,ha27,h⟩:=b9 h
   refine AWP.u (W.loadAgg Z Z Z Z Z Z Z (.O Z Z Z Z (as2 ha27) Z (.aa Z Z Z (.aa Z Z Z (.v Z Z (W.storeAgg Z Z Z Z Z Z Z (.nil (b6 (.ret ?_)))))))))
   obtain rfl:=oi h
   exact Done.ret Z Z
theorem aq2{av:Li}{bv:Li}{r:Bool}(h:ae2 av bv=some r):g9 prog 22 [(cR av),(cR bv)] ((cB r)):=by
 unfold g9
 refine FnOk.enter (rs:=[.t 4]) func22 Z ntmps22 results22 Z ⟨Y,Y⟩ (by kernel_rfl) Z ?_
 unfold ae2 at h
 refine AWP.q (.u (.v Z Z (.nil (b6 (.q (.q (.u (.j Z Z (S.len Z Z (fun hl7=>.j Z Z (S.len Z Z (fun hl9=>.neq Z Z Z (.nil (b6 (.iteN Z h (fun hc3 h=> ?_) (fun hc3 h=> ?_))))))))))))))))
 ·refine AWP.q (.u (.v Z Z (.nil (b6 (.ret (e8 ?_))))))
  obtain rfl:=oi h
  exact Done.ret Z Z
 ·refine AWP.skip (b6 (.q (.q (.u (.v Z Z (.nil (b6 (.F ?_))))))))
  obtain⟨oo,ho1,h⟩:=b9 h
  refine AWP.rngS ho1 (fun iv4 _=>⟨[(0,(cR av)),(1,(cR bv)),(5,(cI iv4))],[]⟩) (fun o e st=>match o with| .inl _=>e=.exit 0∧Sub [] st ⟨[],[]⟩| .inr x=>e=.ret∧Done [.t 4] (fun t _=>t=(cB x)) .ret st) ?_ ?_ ?_ ?_
  ·try dsimp only
   exact Sub.env ⟨Z,Z,Z,Y⟩
  ·intro iv4 s hloiv4 hltiv4 _
   try dsimp only
   refine AWP.q (.q (.u (.j Z Z (.j Z Z (S.len Z Z (fun hl13=>.J Z Z Z (.nil (b6 (.ae Z hltiv4 (.exit (f5 (f5 ⟨Z,?_⟩))))))))))))
   exact Sub.env Y
  ·intro iv4 s o hloiv4 hltiv4 h
   unfold ai7 at h
   try dsimp only at h ⊢
   refine AWP.q (.q (.u (.j Z Z (.j Z Z (S.len Z Z (fun hl13=>.J Z Z Z (.nil (b6 (.af Z hltiv4 (.skip (b6 (.q (.F (.q ?_))))))))))))))
   obtain⟨a19,ha19,a23,ha23,h⟩:=b2 h
   refine AWP.drawI mixed Z ?_
   refine k9.consF Z (fun E=>.j Z Z .N) Z (.consF Z (fun E=>.j Z Z .N) Z (.consF Z (fun E=>S.idx ha19 Z Z Z Z .N) Z (.consF Z (fun E=>.ai Z Z Z Z .N) Z (.consF Z (fun E=>.j Z Z .N) Z (.consF Z (fun E=>.j Z Z .N) Z (.consF Z (fun E=>S.idx ha23 Z Z Z Z .N) Z (.consF Z (fun E=>.ai Z Z Z Z .N) Z (.consF Z (fun E=>.neq Z Z Z .N) Z ?_))))))))
   refine k9.done ?_
   dsimp only[j9]
   refine b6 (.iteN Z h (fun hc5 h=> ?_) (fun hc5 h=> ?_))
   ·refine AWP.q (.u (.v Z Z (.nil (b6 (.ret (j8 (e8 ?_)))))))
    obtain rfl:=oi h
    refine e8 ⟨_,Z,Z,?_⟩
    exact Done.ret Z Z
   ·refine AWP.skip (f4 (b6 (.u (.j Z Z (.add Z Z Z (by omega) (.v Z Z (.nil ?_)))))))
    obtain rfl:=oi h
    refine b6 ⟨_,Z,?_⟩
    exact Sub.env ⟨Z,Z,Z,Y⟩
  ·intro e s hq
   rcases oo with u|x
   ·try dsimp only at h hq
    obtain⟨rfl,hs⟩:=hq
    refine⟨_,hs,?_⟩
    refine j7 (b6 (.q (.u (.v Z Z (.nil (b6 (.ret ?_)))))))
    obtain rfl:=oi h
    exact Done.ret Z Z
   ·try dsimp only at h hq
    obtain⟨rfl,hs⟩:=hq
    refine⟨_,Sub.refl _ _,?_⟩
    refine j8 (e8 ?_)
    obtain rfl:=oi h
    exact hs
theorem Y4{r:Bool}(h:H9=some r):g9 prog 6 [] ((cB r)):=by
 unfold g9
 refine FnOk.enter (rs:=[.t 0]) func6 Z ntmps6 results6 Z ⟨Y,Y⟩ (by kernel_rfl) Z ?_
 unfold H9 at h
 refine AWP.q (.u (.v Z Z (.nil (b6 (.q ?_)))))
 obtain⟨a7,ha7,a8,ha8,h⟩:=b2 h
 refine AWP.u (.O Z Z Z Z (an3 ha7) Z (.O Z Z Z Z (g9.nil (by exact⟨⟨(.inl Z),(.inl Z),(.inl Z),(.inl Z),Y⟩,(.inr ⟨Z,_,Z⟩),Y⟩) (belief_Plan_ok ha8)) Z (.j Z Z (.aa Z Z Z (.aa Z Z Z (.aa Z Z Z (W.alloc Z Z Z Z (.v Z Z (.v Z Z (W.storeAgg Z Z Z Z Z Z Z (.nil (b6 (.q ?_)))))))))))))
 obtain⟨a13,ha13,a14,ha14,h⟩:=b2 h
 refine AWP.u (.O Z Z Z Z (an3 ha13) Z (.O Z Z Z Z (as0 ha14) Z (.j Z Z (.aa Z Z Z (.aa Z Z Z (W.alloc Z Z Z Z (.v Z Z (W.storeAgg Z Z Z Z Z Z Z (.nil (b6 ?_))))))))))
 obtain⟨t1,hx2,h⟩:=b9 h
 refine AWP.seqJ (⟨[(0,(cB t1))],[]⟩) ?_ ?_
 ·rcases bft (decide (a8.2.2.code=0)) with hb3|hb3
  ·replace hx2:=N0 hb3 hx2
   rcases bft (decide (a14.2.code=0)) with hb4|hb4
   ·replace hx2:=N0 hb4 hx2
    rcases bft (a8.2.1) with hb5|hb5
    ·replace hx2:=W8 hb5 hx2
     obtain⟨a31,ha31,hx2⟩:=b9 hx2
     rcases bft (a31) with hb6|hb6
     ·replace hx2:=W8 hb6 hx2
      refine AWP.u (W.fieldAddr Z Z Z Z (.B Z Z Z Z Z Z (.eql Z Z Z (.j Z Z (.z Z Z Z hb3 (W.fieldAddr Z Z Z Z (.z Z Z Z hb3 (.B Z Z Z Z Z Z (.z Z Z Z hb3 (.eql Z Z Z (.U Z hb3 Z Z (.j Z Z (.z Z Z Z hb4 (.j Z Z (.U Z hb4 Z Z (.j Z Z (.z Z Z Z hb5 (.j Z Z (.z Z Z Z hb5 (S.lit (f:=intI) (l:=[0]) (ess:=[[int 0]]) Z Z Z Z Z Z Z ⟨⟨.inl Z,Y⟩,Y⟩ Z Z Z (.z Z Z Z hb5 (.callL Z Z (.cons (.c .imm) (.cons (.c (.own Z Z)) .nil)) Z (aq2 ha31) Z (.U Z hb5 Z Z (.j Z Z (.z Z Z Z hb6 (.j Z Z (.z Z Z Z hb6 (.eql Z Z Z (.U Z hb6 Z Z (.v Z Z (.nil ?_)))))))))))))))))))))))))))))))
      obtain rfl:=oi hx2
      refine b6 (Sub.cut ⟨Z,Y⟩ Z Y Z)
     ·replace hx2:=X2 hb6 hx2
      refine AWP.u (W.fieldAddr Z Z Z Z (.B Z Z Z Z Z Z (.eql Z Z Z (.j Z Z (.z Z Z Z hb3 (W.fieldAddr Z Z Z Z (.z Z Z Z hb3 (.B Z Z Z Z Z Z (.z Z Z Z hb3 (.eql Z Z Z (.U Z hb3 Z Z (.j Z Z (.z Z Z Z hb4 (.j Z Z (.U Z hb4 Z Z (.j Z Z (.z Z Z Z hb5 (.j Z Z (.z Z Z Z hb5 (S.lit (f:=intI) (l:=[0]) (ess:=[[int 0]]) Z Z Z Z Z Z Z ⟨⟨.inl Z,Y⟩,Y⟩ Z Z Z (.z Z Z Z hb5 (.callL Z Z (.cons (.c .imm) (.cons (.c (.own Z Z)) .nil)) Z (aq2 ha31) Z (.U Z hb5 Z Z (.j Z Z (.E Z Z Z hb6 (.E Z Z Z hb6 (.ab Z hb6 Z Z (.v Z Z (.nil ?_)))))))))))))))))))))))))))))
      obtain rfl:=oi hx2
      refine b6 (Sub.cut ⟨Z,Y⟩ Z Y Z)
    ·replace hx2:=X2 hb5 hx2
     refine AWP.u (W.fieldAddr Z Z Z Z (.B Z Z Z Z Z Z (.eql Z Z Z (.j Z Z (.z Z Z Z hb3 (W.fieldAddr Z Z Z Z (.z Z Z Z hb3 (.B Z Z Z Z Z Z (.z Z Z Z hb3 (.eql Z Z Z (.U Z hb3 Z Z (.j Z Z (.z Z Z Z hb4 (.j Z Z (.U Z hb4 Z Z (.j Z Z (.E Z Z Z hb5 (.E Z Z Z hb5 (.E Z Z Z hb5 (.ab Z hb5 Z Z (.j Z Z (.E Z Z Z Z (.E Z Z Z Z (.ab Z Z Z Z (.v Z Z (.nil ?_))))))))))))))))))))))))))
     obtain rfl:=oi hx2
     refine b6 (Sub.cut ⟨Z,Y⟩ Z Y Z)
   ·replace hx2:=L9 hb4 hx2
    refine AWP.u (W.fieldAddr Z Z Z Z (.B Z Z Z Z Z Z (.eql Z Z Z (.j Z Z (.z Z Z Z hb3 (W.fieldAddr Z Z Z Z (.z Z Z Z hb3 (.B Z Z Z Z Z Z (.z Z Z Z hb3 (.eql Z Z Z (.U Z hb3 Z Z (.j Z Z (.E Z Z Z hb4 (.ab Z hb4 Z Z (.j Z Z (.E Z Z Z Z (.E Z Z Z Z (.E Z Z Z Z (.ab Z Z Z Z (.j Z Z (.E Z Z Z Z (.E Z Z Z Z (.ab Z Z Z Z (.v Z Z (.nil ?_)))))))))))))))))))))))))
    obtain rfl:=oi hx2
    refine b6 (Sub.cut ⟨Z,Y⟩ Z Y Z)
  ·replace hx2:=L9 hb3 hx2
   refine AWP.u (W.fieldAddr Z Z Z Z (.B Z Z Z Z Z Z (.eql Z Z Z (.j Z Z (.E Z Z Z hb3 (.E Z Z Z hb3 (.E Z Z Z hb3 (.ab Z hb3 Z Z (.j Z Z (.E Z Z Z Z (.ab Z Z Z Z (.j Z Z (.E Z Z Z Z (.E Z Z Z Z (.E Z Z Z Z (.ab Z Z Z Z (.j Z Z (.E Z Z Z Z (.E Z Z Z Z (.ab Z Z Z Z (.v Z Z (.nil ?_))))))))))))))))))))))
   obtain rfl:=oi hx2
   refine b6 (Sub.cut ⟨Z,Y⟩ Z Y Z)
 ·refine AWP.ret ?_
  obtain rfl:=oi h
  exact Done.ret Z Z
theorem ae9{t:d6}{r:Bool}(h:D7 t=some r):g9 prog 3 [.agg (tT t)] ((cB r)):=by
 unfold g9
 refine FnOk.enter (rs:=[.t 2]) func3 Z ntmps3 results3 Z ⟨Y,Y⟩ (by kernel_rfl) Z ?_
 unfold D7 at h
 refine AWP.q (.u (W.box Z Z Z Z Z Z (.v Z Z (.nil (b6 (.q ?_))))))
 obtain⟨a12,ha12,h⟩:=b9 h
 refine AWP.u (W.loadAgg Z Z Z Z Z Z Z (.O Z Z Z Z (g9.nil (by exact⟨⟨(.inl Z),(.inl Z),(.inl Z),(.inl Z),Y⟩,(.inr ⟨Z,_,Z⟩),Y⟩) (repair_Plan_ok ha12)) Z (.j Z Z (.aa Z Z Z (.aa Z Z Z (.aa Z Z Z (.aa Z Z Z (W.alloc Z Z Z Z (.v Z Z (.v Z Z (.v Z Z (W.storeAgg Z Z Z Z Z Z Z (.nil (b6 (.q ?_)))))))))))))))
 obtain⟨a19,ha19,h⟩:=b9 h
 refine AWP.u (W.loadAgg Z Z Z Z Z Z Z (.O Z Z Z Z (breadth_Plan_ok ha19) Z (.j Z Z (.aa Z Z Z (.aa Z Z Z (.aa Z Z Z (W.alloc Z Z Z Z (.v Z Z (.v Z Z (W.storeAgg Z Z Z Z Z Z Z (.nil (b6 (.q (.seqJ (⟨[(4,(cI a12.2.1)),(5,(cB a12.2.2.1)),(7,(cR a19.1)),(8,(cB a19.2.1)),(30,(cB ((!(decide (a12.2.2.2.code=0)))||(!(decide (a19.2.2.code=0))))))],[(oE 4 (tT t)),(oE 2 [int a12.2.2.2.code,int a12.2.2.2.index]),(oE 2 [int a19.2.2.code,int a19.2.2.index])]⟩) ?_ ?_))))))))))))))
 ·rcases bft (!(decide (a12.2.2.2.code=0))) with hb1|hb1
  ·refine AWP.u (W.fieldAddr Z Z Z Z (.B Z Z Z Z Z Z (.neq Z Z Z (.j Z Z (.E Z Z Z hb1 (.E Z Z Z hb1 (.E Z Z Z hb1 (.U Z hb1 Z Z (.nil (b6 ?_))))))))))
   simp only[and_t hb1,or_t hb1,Bool.false_or,Bool.true_or,Bool.false_and,Bool.true_and]
   exact Sub.env ⟨Z,Z,Z,Z,Z,Y⟩
  ·refine AWP.u (W.fieldAddr Z Z Z Z (.B Z Z Z Z Z Z (.neq Z Z Z (.j Z Z (.z Z Z Z hb1 (W.fieldAddr Z Z Z Z (.z Z Z Z hb1 (.B Z Z Z Z Z Z (.z Z Z Z hb1 (.neq Z Z Z (.ab Z hb1 Z Z (.nil (b6 ?_)))))))))))))
   simp only[and_f hb1,or_f hb1,Bool.false_or,Bool.true_or,Bool.false_and,Bool.true_and]
   exact Sub.env ⟨Z,Z,Z,Z,Z,Y⟩
 ·refine AWP.ad Z h (fun hc2 h=> ?_) (fun hc2 h=> ?_)
  ·refine AWP.q ?_
   obtain⟨a31,ha31,h⟩:=b9 h
   refine AWP.u (.O Z Z Z Z (Y4 ha31) Z (.v Z Z (.nil (b6 (.ret (e8 ?_))))))
   obtain rfl:=oi h
   exact Done.ret Z Z
  ·refine AWP.skip (b6 ?_)
   obtain⟨t3,hx4,h⟩:=b9 h
   refine AWP.seqJ (⟨[(2,(cB t3))],[]⟩) ?_ ?_
   ·rcases bft (decide (a12.2.2.1=a19.2.1)) with hb5|hb5
    ·replace hx4:=N0 hb5 hx4
     rcases bft (!a12.2.2.1) with hb6|hb6
     ·replace hx4:=W8 hb6 hx4
      obtain⟨a46,ha46,hx4⟩:=b9 hx4
      refine AWP.u (.j Z Z (.j Z Z (.eqlB Z Z Z (.j Z Z (.z Z Z Z hb5 (.j Z Z (.z Z Z Z hb5 (.not Z Z (.z Z Z Z hb5 (.j Z Z (.E Z Z Z hb6 (.E Z Z Z hb6 (.E Z Z Z hb6 (.E Z Z Z hb6 (.z Z Z Z hb5 (.U Z hb6 Z Z (.U Z hb5 Z Z (.j Z Z (.z Z Z Z Z (.O Z Z Z Z (Y4 ha46) Z (.U Z Z Z Z (.v Z Z (.nil ?_)))))))))))))))))))))))
      obtain rfl:=oi hx4
      refine b6 (Sub.cut ⟨Z,Y⟩ Z Y Z)
     ·replace hx4:=X2 hb6 hx4
      rcases bft (decide (a12.2.1=(a19.1.length:Int))) with hb7|hb7
      ·replace hx4:=N0 hb7 hx4
       obtain⟨a46,ha46,hx4⟩:=b9 hx4
       refine AWP.u (.j Z Z (.j Z Z (.eqlB Z Z Z (.j Z Z (.z Z Z Z hb5 (.j Z Z (.z Z Z Z hb5 (.not Z Z (.z Z Z Z hb5 (.j Z Z (.z Z Z Z hb6 (.j Z Z (.z Z Z Z hb6 (.j Z Z ?_))))))))))))))
       refine AOps.z Z Z Z hb6 ?_;refine S.len Z Z (fun hl41=> ?_)
       refine AOps.z Z Z Z hb6 (.eql Z Z Z (.z Z Z Z hb5 (.ab Z hb6 Z Z (.U Z hb5 Z Z (.j Z Z (.z Z Z Z hb7 (.O Z Z Z Z (Y4 ha46) Z (.U Z hb7 Z Z (.v Z Z (.nil ?_))))))))))
       obtain rfl:=oi hx4
       refine b6 (Sub.cut ⟨Z,Y⟩ Z Y Z)
      ·replace hx4:=L9 hb7 hx4
       refine AWP.u (.j Z Z (.j Z Z (.eqlB Z Z Z (.j Z Z (.z Z Z Z hb5 (.j Z Z (.z Z Z Z hb5 (.not Z Z (.z Z Z Z hb5 (.j Z Z (.z Z Z Z hb6 (.j Z Z (.z Z Z Z hb6 (.j Z Z ?_))))))))))))))
       refine AOps.z Z Z Z hb6 ?_;refine S.len Z Z (fun hl41=> ?_)
       refine AOps.z Z Z Z hb6 (.eql Z Z Z (.z Z Z Z hb5 (.ab Z hb6 Z Z (.U Z hb5 Z Z (.j Z Z (.E Z Z Z hb7 (.ab Z hb7 Z Z (.v Z Z (.nil ?_)))))))))
       obtain rfl:=oi hx4
       refine b6 (Sub.cut ⟨Z,Y⟩ Z Y Z)
    ·replace hx4:=L9 hb5 hx4
     refine AWP.u (.j Z Z (.j Z Z (.eqlB Z Z Z (.j Z Z (.E Z Z Z hb5 (.E Z Z Z hb5 (.E Z Z Z hb5 (.ag Z Z Z (.ag Z Z Z (.ag Z Z Z (.ag Z Z Z (.E Z Z Z hb5 (.ab Z hb5 Z Z (.j Z Z (.E Z Z Z Z (.ab Z Z Z Z (.v Z Z (.nil ?_))))))))))))))))))
     obtain rfl:=oi hx4
     refine b6 (Sub.cut ⟨Z,Y⟩ Z Y Z)
   ·refine AWP.ret ?_
    obtain rfl:=oi h
    exact Done.ret Z Z
end Ab
end
section
namespace Ab
open Go
theorem M1{α:Type}{l:List α}{k:Nat}:ix l (k:Int)=l[k]? :=by simp[ix]
theorem o9{α:Type}{l:List α}{i:Int}(h0:0≤i)(h1:i<l.length):∃a,ix l i=some a∧l[i.toNat]? =some a:=by
 have h:i.toNat<l.length:=by omega
 exact⟨l[i.toNat],by simp[ix,h0,h],by simp[h]⟩
theorem p9{α:Type}{l:List α}{i:Int}{a:α}(h:ix l i=some a):0≤i∧i<l.length∧l[i.toNat]? =some a:=by
 unfold ix at h
 split at h
 ·have:=(lG.1 h).1
  exact⟨by assumption,by omega,h⟩
 ·cases h
theorem I2{n:Int}(h1: -9223372036854775808≤n)(h2:n≤9223372036854775807):w64 n=n:=w64_eq ⟨h1,h2⟩
theorem forN_inv{S:Type}{body:Int→S→Option S}(P:Int→S→Prop):∀(k:Nat) (i:Int) (s:S),P i s→
  (∀j s,i≤j→j<i+k→P j s→∃s',body j s=some s'∧P (j+1) s')→∃s',forN body k i s=some s'∧P (i+k) s'
 |0,i,s,h,_=>⟨s,rfl,by simpa using h⟩
 |k+1,i,s,h,hb=>by
  obtain⟨s1,h1,h2⟩:=hb i s (Int.le_refl _) (by omega) h
  obtain⟨s2,h3,h4⟩:=forN_inv P k (i+1) s1 h2 (fun j s g1 g2=>hb j s (by omega) (by omega))
  exact⟨s2,by simp only[forN,h1];exact h3,by rw[show i+((k+1:Nat):Int)=i+1+k by omega];exact h4⟩
theorem S8{S:Type}{body:Int→S→Option S}{n:Int}(P:Int→S→Prop){s:S}(hn:0≤n)(h0:P 0 s)
  (hb:∀j s,0≤j→j<n→P j s→∃s',body j s=some s'∧P (j+1) s'):∃s',forR 0 n body s=some s'∧P n s':=by
 obtain⟨s',h1,h2⟩:=forN_inv P (n - 0).toNat 0 s h0 (fun j s g1 g2=>hb j s g1 (by omega))
 exact⟨s',h1,by rwa [show(0:Int)+((n - 0).toNat:Int)=n by omega] at h2⟩
theorem rngN_inv{S O:Type}{body:Int→S→Option (S⊕O)}(P:Int→S→Prop)(Q:O→Prop):∀(k:Nat) (i:Int) (s:S),P i s→
  (∀j s,i≤j→j<i+k→P j s→(∃s',body j s=some (.inl s')∧P (j+1) s')∨∃o,body j s=some (.inr o)∧Q o)→
  (∃s',rngN body k i s=some (.inl s')∧P (i+k) s')∨∃o,rngN body k i s=some (.inr o)∧Q o
 |0,i,s,h,_=>.inl ⟨s,rfl,by simpa using h⟩
 |k+1,i,s,h,hb=>by
  rcases hb i s (Int.le_refl _) (by omega) h with⟨s1,h1,h2⟩|⟨o,h1,h2⟩
  ·rcases rngN_inv P Q k (i+1) s1 h2 (fun j s g1 g2=>hb j s (by omega) (by omega)) with⟨s2,h3,h4⟩|⟨o,h3,h4⟩
   ·exact .inl ⟨s2,by simp only[rngN,h1];exact h3,by rw[show i+((k+1:Nat):Int)=i+1+k by omega];exact h4⟩
   ·exact .inr ⟨o,by simp only[rngN,h1];exact h3,h4⟩
  ·exact .inr ⟨o,by simp only[rngN,h1],h2⟩
theorem ao2{S O:Type}{body:Int→S→Option (S⊕O)}{n:Int}(P:Int→S→Prop)(Q:O→Prop){s:S}(hn:0≤n)(h0:P 0 s)
  (hb:∀j s,0≤j→j<n→P j s→(∃s',body j s=some (.inl s')∧P (j+1) s')∨∃o,body j s=some (.inr o)∧Q o):
  (∃s',rngX 0 n body s=some (.inl s')∧P n s')∨∃o,rngX 0 n body s=some (.inr o)∧Q o:=by
 rcases rngN_inv P Q (n - 0).toNat 0 s h0 (fun j s g1 g2=>hb j s g1 (by omega)) with⟨s',h1,h2⟩|h
 ·exact .inl ⟨s',h1,by rwa [show(0:Int)+((n - 0).toNat:Int)=n by omega] at h2⟩
 ·exact .inr h
theorem LoopN_inv{S O:Type}{body:S→Option (S⊕O)}(P:S→Prop)(Q:O→Prop)(μ:S→Nat)(hb:∀s,P s→(∃s',body s=some (.inl s')∧P s'∧μ s'<μ s)∨∃o,body s=some (.inr o)∧Q o):
  ∀(k:Nat) (s:S),μ s<k→P s→∃o,D1 body k s=some o∧Q o
 |0,s,h,_=>by omega
 |k+1,s,h,hs=>by
  rcases hb s hs with⟨s',h1,h2,h3⟩|⟨o,h1,h2⟩
  ·obtain⟨o,g1,g2⟩:=LoopN_inv P Q μ hb k s' (by omega) h2
   exact⟨o,by simp only[D1,h1];exact g1,g2⟩
  ·exact⟨o,by simp only[D1,h1],h2⟩
theorem X6{S O:Type}{body:S→Option (S⊕O)}(P:S→Prop)(Q:O→Prop)(μ:S→Nat){s:S}(hs:P s)
  (hb:∀s,P s→(∃s',body s=some (.inl s')∧P s'∧μ s'<μ s)∨∃o,body s=some (.inr o)∧Q o):∃o,Loop body s=some o∧Q o:=by
 obtain⟨o,h1,h2⟩:=LoopN_inv P Q μ hb (μ s+1) s (by omega) hs
 exact⟨o,T9.2 ⟨_,h1⟩,h2⟩
/-! ### Two loops that do the same -/
theorem rngN_eq{S O:Type}{b1 b2:Int→S→Option (S⊕O)}(P:Int→S→Prop):∀(k:Nat) (i:Int) (s:S),P i s→
  (∀j s,i≤j→j<i+k→P j s→b1 j s=b2 j s∧b1 j s ≠ none∧∀s',b1 j s=some (.inl s')→P (j+1) s')→
  rngN b1 k i s=rngN b2 k i s∧rngN b1 k i s ≠ none∧∀s',rngN b1 k i s=some (.inl s')→P (i+k) s'
 |0,i,s,h,_=>⟨rfl,by simp[rngN],fun s' hs=>by simp only[rngN,Option.some.injEq,Sum.inl.injEq] at hs;subst hs;simpa using h⟩
 |k+1,i,s,h,hb=>by
  obtain⟨h1,h2,h3⟩:=hb i s (Int.le_refl _) (by omega) h
  simp only[rngN]
  rw[← h1]
  cases hc:b1 i s with
  |none=>exact absurd hc h2
  |some x=>
   cases x with
   |inr o=>exact⟨rfl,by simp,fun s' hs=>by simp at hs⟩
   |inl s1=>
    dsimp only
    have:=rngN_eq (b1:=b1) (b2:=b2) P k (i+1) s1 (h3 s1 hc) (fun j s g1 g2=>hb j s (by omega) (by omega))
    rwa [show i+1+(k:Int)=i+((k+1:Nat):Int) by omega] at this
theorem rngX_eq{S O:Type}{b1 b2:Int→S→Option (S⊕O)}{n:Int}(P:Int→S→Prop){s:S}(hn:0≤n)(h0:P 0 s)
  (hb:∀j s,0≤j→j<n→P j s→b1 j s=b2 j s∧b1 j s ≠ none∧∀s',b1 j s=some (.inl s')→P (j+1) s'):
  rngX 0 n b1 s=rngX 0 n b2 s∧rngX 0 n b1 s ≠ none∧∀s',rngX 0 n b1 s=some (.inl s')→P n s':=by
 have:=rngN_eq P (n - 0).toNat 0 s h0 (fun j s g1 g2=>hb j s g1 (by omega))
 rwa [show(0:Int)+((n - 0).toNat:Int)=n by omega] at this
end Ab
end
section
namespace Ab
open Go
noncomputable def dec(p:Prop):Bool:=@decide p (Classical.propDecidable p)
@[simp] theorem k7 {p:Prop}:dec p=true↔p:=by simp[dec]
@[simp] theorem dec_false {p:Prop}:dec p=false↔¬ p:=by simp[dec]
@[simp] theorem K9 {p:Prop}:(!dec p)=dec (¬ p):=by by_cases h:p<;>simp[dec,h]
theorem decide_dec{p:Prop}[Decidable p]:decide p=dec p:=by by_cases h:p<;>simp[dec,h]
theorem m8{p:Prop}(h:p):dec p=true:=k7.2 h
theorem F4{p:Prop}(h:¬ p):dec p=false:=dec_false.2 h
theorem R7{p q:Prop}(h:p↔q):dec p=dec q:=by rw[propext h]
theorem dec_and{p q:Prop}:(dec p && dec q)=dec (p∧q):=by by_cases h:p<;>by_cases g:q<;>simp[dec,h,g]
theorem dec_or{p q:Prop}:(dec p||dec q)=dec (p∨q):=by by_cases h:p<;>by_cases g:q<;>simp[dec,h,g]
theorem ifP{α:Type}{p:Prop}{a b:α}(h:p):(if dec p=true then a else b)=a:=if_pos (m8 h)
theorem ifN{α:Type}{p:Prop}{a b:α}(h:¬ p):(if dec p=true then a else b)=b:=if_neg fun g=>h (k7.1 g)
theorem ifNN{α:Type}{p:Prop}{a b:α}(h:p):(if dec (¬ p)=true then a else b)=b:=ifN (not_not_intro h)
theorem ix_ltN{α:Type}{l:List α}{k:Nat}(h:k<l.length):ix l (k:Int)=some l[k]:=by rw[M1];simp[h]
theorem s8{α:Type}{l:List α}{i:Int}{a:α}(h:ix l i=some a):a ∈ l:=List.mem_of_getElem? (p9 h).2.2
theorem J9{α:Type}{l:List α}{a:α}(h:a ∈ l):∃i:Int,0≤i∧i<l.length∧ix l i=some a:=by
 obtain⟨k,hk⟩:=List.getElem?_of_mem h
 exact⟨k,by omega,by have:=(lG.1 hk).1;omega,by rw[M1,hk]⟩
theorem ix_put{α:Type}{l:List α}{i j:Int}{x:α}(h0:0≤i)(h1:i<l.length)(hj:0≤j):ix (l.set i.toNat x) j=if j=i then some x else ix l j:=by
 simp only[ix,hj,if_true,List.getElem?_set]
 by_cases h:j=i
 ·subst h;rw[if_pos rfl,if_pos rfl,if_pos (by omega)]
 ·rw[if_neg h,if_neg (by omega)]
theorem T1{O:Type}{body:Int→Unit→Option (Unit⊕O)}{n:Int}(g:Int→Option O)(hn:0≤n)
  (hb:∀j,0≤j→j<n→(∀i,0≤i→i<j→g i=none)→body j ()=some (match g j with|none=>.inl ()|some o=>.inr o)):
  (rngX 0 n body ()=some (.inl ())∧∀j,0≤j→j<n→g j=none)∨∃j o,0≤j∧j<n∧g j=some o∧(∀i,0≤i→i<j→g i=none)∧rngX 0 n body ()=some (.inr o):=by
 rcases ao2 (body:=body) (n:=n) (fun j _=>∀i,0≤i→i<j→g i=none) (fun o=>∃j,0≤j∧j<n∧g j=some o∧∀i,0≤i→i<j→g i=none) (s:=()) hn (fun i h1 h2=>by omega) (fun j s h0 h1 hP=>by
  have:=hb j h0 h1 hP
  cases hg:g j with
  |none=>rw[hg] at this;exact .inl ⟨(),this,fun i h2 h3=>by
    rcases Int.lt_or_eq_of_le (Int.le_of_lt_add_one h3) with h|h
    ·exact hP i h2 h
    ·rw[h,hg]⟩
  |some o=>rw[hg] at this;exact .inr ⟨o,this,j,h0,h1,hg,hP⟩) with⟨s',h1,h2⟩|⟨o,h1,j,h2,h3,h4,h5⟩
 ·exact .inl ⟨h1,h2⟩
 ·exact .inr ⟨j,o,h2,h3,h4,h5,h1⟩
theorem ao3{α O:Type}{l:List α}{body:Int→Unit→Option (Unit⊕O)}(q:α→Prop)(b:O)
  (hb:∀j a,ix l j=some a→(q a∧body j ()=some (.inl ()))∨(¬ q a∧body j ()=some (.inr b))):
  rngX 0 (l.length:Int) body ()=some (if dec (∀a ∈ l,q a)=true then .inl () else .inr b):=by
 rcases T1 (body:=body) (n:=(l.length:Int)) (fun j=>match ix l j with|some a=>if dec (q a)=true then none else some b|none=>none) (by omega) (fun j h0 h1 _=>by
  obtain⟨a,h2,_⟩:=o9 h0 h1
  rw[h2]
  rcases hb j a h2 with⟨h3,h4⟩|⟨h3,h4⟩
  ·rw[h4];simp[h3]
  ·rw[h4];simp[h3]) with⟨h1,h2⟩|⟨j,o,h0,h1,h2,_,h4⟩
 ·rw[h1,if_pos]
  rw[k7]
  intro a ha
  obtain⟨i,g1,g2,g3⟩:=J9 ha
  have:=h2 i g1 g2
  rw[g3] at this
  simpa using this
 ·rw[h4]
  obtain⟨a,g1,_⟩:=o9 h0 h1
  rw[g1] at h2
  simp only[k7] at h2
  split at h2
  ·cases h2
  ·rename_i hq
   cases h2
   rw[if_neg]
   rw[k7]
   exact fun h=>hq (m8 (h a (s8 g1)))
abbrev Inc(l:Li):Prop:=l.Pairwise (· < ·)
theorem inc_of_adj:∀{l:Li},(∀(k:Nat) a b,l[k]? =some a→l[k+1]? =some b→a<b)→Inc l
 |[],_=>.nil
 |[_],_=>by simp
 |a::b::l,h=>by
  have ih:Inc (b::l):=inc_of_adj fun k x y h1 h2=>h (k+1) x y (by simpa using h1) (by simpa using h2)
  have hab:a<b:=h 0 a b rfl rfl
  refine List.pairwise_cons.2 ⟨fun c hc=> ?_,ih⟩
  rcases List.mem_cons.1 hc with rfl|hc
  ·exact hab
  ·exact Int.lt_trans hab ((List.pairwise_cons.1 ih).1 c hc)
theorem Inc.get{l:Li}(h:Inc l){i j:Nat}{a b:Int}(hi:l[i]? =some a)(hj:l[j]? =some b)(hij:i<j):a<b:=by
 obtain⟨h1,rfl⟩:=lG.1 hi
 obtain⟨h2,rfl⟩:=lG.1 hj
 exact List.pairwise_iff_getElem.1 h i j h1 h2 hij
theorem Inc.ext:∀{l m:Li},Inc l→Inc m→(∀x,x ∈ l↔x ∈ m)→l=m
 |[],[],_,_,_=>rfl
 |[],b::m,_,_,h=>absurd ((h b).2 (by simp)) (by simp)
 |a::l,[],_,_,h=>absurd ((h a).1 (by simp)) (by simp)
 |a::l,b::m,hl,hm,h=>by
  obtain⟨l1,l2⟩:=List.pairwise_cons.1 hl
  obtain⟨m1,m2⟩:=List.pairwise_cons.1 hm
  have hab:a=b:=by
   rcases List.mem_cons.1 ((h a).1 (by simp)) with e|e
   ·exact e
   ·rcases List.mem_cons.1 ((h b).2 (by simp)) with e'|e'
    ·exact e'.symm
    ·have:=l1 b e';have:=m1 a e;omega
  subst hab
  rw[Inc.ext l2 m2 fun x=>⟨fun hx=> ?_,fun hx=> ?_⟩]
  ·rcases List.mem_cons.1 ((h x).1 (by simp[hx])) with e|e
   ·have:=l1 x hx;omega
   ·exact e
  ·rcases List.mem_cons.1 ((h x).2 (by simp[hx])) with e|e
   ·have:=m1 x hx;omega
   ·exact e
theorem Inc.filter{l:Li}(h:Inc l)(p:Int→Bool):Inc (l.filter p):=List.Pairwise.filter p h
def nums(lo:Int):Nat→Li
 |0=>[]
 |k+1=>lo::nums (lo+1) k
theorem T3{x:Int}:∀{k:Nat} {lo:Int},x ∈ nums lo k↔lo≤x∧x<lo+k
 |0,lo=>by simp[nums]
 |k+1,lo=>by
  rw[nums,List.mem_cons,T3 (k:=k)]
  omega
theorem an8:∀(k:Nat) (lo:Int),Inc (nums lo k)
 |0,_=>.nil
 |k+1,lo=>List.pairwise_cons.2 ⟨fun x hx=>by have:=T3.1 hx;omega,an8 k (lo+1)⟩
theorem len_nums:∀(k:Nat) (lo:Int),(nums lo k).length=k
 |0,_=>rfl
 |k+1,lo=>by simp[nums,len_nums k]
noncomputable def R4(p:Int→Prop)(n:Int):Li:=(nums 0 n.toNat).filter fun x=>dec (p x)
theorem al0{p:Int→Prop}{n x:Int}:x ∈ R4 p n↔0≤x∧x<n∧p x:=by
 rw[R4,List.mem_filter,T3,k7]
 constructor
 ·rintro ⟨⟨h1,h2⟩,h3⟩;exact⟨h1,by omega,h3⟩
 ·rintro ⟨h1,h2,h3⟩;exact⟨⟨h1,by omega⟩,h3⟩
theorem inc_setOf(p:Int→Prop)(n:Int):Inc (R4 p n):=(an8 _ _).filter _
theorem setOf_congr{p q:Int→Prop}{n:Int}(h:∀x,0≤x→x<n→(p x↔q x)):R4 p n=R4 q n:=by
 refine List.filter_congr fun x hx=>R7 ?_
 have:=T3.1 hx
 exact h x (by omega) (by omega)
def SetN(l:Li)(n:Int):Prop:=Inc l∧∀x ∈ l,0≤x∧x<n
theorem setN_setOf(p:Int→Prop)(n:Int):SetN (R4 p n) n:=⟨inc_setOf p n,fun x hx=>by have:=al0.1 hx;exact⟨this.1,this.2.1⟩⟩
theorem SetN.eq{l:Li}{n:Int}(h:SetN l n):l=R4 (· ∈ l) n:=
 h.1.ext (inc_setOf _ _) fun x=>⟨fun hx=>al0.2 ⟨(h.2 x hx).1,(h.2 x hx).2,hx⟩,fun hx=>(al0.1 hx).2.2⟩
theorem SetN.eq_of{l:Li}{n:Int}(h:SetN l n){p:Int→Prop}(hp:∀x,0≤x→x<n→(x ∈ l↔p x)):l=R4 p n:=
 h.eq.trans (setOf_congr hp)
theorem SetN.len{l:Li}{n:Int}(h:SetN l n):l.length≤n.toNat:=by
 rw[h.eq,R4]
 exact Nat.le_trans (List.length_filter_le _ _) (Nat.le_of_eq (len_nums _ _))
theorem P3(n:Int):SetN [] n:=⟨.nil,by simp⟩
theorem forR_filter{α:Type}{l:List α}{b:Nat}{body:Int→List α→Option (List α)}(q:α→Prop)
  (hb:∀j a c,ix l j=some a→(q a→body j c=app b c [a])∧(¬ q a→body j c=some c)) (c0:List α) (hl:(c0.length+l.length) * b≤140737488355328):
  forR 0 (l.length:Int) body c0=some (c0++l.filter fun a=>dec (q a)):=by
 obtain⟨s',h1,h2⟩:=S8 (body:=body) (n:=(l.length:Int)) (s:=c0) (fun j c=>c=c0++(l.take j.toNat).filter fun a=>dec (q a)) (by omega) (by simp) (fun j c h0 h1 hP=>by
  obtain⟨a,g1,g2⟩:=o9 h0 h1
  have e:(j+1).toNat=j.toNat+1:=by omega
  have ht:l.take (j+1).toNat=l.take j.toNat++[a]:=by rw[e,List.take_add_one,g2];rfl
  by_cases hq:q a
  ·have happ:app b c [a]=some (c++[a]):=by
    rw[app,if_pos]
    have h3:((l.take j.toNat).filter fun a=>dec (q a)).length≤(l.take j.toNat).length:=List.length_filter_le _ _
    rw[List.length_take] at h3
    have h5:c.length+1≤c0.length+l.length:=by rw[hP,List.length_append];omega
    refine Nat.le_trans (Nat.mul_le_mul_right b ?_) hl
    simpa using h5
   refine⟨c++[a],by rw[(hb j a c g1).1 hq,happ],?_⟩
   rw[ht,List.filter_append,hP]
   simp[hq]
  ·refine⟨c,(hb j a c g1).2 hq,?_⟩
   rw[ht,List.filter_append,hP]
   simp[hq])
 rw[h1,h2]
 simp
end Ab
end
section
namespace Ab
open Go
theorem has_eq(l:Li)(n:Int):ref1_Has l n=some (dec (n ∈ l)):=by
 unfold ref1_Has
 rw[ao3 (l:=l) (fun a=>a ≠ n) true (fun j a h=>by
  unfold ref1_Has_l1
  rw[h]
  by_cases e:a=n<;>simp[e])]
 by_cases h:n ∈ l
 ·rw[if_neg (by simp only[k7];exact fun g=>g n h rfl)]
  simp[h]
 ·rw[if_pos (by simp only[k7];exact fun a ha e=>h (e ▸ ha))]
  simp[h]
theorem disjoint_eq(a b:Li):af8 a b=some (dec (∀x ∈ a,x ∉ b)):=by
 unfold af8
 rw[ao3 (l:=a) (fun x=>x ∉ b) false (fun j x h=>by
  unfold ak0
  rw[h]
  by_cases e:x ∈ b<;>simp[e,has_eq])]
 by_cases h:∀x ∈ a,x ∉ b
 ·rw[if_pos (m8 h),m8 h];rfl
 ·rw[if_neg (by rw[F4 h];simp),F4 h];rfl
theorem in_eq(n lo hi:Int):ai2 n lo hi=some (dec (lo≤n∧n≤hi)):=by
 unfold ai2;rw[decide_dec,decide_dec,dec_and]
theorem at_eq(c i:Int):U0 c i=some ⟨c,i⟩:=rfl
def stepOk(l:Li)(n j:Int):Prop:=∀a,ix l j=some a→(0≤a∧a<n)∧∀b,0<j→ix l (j - 1)=some b→b<a
theorem ah6{l:Li}{n:Int}:(∀j:Int,0≤j→j<l.length→stepOk l n j)↔SetN l n:=by
 constructor
 ·intro h
  refine⟨inc_of_adj fun k a b h1 h2=> ?_,fun x hx=> ?_⟩
  ·have hk:=(lG.1 h2).1
   have:=(h ((k+1:Nat):Int) (by omega) (by omega) b (by rw[M1];exact h2)).2 a (by omega)
   rw[show((k+1:Nat):Int) - 1=(k:Nat) by omega] at this
   exact this (by rw[M1];exact h1)
  ·obtain⟨i,h1,h2,h3⟩:=J9 hx
   exact(h i h1 h2 x h3).1
 ·intro h j h0 h1 a ha
  refine⟨h.2 a (s8 ha),fun b hj hb=> ?_⟩
  obtain⟨_,_,ga⟩:=p9 ha
  obtain⟨_,_,gb⟩:=p9 hb
  exact h.1.get gb ga (by omega)
theorem isSet_eq(l:Li)(n:Int):B1 l n=some (dec (SetN l n)):=by
 unfold B1
 rcases T1 (body:=R6 l n) (n:=(l.length:Int)) (fun j=>if dec (stepOk l n j)=true then none else some false) (by omega) (fun j h0 h1 _=>by
  obtain⟨a,ha,_⟩:=o9 (l:=l) h0 h1
  unfold R6
  rw[ha]
  simp only[oB]
  by_cases c1:a<0
  ·rw[if_pos c1,if_neg]
   ·rfl
   ·rw[k7];intro h;have:=(h a ha).1;omega
  ·rw[if_neg c1]
   by_cases c2:n≤a
   ·rw[if_pos c2,if_neg]
    ·rfl
    ·rw[k7];intro h;have:=(h a ha).1;omega
   ·rw[if_neg c2]
    by_cases c3:0<j
    ·obtain⟨b,hb,_⟩:=o9 (l:=l) (i:=j - 1) (by omega) (by omega)
     rw[if_pos c3,hb]
     simp only[oB]
     by_cases c4:a≤b
     ·rw[if_pos (by simpa using c4),if_neg]
      rw[k7];intro h;have:=(h a ha).2 b c3 hb;omega
     ·rw[if_neg (by simpa using c4),if_pos]
      rw[k7];intro x hx
      rw[ha] at hx;cases hx
      exact⟨by omega,fun y _ hy=>by rw[hb] at hy;cases hy;omega⟩
    ·rw[if_neg c3]
     simp only[oB]
     rw[if_neg (by simp),if_pos]
     rw[k7];intro x hx
     rw[ha] at hx;cases hx
     exact⟨by omega,fun y hy=>absurd hy c3⟩) with⟨h1,h2⟩|⟨j,o,h0,h1,h2,_,h4⟩
 ·rw[h1,m8]
  ·rfl
  ·exact ah6.1 fun j g1 g2=>by have:=h2 j g1 g2;simpa using this
 ·rw[h4]
  split at h2
  ·cases h2
  ·rename_i hs
   cases h2
   rw[F4]
   ·rfl
   ·exact fun h=>hs (m8 (ah6.2 h j h0 h1))
theorem rIsSet_eq(l:Li){n:Int}(hn: -9223372036854775808<n)(hn':n≤9223372036854775807):P2 l n=some (dec (SetN l n)):=by
 unfold P2
 rcases T1 (body:=ag0 l n) (n:=(l.length:Int)) (fun j=>if dec (stepOk l n j)=true then none else some false) (by omega) (fun j h0 h1 _=>by
  obtain⟨a,ha,_⟩:=o9 (l:=l) h0 h1
  unfold ag0
  rw[ha]
  simp only[oB,in_eq,I2 (n:=n - 1) (by omega) (by omega),K9]
  by_cases c1:0≤a∧a≤n - 1
  ·rw[if_neg (by simpa using c1)]
   by_cases c3:0<j
   ·obtain⟨b,hb,_⟩:=o9 (l:=l) (i:=j - 1) (by omega) (by omega)
    rw[if_pos c3,hb]
    simp only[oB]
    by_cases c4:a≤b
    ·rw[if_pos (by simpa using c4),if_neg]
     rw[k7];intro h;have:=(h a ha).2 b c3 hb;omega
    ·rw[if_neg (by simpa using c4),if_pos]
     rw[k7];intro x hx
     rw[ha] at hx;cases hx
     exact⟨by omega,fun y _ hy=>by rw[hb] at hy;cases hy;omega⟩
   ·rw[if_neg c3]
    simp only[oB]
    rw[if_neg (by simp),if_pos]
    rw[k7];intro x hx
    rw[ha] at hx;cases hx
    exact⟨by omega,fun y hy=>absurd hy c3⟩
  ·rw[if_pos (by simpa using c1),if_neg]
   ·rfl
   ·rw[k7];intro h;have:=(h a ha).1;omega) with⟨h1,h2⟩|⟨j,o,h0,h1,h2,_,h4⟩
 ·rw[h1,m8]
  ·rfl
  ·exact ah6.1 fun j g1 g2=>by have:=h2 j g1 g2;simpa using this
 ·rw[h4]
  split at h2
  ·cases h2
  ·rename_i hs
   cases h2
   rw[F4]
   ·rfl
   ·exact fun h=>hs (m8 (ah6.2 h j h0 h1))
theorem containsLoop{s:Li}(hs:Inc s)(hl:s.length≤1000000)(x:Int){i:Int}(h0:0≤i)(h1:i≤s.length)(hlt:∀k a,0≤k→k<i→ix s k=some a→a<x):
  ∃i',Loop (G0 s x) i=some i'∧i≤i'∧i'≤s.length∧(∀k a,0≤k→k<i'→ix s k=some a→a<x)∧(∀a,ix s i'=some a→x≤a):=by
 obtain⟨o,h2,h3⟩:=X6 (body:=G0 s x) (fun j=>i≤j∧j≤s.length∧∀k a,0≤k→k<j→ix s k=some a→a<x) (fun i'=>i≤i'∧i'≤s.length∧(∀k a,0≤k→k<i'→ix s k=some a→a<x)∧(∀a,ix s i'=some a→x≤a)) (fun j=>(s.length - j).toNat) (s:=i) ⟨Int.le_refl _,h1,hlt⟩ (fun j ⟨g1,g2,g3⟩=>by
  unfold G0
  by_cases c:j<s.length
  ·obtain⟨a,ha,_⟩:=o9 (l:=s) (i:=j) (by omega) c
   rw[if_pos c,ha]
   simp only[oB,decide_eq_true_eq]
   by_cases c2:a<x
   ·rw[if_pos c2]
    rw[I2 (by omega) (by omega)]
    refine .inl ⟨j+1,rfl,⟨by omega,by omega,fun k b k0 k1 hb=> ?_⟩,by omega⟩
    by_cases e:k=j
    ·subst e;rw[ha] at hb;cases hb;exact c2
    ·exact g3 k b k0 (by omega) hb
   ·rw[if_neg c2]
    exact .inr ⟨j,rfl,g1,g2,g3,fun b hb=>by rw[ha] at hb;cases hb;omega⟩
  ·rw[if_neg c]
   exact .inr ⟨j,rfl,g1,g2,g3,fun b hb=>by have:=(p9 hb).2.1;omega⟩)
 exact⟨o,h2,h3⟩
theorem am4{s part:Li}(hs:Inc s)(hp:Inc part)(hl:s.length≤1000000):A8 s part=some (dec (∀x ∈ part,x ∈ s)):=by
 unfold A8
 rcases ao2 (body:=M2 s part) (n:=(part.length:Int)) (fun j i=>(0≤i∧i≤s.length∧∀k a,0≤k→k<i→ix s k=some a→∀m x,j≤m→ix part m=some x→a<x)∧∀m x,0≤m→m<j→ix part m=some x→x ∈ s) (fun o=>o=false∧¬ ∀x ∈ part,x ∈ s) (s:=0) (by omega) ⟨⟨by omega,by omega,fun k a h1 h2=>by omega⟩,fun m x h1 h2=>by omega⟩ (fun j i h0 h1 ⟨⟨g1,g2,g3⟩,g4⟩=>by
  obtain⟨x,hx,gx⟩:=o9 (l:=part) h0 h1
  unfold M2
  obtain⟨i',e1,e2,e3,e4,e5⟩:=containsLoop hs hl x g1 g2 (fun k a k0 k1 ha=>g3 k a k0 k1 ha j x (Int.le_refl _) hx)
  rw[hx]
  simp only[oB,e1]
  have nin:(∀a,ix s i'=some a→x<a)→x ∉ s:=fun hgt hin=>by
   obtain⟨k,k0,k1,hk⟩:=J9 hin
   rcases Int.lt_trichotomy k i' with c|c|c
   ·have:=e4 k x k0 c hk;omega
   ·subst c;have:=hgt x hk;omega
   ·obtain⟨b,hb,gb⟩:=o9 (l:=s) (i:=i') (by omega) (by omega)
    obtain⟨_,_,gk⟩:=p9 hk
    have:=hs.get gb gk (by omega)
    have:=e5 b hb
    omega
  by_cases c:i'=s.length
  ·rw[if_pos c]
   refine .inr ⟨false,rfl,rfl,fun h=> ?_⟩
   exact nin (fun a ha=>by have:=(p9 ha).2.1;omega) (h x (s8 hx))
  ·rw[if_neg c]
   obtain⟨b,hb,gb⟩:=o9 (l:=s) (i:=i') (by omega) (by omega)
   rw[hb]
   simp only[oB]
   have hxb:=e5 b hb
   by_cases c2:b=x
   ·subst c2
    rw[if_neg (by simp)]
    refine .inl ⟨i',rfl,⟨by omega,e3,fun k a k0 k1 ha m y hm hy=> ?_⟩,fun m y m0 m1 hy=> ?_⟩
    ·obtain⟨_,_,gy⟩:=p9 hy
     have:=hp.get gx gy (by omega)
     have:=e4 k a k0 k1 ha
     omega
    ·by_cases e:m=j
     ·subst e;rw[hx] at hy;cases hy;exact s8 hb
     ·exact g4 m y m0 (by omega) hy
   ·rw[if_pos (by simpa using c2)]
    refine .inr ⟨false,rfl,rfl,fun h=> ?_⟩
    exact nin (fun a ha=>by rw[hb] at ha;cases ha;omega) (h x (s8 hx))) with⟨s',h1,_,h2⟩|⟨o,h1,rfl,h2⟩
 ·rw[h1,m8]
  ·rfl
  ·intro x hx
   obtain⟨m,m0,m1,hm⟩:=J9 hx
   exact h2 m x m0 m1 hm
 ·rw[h1,F4 h2];rfl
end Ab
end
