/-
  Texts that the proof stands on.
-/
import Derived.Test.YtfnfejfohioppaaGreatDoorKRwChValue4
set_option linter.all false
section
namespace Ab
open Go Go.Proofs
open Tryz
set_option maxHeartbeats 4000000
set_option linter.all false
attribute [local irreducible] AWP AOps thn inB Done e8 n7 Sub
theorem aa1{sv:Li}{ov:d5}{states:LL}{den:Int}{l:Li}{l6:Li}{r:Int}(h:J9 sv ov states den l l6=some r):FnOk prog 46 [(cP 0 0 0),(cR sv)] (ao4 sv ov states den l l6) (fun tt ss=>tt=(cI r)∧ss=[(oE 8 [int ov.facts,row 1 intI ov.init,row 1 intI ov.goal,row 3 d7 ov.operators,row 1 b9 states,.own 1 0 l.length,.own 2 0 l6.length,int den]),(oV 1 intI l),(oV 1 intI l6)]):=by
 refine FnOk.enter (rs:=[.t 4]) func46 Z ntmps46 results46 Z ⟨Y,Y⟩ (by kernel_rfl) Z ?_
 refine AWP.weak ?_
 unfold J9 at h
 refine AWP.gk 1 Z (.e ?_)
 obtain⟨a14,ha14,a15,ha15,h⟩:=b2 h
 refine AWP.drawI mixed Z (b7.D 9 Z ?_)
 refine b7.consF Z (fun E=>.q Z Z Z Z (p9 ha14) Z .N) Z (.consF Z (fun E=>S.idxO ha15 Z Z Z Z Z .N) Z (.consF Z (fun E=>S.loadO ha15 Z Z Z Z Z .N) Z ?_))
 refine b7.D 1 Z (b7.done ?_)
 dsimp only[h9]
 refine b5 (.ret ?_)
 obtain rfl:=oi h
 exact⟨⟨[(4,(cI a15))],[(oE 8 [int ov.facts,row 1 intI ov.init,row 1 intI ov.goal,row 3 d7 ov.operators,row 1 b9 states,.own 1 0 l.length,.own 2 0 l6.length,int den]),(oV 1 intI l),(oV 1 intI l6)]⟩,Sub.env ⟨Z,Y⟩,Done.ret Z ⟨Z,Z⟩⟩
theorem aq5{ov:d5}{states:LL}{ov3:d5}{states4:LL}{den:Int}{l:Li}{l7:Li}{r:(LL)}(h:U8 ov states ov3 states4 den l l7=some r):FnOk prog 45 [.agg (tO ov),.c (row 1 b9 states),.c (.fnb 46 [.ptr 0 0 0])] (aq7 ov states ov3 states4 den l l7) (fun tt ss=>tt=.agg [row 1 b9 states,.own 6 0 r.length]∧ss=[(oE 8 [int ov3.facts,row 1 intI ov3.init,row 1 intI ov3.goal,row 3 d7 ov3.operators,row 1 b9 states4,.own 1 0 l.length,.own 2 0 l7.length,int den]),(oV 1 intI l),(oV 1 intI l7),.dead,(oE 2 [row 1 b9 states,.own 6 0 r.length]),.dead,mat (6,[]) 1 intI r]):=by
 refine FnOk.enter (rs:=[.cell 6 86 2]) func45 Z ntmps45 results45 Z ⟨rv _ Z,Y⟩ (by kernel_rfl) Z ?_
 refine AWP.weak ?_
 unfold U8 at h
 refine AWP.gk 2 Z (.gk 4 Z (.e (.gs 1 Z (S.len Z Z (fun hl19=>.ge 1 Z (.j (.virtBM 1 intI (b:=5) (o:=1) Z Z Z Z Z Z Z Z ?_)))))))
 obtain⟨c59,ho1,h⟩:=bind_some h
 refine AWP.forH ho1 (fun t60 c59=>⟨[(1,.c (row 1 b9 states)),(2,.c (.fnb 46 [.ptr 0 0 0])),(3,(cP 3 0 0)),(6,(cP 4 0 0)),(7,(cP 5 0 0)),(18,.c (row 1 b9 states)),(19,(cI (states.length:Int))),(20,(cI t60))],[(oE 8 [int ov3.facts,row 1 intI ov3.init,row 1 intI ov3.goal,row 3 d7 ov3.operators,row 1 b9 states4,.own 1 0 l.length,.own 2 0 l7.length,int den]),(oV 1 intI l),(oV 1 intI l7),(oE 4 (tO ov)),(oE 2 [.imm (.val nL),.imm (.val nL)]),(oE 2 [row 1 b9 states,.own 6 0 c59.length]),mat (6,[]) 1 intI c59]⟩) (fun _ _=>Z) ?_ ?_ ?_
 ·try dsimp only
  exact Sub.en Z
 ·intro t60 c59 o hlot60 hltt60 h
  unfold aa9 at h
  try dsimp only at h ⊢
  refine AWP.e (.j (.e ?_))
  obtain⟨a23,ha23,h⟩:=bind_some h
  refine AWP.G 1 Z (S.idx ha23 Z Z Z Z (.G 3 Z (.nil (b5 (.e ?_)))))
  obtain⟨a28,ha28,h⟩:=bind_some h
  refine AWP.G 1 Z (S.len Z Z (fun hl26=>S.add Z Z Z (S.make (f:=intI) ha28 (.val .nil) Z Z Z Z Z Z (.u Z Z (.nil (b5 (.e ?_)))))))
  obtain⟨a31,ha31,h⟩:=bind_some h
  refine AWP.G 2 Z (.callFB (r2:=(cI a31)) (σ'':=[(oE 8 [int ov3.facts,row 1 intI ov3.init,row 1 intI ov3.goal,row 3 d7 ov3.operators,row 1 b9 states4,.own 1 0 l.length,.own 2 0 l7.length,int den]),(oV 1 intI l),(oV 1 intI l7),(oE 4 (tO ov)),(oE 2 [.imm (.val nL),.imm (.val nL)]),(oE 2 [row 1 b9 states,.own 6 0 c59.length]),mat (6,[]) 1 intI c59,(oV 1 intI a28)]) Z Z Z (FnOk.lend [0,1,2] (aa1 ha31) Z Z Z Z Z Z (by exact⟨(.one Z),.vec,.vec,Y⟩) Z (by exact⟨(.live Z (.one Z)),(.live Z .vec),(.live Z .vec),Y⟩) Z Z (by exact⟨(.new 0 Z Z (.one Z)),(.new 1 Z Z .vec),(.new 2 Z Z .vec),(.old Z Z Z),(.old Z Z Z),(.old Z Z Z),(.old Z Z Z),(.old Z Z Z),Y⟩)) (.u Z Z (.nil (b5 (.e ?_)))))
  obtain⟨a36,ha36,h⟩:=bind_some h
  refine AWP.G 3 Z (.q Z Z Z Z (y6 ha36) Z (.G 5 Z (.nil (b5 (.e (.gs 1 Z (S.len Z Z (fun hl40=>.ge 1 Z (.j ?_)))))))))
  obtain⟨c61,ho2,h⟩:=bind_some h
  refine AWP.forH ho2 (fun t62 c61=>⟨[(1,.c (row 1 b9 states)),(2,.c (.fnb 46 [.ptr 0 0 0])),(3,(cP 3 0 0)),(6,(cP 4 0 0)),(7,(cP 5 0 0)),(8,(cI t60)),(10,.c (.own 7 0 c61.length)),(11,(cI a31)),(13,(cR a36.2)),(18,.c (row 1 b9 states)),(19,(cI (states.length:Int))),(20,(cI t60)),(39,.c (row 1 b9 a36.1)),(40,(cI (a36.1.length:Int))),(41,(cI t62))],[(oE 8 [int ov3.facts,row 1 intI ov3.init,row 1 intI ov3.goal,row 3 d7 ov3.operators,row 1 b9 states4,.own 1 0 l.length,.own 2 0 l7.length,int den]),(oV 1 intI l),(oV 1 intI l7),(oE 4 (tO ov)),(oE 2 [.imm (.val nL),.imm (.val nL)]),(oE 2 [row 1 b9 states,.own 6 0 c59.length]),mat (6,[]) 1 intI c59,(oV 1 intI c61)]⟩) (fun _ _=>Z) ?_ ?_ ?_
  ·try dsimp only
   exact Sub.en Z
  ·intro t62 c61 o hlot62 hltt62 h
   unfold ab3 at h
   try dsimp only at h ⊢
   obtain⟨c63,hx64,h⟩:=bind_some h
   refine AWP.seqJ (⟨[(1,.c (row 1 b9 states)),(2,.c (.fnb 46 [.ptr 0 0 0])),(3,(cP 3 0 0)),(6,(cP 4 0 0)),(7,(cP 5 0 0)),(8,(cI t60)),(10,.c (.own 7 0 c63.length)),(11,(cI a31)),(13,(cR a36.2)),(18,.c (row 1 b9 states)),(19,(cI (states.length:Int))),(20,(cI t60)),(39,.c (row 1 b9 a36.1)),(40,(cI (a36.1.length:Int))),(41,(cI t62))],[(oE 8 [int ov3.facts,row 1 intI ov3.init,row 1 intI ov3.goal,row 3 d7 ov3.operators,row 1 b9 states4,.own 1 0 l.length,.own 2 0 l7.length,int den]),(oV 1 intI l),(oV 1 intI l7),(oE 4 (tO ov)),(oE 2 [.imm (.val nL),.imm (.val nL)]),(oE 2 [row 1 b9 states,.own 6 0 c59.length]),mat (6,[]) 1 intI c59,(oV 1 intI c63)]⟩) ?_ ?_
   ·refine AWP.j (.e ?_)
    obtain⟨a44,ha44,hx64⟩:=bind_some hx64
    refine AWP.G 1 Z (S.idx ha44 Z Z Z Z (.G 3 Z (.nil (b5 (.e ?_)))))
    obtain⟨a48,ha48,a52,ha52,a55,ha55,hx64⟩:=b3 hx64
    refine AWP.drawEI [10] mixed Z Z Z (b8.D 2 Z Z ?_)
    refine b8.consN Z Z (fun E=>S.idxO ha48 Z Z Z Z Z .N) Z (.consN Z Z (fun E=>S.loadO ha48 Z Z Z Z Z .N) Z ?_)
    refine b8.D 2 Z Z ?_
    refine b8.consN Z Z (fun E=>S.idx ha52 Z Z Z Z .N) Z ?_
    refine b8.D 2 Z Z ?_
    refine b8.consN Z Z (fun E=>S.idxO ha55 Z Z Z Z Z .N) Z ?_
    apply b8.consE (v:=.undef);exact Z;exact Z;intro E
    refine S.storeO1 (f:=intI) (a':=w64 (a48+a52)) (q7 ha55) (fun _=>⟨_,Z⟩) Z Z Z Z Z ?_
    exact AOps.nil ⟨Z,Z⟩
    exact Z
    exact Z
    refine b8.done Z ?_ ?_
    ·refine d8.D 2 Z Z ?_
     refine d8.cons Z Z (.go Z Z (fun E=>S.idxO ha48 Z Z Z Z Z .N) (.skip Z .nil)) (.cons Z Z (.go Z Z (fun E=>S.loadO ha48 Z Z Z Z Z .N) (.skip Z .nil)) ?_)
     refine d8.D 2 Z Z ?_
     refine d8.cons Z Z (.go Z Z (fun E=>S.idx ha52 Z Z Z Z .N) (.skip Z .nil)) ?_
     refine d8.D 2 Z Z ?_
     refine d8.cons Z Z (.go Z Z (fun E=>S.idxO ha55 Z Z Z Z Z .N) (.skip Z .nil)) ?_
     refine d8.D 1 Z Z (d8.nil)
    dsimp only[h9]
    refine b5 (.e ?_)
    obtain⟨a59,ha59,a63,ha63,a68,ha68,hx64⟩:=b3 hx64
    obtain⟨a73,ha73,hx64⟩:=bind_some hx64
    refine AWP.drawEI [18] mixed Z Z Z (b8.D 2 Z Z ?_)
    refine b8.consN Z Z (fun E=>S.len Z Z (fun hl58=>.nil ⟨Z,Z⟩)) Z (.consN Z Z (fun E=>S.idxO ha59 Z (by simp only[lS]) Z Z Z .N) Z (.consN Z Z (fun E=>S.loadO ha59 Z Z Z Z Z .N) Z ?_))
    refine b8.D 2 Z Z ?_
    refine b8.consN Z Z (fun E=>S.idx ha63 Z Z Z Z .N) Z ?_
    refine b8.D 4 Z Z ?_
    refine b8.consN Z Z (fun E=>S.idx ha68 Z Z Z Z .N) Z ?_
    refine b8.D 4 Z Z ?_
    refine b8.consN Z Z (fun E=>S.idxO ha73 Z (by simp only[lS]) Z Z Z .N) Z ?_
    apply b8.consE (v:=.undef);exact Z;exact Z;intro E
    refine S.storeO1 (f:=intI) (a':=w64 (a59+(w64 (a63 * a68.cost)))) (q7 ha73) (fun _=>⟨_,Z⟩) Z Z Z Z Z ?_
    exact AOps.nil ⟨Z,Z⟩
    exact Z
    exact Z
    refine b8.done Z ?_ ?_
    ·refine d8.D 2 Z Z ?_
     refine d8.cons Z Z ?_ ?_
     apply i6.go;exact Z;exact Z;intro E;refine S.len Z Z (fun hl58=> ?_);exact AOps.nil ⟨Z,Z⟩
     refine i6.skip Z (i6.nil)
     refine d8.cons Z Z (.go Z Z (fun E=>S.idxO ha59 Z (by simp only[lS]) Z Z Z .N) (.skip Z .nil)) (.cons Z Z (.go Z Z (fun E=>S.loadO ha59 Z Z Z Z Z .N) (.skip Z .nil)) ?_)
     refine d8.D 2 Z Z ?_
     refine d8.cons Z Z (.go Z Z (fun E=>S.idx ha63 Z Z Z Z .N) (.skip Z .nil)) ?_
     refine d8.D 4 Z Z ?_
     refine d8.cons Z Z (.go Z Z (fun E=>S.idx ha68 Z Z Z Z .N) (.skip Z .nil)) ?_
     refine d8.D 4 Z Z ?_
     refine d8.cons Z Z (.go Z Z (fun E=>S.idxO ha73 Z (by simp only[lS]) Z Z Z .N) (.skip Z .nil)) ?_
     refine d8.D 1 Z Z (d8.nil)
    dsimp only[h9]
    refine b5 (.e ?_)
    obtain⟨a77,ha77,hx64⟩:=bind_some hx64
    refine AWP.G 3 Z (.q Z Z Z Z (m8 ha77) Z (.not Z Z (.nil (b5 (.E Z hx64 (fun hc65 hx64=> ?_) (fun hc65 hx64=> ?_))))))
    ·obtain⟨a82,ha82,a83,ha83,a87,ha87,hx64⟩:=b3 hx64
     obtain⟨a90,ha90,hx64⟩:=bind_some hx64
     refine AWP.drawEI [12] mixed Z Z Z (b8.D 3 Z Z ?_)
     refine b8.consN Z Z (fun E=>.q Z Z Z Z (p9 ha82) Z .N) Z (.consN Z Z (fun E=>S.idxO ha83 Z (by simp only[lS]) Z Z Z .N) Z (.consN Z Z (fun E=>S.loadO ha83 Z Z Z Z Z .N) Z ?_))
     refine b8.D 2 Z Z ?_
     refine b8.consN Z Z (fun E=>S.idx ha87 Z Z Z Z .N) Z ?_
     refine b8.D 2 Z Z ?_
     refine b8.consN Z Z (fun E=>S.idxO ha90 Z (by simp only[lS]) Z Z Z .N) Z ?_
     apply b8.consE (v:=.undef);exact Z;exact Z;intro E
     refine S.storeO1 (f:=intI) (a':=w64 (a83 - a87)) (q7 ha90) (fun _=>⟨_,Z⟩) Z Z Z Z Z ?_
     exact AOps.nil ⟨Z,Z⟩
     exact Z
     exact Z
     refine b8.done Z ?_ ?_
     ·refine d8.D 3 Z Z ?_
      refine d8.cons Z Z (.go Z Z (fun E=>.q Z Z Z Z (p9 ha82) Z .N) (.skip Z .nil)) (.cons Z Z (.go Z Z (fun E=>S.idxO ha83 Z (by simp only[lS]) Z Z Z .N) (.skip Z .nil)) (.cons Z Z (.go Z Z (fun E=>S.loadO ha83 Z Z Z Z Z .N) (.skip Z .nil)) ?_))
      refine d8.D 2 Z Z ?_
      refine d8.cons Z Z (.go Z Z (fun E=>S.idx ha87 Z Z Z Z .N) (.skip Z .nil)) ?_
      refine d8.D 2 Z Z ?_
      refine d8.cons Z Z (.go Z Z (fun E=>S.idxO ha90 Z (by simp only[lS]) Z Z Z .N) (.skip Z .nil)) ?_
      refine d8.D 1 Z Z (d8.nil)
     dsimp only[h9]
     refine d6 ?_
     obtain rfl:=oi hx64
     refine b5 (Sub.env ⟨Z,Z,Z,Z,Z,Z,(o7 (by first|rfl|simp only[lS])),Z,Z,Z,Z,Z,Z,Z,Z,Y⟩)
    ·refine AWP.skip (d6 ?_)
     obtain rfl:=oi hx64
     refine b5 (Sub.env ⟨Z,Z,Z,Z,Z,Z,(o7 (by first|rfl|simp only[lS])),Z,Z,Z,Z,Z,Z,Z,Z,Y⟩)
   ·refine AWP.O (.add Z Z Z (by omega) (.z Z Z (.nil ?_)))
    obtain rfl:=oi h
    refine b5 (Sub.en Z)
  ·intro iz
   try dsimp only
   refine f9 (b5 ?_)
   obtain⟨a96,ha96,h⟩:=bind_some h
   refine AWP.G 3 Z (W.lit1 Z Z Z Z Z Z Z Z Z (S.appendMR (k:=1) (f:=intI) (a:=c61) ha96 Z Z Z Z Z Z Z Z Z Z Z Z Z Z Z Z (.G 2 Z (.nil (d6 (b5 (.moveM (env':=[(1,.c (row 1 b9 states)),(2,.c (.fnb 46 [.ptr 0 0 0])),(3,(cP 3 0 0)),(6,(cP 4 0 0)),(7,(cP 5 0 0)),(18,.c (row 1 b9 states)),(19,(cI (states.length:Int))),(20,(cI t60))]) (σ':=[(oE 8 [int ov3.facts,row 1 intI ov3.init,row 1 intI ov3.goal,row 3 d7 ov3.operators,row 1 b9 states4,.own 1 0 l.length,.own 2 0 l7.length,int den]),(oV 1 intI l),(oV 1 intI l7),(oE 4 (tO ov)),(oE 2 [.imm (.val nL),.imm (.val nL)]),(oE 2 [row 1 b9 states,.own 6 0 a96.length]),mat (6,[]) 1 intI a96,.dead,(o1 (.own 7 0 c61.length))]) 6 9 Z Z Z ⟨Z,Z,Z,Z,Z,Z,Z,Z,Y⟩ Z ⟨(.one Z Z),(.vec Z),(.vec Z),(.one Z Z),(.one Z Z),(.one Z Z),(.mat Z Z Z),.dead,(.one Z Z),Y⟩ (.O (.add Z Z Z (by omega) (.z Z Z (.nil ?_)))))))))))
   obtain rfl:=oi h
   refine b5 (Sub.cut ⟨Z,Z,Z,Z,Z,Z,Z,Z,Y⟩ Z ⟨.one Z,.vec,.vec,.one Z,.one Z,.one Z,.mat Z,Y⟩ Z)
 ·intro iz
  try dsimp only
  refine f9 (b5 (.gk 2 Z (.ret ?_)))
  obtain rfl:=oi h
  exact⟨⟨[(6,(cP 4 0 0))],[(oE 8 [int ov3.facts,row 1 intI ov3.init,row 1 intI ov3.goal,row 3 d7 ov3.operators,row 1 b9 states4,.own 1 0 l.length,.own 2 0 l7.length,int den]),(oV 1 intI l),(oV 1 intI l7),.dead,(oE 2 [row 1 b9 states,.own 6 0 c59.length]),.dead,mat (6,[]) 1 intI c59]⟩,Sub.cut ⟨Z,Y⟩ Z ⟨.one Z,.vec,.vec,.dead,.one Z,.dead,.mat Z,Y⟩ Z,Done.ret Z ⟨Z,Z⟩⟩
theorem ay2{ov:d5}{ov2:d5}{states:LL}{den:Int}{l:Li}{l6:Li}{r:(List e9)×Bool}(h:ah8 ov ov2 states den l l6=some r):FnOk prog 50 [.agg (tO ov),.c (.fnb 46 [.ptr 0 0 0])] (aa2 ov ov2 states den l l6) (fun tt ss=>tt=.tup [.c (row 2 f8 r.1),(cB r.2)]∧ss=[(oE 8 [int ov2.facts,row 1 intI ov2.init,row 1 intI ov2.goal,row 3 d7 ov2.operators,row 1 b9 states,.own 1 0 l.length,.own 2 0 l6.length,int den]),(oV 1 intI l),(oV 1 intI l6)]):=by
 refine FnOk.enter (rs:=[.t 4,.t 5]) func50 Z ntmps50 results50 Z ⟨Y,Y,Y⟩ (by kernel_rfl) Z ?_
 refine AWP.weak ?_
 unfold ah8 at h
 refine AWP.gk 3 Z (.gk 1 Z (.gs 2 Z (S.lit (f:=b9) (l:=[ov.init]) (ess:=[[row 1 intI ov.init]]) Z Z Z Z Z Z Z ⟨⟨.inl Z,Y⟩,Y⟩ Z Z Z (.ge 1 Z (.e (.gk 1 Z (.j (.virtV 2 f8 6 Z Z Z ?_))))))))
 obtain⟨oo,ho1,h⟩:=bind_some h
 refine AWP.loopS ho1 (fun(c59,c60,atv61)=>⟨[(1,.c (.fnb 46 [.ptr 0 0 0])),(2,(cP 3 0 0)),(6,.c (.own 5 0 c60.length)),(7,.c (.own 4 0 c59.length)),(8,(cI atv61))],[(oE 8 [int ov2.facts,row 1 intI ov2.init,row 1 intI ov2.goal,row 3 d7 ov2.operators,row 1 b9 states,.own 1 0 l.length,.own 2 0 l6.length,int den]),(oV 1 intI l),(oV 1 intI l6),(oE 4 (tO ov)),(oV 1 b9 c59),(oV 2 f8 c60)]⟩) (fun o e st=>match o with| .inl c62=>e=.exit 0∧Sub (aa2 ov ov2 states den l l6) st ⟨[(6,.c (.own 5 0 c62.length))],[(oE 8 [int ov2.facts,row 1 intI ov2.init,row 1 intI ov2.goal,row 3 d7 ov2.operators,row 1 b9 states,.own 1 0 l.length,.own 2 0 l6.length,int den]),(oV 1 intI l),(oV 1 intI l6),.dead,.dead,(oV 2 f8 c62)]⟩| .inr x=>e=.ret∧∃J,Sub (aa2 ov ov2 states den l l6) st J∧Done [.t 4,.t 5] (fun tt ss=>tt=.tup [.c (row 2 f8 x.1),(cB x.2)]∧ss=[(oE 8 [int ov2.facts,row 1 intI ov2.init,row 1 intI ov2.goal,row 3 d7 ov2.operators,row 1 b9 states,.own 1 0 l.length,.own 2 0 l6.length,int den]),(oV 1 intI l),(oV 1 intI l6)]) .ret J) ?_ ?_ ?_
 ·try dsimp only
  exact Sub.env ⟨Z,Z,(o7 (by first|rfl|simp only[lS])),Z,Z,Y⟩
 ·intro s o h
  obtain⟨c59,c60,atv61⟩:=s
  unfold ak6 at h
  try dsimp only at h ⊢
  refine AWP.e (.gs 2 Z (S.lenO Z Z Z (fun hl20=>.ge 1 Z (.J Z h (fun hc63 h=> ?_) (fun hc63 h=> ?_)))))
  ·refine AWP.skip (b5 (.seqF ((Q1 atv61)) o (fun(c64,c65)=>⟨[(1,.c (.fnb 46 [.ptr 0 0 0])),(2,(cP 3 0 0)),(6,.c (.own 5 0 c65.length)),(7,.c (.own 4 0 c64.length)),(8,(cI atv61))],[(oE 8 [int ov2.facts,row 1 intI ov2.init,row 1 intI ov2.goal,row 3 d7 ov2.operators,row 1 b9 states,.own 1 0 l.length,.own 2 0 l6.length,int den]),(oV 1 intI l),(oV 1 intI l6),(oE 4 (tO ov)),(oV 1 b9 c64),(oV 2 f8 c65)]⟩) (fun x h=> ?_) ?_))
   ·obtain⟨c64,c65⟩:=x
    unfold Q1 at h
    try dsimp only at h ⊢
    refine AWP.G 3 Z (.nil ?_)
    obtain rfl:=oi h
    refine b5 ⟨_,Z,?_⟩
    exact Sub.en Z
   ·refine AWP.j (.e ?_)
    obtain⟨a26,ha26,h⟩:=bind_some h
    refine AWP.G 2 Z (S.idxO ha26 Z Z Z Z Z (S.loadO ha26 Z Z Z Z Z (.u Z Z (.nil (b5 (.e ?_))))))
    obtain⟨t66,hx67,h⟩:=bind_some h
    refine AWP.seqJ (⟨[(1,.c (.fnb 46 [.ptr 0 0 0])),(2,(cP 3 0 0)),(6,.c (.own 5 0 c60.length)),(7,.c (.own 4 0 c59.length)),(8,(cI atv61)),(9,(cR a26)),(37,(cB t66))],[(oE 8 [int ov2.facts,row 1 intI ov2.init,row 1 intI ov2.goal,row 3 d7 ov2.operators,row 1 b9 states,.own 1 0 l.length,.own 2 0 l6.length,int den]),(oV 1 intI l),(oV 1 intI l6),(oE 4 (tO ov)),(oV 1 b9 c59),(oV 2 f8 c60)]⟩) ?_ ?_
    ·obtain⟨a31,ha31,hx67⟩:=bind_some hx67
     rcases bft (a31) with hb68|hb68
     ·replace hx67:=B2 hb68 hx67
      refine AWP.G 3 Z (.q Z Z Z Z (m8 ha31) Z (.z Z Z (.K Z Z hb68 (.G 5 Z (.nil ?_)))))
      obtain rfl:=oi hx67
      refine b5 (Sub.en Z)
     ·replace hx67:=B3 hb68 hx67
      obtain⟨a35,ha35,hx67⟩:=bind_some hx67
      refine AWP.G 3 Z (.q Z Z Z Z (m8 ha31) Z (.z Z Z (.K Z Z hb68 (.G 2 Z (.F Z Z Z Z (.U Z Z (.cons (.c (.own Z Z)) (.cons (.c .imm) .nil)) Z (H3 ha35) Z (.G 2 Z (.nil ?_))))))))
      obtain rfl:=oi hx67
      refine b5 (Sub.en Z)
    ·refine AWP.E Z h (fun hc69 h=> ?_) (fun hc69 h=> ?_)
     ·refine AWP.exit (i5 (f9 (b5 ⟨_,h,?_⟩)))
      exact Sub.en Z
     ·refine AWP.skip (b5 (.e (.gs 1 Z (S.lenO Z Z Z (fun hl39=>.ge 1 Z (.J Z h (fun hc70 h=> ?_) (fun hc70 h=> ?_)))))))
      ·refine AWP.gk 2 Z (.nilrow 2 4 Z (.ret (d9 (i4 (d9 ?_)))))
       obtain rfl:=oi h
       refine d9 ⟨_,Z,Z,?_⟩
       exact⟨⟨[(4,.c (row 2 f8 [])),(5,(cB false))],[(oE 8 [int ov2.facts,row 1 intI ov2.init,row 1 intI ov2.goal,row 3 d7 ov2.operators,row 1 b9 states,.own 1 0 l.length,.own 2 0 l6.length,int den]),(oV 1 intI l),(oV 1 intI l6)]⟩,Sub.cut ⟨Z,Z,Y⟩ Z ⟨.one Z,.vec,.vec,Y⟩ Z,Done.ret Z ⟨Z,Z⟩⟩
      ·refine AWP.skip (b5 (.e ?_))
       obtain⟨a43,ha43,h⟩:=bind_some h
       refine AWP.G 2 Z (.callFB (r2:=(cI a43)) (σ'':=[(oE 8 [int ov2.facts,row 1 intI ov2.init,row 1 intI ov2.goal,row 3 d7 ov2.operators,row 1 b9 states,.own 1 0 l.length,.own 2 0 l6.length,int den]),(oV 1 intI l),(oV 1 intI l6),(oE 4 (tO ov)),(oV 1 b9 c59),(oV 2 f8 c60)]) Z Z Z (FnOk.lend [0,1,2] (aa1 ha43) Z Z Z Z Z Z (by exact⟨(.one Z),.vec,.vec,Y⟩) Z (by exact⟨(.live Z (.one Z)),(.live Z .vec),(.live Z .vec),Y⟩) Z Z (by exact⟨(.new 0 Z Z (.one Z)),(.new 1 Z Z .vec),(.new 2 Z Z .vec),(.old Z Z Z),(.old Z Z Z),(.old Z Z Z),Y⟩)) (.u Z Z (.nil (b5 (.e ?_)))))
       obtain⟨a47,ha47,h⟩:=bind_some h
       refine AWP.G 2 Z (.U Z Z (.cons (.c (.own Z Z)) (.cons (.c .imm) (.cons (.c (.fn .nil)) .nil))) Z (u6 Z (fun hy=>ak1 hy) ha47) Z ?_)
       refine AOps.G 5 Z (.nil (b5 (.e ?_)))
       obtain⟨a53,ha53,a57,ha57,h⟩:=b2 h
       refine AWP.G 3 Z (S.fresh Z Z Z Z (C6 ha53) Z Z (.G 2 Z (.frzV (id:=6) (l:=a53) (env2:=[(1,.c (.fnb 46 [.ptr 0 0 0])),(2,(cP 3 0 0)),(7,.c (.own 4 0 c59.length)),(8,(cI atv61)),(9,(cR a26)),(10,(cI a43)),(50,.c (.own 5 0 c60.length)),(51,(cI a47.1)),(55,.agg [row 1 intI a53,int a43])]) (σ2:=[(oE 8 [int ov2.facts,row 1 intI ov2.init,row 1 intI ov2.goal,row 3 d7 ov2.operators,row 1 b9 states,.own 1 0 l.length,.own 2 0 l6.length,int den]),(oV 1 intI l),(oV 1 intI l6),(oE 4 (tO ov)),(oV 1 b9 c59),(oV 2 f8 c60),.dead]) Z Z (by exact⟨⟨_,Z,.inl ⟨Z,Z⟩⟩,⟨_,Z,.inl ⟨Z,Z⟩⟩,⟨_,Z,.inl ⟨Z,Z⟩⟩,⟨_,Z,.inl ⟨Z,Z⟩⟩,⟨_,Z,.inl ⟨Z,Z⟩⟩,⟨_,Z,.inl ⟨Z,Z⟩⟩,⟨_,Z,.inl ⟨Z,Z⟩⟩,⟨_,Z,.inl ⟨Z,Z⟩⟩,⟨_,Z,⟨.inr ⟨_,Z,Z,Z⟩,.inl ⟨Z,Z⟩,Y⟩⟩,Y⟩) Z (by exact⟨⟨Z,.inl ⟨Z,Z⟩,.inl ⟨Z,Z⟩,.inl ⟨Z,Z⟩,.inl ⟨Z,Z⟩,.inl ⟨Z,Z⟩,.inl ⟨Z,Z⟩,.inl ⟨Z,Z⟩,.inl ⟨Z,Z⟩,Y⟩,FrzB.vec,FrzB.vec,⟨Z,.inl ⟨Z,Z⟩,.inl ⟨Z,Z⟩,.inl ⟨Z,Z⟩,.inl ⟨Z,Z⟩,Y⟩,FrzB.vec,FrzB.vec,Y,Y⟩) (S.lit (f:=f8) (l:=[(⟨a53,a43⟩:e9)]) (ess:=[[row 1 intI a53,int a43]]) Z Z Z Z Z Z Z ⟨⟨.inl Z,.inl Z,Y⟩,Y⟩ Z Z Z (S.insert (f:=f8) ha57 Z Z Z Z Z Z Z Z Z Z Z (.u Z Z (.nil (b5 (.e (.z (env':=[(1,.c (.fnb 46 [.ptr 0 0 0])),(2,(cP 3 0 0)),(6,.c (.own 5 0 a57.length)),(7,.c (.own 4 0 c59.length)),(8,(cI atv61)),(9,(cR a26)),(10,(cI a43))]) (σ':=[(oE 8 [int ov2.facts,row 1 intI ov2.init,row 1 intI ov2.goal,row 3 d7 ov2.operators,row 1 b9 states,.own 1 0 l.length,.own 2 0 l6.length,int den]),(oV 1 intI l),(oV 1 intI l6),(oE 4 (tO ov)),(oV 1 b9 c59),(oV 2 f8 a57),.dead,(oV 2 f8 [(⟨a53,a43⟩:e9)])]) 5 8 Z Z Z ⟨Z,Z,Z,Z,Z,Z,Z,Y⟩ Z ⟨⟨Z,Z⟩,⟨Blk.im_ok _ _ _,i7 Z⟩,⟨Blk.im_ok _ _ _,i7 Z⟩,⟨Z,Z⟩,⟨Blk.im_ok _ _ _,i7 Z⟩,⟨Blk.im_ok _ _ _,i7 Z⟩,Y,⟨Blk.im_ok _ _ _,i7 Z⟩,Y⟩ ?_))))))))))
       obtain⟨a62,ha62,h⟩:=bind_some h
       refine AWP.G 3 Z (.q Z Z Z Z (y6 ha62) Z (.G 5 Z (.nil (b5 ?_))))
       obtain⟨a67,ha67,h⟩:=bind_some h
       refine AWP.G 2 Z (S.append (f:=b9) ha67 Z Z Z Z Z Z .row Z Z Z Z (.u Z Z (.nil (d6 (b5 ⟨_,h,?_⟩)))))
       exact(Sub.move (env':=[(1,.c (.fnb 46 [.ptr 0 0 0])),(2,(cP 3 0 0)),(6,.c (.own 5 0 a57.length)),(7,.c (.own 4 0 a67.length)),(8,(cI atv61))]) (σ':=[(oE 8 [int ov2.facts,row 1 intI ov2.init,row 1 intI ov2.goal,row 3 d7 ov2.operators,row 1 b9 states,.own 1 0 l.length,.own 2 0 l6.length,int den]),(oV 1 intI l),(oV 1 intI l6),(oE 4 (tO ov)),(oV 1 b9 a67),(oV 2 f8 a57),.dead,(oV 2 f8 [(⟨a53,a43⟩:e9)])]) 4 8 Z Z Z ⟨Z,Z,Z,Z,Z,Y⟩ Z ⟨⟨Z,Z⟩,⟨Blk.im_ok _ _ _,i7 Z⟩,⟨Blk.im_ok _ _ _,i7 Z⟩,⟨Z,Z⟩,⟨Blk.im_ok _ _ _,i7 Z⟩,⟨Blk.im_ok _ _ _,i7 Z⟩,Y,⟨Blk.im_ok _ _ _,i7 Z⟩,Y⟩).trans (Sub.cut ⟨Z,Z,Z,Z,Z,Y⟩ Z ⟨.one Z,.vec,.vec,.one Z,.vec,.vec,Y⟩ Z)
  ·refine AWP.exit (i5 ?_)
   obtain rfl:=oi h
   refine i5 ⟨_,Z,Z,?_⟩
   exact Sub.cut ⟨Z,Y⟩ Z ⟨.one Z,.vec,.vec,.dead,.dead,.vec,Y⟩ Z
 ·intro e s hq
  rcases oo with c62|x
  ·try dsimp only at h hq
   obtain⟨rfl,hs⟩:=hq
   refine⟨_,hs,?_⟩
   refine f9 (b5 (.gk 3 Z (.frzV (id:=5) (l:=c62) (env2:=[(4,.c (row 2 f8 c62)),(5,(cB true))]) (σ2:=[(oE 8 [int ov2.facts,row 1 intI ov2.init,row 1 intI ov2.goal,row 3 d7 ov2.operators,row 1 b9 states,.own 1 0 l.length,.own 2 0 l6.length,int den]),(oV 1 intI l),(oV 1 intI l6),.dead,.dead,.dead]) Z Z (by exact⟨⟨_,Z,.inr ⟨_,Z,Z,Z⟩⟩,⟨_,Z,.inl ⟨Z,Z⟩⟩,Y⟩) Z (by exact⟨⟨Z,.inl ⟨Z,Z⟩,.inl ⟨Z,Z⟩,.inl ⟨Z,Z⟩,.inl ⟨Z,Z⟩,.inl ⟨Z,Z⟩,.inl ⟨Z,Z⟩,.inl ⟨Z,Z⟩,.inl ⟨Z,Z⟩,Y⟩,FrzB.vec,FrzB.vec,Y,Y,Y,Y⟩) (.ret ?_))))
   obtain rfl:=oi h
   exact⟨⟨[(4,.c (row 2 f8 c62)),(5,(cB true))],[(oE 8 [int ov2.facts,row 1 intI ov2.init,row 1 intI ov2.goal,row 3 d7 ov2.operators,row 1 b9 states,.own 1 0 l.length,.own 2 0 l6.length,int den]),(oV 1 intI l),(oV 1 intI l6)]⟩,Sub.cut ⟨Z,Z,Y⟩ Z ⟨.one Z,.vec,.vec,Y⟩ Z,Done.ret Z ⟨Z,Z⟩⟩
  ·try dsimp only at h hq
   obtain⟨rfl,hs⟩:=hq
   refine⟨_,Sub.refl _ _,?_⟩
   refine i4 (d9 ?_)
   obtain rfl:=oi h
   exact hs
theorem chance_Best_ok{ov:d5}{r:(List e9)×m9×Bool×j8}(h:aq4 ov=some r):e8 prog 9 [.agg (tO ov)] (.tup [.c (row 2 f8 r.1),.agg [int r.2.1.num,int r.2.1.den],(cB r.2.2.1),.agg [int r.2.2.2.code,int r.2.2.2.index]]):=by
 unfold e8
 refine FnOk.enter (rs:=[.t 2,.cell 3 28 2,.t 4,.cell 5 30 2]) func9 Z ntmps9 results9 Z ⟨Y,rv _ Z,Y,rv _ Z,Y⟩ (by kernel_rfl) Z ?_
 unfold aq4 at h
 refine AWP.gk 5 Z (.e ?_)
 obtain⟨a24,ha24,h⟩:=bind_some h
 refine AWP.G 1 Z (.q Z Z Z Z (aq0 ha24) Z (.G 7 Z (.nil (b5 (.e (.gs 2 Z (.neqP Z Z Z Z Z Z Z (.ne (.E Z h (fun hc2 h=> ?_) (fun hc2 h=> ?_))))))))))
 ·refine AWP.e (.drawEI [3,5] mixed Z Z Z (b8.D 3 Z Z ?_))
  apply b8.consE (v:=.undef);exact Z;exact Z;intro E
  refine W.storeAgg Z Z Z Z Z Z Z .N
  exact Z
  exact Z
  refine b8.D 1 Z Z ?_
  apply b8.consE (v:=.undef);exact Z;exact Z;intro E
  refine W.storeAgg Z Z Z Z Z Z Z .N
  exact Z
  exact Z
  refine b8.done Z ?_ ?_
  ·refine d8.D 6 Z Z (d8.nil)
  dsimp only[h9]
  refine b5 (.nilrow 2 2 Z (.ret (d9 ?_)))
  obtain rfl:=oi h
  exact Done.ret Z Z
 ·refine AWP.skip (b5 (.e (.e ?_)))
  obtain⟨a34,ha34,h⟩:=bind_some h
  refine AWP.G 2 Z (.q Z Z Z Z (H4 Z (fun hy=>az0 hy) ha34) Z ?_)
  refine AOps.nil (b5 (.E Z h (fun hc3 h=> ?_) (fun hc3 h=> ?_)))
  ·refine AWP.gk 6 Z (.nilrow 2 2 Z (.ret (d9 ?_)))
   obtain rfl:=oi h
   exact Done.ret Z Z
  ·refine AWP.skip (b5 (.e ?_))
   obtain⟨a39,ha39,h⟩:=bind_some h
   refine AWP.G 2 Z (S.fresh Z Z Z Z (ag8 ha39) Z Z (.G 2 Z (.nil (b5 (.e ?_)))))
   obtain⟨a41,ha41,a43,ha43,h⟩:=b2 h
   refine AWP.G 1 Z (S.fresh Z Z Z Z (L7 ha41) Z Z (.aa Z Z (.callF (r2:=.c (.own 8 0 a43.length)) (σ'':=[(oE 4 (tO ov)),(oE 2 [int 0,int 0]),(oE 2 [int 0,int 0]),(o1 (row 1 b9 a24.1)),(oE 2 [int a24.2.code,int a24.2.index]),(oV 1 intI a39),(o1 (.own 5 0 a39.length)),.dead,(oV 1 b9 a43)]) Z Z Z (FnOk.lend [7,6,3,5] (af4 ha43) Z Z Z Z Z Z (by exact⟨.vec,(.one Z),(.one Z),.vec,Y⟩) Z (by exact⟨(.live Z .vec),(.live Z (.one Z)),(.live Z (.one Z)),(.live Z .vec),Y⟩) Z Z (by exact⟨(.old Z Z Z),(.old Z Z Z),(.old Z Z Z),(.new 2 Z Z (.one Z)),(.old Z Z Z),(.new 3 Z Z .vec),(.new 1 Z Z (.one Z)),.dead,(.new 4 Z Z .vec),Y⟩)) (.u Z Z (.nil (b5 (.e ?_)))))))
   obtain⟨a47,ha47,h⟩:=bind_some h
   refine AWP.drawEI [3,5] mixed Z Z Z (b8.D 3 Z Z ?_)
   apply b8.consE;exact Z;exact Z;intro E
   refine AOps.callF (r2:=.c (.own 11 0 a47.length)) (σ'':=[(oE 4 (tO ov)),(oE 2 [int 0,int 0]),(oE 2 [int 0,int 0]),(o1 (row 1 b9 a24.1)),(oE 2 [int a24.2.code,int a24.2.index]),(oV 1 intI a39),(o1 (.own 5 0 a39.length)),.dead,.dead,.dead,.dead,(oV 1 b9 a47)]) Z Z Z (FnOk.lend [8] (U7 ha47) Z Z Z Z Z Z (by exact⟨.vec,Y⟩) Z (by exact⟨(.live Z .vec),Y⟩) Z Z (by exact⟨(.old Z Z Z),(.old Z Z Z),(.old Z Z Z),(.old Z Z Z),(.old Z Z Z),(.old Z Z Z),(.old Z Z Z),.dead,.dead,.dead,.dead,(.new 3 Z Z .vec),Y⟩)) .N
   exact Z
   exact Z
   refine b8.consN Z Z (fun E=>W.buildP Z Z Z Z .N) Z ?_
   apply b8.consE;exact Z;exact Z;intro E
   refine W.box Z Z Z Z Z Z .N
   exact Z
   exact Z
   refine b8.D 1 Z Z (b8.done Z ?_ ?_)
   ·refine d8.D 4 Z Z ?_
    refine d8.cons Z Z ?_ ?_
    refine i6.skip Z ?_
    refine i6.go Z Z (fun E=>W.buildP Z Z Z Z .N) ?_
    refine i6.skip Z (i6.nil)
    refine d8.D 2 Z Z (d8.nil)
   dsimp only[h9]
   refine b5 (.e (.j (.e ?_)))
   obtain⟨a53,ha53,a54,ha54,h⟩:=b2 h
   refine AWP.drawEI [2,3] mixed Z Z Z (b8.D 2 Z Z ?_)
   apply b8.consE;exact Z;exact Z;intro E
   refine S.fresh Z Z Z Z (L7 ha53) Z Z .N
   exact Z
   exact Z
   apply b8.consE;exact Z;exact Z;intro E
   refine AOps.callF (r2:=.c (.own 16 0 a54.length)) (σ'':=[(oE 4 (tO ov)),(oE 2 [int 0,int 0]),(oE 2 [int 0,int 0]),(o1 (row 1 b9 a24.1)),(oE 2 [int a24.2.code,int a24.2.index]),(oV 1 intI a39),(o1 (.own 5 0 a39.length)),.dead,.dead,.dead,.dead,(oV 1 b9 a47),(oE 8 [int ov.facts,row 1 intI ov.init,row 1 intI ov.goal,row 3 d7 ov.operators,.own 11 0 a47.length,.imm (.val nL),.imm (.val nL),int 0]),.dead,.dead,.dead,(oV 1 b9 a54)]) Z Z Z (FnOk.lend [13] (U7 ha54) Z Z Z Z Z Z (by exact⟨.vec,Y⟩) Z (by exact⟨(.live Z .vec),Y⟩) Z Z (by exact⟨(.old Z Z Z),(.old Z Z Z),(.old Z Z Z),(.old Z Z Z),(.old Z Z Z),(.old Z Z Z),(.old Z Z Z),.dead,.dead,.dead,.dead,(.old Z Z Z),(.old Z Z Z),.dead,.dead,.dead,(.new 3 Z Z .vec),Y⟩)) .N
   exact Z
   exact Z
   refine b8.consN Z Z (fun E=>S.lenO Z Z Z (fun hl55=>.nil ⟨Z,Z⟩)) Z ?_
   refine b8.D 2 Z Z (b8.done Z ?_ ?_)
   ·refine d8.D 4 Z Z ?_
    refine d8.cons Z Z ?_ ?_
    refine i6.skip Z (i6.skip Z ?_)
    apply i6.go;exact Z;exact Z;intro E;refine S.lenO Z Z Z (fun hl55=> ?_);exact AOps.nil ⟨Z,Z⟩
    exact i6.nil
    refine d8.D 2 Z Z (d8.nil)
   dsimp only[h9]
   refine b5 (.J Z h (fun hc4 h=> ?_) (fun hc4 h=> ?_))
   ·refine AWP.gk 6 Z (.nilrow 2 2 Z (.ret (i4 (d9 ?_))))
    obtain rfl:=oi h
    exact Done.ret Z Z
   ·refine AWP.e ?_
    obtain⟨a64,ha64,a65,ha65,h⟩:=b2 h
    refine AWP.drawI mixed Z (b7.D 4 Z ?_)
    refine b7.consF Z (fun E=>.q Z Z Z Z (p9 ha64) Z .N) Z (.consF Z (fun E=>S.idxO ha65 Z Z Z Z Z .N) Z (.consF Z (fun E=>S.loadO ha65 Z Z Z Z Z .N) Z ?_))
    refine b7.D 2 Z (b7.done ?_)
    dsimp only[h9]
    refine b5 (.J Z h (fun hc5 h=> ?_) (fun hc5 h=> ?_))
    ·refine AWP.gk 6 Z (.nilrow 2 2 Z (.ret (i4 (d9 ?_))))
     obtain rfl:=oi h
     exact Done.ret Z Z
    ·refine AWP.e ?_
     obtain⟨a75,ha75,h⟩:=bind_some h
     refine AWP.G 4 Z (.q Z Z Z Z (m8 ha75) Z (.u Z Z (.nil (b5 (.E Z h (fun hc6 h=> ?_) (fun hc6 h=> ?_))))))
     ·refine AWP.gk 6 Z (.nilrow 2 2 Z (.ret (i4 (d9 ?_))))
      obtain rfl:=oi h
      exact Done.ret Z Z
     ·refine AWP.skip (d6 (b5 (.e (.gs 4 Z (S.lenO Z Z Z (fun hl82=>.ge 1 Z (.j (.virtB 1 intI (b:=12) (o:=5) Z Z Z Z Z Z ?_))))))))
      obtain⟨c7,ho1,h⟩:=bind_some h
      refine AWP.forH ho1 (fun t8 c7=>⟨[(1,(cP 0 0 0)),(3,(cP 1 0 0)),(5,(cP 2 0 0)),(7,(cP 4 0 0)),(10,(cP 12 0 0)),(81,.c (.own 11 0 a47.length)),(82,(cI (a47.length:Int))),(83,(cI t8))],[(oE 4 (tO ov)),(oE 2 [int 0,int 0]),(oE 2 [int 0,int 0]),.dead,(oE 2 [int a24.2.code,int a24.2.index]),.dead,.dead,.dead,.dead,.dead,.dead,(oV 1 b9 a47),(oE 8 [int ov.facts,row 1 intI ov.init,row 1 intI ov.goal,row 3 d7 ov.operators,.own 11 0 a47.length,.own 17 0 c7.length,.imm (.val nL),int 0]),.dead,.dead,.dead,.dead,(oV 1 intI c7)]⟩) (fun _ _=>Z) ?_ ?_ ?_
      ·try dsimp only
       exact Sub.cut ⟨Z,Z,Z,Z,Z,Z,Z,Z,Y⟩ Z ⟨.one Z,.one Z,.one Z,.dead,.one Z,.dead,.dead,.dead,.dead,.dead,.dead,.vec,(.eq Z (by first|rfl|(simp only[lS];done))),.dead,.dead,.dead,.dead,.vec,Y⟩ Z
      ·intro t8 c7 o hlot8 hltt8 h
       unfold as7 at h
       try dsimp only at h ⊢
       refine AWP.e (.j (.e ?_))
       obtain⟨a85,ha85,h⟩:=bind_some h
       refine AWP.O (S.idxO ha85 Z Z Z Z Z (S.loadO ha85 Z Z Z Z Z (.u Z Z (.nil (b5 (.gk 3 Z (.gk 3 Z (.e ?_))))))))
       obtain⟨a92,ha92,h⟩:=bind_some h
       refine AWP.G 1 Z (.q Z Z Z Z (az6 ha92) Z (.G 8 Z (.nil (b5 ?_))))
       obtain⟨a103,ha103,a105,ha105,h⟩:=b2 h
       refine AWP.drawEI [8,9,12] mixed Z Z Z (b8.D 7 Z Z ?_)
       refine b8.consN Z Z (fun E=>.q Z Z Z Z (H3 ha103) Z .N) Z ?_
       apply b8.consE;exact Z;exact Z;intro E
       refine S.lit (f:=intI) (l:=[a103]) (ess:=[[int a103]]) Z Z Z Z Z Z Z ⟨⟨.inl Z,Y⟩,Y⟩ Z Z Z .N
       exact Z
       exact Z
       apply b8.consE;exact Z;exact Z;intro E
       refine S.append (f:=intI) ha105 Z Z Z Z Z Z (.own Z Z) Z Z Z Z .N
       exact Z
       exact Z
       refine b8.D 2 Z Z ?_
       apply b8.consE (v:=.undef);exact Z;exact Z;intro E
       refine W.store Z Z Z Z Z .N
       exact Z
       exact Z
       refine b8.done Z ?_ ?_
       ·refine d8.D 7 Z Z ?_
        refine d8.cons Z Z (.go Z Z (fun E=>.q Z Z Z Z (H3 ha103) Z .N) (.skip Z (.skip Z (.skip Z .nil)))) ?_
        refine d8.D 5 Z Z (d8.nil)
       dsimp only[h9]
       refine d6 (b5 (.z (env':=[(1,(cP 0 0 0)),(3,(cP 1 0 0)),(5,(cP 2 0 0)),(7,(cP 4 0 0)),(10,(cP 12 0 0)),(81,.c (.own 11 0 a47.length)),(82,(cI (a47.length:Int))),(83,(cI t8))]) (σ':=[(oE 4 (tO ov)),(oE 2 [int 0,int 0]),(oE 2 [int 0,int 0]),.dead,(oE 2 [int a24.2.code,int a24.2.index]),.dead,.dead,.dead,.dead,.dead,.dead,(oV 1 b9 a47),(oE 8 [int ov.facts,row 1 intI ov.init,row 1 intI ov.goal,row 3 d7 ov.operators,.own 11 0 a47.length,.own 17 0 a105.length,.imm (.val nL),int 0]),.dead,.dead,.dead,.dead,(oV 1 intI a105),(oE 4 [int ov.facts,row 1 intI a85,row 1 intI ov.goal,row 3 d7 ov.operators]),(oE 2 [int a92.2.2.code,int a92.2.2.index]),(oV 1 intI [a103])]) 17 21 Z Z Z ⟨Z,Z,Z,Z,Z,Z,Z,Z,Y⟩ Z ⟨⟨Z,Z⟩,⟨Z,Z⟩,⟨Z,Z⟩,Y,⟨Z,Z⟩,Y,Y,Y,Y,Y,Y,⟨Blk.im_ok _ _ _,i7 Z⟩,⟨Z,Z⟩,Y,Y,Y,Y,⟨Blk.im_ok _ _ _,i7 Z⟩,⟨Z,Z⟩,⟨Z,Z⟩,⟨Blk.im_ok _ _ _,i7 Z⟩,Y⟩ (.O (.add Z Z Z (by omega) (.z Z Z (.nil ?_))))))
       obtain rfl:=oi h
       refine b5 (Sub.cut ⟨Z,Z,Z,Z,Z,Z,Z,Z,Y⟩ Z ⟨.one Z,.one Z,.one Z,.dead,.one Z,.dead,.dead,.dead,.dead,.dead,.dead,.vec,.one Z,.dead,.dead,.dead,.dead,.vec,Y⟩ Z)
      ·intro iz
       try dsimp only
       refine f9 (b5 (.e (.gk 1 Z (.j (.frzV (id:=11) (l:=a47) (env2:=[(1,(cP 0 0 0)),(3,(cP 1 0 0)),(5,(cP 2 0 0)),(7,(cP 4 0 0)),(10,(cP 12 0 0)),(17,(cB true))]) (σ2:=[(oE 4 (tO ov)),(oE 2 [int 0,int 0]),(oE 2 [int 0,int 0]),.dead,(oE 2 [int a24.2.code,int a24.2.index]),.dead,.dead,.dead,.dead,.dead,.dead,.dead,(oE 8 [int ov.facts,row 1 intI ov.init,row 1 intI ov.goal,row 3 d7 ov.operators,row 1 b9 a47,.own 17 0 c7.length,.imm (.val nL),int 0]),.dead,.dead,.dead,.dead,(oV 1 intI c7)]) Z Z (by exact⟨⟨_,Z,.inl ⟨Z,Z⟩⟩,⟨_,Z,.inl ⟨Z,Z⟩⟩,⟨_,Z,.inl ⟨Z,Z⟩⟩,⟨_,Z,.inl ⟨Z,Z⟩⟩,⟨_,Z,.inl ⟨Z,Z⟩⟩,⟨_,Z,.inl ⟨Z,Z⟩⟩,Y⟩) Z (by exact⟨⟨Z,.inl ⟨Z,Z⟩,.inl ⟨Z,Z⟩,.inl ⟨Z,Z⟩,.inl ⟨Z,Z⟩,Y⟩,⟨Z,.inl ⟨Z,Z⟩,.inl ⟨Z,Z⟩,Y⟩,⟨Z,.inl ⟨Z,Z⟩,.inl ⟨Z,Z⟩,Y⟩,Y,⟨Z,.inl ⟨Z,Z⟩,.inl ⟨Z,Z⟩,Y⟩,Y,Y,Y,Y,Y,Y,Y,⟨Z,.inl ⟨Z,Z⟩,.inl ⟨Z,Z⟩,.inl ⟨Z,Z⟩,.inl ⟨Z,Z⟩,.inr ⟨_,Z,Z,Z⟩,.inl ⟨Z,Z⟩,.inl ⟨Z,Z⟩,.inl ⟨Z,Z⟩,Y⟩,Y,Y,Y,Y,FrzB.vec,Y⟩) (.virtB 1 intI (b:=12) (o:=6) Z Z Z Z Z Z ?_))))))
       obtain⟨⟨c13,c14,c15⟩,ho2,h⟩:=bind_some h
       try dsimp only at h
       refine AWP.loopS ho2 (fun(c9,c10,c11,again12)=>⟨[(1,(cP 0 0 0)),(3,(cP 1 0 0)),(5,(cP 2 0 0)),(7,(cP 4 0 0)),(10,(cP 12 0 0)),(17,(cB again12))],[(oE 4 (tO ov)),(oE 2 [int 0,int 0]),(oE 2 [int 0,int 0]),.dead,(oE 2 [int a24.2.code,int a24.2.index]),.dead,.dead,.dead,.dead,.dead,.dead,.dead,(oE 8 [int ov.facts,row 1 intI ov.init,row 1 intI ov.goal,row 3 d7 ov.operators,row 1 b9 a47,.own 17 0 c10.length,.own 18 0 c11.length,int c9]),.dead,.dead,.dead,.dead,(oV 1 intI c10),(oV 1 intI c11)]⟩) (fun(c13,c14,c15) e st=>e=.exit 3∧Sub [] st ⟨[(1,(cP 0 0 0)),(3,(cP 1 0 0)),(5,(cP 2 0 0)),(7,(cP 4 0 0)),(10,(cP 12 0 0))],[(oE 4 (tO ov)),(oE 2 [int 0,int 0]),(oE 2 [int 0,int 0]),.dead,(oE 2 [int a24.2.code,int a24.2.index]),.dead,.dead,.dead,.dead,.dead,.dead,.dead,(oE 8 [int ov.facts,row 1 intI ov.init,row 1 intI ov.goal,row 3 d7 ov.operators,row 1 b9 a47,.own 17 0 c14.length,.own 18 0 c15.length,int c13]),.dead,.dead,.dead,.dead,(oV 1 intI c14),(oV 1 intI c15)]⟩) ?_ ?_ ?_
       ·try dsimp only
        exact Sub.cut ⟨Z,Z,Z,Z,Z,Z,Y⟩ Z ⟨.one Z,.one Z,.one Z,.dead,.one Z,.dead,.dead,.dead,.dead,.dead,.dead,.dead,(.eq Z (by first|rfl|(simp only[lS];done))),.dead,.dead,.dead,.dead,.vec,.vec,Y⟩ Z
       ·intro s o h
        obtain⟨c9,c10,c11,again12⟩:=s
        unfold as4 at h
        try dsimp only at h ⊢
        refine AWP.e (.gk 1 Z (.E Z h (fun hc16 h=> ?_) (fun hc16 h=> ?_)))
        ·refine AWP.skip (b5 (.j (.e ?_)))
         obtain⟨a120,ha120,a121,ha121,h⟩:=b2 h
         refine AWP.drawEI [9,10,16,19] mixed Z Z Z (b8.D 8 Z Z ?_)
         refine b8.consN Z Z (fun E=>.makeFuncB Z Z .N) Z ?_
         apply b8.consE;exact Z;exact Z;intro E
         refine AOps.callF (r2:=.agg [row 1 b9 a47,.own 22 0 a120.length]) (σ'':=[(oE 4 (tO ov)),(oE 2 [int 0,int 0]),(oE 2 [int 0,int 0]),.dead,(oE 2 [int a24.2.code,int a24.2.index]),.dead,.dead,.dead,.dead,.dead,.dead,.dead,(oE 8 [int ov.facts,row 1 intI ov.init,row 1 intI ov.goal,row 3 d7 ov.operators,row 1 b9 a47,.own 17 0 c10.length,.own 18 0 c11.length,int c9]),.dead,.dead,.dead,.dead,(oV 1 intI c10),(oV 1 intI c11),.dead,(oE 2 [row 1 b9 a47,.own 22 0 a120.length]),.dead,mat (22,[]) 1 intI a120]) Z Z Z (FnOk.lend [12,17,18] (aq5 ha120) Z Z Z Z Z Z (by exact⟨(.one Z),.vec,.vec,Y⟩) Z (by exact⟨(.live Z (.one Z)),(.live Z .vec),(.live Z .vec),Y⟩) Z Z (by exact⟨(.old Z Z Z),(.old Z Z Z),(.old Z Z Z),.dead,(.old Z Z Z),.dead,.dead,.dead,.dead,.dead,.dead,.dead,(.new 0 Z Z (.one Z)),.dead,.dead,.dead,.dead,(.new 1 Z Z .vec),(.new 2 Z Z .vec),.dead,(.new 4 Z Z (.one Z)),.dead,(.new 6 Z Z .mat),Y⟩)) .N
         exact Z
         exact Z
         apply b8.consE;exact Z;exact Z;intro E
         refine AOps.callF (r2:=.tup [.c (.own 24 0 a121.1.length),(cI a121.2)]) (σ'':=[(oE 4 (tO ov)),(oE 2 [int 0,int 0]),(oE 2 [int 0,int 0]),.dead,(oE 2 [int a24.2.code,int a24.2.index]),.dead,.dead,.dead,.dead,.dead,.dead,.dead,(oE 8 [int ov.facts,row 1 intI ov.init,row 1 intI ov.goal,row 3 d7 ov.operators,row 1 b9 a47,.own 17 0 c10.length,.own 18 0 c11.length,int c9]),.dead,.dead,.dead,.dead,(oV 1 intI c10),(oV 1 intI c11),.dead,(oE 2 [row 1 b9 a47,.own 22 0 a120.length]),.dead,.dead,.dead,(oV 1 intI a121.1)]) Z Z Z (FnOk.lend [22] (X0 ha121) Z Z Z Z Z Z (by exact⟨(.mat Z),Y⟩) Z (by exact⟨(.live Z .mat),Y⟩) Z Z (by exact⟨(.old Z Z Z),(.old Z Z Z),(.old Z Z Z),.dead,(.old Z Z Z),.dead,.dead,.dead,.dead,.dead,.dead,.dead,(.old Z Z Z),.dead,.dead,.dead,.dead,(.old Z Z Z),(.old Z Z Z),.dead,(.old Z Z Z),.dead,.dead,.dead,(.new 2 Z Z .vec),Y⟩)) .N
         exact Z
         exact Z
         refine b8.D 5 Z Z ?_
         apply b8.consE (v:=.undef);exact Z;exact Z;intro E
         refine W.store Z Z Z Z Z .N
         exact Z
         exact Z
         refine b8.D 2 Z Z ?_
         apply b8.consE (v:=.undef);exact Z;exact Z;intro E
         refine W.store Z Z Z Z Z .N
         exact Z
         exact Z
         refine b8.done Z ?_ ?_
         ·refine d8.D 8 Z Z ?_
          refine d8.cons Z Z (.go Z Z (fun E=>.makeFuncB Z Z .N) (.skip Z (.skip Z (.skip Z (.skip Z .nil))))) ?_
          refine d8.D 11 Z Z (d8.nil)
         dsimp only[h9]
         refine b5 ?_
         obtain⟨⟨c17,c18⟩,hx19,h⟩:=bind_some h
         refine AWP.seqJ (⟨[(1,(cP 0 0 0)),(3,(cP 1 0 0)),(5,(cP 2 0 0)),(7,(cP 4 0 0)),(10,(cP 12 0 0))],[(oE 4 (tO ov)),(oE 2 [int 0,int 0]),(oE 2 [int 0,int 0]),.dead,(oE 2 [int a24.2.code,int a24.2.index]),.dead,.dead,.dead,.dead,.dead,.dead,.dead,(oE 8 [int ov.facts,row 1 intI ov.init,row 1 intI ov.goal,row 3 d7 ov.operators,row 1 b9 a47,.own 17 0 c10.length,.own 24 0 c18.length,int c17]),.dead,.dead,.dead,.dead,(oV 1 intI c10),.dead,.dead,.dead,.dead,.dead,.dead,(oV 1 intI c18)]⟩) ?_ ?_
         ·refine AWP.gk 5 Z (.J Z hx19 (fun hc20 hx19=> ?_) (fun hc20 hx19=> ?_))
          ·refine AWP.gs 5 Z (S.neg Z Z (.ge 3 Z (.gs 4 Z (S.lenO Z Z Z (fun hl145=>.ge 1 Z (.j ?_))))))
           obtain⟨c21,ho3,hx19⟩:=bind_some hx19
           refine AWP.forH ho3 (fun t22 c21=>⟨[(1,(cP 0 0 0)),(3,(cP 1 0 0)),(5,(cP 2 0 0)),(7,(cP 4 0 0)),(10,(cP 12 0 0)),(145,(cI (a121.1.length:Int))),(146,(cI t22))],[(oE 4 (tO ov)),(oE 2 [int 0,int 0]),(oE 2 [int 0,int 0]),.dead,(oE 2 [int a24.2.code,int a24.2.index]),.dead,.dead,.dead,.dead,.dead,.dead,.dead,(oE 8 [int ov.facts,row 1 intI ov.init,row 1 intI ov.goal,row 3 d7 ov.operators,row 1 b9 a47,.own 17 0 c10.length,.own 24 0 c21.length,int (w64 (0 - a121.2))]),.dead,.dead,.dead,.dead,(oV 1 intI c10),.dead,.dead,.dead,.dead,.dead,.dead,(oV 1 intI c21)]⟩) (fun _ _=>Z) ?_ ?_ ?_
           ·try dsimp only
            exact Sub.cut ⟨Z,Z,Z,Z,Z,Z,Z,Y⟩ Z ⟨.one Z,.one Z,.one Z,.dead,.one Z,.dead,.dead,.dead,.dead,.dead,.dead,.dead,.one Z,.dead,.dead,.dead,.dead,.vec,.dead,.dead,.dead,.dead,.dead,.dead,.vec,Y⟩ Z
           ·intro t22 c21 o hlot22 hltt22 h
            unfold ar5 at h
            try dsimp only at h ⊢
            refine AWP.e (.j (.gk 2 Z ?_))
            obtain⟨a159,ha159,a162,ha162,h⟩:=b2 h
            refine AWP.drawEI [14] mixed Z Z Z (b8.D 10 Z Z ?_)
            refine b8.consN Z Z (fun E=>S.idxO ha159 Z Z Z Z Z .N) Z (.consN Z Z (fun E=>S.loadO ha159 Z Z Z Z Z .N) Z (.consN Z Z (fun E=>S.neg Z Z .N) Z (.consN Z Z (fun E=>S.idxO ha162 Z Z Z Z Z .N) Z ?_)))
            apply b8.consE (v:=.undef);exact Z;exact Z;intro E
            refine S.storeO1 (f:=intI) (a':=w64 (0 - a159)) (q7 ha162) (fun _=>⟨_,Z⟩) Z Z Z Z Z ?_
            exact AOps.nil ⟨Z,Z⟩
            exact Z
            exact Z
            refine b8.done Z ?_ ?_
            ·refine d8.D 10 Z Z ?_
             refine d8.cons Z Z (.go Z Z (fun E=>S.idxO ha159 Z Z Z Z Z .N) (.skip Z .nil)) (.cons Z Z (.go Z Z (fun E=>S.loadO ha159 Z Z Z Z Z .N) (.skip Z .nil)) (.cons Z Z (.go Z Z (fun E=>S.neg Z Z .N) (.skip Z .nil)) (.cons Z Z (.go Z Z (fun E=>S.idxO ha162 Z Z Z Z Z .N) (.skip Z .nil)) ?_)))
             refine d8.D 1 Z Z (d8.nil)
            dsimp only[h9]
            refine d6 (b5 (.O (.add Z Z Z (by omega) (.z Z Z (.nil ?_)))))
            obtain rfl:=oi h
            refine b5 ?_
            exact Sub.cut ⟨Z,Z,Z,Z,Z,Z,Z,Y⟩ Z ⟨.one Z,.one Z,.one Z,.dead,.one Z,.dead,.dead,.dead,.dead,.dead,.dead,.dead,(.eq Z (by first|rfl|(simp only[lS];done))),.dead,.dead,.dead,.dead,.vec,.dead,.dead,.dead,.dead,.dead,.dead,.vec,Y⟩ Z
           ·intro iz
            try dsimp only
            refine f9 ?_
            obtain⟨ej0,ej1⟩:=o2 hx19
            subst ej0 ej1
            refine b5 (Sub.en Z)
          ·refine AWP.skip ?_
           obtain⟨ej0,ej1⟩:=o2 hx19
           subst ej0 ej1
           refine b5 (Sub.cut ⟨Z,Z,Z,Z,Z,Y⟩ Z ⟨.one Z,.one Z,.one Z,.dead,.one Z,.dead,.dead,.dead,.dead,.dead,.dead,.dead,.one Z,.dead,.dead,.dead,.dead,.vec,.dead,.dead,.dead,.dead,.dead,.dead,.vec,Y⟩ Z)
         ·try dsimp only at h
          obtain⟨a165,ha165,h⟩:=bind_some h
          refine AWP.G 1 Z (.callF (r2:=(cB a165.2)) (σ'':=[(oE 4 (tO ov)),(oE 2 [int 0,int 0]),(oE 2 [int 0,int 0]),.dead,(oE 2 [int a24.2.code,int a24.2.index]),.dead,.dead,.dead,.dead,.dead,.dead,.dead,(oE 8 [int ov.facts,row 1 intI ov.init,row 1 intI ov.goal,row 3 d7 ov.operators,row 1 b9 a47,.own 25 0 a165.1.length,.own 24 0 c18.length,int c17]),.dead,.dead,.dead,.dead,(oV 1 intI c10),.dead,.dead,.dead,.dead,.dead,.dead,(oV 1 intI c18),(oV 1 intI a165.1)]) Z Z Z (FnOk.lend [12,17,24] (aj3 ha165) Z Z Z Z Z Z (by exact⟨(.one Z),.vec,.vec,Y⟩) Z (by exact⟨(.live Z (.one Z)),(.live Z .vec),(.live Z .vec),Y⟩) Z Z (by exact⟨(.old Z Z Z),(.old Z Z Z),(.old Z Z Z),.dead,(.old Z Z Z),.dead,.dead,.dead,.dead,.dead,.dead,.dead,(.new 0 Z Z (.one Z)),.dead,.dead,.dead,.dead,(.new 1 Z Z .vec),.dead,.dead,.dead,.dead,.dead,.dead,(.new 2 Z Z .vec),(.new 3 Z Z .vec),Y⟩)) (.u Z Z (.nil (d6 ?_))))
          obtain rfl:=oi h
          refine b5 ⟨_,Z,?_⟩
          exact(Sub.move (env':=[(1,(cP 0 0 0)),(3,(cP 1 0 0)),(5,(cP 2 0 0)),(7,(cP 4 0 0)),(10,(cP 12 0 0)),(17,(cB a165.2))]) (σ':=[(oE 4 (tO ov)),(oE 2 [int 0,int 0]),(oE 2 [int 0,int 0]),.dead,(oE 2 [int a24.2.code,int a24.2.index]),.dead,.dead,.dead,.dead,.dead,.dead,.dead,(oE 8 [int ov.facts,row 1 intI ov.init,row 1 intI ov.goal,row 3 d7 ov.operators,row 1 b9 a47,.own 17 0 a165.1.length,.own 24 0 c18.length,int c17]),.dead,.dead,.dead,.dead,(oV 1 intI a165.1),.dead,.dead,.dead,.dead,.dead,.dead,(oV 1 intI c18)]) 17 25 Z Z Z ⟨Z,Z,Z,Z,Z,Z,Y⟩ Z ⟨⟨Z,Z⟩,⟨Z,Z⟩,⟨Z,Z⟩,Y,⟨Z,Z⟩,Y,Y,Y,Y,Y,Y,Y,⟨Z,Z⟩,Y,Y,Y,Y,⟨Blk.im_ok _ _ _,i7 Z⟩,Y,Y,Y,Y,Y,Y,⟨Blk.im_ok _ _ _,i7 Z⟩,Y⟩).trans ((Sub.move (env':=[(1,(cP 0 0 0)),(3,(cP 1 0 0)),(5,(cP 2 0 0)),(7,(cP 4 0 0)),(10,(cP 12 0 0)),(17,(cB a165.2))]) (σ':=[(oE 4 (tO ov)),(oE 2 [int 0,int 0]),(oE 2 [int 0,int 0]),.dead,(oE 2 [int a24.2.code,int a24.2.index]),.dead,.dead,.dead,.dead,.dead,.dead,.dead,(oE 8 [int ov.facts,row 1 intI ov.init,row 1 intI ov.goal,row 3 d7 ov.operators,row 1 b9 a47,.own 17 0 a165.1.length,.own 18 0 c18.length,int c17]),.dead,.dead,.dead,.dead,(oV 1 intI a165.1),(oV 1 intI c18),.dead,.dead,.dead,.dead,.dead]) 18 24 Z Z Z ⟨Z,Z,Z,Z,Z,Z,Y⟩ Z ⟨⟨Z,Z⟩,⟨Z,Z⟩,⟨Z,Z⟩,Y,⟨Z,Z⟩,Y,Y,Y,Y,Y,Y,Y,⟨Z,Z⟩,Y,Y,Y,Y,⟨Blk.im_ok _ _ _,i7 Z⟩,⟨Blk.im_ok _ _ _,i7 Z⟩,Y,Y,Y,Y,Y,Y⟩).trans (Sub.cut ⟨Z,Z,Z,Z,Z,Z,Y⟩ Z ⟨.one Z,.one Z,.one Z,.dead,.one Z,.dead,.dead,.dead,.dead,.dead,.dead,.dead,.one Z,.dead,.dead,.dead,.dead,.vec,.vec,Y⟩ Z))
        ·refine AWP.exit (i5 ?_)
         obtain rfl:=oi h
         refine i5 ⟨_,Z,Z,?_⟩
         exact Sub.en Z
       ·intro e s hq
        obtain⟨rfl,hs⟩:=hq
        refine⟨_,hs,?_⟩
        refine f9 (b5 (.e ?_))
        obtain⟨a177,ha177,a178,ha178,a184,ha184,h⟩:=b3 h
        refine AWP.drawEI [21,22,23] mixed Z Z Z (b8.D 10 Z Z ?_)
        refine b8.consN Z Z (fun E=>.q Z Z Z Z (p9 ha177) Z .N) Z (.consN Z Z (fun E=>S.idxO ha178 Z Z Z Z Z .N) Z (.consN Z Z (fun E=>S.loadO ha178 Z Z Z Z Z .N) Z ?_))
        refine b8.D 4 Z Z ?_
        refine b8.consN Z Z (fun E=>.q Z Z Z Z (S0 ha184) Z .N) Z ?_
        refine b8.D 3 Z Z ?_
        apply b8.consE;exact Z;exact Z;intro E
        refine W.alloc Z Z Z Z .N
        exact Z
        exact Z
        apply b8.consE (v:=.undef);exact Z;exact Z;intro E
        refine W.storeAgg Z Z Z Z Z Z Z .N
        exact Z
        exact Z
        apply b8.consE (v:=.undef);exact Z;exact Z;intro E
        refine W.storeAgg Z Z Z Z Z Z Z .N
        exact Z
        exact Z
        refine b8.done Z ?_ ?_
        ·refine d8.D 10 Z Z ?_
         refine d8.cons Z Z (.go Z Z (fun E=>.q Z Z Z Z (p9 ha177) Z .N) (.go Z Z (fun E=>.q Z Z Z Z (p9 ha177) Z .N) (.skip Z (.skip Z .nil)))) (.cons Z Z (.go Z Z (fun E=>S.idxO ha178 Z Z Z Z Z .N) (.go Z Z (fun E=>S.idxO ha178 Z Z Z Z Z .N) (.skip Z (.skip Z .nil)))) (.cons Z Z (.go Z Z (fun E=>S.loadO ha178 Z Z Z Z Z .N) (.go Z Z (fun E=>S.loadO ha178 Z Z Z Z Z .N) (.skip Z (.skip Z .nil)))) ?_))
         refine d8.D 4 Z Z ?_
         refine d8.cons Z Z (.go Z Z (fun E=>.q Z Z Z Z (S0 ha184) Z .N) (.go Z Z (fun E=>.q Z Z Z Z (S0 ha184) Z .N) (.skip Z (.skip Z .nil)))) ?_
         refine d8.D 6 Z Z (d8.nil)
        dsimp only[h9]
        refine b5 (.e (.gs 2 Z (.neqP Z Z Z Z Z Z Z (.ne (.E Z h (fun hc23 h=> ?_) (fun hc23 h=> ?_))))))
        ·refine AWP.e (.drawEI [3,5] mixed Z Z Z (b8.D 3 Z Z ?_))
         apply b8.consE (v:=.undef);exact Z;exact Z;intro E
         refine W.storeAgg Z Z Z Z Z Z Z .N
         exact Z
         exact Z
         refine b8.D 1 Z Z ?_
         apply b8.consE (v:=.undef);exact Z;exact Z;intro E
         refine W.storeAgg Z Z Z Z Z Z Z .N
         exact Z
         exact Z
         refine b8.done Z ?_ ?_
         ·refine d8.D 6 Z Z (d8.nil)
         dsimp only[h9]
         refine b5 (.nilrow 2 2 Z (.ret (d9 ?_)))
         obtain rfl:=oi h
         exact Done.ret Z Z
        ·refine AWP.skip (b5 (.e ?_))
         obtain⟨a196,ha196,h⟩:=bind_some h
         refine AWP.G 2 Z (.makeFuncB Z Z (.callF (r2:=.tup [.c (row 2 f8 a196.1),(cB a196.2)]) (σ'':=[(oE 4 (tO ov)),(oE 2 [int 0,int 0]),(oE 2 [int 0,int 0]),.dead,(oE 2 [int a184.2.code,int a184.2.index]),.dead,.dead,.dead,.dead,.dead,.dead,.dead,(oE 8 [int ov.facts,row 1 intI ov.init,row 1 intI ov.goal,row 3 d7 ov.operators,row 1 b9 a47,.own 17 0 c14.length,.own 18 0 c15.length,int c13]),.dead,.dead,.dead,.dead,(oV 1 intI c14),(oV 1 intI c15),(oE 2 [int a184.1.num,int a184.1.den])]) Z Z Z (FnOk.lend [12,17,18] (ay2 ha196) Z Z Z Z Z Z (by exact⟨(.one Z),.vec,.vec,Y⟩) Z (by exact⟨(.live Z (.one Z)),(.live Z .vec),(.live Z .vec),Y⟩) Z Z (by exact⟨(.old Z Z Z),(.old Z Z Z),(.old Z Z Z),.dead,(.old Z Z Z),.dead,.dead,.dead,.dead,.dead,.dead,.dead,(.new 0 Z Z (.one Z)),.dead,.dead,.dead,.dead,(.new 1 Z Z .vec),(.new 2 Z Z .vec),(.old Z Z Z),Y⟩)) (.G 5 Z (.nil (b5 (.e (.drawEI [4,6] mixed Z Z Z (b8.D 4 Z Z ?_))))))))
         apply b8.consE (v:=.undef);exact Z;exact Z;intro E
         refine W.storeAgg Z Z Z Z Z Z Z .N
         exact Z
         exact Z
         refine b8.D 1 Z Z ?_
         apply b8.consE (v:=.undef);exact Z;exact Z;intro E
         refine W.storeAgg Z Z Z Z Z Z Z .N
         exact Z
         exact Z
         refine b8.done Z ?_ ?_
         ·refine d8.D 7 Z Z (d8.nil)
         dsimp only[h9]
         refine b5 (.ret ?_)
         obtain rfl:=oi h
         exact Done.ret Z Z
theorem P1{nv:Int}{low:Int}{high:Int}{r:Bool}(h:U2 nv low high=some r):e8 prog 30 [(cI nv),(cI low),(cI high)] ((cB r)):=by
 unfold e8
 refine FnOk.enter (rs:=[.t 6]) func30 Z ntmps30 results30 Z ⟨Y,Y⟩ (by kernel_rfl) Z ?_
 unfold U2 at h
 refine AWP.gk 1 Z (.seqJ (⟨[(6,(cB ((decide (low≤nv)) && (decide (nv≤high)))))],[]⟩) ?_ ?_)
 ·rcases bft (decide (low≤nv)) with hb1|hb1
  ·refine AWP.G 4 Z (.K Z Z hb1 (.G 5 Z (.nil (b5 ?_))))
   simp only[S4 hb1,or_t hb1,Bool.false_or,Bool.true_or,Bool.false_and,Bool.true_and]
   exact Sub.en Z
  ·refine AWP.G 4 Z (.K Z Z hb1 (.G 5 Z (.nil (b5 ?_))))
   simp only[V1 hb1,or_f hb1,Bool.false_or,Bool.true_or,Bool.false_and,Bool.true_and]
   exact Sub.en Z
 ·refine AWP.ret ?_
  obtain rfl:=oi h
  exact Done.ret Z Z
theorem B1{code:Int}{index:Int}{r:j8}(h:H1 code index=some r):e8 prog 13 [(cI code),(cI index)] (.agg [int r.code,int r.index]):=by
 unfold e8
 refine FnOk.enter (rs:=[.cell 4 30 2]) func13 Z ntmps13 results13 Z ⟨rv _ Z,Y⟩ (by kernel_rfl) Z ?_
 unfold H1 at h
 refine AWP.gk 1 Z (.gk 4 Z (.ret ?_))
 obtain rfl:=oi h
 exact Done.ret Z Z
theorem z8{l:Li}{nv:Int}{r:Bool}(h:H8 l nv=some r):e8 prog 51 [(cR l),(cI nv)] ((cB r)):=by
 unfold e8
 refine FnOk.enter (rs:=[.t 4]) func51 Z ntmps51 results51 Z ⟨Y,Y⟩ (by kernel_rfl) Z ?_
 unfold H8 at h
 refine AWP.gk 1 Z (.e (.gk 1 Z (.j ?_)))
 obtain⟨oo,ho1,h⟩:=bind_some h
 refine AWP.rngL ho1 (fun iv3 _=>⟨[(0,(cR l)),(1,(cI nv)),(5,(cI iv3))],[]⟩) (fun x e st=>e=.ret∧Done [.t 4] (fun t _=>t=(cB x)) .ret st) (fun _ _ _ k=>.G 2 Z (S.len Z Z fun hl=>.gn 1 Z (k hl))) (fun _ _=>Z) ?_ ?_ ?_ ?_
 ·try dsimp only
  exact Sub.en Z
 ·intro iv3 s o hloiv3 hltiv3 h hl8
  unfold ac4 at h
  try dsimp only at h ⊢
  refine AWP.e (.j ?_)
  obtain⟨t4,hx5,h⟩:=bind_some h
  refine AWP.seqJ (⟨[(0,(cR l)),(1,(cI nv)),(5,(cI iv3)),(35,(cB t4))],[]⟩) ?_ ?_
  ·obtain⟨a14,ha14,a18,ha18,hx5⟩:=b2 hx5
   rcases bft (!a18) with hb6|hb6
   ·replace hx5:=B2 hb6 hx5
    refine AWP.drawI mixed Z (b7.D 2 Z ?_)
    refine b7.consF Z (fun E=>S.idx ha14 Z Z Z Z .N) Z ?_
    refine b7.D 3 Z ?_
    refine b7.consF Z (fun E=>.q Z Z Z Z (P1 ha18) Z .N) Z ?_
    refine b7.D 2 Z (b7.K Z hb6 Z (b7.D 15 Z (b7.done ?_)))
    dsimp only[h9]
    obtain rfl:=oi hx5
    refine b5 (Sub.en Z)
   ·replace hx5:=B3 hb6 hx5
    rcases bft (decide (0<iv3)) with hb7|hb7
    ·replace hx5:=F8 hb7 hx5
     obtain⟨a26,ha26,a31,ha31,hx5⟩:=b2 hx5
     refine AWP.drawI mixed Z (b7.D 2 Z ?_)
     refine b7.consF Z (fun E=>S.idx ha14 Z Z Z Z .N) Z ?_
     refine b7.D 3 Z ?_
     refine b7.consF Z (fun E=>.q Z Z Z Z (P1 ha18) Z .N) Z ?_
     refine b7.D 2 Z (b7.K Z hb6 Z (b7.D 3 Z (b7.K Z hb7 Z (b7.D 2 Z ?_))))
     refine b7.consF Z (fun E=>.F Z Z Z Z (S.idx ha26 Z Z Z Z .N)) Z ?_
     refine b7.D 3 Z ?_
     refine b7.consF Z (fun E=>.F Z Z Z Z (.sub' Z Z Z (by omega) .N)) Z (.consF Z (fun E=>.F Z Z Z Z (S.idx ha31 Z Z Z Z .N)) Z ?_)
     refine b7.D 4 Z (b7.done ?_)
     dsimp only[h9]
     obtain rfl:=oi hx5
     refine b5 (Sub.en Z)
    ·replace hx5:=F1 hb7 hx5
     refine AWP.drawI mixed Z (b7.D 2 Z ?_)
     refine b7.consF Z (fun E=>S.idx ha14 Z Z Z Z .N) Z ?_
     refine b7.D 3 Z ?_
     refine b7.consF Z (fun E=>.q Z Z Z Z (P1 ha18) Z .N) Z ?_
     refine b7.D 2 Z (b7.K Z hb6 Z (b7.D 3 Z (b7.K Z hb7 Z (b7.D 12 Z (b7.done ?_)))))
     dsimp only[h9]
     obtain rfl:=oi hx5
     refine b5 (Sub.en Z)
  ·refine AWP.E Z h (fun hc8 h=> ?_) (fun hc8 h=> ?_)
   ·refine AWP.gk 1 Z (.ret (i4 (d9 ?_)))
    obtain rfl:=oi h
    refine d9 ⟨_,Z,Z,?_⟩
    exact Done.ret Z Z
   ·refine AWP.skip (d6 (b5 (.G 1 Z (.add Z Z Z (by omega) (.u Z Z (.nil ?_))))))
    obtain rfl:=oi h
    refine b5 ⟨_,Z,?_⟩
    exact Sub.en Z
 ·intro iz _ he
  subst he
  try dsimp only at h ⊢
  refine f9 (b5 (.gk 1 Z (.ret ?_)))
  obtain rfl:=oi h
  exact Done.ret Z Z
 ·intro x e st he hq
  subst he
  try dsimp only at h hq
  obtain⟨rfl,hs⟩:=hq
  refine⟨_,Sub.refl _ _,?_⟩
  refine i4 (d9 ?_)
  obtain rfl:=oi h
  exact hs
theorem K3{l:Li}{nv:Int}{r:Bool}(h:S3 l nv=some r):e8 prog 56 [(cR l),(cI nv)] ((cB r)):=by
 unfold e8
 refine FnOk.enter (rs:=[.t 4]) func56 Z ntmps56 results56 Z ⟨Y,Y⟩ (by kernel_rfl) Z ?_
 unfold S3 at h
 refine AWP.gk 1 Z (.e (.gk 1 Z (.j ?_)))
 obtain⟨oo,ho1,h⟩:=bind_some h
 refine AWP.rngL ho1 (fun iv3 _=>⟨[(0,(cR l)),(1,(cI nv)),(5,(cI iv3))],[]⟩) (fun x e st=>e=.ret∧Done [.t 4] (fun t _=>t=(cB x)) .ret st) (fun _ _ _ k=>.G 2 Z (S.len Z Z fun hl=>.gn 1 Z (k hl))) (fun _ _=>Z) ?_ ?_ ?_ ?_
 ·try dsimp only
  exact Sub.en Z
 ·intro iv3 s o hloiv3 hltiv3 h hl8
  unfold ar2 at h
  try dsimp only at h ⊢
  refine AWP.e (.j (.e ?_))
  obtain⟨a14,ha14,h⟩:=bind_some h
  refine AWP.G 2 Z (S.idx ha14 Z Z Z Z (.G 3 Z (.nil (b5 (.J Z h (fun hc4 h=> ?_) (fun hc4 h=> ?_))))))
  ·refine AWP.gk 1 Z (.ret (i4 (d9 ?_)))
   obtain rfl:=oi h
   refine d9 ⟨_,Z,Z,?_⟩
   exact Done.ret Z Z
  ·refine AWP.skip (d6 (b5 (.G 1 Z (.add Z Z Z (by omega) (.u Z Z (.nil ?_))))))
   obtain rfl:=oi h
   refine b5 ⟨_,Z,?_⟩
   exact Sub.en Z
 ·intro iz _ he
  subst he
  try dsimp only at h ⊢
  refine f9 (b5 (.gk 1 Z (.ret ?_)))
  obtain rfl:=oi h
  exact Done.ret Z Z
 ·intro x e st he hq
  subst he
  try dsimp only at h hq
  obtain⟨rfl,hs⟩:=hq
  refine⟨_,Sub.refl _ _,?_⟩
  refine i4 (d9 ?_)
  obtain rfl:=oi h
  exact hs
theorem az1{av:Li}{bv:Li}{r:Bool}(h:T1 av bv=some r):e8 prog 52 [(cR av),(cR bv)] ((cB r)):=by
 unfold e8
 refine FnOk.enter (rs:=[.t 4]) func52 Z ntmps52 results52 Z ⟨Y,Y⟩ (by kernel_rfl) Z ?_
 unfold T1 at h
 refine AWP.gk 1 Z (.e (.gk 1 Z (.j ?_)))
 obtain⟨oo,ho1,h⟩:=bind_some h
 refine AWP.rngL ho1 (fun iv3 _=>⟨[(0,(cR av)),(1,(cR bv)),(5,(cI iv3))],[]⟩) (fun x e st=>e=.ret∧Done [.t 4] (fun t _=>t=(cB x)) .ret st) (fun _ _ _ k=>.G 2 Z (S.len Z Z fun hl=>.gn 1 Z (k hl))) (fun _ _=>Z) ?_ ?_ ?_ ?_
 ·try dsimp only
  exact Sub.en Z
 ·intro iv3 s o hloiv3 hltiv3 h hl8
  unfold ad6 at h
  try dsimp only at h ⊢
  refine AWP.e (.j (.e ?_))
  obtain⟨a15,ha15,a17,ha17,h⟩:=b2 h
  refine AWP.G 3 Z (S.idx ha15 Z Z Z Z (.G 1 Z (.q Z Z Z Z (K3 ha17) Z (.nil (b5 (.E Z h (fun hc4 h=> ?_) (fun hc4 h=> ?_)))))))
  ·refine AWP.gk 1 Z (.ret (i4 (d9 ?_)))
   obtain rfl:=oi h
   refine d9 ⟨_,Z,Z,?_⟩
   exact Done.ret Z Z
  ·refine AWP.skip (d6 (b5 (.G 1 Z (.add Z Z Z (by omega) (.u Z Z (.nil ?_))))))
   obtain rfl:=oi h
   refine b5 ⟨_,Z,?_⟩
   exact Sub.en Z
 ·intro iz _ he
  subst he
  try dsimp only at h ⊢
  refine f9 (b5 (.gk 1 Z (.ret ?_)))
  obtain rfl:=oi h
  exact Done.ret Z Z
 ·intro x e st he hq
  subst he
  try dsimp only at h hq
  obtain⟨rfl,hs⟩:=hq
  refine⟨_,Sub.refl _ _,?_⟩
  refine i4 (d9 ?_)
  obtain rfl:=oi h
  exact hs
theorem ax9{ov:d5}{r:j8}(h:Q8 ov=some r):e8 prog 10 [.agg (tO ov)] (.agg [int r.code,int r.index]):=by
 unfold e8
 refine FnOk.enter (rs:=[.cell 2 30 2]) func10 Z ntmps10 results10 Z ⟨rv _ Z,Y⟩ (by kernel_rfl) Z ?_
 unfold Q8 at h
 refine AWP.gk 2 Z (.e (.e ?_))
 obtain⟨a10,ha10,h⟩:=bind_some h
 refine AWP.G 2 Z (.q Z Z Z Z (P1 ha10) Z (.not Z Z (.nil (b5 (.E Z h (fun hc2 h=> ?_) (fun hc2 h=> ?_))))))
 ·refine AWP.e ?_
  obtain⟨a12,ha12,h⟩:=bind_some h
  refine AWP.O (.q Z Z Z Z (B1 ha12) Z (.G 1 Z (.nil (b5 (.ret (d9 ?_))))))
  obtain rfl:=oi h
  exact Done.ret Z Z
 ·refine AWP.skip (b5 (.e (.e ?_)))
  obtain⟨a17,ha17,h⟩:=bind_some h
  refine AWP.G 4 Z (.q Z Z Z Z (z8 ha17) Z (.not Z Z (.nil (b5 (.E Z h (fun hc3 h=> ?_) (fun hc3 h=> ?_))))))
  ·refine AWP.e ?_
   obtain⟨a19,ha19,h⟩:=bind_some h
   refine AWP.O (.q Z Z Z Z (B1 ha19) Z (.G 1 Z (.nil (b5 (.ret (d9 ?_))))))
   obtain rfl:=oi h
   exact Done.ret Z Z
  ·refine AWP.skip (b5 (.e (.e ?_)))
   obtain⟨a24,ha24,h⟩:=bind_some h
   refine AWP.G 4 Z (.q Z Z Z Z (z8 ha24) Z (.not Z Z (.nil (b5 (.E Z h (fun hc4 h=> ?_) (fun hc4 h=> ?_))))))
   ·refine AWP.e ?_
    obtain⟨a26,ha26,h⟩:=bind_some h
    refine AWP.O (.q Z Z Z Z (B1 ha26) Z (.G 1 Z (.nil (b5 (.ret (d9 ?_))))))
    obtain rfl:=oi h
    exact Done.ret Z Z
   ·refine AWP.skip (b5 (.e (.gs 2 Z (S.len Z Z (fun hl29=>.ge 1 Z (.J Z h (fun hc5 h=> ?_) (fun hc5 h=> ?_)))))))
    ·refine AWP.e ?_
     obtain⟨a31,ha31,h⟩:=bind_some h
     refine AWP.O (.q Z Z Z Z (B1 ha31) Z (.G 1 Z (.nil (b5 (.ret (d9 ?_))))))
     obtain rfl:=oi h
     exact Done.ret Z Z
    ·refine AWP.skip (b5 (.e (.gk 1 Z (.j ?_))))
     obtain⟨oo,ho1,h⟩:=bind_some h
     refine AWP.rngL ho1 (fun iv6 _=>⟨[(1,(cP 0 0 0)),(2,(cP 1 0 0)),(3,(cI iv6))],[(oE 4 (tO ov)),(oE 2 [int 0,int 0])]⟩) (fun x e st=>e=.ret∧Done [.cell 2 30 2] (fun t _=>t=.agg [int x.code,int x.index]) .ret st) (fun _ _ _ k=>.G 3 Z (S.len Z Z fun hl=>.gn 1 Z (k hl))) (fun _ _=>Z) ?_ ?_ ?_ ?_
     ·try dsimp only
      exact Sub.en Z
     ·intro iv6 s o hloiv6 hltiv6 h hl35
      unfold G1 at h
      try dsimp only at h ⊢
      refine AWP.e (.j (.e ?_))
      obtain⟨a42,ha42,h⟩:=bind_some h
      refine AWP.G 3 Z (S.idx ha42 Z Z Z Z (.G 3 Z (.nil (b5 (.gk 1 Z ?_)))))
      obtain⟨ev7,hx8,h⟩:=bind_some h
      refine AWP.seqJ (⟨[(1,(cP 0 0 0)),(2,(cP 1 0 0)),(3,(cI iv6)),(4,(cP 2 0 0)),(5,(cI ev7))],[(oE 4 (tO ov)),(oE 2 [int 0,int 0]),(oE 3 [row 1 intI a42.pre,row 3 p8 a42.outcomes,int a42.cost])]⟩) ?_ ?_
      ·refine AWP.e ?_
       obtain⟨a48,ha48,hx8⟩:=bind_some hx8
       refine AWP.G 4 Z (.q Z Z Z Z (z8 ha48) Z (.not Z Z (.nil (b5 (.E Z hx8 (fun hc9 hx8=> ?_) (fun hc9 hx8=> ?_))))))
       ·refine AWP.G 1 Z (.nil ?_)
        obtain rfl:=oi hx8
        refine b5 (Sub.en Z)
       ·refine AWP.e ?_
        obtain⟨a52,ha52,hx8⟩:=bind_some hx8
        refine AWP.G 2 Z (.q Z Z Z Z (P1 ha52) Z (.not Z Z (.nil (b5 (.E Z hx8 (fun hc10 hx8=> ?_) (fun hc10 hx8=> ?_))))))
        ·refine AWP.G 1 Z (.nil ?_)
         obtain rfl:=oi hx8
         refine b5 (Sub.en Z)
        ·refine AWP.e ?_
         obtain⟨a57,ha57,hx8⟩:=bind_some hx8
         refine AWP.G 2 Z (S.len Z Z (fun hl56=>.q Z Z Z Z (P1 ha57) Z (.not Z Z (.nil (b5 (.E Z hx8 (fun hc11 hx8=> ?_) (fun hc11 hx8=> ?_)))))))
         ·refine AWP.G 1 Z (.nil ?_)
          obtain rfl:=oi hx8
          refine b5 (Sub.en Z)
         ·refine AWP.skip ?_
          obtain rfl:=oi hx8
          refine b5 (Sub.en Z)
      ·refine AWP.e (.gk 1 Z (.j ?_))
       obtain⟨ev14,ho2,h⟩:=bind_some h
       refine AWP.loopS ho2 (fun(ev12,kv13)=>⟨[(1,(cP 0 0 0)),(2,(cP 1 0 0)),(3,(cI iv6)),(4,(cP 2 0 0)),(5,(cI ev12)),(6,(cI kv13))],[(oE 4 (tO ov)),(oE 2 [int 0,int 0]),(oE 3 [row 1 intI a42.pre,row 3 p8 a42.outcomes,int a42.cost])]⟩) (fun ev14 e st=>e=.exit 2∧Sub [] st ⟨[(1,(cP 0 0 0)),(2,(cP 1 0 0)),(3,(cI iv6)),(5,(cI ev14))],[(oE 4 (tO ov)),(oE 2 [int 0,int 0])]⟩) ?_ ?_ ?_
       ·try dsimp only
        exact Sub.en Z
       ·intro s o h
        obtain⟨ev12,kv13⟩:=s
        unfold A6 at h
        try dsimp only at h ⊢
        refine AWP.e (.seqJ (⟨[(1,(cP 0 0 0)),(2,(cP 1 0 0)),(3,(cI iv6)),(4,(cP 2 0 0)),(5,(cI ev12)),(6,(cI kv13)),(67,(cB ((decide (kv13<(a42.outcomes.length:Int))) && (decide (ev12=0)))))],[(oE 4 (tO ov)),(oE 2 [int 0,int 0]),(oE 3 [row 1 intI a42.pre,row 3 p8 a42.outcomes,int a42.cost])]⟩) ?_ ?_)
        ·rcases bft (decide (kv13<(a42.outcomes.length:Int))) with hb1|hb1
         ·refine AWP.G 3 Z (S.len Z Z (fun hl62=>.G 2 Z (.K Z Z hb1 (.G 3 Z (.nil (b5 ?_))))))
          simp only[S4 hb1,or_t hb1,Bool.false_or,Bool.true_or,Bool.false_and,Bool.true_and]
          exact Sub.en Z
         ·refine AWP.G 3 Z (S.len Z Z (fun hl62=>.G 2 Z (.K Z Z hb1 (.G 3 Z (.nil (b5 ?_))))))
          simp only[V1 hb1,or_f hb1,Bool.false_or,Bool.true_or,Bool.false_and,Bool.true_and]
          exact Sub.en Z
        ·refine AWP.E Z h (fun hc15 h=> ?_) (fun hc15 h=> ?_)
         ·refine AWP.skip (b5 ?_)
          obtain⟨ev16,hx17,h⟩:=bind_some h
          refine AWP.seqJ (⟨[(1,(cP 0 0 0)),(2,(cP 1 0 0)),(3,(cI iv6)),(4,(cP 2 0 0)),(5,(cI ev16)),(6,(cI kv13))],[(oE 4 (tO ov)),(oE 2 [int 0,int 0]),(oE 3 [row 1 intI a42.pre,row 3 p8 a42.outcomes,int a42.cost])]⟩) ?_ ?_
          ·refine AWP.j (.e ?_)
           obtain⟨a73,ha73,hx17⟩:=bind_some hx17
           refine AWP.G 3 Z (S.idx ha73 Z Z Z Z (.G 3 Z (.nil (b5 ?_))))
           obtain⟨t18,hx19,hx17⟩:=bind_some hx17
           refine AWP.seqJ (⟨[(1,(cP 0 0 0)),(2,(cP 1 0 0)),(3,(cI iv6)),(4,(cP 2 0 0)),(5,(cI ev12)),(6,(cI kv13)),(7,(cP 3 0 0)),(96,(cB t18))],[(oE 4 (tO ov)),(oE 2 [int 0,int 0]),(oE 3 [row 1 intI a42.pre,row 3 p8 a42.outcomes,int a42.cost]),(oE 3 [row 1 intI a73.add,row 1 intI a73.del,int a73.weight])]⟩) ?_ ?_
           ·obtain⟨a79,ha79,hx19⟩:=bind_some hx19
            rcases bft (!a79) with hb20|hb20
            ·replace hx19:=B2 hb20 hx19
             refine AWP.G 4 Z (.q Z Z Z Z (z8 ha79) Z (.G 2 Z (.K Z Z hb20 (.G 15 Z (.nil ?_)))))
             obtain rfl:=oi hx19
             refine b5 (Sub.en Z)
            ·replace hx19:=B3 hb20 hx19
             obtain⟨a86,ha86,hx19⟩:=bind_some hx19
             rcases bft (!a86) with hb21|hb21
             ·replace hx19:=B2 hb21 hx19
              refine AWP.G 4 Z (.q Z Z Z Z (z8 ha79) Z (.G 2 Z (.K Z Z hb20 (.G 4 Z (.F Z Z Z Z (.q Z Z Z Z (z8 ha86) Z (.G 3 Z (.K Z Z hb21 (.G 7 Z (.nil ?_))))))))))
              obtain rfl:=oi hx19
              refine b5 (Sub.en Z)
             ·replace hx19:=B3 hb21 hx19
              obtain⟨a94,ha94,hx19⟩:=bind_some hx19
              refine AWP.G 4 Z (.q Z Z Z Z (z8 ha79) Z (.G 2 Z (.K Z Z hb20 (.G 4 Z (.F Z Z Z Z (.q Z Z Z Z (z8 ha86) Z (.G 3 Z (.K Z Z hb21 (.G 4 Z (.F Z Z Z Z (.q Z Z Z Z (az1 ha94) Z (.G 2 Z (.nil ?_)))))))))))))
              obtain rfl:=oi hx19
              refine b5 (Sub.en Z)
           ·refine AWP.E Z hx17 (fun hc22 hx17=> ?_) (fun hc22 hx17=> ?_)
            ·refine AWP.G 1 Z (.nil (d6 ?_))
             obtain rfl:=oi hx17
             refine b5 (Sub.cut ⟨Z,Z,Z,Z,Z,Z,Y⟩ Z ⟨.one Z,.one Z,.one Z,Y⟩ Z)
            ·refine AWP.e ?_
             obtain⟨a99,ha99,hx17⟩:=bind_some hx17
             refine AWP.G 2 Z (.q Z Z Z Z (P1 ha99) Z (.not Z Z (.nil (b5 (.E Z hx17 (fun hc23 hx17=> ?_) (fun hc23 hx17=> ?_))))))
             ·refine AWP.G 1 Z (.nil (d6 ?_))
              obtain rfl:=oi hx17
              refine b5 (Sub.cut ⟨Z,Z,Z,Z,Z,Z,Y⟩ Z ⟨.one Z,.one Z,.one Z,Y⟩ Z)
             ·refine AWP.skip (d6 ?_)
              obtain rfl:=oi hx17
              refine b5 (Sub.cut ⟨Z,Z,Z,Z,Z,Z,Y⟩ Z ⟨.one Z,.one Z,.one Z,Y⟩ Z)
          ·refine AWP.G 3 Z (.nil ?_)
           obtain rfl:=oi h
           refine b5 ⟨_,Z,?_⟩
           exact Sub.en Z
         ·refine AWP.exit (i5 ?_)
          obtain rfl:=oi h
          refine i5 ⟨_,Z,Z,?_⟩
          exact Sub.cut ⟨Z,Z,Z,Z,Y⟩ Z ⟨.one Z,.one Z,Y⟩ Z
       ·intro e s hq
        obtain⟨rfl,hs⟩:=hq
        refine⟨_,hs,?_⟩
        refine f9 (b5 (.gk 2 Z (.iteN Z h (fun hc24 h=> ?_) (fun hc24 h=> ?_))))
        ·refine AWP.e ?_
         obtain⟨a105,ha105,h⟩:=bind_some h
         refine AWP.G 2 Z (.q Z Z Z Z (B1 ha105) Z (.G 1 Z (.nil (b5 (.ret (i4 (d9 ?_)))))))
         obtain rfl:=oi h
         refine d9 ⟨_,Z,Z,?_⟩
         exact Done.ret Z Z
        ·refine AWP.skip (d6 (b5 (.G 1 Z (.add Z Z Z (by omega) (.u Z Z (.nil ?_))))))
         obtain rfl:=oi h
         refine b5 ⟨_,Z,?_⟩
         exact Sub.en Z
     ·intro iz _ he
      subst he
      try dsimp only at h ⊢
      refine f9 (b5 (.gk 2 Z (.ret ?_)))
      obtain rfl:=oi h
      exact Done.ret Z Z
     ·intro x e st he hq
      subst he
      try dsimp only at h hq
      obtain⟨rfl,hs⟩:=hq
      refine⟨_,Sub.refl _ _,?_⟩
      refine i4 (d9 ?_)
      obtain rfl:=oi h
      exact hs
theorem ar9{part:Li}{l:Li}{r:Bool}(h:T9 part l=some r):e8 prog 73 [(cR part),(cR l)] ((cB r)):=by
 unfold e8
 refine FnOk.enter (rs:=[.t 4]) func73 Z ntmps73 results73 Z ⟨Y,Y⟩ (by kernel_rfl) Z ?_
 unfold T9 at h
 refine AWP.gk 1 Z (.e (.gk 1 Z (.j ?_)))
 obtain⟨oo,ho1,h⟩:=bind_some h
 refine AWP.rngL ho1 (fun iv3 _=>⟨[(0,(cR part)),(1,(cR l)),(5,(cI iv3))],[]⟩) (fun x e st=>e=.ret∧Done [.t 4] (fun t _=>t=(cB x)) .ret st) (fun _ _ _ k=>.G 2 Z (S.len Z Z fun hl=>.gn 1 Z (k hl))) (fun _ _=>Z) ?_ ?_ ?_ ?_
 ·try dsimp only
  exact Sub.en Z
 ·intro iv3 s o hloiv3 hltiv3 h hl8
  unfold ah1 at h
  try dsimp only at h ⊢
  refine AWP.e (.j (.e ?_))
  obtain⟨a15,ha15,a17,ha17,h⟩:=b2 h
  refine AWP.G 3 Z (S.idx ha15 Z Z Z Z (.G 1 Z (.q Z Z Z Z (K3 ha17) Z (.not Z Z (.nil (b5 (.E Z h (fun hc4 h=> ?_) (fun hc4 h=> ?_))))))))
  ·refine AWP.gk 1 Z (.ret (i4 (d9 ?_)))
   obtain rfl:=oi h
   refine d9 ⟨_,Z,Z,?_⟩
   exact Done.ret Z Z
  ·refine AWP.skip (d6 (b5 (.G 1 Z (.add Z Z Z (by omega) (.u Z Z (.nil ?_))))))
   obtain rfl:=oi h
   refine b5 ⟨_,Z,?_⟩
   exact Sub.en Z
 ·intro iz _ he
  subst he
  try dsimp only at h ⊢
  refine f9 (b5 (.gk 1 Z (.ret ?_)))
  obtain rfl:=oi h
  exact Done.ret Z Z
 ·intro x e st he hq
  subst he
  try dsimp only at h hq
  obtain⟨rfl,hs⟩:=hq
  refine⟨_,Sub.refl _ _,?_⟩
  refine i4 (d9 ?_)
  obtain rfl:=oi h
  exact hs
theorem ref8_Applies_ok{ov:d5}{sv:Li}{op:Int}{r:Bool}(h:X4 ov sv op=some r):e8 prog 54 [.agg (tO ov),(cR sv),(cI op)] ((cB r)):=by
 unfold e8
 refine FnOk.enter (rs:=[.t 6]) func54 Z ntmps54 results54 Z ⟨Y,Y⟩ (by kernel_rfl) Z ?_
 unfold X4 at h
 refine AWP.gk 2 Z (.e ?_)
 obtain⟨a10,ha10,a14,ha14,h⟩:=b2 h
 refine AWP.G 3 Z (S.idx ha10 Z Z Z Z (.G 3 Z (.q Z Z Z Z (ar9 ha14) Z (.u Z Z (.nil (b5 (.ret ?_)))))))
 obtain rfl:=oi h
 exact Done.ret Z Z
theorem ar7{ov:d5}{sv:Li}{xv:j6}{r:Li}(h:U1 ov sv xv=some r):n7 prog 98 [.agg (tO ov),(cR sv),.agg [row 1 intI xv.add,row 1 intI xv.del,int xv.weight]] 1 (List.map intI r):=by
 unfold n7
 refine FnOk.enter (rs:=[.t 6]) func98 Z ntmps98 results98 Z ⟨Y,Y⟩ (by kernel_rfl) Z ?_
 unfold U1 at h
 refine AWP.gk 3 Z (.gk 1 Z (.e (.gk 1 Z (.j (.virtV 1 intI 7 Z Z Z ?_)))))
 obtain⟨hnp5,h⟩:=ite_none h
 obtain⟨c4,ho1,h⟩:=bind_some h
 refine AWP.forL ho1 (fun p5 c4=>⟨[(1,(cR sv)),(3,(cP 0 0 0)),(5,(cP 1 0 0)),(7,.c (.own 2 0 c4.length)),(8,(cI p5))],[(oE 4 (tO ov)),(oE 3 [row 1 intI xv.add,row 1 intI xv.del,int xv.weight]),(oV 1 intI c4)]⟩) (fun _ _ _ k=>.gn 4 Z (k Y)) (fun _ _=>Z) ?_ ?_ ?_
 ·try dsimp only
  exact Sub.env ⟨Z,Z,Z,(o7 (by first|rfl|simp only[lS])),Z,Y⟩
 ·intro p5 c4 o hlop5 hltp5 h _
  unfold ai1 at h
  try dsimp only at h ⊢
  obtain⟨c6,hx7,h⟩:=bind_some h
  refine AWP.seqJ (⟨[(1,(cR sv)),(3,(cP 0 0 0)),(5,(cP 1 0 0)),(7,.c (.own 4 0 c6.length)),(8,(cI p5))],[(oE 4 (tO ov)),(oE 3 [row 1 intI xv.add,row 1 intI xv.del,int xv.weight]),.dead,.dead,(oV 1 intI c6)]⟩) ?_ ?_
  ·refine AWP.j ?_
   obtain⟨t8,hx9,hx7⟩:=bind_some hx7
   refine AWP.seqJ (⟨[(1,(cR sv)),(3,(cP 0 0 0)),(5,(cP 1 0 0)),(7,.c (.own 2 0 c4.length)),(8,(cI p5)),(30,(cB t8))],[(oE 4 (tO ov)),(oE 3 [row 1 intI xv.add,row 1 intI xv.del,int xv.weight]),(oV 1 intI c4)]⟩) ?_ ?_
   ·obtain⟨a18,ha18,hx9⟩:=bind_some hx9
    rcases bft (a18) with hb10|hb10
    ·replace hx9:=B2 hb10 hx9
     refine AWP.G 3 Z (.q Z Z Z Z (K3 ha18) Z (.z Z Z (.K Z Z hb10 (.G 11 Z (.nil ?_)))))
     obtain rfl:=oi hx9
     refine b5 (Sub.en Z)
    ·replace hx9:=B3 hb10 hx9
     obtain⟨a22,ha22,hx9⟩:=bind_some hx9
     rcases bft (a22) with hb11|hb11
     ·replace hx9:=B2 hb11 hx9
      obtain⟨a27,ha27,hx9⟩:=bind_some hx9
      refine AWP.G 3 Z (.q Z Z Z Z (K3 ha18) Z (.z Z Z (.K Z Z hb10 (.G 2 Z (.F Z Z Z Z (.q Z Z Z Z (K3 ha22) Z (.G 1 Z (.K Z Z hb11 (.G 3 Z (.F Z Z Z Z (.q Z Z Z Z (K3 ha27) Z (.G 3 Z (.nil ?_)))))))))))))
      obtain rfl:=oi hx9
      refine b5 (Sub.en Z)
     ·replace hx9:=B3 hb11 hx9
      refine AWP.G 3 Z (.q Z Z Z Z (K3 ha18) Z (.z Z Z (.K Z Z hb10 (.G 2 Z (.F Z Z Z Z (.q Z Z Z Z (K3 ha22) Z (.G 1 Z (.K Z Z hb11 (.G 7 Z (.nil ?_))))))))))
      obtain rfl:=oi hx9
      refine b5 (Sub.en Z)
   ·refine AWP.E Z hx7 (fun hc12 hx7=> ?_) (fun hc12 hx7=> ?_)
    ·obtain⟨a34,ha34,hx7⟩:=bind_some hx7
     refine AWP.G 2 Z (S.lit (f:=intI) (l:=[p5]) (ess:=[[int p5]]) Z Z Z Z Z Z Z ⟨⟨.inl Z,Y⟩,Y⟩ Z Z Z (S.append (f:=intI) ha34 Z Z Z Z Z Z (.own Z Z) Z Z Z Z (.u Z Z (.nil (d6 ?_)))))
     obtain rfl:=oi hx7
     refine b5 (Sub.cut ⟨Z,Z,Z,Z,Z,Y⟩ Z ⟨.one Z,.one Z,.dead,.dead,.vec,Y⟩ Z)
    ·refine AWP.skip (d6 ?_)
     obtain rfl:=oi hx7
     refine b5 ((Sub.move (env':=[(1,(cR sv)),(3,(cP 0 0 0)),(5,(cP 1 0 0)),(7,.c (.own 4 0 c4.length)),(8,(cI p5))]) (σ':=[(oE 4 (tO ov)),(oE 3 [row 1 intI xv.add,row 1 intI xv.del,int xv.weight]),.dead,.dead,(oV 1 intI c4)]) 4 2 Z Z Z ⟨Z,Z,Z,Z,Z,Y⟩ Z ⟨⟨Z,Z⟩,⟨Z,Z⟩,Y,Y,⟨Blk.im_ok _ _ _,i7 Z⟩,Y⟩).trans (Sub.en Z))
  ·refine AWP.G 1 Z (.add Z Z Z (by omega) (.u Z Z (.nil ?_)))
   obtain rfl:=oi h
   refine b5 ((Sub.move (env':=[(1,(cR sv)),(3,(cP 0 0 0)),(5,(cP 1 0 0)),(7,.c (.own 2 0 c6.length)),(8,(cI (p5+1)))]) (σ':=[(oE 4 (tO ov)),(oE 3 [row 1 intI xv.add,row 1 intI xv.del,int xv.weight]),(oV 1 intI c6),.dead]) 2 4 Z Z Z ⟨Z,Z,Z,Z,Z,Y⟩ Z ⟨⟨Z,Z⟩,⟨Z,Z⟩,⟨Blk.im_ok _ _ _,i7 Z⟩,Y,Y⟩).trans (Sub.cut ⟨Z,Z,Z,Z,Z,Y⟩ Z ⟨.one Z,.one Z,.vec,Y⟩ Z))
 ·intro iz
  try dsimp only
  refine f9 (b5 (.gk 2 Z (.ret ?_)))
  obtain rfl:=oi h
  exact Done.ret Z (Fresh.mk Z Z)
theorem as1{av:Li}{bv:Li}{r:Bool}(h:P6 av bv=some r):e8 prog 68 [(cR av),(cR bv)] ((cB r)):=by
 unfold e8
 refine FnOk.enter (rs:=[.t 4]) func68 Z ntmps68 results68 Z ⟨Y,Y⟩ (by kernel_rfl) Z ?_
 unfold P6 at h
 refine AWP.gk 1 Z (.e (.gk 1 Z (.j ?_)))
 obtain⟨oo,ho1,h⟩:=bind_some h
 refine AWP.loopS ho1 (fun iv3=>⟨[(0,(cR av)),(1,(cR bv)),(5,(cI iv3))],[]⟩) (fun o e st=>match o with| .inl _=>e=.exit 0∧Sub [] st ⟨[(0,(cR av)),(1,(cR bv))],[]⟩| .inr x=>e=.ret∧Done [.t 4] (fun t _=>t=(cB x)) .ret st) ?_ ?_ ?_
 ·try dsimp only
  exact Sub.en Z
 ·intro iv3 o h
  unfold aa0 at h
  try dsimp only at h ⊢
  refine AWP.e (.seqJ (⟨[(0,(cR av)),(1,(cR bv)),(5,(cI iv3)),(15,(cB ((decide (iv3<(av.length:Int))) && (decide (iv3<(bv.length:Int))))))],[]⟩) ?_ ?_)
  ·rcases bft (decide (iv3<(av.length:Int))) with hb1|hb1
   ·refine AWP.G 2 Z (S.len Z Z (fun hl8=>.G 2 Z (.K Z Z hb1 (.G 2 Z ?_))))
    refine AOps.F Z Z Z Z ?_;refine S.len Z Z (fun hl13=> ?_)
    refine AOps.G 2 Z (.nil (b5 ?_))
    simp only[S4 hb1,or_t hb1,Bool.false_or,Bool.true_or,Bool.false_and,Bool.true_and]
    exact Sub.en Z
   ·refine AWP.G 2 Z (S.len Z Z (fun hl8=>.G 2 Z (.K Z Z hb1 (.G 5 Z (.nil (b5 ?_))))))
    simp only[V1 hb1,or_f hb1,Bool.false_or,Bool.true_or,Bool.false_and,Bool.true_and]
    exact Sub.en Z
  ·refine AWP.E Z h (fun hc4 h=> ?_) (fun hc4 h=> ?_)
   ·refine AWP.skip (b5 (.e (.j (.e ?_))))
    obtain⟨a20,ha20,a24,ha24,h⟩:=b2 h
    refine AWP.drawI mixed Z (b7.D 2 Z ?_)
    refine b7.consF Z (fun E=>S.idx ha20 Z Z Z Z .N) Z ?_
    refine b7.D 3 Z ?_
    refine b7.consF Z (fun E=>S.idx ha24 Z Z Z Z .N) Z ?_
    refine b7.D 2 Z (b7.done ?_)
    dsimp only[h9]
    refine b5 (.iteN Z h (fun hc5 h=> ?_) (fun hc5 h=> ?_))
    ·refine AWP.e ?_
     obtain⟨a29,ha29,a33,ha33,h⟩:=b2 h
     refine AWP.drawI mixed Z (b7.D 2 Z ?_)
     refine b7.consF Z (fun E=>S.idx ha29 Z Z Z Z .N) Z ?_
     refine b7.D 3 Z ?_
     refine b7.consF Z (fun E=>S.idx ha33 Z Z Z Z .N) Z ?_
     refine b7.D 3 Z (b7.done ?_)
     dsimp only[h9]
     refine b5 (.ret (i4 (d9 ?_)))
     obtain rfl:=oi h
     refine d9 ⟨_,Z,Z,?_⟩
     exact Done.ret Z Z
    ·refine AWP.skip (d6 (b5 (.G 3 Z (.nil ?_))))
     obtain rfl:=oi h
     refine b5 ⟨_,Z,?_⟩
     exact Sub.en Z
   ·refine AWP.exit (i5 ?_)
    obtain rfl:=oi h
    refine i5 ⟨_,Z,Z,?_⟩
    exact Sub.en Z
 ·intro e s hq
  rcases oo with u|x
  ·try dsimp only at h hq
   obtain⟨rfl,hs⟩:=hq
   refine⟨_,hs,?_⟩
   refine f9 (b5 (.gs 1 Z (S.len Z Z (fun hl37=>.z Z Z (S.len Z Z (fun hl39=>.ge 2 Z (.ret ?_)))))))
   obtain rfl:=oi h
   exact Done.ret Z Z
  ·try dsimp only at h hq
   obtain⟨rfl,hs⟩:=hq
   refine⟨_,Sub.refl _ _,?_⟩
   refine i4 (d9 ?_)
   obtain rfl:=oi h
   exact hs
theorem af1{av:Li}{bv:Li}{r:Bool}(h:K5 av bv=some r):e8 prog 59 [(cR av),(cR bv)] ((cB r)):=by
 unfold e8
 refine FnOk.enter (rs:=[.t 4]) func59 Z ntmps59 results59 Z ⟨Y,Y⟩ (by kernel_rfl) Z ?_
 unfold K5 at h
 refine AWP.gk 1 Z (.e (.gs 1 Z (S.len Z Z (fun hl7=>.z Z Z (S.len Z Z (fun hl9=>.ge 1 Z (.iteN Z h (fun hc3 h=> ?_) (fun hc3 h=> ?_))))))))
 ·refine AWP.gk 1 Z (.ret (d9 ?_))
  obtain rfl:=oi h
  exact Done.ret Z Z
 ·refine AWP.skip (b5 (.e (.gk 1 Z (.j ?_))))
  obtain⟨oo,ho1,h⟩:=bind_some h
  refine AWP.rngL ho1 (fun iv4 _=>⟨[(0,(cR av)),(1,(cR bv)),(5,(cI iv4))],[]⟩) (fun x e st=>e=.ret∧Done [.t 4] (fun t _=>t=(cB x)) .ret st) (fun _ _ _ k=>.G 2 Z (S.len Z Z fun hl=>.gn 1 Z (k hl))) (fun _ _=>Z) ?_ ?_ ?_ ?_
  ·try dsimp only
   exact Sub.en Z
  ·intro iv4 s o hloiv4 hltiv4 h hl13
   unfold ao2 at h
   try dsimp only at h ⊢
   refine AWP.e (.j (.e ?_))
   obtain⟨a19,ha19,a23,ha23,h⟩:=b2 h
   refine AWP.drawI mixed Z (b7.D 2 Z ?_)
   refine b7.consF Z (fun E=>S.idx ha19 Z Z Z Z .N) Z ?_
   refine b7.D 3 Z ?_
   refine b7.consF Z (fun E=>S.idx ha23 Z Z Z Z .N) Z ?_
   refine b7.D 2 Z (b7.done ?_)
   dsimp only[h9]
   refine b5 (.iteN Z h (fun hc5 h=> ?_) (fun hc5 h=> ?_))
   ·refine AWP.gk 1 Z (.ret (i4 (d9 ?_)))
    obtain rfl:=oi h
    refine d9 ⟨_,Z,Z,?_⟩
    exact Done.ret Z Z
   ·refine AWP.skip (d6 (b5 (.G 1 Z (.add Z Z Z (by omega) (.u Z Z (.nil ?_))))))
    obtain rfl:=oi h
    refine b5 ⟨_,Z,?_⟩
    exact Sub.en Z
  ·intro iz _ he
   subst he
   try dsimp only at h ⊢
   refine f9 (b5 (.gk 1 Z (.ret ?_)))
   obtain rfl:=oi h
   exact Done.ret Z Z
  ·intro x e st he hq
   subst he
   try dsimp only at h hq
   obtain⟨rfl,hs⟩:=hq
   refine⟨_,Sub.refl _ _,?_⟩
   refine i4 (d9 ?_)
   obtain rfl:=oi h
   exact hs
theorem ar8{l:LL}{sv:Li}{r:(LL)}(h:U3 l sv=some r):e8 prog 57 [.c (row 1 b9 l),(cR sv)] (.c (row 1 b9 r)):=by
 unfold e8
 refine FnOk.enter (rs:=[.t 4]) func57 Z ntmps57 results57 Z ⟨Y,Y⟩ (by kernel_rfl) Z ?_
 unfold U3 at h
 refine AWP.gk 1 Z (.gk 1 Z (.e (.j ?_)))
 obtain⟨kv4,ho1,h⟩:=bind_some h
 refine AWP.loopS ho1 (fun kv3=>⟨[(0,.c (row 1 b9 l)),(1,(cR sv)),(5,(cI kv3))],[]⟩) (fun kv4 e st=>e=.exit 0∧Sub [] st ⟨[(0,.c (row 1 b9 l)),(1,(cR sv)),(5,(cI kv4))],[]⟩) ?_ ?_ ?_
 ·try dsimp only
  exact Sub.en Z
 ·intro kv3 o h
  unfold Y4 at h
  try dsimp only at h ⊢
  refine AWP.e ?_
  obtain⟨t5,hx6,h⟩:=bind_some h
  refine AWP.seqJ (⟨[(0,.c (row 1 b9 l)),(1,(cR sv)),(5,(cI kv3)),(17,(cB t5))],[]⟩) ?_ ?_
  ·rcases bft (decide (kv3<(l.length:Int))) with hb7|hb7
   ·replace hx6:=F8 hb7 hx6
    obtain⟨a13,ha13,a16,ha16,hx6⟩:=b2 hx6
    refine AWP.G 2 Z (S.len Z Z (fun hl8=>.G 2 Z (.K Z Z hb7 (.G 2 Z (.F Z Z Z Z (S.idx ha13 Z Z Z Z (.G 2 Z (.F Z Z Z Z (.q Z Z Z Z (as1 ha16) Z (.G 1 Z (.nil ?_)))))))))))
    obtain rfl:=oi hx6
    refine b5 (Sub.en Z)
   ·replace hx6:=F1 hb7 hx6
    refine AWP.G 2 Z (S.len Z Z (fun hl8=>.G 2 Z (.K Z Z hb7 (.G 7 Z (.nil ?_)))))
    obtain rfl:=oi hx6
    refine b5 (Sub.en Z)
  ·refine AWP.E Z h (fun hc8 h=> ?_) (fun hc8 h=> ?_)
   ·refine AWP.skip (b5 (.j (.G 3 Z (.nil (d6 ?_)))))
    obtain rfl:=oi h
    refine b5 ⟨_,Z,?_⟩
    exact Sub.en Z
   ·refine AWP.exit (i5 ?_)
    obtain rfl:=oi h
    refine i5 ⟨_,Z,Z,?_⟩
    exact Sub.en Z
 ·intro e s hq
  obtain⟨rfl,hs⟩:=hq
  refine⟨_,hs,?_⟩
  refine f9 (b5 (.e ?_))
  obtain⟨t9,hx10,h⟩:=bind_some h
  refine AWP.seqJ (⟨[(0,.c (row 1 b9 l)),(1,(cR sv)),(5,(cI kv4)),(31,(cB t9))],[]⟩) ?_ ?_
  ·rcases bft (decide (kv4<(l.length:Int))) with hb11|hb11
   ·replace hx10:=F8 hb11 hx10
    obtain⟨a27,ha27,a30,ha30,hx10⟩:=b2 hx10
    refine AWP.G 2 Z (S.len Z Z (fun hl22=>.G 2 Z (.K Z Z hb11 (.G 2 Z (.F Z Z Z Z (S.idx ha27 Z Z Z Z (.G 2 Z (.F Z Z Z Z (.q Z Z Z Z (af1 ha30) Z (.G 1 Z (.nil ?_)))))))))))
    obtain rfl:=oi hx10
    refine b5 (Sub.en Z)
   ·replace hx10:=F1 hb11 hx10
    refine AWP.G 2 Z (S.len Z Z (fun hl22=>.G 2 Z (.K Z Z hb11 (.G 7 Z (.nil ?_)))))
    obtain rfl:=oi hx10
    refine b5 (Sub.en Z)
  ·refine AWP.E Z h (fun hc12 h=> ?_) (fun hc12 h=> ?_)
   ·refine AWP.gk 2 Z (.ret (d9 ?_))
    obtain rfl:=oi h
    exact Done.ret Z Z
   ·refine AWP.skip (b5 (.e ?_))
    obtain⟨a36,ha36,a37,ha37,a40,ha40,h⟩:=b3 h
    obtain⟨a43,ha43,a44,ha44,h⟩:=b2 h
    refine AWP.sub (s':=⟨[(0,.c (row 1 b9 l)),(1,(cR sv)),(5,(cI kv4)),(31,(cB t9))],[.dead,.dead,.dead,.dead,.dead]⟩) (Sub.cut ⟨Z,Z,Z,Z,Y⟩ Z ⟨.dead,.dead,.dead,.dead,.dead,Y⟩ Z) (.drawTI [.c (.own 0 0 (([]:LL).length)),.c (row 1 b9 l),(cI kv4),.c (row 1 b9 a36),.c (.own 1 0 a37.length),(cR sv),.c (.own 2 0 ([sv].length)),.c (.own 3 0 a40.length),.c (row 1 b9 l),(cI kv4),.c (row 1 b9 a43),.c (.own 4 0 a44.length),.c (.own 4 0 a44.length)] [0,4,6,7,11] [([],[.dead,.dead,.dead,.dead,.dead]),([0],[(oV 1 b9 ([]:LL)),.dead,.dead,.dead,.dead]),([0,4],[.dead,(oV 1 b9 a37),.dead,.dead,.dead]),([6],[.dead,.dead,(oV 1 b9 [sv]),.dead,.dead]),([0,6],[(oV 1 b9 ([]:LL)),.dead,(oV 1 b9 [sv]),.dead,.dead]),([0,4,6],[.dead,(oV 1 b9 a37),(oV 1 b9 [sv]),.dead,.dead]),([0,4,6,7],[.dead,.dead,(oV 1 b9 [sv]),(oV 1 b9 a40),.dead]),([0,4,6,7,11],[.dead,.dead,(oV 1 b9 [sv]),.dead,(oV 1 b9 a44)])] [.dead,.dead,(oV 1 b9 [sv]),.dead,(oV 1 b9 a44)] mixed Z Z Z Z Z ?_ ?_)
    ·refine J0.cons ?_ ?_
     ·apply g7.eff;exact Z;exact Z;exact Z;exact Z;intro E hE;(refine AOps.newAt 0 (.c (.own 0 0 (([]:LL).length))) (vec 1 b9 ([]:LL)) (.inl Z) Z hE Z Z Z Z (.vec) (.vec) Z Z Z ⟨.dead,.dead,.dead,.dead,.dead,Y⟩ (fun hh=>by(refine S.lit (f:=b9) (l:=[]) (ess:=[]) Z Z Z Z Z Z Z trivial Z Z Z ?_;exact hh)) ?_);exact AOps.nil ⟨Z,Z⟩
      refine g7.go Z Z Z (fun E hE=>.z Z Z .N) ?_
      refine g7.go Z Z Z (fun E hE=>.z Z Z .N) ?_
      refine g7.go Z Z Z (fun E hE=>S.subTo ha36 Z Z Z .N) ?_
      refine g7.no Z ?_
      refine g7.go Z Z Z (fun E hE=>.z Z Z .N) ?_
      apply g7.eff;exact Z;exact Z;exact Z;exact Z;intro E hE;(refine AOps.newAt 2 (.c (.own 2 0 ([sv].length))) (vec 1 b9 [sv]) (.inl Z) Z hE Z Z Z Z (.vec) (.vec) Z Z Z ⟨.dead,.dead,.dead,.dead,.dead,Y⟩ (fun hh=>by(refine S.lit (f:=b9) (l:=[sv]) (ess:=[[row 1 intI sv]]) Z Z Z Z Z Z Z ⟨⟨.inl Z,Y⟩,Y⟩ Z Z Z ?_;exact hh)) ?_);exact AOps.nil ⟨Z,Z⟩
      refine g7.no Z ?_
      refine g7.go Z Z Z (fun E hE=>.z Z Z .N) ?_
      refine g7.go Z Z Z (fun E hE=>.z Z Z .N) ?_
      refine g7.go Z Z Z (fun E hE=>S.subFrom ha43 Z Z Z .N) ?_
      refine g7.no Z (g7.no Z (g7.nil))
     refine J0.cons ?_ ?_
     ·refine g7.no Z ?_
      refine g7.go Z Z Z (fun E hE=>.z Z Z .N) ?_
      refine g7.go Z Z Z (fun E hE=>.z Z Z .N) ?_
      refine g7.go Z Z Z (fun E hE=>S.subTo ha36 Z Z Z .N) ?_
      apply g7.eff;exact Z;exact Z;exact Z;exact Z;intro E hE;(refine AOps.newAt 1 (.c (.own 1 0 a37.length)) (vec 1 b9 a37) (.inr ⟨0,Z⟩) Z hE Z Z Z Z (.vec) (.vec) Z Z Z ⟨.dead,.dead,.dead,.dead,.dead,Y⟩ (fun hh=>by(refine S.append (f:=b9) ha37 Z Z Z Z Z Z .row Z Z Z Z ?_;exact hh)) ?_);exact AOps.nil ⟨Z,Z⟩
      refine g7.go Z Z Z (fun E hE=>.z Z Z .N) ?_
      apply g7.eff;exact Z;exact Z;exact Z;exact Z;intro E hE;(refine AOps.newAt 2 (.c (.own 2 0 ([sv].length))) (vec 1 b9 [sv]) (.inl Z) Z hE Z Z Z Z (.vec) (.vec) Z Z Z ⟨.vec,.dead,.dead,.dead,.dead,Y⟩ (fun hh=>by(refine S.lit (f:=b9) (l:=[sv]) (ess:=[[row 1 intI sv]]) Z Z Z Z Z Z Z ⟨⟨.inl Z,Y⟩,Y⟩ Z Z Z ?_;exact hh)) ?_);exact AOps.nil ⟨Z,Z⟩
      refine g7.no Z ?_
      refine g7.go Z Z Z (fun E hE=>.z Z Z .N) ?_
      refine g7.go Z Z Z (fun E hE=>.z Z Z .N) ?_
      refine g7.go Z Z Z (fun E hE=>S.subFrom ha43 Z Z Z .N) ?_
      refine g7.no Z (g7.no Z (g7.nil))
     refine J0.cons ?_ ?_
     ·refine g7.no Z (g7.no Z (g7.no Z (g7.no Z (g7.no Z ?_))))
      refine g7.go Z Z Z (fun E hE=>.z Z Z .N) ?_
      apply g7.eff;exact Z;exact Z;exact Z;exact Z;intro E hE;(refine AOps.newAt 2 (.c (.own 2 0 ([sv].length))) (vec 1 b9 [sv]) (.inl Z) Z hE Z Z Z Z (.vec) (.vec) Z Z Z ⟨.dead,.vec,.dead,.dead,.dead,Y⟩ (fun hh=>by(refine S.lit (f:=b9) (l:=[sv]) (ess:=[[row 1 intI sv]]) Z Z Z Z Z Z Z ⟨⟨.inl Z,Y⟩,Y⟩ Z Z Z ?_;exact hh)) ?_);exact AOps.nil ⟨Z,Z⟩
      refine g7.no Z ?_
      refine g7.go Z Z Z (fun E hE=>.z Z Z .N) ?_
      refine g7.go Z Z Z (fun E hE=>.z Z Z .N) ?_
      refine g7.go Z Z Z (fun E hE=>S.subFrom ha43 Z Z Z .N) ?_
      refine g7.no Z (g7.no Z (g7.nil))
     refine J0.cons ?_ ?_
     ·apply g7.eff;exact Z;exact Z;exact Z;exact Z;intro E hE;(refine AOps.newAt 0 (.c (.own 0 0 (([]:LL).length))) (vec 1 b9 ([]:LL)) (.inl Z) Z hE Z Z Z Z (.vec) (.vec) Z Z Z ⟨.dead,.dead,.vec,.dead,.dead,Y⟩ (fun hh=>by(refine S.lit (f:=b9) (l:=[]) (ess:=[]) Z Z Z Z Z Z Z trivial Z Z Z ?_;exact hh)) ?_);exact AOps.nil ⟨Z,Z⟩
      refine g7.go Z Z Z (fun E hE=>.z Z Z .N) ?_
      refine g7.go Z Z Z (fun E hE=>.z Z Z .N) ?_
      refine g7.go Z Z Z (fun E hE=>S.subTo ha36 Z Z Z .N) ?_
      refine g7.no Z (g7.no Z (g7.no Z (g7.no Z ?_)))
      refine g7.go Z Z Z (fun E hE=>.z Z Z .N) ?_
      refine g7.go Z Z Z (fun E hE=>.z Z Z .N) ?_
      refine g7.go Z Z Z (fun E hE=>S.subFrom ha43 Z Z Z .N) ?_
      refine g7.no Z (g7.no Z (g7.nil))
     refine J0.cons ?_ ?_
     ·refine g7.no Z ?_
      refine g7.go Z Z Z (fun E hE=>.z Z Z .N) ?_
      refine g7.go Z Z Z (fun E hE=>.z Z Z .N) ?_
      refine g7.go Z Z Z (fun E hE=>S.subTo ha36 Z Z Z .N) ?_
      apply g7.eff;exact Z;exact Z;exact Z;exact Z;intro E hE;(refine AOps.newAt 1 (.c (.own 1 0 a37.length)) (vec 1 b9 a37) (.inr ⟨0,Z⟩) Z hE Z Z Z Z (.vec) (.vec) Z Z Z ⟨.dead,.dead,.vec,.dead,.dead,Y⟩ (fun hh=>by(refine S.append (f:=b9) ha37 Z Z Z Z Z Z .row Z Z Z Z ?_;exact hh)) ?_);exact AOps.nil ⟨Z,Z⟩
      refine g7.no Z (g7.no Z (g7.no Z ?_))
      refine g7.go Z Z Z (fun E hE=>.z Z Z .N) ?_
      refine g7.go Z Z Z (fun E hE=>.z Z Z .N) ?_
      refine g7.go Z Z Z (fun E hE=>S.subFrom ha43 Z Z Z .N) ?_
      refine g7.no Z (g7.no Z (g7.nil))
     refine J0.cons ?_ ?_
     ·refine g7.no Z (g7.no Z (g7.no Z (g7.no Z (g7.no Z (g7.no Z (g7.no Z ?_))))))
      apply g7.eff;exact Z;exact Z;exact Z;exact Z;intro E hE;(refine AOps.newAt 3 (.c (.own 3 0 a40.length)) (vec 1 b9 a40) (.inr ⟨1,Z⟩) Z hE Z Z Z Z (.vec) (.vec) Z Z Z ⟨.dead,.dead,.vec,.dead,.dead,Y⟩ (fun hh=>by(refine S.append (f:=b9) ha40 Z Z Z Z Z Z (.own Z Z) Z Z Z Z ?_;exact hh)) ?_);exact AOps.nil ⟨Z,Z⟩
      refine g7.go Z Z Z (fun E hE=>.z Z Z .N) ?_
      refine g7.go Z Z Z (fun E hE=>.z Z Z .N) ?_
      refine g7.go Z Z Z (fun E hE=>S.subFrom ha43 Z Z Z .N) ?_
      refine g7.no Z (g7.no Z (g7.nil))
     refine J0.cons ?_ ?_
     ·refine g7.no Z (g7.no Z (g7.no Z (g7.no Z (g7.no Z (g7.no Z (g7.no Z (g7.no Z ?_)))))))
      refine g7.go Z Z Z (fun E hE=>.z Z Z .N) ?_
      refine g7.go Z Z Z (fun E hE=>.z Z Z .N) ?_
      refine g7.go Z Z Z (fun E hE=>S.subFrom ha43 Z Z Z .N) ?_
      apply g7.eff;exact Z;exact Z;exact Z;exact Z;intro E hE;(refine AOps.newAt 4 (.c (.own 4 0 a44.length)) (vec 1 b9 a44) (.inr ⟨3,Z⟩) Z hE Z Z Z Z (.vec) (.vec) Z Z Z ⟨.dead,.dead,.vec,.dead,.dead,Y⟩ (fun hh=>by(refine S.append (f:=b9) ha44 Z Z Z Z Z Z .row Z Z Z Z ?_;exact hh)) ?_);exact AOps.nil ⟨Z,Z⟩
      refine g7.no Z (g7.nil)
     refine J0.cons ?_ ?_
     ·refine g7.no Z (g7.no Z (g7.no Z (g7.no Z (g7.no Z (g7.no Z (g7.no Z (g7.no Z (g7.no Z (g7.no Z (g7.no Z (g7.no Z ?_)))))))))))
      refine g7.go Z Z Z (fun E hE=>.u Z Z .N) ?_
      exact g7.nil
     exact J0.nil
    dsimp only[h9]
    refine b5 (.frzV (id:=4) (l:=a44) (env2:=[(4,.c (row 1 b9 a44))]) (σ2:=[.dead,.dead,(oV 1 b9 [sv]),.dead,.dead]) Z Z (by exact⟨⟨_,Z,.inr ⟨_,Z,Z,Z⟩⟩,Y⟩) Z (by exact⟨Y,Y,FrzB.vec,Y,Y,Y⟩) (.ret ?_))
    obtain rfl:=oi h
    exact Done.ret Z Z
theorem N4{l:LL}{sv:Li}{r:Int}(h:H7 l sv=some r):e8 prog 15 [.c (row 1 b9 l),(cR sv)] ((cI r)):=by
 unfold e8
 refine FnOk.enter (rs:=[.t 4]) func15 Z ntmps15 results15 Z ⟨Y,Y⟩ (by kernel_rfl) Z ?_
 unfold H7 at h
 refine AWP.gk 1 Z (.e (.gk 1 Z (.j ?_)))
 obtain⟨oo,ho1,h⟩:=bind_some h
 refine AWP.rngL ho1 (fun iv3 _=>⟨[(0,.c (row 1 b9 l)),(1,(cR sv)),(5,(cI iv3))],[]⟩) (fun x e st=>e=.ret∧Done [.t 4] (fun t _=>t=(cI x)) .ret st) (fun _ _ _ k=>.G 2 Z (S.len Z Z fun hl=>.gn 1 Z (k hl))) (fun _ _=>Z) ?_ ?_ ?_ ?_
 ·try dsimp only
  exact Sub.en Z
 ·intro iv3 s o hloiv3 hltiv3 h hl8
  unfold ab4 at h
  try dsimp only at h ⊢
  refine AWP.e (.j (.e ?_))
  obtain⟨a14,ha14,a17,ha17,h⟩:=b2 h
  refine AWP.G 2 Z (S.idx ha14 Z Z Z Z (.G 2 Z (.q Z Z Z Z (af1 ha17) Z (.nil (b5 (.E Z h (fun hc4 h=> ?_) (fun hc4 h=> ?_)))))))
  ·refine AWP.gk 2 Z (.ret (i4 (d9 ?_)))
   obtain rfl:=oi h
   refine d9 ⟨_,Z,Z,?_⟩
   exact Done.ret Z Z
  ·refine AWP.skip (d6 (b5 (.G 1 Z (.add Z Z Z (by omega) (.u Z Z (.nil ?_))))))
   obtain rfl:=oi h
   refine b5 ⟨_,Z,?_⟩
   exact Sub.en Z
 ·intro iz _ he
  subst he
  try dsimp only at h ⊢
  refine f9 (b5 (.gk 1 Z (.ret ?_)))
  obtain rfl:=oi h
  exact Done.ret Z Z
 ·intro x e st he hq
  subst he
  try dsimp only at h hq
  obtain⟨rfl,hs⟩:=hq
  refine⟨_,Sub.refl _ _,?_⟩
  refine i4 (d9 ?_)
  obtain rfl:=oi h
  exact hs
theorem aj4{ov:d5}{sv:Li}{op:Int}{r:(LL)×Li}(h:S5 ov sv op=some r):e8 prog 55 [.agg (tO ov),(cR sv),(cI op)] (.tup [.c (row 1 b9 r.1),(cR r.2)]):=by
 unfold e8
 refine FnOk.enter (rs:=[.t 6,.t 7]) func55 Z ntmps55 results55 Z ⟨Y,Y,Y⟩ (by kernel_rfl) Z ?_
 unfold S5 at h
 refine AWP.gk 3 Z (.gk 1 Z (.e ?_))
 obtain⟨a17,ha17,h⟩:=bind_some h
 refine AWP.G 3 Z (S.idx ha17 Z Z Z Z (.G 3 Z (.nil (b5 (.e (.gk 1 Z (.j ?_)))))))
 obtain⟨states4,ho1,h⟩:=bind_some h
 refine AWP.forL ho1 (fun kv5 states4=>⟨[(1,(cR sv)),(3,(cP 0 0 0)),(8,.c (row 1 b9 states4)),(9,.c (row 3 p8 a17.outcomes)),(10,(cI kv5))],[(oE 4 (tO ov))]⟩) (fun _ _ _ k=>.G 2 Z (S.len Z Z fun hl=>.gn 1 Z (k hl))) (fun _ _=>Z) ?_ ?_ ?_
 ·try dsimp only
  exact(Sub.nilrow 1 8 Z).trans (Sub.en Z)
 ·intro kv5 states4 o hlokv5 hltkv5 h hl22
  unfold ab9 at h
  try dsimp only at h ⊢
  refine AWP.e (.j ?_)
  obtain⟨a31,ha31,a33,ha33,a34,ha34,h⟩:=b3 h
  refine AWP.drawI mixed Z (b7.D 5 Z ?_)
  refine b7.consF Z (fun E=>S.idx ha31 Z Z Z Z .N) Z ?_
  refine b7.D 1 Z ?_
  refine b7.consF Z (fun E=>.q Z Z Z Z (n7.data (ar7 ha33)) Z .N) Z (.consF Z (fun E=>.q Z Z Z Z (ar8 ha34) Z .N) Z ?_)
  refine b7.D 1 Z (b7.done ?_)
  dsimp only[h9]
  refine d6 (b5 (.G 1 Z (.add Z Z Z (by omega) (.u Z Z (.nil ?_)))))
  obtain rfl:=oi h
  refine b5 (Sub.en Z)
 ·intro iz
  try dsimp only
  refine f9 (b5 (.e ?_))
  obtain⟨a37,ha37,h⟩:=bind_some h
  refine AWP.G 1 Z (S.len Z Z (fun hl36=>S.make (f:=intI) ha37 (.val .nil) Z Z Z Z Z Z (.u Z Z (.nil (b5 (.e (.gk 1 Z (.j ?_))))))))
  obtain⟨c6,ho2,h⟩:=bind_some h
  refine AWP.forL ho2 (fun kv7 c6=>⟨[(1,(cR sv)),(3,(cP 0 0 0)),(8,.c (row 1 b9 states4)),(9,.c (row 3 p8 a17.outcomes)),(11,.c (.own 1 0 c6.length)),(12,(cI kv7))],[(oE 4 (tO ov)),(oV 1 intI c6)]⟩) (fun _ _ _ k=>.G 2 Z (S.len Z Z fun hl=>.gn 1 Z (k hl))) (fun _ _=>Z) ?_ ?_ ?_
  ·try dsimp only
   exact Sub.en Z
  ·intro kv7 c6 o hlokv7 hltkv7 h hl40
   unfold ab6 at h
   try dsimp only at h ⊢
   refine AWP.e (.j (.e ?_))
   obtain⟨a49,ha49,a51,ha51,a52,ha52,h⟩:=b3 h
   refine AWP.drawEI [7] mixed Z Z Z (b8.D 5 Z Z ?_)
   refine b8.consN Z Z (fun E=>S.idx ha49 Z Z Z Z .N) Z ?_
   refine b8.D 1 Z Z ?_
   apply b8.consE;exact Z;exact Z;intro E
   refine S.fresh Z Z Z Z (ar7 ha51) Z Z .N
   exact Z
   exact Z
   refine b8.consN Z Z (fun E=>.U Z Z (.cons (.c .imm) (.cons (.c (.own Z Z)) .nil)) Z (N4 ha52) Z .N) Z ?_
   refine b8.D 1 Z Z (b8.done Z ?_ ?_)
   ·refine d8.D 5 Z Z ?_
    refine d8.cons Z Z (.go Z Z (fun E=>S.idx ha49 Z Z Z Z .N) (.skip Z .nil)) ?_
    refine d8.D 2 Z Z ?_
    refine d8.cons Z Z ?_ ?_
    refine i6.skip Z ?_
    refine i6.go Z Z (fun E=>.U Z Z (.cons (.c .imm) (.cons (.c (.own Z Z)) .nil)) Z (N4 ha52) Z .N) ?_
    exact i6.nil
    refine d8.D 1 Z Z (d8.nil)
   dsimp only[h9]
   refine b5 ?_
   obtain⟨a57,ha57,a61,ha61,a65,ha65,h⟩:=b3 h
   refine AWP.drawEI [13] mixed Z Z Z (b8.D 4 Z Z ?_)
   refine b8.consN Z Z (fun E=>S.idxO ha57 Z Z Z Z Z .N) Z (.consN Z Z (fun E=>S.loadO ha57 Z Z Z Z Z .N) Z ?_)
   refine b8.D 2 Z Z ?_
   refine b8.consN Z Z (fun E=>S.idx ha61 Z Z Z Z .N) Z ?_
   refine b8.D 3 Z Z ?_
   refine b8.consN Z Z (fun E=>S.idxO ha65 Z Z Z Z Z .N) Z ?_
   apply b8.consE (v:=.undef);exact Z;exact Z;intro E
   refine S.storeO1 (f:=intI) (a':=w64 (a57+a61.weight)) (q7 ha65) (fun _=>⟨_,Z⟩) Z Z Z Z Z ?_
   exact AOps.nil ⟨Z,Z⟩
   exact Z
   exact Z
   refine b8.done Z ?_ ?_
   ·refine d8.D 4 Z Z ?_
    refine d8.cons Z Z (.go Z Z (fun E=>S.idxO ha57 Z Z Z Z Z .N) (.skip Z .nil)) (.cons Z Z (.go Z Z (fun E=>S.loadO ha57 Z Z Z Z Z .N) (.skip Z .nil)) ?_)
    refine d8.D 2 Z Z ?_
    refine d8.cons Z Z (.go Z Z (fun E=>S.idx ha61 Z Z Z Z .N) (.skip Z .nil)) ?_
    refine d8.D 3 Z Z ?_
    refine d8.cons Z Z (.go Z Z (fun E=>S.idxO ha65 Z Z Z Z Z .N) (.skip Z .nil)) ?_
    refine d8.D 1 Z Z (d8.nil)
   dsimp only[h9]
   refine d6 (b5 (.G 1 Z (.add Z Z Z (by omega) (.u Z Z (.nil ?_)))))
   obtain rfl:=oi h
   refine b5 (Sub.cut ⟨Z,Z,Z,Z,(o7 (by first|rfl|simp only[lS])),Z,Y⟩ Z ⟨.one Z,.vec,Y⟩ Z)
  ·intro iz
   try dsimp only
   refine f9 (b5 (.gk 4 Z (.frzV (id:=1) (l:=c6) (env2:=[(6,.c (row 1 b9 states4)),(7,(cR c6))]) (σ2:=[(oE 4 (tO ov)),.dead]) Z Z (by exact⟨⟨_,Z,.inl ⟨Z,Z⟩⟩,⟨_,Z,.inr ⟨_,Z,Z,Z⟩⟩,Y⟩) Z (by exact⟨⟨Z,.inl ⟨Z,Z⟩,.inl ⟨Z,Z⟩,.inl ⟨Z,Z⟩,.inl ⟨Z,Z⟩,Y⟩,Y,Y⟩) (.ret ?_))))
   obtain rfl:=oi h
   exact Done.ret Z Z
theorem law8_coin_ok{r:d5}(h:law8_coin=some r):e8 prog 58 [] (.agg (tO r)):=by
 unfold e8
 refine FnOk.enter (rs:=[.cell 0 25 4]) func58 Z ntmps58 results58 Z ⟨rv _ Z,Y⟩ (by kernel_rfl) Z ?_
 unfold law8_coin at h
 refine AWP.gk 1 Z (.e (.O (S.lit (f:=intI) (l:=[0]) (ess:=[[int 0]]) Z Z Z Z Z Z Z ⟨⟨.inl Z,Y⟩,Y⟩ Z Z Z (S.lit (f:=intI) (l:=[0]) (ess:=[[int 0]]) Z Z Z Z Z Z Z ⟨⟨.inl Z,Y⟩,Y⟩ Z Z Z (.G 2 Z (.frzV (id:=2) (l:=[0]) (env2:=[(0,(cP 0 0 0)),(1,.c (.own 1 0 ([0].length))),(3,.agg [row 1 intI [0],.imm (.val nL),int 1]),(4,.agg [.imm (.val nL),.imm (.val nL),int 2])]) (σ2:=[(oE 4 [int 0,.imm (.val nL),.imm (.val nL),.imm (.val nL)]),(oV 1 intI [0]),.dead]) Z Z (by exact⟨⟨_,Z,.inl ⟨Z,Z⟩⟩,⟨_,Z,.inl ⟨Z,Z⟩⟩,⟨_,Z,⟨.inr ⟨_,Z,Z,Z⟩,.inl ⟨Z,Z⟩,.inl ⟨Z,Z⟩,Y⟩⟩,⟨_,Z,⟨.inl ⟨Z,Z⟩,.inl ⟨Z,Z⟩,.inl ⟨Z,Z⟩,Y⟩⟩,Y⟩) Z (by exact⟨⟨Z,.inl ⟨Z,Z⟩,.inl ⟨Z,Z⟩,.inl ⟨Z,Z⟩,.inl ⟨Z,Z⟩,Y⟩,FrzB.vec,Y,Y⟩) (S.lit (f:=p8) (l:=[(⟨[0],[],1⟩:j6),(⟨[],[],2⟩:j6)]) (ess:=[[row 1 intI [0],.imm (.val nL),int 1],[.imm (.val nL),.imm (.val nL),int 2]]) Z Z Z Z Z Z Z ⟨⟨.inl Z,.inr ⟨Z,_,Z⟩,.inl Z,Y⟩,⟨.inr ⟨Z,_,Z⟩,.inr ⟨Z,_,Z⟩,.inl Z,Y⟩,Y⟩ Z Z Z (.G 1 Z (.frzV (id:=3) (l:=[(⟨[0],[],1⟩:j6),(⟨[],[],2⟩:j6)]) (env2:=[(0,(cP 0 0 0)),(1,.c (.own 1 0 ([0].length))),(6,.agg [.imm (.val nL),row 3 p8 ([(⟨[0],[],1⟩:j6),(⟨[],[],2⟩:j6)]),int 1])]) (σ2:=[(oE 4 [int 0,.imm (.val nL),.imm (.val nL),.imm (.val nL)]),(oV 1 intI [0]),.dead,.dead]) Z Z (by exact⟨⟨_,Z,.inl ⟨Z,Z⟩⟩,⟨_,Z,.inl ⟨Z,Z⟩⟩,⟨_,Z,⟨.inl ⟨Z,Z⟩,.inr ⟨_,Z,Z,Z⟩,.inl ⟨Z,Z⟩,Y⟩⟩,Y⟩) Z (by exact⟨⟨Z,.inl ⟨Z,Z⟩,.inl ⟨Z,Z⟩,.inl ⟨Z,Z⟩,.inl ⟨Z,Z⟩,Y⟩,FrzB.vec,Y,Y,Y⟩) (S.lit (f:=d7) (l:=[(⟨[],[(⟨[0],[],1⟩:j6),(⟨[],[],2⟩:j6)],1⟩:g9)]) (ess:=[[.imm (.val nL),row 3 p8 ([(⟨[0],[],1⟩:j6),(⟨[],[],2⟩:j6)]),int 1]]) Z Z Z Z Z Z Z ⟨⟨.inr ⟨Z,_,Z⟩,.inl Z,.inl Z,Y⟩,Y⟩ Z Z Z (.ge 2 Z (.frzV (id:=1) (l:=[0]) (env2:=[(0,(cP 0 0 0))]) (σ2:=[(oE 4 [int 1,.imm (.val nL),row 1 intI [0],.own 4 0 (([(⟨[],[(⟨[0],[],1⟩:j6),(⟨[],[],2⟩:j6)],1⟩:g9)]).length)]),.dead,.dead,.dead,(oV 3 d7 ([(⟨[],[(⟨[0],[],1⟩:j6),(⟨[],[],2⟩:j6)],1⟩:g9)]))]) Z Z (by exact⟨⟨_,Z,.inl ⟨Z,Z⟩⟩,Y⟩) Z (by exact⟨⟨Z,.inl ⟨Z,Z⟩,.inl ⟨Z,Z⟩,.inr ⟨_,Z,Z,Z⟩,.inl ⟨Z,Z⟩,Y⟩,Y,Y,Y,FrzB.vec,Y⟩) (.frzV (id:=4) (l:=[(⟨[],[(⟨[0],[],1⟩:j6),(⟨[],[],2⟩:j6)],1⟩:g9)]) (env2:=[(0,(cP 0 0 0))]) (σ2:=[(oE 4 [int 1,.imm (.val nL),row 1 intI [0],row 3 d7 ([(⟨[],[(⟨[0],[],1⟩:j6),(⟨[],[],2⟩:j6)],1⟩:g9)])]),.dead,.dead,.dead,.dead]) Z Z (by exact⟨⟨_,Z,.inl ⟨Z,Z⟩⟩,Y⟩) Z (by exact⟨⟨Z,.inl ⟨Z,Z⟩,.inl ⟨Z,Z⟩,.inl ⟨Z,Z⟩,.inr ⟨_,Z,Z,Z⟩,Y⟩,Y,Y,Y,Y,Y⟩) (.nilB (b:=0) [int 1,row 1 intI [],row 1 intI [0],row 3 d7 ([(⟨[],[(⟨[0],[],1⟩:j6),(⟨[],[],2⟩:j6)],1⟩:g9)])] Z (by exact⟨.inl Z,.inr ⟨Z,_,Z⟩,.inl Z,.inl Z,Y⟩) Z Z (.ret ?_)))))))))))))))
 obtain rfl:=oi h
 exact Done.ret Z Z
theorem ref8_Choices_ok{av:List e9}{bv:List e9}{r:Bool}(h:am9 av bv=some r):e8 prog 21 [.c (row 2 f8 av),.c (row 2 f8 bv)] ((cB r)):=by
 unfold e8
 refine FnOk.enter (rs:=[.t 4]) func21 Z ntmps21 results21 Z ⟨Y,Y⟩ (by kernel_rfl) Z ?_
 unfold am9 at h
 refine AWP.gk 1 Z (.e (.gs 1 Z (S.len Z Z (fun hl7=>.z Z Z (S.len Z Z (fun hl9=>.ge 1 Z (.iteN Z h (fun hc3 h=> ?_) (fun hc3 h=> ?_))))))))
 ·refine AWP.gk 1 Z (.ret (d9 ?_))
  obtain rfl:=oi h
  exact Done.ret Z Z
 ·refine AWP.skip (b5 (.e (.gk 1 Z (.j ?_))))
  obtain⟨oo,ho1,h⟩:=bind_some h
  refine AWP.rngL ho1 (fun iv4 _=>⟨[(0,.c (row 2 f8 av)),(1,.c (row 2 f8 bv)),(5,(cI iv4))],[]⟩) (fun x e st=>e=.ret∧Done [.t 4] (fun t _=>t=(cB x)) .ret st) (fun _ _ _ k=>.G 2 Z (S.len Z Z fun hl=>.gn 1 Z (k hl))) (fun _ _=>Z) ?_ ?_ ?_ ?_
  ·try dsimp only
   exact Sub.en Z
  ·intro iv4 s o hloiv4 hltiv4 h hl13
   unfold ao7 at h
   try dsimp only at h ⊢
   refine AWP.e (.j ?_)
   obtain⟨t5,hx6,h⟩:=bind_some h
   refine AWP.seqJ (⟨[(0,.c (row 2 f8 av)),(1,.c (row 2 f8 bv)),(5,(cI iv4)),(41,(cB t5))],[]⟩) ?_ ?_
   ·obtain⟨a19,ha19,a24,ha24,hx6⟩:=b2 hx6
    rcases bft (!(decide (a19.operator=a24.operator))) with hb7|hb7
    ·replace hx6:=B2 hb7 hx6
     refine AWP.drawI mixed Z (b7.D 2 Z ?_)
     refine b7.consF Z (fun E=>S.idx ha19 Z Z Z Z .N) Z ?_
     refine b7.D 4 Z ?_
     refine b7.consF Z (fun E=>S.idx ha24 Z Z Z Z .N) Z ?_
     refine b7.D 4 Z (b7.K Z hb7 Z (b7.D 13 Z (b7.done ?_)))
     dsimp only[h9]
     obtain rfl:=oi hx6
     refine b5 (Sub.en Z)
    ·replace hx6:=B3 hb7 hx6
     obtain⟨a31,ha31,a36,ha36,a39,ha39,hx6⟩:=b3 hx6
     refine AWP.drawI mixed Z (b7.D 2 Z ?_)
     refine b7.consF Z (fun E=>S.idx ha19 Z Z Z Z .N) Z ?_
     refine b7.D 4 Z ?_
     refine b7.consF Z (fun E=>S.idx ha24 Z Z Z Z .N) Z ?_
     refine b7.D 4 Z (b7.K Z hb7 Z (b7.D 2 Z ?_))
     refine b7.consF Z (fun E=>.F Z Z Z Z (S.idx ha31 Z Z Z Z .N)) Z ?_
     refine b7.D 4 Z ?_
     refine b7.consF Z (fun E=>.F Z Z Z Z (S.idx ha36 Z Z Z Z .N)) Z ?_
     refine b7.D 2 Z ?_
     refine b7.consF Z (fun E=>.F Z Z Z Z (.q Z Z Z Z (af1 ha39) Z .N)) Z ?_
     refine b7.D 2 Z (b7.done ?_)
     dsimp only[h9]
     obtain rfl:=oi hx6
     refine b5 (Sub.en Z)
   ·refine AWP.E Z h (fun hc8 h=> ?_) (fun hc8 h=> ?_)
    ·refine AWP.gk 1 Z (.ret (i4 (d9 ?_)))
     obtain rfl:=oi h
     refine d9 ⟨_,Z,Z,?_⟩
     exact Done.ret Z Z
    ·refine AWP.skip (d6 (b5 (.G 1 Z (.add Z Z Z (by omega) (.u Z Z (.nil ?_))))))
     obtain rfl:=oi h
     refine b5 ⟨_,Z,?_⟩
     exact Sub.en Z
  ·intro iz _ he
   subst he
   try dsimp only at h ⊢
   refine f9 (b5 (.gk 1 Z (.ret ?_)))
   obtain rfl:=oi h
   exact Done.ret Z Z
  ·intro x e st he hq
   subst he
   try dsimp only at h hq
   obtain⟨rfl,hs⟩:=hq
   refine⟨_,Sub.refl _ _,?_⟩
   refine i4 (d9 ?_)
   obtain rfl:=oi h
   exact hs
theorem af7{r:Bool}(h:Q5=some r):e8 prog 12 [] ((cB r)):=by
 unfold e8
 refine FnOk.enter (rs:=[.t 0]) func12 Z ntmps12 results12 Z ⟨Y,Y⟩ (by kernel_rfl) Z ?_
 unfold Q5 at h
 refine AWP.gk 1 Z (.e ?_)
 obtain⟨a6,ha6,a7,ha7,h⟩:=b2 h
 refine AWP.O (.q Z Z Z Z (law8_coin_ok ha6) Z (.q Z Z Z Z (chance_Best_ok ha7) Z (.G 11 Z (.nil (b5 ?_)))))
 obtain⟨t1,hx2,h⟩:=bind_some h
 refine AWP.seqJ (⟨[(0,(cB t1))],[]⟩) ?_ ?_
 ·rcases bft (decide (a7.2.2.2.code=0)) with hb3|hb3
  ·replace hx2:=F8 hb3 hx2
   rcases bft (a7.2.2.1) with hb4|hb4
   ·replace hx2:=B2 hb4 hx2
    rcases bft ((decide (a7.2.1.num=3)) && (decide (a7.2.1.den=1))) with hb5|hb5
    ·replace hx2:=B2 hb5 hx2
     obtain⟨a27,ha27,hx2⟩:=bind_some hx2
     refine AWP.G 4 Z (.F Z Z Z hb3 (.z Z Z (.pickT Z hb3 Z Z (.z Z Z (.K Z Z hb4 (.G 2 Z (.F Z Z Z Z (.eqlP Z Z Z Z Z Z Z (.G 2 Z (.K Z Z hb5 (.G 2 Z (.F Z Z Z Z (S.lit (f:=f8) (l:=[(⟨[],0⟩:e9)]) (ess:=[[.imm (.val nL),int 0]]) Z Z Z Z Z Z Z ⟨⟨.inr ⟨Z,_,Z⟩,.inl Z,Y⟩,Y⟩ Z Z Z (.F Z Z Z Z (.U Z Z (.cons (.c .imm) (.cons (.c (.own Z Z)) .nil)) Z (ref8_Choices_ok ha27) Z (.G 2 Z (.nil ?_)))))))))))))))))
     obtain rfl:=oi hx2
     refine b5 (Sub.cut ⟨Z,Y⟩ Z Y Z)
    ·replace hx2:=B3 hb5 hx2
     refine AWP.G 4 Z (.F Z Z Z hb3 (.z Z Z (.pickT Z hb3 Z Z (.z Z Z (.K Z Z hb4 (.G 2 Z (.F Z Z Z Z (.eqlP Z Z Z Z Z Z Z (.G 2 Z (.K Z Z hb5 (.G 6 Z (.nil ?_))))))))))))
     obtain rfl:=oi hx2
     refine b5 (Sub.cut ⟨Z,Y⟩ Z Y Z)
   ·replace hx2:=B3 hb4 hx2
    refine AWP.G 4 Z (.F Z Z Z hb3 (.z Z Z (.pickT Z hb3 Z Z (.z Z Z (.K Z Z hb4 (.G 11 Z (.nil ?_)))))))
    obtain rfl:=oi hx2
    refine b5 (Sub.cut ⟨Z,Y⟩ Z Y Z)
  ·replace hx2:=F1 hb3 hx2
   refine AWP.G 4 Z (.guardF Z Z Z hb3 (.pickF Z hb3 Z Z (.G 12 Z (.nil ?_))))
   obtain rfl:=oi hx2
   refine b5 (Sub.cut ⟨Z,Y⟩ Z Y Z)
 ·refine AWP.ret ?_
  obtain rfl:=oi h
  exact Done.ret Z Z
theorem L5{ov:d5}{sv:Li}{r:Bool}(h:G4 ov sv=some r):e8 prog 27 [.agg (tO ov),(cR sv)] ((cB r)):=by
 unfold e8
 refine FnOk.enter (rs:=[.t 4]) func27 Z ntmps27 results27 Z ⟨Y,Y⟩ (by kernel_rfl) Z ?_
 unfold G4 at h
 refine AWP.gk 2 Z (.e ?_)
 obtain⟨a8,ha8,h⟩:=bind_some h
 refine AWP.G 3 Z (.q Z Z Z Z (ar9 ha8) Z (.u Z Z (.nil (b5 (.ret ?_)))))
 obtain rfl:=oi h
 exact Done.ret Z Z
theorem ref8_Pending_ok{ov:d5}{l:LL}{r:(LL)}(h:X3 ov l=some r):n7 prog 14 [.agg (tO ov),.c (row 1 b9 l)] 1 (List.map b9 r):=by
 unfold n7
 refine FnOk.enter (rs:=[.t 4]) func14 Z ntmps14 results14 Z ⟨Y,Y⟩ (by kernel_rfl) Z ?_
 unfold X3 at h
 refine AWP.gk 2 Z (.gk 1 Z (.e (.gk 1 Z (.j (.virtV 1 b9 5 Z Z Z ?_)))))
 obtain⟨c3,ho1,h⟩:=bind_some h
 refine AWP.forL ho1 (fun iv4 c3=>⟨[(1,.c (row 1 b9 l)),(2,(cP 0 0 0)),(5,.c (.own 1 0 c3.length)),(6,(cI iv4))],[(oE 4 (tO ov)),(oV 1 b9 c3)]⟩) (fun _ _ _ k=>.G 2 Z (S.len Z Z fun hl=>.gn 1 Z (k hl))) (fun _ _=>Z) ?_ ?_ ?_
 ·try dsimp only
  exact Sub.env ⟨Z,Z,(o7 (by first|rfl|simp only[lS])),Z,Y⟩
 ·intro iv4 c3 o hloiv4 hltiv4 h hl9
  unfold V2 at h
  try dsimp only at h ⊢
  obtain⟨c5,hx6,h⟩:=bind_some h
  refine AWP.seqJ (⟨[(1,.c (row 1 b9 l)),(2,(cP 0 0 0)),(5,.c (.own 3 0 c5.length)),(6,(cI iv4))],[(oE 4 (tO ov)),.dead,.dead,(oV 1 b9 c5)]⟩) ?_ ?_
  ·refine AWP.j (.e ?_)
   obtain⟨a16,ha16,a18,ha18,hx6⟩:=b2 hx6
   refine AWP.drawI mixed Z (b7.D 3 Z ?_)
   refine b7.consF Z (fun E=>S.idx ha16 Z Z Z Z .N) Z ?_
   refine b7.D 1 Z ?_
   refine b7.consF Z (fun E=>.q Z Z Z Z (L5 ha18) Z .N) Z ?_
   refine b7.D 1 Z (b7.done ?_)
   dsimp only[h9]
   refine b5 (.E Z hx6 (fun hc7 hx6=> ?_) (fun hc7 hx6=> ?_))
   ·obtain⟨a23,ha23,a26,ha26,hx6⟩:=b2 hx6
    refine AWP.G 3 Z (S.idx ha23 Z Z Z Z (.G 1 Z (S.lit (f:=b9) (l:=[a23]) (ess:=[[row 1 intI a23]]) Z Z Z Z Z Z Z ⟨⟨.inl Z,Y⟩,Y⟩ Z Z Z (S.append (f:=b9) ha26 Z Z Z Z Z Z (.own Z Z) Z Z Z Z (.u Z Z (.nil (d6 ?_)))))))
    obtain rfl:=oi hx6
    refine b5 (Sub.cut ⟨Z,Z,Z,Z,Y⟩ Z ⟨.one Z,.dead,.dead,.vec,Y⟩ Z)
   ·refine AWP.skip (d6 ?_)
    obtain rfl:=oi hx6
    refine b5 ((Sub.move (env':=[(1,.c (row 1 b9 l)),(2,(cP 0 0 0)),(5,.c (.own 3 0 c3.length)),(6,(cI iv4))]) (σ':=[(oE 4 (tO ov)),.dead,.dead,(oV 1 b9 c3)]) 3 1 Z Z Z ⟨Z,Z,Z,Z,Y⟩ Z ⟨⟨Z,Z⟩,Y,Y,⟨Blk.im_ok _ _ _,i7 Z⟩,Y⟩).trans (Sub.en Z))
  ·refine AWP.G 1 Z (.add Z Z Z (by omega) (.u Z Z (.nil ?_)))
   obtain rfl:=oi h
   refine b5 ((Sub.move (env':=[(1,.c (row 1 b9 l)),(2,(cP 0 0 0)),(5,.c (.own 1 0 c5.length)),(6,(cI (iv4+1)))]) (σ':=[(oE 4 (tO ov)),(oV 1 b9 c5),.dead]) 1 3 Z Z Z ⟨Z,Z,Z,Z,Y⟩ Z ⟨⟨Z,Z⟩,⟨Blk.im_ok _ _ _,i7 Z⟩,Y,Y⟩).trans (Sub.cut ⟨Z,Z,Z,Z,Y⟩ Z ⟨.one Z,.vec,Y⟩ Z))
 ·intro iz
  try dsimp only
  refine f9 (b5 (.gk 2 Z (.ret ?_)))
  obtain rfl:=oi h
  exact Done.ret Z (Fresh.mk Z Z)
theorem ref8_Least_ok{ov:d5}{all:LL}{value:Li}{sv:Li}{op:Int}{r:Int}(h:ag3 ov all value sv op=some r):e8 prog 61 [.agg (tO ov),.c (row 1 b9 all),(cR value),(cR sv),(cI op)] ((cI r)):=by
 unfold e8
 refine FnOk.enter (rs:=[.t 10]) func61 Z ntmps61 results61 Z ⟨Y,Y⟩ (by kernel_rfl) Z ?_
 unfold ag3 at h
 refine AWP.gk 2 Z (.gk 1 Z (.e ?_))
 obtain⟨a20,ha20,h⟩:=bind_some h
 refine AWP.G 3 Z (.q Z Z Z Z (aj4 ha20) Z (.G 5 Z (.nil (b5 (.e (.gk 1 Z (.j ?_)))))))
 obtain⟨nv6,ho1,h⟩:=bind_some h
 refine AWP.forL ho1 (fun kv7 nv6=>⟨[(1,.c (row 1 b9 all)),(2,(cR value)),(11,(cI nv6)),(12,.c (row 1 b9 a20.1)),(14,(cI kv7))],[]⟩) (fun _ _ _ k=>.G 2 Z (S.len Z Z fun hl=>.gn 1 Z (k hl))) (fun _ _=>Z) ?_ ?_ ?_
 ·try dsimp only
  exact Sub.cut ⟨Z,Z,Z,Z,Z,Y⟩ Z Y Z
 ·intro kv7 nv6 o hlokv7 hltkv7 h hl25
  unfold ac3 at h
  try dsimp only at h ⊢
  obtain⟨nv8,hx9,h⟩:=bind_some h
  refine AWP.seqJ (⟨[(1,.c (row 1 b9 all)),(2,(cR value)),(11,(cI nv8)),(12,.c (row 1 b9 a20.1)),(14,(cI kv7))],[]⟩) ?_ ?_
  ·refine AWP.j (.e ?_)
   obtain⟨a33,ha33,a35,ha35,a36,ha36,hx9⟩:=b3 hx9
   refine AWP.G 4 Z (S.idx ha33 Z Z Z Z (.G 1 Z (.q Z Z Z Z (N4 ha35) Z (S.idx ha36 Z Z Z Z (.G 2 Z (.nil (b5 (.gk 3 Z (.J Z hx9 (fun hc10 hx9=> ?_) (fun hc10 hx9=> ?_))))))))))
   ·refine AWP.G 2 Z (.nil (d6 ?_))
    obtain rfl:=oi hx9
    refine b5 (Sub.en Z)
   ·refine AWP.skip (d6 ?_)
    obtain rfl:=oi hx9
    refine b5 (Sub.en Z)
  ·refine AWP.G 1 Z (.add Z Z Z (by omega) (.u Z Z (.nil ?_)))
   obtain rfl:=oi h
   refine b5 (Sub.en Z)
 ·intro iz
  try dsimp only
  refine f9 (b5 (.gk 2 Z (.ret ?_)))
  obtain rfl:=oi h
  exact Done.ret Z Z
theorem ah9{p:List e9}{sv:Li}{r:Int}(h:F0 p sv=some r):e8 prog 28 [.c (row 2 f8 p),(cR sv)] ((cI r)):=by
 unfold e8
 refine FnOk.enter (rs:=[.t 4]) func28 Z ntmps28 results28 Z ⟨Y,Y⟩ (by kernel_rfl) Z ?_
 unfold F0 at h
 refine AWP.gk 1 Z (.e (.gk 1 Z (.j ?_)))
 obtain⟨oo,ho1,h⟩:=bind_some h
 refine AWP.rngL ho1 (fun iv3 _=>⟨[(0,.c (row 2 f8 p)),(1,(cR sv)),(5,(cI iv3))],[]⟩) (fun x e st=>e=.ret∧Done [.t 4] (fun t _=>t=(cI x)) .ret st) (fun _ _ _ k=>.G 2 Z (S.len Z Z fun hl=>.gn 1 Z (k hl))) (fun _ _=>Z) ?_ ?_ ?_ ?_
 ·try dsimp only
  exact Sub.en Z
 ·intro iv3 s o hloiv3 hltiv3 h hl8
  unfold Y5 at h
  try dsimp only at h ⊢
  refine AWP.e (.j (.e ?_))
  obtain⟨a14,ha14,a18,ha18,h⟩:=b2 h
  refine AWP.G 2 Z (S.idx ha14 Z Z Z Z (.G 3 Z (.q Z Z Z Z (af1 ha18) Z (.nil (b5 (.E Z h (fun hc4 h=> ?_) (fun hc4 h=> ?_)))))))
  ·refine AWP.e ?_
   obtain⟨a21,ha21,h⟩:=bind_some h
   refine AWP.G 2 Z (S.idx ha21 Z Z Z Z (.G 3 Z (.nil (b5 (.ret (i4 (d9 ?_)))))))
   obtain rfl:=oi h
   refine d9 ⟨_,Z,Z,?_⟩
   exact Done.ret Z Z
  ·refine AWP.skip (d6 (b5 (.G 1 Z (.add Z Z Z (by omega) (.u Z Z (.nil ?_))))))
   obtain rfl:=oi h
   refine b5 ⟨_,Z,?_⟩
   exact Sub.en Z
 ·intro iz _ he
  subst he
  try dsimp only at h ⊢
  refine f9 (b5 (.gk 1 Z (.ret ?_)))
  obtain rfl:=oi h
  exact Done.ret Z Z
 ·intro x e st he hq
  subst he
  try dsimp only at h hq
  obtain⟨rfl,hs⟩:=hq
  refine⟨_,Sub.refl _ _,?_⟩
  refine i4 (d9 ?_)
  obtain rfl:=oi h
  exact hs
theorem af9{ov:d5}{p:List e9}{r:(LL)}(h:Q3 ov p=some r):e8 prog 26 [.agg (tO ov),.c (row 2 f8 p)] (.c (row 1 b9 r)):=by
 unfold e8
 refine FnOk.enter (rs:=[.t 4]) func26 Z ntmps26 results26 Z ⟨Y,Y⟩ (by kernel_rfl) Z ?_
 unfold Q3 at h
 refine AWP.gk 2 Z (.gs 2 Z (S.lit (f:=b9) (l:=[ov.init]) (ess:=[[row 1 intI ov.init]]) Z Z Z Z Z Z Z ⟨⟨.inl Z,Y⟩,Y⟩ Z Z Z (.ge 1 Z (.e (.gk 1 Z (.j (.frzV (id:=1) (l:=[ov.init]) (env2:=[(1,.c (row 2 f8 p)),(2,(cP 0 0 0)),(5,.c (row 1 b9 [ov.init])),(6,(cB true))]) (σ2:=[(oE 4 (tO ov)),.dead]) Z Z (by exact⟨⟨_,Z,.inl ⟨Z,Z⟩⟩,⟨_,Z,.inl ⟨Z,Z⟩⟩,⟨_,Z,.inr ⟨_,Z,Z,Z⟩⟩,⟨_,Z,.inl ⟨Z,Z⟩⟩,Y⟩) Z (by exact⟨⟨Z,.inl ⟨Z,Z⟩,.inl ⟨Z,Z⟩,.inl ⟨Z,Z⟩,.inl ⟨Z,Z⟩,Y⟩,Y,Y⟩) ?_)))))))
 obtain⟨all5,ho1,h⟩:=bind_some h
 refine AWP.loopS ho1 (fun(all3,again4)=>⟨[(1,.c (row 2 f8 p)),(2,(cP 0 0 0)),(5,.c (row 1 b9 all3)),(6,(cB again4))],[(oE 4 (tO ov))]⟩) (fun all5 e st=>e=.exit 0∧Sub [] st ⟨[(5,.c (row 1 b9 all5))],[]⟩) ?_ ?_ ?_
 ·try dsimp only
  exact Sub.cut ⟨Z,Z,Z,Z,Y⟩ Z ⟨.one Z,Y⟩ Z
 ·intro s o h
  obtain⟨all3,again4⟩:=s
  unfold V4 at h
  try dsimp only at h ⊢
  refine AWP.e (.gk 1 Z (.E Z h (fun hc6 h=> ?_) (fun hc6 h=> ?_)))
  ·refine AWP.skip (b5 (.j (.gk 1 Z (.gk 1 Z (.j ?_)))))
   obtain⟨⟨all10,again11⟩,ho2,h⟩:=bind_some h
   try dsimp only at h
   refine AWP.loopS ho2 (fun(all7,again8,iv9)=>⟨[(1,.c (row 2 f8 p)),(2,(cP 0 0 0)),(5,.c (row 1 b9 all7)),(6,(cB again8)),(7,(cI iv9))],[(oE 4 (tO ov))]⟩) (fun(all10,again11) e st=>e=.exit 2∧Sub [] st ⟨[(1,.c (row 2 f8 p)),(2,(cP 0 0 0)),(5,.c (row 1 b9 all10)),(6,(cB again11))],[(oE 4 (tO ov))]⟩) ?_ ?_ ?_
   ·try dsimp only
    exact Sub.en Z
   ·intro s o h
    obtain⟨all7,again8,iv9⟩:=s
    unfold V9 at h
    try dsimp only at h ⊢
    refine AWP.e (.gs 2 Z (S.len Z Z (fun hl18=>.ge 1 Z (.J Z h (fun hc12 h=> ?_) (fun hc12 h=> ?_)))))
    ·refine AWP.skip (b5 ?_)
     obtain⟨⟨all13,again14⟩,hx15,h⟩:=bind_some h
     refine AWP.seqJ (⟨[(1,.c (row 2 f8 p)),(2,(cP 0 0 0)),(5,.c (row 1 b9 all13)),(6,(cB again14)),(7,(cI iv9))],[(oE 4 (tO ov))]⟩) ?_ ?_
     ·refine AWP.j (.e ?_)
      obtain⟨a25,ha25,a27,ha27,hx15⟩:=b2 hx15
      refine AWP.G 3 Z (S.idx ha25 Z Z Z Z (.G 1 Z (.q Z Z Z Z (ah9 ha27) Z (.u Z Z (.nil (b5 (.e ?_)))))))
      obtain⟨t16,hx17,hx15⟩:=bind_some hx15
      refine AWP.seqJ (⟨[(1,.c (row 2 f8 p)),(2,(cP 0 0 0)),(5,.c (row 1 b9 all7)),(6,(cB again8)),(7,(cI iv9)),(8,(cI a27)),(37,(cB t16))],[(oE 4 (tO ov))]⟩) ?_ ?_
      ·rcases bft (decide (a27<0)) with hb18|hb18
       ·replace hx17:=F8 hb18 hx17
        refine AWP.drawI mixed Z (b7.D 3 Z (b7.K Z hb18 Z (b7.D 7 Z (b7.done ?_))))
        dsimp only[h9]
        obtain rfl:=oi hx17
        refine b5 (Sub.en Z)
       ·replace hx17:=F1 hb18 hx17
        obtain⟨a34,ha34,a36,ha36,hx17⟩:=b2 hx17
        refine AWP.drawI mixed Z (b7.D 3 Z (b7.K Z hb18 Z (b7.D 3 Z ?_)))
        refine b7.consF Z (fun E=>.F Z Z Z Z (S.idx ha34 Z Z Z Z .N)) Z ?_
        refine b7.D 1 Z ?_
        refine b7.consF Z (fun E=>.F Z Z Z Z (.q Z Z Z Z (L5 ha36) Z .N)) Z ?_
        refine b7.D 1 Z (b7.done ?_)
        dsimp only[h9]
        obtain rfl:=oi hx17
        refine b5 (Sub.en Z)
      ·refine AWP.E Z hx15 (fun hc19 hx15=> ?_) (fun hc19 hx15=> ?_)
       ·refine AWP.exit (i5 (f9 ?_))
        obtain⟨ej0,ej1⟩:=o2 hx15
        subst ej0 ej1
        refine b5 (Sub.en Z)
       ·refine AWP.skip (b5 (.e ?_))
        obtain⟨a42,ha42,a45,ha45,hx15⟩:=b2 hx15
        refine AWP.drawI mixed Z (b7.D 3 Z ?_)
        refine b7.consF Z (fun E=>S.idx ha42 Z Z Z Z .N) Z ?_
        refine b7.D 2 Z ?_
        refine b7.consF Z (fun E=>.q Z Z Z Z (aj4 ha45) Z .N) Z ?_
        refine b7.D 5 Z (b7.done ?_)
        dsimp only[h9]
        refine b5 (.gk 1 Z (.j ?_))
        obtain⟨⟨all20,again21⟩,ho3,hx15⟩:=bind_some hx15
        try dsimp only at hx15
        refine AWP.forL ho3 (fun kv22 (all20,again21)=>⟨[(1,.c (row 2 f8 p)),(2,(cP 0 0 0)),(5,.c (row 1 b9 all20)),(6,(cB again21)),(7,(cI iv9)),(9,.c (row 1 b9 a45.1)),(11,(cI kv22))],[(oE 4 (tO ov))]⟩) (fun _ _ _ k=>.G 2 Z (S.len Z Z fun hl=>.gn 1 Z (k hl))) (fun _ _=>Z) ?_ ?_ ?_
        ·try dsimp only
         exact Sub.en Z
        ·intro kv22 s o hlokv22 hltkv22 h hl50
         obtain⟨all20,again21⟩:=s
         unfold O7 at h
         try dsimp only at h ⊢
         obtain⟨⟨all23,again24⟩,hx25,h⟩:=bind_some h
         refine AWP.seqJ (⟨[(1,.c (row 2 f8 p)),(2,(cP 0 0 0)),(5,.c (row 1 b9 all23)),(6,(cB again24)),(7,(cI iv9)),(9,.c (row 1 b9 a45.1)),(11,(cI kv22))],[(oE 4 (tO ov))]⟩) ?_ ?_
         ·refine AWP.j (.e ?_)
          obtain⟨a57,ha57,a59,ha59,hx25⟩:=b2 hx25
          refine AWP.G 3 Z (S.idx ha57 Z Z Z Z (.G 1 Z (.q Z Z Z Z (N4 ha59) Z (.lss Z Z Z (.nil (b5 (.J Z hx25 (fun hc26 hx25=> ?_) (fun hc26 hx25=> ?_))))))))
          ·refine AWP.e ?_
           obtain⟨a64,ha64,a66,ha66,hx25⟩:=b2 hx25
           refine AWP.G 3 Z (S.idx ha64 Z Z Z Z (.G 1 Z (.q Z Z Z Z (ar8 ha66) Z (.u Z Z (.nil (b5 (.G 1 Z (.nil (d6 ?_)))))))))
           obtain⟨ej0,ej1⟩:=o2 hx25
           subst ej0 ej1
           refine b5 (Sub.en Z)
          ·refine AWP.skip (d6 ?_)
           obtain⟨ej0,ej1⟩:=o2 hx25
           subst ej0 ej1
           refine b5 (Sub.en Z)
         ·try dsimp only at h
          refine AWP.G 1 Z (.add Z Z Z (by omega) (.u Z Z (.nil ?_)))
          obtain rfl:=oi h
          refine b5 (Sub.en Z)
        ·intro iz
         try dsimp only
         refine f9 (d6 ?_)
         obtain⟨ej0,ej1⟩:=o2 hx15
         subst ej0 ej1
         refine b5 (Sub.en Z)
     ·try dsimp only at h
      refine AWP.G 3 Z (.nil ?_)
      obtain rfl:=oi h
      refine b5 ⟨_,Z,?_⟩
      exact Sub.en Z
    ·refine AWP.exit (i5 ?_)
     obtain rfl:=oi h
     refine i5 ⟨_,Z,Z,?_⟩
     exact Sub.en Z
   ·intro e s hq
    obtain⟨rfl,hs⟩:=hq
    refine⟨_,hs,?_⟩
    refine f9 (d6 ?_)
    obtain rfl:=oi h
    refine b5 ⟨_,Z,?_⟩
    exact Sub.en Z
  ·refine AWP.exit (i5 ?_)
   obtain rfl:=oi h
   refine i5 ⟨_,Z,Z,?_⟩
   exact Sub.cut ⟨Z,Y⟩ Z Y Z
 ·intro e s hq
  obtain⟨rfl,hs⟩:=hq
  refine⟨_,hs,?_⟩
  refine f9 (b5 (.gk 2 Z (.ret ?_)))
  obtain rfl:=oi h
  exact Done.ret Z Z
theorem ref8_Keeps_ok{ov:d5}{p:List e9}{r:Bool}(h:ag5 ov p=some r):e8 prog 25 [.agg (tO ov),.c (row 2 f8 p)] ((cB r)):=by
 unfold e8
 refine FnOk.enter (rs:=[.t 4]) func25 Z ntmps25 results25 Z ⟨Y,Y⟩ (by kernel_rfl) Z ?_
 unfold ag5 at h
 refine AWP.gk 2 Z (.e ?_)
 obtain⟨a15,ha15,h⟩:=bind_some h
 refine AWP.G 2 Z (.q Z Z Z Z (af9 ha15) Z (.u Z Z (.nil (b5 (.e ?_)))))
 obtain⟨a18,ha18,h⟩:=bind_some h
 refine AWP.G 1 Z (S.len Z Z (fun hl17=>S.make (f:=intI) ha18 (.val .nil) Z Z Z Z Z Z (.u Z Z (.nil (b5 (.e (.gk 1 Z (.j ?_))))))))
 obtain⟨c3,ho1,h⟩:=bind_some h
 refine AWP.forL ho1 (fun iv4 c3=>⟨[(1,.c (row 2 f8 p)),(2,(cP 0 0 0)),(5,.c (row 1 b9 a15)),(6,.c (.own 1 0 c3.length)),(7,(cI iv4))],[(oE 4 (tO ov)),(oV 1 intI c3)]⟩) (fun _ _ _ k=>.G 2 Z (S.len Z Z fun hl=>.gn 1 Z (k hl))) (fun _ _=>Z) ?_ ?_ ?_
 ·try dsimp only
  exact Sub.en Z
 ·intro iv4 c3 o hloiv4 hltiv4 h hl21
  unfold ac1 at h
  try dsimp only at h ⊢
  obtain⟨c5,hx6,h⟩:=bind_some h
  refine AWP.seqJ (⟨[(1,.c (row 2 f8 p)),(2,(cP 0 0 0)),(5,.c (row 1 b9 a15)),(6,.c (.own 1 0 c5.length)),(7,(cI iv4))],[(oE 4 (tO ov)),(oV 1 intI c5)]⟩) ?_ ?_
  ·refine AWP.j (.e ?_)
   obtain⟨a28,ha28,a30,ha30,hx6⟩:=b2 hx6
   refine AWP.drawI mixed Z (b7.D 3 Z ?_)
   refine b7.consF Z (fun E=>S.idx ha28 Z Z Z Z .N) Z ?_
   refine b7.D 1 Z ?_
   refine b7.consF Z (fun E=>.q Z Z Z Z (L5 ha30) Z .N) Z ?_
   refine b7.D 1 Z (b7.done ?_)
   dsimp only[h9]
   refine b5 (.E Z hx6 (fun hc7 hx6=> ?_) (fun hc7 hx6=> ?_))
   ·obtain⟨a34,ha34,hx6⟩:=bind_some hx6
    refine AWP.G 2 Z (S.idxO ha34 Z Z Z Z Z (S.storeO1 (f:=intI) (a':=1000000000) (q7 ha34) (fun _=>⟨_,Z⟩) Z Z Z Z Z ?_))
    refine AOps.nil (d6 ?_)
    obtain rfl:=oi hx6
    refine b5 (Sub.env ⟨Z,Z,Z,(o7 (by first|rfl|simp only[lS])),Z,Y⟩)
   ·refine AWP.skip (d6 ?_)
    obtain rfl:=oi hx6
    refine b5 (Sub.en Z)
  ·refine AWP.G 1 Z (.add Z Z Z (by omega) (.u Z Z (.nil ?_)))
   obtain rfl:=oi h
   refine b5 (Sub.en Z)
 ·intro iz
  try dsimp only
  refine f9 (b5 (.e (.gk 1 Z (.j ?_))))
  obtain⟨c10,ho2,h⟩:=bind_some h
  refine AWP.loopS ho2 (fun(c8,again9)=>⟨[(1,.c (row 2 f8 p)),(2,(cP 0 0 0)),(5,.c (row 1 b9 a15)),(6,.c (.own 1 0 c8.length)),(8,(cB again9))],[(oE 4 (tO ov)),(oV 1 intI c8)]⟩) (fun c10 e st=>e=.exit 2∧Sub [] st ⟨[(5,.c (row 1 b9 a15)),(6,.c (.own 1 0 c10.length))],[.dead,(oV 1 intI c10)]⟩) ?_ ?_ ?_
  ·try dsimp only
   exact Sub.en Z
  ·intro s o h
   obtain⟨c8,again9⟩:=s
   unfold ab5 at h
   try dsimp only at h ⊢
   refine AWP.e (.gk 1 Z (.E Z h (fun hc11 h=> ?_) (fun hc11 h=> ?_)))
   ·refine AWP.skip (b5 (.j (.gk 1 Z (.gk 1 Z (.j ?_)))))
    obtain⟨⟨c12,again13⟩,ho3,h⟩:=bind_some h
    try dsimp only at h
    refine AWP.forL ho3 (fun iv14 (c12,again13)=>⟨[(1,.c (row 2 f8 p)),(2,(cP 0 0 0)),(5,.c (row 1 b9 a15)),(6,.c (.own 1 0 c12.length)),(8,(cB again13)),(9,(cI iv14))],[(oE 4 (tO ov)),(oV 1 intI c12)]⟩) (fun _ _ _ k=>.G 2 Z (S.len Z Z fun hl=>.gn 1 Z (k hl))) (fun _ _=>Z) ?_ ?_ ?_
    ·try dsimp only
     exact Sub.en Z
    ·intro iv14 s o hloiv14 hltiv14 h hl38
     obtain⟨c12,again13⟩:=s
     unfold ac6 at h
     try dsimp only at h ⊢
     obtain⟨⟨c15,again16⟩,hx17,h⟩:=bind_some h
     refine AWP.seqJ (⟨[(1,.c (row 2 f8 p)),(2,(cP 0 0 0)),(5,.c (row 1 b9 a15)),(6,.c (.own 1 0 c15.length)),(8,(cB again16)),(9,(cI iv14))],[(oE 4 (tO ov)),(oV 1 intI c15)]⟩) ?_ ?_
     ·refine AWP.j (.e ?_)
      obtain⟨a45,ha45,a47,ha47,hx17⟩:=b2 hx17
      refine AWP.G 3 Z (S.idx ha45 Z Z Z Z (.G 1 Z (.q Z Z Z Z (ah9 ha47) Z (.u Z Z (.nil (b5 (.e ?_)))))))
      obtain⟨a51,ha51,a53,ha53,hx17⟩:=b2 hx17
      refine AWP.seqJ (⟨[(1,.c (row 2 f8 p)),(2,(cP 0 0 0)),(5,.c (row 1 b9 a15)),(6,.c (.own 1 0 c12.length)),(8,(cB again13)),(9,(cI iv14)),(10,(cI a47)),(57,(cB (a53||(decide (a47<0)))))],[(oE 4 (tO ov)),(oV 1 intI c12)]⟩) ?_ ?_
      ·rcases bft (a53) with hb1|hb1
       ·refine AWP.drawI mixed Z (b7.D 3 Z ?_)
        refine b7.consF Z (fun E=>S.idx ha51 Z Z Z Z .N) Z ?_
        refine b7.D 1 Z ?_
        refine b7.consF Z (fun E=>.q Z Z Z Z (L5 ha53) Z .N) Z ?_
        refine b7.D 1 Z (b7.K Z hb1 Z (b7.D 3 Z (b7.done ?_)))
        dsimp only[h9]
        refine b5 ?_
        simp only[S4 hb1,or_t hb1,Bool.false_or,Bool.true_or,Bool.false_and,Bool.true_and]
        exact Sub.en Z
       ·refine AWP.drawI mixed Z (b7.D 3 Z ?_)
        refine b7.consF Z (fun E=>S.idx ha51 Z Z Z Z .N) Z ?_
        refine b7.D 1 Z ?_
        refine b7.consF Z (fun E=>.q Z Z Z Z (L5 ha53) Z .N) Z ?_
        refine b7.D 1 Z (b7.K Z hb1 Z (b7.D 3 Z (b7.done ?_)))
        dsimp only[h9]
        refine b5 ?_
        simp only[V1 hb1,or_f hb1,Bool.false_or,Bool.true_or,Bool.false_and,Bool.true_and]
        exact Sub.en Z
      ·refine AWP.E Z hx17 (fun hc18 hx17=> ?_) (fun hc18 hx17=> ?_)
       ·refine AWP.exit (i5 (f9 ?_))
        obtain⟨ej0,ej1⟩:=o2 hx17
        subst ej0 ej1
        refine b5 (Sub.en Z)
       ·refine AWP.skip (b5 (.e ?_))
        obtain⟨a63,ha63,a66,ha66,hx17⟩:=b2 hx17
        refine AWP.drawI mixed Z (b7.D 5 Z ?_)
        refine b7.consF Z (fun E=>S.idx ha63 Z Z Z Z .N) Z ?_
        refine b7.D 2 Z ?_
        refine b7.consF Z (fun E=>.U Z Z (.cons (.agg (.cons .imm (.cons .imm (.cons .imm (.cons .imm .nil))))) (.cons (.c .imm) (.cons (.c (.own Z Z)) (.cons (.c .imm) (.cons (.c .imm) .nil))))) Z (ref8_Least_ok ha66) Z .N) Z ?_
        refine b7.D 1 Z (b7.done ?_)
        dsimp only[h9]
        refine b5 (.e ?_)
        obtain⟨a71,ha71,hx17⟩:=bind_some hx17
        refine AWP.G 4 Z (S.idxO ha71 Z Z Z Z Z (S.loadO ha71 Z Z Z Z Z (.lss Z Z Z (.nil (b5 (.J Z hx17 (fun hc19 hx17=> ?_) (fun hc19 hx17=> ?_)))))))
        ·refine AWP.e ?_
         obtain⟨a78,ha78,hx17⟩:=bind_some hx17
         refine AWP.G 4 Z (S.idxO ha78 Z Z Z Z Z (S.storeO1 (f:=intI) (a':=w64 (a66+1)) (q7 ha78) (fun _=>⟨_,Z⟩) Z Z Z Z Z ?_))
         refine AOps.nil (b5 (.G 1 Z (.nil (d6 ?_))))
         obtain⟨ej0,ej1⟩:=o2 hx17
         subst ej0 ej1
         refine b5 (Sub.env ⟨Z,Z,Z,(o7 (by first|rfl|simp only[lS])),Z,Z,Y⟩)
        ·refine AWP.skip (d6 ?_)
         obtain⟨ej0,ej1⟩:=o2 hx17
         subst ej0 ej1
         refine b5 (Sub.en Z)
     ·try dsimp only at h
      refine AWP.G 1 Z (.add Z Z Z (by omega) (.u Z Z (.nil ?_)))
      obtain rfl:=oi h
      refine b5 (Sub.en Z)
    ·intro iz
     try dsimp only
     refine f9 (d6 ?_)
     obtain rfl:=oi h
     refine b5 ⟨_,Z,?_⟩
     exact Sub.en Z
   ·refine AWP.exit (i5 ?_)
    obtain rfl:=oi h
    refine i5 ⟨_,Z,Z,?_⟩
    exact Sub.cut ⟨Z,Z,Y⟩ Z ⟨.dead,.vec,Y⟩ Z
  ·intro e s hq
   obtain⟨rfl,hs⟩:=hq
   refine⟨_,hs,?_⟩
   refine f9 (b5 (.e (.gk 1 Z (.j ?_))))
   obtain⟨oo,ho4,h⟩:=bind_some h
   refine AWP.rngL ho4 (fun iv20 _=>⟨[(5,.c (row 1 b9 a15)),(6,.c (.own 1 0 c10.length)),(12,(cI iv20))],[.dead,(oV 1 intI c10)]⟩) (fun x e st=>e=.ret∧Done [.t 4] (fun t _=>t=(cB x)) .ret st) (fun _ _ _ k=>.G 2 Z (S.len Z Z fun hl=>.gn 1 Z (k hl))) (fun _ _=>Z) ?_ ?_ ?_ ?_
   ·try dsimp only
    exact Sub.en Z
   ·intro iv20 s o hloiv20 hltiv20 h hl81
    unfold ac5 at h
    try dsimp only at h ⊢
    refine AWP.e (.j (.e ?_))
    obtain⟨a87,ha87,h⟩:=bind_some h
    refine AWP.G 2 Z (S.idxO ha87 Z Z Z Z Z (S.loadO ha87 Z Z Z Z Z (.geq Z Z Z (.nil (b5 (.J Z h (fun hc21 h=> ?_) (fun hc21 h=> ?_)))))))
    ·refine AWP.gk 1 Z (.ret (i4 (d9 ?_)))
     obtain rfl:=oi h
     refine d9 ⟨_,Z,Z,?_⟩
     exact Done.ret Z Z
    ·refine AWP.skip (d6 (b5 (.G 1 Z (.add Z Z Z (by omega) (.u Z Z (.nil ?_))))))
     obtain rfl:=oi h
     refine b5 ⟨_,Z,?_⟩
     exact Sub.en Z
   ·intro iz _ he
    subst he
    try dsimp only at h ⊢
    refine f9 (b5 (.gk 1 Z (.ret ?_)))
    obtain rfl:=oi h
    exact Done.ret Z Z
   ·intro x e st he hq
    subst he
    try dsimp only at h hq
    obtain⟨rfl,hs⟩:=hq
    refine⟨_,Sub.refl _ _,?_⟩
    refine i4 (d9 ?_)
    obtain rfl:=oi h
    exact hs
theorem aq2:∀(n:Nat) (xs:(LL)) (r:Int),recN (v7) n xs=some r→FnOk prog 74 [.c (row 1 b9 xs)] (ae2 xs) (fun tt ss=>tt=(cI r)∧ss=[]):=by
 intro n
 induction n with
 |zero=>intro xs r h;cases h
 |succ n ih=>
  intro m r h
  have h:v7 (recN (v7) n) m=some r:=h
  revert ih h
  generalize recN (v7) n=slf
  intro hslf h
  try dsimp only
  refine FnOk.enter (rs:=[.t 2]) func74 Z ntmps74 results74 Z ⟨Y,Y⟩ (by kernel_rfl) Z ?_
  refine AWP.weak ?_
  unfold v7 at h
  try dsimp only at h
  refine AWP.gk 1 Z (.e (.gs 1 Z (S.len Z Z (fun hl9=>.ge 1 Z (.J Z h (fun hc3 h=> ?_) (fun hc3 h=> ?_))))))
  ·refine AWP.gk 1 Z (.ret (d9 ?_))
   obtain rfl:=oi h
   exact⟨⟨[(2,(cI 1))],[]⟩,Sub.env ⟨Z,Y⟩,Done.ret Z ⟨Z,Z⟩⟩
  ·refine AWP.skip (b5 (.gk 1 Z (.gk 1 Z (.e (.gk 1 Z (.j ?_))))))
   obtain⟨⟨sum4,sign5⟩,ho1,h⟩:=bind_some h
   try dsimp only at h
   refine AWP.forL ho1 (fun c6 (sum4,sign5)=>⟨[(0,.c (row 1 b9 m)),(3,(cI sum4)),(4,(cI sign5)),(5,(cI c6))],[]⟩) (fun _ _ _ k=>.G 2 Z (S.len Z Z fun hl=>.gn 1 Z (k hl))) (fun _ _=>Z) ?_ ?_ ?_
   ·try dsimp only
    exact Sub.en Z
   ·intro c6 s o hloc6 hltc6 h hl13
    obtain⟨sum4,sign5⟩:=s
    unfold E4 at h
    try dsimp only at h ⊢
    refine AWP.e (.j ?_)
    obtain⟨sum7,hx8,h⟩:=bind_some h
    refine AWP.seqJ (⟨[(0,.c (row 1 b9 m)),(3,(cI sum7)),(4,(cI sign5)),(5,(cI c6))],[]⟩) ?_ ?_
    ·refine AWP.e ?_
     obtain⟨a18,ha18,a21,ha21,hx8⟩:=b2 hx8
     refine AWP.G 1 Z (S.idx ha18 Z Z Z Z (.G 2 Z (S.idx ha21 Z Z Z Z (.G 2 Z (.nil (b5 (.iteN Z hx8 (fun hc9 hx8=> ?_) (fun hc9 hx8=> ?_))))))))
     ·refine AWP.gk 1 Z (.e (.gk 1 Z (.j (.virtVM 1 intI 6 Z Z Z Z ?_))))
      obtain⟨c10,ho2,hx8⟩:=bind_some hx8
      refine AWP.forL ho2 (fun iv11 c10=>⟨[(0,.c (row 1 b9 m)),(3,(cI sum4)),(4,(cI sign5)),(5,(cI c6)),(6,.c (.own 0 0 c10.length)),(7,(cI iv11))],[mat (0,[]) 1 intI c10]⟩) (fun _ _ _ k=>.G 2 Z (S.len Z Z fun hl=>.gn 1 Z (k hl))) (fun _ _=>Z) ?_ ?_ ?_
      ·try dsimp only
       exact Sub.en Z
      ·intro iv11 c10 o hloiv11 hltiv11 h hl26
       unfold E5 at h
       try dsimp only at h ⊢
       refine AWP.e (.j ?_)
       obtain⟨a34,ha34,a37,ha37,a38,ha38,h⟩:=b3 h
       obtain⟨a41,ha41,a45,ha45,a46,ha46,h⟩:=b3 h
       obtain⟨a48,ha48,h⟩:=bind_some h
       refine AWP.drawEI [1,8,16,17,18] mixed Z Z Z (b8.D 1 Z Z ?_)
       apply b8.consE;exact Z;exact Z;intro E
       refine S.lit (f:=intI) (l:=[]) (ess:=[]) Z Z Z Z Z Z Z Y Z Z Z .N
       exact Z
       exact Z
       refine b8.D 2 Z Z ?_
       refine b8.consN Z Z (fun E=>S.idx ha34 Z Z Z Z .N) Z ?_
       refine b8.D 2 Z Z ?_
       refine b8.consN Z Z (fun E=>S.subTo ha37 Z Z Z .N) Z ?_
       apply b8.consE;exact Z;exact Z;intro E
       refine S.append (f:=intI) ha38 Z Z Z Z Z Z .row Z Z Z Z .N
       exact Z
       exact Z
       refine b8.D 2 Z Z ?_
       refine b8.consN Z Z (fun E=>S.idx ha41 Z Z Z Z .N) Z ?_
       refine b8.D 2 Z Z ?_
       refine b8.consN Z Z (fun E=>.add Z Z Z (by omega) .N) Z (.consN Z Z (fun E=>S.subFrom ha45 Z Z Z .N) Z ?_)
       apply b8.consE;exact Z;exact Z;intro E
       refine S.append (f:=intI) ha46 Z Z Z Z Z Z .row Z Z Z Z .N
       exact Z
       exact Z
       apply b8.consE;exact Z;exact Z;intro E
       refine W.lit1 Z Z Z Z Z Z Z Z Z .N
       exact Z
       exact Z
       apply b8.consE;exact Z;exact Z;intro E
       refine S.appendMR (k:=1) (f:=intI) (a:=a46) ha48 Z Z Z Z Z Z Z Z Z Z Z Z Z Z Z Z .N
       exact Z
       exact Z
       refine b8.D 1 Z Z (b8.done Z ?_ ?_)
       ·refine d8.D 4 Z Z ?_
        refine d8.cons Z Z (.go Z Z (fun E=>S.idx ha34 Z Z Z Z .N) (.go Z Z (fun E=>S.idx ha34 Z Z Z Z .N) (.skip Z (.skip Z (.skip Z (.skip Z .nil)))))) ?_
        refine d8.D 2 Z Z ?_
        refine d8.cons Z Z (.go Z Z (fun E=>S.subTo ha37 Z Z Z .N) (.go Z Z (fun E=>S.subTo ha37 Z Z Z .N) (.skip Z (.skip Z (.skip Z (.skip Z .nil)))))) ?_
        refine d8.D 3 Z Z ?_
        refine d8.cons Z Z (.go Z Z (fun E=>S.idx ha41 Z Z Z Z .N) (.go Z Z (fun E=>S.idx ha41 Z Z Z Z .N) (.go Z Z (fun E=>S.idx ha41 Z Z Z Z .N) (.skip Z (.skip Z (.skip Z .nil)))))) ?_
        refine d8.D 2 Z Z ?_
        refine d8.cons Z Z (.go Z Z (fun E=>.add Z Z Z (by omega) .N) (.go Z Z (fun E=>.add Z Z Z (by omega) .N) (.go Z Z (fun E=>.add Z Z Z (by omega) .N) (.skip Z (.skip Z (.skip Z .nil)))))) (.cons Z Z (.go Z Z (fun E=>S.subFrom ha45 Z Z Z .N) (.go Z Z (fun E=>S.subFrom ha45 Z Z Z .N) (.go Z Z (fun E=>S.subFrom ha45 Z Z Z .N) (.skip Z (.skip Z (.skip Z .nil)))))) ?_)
        refine d8.D 4 Z Z (d8.nil)
       dsimp only[h9]
       refine d6 (b5 (.moveM (env':=[(0,.c (row 1 b9 m)),(3,(cI sum4)),(4,(cI sign5)),(5,(cI c6)),(6,.c (.own 0 0 a48.length)),(7,(cI iv11))]) (σ':=[mat (0,[]) 1 intI a48,.dead,.dead,.dead,(o1 (.own 3 0 a46.length))]) 0 5 Z Z Z ⟨Z,Z,Z,Z,Z,Z,Y⟩ Z ⟨(.mat Z Z Z),.dead,.dead,.dead,(.one Z Z),Y⟩ (.G 1 Z (.add Z Z Z (by omega) (.u Z Z (.nil ?_))))))
       obtain rfl:=oi h
       refine b5 (Sub.cut ⟨Z,Z,Z,Z,Z,Z,Y⟩ Z ⟨.mat Z,Y⟩ Z)
      ·intro iz
       try dsimp only
       refine f9 (b5 (.matV' (k:=1) (f:=intI) (env':=[(0,.c (row 1 b9 m)),(3,(cI sum4)),(4,(cI sign5)),(5,(cI c6)),(6,.c (.own 0 0 c10.length))]) (σ':=[(oV 1 b9 c10)]) 0 Z ⟨Z,Z,Z,Z,Z,Y⟩ Z (by exact⟨.self,Y⟩) Z Z (.frzV (id:=0) (l:=c10) (env2:=[(0,.c (row 1 b9 m)),(3,(cI sum4)),(4,(cI sign5)),(5,(cI c6)),(6,.c (row 1 b9 c10))]) (σ2:=[.dead]) Z Z (by exact⟨⟨_,Z,.inl ⟨Z,Z⟩⟩,⟨_,Z,.inl ⟨Z,Z⟩⟩,⟨_,Z,.inl ⟨Z,Z⟩⟩,⟨_,Z,.inl ⟨Z,Z⟩⟩,⟨_,Z,.inr ⟨_,Z,Z,Z⟩⟩,Y⟩) Z (by exact⟨Y,Y⟩) ?_)))
       obtain⟨a52,ha52,a55,ha55,a59,ha59,hx8⟩:=b3 hx8
       refine AWP.drawEI [10] mixed Z Z Z (b8.D 3 Z Z ?_)
       refine b8.consN Z Z (fun E=>S.idx ha52 Z Z Z Z .N) Z ?_
       refine b8.D 2 Z Z ?_
       refine b8.consN Z Z (fun E=>S.idx ha55 Z Z Z Z .N) Z ?_
       refine b8.D 3 Z Z ?_
       apply b8.consE;exact Z;exact Z;intro E
       refine AOps.callF (r2:=(cI a59)) (σ'':=[.dead]) Z Z Z (FnOk.lend [] (hslf _ _ ha59) Z Z Z Z Z Z (by exact Y) Z (by exact Y) Z Z (by exact⟨.dead,Y⟩)) .N
       exact Z
       exact Z
       refine b8.D 3 Z Z (b8.done Z ?_ ?_)
       ·refine d8.D 3 Z Z ?_
        refine d8.cons Z Z ?_ ?_
        refine i6.go Z Z (fun E=>S.idx ha52 Z Z Z Z .N) ?_
        refine i6.go Z Z (fun E=>S.idx ha52 Z Z Z Z .N) ?_
        exact i6.nil
        refine d8.D 2 Z Z ?_
        refine d8.cons Z Z ?_ ?_
        refine i6.go Z Z (fun E=>S.idx ha55 Z Z Z Z .N) ?_
        refine i6.go Z Z (fun E=>S.idx ha55 Z Z Z Z .N) ?_
        exact i6.nil
        refine d8.D 7 Z Z (d8.nil)
       dsimp only[h9]
       obtain rfl:=oi hx8
       refine b5 (Sub.cut ⟨Z,Z,Z,Z,Y⟩ Z Y Z)
     ·refine AWP.skip ?_
      obtain rfl:=oi hx8
      refine b5 (Sub.en Z)
    ·refine AWP.G 1 Z (S.neg Z Z (.u Z Z (.nil (d6 (b5 (.G 1 Z (.add Z Z Z (by omega) (.u Z Z (.nil ?_)))))))))
     obtain rfl:=oi h
     refine b5 (Sub.en Z)
   ·intro iz
    try dsimp only
    refine f9 (b5 (.gk 2 Z (.ret ?_)))
    obtain rfl:=oi h
    exact⟨⟨[(2,(cI sum4))],[]⟩,Sub.env ⟨Z,Y⟩,Done.ret Z ⟨Z,Z⟩⟩
theorem ad8{m:LL}{r:Int}(h:I0 m=some r):FnOk prog 74 [.c (row 1 b9 m)] (ae2 m) (fun tt ss=>tt=(cI r)∧ss=[]):=by
 obtain⟨n,hn⟩:=Rec_some h
 exact aq2 n _ r hn
theorem az5{ov:d5}{states:LL}{ops:Li}{r:Li×Int}(h:T3 ov states ops=some r):e8 prog 29 [.agg (tO ov),.c (row 1 b9 states),(cR ops)] (.tup [(cR r.1),(cI r.2)]):=by
 unfold e8
 refine FnOk.enter (rs:=[.t 6,.t 7]) func29 Z ntmps29 results29 Z ⟨Y,Y,Y⟩ (by kernel_rfl) Z ?_
 unfold T3 at h
 refine AWP.gk 3 Z (.gs 1 Z (S.len Z Z (fun hl26=>.ge 1 Z (.gk 1 Z (.gk 1 Z (.e (.gk 1 Z (.j (.virtV 1 b9 9 Z Z Z (.virtV 1 intI 10 Z Z Z ?_))))))))))
 obtain⟨⟨c4,c5⟩,ho1,h⟩:=bind_some h
 try dsimp only at h
 refine AWP.forL ho1 (fun iv6 (c4,c5)=>⟨[(1,.c (row 1 b9 states)),(2,(cR ops)),(3,(cP 0 0 0)),(8,(cI (states.length:Int))),(9,.c (.own 1 0 c4.length)),(10,.c (.own 2 0 c5.length)),(11,(cI iv6))],[(oE 4 (tO ov)),(oV 1 b9 c4),(oV 1 intI c5)]⟩) (fun _ _ _ k=>.gn 3 Z (k Y)) (fun _ _=>Z) ?_ ?_ ?_
 ·try dsimp only
  exact Sub.env ⟨Z,Z,Z,Z,(o7 (by first|rfl|simp only[lS])),(o7 (by first|rfl|simp only[lS])),Z,Y⟩
 ·intro iv6 s o hloiv6 hltiv6 h _
  obtain⟨c4,c5⟩:=s
  unfold S9 at h
  try dsimp only at h ⊢
  refine AWP.e (.j (.e ?_))
  obtain⟨a33,ha33,h⟩:=bind_some h
  refine AWP.G 1 Z (S.make (f:=intI) ha33 (.val .nil) Z Z Z Z Z Z (.u Z Z (.nil (b5 (.gk 1 Z (.e ?_))))))
  obtain⟨a38,ha38,a42,ha42,a44,ha44,h⟩:=b3 h
  refine AWP.drawI mixed Z (b7.D 3 Z ?_)
  refine b7.consF Z (fun E=>S.idx ha38 Z Z Z Z .N) Z ?_
  refine b7.D 3 Z ?_
  refine b7.consF Z (fun E=>S.idx ha42 Z Z Z Z .N) Z ?_
  refine b7.D 1 Z ?_
  refine b7.consF Z (fun E=>.q Z Z Z Z (aj4 ha44) Z .N) Z ?_
  refine b7.D 5 Z (b7.done ?_)
  dsimp only[h9]
  refine b5 (.e (.gk 1 Z (.j ?_)))
  obtain⟨⟨c7,sum8⟩,ho2,h⟩:=bind_some h
  try dsimp only at h
  refine AWP.forL ho2 (fun kv9 (c7,sum8)=>⟨[(1,.c (row 1 b9 states)),(2,(cR ops)),(3,(cP 0 0 0)),(8,(cI (states.length:Int))),(9,.c (.own 1 0 c4.length)),(10,.c (.own 2 0 c5.length)),(11,(cI iv6)),(12,.c (.own 3 0 c7.length)),(13,(cI sum8)),(14,.c (row 1 b9 a44.1)),(15,(cR a44.2)),(16,(cI kv9))],[(oE 4 (tO ov)),(oV 1 b9 c4),(oV 1 intI c5),(oV 1 intI c7)]⟩) (fun _ _ _ k=>.G 2 Z (S.len Z Z fun hl=>.gn 1 Z (k hl))) (fun _ _=>Z) ?_ ?_ ?_
  ·try dsimp only
   exact Sub.en Z
  ·intro kv9 s o hlokv9 hltkv9 h hl49
   obtain⟨c7,sum8⟩:=s
   unfold L4 at h
   try dsimp only at h ⊢
   obtain⟨⟨c10,sum11⟩,hx12,h⟩:=bind_some h
   refine AWP.seqJ (⟨[(1,.c (row 1 b9 states)),(2,(cR ops)),(3,(cP 0 0 0)),(8,(cI (states.length:Int))),(9,.c (.own 1 0 c4.length)),(10,.c (.own 2 0 c5.length)),(11,(cI iv6)),(12,.c (.own 3 0 c10.length)),(13,(cI sum11)),(14,.c (row 1 b9 a44.1)),(15,(cR a44.2)),(16,(cI kv9))],[(oE 4 (tO ov)),(oV 1 b9 c4),(oV 1 intI c5),(oV 1 intI c10)]⟩) ?_ ?_
   ·refine AWP.j (.e ?_)
    obtain⟨a57,ha57,a61,ha61,a64,ha64,hx12⟩:=b3 hx12
    refine AWP.drawEI [12] mixed Z Z Z (b8.D 4 Z Z ?_)
    refine b8.consN Z Z (fun E=>S.idxO ha57 Z Z Z Z Z .N) Z (.consN Z Z (fun E=>S.loadO ha57 Z Z Z Z Z .N) Z ?_)
    refine b8.D 2 Z Z ?_
    refine b8.consN Z Z (fun E=>S.idx ha61 Z Z Z Z .N) Z ?_
    refine b8.D 2 Z Z ?_
    refine b8.consN Z Z (fun E=>S.idxO ha64 Z Z Z Z Z .N) Z ?_
    apply b8.consE (v:=.undef);exact Z;exact Z;intro E
    refine S.storeO1 (f:=intI) (a':=w64 (a57+a61)) (q7 ha64) (fun _=>⟨_,Z⟩) Z Z Z Z Z ?_
    exact AOps.nil ⟨Z,Z⟩
    exact Z
    exact Z
    refine b8.done Z ?_ ?_
    ·refine d8.D 4 Z Z ?_
     refine d8.cons Z Z (.go Z Z (fun E=>S.idxO ha57 Z Z Z Z Z .N) (.skip Z .nil)) (.cons Z Z (.go Z Z (fun E=>S.loadO ha57 Z Z Z Z Z .N) (.skip Z .nil)) ?_)
     refine d8.D 2 Z Z ?_
     refine d8.cons Z Z (.go Z Z (fun E=>S.idx ha61 Z Z Z Z .N) (.skip Z .nil)) ?_
     refine d8.D 2 Z Z ?_
     refine d8.cons Z Z (.go Z Z (fun E=>S.idxO ha64 Z Z Z Z Z .N) (.skip Z .nil)) ?_
     refine d8.D 1 Z Z (d8.nil)
    dsimp only[h9]
    refine b5 (.e ?_)
    obtain⟨a68,ha68,a74,ha74,a76,ha76,hx12⟩:=b3 hx12
    refine AWP.drawI mixed Z (b7.D 3 Z ?_)
    refine b7.consF Z (fun E=>S.idx ha68 Z Z Z Z .N) Z ?_
    refine b7.D 5 Z ?_
    refine b7.consF Z (fun E=>S.idx ha74 Z Z Z Z .N) Z ?_
    refine b7.D 1 Z ?_
    refine b7.consF Z (fun E=>S.idx ha76 Z Z Z Z .N) Z ?_
    refine b7.D 5 Z (b7.done ?_)
    dsimp only[h9]
    refine b5 (.e ?_)
    obtain⟨a84,ha84,a86,ha86,hx12⟩:=b2 hx12
    refine AWP.drawI mixed Z (b7.D 3 Z ?_)
    refine b7.consF Z (fun E=>S.idx ha84 Z Z Z Z .N) Z ?_
    refine b7.D 1 Z ?_
    refine b7.consF Z (fun E=>.q Z Z Z Z (L5 ha86) Z .N) Z ?_
    refine b7.D 1 Z (b7.done ?_)
    dsimp only[h9]
    refine b5 (.E Z hx12 (fun hc13 hx12=> ?_) (fun hc13 hx12=> ?_))
    ·refine AWP.e ?_
     obtain⟨a91,ha91,a93,ha93,hx12⟩:=b2 hx12
     refine AWP.G 3 Z (S.idx ha91 Z Z Z Z (.G 1 Z (.q Z Z Z Z (N4 ha93) Z (.u Z Z (.nil (b5 ?_))))))
     obtain⟨a98,ha98,a102,ha102,a105,ha105,hx12⟩:=b3 hx12
     refine AWP.drawEI [12] mixed Z Z Z (b8.D 4 Z Z ?_)
     refine b8.consN Z Z (fun E=>S.idxO ha98 Z (by simp only[lS]) Z Z Z .N) Z (.consN Z Z (fun E=>S.loadO ha98 Z Z Z Z Z .N) Z ?_)
     refine b8.D 2 Z Z ?_
     refine b8.consN Z Z (fun E=>S.idx ha102 Z Z Z Z .N) Z ?_
     refine b8.D 2 Z Z ?_
     refine b8.consN Z Z (fun E=>S.idxO ha105 Z (by simp only[lS]) Z Z Z .N) Z ?_
     apply b8.consE (v:=.undef);exact Z;exact Z;intro E
     refine S.storeO1 (f:=intI) (a':=w64 (a98 - a102)) (q7 ha105) (fun _=>⟨_,Z⟩) Z Z Z Z Z ?_
     exact AOps.nil ⟨Z,Z⟩
     exact Z
     exact Z
     refine b8.done Z ?_ ?_
     ·refine d8.D 4 Z Z ?_
      refine d8.cons Z Z (.go Z Z (fun E=>S.idxO ha98 Z (by simp only[lS]) Z Z Z .N) (.skip Z .nil)) (.cons Z Z (.go Z Z (fun E=>S.loadO ha98 Z Z Z Z Z .N) (.skip Z .nil)) ?_)
      refine d8.D 2 Z Z ?_
      refine d8.cons Z Z (.go Z Z (fun E=>S.idx ha102 Z Z Z Z .N) (.skip Z .nil)) ?_
      refine d8.D 2 Z Z ?_
      refine d8.cons Z Z (.go Z Z (fun E=>S.idxO ha105 Z (by simp only[lS]) Z Z Z .N) (.skip Z .nil)) ?_
      refine d8.D 1 Z Z (d8.nil)
     dsimp only[h9]
     refine d6 ?_
     obtain⟨ej0,ej1⟩:=o2 hx12
     subst ej0 ej1
     refine b5 (Sub.env ⟨Z,Z,Z,Z,Z,Z,Z,(o7 (by first|rfl|simp only[lS])),Z,Z,Z,Z,Y⟩)
    ·refine AWP.skip (d6 ?_)
     obtain⟨ej0,ej1⟩:=o2 hx12
     subst ej0 ej1
     refine b5 (Sub.env ⟨Z,Z,Z,Z,Z,Z,Z,(o7 (by first|rfl|simp only[lS])),Z,Z,Z,Z,Y⟩)
   ·try dsimp only at h
    refine AWP.G 1 Z (.add Z Z Z (by omega) (.u Z Z (.nil ?_)))
    obtain rfl:=oi h
    refine b5 (Sub.en Z)
  ·intro iz
   try dsimp only
   refine f9 (b5 (.e ?_))
   obtain⟨a109,ha109,h⟩:=bind_some h
   refine AWP.G 2 Z (.frzV (id:=3) (l:=c7) (env2:=[(1,.c (row 1 b9 states)),(2,(cR ops)),(3,(cP 0 0 0)),(8,(cI (states.length:Int))),(10,.c (.own 2 0 c5.length)),(11,(cI iv6)),(13,(cI sum8)),(106,.c (.own 1 0 c4.length)),(107,(cR c7))]) (σ2:=[(oE 4 (tO ov)),(oV 1 b9 c4),(oV 1 intI c5),.dead]) Z Z (by exact⟨⟨_,Z,.inl ⟨Z,Z⟩⟩,⟨_,Z,.inl ⟨Z,Z⟩⟩,⟨_,Z,.inl ⟨Z,Z⟩⟩,⟨_,Z,.inl ⟨Z,Z⟩⟩,⟨_,Z,.inl ⟨Z,Z⟩⟩,⟨_,Z,.inl ⟨Z,Z⟩⟩,⟨_,Z,.inl ⟨Z,Z⟩⟩,⟨_,Z,.inl ⟨Z,Z⟩⟩,⟨_,Z,.inr ⟨_,Z,Z,Z⟩⟩,Y⟩) Z (by exact⟨⟨Z,.inl ⟨Z,Z⟩,.inl ⟨Z,Z⟩,.inl ⟨Z,Z⟩,.inl ⟨Z,Z⟩,Y⟩,FrzB.vec,FrzB.vec,Y,Y⟩) (S.lit (f:=b9) (l:=[c7]) (ess:=[[row 1 intI c7]]) Z Z Z Z Z Z Z ⟨⟨.inl Z,Y⟩,Y⟩ Z Z Z (S.append (f:=b9) ha109 Z Z Z Z Z Z (.own Z Z) Z Z Z Z (.u Z Z (.nil (b5 (.z (env':=[(1,.c (row 1 b9 states)),(2,(cR ops)),(3,(cP 0 0 0)),(8,(cI (states.length:Int))),(9,.c (.own 1 0 a109.length)),(10,.c (.own 2 0 c5.length)),(11,(cI iv6)),(13,(cI sum8))]) (σ':=[(oE 4 (tO ov)),(oV 1 b9 a109),(oV 1 intI c5),.dead,(oV 1 b9 [c7])]) 1 5 Z Z Z ⟨Z,Z,Z,Z,Z,Z,Z,Z,Y⟩ Z ⟨⟨Z,Z⟩,⟨Blk.im_ok _ _ _,i7 Z⟩,⟨Blk.im_ok _ _ _,i7 Z⟩,Y,⟨Blk.im_ok _ _ _,i7 Z⟩,Y⟩ ?_)))))))
   obtain⟨a113,ha113,h⟩:=bind_some h
   refine AWP.G 2 Z (S.lit (f:=intI) (l:=[sum8]) (ess:=[[int sum8]]) Z Z Z Z Z Z Z ⟨⟨.inl Z,Y⟩,Y⟩ Z Z Z (S.append (f:=intI) ha113 Z Z Z Z Z Z (.own Z Z) Z Z Z Z (.u Z Z (.nil (d6 (b5 (.z (env':=[(1,.c (row 1 b9 states)),(2,(cR ops)),(3,(cP 0 0 0)),(8,(cI (states.length:Int))),(9,.c (.own 1 0 a109.length)),(10,.c (.own 2 0 a113.length)),(11,(cI iv6))]) (σ':=[(oE 4 (tO ov)),(oV 1 b9 a109),(oV 1 intI a113),.dead,(oV 1 b9 [c7]),(oV 1 intI [sum8])]) 2 6 Z Z Z ⟨Z,Z,Z,Z,Z,Z,Z,Y⟩ Z ⟨⟨Z,Z⟩,⟨Blk.im_ok _ _ _,i7 Z⟩,⟨Blk.im_ok _ _ _,i7 Z⟩,Y,⟨Blk.im_ok _ _ _,i7 Z⟩,⟨Blk.im_ok _ _ _,i7 Z⟩,Y⟩ (.G 1 Z (.add Z Z Z (by omega) (.u Z Z (.nil ?_)))))))))))
   obtain rfl:=oi h
   refine b5 (Sub.cut ⟨Z,Z,Z,Z,Z,Z,Z,Y⟩ Z ⟨.one Z,.vec,.vec,Y⟩ Z)
 ·intro iz
  try dsimp only
  refine f9 (b5 (.e ?_))
  obtain⟨a115,ha115,h⟩:=bind_some h
  refine AWP.G 1 Z (.frzV (id:=1) (l:=c4) (env2:=[(8,(cI (states.length:Int))),(9,.c (row 1 b9 c4)),(10,.c (.own 2 0 c5.length)),(114,.c (row 1 b9 c4))]) (σ2:=[(oE 4 (tO ov)),.dead,(oV 1 intI c5)]) Z Z (by exact⟨⟨_,Z,.inl ⟨Z,Z⟩⟩,⟨_,Z,.inr ⟨_,Z,Z,Z⟩⟩,⟨_,Z,.inl ⟨Z,Z⟩⟩,⟨_,Z,.inr ⟨_,Z,Z,Z⟩⟩,Y⟩) Z (by exact⟨⟨Z,.inl ⟨Z,Z⟩,.inl ⟨Z,Z⟩,.inl ⟨Z,Z⟩,.inl ⟨Z,Z⟩,Y⟩,Y,FrzB.vec,Y⟩) (.callF (r2:=(cI a115)) (σ'':=[(oE 4 (tO ov)),.dead,(oV 1 intI c5)]) Z Z Z (FnOk.lend [] (ad8 ha115) Z Z Z Z Z Z (by exact Y) Z (by exact Y) Z Z (by exact⟨(.old Z Z Z),.dead,(.old Z Z Z),Y⟩)) (.u Z Z (.nil (b5 (.gk 1 Z (.e (.gk 1 Z (.j (.virtV 1 intI 19 Z Z Z ?_))))))))))
  obtain⟨c14,ho3,h⟩:=bind_some h
  refine AWP.forL ho3 (fun j15 c14=>⟨[(8,(cI (states.length:Int))),(9,.c (row 1 b9 c4)),(10,.c (.own 2 0 c5.length)),(18,(cI a115)),(19,.c (.own 3 0 c14.length)),(20,(cI j15))],[.dead,.dead,(oV 1 intI c5),(oV 1 intI c14)]⟩) (fun _ _ _ k=>.gn 3 Z (k Y)) (fun _ _=>Z) ?_ ?_ ?_
  ·try dsimp only
   exact Sub.cut ⟨Z,Z,Z,Z,(o7 (by first|rfl|simp only[lS])),Z,Y⟩ Z ⟨.dead,.dead,.vec,.vec,Y⟩ Z
  ·intro j15 c14 o hloj15 hltj15 h _
   unfold T0 at h
   try dsimp only at h ⊢
   refine AWP.e (.j (.gk 1 Z (.e (.gk 1 Z (.j (.virtV 1 b9 21 Z Z Z ?_))))))
   obtain⟨c16,ho4,h⟩:=bind_some h
   refine AWP.forL ho4 (fun iv17 c16=>⟨[(8,(cI (states.length:Int))),(9,.c (row 1 b9 c4)),(10,.c (.own 2 0 c5.length)),(18,(cI a115)),(19,.c (.own 3 0 c14.length)),(20,(cI j15)),(21,.c (.own 4 0 c16.length)),(22,(cI iv17))],[.dead,.dead,(oV 1 intI c5),(oV 1 intI c14),(oV 1 b9 c16)]⟩) (fun _ _ _ k=>.gn 3 Z (k Y)) (fun _ _=>Z) ?_ ?_ ?_
   ·try dsimp only
    exact Sub.env ⟨Z,Z,Z,Z,Z,Z,(o7 (by first|rfl|simp only[lS])),Z,Y⟩
   ·intro iv17 c16 o hloiv17 hltiv17 h _
    unfold R9 at h
    try dsimp only at h ⊢
    refine AWP.e (.j (.e ?_))
    obtain⟨a129,ha129,a131,ha131,h⟩:=b2 h
    refine AWP.O (S.lit (f:=intI) (l:=[]) (ess:=[]) Z Z Z Z Z Z Z Y Z Z Z (.G 2 Z (S.idx ha129 Z Z Z Z (.G 1 Z (S.append (f:=intI) ha131 Z Z Z Z Z Z .row Z Z Z Z (.u Z Z (.nil (b5 (.e (.z (env':=[(8,(cI (states.length:Int))),(9,.c (row 1 b9 c4)),(10,.c (.own 2 0 c5.length)),(18,(cI a115)),(19,.c (.own 3 0 c14.length)),(20,(cI j15)),(21,.c (.own 4 0 c16.length)),(22,(cI iv17)),(23,.c (.own 5 0 a131.length))]) (σ':=[.dead,.dead,(oV 1 intI c5),(oV 1 intI c14),(oV 1 b9 c16),(oV 1 intI a131)]) 5 6 Z Z Z ⟨Z,Z,Z,Z,Z,Z,Z,Z,Z,Y⟩ Z ⟨Y,Y,⟨Blk.im_ok _ _ _,i7 Z⟩,⟨Blk.im_ok _ _ _,i7 Z⟩,⟨Blk.im_ok _ _ _,i7 Z⟩,⟨Blk.im_ok _ _ _,i7 Z⟩,Y⟩ ?_))))))))))
    obtain⟨a136,ha136,a138,ha138,h⟩:=b2 h
    refine AWP.G 4 Z (S.idxO ha136 Z Z Z Z Z (S.loadO ha136 Z Z Z Z Z (S.idxO ha138 Z Z Z Z Z (S.storeO1 (f:=intI) (a':=a136) (q7 ha138) (fun _=>⟨_,Z⟩) Z Z Z Z Z ?_))))
    refine AOps.nil (b5 ?_)
    obtain⟨a142,ha142,h⟩:=bind_some h
    refine AWP.G 2 Z (.frzV (id:=5) (l:=a131.set j15.toNat a136) (env2:=[(8,(cI (states.length:Int))),(9,.c (row 1 b9 c4)),(10,.c (.own 2 0 c5.length)),(18,(cI a115)),(19,.c (.own 3 0 c14.length)),(20,(cI j15)),(22,(cI iv17)),(139,.c (.own 4 0 c16.length)),(140,(cR (a131.set j15.toNat a136)))]) (σ2:=[.dead,.dead,(oV 1 intI c5),(oV 1 intI c14),(oV 1 b9 c16),.dead]) Z Z (by exact⟨⟨_,Z,.inl ⟨Z,Z⟩⟩,⟨_,Z,.inl ⟨Z,Z⟩⟩,⟨_,Z,.inl ⟨Z,Z⟩⟩,⟨_,Z,.inl ⟨Z,Z⟩⟩,⟨_,Z,.inl ⟨Z,Z⟩⟩,⟨_,Z,.inl ⟨Z,Z⟩⟩,⟨_,Z,.inl ⟨Z,Z⟩⟩,⟨_,Z,.inl ⟨Z,Z⟩⟩,⟨_,Z,.inr ⟨_,Z,(by simp only[lS]),Z⟩⟩,Y⟩) Z (by exact⟨Y,Y,FrzB.vec,FrzB.vec,FrzB.vec,Y,Y⟩) (S.lit (f:=b9) (l:=[a131.set j15.toNat a136]) (ess:=[[row 1 intI (a131.set j15.toNat a136)]]) Z Z Z Z Z Z Z ⟨⟨.inl Z,Y⟩,Y⟩ Z Z Z (S.append (f:=b9) ha142 Z Z Z Z Z Z (.own Z Z) Z Z Z Z (.u Z Z (.nil (d6 (b5 (.z (env':=[(8,(cI (states.length:Int))),(9,.c (row 1 b9 c4)),(10,.c (.own 2 0 c5.length)),(18,(cI a115)),(19,.c (.own 3 0 c14.length)),(20,(cI j15)),(21,.c (.own 4 0 a142.length)),(22,(cI iv17))]) (σ':=[.dead,.dead,(oV 1 intI c5),(oV 1 intI c14),(oV 1 b9 a142),.dead,(oV 1 b9 [a131.set j15.toNat a136])]) 4 7 Z Z Z ⟨Z,Z,Z,Z,Z,Z,Z,Z,Y⟩ Z ⟨Y,Y,⟨Blk.im_ok _ _ _,i7 Z⟩,⟨Blk.im_ok _ _ _,i7 Z⟩,⟨Blk.im_ok _ _ _,i7 Z⟩,Y,⟨Blk.im_ok _ _ _,i7 Z⟩,Y⟩ (.G 1 Z (.add Z Z Z (by omega) (.u Z Z (.nil ?_))))))))))))
    obtain rfl:=oi h
    refine b5 (Sub.cut ⟨Z,Z,Z,Z,Z,Z,Z,Z,Y⟩ Z ⟨.dead,.dead,.vec,.vec,.vec,Y⟩ Z)
   ·intro iz
    try dsimp only
    refine f9 (b5 ?_)
    obtain⟨a145,ha145,a147,ha147,h⟩:=b2 h
    refine AWP.G 2 Z (.frzV (id:=4) (l:=c16) (env2:=[(8,(cI (states.length:Int))),(9,.c (row 1 b9 c4)),(10,.c (.own 2 0 c5.length)),(18,(cI a115)),(20,(cI j15)),(143,.c (.own 3 0 c14.length)),(144,.c (row 1 b9 c16))]) (σ2:=[.dead,.dead,(oV 1 intI c5),(oV 1 intI c14),.dead]) Z Z (by exact⟨⟨_,Z,.inl ⟨Z,Z⟩⟩,⟨_,Z,.inl ⟨Z,Z⟩⟩,⟨_,Z,.inl ⟨Z,Z⟩⟩,⟨_,Z,.inl ⟨Z,Z⟩⟩,⟨_,Z,.inl ⟨Z,Z⟩⟩,⟨_,Z,.inl ⟨Z,Z⟩⟩,⟨_,Z,.inr ⟨_,Z,Z,Z⟩⟩,Y⟩) Z (by exact⟨Y,Y,FrzB.vec,FrzB.vec,Y,Y⟩) (.callF (r2:=(cI a145)) (σ'':=[.dead,.dead,(oV 1 intI c5),(oV 1 intI c14),.dead]) Z Z Z (FnOk.lend [] (ad8 ha145) Z Z Z Z Z Z (by exact Y) Z (by exact Y) Z Z (by exact⟨.dead,.dead,(.old Z Z Z),(.old Z Z Z),.dead,Y⟩)) (S.lit (f:=intI) (l:=[a145]) (ess:=[[int a145]]) Z Z Z Z Z Z Z ⟨⟨.inl Z,Y⟩,Y⟩ Z Z Z (S.append (f:=intI) ha147 Z Z Z Z Z Z (.own Z Z) Z Z Z Z (.u Z Z (.nil (d6 (b5 (.z (env':=[(8,(cI (states.length:Int))),(9,.c (row 1 b9 c4)),(10,.c (.own 2 0 c5.length)),(18,(cI a115)),(19,.c (.own 3 0 a147.length)),(20,(cI j15))]) (σ':=[.dead,.dead,(oV 1 intI c5),(oV 1 intI a147),.dead,(oV 1 intI [a145])]) 3 6 Z Z Z ⟨Z,Z,Z,Z,Z,Z,Y⟩ Z ⟨Y,Y,⟨Blk.im_ok _ _ _,i7 Z⟩,⟨Blk.im_ok _ _ _,i7 Z⟩,Y,⟨Blk.im_ok _ _ _,i7 Z⟩,Y⟩ (.G 1 Z (.add Z Z Z (by omega) (.u Z Z (.nil ?_)))))))))))))
    obtain rfl:=oi h
    refine b5 (Sub.cut ⟨Z,Z,Z,Z,Z,Z,Y⟩ Z ⟨.dead,.dead,.vec,.vec,Y⟩ Z)
  ·intro iz
   try dsimp only
   refine f9 (b5 ?_)
   obtain⟨⟨c18,den19⟩,hx20,h⟩:=bind_some h
   refine AWP.seqJ (⟨[(18,(cI den19)),(19,.c (.own 3 0 c18.length))],[.dead,.dead,.dead,(oV 1 intI c18)]⟩) ?_ ?_
   ·refine AWP.gk 2 Z (.J Z hx20 (fun hc21 hx20=> ?_) (fun hc21 hx20=> ?_))
    ·refine AWP.gs 1 Z (S.neg Z Z (.ge 1 Z (.gk 1 Z (.j ?_))))
     obtain⟨c22,ho5,hx20⟩:=bind_some hx20
     refine AWP.forL ho5 (fun j23 c22=>⟨[(8,(cI (states.length:Int))),(18,(cI (w64 (0 - a115)))),(19,.c (.own 3 0 c22.length)),(24,(cI j23))],[.dead,.dead,.dead,(oV 1 intI c22)]⟩) (fun _ _ _ k=>.gn 3 Z (k Y)) (fun _ _=>Z) ?_ ?_ ?_
     ·try dsimp only
      exact Sub.cut ⟨Z,Z,Z,Z,Y⟩ Z ⟨.dead,.dead,.dead,.vec,Y⟩ Z
     ·intro j23 c22 o hloj23 hltj23 h _
      unfold S6 at h
      try dsimp only at h ⊢
      refine AWP.e (.j ?_)
      obtain⟨a161,ha161,a164,ha164,h⟩:=b2 h
      refine AWP.G 4 Z (S.idxO ha161 Z Z Z Z Z (S.loadO ha161 Z Z Z Z Z (S.neg Z Z (S.idxO ha164 Z Z Z Z Z (S.storeO1 (f:=intI) (a':=w64 (0 - a161)) (q7 ha164) (fun _=>⟨_,Z⟩) Z Z Z Z Z ?_)))))
      refine AOps.nil (d6 (b5 (.G 1 Z (.add Z Z Z (by omega) (.u Z Z (.nil ?_))))))
      obtain rfl:=oi h
      refine b5 (Sub.env ⟨Z,Z,(o7 (by first|rfl|simp only[lS])),Z,Y⟩)
     ·intro iz
      try dsimp only
      refine f9 ?_
      obtain⟨ej0,ej1⟩:=o2 hx20
      subst ej0 ej1
      refine b5 (Sub.en Z)
    ·refine AWP.skip ?_
     obtain⟨ej0,ej1⟩:=o2 hx20
     subst ej0 ej1
     refine b5 (Sub.cut ⟨Z,Z,Y⟩ Z ⟨.dead,.dead,.dead,.vec,Y⟩ Z)
   ·try dsimp only at h
    refine AWP.gk 4 Z (.frzV (id:=3) (l:=c18) (env2:=[(6,(cR c18)),(7,(cI den19))]) (σ2:=[.dead,.dead,.dead,.dead]) Z Z (by exact⟨⟨_,Z,.inr ⟨_,Z,Z,Z⟩⟩,⟨_,Z,.inl ⟨Z,Z⟩⟩,Y⟩) Z (by exact⟨Y,Y,Y,Y,Y⟩) (.ret ?_))
    obtain rfl:=oi h
    exact Done.ret Z Z
theorem ref8_Gcd_ok{av:Int}{bv:Int}{r:Int}(h:an2 av bv=some r):e8 prog 65 [(cI av),(cI bv)] ((cI r)):=by
 unfold e8
 refine FnOk.enter (rs:=[.t 4]) func65 Z ntmps65 results65 Z ⟨Y,Y⟩ (by kernel_rfl) Z ?_
 unfold an2 at h
 refine AWP.gk 1 Z (.gk 1 Z (.e (.j ?_)))
 obtain⟨⟨bv6,twos7⟩,ho1,h⟩:=bind_some h
 try dsimp only at h
 refine AWP.loopS ho1 (fun(av3,bv4,twos5)=>⟨[(0,(cI av3)),(1,(cI bv4)),(5,(cI twos5))],[]⟩) (fun(bv6,twos7) e st=>e=.exit 0∧Sub [] st ⟨[(1,(cI bv6)),(5,(cI twos7))],[]⟩) ?_ ?_ ?_
 ·try dsimp only
  exact Sub.en Z
 ·intro s o h
  obtain⟨av3,bv4,twos5⟩:=s
  unfold ai3 at h
  try dsimp only at h ⊢
  refine AWP.e (.seqJ (⟨[(0,(cI av3)),(1,(cI bv4)),(5,(cI twos5)),(12,(cB ((decide (0<av3)) && (!(decide (av3=bv4))))))],[]⟩) ?_ ?_)
  ·rcases bft (decide (0<av3)) with hb1|hb1
   ·refine AWP.G 3 Z (.K Z Z hb1 (.G 4 Z (.nil (b5 ?_))))
    simp only[S4 hb1,or_t hb1,Bool.false_or,Bool.true_or,Bool.false_and,Bool.true_and]
    exact Sub.en Z
   ·refine AWP.G 3 Z (.K Z Z hb1 (.G 4 Z (.nil (b5 ?_))))
    simp only[V1 hb1,or_f hb1,Bool.false_or,Bool.true_or,Bool.false_and,Bool.true_and]
    exact Sub.en Z
  ·refine AWP.E Z h (fun hc8 h=> ?_) (fun hc8 h=> ?_)
   ·refine AWP.skip (b5 (.j ?_))
    obtain⟨t9,hx10,h⟩:=bind_some h
    refine AWP.seqJ (⟨[(0,(cI av3)),(1,(cI bv4)),(5,(cI twos5)),(20,(cB t9))],[]⟩) ?_ ?_
    ·obtain⟨u14,hu14,hx10⟩:=bind_some hx10
     rcases bft (decide ((av3).tmod 2=0)) with hb11|hb11
     ·replace hx10:=F8 hb11 hx10
      obtain⟨u18,hu18,hx10⟩:=bind_some hx10
      refine AWP.G 1 Z (S.rem hu14 Z Z Z (.G 2 Z (.K Z Z hb11 (.G 1 Z (.F Z Z Z Z (S.rem hu18 Z Z Z (.G 2 Z (.nil ?_))))))))
      obtain rfl:=oi hx10
      refine b5 (Sub.en Z)
     ·replace hx10:=F1 hb11 hx10
      refine AWP.G 1 Z (S.rem hu14 Z Z Z (.G 2 Z (.K Z Z hb11 (.G 4 Z (.nil ?_)))))
      obtain rfl:=oi hx10
      refine b5 (Sub.en Z)
    ·refine AWP.E Z h (fun hc12 h=> ?_) (fun hc12 h=> ?_)
     ·refine AWP.e ?_
      obtain⟨u22,hu22,h⟩:=bind_some h
      refine AWP.G 1 Z (S.quo hu22 Z Z Z (.u Z Z (.nil (b5 (.e ?_)))))
      obtain⟨u24,hu24,h⟩:=bind_some h
      refine AWP.G 1 Z (S.quo hu24 Z Z Z (.u Z Z (.nil (b5 (.G 3 Z (.nil (d6 ?_)))))))
      obtain rfl:=oi h
      refine b5 ⟨_,Z,?_⟩
      exact Sub.en Z
     ·refine AWP.e ?_
      obtain⟨u28,hu28,h⟩:=bind_some h
      refine AWP.G 1 Z (S.rem hu28 Z Z Z (.eql Z Z Z (.nil (b5 (.J Z h (fun hc13 h=> ?_) (fun hc13 h=> ?_))))))
      ·obtain⟨u31,hu31,h⟩:=bind_some h
       refine AWP.G 1 Z (S.quo hu31 Z Z Z (.u Z Z (.nil (d6 ?_))))
       obtain rfl:=oi h
       refine b5 ⟨_,Z,?_⟩
       exact Sub.en Z
      ·refine AWP.e ?_
       obtain⟨u33,hu33,h⟩:=bind_some h
       refine AWP.G 1 Z (S.rem hu33 Z Z Z (.eql Z Z Z (.nil (b5 (.J Z h (fun hc14 h=> ?_) (fun hc14 h=> ?_))))))
       ·obtain⟨u36,hu36,h⟩:=bind_some h
        refine AWP.G 1 Z (S.quo hu36 Z Z Z (.u Z Z (.nil (d6 ?_))))
        obtain rfl:=oi h
        refine b5 ⟨_,Z,?_⟩
        exact Sub.en Z
       ·refine AWP.gk 3 Z (.J Z h (fun hc15 h=> ?_) (fun hc15 h=> ?_))
        ·refine AWP.G 4 Z (.nil (d6 ?_))
         obtain rfl:=oi h
         refine b5 ⟨_,Z,?_⟩
         exact Sub.en Z
        ·refine AWP.G 4 Z (.nil (d6 ?_))
         obtain rfl:=oi h
         refine b5 ⟨_,Z,?_⟩
         exact Sub.en Z
   ·refine AWP.exit (i5 ?_)
    obtain rfl:=oi h
    refine i5 ⟨_,Z,Z,?_⟩
    exact Sub.en Z
 ·intro e s hq
  obtain⟨rfl,hs⟩:=hq
  refine⟨_,hs,?_⟩
  refine f9 (b5 (.gk 4 Z (.ret ?_)))
  obtain rfl:=oi h
  exact Done.ret Z Z
end Ab
end
section
namespace Ab
open Go Go.Proofs
open Tryz
set_option maxHeartbeats 4000000
set_option linter.all false
attribute [local irreducible] AWP AOps thn inB Done e8 n7 Sub
theorem ref8_Lowest_ok{num:Int}{den:Int}{r:m9}(h:aa6 num den=some r):e8 prog 19 [(cI num),(cI den)] (.agg [int r.num,int r.den]):=by
 unfold e8
 refine FnOk.enter (rs:=[.cell 4 28 2]) func19 Z ntmps19 results19 Z ⟨rv _ Z,Y⟩ (by kernel_rfl) Z ?_
 unfold aa6 at h
 refine AWP.gk 1 Z (.e ?_)
 obtain⟨a8,ha8,h⟩:=bind_some h
 refine AWP.G 2 Z (.q Z Z Z Z (ref8_Gcd_ok ha8) Z (.u Z Z (.nil (b5 (.e ?_)))))
 obtain⟨u11,hu11,u14,hu14,h⟩:=b2 h
 refine AWP.drawEI [7] mixed Z Z Z (b8.D 2 Z Z ?_)
 refine b8.consN Z Z (fun E=>S.quo hu11 Z Z Z .N) Z ?_
 refine b8.D 2 Z Z ?_
 refine b8.consN Z Z (fun E=>S.quo hu14 Z Z Z .N) Z ?_
 refine b8.D 1 Z Z ?_
 apply b8.consE (v:=.undef);exact Z;exact Z;intro E
 refine W.storeAgg Z Z Z Z Z Z Z .N
 exact Z
 exact Z
 refine b8.done Z ?_ ?_
 ·refine d8.D 2 Z Z ?_
  refine d8.cons Z Z (.go Z Z (fun E=>S.quo hu11 Z Z Z .N) (.skip Z .nil)) ?_
  refine d8.D 2 Z Z ?_
  refine d8.cons Z Z (.go Z Z (fun E=>S.quo hu14 Z Z Z .N) (.skip Z .nil)) ?_
  refine d8.D 2 Z Z (d8.nil)
 dsimp only[h9]
 refine b5 (.ret ?_)
 obtain rfl:=oi h
 exact Done.ret Z Z
theorem ref8_Large_ok{xv:m9}{r:Bool}(h:Y1 xv=some r):e8 prog 20 [.agg [int xv.num,int xv.den]] ((cB r)):=by
 unfold e8
 refine FnOk.enter (rs:=[.t 2]) func20 Z ntmps20 results20 Z ⟨Y,Y⟩ (by kernel_rfl) Z ?_
 unfold Y1 at h
 refine AWP.gk 2 Z (.seqJ (⟨[(2,(cB ((decide (1000000000<xv.num))||(decide (1000000000<xv.den)))))],[(oE 2 [int xv.num,int xv.den])]⟩) ?_ ?_)
 ·rcases bft (decide (1000000000<xv.num)) with hb1|hb1
  ·refine AWP.G 4 Z (.K Z Z hb1 (.G 5 Z (.nil (b5 ?_))))
   simp only[S4 hb1,or_t hb1,Bool.false_or,Bool.true_or,Bool.false_and,Bool.true_and]
   exact Sub.en Z
  ·refine AWP.G 4 Z (.K Z Z hb1 (.G 5 Z (.nil (b5 ?_))))
   simp only[V1 hb1,or_f hb1,Bool.false_or,Bool.true_or,Bool.false_and,Bool.true_and]
   exact Sub.en Z
 ·refine AWP.ret ?_
  obtain rfl:=oi h
  exact Done.ret Z Z
theorem ar0{ov:d5}{policy:List e9}{r:j8}(h:D5 ov policy=some r):e8 prog 69 [.agg (tO ov),.c (row 2 f8 policy)] (.agg [int r.code,int r.index]):=by
 unfold e8
 refine FnOk.enter (rs:=[.cell 4 30 2]) func69 Z ntmps69 results69 Z ⟨rv _ Z,Y⟩ (by kernel_rfl) Z ?_
 unfold D5 at h
 refine AWP.gk 2 Z (.e (.e ?_))
 obtain⟨a10,ha10,h⟩:=bind_some h
 refine AWP.G 1 Z (.q Z Z Z Z (an0 ha10) Z (.G 2 Z (.nil (b5 (.gs 2 Z (.neqP Z Z Z Z Z Z Z (.ne (.E Z h (fun hc3 h=> ?_) (fun hc3 h=> ?_)))))))))
 ·refine AWP.gk 2 Z (.ret (d9 ?_))
  obtain rfl:=oi h
  exact Done.ret Z Z
 ·refine AWP.skip (b5 (.e (.gs 1 Z (S.len Z Z (fun hl16=>.ge 1 Z (.J Z h (fun hc4 h=> ?_) (fun hc4 h=> ?_)))))))
  ·refine AWP.gk 2 Z (.ret (d9 ?_))
   obtain rfl:=oi h
   exact Done.ret Z Z
  ·refine AWP.skip (b5 (.e (.gs 1 Z (S.len Z Z (fun hl20=>.ge 1 Z (.j ?_))))))
   obtain⟨oo,ho1,h⟩:=bind_some h
   refine AWP.rngH ho1 (fun t5 _=>⟨[(1,.c (row 2 f8 policy)),(2,(cP 0 0 0)),(4,(cP 1 0 0)),(19,.c (row 2 f8 policy)),(20,(cI (policy.length:Int))),(21,(cI t5))],[(oE 4 (tO ov)),(oE 2 [int 0,int 0])]⟩) (fun x e st=>e=.ret∧Done [.cell 4 30 2] (fun t _=>t=.agg [int x.code,int x.index]) .ret st) (fun _ _=>Z) ?_ ?_ ?_ ?_
   ·try dsimp only
    exact Sub.cut ⟨Z,Z,Z,Z,Z,Z,Y⟩ Z ⟨.one Z,.one Z,Y⟩ Z
   ·intro t5 s o hlot5 hltt5 h
    unfold D7 at h
    try dsimp only at h ⊢
    refine AWP.e (.j (.e ?_))
    obtain⟨a24,ha24,h⟩:=bind_some h
    refine AWP.G 1 Z (S.idx ha24 Z Z Z Z (.G 4 Z (.nil (b5 (.gk 1 Z ?_)))))
    obtain⟨ev6,hx7,h⟩:=bind_some h
    refine AWP.seqJ (⟨[(1,.c (row 2 f8 policy)),(2,(cP 0 0 0)),(4,(cP 1 0 0)),(6,(cI t5)),(8,(cI ev6)),(19,.c (row 2 f8 policy)),(20,(cI (policy.length:Int))),(21,(cI t5))],[(oE 4 (tO ov)),(oE 2 [int 0,int 0])]⟩) ?_ ?_
    ·refine AWP.j ?_
     obtain⟨t8,hx9,hx7⟩:=bind_some hx7
     refine AWP.seqJ (⟨[(1,.c (row 2 f8 policy)),(2,(cP 0 0 0)),(4,(cP 1 0 0)),(6,(cI t5)),(7,(cP 2 0 0)),(8,(cI 0)),(19,.c (row 2 f8 policy)),(20,(cI (policy.length:Int))),(21,(cI t5)),(26,(cB t8))],[(oE 4 (tO ov)),(oE 2 [int 0,int 0]),(oE 2 [row 1 intI a24.state,int a24.operator])]⟩) ?_ ?_
     ·obtain⟨a31,ha31,hx9⟩:=bind_some hx9
      rcases bft (!a31) with hb10|hb10
      ·replace hx9:=B2 hb10 hx9
       refine AWP.drawI mixed Z (b7.D 4 Z ?_)
       refine b7.consF Z (fun E=>.q Z Z Z Z (x5 ha31) Z .N) Z ?_
       refine b7.D 2 Z (b7.K Z hb10 Z (b7.D 16 Z (b7.done ?_)))
       dsimp only[h9]
       obtain rfl:=oi hx9
       refine b5 (Sub.en Z)
      ·replace hx9:=B3 hb10 hx9
       rcases bft (decide (0<t5)) with hb11|hb11
       ·replace hx9:=F8 hb11 hx9
        obtain⟨a40,ha40,a45,ha45,hx9⟩:=b2 hx9
        refine AWP.drawI mixed Z (b7.D 4 Z ?_)
        refine b7.consF Z (fun E=>.q Z Z Z Z (x5 ha31) Z .N) Z ?_
        refine b7.D 2 Z (b7.K Z hb10 Z (b7.D 3 Z (b7.K Z hb11 Z (b7.D 2 Z ?_))))
        refine b7.consF Z (fun E=>.F Z Z Z Z (.sub' Z Z Z (by omega) .N)) Z (.consF Z (fun E=>.F Z Z Z Z (S.idx ha40 Z Z Z Z .N)) Z ?_)
        refine b7.D 4 Z ?_
        refine b7.consF Z (fun E=>.F Z Z Z Z (.q Z Z Z Z (v8 ha45) Z .N)) Z ?_
        refine b7.D 4 Z (b7.done ?_)
        dsimp only[h9]
        obtain rfl:=oi hx9
        refine b5 (Sub.en Z)
       ·replace hx9:=F1 hb11 hx9
        refine AWP.drawI mixed Z (b7.D 4 Z ?_)
        refine b7.consF Z (fun E=>.q Z Z Z Z (x5 ha31) Z .N) Z ?_
        refine b7.D 2 Z (b7.K Z hb10 Z (b7.D 3 Z (b7.K Z hb11 Z (b7.D 13 Z (b7.done ?_)))))
        dsimp only[h9]
        obtain rfl:=oi hx9
        refine b5 (Sub.en Z)
     ·refine AWP.E Z hx7 (fun hc12 hx7=> ?_) (fun hc12 hx7=> ?_)
      ·refine AWP.G 1 Z (.nil (d6 ?_))
       obtain rfl:=oi hx7
       refine b5 (Sub.cut ⟨Z,Z,Z,Z,Z,Z,Z,Z,Y⟩ Z ⟨.one Z,.one Z,Y⟩ Z)
      ·refine AWP.seqJ (⟨[(1,.c (row 2 f8 policy)),(2,(cP 0 0 0)),(4,(cP 1 0 0)),(6,(cI t5)),(7,(cP 2 0 0)),(8,(cI 0)),(19,.c (row 2 f8 policy)),(20,(cI (policy.length:Int))),(21,(cI t5)),(49,(cB ((decide (a24.operator<0))||(decide ((ov.operators.length:Int)≤a24.operator)))))],[(oE 4 (tO ov)),(oE 2 [int 0,int 0]),(oE 2 [row 1 intI a24.state,int a24.operator])]⟩) ?_ ?_
       ·rcases bft (decide (a24.operator<0)) with hb1|hb1
        ·refine AWP.G 4 Z (.K Z Z hb1 (.G 8 Z (.nil (b5 ?_))))
         simp only[S4 hb1,or_t hb1,Bool.false_or,Bool.true_or,Bool.false_and,Bool.true_and]
         exact Sub.en Z
        ·refine AWP.G 4 Z (.K Z Z hb1 (.G 4 Z ?_))
         refine AOps.F Z Z Z Z ?_;refine S.len Z Z (fun hl58=> ?_)
         refine AOps.G 3 Z (.nil (b5 ?_))
         simp only[V1 hb1,or_f hb1,Bool.false_or,Bool.true_or,Bool.false_and,Bool.true_and]
         exact Sub.en Z
       ·refine AWP.E Z hx7 (fun hc13 hx7=> ?_) (fun hc13 hx7=> ?_)
        ·refine AWP.G 1 Z (.nil (d6 ?_))
         obtain rfl:=oi hx7
         refine b5 (Sub.cut ⟨Z,Z,Z,Z,Z,Z,Z,Z,Y⟩ Z ⟨.one Z,.one Z,Y⟩ Z)
        ·refine AWP.e ?_
         obtain⟨a67,ha67,hx7⟩:=bind_some hx7
         refine AWP.G 5 Z (.q Z Z Z Z (aa5 ha67) Z (.G 2 Z (.nil (b5 (.E Z hx7 (fun hc14 hx7=> ?_) (fun hc14 hx7=> ?_))))))
         ·refine AWP.G 1 Z (.nil (d6 ?_))
          obtain rfl:=oi hx7
          refine b5 (Sub.cut ⟨Z,Z,Z,Z,Z,Z,Z,Z,Y⟩ Z ⟨.one Z,.one Z,Y⟩ Z)
         ·refine AWP.skip (d6 ?_)
          obtain rfl:=oi hx7
          refine b5 (Sub.cut ⟨Z,Z,Z,Z,Z,Z,Z,Z,Y⟩ Z ⟨.one Z,.one Z,Y⟩ Z)
    ·refine AWP.gk 2 Z (.iteN Z h (fun hc15 h=> ?_) (fun hc15 h=> ?_))
     ·refine AWP.gk 5 Z (.ret (i4 (d9 ?_)))
      obtain rfl:=oi h
      refine d9 ⟨_,Z,Z,?_⟩
      exact Done.ret Z Z
     ·refine AWP.skip (d6 (b5 (.O (.add Z Z Z (by omega) (.z Z Z (.nil ?_))))))
      obtain rfl:=oi h
      refine b5 ⟨_,Z,?_⟩
      exact Sub.en Z
   ·intro iz _ he
    subst he
    try dsimp only at h ⊢
    refine f9 (b5 (.gk 2 Z (.ret ?_)))
    obtain rfl:=oi h
    exact Done.ret Z Z
   ·intro x e st he hq
    subst he
    try dsimp only at h hq
    obtain⟨rfl,hs⟩:=hq
    refine⟨_,Sub.refl _ _,?_⟩
    refine i4 (d9 ?_)
    obtain rfl:=oi h
    exact hs
theorem ay1{xv:Li}{c2:Li}{r:Bool}(h:K9 xv c2=some r):e8 prog 103 [(cR xv),.c (.imm (.ipt [.sl 1 (List.map intI c2)]))] ((cB r)):=by
 unfold e8
 refine FnOk.enter (rs:=[.t 3]) func103 Z ntmps103 results103 Z ⟨Y,Y⟩ (by kernel_rfl) Z ?_
 unfold K9 at h
 refine AWP.gk 1 Z (.e ?_)
 obtain⟨a6,ha6,h⟩:=bind_some h
 refine AWP.G 2 Z (.q Z Z Z Z (N1 ha6) Z (.u Z Z (.nil (b5 (.ret ?_)))))
 obtain rfl:=oi h
 exact Done.ret Z Z
theorem ap7{ov:d5}{policy:List e9}{r:(LL)}(h:Q4 ov policy=some r):n7 prog 71 [.agg (tO ov),.c (row 2 f8 policy)] 1 (List.map b9 r):=by
 unfold n7
 refine FnOk.enter (rs:=[.t 4]) func71 Z ntmps71 results71 Z ⟨Y,Y⟩ (by kernel_rfl) Z ?_
 unfold Q4 at h
 refine AWP.gk 2 Z (.e ?_)
 obtain⟨a14,ha14,h⟩:=bind_some h
 refine AWP.G 2 Z (S.fresh Z Z Z Z (C6 ha14) Z Z (.frzV (id:=1) (l:=a14) (env2:=[(1,.c (row 2 f8 policy)),(2,(cP 0 0 0)),(14,(cR a14))]) (σ2:=[(oE 4 (tO ov)),.dead]) Z Z (by exact⟨⟨_,Z,.inl ⟨Z,Z⟩⟩,⟨_,Z,.inl ⟨Z,Z⟩⟩,⟨_,Z,.inr ⟨_,Z,Z,Z⟩⟩,Y⟩) Z (by exact⟨⟨Z,.inl ⟨Z,Z⟩,.inl ⟨Z,Z⟩,.inl ⟨Z,Z⟩,.inl ⟨Z,Z⟩,Y⟩,Y,Y⟩) (S.lit (f:=b9) (l:=[a14]) (ess:=[[row 1 intI a14]]) Z Z Z Z Z Z Z ⟨⟨.inl Z,Y⟩,Y⟩ Z Z Z (.u Z Z (.nil (b5 (.e (.gk 1 Z (.j ?_)))))))))
 obtain⟨c5,ho1,h⟩:=bind_some h
 refine AWP.loopS ho1 (fun(c3,atv4)=>⟨[(1,.c (row 2 f8 policy)),(2,(cP 0 0 0)),(5,.c (.own 2 0 c3.length)),(6,(cI atv4))],[(oE 4 (tO ov)),.dead,(oV 1 b9 c3)]⟩) (fun c5 e st=>e=.exit 0∧Sub [] st ⟨[(5,.c (.own 2 0 c5.length))],[.dead,.dead,(oV 1 b9 c5)]⟩) ?_ ?_ ?_
 ·try dsimp only
  exact Sub.en Z
 ·intro s o h
  obtain⟨c3,atv4⟩:=s
  unfold V8 at h
  try dsimp only at h ⊢
  refine AWP.e (.gs 2 Z (S.lenO Z Z Z (fun hl18=>.ge 1 Z (.J Z h (fun hc6 h=> ?_) (fun hc6 h=> ?_)))))
  ·refine AWP.skip (b5 ?_)
   obtain⟨c7,hx8,h⟩:=bind_some h
   refine AWP.seqJ (⟨[(1,.c (row 2 f8 policy)),(2,(cP 0 0 0)),(5,.c (.own 2 0 c7.length)),(6,(cI atv4))],[(oE 4 (tO ov)),.dead,(oV 1 b9 c7)]⟩) ?_ ?_
   ·refine AWP.j (.e ?_)
    obtain⟨a25,ha25,a27,ha27,hx8⟩:=b2 hx8
    refine AWP.G 3 Z (S.idxO ha25 Z Z Z Z Z (S.loadO ha25 Z Z Z Z Z (.q Z Z Z Z (H3 ha27) Z (.u Z Z (.nil (b5 (.e ?_)))))))
    obtain⟨t9,hx10,hx8⟩:=bind_some hx8
    refine AWP.seqJ (⟨[(1,.c (row 2 f8 policy)),(2,(cP 0 0 0)),(5,.c (.own 2 0 c3.length)),(6,(cI atv4)),(7,(cI a27)),(38,(cB t9))],[(oE 4 (tO ov)),.dead,(oV 1 b9 c3)]⟩) ?_ ?_
    ·rcases bft (decide (a27<0)) with hb11|hb11
     ·replace hx10:=F8 hb11 hx10
      refine AWP.drawI mixed Z (b7.D 3 Z (b7.K Z hb11 Z (b7.D 8 Z (b7.done ?_))))
      dsimp only[h9]
      obtain rfl:=oi hx10
      refine b5 (Sub.en Z)
     ·replace hx10:=F1 hb11 hx10
      obtain⟨a33,ha33,a37,ha37,hx10⟩:=b2 hx10
      refine AWP.drawI mixed Z (b7.D 3 Z (b7.K Z hb11 Z (b7.D 2 Z ?_)))
      refine b7.consF Z (fun E=>.F Z Z Z Z (S.idxO ha33 Z Z Z Z Z .N)) Z (.consF Z (fun E=>.F Z Z Z Z (S.loadO ha33 Z Z Z Z Z .N)) Z ?_)
      refine b7.D 2 Z ?_
      refine b7.consF Z (fun E=>.F Z Z Z Z (.q Z Z Z Z (m8 ha37) Z .N)) Z ?_
      refine b7.D 1 Z (b7.done ?_)
      dsimp only[h9]
      obtain rfl:=oi hx10
      refine b5 (Sub.en Z)
    ·refine AWP.E Z hx8 (fun hc12 hx8=> ?_) (fun hc12 hx8=> ?_)
     ·refine AWP.exit (i5 (f9 ?_))
      obtain rfl:=oi hx8
      refine b5 (Sub.en Z)
     ·refine AWP.skip (b5 (.e ?_))
      obtain⟨a43,ha43,a46,ha46,hx8⟩:=b2 hx8
      refine AWP.drawI mixed Z (b7.D 3 Z ?_)
      refine b7.consF Z (fun E=>S.idxO ha43 Z Z Z Z Z .N) Z (.consF Z (fun E=>S.loadO ha43 Z Z Z Z Z .N) Z ?_)
      refine b7.D 1 Z ?_
      refine b7.consF Z (fun E=>.q Z Z Z Z (y6 ha46) Z .N) Z ?_
      refine b7.D 5 Z (b7.done ?_)
      dsimp only[h9]
      refine b5 (.gs 1 Z (S.len Z Z (fun hl50=>.ge 1 Z (.j ?_))))
      obtain⟨c13,ho2,hx8⟩:=bind_some hx8
      refine AWP.forH ho2 (fun t14 c13=>⟨[(1,.c (row 2 f8 policy)),(2,(cP 0 0 0)),(5,.c (.own 2 0 c13.length)),(6,(cI atv4)),(49,.c (row 1 b9 a46.1)),(50,(cI (a46.1.length:Int))),(51,(cI t14))],[(oE 4 (tO ov)),.dead,(oV 1 b9 c13)]⟩) (fun _ _=>Z) ?_ ?_ ?_
      ·try dsimp only
       exact Sub.en Z
      ·intro t14 c13 o hlot14 hltt14 h
       unfold N8 at h
       try dsimp only at h ⊢
       obtain⟨c15,hx16,h⟩:=bind_some h
       refine AWP.seqJ (⟨[(1,.c (row 2 f8 policy)),(2,(cP 0 0 0)),(5,.c (.own 5 0 c15.length)),(6,(cI atv4)),(49,.c (row 1 b9 a46.1)),(50,(cI (a46.1.length:Int))),(51,(cI t14))],[(oE 4 (tO ov)),.dead,.dead,.dead,.dead,(oV 1 b9 c15)]⟩) ?_ ?_
       ·refine AWP.j (.e ?_)
        obtain⟨a53,ha53,hx16⟩:=bind_some hx16
        refine AWP.O (S.idx ha53 Z Z Z Z (.G 3 Z (.nil (b5 (.e ?_)))))
        obtain⟨a57,ha57,hx16⟩:=bind_some hx16
        refine AWP.G 1 Z (.aa Z Z (.U Z Z (.cons (.c (.own Z Z)) (.cons (.c (.fn (.cons (.ptr (es:=[.sl 1 (List.map intI a53)]) Z Z (.cons .imm .nil)) .nil))) .nil)) Z (Q2 Z (fun hy=>ay1 hy) ha57) Z ?_))
        refine AOps.not Z Z (.nil (b5 (.E Z hx16 (fun hc17 hx16=> ?_) (fun hc17 hx16=> ?_))))
        ·obtain⟨a62,ha62,hx16⟩:=bind_some hx16
         refine AWP.G 2 Z (S.lit (f:=b9) (l:=[a53]) (ess:=[[row 1 intI a53]]) Z Z Z Z Z Z Z ⟨⟨.inl Z,Y⟩,Y⟩ Z Z Z (S.append (f:=b9) ha62 Z Z Z Z Z Z (.own Z Z) Z Z Z Z (.u Z Z (.nil (d6 ?_)))))
         obtain rfl:=oi hx16
         refine b5 (Sub.cut ⟨Z,Z,Z,Z,Z,Z,Z,Y⟩ Z ⟨.one Z,.dead,.dead,.dead,.dead,.vec,Y⟩ Z)
        ·refine AWP.skip (d6 ?_)
         obtain rfl:=oi hx16
         refine b5 ((Sub.move (env':=[(1,.c (row 2 f8 policy)),(2,(cP 0 0 0)),(5,.c (.own 5 0 c13.length)),(6,(cI atv4)),(49,.c (row 1 b9 a46.1)),(50,(cI (a46.1.length:Int))),(51,(cI t14))]) (σ':=[(oE 4 (tO ov)),.dead,.dead,(o1 (row 1 intI a53)),.dead,(oV 1 b9 c13)]) 5 2 Z Z Z ⟨Z,Z,Z,Z,Z,Z,Z,Y⟩ Z ⟨⟨Z,Z⟩,Y,Y,⟨Z,Z⟩,Y,⟨Blk.im_ok _ _ _,i7 Z⟩,Y⟩).trans (Sub.cut ⟨Z,Z,Z,Z,Z,Z,Z,Y⟩ Z ⟨.one Z,.dead,.dead,.dead,.dead,.vec,Y⟩ Z))
       ·refine AWP.O (.add Z Z Z (by omega) (.z Z Z (.nil ?_)))
        obtain rfl:=oi h
        refine b5 ((Sub.move (env':=[(1,.c (row 2 f8 policy)),(2,(cP 0 0 0)),(5,.c (.own 2 0 c15.length)),(6,(cI atv4)),(49,.c (row 1 b9 a46.1)),(50,(cI (a46.1.length:Int))),(51,(cI (t14+1)))]) (σ':=[(oE 4 (tO ov)),.dead,(oV 1 b9 c15),.dead,.dead]) 2 5 Z Z Z ⟨Z,Z,Z,Z,Z,Z,Z,Y⟩ Z ⟨⟨Z,Z⟩,Y,⟨Blk.im_ok _ _ _,i7 Z⟩,Y,Y,Y⟩).trans (Sub.cut ⟨Z,Z,Z,Z,Z,Z,Z,Y⟩ Z ⟨.one Z,.dead,.vec,Y⟩ Z))
      ·intro iz
       try dsimp only
       refine f9 (d6 ?_)
       obtain rfl:=oi hx8
       refine b5 (Sub.en Z)
   ·refine AWP.G 3 Z (.nil ?_)
    obtain rfl:=oi h
    refine b5 ⟨_,Z,?_⟩
    exact Sub.en Z
  ·refine AWP.exit (i5 ?_)
   obtain rfl:=oi h
   refine i5 ⟨_,Z,Z,?_⟩
   exact Sub.cut ⟨Z,Y⟩ Z ⟨.dead,.dead,.vec,Y⟩ Z
 ·intro e s hq
  obtain⟨rfl,hs⟩:=hq
  refine⟨_,hs,?_⟩
  refine f9 (b5 (.e ?_))
  obtain⟨a65,ha65,h⟩:=bind_some h
  refine AWP.G 1 Z (.callF (r2:=.c (.own 4 0 a65.length)) (σ'':=[.dead,.dead,.dead,.dead,(oV 1 b9 a65)]) Z Z Z (FnOk.lend [2] (W6 ha65) Z Z Z Z Z Z (by exact⟨.vec,Y⟩) Z (by exact⟨(.live Z .vec),Y⟩) Z Z (by exact⟨.dead,.dead,.dead,.dead,(.new 2 Z Z .vec),Y⟩)) (.u Z Z (.nil (b5 (.ret ?_)))))
  obtain rfl:=oi h
  exact Done.ret Z (Fresh.mk Z Z)
theorem ao6{sv:Li}{v:Int}{r:Int}(h:J7 sv v=some r):e8 prog 129 [(cR sv),(cI v)] ((cI r)):=by
 unfold e8
 refine FnOk.enter (rs:=[.t 4]) func129 Z ntmps129 results129 Z ⟨Y,Y⟩ (by kernel_rfl) Z ?_
 unfold J7 at h
 refine AWP.gk 1 Z (.e (.gs 1 Z (S.len Z Z (fun hl7=>.ge 1 Z (.j ?_)))))
 obtain⟨oo,ho1,h⟩:=bind_some h
 refine AWP.rngH ho1 (fun t3 _=>⟨[(0,(cR sv)),(1,(cI v)),(7,(cI (sv.length:Int))),(8,(cI t3))],[]⟩) (fun x e st=>e=.ret∧Done [.t 4] (fun t _=>t=(cI x)) .ret st) (fun _ _=>Z) ?_ ?_ ?_ ?_
 ·try dsimp only
  exact Sub.en Z
 ·intro t3 s o hlot3 hltt3 h
  unfold G6 at h
  try dsimp only at h ⊢
  refine AWP.e (.j (.gk 2 Z (.e ?_)))
  obtain⟨a14,ha14,h⟩:=bind_some h
  refine AWP.G 3 Z (S.idx ha14 Z Z Z Z (.G 2 Z (.nil (b5 (.J Z h (fun hc4 h=> ?_) (fun hc4 h=> ?_))))))
  ·refine AWP.gk 2 Z (.ret (i4 (d9 ?_)))
   obtain rfl:=oi h
   refine d9 ⟨_,Z,Z,?_⟩
   exact Done.ret Z Z
  ·refine AWP.skip (d6 (b5 (.O (.add Z Z Z (by omega) (.z Z Z (.nil ?_))))))
   obtain rfl:=oi h
   refine b5 ⟨_,Z,?_⟩
   exact Sub.en Z
 ·intro iz _ he
  subst he
  try dsimp only at h ⊢
  refine f9 (b5 (.gk 1 Z (.ret ?_)))
  obtain rfl:=oi h
  exact Done.ret Z Z
 ·intro x e st he hq
  subst he
  try dsimp only at h hq
  obtain⟨rfl,hs⟩:=hq
  refine⟨_,Sub.refl _ _,?_⟩
  refine i4 (d9 ?_)
  obtain rfl:=oi h
  exact hs
theorem aj5{sv:Li}{v:Int}{r:Bool}(h:C5 sv v=some r):e8 prog 101 [(cR sv),(cI v)] ((cB r)):=by
 unfold e8
 refine FnOk.enter (rs:=[.t 4]) func101 Z ntmps101 results101 Z ⟨Y,Y⟩ (by kernel_rfl) Z ?_
 unfold C5 at h
 refine AWP.gk 1 Z (.e ?_)
 obtain⟨a7,ha7,h⟩:=bind_some h
 refine AWP.G 2 Z (.q Z Z Z Z (ao6 ha7) Z (.G 2 Z (.nil (b5 (.ret ?_)))))
 obtain rfl:=oi h
 exact Done.ret Z Z
theorem cyclic_Holds_ok{ov:d5}{policy:List e9}{r:Bool}(h:W9 ov policy=some r):e8 prog 70 [.agg (tO ov),.c (row 2 f8 policy)] ((cB r)):=by
 unfold e8
 refine FnOk.enter (rs:=[.t 4]) func70 Z ntmps70 results70 Z ⟨Y,Y⟩ (by kernel_rfl) Z ?_
 unfold W9 at h
 refine AWP.gk 2 Z (.e ?_)
 obtain⟨a16,ha16,h⟩:=bind_some h
 refine AWP.G 2 Z (S.fresh Z Z Z Z (ap7 ha16) Z Z (.u Z Z (.nil (b5 (.e ?_)))))
 obtain⟨a19,ha19,h⟩:=bind_some h
 refine AWP.G 1 Z (S.lenO Z Z Z (fun hl18=>S.make (f:=intI) ha19 (.val .nil) Z Z Z Z Z Z (.u Z Z (.nil (b5 (.e (.gs 1 Z (S.lenO Z Z Z (fun hl21=>.ge 1 Z (.j ?_))))))))))
 obtain⟨oo,ho1,h⟩:=bind_some h
 refine AWP.rngH ho1 (fun t4 c3=>⟨[(1,.c (row 2 f8 policy)),(2,(cP 0 0 0)),(5,.c (.own 1 0 a16.length)),(6,.c (.own 2 0 c3.length)),(21,(cI (a16.length:Int))),(22,(cI t4))],[(oE 4 (tO ov)),(oV 1 b9 a16),(oV 1 intI c3)]⟩) (fun x e st=>e=.ret∧Done [.t 4] (fun t _=>t=(cB x)) .ret st) (fun _ _=>Z) ?_ ?_ ?_ ?_
 ·try dsimp only
  exact Sub.en Z
 ·intro t4 c3 o hlot4 hltt4 h
  unfold J1 at h
  try dsimp only at h ⊢
  refine AWP.e (.j (.gs 1 Z (S.lenO Z Z Z (fun hl25=>.ge 1 Z (.j ?_)))))
  obtain⟨oo,ho2,h⟩:=bind_some h
  refine AWP.rngH ho2 (fun t6 c5=>⟨[(1,.c (row 2 f8 policy)),(2,(cP 0 0 0)),(5,.c (.own 1 0 a16.length)),(6,.c (.own 2 0 c5.length)),(21,(cI (a16.length:Int))),(22,(cI t4)),(24,.c (.own 1 0 a16.length)),(25,(cI (a16.length:Int))),(26,(cI t6))],[(oE 4 (tO ov)),(oV 1 b9 a16),(oV 1 intI c5)]⟩) (fun x e st=>e=.ret∧Done [.t 4] (fun t _=>t=(cB x)) .ret st) (fun _ _=>Z) ?_ ?_ ?_ ?_
  ·try dsimp only
   exact Sub.en Z
  ·intro t6 c5 o hlot6 hltt6 h
   unfold I7 at h
   try dsimp only at h ⊢
   refine AWP.seqF (O9) o (fun c7=>⟨[(1,.c (row 2 f8 policy)),(2,(cP 0 0 0)),(5,.c (.own 1 0 a16.length)),(6,.c (.own 2 0 c7.length)),(21,(cI (a16.length:Int))),(22,(cI t4)),(24,.c (.own 1 0 a16.length)),(25,(cI (a16.length:Int))),(26,(cI t6))],[(oE 4 (tO ov)),(oV 1 b9 a16),(oV 1 intI c7)]⟩) (fun c7 h=> ?_) ?_
   ·unfold O9 at h
    try dsimp only at h ⊢
    refine AWP.O (.add Z Z Z (by omega) (.z Z Z (.nil ?_)))
    obtain rfl:=oi h
    refine b5 ⟨_,Z,?_⟩
    exact Sub.en Z
   ·refine AWP.j (.e ?_)
    obtain⟨a29,ha29,h⟩:=bind_some h
    refine AWP.G 1 Z (S.idxO ha29 Z Z Z Z Z (S.loadO ha29 Z Z Z Z Z (.G 2 Z (.nil (b5 (.e (.e ?_)))))))
    obtain⟨a34,ha34,h⟩:=bind_some h
    refine AWP.G 3 Z (.q Z Z Z Z (m8 ha34) Z (.nil (b5 (.E Z h (fun hc8 h=> ?_) (fun hc8 h=> ?_)))))
    ·refine AWP.e ?_
     obtain⟨a37,ha37,h⟩:=bind_some h
     refine AWP.G 2 Z (S.idxO ha37 Z Z Z Z Z (S.storeO1 (f:=intI) (a':=1) (q7 ha37) (fun _=>⟨_,Z⟩) Z Z Z Z Z ?_))
     refine AOps.nil (b5 (.exit (i5 (f9 (b5 ⟨_,h,?_⟩)))))
     exact Sub.env ⟨Z,Z,Z,(o7 (by first|rfl|simp only[lS])),Z,Z,Z,Z,Z,Y⟩
    ·refine AWP.skip (b5 (.e ?_))
     obtain⟨a40,ha40,h⟩:=bind_some h
     refine AWP.G 2 Z (.q Z Z Z Z (H3 ha40) Z (.u Z Z (.nil (b5 (.e (.gk 2 Z (.J Z h (fun hc9 h=> ?_) (fun hc9 h=> ?_))))))))
     ·refine AWP.gk 1 Z (.ret (d9 (i4 (d9 ?_))))
      obtain rfl:=oi h
      refine d9 ⟨_,Z,Z,?_⟩
      exact Done.ret Z Z
     ·refine AWP.skip (b5 (.e ?_))
      obtain⟨a47,ha47,h⟩:=bind_some h
      refine AWP.G 3 Z (.q Z Z Z Z (y6 ha47) Z (.G 5 Z (.nil (b5 (.gs 1 Z (S.len Z Z (fun hl51=>.ge 1 Z (.j ?_))))))))
      obtain⟨c10,ho4,h⟩:=bind_some h
      refine AWP.forH ho4 (fun t11 c10=>⟨[(1,.c (row 2 f8 policy)),(2,(cP 0 0 0)),(5,.c (.own 1 0 a16.length)),(6,.c (.own 2 0 c10.length)),(7,(cI t6)),(21,(cI (a16.length:Int))),(22,(cI t4)),(24,.c (.own 1 0 a16.length)),(25,(cI (a16.length:Int))),(26,(cI t6)),(50,.c (row 1 b9 a47.1)),(51,(cI (a47.1.length:Int))),(52,(cI t11))],[(oE 4 (tO ov)),(oV 1 b9 a16),(oV 1 intI c10)]⟩) (fun _ _=>Z) ?_ ?_ ?_
      ·try dsimp only
       exact Sub.en Z
      ·intro t11 c10 o hlot11 hltt11 h
       unfold W1 at h
       try dsimp only at h ⊢
       refine AWP.e (.j (.e ?_))
       obtain⟨a54,ha54,h⟩:=bind_some h
       refine AWP.O (S.idx ha54 Z Z Z Z (.G 2 Z (.nil (b5 ?_))))
       obtain⟨a60,ha60,a65,ha65,a66,ha66,h⟩:=b3 h
       obtain⟨a69,ha69,h⟩:=bind_some h
       refine AWP.drawEI [14] mixed Z Z Z (b8.D 4 Z Z ?_)
       refine b8.consN Z Z (fun E=>S.idxO ha60 Z Z Z Z Z .N) Z (.consN Z Z (fun E=>S.loadO ha60 Z Z Z Z Z .N) Z ?_)
       refine b8.D 3 Z Z ?_
       refine b8.consN Z Z (fun E=>.U Z Z (.cons (.c (.own Z Z)) (.cons (.c .imm) .nil)) Z (p9 ha65) Z .N) Z (.consN Z Z (fun E=>S.idxO ha66 Z Z Z Z Z .N) Z (.consN Z Z (fun E=>S.loadO ha66 Z Z Z Z Z .N) Z (.consN Z Z (fun E=>.max2 Z Z Z .N) Z (.consN Z Z (fun E=>S.idxO ha69 Z Z Z Z Z .N) Z ?_))))
       apply b8.consE (v:=.undef);exact Z;exact Z;intro E
       refine S.storeO1 (f:=intI) (a':=max a60 a66) (q7 ha69) (fun _=>⟨_,Z⟩) Z Z Z Z Z ?_
       exact AOps.nil ⟨Z,Z⟩
       exact Z
       exact Z
       refine b8.done Z ?_ ?_
       ·refine d8.D 4 Z Z ?_
        refine d8.cons Z Z (.go Z Z (fun E=>S.idxO ha60 Z Z Z Z Z .N) (.skip Z .nil)) (.cons Z Z (.go Z Z (fun E=>S.loadO ha60 Z Z Z Z Z .N) (.skip Z .nil)) ?_)
        refine d8.D 3 Z Z ?_
        refine d8.cons Z Z (.go Z Z (fun E=>.U Z Z (.cons (.c (.own Z Z)) (.cons (.c .imm) .nil)) Z (p9 ha65) Z .N) (.skip Z .nil)) (.cons Z Z (.go Z Z (fun E=>S.idxO ha66 Z Z Z Z Z .N) (.skip Z .nil)) (.cons Z Z (.go Z Z (fun E=>S.loadO ha66 Z Z Z Z Z .N) (.skip Z .nil)) (.cons Z Z (.go Z Z (fun E=>.max2 Z Z Z .N) (.skip Z .nil)) (.cons Z Z (.go Z Z (fun E=>S.idxO ha69 Z Z Z Z Z .N) (.skip Z .nil)) ?_))))
        refine d8.D 1 Z Z (d8.nil)
       dsimp only[h9]
       refine d6 (b5 (.O (.add Z Z Z (by omega) (.z Z Z (.nil ?_)))))
       obtain rfl:=oi h
       refine b5 (Sub.env ⟨Z,Z,Z,(o7 (by first|rfl|simp only[lS])),Z,Z,Z,Z,Z,Z,Z,Z,Z,Y⟩)
      ·intro iz
       try dsimp only
       refine f9 (d6 (b5 ⟨_,h,?_⟩))
       exact Sub.en Z
  ·intro iz c5 he
   subst he
   try dsimp only at h ⊢
   refine f9 (d6 (b5 (.O (.add Z Z Z (by omega) (.z Z Z (.nil ?_))))))
   obtain rfl:=oi h
   refine b5 ⟨_,Z,?_⟩
   exact Sub.en Z
  ·intro x e st he hq
   subst he
   try dsimp only at h hq
   obtain⟨rfl,hs⟩:=hq
   refine⟨_,Sub.refl _ _,?_⟩
   refine i4 (i4 (d9 ?_))
   obtain rfl:=oi h
   refine d9 ⟨_,Z,Z,?_⟩
   exact hs
 ·intro iz c3 he
  subst he
  try dsimp only at h ⊢
  refine f9 (b5 (.e ?_))
  obtain⟨a74,ha74,h⟩:=bind_some h
  refine AWP.G 1 Z (.U Z Z (.cons (.c (.own Z Z)) (.cons (.c .imm) .nil)) Z (aj5 ha74) Z (.G 2 Z (.nil (b5 (.ret ?_)))))
  obtain rfl:=oi h
  exact Done.ret Z Z
 ·intro x e st he hq
  subst he
  try dsimp only at h hq
  obtain⟨rfl,hs⟩:=hq
  refine⟨_,Sub.refl _ _,?_⟩
  refine i4 (d9 ?_)
  obtain rfl:=oi h
  exact hs
theorem ay0{sv:Li}{c2:List e9}{r:Int}(h:K8 sv c2=some r):e8 prog 72 [(cR sv),.c (.imm (.ipt [.sl 2 (List.map f8 c2)]))] ((cI r)):=by
 unfold e8
 refine FnOk.enter (rs:=[.t 3]) func72 Z ntmps72 results72 Z ⟨Y,Y⟩ (by kernel_rfl) Z ?_
 unfold K8 at h
 refine AWP.gk 1 Z (.e ?_)
 obtain⟨a6,ha6,h⟩:=bind_some h
 refine AWP.G 2 Z (.q Z Z Z Z (H3 ha6) Z (.u Z Z (.nil (b5 (.ret ?_)))))
 obtain rfl:=oi h
 exact Done.ret Z Z
theorem ar3{ov:d5}{states:LL}{c:List e9}{r:(LL)}(h:G8 ov states c=some r):FnOk prog 45 [.agg (tO ov),.c (row 1 b9 states),.c (.fn 72 [.ptr 0 0 0])] (ar4 ov states c) (fun tt ss=>tt=.agg [row 1 b9 states,.own 4 0 r.length]∧ss=[(o1 (row 2 f8 c)),.dead,(oE 2 [row 1 b9 states,.own 4 0 r.length]),.dead,mat (4,[]) 1 intI r]):=by
 refine FnOk.enter (rs:=[.cell 6 86 2]) func45 Z ntmps45 results45 Z ⟨rv _ Z,Y⟩ (by kernel_rfl) Z ?_
 refine AWP.weak ?_
 unfold G8 at h
 refine AWP.gk 2 Z (.gk 4 Z (.e (.gs 1 Z (S.len Z Z (fun hl19=>.ge 1 Z (.j (.virtBM 1 intI (b:=3) (o:=1) Z Z Z Z Z Z Z Z ?_)))))))
 obtain⟨c55,ho1,h⟩:=bind_some h
 refine AWP.forH ho1 (fun t56 c55=>⟨[(1,.c (row 1 b9 states)),(2,.c (.fn 72 [.ptr 0 0 0])),(3,(cP 1 0 0)),(6,(cP 2 0 0)),(7,(cP 3 0 0)),(18,.c (row 1 b9 states)),(19,(cI (states.length:Int))),(20,(cI t56))],[(o1 (row 2 f8 c)),(oE 4 (tO ov)),(oE 2 [.imm (.val nL),.imm (.val nL)]),(oE 2 [row 1 b9 states,.own 4 0 c55.length]),mat (4,[]) 1 intI c55]⟩) (fun _ _=>Z) ?_ ?_ ?_
 ·try dsimp only
  exact Sub.en Z
 ·intro t56 c55 o hlot56 hltt56 h
  unfold aa8 at h
  try dsimp only at h ⊢
  refine AWP.e (.j (.e ?_))
  obtain⟨a23,ha23,h⟩:=bind_some h
  refine AWP.G 1 Z (S.idx ha23 Z Z Z Z (.G 3 Z (.nil (b5 (.e ?_)))))
  obtain⟨a28,ha28,h⟩:=bind_some h
  refine AWP.G 1 Z (S.len Z Z (fun hl26=>S.add Z Z Z (S.make (f:=intI) ha28 (.val .nil) Z Z Z Z Z Z (.u Z Z (.nil (b5 (.e ?_)))))))
  obtain⟨a31,ha31,h⟩:=bind_some h
  refine AWP.G 2 Z (.U Z Z (.cons (.c .imm) (.cons (.c (.ptr (es:=[.sl 2 (List.map f8 c)]) Z Z (.cons .imm .nil))) .nil)) Z (ay0 ha31) Z (.u Z Z (.nil (b5 (.e ?_)))))
  obtain⟨a36,ha36,h⟩:=bind_some h
  refine AWP.G 3 Z (.q Z Z Z Z (y6 ha36) Z (.G 5 Z (.nil (b5 (.e (.gs 1 Z (S.len Z Z (fun hl40=>.ge 1 Z (.j ?_)))))))))
  obtain⟨c57,ho2,h⟩:=bind_some h
  refine AWP.forH ho2 (fun t58 c57=>⟨[(1,.c (row 1 b9 states)),(2,.c (.fn 72 [.ptr 0 0 0])),(3,(cP 1 0 0)),(6,(cP 2 0 0)),(7,(cP 3 0 0)),(8,(cI t56)),(10,.c (.own 5 0 c57.length)),(11,(cI a31)),(13,(cR a36.2)),(18,.c (row 1 b9 states)),(19,(cI (states.length:Int))),(20,(cI t56)),(39,.c (row 1 b9 a36.1)),(40,(cI (a36.1.length:Int))),(41,(cI t58))],[(o1 (row 2 f8 c)),(oE 4 (tO ov)),(oE 2 [.imm (.val nL),.imm (.val nL)]),(oE 2 [row 1 b9 states,.own 4 0 c55.length]),mat (4,[]) 1 intI c55,(oV 1 intI c57)]⟩) (fun _ _=>Z) ?_ ?_ ?_
  ·try dsimp only
   exact Sub.en Z
  ·intro t58 c57 o hlot58 hltt58 h
   unfold ab0 at h
   try dsimp only at h ⊢
   obtain⟨c59,hx60,h⟩:=bind_some h
   refine AWP.seqJ (⟨[(1,.c (row 1 b9 states)),(2,.c (.fn 72 [.ptr 0 0 0])),(3,(cP 1 0 0)),(6,(cP 2 0 0)),(7,(cP 3 0 0)),(8,(cI t56)),(10,.c (.own 5 0 c59.length)),(11,(cI a31)),(13,(cR a36.2)),(18,.c (row 1 b9 states)),(19,(cI (states.length:Int))),(20,(cI t56)),(39,.c (row 1 b9 a36.1)),(40,(cI (a36.1.length:Int))),(41,(cI t58))],[(o1 (row 2 f8 c)),(oE 4 (tO ov)),(oE 2 [.imm (.val nL),.imm (.val nL)]),(oE 2 [row 1 b9 states,.own 4 0 c55.length]),mat (4,[]) 1 intI c55,(oV 1 intI c59)]⟩) ?_ ?_
   ·refine AWP.j (.e ?_)
    obtain⟨a44,ha44,hx60⟩:=bind_some hx60
    refine AWP.G 1 Z (S.idx ha44 Z Z Z Z (.G 3 Z (.nil (b5 (.e ?_)))))
    obtain⟨a48,ha48,a52,ha52,a55,ha55,hx60⟩:=b3 hx60
    refine AWP.drawEI [10] mixed Z Z Z (b8.D 2 Z Z ?_)
    refine b8.consN Z Z (fun E=>S.idxO ha48 Z Z Z Z Z .N) Z (.consN Z Z (fun E=>S.loadO ha48 Z Z Z Z Z .N) Z ?_)
    refine b8.D 2 Z Z ?_
    refine b8.consN Z Z (fun E=>S.idx ha52 Z Z Z Z .N) Z ?_
    refine b8.D 2 Z Z ?_
    refine b8.consN Z Z (fun E=>S.idxO ha55 Z Z Z Z Z .N) Z ?_
    apply b8.consE (v:=.undef);exact Z;exact Z;intro E
    refine S.storeO1 (f:=intI) (a':=w64 (a48+a52)) (q7 ha55) (fun _=>⟨_,Z⟩) Z Z Z Z Z ?_
    exact AOps.nil ⟨Z,Z⟩
    exact Z
    exact Z
    refine b8.done Z ?_ ?_
    ·refine d8.D 2 Z Z ?_
     refine d8.cons Z Z (.go Z Z (fun E=>S.idxO ha48 Z Z Z Z Z .N) (.skip Z .nil)) (.cons Z Z (.go Z Z (fun E=>S.loadO ha48 Z Z Z Z Z .N) (.skip Z .nil)) ?_)
     refine d8.D 2 Z Z ?_
     refine d8.cons Z Z (.go Z Z (fun E=>S.idx ha52 Z Z Z Z .N) (.skip Z .nil)) ?_
     refine d8.D 2 Z Z ?_
     refine d8.cons Z Z (.go Z Z (fun E=>S.idxO ha55 Z Z Z Z Z .N) (.skip Z .nil)) ?_
     refine d8.D 1 Z Z (d8.nil)
    dsimp only[h9]
    refine b5 (.e ?_)
    obtain⟨a59,ha59,a63,ha63,a68,ha68,hx60⟩:=b3 hx60
    obtain⟨a73,ha73,hx60⟩:=bind_some hx60
    refine AWP.drawEI [18] mixed Z Z Z (b8.D 2 Z Z ?_)
    refine b8.consN Z Z (fun E=>S.len Z Z (fun hl58=>.nil ⟨Z,Z⟩)) Z (.consN Z Z (fun E=>S.idxO ha59 Z (by simp only[lS]) Z Z Z .N) Z (.consN Z Z (fun E=>S.loadO ha59 Z Z Z Z Z .N) Z ?_))
    refine b8.D 2 Z Z ?_
    refine b8.consN Z Z (fun E=>S.idx ha63 Z Z Z Z .N) Z ?_
    refine b8.D 4 Z Z ?_
    refine b8.consN Z Z (fun E=>S.idx ha68 Z Z Z Z .N) Z ?_
    refine b8.D 4 Z Z ?_
    refine b8.consN Z Z (fun E=>S.idxO ha73 Z (by simp only[lS]) Z Z Z .N) Z ?_
    apply b8.consE (v:=.undef);exact Z;exact Z;intro E
    refine S.storeO1 (f:=intI) (a':=w64 (a59+(w64 (a63 * a68.cost)))) (q7 ha73) (fun _=>⟨_,Z⟩) Z Z Z Z Z ?_
    exact AOps.nil ⟨Z,Z⟩
    exact Z
    exact Z
    refine b8.done Z ?_ ?_
    ·refine d8.D 2 Z Z ?_
     refine d8.cons Z Z ?_ ?_
     apply i6.go;exact Z;exact Z;intro E;refine S.len Z Z (fun hl58=> ?_);exact AOps.nil ⟨Z,Z⟩
     refine i6.skip Z (i6.nil)
     refine d8.cons Z Z (.go Z Z (fun E=>S.idxO ha59 Z (by simp only[lS]) Z Z Z .N) (.skip Z .nil)) (.cons Z Z (.go Z Z (fun E=>S.loadO ha59 Z Z Z Z Z .N) (.skip Z .nil)) ?_)
     refine d8.D 2 Z Z ?_
     refine d8.cons Z Z (.go Z Z (fun E=>S.idx ha63 Z Z Z Z .N) (.skip Z .nil)) ?_
     refine d8.D 4 Z Z ?_
     refine d8.cons Z Z (.go Z Z (fun E=>S.idx ha68 Z Z Z Z .N) (.skip Z .nil)) ?_
     refine d8.D 4 Z Z ?_
     refine d8.cons Z Z (.go Z Z (fun E=>S.idxO ha73 Z (by simp only[lS]) Z Z Z .N) (.skip Z .nil)) ?_
     refine d8.D 1 Z Z (d8.nil)
    dsimp only[h9]
    refine b5 (.e ?_)
    obtain⟨a77,ha77,hx60⟩:=bind_some hx60
    refine AWP.G 3 Z (.q Z Z Z Z (m8 ha77) Z (.not Z Z (.nil (b5 (.E Z hx60 (fun hc61 hx60=> ?_) (fun hc61 hx60=> ?_))))))
    ·obtain⟨a82,ha82,a83,ha83,a87,ha87,hx60⟩:=b3 hx60
     obtain⟨a90,ha90,hx60⟩:=bind_some hx60
     refine AWP.drawEI [12] mixed Z Z Z (b8.D 3 Z Z ?_)
     refine b8.consN Z Z (fun E=>.q Z Z Z Z (p9 ha82) Z .N) Z (.consN Z Z (fun E=>S.idxO ha83 Z (by simp only[lS]) Z Z Z .N) Z (.consN Z Z (fun E=>S.loadO ha83 Z Z Z Z Z .N) Z ?_))
     refine b8.D 2 Z Z ?_
     refine b8.consN Z Z (fun E=>S.idx ha87 Z Z Z Z .N) Z ?_
     refine b8.D 2 Z Z ?_
     refine b8.consN Z Z (fun E=>S.idxO ha90 Z (by simp only[lS]) Z Z Z .N) Z ?_
     apply b8.consE (v:=.undef);exact Z;exact Z;intro E
     refine S.storeO1 (f:=intI) (a':=w64 (a83 - a87)) (q7 ha90) (fun _=>⟨_,Z⟩) Z Z Z Z Z ?_
     exact AOps.nil ⟨Z,Z⟩
     exact Z
     exact Z
     refine b8.done Z ?_ ?_
     ·refine d8.D 3 Z Z ?_
      refine d8.cons Z Z (.go Z Z (fun E=>.q Z Z Z Z (p9 ha82) Z .N) (.skip Z .nil)) (.cons Z Z (.go Z Z (fun E=>S.idxO ha83 Z (by simp only[lS]) Z Z Z .N) (.skip Z .nil)) (.cons Z Z (.go Z Z (fun E=>S.loadO ha83 Z Z Z Z Z .N) (.skip Z .nil)) ?_))
      refine d8.D 2 Z Z ?_
      refine d8.cons Z Z (.go Z Z (fun E=>S.idx ha87 Z Z Z Z .N) (.skip Z .nil)) ?_
      refine d8.D 2 Z Z ?_
      refine d8.cons Z Z (.go Z Z (fun E=>S.idxO ha90 Z (by simp only[lS]) Z Z Z .N) (.skip Z .nil)) ?_
      refine d8.D 1 Z Z (d8.nil)
     dsimp only[h9]
     refine d6 ?_
     obtain rfl:=oi hx60
     refine b5 (Sub.env ⟨Z,Z,Z,Z,Z,Z,(o7 (by first|rfl|simp only[lS])),Z,Z,Z,Z,Z,Z,Z,Z,Y⟩)
    ·refine AWP.skip (d6 ?_)
     obtain rfl:=oi hx60
     refine b5 (Sub.env ⟨Z,Z,Z,Z,Z,Z,(o7 (by first|rfl|simp only[lS])),Z,Z,Z,Z,Z,Z,Z,Z,Y⟩)
   ·refine AWP.O (.add Z Z Z (by omega) (.z Z Z (.nil ?_)))
    obtain rfl:=oi h
    refine b5 (Sub.en Z)
  ·intro iz
   try dsimp only
   refine f9 (b5 ?_)
   obtain⟨a96,ha96,h⟩:=bind_some h
   refine AWP.G 3 Z (W.lit1 Z Z Z Z Z Z Z Z Z (S.appendMR (k:=1) (f:=intI) (a:=c57) ha96 Z Z Z Z Z Z Z Z Z Z Z Z Z Z Z Z (.G 2 Z (.nil (d6 (b5 (.moveM (env':=[(1,.c (row 1 b9 states)),(2,.c (.fn 72 [.ptr 0 0 0])),(3,(cP 1 0 0)),(6,(cP 2 0 0)),(7,(cP 3 0 0)),(18,.c (row 1 b9 states)),(19,(cI (states.length:Int))),(20,(cI t56))]) (σ':=[(o1 (row 2 f8 c)),(oE 4 (tO ov)),(oE 2 [.imm (.val nL),.imm (.val nL)]),(oE 2 [row 1 b9 states,.own 4 0 a96.length]),mat (4,[]) 1 intI a96,.dead,(o1 (.own 5 0 c57.length))]) 4 7 Z Z Z ⟨Z,Z,Z,Z,Z,Z,Z,Z,Y⟩ Z ⟨(.one Z Z),(.one Z Z),(.one Z Z),(.one Z Z),(.mat Z Z Z),.dead,(.one Z Z),Y⟩ (.O (.add Z Z Z (by omega) (.z Z Z (.nil ?_)))))))))))
   obtain rfl:=oi h
   refine b5 (Sub.cut ⟨Z,Z,Z,Z,Z,Z,Z,Z,Y⟩ Z ⟨.one Z,.one Z,.one Z,.one Z,.mat Z,Y⟩ Z)
 ·intro iz
  try dsimp only
  refine f9 (b5 (.gk 2 Z (.ret ?_)))
  obtain rfl:=oi h
  exact⟨⟨[(6,(cP 2 0 0))],[(o1 (row 2 f8 c)),.dead,(oE 2 [row 1 b9 states,.own 4 0 c55.length]),.dead,mat (4,[]) 1 intI c55]⟩,Sub.cut ⟨Z,Y⟩ Z ⟨.one Z,.dead,.one Z,.dead,.mat Z,Y⟩ Z,Done.ret Z ⟨Z,Z⟩⟩
theorem chance_Value_ok{ov:d5}{policy:List e9}{r:m9×j8}(h:D9 ov policy=some r):e8 prog 23 [.agg (tO ov),.c (row 2 f8 policy)] (.tup [.agg [int r.1.num,int r.1.den],.agg [int r.2.code,int r.2.index]]):=by
 unfold e8
 refine FnOk.enter (rs:=[.cell 4 28 2,.cell 5 30 2]) func23 Z ntmps23 results23 Z ⟨rv _ Z,rv _ Z,Y⟩ (by kernel_rfl) Z ?_
 unfold D9 at h
 refine AWP.gk 4 Z (.e (.e ?_))
 obtain⟨a12,ha12,h⟩:=bind_some h
 refine AWP.G 2 Z (.q Z Z Z Z (ar0 ha12) Z (.G 2 Z (.nil (b5 (.gs 2 Z (.neqP Z Z Z Z Z Z Z (.ne (.E Z h (fun hc3 h=> ?_) (fun hc3 h=> ?_)))))))))
 ·refine AWP.e (.drawEI [2,3] mixed Z Z Z (b8.D 2 Z Z ?_))
  apply b8.consE (v:=.undef);exact Z;exact Z;intro E
  refine W.storeAgg Z Z Z Z Z Z Z .N
  exact Z
  exact Z
  apply b8.consE (v:=.undef);exact Z;exact Z;intro E
  refine W.storeAgg Z Z Z Z Z Z Z .N
  exact Z
  exact Z
  refine b8.done Z ?_ ?_
  ·refine d8.D 4 Z Z (d8.nil)
  dsimp only[h9]
  refine b5 (.ret (d9 ?_))
  obtain rfl:=oi h
  exact Done.ret Z Z
 ·refine AWP.skip (b5 (.e (.e ?_)))
  obtain⟨a20,ha20,h⟩:=bind_some h
  refine AWP.G 2 Z (.q Z Z Z Z (cyclic_Holds_ok ha20) Z (.not Z Z (.nil (b5 (.E Z h (fun hc4 h=> ?_) (fun hc4 h=> ?_))))))
  ·refine AWP.gk 4 Z (.ret (d9 ?_))
   obtain rfl:=oi h
   exact Done.ret Z Z
  ·refine AWP.skip (b5 (.e ?_))
   obtain⟨a27,ha27,a28,ha28,h⟩:=b2 h
   refine AWP.drawEI [3,4] mixed Z Z Z (b8.D 3 Z Z ?_)
   apply b8.consE;exact Z;exact Z;intro E
   refine S.fresh Z Z Z Z (ap7 ha27) Z Z .N
   exact Z
   exact Z
   apply b8.consE;exact Z;exact Z;intro E
   refine AOps.callF (r2:=.c (.own 8 0 a28.length)) (σ'':=[(oE 4 (tO ov)),(o1 (row 2 f8 policy)),(oE 2 [int 0,int 0]),(oE 2 [int 0,int 0]),(oE 2 [int a12.code,int a12.index]),.dead,.dead,.dead,(oV 1 b9 a28)]) Z Z Z (FnOk.lend [5] (U7 ha28) Z Z Z Z Z Z (by exact⟨.vec,Y⟩) Z (by exact⟨(.live Z .vec),Y⟩) Z Z (by exact⟨(.old Z Z Z),(.old Z Z Z),(.old Z Z Z),(.old Z Z Z),(.old Z Z Z),.dead,.dead,.dead,(.new 3 Z Z .vec),Y⟩)) .N
   exact Z
   exact Z
   refine b8.D 1 Z Z (b8.done Z ?_ ?_)
   ·refine d8.D 6 Z Z (d8.nil)
   dsimp only[h9]
   refine b5 (.e (.gs 1 Z (S.lenO Z Z Z (fun hl30=>.ge 1 Z (.J Z h (fun hc5 h=> ?_) (fun hc5 h=> ?_))))))
   ·refine AWP.gk 4 Z (.ret (d9 ?_))
    obtain rfl:=oi h
    exact Done.ret Z Z
   ·refine AWP.skip (b5 (.e (.e ?_)))
    obtain⟨a38,ha38,h⟩:=bind_some h
    refine AWP.G 4 Z (.q Z Z Z Z (m8 ha38) Z (.nil (b5 (.E Z h (fun hc6 h=> ?_) (fun hc6 h=> ?_)))))
    ·refine AWP.gk 4 Z (.ret (d9 ?_))
     obtain rfl:=oi h
     exact Done.ret Z Z
    ·refine AWP.skip (b5 (.e ?_))
     obtain⟨a45,ha45,a46,ha46,h⟩:=b2 h
     refine AWP.G 2 Z (.aa Z Z (.frzV (id:=8) (l:=a28) (env2:=[(2,(cP 0 0 0)),(4,(cP 2 0 0)),(5,(cP 3 0 0)),(7,.c (row 1 b9 a28)),(42,.agg (tO ov)),(43,.c (row 1 b9 a28)),(44,.c (.fn 72 [.ptr 1 0 0]))]) (σ2:=[(oE 4 (tO ov)),(o1 (row 2 f8 policy)),(oE 2 [int 0,int 0]),(oE 2 [int 0,int 0]),(oE 2 [int a12.code,int a12.index]),.dead,.dead,.dead,.dead]) Z Z (by exact⟨⟨_,Z,.inl ⟨Z,Z⟩⟩,⟨_,Z,.inl ⟨Z,Z⟩⟩,⟨_,Z,.inl ⟨Z,Z⟩⟩,⟨_,Z,.inr ⟨_,Z,Z,Z⟩⟩,⟨_,Z,⟨.inl ⟨Z,Z⟩,.inl ⟨Z,Z⟩,.inl ⟨Z,Z⟩,.inl ⟨Z,Z⟩,Y⟩⟩,⟨_,Z,.inr ⟨_,Z,Z,Z⟩⟩,⟨_,Z,.inl ⟨Z,Z⟩⟩,Y⟩) Z (by exact⟨⟨Z,.inl ⟨Z,Z⟩,.inl ⟨Z,Z⟩,.inl ⟨Z,Z⟩,.inl ⟨Z,Z⟩,Y⟩,⟨Z,.inl ⟨Z,Z⟩,Y⟩,⟨Z,.inl ⟨Z,Z⟩,.inl ⟨Z,Z⟩,Y⟩,⟨Z,.inl ⟨Z,Z⟩,.inl ⟨Z,Z⟩,Y⟩,⟨Z,.inl ⟨Z,Z⟩,.inl ⟨Z,Z⟩,Y⟩,Y,Y,Y,Y,Y⟩) (.callF (r2:=.agg [row 1 b9 a28,.own 12 0 a45.length]) (σ'':=[(oE 4 (tO ov)),(o1 (row 2 f8 policy)),(oE 2 [int 0,int 0]),(oE 2 [int 0,int 0]),(oE 2 [int a12.code,int a12.index]),.dead,.dead,.dead,.dead,.dead,(oE 2 [row 1 b9 a28,.own 12 0 a45.length]),.dead,mat (12,[]) 1 intI a45]) Z Z Z (FnOk.lend [1] (ar3 ha45) Z Z Z Z Z Z (by exact⟨(.one Z),Y⟩) Z (by exact⟨(.live Z (.one Z)),Y⟩) Z Z (by exact⟨(.old Z Z Z),(.new 0 Z Z (.one Z)),(.old Z Z Z),(.old Z Z Z),(.old Z Z Z),.dead,.dead,.dead,.dead,.dead,(.new 2 Z Z (.one Z)),.dead,(.new 4 Z Z .mat),Y⟩)) (.callF (r2:=.tup [.c (.own 14 0 a46.1.length),(cI a46.2)]) (σ'':=[(oE 4 (tO ov)),(o1 (row 2 f8 policy)),(oE 2 [int 0,int 0]),(oE 2 [int 0,int 0]),(oE 2 [int a12.code,int a12.index]),.dead,.dead,.dead,.dead,.dead,(oE 2 [row 1 b9 a28,.own 12 0 a45.length]),.dead,.dead,.dead,(oV 1 intI a46.1)]) Z Z Z (FnOk.lend [12] (X0 ha46) Z Z Z Z Z Z (by exact⟨(.mat Z),Y⟩) Z (by exact⟨(.live Z .mat),Y⟩) Z Z (by exact⟨(.old Z Z Z),(.old Z Z Z),(.old Z Z Z),(.old Z Z Z),(.old Z Z Z),.dead,.dead,.dead,.dead,.dead,(.old Z Z Z),.dead,.dead,.dead,(.new 2 Z Z .vec),Y⟩)) (.G 5 Z (.nil (b5 (.e ?_))))))))
     obtain⟨a53,ha53,a54,ha54,a57,ha57,h⟩:=b3 h
     refine AWP.G 4 Z (.q Z Z Z Z (p9 ha53) Z (S.idxO ha54 Z Z Z Z Z (S.loadO ha54 Z Z Z Z Z (.z Z Z (.q Z Z Z Z (S0 ha57) Z (.G 4 Z (.nil (b5 (.ret ?_)))))))))
     obtain rfl:=oi h
     exact Done.ret Z Z
theorem aw2{ov:d5}{p:List e9}{r:j8}(h:M3 ov p=some r):e8 prog 24 [.agg (tO ov),.c (row 2 f8 p)] (.agg [int r.code,int r.index]):=by
 unfold e8
 refine FnOk.enter (rs:=[.cell 4 30 2]) func24 Z ntmps24 results24 Z ⟨rv _ Z,Y⟩ (by kernel_rfl) Z ?_
 unfold M3 at h
 refine AWP.gk 2 Z (.e (.e ?_))
 obtain⟨a8,ha8,h⟩:=bind_some h
 refine AWP.G 1 Z (.q Z Z Z Z (ax9 ha8) Z (.G 2 Z (.nil (b5 (.gk 3 Z (.iteN Z h (fun hc3 h=> ?_) (fun hc3 h=> ?_)))))))
 ·refine AWP.gk 2 Z (.ret (d9 ?_))
  obtain rfl:=oi h
  exact Done.ret Z Z
 ·refine AWP.skip (b5 (.e (.gs 1 Z (S.len Z Z (fun hl14=>.ge 1 Z (.J Z h (fun hc4 h=> ?_) (fun hc4 h=> ?_)))))))
  ·refine AWP.e ?_
   obtain⟨a16,ha16,h⟩:=bind_some h
   refine AWP.O (.q Z Z Z Z (B1 ha16) Z (.G 1 Z (.nil (b5 (.ret (d9 ?_))))))
   obtain rfl:=oi h
   exact Done.ret Z Z
  ·refine AWP.skip (b5 (.e (.gk 1 Z (.j ?_))))
   obtain⟨oo,ho1,h⟩:=bind_some h
   refine AWP.rngL ho1 (fun iv5 _=>⟨[(1,.c (row 2 f8 p)),(2,(cP 0 0 0)),(4,(cP 1 0 0)),(6,(cI iv5))],[(oE 4 (tO ov)),(oE 2 [int 0,int 0])]⟩) (fun x e st=>e=.ret∧Done [.cell 4 30 2] (fun t _=>t=.agg [int x.code,int x.index]) .ret st) (fun _ _ _ k=>.G 2 Z (S.len Z Z fun hl=>.gn 1 Z (k hl))) (fun _ _=>Z) ?_ ?_ ?_ ?_
   ·try dsimp only
    exact Sub.cut ⟨Z,Z,Z,Z,Y⟩ Z ⟨.one Z,.one Z,Y⟩ Z
   ·intro iv5 s o hloiv5 hltiv5 h hl19
    unfold D4 at h
    try dsimp only at h ⊢
    refine AWP.e (.j (.e ?_))
    obtain⟨t6,hx7,h⟩:=bind_some h
    refine AWP.seqJ (⟨[(1,.c (row 2 f8 p)),(2,(cP 0 0 0)),(4,(cP 1 0 0)),(6,(cI iv5)),(50,(cB t6))],[(oE 4 (tO ov)),(oE 2 [int 0,int 0])]⟩) ?_ ?_
    ·obtain⟨a25,ha25,a30,ha30,hx7⟩:=b2 hx7
     rcases bft (!a30) with hb8|hb8
     ·replace hx7:=B2 hb8 hx7
      refine AWP.drawI mixed Z (b7.D 2 Z ?_)
      refine b7.consF Z (fun E=>S.idx ha25 Z Z Z Z .N) Z ?_
      refine b7.D 4 Z ?_
      refine b7.consF Z (fun E=>.q Z Z Z Z (z8 ha30) Z .N) Z ?_
      refine b7.D 2 Z (b7.K Z hb8 Z (b7.D 18 Z (b7.done ?_)))
      dsimp only[h9]
      obtain rfl:=oi hx7
      refine b5 (Sub.en Z)
     ·replace hx7:=B3 hb8 hx7
      rcases bft (decide (0<iv5)) with hb9|hb9
      ·replace hx7:=F8 hb9 hx7
       obtain⟨a39,ha39,a44,ha44,a47,ha47,hx7⟩:=b3 hx7
       refine AWP.drawI mixed Z (b7.D 2 Z ?_)
       refine b7.consF Z (fun E=>S.idx ha25 Z Z Z Z .N) Z ?_
       refine b7.D 4 Z ?_
       refine b7.consF Z (fun E=>.q Z Z Z Z (z8 ha30) Z .N) Z ?_
       refine b7.D 2 Z (b7.K Z hb8 Z (b7.D 3 Z (b7.K Z hb9 Z (b7.D 2 Z ?_))))
       refine b7.consF Z (fun E=>.F Z Z Z Z (.sub' Z Z Z (by omega) .N)) Z (.consF Z (fun E=>.F Z Z Z Z (S.idx ha39 Z Z Z Z .N)) Z ?_)
       refine b7.D 4 Z ?_
       refine b7.consF Z (fun E=>.F Z Z Z Z (S.idx ha44 Z Z Z Z .N)) Z ?_
       refine b7.D 2 Z ?_
       refine b7.consF Z (fun E=>.F Z Z Z Z (.q Z Z Z Z (as1 ha47) Z .N)) Z ?_
       refine b7.D 3 Z (b7.done ?_)
       dsimp only[h9]
       obtain rfl:=oi hx7
       refine b5 (Sub.en Z)
      ·replace hx7:=F1 hb9 hx7
       refine AWP.drawI mixed Z (b7.D 2 Z ?_)
       refine b7.consF Z (fun E=>S.idx ha25 Z Z Z Z .N) Z ?_
       refine b7.D 4 Z ?_
       refine b7.consF Z (fun E=>.q Z Z Z Z (z8 ha30) Z .N) Z ?_
       refine b7.D 2 Z (b7.K Z hb8 Z (b7.D 3 Z (b7.K Z hb9 Z (b7.D 15 Z (b7.done ?_)))))
       dsimp only[h9]
       obtain rfl:=oi hx7
       refine b5 (Sub.en Z)
    ·refine AWP.E Z h (fun hc10 h=> ?_) (fun hc10 h=> ?_)
     ·refine AWP.e ?_
      obtain⟨a53,ha53,h⟩:=bind_some h
      refine AWP.G 2 Z (.q Z Z Z Z (B1 ha53) Z (.G 1 Z (.nil (b5 (.ret (d9 (i4 (d9 ?_))))))))
      obtain rfl:=oi h
      refine d9 ⟨_,Z,Z,?_⟩
      exact Done.ret Z Z
     ·refine AWP.skip (b5 (.e (.e ?_)))
      obtain⟨a56,ha56,a63,ha63,h⟩:=b2 h
      refine AWP.drawI mixed Z (b7.D 2 Z ?_)
      refine b7.consF Z (fun E=>S.idx ha56 Z Z Z Z .N) Z ?_
      refine b7.D 4 Z ?_
      refine b7.consF Z (fun E=>S.len Z Z (fun hl61=>.nil ⟨Z,Z⟩)) Z ?_
      refine b7.D 1 Z ?_
      refine b7.consF Z (fun E=>.q Z Z Z Z (P1 ha63) Z .N) Z ?_
      refine b7.D 1 Z (b7.done ?_)
      dsimp only[h9]
      refine b5 (.E Z h (fun hc11 h=> ?_) (fun hc11 h=> ?_))
      ·refine AWP.e ?_
       obtain⟨a67,ha67,h⟩:=bind_some h
       refine AWP.G 2 Z (.q Z Z Z Z (B1 ha67) Z (.G 1 Z (.nil (b5 (.ret (d9 (i4 (d9 ?_))))))))
       obtain rfl:=oi h
       refine d9 ⟨_,Z,Z,?_⟩
       exact Done.ret Z Z
      ·refine AWP.skip (b5 (.e ?_))
       obtain⟨a71,ha71,a76,ha76,a79,ha79,h⟩:=b3 h
       refine AWP.drawI mixed Z (b7.D 3 Z ?_)
       refine b7.consF Z (fun E=>S.idx ha71 Z Z Z Z .N) Z ?_
       refine b7.D 4 Z ?_
       refine b7.consF Z (fun E=>S.idx ha76 Z Z Z Z .N) Z ?_
       refine b7.D 2 Z ?_
       refine b7.consF Z (fun E=>.q Z Z Z Z (ref8_Applies_ok ha79) Z .N) Z ?_
       refine b7.D 1 Z (b7.done ?_)
       dsimp only[h9]
       refine b5 (.E Z h (fun hc12 h=> ?_) (fun hc12 h=> ?_))
       ·refine AWP.e ?_
        obtain⟨a83,ha83,h⟩:=bind_some h
        refine AWP.G 2 Z (.q Z Z Z Z (B1 ha83) Z (.G 1 Z (.nil (b5 (.ret (i4 (d9 ?_)))))))
        obtain rfl:=oi h
        refine d9 ⟨_,Z,Z,?_⟩
        exact Done.ret Z Z
       ·refine AWP.skip (d6 (b5 (.G 1 Z (.add Z Z Z (by omega) (.u Z Z (.nil ?_))))))
        obtain rfl:=oi h
        refine b5 ⟨_,Z,?_⟩
        exact Sub.en Z
   ·intro iz _ he
    subst he
    try dsimp only at h ⊢
    refine f9 (b5 (.gk 2 Z (.ret ?_)))
    obtain rfl:=oi h
    exact Done.ret Z Z
   ·intro x e st he hq
    subst he
    try dsimp only at h hq
    obtain⟨rfl,hs⟩:=hq
    refine⟨_,Sub.refl _ _,?_⟩
    refine i4 (d9 ?_)
    obtain rfl:=oi h
    exact hs
theorem ag1{ov:d5}{p:List e9}{r:Bool}(h:C9 ov p=some r):e8 prog 4 [.agg (tO ov),.c (row 2 f8 p)] ((cB r)):=by
 unfold e8
 refine FnOk.enter (rs:=[.t 4]) func4 Z ntmps4 results4 Z ⟨Y,Y⟩ (by kernel_rfl) Z ?_
 unfold C9 at h
 refine AWP.gk 2 Z (.e ?_)
 obtain⟨a17,ha17,h⟩:=bind_some h
 refine AWP.G 2 Z (.q Z Z Z Z (chance_Value_ok ha17) Z (.G 7 Z (.nil (b5 (.e ?_)))))
 obtain⟨a22,ha22,h⟩:=bind_some h
 refine AWP.G 2 Z (.q Z Z Z Z (aw2 ha22) Z (.G 2 Z (.nil (b5 ?_))))
 obtain⟨⟨c3,c4⟩,hx5,h⟩:=bind_some h
 refine AWP.seqJ (⟨[(1,.c (row 2 f8 p)),(2,(cP 0 0 0)),(5,(cP 1 0 0)),(6,(cP 2 0 0)),(7,(cP 3 0 0))],[(oE 4 (tO ov)),(oE 2 [int a17.1.num,int a17.1.den]),(oE 2 [int a17.2.code,int a17.2.index]),(oE 2 [int c3,int c4])]⟩) ?_ ?_
 ·obtain⟨t6,hx7,hx5⟩:=bind_some hx5
  refine AWP.seqJ (⟨[(1,.c (row 2 f8 p)),(2,(cP 0 0 0)),(5,(cP 1 0 0)),(6,(cP 2 0 0)),(7,(cP 3 0 0)),(31,(cB t6))],[(oE 4 (tO ov)),(oE 2 [int a17.1.num,int a17.1.den]),(oE 2 [int a17.2.code,int a17.2.index]),(oE 2 [int a22.code,int a22.index])]⟩) ?_ ?_
  ·rcases bft (decide (a22.code=0)) with hb8|hb8
   ·replace hx7:=F8 hb8 hx7
    obtain⟨a29,ha29,hx7⟩:=bind_some hx7
    refine AWP.G 4 Z (.K Z Z hb8 (.G 2 Z (.F Z Z Z Z (.q Z Z Z Z (ref8_Keeps_ok ha29) Z (.G 2 Z (.nil ?_))))))
    obtain rfl:=oi hx7
    refine b5 (Sub.en Z)
   ·replace hx7:=F1 hb8 hx7
    refine AWP.G 4 Z (.K Z Z hb8 (.G 5 Z (.nil ?_)))
    obtain rfl:=oi hx7
    refine b5 (Sub.en Z)
  ·refine AWP.E Z hx5 (fun hc9 hx5=> ?_) (fun hc9 hx5=> ?_)
   ·obtain⟨a32,ha32,hx5⟩:=bind_some hx5
    refine AWP.O (.q Z Z Z Z (B1 ha32) Z (.G 1 Z (.nil ?_)))
    obtain⟨ej0,ej1⟩:=o2 hx5
    subst ej0 ej1
    refine b5 (Sub.en Z)
   ·refine AWP.skip ?_
    obtain⟨ej0,ej1⟩:=o2 hx5
    subst ej0 ej1
    refine b5 (Sub.en Z)
 ·try dsimp only at h
  refine AWP.gk 1 Z ?_
  obtain⟨⟨c10,c11,c12⟩,hx13,h⟩:=bind_some h
  refine AWP.seqJ (⟨[(1,.c (row 2 f8 p)),(2,(cP 0 0 0)),(5,(cP 1 0 0)),(6,(cP 2 0 0)),(7,(cP 3 0 0)),(8,.c (.own 4 0 c12.length))],[(oE 4 (tO ov)),(oE 2 [int a17.1.num,int a17.1.den]),(oE 2 [int a17.2.code,int a17.2.index]),(oE 2 [int c10,int c11]),(oV 1 b9 c12)]⟩) ?_ ?_
  ·refine AWP.gk 3 Z (.J Z hx13 (fun hc14 hx13=> ?_) (fun hc14 hx13=> ?_))
   ·refine AWP.e ?_
    obtain⟨a39,ha39,a40,ha40,hx13⟩:=b2 hx13
    refine AWP.drawEI [4] mixed Z Z Z (b8.D 3 Z Z ?_)
    refine b8.consN Z Z (fun E=>.q Z Z Z Z (af9 ha39) Z .N) Z ?_
    apply b8.consE;exact Z;exact Z;intro E
    refine S.fresh Z Z Z Z (ref8_Pending_ok ha40) Z Z .N
    exact Z
    exact Z
    refine b8.D 1 Z Z (b8.done Z ?_ ?_)
    ·refine d8.D 3 Z Z ?_
     refine d8.cons Z Z (.go Z Z (fun E=>.q Z Z Z Z (af9 ha39) Z .N) (.skip Z .nil)) ?_
     refine d8.D 2 Z Z (d8.nil)
    dsimp only[h9]
    refine b5 (.gs 1 Z (S.lenO Z Z Z (fun hl42=>.ge 1 Z (.J Z hx13 (fun hc15 hx13=> ?_) (fun hc15 hx13=> ?_)))))
    ·obtain⟨a44,ha44,hx13⟩:=bind_some hx13
     refine AWP.O (.q Z Z Z Z (B1 ha44) Z (.G 1 Z (.nil ?_)))
     obtain⟨ej0,ej1,ej2⟩:=o3 hx13
     subst ej0 ej1 ej2
     refine b5 (Sub.en Z)
    ·refine AWP.skip ?_
     obtain⟨ej0,ej1,ej2⟩:=o3 hx13
     subst ej0 ej1 ej2
     refine b5 (Sub.en Z)
   ·refine AWP.skip ?_
    obtain⟨ej0,ej1,ej2⟩:=o3 hx13
    subst ej0 ej1 ej2
    refine b5 ((Sub.virtV 1 b9 8 Z Z Z).trans (Sub.env ⟨Z,Z,Z,Z,Z,(o7 (by first|rfl|simp only[lS])),Y⟩))
  ·try dsimp only at h
   refine AWP.e (.gk 3 Z (.iteN Z h (fun hc16 h=> ?_) (fun hc16 h=> ?_)))
   ·obtain⟨t17,hx18,h⟩:=bind_some h
    refine AWP.seqJ (⟨[(4,(cB t17))],[]⟩) ?_ ?_
    ·rcases bft ((decide (a17.2.code=c10)) && (decide (a17.2.index=c11))) with hb19|hb19
     ·replace hx18:=B2 hb19 hx18
      rcases bft ((decide (a17.1.num=0)) && (decide (a17.1.den=0))) with hb20|hb20
      ·replace hx18:=B2 hb20 hx18
       obtain⟨a57,ha57,hx18⟩:=bind_some hx18
       refine AWP.G 2 Z (.eqlP Z Z Z Z Z Z Z (.z Z Z (.K Z Z hb19 (.G 2 Z (.F Z Z Z Z (.eqlP Z Z Z Z Z Z Z (.G 2 Z (.F Z Z Z hb20 (.q Z Z Z Z (af7 ha57) Z (.pickT Z hb20 Z Z (.u Z Z (.nil ?_))))))))))))
       obtain rfl:=oi hx18
       refine b5 (Sub.cut ⟨Z,Y⟩ Z Y Z)
      ·replace hx18:=B3 hb20 hx18
       refine AWP.G 2 Z (.eqlP Z Z Z Z Z Z Z (.z Z Z (.K Z Z hb19 (.G 2 Z (.F Z Z Z Z (.eqlP Z Z Z Z Z Z Z (.G 2 Z (.guardF Z Z Z hb20 (.pickF Z hb20 Z Z (.u Z Z (.nil ?_)))))))))))
       obtain rfl:=oi hx18
       refine b5 (Sub.cut ⟨Z,Y⟩ Z Y Z)
     ·replace hx18:=B3 hb19 hx18
      refine AWP.G 2 Z (.eqlP Z Z Z Z Z Z Z (.z Z Z (.K Z Z hb19 (.G 8 Z (.nil ?_)))))
      obtain rfl:=oi hx18
      refine b5 (Sub.cut ⟨Z,Y⟩ Z Y Z)
    ·refine AWP.ret (d9 ?_)
     obtain rfl:=oi h
     exact Done.ret Z Z
   ·refine AWP.skip (b5 (.gk 3 Z ?_))
    obtain⟨⟨c21,c22⟩,hx23,h⟩:=bind_some h
    refine AWP.seqJ (⟨[(5,(cP 1 0 0)),(6,(cP 2 0 0)),(9,(cP 5 0 0))],[.dead,(oE 2 [int a17.1.num,int a17.1.den]),(oE 2 [int a17.2.code,int a17.2.index]),.dead,.dead,(oE 2 [int c21,int c22])]⟩) ?_ ?_
    ·refine AWP.e ?_
     obtain⟨a63,ha63,hx23⟩:=bind_some hx23
     refine AWP.G 3 Z (.q Z Z Z Z (L5 ha63) Z (.not Z Z (.nil (b5 (.E Z hx23 (fun hc24 hx23=> ?_) (fun hc24 hx23=> ?_))))))
     ·refine AWP.gk 1 Z (.e (.gk 1 Z (.j (.virtV 1 intI 10 Z Z Z ?_))))
      obtain⟨c25,ho1,hx23⟩:=bind_some hx23
      refine AWP.forL ho1 (fun iv26 c25=>⟨[(1,.c (row 2 f8 p)),(2,(cP 0 0 0)),(5,(cP 1 0 0)),(6,(cP 2 0 0)),(8,.c (.own 4 0 c12.length)),(9,(cP 5 0 0)),(10,.c (.own 6 0 c25.length)),(11,(cI iv26))],[(oE 4 (tO ov)),(oE 2 [int a17.1.num,int a17.1.den]),(oE 2 [int a17.2.code,int a17.2.index]),.dead,(oV 1 b9 c12),(oE 2 [int 0,int 1]),(oV 1 intI c25)]⟩) (fun _ _ _ k=>.G 2 Z (S.lenO Z Z Z fun hl=>.gn 1 Z (k hl))) (fun _ _=>Z) ?_ ?_ ?_
      ·try dsimp only
       exact Sub.cut ⟨Z,Z,Z,Z,Z,Z,(o7 (by first|rfl|simp only[lS])),Z,Y⟩ Z ⟨.one Z,.one Z,.one Z,.dead,.vec,.one Z,.vec,Y⟩ Z
      ·intro iv26 c25 o hloiv26 hltiv26 h hl67
       unfold A8 at h
       try dsimp only at h ⊢
       refine AWP.e (.j ?_)
       obtain⟨a75,ha75,a77,ha77,a79,ha79,h⟩:=b3 h
       refine AWP.G 4 Z (S.idxO ha75 Z Z Z Z Z (S.loadO ha75 Z Z Z Z Z (.q Z Z Z Z (ah9 ha77) Z (S.lit (f:=intI) (l:=[a77]) (ess:=[[int a77]]) Z Z Z Z Z Z Z ⟨⟨.inl Z,Y⟩,Y⟩ Z Z Z (S.append (f:=intI) ha79 Z Z Z Z Z Z (.own Z Z) Z Z Z Z (.u Z Z (.nil (d6 (b5 (.z (env':=[(1,.c (row 2 f8 p)),(2,(cP 0 0 0)),(5,(cP 1 0 0)),(6,(cP 2 0 0)),(8,.c (.own 4 0 c12.length)),(9,(cP 5 0 0)),(10,.c (.own 6 0 a79.length)),(11,(cI iv26))]) (σ':=[(oE 4 (tO ov)),(oE 2 [int a17.1.num,int a17.1.den]),(oE 2 [int a17.2.code,int a17.2.index]),.dead,(oV 1 b9 c12),(oE 2 [int 0,int 1]),(oV 1 intI a79),(oV 1 intI [a77])]) 6 8 Z Z Z ⟨Z,Z,Z,Z,Z,Z,Z,Z,Y⟩ Z ⟨⟨Z,Z⟩,⟨Z,Z⟩,⟨Z,Z⟩,Y,⟨Blk.im_ok _ _ _,i7 Z⟩,⟨Z,Z⟩,⟨Blk.im_ok _ _ _,i7 Z⟩,⟨Blk.im_ok _ _ _,i7 Z⟩,Y⟩ (.G 1 Z (.add Z Z Z (by omega) (.u Z Z (.nil ?_))))))))))))))
       obtain rfl:=oi h
       refine b5 (Sub.cut ⟨Z,Z,Z,Z,Z,Z,Z,Z,Y⟩ Z ⟨.one Z,.one Z,.one Z,.dead,.vec,.one Z,.vec,Y⟩ Z)
      ·intro iz
       try dsimp only
       refine f9 (b5 (.e ?_))
       obtain⟨a84,ha84,hx23⟩:=bind_some hx23
       refine AWP.G 3 Z ?_
       refine AOps.frzV (id:=4) (l:=c12) (env2:=[(2,(cP 0 0 0)),(5,(cP 1 0 0)),(6,(cP 2 0 0)),(8,.c (row 1 b9 c12)),(9,(cP 5 0 0)),(81,.agg (tO ov)),(82,.c (row 1 b9 c12)),(83,.c (.own 6 0 c25.length))]) (σ2:=[(oE 4 (tO ov)),(oE 2 [int a17.1.num,int a17.1.den]),(oE 2 [int a17.2.code,int a17.2.index]),.dead,.dead,(oE 2 [int 0,int 1]),(oV 1 intI c25)]) Z Z (by exact⟨⟨_,Z,.inl ⟨Z,Z⟩⟩,⟨_,Z,.inl ⟨Z,Z⟩⟩,⟨_,Z,.inl ⟨Z,Z⟩⟩,⟨_,Z,.inr ⟨_,Z,Z,Z⟩⟩,⟨_,Z,.inl ⟨Z,Z⟩⟩,⟨_,Z,⟨.inl ⟨Z,Z⟩,.inl ⟨Z,Z⟩,.inl ⟨Z,Z⟩,.inl ⟨Z,Z⟩,Y⟩⟩,⟨_,Z,.inr ⟨_,Z,Z,Z⟩⟩,⟨_,Z,.inl ⟨Z,Z⟩⟩,Y⟩) Z (by exact⟨⟨Z,.inl ⟨Z,Z⟩,.inl ⟨Z,Z⟩,.inl ⟨Z,Z⟩,.inl ⟨Z,Z⟩,Y⟩,⟨Z,.inl ⟨Z,Z⟩,.inl ⟨Z,Z⟩,Y⟩,⟨Z,.inl ⟨Z,Z⟩,.inl ⟨Z,Z⟩,Y⟩,Y,Y,⟨Z,.inl ⟨Z,Z⟩,.inl ⟨Z,Z⟩,Y⟩,FrzB.vec,Y⟩) ?_;refine AOps.frzV (id:=6) (l:=c25) (env2:=[(2,(cP 0 0 0)),(5,(cP 1 0 0)),(6,(cP 2 0 0)),(8,.c (row 1 b9 c12)),(9,(cP 5 0 0)),(81,.agg (tO ov)),(82,.c (row 1 b9 c12)),(83,(cR c25))]) (σ2:=[(oE 4 (tO ov)),(oE 2 [int a17.1.num,int a17.1.den]),(oE 2 [int a17.2.code,int a17.2.index]),.dead,.dead,(oE 2 [int 0,int 1]),.dead]) Z Z (by exact⟨⟨_,Z,.inl ⟨Z,Z⟩⟩,⟨_,Z,.inl ⟨Z,Z⟩⟩,⟨_,Z,.inl ⟨Z,Z⟩⟩,⟨_,Z,.inl ⟨Z,Z⟩⟩,⟨_,Z,.inl ⟨Z,Z⟩⟩,⟨_,Z,⟨.inl ⟨Z,Z⟩,.inl ⟨Z,Z⟩,.inl ⟨Z,Z⟩,.inl ⟨Z,Z⟩,Y⟩⟩,⟨_,Z,.inl ⟨Z,Z⟩⟩,⟨_,Z,.inr ⟨_,Z,Z,Z⟩⟩,Y⟩) Z (by exact⟨⟨Z,.inl ⟨Z,Z⟩,.inl ⟨Z,Z⟩,.inl ⟨Z,Z⟩,.inl ⟨Z,Z⟩,Y⟩,⟨Z,.inl ⟨Z,Z⟩,.inl ⟨Z,Z⟩,Y⟩,⟨Z,.inl ⟨Z,Z⟩,.inl ⟨Z,Z⟩,Y⟩,Y,Y,⟨Z,.inl ⟨Z,Z⟩,.inl ⟨Z,Z⟩,Y⟩,Y,Y⟩) ?_;refine AOps.q Z Z Z Z (az5 ha84) Z ?_
       refine AOps.G 5 Z (.nil (b5 ?_))
       obtain⟨a91,ha91,a92,ha92,a95,ha95,hx23⟩:=b3 hx23
       refine AWP.G 4 Z (.q Z Z Z Z (N4 ha91) Z (S.idx ha92 Z Z Z Z (.G 2 Z (.q Z Z Z Z (ref8_Lowest_ok ha95) Z (.G 1 Z (.nil ?_))))))
       obtain⟨ej0,ej1⟩:=o2 hx23
       subst ej0 ej1
       refine b5 (Sub.cut ⟨Z,Z,Z,Y⟩ Z ⟨.dead,.one Z,.one Z,.dead,.dead,.one Z,Y⟩ Z)
     ·refine AWP.skip ?_
      obtain⟨ej0,ej1⟩:=o2 hx23
      subst ej0 ej1
      refine b5 (Sub.cut ⟨Z,Z,Z,Y⟩ Z ⟨.dead,.one Z,.one Z,.dead,.dead,.one Z,Y⟩ Z)
    ·try dsimp only at h
     refine AWP.e (.e ?_)
     obtain⟨a97,ha97,h⟩:=bind_some h
     refine AWP.G 1 Z (.q Z Z Z Z (ref8_Large_ok ha97) Z (.nil (b5 (.E Z h (fun hc27 h=> ?_) (fun hc27 h=> ?_)))))
     ·obtain⟨t28,hx29,h⟩:=bind_some h
      refine AWP.seqJ (⟨[(4,(cB t28))],[]⟩) ?_ ?_
      ·obtain⟨a99,ha99,hx29⟩:=bind_some hx29
       rcases bft ((decide (a17.2.code=a99.code)) && (decide (a17.2.index=a99.index))) with hb30|hb30
       ·replace hx29:=B2 hb30 hx29
        rcases bft ((decide (a17.1.num=0)) && (decide (a17.1.den=0))) with hb31|hb31
        ·replace hx29:=B2 hb31 hx29
         obtain⟨a107,ha107,hx29⟩:=bind_some hx29
         refine AWP.drawI mixed Z (b7.D 1 Z ?_)
         refine b7.consF Z (fun E=>.q Z Z Z Z (B1 ha99) Z .N) Z (.consF Z (fun E=>.eqlP Z Z Z Z Z Z Z .N) Z ?_)
         refine b7.D 1 Z (b7.K Z hb30 Z (b7.D 2 Z ?_))
         refine b7.consF Z (fun E=>.F Z Z Z Z (.eqlP Z Z Z Z Z Z Z .N)) Z ?_
         refine b7.D 2 Z ?_
         refine b7.consF Z (fun E=>.F Z Z Z hb31 (.q Z Z Z Z (af7 ha107) Z .N)) Z (.consF Z (fun E=>.pickT Z hb31 Z Z .N) Z ?_)
         refine b7.D 1 Z (b7.done ?_)
         dsimp only[h9]
         obtain rfl:=oi hx29
         refine b5 (Sub.cut ⟨Z,Y⟩ Z Y Z)
        ·replace hx29:=B3 hb31 hx29
         refine AWP.drawI mixed Z (b7.D 1 Z ?_)
         refine b7.consF Z (fun E=>.q Z Z Z Z (B1 ha99) Z .N) Z (.consF Z (fun E=>.eqlP Z Z Z Z Z Z Z .N) Z ?_)
         refine b7.D 1 Z (b7.K Z hb30 Z (b7.D 2 Z ?_))
         refine b7.consF Z (fun E=>.F Z Z Z Z (.eqlP Z Z Z Z Z Z Z .N)) Z ?_
         refine b7.D 2 Z ?_
         refine b7.consF Z (fun E=>.guardF Z Z Z hb31 .N) Z (.consF Z (fun E=>.pickF Z hb31 Z Z .N) Z ?_)
         refine b7.D 1 Z (b7.done ?_)
         dsimp only[h9]
         obtain rfl:=oi hx29
         refine b5 (Sub.cut ⟨Z,Y⟩ Z Y Z)
       ·replace hx29:=B3 hb30 hx29
        refine AWP.drawI mixed Z (b7.D 1 Z ?_)
        refine b7.consF Z (fun E=>.q Z Z Z Z (B1 ha99) Z .N) Z (.consF Z (fun E=>.eqlP Z Z Z Z Z Z Z .N) Z ?_)
        refine b7.D 1 Z (b7.K Z hb30 Z (b7.D 8 Z (b7.done ?_)))
        dsimp only[h9]
        obtain rfl:=oi hx29
        refine b5 (Sub.cut ⟨Z,Y⟩ Z Y Z)
      ·refine AWP.ret (d9 ?_)
       obtain rfl:=oi h
       exact Done.ret Z Z
     ·refine AWP.skip (b5 ?_)
      obtain⟨t32,hx33,h⟩:=bind_some h
      refine AWP.seqJ (⟨[(4,(cB t32))],[]⟩) ?_ ?_
      ·rcases bft (decide (a17.2.code=0)) with hb34|hb34
       ·replace hx33:=F8 hb34 hx33
        rcases bft ((decide (a17.1.num=c21)) && (decide (a17.1.den=c22))) with hb35|hb35
        ·replace hx33:=B2 hb35 hx33
         obtain⟨a118,ha118,hx33⟩:=bind_some hx33
         refine AWP.G 4 Z (.K Z Z hb34 (.G 2 Z (.F Z Z Z Z (.eqlP Z Z Z Z Z Z Z (.G 2 Z (.F Z Z Z hb35 (.q Z Z Z Z (af7 ha118) Z (.pickT Z hb35 Z Z (.u Z Z (.nil ?_))))))))))
         obtain rfl:=oi hx33
         refine b5 (Sub.cut ⟨Z,Y⟩ Z Y Z)
        ·replace hx33:=B3 hb35 hx33
         refine AWP.G 4 Z (.K Z Z hb34 (.G 2 Z (.F Z Z Z Z (.eqlP Z Z Z Z Z Z Z (.G 2 Z (.guardF Z Z Z hb35 (.pickF Z hb35 Z Z (.u Z Z (.nil ?_)))))))))
         obtain rfl:=oi hx33
         refine b5 (Sub.cut ⟨Z,Y⟩ Z Y Z)
       ·replace hx33:=F1 hb34 hx33
        refine AWP.G 4 Z (.K Z Z hb34 (.G 8 Z (.nil ?_)))
        obtain rfl:=oi hx33
        refine b5 (Sub.cut ⟨Z,Y⟩ Z Y Z)
      ·refine AWP.ret ?_
       obtain rfl:=oi h
       exact Done.ret Z Z
end Ab
end
section
namespace Ab
open Go Go.Proofs
set_option maxHeartbeats 4000000
set_option linter.all false
attribute [local irreducible] AWP AOps thn inB Done e8 n7 Sub
end Ab
end
section
namespace Ab
def sgn(j:Nat):Int:=if j % 2=0 then 1 else -1
def sk(j k:Nat):Nat:=if k<j then k else k+1
def smN:Nat→(Nat→Int)→Int
 |0,_=>0
 |n+1,f=>smN n f+f n
abbrev Mtx:=Nat→Nat→Int
def mnr(A:Mtx)(j:Nat):Mtx:=fun i k=>A (i+1) (sk j k)
def det:Nat→Mtx→Int
 |0,_=>1
 |n+1,A=>smN (n+1) fun j=>sgn j * A 0 j * det n (mnr A j)
theorem k7{f g:Nat→Int}:∀{n:Nat},(∀j,j<n→f j=g j)→smN n f=smN n g
 |0,_=>rfl
 |n+1,h=>by simp only[smN];rw[k7 fun j hj=>h j (by omega),h n (by omega)]
theorem K6{f g:Nat→Int}:∀n:Nat,smN n (fun j=>f j+g j)=smN n f+smN n g
 |0=>rfl
 |n+1=>by simp only[smN,K6 n];omega
theorem C4{c:Int}{f:Nat→Int}:∀n:Nat,smN n (fun j=>c * f j)=c * smN n f
 |0=>by simp[smN]
 |n+1=>by simp only[smN,C4 n,Int.mul_add]
theorem an6{f:Nat→Int}:∀{n:Nat},(∀j,j<n→f j=0)→smN n f=0
 |0,_=>rfl
 |n+1,h=>by simp only[smN];rw[an6 fun j hj=>h j (by omega),h n (by omega)];rfl
theorem Q9{f:Nat→Int}{a:Nat}:∀{n:Nat},a<n→(∀j,j<n→j ≠ a→f j=0)→smN n f=f a
 |0,h,_=>by omega
 |n+1,ha,h=>by
  simp only[smN]
  by_cases e:a=n
  ·subst e;rw[an6 fun j hj=>h j (by omega) (by omega)];omega
  ·rw[Q9 (a:=a) (by omega) fun j hj=>h j (by omega),h n (by omega) (by omega)];omega
theorem smN_two{f:Nat→Int}{a b:Nat}(hab:a<b):∀{n:Nat},b<n→(∀j,j<n→j ≠ a→j ≠ b→f j=0)→smN n f=f a+f b
 |0,h,_=>by omega
 |n+1,hb,h=>by
  simp only[smN]
  by_cases e:b=n
  ·subst e;rw[Q9 (a:=a) hab fun j hj ja=>h j (by omega) ja (by omega)]
  ·rw[smN_two hab (n:=n) (by omega) fun j hj=>h j (by omega),h n (by omega) (by omega) (by omega)];omega
theorem smN_comm{f:Nat→Nat→Int}{m:Nat}:∀n:Nat,smN n (fun i=>smN m fun j=>f i j)=smN m fun j=>smN n fun i=>f i j
 |0=>by simp only[smN];exact(an6 fun _ _=>rfl).symm
 |n+1=>by simp only[smN,smN_comm n,K6]
theorem H9:∀{n:Nat} {A B:Mtx},(∀i j,i<n→j<n→A i j=B i j)→det n A=det n B
 |0,_,_,_=>rfl
 |n+1,A,B,h=>by
  simp only[det]
  refine k7 fun j hj=> ?_
  rw[h 0 j (by omega) hj,H9 (n:=n) (A:=mnr A j) (B:=mnr B j) fun i k hi hk=>h _ _ (by omega) (by unfold sk;split<;>omega)]
def rep(A:Mtx)(k:Nat)(u:Nat→Int):Mtx:=fun i j=>if j=k then u i else A i j
theorem rep_self(A:Mtx)(k:Nat):rep A k (fun i=>A i k)=A:=by
 funext i j;unfold rep;split
 ·rename_i e;rw[e]
 ·rfl
theorem au0{A:Mtx}{k:Nat}{u:Nat→Int}:mnr (rep A k u) k=mnr A k:=by
 funext i c;unfold mnr rep;rw[if_neg (by unfold sk;split<;>omega)]
theorem au1{A:Mtx}{j k:Nat}{u:Nat→Int}(h:j ≠ k):mnr (rep A k u) j=rep (mnr A j) (if k<j then k else k - 1) fun i=>u (i+1):=by
 funext i c;unfold mnr rep
 have:sk j c=k↔c=if k<j then k else k - 1:=by unfold sk;split<;>split<;>omega
 by_cases e:sk j c=k
 ·rw[if_pos e,if_pos (this.1 e)]
 ·rw[if_neg e,if_neg fun q=>e (this.2 q)]
theorem det_lin{x y:Int}{u v:Nat→Int}:∀{n:Nat} {A:Mtx} {k:Nat},k<n→det n (rep A k fun i=>x * u i+y * v i)=x * det n (rep A k u)+y * det n (rep A k v)
 |0,_,_,h=>by omega
 |n+1,A,k,hk=>by
  simp only[det]
  rw[← C4,← C4,← K6]
  refine k7 fun j hj=> ?_
  by_cases e:j=k
  ·subst e
   rw[au0,au0,au0]
   simp only[rep,if_true]
   grind
  ·rw[au1 e,au1 e,au1 e]
   have hk':(if k<j then k else k - 1)<n:=by split<;>omega
   have:=det_lin (x:=x) (y:=y) (u:=fun i=>u (i+1)) (v:=fun i=>v (i+1)) (A:=mnr A j) hk'
   rw[this]
   simp only[rep,if_neg (Ne.symm (Ne.symm e))]
   grind
theorem det_add{u v:Nat→Int}{n:Nat}{A:Mtx}{k:Nat}(hk:k<n):det n (rep A k fun i=>u i+v i)=det n (rep A k u)+det n (rep A k v):=by
 have:=det_lin (x:=1) (y:=1) (u:=u) (v:=v) (A:=A) hk
 simpa using this
theorem at6{u:Nat→Int}{c:Int}{n:Nat}{A:Mtx}{k:Nat}(hk:k<n):det n (rep A k fun i=>c * u i)=c * det n (rep A k u):=by
 have:=det_lin (x:=c) (y:=0) (u:=u) (v:=u) (A:=A) hk
 simpa using this
theorem det_adj:∀{n:Nat} {A:Mtx} {k:Nat},k+1<n→(∀i,i<n→A i k=A i (k+1))→det n A=0
 |0,_,_,h,_=>by omega
 |n+1,A,k,hk,h=>by
  simp only[det]
  rw[smN_two (a:=k) (b:=k+1) (by omega) hk fun j hj j1 j2=> ?_]
  ·have:det n (mnr A k)=det n (mnr A (k+1)):=H9 fun i c hi hc=>by
    unfold mnr sk
    by_cases e:c=k
    ·subst e;rw[if_neg (by omega),if_pos (by omega)];exact(h (i+1) (by omega)).symm
    ·by_cases q:c<k
     ·rw[if_pos q,if_pos (by omega)]
     ·rw[if_neg q,if_neg (by omega)]
   rw[this,h 0 (by omega)]
   have hs:sgn (k+1)= - sgn k:=by unfold sgn;split<;>split<;>omega
   rw[hs];grind
  ·by_cases q:j<k
   ·have:det n (mnr A j)=0:=det_adj (k:=k - 1) (by omega) fun i hi=>by
     unfold mnr sk
     rw[if_neg (by omega),if_neg (by omega),show k - 1+1=k by omega]
     exact h (i+1) (by omega)
    rw[this];simp
   ·have:det n (mnr A j)=0:=det_adj (k:=k) (by omega) fun i hi=>by
     unfold mnr sk
     rw[if_pos (by omega),if_pos (by omega)]
     exact h (i+1) (by omega)
    rw[this];simp
theorem am6{A:Mtx}{k l:Nat}{u v:Nat→Int}(h:k ≠ l):rep (rep A k u) l v=rep (rep A l v) k u:=by
 funext i j;unfold rep
 by_cases e:j=l
 ·subst e;rw[if_pos rfl,if_neg (Ne.symm h),if_pos rfl]
 ·rw[if_neg e];by_cases q:j=k<;>simp[q,e]<;>omega
theorem det_swap{n:Nat}{A:Mtx}{k:Nat}(hk:k+1<n)(u v:Nat→Int):det n (rep (rep A k u) (k+1) v)= - det n (rep (rep A k v) (k+1) u):=by
 have z:∀w:Nat→Int,det n (rep (rep A k w) (k+1) w)=0:=fun w=>det_adj hk fun i _=>by simp[rep]
 have h:=z fun i=>u i+v i
 rw[det_add hk,am6 (by omega),det_add (by omega),am6 (k:=k+1) (l:=k) (by omega),am6 (k:=k+1) (l:=k) (by omega),z u] at h
 rw[am6 (k:=k) (l:=k+1) (by omega) (u:=fun i=>u i+v i),det_add (by omega),am6 (k:=k+1) (l:=k) (by omega),am6 (k:=k+1) (l:=k) (by omega),z v] at h
 omega
theorem det_same:∀{d n:Nat} {A:Mtx} {k:Nat},k+d+1<n→(∀i,i<n→A i k=A i (k+d+1))→det n A=0
 |0,n,A,k,hk,h=>det_adj hk h
 |d+1,n,A,k,hk,h=>by
  have e:A=rep (rep A (k+d+1) fun i=>A i (k+d+1)) (k+d+1+1) fun i=>A i (k+d+1+1):=by
   funext i j;unfold rep
   by_cases q:j=k+d+1+1
   ·rw[if_pos q,q]
   ·rw[if_neg q];by_cases q2:j=k+d+1
    ·rw[if_pos q2,q2]
    ·rw[if_neg q2]
  rw[e,det_swap (by omega)]
  rw[det_same (d:=d) (k:=k) (by omega) fun i hi=> ?_]
  ·rfl
  ·unfold rep
   rw[if_neg (by omega),if_neg (by omega),if_neg (by omega),if_pos rfl]
   exact h i hi
theorem det_col{n:Nat}{A:Mtx}{k l:Nat}(hk:k<n)(hl:l<n)(h:k ≠ l):det n (rep A l fun i=>A i k)=0:=by
 rcases Nat.lt_or_gt_of_ne h with q|q
 ·exact det_same (d:=l - k - 1) (k:=k) (by omega) fun i _=>by
   rw[show k+(l - k - 1)+1=l by omega];unfold rep;rw[if_neg h,if_pos rfl]
 ·exact det_same (d:=k - l - 1) (k:=l) (by omega) fun i _=>by
   rw[show l+(k - l - 1)+1=k by omega];unfold rep;rw[if_pos rfl,if_neg h]
theorem det_sum{n:Nat}{A:Mtx}{l:Nat}(hl:l<n){y:Nat→Int}{U:Mtx}:∀m:Nat,det n (rep A l fun i=>smN m fun k=>U i k * y k)=smN m fun k=>y k * det n (rep A l fun i=>U i k)
 |0=>by
  simp only[smN]
  have:=at6 (u:=fun _=>0) (c:=0) (A:=A) hl
  simpa using this
 |m+1=>by
  simp only[smN]
  rw[det_add hl,det_sum hl m,show(fun i=>U i m * y m)=fun i=>y m * U i m from funext fun i=>Int.mul_comm _ _,at6 hl]
theorem cramer{n:Nat}{A:Mtx}{y b:Nat→Int}(h:∀i,i<n→smN n (fun k=>A i k * y k)=b i){l:Nat}(hl:l<n):det n (rep A l b)=y l * det n A:=by
 have e:det n (rep A l b)=det n (rep A l fun i=>smN n fun k=>A i k * y k):=H9 fun i j hi _=>by
  unfold rep;split
  ·exact(h i hi).symm
  ·rfl
 rw[e,det_sum hl,Q9 hl fun k hk hkl=> ?_]
 ·rw[rep_self]
 ·rw[det_col hk hl hkl];simp
theorem det_foot:∀{n:Nat} {A:Mtx} {d:Int},(∀i,i<n→A i n=0)→A n n=d→det (n+1) A=d * det n A
 |0,A,d,_,h=>by simp[det,smN,sgn,h]
 |n+1,A,d,h0,h=>by
  rw[det,smN]
  rw[h0 0 (by omega)]
  have hz:sgn (n+1) * 0 * det (n+1) (mnr A (n+1))=0:=by simp
  rw[hz,Int.add_zero,det,← C4]
  refine k7 fun j hj=> ?_
  rw[det_foot (n:=n) (A:=mnr A j) (d:=d) (fun i hi=>by unfold mnr sk;rw[if_neg (by omega)];exact h0 (i+1) (by omega)) (by unfold mnr sk;rw[if_neg (by omega)];exact h)]
  grind
/-! ### How large -/
def prd:Nat→(Nat→Int)→Int
 |0,_=>1
 |n+1,r=>r 0 * prd n fun i=>r (i+1)
theorem prd_nonneg:∀{n:Nat} {r:Nat→Int},(∀i,0≤r i)→0≤prd n r
 |0,_,_=>by simp[prd]
 |n+1,r,h=>Int.mul_nonneg (h 0) (prd_nonneg fun i=>h (i+1))
def ab(x:Int):Int:=if 0≤x then x else -x
theorem w7(x:Int):0≤ab x:=by unfold ab;split<;>omega
theorem ab_add(x y:Int):ab (x+y)≤ab x+ab y:=by unfold ab;split<;>split<;>split<;>omega
theorem ab_le{x B:Int}(h:ab x≤B): -B≤x∧x≤B:=by unfold ab at h;split at h<;>omega
theorem af3(x y:Int):ab (x * y)=ab x * ab y:=by
 unfold ab
 by_cases a:0≤x<;>by_cases b:0≤y
 ·rw[if_pos a,if_pos b,if_pos (Int.mul_nonneg a b)]
 ·rw[if_pos a,if_neg b]
  by_cases c:0≤x * y
  ·have:x * y≤0:=Int.mul_nonpos_of_nonneg_of_nonpos a (by omega)
   rw[if_pos c,Int.mul_neg];omega
  ·rw[if_neg c,Int.mul_neg]
 ·rw[if_neg a,if_pos b]
  by_cases c:0≤x * y
  ·have:x * y≤0:=Int.mul_nonpos_of_nonpos_of_nonneg (by omega) b
   rw[if_pos c,Int.neg_mul];omega
  ·rw[if_neg c,Int.neg_mul]
 ·have h:0≤x * y:=Int.mul_nonneg_of_nonpos_of_nonpos (by omega) (by omega)
  rw[if_neg a,if_neg b,if_pos h,Int.neg_mul_neg]
theorem ab_sum{f:Nat→Int}:∀n:Nat,ab (smN n f)≤smN n fun j=>ab (f j)
 |0=>by simp[smN,ab]
 |n+1=>by
  have:=ab_sum (f:=f) n
  have:=ab_add (smN n f) (f n)
  simp only[smN];omega
theorem R1{f g:Nat→Int}:∀{n:Nat},(∀j,j<n→f j≤g j)→smN n f≤smN n g
 |0,_=>Int.le_refl _
 |n+1,h=>by
  have:=R1 (n:=n) fun j hj=>h j (by omega)
  have:=h n (by omega)
  simp only[smN];omega
theorem al9{f:Nat→Int}:∀{n:Nat},(∀j,j<n→0≤f j)→0≤smN n f
 |0,_=>Int.le_refl _
 |n+1,h=>by
  have:=al9 (n:=n) fun j hj=>h j (by omega)
  have:=h n (by omega)
  simp only[smN];omega
theorem smN_sk{f:Nat→Int}(h:∀j,0≤f j):∀{n j:Nat},smN n (fun k=>f (sk j k))≤smN (n+1) f
 |0,j=>by simp only[smN];have:=h 0;omega
 |n+1,j=>by
  by_cases q:n<j
  ·rw[k7 (g:=f) fun k hk=>by unfold sk;rw[if_pos (by omega)]]
   have:=h (n+1)
   simp only[smN];omega
  ·have:=smN_sk h (n:=n) (j:=j)
   have e:sk j n=n+1:=by unfold sk;rw[if_neg q]
   simp only[smN,e] at this ⊢;omega
theorem ae7:∀{n:Nat} {A:Mtx} {r:Nat→Int},(∀i,0≤r i)→(∀i,i<n→smN n (fun j=>ab (A i j))≤r i)→ab (det n A)≤prd n r
 |0,_,_,_,_=>by simp[det,prd,ab]
 |n+1,A,r,h0,h=>by
  simp only[det,prd]
  refine Int.le_trans (ab_sum _) ?_
  have hm:∀j,j<n+1→ab (sgn j * A 0 j * det n (mnr A j))≤prd n (fun i=>r (i+1)) * ab (A 0 j):=fun j _=>by
   have ih:=ae7 (n:=n) (A:=mnr A j) (r:=fun i=>r (i+1)) (fun i=>h0 (i+1)) fun i hi=>by
    have:=smN_sk (f:=fun k=>ab (A (i+1) k)) (fun k=>w7 _) (n:=n) (j:=j)
    have:=h (i+1) (by omega)
    simp only[mnr] at *
    omega
   have hs:ab (sgn j)=1:=by unfold sgn ab;split<;>split<;>omega
   rw[af3,af3,hs,Int.one_mul,Int.mul_comm]
   exact Int.mul_le_mul_of_nonneg_right ih (w7 _)
  refine Int.le_trans (R1 hm) ?_
  rw[C4,Int.mul_comm]
  exact Int.mul_le_mul_of_nonneg_right (h 0 (by omega)) (prd_nonneg fun i=>h0 (i+1))
end Ab
end
section
namespace Ab
structure GJ(n:Nat)(A:Mtx)(c:Nat)(a:Mtx)(d:Int):Prop where
 dd:d=det c A
 nz:d ≠ 0
 on:∀i k,i<n→k<c→a i k=if i=k then d else 0
 top:∀j r,c≤j→j≤n→r<c→smN c (fun k=>A r k * a k j)=d * A r j
 low:∀j r,c≤j→j≤n→c≤r→r<n→a r j=d * A r j - smN c (fun k=>A r k * a k j)
theorem GJ.start{n:Nat}{A:Mtx}:GJ n A 0 A 1:=
 ⟨rfl,by omega,fun i k _ h=>by omega,fun j r _ _ h=>by omega,fun j r _ _ _ _=>by simp[smN]⟩
def brd(c:Nat)(A:Mtx)(r j:Nat):Mtx:=fun i k=>A (if i=c then r else i) (if k=c then j else k)
section
variable {n c:Nat}{A a:Mtx}{d:Int}
theorem smN_neg{f:Nat→Int}{n:Nat}:smN n (fun k=> - f k)= - smN n f:=by
 have:=C4 (c:= -1) (f:=f) n
 simpa using this
theorem GJ.brd(h:GJ n A c a d){r j:Nat}(hj:c≤j)(hj':j≤n)(hr:c≤r)(hr':r<n):a r j=det (c+1) (brd c A r j):=by
 have key:=cramer (n:=c+1) (A:=Ab.brd c A r j) (y:=fun k=>if k=c then d else - a k j) (b:=fun i=>if i=c then a r j else 0) (fun i hi=>by
  simp only[smN]
  rw[if_pos trivial]
  have e:smN c (fun k=>Ab.brd c A r j i k * if k=c then d else - a k j)= - smN c (fun k=>A (if i=c then r else i) k * a k j):=by
   rw[← smN_neg]
   refine k7 fun k hk=> ?_
   rw[if_neg (by omega)]
   unfold Ab.brd
   rw[if_neg (by omega:¬ k=c)];grind
  rw[e]
  have e2:Ab.brd c A r j i c=A (if i=c then r else i) j:=by unfold Ab.brd;simp
  rw[e2]
  by_cases q:i=c
  ·subst q
   simp only[if_true]
   have:=h.low j r hj hj' hr hr'
   have:=Int.mul_comm d (A r j)
   omega
  ·simp only[if_neg q]
   have:=h.top j i hj hj' (by omega)
   have:=Int.mul_comm d (A i j)
   omega) (l:=c) (by omega)
 rw[if_pos rfl,det_foot (d:=a r j) (fun i hi=>by unfold rep;rw[if_pos rfl];exact if_neg (by omega)) (by unfold rep;rw[if_pos rfl];exact if_pos rfl)] at key
 have e:det c (rep (Ab.brd c A r j) c fun i=>if i=c then a r j else 0)=d:=by
  rw[h.dd]
  refine H9 fun i k hi hk=> ?_
  unfold rep Ab.brd
  rw[if_neg (by omega),if_neg (by omega),if_neg (by omega)]
 rw[e,Int.mul_comm] at key
 exact Int.eq_of_mul_eq_mul_left h.nz key
theorem GJ.piv(h:GJ n A c a d)(hc:c<n):a c c=det (c+1) A:=by
 rw[h.brd (Nat.le_refl c) (by omega) (Nat.le_refl c) hc]
 refine H9 fun i k _ _=> ?_
 unfold Ab.brd
 split
 ·rename_i e;rw[e];split
  ·rename_i e2;rw[e2]
  ·rfl
 ·split
  ·rename_i e2;rw[e2]
  ·rfl
def crs(a:Mtx)(c i j:Nat):Int:=a c c * a i j - a i c * a c j
theorem GJ.topc(h:GJ n A c a d)(hc:c<n){j:Nat}(hj:c≤j)(hj':j≤n){r:Nat}(hr:r<c+1):
  smN (c+1) (fun k=>A r k * if k=c then d * a c j else crs a c k j)=d * a c c * A r j:=by
 simp only[smN]
 rw[if_pos trivial]
 have e:smN c (fun k=>A r k * if k=c then d * a c j else crs a c k j)=a c c * smN c (fun k=>A r k * a k j) - a c j * smN c (fun k=>A r k * a k c):=by
  rw[← C4,Int.sub_eq_add_neg,← Int.neg_mul,← C4,← K6]
  refine k7 fun k hk=> ?_
  rw[if_neg (by omega)];unfold crs;grind
 rw[e]
 by_cases q:r=c
 ·subst q
  have h1:=h.low j r hj hj' (Nat.le_refl r) hc
  have h2:=h.low r r (Nat.le_refl r) (by omega) (Nat.le_refl r) hc
  rw[show smN r (fun k=>A r k * a k j)=d * A r j - a r j by omega,show smN r (fun k=>A r k * a k r)=d * A r r - a r r by omega]
  grind
 ·rw[h.top j r hj hj' (by omega),h.top c r (Nat.le_refl c) (by omega) (by omega)]
  grind
theorem GJ.exact_top(h:GJ n A c a d)(hc:c<n)(hp:a c c ≠ 0){i j:Nat}(hi:i<c)(hj:c≤j)(hj':j≤n):crs a c i j=d * det (c+1) (rep A i fun r=>A r j):=by
 have key:=cramer (n:=c+1) (A:=A) (y:=fun k=>if k=c then d * a c j else crs a c k j) (b:=fun r=>(d * a c c) * A r j) (fun r hr=>h.topc hc hj hj' hr) (l:=i) (by omega)
 rw[if_neg (by omega),at6 (by omega),← h.piv hc] at key
 have:a c c * crs a c i j=a c c * (d * det (c+1) (rep A i fun r=>A r j)):=by grind
 exact Int.eq_of_mul_eq_mul_left hp this
theorem GJ.step(h:GJ n A c a d)(hc:c<n)(hp:a c c ≠ 0){b:Mtx}(h1:∀j,j≤n→b c j=a c j)(h2:∀i j,i<n→i ≠ c→j≤n→j ≠ c→d * b i j=crs a c i j)(h3:∀i,i<n→i ≠ c→b i c=0):GJ n A (c+1) b (a c c):=by
 have hd:=h.nz
 have old:∀i k,i<n→k<c→b i k=if i=k then a c c else 0:=fun i k hi hk=>by
  by_cases q:i=c
  ·subst q;rw[h1 k (by omega),h.on i k hi hk,if_neg (by omega),if_neg (by omega)]
  ·have e:=h2 i k hi q (by omega) (by omega)
   unfold crs at e
   rw[h.on c k hc hk,if_neg (by omega),Int.mul_zero,Int.sub_zero,h.on i k hi hk] at e
   split
   ·rename_i q2
    rw[if_pos q2,Int.mul_comm (a c c)] at e
    exact Int.eq_of_mul_eq_mul_left hd e
   ·rename_i q2
    rw[if_neg q2] at e
    simp only[Int.mul_zero] at e;exact(Int.mul_eq_zero.1 e).resolve_left hd
 have mul:∀j r,c+1≤j→j≤n→d * smN (c+1) (fun k=>A r k * b k j)=smN (c+1) (fun k=>A r k * if k=c then d * a c j else crs a c k j):=fun j r hj hj'=>by
  rw[← C4]
  refine k7 fun k hk=> ?_
  by_cases q:k=c
  ·subst q;rw[if_pos rfl,h1 j hj'];grind
  ·rw[if_neg q,← h2 k j (by omega) q hj' (by omega)];grind
 refine⟨h.piv hc,hp,fun i k hi hk=> ?_,fun j r hj hj' hr=> ?_,fun j r hj hj' hr hr'=> ?_⟩
 ·by_cases q:k=c
  ·subst q
   by_cases q2:i=k
   ·subst q2;rw[h1 i (by omega),if_pos rfl]
   ·rw[h3 i hi q2,if_neg q2]
  ·exact old i k hi (by omega)
 ·have e:=mul j r hj hj'
  rw[h.topc hc (by omega) hj' hr] at e
  exact Int.eq_of_mul_eq_mul_left hd (by rw[e];grind)
 ·have e:=mul j r hj hj'
  have e2:=h2 r j hr' (by omega) hj' (by omega)
  have e3:smN (c+1) (fun k=>A r k * if k=c then d * a c j else crs a c k j)=a c c * smN c (fun k=>A r k * a k j) - a c j * smN c (fun k=>A r k * a k c)+A r c * (d * a c j):=by
   simp only[smN]
   rw[if_pos trivial]
   have e:smN c (fun k=>A r k * if k=c then d * a c j else crs a c k j)=a c c * smN c (fun k=>A r k * a k j) - a c j * smN c (fun k=>A r k * a k c):=by
    rw[← C4,Int.sub_eq_add_neg,← Int.neg_mul,← C4,← K6]
    refine k7 fun k hk=> ?_
    rw[if_neg (by omega)];unfold crs;grind
   rw[e]
  have l1:=h.low j r (by omega) hj' (by omega) hr'
  have l2:=h.low c r (Nat.le_refl c) (by omega) (by omega) hr'
  rw[e3,show smN c (fun k=>A r k * a k j)=d * A r j - a r j by omega,show smN c (fun k=>A r k * a k c)=d * A r c - a r c by omega] at e
  refine Int.eq_of_mul_eq_mul_left hd ?_
  rw[e2,Int.mul_sub,e];unfold crs;grind
theorem GJ.exact_low(h:GJ n A c a d)(hc:c<n)(hp:a c c ≠ 0){r j:Nat}(hr:c<r)(hr':r<n)(hj:c<j)(hj':j≤n):∃x,crs a c r j=d * x:=by
 refine⟨a c c * A r j - A r c * a c j - smN c (fun k=>A r k * det (c+1) (rep A k fun q=>A q j)),?_⟩
 have l1:=h.low j r (by omega) hj' (by omega) hr'
 have l2:=h.low c r (Nat.le_refl c) (by omega) (by omega) hr'
 have e:d * smN c (fun k=>A r k * det (c+1) (rep A k fun q=>A q j))=a c c * smN c (fun k=>A r k * a k j) - a c j * smN c (fun k=>A r k * a k c):=by
  rw[← C4,← C4,Int.sub_eq_add_neg,← Int.neg_mul,← C4,← K6]
  refine k7 fun k hk=> ?_
  have:=h.exact_top hc hp hk (by omega:c≤j) hj'
  unfold crs at this;grind
 rw[Int.mul_sub,e,show smN c (fun k=>A r k * a k j)=d * A r j - a r j by omega,show smN c (fun k=>A r k * a k c)=d * A r c - a r c by omega]
 unfold crs;grind
theorem GJ.exact(h:GJ n A c a d)(hc:c<n)(hp:a c c ≠ 0){i j:Nat}(hi:i<n)(hic:i ≠ c)(hj:j≤n)(hjc:j ≠ c):∃x,crs a c i j=d * x:=by
 rcases Nat.lt_or_gt_of_ne hjc with q|q
 ·unfold crs
  rw[h.on c j hc q,if_neg (by omega),h.on i j hi q]
  split
  ·exact⟨a c c,by grind⟩
  ·exact⟨0,by simp⟩
 ·rcases Nat.lt_or_gt_of_ne hic with r|r
  ·exact⟨_,h.exact_top hc hp r (by omega) hj⟩
  ·exact h.exact_low hc hp r hi q hj
end
end Ab
end
section
namespace Ab
structure Ms(n:Nat)(W:Nat→Int)(w:Mtx):Prop where
 pos:∀i,i<n→0<W i
 nn:∀i k,0≤w i k
 le:∀i,i<n→smN n (w i)≤W i
inductive Px(n:Nat)(W:Nat→Int)(w:Mtx):Nat→Prop
 |exit {i:Nat} (h:i<n) (hw:smN n (w i)<W i):Px n W w i
 |step {i k:Nat} (h:i<n) (hk:k<n) (hw:0<w i k) (hp:Px n W w k):Px n W w i
section
variable {n:Nat}{W:Nat→Int}{w:Mtx}
theorem P5 {f : Nat → Int} (h : ∀ j, 0 ≤ f j) {m : Nat} : ∀ {n : Nat}, m ≤ n → smN m f ≤ smN n f
  | 0, hm => by have : m = 0 := by omega
                subst this; exact Int.le_refl _
  | n + 1, hm => by
    by_cases e : m = n + 1
    · subst e; exact Int.le_refl _
    · have := P5 h (m := m) (n := n) (by omega)
      have := h n
      simp only [smN]; omega
theorem W8{f:Nat→Int}(h:∀j,0≤f j){m k:Nat}(hk:m≤k):∀{n:Nat},k<n→smN m f+f k≤smN n f
 |0,h=>by omega
 |n+1,hn=>by
  by_cases e:k=n
  ·subst e
   have:=P5 h (m:=m) (n:=k) hk
   simp only[smN];omega
  ·have:=W8 h hk (n:=n) (by omega)
   have:=h n
   simp only[smN];omega
theorem exists_max (z : Nat → Int) : ∀ {m : Nat}, 0 < m → ∃ r, r < m ∧ ∀ k, k < m → z k ≤ z r
  | 0, h => by omega
  | 1, _ => ⟨0, by omega, fun k hk => by have : k = 0 := by omega
                                         subst this; exact Int.le_refl _⟩
  | m + 2, _ => by
    obtain ⟨r, h1, h2⟩ := exists_max z (m := m + 1) (by omega)
    by_cases c : z (m + 1) ≤ z r
    · exact ⟨r, by omega, fun k hk => by
        by_cases e : k = m + 1
        · rw [e]; exact c
        · exact h2 k (by omega)⟩
    · exact ⟨m + 1, by omega, fun k hk => by
        by_cases e : k = m + 1
        · rw [e]; exact Int.le_refl _
        · have := h2 k (by omega); omega⟩
theorem maxP(hM:Ms n W w){m:Nat}(hm:m≤n)(hp:∀i,i<m→Px n W w i){z:Nat→Int}(hz:∀r,r<m→W r * z r≤smN m (fun k=>w r k * z k)):∀r,r<m→z r≤0:=by
 intro r hr
 obtain⟨q,q1,q2⟩:=exists_max z (m:=m) (by omega)
 by_cases c:z q≤0
 ·exact Int.le_trans (q2 r hr) c
 ·exfalso
  have hpos:0<z q:=by omega
  have bound:∀i,i<m→z i=z q→smN m (w i)<W i→False:=fun i hi e h=>by
   have h1:=hz i hi
   have h2:smN m (fun k=>w i k * z k)≤z q * smN m (w i):=by
    rw[← C4]
    refine R1 fun k hk=> ?_
    rw[Int.mul_comm]
    exact Int.mul_le_mul_of_nonneg_right (q2 k hk) (hM.nn i k)
   have h3:z q * smN m (w i)<z q * W i:=Int.mul_lt_mul_of_pos_left h hpos
   have h4:=Int.mul_comm (W i) (z i)
   rw[e] at h1 h4;omega
  have key:∀i,Px n W w i→i<m→z i=z q→False:=fun i hi=>by
   induction hi with
   |@exit i h hw=>
    intro hi e
    have:=P5 (f:=w i) (fun k=>hM.nn i k) hm
    exact bound i hi e (by omega)
   |@step i k h hk hw _ ih=>
    intro hi e
    by_cases c2:k<m
    ·by_cases c3:z k=z q
     ·exact ih c2 c3
     ·have hlt:z k≤z q - 1:=by have:=q2 k c2;omega
      have h1:=hz i hi
      have h2:smN m (fun j=>w i j * z j)≤smN m (fun j=>z q * w i j+(if j=k then - w i k else 0)):=by
       refine R1 fun j hj=> ?_
       by_cases ej:j=k
       ·subst ej
        rw[if_pos rfl]
        have:=Int.mul_le_mul_of_nonneg_right hlt (hM.nn i j)
        have e1:=Int.mul_comm (w i j) (z j)
        rw[Int.sub_mul,Int.one_mul] at this
        omega
       ·rw[if_neg ej,Int.add_zero,Int.mul_comm]
        exact Int.mul_le_mul_of_nonneg_right (q2 j hj) (hM.nn i j)
      rw[K6,C4,Q9 (a:=k) c2 fun j _ hjk=>if_neg hjk,if_pos rfl] at h2
      have h3:=P5 (f:=w i) (fun k=>hM.nn i k) hm
      have h4:=hM.le i h
      have h5:z q * smN m (w i)≤z q * W i:=Int.mul_le_mul_of_nonneg_left (by omega) (by omega)
      have h6:=Int.mul_comm (W i) (z i)
      rw[e] at h1 h6;omega
    ·have:=W8 (f:=w i) (fun k=>hM.nn i k) (m:=m) (k:=k) (by omega) hk
     have:=hM.le i h
     exact bound i hi e (by omega)
  exact key q (hp q q1) q1 rfl
def eqM(n:Nat)(W:Nat→Int)(w:Mtx)(b:Nat→Int):Mtx:=fun i k=>if k=n then b i else(if i=k then W i else 0) - w i k
theorem eqM_sum{b:Nat→Int}{m:Nat}(hm:m≤n){r:Nat}(hr:r<m)(y:Nat→Int):smN m (fun k=>eqM n W w b r k * y k)=W r * y r - smN m (fun k=>w r k * y k):=by
 have:smN m (fun k=>eqM n W w b r k * y k)=smN m (fun k=>(if r=k then W r * y r else 0)+ - (w r k * y k)):=k7 fun k hk=>by
  unfold eqM
  rw[if_neg (by omega)]
  split
  ·rename_i e;subst e;grind
  ·grind
 rw[this,K6,smN_neg,Q9 (a:=r) hr fun k _ hkr=>if_neg (Ne.symm hkr),if_pos rfl];omega
theorem ker0(hM:Ms n W w){b:Nat→Int}{m:Nat}(hm:m≤n)(hp:∀i,i<m→Px n W w i){y:Nat→Int}(hy:∀r,r<m→smN m (fun k=>eqM n W w b r k * y k)=0):∀r,r<m→y r=0:=by
 intro r hr
 have h1:=maxP hM hm hp (z:=y) (fun r hr=>by have:=hy r hr;rw[eqM_sum hm hr] at this;omega) r hr
 have h2:=maxP hM hm hp (z:=fun k=> - y k) (fun r hr=>by
  have:=hy r hr
  rw[eqM_sum hm hr] at this
  have e:smN m (fun k=>w r k * - y k)= - smN m (fun k=>w r k * y k):=by
   rw[← smN_neg];exact k7 fun k _=>by grind
  rw[e,Int.mul_neg];omega) r hr
 omega
theorem pos0(hM:Ms n W w){b:Nat→Int}(hp:∀i,i<n→Px n W w i){y:Nat→Int}(hy:∀r,r<n→0≤smN n (fun k=>eqM n W w b r k * y k)):∀r,r<n→0≤y r:=by
 intro r hr
 have h2:=maxP hM (Nat.le_refl n) hp (z:=fun k=> - y k) (fun r hr=>by
  have:=hy r hr
  rw[eqM_sum (Nat.le_refl n) hr] at this
  have e:smN n (fun k=>w r k * - y k)= - smN n (fun k=>w r k * y k):=by
   rw[← smN_neg];exact k7 fun k _=>by grind
  rw[e,Int.mul_neg];omega) r hr
 omega
theorem GJ.pivot(hM:Ms n W w){b:Nat→Int}(hp:∀i,i<n→Px n W w i){c:Nat}{a:Mtx}{d:Int}(h:GJ n (eqM n W w b) c a d)(hc:c<n):a c c ≠ 0:=by
 intro hz
 have:=ker0 hM (b:=b) (m:=c+1) (by omega) (fun i hi=>hp i (by omega)) (y:=fun k=>if k=c then d else - a k c) (fun r hr=>by
  simp only[smN]
  rw[if_pos trivial]
  have e:smN c (fun k=>eqM n W w b r k * if k=c then d else - a k c)= - smN c (fun k=>eqM n W w b r k * a k c):=by
   rw[← smN_neg]
   refine k7 fun k hk=> ?_
   rw[if_neg (by omega)];grind
  rw[e]
  by_cases q:r=c
  ·subst q
   have:=h.low r r (Nat.le_refl r) (by omega) (Nat.le_refl r) hc
   have:=Int.mul_comm d (eqM n W w b r r)
   omega
  ·have:=h.top c r (Nat.le_refl c) (by omega) (by omega)
   have:=Int.mul_comm d (eqM n W w b r c)
   omega) c (by omega)
 rw[if_pos rfl] at this
 exact h.nz this
end
end Ab
end
section
namespace Ab
def Qv(n:Nat)(W:Nat→Int)(w:Mtx)(c num:Nat→Int)(den:Int)(i:Nat):Int:=smN n (fun k=>w i k * num k)+W i * c i * den
structure Vf(n:Nat)(W:Nat→Int)(w:Mtx)(c num:Nat→Int)(den:Int):Prop where
 pos:0<den
 eq:∀i,i<n→Qv n W w c num den i=W i * num i
section
variable {n:Nat}{W:Nat→Int}{w:Mtx}{c num num':Nat→Int}{den den':Int}
end
end Ab
end
section
namespace Ab
theorem ae3{R:Int}:∀n:Nat,prd n (fun _=>R)=R ^ n
 |0=>by simp[prd]
 |n+1=>by rw[prd,ae3 n,Int.pow_succ,Int.mul_comm]
theorem pow_nn{R:Int}(h:0≤R):∀n:Nat,0≤R ^ n
 |0=>by simp
 |n+1=>by rw[Int.pow_succ];exact Int.mul_nonneg (pow_nn h n) h
theorem ab_sgn(j:Nat):ab (sgn j)=1:=by unfold sgn ab;split<;>split<;>omega
theorem al8{R B:Int}(hR:0≤R)(hB:0≤B):∀{n:Nat} {A:Mtx} {l:Nat},l<n+1→(∀i,i<n+1→smN (n+1) (fun j=>if j=l then 0 else ab (A i j))≤R)→(∀i,i<n+1→ab (A i l)≤B)→ab (det (n+1) A)≤(n+1:Int) * B * R ^ n
 |0,A,l,hl,_,h2=>by
  have:l=0:=by omega
  subst this
  have:=h2 0 (by omega)
  simpa[det,smN,sgn] using this
 |n+1,A,l,hl,h1,h2=>by
  have hK:0≤(n+1:Int) * B * R ^ n:=Int.mul_nonneg (Int.mul_nonneg (by omega) hB) (pow_nn hR n)
  rw[det]
  refine Int.le_trans (ab_sum _) ?_
  have hm:∀j,j<n+1+1→ab (sgn j * A 0 j * det (n+1) (mnr A j))≤((n+1:Int) * B * R ^ n) * (if j=l then 0 else ab (A 0 j))+(if j=l then B * R ^ (n+1) else 0):=fun j hj=>by
   rw[af3,af3,ab_sgn,Int.one_mul]
   by_cases e:j=l
   ·subst e
    rw[if_pos rfl,if_pos rfl,Int.mul_zero,Int.zero_add]
    have ih:=ae7 (n:=n+1) (A:=mnr A j) (r:=fun _=>R) (fun _=>hR) fun i hi=>by
     have k1:=h1 (i+1) (by omega)
     have k2:=smN_sk (f:=fun k=>if k=j then 0 else ab (A (i+1) k)) (fun k=>by split;omega;exact w7 _) (n:=n+1) (j:=j)
     rw[k7 (g:=fun k=>if sk j k=j then 0 else ab (A (i+1) (sk j k))) fun k _=>by unfold mnr;rw[if_neg (by unfold sk;split<;>omega)]]
     exact Int.le_trans k2 k1
    rw[ae3] at ih
    exact Int.mul_le_mul (h2 0 (by omega)) ih (w7 _) hB
   ·rw[if_neg e,if_neg e,Int.add_zero,Int.mul_comm]
    refine Int.mul_le_mul_of_nonneg_right ?_ (w7 _)
    refine al8 hR hB (l:=if j<l then l - 1 else l) (by split<;>omega) (fun i hi=> ?_) fun i hi=> ?_
    ·have k1:=h1 (i+1) (by omega)
     have k2:=smN_sk (f:=fun k=>if k=l then 0 else ab (A (i+1) k)) (fun k=>by split;omega;exact w7 _) (n:=n+1) (j:=j)
     rw[k7 (g:=fun k=>if sk j k=l then 0 else ab (A (i+1) (sk j k))) fun k _=>by
      unfold mnr
      have:k=(if j<l then l - 1 else l)↔sk j k=l:=by unfold sk;split<;>split<;>omega
      by_cases q:sk j k=l
      ·rw[if_pos (this.2 q),if_pos q]
      ·rw[if_neg (fun r=>q (this.1 r)),if_neg q]]
     exact Int.le_trans k2 k1
    ·have:=h2 (i+1) (by omega)
     unfold mnr
     rwa [show sk j (if j<l then l - 1 else l)=l by unfold sk;split<;>split<;>omega]
  refine Int.le_trans (R1 hm) ?_
  rw[K6,C4,Q9 (f:=fun j=>if j=l then B * R ^ (n+1) else 0) (a:=l) hl fun j _ hj=>if_neg hj,if_pos rfl]
  have k1:=Int.mul_le_mul_of_nonneg_left (h1 0 (by omega)) hK
  have k2:((n+1:Int) * B * R ^ n) * R=(n+1:Int) * B * R ^ (n+1):=by rw[Int.pow_succ];grind
  push_cast
  have k3:((n:Int)+1+1) * B * R ^ (n+1)=(n+1:Int) * B * R ^ (n+1)+B * R ^ (n+1):=by grind
  omega
section
variable {n c:Nat}{A a:Mtx}{d:Int}
theorem GJ.rep(h:GJ n A c a d){i j:Nat}(hi:i<c)(hj:c≤j)(hj':j≤n):a i j=det c (rep A i fun r=>A r j):=by
 have key:=cramer (n:=c) (A:=A) (y:=fun k=>a k j) (b:=fun r=>d * A r j) (fun r hr=>h.top j r hj hj' hr) (l:=i) hi
 rw[at6 hi,← h.dd,Int.mul_comm (a i j)] at key
 exact(Int.eq_of_mul_eq_mul_left h.nz key).symm
end
structure Rb(n:Nat)(A:Mtx)(R B:Int):Prop where
 R0:0≤R
 B0:0≤B
 row:∀i,i<n→smN n (fun k=>ab (A i k))≤R
 rhs:∀i,i<n→ab (A i n)≤B
section
variable {n c:Nat}{A a:Mtx}{d R B:Int}
theorem Rb.brd1(h:Rb n A R B){i j:Nat}(hj:c≤j)(hj':j<n)(hi:c≤i)(hi':i<n):ab (det (c+1) (brd c A i j))≤R ^ (c+1):=by
 have:=ae7 (n:=c+1) (A:=brd c A i j) (r:=fun _=>R) (fun _=>h.R0) fun r hr=>by
  have hr':(if r=c then i else r)<n:=by split<;>omega
  have k1:=W8 (f:=fun k=>ab (A (if r=c then i else r) k)) (fun _=>w7 _) hj hj'
  have k2:=h.row _ hr'
  simp only[smN]
  rw[k7 (g:=fun k=>ab (A (if r=c then i else r) k)) fun k hk=>by unfold brd;rw[if_neg (by omega:¬ k=c)]]
  have:brd c A i j r c=A (if r=c then i else r) j:=by unfold brd;rw[if_pos (rfl:c=c)]
  rw[this];omega
 rwa [ae3] at this
theorem Rb.brd2(h:Rb n A R B){i:Nat}(hc:c≤n)(hi:c≤i)(hi':i<n):ab (det (c+1) (brd c A i n))≤(c+1:Int) * B * R ^ c:=by
 refine al8 h.R0 h.B0 (l:=c) (by omega) (fun r hr=> ?_) fun r hr=> ?_
 ·have hr':(if r=c then i else r)<n:=by split<;>omega
  have k1:=P5 (f:=fun k=>ab (A (if r=c then i else r) k)) (fun _=>w7 _) hc
  have k2:=h.row _ hr'
  simp only[smN,if_true,Int.add_zero]
  rw[k7 (g:=fun k=>ab (A (if r=c then i else r) k)) fun k hk=>by unfold brd;rw[if_neg (by omega:¬ k=c),if_neg (by omega:¬ k=c)]]
  omega
 ·have hr':(if r=c then i else r)<n:=by split<;>omega
  have:brd c A i n r c=A (if r=c then i else r) n:=by unfold brd;rw[if_pos (rfl:c=c)]
  rw[this];exact h.rhs _ hr'
theorem Rb.rep1(h:Rb n A R B)(hc:c≤n){i j:Nat}(hi:i<c)(hj:c≤j)(hj':j<n):ab (det c (rep A i fun r=>A r j))≤R ^ c:=by
 have:=ae7 (n:=c) (A:=rep A i fun r=>A r j) (r:=fun _=>R) (fun _=>h.R0) fun r hr=>by
  have k1:=W8 (f:=fun k=>ab (A r k)) (fun _=>w7 _) hj hj'
  have k2:=h.row r (by omega)
  have k3:smN c (fun k=>ab (rep A i (fun r=>A r j) r k))≤smN c (fun k=>ab (A r k)+(if k=i then ab (A r j) else 0)):=R1 fun k hk=>by
   unfold Ab.rep
   by_cases e:k=i
   ·rw[if_pos e,if_pos e];have:=w7 (A r k);show ab (A r j)≤ab (A r k)+ab (A r j);omega
   ·rw[if_neg e,if_neg e];omega
  rw[K6,Q9 (f:=fun k=>if k=i then ab (A r j) else 0) hi fun k _ hk=>if_neg hk,if_pos rfl] at k3
  exact Int.le_trans k3 (Int.le_trans k1 k2)
 rwa [ae3] at this
theorem Rb.rep2(h:Rb n A R B){i:Nat}(hc:c+1≤n)(hi:i<c+1):ab (det (c+1) (rep A i fun r=>A r n))≤(c+1:Int) * B * R ^ c:=by
 refine al8 h.R0 h.B0 (l:=i) hi (fun r hr=> ?_) fun r hr=> ?_
 ·have k1:=P5 (f:=fun k=>ab (A r k)) (fun _=>w7 _) hc
  have k2:=h.row r (by omega)
  refine Int.le_trans (R1 (g:=fun k=>ab (A r k)) fun k hk=> ?_) (Int.le_trans k1 k2)
  unfold Ab.rep
  split
  ·exact w7 _
  ·exact Int.le_refl _
 ·unfold Ab.rep;rw[if_pos rfl];exact h.rhs r (by omega)
end
end Ab
end
section
namespace Ab
def lists(m:Nat):Nat→LL
 |0=>[[]]
 |n+1=>(List.range m).flatMap fun a:Nat=>(lists m n).map fun l=>(a:Int)::l
end Ab
end
section
namespace Ab
open Go
def mE(M:LL):Mtx:=fun i j=>((M[i]?).getD [])[j]?.getD 0
structure Shp(n:Nat)(M:LL):Prop where
 len:M.length=n
 row:∀r ∈ M,r.length=n+1
theorem Shp.get{n:Nat}{M:LL}(h:Shp n M){i:Nat}(hi:i<n):∃row,M[i]? =some row∧row.length=n+1∧ix M (i:Int)=some row∧∀j,j≤n→ix row (j:Int)=some (mE M i j)∧row[j]? =some (mE M i j):=by
 have hl:i<M.length:=by rw[h.len];exact hi
 have e:M[i]? =some M[i]:=List.getElem?_eq_getElem hl
 have hr:=h.row _ (List.getElem_mem hl)
 refine⟨M[i],e,hr,by rw[o8,e],fun j hj=> ?_⟩
 have hj':j<M[i].length:=by omega
 have e2:M[i][j]? =some M[i][j]:=List.getElem?_eq_getElem hj'
 have:mE M i j=M[i][j]:=by unfold mE;rw[e];simp[e2]
 rw[o8,e2,this]
 exact⟨rfl,rfl⟩
theorem Shp.set{n:Nat}{M:LL}(h:Shp n M){i:Nat}{row:Li}(hr:row.length=n+1):Shp n (M.set i row):=
 ⟨by rw[lS];exact h.len,fun r hm=>by
  rcases List.mem_or_eq_of_mem_set hm with hm|rfl
  ·exact h.row r hm
  ·exact hr⟩
theorem mE_set{n:Nat}{M:LL}(h:Shp n M){i j:Nat}(hi:i<n){row:Li}(hrow:M[i]? =some row)(hj:j<row.length)(v:Int)(i' j':Nat):
  mE (M.set i (row.set j v)) i' j'=if i'=i∧j'=j then v else mE M i' j':=by
 have hl:i<M.length:=by rw[h.len];exact hi
 unfold mE
 rw[List.getElem?_set]
 by_cases e:i'=i
 ·subst e
  rw[if_pos rfl,if_pos hl,hrow]
  simp only[Option.getD_some,List.getElem?_set,true_and]
  by_cases f:j'=j
  ·subst f;simp[hj]
  ·rw[if_neg (fun q=>f q.symm),if_neg f]
 ·rw[if_neg (fun q=>e q.symm),if_neg (fun q=>e q.1)]
def Ft(x:Int):Prop:= -9223372036854775808≤x∧x≤9223372036854775807
theorem Ft.w{x:Int}(h:Ft x):w64 x=x:=w64_eq h
theorem row_clear{n c i:Nat}{last:Int}{M:LL}(hM:Shp n M)(hn:n≤1000)(hc:c<n)(hi:i<n)(hic:i ≠ c)(hl:last ≠ 0)
  (hf:∀j,j≤n→j ≠ c→Ft (mE M c c * mE M i j)∧Ft (mE M i c * mE M c j)∧Ft (crs (mE M) c i j)∧Ft ((crs (mE M) c i j).tdiv last)):
  ∃M',Loop (B5 c last i) (M,(n:Int))=some M'∧Shp n M'∧∀i' j',j'≤n→mE M' i' j'=if i'=i∧j' ≠ c then(crs (mE M) c i j').tdiv last else mE M i' j':=by
 refine F4 (body:=B5 c last i) (s:=(M,(n:Int)))
  (fun s=>Shp n s.1∧ -1≤s.2∧s.2≤n∧∀i' j':Nat,j'≤n→mE s.1 i' j'=if i'=i∧j' ≠ c∧s.2<j' then(crs (mE M) c i j').tdiv last else mE M i' j')
  (fun M'=>Shp n M'∧∀i' j',j'≤n→mE M' i' j'=if i'=i∧j' ≠ c then(crs (mE M) c i j').tdiv last else mE M i' j')
  (fun s=>(s.2+1).toNat) ⟨hM,by dsimp only;omega,by dsimp only;omega,fun i' j' hj'=>by rw[if_neg (by dsimp only;omega)]⟩ ?_
 rintro ⟨M1,j⟩ ⟨h1,h2,h3,h4⟩
 dsimp only at h1 h2 h3 h4
 unfold B5
 dsimp only
 by_cases hj:0≤j
 ·rw[if_pos hj]
  obtain⟨k,rfl⟩:=Int.eq_ofNat_of_zero_le hj
  have hw:w64 ((k:Int) - 1)=k - 1:=n8 (by omega) (by omega)
  by_cases e:(k:Int)=c
  ·rw[if_pos e,Option.bind_some,hw]
   refine .inl ⟨_,rfl,⟨h1,by dsimp only;omega,by dsimp only;omega,fun i' j' hj'=> ?_⟩,by dsimp only;omega⟩
   rw[h4 i' j' hj']
   dsimp only
   by_cases q:i'=i∧j' ≠ c∧(k:Int)<j'
   ·rw[if_pos q,if_pos ⟨q.1,q.2.1,by omega⟩]
   ·rw[if_neg q,if_neg (fun r=>q ⟨r.1,r.2.1,by have:=r.2.1;have:=r.2.2;omega⟩)]
  ·rw[if_neg e]
   have hkc:k ≠ c:=by omega
   have hk:k≤n:=by omega
   obtain⟨ri,a1,a2,a3,a4⟩:=h1.get hi
   obtain⟨rc,b1,b2,b3,b4⟩:=h1.get hc
   have vcc:mE M1 c c=mE M c c:=by rw[h4 c c (by omega),if_neg (fun q=>hic q.1.symm)]
   have vck:mE M1 c k=mE M c k:=by rw[h4 c k hk,if_neg (fun q=>hic q.1.symm)]
   have vic:mE M1 i c=mE M i c:=by rw[h4 i c (by omega),if_neg (fun q=>q.2.1 rfl)]
   have vik:mE M1 i k=mE M i k:=by rw[h4 i k hk,if_neg (fun q=>by have:=q.2.2;omega)]
   obtain⟨f1,f2,f3,f4⟩:=hf k hk hkc
   have hcr:mE M c c * mE M i k - mE M i c * mE M c k=crs (mE M) c i k:=rfl
   simp only[a3,b3,oB,(a4 k hk).1,(a4 c (by omega)).1,(b4 c (by omega)).1,(b4 k hk).1,vcc,vck,vic,vik,f1.w,f2.w,hcr,f3.w,f4.w,chkN]
   rw[if_neg hl]
   simp only[oB,hw,Int.toNat_natCast]
   refine .inl ⟨_,rfl,⟨h1.set (by rw[lS];exact a2),by dsimp only;omega,by dsimp only;omega,fun i' j' hj'=> ?_⟩,by dsimp only;omega⟩
   dsimp only
   rw[mE_set h1 hi a1 (by omega)]
   by_cases q:i'=i∧j'=k
   ·rw[if_pos q,if_pos ⟨q.1,by omega,by omega⟩,q.2]
   ·rw[if_neg q,h4 i' j' hj']
    by_cases r:i'=i∧j' ≠ c∧(k:Int)<j'
    ·rw[if_pos r,if_pos ⟨r.1,r.2.1,by omega⟩]
    ·rw[if_neg r,if_neg (fun s=>r ⟨s.1,s.2.1,by have:=s.2.2;by_cases f:j'=k;exact absurd ⟨s.1,f⟩ q;omega⟩)]
 ·rw[if_neg hj]
  refine .inr ⟨_,rfl,h1,fun i' j' hj'=> ?_⟩
  rw[h4 i' j' hj']
  by_cases q:i'=i∧j' ≠ c
  ·rw[if_pos q,if_pos ⟨q.1,q.2,by omega⟩]
  ·rw[if_neg q,if_neg (fun r=>q ⟨r.1,r.2.1⟩)]
def nxt(a:Mtx)(c:Nat)(d:Int):Mtx:=fun i j=>if i=c then a c j else if j=c then 0 else(crs a c i j).tdiv d
theorem col_clear{n c:Nat}{last:Int}{L M:LL}(hL:L.length=n)(hM:Shp n M)(hn:n≤1000)(hc:c<n)(hl:last ≠ 0)
  (hf:∀i j,i<n→i ≠ c→j≤n→j ≠ c→Ft (mE M c c * mE M i j)∧Ft (mE M i c * mE M c j)∧Ft (crs (mE M) c i j)∧Ft ((crs (mE M) c i j).tdiv last)):
  ∃M',forR 0 (L.length:Int) (B8 L c last) M=some M'∧Shp n M'∧∀i j,i<n→j≤n→mE M' i j=nxt (mE M) c last i j:=by
 obtain⟨M',k1,k2,k3⟩:=u7 (body:=B8 L c last) (n:=(L.length:Int)) (s:=M)
  (fun q s=>Shp n s∧∀i j:Nat,i<n→j≤n→mE s i j=if(i:Int)<q then nxt (mE M) c last i j else mE M i j) (by omega)
  ⟨hM,fun i j hi hj=>by rw[if_neg (by omega)]⟩ (fun q s q0 q1 ⟨p1,p2⟩=>by
   obtain⟨i,rfl⟩:=Int.eq_ofNat_of_zero_le q0
   have hi:i<n:=by omega
   unfold B8
   by_cases e:(i:Int)=c
   ·have e':i=c:=by omega
    rw[if_pos e,Option.bind_some]
    refine⟨_,rfl,p1,fun i' j' hi' hj'=> ?_⟩
    rw[p2 i' j' hi' hj']
    by_cases f:(i':Int)<i
    ·rw[if_pos f,if_pos (by omega)]
    ·rw[if_neg f]
     by_cases g:i'=i
     ·rw[if_pos (by omega),g,e'];unfold nxt;rw[if_pos rfl]
     ·rw[if_neg (by omega)]
   ·have e':i ≠ c:=by omega
    have vi:∀j,j≤n→mE s i j=mE M i j:=fun j hj=>by rw[p2 i j hi hj,if_neg (by omega)]
    have vc:∀j,j≤n→mE s c j=mE M c j:=fun j hj=>by
     rw[p2 c j hc hj]
     split
     ·unfold nxt;rw[if_pos rfl]
     ·rfl
    have vx:∀j,j≤n→crs (mE s) c i j=crs (mE M) c i j:=fun j hj=>by
     unfold crs;rw[vi j hj,vi c (by omega),vc j hj,vc c (by omega)]
    obtain⟨M1,m1,m2,m3⟩:=row_clear p1 hn hc hi e' hl (fun j hj hjc=>by
     have:=hf i j hi e' hj hjc
     rw[vc c (by omega),vi j hj,vi c (by omega),vc j hj,vx j hj]
     exact this)
    obtain⟨r,a1,a2,a3,a4⟩:=m2.get hi
    rw[if_neg e,hL,m1]
    simp only[oB,a3,(a4 c (by omega)).1,Int.toNat_natCast]
    refine⟨_,rfl,m2.set (by rw[lS];exact a2),fun i' j' hi' hj'=> ?_⟩
    rw[mE_set m2 hi a1 (by omega),m3 i' j' hj']
    by_cases g:i'=i
    ·subst g
     rw[if_pos (show((i':Nat):Int)<(i':Int)+1 by omega)]
     unfold nxt
     rw[if_neg e']
     by_cases f:j'=c
     ·rw[if_pos ⟨rfl,f⟩,if_pos f]
     ·rw[if_neg (fun q=>f q.2),if_pos ⟨rfl,f⟩,if_neg f,vx j' hj']
    ·rw[if_neg (fun q=>g q.1),if_neg (fun q=>g q.1),p2 i' j' hi' hj']
     by_cases f:(i':Int)<i
     ·rw[if_pos f,if_pos (show(i':Int)<(i:Int)+1 by omega)]
     ·rw[if_neg f,if_neg (show ¬ (i':Int)<(i:Int)+1 by omega)])
 refine⟨M',k1,k2,fun i j hi hj=> ?_⟩
 rw[k3 i j hi hj,if_pos (by omega)]
end Ab
end
section
namespace Ab
open Go
theorem ab_prod{x y X Y:Int}(h1:ab x≤X)(h2:ab y≤Y):ab (x * y)≤X * Y:=by
 rw[af3];exact Int.mul_le_mul h1 h2 (w7 _) (Int.le_trans (w7 x) h1)
theorem Ft.of{x:Int}(h:ab x≤9223372036854775807):Ft x:=by
 have:=ab_le h;unfold Ft;omega
theorem ab_tdiv(x d:Int):ab (x.tdiv d)≤ab x:=by
 have e:∀y:Int,ab y=(y.natAbs:Int):=fun y=>by unfold ab;split<;>omega
 rw[e,e,Int.natAbs_tdiv]
 exact_mod_cast Nat.div_le_self _ _
theorem Ft.crs{a:Mtx}{c i j:Nat}{d:Int}(h1:ab (a c c * a i j)≤4000000000000000000)(h2:ab (a i c * a c j)≤4000000000000000000):Ft (a c c * a i j)∧Ft (a i c * a c j)∧Ft (Ab.crs a c i j)∧Ft ((Ab.crs a c i j).tdiv d):=by
 have h3:ab (Ab.crs a c i j)≤8000000000000000000:=by
  have:=ab_add (a c c * a i j) (-(a i c * a c j))
  have e:ab (-(a i c * a c j))=ab (a i c * a c j):=by unfold ab;split<;>split<;>omega
  rw[e] at this
  unfold Ab.crs
  rw[Int.sub_eq_add_neg];omega
 have h4:=ab_tdiv (Ab.crs a c i j) d
 exact⟨.of (by omega),.of (by omega),.of (by omega),.of (by omega)⟩
section
variable {n c:Nat}{A a:Mtx}{d:Int}
theorem det_top{R B:Int}(h:Rb n A R B)(hc:c≤n):ab (det c A)≤R ^ c:=by
 have:=ae7 (n:=c) (A:=A) (r:=fun _=>R) (fun _=>h.R0) fun r hr=>by
  have k1:=P5 (f:=fun k=>ab (A r k)) (fun _=>w7 _) hc
  have k2:=h.row r (by omega)
  omega
 rwa [ae3] at this
theorem GJ.fits(hn:n≤5)(hR:Rb n A 48 2400)(h:GJ n A c a d)(hc:c<n){i j:Nat}(hi:i<n)(hic:i ≠ c)(hj:j≤n)(hjc:j ≠ c):ab (a c c * a i j)≤4000000000000000000∧ab (a i c * a c j)≤4000000000000000000:=by
 have P:ab (a c c)≤48 ^ (c+1):=by rw[h.brd (Nat.le_refl c) (by omega) (Nat.le_refl c) hc];exact hR.brd1 (Nat.le_refl c) hc (Nat.le_refl c) hc
 have hd:ab d≤48 ^ c:=by rw[h.dd];exact det_top hR (by omega)
 have h5:c=0∨c=1∨c=2∨c=3∨c=4:=by omega
 have fin:∀{x y X Y:Int},ab x≤X→ab y≤Y→X * Y≤4000000000000000000→ab (x * y)≤4000000000000000000:=fun h1 h2 h3=>Int.le_trans (ab_prod h1 h2) h3
 rcases Nat.lt_or_ge j c with q|q
 ·have e1:a c j=0:=by rw[h.on c j hc q,if_neg (by omega)]
  have e2:ab (a i j)≤48 ^ c:=by
   rw[h.on i j hi q]
   split
   ·exact hd
   ·have:ab 0=0:=by unfold ab;rfl
    rw[this];exact pow_nn (by omega) c
  refine⟨fin P e2 ?_,?_⟩
  ·rcases h5 with rfl|rfl|rfl|rfl|rfl<;>decide
  ·rw[e1,Int.mul_zero];decide
 ·have R2:ab (a c n)≤(c+1:Int) * 2400 * 48 ^ c:=by rw[h.brd (by omega) (Nat.le_refl n) (Nat.le_refl c) hc];exact hR.brd2 (by omega) (Nat.le_refl c) hc
  rcases Nat.lt_or_ge i c with r|r
  · -- a row that is cleared
   have C1:ab (a i c)≤48 ^ c:=by rw[h.rep r (Nat.le_refl c) (by omega)];exact hR.rep1 (by omega) r (Nat.le_refl c) hc
   by_cases e:j=n
   ·subst e
    obtain⟨c',rfl⟩:∃c',c=c'+1:=⟨c - 1,by omega⟩
    have C2:ab (a i j)≤(c'+1:Int) * 2400 * 48 ^ c':=by rw[h.rep r (by omega) (Nat.le_refl j)];exact hR.rep2 (by omega) r
    have h5:c'=0∨c'=1∨c'=2∨c'=3:=by omega
    exact⟨fin P C2 (by rcases h5 with rfl|rfl|rfl|rfl<;>decide),fin C1 R2 (by rcases h5 with rfl|rfl|rfl|rfl<;>decide)⟩
   ·have C2:ab (a i j)≤48 ^ c:=by rw[h.rep r (by omega) (by omega)];exact hR.rep1 (by omega) r (by omega) (by omega)
    have C3:ab (a c j)≤48 ^ (c+1):=by rw[h.brd (by omega) (by omega) (Nat.le_refl c) hc];exact hR.brd1 (by omega) (by omega) (Nat.le_refl c) hc
    exact⟨fin P C2 (by rcases h5 with rfl|rfl|rfl|rfl|rfl<;>decide),fin C1 C3 (by rcases h5 with rfl|rfl|rfl|rfl|rfl<;>decide)⟩
  ·have h4:c=0∨c=1∨c=2∨c=3:=by omega
   have C1:ab (a i c)≤48 ^ (c+1):=by rw[h.brd (Nat.le_refl c) (by omega) r hi];exact hR.brd1 (Nat.le_refl c) hc r hi
   by_cases e:j=n
   ·subst e
    have C2:ab (a i j)≤(c+1:Int) * 2400 * 48 ^ c:=by rw[h.brd (by omega) (Nat.le_refl j) r hi];exact hR.brd2 (by omega) r hi
    exact⟨fin P C2 (by rcases h4 with rfl|rfl|rfl|rfl<;>decide),fin C1 R2 (by rcases h4 with rfl|rfl|rfl|rfl<;>decide)⟩
   ·have C2:ab (a i j)≤48 ^ (c+1):=by rw[h.brd (by omega) (by omega) r hi];exact hR.brd1 (by omega) (by omega) r hi
    have C3:ab (a c j)≤48 ^ (c+1):=by rw[h.brd (by omega) (by omega) (Nat.le_refl c) hc];exact hR.brd1 (by omega) (by omega) (Nat.le_refl c) hc
    exact⟨fin P C2 (by rcases h4 with rfl|rfl|rfl|rfl<;>decide),fin C1 C3 (by rcases h4 with rfl|rfl|rfl|rfl<;>decide)⟩
end
theorem solve_rows{n:Nat}{L:LL}(hn:n≤5)(hL:Shp n L)(hR:Rb n (mE L) 48 2400)(hp:∀c a d,GJ n (mE L) c a d→c<n→a c c ≠ 0):
  ∃M d,forR 0 (L.length:Int) (B4 L) (L,1)=some (M,d)∧Shp n M∧GJ n (mE L) n (mE M) d:=by
 obtain⟨⟨M,d⟩,k1,k2,k3⟩:=u7 (body:=B4 L) (n:=(L.length:Int)) (s:=(L,1))
  (fun q s=>Shp n s.1∧GJ n (mE L) q.toNat (mE s.1) s.2) (by omega) ⟨hL,GJ.start⟩ (fun q s q0 q1 ⟨p1,p2⟩=>by
   obtain⟨M,d⟩:=s
   obtain⟨c,rfl⟩:=Int.eq_ofNat_of_zero_le q0
   have hll:=hL.len
   have hc:c<n:=by omega
   dsimp only at p1 p2
   rw[Int.toNat_natCast] at p2
   have hpiv:=hp c _ _ p2 hc
   obtain⟨rc,b1,b2,b3,b4⟩:=p1.get hc
   unfold B4
   have e2:Loop (B6 L c M) ()=some ():=by
    rw[Loop_eq]
    have:B6 L c M ()=some (.inr ()):=by
     unfold B6
     split
     ·simp only[b3,(b4 c (by omega)).1,oB]
      rw[if_neg (by simp[hpiv])]
     ·rfl
    rw[this]
   have hft:=fun i j (hi:i<n) (hic:i ≠ c) (hj:j≤n) (hjc:j ≠ c)=>p2.fits hn hR hc hi hic hj hjc
   obtain⟨M',m1,m2,m3⟩:=col_clear hll p1 (by omega) hc p2.nz (fun i j hi hic hj hjc=>Ft.crs (hft i j hi hic hj hjc).1 (hft i j hi hic hj hjc).2)
   obtain⟨r2,d1,d2,d3,d4⟩:=m2.get hc
   have hcc:mE M' c c=mE M c c:=by rw[m3 c c hc (by omega)];unfold nxt;rw[if_pos rfl]
   dsimp only
   simp only[e2,b3,m1,d3,(d4 c (by omega)).1,oB]
   refine⟨_,rfl,m2,?_⟩
   dsimp only
   rw[show((c:Int)+1).toNat=c+1 by omega,hcc]
   refine p2.step hc hpiv (fun j hj=>by rw[m3 c j hc hj];unfold nxt;rw[if_pos rfl]) (fun i j hi hic hj hjc=> ?_) (fun i hi hic=>by rw[m3 i c hi (by omega)];unfold nxt;rw[if_neg hic,if_pos rfl])
   rw[m3 i j hi hj]
   unfold nxt
   rw[if_neg hic,if_neg hjc]
   obtain⟨x,hx⟩:=p2.exact hc hpiv hi hic hj hjc
   rw[hx,Int.mul_tdiv_cancel_left _ p2.nz])
 refine⟨M,d,k1,k2,?_⟩
 rw[hL.len,Int.toNat_natCast] at k3
 exact k3
theorem solve_spec{n:Nat}{L:LL}(st:LL)(hn:n≤5)(hL:Shp n L)(hR:Rb n (mE L) 48 2400)(hp:∀c a d,GJ n (mE L) c a d→c<n→a c c ≠ 0):
  ∃num:Li,w8 st L=some (num,det n (mE L))∧num.length=n∧det n (mE L) ≠ 0∧(∀l,l<n→num[l]? =some (det n (rep (mE L) l fun r=>mE L r n)))∧
   ∀r,r<n→smN n (fun k=>mE L r k * (num[k]?).getD 0)=det n (mE L) * mE L r n:=by
 obtain⟨M,d,h1,h2,h3⟩:=solve_rows hn hL hR hp
 have hll:=hL.len
 unfold w8
 rw[h1]
 simp only[oB]
 have hmk:mkL 8 (L.length:Int) (0:Int)=some (List.replicate n 0):=by
  unfold mkL;rw[if_pos (by omega),hll,Int.toNat_natCast]
 rw[hmk]
 simp only[oB,List.length_replicate]
 obtain⟨num,k1,k2,k3⟩:=u7 (body:=F5 L M) (n:=(n:Int)) (s:=List.replicate n 0)
  (fun q s=>s.length=n∧∀l:Nat,(l:Int)<q→l<n→s[l]? =some (mE M l n)) (by omega) ⟨by simp,fun l hl=>by omega⟩ (fun q s q0 q1 ⟨p1,p2⟩=>by
   obtain⟨i,rfl⟩:=Int.eq_ofNat_of_zero_le q0
   have hi:i<n:=by omega
   obtain⟨r,a1,a2,a3,a4⟩:=h2.get hi
   have hs:i<s.length:=by omega
   have hx:ix s (i:Int)=some s[i]:=by rw[o8];exact List.getElem?_eq_getElem hs
   unfold F5
   simp only[a3,hll,(a4 n (Nat.le_refl n)).1,hx,oB,Int.toNat_natCast]
   refine⟨_,rfl,by rw[lS];exact p1,fun l hl hln=> ?_⟩
   rw[List.getElem?_set]
   by_cases e:i=l
   ·subst e;rw[if_pos rfl,if_pos hs]
   ·rw[if_neg e];exact p2 l (by omega) hln)
 rw[k1]
 have dd:d=det n (mE L):=h3.dd
 have hnum:∀l,l<n→num[l]? =some (mE M l n):=fun l hl=>k3 l (by omega) hl
 refine⟨num,by rw[dd];rfl,k2,by rw[← dd];exact h3.nz,fun l hl=> ?_,fun r hr=> ?_⟩
 ·rw[hnum l hl,h3.rep hl (Nat.le_refl n) (Nat.le_refl n)]
 ·rw[← dd,← h3.top n r (Nat.le_refl n) (Nat.le_refl n) hr]
  exact k7 fun k hk=>by rw[hnum k hk];rfl
end Ab
end
section
namespace Ab
open Go
/-! ### States as' numbers -/
def wsN:Li→Nat
 |[]=>0
 |a::l=>2 ^ a.toNat+wsN l
theorem wsN_dvd{k:Nat}:∀{l:Li},(∀x ∈ l,k≤x.toNat)→2 ^ k ∣ wsN l
 |[],_=>⟨0,rfl⟩
 |a::l,h=>Nat.dvd_add (Nat.pow_dvd_pow 2 (h a (by simp))) (wsN_dvd fun x hx=>h x (List.mem_cons_of_mem _ hx))
theorem two_pow_no{k:Nat}(h:2 ^ (k+1) ∣ 2 ^ k):False:=by
 have h1:=Nat.le_of_dvd (Nat.two_pow_pos k) h
 have h2:=Nat.two_pow_pos k
 rw[Nat.pow_succ] at h1
 omega
theorem wsN_ne{a:Int}{l m:Li}(ha:0≤a)(hl:∀x ∈ l,a<x)(hm:∀x ∈ m,a<x):wsN (a::l) ≠ wsN m:=fun h=>by
 have d1:2 ^ (a.toNat+1) ∣ wsN l:=wsN_dvd fun x hx=>by have:=hl x hx;omega
 have d2:2 ^ (a.toNat+1) ∣ wsN m:=wsN_dvd fun x hx=>by have:=hm x hx;omega
 rw[← h,wsN] at d2
 exact two_pow_no ((Nat.dvd_add_left d1).1 d2)
theorem wsN_inj:∀{l m:Li},Inc l→Inc m→(∀x ∈ l,0≤x)→(∀x ∈ m,0≤x)→wsN l=wsN m→l=m
 |[],[],_,_,_,_,_=>rfl
 |[],b::m,_,_,_,_,h=>by
  have:=Nat.two_pow_pos b.toNat
  simp only[wsN] at h;omega
 |a::l,[],_,_,_,_,h=>by
  have:=Nat.two_pow_pos a.toNat
  simp only[wsN] at h;omega
 |a::l,b::m,h1,h2,h3,h4,h=>by
  obtain⟨l1,l2⟩:=List.pairwise_cons.1 h1
  obtain⟨m1,m2⟩:=List.pairwise_cons.1 h2
  rcases Int.lt_trichotomy a b with c|c|c
  ·exact absurd h (wsN_ne (h3 a (by simp)) l1 fun x hx=>by
    rcases List.mem_cons.1 hx with rfl|hx
    ·exact c
    ·have:=m1 x hx;omega)
  ·subst c
   simp only[wsN] at h
   rw[wsN_inj l2 m2 (fun x hx=>h3 x (List.mem_cons_of_mem _ hx)) (fun x hx=>h4 x (List.mem_cons_of_mem _ hx)) (by omega)]
  ·exact absurd h.symm (wsN_ne (h4 b (by simp)) m1 fun x hx=>by
    rcases List.mem_cons.1 hx with rfl|hx
    ·exact c
    ·have:=l1 x hx;omega)
theorem SetN.word_inj{s s':Li}{n:Int}(h:SetN s n)(h':SetN s' n)(e:wsN s=wsN s'):s=s':=
 wsN_inj h.1 h'.1 (fun x hx=>(h.2 x hx).1) (fun x hx=>(h'.2 x hx).1) e
end Ab
end
section
namespace Ab
open Go
/-! ### Lists compared -/
theorem listEq{α:Type}{a b:List α}{body:Int→Unit→Option (Unit⊕Bool)}(hl:a.length=b.length)(hb:∀j x y,ix a j=some x→ix b j=some y→(x=y∧body j ()=some (.inl ()))∨(x ≠ y∧body j ()=some (.inr false))):
  (Option.bind (rngX 0 (a.length:Int) body ()) fun| .inl _=>some true| .inr x=>some x)=some (dec (a=b)):=by
 rcases B7 (body:=body) (n:=(a.length:Int)) (fun j=>if dec (ix a j=ix b j)=true then none else some false) (by omega) (fun j h0 h1 _=>by
  obtain⟨x,hx,_⟩:=j7 (l:=a) h0 h1
  obtain⟨y,hy,_⟩:=j7 (l:=b) (i:=j) h0 (by omega)
  rcases hb j x y hx hy with⟨e,h⟩|⟨e,h⟩
  ·rw[h,ifP (by rw[hx,hy,e])]
  ·rw[h,ifN (by rw[hx,hy];simpa using e)]) with⟨h1,h2⟩|⟨j,o,h0,h1,h2,_,h4⟩
 ·rw[h1,l8]
  ·rfl
  ·refine List.ext_getElem? fun k=> ?_
   by_cases hk:k<a.length
   ·have:=h2 k (by omega) (by omega)
    split at this
    ·rename_i e
     have:=m6.1 e
     rwa [o8,o8] at this
    ·cases this
   ·rw[List.getElem?_eq_none (by omega),List.getElem?_eq_none (by omega)]
 ·rw[h4]
  split at h2
  ·cases h2
  ·rename_i e
   cases h2
   rw[q6 (fun h=>e (l8 (by rw[h])))];rfl
theorem ints_eq(a b:Li):K5 a b=some (dec (a=b)):=by
 unfold K5
 by_cases hl:(a.length:Int)=b.length
 ·rw[if_pos hl]
  refine listEq (by omega) fun j x y hx hy=> ?_
  unfold ao2
  simp only[hx,hy,oB]
  by_cases e:x=y
  ·rw[if_pos e];exact .inl ⟨e,rfl⟩
  ·rw[if_neg e];exact .inr ⟨e,rfl⟩
 ·rw[if_neg hl,q6 (fun h=>hl (by rw[h]))]
theorem equal_eq(a b:Li):z6 a b=some (dec (a=b)):=by
 unfold z6
 by_cases hl:(a.length:Int)=b.length
 ·rw[if_pos hl]
  refine listEq (by omega) fun j x y hx hy=> ?_
  unfold N0
  simp only[hx,hy,oB]
  by_cases e:x=y
  ·rw[if_pos e];exact .inl ⟨e,rfl⟩
  ·rw[if_neg e];exact .inr ⟨e,rfl⟩
 ·rw[if_neg hl,q6 (fun h=>hl (by rw[h]))]
theorem place_eq(l:LL)(s:Li):∃r,H7 l s=some r∧((r= -1∧s ∉ l)∨(0≤r∧r<l.length∧ix l r=some s∧∀j,0≤j→j<r→ix l j ≠ some s)):=by
 unfold H7
 rcases B7 (body:=ab4 l s) (n:=(l.length:Int)) (fun j=>if dec (ix l j=some s)=true then some j else none) (by omega) (fun j h0 h1 _=>by
  obtain⟨x,hx,_⟩:=j7 (l:=l) h0 h1
  unfold ab4
  simp only[hx,oB,ints_eq]
  by_cases e:x=s
  ·rw[ifP e,ifP (by rw[e])]
  ·rw[ifN e,ifN (by simpa using e)]) with⟨h1,h2⟩|⟨j,o,h0,h1,h2,h3,h4⟩
 ·rw[h1]
  refine⟨-1,rfl,.inl ⟨rfl,fun hs=> ?_⟩⟩
  obtain⟨i,i0,i1,hi⟩:=s9 hs
  have:=h2 i i0 i1
  rw[ifP hi] at this
  cases this
 ·rw[h4]
  split at h2
  ·rename_i e
   cases h2
   refine⟨_,rfl,.inr ⟨h0,h1,m6.1 e,fun i i0 i1=> ?_⟩⟩
   have:=h3 i i0 i1
   split at this
   ·cases this
   ·rename_i e
    exact fun h=>e (l8 h)
  ·cases h2
/-! ### Ordered lists -/
abbrev Ord(l:LL):Prop:=l.Pairwise llt
theorem Ord.ext:∀{l m:LL},Ord l→Ord m→(∀x,x ∈ l↔x ∈ m)→l=m
 |[],[],_,_,_=>rfl
 |[],b::m,_,_,h=>absurd ((h b).2 (by simp)) (by simp)
 |a::l,[],_,_,h=>absurd ((h a).1 (by simp)) (by simp)
 |a::l,b::m,hl,hm,h=>by
  obtain⟨l1,l2⟩:=List.pairwise_cons.1 hl
  obtain⟨m1,m2⟩:=List.pairwise_cons.1 hm
  have hab:a=b:=by
   rcases List.mem_cons.1 ((h a).1 (by simp)) with e|e
   ·exact e
   ·rcases List.mem_cons.1 ((h b).2 (by simp)) with e'|e'
    ·exact e'.symm
    ·exact(ap1 (l1 b e') (m1 a e)).elim
  subst hab
  rw[Ord.ext l2 m2 fun x=>⟨fun hx=> ?_,fun hx=> ?_⟩]
  ·rcases List.mem_cons.1 ((h x).1 (by simp[hx])) with e|e
   ·subst e;exact absurd (l1 x hx) (H6 x)
   ·exact e
  ·rcases List.mem_cons.1 ((h x).2 (by simp[hx])) with e|e
   ·subst e;exact absurd (m1 x hx) (H6 x)
   ·exact e
theorem Ord.get{l:LL}(h:Ord l){i j:Int}{a b:Li}(hi:ix l i=some a)(hj:ix l j=some b)(hij:i<j):llt a b:=by
 obtain⟨i0,i1,hi⟩:=r7 hi
 obtain⟨j0,j1,hj⟩:=r7 hj
 obtain⟨h1,rfl⟩:=lG.1 hi
 obtain⟨h2,rfl⟩:=lG.1 hj
 exact List.pairwise_iff_getElem.1 h _ _ h1 h2 (by omega)
theorem Ord.inj{l:LL}(h:Ord l){i j:Int}{a:Li}(hi:ix l i=some a)(hj:ix l j=some a):i=j:=by
 rcases Int.lt_trichotomy i j with e|e|e
 ·exact absurd (h.get hi hj e) (H6 a)
 ·exact e
 ·exact absurd (h.get hj hi e) (H6 a)
def ddN(l:LL):Nat→LL
 |0=>[]
 |m+1=>ddN l m++if decide (m=0∨l[m]? ≠ l[m - 1]?)=true then l[m]?.toList else []
theorem ddN_spec{l:LL}(hs:l.Pairwise fun a b=>¬ llt b a):∀m,m≤l.length→Ord (ddN l m)∧∀x,x ∈ ddN l m↔x ∈ l.take m:=by
 intro m
 induction m with
 |zero=>intro _;simp[ddN]
 |succ m ih=>
  intro hm
  obtain⟨h1,h2⟩:=ih (by omega)
  have hlt:m<l.length:=by omega
  have ht:l.take (m+1)=l.take m++[l[m]]:=by rw[List.take_add_one];simp[hlt]
  rw[ddN,ht]
  by_cases hk:m=0∨l[m]? ≠ l[m - 1]?
  ·rw[if_pos (by simpa using hk)]
   simp only[List.getElem?_eq_getElem hlt,Option.toList_some]
   refine⟨List.pairwise_append.2 ⟨h1,by simp,fun a ha b hb=> ?_⟩,fun x=>by rw[List.mem_append,List.mem_append,h2]⟩
   simp only[List.mem_singleton] at hb
   subst hb
   have ha':=(h2 a).1 ha
   obtain⟨i,hi,rfl⟩:=List.mem_iff_getElem.1 ha'
   rw[List.length_take] at hi
   rw[List.getElem_take]
   rcases hk with hk|hk
   ·omega
   ·have hm1:m - 1<l.length:=by omega
    rw[List.getElem?_eq_getElem hlt,List.getElem?_eq_getElem hm1] at hk
    have e1:¬ llt l[m] l[m - 1]:=List.pairwise_iff_getElem.1 hs (m - 1) m hm1 hlt (by omega)
    have e2:llt l[m - 1] l[m]:=by
     rcases O0 l[m - 1] l[m] with h|h|h
     ·exact h
     ·exact absurd (by rw[h]) hk
     ·exact absurd h e1
    by_cases hi2:i=m - 1
    ·subst hi2;exact e2
    ·have e3:¬ llt l[m - 1] l[i]:=List.pairwise_iff_getElem.1 hs i (m - 1) (by omega) hm1 (by omega)
     rcases O0 l[i] l[m] with h|h|h
     ·exact h
     ·rw[h] at e3;exact absurd e2 e3
     ·exact absurd (G2 e2 h) e3
  ·rw[if_neg (by simpa using hk),List.append_nil]
   refine⟨h1,fun x=> ?_⟩
   rw[h2,List.mem_append]
   refine⟨.inl,fun h=> ?_⟩
   rcases h with h|h
   ·exact h
   ·simp only[List.mem_singleton] at h
    subst h
    have hm0:m ≠ 0:=fun e=>hk (.inl e)
    have he:l[m]? =l[m - 1]? :=Classical.not_not.1 fun e=>hk (.inr e)
    rw[List.getElem?_eq_getElem hlt,List.getElem?_eq_getElem (show m - 1<l.length by omega)] at he
    rw[Option.some.inj he,List.mem_take_iff_getElem]
    exact⟨m - 1,by omega,rfl⟩
theorem ddN_len(l:LL):∀m,(ddN l m).length≤m
 |0=>by simp[ddN]
 |m+1=>by
  have:=ddN_len l m
  rw[ddN,List.length_append]
  split
  ·have:(l[m]?.toList).length≤1:=by cases l[m]? <;>simp
   omega
  ·simp;omega
theorem ddN_all{l:LL}:∀m,m≤l.length→(∀i,0<i→i<m→l[i]? ≠ l[i - 1]?)→ddN l m=l.take m
 |0,_,_=>by simp[ddN]
 |m+1,hm,h=>by
  rw[ddN,ddN_all m (by omega) fun i h0 h1=>h i h0 (by omega),if_pos,List.take_add_one]
  rw[decide_eq_true_eq]
  by_cases e:m=0
  ·exact .inl e
  ·exact .inr (h m (by omega) (by omega))
theorem compactF_eq{l:LL}(hl:l.length≤1000000):x9 l=some (ddN l l.length):=by
 unfold x9
 by_cases c0:(l.length:Int)<2
 ·rw[if_pos c0,ddN_all l.length (Nat.le_refl _) fun i h0 h1=>by omega,List.take_length]
 ·rw[if_neg c0]
  have key:=rngN_inv (body:=s7 l) (fun j _=>∀i:Nat,0<i→(i:Int)<j→l[i]? ≠ l[i - 1]?) (fun o=>o=ddN l l.length) ((l.length:Int) - 1).toNat 1 () (fun i h0 h1=>by omega) (fun j _ j0 j1 hP=>by
   obtain⟨a,ha,ga⟩:=j7 (l:=l) (i:=j) (by omega) (by omega)
   obtain⟨b,hb,gb⟩:=j7 (l:=l) (i:=j - 1) (by omega) (by omega)
   unfold s7
   simp only[ha,hb,oB,equal_eq]
   have ej:(j - 1).toNat=j.toNat - 1:=by omega
   rw[ej] at gb
   by_cases c:a=b
   ·rw[ifP c]
    subst c
    right
    rw[show cutV (l.length:Int) j (l.length:Int)=some () by rw[cutV,if_pos (by omega)]]
    simp only[oB]
    obtain⟨⟨cs,kv⟩,r1,r2,r3,r4,r5,r6⟩:=at9 (body:=w9 l j) (fun k2 p=>p.1.length=l.length∧j≤p.2∧p.2≤j+k2 - 1∧p.1.take p.2.toNat=ddN l (j+k2).toNat∧∀i:Nat,j+k2 - 1≤i→p.1[i]? =l[i]?) ((l.length:Int) - j - 1).toNat 1 (l,j) ⟨rfl,by simp,by dsimp only;omega,by
      dsimp only
      rw[show(j+1).toNat=j.toNat+1 by omega,ddN,if_neg,List.append_nil,ddN_all j.toNat (by omega) fun i h0 h1=>hP i h0 (by omega)]
      rw[decide_eq_true_eq]
      rintro (h|h)
      ·omega
      ·exact h (ga.trans gb.symm),fun i _=>rfl⟩ (fun k2 ⟨cs,kv⟩ k0 k1 ⟨g1,g2,g3,g4,g5⟩=>by
      dsimp only at g1 g2 g3 g4 g5 ⊢
      obtain⟨x,hx,gx⟩:=j7 (l:=l) (i:=j+k2) (by omega) (by omega)
      obtain⟨y,hy,gy⟩:=j7 (l:=l) (i:=j+k2 - 1) (by omega) (by omega)
      have iv:∀i:Int,0≤i→i<(l.length:Int) - j→ixV cs (0+j) ((l.length:Int) - j) i=ix cs (j+i):=fun i h0 h1=>by
       rw[ixV,if_pos (by omega),Int.zero_add]
      have same:∀i:Int,j+k2 - 1≤i→ix cs i=ix l i:=fun i hi=>by
       have:=g5 i.toNat (by omega)
       simp only[ix]
       rw[this]
      unfold w9
      dsimp only
      rw[iv k2 (by omega) (by omega),iv (k2 - 1) (by omega) (by omega),show j+(k2 - 1)=j+k2 - 1 by omega,same _ (by omega),same _ (by omega),hx,hy]
      simp only[oB,equal_eq,y9]
      have ek:(j+(k2+1)).toNat=(j+k2).toNat+1:=by omega
      have ek1:(j+k2 - 1).toNat=(j+k2).toNat - 1:=by omega
      rw[ek1] at gy
      by_cases cx:x=y
      ·rw[ifNN cx]
       refine⟨_,rfl,g1,g2,by omega,?_,fun i hi=>g5 i (by omega)⟩
       dsimp only
       rw[ek,ddN,if_neg,List.append_nil]
       ·exact g4
       ·rw[decide_eq_true_eq]
        rintro (h|h)
        ·omega
        ·exact h (by rw[gx,gy,cx])
      ·rw[ifP cx]
       obtain⟨z,hz,gz⟩:=j7 (l:=cs) (i:=kv) (by omega) (by omega)
       simp only[hz,oB]
       rw[n8 (by omega) (by omega)]
       refine⟨_,rfl,by rw[lS];exact g1,by omega,by omega,?_,fun i hi=> ?_⟩
       ·dsimp only
        rw[ek,ddN,if_pos,gx,show(kv+1).toNat=kv.toNat+1 by omega,List.take_add_one,List.getElem?_set,if_pos rfl,if_pos (by omega),List.take_set_of_le (Nat.le_refl _),g4]
        rw[decide_eq_true_eq]
        exact .inr (by rw[gx,gy];simpa using cx)
       ·dsimp only
        rw[List.getElem?_set,if_neg (by omega)]
        exact g5 i (by omega))
    have ef:forR 1 ((l.length:Int) - j) (w9 l j) (l,j)=some (cs,kv):=r1
    dsimp only at r2 r3 r4 r5 r6
    rw[ef]
    simp only[oB]
    have hcl:(clrL cs (0+kv) ((cs.length:Int) - kv) []).length=cs.length:=by simp[clrL];omega
    rw[show cutV (cs.length:Int) kv (cs.length:Int)=some () by rw[cutV,if_pos (by omega)]]
    simp only[oB,hcl]
    rw[show cutV (cs.length:Int) 0 kv=some () by rw[cutV,if_pos (by omega)]]
    refine⟨_,rfl,?_⟩
    have e1:r8 (clrL cs (0+kv) ((cs.length:Int) - kv) []) 0 kv=cs.take kv.toNat:=by
     simp only[r8,clrL,Int.zero_add,Int.toNat_zero,List.drop_zero]
     rw[List.append_assoc,List.take_append_of_le_length (by simp;omega),List.take_take,Nat.min_self]
    rw[e1,r5]
    congr 1
    omega
   ·rw[ifN c]
    left
    refine⟨(),rfl,fun i h0 h1=> ?_⟩
    by_cases e:(i:Int)=j
    ·have:i=j.toNat:=by omega
     subst this
     rw[ga,gb]
     simpa using c
    ·exact hP i h0 (by omega))
  rcases key with⟨_,h1,h2⟩|⟨o,h1,rfl⟩
  ·have:rngX 1 (l.length:Int) (s7 l) ()=some (.inl ()):=h1
   rw[this]
   simp only[oB]
   rw[ddN_all l.length (Nat.le_refl _) fun i h0 h1=>h2 i h0 (by omega),List.take_length]
  ·have:rngX 1 (l.length:Int) (s7 l) ()=some (.inr (ddN l l.length)):=h1
   rw[this];rfl
theorem normal_eq{l:LL}(hl:l.length≤1000000):∃r,G0 l=some r∧Ord r∧(∀x,x ∈ r↔x ∈ l)∧r.length≤l.length:=by
 unfold G0
 rw[sortLL_ms (by omega)]
 simp only[oB]
 have hlen:(l.mergeSort fun x y=>decide (¬ cmpL y x<0)).length=l.length:=by simp
 rw[compactF_eq (by rw[hlen];exact hl)]
 have hs:(l.mergeSort fun x y=>decide (¬ cmpL y x<0)).Pairwise fun a b=>¬ llt b a:=by
  have:=List.pairwise_mergeSort (le:=fun x y:Li=>decide (¬ cmpL y x<0)) (fun a b c h1 h2=>by
   simp only[decide_eq_true_eq,I9] at h1 h2 ⊢
   intro h
   rcases O0 b a with g|g|g
   ·exact h1 g
   ·subst g;exact h2 h
   ·exact h2 (G2 h g)) (fun a b=>by
   simp only[Bool.or_eq_true,decide_eq_true_eq,I9]
   by_cases h:llt b a
   ·exact .inr fun g=>ap1 h g
   ·exact .inl h) l
  exact this.imp fun h=>by simpa[I9] using h
 obtain⟨h1,h2⟩:=ddN_spec hs _ (Nat.le_refl _)
 refine⟨_,rfl,h1,fun x=> ?_,?_⟩
 ·rw[h2,List.take_length];simp
 ·have:=ddN_len (l.mergeSort fun x y=>decide (¬ cmpL y x<0)) (l.mergeSort fun x y=>decide (¬ cmpL y x<0)).length
  rw[hlen] at this
  rw[hlen];exact this
end Ab
end
section
namespace Ab
open Go
theorem forR_from{S:Type}{body:Int→S→Option S}{lo n:Int}(P:Int→S→Prop){s:S}(hn:lo≤n)(h0:P lo s)
  (hb:∀j s,lo≤j→j<n→P j s→∃s',body j s=some s'∧P (j+1) s'):∃s',forR lo n body s=some s'∧P n s':=by
 obtain⟨s',h1,h2⟩:=at9 P (n - lo).toNat lo s h0 (fun j s g1 g2=>hb j s g1 (by omega))
 exact⟨s',h1,by rwa [show lo+((n - lo).toNat:Int)=n by omega] at h2⟩
theorem forN_congr{S:Type}{b1 b2:Int→S→Option S}:∀(k:Nat) (i:Int) (s:S),(∀j s,i≤j→j<i+k→b1 j s=b2 j s)→forN b1 k i s=forN b2 k i s
 |0,_,_,_=>rfl
 |k+1,i,s,h=>by
  simp only[forN]
  rw[h i s (by omega) (by omega)]
  cases b2 i s with
  |none=>rfl
  |some s'=>exact forN_congr k (i+1) s' fun j s g1 g2=>h j s (by omega) (by omega)
theorem forR_congr{S:Type}{b1 b2:Int→S→Option S}{lo n:Int}{s:S}(h:∀j s,lo≤j→j<n→b1 j s=b2 j s):forR lo n b1 s=forR lo n b2 s:=
 forN_congr _ _ _ fun j s g1 g2=>h j s g1 (by omega)
/-! ### Binary search by a key -/
def bsl{A B:Type}(xv:List A)(target:B)(cmp:A→B→Option Int):(Int×Int)→Option ((Int×Int)⊕Int):=fun(iv4,j5)=>if iv4<j5 then Option.bind (ix xv (w64 (shrW .u64 ((IntKind.u64).wrap (w64 (iv4+j5))) 1))) fun a27=>Option.bind (cmp a27 target) fun a30=>if a30<0 then some (.inl (w64 ((w64 (shrW .u64 ((IntKind.u64).wrap (w64 (iv4+j5))) 1))+1),j5)) else some (.inl (iv4,w64 (shrW .u64 ((IntKind.u64).wrap (w64 (iv4+j5))) 1))) else some (.inr iv4)
noncomputable def bsf{A B:Type}(xv:List A)(target:B)(cmp:A→B→Option Int):Option (Int×Bool):=Option.bind (Loop (bsl xv target cmp) (0,(xv.length:Int))) fun iv6=>Option.bind (if iv6<(xv.length:Int) then Option.bind (ix xv iv6) fun a43=>Option.bind (cmp a43 target) fun a46=>some (decide (a46=0)) else some false) fun t9=>some (iv6,t9)
theorem ak9{A:Type}{key:A→Li}{xs:List A}(h:Ord (xs.map key)){i j:Int}{a b:A}(hi:ix xs i=some a)(hj:ix xs j=some b)(hij:i<j):llt (key a) (key b):=by
 obtain⟨i0,i1,hi⟩:=r7 hi
 obtain⟨j0,j1,hj⟩:=r7 hj
 refine h.get (i:=i) (j:=j) ?_ ?_ hij
 ·rw[ix,if_pos i0,lM,hi];rfl
 ·rw[ix,if_pos j0,lM,hj];rfl
theorem bsf_full{A:Type}{key:A→Li}{xs:List A}{t:Li}{cmp:A→Li→Option Int}(hs:Ord (xs.map key))(hl:xs.length≤500000)(hc:∀a,cmp a t=some (cmpL (key a) t)):
  ∃i,bsf xs t cmp=some (i,dec (∃a ∈ xs,key a=t))∧0≤i∧(∀k a,ix xs k=some a→key a=t→k=i)∧i≤xs.length∧(∀k a,0≤k→k<i→ix xs k=some a→llt (key a) t)∧(∀k a,i≤k→ix xs k=some a→¬ llt (key a) t):=by
 unfold bsf
 obtain⟨i,h1,h2,h3,h4,h5⟩:=F4 (body:=bsl xs t cmp) (fun p=>(0≤p.1∧p.1≤p.2∧p.2≤xs.length)∧(∀k a,0≤k→k<p.1→ix xs k=some a→llt (key a) t)∧(∀k a,p.2≤k→ix xs k=some a→¬ llt (key a) t))
  (fun i=>0≤i∧i≤xs.length∧(∀k a,0≤k→k<i→ix xs k=some a→llt (key a) t)∧(∀k a,i≤k→ix xs k=some a→¬ llt (key a) t)) (fun p=>(p.2 - p.1).toNat) (s:=(0,(xs.length:Int)))
  ⟨⟨by simp,by simp,by simp⟩,fun k a h1 h2=>by simp at h2;omega,fun k a h1 h2=>by have:=(r7 h2).2.1;simp at h1;omega⟩ (fun⟨i,j⟩ ⟨⟨g1,g2,g3⟩,g4,g5⟩=>by
  dsimp only at g1 g2 g3 g4 g5 ⊢
  unfold bsl
  dsimp only
  by_cases c:i<j
  ·rw[if_pos c,half_eq g1 g2 (by omega)]
   obtain⟨a,ha,ga⟩:=j7 (l:=xs) (i:=(i+j) / 2) (by omega) (by omega)
   rw[ha]
   simp only[oB,hc,I9]
   by_cases c2:llt (key a) t
   ·rw[if_pos (I9.2 c2),n8 (by omega) (by omega)]
    refine .inl ⟨_,rfl,⟨⟨by dsimp only;omega,by dsimp only;omega,g3⟩,fun k b k0 k1 hb=> ?_,g5⟩,by dsimp only;omega⟩
    dsimp only at k1
    by_cases e:k=(i+j) / 2
    ·subst e;rw[ha] at hb;cases hb;exact c2
    ·exact G2 (ak9 hs hb ha (by omega)) c2
   ·rw[if_neg (fun h=>c2 (I9.1 h))]
    refine .inl ⟨_,rfl,⟨⟨g1,by dsimp only;omega,by dsimp only;omega⟩,g4,fun k b k0 hb=> ?_⟩,by dsimp only;omega⟩
    dsimp only at k0
    by_cases e:k=(i+j) / 2
    ·subst e;rw[ha] at hb;cases hb;exact c2
    ·exact fun h=>c2 (G2 (ak9 hs ha hb (by omega)) h)
  ·rw[if_neg c]
   have:i=j:=by omega
   subst this
   exact .inr ⟨i,rfl,g1,g3,g4,g5⟩)
 rw[h1]
 simp only[oB]
 have uniq:∀k a,ix xs k=some a→key a=t→k=i:=fun k a hk he=>by
  rcases Int.lt_trichotomy k i with c|c|c
  ·have:=h4 k a (r7 hk).1 c hk;rw[he] at this;exact absurd this (H6 t)
  ·exact c
  ·obtain⟨b,hb,gb⟩:=j7 (l:=xs) (i:=i) h2 (by have:=(r7 hk).2.1;omega)
   have:=ak9 hs hb hk c
   rw[he] at this
   exact absurd this (h5 i b (Int.le_refl _) hb)
 refine⟨i,?_,h2,uniq,h3,h4,h5⟩
 by_cases c:i<xs.length
 ·obtain⟨a,ha,ga⟩:=j7 (l:=xs) (i:=i) (by omega) c
  rw[if_pos c,ha]
  simp only[oB,hc]
  by_cases c2:key a=t
  ·rw[decide_eq_true (cmpL_eq.2 c2),l8 ⟨a,m5 ha,c2⟩]
  ·rw[decide_eq_false (fun h=>c2 (cmpL_eq.1 h)),q6]
   rintro ⟨b,hb,e⟩
   obtain⟨k,k0,k1,hk⟩:=s9 hb
   have:=uniq k b hk e
   subst this
   rw[hk] at ha;cases ha;exact c2 e
 ·rw[if_neg c]
  simp only[oB]
  rw[q6]
  rintro ⟨b,hb,e⟩
  obtain⟨k,k0,k1,hk⟩:=s9 hb
  have:=uniq k b hk e
  omega
theorem bsf_eq{A:Type}{key:A→Li}{xs:List A}{t:Li}{cmp:A→Li→Option Int}(hs:Ord (xs.map key))(hl:xs.length≤500000)(hc:∀a,cmp a t=some (cmpL (key a) t)):
  ∃i,bsf xs t cmp=some (i,dec (∃a ∈ xs,key a=t))∧0≤i∧∀k a,ix xs k=some a→key a=t→k=i:=by
 obtain⟨i,h1,h2,h3,_⟩:=bsf_full hs hl hc
 exact⟨i,h1,h2,h3⟩
theorem au4{xs:LL}{t:Li}(hs:Ord xs)(hl:xs.length≤500000):∃i,l9 xs t slices_Compare_int_int=some (i,dec (t ∈ xs))∧0≤i∧∀k,ix xs k=some t→k=i:=by
 obtain⟨i,h1,h2,h3⟩:=bsf_eq (key:=fun a=>a) (xs:=xs) (t:=t) (cmp:=slices_Compare_int_int) (by simpa using hs) hl (fun a=>al1 a t)
 refine⟨i,?_,h2,fun k hk=>h3 k t hk rfl⟩
 have:l9 xs t slices_Compare_int_int=bsf xs t slices_Compare_int_int:=rfl
 rw[this,h1]
 simp
/-! ### The order that the specification tells -/
theorem before_eq{a b:Li}(ha:a.length≤1000000):P6 a b=some (dec (llt a b)):=by
 unfold P6
 obtain⟨o,h1,h2⟩:=F4 (body:=aa0 a b) (fun k=>0≤k∧k≤a.length∧k≤b.length∧a.take k.toNat=b.take k.toNat) (fun o=>(match o with| .inl _=>some (decide ((a.length:Int)<(b.length:Int)))| .inr x=>some x)=some (dec (llt a b))) (fun k=>(a.length - k).toNat) (s:=0) ⟨by omega,by omega,by omega,by simp⟩ (fun k ⟨g0,g1,g2,g3⟩=>by
  have hd:=au3 (a:=a) (b:=b) k.toNat (by omega) (by omega) g3
  unfold aa0
  by_cases c:k<a.length∧k<b.length
  ·rw[if_pos (by simpa using c)]
   obtain⟨x,hx,gx⟩:=j7 (l:=a) g0 c.1
   obtain⟨y,hy,gy⟩:=j7 (l:=b) g0 c.2
   have da:a.drop k.toNat=x::a.drop (k.toNat+1):=by
    obtain⟨hlt,rfl⟩:=lG.1 gx
    exact List.drop_eq_getElem_cons hlt
   have db:b.drop k.toNat=y::b.drop (k.toNat+1):=by
    obtain⟨hlt,rfl⟩:=lG.1 gy
    exact List.drop_eq_getElem_cons hlt
   rw[da,db] at hd
   simp only[hx,hy,oB]
   by_cases e:x=y
   ·subst e
    rw[if_pos rfl,n8 (by omega) (by omega)]
    refine .inl ⟨k+1,rfl,⟨by omega,by omega,by omega,?_⟩,by omega⟩
    rw[show(k+1).toNat=k.toNat+1 by omega,List.take_add_one,List.take_add_one,gx,gy,g3]
   ·rw[if_neg e]
    refine .inr ⟨_,rfl,?_⟩
    dsimp only
    rw[ag0]
    refine congrArg some (K4 ?_)
    rw[hd]
    exact⟨fun h=>.inl h,fun h=>h.resolve_right fun g=>e g.1⟩
  ·rw[if_neg (by simpa using c)]
   refine .inr ⟨_,rfl,?_⟩
   dsimp only
   rw[ag0]
   refine congrArg some (K4 ?_)
   rw[hd]
   by_cases ca:k<a.length
   ·have db:b.drop k.toNat=[]:=List.drop_of_length_le (by omega)
    rw[db]
    constructor
    ·intro h;omega
    ·intro h;cases h':a.drop k.toNat with
     |nil=>rw[h'] at h;exact h.elim
     |cons z l=>rw[h'] at h;exact h.elim
   ·have da:a.drop k.toNat=[]:=List.drop_of_length_le (by omega)
    rw[da]
    constructor
    ·intro h
     cases h':b.drop k.toNat with
     |nil=>have:=List.drop_eq_nil_iff.1 h';omega
     |cons z l=>trivial
    ·intro h
     cases h':b.drop k.toNat with
     |nil=>rw[h'] at h;exact h.elim
     |cons z l=>
      have:¬ b.length≤k.toNat:=fun g=>by rw[List.drop_of_length_le g] at h';cases h'
      omega)
 rw[h1]
 simp only[oB]
 exact h2
theorem ord_append{l m:LL}(hl:Ord l)(hm:Ord m)(h:∀a ∈ l,∀b ∈ m,llt a b):Ord (l++m):=List.pairwise_append.2 ⟨hl,hm,h⟩
theorem insert_eq{l:LL}(h:Ord l)(hl:l.length≤1000000)(hw:∀x ∈ l,x.length≤1000000)(s:Li):∃r,U3 l s=some r∧Ord r∧(∀x,x ∈ r↔x=s∨x ∈ l)∧r.length≤l.length+1:=by
 unfold U3
 obtain⟨k,h1,k0,k1,k2,k3⟩:=F4 (body:=Y4 l s) (fun k=>0≤k∧k≤l.length∧∀i a,i<k→ix l i=some a→llt a s) (fun k=>0≤k∧k≤l.length∧(∀i a,i<k→ix l i=some a→llt a s)∧∀a,ix l k=some a→¬ llt a s) (fun k=>(l.length - k).toNat) (s:=0) ⟨by omega,by omega,fun i a hi ha=>by have:=(r7 ha).1;omega⟩ (fun k ⟨g0,g1,g2⟩=>by
  unfold Y4
  by_cases c:k<l.length
  ·obtain⟨a,ha,ga⟩:=j7 (l:=l) g0 c
   rw[if_pos c,ha]
   simp only[oB,before_eq (hw a (m5 ha))]
   by_cases c2:llt a s
   ·rw[ifP c2,n8 (by omega) (by omega)]
    refine .inl ⟨_,rfl,⟨by omega,by omega,fun i b hi hb=> ?_⟩,by omega⟩
    by_cases e:i=k
    ·subst e;rw[ha] at hb;cases hb;exact c2
    ·exact g2 i b (by omega) hb
   ·rw[ifN c2]
    exact .inr ⟨k,rfl,g0,g1,g2,fun b hb=>by rw[ha] at hb;cases hb;exact c2⟩
  ·rw[if_neg c]
   exact .inr ⟨k,rfl,g0,g1,g2,fun b hb=>by have:=(r7 hb).2.1;omega⟩)
 rw[h1]
 simp only[oB]
 have step:(Option.bind (if k<(l.length:Int) then Option.bind (ix l k) fun a27=>Option.bind (K5 a27 s) fun a30=>some a30 else some false) fun t9=>if t9=true then some l else Option.bind (subL l 0 k) fun a36=>Option.bind (app 24 ([]:LL) a36) fun a37=>Option.bind (app 24 a37 [s]) fun a40=>Option.bind (subL l k (l.length:Int)) fun a43=>Option.bind (app 24 a40 a43) fun a44=>some a44)=if dec (ix l k=some s)=true then some l else some (l.take k.toNat++[s]++l.drop k.toNat):=by
  have e:(if k<(l.length:Int) then Option.bind (ix l k) fun a27=>Option.bind (K5 a27 s) fun a30=>some a30 else some false)=some (dec (ix l k=some s)):=by
   by_cases c:k<l.length
   ·obtain⟨a,ha,ga⟩:=j7 (l:=l) k0 c
    rw[if_pos c,ha]
    simp only[oB,ints_eq]
    exact congrArg some (K4 (by simp))
   ·rw[if_neg c,q6]
    intro h;have:=(r7 h).2.1;omega
  rw[e]
  simp only[oB]
  by_cases c:ix l k=some s
  ·rw[ifP c,ifP c]
  ·rw[ifN c,ifN c,subL_take k0 (by omega),subL_drop k0 (by omega)]
   simp only[oB]
   rw[app,if_pos (by simp;omega)]
   simp only[oB,List.nil_append]
   rw[app,if_pos (by simp;omega)]
   simp only[oB]
   rw[app,if_pos (by simp;omega)]
   rfl
 rw[step]
 by_cases c:ix l k=some s
 ·rw[ifP c]
  exact⟨l,rfl,h,fun x=>⟨.inr,fun g=>g.elim (fun e=>e ▸ m5 c) id⟩,by omega⟩
 ·rw[ifN c]
  refine⟨_,rfl,?_,fun x=> ?_,by simp;omega⟩
  ·have ht:Ord (l.take k.toNat):=h.sublist (List.take_sublist _ _)
   have hd:Ord (l.drop k.toNat):=h.sublist (List.drop_sublist _ _)
   have b1:∀a ∈ l.take k.toNat,llt a s:=fun a ha=>by
    obtain⟨i,hi,e⟩:=List.mem_take_iff_getElem.1 ha
    exact k2 (i:Int) a (by omega) (by rw[o8,← e];exact List.getElem?_eq_getElem _)
   have b2:∀a ∈ l.drop k.toNat,llt s a:=fun a ha=>by
    obtain⟨i,hi,e⟩:=List.mem_drop_iff_getElem.1 ha
    have hlk:k<l.length:=by omega
    obtain⟨z,hz,gz⟩:=j7 (l:=l) k0 hlk
    have nz:=k3 z hz
    have nz2:llt s z:=by
     rcases O0 z s with g|g|g
     ·exact absurd g nz
     ·exact absurd (g ▸ hz) c
     ·exact g
    by_cases i0:i=0
    ·subst i0
     obtain⟨q1,q2⟩:=lG.1 gz
     have:a=z:=by rw[← e,← q2];simp
     rw[this];exact nz2
    ·refine G2 nz2 (h.get hz (j:=k+i) ?_ (by omega))
     rw[show k+(i:Int)=((k.toNat+i:Nat):Int) by omega,o8,← e]
     exact List.getElem?_eq_getElem _
   refine ord_append (ord_append ht (by simp) fun a ha b hb=> ?_) hd fun a ha b hb=> ?_
   ·simp only[List.mem_singleton] at hb;subst hb;exact b1 a ha
   ·rcases List.mem_append.1 ha with ha|ha
    ·exact G2 (b1 a ha) (b2 b hb)
    ·simp only[List.mem_singleton] at ha;subst ha;exact b2 b hb
  ·rw[List.mem_append,List.mem_append,List.mem_singleton]
   have:=List.take_append_drop k.toNat l
   constructor
   ·rintro ((g|g)|g)
    ·exact .inr (List.mem_of_mem_take g)
    ·exact .inl g
    ·exact .inr (List.mem_of_mem_drop g)
   ·rintro (g|g)
    ·exact .inl (.inr g)
    ·rw[← this] at g
     rcases List.mem_append.1 g with g|g
     ·exact .inl (.inl g)
     ·exact .inr g
end Ab
end
section
namespace Ab
open Go
def V0(x:j6)(n:Int):Prop:=SetN x.add n∧SetN x.del n∧∀a ∈ x.add,a ∉ x.del
def xWt(x:j6):Prop:=1≤x.weight∧x.weight≤6
noncomputable def V3(n:Int)(x:j6):Int:=if dec (V0 x n)=true then if dec (xWt x)=true then 0 else 3 else 5
noncomputable def J5(n:Int):List j6→Int
 |[]=>0
 |x::l=>if V3 n x=0 then J5 n l else V3 n x
theorem xCode_zero{n:Int}{x:j6}:V3 n x=0↔V0 x n∧xWt x:=by
 unfold V3
 by_cases c1:V0 x n
 ·rw[ifP c1]
  by_cases c2:xWt x
  ·rw[ifP c2];exact⟨fun _=>⟨c1,c2⟩,fun _=>rfl⟩
  ·rw[ifN c2];exact⟨fun h=>by omega,fun h=>absurd h.2 c2⟩
 ·rw[ifN c1];exact⟨fun h=>by omega,fun h=>absurd h.1 c1⟩
theorem aq6{n:Int}:∀{l:List j6},J5 n l=0↔∀x ∈ l,V0 x n∧xWt x
 |[]=>by simp[J5]
 |x::l=>by
  rw[J5]
  by_cases c:V3 n x=0
  ·rw[if_pos c,aq6];simp[xCode_zero.1 c]
  ·rw[if_neg c]
   exact⟨fun h=>absurd h c,fun h=>absurd (xCode_zero.2 (h x (by simp))) c⟩
structure OOk(o:g9)(n:Int):Prop where
 pre:SetN o.pre n
 c0:0≤o.cost
 c1:o.cost≤100
 l0:1≤o.outcomes.length
 l1:o.outcomes.length≤4
 xs:∀x ∈ o.outcomes,V0 x n∧xWt x
noncomputable def Y9(o:g9)(n:Int):Int:=if dec (SetN o.pre n)=true then if dec (0≤o.cost∧o.cost≤100)=true then if dec (1≤(o.outcomes.length:Int)∧(o.outcomes.length:Int)≤4)=true then 0 else 9 else 3 else 5
noncomputable def S1(o:g9)(n:Int):Int:=if Y9 o n=0 then J5 n o.outcomes else Y9 o n
theorem at3{o:g9}{n:Int}:Y9 o n=0↔SetN o.pre n∧(0≤o.cost∧o.cost≤100)∧(1≤(o.outcomes.length:Int)∧(o.outcomes.length:Int)≤4):=by
 unfold Y9
 by_cases c1:SetN o.pre n
 ·rw[ifP c1]
  by_cases c2:0≤o.cost∧o.cost≤100
  ·rw[ifP c2]
   by_cases c3:1≤(o.outcomes.length:Int)∧(o.outcomes.length:Int)≤4
   ·rw[ifP c3];exact⟨fun _=>⟨c1,c2,c3⟩,fun _=>rfl⟩
   ·rw[ifN c3];exact⟨fun h=>by omega,fun h=>absurd h.2.2 c3⟩
  ·rw[ifN c2];exact⟨fun h=>by omega,fun h=>absurd h.2.1 c2⟩
 ·rw[ifN c1];exact⟨fun h=>by omega,fun h=>absurd h.1 c1⟩
theorem oCode_of{o:g9}{n:Int}(h:OOk o n):S1 o n=0:=by
 have:=h.l0;have:=h.l1
 rw[S1,if_pos (at3.2 ⟨h.pre,⟨h.c0,h.c1⟩,by omega,by omega⟩),aq6]
 exact h.xs
theorem oCode_ok{o:g9}{n:Int}(h:S1 o n=0):OOk o n:=by
 unfold S1 at h
 by_cases c:Y9 o n=0
 ·rw[if_pos c] at h
  obtain⟨g1,g2,g3⟩:=at3.1 c
  exact⟨g1,g2.1,g2.2,by omega,by omega,aq6.1 h⟩
 ·rw[if_neg c] at h;exact absurd h c
theorem oc1{o:g9}{n:Int}(h0:0≤n)(h1:n≤24){j:Int}{x:j6}(hx:ix o.outcomes j=some x):F7 o n j ()=some (if V3 n x=0 then .inl () else .inr (V3 n x)):=by
 unfold F7
 rw[hx]
 simp only[oB,au8,y9]
 by_cases g1:SetN x.add n
 ·rw[ifNN g1]
  by_cases g2:SetN x.del n
  ·have:=g2.len
   rw[ifNN g2,meets_eq g2.1 (by omega)]
   simp only[oB]
   by_cases g3:∀a ∈ x.add,a ∉ x.del
   ·have g:V0 x n:=⟨g1,g2,g3⟩
    rw[ifN (fun⟨a,ha,hb⟩=>g3 a ha hb)]
    unfold V3
    rw[ifP g]
    by_cases g4:xWt x
    ·have g5:=g4
     unfold xWt at g5
     rw[ifP g4,if_neg (by simp;omega)];rfl
    ·have g5:=g4
     unfold xWt at g5
     rw[ifN g4,if_pos (by simp;omega)];rfl
   ·have g:¬ V0 x n:=fun h=>g3 h.2.2
    rw[ifP (by
     rw[Classical.not_forall] at g3
     obtain⟨a,ha⟩:=g3
     exact⟨a,Classical.not_imp.1 ha|>.1,Classical.not_not.1 (Classical.not_imp.1 ha).2⟩)]
    unfold V3
    rw[ifN g];rfl
  ·have g:¬ V0 x n:=fun h=>g2 h.2.1
   rw[ifP g2]
   unfold V3
   rw[ifN g];rfl
 ·have g:¬ V0 x n:=fun h=>g1 h.1
  rw[ifP g1]
  unfold V3
  rw[ifN g];rfl
theorem operatorCode_eq{o:g9}{n:Int}(h0:0≤n)(h1:n≤24):J6 o n=some (S1 o n):=by
 unfold J6
 simp only[au8,oB,y9]
 unfold S1 Y9
 by_cases c1:SetN o.pre n
 ·rw[ifNN c1,ifP c1]
  by_cases c2:0≤o.cost∧o.cost≤100
  ·rw[if_neg (show ¬ ((decide (o.cost<0))||(decide (100<o.cost)))=true by rw[Bool.or_eq_true,decide_eq_true_eq,decide_eq_true_eq];omega),ifP c2]
   by_cases c3:1≤(o.outcomes.length:Int)∧(o.outcomes.length:Int)≤4
   ·rw[if_neg (show ¬ ((decide ((o.outcomes.length:Int)=0))||(decide (4<(o.outcomes.length:Int))))=true by rw[Bool.or_eq_true,decide_eq_true_eq,decide_eq_true_eq];omega),ifP c3,if_pos rfl]
    rcases ai0 (body:=F7 o n) (n:=(o.outcomes.length:Int)) (fun j _=>J5 n o.outcomes=J5 n (o.outcomes.drop j.toNat)) (fun c=>c=J5 n o.outcomes) (s:=()) (by omega) (by simp) (fun j _ j0 j1 hP=>by
     obtain⟨x,hx,gx⟩:=j7 (l:=o.outcomes) j0 j1
     have hd:o.outcomes.drop j.toNat=x::o.outcomes.drop (j.toNat+1):=by
      obtain⟨hlt,rfl⟩:=lG.1 gx
      exact List.drop_eq_getElem_cons hlt
     rw[oc1 h0 h1 hx]
     rw[hd,J5] at hP
     by_cases e:V3 n x=0
     ·rw[if_pos e] at hP ⊢
      exact .inl ⟨(),rfl,by rw[hP,show(j+1).toNat=j.toNat+1 by omega]⟩
     ·rw[if_neg e] at hP ⊢
      exact .inr ⟨_,rfl,hP.symm⟩) with⟨_,r1,r2⟩|⟨c,r1,rfl⟩
    ·rw[r1,r2];simp[J5]
    ·rw[r1];rfl
   ·rw[if_pos (show((decide ((o.outcomes.length:Int)=0))||(decide (4<(o.outcomes.length:Int))))=true by rw[Bool.or_eq_true,decide_eq_true_eq,decide_eq_true_eq];omega),ifN c3];rfl
  ·rw[if_pos (show((decide (o.cost<0))||(decide (100<o.cost)))=true by rw[Bool.or_eq_true,decide_eq_true_eq,decide_eq_true_eq];omega),ifN c2];rfl
 ·rw[ifP c1,ifN c1];rfl
theorem of2{t:d5}{o:g9}(h0:0≤t.facts)(h1:t.facts≤24)(hl:o.outcomes.length≤1000000)(c:Int):Loop (A6 t o) (c,0)=some (if c=0 then J5 t.facts o.outcomes else c):=by
 obtain⟨r,r1,r2⟩:=F4 (body:=A6 t o) (fun p=>0≤p.2∧p.2≤o.outcomes.length∧(if c=0 then J5 t.facts o.outcomes else c)=if p.1=0 then J5 t.facts (o.outcomes.drop p.2.toNat) else p.1) (fun r=>r=if c=0 then J5 t.facts o.outcomes else c) (fun p=>(o.outcomes.length - p.2).toNat) (s:=(c,0)) ⟨by simp,by simp,by simp⟩ (fun⟨e,j⟩ ⟨g0,g1,g2⟩=>by
  dsimp only at g0 g1 g2 ⊢
  unfold A6
  dsimp only
  by_cases cj:j<o.outcomes.length∧e=0
  ·rw[if_pos (by simpa using cj)]
   obtain⟨x,hx,gx⟩:=j7 (l:=o.outcomes) g0 cj.1
   have hd:o.outcomes.drop j.toNat=x::o.outcomes.drop (j.toNat+1):=by
    obtain⟨hlt,rfl⟩:=lG.1 gx
    exact List.drop_eq_getElem_cons hlt
   rw[cj.2,if_pos rfl,hd,J5] at g2
   rw[hx]
   simp only[oB,ap5 (n:=t.facts) _ (show -9223372036854775808<t.facts by omega) (show t.facts≤9223372036854775807 by omega),disjoint_eq,in_eq,y9,cj.2]
   have hp:(if dec (¬ SetN x.add t.facts)=true then some true else if dec (¬ SetN x.del t.facts)=true then some true else some (dec (¬ ∀a ∈ x.add,a ∉ x.del)))=some (dec (¬ V0 x t.facts)):=by
    unfold V0
    by_cases k1:SetN x.add t.facts
    ·rw[ifNN k1]
     by_cases k2:SetN x.del t.facts
     ·rw[ifNN k2]
      exact congrArg some (K4 ⟨fun h k=>h k.2.2,fun h k=>h ⟨k1,k2,k⟩⟩)
     ·rw[ifP k2,l8 (fun k=>k2 k.2.1)]
    ·rw[ifP k1,l8 (fun k=>k1 k.1)]
   rw[hp]
   simp only[oB]
   rw[n8 (by omega) (by omega)]
   have fin:(if dec (¬ V0 x t.facts)=true then some (5:Int) else if dec (¬ (1≤x.weight∧x.weight≤6))=true then some 3 else some 0)=some (V3 t.facts x):=by
    unfold V3
    by_cases k1:V0 x t.facts
    ·rw[ifNN k1,ifP k1]
     by_cases k2:xWt x
     ·rw[ifNN (p:=1≤x.weight∧x.weight≤6) k2,ifP k2]
     ·rw[ifP (p:=¬ (1≤x.weight∧x.weight≤6)) k2,ifN k2]
    ·rw[ifP k1,ifN k1]
   rw[fin]
   simp only[oB]
   refine .inl ⟨_,rfl,⟨by dsimp only;omega,by dsimp only;omega,?_⟩,by dsimp only;omega⟩
   dsimp only
   rw[g2,show(j+1).toNat=j.toNat+1 by omega]
  ·rw[if_neg (by simpa using cj)]
   refine .inr ⟨e,rfl,?_⟩
   rw[g2]
   by_cases ce:e=0
   ·rw[if_pos ce,List.drop_of_length_le (by omega),J5,ce]
   ·rw[if_neg ce])
 rw[r1,r2]
structure k8(t:d5):Prop where
 n0:0≤t.facts
 n1:t.facts≤24
 init:SetN t.init t.facts
 goal:SetN t.goal t.facts
 ops:t.operators.length≤40
 op:∀o ∈ t.operators,OOk o t.facts
theorem oValidate_eq(t:d5):∃f,N3 t=some f∧Q8 t=some f∧((f=⟨0,0⟩∧k8 t)∨(f.code ≠ 0∧¬ k8 t)):=by
 unfold N3 Q8
 simp only[in_eq,at_eq,oB,y9]
 by_cases c1:0≤t.facts∧t.facts≤24
 ·rw[if_neg (by simp;omega),ifNN c1]
  simp only[au8,ap5 (n:=t.facts) _ (show -9223372036854775808<t.facts by omega) (show t.facts≤9223372036854775807 by omega),oB,y9]
  by_cases c2:SetN t.init t.facts
  ·rw[ifNN c2,ifNN c2]
   by_cases c3:SetN t.goal t.facts
   ·rw[ifNN c3,ifNN c3]
    by_cases c4:40<(t.operators.length:Int)
    ·rw[if_pos c4,if_pos c4]
     exact⟨_,rfl,rfl,.inr ⟨by simp,fun h=>by have:=h.ops;omega⟩⟩
    ·rw[if_neg c4,if_neg c4]
     have hb:∀j:Int,0≤j→j<t.operators.length→∃o,ix t.operators j=some o∧M0 t j ()=some (if S1 o t.facts=0 then .inl () else .inr ⟨S1 o t.facts,j⟩)∧G1 t j ()=some (if S1 o t.facts=0 then .inl () else .inr ⟨S1 o t.facts,j⟩):=fun j h0 h1=>by
      obtain⟨o,ho,_⟩:=j7 (l:=t.operators) h0 h1
      refine⟨o,ho,?_,?_⟩
      ·unfold M0
       rw[ho]
       simp only[oB,operatorCode_eq c1.1 c1.2]
       by_cases e:S1 o t.facts=0
       ·rw[if_pos e,if_pos e]
       ·rw[if_neg e,if_neg e]
      ·unfold G1
       rw[ho]
       simp only[oB,ap5 (n:=t.facts) _ (show -9223372036854775808<t.facts by omega) (show t.facts≤9223372036854775807 by omega),in_eq,at_eq,y9]
       have hp:(if dec (¬ SetN o.pre t.facts)=true then some (5:Int) else if dec (¬ (0≤o.cost∧o.cost≤100))=true then some 3 else if dec (¬ (1≤(o.outcomes.length:Int)∧(o.outcomes.length:Int)≤4))=true then some 9 else some 0)=some (Y9 o t.facts):=by
        unfold Y9
        by_cases g1:SetN o.pre t.facts
        ·rw[ifNN g1,ifP g1]
         by_cases g2:0≤o.cost∧o.cost≤100
         ·rw[ifNN g2,ifP g2]
          by_cases g3:1≤(o.outcomes.length:Int)∧(o.outcomes.length:Int)≤4
          ·rw[ifNN g3,ifP g3]
          ·rw[ifP g3,ifN g3]
         ·rw[ifP g2,ifN g2]
        ·rw[ifP g1,ifN g1]
       rw[hp]
       simp only[oB]
       by_cases eh:Y9 o t.facts=0
       ·have:=at3.1 eh
        rw[of2 c1.1 c1.2 (by omega),if_pos eh]
        simp only[oB,S1,eh,if_true]
        split<;>rfl
       ·have nl:Loop (A6 t o) (Y9 o t.facts,0)=some (Y9 o t.facts):=by
         rw[Loop_eq]
         have:A6 t o (Y9 o t.facts,0)=some (.inr (Y9 o t.facts)):=by
          unfold A6
          dsimp only
          rw[if_neg (by simp[eh])]
         rw[this]
        rw[nl]
        simp only[oB,S1,if_neg eh]
     have heq:rngX 0 (t.operators.length:Int) (M0 t) ()=rngX 0 (t.operators.length:Int) (G1 t) ():=
      (rngX_eq (fun _ _=>True) (by omega) trivial (fun j s h0 h1 _=>by
       obtain⟨o,_,e1,e2⟩:=hb j h0 h1
       exact⟨by rw[e1,e2],by rw[e1];simp,fun _ _=>Y⟩)).1
     rcases B7 (body:=G1 t) (n:=(t.operators.length:Int)) (fun j=>match ix t.operators j with|some o=>if S1 o t.facts=0 then none else some (⟨S1 o t.facts,j⟩:j8)|none=>none) (by omega) (fun j h0 h1 _=>by
      obtain⟨o,e0,_,e2⟩:=hb j h0 h1
      rw[e2,e0]
      dsimp only
      split<;>rfl) with⟨h1,h2⟩|⟨j,f,h0,h1,h2,_,h4⟩
     ·rw[heq,h1]
      refine⟨⟨0,0⟩,rfl,rfl,.inl ⟨rfl,c1.1,c1.2,c2,c3,by omega,fun o ho=> ?_⟩⟩
      obtain⟨j,g0,g1,g2⟩:=s9 ho
      have:=h2 j g0 g1
      rw[g2] at this
      dsimp only at this
      split at this
      ·rename_i e;exact oCode_ok e
      ·cases this
     ·rw[heq,h4]
      obtain⟨o,e0,_,_⟩:=hb j h0 h1
      rw[e0] at h2
      dsimp only at h2
      split at h2
      ·cases h2
      ·rename_i e
       cases h2
       exact⟨_,rfl,rfl,.inr ⟨e,fun h=>e (oCode_of (h.op o (m5 e0)))⟩⟩
   ·rw[ifP c3,ifP c3]
    exact⟨_,rfl,rfl,.inr ⟨by simp,fun h=>c3 h.goal⟩⟩
  ·rw[ifP c2,ifP c2]
   exact⟨_,rfl,rfl,.inr ⟨by simp,fun h=>c2 h.init⟩⟩
 ·rw[if_pos (by simp;omega),if_pos (l8 c1)]
  exact⟨_,rfl,rfl,.inr ⟨by simp,fun h=>c1 ⟨h.n0,h.n1⟩⟩⟩
end Ab
end
