/-
  Texts that the proof stands on.
-/
import Derived.Test.YtnkccobmgoikcaaGreatDoorKRwTopRepair3
set_option linter.all false
section
namespace Ab
open Go Go.Proofs
open Tryz
set_option maxHeartbeats 4000000
set_option linter.all false
attribute [local irreducible] AWP AOps thn inB Done g9 n8 Sub
abbrev oE(k:Nat)(x:List C):Ent:=.one (.cells k [x])
abbrev o1(x:C):Ent:=.one (.cells 1 [[x]])
abbrev oV{α:Type}(k:Nat)(f:α→List I)(l:List α):Ent:=.one (vec k f l)
abbrev oW{K V:Type}(fk:K→Vl)(fv:V→Vl)(m:List (K×V)):Ent:=.one (mapB fk fv m)
abbrev cI(n:Int):T:=.c (int n)
abbrev cB(b:Bool):T:=.c (bool b)
abbrev cP(i:Id)(j o:Nat):T:=.c (.ptr i j o)
abbrev cR(l:Li):T:=.c (row 1 intI l)
abbrev tT(v:d6):List C:=[int v.facts,row 1 intI v.init,row 1 intI v.goal,row 4 d9 v.operators]
abbrev tF(a:Int)(b c:Li)(d:List i4):List C:=[int a,row 1 intI b,row 1 intI c,row 4 d9 d]
abbrev wW(a b:Int)(i:Id)(n:Nat):List C:=[.imm (.val (.int .u32 a)),.imm (.val (.int .u32 b)),.own i 0 n]
abbrev nN(v:d5):List C:=[row 1 intI v.fs,int v.fat,int v.ffrom,int v.op,int v.change]
abbrev vU:Int→Vl:=Value.int .u32
abbrev vI:Int→Vl:=Value.int .i64
abbrev nL:Vl:=.slice none 0 0
instance:MethF prog 51 "Start" 65 true:=⟨by kernel_rfl⟩
instance:MethF prog 51 "Steps" 89 true:=⟨by kernel_rfl⟩
instance:MethF prog 188 "Len" 161 false:=⟨by kernel_rfl⟩
instance:MethF prog 188 "Less" 162 false:=⟨by kernel_rfl⟩
instance:MethF prog 188 "Pop" 164 true:=⟨by kernel_rfl⟩
instance:MethF prog 188 "Push" 165 true:=⟨by kernel_rfl⟩
instance:MethF prog 188 "Swap" 163 false:=⟨by kernel_rfl⟩
theorem q8{l:Li}{nv:Int}{r:Bool}(h:B1 l nv=some r):g9 prog 48 [(cR l),(cI nv)] ((cB r)):=by
 unfold g9
 refine FnOk.enter (rs:=[.t 4]) func48 Z ntmps48 results48 Z ⟨Y,Y⟩ (by kernel_rfl) Z ?_
 unfold B1 at h
 refine AWP.q (.u (.v Z Z (.nil (b6 (.q (.q (.u (.j Z Z (S.len Z Z (fun hl8=>.j Z Z (.nil (b6 (.F ?_)))))))))))))
 obtain⟨oo,ho1,h⟩:=b9 h
 refine AWP.rngS ho1 (fun t3 _=>⟨[(0,(cR l)),(1,(cI nv)),(7,(cR l)),(8,(cI (l.length:Int))),(9,(cI t3))],[]⟩) (fun o e st=>match o with| .inl _=>e=.exit 0∧Sub [] st ⟨[],[]⟩| .inr x=>e=.ret∧Done [.t 4] (fun t _=>t=(cB x)) .ret st) ?_ ?_ ?_ ?_
 ·try dsimp only
  exact Sub.env ⟨Z,Z,Z,Z,Z,Y⟩
 ·intro t3 s hlot3 hltt3 _
  try dsimp only
  refine AWP.q (.u (.J Z Z Z (.nil (b6 (.q (.ae Z hltt3 (.exit (f5 (f5 ⟨Z,?_⟩)))))))))
  exact Sub.env Y
 ·intro t3 s o hlot3 hltt3 h
  unfold R6 at h
  try dsimp only at h ⊢
  refine AWP.q (.u (.J Z Z Z (.nil (b6 (.q (.af Z hltt3 (.skip (b6 (.q (.F (.q ?_)))))))))))
  obtain⟨a12,ha12,h⟩:=b9 h
  refine AWP.u (.j Z Z (S.idx ha12 Z Z Z Z (.ai Z Z Z Z (.v Z Z (.v Z Z (.nil (b6 ?_)))))))
  obtain⟨t4,hx5,h⟩:=b9 h
  refine AWP.seqJ (⟨[(0,(cR l)),(1,(cI nv)),(7,(cR l)),(8,(cI (l.length:Int))),(9,(cI t3)),(33,(cB t4))],[]⟩) ?_ ?_
  ·rcases bft (decide (a12<0)) with hb6|hb6
   ·replace hx5:=N0 hb6 hx5
    refine AWP.u (.j Z Z (.J Z Z Z (.j Z Z (.E Z Z Z hb6 (.E Z Z Z hb6 (.E Z Z Z hb6 (.U Z hb6 Z Z (.j Z Z (.E Z Z Z Z (.E Z Z Z Z (.E Z Z Z Z (.ag Z Z Z (.ag Z Z Z (.ag Z Z Z (.ag Z Z Z (.ag Z Z Z (.ag Z Z Z (.ag Z Z Z (.E Z Z Z Z (.U Z Z Z Z (.nil ?_)))))))))))))))))))))
    obtain rfl:=oi hx5
    refine b6 (Sub.env ⟨Z,Z,Z,Z,Z,Z,Y⟩)
   ·replace hx5:=L9 hb6 hx5
    rcases bft (decide (nv≤a12)) with hb7|hb7
    ·replace hx5:=N0 hb7 hx5
     refine AWP.u (.j Z Z (.J Z Z Z (.j Z Z (.z Z Z Z hb6 (.j Z Z (.z Z Z Z hb6 (.j Z Z (.z Z Z Z hb6 (.geq Z Z Z (.ab Z hb6 Z Z (.j Z Z (.E Z Z Z hb7 (.E Z Z Z hb7 (.E Z Z Z hb7 (.ag Z Z Z (.ag Z Z Z (.ag Z Z Z (.ag Z Z Z (.ag Z Z Z (.ag Z Z Z (.ag Z Z Z (.E Z Z Z hb7 (.U Z hb7 Z Z (.nil ?_))))))))))))))))))))))))
     obtain rfl:=oi hx5
     refine b6 (Sub.env ⟨Z,Z,Z,Z,Z,Z,Y⟩)
    ·replace hx5:=L9 hb7 hx5
     rcases bft (decide (0<t3)) with hb8|hb8
     ·replace hx5:=N0 hb8 hx5
      obtain⟨a29,ha29,hx5⟩:=b9 hx5
      refine AWP.u (.j Z Z (.J Z Z Z (.j Z Z (.z Z Z Z hb6 (.j Z Z (.z Z Z Z hb6 (.j Z Z (.z Z Z Z hb6 (.geq Z Z Z (.ab Z hb6 Z Z (.j Z Z (.z Z Z Z hb7 (.j Z Z (.z Z Z Z hb7 (.gtr Z Z Z (.z Z Z Z hb7 (.j Z Z (.z Z Z Z hb8 (.j Z Z (.z Z Z Z hb8 (.j Z Z (.z Z Z Z hb8 (.j Z Z (.z Z Z Z hb8 (.sub' Z Z Z (by omega) (.z Z Z Z hb8 (S.idx ha29 Z Z Z Z (.z Z Z Z hb8 (.ai Z Z Z Z (.z Z Z Z hb8 (.leq Z Z Z (.z Z Z Z hb7 (.U Z hb8 Z Z (.ab Z hb7 Z Z (.nil ?_)))))))))))))))))))))))))))))))))))
      obtain rfl:=oi hx5
      refine b6 (Sub.env ⟨Z,Z,Z,Z,Z,Z,Y⟩)
     ·replace hx5:=L9 hb8 hx5
      refine AWP.u (.j Z Z (.J Z Z Z (.j Z Z (.z Z Z Z hb6 (.j Z Z (.z Z Z Z hb6 (.j Z Z (.z Z Z Z hb6 (.geq Z Z Z (.ab Z hb6 Z Z (.j Z Z (.z Z Z Z hb7 (.j Z Z (.z Z Z Z hb7 (.gtr Z Z Z (.z Z Z Z hb7 (.j Z Z (.E Z Z Z hb8 (.E Z Z Z hb8 (.E Z Z Z hb8 (.E Z Z Z hb8 (.E Z Z Z hb8 (.E Z Z Z hb8 (.E Z Z Z hb8 (.z Z Z Z hb7 (.ab Z hb8 Z Z (.ab Z hb7 Z Z (.nil ?_))))))))))))))))))))))))))))
      obtain rfl:=oi hx5
      refine b6 (Sub.env ⟨Z,Z,Z,Z,Z,Z,Y⟩)
  ·refine AWP.ad Z h (fun hc9 h=> ?_) (fun hc9 h=> ?_)
   ·refine AWP.q (.u (.v Z Z (.nil (b6 (.ret (j8 (e8 ?_)))))))
    obtain rfl:=oi h
    refine e8 ⟨_,Z,Z,?_⟩
    exact Done.ret Z Z
   ·refine AWP.skip (f4 (b6 (.u (.add Z Z Z (by omega) (.j Z Z (.nil ?_))))))
    obtain rfl:=oi h
    refine b6 ⟨_,Z,?_⟩
    exact Sub.env ⟨Z,Z,Z,Z,Z,Y⟩
 ·intro e s hq
  rcases oo with u|x
  ·try dsimp only at h hq
   obtain⟨rfl,hs⟩:=hq
   refine⟨_,hs,?_⟩
   refine j7 (b6 (.q (.u (.v Z Z (.nil (b6 (.ret ?_)))))))
   obtain rfl:=oi h
   exact Done.ret Z Z
  ·try dsimp only at h hq
   obtain⟨rfl,hs⟩:=hq
   refine⟨_,Sub.refl _ _,?_⟩
   refine j8 (e8 ?_)
   obtain rfl:=oi h
   exact hs
theorem C0{xv:Int}{r:Bool}(h:E5 xv=some r):g9 prog 81 [(cI xv)] ((cB r)):=by
 unfold g9
 refine FnOk.enter (rs:=[.t 2]) func81 Z ntmps81 results81 Z ⟨Y,Y⟩ (by kernel_rfl) Z ?_
 unfold E5 at h
 refine AWP.q (.u (.v Z Z (.nil (b6 (.q (.u (.j Z Z (.j Z Z (.neq Z Z Z (.v Z Z (.nil (b6 (.ret ?_)))))))))))))
 obtain rfl:=oi h
 exact Done.ret Z Z
theorem cmp_Less_int_ok{xv:Int}{yv:Int}{r:Bool}(h:T5 xv yv=some r):g9 prog 98 [(cI xv),(cI yv)] ((cB r)):=by
 unfold g9
 refine FnOk.enter (rs:=[.t 4]) func98 Z ntmps98 results98 Z ⟨Y,Y⟩ (by kernel_rfl) Z ?_
 unfold T5 at h
 refine AWP.q (.u (.v Z Z (.nil (b6 ?_))))
 obtain⟨t3,hx4,h⟩:=b9 h
 refine AWP.seqJ (⟨[(4,(cB t3))],[]⟩) ?_ ?_
 ·obtain⟨a6,ha6,hx4⟩:=b9 hx4
  rcases bft (a6) with hb5|hb5
  ·replace hx4:=W8 hb5 hx4
   obtain⟨a9,ha9,hx4⟩:=b9 hx4
   rcases bft (!a9) with hb6|hb6
   ·replace hx4:=W8 hb6 hx4
    refine AWP.u (.j Z Z (.O Z Z Z Z (C0 ha6) Z (.j Z Z (.z Z Z Z hb5 (.j Z Z (.z Z Z Z hb5 (.O Z Z Z Z (C0 ha9) Z (.z Z Z Z hb5 (.not Z Z (.U Z hb5 Z Z (.j Z Z (.E Z Z Z hb6 (.E Z Z Z hb6 (.E Z Z Z hb6 (.U Z hb6 Z Z (.v Z Z (.nil ?_)))))))))))))))))
    obtain rfl:=oi hx4
    refine b6 (Sub.env ⟨Z,Y⟩)
   ·replace hx4:=X2 hb6 hx4
    refine AWP.u (.j Z Z (.O Z Z Z Z (C0 ha6) Z (.j Z Z (.z Z Z Z hb5 (.j Z Z (.z Z Z Z hb5 (.O Z Z Z Z (C0 ha9) Z (.z Z Z Z hb5 (.not Z Z (.U Z hb5 Z Z (.j Z Z (.z Z Z Z hb6 (.j Z Z (.z Z Z Z hb6 (.j Z Z (.z Z Z Z hb6 (.J Z Z Z (.ab Z hb6 Z Z (.v Z Z (.nil ?_))))))))))))))))))))
    obtain rfl:=oi hx4
    refine b6 (Sub.env ⟨Z,Y⟩)
  ·replace hx4:=X2 hb5 hx4
   refine AWP.u (.j Z Z (.O Z Z Z Z (C0 ha6) Z (.j Z Z (.E Z Z Z hb5 (.E Z Z Z hb5 (.E Z Z Z hb5 (.ab Z hb5 Z Z (.j Z Z (.z Z Z Z Z (.j Z Z (.z Z Z Z Z (.j Z Z (.z Z Z Z Z (.J Z Z Z (.ab Z Z Z Z (.v Z Z (.nil ?_)))))))))))))))))
   obtain rfl:=oi hx4
   refine b6 (Sub.env ⟨Z,Y⟩)
 ·refine AWP.ret ?_
  obtain rfl:=oi h
  exact Done.ret Z Z
theorem R0{xv:Int}{r:Bool}(h:K0 xv=some r):g9 prog 99 [(cI xv)] ((cB r)):=by
 unfold g9
 refine FnOk.enter (rs:=[.t 2]) func99 Z ntmps99 results99 Z ⟨Y,Y⟩ (by kernel_rfl) Z ?_
 unfold K0 at h
 refine AWP.q (.u (.v Z Z (.nil (b6 (.q (.u (.j Z Z (.j Z Z (.neq Z Z Z (.v Z Z (.nil (b6 (.ret ?_)))))))))))))
 obtain rfl:=oi h
 exact Done.ret Z Z
theorem M4{xv:Li}{target:Int}{r:Int×Bool}(h:o8 xv target=some r):g9 prog 68 [(cR xv),(cI target)] (.tup [(cI r.1),(cB r.2)]):=by
 unfold g9
 refine FnOk.enter (rs:=[.t 4,.t 5]) func68 Z ntmps68 results68 Z ⟨Y,Y,Y⟩ (by kernel_rfl) Z ?_
 unfold o8 at h
 refine AWP.q (.u (.v Z Z (.v Z Z (.nil (b6 (.q (.u (.j Z Z (S.len Z Z (fun hl11=>.v Z Z (.nil (b6 (.q (.u (.j Z Z (.v Z Z (.v Z Z (.nil (b6 (.q (.F ?_)))))))))))))))))))))
 obtain⟨iv5,ho1,h⟩:=b9 h
 refine AWP.loopS ho1 (fun(iv3,j4)=>⟨[(0,(cR xv)),(1,(cI target)),(6,(cI (xv.length:Int))),(7,(cI iv3)),(8,(cI j4))],[]⟩) (fun iv5 e st=>e=.exit 0∧Sub [] st ⟨[(0,(cR xv)),(1,(cI target)),(6,(cI (xv.length:Int))),(7,(cI iv5))],[]⟩) ?_ ?_ ?_
 ·try dsimp only
  exact Sub.env ⟨Z,Z,Z,Z,Z,Y⟩
 ·intro s o h
  obtain⟨iv3,j4⟩:=s
  unfold y4 at h
  try dsimp only at h ⊢
  refine AWP.q (.q (.u (.j Z Z (.j Z Z (.J Z Z Z (.nil (b6 (.ac Z h (fun hc6 h=> ?_) (fun hc6 h=> ?_)))))))))
  ·refine AWP.skip (b6 (.F (.q (.u (.j Z Z (.j Z Z (S.add Z Z Z (.convInt Z Z (.shr Z Z Z (by first|decide|omega) Z (.convInt Z Z (.v Z Z (.nil (b6 (.q ?_))))))))))))))
   obtain⟨a24,ha24,a27,ha27,h⟩:=b2 h
   refine AWP.u (.j Z Z (.j Z Z (S.idx ha24 Z Z Z Z (.ai Z Z Z Z (.j Z Z (.O Z Z Z Z (cmp_Less_int_ok ha27) Z (.nil (b6 (.ad Z h (fun hc7 h=> ?_) (fun hc7 h=> ?_))))))))))
   ·refine AWP.u (.j Z Z (S.add Z Z Z (.v Z Z (.nil (f4 ?_)))))
    obtain rfl:=oi h
    refine b6 ⟨_,Z,?_⟩
    exact Sub.env ⟨Z,Z,Z,Z,Z,Y⟩
   ·refine AWP.u (.j Z Z (.v Z Z (.nil (f4 ?_))))
    obtain rfl:=oi h
    refine b6 ⟨_,Z,?_⟩
    exact Sub.env ⟨Z,Z,Z,Z,Z,Y⟩
  ·refine AWP.exit (f5 ?_)
   obtain rfl:=oi h
   refine f5 ⟨_,Z,Z,?_⟩
   exact Sub.env ⟨Z,Z,Z,Z,Y⟩
 ·intro e s hq
  obtain⟨rfl,hs⟩:=hq
  refine⟨_,hs,?_⟩
  refine j7 (b6 ?_)
  obtain⟨t8,hx9,h⟩:=b9 h
  refine AWP.seqJ (⟨[(4,(cI iv5)),(5,(cB t8))],[]⟩) ?_ ?_
  ·rcases bft (decide (iv5<(xv.length:Int))) with hb10|hb10
   ·replace hx9:=N0 hb10 hx9
    obtain⟨a38,ha38,hx9⟩:=b9 hx9
    rcases bft (decide (a38=target)) with hb11|hb11
    ·replace hx9:=N0 hb11 hx9
     refine AWP.u (.j Z Z (.j Z Z (.j Z Z (.J Z Z Z (.j Z Z (.z Z Z Z hb10 (.j Z Z (.z Z Z Z hb10 (.j Z Z (.z Z Z Z hb10 (S.idx ha38 Z Z Z Z (.z Z Z Z hb10 (.ai Z Z Z Z (.z Z Z Z hb10 (.j Z Z (.z Z Z Z hb10 (.eql Z Z Z (.z Z Z Z hb10 (.j Z Z (.E Z Z Z hb11 (.E Z Z Z hb11 (.E Z Z Z hb11 (.E Z Z Z hb11 (.E Z Z Z hb11 (.E Z Z Z hb11 (.ag Z Z Z (.ag Z Z Z (.E Z Z Z hb11 (.z Z Z Z hb10 (.U Z hb11 Z Z (.U Z hb10 Z Z (.v Z Z (.v Z Z (.nil ?_))))))))))))))))))))))))))))))))))
     obtain rfl:=oi hx9
     refine b6 (Sub.env ⟨Z,Z,Y⟩)
    ·replace hx9:=L9 hb11 hx9
     obtain⟨a45,ha45,a47,ha47,hx9⟩:=b2 hx9
     rcases bft (a47) with hb12|hb12
     ·replace hx9:=W8 hb12 hx9
      obtain⟨a50,ha50,hx9⟩:=b9 hx9
      refine AWP.u (.j Z Z (.j Z Z (.j Z Z (.J Z Z Z (.j Z Z (.z Z Z Z hb10 (.j Z Z (.z Z Z Z hb10 (.j Z Z (.z Z Z Z hb10 (S.idx ha38 Z Z Z Z (.z Z Z Z hb10 (.ai Z Z Z Z (.z Z Z Z hb10 (.j Z Z (.z Z Z Z hb10 (.eql Z Z Z (.z Z Z Z hb10 (.j Z Z (.z Z Z Z hb11 (.j Z Z (.z Z Z Z hb11 (.j Z Z (.z Z Z Z hb11 (S.idx ha45 Z Z Z Z (.z Z Z Z hb11 (.ai Z Z Z Z (.z Z Z Z hb11 (.O Z Z Z Z (R0 ha47) Z (.z Z Z Z hb11 (.j Z Z (.z Z Z Z hb12 (.j Z Z (.z Z Z Z hb12 (.O Z Z Z Z (R0 ha50) Z (.z Z Z Z hb11 (.U Z hb12 Z Z (.z Z Z Z hb10 (.ab Z hb11 Z Z (.U Z hb10 Z Z (.v Z Z (.v Z Z (.nil ?_)))))))))))))))))))))))))))))))))))))))))))
      obtain rfl:=oi hx9
      refine b6 (Sub.env ⟨Z,Z,Y⟩)
     ·replace hx9:=X2 hb12 hx9
      refine AWP.u (.j Z Z (.j Z Z (.j Z Z (.J Z Z Z (.j Z Z (.z Z Z Z hb10 (.j Z Z (.z Z Z Z hb10 (.j Z Z (.z Z Z Z hb10 (S.idx ha38 Z Z Z Z (.z Z Z Z hb10 (.ai Z Z Z Z (.z Z Z Z hb10 (.j Z Z (.z Z Z Z hb10 (.eql Z Z Z (.z Z Z Z hb10 (.j Z Z (.z Z Z Z hb11 (.j Z Z (.z Z Z Z hb11 (.j Z Z (.z Z Z Z hb11 (S.idx ha45 Z Z Z Z (.z Z Z Z hb11 (.ai Z Z Z Z (.z Z Z Z hb11 (.O Z Z Z Z (R0 ha47) Z (.z Z Z Z hb11 (.j Z Z (.E Z Z Z hb12 (.E Z Z Z hb12 (.z Z Z Z hb11 (.ab Z hb12 Z Z (.z Z Z Z hb10 (.ab Z hb11 Z Z (.U Z hb10 Z Z (.v Z Z (.v Z Z (.nil ?_)))))))))))))))))))))))))))))))))))))))))
      obtain rfl:=oi hx9
      refine b6 (Sub.env ⟨Z,Z,Y⟩)
   ·replace hx9:=L9 hb10 hx9
    refine AWP.u (.j Z Z (.j Z Z (.j Z Z (.J Z Z Z (.j Z Z (.E Z Z Z hb10 (.E Z Z Z hb10 (.E Z Z Z hb10 (.E Z Z Z hb10 (.E Z Z Z hb10 (.E Z Z Z hb10 (.E Z Z Z hb10 (.ag Z Z Z (.ag Z Z Z (.ag Z Z Z (.ag Z Z Z (.ag Z Z Z (.ag Z Z Z (.ag Z Z Z (.ag Z Z Z (.ag Z Z Z (.E Z Z Z hb10 (.ab Z hb10 Z Z (.v Z Z (.v Z Z (.nil ?_))))))))))))))))))))))))))
    obtain rfl:=oi hx9
    refine b6 (Sub.env ⟨Z,Z,Y⟩)
  ·refine AWP.ret ?_
   obtain rfl:=oi h
   exact Done.ret Z Z
theorem ar8{xv:Int}{c2:Li}{r:Bool}(h:U7 xv c2=some r):g9 prog 93 [(cI xv),.c (.imm (.ipt [.sl 1 (List.map intI c2)]))] ((cB r)):=by
 unfold g9
 refine FnOk.enter (rs:=[.t 3]) func93 Z ntmps93 results93 Z ⟨Y,Y⟩ (by kernel_rfl) Z ?_
 unfold U7 at h
 refine AWP.q (.u (.v Z Z (.nil (b6 (.q ?_)))))
 obtain⟨a9,ha9,h⟩:=b9 h
 refine AWP.u (.ai Z Z Z Z (.j Z Z (.O Z Z Z Z (M4 ha9) Z (.j Z Z (.aa Z Z Z (.aa Z Z Z (.v Z Z (.v Z Z (.nil (b6 (.q (.u (.j Z Z (.v Z Z (.nil (b6 (.ret ?_)))))))))))))))))
 obtain rfl:=oi h
 exact Done.ret Z Z
theorem af1{sv:Li}{fv:Int→Option Bool}{r:Int}{fvfv:FuncId}{cvfv:List C}(hcvfv:C.okL 0 cvfv=true)(hfv:∀{y1:Int} {z:Bool},fv y1=some z→g9 prog fvfv ([(cI y1)]++cvfv.map T.c) ((cB z)))(h:E3 sv fv=some r):g9 prog 111 [(cR sv),.c (.fn fvfv cvfv)] ((cI r)):=by
 unfold g9
 refine FnOk.enter (rs:=[.t 4]) func111 Z ntmps111 results111 Z ⟨Y,Y⟩ (by kernel_rfl) Z ?_
 unfold E3 at h
 refine AWP.q (.u (.v Z Z (.nil (b6 (.q (.q (.u (.j Z Z (S.len Z Z (fun hl7=>.j Z Z (.nil (b6 (.F ?_)))))))))))))
 obtain⟨oo,ho1,h⟩:=b9 h
 refine AWP.rngS ho1 (fun t3 _=>⟨[(0,(cR sv)),(1,.c (.fn fvfv cvfv)),(7,(cI (sv.length:Int))),(8,(cI t3))],[]⟩) (fun o e st=>match o with| .inl _=>e=.exit 0∧Sub [] st ⟨[],[]⟩| .inr x=>e=.ret∧Done [.t 4] (fun t _=>t=(cI x)) .ret st) ?_ ?_ ?_ ?_
 ·try dsimp only
  exact Sub.env ⟨Z,Z,Z,Z,Y⟩
 ·intro t3 s hlot3 hltt3 _
  try dsimp only
  refine AWP.q (.u (.J Z Z Z (.nil (b6 (.q (.ae Z hltt3 (.exit (f5 (f5 ⟨Z,?_⟩)))))))))
  exact Sub.env Y
 ·intro t3 s o hlot3 hltt3 h
  unfold B0 at h
  try dsimp only at h ⊢
  refine AWP.q (.u (.J Z Z Z (.nil (b6 (.q (.af Z hltt3 (.skip (b6 (.q (.F (.q (.u (.j Z Z (.v Z Z (.nil (b6 (.q ?_)))))))))))))))))
  obtain⟨a14,ha14,a16,ha16,h⟩:=b2 h
  refine AWP.u (.j Z Z (.j Z Z (.j Z Z (S.idx ha14 Z Z Z Z (.ai Z Z Z Z (.O Z Z (okL_app Z hcvfv) Z (hfv ha16) Z (.nil (b6 (.ad Z h (fun hc4 h=> ?_) (fun hc4 h=> ?_))))))))))
  ·refine AWP.q (.u (.j Z Z (.v Z Z (.nil (b6 (.ret (j8 (e8 ?_))))))))
   obtain rfl:=oi h
   refine e8 ⟨_,Z,Z,?_⟩
   exact Done.ret Z Z
  ·refine AWP.skip (f4 (b6 (.u (.add Z Z Z (by omega) (.j Z Z (.nil ?_))))))
   obtain rfl:=oi h
   refine b6 ⟨_,Z,?_⟩
   exact Sub.env ⟨Z,Z,Z,Z,Y⟩
 ·intro e s hq
  rcases oo with u|x
  ·try dsimp only at h hq
   obtain⟨rfl,hs⟩:=hq
   refine⟨_,hs,?_⟩
   refine j7 (b6 (.q (.u (.v Z Z (.nil (b6 (.ret ?_)))))))
   obtain rfl:=oi h
   exact Done.ret Z Z
  ·try dsimp only at h hq
   obtain⟨rfl,hs⟩:=hq
   refine⟨_,Sub.refl _ _,?_⟩
   refine j8 (e8 ?_)
   obtain rfl:=oi h
   exact hs
theorem ac4{sv:Li}{fv:Int→Option Bool}{r:Bool}{fvfv:FuncId}{cvfv:List C}(hcvfv:C.okL 0 cvfv=true)(hfv:∀{y1:Int} {z:Bool},fv y1=some z→g9 prog fvfv ([(cI y1)]++cvfv.map T.c) ((cB z)))(h:v8 sv fv=some r):g9 prog 92 [(cR sv),.c (.fn fvfv cvfv)] ((cB r)):=by
 unfold g9
 refine FnOk.enter (rs:=[.t 4]) func92 Z ntmps92 results92 Z ⟨Y,Y⟩ (by kernel_rfl) Z ?_
 unfold v8 at h
 refine AWP.q (.u (.v Z Z (.nil (b6 (.q ?_)))))
 obtain⟨a7,ha7,h⟩:=b9 h
 refine AWP.u (.j Z Z (.j Z Z (.O Z Z (by simp[T.okL,T.ok,C.ok,C.okL,hcvfv]) Z (af1 hcvfv hfv ha7) Z (.geq Z Z Z (.v Z Z (.nil (b6 (.ret ?_))))))))
 obtain rfl:=oi h
 exact Done.ret Z Z
theorem strips_Meets_ok{av:Li}{bv:Li}{r:Bool}(h:S2 av bv=some r):g9 prog 66 [(cR av),(cR bv)] ((cB r)):=by
 unfold g9
 refine FnOk.enter (rs:=[.t 4]) func66 Z ntmps66 results66 Z ⟨Y,Y⟩ (by kernel_rfl) Z ?_
 unfold S2 at h
 refine AWP.q (.u (W.box Z Z Z Z Z Z (.v Z Z (.nil (b6 (.q ?_))))))
 obtain⟨a7,ha7,h⟩:=b9 h
 refine AWP.u (.j Z Z (.ak Z Z (.callL Z Z (.cons (.c .imm) (.cons (.c (.fn (.cons (.ptr (es:=[.sl 1 (List.map intI bv)]) Z Z (.cons .imm .nil)) .nil))) .nil)) Z (ac4 Z (fun hy=>ar8 hy) ha7) Z ?_)))
 refine AOps.v Z Z (.nil (b6 (.ret ?_)))
 obtain rfl:=oi h
 exact Done.ret Z Z
theorem aq9{ov:i4}{facts:Int}{r:Int}(h:M8 ov facts=some r):g9 prog 49 [.agg [row 1 intI ov.pre,row 1 intI ov.add,row 1 intI ov.del,int ov.cost],(cI facts)] ((cI r)):=by
 unfold g9
 refine FnOk.enter (rs:=[.t 4]) func49 Z ntmps49 results49 Z ⟨Y,Y⟩ (by kernel_rfl) Z ?_
 unfold M8 at h
 refine AWP.q (.u (W.box Z Z Z Z Z Z (.v Z Z (.nil (b6 (.q (.F ?_)))))))
 obtain⟨t3,hx4,h⟩:=b9 h
 refine AWP.seqJ (⟨[(2,(cP 0 0 0)),(5,(cB t3))],[(oE 4 [row 1 intI ov.pre,row 1 intI ov.add,row 1 intI ov.del,int ov.cost])]⟩) ?_ ?_
 ·obtain⟨a9,ha9,hx4⟩:=b9 hx4
  rcases bft (!a9) with hb5|hb5
  ·replace hx4:=W8 hb5 hx4
   refine AWP.u (W.fieldAddr Z Z Z Z (.B Z Z Z Z Z Z (.j Z Z (.O Z Z Z Z (q8 ha9) Z (.not Z Z (.j Z Z (.E Z Z Z hb5 (.E Z Z Z hb5 (.E Z Z Z hb5 (.E Z Z Z hb5 (.E Z Z Z hb5 (.U Z hb5 Z Z (.j Z Z (.E Z Z Z Z (.E Z Z Z Z (.E Z Z Z Z (.E Z Z Z Z (.E Z Z Z Z (.U Z Z Z Z (.j Z Z (.E Z Z Z Z (.E Z Z Z Z (.E Z Z Z Z (.E Z Z Z Z (.E Z Z Z Z (.U Z Z Z Z (.v Z Z (.nil ?_))))))))))))))))))))))))))))
   obtain rfl:=oi hx4
   refine b6 (Sub.env ⟨Z,Z,Y⟩)
  ·replace hx4:=X2 hb5 hx4
   obtain⟨a15,ha15,hx4⟩:=b9 hx4
   rcases bft (!a15) with hb6|hb6
   ·replace hx4:=W8 hb6 hx4
    refine AWP.u (W.fieldAddr Z Z Z Z (.B Z Z Z Z Z Z (.j Z Z (.O Z Z Z Z (q8 ha9) Z (.not Z Z (.j Z Z (.z Z Z Z hb5 (W.fieldAddr Z Z Z Z (.z Z Z Z hb5 (.B Z Z Z Z Z Z (.z Z Z Z hb5 (.j Z Z (.z Z Z Z hb5 (.O Z Z Z Z (q8 ha15) Z (.z Z Z Z hb5 (.not Z Z (.ab Z hb5 Z Z (.j Z Z (.E Z Z Z hb6 (.E Z Z Z hb6 (.E Z Z Z hb6 (.E Z Z Z hb6 (.E Z Z Z hb6 (.U Z hb6 Z Z (.j Z Z (.E Z Z Z Z (.E Z Z Z Z (.E Z Z Z Z (.E Z Z Z Z (.E Z Z Z Z (.U Z Z Z Z (.v Z Z (.nil ?_)))))))))))))))))))))))))))))))))
    obtain rfl:=oi hx4
    refine b6 (Sub.env ⟨Z,Z,Y⟩)
   ·replace hx4:=X2 hb6 hx4
    obtain⟨a22,ha22,hx4⟩:=b9 hx4
    rcases bft (!a22) with hb7|hb7
    ·replace hx4:=W8 hb7 hx4
     refine AWP.u (W.fieldAddr Z Z Z Z (.B Z Z Z Z Z Z (.j Z Z (.O Z Z Z Z (q8 ha9) Z (.not Z Z (.j Z Z (.z Z Z Z hb5 (W.fieldAddr Z Z Z Z (.z Z Z Z hb5 (.B Z Z Z Z Z Z (.z Z Z Z hb5 (.j Z Z (.z Z Z Z hb5 (.O Z Z Z Z (q8 ha15) Z (.z Z Z Z hb5 (.not Z Z (.ab Z hb5 Z Z (.j Z Z (.z Z Z Z hb6 (W.fieldAddr Z Z Z Z (.z Z Z Z hb6 (.B Z Z Z Z Z Z (.z Z Z Z hb6 (.j Z Z (.z Z Z Z hb6 (.O Z Z Z Z (q8 ha22) Z (.z Z Z Z hb6 (.not Z Z (.ab Z hb6 Z Z (.j Z Z (.E Z Z Z hb7 (.E Z Z Z hb7 (.E Z Z Z hb7 (.E Z Z Z hb7 (.E Z Z Z hb7 (.U Z hb7 Z Z (.v Z Z (.nil ?_))))))))))))))))))))))))))))))))))))))
     obtain rfl:=oi hx4
     refine b6 (Sub.env ⟨Z,Z,Y⟩)
    ·replace hx4:=X2 hb7 hx4
     obtain⟨a30,ha30,hx4⟩:=b9 hx4
     refine AWP.u (W.fieldAddr Z Z Z Z (.B Z Z Z Z Z Z (.j Z Z (.O Z Z Z Z (q8 ha9) Z (.not Z Z (.j Z Z (.z Z Z Z hb5 (W.fieldAddr Z Z Z Z (.z Z Z Z hb5 (.B Z Z Z Z Z Z (.z Z Z Z hb5 (.j Z Z (.z Z Z Z hb5 (.O Z Z Z Z (q8 ha15) Z (.z Z Z Z hb5 (.not Z Z (.ab Z hb5 Z Z (.j Z Z (.z Z Z Z hb6 (W.fieldAddr Z Z Z Z (.z Z Z Z hb6 (.B Z Z Z Z Z Z (.z Z Z Z hb6 (.j Z Z (.z Z Z Z hb6 (.O Z Z Z Z (q8 ha22) Z (.z Z Z Z hb6 (.not Z Z (.ab Z hb6 Z Z (.j Z Z (.z Z Z Z hb7 (W.fieldAddr Z Z Z Z (.z Z Z Z hb7 (.B Z Z Z Z Z Z (.z Z Z Z hb7 (W.fieldAddr Z Z Z Z (.z Z Z Z hb7 (.B Z Z Z Z Z Z (.z Z Z Z hb7 (.O Z Z Z Z (strips_Meets_ok ha30) Z (.ab Z hb7 Z Z (.v Z Z (.nil ?_)))))))))))))))))))))))))))))))))))))))))))
     obtain rfl:=oi hx4
     refine b6 (Sub.env ⟨Z,Z,Y⟩)
 ·refine AWP.ad Z h (fun hc8 h=> ?_) (fun hc8 h=> ?_)
  ·refine AWP.q (.u (.v Z Z (.nil (b6 (.ret (j8 (e8 ?_)))))))
   obtain rfl:=oi h
   exact Done.ret Z Z
  ·refine AWP.seqJ (⟨[(32,(cB ((decide (ov.cost<0))||(decide (100<ov.cost)))))],[(oE 4 [row 1 intI ov.pre,row 1 intI ov.add,row 1 intI ov.del,int ov.cost])]⟩) ?_ ?_
   ·rcases bft (decide (ov.cost<0)) with hb1|hb1
    ·refine AWP.u (W.fieldAddr Z Z Z Z (.B Z Z Z Z Z Z (.J Z Z Z (.j Z Z (.E Z Z Z hb1 (.E Z Z Z hb1 (.E Z Z Z hb1 (.U Z hb1 Z Z (.v Z Z (.nil (b6 ?_)))))))))))
     simp only[and_t hb1,or_t hb1,Bool.false_or,Bool.true_or,Bool.false_and,Bool.true_and]
     exact Sub.env ⟨Z,Y⟩
    ·refine AWP.u (W.fieldAddr Z Z Z Z (.B Z Z Z Z Z Z (.J Z Z Z (.j Z Z (.z Z Z Z hb1 (W.fieldAddr Z Z Z Z (.z Z Z Z hb1 (.B Z Z Z Z Z Z (.z Z Z Z hb1 (.gtr Z Z Z (.ab Z hb1 Z Z (.v Z Z (.nil (b6 ?_))))))))))))))
     simp only[and_f hb1,or_f hb1,Bool.false_or,Bool.true_or,Bool.false_and,Bool.true_and]
     exact Sub.env ⟨Z,Y⟩
   ·refine AWP.ad Z h (fun hc9 h=> ?_) (fun hc9 h=> ?_)
    ·refine AWP.q (.u (.v Z Z (.nil (b6 (.ret (j8 (e8 ?_)))))))
     obtain rfl:=oi h
     exact Done.ret Z Z
    ·refine AWP.skip (f4 (b6 (.q (.u (.v Z Z (.nil (b6 (.ret ?_))))))))
     obtain rfl:=oi h
     exact Done.ret Z Z
theorem G1{t:d6}{r:i9}(h:q7 t=some r):g9 prog 23 [.agg (tT t)] (.agg [int r.code,int r.index]):=by
 unfold g9
 refine FnOk.enter (rs:=[.cell 2 27 2]) func23 Z ntmps23 results23 Z ⟨rv _ Z,Y⟩ (by kernel_rfl) Z ?_
 unfold q7 at h
 refine AWP.q (.u (W.box Z Z Z Z Z Z (W.alloc Z Z Z Z (.nil (b6 (.q (.F (.seqJ (⟨[(1,(cP 0 0 0)),(2,(cP 1 0 0)),(6,(cB ((decide (t.facts<0))||(decide (24<t.facts)))))],[(oE 4 (tT t)),(oE 2 [int 0,int 0])]⟩) ?_ ?_))))))))
 ·rcases bft (decide (t.facts<0)) with hb1|hb1
  ·refine AWP.u (W.fieldAddr Z Z Z Z (.B Z Z Z Z Z Z (.J Z Z Z (.j Z Z (.E Z Z Z hb1 (.E Z Z Z hb1 (.E Z Z Z hb1 (.U Z hb1 Z Z (.v Z Z (.nil (b6 ?_)))))))))))
   simp only[and_t hb1,or_t hb1,Bool.false_or,Bool.true_or,Bool.false_and,Bool.true_and]
   exact Sub.env ⟨Z,Z,Z,Y⟩
  ·refine AWP.u (W.fieldAddr Z Z Z Z (.B Z Z Z Z Z Z (.J Z Z Z (.j Z Z (.z Z Z Z hb1 (W.fieldAddr Z Z Z Z (.z Z Z Z hb1 (.B Z Z Z Z Z Z (.z Z Z Z hb1 (.gtr Z Z Z (.ab Z hb1 Z Z (.v Z Z (.nil (b6 ?_))))))))))))))
   simp only[and_f hb1,or_f hb1,Bool.false_or,Bool.true_or,Bool.false_and,Bool.true_and]
   exact Sub.env ⟨Z,Z,Z,Y⟩
 ·refine AWP.ad Z h (fun hc2 h=> ?_) (fun hc2 h=> ?_)
  ·refine AWP.q (.u (W.build Z Z Z Z (W.storeAgg Z Z Z Z Z Z Z (.nil (b6 (.ret (j8 (e8 ?_))))))))
   obtain rfl:=oi h
   exact Done.ret Z Z
  ·refine AWP.q ?_
   obtain⟨a21,ha21,h⟩:=b9 h
   refine AWP.u (W.fieldAddr Z Z Z Z (.B Z Z Z Z Z Z (W.fieldAddr Z Z Z Z (.B Z Z Z Z Z Z (.O Z Z Z Z (q8 ha21) Z (.not Z Z (.v Z Z (.nil (b6 (.ad Z h (fun hc3 h=> ?_) (fun hc3 h=> ?_)))))))))))
   ·refine AWP.q (.u (W.build Z Z Z Z (W.storeAgg Z Z Z Z Z Z Z (.nil (b6 (.ret (j8 (e8 ?_))))))))
    obtain rfl:=oi h
    exact Done.ret Z Z
   ·refine AWP.q ?_
    obtain⟨a29,ha29,h⟩:=b9 h
    refine AWP.u (W.fieldAddr Z Z Z Z (.B Z Z Z Z Z Z (W.fieldAddr Z Z Z Z (.B Z Z Z Z Z Z (.O Z Z Z Z (q8 ha29) Z (.not Z Z (.v Z Z (.nil (b6 (.ad Z h (fun hc4 h=> ?_) (fun hc4 h=> ?_)))))))))))
    ·refine AWP.q (.u (W.build Z Z Z Z (W.storeAgg Z Z Z Z Z Z Z (.nil (b6 (.ret (j8 (e8 ?_))))))))
     obtain rfl:=oi h
     exact Done.ret Z Z
    ·refine AWP.q (.u (W.fieldAddr Z Z Z Z (.B Z Z Z Z Z Z (S.len Z Z (fun hl35=>.gtr Z Z Z (.v Z Z (.nil (b6 (.ac Z h (fun hc5 h=> ?_) (fun hc5 h=> ?_))))))))))
     ·refine AWP.q (.u (W.build Z Z Z Z (W.storeAgg Z Z Z Z Z Z Z (.nil (b6 (.ret (j8 (e8 ?_))))))))
      obtain rfl:=oi h
      exact Done.ret Z Z
     ·refine AWP.skip (f4 (b6 (.q (.q (.u (W.fieldAddr Z Z Z Z (.B Z Z Z Z Z Z (S.len Z Z (fun hl40=>.j Z Z (.nil (b6 (.F ?_))))))))))))
      obtain⟨oo,ho1,h⟩:=b9 h
      refine AWP.rngS ho1 (fun t6 _=>⟨[(1,(cP 0 0 0)),(2,(cP 1 0 0)),(39,.c (row 4 d9 t.operators)),(40,(cI (t.operators.length:Int))),(41,(cI t6))],[(oE 4 (tT t)),(oE 2 [int 0,int 0])]⟩) (fun o e st=>match o with| .inl _=>e=.exit 1∧Sub [] st ⟨[(2,(cP 1 0 0))],[(oE 4 (tT t)),(oE 2 [int 0,int 0])]⟩| .inr x=>e=.ret∧Done [.cell 2 27 2] (fun t _=>t=.agg [int x.code,int x.index]) .ret st) ?_ ?_ ?_ ?_
      ·try dsimp only
       exact Sub.env ⟨Z,Z,Z,Z,Z,Y⟩
      ·intro t6 s hlot6 hltt6 _
       try dsimp only
       refine AWP.q (.u (.J Z Z Z (.nil (b6 (.q (.ae Z hltt6 (.exit (f5 (f5 ⟨Z,?_⟩)))))))))
       exact Sub.env ⟨Z,Y⟩
      ·intro t6 s o hlot6 hltt6 h
       unfold G3 at h
       try dsimp only at h ⊢
       refine AWP.q (.u (.J Z Z Z (.nil (b6 (.q (.af Z hltt6 (.skip (b6 (.q (.F (.q ?_)))))))))))
       obtain⟨a44,ha44,h⟩:=b9 h
       refine AWP.u (.j Z Z (S.idx ha44 Z Z Z Z (W.loadIAgg Z Z Z Z Z (W.alloc Z Z Z Z (.v Z Z (W.storeAgg Z Z Z Z Z Z Z (.nil (b6 (.q ?_)))))))))
       obtain⟨a49,ha49,h⟩:=b9 h
       refine AWP.u (W.loadAgg Z Z Z Z Z Z Z (W.fieldAddr Z Z Z Z (.B Z Z Z Z Z Z (.O Z Z Z Z (aq9 ha49) Z (.v Z Z (.nil (b6 (.q (.u (.j Z Z (.neq Z Z Z (.nil (b6 (.iteN Z h (fun hc7 h=> ?_) (fun hc7 h=> ?_)))))))))))))))
       ·refine AWP.q (.u (.j Z Z (.j Z Z (W.build Z Z Z Z (W.storeAgg Z Z Z Z Z Z Z (.nil (b6 (.ret (j8 (e8 ?_))))))))))
        obtain rfl:=oi h
        refine e8 ⟨_,Z,Z,?_⟩
        exact Done.ret Z Z
       ·refine AWP.skip (f4 (b6 (.u (.add Z Z Z (by omega) (.j Z Z (.nil ?_))))))
        obtain rfl:=oi h
        refine b6 ⟨_,Z,?_⟩
        exact Sub.cut ⟨Z,Z,Z,Z,Z,Y⟩ Z ⟨.one Z,.one Z,Y⟩ Z
      ·intro e s hq
       rcases oo with u|x
       ·try dsimp only at h hq
        obtain⟨rfl,hs⟩:=hq
        refine⟨_,hs,?_⟩
        refine j7 (b6 (.q (.u (W.build Z Z Z Z (W.storeAgg Z Z Z Z Z Z Z (.nil (b6 (.ret ?_))))))))
        obtain rfl:=oi h
        exact Done.ret Z Z
       ·try dsimp only at h hq
        obtain⟨rfl,hs⟩:=hq
        refine⟨_,Sub.refl _ _,?_⟩
        refine j8 (e8 ?_)
        obtain rfl:=oi h
        exact hs
theorem strips_Steps_ok{operators:Int}{plan:Li}{r:i9}(h:T0 operators plan=some r):g9 prog 24 [(cI operators),(cR plan)] (.agg [int r.code,int r.index]):=by
 unfold g9
 refine FnOk.enter (rs:=[.cell 4 27 2]) func24 Z ntmps24 results24 Z ⟨rv _ Z,Y⟩ (by kernel_rfl) Z ?_
 unfold T0 at h
 refine AWP.q (.u (W.alloc Z Z Z Z (.nil (b6 (.q (.q (.u (.j Z Z (S.len Z Z (fun hl8=>.gtr Z Z Z (.nil (b6 (.ac Z h (fun hc3 h=> ?_) (fun hc3 h=> ?_))))))))))))))
 ·refine AWP.q (.u (W.build Z Z Z Z (W.storeAgg Z Z Z Z Z Z Z (.nil (b6 (.ret (e8 ?_)))))))
  obtain rfl:=oi h
  exact Done.ret Z Z
 ·refine AWP.skip (b6 (.q (.q (.u (.j Z Z (S.len Z Z (fun hl12=>.j Z Z (.nil (b6 (.F ?_))))))))))
  obtain⟨oo,ho1,h⟩:=b9 h
  refine AWP.rngS ho1 (fun t4 _=>⟨[(0,(cI operators)),(4,(cP 0 0 0)),(11,(cR plan)),(12,(cI (plan.length:Int))),(13,(cI t4))],[(oE 2 [int 0,int 0])]⟩) (fun o e st=>match o with| .inl _=>e=.exit 0∧Sub [] st ⟨[(4,(cP 0 0 0))],[(oE 2 [int 0,int 0])]⟩| .inr x=>e=.ret∧Done [.cell 4 27 2] (fun t _=>t=.agg [int x.code,int x.index]) .ret st) ?_ ?_ ?_ ?_
  ·try dsimp only
   exact Sub.env ⟨Z,Z,Z,Z,Z,Y⟩
  ·intro t4 s hlot4 hltt4 _
   try dsimp only
   refine AWP.q (.u (.J Z Z Z (.nil (b6 (.q (.ae Z hltt4 (.exit (f5 (f5 ⟨Z,?_⟩)))))))))
   exact Sub.env ⟨Z,Y⟩
  ·intro t4 s o hlot4 hltt4 h
   unfold ac1 at h
   try dsimp only at h ⊢
   refine AWP.q (.u (.J Z Z Z (.nil (b6 (.q (.af Z hltt4 (.skip (b6 (.q (.F (.q ?_)))))))))))
   obtain⟨a15,ha15,h⟩:=b9 h
   refine AWP.u (S.idx ha15 Z Z Z Z (.ai Z Z Z Z (.v Z Z (.nil (b6 (.seqJ (⟨[(0,(cI operators)),(4,(cP 0 0 0)),(11,(cR plan)),(12,(cI (plan.length:Int))),(13,(cI t4)),(23,(cB ((decide (a15<0))||(decide (operators≤a15)))))],[(oE 2 [int 0,int 0])]⟩) ?_ ?_))))))
   ·rcases bft (decide (a15<0)) with hb1|hb1
    ·refine AWP.u (.j Z Z (.J Z Z Z (.j Z Z (.E Z Z Z hb1 (.E Z Z Z hb1 (.E Z Z Z hb1 (.U Z hb1 Z Z (.nil (b6 ?_)))))))))
     simp only[and_t hb1,or_t hb1,Bool.false_or,Bool.true_or,Bool.false_and,Bool.true_and]
     exact Sub.env ⟨Z,Z,Z,Z,Z,Z,Y⟩
    ·refine AWP.u (.j Z Z (.J Z Z Z (.j Z Z (.z Z Z Z hb1 (.j Z Z (.z Z Z Z hb1 (.j Z Z (.z Z Z Z hb1 (.geq Z Z Z (.ab Z hb1 Z Z (.nil (b6 ?_))))))))))))
     simp only[and_f hb1,or_f hb1,Bool.false_or,Bool.true_or,Bool.false_and,Bool.true_and]
     exact Sub.env ⟨Z,Z,Z,Z,Z,Z,Y⟩
   ·refine AWP.ad Z h (fun hc5 h=> ?_) (fun hc5 h=> ?_)
    ·refine AWP.q (.u (W.build Z Z Z Z (W.storeAgg Z Z Z Z Z Z Z (.nil (b6 (.ret (j8 (e8 ?_))))))))
     obtain rfl:=oi h
     refine e8 ⟨_,Z,Z,?_⟩
     exact Done.ret Z Z
    ·refine AWP.skip (f4 (b6 (.u (.add Z Z Z (by omega) (.j Z Z (.nil ?_))))))
     obtain rfl:=oi h
     refine b6 ⟨_,Z,?_⟩
     exact Sub.env ⟨Z,Z,Z,Z,Z,Y⟩
  ·intro e s hq
   rcases oo with u|x
   ·try dsimp only at h hq
    obtain⟨rfl,hs⟩:=hq
    refine⟨_,hs,?_⟩
    refine j7 (b6 (.q (.u (W.build Z Z Z Z (W.storeAgg Z Z Z Z Z Z Z (.nil (b6 (.ret ?_))))))))
    obtain rfl:=oi h
    exact Done.ret Z Z
   ·try dsimp only at h hq
    obtain⟨rfl,hs⟩:=hq
    refine⟨_,Sub.refl _ _,?_⟩
    refine j8 (e8 ?_)
    obtain rfl:=oi h
    exact hs
theorem ap6{t:d6}{plan:Li}{r:i9}(h:J6 t plan=some r):g9 prog 7 [.agg (tT t),(cR plan)] (.agg [int r.code,int r.index]):=by
 unfold g9
 refine FnOk.enter (rs:=[.cell 4 27 2]) func7 Z ntmps7 results7 Z ⟨rv _ Z,Y⟩ (by kernel_rfl) Z ?_
 unfold J6 at h
 refine AWP.q (.u (W.box Z Z Z Z Z Z (W.alloc Z Z Z Z (.nil (b6 (.q (.q ?_)))))))
 obtain⟨a7,ha7,h⟩:=b9 h
 refine AWP.u (W.loadAgg Z Z Z Z Z Z Z (.O Z Z Z Z (G1 ha7) Z (W.alloc Z Z Z Z (W.storeAgg Z Z Z Z Z Z Z (.nil (b6 (.q (.u (W.loadAgg Z Z Z Z Z Z Z (W.build Z Z Z Z (.neqP Z Z Z Z Z Z Z (.nil (b6 (.ad Z h (fun hc3 h=> ?_) (fun hc3 h=> ?_)))))))))))))))
 ·refine AWP.q (.u (W.loadAgg Z Z Z Z Z Z Z (W.storeAgg Z Z Z Z Z Z Z (.nil (b6 (.ret (e8 ?_)))))))
  obtain rfl:=oi h
  exact Done.ret Z Z
 ·refine AWP.skip (b6 (.q ?_))
  obtain⟨a16,ha16,h⟩:=b9 h
  refine AWP.u (W.fieldAddr Z Z Z Z (.B Z Z Z Z Z Z (S.len Z Z (fun hl14=>.j Z Z (.O Z Z Z Z (strips_Steps_ok ha16) Z (W.storeAgg Z Z Z Z Z Z Z (.nil (b6 (.ret ?_)))))))))
  obtain rfl:=oi h
  exact Done.ret Z Z
theorem T7{sv:Li}{part:Li}{r:Bool}(h:A8 sv part=some r):g9 prog 12 [(cR sv),(cR part)] ((cB r)):=by
 unfold g9
 refine FnOk.enter (rs:=[.t 4]) func12 Z ntmps12 results12 Z ⟨Y,Y⟩ (by kernel_rfl) Z ?_
 unfold A8 at h
 refine AWP.q (.u (.v Z Z (.nil (b6 (.q (.u (.v Z Z (.nil (b6 (.q (.q (.u (.j Z Z (S.len Z Z (fun hl9=>.j Z Z (.nil (b6 (.F ?_))))))))))))))))))
 obtain⟨oo,ho1,h⟩:=b9 h
 refine AWP.rngS ho1 (fun t4 iv3=>⟨[(0,(cR sv)),(5,(cI iv3)),(8,(cR part)),(9,(cI (part.length:Int))),(10,(cI t4))],[]⟩) (fun o e st=>match o with| .inl iv3=>e=.exit 0∧Sub [] st ⟨[],[]⟩| .inr x=>e=.ret∧Done [.t 4] (fun t _=>t=(cB x)) .ret st) ?_ ?_ ?_ ?_
 ·try dsimp only
  exact Sub.env ⟨Z,Z,Z,Z,Z,Y⟩
 ·intro t4 iv3 hlot4 hltt4 _
  try dsimp only
  refine AWP.q (.u (.J Z Z Z (.nil (b6 (.q (.ae Z hltt4 (.exit (f5 (f5 ⟨Z,?_⟩)))))))))
  exact Sub.env Y
 ·intro t4 iv3 o hlot4 hltt4 h
  unfold M2 at h
  try dsimp only at h ⊢
  refine AWP.q (.u (.J Z Z Z (.nil (b6 (.q (.af Z hltt4 (.skip (b6 (.q (.F (.q ?_)))))))))))
  obtain⟨a12,ha12,h⟩:=b9 h
  refine AWP.u (S.idx ha12 Z Z Z Z (.ai Z Z Z Z (.v Z Z (.nil (b6 (.q (.F ?_)))))))
  obtain⟨iv6,ho2,h⟩:=b9 h
  refine AWP.loopS ho2 (fun iv5=>⟨[(0,(cR sv)),(5,(cI iv5)),(7,(cI a12)),(8,(cR part)),(9,(cI (part.length:Int))),(10,(cI t4))],[]⟩) (fun iv6 e st=>e=.exit 2∧Sub [] st ⟨[(0,(cR sv)),(5,(cI iv6)),(7,(cI a12)),(8,(cR part)),(9,(cI (part.length:Int))),(10,(cI t4))],[]⟩) ?_ ?_ ?_
  ·try dsimp only
   exact Sub.env ⟨Z,Z,Z,Z,Z,Z,Y⟩
  ·intro iv5 o h
   unfold G0 at h
   try dsimp only at h ⊢
   refine AWP.q ?_
   obtain⟨t7,hx8,h⟩:=b9 h
   refine AWP.seqJ (⟨[(0,(cR sv)),(5,(cI iv5)),(7,(cI a12)),(8,(cR part)),(9,(cI (part.length:Int))),(10,(cI t4)),(25,(cB t7))],[]⟩) ?_ ?_
   ·rcases bft (decide (iv5<(sv.length:Int))) with hb9|hb9
    ·replace hx8:=N0 hb9 hx8
     obtain⟨a21,ha21,hx8⟩:=b9 hx8
     refine AWP.u (.j Z Z (.j Z Z (S.len Z Z (fun hl16=>.J Z Z Z (.j Z Z (.z Z Z Z hb9 (.j Z Z (.z Z Z Z hb9 (.j Z Z (.z Z Z Z hb9 (S.idx ha21 Z Z Z Z (.z Z Z Z hb9 (.ai Z Z Z Z (.z Z Z Z hb9 (.j Z Z (.z Z Z Z hb9 (.J Z Z Z (.U Z hb9 Z Z (.nil ?_)))))))))))))))))))
     obtain rfl:=oi hx8
     refine b6 (Sub.env ⟨Z,Z,Z,Z,Z,Z,Z,Y⟩)
    ·replace hx8:=L9 hb9 hx8
     refine AWP.u (.j Z Z (.j Z Z (S.len Z Z (fun hl16=>.J Z Z Z (.j Z Z (.E Z Z Z hb9 (.E Z Z Z hb9 (.E Z Z Z hb9 (.E Z Z Z hb9 (.E Z Z Z hb9 (.E Z Z Z hb9 (.ab Z hb9 Z Z (.nil ?_)))))))))))))
     obtain rfl:=oi hx8
     refine b6 (Sub.env ⟨Z,Z,Z,Z,Z,Z,Z,Y⟩)
   ·refine AWP.ad Z h (fun hc10 h=> ?_) (fun hc10 h=> ?_)
    ·refine AWP.skip (b6 (.F (.u (.j Z Z (S.add Z Z Z (.v Z Z (.nil (f4 ?_))))))))
     obtain rfl:=oi h
     refine b6 ⟨_,Z,?_⟩
     exact Sub.env ⟨Z,Z,Z,Z,Z,Z,Y⟩
    ·refine AWP.exit (f5 ?_)
     obtain rfl:=oi h
     refine f5 ⟨_,Z,Z,?_⟩
     exact Sub.env ⟨Z,Z,Z,Z,Z,Z,Y⟩
  ·intro e s hq
   obtain⟨rfl,hs⟩:=hq
   refine⟨_,hs,?_⟩
   refine j7 (b6 ?_)
   obtain⟨t11,hx12,h⟩:=b9 h
   refine AWP.seqJ (⟨[(0,(cR sv)),(5,(cI iv6)),(8,(cR part)),(9,(cI (part.length:Int))),(10,(cI t4)),(39,(cB t11))],[]⟩) ?_ ?_
   ·rcases bft (decide (iv6=(sv.length:Int))) with hb13|hb13
    ·replace hx12:=N0 hb13 hx12
     refine AWP.u (.j Z Z (.j Z Z (S.len Z Z (fun hl30=>.eql Z Z Z (.j Z Z (.E Z Z Z hb13 (.E Z Z Z hb13 (.E Z Z Z hb13 (.E Z Z Z hb13 (.E Z Z Z hb13 (.E Z Z Z hb13 (.U Z hb13 Z Z (.nil ?_)))))))))))))
     obtain rfl:=oi hx12
     refine b6 (Sub.env ⟨Z,Z,Z,Z,Z,Z,Y⟩)
    ·replace hx12:=L9 hb13 hx12
     obtain⟨a35,ha35,hx12⟩:=b9 hx12
     refine AWP.u (.j Z Z (.j Z Z (S.len Z Z (fun hl30=>.eql Z Z Z (.j Z Z (.z Z Z Z hb13 (.j Z Z (.z Z Z Z hb13 (.j Z Z (.z Z Z Z hb13 (S.idx ha35 Z Z Z Z (.z Z Z Z hb13 (.ai Z Z Z Z (.z Z Z Z hb13 (.j Z Z (.z Z Z Z hb13 (.neq Z Z Z (.ab Z hb13 Z Z (.nil ?_)))))))))))))))))))
     obtain rfl:=oi hx12
     refine b6 (Sub.env ⟨Z,Z,Z,Z,Z,Z,Y⟩)
   ·refine AWP.ad Z h (fun hc14 h=> ?_) (fun hc14 h=> ?_)
    ·refine AWP.q (.u (.v Z Z (.nil (b6 (.ret (j8 (e8 ?_)))))))
     obtain rfl:=oi h
     refine e8 ⟨_,Z,Z,?_⟩
     exact Done.ret Z Z
    ·refine AWP.skip (f4 (b6 (.u (.add Z Z Z (by omega) (.j Z Z (.nil ?_))))))
     obtain rfl:=oi h
     refine b6 ⟨_,Z,?_⟩
     exact Sub.env ⟨Z,Z,Z,Z,Z,Y⟩
 ·intro e s hq
  rcases oo with iv3|x
  ·try dsimp only at h hq
   obtain⟨rfl,hs⟩:=hq
   refine⟨_,hs,?_⟩
   refine j7 (b6 (.q (.u (.v Z Z (.nil (b6 (.ret ?_)))))))
   obtain rfl:=oi h
   exact Done.ret Z Z
  ·try dsimp only at h hq
   obtain⟨rfl,hs⟩:=hq
   refine⟨_,Sub.refl _ _,?_⟩
   refine j8 (e8 ?_)
   obtain rfl:=oi h
   exact hs
theorem as3{sv:Li}{c2:Li}{r:Bool}(h:W7 sv c2=some r):g9 prog 61 [(cR sv),.c (.imm (.ipt [.sl 1 (List.map intI c2)]))] ((cB r)):=by
 unfold g9
 refine FnOk.enter (rs:=[.t 3]) func61 Z ntmps61 results61 Z ⟨Y,Y⟩ (by kernel_rfl) Z ?_
 unfold W7 at h
 refine AWP.q (.u (.v Z Z (.nil (b6 (.q ?_)))))
 obtain⟨a6,ha6,h⟩:=b9 h
 refine AWP.u (.j Z Z (.ai Z Z Z Z (.O Z Z Z Z (T7 ha6) Z (.not Z Z (.v Z Z (.nil (b6 (.ret ?_))))))))
 obtain rfl:=oi h
 exact Done.ret Z Z
theorem ah8{sv:LL}{fv:Li→Option Bool}{r:Int}{fvfv:FuncId}{cvfv:List C}(hcvfv:C.okL 0 cvfv=true)(hfv:∀{y1:Li} {z:Bool},fv y1=some z→g9 prog fvfv ([(cR y1)]++cvfv.map T.c) ((cB z)))(h:F7 sv fv=some r):g9 prog 85 [.c (row 1 f9 sv),.c (.fn fvfv cvfv)] ((cI r)):=by
 unfold g9
 refine FnOk.enter (rs:=[.t 4]) func85 Z ntmps85 results85 Z ⟨Y,Y⟩ (by kernel_rfl) Z ?_
 unfold F7 at h
 refine AWP.q (.u (.v Z Z (.nil (b6 (.q (.q (.u (.j Z Z (S.len Z Z (fun hl7=>.j Z Z (.nil (b6 (.F ?_)))))))))))))
 obtain⟨oo,ho1,h⟩:=b9 h
 refine AWP.rngS ho1 (fun t3 _=>⟨[(0,.c (row 1 f9 sv)),(1,.c (.fn fvfv cvfv)),(7,(cI (sv.length:Int))),(8,(cI t3))],[]⟩) (fun o e st=>match o with| .inl _=>e=.exit 0∧Sub [] st ⟨[],[]⟩| .inr x=>e=.ret∧Done [.t 4] (fun t _=>t=(cI x)) .ret st) ?_ ?_ ?_ ?_
 ·try dsimp only
  exact Sub.env ⟨Z,Z,Z,Z,Y⟩
 ·intro t3 s hlot3 hltt3 _
  try dsimp only
  refine AWP.q (.u (.J Z Z Z (.nil (b6 (.q (.ae Z hltt3 (.exit (f5 (f5 ⟨Z,?_⟩)))))))))
  exact Sub.env Y
 ·intro t3 s o hlot3 hltt3 h
  unfold C9 at h
  try dsimp only at h ⊢
  refine AWP.q (.u (.J Z Z Z (.nil (b6 (.q (.af Z hltt3 (.skip (b6 (.q (.F (.q (.u (.j Z Z (.v Z Z (.nil (b6 (.q ?_)))))))))))))))))
  obtain⟨a14,ha14,a16,ha16,h⟩:=b2 h
  refine AWP.u (.j Z Z (.j Z Z (.j Z Z (S.idx ha14 Z Z Z Z (.ai Z Z Z Z (.O Z Z (okL_app Z hcvfv) Z (hfv ha16) Z (.nil (b6 (.ad Z h (fun hc4 h=> ?_) (fun hc4 h=> ?_))))))))))
  ·refine AWP.q (.u (.j Z Z (.v Z Z (.nil (b6 (.ret (j8 (e8 ?_))))))))
   obtain rfl:=oi h
   refine e8 ⟨_,Z,Z,?_⟩
   exact Done.ret Z Z
  ·refine AWP.skip (f4 (b6 (.u (.add Z Z Z (by omega) (.j Z Z (.nil ?_))))))
   obtain rfl:=oi h
   refine b6 ⟨_,Z,?_⟩
   exact Sub.env ⟨Z,Z,Z,Z,Y⟩
 ·intro e s hq
  rcases oo with u|x
  ·try dsimp only at h hq
   obtain⟨rfl,hs⟩:=hq
   refine⟨_,hs,?_⟩
   refine j7 (b6 (.q (.u (.v Z Z (.nil (b6 (.ret ?_)))))))
   obtain rfl:=oi h
   exact Done.ret Z Z
  ·try dsimp only at h hq
   obtain⟨rfl,hs⟩:=hq
   refine⟨_,Sub.refl _ _,?_⟩
   refine j8 (e8 ?_)
   obtain rfl:=oi h
   exact hs
theorem ad4{sv:LL}{fv:Li→Option Bool}{r:Bool}{fvfv:FuncId}{cvfv:List C}(hcvfv:C.okL 0 cvfv=true)(hfv:∀{y1:Li} {z:Bool},fv y1=some z→g9 prog fvfv ([(cR y1)]++cvfv.map T.c) ((cB z)))(h:w9 sv fv=some r):g9 prog 60 [.c (row 1 f9 sv),.c (.fn fvfv cvfv)] ((cB r)):=by
 unfold g9
 refine FnOk.enter (rs:=[.t 4]) func60 Z ntmps60 results60 Z ⟨Y,Y⟩ (by kernel_rfl) Z ?_
 unfold w9 at h
 refine AWP.q (.u (.v Z Z (.nil (b6 (.q ?_)))))
 obtain⟨a7,ha7,h⟩:=b9 h
 refine AWP.u (.j Z Z (.j Z Z (.O Z Z (by simp[T.okL,T.ok,C.ok,C.okL,hcvfv]) Z (ah8 hcvfv hfv ha7) Z (.geq Z Z Z (.v Z Z (.nil (b6 (.ret ?_))))))))
 obtain rfl:=oi h
 exact Done.ret Z Z
theorem N8{worlds:LL}{facts:Li}{r:Bool}(h:J1 worlds facts=some r):g9 prog 44 [.c (row 1 f9 worlds),(cR facts)] ((cB r)):=by
 unfold g9
 refine FnOk.enter (rs:=[.t 4]) func44 Z ntmps44 results44 Z ⟨Y,Y⟩ (by kernel_rfl) Z ?_
 unfold J1 at h
 refine AWP.q (.u (W.box Z Z Z Z Z Z (.v Z Z (.nil (b6 (.q ?_))))))
 obtain⟨a7,ha7,h⟩:=b9 h
 refine AWP.u (.j Z Z (.ak Z Z (.callL Z Z (.cons (.c .imm) (.cons (.c (.fn (.cons (.ptr (es:=[.sl 1 (List.map intI facts)]) Z Z (.cons .imm .nil)) .nil))) .nil)) Z (ad4 Z (fun hy=>as3 hy) ha7) Z ?_)))
 refine AOps.not Z Z (.v Z Z (.nil (b6 (.ret ?_))))
 obtain rfl:=oi h
 exact Done.ret Z Z
theorem aj4{sv:Li}{add:Li}{del:Li}{r:Li}(h:E4 sv add del=some r):n8 prog 53 [(cR sv),(cR add),(cR del)] 1 (List.map intI r):=by
 unfold n8
 refine FnOk.enter (rs:=[.t 6]) func53 Z ntmps53 results53 Z ⟨Y,Y⟩ (by kernel_rfl) Z ?_
 unfold E4 at h
 refine AWP.q (.u (.v Z Z (.nil (b6 (.q (.u (.v Z Z (.nil (b6 (.q (.q (.u (.j Z Z (S.len Z Z (fun hl13=>.j Z Z (.nil (b6 (.F (.virtV 1 intI 7 Z Z Z ?_)))))))))))))))))))
 obtain⟨c4,ho1,h⟩:=b9 h
 refine AWP.forS ho1 (fun t5 c4=>⟨[(1,(cR add)),(2,(cR del)),(7,.c (.own 0 0 c4.length)),(12,(cR sv)),(13,(cI (sv.length:Int))),(14,(cI t5))],[(oV 1 intI c4)]⟩) (fun c4 e st=>e=.exit 0∧Sub [] st ⟨[(1,(cR add)),(7,.c (.own 0 0 c4.length))],[(oV 1 intI c4)]⟩) ?_ ?_ ?_ ?_
 ·try dsimp only
  exact Sub.env ⟨Z,Z,(J3 (by first|rfl|simp only[lS])),Z,Z,Z,Y⟩
 ·intro t5 c4 hlot5 hltt5 _
  try dsimp only
  refine AWP.q (.u (.J Z Z Z (.nil (b6 (.q (.ae Z hltt5 (.exit (f5 (f5 ⟨Z,?_⟩)))))))))
  exact Sub.env ⟨Z,Z,Y⟩
 ·intro t5 c4 o hlot5 hltt5 h
  unfold Y1 at h
  try dsimp only at h ⊢
  refine AWP.q (.u (.J Z Z Z (.nil (b6 (.q (.af Z hltt5 (.skip (b6 ?_))))))))
  obtain⟨c6,hx7,h⟩:=b9 h
  refine AWP.seqJ (⟨[(1,(cR add)),(2,(cR del)),(7,.c (.own 2 0 c6.length)),(12,(cR sv)),(13,(cI (sv.length:Int))),(14,(cI t5))],[.dead,.dead,(oV 1 intI c6)]⟩) ?_ ?_
  ·refine AWP.F (.q ?_)
   obtain⟨a16,ha16,hx7⟩:=b9 hx7
   refine AWP.u (S.idx ha16 Z Z Z Z (.ai Z Z Z Z (.v Z Z (.nil (b6 (.q ?_))))))
   obtain⟨a21,ha21,hx7⟩:=b9 hx7
   refine AWP.u (.j Z Z (.j Z Z (.O Z Z Z Z (M4 ha21) Z (.j Z Z (.aa Z Z Z (.aa Z Z Z (.v Z Z (.v Z Z (.nil (b6 (.q (.u (.j Z Z (.not Z Z (.nil (b6 (.ad Z hx7 (fun hc8 hx7=> ?_) (fun hc8 hx7=> ?_))))))))))))))))))
   ·obtain⟨a29,ha29,hx7⟩:=b9 hx7
    refine AWP.u (.j Z Z (.j Z Z (S.lit (f:=intI) (l:=[a16]) (ess:=[[int a16]]) Z Z Z Z Z Z Z ⟨⟨.inl Z,Y⟩,Y⟩ Z Z Z (S.append (f:=intI) ha29 Z Z Z Z Z Z (.own Z Z) Z Z Z Z (.v Z Z (.nil (f4 ?_)))))))
    obtain rfl:=oi hx7
    refine b6 (Sub.cut ⟨Z,Z,Z,Z,Z,Z,Y⟩ Z ⟨.dead,.dead,.vec,Y⟩ Z)
   ·refine AWP.skip (f4 ?_)
    obtain rfl:=oi hx7
    refine b6 ((Sub.move (env':=[(1,(cR add)),(2,(cR del)),(7,.c (.own 2 0 c4.length)),(12,(cR sv)),(13,(cI (sv.length:Int))),(14,(cI t5))]) (σ':=[.dead,.dead,(oV 1 intI c4)]) 2 0 Z Z Z ⟨Z,Z,Z,Z,Z,Z,Y⟩ Z ⟨Y,Y,⟨Blk.im_ok _ _ _,g8 Z⟩,Y⟩).trans (Sub.env ⟨Z,Z,Z,Z,Z,Z,Y⟩))
  ·refine AWP.u (.add Z Z Z (by omega) (.j Z Z (.nil ?_)))
   obtain rfl:=oi h
   refine b6 ((Sub.move (env':=[(1,(cR add)),(2,(cR del)),(7,.c (.own 0 0 c6.length)),(12,(cR sv)),(13,(cI (sv.length:Int))),(14,(cI (t5+1)))]) (σ':=[(oV 1 intI c6),.dead]) 0 2 Z Z Z ⟨Z,Z,Z,Z,Z,Z,Y⟩ Z ⟨⟨Blk.im_ok _ _ _,g8 Z⟩,Y,Y⟩).trans (Sub.cut ⟨Z,Z,Z,Z,Z,Z,Y⟩ Z ⟨.vec,Y⟩ Z))
 ·intro e s hq
  obtain⟨rfl,hs⟩:=hq
  refine⟨_,hs,?_⟩
  refine j7 (b6 (.q ?_))
  obtain⟨a33,ha33,h⟩:=b9 h
  refine AWP.u (.j Z Z (.j Z Z (S.append (f:=intI) ha33 Z Z Z Z Z Z .row Z Z Z Z (.v Z Z (.nil (b6 (.q (.j (env':=[(7,.c (.own 0 0 a33.length))]) (σ':=[(oV 1 intI a33)]) 0 1 Z Z Z ⟨Z,Y⟩ Z ⟨⟨Blk.im_ok _ _ _,g8 Z⟩,Y⟩ ?_))))))))
  obtain⟨a35,ha35,h⟩:=b9 h
  refine AWP.u (.j Z Z (S.sort ha35 sortL_ok Z Z Z Z Z Z (.nil (b6 (.q (.u (.j Z Z (S.compact compactL_ok Z Z (sortL_len ha35) Z Z Z Z Z (.v Z Z (.nil (b6 (.ret ?_))))))))))))
  obtain rfl:=oi h
  exact Done.ret Z (Fresh.mk Z Z)
theorem U2{t:d6}{sv:Li}{op:Int}{r:Li}(h:N3 t sv op=some r):n8 prog 32 [.agg (tT t),(cR sv),(cI op)] 1 (List.map intI r):=by
 unfold n8
 refine FnOk.enter (rs:=[.t 6]) func32 Z ntmps32 results32 Z ⟨Y,Y⟩ (by kernel_rfl) Z ?_
 unfold N3 at h
 refine AWP.q (.u (W.box Z Z Z Z Z Z (.v Z Z (.nil (b6 (.q ?_))))))
 obtain⟨a11,ha11,h⟩:=b9 h
 refine AWP.u (W.fieldAddr Z Z Z Z (.B Z Z Z Z Z Z (.j Z Z (S.idx ha11 Z Z Z Z (W.loadIAgg Z Z Z Z Z (W.alloc Z Z Z Z (W.storeAgg Z Z Z Z Z Z Z (.nil (b6 (.q ?_))))))))))
 obtain⟨a18,ha18,h⟩:=b9 h
 refine AWP.u (.j Z Z (W.fieldAddr Z Z Z Z (.B Z Z Z Z Z Z (W.fieldAddr Z Z Z Z (.B Z Z Z Z Z Z (S.fresh Z Z Z Z (aj4 ha18) Z Z (.v Z Z (.nil (b6 (.ret ?_))))))))))
 obtain rfl:=oi h
 exact Done.ret Z (Fresh.mk Z Z)
theorem ar0{xv:Int}{yv:Int}{r:Int}(h:M6 xv yv=some r):g9 prog 58 [(cI xv),(cI yv)] ((cI r)):=by
 unfold g9
 refine FnOk.enter (rs:=[.t 4]) func58 Z ntmps58 results58 Z ⟨Y,Y⟩ (by kernel_rfl) Z ?_
 unfold M6 at h
 refine AWP.q (.u (.v Z Z (.nil (b6 (.q ?_)))))
 obtain⟨a8,ha8,h⟩:=b9 h
 refine AWP.u (.j Z Z (.O Z Z Z Z (C0 ha8) Z (.v Z Z (.nil (b6 (.q ?_))))))
 obtain⟨a10,ha10,h⟩:=b9 h
 refine AWP.u (.j Z Z (.O Z Z Z Z (C0 ha10) Z (.v Z Z (.nil (b6 (.q (.q (.u (.j Z Z (.nil (b6 (.ad Z h (fun hc3 h=> ?_) (fun hc3 h=> ?_)))))))))))))
 ·refine AWP.q (.q (.u (.j Z Z (.nil (b6 (.ad Z h (fun hc4 h=> ?_) (fun hc4 h=> ?_)))))))
  ·refine AWP.q (.u (.v Z Z (.nil (b6 (.ret (e8 (e8 ?_)))))))
   obtain rfl:=oi h
   exact Done.ret Z Z
  ·refine AWP.skip (b6 (.q (.u (.v Z Z (.nil (b6 (.ret (e8 ?_))))))))
   obtain rfl:=oi h
   exact Done.ret Z Z
 ·refine AWP.skip (b6 (.q (.q (.u (.j Z Z (.nil (b6 (.ad Z h (fun hc5 h=> ?_) (fun hc5 h=> ?_)))))))))
  ·refine AWP.q (.u (.v Z Z (.nil (b6 (.ret (e8 ?_))))))
   obtain rfl:=oi h
   exact Done.ret Z Z
  ·refine AWP.skip (b6 (.q (.q (.u (.j Z Z (.j Z Z (.J Z Z Z (.nil (b6 (.ac Z h (fun hc6 h=> ?_) (fun hc6 h=> ?_)))))))))))
   ·refine AWP.q (.u (.v Z Z (.nil (b6 (.ret (e8 ?_))))))
    obtain rfl:=oi h
    exact Done.ret Z Z
   ·refine AWP.skip (b6 (.q (.q (.u (.j Z Z (.j Z Z (.gtr Z Z Z (.nil (b6 (.ac Z h (fun hc7 h=> ?_) (fun hc7 h=> ?_)))))))))))
    ·refine AWP.q (.u (.v Z Z (.nil (b6 (.ret (e8 ?_))))))
     obtain rfl:=oi h
     exact Done.ret Z Z
    ·refine AWP.skip (b6 (.q (.u (.v Z Z (.nil (b6 (.ret ?_)))))))
     obtain rfl:=oi h
     exact Done.ret Z Z
theorem R5{s11:Li}{s22:Li}{r:Int}(h:s6 s11 s22=some r):g9 prog 38 [(cR s11),(cR s22)] ((cI r)):=by
 unfold g9
 refine FnOk.enter (rs:=[.t 4]) func38 Z ntmps38 results38 Z ⟨Y,Y⟩ (by kernel_rfl) Z ?_
 unfold s6 at h
 refine AWP.q (.u (.v Z Z (.nil (b6 (.q (.q (.u (.j Z Z (S.len Z Z (fun hl10=>.j Z Z (.nil (b6 (.F ?_)))))))))))))
 obtain⟨oo,ho1,h⟩:=b9 h
 refine AWP.rngS ho1 (fun t3 _=>⟨[(0,(cR s11)),(1,(cR s22)),(9,(cR s11)),(10,(cI (s11.length:Int))),(11,(cI t3))],[]⟩) (fun o e st=>match o with| .inl _=>e=.exit 0∧Sub [] st ⟨[(0,(cR s11)),(1,(cR s22))],[]⟩| .inr x=>e=.ret∧Done [.t 4] (fun t _=>t=(cI x)) .ret st) ?_ ?_ ?_ ?_
 ·try dsimp only
  exact Sub.env ⟨Z,Z,Z,Z,Z,Y⟩
 ·intro t3 s hlot3 hltt3 _
  try dsimp only
  refine AWP.q (.u (.J Z Z Z (.nil (b6 (.q (.ae Z hltt3 (.exit (f5 (f5 ⟨Z,?_⟩)))))))))
  exact Sub.env ⟨Z,Z,Y⟩
 ·intro t3 s o hlot3 hltt3 h
  unfold C8 at h
  try dsimp only at h ⊢
  refine AWP.q (.u (.J Z Z Z (.nil (b6 (.q (.af Z hltt3 (.skip (b6 (.q (.F (.q ?_)))))))))))
  obtain⟨a14,ha14,h⟩:=b9 h
  refine AWP.u (.j Z Z (S.idx ha14 Z Z Z Z (.ai Z Z Z Z (.v Z Z (.v Z Z (.nil (b6 (.q (.q (.u (.j Z Z (.j Z Z (S.len Z Z (fun hl18=>.geq Z Z Z (.nil (b6 (.ac Z h (fun hc4 h=> ?_) (fun hc4 h=> ?_))))))))))))))))))
  ·refine AWP.q (.u (.v Z Z (.nil (b6 (.ret (e8 (j8 (e8 ?_))))))))
   obtain rfl:=oi h
   refine e8 ⟨_,Z,Z,?_⟩
   exact Done.ret Z Z
  ·refine AWP.skip (b6 (.q ?_))
   obtain⟨a22,ha22,h⟩:=b9 h
   refine AWP.u (.j Z Z (.j Z Z (S.idx ha22 Z Z Z Z (.ai Z Z Z Z (.v Z Z (.nil (b6 (.q ?_))))))))
   obtain⟨a26,ha26,h⟩:=b9 h
   refine AWP.u (.j Z Z (.j Z Z (.O Z Z Z Z (ar0 ha26) Z (.v Z Z (.nil (b6 (.q (.u (.j Z Z (.neq Z Z Z (.nil (b6 (.iteN Z h (fun hc5 h=> ?_) (fun hc5 h=> ?_))))))))))))))
   ·refine AWP.q (.u (.j Z Z (.v Z Z (.nil (b6 (.ret (j8 (e8 ?_))))))))
    obtain rfl:=oi h
    refine e8 ⟨_,Z,Z,?_⟩
    exact Done.ret Z Z
   ·refine AWP.skip (f4 (b6 (.u (.add Z Z Z (by omega) (.j Z Z (.nil ?_))))))
    obtain rfl:=oi h
    refine b6 ⟨_,Z,?_⟩
    exact Sub.env ⟨Z,Z,Z,Z,Z,Y⟩
 ·intro e s hq
  rcases oo with u|x
  ·try dsimp only at h hq
   obtain⟨rfl,hs⟩:=hq
   refine⟨_,hs,?_⟩
   refine j7 (b6 (.q (.q (.u (.j Z Z (S.len Z Z (fun hl32=>.j Z Z (S.len Z Z (fun hl34=>.J Z Z Z (.nil (b6 (.ac Z h (fun hc6 h=> ?_) (fun hc6 h=> ?_)))))))))))))
   ·refine AWP.q (.u (.v Z Z (.nil (b6 (.ret (e8 ?_))))))
    obtain rfl:=oi h
    exact Done.ret Z Z
   ·refine AWP.skip (b6 (.q (.u (.v Z Z (.nil (b6 (.ret ?_)))))))
    obtain rfl:=oi h
    exact Done.ret Z Z
  ·try dsimp only at h hq
   obtain⟨rfl,hs⟩:=hq
   refine⟨_,Sub.refl _ _,?_⟩
   refine j8 (e8 ?_)
   obtain rfl:=oi h
   exact hs
theorem V0{s11:Li}{s22:Li}{r:Bool}(h:A0 s11 s22=some r):g9 prog 84 [(cR s11),(cR s22)] ((cB r)):=by
 unfold g9
 refine FnOk.enter (rs:=[.t 4]) func84 Z ntmps84 results84 Z ⟨Y,Y⟩ (by kernel_rfl) Z ?_
 unfold A0 at h
 refine AWP.q (.u (.v Z Z (.nil (b6 (.q (.q (.u (.j Z Z (S.len Z Z (fun hl7=>.j Z Z (S.len Z Z (fun hl9=>.neq Z Z Z (.nil (b6 (.iteN Z h (fun hc3 h=> ?_) (fun hc3 h=> ?_))))))))))))))))
 ·refine AWP.q (.u (.v Z Z (.nil (b6 (.ret (e8 ?_))))))
  obtain rfl:=oi h
  exact Done.ret Z Z
 ·refine AWP.skip (b6 (.q (.q (.u (.j Z Z (S.len Z Z (fun hl12=>.j Z Z (.nil (b6 (.F ?_))))))))))
  obtain⟨oo,ho1,h⟩:=b9 h
  refine AWP.rngS ho1 (fun t4 _=>⟨[(0,(cR s11)),(1,(cR s22)),(12,(cI (s11.length:Int))),(13,(cI t4))],[]⟩) (fun o e st=>match o with| .inl _=>e=.exit 0∧Sub [] st ⟨[],[]⟩| .inr x=>e=.ret∧Done [.t 4] (fun t _=>t=(cB x)) .ret st) ?_ ?_ ?_ ?_
  ·try dsimp only
   exact Sub.env ⟨Z,Z,Z,Z,Y⟩
  ·intro t4 s hlot4 hltt4 _
   try dsimp only
   refine AWP.q (.u (.J Z Z Z (.nil (b6 (.q (.ae Z hltt4 (.exit (f5 (f5 ⟨Z,?_⟩)))))))))
   exact Sub.env Y
  ·intro t4 s o hlot4 hltt4 h
   unfold K4 at h
   try dsimp only at h ⊢
   refine AWP.q (.u (.J Z Z Z (.nil (b6 (.q (.af Z hltt4 (.skip (b6 (.q (.F (.q (.u (.j Z Z (.v Z Z (.nil (b6 (.q ?_)))))))))))))))))
   obtain⟨a18,ha18,a22,ha22,h⟩:=b2 h
   refine AWP.drawI mixed Z ?_
   refine k9.consF Z (fun E=>.j Z Z .N) Z (.consF Z (fun E=>.j Z Z .N) Z (.consF Z (fun E=>S.idx ha18 Z Z Z Z .N) Z (.consF Z (fun E=>.ai Z Z Z Z .N) Z (.consF Z (fun E=>.j Z Z .N) Z (.consF Z (fun E=>.j Z Z .N) Z (.consF Z (fun E=>S.idx ha22 Z Z Z Z .N) Z (.consF Z (fun E=>.ai Z Z Z Z .N) Z (.consF Z (fun E=>.neq Z Z Z .N) Z ?_))))))))
   refine k9.done ?_
   dsimp only[j9]
   refine b6 (.iteN Z h (fun hc5 h=> ?_) (fun hc5 h=> ?_))
   ·refine AWP.q (.u (.v Z Z (.nil (b6 (.ret (j8 (e8 ?_)))))))
    obtain rfl:=oi h
    refine e8 ⟨_,Z,Z,?_⟩
    exact Done.ret Z Z
   ·refine AWP.skip (f4 (b6 (.u (.add Z Z Z (by omega) (.j Z Z (.nil ?_))))))
    obtain rfl:=oi h
    refine b6 ⟨_,Z,?_⟩
    exact Sub.env ⟨Z,Z,Z,Z,Y⟩
  ·intro e s hq
   rcases oo with u|x
   ·try dsimp only at h hq
    obtain⟨rfl,hs⟩:=hq
    refine⟨_,hs,?_⟩
    refine j7 (b6 (.q (.u (.v Z Z (.nil (b6 (.ret ?_)))))))
    obtain rfl:=oi h
    exact Done.ret Z Z
   ·try dsimp only at h hq
    obtain⟨rfl,hs⟩:=hq
    refine⟨_,Sub.refl _ _,?_⟩
    refine j8 (e8 ?_)
    obtain rfl:=oi h
    exact hs
theorem ab1{l:LL}{r:(LL)}(h:s7 l=some r):FnOk prog 83 [.c (.own 0 0 l.length),.c (.fn 84 [])] (w6 l) (fun tt ss=>tt=.c (.own 1 0 r.length)∧ss=[.dead,(oV 1 f9 r)]):=by
 refine FnOk.enter (rs:=[.t 4]) func83 Z ntmps83 results83 Z ⟨Y,Y⟩ (by kernel_rfl) Z ?_
 refine AWP.weak ?_
 unfold s7 at h
 refine AWP.j (env':=[(0,.c (.own 1 0 l.length)),(1,.c (.fn 84 []))]) (σ':=[.dead,(oV 1 f9 l)]) 1 0 Z Z Z ⟨Z,Z,Y⟩ Z ⟨Y,⟨Blk.im_ok _ _ _,g8 Z⟩,Y⟩ (.q (.u (.v Z Z (.nil (b6 (.q (.q (.u (.j Z Z (S.lenO Z Z Z (fun hl9=>.J Z Z Z (.nil (b6 (.ac Z h (fun hc53 h=> ?_) (fun hc53 h=> ?_)))))))))))))))
 ·refine AWP.q (.u (.j Z Z (.v Z Z (.nil (b6 (.ret (e8 ?_)))))))
  obtain rfl:=oi h
  exact⟨⟨[(4,.c (.own 1 0 l.length))],[.dead,(oV 1 f9 l)]⟩,Sub.env ⟨Z,Y⟩,Done.ret Z ⟨Z,Z⟩⟩
 ·refine AWP.skip (b6 (.q (.q (.u (.v Z Z (.nil (b6 (.F ?_))))))))
  obtain⟨oo,ho1,h⟩:=b9 h
  refine AWP.rngS ho1 (fun kv54 _=>⟨[(0,.c (.own 1 0 l.length)),(1,.c (.fn 84 [])),(5,(cI kv54))],[.dead,(oV 1 f9 l)]⟩) (fun o e st=>match o with| .inl _=>e=.exit 0∧Sub (w6 l) st ⟨[(0,.c (.own 1 0 l.length))],[.dead,(oV 1 f9 l)]⟩| .inr x=>e=.ret∧∃J,Sub (w6 l) st J∧Done [.t 4] (fun tt ss=>tt=.c (.own 1 0 x.length)∧ss=[.dead,(oV 1 f9 x)]) .ret J) ?_ ?_ ?_ ?_
  ·try dsimp only
   exact Sub.env ⟨Z,Z,Z,Y⟩
  ·intro kv54 s hlokv54 hltkv54 _
   try dsimp only
   refine AWP.q (.q (.u (.j Z Z (.j Z Z (S.lenO Z Z Z (fun hl14=>.J Z Z Z (.nil (b6 (.ae Z hltkv54 (.exit (f5 (f5 ⟨Z,?_⟩))))))))))))
   exact Sub.env ⟨Z,Y⟩
  ·intro kv54 s o hlokv54 hltkv54 h
   unfold o7 at h
   try dsimp only at h ⊢
   refine AWP.q (.q (.u (.j Z Z (.j Z Z (S.lenO Z Z Z (fun hl14=>.J Z Z Z (.nil (b6 (.af Z hltkv54 (.skip (b6 (.q (.F (.q ?_))))))))))))))
   obtain⟨a21,ha21,a26,ha26,a28,ha28,h⟩:=b3 h
   refine AWP.drawI mixed Z ?_
   refine k9.consF Z (fun E=>.j Z Z .N) Z (.consF Z (fun E=>.j Z Z .N) Z (.consF Z (fun E=>.j Z Z .N) Z (.consF Z (fun E=>S.idxO ha21 Z Z Z Z Z .N) Z (.consF Z (fun E=>S.loadO ha21 Z Z Z Z Z .N) Z (.consF Z (fun E=>.j Z Z .N) Z (.consF Z (fun E=>.j Z Z .N) Z (.consF Z (fun E=>.sub' Z Z Z (by omega) .N) Z (.consF Z (fun E=>S.idxO ha26 Z Z Z Z Z .N) Z (.consF Z (fun E=>S.loadO ha26 Z Z Z Z Z .N) Z (.consF Z (fun E=>.O Z Z Z Z (V0 ha28) Z .N) Z ?_))))))))))
   refine k9.done ?_
   dsimp only[j9]
   refine b6 (.ad Z h (fun hc55 h=> ?_) (fun hc55 h=> ?_))
   ·refine AWP.q ?_
    obtain⟨u31,hu31,h⟩:=b9 h
    refine AWP.u (.j Z Z (.j Z Z (S.vFrom (L5 l) hu31 Z Z Z Z Z Z (.v Z Z (.nil (b6 (.q (.q (.u (.v Z Z (.nil (b6 (.F ?_)))))))))))))
    obtain⟨⟨c56,kv57⟩,ho2,h⟩:=b9 h
    try dsimp only at h
    refine AWP.forS ho2 (fun k258 (c56,kv57)=>⟨[(0,.c (.own 1 0 c56.length)),(1,.c (.fn 84 [])),(5,(cI kv57)),(6,.c (.own 1 ((0+kv54).toNat) (((l.length:Int) - kv54).toNat))),(7,(cI k258))],[.dead,(oV 1 f9 c56)]⟩) (fun(c56,kv57) e st=>e=.exit 2∧Sub (w6 l) st ⟨[(0,.c (.own 1 0 c56.length)),(5,(cI kv57))],[.dead,(oV 1 f9 c56)]⟩) ?_ ?_ ?_ ?_
    ·try dsimp only
     exact Sub.env ⟨Z,Z,Z,Z,Z,Y⟩
    ·intro k258 s hlok258 hltk258 _
     obtain⟨c56,kv57⟩:=s
     try dsimp only
     refine AWP.q (.q (.u (.j Z Z (.j Z Z (S.lenV (S6 (vw_cut (L5 l) hu31)).2.1 Z Z Z (fun hl34=>.J Z Z Z (.nil (b6 (.ae Z hltk258 (.exit (f5 (f5 ⟨Z,?_⟩))))))))))))
     exact Sub.env ⟨Z,Z,Y⟩
    ·intro k258 s o hlok258 hltk258 h
     obtain⟨c56,kv57⟩:=s
     unfold r8 at h
     try dsimp only at h ⊢
     refine AWP.q (.q (.u (.j Z Z (.j Z Z (S.lenV (S6 (vw_cut (L5 l) hu31)).2.1 Z Z Z (fun hl34=>.J Z Z Z (.nil (b6 (.af Z hltk258 (.skip (b6 ?_)))))))))))
     obtain⟨⟨c59,kv60⟩,hx61,h⟩:=b9 h
     refine AWP.seqJ (⟨[(0,.c (.own 1 0 c59.length)),(1,.c (.fn 84 [])),(5,(cI kv60)),(6,.c (.own 1 ((0+kv54).toNat) (((l.length:Int) - kv54).toNat))),(7,(cI k258))],[.dead,(oV 1 f9 c59)]⟩) ?_ ?_
     ·refine AWP.F (.q ?_)
      obtain⟨a41,ha41,a46,ha46,a48,ha48,hx61⟩:=b3 hx61
      refine AWP.drawI mixed Z ?_
      refine k9.consF Z (fun E=>.j Z Z .N) Z (.consF Z (fun E=>.j Z Z .N) Z (.consF Z (fun E=>.j Z Z .N) Z (.consF Z (fun E=>S.idxV ha41 Z Z Z Z .N) Z (.consF Z (fun E=>S.loadO (ixV_ix ha41) Z Z Z Z Z .N) Z (.consF Z (fun E=>.j Z Z .N) Z (.consF Z (fun E=>.j Z Z .N) Z (.consF Z (fun E=>.sub' Z Z Z (by omega) .N) Z (.consF Z (fun E=>S.idxV ha46 Z Z Z Z .N) Z (.consF Z (fun E=>S.loadO (ixV_ix ha46) Z Z Z Z Z .N) Z (.consF Z (fun E=>.O Z Z Z Z (V0 ha48) Z .N) Z (.consF Z (fun E=>.not Z Z .N) Z ?_)))))))))))
      refine k9.done ?_
      dsimp only[j9]
      refine b6 (.ad Z hx61 (fun hc62 hx61=> ?_) (fun hc62 hx61=> ?_))
      ·refine AWP.q ?_
       obtain⟨a54,ha54,a56,ha56,hx61⟩:=b2 hx61
       refine AWP.u (.j Z Z (.j Z Z (.j Z Z (.j Z Z (S.idxV ha54 Z Z Z Z (S.loadO (ixV_ix ha54) Z Z Z Z Z (S.idxO ha56 Z Z Z Z Z (S.storeO1 (f:=f9) (a':=a54) (l8 ha56) (fun _=>⟨_,Z⟩) Z Z Z Z Z ?_))))))))
       refine AOps.nil (b6 (.u (.j Z Z (S.add Z Z Z (.v Z Z (.nil (f4 ?_)))))))
       obtain⟨ej0,ej1⟩:=o2 hx61
       subst ej0 ej1
       refine b6 (Sub.env ⟨(J3 (by first|rfl|simp only[lS])),Z,Z,Z,Z,Y⟩)
      ·refine AWP.skip (f4 ?_)
       obtain⟨ej0,ej1⟩:=o2 hx61
       subst ej0 ej1
       refine b6 (Sub.env ⟨Z,Z,Z,Z,Z,Y⟩)
     ·try dsimp only at h
      refine AWP.u (.j Z Z (.add Z Z Z (by omega) (.v Z Z (.nil ?_))))
      obtain rfl:=oi h
      refine b6 (Sub.env ⟨Z,Z,Z,Z,Z,Y⟩)
    ·intro e s hq
     obtain⟨rfl,hs⟩:=hq
     refine⟨_,hs,?_⟩
     refine j7 (b6 (.q ?_))
     obtain⟨u61,hu61,h⟩:=b9 h
     refine AWP.u (.j Z Z (.j Z Z (S.vFrom (L5 c56) hu61 Z Z Z Z Z Z (S.clear (a0:=[]) Z Z Z (fun _ _ _ _=>.imm .slNil) (vw_cut (L5 c56) hu61) Z Z Z Z Z ?_))))
     refine AOps.nil (b6 (.q ?_))
     obtain⟨u64,hu64,h⟩:=b9 h
     refine AWP.u (.j Z Z (.j Z Z ?_))
     refine S.vTo (L5 (clrL c56 (0+kv57) ((c56.length:Int) - kv57) [])) hu64 Z Z (by rw[Int.toNat_natCast];exact(clrL_len (vw_cut (L5 c56) hu61)).symm) Z Z Z ?_
     refine AOps.v Z Z (.nil (b6 (.reown (env':=[(4,.c (.own 2 0 ((k6 (clrL c56 (0+kv57) ((c56.length:Int) - kv57) []) 0 kv57).length)))]) 4 (vw_to (L5 (clrL c56 (0+kv57) ((c56.length:Int) - kv57) [])) hu64) Z Z Z Z Z Z Z Z (by exact⟨.inl ⟨Z,Z⟩,Y⟩) (.ret (j8 (e8 ?_))))))
     obtain rfl:=oi h
     refine e8 ⟨_,Z,Z,?_⟩
     exact⟨⟨[(4,.c (.own 1 0 ((k6 (clrL c56 (0+kv57) ((c56.length:Int) - kv57) []) 0 kv57).length)))],[.dead,(oV 1 f9 (k6 (clrL c56 (0+kv57) ((c56.length:Int) - kv57) []) 0 kv57))]⟩,(Sub.move (env':=[(4,.c (.own 1 0 ((k6 (clrL c56 (0+kv57) ((c56.length:Int) - kv57) []) 0 kv57).length)))]) (σ':=[.dead,(oV 1 f9 (k6 (clrL c56 (0+kv57) ((c56.length:Int) - kv57) []) 0 kv57))]) 1 2 Z Z Z ⟨Z,Y⟩ Z ⟨Y,⟨Blk.im_ok _ _ _,g8 Z⟩,Y⟩).trans (Sub.env ⟨Z,Y⟩),Done.ret Z ⟨Z,Z⟩⟩
   ·refine AWP.skip (f4 (b6 (.u (.j Z Z (.add Z Z Z (by omega) (.v Z Z (.nil ?_)))))))
    obtain rfl:=oi h
    refine b6 ⟨_,Z,?_⟩
    exact Sub.env ⟨Z,Z,Z,Y⟩
  ·intro e s hq
   rcases oo with u|x
   ·try dsimp only at h hq
    obtain⟨rfl,hs⟩:=hq
    refine⟨_,hs,?_⟩
    refine j7 (b6 (.q (.u (.j Z Z (.v Z Z (.nil (b6 (.ret ?_))))))))
    obtain rfl:=oi h
    exact⟨⟨[(4,.c (.own 1 0 l.length))],[.dead,(oV 1 f9 l)]⟩,Sub.env ⟨Z,Y⟩,Done.ret Z ⟨Z,Z⟩⟩
   ·try dsimp only at h hq
    obtain⟨rfl,hs⟩:=hq
    refine⟨_,Sub.refl _ _,?_⟩
    refine j8 (e8 ?_)
    obtain rfl:=oi h
    exact hs
theorem ae1{l:LL}{r:(LL)}(h:G7 l=some r):FnOk prog 59 [.c (.own 0 0 l.length)] (ar2 l) (fun tt ss=>tt=.c (.own 2 0 r.length)∧ss=[.dead,.dead,(oV 1 f9 r)]):=by
 refine FnOk.enter (rs:=[.t 2]) func59 Z ntmps59 results59 Z ⟨Y,Y⟩ (by kernel_rfl) Z ?_
 refine AWP.weak ?_
 unfold G7 at h
 refine AWP.j (env':=[(0,.c (.own 1 0 l.length))]) (σ':=[.dead,(oV 1 f9 l)]) 1 0 Z Z Z ⟨Z,Y⟩ Z ⟨Y,⟨Blk.im_ok _ _ _,g8 Z⟩,Y⟩ (.q (.u (.v Z Z (.nil (b6 (.q ?_))))))
 obtain⟨a4,ha4,h⟩:=b9 h
 refine AWP.u (.j Z Z (S.sortF (fun x=>.sl 1 (List.map intI x)) ha4 Z (fun hy=>R5 hy) sortF_LLi64_ok (⟨_,func38,Z,Z⟩) Z Z Z Z Z Z ?_))
 refine AOps.nil (b6 (.q ?_))
 obtain⟨a6,ha6,h⟩:=b9 h
 refine AWP.u (.j Z Z ?_)
 refine AOps.callF (r2:=.c (.own 2 0 a6.length)) (σ'':=[.dead,.dead,(oV 1 f9 a6)]) Z Z Z (FnOk.lend [1] (ab1 ha6) Z Z Z Z Z Z (by exact⟨.vec,Y⟩) (by rw[(sortFL_len ha4)]<;>rfl) (by exact⟨(.live Z .vec),Y⟩) Z Z (by exact⟨.dead,.dead,(.new 1 Z Z .vec),Y⟩)) ?_
 refine AOps.v Z Z (.nil (b6 (.ret ?_)))
 obtain rfl:=oi h
 exact⟨⟨[(2,.c (.own 2 0 a6.length))],[.dead,.dead,(oV 1 f9 a6)]⟩,Sub.env ⟨Z,Y⟩,Done.ret Z ⟨Z,Z⟩⟩
theorem al2{t:d6}{worlds:LL}{op:Int}{r:(LL)}(h:G2 t worlds op=some r):n8 prog 52 [.agg (tT t),.c (row 1 f9 worlds),(cI op)] 1 (List.map f9 r):=by
 unfold n8
 refine FnOk.enter (rs:=[.t 6]) func52 Z ntmps52 results52 Z ⟨Y,Y⟩ (by kernel_rfl) Z ?_
 unfold G2 at h
 refine AWP.q (.u (W.box Z Z Z Z Z Z (.v Z Z (.nil (b6 (.q (.u (.v Z Z (.nil (b6 (.q (.q (.u (.j Z Z (S.len Z Z (fun hl11=>.j Z Z (.nil (b6 (.F (.virtV 1 f9 7 Z Z Z ?_))))))))))))))))))))
 obtain⟨c4,ho1,h⟩:=b9 h
 refine AWP.forS ho1 (fun t5 c4=>⟨[(2,(cI op)),(3,(cP 0 0 0)),(7,.c (.own 1 0 c4.length)),(10,.c (row 1 f9 worlds)),(11,(cI (worlds.length:Int))),(12,(cI t5))],[(oE 4 (tT t)),(oV 1 f9 c4)]⟩) (fun c4 e st=>e=.exit 0∧Sub [] st ⟨[(7,.c (.own 1 0 c4.length))],[(oE 4 (tT t)),(oV 1 f9 c4)]⟩) ?_ ?_ ?_ ?_
 ·try dsimp only
  exact Sub.env ⟨Z,Z,(J3 (by first|rfl|simp only[lS])),Z,Z,Z,Y⟩
 ·intro t5 c4 hlot5 hltt5 _
  try dsimp only
  refine AWP.q (.u (.J Z Z Z (.nil (b6 (.q (.ae Z hltt5 (.exit (f5 (f5 ⟨Z,?_⟩)))))))))
  exact Sub.env ⟨Z,Y⟩
 ·intro t5 c4 o hlot5 hltt5 h
  unfold M3 at h
  try dsimp only at h ⊢
  refine AWP.q (.u (.J Z Z Z (.nil (b6 (.q (.af Z hltt5 (.skip (b6 (.q (.F (.q ?_)))))))))))
  obtain⟨a14,ha14,h⟩:=b9 h
  refine AWP.u (S.idx ha14 Z Z Z Z (.ai Z Z Z Z (.v Z Z (.nil (b6 ?_)))))
  obtain⟨a20,ha20,a22,ha22,h⟩:=b2 h
  refine AWP.u (.j Z Z (W.loadAgg Z Z Z Z Z Z Z (.j Z Z (.j Z Z (S.fresh Z Z Z Z (U2 ha20) Z Z (.frzV (id:=2) (l:=a20) (env2:=[(2,(cI op)),(3,(cP 0 0 0)),(10,.c (row 1 f9 worlds)),(11,(cI (worlds.length:Int))),(12,(cI t5)),(16,.c (.own 1 0 c4.length)),(20,(cR a20))]) (σ2:=[(oE 4 (tT t)),(oV 1 f9 c4),.dead]) Z Z (by exact⟨⟨_,Z,.inl ⟨Z,Z⟩⟩,⟨_,Z,.inl ⟨Z,Z⟩⟩,⟨_,Z,.inl ⟨Z,Z⟩⟩,⟨_,Z,.inl ⟨Z,Z⟩⟩,⟨_,Z,.inl ⟨Z,Z⟩⟩,⟨_,Z,.inl ⟨Z,Z⟩⟩,⟨_,Z,.inr ⟨_,Z,Z,Z⟩⟩,Y⟩) Z (by exact⟨⟨Z,.inl ⟨Z,Z⟩,.inl ⟨Z,Z⟩,.inl ⟨Z,Z⟩,.inl ⟨Z,Z⟩,Y⟩,FrzB.vec,Y,Y⟩) (S.lit (f:=f9) (l:=[a20]) (ess:=[[row 1 intI a20]]) Z Z Z Z Z Z Z ⟨⟨.inl Z,Y⟩,Y⟩ Z Z Z (S.append (f:=f9) ha22 Z Z Z Z Z Z (.own Z Z) Z Z Z Z (.v Z Z (.nil (f4 (b6 (.j (env':=[(2,(cI op)),(3,(cP 0 0 0)),(7,.c (.own 1 0 a22.length)),(10,.c (row 1 f9 worlds)),(11,(cI (worlds.length:Int))),(12,(cI t5))]) (σ':=[(oE 4 (tT t)),(oV 1 f9 a22),.dead,(oV 1 f9 [a20])]) 1 4 Z Z Z ⟨Z,Z,Z,Z,Z,Z,Y⟩ Z ⟨⟨Z,Z⟩,⟨Blk.im_ok _ _ _,g8 Z⟩,Y,⟨Blk.im_ok _ _ _,g8 Z⟩,Y⟩ (.u (.add Z Z Z (by omega) (.j Z Z (.nil ?_)))))))))))))))))
  obtain rfl:=oi h
  refine b6 (Sub.cut ⟨Z,Z,Z,Z,Z,Z,Y⟩ Z ⟨.one Z,.vec,Y⟩ Z)
 ·intro e s hq
  obtain⟨rfl,hs⟩:=hq
  refine⟨_,hs,?_⟩
  refine j7 (b6 (.q ?_))
  obtain⟨a25,ha25,h⟩:=b9 h
  refine AWP.u (.j Z Z (.callF (r2:=.c (.own 3 0 a25.length)) (σ'':=[(oE 4 (tT t)),.dead,.dead,(oV 1 f9 a25)]) Z Z Z (FnOk.lend [1] (ae1 ha25) Z Z Z Z Z Z (by exact⟨.vec,Y⟩) Z (by exact⟨(.live Z .vec),Y⟩) Z Z (by exact⟨(.old Z Z Z),.dead,.dead,(.new 2 Z Z .vec),Y⟩)) (.v Z Z (.nil (b6 (.ret ?_))))))
  obtain rfl:=oi h
  exact Done.ret Z (Fresh.mk Z Z)
theorem am7{t:d6}{worlds:LL}{r:Unit}(h:F5 t worlds=some r):FnOk prog 29 [.agg (tT t),.c (row 1 f9 worlds)] (al6 t worlds) (fun tt ss=>tt=.c (.fn 51 [.ptr 0 0 0,.ptr 1 0 0])∧ss=[(oE 4 (tT t)),(o1 (row 1 f9 worlds))]):=by
 refine FnOk.enter (rs:=[.t 4]) func29 Z ntmps29 results29 Z ⟨Y,Y⟩ (by kernel_rfl) Z ?_
 refine AWP.weak ?_
 unfold F5 at h
 refine AWP.q (.u (W.box Z Z Z Z Z Z (W.box Z Z Z Z Z Z (.v Z Z (.nil (b6 (.q (.u (.ak Z Z (.v Z Z (.nil (b6 (.ret ?_)))))))))))))
 obtain rfl:=oi h
 exact⟨⟨[(4,.c (.fn 51 [.ptr 0 0 0,.ptr 1 0 0]))],[(oE 4 (tT t)),(o1 (row 1 f9 worlds))]⟩,Sub.env ⟨Z,Y⟩,Done.ret Z ⟨Z,Z⟩⟩
theorem am8{v:LL}{r:Bool}(h:M7 v=some r):g9 prog 26 [.c (row 1 f9 v)] ((cB r)):=by
 unfold g9
 refine FnOk.enter (rs:=[.t 2]) func26 Z ntmps26 results26 Z ⟨Y,Y⟩ (by kernel_rfl) Z ?_
 unfold M7 at h
 refine AWP.q (.u (.v Z Z (.nil (b6 (.q (.u (.v Z Z (.nil (b6 (.ret ?_))))))))))
 obtain rfl:=oi h
 exact Done.ret Z Z
theorem ah2{iv:Int}{r:ByteArray}(h:F9 iv=some r):g9 prog 94 [(cI iv)] (.c (.imm (.val (.string r)))):=by
 unfold g9
 refine FnOk.enter (rs:=[.t 2]) func94 Z ntmps94 results94 Z ⟨Y,Y⟩ (by kernel_rfl) Z ?_
 unfold F9 at h
 refine AWP.q (.u (.v Z Z (.nil (b6 (.q (.q (.u (.j Z Z (.J Z Z Z (.nil (b6 (.ac Z h (fun hc2 h=> ?_) (fun hc2 h=> ?_)))))))))))))
 ·refine AWP.q ?_
  obtain⟨a8,ha8,h⟩:=b9 h
  refine AWP.u (.j Z Z (.j Z Z (S.add Z Z Z (S.subStr ha8 Z Z Z Z (.v Z Z (.nil (b6 (.ret (e8 ?_)))))))))
  obtain rfl:=oi h
  exact Done.ret Z Z
 ·refine AWP.skip (b6 (.q ?_))
  obtain⟨a14,ha14,h⟩:=b9 h
  refine AWP.u (.j Z Z (S.mul Z Z Z (.j Z Z (S.mul Z Z Z (S.add Z Z Z (S.subStr ha14 Z Z Z Z (.v Z Z (.nil (b6 (.ret ?_))))))))))
  obtain rfl:=oi h
  exact Done.ret Z Z
theorem W2{iv:Int}{base:Int}{l:Li}{r:Li}(h:w8 iv base l=some r):FnOk prog 67 [.c (.own 0 0 l.length),.c (.imm (.val (.int .u64 iv))),(cI base)] (W3 iv base l) (fun tt ss=>tt=.c (.own 2 0 r.length)∧ss=[.dead,.dead,(oV 1 eU8 r)]):=by
 refine FnOk.enter (rs:=[.t 6]) func67 Z ntmps67 results67 Z ⟨Y,Y⟩ (by kernel_rfl) Z ?_
 refine AWP.weak ?_
 unfold w8 at h
 refine AWP.j (env':=[(0,.c (.own 1 0 l.length)),(1,.c (.imm (.val (.int .u64 iv)))),(2,(cI base))]) (σ':=[.dead,(oV 1 eU8 l)]) 1 0 Z Z Z ⟨Z,Z,Z,Y⟩ Z ⟨Y,⟨Blk.im_ok _ _ _,g8 Z⟩,Y⟩ (.q (.u (.v Z Z (.nil (b6 (.q (.q (.u (.j Z Z (.eql Z Z Z (.nil (b6 (.ac Z h (fun hc55 h=> ?_) (fun hc55 h=> ?_))))))))))))))
 ·refine AWP.q (.q (.u (.j Z Z (.J Z Z Z (.nil (b6 (.ac Z h (fun hc56 h=> ?_) (fun hc56 h=> ?_))))))))
  ·refine AWP.q ?_
   obtain⟨a16,ha16,a17,ha17,h⟩:=b2 h
   refine AWP.u (.j Z Z (.j Z Z (.convInt Z Z (.O Z Z Z Z (ah2 ha16) Z (S.appendStr ha17 Z Z Z Z Z Z Z Z Z Z (.v Z Z (.nil (b6 (.ret (e8 (e8 ?_)))))))))))
   obtain rfl:=oi h
   exact⟨⟨[(6,.c (.own 2 0 a17.length))],[.dead,.dead,(oV 1 eU8 a17)]⟩,Sub.env ⟨Z,Y⟩,Done.ret Z ⟨Z,Z⟩⟩
  ·cases h
 ·cases h
theorem X3{iv:Int}{base:Int}{l:Li}{r:Li}(h:y6 iv base l=some r):FnOk prog 50 [.c (.own 0 0 l.length),(cI iv),(cI base)] (X7 iv base l) (fun tt ss=>tt=.c (.own 3 0 r.length)∧ss=[.dead,.dead,.dead,(oV 1 eU8 r)]):=by
 refine FnOk.enter (rs:=[.t 6]) func50 Z ntmps50 results50 Z ⟨Y,Y⟩ (by kernel_rfl) Z ?_
 refine AWP.weak ?_
 unfold y6 at h
 refine AWP.j (env':=[(0,.c (.own 1 0 l.length)),(1,(cI iv)),(2,(cI base))]) (σ':=[.dead,(oV 1 eU8 l)]) 1 0 Z Z Z ⟨Z,Z,Z,Y⟩ Z ⟨Y,⟨Blk.im_ok _ _ _,g8 Z⟩,Y⟩ (.q (.u (.v Z Z (.nil (b6 (.q (.u (.j Z Z (.convInt Z Z (.v Z Z (.nil (b6 ?_))))))))))))
 obtain⟨u,hx55,h⟩:=b9 h
 refine AWP.seqJ (⟨[(0,.c (.own 1 0 l.length)),(2,(cI base)),(7,.c (.imm (.val (.int .u64 ((IntKind.u64).wrap iv)))))],[.dead,(oV 1 eU8 l)]⟩) ?_ ?_
 ·refine AWP.q (.u (.j Z Z (.J Z Z Z (.nil (b6 (.ac Z hx55 (fun hc56 hx55=> ?_) (fun hc56 hx55=> ?_)))))))
  ·cases hx55
  ·refine AWP.skip ?_
   obtain rfl:=oi hx55
   refine b6 (Sub.env ⟨Z,Z,Z,Y⟩)
 ·try dsimp only at h
  refine AWP.q ?_
  obtain⟨a20,ha20,h⟩:=b9 h
  refine AWP.u (.j Z Z (.j Z Z (.j Z Z (.callF (r2:=.c (.own 3 0 a20.length)) (σ'':=[.dead,.dead,.dead,(oV 1 eU8 a20)]) Z Z Z (FnOk.lend [1] (W2 ha20) Z Z Z Z Z Z (by exact⟨.vec,Y⟩) Z (by exact⟨(.live Z .vec),Y⟩) Z Z (by exact⟨.dead,.dead,.dead,(.new 2 Z Z .vec),Y⟩)) (.v Z Z (.nil (b6 (.ret ?_))))))))
  obtain rfl:=oi h
  exact⟨⟨[(6,.c (.own 3 0 a20.length))],[.dead,.dead,.dead,(oV 1 eU8 a20)]⟩,Sub.env ⟨Z,Y⟩,Done.ret Z ⟨Z,Z⟩⟩
theorem ak6{iv:Int}{base:Int}{l:Li}{r:Li}(h:z8 iv base l=some r):FnOk prog 27 [.c (.own 0 0 l.length),(cI iv),(cI base)] (ak8 iv base l) (fun tt ss=>tt=.c (.own 4 0 r.length)∧ss=[.dead,.dead,.dead,.dead,(oV 1 eU8 r)]):=by
 refine FnOk.enter (rs:=[.t 6]) func27 Z ntmps27 results27 Z ⟨Y,Y⟩ (by kernel_rfl) Z ?_
 refine AWP.weak ?_
 unfold z8 at h
 refine AWP.j (env':=[(0,.c (.own 1 0 l.length)),(1,(cI iv)),(2,(cI base))]) (σ':=[.dead,(oV 1 eU8 l)]) 1 0 Z Z Z ⟨Z,Z,Z,Y⟩ Z ⟨Y,⟨Blk.im_ok _ _ _,g8 Z⟩,Y⟩ (.q (.u (.v Z Z (.nil (b6 (.q ?_))))))
 obtain⟨a10,ha10,h⟩:=b9 h
 refine AWP.u (.j Z Z (.j Z Z (.j Z Z (.callF (r2:=.c (.own 4 0 a10.length)) (σ'':=[.dead,.dead,.dead,.dead,(oV 1 eU8 a10)]) Z Z Z (FnOk.lend [1] (X3 ha10) Z Z Z Z Z Z (by exact⟨.vec,Y⟩) Z (by exact⟨(.live Z .vec),Y⟩) Z Z (by exact⟨.dead,.dead,.dead,.dead,(.new 3 Z Z .vec),Y⟩)) (.v Z Z (.nil (b6 (.ret ?_))))))))
 obtain rfl:=oi h
 exact⟨⟨[(6,.c (.own 4 0 a10.length))],[.dead,.dead,.dead,.dead,(oV 1 eU8 a10)]⟩,Sub.env ⟨Z,Y⟩,Done.ret Z ⟨Z,Z⟩⟩
theorem Q3{l:LL}{r:ByteArray}(h:x5 l=some r):g9 prog 9 [.c (row 1 f9 l)] (.c (.imm (.val (.string r)))):=by
 unfold g9
 refine FnOk.enter (rs:=[.t 2]) func9 Z ntmps9 results9 Z ⟨Y,Y⟩ (by kernel_rfl) Z ?_
 unfold x5 at h
 refine AWP.q (.u (.v Z Z (.nil (b6 (.q (.u (.v Z Z (.nil (b6 (.q (.q (.u (.j Z Z (S.len Z Z (fun hl9=>.j Z Z (.nil (b6 (.F (.virtV 1 eU8 3 Z Z Z ?_)))))))))))))))))))
 obtain⟨c2,ho1,h⟩:=b9 h
 refine AWP.forS ho1 (fun t3 c2=>⟨[(3,.c (.own 0 0 c2.length)),(8,.c (row 1 f9 l)),(9,(cI (l.length:Int))),(10,(cI t3))],[(oV 1 eU8 c2)]⟩) (fun c2 e st=>e=.exit 0∧Sub [] st ⟨[(3,.c (.own 0 0 c2.length))],[(oV 1 eU8 c2)]⟩) ?_ ?_ ?_ ?_
 ·try dsimp only
  exact Sub.env ⟨(J3 (by first|rfl|simp only[lS])),Z,Z,Z,Y⟩
 ·intro t3 c2 hlot3 hltt3 _
  try dsimp only
  refine AWP.q (.u (.J Z Z Z (.nil (b6 (.q (.ae Z hltt3 (.exit (f5 (f5 ⟨Z,?_⟩)))))))))
  exact Sub.env ⟨Z,Y⟩
 ·intro t3 c2 o hlot3 hltt3 h
  unfold af7 at h
  try dsimp only at h ⊢
  refine AWP.q (.u (.J Z Z Z (.nil (b6 (.q (.af Z hltt3 (.skip (b6 (.q (.F (.q ?_)))))))))))
  obtain⟨a12,ha12,h⟩:=b9 h
  refine AWP.u (S.idx ha12 Z Z Z Z (.ai Z Z Z Z (.v Z Z (.nil (b6 (.q (.q (.u (.j Z Z (S.len Z Z (fun hl15=>.j Z Z (.nil (b6 (.F ?_))))))))))))))
  obtain⟨c4,ho2,h⟩:=b9 h
  refine AWP.forS ho2 (fun t5 c4=>⟨[(3,.c (.own 0 0 c4.length)),(8,.c (row 1 f9 l)),(9,(cI (l.length:Int))),(10,(cI t3)),(14,(cR a12)),(15,(cI (a12.length:Int))),(16,(cI t5))],[(oV 1 eU8 c4)]⟩) (fun c4 e st=>e=.exit 2∧Sub [] st ⟨[(3,.c (.own 0 0 c4.length)),(8,.c (row 1 f9 l)),(9,(cI (l.length:Int))),(10,(cI t3))],[(oV 1 eU8 c4)]⟩) ?_ ?_ ?_ ?_
  ·try dsimp only
   exact Sub.env ⟨Z,Z,Z,Z,Z,Z,Z,Y⟩
  ·intro t5 c4 hlot5 hltt5 _
   try dsimp only
   refine AWP.q (.u (.J Z Z Z (.nil (b6 (.q (.ae Z hltt5 (.exit (f5 (f5 ⟨Z,?_⟩)))))))))
   exact Sub.env ⟨Z,Z,Z,Z,Y⟩
  ·intro t5 c4 o hlot5 hltt5 h
   unfold af9 at h
   try dsimp only at h ⊢
   refine AWP.q (.u (.J Z Z Z (.nil (b6 (.q (.af Z hltt5 (.skip (b6 (.q (.F (.q ?_)))))))))))
   obtain⟨a18,ha18,h⟩:=b9 h
   refine AWP.u (S.idx ha18 Z Z Z Z (.ai Z Z Z Z (.v Z Z (.nil (b6 ?_)))))
   obtain⟨a22,ha22,a24,ha24,h⟩:=b2 h
   refine AWP.u (.j Z Z (.j Z Z (.callF (r2:=.c (.own 4 0 a22.length)) (σ'':=[.dead,.dead,.dead,.dead,(oV 1 eU8 a22)]) Z Z Z (FnOk.lend [0] (ak6 ha22) Z Z Z Z Z Z (by exact⟨.vec,Y⟩) Z (by exact⟨(.live Z .vec),Y⟩) Z Z (by exact⟨.dead,.dead,.dead,.dead,(.new 4 Z Z .vec),Y⟩)) (S.lit (f:=eU8) (l:=[44]) (ess:=[[.imm (.val (.int .u8 44))]]) Z Z Z Z Z Z Z ⟨⟨.inl Z,Y⟩,Y⟩ Z Z Z (S.append (f:=eU8) ha24 Z Z Z Z Z Z (.own Z Z) Z Z Z Z (.v Z Z (.nil (f4 (b6 (.j (env':=[(3,.c (.own 4 0 a24.length)),(8,.c (row 1 f9 l)),(9,(cI (l.length:Int))),(10,(cI t3)),(14,(cR a12)),(15,(cI (a12.length:Int))),(16,(cI t5))]) (σ':=[.dead,.dead,.dead,.dead,(oV 1 eU8 a24),(oV 1 eU8 [44])]) 4 6 Z Z Z ⟨Z,Z,Z,Z,Z,Z,Z,Y⟩ Z ⟨Y,Y,Y,Y,⟨Blk.im_ok _ _ _,g8 Z⟩,⟨Blk.im_ok _ _ _,g8 Z⟩,Y⟩ (.u (.add Z Z Z (by omega) (.j Z Z (.nil ?_))))))))))))))
   obtain rfl:=oi h
   refine b6 ((Sub.move (env':=[(3,.c (.own 0 0 a24.length)),(8,.c (row 1 f9 l)),(9,(cI (l.length:Int))),(10,(cI t3)),(14,(cR a12)),(15,(cI (a12.length:Int))),(16,(cI (t5+1)))]) (σ':=[(oV 1 eU8 a24),.dead,.dead,.dead,.dead,(oV 1 eU8 [44])]) 0 4 Z Z Z ⟨Z,Z,Z,Z,Z,Z,Z,Y⟩ Z ⟨⟨Blk.im_ok _ _ _,g8 Z⟩,Y,Y,Y,Y,⟨Blk.im_ok _ _ _,g8 Z⟩,Y⟩).trans (Sub.cut ⟨Z,Z,Z,Z,Z,Z,Z,Y⟩ Z ⟨.vec,Y⟩ Z))
  ·intro e s hq
   obtain⟨rfl,hs⟩:=hq
   refine⟨_,hs,?_⟩
   refine j7 (b6 ?_)
   obtain⟨a28,ha28,h⟩:=b9 h
   refine AWP.u (.j Z Z (S.lit (f:=eU8) (l:=[59]) (ess:=[[.imm (.val (.int .u8 59))]]) Z Z Z Z Z Z Z ⟨⟨.inl Z,Y⟩,Y⟩ Z Z Z (S.append (f:=eU8) ha28 Z Z Z Z Z Z (.own Z Z) Z Z Z Z (.v Z Z (.nil (f4 (b6 (.j (env':=[(3,.c (.own 0 0 a28.length)),(8,.c (row 1 f9 l)),(9,(cI (l.length:Int))),(10,(cI t3))]) (σ':=[(oV 1 eU8 a28),(oV 1 eU8 [59])]) 0 2 Z Z Z ⟨Z,Z,Z,Z,Y⟩ Z ⟨⟨Blk.im_ok _ _ _,g8 Z⟩,⟨Blk.im_ok _ _ _,g8 Z⟩,Y⟩ (.u (.add Z Z Z (by omega) (.j Z Z (.nil ?_))))))))))))
   obtain rfl:=oi h
   refine b6 (Sub.cut ⟨Z,Z,Z,Z,Y⟩ Z ⟨.vec,Y⟩ Z)
 ·intro e s hq
  obtain⟨rfl,hs⟩:=hq
  refine⟨_,hs,?_⟩
  refine j7 (b6 (.q (.u (.j Z Z (S.bytesStr Z Z Z Z (.v Z Z (.nil (b6 (.ret ?_)))))))))
  obtain rfl:=oi h
  exact Done.ret Z Z
theorem ag1{t:d6}{sv:Li}{op:Int}{r:Bool}(h:U1 t sv op=some r):g9 prog 31 [.agg (tT t),(cR sv),(cI op)] ((cB r)):=by
 unfold g9
 refine FnOk.enter (rs:=[.t 6]) func31 Z ntmps31 results31 Z ⟨Y,Y⟩ (by kernel_rfl) Z ?_
 unfold U1 at h
 refine AWP.q (.u (W.box Z Z Z Z Z Z (.v Z Z (.nil (b6 (.q ?_))))))
 obtain⟨a11,ha11,a14,ha14,h⟩:=b2 h
 refine AWP.u (.j Z Z (W.fieldAddr Z Z Z Z (.B Z Z Z Z Z Z (.j Z Z (S.idx ha11 Z Z Z Z (W.fieldAddrI Z Z Z Z (.ai Z Z Z Z (.O Z Z Z Z (T7 ha14) Z (.v Z Z (.nil (b6 (.ret ?_))))))))))))
 obtain rfl:=oi h
 exact Done.ret Z Z
theorem aj0{t:d6}{r:Unit}(h:K5 t=some r):FnOk prog 10 [.agg (tT t)] (as1 t) (fun tt ss=>tt=.c (.fn 28 [.ptr 0 0 0])∧ss=[(oE 4 (tT t))]):=by
 refine FnOk.enter (rs:=[.t 2]) func10 Z ntmps10 results10 Z ⟨Y,Y⟩ (by kernel_rfl) Z ?_
 refine AWP.weak ?_
 unfold K5 at h
 refine AWP.q (.u (W.box Z Z Z Z Z Z (.v Z Z (.nil (b6 (.q (.u (.ak Z Z (.v Z Z (.nil (b6 (.ret ?_))))))))))))
 obtain rfl:=oi h
 exact⟨⟨[(2,.c (.fn 28 [.ptr 0 0 0]))],[(oE 4 (tT t))]⟩,Sub.env ⟨Z,Y⟩,Done.ret Z ⟨Z,Z⟩⟩
theorem af0{worlds:LL}{Facts:Int}{Init:Li}{Goal:Li}{Operators:List i4}{r:Unit}(h:G6 worlds Facts Init Goal Operators=some r):FnOk prog 28 [.c (row 1 f9 worlds),(cP 0 0 0)] (aq4 worlds Facts Init Goal Operators) (fun tt ss=>tt=.c (.fn 51 [.ptr 1 0 0,.ptr 2 0 0])∧ss=[(oE 4 (tF Facts Init Goal Operators)),(oE 4 (tF Facts Init Goal Operators)),(o1 (row 1 f9 worlds))]):=by
 refine FnOk.enter (rs:=[.t 3]) func28 Z ntmps28 results28 Z ⟨Y,Y⟩ (by kernel_rfl) Z ?_
 refine AWP.weak ?_
 unfold G6 at h
 refine AWP.q (.u (.v Z Z (.nil (b6 (.q ?_)))))
 obtain⟨a6,ha6,h⟩:=b9 h
 refine AWP.u (W.loadAgg Z Z Z Z Z Z Z (.j Z Z (.callF (r2:=.c (.fn 51 [.ptr 1 0 0,.ptr 2 0 0])) (σ'':=[(oE 4 (tF Facts Init Goal Operators)),(oE 4 (tF Facts Init Goal Operators)),(o1 (row 1 f9 worlds))]) Z Z Z (FnOk.lend [] (am7 ha6) Z Z Z Z Z Z (by exact Y) Z (by exact Y) Z Z (by exact⟨(.old Z Z Z),(.new 0 Z Z (.one Z)),(.new 1 Z Z (.one Z)),Y⟩)) (.v Z Z (.nil (b6 (.ret ?_)))))))
 obtain rfl:=oi h
 exact⟨⟨[(3,.c (.fn 51 [.ptr 1 0 0,.ptr 2 0 0]))],[(oE 4 (tF Facts Init Goal Operators)),(oE 4 (tF Facts Init Goal Operators)),(o1 (row 1 f9 worlds))]⟩,Sub.env ⟨Z,Y⟩,Done.ret Z ⟨Z,Z⟩⟩
theorem ak5{start:LL}{Facts:Int}{Init:Li}{Goal:Li}{Operators:List i4}{r:Li×Bool×Bool}(h:I4 start Facts Init Goal Operators=some r):FnOk prog 25 [.c (row 1 f9 start),.c (.fn 9 []),.c (.fn 28 [.ptr 0 0 0]),.c (.fn 26 [])] (F1 start Facts Init Goal Operators) (fun tt ss=>tt=.tup [(cR r.1),(cB r.2.1),(cB r.2.2)]∧ss=[(oE 4 (tF Facts Init Goal Operators)),.dead,(o1 (row 1 intI r.1)),(o1 (bool r.2.1)),(o1 (bool r.2.2))]):=by
 refine FnOk.enter (rs:=[.one 8 22,.one 9 4,.one 10 4]) func25 Z ntmps25 results25 Z ⟨rv1 _ Z,rv1 _ Z,rv1 _ Z,Y⟩ (by kernel_rfl) Z ?_
 refine AWP.weak ?_
 unfold I4 at h
 refine AWP.q (.u (W.box Z Z Z Z Z Z (W.alloc Z Z Z Z (W.alloc Z Z Z Z (W.alloc Z Z Z Z (.nil (b6 (.q (.u (.j Z Z (W.build Z Z Z Z (S.lit (f:=d7) (l:=[(⟨start, -1,0⟩:d8)]) (ess:=[[row 1 f9 start,int (-1),int 0]]) Z Z Z Z Z Z Z ⟨⟨.inl Z,.inl Z,.inl Z,Y⟩,Y⟩ Z Z Z (W.alloc Z Z Z Z (W.store Z Z Z Z Z (.nil (b6 (.q ?_)))))))))))))))))
 obtain⟨a25,ha25,h⟩:=b9 h
 refine AWP.u (W.makeMap Value.string vI Z Z Z (.B Z Z Z Z Z Z (.j Z Z (.O Z Z Z Z (Q3 ha25) Z (W.insert (fk:=Value.string) (fv:=vI) (k:=a25) (a:=1) ad8 Z Z Z Z Z (.j Z Z (W.alloc Z Z Z Z (W.store Z Z Z Z Z (.nil (b6 (.q (.q (.u (W.alloc Z Z Z Z (W.store Z Z Z Z Z (.nil (b6 (.F ?_))))))))))))))))))
 obtain⟨oo,ho1,h⟩:=b9 h
 refine AWP.loopS ho1 (fun(c59,c60,c61)=>⟨[(2,.c (.fn 28 [.ptr 0 0 0])),(3,.c (.fn 26 [])),(5,(cP 1 0 0)),(8,(cP 2 0 0)),(9,(cP 3 0 0)),(10,(cP 4 0 0)),(11,(cP 6 0 0)),(12,(cP 8 0 0)),(13,(cP 9 0 0))],[(oE 4 (tF Facts Init Goal Operators)),(o1 (.fn 9 [])),(o1 (.imm (.val nL))),(o1 (bool false)),(o1 (bool false)),(oV 3 d7 c59),(o1 (.own 5 0 c59.length)),(oW Value.string vI c60),(o1 (.map 7)),(o1 (int c61))]⟩) (fun o e st=>match o with| .inl _=>e=.exit 0∧Sub (F1 start Facts Init Goal Operators) st ⟨[(8,(cP 2 0 0)),(9,(cP 3 0 0)),(10,(cP 4 0 0))],[(oE 4 (tF Facts Init Goal Operators)),.dead,(o1 (.imm (.val nL))),(o1 (bool false)),(o1 (bool false))]⟩| .inr x=>e=.ret∧∃J,Sub (F1 start Facts Init Goal Operators) st J∧Done [.one 8 22,.one 9 4,.one 10 4] (fun tt ss=>tt=.tup [(cR x.1),(cB x.2.1),(cB x.2.2)]∧ss=[(oE 4 (tF Facts Init Goal Operators)),.dead,(o1 (row 1 intI x.1)),(o1 (bool x.2.1)),(o1 (bool x.2.2))]) .ret J) ?_ ?_ ?_
 ·try dsimp only
  exact Sub.env ⟨Z,Z,Z,Z,Z,Z,Z,Z,Z,Y⟩
 ·intro s o h
  obtain⟨c59,c60,c61⟩:=s
  unfold E9 at h
  try dsimp only at h ⊢
  refine AWP.q (.q (.u (.B Z Z Z Z Z Z (.B Z Z Z Z Z Z (S.lenO Z Z Z (fun hl29=>.J Z Z Z (.nil (b6 (.ac Z h (fun hc62 h=> ?_) (fun hc62 h=> ?_))))))))))
  ·refine AWP.skip (b6 (.q (.F (.q (.q ?_)))))
   obtain⟨a36,ha36,a39,ha39,h⟩:=b2 h
   refine AWP.u (.j Z Z (.B Z Z Z Z Z Z (.B Z Z Z Z Z Z (S.idxO ha36 Z Z Z Z Z (W.fieldAddr Z Z Z Z (S.loadO ha36 Z Z Z Z Z (.O Z Z Z Z (am8 ha39) Z (.nil (b6 (.ad Z h (fun hc63 h=> ?_) (fun hc63 h=> ?_)))))))))))
   ·refine AWP.q (.u (.v Z Z (.nil (b6 (.q (.q (.u (.B Z Z Z Z Z Z (.v Z Z (.nil (b6 (.F (.virtV 1 intI 14 Z Z Z ?_)))))))))))))
    obtain⟨c66,ho2,h⟩:=b9 h
    refine AWP.loopS ho2 (fun(c64,iv65)=>⟨[(8,(cP 2 0 0)),(9,(cP 3 0 0)),(10,(cP 4 0 0)),(11,(cP 6 0 0)),(14,.c (.own 10 0 c64.length)),(15,(cI iv65))],[(oE 4 (tF Facts Init Goal Operators)),.dead,(o1 (.imm (.val nL))),(o1 (bool false)),(o1 (bool false)),(oV 3 d7 c59),(o1 (.own 5 0 c59.length)),.dead,.dead,.dead,(oV 1 intI c64)]⟩) (fun c66 e st=>e=.exit 2∧Sub (F1 start Facts Init Goal Operators) st ⟨[(8,(cP 2 0 0)),(9,(cP 3 0 0)),(10,(cP 4 0 0)),(14,.c (.own 10 0 c66.length))],[(oE 4 (tF Facts Init Goal Operators)),.dead,(o1 (.imm (.val nL))),(o1 (bool false)),(o1 (bool false)),.dead,.dead,.dead,.dead,.dead,(oV 1 intI c66)]⟩) ?_ ?_ ?_
    ·try dsimp only
     exact Sub.cut ⟨Z,Z,Z,Z,(J3 (by first|rfl|simp only[lS])),Z,Y⟩ Z ⟨.one Z,.dead,.one Z,.one Z,.one Z,.vec,.one Z,.dead,.dead,.dead,.vec,Y⟩ Z
    ·intro s o h
     obtain⟨c64,iv65⟩:=s
     unfold V1 at h
     try dsimp only at h ⊢
     refine AWP.q (.q ?_)
     obtain⟨a43,ha43,h⟩:=b9 h
     refine AWP.u (.B Z Z Z Z Z Z (.j Z Z (S.idxO ha43 Z Z Z Z Z (W.fieldAddr Z Z Z Z (S.loadO ha43 Z Z Z Z Z (.geq Z Z Z (.nil (b6 (.ac Z h (fun hc67 h=> ?_) (fun hc67 h=> ?_))))))))))
     ·refine AWP.skip (b6 (.q (.F ?_)))
      obtain⟨a55,ha55,a59,ha59,h⟩:=b2 h
      refine AWP.u (.j Z Z (.B Z Z Z Z Z Z (.j Z Z (S.idxO ha55 Z Z Z Z Z (W.fieldAddr Z Z Z Z (S.loadO ha55 Z Z Z Z Z (S.lit (f:=intI) (l:=[a55.step]) (ess:=[[int a55.step]]) Z Z Z Z Z Z Z ⟨⟨.inl Z,Y⟩,Y⟩ Z Z Z (S.append (f:=intI) ha59 Z Z Z Z Z Z (.own Z Z) Z Z Z Z (.v Z Z (.nil (f4 (b6 (.j (env':=[(8,(cP 2 0 0)),(9,(cP 3 0 0)),(10,(cP 4 0 0)),(11,(cP 6 0 0)),(14,.c (.own 10 0 a59.length)),(15,(cI iv65))]) (σ':=[(oE 4 (tF Facts Init Goal Operators)),.dead,(o1 (.imm (.val nL))),(o1 (bool false)),(o1 (bool false)),(oV 3 d7 c59),(o1 (.own 5 0 c59.length)),.dead,.dead,.dead,(oV 1 intI a59),(oV 1 intI [a55.step])]) 10 12 Z Z Z ⟨Z,Z,Z,Z,Z,Z,Y⟩ Z ⟨⟨Z,Z⟩,Y,⟨Z,Z⟩,⟨Z,Z⟩,⟨Z,Z⟩,⟨Blk.im_ok _ _ _,g8 Z⟩,⟨Z,Z⟩,Y,Y,Y,⟨Blk.im_ok _ _ _,g8 Z⟩,⟨Blk.im_ok _ _ _,g8 Z⟩,Y⟩ ?_)))))))))))))
      obtain⟨a49,ha49,h⟩:=b9 h
      refine AWP.u (.B Z Z Z Z Z Z (.j Z Z (S.idxO ha49 Z Z Z Z Z (W.fieldAddr Z Z Z Z (S.loadO ha49 Z Z Z Z Z (.v Z Z (.nil ?_)))))))
      obtain rfl:=oi h
      refine b6 ⟨_,Z,?_⟩
      exact Sub.cut ⟨Z,Z,Z,Z,Z,Z,Y⟩ Z ⟨.one Z,.dead,.one Z,.one Z,.one Z,.vec,.one Z,.dead,.dead,.dead,.vec,Y⟩ Z
     ·refine AWP.exit (f5 ?_)
      obtain rfl:=oi h
      refine f5 ⟨_,Z,Z,?_⟩
      exact Sub.cut ⟨Z,Z,Z,Z,Y⟩ Z ⟨.one Z,.dead,.one Z,.one Z,.one Z,.dead,.dead,.dead,.dead,.dead,.vec,Y⟩ Z
    ·intro e s hq
     obtain⟨rfl,hs⟩:=hq
     refine⟨_,hs,?_⟩
     refine j7 (b6 (.q (.u (.j Z Z (S.rev revL_ok Z Z Z Z Z Z (.nil (b6 (.q (.u (.j Z Z (W.store Z Z Z Z Z (W.store Z Z Z Z Z (W.store Z Z Z Z Z (.nil (b6 (.frzV (id:=10) (l:=c66.reverse) (env2:=[(8,(cP 2 0 0)),(9,(cP 3 0 0)),(10,(cP 4 0 0))]) (σ2:=[(oE 4 (tF Facts Init Goal Operators)),.dead,(o1 (row 1 intI c66.reverse)),(o1 (bool true)),(o1 (bool true)),.dead,.dead,.dead,.dead,.dead,.dead]) Z Z (by exact⟨⟨_,Z,.inl ⟨Z,Z⟩⟩,⟨_,Z,.inl ⟨Z,Z⟩⟩,⟨_,Z,.inl ⟨Z,Z⟩⟩,Y⟩) Z (by exact⟨⟨Z,.inl ⟨Z,Z⟩,.inl ⟨Z,Z⟩,.inl ⟨Z,Z⟩,.inl ⟨Z,Z⟩,Y⟩,Y,⟨Z,.inr ⟨_,Z,List.length_reverse.symm,Z⟩,Y⟩,⟨Z,.inl ⟨Z,Z⟩,Y⟩,⟨Z,.inl ⟨Z,Z⟩,Y⟩,Y,Y,Y,Y,Y,Y,Y⟩) (.ret (e8 (j8 (e8 ?_))))))))))))))))))))
     obtain rfl:=oi h
     refine e8 ⟨_,Z,Z,?_⟩
     exact⟨⟨[(8,(cP 2 0 0)),(9,(cP 3 0 0)),(10,(cP 4 0 0))],[(oE 4 (tF Facts Init Goal Operators)),.dead,(o1 (row 1 intI c66.reverse)),(o1 (bool true)),(o1 (bool true))]⟩,Sub.cut ⟨Z,Z,Z,Y⟩ Z ⟨.one Z,.dead,.one Z,.one Z,.one Z,Y⟩ Z,Done.ret Z ⟨Z,Z⟩⟩
   ·refine AWP.skip (b6 (.q ?_))
    obtain⟨a66,ha66,a69,ha69,h⟩:=b2 h
    refine AWP.u (.j Z Z (.B Z Z Z Z Z Z (.B Z Z Z Z Z Z (S.idxO ha66 Z Z Z Z Z (W.fieldAddr Z Z Z Z (S.loadO ha66 Z Z Z Z Z (.callF (r2:=.c (.fn 51 [.ptr 10 0 0,.ptr 11 0 0])) (σ'':=[(oE 4 (tF Facts Init Goal Operators)),(o1 (.fn 9 [])),(o1 (.imm (.val nL))),(o1 (bool false)),(o1 (bool false)),(oV 3 d7 c59),(o1 (.own 5 0 c59.length)),(oW Value.string vI c60),(o1 (.map 7)),(o1 (int c61)),(oE 4 (tF Facts Init Goal Operators)),(o1 (row 1 f9 a66.node))]) Z Z Z (FnOk.lend [0] (af0 ha69) Z Z Z Z Z Z (by exact⟨(.one Z),Y⟩) Z (by exact⟨(.live Z (.one Z)),Y⟩) Z Z (by exact⟨(.new 0 Z Z (.one Z)),(.old Z Z Z),(.old Z Z Z),(.old Z Z Z),(.old Z Z Z),(.old Z Z Z),(.old Z Z Z),(.old Z Z Z),(.old Z Z Z),(.old Z Z Z),(.new 1 Z Z (.one Z)),(.new 2 Z Z (.one Z)),Y⟩)) (.nil (b6 (.F ?_))))))))))
    obtain⟨xr68,hr68,h⟩:=b9 h
    refine AWP.rangeB [(5,none),(8,none),(9,none),(10,none),(11,none),(12,none),(13,none)] Z Z Z (fun as68 bo68 hA68 hB68=>⟨[(oE 4 (tF Facts Init Goal Operators)),(o1 (.fn 9 [])),(o1 (.imm (.val nL))),(o1 (bool false)),(o1 (bool false)),(oV 3 d7 c59),(o1 (.own 5 0 c59.length)),(oW Value.string vI c60),(o1 (.map 7)),(o1 (int c61)),(oE 4 (tF Facts Init Goal Operators)),(o1 (row 1 f9 a66.node)),.one (i8 92 [70,71] as68 bo68 .ready none [(5,none),(8,none),(9,none),(10,none),(11,none),(12,none),(13,none)] [.ptr 1 0 0,.ptr 2 0 0,.ptr 3 0 0,.ptr 4 0 0,.ptr 6 0 0,.ptr 8 0 0,.ptr 9 0 0])],fun tt ss=>(∃v:(List (ByteArray×Int))×(List d8),xr68=.inl v∧tt=.tup []∧ss=[(oE 4 (tF Facts Init Goal Operators)),(o1 (.fn 9 [])),(o1 (.imm (.val nL))),(o1 (bool false)),(o1 (bool false)),.dead,(o1 (.own 13 0 v.2.length)),(oW Value.string vI v.1),(o1 (.map 7)),(o1 (int c61)),(oE 4 (tF Facts Init Goal Operators)),(o1 (row 1 f9 a66.node)),.one (i8 92 [70,71] as68 bo68 .ready none [(5,none),(8,none),(9,none),(10,none),(11,none),(12,none),(13,none)] [.ptr 1 0 0,.ptr 2 0 0,.ptr 3 0 0,.ptr 4 0 0,.ptr 6 0 0,.ptr 8 0 0,.ptr 9 0 0]),(oV 3 d7 v.2)])∨(∃v:(List (ByteArray×Int))×(List d8),xr68=.inr v∧tt=.tup []∧ss=[(oE 4 (tF Facts Init Goal Operators)),(o1 (.fn 9 [])),(o1 (.imm (.val nL))),(o1 (bool false)),(o1 (bool false)),.dead,(o1 (.own 13 0 v.2.length)),(oW Value.string vI v.1),(o1 (.map 7)),(o1 (int c61)),(oE 4 (tF Facts Init Goal Operators)),(o1 (row 1 f9 a66.node)),.one (i8 92 [70,71] as68 bo68 .done (some .ret) [(5,none),(8,none),(9,none),(10,none),(11,none),(12,none),(13,none)] [.ptr 1 0 0,.ptr 2 0 0,.ptr 3 0 0,.ptr 4 0 0,.ptr 6 0 0,.ptr 8 0 0,.ptr 9 0 0]),(oV 3 d7 v.2)]),Z,?_,?_⟩)
    ·clear h
     refine FnOk.enter (rs:=[]) func51 Z ntmps51 results51 Z Y (by kernel_rfl) Z ?_
     refine AWP.weak ?_
     unfold A6 at hr68
     try dsimp only at hr68
     refine AWP.j (env':=[(0,.c (.yld 12)),(1,(cP 10 0 0)),(2,(cP 11 0 0))]) (σ':=[(oE 4 (tF Facts Init Goal Operators)),(o1 (.fn 9 [])),(o1 (.imm (.val nL))),(o1 (bool false)),(o1 (bool false)),.dead,(o1 (.own 13 0 c59.length)),(oW Value.string vI c60),(o1 (.map 7)),(o1 (int c61)),(oE 4 (tF Facts Init Goal Operators)),(o1 (row 1 f9 a66.node)),.one (i8 92 [70,71] as68 bo68 .ready none [(5,none),(8,none),(9,none),(10,none),(11,none),(12,none),(13,none)] [.ptr 1 0 0,.ptr 2 0 0,.ptr 3 0 0,.ptr 4 0 0,.ptr 6 0 0,.ptr 8 0 0,.ptr 9 0 0]),(oV 3 d7 c59)]) 13 5 Z Z Z ⟨Z,Z,Z,Y⟩ Z ⟨⟨Z,Z⟩,⟨Z,Z⟩,⟨Z,Z⟩,⟨Z,Z⟩,⟨Z,Z⟩,Y,⟨Z,Z⟩,⟨Z,Z⟩,⟨Z,Z⟩,⟨Z,Z⟩,⟨Z,Z⟩,⟨Z,Z⟩,⟨Z,Z⟩,⟨Blk.im_ok _ _ _,g8 Z⟩,Y⟩ (.q (.u (W.fieldAddr Z Z Z Z (.B Z Z Z Z Z Z (S.len Z Z (fun hl8=>.j Z Z (.nil (b6 (.F ?_)))))))))
     obtain⟨oo,ho3,hr68⟩:=b9 hr68
     refine AWP.rngS ho3 (fun t75 (c73,c74)=>⟨[(0,.c (.yld 12)),(1,(cP 10 0 0)),(2,(cP 11 0 0)),(7,.c (row 4 d9 Operators)),(8,(cI (Operators.length:Int))),(9,(cI t75))],[(oE 4 (tF Facts Init Goal Operators)),(o1 (.fn 9 [])),(o1 (.imm (.val nL))),(o1 (bool false)),(o1 (bool false)),.dead,(o1 (.own 13 0 c74.length)),(oW Value.string vI c73),(o1 (.map 7)),(o1 (int c61)),(oE 4 (tF Facts Init Goal Operators)),(o1 (row 1 f9 a66.node)),.one (i8 92 [70,71] as68 bo68 .ready none [(5,none),(8,none),(9,none),(10,none),(11,none),(12,none),(13,none)] [.ptr 1 0 0,.ptr 2 0 0,.ptr 3 0 0,.ptr 4 0 0,.ptr 6 0 0,.ptr 8 0 0,.ptr 9 0 0]),(oV 3 d7 c74)]⟩) (fun o e st=>match o with| .inl (c73,c74)=>e=.exit 0∧Sub ([(oE 4 (tF Facts Init Goal Operators)),(o1 (.fn 9 [])),(o1 (.imm (.val nL))),(o1 (bool false)),(o1 (bool false)),(oV 3 d7 c59),(o1 (.own 5 0 c59.length)),(oW Value.string vI c60),(o1 (.map 7)),(o1 (int c61)),(oE 4 (tF Facts Init Goal Operators)),(o1 (row 1 f9 a66.node)),.one (i8 92 [70,71] as68 bo68 .ready none [(5,none),(8,none),(9,none),(10,none),(11,none),(12,none),(13,none)] [.ptr 1 0 0,.ptr 2 0 0,.ptr 3 0 0,.ptr 4 0 0,.ptr 6 0 0,.ptr 8 0 0,.ptr 9 0 0])]:b7) st ⟨[],[(oE 4 (tF Facts Init Goal Operators)),(o1 (.fn 9 [])),(o1 (.imm (.val nL))),(o1 (bool false)),(o1 (bool false)),.dead,(o1 (.own 13 0 c74.length)),(oW Value.string vI c73),(o1 (.map 7)),(o1 (int c61)),(oE 4 (tF Facts Init Goal Operators)),(o1 (row 1 f9 a66.node)),.one (i8 92 [70,71] as68 bo68 .ready none [(5,none),(8,none),(9,none),(10,none),(11,none),(12,none),(13,none)] [.ptr 1 0 0,.ptr 2 0 0,.ptr 3 0 0,.ptr 4 0 0,.ptr 6 0 0,.ptr 8 0 0,.ptr 9 0 0]),(oV 3 d7 c74)]⟩| .inr x=>e=.ret∧∃J,Sub ([(oE 4 (tF Facts Init Goal Operators)),(o1 (.fn 9 [])),(o1 (.imm (.val nL))),(o1 (bool false)),(o1 (bool false)),(oV 3 d7 c59),(o1 (.own 5 0 c59.length)),(oW Value.string vI c60),(o1 (.map 7)),(o1 (int c61)),(oE 4 (tF Facts Init Goal Operators)),(o1 (row 1 f9 a66.node)),.one (i8 92 [70,71] as68 bo68 .ready none [(5,none),(8,none),(9,none),(10,none),(11,none),(12,none),(13,none)] [.ptr 1 0 0,.ptr 2 0 0,.ptr 3 0 0,.ptr 4 0 0,.ptr 6 0 0,.ptr 8 0 0,.ptr 9 0 0])]:b7) st J∧Done [] (fun tt ss=>(∃v:(List (ByteArray×Int))×(List d8),x=.inl v∧tt=.tup []∧ss=[(oE 4 (tF Facts Init Goal Operators)),(o1 (.fn 9 [])),(o1 (.imm (.val nL))),(o1 (bool false)),(o1 (bool false)),.dead,(o1 (.own 13 0 v.2.length)),(oW Value.string vI v.1),(o1 (.map 7)),(o1 (int c61)),(oE 4 (tF Facts Init Goal Operators)),(o1 (row 1 f9 a66.node)),.one (i8 92 [70,71] as68 bo68 .ready none [(5,none),(8,none),(9,none),(10,none),(11,none),(12,none),(13,none)] [.ptr 1 0 0,.ptr 2 0 0,.ptr 3 0 0,.ptr 4 0 0,.ptr 6 0 0,.ptr 8 0 0,.ptr 9 0 0]),(oV 3 d7 v.2)])∨(∃v:(List (ByteArray×Int))×(List d8),x=.inr v∧tt=.tup []∧ss=[(oE 4 (tF Facts Init Goal Operators)),(o1 (.fn 9 [])),(o1 (.imm (.val nL))),(o1 (bool false)),(o1 (bool false)),.dead,(o1 (.own 13 0 v.2.length)),(oW Value.string vI v.1),(o1 (.map 7)),(o1 (int c61)),(oE 4 (tF Facts Init Goal Operators)),(o1 (row 1 f9 a66.node)),.one (i8 92 [70,71] as68 bo68 .done (some .ret) [(5,none),(8,none),(9,none),(10,none),(11,none),(12,none),(13,none)] [.ptr 1 0 0,.ptr 2 0 0,.ptr 3 0 0,.ptr 4 0 0,.ptr 6 0 0,.ptr 8 0 0,.ptr 9 0 0]),(oV 3 d7 v.2)])) .ret J) ?_ ?_ ?_ ?_
     ·try dsimp only
      exact Sub.env ⟨Z,Z,Z,Z,Z,Z,Y⟩
     ·intro t75 s hlot75 hltt75 _
      obtain⟨c73,c74⟩:=s
      try dsimp only
      refine AWP.q (.u (.J Z Z Z (.nil (b6 (.q (.ae Z hltt75 (.exit (f5 (f5 ⟨Z,?_⟩)))))))))
      exact Sub.env Y
     ·intro t75 s o hlot75 hltt75 h
      obtain⟨c73,c74⟩:=s
      unfold F0 at h
      try dsimp only at h ⊢
      refine AWP.q (.u (.J Z Z Z (.nil (b6 (.q (.af Z hltt75 (.skip (b6 (.q (.F (.q ?_)))))))))))
      obtain⟨ai12,hai12,h⟩:=b9 h
      refine AWP.u (.j Z Z (S.idx hai12 Z Z Z Z (W.loadIAgg Z Z Z Z Z (W.alloc Z Z Z Z (.v Z Z (W.storeAgg Z Z Z Z Z Z Z (.nil (b6 (.q ?_)))))))))
      obtain⟨ai17,hai17,h⟩:=b9 h
      rcases bft (ai17) with hb76|hb76
      ·replace h:=W8 hb76 h
       obtain⟨ai24,hai24,h⟩:=b9 h
       refine AWP.u (.B Z Z Z Z Z Z (W.fieldAddr Z Z Z Z (.B Z Z Z Z Z Z (.O Z Z Z Z (N8 hai17) Z (.j Z Z (.z Z Z Z hb76 (.j Z Z (.z Z Z Z hb76 (.j Z Z (.z Z Z Z hb76 (W.loadAgg Z Z Z Z Z Z Z (.z Z Z Z hb76 (.B Z Z Z Z Z Z (.z Z Z Z hb76 (.j Z Z (.z Z Z Z hb76 (S.fresh Z Z Z Z (al2 hai24) Z Z (.frzV (id:=15) (l:=ai24) (env2:=[(0,.c (.yld 12)),(1,(cP 10 0 0)),(2,(cP 11 0 0)),(7,.c (row 4 d9 Operators)),(8,(cI (Operators.length:Int))),(9,(cI t75)),(18,(cB ai17)),(19,.c (.yld 12)),(20,(cI t75)),(24,.c (row 1 f9 ai24))]) (σ2:=[(oE 4 (tF Facts Init Goal Operators)),(o1 (.fn 9 [])),(o1 (.imm (.val nL))),(o1 (bool false)),(o1 (bool false)),.dead,(o1 (.own 13 0 c74.length)),(oW Value.string vI c73),(o1 (.map 7)),(o1 (int c61)),(oE 4 (tF Facts Init Goal Operators)),(o1 (row 1 f9 a66.node)),.one (i8 92 [70,71] as68 bo68 .ready none [(5,none),(8,none),(9,none),(10,none),(11,none),(12,none),(13,none)] [.ptr 1 0 0,.ptr 2 0 0,.ptr 3 0 0,.ptr 4 0 0,.ptr 6 0 0,.ptr 8 0 0,.ptr 9 0 0]),(oV 3 d7 c74),(oE 4 [row 1 intI ai12.pre,row 1 intI ai12.add,row 1 intI ai12.del,int ai12.cost]),.dead]) Z Z (by exact⟨⟨_,Z,.inl ⟨Z,Z⟩⟩,⟨_,Z,.inl ⟨Z,Z⟩⟩,⟨_,Z,.inl ⟨Z,Z⟩⟩,⟨_,Z,.inl ⟨Z,Z⟩⟩,⟨_,Z,.inl ⟨Z,Z⟩⟩,⟨_,Z,.inl ⟨Z,Z⟩⟩,⟨_,Z,.inl ⟨Z,Z⟩⟩,⟨_,Z,.inl ⟨Z,Z⟩⟩,⟨_,Z,.inl ⟨Z,Z⟩⟩,⟨_,Z,.inr ⟨_,Z,Z,Z⟩⟩,Y⟩) Z (by exact⟨⟨Z,.inl ⟨Z,Z⟩,.inl ⟨Z,Z⟩,.inl ⟨Z,Z⟩,.inl ⟨Z,Z⟩,Y⟩,⟨Z,.inl ⟨Z,Z⟩,Y⟩,⟨Z,.inl ⟨Z,Z⟩,Y⟩,⟨Z,.inl ⟨Z,Z⟩,Y⟩,⟨Z,.inl ⟨Z,Z⟩,Y⟩,Y,⟨Z,.inl ⟨Z,Z⟩,Y⟩,⟨Z,Z⟩,⟨Z,.inl ⟨Z,Z⟩,Y⟩,⟨Z,.inl ⟨Z,Z⟩,Y⟩,⟨Z,.inl ⟨Z,Z⟩,.inl ⟨Z,Z⟩,.inl ⟨Z,Z⟩,.inl ⟨Z,Z⟩,Y⟩,⟨Z,.inl ⟨Z,Z⟩,Y⟩,⟨Z,Z⟩,FrzB.vec,⟨Z,.inl ⟨Z,Z⟩,.inl ⟨Z,Z⟩,.inl ⟨Z,Z⟩,.inl ⟨Z,Z⟩,Y⟩,Y,Y⟩) ?_))))))))))))))))))
       refine AOps.z Z Z Z hb76 ?_;refine AOps.yieldB (E1:=[(17,.c (row 1 f9 ai24)),(16,(cI t75)),(71,.c (row 1 f9 ai24)),(70,(cI t75)),(5,(cP 1 0 0)),(8,(cP 2 0 0)),(9,(cP 3 0 0)),(10,(cP 4 0 0)),(11,(cP 6 0 0)),(12,(cP 8 0 0)),(13,(cP 9 0 0))]) (σ1:=[(oE 4 (tF Facts Init Goal Operators)),(o1 (.fn 9 [])),(o1 (.imm (.val nL))),(o1 (bool false)),(o1 (bool false)),.dead,(o1 (.own 13 0 c74.length)),(oW Value.string vI c73),(o1 (.map 7)),(o1 (int c61)),(oE 4 (tF Facts Init Goal Operators)),(o1 (row 1 f9 a66.node)),.one (i8 92 [70,71] as68 bo68 .ready none [(5,none),(8,none),(9,none),(10,none),(11,none),(12,none),(13,none)] [.ptr 1 0 0,.ptr 2 0 0,.ptr 3 0 0,.ptr 4 0 0,.ptr 6 0 0,.ptr 8 0 0,.ptr 9 0 0]),(oV 3 d7 c74),(oE 4 [row 1 intI ai12.pre,row 1 intI ai12.add,row 1 intI ai12.del,int ai12.cost]),.dead]) hA68 hB68 Z Z Z Z Z Z Z Z Z Z ?_ ?_
       ·refine AWP.q (.u (.v Z Z (.nil (b6 (.u (.v Z Z (.nil ?_)))))))
        exact⟨Z,Z⟩
       refine AWP.sub (s':=⟨[(5,(cP 1 0 0)),(8,(cP 2 0 0)),(9,(cP 3 0 0)),(10,(cP 4 0 0)),(11,(cP 6 0 0)),(12,(cP 8 0 0)),(13,(cP 9 0 0)),(16,(cI t75)),(17,.c (row 1 f9 ai24))],[(oE 4 (tF Facts Init Goal Operators)),(o1 (.fn 9 [])),(o1 (.imm (.val nL))),(o1 (bool false)),(o1 (bool false)),.dead,(o1 (.own 13 0 c74.length)),(oW Value.string vI c73),(o1 (.map 7)),(o1 (int c61)),(oE 4 (tF Facts Init Goal Operators)),(o1 (row 1 f9 a66.node)),.one (i8 92 [70,71] as68 bo68 .busy none [(5,none),(8,none),(9,none),(10,none),(11,none),(12,none),(13,none)] [.ptr 1 0 0,.ptr 2 0 0,.ptr 3 0 0,.ptr 4 0 0,.ptr 6 0 0,.ptr 8 0 0,.ptr 9 0 0]),(oV 3 d7 c74),(oE 4 [row 1 intI ai12.pre,row 1 intI ai12.add,row 1 intI ai12.del,int ai12.cost]),.dead]⟩) (Sub.env ⟨Z,Z,Z,Z,Z,Z,Z,Z,Z,Y⟩) (.F (.q ?_))
       obtain⟨ab74,hab74,h⟩:=b9 h
       refine AWP.u (.B Z Z Z Z Z Z (.j Z Z (.O Z Z Z Z (Q3 hab74) Z (.v Z Z (.nil (b6 (.q (.q (.u (.B Z Z Z Z Z Z (.j Z Z (W.lookup (fk:=Value.string) (fv:=vI) (k:=ab74) (z:=0) ad8 Z (fun _=>Z) Z Z Z Z ?_))))))))))))
       refine AOps.gtr Z Z Z (.nil (b6 (.ac Z h (fun hc77 h=> ?_) (fun hc77 h=> ?_))))
       ·refine AWP.exit (f5 (j7 (B2 Z Z (.z Z Z Z hb76 (.not Z Z (.U Z hb76 Z Z (.nil (b6 (.aj Z (.skip (f4 (b6 (.u (.add Z Z Z (by omega) (.j Z Z (.nil ?_))))))))))))))))
        obtain rfl:=oi h
        refine b6 ⟨_,Z,?_⟩
        exact Sub.cut ⟨Z,Z,Z,Z,Z,Z,Y⟩ Z ⟨.one Z,.one Z,.one Z,.one Z,.one Z,.dead,.one Z,.one Z,.one Z,.one Z,.one Z,.one Z,.one Z,.vec,Y⟩ Z
       ·refine AWP.skip (b6 (.q (.q (.u (.B Z Z Z Z Z Z (S.lenO Z Z Z (fun hl80=>.eql Z Z Z (.nil (b6 (.ac Z h (fun hc78 h=> ?_) (fun hc78 h=> ?_)))))))))))
        ·refine AWP.q (.u (W.store Z Z Z Z Z (W.store Z Z Z Z Z (W.store Z Z Z Z Z (.nil (b6 (.ret (e8 (j8 (yPost_ret Z Z (.z Z Z Z hb76 (.not Z Z (.U Z hb76 Z Z (.nil (b6 (.condT Z (.ret (j8 (e8 ?_)))))))))))))))))))
         obtain rfl:=oi h
         refine e8 ⟨_,Z,Z,?_⟩
         exact⟨⟨[],[(oE 4 (tF Facts Init Goal Operators)),(o1 (.fn 9 [])),(o1 (.imm (.val nL))),(o1 (bool false)),(o1 (bool false)),.dead,(o1 (.own 13 0 c74.length)),(oW Value.string vI c73),(o1 (.map 7)),(o1 (int c61)),(oE 4 (tF Facts Init Goal Operators)),(o1 (row 1 f9 a66.node)),.one (i8 92 [70,71] as68 bo68 .done (some .ret) [(5,none),(8,none),(9,none),(10,none),(11,none),(12,none),(13,none)] [.ptr 1 0 0,.ptr 2 0 0,.ptr 3 0 0,.ptr 4 0 0,.ptr 6 0 0,.ptr 8 0 0,.ptr 9 0 0]),(oV 3 d7 c74)]⟩,Sub.cut Y Z ⟨.one Z,.one Z,.one Z,.one Z,.one Z,.dead,.one Z,.one Z,.one Z,.one Z,.one Z,.one Z,.one Z,.vec,Y⟩ Z,Done.ret Z (.inr ⟨_,Z,Z,Z⟩)⟩
        ·refine AWP.skip (b6 (.q (.u (.B Z Z Z Z Z Z (.j Z Z (W.mapUpdate (fk:=Value.string) (fv:=vI) (k:=ab74) (a:=1) ad8 Z Z Z Z Z (.nil (b6 ?_))))))))
         obtain⟨ab90,hab90,h⟩:=b9 h
         refine AWP.u (.B Z Z Z Z Z Z (.j Z Z (.B Z Z Z Z Z Z (.j Z Z (W.build Z Z Z Z (S.lit (f:=d7) (l:=[(⟨ai24,c61,t75⟩:d8)]) (ess:=[[row 1 f9 ai24,int c61,int t75]]) Z Z Z Z Z Z Z ⟨⟨.inl Z,.inl Z,.inl Z,Y⟩,Y⟩ Z Z Z (S.append (f:=d7) hab90 Z Z Z Z Z Z (.own Z Z) Z Z Z Z (W.store Z Z Z Z Z (.nil (f4 (B2 Z Z (.z Z Z Z hb76 (.not Z Z (.U Z hb76 Z Z (.nil (b6 (.j (env':=[(0,.c (.yld 12)),(1,(cP 10 0 0)),(2,(cP 11 0 0)),(7,.c (row 4 d9 Operators)),(8,(cI (Operators.length:Int))),(9,(cI t75)),(27,(cB false))]) (σ':=[(oE 4 (tF Facts Init Goal Operators)),(o1 (.fn 9 [])),(o1 (.imm (.val nL))),(o1 (bool false)),(o1 (bool false)),.dead,(o1 (.own 13 0 ab90.length)),(oW Value.string vI (mset c73 ab74 1)),(o1 (.map 7)),(o1 (int c61)),(oE 4 (tF Facts Init Goal Operators)),(o1 (row 1 f9 a66.node)),.one (i8 92 [70,71] as68 bo68 .ready none [(5,none),(8,none),(9,none),(10,none),(11,none),(12,none),(13,none)] [.ptr 1 0 0,.ptr 2 0 0,.ptr 3 0 0,.ptr 4 0 0,.ptr 6 0 0,.ptr 8 0 0,.ptr 9 0 0]),(oV 3 d7 ab90),(oE 4 [row 1 intI ai12.pre,row 1 intI ai12.add,row 1 intI ai12.del,int ai12.cost]),.dead,(oV 3 d7 [(⟨ai24,c61,t75⟩:d8)])]) 13 17 Z Z Z ⟨Z,Z,Z,Z,Z,Z,Z,Y⟩ Z ⟨⟨Z,Z⟩,⟨Z,Z⟩,⟨Z,Z⟩,⟨Z,Z⟩,⟨Z,Z⟩,Y,⟨Z,Z⟩,⟨Z,Z⟩,⟨Z,Z⟩,⟨Z,Z⟩,⟨Z,Z⟩,⟨Z,Z⟩,⟨Z,Z⟩,⟨Blk.im_ok _ _ _,g8 Z⟩,⟨Z,Z⟩,Y,⟨Blk.im_ok _ _ _,g8 Z⟩,Y⟩ (.aj Z (.skip (f4 (b6 (.u (.add Z Z Z (by omega) (.j Z Z (.nil ?_)))))))))))))))))))))))))
         obtain rfl:=oi h
         refine b6 ⟨_,Z,?_⟩
         exact Sub.cut ⟨Z,Z,Z,Z,Z,Z,Y⟩ Z ⟨.one Z,.one Z,.one Z,.one Z,.one Z,.dead,.one Z,.one Z,.one Z,.one Z,.one Z,.one Z,.one Z,.vec,Y⟩ Z
      ·replace h:=X2 hb76 h
       refine AWP.u (.B Z Z Z Z Z Z (W.fieldAddr Z Z Z Z (.B Z Z Z Z Z Z (.O Z Z Z Z (N8 hai17) Z (.j Z Z (.E Z Z Z hb76 (.E Z Z Z hb76 (.E Z Z Z hb76 (.E Z Z Z hb76 (.E Z Z Z hb76 (.E Z Z Z hb76 (.E Z Z Z hb76 (.E Z Z Z hb76 (.ab Z hb76 Z Z (.nil (b6 (.aj Z (.skip (f4 (b6 (.u (.add Z Z Z (by omega) (.j Z Z (.nil ?_))))))))))))))))))))))))
       obtain rfl:=oi h
       refine b6 ⟨_,Z,?_⟩
       exact Sub.cut ⟨Z,Z,Z,Z,Z,Z,Y⟩ Z ⟨.one Z,.one Z,.one Z,.one Z,.one Z,.dead,.one Z,.one Z,.one Z,.one Z,.one Z,.one Z,.one Z,.vec,Y⟩ Z
     ·intro e s hq
      rcases oo with⟨c73,c74⟩|x
      ·try dsimp only at hr68 hq
       obtain⟨rfl,hs⟩:=hq
       refine⟨_,hs,?_⟩
       refine j7 ?_
       obtain rfl:=oi hr68
       exact⟨⟨[],[(oE 4 (tF Facts Init Goal Operators)),(o1 (.fn 9 [])),(o1 (.imm (.val nL))),(o1 (bool false)),(o1 (bool false)),.dead,(o1 (.own 13 0 c74.length)),(oW Value.string vI c73),(o1 (.map 7)),(o1 (int c61)),(oE 4 (tF Facts Init Goal Operators)),(o1 (row 1 f9 a66.node)),.one (i8 92 [70,71] as68 bo68 .ready none [(5,none),(8,none),(9,none),(10,none),(11,none),(12,none),(13,none)] [.ptr 1 0 0,.ptr 2 0 0,.ptr 3 0 0,.ptr 4 0 0,.ptr 6 0 0,.ptr 8 0 0,.ptr 9 0 0]),(oV 3 d7 c74)]⟩,Sub.env Y,Done.normal Z (.inl ⟨_,Z,Z,Z⟩)⟩
      ·try dsimp only at hr68 hq
       obtain⟨rfl,hs⟩:=hq
       refine⟨_,Sub.refl _ _,?_⟩
       refine j8 ?_
       obtain rfl:=oi hr68
       exact hs
    ·rintro tt ss (⟨⟨c69,c70⟩,rfl,rfl,rfl⟩|⟨⟨c71,c72⟩,rfl,rfl,rfl⟩)
     ·try dsimp only at h ⊢
      refine O2 Z Z (f4 (f4 (b6 (.q (.q (.u (.B Z Z Z Z Z Z (.nil (b6 (.u (W.alloc Z Z Z Z (W.store Z Z Z Z Z (.nil (b6 (.u (.B Z Z Z Z Z Z (S.add Z Z Z (W.store Z Z Z Z Z (.nil ?_)))))))))))))))))))
      obtain rfl:=oi h
      refine b6 ⟨_,Z,?_⟩
      exact(Sub.move (env':=[(2,.c (.fn 28 [.ptr 0 0 0])),(3,.c (.fn 26 [])),(5,(cP 1 0 0)),(8,(cP 2 0 0)),(9,(cP 3 0 0)),(10,(cP 4 0 0)),(11,(cP 6 0 0)),(12,(cP 8 0 0)),(13,(cP 9 0 0))]) (σ':=[(oE 4 (tF Facts Init Goal Operators)),(o1 (.fn 9 [])),(o1 (.imm (.val nL))),(o1 (bool false)),(o1 (bool false)),.dead,(o1 (.own 13 0 c70.length)),(oW Value.string vI c69),(o1 (.map 7)),(o1 (int (w64 (c61+1)))),(oE 4 (tF Facts Init Goal Operators)),(o1 (row 1 f9 a66.node)),.dead,(oV 3 d7 c70)]) 9 14 Z Z Z ⟨Z,Z,Z,Z,Z,Z,Z,Z,Z,Y⟩ Z ⟨⟨Z,Z⟩,⟨Z,Z⟩,⟨Z,Z⟩,⟨Z,Z⟩,⟨Z,Z⟩,Y,⟨Z,Z⟩,⟨Z,Z⟩,⟨Z,Z⟩,⟨Z,Z⟩,⟨Z,Z⟩,⟨Z,Z⟩,Y,⟨Blk.im_ok _ _ _,g8 Z⟩,Y⟩).trans ((Sub.move (env':=[(2,.c (.fn 28 [.ptr 0 0 0])),(3,.c (.fn 26 [])),(5,(cP 1 0 0)),(8,(cP 2 0 0)),(9,(cP 3 0 0)),(10,(cP 4 0 0)),(11,(cP 6 0 0)),(12,(cP 8 0 0)),(13,(cP 9 0 0))]) (σ':=[(oE 4 (tF Facts Init Goal Operators)),(o1 (.fn 9 [])),(o1 (.imm (.val nL))),(o1 (bool false)),(o1 (bool false)),(oV 3 d7 c70),(o1 (.own 5 0 c70.length)),(oW Value.string vI c69),(o1 (.map 7)),(o1 (int (w64 (c61+1)))),(oE 4 (tF Facts Init Goal Operators)),(o1 (row 1 f9 a66.node)),.dead]) 5 13 Z Z Z ⟨Z,Z,Z,Z,Z,Z,Z,Z,Z,Y⟩ Z ⟨⟨Z,Z⟩,⟨Z,Z⟩,⟨Z,Z⟩,⟨Z,Z⟩,⟨Z,Z⟩,⟨Blk.im_ok _ _ _,g8 Z⟩,⟨Z,Z⟩,⟨Z,Z⟩,⟨Z,Z⟩,⟨Z,Z⟩,⟨Z,Z⟩,⟨Z,Z⟩,Y,Y⟩).trans (Sub.cut ⟨Z,Z,Z,Z,Z,Z,Z,Z,Z,Y⟩ Z ⟨.one Z,.one Z,.one Z,.one Z,.one Z,.vec,.one Z,.one Z,.one Z,.one Z,Y⟩ Z))
     ·try dsimp only at h ⊢
      refine rPost_jump Z Z (.nilB (b:=2) [row 1 intI []] Z (by exact⟨.inr ⟨Z,_,Z⟩,Y⟩) Z Z (.ret (j8 (j8 (e8 ?_)))))
      obtain rfl:=oi h
      refine e8 ⟨_,Z,Z,?_⟩
      exact⟨⟨[(8,(cP 2 0 0)),(9,(cP 3 0 0)),(10,(cP 4 0 0))],[(oE 4 (tF Facts Init Goal Operators)),.dead,(o1 (row 1 intI [])),(o1 (bool false)),(o1 (bool false))]⟩,Sub.cut ⟨Z,Z,Z,Y⟩ Z ⟨.one Z,.dead,.one Z,.one Z,.one Z,Y⟩ Z,Done.ret Z ⟨Z,Z⟩⟩
  ·refine AWP.exit (f5 ?_)
   obtain rfl:=oi h
   refine f5 ⟨_,Z,Z,?_⟩
   exact Sub.cut ⟨Z,Z,Z,Y⟩ Z ⟨.one Z,.dead,.one Z,.one Z,.one Z,Y⟩ Z
 ·intro e s hq
  rcases oo with u|x
  ·try dsimp only at h hq
   obtain⟨rfl,hs⟩:=hq
   refine⟨_,hs,?_⟩
   refine j7 (b6 (.q (.u (W.store Z Z Z Z Z (W.store Z Z Z Z Z (W.store Z Z Z Z Z (.nil (b6 (.nilB (b:=2) [row 1 intI []] Z (by exact⟨.inr ⟨Z,_,Z⟩,Y⟩) Z Z (.ret ?_))))))))))
   obtain rfl:=oi h
   exact⟨⟨[(8,(cP 2 0 0)),(9,(cP 3 0 0)),(10,(cP 4 0 0))],[(oE 4 (tF Facts Init Goal Operators)),.dead,(o1 (row 1 intI [])),(o1 (bool false)),(o1 (bool true))]⟩,Sub.env ⟨Z,Z,Z,Y⟩,Done.ret Z ⟨Z,Z⟩⟩
  ·try dsimp only at h hq
   obtain⟨rfl,hs⟩:=hq
   refine⟨_,Sub.refl _ _,?_⟩
   refine j8 (e8 ?_)
   obtain rfl:=oi h
   exact hs
theorem aa0{start:LL}{Facts:Int}{Init:Li}{Goal:Li}{Operators:List i4}{r:Bool}(h:w3 start Facts Init Goal Operators=some r):FnOk prog 8 [.c (row 1 f9 start),.c (.fn 9 []),.c (.fn 28 [.ptr 0 0 0])] (am9 start Facts Init Goal Operators) (fun tt ss=>tt=(cB r)∧ss=[(oE 4 (tF Facts Init Goal Operators))]):=by
 refine FnOk.enter (rs:=[.t 6]) func8 Z ntmps8 results8 Z ⟨Y,Y⟩ (by kernel_rfl) Z ?_
 refine AWP.weak ?_
 unfold w3 at h
 refine AWP.q (.u (.v Z Z (.nil (b6 (.q ?_)))))
 obtain⟨a14,ha14,h⟩:=b9 h
 refine AWP.u (.j Z Z (.j Z Z (.j Z Z (.callF (r2:=.tup [(cR a14.1),(cB a14.2.1),(cB a14.2.2)]) (σ'':=[(oE 4 (tF Facts Init Goal Operators)),.dead,(o1 (row 1 intI a14.1)),(o1 (bool a14.2.1)),(o1 (bool a14.2.2))]) Z Z Z (FnOk.lend [0] (ak5 ha14) Z Z Z Z Z Z (by exact⟨(.one Z),Y⟩) Z (by exact⟨(.live Z (.one Z)),Y⟩) Z Z (by exact⟨(.new 0 Z Z (.one Z)),.dead,(.new 2 Z Z (.one Z)),(.new 3 Z Z (.one Z)),(.new 4 Z Z (.one Z)),Y⟩)) (.j Z Z (.aa Z Z Z (.aa Z Z Z (.aa Z Z Z (.v Z Z (.v Z Z (.v Z Z (.nil (b6 (.q (.u (.j Z Z (.v Z Z (.nil (b6 (.ret ?_))))))))))))))))))))
 obtain rfl:=oi h
 exact⟨⟨[(6,(cB a14.2.2))],[(oE 4 (tF Facts Init Goal Operators))]⟩,Sub.cut ⟨Z,Y⟩ Z ⟨.one Z,Y⟩ Z,Done.ret Z ⟨Z,Z⟩⟩
theorem D0{nv:d5}{t:d6}{plan:Li}{l:List d5}{l5:LL}{l6:List (ByteArray×Int)}{r:(List (ByteArray×Int))×(List d5)×(LL)}(h:m6 nv t plan l l5 l6=some r):FnOk prog 11 [(cP 0 0 0),.agg (nN nv)] (R2 nv t plan l l5 l6) (fun tt ss=>tt=.tup []∧ss=[(oE 8 [int t.facts,row 1 intI t.init,row 1 intI t.goal,row 4 d9 t.operators,row 1 intI plan,.own 4 0 r.2.1.length,.own 5 0 r.2.2.length,.map 3]),.dead,.dead,(oW Value.string vI r.1),(oV 5 e9 r.2.1),mat (5,[]) 1 intI r.2.2]):=by
 refine FnOk.enter (rs:=[]) func11 Z ntmps11 results11 Z Y (by kernel_rfl) Z ?_
 refine AWP.weak ?_
 unfold m6 at h
 refine AWP.j (env':=[(0,(cP 0 0 0)),(1,.agg (nN nv))]) (σ':=[(oE 8 [int t.facts,row 1 intI t.init,row 1 intI t.goal,row 4 d9 t.operators,row 1 intI plan,.own 4 0 l.length,.own 2 0 l5.length,.map 3]),.dead,mat (2,[]) 1 intI l5,(oW Value.string vI l6),(oV 5 e9 l)]) 4 1 Z Z Z ⟨Z,Z,Y⟩ Z ⟨⟨Z,Z⟩,Y,.mat Z Z Z,⟨Z,Z⟩,⟨Blk.im_ok _ _ _,g8 Z⟩,Y⟩ (.moveM (env':=[(0,(cP 0 0 0)),(1,.agg (nN nv))]) (σ':=[(oE 8 [int t.facts,row 1 intI t.init,row 1 intI t.goal,row 4 d9 t.operators,row 1 intI plan,.own 4 0 l.length,.own 5 0 l5.length,.map 3]),.dead,.dead,(oW Value.string vI l6),(oV 5 e9 l),mat (5,[]) 1 intI l5]) 5 2 Z Z Z ⟨Z,Z,Y⟩ Z ⟨(.one Z Z),.dead,.dead,(.one Z Z),(.vec Z),(.mat Z Z Z),Y⟩ (.q (.u (W.box Z Z Z Z Z Z (.nil (b6 (.q ?_)))))))
 obtain⟨a13,ha13,h⟩:=b9 h
 refine AWP.u (W.fieldAddr Z Z Z Z (.B Z Z Z Z Z Z (W.fieldAddr Z Z Z Z (.B Z Z Z Z Z Z (S.lit (f:=intI) (l:=[nv.fat]) (ess:=[[int nv.fat]]) Z Z Z Z Z Z Z ⟨⟨.inl Z,Y⟩,Y⟩ Z Z Z (.frzV (id:=7) (l:=[nv.fat]) (env2:=[(0,(cP 0 0 0)),(3,(cP 6 0 0)),(8,(cR nv.fs)),(11,(cR [nv.fat]))]) (σ2:=[(oE 8 [int t.facts,row 1 intI t.init,row 1 intI t.goal,row 4 d9 t.operators,row 1 intI plan,.own 4 0 l.length,.own 5 0 l5.length,.map 3]),.dead,.dead,(oW Value.string vI l6),(oV 5 e9 l),mat (5,[]) 1 intI l5,(oE 5 (nN nv)),.dead]) Z Z (by exact⟨⟨_,Z,.inl ⟨Z,Z⟩⟩,⟨_,Z,.inl ⟨Z,Z⟩⟩,⟨_,Z,.inl ⟨Z,Z⟩⟩,⟨_,Z,.inr ⟨_,Z,Z,Z⟩⟩,Y⟩) Z (by exact⟨⟨Z,.inl ⟨Z,Z⟩,.inl ⟨Z,Z⟩,.inl ⟨Z,Z⟩,.inl ⟨Z,Z⟩,.inl ⟨Z,Z⟩,.inl ⟨Z,Z⟩,.inl ⟨Z,Z⟩,.inl ⟨Z,Z⟩,Y⟩,Y,Y,⟨Z,Z⟩,FrzB.vec,(FrzB.mat Z),⟨Z,.inl ⟨Z,Z⟩,.inl ⟨Z,Z⟩,.inl ⟨Z,Z⟩,.inl ⟨Z,Z⟩,.inl ⟨Z,Z⟩,Y⟩,Y,Y⟩) (S.lit (f:=f9) (l:=[nv.fs,[nv.fat]]) (ess:=[[row 1 intI nv.fs],[row 1 intI [nv.fat]]]) Z Z Z Z Z Z Z ⟨⟨.inl Z,Y⟩,⟨.inl Z,Y⟩,Y⟩ Z Z Z (.callL Z Z (.cons (.c (.own Z Z)) .nil) Z (Q3 ha13) Z (.v Z Z (.nil (b6 (.q (.q (.u (.j Z Z (.ah Z Z Z (W.fieldAddr Z Z Z Z (.B Z Z Z Z Z Z (.j Z Z (W.lookupOk (fk:=Value.string) (fv:=vI) (k:=a13) (z:=0) ad8 Z (fun _=>Z) Z Z Z Z ?_))))))))))))))))))))
 refine AOps.j Z Z (.aa Z Z Z (.aa Z Z Z (.v Z Z (.v Z Z (.nil (b6 (.seqJ (⟨[(0,(cP 0 0 0)),(3,(cP 6 0 0)),(4,.c (.imm (.val (.string a13)))),(29,(cB ((Option.isSome (mget l6 a13)) && (decide (Option.getD (mget l6 a13) 0≤nv.change)))))],[(oE 8 [int t.facts,row 1 intI t.init,row 1 intI t.goal,row 4 d9 t.operators,row 1 intI plan,.own 4 0 l.length,.own 5 0 l5.length,.map 3]),.dead,.dead,(oW Value.string vI l6),(oV 5 e9 l),mat (5,[]) 1 intI l5,(oE 5 (nN nv)),.dead,(oV 1 f9 ([nv.fs,[nv.fat]]))]⟩) ?_ ?_)))))))
 ·rcases bft (Option.isSome (mget l6 a13)) with hb1|hb1
  ·refine AWP.u (.j Z Z (.j Z Z (.z Z Z Z hb1 (.j Z Z (.z Z Z Z hb1 (W.fieldAddr Z Z Z Z (.z Z Z Z hb1 (.B Z Z Z Z Z Z (.z Z Z Z hb1 (.leq Z Z Z (.U Z hb1 Z Z (.nil (b6 ?_)))))))))))))
   simp only[and_t hb1,or_t hb1,Bool.false_or,Bool.true_or,Bool.false_and,Bool.true_and]
   exact Sub.env ⟨Z,Z,Z,Z,Y⟩
  ·refine AWP.u (.j Z Z (.j Z Z (.E Z Z Z hb1 (.E Z Z Z hb1 (.E Z Z Z hb1 (.E Z Z Z hb1 (.ab Z hb1 Z Z (.nil (b6 ?_)))))))))
   simp only[and_f hb1,or_f hb1,Bool.false_or,Bool.true_or,Bool.false_and,Bool.true_and]
   exact Sub.env ⟨Z,Z,Z,Z,Y⟩
 ·refine AWP.ad Z h (fun hc60 h=> ?_) (fun hc60 h=> ?_)
  ·refine AWP.ret (e8 ?_)
   obtain rfl:=oi h
   exact⟨⟨[],[(oE 8 [int t.facts,row 1 intI t.init,row 1 intI t.goal,row 4 d9 t.operators,row 1 intI plan,.own 4 0 l.length,.own 5 0 l5.length,.map 3]),.dead,.dead,(oW Value.string vI l6),(oV 5 e9 l),mat (5,[]) 1 intI l5]⟩,Sub.cut Y Z ⟨.one Z,.dead,.dead,.one Z,.vec,.mat Z,Y⟩ Z,Done.ret Z ⟨Z,Z⟩⟩
  ·refine AWP.skip (b6 (.q (.drawEI [7] mixed Z Z Z ?_)))
   refine d3.consN Z Z (fun E=>.j Z Z .N) Z (.consN Z Z (fun E=>.ah Z Z Z .N) Z (.consN Z Z (fun E=>W.fieldAddr Z Z Z Z .N) Z (.consN Z Z (fun E=>.B Z Z Z Z Z Z .N) Z (.consN Z Z (fun E=>.j Z Z .N) Z (.consN Z Z (fun E=>W.fieldAddr Z Z Z Z .N) Z (.consN Z Z (fun E=>.B Z Z Z Z Z Z .N) Z ?_))))))
   apply d3.consE (v:=.undef);exact Z;exact Z;intro E
   refine W.mapUpdate (fk:=Value.string) (fv:=vI) (k:=a13) (a:=nv.change) ad8 Z Z Z Z Z .N
   exact Z
   exact Z
   refine d3.done Z ?_ ?_
   ·refine f7.cons Z Z (.go Z Z (fun E=>.j Z Z .N) (.skip Z .nil)) (.cons Z Z (.go Z Z (fun E=>.ah Z Z Z .N) (.skip Z .nil)) (.cons Z Z (.go Z Z (fun E=>W.fieldAddr Z Z Z Z .N) (.skip Z .nil)) (.cons Z Z (.go Z Z (fun E=>.B Z Z Z Z Z Z .N) (.skip Z .nil)) (.cons Z Z (.go Z Z (fun E=>.j Z Z .N) (.skip Z .nil)) (.cons Z Z (.go Z Z (fun E=>W.fieldAddr Z Z Z Z .N) (.skip Z .nil)) (.cons Z Z (.go Z Z (fun E=>.B Z Z Z Z Z Z .N) (.skip Z .nil)) ?_))))))
    refine f7.skip Z (f7.nil)
   dsimp only[j9]
   refine b6 (.q ?_)
   obtain⟨a44,ha44,h⟩:=b9 h
   refine AWP.drawEI [6,7,10] mixed Z Z Z ?_
   refine d3.consN Z Z (fun E=>.j Z Z .N) Z (.consN Z Z (fun E=>.j Z Z .N) Z (.consN Z Z (fun E=>.ah Z Z Z .N) Z (.consN Z Z (fun E=>W.fieldAddr Z Z Z Z .N) Z (.consN Z Z (fun E=>.B Z Z Z Z Z Z .N) Z (.consN Z Z (fun E=>W.loadAgg Z Z Z Z Z Z Z .N) Z ?_)))))
   apply d3.consE;exact Z;exact Z;intro E
   refine S.lit (f:=e9) (l:=[nv]) (ess:=[(nN nv)]) Z Z Z Z Z Z Z ⟨⟨.inl Z,.inl Z,.inl Z,.inl Z,.inl Z,Y⟩,Y⟩ Z Z Z .N
   exact Z
   exact Z
   apply d3.consE;exact Z;exact Z;intro E
   refine S.append (f:=e9) ha44 Z Z Z Z Z Z (.own Z Z) Z Z Z Z .N
   exact Z
   exact Z
   refine d3.consN Z Z (fun E=>.ah Z Z Z .N) Z (.consN Z Z (fun E=>W.fieldAddr Z Z Z Z .N) Z ?_)
   apply d3.consE (v:=.undef);exact Z;exact Z;intro E
   refine W.store Z Z Z Z Z .N
   exact Z
   exact Z
   refine d3.done Z ?_ ?_
   ·refine f7.cons Z Z (.go Z Z (fun E=>.j Z Z .N) (.go Z Z (fun E=>.j Z Z .N) (.go Z Z (fun E=>.j Z Z .N) (.skip Z .nil)))) (.cons Z Z (.go Z Z (fun E=>.j Z Z .N) (.go Z Z (fun E=>.j Z Z .N) (.skip Z (.skip Z .nil)))) (.cons Z Z (.go Z Z (fun E=>.ah Z Z Z .N) (.go Z Z (fun E=>.ah Z Z Z .N) (.skip Z (.skip Z .nil)))) (.cons Z Z (.go Z Z (fun E=>W.fieldAddr Z Z Z Z .N) (.go Z Z (fun E=>W.fieldAddr Z Z Z Z .N) (.skip Z (.skip Z .nil)))) (.cons Z Z (.go Z Z (fun E=>.B Z Z Z Z Z Z .N) (.go Z Z (fun E=>.B Z Z Z Z Z Z .N) (.skip Z (.skip Z .nil)))) (.cons Z Z (.go Z Z (fun E=>W.loadAgg Z Z Z Z Z Z Z .N) (.skip Z (.skip Z (.skip Z .nil)))) ?_)))))
    refine f7.skip Z (f7.skip Z ?_)
    refine f7.cons Z Z ?_ ?_
    refine j2.skip Z (j2.skip Z ?_)
    refine j2.go Z Z (fun E=>.ah Z Z Z .N) ?_
    refine j2.skip Z (j2.nil)
    refine f7.cons Z Z ?_ ?_
    refine j2.skip Z (j2.skip Z ?_)
    refine j2.go Z Z (fun E=>W.fieldAddr Z Z Z Z .N) ?_
    refine j2.skip Z (j2.nil)
    refine f7.skip Z (f7.nil)
   dsimp only[j9]
   refine b6 (.q (.F (.j (env':=[(0,(cP 0 0 0)),(3,(cP 6 0 0))]) (σ':=[(oE 8 [int t.facts,row 1 intI t.init,row 1 intI t.goal,row 4 d9 t.operators,row 1 intI plan,.own 4 0 a44.length,.own 5 0 l5.length,.map 3]),.dead,.dead,(oW Value.string vI (mset l6 a13 nv.change)),(oV 5 e9 a44),mat (5,[]) 1 intI l5,(oE 5 (nN nv)),.dead,(oV 1 f9 ([nv.fs,[nv.fat]])),(oV 5 e9 [nv])]) 4 10 Z Z Z ⟨Z,Z,Y⟩ Z ⟨⟨Z,Z⟩,Y,Y,⟨Z,Z⟩,⟨Blk.im_ok _ _ _,g8 Z⟩,.mat Z Z Z,⟨Z,Z⟩,Y,⟨Blk.im_ok _ _ _,g8 Z⟩,⟨Blk.im_ok _ _ _,g8 Z⟩,Y⟩ ?_)))
   obtain⟨c62,ho1,h⟩:=b9 h
   refine AWP.loopS ho1 (fun c61=>⟨[(0,(cP 0 0 0)),(3,(cP 6 0 0))],[(oE 8 [int t.facts,row 1 intI t.init,row 1 intI t.goal,row 4 d9 t.operators,row 1 intI plan,.own 4 0 a44.length,.own 5 0 c61.length,.map 3]),.dead,.dead,(oW Value.string vI (mset l6 a13 nv.change)),(oV 5 e9 a44),mat (5,[]) 1 intI c61,(oE 5 (nN nv))]⟩) (fun c62 e st=>e=.exit 0∧Sub (R2 nv t plan l l5 l6) st ⟨[(0,(cP 0 0 0)),(3,(cP 6 0 0))],[(oE 8 [int t.facts,row 1 intI t.init,row 1 intI t.goal,row 4 d9 t.operators,row 1 intI plan,.own 4 0 a44.length,.own 5 0 c62.length,.map 3]),.dead,.dead,(oW Value.string vI (mset l6 a13 nv.change)),(oV 5 e9 a44),mat (5,[]) 1 intI c62,(oE 5 (nN nv))]⟩) ?_ ?_ ?_
   ·try dsimp only
    exact Sub.cut ⟨Z,Z,Y⟩ Z ⟨.one Z,.dead,.dead,.one Z,.vec,.mat Z,.one Z,Y⟩ Z
   ·intro c61 o h
    unfold x9 at h
    try dsimp only at h ⊢
    refine AWP.q (.q (.drawI mixed Z ?_))
    refine k9.consF Z (fun E=>.j Z Z .N) Z (.consF Z (fun E=>.ah Z Z Z .N) Z (.consF Z (fun E=>W.fieldAddr Z Z Z Z .N) Z (.consF Z (fun E=>.B Z Z Z Z Z Z .N) Z (.consF Z (fun E=>S.lenM Z Z Z (fun hl51=>.nil ⟨Z,Z⟩)) Z (.consF Z (fun E=>W.fieldAddr Z Z Z Z .N) Z (.consF Z (fun E=>.B Z Z Z Z Z Z .N) Z (.consF Z (fun E=>.leq Z Z Z .N) Z ?_)))))))
    refine k9.done ?_
    dsimp only[j9]
    refine b6 (.ac Z h (fun hc63 h=> ?_) (fun hc63 h=> ?_))
    ·refine AWP.skip (b6 (.F ?_))
     obtain⟨a61,ha61,h⟩:=b9 h
     refine AWP.u (.j Z Z (.j Z Z (.ah Z Z Z (W.fieldAddr Z Z Z Z (.B Z Z Z Z Z Z (W.lit1 Z Z Z Z Z Z Z Z Z (S.appendM (k:=1) (f:=intI) ha61 Z Z Z Z Z Z Z Z Z Z Z Z (.ah Z Z Z (W.fieldAddr Z Z Z Z (W.store Z Z Z Z Z (.nil (f4 ?_))))))))))))
     obtain rfl:=oi h
     refine b6 ⟨_,Z,?_⟩
     exact(Sub.moveM (env':=[(0,(cP 0 0 0)),(3,(cP 6 0 0))]) (σ':=[(oE 8 [int t.facts,row 1 intI t.init,row 1 intI t.goal,row 4 d9 t.operators,row 1 intI plan,.own 4 0 a44.length,.own 5 0 a61.length,.map 3]),.dead,.dead,(oW Value.string vI (mset l6 a13 nv.change)),(oV 5 e9 a44),mat (5,[]) 1 intI a61,(oE 5 (nN nv)),(o1 (.imm (.val nL)))]) 5 8 Z Z Z ⟨Z,Z,Y⟩ Z ⟨(.one Z Z),.dead,.dead,(.one Z Z),(.vec Z),(.mat Z Z Z),(.one Z Z),(.one Z Z),Y⟩).trans (Sub.cut ⟨Z,Z,Y⟩ Z ⟨.one Z,.dead,.dead,.one Z,.vec,.mat Z,.one Z,Y⟩ Z)
    ·refine AWP.exit (f5 ?_)
     obtain rfl:=oi h
     refine f5 ⟨_,Z,Z,?_⟩
     exact Sub.env ⟨Z,Z,Y⟩
   ·intro e s hq
    obtain⟨rfl,hs⟩:=hq
    refine⟨_,hs,?_⟩
    refine j7 (b6 ?_)
    obtain⟨a76,ha76,a85,ha85,a86,ha86,h⟩:=b3 h
    refine AWP.drawEI [20,21,23] mixed Z Z Z ?_
    refine d3.consN Z Z (fun E=>.j Z Z .N) Z (.consN Z Z (fun E=>.ah Z Z Z .N) Z (.consN Z Z (fun E=>W.fieldAddr Z Z Z Z .N) Z (.consN Z Z (fun E=>.B Z Z Z Z Z Z .N) Z (.consN Z Z (fun E=>W.fieldAddr Z Z Z Z .N) Z (.consN Z Z (fun E=>.B Z Z Z Z Z Z .N) Z (.consN Z Z (fun E=>.j Z Z .N) Z (.consN Z Z (fun E=>.ah Z Z Z .N) Z (.consN Z Z (fun E=>W.fieldAddr Z Z Z Z .N) Z (.consN Z Z (fun E=>.B Z Z Z Z Z Z .N) Z (.consN Z Z (fun E=>W.fieldAddr Z Z Z Z .N) Z (.consN Z Z (fun E=>.B Z Z Z Z Z Z .N) Z (.consN Z Z (fun E=>S.idxH ha76 Z Z Z (by simp) Z Z .N) Z (.consN Z Z (fun E=>S.loadM ha76 Z Z Z Z .N) Z (.consN Z Z (fun E=>.j Z Z .N) Z (.consN Z Z (fun E=>.ah Z Z Z .N) Z (.consN Z Z (fun E=>W.fieldAddr Z Z Z Z .N) Z (.consN Z Z (fun E=>.B Z Z Z Z Z Z .N) Z (.consN Z Z (fun E=>S.lenO Z Z Z (fun hl82=>.nil ⟨Z,Z⟩)) Z (.consN Z Z (fun E=>S.sub Z Z Z .N) Z ?_)))))))))))))))))))
    apply d3.consE;exact Z;exact Z;intro E
    refine S.lit (f:=intI) (l:=[w64 ((a44.length:Int) - 1)]) (ess:=[[int (w64 ((a44.length:Int) - 1))]]) Z Z Z Z Z Z Z ⟨⟨.inl Z,Y⟩,Y⟩ Z Z Z .N
    exact Z
    exact Z
    apply d3.consE;exact Z;exact Z;intro E
    refine S.appendR (f:=intI) ha85 (C7 ha76).2 Z Z Z Z Z Z (.own Z Z) Z Z Z Z .N
    exact Z
    exact Z
    refine d3.consN Z Z (fun E=>S.idxH ha86 Z Z Z (by simp) Z Z .N) Z ?_
    apply d3.consE (v:=.undef);exact Z;exact Z;intro E
    refine S.storeHD (C7 ha86).2 Z Z Z Z .N
    exact Z
    exact Z
    refine d3.done Z ?_ ?_
    ·refine f7.cons Z Z (.go Z Z (fun E=>.j Z Z .N) (.go Z Z (fun E=>.j Z Z .N) (.go Z Z (fun E=>.j Z Z .N) (.skip Z .nil)))) (.cons Z Z (.go Z Z (fun E=>.ah Z Z Z .N) (.go Z Z (fun E=>.ah Z Z Z .N) (.go Z Z (fun E=>.ah Z Z Z .N) (.skip Z .nil)))) (.cons Z Z (.go Z Z (fun E=>W.fieldAddr Z Z Z Z .N) (.go Z Z (fun E=>W.fieldAddr Z Z Z Z .N) (.go Z Z (fun E=>W.fieldAddr Z Z Z Z .N) (.skip Z .nil)))) (.cons Z Z (.go Z Z (fun E=>.B Z Z Z Z Z Z .N) (.go Z Z (fun E=>.B Z Z Z Z Z Z .N) (.go Z Z (fun E=>.B Z Z Z Z Z Z .N) (.skip Z .nil)))) (.cons Z Z (.go Z Z (fun E=>W.fieldAddr Z Z Z Z .N) (.go Z Z (fun E=>W.fieldAddr Z Z Z Z .N) (.go Z Z (fun E=>W.fieldAddr Z Z Z Z .N) (.skip Z .nil)))) (.cons Z Z (.go Z Z (fun E=>.B Z Z Z Z Z Z .N) (.go Z Z (fun E=>.B Z Z Z Z Z Z .N) (.go Z Z (fun E=>.B Z Z Z Z Z Z .N) (.skip Z .nil)))) (.cons Z Z (.go Z Z (fun E=>.j Z Z .N) (.go Z Z (fun E=>.j Z Z .N) (.skip Z (.skip Z .nil)))) (.cons Z Z (.go Z Z (fun E=>.ah Z Z Z .N) (.go Z Z (fun E=>.ah Z Z Z .N) (.skip Z (.skip Z .nil)))) (.cons Z Z (.go Z Z (fun E=>W.fieldAddr Z Z Z Z .N) (.go Z Z (fun E=>W.fieldAddr Z Z Z Z .N) (.skip Z (.skip Z .nil)))) (.cons Z Z (.go Z Z (fun E=>.B Z Z Z Z Z Z .N) (.go Z Z (fun E=>.B Z Z Z Z Z Z .N) (.skip Z (.skip Z .nil)))) (.cons Z Z (.go Z Z (fun E=>W.fieldAddr Z Z Z Z .N) (.go Z Z (fun E=>W.fieldAddr Z Z Z Z .N) (.skip Z (.skip Z .nil)))) (.cons Z Z (.go Z Z (fun E=>.B Z Z Z Z Z Z .N) (.go Z Z (fun E=>.B Z Z Z Z Z Z .N) (.skip Z (.skip Z .nil)))) ?_)))))))))))
     refine f7.cons Z Z (.go Z Z (fun E=>S.idxH ha76 Z Z Z (by simp) Z Z .N) (.go Z Z (fun E=>S.idxH ha76 Z Z Z (by simp) Z Z .N) (.skip Z (.skip Z .nil)))) (.cons Z Z (.go Z Z (fun E=>S.loadM ha76 Z Z Z Z .N) (.go Z Z (fun E=>S.loadM ha76 Z Z Z Z .N) (.skip Z (.skip Z .nil)))) (.cons Z Z (.go Z Z (fun E=>.j Z Z .N) (.skip Z (.skip Z (.skip Z .nil)))) (.cons Z Z (.go Z Z (fun E=>.ah Z Z Z .N) (.skip Z (.skip Z (.skip Z .nil)))) (.cons Z Z (.go Z Z (fun E=>W.fieldAddr Z Z Z Z .N) (.skip Z (.skip Z (.skip Z .nil)))) (.cons Z Z (.go Z Z (fun E=>.B Z Z Z Z Z Z .N) (.skip Z (.skip Z (.skip Z .nil)))) ?_)))))
     refine f7.cons Z Z ?_ ?_
     apply j2.go;exact Z;exact Z;intro E;refine S.lenO Z Z Z (fun hl82=> ?_);exact AOps.nil ⟨Z,Z⟩
     refine j2.skip Z (j2.skip Z (j2.skip Z (j2.nil)))
     refine f7.cons Z Z (.go Z Z (fun E=>S.sub Z Z Z .N) (.skip Z (.skip Z (.skip Z .nil)))) ?_
     refine f7.skip Z (f7.skip Z ?_)
     refine f7.cons Z Z ?_ ?_
     refine j2.skip Z (j2.skip Z ?_)
     refine j2.go Z Z (fun E=>S.idxH ha86 Z Z Z (by simp) Z Z .N) ?_
     refine j2.skip Z (j2.nil)
     refine f7.skip Z (f7.nil)
    dsimp only[j9]
    obtain rfl:=oi h
    exact⟨⟨[],[(oE 8 [int t.facts,row 1 intI t.init,row 1 intI t.goal,row 4 d9 t.operators,row 1 intI plan,.own 4 0 a44.length,.own 5 0 ((c62.set nv.change.toNat a85).length),.map 3]),.dead,.dead,(oW Value.string vI (mset l6 a13 nv.change)),(oV 5 e9 a44),mat (5,[]) 1 intI (c62.set nv.change.toNat a85)]⟩,(Sub.moveR (k:=1) (f:=intI) (M:=c62) (env':=[]) (σ':=[(oE 8 [int t.facts,row 1 intI t.init,row 1 intI t.goal,row 4 d9 t.operators,row 1 intI plan,.own 4 0 a44.length,.own 5 0 c62.length,.map 3]),.dead,.dead,(oW Value.string vI (mset l6 a13 nv.change)),(oV 5 e9 a44),mat (5,[]) 1 intI (c62.set nv.change.toNat a85),(oE 5 (nN nv)),(oV 1 intI [w64 ((a44.length:Int) - 1)])]) (r:=5) (s:=8) (p:=nv.change.toNat) (matSD_at Z) (C7 ha86).2 Z Z Z Z Z (.inl Z) (OthL.all ⟨.one Z Z,.dead,.dead,.one Z Z,.vec,.self,.one Z Z,.vec,Y⟩) Y Z Z).trans (Sub.cut Y Z ⟨(.eq Z (by first|rfl|(simp only[lS];done))),.dead,.dead,.one Z,.vec,.mat Z,Y⟩ Z),Done.normal Z ⟨Z,Z⟩⟩
theorem ag2{iv:Int}{t:d6}{plan:Li}{l:List d5}{l5:LL}{l6:List (ByteArray×Int)}{r:Li}(h:A7 iv t plan l l5 l6=some r):FnOk prog 13 [(cP 0 0 0),(cI iv)] (Q5 iv t plan l l5 l6) (fun tt ss=>tt=(cR r)∧ss=[(oE 8 [int t.facts,row 1 intI t.init,row 1 intI t.goal,row 4 d9 t.operators,row 1 intI plan,.own 1 0 l.length,.own 2 0 l5.length,.map 3]),(oV 5 e9 l),mat (2,[]) 1 intI l5,(oW Value.string vI l6)]):=by
 refine FnOk.enter (rs:=[.t 4]) func13 Z ntmps13 results13 Z ⟨Y,Y⟩ (by kernel_rfl) Z ?_
 refine AWP.weak ?_
 unfold A7 at h
 refine AWP.q (.u (.v Z Z (.nil (b6 (.q (.u (.v Z Z (.nil (b6 (.q (.F (.virtV 1 intI 5 Z Z Z ?_))))))))))))
 obtain⟨c60,ho1,h⟩:=b9 h
 refine AWP.loopS ho1 (fun(c58,iv59)=>⟨[(0,(cP 0 0 0)),(1,(cI iv59)),(5,.c (.own 4 0 c58.length))],[(oE 8 [int t.facts,row 1 intI t.init,row 1 intI t.goal,row 4 d9 t.operators,row 1 intI plan,.own 1 0 l.length,.own 2 0 l5.length,.map 3]),(oV 5 e9 l),mat (2,[]) 1 intI l5,(oW Value.string vI l6),(oV 1 intI c58)]⟩) (fun c60 e st=>e=.exit 0∧Sub (Q5 iv t plan l l5 l6) st ⟨[(5,.c (.own 4 0 c60.length))],[(oE 8 [int t.facts,row 1 intI t.init,row 1 intI t.goal,row 4 d9 t.operators,row 1 intI plan,.own 1 0 l.length,.own 2 0 l5.length,.map 3]),(oV 5 e9 l),mat (2,[]) 1 intI l5,(oW Value.string vI l6),(oV 1 intI c60)]⟩) ?_ ?_ ?_
 ·try dsimp only
  exact Sub.env ⟨Z,Z,(J3 (by first|rfl|simp only[lS])),Y⟩
 ·intro s o h
  obtain⟨c58,iv59⟩:=s
  unfold s4 at h
  try dsimp only at h ⊢
  refine AWP.q (.q (.u (.j Z Z (.geq Z Z Z (.nil (b6 (.ac Z h (fun hc61 h=> ?_) (fun hc61 h=> ?_))))))))
  ·refine AWP.skip (b6 ?_)
   obtain⟨c62,hx63,h⟩:=b9 h
   refine AWP.seqJ (⟨[(0,(cP 0 0 0)),(1,(cI iv59)),(5,.c (.own 6 0 c62.length))],[(oE 8 [int t.facts,row 1 intI t.init,row 1 intI t.goal,row 4 d9 t.operators,row 1 intI plan,.own 1 0 l.length,.own 2 0 l5.length,.map 3]),(oV 5 e9 l),mat (2,[]) 1 intI l5,(oW Value.string vI l6),.dead,.dead,(oV 1 intI c62)]⟩) ?_ ?_
   ·refine AWP.F (.q ?_)
    obtain⟨a22,ha22,hx63⟩:=b9 hx63
    refine AWP.u (.j Z Z (.ah Z Z Z (W.fieldAddr Z Z Z Z (.B Z Z Z Z Z Z (.j Z Z (S.idxO ha22 Z Z Z Z Z (W.fieldAddr Z Z Z Z (S.loadO ha22 Z Z Z Z Z (.v Z Z (.nil (b6 (.q (.u (.j Z Z (.geq Z Z Z (.nil (b6 (.ac Z hx63 (fun hc64 hx63=> ?_) (fun hc64 hx63=> ?_)))))))))))))))))))
    ·obtain⟨a30,ha30,hx63⟩:=b9 hx63
     refine AWP.u (.j Z Z (.j Z Z (S.lit (f:=intI) (l:=[a22.op]) (ess:=[[int a22.op]]) Z Z Z Z Z Z Z ⟨⟨.inl Z,Y⟩,Y⟩ Z Z Z (S.append (f:=intI) ha30 Z Z Z Z Z Z (.own Z Z) Z Z Z Z (.v Z Z (.nil (f4 ?_)))))))
     obtain rfl:=oi hx63
     refine b6 (Sub.cut ⟨Z,Z,Z,Y⟩ Z ⟨.one Z,.vec,.mat Z,.one Z,.dead,.dead,.vec,Y⟩ Z)
    ·refine AWP.skip (f4 ?_)
     obtain rfl:=oi hx63
     refine b6 ((Sub.move (env':=[(0,(cP 0 0 0)),(1,(cI iv59)),(5,.c (.own 6 0 c58.length))]) (σ':=[(oE 8 [int t.facts,row 1 intI t.init,row 1 intI t.goal,row 4 d9 t.operators,row 1 intI plan,.own 1 0 l.length,.own 2 0 l5.length,.map 3]),(oV 5 e9 l),mat (2,[]) 1 intI l5,(oW Value.string vI l6),.dead,.dead,(oV 1 intI c58)]) 6 4 Z Z Z ⟨Z,Z,Z,Y⟩ Z ⟨⟨Z,Z⟩,⟨Blk.im_ok _ _ _,g8 Z⟩,.mat Z Z Z,⟨Z,Z⟩,Y,Y,⟨Blk.im_ok _ _ _,g8 Z⟩,Y⟩).trans (Sub.env ⟨Z,Z,Z,Y⟩))
   ·obtain⟨a14,ha14,h⟩:=b9 h
    refine AWP.u (.j Z Z (.ah Z Z Z (W.fieldAddr Z Z Z Z (.B Z Z Z Z Z Z (.j Z Z (S.idxO ha14 Z Z Z Z Z (W.fieldAddr Z Z Z Z (S.loadO ha14 Z Z Z Z Z (.v Z Z (.nil ?_))))))))))
    obtain rfl:=oi h
    refine b6 ⟨_,Z,?_⟩
    exact(Sub.move (env':=[(0,(cP 0 0 0)),(1,(cI a14.ffrom)),(5,.c (.own 4 0 c62.length))]) (σ':=[(oE 8 [int t.facts,row 1 intI t.init,row 1 intI t.goal,row 4 d9 t.operators,row 1 intI plan,.own 1 0 l.length,.own 2 0 l5.length,.map 3]),(oV 5 e9 l),mat (2,[]) 1 intI l5,(oW Value.string vI l6),(oV 1 intI c62),.dead]) 4 6 Z Z Z ⟨Z,Z,Z,Y⟩ Z ⟨⟨Z,Z⟩,⟨Blk.im_ok _ _ _,g8 Z⟩,.mat Z Z Z,⟨Z,Z⟩,⟨Blk.im_ok _ _ _,g8 Z⟩,Y,Y⟩).trans (Sub.cut ⟨Z,Z,Z,Y⟩ Z ⟨.one Z,.vec,.mat Z,.one Z,.vec,Y⟩ Z)
  ·refine AWP.exit (f5 ?_)
   obtain rfl:=oi h
   refine f5 ⟨_,Z,Z,?_⟩
   exact Sub.env ⟨Z,Y⟩
 ·intro e s hq
  obtain⟨rfl,hs⟩:=hq
  refine⟨_,hs,?_⟩
  refine j7 (b6 (.q (.u (.j Z Z (S.rev revL_ok Z Z Z Z Z Z (.nil (b6 (.q (.u (.j Z Z (.v Z Z (.nil (b6 (.frzV (id:=4) (l:=c60.reverse) (env2:=[(4,(cR c60.reverse))]) (σ2:=[(oE 8 [int t.facts,row 1 intI t.init,row 1 intI t.goal,row 4 d9 t.operators,row 1 intI plan,.own 1 0 l.length,.own 2 0 l5.length,.map 3]),(oV 5 e9 l),mat (2,[]) 1 intI l5,(oW Value.string vI l6),.dead]) Z Z (by exact⟨⟨_,Z,.inr ⟨_,Z,List.length_reverse.symm,Z⟩⟩,Y⟩) Z (by exact⟨⟨Z,.inl ⟨Z,Z⟩,.inl ⟨Z,Z⟩,.inl ⟨Z,Z⟩,.inl ⟨Z,Z⟩,.inl ⟨Z,Z⟩,.inl ⟨Z,Z⟩,.inl ⟨Z,Z⟩,.inl ⟨Z,Z⟩,Y⟩,FrzB.vec,(FrzB.mat Z),⟨Z,Z⟩,Y,Y⟩) (.ret ?_)))))))))))))))
  obtain rfl:=oi h
  exact⟨⟨[(4,(cR c60.reverse))],[(oE 8 [int t.facts,row 1 intI t.init,row 1 intI t.goal,row 4 d9 t.operators,row 1 intI plan,.own 1 0 l.length,.own 2 0 l5.length,.map 3]),(oV 5 e9 l),mat (2,[]) 1 intI l5,(oW Value.string vI l6)]⟩,Sub.cut ⟨Z,Y⟩ Z ⟨.one Z,.vec,.mat Z,.one Z,Y⟩ Z,Done.ret Z ⟨Z,Z⟩⟩
theorem am1{t:d6}{sv:Li}{r:Unit}(h:F2 t sv=some r):FnOk prog 33 [.agg (tT t),(cR sv)] (al9 t sv) (fun tt ss=>tt=.c (.fn 54 [.ptr 0 0 0,.ptr 1 0 0])∧ss=[(oE 4 (tT t)),(o1 (row 1 intI sv))]):=by
 refine FnOk.enter (rs:=[.t 4]) func33 Z ntmps33 results33 Z ⟨Y,Y⟩ (by kernel_rfl) Z ?_
 refine AWP.weak ?_
 unfold F2 at h
 refine AWP.q (.u (W.box Z Z Z Z Z Z (W.box Z Z Z Z Z Z (.v Z Z (.nil (b6 (.q (.u (.ak Z Z (.v Z Z (.nil (b6 (.ret ?_)))))))))))))
 obtain rfl:=oi h
 exact⟨⟨[(4,.c (.fn 54 [.ptr 0 0 0,.ptr 1 0 0]))],[(oE 4 (tT t)),(o1 (row 1 intI sv))]⟩,Sub.env ⟨Z,Y⟩,Done.ret Z ⟨Z,Z⟩⟩
theorem af4{iv:Int}{t:d6}{plan:Li}{l:List d5}{l5:LL}{l6:List (ByteArray×Int)}{r:(List (ByteArray×Int))×(List d5)×(LL)}(h:y7 iv t plan l l5 l6=some r):FnOk prog 14 [(cP 0 0 0),(cI iv)] (ae3 iv t plan l l5 l6) (fun tt ss=>tt=.tup []∧ss=[(oE 8 [int t.facts,row 1 intI t.init,row 1 intI t.goal,row 4 d9 t.operators,row 1 intI plan,.own 14 0 r.2.1.length,.own 15 0 r.2.2.length,.map 3]),.dead,.dead,(oW Value.string vI r.1),.dead,.dead,.dead,.dead,.dead,.dead,.dead,.dead,.dead,.dead,(oV 5 e9 r.2.1),mat (15,[]) 1 intI r.2.2]):=by
 refine FnOk.enter (rs:=[]) func14 Z ntmps14 results14 Z Y (by kernel_rfl) Z ?_
 refine AWP.weak ?_
 unfold y7 at h
 refine AWP.q (.u (W.box Z Z Z Z Z Z (W.box Z Z Z Z Z Z (.nil (b6 (.q ?_))))))
 obtain⟨a13,ha13,h⟩:=b9 h
 refine AWP.drawEI [7,8] mixed Z Z Z ?_
 refine d3.consN Z Z (fun E=>.B Z Z Z Z Z Z .N) Z (.consN Z Z (fun E=>.ah Z Z Z .N) Z (.consN Z Z (fun E=>W.fieldAddr Z Z Z Z .N) Z (.consN Z Z (fun E=>.B Z Z Z Z Z Z .N) Z (.consN Z Z (fun E=>.B Z Z Z Z Z Z .N) Z (.consN Z Z (fun E=>S.idxO ha13 Z Z Z Z Z .N) Z (.consN Z Z (fun E=>S.loadOAgg ha13 Z Z Z Z Z Z Z .N) Z ?_))))))
 apply d3.consE;exact Z;exact Z;intro E
 refine W.alloc Z Z Z Z .N
 exact Z
 exact Z
 apply d3.consE (v:=.undef);exact Z;exact Z;intro E
 refine W.storeAgg Z Z Z Z Z Z Z .N
 exact Z
 exact Z
 refine d3.done Z ?_ ?_
 ·refine f7.cons Z Z (.go Z Z (fun E=>.B Z Z Z Z Z Z .N) (.go Z Z (fun E=>.B Z Z Z Z Z Z .N) (.skip Z .nil))) (.cons Z Z (.go Z Z (fun E=>.ah Z Z Z .N) (.go Z Z (fun E=>.ah Z Z Z .N) (.skip Z .nil))) (.cons Z Z (.go Z Z (fun E=>W.fieldAddr Z Z Z Z .N) (.go Z Z (fun E=>W.fieldAddr Z Z Z Z .N) (.skip Z .nil))) (.cons Z Z (.go Z Z (fun E=>.B Z Z Z Z Z Z .N) (.go Z Z (fun E=>.B Z Z Z Z Z Z .N) (.skip Z .nil))) (.cons Z Z (.go Z Z (fun E=>.B Z Z Z Z Z Z .N) (.go Z Z (fun E=>.B Z Z Z Z Z Z .N) (.skip Z .nil))) (.cons Z Z (.go Z Z (fun E=>S.idxO ha13 Z Z Z Z Z .N) (.go Z Z (fun E=>S.idxO ha13 Z Z Z Z Z .N) (.skip Z .nil))) (.cons Z Z (.go Z Z (fun E=>S.loadOAgg ha13 Z Z Z Z Z Z Z .N) (.go Z Z (fun E=>S.loadOAgg ha13 Z Z Z Z Z Z Z .N) (.skip Z .nil))) ?_))))))
  refine f7.skip Z (f7.skip Z (f7.nil))
 dsimp only[j9]
 refine b6 ?_
 obtain⟨⟨c60,c61,c62⟩,hx63,h⟩:=b9 h
 refine AWP.seqJ (⟨[(2,(cP 4 0 0)),(3,(cP 5 0 0)),(4,(cP 6 0 0))],[(oE 8 [int t.facts,row 1 intI t.init,row 1 intI t.goal,row 4 d9 t.operators,row 1 intI plan,.own 9 0 c61.length,.own 10 0 c62.length,.map 3]),.dead,.dead,(oW Value.string vI c60),(o1 (.ptr 0 0 0)),(o1 (int iv)),(oE 5 (nN a13)),.dead,.dead,(oV 5 e9 c61),mat (10,[]) 1 intI c62]⟩) ?_ ?_
 ·refine AWP.q (.drawI mixed Z ?_)
  refine k9.consF Z (fun E=>W.fieldAddr Z Z Z Z .N) Z (.consF Z (fun E=>.B Z Z Z Z Z Z .N) Z (.consF Z (fun E=>.B Z Z Z Z Z Z .N) Z (.consF Z (fun E=>.ah Z Z Z .N) Z (.consF Z (fun E=>W.fieldAddr Z Z Z Z .N) Z (.consF Z (fun E=>.B Z Z Z Z Z Z .N) Z (.consF Z (fun E=>S.len Z Z (fun hl21=>.nil ⟨Z,Z⟩)) Z (.consF Z (fun E=>.J Z Z Z .N) Z ?_)))))))
  refine k9.done ?_
  dsimp only[j9]
  refine b6 (.ac Z hx63 (fun hc64 hx63=> ?_) (fun hc64 hx63=> ?_))
  ·refine AWP.q ?_
   obtain⟨a29,ha29,hx63⟩:=b9 hx63
   refine AWP.drawI mixed Z ?_
   refine k9.consF Z (fun E=>.B Z Z Z Z Z Z .N) Z (.consF Z (fun E=>.ah Z Z Z .N) Z (.consF Z (fun E=>W.fieldAddr Z Z Z Z .N) Z (.consF Z (fun E=>.B Z Z Z Z Z Z .N) Z (.consF Z (fun E=>W.fieldAddr Z Z Z Z .N) Z (.consF Z (fun E=>.B Z Z Z Z Z Z .N) Z (.consF Z (fun E=>S.idx ha29 Z Z Z Z .N) Z (.consF Z (fun E=>.ai Z Z Z Z .N) Z (.consF Z (fun E=>.v Z Z .N) Z ?_))))))))
   refine k9.done ?_
   dsimp only[j9]
   refine b6 ?_
   obtain⟨⟨c65,c66,c67⟩,hx68,hx63⟩:=b9 hx63
   refine AWP.seqJ (⟨[(2,(cP 4 0 0)),(3,(cP 5 0 0)),(4,(cP 6 0 0))],[(oE 8 [int t.facts,row 1 intI t.init,row 1 intI t.goal,row 4 d9 t.operators,row 1 intI plan,.own 7 0 c66.length,.own 8 0 c67.length,.map 3]),.dead,.dead,(oW Value.string vI c65),(o1 (.ptr 0 0 0)),(o1 (int iv)),(oE 5 (nN a13)),(oV 5 e9 c66),mat (8,[]) 1 intI c67]⟩) ?_ ?_
   ·refine AWP.q ?_
    obtain⟨a38,ha38,hx68⟩:=b9 hx68
    refine AWP.drawI mixed Z ?_
    refine k9.consF Z (fun E=>.B Z Z Z Z Z Z .N) Z (.consF Z (fun E=>.ah Z Z Z .N) Z (.consF Z (fun E=>W.fieldAddr Z Z Z Z .N) Z (.consF Z (fun E=>W.loadAgg Z Z Z Z Z Z Z .N) Z (.consF Z (fun E=>W.fieldAddr Z Z Z Z .N) Z (.consF Z (fun E=>.B Z Z Z Z Z Z .N) Z (.consF Z (fun E=>.j Z Z .N) Z (.consF Z (fun E=>.O Z Z Z Z (ag1 ha38) Z .N) Z ?_)))))))
    refine k9.done ?_
    dsimp only[j9]
    refine b6 (.ad Z hx68 (fun hc69 hx68=> ?_) (fun hc69 hx68=> ?_))
    ·obtain⟨a47,ha47,a56,ha56,hx68⟩:=b2 hx68
     refine AWP.drawEI [17] mixed Z Z Z ?_
     refine d3.consN Z Z (fun E=>.B Z Z Z Z Z Z .N) Z (.consN Z Z (fun E=>.B Z Z Z Z Z Z .N) Z (.consN Z Z (fun E=>.ah Z Z Z .N) Z (.consN Z Z (fun E=>W.fieldAddr Z Z Z Z .N) Z (.consN Z Z (fun E=>W.loadAgg Z Z Z Z Z Z Z .N) Z (.consN Z Z (fun E=>W.fieldAddr Z Z Z Z .N) Z (.consN Z Z (fun E=>.B Z Z Z Z Z Z .N) Z (.consN Z Z (fun E=>.j Z Z .N) Z (.consN Z Z (fun E=>.O Z Z Z Z (n8.data (U2 ha47)) Z .N) Z (.consN Z Z (fun E=>W.fieldAddr Z Z Z Z .N) Z (.consN Z Z (fun E=>.B Z Z Z Z Z Z .N) Z (.consN Z Z (fun E=>S.add Z Z Z .N) Z (.consN Z Z (fun E=>.B Z Z Z Z Z Z .N) Z (.consN Z Z (fun E=>.j Z Z .N) Z (.consN Z Z (fun E=>W.fieldAddr Z Z Z Z .N) Z (.consN Z Z (fun E=>.B Z Z Z Z Z Z .N) Z (.consN Z Z (fun E=>W.build Z Z Z Z .N) Z ?_))))))))))))))))
     apply d3.consE;exact Z;exact Z;intro E
     refine AOps.callF (r2:=.tup []) (σ'':=[(oE 8 [int t.facts,row 1 intI t.init,row 1 intI t.goal,row 4 d9 t.operators,row 1 intI plan,.own 7 0 a56.2.1.length,.own 8 0 a56.2.2.length,.map 3]),.dead,.dead,(oW Value.string vI a56.1),(o1 (.ptr 0 0 0)),(o1 (int iv)),(oE 5 (nN a13)),(oV 5 e9 a56.2.1),mat (8,[]) 1 intI a56.2.2]) Z Z Z (FnOk.lend [0,1,2,3] (D0 ha56) Z Z Z Z Z Z (by exact⟨(.one Z),.vec,(.mat Z),(.one Z),Y⟩) Z (by exact⟨(.live Z (.one Z)),(.live Z .vec),(.live Z .mat),(.live Z (.one Z)),Y⟩) Z Z (by exact⟨(.new 0 Z Z (.one Z)),.dead,.dead,(.new 3 Z Z (.one Z)),(.old Z Z Z),(.old Z Z Z),(.old Z Z Z),(.new 4 Z Z .vec),(.new 5 Z Z .mat),Y⟩)) .N
     exact Z
     exact Z
     refine d3.done Z ?_ ?_
     ·refine f7.cons Z Z (.go Z Z (fun E=>.B Z Z Z Z Z Z .N) (.skip Z .nil)) (.cons Z Z (.go Z Z (fun E=>.B Z Z Z Z Z Z .N) (.skip Z .nil)) (.cons Z Z (.go Z Z (fun E=>.ah Z Z Z .N) (.skip Z .nil)) (.cons Z Z (.go Z Z (fun E=>W.fieldAddr Z Z Z Z .N) (.skip Z .nil)) (.cons Z Z (.go Z Z (fun E=>W.loadAgg Z Z Z Z Z Z Z .N) (.skip Z .nil)) (.cons Z Z (.go Z Z (fun E=>W.fieldAddr Z Z Z Z .N) (.skip Z .nil)) (.cons Z Z (.go Z Z (fun E=>.B Z Z Z Z Z Z .N) (.skip Z .nil)) (.cons Z Z (.go Z Z (fun E=>.j Z Z .N) (.skip Z .nil)) (.cons Z Z (.go Z Z (fun E=>.O Z Z Z Z (n8.data (U2 ha47)) Z .N) (.skip Z .nil)) (.cons Z Z (.go Z Z (fun E=>W.fieldAddr Z Z Z Z .N) (.skip Z .nil)) (.cons Z Z (.go Z Z (fun E=>.B Z Z Z Z Z Z .N) (.skip Z .nil)) (.cons Z Z (.go Z Z (fun E=>S.add Z Z Z .N) (.skip Z .nil)) ?_)))))))))))
      refine f7.cons Z Z (.go Z Z (fun E=>.B Z Z Z Z Z Z .N) (.skip Z .nil)) (.cons Z Z (.go Z Z (fun E=>.j Z Z .N) (.skip Z .nil)) (.cons Z Z (.go Z Z (fun E=>W.fieldAddr Z Z Z Z .N) (.skip Z .nil)) (.cons Z Z (.go Z Z (fun E=>.B Z Z Z Z Z Z .N) (.skip Z .nil)) (.cons Z Z (.go Z Z (fun E=>W.build Z Z Z Z .N) (.skip Z .nil)) ?_))))
      refine f7.skip Z (f7.nil)
     dsimp only[j9]
     obtain⟨ej0,ej1,ej2⟩:=o3 hx68
     subst ej0 ej1 ej2
     refine b6 (Sub.env ⟨Z,Z,Z,Y⟩)
    ·refine AWP.skip ?_
     obtain⟨ej0,ej1,ej2⟩:=o3 hx68
     subst ej0 ej1 ej2
     refine b6 ((Sub.move (env':=[(2,(cP 4 0 0)),(3,(cP 5 0 0)),(4,(cP 6 0 0))]) (σ':=[(oE 8 [int t.facts,row 1 intI t.init,row 1 intI t.goal,row 4 d9 t.operators,row 1 intI plan,.own 7 0 l.length,.own 2 0 l5.length,.map 3]),.dead,mat (2,[]) 1 intI l5,(oW Value.string vI l6),(o1 (.ptr 0 0 0)),(o1 (int iv)),(oE 5 (nN a13)),(oV 5 e9 l)]) 7 1 Z Z Z ⟨Z,Z,Z,Y⟩ Z ⟨⟨Z,Z⟩,Y,.mat Z Z Z,⟨Z,Z⟩,⟨Z,Z⟩,⟨Z,Z⟩,⟨Z,Z⟩,⟨Blk.im_ok _ _ _,g8 Z⟩,Y⟩).trans ((Sub.moveM (env':=[(2,(cP 4 0 0)),(3,(cP 5 0 0)),(4,(cP 6 0 0))]) (σ':=[(oE 8 [int t.facts,row 1 intI t.init,row 1 intI t.goal,row 4 d9 t.operators,row 1 intI plan,.own 7 0 l.length,.own 8 0 l5.length,.map 3]),.dead,.dead,(oW Value.string vI l6),(o1 (.ptr 0 0 0)),(o1 (int iv)),(oE 5 (nN a13)),(oV 5 e9 l),mat (8,[]) 1 intI l5]) 8 2 Z Z Z ⟨Z,Z,Z,Y⟩ Z ⟨(.one Z Z),.dead,.dead,(.one Z Z),(.one Z Z),(.one Z Z),(.one Z Z),(.vec Z),(.mat Z Z Z),Y⟩).trans (Sub.env ⟨Z,Z,Z,Y⟩)))
   ·try dsimp only at hx63
    obtain⟨a68,ha68,hx63⟩:=b9 hx63
    refine AWP.u (.B Z Z Z Z Z Z (W.fieldAddr Z Z Z Z (.B Z Z Z Z Z Z (W.fieldAddr Z Z Z Z (.B Z Z Z Z Z Z (S.add Z Z Z (.B Z Z Z Z Z Z (W.fieldAddr Z Z Z Z (.B Z Z Z Z Z Z (S.add Z Z Z (W.build Z Z Z Z (.callF (r2:=.tup []) (σ'':=[(oE 8 [int t.facts,row 1 intI t.init,row 1 intI t.goal,row 4 d9 t.operators,row 1 intI plan,.own 9 0 a68.2.1.length,.own 10 0 a68.2.2.length,.map 3]),.dead,.dead,(oW Value.string vI a68.1),(o1 (.ptr 0 0 0)),(o1 (int iv)),(oE 5 (nN a13)),.dead,.dead,(oV 5 e9 a68.2.1),mat (10,[]) 1 intI a68.2.2]) Z Z Z (FnOk.lend [0,7,8,3] (D0 ha68) Z Z Z Z Z Z (by exact⟨(.one Z),.vec,(.mat Z),(.one Z),Y⟩) Z (by exact⟨(.live Z (.one Z)),(.live Z .vec),(.live Z .mat),(.live Z (.one Z)),Y⟩) Z Z (by exact⟨(.new 0 Z Z (.one Z)),.dead,.dead,(.new 3 Z Z (.one Z)),(.old Z Z Z),(.old Z Z Z),(.old Z Z Z),.dead,.dead,(.new 4 Z Z .vec),(.new 5 Z Z .mat),Y⟩)) (.nil ?_)))))))))))))
    obtain⟨ej0,ej1,ej2⟩:=o3 hx63
    subst ej0 ej1 ej2
    refine b6 (Sub.env ⟨Z,Z,Z,Y⟩)
  ·refine AWP.skip ?_
   obtain⟨ej0,ej1,ej2⟩:=o3 hx63
   subst ej0 ej1 ej2
   refine b6 ((Sub.move (env':=[(2,(cP 4 0 0)),(3,(cP 5 0 0)),(4,(cP 6 0 0))]) (σ':=[(oE 8 [int t.facts,row 1 intI t.init,row 1 intI t.goal,row 4 d9 t.operators,row 1 intI plan,.own 9 0 l.length,.own 2 0 l5.length,.map 3]),.dead,mat (2,[]) 1 intI l5,(oW Value.string vI l6),(o1 (.ptr 0 0 0)),(o1 (int iv)),(oE 5 (nN a13)),.dead,.dead,(oV 5 e9 l)]) 9 1 Z Z Z ⟨Z,Z,Z,Y⟩ Z ⟨⟨Z,Z⟩,Y,.mat Z Z Z,⟨Z,Z⟩,⟨Z,Z⟩,⟨Z,Z⟩,⟨Z,Z⟩,Y,Y,⟨Blk.im_ok _ _ _,g8 Z⟩,Y⟩).trans ((Sub.moveM (env':=[(2,(cP 4 0 0)),(3,(cP 5 0 0)),(4,(cP 6 0 0))]) (σ':=[(oE 8 [int t.facts,row 1 intI t.init,row 1 intI t.goal,row 4 d9 t.operators,row 1 intI plan,.own 9 0 l.length,.own 10 0 l5.length,.map 3]),.dead,.dead,(oW Value.string vI l6),(o1 (.ptr 0 0 0)),(o1 (int iv)),(oE 5 (nN a13)),.dead,.dead,(oV 5 e9 l),mat (10,[]) 1 intI l5]) 10 2 Z Z Z ⟨Z,Z,Z,Y⟩ Z ⟨(.one Z Z),.dead,.dead,(.one Z Z),(.one Z Z),(.one Z Z),(.one Z Z),.dead,.dead,(.vec Z),(.mat Z Z Z),Y⟩).trans (Sub.env ⟨Z,Z,Z,Y⟩)))
 ·try dsimp only at h
  refine AWP.q ?_
  obtain⟨a75,ha75,h⟩:=b9 h
  refine AWP.drawEI [6] mixed Z Z Z ?_
  refine d3.consN Z Z (fun E=>.B Z Z Z Z Z Z .N) Z (.consN Z Z (fun E=>.ah Z Z Z .N) Z (.consN Z Z (fun E=>W.fieldAddr Z Z Z Z .N) Z (.consN Z Z (fun E=>W.loadAgg Z Z Z Z Z Z Z .N) Z (.consN Z Z (fun E=>W.fieldAddr Z Z Z Z .N) Z (.consN Z Z (fun E=>.B Z Z Z Z Z Z .N) Z ?_)))))
  apply d3.consE;exact Z;exact Z;intro E
  refine AOps.callF (r2:=.c (.fn 54 [.ptr 11 0 0,.ptr 12 0 0])) (σ'':=[(oE 8 [int t.facts,row 1 intI t.init,row 1 intI t.goal,row 4 d9 t.operators,row 1 intI plan,.own 9 0 c61.length,.own 10 0 c62.length,.map 3]),.dead,.dead,(oW Value.string vI c60),(o1 (.ptr 0 0 0)),(o1 (int iv)),(oE 5 (nN a13)),.dead,.dead,(oV 5 e9 c61),mat (10,[]) 1 intI c62,(oE 4 (tT t)),(o1 (row 1 intI a13.fs))]) Z Z Z (FnOk.lend [] (am1 ha75) Z Z Z Z Z Z (by exact Y) Z (by exact Y) Z Z (by exact⟨(.old Z Z Z),.dead,.dead,(.old Z Z Z),(.old Z Z Z),(.old Z Z Z),(.old Z Z Z),.dead,.dead,(.old Z Z Z),(.old Z Z Z),(.new 0 Z Z (.one Z)),(.new 1 Z Z (.one Z)),Y⟩)) .N
  exact Z
  exact Z
  refine d3.done Z ?_ ?_
  ·refine f7.cons Z Z (.go Z Z (fun E=>.B Z Z Z Z Z Z .N) (.skip Z .nil)) (.cons Z Z (.go Z Z (fun E=>.ah Z Z Z .N) (.skip Z .nil)) (.cons Z Z (.go Z Z (fun E=>W.fieldAddr Z Z Z Z .N) (.skip Z .nil)) (.cons Z Z (.go Z Z (fun E=>W.loadAgg Z Z Z Z Z Z Z .N) (.skip Z .nil)) (.cons Z Z (.go Z Z (fun E=>W.fieldAddr Z Z Z Z .N) (.skip Z .nil)) (.cons Z Z (.go Z Z (fun E=>.B Z Z Z Z Z Z .N) (.skip Z .nil)) ?_)))))
   refine f7.skip Z (f7.nil)
  dsimp only[j9]
  refine b6 (.F ?_)
  obtain⟨xr70,hr70,h⟩:=b9 h
  refine AWP.rangeB [(2,none),(3,none),(4,none)] Z Z Z (fun as70 bo70 hA70 hB70=>⟨[(oE 8 [int t.facts,row 1 intI t.init,row 1 intI t.goal,row 4 d9 t.operators,row 1 intI plan,.own 9 0 c61.length,.own 10 0 c62.length,.map 3]),.dead,.dead,(oW Value.string vI c60),(o1 (.ptr 0 0 0)),(o1 (int iv)),(oE 5 (nN a13)),.dead,.dead,(oV 5 e9 c61),mat (10,[]) 1 intI c62,(oE 4 (tT t)),(o1 (row 1 intI a13.fs)),.one (i8 89 [76,77] as70 bo70 .ready none [(2,none),(3,none),(4,none)] [.ptr 4 0 0,.ptr 5 0 0,.ptr 6 0 0])],fun tt ss=>tt=.tup []∧ss=[(oE 8 [int t.facts,row 1 intI t.init,row 1 intI t.goal,row 4 d9 t.operators,row 1 intI plan,.own 14 0 xr70.2.1.length,.own 15 0 xr70.2.2.length,.map 3]),.dead,.dead,(oW Value.string vI xr70.1),(o1 (.ptr 0 0 0)),(o1 (int iv)),(oE 5 (nN a13)),.dead,.dead,.dead,.dead,(oE 4 (tT t)),(o1 (row 1 intI a13.fs)),.one (i8 89 [76,77] as70 bo70 .ready none [(2,none),(3,none),(4,none)] [.ptr 4 0 0,.ptr 5 0 0,.ptr 6 0 0]),(oV 5 e9 xr70.2.1),mat (15,[]) 1 intI xr70.2.2],Z,?_,?_⟩)
  ·refine FnOk.enter (rs:=[]) func54 Z ntmps54 results54 Z Y (by kernel_rfl) Z ?_
   refine AWP.weak ?_
   unfold v6 at hr70
   try dsimp only at hr70
   refine AWP.j (env':=[(0,.c (.yld 13)),(1,(cP 11 0 0)),(2,(cP 12 0 0))]) (σ':=[(oE 8 [int t.facts,row 1 intI t.init,row 1 intI t.goal,row 4 d9 t.operators,row 1 intI plan,.own 14 0 c61.length,.own 10 0 c62.length,.map 3]),.dead,.dead,(oW Value.string vI c60),(o1 (.ptr 0 0 0)),(o1 (int iv)),(oE 5 (nN a13)),.dead,.dead,.dead,mat (10,[]) 1 intI c62,(oE 4 (tT t)),(o1 (row 1 intI a13.fs)),.one (i8 89 [76,77] as70 bo70 .ready none [(2,none),(3,none),(4,none)] [.ptr 4 0 0,.ptr 5 0 0,.ptr 6 0 0]),(oV 5 e9 c61)]) 14 9 Z Z Z ⟨Z,Z,Z,Y⟩ Z ⟨⟨Z,Z⟩,Y,Y,⟨Z,Z⟩,⟨Z,Z⟩,⟨Z,Z⟩,⟨Z,Z⟩,Y,Y,Y,.mat Z Z Z,⟨Z,Z⟩,⟨Z,Z⟩,⟨Z,Z⟩,⟨Blk.im_ok _ _ _,g8 Z⟩,Y⟩ (.moveM (env':=[(0,.c (.yld 13)),(1,(cP 11 0 0)),(2,(cP 12 0 0))]) (σ':=[(oE 8 [int t.facts,row 1 intI t.init,row 1 intI t.goal,row 4 d9 t.operators,row 1 intI plan,.own 14 0 c61.length,.own 15 0 c62.length,.map 3]),.dead,.dead,(oW Value.string vI c60),(o1 (.ptr 0 0 0)),(o1 (int iv)),(oE 5 (nN a13)),.dead,.dead,.dead,.dead,(oE 4 (tT t)),(o1 (row 1 intI a13.fs)),.one (i8 89 [76,77] as70 bo70 .ready none [(2,none),(3,none),(4,none)] [.ptr 4 0 0,.ptr 5 0 0,.ptr 6 0 0]),(oV 5 e9 c61),mat (15,[]) 1 intI c62]) 15 10 Z Z Z ⟨Z,Z,Z,Y⟩ Z ⟨(.one Z Z),.dead,.dead,(.one Z Z),(.one Z Z),(.one Z Z),(.one Z Z),.dead,.dead,.dead,.dead,(.one Z Z),(.one Z Z),(.one Z Z),(.vec Z),(.mat Z Z Z),Y⟩ (.q (.u (W.fieldAddr Z Z Z Z (.B Z Z Z Z Z Z (S.len Z Z (fun hl7=>.j Z Z (.nil (b6 (.F ?_))))))))))
   obtain⟨⟨c74,c75,c76⟩,ho1,hr70⟩:=b9 hr70
   try dsimp only at hr70
   refine AWP.forS ho1 (fun t77 (c74,c75,c76)=>⟨[(0,.c (.yld 13)),(1,(cP 11 0 0)),(2,(cP 12 0 0)),(7,(cI (t.operators.length:Int))),(8,(cI t77))],[(oE 8 [int t.facts,row 1 intI t.init,row 1 intI t.goal,row 4 d9 t.operators,row 1 intI plan,.own 14 0 c75.length,.own 15 0 c76.length,.map 3]),.dead,.dead,(oW Value.string vI c74),(o1 (.ptr 0 0 0)),(o1 (int iv)),(oE 5 (nN a13)),.dead,.dead,.dead,.dead,(oE 4 (tT t)),(o1 (row 1 intI a13.fs)),.one (i8 89 [76,77] as70 bo70 .ready none [(2,none),(3,none),(4,none)] [.ptr 4 0 0,.ptr 5 0 0,.ptr 6 0 0]),(oV 5 e9 c75),mat (15,[]) 1 intI c76]⟩) (fun(c74,c75,c76) e st=>e=.exit 0∧Sub ([(oE 8 [int t.facts,row 1 intI t.init,row 1 intI t.goal,row 4 d9 t.operators,row 1 intI plan,.own 9 0 c61.length,.own 10 0 c62.length,.map 3]),.dead,.dead,(oW Value.string vI c60),(o1 (.ptr 0 0 0)),(o1 (int iv)),(oE 5 (nN a13)),.dead,.dead,(oV 5 e9 c61),mat (10,[]) 1 intI c62,(oE 4 (tT t)),(o1 (row 1 intI a13.fs)),.one (i8 89 [76,77] as70 bo70 .ready none [(2,none),(3,none),(4,none)] [.ptr 4 0 0,.ptr 5 0 0,.ptr 6 0 0])]:b7) st ⟨[],[(oE 8 [int t.facts,row 1 intI t.init,row 1 intI t.goal,row 4 d9 t.operators,row 1 intI plan,.own 14 0 c75.length,.own 15 0 c76.length,.map 3]),.dead,.dead,(oW Value.string vI c74),(o1 (.ptr 0 0 0)),(o1 (int iv)),(oE 5 (nN a13)),.dead,.dead,.dead,.dead,(oE 4 (tT t)),(o1 (row 1 intI a13.fs)),.one (i8 89 [76,77] as70 bo70 .ready none [(2,none),(3,none),(4,none)] [.ptr 4 0 0,.ptr 5 0 0,.ptr 6 0 0]),(oV 5 e9 c75),mat (15,[]) 1 intI c76]⟩) ?_ ?_ ?_ ?_
   ·try dsimp only
    exact Sub.env ⟨Z,Z,Z,Z,Z,Y⟩
   ·intro t77 s hlot77 hltt77 _
    obtain⟨c74,c75,c76⟩:=s
    try dsimp only
    refine AWP.q (.u (.J Z Z Z (.nil (b6 (.q (.ae Z hltt77 (.exit (f5 (f5 ⟨Z,?_⟩)))))))))
    exact Sub.env Y
   ·intro t77 s o hlot77 hltt77 h
    obtain⟨c74,c75,c76⟩:=s
    unfold A9 at h
    try dsimp only at h ⊢
    refine AWP.q (.u (.J Z Z Z (.nil (b6 (.q (.af Z hltt77 (.skip (b6 (.q (.F (.q (.u (.j Z Z (.v Z Z (.nil (b6 (.q ?_)))))))))))))))))
    obtain⟨ai14,hai14,h⟩:=b9 h
    rcases bft (ai14) with hb78|hb78
    ·replace h:=W8 hb78 h
     obtain⟨ai21,hai21,h⟩:=b9 h
     refine AWP.u (W.loadAgg Z Z Z Z Z Z Z (.B Z Z Z Z Z Z (.j Z Z (.O Z Z Z Z (ag1 hai14) Z (.j Z Z (.z Z Z Z hb78 (.j Z Z (.z Z Z Z hb78 (.j Z Z (.z Z Z Z hb78 (W.loadAgg Z Z Z Z Z Z Z (.z Z Z Z hb78 (.B Z Z Z Z Z Z (.z Z Z Z hb78 (.j Z Z (.z Z Z Z hb78 (S.fresh Z Z Z Z (U2 hai21) Z Z (.frzV (id:=16) (l:=ai21) (env2:=[(0,.c (.yld 13)),(1,(cP 11 0 0)),(2,(cP 12 0 0)),(7,(cI (t.operators.length:Int))),(8,(cI t77)),(15,(cB ai14)),(16,.c (.yld 13)),(17,(cI t77)),(21,(cR ai21))]) (σ2:=[(oE 8 [int t.facts,row 1 intI t.init,row 1 intI t.goal,row 4 d9 t.operators,row 1 intI plan,.own 14 0 c75.length,.own 15 0 c76.length,.map 3]),.dead,.dead,(oW Value.string vI c74),(o1 (.ptr 0 0 0)),(o1 (int iv)),(oE 5 (nN a13)),.dead,.dead,.dead,.dead,(oE 4 (tT t)),(o1 (row 1 intI a13.fs)),.one (i8 89 [76,77] as70 bo70 .ready none [(2,none),(3,none),(4,none)] [.ptr 4 0 0,.ptr 5 0 0,.ptr 6 0 0]),(oV 5 e9 c75),mat (15,[]) 1 intI c76,.dead]) Z Z (by exact⟨⟨_,Z,.inl ⟨Z,Z⟩⟩,⟨_,Z,.inl ⟨Z,Z⟩⟩,⟨_,Z,.inl ⟨Z,Z⟩⟩,⟨_,Z,.inl ⟨Z,Z⟩⟩,⟨_,Z,.inl ⟨Z,Z⟩⟩,⟨_,Z,.inl ⟨Z,Z⟩⟩,⟨_,Z,.inl ⟨Z,Z⟩⟩,⟨_,Z,.inl ⟨Z,Z⟩⟩,⟨_,Z,.inr ⟨_,Z,Z,Z⟩⟩,Y⟩) Z (by exact⟨⟨Z,.inl ⟨Z,Z⟩,.inl ⟨Z,Z⟩,.inl ⟨Z,Z⟩,.inl ⟨Z,Z⟩,.inl ⟨Z,Z⟩,.inl ⟨Z,Z⟩,.inl ⟨Z,Z⟩,.inl ⟨Z,Z⟩,Y⟩,Y,Y,⟨Z,Z⟩,⟨Z,.inl ⟨Z,Z⟩,Y⟩,⟨Z,.inl ⟨Z,Z⟩,Y⟩,⟨Z,.inl ⟨Z,Z⟩,.inl ⟨Z,Z⟩,.inl ⟨Z,Z⟩,.inl ⟨Z,Z⟩,.inl ⟨Z,Z⟩,Y⟩,Y,Y,Y,Y,⟨Z,.inl ⟨Z,Z⟩,.inl ⟨Z,Z⟩,.inl ⟨Z,Z⟩,.inl ⟨Z,Z⟩,Y⟩,⟨Z,.inl ⟨Z,Z⟩,Y⟩,⟨Z,Z⟩,FrzB.vec,(FrzB.mat Z),Y,Y⟩) ?_))))))))))))))))))
     refine AOps.z Z Z Z hb78 ?_;refine AOps.yieldB (E1:=[(7,(cR ai21)),(6,(cI t77)),(77,(cR ai21)),(76,(cI t77)),(2,(cP 4 0 0)),(3,(cP 5 0 0)),(4,(cP 6 0 0))]) (σ1:=[(oE 8 [int t.facts,row 1 intI t.init,row 1 intI t.goal,row 4 d9 t.operators,row 1 intI plan,.own 14 0 c75.length,.own 15 0 c76.length,.map 3]),.dead,.dead,(oW Value.string vI c74),(o1 (.ptr 0 0 0)),(o1 (int iv)),(oE 5 (nN a13)),.dead,.dead,.dead,.dead,(oE 4 (tT t)),(o1 (row 1 intI a13.fs)),.one (i8 89 [76,77] as70 bo70 .ready none [(2,none),(3,none),(4,none)] [.ptr 4 0 0,.ptr 5 0 0,.ptr 6 0 0]),(oV 5 e9 c75),mat (15,[]) 1 intI c76,.dead]) hA70 hB70 Z Z Z Z Z Z Z Z Z Z ?_ ?_
     ·refine AWP.q (.u (.v Z Z (.nil (b6 (.u (.v Z Z (.nil ?_)))))))
      exact⟨Z,Z⟩
     refine AWP.sub (s':=⟨[(2,(cP 4 0 0)),(3,(cP 5 0 0)),(4,(cP 6 0 0)),(6,(cI t77)),(7,(cR ai21))],[(oE 8 [int t.facts,row 1 intI t.init,row 1 intI t.goal,row 4 d9 t.operators,row 1 intI plan,.own 14 0 c75.length,.own 15 0 c76.length,.map 3]),.dead,.dead,(oW Value.string vI c74),(o1 (.ptr 0 0 0)),(o1 (int iv)),(oE 5 (nN a13)),.dead,.dead,.dead,.dead,(oE 4 (tT t)),(o1 (row 1 intI a13.fs)),.one (i8 89 [76,77] as70 bo70 .busy none [(2,none),(3,none),(4,none)] [.ptr 4 0 0,.ptr 5 0 0,.ptr 6 0 0]),(oV 5 e9 c75),mat (15,[]) 1 intI c76,.dead]⟩) (Sub.env ⟨Z,Z,Z,Z,Z,Y⟩) (.F ?_)
     obtain⟨ab88,hab88,h⟩:=b9 h
     refine AWP.u (.B Z Z Z Z Z Z (.j Z Z (W.fieldAddr Z Z Z Z (.B Z Z Z Z Z Z (.B Z Z Z Z Z Z (.j Z Z (W.fieldAddr Z Z Z Z (.B Z Z Z Z Z Z (S.add Z Z Z (W.build Z Z Z Z (.callF (r2:=.tup []) (σ'':=[(oE 8 [int t.facts,row 1 intI t.init,row 1 intI t.goal,row 4 d9 t.operators,row 1 intI plan,.own 17 0 ab88.2.1.length,.own 18 0 ab88.2.2.length,.map 3]),.dead,.dead,(oW Value.string vI ab88.1),(o1 (.ptr 0 0 0)),(o1 (int iv)),(oE 5 (nN a13)),.dead,.dead,.dead,.dead,(oE 4 (tT t)),(o1 (row 1 intI a13.fs)),.one (i8 89 [76,77] as70 bo70 .busy none [(2,none),(3,none),(4,none)] [.ptr 4 0 0,.ptr 5 0 0,.ptr 6 0 0]),.dead,.dead,.dead,(oV 5 e9 ab88.2.1),mat (18,[]) 1 intI ab88.2.2]) Z Z Z (FnOk.lend [0,14,15,3] (D0 hab88) Z Z Z Z Z Z (by exact⟨(.one Z),.vec,(.mat Z),(.one Z),Y⟩) Z (by exact⟨(.live Z (.one Z)),(.live Z .vec),(.live Z .mat),(.live Z (.one Z)),Y⟩) Z Z (by exact⟨(.new 0 Z Z (.one Z)),.dead,.dead,(.new 3 Z Z (.one Z)),(.old Z Z Z),(.old Z Z Z),(.old Z Z Z),.dead,.dead,.dead,.dead,(.old Z Z Z),(.old Z Z Z),(.old Z Z Z),.dead,.dead,.dead,(.new 4 Z Z .vec),(.new 5 Z Z .mat),Y⟩)) (.nil (f4 (B2 Z Z (.z Z Z Z hb78 (.not Z Z (.U Z hb78 Z Z (.nil (b6 (.aj Z (.skip (f4 (b6 (.u (.add Z Z Z (by omega) (.j Z Z (.nil ?_)))))))))))))))))))))))))))
     obtain rfl:=oi h
     refine b6 ((Sub.move (env':=[(0,.c (.yld 13)),(1,(cP 11 0 0)),(2,(cP 12 0 0)),(7,(cI (t.operators.length:Int))),(8,(cI (t77+1)))]) (σ':=[(oE 8 [int t.facts,row 1 intI t.init,row 1 intI t.goal,row 4 d9 t.operators,row 1 intI plan,.own 14 0 ab88.2.1.length,.own 18 0 ab88.2.2.length,.map 3]),.dead,.dead,(oW Value.string vI ab88.1),(o1 (.ptr 0 0 0)),(o1 (int iv)),(oE 5 (nN a13)),.dead,.dead,.dead,.dead,(oE 4 (tT t)),(o1 (row 1 intI a13.fs)),.one (i8 89 [76,77] as70 bo70 .ready none [(2,none),(3,none),(4,none)] [.ptr 4 0 0,.ptr 5 0 0,.ptr 6 0 0]),(oV 5 e9 ab88.2.1),.dead,.dead,.dead,mat (18,[]) 1 intI ab88.2.2]) 14 17 Z Z Z ⟨Z,Z,Z,Z,Z,Y⟩ Z ⟨⟨Z,Z⟩,Y,Y,⟨Z,Z⟩,⟨Z,Z⟩,⟨Z,Z⟩,⟨Z,Z⟩,Y,Y,Y,Y,⟨Z,Z⟩,⟨Z,Z⟩,⟨Z,Z⟩,⟨Blk.im_ok _ _ _,g8 Z⟩,Y,Y,Y,.mat Z Z Z,Y⟩).trans ((Sub.moveM (env':=[(0,.c (.yld 13)),(1,(cP 11 0 0)),(2,(cP 12 0 0)),(7,(cI (t.operators.length:Int))),(8,(cI (t77+1)))]) (σ':=[(oE 8 [int t.facts,row 1 intI t.init,row 1 intI t.goal,row 4 d9 t.operators,row 1 intI plan,.own 14 0 ab88.2.1.length,.own 15 0 ab88.2.2.length,.map 3]),.dead,.dead,(oW Value.string vI ab88.1),(o1 (.ptr 0 0 0)),(o1 (int iv)),(oE 5 (nN a13)),.dead,.dead,.dead,.dead,(oE 4 (tT t)),(o1 (row 1 intI a13.fs)),.one (i8 89 [76,77] as70 bo70 .ready none [(2,none),(3,none),(4,none)] [.ptr 4 0 0,.ptr 5 0 0,.ptr 6 0 0]),(oV 5 e9 ab88.2.1),mat (15,[]) 1 intI ab88.2.2,.dead,.dead]) 15 18 Z Z Z ⟨Z,Z,Z,Z,Z,Y⟩ Z ⟨(.one Z Z),.dead,.dead,(.one Z Z),(.one Z Z),(.one Z Z),(.one Z Z),.dead,.dead,.dead,.dead,(.one Z Z),(.one Z Z),(.one Z Z),(.vec Z),(.mat Z Z Z),.dead,.dead,Y⟩).trans (Sub.cut ⟨Z,Z,Z,Z,Z,Y⟩ Z ⟨.one Z,.dead,.dead,.one Z,.one Z,.one Z,.one Z,.dead,.dead,.dead,.dead,.one Z,.one Z,.one Z,.vec,.mat Z,Y⟩ Z)))
    ·replace h:=X2 hb78 h
     refine AWP.u (W.loadAgg Z Z Z Z Z Z Z (.B Z Z Z Z Z Z (.j Z Z (.O Z Z Z Z (ag1 hai14) Z (.j Z Z (.E Z Z Z hb78 (.E Z Z Z hb78 (.E Z Z Z hb78 (.E Z Z Z hb78 (.E Z Z Z hb78 (.E Z Z Z hb78 (.E Z Z Z hb78 (.E Z Z Z hb78 (.ab Z hb78 Z Z (.nil (b6 (.aj Z (.skip (f4 (b6 (.u (.add Z Z Z (by omega) (.j Z Z (.nil ?_))))))))))))))))))))))))
     obtain rfl:=oi h
     refine b6 (Sub.env ⟨Z,Z,Z,Z,Z,Y⟩)
   ·intro e s hq
    obtain⟨rfl,hs⟩:=hq
    refine⟨_,hs,?_⟩
    refine j7 ?_
    obtain rfl:=oi hr70
    exact⟨⟨[],[(oE 8 [int t.facts,row 1 intI t.init,row 1 intI t.goal,row 4 d9 t.operators,row 1 intI plan,.own 14 0 c75.length,.own 15 0 c76.length,.map 3]),.dead,.dead,(oW Value.string vI c74),(o1 (.ptr 0 0 0)),(o1 (int iv)),(oE 5 (nN a13)),.dead,.dead,.dead,.dead,(oE 4 (tT t)),(o1 (row 1 intI a13.fs)),.one (i8 89 [76,77] as70 bo70 .ready none [(2,none),(3,none),(4,none)] [.ptr 4 0 0,.ptr 5 0 0,.ptr 6 0 0]),(oV 5 e9 c75),mat (15,[]) 1 intI c76]⟩,Sub.env Y,Done.normal Z ⟨Z,Z⟩⟩
  ·rintro tt ss ⟨rfl,rfl⟩
   obtain⟨c71,c72,c73⟩:=xr70
   try dsimp only at h ⊢
   refine O2 Z Z (f4 ?_)
   obtain rfl:=oi h
   exact⟨⟨[],[(oE 8 [int t.facts,row 1 intI t.init,row 1 intI t.goal,row 4 d9 t.operators,row 1 intI plan,.own 14 0 c72.length,.own 15 0 c73.length,.map 3]),.dead,.dead,(oW Value.string vI c71),.dead,.dead,.dead,.dead,.dead,.dead,.dead,.dead,.dead,.dead,(oV 5 e9 c72),mat (15,[]) 1 intI c73]⟩,Sub.cut Y Z ⟨.one Z,.dead,.dead,.one Z,.dead,.dead,.dead,.dead,.dead,.dead,.dead,.dead,.dead,.dead,.vec,.mat Z,Y⟩ Z,Done.normal Z ⟨Z,Z⟩⟩
end Ab
end
