/-
  Texts that the proof stands on.
-/
import Derived.Test.YtfnfejfohioppaaGreatDoorKRwChScale3
set_option linter.all false
section
namespace Ab
open Go Go.Proofs
open Tryz
set_option maxHeartbeats 4000000
set_option linter.all false
attribute [local irreducible] AWP AOps thn inB Done e8 m8 Sub
abbrev oE(k:Nat)(x:List C):Ent:=.one (.cells k [x])
abbrev o1(x:C):Ent:=.one (.cells 1 [[x]])
abbrev oV{α:Type}(k:Nat)(f:α→List I)(l:List α):Ent:=.one (vec k f l)
abbrev oW{K V:Type}(fk:K→Vl)(fv:V→Vl)(m:List (K×V)):Ent:=.one (mapB fk fv m)
abbrev cI(n:Int):T:=.c (int n)
abbrev cB(b:Bool):T:=.c (bool b)
abbrev cP(i:Id)(j o:Nat):T:=.c (.ptr i j o)
abbrev cR(l:Li):T:=.c (row 1 intI l)
abbrev tO(v:b7):List C:=[int v.facts,row 1 intI v.init,row 1 intI v.goal,row 3 d6 v.operators]
abbrev vI:Int→Vl:=Value.int .i64
abbrev nL:Vl:=.slice none 0 0
theorem u9{l:Li}{nv:Int}{r:Bool}(h:B5 l nv=some r):e8 prog 100 [(cR l),(cI nv)] ((cB r)):=by
 unfold e8
 refine FnOk.enter (rs:=[.t 4]) func100 Z ntmps100 results100 Z ⟨Y,Y⟩ (by kernel_rfl) Z ?_
 unfold B5 at h
 refine AWP.gk 1 Z (.j (.gs 1 Z (S.len Z Z (fun hl8=>.ge 1 Z (.q ?_)))))
 obtain⟨oo,ho1,h⟩:=bind_some h
 refine AWP.rngH ho1 (fun t3 _=>⟨[(0,(cR l)),(1,(cI nv)),(7,(cR l)),(8,(cI (l.length:Int))),(9,(cI t3))],[]⟩) (fun x e st=>e=.ret∧Done [.t 4] (fun t _=>t=(cB x)) .ret st) (fun _ _=>Z) ?_ ?_ ?_ ?_
 ·try dsimp only
  exact Sub.en Z
 ·intro t3 s o hlot3 hltt3 h
  unfold Q9 at h
  try dsimp only at h ⊢
  refine AWP.j (.q (.j ?_))
  obtain⟨a12,ha12,h⟩:=bind_some h
  refine AWP.G 1 Z (S.idx ha12 Z Z Z Z (.G 3 Z (.nil (b5 ?_))))
  obtain⟨t4,hx5,h⟩:=bind_some h
  refine AWP.seqJ (⟨[(0,(cR l)),(1,(cI nv)),(7,(cR l)),(8,(cI (l.length:Int))),(9,(cI t3)),(33,(cB t4))],[]⟩) ?_ ?_
  ·rcases bft (decide (a12<0)) with hb6|hb6
   ·replace hx5:=M0 hb6 hx5
    refine AWP.G 3 Z (.K Z Z hb6 (.G 17 Z (.nil ?_)))
    obtain rfl:=oi hx5
    refine b5 (Sub.en Z)
   ·replace hx5:=K5 hb6 hx5
    rcases bft (decide (nv≤a12)) with hb7|hb7
    ·replace hx5:=M0 hb7 hx5
     refine AWP.G 3 Z (.K Z Z hb6 (.G 5 Z (.K Z Z hb7 (.G 12 Z (.nil ?_)))))
     obtain rfl:=oi hx5
     refine b5 (Sub.en Z)
    ·replace hx5:=K5 hb7 hx5
     rcases bft (decide (0<t3)) with hb8|hb8
     ·replace hx5:=M0 hb8 hx5
      obtain⟨a29,ha29,hx5⟩:=bind_some hx5
      refine AWP.G 3 Z (.K Z Z hb6 (.G 5 Z (.K Z Z hb7 (.G 3 Z (.K Z Z hb8 (.G 3 Z (.O Z Z Z Z (.sub' Z Z Z (by omega) (.O Z Z Z Z (S.idx ha29 Z Z Z Z (.G 4 Z (.nil ?_))))))))))))
      obtain rfl:=oi hx5
      refine b5 (Sub.en Z)
     ·replace hx5:=K5 hb8 hx5
      refine AWP.G 3 Z (.K Z Z hb6 (.G 5 Z (.K Z Z hb7 (.G 3 Z (.K Z Z hb8 (.G 9 Z (.nil ?_)))))))
      obtain rfl:=oi hx5
      refine b5 (Sub.en Z)
  ·refine AWP.F Z h (fun hc9 h=> ?_) (fun hc9 h=> ?_)
   ·refine AWP.gk 1 Z (.ret (g7 (e7 ?_)))
    obtain rfl:=oi h
    refine e7 ⟨_,Z,Z,?_⟩
    exact Done.ret Z Z
   ·refine AWP.skip (d7 (b5 (.U (.add Z Z Z (by omega) (.z Z Z (.nil ?_))))))
    obtain rfl:=oi h
    refine b5 ⟨_,Z,?_⟩
    exact Sub.en Z
 ·intro iz _ he
  subst he
  try dsimp only at h ⊢
  refine f9 (b5 (.gk 1 Z (.ret ?_)))
  obtain rfl:=oi h
  exact Done.ret Z Z
 ·intro x e st he hq
  subst he
  try dsimp only at h hq
  obtain⟨rfl,hs⟩:=hq
  refine⟨_,Sub.refl _ _,?_⟩
  refine g7 (e7 ?_)
  obtain rfl:=oi h
  exact hs
theorem B9{xv:Int}{r:Bool}(h:D8 xv=some r):e8 prog 146 [(cI xv)] ((cB r)):=by
 unfold e8
 refine FnOk.enter (rs:=[.t 2]) func146 Z ntmps146 results146 Z ⟨Y,Y⟩ (by kernel_rfl) Z ?_
 unfold D8 at h
 refine AWP.gk 1 Z (.gk 4 Z (.ret ?_))
 obtain rfl:=oi h
 exact Done.ret Z Z
theorem cmp_Less_int_ok{xv:Int}{yv:Int}{r:Bool}(h:S5 xv yv=some r):e8 prog 166 [(cI xv),(cI yv)] ((cB r)):=by
 unfold e8
 refine FnOk.enter (rs:=[.t 4]) func166 Z ntmps166 results166 Z ⟨Y,Y⟩ (by kernel_rfl) Z ?_
 unfold S5 at h
 refine AWP.gk 1 Z ?_
 obtain⟨t3,hx4,h⟩:=bind_some h
 refine AWP.seqJ (⟨[(4,(cB t3))],[]⟩) ?_ ?_
 ·obtain⟨a6,ha6,hx4⟩:=bind_some hx4
  rcases bft (a6) with hb5|hb5
  ·replace hx4:=J2 hb5 hx4
   obtain⟨a9,ha9,hx4⟩:=bind_some hx4
   rcases bft (!a9) with hb6|hb6
   ·replace hx4:=J2 hb6 hx4
    refine AWP.G 1 Z (.u Z Z Z Z (B9 ha6) Z (.z Z Z (.K Z Z hb5 (.G 1 Z (.O Z Z Z Z (.u Z Z Z Z (B9 ha9) Z (.G 3 Z (.K Z Z hb6 (.G 5 Z (.nil ?_))))))))))
    obtain rfl:=oi hx4
    refine b5 (Sub.en Z)
   ·replace hx4:=J4 hb6 hx4
    refine AWP.G 1 Z (.u Z Z Z Z (B9 ha6) Z (.z Z Z (.K Z Z hb5 (.G 1 Z (.O Z Z Z Z (.u Z Z Z Z (B9 ha9) Z (.G 3 Z (.K Z Z hb6 (.G 5 Z (.nil ?_))))))))))
    obtain rfl:=oi hx4
    refine b5 (Sub.en Z)
  ·replace hx4:=J4 hb5 hx4
   refine AWP.G 1 Z (.u Z Z Z Z (B9 ha6) Z (.z Z Z (.K Z Z hb5 (.G 10 Z (.nil ?_)))))
   obtain rfl:=oi hx4
   refine b5 (Sub.en Z)
 ·refine AWP.ret ?_
  obtain rfl:=oi h
  exact Done.ret Z Z
theorem Q0{xv:Int}{r:Bool}(h:I2 xv=some r):e8 prog 167 [(cI xv)] ((cB r)):=by
 unfold e8
 refine FnOk.enter (rs:=[.t 2]) func167 Z ntmps167 results167 Z ⟨Y,Y⟩ (by kernel_rfl) Z ?_
 unfold I2 at h
 refine AWP.gk 1 Z (.gk 4 Z (.ret ?_))
 obtain rfl:=oi h
 exact Done.ret Z Z
theorem L5{xv:Li}{target:Int}{r:Int×Bool}(h:o7 xv target=some r):e8 prog 147 [(cR xv),(cI target)] (.tup [(cI r.1),(cB r.2)]):=by
 unfold e8
 refine FnOk.enter (rs:=[.t 4,.t 5]) func147 Z ntmps147 results147 Z ⟨Y,Y,Y⟩ (by kernel_rfl) Z ?_
 unfold o7 at h
 refine AWP.gk 2 Z (.gs 1 Z (S.len Z Z (fun hl11=>.ge 1 Z (.gk 3 Z (.j (.q ?_))))))
 obtain⟨iv5,ho1,h⟩:=bind_some h
 refine AWP.loopS ho1 (fun(iv3,j4)=>⟨[(0,(cR xv)),(1,(cI target)),(6,(cI (xv.length:Int))),(7,(cI iv3)),(8,(cI j4))],[]⟩) (fun iv5 e st=>e=.exit 0∧Sub [] st ⟨[(0,(cR xv)),(1,(cI target)),(6,(cI (xv.length:Int))),(7,(cI iv5))],[]⟩) ?_ ?_ ?_
 ·try dsimp only
  exact Sub.en Z
 ·intro s o h
  obtain⟨iv3,j4⟩:=s
  unfold y5 at h
  try dsimp only at h ⊢
  refine AWP.j (.gk 3 Z (.J Z h (fun hc6 h=> ?_) (fun hc6 h=> ?_)))
  ·refine AWP.skip (b5 (.q (.gs 4 Z (.shr Z Z Z (by first|decide|omega) Z (.ge 2 Z (.j ?_))))))
   obtain⟨a24,ha24,a27,ha27,h⟩:=b2 h
   refine AWP.G 2 Z (S.idx ha24 Z Z Z Z (.G 2 Z (.u Z Z Z Z (cmp_Less_int_ok ha27) Z (.nil (b5 (.F Z h (fun hc7 h=> ?_) (fun hc7 h=> ?_)))))))
   ·refine AWP.G 3 Z (.nil (d7 ?_))
    obtain rfl:=oi h
    refine b5 ⟨_,Z,?_⟩
    exact Sub.en Z
   ·refine AWP.G 2 Z (.nil (d7 ?_))
    obtain rfl:=oi h
    refine b5 ⟨_,Z,?_⟩
    exact Sub.en Z
  ·refine AWP.exit (h9 ?_)
   obtain rfl:=oi h
   refine h9 ⟨_,Z,Z,?_⟩
   exact Sub.en Z
 ·intro e s hq
  obtain⟨rfl,hs⟩:=hq
  refine⟨_,hs,?_⟩
  refine f9 (b5 ?_)
  obtain⟨t8,hx9,h⟩:=bind_some h
  refine AWP.seqJ (⟨[(4,(cI iv5)),(5,(cB t8))],[]⟩) ?_ ?_
  ·rcases bft (decide (iv5<(xv.length:Int))) with hb10|hb10
   ·replace hx9:=M0 hb10 hx9
    obtain⟨a38,ha38,hx9⟩:=bind_some hx9
    rcases bft (decide (a38=target)) with hb11|hb11
    ·replace hx9:=M0 hb11 hx9
     refine AWP.G 5 Z (.K Z Z hb10 (.G 2 Z (.O Z Z Z Z (S.idx ha38 Z Z Z Z (.G 4 Z (.K Z Z hb11 (.G 13 Z (.nil ?_))))))))
     obtain rfl:=oi hx9
     refine b5 (Sub.en Z)
    ·replace hx9:=K5 hb11 hx9
     obtain⟨a45,ha45,a47,ha47,hx9⟩:=b2 hx9
     rcases bft (a47) with hb12|hb12
     ·replace hx9:=J2 hb12 hx9
      obtain⟨a50,ha50,hx9⟩:=bind_some hx9
      refine AWP.G 5 Z (.K Z Z hb10 (.G 2 Z (.O Z Z Z Z (S.idx ha38 Z Z Z Z (.G 4 Z (.K Z Z hb11 (.G 2 Z (.O Z Z Z Z (S.idx ha45 Z Z Z Z (.G 1 Z (.O Z Z Z Z (.u Z Z Z Z (Q0 ha47) Z (.G 1 Z (.K Z Z hb12 (.G 1 Z (.O Z Z Z Z (.u Z Z Z Z (Q0 ha50) Z (.G 5 Z (.nil ?_)))))))))))))))))))
      obtain rfl:=oi hx9
      refine b5 (Sub.en Z)
     ·replace hx9:=J4 hb12 hx9
      refine AWP.G 5 Z (.K Z Z hb10 (.G 2 Z (.O Z Z Z Z (S.idx ha38 Z Z Z Z (.G 4 Z (.K Z Z hb11 (.G 2 Z (.O Z Z Z Z (S.idx ha45 Z Z Z Z (.G 1 Z (.O Z Z Z Z (.u Z Z Z Z (Q0 ha47) Z (.G 1 Z (.K Z Z hb12 (.G 7 Z (.nil ?_))))))))))))))))
      obtain rfl:=oi hx9
      refine b5 (Sub.en Z)
   ·replace hx9:=K5 hb10 hx9
    refine AWP.G 5 Z (.K Z Z hb10 (.G 20 Z (.nil ?_)))
    obtain rfl:=oi hx9
    refine b5 (Sub.en Z)
  ·refine AWP.ret ?_
   obtain rfl:=oi h
   exact Done.ret Z Z
theorem ap9{xv:Int}{c2:Li}{r:Bool}(h:S8 xv c2=some r):e8 prog 152 [(cI xv),.c (.imm (.ipt [.sl 1 (List.map intI c2)]))] ((cB r)):=by
 unfold e8
 refine FnOk.enter (rs:=[.t 3]) func152 Z ntmps152 results152 Z ⟨Y,Y⟩ (by kernel_rfl) Z ?_
 unfold S8 at h
 refine AWP.gk 1 Z (.j ?_)
 obtain⟨a9,ha9,h⟩:=bind_some h
 refine AWP.G 2 Z (.u Z Z Z Z (L5 ha9) Z (.G 5 Z (.nil (b5 (.gk 2 Z (.ret ?_))))))
 obtain rfl:=oi h
 exact Done.ret Z Z
theorem ab7{sv:Li}{fv:Int→Option Bool}{r:Int}{fvfv:FuncId}{cvfv:List C}(hcvfv:C.okL 0 cvfv=true)(hfv:∀{y1:Int} {z:Bool},fv y1=some z→e8 prog fvfv ([(cI y1)]++cvfv.map T.c) ((cB z)))(h:D6 sv fv=some r):e8 prog 145 [(cR sv),.c (.fn fvfv cvfv)] ((cI r)):=by
 unfold e8
 refine FnOk.enter (rs:=[.t 4]) func145 Z ntmps145 results145 Z ⟨Y,Y⟩ (by kernel_rfl) Z ?_
 unfold D6 at h
 refine AWP.gk 1 Z (.j (.gs 1 Z (S.len Z Z (fun hl7=>.ge 1 Z (.q ?_)))))
 obtain⟨oo,ho1,h⟩:=bind_some h
 refine AWP.rngH ho1 (fun t3 _=>⟨[(0,(cR sv)),(1,.c (.fn fvfv cvfv)),(7,(cI (sv.length:Int))),(8,(cI t3))],[]⟩) (fun x e st=>e=.ret∧Done [.t 4] (fun t _=>t=(cI x)) .ret st) (fun _ _=>Z) ?_ ?_ ?_ ?_
 ·try dsimp only
  exact Sub.en Z
 ·intro t3 s o hlot3 hltt3 h
  unfold A7 at h
  try dsimp only at h ⊢
  refine AWP.j (.q (.gk 2 Z (.j ?_)))
  obtain⟨a14,ha14,a16,ha16,h⟩:=b2 h
  refine AWP.G 3 Z (S.idx ha14 Z Z Z Z (.G 1 Z (.u Z Z (W6 Z hcvfv) Z (hfv ha16) Z (.nil (b5 (.F Z h (fun hc4 h=> ?_) (fun hc4 h=> ?_)))))))
  ·refine AWP.gk 2 Z (.ret (g7 (e7 ?_)))
   obtain rfl:=oi h
   refine e7 ⟨_,Z,Z,?_⟩
   exact Done.ret Z Z
  ·refine AWP.skip (d7 (b5 (.U (.add Z Z Z (by omega) (.z Z Z (.nil ?_))))))
   obtain rfl:=oi h
   refine b5 ⟨_,Z,?_⟩
   exact Sub.en Z
 ·intro iz _ he
  subst he
  try dsimp only at h ⊢
  refine f9 (b5 (.gk 1 Z (.ret ?_)))
  obtain rfl:=oi h
  exact Done.ret Z Z
 ·intro x e st he hq
  subst he
  try dsimp only at h hq
  obtain⟨rfl,hs⟩:=hq
  refine⟨_,Sub.refl _ _,?_⟩
  refine g7 (e7 ?_)
  obtain rfl:=oi h
  exact hs
theorem D2{sv:Li}{fv:Int→Option Bool}{r:Bool}{fvfv:FuncId}{cvfv:List C}(hcvfv:C.okL 0 cvfv=true)(hfv:∀{y1:Int} {z:Bool},fv y1=some z→e8 prog fvfv ([(cI y1)]++cvfv.map T.c) ((cB z)))(h:o8 sv fv=some r):e8 prog 123 [(cR sv),.c (.fn fvfv cvfv)] ((cB r)):=by
 unfold e8
 refine FnOk.enter (rs:=[.t 4]) func123 Z ntmps123 results123 Z ⟨Y,Y⟩ (by kernel_rfl) Z ?_
 unfold o8 at h
 refine AWP.gk 1 Z (.j ?_)
 obtain⟨a7,ha7,h⟩:=bind_some h
 refine AWP.G 2 Z (.u Z Z (by simp[T.okL,T.ok,C.ok,C.okL,hcvfv]) Z (ab7 hcvfv hfv ha7) Z (.G 2 Z (.nil (b5 (.ret ?_)))))
 obtain rfl:=oi h
 exact Done.ret Z Z
theorem strips_Meets_ok{av:Li}{bv:Li}{r:Bool}(h:R9 av bv=some r):e8 prog 132 [(cR av),(cR bv)] ((cB r)):=by
 unfold e8
 refine FnOk.enter (rs:=[.t 4]) func132 Z ntmps132 results132 Z ⟨Y,Y⟩ (by kernel_rfl) Z ?_
 unfold R9 at h
 refine AWP.gk 2 Z (.j ?_)
 obtain⟨a7,ha7,h⟩:=bind_some h
 refine AWP.G 1 Z (.ab Z Z (.aa Z Z (.cons (.c .imm) (.cons (.c (.fn (.cons (.ptr (es:=[.sl 1 (List.map intI bv)]) Z Z (.cons .imm .nil)) .nil))) .nil)) Z (D2 Z (fun hy=>ap9 hy) ha7) Z ?_))
 refine AOps.E Z Z (.nil (b5 (.ret ?_)))
 obtain rfl:=oi h
 exact Done.ret Z Z
theorem al8{ov:e9}{facts:Int}{r:Int}(h:G5 ov facts=some r):e8 prog 106 [.agg [row 1 intI ov.pre,row 3 s8 ov.outcomes,int ov.cost],(cI facts)] ((cI r)):=by
 unfold e8
 refine FnOk.enter (rs:=[.t 4]) func106 Z ntmps106 results106 Z ⟨Y,Y⟩ (by kernel_rfl) Z ?_
 unfold G5 at h
 refine AWP.gk 2 Z (.j (.q (.j ?_)))
 obtain⟨a11,ha11,h⟩:=bind_some h
 refine AWP.G 3 Z (.u Z Z Z Z (u9 ha11) Z (.G 2 Z (.nil (b5 (.F Z h (fun hc3 h=> ?_) (fun hc3 h=> ?_))))))
 ·refine AWP.gk 1 Z (.ret (g7 (e7 ?_)))
  obtain rfl:=oi h
  exact Done.ret Z Z
 ·refine AWP.seqJ (⟨[(1,(cI facts)),(2,(cP 0 0 0)),(13,(cB ((decide (ov.cost<0))||(decide (100<ov.cost)))))],[(oE 3 [row 1 intI ov.pre,row 3 s8 ov.outcomes,int ov.cost])]⟩) ?_ ?_
  ·rcases bft (decide (ov.cost<0)) with hb1|hb1
   ·refine AWP.G 4 Z (.K Z Z hb1 (.G 5 Z (.nil (b5 ?_))))
    simp only[U5 hb1,or_t hb1,Bool.false_or,Bool.true_or,Bool.false_and,Bool.true_and]
    exact Sub.en Z
   ·refine AWP.G 4 Z (.K Z Z hb1 (.G 5 Z (.nil (b5 ?_))))
    simp only[and_f hb1,or_f hb1,Bool.false_or,Bool.true_or,Bool.false_and,Bool.true_and]
    exact Sub.en Z
  ·refine AWP.F Z h (fun hc4 h=> ?_) (fun hc4 h=> ?_)
   ·refine AWP.gk 1 Z (.ret (g7 (e7 ?_)))
    obtain rfl:=oi h
    exact Done.ret Z Z
   ·refine AWP.seqJ (⟨[(1,(cI facts)),(2,(cP 0 0 0)),(22,(cB ((decide ((ov.outcomes.length:Int)=0))||(decide (4<(ov.outcomes.length:Int))))))],[(oE 3 [row 1 intI ov.pre,row 3 s8 ov.outcomes,int ov.cost])]⟩) ?_ ?_
    ·rcases bft (decide ((ov.outcomes.length:Int)=0)) with hb1|hb1
     ·refine AWP.G 2 Z (S.len Z Z (fun hl25=>.G 2 Z (.K Z Z hb1 (.G 6 Z (.nil (b5 ?_))))))
      simp only[U5 hb1,or_t hb1,Bool.false_or,Bool.true_or,Bool.false_and,Bool.true_and]
      exact Sub.en Z
     ·refine AWP.G 2 Z (S.len Z Z (fun hl25=>.G 2 Z (.K Z Z hb1 (.G 2 Z ?_))))
      refine AOps.O Z Z Z Z ?_;refine S.len Z Z (fun hl30=> ?_)
      refine AOps.G 3 Z (.nil (b5 ?_))
      simp only[and_f hb1,or_f hb1,Bool.false_or,Bool.true_or,Bool.false_and,Bool.true_and]
      exact Sub.en Z
    ·refine AWP.F Z h (fun hc5 h=> ?_) (fun hc5 h=> ?_)
     ·refine AWP.gk 1 Z (.ret (g7 (e7 ?_)))
      obtain rfl:=oi h
      exact Done.ret Z Z
     ·refine AWP.skip (d7 (b5 (.j (.gs 2 Z (S.len Z Z (fun hl35=>.ge 1 Z (.q ?_)))))))
      obtain⟨oo,ho1,h⟩:=bind_some h
      refine AWP.rngH ho1 (fun t6 _=>⟨[(1,(cI facts)),(34,.c (row 3 s8 ov.outcomes)),(35,(cI (ov.outcomes.length:Int))),(36,(cI t6))],[]⟩) (fun x e st=>e=.ret∧Done [.t 4] (fun t _=>t=(cI x)) .ret st) (fun _ _=>Z) ?_ ?_ ?_ ?_
      ·try dsimp only
       exact Sub.cut ⟨Z,Z,Z,Z,Y⟩ Z Y Z
      ·intro t6 s o hlot6 hltt6 h
       unfold D5 at h
       try dsimp only at h ⊢
       refine AWP.j (.q (.j ?_))
       obtain⟨a38,ha38,h⟩:=bind_some h
       refine AWP.U (S.idx ha38 Z Z Z Z (.G 3 Z (.nil (b5 (.q ?_)))))
       obtain⟨t7,hx8,h⟩:=bind_some h
       refine AWP.seqJ (⟨[(1,(cI facts)),(6,(cP 0 0 0)),(34,.c (row 3 s8 ov.outcomes)),(35,(cI (ov.outcomes.length:Int))),(36,(cI t6)),(40,(cB t7))],[(oE 3 [row 1 intI a38.add,row 1 intI a38.del,int a38.weight])]⟩) ?_ ?_
       ·obtain⟨a44,ha44,hx8⟩:=bind_some hx8
        rcases bft (!a44) with hb9|hb9
        ·replace hx8:=J2 hb9 hx8
         refine AWP.G 3 Z (.u Z Z Z Z (u9 ha44) Z (.G 2 Z (.K Z Z hb9 (.G 14 Z (.nil ?_)))))
         obtain rfl:=oi hx8
         refine b5 (Sub.en Z)
        ·replace hx8:=J4 hb9 hx8
         obtain⟨a50,ha50,hx8⟩:=bind_some hx8
         rcases bft (!a50) with hb10|hb10
         ·replace hx8:=J2 hb10 hx8
          refine AWP.G 3 Z (.u Z Z Z Z (u9 ha44) Z (.G 2 Z (.K Z Z hb9 (.G 3 Z (.O Z Z Z Z (.u Z Z Z Z (u9 ha50) Z (.G 3 Z (.K Z Z hb10 (.G 7 Z (.nil ?_))))))))))
          obtain rfl:=oi hx8
          refine b5 (Sub.en Z)
         ·replace hx8:=J4 hb10 hx8
          obtain⟨a58,ha58,hx8⟩:=bind_some hx8
          refine AWP.G 3 Z (.u Z Z Z Z (u9 ha44) Z (.G 2 Z (.K Z Z hb9 (.G 3 Z (.O Z Z Z Z (.u Z Z Z Z (u9 ha50) Z (.G 3 Z (.K Z Z hb10 (.G 4 Z (.O Z Z Z Z (.u Z Z Z Z (strips_Meets_ok ha58) Z (.G 2 Z (.nil ?_)))))))))))))
          obtain rfl:=oi hx8
          refine b5 (Sub.en Z)
       ·refine AWP.F Z h (fun hc11 h=> ?_) (fun hc11 h=> ?_)
        ·refine AWP.gk 1 Z (.ret (g7 (g7 (e7 ?_))))
         obtain rfl:=oi h
         refine e7 ⟨_,Z,Z,?_⟩
         exact Done.ret Z Z
        ·refine AWP.seqJ (⟨[(1,(cI facts)),(34,.c (row 3 s8 ov.outcomes)),(35,(cI (ov.outcomes.length:Int))),(36,(cI t6)),(60,(cB ((decide (a38.weight<1))||(decide (6<a38.weight)))))],[(oE 3 [row 1 intI a38.add,row 1 intI a38.del,int a38.weight])]⟩) ?_ ?_
         ·rcases bft (decide (a38.weight<1)) with hb1|hb1
          ·refine AWP.G 4 Z (.K Z Z hb1 (.G 5 Z (.nil (b5 ?_))))
           simp only[U5 hb1,or_t hb1,Bool.false_or,Bool.true_or,Bool.false_and,Bool.true_and]
           exact Sub.en Z
          ·refine AWP.G 4 Z (.K Z Z hb1 (.G 5 Z (.nil (b5 ?_))))
           simp only[and_f hb1,or_f hb1,Bool.false_or,Bool.true_or,Bool.false_and,Bool.true_and]
           exact Sub.en Z
         ·refine AWP.F Z h (fun hc12 h=> ?_) (fun hc12 h=> ?_)
          ·refine AWP.gk 1 Z (.ret (g7 (g7 (e7 ?_))))
           obtain rfl:=oi h
           refine e7 ⟨_,Z,Z,?_⟩
           exact Done.ret Z Z
          ·refine AWP.skip (d7 (d7 (b5 (.U (.add Z Z Z (by omega) (.z Z Z (.nil ?_)))))))
           obtain rfl:=oi h
           refine b5 ⟨_,Z,?_⟩
           exact Sub.cut ⟨Z,Z,Z,Z,Y⟩ Z Y Z
      ·intro iz _ he
       subst he
       try dsimp only at h ⊢
       refine f9 (b5 (.gk 1 Z (.ret ?_)))
       obtain rfl:=oi h
       exact Done.ret Z Z
      ·intro x e st he hq
       subst he
       try dsimp only at h hq
       obtain⟨rfl,hs⟩:=hq
       refine⟨_,Sub.refl _ _,?_⟩
       refine g7 (e7 ?_)
       obtain rfl:=oi h
       exact hs
theorem ag0{ov:b7}{r:i7}(h:K1 ov=some r):e8 prog 75 [.agg (tO ov)] (.agg [int r.code,int r.index]):=by
 unfold e8
 refine FnOk.enter (rs:=[.cell 2 30 2]) func75 Z ntmps75 results75 Z ⟨rv _ Z,Y⟩ (by kernel_rfl) Z ?_
 unfold K1 at h
 refine AWP.gk 2 Z (.j (.q (.seqJ (⟨[(1,(cP 0 0 0)),(2,(cP 1 0 0)),(6,(cB ((decide (ov.facts<0))||(decide (24<ov.facts)))))],[(oE 4 (tO ov)),(oE 2 [int 0,int 0])]⟩) ?_ ?_)))
 ·rcases bft (decide (ov.facts<0)) with hb1|hb1
  ·refine AWP.G 4 Z (.K Z Z hb1 (.G 5 Z (.nil (b5 ?_))))
   simp only[U5 hb1,or_t hb1,Bool.false_or,Bool.true_or,Bool.false_and,Bool.true_and]
   exact Sub.en Z
  ·refine AWP.G 4 Z (.K Z Z hb1 (.G 5 Z (.nil (b5 ?_))))
   simp only[and_f hb1,or_f hb1,Bool.false_or,Bool.true_or,Bool.false_and,Bool.true_and]
   exact Sub.en Z
 ·refine AWP.F Z h (fun hc2 h=> ?_) (fun hc2 h=> ?_)
  ·refine AWP.gk 2 Z (.ret (g7 (e7 ?_)))
   obtain rfl:=oi h
   exact Done.ret Z Z
  ·refine AWP.j ?_
   obtain⟨a21,ha21,h⟩:=bind_some h
   refine AWP.G 4 Z (.u Z Z Z Z (u9 ha21) Z (.G 2 Z (.nil (b5 (.F Z h (fun hc3 h=> ?_) (fun hc3 h=> ?_))))))
   ·refine AWP.gk 2 Z (.ret (g7 (e7 ?_)))
    obtain rfl:=oi h
    exact Done.ret Z Z
   ·refine AWP.j ?_
    obtain⟨a29,ha29,h⟩:=bind_some h
    refine AWP.G 4 Z (.u Z Z Z Z (u9 ha29) Z (.G 2 Z (.nil (b5 (.F Z h (fun hc4 h=> ?_) (fun hc4 h=> ?_))))))
    ·refine AWP.gk 2 Z (.ret (g7 (e7 ?_)))
     obtain rfl:=oi h
     exact Done.ret Z Z
    ·refine AWP.gs 2 Z (S.len Z Z (fun hl35=>.ge 2 Z (.J Z h (fun hc5 h=> ?_) (fun hc5 h=> ?_))))
     ·refine AWP.gk 2 Z (.ret (g7 (e7 ?_)))
      obtain rfl:=oi h
      exact Done.ret Z Z
     ·refine AWP.skip (d7 (b5 (.j (.gs 2 Z (S.len Z Z (fun hl40=>.ge 1 Z (.q ?_)))))))
      obtain⟨oo,ho1,h⟩:=bind_some h
      refine AWP.rngH ho1 (fun t6 _=>⟨[(1,(cP 0 0 0)),(2,(cP 1 0 0)),(39,.c (row 3 d6 ov.operators)),(40,(cI (ov.operators.length:Int))),(41,(cI t6))],[(oE 4 (tO ov)),(oE 2 [int 0,int 0])]⟩) (fun x e st=>e=.ret∧Done [.cell 2 30 2] (fun t _=>t=.agg [int x.code,int x.index]) .ret st) (fun _ _=>Z) ?_ ?_ ?_ ?_
      ·try dsimp only
       exact Sub.en Z
      ·intro t6 s o hlot6 hltt6 h
       unfold I8 at h
       try dsimp only at h ⊢
       refine AWP.j (.q (.j ?_))
       obtain⟨a44,ha44,h⟩:=bind_some h
       refine AWP.G 1 Z (S.idx ha44 Z Z Z Z (.G 4 Z (.nil (b5 (.j ?_)))))
       obtain⟨a49,ha49,h⟩:=bind_some h
       refine AWP.G 3 Z (.u Z Z Z Z (al8 ha49) Z (.E Z Z (.nil (b5 (.gk 2 Z (.iteN Z h (fun hc7 h=> ?_) (fun hc7 h=> ?_)))))))
       ·refine AWP.gk 4 Z (.ret (g7 (e7 ?_)))
        obtain rfl:=oi h
        refine e7 ⟨_,Z,Z,?_⟩
        exact Done.ret Z Z
       ·refine AWP.skip (d7 (b5 (.U (.add Z Z Z (by omega) (.z Z Z (.nil ?_))))))
        obtain rfl:=oi h
        refine b5 ⟨_,Z,?_⟩
        exact Sub.cut ⟨Z,Z,Z,Z,Z,Y⟩ Z ⟨.one Z,.one Z,Y⟩ Z
      ·intro iz _ he
       subst he
       try dsimp only at h ⊢
       refine f9 (b5 (.gk 2 Z (.ret ?_)))
       obtain rfl:=oi h
       exact Done.ret Z Z
      ·intro x e st he hq
       subst he
       try dsimp only at h hq
       obtain⟨rfl,hs⟩:=hq
       refine⟨_,Sub.refl _ _,?_⟩
       refine g7 (e7 ?_)
       obtain rfl:=oi h
       exact hs
theorem ae3{iv:Int}{r:ByteArray}(h:M8 iv=some r):e8 prog 196 [(cI iv)] (.c (.imm (.val (.string r)))):=by
 unfold e8
 refine FnOk.enter (rs:=[.t 2]) func196 Z ntmps196 results196 Z ⟨Y,Y⟩ (by kernel_rfl) Z ?_
 unfold M8 at h
 refine AWP.gk 1 Z (.j (.gk 2 Z (.J Z h (fun hc2 h=> ?_) (fun hc2 h=> ?_))))
 ·refine AWP.j ?_
  obtain⟨a8,ha8,h⟩:=bind_some h
  refine AWP.G 3 Z (S.subStr ha8 Z Z Z Z (.E Z Z (.nil (b5 (.ret (e7 ?_))))))
  obtain rfl:=oi h
  exact Done.ret Z Z
 ·refine AWP.skip (b5 (.j ?_))
  obtain⟨a14,ha14,h⟩:=bind_some h
  refine AWP.G 5 Z (S.subStr ha14 Z Z Z Z (.E Z Z (.nil (b5 (.ret ?_)))))
  obtain rfl:=oi h
  exact Done.ret Z Z
theorem U0{iv:Int}{base:Int}{l:Li}{r:Li}(h:D1 iv base l=some r):FnOk prog 183 [.c (.own 0 0 l.length),.c (.imm (.val (.int .u64 iv))),(cI base)] (U1 iv base l) (fun tt ss=>tt=.c (.own 2 0 r.length)∧ss=[.dead,.dead,(oV 1 eU8 r)]):=by
 refine FnOk.enter (rs:=[.t 6]) func183 Z ntmps183 results183 Z ⟨Y,Y⟩ (by kernel_rfl) Z ?_
 refine AWP.weak ?_
 unfold D1 at h
 refine AWP.z (env':=[(0,.c (.own 1 0 l.length)),(1,.c (.imm (.val (.int .u64 iv)))),(2,(cI base))]) (σ':=[.dead,(oV 1 eU8 l)]) 1 0 Z Z Z ⟨Z,Z,Z,Y⟩ Z ⟨Y,⟨Blk.im_ok _ _ _,i6 Z⟩,Y⟩ (.gk 1 Z (.j (.gk 2 Z (.J Z h (fun hc55 h=> ?_) (fun hc55 h=> ?_)))))
 ·refine AWP.j (.gk 2 Z (.J Z h (fun hc56 h=> ?_) (fun hc56 h=> ?_)))
  ·refine AWP.j ?_
   obtain⟨a16,ha16,a17,ha17,h⟩:=b2 h
   refine AWP.G 3 Z (.u Z Z Z Z (ae3 ha16) Z (S.appendStr ha17 Z Z Z Z Z Z Z Z Z Z (.E Z Z (.nil (b5 (.ret (e7 (e7 ?_))))))))
   obtain rfl:=oi h
   exact⟨⟨[(6,.c (.own 2 0 a17.length))],[.dead,.dead,(oV 1 eU8 a17)]⟩,Sub.env ⟨Z,Y⟩,Done.ret Z ⟨Z,Z⟩⟩
  ·cases h
 ·cases h
theorem V1{iv:Int}{base:Int}{l:Li}{r:Li}(h:D9 iv base l=some r):FnOk prog 165 [.c (.own 0 0 l.length),(cI iv),(cI base)] (V0 iv base l) (fun tt ss=>tt=.c (.own 3 0 r.length)∧ss=[.dead,.dead,.dead,(oV 1 eU8 r)]):=by
 refine FnOk.enter (rs:=[.t 6]) func165 Z ntmps165 results165 Z ⟨Y,Y⟩ (by kernel_rfl) Z ?_
 refine AWP.weak ?_
 unfold D9 at h
 refine AWP.z (env':=[(0,.c (.own 1 0 l.length)),(1,(cI iv)),(2,(cI base))]) (σ':=[.dead,(oV 1 eU8 l)]) 1 0 Z Z Z ⟨Z,Z,Z,Y⟩ Z ⟨Y,⟨Blk.im_ok _ _ _,i6 Z⟩,Y⟩ (.gk 1 Z (.gk 3 Z ?_))
 obtain⟨u,hx55,h⟩:=bind_some h
 refine AWP.seqJ (⟨[(0,.c (.own 1 0 l.length)),(2,(cI base)),(7,.c (.imm (.val (.int .u64 ((IntKind.u64).wrap iv)))))],[.dead,(oV 1 eU8 l)]⟩) ?_ ?_
 ·refine AWP.gk 2 Z (.J Z hx55 (fun hc56 hx55=> ?_) (fun hc56 hx55=> ?_))
  ·cases hx55
  ·refine AWP.skip ?_
   obtain rfl:=oi hx55
   refine b5 (Sub.en Z)
 ·try dsimp only at h
  refine AWP.j ?_
  obtain⟨a20,ha20,h⟩:=bind_some h
  refine AWP.G 3 Z (.callF (r2:=.c (.own 3 0 a20.length)) (σ'':=[.dead,.dead,.dead,(oV 1 eU8 a20)]) Z Z Z (FnOk.lend [1] (U0 ha20) Z Z Z Z Z Z (by exact⟨.vec,Y⟩) Z (by exact⟨(.live Z .vec),Y⟩) Z Z (by exact⟨.dead,.dead,.dead,(.new 2 Z Z .vec),Y⟩)) (.E Z Z (.nil (b5 (.ret ?_)))))
  obtain rfl:=oi h
  exact⟨⟨[(6,.c (.own 3 0 a20.length))],[.dead,.dead,.dead,(oV 1 eU8 a20)]⟩,Sub.env ⟨Z,Y⟩,Done.ret Z ⟨Z,Z⟩⟩
theorem ah5{iv:Int}{base:Int}{l:Li}{r:Li}(h:O6 iv base l=some r):FnOk prog 141 [.c (.own 0 0 l.length),(cI iv),(cI base)] (ah7 iv base l) (fun tt ss=>tt=.c (.own 4 0 r.length)∧ss=[.dead,.dead,.dead,.dead,(oV 1 eU8 r)]):=by
 refine FnOk.enter (rs:=[.t 6]) func141 Z ntmps141 results141 Z ⟨Y,Y⟩ (by kernel_rfl) Z ?_
 refine AWP.weak ?_
 unfold O6 at h
 refine AWP.z (env':=[(0,.c (.own 1 0 l.length)),(1,(cI iv)),(2,(cI base))]) (σ':=[.dead,(oV 1 eU8 l)]) 1 0 Z Z Z ⟨Z,Z,Z,Y⟩ Z ⟨Y,⟨Blk.im_ok _ _ _,i6 Z⟩,Y⟩ (.gk 1 Z (.j ?_))
 obtain⟨a10,ha10,h⟩:=bind_some h
 refine AWP.G 3 Z (.callF (r2:=.c (.own 4 0 a10.length)) (σ'':=[.dead,.dead,.dead,.dead,(oV 1 eU8 a10)]) Z Z Z (FnOk.lend [1] (V1 ha10) Z Z Z Z Z Z (by exact⟨.vec,Y⟩) Z (by exact⟨(.live Z .vec),Y⟩) Z Z (by exact⟨.dead,.dead,.dead,.dead,(.new 3 Z Z .vec),Y⟩)) (.E Z Z (.nil (b5 (.ret ?_)))))
 obtain rfl:=oi h
 exact⟨⟨[(6,.c (.own 4 0 a10.length))],[.dead,.dead,.dead,.dead,(oV 1 eU8 a10)]⟩,Sub.env ⟨Z,Y⟩,Done.ret Z ⟨Z,Z⟩⟩
theorem an6{l:LL}{r:ByteArray}(h:ae5 l=some r):e8 prog 119 [.c (row 1 b9 l)] (.c (.imm (.val (.string r)))):=by
 unfold e8
 refine FnOk.enter (rs:=[.t 2]) func119 Z ntmps119 results119 Z ⟨Y,Y⟩ (by kernel_rfl) Z ?_
 unfold ae5 at h
 refine AWP.gk 1 Z (.gk 1 Z (.j (.gs 1 Z (S.len Z Z (fun hl9=>.ge 1 Z (.q (.virtV 1 eU8 3 Z Z Z ?_)))))))
 obtain⟨c2,ho1,h⟩:=bind_some h
 refine AWP.forH ho1 (fun t3 c2=>⟨[(3,.c (.own 0 0 c2.length)),(8,.c (row 1 b9 l)),(9,(cI (l.length:Int))),(10,(cI t3))],[(oV 1 eU8 c2)]⟩) (fun _ _=>Z) ?_ ?_ ?_
 ·try dsimp only
  exact Sub.env ⟨(x9 (by first|rfl|simp only[lS])),Z,Z,Z,Y⟩
 ·intro t3 c2 o hlot3 hltt3 h
  unfold ao0 at h
  try dsimp only at h ⊢
  refine AWP.j (.q (.j ?_))
  obtain⟨a12,ha12,h⟩:=bind_some h
  refine AWP.U (S.idx ha12 Z Z Z Z (.G 2 Z (.nil (b5 (.j (.gs 1 Z (S.len Z Z (fun hl15=>.ge 1 Z (.q ?_)))))))))
  obtain⟨c4,ho2,h⟩:=bind_some h
  refine AWP.forH ho2 (fun t5 c4=>⟨[(3,.c (.own 0 0 c4.length)),(8,.c (row 1 b9 l)),(9,(cI (l.length:Int))),(10,(cI t3)),(14,(cR a12)),(15,(cI (a12.length:Int))),(16,(cI t5))],[(oV 1 eU8 c4)]⟩) (fun _ _=>Z) ?_ ?_ ?_
  ·try dsimp only
   exact Sub.en Z
  ·intro t5 c4 o hlot5 hltt5 h
   unfold an8 at h
   try dsimp only at h ⊢
   refine AWP.j (.q (.j ?_))
   obtain⟨a18,ha18,h⟩:=bind_some h
   refine AWP.U (S.idx ha18 Z Z Z Z (.G 2 Z (.nil (b5 ?_))))
   obtain⟨a22,ha22,a24,ha24,h⟩:=b2 h
   refine AWP.G 2 Z (.callF (r2:=.c (.own 4 0 a22.length)) (σ'':=[.dead,.dead,.dead,.dead,(oV 1 eU8 a22)]) Z Z Z (FnOk.lend [0] (ah5 ha22) Z Z Z Z Z Z (by exact⟨.vec,Y⟩) Z (by exact⟨(.live Z .vec),Y⟩) Z Z (by exact⟨.dead,.dead,.dead,.dead,(.new 4 Z Z .vec),Y⟩)) (S.lit (f:=eU8) (l:=[44]) (ess:=[[.imm (.val (.int .u8 44))]]) Z Z Z Z Z Z Z ⟨⟨.inl Z,Y⟩,Y⟩ Z Z Z (S.append (f:=eU8) ha24 Z Z Z Z Z Z (.own Z Z) Z Z Z Z (.E Z Z (.nil (d7 (b5 (.z (env':=[(3,.c (.own 4 0 a24.length)),(8,.c (row 1 b9 l)),(9,(cI (l.length:Int))),(10,(cI t3)),(14,(cR a12)),(15,(cI (a12.length:Int))),(16,(cI t5))]) (σ':=[.dead,.dead,.dead,.dead,(oV 1 eU8 a24),(oV 1 eU8 [44])]) 4 6 Z Z Z ⟨Z,Z,Z,Z,Z,Z,Z,Y⟩ Z ⟨Y,Y,Y,Y,⟨Blk.im_ok _ _ _,i6 Z⟩,⟨Blk.im_ok _ _ _,i6 Z⟩,Y⟩ (.U (.add Z Z Z (by omega) (.z Z Z (.nil ?_))))))))))))
   obtain rfl:=oi h
   refine b5 ((Sub.move (env':=[(3,.c (.own 0 0 a24.length)),(8,.c (row 1 b9 l)),(9,(cI (l.length:Int))),(10,(cI t3)),(14,(cR a12)),(15,(cI (a12.length:Int))),(16,(cI (t5+1)))]) (σ':=[(oV 1 eU8 a24),.dead,.dead,.dead,.dead,(oV 1 eU8 [44])]) 0 4 Z Z Z ⟨Z,Z,Z,Z,Z,Z,Z,Y⟩ Z ⟨⟨Blk.im_ok _ _ _,i6 Z⟩,Y,Y,Y,Y,⟨Blk.im_ok _ _ _,i6 Z⟩,Y⟩).trans (Sub.cut ⟨Z,Z,Z,Z,Z,Z,Z,Y⟩ Z ⟨.vec,Y⟩ Z))
  ·intro iz
   try dsimp only
   refine f9 (b5 ?_)
   obtain⟨a28,ha28,h⟩:=bind_some h
   refine AWP.G 1 Z (S.lit (f:=eU8) (l:=[59]) (ess:=[[.imm (.val (.int .u8 59))]]) Z Z Z Z Z Z Z ⟨⟨.inl Z,Y⟩,Y⟩ Z Z Z (S.append (f:=eU8) ha28 Z Z Z Z Z Z (.own Z Z) Z Z Z Z (.E Z Z (.nil (d7 (b5 (.z (env':=[(3,.c (.own 0 0 a28.length)),(8,.c (row 1 b9 l)),(9,(cI (l.length:Int))),(10,(cI t3))]) (σ':=[(oV 1 eU8 a28),(oV 1 eU8 [59])]) 0 2 Z Z Z ⟨Z,Z,Z,Z,Y⟩ Z ⟨⟨Blk.im_ok _ _ _,i6 Z⟩,⟨Blk.im_ok _ _ _,i6 Z⟩,Y⟩ (.U (.add Z Z Z (by omega) (.z Z Z (.nil ?_)))))))))))
   obtain rfl:=oi h
   refine b5 (Sub.cut ⟨Z,Z,Z,Z,Y⟩ Z ⟨.vec,Y⟩ Z)
 ·intro iz
  try dsimp only
  refine f9 (b5 (.gs 1 Z (S.bytesStr Z Z Z Z (.ge 1 Z (.ret ?_)))))
  obtain rfl:=oi h
  exact Done.ret Z Z
theorem k8{sv:Li}{part:Li}{r:Bool}(h:j7 sv part=some r):e8 prog 42 [(cR sv),(cR part)] ((cB r)):=by
 unfold e8
 refine FnOk.enter (rs:=[.t 4]) func42 Z ntmps42 results42 Z ⟨Y,Y⟩ (by kernel_rfl) Z ?_
 unfold j7 at h
 refine AWP.gk 1 Z (.gk 1 Z (.j (.gs 1 Z (S.len Z Z (fun hl9=>.ge 1 Z (.q ?_))))))
 obtain⟨oo,ho1,h⟩:=bind_some h
 refine AWP.rngH ho1 (fun t4 iv3=>⟨[(0,(cR sv)),(5,(cI iv3)),(8,(cR part)),(9,(cI (part.length:Int))),(10,(cI t4))],[]⟩) (fun x e st=>e=.ret∧Done [.t 4] (fun t _=>t=(cB x)) .ret st) (fun _ _=>Z) ?_ ?_ ?_ ?_
 ·try dsimp only
  exact Sub.en Z
 ·intro t4 iv3 o hlot4 hltt4 h
  unfold L4 at h
  try dsimp only at h ⊢
  refine AWP.j (.q (.j ?_))
  obtain⟨a12,ha12,h⟩:=bind_some h
  refine AWP.U (S.idx ha12 Z Z Z Z (.G 2 Z (.nil (b5 (.j (.q ?_))))))
  obtain⟨iv6,ho2,h⟩:=bind_some h
  refine AWP.loopS ho2 (fun iv5=>⟨[(0,(cR sv)),(5,(cI iv5)),(7,(cI a12)),(8,(cR part)),(9,(cI (part.length:Int))),(10,(cI t4))],[]⟩) (fun iv6 e st=>e=.exit 2∧Sub [] st ⟨[(0,(cR sv)),(5,(cI iv6)),(7,(cI a12)),(8,(cR part)),(9,(cI (part.length:Int))),(10,(cI t4))],[]⟩) ?_ ?_ ?_
  ·try dsimp only
   exact Sub.en Z
  ·intro iv5 o h
   unfold F1 at h
   try dsimp only at h ⊢
   refine AWP.j ?_
   obtain⟨t7,hx8,h⟩:=bind_some h
   refine AWP.seqJ (⟨[(0,(cR sv)),(5,(cI iv5)),(7,(cI a12)),(8,(cR part)),(9,(cI (part.length:Int))),(10,(cI t4)),(25,(cB t7))],[]⟩) ?_ ?_
   ·rcases bft (decide (iv5<(sv.length:Int))) with hb9|hb9
    ·replace hx8:=M0 hb9 hx8
     obtain⟨a21,ha21,hx8⟩:=bind_some hx8
     refine AWP.G 2 Z (S.len Z Z (fun hl16=>.G 2 Z (.K Z Z hb9 (.G 2 Z (.O Z Z Z Z (S.idx ha21 Z Z Z Z (.G 4 Z (.nil ?_))))))))
     obtain rfl:=oi hx8
     refine b5 (Sub.en Z)
    ·replace hx8:=K5 hb9 hx8
     refine AWP.G 2 Z (S.len Z Z (fun hl16=>.G 2 Z (.K Z Z hb9 (.G 7 Z (.nil ?_)))))
     obtain rfl:=oi hx8
     refine b5 (Sub.en Z)
   ·refine AWP.F Z h (fun hc10 h=> ?_) (fun hc10 h=> ?_)
    ·refine AWP.skip (b5 (.q (.G 3 Z (.nil (d7 ?_)))))
     obtain rfl:=oi h
     refine b5 ⟨_,Z,?_⟩
     exact Sub.en Z
    ·refine AWP.exit (h9 ?_)
     obtain rfl:=oi h
     refine h9 ⟨_,Z,Z,?_⟩
     exact Sub.en Z
  ·intro e s hq
   obtain⟨rfl,hs⟩:=hq
   refine⟨_,hs,?_⟩
   refine f9 (b5 ?_)
   obtain⟨t11,hx12,h⟩:=bind_some h
   refine AWP.seqJ (⟨[(0,(cR sv)),(5,(cI iv6)),(8,(cR part)),(9,(cI (part.length:Int))),(10,(cI t4)),(39,(cB t11))],[]⟩) ?_ ?_
   ·rcases bft (decide (iv6=(sv.length:Int))) with hb13|hb13
    ·replace hx12:=M0 hb13 hx12
     refine AWP.G 2 Z (S.len Z Z (fun hl30=>.G 2 Z (.K Z Z hb13 (.G 7 Z (.nil ?_)))))
     obtain rfl:=oi hx12
     refine b5 (Sub.en Z)
    ·replace hx12:=K5 hb13 hx12
     obtain⟨a35,ha35,hx12⟩:=bind_some hx12
     refine AWP.G 2 Z (S.len Z Z (fun hl30=>.G 2 Z (.K Z Z hb13 (.G 2 Z (.O Z Z Z Z (S.idx ha35 Z Z Z Z (.G 4 Z (.nil ?_))))))))
     obtain rfl:=oi hx12
     refine b5 (Sub.en Z)
   ·refine AWP.F Z h (fun hc14 h=> ?_) (fun hc14 h=> ?_)
    ·refine AWP.gk 1 Z (.ret (g7 (e7 ?_)))
     obtain rfl:=oi h
     refine e7 ⟨_,Z,Z,?_⟩
     exact Done.ret Z Z
    ·refine AWP.skip (d7 (b5 (.U (.add Z Z Z (by omega) (.z Z Z (.nil ?_))))))
     obtain rfl:=oi h
     refine b5 ⟨_,Z,?_⟩
     exact Sub.en Z
 ·intro iz iv3 he
  subst he
  try dsimp only at h ⊢
  refine f9 (b5 (.gk 1 Z (.ret ?_)))
  obtain rfl:=oi h
  exact Done.ret Z Z
 ·intro x e st he hq
  subst he
  try dsimp only at h hq
  obtain⟨rfl,hs⟩:=hq
  refine⟨_,Sub.refl _ _,?_⟩
  refine g7 (e7 ?_)
  obtain rfl:=oi h
  exact hs
theorem T5{ov:b7}{sv:Li}{op:Int}{r:Bool}(h:O9 ov sv op=some r):e8 prog 90 [.agg (tO ov),(cR sv),(cI op)] ((cB r)):=by
 unfold e8
 refine FnOk.enter (rs:=[.t 6]) func90 Z ntmps90 results90 Z ⟨Y,Y⟩ (by kernel_rfl) Z ?_
 unfold O9 at h
 refine AWP.gk 2 Z (.j ?_)
 obtain⟨a11,ha11,a14,ha14,h⟩:=b2 h
 refine AWP.G 4 Z (S.idx ha11 Z Z Z Z (.G 2 Z (.u Z Z Z Z (k8 ha14) Z (.E Z Z (.nil (b5 (.ret ?_)))))))
 obtain rfl:=oi h
 exact Done.ret Z Z
theorem aq7{sv:Li}{add:Li}{del:Li}{r:Li}(h:G3 sv add del=some r):m8 prog 126 [(cR sv),(cR add),(cR del)] 1 (List.map intI r):=by
 unfold m8
 refine FnOk.enter (rs:=[.t 6]) func126 Z ntmps126 results126 Z ⟨Y,Y⟩ (by kernel_rfl) Z ?_
 unfold G3 at h
 refine AWP.gk 1 Z (.gk 1 Z (.j (.gs 1 Z (S.len Z Z (fun hl13=>.ge 1 Z (.q (.virtV 1 intI 7 Z Z Z ?_)))))))
 obtain⟨c4,ho1,h⟩:=bind_some h
 refine AWP.forH ho1 (fun t5 c4=>⟨[(1,(cR add)),(2,(cR del)),(7,.c (.own 0 0 c4.length)),(12,(cR sv)),(13,(cI (sv.length:Int))),(14,(cI t5))],[(oV 1 intI c4)]⟩) (fun _ _=>Z) ?_ ?_ ?_
 ·try dsimp only
  exact Sub.env ⟨Z,Z,(x9 (by first|rfl|simp only[lS])),Z,Z,Z,Y⟩
 ·intro t5 c4 o hlot5 hltt5 h
  unfold V8 at h
  try dsimp only at h ⊢
  obtain⟨c6,hx7,h⟩:=bind_some h
  refine AWP.seqJ (⟨[(1,(cR add)),(2,(cR del)),(7,.c (.own 2 0 c6.length)),(12,(cR sv)),(13,(cI (sv.length:Int))),(14,(cI t5))],[.dead,.dead,(oV 1 intI c6)]⟩) ?_ ?_
  ·refine AWP.q (.j ?_)
   obtain⟨a16,ha16,hx7⟩:=bind_some hx7
   refine AWP.U (S.idx ha16 Z Z Z Z (.G 2 Z (.nil (b5 (.j ?_)))))
   obtain⟨a21,ha21,hx7⟩:=bind_some hx7
   refine AWP.G 2 Z (.u Z Z Z Z (L5 ha21) Z (.G 5 Z (.nil (b5 (.gk 2 Z (.F Z hx7 (fun hc8 hx7=> ?_) (fun hc8 hx7=> ?_)))))))
   ·obtain⟨a29,ha29,hx7⟩:=bind_some hx7
    refine AWP.G 2 Z (S.lit (f:=intI) (l:=[a16]) (ess:=[[int a16]]) Z Z Z Z Z Z Z ⟨⟨.inl Z,Y⟩,Y⟩ Z Z Z (S.append (f:=intI) ha29 Z Z Z Z Z Z (.own Z Z) Z Z Z Z (.E Z Z (.nil (d7 ?_)))))
    obtain rfl:=oi hx7
    refine b5 (Sub.cut ⟨Z,Z,Z,Z,Z,Z,Y⟩ Z ⟨.dead,.dead,.vec,Y⟩ Z)
   ·refine AWP.skip (d7 ?_)
    obtain rfl:=oi hx7
    refine b5 ((Sub.move (env':=[(1,(cR add)),(2,(cR del)),(7,.c (.own 2 0 c4.length)),(12,(cR sv)),(13,(cI (sv.length:Int))),(14,(cI t5))]) (σ':=[.dead,.dead,(oV 1 intI c4)]) 2 0 Z Z Z ⟨Z,Z,Z,Z,Z,Z,Y⟩ Z ⟨Y,Y,⟨Blk.im_ok _ _ _,i6 Z⟩,Y⟩).trans (Sub.en Z))
  ·refine AWP.U (.add Z Z Z (by omega) (.z Z Z (.nil ?_)))
   obtain rfl:=oi h
   refine b5 ((Sub.move (env':=[(1,(cR add)),(2,(cR del)),(7,.c (.own 0 0 c6.length)),(12,(cR sv)),(13,(cI (sv.length:Int))),(14,(cI (t5+1)))]) (σ':=[(oV 1 intI c6),.dead]) 0 2 Z Z Z ⟨Z,Z,Z,Z,Z,Z,Y⟩ Z ⟨⟨Blk.im_ok _ _ _,i6 Z⟩,Y,Y⟩).trans (Sub.cut ⟨Z,Z,Z,Z,Z,Z,Y⟩ Z ⟨.vec,Y⟩ Z))
 ·intro iz
  try dsimp only
  refine f9 (b5 (.j ?_))
  obtain⟨a33,ha33,h⟩:=bind_some h
  refine AWP.G 2 Z (S.append (f:=intI) ha33 Z Z Z Z Z Z .row Z Z Z Z (.E Z Z (.nil (b5 (.j (.z (env':=[(7,.c (.own 0 0 a33.length))]) (σ':=[(oV 1 intI a33)]) 0 1 Z Z Z ⟨Z,Y⟩ Z ⟨⟨Blk.im_ok _ _ _,i6 Z⟩,Y⟩ ?_))))))
  obtain⟨a35,ha35,h⟩:=bind_some h
  refine AWP.G 1 Z (S.sort ha35 sortL_ok Z Z Z Z Z Z (.nil (b5 (.gs 1 Z (S.compact compactL_ok Z Z (sortL_len ha35) Z Z Z Z Z (.ge 1 Z (.ret ?_)))))))
  obtain rfl:=oi h
  exact Done.ret Z (Fresh.mk Z Z)
theorem ap5{xv:Int}{yv:Int}{r:Int}(h:L6 xv yv=some r):e8 prog 125 [(cI xv),(cI yv)] ((cI r)):=by
 unfold e8
 refine FnOk.enter (rs:=[.t 4]) func125 Z ntmps125 results125 Z ⟨Y,Y⟩ (by kernel_rfl) Z ?_
 unfold L6 at h
 refine AWP.gk 1 Z (.j ?_)
 obtain⟨a8,ha8,h⟩:=bind_some h
 refine AWP.G 1 Z (.u Z Z Z Z (B9 ha8) Z (.E Z Z (.nil (b5 (.j ?_)))))
 obtain⟨a10,ha10,h⟩:=bind_some h
 refine AWP.G 1 Z (.u Z Z Z Z (B9 ha10) Z (.E Z Z (.nil (b5 (.j (.gk 1 Z (.F Z h (fun hc3 h=> ?_) (fun hc3 h=> ?_))))))))
 ·refine AWP.j (.gk 1 Z (.F Z h (fun hc4 h=> ?_) (fun hc4 h=> ?_)))
  ·refine AWP.gk 1 Z (.ret (e7 (e7 ?_)))
   obtain rfl:=oi h
   exact Done.ret Z Z
  ·refine AWP.skip (b5 (.gk 1 Z (.ret (e7 ?_))))
   obtain rfl:=oi h
   exact Done.ret Z Z
 ·refine AWP.skip (b5 (.j (.gk 1 Z (.F Z h (fun hc5 h=> ?_) (fun hc5 h=> ?_)))))
  ·refine AWP.gk 1 Z (.ret (e7 ?_))
   obtain rfl:=oi h
   exact Done.ret Z Z
  ·refine AWP.skip (b5 (.j (.gk 3 Z (.J Z h (fun hc6 h=> ?_) (fun hc6 h=> ?_)))))
   ·refine AWP.gk 1 Z (.ret (e7 ?_))
    obtain rfl:=oi h
    exact Done.ret Z Z
   ·refine AWP.skip (b5 (.j (.gk 3 Z (.J Z h (fun hc7 h=> ?_) (fun hc7 h=> ?_)))))
    ·refine AWP.gk 1 Z (.ret (e7 ?_))
     obtain rfl:=oi h
     exact Done.ret Z Z
    ·refine AWP.skip (b5 (.gk 1 Z (.ret ?_)))
     obtain rfl:=oi h
     exact Done.ret Z Z
theorem q8{s11:Li}{s22:Li}{r:Int}(h:slices_Compare_int_int s11 s22=some r):e8 prog 87 [(cR s11),(cR s22)] ((cI r)):=by
 unfold e8
 refine FnOk.enter (rs:=[.t 4]) func87 Z ntmps87 results87 Z ⟨Y,Y⟩ (by kernel_rfl) Z ?_
 unfold slices_Compare_int_int at h
 refine AWP.gk 1 Z (.j (.gs 1 Z (S.len Z Z (fun hl10=>.ge 1 Z (.q ?_)))))
 obtain⟨oo,ho1,h⟩:=bind_some h
 refine AWP.rngH ho1 (fun t3 _=>⟨[(0,(cR s11)),(1,(cR s22)),(9,(cR s11)),(10,(cI (s11.length:Int))),(11,(cI t3))],[]⟩) (fun x e st=>e=.ret∧Done [.t 4] (fun t _=>t=(cI x)) .ret st) (fun _ _=>Z) ?_ ?_ ?_ ?_
 ·try dsimp only
  exact Sub.en Z
 ·intro t3 s o hlot3 hltt3 h
  unfold C8 at h
  try dsimp only at h ⊢
  refine AWP.j (.q (.j ?_))
  obtain⟨a14,ha14,h⟩:=bind_some h
  refine AWP.G 1 Z (S.idx ha14 Z Z Z Z (.G 3 Z (.nil (b5 (.j (.gs 2 Z (S.len Z Z (fun hl18=>.ge 1 Z (.J Z h (fun hc4 h=> ?_) (fun hc4 h=> ?_))))))))))
  ·refine AWP.gk 1 Z (.ret (e7 (g7 (e7 ?_))))
   obtain rfl:=oi h
   refine e7 ⟨_,Z,Z,?_⟩
   exact Done.ret Z Z
  ·refine AWP.skip (b5 (.j ?_))
   obtain⟨a22,ha22,h⟩:=bind_some h
   refine AWP.G 2 Z (S.idx ha22 Z Z Z Z (.G 2 Z (.nil (b5 (.j ?_)))))
   obtain⟨a26,ha26,h⟩:=bind_some h
   refine AWP.G 2 Z (.u Z Z Z Z (ap5 ha26) Z (.E Z Z (.nil (b5 (.gk 2 Z (.iteN Z h (fun hc5 h=> ?_) (fun hc5 h=> ?_)))))))
   ·refine AWP.gk 2 Z (.ret (g7 (e7 ?_)))
    obtain rfl:=oi h
    refine e7 ⟨_,Z,Z,?_⟩
    exact Done.ret Z Z
   ·refine AWP.skip (d7 (b5 (.U (.add Z Z Z (by omega) (.z Z Z (.nil ?_))))))
    obtain rfl:=oi h
    refine b5 ⟨_,Z,?_⟩
    exact Sub.en Z
 ·intro iz _ he
  subst he
  try dsimp only at h ⊢
  refine f9 (b5 (.j (.gs 1 Z (S.len Z Z (fun hl32=>.z Z Z (S.len Z Z (fun hl34=>.ge 1 Z (.J Z h (fun hc6 h=> ?_) (fun hc6 h=> ?_)))))))))
  ·refine AWP.gk 1 Z (.ret (e7 ?_))
   obtain rfl:=oi h
   exact Done.ret Z Z
  ·refine AWP.skip (b5 (.gk 1 Z (.ret ?_)))
   obtain rfl:=oi h
   exact Done.ret Z Z
 ·intro x e st he hq
  subst he
  try dsimp only at h hq
  obtain⟨rfl,hs⟩:=hq
  refine⟨_,Sub.refl _ _,?_⟩
  refine g7 (e7 ?_)
  obtain rfl:=oi h
  exact hs
theorem J8{s11:Li}{s22:Li}{r:Bool}(h:x4 s11 s22=some r):e8 prog 104 [(cR s11),(cR s22)] ((cB r)):=by
 unfold e8
 refine FnOk.enter (rs:=[.t 4]) func104 Z ntmps104 results104 Z ⟨Y,Y⟩ (by kernel_rfl) Z ?_
 unfold x4 at h
 refine AWP.gk 1 Z (.j (.gs 1 Z (S.len Z Z (fun hl7=>.z Z Z (S.len Z Z (fun hl9=>.ge 1 Z (.iteN Z h (fun hc3 h=> ?_) (fun hc3 h=> ?_))))))))
 ·refine AWP.gk 1 Z (.ret (e7 ?_))
  obtain rfl:=oi h
  exact Done.ret Z Z
 ·refine AWP.skip (b5 (.j (.gs 1 Z (S.len Z Z (fun hl12=>.ge 1 Z (.q ?_))))))
  obtain⟨oo,ho1,h⟩:=bind_some h
  refine AWP.rngH ho1 (fun t4 _=>⟨[(0,(cR s11)),(1,(cR s22)),(12,(cI (s11.length:Int))),(13,(cI t4))],[]⟩) (fun x e st=>e=.ret∧Done [.t 4] (fun t _=>t=(cB x)) .ret st) (fun _ _=>Z) ?_ ?_ ?_ ?_
  ·try dsimp only
   exact Sub.en Z
  ·intro t4 s o hlot4 hltt4 h
   unfold J7 at h
   try dsimp only at h ⊢
   refine AWP.j (.q (.gk 2 Z (.j ?_)))
   obtain⟨a18,ha18,a22,ha22,h⟩:=b2 h
   refine AWP.drawI mixed Z (d5.D 2 Z ?_)
   refine d5.consF Z (fun E=>S.idx ha18 Z Z Z Z .N) Z ?_
   refine d5.D 3 Z ?_
   refine d5.consF Z (fun E=>S.idx ha22 Z Z Z Z .N) Z ?_
   refine d5.D 2 Z (d5.done ?_)
   dsimp only[g9]
   refine b5 (.iteN Z h (fun hc5 h=> ?_) (fun hc5 h=> ?_))
   ·refine AWP.gk 1 Z (.ret (g7 (e7 ?_)))
    obtain rfl:=oi h
    refine e7 ⟨_,Z,Z,?_⟩
    exact Done.ret Z Z
   ·refine AWP.skip (d7 (b5 (.U (.add Z Z Z (by omega) (.z Z Z (.nil ?_))))))
    obtain rfl:=oi h
    refine b5 ⟨_,Z,?_⟩
    exact Sub.en Z
  ·intro iz _ he
   subst he
   try dsimp only at h ⊢
   refine f9 (b5 (.gk 1 Z (.ret ?_)))
   obtain rfl:=oi h
   exact Done.ret Z Z
  ·intro x e st he hq
   subst he
   try dsimp only at h hq
   obtain⟨rfl,hs⟩:=hq
   refine⟨_,Sub.refl _ _,?_⟩
   refine g7 (e7 ?_)
   obtain rfl:=oi h
   exact hs
theorem y4{xv:LL}{target:Li}{cmp:Li→Li→Option Int}{r:Int×Bool}{fvcmp:FuncId}{cvcmp:List C}(hcvcmp:C.okL 0 cvcmp=true)(hcmp:∀{y1:Li} {y2:Li} {z:Int},cmp y1 y2=some z→e8 prog fvcmp ([(cR y1),(cR y2)]++cvcmp.map T.c) ((cI z)))(h:j9 xv target cmp=some r):e8 prog 86 [.c (row 1 b9 xv),(cR target),.c (.fn fvcmp cvcmp)] (.tup [(cI r.1),(cB r.2)]):=by
 unfold e8
 refine FnOk.enter (rs:=[.t 6,.t 7]) func86 Z ntmps86 results86 Z ⟨Y,Y,Y⟩ (by kernel_rfl) Z ?_
 unfold j9 at h
 refine AWP.gk 2 Z (.gs 1 Z (S.len Z Z (fun hl13=>.ge 1 Z (.gk 3 Z (.j (.q ?_))))))
 obtain⟨iv6,ho1,h⟩:=bind_some h
 refine AWP.loopS ho1 (fun(iv4,j5)=>⟨[(0,.c (row 1 b9 xv)),(1,(cR target)),(2,.c (.fn fvcmp cvcmp)),(8,(cI (xv.length:Int))),(9,(cI iv4)),(10,(cI j5))],[]⟩) (fun iv6 e st=>e=.exit 0∧Sub [] st ⟨[(0,.c (row 1 b9 xv)),(1,(cR target)),(2,.c (.fn fvcmp cvcmp)),(8,(cI (xv.length:Int))),(9,(cI iv6))],[]⟩) ?_ ?_ ?_
 ·try dsimp only
  exact Sub.en Z
 ·intro s o h
  obtain⟨iv4,j5⟩:=s
  unfold E3 at h
  try dsimp only at h ⊢
  refine AWP.j (.gk 3 Z (.J Z h (fun hc7 h=> ?_) (fun hc7 h=> ?_)))
  ·refine AWP.skip (b5 (.q (.gs 4 Z (.shr Z Z Z (by first|decide|omega) Z (.ge 2 Z (.j ?_))))))
   obtain⟨a27,ha27,a30,ha30,h⟩:=b2 h
   refine AWP.G 3 Z (S.idx ha27 Z Z Z Z (.G 2 Z (.u Z Z (W6 Z hcvcmp) Z (hcmp ha30) Z (.lss Z Z Z (.nil (b5 (.J Z h (fun hc8 h=> ?_) (fun hc8 h=> ?_))))))))
   ·refine AWP.G 3 Z (.nil (d7 ?_))
    obtain rfl:=oi h
    refine b5 ⟨_,Z,?_⟩
    exact Sub.en Z
   ·refine AWP.G 2 Z (.nil (d7 ?_))
    obtain rfl:=oi h
    refine b5 ⟨_,Z,?_⟩
    exact Sub.en Z
  ·refine AWP.exit (h9 ?_)
   obtain rfl:=oi h
   refine h9 ⟨_,Z,Z,?_⟩
   exact Sub.en Z
 ·intro e s hq
  obtain⟨rfl,hs⟩:=hq
  refine⟨_,hs,?_⟩
  refine f9 (b5 ?_)
  obtain⟨t9,hx10,h⟩:=bind_some h
  refine AWP.seqJ (⟨[(6,(cI iv6)),(7,(cB t9))],[]⟩) ?_ ?_
  ·rcases bft (decide (iv6<(xv.length:Int))) with hb11|hb11
   ·replace hx10:=M0 hb11 hx10
    obtain⟨a43,ha43,a46,ha46,hx10⟩:=b2 hx10
    refine AWP.G 5 Z (.K Z Z hb11 (.G 3 Z (.O Z Z Z Z (S.idx ha43 Z Z Z Z (.G 2 Z (.O Z Z Z Z (.u Z Z (W6 Z hcvcmp) Z (hcmp ha46) Z (.G 4 Z (.nil ?_)))))))))
    obtain rfl:=oi hx10
    refine b5 (Sub.en Z)
   ·replace hx10:=K5 hb11 hx10
    refine AWP.G 5 Z (.K Z Z hb11 (.G 11 Z (.nil ?_)))
    obtain rfl:=oi hx10
    refine b5 (Sub.en Z)
  ·refine AWP.ret ?_
   obtain rfl:=oi h
   exact Done.ret Z Z
theorem W9{l:LL}{r:(LL)}(h:w4 l=some r):FnOk prog 131 [.c (.own 0 0 l.length),.c (.fn 104 [])] (D0 l) (fun tt ss=>tt=.c (.own 1 0 r.length)∧ss=[.dead,(oV 1 b9 r)]):=by
 refine FnOk.enter (rs:=[.t 4]) func131 Z ntmps131 results131 Z ⟨Y,Y⟩ (by kernel_rfl) Z ?_
 refine AWP.weak ?_
 unfold w4 at h
 refine AWP.z (env':=[(0,.c (.own 1 0 l.length)),(1,.c (.fn 104 []))]) (σ':=[.dead,(oV 1 b9 l)]) 1 0 Z Z Z ⟨Z,Z,Y⟩ Z ⟨Y,⟨Blk.im_ok _ _ _,i6 Z⟩,Y⟩ (.gk 1 Z (.j (.gs 1 Z (S.lenO Z Z Z (fun hl9=>.ge 1 Z (.J Z h (fun hc53 h=> ?_) (fun hc53 h=> ?_)))))))
 ·refine AWP.gk 2 Z (.ret (e7 ?_))
  obtain rfl:=oi h
  exact⟨⟨[(4,.c (.own 1 0 l.length))],[.dead,(oV 1 b9 l)]⟩,Sub.env ⟨Z,Y⟩,Done.ret Z ⟨Z,Z⟩⟩
 ·refine AWP.skip (b5 (.j (.gk 1 Z (.q ?_))))
  obtain⟨oo,ho1,h⟩:=bind_some h
  refine AWP.rngL ho1 (fun kv54 _=>⟨[(0,.c (.own 1 0 l.length)),(1,.c (.fn 104 [])),(5,(cI kv54))],[.dead,(oV 1 b9 l)]⟩) (fun x e st=>e=.ret∧∃J,Sub (D0 l) st J∧Done [.t 4] (fun tt ss=>tt=.c (.own 1 0 x.length)∧ss=[.dead,(oV 1 b9 x)]) .ret J) (fun _ _ _ k=>.G 2 Z (S.lenO Z Z Z fun hl=>.gn 1 Z (k hl))) (fun _ _=>Z) ?_ ?_ ?_ ?_
  ·try dsimp only
   exact Sub.en Z
  ·intro kv54 s o hlokv54 hltkv54 h hl14
   unfold n9 at h
   try dsimp only at h ⊢
   refine AWP.j (.q (.j ?_))
   obtain⟨a21,ha21,a26,ha26,a28,ha28,h⟩:=b3 h
   refine AWP.drawI mixed Z (d5.D 3 Z ?_)
   refine d5.consF Z (fun E=>S.idxO ha21 Z Z Z Z Z .N) Z (.consF Z (fun E=>S.loadO ha21 Z Z Z Z Z .N) Z ?_)
   refine d5.D 2 Z ?_
   refine d5.consF Z (fun E=>.sub' Z Z Z (by omega) .N) Z (.consF Z (fun E=>S.idxO ha26 Z Z Z Z Z .N) Z (.consF Z (fun E=>S.loadO ha26 Z Z Z Z Z .N) Z (.consF Z (fun E=>.u Z Z Z Z (J8 ha28) Z .N) Z ?_)))
   refine d5.done ?_
   dsimp only[g9]
   refine b5 (.F Z h (fun hc55 h=> ?_) (fun hc55 h=> ?_))
   ·refine AWP.j ?_
    obtain⟨u31,hu31,h⟩:=bind_some h
    refine AWP.G 2 Z (S.vFrom (B1 l) hu31 Z Z Z Z Z Z (.E Z Z (.nil (b5 (.j (.gk 1 Z (.q ?_)))))))
    obtain⟨⟨c56,kv57⟩,ho2,h⟩:=bind_some h
    try dsimp only at h
    refine AWP.forS ho2 (fun k258 (c56,kv57)=>⟨[(0,.c (.own 1 0 c56.length)),(1,.c (.fn 104 [])),(5,(cI kv57)),(6,.c (.own 1 ((0+kv54).toNat) (((l.length:Int) - kv54).toNat))),(7,(cI k258))],[.dead,(oV 1 b9 c56)]⟩) (fun(c56,kv57) e st=>e=.exit 2∧Sub (D0 l) st ⟨[(0,.c (.own 1 0 c56.length)),(5,(cI kv57))],[.dead,(oV 1 b9 c56)]⟩) ?_ ?_ ?_ ?_
    ·try dsimp only
     exact Sub.en Z
    ·intro k258 s hlok258 hltk258 _
     obtain⟨c56,kv57⟩:=s
     try dsimp only
     refine AWP.j (.gs 2 Z (S.lenV (S0 (ab5 (B1 l) hu31)).2.1 Z Z Z (fun hl34=>.ge 1 Z (.condNP Z hltk258 (.exit (h9 (h9 ⟨Z,?_⟩)))))))
     exact Sub.en Z
    ·intro k258 s o hlok258 hltk258 h
     obtain⟨c56,kv57⟩:=s
     unfold u6 at h
     try dsimp only at h ⊢
     refine AWP.j (.gs 2 Z (S.lenV (S0 (ab5 (B1 l) hu31)).2.1 Z Z Z (fun hl34=>.ge 1 Z (.condP Z hltk258 (.skip (b5 ?_))))))
     obtain⟨⟨c59,kv60⟩,hx61,h⟩:=bind_some h
     refine AWP.seqJ (⟨[(0,.c (.own 1 0 c59.length)),(1,.c (.fn 104 [])),(5,(cI kv60)),(6,.c (.own 1 ((0+kv54).toNat) (((l.length:Int) - kv54).toNat))),(7,(cI k258))],[.dead,(oV 1 b9 c59)]⟩) ?_ ?_
     ·refine AWP.q (.j ?_)
      obtain⟨a41,ha41,a46,ha46,a48,ha48,hx61⟩:=b3 hx61
      refine AWP.drawI mixed Z (d5.D 3 Z ?_)
      refine d5.consF Z (fun E=>S.idxV ha41 Z Z Z Z .N) Z (.consF Z (fun E=>S.loadO (ixV_ix ha41) Z Z Z Z Z .N) Z ?_)
      refine d5.D 2 Z ?_
      refine d5.consF Z (fun E=>.sub' Z Z Z (by omega) .N) Z (.consF Z (fun E=>S.idxV ha46 Z Z Z Z .N) Z (.consF Z (fun E=>S.loadO (ixV_ix ha46) Z Z Z Z Z .N) Z (.consF Z (fun E=>.u Z Z Z Z (J8 ha48) Z .N) Z ?_)))
      refine d5.D 1 Z (d5.done ?_)
      dsimp only[g9]
      refine b5 (.F Z hx61 (fun hc62 hx61=> ?_) (fun hc62 hx61=> ?_))
      ·refine AWP.j ?_
       obtain⟨a54,ha54,a56,ha56,hx61⟩:=b2 hx61
       refine AWP.G 4 Z (S.idxV ha54 Z Z Z Z (S.loadO (ixV_ix ha54) Z Z Z Z Z (S.idxO ha56 Z Z Z Z Z (S.storeO1 (f:=b9) (a':=a54) (s7 ha56) (fun _=>⟨_,Z⟩) Z Z Z Z Z ?_))))
       refine AOps.nil (b5 (.G 3 Z (.nil (d7 ?_))))
       obtain⟨ej0,ej1⟩:=o2 hx61
       subst ej0 ej1
       refine b5 (Sub.env ⟨(x9 (by first|rfl|simp only[lS])),Z,Z,Z,Z,Y⟩)
      ·refine AWP.skip (d7 ?_)
       obtain⟨ej0,ej1⟩:=o2 hx61
       subst ej0 ej1
       refine b5 (Sub.en Z)
     ·try dsimp only at h
      refine AWP.G 1 Z (.add Z Z Z (by omega) (.E Z Z (.nil ?_)))
      obtain rfl:=oi h
      refine b5 (Sub.en Z)
    ·intro e s hq
     obtain⟨rfl,hs⟩:=hq
     refine⟨_,hs,?_⟩
     refine f9 (b5 (.j ?_))
     obtain⟨u61,hu61,h⟩:=bind_some h
     refine AWP.G 2 Z (S.vFrom (B1 c56) hu61 Z Z Z Z Z Z (S.clear (a0:=[]) Z Z Z (fun _ _ _ _=>.imm .slNil) (ab5 (B1 c56) hu61) Z Z Z Z Z ?_))
     refine AOps.nil (b5 (.j ?_))
     obtain⟨u64,hu64,h⟩:=bind_some h
     refine AWP.G 2 Z ?_
     refine S.vTo (B1 (clrL c56 (0+kv57) ((c56.length:Int) - kv57) [])) hu64 Z Z (by rw[Int.toNat_natCast];exact(clrL_len (ab5 (B1 c56) hu61)).symm) Z Z Z ?_
     refine AOps.E Z Z (.nil (b5 (.reown (env':=[(4,.c (.own 2 0 ((n7 (clrL c56 (0+kv57) ((c56.length:Int) - kv57) []) 0 kv57).length)))]) 4 (vw_to (B1 (clrL c56 (0+kv57) ((c56.length:Int) - kv57) [])) hu64) Z Z Z Z Z Z Z Z (by exact⟨.inl ⟨Z,Z⟩,Y⟩) (.ret (g7 (e7 ?_))))))
     obtain rfl:=oi h
     refine e7 ⟨_,Z,Z,?_⟩
     exact⟨⟨[(4,.c (.own 1 0 ((n7 (clrL c56 (0+kv57) ((c56.length:Int) - kv57) []) 0 kv57).length)))],[.dead,(oV 1 b9 (n7 (clrL c56 (0+kv57) ((c56.length:Int) - kv57) []) 0 kv57))]⟩,(Sub.move (env':=[(4,.c (.own 1 0 ((n7 (clrL c56 (0+kv57) ((c56.length:Int) - kv57) []) 0 kv57).length)))]) (σ':=[.dead,(oV 1 b9 (n7 (clrL c56 (0+kv57) ((c56.length:Int) - kv57) []) 0 kv57))]) 1 2 Z Z Z ⟨Z,Y⟩ Z ⟨Y,⟨Blk.im_ok _ _ _,i6 Z⟩,Y⟩).trans (Sub.env ⟨Z,Y⟩),Done.ret Z ⟨Z,Z⟩⟩
   ·refine AWP.skip (d7 (b5 (.G 1 Z (.add Z Z Z (by omega) (.E Z Z (.nil ?_))))))
    obtain rfl:=oi h
    refine b5 ⟨_,Z,?_⟩
    exact Sub.en Z
  ·intro iz _ he
   subst he
   try dsimp only at h ⊢
   refine f9 (b5 (.gk 2 Z (.ret ?_)))
   obtain rfl:=oi h
   exact⟨⟨[(4,.c (.own 1 0 l.length))],[.dead,(oV 1 b9 l)]⟩,Sub.env ⟨Z,Y⟩,Done.ret Z ⟨Z,Z⟩⟩
  ·intro x e st he hq
   subst he
   try dsimp only at h hq
   obtain⟨rfl,hs⟩:=hq
   refine⟨_,Sub.refl _ _,?_⟩
   refine g7 (e7 ?_)
   obtain rfl:=oi h
   exact hs
theorem R4{l:LL}{r:(LL)}(h:D7 l=some r):FnOk prog 105 [.c (.own 0 0 l.length)] (ao6 l) (fun tt ss=>tt=.c (.own 2 0 r.length)∧ss=[.dead,.dead,(oV 1 b9 r)]):=by
 refine FnOk.enter (rs:=[.t 2]) func105 Z ntmps105 results105 Z ⟨Y,Y⟩ (by kernel_rfl) Z ?_
 refine AWP.weak ?_
 unfold D7 at h
 refine AWP.z (env':=[(0,.c (.own 1 0 l.length))]) (σ':=[.dead,(oV 1 b9 l)]) 1 0 Z Z Z ⟨Z,Y⟩ Z ⟨Y,⟨Blk.im_ok _ _ _,i6 Z⟩,Y⟩ (.gk 1 Z (.j ?_))
 obtain⟨a4,ha4,h⟩:=bind_some h
 refine AWP.G 1 Z (S.sortF (fun x=>.sl 1 (List.map intI x)) (sortLL_fl ha4) Z (fun hy=>q8 hy) sortF_LLi64_ok (⟨_,func87,Z,Z⟩) Z Z Z Z Z Z ?_)
 refine AOps.nil (b5 (.j ?_))
 obtain⟨a6,ha6,h⟩:=bind_some h
 refine AWP.G 1 Z ?_
 refine AOps.callF (r2:=.c (.own 2 0 a6.length)) (σ'':=[.dead,.dead,(oV 1 b9 a6)]) Z Z Z (FnOk.lend [1] (W9 ha6) Z Z Z Z Z Z (by exact⟨.vec,Y⟩) (by rw[(sortFL_len (sortLL_fl ha4))]<;>rfl) (by exact⟨(.live Z .vec),Y⟩) Z Z (by exact⟨.dead,.dead,(.new 1 Z Z .vec),Y⟩)) ?_
 refine AOps.E Z Z (.nil (b5 (.ret ?_)))
 obtain rfl:=oi h
 exact⟨⟨[(2,.c (.own 2 0 a6.length))],[.dead,.dead,(oV 1 b9 a6)]⟩,Sub.env ⟨Z,Y⟩,Done.ret Z ⟨Z,Z⟩⟩
theorem w7{ov:b7}{sv:Li}{op:Int}{r:(LL)×Li}(h:l8 ov sv op=some r):e8 prog 91 [.agg (tO ov),(cR sv),(cI op)] (.tup [.c (row 1 b9 r.1),(cR r.2)]):=by
 unfold e8
 refine FnOk.enter (rs:=[.t 6,.t 7]) func91 Z ntmps91 results91 Z ⟨Y,Y,Y⟩ (by kernel_rfl) Z ?_
 unfold l8 at h
 refine AWP.gk 3 Z (.gk 1 Z (.j (.j ?_)))
 obtain⟨a20,ha20,h⟩:=bind_some h
 refine AWP.G 3 Z (S.idx ha20 Z Z Z Z (.G 2 Z (S.len Z Z (fun hl23=>.z Z Z (.nil (b5 (.q (.virtV 1 b9 8 Z Z Z ?_))))))))
 obtain⟨c4,ho1,h⟩:=bind_some h
 refine AWP.forH ho1 (fun t5 c4=>⟨[(1,(cR sv)),(2,(cI op)),(3,(cP 0 0 0)),(8,.c (.own 1 0 c4.length)),(22,.c (row 3 s8 a20.outcomes)),(23,(cI (a20.outcomes.length:Int))),(24,(cI t5))],[(oE 4 (tO ov)),(oV 1 b9 c4)]⟩) (fun _ _=>Z) ?_ ?_ ?_
 ·try dsimp only
  exact Sub.env ⟨Z,Z,Z,(x9 (by first|rfl|simp only[lS])),Z,Z,Z,Y⟩
 ·intro t5 c4 o hlot5 hltt5 h
  unfold L7 at h
  try dsimp only at h ⊢
  refine AWP.j (.q (.j ?_))
  obtain⟨a26,ha26,h⟩:=bind_some h
  refine AWP.U (S.idx ha26 Z Z Z Z (.G 3 Z (.nil (b5 ?_))))
  obtain⟨a34,ha34,a36,ha36,h⟩:=b2 h
  refine AWP.G 6 Z (S.fresh Z Z Z Z (aq7 ha34) Z Z (.frzV (id:=3) (l:=a34) (env2:=[(1,(cR sv)),(2,(cI op)),(3,(cP 0 0 0)),(22,.c (row 3 s8 a20.outcomes)),(23,(cI (a20.outcomes.length:Int))),(24,(cI t5)),(28,.c (.own 1 0 c4.length)),(34,(cR a34))]) (σ2:=[(oE 4 (tO ov)),(oV 1 b9 c4),(oE 3 [row 1 intI a26.add,row 1 intI a26.del,int a26.weight]),.dead]) Z Z (by exact⟨⟨_,Z,.inl ⟨Z,Z⟩⟩,⟨_,Z,.inl ⟨Z,Z⟩⟩,⟨_,Z,.inl ⟨Z,Z⟩⟩,⟨_,Z,.inl ⟨Z,Z⟩⟩,⟨_,Z,.inl ⟨Z,Z⟩⟩,⟨_,Z,.inl ⟨Z,Z⟩⟩,⟨_,Z,.inl ⟨Z,Z⟩⟩,⟨_,Z,.inr ⟨_,Z,Z,Z⟩⟩,Y⟩) Z (by exact⟨⟨Z,.inl ⟨Z,Z⟩,.inl ⟨Z,Z⟩,.inl ⟨Z,Z⟩,.inl ⟨Z,Z⟩,Y⟩,FrzB.vec,⟨Z,.inl ⟨Z,Z⟩,.inl ⟨Z,Z⟩,.inl ⟨Z,Z⟩,Y⟩,Y,Y⟩) (S.lit (f:=b9) (l:=[a34]) (ess:=[[row 1 intI a34]]) Z Z Z Z Z Z Z ⟨⟨.inl Z,Y⟩,Y⟩ Z Z Z (S.append (f:=b9) ha36 Z Z Z Z Z Z (.own Z Z) Z Z Z Z (.E Z Z (.nil (d7 (b5 (.z (env':=[(1,(cR sv)),(2,(cI op)),(3,(cP 0 0 0)),(8,.c (.own 1 0 a36.length)),(22,.c (row 3 s8 a20.outcomes)),(23,(cI (a20.outcomes.length:Int))),(24,(cI t5))]) (σ':=[(oE 4 (tO ov)),(oV 1 b9 a36),(oE 3 [row 1 intI a26.add,row 1 intI a26.del,int a26.weight]),.dead,(oV 1 b9 [a34])]) 1 5 Z Z Z ⟨Z,Z,Z,Z,Z,Z,Z,Y⟩ Z ⟨⟨Z,Z⟩,⟨Blk.im_ok _ _ _,i6 Z⟩,⟨Z,Z⟩,Y,⟨Blk.im_ok _ _ _,i6 Z⟩,Y⟩ (.U (.add Z Z Z (by omega) (.z Z Z (.nil ?_)))))))))))))
  obtain rfl:=oi h
  refine b5 (Sub.cut ⟨Z,Z,Z,Z,Z,Z,Z,Y⟩ Z ⟨.one Z,.vec,Y⟩ Z)
 ·intro iz
  try dsimp only
  refine f9 (b5 (.j ?_))
  obtain⟨a39,ha39,a40,ha40,h⟩:=b2 h
  refine AWP.G 1 Z (.frzV (id:=1) (l:=c4) (env2:=[(2,(cI op)),(3,(cP 0 0 0)),(8,.c (row 1 b9 c4)),(38,.c (row 1 b9 c4))]) (σ2:=[(oE 4 (tO ov)),.dead]) Z Z (by exact⟨⟨_,Z,.inl ⟨Z,Z⟩⟩,⟨_,Z,.inl ⟨Z,Z⟩⟩,⟨_,Z,.inr ⟨_,Z,Z,Z⟩⟩,⟨_,Z,.inr ⟨_,Z,Z,Z⟩⟩,Y⟩) Z (by exact⟨⟨Z,.inl ⟨Z,Z⟩,.inl ⟨Z,Z⟩,.inl ⟨Z,Z⟩,.inl ⟨Z,Z⟩,Y⟩,Y,Y⟩) (S.fresh Z Z Z Z (I3 ha39) Z Z (.callF (r2:=.c (.own 4 0 a40.length)) (σ'':=[(oE 4 (tO ov)),.dead,.dead,.dead,(oV 1 b9 a40)]) Z Z Z (FnOk.lend [2] (R4 ha40) Z Z Z Z Z Z (by exact⟨.vec,Y⟩) Z (by exact⟨(.live Z .vec),Y⟩) Z Z (by exact⟨(.old Z Z Z),.dead,.dead,.dead,(.new 2 Z Z .vec),Y⟩)) (.E Z Z (.nil (b5 (.j ?_)))))))
  obtain⟨a43,ha43,h⟩:=bind_some h
  refine AWP.G 1 Z (S.lenO Z Z Z (fun hl42=>S.make (f:=intI) ha43 (.val .nil) Z Z Z Z Z Z (.E Z Z (.nil (b5 (.j (.j ?_)))))))
  obtain⟨a47,ha47,h⟩:=bind_some h
  refine AWP.G 3 Z (S.idx ha47 Z Z Z Z (.G 2 Z (S.len Z Z (fun hl50=>.z Z Z (.nil (b5 (.q ?_)))))))
  obtain⟨c6,ho2,h⟩:=bind_some h
  refine AWP.forH ho2 (fun t7 c6=>⟨[(8,.c (row 1 b9 c4)),(11,.c (.own 4 0 a40.length)),(12,.c (.own 5 0 c6.length)),(49,.c (row 3 s8 a47.outcomes)),(50,(cI (a47.outcomes.length:Int))),(51,(cI t7))],[.dead,.dead,.dead,.dead,(oV 1 b9 a40),(oV 1 intI c6)]⟩) (fun _ _=>Z) ?_ ?_ ?_
  ·try dsimp only
   exact Sub.cut ⟨Z,Z,Z,Z,Z,Z,Y⟩ Z ⟨.dead,.dead,.dead,.dead,.vec,.vec,Y⟩ Z
  ·intro t7 c6 o hlot7 hltt7 h
   unfold D4 at h
   try dsimp only at h ⊢
   refine AWP.j (.q (.j ?_))
   obtain⟨a54,ha54,h⟩:=bind_some h
   refine AWP.G 1 Z (S.idx ha54 Z Z Z Z (.G 4 Z (.nil (b5 (.j ?_)))))
   obtain⟨a60,ha60,a62,ha62,h⟩:=b2 h
   refine AWP.G 3 Z (S.idx ha60 Z Z Z Z (.G 1 Z (.aa Z Z (.cons (.c (.own Z Z)) (.cons (.c .imm) (.cons (.c (.fn .nil)) .nil))) Z (y4 Z (fun hy=>q8 hy) ha62) Z ?_)))
   refine AOps.G 5 Z (.nil (b5 ?_))
   obtain⟨a67,ha67,a72,ha72,h⟩:=b2 h
   refine AWP.drawEI [8] mixed Z Z Z (b8.D 2 Z Z ?_)
   refine b8.consN Z Z (fun E=>S.idxO ha67 Z Z Z Z Z .N) Z (.consN Z Z (fun E=>S.loadO ha67 Z Z Z Z Z .N) Z ?_)
   refine b8.D 3 Z Z ?_
   refine b8.consN Z Z (fun E=>S.idxO ha72 Z Z Z Z Z .N) Z ?_
   apply b8.consE (v:=.undef);exact Z;exact Z;intro E
   refine S.storeO1 (f:=intI) (a':=w64 (a67+a54.weight)) (s7 ha72) (fun _=>⟨_,Z⟩) Z Z Z Z Z ?_
   exact AOps.nil ⟨Z,Z⟩
   exact Z
   exact Z
   refine b8.done Z ?_ ?_
   ·refine d8.D 2 Z Z ?_
    refine d8.cons Z Z (.go Z Z (fun E=>S.idxO ha67 Z Z Z Z Z .N) (.skip Z .nil)) (.cons Z Z (.go Z Z (fun E=>S.loadO ha67 Z Z Z Z Z .N) (.skip Z .nil)) ?_)
    refine d8.D 3 Z Z ?_
    refine d8.cons Z Z (.go Z Z (fun E=>S.idxO ha72 Z Z Z Z Z .N) (.skip Z .nil)) ?_
    refine d8.D 1 Z Z (d8.nil)
   dsimp only[g9]
   refine d7 (b5 (.U (.add Z Z Z (by omega) (.z Z Z (.nil ?_)))))
   obtain rfl:=oi h
   refine b5 (Sub.cut ⟨Z,Z,(x9 (by first|rfl|simp only[lS])),Z,Z,Z,Y⟩ Z ⟨.dead,.dead,.dead,.dead,.vec,.vec,Y⟩ Z)
  ·intro iz
   try dsimp only
   refine f9 (b5 (.gk 4 Z (.frzV (id:=4) (l:=a40) (env2:=[(6,.c (row 1 b9 a40)),(7,.c (.own 5 0 c6.length))]) (σ2:=[.dead,.dead,.dead,.dead,.dead,(oV 1 intI c6)]) Z Z (by exact⟨⟨_,Z,.inr ⟨_,Z,Z,Z⟩⟩,⟨_,Z,.inl ⟨Z,Z⟩⟩,Y⟩) Z (by exact⟨Y,Y,Y,Y,Y,FrzB.vec,Y⟩) (.frzV (id:=5) (l:=c6) (env2:=[(6,.c (row 1 b9 a40)),(7,(cR c6))]) (σ2:=[.dead,.dead,.dead,.dead,.dead,.dead]) Z Z (by exact⟨⟨_,Z,.inl ⟨Z,Z⟩⟩,⟨_,Z,.inr ⟨_,Z,Z,Z⟩⟩,Y⟩) Z (by exact⟨Y,Y,Y,Y,Y,Y,Y⟩) (.ret ?_)))))
   obtain rfl:=oi h
   exact Done.ret Z Z
theorem open_Reach_ok{ov:b7}{r:(LL)×Bool}(h:al5 ov=some r):e8 prog 80 [.agg (tO ov)] (.tup [.c (row 1 b9 r.1),(cB r.2)]):=by
 unfold e8
 refine FnOk.enter (rs:=[.t 2,.t 3]) func80 Z ntmps80 results80 Z ⟨Y,Y,Y⟩ (by kernel_rfl) Z ?_
 unfold al5 at h
 refine AWP.gk 3 Z (.j ?_)
 obtain⟨a15,ha15,h⟩:=bind_some h
 refine AWP.G 2 Z (S.fresh Z Z Z Z (A4 ha15) Z Z (.frzV (id:=1) (l:=a15) (env2:=[(1,(cP 0 0 0)),(15,(cR a15))]) (σ2:=[(oE 4 (tO ov)),.dead]) Z Z (by exact⟨⟨_,Z,.inl ⟨Z,Z⟩⟩,⟨_,Z,.inr ⟨_,Z,Z,Z⟩⟩,Y⟩) Z (by exact⟨⟨Z,.inl ⟨Z,Z⟩,.inl ⟨Z,Z⟩,.inl ⟨Z,Z⟩,.inl ⟨Z,Z⟩,Y⟩,Y,Y⟩) (S.lit (f:=b9) (l:=[a15]) (ess:=[[row 1 intI a15]]) Z Z Z Z Z Z Z ⟨⟨.inl Z,Y⟩,Y⟩ Z Z Z (.E Z Z (.nil (b5 (.j ?_)))))))
 obtain⟨a19,ha19,h⟩:=bind_some h
 refine AWP.U (W.makeMap Value.string vI Z Z Z (.z Z Z (.aa Z Z (.cons (.c (.own Z Z)) .nil) Z (an6 ha19) Z (W.insert (fk:=Value.string) (fv:=vI) (k:=a19) (a:=1) keyStr Z Z Z Z Z (.G 2 Z (.nil (b5 (.j (.gk 1 Z (.q ?_))))))))))
 obtain⟨oo,ho1,h⟩:=bind_some h
 refine AWP.loopS ho1 (fun(c2,c3,atv4)=>⟨[(1,(cP 0 0 0)),(4,.c (.own 2 0 c2.length)),(5,.c (.map 3)),(6,(cI atv4))],[(oE 4 (tO ov)),.dead,(oV 1 b9 c2),(oW Value.string vI c3)]⟩) (fun o e st=>match o with| .inl c5=>e=.exit 0∧Sub [] st ⟨[(4,.c (.own 2 0 c5.length))],[.dead,.dead,(oV 1 b9 c5)]⟩| .inr x=>e=.ret∧Done [.t 2,.t 3] (fun t _=>t=.tup [.c (row 1 b9 x.1),(cB x.2)]) .ret st) ?_ ?_ ?_
 ·try dsimp only
  exact Sub.en Z
 ·intro s o h
  obtain⟨c2,c3,atv4⟩:=s
  unfold an4 at h
  try dsimp only at h ⊢
  refine AWP.j (.gs 2 Z (S.lenO Z Z Z (fun hl23=>.ge 1 Z (.J Z h (fun hc6 h=> ?_) (fun hc6 h=> ?_)))))
  ·refine AWP.skip (b5 (.j (.q (.gs 2 Z (S.len Z Z (fun hl29=>.ge 1 Z (.q ?_)))))))
   obtain⟨oo,ho2,h⟩:=bind_some h
   refine AWP.rngH ho2 (fun t9 (c7,c8)=>⟨[(1,(cP 0 0 0)),(4,.c (.own 2 0 c7.length)),(5,.c (.map 3)),(6,(cI atv4)),(29,(cI (ov.operators.length:Int))),(30,(cI t9))],[(oE 4 (tO ov)),.dead,(oV 1 b9 c7),(oW Value.string vI c8)]⟩) (fun x e st=>e=.ret∧Done [.t 2,.t 3] (fun t _=>t=.tup [.c (row 1 b9 x.1),(cB x.2)]) .ret st) (fun _ _=>Z) ?_ ?_ ?_ ?_
   ·try dsimp only
    exact Sub.en Z
   ·intro t9 s o hlot9 hltt9 h
    obtain⟨c7,c8⟩:=s
    unfold an7 at h
    try dsimp only at h ⊢
    refine AWP.seqF (U4) o (fun(c10,c11)=>⟨[(1,(cP 0 0 0)),(4,.c (.own 2 0 c10.length)),(5,.c (.map 3)),(6,(cI atv4)),(29,(cI (ov.operators.length:Int))),(30,(cI t9))],[(oE 4 (tO ov)),.dead,(oV 1 b9 c10),(oW Value.string vI c11)]⟩) (fun x h=> ?_) ?_
    ·obtain⟨c10,c11⟩:=x
     unfold U4 at h
     try dsimp only at h ⊢
     refine AWP.U (.add Z Z Z (by omega) (.z Z Z (.nil ?_)))
     obtain rfl:=oi h
     refine b5 ⟨_,Z,?_⟩
     exact Sub.en Z
    ·refine AWP.q (.gk 2 Z (.j (.j ?_)))
     obtain⟨a36,ha36,a39,ha39,h⟩:=b2 h
     refine AWP.drawI mixed Z (d5.D 3 Z ?_)
     refine d5.consF Z (fun E=>S.idxO ha36 Z Z Z Z Z .N) Z (.consF Z (fun E=>S.loadO ha36 Z Z Z Z Z .N) Z ?_)
     refine d5.D 1 Z ?_
     refine d5.consF Z (fun E=>.u Z Z Z Z (T5 ha39) Z .N) Z ?_
     refine d5.D 1 Z (d5.done ?_)
     dsimp only[g9]
     refine b5 (.F Z h (fun hc12 h=> ?_) (fun hc12 h=> ?_))
     ·refine AWP.exit (h9 (f9 (b5 ⟨_,h,?_⟩)))
      exact Sub.en Z
     ·refine AWP.skip (b5 (.j ?_))
      obtain⟨a45,ha45,a48,ha48,h⟩:=b2 h
      refine AWP.drawI mixed Z (d5.D 3 Z ?_)
      refine d5.consF Z (fun E=>S.idxO ha45 Z Z Z Z Z .N) Z (.consF Z (fun E=>S.loadO ha45 Z Z Z Z Z .N) Z ?_)
      refine d5.D 1 Z ?_
      refine d5.consF Z (fun E=>.u Z Z Z Z (w7 ha48) Z .N) Z ?_
      refine d5.D 5 Z (d5.done ?_)
      dsimp only[g9]
      refine b5 (.gs 1 Z (S.len Z Z (fun hl52=>.ge 1 Z (.q ?_))))
      obtain⟨oo,ho4,h⟩:=bind_some h
      refine AWP.rngH ho4 (fun t15 (c13,c14)=>⟨[(1,(cP 0 0 0)),(4,.c (.own 2 0 c13.length)),(5,.c (.map 3)),(6,(cI atv4)),(29,(cI (ov.operators.length:Int))),(30,(cI t9)),(51,.c (row 1 b9 a48.1)),(52,(cI (a48.1.length:Int))),(53,(cI t15))],[(oE 4 (tO ov)),.dead,(oV 1 b9 c13),(oW Value.string vI c14)]⟩) (fun x e st=>e=.ret∧Done [.t 2,.t 3] (fun t _=>t=.tup [.c (row 1 b9 x.1),(cB x.2)]) .ret st) (fun _ _=>Z) ?_ ?_ ?_ ?_
      ·try dsimp only
       exact Sub.en Z
      ·intro t15 s o hlot15 hltt15 h
       obtain⟨c13,c14⟩:=s
       unfold an5 at h
       try dsimp only at h ⊢
       refine AWP.seqF (U7) o (fun(c16,c17)=>⟨[(1,(cP 0 0 0)),(4,.c (.own 2 0 c16.length)),(5,.c (.map 3)),(6,(cI atv4)),(29,(cI (ov.operators.length:Int))),(30,(cI t9)),(51,.c (row 1 b9 a48.1)),(52,(cI (a48.1.length:Int))),(53,(cI t15))],[(oE 4 (tO ov)),.dead,(oV 1 b9 c16),(oW Value.string vI c17)]⟩) (fun x h=> ?_) ?_
       ·obtain⟨c16,c17⟩:=x
        unfold U7 at h
        try dsimp only at h ⊢
        refine AWP.U (.add Z Z Z (by omega) (.z Z Z (.nil ?_)))
        obtain rfl:=oi h
        refine b5 ⟨_,Z,?_⟩
        exact Sub.en Z
       ·refine AWP.q (.j ?_)
        obtain⟨a55,ha55,h⟩:=bind_some h
        refine AWP.U (S.idx ha55 Z Z Z Z (.G 2 Z (.nil (b5 (.j ?_)))))
        obtain⟨a59,ha59,h⟩:=bind_some h
        refine AWP.G 1 Z (S.lit (f:=b9) (l:=[a55]) (ess:=[[row 1 intI a55]]) Z Z Z Z Z Z Z ⟨⟨.inl Z,Y⟩,Y⟩ Z Z Z (.aa Z Z (.cons (.c (.own Z Z)) .nil) Z (an6 ha59) Z (.E Z Z (.nil (b5 (.j (.gs 2 Z (W.lookup (fk:=Value.string) (fv:=vI) (k:=a59) (z:=0) keyStr Z (fun _=>Z) Z Z Z Z ?_))))))))
        refine AOps.ge 1 Z (.J Z h (fun hc18 h=> ?_) (fun hc18 h=> ?_))
        ·refine AWP.exit (h9 (f9 (b5 ⟨_,h,?_⟩)))
         exact Sub.cut ⟨Z,Z,Z,Z,Z,Z,Z,Z,Z,Y⟩ Z ⟨.one Z,.dead,.vec,.one Z,Y⟩ Z
        ·refine AWP.skip (b5 (.j (.gs 1 Z (S.lenO Z Z Z (fun hl65=>.ge 1 Z (.J Z h (fun hc19 h=> ?_) (fun hc19 h=> ?_)))))))
         ·refine AWP.gk 2 Z (.nilrow 1 2 Z (.ret (e7 (g7 (e7 ?_)))))
          obtain rfl:=oi h
          refine e7 ⟨_,Z,Z,?_⟩
          exact Done.ret Z Z
         ·refine AWP.skip (b5 (.gs 2 Z (W.mapUpdate (fk:=Value.string) (fv:=vI) (k:=a59) (a:=1) keyStr Z Z Z Z Z (.ne ?_))))
          obtain⟨a72,ha72,h⟩:=bind_some h
          refine AWP.G 2 Z (S.lit (f:=b9) (l:=[a55]) (ess:=[[row 1 intI a55]]) Z Z Z Z Z Z Z ⟨⟨.inl Z,Y⟩,Y⟩ Z Z Z (S.append (f:=b9) ha72 Z Z Z Z Z Z (.own Z Z) Z Z Z Z (.E Z Z (.nil (d7 (b5 ⟨_,h,?_⟩))))))
          exact(Sub.move (env':=[(1,(cP 0 0 0)),(4,.c (.own 2 0 a72.length)),(5,.c (.map 3)),(6,(cI atv4)),(29,(cI (ov.operators.length:Int))),(30,(cI t9)),(51,.c (row 1 b9 a48.1)),(52,(cI (a48.1.length:Int))),(53,(cI t15))]) (σ':=[(oE 4 (tO ov)),.dead,(oV 1 b9 a72),(oW Value.string vI (mset c14 a59 1)),(oV 1 b9 [a55]),(oV 1 b9 [a55])]) 2 6 Z Z Z ⟨Z,Z,Z,Z,Z,Z,Z,Z,Z,Y⟩ Z ⟨⟨Z,Z⟩,Y,⟨Blk.im_ok _ _ _,i6 Z⟩,⟨Z,Z⟩,⟨Blk.im_ok _ _ _,i6 Z⟩,⟨Blk.im_ok _ _ _,i6 Z⟩,Y⟩).trans (Sub.cut ⟨Z,Z,Z,Z,Z,Z,Z,Z,Z,Y⟩ Z ⟨.one Z,.dead,.vec,.one Z,Y⟩ Z)
      ·intro iz s he
       obtain⟨c13,c14⟩:=s
       subst he
       try dsimp only at h ⊢
       refine f9 (d7 (b5 ⟨_,h,?_⟩))
       exact Sub.en Z
      ·intro x e st he hq
       subst he
       try dsimp only at h hq
       obtain⟨rfl,hs⟩:=hq
       refine⟨_,Sub.refl _ _,?_⟩
       refine g7 (g7 (e7 ?_))
       obtain rfl:=oi h
       refine e7 ⟨_,Z,Z,?_⟩
       exact hs
   ·intro iz s he
    obtain⟨c7,c8⟩:=s
    subst he
    try dsimp only at h ⊢
    refine f9 (d7 (b5 (.G 3 Z (.nil ?_))))
    obtain rfl:=oi h
    refine b5 ⟨_,Z,?_⟩
    exact Sub.en Z
   ·intro x e st he hq
    subst he
    try dsimp only at h hq
    obtain⟨rfl,hs⟩:=hq
    refine⟨_,Sub.refl _ _,?_⟩
    refine g7 (g7 (e7 ?_))
    obtain rfl:=oi h
    refine e7 ⟨_,Z,Z,?_⟩
    exact hs
  ·refine AWP.exit (h9 ?_)
   obtain rfl:=oi h
   refine h9 ⟨_,Z,Z,?_⟩
   exact Sub.cut ⟨Z,Y⟩ Z ⟨.dead,.dead,.vec,Y⟩ Z
 ·intro e s hq
  rcases oo with c5|x
  ·try dsimp only at h hq
   obtain⟨rfl,hs⟩:=hq
   refine⟨_,hs,?_⟩
   refine f9 (b5 (.j ?_))
   obtain⟨a76,ha76,h⟩:=bind_some h
   refine AWP.G 1 Z (.callF (r2:=.c (.own 4 0 a76.length)) (σ'':=[.dead,.dead,.dead,.dead,(oV 1 b9 a76)]) Z Z Z (FnOk.lend [2] (R4 ha76) Z Z Z Z Z Z (by exact⟨.vec,Y⟩) Z (by exact⟨(.live Z .vec),Y⟩) Z Z (by exact⟨.dead,.dead,.dead,.dead,(.new 2 Z Z .vec),Y⟩)) (.G 2 Z (.nil (b5 (.frzV (id:=4) (l:=a76) (env2:=[(2,.c (row 1 b9 a76)),(3,(cB true))]) (σ2:=[.dead,.dead,.dead,.dead,.dead]) Z Z (by exact⟨⟨_,Z,.inr ⟨_,Z,Z,Z⟩⟩,⟨_,Z,.inl ⟨Z,Z⟩⟩,Y⟩) Z (by exact⟨Y,Y,Y,Y,Y,Y⟩) (.ret ?_))))))
   obtain rfl:=oi h
   exact Done.ret Z Z
  ·try dsimp only at h hq
   obtain⟨rfl,hs⟩:=hq
   refine⟨_,Sub.refl _ _,?_⟩
   refine g7 (e7 ?_)
   obtain rfl:=oi h
   exact hs
theorem ai9{ov:b7}{r:(LL)×i7}(h:X4 ov=some r):e8 prog 33 [.agg (tO ov)] (.tup [.c (row 1 b9 r.1),.agg [int r.2.code,int r.2.index]]):=by
 unfold e8
 refine FnOk.enter (rs:=[.t 2,.cell 3 30 2]) func33 Z ntmps33 results33 Z ⟨Y,rv _ Z,Y⟩ (by kernel_rfl) Z ?_
 unfold X4 at h
 refine AWP.gk 3 Z (.j (.j ?_))
 obtain⟨a8,ha8,h⟩:=bind_some h
 refine AWP.G 1 Z (.u Z Z Z Z (ag0 ha8) Z (.G 2 Z (.nil (b5 (.gs 2 Z (.neqP Z Z Z Z Z Z Z (.ne (.F Z h (fun hc2 h=> ?_) (fun hc2 h=> ?_)))))))))
 ·refine AWP.j (.drawEI [2] mixed Z Z Z (b8.D 2 Z Z ?_))
  apply b8.consE (v:=.undef);exact Z;exact Z;intro E
  refine W.storeAgg Z Z Z Z Z Z Z .N
  exact Z
  exact Z
  refine b8.done Z ?_ ?_
  ·refine d8.D 3 Z Z (d8.nil)
  dsimp only[g9]
  refine b5 (.nilrow 1 2 Z (.ret (e7 ?_)))
  obtain rfl:=oi h
  exact Done.ret Z Z
 ·refine AWP.skip (b5 (.j ?_))
  obtain⟨a15,ha15,h⟩:=bind_some h
  refine AWP.G 1 Z (.u Z Z Z Z (open_Reach_ok ha15) Z (.G 5 Z (.nil (b5 (.j (.gk 2 Z (.F Z h (fun hc3 h=> ?_) (fun hc3 h=> ?_))))))))
  ·refine AWP.gk 3 Z (.nilrow 1 2 Z (.ret (e7 ?_)))
   obtain rfl:=oi h
   exact Done.ret Z Z
  ·refine AWP.skip (b5 (.gk 4 Z (.ret ?_)))
   obtain rfl:=oi h
   exact Done.ret Z Z
theorem F4{sv:List e9}{fv:e9→Option Bool}{r:Int}{fvfv:FuncId}{cvfv:List C}(hcvfv:C.okL 0 cvfv=true)(hfv:∀{y1:e9} {z:Bool},fv y1=some z→e8 prog fvfv ([.agg [row 1 intI y1.pre,row 3 s8 y1.outcomes,int y1.cost]]++cvfv.map T.c) ((cB z)))(h:q6 sv fv=some r):e8 prog 81 [.c (row 3 d6 sv),.c (.fn fvfv cvfv)] ((cI r)):=by
 unfold e8
 refine FnOk.enter (rs:=[.t 4]) func81 Z ntmps81 results81 Z ⟨Y,Y⟩ (by kernel_rfl) Z ?_
 unfold q6 at h
 refine AWP.gk 1 Z (.j (.gs 1 Z (S.len Z Z (fun hl7=>.ge 1 Z (.q ?_)))))
 obtain⟨oo,ho1,h⟩:=bind_some h
 refine AWP.rngH ho1 (fun t3 _=>⟨[(0,.c (row 3 d6 sv)),(1,.c (.fn fvfv cvfv)),(7,(cI (sv.length:Int))),(8,(cI t3))],[]⟩) (fun x e st=>e=.ret∧Done [.t 4] (fun t _=>t=(cI x)) .ret st) (fun _ _=>Z) ?_ ?_ ?_ ?_
 ·try dsimp only
  exact Sub.en Z
 ·intro t3 s o hlot3 hltt3 h
  unfold x5 at h
  try dsimp only at h ⊢
  refine AWP.j (.q (.gk 2 Z (.j ?_)))
  obtain⟨a14,ha14,a16,ha16,h⟩:=b2 h
  refine AWP.G 3 Z (S.idx ha14 Z Z Z Z (.G 1 Z (.u Z Z (W6 Z hcvfv) Z (hfv ha16) Z (.nil (b5 (.F Z h (fun hc4 h=> ?_) (fun hc4 h=> ?_)))))))
  ·refine AWP.gk 2 Z (.ret (g7 (e7 ?_)))
   obtain rfl:=oi h
   refine e7 ⟨_,Z,Z,?_⟩
   exact Done.ret Z Z
  ·refine AWP.skip (d7 (b5 (.U (.add Z Z Z (by omega) (.z Z Z (.nil ?_))))))
   obtain rfl:=oi h
   refine b5 ⟨_,Z,?_⟩
   exact Sub.en Z
 ·intro iz _ he
  subst he
  try dsimp only at h ⊢
  refine f9 (b5 (.gk 1 Z (.ret ?_)))
  obtain rfl:=oi h
  exact Done.ret Z Z
 ·intro x e st he hq
  subst he
  try dsimp only at h hq
  obtain⟨rfl,hs⟩:=hq
  refine⟨_,Sub.refl _ _,?_⟩
  refine g7 (e7 ?_)
  obtain rfl:=oi h
  exact hs
theorem E7{sv:List e9}{fv:e9→Option Bool}{r:Bool}{fvfv:FuncId}{cvfv:List C}(hcvfv:C.okL 0 cvfv=true)(hfv:∀{y1:e9} {z:Bool},fv y1=some z→e8 prog fvfv ([.agg [row 1 intI y1.pre,row 3 s8 y1.outcomes,int y1.cost]]++cvfv.map T.c) ((cB z)))(h:p7 sv fv=some r):e8 prog 34 [.c (row 3 d6 sv),.c (.fn fvfv cvfv)] ((cB r)):=by
 unfold e8
 refine FnOk.enter (rs:=[.t 4]) func34 Z ntmps34 results34 Z ⟨Y,Y⟩ (by kernel_rfl) Z ?_
 unfold p7 at h
 refine AWP.gk 1 Z (.j ?_)
 obtain⟨a7,ha7,h⟩:=bind_some h
 refine AWP.G 2 Z (.u Z Z (by simp[T.okL,T.ok,C.ok,C.okL,hcvfv]) Z (F4 hcvfv hfv ha7) Z (.G 2 Z (.nil (b5 (.ret ?_)))))
 obtain rfl:=oi h
 exact Done.ret Z Z
theorem aq6{xv:e9}{r:Bool}(h:ac4 xv=some r):e8 prog 35 [.agg [row 1 intI xv.pre,row 3 s8 xv.outcomes,int xv.cost]] ((cB r)):=by
 unfold e8
 refine FnOk.enter (rs:=[.t 2]) func35 Z ntmps35 results35 Z ⟨Y,Y⟩ (by kernel_rfl) Z ?_
 unfold ac4 at h
 refine AWP.gk 2 Z (.gk 4 Z (.ret ?_))
 obtain rfl:=oi h
 exact Done.ret Z Z
theorem m6{all:LL}{sv:Li}{r:Int}(h:w9 all sv=some r):e8 prog 40 [.c (row 1 b9 all),(cR sv)] ((cI r)):=by
 unfold e8
 refine FnOk.enter (rs:=[.t 4]) func40 Z ntmps40 results40 Z ⟨Y,Y⟩ (by kernel_rfl) Z ?_
 unfold w9 at h
 refine AWP.gk 1 Z (.j ?_)
 obtain⟨a10,ha10,h⟩:=bind_some h
 refine AWP.G 2 Z (.u Z Z Z Z (y4 Z (fun hy=>q8 hy) ha10) Z ?_)
 refine AOps.G 5 Z (.nil (b5 (.gk 2 Z (.ret ?_))))
 obtain rfl:=oi h
 exact Done.ret Z Z
theorem cyclic_arcs_ok{ov:b7}{all:LL}{r:(List (LL))}(h:aj7 ov all=some r):m8 prog 82 [.agg (tO ov),.c (row 1 b9 all)] 1 (List.map B3 r):=by
 unfold m8
 refine FnOk.enter (rs:=[.t 4]) func82 Z ntmps82 results82 Z ⟨Y,Y⟩ (by kernel_rfl) Z ?_
 unfold aj7 at h
 refine AWP.gk 2 Z (.j ?_)
 obtain⟨a15,ha15,h⟩:=bind_some h
 refine AWP.G 1 Z (S.len Z Z (fun hl14=>S.make (f:=B3) ha15 (.row .nil) Z Z Z Z Z Z (.E Z Z (.nil (b5 (.j (.gs 1 Z (S.len Z Z (fun hl17=>.ge 1 Z (.q ?_))))))))))
 obtain⟨c3,ho1,h⟩:=bind_some h
 refine AWP.forH ho1 (fun t4 c3=>⟨[(1,.c (row 1 b9 all)),(2,(cP 0 0 0)),(5,.c (.own 1 0 c3.length)),(16,.c (row 1 b9 all)),(17,(cI (all.length:Int))),(18,(cI t4))],[(oE 4 (tO ov)),(oV 1 B3 c3)]⟩) (fun _ _=>Z) ?_ ?_ ?_
 ·try dsimp only
  exact Sub.en Z
 ·intro t4 c3 o hlot4 hltt4 h
  unfold ak8 at h
  try dsimp only at h ⊢
  refine AWP.j (.q (.j ?_))
  obtain⟨a21,ha21,h⟩:=bind_some h
  refine AWP.G 1 Z (S.idx ha21 Z Z Z Z (.G 3 Z (.nil (b5 (.j ?_)))))
  obtain⟨a28,ha28,a29,ha29,h⟩:=b2 h
  refine AWP.G 4 Z (S.len Z Z (fun hl27=>S.makeM 1 intI ha28 Z Z Z Z Z (S.idxO ha29 Z Z Z Z Z (S.storeS (f:=B3) (s7 ha29) (fun _=>⟨_,Z⟩) Z Z Z Z ?_))))
  refine AOps.nil (b5 (.gs 2 Z (S.len Z Z (fun hl32=>.ge 1 Z (.q ?_)))))
  obtain⟨c5,ho2,h⟩:=bind_some h
  refine AWP.forH ho2 (fun t6 c5=>⟨[(1,.c (row 1 b9 all)),(2,(cP 0 0 0)),(5,.c (.own 1 0 c3.length)),(6,(cI t4)),(7,(cR a21)),(16,.c (row 1 b9 all)),(17,(cI (all.length:Int))),(18,(cI t4)),(32,(cI (ov.operators.length:Int))),(33,(cI t6))],[(oE 4 (tO ov)),.one (vecS B3 c3 t4.toNat 2 c5.length),mat (2,[]) 1 intI c5]⟩) (fun _ _=>Z) ?_ ?_ ?_
  ·try dsimp only
   exact Sub.en Z
  ·intro t6 c5 o hlot6 hltt6 h
   unfold ak3 at h
   try dsimp only at h ⊢
   obtain⟨c7,hx8,h⟩:=bind_some h
   refine AWP.seqJ (⟨[(1,.c (row 1 b9 all)),(2,(cP 0 0 0)),(5,.c (.own 1 0 c3.length)),(6,(cI t4)),(7,(cR a21)),(16,.c (row 1 b9 all)),(17,(cI (all.length:Int))),(18,(cI t4)),(32,(cI (ov.operators.length:Int))),(33,(cI t6))],[(oE 4 (tO ov)),.one (vecS B3 c3 t4.toNat 2 c7.length),mat (2,[]) 1 intI c7]⟩) ?_ ?_
   ·refine AWP.q (.gk 2 Z (.j (.j ?_)))
    obtain⟨a39,ha39,hx8⟩:=bind_some hx8
    refine AWP.G 3 Z (.u Z Z Z Z (T5 ha39) Z (.not Z Z (.nil (b5 (.F Z hx8 (fun hc9 hx8=> ?_) (fun hc9 hx8=> ?_))))))
    ·refine AWP.exit (h9 (f9 ?_))
     obtain rfl:=oi hx8
     refine b5 (Sub.en Z)
    ·refine AWP.skip (b5 (.j ?_))
     obtain⟨a45,ha45,hx8⟩:=bind_some hx8
     refine AWP.G 3 Z (.u Z Z Z Z (w7 ha45) Z (.G 5 Z (.nil (b5 (.gs 1 Z (S.len Z Z (fun hl49=>.ge 1 Z (.q ?_))))))))
     obtain⟨c10,ho3,hx8⟩:=bind_some hx8
     refine AWP.forH ho3 (fun t11 c10=>⟨[(1,.c (row 1 b9 all)),(2,(cP 0 0 0)),(5,.c (.own 1 0 c3.length)),(6,(cI t4)),(7,(cR a21)),(8,(cI t6)),(16,.c (row 1 b9 all)),(17,(cI (all.length:Int))),(18,(cI t4)),(32,(cI (ov.operators.length:Int))),(33,(cI t6)),(48,.c (row 1 b9 a45.1)),(49,(cI (a45.1.length:Int))),(50,(cI t11))],[(oE 4 (tO ov)),.one (vecS B3 c3 t4.toNat 2 c10.length),mat (2,[]) 1 intI c10]⟩) (fun _ _=>Z) ?_ ?_ ?_
     ·try dsimp only
      exact Sub.en Z
     ·intro t11 c10 o hlot11 hltt11 h
      unfold ak5 at h
      try dsimp only at h ⊢
      refine AWP.j (.q (.j ?_))
      obtain⟨a52,ha52,h⟩:=bind_some h
      refine AWP.U (S.idx ha52 Z Z Z Z (.G 2 Z (.nil (b5 ?_))))
      obtain⟨a64,ha64,a68,ha68,a70,ha70,h⟩:=b3 h
      obtain⟨a71,ha71,h⟩:=bind_some h
      refine AWP.drawEI [15,16,18] mixed Z Z Z (b8.D 2 Z Z ?_)
      refine b8.consN Z Z (fun E=>S.idxS (s7 ha29) (ix_pos ha29) Z Z Z Z Z .N) Z (.consN Z Z (fun E=>S.loadS Z (s7 ha29) Z Z Z .N) Z ?_)
      refine b8.D 3 Z Z ?_
      refine b8.consN Z Z (fun E=>S.idxS (s7 ha29) (ix_pos ha29) Z Z Z Z Z .N) Z (.consN Z Z (fun E=>S.loadS Z (s7 ha29) Z Z Z .N) Z ?_)
      refine b8.D 1 Z Z ?_
      refine b8.consN Z Z (fun E=>S.idxH ha64 Z Z Z (by simp) Z Z .N) Z (.consN Z Z (fun E=>S.loadM ha64 Z Z Z Z .N) Z ?_)
      refine b8.D 2 Z Z ?_
      refine b8.consN Z Z (fun E=>.u Z Z Z Z (m6 ha68) Z .N) Z ?_
      apply b8.consE;exact Z;exact Z;intro E
      refine S.lit (f:=intI) (l:=[a68]) (ess:=[[int a68]]) Z Z Z Z Z Z Z ⟨⟨.inl Z,Y⟩,Y⟩ Z Z Z .N
      exact Z
      exact Z
      apply b8.consE;exact Z;exact Z;intro E
      refine S.appendR (f:=intI) ha70 (I4 ha64).2 Z Z Z Z Z Z (.own Z Z) Z Z Z Z .N
      exact Z
      exact Z
      refine b8.consN Z Z (fun E=>S.idxH ha71 Z Z Z (by simp) Z Z .N) Z ?_
      apply b8.consE (v:=.undef);exact Z;exact Z;intro E
      refine S.storeHD (I4 ha71).2 Z Z Z Z .N
      exact Z
      exact Z
      refine b8.done Z ?_ ?_
      ·refine d8.D 2 Z Z ?_
       refine d8.cons Z Z (.go Z Z (fun E=>S.idxS (s7 ha29) (ix_pos ha29) Z Z Z Z Z .N) (.go Z Z (fun E=>S.idxS (s7 ha29) (ix_pos ha29) Z Z Z Z Z .N) (.go Z Z (fun E=>S.idxS (s7 ha29) (ix_pos ha29) Z Z Z Z Z .N) (.skip Z .nil)))) (.cons Z Z (.go Z Z (fun E=>S.loadS Z (s7 ha29) Z Z Z .N) (.go Z Z (fun E=>S.loadS Z (s7 ha29) Z Z Z .N) (.go Z Z (fun E=>S.loadS Z (s7 ha29) Z Z Z .N) (.skip Z .nil)))) ?_)
       refine d8.D 3 Z Z ?_
       refine d8.cons Z Z (.go Z Z (fun E=>S.idxS (s7 ha29) (ix_pos ha29) Z Z Z Z Z .N) (.go Z Z (fun E=>S.idxS (s7 ha29) (ix_pos ha29) Z Z Z Z Z .N) (.skip Z (.skip Z .nil)))) (.cons Z Z (.go Z Z (fun E=>S.loadS Z (s7 ha29) Z Z Z .N) (.go Z Z (fun E=>S.loadS Z (s7 ha29) Z Z Z .N) (.skip Z (.skip Z .nil)))) ?_)
       refine d8.D 1 Z Z ?_
       refine d8.cons Z Z (.go Z Z (fun E=>S.idxH ha64 Z Z Z (by simp) Z Z .N) (.go Z Z (fun E=>S.idxH ha64 Z Z Z (by simp) Z Z .N) (.skip Z (.skip Z .nil)))) (.cons Z Z (.go Z Z (fun E=>S.loadM ha64 Z Z Z Z .N) (.go Z Z (fun E=>S.loadM ha64 Z Z Z Z .N) (.skip Z (.skip Z .nil)))) ?_)
       refine d8.D 2 Z Z ?_
       refine d8.cons Z Z (.go Z Z (fun E=>.u Z Z Z Z (m6 ha68) Z .N) (.skip Z (.skip Z (.skip Z .nil)))) ?_
       refine d8.D 2 Z Z ?_
       refine d8.cons Z Z ?_ ?_
       refine g8.skip Z (g8.skip Z ?_)
       refine g8.go Z Z (fun E=>S.idxH ha71 Z Z Z (by simp) Z Z .N) ?_
       refine g8.skip Z (g8.nil)
       refine d8.D 1 Z Z (d8.nil)
      dsimp only[g9]
      refine d7 (b5 (.moveR (k:=1) (f:=intI) (M:=c10) (env':=[(1,.c (row 1 b9 all)),(2,(cP 0 0 0)),(5,.c (.own 1 0 c3.length)),(6,(cI t4)),(7,(cR a21)),(8,(cI t6)),(16,.c (row 1 b9 all)),(17,(cI (all.length:Int))),(18,(cI t4)),(32,(cI (ov.operators.length:Int))),(33,(cI t6)),(48,.c (row 1 b9 a45.1)),(49,(cI (a45.1.length:Int))),(50,(cI t11))]) (σ':=[(oE 4 (tO ov)),.one (vecS B3 c3 t4.toNat 2 c10.length),mat (2,[]) 1 intI (c10.set t6.toNat a70),(oV 1 intI [a68])]) (r:=2) (s:=4) (p:=t6.toNat) (matSD_at Z) (I4 ha71).2 Z Z Z Z Z (.inl Z) ⟨.one Z Z,.one (vs_ok Z) (vs_rl _),.self,.vec,Y⟩ ⟨Z,Z,Z,Z,Z,Z,Z,Z,Z,Z,Z,Z,Z,Z,Y⟩ Z Z (.U (.add Z Z Z (by omega) (.z Z Z (.nil ?_))))))
      obtain rfl:=oi h
      refine b5 (Sub.cut ⟨Z,Z,Z,Z,Z,Z,Z,Z,Z,Z,Z,Z,Z,Z,Y⟩ Z ⟨.one Z,(.eq (vs_ok Z) (by first|rfl|simp only[lS])),.mat Z,Y⟩ Z)
     ·intro iz
      try dsimp only
      refine f9 (d7 ?_)
      obtain rfl:=oi hx8
      refine b5 (Sub.en Z)
   ·refine AWP.U (.add Z Z Z (by omega) (.z Z Z (.nil ?_)))
    obtain rfl:=oi h
    refine b5 (Sub.en Z)
  ·intro iz
   try dsimp only
   refine f9 (d7 (b5 (.U (.add Z Z Z (by omega) (.z Z Z (.nil ?_))))))
   obtain rfl:=oi h
   refine b5 ((Sub.matV' (k:=1) (f:=intI) (env':=[(1,.c (row 1 b9 all)),(2,(cP 0 0 0)),(5,.c (.own 1 0 c3.length)),(16,.c (row 1 b9 all)),(17,(cI (all.length:Int))),(18,(cI (t4+1)))]) (σ':=[(oE 4 (tO ov)),.one (vecS B3 c3 t4.toNat 2 c5.length),(oV 1 b9 c5)]) 2 Z ⟨Z,Z,Z,Z,Z,Z,Y⟩ Z (by exact⟨.one (fun _=>Z),.one (fun _=>vs_rl _),.self,Y⟩) Z Z).trans ((Sub.frzW (id:=2) (M:=c5) (env2:=[(1,.c (row 1 b9 all)),(2,(cP 0 0 0)),(5,.c (.own 1 0 c3.length)),(16,.c (row 1 b9 all)),(17,(cI (all.length:Int))),(18,(cI (t4+1)))]) (σ2:=[(oE 4 (tO ov)),(oV 1 B3 (c3.set t4.toNat c5)),.dead]) Z Z (by exact⟨⟨_,Z,.inl ⟨Z,Z⟩⟩,⟨_,Z,.inl ⟨Z,Z⟩⟩,⟨_,Z,.inl ⟨Z,Z⟩⟩,⟨_,Z,.inl ⟨Z,Z⟩⟩,⟨_,Z,.inl ⟨Z,Z⟩⟩,⟨_,Z,.inl ⟨Z,Z⟩⟩,Y⟩) Z (by exact⟨.old ⟨Z,.inl ⟨Z,Z⟩,.inl ⟨Z,Z⟩,.inl ⟨Z,Z⟩,.inl ⟨Z,Z⟩,Y⟩,(.vs (vs_frz Z Z)),.old (Y),Y⟩)).trans (Sub.cut ⟨Z,Z,(x9 (by first|rfl|simp only[lS])),Z,Z,Z,Y⟩ Z ⟨.one Z,.vec,Y⟩ Z)))
 ·intro iz
  try dsimp only
  refine f9 (b5 (.gk 2 Z (.ret ?_)))
  obtain rfl:=oi h
  exact Done.ret Z (Fresh.mk Z Z)
theorem ao7{iv:Int}{c2:Li}{r:Bool}(h:X1 iv c2=some r):e8 prog 144 [(cI iv),.c (.imm (.ipt [.sl 1 (List.map intI c2)]))] ((cB r)):=by
 unfold e8
 refine FnOk.enter (rs:=[.t 3]) func144 Z ntmps144 results144 Z ⟨Y,Y⟩ (by kernel_rfl) Z ?_
 unfold X1 at h
 refine AWP.gk 1 Z (.j ?_)
 obtain⟨a6,ha6,h⟩:=bind_some h
 refine AWP.G 2 Z (S.idx ha6 Z Z Z Z (.G 3 Z (.nil (b5 (.ret ?_)))))
 obtain rfl:=oi h
 exact Done.ret Z Z
theorem ag4{l:Li}{safe:Li}{r:Bool}(h:ac6 l safe=some r):e8 prog 122 [(cR l),(cR safe)] ((cB r)):=by
 unfold e8
 refine FnOk.enter (rs:=[.t 4]) func122 Z ntmps122 results122 Z ⟨Y,Y⟩ (by kernel_rfl) Z ?_
 unfold ac6 at h
 refine AWP.gk 2 Z ?_
 obtain⟨t3,hx4,h⟩:=bind_some h
 refine AWP.seqJ (⟨[(4,(cB t3))],[]⟩) ?_ ?_
 ·rcases bft (decide (0<(l.length:Int))) with hb5|hb5
  ·replace hx4:=M0 hb5 hx4
   obtain⟨a11,ha11,hx4⟩:=bind_some hx4
   refine AWP.G 1 Z (S.len Z Z (fun hl6=>.G 2 Z (.K Z Z hb5 (.G 1 Z (.O Z Z Z Z (.ab Z Z ?_))))))
   refine AOps.O Z Z Z Z ?_;refine AOps.aa Z Z (.cons (.c .imm) (.cons (.c (.fn (.cons (.ptr (es:=[.sl 1 (List.map intI safe)]) Z Z (.cons .imm .nil)) .nil))) .nil)) Z (D2 Z (fun hy=>ao7 hy) ha11) Z ?_
   refine AOps.G 3 Z (.nil ?_)
   obtain rfl:=oi hx4
   refine b5 (Sub.cut ⟨Z,Y⟩ Z Y Z)
  ·replace hx4:=K5 hb5 hx4
   refine AWP.G 1 Z (S.len Z Z (fun hl6=>.G 2 Z (.K Z Z hb5 (.G 6 Z (.nil ?_)))))
   obtain rfl:=oi hx4
   refine b5 (Sub.cut ⟨Z,Y⟩ Z Y Z)
 ·refine AWP.ret ?_
  obtain rfl:=oi h
  exact Done.ret Z Z
theorem ak4{kv:Int}{c2:Li}{c3:Int}{r:Bool}(h:R3 kv c2 c3=some r):e8 prog 124 [(cI kv),.c (.imm (.ipt [.sl 1 (List.map intI c2)])),.c (.imm (.ipt [.val (.int .i64 c3)]))] ((cB r)):=by
 unfold e8
 refine FnOk.enter (rs:=[.t 4]) func124 Z ntmps124 results124 Z ⟨Y,Y⟩ (by kernel_rfl) Z ?_
 unfold R3 at h
 refine AWP.gk 1 Z (.j ?_)
 obtain⟨a7,ha7,h⟩:=bind_some h
 refine AWP.drawI mixed Z (d5.D 2 Z ?_)
 refine d5.consF Z (fun E=>S.idx ha7 Z Z Z Z .N) Z ?_
 refine d5.D 5 Z (d5.done ?_)
 dsimp only[g9]
 refine b5 (.ret ?_)
 obtain rfl:=oi h
 exact Done.ret Z Z
theorem ao3{l:Li}{c2:Li}{c3:Li}{c4:Int}{r:Bool}(h:U8 l c2 c3 c4=some r):e8 prog 121 [(cR l),.c (.imm (.ipt [.sl 1 (List.map intI c2)])),.c (.imm (.ipt [.sl 1 (List.map intI c3)])),.c (.imm (.ipt [.val (.int .i64 c4)]))] ((cB r)):=by
 unfold e8
 refine FnOk.enter (rs:=[.t 5]) func121 Z ntmps121 results121 Z ⟨Y,Y⟩ (by kernel_rfl) Z ?_
 unfold U8 at h
 refine AWP.gk 1 Z ?_
 obtain⟨t2,hx3,h⟩:=bind_some h
 refine AWP.seqJ (⟨[(5,(cB t2))],[]⟩) ?_ ?_
 ·obtain⟨a8,ha8,hx3⟩:=bind_some hx3
  rcases bft (a8) with hb4|hb4
  ·replace hx3:=J2 hb4 hx3
   obtain⟨a12,ha12,hx3⟩:=bind_some hx3
   refine AWP.G 2 Z (.u Z Z Z Z (ag4 ha8) Z (.z Z Z (.K Z Z hb4 (.G 1 Z (.O Z Z Z Z (.ab Z Z ?_))))))
   refine AOps.O Z Z Z Z ?_;refine AOps.u Z Z Z Z (D2 Z (fun hy=>ak4 hy) ha12) Z ?_
   refine AOps.G 2 Z (.nil ?_)
   obtain rfl:=oi hx3
   refine b5 (Sub.en Z)
  ·replace hx3:=J4 hb4 hx3
   refine AWP.G 2 Z (.u Z Z Z Z (ag4 ha8) Z (.z Z Z (.K Z Z hb4 (.G 5 Z (.nil ?_)))))
   obtain rfl:=oi hx3
   refine b5 (Sub.en Z)
 ·refine AWP.ret ?_
  obtain rfl:=oi h
  exact Done.ret Z Z
theorem H3{sv:LL}{fv:Li→Option Bool}{r:Int}{fvfv:FuncId}{cvfv:List C}(hcvfv:C.okL 0 cvfv=true)(hfv:∀{y1:Li} {z:Bool},fv y1=some z→e8 prog fvfv ([(cR y1)]++cvfv.map T.c) ((cB z)))(h:r9 sv fv=some r):e8 prog 85 [.c (row 1 b9 sv),.c (.fn fvfv cvfv)] ((cI r)):=by
 unfold e8
 refine FnOk.enter (rs:=[.t 4]) func85 Z ntmps85 results85 Z ⟨Y,Y⟩ (by kernel_rfl) Z ?_
 unfold r9 at h
 refine AWP.gk 1 Z (.j (.gs 1 Z (S.len Z Z (fun hl7=>.ge 1 Z (.q ?_)))))
 obtain⟨oo,ho1,h⟩:=bind_some h
 refine AWP.rngH ho1 (fun t3 _=>⟨[(0,.c (row 1 b9 sv)),(1,.c (.fn fvfv cvfv)),(7,(cI (sv.length:Int))),(8,(cI t3))],[]⟩) (fun x e st=>e=.ret∧Done [.t 4] (fun t _=>t=(cI x)) .ret st) (fun _ _=>Z) ?_ ?_ ?_ ?_
 ·try dsimp only
  exact Sub.en Z
 ·intro t3 s o hlot3 hltt3 h
  unfold v6 at h
  try dsimp only at h ⊢
  refine AWP.j (.q (.gk 2 Z (.j ?_)))
  obtain⟨a14,ha14,a16,ha16,h⟩:=b2 h
  refine AWP.G 3 Z (S.idx ha14 Z Z Z Z (.G 1 Z (.u Z Z (W6 Z hcvfv) Z (hfv ha16) Z (.nil (b5 (.F Z h (fun hc4 h=> ?_) (fun hc4 h=> ?_)))))))
  ·refine AWP.gk 2 Z (.ret (g7 (e7 ?_)))
   obtain rfl:=oi h
   refine e7 ⟨_,Z,Z,?_⟩
   exact Done.ret Z Z
  ·refine AWP.skip (d7 (b5 (.U (.add Z Z Z (by omega) (.z Z Z (.nil ?_))))))
   obtain rfl:=oi h
   refine b5 ⟨_,Z,?_⟩
   exact Sub.en Z
 ·intro iz _ he
  subst he
  try dsimp only at h ⊢
  refine f9 (b5 (.gk 1 Z (.ret ?_)))
  obtain rfl:=oi h
  exact Done.ret Z Z
 ·intro x e st he hq
  subst he
  try dsimp only at h hq
  obtain⟨rfl,hs⟩:=hq
  refine⟨_,Sub.refl _ _,?_⟩
  refine g7 (e7 ?_)
  obtain rfl:=oi h
  exact hs
theorem N1{sv:LL}{fv:Li→Option Bool}{r:Bool}{fvfv:FuncId}{cvfv:List C}(hcvfv:C.okL 0 cvfv=true)(hfv:∀{y1:Li} {z:Bool},fv y1=some z→e8 prog fvfv ([(cR y1)]++cvfv.map T.c) ((cB z)))(h:v7 sv fv=some r):e8 prog 102 [.c (row 1 b9 sv),.c (.fn fvfv cvfv)] ((cB r)):=by
 unfold e8
 refine FnOk.enter (rs:=[.t 4]) func102 Z ntmps102 results102 Z ⟨Y,Y⟩ (by kernel_rfl) Z ?_
 unfold v7 at h
 refine AWP.gk 1 Z (.j ?_)
 obtain⟨a7,ha7,h⟩:=bind_some h
 refine AWP.G 2 Z (.u Z Z (by simp[T.okL,T.ok,C.ok,C.okL,hcvfv]) Z (H3 hcvfv hfv ha7) Z (.G 2 Z (.nil (b5 (.ret ?_)))))
 obtain rfl:=oi h
 exact Done.ret Z Z
theorem aq0{ov:b7}{all:LL}{nextv:List (LL)}{safe:Li}{r:Li}(h:aa2 ov all nextv safe=some r):m8 prog 84 [.agg (tO ov),.c (row 1 b9 all),.c (row 1 B3 nextv),(cR safe)] 1 (List.map intI r):=by
 unfold m8
 refine FnOk.enter (rs:=[.t 8]) func84 Z ntmps84 results84 Z ⟨Y,Y⟩ (by kernel_rfl) Z ?_
 unfold aa2 at h
 refine AWP.gk 3 Z (.j ?_)
 obtain⟨a17,ha17,h⟩:=bind_some h
 refine AWP.U (S.lit (f:=intI) (l:=[-1]) (ess:=[[int (-1)]]) Z Z Z Z Z Z Z ⟨⟨.inl Z,Y⟩,Y⟩ Z Z Z (.z Z Z (S.len Z Z (fun hl16=>S.freshL (fun _=>Z) Z Z (.cons (.c (.own Z Z)) (.cons (.c .imm) .nil)) Z (S1 ha17) Z Z ?_))))
 refine AOps.G 2 Z (.nil (b5 (.j (.gs 1 Z (S.len Z Z (fun hl19=>.ge 1 Z (.q ?_)))))))
 obtain⟨c5,ho1,h⟩:=bind_some h
 refine AWP.forH ho1 (fun t6 c5=>⟨[(1,.c (row 1 b9 all)),(2,.c (row 1 B3 nextv)),(4,(cP 0 0 0)),(7,(cP 1 0 0)),(9,(cP 4 0 0)),(18,.c (row 1 b9 all)),(19,(cI (all.length:Int))),(20,(cI t6))],[(oE 4 (tO ov)),(o1 (row 1 intI safe)),.dead,(oV 1 intI c5),(o1 (.own 3 0 c5.length))]⟩) (fun _ _=>Z) ?_ ?_ ?_
 ·try dsimp only
  exact Sub.cut ⟨Z,Z,Z,Z,Z,Z,Z,Z,Y⟩ Z ⟨.one Z,.one Z,.dead,.vec,.one Z,Y⟩ Z
 ·intro t6 c5 o hlot6 hltt6 h
  unfold ad3 at h
  try dsimp only at h ⊢
  obtain⟨c7,hx8,h⟩:=bind_some h
  refine AWP.seqJ (⟨[(1,.c (row 1 b9 all)),(2,.c (row 1 B3 nextv)),(4,(cP 0 0 0)),(7,(cP 1 0 0)),(9,(cP 4 0 0)),(18,.c (row 1 b9 all)),(19,(cI (all.length:Int))),(20,(cI t6))],[(oE 4 (tO ov)),(o1 (row 1 intI safe)),.dead,(oV 1 intI c7),(o1 (.own 3 0 c7.length))]⟩) ?_ ?_
  ·refine AWP.q (.j ?_)
   obtain⟨a23,ha23,hx8⟩:=bind_some hx8
   refine AWP.G 1 Z (S.idx ha23 Z Z Z Z (.G 3 Z (.nil (b5 (.j ?_)))))
   obtain⟨a28,ha28,hx8⟩:=bind_some hx8
   refine AWP.G 3 Z (.u Z Z Z Z (k8 ha28) Z (.nil (b5 (.F Z hx8 (fun hc9 hx8=> ?_) (fun hc9 hx8=> ?_)))))
   ·obtain⟨a31,ha31,hx8⟩:=bind_some hx8
    refine AWP.G 2 Z (S.idxO ha31 Z Z Z Z Z (S.storeO1 (f:=intI) (a':=0) (s7 ha31) (fun _=>⟨_,Z⟩) Z Z Z Z Z ?_))
    refine AOps.nil (d7 ?_)
    obtain rfl:=oi hx8
    refine b5 ?_
    exact Sub.cut ⟨Z,Z,Z,Z,Z,Z,Z,Z,Y⟩ Z ⟨.one Z,.one Z,.dead,.vec,(.eq Z (by first|rfl|(simp only[lS];done))),Y⟩ Z
   ·refine AWP.skip (d7 ?_)
    obtain rfl:=oi hx8
    refine b5 (Sub.en Z)
  ·refine AWP.U (.add Z Z Z (by omega) (.z Z Z (.nil ?_)))
   obtain rfl:=oi h
   refine b5 (Sub.en Z)
 ·intro iz
  try dsimp only
  refine f9 (b5 (.j (.gk 2 Z (.q ?_))))
  obtain⟨c12,ho2,h⟩:=bind_some h
  refine AWP.loopS ho2 (fun(c10,c11)=>⟨[(1,.c (row 1 b9 all)),(2,.c (row 1 B3 nextv)),(7,(cP 1 0 0)),(9,(cP 4 0 0)),(12,(cP 5 0 0))],[.dead,(o1 (row 1 intI safe)),.dead,(oV 1 intI c10),(o1 (.own 3 0 c10.length)),(o1 (int c11))]⟩) (fun c12 e st=>e=.exit 2∧Sub [] st ⟨[(9,(cP 4 0 0))],[.dead,.dead,.dead,(oV 1 intI c12),(o1 (.own 3 0 c12.length))]⟩) ?_ ?_ ?_
  ·try dsimp only
   exact Sub.cut ⟨Z,Z,Z,Z,Z,Y⟩ Z ⟨.dead,.one Z,.dead,.vec,.one Z,.one Z,Y⟩ Z
  ·intro s o h
   obtain⟨c10,c11⟩:=s
   unfold ad5 at h
   try dsimp only at h ⊢
   refine AWP.j (.gs 2 Z (S.len Z Z (fun hl35=>.ge 1 Z (.J Z h (fun hc13 h=> ?_) (fun hc13 h=> ?_)))))
   ·refine AWP.skip (b5 (.j (.q (.gs 1 Z (S.len Z Z (fun hl40=>.ge 1 Z (.q ?_)))))))
    obtain⟨c14,ho3,h⟩:=bind_some h
    refine AWP.forH ho3 (fun t15 c14=>⟨[(1,.c (row 1 b9 all)),(2,.c (row 1 B3 nextv)),(7,(cP 1 0 0)),(9,(cP 4 0 0)),(12,(cP 5 0 0)),(40,(cI (all.length:Int))),(41,(cI t15))],[.dead,(o1 (row 1 intI safe)),.dead,(oV 1 intI c14),(o1 (.own 3 0 c14.length)),(o1 (int c11))]⟩) (fun _ _=>Z) ?_ ?_ ?_
    ·try dsimp only
     exact Sub.en Z
    ·intro t15 c14 o hlot15 hltt15 h
     unfold ac9 at h
     try dsimp only at h ⊢
     obtain⟨c16,hx17,h⟩:=bind_some h
     refine AWP.seqJ (⟨[(1,.c (row 1 b9 all)),(2,.c (row 1 B3 nextv)),(7,(cP 1 0 0)),(9,(cP 4 0 0)),(12,(cP 5 0 0)),(40,(cI (all.length:Int))),(41,(cI t15))],[.dead,(o1 (row 1 intI safe)),.dead,(oV 1 intI c16),(o1 (.own 3 0 c16.length)),(o1 (int c11))]⟩) ?_ ?_
     ·refine AWP.q (.gk 2 Z (.j ?_))
      obtain⟨t18,hx19,hx17⟩:=bind_some hx17
      refine AWP.seqJ (⟨[(1,.c (row 1 b9 all)),(2,.c (row 1 B3 nextv)),(7,(cP 1 0 0)),(9,(cP 4 0 0)),(12,(cP 5 0 0)),(13,(cI t15)),(40,(cI (all.length:Int))),(41,(cI t15)),(55,(cB t18))],[.dead,(o1 (row 1 intI safe)),.dead,(oV 1 intI c14),(o1 (.own 3 0 c14.length)),(o1 (int c11))]⟩) ?_ ?_
      ·obtain⟨a46,ha46,hx19⟩:=bind_some hx19
       rcases bft (decide (0≤a46)) with hb20|hb20
       ·replace hx19:=M0 hb20 hx19
        refine AWP.G 2 Z (S.idxO ha46 Z Z Z Z Z (S.loadO ha46 Z Z Z Z Z (.G 2 Z (.K Z Z hb20 (.G 6 Z (.nil ?_))))))
        obtain rfl:=oi hx19
        refine b5 (Sub.en Z)
       ·replace hx19:=K5 hb20 hx19
        obtain⟨a52,ha52,hx19⟩:=bind_some hx19
        refine AWP.G 2 Z (S.idxO ha46 Z Z Z Z Z (S.loadO ha46 Z Z Z Z Z (.G 2 Z (.K Z Z hb20 (.G 2 Z (.O Z Z Z Z (S.idx ha52 Z Z Z Z (.G 3 Z (.nil ?_)))))))))
        obtain rfl:=oi hx19
        refine b5 (Sub.en Z)
      ·refine AWP.F Z hx17 (fun hc21 hx17=> ?_) (fun hc21 hx17=> ?_)
       ·refine AWP.exit (h9 (f9 ?_))
        obtain rfl:=oi hx17
        refine b5 (Sub.en Z)
       ·refine AWP.skip (b5 (.j ?_))
        obtain⟨a58,ha58,a61,ha61,hx17⟩:=b2 hx17
        refine AWP.G 2 Z (S.idx ha58 Z Z Z Z (.G 1 Z (.ab Z Z (.aa Z Z (.cons (.c .imm) (.cons (.c (.fn (.cons (.ptr (es:=[.sl 1 (List.map intI safe)]) Z Z (.cons .imm .nil)) (.cons (.ptr (es:=[.sl 1 (List.map intI c14)]) Z Z (.cons (.own Z Z) .nil)) (.cons (.ptr (es:=[.val (.int .i64 c11)]) Z Z (.cons .imm .nil)) .nil))))) .nil)) Z (N1 Z (fun hy=>ao3 hy) ha61) Z ?_))))
        refine AOps.nil (b5 (.F Z hx17 (fun hc22 hx17=> ?_) (fun hc22 hx17=> ?_)))
        ·obtain⟨a65,ha65,hx17⟩:=bind_some hx17
         refine AWP.G 3 Z (S.idxO ha65 Z Z Z Z Z (S.storeO1 (f:=intI) (a':=c11) (s7 ha65) (fun _=>⟨_,Z⟩) Z Z Z Z Z ?_))
         refine AOps.nil (d7 ?_)
         obtain rfl:=oi hx17
         refine b5 ?_
         exact Sub.cut ⟨Z,Z,Z,Z,Z,Z,Z,Y⟩ Z ⟨.dead,.one Z,.dead,.vec,(.eq Z (by first|rfl|(simp only[lS];done))),.one Z,Y⟩ Z
        ·refine AWP.skip (d7 ?_)
         obtain rfl:=oi hx17
         refine b5 (Sub.en Z)
     ·refine AWP.U (.add Z Z Z (by omega) (.z Z Z (.nil ?_)))
      obtain rfl:=oi h
      refine b5 (Sub.en Z)
    ·intro iz
     try dsimp only
     refine f9 (d7 (b5 (.j (.gk 1 Z (.G 2 Z (.nil (b5 (.G 3 Z (.nil ?_)))))))))
     obtain rfl:=oi h
     refine b5 ⟨_,Z,?_⟩
     exact(Sub.move (env':=[(1,.c (row 1 b9 all)),(2,.c (row 1 B3 nextv)),(7,(cP 1 0 0)),(9,(cP 4 0 0)),(12,(cP 5 0 0))]) (σ':=[.dead,(o1 (row 1 intI safe)),.dead,(oV 1 intI c14),(o1 (.own 3 0 c14.length)),(o1 (int (w64 (c11+1))))]) 5 6 Z Z Z ⟨Z,Z,Z,Z,Z,Y⟩ Z ⟨Y,⟨Z,Z⟩,Y,⟨Blk.im_ok _ _ _,i6 Z⟩,⟨Z,Z⟩,⟨Z,Z⟩,Y⟩).trans (Sub.en Z)
   ·refine AWP.exit (h9 ?_)
    obtain rfl:=oi h
    refine h9 ⟨_,Z,Z,?_⟩
    exact Sub.cut ⟨Z,Y⟩ Z ⟨.dead,.dead,.dead,.vec,.one Z,Y⟩ Z
  ·intro e s hq
   obtain⟨rfl,hs⟩:=hq
   refine⟨_,hs,?_⟩
   refine f9 (b5 (.gk 2 Z (.ret ?_)))
   obtain rfl:=oi h
   exact Done.ret Z (Fresh.mk Z Z)
theorem Y2{ov:b7}{all:LL}{r:Li}(h:O8 ov all=some r):m8 prog 36 [.agg (tO ov),.c (row 1 b9 all)] 1 (List.map intI r):=by
 unfold m8
 refine FnOk.enter (rs:=[.t 4]) func36 Z ntmps36 results36 Z ⟨Y,Y⟩ (by kernel_rfl) Z ?_
 unfold O8 at h
 refine AWP.gk 2 Z (.j ?_)
 obtain⟨a12,ha12,h⟩:=bind_some h
 refine AWP.G 2 Z (S.fresh Z Z Z Z (cyclic_arcs_ok ha12) Z Z (.E Z Z (.nil (b5 (.j ?_)))))
 obtain⟨a16,ha16,h⟩:=bind_some h
 refine AWP.U (S.lit (f:=intI) (l:=[1]) (ess:=[[int 1]]) Z Z Z Z Z Z Z ⟨⟨.inl Z,Y⟩,Y⟩ Z Z Z (.z Z Z (S.len Z Z (fun hl15=>S.freshL (fun _=>Z) Z Z (.cons (.c (.own Z Z)) (.cons (.c .imm) .nil)) Z (S1 ha16) Z Z ?_))))
 refine AOps.E Z Z (.nil (b5 (.q ?_)))
 obtain⟨x,ho1,h⟩:=bind_some h
 refine AWP.loopS ho1 (fun c3=>⟨[(1,.c (row 1 b9 all)),(2,(cP 0 0 0)),(5,.c (.own 1 0 a12.length)),(6,.c (.own 3 0 c3.length))],[(oE 4 (tO ov)),(oV 1 B3 a12),.dead,(oV 1 intI c3)]⟩) (fun x e st=>e=.ret∧Done [.t 4] (fun t s=>∃id,t=.c (.own id 0 (List.map intI x).length)∧s[id]? =some (some (Blk.im 1 (List.map intI x)))) .ret st) ?_ ?_ ?_
 ·try dsimp only
  exact Sub.cut ⟨Z,Z,Z,Z,Y⟩ Z ⟨.one Z,.vec,.dead,.vec,Y⟩ Z
 ·intro c3 o h
  unfold Y1 at h
  try dsimp only at h ⊢
  refine AWP.q (.j ?_)
  obtain⟨a21,ha21,h⟩:=bind_some h
  refine AWP.G 4 Z (S.freshL (fun _=>Z) Z Z (.cons (.agg (.cons .imm (.cons .imm (.cons .imm (.cons .imm .nil))))) (.cons (.c .imm) (.cons (.c (.own Z Z)) (.cons (.c (.own Z Z)) .nil)))) Z (aq0 ha21) Z Z ?_)
  refine AOps.E Z Z (.nil (b5 (.gk 1 Z (.j (.gs 1 Z (S.lenO Z Z Z (fun hl23=>.ge 1 Z (.q ?_))))))))
  obtain⟨⟨c4,same5⟩,ho2,h⟩:=bind_some h
  try dsimp only at h
  refine AWP.forH ho2 (fun t6 (c4,same5)=>⟨[(1,.c (row 1 b9 all)),(2,(cP 0 0 0)),(5,.c (.own 1 0 a12.length)),(6,.c (.own 3 0 c4.length)),(7,.c (.own 4 0 a21.length)),(8,(cB same5)),(23,(cI (a21.length:Int))),(24,(cI t6))],[(oE 4 (tO ov)),(oV 1 B3 a12),.dead,(oV 1 intI c4),(oV 1 intI a21)]⟩) (fun _ _=>Z) ?_ ?_ ?_
  ·try dsimp only
   exact Sub.en Z
  ·intro t6 s o hlot6 hltt6 h
   obtain⟨c4,same5⟩:=s
   unfold Y3 at h
   try dsimp only at h ⊢
   refine AWP.j (.q (.gk 2 Z ?_))
   obtain⟨same7,hx8,h⟩:=bind_some h
   refine AWP.seqJ (⟨[(1,.c (row 1 b9 all)),(2,(cP 0 0 0)),(5,.c (.own 1 0 a12.length)),(6,.c (.own 3 0 c4.length)),(7,.c (.own 4 0 a21.length)),(8,(cB same7)),(9,(cI t6)),(23,(cI (a21.length:Int))),(24,(cI t6))],[(oE 4 (tO ov)),(oV 1 B3 a12),.dead,(oV 1 intI c4),(oV 1 intI a21)]⟩) ?_ ?_
   ·rcases bft (same5) with hb9|hb9
    ·replace hx8:=J2 hb9 hx8
     obtain⟨a31,ha31,a36,ha36,hx8⟩:=b2 hx8
     refine AWP.drawI mixed Z (d5.D 2 Z (d5.K Z hb9 Z (d5.D 2 Z ?_)))
     refine d5.consF Z (fun E=>.O Z Z Z Z (S.idxO ha31 Z Z Z Z Z .N)) Z (.consF Z (fun E=>.O Z Z Z Z (S.loadO ha31 Z Z Z Z Z .N)) Z ?_)
     refine d5.D 3 Z ?_
     refine d5.consF Z (fun E=>.O Z Z Z Z (S.idxO ha36 Z Z Z Z Z .N)) Z (.consF Z (fun E=>.O Z Z Z Z (S.loadO ha36 Z Z Z Z Z .N)) Z ?_)
     refine d5.D 1 Z ?_
     refine d5.consF Z (fun E=>.O Z Z Z Z (.eqlB Z Z Z .N)) Z ?_
     refine d5.D 2 Z (d5.done ?_)
     dsimp only[g9]
     obtain rfl:=oi hx8
     refine b5 (Sub.en Z)
    ·replace hx8:=J4 hb9 hx8
     refine AWP.drawI mixed Z (d5.D 2 Z (d5.K Z hb9 Z (d5.D 13 Z (d5.done ?_))))
     dsimp only[g9]
     obtain rfl:=oi hx8
     refine b5 (Sub.en Z)
   ·obtain⟨a45,ha45,a49,ha49,h⟩:=b2 h
    refine AWP.G 4 Z (S.idxO ha45 Z Z Z Z Z (S.loadO ha45 Z Z Z Z Z (S.add Z Z Z (.min2 Z Z Z (S.idxO ha49 Z Z Z Z Z (S.storeO1 (f:=intI) (a':=min 1 (w64 (a45+1))) (s7 ha49) (fun _=>⟨_,Z⟩) Z Z Z Z Z ?_))))))
    refine AOps.nil (d7 (b5 (.U (.add Z Z Z (by omega) (.z Z Z (.nil ?_))))))
    obtain rfl:=oi h
    refine b5 (Sub.env ⟨Z,Z,Z,(x9 (by first|rfl|simp only[lS])),Z,Z,Z,Z,Y⟩)
  ·intro iz
   try dsimp only
   refine f9 (b5 (.gk 1 Z (.F Z h (fun hc10 h=> ?_) (fun hc10 h=> ?_))))
   ·refine AWP.gk 2 Z (.ret (g7 ?_))
    obtain rfl:=oi h
    refine e7 ⟨_,Z,Z,?_⟩
    exact Done.ret Z (Fresh.mk Z Z)
   ·refine AWP.skip (d7 ?_)
    obtain rfl:=oi h
    refine b5 ⟨_,Z,?_⟩
    exact Sub.cut ⟨Z,Z,Z,Z,Y⟩ Z ⟨.one Z,.vec,.dead,.vec,Y⟩ Z
 ·intro e s hq
  obtain⟨rfl,hs⟩:=hq
  refine⟨_,Sub.refl _ _,?_⟩
  refine g7 ?_
  obtain rfl:=oi h
  exact hs
theorem af6{sv:Li}{c2:Li}{c3:LL}{r:Bool}(h:U6 sv c2 c3=some r):e8 prog 39 [(cR sv),.c (.imm (.ipt [.sl 1 (List.map intI c2)])),.c (.imm (.ipt [.sl 1 (List.map b9 c3)]))] ((cB r)):=by
 unfold e8
 refine FnOk.enter (rs:=[.t 4]) func39 Z ntmps39 results39 Z ⟨Y,Y⟩ (by kernel_rfl) Z ?_
 unfold U6 at h
 refine AWP.gk 1 Z (.j ?_)
 obtain⟨a8,ha8,a9,ha9,h⟩:=b2 h
 refine AWP.drawI mixed Z (d5.D 3 Z ?_)
 refine d5.consF Z (fun E=>.u Z Z Z Z (m6 ha8) Z .N) Z (.consF Z (fun E=>S.idx ha9 Z Z Z Z .N) Z ?_)
 refine d5.D 3 Z (d5.done ?_)
 dsimp only[g9]
 refine b5 (.ret ?_)
 obtain rfl:=oi h
 exact Done.ret Z Z
theorem Y4{sv:Li}{c2:b7}{r:Bool}(h:E8 sv c2=some r):e8 prog 88 [(cR sv),.c (.imm (.ipt [.val (.int .i64 c2.facts),.sl 1 (List.map intI c2.init),.sl 1 (List.map intI c2.goal),.sl 3 (List.map d6 c2.operators)]))] ((cB r)):=by
 unfold e8
 refine FnOk.enter (rs:=[.t 3]) func88 Z ntmps88 results88 Z ⟨Y,Y⟩ (by kernel_rfl) Z ?_
 unfold E8 at h
 refine AWP.gk 1 Z (.j ?_)
 obtain⟨a7,ha7,h⟩:=bind_some h
 refine AWP.G 3 Z (.u Z Z Z Z (k8 ha7) Z (.E Z Z (.nil (b5 (.ret ?_)))))
 obtain rfl:=oi h
 exact Done.ret Z Z
theorem ap0{sv:Li}{c2:Li}{c3:LL}{c4:b7}{r:Int}(h:X5 sv c2 c3 c4=some r):e8 prog 89 [(cR sv),.c (.imm (.ipt [.sl 1 (List.map intI c2)])),.c (.imm (.ipt [.sl 1 (List.map b9 c3)])),.c (.imm (.ipt [.val (.int .i64 c4.facts),.sl 1 (List.map intI c4.init),.sl 1 (List.map intI c4.goal),.sl 3 (List.map d6 c4.operators)]))] ((cI r)):=by
 unfold e8
 refine FnOk.enter (rs:=[.t 5]) func89 Z ntmps89 results89 Z ⟨Y,Y⟩ (by kernel_rfl) Z ?_
 unfold X5 at h
 refine AWP.gk 1 Z (.j ?_)
 obtain⟨a18,ha18,a19,ha19,h⟩:=b2 h
 refine AWP.drawI mixed Z (d5.D 3 Z ?_)
 refine d5.consF Z (fun E=>.u Z Z Z Z (m6 ha18) Z .N) Z (.consF Z (fun E=>S.idx ha19 Z Z Z Z .N) Z ?_)
 refine d5.D 2 Z (d5.done ?_)
 dsimp only[g9]
 refine b5 (.j (.gs 2 Z (S.len Z Z (fun hl23=>.ge 1 Z (.q ?_)))))
 obtain⟨oo,ho1,h⟩:=bind_some h
 refine AWP.rngH ho1 (fun t2 _=>⟨[(0,(cR sv)),(1,.c (.imm (.ipt [.sl 1 (List.map intI c2)]))),(2,.c (.imm (.ipt [.sl 1 (List.map b9 c3)]))),(3,.c (.imm (.ipt [.val (.int .i64 c4.facts),.sl 1 (List.map intI c4.init),.sl 1 (List.map intI c4.goal),.sl 3 (List.map d6 c4.operators)]))),(6,(cI a19)),(23,(cI (c4.operators.length:Int))),(24,(cI t2))],[]⟩) (fun x e st=>e=.ret∧Done [.t 5] (fun t _=>t=(cI x)) .ret st) (fun _ _=>Z) ?_ ?_ ?_ ?_
 ·try dsimp only
  exact Sub.en Z
 ·intro t2 s o hlot2 hltt2 h
  unfold ab3 at h
  try dsimp only at h ⊢
  refine AWP.seqF (K8) o (fun()=>⟨[(0,(cR sv)),(1,.c (.imm (.ipt [.sl 1 (List.map intI c2)]))),(2,.c (.imm (.ipt [.sl 1 (List.map b9 c3)]))),(3,.c (.imm (.ipt [.val (.int .i64 c4.facts),.sl 1 (List.map intI c4.init),.sl 1 (List.map intI c4.goal),.sl 3 (List.map d6 c4.operators)]))),(6,(cI a19)),(23,(cI (c4.operators.length:Int))),(24,(cI t2))],[]⟩) (fun x h=> ?_) ?_
  ·unfold K8 at h
   try dsimp only at h ⊢
   refine AWP.U (.add Z Z Z (by omega) (.z Z Z (.nil ?_)))
   obtain rfl:=oi h
   refine b5 ⟨_,Z,?_⟩
   exact Sub.en Z
  ·refine AWP.q (.gk 2 Z (.j (.j ?_)))
   obtain⟨a30,ha30,h⟩:=bind_some h
   refine AWP.G 3 Z (.u Z Z Z Z (T5 ha30) Z (.not Z Z (.nil (b5 (.F Z h (fun hc3 h=> ?_) (fun hc3 h=> ?_))))))
   ·refine AWP.exit (h9 (f9 (b5 ⟨_,h,?_⟩)))
    exact Sub.en Z
   ·refine AWP.skip (b5 (.j ?_))
    obtain⟨a36,ha36,h⟩:=bind_some h
    refine AWP.G 3 Z (.u Z Z Z Z (w7 ha36) Z (.G 5 Z (.nil (b5 (.gk 2 Z (.j (.gs 1 Z (S.len Z Z (fun hl40=>.ge 1 Z (.q ?_))))))))))
    obtain⟨⟨sure4,near5⟩,ho3,h⟩:=bind_some h
    try dsimp only at h
    refine AWP.forH ho3 (fun t6 (sure4,near5)=>⟨[(0,(cR sv)),(1,.c (.imm (.ipt [.sl 1 (List.map intI c2)]))),(2,.c (.imm (.ipt [.sl 1 (List.map b9 c3)]))),(3,.c (.imm (.ipt [.val (.int .i64 c4.facts),.sl 1 (List.map intI c4.init),.sl 1 (List.map intI c4.goal),.sl 3 (List.map d6 c4.operators)]))),(6,(cI a19)),(7,(cI t2)),(10,(cB sure4)),(11,(cB near5)),(23,(cI (c4.operators.length:Int))),(24,(cI t2)),(39,.c (row 1 b9 a36.1)),(40,(cI (a36.1.length:Int))),(41,(cI t6))],[]⟩) (fun _ _=>Z) ?_ ?_ ?_
    ·try dsimp only
     exact Sub.en Z
    ·intro t6 s o hlot6 hltt6 h
     obtain⟨sure4,near5⟩:=s
     unfold ab8 at h
     try dsimp only at h ⊢
     obtain⟨⟨sure7,near8⟩,hx9,h⟩:=bind_some h
     refine AWP.seqJ (⟨[(0,(cR sv)),(1,.c (.imm (.ipt [.sl 1 (List.map intI c2)]))),(2,.c (.imm (.ipt [.sl 1 (List.map b9 c3)]))),(3,.c (.imm (.ipt [.val (.int .i64 c4.facts),.sl 1 (List.map intI c4.init),.sl 1 (List.map intI c4.goal),.sl 3 (List.map d6 c4.operators)]))),(6,(cI a19)),(7,(cI t2)),(10,(cB sure7)),(11,(cB near8)),(23,(cI (c4.operators.length:Int))),(24,(cI t2)),(39,.c (row 1 b9 a36.1)),(40,(cI (a36.1.length:Int))),(41,(cI t6))],[]⟩) ?_ ?_
     ·refine AWP.q (.j ?_)
      obtain⟨a43,ha43,hx9⟩:=bind_some hx9
      refine AWP.U (S.idx ha43 Z Z Z Z (.G 2 Z (.nil (b5 (.j ?_)))))
      obtain⟨a48,ha48,a49,ha49,hx9⟩:=b2 hx9
      refine AWP.drawI mixed Z (d5.D 3 Z ?_)
      refine d5.consF Z (fun E=>.u Z Z Z Z (m6 ha48) Z .N) Z (.consF Z (fun E=>S.idx ha49 Z Z Z Z .N) Z ?_)
      refine d5.D 2 Z (d5.done ?_)
      dsimp only[g9]
      refine b5 ?_
      rcases bft (sure4) with hb10|hb10
      ·replace hx9:=J2 hb10 hx9
       rcases bft (near5) with hb11|hb11
       ·replace hx9:=J2 hb11 hx9
        refine AWP.G 2 Z (.K Z Z hb10 (.G 5 Z (.K Z Z hb11 (.G 7 Z (.nil (d7 ?_))))))
        obtain⟨ej0,ej1⟩:=o2 hx9
        subst ej0 ej1
        refine b5 (Sub.en Z)
       ·replace hx9:=J4 hb11 hx9
        refine AWP.G 2 Z (.K Z Z hb10 (.G 5 Z (.K Z Z hb11 (.G 7 Z (.nil (d7 ?_))))))
        obtain⟨ej0,ej1⟩:=o2 hx9
        subst ej0 ej1
        refine b5 (Sub.en Z)
      ·replace hx9:=J4 hb10 hx9
       rcases bft (near5) with hb12|hb12
       ·replace hx9:=J2 hb12 hx9
        refine AWP.G 2 Z (.K Z Z hb10 (.G 5 Z (.K Z Z hb12 (.G 7 Z (.nil (d7 ?_))))))
        obtain⟨ej0,ej1⟩:=o2 hx9
        subst ej0 ej1
        refine b5 (Sub.en Z)
       ·replace hx9:=J4 hb12 hx9
        refine AWP.G 2 Z (.K Z Z hb10 (.G 5 Z (.K Z Z hb12 (.G 7 Z (.nil (d7 ?_))))))
        obtain⟨ej0,ej1⟩:=o2 hx9
        subst ej0 ej1
        refine b5 (Sub.en Z)
     ·try dsimp only at h
      refine AWP.U (.add Z Z Z (by omega) (.z Z Z (.nil ?_)))
      obtain rfl:=oi h
      refine b5 (Sub.en Z)
    ·intro iz
     try dsimp only
     refine f9 (b5 (.seqJ (⟨[(0,(cR sv)),(1,.c (.imm (.ipt [.sl 1 (List.map intI c2)]))),(2,.c (.imm (.ipt [.sl 1 (List.map b9 c3)]))),(3,.c (.imm (.ipt [.val (.int .i64 c4.facts),.sl 1 (List.map intI c4.init),.sl 1 (List.map intI c4.goal),.sl 3 (List.map d6 c4.operators)]))),(6,(cI a19)),(7,(cI t2)),(23,(cI (c4.operators.length:Int))),(24,(cI t2)),(67,(cB (sure4 && near5)))],[]⟩) ?_ ?_))
     ·rcases bft (sure4) with hb1|hb1
      ·refine AWP.G 2 Z (.O Z Z Z hb1 (.z Z Z (.pickT Z hb1 Z Z (.nil (b5 ?_)))))
       simp only[U5 hb1,or_t hb1,Bool.false_or,Bool.true_or,Bool.false_and,Bool.true_and]
       exact Sub.en Z
      ·refine AWP.G 2 Z (.guardF Z Z Z hb1 (.pickF Z hb1 Z Z (.nil (b5 ?_))))
       simp only[and_f hb1,or_f hb1,Bool.false_or,Bool.true_or,Bool.false_and,Bool.true_and]
       exact Sub.en Z
     ·refine AWP.F Z h (fun hc13 h=> ?_) (fun hc13 h=> ?_)
      ·refine AWP.gk 2 Z (.ret (g7 (e7 ?_)))
       obtain rfl:=oi h
       refine e7 ⟨_,Z,Z,?_⟩
       exact Done.ret Z Z
      ·refine AWP.skip (d7 (b5 ⟨_,h,?_⟩))
       exact Sub.en Z
 ·intro iz _ he
  subst he
  try dsimp only at h ⊢
  refine f9 (b5 (.gk 1 Z (.ret ?_)))
  obtain rfl:=oi h
  exact Done.ret Z Z
 ·intro x e st he hq
  subst he
  try dsimp only at h hq
  obtain⟨rfl,hs⟩:=hq
  refine⟨_,Sub.refl _ _,?_⟩
  refine g7 (e7 ?_)
  obtain rfl:=oi h
  exact hs
theorem p9{xv:List d9}{target:Li}{cmp:d9→Li→Option Int}{r:Int×Bool}{fvcmp:FuncId}{cvcmp:List C}(hcvcmp:C.okL 0 cvcmp=true)(hcmp:∀{y1:d9} {y2:Li} {z:Int},cmp y1 y2=some z→e8 prog fvcmp ([.agg [row 1 intI y1.state,int y1.operator],(cR y2)]++cvcmp.map T.c) ((cI z)))(h:i5 xv target cmp=some r):e8 prog 92 [.c (row 2 f5 xv),(cR target),.c (.fn fvcmp cvcmp)] (.tup [(cI r.1),(cB r.2)]):=by
 unfold e8
 refine FnOk.enter (rs:=[.t 6,.t 7]) func92 Z ntmps92 results92 Z ⟨Y,Y,Y⟩ (by kernel_rfl) Z ?_
 unfold i5 at h
 refine AWP.gk 2 Z (.gs 1 Z (S.len Z Z (fun hl13=>.ge 1 Z (.gk 3 Z (.j (.q ?_))))))
 obtain⟨iv6,ho1,h⟩:=bind_some h
 refine AWP.loopS ho1 (fun(iv4,j5)=>⟨[(0,.c (row 2 f5 xv)),(1,(cR target)),(2,.c (.fn fvcmp cvcmp)),(8,(cI (xv.length:Int))),(9,(cI iv4)),(10,(cI j5))],[]⟩) (fun iv6 e st=>e=.exit 0∧Sub [] st ⟨[(0,.c (row 2 f5 xv)),(1,(cR target)),(2,.c (.fn fvcmp cvcmp)),(8,(cI (xv.length:Int))),(9,(cI iv6))],[]⟩) ?_ ?_ ?_
 ·try dsimp only
  exact Sub.en Z
 ·intro s o h
  obtain⟨iv4,j5⟩:=s
  unfold x6 at h
  try dsimp only at h ⊢
  refine AWP.j (.gk 3 Z (.J Z h (fun hc7 h=> ?_) (fun hc7 h=> ?_)))
  ·refine AWP.skip (b5 (.q (.gs 4 Z (.shr Z Z Z (by first|decide|omega) Z (.ge 2 Z (.j ?_))))))
   obtain⟨a27,ha27,a30,ha30,h⟩:=b2 h
   refine AWP.G 3 Z (S.idx ha27 Z Z Z Z (.G 2 Z (.u Z Z (W6 Z hcvcmp) Z (hcmp ha30) Z (.lss Z Z Z (.nil (b5 (.J Z h (fun hc8 h=> ?_) (fun hc8 h=> ?_))))))))
   ·refine AWP.G 3 Z (.nil (d7 ?_))
    obtain rfl:=oi h
    refine b5 ⟨_,Z,?_⟩
    exact Sub.en Z
   ·refine AWP.G 2 Z (.nil (d7 ?_))
    obtain rfl:=oi h
    refine b5 ⟨_,Z,?_⟩
    exact Sub.en Z
  ·refine AWP.exit (h9 ?_)
   obtain rfl:=oi h
   refine h9 ⟨_,Z,Z,?_⟩
   exact Sub.en Z
 ·intro e s hq
  obtain⟨rfl,hs⟩:=hq
  refine⟨_,hs,?_⟩
  refine f9 (b5 ?_)
  obtain⟨t9,hx10,h⟩:=bind_some h
  refine AWP.seqJ (⟨[(6,(cI iv6)),(7,(cB t9))],[]⟩) ?_ ?_
  ·rcases bft (decide (iv6<(xv.length:Int))) with hb11|hb11
   ·replace hx10:=M0 hb11 hx10
    obtain⟨a43,ha43,a46,ha46,hx10⟩:=b2 hx10
    refine AWP.G 5 Z (.K Z Z hb11 (.G 3 Z (.O Z Z Z Z (S.idx ha43 Z Z Z Z (.G 2 Z (.O Z Z Z Z (.u Z Z (W6 Z hcvcmp) Z (hcmp ha46) Z (.G 4 Z (.nil ?_)))))))))
    obtain rfl:=oi hx10
    refine b5 (Sub.en Z)
   ·replace hx10:=K5 hb11 hx10
    refine AWP.G 5 Z (.K Z Z hb11 (.G 11 Z (.nil ?_)))
    obtain rfl:=oi hx10
    refine b5 (Sub.en Z)
  ·refine AWP.ret ?_
   obtain rfl:=oi h
   exact Done.ret Z Z
theorem aq8{c:d9}{sv:Li}{r:Int}(h:open_Chosen_1 c sv=some r):e8 prog 93 [.agg [row 1 intI c.state,int c.operator],(cR sv)] ((cI r)):=by
 unfold e8
 refine FnOk.enter (rs:=[.t 4]) func93 Z ntmps93 results93 Z ⟨Y,Y⟩ (by kernel_rfl) Z ?_
 unfold open_Chosen_1 at h
 refine AWP.gk 2 Z (.j ?_)
 obtain⟨a8,ha8,h⟩:=bind_some h
 refine AWP.G 3 Z (.u Z Z Z Z (q8 ha8) Z (.E Z Z (.nil (b5 (.ret ?_)))))
 obtain rfl:=oi h
 exact Done.ret Z Z
theorem E6{policy:List d9}{sv:Li}{r:Int}(h:B8 policy sv=some r):e8 prog 44 [.c (row 2 f5 policy),(cR sv)] ((cI r)):=by
 unfold e8
 refine FnOk.enter (rs:=[.t 4]) func44 Z ntmps44 results44 Z ⟨Y,Y⟩ (by kernel_rfl) Z ?_
 unfold B8 at h
 refine AWP.gk 1 Z (.j ?_)
 obtain⟨a10,ha10,h⟩:=bind_some h
 refine AWP.G 2 Z (.u Z Z Z Z (p9 Z (fun hy=>aq8 hy) ha10) Z ?_)
 refine AOps.G 5 Z (.nil (b5 (.j (.gk 2 Z (.F Z h (fun hc3 h=> ?_) (fun hc3 h=> ?_))))))
 ·refine AWP.gk 1 Z (.ret (e7 ?_))
  obtain rfl:=oi h
  exact Done.ret Z Z
 ·refine AWP.skip (b5 (.j ?_))
  obtain⟨a17,ha17,h⟩:=bind_some h
  refine AWP.G 2 Z (S.idx ha17 Z Z Z Z (.G 3 Z (.nil (b5 (.ret ?_)))))
  obtain rfl:=oi h
  exact Done.ret Z Z
theorem ad0{c:d9}{sv:Li}{r:Int}(h:S7 c sv=some r):e8 prog 96 [.agg [row 1 intI c.state,int c.operator],(cR sv)] ((cI r)):=by
 unfold e8
 refine FnOk.enter (rs:=[.t 4]) func96 Z ntmps96 results96 Z ⟨Y,Y⟩ (by kernel_rfl) Z ?_
 unfold S7 at h
 refine AWP.gk 2 Z (.j ?_)
 obtain⟨a8,ha8,h⟩:=bind_some h
 refine AWP.G 3 Z (.u Z Z Z Z (q8 ha8) Z (.E Z Z (.nil (b5 (.ret ?_)))))
 obtain rfl:=oi h
 exact Done.ret Z Z
theorem strong_Build_ok{ov:b7}{choose:Li→Option Int}{r:(List d9)×Bool}{fvchoose:FuncId}{cvchoose:List C}(hcvchoose:C.okL 0 cvchoose=true)(hchoose:∀{y1:Li} {z:Int},choose y1=some z→e8 prog fvchoose ([(cR y1)]++cvchoose.map T.c) ((cI z)))(h:af7 ov choose=some r):e8 prog 50 [.agg (tO ov),.c (.fn fvchoose cvchoose)] (.tup [.c (row 2 f5 r.1),(cB r.2)]):=by
 unfold e8
 refine FnOk.enter (rs:=[.t 4,.t 5]) func50 Z ntmps50 results50 Z ⟨Y,Y,Y⟩ (by kernel_rfl) Z ?_
 unfold af7 at h
 refine AWP.gk 3 Z (.gk 1 Z (.gs 2 Z (S.lit (f:=b9) (l:=[ov.init]) (ess:=[[row 1 intI ov.init]]) Z Z Z Z Z Z Z ⟨⟨.inl Z,Y⟩,Y⟩ Z Z Z (.ge 1 Z (.j (.gk 1 Z (.q (.virtV 2 f5 6 Z Z Z ?_))))))))
 obtain⟨oo,ho1,h⟩:=bind_some h
 refine AWP.loopS ho1 (fun(c3,c4,atv5)=>⟨[(1,.c (.fn fvchoose cvchoose)),(2,(cP 0 0 0)),(6,.c (.own 2 0 c4.length)),(7,.c (.own 1 0 c3.length)),(8,(cI atv5))],[(oE 4 (tO ov)),(oV 1 b9 c3),(oV 2 f5 c4)]⟩) (fun o e st=>match o with| .inl c6=>e=.exit 0∧Sub [] st ⟨[(6,.c (.own 2 0 c6.length))],[.dead,.dead,(oV 2 f5 c6)]⟩| .inr x=>e=.ret∧Done [.t 4,.t 5] (fun t _=>t=.tup [.c (row 2 f5 x.1),(cB x.2)]) .ret st) ?_ ?_ ?_
 ·try dsimp only
  exact Sub.env ⟨Z,Z,(x9 (by first|rfl|simp only[lS])),Z,Z,Y⟩
 ·intro s o h
  obtain⟨c3,c4,atv5⟩:=s
  unfold ai5 at h
  try dsimp only at h ⊢
  refine AWP.j (.gs 2 Z (S.lenO Z Z Z (fun hl20=>.ge 1 Z (.J Z h (fun hc7 h=> ?_) (fun hc7 h=> ?_)))))
  ·refine AWP.skip (b5 (.seqF ((Q4 atv5)) o (fun(c8,c9)=>⟨[(1,.c (.fn fvchoose cvchoose)),(2,(cP 0 0 0)),(6,.c (.own 2 0 c9.length)),(7,.c (.own 1 0 c8.length)),(8,(cI atv5))],[(oE 4 (tO ov)),(oV 1 b9 c8),(oV 2 f5 c9)]⟩) (fun x h=> ?_) ?_))
   ·obtain⟨c8,c9⟩:=x
    unfold Q4 at h
    try dsimp only at h ⊢
    refine AWP.G 3 Z (.nil ?_)
    obtain rfl:=oi h
    refine b5 ⟨_,Z,?_⟩
    exact Sub.en Z
   ·refine AWP.q (.j ?_)
    obtain⟨a26,ha26,h⟩:=bind_some h
    refine AWP.G 2 Z (S.idxO ha26 Z Z Z Z Z (S.loadO ha26 Z Z Z Z Z (.E Z Z (.nil (b5 (.j ?_))))))
    obtain⟨t10,hx11,h⟩:=bind_some h
    refine AWP.seqJ (⟨[(1,.c (.fn fvchoose cvchoose)),(2,(cP 0 0 0)),(6,.c (.own 2 0 c4.length)),(7,.c (.own 1 0 c3.length)),(8,(cI atv5)),(9,(cR a26)),(37,(cB t10))],[(oE 4 (tO ov)),(oV 1 b9 c3),(oV 2 f5 c4)]⟩) ?_ ?_
    ·obtain⟨a31,ha31,hx11⟩:=bind_some hx11
     rcases bft (a31) with hb12|hb12
     ·replace hx11:=J2 hb12 hx11
      refine AWP.G 3 Z (.u Z Z Z Z (k8 ha31) Z (.z Z Z (.K Z Z hb12 (.G 5 Z (.nil ?_)))))
      obtain rfl:=oi hx11
      refine b5 (Sub.en Z)
     ·replace hx11:=J4 hb12 hx11
      obtain⟨a35,ha35,hx11⟩:=bind_some hx11
      refine AWP.G 3 Z (.u Z Z Z Z (k8 ha31) Z (.z Z Z (.K Z Z hb12 (.G 2 Z (.O Z Z Z Z (.aa Z Z (.cons (.c (.own Z Z)) (.cons (.c .imm) .nil)) Z (E6 ha35) Z (.G 2 Z (.nil ?_))))))))
      obtain rfl:=oi hx11
      refine b5 (Sub.en Z)
    ·refine AWP.F Z h (fun hc13 h=> ?_) (fun hc13 h=> ?_)
     ·refine AWP.exit (h9 (f9 (b5 ⟨_,h,?_⟩)))
      exact Sub.en Z
     ·refine AWP.skip (b5 (.j (.gs 1 Z (S.lenO Z Z Z (fun hl39=>.ge 1 Z (.J Z h (fun hc14 h=> ?_) (fun hc14 h=> ?_)))))))
      ·refine AWP.gk 2 Z (.nilrow 2 4 Z (.ret (e7 (g7 (e7 ?_)))))
       obtain rfl:=oi h
       refine e7 ⟨_,Z,Z,?_⟩
       exact Done.ret Z Z
      ·refine AWP.skip (b5 (.j ?_))
       obtain⟨a43,ha43,h⟩:=bind_some h
       refine AWP.G 2 Z (.u Z Z (W6 Z hcvchoose) Z (hchoose ha43) Z (.E Z Z (.nil (b5 (.j ?_)))))
       obtain⟨a47,ha47,h⟩:=bind_some h
       refine AWP.G 2 Z (.aa Z Z (.cons (.c (.own Z Z)) (.cons (.c .imm) (.cons (.c (.fn .nil)) .nil))) Z (p9 Z (fun hy=>ad0 hy) ha47) Z ?_)
       refine AOps.G 5 Z (.nil (b5 (.j ?_)))
       obtain⟨a53,ha53,a57,ha57,h⟩:=b2 h
       refine AWP.G 3 Z (S.fresh Z Z Z Z (A4 ha53) Z Z (.G 2 Z (.frzV (id:=3) (l:=a53) (env2:=[(1,.c (.fn fvchoose cvchoose)),(2,(cP 0 0 0)),(7,.c (.own 1 0 c3.length)),(8,(cI atv5)),(9,(cR a26)),(10,(cI a43)),(50,.c (.own 2 0 c4.length)),(51,(cI a47.1)),(55,.agg [row 1 intI a53,int a43])]) (σ2:=[(oE 4 (tO ov)),(oV 1 b9 c3),(oV 2 f5 c4),.dead]) Z Z (by exact⟨⟨_,Z,.inl ⟨Z,fnNo hcvchoose⟩⟩,⟨_,Z,.inl ⟨Z,Z⟩⟩,⟨_,Z,.inl ⟨Z,Z⟩⟩,⟨_,Z,.inl ⟨Z,Z⟩⟩,⟨_,Z,.inl ⟨Z,Z⟩⟩,⟨_,Z,.inl ⟨Z,Z⟩⟩,⟨_,Z,.inl ⟨Z,Z⟩⟩,⟨_,Z,.inl ⟨Z,Z⟩⟩,⟨_,Z,⟨.inr ⟨_,Z,Z,Z⟩,.inl ⟨Z,Z⟩,Y⟩⟩,Y⟩) Z (by exact⟨⟨Z,.inl ⟨Z,Z⟩,.inl ⟨Z,Z⟩,.inl ⟨Z,Z⟩,.inl ⟨Z,Z⟩,Y⟩,FrzB.vec,FrzB.vec,Y,Y⟩) (S.lit (f:=f5) (l:=[(⟨a53,a43⟩:d9)]) (ess:=[[row 1 intI a53,int a43]]) Z Z Z Z Z Z Z ⟨⟨.inl Z,.inl Z,Y⟩,Y⟩ Z Z Z (S.insert (f:=f5) ha57 Z Z Z Z Z Z Z Z Z Z Z (.E Z Z (.nil (b5 (.j (.z (env':=[(1,.c (.fn fvchoose cvchoose)),(2,(cP 0 0 0)),(6,.c (.own 2 0 a57.length)),(7,.c (.own 1 0 c3.length)),(8,(cI atv5)),(9,(cR a26)),(10,(cI a43))]) (σ':=[(oE 4 (tO ov)),(oV 1 b9 c3),(oV 2 f5 a57),.dead,(oV 2 f5 [(⟨a53,a43⟩:d9)])]) 2 5 Z Z Z ⟨fnMv hcvchoose Z,Z,Z,Z,Z,Z,Z,Y⟩ (eOk1 (fnOk (f:=fvchoose) hcvchoose) (eOk1 Z (eOk1 Z (eOk1 Z (eOk1 Z (eOk1 Z (eOk1 Z Z))))))) ⟨⟨Z,Z⟩,⟨Blk.im_ok _ _ _,i6 Z⟩,⟨Blk.im_ok _ _ _,i6 Z⟩,Y,⟨Blk.im_ok _ _ _,i6 Z⟩,Y⟩ ?_))))))))))
       obtain⟨a62,ha62,h⟩:=bind_some h
       refine AWP.G 3 Z (.u Z Z Z Z (w7 ha62) Z (.G 5 Z (.nil (b5 ?_))))
       obtain⟨a67,ha67,h⟩:=bind_some h
       refine AWP.G 2 Z (S.append (f:=b9) ha67 Z Z Z Z Z Z .row Z Z Z Z (.E Z Z (.nil (d7 (b5 ⟨_,h,?_⟩)))))
       exact(Sub.move (env':=[(1,.c (.fn fvchoose cvchoose)),(2,(cP 0 0 0)),(6,.c (.own 2 0 a57.length)),(7,.c (.own 1 0 a67.length)),(8,(cI atv5))]) (σ':=[(oE 4 (tO ov)),(oV 1 b9 a67),(oV 2 f5 a57),.dead,(oV 2 f5 [(⟨a53,a43⟩:d9)])]) 1 5 Z Z Z ⟨fnMv hcvchoose Z,Z,Z,Z,Z,Y⟩ (eOk1 (fnOk (f:=fvchoose) hcvchoose) (eOk1 Z (eOk1 Z (eOk1 Z (eOk1 Z Z))))) ⟨⟨Z,Z⟩,⟨Blk.im_ok _ _ _,i6 Z⟩,⟨Blk.im_ok _ _ _,i6 Z⟩,Y,⟨Blk.im_ok _ _ _,i6 Z⟩,Y⟩).trans (Sub.cut ⟨Z,Z,Z,Z,Z,Y⟩ Z ⟨.one Z,.vec,.vec,Y⟩ (eOk1 (fnOk (f:=fvchoose) hcvchoose) (eOk1 Z (eOk1 Z (eOk1 Z (eOk1 Z Z))))))
  ·refine AWP.exit (h9 ?_)
   obtain rfl:=oi h
   refine h9 ⟨_,Z,Z,?_⟩
   exact Sub.cut ⟨Z,Y⟩ Z ⟨.dead,.dead,.vec,Y⟩ Z
 ·intro e s hq
  rcases oo with c6|x
  ·try dsimp only at h hq
   obtain⟨rfl,hs⟩:=hq
   refine⟨_,hs,?_⟩
   refine f9 (b5 (.gk 3 Z (.frzV (id:=2) (l:=c6) (env2:=[(4,.c (row 2 f5 c6)),(5,(cB true))]) (σ2:=[.dead,.dead,.dead]) Z Z (by exact⟨⟨_,Z,.inr ⟨_,Z,Z,Z⟩⟩,⟨_,Z,.inl ⟨Z,Z⟩⟩,Y⟩) Z (by exact⟨Y,Y,Y,Y⟩) (.ret ?_))))
   obtain rfl:=oi h
   exact Done.ret Z Z
  ·try dsimp only at h hq
   obtain⟨rfl,hs⟩:=hq
   refine⟨_,Sub.refl _ _,?_⟩
   refine g7 (e7 ?_)
   obtain rfl:=oi h
   exact hs
theorem ar0{ov:b7}{r:(List d9)×Bool×i7}(h:ac5 ov=some r):e8 prog 43 [.agg (tO ov)] (.tup [.c (row 2 f5 r.1),(cB r.2.1),.agg [int r.2.2.code,int r.2.2.index]]):=by
 unfold e8
 refine FnOk.enter (rs:=[.t 2,.t 3,.cell 4 30 2]) func43 Z ntmps43 results43 Z ⟨Y,Y,rv _ Z,Y⟩ (by kernel_rfl) Z ?_
 unfold ac5 at h
 refine AWP.gk 4 Z (.j ?_)
 obtain⟨a12,ha12,h⟩:=bind_some h
 refine AWP.G 1 Z (.u Z Z Z Z (ai9 ha12) Z (.G 7 Z (.nil (b5 (.j (.gs 2 Z (.neqP Z Z Z Z Z Z Z (.ne (.F Z h (fun hc2 h=> ?_) (fun hc2 h=> ?_))))))))))
 ·refine AWP.j (.drawEI [3] mixed Z Z Z (b8.D 3 Z Z ?_))
  apply b8.consE (v:=.undef);exact Z;exact Z;intro E
  refine W.storeAgg Z Z Z Z Z Z Z .N
  exact Z
  exact Z
  refine b8.done Z ?_ ?_
  ·refine d8.D 4 Z Z (d8.nil)
  dsimp only[g9]
  refine b5 (.nilrow 2 2 Z (.ret (e7 ?_)))
  obtain rfl:=oi h
  exact Done.ret Z Z
 ·refine AWP.skip (b5 (.j ?_))
  obtain⟨a21,ha21,h⟩:=bind_some h
  refine AWP.G 2 Z (S.fresh Z Z Z Z (Y2 ha21) Z Z (.G 2 Z (.nil (b5 (.j (.j ?_))))))
  obtain⟨a26,ha26,a27,ha27,h⟩:=b2 h
  refine AWP.drawI mixed Z (d5.D 4 Z ?_)
  refine d5.consF Z (fun E=>.u Z Z Z Z (m6 ha26) Z .N) Z (.consF Z (fun E=>S.idxO ha27 Z Z Z Z Z .N) Z (.consF Z (fun E=>S.loadO ha27 Z Z Z Z Z .N) Z ?_))
  refine d5.D 1 Z (d5.done ?_)
  dsimp only[g9]
  refine b5 (.J Z h (fun hc3 h=> ?_) (fun hc3 h=> ?_))
  ·refine AWP.gk 4 Z (.nilrow 2 2 Z (.ret (e7 ?_)))
   obtain rfl:=oi h
   exact Done.ret Z Z
  ·refine AWP.skip (b5 (.j ?_))
   obtain⟨a34,ha34,h⟩:=bind_some h
   refine AWP.G 1 Z (.ab Z Z ?_)
   refine AOps.frzV (id:=4) (l:=a21) (env2:=[(4,(cP 1 0 0)),(32,.agg (tO ov)),(33,.c (.fn 89 [.ptr 5 0 0,.ptr 2 0 0,.ptr 0 0 0]))]) (σ2:=[(oE 4 (tO ov)),(oE 2 [int 0,int 0]),(o1 (row 1 b9 a12.1)),(oE 2 [int a12.2.code,int a12.2.index]),.dead,(o1 (row 1 intI a21))]) Z Z (by exact⟨⟨_,Z,.inl ⟨Z,Z⟩⟩,⟨_,Z,⟨.inl ⟨Z,Z⟩,.inl ⟨Z,Z⟩,.inl ⟨Z,Z⟩,.inl ⟨Z,Z⟩,Y⟩⟩,⟨_,Z,.inl ⟨Z,Z⟩⟩,Y⟩) Z (by exact⟨⟨Z,.inl ⟨Z,Z⟩,.inl ⟨Z,Z⟩,.inl ⟨Z,Z⟩,.inl ⟨Z,Z⟩,Y⟩,⟨Z,.inl ⟨Z,Z⟩,.inl ⟨Z,Z⟩,Y⟩,⟨Z,.inl ⟨Z,Z⟩,Y⟩,⟨Z,.inl ⟨Z,Z⟩,.inl ⟨Z,Z⟩,Y⟩,Y,⟨Z,.inr ⟨_,Z,Z,Z⟩,Y⟩,Y⟩) ?_;refine AOps.frzB (id:=5) (e:=[.sl 1 (List.map intI a21)]) (env2:=[(4,(cP 1 0 0)),(32,.agg (tO ov)),(33,.c (.fn 89 [.imm (.ipt [.sl 1 (List.map intI a21)]),.ptr 2 0 0,.ptr 0 0 0]))]) (σ2:=[(oE 4 (tO ov)),(oE 2 [int 0,int 0]),(o1 (row 1 b9 a12.1)),(oE 2 [int a12.2.code,int a12.2.index]),.dead,.dead]) Z Z (by exact⟨⟨_,Z,.inl ⟨Z,Z⟩⟩,⟨_,Z,⟨.inl ⟨Z,Z⟩,.inl ⟨Z,Z⟩,.inl ⟨Z,Z⟩,.inl ⟨Z,Z⟩,Y⟩⟩,⟨_,Z,.inr Z⟩,Y⟩) Z (by exact⟨⟨Z,.inl ⟨Z,Z⟩,.inl ⟨Z,Z⟩,.inl ⟨Z,Z⟩,.inl ⟨Z,Z⟩,Y⟩,⟨Z,.inl ⟨Z,Z⟩,.inl ⟨Z,Z⟩,Y⟩,⟨Z,.inl ⟨Z,Z⟩,Y⟩,⟨Z,.inl ⟨Z,Z⟩,.inl ⟨Z,Z⟩,Y⟩,Y,Y,Y⟩) ?_;refine AOps.frzB (id:=2) (e:=[.sl 1 (List.map b9 a12.1)]) (env2:=[(4,(cP 1 0 0)),(32,.agg (tO ov)),(33,.c (.fn 89 [.imm (.ipt [.sl 1 (List.map intI a21)]),.imm (.ipt [.sl 1 (List.map b9 a12.1)]),.ptr 0 0 0]))]) (σ2:=[(oE 4 (tO ov)),(oE 2 [int 0,int 0]),.dead,(oE 2 [int a12.2.code,int a12.2.index]),.dead,.dead]) Z Z (by exact⟨⟨_,Z,.inl ⟨Z,Z⟩⟩,⟨_,Z,⟨.inl ⟨Z,Z⟩,.inl ⟨Z,Z⟩,.inl ⟨Z,Z⟩,.inl ⟨Z,Z⟩,Y⟩⟩,⟨_,Z,.inr Z⟩,Y⟩) Z (by exact⟨⟨Z,.inl ⟨Z,Z⟩,.inl ⟨Z,Z⟩,.inl ⟨Z,Z⟩,.inl ⟨Z,Z⟩,Y⟩,⟨Z,.inl ⟨Z,Z⟩,.inl ⟨Z,Z⟩,Y⟩,Y,⟨Z,.inl ⟨Z,Z⟩,.inl ⟨Z,Z⟩,Y⟩,Y,Y,Y⟩) ?_;refine AOps.frzB (id:=0) (e:=[.val (.int .i64 ov.facts),.sl 1 (List.map intI ov.init),.sl 1 (List.map intI ov.goal),.sl 3 (List.map d6 ov.operators)]) (env2:=[(4,(cP 1 0 0)),(32,.agg (tO ov)),(33,.c (.fn 89 [.imm (.ipt [.sl 1 (List.map intI a21)]),.imm (.ipt [.sl 1 (List.map b9 a12.1)]),.imm (.ipt [.val (.int .i64 ov.facts),.sl 1 (List.map intI ov.init),.sl 1 (List.map intI ov.goal),.sl 3 (List.map d6 ov.operators)])]))]) (σ2:=[.dead,(oE 2 [int 0,int 0]),.dead,(oE 2 [int a12.2.code,int a12.2.index]),.dead,.dead]) Z Z (by exact⟨⟨_,Z,.inl ⟨Z,Z⟩⟩,⟨_,Z,⟨.inl ⟨Z,Z⟩,.inl ⟨Z,Z⟩,.inl ⟨Z,Z⟩,.inl ⟨Z,Z⟩,Y⟩⟩,⟨_,Z,.inr Z⟩,Y⟩) Z (by exact⟨Y,⟨Z,.inl ⟨Z,Z⟩,.inl ⟨Z,Z⟩,Y⟩,Y,⟨Z,.inl ⟨Z,Z⟩,.inl ⟨Z,Z⟩,Y⟩,Y,Y,Y⟩) ?_;refine AOps.u Z Z Z Z (strong_Build_ok Z (fun hy=>ap0 hy) ha34) Z ?_
   refine AOps.G 5 Z (.nil (b5 (.j (.gk 2 Z (.F Z h (fun hc4 h=> ?_) (fun hc4 h=> ?_))))))
   ·refine AWP.gk 4 Z (.nilrow 2 2 Z (.ret (e7 ?_)))
    obtain rfl:=oi h
    exact Done.ret Z Z
   ·refine AWP.skip (b5 (.gk 5 Z (.ret ?_)))
    obtain rfl:=oi h
    exact Done.ret Z Z
theorem aq3{num:Int}{den:Int}{r:m5×Bool}(h:z8 num den=some r):e8 prog 95 [(cI num),(cI den)] (.tup [.agg [int r.1.num,int r.1.den],(cB r.2)]):=by
 unfold e8
 refine FnOk.enter (rs:=[.cell 4 28 2,.t 5]) func95 Z ntmps95 results95 Z ⟨rv _ Z,Y,Y⟩ (by kernel_rfl) Z ?_
 unfold z8 at h
 refine AWP.gk 2 Z ?_
 obtain⟨⟨num3,den4⟩,hx5,h⟩:=bind_some h
 refine AWP.seqJ (⟨[(0,(cI num3)),(1,(cI den4)),(4,(cP 0 0 0))],[(oE 2 [int 0,int 0])]⟩) ?_ ?_
 ·refine AWP.gk 2 Z (.J Z hx5 (fun hc6 hx5=> ?_) (fun hc6 hx5=> ?_))
  ·refine AWP.G 1 Z (S.neg Z Z (.z Z Z (S.neg Z Z (.G 2 Z (.nil ?_)))))
   obtain⟨ej0,ej1⟩:=o2 hx5
   subst ej0 ej1
   refine b5 (Sub.en Z)
  ·refine AWP.skip ?_
   obtain⟨ej0,ej1⟩:=o2 hx5
   subst ej0 ej1
   refine b5 (Sub.en Z)
 ·try dsimp only at h
  refine AWP.gs 2 Z (S.neg Z Z (.max2 Z Z Z (.ge 3 Z (.j (.q ?_)))))
  obtain⟨av9,ho1,h⟩:=bind_some h
  refine AWP.loopS ho1 (fun(av7,bv8)=>⟨[(0,(cI num3)),(1,(cI den4)),(4,(cP 0 0 0)),(6,(cI av7)),(7,(cI bv8))],[(oE 2 [int 0,int 0])]⟩) (fun av9 e st=>e=.exit 0∧Sub [] st ⟨[(0,(cI num3)),(1,(cI den4)),(4,(cP 0 0 0)),(6,(cI av9))],[(oE 2 [int 0,int 0])]⟩) ?_ ?_ ?_
  ·try dsimp only
   exact Sub.en Z
  ·intro s o h
   obtain⟨av7,bv8⟩:=s
   unfold I6 at h
   try dsimp only at h ⊢
   refine AWP.j (.gk 2 Z (.J Z h (fun hc10 h=> ?_) (fun hc10 h=> ?_)))
   ·refine AWP.skip (b5 (.q ?_))
    obtain⟨u25,hu25,h⟩:=bind_some h
    refine AWP.drawI mixed Z (d5.D 3 Z ?_)
    refine d5.consF Z (fun E=>S.rem hu25 Z Z Z .N) Z ?_
    refine d5.D 2 Z (d5.done ?_)
    dsimp only[g9]
    refine d7 ?_
    obtain rfl:=oi h
    refine b5 ⟨_,Z,?_⟩
    exact Sub.en Z
   ·refine AWP.exit (h9 ?_)
    obtain rfl:=oi h
    refine h9 ⟨_,Z,Z,?_⟩
    exact Sub.en Z
  ·intro e s hq
   obtain⟨rfl,hs⟩:=hq
   refine⟨_,hs,?_⟩
   refine f9 (b5 (.j ?_))
   obtain⟨u28,hu28,u31,hu31,h⟩:=b2 h
   refine AWP.drawEI [7,8] mixed Z Z Z (b8.D 2 Z Z ?_)
   refine b8.consN Z Z (fun E=>S.quo hu28 Z Z Z .N) Z ?_
   refine b8.D 2 Z Z ?_
   refine b8.consN Z Z (fun E=>S.quo hu31 Z Z Z .N) Z ?_
   refine b8.D 1 Z Z ?_
   apply b8.consE;exact Z;exact Z;intro E
   refine W.alloc Z Z Z Z .N
   exact Z
   exact Z
   apply b8.consE (v:=.undef);exact Z;exact Z;intro E
   refine W.storeAgg Z Z Z Z Z Z Z .N
   exact Z
   exact Z
   refine b8.done Z ?_ ?_
   ·refine d8.D 2 Z Z ?_
    refine d8.cons Z Z (.go Z Z (fun E=>S.quo hu28 Z Z Z .N) (.go Z Z (fun E=>S.quo hu28 Z Z Z .N) (.skip Z .nil))) ?_
    refine d8.D 2 Z Z ?_
    refine d8.cons Z Z (.go Z Z (fun E=>S.quo hu31 Z Z Z .N) (.go Z Z (fun E=>S.quo hu31 Z Z Z .N) (.skip Z .nil))) ?_
    refine d8.D 3 Z Z (d8.nil)
   dsimp only[g9]
   refine b5 (.j (.drawEI [10] mixed Z Z Z (b8.D 5 Z Z ?_)))
   refine b8.consN Z Z (fun E=>S.neg Z Z .N) Z ?_
   refine b8.D 2 Z Z ?_
   refine b8.consN Z Z (fun E=>.max3 Z Z Z Z .N) Z ?_
   refine b8.D 1 Z Z ?_
   apply b8.consE (v:=.undef);exact Z;exact Z;intro E
   refine W.storeAgg Z Z Z Z Z Z Z .N
   exact Z
   exact Z
   refine b8.D 1 Z Z (b8.done Z ?_ ?_)
   ·refine d8.D 5 Z Z ?_
    refine d8.cons Z Z ?_ ?_
    refine g8.go Z Z (fun E=>S.neg Z Z .N) ?_
    refine g8.go Z Z (fun E=>S.neg Z Z .N) ?_
    exact g8.nil
    refine d8.D 2 Z Z ?_
    refine d8.cons Z Z ?_ ?_
    refine g8.go Z Z (fun E=>.max3 Z Z Z Z .N) ?_
    refine g8.go Z Z (fun E=>.max3 Z Z Z Z .N) ?_
    exact g8.nil
    refine d8.D 3 Z Z (d8.nil)
   dsimp only[g9]
   refine b5 (.ret ?_)
   obtain rfl:=oi h
   exact Done.ret Z Z
theorem O4{num:Int}{den:Int}{r:m5×i7}(h:J9 num den=some r):e8 prog 49 [(cI num),(cI den)] (.tup [.agg [int r.1.num,int r.1.den],.agg [int r.2.code,int r.2.index]]):=by
 unfold e8
 refine FnOk.enter (rs:=[.cell 4 28 2,.cell 5 30 2]) func49 Z ntmps49 results49 Z ⟨rv _ Z,rv _ Z,Y⟩ (by kernel_rfl) Z ?_
 unfold J9 at h
 refine AWP.gk 2 Z (.j ?_)
 obtain⟨a11,ha11,h⟩:=bind_some h
 refine AWP.G 2 Z (.u Z Z Z Z (aq3 ha11) Z (.G 6 Z (.nil (b5 (.j (.gk 2 Z (.F Z h (fun hc3 h=> ?_) (fun hc3 h=> ?_))))))))
 ·refine AWP.gk 4 Z (.ret (e7 ?_))
  obtain rfl:=oi h
  exact Done.ret Z Z
 ·refine AWP.skip (b5 (.gk 4 Z (.ret ?_)))
  obtain rfl:=oi h
  exact Done.ret Z Z
theorem X2{l:LL}{c:LL}{l3:Li}{r:(LL)}(h:F3 l c l3=some r):FnOk prog 37 [.c (.own 0 0 l.length),.c (.fn 39 [.ptr 1 0 0,.ptr 2 0 0])] (M3 l c l3) (fun tt ss=>tt=.c (.own 4 0 r.length)∧ss=[.dead,(o1 (.own 3 0 l3.length)),(o1 (row 1 b9 c)),(oV 1 intI l3),(oV 1 b9 r)]):=by
 refine FnOk.enter (rs:=[.t 4]) func37 Z ntmps37 results37 Z ⟨Y,Y⟩ (by kernel_rfl) Z ?_
 refine AWP.weak ?_
 unfold F3 at h
 refine AWP.z (env':=[(0,.c (.own 4 0 l.length)),(1,.c (.fn 39 [.ptr 1 0 0,.ptr 2 0 0]))]) (σ':=[.dead,(o1 (.own 3 0 l3.length)),(o1 (row 1 b9 c)),(oV 1 intI l3),(oV 1 b9 l)]) 4 0 Z Z Z ⟨Z,Z,Y⟩ Z ⟨Y,⟨Z,Z⟩,⟨Z,Z⟩,⟨Blk.im_ok _ _ _,i6 Z⟩,⟨Blk.im_ok _ _ _,i6 Z⟩,Y⟩ (.gk 1 Z (.j ?_))
 obtain⟨a10,ha10,h⟩:=bind_some h
 refine AWP.G 2 Z (.aa Z Z (.cons (.c (.own Z Z)) (.cons (.c (.fn (.cons (.ptr (es:=[.sl 1 (List.map intI l3)]) Z Z (.cons (.own Z Z) .nil)) (.cons (.ptr (es:=[.sl 1 (List.map b9 c)]) Z Z (.cons .imm .nil)) .nil)))) .nil)) Z (H3 Z (fun hy=>af6 hy) ha10) Z ?_)
 refine AOps.E Z Z (.nil (b5 (.j (.gk 2 Z (.J Z h (fun hc55 h=> ?_) (fun hc55 h=> ?_))))))
 ·refine AWP.gk 2 Z (.ret (e7 ?_))
  obtain rfl:=oi h
  exact⟨⟨[(4,.c (.own 4 0 l.length))],[.dead,(o1 (.own 3 0 l3.length)),(o1 (row 1 b9 c)),(oV 1 intI l3),(oV 1 b9 l)]⟩,Sub.env ⟨Z,Y⟩,Done.ret Z ⟨Z,Z⟩⟩
 ·refine AWP.skip (b5 (.j (.gk 3 Z (.q ?_))))
  obtain⟨⟨c59,iv60⟩,ho1,h⟩:=bind_some h
  try dsimp only at h
  refine AWP.loopS ho1 (fun(c56,iv57,j58)=>⟨[(0,.c (.own 4 0 c56.length)),(1,.c (.fn 39 [.ptr 1 0 0,.ptr 2 0 0])),(5,(cI iv57)),(6,(cI j58))],[.dead,(o1 (.own 3 0 l3.length)),(o1 (row 1 b9 c)),(oV 1 intI l3),(oV 1 b9 c56)]⟩) (fun(c59,iv60) e st=>e=.exit 0∧Sub (M3 l c l3) st ⟨[(0,.c (.own 4 0 c59.length)),(5,(cI iv60))],[.dead,(o1 (.own 3 0 l3.length)),(o1 (row 1 b9 c)),(oV 1 intI l3),(oV 1 b9 c59)]⟩) ?_ ?_ ?_
  ·try dsimp only
   exact Sub.en Z
  ·intro s o h
   obtain⟨c56,iv57,j58⟩:=s
   unfold L3 at h
   try dsimp only at h ⊢
   refine AWP.j (.gs 2 Z (S.lenO Z Z Z (fun hl18=>.ge 1 Z (.J Z h (fun hc61 h=> ?_) (fun hc61 h=> ?_)))))
   ·refine AWP.skip (b5 ?_)
    obtain⟨⟨c62,iv63⟩,hx64,h⟩:=bind_some h
    refine AWP.seqJ (⟨[(0,.c (.own 4 0 c62.length)),(1,.c (.fn 39 [.ptr 1 0 0,.ptr 2 0 0])),(5,(cI iv63)),(6,(cI j58))],[.dead,(o1 (.own 3 0 l3.length)),(o1 (row 1 b9 c)),(oV 1 intI l3),(oV 1 b9 c62)]⟩) ?_ ?_
    ·refine AWP.q (.j ?_)
     obtain⟨a24,ha24,hx64⟩:=bind_some hx64
     refine AWP.G 2 Z (S.idxO ha24 Z Z Z Z Z (S.loadO ha24 Z Z Z Z Z (.E Z Z (.nil (b5 (.j ?_))))))
     obtain⟨a28,ha28,hx64⟩:=bind_some hx64
     refine AWP.G 2 Z (.aa Z Z (.cons (.c .imm) (.cons (.c (.ptr (es:=[.sl 1 (List.map intI l3)]) Z Z (.cons (.own Z Z) .nil))) (.cons (.c (.ptr (es:=[.sl 1 (List.map b9 c)]) Z Z (.cons .imm .nil))) .nil))) Z (af6 ha28) Z (.not Z Z (.nil (b5 (.F Z hx64 (fun hc65 hx64=> ?_) (fun hc65 hx64=> ?_))))))
     ·refine AWP.j ?_
      obtain⟨a33,ha33,hx64⟩:=bind_some hx64
      refine AWP.G 3 Z (S.idxO ha33 Z Z Z Z Z (S.storeO1 (f:=b9) (a':=a24) (s7 ha33) (fun _=>⟨_,Z⟩) Z Z Z Z Z ?_))
      refine AOps.nil (b5 (.G 3 Z (.nil (d7 ?_))))
      obtain⟨ej0,ej1⟩:=o2 hx64
      subst ej0 ej1
      refine b5 (Sub.env ⟨(x9 (by first|rfl|simp only[lS])),Z,Z,Z,Y⟩)
     ·refine AWP.skip (d7 ?_)
      obtain⟨ej0,ej1⟩:=o2 hx64
      subst ej0 ej1
      refine b5 (Sub.en Z)
    ·try dsimp only at h
     refine AWP.G 3 Z (.nil ?_)
     obtain rfl:=oi h
     refine b5 ⟨_,Z,?_⟩
     exact Sub.en Z
   ·refine AWP.exit (h9 ?_)
    obtain rfl:=oi h
    refine h9 ⟨_,Z,Z,?_⟩
    exact Sub.en Z
  ·intro e s hq
   obtain⟨rfl,hs⟩:=hq
   refine⟨_,hs,?_⟩
   refine f9 (b5 (.j ?_))
   obtain⟨u38,hu38,h⟩:=bind_some h
   refine AWP.G 2 Z (S.vFrom (B1 c59) hu38 Z Z Z Z Z Z (S.clear (a0:=[]) Z Z Z (fun _ _ _ _=>.imm .slNil) (ab5 (B1 c59) hu38) Z Z Z Z Z ?_))
   refine AOps.nil (b5 (.j ?_))
   obtain⟨u41,hu41,h⟩:=bind_some h
   refine AWP.G 2 Z ?_
   refine S.vTo (B1 (clrL c59 (0+iv60) ((c59.length:Int) - iv60) [])) hu41 Z Z (by rw[Int.toNat_natCast];exact(clrL_len (ab5 (B1 c59) hu38)).symm) Z Z Z ?_
   refine AOps.E Z Z (.nil (b5 (.reown (env':=[(4,.c (.own 5 0 ((n7 (clrL c59 (0+iv60) ((c59.length:Int) - iv60) []) 0 iv60).length)))]) 4 (vw_to (B1 (clrL c59 (0+iv60) ((c59.length:Int) - iv60) [])) hu41) Z Z Z Z Z Z Z Z (by exact⟨.inl ⟨Z,Z⟩,Y⟩) (.ret ?_))))
   obtain rfl:=oi h
   exact⟨⟨[(4,.c (.own 4 0 ((n7 (clrL c59 (0+iv60) ((c59.length:Int) - iv60) []) 0 iv60).length)))],[.dead,(o1 (.own 3 0 l3.length)),(o1 (row 1 b9 c)),(oV 1 intI l3),(oV 1 b9 (n7 (clrL c59 (0+iv60) ((c59.length:Int) - iv60) []) 0 iv60))]⟩,(Sub.move (env':=[(4,.c (.own 4 0 ((n7 (clrL c59 (0+iv60) ((c59.length:Int) - iv60) []) 0 iv60).length)))]) (σ':=[.dead,(o1 (.own 3 0 l3.length)),(o1 (row 1 b9 c)),(oV 1 intI l3),(oV 1 b9 (n7 (clrL c59 (0+iv60) ((c59.length:Int) - iv60) []) 0 iv60))]) 4 5 Z Z Z ⟨Z,Y⟩ Z ⟨Y,⟨Z,Z⟩,⟨Z,Z⟩,⟨Blk.im_ok _ _ _,i6 Z⟩,⟨Blk.im_ok _ _ _,i6 Z⟩,Y⟩).trans (Sub.env ⟨Z,Y⟩),Done.ret Z ⟨Z,Z⟩⟩
theorem X0{l:LL}{Facts:Int}{Init:Li}{Goal:Li}{Operators:List e9}{r:(LL)}(h:E4 l Facts Init Goal Operators=some r):FnOk prog 37 [.c (.own 0 0 l.length),.c (.fn 88 [.ptr 1 0 0])] (J5 l Facts Init Goal Operators) (fun tt ss=>tt=.c (.own 2 0 r.length)∧ss=[.dead,(oE 4 [int Facts,row 1 intI Init,row 1 intI Goal,row 3 d6 Operators]),(oV 1 b9 r)]):=by
 refine FnOk.enter (rs:=[.t 4]) func37 Z ntmps37 results37 Z ⟨Y,Y⟩ (by kernel_rfl) Z ?_
 refine AWP.weak ?_
 unfold E4 at h
 refine AWP.z (env':=[(0,.c (.own 2 0 l.length)),(1,.c (.fn 88 [.ptr 1 0 0]))]) (σ':=[.dead,(oE 4 [int Facts,row 1 intI Init,row 1 intI Goal,row 3 d6 Operators]),(oV 1 b9 l)]) 2 0 Z Z Z ⟨Z,Z,Y⟩ Z ⟨Y,⟨Z,Z⟩,⟨Blk.im_ok _ _ _,i6 Z⟩,Y⟩ (.gk 1 Z (.j ?_))
 obtain⟨a10,ha10,h⟩:=bind_some h
 refine AWP.G 2 Z (.aa Z Z (.cons (.c (.own Z Z)) (.cons (.c (.fn (.cons (.ptr (es:=[.val (.int .i64 Facts),.sl 1 (List.map intI Init),.sl 1 (List.map intI Goal),.sl 3 (List.map d6 Operators)]) Z Z (.cons .imm (.cons .imm (.cons .imm (.cons .imm .nil))))) .nil))) .nil)) Z (H3 Z (fun hy=>by exact(Y4 hy:)) ha10) Z ?_)
 refine AOps.E Z Z (.nil (b5 (.j (.gk 2 Z (.J Z h (fun hc57 h=> ?_) (fun hc57 h=> ?_))))))
 ·refine AWP.gk 2 Z (.ret (e7 ?_))
  obtain rfl:=oi h
  exact⟨⟨[(4,.c (.own 2 0 l.length))],[.dead,(oE 4 [int Facts,row 1 intI Init,row 1 intI Goal,row 3 d6 Operators]),(oV 1 b9 l)]⟩,Sub.env ⟨Z,Y⟩,Done.ret Z ⟨Z,Z⟩⟩
 ·refine AWP.skip (b5 (.j (.gk 3 Z (.q ?_))))
  obtain⟨⟨c61,iv62⟩,ho1,h⟩:=bind_some h
  try dsimp only at h
  refine AWP.loopS ho1 (fun(c58,iv59,j60)=>⟨[(0,.c (.own 2 0 c58.length)),(1,.c (.fn 88 [.ptr 1 0 0])),(5,(cI iv59)),(6,(cI j60))],[.dead,(oE 4 [int Facts,row 1 intI Init,row 1 intI Goal,row 3 d6 Operators]),(oV 1 b9 c58)]⟩) (fun(c61,iv62) e st=>e=.exit 0∧Sub (J5 l Facts Init Goal Operators) st ⟨[(0,.c (.own 2 0 c61.length)),(5,(cI iv62))],[.dead,(oE 4 [int Facts,row 1 intI Init,row 1 intI Goal,row 3 d6 Operators]),(oV 1 b9 c61)]⟩) ?_ ?_ ?_
  ·try dsimp only
   exact Sub.en Z
  ·intro s o h
   obtain⟨c58,iv59,j60⟩:=s
   unfold J6 at h
   try dsimp only at h ⊢
   refine AWP.j (.gs 2 Z (S.lenO Z Z Z (fun hl18=>.ge 1 Z (.J Z h (fun hc63 h=> ?_) (fun hc63 h=> ?_)))))
   ·refine AWP.skip (b5 ?_)
    obtain⟨⟨c64,iv65⟩,hx66,h⟩:=bind_some h
    refine AWP.seqJ (⟨[(0,.c (.own 2 0 c64.length)),(1,.c (.fn 88 [.ptr 1 0 0])),(5,(cI iv65)),(6,(cI j60))],[.dead,(oE 4 [int Facts,row 1 intI Init,row 1 intI Goal,row 3 d6 Operators]),(oV 1 b9 c64)]⟩) ?_ ?_
    ·refine AWP.q (.j ?_)
     obtain⟨a24,ha24,hx66⟩:=bind_some hx66
     refine AWP.G 2 Z (S.idxO ha24 Z Z Z Z Z (S.loadO ha24 Z Z Z Z Z (.E Z Z (.nil (b5 (.j ?_))))))
     obtain⟨a28,ha28,hx66⟩:=bind_some hx66
     refine AWP.G 2 Z (.aa Z Z (.cons (.c .imm) (.cons (.c (.ptr (es:=[.val (.int .i64 Facts),.sl 1 (List.map intI Init),.sl 1 (List.map intI Goal),.sl 3 (List.map d6 Operators)]) Z Z (.cons .imm (.cons .imm (.cons .imm (.cons .imm .nil)))))) .nil)) Z (Y4 ha28) Z (.not Z Z (.nil (b5 (.F Z hx66 (fun hc67 hx66=> ?_) (fun hc67 hx66=> ?_))))))
     ·refine AWP.j ?_
      obtain⟨a33,ha33,hx66⟩:=bind_some hx66
      refine AWP.G 3 Z (S.idxO ha33 Z Z Z Z Z (S.storeO1 (f:=b9) (a':=a24) (s7 ha33) (fun _=>⟨_,Z⟩) Z Z Z Z Z ?_))
      refine AOps.nil (b5 (.G 3 Z (.nil (d7 ?_))))
      obtain⟨ej0,ej1⟩:=o2 hx66
      subst ej0 ej1
      refine b5 (Sub.env ⟨(x9 (by first|rfl|simp only[lS])),Z,Z,Z,Y⟩)
     ·refine AWP.skip (d7 ?_)
      obtain⟨ej0,ej1⟩:=o2 hx66
      subst ej0 ej1
      refine b5 (Sub.en Z)
    ·try dsimp only at h
     refine AWP.G 3 Z (.nil ?_)
     obtain rfl:=oi h
     refine b5 ⟨_,Z,?_⟩
     exact Sub.en Z
   ·refine AWP.exit (h9 ?_)
    obtain rfl:=oi h
    refine h9 ⟨_,Z,Z,?_⟩
    exact Sub.en Z
  ·intro e s hq
   obtain⟨rfl,hs⟩:=hq
   refine⟨_,hs,?_⟩
   refine f9 (b5 (.j ?_))
   obtain⟨u38,hu38,h⟩:=bind_some h
   refine AWP.G 2 Z (S.vFrom (B1 c61) hu38 Z Z Z Z Z Z (S.clear (a0:=[]) Z Z Z (fun _ _ _ _=>.imm .slNil) (ab5 (B1 c61) hu38) Z Z Z Z Z ?_))
   refine AOps.nil (b5 (.j ?_))
   obtain⟨u41,hu41,h⟩:=bind_some h
   refine AWP.G 2 Z ?_
   refine S.vTo (B1 (clrL c61 (0+iv62) ((c61.length:Int) - iv62) [])) hu41 Z Z (by rw[Int.toNat_natCast];exact(clrL_len (ab5 (B1 c61) hu38)).symm) Z Z Z ?_
   refine AOps.E Z Z (.nil (b5 (.reown (env':=[(4,.c (.own 3 0 ((n7 (clrL c61 (0+iv62) ((c61.length:Int) - iv62) []) 0 iv62).length)))]) 4 (vw_to (B1 (clrL c61 (0+iv62) ((c61.length:Int) - iv62) [])) hu41) Z Z Z Z Z Z Z Z (by exact⟨.inl ⟨Z,Z⟩,Y⟩) (.ret ?_))))
   obtain rfl:=oi h
   exact⟨⟨[(4,.c (.own 2 0 ((n7 (clrL c61 (0+iv62) ((c61.length:Int) - iv62) []) 0 iv62).length)))],[.dead,(oE 4 [int Facts,row 1 intI Init,row 1 intI Goal,row 3 d6 Operators]),(oV 1 b9 (n7 (clrL c61 (0+iv62) ((c61.length:Int) - iv62) []) 0 iv62))]⟩,(Sub.move (env':=[(4,.c (.own 2 0 ((n7 (clrL c61 (0+iv62) ((c61.length:Int) - iv62) []) 0 iv62).length)))]) (σ':=[.dead,(oE 4 [int Facts,row 1 intI Init,row 1 intI Goal,row 3 d6 Operators]),(oV 1 b9 (n7 (clrL c61 (0+iv62) ((c61.length:Int) - iv62) []) 0 iv62))]) 2 3 Z Z Z ⟨Z,Y⟩ Z ⟨Y,⟨Z,Z⟩,⟨Blk.im_ok _ _ _,i6 Z⟩,Y⟩).trans (Sub.env ⟨Z,Y⟩),Done.ret Z ⟨Z,Z⟩⟩
theorem P8{ov:b7}{l:LL}{r:(LL)}(h:C0 ov l=some r):FnOk prog 41 [.agg (tO ov),.c (.own 0 0 l.length)] (ao2 ov l) (fun tt ss=>tt=.c (.own 3 0 r.length)∧ss=[.dead,.dead,.dead,(oV 1 b9 r)]):=by
 refine FnOk.enter (rs:=[.t 4]) func41 Z ntmps41 results41 Z ⟨Y,Y⟩ (by kernel_rfl) Z ?_
 refine AWP.weak ?_
 unfold C0 at h
 refine AWP.z (env':=[(0,.agg (tO ov)),(1,.c (.own 1 0 l.length))]) (σ':=[.dead,(oV 1 b9 l)]) 1 0 Z Z Z ⟨Z,Z,Y⟩ Z ⟨Y,⟨Blk.im_ok _ _ _,i6 Z⟩,Y⟩ (.gk 2 Z (.j ?_))
 obtain⟨a7,ha7,h⟩:=bind_some h
 refine AWP.G 1 Z (.ab Z Z (.callF (r2:=.c (.own 3 0 a7.length)) (σ'':=[.dead,.dead,(oE 4 (tO ov)),(oV 1 b9 a7)]) Z Z Z (FnOk.lend [1,2] (X0 ha7) Z Z Z Z Z Z (by exact⟨.vec,(.one Z),Y⟩) Z (by exact⟨(.live Z .vec),(.live Z (.one Z)),Y⟩) Z Z (by exact⟨.dead,.dead,(.new 1 Z Z (.one Z)),(.new 2 Z Z .vec),Y⟩)) (.E Z Z (.nil (b5 (.ret ?_))))))
 obtain rfl:=oi h
 exact⟨⟨[(4,.c (.own 3 0 a7.length))],[.dead,.dead,.dead,(oV 1 b9 a7)]⟩,Sub.cut ⟨Z,Y⟩ Z ⟨.dead,.dead,.dead,.vec,Y⟩ Z,Done.ret Z ⟨Z,Z⟩⟩
theorem R7{states:LL}{l:LL}{r:Li×Int}(h:s9 states l=some r):FnOk prog 47 [.agg [row 1 b9 states,.own 0 0 l.length]] (J0 states l) (fun tt ss=>tt=.tup [.c (.own 2 0 r.1.length),(cI r.2)]∧ss=[.dead,.dead,(oV 1 intI r.1)]):=by
 refine FnOk.enter (rs:=[.t 2,.t 3]) func47 Z ntmps47 results47 Z ⟨Y,Y,Y⟩ (by kernel_rfl) Z ?_
 refine AWP.weak ?_
 unfold s9 at h
 refine AWP.moveM (env':=[(0,.agg [row 1 b9 states,.own 1 0 l.length])]) (σ':=[.dead,mat (1,[]) 1 intI l]) 1 0 Z Z Z ⟨Z,Y⟩ Z ⟨.dead,(.mat Z Z Z),Y⟩ (.gk 3 Z (.gs 2 Z (S.lenM Z Z Z (fun hl15=>.ge 1 Z (.gk 3 Z (.gk 1 Z (.j (.gk 2 Z (.q ?_)))))))))
 obtain⟨⟨c55,last56⟩,ho1,h⟩:=bind_some h
 try dsimp only at h
 refine AWP.forH ho1 (fun t57 (c55,last56)=>⟨[(4,(cI (l.length:Int))),(5,.c (.own 1 0 c55.length)),(6,(cI last56)),(18,(cI (l.length:Int))),(19,(cI t57))],[.dead,mat (1,[]) 1 intI c55]⟩) (fun _ _=>Z) ?_ ?_ ?_
 ·try dsimp only
  exact Sub.cut ⟨Z,Z,Z,Z,Z,Y⟩ Z ⟨.dead,.mat Z,Y⟩ Z
 ·intro t57 s o hlot57 hltt57 h
  obtain⟨c55,last56⟩:=s
  unfold y9 at h
  try dsimp only at h ⊢
  refine AWP.j (.q (.gk 2 Z (.gk 2 Z (.j (.q ?_)))))
  obtain⟨u,ho2,h⟩:=bind_some h
  refine AWP.loopS ho2 (fun _=>⟨[(4,(cI (l.length:Int))),(5,.c (.own 1 0 c55.length)),(6,(cI last56)),(7,(cI t57)),(8,(cI t57)),(18,(cI (l.length:Int))),(19,(cI t57))],[.dead,mat (1,[]) 1 intI c55]⟩) (fun _ e st=>e=.exit 2∧Sub (J0 states l) st ⟨[(4,(cI (l.length:Int))),(5,.c (.own 1 0 c55.length)),(6,(cI last56)),(7,(cI t57)),(8,(cI t57)),(18,(cI (l.length:Int))),(19,(cI t57))],[.dead,mat (1,[]) 1 intI c55]⟩) ?_ ?_ ?_
  ·try dsimp only
   exact Sub.en Z
  ·intro s o h
   unfold z2 at h
   try dsimp only at h ⊢
   refine AWP.j ?_
   obtain⟨t58,hx59,h⟩:=bind_some h
   refine AWP.seqJ (⟨[(4,(cI (l.length:Int))),(5,.c (.own 1 0 c55.length)),(6,(cI last56)),(7,(cI t57)),(8,(cI t57)),(18,(cI (l.length:Int))),(19,(cI t57)),(36,(cB t58))],[.dead,mat (1,[]) 1 intI c55]⟩) ?_ ?_
   ·rcases bft (decide (t57<(l.length:Int) - 1)) with hb60|hb60
    ·replace hx59:=M0 hb60 hx59
     obtain⟨a30,ha30,a33,ha33,hx59⟩:=b2 hx59
     refine AWP.G 2 Z (.sub' Z Z Z (by omega) (.G 2 Z (.K Z Z hb60 (.G 2 Z (.O Z Z Z Z (S.idxH ha30 Z Z Z (by simp) Z Z (.O Z Z Z Z (S.loadM ha30 Z Z Z Z (.G 1 Z (.O Z Z Z Z (S.idxO ha33 Z Z (u7 Z ha30) Z Z (.O Z Z Z Z (S.loadO ha33 Z Z (u7 Z ha30) Z Z (.G 2 Z (.nil ?_)))))))))))))))
     obtain rfl:=oi hx59
     refine b5 (Sub.en Z)
    ·replace hx59:=K5 hb60 hx59
     refine AWP.G 2 Z (.sub' Z Z Z (by omega) (.G 2 Z (.K Z Z hb60 (.G 9 Z (.nil ?_)))))
     obtain rfl:=oi hx59
     refine b5 (Sub.en Z)
   ·refine AWP.F Z h (fun hc61 h=> ?_) (fun hc61 h=> ?_)
    ·refine AWP.skip (b5 (.q ?_))
     cases h
    ·refine AWP.exit (h9 ?_)
     obtain rfl:=oi h
     refine h9 ⟨_,Z,Z,?_⟩
     exact Sub.en Z
  ·intro e s hq
   obtain⟨rfl,hs⟩:=hq
   refine⟨_,hs,?_⟩
   refine f9 (b5 (.j ?_))
   obtain⟨a45,ha45,a49,ha49,a51,ha51,h⟩:=b3 h
   obtain⟨a52,ha52,h⟩:=bind_some h
   refine AWP.drawEI [13,15] mixed Z Z Z (b8.D 6 Z Z ?_)
   refine b8.consN Z Z (fun E=>S.idxH ha45 Z Z Z (by simp) Z Z .N) Z (.consN Z Z (fun E=>S.loadM ha45 Z Z Z Z .N) Z ?_)
   refine b8.D 2 Z Z ?_
   refine b8.consN Z Z (fun E=>S.idxH ha49 Z Z Z (by simp) Z Z .N) Z (.consN Z Z (fun E=>S.loadM ha49 Z Z Z Z .N) Z (.consN Z Z (fun E=>S.idxH ha51 Z Z Z (by simp) Z Z .N) Z ?_))
   apply b8.consE (v:=.undef);exact Z;exact Z;intro E
   refine S.storeHS (k:=1) (f:=intI) ha45 Z Z Z .N
   exact Z
   exact Z
   refine b8.consN Z Z (fun E=>S.idxH ha52 Z Z Z (by simp) Z Z .N) Z ?_
   apply b8.consE (v:=.undef);exact Z;exact Z;intro E
   refine S.storeHS (k:=1) (f:=intI) ha49 Z Z Z .N
   exact Z
   exact Z
   refine b8.done Z ?_ ?_
   ·refine d8.D 6 Z Z ?_
    refine d8.cons Z Z (.go Z Z (fun E=>S.idxH ha45 Z Z Z (by simp) Z Z .N) (.skip Z (.skip Z .nil))) (.cons Z Z (.go Z Z (fun E=>S.loadM ha45 Z Z Z Z .N) (.skip Z (.skip Z .nil))) ?_)
    refine d8.D 2 Z Z ?_
    refine d8.cons Z Z (.go Z Z (fun E=>S.idxH ha49 Z Z Z (by simp) Z Z .N) (.skip Z (.skip Z .nil))) (.cons Z Z (.go Z Z (fun E=>S.loadM ha49 Z Z Z Z .N) (.skip Z (.skip Z .nil))) (.cons Z Z (.go Z Z (fun E=>S.idxH ha51 Z Z Z (by simp) Z Z .N) (.skip Z (.skip Z .nil))) ?_))
    refine d8.D 1 Z Z ?_
    refine d8.cons Z Z ?_ ?_
    refine g8.skip Z ?_
    refine g8.go Z Z (fun E=>S.idxH ha52 Z Z Z (by simp) Z Z .N) ?_
    refine g8.skip Z (g8.nil)
    refine d8.D 1 Z Z (d8.nil)
   dsimp only[g9]
   refine b5 (.j (.gk 2 Z (.q ?_)))
   obtain⟨c62,ho3,h⟩:=bind_some h
   refine AWP.forH ho3 (fun t63 c62=>⟨[(4,(cI (l.length:Int))),(5,.c (.own 1 0 c62.length)),(6,(cI last56)),(7,(cI t57)),(18,(cI (l.length:Int))),(19,(cI t57)),(53,(cI (l.length:Int))),(54,(cI t63))],[.dead,mat (1,[]) 1 intI c62]⟩) (fun _ _=>Z) ?_ ?_ ?_
   ·try dsimp only
    exact Sub.en Z
   ·intro t63 c62 o hlot63 hltt63 h
    unfold z7 at h
    try dsimp only at h ⊢
    obtain⟨c64,hx65,h⟩:=bind_some h
    refine AWP.seqJ (⟨[(4,(cI (l.length:Int))),(5,.c (.own 1 0 c64.length)),(6,(cI last56)),(7,(cI t57)),(18,(cI (l.length:Int))),(19,(cI t57)),(53,(cI (l.length:Int))),(54,(cI t63))],[.dead,mat (1,[]) 1 intI c64]⟩) ?_ ?_
    ·refine AWP.q (.gk 2 Z (.j (.gk 3 Z (.J Z hx65 (fun hc66 hx65=> ?_) (fun hc66 hx65=> ?_)))))
     ·refine AWP.exit (h9 (f9 ?_))
      obtain rfl:=oi hx65
      refine b5 (Sub.en Z)
     ·refine AWP.skip (b5 (.j (.gk 2 Z (.q ?_))))
      obtain⟨c69,ho4,hx65⟩:=bind_some hx65
      refine AWP.loopS ho4 (fun(c67,j68)=>⟨[(4,(cI (l.length:Int))),(5,.c (.own 1 0 c67.length)),(6,(cI last56)),(7,(cI t57)),(9,(cI t63)),(10,(cI j68)),(18,(cI (l.length:Int))),(19,(cI t57)),(53,(cI (l.length:Int))),(54,(cI t63))],[.dead,mat (1,[]) 1 intI c67]⟩) (fun c69 e st=>e=.exit 6∧Sub (J0 states l) st ⟨[(4,(cI (l.length:Int))),(5,.c (.own 1 0 c69.length)),(6,(cI last56)),(7,(cI t57)),(9,(cI t63)),(18,(cI (l.length:Int))),(19,(cI t57)),(53,(cI (l.length:Int))),(54,(cI t63))],[.dead,mat (1,[]) 1 intI c69]⟩) ?_ ?_ ?_
      ·try dsimp only
       exact Sub.en Z
      ·intro s o h
       obtain⟨c67,j68⟩:=s
       unfold z1 at h
       try dsimp only at h ⊢
       refine AWP.j (.gk 2 Z (.J Z h (fun hc70 h=> ?_) (fun hc70 h=> ?_)))
       ·refine AWP.skip (b5 ?_)
        obtain⟨c71,hx72,h⟩:=bind_some h
        refine AWP.seqJ (⟨[(4,(cI (l.length:Int))),(5,.c (.own 1 0 c71.length)),(6,(cI last56)),(7,(cI t57)),(9,(cI t63)),(10,(cI j68)),(18,(cI (l.length:Int))),(19,(cI t57)),(53,(cI (l.length:Int))),(54,(cI t63))],[.dead,mat (1,[]) 1 intI c71]⟩) ?_ ?_
        ·refine AWP.q (.gk 3 Z (.iteN Z hx72 (fun hc73 hx72=> ?_) (fun hc73 hx72=> ?_)))
         ·obtain⟨a70,ha70,a75,ha75,a78,ha78,hx72⟩:=b3 hx72
          obtain⟨a82,ha82,a85,ha85,a90,ha90,hx72⟩:=b3 hx72
          obtain⟨a93,ha93,a97,ha97,a100,ha100,hx72⟩:=b3 hx72
          obtain⟨u105,hu105,a106,ha106,hx72⟩:=b2 hx72
          refine AWP.drawEI [39] mixed Z Z Z (b8.D 2 Z Z ?_)
          refine b8.consN Z Z (fun E=>S.idxH ha70 Z Z Z (by simp) Z Z .N) Z (.consN Z Z (fun E=>S.loadM ha70 Z Z Z Z .N) Z ?_)
          refine b8.D 3 Z Z ?_
          refine b8.consN Z Z (fun E=>S.idxH ha75 Z Z Z (by simp) Z Z .N) Z (.consN Z Z (fun E=>S.loadM ha75 Z Z Z Z .N) Z ?_)
          refine b8.D 1 Z Z ?_
          refine b8.consN Z Z (fun E=>S.idxO ha78 Z Z (u7 Z ha75) Z Z .N) Z (.consN Z Z (fun E=>S.loadO ha78 Z Z (u7 Z ha75) Z Z .N) Z ?_)
          refine b8.D 2 Z Z ?_
          refine b8.consN Z Z (fun E=>S.idxH ha82 Z Z Z (by simp) Z Z .N) Z (.consN Z Z (fun E=>S.loadM ha82 Z Z Z Z .N) Z ?_)
          refine b8.D 1 Z Z ?_
          refine b8.consN Z Z (fun E=>S.idxO ha85 Z Z (u7 Z ha82) Z Z .N) Z (.consN Z Z (fun E=>S.loadO ha85 Z Z (u7 Z ha82) Z Z .N) Z ?_)
          refine b8.D 3 Z Z ?_
          refine b8.consN Z Z (fun E=>S.idxH ha90 Z Z Z (by simp) Z Z .N) Z (.consN Z Z (fun E=>S.loadM ha90 Z Z Z Z .N) Z ?_)
          refine b8.D 1 Z Z ?_
          refine b8.consN Z Z (fun E=>S.idxO ha93 Z Z (u7 Z ha90) Z Z .N) Z (.consN Z Z (fun E=>S.loadO ha93 Z Z (u7 Z ha90) Z Z .N) Z ?_)
          refine b8.D 2 Z Z ?_
          refine b8.consN Z Z (fun E=>S.idxH ha97 Z Z Z (by simp) Z Z .N) Z (.consN Z Z (fun E=>S.loadM ha97 Z Z Z Z .N) Z ?_)
          refine b8.D 1 Z Z ?_
          refine b8.consN Z Z (fun E=>S.idxO ha100 Z Z (u7 Z ha97) Z Z .N) Z (.consN Z Z (fun E=>S.loadO ha100 Z Z (u7 Z ha97) Z Z .N) Z ?_)
          refine b8.D 3 Z Z ?_
          refine b8.consN Z Z (fun E=>S.quo hu105 Z Z Z .N) Z (.consN Z Z (fun E=>S.idxO ha106 Z Z (u7 Z ha70) Z Z .N) Z ?_)
          apply b8.consE (v:=.undef);exact Z;exact Z;intro E
          refine S.storeR1 (f:=intI) (a':=w64 ((w64 ((w64 (a78 * a85)) - (w64 (a93 * a100)))).tdiv last56)) (I4 ha70).2 (s7 ha106) (fun _=>⟨_,Z⟩) Z Z Z Z Z ?_
          exact AOps.nil ⟨Z,Z⟩
          exact Z
          exact Z
          refine b8.done Z ?_ ?_
          ·refine d8.D 2 Z Z ?_
           refine d8.cons Z Z (.go Z Z (fun E=>S.idxH ha70 Z Z Z (by simp) Z Z .N) (.skip Z .nil)) (.cons Z Z (.go Z Z (fun E=>S.loadM ha70 Z Z Z Z .N) (.skip Z .nil)) ?_)
           refine d8.D 3 Z Z ?_
           refine d8.cons Z Z (.go Z Z (fun E=>S.idxH ha75 Z Z Z (by simp) Z Z .N) (.skip Z .nil)) (.cons Z Z (.go Z Z (fun E=>S.loadM ha75 Z Z Z Z .N) (.skip Z .nil)) ?_)
           refine d8.D 1 Z Z ?_
           refine d8.cons Z Z (.go Z Z (fun E=>S.idxO ha78 Z Z (u7 Z ha75) Z Z .N) (.skip Z .nil)) (.cons Z Z (.go Z Z (fun E=>S.loadO ha78 Z Z (u7 Z ha75) Z Z .N) (.skip Z .nil)) ?_)
           refine d8.D 2 Z Z ?_
           refine d8.cons Z Z (.go Z Z (fun E=>S.idxH ha82 Z Z Z (by simp) Z Z .N) (.skip Z .nil)) (.cons Z Z (.go Z Z (fun E=>S.loadM ha82 Z Z Z Z .N) (.skip Z .nil)) ?_)
           refine d8.D 1 Z Z ?_
           refine d8.cons Z Z (.go Z Z (fun E=>S.idxO ha85 Z Z (u7 Z ha82) Z Z .N) (.skip Z .nil)) (.cons Z Z (.go Z Z (fun E=>S.loadO ha85 Z Z (u7 Z ha82) Z Z .N) (.skip Z .nil)) ?_)
           refine d8.D 3 Z Z ?_
           refine d8.cons Z Z (.go Z Z (fun E=>S.idxH ha90 Z Z Z (by simp) Z Z .N) (.skip Z .nil)) (.cons Z Z (.go Z Z (fun E=>S.loadM ha90 Z Z Z Z .N) (.skip Z .nil)) ?_)
           refine d8.D 1 Z Z ?_
           refine d8.cons Z Z (.go Z Z (fun E=>S.idxO ha93 Z Z (u7 Z ha90) Z Z .N) (.skip Z .nil)) (.cons Z Z (.go Z Z (fun E=>S.loadO ha93 Z Z (u7 Z ha90) Z Z .N) (.skip Z .nil)) ?_)
           refine d8.D 2 Z Z ?_
           refine d8.cons Z Z (.go Z Z (fun E=>S.idxH ha97 Z Z Z (by simp) Z Z .N) (.skip Z .nil)) (.cons Z Z (.go Z Z (fun E=>S.loadM ha97 Z Z Z Z .N) (.skip Z .nil)) ?_)
           refine d8.D 1 Z Z ?_
           refine d8.cons Z Z (.go Z Z (fun E=>S.idxO ha100 Z Z (u7 Z ha97) Z Z .N) (.skip Z .nil)) (.cons Z Z (.go Z Z (fun E=>S.loadO ha100 Z Z (u7 Z ha97) Z Z .N) (.skip Z .nil)) ?_)
           refine d8.D 3 Z Z ?_
           refine d8.cons Z Z (.go Z Z (fun E=>S.quo hu105 Z Z Z .N) (.skip Z .nil)) (.cons Z Z (.go Z Z (fun E=>S.idxO ha106 Z Z (u7 Z ha70) Z Z .N) (.skip Z .nil)) ?_)
           refine d8.D 1 Z Z (d8.nil)
          dsimp only[g9]
          refine d7 ?_
          obtain rfl:=oi hx72
          refine b5 (Sub.env ⟨Z,(x9 (by first|rfl|simp only[lS])),Z,Z,Z,Z,Z,Z,Z,Z,Y⟩)
         ·refine AWP.skip (d7 ?_)
          obtain rfl:=oi hx72
          refine b5 (Sub.en Z)
        ·refine AWP.G 3 Z (.nil ?_)
         obtain rfl:=oi h
         refine b5 ⟨_,Z,?_⟩
         exact Sub.en Z
       ·refine AWP.exit (h9 ?_)
        obtain rfl:=oi h
        refine h9 ⟨_,Z,Z,?_⟩
        exact Sub.en Z
      ·intro e s hq
       obtain⟨rfl,hs⟩:=hq
       refine⟨_,hs,?_⟩
       refine f9 (b5 ?_)
       obtain⟨a109,ha109,a112,ha112,hx65⟩:=b2 hx65
       refine AWP.G 2 Z (S.idxH ha109 Z Z Z (by simp) Z Z (S.loadM ha109 Z Z Z Z (.z Z Z (S.idxO ha112 Z Z (u7 Z ha109) Z Z (S.storeR1 (f:=intI) (a':=0) (I4 ha109).2 (s7 ha112) (fun _=>⟨_,Z⟩) Z Z Z Z Z ?_)))))
       refine AOps.nil (d7 ?_)
       obtain rfl:=oi hx65
       refine b5 (Sub.env ⟨Z,(x9 (by first|rfl|simp only[lS])),Z,Z,Z,Z,Z,Z,Y⟩)
    ·refine AWP.U (.add Z Z Z (by omega) (.z Z Z (.nil ?_)))
     obtain rfl:=oi h
     refine b5 (Sub.en Z)
   ·intro iz
    try dsimp only
    refine f9 (b5 ?_)
    obtain⟨a116,ha116,a119,ha119,h⟩:=b2 h
    refine AWP.G 2 Z (S.idxH ha116 Z Z Z (by simp) Z Z (S.loadM ha116 Z Z Z Z (.z Z Z (S.idxO ha119 Z Z (u7 Z ha116) Z Z (S.loadO ha119 Z Z (u7 Z ha116) Z Z (.E Z Z (.nil (d7 (b5 (.U (.add Z Z Z (by omega) (.z Z Z (.nil ?_)))))))))))))
    obtain rfl:=oi h
    refine b5 (Sub.en Z)
 ·intro iz
  try dsimp only
  refine f9 (b5 (.j ?_))
  obtain⟨a123,ha123,h⟩:=bind_some h
  refine AWP.G 1 Z (S.make (f:=intI) ha123 (.val .nil) Z Z Z Z Z Z (.E Z Z (.nil (b5 (.j (.gs 1 Z (S.lenO Z Z Z (fun hl125=>.ge 1 Z (.q ?_)))))))))
  obtain⟨c74,ho5,h⟩:=bind_some h
  refine AWP.forH ho5 (fun t75 c74=>⟨[(4,(cI (l.length:Int))),(5,.c (.own 1 0 c55.length)),(6,(cI last56)),(11,.c (.own 2 0 c74.length)),(125,(cI (a123.length:Int))),(126,(cI t75))],[.dead,mat (1,[]) 1 intI c55,(oV 1 intI c74)]⟩) (fun _ _=>Z) ?_ ?_ ?_
  ·try dsimp only
   exact Sub.en Z
  ·intro t75 c74 o hlot75 hltt75 h
   unfold D3 at h
   try dsimp only at h ⊢
   refine AWP.j (.q (.gk 2 Z ?_))
   obtain⟨a133,ha133,a136,ha136,a138,ha138,h⟩:=b3 h
   refine AWP.G 4 Z (S.idxH ha133 Z Z Z (by simp) Z Z (S.loadM ha133 Z Z Z Z (.z Z Z (S.idxO ha136 Z Z (u7 Z ha133) Z Z (S.loadO ha136 Z Z (u7 Z ha133) Z Z (S.idxO ha138 Z Z Z Z Z (S.storeO1 (f:=intI) (a':=a136) (s7 ha138) (fun _=>⟨_,Z⟩) Z Z Z Z Z ?_)))))))
   refine AOps.nil (d7 (b5 (.U (.add Z Z Z (by omega) (.z Z Z (.nil ?_))))))
   obtain rfl:=oi h
   refine b5 (Sub.env ⟨Z,Z,Z,(x9 (by first|rfl|simp only[lS])),Z,Z,Y⟩)
  ·intro iz
   try dsimp only
   refine f9 (b5 (.gk 4 Z (.ret ?_)))
   obtain rfl:=oi h
   exact⟨⟨[(2,.c (.own 2 0 c74.length)),(3,(cI last56))],[.dead,.dead,(oV 1 intI c74)]⟩,Sub.cut ⟨Z,Z,Y⟩ Z ⟨.dead,.dead,.vec,Y⟩ Z,Done.ret Z ⟨Z,Z⟩⟩
theorem ae2{sv:Li}{op:Int}{ov:b7}{states:LL}{den:Int}{l:Li}{l7:Li}{r:Int×Int×Bool}(h:M7 sv op ov states den l l7=some r):FnOk prog 94 [(cP 0 0 0),(cR sv),(cI op)] (Q3 sv op ov states den l l7) (fun tt ss=>tt=.tup [(cI r.1),(cI r.2.1),(cB r.2.2)]∧ss=[(oE 8 [int ov.facts,row 1 intI ov.init,row 1 intI ov.goal,row 3 d6 ov.operators,row 1 b9 states,.own 1 0 l.length,.own 2 0 l7.length,int den]),(oV 1 intI l),(oV 1 intI l7)]):=by
 refine FnOk.enter (rs:=[.t 6,.t 7,.t 8]) func94 Z ntmps94 results94 Z ⟨Y,Y,Y,Y⟩ (by kernel_rfl) Z ?_
 refine AWP.weak ?_
 unfold M7 at h
 refine AWP.gk 3 Z (.j ?_)
 obtain⟨a24,ha24,h⟩:=bind_some h
 refine AWP.G 6 Z (.u Z Z Z Z (w7 ha24) Z (.G 5 Z (.nil (b5 (.gk 2 Z (.j (.gs 1 Z (S.len Z Z (fun hl28=>.ge 1 Z (.q ?_))))))))))
 obtain⟨oo,ho1,h⟩:=bind_some h
 refine AWP.rngH ho1 (fun t63 (sum61,all62)=>⟨[(0,(cP 0 0 0)),(2,(cI op)),(10,(cR a24.2)),(11,(cI sum61)),(12,(cI all62)),(27,.c (row 1 b9 a24.1)),(28,(cI (a24.1.length:Int))),(29,(cI t63))],[(oE 8 [int ov.facts,row 1 intI ov.init,row 1 intI ov.goal,row 3 d6 ov.operators,row 1 b9 states,.own 1 0 l.length,.own 2 0 l7.length,int den]),(oV 1 intI l),(oV 1 intI l7)]⟩) (fun x e st=>e=.ret∧∃J,Sub (Q3 sv op ov states den l l7) st J∧Done [.t 6,.t 7,.t 8] (fun tt ss=>tt=.tup [(cI x.1),(cI x.2.1),(cB x.2.2)]∧ss=[(oE 8 [int ov.facts,row 1 intI ov.init,row 1 intI ov.goal,row 3 d6 ov.operators,row 1 b9 states,.own 1 0 l.length,.own 2 0 l7.length,int den]),(oV 1 intI l),(oV 1 intI l7)]) .ret J) (fun _ _=>Z) ?_ ?_ ?_ ?_
 ·try dsimp only
  exact Sub.en Z
 ·intro t63 s o hlot63 hltt63 h
  obtain⟨sum61,all62⟩:=s
  unfold Q7 at h
  try dsimp only at h ⊢
  refine AWP.seqF (C6) o (fun(sum64,all65)=>⟨[(0,(cP 0 0 0)),(2,(cI op)),(10,(cR a24.2)),(11,(cI sum64)),(12,(cI all65)),(27,.c (row 1 b9 a24.1)),(28,(cI (a24.1.length:Int))),(29,(cI t63))],[(oE 8 [int ov.facts,row 1 intI ov.init,row 1 intI ov.goal,row 3 d6 ov.operators,row 1 b9 states,.own 1 0 l.length,.own 2 0 l7.length,int den]),(oV 1 intI l),(oV 1 intI l7)]⟩) (fun x h=> ?_) ?_
  ·obtain⟨sum64,all65⟩:=x
   unfold C6 at h
   try dsimp only at h ⊢
   refine AWP.U (.add Z Z Z (by omega) (.z Z Z (.nil ?_)))
   obtain rfl:=oi h
   refine b5 ⟨_,Z,?_⟩
   exact Sub.en Z
  ·refine AWP.q (.j ?_)
   obtain⟨a32,ha32,h⟩:=bind_some h
   refine AWP.G 1 Z (S.idx ha32 Z Z Z Z (.G 3 Z (.nil (b5 (.j ?_)))))
   obtain⟨a37,ha37,h⟩:=bind_some h
   refine AWP.G 3 Z (S.idx ha37 Z Z Z Z (.G 3 Z (.nil (b5 (.j (.j ?_))))))
   obtain⟨a46,ha46,h⟩:=bind_some h
   refine AWP.G 6 Z (.u Z Z Z Z (k8 ha46) Z (.nil (b5 (.F Z h (fun hc66 h=> ?_) (fun hc66 h=> ?_)))))
   ·refine AWP.exit (h9 (f9 (b5 ⟨_,h,?_⟩)))
    exact Sub.en Z
   ·refine AWP.skip (b5 (.j ?_))
    obtain⟨a53,ha53,h⟩:=bind_some h
    refine AWP.G 5 Z (.u Z Z Z Z (y4 Z (fun hy=>q8 hy) ha53) Z ?_)
    refine AOps.G 5 Z (.nil (b5 (.j (.gk 2 Z (.F Z h (fun hc67 h=> ?_) (fun hc67 h=> ?_))))))
    ·refine AWP.gk 3 Z (.ret (e7 (g7 (e7 ?_))))
     obtain rfl:=oi h
     refine e7 ⟨_,Z,Z,?_⟩
     exact⟨⟨[(6,(cI 0)),(7,(cI 0)),(8,(cB false))],[(oE 8 [int ov.facts,row 1 intI ov.init,row 1 intI ov.goal,row 3 d6 ov.operators,row 1 b9 states,.own 1 0 l.length,.own 2 0 l7.length,int den]),(oV 1 intI l),(oV 1 intI l7)]⟩,Sub.env ⟨Z,Z,Z,Y⟩,Done.ret Z ⟨Z,Z⟩⟩
    ·refine AWP.skip (b5 ?_)
     obtain⟨a61,ha61,a68,ha68,h⟩:=b2 h
     refine AWP.drawI mixed Z (d5.D 3 Z ?_)
     refine d5.consF Z (fun E=>S.idx ha61 Z Z Z Z .N) Z ?_
     refine d5.D 6 Z ?_
     refine d5.consF Z (fun E=>S.idxO ha68 Z Z Z Z Z .N) Z (.consF Z (fun E=>S.loadO ha68 Z Z Z Z Z .N) Z ?_)
     refine d5.D 3 Z (d5.done ?_)
     dsimp only[g9]
     refine d7 (b5 ⟨_,h,?_⟩)
     exact Sub.en Z
 ·intro iz s he
  obtain⟨sum61,all62⟩:=s
  subst he
  try dsimp only at h ⊢
  refine f9 (b5 (.j ?_))
  obtain⟨a81,ha81,h⟩:=bind_some h
  refine AWP.drawI mixed Z (d5.D 8 Z ?_)
  refine d5.consF Z (fun E=>S.idx ha81 Z Z Z Z .N) Z ?_
  refine d5.D 13 Z (d5.done ?_)
  dsimp only[g9]
  refine b5 (.ret ?_)
  obtain rfl:=oi h
  exact⟨⟨[(6,(cI (w64 (sum61+(w64 ((w64 (all62 * a81.cost)) * den)))))),(7,(cI all62)),(8,(cB true))],[(oE 8 [int ov.facts,row 1 intI ov.init,row 1 intI ov.goal,row 3 d6 ov.operators,row 1 b9 states,.own 1 0 l.length,.own 2 0 l7.length,int den]),(oV 1 intI l),(oV 1 intI l7)]⟩,Sub.env ⟨Z,Z,Z,Y⟩,Done.ret Z ⟨Z,Z⟩⟩
 ·intro x e st he hq
  subst he
  try dsimp only at h hq
  obtain⟨rfl,hs⟩:=hq
  refine⟨_,Sub.refl _ _,?_⟩
  refine g7 (e7 ?_)
  obtain rfl:=oi h
  exact hs
theorem ac1{ov:b7}{states:LL}{den:Int}{l:Li}{l5:Li}{r:Li×Bool}(h:I0 ov states den l l5=some r):FnOk prog 48 [(cP 0 0 0)] (ab6 ov states den l l5) (fun tt ss=>tt=(cB r.2)∧ss=[(oE 8 [int ov.facts,row 1 intI ov.init,row 1 intI ov.goal,row 3 d6 ov.operators,row 1 b9 states,.own 3 0 r.1.length,.own 2 0 l5.length,int den]),(oV 1 intI l),(oV 1 intI l5),(oV 1 intI r.1)]):=by
 refine FnOk.enter (rs:=[.t 2]) func48 Z ntmps48 results48 Z ⟨Y,Y⟩ (by kernel_rfl) Z ?_
 refine AWP.weak ?_
 unfold I0 at h
 refine AWP.gk 1 Z (.gk 1 Z (.j ?_))
 obtain⟨a18,ha18,h⟩:=bind_some h
 refine AWP.G 4 Z (S.freshL (fun _=>Z) Z Z (.cons (.c (.own Z Z)) .nil) Z (A4 ha18) Z Z ?_)
 refine AOps.E Z Z (.nil (b5 (.j (.gs 4 Z (S.len Z Z (fun hl23=>.ge 1 Z (.q ?_)))))))
 obtain⟨⟨c58,better59⟩,ho1,h⟩:=bind_some h
 try dsimp only at h
 refine AWP.forH ho1 (fun t60 (c58,better59)=>⟨[(0,(cP 0 0 0)),(3,(cB better59)),(4,.c (.own 3 0 c58.length)),(22,.c (row 1 b9 states)),(23,(cI (states.length:Int))),(24,(cI t60))],[(oE 8 [int ov.facts,row 1 intI ov.init,row 1 intI ov.goal,row 3 d6 ov.operators,row 1 b9 states,.own 1 0 l.length,.own 2 0 l5.length,int den]),(oV 1 intI l),(oV 1 intI l5),(oV 1 intI c58)]⟩) (fun _ _=>Z) ?_ ?_ ?_
 ·try dsimp only
  exact Sub.en Z
 ·intro t60 s o hlot60 hltt60 h
  obtain⟨c58,better59⟩:=s
  unfold N9 at h
  try dsimp only at h ⊢
  refine AWP.j (.q (.j ?_))
  obtain⟨a27,ha27,h⟩:=bind_some h
  refine AWP.G 1 Z (S.idx ha27 Z Z Z Z (.G 3 Z (.nil (b5 (.gk 3 Z (.j (.gs 5 Z (S.len Z Z (fun hl34=>.ge 1 Z (.q ?_))))))))))
  obtain⟨⟨found61,num62,den63⟩,ho2,h⟩:=bind_some h
  try dsimp only at h
  refine AWP.forH ho2 (fun t64 (found61,num62,den63)=>⟨[(0,(cP 0 0 0)),(3,(cB better59)),(4,.c (.own 3 0 c58.length)),(5,(cI t60)),(6,(cR a27)),(7,(cI found61)),(8,(cI num62)),(9,(cI den63)),(22,.c (row 1 b9 states)),(23,(cI (states.length:Int))),(24,(cI t60)),(34,(cI (ov.operators.length:Int))),(35,(cI t64))],[(oE 8 [int ov.facts,row 1 intI ov.init,row 1 intI ov.goal,row 3 d6 ov.operators,row 1 b9 states,.own 1 0 l.length,.own 2 0 l5.length,int den]),(oV 1 intI l),(oV 1 intI l5),(oV 1 intI c58)]⟩) (fun _ _=>Z) ?_ ?_ ?_
  ·try dsimp only
   exact Sub.en Z
  ·intro t64 s o hlot64 hltt64 h
   obtain⟨found61,num62,den63⟩:=s
   unfold O2 at h
   try dsimp only at h ⊢
   obtain⟨⟨found65,num66,den67⟩,hx68,h⟩:=bind_some h
   refine AWP.seqJ (⟨[(0,(cP 0 0 0)),(3,(cB better59)),(4,.c (.own 3 0 c58.length)),(5,(cI t60)),(6,(cR a27)),(7,(cI found65)),(8,(cI num66)),(9,(cI den67)),(22,.c (row 1 b9 states)),(23,(cI (states.length:Int))),(24,(cI t60)),(34,(cI (ov.operators.length:Int))),(35,(cI t64))],[(oE 8 [int ov.facts,row 1 intI ov.init,row 1 intI ov.goal,row 3 d6 ov.operators,row 1 b9 states,.own 1 0 l.length,.own 2 0 l5.length,int den]),(oV 1 intI l),(oV 1 intI l5),(oV 1 intI c58)]⟩) ?_ ?_
   ·refine AWP.q (.gk 2 Z (.j (.j ?_)))
    obtain⟨a44,ha44,hx68⟩:=bind_some hx68
    refine AWP.G 6 Z (.u Z Z Z Z (T5 ha44) Z (.not Z Z (.nil (b5 (.F Z hx68 (fun hc69 hx68=> ?_) (fun hc69 hx68=> ?_))))))
    ·refine AWP.exit (h9 (f9 ?_))
     obtain⟨ej0,ej1,ej2⟩:=o3 hx68
     subst ej0 ej1 ej2
     refine b5 (Sub.en Z)
    ·refine AWP.skip (b5 (.j ?_))
     obtain⟨a50,ha50,hx68⟩:=bind_some hx68
     refine AWP.G 3 Z (.callF (r2:=.tup [(cI a50.1),(cI a50.2.1),(cB a50.2.2)]) (σ'':=[(oE 8 [int ov.facts,row 1 intI ov.init,row 1 intI ov.goal,row 3 d6 ov.operators,row 1 b9 states,.own 1 0 l.length,.own 2 0 l5.length,int den]),(oV 1 intI l),(oV 1 intI l5),(oV 1 intI c58)]) Z Z Z (FnOk.lend [0,1,2] (ae2 ha50) Z Z Z Z Z Z (by exact⟨(.one Z),.vec,.vec,Y⟩) Z (by exact⟨(.live Z (.one Z)),(.live Z .vec),(.live Z .vec),Y⟩) Z Z (by exact⟨(.new 0 Z Z (.one Z)),(.new 1 Z Z .vec),(.new 2 Z Z .vec),(.old Z Z Z),Y⟩)) (.G 7 Z (.nil (b5 (.seqJ (⟨[(0,(cP 0 0 0)),(3,(cB better59)),(4,.c (.own 3 0 c58.length)),(5,(cI t60)),(6,(cR a27)),(7,(cI found61)),(8,(cI num62)),(9,(cI den63)),(10,(cI t64)),(11,(cI a50.1)),(12,(cI a50.2.1)),(22,.c (row 1 b9 states)),(23,(cI (states.length:Int))),(24,(cI t60)),(34,(cI (ov.operators.length:Int))),(35,(cI t64)),(67,(cB (a50.2.2 && ((decide (found61<0))||(decide (w64 (a50.1 * den63)<w64 (num62 * a50.2.1)))))))],[(oE 8 [int ov.facts,row 1 intI ov.init,row 1 intI ov.goal,row 3 d6 ov.operators,row 1 b9 states,.own 1 0 l.length,.own 2 0 l5.length,int den]),(oV 1 intI l),(oV 1 intI l5),(oV 1 intI c58)]⟩) ?_ ?_)))))
     ·rcases bft (a50.2.2) with hb1|hb1
      ·rcases bft (decide (found61<0)) with hb2|hb2
       ·refine AWP.G 2 Z (.K Z Z hb1 (.G 3 Z (.K Z Z hb2 (.G 9 Z (.nil (b5 ?_))))))
        simp only[U5 hb1,or_t hb1,U5 hb2,or_t hb2,Bool.false_or,Bool.true_or,Bool.false_and,Bool.true_and]
        exact Sub.en Z
       ·refine AWP.G 2 Z (.K Z Z hb1 (.G 3 Z (.K Z Z hb2 (.G 9 Z (.nil (b5 ?_))))))
        simp only[U5 hb1,or_t hb1,and_f hb2,or_f hb2,Bool.false_or,Bool.true_or,Bool.false_and,Bool.true_and]
        exact Sub.en Z
      ·refine AWP.G 2 Z (.K Z Z hb1 (.G 12 Z (.nil (b5 ?_))))
       simp only[and_f hb1,or_f hb1,Bool.false_or,Bool.true_or,Bool.false_and,Bool.true_and]
       exact Sub.en Z
     ·refine AWP.F Z hx68 (fun hc70 hx68=> ?_) (fun hc70 hx68=> ?_)
      ·refine AWP.G 6 Z (.nil (d7 ?_))
       obtain⟨ej0,ej1,ej2⟩:=o3 hx68
       subst ej0 ej1 ej2
       refine b5 (Sub.en Z)
      ·refine AWP.skip (d7 ?_)
       obtain⟨ej0,ej1,ej2⟩:=o3 hx68
       subst ej0 ej1 ej2
       refine b5 (Sub.en Z)
   ·try dsimp only at h
    refine AWP.U (.add Z Z Z (by omega) (.z Z Z (.nil ?_)))
    obtain rfl:=oi h
    refine b5 (Sub.en Z)
  ·intro iz
   try dsimp only
   refine f9 (b5 ?_)
   obtain⟨better71,hx72,h⟩:=bind_some h
   refine AWP.seqJ (⟨[(0,(cP 0 0 0)),(3,(cB better71)),(4,.c (.own 3 0 c58.length)),(5,(cI t60)),(7,(cI found61)),(22,.c (row 1 b9 states)),(23,(cI (states.length:Int))),(24,(cI t60))],[(oE 8 [int ov.facts,row 1 intI ov.init,row 1 intI ov.goal,row 3 d6 ov.operators,row 1 b9 states,.own 1 0 l.length,.own 2 0 l5.length,int den]),(oV 1 intI l),(oV 1 intI l5),(oV 1 intI c58)]⟩) ?_ ?_
   ·rcases bft (better59) with hb73|hb73
    ·replace hx72:=J2 hb73 hx72
     refine AWP.G 2 Z (.K Z Z hb73 (.G 13 Z (.nil ?_)))
     obtain rfl:=oi hx72
     refine b5 (Sub.en Z)
    ·replace hx72:=J4 hb73 hx72
     obtain⟨a80,ha80,hx72⟩:=bind_some hx72
     refine AWP.G 2 Z (.K Z Z hb73 (.G 6 Z (.O Z Z Z Z (S.idxO ha80 Z Z Z Z Z (.O Z Z Z Z (S.loadO ha80 Z Z Z Z Z (.G 5 Z (.nil ?_))))))))
     obtain rfl:=oi hx72
     refine b5 (Sub.en Z)
   ·obtain⟨a89,ha89,h⟩:=bind_some h
    refine AWP.G 3 Z (S.idxO ha89 Z Z Z Z Z (S.storeO1 (f:=intI) (a':=found61) (s7 ha89) (fun _=>⟨_,Z⟩) Z Z Z Z Z ?_))
    refine AOps.nil (d7 (b5 (.U (.add Z Z Z (by omega) (.z Z Z (.nil ?_))))))
    obtain rfl:=oi h
    refine b5 (Sub.env ⟨Z,Z,(x9 (by first|rfl|simp only[lS])),Z,Z,Z,Y⟩)
 ·intro iz
  try dsimp only
  refine f9 (b5 (.gk 5 Z (.gk 2 Z (.ret ?_))))
  obtain rfl:=oi h
  exact⟨⟨[(2,(cB better59))],[(oE 8 [int ov.facts,row 1 intI ov.init,row 1 intI ov.goal,row 3 d6 ov.operators,row 1 b9 states,.own 3 0 c58.length,.own 2 0 l5.length,int den]),(oV 1 intI l),(oV 1 intI l5),(oV 1 intI c58)]⟩,Sub.env ⟨Z,Y⟩,Done.ret Z ⟨Z,Z⟩⟩
end Ab
end
section
namespace Ab
open Go Go.Proofs
open Tryz
set_option maxHeartbeats 4000000
set_option linter.all false
attribute [local irreducible] AWP AOps thn inB Done e8 m8 Sub
theorem T2{sv:Li}{ov:b7}{states:LL}{den:Int}{l:Li}{l6:Li}{r:Int}(h:G9 sv ov states den l l6=some r):FnOk prog 46 [(cP 0 0 0),(cR sv)] (ah6 sv ov states den l l6) (fun tt ss=>tt=(cI r)∧ss=[(oE 8 [int ov.facts,row 1 intI ov.init,row 1 intI ov.goal,row 3 d6 ov.operators,row 1 b9 states,.own 1 0 l.length,.own 2 0 l6.length,int den]),(oV 1 intI l),(oV 1 intI l6)]):=by
 refine FnOk.enter (rs:=[.t 4]) func46 Z ntmps46 results46 Z ⟨Y,Y⟩ (by kernel_rfl) Z ?_
 refine AWP.weak ?_
 unfold G9 at h
 refine AWP.gk 1 Z (.j ?_)
 obtain⟨a14,ha14,a15,ha15,h⟩:=b2 h
 refine AWP.drawI mixed Z (d5.D 9 Z ?_)
 refine d5.consF Z (fun E=>.u Z Z Z Z (m6 ha14) Z .N) Z (.consF Z (fun E=>S.idxO ha15 Z Z Z Z Z .N) Z (.consF Z (fun E=>S.loadO ha15 Z Z Z Z Z .N) Z ?_))
 refine d5.D 1 Z (d5.done ?_)
 dsimp only[g9]
 refine b5 (.ret ?_)
 obtain rfl:=oi h
 exact⟨⟨[(4,(cI a15))],[(oE 8 [int ov.facts,row 1 intI ov.init,row 1 intI ov.goal,row 3 d6 ov.operators,row 1 b9 states,.own 1 0 l.length,.own 2 0 l6.length,int den]),(oV 1 intI l),(oV 1 intI l6)]⟩,Sub.env ⟨Z,Y⟩,Done.ret Z ⟨Z,Z⟩⟩
theorem aj3{ov:b7}{states:LL}{ov3:b7}{states4:LL}{den:Int}{l:Li}{l7:Li}{r:(LL)}(h:P9 ov states ov3 states4 den l l7=some r):FnOk prog 45 [.agg (tO ov),.c (row 1 b9 states),.c (.fnb 46 [.ptr 0 0 0])] (aj5 ov states ov3 states4 den l l7) (fun tt ss=>tt=.agg [row 1 b9 states,.own 6 0 r.length]∧ss=[(oE 8 [int ov3.facts,row 1 intI ov3.init,row 1 intI ov3.goal,row 3 d6 ov3.operators,row 1 b9 states4,.own 1 0 l.length,.own 2 0 l7.length,int den]),(oV 1 intI l),(oV 1 intI l7),.dead,(oE 2 [row 1 b9 states,.own 6 0 r.length]),.dead,mat (6,[]) 1 intI r]):=by
 refine FnOk.enter (rs:=[.cell 6 86 2]) func45 Z ntmps45 results45 Z ⟨rv _ Z,Y⟩ (by kernel_rfl) Z ?_
 refine AWP.weak ?_
 unfold P9 at h
 refine AWP.gk 2 Z (.gk 4 Z (.j (.gs 1 Z (S.len Z Z (fun hl19=>.ge 1 Z (.q (.virtBM 1 intI (b:=5) (o:=1) Z Z Z Z Z Z Z Z ?_)))))))
 obtain⟨c59,ho1,h⟩:=bind_some h
 refine AWP.forH ho1 (fun t60 c59=>⟨[(1,.c (row 1 b9 states)),(2,.c (.fnb 46 [.ptr 0 0 0])),(3,(cP 3 0 0)),(6,(cP 4 0 0)),(7,(cP 5 0 0)),(18,.c (row 1 b9 states)),(19,(cI (states.length:Int))),(20,(cI t60))],[(oE 8 [int ov3.facts,row 1 intI ov3.init,row 1 intI ov3.goal,row 3 d6 ov3.operators,row 1 b9 states4,.own 1 0 l.length,.own 2 0 l7.length,int den]),(oV 1 intI l),(oV 1 intI l7),(oE 4 (tO ov)),(oE 2 [.imm (.val nL),.imm (.val nL)]),(oE 2 [row 1 b9 states,.own 6 0 c59.length]),mat (6,[]) 1 intI c59]⟩) (fun _ _=>Z) ?_ ?_ ?_
 ·try dsimp only
  exact Sub.en Z
 ·intro t60 c59 o hlot60 hltt60 h
  unfold T8 at h
  try dsimp only at h ⊢
  refine AWP.j (.q (.j ?_))
  obtain⟨a23,ha23,h⟩:=bind_some h
  refine AWP.G 1 Z (S.idx ha23 Z Z Z Z (.G 3 Z (.nil (b5 (.j ?_)))))
  obtain⟨a28,ha28,h⟩:=bind_some h
  refine AWP.G 1 Z (S.len Z Z (fun hl26=>S.add Z Z Z (S.make (f:=intI) ha28 (.val .nil) Z Z Z Z Z Z (.E Z Z (.nil (b5 (.j ?_)))))))
  obtain⟨a31,ha31,h⟩:=bind_some h
  refine AWP.G 2 Z (.callFB (r2:=(cI a31)) (σ'':=[(oE 8 [int ov3.facts,row 1 intI ov3.init,row 1 intI ov3.goal,row 3 d6 ov3.operators,row 1 b9 states4,.own 1 0 l.length,.own 2 0 l7.length,int den]),(oV 1 intI l),(oV 1 intI l7),(oE 4 (tO ov)),(oE 2 [.imm (.val nL),.imm (.val nL)]),(oE 2 [row 1 b9 states,.own 6 0 c59.length]),mat (6,[]) 1 intI c59,(oV 1 intI a28)]) Z Z Z (FnOk.lend [0,1,2] (T2 ha31) Z Z Z Z Z Z (by exact⟨(.one Z),.vec,.vec,Y⟩) Z (by exact⟨(.live Z (.one Z)),(.live Z .vec),(.live Z .vec),Y⟩) Z Z (by exact⟨(.new 0 Z Z (.one Z)),(.new 1 Z Z .vec),(.new 2 Z Z .vec),(.old Z Z Z),(.old Z Z Z),(.old Z Z Z),(.old Z Z Z),(.old Z Z Z),Y⟩)) (.E Z Z (.nil (b5 (.j ?_)))))
  obtain⟨a36,ha36,h⟩:=bind_some h
  refine AWP.G 3 Z (.u Z Z Z Z (w7 ha36) Z (.G 5 Z (.nil (b5 (.j (.gs 1 Z (S.len Z Z (fun hl40=>.ge 1 Z (.q ?_)))))))))
  obtain⟨c61,ho2,h⟩:=bind_some h
  refine AWP.forH ho2 (fun t62 c61=>⟨[(1,.c (row 1 b9 states)),(2,.c (.fnb 46 [.ptr 0 0 0])),(3,(cP 3 0 0)),(6,(cP 4 0 0)),(7,(cP 5 0 0)),(8,(cI t60)),(10,.c (.own 7 0 c61.length)),(11,(cI a31)),(13,(cR a36.2)),(18,.c (row 1 b9 states)),(19,(cI (states.length:Int))),(20,(cI t60)),(39,.c (row 1 b9 a36.1)),(40,(cI (a36.1.length:Int))),(41,(cI t62))],[(oE 8 [int ov3.facts,row 1 intI ov3.init,row 1 intI ov3.goal,row 3 d6 ov3.operators,row 1 b9 states4,.own 1 0 l.length,.own 2 0 l7.length,int den]),(oV 1 intI l),(oV 1 intI l7),(oE 4 (tO ov)),(oE 2 [.imm (.val nL),.imm (.val nL)]),(oE 2 [row 1 b9 states,.own 6 0 c59.length]),mat (6,[]) 1 intI c59,(oV 1 intI c61)]⟩) (fun _ _=>Z) ?_ ?_ ?_
  ·try dsimp only
   exact Sub.en Z
  ·intro t62 c61 o hlot62 hltt62 h
   unfold U2 at h
   try dsimp only at h ⊢
   obtain⟨c63,hx64,h⟩:=bind_some h
   refine AWP.seqJ (⟨[(1,.c (row 1 b9 states)),(2,.c (.fnb 46 [.ptr 0 0 0])),(3,(cP 3 0 0)),(6,(cP 4 0 0)),(7,(cP 5 0 0)),(8,(cI t60)),(10,.c (.own 7 0 c63.length)),(11,(cI a31)),(13,(cR a36.2)),(18,.c (row 1 b9 states)),(19,(cI (states.length:Int))),(20,(cI t60)),(39,.c (row 1 b9 a36.1)),(40,(cI (a36.1.length:Int))),(41,(cI t62))],[(oE 8 [int ov3.facts,row 1 intI ov3.init,row 1 intI ov3.goal,row 3 d6 ov3.operators,row 1 b9 states4,.own 1 0 l.length,.own 2 0 l7.length,int den]),(oV 1 intI l),(oV 1 intI l7),(oE 4 (tO ov)),(oE 2 [.imm (.val nL),.imm (.val nL)]),(oE 2 [row 1 b9 states,.own 6 0 c59.length]),mat (6,[]) 1 intI c59,(oV 1 intI c63)]⟩) ?_ ?_
   ·refine AWP.q (.j ?_)
    obtain⟨a44,ha44,hx64⟩:=bind_some hx64
    refine AWP.G 1 Z (S.idx ha44 Z Z Z Z (.G 3 Z (.nil (b5 (.j ?_)))))
    obtain⟨a48,ha48,a52,ha52,a55,ha55,hx64⟩:=b3 hx64
    refine AWP.drawEI [10] mixed Z Z Z (b8.D 2 Z Z ?_)
    refine b8.consN Z Z (fun E=>S.idxO ha48 Z Z Z Z Z .N) Z (.consN Z Z (fun E=>S.loadO ha48 Z Z Z Z Z .N) Z ?_)
    refine b8.D 2 Z Z ?_
    refine b8.consN Z Z (fun E=>S.idx ha52 Z Z Z Z .N) Z ?_
    refine b8.D 2 Z Z ?_
    refine b8.consN Z Z (fun E=>S.idxO ha55 Z Z Z Z Z .N) Z ?_
    apply b8.consE (v:=.undef);exact Z;exact Z;intro E
    refine S.storeO1 (f:=intI) (a':=w64 (a48+a52)) (s7 ha55) (fun _=>⟨_,Z⟩) Z Z Z Z Z ?_
    exact AOps.nil ⟨Z,Z⟩
    exact Z
    exact Z
    refine b8.done Z ?_ ?_
    ·refine d8.D 2 Z Z ?_
     refine d8.cons Z Z (.go Z Z (fun E=>S.idxO ha48 Z Z Z Z Z .N) (.skip Z .nil)) (.cons Z Z (.go Z Z (fun E=>S.loadO ha48 Z Z Z Z Z .N) (.skip Z .nil)) ?_)
     refine d8.D 2 Z Z ?_
     refine d8.cons Z Z (.go Z Z (fun E=>S.idx ha52 Z Z Z Z .N) (.skip Z .nil)) ?_
     refine d8.D 2 Z Z ?_
     refine d8.cons Z Z (.go Z Z (fun E=>S.idxO ha55 Z Z Z Z Z .N) (.skip Z .nil)) ?_
     refine d8.D 1 Z Z (d8.nil)
    dsimp only[g9]
    refine b5 (.j ?_)
    obtain⟨a59,ha59,a63,ha63,a68,ha68,hx64⟩:=b3 hx64
    obtain⟨a73,ha73,hx64⟩:=bind_some hx64
    refine AWP.drawEI [18] mixed Z Z Z (b8.D 2 Z Z ?_)
    refine b8.consN Z Z (fun E=>S.len Z Z (fun hl58=>.nil ⟨Z,Z⟩)) Z (.consN Z Z (fun E=>S.idxO ha59 Z (by simp only[lS]) Z Z Z .N) Z (.consN Z Z (fun E=>S.loadO ha59 Z Z Z Z Z .N) Z ?_))
    refine b8.D 2 Z Z ?_
    refine b8.consN Z Z (fun E=>S.idx ha63 Z Z Z Z .N) Z ?_
    refine b8.D 4 Z Z ?_
    refine b8.consN Z Z (fun E=>S.idx ha68 Z Z Z Z .N) Z ?_
    refine b8.D 4 Z Z ?_
    refine b8.consN Z Z (fun E=>S.idxO ha73 Z (by simp only[lS]) Z Z Z .N) Z ?_
    apply b8.consE (v:=.undef);exact Z;exact Z;intro E
    refine S.storeO1 (f:=intI) (a':=w64 (a59+(w64 (a63 * a68.cost)))) (s7 ha73) (fun _=>⟨_,Z⟩) Z Z Z Z Z ?_
    exact AOps.nil ⟨Z,Z⟩
    exact Z
    exact Z
    refine b8.done Z ?_ ?_
    ·refine d8.D 2 Z Z ?_
     refine d8.cons Z Z ?_ ?_
     apply g8.go;exact Z;exact Z;intro E;refine S.len Z Z (fun hl58=> ?_);exact AOps.nil ⟨Z,Z⟩
     refine g8.skip Z (g8.nil)
     refine d8.cons Z Z (.go Z Z (fun E=>S.idxO ha59 Z (by simp only[lS]) Z Z Z .N) (.skip Z .nil)) (.cons Z Z (.go Z Z (fun E=>S.loadO ha59 Z Z Z Z Z .N) (.skip Z .nil)) ?_)
     refine d8.D 2 Z Z ?_
     refine d8.cons Z Z (.go Z Z (fun E=>S.idx ha63 Z Z Z Z .N) (.skip Z .nil)) ?_
     refine d8.D 4 Z Z ?_
     refine d8.cons Z Z (.go Z Z (fun E=>S.idx ha68 Z Z Z Z .N) (.skip Z .nil)) ?_
     refine d8.D 4 Z Z ?_
     refine d8.cons Z Z (.go Z Z (fun E=>S.idxO ha73 Z (by simp only[lS]) Z Z Z .N) (.skip Z .nil)) ?_
     refine d8.D 1 Z Z (d8.nil)
    dsimp only[g9]
    refine b5 (.j ?_)
    obtain⟨a77,ha77,hx64⟩:=bind_some hx64
    refine AWP.G 3 Z (.u Z Z Z Z (k8 ha77) Z (.not Z Z (.nil (b5 (.F Z hx64 (fun hc65 hx64=> ?_) (fun hc65 hx64=> ?_))))))
    ·obtain⟨a82,ha82,a83,ha83,a87,ha87,hx64⟩:=b3 hx64
     obtain⟨a90,ha90,hx64⟩:=bind_some hx64
     refine AWP.drawEI [12] mixed Z Z Z (b8.D 3 Z Z ?_)
     refine b8.consN Z Z (fun E=>.u Z Z Z Z (m6 ha82) Z .N) Z (.consN Z Z (fun E=>S.idxO ha83 Z (by simp only[lS]) Z Z Z .N) Z (.consN Z Z (fun E=>S.loadO ha83 Z Z Z Z Z .N) Z ?_))
     refine b8.D 2 Z Z ?_
     refine b8.consN Z Z (fun E=>S.idx ha87 Z Z Z Z .N) Z ?_
     refine b8.D 2 Z Z ?_
     refine b8.consN Z Z (fun E=>S.idxO ha90 Z (by simp only[lS]) Z Z Z .N) Z ?_
     apply b8.consE (v:=.undef);exact Z;exact Z;intro E
     refine S.storeO1 (f:=intI) (a':=w64 (a83 - a87)) (s7 ha90) (fun _=>⟨_,Z⟩) Z Z Z Z Z ?_
     exact AOps.nil ⟨Z,Z⟩
     exact Z
     exact Z
     refine b8.done Z ?_ ?_
     ·refine d8.D 3 Z Z ?_
      refine d8.cons Z Z (.go Z Z (fun E=>.u Z Z Z Z (m6 ha82) Z .N) (.skip Z .nil)) (.cons Z Z (.go Z Z (fun E=>S.idxO ha83 Z (by simp only[lS]) Z Z Z .N) (.skip Z .nil)) (.cons Z Z (.go Z Z (fun E=>S.loadO ha83 Z Z Z Z Z .N) (.skip Z .nil)) ?_))
      refine d8.D 2 Z Z ?_
      refine d8.cons Z Z (.go Z Z (fun E=>S.idx ha87 Z Z Z Z .N) (.skip Z .nil)) ?_
      refine d8.D 2 Z Z ?_
      refine d8.cons Z Z (.go Z Z (fun E=>S.idxO ha90 Z (by simp only[lS]) Z Z Z .N) (.skip Z .nil)) ?_
      refine d8.D 1 Z Z (d8.nil)
     dsimp only[g9]
     refine d7 ?_
     obtain rfl:=oi hx64
     refine b5 (Sub.env ⟨Z,Z,Z,Z,Z,Z,(x9 (by first|rfl|simp only[lS])),Z,Z,Z,Z,Z,Z,Z,Z,Y⟩)
    ·refine AWP.skip (d7 ?_)
     obtain rfl:=oi hx64
     refine b5 (Sub.env ⟨Z,Z,Z,Z,Z,Z,(x9 (by first|rfl|simp only[lS])),Z,Z,Z,Z,Z,Z,Z,Z,Y⟩)
   ·refine AWP.U (.add Z Z Z (by omega) (.z Z Z (.nil ?_)))
    obtain rfl:=oi h
    refine b5 (Sub.en Z)
  ·intro iz
   try dsimp only
   refine f9 (b5 ?_)
   obtain⟨a96,ha96,h⟩:=bind_some h
   refine AWP.G 3 Z (W.lit1 Z Z Z Z Z Z Z Z Z (S.appendMR (k:=1) (f:=intI) (a:=c61) ha96 Z Z Z Z Z Z Z Z Z Z Z Z Z Z Z Z (.G 2 Z (.nil (d7 (b5 (.moveM (env':=[(1,.c (row 1 b9 states)),(2,.c (.fnb 46 [.ptr 0 0 0])),(3,(cP 3 0 0)),(6,(cP 4 0 0)),(7,(cP 5 0 0)),(18,.c (row 1 b9 states)),(19,(cI (states.length:Int))),(20,(cI t60))]) (σ':=[(oE 8 [int ov3.facts,row 1 intI ov3.init,row 1 intI ov3.goal,row 3 d6 ov3.operators,row 1 b9 states4,.own 1 0 l.length,.own 2 0 l7.length,int den]),(oV 1 intI l),(oV 1 intI l7),(oE 4 (tO ov)),(oE 2 [.imm (.val nL),.imm (.val nL)]),(oE 2 [row 1 b9 states,.own 6 0 a96.length]),mat (6,[]) 1 intI a96,.dead,(o1 (.own 7 0 c61.length))]) 6 9 Z Z Z ⟨Z,Z,Z,Z,Z,Z,Z,Z,Y⟩ Z ⟨(.one Z Z),(.vec Z),(.vec Z),(.one Z Z),(.one Z Z),(.one Z Z),(.mat Z Z Z),.dead,(.one Z Z),Y⟩ (.U (.add Z Z Z (by omega) (.z Z Z (.nil ?_)))))))))))
   obtain rfl:=oi h
   refine b5 (Sub.cut ⟨Z,Z,Z,Z,Z,Z,Z,Z,Y⟩ Z ⟨.one Z,.vec,.vec,.one Z,.one Z,.one Z,.mat Z,Y⟩ Z)
 ·intro iz
  try dsimp only
  refine f9 (b5 (.gk 2 Z (.ret ?_)))
  obtain rfl:=oi h
  exact⟨⟨[(6,(cP 4 0 0))],[(oE 8 [int ov3.facts,row 1 intI ov3.init,row 1 intI ov3.goal,row 3 d6 ov3.operators,row 1 b9 states4,.own 1 0 l.length,.own 2 0 l7.length,int den]),(oV 1 intI l),(oV 1 intI l7),.dead,(oE 2 [row 1 b9 states,.own 6 0 c59.length]),.dead,mat (6,[]) 1 intI c59]⟩,Sub.cut ⟨Z,Y⟩ Z ⟨.one Z,.vec,.vec,.dead,.one Z,.dead,.mat Z,Y⟩ Z,Done.ret Z ⟨Z,Z⟩⟩
theorem ap8{ov:b7}{ov2:b7}{states:LL}{den:Int}{l:Li}{l6:Li}{r:(List d9)×Bool}(h:aa4 ov ov2 states den l l6=some r):FnOk prog 50 [.agg (tO ov),.c (.fnb 46 [.ptr 0 0 0])] (T3 ov ov2 states den l l6) (fun tt ss=>tt=.tup [.c (row 2 f5 r.1),(cB r.2)]∧ss=[(oE 8 [int ov2.facts,row 1 intI ov2.init,row 1 intI ov2.goal,row 3 d6 ov2.operators,row 1 b9 states,.own 1 0 l.length,.own 2 0 l6.length,int den]),(oV 1 intI l),(oV 1 intI l6)]):=by
 refine FnOk.enter (rs:=[.t 4,.t 5]) func50 Z ntmps50 results50 Z ⟨Y,Y,Y⟩ (by kernel_rfl) Z ?_
 refine AWP.weak ?_
 unfold aa4 at h
 refine AWP.gk 3 Z (.gk 1 Z (.gs 2 Z (S.lit (f:=b9) (l:=[ov.init]) (ess:=[[row 1 intI ov.init]]) Z Z Z Z Z Z Z ⟨⟨.inl Z,Y⟩,Y⟩ Z Z Z (.ge 1 Z (.j (.gk 1 Z (.q (.virtV 2 f5 6 Z Z Z ?_))))))))
 obtain⟨oo,ho1,h⟩:=bind_some h
 refine AWP.loopS ho1 (fun(c59,c60,atv61)=>⟨[(1,.c (.fnb 46 [.ptr 0 0 0])),(2,(cP 3 0 0)),(6,.c (.own 5 0 c60.length)),(7,.c (.own 4 0 c59.length)),(8,(cI atv61))],[(oE 8 [int ov2.facts,row 1 intI ov2.init,row 1 intI ov2.goal,row 3 d6 ov2.operators,row 1 b9 states,.own 1 0 l.length,.own 2 0 l6.length,int den]),(oV 1 intI l),(oV 1 intI l6),(oE 4 (tO ov)),(oV 1 b9 c59),(oV 2 f5 c60)]⟩) (fun o e st=>match o with| .inl c62=>e=.exit 0∧Sub (T3 ov ov2 states den l l6) st ⟨[(6,.c (.own 5 0 c62.length))],[(oE 8 [int ov2.facts,row 1 intI ov2.init,row 1 intI ov2.goal,row 3 d6 ov2.operators,row 1 b9 states,.own 1 0 l.length,.own 2 0 l6.length,int den]),(oV 1 intI l),(oV 1 intI l6),.dead,.dead,(oV 2 f5 c62)]⟩| .inr x=>e=.ret∧∃J,Sub (T3 ov ov2 states den l l6) st J∧Done [.t 4,.t 5] (fun tt ss=>tt=.tup [.c (row 2 f5 x.1),(cB x.2)]∧ss=[(oE 8 [int ov2.facts,row 1 intI ov2.init,row 1 intI ov2.goal,row 3 d6 ov2.operators,row 1 b9 states,.own 1 0 l.length,.own 2 0 l6.length,int den]),(oV 1 intI l),(oV 1 intI l6)]) .ret J) ?_ ?_ ?_
 ·try dsimp only
  exact Sub.env ⟨Z,Z,(x9 (by first|rfl|simp only[lS])),Z,Z,Y⟩
 ·intro s o h
  obtain⟨c59,c60,atv61⟩:=s
  unfold ad6 at h
  try dsimp only at h ⊢
  refine AWP.j (.gs 2 Z (S.lenO Z Z Z (fun hl20=>.ge 1 Z (.J Z h (fun hc63 h=> ?_) (fun hc63 h=> ?_)))))
  ·refine AWP.skip (b5 (.seqF ((N0 atv61)) o (fun(c64,c65)=>⟨[(1,.c (.fnb 46 [.ptr 0 0 0])),(2,(cP 3 0 0)),(6,.c (.own 5 0 c65.length)),(7,.c (.own 4 0 c64.length)),(8,(cI atv61))],[(oE 8 [int ov2.facts,row 1 intI ov2.init,row 1 intI ov2.goal,row 3 d6 ov2.operators,row 1 b9 states,.own 1 0 l.length,.own 2 0 l6.length,int den]),(oV 1 intI l),(oV 1 intI l6),(oE 4 (tO ov)),(oV 1 b9 c64),(oV 2 f5 c65)]⟩) (fun x h=> ?_) ?_))
   ·obtain⟨c64,c65⟩:=x
    unfold N0 at h
    try dsimp only at h ⊢
    refine AWP.G 3 Z (.nil ?_)
    obtain rfl:=oi h
    refine b5 ⟨_,Z,?_⟩
    exact Sub.en Z
   ·refine AWP.q (.j ?_)
    obtain⟨a26,ha26,h⟩:=bind_some h
    refine AWP.G 2 Z (S.idxO ha26 Z Z Z Z Z (S.loadO ha26 Z Z Z Z Z (.E Z Z (.nil (b5 (.j ?_))))))
    obtain⟨t66,hx67,h⟩:=bind_some h
    refine AWP.seqJ (⟨[(1,.c (.fnb 46 [.ptr 0 0 0])),(2,(cP 3 0 0)),(6,.c (.own 5 0 c60.length)),(7,.c (.own 4 0 c59.length)),(8,(cI atv61)),(9,(cR a26)),(37,(cB t66))],[(oE 8 [int ov2.facts,row 1 intI ov2.init,row 1 intI ov2.goal,row 3 d6 ov2.operators,row 1 b9 states,.own 1 0 l.length,.own 2 0 l6.length,int den]),(oV 1 intI l),(oV 1 intI l6),(oE 4 (tO ov)),(oV 1 b9 c59),(oV 2 f5 c60)]⟩) ?_ ?_
    ·obtain⟨a31,ha31,hx67⟩:=bind_some hx67
     rcases bft (a31) with hb68|hb68
     ·replace hx67:=J2 hb68 hx67
      refine AWP.G 3 Z (.u Z Z Z Z (k8 ha31) Z (.z Z Z (.K Z Z hb68 (.G 5 Z (.nil ?_)))))
      obtain rfl:=oi hx67
      refine b5 (Sub.en Z)
     ·replace hx67:=J4 hb68 hx67
      obtain⟨a35,ha35,hx67⟩:=bind_some hx67
      refine AWP.G 3 Z (.u Z Z Z Z (k8 ha31) Z (.z Z Z (.K Z Z hb68 (.G 2 Z (.O Z Z Z Z (.aa Z Z (.cons (.c (.own Z Z)) (.cons (.c .imm) .nil)) Z (E6 ha35) Z (.G 2 Z (.nil ?_))))))))
      obtain rfl:=oi hx67
      refine b5 (Sub.en Z)
    ·refine AWP.F Z h (fun hc69 h=> ?_) (fun hc69 h=> ?_)
     ·refine AWP.exit (h9 (f9 (b5 ⟨_,h,?_⟩)))
      exact Sub.en Z
     ·refine AWP.skip (b5 (.j (.gs 1 Z (S.lenO Z Z Z (fun hl39=>.ge 1 Z (.J Z h (fun hc70 h=> ?_) (fun hc70 h=> ?_)))))))
      ·refine AWP.gk 2 Z (.nilrow 2 4 Z (.ret (e7 (g7 (e7 ?_)))))
       obtain rfl:=oi h
       refine e7 ⟨_,Z,Z,?_⟩
       exact⟨⟨[(4,.c (row 2 f5 [])),(5,(cB false))],[(oE 8 [int ov2.facts,row 1 intI ov2.init,row 1 intI ov2.goal,row 3 d6 ov2.operators,row 1 b9 states,.own 1 0 l.length,.own 2 0 l6.length,int den]),(oV 1 intI l),(oV 1 intI l6)]⟩,Sub.cut ⟨Z,Z,Y⟩ Z ⟨.one Z,.vec,.vec,Y⟩ Z,Done.ret Z ⟨Z,Z⟩⟩
      ·refine AWP.skip (b5 (.j ?_))
       obtain⟨a43,ha43,h⟩:=bind_some h
       refine AWP.G 2 Z (.callFB (r2:=(cI a43)) (σ'':=[(oE 8 [int ov2.facts,row 1 intI ov2.init,row 1 intI ov2.goal,row 3 d6 ov2.operators,row 1 b9 states,.own 1 0 l.length,.own 2 0 l6.length,int den]),(oV 1 intI l),(oV 1 intI l6),(oE 4 (tO ov)),(oV 1 b9 c59),(oV 2 f5 c60)]) Z Z Z (FnOk.lend [0,1,2] (T2 ha43) Z Z Z Z Z Z (by exact⟨(.one Z),.vec,.vec,Y⟩) Z (by exact⟨(.live Z (.one Z)),(.live Z .vec),(.live Z .vec),Y⟩) Z Z (by exact⟨(.new 0 Z Z (.one Z)),(.new 1 Z Z .vec),(.new 2 Z Z .vec),(.old Z Z Z),(.old Z Z Z),(.old Z Z Z),Y⟩)) (.E Z Z (.nil (b5 (.j ?_)))))
       obtain⟨a47,ha47,h⟩:=bind_some h
       refine AWP.G 2 Z (.aa Z Z (.cons (.c (.own Z Z)) (.cons (.c .imm) (.cons (.c (.fn .nil)) .nil))) Z (p9 Z (fun hy=>ad0 hy) ha47) Z ?_)
       refine AOps.G 5 Z (.nil (b5 (.j ?_)))
       obtain⟨a53,ha53,a57,ha57,h⟩:=b2 h
       refine AWP.G 3 Z (S.fresh Z Z Z Z (A4 ha53) Z Z (.G 2 Z (.frzV (id:=6) (l:=a53) (env2:=[(1,.c (.fnb 46 [.ptr 0 0 0])),(2,(cP 3 0 0)),(7,.c (.own 4 0 c59.length)),(8,(cI atv61)),(9,(cR a26)),(10,(cI a43)),(50,.c (.own 5 0 c60.length)),(51,(cI a47.1)),(55,.agg [row 1 intI a53,int a43])]) (σ2:=[(oE 8 [int ov2.facts,row 1 intI ov2.init,row 1 intI ov2.goal,row 3 d6 ov2.operators,row 1 b9 states,.own 1 0 l.length,.own 2 0 l6.length,int den]),(oV 1 intI l),(oV 1 intI l6),(oE 4 (tO ov)),(oV 1 b9 c59),(oV 2 f5 c60),.dead]) Z Z (by exact⟨⟨_,Z,.inl ⟨Z,Z⟩⟩,⟨_,Z,.inl ⟨Z,Z⟩⟩,⟨_,Z,.inl ⟨Z,Z⟩⟩,⟨_,Z,.inl ⟨Z,Z⟩⟩,⟨_,Z,.inl ⟨Z,Z⟩⟩,⟨_,Z,.inl ⟨Z,Z⟩⟩,⟨_,Z,.inl ⟨Z,Z⟩⟩,⟨_,Z,.inl ⟨Z,Z⟩⟩,⟨_,Z,⟨.inr ⟨_,Z,Z,Z⟩,.inl ⟨Z,Z⟩,Y⟩⟩,Y⟩) Z (by exact⟨⟨Z,.inl ⟨Z,Z⟩,.inl ⟨Z,Z⟩,.inl ⟨Z,Z⟩,.inl ⟨Z,Z⟩,.inl ⟨Z,Z⟩,.inl ⟨Z,Z⟩,.inl ⟨Z,Z⟩,.inl ⟨Z,Z⟩,Y⟩,FrzB.vec,FrzB.vec,⟨Z,.inl ⟨Z,Z⟩,.inl ⟨Z,Z⟩,.inl ⟨Z,Z⟩,.inl ⟨Z,Z⟩,Y⟩,FrzB.vec,FrzB.vec,Y,Y⟩) (S.lit (f:=f5) (l:=[(⟨a53,a43⟩:d9)]) (ess:=[[row 1 intI a53,int a43]]) Z Z Z Z Z Z Z ⟨⟨.inl Z,.inl Z,Y⟩,Y⟩ Z Z Z (S.insert (f:=f5) ha57 Z Z Z Z Z Z Z Z Z Z Z (.E Z Z (.nil (b5 (.j (.z (env':=[(1,.c (.fnb 46 [.ptr 0 0 0])),(2,(cP 3 0 0)),(6,.c (.own 5 0 a57.length)),(7,.c (.own 4 0 c59.length)),(8,(cI atv61)),(9,(cR a26)),(10,(cI a43))]) (σ':=[(oE 8 [int ov2.facts,row 1 intI ov2.init,row 1 intI ov2.goal,row 3 d6 ov2.operators,row 1 b9 states,.own 1 0 l.length,.own 2 0 l6.length,int den]),(oV 1 intI l),(oV 1 intI l6),(oE 4 (tO ov)),(oV 1 b9 c59),(oV 2 f5 a57),.dead,(oV 2 f5 [(⟨a53,a43⟩:d9)])]) 5 8 Z Z Z ⟨Z,Z,Z,Z,Z,Z,Z,Y⟩ Z ⟨⟨Z,Z⟩,⟨Blk.im_ok _ _ _,i6 Z⟩,⟨Blk.im_ok _ _ _,i6 Z⟩,⟨Z,Z⟩,⟨Blk.im_ok _ _ _,i6 Z⟩,⟨Blk.im_ok _ _ _,i6 Z⟩,Y,⟨Blk.im_ok _ _ _,i6 Z⟩,Y⟩ ?_))))))))))
       obtain⟨a62,ha62,h⟩:=bind_some h
       refine AWP.G 3 Z (.u Z Z Z Z (w7 ha62) Z (.G 5 Z (.nil (b5 ?_))))
       obtain⟨a67,ha67,h⟩:=bind_some h
       refine AWP.G 2 Z (S.append (f:=b9) ha67 Z Z Z Z Z Z .row Z Z Z Z (.E Z Z (.nil (d7 (b5 ⟨_,h,?_⟩)))))
       exact(Sub.move (env':=[(1,.c (.fnb 46 [.ptr 0 0 0])),(2,(cP 3 0 0)),(6,.c (.own 5 0 a57.length)),(7,.c (.own 4 0 a67.length)),(8,(cI atv61))]) (σ':=[(oE 8 [int ov2.facts,row 1 intI ov2.init,row 1 intI ov2.goal,row 3 d6 ov2.operators,row 1 b9 states,.own 1 0 l.length,.own 2 0 l6.length,int den]),(oV 1 intI l),(oV 1 intI l6),(oE 4 (tO ov)),(oV 1 b9 a67),(oV 2 f5 a57),.dead,(oV 2 f5 [(⟨a53,a43⟩:d9)])]) 4 8 Z Z Z ⟨Z,Z,Z,Z,Z,Y⟩ Z ⟨⟨Z,Z⟩,⟨Blk.im_ok _ _ _,i6 Z⟩,⟨Blk.im_ok _ _ _,i6 Z⟩,⟨Z,Z⟩,⟨Blk.im_ok _ _ _,i6 Z⟩,⟨Blk.im_ok _ _ _,i6 Z⟩,Y,⟨Blk.im_ok _ _ _,i6 Z⟩,Y⟩).trans (Sub.cut ⟨Z,Z,Z,Z,Z,Y⟩ Z ⟨.one Z,.vec,.vec,.one Z,.vec,.vec,Y⟩ Z)
  ·refine AWP.exit (h9 ?_)
   obtain rfl:=oi h
   refine h9 ⟨_,Z,Z,?_⟩
   exact Sub.cut ⟨Z,Y⟩ Z ⟨.one Z,.vec,.vec,.dead,.dead,.vec,Y⟩ Z
 ·intro e s hq
  rcases oo with c62|x
  ·try dsimp only at h hq
   obtain⟨rfl,hs⟩:=hq
   refine⟨_,hs,?_⟩
   refine f9 (b5 (.gk 3 Z (.frzV (id:=5) (l:=c62) (env2:=[(4,.c (row 2 f5 c62)),(5,(cB true))]) (σ2:=[(oE 8 [int ov2.facts,row 1 intI ov2.init,row 1 intI ov2.goal,row 3 d6 ov2.operators,row 1 b9 states,.own 1 0 l.length,.own 2 0 l6.length,int den]),(oV 1 intI l),(oV 1 intI l6),.dead,.dead,.dead]) Z Z (by exact⟨⟨_,Z,.inr ⟨_,Z,Z,Z⟩⟩,⟨_,Z,.inl ⟨Z,Z⟩⟩,Y⟩) Z (by exact⟨⟨Z,.inl ⟨Z,Z⟩,.inl ⟨Z,Z⟩,.inl ⟨Z,Z⟩,.inl ⟨Z,Z⟩,.inl ⟨Z,Z⟩,.inl ⟨Z,Z⟩,.inl ⟨Z,Z⟩,.inl ⟨Z,Z⟩,Y⟩,FrzB.vec,FrzB.vec,Y,Y,Y,Y⟩) (.ret ?_))))
   obtain rfl:=oi h
   exact⟨⟨[(4,.c (row 2 f5 c62)),(5,(cB true))],[(oE 8 [int ov2.facts,row 1 intI ov2.init,row 1 intI ov2.goal,row 3 d6 ov2.operators,row 1 b9 states,.own 1 0 l.length,.own 2 0 l6.length,int den]),(oV 1 intI l),(oV 1 intI l6)]⟩,Sub.cut ⟨Z,Z,Y⟩ Z ⟨.one Z,.vec,.vec,Y⟩ Z,Done.ret Z ⟨Z,Z⟩⟩
  ·try dsimp only at h hq
   obtain⟨rfl,hs⟩:=hq
   refine⟨_,Sub.refl _ _,?_⟩
   refine g7 (e7 ?_)
   obtain rfl:=oi h
   exact hs
theorem chance_Best_ok{ov:b7}{r:(List d9)×m5×Bool×i7}(h:aj2 ov=some r):e8 prog 9 [.agg (tO ov)] (.tup [.c (row 2 f5 r.1),.agg [int r.2.1.num,int r.2.1.den],(cB r.2.2.1),.agg [int r.2.2.2.code,int r.2.2.2.index]]):=by
 unfold e8
 refine FnOk.enter (rs:=[.t 2,.cell 3 28 2,.t 4,.cell 5 30 2]) func9 Z ntmps9 results9 Z ⟨Y,rv _ Z,Y,rv _ Z,Y⟩ (by kernel_rfl) Z ?_
 unfold aj2 at h
 refine AWP.gk 5 Z (.j ?_)
 obtain⟨a24,ha24,h⟩:=bind_some h
 refine AWP.G 1 Z (.u Z Z Z Z (ai9 ha24) Z (.G 7 Z (.nil (b5 (.j (.gs 2 Z (.neqP Z Z Z Z Z Z Z (.ne (.F Z h (fun hc2 h=> ?_) (fun hc2 h=> ?_))))))))))
 ·refine AWP.j (.drawEI [3,5] mixed Z Z Z (b8.D 3 Z Z ?_))
  apply b8.consE (v:=.undef);exact Z;exact Z;intro E
  refine W.storeAgg Z Z Z Z Z Z Z .N
  exact Z
  exact Z
  refine b8.D 1 Z Z ?_
  apply b8.consE (v:=.undef);exact Z;exact Z;intro E
  refine W.storeAgg Z Z Z Z Z Z Z .N
  exact Z
  exact Z
  refine b8.done Z ?_ ?_
  ·refine d8.D 6 Z Z (d8.nil)
  dsimp only[g9]
  refine b5 (.nilrow 2 2 Z (.ret (e7 ?_)))
  obtain rfl:=oi h
  exact Done.ret Z Z
 ·refine AWP.skip (b5 (.j (.j ?_)))
  obtain⟨a34,ha34,h⟩:=bind_some h
  refine AWP.G 2 Z (.u Z Z Z Z (E7 Z (fun hy=>aq6 hy) ha34) Z ?_)
  refine AOps.nil (b5 (.F Z h (fun hc3 h=> ?_) (fun hc3 h=> ?_)))
  ·refine AWP.gk 6 Z (.nilrow 2 2 Z (.ret (e7 ?_)))
   obtain rfl:=oi h
   exact Done.ret Z Z
  ·refine AWP.skip (b5 (.j ?_))
   obtain⟨a39,ha39,h⟩:=bind_some h
   refine AWP.G 2 Z (S.fresh Z Z Z Z (Y2 ha39) Z Z (.G 2 Z (.nil (b5 (.j ?_)))))
   obtain⟨a41,ha41,a43,ha43,h⟩:=b2 h
   refine AWP.G 1 Z (S.fresh Z Z Z Z (I3 ha41) Z Z (.ab Z Z (.callF (r2:=.c (.own 8 0 a43.length)) (σ'':=[(oE 4 (tO ov)),(oE 2 [int 0,int 0]),(oE 2 [int 0,int 0]),(o1 (row 1 b9 a24.1)),(oE 2 [int a24.2.code,int a24.2.index]),(oV 1 intI a39),(o1 (.own 5 0 a39.length)),.dead,(oV 1 b9 a43)]) Z Z Z (FnOk.lend [7,6,3,5] (X2 ha43) Z Z Z Z Z Z (by exact⟨.vec,(.one Z),(.one Z),.vec,Y⟩) Z (by exact⟨(.live Z .vec),(.live Z (.one Z)),(.live Z (.one Z)),(.live Z .vec),Y⟩) Z Z (by exact⟨(.old Z Z Z),(.old Z Z Z),(.old Z Z Z),(.new 2 Z Z (.one Z)),(.old Z Z Z),(.new 3 Z Z .vec),(.new 1 Z Z (.one Z)),.dead,(.new 4 Z Z .vec),Y⟩)) (.E Z Z (.nil (b5 (.j ?_)))))))
   obtain⟨a47,ha47,h⟩:=bind_some h
   refine AWP.drawEI [3,5] mixed Z Z Z (b8.D 3 Z Z ?_)
   apply b8.consE;exact Z;exact Z;intro E
   refine AOps.callF (r2:=.c (.own 11 0 a47.length)) (σ'':=[(oE 4 (tO ov)),(oE 2 [int 0,int 0]),(oE 2 [int 0,int 0]),(o1 (row 1 b9 a24.1)),(oE 2 [int a24.2.code,int a24.2.index]),(oV 1 intI a39),(o1 (.own 5 0 a39.length)),.dead,.dead,.dead,.dead,(oV 1 b9 a47)]) Z Z Z (FnOk.lend [8] (P8 ha47) Z Z Z Z Z Z (by exact⟨.vec,Y⟩) Z (by exact⟨(.live Z .vec),Y⟩) Z Z (by exact⟨(.old Z Z Z),(.old Z Z Z),(.old Z Z Z),(.old Z Z Z),(.old Z Z Z),(.old Z Z Z),(.old Z Z Z),.dead,.dead,.dead,.dead,(.new 3 Z Z .vec),Y⟩)) .N
   exact Z
   exact Z
   refine b8.consN Z Z (fun E=>W.buildP Z Z Z Z .N) Z ?_
   apply b8.consE;exact Z;exact Z;intro E
   refine W.box Z Z Z Z Z Z .N
   exact Z
   exact Z
   refine b8.D 1 Z Z (b8.done Z ?_ ?_)
   ·refine d8.D 4 Z Z ?_
    refine d8.cons Z Z ?_ ?_
    refine g8.skip Z ?_
    refine g8.go Z Z (fun E=>W.buildP Z Z Z Z .N) ?_
    refine g8.skip Z (g8.nil)
    refine d8.D 2 Z Z (d8.nil)
   dsimp only[g9]
   refine b5 (.j (.q (.j ?_)))
   obtain⟨a53,ha53,a54,ha54,h⟩:=b2 h
   refine AWP.drawEI [2,3] mixed Z Z Z (b8.D 2 Z Z ?_)
   apply b8.consE;exact Z;exact Z;intro E
   refine S.fresh Z Z Z Z (I3 ha53) Z Z .N
   exact Z
   exact Z
   apply b8.consE;exact Z;exact Z;intro E
   refine AOps.callF (r2:=.c (.own 16 0 a54.length)) (σ'':=[(oE 4 (tO ov)),(oE 2 [int 0,int 0]),(oE 2 [int 0,int 0]),(o1 (row 1 b9 a24.1)),(oE 2 [int a24.2.code,int a24.2.index]),(oV 1 intI a39),(o1 (.own 5 0 a39.length)),.dead,.dead,.dead,.dead,(oV 1 b9 a47),(oE 8 [int ov.facts,row 1 intI ov.init,row 1 intI ov.goal,row 3 d6 ov.operators,.own 11 0 a47.length,.imm (.val nL),.imm (.val nL),int 0]),.dead,.dead,.dead,(oV 1 b9 a54)]) Z Z Z (FnOk.lend [13] (P8 ha54) Z Z Z Z Z Z (by exact⟨.vec,Y⟩) Z (by exact⟨(.live Z .vec),Y⟩) Z Z (by exact⟨(.old Z Z Z),(.old Z Z Z),(.old Z Z Z),(.old Z Z Z),(.old Z Z Z),(.old Z Z Z),(.old Z Z Z),.dead,.dead,.dead,.dead,(.old Z Z Z),(.old Z Z Z),.dead,.dead,.dead,(.new 3 Z Z .vec),Y⟩)) .N
   exact Z
   exact Z
   refine b8.consN Z Z (fun E=>S.lenO Z Z Z (fun hl55=>.nil ⟨Z,Z⟩)) Z ?_
   refine b8.D 2 Z Z (b8.done Z ?_ ?_)
   ·refine d8.D 4 Z Z ?_
    refine d8.cons Z Z ?_ ?_
    refine g8.skip Z (g8.skip Z ?_)
    apply g8.go;exact Z;exact Z;intro E;refine S.lenO Z Z Z (fun hl55=> ?_);exact AOps.nil ⟨Z,Z⟩
    exact g8.nil
    refine d8.D 2 Z Z (d8.nil)
   dsimp only[g9]
   refine b5 (.J Z h (fun hc4 h=> ?_) (fun hc4 h=> ?_))
   ·refine AWP.gk 6 Z (.nilrow 2 2 Z (.ret (g7 (e7 ?_))))
    obtain rfl:=oi h
    exact Done.ret Z Z
   ·refine AWP.j ?_
    obtain⟨a64,ha64,a65,ha65,h⟩:=b2 h
    refine AWP.drawI mixed Z (d5.D 4 Z ?_)
    refine d5.consF Z (fun E=>.u Z Z Z Z (m6 ha64) Z .N) Z (.consF Z (fun E=>S.idxO ha65 Z Z Z Z Z .N) Z (.consF Z (fun E=>S.loadO ha65 Z Z Z Z Z .N) Z ?_))
    refine d5.D 2 Z (d5.done ?_)
    dsimp only[g9]
    refine b5 (.J Z h (fun hc5 h=> ?_) (fun hc5 h=> ?_))
    ·refine AWP.gk 6 Z (.nilrow 2 2 Z (.ret (g7 (e7 ?_))))
     obtain rfl:=oi h
     exact Done.ret Z Z
    ·refine AWP.j ?_
     obtain⟨a75,ha75,h⟩:=bind_some h
     refine AWP.G 4 Z (.u Z Z Z Z (k8 ha75) Z (.E Z Z (.nil (b5 (.F Z h (fun hc6 h=> ?_) (fun hc6 h=> ?_))))))
     ·refine AWP.gk 6 Z (.nilrow 2 2 Z (.ret (g7 (e7 ?_))))
      obtain rfl:=oi h
      exact Done.ret Z Z
     ·refine AWP.skip (d7 (b5 (.j (.gs 4 Z (S.lenO Z Z Z (fun hl82=>.ge 1 Z (.q (.virtB 1 intI (b:=12) (o:=5) Z Z Z Z Z Z ?_))))))))
      obtain⟨c7,ho1,h⟩:=bind_some h
      refine AWP.forH ho1 (fun t8 c7=>⟨[(1,(cP 0 0 0)),(3,(cP 1 0 0)),(5,(cP 2 0 0)),(7,(cP 4 0 0)),(10,(cP 12 0 0)),(81,.c (.own 11 0 a47.length)),(82,(cI (a47.length:Int))),(83,(cI t8))],[(oE 4 (tO ov)),(oE 2 [int 0,int 0]),(oE 2 [int 0,int 0]),.dead,(oE 2 [int a24.2.code,int a24.2.index]),.dead,.dead,.dead,.dead,.dead,.dead,(oV 1 b9 a47),(oE 8 [int ov.facts,row 1 intI ov.init,row 1 intI ov.goal,row 3 d6 ov.operators,.own 11 0 a47.length,.own 17 0 c7.length,.imm (.val nL),int 0]),.dead,.dead,.dead,.dead,(oV 1 intI c7)]⟩) (fun _ _=>Z) ?_ ?_ ?_
      ·try dsimp only
       exact Sub.cut ⟨Z,Z,Z,Z,Z,Z,Z,Z,Y⟩ Z ⟨.one Z,.one Z,.one Z,.dead,.one Z,.dead,.dead,.dead,.dead,.dead,.dead,.vec,(.eq Z (by first|rfl|(simp only[lS];done))),.dead,.dead,.dead,.dead,.vec,Y⟩ Z
      ·intro t8 c7 o hlot8 hltt8 h
       unfold al0 at h
       try dsimp only at h ⊢
       refine AWP.j (.q (.j ?_))
       obtain⟨a85,ha85,h⟩:=bind_some h
       refine AWP.U (S.idxO ha85 Z Z Z Z Z (S.loadO ha85 Z Z Z Z Z (.E Z Z (.nil (b5 (.gk 3 Z (.gk 3 Z (.j ?_))))))))
       obtain⟨a92,ha92,h⟩:=bind_some h
       refine AWP.G 1 Z (.u Z Z Z Z (ar0 ha92) Z (.G 8 Z (.nil (b5 ?_))))
       obtain⟨a103,ha103,a105,ha105,h⟩:=b2 h
       refine AWP.drawEI [8,9,12] mixed Z Z Z (b8.D 7 Z Z ?_)
       refine b8.consN Z Z (fun E=>.u Z Z Z Z (E6 ha103) Z .N) Z ?_
       apply b8.consE;exact Z;exact Z;intro E
       refine S.lit (f:=intI) (l:=[a103]) (ess:=[[int a103]]) Z Z Z Z Z Z Z ⟨⟨.inl Z,Y⟩,Y⟩ Z Z Z .N
       exact Z
       exact Z
       apply b8.consE;exact Z;exact Z;intro E
       refine S.append (f:=intI) ha105 Z Z Z Z Z Z (.own Z Z) Z Z Z Z .N
       exact Z
       exact Z
       refine b8.D 2 Z Z ?_
       apply b8.consE (v:=.undef);exact Z;exact Z;intro E
       refine W.store Z Z Z Z Z .N
       exact Z
       exact Z
       refine b8.done Z ?_ ?_
       ·refine d8.D 7 Z Z ?_
        refine d8.cons Z Z (.go Z Z (fun E=>.u Z Z Z Z (E6 ha103) Z .N) (.skip Z (.skip Z (.skip Z .nil)))) ?_
        refine d8.D 5 Z Z (d8.nil)
       dsimp only[g9]
       refine d7 (b5 (.z (env':=[(1,(cP 0 0 0)),(3,(cP 1 0 0)),(5,(cP 2 0 0)),(7,(cP 4 0 0)),(10,(cP 12 0 0)),(81,.c (.own 11 0 a47.length)),(82,(cI (a47.length:Int))),(83,(cI t8))]) (σ':=[(oE 4 (tO ov)),(oE 2 [int 0,int 0]),(oE 2 [int 0,int 0]),.dead,(oE 2 [int a24.2.code,int a24.2.index]),.dead,.dead,.dead,.dead,.dead,.dead,(oV 1 b9 a47),(oE 8 [int ov.facts,row 1 intI ov.init,row 1 intI ov.goal,row 3 d6 ov.operators,.own 11 0 a47.length,.own 17 0 a105.length,.imm (.val nL),int 0]),.dead,.dead,.dead,.dead,(oV 1 intI a105),(oE 4 [int ov.facts,row 1 intI a85,row 1 intI ov.goal,row 3 d6 ov.operators]),(oE 2 [int a92.2.2.code,int a92.2.2.index]),(oV 1 intI [a103])]) 17 21 Z Z Z ⟨Z,Z,Z,Z,Z,Z,Z,Z,Y⟩ Z ⟨⟨Z,Z⟩,⟨Z,Z⟩,⟨Z,Z⟩,Y,⟨Z,Z⟩,Y,Y,Y,Y,Y,Y,⟨Blk.im_ok _ _ _,i6 Z⟩,⟨Z,Z⟩,Y,Y,Y,Y,⟨Blk.im_ok _ _ _,i6 Z⟩,⟨Z,Z⟩,⟨Z,Z⟩,⟨Blk.im_ok _ _ _,i6 Z⟩,Y⟩ (.U (.add Z Z Z (by omega) (.z Z Z (.nil ?_))))))
       obtain rfl:=oi h
       refine b5 (Sub.cut ⟨Z,Z,Z,Z,Z,Z,Z,Z,Y⟩ Z ⟨.one Z,.one Z,.one Z,.dead,.one Z,.dead,.dead,.dead,.dead,.dead,.dead,.vec,.one Z,.dead,.dead,.dead,.dead,.vec,Y⟩ Z)
      ·intro iz
       try dsimp only
       refine f9 (b5 (.j (.gk 1 Z (.q (.frzV (id:=11) (l:=a47) (env2:=[(1,(cP 0 0 0)),(3,(cP 1 0 0)),(5,(cP 2 0 0)),(7,(cP 4 0 0)),(10,(cP 12 0 0)),(17,(cB true))]) (σ2:=[(oE 4 (tO ov)),(oE 2 [int 0,int 0]),(oE 2 [int 0,int 0]),.dead,(oE 2 [int a24.2.code,int a24.2.index]),.dead,.dead,.dead,.dead,.dead,.dead,.dead,(oE 8 [int ov.facts,row 1 intI ov.init,row 1 intI ov.goal,row 3 d6 ov.operators,row 1 b9 a47,.own 17 0 c7.length,.imm (.val nL),int 0]),.dead,.dead,.dead,.dead,(oV 1 intI c7)]) Z Z (by exact⟨⟨_,Z,.inl ⟨Z,Z⟩⟩,⟨_,Z,.inl ⟨Z,Z⟩⟩,⟨_,Z,.inl ⟨Z,Z⟩⟩,⟨_,Z,.inl ⟨Z,Z⟩⟩,⟨_,Z,.inl ⟨Z,Z⟩⟩,⟨_,Z,.inl ⟨Z,Z⟩⟩,Y⟩) Z (by exact⟨⟨Z,.inl ⟨Z,Z⟩,.inl ⟨Z,Z⟩,.inl ⟨Z,Z⟩,.inl ⟨Z,Z⟩,Y⟩,⟨Z,.inl ⟨Z,Z⟩,.inl ⟨Z,Z⟩,Y⟩,⟨Z,.inl ⟨Z,Z⟩,.inl ⟨Z,Z⟩,Y⟩,Y,⟨Z,.inl ⟨Z,Z⟩,.inl ⟨Z,Z⟩,Y⟩,Y,Y,Y,Y,Y,Y,Y,⟨Z,.inl ⟨Z,Z⟩,.inl ⟨Z,Z⟩,.inl ⟨Z,Z⟩,.inl ⟨Z,Z⟩,.inr ⟨_,Z,Z,Z⟩,.inl ⟨Z,Z⟩,.inl ⟨Z,Z⟩,.inl ⟨Z,Z⟩,Y⟩,Y,Y,Y,Y,FrzB.vec,Y⟩) (.virtB 1 intI (b:=12) (o:=6) Z Z Z Z Z Z ?_))))))
       obtain⟨⟨c13,c14,c15⟩,ho2,h⟩:=bind_some h
       try dsimp only at h
       refine AWP.loopS ho2 (fun(c9,c10,c11,again12)=>⟨[(1,(cP 0 0 0)),(3,(cP 1 0 0)),(5,(cP 2 0 0)),(7,(cP 4 0 0)),(10,(cP 12 0 0)),(17,(cB again12))],[(oE 4 (tO ov)),(oE 2 [int 0,int 0]),(oE 2 [int 0,int 0]),.dead,(oE 2 [int a24.2.code,int a24.2.index]),.dead,.dead,.dead,.dead,.dead,.dead,.dead,(oE 8 [int ov.facts,row 1 intI ov.init,row 1 intI ov.goal,row 3 d6 ov.operators,row 1 b9 a47,.own 17 0 c10.length,.own 18 0 c11.length,int c9]),.dead,.dead,.dead,.dead,(oV 1 intI c10),(oV 1 intI c11)]⟩) (fun(c13,c14,c15) e st=>e=.exit 3∧Sub [] st ⟨[(1,(cP 0 0 0)),(3,(cP 1 0 0)),(5,(cP 2 0 0)),(7,(cP 4 0 0)),(10,(cP 12 0 0))],[(oE 4 (tO ov)),(oE 2 [int 0,int 0]),(oE 2 [int 0,int 0]),.dead,(oE 2 [int a24.2.code,int a24.2.index]),.dead,.dead,.dead,.dead,.dead,.dead,.dead,(oE 8 [int ov.facts,row 1 intI ov.init,row 1 intI ov.goal,row 3 d6 ov.operators,row 1 b9 a47,.own 17 0 c14.length,.own 18 0 c15.length,int c13]),.dead,.dead,.dead,.dead,(oV 1 intI c14),(oV 1 intI c15)]⟩) ?_ ?_ ?_
       ·try dsimp only
        exact Sub.cut ⟨Z,Z,Z,Z,Z,Z,Y⟩ Z ⟨.one Z,.one Z,.one Z,.dead,.one Z,.dead,.dead,.dead,.dead,.dead,.dead,.dead,(.eq Z (by first|rfl|(simp only[lS];done))),.dead,.dead,.dead,.dead,.vec,.vec,Y⟩ Z
       ·intro s o h
        obtain⟨c9,c10,c11,again12⟩:=s
        unfold ak7 at h
        try dsimp only at h ⊢
        refine AWP.j (.gk 1 Z (.F Z h (fun hc16 h=> ?_) (fun hc16 h=> ?_)))
        ·refine AWP.skip (b5 (.q (.j ?_)))
         obtain⟨a120,ha120,a121,ha121,h⟩:=b2 h
         refine AWP.drawEI [9,10,16,19] mixed Z Z Z (b8.D 8 Z Z ?_)
         refine b8.consN Z Z (fun E=>.makeFuncB Z Z .N) Z ?_
         apply b8.consE;exact Z;exact Z;intro E
         refine AOps.callF (r2:=.agg [row 1 b9 a47,.own 22 0 a120.length]) (σ'':=[(oE 4 (tO ov)),(oE 2 [int 0,int 0]),(oE 2 [int 0,int 0]),.dead,(oE 2 [int a24.2.code,int a24.2.index]),.dead,.dead,.dead,.dead,.dead,.dead,.dead,(oE 8 [int ov.facts,row 1 intI ov.init,row 1 intI ov.goal,row 3 d6 ov.operators,row 1 b9 a47,.own 17 0 c10.length,.own 18 0 c11.length,int c9]),.dead,.dead,.dead,.dead,(oV 1 intI c10),(oV 1 intI c11),.dead,(oE 2 [row 1 b9 a47,.own 22 0 a120.length]),.dead,mat (22,[]) 1 intI a120]) Z Z Z (FnOk.lend [12,17,18] (aj3 ha120) Z Z Z Z Z Z (by exact⟨(.one Z),.vec,.vec,Y⟩) Z (by exact⟨(.live Z (.one Z)),(.live Z .vec),(.live Z .vec),Y⟩) Z Z (by exact⟨(.old Z Z Z),(.old Z Z Z),(.old Z Z Z),.dead,(.old Z Z Z),.dead,.dead,.dead,.dead,.dead,.dead,.dead,(.new 0 Z Z (.one Z)),.dead,.dead,.dead,.dead,(.new 1 Z Z .vec),(.new 2 Z Z .vec),.dead,(.new 4 Z Z (.one Z)),.dead,(.new 6 Z Z .mat),Y⟩)) .N
         exact Z
         exact Z
         apply b8.consE;exact Z;exact Z;intro E
         refine AOps.callF (r2:=.tup [.c (.own 24 0 a121.1.length),(cI a121.2)]) (σ'':=[(oE 4 (tO ov)),(oE 2 [int 0,int 0]),(oE 2 [int 0,int 0]),.dead,(oE 2 [int a24.2.code,int a24.2.index]),.dead,.dead,.dead,.dead,.dead,.dead,.dead,(oE 8 [int ov.facts,row 1 intI ov.init,row 1 intI ov.goal,row 3 d6 ov.operators,row 1 b9 a47,.own 17 0 c10.length,.own 18 0 c11.length,int c9]),.dead,.dead,.dead,.dead,(oV 1 intI c10),(oV 1 intI c11),.dead,(oE 2 [row 1 b9 a47,.own 22 0 a120.length]),.dead,.dead,.dead,(oV 1 intI a121.1)]) Z Z Z (FnOk.lend [22] (R7 ha121) Z Z Z Z Z Z (by exact⟨(.mat Z),Y⟩) Z (by exact⟨(.live Z .mat),Y⟩) Z Z (by exact⟨(.old Z Z Z),(.old Z Z Z),(.old Z Z Z),.dead,(.old Z Z Z),.dead,.dead,.dead,.dead,.dead,.dead,.dead,(.old Z Z Z),.dead,.dead,.dead,.dead,(.old Z Z Z),(.old Z Z Z),.dead,(.old Z Z Z),.dead,.dead,.dead,(.new 2 Z Z .vec),Y⟩)) .N
         exact Z
         exact Z
         refine b8.D 5 Z Z ?_
         apply b8.consE (v:=.undef);exact Z;exact Z;intro E
         refine W.store Z Z Z Z Z .N
         exact Z
         exact Z
         refine b8.D 2 Z Z ?_
         apply b8.consE (v:=.undef);exact Z;exact Z;intro E
         refine W.store Z Z Z Z Z .N
         exact Z
         exact Z
         refine b8.done Z ?_ ?_
         ·refine d8.D 8 Z Z ?_
          refine d8.cons Z Z (.go Z Z (fun E=>.makeFuncB Z Z .N) (.skip Z (.skip Z (.skip Z (.skip Z .nil))))) ?_
          refine d8.D 11 Z Z (d8.nil)
         dsimp only[g9]
         refine b5 ?_
         obtain⟨⟨c17,c18⟩,hx19,h⟩:=bind_some h
         refine AWP.seqJ (⟨[(1,(cP 0 0 0)),(3,(cP 1 0 0)),(5,(cP 2 0 0)),(7,(cP 4 0 0)),(10,(cP 12 0 0))],[(oE 4 (tO ov)),(oE 2 [int 0,int 0]),(oE 2 [int 0,int 0]),.dead,(oE 2 [int a24.2.code,int a24.2.index]),.dead,.dead,.dead,.dead,.dead,.dead,.dead,(oE 8 [int ov.facts,row 1 intI ov.init,row 1 intI ov.goal,row 3 d6 ov.operators,row 1 b9 a47,.own 17 0 c10.length,.own 24 0 c18.length,int c17]),.dead,.dead,.dead,.dead,(oV 1 intI c10),.dead,.dead,.dead,.dead,.dead,.dead,(oV 1 intI c18)]⟩) ?_ ?_
         ·refine AWP.gk 5 Z (.J Z hx19 (fun hc20 hx19=> ?_) (fun hc20 hx19=> ?_))
          ·refine AWP.gs 5 Z (S.neg Z Z (.ge 3 Z (.gs 4 Z (S.lenO Z Z Z (fun hl145=>.ge 1 Z (.q ?_))))))
           obtain⟨c21,ho3,hx19⟩:=bind_some hx19
           refine AWP.forH ho3 (fun t22 c21=>⟨[(1,(cP 0 0 0)),(3,(cP 1 0 0)),(5,(cP 2 0 0)),(7,(cP 4 0 0)),(10,(cP 12 0 0)),(145,(cI (a121.1.length:Int))),(146,(cI t22))],[(oE 4 (tO ov)),(oE 2 [int 0,int 0]),(oE 2 [int 0,int 0]),.dead,(oE 2 [int a24.2.code,int a24.2.index]),.dead,.dead,.dead,.dead,.dead,.dead,.dead,(oE 8 [int ov.facts,row 1 intI ov.init,row 1 intI ov.goal,row 3 d6 ov.operators,row 1 b9 a47,.own 17 0 c10.length,.own 24 0 c21.length,int (w64 (0 - a121.2))]),.dead,.dead,.dead,.dead,(oV 1 intI c10),.dead,.dead,.dead,.dead,.dead,.dead,(oV 1 intI c21)]⟩) (fun _ _=>Z) ?_ ?_ ?_
           ·try dsimp only
            exact Sub.cut ⟨Z,Z,Z,Z,Z,Z,Z,Y⟩ Z ⟨.one Z,.one Z,.one Z,.dead,.one Z,.dead,.dead,.dead,.dead,.dead,.dead,.dead,.one Z,.dead,.dead,.dead,.dead,.vec,.dead,.dead,.dead,.dead,.dead,.dead,.vec,Y⟩ Z
           ·intro t22 c21 o hlot22 hltt22 h
            unfold ak1 at h
            try dsimp only at h ⊢
            refine AWP.j (.q (.gk 2 Z ?_))
            obtain⟨a159,ha159,a162,ha162,h⟩:=b2 h
            refine AWP.drawEI [14] mixed Z Z Z (b8.D 10 Z Z ?_)
            refine b8.consN Z Z (fun E=>S.idxO ha159 Z Z Z Z Z .N) Z (.consN Z Z (fun E=>S.loadO ha159 Z Z Z Z Z .N) Z (.consN Z Z (fun E=>S.neg Z Z .N) Z (.consN Z Z (fun E=>S.idxO ha162 Z Z Z Z Z .N) Z ?_)))
            apply b8.consE (v:=.undef);exact Z;exact Z;intro E
            refine S.storeO1 (f:=intI) (a':=w64 (0 - a159)) (s7 ha162) (fun _=>⟨_,Z⟩) Z Z Z Z Z ?_
            exact AOps.nil ⟨Z,Z⟩
            exact Z
            exact Z
            refine b8.done Z ?_ ?_
            ·refine d8.D 10 Z Z ?_
             refine d8.cons Z Z (.go Z Z (fun E=>S.idxO ha159 Z Z Z Z Z .N) (.skip Z .nil)) (.cons Z Z (.go Z Z (fun E=>S.loadO ha159 Z Z Z Z Z .N) (.skip Z .nil)) (.cons Z Z (.go Z Z (fun E=>S.neg Z Z .N) (.skip Z .nil)) (.cons Z Z (.go Z Z (fun E=>S.idxO ha162 Z Z Z Z Z .N) (.skip Z .nil)) ?_)))
             refine d8.D 1 Z Z (d8.nil)
            dsimp only[g9]
            refine d7 (b5 (.U (.add Z Z Z (by omega) (.z Z Z (.nil ?_)))))
            obtain rfl:=oi h
            refine b5 ?_
            exact Sub.cut ⟨Z,Z,Z,Z,Z,Z,Z,Y⟩ Z ⟨.one Z,.one Z,.one Z,.dead,.one Z,.dead,.dead,.dead,.dead,.dead,.dead,.dead,(.eq Z (by first|rfl|(simp only[lS];done))),.dead,.dead,.dead,.dead,.vec,.dead,.dead,.dead,.dead,.dead,.dead,.vec,Y⟩ Z
           ·intro iz
            try dsimp only
            refine f9 ?_
            obtain⟨ej0,ej1⟩:=o2 hx19
            subst ej0 ej1
            refine b5 (Sub.en Z)
          ·refine AWP.skip ?_
           obtain⟨ej0,ej1⟩:=o2 hx19
           subst ej0 ej1
           refine b5 (Sub.cut ⟨Z,Z,Z,Z,Z,Y⟩ Z ⟨.one Z,.one Z,.one Z,.dead,.one Z,.dead,.dead,.dead,.dead,.dead,.dead,.dead,.one Z,.dead,.dead,.dead,.dead,.vec,.dead,.dead,.dead,.dead,.dead,.dead,.vec,Y⟩ Z)
         ·try dsimp only at h
          obtain⟨a165,ha165,h⟩:=bind_some h
          refine AWP.G 1 Z (.callF (r2:=(cB a165.2)) (σ'':=[(oE 4 (tO ov)),(oE 2 [int 0,int 0]),(oE 2 [int 0,int 0]),.dead,(oE 2 [int a24.2.code,int a24.2.index]),.dead,.dead,.dead,.dead,.dead,.dead,.dead,(oE 8 [int ov.facts,row 1 intI ov.init,row 1 intI ov.goal,row 3 d6 ov.operators,row 1 b9 a47,.own 25 0 a165.1.length,.own 24 0 c18.length,int c17]),.dead,.dead,.dead,.dead,(oV 1 intI c10),.dead,.dead,.dead,.dead,.dead,.dead,(oV 1 intI c18),(oV 1 intI a165.1)]) Z Z Z (FnOk.lend [12,17,24] (ac1 ha165) Z Z Z Z Z Z (by exact⟨(.one Z),.vec,.vec,Y⟩) Z (by exact⟨(.live Z (.one Z)),(.live Z .vec),(.live Z .vec),Y⟩) Z Z (by exact⟨(.old Z Z Z),(.old Z Z Z),(.old Z Z Z),.dead,(.old Z Z Z),.dead,.dead,.dead,.dead,.dead,.dead,.dead,(.new 0 Z Z (.one Z)),.dead,.dead,.dead,.dead,(.new 1 Z Z .vec),.dead,.dead,.dead,.dead,.dead,.dead,(.new 2 Z Z .vec),(.new 3 Z Z .vec),Y⟩)) (.E Z Z (.nil (d7 ?_))))
          obtain rfl:=oi h
          refine b5 ⟨_,Z,?_⟩
          exact(Sub.move (env':=[(1,(cP 0 0 0)),(3,(cP 1 0 0)),(5,(cP 2 0 0)),(7,(cP 4 0 0)),(10,(cP 12 0 0)),(17,(cB a165.2))]) (σ':=[(oE 4 (tO ov)),(oE 2 [int 0,int 0]),(oE 2 [int 0,int 0]),.dead,(oE 2 [int a24.2.code,int a24.2.index]),.dead,.dead,.dead,.dead,.dead,.dead,.dead,(oE 8 [int ov.facts,row 1 intI ov.init,row 1 intI ov.goal,row 3 d6 ov.operators,row 1 b9 a47,.own 17 0 a165.1.length,.own 24 0 c18.length,int c17]),.dead,.dead,.dead,.dead,(oV 1 intI a165.1),.dead,.dead,.dead,.dead,.dead,.dead,(oV 1 intI c18)]) 17 25 Z Z Z ⟨Z,Z,Z,Z,Z,Z,Y⟩ Z ⟨⟨Z,Z⟩,⟨Z,Z⟩,⟨Z,Z⟩,Y,⟨Z,Z⟩,Y,Y,Y,Y,Y,Y,Y,⟨Z,Z⟩,Y,Y,Y,Y,⟨Blk.im_ok _ _ _,i6 Z⟩,Y,Y,Y,Y,Y,Y,⟨Blk.im_ok _ _ _,i6 Z⟩,Y⟩).trans ((Sub.move (env':=[(1,(cP 0 0 0)),(3,(cP 1 0 0)),(5,(cP 2 0 0)),(7,(cP 4 0 0)),(10,(cP 12 0 0)),(17,(cB a165.2))]) (σ':=[(oE 4 (tO ov)),(oE 2 [int 0,int 0]),(oE 2 [int 0,int 0]),.dead,(oE 2 [int a24.2.code,int a24.2.index]),.dead,.dead,.dead,.dead,.dead,.dead,.dead,(oE 8 [int ov.facts,row 1 intI ov.init,row 1 intI ov.goal,row 3 d6 ov.operators,row 1 b9 a47,.own 17 0 a165.1.length,.own 18 0 c18.length,int c17]),.dead,.dead,.dead,.dead,(oV 1 intI a165.1),(oV 1 intI c18),.dead,.dead,.dead,.dead,.dead]) 18 24 Z Z Z ⟨Z,Z,Z,Z,Z,Z,Y⟩ Z ⟨⟨Z,Z⟩,⟨Z,Z⟩,⟨Z,Z⟩,Y,⟨Z,Z⟩,Y,Y,Y,Y,Y,Y,Y,⟨Z,Z⟩,Y,Y,Y,Y,⟨Blk.im_ok _ _ _,i6 Z⟩,⟨Blk.im_ok _ _ _,i6 Z⟩,Y,Y,Y,Y,Y,Y⟩).trans (Sub.cut ⟨Z,Z,Z,Z,Z,Z,Y⟩ Z ⟨.one Z,.one Z,.one Z,.dead,.one Z,.dead,.dead,.dead,.dead,.dead,.dead,.dead,.one Z,.dead,.dead,.dead,.dead,.vec,.vec,Y⟩ Z))
        ·refine AWP.exit (h9 ?_)
         obtain rfl:=oi h
         refine h9 ⟨_,Z,Z,?_⟩
         exact Sub.en Z
       ·intro e s hq
        obtain⟨rfl,hs⟩:=hq
        refine⟨_,hs,?_⟩
        refine f9 (b5 (.j ?_))
        obtain⟨a177,ha177,a178,ha178,a184,ha184,h⟩:=b3 h
        refine AWP.drawEI [21,22,23] mixed Z Z Z (b8.D 10 Z Z ?_)
        refine b8.consN Z Z (fun E=>.u Z Z Z Z (m6 ha177) Z .N) Z (.consN Z Z (fun E=>S.idxO ha178 Z Z Z Z Z .N) Z (.consN Z Z (fun E=>S.loadO ha178 Z Z Z Z Z .N) Z ?_))
        refine b8.D 4 Z Z ?_
        refine b8.consN Z Z (fun E=>.u Z Z Z Z (O4 ha184) Z .N) Z ?_
        refine b8.D 3 Z Z ?_
        apply b8.consE;exact Z;exact Z;intro E
        refine W.alloc Z Z Z Z .N
        exact Z
        exact Z
        apply b8.consE (v:=.undef);exact Z;exact Z;intro E
        refine W.storeAgg Z Z Z Z Z Z Z .N
        exact Z
        exact Z
        apply b8.consE (v:=.undef);exact Z;exact Z;intro E
        refine W.storeAgg Z Z Z Z Z Z Z .N
        exact Z
        exact Z
        refine b8.done Z ?_ ?_
        ·refine d8.D 10 Z Z ?_
         refine d8.cons Z Z (.go Z Z (fun E=>.u Z Z Z Z (m6 ha177) Z .N) (.go Z Z (fun E=>.u Z Z Z Z (m6 ha177) Z .N) (.skip Z (.skip Z .nil)))) (.cons Z Z (.go Z Z (fun E=>S.idxO ha178 Z Z Z Z Z .N) (.go Z Z (fun E=>S.idxO ha178 Z Z Z Z Z .N) (.skip Z (.skip Z .nil)))) (.cons Z Z (.go Z Z (fun E=>S.loadO ha178 Z Z Z Z Z .N) (.go Z Z (fun E=>S.loadO ha178 Z Z Z Z Z .N) (.skip Z (.skip Z .nil)))) ?_))
         refine d8.D 4 Z Z ?_
         refine d8.cons Z Z (.go Z Z (fun E=>.u Z Z Z Z (O4 ha184) Z .N) (.go Z Z (fun E=>.u Z Z Z Z (O4 ha184) Z .N) (.skip Z (.skip Z .nil)))) ?_
         refine d8.D 6 Z Z (d8.nil)
        dsimp only[g9]
        refine b5 (.j (.gs 2 Z (.neqP Z Z Z Z Z Z Z (.ne (.F Z h (fun hc23 h=> ?_) (fun hc23 h=> ?_))))))
        ·refine AWP.j (.drawEI [3,5] mixed Z Z Z (b8.D 3 Z Z ?_))
         apply b8.consE (v:=.undef);exact Z;exact Z;intro E
         refine W.storeAgg Z Z Z Z Z Z Z .N
         exact Z
         exact Z
         refine b8.D 1 Z Z ?_
         apply b8.consE (v:=.undef);exact Z;exact Z;intro E
         refine W.storeAgg Z Z Z Z Z Z Z .N
         exact Z
         exact Z
         refine b8.done Z ?_ ?_
         ·refine d8.D 6 Z Z (d8.nil)
         dsimp only[g9]
         refine b5 (.nilrow 2 2 Z (.ret (e7 ?_)))
         obtain rfl:=oi h
         exact Done.ret Z Z
        ·refine AWP.skip (b5 (.j ?_))
         obtain⟨a196,ha196,h⟩:=bind_some h
         refine AWP.G 2 Z (.makeFuncB Z Z (.callF (r2:=.tup [.c (row 2 f5 a196.1),(cB a196.2)]) (σ'':=[(oE 4 (tO ov)),(oE 2 [int 0,int 0]),(oE 2 [int 0,int 0]),.dead,(oE 2 [int a184.2.code,int a184.2.index]),.dead,.dead,.dead,.dead,.dead,.dead,.dead,(oE 8 [int ov.facts,row 1 intI ov.init,row 1 intI ov.goal,row 3 d6 ov.operators,row 1 b9 a47,.own 17 0 c14.length,.own 18 0 c15.length,int c13]),.dead,.dead,.dead,.dead,(oV 1 intI c14),(oV 1 intI c15),(oE 2 [int a184.1.num,int a184.1.den])]) Z Z Z (FnOk.lend [12,17,18] (ap8 ha196) Z Z Z Z Z Z (by exact⟨(.one Z),.vec,.vec,Y⟩) Z (by exact⟨(.live Z (.one Z)),(.live Z .vec),(.live Z .vec),Y⟩) Z Z (by exact⟨(.old Z Z Z),(.old Z Z Z),(.old Z Z Z),.dead,(.old Z Z Z),.dead,.dead,.dead,.dead,.dead,.dead,.dead,(.new 0 Z Z (.one Z)),.dead,.dead,.dead,.dead,(.new 1 Z Z .vec),(.new 2 Z Z .vec),(.old Z Z Z),Y⟩)) (.G 5 Z (.nil (b5 (.j (.drawEI [4,6] mixed Z Z Z (b8.D 4 Z Z ?_))))))))
         apply b8.consE (v:=.undef);exact Z;exact Z;intro E
         refine W.storeAgg Z Z Z Z Z Z Z .N
         exact Z
         exact Z
         refine b8.D 1 Z Z ?_
         apply b8.consE (v:=.undef);exact Z;exact Z;intro E
         refine W.storeAgg Z Z Z Z Z Z Z .N
         exact Z
         exact Z
         refine b8.done Z ?_ ?_
         ·refine d8.D 7 Z Z (d8.nil)
         dsimp only[g9]
         refine b5 (.ret ?_)
         obtain rfl:=oi h
         exact Done.ret Z Z
theorem ref1_In_ok{nv:Int}{low:Int}{high:Int}{r:Bool}(h:N3 nv low high=some r):e8 prog 30 [(cI nv),(cI low),(cI high)] ((cB r)):=by
 unfold e8
 refine FnOk.enter (rs:=[.t 6]) func30 Z ntmps30 results30 Z ⟨Y,Y⟩ (by kernel_rfl) Z ?_
 unfold N3 at h
 refine AWP.gk 1 Z (.seqJ (⟨[(6,(cB ((decide (low≤nv)) && (decide (nv≤high)))))],[]⟩) ?_ ?_)
 ·rcases bft (decide (low≤nv)) with hb1|hb1
  ·refine AWP.G 4 Z (.K Z Z hb1 (.G 5 Z (.nil (b5 ?_))))
   simp only[U5 hb1,or_t hb1,Bool.false_or,Bool.true_or,Bool.false_and,Bool.true_and]
   exact Sub.en Z
  ·refine AWP.G 4 Z (.K Z Z hb1 (.G 5 Z (.nil (b5 ?_))))
   simp only[and_f hb1,or_f hb1,Bool.false_or,Bool.true_or,Bool.false_and,Bool.true_and]
   exact Sub.en Z
 ·refine AWP.ret ?_
  obtain rfl:=oi h
  exact Done.ret Z Z
theorem ref1_Ints_ok{av:Li}{bv:Li}{r:Bool}(h:W7 av bv=some r):e8 prog 59 [(cR av),(cR bv)] ((cB r)):=by
 unfold e8
 refine FnOk.enter (rs:=[.t 4]) func59 Z ntmps59 results59 Z ⟨Y,Y⟩ (by kernel_rfl) Z ?_
 unfold W7 at h
 refine AWP.gk 1 Z (.j (.gs 1 Z (S.len Z Z (fun hl7=>.z Z Z (S.len Z Z (fun hl9=>.ge 1 Z (.iteN Z h (fun hc3 h=> ?_) (fun hc3 h=> ?_))))))))
 ·refine AWP.gk 1 Z (.ret (e7 ?_))
  obtain rfl:=oi h
  exact Done.ret Z Z
 ·refine AWP.skip (b5 (.j (.gk 1 Z (.q ?_))))
  obtain⟨oo,ho1,h⟩:=bind_some h
  refine AWP.rngL ho1 (fun iv4 _=>⟨[(0,(cR av)),(1,(cR bv)),(5,(cI iv4))],[]⟩) (fun x e st=>e=.ret∧Done [.t 4] (fun t _=>t=(cB x)) .ret st) (fun _ _ _ k=>.G 2 Z (S.len Z Z fun hl=>.gn 1 Z (k hl))) (fun _ _=>Z) ?_ ?_ ?_ ?_
  ·try dsimp only
   exact Sub.en Z
  ·intro iv4 s o hloiv4 hltiv4 h hl13
   unfold ah4 at h
   try dsimp only at h ⊢
   refine AWP.j (.q (.j ?_))
   obtain⟨a19,ha19,a23,ha23,h⟩:=b2 h
   refine AWP.drawI mixed Z (d5.D 2 Z ?_)
   refine d5.consF Z (fun E=>S.idx ha19 Z Z Z Z .N) Z ?_
   refine d5.D 3 Z ?_
   refine d5.consF Z (fun E=>S.idx ha23 Z Z Z Z .N) Z ?_
   refine d5.D 2 Z (d5.done ?_)
   dsimp only[g9]
   refine b5 (.iteN Z h (fun hc5 h=> ?_) (fun hc5 h=> ?_))
   ·refine AWP.gk 1 Z (.ret (g7 (e7 ?_)))
    obtain rfl:=oi h
    refine e7 ⟨_,Z,Z,?_⟩
    exact Done.ret Z Z
   ·refine AWP.skip (d7 (b5 (.G 1 Z (.add Z Z Z (by omega) (.E Z Z (.nil ?_))))))
    obtain rfl:=oi h
    refine b5 ⟨_,Z,?_⟩
    exact Sub.en Z
  ·intro iz _ he
   subst he
   try dsimp only at h ⊢
   refine f9 (b5 (.gk 1 Z (.ret ?_)))
   obtain rfl:=oi h
   exact Done.ret Z Z
  ·intro x e st he hq
   subst he
   try dsimp only at h hq
   obtain⟨rfl,hs⟩:=hq
   refine⟨_,Sub.refl _ _,?_⟩
   refine g7 (e7 ?_)
   obtain rfl:=oi h
   exact hs
theorem law8_coin_ok{r:b7}(h:law8_coin=some r):e8 prog 58 [] (.agg (tO r)):=by
 unfold e8
 refine FnOk.enter (rs:=[.cell 0 25 4]) func58 Z ntmps58 results58 Z ⟨rv _ Z,Y⟩ (by kernel_rfl) Z ?_
 unfold law8_coin at h
 refine AWP.gk 1 Z (.j (.U (S.lit (f:=intI) (l:=[0]) (ess:=[[int 0]]) Z Z Z Z Z Z Z ⟨⟨.inl Z,Y⟩,Y⟩ Z Z Z (S.lit (f:=intI) (l:=[0]) (ess:=[[int 0]]) Z Z Z Z Z Z Z ⟨⟨.inl Z,Y⟩,Y⟩ Z Z Z (.G 2 Z (.frzV (id:=2) (l:=[0]) (env2:=[(0,(cP 0 0 0)),(1,.c (.own 1 0 ([0].length))),(3,.agg [row 1 intI [0],.imm (.val nL),int 1]),(4,.agg [.imm (.val nL),.imm (.val nL),int 2])]) (σ2:=[(oE 4 [int 0,.imm (.val nL),.imm (.val nL),.imm (.val nL)]),(oV 1 intI [0]),.dead]) Z Z (by exact⟨⟨_,Z,.inl ⟨Z,Z⟩⟩,⟨_,Z,.inl ⟨Z,Z⟩⟩,⟨_,Z,⟨.inr ⟨_,Z,Z,Z⟩,.inl ⟨Z,Z⟩,.inl ⟨Z,Z⟩,Y⟩⟩,⟨_,Z,⟨.inl ⟨Z,Z⟩,.inl ⟨Z,Z⟩,.inl ⟨Z,Z⟩,Y⟩⟩,Y⟩) Z (by exact⟨⟨Z,.inl ⟨Z,Z⟩,.inl ⟨Z,Z⟩,.inl ⟨Z,Z⟩,.inl ⟨Z,Z⟩,Y⟩,FrzB.vec,Y,Y⟩) (S.lit (f:=s8) (l:=[(⟨[0],[],1⟩:j3),(⟨[],[],2⟩:j3)]) (ess:=[[row 1 intI [0],.imm (.val nL),int 1],[.imm (.val nL),.imm (.val nL),int 2]]) Z Z Z Z Z Z Z ⟨⟨.inl Z,.inr ⟨Z,_,Z⟩,.inl Z,Y⟩,⟨.inr ⟨Z,_,Z⟩,.inr ⟨Z,_,Z⟩,.inl Z,Y⟩,Y⟩ Z Z Z (.G 1 Z (.frzV (id:=3) (l:=[(⟨[0],[],1⟩:j3),(⟨[],[],2⟩:j3)]) (env2:=[(0,(cP 0 0 0)),(1,.c (.own 1 0 ([0].length))),(6,.agg [.imm (.val nL),row 3 s8 ([(⟨[0],[],1⟩:j3),(⟨[],[],2⟩:j3)]),int 1])]) (σ2:=[(oE 4 [int 0,.imm (.val nL),.imm (.val nL),.imm (.val nL)]),(oV 1 intI [0]),.dead,.dead]) Z Z (by exact⟨⟨_,Z,.inl ⟨Z,Z⟩⟩,⟨_,Z,.inl ⟨Z,Z⟩⟩,⟨_,Z,⟨.inl ⟨Z,Z⟩,.inr ⟨_,Z,Z,Z⟩,.inl ⟨Z,Z⟩,Y⟩⟩,Y⟩) Z (by exact⟨⟨Z,.inl ⟨Z,Z⟩,.inl ⟨Z,Z⟩,.inl ⟨Z,Z⟩,.inl ⟨Z,Z⟩,Y⟩,FrzB.vec,Y,Y,Y⟩) (S.lit (f:=d6) (l:=[(⟨[],[(⟨[0],[],1⟩:j3),(⟨[],[],2⟩:j3)],1⟩:e9)]) (ess:=[[.imm (.val nL),row 3 s8 ([(⟨[0],[],1⟩:j3),(⟨[],[],2⟩:j3)]),int 1]]) Z Z Z Z Z Z Z ⟨⟨.inr ⟨Z,_,Z⟩,.inl Z,.inl Z,Y⟩,Y⟩ Z Z Z (.ge 2 Z (.frzV (id:=1) (l:=[0]) (env2:=[(0,(cP 0 0 0))]) (σ2:=[(oE 4 [int 1,.imm (.val nL),row 1 intI [0],.own 4 0 (([(⟨[],[(⟨[0],[],1⟩:j3),(⟨[],[],2⟩:j3)],1⟩:e9)]).length)]),.dead,.dead,.dead,(oV 3 d6 ([(⟨[],[(⟨[0],[],1⟩:j3),(⟨[],[],2⟩:j3)],1⟩:e9)]))]) Z Z (by exact⟨⟨_,Z,.inl ⟨Z,Z⟩⟩,Y⟩) Z (by exact⟨⟨Z,.inl ⟨Z,Z⟩,.inl ⟨Z,Z⟩,.inr ⟨_,Z,Z,Z⟩,.inl ⟨Z,Z⟩,Y⟩,Y,Y,Y,FrzB.vec,Y⟩) (.frzV (id:=4) (l:=[(⟨[],[(⟨[0],[],1⟩:j3),(⟨[],[],2⟩:j3)],1⟩:e9)]) (env2:=[(0,(cP 0 0 0))]) (σ2:=[(oE 4 [int 1,.imm (.val nL),row 1 intI [0],row 3 d6 ([(⟨[],[(⟨[0],[],1⟩:j3),(⟨[],[],2⟩:j3)],1⟩:e9)])]),.dead,.dead,.dead,.dead]) Z Z (by exact⟨⟨_,Z,.inl ⟨Z,Z⟩⟩,Y⟩) Z (by exact⟨⟨Z,.inl ⟨Z,Z⟩,.inl ⟨Z,Z⟩,.inl ⟨Z,Z⟩,.inr ⟨_,Z,Z,Z⟩,Y⟩,Y,Y,Y,Y,Y⟩) (.nilB (b:=0) [int 1,row 1 intI [],row 1 intI [0],row 3 d6 ([(⟨[],[(⟨[0],[],1⟩:j3),(⟨[],[],2⟩:j3)],1⟩:e9)])] Z (by exact⟨.inl Z,.inr ⟨Z,_,Z⟩,.inl Z,.inl Z,Y⟩) Z Z (.ret ?_)))))))))))))))
 obtain rfl:=oi h
 exact Done.ret Z Z
theorem ref8_Choices_ok{av:List d9}{bv:List d9}{r:Bool}(h:af9 av bv=some r):e8 prog 21 [.c (row 2 f5 av),.c (row 2 f5 bv)] ((cB r)):=by
 unfold e8
 refine FnOk.enter (rs:=[.t 4]) func21 Z ntmps21 results21 Z ⟨Y,Y⟩ (by kernel_rfl) Z ?_
 unfold af9 at h
 refine AWP.gk 1 Z (.j (.gs 1 Z (S.len Z Z (fun hl7=>.z Z Z (S.len Z Z (fun hl9=>.ge 1 Z (.iteN Z h (fun hc3 h=> ?_) (fun hc3 h=> ?_))))))))
 ·refine AWP.gk 1 Z (.ret (e7 ?_))
  obtain rfl:=oi h
  exact Done.ret Z Z
 ·refine AWP.skip (b5 (.j (.gk 1 Z (.q ?_))))
  obtain⟨oo,ho1,h⟩:=bind_some h
  refine AWP.rngL ho1 (fun iv4 _=>⟨[(0,.c (row 2 f5 av)),(1,.c (row 2 f5 bv)),(5,(cI iv4))],[]⟩) (fun x e st=>e=.ret∧Done [.t 4] (fun t _=>t=(cB x)) .ret st) (fun _ _ _ k=>.G 2 Z (S.len Z Z fun hl=>.gn 1 Z (k hl))) (fun _ _=>Z) ?_ ?_ ?_ ?_
  ·try dsimp only
   exact Sub.en Z
  ·intro iv4 s o hloiv4 hltiv4 h hl13
   unfold ah9 at h
   try dsimp only at h ⊢
   refine AWP.j (.q ?_)
   obtain⟨t5,hx6,h⟩:=bind_some h
   refine AWP.seqJ (⟨[(0,.c (row 2 f5 av)),(1,.c (row 2 f5 bv)),(5,(cI iv4)),(41,(cB t5))],[]⟩) ?_ ?_
   ·obtain⟨a19,ha19,a24,ha24,hx6⟩:=b2 hx6
    rcases bft (!(decide (a19.operator=a24.operator))) with hb7|hb7
    ·replace hx6:=J2 hb7 hx6
     refine AWP.drawI mixed Z (d5.D 2 Z ?_)
     refine d5.consF Z (fun E=>S.idx ha19 Z Z Z Z .N) Z ?_
     refine d5.D 4 Z ?_
     refine d5.consF Z (fun E=>S.idx ha24 Z Z Z Z .N) Z ?_
     refine d5.D 4 Z (d5.K Z hb7 Z (d5.D 13 Z (d5.done ?_)))
     dsimp only[g9]
     obtain rfl:=oi hx6
     refine b5 (Sub.en Z)
    ·replace hx6:=J4 hb7 hx6
     obtain⟨a31,ha31,a36,ha36,a39,ha39,hx6⟩:=b3 hx6
     refine AWP.drawI mixed Z (d5.D 2 Z ?_)
     refine d5.consF Z (fun E=>S.idx ha19 Z Z Z Z .N) Z ?_
     refine d5.D 4 Z ?_
     refine d5.consF Z (fun E=>S.idx ha24 Z Z Z Z .N) Z ?_
     refine d5.D 4 Z (d5.K Z hb7 Z (d5.D 2 Z ?_))
     refine d5.consF Z (fun E=>.O Z Z Z Z (S.idx ha31 Z Z Z Z .N)) Z ?_
     refine d5.D 4 Z ?_
     refine d5.consF Z (fun E=>.O Z Z Z Z (S.idx ha36 Z Z Z Z .N)) Z ?_
     refine d5.D 2 Z ?_
     refine d5.consF Z (fun E=>.O Z Z Z Z (.u Z Z Z Z (ref1_Ints_ok ha39) Z .N)) Z ?_
     refine d5.D 2 Z (d5.done ?_)
     dsimp only[g9]
     obtain rfl:=oi hx6
     refine b5 (Sub.en Z)
   ·refine AWP.F Z h (fun hc8 h=> ?_) (fun hc8 h=> ?_)
    ·refine AWP.gk 1 Z (.ret (g7 (e7 ?_)))
     obtain rfl:=oi h
     refine e7 ⟨_,Z,Z,?_⟩
     exact Done.ret Z Z
    ·refine AWP.skip (d7 (b5 (.G 1 Z (.add Z Z Z (by omega) (.E Z Z (.nil ?_))))))
     obtain rfl:=oi h
     refine b5 ⟨_,Z,?_⟩
     exact Sub.en Z
  ·intro iz _ he
   subst he
   try dsimp only at h ⊢
   refine f9 (b5 (.gk 1 Z (.ret ?_)))
   obtain rfl:=oi h
   exact Done.ret Z Z
  ·intro x e st he hq
   subst he
   try dsimp only at h hq
   obtain⟨rfl,hs⟩:=hq
   refine⟨_,Sub.refl _ _,?_⟩
   refine g7 (e7 ?_)
   obtain rfl:=oi h
   exact hs
theorem K7{r:Bool}(h:B7=some r):e8 prog 12 [] ((cB r)):=by
 unfold e8
 refine FnOk.enter (rs:=[.t 0]) func12 Z ntmps12 results12 Z ⟨Y,Y⟩ (by kernel_rfl) Z ?_
 unfold B7 at h
 refine AWP.gk 1 Z (.j ?_)
 obtain⟨a6,ha6,a7,ha7,h⟩:=b2 h
 refine AWP.U (.u Z Z Z Z (law8_coin_ok ha6) Z (.u Z Z Z Z (chance_Best_ok ha7) Z (.G 11 Z (.nil (b5 ?_)))))
 obtain⟨t1,hx2,h⟩:=bind_some h
 refine AWP.seqJ (⟨[(0,(cB t1))],[]⟩) ?_ ?_
 ·rcases bft (decide (a7.2.2.2.code=0)) with hb3|hb3
  ·replace hx2:=M0 hb3 hx2
   rcases bft (a7.2.2.1) with hb4|hb4
   ·replace hx2:=J2 hb4 hx2
    rcases bft ((decide (a7.2.1.num=3)) && (decide (a7.2.1.den=1))) with hb5|hb5
    ·replace hx2:=J2 hb5 hx2
     obtain⟨a27,ha27,hx2⟩:=bind_some hx2
     refine AWP.G 4 Z (.O Z Z Z hb3 (.z Z Z (.pickT Z hb3 Z Z (.z Z Z (.K Z Z hb4 (.G 2 Z (.O Z Z Z Z (.eqlP Z Z Z Z Z Z Z (.G 2 Z (.K Z Z hb5 (.G 2 Z (.O Z Z Z Z (S.lit (f:=f5) (l:=[(⟨[],0⟩:d9)]) (ess:=[[.imm (.val nL),int 0]]) Z Z Z Z Z Z Z ⟨⟨.inr ⟨Z,_,Z⟩,.inl Z,Y⟩,Y⟩ Z Z Z (.O Z Z Z Z (.aa Z Z (.cons (.c .imm) (.cons (.c (.own Z Z)) .nil)) Z (ref8_Choices_ok ha27) Z (.G 2 Z (.nil ?_)))))))))))))))))
     obtain rfl:=oi hx2
     refine b5 (Sub.cut ⟨Z,Y⟩ Z Y Z)
    ·replace hx2:=J4 hb5 hx2
     refine AWP.G 4 Z (.O Z Z Z hb3 (.z Z Z (.pickT Z hb3 Z Z (.z Z Z (.K Z Z hb4 (.G 2 Z (.O Z Z Z Z (.eqlP Z Z Z Z Z Z Z (.G 2 Z (.K Z Z hb5 (.G 6 Z (.nil ?_))))))))))))
     obtain rfl:=oi hx2
     refine b5 (Sub.cut ⟨Z,Y⟩ Z Y Z)
   ·replace hx2:=J4 hb4 hx2
    refine AWP.G 4 Z (.O Z Z Z hb3 (.z Z Z (.pickT Z hb3 Z Z (.z Z Z (.K Z Z hb4 (.G 11 Z (.nil ?_)))))))
    obtain rfl:=oi hx2
    refine b5 (Sub.cut ⟨Z,Y⟩ Z Y Z)
  ·replace hx2:=K5 hb3 hx2
   refine AWP.G 4 Z (.guardF Z Z Z hb3 (.pickF Z hb3 Z Z (.G 12 Z (.nil ?_))))
   obtain rfl:=oi hx2
   refine b5 (Sub.cut ⟨Z,Y⟩ Z Y Z)
 ·refine AWP.ret ?_
  obtain rfl:=oi h
  exact Done.ret Z Z
theorem ref8_Gcd_ok{av:Int}{bv:Int}{r:Int}(h:ag2 av bv=some r):e8 prog 65 [(cI av),(cI bv)] ((cI r)):=by
 unfold e8
 refine FnOk.enter (rs:=[.t 4]) func65 Z ntmps65 results65 Z ⟨Y,Y⟩ (by kernel_rfl) Z ?_
 unfold ag2 at h
 refine AWP.gk 1 Z (.gk 1 Z (.j (.q ?_)))
 obtain⟨⟨bv6,twos7⟩,ho1,h⟩:=bind_some h
 try dsimp only at h
 refine AWP.loopS ho1 (fun(av3,bv4,twos5)=>⟨[(0,(cI av3)),(1,(cI bv4)),(5,(cI twos5))],[]⟩) (fun(bv6,twos7) e st=>e=.exit 0∧Sub [] st ⟨[(1,(cI bv6)),(5,(cI twos7))],[]⟩) ?_ ?_ ?_
 ·try dsimp only
  exact Sub.en Z
 ·intro s o h
  obtain⟨av3,bv4,twos5⟩:=s
  unfold aa7 at h
  try dsimp only at h ⊢
  refine AWP.j (.seqJ (⟨[(0,(cI av3)),(1,(cI bv4)),(5,(cI twos5)),(12,(cB ((decide (0<av3)) && (!(decide (av3=bv4))))))],[]⟩) ?_ ?_)
  ·rcases bft (decide (0<av3)) with hb1|hb1
   ·refine AWP.G 3 Z (.K Z Z hb1 (.G 4 Z (.nil (b5 ?_))))
    simp only[U5 hb1,or_t hb1,Bool.false_or,Bool.true_or,Bool.false_and,Bool.true_and]
    exact Sub.en Z
   ·refine AWP.G 3 Z (.K Z Z hb1 (.G 4 Z (.nil (b5 ?_))))
    simp only[and_f hb1,or_f hb1,Bool.false_or,Bool.true_or,Bool.false_and,Bool.true_and]
    exact Sub.en Z
  ·refine AWP.F Z h (fun hc8 h=> ?_) (fun hc8 h=> ?_)
   ·refine AWP.skip (b5 (.q ?_))
    obtain⟨t9,hx10,h⟩:=bind_some h
    refine AWP.seqJ (⟨[(0,(cI av3)),(1,(cI bv4)),(5,(cI twos5)),(20,(cB t9))],[]⟩) ?_ ?_
    ·obtain⟨u14,hu14,hx10⟩:=bind_some hx10
     rcases bft (decide ((av3).tmod 2=0)) with hb11|hb11
     ·replace hx10:=M0 hb11 hx10
      obtain⟨u18,hu18,hx10⟩:=bind_some hx10
      refine AWP.G 1 Z (S.rem hu14 Z Z Z (.G 2 Z (.K Z Z hb11 (.G 1 Z (.O Z Z Z Z (S.rem hu18 Z Z Z (.G 2 Z (.nil ?_))))))))
      obtain rfl:=oi hx10
      refine b5 (Sub.en Z)
     ·replace hx10:=K5 hb11 hx10
      refine AWP.G 1 Z (S.rem hu14 Z Z Z (.G 2 Z (.K Z Z hb11 (.G 4 Z (.nil ?_)))))
      obtain rfl:=oi hx10
      refine b5 (Sub.en Z)
    ·refine AWP.F Z h (fun hc12 h=> ?_) (fun hc12 h=> ?_)
     ·refine AWP.j ?_
      obtain⟨u22,hu22,h⟩:=bind_some h
      refine AWP.G 1 Z (S.quo hu22 Z Z Z (.E Z Z (.nil (b5 (.j ?_)))))
      obtain⟨u24,hu24,h⟩:=bind_some h
      refine AWP.G 1 Z (S.quo hu24 Z Z Z (.E Z Z (.nil (b5 (.G 3 Z (.nil (d7 ?_)))))))
      obtain rfl:=oi h
      refine b5 ⟨_,Z,?_⟩
      exact Sub.en Z
     ·refine AWP.j ?_
      obtain⟨u28,hu28,h⟩:=bind_some h
      refine AWP.G 1 Z (S.rem hu28 Z Z Z (.eql Z Z Z (.nil (b5 (.J Z h (fun hc13 h=> ?_) (fun hc13 h=> ?_))))))
      ·obtain⟨u31,hu31,h⟩:=bind_some h
       refine AWP.G 1 Z (S.quo hu31 Z Z Z (.E Z Z (.nil (d7 ?_))))
       obtain rfl:=oi h
       refine b5 ⟨_,Z,?_⟩
       exact Sub.en Z
      ·refine AWP.j ?_
       obtain⟨u33,hu33,h⟩:=bind_some h
       refine AWP.G 1 Z (S.rem hu33 Z Z Z (.eql Z Z Z (.nil (b5 (.J Z h (fun hc14 h=> ?_) (fun hc14 h=> ?_))))))
       ·obtain⟨u36,hu36,h⟩:=bind_some h
        refine AWP.G 1 Z (S.quo hu36 Z Z Z (.E Z Z (.nil (d7 ?_))))
        obtain rfl:=oi h
        refine b5 ⟨_,Z,?_⟩
        exact Sub.en Z
       ·refine AWP.gk 3 Z (.J Z h (fun hc15 h=> ?_) (fun hc15 h=> ?_))
        ·refine AWP.G 4 Z (.nil (d7 ?_))
         obtain rfl:=oi h
         refine b5 ⟨_,Z,?_⟩
         exact Sub.en Z
        ·refine AWP.G 4 Z (.nil (d7 ?_))
         obtain rfl:=oi h
         refine b5 ⟨_,Z,?_⟩
         exact Sub.en Z
   ·refine AWP.exit (h9 ?_)
    obtain rfl:=oi h
    refine h9 ⟨_,Z,Z,?_⟩
    exact Sub.en Z
 ·intro e s hq
  obtain⟨rfl,hs⟩:=hq
  refine⟨_,hs,?_⟩
  refine f9 (b5 (.gk 4 Z (.ret ?_)))
  obtain rfl:=oi h
  exact Done.ret Z Z
end Ab
end
section
namespace Ab
open Go Go.Proofs
open Tryz
set_option maxHeartbeats 4000000
set_option linter.all false
attribute [local irreducible] AWP AOps thn inB Done e8 m8 Sub
theorem ref8_Lowest_ok{num:Int}{den:Int}{r:m5}(h:H4 num den=some r):e8 prog 19 [(cI num),(cI den)] (.agg [int r.num,int r.den]):=by
 unfold e8
 refine FnOk.enter (rs:=[.cell 4 28 2]) func19 Z ntmps19 results19 Z ⟨rv _ Z,Y⟩ (by kernel_rfl) Z ?_
 unfold H4 at h
 refine AWP.gk 1 Z (.j ?_)
 obtain⟨a8,ha8,h⟩:=bind_some h
 refine AWP.G 2 Z (.u Z Z Z Z (ref8_Gcd_ok ha8) Z (.E Z Z (.nil (b5 (.j ?_)))))
 obtain⟨u11,hu11,u14,hu14,h⟩:=b2 h
 refine AWP.drawEI [7] mixed Z Z Z (b8.D 2 Z Z ?_)
 refine b8.consN Z Z (fun E=>S.quo hu11 Z Z Z .N) Z ?_
 refine b8.D 2 Z Z ?_
 refine b8.consN Z Z (fun E=>S.quo hu14 Z Z Z .N) Z ?_
 refine b8.D 1 Z Z ?_
 apply b8.consE (v:=.undef);exact Z;exact Z;intro E
 refine W.storeAgg Z Z Z Z Z Z Z .N
 exact Z
 exact Z
 refine b8.done Z ?_ ?_
 ·refine d8.D 2 Z Z ?_
  refine d8.cons Z Z (.go Z Z (fun E=>S.quo hu11 Z Z Z .N) (.skip Z .nil)) ?_
  refine d8.D 2 Z Z ?_
  refine d8.cons Z Z (.go Z Z (fun E=>S.quo hu14 Z Z Z .N) (.skip Z .nil)) ?_
  refine d8.D 2 Z Z (d8.nil)
 dsimp only[g9]
 refine b5 (.ret ?_)
 obtain rfl:=oi h
 exact Done.ret Z Z
theorem aj6{ov:b7}{policy:List d9}{r:i7}(h:B2 ov policy=some r):e8 prog 69 [.agg (tO ov),.c (row 2 f5 policy)] (.agg [int r.code,int r.index]):=by
 unfold e8
 refine FnOk.enter (rs:=[.cell 4 30 2]) func69 Z ntmps69 results69 Z ⟨rv _ Z,Y⟩ (by kernel_rfl) Z ?_
 unfold B2 at h
 refine AWP.gk 2 Z (.j (.j ?_))
 obtain⟨a10,ha10,h⟩:=bind_some h
 refine AWP.G 1 Z (.u Z Z Z Z (ag0 ha10) Z (.G 2 Z (.nil (b5 (.gs 2 Z (.neqP Z Z Z Z Z Z Z (.ne (.F Z h (fun hc3 h=> ?_) (fun hc3 h=> ?_)))))))))
 ·refine AWP.gk 2 Z (.ret (e7 ?_))
  obtain rfl:=oi h
  exact Done.ret Z Z
 ·refine AWP.skip (b5 (.j (.gs 1 Z (S.len Z Z (fun hl16=>.ge 1 Z (.J Z h (fun hc4 h=> ?_) (fun hc4 h=> ?_)))))))
  ·refine AWP.gk 2 Z (.ret (e7 ?_))
   obtain rfl:=oi h
   exact Done.ret Z Z
  ·refine AWP.skip (b5 (.j (.gs 1 Z (S.len Z Z (fun hl20=>.ge 1 Z (.q ?_))))))
   obtain⟨oo,ho1,h⟩:=bind_some h
   refine AWP.rngH ho1 (fun t5 _=>⟨[(1,.c (row 2 f5 policy)),(2,(cP 0 0 0)),(4,(cP 1 0 0)),(19,.c (row 2 f5 policy)),(20,(cI (policy.length:Int))),(21,(cI t5))],[(oE 4 (tO ov)),(oE 2 [int 0,int 0])]⟩) (fun x e st=>e=.ret∧Done [.cell 4 30 2] (fun t _=>t=.agg [int x.code,int x.index]) .ret st) (fun _ _=>Z) ?_ ?_ ?_ ?_
   ·try dsimp only
    exact Sub.cut ⟨Z,Z,Z,Z,Z,Z,Y⟩ Z ⟨.one Z,.one Z,Y⟩ Z
   ·intro t5 s o hlot5 hltt5 h
    unfold B4 at h
    try dsimp only at h ⊢
    refine AWP.j (.q (.j ?_))
    obtain⟨a24,ha24,h⟩:=bind_some h
    refine AWP.G 1 Z (S.idx ha24 Z Z Z Z (.G 4 Z (.nil (b5 (.gk 1 Z ?_)))))
    obtain⟨ev6,hx7,h⟩:=bind_some h
    refine AWP.seqJ (⟨[(1,.c (row 2 f5 policy)),(2,(cP 0 0 0)),(4,(cP 1 0 0)),(6,(cI t5)),(8,(cI ev6)),(19,.c (row 2 f5 policy)),(20,(cI (policy.length:Int))),(21,(cI t5))],[(oE 4 (tO ov)),(oE 2 [int 0,int 0])]⟩) ?_ ?_
    ·refine AWP.q ?_
     obtain⟨t8,hx9,hx7⟩:=bind_some hx7
     refine AWP.seqJ (⟨[(1,.c (row 2 f5 policy)),(2,(cP 0 0 0)),(4,(cP 1 0 0)),(6,(cI t5)),(7,(cP 2 0 0)),(8,(cI 0)),(19,.c (row 2 f5 policy)),(20,(cI (policy.length:Int))),(21,(cI t5)),(26,(cB t8))],[(oE 4 (tO ov)),(oE 2 [int 0,int 0]),(oE 2 [row 1 intI a24.state,int a24.operator])]⟩) ?_ ?_
     ·obtain⟨a31,ha31,hx9⟩:=bind_some hx9
      rcases bft (!a31) with hb10|hb10
      ·replace hx9:=J2 hb10 hx9
       refine AWP.drawI mixed Z (d5.D 4 Z ?_)
       refine d5.consF Z (fun E=>.u Z Z Z Z (u9 ha31) Z .N) Z ?_
       refine d5.D 2 Z (d5.K Z hb10 Z (d5.D 16 Z (d5.done ?_)))
       dsimp only[g9]
       obtain rfl:=oi hx9
       refine b5 (Sub.en Z)
      ·replace hx9:=J4 hb10 hx9
       rcases bft (decide (0<t5)) with hb11|hb11
       ·replace hx9:=M0 hb11 hx9
        obtain⟨a40,ha40,a45,ha45,hx9⟩:=b2 hx9
        refine AWP.drawI mixed Z (d5.D 4 Z ?_)
        refine d5.consF Z (fun E=>.u Z Z Z Z (u9 ha31) Z .N) Z ?_
        refine d5.D 2 Z (d5.K Z hb10 Z (d5.D 3 Z (d5.K Z hb11 Z (d5.D 2 Z ?_))))
        refine d5.consF Z (fun E=>.O Z Z Z Z (.sub' Z Z Z (by omega) .N)) Z (.consF Z (fun E=>.O Z Z Z Z (S.idx ha40 Z Z Z Z .N)) Z ?_)
        refine d5.D 4 Z ?_
        refine d5.consF Z (fun E=>.O Z Z Z Z (.u Z Z Z Z (q8 ha45) Z .N)) Z ?_
        refine d5.D 4 Z (d5.done ?_)
        dsimp only[g9]
        obtain rfl:=oi hx9
        refine b5 (Sub.en Z)
       ·replace hx9:=K5 hb11 hx9
        refine AWP.drawI mixed Z (d5.D 4 Z ?_)
        refine d5.consF Z (fun E=>.u Z Z Z Z (u9 ha31) Z .N) Z ?_
        refine d5.D 2 Z (d5.K Z hb10 Z (d5.D 3 Z (d5.K Z hb11 Z (d5.D 13 Z (d5.done ?_)))))
        dsimp only[g9]
        obtain rfl:=oi hx9
        refine b5 (Sub.en Z)
     ·refine AWP.F Z hx7 (fun hc12 hx7=> ?_) (fun hc12 hx7=> ?_)
      ·refine AWP.G 1 Z (.nil (d7 ?_))
       obtain rfl:=oi hx7
       refine b5 (Sub.cut ⟨Z,Z,Z,Z,Z,Z,Z,Z,Y⟩ Z ⟨.one Z,.one Z,Y⟩ Z)
      ·refine AWP.seqJ (⟨[(1,.c (row 2 f5 policy)),(2,(cP 0 0 0)),(4,(cP 1 0 0)),(6,(cI t5)),(7,(cP 2 0 0)),(8,(cI 0)),(19,.c (row 2 f5 policy)),(20,(cI (policy.length:Int))),(21,(cI t5)),(49,(cB ((decide (a24.operator<0))||(decide ((ov.operators.length:Int)≤a24.operator)))))],[(oE 4 (tO ov)),(oE 2 [int 0,int 0]),(oE 2 [row 1 intI a24.state,int a24.operator])]⟩) ?_ ?_
       ·rcases bft (decide (a24.operator<0)) with hb1|hb1
        ·refine AWP.G 4 Z (.K Z Z hb1 (.G 8 Z (.nil (b5 ?_))))
         simp only[U5 hb1,or_t hb1,Bool.false_or,Bool.true_or,Bool.false_and,Bool.true_and]
         exact Sub.en Z
        ·refine AWP.G 4 Z (.K Z Z hb1 (.G 4 Z ?_))
         refine AOps.O Z Z Z Z ?_;refine S.len Z Z (fun hl58=> ?_)
         refine AOps.G 3 Z (.nil (b5 ?_))
         simp only[and_f hb1,or_f hb1,Bool.false_or,Bool.true_or,Bool.false_and,Bool.true_and]
         exact Sub.en Z
       ·refine AWP.F Z hx7 (fun hc13 hx7=> ?_) (fun hc13 hx7=> ?_)
        ·refine AWP.G 1 Z (.nil (d7 ?_))
         obtain rfl:=oi hx7
         refine b5 (Sub.cut ⟨Z,Z,Z,Z,Z,Z,Z,Z,Y⟩ Z ⟨.one Z,.one Z,Y⟩ Z)
        ·refine AWP.j ?_
         obtain⟨a67,ha67,hx7⟩:=bind_some hx7
         refine AWP.G 5 Z (.u Z Z Z Z (T5 ha67) Z (.G 2 Z (.nil (b5 (.F Z hx7 (fun hc14 hx7=> ?_) (fun hc14 hx7=> ?_))))))
         ·refine AWP.G 1 Z (.nil (d7 ?_))
          obtain rfl:=oi hx7
          refine b5 (Sub.cut ⟨Z,Z,Z,Z,Z,Z,Z,Z,Y⟩ Z ⟨.one Z,.one Z,Y⟩ Z)
         ·refine AWP.skip (d7 ?_)
          obtain rfl:=oi hx7
          refine b5 (Sub.cut ⟨Z,Z,Z,Z,Z,Z,Z,Z,Y⟩ Z ⟨.one Z,.one Z,Y⟩ Z)
    ·refine AWP.gk 2 Z (.iteN Z h (fun hc15 h=> ?_) (fun hc15 h=> ?_))
     ·refine AWP.gk 5 Z (.ret (g7 (e7 ?_)))
      obtain rfl:=oi h
      refine e7 ⟨_,Z,Z,?_⟩
      exact Done.ret Z Z
     ·refine AWP.skip (d7 (b5 (.U (.add Z Z Z (by omega) (.z Z Z (.nil ?_))))))
      obtain rfl:=oi h
      refine b5 ⟨_,Z,?_⟩
      exact Sub.en Z
   ·intro iz _ he
    subst he
    try dsimp only at h ⊢
    refine f9 (b5 (.gk 2 Z (.ret ?_)))
    obtain rfl:=oi h
    exact Done.ret Z Z
   ·intro x e st he hq
    subst he
    try dsimp only at h hq
    obtain⟨rfl,hs⟩:=hq
    refine⟨_,Sub.refl _ _,?_⟩
    refine g7 (e7 ?_)
    obtain rfl:=oi h
    exact hs
theorem ap7{xv:Li}{c2:Li}{r:Bool}(h:H8 xv c2=some r):e8 prog 103 [(cR xv),.c (.imm (.ipt [.sl 1 (List.map intI c2)]))] ((cB r)):=by
 unfold e8
 refine FnOk.enter (rs:=[.t 3]) func103 Z ntmps103 results103 Z ⟨Y,Y⟩ (by kernel_rfl) Z ?_
 unfold H8 at h
 refine AWP.gk 1 Z (.j ?_)
 obtain⟨a6,ha6,h⟩:=bind_some h
 refine AWP.G 2 Z (.u Z Z Z Z (J8 ha6) Z (.E Z Z (.nil (b5 (.ret ?_)))))
 obtain rfl:=oi h
 exact Done.ret Z Z
theorem ai6{ov:b7}{policy:List d9}{r:(LL)}(h:N2 ov policy=some r):m8 prog 71 [.agg (tO ov),.c (row 2 f5 policy)] 1 (List.map b9 r):=by
 unfold m8
 refine FnOk.enter (rs:=[.t 4]) func71 Z ntmps71 results71 Z ⟨Y,Y⟩ (by kernel_rfl) Z ?_
 unfold N2 at h
 refine AWP.gk 2 Z (.j ?_)
 obtain⟨a14,ha14,h⟩:=bind_some h
 refine AWP.G 2 Z (S.fresh Z Z Z Z (A4 ha14) Z Z (.frzV (id:=1) (l:=a14) (env2:=[(1,.c (row 2 f5 policy)),(2,(cP 0 0 0)),(14,(cR a14))]) (σ2:=[(oE 4 (tO ov)),.dead]) Z Z (by exact⟨⟨_,Z,.inl ⟨Z,Z⟩⟩,⟨_,Z,.inl ⟨Z,Z⟩⟩,⟨_,Z,.inr ⟨_,Z,Z,Z⟩⟩,Y⟩) Z (by exact⟨⟨Z,.inl ⟨Z,Z⟩,.inl ⟨Z,Z⟩,.inl ⟨Z,Z⟩,.inl ⟨Z,Z⟩,Y⟩,Y,Y⟩) (S.lit (f:=b9) (l:=[a14]) (ess:=[[row 1 intI a14]]) Z Z Z Z Z Z Z ⟨⟨.inl Z,Y⟩,Y⟩ Z Z Z (.E Z Z (.nil (b5 (.j (.gk 1 Z (.q ?_)))))))))
 obtain⟨c5,ho1,h⟩:=bind_some h
 refine AWP.loopS ho1 (fun(c3,atv4)=>⟨[(1,.c (row 2 f5 policy)),(2,(cP 0 0 0)),(5,.c (.own 2 0 c3.length)),(6,(cI atv4))],[(oE 4 (tO ov)),.dead,(oV 1 b9 c3)]⟩) (fun c5 e st=>e=.exit 0∧Sub [] st ⟨[(5,.c (.own 2 0 c5.length))],[.dead,.dead,(oV 1 b9 c5)]⟩) ?_ ?_ ?_
 ·try dsimp only
  exact Sub.en Z
 ·intro s o h
  obtain⟨c3,atv4⟩:=s
  unfold Q6 at h
  try dsimp only at h ⊢
  refine AWP.j (.gs 2 Z (S.lenO Z Z Z (fun hl18=>.ge 1 Z (.J Z h (fun hc6 h=> ?_) (fun hc6 h=> ?_)))))
  ·refine AWP.skip (b5 ?_)
   obtain⟨c7,hx8,h⟩:=bind_some h
   refine AWP.seqJ (⟨[(1,.c (row 2 f5 policy)),(2,(cP 0 0 0)),(5,.c (.own 2 0 c7.length)),(6,(cI atv4))],[(oE 4 (tO ov)),.dead,(oV 1 b9 c7)]⟩) ?_ ?_
   ·refine AWP.q (.j ?_)
    obtain⟨a25,ha25,a27,ha27,hx8⟩:=b2 hx8
    refine AWP.G 3 Z (S.idxO ha25 Z Z Z Z Z (S.loadO ha25 Z Z Z Z Z (.u Z Z Z Z (E6 ha27) Z (.E Z Z (.nil (b5 (.j ?_)))))))
    obtain⟨t9,hx10,hx8⟩:=bind_some hx8
    refine AWP.seqJ (⟨[(1,.c (row 2 f5 policy)),(2,(cP 0 0 0)),(5,.c (.own 2 0 c3.length)),(6,(cI atv4)),(7,(cI a27)),(38,(cB t9))],[(oE 4 (tO ov)),.dead,(oV 1 b9 c3)]⟩) ?_ ?_
    ·rcases bft (decide (a27<0)) with hb11|hb11
     ·replace hx10:=M0 hb11 hx10
      refine AWP.drawI mixed Z (d5.D 3 Z (d5.K Z hb11 Z (d5.D 8 Z (d5.done ?_))))
      dsimp only[g9]
      obtain rfl:=oi hx10
      refine b5 (Sub.en Z)
     ·replace hx10:=K5 hb11 hx10
      obtain⟨a33,ha33,a37,ha37,hx10⟩:=b2 hx10
      refine AWP.drawI mixed Z (d5.D 3 Z (d5.K Z hb11 Z (d5.D 2 Z ?_)))
      refine d5.consF Z (fun E=>.O Z Z Z Z (S.idxO ha33 Z Z Z Z Z .N)) Z (.consF Z (fun E=>.O Z Z Z Z (S.loadO ha33 Z Z Z Z Z .N)) Z ?_)
      refine d5.D 2 Z ?_
      refine d5.consF Z (fun E=>.O Z Z Z Z (.u Z Z Z Z (k8 ha37) Z .N)) Z ?_
      refine d5.D 1 Z (d5.done ?_)
      dsimp only[g9]
      obtain rfl:=oi hx10
      refine b5 (Sub.en Z)
    ·refine AWP.F Z hx8 (fun hc12 hx8=> ?_) (fun hc12 hx8=> ?_)
     ·refine AWP.exit (h9 (f9 ?_))
      obtain rfl:=oi hx8
      refine b5 (Sub.en Z)
     ·refine AWP.skip (b5 (.j ?_))
      obtain⟨a43,ha43,a46,ha46,hx8⟩:=b2 hx8
      refine AWP.drawI mixed Z (d5.D 3 Z ?_)
      refine d5.consF Z (fun E=>S.idxO ha43 Z Z Z Z Z .N) Z (.consF Z (fun E=>S.loadO ha43 Z Z Z Z Z .N) Z ?_)
      refine d5.D 1 Z ?_
      refine d5.consF Z (fun E=>.u Z Z Z Z (w7 ha46) Z .N) Z ?_
      refine d5.D 5 Z (d5.done ?_)
      dsimp only[g9]
      refine b5 (.gs 1 Z (S.len Z Z (fun hl50=>.ge 1 Z (.q ?_))))
      obtain⟨c13,ho2,hx8⟩:=bind_some hx8
      refine AWP.forH ho2 (fun t14 c13=>⟨[(1,.c (row 2 f5 policy)),(2,(cP 0 0 0)),(5,.c (.own 2 0 c13.length)),(6,(cI atv4)),(49,.c (row 1 b9 a46.1)),(50,(cI (a46.1.length:Int))),(51,(cI t14))],[(oE 4 (tO ov)),.dead,(oV 1 b9 c13)]⟩) (fun _ _=>Z) ?_ ?_ ?_
      ·try dsimp only
       exact Sub.en Z
      ·intro t14 c13 o hlot14 hltt14 h
       unfold K6 at h
       try dsimp only at h ⊢
       obtain⟨c15,hx16,h⟩:=bind_some h
       refine AWP.seqJ (⟨[(1,.c (row 2 f5 policy)),(2,(cP 0 0 0)),(5,.c (.own 5 0 c15.length)),(6,(cI atv4)),(49,.c (row 1 b9 a46.1)),(50,(cI (a46.1.length:Int))),(51,(cI t14))],[(oE 4 (tO ov)),.dead,.dead,.dead,.dead,(oV 1 b9 c15)]⟩) ?_ ?_
       ·refine AWP.q (.j ?_)
        obtain⟨a53,ha53,hx16⟩:=bind_some hx16
        refine AWP.U (S.idx ha53 Z Z Z Z (.G 3 Z (.nil (b5 (.j ?_)))))
        obtain⟨a57,ha57,hx16⟩:=bind_some hx16
        refine AWP.G 1 Z (.ab Z Z (.aa Z Z (.cons (.c (.own Z Z)) (.cons (.c (.fn (.cons (.ptr (es:=[.sl 1 (List.map intI a53)]) Z Z (.cons .imm .nil)) .nil))) .nil)) Z (N1 Z (fun hy=>ap7 hy) ha57) Z ?_))
        refine AOps.not Z Z (.nil (b5 (.F Z hx16 (fun hc17 hx16=> ?_) (fun hc17 hx16=> ?_))))
        ·obtain⟨a62,ha62,hx16⟩:=bind_some hx16
         refine AWP.G 2 Z (S.lit (f:=b9) (l:=[a53]) (ess:=[[row 1 intI a53]]) Z Z Z Z Z Z Z ⟨⟨.inl Z,Y⟩,Y⟩ Z Z Z (S.append (f:=b9) ha62 Z Z Z Z Z Z (.own Z Z) Z Z Z Z (.E Z Z (.nil (d7 ?_)))))
         obtain rfl:=oi hx16
         refine b5 (Sub.cut ⟨Z,Z,Z,Z,Z,Z,Z,Y⟩ Z ⟨.one Z,.dead,.dead,.dead,.dead,.vec,Y⟩ Z)
        ·refine AWP.skip (d7 ?_)
         obtain rfl:=oi hx16
         refine b5 ((Sub.move (env':=[(1,.c (row 2 f5 policy)),(2,(cP 0 0 0)),(5,.c (.own 5 0 c13.length)),(6,(cI atv4)),(49,.c (row 1 b9 a46.1)),(50,(cI (a46.1.length:Int))),(51,(cI t14))]) (σ':=[(oE 4 (tO ov)),.dead,.dead,(o1 (row 1 intI a53)),.dead,(oV 1 b9 c13)]) 5 2 Z Z Z ⟨Z,Z,Z,Z,Z,Z,Z,Y⟩ Z ⟨⟨Z,Z⟩,Y,Y,⟨Z,Z⟩,Y,⟨Blk.im_ok _ _ _,i6 Z⟩,Y⟩).trans (Sub.cut ⟨Z,Z,Z,Z,Z,Z,Z,Y⟩ Z ⟨.one Z,.dead,.dead,.dead,.dead,.vec,Y⟩ Z))
       ·refine AWP.U (.add Z Z Z (by omega) (.z Z Z (.nil ?_)))
        obtain rfl:=oi h
        refine b5 ((Sub.move (env':=[(1,.c (row 2 f5 policy)),(2,(cP 0 0 0)),(5,.c (.own 2 0 c15.length)),(6,(cI atv4)),(49,.c (row 1 b9 a46.1)),(50,(cI (a46.1.length:Int))),(51,(cI (t14+1)))]) (σ':=[(oE 4 (tO ov)),.dead,(oV 1 b9 c15),.dead,.dead]) 2 5 Z Z Z ⟨Z,Z,Z,Z,Z,Z,Z,Y⟩ Z ⟨⟨Z,Z⟩,Y,⟨Blk.im_ok _ _ _,i6 Z⟩,Y,Y,Y⟩).trans (Sub.cut ⟨Z,Z,Z,Z,Z,Z,Z,Y⟩ Z ⟨.one Z,.dead,.vec,Y⟩ Z))
      ·intro iz
       try dsimp only
       refine f9 (d7 ?_)
       obtain rfl:=oi hx8
       refine b5 (Sub.en Z)
   ·refine AWP.G 3 Z (.nil ?_)
    obtain rfl:=oi h
    refine b5 ⟨_,Z,?_⟩
    exact Sub.en Z
  ·refine AWP.exit (h9 ?_)
   obtain rfl:=oi h
   refine h9 ⟨_,Z,Z,?_⟩
   exact Sub.cut ⟨Z,Y⟩ Z ⟨.dead,.dead,.vec,Y⟩ Z
 ·intro e s hq
  obtain⟨rfl,hs⟩:=hq
  refine⟨_,hs,?_⟩
  refine f9 (b5 (.j ?_))
  obtain⟨a65,ha65,h⟩:=bind_some h
  refine AWP.G 1 Z (.callF (r2:=.c (.own 4 0 a65.length)) (σ'':=[.dead,.dead,.dead,.dead,(oV 1 b9 a65)]) Z Z Z (FnOk.lend [2] (R4 ha65) Z Z Z Z Z Z (by exact⟨.vec,Y⟩) Z (by exact⟨(.live Z .vec),Y⟩) Z Z (by exact⟨.dead,.dead,.dead,.dead,(.new 2 Z Z .vec),Y⟩)) (.E Z Z (.nil (b5 (.ret ?_)))))
  obtain rfl:=oi h
  exact Done.ret Z (Fresh.mk Z Z)
theorem ah8{sv:Li}{v:Int}{r:Int}(h:G7 sv v=some r):e8 prog 129 [(cR sv),(cI v)] ((cI r)):=by
 unfold e8
 refine FnOk.enter (rs:=[.t 4]) func129 Z ntmps129 results129 Z ⟨Y,Y⟩ (by kernel_rfl) Z ?_
 unfold G7 at h
 refine AWP.gk 1 Z (.j (.gs 1 Z (S.len Z Z (fun hl7=>.ge 1 Z (.q ?_)))))
 obtain⟨oo,ho1,h⟩:=bind_some h
 refine AWP.rngH ho1 (fun t3 _=>⟨[(0,(cR sv)),(1,(cI v)),(7,(cI (sv.length:Int))),(8,(cI t3))],[]⟩) (fun x e st=>e=.ret∧Done [.t 4] (fun t _=>t=(cI x)) .ret st) (fun _ _=>Z) ?_ ?_ ?_ ?_
 ·try dsimp only
  exact Sub.en Z
 ·intro t3 s o hlot3 hltt3 h
  unfold E0 at h
  try dsimp only at h ⊢
  refine AWP.j (.q (.gk 2 Z (.j ?_)))
  obtain⟨a14,ha14,h⟩:=bind_some h
  refine AWP.G 3 Z (S.idx ha14 Z Z Z Z (.G 2 Z (.nil (b5 (.J Z h (fun hc4 h=> ?_) (fun hc4 h=> ?_))))))
  ·refine AWP.gk 2 Z (.ret (g7 (e7 ?_)))
   obtain rfl:=oi h
   refine e7 ⟨_,Z,Z,?_⟩
   exact Done.ret Z Z
  ·refine AWP.skip (d7 (b5 (.U (.add Z Z Z (by omega) (.z Z Z (.nil ?_))))))
   obtain rfl:=oi h
   refine b5 ⟨_,Z,?_⟩
   exact Sub.en Z
 ·intro iz _ he
  subst he
  try dsimp only at h ⊢
  refine f9 (b5 (.gk 1 Z (.ret ?_)))
  obtain rfl:=oi h
  exact Done.ret Z Z
 ·intro x e st he hq
  subst he
  try dsimp only at h hq
  obtain⟨rfl,hs⟩:=hq
  refine⟨_,Sub.refl _ _,?_⟩
  refine g7 (e7 ?_)
  obtain rfl:=oi h
  exact hs
theorem ac3{sv:Li}{v:Int}{r:Bool}(h:A0 sv v=some r):e8 prog 101 [(cR sv),(cI v)] ((cB r)):=by
 unfold e8
 refine FnOk.enter (rs:=[.t 4]) func101 Z ntmps101 results101 Z ⟨Y,Y⟩ (by kernel_rfl) Z ?_
 unfold A0 at h
 refine AWP.gk 1 Z (.j ?_)
 obtain⟨a7,ha7,h⟩:=bind_some h
 refine AWP.G 2 Z (.u Z Z Z Z (ah8 ha7) Z (.G 2 Z (.nil (b5 (.ret ?_)))))
 obtain rfl:=oi h
 exact Done.ret Z Z
theorem cyclic_Holds_ok{ov:b7}{policy:List d9}{r:Bool}(h:R6 ov policy=some r):e8 prog 70 [.agg (tO ov),.c (row 2 f5 policy)] ((cB r)):=by
 unfold e8
 refine FnOk.enter (rs:=[.t 4]) func70 Z ntmps70 results70 Z ⟨Y,Y⟩ (by kernel_rfl) Z ?_
 unfold R6 at h
 refine AWP.gk 2 Z (.j ?_)
 obtain⟨a16,ha16,h⟩:=bind_some h
 refine AWP.G 2 Z (S.fresh Z Z Z Z (ai6 ha16) Z Z (.E Z Z (.nil (b5 (.j ?_)))))
 obtain⟨a19,ha19,h⟩:=bind_some h
 refine AWP.G 1 Z (S.lenO Z Z Z (fun hl18=>S.make (f:=intI) ha19 (.val .nil) Z Z Z Z Z Z (.E Z Z (.nil (b5 (.j (.gs 1 Z (S.lenO Z Z Z (fun hl21=>.ge 1 Z (.q ?_))))))))))
 obtain⟨oo,ho1,h⟩:=bind_some h
 refine AWP.rngH ho1 (fun t4 c3=>⟨[(1,.c (row 2 f5 policy)),(2,(cP 0 0 0)),(5,.c (.own 1 0 a16.length)),(6,.c (.own 2 0 c3.length)),(21,(cI (a16.length:Int))),(22,(cI t4))],[(oE 4 (tO ov)),(oV 1 b9 a16),(oV 1 intI c3)]⟩) (fun x e st=>e=.ret∧Done [.t 4] (fun t _=>t=(cB x)) .ret st) (fun _ _=>Z) ?_ ?_ ?_ ?_
 ·try dsimp only
  exact Sub.en Z
 ·intro t4 c3 o hlot4 hltt4 h
  unfold G0 at h
  try dsimp only at h ⊢
  refine AWP.j (.q (.gs 1 Z (S.lenO Z Z Z (fun hl25=>.ge 1 Z (.q ?_)))))
  obtain⟨oo,ho2,h⟩:=bind_some h
  refine AWP.rngH ho2 (fun t6 c5=>⟨[(1,.c (row 2 f5 policy)),(2,(cP 0 0 0)),(5,.c (.own 1 0 a16.length)),(6,.c (.own 2 0 c5.length)),(21,(cI (a16.length:Int))),(22,(cI t4)),(24,.c (.own 1 0 a16.length)),(25,(cI (a16.length:Int))),(26,(cI t6))],[(oE 4 (tO ov)),(oV 1 b9 a16),(oV 1 intI c5)]⟩) (fun x e st=>e=.ret∧Done [.t 4] (fun t _=>t=(cB x)) .ret st) (fun _ _=>Z) ?_ ?_ ?_ ?_
  ·try dsimp only
   exact Sub.en Z
  ·intro t6 c5 o hlot6 hltt6 h
   unfold F5 at h
   try dsimp only at h ⊢
   refine AWP.seqF (L8) o (fun c7=>⟨[(1,.c (row 2 f5 policy)),(2,(cP 0 0 0)),(5,.c (.own 1 0 a16.length)),(6,.c (.own 2 0 c7.length)),(21,(cI (a16.length:Int))),(22,(cI t4)),(24,.c (.own 1 0 a16.length)),(25,(cI (a16.length:Int))),(26,(cI t6))],[(oE 4 (tO ov)),(oV 1 b9 a16),(oV 1 intI c7)]⟩) (fun c7 h=> ?_) ?_
   ·unfold L8 at h
    try dsimp only at h ⊢
    refine AWP.U (.add Z Z Z (by omega) (.z Z Z (.nil ?_)))
    obtain rfl:=oi h
    refine b5 ⟨_,Z,?_⟩
    exact Sub.en Z
   ·refine AWP.q (.j ?_)
    obtain⟨a29,ha29,h⟩:=bind_some h
    refine AWP.G 1 Z (S.idxO ha29 Z Z Z Z Z (S.loadO ha29 Z Z Z Z Z (.G 2 Z (.nil (b5 (.j (.j ?_)))))))
    obtain⟨a34,ha34,h⟩:=bind_some h
    refine AWP.G 3 Z (.u Z Z Z Z (k8 ha34) Z (.nil (b5 (.F Z h (fun hc8 h=> ?_) (fun hc8 h=> ?_)))))
    ·refine AWP.j ?_
     obtain⟨a37,ha37,h⟩:=bind_some h
     refine AWP.G 2 Z (S.idxO ha37 Z Z Z Z Z (S.storeO1 (f:=intI) (a':=1) (s7 ha37) (fun _=>⟨_,Z⟩) Z Z Z Z Z ?_))
     refine AOps.nil (b5 (.exit (h9 (f9 (b5 ⟨_,h,?_⟩)))))
     exact Sub.env ⟨Z,Z,Z,(x9 (by first|rfl|simp only[lS])),Z,Z,Z,Z,Z,Y⟩
    ·refine AWP.skip (b5 (.j ?_))
     obtain⟨a40,ha40,h⟩:=bind_some h
     refine AWP.G 2 Z (.u Z Z Z Z (E6 ha40) Z (.E Z Z (.nil (b5 (.j (.gk 2 Z (.J Z h (fun hc9 h=> ?_) (fun hc9 h=> ?_))))))))
     ·refine AWP.gk 1 Z (.ret (e7 (g7 (e7 ?_))))
      obtain rfl:=oi h
      refine e7 ⟨_,Z,Z,?_⟩
      exact Done.ret Z Z
     ·refine AWP.skip (b5 (.j ?_))
      obtain⟨a47,ha47,h⟩:=bind_some h
      refine AWP.G 3 Z (.u Z Z Z Z (w7 ha47) Z (.G 5 Z (.nil (b5 (.gs 1 Z (S.len Z Z (fun hl51=>.ge 1 Z (.q ?_))))))))
      obtain⟨c10,ho4,h⟩:=bind_some h
      refine AWP.forH ho4 (fun t11 c10=>⟨[(1,.c (row 2 f5 policy)),(2,(cP 0 0 0)),(5,.c (.own 1 0 a16.length)),(6,.c (.own 2 0 c10.length)),(7,(cI t6)),(21,(cI (a16.length:Int))),(22,(cI t4)),(24,.c (.own 1 0 a16.length)),(25,(cI (a16.length:Int))),(26,(cI t6)),(50,.c (row 1 b9 a47.1)),(51,(cI (a47.1.length:Int))),(52,(cI t11))],[(oE 4 (tO ov)),(oV 1 b9 a16),(oV 1 intI c10)]⟩) (fun _ _=>Z) ?_ ?_ ?_
      ·try dsimp only
       exact Sub.en Z
      ·intro t11 c10 o hlot11 hltt11 h
       unfold Q8 at h
       try dsimp only at h ⊢
       refine AWP.j (.q (.j ?_))
       obtain⟨a54,ha54,h⟩:=bind_some h
       refine AWP.U (S.idx ha54 Z Z Z Z (.G 2 Z (.nil (b5 ?_))))
       obtain⟨a60,ha60,a65,ha65,a66,ha66,h⟩:=b3 h
       obtain⟨a69,ha69,h⟩:=bind_some h
       refine AWP.drawEI [14] mixed Z Z Z (b8.D 4 Z Z ?_)
       refine b8.consN Z Z (fun E=>S.idxO ha60 Z Z Z Z Z .N) Z (.consN Z Z (fun E=>S.loadO ha60 Z Z Z Z Z .N) Z ?_)
       refine b8.D 3 Z Z ?_
       refine b8.consN Z Z (fun E=>.aa Z Z (.cons (.c (.own Z Z)) (.cons (.c .imm) .nil)) Z (m6 ha65) Z .N) Z (.consN Z Z (fun E=>S.idxO ha66 Z Z Z Z Z .N) Z (.consN Z Z (fun E=>S.loadO ha66 Z Z Z Z Z .N) Z (.consN Z Z (fun E=>.max2 Z Z Z .N) Z (.consN Z Z (fun E=>S.idxO ha69 Z Z Z Z Z .N) Z ?_))))
       apply b8.consE (v:=.undef);exact Z;exact Z;intro E
       refine S.storeO1 (f:=intI) (a':=max a60 a66) (s7 ha69) (fun _=>⟨_,Z⟩) Z Z Z Z Z ?_
       exact AOps.nil ⟨Z,Z⟩
       exact Z
       exact Z
       refine b8.done Z ?_ ?_
       ·refine d8.D 4 Z Z ?_
        refine d8.cons Z Z (.go Z Z (fun E=>S.idxO ha60 Z Z Z Z Z .N) (.skip Z .nil)) (.cons Z Z (.go Z Z (fun E=>S.loadO ha60 Z Z Z Z Z .N) (.skip Z .nil)) ?_)
        refine d8.D 3 Z Z ?_
        refine d8.cons Z Z (.go Z Z (fun E=>.aa Z Z (.cons (.c (.own Z Z)) (.cons (.c .imm) .nil)) Z (m6 ha65) Z .N) (.skip Z .nil)) (.cons Z Z (.go Z Z (fun E=>S.idxO ha66 Z Z Z Z Z .N) (.skip Z .nil)) (.cons Z Z (.go Z Z (fun E=>S.loadO ha66 Z Z Z Z Z .N) (.skip Z .nil)) (.cons Z Z (.go Z Z (fun E=>.max2 Z Z Z .N) (.skip Z .nil)) (.cons Z Z (.go Z Z (fun E=>S.idxO ha69 Z Z Z Z Z .N) (.skip Z .nil)) ?_))))
        refine d8.D 1 Z Z (d8.nil)
       dsimp only[g9]
       refine d7 (b5 (.U (.add Z Z Z (by omega) (.z Z Z (.nil ?_)))))
       obtain rfl:=oi h
       refine b5 (Sub.env ⟨Z,Z,Z,(x9 (by first|rfl|simp only[lS])),Z,Z,Z,Z,Z,Z,Z,Z,Z,Y⟩)
      ·intro iz
       try dsimp only
       refine f9 (d7 (b5 ⟨_,h,?_⟩))
       exact Sub.en Z
  ·intro iz c5 he
   subst he
   try dsimp only at h ⊢
   refine f9 (d7 (b5 (.U (.add Z Z Z (by omega) (.z Z Z (.nil ?_))))))
   obtain rfl:=oi h
   refine b5 ⟨_,Z,?_⟩
   exact Sub.en Z
  ·intro x e st he hq
   subst he
   try dsimp only at h hq
   obtain⟨rfl,hs⟩:=hq
   refine⟨_,Sub.refl _ _,?_⟩
   refine g7 (g7 (e7 ?_))
   obtain rfl:=oi h
   refine e7 ⟨_,Z,Z,?_⟩
   exact hs
 ·intro iz c3 he
  subst he
  try dsimp only at h ⊢
  refine f9 (b5 (.j ?_))
  obtain⟨a74,ha74,h⟩:=bind_some h
  refine AWP.G 1 Z (.aa Z Z (.cons (.c (.own Z Z)) (.cons (.c .imm) .nil)) Z (ac3 ha74) Z (.G 2 Z (.nil (b5 (.ret ?_)))))
  obtain rfl:=oi h
  exact Done.ret Z Z
 ·intro x e st he hq
  subst he
  try dsimp only at h hq
  obtain⟨rfl,hs⟩:=hq
  refine⟨_,Sub.refl _ _,?_⟩
  refine g7 (e7 ?_)
  obtain rfl:=oi h
  exact hs
theorem ap6{sv:Li}{c2:List d9}{r:Int}(h:H7 sv c2=some r):e8 prog 72 [(cR sv),.c (.imm (.ipt [.sl 2 (List.map f5 c2)]))] ((cI r)):=by
 unfold e8
 refine FnOk.enter (rs:=[.t 3]) func72 Z ntmps72 results72 Z ⟨Y,Y⟩ (by kernel_rfl) Z ?_
 unfold H7 at h
 refine AWP.gk 1 Z (.j ?_)
 obtain⟨a6,ha6,h⟩:=bind_some h
 refine AWP.G 2 Z (.u Z Z Z Z (E6 ha6) Z (.E Z Z (.nil (b5 (.ret ?_)))))
 obtain rfl:=oi h
 exact Done.ret Z Z
theorem aj8{ov:b7}{states:LL}{c:List d9}{r:(LL)}(h:E1 ov states c=some r):FnOk prog 45 [.agg (tO ov),.c (row 1 b9 states),.c (.fn 72 [.ptr 0 0 0])] (aj9 ov states c) (fun tt ss=>tt=.agg [row 1 b9 states,.own 4 0 r.length]∧ss=[(o1 (row 2 f5 c)),.dead,(oE 2 [row 1 b9 states,.own 4 0 r.length]),.dead,mat (4,[]) 1 intI r]):=by
 refine FnOk.enter (rs:=[.cell 6 86 2]) func45 Z ntmps45 results45 Z ⟨rv _ Z,Y⟩ (by kernel_rfl) Z ?_
 refine AWP.weak ?_
 unfold E1 at h
 refine AWP.gk 2 Z (.gk 4 Z (.j (.gs 1 Z (S.len Z Z (fun hl19=>.ge 1 Z (.q (.virtBM 1 intI (b:=3) (o:=1) Z Z Z Z Z Z Z Z ?_)))))))
 obtain⟨c55,ho1,h⟩:=bind_some h
 refine AWP.forH ho1 (fun t56 c55=>⟨[(1,.c (row 1 b9 states)),(2,.c (.fn 72 [.ptr 0 0 0])),(3,(cP 1 0 0)),(6,(cP 2 0 0)),(7,(cP 3 0 0)),(18,.c (row 1 b9 states)),(19,(cI (states.length:Int))),(20,(cI t56))],[(o1 (row 2 f5 c)),(oE 4 (tO ov)),(oE 2 [.imm (.val nL),.imm (.val nL)]),(oE 2 [row 1 b9 states,.own 4 0 c55.length]),mat (4,[]) 1 intI c55]⟩) (fun _ _=>Z) ?_ ?_ ?_
 ·try dsimp only
  exact Sub.en Z
 ·intro t56 c55 o hlot56 hltt56 h
  unfold T7 at h
  try dsimp only at h ⊢
  refine AWP.j (.q (.j ?_))
  obtain⟨a23,ha23,h⟩:=bind_some h
  refine AWP.G 1 Z (S.idx ha23 Z Z Z Z (.G 3 Z (.nil (b5 (.j ?_)))))
  obtain⟨a28,ha28,h⟩:=bind_some h
  refine AWP.G 1 Z (S.len Z Z (fun hl26=>S.add Z Z Z (S.make (f:=intI) ha28 (.val .nil) Z Z Z Z Z Z (.E Z Z (.nil (b5 (.j ?_)))))))
  obtain⟨a31,ha31,h⟩:=bind_some h
  refine AWP.G 2 Z (.aa Z Z (.cons (.c .imm) (.cons (.c (.ptr (es:=[.sl 2 (List.map f5 c)]) Z Z (.cons .imm .nil))) .nil)) Z (ap6 ha31) Z (.E Z Z (.nil (b5 (.j ?_)))))
  obtain⟨a36,ha36,h⟩:=bind_some h
  refine AWP.G 3 Z (.u Z Z Z Z (w7 ha36) Z (.G 5 Z (.nil (b5 (.j (.gs 1 Z (S.len Z Z (fun hl40=>.ge 1 Z (.q ?_)))))))))
  obtain⟨c57,ho2,h⟩:=bind_some h
  refine AWP.forH ho2 (fun t58 c57=>⟨[(1,.c (row 1 b9 states)),(2,.c (.fn 72 [.ptr 0 0 0])),(3,(cP 1 0 0)),(6,(cP 2 0 0)),(7,(cP 3 0 0)),(8,(cI t56)),(10,.c (.own 5 0 c57.length)),(11,(cI a31)),(13,(cR a36.2)),(18,.c (row 1 b9 states)),(19,(cI (states.length:Int))),(20,(cI t56)),(39,.c (row 1 b9 a36.1)),(40,(cI (a36.1.length:Int))),(41,(cI t58))],[(o1 (row 2 f5 c)),(oE 4 (tO ov)),(oE 2 [.imm (.val nL),.imm (.val nL)]),(oE 2 [row 1 b9 states,.own 4 0 c55.length]),mat (4,[]) 1 intI c55,(oV 1 intI c57)]⟩) (fun _ _=>Z) ?_ ?_ ?_
  ·try dsimp only
   exact Sub.en Z
  ·intro t58 c57 o hlot58 hltt58 h
   unfold T9 at h
   try dsimp only at h ⊢
   obtain⟨c59,hx60,h⟩:=bind_some h
   refine AWP.seqJ (⟨[(1,.c (row 1 b9 states)),(2,.c (.fn 72 [.ptr 0 0 0])),(3,(cP 1 0 0)),(6,(cP 2 0 0)),(7,(cP 3 0 0)),(8,(cI t56)),(10,.c (.own 5 0 c59.length)),(11,(cI a31)),(13,(cR a36.2)),(18,.c (row 1 b9 states)),(19,(cI (states.length:Int))),(20,(cI t56)),(39,.c (row 1 b9 a36.1)),(40,(cI (a36.1.length:Int))),(41,(cI t58))],[(o1 (row 2 f5 c)),(oE 4 (tO ov)),(oE 2 [.imm (.val nL),.imm (.val nL)]),(oE 2 [row 1 b9 states,.own 4 0 c55.length]),mat (4,[]) 1 intI c55,(oV 1 intI c59)]⟩) ?_ ?_
   ·refine AWP.q (.j ?_)
    obtain⟨a44,ha44,hx60⟩:=bind_some hx60
    refine AWP.G 1 Z (S.idx ha44 Z Z Z Z (.G 3 Z (.nil (b5 (.j ?_)))))
    obtain⟨a48,ha48,a52,ha52,a55,ha55,hx60⟩:=b3 hx60
    refine AWP.drawEI [10] mixed Z Z Z (b8.D 2 Z Z ?_)
    refine b8.consN Z Z (fun E=>S.idxO ha48 Z Z Z Z Z .N) Z (.consN Z Z (fun E=>S.loadO ha48 Z Z Z Z Z .N) Z ?_)
    refine b8.D 2 Z Z ?_
    refine b8.consN Z Z (fun E=>S.idx ha52 Z Z Z Z .N) Z ?_
    refine b8.D 2 Z Z ?_
    refine b8.consN Z Z (fun E=>S.idxO ha55 Z Z Z Z Z .N) Z ?_
    apply b8.consE (v:=.undef);exact Z;exact Z;intro E
    refine S.storeO1 (f:=intI) (a':=w64 (a48+a52)) (s7 ha55) (fun _=>⟨_,Z⟩) Z Z Z Z Z ?_
    exact AOps.nil ⟨Z,Z⟩
    exact Z
    exact Z
    refine b8.done Z ?_ ?_
    ·refine d8.D 2 Z Z ?_
     refine d8.cons Z Z (.go Z Z (fun E=>S.idxO ha48 Z Z Z Z Z .N) (.skip Z .nil)) (.cons Z Z (.go Z Z (fun E=>S.loadO ha48 Z Z Z Z Z .N) (.skip Z .nil)) ?_)
     refine d8.D 2 Z Z ?_
     refine d8.cons Z Z (.go Z Z (fun E=>S.idx ha52 Z Z Z Z .N) (.skip Z .nil)) ?_
     refine d8.D 2 Z Z ?_
     refine d8.cons Z Z (.go Z Z (fun E=>S.idxO ha55 Z Z Z Z Z .N) (.skip Z .nil)) ?_
     refine d8.D 1 Z Z (d8.nil)
    dsimp only[g9]
    refine b5 (.j ?_)
    obtain⟨a59,ha59,a63,ha63,a68,ha68,hx60⟩:=b3 hx60
    obtain⟨a73,ha73,hx60⟩:=bind_some hx60
    refine AWP.drawEI [18] mixed Z Z Z (b8.D 2 Z Z ?_)
    refine b8.consN Z Z (fun E=>S.len Z Z (fun hl58=>.nil ⟨Z,Z⟩)) Z (.consN Z Z (fun E=>S.idxO ha59 Z (by simp only[lS]) Z Z Z .N) Z (.consN Z Z (fun E=>S.loadO ha59 Z Z Z Z Z .N) Z ?_))
    refine b8.D 2 Z Z ?_
    refine b8.consN Z Z (fun E=>S.idx ha63 Z Z Z Z .N) Z ?_
    refine b8.D 4 Z Z ?_
    refine b8.consN Z Z (fun E=>S.idx ha68 Z Z Z Z .N) Z ?_
    refine b8.D 4 Z Z ?_
    refine b8.consN Z Z (fun E=>S.idxO ha73 Z (by simp only[lS]) Z Z Z .N) Z ?_
    apply b8.consE (v:=.undef);exact Z;exact Z;intro E
    refine S.storeO1 (f:=intI) (a':=w64 (a59+(w64 (a63 * a68.cost)))) (s7 ha73) (fun _=>⟨_,Z⟩) Z Z Z Z Z ?_
    exact AOps.nil ⟨Z,Z⟩
    exact Z
    exact Z
    refine b8.done Z ?_ ?_
    ·refine d8.D 2 Z Z ?_
     refine d8.cons Z Z ?_ ?_
     apply g8.go;exact Z;exact Z;intro E;refine S.len Z Z (fun hl58=> ?_);exact AOps.nil ⟨Z,Z⟩
     refine g8.skip Z (g8.nil)
     refine d8.cons Z Z (.go Z Z (fun E=>S.idxO ha59 Z (by simp only[lS]) Z Z Z .N) (.skip Z .nil)) (.cons Z Z (.go Z Z (fun E=>S.loadO ha59 Z Z Z Z Z .N) (.skip Z .nil)) ?_)
     refine d8.D 2 Z Z ?_
     refine d8.cons Z Z (.go Z Z (fun E=>S.idx ha63 Z Z Z Z .N) (.skip Z .nil)) ?_
     refine d8.D 4 Z Z ?_
     refine d8.cons Z Z (.go Z Z (fun E=>S.idx ha68 Z Z Z Z .N) (.skip Z .nil)) ?_
     refine d8.D 4 Z Z ?_
     refine d8.cons Z Z (.go Z Z (fun E=>S.idxO ha73 Z (by simp only[lS]) Z Z Z .N) (.skip Z .nil)) ?_
     refine d8.D 1 Z Z (d8.nil)
    dsimp only[g9]
    refine b5 (.j ?_)
    obtain⟨a77,ha77,hx60⟩:=bind_some hx60
    refine AWP.G 3 Z (.u Z Z Z Z (k8 ha77) Z (.not Z Z (.nil (b5 (.F Z hx60 (fun hc61 hx60=> ?_) (fun hc61 hx60=> ?_))))))
    ·obtain⟨a82,ha82,a83,ha83,a87,ha87,hx60⟩:=b3 hx60
     obtain⟨a90,ha90,hx60⟩:=bind_some hx60
     refine AWP.drawEI [12] mixed Z Z Z (b8.D 3 Z Z ?_)
     refine b8.consN Z Z (fun E=>.u Z Z Z Z (m6 ha82) Z .N) Z (.consN Z Z (fun E=>S.idxO ha83 Z (by simp only[lS]) Z Z Z .N) Z (.consN Z Z (fun E=>S.loadO ha83 Z Z Z Z Z .N) Z ?_))
     refine b8.D 2 Z Z ?_
     refine b8.consN Z Z (fun E=>S.idx ha87 Z Z Z Z .N) Z ?_
     refine b8.D 2 Z Z ?_
     refine b8.consN Z Z (fun E=>S.idxO ha90 Z (by simp only[lS]) Z Z Z .N) Z ?_
     apply b8.consE (v:=.undef);exact Z;exact Z;intro E
     refine S.storeO1 (f:=intI) (a':=w64 (a83 - a87)) (s7 ha90) (fun _=>⟨_,Z⟩) Z Z Z Z Z ?_
     exact AOps.nil ⟨Z,Z⟩
     exact Z
     exact Z
     refine b8.done Z ?_ ?_
     ·refine d8.D 3 Z Z ?_
      refine d8.cons Z Z (.go Z Z (fun E=>.u Z Z Z Z (m6 ha82) Z .N) (.skip Z .nil)) (.cons Z Z (.go Z Z (fun E=>S.idxO ha83 Z (by simp only[lS]) Z Z Z .N) (.skip Z .nil)) (.cons Z Z (.go Z Z (fun E=>S.loadO ha83 Z Z Z Z Z .N) (.skip Z .nil)) ?_))
      refine d8.D 2 Z Z ?_
      refine d8.cons Z Z (.go Z Z (fun E=>S.idx ha87 Z Z Z Z .N) (.skip Z .nil)) ?_
      refine d8.D 2 Z Z ?_
      refine d8.cons Z Z (.go Z Z (fun E=>S.idxO ha90 Z (by simp only[lS]) Z Z Z .N) (.skip Z .nil)) ?_
      refine d8.D 1 Z Z (d8.nil)
     dsimp only[g9]
     refine d7 ?_
     obtain rfl:=oi hx60
     refine b5 (Sub.env ⟨Z,Z,Z,Z,Z,Z,(x9 (by first|rfl|simp only[lS])),Z,Z,Z,Z,Z,Z,Z,Z,Y⟩)
    ·refine AWP.skip (d7 ?_)
     obtain rfl:=oi hx60
     refine b5 (Sub.env ⟨Z,Z,Z,Z,Z,Z,(x9 (by first|rfl|simp only[lS])),Z,Z,Z,Z,Z,Z,Z,Z,Y⟩)
   ·refine AWP.U (.add Z Z Z (by omega) (.z Z Z (.nil ?_)))
    obtain rfl:=oi h
    refine b5 (Sub.en Z)
  ·intro iz
   try dsimp only
   refine f9 (b5 ?_)
   obtain⟨a96,ha96,h⟩:=bind_some h
   refine AWP.G 3 Z (W.lit1 Z Z Z Z Z Z Z Z Z (S.appendMR (k:=1) (f:=intI) (a:=c57) ha96 Z Z Z Z Z Z Z Z Z Z Z Z Z Z Z Z (.G 2 Z (.nil (d7 (b5 (.moveM (env':=[(1,.c (row 1 b9 states)),(2,.c (.fn 72 [.ptr 0 0 0])),(3,(cP 1 0 0)),(6,(cP 2 0 0)),(7,(cP 3 0 0)),(18,.c (row 1 b9 states)),(19,(cI (states.length:Int))),(20,(cI t56))]) (σ':=[(o1 (row 2 f5 c)),(oE 4 (tO ov)),(oE 2 [.imm (.val nL),.imm (.val nL)]),(oE 2 [row 1 b9 states,.own 4 0 a96.length]),mat (4,[]) 1 intI a96,.dead,(o1 (.own 5 0 c57.length))]) 4 7 Z Z Z ⟨Z,Z,Z,Z,Z,Z,Z,Z,Y⟩ Z ⟨(.one Z Z),(.one Z Z),(.one Z Z),(.one Z Z),(.mat Z Z Z),.dead,(.one Z Z),Y⟩ (.U (.add Z Z Z (by omega) (.z Z Z (.nil ?_)))))))))))
   obtain rfl:=oi h
   refine b5 (Sub.cut ⟨Z,Z,Z,Z,Z,Z,Z,Z,Y⟩ Z ⟨.one Z,.one Z,.one Z,.one Z,.mat Z,Y⟩ Z)
 ·intro iz
  try dsimp only
  refine f9 (b5 (.gk 2 Z (.ret ?_)))
  obtain rfl:=oi h
  exact⟨⟨[(6,(cP 2 0 0))],[(o1 (row 2 f5 c)),.dead,(oE 2 [row 1 b9 states,.own 4 0 c55.length]),.dead,mat (4,[]) 1 intI c55]⟩,Sub.cut ⟨Z,Y⟩ Z ⟨.one Z,.dead,.one Z,.dead,.mat Z,Y⟩ Z,Done.ret Z ⟨Z,Z⟩⟩
theorem ai4{ov:b7}{policy:List d9}{r:m5×i7}(h:k7 ov policy=some r):e8 prog 23 [.agg (tO ov),.c (row 2 f5 policy)] (.tup [.agg [int r.1.num,int r.1.den],.agg [int r.2.code,int r.2.index]]):=by
 unfold e8
 refine FnOk.enter (rs:=[.cell 4 28 2,.cell 5 30 2]) func23 Z ntmps23 results23 Z ⟨rv _ Z,rv _ Z,Y⟩ (by kernel_rfl) Z ?_
 unfold k7 at h
 refine AWP.gk 4 Z (.j (.j ?_))
 obtain⟨a12,ha12,h⟩:=bind_some h
 refine AWP.G 2 Z (.u Z Z Z Z (aj6 ha12) Z (.G 2 Z (.nil (b5 (.gs 2 Z (.neqP Z Z Z Z Z Z Z (.ne (.F Z h (fun hc3 h=> ?_) (fun hc3 h=> ?_)))))))))
 ·refine AWP.j (.drawEI [2,3] mixed Z Z Z (b8.D 2 Z Z ?_))
  apply b8.consE (v:=.undef);exact Z;exact Z;intro E
  refine W.storeAgg Z Z Z Z Z Z Z .N
  exact Z
  exact Z
  apply b8.consE (v:=.undef);exact Z;exact Z;intro E
  refine W.storeAgg Z Z Z Z Z Z Z .N
  exact Z
  exact Z
  refine b8.done Z ?_ ?_
  ·refine d8.D 4 Z Z (d8.nil)
  dsimp only[g9]
  refine b5 (.ret (e7 ?_))
  obtain rfl:=oi h
  exact Done.ret Z Z
 ·refine AWP.skip (b5 (.j (.j ?_)))
  obtain⟨a20,ha20,h⟩:=bind_some h
  refine AWP.G 2 Z (.u Z Z Z Z (cyclic_Holds_ok ha20) Z (.not Z Z (.nil (b5 (.F Z h (fun hc4 h=> ?_) (fun hc4 h=> ?_))))))
  ·refine AWP.gk 4 Z (.ret (e7 ?_))
   obtain rfl:=oi h
   exact Done.ret Z Z
  ·refine AWP.skip (b5 (.j ?_))
   obtain⟨a27,ha27,a28,ha28,h⟩:=b2 h
   refine AWP.drawEI [3,4] mixed Z Z Z (b8.D 3 Z Z ?_)
   apply b8.consE;exact Z;exact Z;intro E
   refine S.fresh Z Z Z Z (ai6 ha27) Z Z .N
   exact Z
   exact Z
   apply b8.consE;exact Z;exact Z;intro E
   refine AOps.callF (r2:=.c (.own 8 0 a28.length)) (σ'':=[(oE 4 (tO ov)),(o1 (row 2 f5 policy)),(oE 2 [int 0,int 0]),(oE 2 [int 0,int 0]),(oE 2 [int a12.code,int a12.index]),.dead,.dead,.dead,(oV 1 b9 a28)]) Z Z Z (FnOk.lend [5] (P8 ha28) Z Z Z Z Z Z (by exact⟨.vec,Y⟩) Z (by exact⟨(.live Z .vec),Y⟩) Z Z (by exact⟨(.old Z Z Z),(.old Z Z Z),(.old Z Z Z),(.old Z Z Z),(.old Z Z Z),.dead,.dead,.dead,(.new 3 Z Z .vec),Y⟩)) .N
   exact Z
   exact Z
   refine b8.D 1 Z Z (b8.done Z ?_ ?_)
   ·refine d8.D 6 Z Z (d8.nil)
   dsimp only[g9]
   refine b5 (.j (.gs 1 Z (S.lenO Z Z Z (fun hl30=>.ge 1 Z (.J Z h (fun hc5 h=> ?_) (fun hc5 h=> ?_))))))
   ·refine AWP.gk 4 Z (.ret (e7 ?_))
    obtain rfl:=oi h
    exact Done.ret Z Z
   ·refine AWP.skip (b5 (.j (.j ?_)))
    obtain⟨a38,ha38,h⟩:=bind_some h
    refine AWP.G 4 Z (.u Z Z Z Z (k8 ha38) Z (.nil (b5 (.F Z h (fun hc6 h=> ?_) (fun hc6 h=> ?_)))))
    ·refine AWP.gk 4 Z (.ret (e7 ?_))
     obtain rfl:=oi h
     exact Done.ret Z Z
    ·refine AWP.skip (b5 (.j ?_))
     obtain⟨a45,ha45,a46,ha46,h⟩:=b2 h
     refine AWP.G 2 Z (.ab Z Z (.frzV (id:=8) (l:=a28) (env2:=[(2,(cP 0 0 0)),(4,(cP 2 0 0)),(5,(cP 3 0 0)),(7,.c (row 1 b9 a28)),(42,.agg (tO ov)),(43,.c (row 1 b9 a28)),(44,.c (.fn 72 [.ptr 1 0 0]))]) (σ2:=[(oE 4 (tO ov)),(o1 (row 2 f5 policy)),(oE 2 [int 0,int 0]),(oE 2 [int 0,int 0]),(oE 2 [int a12.code,int a12.index]),.dead,.dead,.dead,.dead]) Z Z (by exact⟨⟨_,Z,.inl ⟨Z,Z⟩⟩,⟨_,Z,.inl ⟨Z,Z⟩⟩,⟨_,Z,.inl ⟨Z,Z⟩⟩,⟨_,Z,.inr ⟨_,Z,Z,Z⟩⟩,⟨_,Z,⟨.inl ⟨Z,Z⟩,.inl ⟨Z,Z⟩,.inl ⟨Z,Z⟩,.inl ⟨Z,Z⟩,Y⟩⟩,⟨_,Z,.inr ⟨_,Z,Z,Z⟩⟩,⟨_,Z,.inl ⟨Z,Z⟩⟩,Y⟩) Z (by exact⟨⟨Z,.inl ⟨Z,Z⟩,.inl ⟨Z,Z⟩,.inl ⟨Z,Z⟩,.inl ⟨Z,Z⟩,Y⟩,⟨Z,.inl ⟨Z,Z⟩,Y⟩,⟨Z,.inl ⟨Z,Z⟩,.inl ⟨Z,Z⟩,Y⟩,⟨Z,.inl ⟨Z,Z⟩,.inl ⟨Z,Z⟩,Y⟩,⟨Z,.inl ⟨Z,Z⟩,.inl ⟨Z,Z⟩,Y⟩,Y,Y,Y,Y,Y⟩) (.callF (r2:=.agg [row 1 b9 a28,.own 12 0 a45.length]) (σ'':=[(oE 4 (tO ov)),(o1 (row 2 f5 policy)),(oE 2 [int 0,int 0]),(oE 2 [int 0,int 0]),(oE 2 [int a12.code,int a12.index]),.dead,.dead,.dead,.dead,.dead,(oE 2 [row 1 b9 a28,.own 12 0 a45.length]),.dead,mat (12,[]) 1 intI a45]) Z Z Z (FnOk.lend [1] (aj8 ha45) Z Z Z Z Z Z (by exact⟨(.one Z),Y⟩) Z (by exact⟨(.live Z (.one Z)),Y⟩) Z Z (by exact⟨(.old Z Z Z),(.new 0 Z Z (.one Z)),(.old Z Z Z),(.old Z Z Z),(.old Z Z Z),.dead,.dead,.dead,.dead,.dead,(.new 2 Z Z (.one Z)),.dead,(.new 4 Z Z .mat),Y⟩)) (.callF (r2:=.tup [.c (.own 14 0 a46.1.length),(cI a46.2)]) (σ'':=[(oE 4 (tO ov)),(o1 (row 2 f5 policy)),(oE 2 [int 0,int 0]),(oE 2 [int 0,int 0]),(oE 2 [int a12.code,int a12.index]),.dead,.dead,.dead,.dead,.dead,(oE 2 [row 1 b9 a28,.own 12 0 a45.length]),.dead,.dead,.dead,(oV 1 intI a46.1)]) Z Z Z (FnOk.lend [12] (R7 ha46) Z Z Z Z Z Z (by exact⟨(.mat Z),Y⟩) Z (by exact⟨(.live Z .mat),Y⟩) Z Z (by exact⟨(.old Z Z Z),(.old Z Z Z),(.old Z Z Z),(.old Z Z Z),(.old Z Z Z),.dead,.dead,.dead,.dead,.dead,(.old Z Z Z),.dead,.dead,.dead,(.new 2 Z Z .vec),Y⟩)) (.G 5 Z (.nil (b5 (.j ?_))))))))
     obtain⟨a53,ha53,a54,ha54,a57,ha57,h⟩:=b3 h
     refine AWP.G 4 Z (.u Z Z Z Z (m6 ha53) Z (S.idxO ha54 Z Z Z Z Z (S.loadO ha54 Z Z Z Z Z (.z Z Z (.u Z Z Z Z (O4 ha57) Z (.G 4 Z (.nil (b5 (.ret ?_)))))))))
     obtain rfl:=oi h
     exact Done.ret Z Z
theorem af8{ov:b7}{p:List d9}{byv:Int}{r:Bool}(h:F8 ov p byv=some r):e8 prog 7 [.agg (tO ov),.c (row 2 f5 p),(cI byv)] ((cB r)):=by
 unfold e8
 refine FnOk.enter (rs:=[.t 6]) func7 Z ntmps7 results7 Z ⟨Y,Y⟩ (by kernel_rfl) Z ?_
 unfold F8 at h
 refine AWP.gk 2 Z (.j (.j ?_))
 obtain⟨a15,ha15,h⟩:=bind_some h
 refine AWP.G 1 Z (.u Z Z Z Z (ref1_In_ok ha15) Z (.not Z Z (.nil (b5 (.F Z h (fun hc4 h=> ?_) (fun hc4 h=> ?_))))))
 ·refine AWP.j ?_
  obtain⟨a17,ha17,h⟩:=bind_some h
  refine AWP.U (.u Z Z Z Z (K7 ha17) Z (.E Z Z (.nil (b5 (.ret (e7 ?_))))))
  obtain rfl:=oi h
  exact Done.ret Z Z
 ·refine AWP.skip (b5 (.gk 3 Z (.gk 2 Z (.j (.gk 1 Z (.q (.virtB 3 d6 (b:=1) (o:=3) Z Z Z Z Z Z ?_)))))))
  obtain⟨c5,ho1,h⟩:=bind_some h
  refine AWP.forL ho1 (fun iv6 c5=>⟨[(1,.c (row 2 f5 p)),(2,(cI byv)),(3,(cP 0 0 0)),(7,(cP 1 0 0)),(8,(cI iv6))],[(oE 4 (tO ov)),(oE 4 [int ov.facts,row 1 intI ov.init,row 1 intI ov.goal,.own 2 0 c5.length]),(oV 3 d6 c5)]⟩) (fun _ _ _ k=>.G 3 Z (S.len Z Z fun hl=>.gn 1 Z (k hl))) (fun _ _=>Z) ?_ ?_ ?_
  ·try dsimp only
   exact Sub.cut ⟨Z,Z,Z,Z,Z,Y⟩ Z ⟨.one Z,(.eq Z (by first|rfl|(simp only[lS];done))),.vec,Y⟩ Z
  ·intro iv6 c5 o hloiv6 hltiv6 h hl23
   unfold z6 at h
   try dsimp only at h ⊢
   refine AWP.j (.q (.j ?_))
   obtain⟨a30,ha30,h⟩:=bind_some h
   refine AWP.G 3 Z (S.idx ha30 Z Z Z Z (.G 3 Z (.nil (b5 (.gk 6 Z ?_)))))
   obtain⟨a41,ha41,h⟩:=bind_some h
   refine AWP.G 3 Z (S.lit (f:=d6) (l:=[(⟨a30.pre,a30.outcomes,w64 (byv * a30.cost)⟩:e9)]) (ess:=[[row 1 intI a30.pre,row 3 s8 a30.outcomes,int (w64 (byv * a30.cost))]]) Z Z Z Z Z Z Z ⟨⟨.inl Z,.inl Z,.inl Z,Y⟩,Y⟩ Z Z Z (S.append (f:=d6) ha41 Z Z Z Z Z Z (.own Z Z) Z Z Z Z (.G 2 Z (.nil (d7 (b5 (.z (env':=[(1,.c (row 2 f5 p)),(2,(cI byv)),(3,(cP 0 0 0)),(7,(cP 1 0 0)),(8,(cI iv6))]) (σ':=[(oE 4 (tO ov)),(oE 4 [int ov.facts,row 1 intI ov.init,row 1 intI ov.goal,.own 2 0 a41.length]),(oV 3 d6 a41),(oE 3 [row 1 intI a30.pre,row 3 s8 a30.outcomes,int (w64 (byv * a30.cost))]),(oV 3 d6 [(⟨a30.pre,a30.outcomes,w64 (byv * a30.cost)⟩:e9)])]) 2 5 Z Z Z ⟨Z,Z,Z,Z,Z,Y⟩ Z ⟨⟨Z,Z⟩,⟨Z,Z⟩,⟨Blk.im_ok _ _ _,i6 Z⟩,⟨Z,Z⟩,⟨Blk.im_ok _ _ _,i6 Z⟩,Y⟩ (.G 1 Z (.add Z Z Z (by omega) (.E Z Z (.nil ?_)))))))))))
   obtain rfl:=oi h
   refine b5 (Sub.cut ⟨Z,Z,Z,Z,Z,Y⟩ Z ⟨.one Z,.one Z,.vec,Y⟩ Z)
  ·intro iz
   try dsimp only
   refine f9 (b5 (.j ?_))
   obtain⟨a46,ha46,h⟩:=bind_some h
   refine AWP.G 2 Z (.u Z Z Z Z (ai4 ha46) Z (.G 7 Z (.nil (b5 (.j ?_)))))
   obtain⟨a52,ha52,h⟩:=bind_some h
   refine AWP.G 2 Z (.aa Z Z (.cons (.agg (.cons .imm (.cons .imm (.cons .imm (.cons (.own Z Z) .nil))))) (.cons (.c .imm) .nil)) Z (ai4 ha52) Z (.G 7 Z (.nil (b5 (.j (.seqJ (⟨[(2,(cI byv)),(10,(cP 3 0 0)),(12,(cP 5 0 0)),(62,(cB ((!(decide (a46.2.code=0)))||(!(decide (a52.2.code=0))))))],[(oE 4 (tO ov)),(oE 4 [int ov.facts,row 1 intI ov.init,row 1 intI ov.goal,.own 2 0 c5.length]),(oV 3 d6 c5),(oE 2 [int a46.1.num,int a46.1.den]),(oE 2 [int a46.2.code,int a46.2.index]),(oE 2 [int a52.1.num,int a52.1.den]),(oE 2 [int a52.2.code,int a52.2.index])]⟩) ?_ ?_))))))
   ·rcases bft (!(decide (a46.2.code=0))) with hb1|hb1
    ·refine AWP.G 4 Z (.K Z Z hb1 (.G 4 Z (.nil (b5 ?_))))
     simp only[U5 hb1,or_t hb1,Bool.false_or,Bool.true_or,Bool.false_and,Bool.true_and]
     exact Sub.en Z
    ·refine AWP.G 4 Z (.K Z Z hb1 (.G 4 Z (.nil (b5 ?_))))
     simp only[and_f hb1,or_f hb1,Bool.false_or,Bool.true_or,Bool.false_and,Bool.true_and]
     exact Sub.en Z
   ·refine AWP.F Z h (fun hc7 h=> ?_) (fun hc7 h=> ?_)
    ·refine AWP.j ?_
     obtain⟨a63,ha63,h⟩:=bind_some h
     refine AWP.U (.u Z Z Z Z (K7 ha63) Z (.E Z Z (.nil (b5 (.ret (e7 ?_))))))
     obtain rfl:=oi h
     exact Done.ret Z Z
    ·refine AWP.skip (b5 ?_)
     obtain⟨t8,hx9,h⟩:=bind_some h
     refine AWP.seqJ (⟨[(6,(cB t8))],[]⟩) ?_ ?_
     ·obtain⟨a64,ha64,hx9⟩:=bind_some hx9
      rcases bft (a64) with hb10|hb10
      ·replace hx9:=J2 hb10 hx9
       rcases bft (decide (0<a46.1.den)) with hb11|hb11
       ·replace hx9:=M0 hb11 hx9
        obtain⟨a77,ha77,hx9⟩:=bind_some hx9
        refine AWP.drawI mixed Z ?_
        refine d5.consF Z (fun E=>.u Z Z Z Z (K7 ha64) Z .N) Z ?_
        refine d5.D 1 Z (d5.K Z hb10 Z (d5.D 5 Z (d5.K Z hb11 Z (d5.D 6 Z ?_))))
        refine d5.consF Z (fun E=>.O Z Z Z Z (.u Z Z Z Z (ref8_Lowest_ok ha77) Z .N)) Z ?_
        refine d5.D 1 Z ?_
        refine d5.consF Z (fun E=>.O Z Z Z Z (.eqlP Z Z Z Z Z Z Z .N)) Z ?_
        refine d5.D 2 Z (d5.done ?_)
        dsimp only[g9]
        obtain rfl:=oi hx9
        refine b5 (Sub.cut ⟨Z,Y⟩ Z Y Z)
       ·replace hx9:=K5 hb11 hx9
        refine AWP.drawI mixed Z ?_
        refine d5.consF Z (fun E=>.u Z Z Z Z (K7 ha64) Z .N) Z ?_
        refine d5.D 1 Z (d5.K Z hb10 Z (d5.D 5 Z (d5.K Z hb11 Z (d5.D 11 Z (d5.done ?_)))))
        dsimp only[g9]
        obtain rfl:=oi hx9
        refine b5 (Sub.cut ⟨Z,Y⟩ Z Y Z)
      ·replace hx9:=J4 hb10 hx9
       refine AWP.drawI mixed Z ?_
       refine d5.consF Z (fun E=>.u Z Z Z Z (K7 ha64) Z .N) Z ?_
       refine d5.D 1 Z (d5.K Z hb10 Z (d5.D 16 Z (d5.done ?_)))
       dsimp only[g9]
       obtain rfl:=oi hx9
       refine b5 (Sub.cut ⟨Z,Y⟩ Z Y Z)
     ·refine AWP.ret ?_
      obtain rfl:=oi h
      exact Done.ret Z Z
end Ab
end
section
namespace Ab
open Go Go.Proofs
set_option maxHeartbeats 4000000
set_option linter.all false
attribute [local irreducible] AWP AOps thn inB Done e8 m8 Sub
end Ab
end
section
namespace Ab
def sgn(j:Nat):Int:=if j % 2=0 then 1 else -1
def sk(j k:Nat):Nat:=if k<j then k else k+1
def smN:Nat→(Nat→Int)→Int
 |0,_=>0
 |n+1,f=>smN n f+f n
abbrev Mtx:=Nat→Nat→Int
def mnr(A:Mtx)(j:Nat):Mtx:=fun i k=>A (i+1) (sk j k)
def det:Nat→Mtx→Int
 |0,_=>1
 |n+1,A=>smN (n+1) fun j=>sgn j * A 0 j * det n (mnr A j)
theorem i9{f g:Nat→Int}:∀{n:Nat},(∀j,j<n→f j=g j)→smN n f=smN n g
 |0,_=>rfl
 |n+1,h=>by simp only[smN];rw[i9 fun j hj=>h j (by omega),h n (by omega)]
theorem F7{f g:Nat→Int}:∀n:Nat,smN n (fun j=>f j+g j)=smN n f+smN n g
 |0=>rfl
 |n+1=>by simp only[smN,F7 n];omega
theorem w5{c:Int}{f:Nat→Int}:∀n:Nat,smN n (fun j=>c * f j)=c * smN n f
 |0=>by simp[smN]
 |n+1=>by simp only[smN,w5 n,Int.mul_add]
theorem aa1{f:Nat→Int}:∀{n:Nat},(∀j,j<n→f j=0)→smN n f=0
 |0,_=>rfl
 |n+1,h=>by simp only[smN];rw[aa1 fun j hj=>h j (by omega),h n (by omega)];rfl
theorem K4{f:Nat→Int}{a:Nat}:∀{n:Nat},a<n→(∀j,j<n→j ≠ a→f j=0)→smN n f=f a
 |0,h,_=>by omega
 |n+1,ha,h=>by
  simp only[smN]
  by_cases e:a=n
  ·subst e;rw[aa1 fun j hj=>h j (by omega) (by omega)];omega
  ·rw[K4 (a:=a) (by omega) fun j hj=>h j (by omega),h n (by omega) (by omega)];omega
theorem smN_two{f:Nat→Int}{a b:Nat}(hab:a<b):∀{n:Nat},b<n→(∀j,j<n→j ≠ a→j ≠ b→f j=0)→smN n f=f a+f b
 |0,h,_=>by omega
 |n+1,hb,h=>by
  simp only[smN]
  by_cases e:b=n
  ·subst e;rw[K4 (a:=a) hab fun j hj ja=>h j (by omega) ja (by omega)]
  ·rw[smN_two hab (n:=n) (by omega) fun j hj=>h j (by omega),h n (by omega) (by omega) (by omega)];omega
theorem smN_comm{f:Nat→Nat→Int}{m:Nat}:∀n:Nat,smN n (fun i=>smN m fun j=>f i j)=smN m fun j=>smN n fun i=>f i j
 |0=>by simp only[smN];exact(aa1 fun _ _=>rfl).symm
 |n+1=>by simp only[smN,smN_comm n,F7]
theorem O0:∀{n:Nat} {A B:Mtx},(∀i j,i<n→j<n→A i j=B i j)→det n A=det n B
 |0,_,_,_=>rfl
 |n+1,A,B,h=>by
  simp only[det]
  refine i9 fun j hj=> ?_
  rw[h 0 j (by omega) hj,O0 (n:=n) (A:=mnr A j) (B:=mnr B j) fun i k hi hk=>h _ _ (by omega) (by unfold sk;split<;>omega)]
def rep(A:Mtx)(k:Nat)(u:Nat→Int):Mtx:=fun i j=>if j=k then u i else A i j
theorem rep_self(A:Mtx)(k:Nat):rep A k (fun i=>A i k)=A:=by
 funext i j;unfold rep;split
 ·rename_i e;rw[e]
 ·rfl
theorem am2{A:Mtx}{k:Nat}{u:Nat→Int}:mnr (rep A k u) k=mnr A k:=by
 funext i c;unfold mnr rep;rw[if_neg (by unfold sk;split<;>omega)]
theorem am3{A:Mtx}{j k:Nat}{u:Nat→Int}(h:j ≠ k):mnr (rep A k u) j=rep (mnr A j) (if k<j then k else k - 1) fun i=>u (i+1):=by
 funext i c;unfold mnr rep
 have:sk j c=k↔c=if k<j then k else k - 1:=by unfold sk;split<;>split<;>omega
 by_cases e:sk j c=k
 ·rw[if_pos e,if_pos (this.1 e)]
 ·rw[if_neg e,if_neg fun q=>e (this.2 q)]
theorem det_lin{x y:Int}{u v:Nat→Int}:∀{n:Nat} {A:Mtx} {k:Nat},k<n→det n (rep A k fun i=>x * u i+y * v i)=x * det n (rep A k u)+y * det n (rep A k v)
 |0,_,_,h=>by omega
 |n+1,A,k,hk=>by
  simp only[det]
  rw[← w5,← w5,← F7]
  refine i9 fun j hj=> ?_
  by_cases e:j=k
  ·subst e
   rw[am2,am2,am2]
   simp only[rep,if_true]
   grind
  ·rw[am3 e,am3 e,am3 e]
   have hk':(if k<j then k else k - 1)<n:=by split<;>omega
   have:=det_lin (x:=x) (y:=y) (u:=fun i=>u (i+1)) (v:=fun i=>v (i+1)) (A:=mnr A j) hk'
   rw[this]
   simp only[rep,if_neg (Ne.symm (Ne.symm e))]
   grind
theorem det_add{u v:Nat→Int}{n:Nat}{A:Mtx}{k:Nat}(hk:k<n):det n (rep A k fun i=>u i+v i)=det n (rep A k u)+det n (rep A k v):=by
 have:=det_lin (x:=1) (y:=1) (u:=u) (v:=v) (A:=A) hk
 simpa using this
theorem al9{u:Nat→Int}{c:Int}{n:Nat}{A:Mtx}{k:Nat}(hk:k<n):det n (rep A k fun i=>c * u i)=c * det n (rep A k u):=by
 have:=det_lin (x:=c) (y:=0) (u:=u) (v:=u) (A:=A) hk
 simpa using this
theorem det_adj:∀{n:Nat} {A:Mtx} {k:Nat},k+1<n→(∀i,i<n→A i k=A i (k+1))→det n A=0
 |0,_,_,h,_=>by omega
 |n+1,A,k,hk,h=>by
  simp only[det]
  rw[smN_two (a:=k) (b:=k+1) (by omega) hk fun j hj j1 j2=> ?_]
  ·have:det n (mnr A k)=det n (mnr A (k+1)):=O0 fun i c hi hc=>by
    unfold mnr sk
    by_cases e:c=k
    ·subst e;rw[if_neg (by omega),if_pos (by omega)];exact(h (i+1) (by omega)).symm
    ·by_cases q:c<k
     ·rw[if_pos q,if_pos (by omega)]
     ·rw[if_neg q,if_neg (by omega)]
   rw[this,h 0 (by omega)]
   have hs:sgn (k+1)= - sgn k:=by unfold sgn;split<;>split<;>omega
   rw[hs];grind
  ·by_cases q:j<k
   ·have:det n (mnr A j)=0:=det_adj (k:=k - 1) (by omega) fun i hi=>by
     unfold mnr sk
     rw[if_neg (by omega),if_neg (by omega),show k - 1+1=k by omega]
     exact h (i+1) (by omega)
    rw[this];simp
   ·have:det n (mnr A j)=0:=det_adj (k:=k) (by omega) fun i hi=>by
     unfold mnr sk
     rw[if_pos (by omega),if_pos (by omega)]
     exact h (i+1) (by omega)
    rw[this];simp
theorem af5{A:Mtx}{k l:Nat}{u v:Nat→Int}(h:k ≠ l):rep (rep A k u) l v=rep (rep A l v) k u:=by
 funext i j;unfold rep
 by_cases e:j=l
 ·subst e;rw[if_pos rfl,if_neg (Ne.symm h),if_pos rfl]
 ·rw[if_neg e];by_cases q:j=k<;>simp[q,e]<;>omega
theorem det_swap{n:Nat}{A:Mtx}{k:Nat}(hk:k+1<n)(u v:Nat→Int):det n (rep (rep A k u) (k+1) v)= - det n (rep (rep A k v) (k+1) u):=by
 have z:∀w:Nat→Int,det n (rep (rep A k w) (k+1) w)=0:=fun w=>det_adj hk fun i _=>by simp[rep]
 have h:=z fun i=>u i+v i
 rw[det_add hk,af5 (by omega),det_add (by omega),af5 (k:=k+1) (l:=k) (by omega),af5 (k:=k+1) (l:=k) (by omega),z u] at h
 rw[af5 (k:=k) (l:=k+1) (by omega) (u:=fun i=>u i+v i),det_add (by omega),af5 (k:=k+1) (l:=k) (by omega),af5 (k:=k+1) (l:=k) (by omega),z v] at h
 omega
theorem det_same:∀{d n:Nat} {A:Mtx} {k:Nat},k+d+1<n→(∀i,i<n→A i k=A i (k+d+1))→det n A=0
 |0,n,A,k,hk,h=>det_adj hk h
 |d+1,n,A,k,hk,h=>by
  have e:A=rep (rep A (k+d+1) fun i=>A i (k+d+1)) (k+d+1+1) fun i=>A i (k+d+1+1):=by
   funext i j;unfold rep
   by_cases q:j=k+d+1+1
   ·rw[if_pos q,q]
   ·rw[if_neg q];by_cases q2:j=k+d+1
    ·rw[if_pos q2,q2]
    ·rw[if_neg q2]
  rw[e,det_swap (by omega)]
  rw[det_same (d:=d) (k:=k) (by omega) fun i hi=> ?_]
  ·rfl
  ·unfold rep
   rw[if_neg (by omega),if_neg (by omega),if_neg (by omega),if_pos rfl]
   exact h i hi
theorem det_col{n:Nat}{A:Mtx}{k l:Nat}(hk:k<n)(hl:l<n)(h:k ≠ l):det n (rep A l fun i=>A i k)=0:=by
 rcases Nat.lt_or_gt_of_ne h with q|q
 ·exact det_same (d:=l - k - 1) (k:=k) (by omega) fun i _=>by
   rw[show k+(l - k - 1)+1=l by omega];unfold rep;rw[if_neg h,if_pos rfl]
 ·exact det_same (d:=k - l - 1) (k:=l) (by omega) fun i _=>by
   rw[show l+(k - l - 1)+1=k by omega];unfold rep;rw[if_pos rfl,if_neg h]
theorem det_sum{n:Nat}{A:Mtx}{l:Nat}(hl:l<n){y:Nat→Int}{U:Mtx}:∀m:Nat,det n (rep A l fun i=>smN m fun k=>U i k * y k)=smN m fun k=>y k * det n (rep A l fun i=>U i k)
 |0=>by
  simp only[smN]
  have:=al9 (u:=fun _=>0) (c:=0) (A:=A) hl
  simpa using this
 |m+1=>by
  simp only[smN]
  rw[det_add hl,det_sum hl m,show(fun i=>U i m * y m)=fun i=>y m * U i m from funext fun i=>Int.mul_comm _ _,al9 hl]
theorem cramer{n:Nat}{A:Mtx}{y b:Nat→Int}(h:∀i,i<n→smN n (fun k=>A i k * y k)=b i){l:Nat}(hl:l<n):det n (rep A l b)=y l * det n A:=by
 have e:det n (rep A l b)=det n (rep A l fun i=>smN n fun k=>A i k * y k):=O0 fun i j hi _=>by
  unfold rep;split
  ·exact(h i hi).symm
  ·rfl
 rw[e,det_sum hl,K4 hl fun k hk hkl=> ?_]
 ·rw[rep_self]
 ·rw[det_col hk hl hkl];simp
theorem det_foot:∀{n:Nat} {A:Mtx} {d:Int},(∀i,i<n→A i n=0)→A n n=d→det (n+1) A=d * det n A
 |0,A,d,_,h=>by simp[det,smN,sgn,h]
 |n+1,A,d,h0,h=>by
  rw[det,smN]
  rw[h0 0 (by omega)]
  have hz:sgn (n+1) * 0 * det (n+1) (mnr A (n+1))=0:=by simp
  rw[hz,Int.add_zero,det,← w5]
  refine i9 fun j hj=> ?_
  rw[det_foot (n:=n) (A:=mnr A j) (d:=d) (fun i hi=>by unfold mnr sk;rw[if_neg (by omega)];exact h0 (i+1) (by omega)) (by unfold mnr sk;rw[if_neg (by omega)];exact h)]
  grind
/-! ### How large -/
def prd:Nat→(Nat→Int)→Int
 |0,_=>1
 |n+1,r=>r 0 * prd n fun i=>r (i+1)
theorem prd_nonneg:∀{n:Nat} {r:Nat→Int},(∀i,0≤r i)→0≤prd n r
 |0,_,_=>by simp[prd]
 |n+1,r,h=>Int.mul_nonneg (h 0) (prd_nonneg fun i=>h (i+1))
def ab(x:Int):Int:=if 0≤x then x else -x
theorem y8(x:Int):0≤ab x:=by unfold ab;split<;>omega
theorem ab_add(x y:Int):ab (x+y)≤ab x+ab y:=by unfold ab;split<;>split<;>split<;>omega
theorem ab_le{x B:Int}(h:ab x≤B): -B≤x∧x≤B:=by unfold ab at h;split at h<;>omega
theorem ab_mul(x y:Int):ab (x * y)=ab x * ab y:=by
 unfold ab
 by_cases a:0≤x<;>by_cases b:0≤y
 ·rw[if_pos a,if_pos b,if_pos (Int.mul_nonneg a b)]
 ·rw[if_pos a,if_neg b]
  by_cases c:0≤x * y
  ·have:x * y≤0:=Int.mul_nonpos_of_nonneg_of_nonpos a (by omega)
   rw[if_pos c,Int.mul_neg];omega
  ·rw[if_neg c,Int.mul_neg]
 ·rw[if_neg a,if_pos b]
  by_cases c:0≤x * y
  ·have:x * y≤0:=Int.mul_nonpos_of_nonpos_of_nonneg (by omega) b
   rw[if_pos c,Int.neg_mul];omega
  ·rw[if_neg c,Int.neg_mul]
 ·have h:0≤x * y:=Int.mul_nonneg_of_nonpos_of_nonpos (by omega) (by omega)
  rw[if_neg a,if_neg b,if_pos h,Int.neg_mul_neg]
theorem ab_sum{f:Nat→Int}:∀n:Nat,ab (smN n f)≤smN n fun j=>ab (f j)
 |0=>by simp[smN,ab]
 |n+1=>by
  have:=ab_sum (f:=f) n
  have:=ab_add (smN n f) (f n)
  simp only[smN];omega
theorem S4{f g:Nat→Int}:∀{n:Nat},(∀j,j<n→f j≤g j)→smN n f≤smN n g
 |0,_=>Int.le_refl _
 |n+1,h=>by
  have:=S4 (n:=n) fun j hj=>h j (by omega)
  have:=h n (by omega)
  simp only[smN];omega
theorem ae8{f:Nat→Int}:∀{n:Nat},(∀j,j<n→0≤f j)→0≤smN n f
 |0,_=>Int.le_refl _
 |n+1,h=>by
  have:=ae8 (n:=n) fun j hj=>h j (by omega)
  have:=h n (by omega)
  simp only[smN];omega
theorem smN_sk{f:Nat→Int}(h:∀j,0≤f j):∀{n j:Nat},smN n (fun k=>f (sk j k))≤smN (n+1) f
 |0,j=>by simp only[smN];have:=h 0;omega
 |n+1,j=>by
  by_cases q:n<j
  ·rw[i9 (g:=f) fun k hk=>by unfold sk;rw[if_pos (by omega)]]
   have:=h (n+1)
   simp only[smN];omega
  ·have:=smN_sk h (n:=n) (j:=j)
   have e:sk j n=n+1:=by unfold sk;rw[if_neg q]
   simp only[smN,e] at this ⊢;omega
theorem W8:∀{n:Nat} {A:Mtx} {r:Nat→Int},(∀i,0≤r i)→(∀i,i<n→smN n (fun j=>ab (A i j))≤r i)→ab (det n A)≤prd n r
 |0,_,_,_,_=>by simp[det,prd,ab]
 |n+1,A,r,h0,h=>by
  simp only[det,prd]
  refine Int.le_trans (ab_sum _) ?_
  have hm:∀j,j<n+1→ab (sgn j * A 0 j * det n (mnr A j))≤prd n (fun i=>r (i+1)) * ab (A 0 j):=fun j _=>by
   have ih:=W8 (n:=n) (A:=mnr A j) (r:=fun i=>r (i+1)) (fun i=>h0 (i+1)) fun i hi=>by
    have:=smN_sk (f:=fun k=>ab (A (i+1) k)) (fun k=>y8 _) (n:=n) (j:=j)
    have:=h (i+1) (by omega)
    simp only[mnr] at *
    omega
   have hs:ab (sgn j)=1:=by unfold sgn ab;split<;>split<;>omega
   rw[ab_mul,ab_mul,hs,Int.one_mul,Int.mul_comm]
   exact Int.mul_le_mul_of_nonneg_right ih (y8 _)
  refine Int.le_trans (S4 hm) ?_
  rw[w5,Int.mul_comm]
  exact Int.mul_le_mul_of_nonneg_right (h 0 (by omega)) (prd_nonneg fun i=>h0 (i+1))
end Ab
end
section
namespace Ab
structure GJ(n:Nat)(A:Mtx)(c:Nat)(a:Mtx)(d:Int):Prop where
 dd:d=det c A
 nz:d ≠ 0
 on:∀i k,i<n→k<c→a i k=if i=k then d else 0
 top:∀j r,c≤j→j≤n→r<c→smN c (fun k=>A r k * a k j)=d * A r j
 low:∀j r,c≤j→j≤n→c≤r→r<n→a r j=d * A r j - smN c (fun k=>A r k * a k j)
theorem GJ.start{n:Nat}{A:Mtx}:GJ n A 0 A 1:=
 ⟨rfl,by omega,fun i k _ h=>by omega,fun j r _ _ h=>by omega,fun j r _ _ _ _=>by simp[smN]⟩
def brd(c:Nat)(A:Mtx)(r j:Nat):Mtx:=fun i k=>A (if i=c then r else i) (if k=c then j else k)
section
variable {n c:Nat}{A a:Mtx}{d:Int}
theorem smN_neg{f:Nat→Int}{n:Nat}:smN n (fun k=> - f k)= - smN n f:=by
 have:=w5 (c:= -1) (f:=f) n
 simpa using this
theorem GJ.brd(h:GJ n A c a d){r j:Nat}(hj:c≤j)(hj':j≤n)(hr:c≤r)(hr':r<n):a r j=det (c+1) (brd c A r j):=by
 have key:=cramer (n:=c+1) (A:=Ab.brd c A r j) (y:=fun k=>if k=c then d else - a k j) (b:=fun i=>if i=c then a r j else 0) (fun i hi=>by
  simp only[smN]
  rw[if_pos trivial]
  have e:smN c (fun k=>Ab.brd c A r j i k * if k=c then d else - a k j)= - smN c (fun k=>A (if i=c then r else i) k * a k j):=by
   rw[← smN_neg]
   refine i9 fun k hk=> ?_
   rw[if_neg (by omega)]
   unfold Ab.brd
   rw[if_neg (by omega:¬ k=c)];grind
  rw[e]
  have e2:Ab.brd c A r j i c=A (if i=c then r else i) j:=by unfold Ab.brd;simp
  rw[e2]
  by_cases q:i=c
  ·subst q
   simp only[if_true]
   have:=h.low j r hj hj' hr hr'
   have:=Int.mul_comm d (A r j)
   omega
  ·simp only[if_neg q]
   have:=h.top j i hj hj' (by omega)
   have:=Int.mul_comm d (A i j)
   omega) (l:=c) (by omega)
 rw[if_pos rfl,det_foot (d:=a r j) (fun i hi=>by unfold rep;rw[if_pos rfl];exact if_neg (by omega)) (by unfold rep;rw[if_pos rfl];exact if_pos rfl)] at key
 have e:det c (rep (Ab.brd c A r j) c fun i=>if i=c then a r j else 0)=d:=by
  rw[h.dd]
  refine O0 fun i k hi hk=> ?_
  unfold rep Ab.brd
  rw[if_neg (by omega),if_neg (by omega),if_neg (by omega)]
 rw[e,Int.mul_comm] at key
 exact Int.eq_of_mul_eq_mul_left h.nz key
theorem GJ.piv(h:GJ n A c a d)(hc:c<n):a c c=det (c+1) A:=by
 rw[h.brd (Nat.le_refl c) (by omega) (Nat.le_refl c) hc]
 refine O0 fun i k _ _=> ?_
 unfold Ab.brd
 split
 ·rename_i e;rw[e];split
  ·rename_i e2;rw[e2]
  ·rfl
 ·split
  ·rename_i e2;rw[e2]
  ·rfl
def crs(a:Mtx)(c i j:Nat):Int:=a c c * a i j - a i c * a c j
theorem GJ.topc(h:GJ n A c a d)(hc:c<n){j:Nat}(hj:c≤j)(hj':j≤n){r:Nat}(hr:r<c+1):
  smN (c+1) (fun k=>A r k * if k=c then d * a c j else crs a c k j)=d * a c c * A r j:=by
 simp only[smN]
 rw[if_pos trivial]
 have e:smN c (fun k=>A r k * if k=c then d * a c j else crs a c k j)=a c c * smN c (fun k=>A r k * a k j) - a c j * smN c (fun k=>A r k * a k c):=by
  rw[← w5,Int.sub_eq_add_neg,← Int.neg_mul,← w5,← F7]
  refine i9 fun k hk=> ?_
  rw[if_neg (by omega)];unfold crs;grind
 rw[e]
 by_cases q:r=c
 ·subst q
  have h1:=h.low j r hj hj' (Nat.le_refl r) hc
  have h2:=h.low r r (Nat.le_refl r) (by omega) (Nat.le_refl r) hc
  rw[show smN r (fun k=>A r k * a k j)=d * A r j - a r j by omega,show smN r (fun k=>A r k * a k r)=d * A r r - a r r by omega]
  grind
 ·rw[h.top j r hj hj' (by omega),h.top c r (Nat.le_refl c) (by omega) (by omega)]
  grind
theorem GJ.exact_top(h:GJ n A c a d)(hc:c<n)(hp:a c c ≠ 0){i j:Nat}(hi:i<c)(hj:c≤j)(hj':j≤n):crs a c i j=d * det (c+1) (rep A i fun r=>A r j):=by
 have key:=cramer (n:=c+1) (A:=A) (y:=fun k=>if k=c then d * a c j else crs a c k j) (b:=fun r=>(d * a c c) * A r j) (fun r hr=>h.topc hc hj hj' hr) (l:=i) (by omega)
 rw[if_neg (by omega),al9 (by omega),← h.piv hc] at key
 have:a c c * crs a c i j=a c c * (d * det (c+1) (rep A i fun r=>A r j)):=by grind
 exact Int.eq_of_mul_eq_mul_left hp this
theorem GJ.step(h:GJ n A c a d)(hc:c<n)(hp:a c c ≠ 0){b:Mtx}(h1:∀j,j≤n→b c j=a c j)(h2:∀i j,i<n→i ≠ c→j≤n→j ≠ c→d * b i j=crs a c i j)(h3:∀i,i<n→i ≠ c→b i c=0):GJ n A (c+1) b (a c c):=by
 have hd:=h.nz
 have old:∀i k,i<n→k<c→b i k=if i=k then a c c else 0:=fun i k hi hk=>by
  by_cases q:i=c
  ·subst q;rw[h1 k (by omega),h.on i k hi hk,if_neg (by omega),if_neg (by omega)]
  ·have e:=h2 i k hi q (by omega) (by omega)
   unfold crs at e
   rw[h.on c k hc hk,if_neg (by omega),Int.mul_zero,Int.sub_zero,h.on i k hi hk] at e
   split
   ·rename_i q2
    rw[if_pos q2,Int.mul_comm (a c c)] at e
    exact Int.eq_of_mul_eq_mul_left hd e
   ·rename_i q2
    rw[if_neg q2] at e
    simp only[Int.mul_zero] at e;exact(Int.mul_eq_zero.1 e).resolve_left hd
 have mul:∀j r,c+1≤j→j≤n→d * smN (c+1) (fun k=>A r k * b k j)=smN (c+1) (fun k=>A r k * if k=c then d * a c j else crs a c k j):=fun j r hj hj'=>by
  rw[← w5]
  refine i9 fun k hk=> ?_
  by_cases q:k=c
  ·subst q;rw[if_pos rfl,h1 j hj'];grind
  ·rw[if_neg q,← h2 k j (by omega) q hj' (by omega)];grind
 refine⟨h.piv hc,hp,fun i k hi hk=> ?_,fun j r hj hj' hr=> ?_,fun j r hj hj' hr hr'=> ?_⟩
 ·by_cases q:k=c
  ·subst q
   by_cases q2:i=k
   ·subst q2;rw[h1 i (by omega),if_pos rfl]
   ·rw[h3 i hi q2,if_neg q2]
  ·exact old i k hi (by omega)
 ·have e:=mul j r hj hj'
  rw[h.topc hc (by omega) hj' hr] at e
  exact Int.eq_of_mul_eq_mul_left hd (by rw[e];grind)
 ·have e:=mul j r hj hj'
  have e2:=h2 r j hr' (by omega) hj' (by omega)
  have e3:smN (c+1) (fun k=>A r k * if k=c then d * a c j else crs a c k j)=a c c * smN c (fun k=>A r k * a k j) - a c j * smN c (fun k=>A r k * a k c)+A r c * (d * a c j):=by
   simp only[smN]
   rw[if_pos trivial]
   have e:smN c (fun k=>A r k * if k=c then d * a c j else crs a c k j)=a c c * smN c (fun k=>A r k * a k j) - a c j * smN c (fun k=>A r k * a k c):=by
    rw[← w5,Int.sub_eq_add_neg,← Int.neg_mul,← w5,← F7]
    refine i9 fun k hk=> ?_
    rw[if_neg (by omega)];unfold crs;grind
   rw[e]
  have l1:=h.low j r (by omega) hj' (by omega) hr'
  have l2:=h.low c r (Nat.le_refl c) (by omega) (by omega) hr'
  rw[e3,show smN c (fun k=>A r k * a k j)=d * A r j - a r j by omega,show smN c (fun k=>A r k * a k c)=d * A r c - a r c by omega] at e
  refine Int.eq_of_mul_eq_mul_left hd ?_
  rw[e2,Int.mul_sub,e];unfold crs;grind
theorem GJ.exact_low(h:GJ n A c a d)(hc:c<n)(hp:a c c ≠ 0){r j:Nat}(hr:c<r)(hr':r<n)(hj:c<j)(hj':j≤n):∃x,crs a c r j=d * x:=by
 refine⟨a c c * A r j - A r c * a c j - smN c (fun k=>A r k * det (c+1) (rep A k fun q=>A q j)),?_⟩
 have l1:=h.low j r (by omega) hj' (by omega) hr'
 have l2:=h.low c r (Nat.le_refl c) (by omega) (by omega) hr'
 have e:d * smN c (fun k=>A r k * det (c+1) (rep A k fun q=>A q j))=a c c * smN c (fun k=>A r k * a k j) - a c j * smN c (fun k=>A r k * a k c):=by
  rw[← w5,← w5,Int.sub_eq_add_neg,← Int.neg_mul,← w5,← F7]
  refine i9 fun k hk=> ?_
  have:=h.exact_top hc hp hk (by omega:c≤j) hj'
  unfold crs at this;grind
 rw[Int.mul_sub,e,show smN c (fun k=>A r k * a k j)=d * A r j - a r j by omega,show smN c (fun k=>A r k * a k c)=d * A r c - a r c by omega]
 unfold crs;grind
theorem GJ.exact(h:GJ n A c a d)(hc:c<n)(hp:a c c ≠ 0){i j:Nat}(hi:i<n)(hic:i ≠ c)(hj:j≤n)(hjc:j ≠ c):∃x,crs a c i j=d * x:=by
 rcases Nat.lt_or_gt_of_ne hjc with q|q
 ·unfold crs
  rw[h.on c j hc q,if_neg (by omega),h.on i j hi q]
  split
  ·exact⟨a c c,by grind⟩
  ·exact⟨0,by simp⟩
 ·rcases Nat.lt_or_gt_of_ne hic with r|r
  ·exact⟨_,h.exact_top hc hp r (by omega) hj⟩
  ·exact h.exact_low hc hp r hi q hj
end
end Ab
end
