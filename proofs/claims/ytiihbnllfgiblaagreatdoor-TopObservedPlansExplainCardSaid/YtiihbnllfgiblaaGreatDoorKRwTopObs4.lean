/-
  Texts that the proof stands on.
-/
import Derived.Test.YtiihbnllfgiblaaGreatDoorKRwTopObs3
import Derived.Shelf.Small.Bits
import Derived.Shelf.Strconv.Itoa0
import Derived.Shelf.Strconv.Itoa1
import Derived.Shelf.LaysM
import Derived.Shelf.Strconv.Itoa2
import Derived.Shelf.Sort.Plain
import Derived.Shelf.Bits.Mul64
import Derived.Shelf.Slices.Reverse
import Derived.Shelf.Slices.Equal
import Derived.Ground.Names2Prog
import Derived.Shelf.Slices.Clone
import Derived.Shelf.Slices.SearchI
import Derived.Shelf.Slices.Cells
import Derived.Shelf.Slices.In.SortNone
import Derived.Shelf.Slices.Empties
import Derived.Shelf.Slices.Empties2
import Derived.Ground.SlgnProg
import Derived.Shelf.SlicesE.Clone
import Derived.Ground.SlsfProg
import Derived.Shelf.SlSortCmp.Insertion
import Derived.Shelf.SlSortCmp.SiftDown1
import Derived.Shelf.SlSortCmp.HeapSort1
import Derived.Shelf.SlSortCmp.Insertion1
import Derived.Shelf.SlSortCmp.Median1
import Derived.Shelf.SlSortCmp.Pivot1
import Derived.Shelf.SlSortCmp.ReverseRange1
import Derived.Shelf.SlSortCmp.PartialInsertion1
import Derived.Shelf.SlSortCmp.PartitionEqual1
import Derived.Shelf.SlSortCmp.Partition1
import Derived.Shelf.SlSortCmp.Pdq1
import Derived.Shelf.SlSortCmp.NoneTotal
import Derived.Test.YtiihbnllfgiblaaGreatDoorProg
set_option linter.all false
open Option renaming bind->gC,getD->gD,isSome->gP
open List renaming pairwise_cons->gE,mem_cons->gF,pairwise_iff_getElem->gH,mem_append->gI,map->gJ,take_add_one->gK,length_filter_le->gM,mem_singleton->gO,drop_eq_getElem_cons->gQ,pairwise_mergeSort->gR,pairwise_append->gU,length_append->gX,filter_append->gY,length_take->hJ,length->hY
open Int renaming le_refl->gG,lt_trichotomy->gL,le_of_lt_add_one->gS,lt_or_eq_of_le->gV
open Nat renaming mul_le_mul_right->gT,le_trans->gW
open Bool renaming false_eq_true->gZ
section
namespace Ab
open Go Go.Proofs
set_option linter.all false
abbrev j8(l:Li):List I:=[.sl 1 (l.map intI)]
structure j7 where
  pre:Li
  add:Li
  del:Li
  cost:Int
abbrev n7(v:j7):List I:=[.sl 1 (gJ intI v.pre),.sl 1 (gJ intI v.add),.sl 1 (gJ intI v.del),.val (.int .i64 v.cost)]
structure i4 where
  facts:Int
  init:Li
  goal:Li
  operators:List j7
abbrev eTTask(v:i4):List I:=[.val (.int .i64 v.facts),.sl 1 (gJ intI v.init),.sl 1 (gJ intI v.goal),.sl 4 (gJ n7 v.operators)]
structure TFault where
  code:Int
  index:Int
structure ap5 where
  fx:Int
  fy:Int
  signed:Bool
  code:Int
structure Truntime_boundsError where
  fx:Int
  fy:Int
  signed:Bool
  code:Int
structure ap4 where
  facts:Int
  init:Li
  goal:Li
  operators:List j7
structure aw8 where
  found:Bool
  plan:Li
  cost:Int
  expanded:Int
structure ag6 where
  found:Bool
  plan:Li
  cost:Int
  expanded:Int
structure TCode_int_Index_int where
  code:Int
  index:Int
abbrev M3(v:Int×Int):List I:=[.val (.int .i64 v.1),.val (.int .i64 v.2)]
structure TFrom_uint32_Op_int where
  fFrom:Int
  op:Int
structure f8 where
  fFrom:Int
  op:Int
structure Tspace_Step_uint32 where
  op:Int
  cost:Int
  to:Int
structure TOp_int_Cost_int_To_uint32 where
  op:Int
  cost:Int
  to:Int
structure aC6 where
  pre:Li
  add:Li
  del:Li
  cost:Int
structure A9 where
  ffrom:Int
  cost:Int
abbrev m9(v:A9):List I:=[.val (.int .u32 v.ffrom),.val (.int .i64 v.cost)]
structure Tfrom_uint32_cost_int where
  ffrom:Int
  cost:Int
structure k8 where
  pre:Int
  add:Int
  del:Int
  cost:Int
abbrev f5(v:k8):List I:=[.val (.int .u32 v.pre),.val (.int .u32 v.add),.val (.int .u32 v.del),.val (.int .i64 v.cost)]
structure ax8 where
  start:Int
  goal:Int
  ops:List k8
structure Tspace_Words where
  start:Int
  goal:Int
  ops:List k8
structure az7 where
  fs:Li
  seen:Int
  cost:Int
  sequence:Int
structure h9 where
  fs:Li
  seen:Int
  cost:Int
  sequence:Int
abbrev f9(v:h9):List I:=[.sl 1 (gJ intI v.fs),.val (.int .i64 v.seen),.val (.int .i64 v.cost),.val (.int .i64 v.sequence)]
structure aB1 where
  item:Int
  key:Int
  time:Int
  fat:Int
structure e8 where
  item:Int
  key:Int
  time:Int
  fat:Int
abbrev d9(v:e8):List I:=[.val (.int .u32 v.item),.val (.int .i64 v.key),.val (.int .i64 v.time),.val (.int .i64 v.fat)]
structure TCut where
  operators:Li
  cost:Int
structure ax1 where
  pre:Int
  add:Int
  del:Int
  cost:Int
structure Tnode_int_from_int_step_int where
  node:LL
  ffrom:Int
  step:Int
structure i5 where
  node:LL
  ffrom:Int
  step:Int
abbrev i6(v:i5):List I:=[.sl 1 (gJ j8 v.node),.val (.int .i64 v.ffrom),.val (.int .i64 v.step)]
structure az8 where
  t:i4
  fs:Li
  costs:Li
  value:Li
structure Tlmcut_search where
  t:i4
  fs:Li
  costs:Li
  value:Li
structure TOperators_int_Cost_int where
  operators:Li
  cost:Int
abbrev preOp(o:j7):List I:=[.sl 1 (o.pre.map intI)]
abbrev postOp(o:j7):List I:=[.sl 1 (o.del.map intI),.val (.int .i64 o.cost)]
abbrev omOp(r:Nat)(M:List j7):Ent:=omat r 4 preOp postOp j7.add 1 intI M
abbrev vpOp(M:List j7)(i n m:Nat)(a:j7):Blk:=vecP preOp postOp j7.add 1 intI 4 M i (n,[]) m a
def S8(c:Int):Option Bool:=gC (if c=0 then some (decide (c=0)) else if c=1 then some (decide (c=1)) else if c=4 then some (decide (c=4)) else some (decide (c=5))) fun t2=>if t2=true then some true else some false
def ac3(l:Li)(nv:Int):Int->Unit->Option (Unit⊕Bool):=fun t3 _=>gC (ix l t3) fun c=>gC (if c<0 then some true else if nv<=c then some true else if 0<t3 then gC (ix l (t3 - 1)) fun e=>some (decide (c<=e)) else some false) fun t4=>if t4=true then some (.inr false) else some (.inl ())
def F1(l:Li)(nv:Int):Option Bool:=(gC (rngX 0 (hY l:Int) (ac3 l nv) ()) fun| .inl _=>some true| .inr x=>some x)
def K8(c:Int):Option Bool:=some (!(decide (c=c)))
def ae3(xv:Int)(yv:Int):Option Bool:=gC (gC (K8 xv) fun a6=>if a6=true then gC (K8 yv) fun a9=>if(!a9)=true then some true else some (decide (xv<yv)) else some (decide (xv<yv))) fun t3=>some t3
def S5(c:Int):Option Bool:=some (!(decide (c=c)))
def D4(q:Li)(target:Int):(Int×Int)->Option ((Int×Int)⊕Int):=fun(c,e)=>if c<e then gC (ix q (w64 (shrW .u64 ((IntKind.u64).wrap (w64 (c+e))) 1))) fun h=>gC (ae3 h target) fun j=>if j=true then some (.inl (w64 ((w64 (shrW .u64 ((IntKind.u64).wrap (w64 (c+e))) 1))+1),e)) else some (.inl (c,w64 (shrW .u64 ((IntKind.u64).wrap (w64 (c+e))) 1))) else some (.inr c)
noncomputable def y9(e:Li)(target:Int):Option (Int×Bool):=gC (Loop (D4 e target) (0,(hY e:Int))) fun c=>gC (if c<(hY e:Int) then gC (ix e c) fun h=>if h=target then some true else gC (ix e c) fun j=>gC (S5 j) fun q=>if q=true then gC (S5 target) fun u=>some u else some false else some false) fun t8=>some (c,t8)
noncomputable def ae7(c:Int)(e:Li):Option Bool:=gC (y9 e c) fun h=>some h.2
def G4(h:Li)(fv:Int->Option Bool):Int->Unit->Option (Unit⊕Int):=fun t3 _=>gC (ix h t3) fun c=>gC (fv c) fun e=>if e=true then some (.inr t3) else some (.inl ())
def K7(c:Li)(fv:Int->Option Bool):Option Int:=(gC (rngX 0 (hY c:Int) (G4 c fv) ()) fun| .inl _=>some (-1)| .inr x=>some x)
def C3(c:Li)(fv:Int->Option Bool):Option Bool:=gC (K7 c fv) fun e=>some (decide (0<=e))
noncomputable def ad4(c:Li)(e:Li):Option Bool:=gC (C3 c (fun h=>ae7 h e)) fun j=>some j
noncomputable def V0(ov:j7)(facts:Int):Option Int:=gC (gC (F1 ov.pre facts) fun a9=>if(!a9)=true then some true else gC (F1 ov.add facts) fun a15=>if(!a15)=true then some true else gC (F1 ov.del facts) fun a22=>if(!a22)=true then some true else gC (ad4 ov.add ov.del) fun a30=>some a30) fun t3=>if t3=true then some 5 else if((decide (ov.cost<0))||(decide (100<ov.cost)))=true then some 3 else some 0
noncomputable def O1(t:i4):Int->Unit->Option (Unit⊕TFault):=fun t6 _=>gC (ix t.operators t6) fun e=>gC (V0 e t.facts) fun c=>if c=0 then some (.inl ()) else some (.inr (⟨c,t6⟩:TFault))
noncomputable def y4(t:i4):Option TFault:=if((decide (t.facts<0))||(decide (24<t.facts)))=true then some (⟨3, -1⟩:TFault) else gC (F1 t.init t.facts) fun a21=>if(!a21)=true then some (⟨5, -2⟩:TFault) else gC (F1 t.goal t.facts) fun a29=>if(!a29)=true then some (⟨5, -3⟩:TFault) else if 40<(hY t.operators:Int) then some (⟨2, -1⟩:TFault) else(gC (rngX 0 (hY t.operators:Int) (O1 t) ()) fun| .inl _=>some (⟨0,0⟩:TFault)| .inr x=>some x)
def ag8(e:Li):Int->Int->Option Int:=fun t3 h=>gC (ix e t3) fun c=>gC (chk0 c) fun j=>some (Go.bits .or .u32 h (shlW .u32 1 c))
def R0(c:Li):Option Int:=(gC (forR 0 (hY c:Int) (ag8 c) 0) fun e=>some e)
def R9(w:Int):Int->Li->Option Li:=fun t3 e=>gC (if Go.bits .and .u32 (shrW .u32 w t3) 1=1 then gC (app 8 e [t3]) fun c=>some c else some e) fun h=>some h
def N7(w:Int):Option Li:=(gC (forR 0 32 (R9 w) []) fun c=>some c)
def V8(e:Int)(h:Int):Option Int:=gC (K8 e) fun j=>gC (K8 h) fun c=>if j=true then if c=true then some 0 else some (-1) else if c=true then some 1 else if e<h then some (-1) else if h<e then some 1 else some 0
def I5(h:Li)(c:Li):Int->Unit->Option (Unit⊕Int):=fun t3 _=>gC (ix h t3) fun j=>if(hY c:Int)<=t3 then some (.inr 1) else gC (ix c t3) fun q=>gC (V8 j q) fun e=>if e=0 then some (.inl ()) else some (.inr e)
def B0(c:Li)(e:Li):Option Int:=(gC (rngX 0 (hY c:Int) (I5 c e) ()) fun| .inl _=>if(hY c:Int)<(hY e:Int) then some (-1) else some 0| .inr x=>some x)
def O4(c:Int)(e:Int):Option Int:=gC (N7 c) fun h=>gC (N7 e) fun j=>gC (B0 h j) fun q=>some q
def O3(j:Li)(e:Int):Int->Option (Int⊕Int):=fun c=>gC (if c<(hY j:Int) then gC (ix j c) fun h=>some (decide (h<e)) else some false) fun t7=>if t7=true then some (.inl (w64 (c+1))) else some (.inr c)
noncomputable def V5(h:Li)(part:Li):Int->Int->Option (Int⊕Bool):=fun t4 j=>gC (ix part t4) fun e=>gC (Loop (O3 h e) j) fun c=>gC (if c=(hY h:Int) then some true else gC (ix h c) fun q=>some (!(decide (q=e)))) fun t11=>if t11=true then some (.inr false) else some (.inl c)
noncomputable def J4(c:Li)(part:Li):Option Bool:=(gC (rngX 0 (hY part:Int) (V5 c part) 0) fun| .inl e=>some true| .inr x=>some x)
noncomputable def ai3(sv:Li)(del:Li):Int->Li->Option Li:=fun t5 c4=>gC (gC (ix sv t5) fun a16=>gC (y9 del a16) fun a21=>if(!a21.2)=true then gC (app 8 c4 [a16]) fun a29=>some a29 else some c4) fun c6=>some c6
noncomputable def K9(h:Li)(add:Li)(del:Li):Option Li:=(gC (forR 0 (hY h:Int) (ai3 h del) []) fun j=>gC (app 8 j add) fun c=>gC (sortL c) fun e=>some (ah3 e))
def af6(cost:Int):Option Int:=some (w64 ((w64 (cost * 4096))+1))
def ac0(t:i4)(plan:Li):Int->Int->Option Int:=fun t7 h=>gC (ix plan t7) fun c=>gC (ix t.operators c) fun e=>some (w64 (h+e.cost))
def ak9(t:i4)(plan:Li)(found:Bool)(expanded:Int):Option (ag6×TFault):=if 60<(hY plan:Int) then some ((⟨false,[],0,0⟩:ag6),(⟨10, -9⟩:TFault)) else(gC (forR 0 (hY plan:Int) (ac0 t plan) 0) fun c=>some ((⟨found,plan,c,expanded⟩:ag6),(⟨0,0⟩:TFault)))
abbrev space_Of_w_s0(t:i4):c9:=[]
def ah0(t:i4):Int->(List k8)->Option (List k8):=fun t56 e=>gC (ix t.operators t56) fun c=>gC (R0 c.pre) fun h=>gC (R0 c.add) fun j=>gC (R0 c.del) fun q=>gC (app 24 e [(⟨h,j,q,c.cost⟩:k8)]) fun u=>some u
def ae5(t:i4):Option (Int×Int×(List k8)):=gC (R0 t.init) fun h=>gC (R0 t.goal) fun c=>(gC (forR 0 (hY t.operators:Int) (ah0 t) []) fun e=>some (h,c,e))
abbrev aw2(start:Int)(goal:Int)(l:List k8):c9:=[.one (.cells 3 [[.imm (.val (.int .u32 start)),.imm (.val (.int .u32 goal)),.own 1 0 (hY l)]]),.one (vec 4 f5 l)]
def x8(start:Int)(goal:Int)(l:List k8):Option Unit:=some ()
abbrev av8(c:Int)(start:Int)(goal:Int)(l:List k8):c9:=[.one (.cells 3 [[.imm (.val (.int .u32 start)),.imm (.val (.int .u32 goal)),.own 1 0 (hY l)]]),.one (vec 4 f5 l)]
def B6(c:Int)(start:Int)(goal:Int)(l:List k8):Option Unit:=some ()
abbrev X6(start:Int)(goal:Int)(l:List k8):c9:=[.one (.cells 3 [[.imm (.val (.int .u32 start)),.imm (.val (.int .u32 goal)),.own 1 0 (hY l)]]),.one (vec 4 f5 l)]
def O6(l:List k8)(e:Int)(u:Unit):Int->((List (Int×Unit))×Li)->Option ((List (Int×Unit))×Li):=fun t66 (h,j)=>gC (ix l t66) fun c=>if Go.bits .and .u32 e c.pre=c.pre then if(!(gP (mget h (Go.bits .or .u32 (Go.bits .andNot .u32 e c.del) c.add))))=true then gC (app 4 j [Go.bits .or .u32 (Go.bits .andNot .u32 e c.del) c.add]) fun q=>some (mset h (Go.bits .or .u32 (Go.bits .andNot .u32 e c.del) c.add) (),q) else some (h,j) else some (h,j)
def P6(l:List k8)(c:Li)(e:List (Int×Unit))(h:Int)(j:Unit):Option ((List (Int×Unit))×Li):=(gC (forR 0 (hY l:Int) (O6 l h j) (e,m7 c 0 ((hY c:Int) - 1))) fun⟨q,u⟩=>some (q,u))
def P0(start:Int)(goal:Int)(l:List k8):(Li×(List (Int×Unit))×Li)->Option ((Li×(List (Int×Unit))×Li)⊕(Li⊕(Li×Bool))):=fun(c,q,h)=>if 0<(hY c:Int) then gC (ix c ((hY c:Int) - 1)) fun e=>gC (cutV (hY c:Int) 0 ((hY c:Int) - 1)) fun u=>gC (app 4 h [e]) fun v=>gC (B6 e start goal l) fun B=>gC (P6 l c q e u) fun⟨j,z⟩=>if 2000<(hY j:Int) then some (.inr (.inr ([],false))) else some (.inl (z,j,v)) else some (.inr (.inl h))
noncomputable def H9(start:Int)(goal:Int)(l:List k8):Option (Li×Bool):=gC (x8 start goal l) fun e=>gC (x8 start goal l) fun h=>gC (Loop (P0 start goal l) ([start],mset ([]:List (Int×Unit)) start (),[])) fun| .inl c=>some (c,true)| .inr x=>some x
abbrev aA8(t:i4):c9:=[]
noncomputable def D5(t:i4):Option ((Int×Int)⊕(Int×Int×(List k8)×Li)):=gC (y4 t) fun a10=>if(!((decide (a10.code=0)) && (decide (a10.index=0))))=true then some (.inl (a10.code,a10.index)) else gC (ae5 t) fun a16=>gC (H9 a16.1 a16.2.1 a16.2.2) fun a20=>if(!a20.2)=true then some (.inl (10, -7)) else gC (sortFU O4 a20.1) fun a27=>some (.inr (a16.1,a16.2.1,a16.2.2,a27))
abbrev aB3(t:i4)(c:Bool):c9:=[]
noncomputable def ab9(t:i4)(permitted:Bool):Option ((Int×Int)⊕(Int×Int×(List k8)×Li)):=gC (D5 t) fun| .inl fk59=>if((!permitted) && (((decide (fk59.1=0)) && (decide (fk59.2=0)))||(decide (fk59.2=(-7)))))=true then some (.inl (4, -8)) else some (.inl (fk59.1,fk59.2))| .inr fk59=>if((!permitted) && (((decide (0=0)) && (decide (0=0)))||(decide (0=(-7)))))=true then some (.inl (4, -8)) else some (.inr (fk59.1,fk59.2.1,fk59.2.2.1,fk59.2.2.2))
abbrev ar4:c9:=[]
def E8:Option Unit:=some ()
abbrev av6(c:Int)(start:Int)(goal:Int)(l:List k8):c9:=[.one (.cells 3 [[.imm (.val (.int .u32 start)),.imm (.val (.int .u32 goal)),.own 1 0 (hY l)]]),.one (vec 4 f5 l)]
def G7(c:Int)(start:Int)(goal:Int)(l:List k8):Option Unit:=some ()
abbrev ak2(l:Li)(c:List e8):c9:=[.one (prow 1 l),pool 4 d9 c]
def q9(l:Li)(c:List e8):Option Unit:=some ()
abbrev aj6(e:Int)(h:Int)(l:Li)(c:List e8):c9:=[.one (prow 1 l),pool 4 d9 c]
def n8(q:Int)(u:Int)(l:Li)(j:List e8):Option Bool:=gC (ix l q) fun v=>gC (ix j v) fun c=>gC (ix l u) fun h=>gC (ix j h) fun e=>some ((decide (c.key<e.key))||((decide (c.key=e.key)) && (decide (c.time<e.time))))
abbrev aj5(e:Int)(h:Int)(l:Li)(c:List e8):c9:=[.one (prow 1 l),pool 4 d9 c]
def p9(q:Int)(z:Int)(l:Li)(B:List e8):Option (Li×(List e8)):=gC (ix l z) fun u=>gC (ix l q) fun v=>gC (ix ((l.set q.toNat u).set z.toNat v) q) fun e=>gC (ix ((l.set q.toNat u).set z.toNat v) z) fun j=>gC (ix B e) fun c=>gC (ix (B.set e.toNat (⟨c.item,c.key,c.time,q⟩:e8)) j) fun h=>some ((l.set q.toNat u).set z.toNat v,(B.set e.toNat (⟨c.item,c.key,c.time,q⟩:e8)).set j.toNat (⟨h.item,h.key,h.time,z⟩:e8))
abbrev ae0(c:Int)(nv:Int)(time:Int)(l:Li)(e:List (Int×Int))(h:List e8):c9:=[.one (.cells 3 [[.own 1 0 (hY l),.map 2,int time]]),.one (prow 3 l),.one (pmap 3 (Value.int .u32) e),pool 4 d9 h]
def v8(nv:Int):(Li×(List e8)×Int)->Option ((Li×(List e8)×Int)⊕(Li×(List e8)×Int)):=fun(c60,c61,iv62)=>if((decide (nv<=w64 ((w64 (2 * iv62))+1)))||(decide (w64 ((w64 (2 * iv62))+1)<0)))=true then some (.inr (c60,c61,iv62)) else gC (gC (if w64 ((w64 ((w64 (2 * iv62))+1))+1)<nv then gC (n8 (w64 ((w64 ((w64 (2 * iv62))+1))+1)) (w64 ((w64 (2 * iv62))+1)) c60 c61) fun a32=>some a32 else some false) fun t69=>if t69=true then some (w64 ((w64 ((w64 (2 * iv62))+1))+1)) else some (w64 ((w64 (2 * iv62))+1))) fun j67=>gC (n8 j67 iv62 c60 c61) fun a38=>if(!a38)=true then some (.inr (c60,c61,iv62)) else gC (p9 iv62 j67 c60 c61) fun a43=>gC (N8 c60 a43.1) fun u74=>some (.inl (a43.1,a43.2,j67))
noncomputable def x5(c:Int)(nv:Int)(time:Int)(l:Li)(u:List (Int×Int))(q:List e8):Option (Li×(List e8)×Bool):=gC (Loop (v8 nv) (l,q,c)) fun⟨h,j,e⟩=>some (h,j,decide (c<e))
abbrev ag1(j:Int)(time:Int)(l:Li)(c:List (Int×Int))(e:List e8):c9:=[.one (.cells 3 [[.own 1 0 (hY l),.map 2,int time]]),.one (prow 3 l),.one (pmap 3 (Value.int .u32) c),pool 4 d9 e]
def D1:(Li×(List e8)×Int)->Option ((Li×(List e8)×Int)⊕(Li×(List e8))):=fun(c58,c59,j60)=>gC (chkN 2) fun u7=>gC (if w64 ((w64 (j60 - 1)).tdiv 2)=j60 then some true else gC (n8 j60 (w64 ((w64 (j60 - 1)).tdiv 2)) c58 c59) fun a15=>some (!a15)) fun t63=>if t63=true then some (.inr (c58,c59)) else gC (p9 (w64 ((w64 (j60 - 1)).tdiv 2)) j60 c58 c59) fun a21=>gC (N8 c58 a21.1) fun u67=>some (.inl (a21.1,a21.2,w64 ((w64 (j60 - 1)).tdiv 2)))
noncomputable def B5(j:Int)(time:Int)(l:Li)(q:List (Int×Int))(h:List e8):Option (Li×(List e8)):=gC (Loop D1 (l,h,j)) fun⟨c,e⟩=>some (c,e)
abbrev au6(h:Int)(time:Int)(l:Li)(c:List (Int×Int))(e:List e8):c9:=[.one (.cells 3 [[.own 1 0 (hY l),.map 2,int time]]),.one (prow 3 l),.one (pmap 3 (Value.int .u32) c),pool 4 d9 e]
noncomputable def C5(iv:Int)(time:Int)(l:Li)(l4:List (Int×Int))(l5:List e8):Option (Li×(List e8)):=gC (q9 l l5) fun a7=>gC (x5 iv (hY l:Int) time l l4 l5) fun a8=>if(!a8.2.2)=true then gC (B5 iv time a8.1 l4 a8.2.1) fun a12=>some (a12.1,a12.2) else some (a8.1,a8.2.1)
abbrev ai1(h:Int)(time:Int)(l:List e8)(c:Li)(e:List (Int×Int)):c9:=[.one (.cells 3 [[.own 2 0 (hY c),.map 3,int time]]),pool 4 d9 l,.one (prow 1 c),.one (pmap 1 (Value.int .u32) e)]
def B4(e:Int)(time:Int)(l:List e8)(j:Li)(q:List (Int×Int)):Option ((List e8)×Li):=gC (ix l e) fun c=>gC (app 8 j [e]) fun h=>some (l.set e.toNat (⟨c.item,c.key,c.time,(hY j:Int)⟩:e8),h)
abbrev at2(h:Int)(time:Int)(l:List e8)(c:Li)(e:List (Int×Int)):c9:=[.one (.cells 3 [[.own 2 0 (hY c),.map 3,int time]]),pool 4 d9 l,.one (prow 1 c),.one (pmap 1 (Value.int .u32) e)]
noncomputable def E7(j:Int)(time:Int)(l:List e8)(q:Li)(h:List (Int×Int)):Option ((List e8)×Li):=gC (B4 j time l q h) fun c=>gC (q9 c.2 c.1) fun u=>gC (B5 (w64 ((c.2.length:Int) - 1)) time c.2 h c.1) fun e=>some (e.2,e.1)
abbrev aj1(item:Int)(key:Int)(time:Int)(l:Li)(c:List (Int×Int))(e:List e8):c9:=[.one (.cells 3 [[.own 1 0 (hY l),.map 2,int time]]),.one (prow 3 l),.one (pmap 3 (Value.int .u32) c),pool 4 d9 e]
noncomputable def n9(item:Int)(key:Int)(time:Int)(l:Li)(j:List (Int×Int))(h:List e8):Option ((List (Int×Int))×Li×(List e8)):=if(gP (mget j item))=true then gC (mget j item) fun e=>gC (ix h e) fun c=>gC (C5 c.fat (w64 (time+1)) l j ((h.set e.toNat (⟨c.item,key,c.time,c.fat⟩:e8)).set e.toNat (⟨c.item,key,w64 (time+1),c.fat⟩:e8))) fun q=>some (j,q.1,q.2) else gC (chkH (hY h) (gJ (·.2) j)) fun v=>gC (chkH (hY h) l) fun u64=>gC (E7 (hY h:Int) (w64 (time+1)) (h++[(⟨item,key,w64 (time+1),0⟩:e8)]) l (mset j item (hY h:Int))) fun u=>some (mset j item (hY h:Int),u.2,u.1)
abbrev ak6(time:Int)(l:Li)(c:List (Int×Int))(e:List e8):c9:=[.one (.cells 3 [[.own 1 0 (hY l),.map 2,int time]]),.one (prow 3 l),.one (pmap 3 (Value.int .u32) c),pool 4 d9 e]
def A6(time:Int)(l:Li)(c:List (Int×Int))(e:List e8):Option Unit:=some ()
abbrev aj3(time:Int)(l:Li)(c:List (Int×Int))(e:List e8):c9:=[.one (.cells 3 [[.own 1 0 (hY l),.map 2,int time]]),.one (prow 3 l),.one (pmap 3 (Value.int .u32) c),pool 4 d9 e]
def B9(time:Int)(l:Li)(h:List (Int×Int))(j:List e8):Option (Li×Int):=gC (ix l ((hY l:Int) - 1)) fun c=>gC (subL l 0 ((hY l:Int) - 1)) fun e=>some (e,c)
abbrev at7(time:Int)(l:Li)(c:List (Int×Int))(e:List e8):c9:=[.one (.cells 3 [[.own 1 0 (hY l),.map 2,int time]]),.one (prow 3 l),.one (pmap 3 (Value.int .u32) c),pool 4 d9 e]
noncomputable def C8(time:Int)(l:Li)(j:List (Int×Int))(q:List e8):Option ((List e8)×Li×Int):=gC (q9 l q) fun v=>gC (p9 0 (w64 ((hY l:Int) - 1)) l q) fun h=>gC (N8 l h.1) fun u=>gC (x5 0 (w64 ((hY l:Int) - 1)) time h.1 j h.2) fun c=>gC (B9 time c.1 j c.2.1) fun e=>some (c.2.1,e.1,e.2)
abbrev ai2(time:Int)(l:Li)(c:List (Int×Int))(e:List e8):c9:=[.one (.cells 3 [[.own 1 0 (hY l),.map 2,int time]]),.one (prow 3 l),.one (pmap 3 (Value.int .u32) c),pool 4 d9 e]
noncomputable def u5(time:Int)(l:Li)(h:List (Int×Int))(j:List e8):Option ((List (Int×Int))×(List e8)×Li×Int×Int×Bool):=if(hY l:Int)=0 then some (h,j,l,0,0,false) else gC (C8 time l h j) fun e=>gC (ix e.1 e.2.2) fun c=>some (mdel h c.item,e.1,e.2.1,c.item,c.key,true)
abbrev ap3(l:Li)(start:Int)(goal:Int)(c:List k8):c9:=[.one (.cells 3 [[.imm (.val (.int .u32 start)),.imm (.val (.int .u32 goal)),.own 1 0 (hY c)]]),.one (vec 4 f5 c)]
def X4(q:List k8)(e:Int):Int->(List (Int×List A9))->Option (List (Int×List A9)):=fun t73 h=>gC (ix q t73) fun c=>if Go.bits .and .u32 e c.pre=c.pre then gC (app 16 (rowM h (Go.bits .or .u32 (Go.bits .andNot .u32 e c.del) c.add)) [(⟨e,c.cost⟩:A9)]) fun j=>some (mset h (Go.bits .or .u32 (Go.bits .andNot .u32 e c.del) c.add) j) else some h
def X0(j:List k8)(c:List (Int×List A9))(e:Int):Option (List (Int×List A9)):=(gC (forR 0 (hY j:Int) (X4 j e) c) fun h=>some h)
noncomputable def Q5(l:Li)(start:Int)(goal:Int)(z:List k8):Int->((List (Int×List A9))×(List (Int×Int))×(List (Int×Int))×(List e8)×Int×Li)->Option ((List (Int×List A9))×(List (Int×Int))×(List (Int×Int))×(List e8)×Int×Li):=fun t62 (B,j,q,u,e,v)=>gC (ix l t62) fun c=>gC (gC (G7 c start goal z) fun aa=>if Go.bits .and .u32 c goal=goal then gC (n9 c 0 e v q u) fun h=>some (mset (mset j c 1000000000) c 0,h.1,w64 (e+1),h.2.1,h.2.2) else some (mset j c 1000000000,q,e,v,u)) fun⟨E,F,J,N,O⟩=>gC (B6 c start goal z) fun ab=>gC (X0 z B c) fun U=>some (U,E,F,O,J,N)
noncomputable def Q4(B:List (Int×List A9))(e:(List (Int×Int))×(List e8)×Li×Int×Int×Bool):Int->((List (Int×Int))×(List (Int×Int))×(List e8)×Int×Li)->Option ((List (Int×Int))×(List (Int×Int))×(List e8)×Int×Li):=fun t87 (h,u,v,j,z)=>gC (gC (ix (rowM B e.2.2.2.1) t87) fun c=>if w64 (e.2.2.2.2.1+c.cost)<gD (mget h c.ffrom) 0 then gC (n9 c.ffrom (w64 (e.2.2.2.2.1+c.cost)) j z u v) fun q=>some (mset h c.ffrom (w64 (e.2.2.2.2.1+c.cost)),q.1,w64 (j+1),q.2.1,q.2.2) else some (h,u,j,z,v)) fun⟨E,F,J,N,O⟩=>some (E,F,O,J,N)
noncomputable def Q3(j:List (Int×List A9)):((List (Int×Int))×(List (Int×Int))×(List e8)×Int×Li)->Option (((List (Int×Int))×(List (Int×Int))×(List e8)×Int×Li)⊕(List (Int×Int))):=fun(q,u,v,e,h)=>gC (A6 e h u v) fun N=>if 0<(hY h:Int) then gC (u5 e h u v) fun c=>(gC (forR 0 ((rowM j c.2.2.2.1).length:Int) (Q4 j c) (q,c.1,c.2.1,e,c.2.2.1)) fun⟨z,B,E,F,J⟩=>some (.inl (z,B,E,F,J))) else some (.inr q)
noncomputable def M7(l:Li)(start:Int)(goal:Int)(z:List k8):Option (List (Int×Int)):=gC (E8) fun B=>(gC (forR 0 (hY l:Int) (Q5 l start goal z) (([]:List (Int×List A9)),([]:List (Int×Int)),([]:List (Int×Int)),([]:List e8),0,([]:Li))) fun⟨c,e,h,j,q,u⟩=>gC (Loop (Q3 c) (e,h,j,q,u)) fun v=>some v)
noncomputable def P9(t:i4):Option (Int×TFault):=gC (D5 t) fun| .inl c=>if(!((decide (c.1=0)) && (decide (c.2=0))))=true then some (0,(⟨c.1,c.2⟩:TFault)) else none| .inr c=>if(!((decide (0=0)) && (decide (0=0))))=true then some (0,(⟨0,0⟩:TFault)) else gC (M7 c.2.2.2 c.1 c.2.1 c.2.2.1) fun e=>gC (x8 c.1 c.2.1 c.2.2.1) fun h=>some (gD (mget e c.1) 0,(⟨0,0⟩:TFault))
def af5:Option i4:=some (⟨1,[],[0],[(⟨[],[0],[],2⟩:j7)]⟩:i4)
noncomputable def M6(t:i4)(unknown:Li):Option TFault:=gC (y4 t) fun a7=>if(!((decide (a7.code=0)) && (decide (a7.index=0))))=true then some a7 else if 4<(hY unknown:Int) then some (⟨2, -8⟩:TFault) else gC (F1 unknown t.facts) fun a21=>if(!a21)=true then some (⟨5, -8⟩:TFault) else some (⟨0,0⟩:TFault)
noncomputable def ag7(sv:Li)(c2:Li):Option Bool:=gC (J4 sv c2) fun a6=>some (!a6)
def I6(h:LL)(fv:Li->Option Bool):Int->Unit->Option (Unit⊕Int):=fun t3 _=>gC (ix h t3) fun c=>gC (fv c) fun e=>if e=true then some (.inr t3) else some (.inl ())
def N4(c:LL)(fv:Li->Option Bool):Option Int:=(gC (rngX 0 (hY c:Int) (I6 c fv) ()) fun| .inl _=>some (-1)| .inr x=>some x)
def E4(c:LL)(fv:Li->Option Bool):Option Bool:=gC (N4 c fv) fun e=>some (decide (0<=e))
noncomputable def R5(worlds:LL)(facts:Li):Option Bool:=gC (E4 worlds (fun y1=>ag7 y1 facts)) fun a7=>some (!a7)
noncomputable def ab4(t:i4)(h:Li)(op:Int):Option Li:=gC (ix t.operators op) fun c=>gC (K9 h c.add c.del) fun e=>some e
def T7(c:Li)(e:Li):Int->Unit->Option (Unit⊕Bool):=fun t4 _=>gC (ix c t4) fun h=>gC (ix e t4) fun j=>if h=j then some (.inl ()) else some (.inr false)
def F9(c:Li)(e:Li):Option Bool:=if(hY c:Int)=(hY e:Int) then(gC (rngX 0 (hY c:Int) (T7 c e) ()) fun| .inl _=>some true| .inr x=>some x) else some false
abbrev J0(l:LL):c9:=[.one (vec 1 j8 l)]
def A8(l:LL)(kv54:Int):Int->((LL)×Int)->Option ((LL)×Int):=fun k258 (c56,kv57)=>gC (gC (ixV c56 (0+kv54) ((hY l:Int) - kv54) k258) fun a41=>gC (ixV c56 (0+kv54) ((hY l:Int) - kv54) (k258 - 1)) fun a46=>gC (F9 a41 a46) fun a48=>if(!a48)=true then gC (ixV c56 (0+kv54) ((hY l:Int) - kv54) k258) fun a54=>gC (ix c56 kv57) fun a56=>some (c56.set kv57.toNat a54,w64 (kv57+1)) else some (c56,kv57)) fun⟨c59,kv60⟩=>some (c59,kv60)
def y8(l:LL):Int->Unit->Option (Unit⊕(LL)):=fun e _=>gC (ix l e) fun j=>gC (ix l (e - 1)) fun q=>gC (F9 j q) fun u=>if u=true then gC (cutV (hY l:Int) e (hY l:Int)) fun v=>(gC (forR 1 ((hY l:Int) - e) (A8 l e) (l,e)) fun⟨h,c⟩=>gC (cutV (hY h:Int) c (hY h:Int)) fun z=>gC (cutV ((clrL h (0+c) ((hY h:Int) - c) []).length:Int) 0 c) fun u64=>some (.inr (m7 (clrL h (0+c) ((hY h:Int) - c) []) 0 c))) else some (.inl ())
def B8(l:LL):Option (LL):=if(hY l:Int)<2 then some l else(gC (rngX 1 (hY l:Int) (y8 l) ()) fun| .inl _=>some l| .inr x=>some x)
abbrev aA7(l:LL):c9:=[.one (vec 1 j8 l)]
def P7(l:LL):Option (LL):=gC (sortLL l) fun c=>gC (B8 c) fun e=>some e
noncomputable def V7(t:i4)(c:LL)(op:Int):Int->(LL)->Option (LL):=fun t5 q=>gC (ix c t5) fun e=>gC (ab4 t e op) fun h=>gC (app 24 q [h]) fun j=>some j
noncomputable def N9(t:i4)(c:LL)(op:Int):Option (LL):=(gC (forR 0 (hY c:Int) (V7 t c op) []) fun h=>gC (P7 h) fun e=>some e)
abbrev av5(t:i4)(c:LL):c9:=[]
def M5(t:i4)(c:LL):Option Unit:=some ()
def ah9(c:Li)(t4:Int):Int->Li->Option Li:=fun t6 j=>gC (gC (ix c t6) fun e=>if Go.bits .and .i64 (shrW .i64 t4 t6) 1=1 then gC (app 8 j [e]) fun h=>some h else some j) fun q=>some q
noncomputable def S7(t:i4)(c:Li):Int->(LL)->Option (LL):=fun t4 j=>(gC (forR 0 (hY c:Int) (ah9 c t4) []) fun q=>gC (K9 t.init q c) fun e=>gC (app 24 j [e]) fun h=>some h)
noncomputable def T8(t:i4)(c:Li):Option (LL):=gC (chk0 (hY c:Int)) fun h=>if shlW .i64 1 (hY c:Int)<=9223372036854775807 then(gC (forR 0 (shlW .i64 1 (hY c:Int)) (S7 t c) []) fun j=>gC (P7 j) fun e=>some e) else none
def U7(v:LL):Option Bool:=some false
def internal_strconv_small(c:Int):Option ByteArray:=if c<10 then gC (subS (⟨#[48,49,50,51,52,53,54,55,56,57,97,98,99,100,101,102,103,104,105,106,107,108,109,110,111,112,113,114,115,116,117,118,119,120,121,122]⟩:ByteArray) c (w64 (c+1))) fun h=>some h else gC (subS (⟨#[48,48,48,49,48,50,48,51,48,52,48,53,48,54,48,55,48,56,48,57,49,48,49,49,49,50,49,51,49,52,49,53,49,54,49,55,49,56,49,57,50,48,50,49,50,50,50,51,50,52,50,53,50,54,50,55,50,56,50,57,51,48,51,49,51,50,51,51,51,52,51,53,51,54,51,55,51,56,51,57,52,48,52,49,52,50,52,51,52,52,52,53,52,54,52,55,52,56,52,57,53,48,53,49,53,50,53,51,53,52,53,53,53,54,53,55,53,56,53,57,54,48,54,49,54,50,54,51,54,52,54,53,54,54,54,55,54,56,54,57,55,48,55,49,55,50,55,51,55,52,55,53,55,54,55,55,55,56,55,57,56,48,56,49,56,50,56,51,56,52,56,53,56,54,56,55,56,56,56,57,57,48,57,49,57,50,57,51,57,52,57,53,57,54,57,55,57,56,57,57]⟩:ByteArray) (w64 (c * 2)) (w64 ((w64 (c * 2))+2))) fun e=>some e
abbrev ag2(c:Int)(base:Int)(l:Li):c9:=[.one (vec 1 eU8 l)]
def D3(h:Int)(base:Int)(l:Li):Option Li:=if base=10 then if h<100 then gC (internal_strconv_small (w64 h)) fun c=>gC (app 1 l (strL c)) fun e=>some e else none else none
abbrev ah4(c:Int)(base:Int)(l:Li):c9:=[.one (vec 1 eU8 l)]
def F0(e:Int)(base:Int)(l:Li):Option Li:=gC (if e<0 then none else some ()) fun _=>gC (D3 ((IntKind.u64).wrap e) base l) fun c=>some c
abbrev au5(c:Int)(base:Int)(l:Li):c9:=[.one (vec 1 eU8 l)]
def G0(e:Int)(base:Int)(l:Li):Option Li:=gC (F0 e base l) fun c=>some c
def ao9(c:Li):Int->Li->Option Li:=fun t5 q=>gC (ix c t5) fun e=>gC (G0 e 10 q) fun h=>gC (app 1 h [44]) fun j=>some j
def ap2(l:LL):Int->Li->Option Li:=fun t3 h=>gC (ix l t3) fun c=>(gC (forR 0 (hY c:Int) (ao9 c) h) fun j=>gC (app 1 j [59]) fun e=>some e)
def D9(l:LL):Option ByteArray:=(gC (forR 0 (hY l:Int) (ap2 l) []) fun c=>some (strB c))
noncomputable def P8(w:LL)(c:i4):Option Bool:=gC (R5 w c.goal) fun e=>some e
abbrev aD0(t:i4):c9:=[]
def T9(t:i4):Option Unit:=some ()
abbrev aB9(q:LL)(e:Int)(h:Li)(j:Li)(c:List j7):c9:=[.one (.cells 4 [[int e,row 1 intI h,row 1 intI j,row 4 n7 c]])]
def O7(e:LL)(h:Int)(j:Li)(q:Li)(c:List j7):Option Unit:=gC (M5 (⟨h,j,q,c⟩:i4) e) fun u=>some ()
abbrev L4(start:LL)(e:Int)(h:Li)(j:Li)(c:List j7):c9:=[.one (.cells 4 [[int e,row 1 intI h,row 1 intI j,row 4 n7 c]])]
def af3(e:List i5):(Li×Int)->Option ((Li×Int)⊕Li):=fun(h,c)=>gC (ix e c) fun j=>if 0<=j.ffrom then gC (ix e c) fun q=>gC (app 8 h [q.step]) fun u=>gC (ix e c) fun v=>some (.inl (u,v.ffrom)) else some (.inr h)
noncomputable def L3(u:Int)(v:Li)(z:Li)(c:List j7)(N:Int)(B:i5):Int->((List (ByteArray×Int))×(List i5))->Option (((List (ByteArray×Int))×(List i5))⊕(((List (ByteArray×Int))×(List i5))⊕((List (ByteArray×Int))×(List i5)))):=fun t75 (e,h)=>gC (ix c t75) fun E=>gC (R5 B.node E.pre) fun F=>if F=true then gC (N9 (⟨u,v,z,c⟩:i4) B.node t75) fun j=>gC (D9 j) fun q=>if 0<gD (mget e q) 0 then some (.inl (e,h)) else if(hY h:Int)=2000 then some (.inr (.inr (e,h))) else gC (app 40 h [(⟨j,N,t75⟩:i5)]) fun J=>some (.inl (mset e q 1,J)) else some (.inl (e,h))
noncomputable def G1(e:Int)(h:Li)(j:Li)(c:List j7)(q:List i5)(u:List (ByteArray×Int))(v:Int)(z:i5):Option (((List (ByteArray×Int))×(List i5))⊕((List (ByteArray×Int))×(List i5))):=(gC (rngX 0 (hY c:Int) (L3 e h j c v z) (u,q)) fun| .inl (B,E)=>some (.inl (B,E))| .inr x=>some x)
noncomputable def L9(h:Int)(q:Li)(u:Li)(c:List j7):((List i5)×(List (ByteArray×Int))×Int)->Option (((List i5)×(List (ByteArray×Int))×Int)⊕(Unit⊕(Li×Bool×Bool))):=fun(j,z,e)=>if e<(hY j:Int) then gC (ix j e) fun B=>gC (U7 B.node) fun E=>if E=true then gC (Loop (af3 j) ([],e)) fun F=>some (.inr (.inr (F.reverse,true,true))) else gC (ix j e) fun v=>gC (O7 v.node h q u c) fun O=>gC (G1 h q u c j z e v) fun| .inl (J,N)=>some (.inl (N,J,w64 (e+1)))| .inr (U,aa)=>some (.inr (.inr ([],false,false))) else some (.inr (.inl ()))
noncomputable def R1(start:LL)(e:Int)(h:Li)(j:Li)(c:List j7):Option (Li×Bool×Bool):=gC (D9 start) fun q=>gC (Loop (L9 e h j c) ([(⟨start, -1,0⟩:i5)],mset ([]:List (ByteArray×Int)) q 1,0)) fun| .inl _=>some ([],false,true)| .inr x=>some x
abbrev ax0(start:LL)(e:Int)(h:Li)(j:Li)(c:List j7):c9:=[.one (.cells 4 [[int e,row 1 intI h,row 1 intI j,row 4 n7 c]])]
noncomputable def C2(start:LL)(e:Int)(h:Li)(j:Li)(c:List j7):Option Bool:=gC (R1 start e h j c) fun q=>some q.2.2
abbrev J3(start:LL)(j:Int)(v:Li)(z:Li)(e:List j7)(h:Int)(q:Li)(u:Li)(c:List j7):c9:=[.one (.cells 4 [[int j,row 1 intI v,row 1 intI z,row 4 n7 e]]),.one (.cells 4 [[int h,row 1 intI q,row 1 intI u,row 4 n7 c]])]
def F4(e:List i5):(Li×Int)->Option ((Li×Int)⊕Li):=fun(h,c)=>gC (ix e c) fun j=>if 0<=j.ffrom then gC (ix e c) fun q=>gC (app 8 h [q.step]) fun u=>gC (ix e c) fun v=>some (.inl (u,v.ffrom)) else some (.inr h)
noncomputable def C0(u:Int)(v:Li)(z:Li)(c:List j7)(N:Int)(B:i5):Int->((List (ByteArray×Int))×(List i5))->Option (((List (ByteArray×Int))×(List i5))⊕(((List (ByteArray×Int))×(List i5))⊕((List (ByteArray×Int))×(List i5)))):=fun t79 (e,h)=>gC (ix c t79) fun E=>gC (R5 B.node E.pre) fun F=>if F=true then gC (N9 (⟨u,v,z,c⟩:i4) B.node t79) fun j=>gC (D9 j) fun q=>if 0<gD (mget e q) 0 then some (.inl (e,h)) else if(hY h:Int)=2000 then some (.inr (.inr (e,h))) else gC (app 40 h [(⟨j,N,t79⟩:i5)]) fun J=>some (.inl (mset e q 1,J)) else some (.inl (e,h))
noncomputable def J7(e:Int)(h:Li)(j:Li)(c:List j7)(q:List i5)(u:List (ByteArray×Int))(v:Int)(z:i5):Option (((List (ByteArray×Int))×(List i5))⊕((List (ByteArray×Int))×(List i5))):=(gC (rngX 0 (hY c:Int) (C0 e h j c v z) (u,q)) fun| .inl (B,E)=>some (.inl (B,E))| .inr x=>some x)
noncomputable def B7(j:Int)(v:Li)(z:Li)(c:List j7)(u:Int)(B:Li)(E:Li)(e:List j7):((List i5)×(List (ByteArray×Int))×Int)->Option (((List i5)×(List (ByteArray×Int))×Int)⊕(Unit⊕(Li×Bool×Bool))):=fun(q,J,h)=>if h<(hY q:Int) then gC (ix q h) fun N=>gC (P8 N.node (⟨u,B,E,e⟩:i4)) fun O=>if O=true then gC (Loop (F4 q) ([],h)) fun U=>some (.inr (.inr (U.reverse,true,true))) else gC (ix q h) fun F=>gC (O7 F.node j v z c) fun ac=>gC (J7 j v z c q J h F) fun| .inl (aa,ab)=>some (.inl (ab,aa,w64 (h+1)))| .inr (ad,ai)=>some (.inr (.inr ([],false,false))) else some (.inr (.inl ()))
noncomputable def I1(start:LL)(j:Int)(v:Li)(z:Li)(e:List j7)(h:Int)(q:Li)(u:Li)(c:List j7):Option (Li×Bool×Bool):=gC (D9 start) fun B=>gC (Loop (B7 j v z e h q u c) ([(⟨start, -1,0⟩:i5)],mset ([]:List (ByteArray×Int)) B 1,0)) fun| .inl _=>some ([],false,true)| .inr x=>some x
noncomputable def ag3(t:i4)(unknown:Li):Option (Li×Bool×TFault):=gC (M6 t unknown) fun a14=>if(!((decide (a14.code=0)) && (decide (a14.index=0))))=true then some ([],false,a14) else gC (T9 t) fun a20=>gC (T8 t unknown) fun a23=>gC (C2 a23 t.facts t.init t.goal t.operators) fun a25=>if(!a25)=true then some ([],false,(⟨10, -7⟩:TFault)) else gC (T8 t unknown) fun a31=>gC (I1 a31 t.facts t.init t.goal t.operators t.facts t.init t.goal t.operators) fun a34=>if 60<(a34.1.length:Int) then some ([],false,(⟨10, -5⟩:TFault)) else some (a34.1,a34.2.1,(⟨0,0⟩:TFault))
noncomputable def af1(t:i4)(op:Int):Option TFault:=gC (y4 t) fun c=>if(!((decide (c.code=0)) && (decide (c.index=0))))=true then some c else if((decide (op<0))||(decide ((hY t.operators:Int)<=op)))=true then some (⟨3, -6⟩:TFault) else some (⟨0,0⟩:TFault)
noncomputable def aa0(t:i4)(op:Int):Option TFault:=gC (y4 t) fun c=>if(!((decide (c.code=0)) && (decide (c.index=0))))=true then some c else if((decide (op<0))||(decide ((hY t.operators:Int)<=op)))=true then some (⟨3, -6⟩:TFault) else some (⟨0,0⟩:TFault)
abbrev aA4(t:i4):c9:=[]
noncomputable def an7(t:i4):Int->(List j7)->Option (List j7):=fun t56 e=>gC (ix t.operators t56) fun c=>gC (C6 c.pre) fun h=>gC (C6 c.add) fun j=>gC (C6 c.del) fun q=>gC (app 80 e [(⟨h,j,q,c.cost⟩:j7)]) fun u=>some u
noncomputable def ak4(t:i4):Option (Li×Li×(List j7)):=gC (C6 t.init) fun c=>gC (C6 t.goal) fun e=>(gC (forR 0 (hY t.operators:Int) (an7 t) ([]:List j7)) fun h=>some (c,e,h))
noncomputable def ab6(t:i4)(op:Int):Option (i4×TFault):=gC (aa0 t op) fun h=>if(!((decide (h.code=0)) && (decide (h.index=0))))=true then some ((⟨0,[],[],[]⟩:i4),h) else if t.facts=24 then some ((⟨0,[],[],[]⟩:i4),(⟨10, -8⟩:TFault)) else gC (ak4 t) fun c=>gC (ix c.2.2 op) fun e=>gC (app 8 c.2.1 [t.facts]) fun j=>gC (app 8 e.add [t.facts]) fun q=>some ((⟨w64 (t.facts+1),c.1,j,c.2.2.set op.toNat (⟨e.pre,q,e.del,e.cost⟩:j7)⟩:i4),(⟨0,0⟩:TFault))
noncomputable def ab1(t:i4)(op:Int):Option (Int×TFault):=gC (af1 t op) fun e=>if(!((decide (e.code=0)) && (decide (e.index=0))))=true then some (0,e) else gC (ab6 t op) fun c=>if(!((decide (c.2.code=0)) && (decide (c.2.index=0))))=true then some (0,c.2) else gC (P9 c.1) fun h=>some (h.1,h.2)
def at5(j:Li)(q:Li):Int->Unit->Option (Unit⊕Bool):=fun c _=>gC (ix j c) fun e=>gC (ix q c) fun h=>if e=h then some (.inl ()) else some (.inr false)
def aj0(c:Li)(e:Li):Option Bool:=if(hY c:Int)=(hY e:Int) then(gC (rngX 0 (hY c:Int) (at5 c e) ()) fun| .inl _=>some true| .inr x=>some x) else some false
noncomputable def U0:Option Bool:=gC (af5) fun q=>gC (ag3 q []) fun e=>gC (af5) fun h=>gC (ab1 h 0) fun c=>gC (if e.2.2.code=0 then if c.2.code=0 then if e.2.1=true then gC (aj0 e.1 [0]) fun j=>if j=true then some (decide (c.1=2)) else some false else some false else some false else some false) fun t1=>some t1
def H8(t:i4)(goals:LL):Int->Unit->Option (Unit⊕TFault):=fun t6 _=>gC (ix goals t6) fun a32=>gC (F1 a32 t.facts) fun a37=>if(!a37)=true then some (.inr (⟨5,w64 ((-10) - t6)⟩:TFault)) else some (.inl ())
def U9(t:i4)(c:Li):Int->Unit->Option (Unit⊕TFault):=fun t9 _=>gC (ix c t9) fun e=>if((decide (e<0))||(decide ((hY t.operators:Int)<=e)))=true then some (.inr (⟨3, -6⟩:TFault)) else some (.inl ())
noncomputable def U8(t:i4)(goals:LL)(observed:Li):Option TFault:=gC (y4 t) fun a13=>if(!((decide (a13.code=0)) && (decide (a13.index=0))))=true then some a13 else if((decide ((hY goals:Int)=0))||(decide (4<(hY goals:Int))))=true then some (⟨9, -8⟩:TFault) else(gC (rngX 0 (hY goals:Int) (H8 t goals) ()) fun| .inl _=>if 8<(hY observed:Int) then some (⟨2, -5⟩:TFault) else(gC (rngX 0 (hY observed:Int) (U9 t observed) ()) fun| .inl _=>gC (T9 t) fun a68=>gC (C2 [t.init] t.facts t.init t.goal t.operators) fun a69=>if(!a69)=true then some (⟨10, -7⟩:TFault) else some (⟨0,0⟩:TFault)| .inr x=>some x)| .inr x=>some x)
def N3(l:List h9):Option Int:=some (hY l:Int)
noncomputable def ak3(t:i4)(h:Li)(op:Int):Option Bool:=gC (ix t.operators op) fun c=>gC (J4 h c.pre) fun e=>some e
abbrev ao7(l:List h9):c9:=[.one (vec 4 f9 l)]
def C1(l:List h9):Option Unit:=some ()
abbrev am4(c:Int)(e:Int)(l:List h9):c9:=[.one (vec 4 f9 l)]
def A0(e:Int)(h:Int)(l:List h9):Option (List h9):=gC (ix l h) fun c=>gC (ix l e) fun j=>gC (ix l e) fun q=>gC (ix (l.set e.toNat c) h) fun u=>some ((l.set e.toNat c).set h.toNat j)
abbrev am7(c:Int)(e:Int)(l:List h9):c9:=[.one (vec 4 f9 l)]
def x9(c:Int)(e:Int)(l:List h9):Option Bool:=gC (gC (ix l c) fun z=>gC (ix l e) fun h=>if z.cost<h.cost then some true else gC (ix l c) fun j=>gC (ix l e) fun q=>if j.cost=q.cost then gC (ix l c) fun u=>gC (ix l e) fun v=>some (decide (u.sequence<v.sequence)) else some false) fun t55=>some t55
abbrev ac4(c:Int)(nv:Int)(l:List h9):c9:=[.one (.cells 1 [[.own 1 0 (hY l)]]),.one (vec 4 f9 l)]
def I4(nv:Int):((List h9)×Int)->Option (((List h9)×Int)⊕((List h9)×Int)):=fun(c56,iv57)=>if((decide (nv<=w64 ((w64 (2 * iv57))+1)))||(decide (w64 ((w64 (2 * iv57))+1)<0)))=true then some (.inr (c56,iv57)) else gC (gC (if w64 ((w64 ((w64 (2 * iv57))+1))+1)<nv then gC (x9 (w64 ((w64 ((w64 (2 * iv57))+1))+1)) (w64 ((w64 (2 * iv57))+1)) c56) fun a32=>some a32 else some false) fun t63=>if t63=true then some (w64 ((w64 ((w64 (2 * iv57))+1))+1)) else some (w64 ((w64 (2 * iv57))+1))) fun j61=>gC (x9 j61 iv57 c56) fun a38=>if(!a38)=true then some (.inr (c56,iv57)) else gC (A0 iv57 j61 c56) fun a43=>gC (N8 c56 a43) fun u68=>some (.inl (a43,j61))
noncomputable def G9(c:Int)(nv:Int)(l:List h9):Option ((List h9)×Bool):=gC (Loop (I4 nv) (l,c)) fun⟨h,e⟩=>some (h,decide (c<e))
abbrev am6(l:List h9):c9:=[.one (.cells 1 [[.own 1 0 (hY l)]]),.one (vec 4 f9 l)]
def I2(l:List h9):Option h9:=gC (ix l (w64 ((hY l:Int) - 1))) fun c=>gC (cutV (hY l:Int) 0 (w64 ((hY l:Int) - 1))) fun e=>some c
abbrev as0(l:List h9):c9:=[.one (.cells 1 [[.own 1 0 (hY l)]]),.one (vec 4 f9 l)]
noncomputable def H6(l:List h9):Option ((List h9)×h9):=gC (C1 l) fun q=>gC (A0 0 (w64 ((hY l:Int) - 1)) l) fun h=>gC (N8 l h) fun j=>gC (G9 0 (w64 ((hY l:Int) - 1)) h) fun c=>gC (I2 c.1) fun e=>some (m7 c.1 0 (w64 ((c.1.length:Int) - 1)),e)
abbrev aw1(t:i4)(c:Li):c9:=[]
def T2(t:i4)(c:Li):Option Unit:=some ()
abbrev am2(c:h9)(l:List h9):c9:=[.one (.cells 1 [[.own 1 0 (hY l)]]),.one (vec 4 f9 l)]
def I3(e:h9)(l:List h9):Option (List h9):=gC (app 48 l [e]) fun c=>some c
abbrev af2(j:Int)(l:List h9):c9:=[.one (.cells 1 [[.own 1 0 (hY l)]]),.one (vec 4 f9 l)]
def L8:((List h9)×Int)->Option (((List h9)×Int)⊕(List h9)):=fun(c54,j55)=>gC (chkN 2) fun u7=>gC (if w64 ((w64 (j55 - 1)).tdiv 2)=j55 then some true else gC (x9 j55 (w64 ((w64 (j55 - 1)).tdiv 2)) c54) fun a15=>some (!a15)) fun t57=>if t57=true then some (.inr c54) else gC (A0 (w64 ((w64 (j55 - 1)).tdiv 2)) j55 c54) fun a21=>gC (N8 c54 a21) fun u61=>some (.inl (a21,w64 ((w64 (j55 - 1)).tdiv 2)))
noncomputable def J6(j:Int)(l:List h9):Option (List h9):=gC (Loop L8 (l,j)) fun c=>some c
abbrev aq2(c:h9)(l:List h9):c9:=[.one (.cells 1 [[.own 1 0 (hY l)]]),.one (vec 4 f9 l)]
noncomputable def D0(h:h9)(l:List h9):Option (List h9):=gC (I3 h l) fun c=>gC (C1 c) fun j=>gC (J6 (w64 ((hY c:Int) - 1)) c) fun e=>some e
noncomputable def O0(goals:LL)(c:Li)(h:(List h9)×h9):Int->Li->Option Li:=fun t17 e=>gC (gC (ix goals t17) fun j=>gC (if h.2.seen=(hY c:Int) then gC (ix e t17) fun q=>if q=1000000000 then gC (J4 h.2.fs j) fun u=>some u else some false else some false) fun t20=>if t20=true then gC (ix e t17) fun z=>some (e.set t17.toNat h.2.cost) else some e) fun v=>some v
noncomputable def U5(t:i4)(c:Li)(e:(List h9)×h9):Int->(Int×(List h9))->Option (Int×(List h9)):=fun t30 (h,B)=>gC (ak3 t e.2.fs t30) fun E=>if E=true then gC (ab4 t e.2.fs t30) fun q=>gC (ix t.operators t30) fun u=>gC (D0 (⟨q,e.2.seen,w64 (e.2.cost+u.cost),h⟩:h9) B) fun j=>gC (if e.2.seen<(hY c:Int) then gC (ix c e.2.seen) fun v=>some (decide (v=t30)) else some false) fun t32=>if t32=true then gC (D0 (⟨q,w64 (e.2.seen+1),w64 (e.2.cost+u.cost),h⟩:h9) j) fun z=>some (w64 (h+1),z) else some (w64 (h+1),j) else some (h,B)
noncomputable def W8(t:i4)(c:Li)(q:Int)(e:(List h9)×h9):Option (Int×(List h9)):=(gC (forR 0 (hY t.operators:Int) (U5 t c e) (q,e.1)) fun⟨h,j⟩=>some (h,j))
noncomputable def W2(t:i4)(goals:LL)(c:Li):(Li×(List h9)×(List (ByteArray×Int))×Int)->Option ((Li×(List h9)×(List (ByteArray×Int))×Int)⊕Li):=fun(j,O,q,U)=>gC (N3 O) fun u=>if 0<u then gC (gC (H6 O) fun e=>gC (D9 ([e.2.fs,[e.2.seen]])) fun h=>if 0<gD (mget q h) 0 then some (j,q,U,e.1) else(gC (forR 0 (hY goals:Int) (O0 goals c e) j) fun v=>gC (T2 t e.2.fs) fun aa=>gC (W8 t c U e) fun⟨z,B⟩=>some (v,mset q h 1,z,B))) fun⟨E,F,J,N⟩=>some (.inl (E,N,F,J)) else some (.inr j)
noncomputable def O9(t:i4)(goals:LL)(c:Li):Option Li:=gC (I0 [1000000000] (hY goals:Int)) fun e=>gC (Loop (W2 t goals c) (e,[(⟨t.init,0,0,0⟩:h9)],([]:List (ByteArray×Int)),1)) fun h=>some h
def V1(c:Li)(e:Li):Int->(List (Int×Int))->Option (List (Int×Int)):=fun t6 u=>gC (ix c t6) fun h=>gC (ix e t6) fun j=>gC (app 16 u [(h,j)]) fun q=>some q
noncomputable def K3(t:i4)(goals:LL)(c:Li):Option ((List (Int×Int))×TFault):=gC (U8 t goals c) fun e=>if(!((decide (e.code=0)) && (decide (e.index=0))))=true then some ([],e) else gC (O9 t goals c) fun h=>gC (O9 t goals []) fun j=>(gC (forR 0 (hY goals:Int) (V1 h j) []) fun q=>some (q,(⟨0,0⟩:TFault)))
def X2(a20:(List (Int×Int))×TFault):Int->Int->Option Int:=fun t6 least5=>gC (gC (ix a20.1 t6) fun a31=>if a31.1<1000000000 then some (min least5 (w64 (a31.1 - a31.2))) else some least5) fun least7=>some least7
def X3(j:(List (Int×Int))×TFault)(c:Int):Int->Li->Option Li:=fun t11 h=>gC (gC (ix j.1 t11) fun e=>if((decide (e.1<1000000000)) && (decide (w64 (e.1 - e.2)=c)))=true then gC (app 8 h [t11]) fun q=>some q else some h) fun u=>some u
noncomputable def S0(t:i4)(goals:LL)(e:Li):Option (Li×TFault):=gC (K3 t goals e) fun c=>if(!((decide (c.2.code=0)) && (decide (c.2.index=0))))=true then some ([],c.2) else(gC (forR 0 (c.1.length:Int) (X2 c) 1000000000) fun h=>(gC (forR 0 (c.1.length:Int) (X3 c h) []) fun j=>some (j,(⟨0,0⟩:TFault))))
abbrev ax5(t:i4):c9:=[]
def W5(t:i4):Option Unit:=some ()
abbrev aC5(t:i4)(c:Li):c9:=[]
def am9(t:i4)(c:Li):Option Unit:=some ()
abbrev at9(q:Int)(e:Int)(h:Li)(j:Li)(c:List j7)(l:List (Int×Int)):c9:=[.one (.cells 1 [[.map 3]]),.one (.cells 4 [[int e,row 1 intI h,row 1 intI j,row 4 n7 c]]),.one (.cells 1 [[int 0]]),.one (mapB (Value.int .u32) (Value.int .i64) l)]
def y6(u:Int)(e:Int)(h:Li)(j:Li)(c:List j7)(l:List (Int×Int)):Option ((List (Int×Int))×Int):=gC (if(!(gP (mget l u)))=true then gC (N7 u) fun v=>gC (am9 (⟨e,h,j,c⟩:i4) v) fun B=>some (mset l u 0,0) else some (l,gD (mget l u) 0)) fun⟨z,q⟩=>some (z,q)
abbrev ag4(start:Int)(e:Int)(l:List (Int×f8)):c9:=[.one (mapB (Value.int .u32) (valA (fun(c:f8)=>([.int .u32 c.fFrom,.int .i64 c.op]:List Vl))) l)]
def B1(start:Int)(l:List (Int×f8)):(Li×Int)->Option ((Li×Int)⊕Li):=fun(e,c)=>if c=start then some (.inr e) else gC (app 8 e [(gD (mget l c) (⟨0,0⟩:f8)).op]) fun h=>some (.inl (h,(gD (mget l c) (⟨0,0⟩:f8)).fFrom))
noncomputable def T3(start:Int)(e:Int)(l:List (Int×f8)):Option Li:=gC (Loop (B1 start l) ([],e)) fun c=>some c.reverse
abbrev T6(start:Int)(goal:Int)(e:Int)(h:Li)(j:Li)(c:List j7)(l:List k8)(q:List (Int×Int)):c9:=[.one (.cells 3 [[.imm (.val (.int .u32 start)),.imm (.val (.int .u32 goal)),.own 4 0 (hY l)]]),.one (.cells 1 [[.map 5]]),.one (.cells 4 [[int e,row 1 intI h,row 1 intI j,row 4 n7 c]]),.one (.cells 1 [[int 0]]),.one (vec 4 f5 l),.one (mapB (Value.int .u32) (Value.int .i64) q)]
noncomputable def L7(u:Int)(z:Li)(B:Li)(e:List j7)(l:List k8)(h:(List (Int×Int))×(List e8)×Li×Int×Int×Bool):Int->((List (Int×Int))×(List (Int×Int))×(List (Int×f8))×(List (Int×Int))×Int×Li×(List e8))->Option ((List (Int×Int))×(List (Int×Int))×(List (Int×f8))×(List (Int×Int))×Int×Li×(List e8)):=fun t91 (J,j,O,U,N,aa,ab)=>gC (ix l t91) fun c=>if Go.bits .and .u32 h.2.2.2.1 c.pre=c.pre then gC (af6 c.cost) fun E=>gC (if(gP (mget j (Go.bits .or .u32 (Go.bits .andNot .u32 h.2.2.2.1 c.del) c.add)))=true then if gD (mget j (Go.bits .or .u32 (Go.bits .andNot .u32 h.2.2.2.1 c.del) c.add)) 0<=w64 ((gD (mget j h.2.2.2.1) 0)+E) then some (J,true) else gC (y6 (Go.bits .or .u32 (Go.bits .andNot .u32 h.2.2.2.1 c.del) c.add) u z B e J) fun q=>some (q.1,decide (1000000000<=q.2)) else gC (y6 (Go.bits .or .u32 (Go.bits .andNot .u32 h.2.2.2.1 c.del) c.add) u z B e J) fun q=>some (q.1,decide (1000000000<=q.2))) fun⟨ac,t94⟩=>if t94=true then some (ac,j,O,U,N,aa,ab) else gC (y6 (Go.bits .or .u32 (Go.bits .andNot .u32 h.2.2.2.1 c.del) c.add) u z B e ac) fun F=>gC (n9 (Go.bits .or .u32 (Go.bits .andNot .u32 h.2.2.2.1 c.del) c.add) (w64 ((w64 ((gD (mget j h.2.2.2.1) 0)+E))+(w64 (4096 * F.2)))) N aa U ab) fun v=>some (F.1,mset j (Go.bits .or .u32 (Go.bits .andNot .u32 h.2.2.2.1 c.del) c.add) (w64 ((gD (mget j h.2.2.2.1) 0)+E)),mset O (Go.bits .or .u32 (Go.bits .andNot .u32 h.2.2.2.1 c.del) c.add) (⟨h.2.2.2.1,t91⟩:f8),v.1,w64 (N+1),v.2.1,v.2.2) else some (J,j,O,U,N,aa,ab)
noncomputable def L6(h:Int)(j:Li)(q:Li)(c:List j7)(l:List k8)(u:List (Int×Int))(v:List (Int×Int))(z:List (Int×f8))(B:Int)(e:(List (Int×Int))×(List e8)×Li×Int×Int×Bool):Option ((List (Int×Int))×(List (Int×Int))×(List (Int×f8))×(List (Int×Int))×Int×Li×(List e8)):=(gC (forR 0 (hY l:Int) (L7 h j q c l e) (u,v,z,e.1,B,e.2.2.1,e.2.1)) fun⟨E,F,J,N,O,U,aa⟩=>some (E,F,J,N,O,U,aa))
noncomputable def L5(start:Int)(goal:Int)(h:Int)(z:Li)(B:Li)(c:List j7)(l:List k8):((List (Int×Int))×(List (Int×Int))×(List (Int×f8))×(List (Int×Int))×Int×Li×(List e8)×(List (Int×Unit)))->Option (((List (Int×Int))×(List (Int×Int))×(List (Int×f8))×(List (Int×Int))×Int×Li×(List e8)×(List (Int×Unit)))⊕(((List (Int×Int))×(List (Int×Unit)))⊕((List (Int×Int))×Li×Int×Bool))):=fun(j,N,E,F,q,u,J,v)=>gC (A6 q u F J) fun an=>if 0<(hY u:Int) then gC (u5 q u F J) fun e=>gC (G7 e.2.2.2.1 start goal l) fun av=>if Go.bits .and .u32 e.2.2.2.1 goal=goal then gC (T3 start e.2.2.2.1 E) fun O=>some (.inr (.inr (j,O,(hY v:Int),true))) else gC (B6 e.2.2.2.1 start goal l) fun ay=>gC (L6 h z B c l j N E q e) fun⟨U,aa,ab,ac,ad,ai,al⟩=>some (.inl (U,aa,ab,ac,ad,ai,al,mset v e.2.2.2.1 ())) else some (.inr (.inl (j,v)))
noncomputable def J8(start:Int)(goal:Int)(e:Int)(h:Li)(j:Li)(c:List j7)(l:List k8)(E:List (Int×Int)):Option ((List (Int×Int))×Li×Int×Bool):=gC (x8 start goal l) fun F=>gC (y6 start e h j c E) fun q=>if 1000000000<=q.2 then some (q.1,[],0,false) else gC (E8) fun J=>gC (y6 start e h j c q.1) fun v=>gC (n9 start (w64 (4096 * v.2)) 0 ([]:Li) ([]:List (Int×Int)) ([]:List e8)) fun u=>gC (Loop (L5 start goal e h j c l) (v.1,mset ([]:List (Int×Int)) start 0,mset ([]:List (Int×f8)) start (⟨start,0⟩:f8),u.1,w64 (0+1),u.2.1,u.2.2,([]:List (Int×Unit)))) fun| .inl (z,B)=>some (z,[],(hY B:Int),false)| .inr x=>some x
abbrev astar_Plan_w_s0(t:i4):c9:=[]
noncomputable def ad8(t:i4):Option (Bool×Li×Int×Int×Int×Int):=gC (S8 0) fun j=>gC (ab9 t j) fun| .inl c=>if(!((decide (c.1=0)) && (decide (c.2=0))))=true then some (false,[],0,0,c.1,c.2) else none| .inr c=>if(!((decide (0=0)) && (decide (0=0))))=true then some (false,[],0,0,0,0) else gC (W5 t) fun q=>gC (J8 c.1 c.2.1 t.facts t.init t.goal t.operators c.2.2.1 ([]:List (Int×Int))) fun h=>gC (ak9 t h.2.1 h.2.2.2 h.2.2.1) fun e=>some (e.1.found,e.1.plan,e.1.cost,e.1.expanded,e.2.code,e.2.index)
noncomputable def G5(t:i4):Option Bool:=gC (ad8 t) fun a13=>gC (P9 t) fun a18=>if((((!(decide (a13.2.2.2.2.1=0)))||(!(decide (a18.2.code=0))))||(!a13.1))||(decide (8<(a13.2.1.length:Int))))=true then gC (U0) fun a40=>some a40 else gC (K3 t [t.goal] a13.2.1) fun a48=>gC (S0 t [t.goal] a13.2.1) fun a58=>gC (if a48.2.code=0 then if a58.2.code=0 then if(a48.1.length:Int)=1 then gC (ix a48.1 0) fun a76=>if((decide (a76.1=a18.1)) && (decide (a76.2=a18.1)))=true then gC (aj0 a58.1 [0]) fun a86=>if a86=true then gC (U0) fun a89=>some a89 else some false else some false else some false else some false else some false) fun t3=>some t3
def am1(nv:Int)(e:Int)(c:Int):Option Bool:=some ((decide (e<=nv)) && (decide (nv<=c)))
def R8(code:Int)(index:Int):Option TFault:=some (⟨code,index⟩:TFault)
def ap0(l:Li)(nv:Int):Int->Unit->Option (Unit⊕Bool):=fun iv3 _=>gC (gC (ix l iv3) fun a14=>gC (am1 a14 0 (w64 (nv - 1))) fun a18=>if(!a18)=true then some true else if 0<iv3 then gC (ix l iv3) fun a26=>gC (ix l (iv3 - 1)) fun a31=>some (decide (a26<=a31)) else some false) fun t4=>if t4=true then some (.inr false) else some (.inl ())
def W7(l:Li)(nv:Int):Option Bool:=(gC (rngX 0 (hY l:Int) (ap0 l nv) ()) fun| .inl _=>some true| .inr x=>some x)
def ref1_Has_l1(l:Li)(nv:Int):Int->Unit->Option (Unit⊕Bool):=fun c _=>gC (ix l c) fun e=>if e=nv then some (.inr true) else some (.inl ())
def ref1_Has(l:Li)(nv:Int):Option Bool:=(gC (rngX 0 (hY l:Int) (ref1_Has_l1 l nv) ()) fun| .inl _=>some false| .inr x=>some x)
def at0(j:Li)(q:Li):Int->Unit->Option (Unit⊕Bool):=fun c _=>gC (ix j c) fun e=>gC (ref1_Has q e) fun h=>if h=true then some (.inr false) else some (.inl ())
def ao8(c:Li)(e:Li):Option Bool:=(gC (rngX 0 (hY c:Int) (at0 c e) ()) fun| .inl _=>some true| .inr x=>some x)
def Q7(t:i4):Int->Unit->Option (Unit⊕TFault):=fun iv6 _=>gC (ix t.operators iv6) fun a39=>gC (gC (W7 a39.pre t.facts) fun a45=>if(!a45)=true then some true else gC (W7 a39.add t.facts) fun a52=>if(!a52)=true then some true else gC (W7 a39.del t.facts) fun a60=>if(!a60)=true then some true else gC (ao8 a39.add a39.del) fun a68=>some (!a68)) fun t7=>if t7=true then gC (R8 5 iv6) fun a72=>some (.inr a72) else gC (am1 a39.cost 0 100) fun a75=>if(!a75)=true then gC (R8 3 iv6) fun a78=>some (.inr a78) else some (.inl ())
def am0(t:i4):Option TFault:=gC (am1 t.facts 0 24) fun a7=>if(!a7)=true then gC (R8 3 (-1)) fun a9=>some a9 else gC (W7 t.init t.facts) fun a14=>if(!a14)=true then gC (R8 5 (-2)) fun a16=>some a16 else gC (W7 t.goal t.facts) fun a21=>if(!a21)=true then gC (R8 5 (-3)) fun a23=>some a23 else if 40<(hY t.operators:Int) then gC (R8 2 (-1)) fun a28=>some a28 else(gC (rngX 0 (hY t.operators:Int) (Q7 t) ()) fun| .inl _=>some (⟨0,0⟩:TFault)| .inr x=>some x)
def ao6(operators:Int)(plan:Li):Int->Unit->Option (Unit⊕TFault):=fun iv4 _=>gC (ix plan iv4) fun a18=>gC (am1 a18 0 (w64 (operators - 1))) fun a22=>if(!a22)=true then gC (R8 3 (-6)) fun a24=>some (.inr a24) else some (.inl ())
def aj8(operators:Int)(plan:Li):Option TFault:=if 60<(hY plan:Int) then gC (R8 2 (-5)) fun c=>some c else(gC (rngX 0 (hY plan:Int) (ao6 operators plan) ()) fun| .inl _=>some (⟨0,0⟩:TFault)| .inr x=>some x)
end Ab
end
section
namespace Ab
open Go
def eOk1{n t:Nat}{v:T}{r:Env}(h:v.ok n=true)(hr:ag9 n r=true):ag9 n ((t,v)::r)=true:=by
 simp only[ag9,h,hr,Bool.and_self]
section
open Go.Proofs
variable {P:Program}{σ0:c9}{sz:Nat}{Q:Post}{env:Env}{σv:c9}{ops:Array Oper}{rest:List Oper}
end
end Ab
end
section
namespace Go.Proofs
open Go.Shelf
open Tryz
def Tryz.lays283_ren:Go.Shelf.Ren:=⟨fun|283=>163|n=>n,fun|3=>3|9=>9|4=>4|n=>n,fun|n=>n⟩
def Tryz.lays283:Go.Proofs.Lays.n283 prog Tryz.lays283_ren:={
 mixed:=by kernel_rfl
 f283:=func163.trans (congrArg some (by kernel_rfl))
 t3:=underlying3
 a3:=isAgg3
 z3:=sizeOf3
 v3:=zeroValue3
 t4:=underlying4
 a4:=isAgg4
 z4:=sizeOf4
 v4:=zeroValue4
 t9:=underlying9
 a9:=isAgg9
 z9:=sizeOf9
 v9:=zeroValue9}
open Go.Lib in
def Tryz.internal_strconv_small(i:Nat)(h:i<100)(w:World):
  Calls prog 163 #[.int .i64 i] w fun e w'=>e=.returned (.string ⟨(Lib.decDigits i).toArray⟩)/\w'=w:=Any.internal_strconv_small Tryz.lays283 i h w
def Tryz.lays189_ren:Go.Shelf.Ren:=⟨fun|189=>113|125=>67|257=>138|128=>107|129=>108|294=>147|295=>148|296=>149|297=>150|298=>151|299=>152|216=>136|300=>153|301=>154|328=>167|329=>132|330=>133|331=>168|332=>169|215=>109|343=>177|n=>n,fun|28=>22|3=>3|46=>155|0=>0|51=>51|53=>200|4=>4|183=>194|182=>193|131=>86|5=>5|9=>9|218=>224|222=>228|228=>237|229=>238|n=>n,fun|n=>n⟩
def Tryz.lays189:Go.Proofs.Lays.n189 prog Tryz.lays189_ren:={
 mixed:=by kernel_rfl
 f125:=func67.trans (congrArg some (by kernel_rfl))
 f128:=func107.trans (congrArg some (by kernel_rfl))
 f129:=func108.trans (congrArg some (by kernel_rfl))
 f189:=func113.trans (congrArg some (by kernel_rfl))
 f215:=func109.trans (congrArg some (by kernel_rfl))
 f216:=func136.trans (congrArg some (by kernel_rfl))
 f257:=func138.trans (congrArg some (by kernel_rfl))
 f294:=func147.trans (congrArg some (by kernel_rfl))
 f295:=func148.trans (congrArg some (by kernel_rfl))
 f296:=func149.trans (congrArg some (by kernel_rfl))
 f297:=func150.trans (congrArg some (by kernel_rfl))
 f298:=func151.trans (congrArg some (by kernel_rfl))
 f299:=func152.trans (congrArg some (by kernel_rfl))
 f300:=func153.trans (congrArg some (by kernel_rfl))
 f301:=func154.trans (congrArg some (by kernel_rfl))
 f328:=func167.trans (congrArg some (by kernel_rfl))
 f329:=func132.trans (congrArg some (by kernel_rfl))
 f330:=func133.trans (congrArg some (by kernel_rfl))
 f331:=func168.trans (congrArg some (by kernel_rfl))
 f332:=func169.trans (congrArg some (by kernel_rfl))
 f343:=func177.trans (congrArg some (by kernel_rfl))
 t0:=underlying0
 a0:=isAgg0
 z0:=sizeOf0
 v0:=zeroValue0
 t3:=underlying3
 a3:=isAgg3
 z3:=sizeOf3
 v3:=zeroValue3
 t4:=underlying4
 a4:=isAgg4
 z4:=sizeOf4
 v4:=zeroValue4
 t5:=underlying5
 a5:=isAgg5
 z5:=sizeOf5
 v5:=zeroValue5
 t9:=underlying9
 a9:=isAgg9
 z9:=sizeOf9
 v9:=zeroValue9
 t28:=underlying22
 a28:=isAgg22
 z28:=sizeOf22
 v28:=zeroValue22
 t46:=underlying155
 a46:=isAgg155
 z46:=sizeOf155
 v46:=zeroValue155
 t51:=underlying51
 a51:=isAgg51
 z51:=sizeOf51
 v51:=zeroValue51
 t53:=underlying200
 a53:=isAgg200
 z53:=sizeOf200
 v53:=zeroValue200
 t131:=underlying86
 a131:=isAgg86
 z131:=sizeOf86
 v131:=zeroValue86
 t182:=underlying193
 a182:=isAgg193
 z182:=sizeOf193
 v182:=zeroValue193
 t183:=underlying194
 a183:=isAgg194
 z183:=sizeOf194
 v183:=zeroValue194
 t218:=underlying224
 a218:=isAgg224
 z218:=sizeOf224
 v218:=zeroValue224
 t222:=underlying228
 a222:=isAgg228
 z222:=sizeOf228
 v222:=zeroValue228
 t228:=underlying237
 a228:=isAgg237
 z228:=sizeOf237
 v228:=zeroValue237
 t229:=underlying238
 a229:=isAgg238
 z229:=sizeOf238
 v229:=zeroValue238}
open Go.Sort Go.RowKit in
def Tryz.slices_Sort_int(blk off cap:Nat)(zs:List Int)(w:World)(hH:Holds (Value.int .i64) w blk off zs.toArray)(hblk:blk<w.heap.size)(hsz:hY zs<4611686018427387904):
  Calls prog 113 #[.slice (some ⟨blk,off,none⟩) (hY zs) cap] w fun e w'=>
   e=.returned (.tuple #[])/\∃n os,w'=grow (putRow (Value.int .i64) (Sort.ahead w n) blk off (zs.mergeSort fun x y=>decide (x<=y)).toArray) os:=Any.slices_Sort_int Tryz.lays189 blk off cap zs w hH hblk hsz
def Tryz.lays112_ren:Go.Shelf.Ren:=⟨fun|112=>58|n=>n,fun|28=>22|3=>3|4=>4|0=>0|n=>n,fun|n=>n⟩
def Tryz.lays112:Go.Proofs.Lays.n112 prog Tryz.lays112_ren:={
 mixed:=by kernel_rfl
 f112:=func58.trans (congrArg some (by kernel_rfl))
 t0:=underlying0
 a0:=isAgg0
 z0:=sizeOf0
 v0:=zeroValue0
 t3:=underlying3
 a3:=isAgg3
 z3:=sizeOf3
 v3:=zeroValue3
 t4:=underlying4
 a4:=isAgg4
 z4:=sizeOf4
 v4:=zeroValue4
 t28:=underlying22
 a28:=isAgg22
 z28:=sizeOf22
 v28:=zeroValue22}
open Go.RowKit Go.Lib Go.Sort in
def Tryz.slices_Reverse_int(blk off cap:Nat)(zs:List Int)(w:World)(hH:Holds (Value.int .i64) w blk off zs.toArray)(hsz:hY zs<=9223372036854775807):
  Calls prog 58 #[.slice (some ⟨blk,off,none⟩) (hY zs) cap] w fun e w'=>e=.returned (.tuple #[])/\∃n,w'=putRow (Value.int .i64) (Sort.ahead w n) blk off zs.reverse.toArray:=Any.slices_Reverse_int Tryz.lays112 blk off cap zs w hH hsz
open Go.RowKit Go.Lib Go.Sort in
def Tryz.slices_Reverse_int_empty(a:Option Addr)(cap:Nat)(w:World):
  Calls prog 58 #[.slice a 0 cap] w fun e w'=>e=.returned (.tuple #[])/\w'=w:=Any.slices_Reverse_int_empty Tryz.lays112 a cap w
def Tryz.laysNm220_ren:Go.Shelf.Ren:=⟨fun|20=>114|n=>n,fun|22=>22|3=>3|4=>4|0=>0|n=>n,fun|n=>n⟩
def Tryz.laysNm220:Go.Proofs.Lays2.n20 prog Tryz.laysNm220_ren:={
 mixed:=by kernel_rfl
 f20:=func114.trans (congrArg some (by kernel_rfl))
 t0:=underlying0
 a0:=isAgg0
 z0:=sizeOf0
 v0:=zeroValue0
 t3:=underlying3
 a3:=isAgg3
 z3:=sizeOf3
 v3:=zeroValue3
 t4:=underlying4
 a4:=isAgg4
 z4:=sizeOf4
 v4:=zeroValue4
 t22:=underlying22
 a22:=isAgg22
 z22:=sizeOf22
 v22:=zeroValue22
 i3:=by kernel_rfl}
open Go.RowKit Go.Lib Go.Sort in
def Tryz.slices_Compact_int(blk off cap:Nat)(zs:List Int)(w:World)(hH:Holds (Value.int .i64) w blk off zs.toArray)(hsz:hY zs<=9223372036854775807)(hcap:hY zs<=cap):
  Calls prog 114 #[.slice (some ⟨blk,off,none⟩) (hY zs) cap] w fun e w'=>e=.returned (.slice (some ⟨blk,off,none⟩) (Lib.compact zs).length cap)/\∃q,w'=putRow (Value.int .i64) (Sort.ahead w q) blk off (Lib.compact zs++List.replicate (hY zs - (Lib.compact zs).length) 0).toArray:=Any.slices_Compact_int Tryz.laysNm220 blk off cap zs w hH hsz hcap
open Go.RowKit Go.Lib Go.Sort in
def Tryz.slices_Compact_int_empty(a:Option Addr)(cap:Nat)(w:World):
  Calls prog 114 #[.slice a 0 cap] w fun e w'=>e=.returned (.slice a 0 cap)/\w'=w:=Any.slices_Compact_int_empty Tryz.laysNm220 a cap w
open Go.RowKit Go.Sort in
def Tryz.slices_Sort_int_none(p:Option Addr)(cap:Nat)(w:World):
  Calls prog 113 #[.slice p 0 cap] w fun e w'=>e=.returned (.tuple #[])/\w'=w:=Any.slices_Sort_int_none Tryz.lays189 p cap w
def Tryz.laysSlF6_f35_ren:Go.Shelf.Ren:=⟨fun|6=>35|15=>67|14=>66|28=>107|29=>108|20=>99|21=>100|22=>101|23=>102|24=>103|25=>104|26=>105|27=>106|46=>131|47=>132|48=>133|49=>134|50=>135|57=>146|n=>n,fun|22=>45|24=>51|25=>97|3=>3|39=>155|0=>0|53=>51|55=>200|4=>4|46=>194|45=>193|50=>86|5=>5|9=>9|66=>224|70=>228|76=>237|77=>238|n=>n,fun|n=>n⟩
def Tryz.laysSlF6_f35:Go.Proofs.SlLaysF.n6 prog Tryz.laysSlF6_f35_ren:={
 mixed:=by kernel_rfl
 f6:=⟨Tryz.f35.name,by decide,func35.trans (congrArg some (by kernel_rfl))⟩
 f14:=⟨Tryz.f66.name,by decide,func66.trans (congrArg some (by kernel_rfl))⟩
 f15:=func67.trans (congrArg some (by kernel_rfl))
 f20:=⟨Tryz.f99.name,by decide,func99.trans (congrArg some (by kernel_rfl))⟩
 f21:=⟨Tryz.f100.name,by decide,func100.trans (congrArg some (by kernel_rfl))⟩
 f22:=⟨Tryz.f101.name,by decide,func101.trans (congrArg some (by kernel_rfl))⟩
 f23:=⟨Tryz.f102.name,by decide,func102.trans (congrArg some (by kernel_rfl))⟩
 f24:=⟨Tryz.f103.name,by decide,func103.trans (congrArg some (by kernel_rfl))⟩
 f25:=⟨Tryz.f104.name,by decide,func104.trans (congrArg some (by kernel_rfl))⟩
 f26:=⟨Tryz.f105.name,by decide,func105.trans (congrArg some (by kernel_rfl))⟩
 f27:=⟨Tryz.f106.name,by decide,func106.trans (congrArg some (by kernel_rfl))⟩
 f28:=func107.trans (congrArg some (by kernel_rfl))
 f29:=func108.trans (congrArg some (by kernel_rfl))
 f46:=⟨Tryz.f131.name,by decide,func131.trans (congrArg some (by kernel_rfl))⟩
 f47:=func132.trans (congrArg some (by kernel_rfl))
 f48:=func133.trans (congrArg some (by kernel_rfl))
 f49:=⟨Tryz.f134.name,by decide,func134.trans (congrArg some (by kernel_rfl))⟩
 f50:=⟨Tryz.f135.name,by decide,func135.trans (congrArg some (by kernel_rfl))⟩
 f57:=⟨Tryz.f146.name,by decide,func146.trans (congrArg some (by kernel_rfl))⟩
 t0:=underlying0
 a0:=isAgg0
 z0:=sizeOf0
 v0:=zeroValue0
 t3:=underlying3
 a3:=isAgg3
 z3:=sizeOf3
 v3:=zeroValue3
 t4:=underlying4
 a4:=isAgg4
 z4:=sizeOf4
 v4:=zeroValue4
 t5:=underlying5
 a5:=isAgg5
 z5:=sizeOf5
 v5:=zeroValue5
 t9:=underlying9
 a9:=isAgg9
 z9:=sizeOf9
 v9:=zeroValue9
 t22:=underlying45
 a22:=isAgg45
 z22:=sizeOf45
 v22:=zeroValue45
 a24:=isAgg51
 z24:=sizeOf51
 t25:=underlying97
 a25:=isAgg97
 z25:=sizeOf97
 v25:=zeroValue97
 t39:=underlying155
 a39:=isAgg155
 z39:=sizeOf155
 v39:=zeroValue155
 t45:=underlying193
 a45:=isAgg193
 z45:=sizeOf193
 v45:=zeroValue193
 t46:=underlying194
 a46:=isAgg194
 z46:=sizeOf194
 v46:=zeroValue194
 t50:=underlying86
 a50:=isAgg86
 z50:=sizeOf86
 v50:=zeroValue86
 t53:=underlying51
 a53:=isAgg51
 z53:=sizeOf51
 v53:=zeroValue51
 t55:=underlying200
 a55:=isAgg200
 z55:=sizeOf200
 v55:=zeroValue200
 t66:=underlying224
 a66:=isAgg224
 z66:=sizeOf224
 v66:=zeroValue224
 t70:=underlying228
 a70:=isAgg228
 z70:=sizeOf228
 v70:=zeroValue228
 t76:=underlying237
 a76:=isAgg237
 z76:=sizeOf237
 v76:=zeroValue237
 t77:=underlying238
 a77:=isAgg238
 z77:=sizeOf238
 v77:=zeroValue238}
def Tryz.laysSlF6_f115_ren:Go.Shelf.Ren:=⟨fun|6=>115|15=>67|14=>139|28=>107|29=>108|20=>155|21=>156|22=>157|23=>158|24=>159|25=>160|26=>161|27=>162|46=>170|47=>132|48=>133|49=>171|50=>172|57=>178|n=>n,fun|22=>38|24=>22|25=>96|3=>3|39=>155|0=>0|53=>51|55=>200|4=>4|46=>194|45=>193|50=>86|5=>5|9=>9|66=>224|70=>228|76=>237|77=>238|n=>n,fun|n=>n⟩
def Tryz.laysSlF6_f115:Go.Proofs.SlLaysF.n6 prog Tryz.laysSlF6_f115_ren:={
 mixed:=by kernel_rfl
 f6:=⟨Tryz.f115.name,by decide,func115.trans (congrArg some (by kernel_rfl))⟩
 f14:=⟨Tryz.f139.name,by decide,func139.trans (congrArg some (by kernel_rfl))⟩
 f15:=func67.trans (congrArg some (by kernel_rfl))
 f20:=⟨Tryz.f155.name,by decide,func155.trans (congrArg some (by kernel_rfl))⟩
 f21:=⟨Tryz.f156.name,by decide,func156.trans (congrArg some (by kernel_rfl))⟩
 f22:=⟨Tryz.f157.name,by decide,func157.trans (congrArg some (by kernel_rfl))⟩
 f23:=⟨Tryz.f158.name,by decide,func158.trans (congrArg some (by kernel_rfl))⟩
 f24:=⟨Tryz.f159.name,by decide,func159.trans (congrArg some (by kernel_rfl))⟩
 f25:=⟨Tryz.f160.name,by decide,func160.trans (congrArg some (by kernel_rfl))⟩
 f26:=⟨Tryz.f161.name,by decide,func161.trans (congrArg some (by kernel_rfl))⟩
 f27:=⟨Tryz.f162.name,by decide,func162.trans (congrArg some (by kernel_rfl))⟩
 f28:=func107.trans (congrArg some (by kernel_rfl))
 f29:=func108.trans (congrArg some (by kernel_rfl))
 f46:=⟨Tryz.f170.name,by decide,func170.trans (congrArg some (by kernel_rfl))⟩
 f47:=func132.trans (congrArg some (by kernel_rfl))
 f48:=func133.trans (congrArg some (by kernel_rfl))
 f49:=⟨Tryz.f171.name,by decide,func171.trans (congrArg some (by kernel_rfl))⟩
 f50:=⟨Tryz.f172.name,by decide,func172.trans (congrArg some (by kernel_rfl))⟩
 f57:=⟨Tryz.f178.name,by decide,func178.trans (congrArg some (by kernel_rfl))⟩
 t0:=underlying0
 a0:=isAgg0
 z0:=sizeOf0
 v0:=zeroValue0
 t3:=underlying3
 a3:=isAgg3
 z3:=sizeOf3
 v3:=zeroValue3
 t4:=underlying4
 a4:=isAgg4
 z4:=sizeOf4
 v4:=zeroValue4
 t5:=underlying5
 a5:=isAgg5
 z5:=sizeOf5
 v5:=zeroValue5
 t9:=underlying9
 a9:=isAgg9
 z9:=sizeOf9
 v9:=zeroValue9
 t22:=underlying38
 a22:=isAgg38
 z22:=sizeOf38
 v22:=zeroValue38
 a24:=isAgg22
 z24:=sizeOf22
 t25:=underlying96
 a25:=isAgg96
 z25:=sizeOf96
 v25:=zeroValue96
 t39:=underlying155
 a39:=isAgg155
 z39:=sizeOf155
 v39:=zeroValue155
 t45:=underlying193
 a45:=isAgg193
 z45:=sizeOf193
 v45:=zeroValue193
 t46:=underlying194
 a46:=isAgg194
 z46:=sizeOf194
 v46:=zeroValue194
 t50:=underlying86
 a50:=isAgg86
 z50:=sizeOf86
 v50:=zeroValue86
 t53:=underlying51
 a53:=isAgg51
 z53:=sizeOf51
 v53:=zeroValue51
 t55:=underlying200
 a55:=isAgg200
 z55:=sizeOf200
 v55:=zeroValue200
 t66:=underlying224
 a66:=isAgg224
 z66:=sizeOf224
 v66:=zeroValue224
 t70:=underlying228
 a70:=isAgg228
 z70:=sizeOf228
 v70:=zeroValue228
 t76:=underlying237
 a76:=isAgg237
 z76:=sizeOf237
 v76:=zeroValue237
 t77:=underlying238
 a77:=isAgg238
 z77:=sizeOf238
 v77:=zeroValue238}
open Go.RowKit Go.Lib Go.Sort in
def Tryz.slices_SortFunc_f35{α:Type}[Inhabited α](enc:α->Value)(h1:OneCell enc)(cf:α->α->Int)(hO:SWO (ltOf cf))(g:Nat)(cb:Array Value)(blk off cap:Nat)(d:Array α)(w:World)(eg:∀args w,(callFunc g args).run prog w=.ok (.enter g args) w)(hcmp:CmpLays1 prog g cb enc cf blk off d.size w)(hH:Holds enc w blk off d)(hblk:blk<w.heap.size)(hsz:d.size<4611686018427387904):
  Calls prog 35 #[.slice (some ⟨blk,off,none⟩) d.size cap,.func (.func g) #[] cb] w fun e w'=>
   e=.returned (.tuple #[])/\∃d' n os,PermIn 0 d.size d d'/\SortedIn (ltOf cf) 0 d.size d'/\w'=sortWorld enc w blk off n d' os:=Any.slices_SortFunc Tryz.laysSlF6_f35 enc h1 cf hO g cb blk off cap d w eg hcmp hH hblk hsz
open Go.RowKit Go.Lib Go.Sort in
def Tryz.slices_SortFunc_f115{α:Type}[Inhabited α](enc:α->Value)(h1:OneCell enc)(cf:α->α->Int)(hO:SWO (ltOf cf))(g:Nat)(cb:Array Value)(blk off cap:Nat)(d:Array α)(w:World)(eg:∀args w,(callFunc g args).run prog w=.ok (.enter g args) w)(hcmp:CmpLays1 prog g cb enc cf blk off d.size w)(hH:Holds enc w blk off d)(hblk:blk<w.heap.size)(hsz:d.size<4611686018427387904):
  Calls prog 115 #[.slice (some ⟨blk,off,none⟩) d.size cap,.func (.func g) #[] cb] w fun e w'=>
   e=.returned (.tuple #[])/\∃d' n os,PermIn 0 d.size d d'/\SortedIn (ltOf cf) 0 d.size d'/\w'=sortWorld enc w blk off n d' os:=Any.slices_SortFunc Tryz.laysSlF6_f115 enc h1 cf hO g cb blk off cap d w eg hcmp hH hblk hsz
def Tryz.laysSlF06_f35_ren:Go.Shelf.Ren:=⟨fun|6=>35|15=>67|14=>66|28=>107|29=>108|20=>99|21=>100|22=>101|23=>102|24=>103|25=>104|26=>105|27=>106|46=>131|47=>132|48=>133|49=>134|50=>135|57=>146|n=>n,fun|22=>45|24=>51|25=>97|3=>3|39=>155|0=>0|53=>51|55=>200|4=>4|46=>194|45=>193|50=>86|5=>5|9=>9|66=>224|70=>228|76=>237|77=>238|n=>n,fun|n=>n⟩
def Tryz.laysSlF06_f35:Go.Proofs.SlLaysF0.n6 prog Tryz.laysSlF06_f35_ren:={
 mixed:=by kernel_rfl
 f6:=⟨Tryz.f35.name,by decide,func35.trans (congrArg some (by kernel_rfl))⟩
 f14:=⟨Tryz.f66.name,by decide,func66.trans (congrArg some (by kernel_rfl))⟩
 f15:=func67.trans (congrArg some (by kernel_rfl))
 f20:=⟨Tryz.f99.name,by decide,func99.trans (congrArg some (by kernel_rfl))⟩
 f21:=⟨Tryz.f100.name,by decide,func100.trans (congrArg some (by kernel_rfl))⟩
 f22:=⟨Tryz.f101.name,by decide,func101.trans (congrArg some (by kernel_rfl))⟩
 f23:=⟨Tryz.f102.name,by decide,func102.trans (congrArg some (by kernel_rfl))⟩
 f24:=⟨Tryz.f103.name,by decide,func103.trans (congrArg some (by kernel_rfl))⟩
 f25:=⟨Tryz.f104.name,by decide,func104.trans (congrArg some (by kernel_rfl))⟩
 f26:=⟨Tryz.f105.name,by decide,func105.trans (congrArg some (by kernel_rfl))⟩
 f27:=⟨Tryz.f106.name,by decide,func106.trans (congrArg some (by kernel_rfl))⟩
 f28:=func107.trans (congrArg some (by kernel_rfl))
 f29:=func108.trans (congrArg some (by kernel_rfl))
 f46:=⟨Tryz.f131.name,by decide,func131.trans (congrArg some (by kernel_rfl))⟩
 f47:=func132.trans (congrArg some (by kernel_rfl))
 f48:=func133.trans (congrArg some (by kernel_rfl))
 f49:=⟨Tryz.f134.name,by decide,func134.trans (congrArg some (by kernel_rfl))⟩
 f50:=⟨Tryz.f135.name,by decide,func135.trans (congrArg some (by kernel_rfl))⟩
 f57:=⟨Tryz.f146.name,by decide,func146.trans (congrArg some (by kernel_rfl))⟩
 t0:=underlying0
 a0:=isAgg0
 z0:=sizeOf0
 v0:=zeroValue0
 t3:=underlying3
 a3:=isAgg3
 z3:=sizeOf3
 v3:=zeroValue3
 t4:=underlying4
 a4:=isAgg4
 z4:=sizeOf4
 v4:=zeroValue4
 t5:=underlying5
 a5:=isAgg5
 z5:=sizeOf5
 v5:=zeroValue5
 t9:=underlying9
 a9:=isAgg9
 z9:=sizeOf9
 v9:=zeroValue9
 t22:=underlying45
 a22:=isAgg45
 z22:=sizeOf45
 v22:=zeroValue45
 t25:=underlying97
 a25:=isAgg97
 z25:=sizeOf97
 v25:=zeroValue97
 t39:=underlying155
 a39:=isAgg155
 z39:=sizeOf155
 v39:=zeroValue155
 t45:=underlying193
 a45:=isAgg193
 z45:=sizeOf193
 v45:=zeroValue193
 t46:=underlying194
 a46:=isAgg194
 z46:=sizeOf194
 v46:=zeroValue194
 t50:=underlying86
 a50:=isAgg86
 z50:=sizeOf86
 v50:=zeroValue86
 t53:=underlying51
 a53:=isAgg51
 z53:=sizeOf51
 v53:=zeroValue51
 t55:=underlying200
 a55:=isAgg200
 z55:=sizeOf200
 v55:=zeroValue200
 t66:=underlying224
 a66:=isAgg224
 z66:=sizeOf224
 v66:=zeroValue224
 t70:=underlying228
 a70:=isAgg228
 z70:=sizeOf228
 v70:=zeroValue228
 t76:=underlying237
 a76:=isAgg237
 z76:=sizeOf237
 v76:=zeroValue237
 t77:=underlying238
 a77:=isAgg238
 z77:=sizeOf238
 v77:=zeroValue238}
open Go.RowKit Go.Lib Go.Sort in
def Tryz.slices_SortFunc_none_f35{α:Type}[Inhabited α](p:Option Addr)(cap:Nat)(fv:Value)(w:World):
  Calls prog 35 #[.slice p 0 cap,fv] w fun e w'=>e=.returned (.tuple #[])/\w'=w:=AnyF.slices_SortFunc_none Tryz.laysSlF06_f35 p cap fv w
def Tryz.laysSlF06_f115_ren:Go.Shelf.Ren:=⟨fun|6=>115|15=>67|14=>139|28=>107|29=>108|20=>155|21=>156|22=>157|23=>158|24=>159|25=>160|26=>161|27=>162|46=>170|47=>132|48=>133|49=>171|50=>172|57=>178|n=>n,fun|22=>38|24=>22|25=>96|3=>3|39=>155|0=>0|53=>51|55=>200|4=>4|46=>194|45=>193|50=>86|5=>5|9=>9|66=>224|70=>228|76=>237|77=>238|n=>n,fun|n=>n⟩
def Tryz.laysSlF06_f115:Go.Proofs.SlLaysF0.n6 prog Tryz.laysSlF06_f115_ren:={
 mixed:=by kernel_rfl
 f6:=⟨Tryz.f115.name,by decide,func115.trans (congrArg some (by kernel_rfl))⟩
 f14:=⟨Tryz.f139.name,by decide,func139.trans (congrArg some (by kernel_rfl))⟩
 f15:=func67.trans (congrArg some (by kernel_rfl))
 f20:=⟨Tryz.f155.name,by decide,func155.trans (congrArg some (by kernel_rfl))⟩
 f21:=⟨Tryz.f156.name,by decide,func156.trans (congrArg some (by kernel_rfl))⟩
 f22:=⟨Tryz.f157.name,by decide,func157.trans (congrArg some (by kernel_rfl))⟩
 f23:=⟨Tryz.f158.name,by decide,func158.trans (congrArg some (by kernel_rfl))⟩
 f24:=⟨Tryz.f159.name,by decide,func159.trans (congrArg some (by kernel_rfl))⟩
 f25:=⟨Tryz.f160.name,by decide,func160.trans (congrArg some (by kernel_rfl))⟩
 f26:=⟨Tryz.f161.name,by decide,func161.trans (congrArg some (by kernel_rfl))⟩
 f27:=⟨Tryz.f162.name,by decide,func162.trans (congrArg some (by kernel_rfl))⟩
 f28:=func107.trans (congrArg some (by kernel_rfl))
 f29:=func108.trans (congrArg some (by kernel_rfl))
 f46:=⟨Tryz.f170.name,by decide,func170.trans (congrArg some (by kernel_rfl))⟩
 f47:=func132.trans (congrArg some (by kernel_rfl))
 f48:=func133.trans (congrArg some (by kernel_rfl))
 f49:=⟨Tryz.f171.name,by decide,func171.trans (congrArg some (by kernel_rfl))⟩
 f50:=⟨Tryz.f172.name,by decide,func172.trans (congrArg some (by kernel_rfl))⟩
 f57:=⟨Tryz.f178.name,by decide,func178.trans (congrArg some (by kernel_rfl))⟩
 t0:=underlying0
 a0:=isAgg0
 z0:=sizeOf0
 v0:=zeroValue0
 t3:=underlying3
 a3:=isAgg3
 z3:=sizeOf3
 v3:=zeroValue3
 t4:=underlying4
 a4:=isAgg4
 z4:=sizeOf4
 v4:=zeroValue4
 t5:=underlying5
 a5:=isAgg5
 z5:=sizeOf5
 v5:=zeroValue5
 t9:=underlying9
 a9:=isAgg9
 z9:=sizeOf9
 v9:=zeroValue9
 t22:=underlying38
 a22:=isAgg38
 z22:=sizeOf38
 v22:=zeroValue38
 t25:=underlying96
 a25:=isAgg96
 z25:=sizeOf96
 v25:=zeroValue96
 t39:=underlying155
 a39:=isAgg155
 z39:=sizeOf155
 v39:=zeroValue155
 t45:=underlying193
 a45:=isAgg193
 z45:=sizeOf193
 v45:=zeroValue193
 t46:=underlying194
 a46:=isAgg194
 z46:=sizeOf194
 v46:=zeroValue194
 t50:=underlying86
 a50:=isAgg86
 z50:=sizeOf86
 v50:=zeroValue86
 t53:=underlying51
 a53:=isAgg51
 z53:=sizeOf51
 v53:=zeroValue51
 t55:=underlying200
 a55:=isAgg200
 z55:=sizeOf200
 v55:=zeroValue200
 t66:=underlying224
 a66:=isAgg224
 z66:=sizeOf224
 v66:=zeroValue224
 t70:=underlying228
 a70:=isAgg228
 z70:=sizeOf228
 v70:=zeroValue228
 t76:=underlying237
 a76:=isAgg237
 z76:=sizeOf237
 v76:=zeroValue237
 t77:=underlying238
 a77:=isAgg238
 z77:=sizeOf238
 v77:=zeroValue238}
open Go.RowKit Go.Lib Go.Sort in
def Tryz.slices_SortFunc_none_f115{α:Type}[Inhabited α](p:Option Addr)(cap:Nat)(fv:Value)(w:World):
  Calls prog 115 #[.slice p 0 cap,fv] w fun e w'=>e=.returned (.tuple #[])/\w'=w:=AnyF.slices_SortFunc_none Tryz.laysSlF06_f115 p cap fv w
end Go.Proofs
end
section
namespace Ab
open Go Go.Proofs
open Tryz
def sortU_facts:R7 prog 35:=⟨_,func35,rfl,rfl⟩
def sortF_Lu32_ok:SortFOk prog 35:=fun h j v z _ _ _ q hl=>sortF_fn sortU_facts h j v z (fun β _ enc h1 B j g E blk off cap d w F c J e u=>Tryz.slices_SortFunc_f35 enc h1 B j g E blk off cap d w F c J e u) (fun p cap fv w=>Tryz.slices_SortFunc_none_f35 (α:=Unit) p cap fv w) q hl
end Ab
end
section
namespace Ab
open Go Go.Proofs
open Tryz
def sort_facts:R7 prog 113:=⟨_,func113,rfl,rfl⟩
def compact_facts:R7 prog 114:=⟨_,func114,rfl,rfl⟩
def sortL_ok:SortOk prog 113:=fun hσ hl=>sort_fn sort_facts (fun blk off cap zs w hH hb hs=>Tryz.slices_Sort_int blk off cap zs w hH hb hs) (fun p cap w=>Tryz.slices_Sort_int_none p cap w) hσ hl
def compactL_ok:CompactOk prog 114:=fun hσ=>compact_fn compact_facts (fun blk off cap zs w hH hs hc=>Tryz.slices_Compact_int blk off cap zs w hH hs hc) (fun a cap w=>Tryz.slices_Compact_int_empty a cap w) hσ
end Ab
end
section
namespace Ab
open Go Go.Proofs
open Tryz
def reverse_facts:R7 prog 58:=⟨_,func58,rfl,rfl⟩
def revL_ok:RevOk prog 58:=fun hσ=>rev_fn reverse_facts (fun blk off cap zs w hH hs=>Tryz.slices_Reverse_int blk off cap zs w hH hs) (fun p cap w=>Tryz.slices_Reverse_int_empty p cap w) hσ
end Ab
end
section
namespace Ab
open Go Go.Proofs
open Tryz
def sortF_facts:R7 prog 115:=⟨_,func115,rfl,rfl⟩
def sortF_LLi64_ok:SortFOk prog 115:=fun h j v z _ _ _ q hl=>sortF_fn sortF_facts h j v z (fun β _ enc h1 B j g E blk off cap d w F c J e u=>Tryz.slices_SortFunc_f115 enc h1 B j g E blk off cap d w F c J e u) (fun p cap fv w=>Tryz.slices_SortFunc_none_f115 (α:=Unit) p cap fv w) q hl
end Ab
end
section
namespace Ab
open Go
def aa3{α:Type}{l:List α}{k:Nat}:ix l (k:Int)=l[k]? :=by simp[ix]
def n5{α:Type}{l:List α}{i:Int}(c:0<=i)(h1:i<hY l):∃a,ix l i=some a/\l[i.toNat]? =some a:=by
 have h:i.toNat<hY l:=by omega
 exact⟨l[i.toNat],by simp[ix,c,h],by simp[h]⟩
def u6{α:Type}{l:List α}{i:Int}{a:α}(h:ix l i=some a):0<=i/\i<hY l/\l[i.toNat]? =some a:=by unfold ix at h;split at h;have:=(lG.1 h).1;exact⟨by assumption,by omega,h⟩;cases h
def u9{n:Int}(h1: -9223372036854775808<=n)(h2:n<=9223372036854775807):w64 n=n:=w64_eq ⟨h1,h2⟩
def forN_inv{S:Type}{body:Int->S->Option S}(P:Int->S->Prop):∀(k:Nat) (i:Int) (s:S),P i s->
  (∀j s,i<=j->j<i+k->P j s->∃s',body j s=some s'/\P (j+1) s')->∃s',forN body k i s=some s'/\P (i+k) s'
 |0,i,s,h,_=>⟨s,rfl,by simpa using h⟩
 |k+1,i,s,h,c=>by obtain⟨s1,h1,h2⟩:=c i s (gG _) (by omega) h;obtain⟨e,q,u⟩:=forN_inv P k (i+1) s1 h2 (fun j s g1 v=>c j s (by omega) (by omega));exact⟨e,by simp only[forN,h1];exact q,by rw[show i+((k+1:Nat):Int)=i+1+k by omega];exact u⟩
def F2{S:Type}{body:Int->S->Option S}{n:Int}(P:Int->S->Prop){s:S}(h:0<=n)(c:P 0 s)
  (e:∀j s,0<=j->j<n->P j s->∃s',body j s=some s'/\P (j+1) s'):∃s',forR 0 n body s=some s'/\P n s':=by
 obtain⟨s',h1,h2⟩:=forN_inv P (n - 0).toNat 0 s c (fun j s g1 q=>e j s g1 (by omega))
 exact⟨s',h1,by rwa [show(0:Int)+((n - 0).toNat:Int)=n by omega] at h2⟩
def rngN_inv{S O:Type}{body:Int->S->Option (S⊕O)}(P:Int->S->Prop)(Q:O->Prop):∀(k:Nat) (i:Int) (s:S),P i s->
  (∀j s,i<=j->j<i+k->P j s->(∃s',body j s=some (.inl s')/\P (j+1) s')\/∃o,body j s=some (.inr o)/\Q o)->
  (∃s',rngN body k i s=some (.inl s')/\P (i+k) s')\/∃o,rngN body k i s=some (.inr o)/\Q o
 |0,i,s,h,_=>.inl ⟨s,rfl,by simpa using h⟩
 |k+1,i,s,h,q=>by rcases q i s (gG _) (by omega) h with⟨s1,h1,h2⟩|⟨o,h1,h2⟩;rcases rngN_inv P Q k (i+1) s1 h2 (fun j s g1 v=>q j s (by omega) (by omega)) with⟨u,c,e⟩|⟨o,c,e⟩;exact .inl ⟨u,by simp only[rngN,h1];exact c,by rw[show i+((k+1:Nat):Int)=i+1+k by omega];exact e⟩;exact .inr ⟨o,by simp only[rngN,h1];exact c,e⟩;exact .inr ⟨o,by simp only[rngN,h1],h2⟩
def az2{S O:Type}{body:Int->S->Option (S⊕O)}{n:Int}(P:Int->S->Prop)(Q:O->Prop){s:S}(q:0<=n)(c:P 0 s)
  (e:∀j s,0<=j->j<n->P j s->(∃s',body j s=some (.inl s')/\P (j+1) s')\/∃o,body j s=some (.inr o)/\Q o):
  (∃s',rngX 0 n body s=some (.inl s')/\P n s')\/∃o,rngX 0 n body s=some (.inr o)/\Q o:=by
 rcases rngN_inv P Q (n - 0).toNat 0 s c (fun j s g1 u=>e j s g1 (by omega)) with⟨s',h1,h2⟩|h
 ·exact .inl ⟨s',h1,by rwa [show(0:Int)+((n - 0).toNat:Int)=n by omega] at h2⟩
 ·exact .inr h
def LoopN_inv{S O:Type}{body:S->Option (S⊕O)}(P:S->Prop)(Q:O->Prop)(μ:S->Nat)(c:∀s,P s->(∃s',body s=some (.inl s')/\P s'/\μ s'<μ s)\/∃o,body s=some (.inr o)/\Q o):
  ∀(k:Nat) (s:S),μ s<k->P s->∃o,T4 body k s=some o/\Q o
 |0,s,h,_=>by omega
 |k+1,s,h,hs=>by rcases c s hs with⟨s',h1,h2,j⟩|⟨o,h1,h2⟩;obtain⟨o,g1,e⟩:=LoopN_inv P Q μ c k s' (by omega) h2;exact⟨o,by simp only[T4,h1];exact g1,e⟩;exact⟨o,by simp only[T4,h1],h2⟩
def M9{S O:Type}{body:S->Option (S⊕O)}(P:S->Prop)(Q:O->Prop)(μ:S->Nat){s:S}(hs:P s)
  (c:∀s,P s->(∃s',body s=some (.inl s')/\P s'/\μ s'<μ s)\/∃o,body s=some (.inr o)/\Q o):∃o,Loop body s=some o/\Q o:=by
 obtain⟨o,h1,h2⟩:=LoopN_inv P Q μ c (μ s+1) s (by omega) hs
 exact⟨o,as6.2 ⟨_,h1⟩,h2⟩
/-! ### Two loops that do the same -/
def rngN_eq{S O:Type}{b1 b2:Int->S->Option (S⊕O)}(P:Int->S->Prop):∀(k:Nat) (i:Int) (s:S),P i s->
  (∀j s,i<=j->j<i+k->P j s->b1 j s=b2 j s/\b1 j s ≠ none/\∀s',b1 j s=some (.inl s')->P (j+1) s')->
  rngN b1 k i s=rngN b2 k i s/\rngN b1 k i s ≠ none/\∀s',rngN b1 k i s=some (.inl s')->P (i+k) s'
 |0,i,s,h,_=>⟨rfl,by simp[rngN],fun s' hs=>by simp only[rngN,Option.some.injEq,Sum.inl.injEq] at hs;subst hs;simpa using h⟩
 |k+1,i,s,h,c=>by
  obtain⟨h1,h2,q⟩:=c i s (gG _) (by omega) h;simp only[rngN];rw[<- h1];cases e:b1 i s with
  |none=>exact absurd e h2
  |some x=>
   cases x with
   |inr o=>exact⟨rfl,by simp,fun s' hs=>by simp at hs⟩
   |inl s1=>
    dsimp only
    have:=rngN_eq (b1:=b1) (b2:=b2) P k (i+1) s1 (q s1 e) (fun j s g1 u=>c j s (by omega) (by omega))
    rwa [show i+1+(k:Int)=i+((k+1:Nat):Int) by omega] at this
def rngX_eq{S O:Type}{b1 b2:Int->S->Option (S⊕O)}{n:Int}(P:Int->S->Prop){s:S}(h:0<=n)(c:P 0 s)
  (e:∀j s,0<=j->j<n->P j s->b1 j s=b2 j s/\b1 j s ≠ none/\∀s',b1 j s=some (.inl s')->P (j+1) s'):
  rngX 0 n b1 s=rngX 0 n b2 s/\rngX 0 n b1 s ≠ none/\∀s',rngX 0 n b1 s=some (.inl s')->P n s':=by
 have:=rngN_eq P (n - 0).toNat 0 s c (fun j s g1 q=>e j s g1 (by omega))
 rwa [show(0:Int)+((n - 0).toNat:Int)=n by omega] at this
end Ab
end
section
namespace Ab
open Go
noncomputable def dec(p:Prop):Bool:=@decide p (Classical.propDecidable p)
@[simp] theorem q8 {p:Prop}:dec p=true↔p:=by simp[dec]
@[simp] theorem dec_false {p:Prop}:dec p=false↔¬ p:=by simp[dec]
@[simp] theorem P5 {p:Prop}:(!dec p)=dec (¬ p):=by by_cases h:p<;>simp[dec,h]
def ap9{p:Prop}[Decidable p]:decide p=dec p:=by by_cases h:p<;>simp[dec,h]
def o9{p:Prop}(h:p):dec p=true:=q8.2 h
def A5{p:Prop}(h:¬ p):dec p=false:=dec_false.2 h
def W6{p q:Prop}(h:p↔q):dec p=dec q:=by rw[propext h]
def dec_and{p q:Prop}:(dec p && dec q)=dec (p/\q):=by by_cases h:p<;>by_cases g:q<;>simp[dec,h,g]
def dec_or{p q:Prop}:(dec p||dec q)=dec (p\/q):=by by_cases h:p<;>by_cases g:q<;>simp[dec,h,g]
def ifP{α:Type}{p:Prop}{a b:α}(h:p):(if dec p=true then a else b)=a:=if_pos (o9 h)
def ifN{α:Type}{p:Prop}{a b:α}(h:¬ p):(if dec p=true then a else b)=b:=if_neg fun g=>h (q8.1 g)
def ifNN{α:Type}{p:Prop}{a b:α}(h:p):(if dec (¬ p)=true then a else b)=b:=ifN (not_not_intro h)
def ix_ltN{α:Type}{l:List α}{k:Nat}(h:k<hY l):ix l (k:Int)=some l[k]:=by rw[aa3];simp[h]
def y5{α:Type}{l:List α}{i:Int}{a:α}(h:ix l i=some a):a ∈ l:=List.mem_of_getElem? (u6 h).2.2
def D6{α:Type}{l:List α}{a:α}(h:a ∈ l):∃i:Int,0<=i/\i<hY l/\ix l i=some a:=by obtain⟨k,hk⟩:=List.getElem?_of_mem h;exact⟨k,by omega,by have:=(lG.1 hk).1;omega,by rw[aa3,hk]⟩
def ac9{α:Type}{l:List α}{i j:Int}{x:α}(e:0<=i)(h1:i<hY l)(c:0<=j):ix (l.set i.toNat x) j=if j=i then some x else ix l j:=by simp only[ix,c,if_true,List.getElem?_set];by_cases h:j=i;subst h;rw[if_pos rfl,if_pos rfl,if_pos (by omega)];rw[if_neg h,if_neg (by omega)]
def V9{O:Type}{body:Int->Unit->Option (Unit⊕O)}{n:Int}(g:Int->Option O)(v:0<=n)
  (z:∀j,0<=j->j<n->(∀i,0<=i->i<j->g i=none)->body j ()=some (match g j with|none=>.inl ()|some o=>.inr o)):
  (rngX 0 n body ()=some (.inl ())/\∀j,0<=j->j<n->g j=none)\/∃j o,0<=j/\j<n/\g j=some o/\(∀i,0<=i->i<j->g i=none)/\rngX 0 n body ()=some (.inr o):=by
 rcases az2 (body:=body) (n:=n) (fun j _=>∀i,0<=i->i<j->g i=none) (fun o=>∃j,0<=j/\j<n/\g j=some o/\∀i,0<=i->i<j->g i=none) (s:=()) v (fun i h1 h2=>by omega) (fun j s u h1 e=>by
  have:=z j u h1 e;cases c:g j with
  |none=>rw[c] at this;exact .inl ⟨(),this,fun i h2 q=>by rcases gV (gS q) with h|h;exact e i h2 h;rw[h,c]⟩
  |some o=>rw[c] at this;exact .inr ⟨o,this,j,u,h1,c,e⟩) with⟨s',h1,h2⟩|⟨o,h1,j,h2,q,B,E⟩
 ·exact .inl ⟨h1,h2⟩
 ·exact .inr ⟨j,o,h2,q,B,E,h1⟩
def rng_list{α O:Type}{l:List α}{body:Int->Unit->Option (Unit⊕O)}(q:α->Prop)(b:O)
  (v:∀j a,ix l j=some a->(q a/\body j ()=some (.inl ()))\/(¬ q a/\body j ()=some (.inr b))):
  rngX 0 (hY l:Int) body ()=some (if dec (∀a ∈ l,q a)=true then .inl () else .inr b):=by
 rcases V9 (body:=body) (n:=(hY l:Int)) (fun j=>match ix l j with|some a=>if dec (q a)=true then none else some b|none=>none) (by omega) (fun j e h1 _=>by obtain⟨a,h2,_⟩:=n5 e h1;rw[h2];rcases v j a h2 with⟨u,c⟩|⟨u,c⟩;rw[c];simp[u];rw[c];simp[u]) with⟨h1,h2⟩|⟨j,o,e,h1,h2,_,c⟩
 ·rw[h1,if_pos]
  rw[q8]
  intro a z
  obtain⟨i,g1,B,E⟩:=D6 z
  have:=h2 i g1 B
  rw[E] at this
  simpa using this
 ·rw[c]
  obtain⟨a,g1,_⟩:=n5 e h1
  rw[g1] at h2
  simp only[q8] at h2
  split at h2
  ·cases h2
  ·rename_i F
   cases h2
   rw[if_neg]
   rw[q8]
   exact fun h=>F (o9 (h a (y5 g1)))
abbrev Inc(l:Li):Prop:=l.Pairwise (· < ·)
def inc_of_adj:∀{l:Li},(∀(k:Nat) a b,l[k]? =some a->l[k+1]? =some b->a<b)->Inc l
 |[],_=>.nil
 |[_],_=>by simp
 |a::b::l,h=>by have q:Inc (b::l):=inc_of_adj fun k x y h1 h2=>h (k+1) x y (by simpa using h1) (by simpa using h2);have e:a<b:=h 0 a b rfl rfl;refine gE.2 ⟨fun c j=> ?_,q⟩;rcases gF.1 j with rfl|j;exact e;exact Int.lt_trans e ((gE.1 q).1 c j)
def Inc.get{l:Li}(h:Inc l){i j:Nat}{a b:Int}(hi:l[i]? =some a)(e:l[j]? =some b)(c:i<j):a<b:=by obtain⟨h1,rfl⟩:=lG.1 hi;obtain⟨h2,rfl⟩:=lG.1 e;exact gH.1 h i j h1 h2 c
def Inc.ext:∀{l m:Li},Inc l->Inc m->(∀x,x ∈ l↔x ∈ m)->l=m
 |[],[],_,_,_=>rfl
 |[],b::m,_,_,h=>absurd ((h b).2 (by simp)) (by simp)
 |a::l,[],_,_,h=>absurd ((h a).1 (by simp)) (by simp)
 |a::l,b::m,hl,u,h=>by
  obtain⟨j,v⟩:=gE.1 hl;obtain⟨q,z⟩:=gE.1 u;have c:a=b:=by rcases gF.1 ((h a).1 (by simp)) with e|e;exact e;rcases gF.1 ((h b).2 (by simp)) with e'|e';exact e'.symm;have:=j b e';have:=q a e;omega
  subst c;rw[Inc.ext v z fun x=>⟨fun hx=> ?_,fun hx=> ?_⟩];rcases gF.1 ((h x).1 (by simp[hx])) with e|e;have:=j x hx;omega;exact e;rcases gF.1 ((h x).2 (by simp[hx])) with e|e;have:=q x hx;omega;exact e
def Inc.filter{l:Li}(h:Inc l)(p:Int->Bool):Inc (l.filter p):=List.Pairwise.filter p h
def nums(lo:Int):Nat->Li
 |0=>[]
 |k+1=>lo::nums (lo+1) k
def ae1{x:Int}:∀{k:Nat} {lo:Int},x ∈ nums lo k↔lo<=x/\x<lo+k
 |0,lo=>by simp[nums]
 |k+1,lo=>by rw[nums,gF,ae1 (k:=k)];omega
def ay5:∀(k:Nat) (lo:Int),Inc (nums lo k)
 |0,_=>.nil
 |k+1,lo=>gE.2 ⟨fun x hx=>by have:=ae1.1 hx;omega,ay5 k (lo+1)⟩
def len_nums:∀(k:Nat) (lo:Int),(nums lo k).length=k
 |0,_=>rfl
 |k+1,lo=>by simp[nums,len_nums k]
noncomputable def N5(p:Int->Prop)(n:Int):Li:=(nums 0 n.toNat).filter fun x=>dec (p x)
def ae4{p:Int->Prop}{n x:Int}:x ∈ N5 p n↔0<=x/\x<n/\p x:=by rw[N5,List.mem_filter,ae1,q8];constructor;rintro ⟨⟨h1,h2⟩,c⟩;exact⟨h1,by omega,c⟩;rintro ⟨h1,h2,c⟩;exact⟨⟨h1,by omega⟩,c⟩
def av2(p:Int->Prop)(n:Int):Inc (N5 p n):=(ay5 _ _).filter _
def setOf_congr{p q:Int->Prop}{n:Int}(h:∀x,0<=x->x<n->(p x↔q x)):N5 p n=N5 q n:=by refine List.filter_congr fun x hx=>W6 ?_;have:=ae1.1 hx;exact h x (by omega) (by omega)
def SetN(l:Li)(n:Int):Prop:=Inc l/\∀x ∈ l,0<=x/\x<n
def az3(p:Int->Prop)(n:Int):SetN (N5 p n) n:=⟨av2 p n,fun x hx=>by have:=ae4.1 hx;exact⟨this.1,this.2.1⟩⟩
def SetN.eq{l:Li}{n:Int}(h:SetN l n):l=N5 (· ∈ l) n:=
 h.1.ext (av2 _ _) fun x=>⟨fun hx=>ae4.2 ⟨(h.2 x hx).1,(h.2 x hx).2,hx⟩,fun hx=>(ae4.1 hx).2.2⟩
def SetN.eq_of{l:Li}{n:Int}(h:SetN l n){p:Int->Prop}(hp:∀x,0<=x->x<n->(x ∈ l↔p x)):l=N5 p n:=
 h.eq.trans (setOf_congr hp)
def SetN.len{l:Li}{n:Int}(h:SetN l n):hY l<=n.toNat:=by rw[h.eq,N5];exact gW (gM _ _) (Nat.le_of_eq (len_nums _ _))
def Y8(n:Int):SetN [] n:=⟨.nil,by simp⟩
def forR_filter{α:Type}{l:List α}{b:Nat}{body:Int->List α->Option (List α)}(q:α->Prop)
  (B:∀j a c,ix l j=some a->(q a->body j c=app b c [a])/\(¬ q a->body j c=some c)) (h:List α) (hl:(hY h+hY l) * b<=140737488355328):
  forR 0 (hY l:Int) body h=some (h++l.filter fun a=>dec (q a)):=by
 obtain⟨s',h1,h2⟩:=F2 (body:=body) (n:=(hY l:Int)) (s:=h) (fun j c=>c=h++(l.take j.toNat).filter fun a=>dec (q a)) (by omega) (by simp) (fun j c E h1 z=>by
  obtain⟨a,g1,F⟩:=n5 E h1;have e:(j+1).toNat=j.toNat+1:=by omega
  have ht:l.take (j+1).toNat=l.take j.toNat++[a]:=by rw[e,gK,F];rfl
  by_cases v:q a;have u:app b c [a]=some (c++[a]):=by
   rw[app,if_pos];have J:((l.take j.toNat).filter fun a=>dec (q a)).length<=(l.take j.toNat).length:=gM _ _;rw[hJ] at J;have N:hY c+1<=hY h+hY l:=by rw[z,gX];omega
   refine gW (gT b ?_) hl;simpa using N
  refine⟨c++[a],by rw[(B j a c g1).1 v,u],?_⟩;rw[ht,gY,z];simp[v];refine⟨c,(B j a c g1).2 v,?_⟩;rw[ht,gY,z];simp[v])
 rw[h1,h2]
 simp
def forR_setOf{b:Nat}{n:Int}{body:Int->Li->Option Li}(q:Int->Prop)(E:0<=n)(hl:n.toNat * b<=140737488355328)
  (v:∀j c,0<=j->j<n->(q j->body j c=app b c [j])/\(¬ q j->body j c=some c)):forR 0 n body []=some (N5 q n):=by
 obtain⟨s',h1,h2⟩:=F2 (body:=body) (n:=n) (s:=[]) (fun j c=>c=N5 q j) E (by simp[N5,nums]) (fun j c z h1 B=>by
  have hs:N5 q (j+1)=N5 q j++if dec (q j)=true then [j] else []:=by refine(av2 q (j+1)).ext ?_ fun x=> ?_;refine gU.2 ⟨av2 _ _,by split<;>simp,fun a F b v=> ?_⟩;have:=ae4.1 F;split at v;simp at v;omega;cases v;rw[gI,ae4,ae4];by_cases u:q j;rw[if_pos (o9 u)];simp only[gO];refine⟨fun h=> ?_,fun h=> ?_⟩;by_cases e:x=j;exact .inr e;exact .inl ⟨h.1,by omega,h.2.2⟩;rcases h with h|rfl;exact⟨h.1,by omega,h.2.2⟩;exact⟨z,by omega,u⟩;rw[if_neg (by simpa using u)];simp only[List.not_mem_nil,or_false];refine⟨fun h=>⟨h.1,?_,h.2.2⟩,fun h=>⟨h.1,by omega,h.2.2⟩⟩;rcases gV (gS h.2.1) with e|e;exact e;rw[e] at h;exact absurd h.2.2 u
  by_cases u:q j;refine⟨c++[j],?_,by rw[hs,B,if_pos (o9 u)]⟩;rw[(v j c z h1).1 u,app,if_pos];have J:hY c<=j.toNat:=by rw[B];exact(az3 q j).len
  refine gW (gT b ?_) hl;simp;omega;refine⟨c,(v j c z h1).2 u,?_⟩;rw[hs,B,if_neg (by simpa using u),List.append_nil])
 rw[h1,h2]
end Ab
end
section
namespace Ab
open Go
def has_eq(l:Li)(n:Int):ref1_Has l n=some (dec (n ∈ l)):=by unfold ref1_Has;rw[rng_list (l:=l) (fun a=>a ≠ n) true (fun j a h=>by unfold ref1_Has_l1;rw[h];by_cases e:a=n<;>simp[e])];by_cases h:n ∈ l;rw[if_neg (by simp only[q8];exact fun g=>g n h rfl)];simp[h];rw[if_pos (by simp only[q8];exact fun a c e=>h (e ▸ c))];simp[h]
def disjoint_eq(a b:Li):ao8 a b=some (dec (∀x ∈ a,x ∉ b)):=by unfold ao8;rw[rng_list (l:=a) (fun x=>x ∉ b) false (fun j x h=>by unfold at0;rw[h];by_cases e:x ∈ b<;>simp[e,has_eq])];by_cases h:∀x ∈ a,x ∉ b;rw[if_pos (o9 h),o9 h];rfl;rw[if_neg (by rw[A5 h];simp),A5 h];rfl
def in_eq(n lo hi:Int):am1 n lo hi=some (dec (lo<=n/\n<=hi)):=by
 unfold am1;rw[ap9,ap9,dec_and]
def at_eq(c i:Int):R8 c i=some ⟨c,i⟩:=rfl
def stepOk(l:Li)(n j:Int):Prop:=∀a,ix l j=some a->(0<=a/\a<n)/\∀b,0<j->ix l (j - 1)=some b->b<a
def ap6{l:Li}{n:Int}:(∀j:Int,0<=j->j<hY l->stepOk l n j)↔SetN l n:=by constructor;intro h;refine⟨inc_of_adj fun k a b h1 h2=> ?_,fun x hx=> ?_⟩;have hk:=(lG.1 h2).1;have:=(h ((k+1:Nat):Int) (by omega) (by omega) b (by rw[aa3];exact h2)).2 a (by omega);rw[show((k+1:Nat):Int) - 1=(k:Nat) by omega] at this;exact this (by rw[aa3];exact h1);obtain⟨i,h1,h2,e⟩:=D6 hx;exact(h i h1 h2 x e).1;intro h j z h1 a c;refine⟨h.2 a (y5 c),fun b B q=> ?_⟩;obtain⟨_,_,u⟩:=u6 c;obtain⟨_,_,v⟩:=u6 q;exact h.1.get v u (by omega)
def at1(l:Li)(n:Int):F1 l n=some (dec (SetN l n)):=by
 unfold F1;rcases V9 (body:=ac3 l n) (n:=(hY l:Int)) (fun j=>if dec (stepOk l n j)=true then none else some false) (by omega) (fun j q h1 _=>by obtain⟨a,c,_⟩:=n5 (l:=l) q h1;unfold ac3;rw[c];simp only[oB];by_cases c1:a<0;rw[if_pos c1,if_neg];rfl;rw[q8];intro h;have:=(h a c).1;omega;rw[if_neg c1];by_cases v:n<=a;rw[if_pos v,if_neg];rfl;rw[q8];intro h;have:=(h a c).1;omega;rw[if_neg v];by_cases e:0<j;obtain⟨b,u,_⟩:=n5 (l:=l) (i:=j - 1) (by omega) (by omega);rw[if_pos e,u];simp only[oB];by_cases z:a<=b;rw[if_pos (by simpa using z),if_neg];rw[q8];intro h;have:=(h a c).2 b e u;omega;rw[if_neg (by simpa using z),if_pos];rw[q8];intro x hx;rw[c] at hx;cases hx;exact⟨by omega,fun y _ hy=>by rw[u] at hy;cases hy;omega⟩;rw[if_neg e];simp only[oB];rw[if_neg (by simp),if_pos];rw[q8];intro x hx;rw[c] at hx;cases hx;exact⟨by omega,fun y hy=>absurd hy e⟩) with⟨h1,h2⟩|⟨j,o,q,h1,h2,_,B⟩;rw[h1,o9];rfl;exact ap6.1 fun j g1 E=>by have:=h2 j g1 E;simpa using this
 rw[B];split at h2;cases h2;rename_i hs;cases h2;rw[A5];rfl;exact fun h=>hs (o9 (ap6.2 h j q h1))
def rIsSet_eq(l:Li){n:Int}(F: -9223372036854775808<n)(z:n<=9223372036854775807):W7 l n=some (dec (SetN l n)):=by
 unfold W7;rcases V9 (body:=ap0 l n) (n:=(hY l:Int)) (fun j=>if dec (stepOk l n j)=true then none else some false) (by omega) (fun j q h1 _=>by obtain⟨a,c,_⟩:=n5 (l:=l) q h1;unfold ap0;rw[c];simp only[oB,in_eq,u9 (n:=n - 1) (by omega) (by omega),P5];by_cases c1:0<=a/\a<=n - 1;rw[if_neg (by simpa using c1)];by_cases e:0<j;obtain⟨b,u,_⟩:=n5 (l:=l) (i:=j - 1) (by omega) (by omega);rw[if_pos e,u];simp only[oB];by_cases v:a<=b;rw[if_pos (by simpa using v),if_neg];rw[q8];intro h;have:=(h a c).2 b e u;omega;rw[if_neg (by simpa using v),if_pos];rw[q8];intro x hx;rw[c] at hx;cases hx;exact⟨by omega,fun y _ hy=>by rw[u] at hy;cases hy;omega⟩;rw[if_neg e];simp only[oB];rw[if_neg (by simp),if_pos];rw[q8];intro x hx;rw[c] at hx;cases hx;exact⟨by omega,fun y hy=>absurd hy e⟩;rw[if_pos (by simpa using c1),if_neg];rfl;rw[q8];intro h;have:=(h a c).1;omega) with⟨h1,h2⟩|⟨j,o,q,h1,h2,_,B⟩;rw[h1,o9];rfl;exact ap6.1 fun j g1 E=>by have:=h2 j g1 E;simpa using this
 rw[B];split at h2;cases h2;rename_i hs;cases h2;rw[A5];rfl;exact fun h=>hs (o9 (ap6.2 h j q h1))
def containsLoop{s:Li}(hs:Inc s)(hl:hY s<=1000000)(x:Int){i:Int}(J:0<=i)(h1:i<=hY s)(u:∀k a,0<=k->k<i->ix s k=some a->a<x):
  ∃h,Loop (O3 s x) i=some h/\i<=h/\h<=hY s/\(∀k a,0<=k->k<h->ix s k=some a->a<x)/\(∀a,ix s h=some a->x<=a):=by
 obtain⟨o,h2,F⟩:=M9 (body:=O3 s x) (fun j=>i<=j/\j<=hY s/\∀k a,0<=k->k<j->ix s k=some a->a<x) (fun h=>i<=h/\h<=hY s/\(∀k a,0<=k->k<h->ix s k=some a->a<x)/\(∀a,ix s h=some a->x<=a)) (fun j=>(hY s - j).toNat) (s:=i) ⟨gG _,h1,u⟩ (fun j ⟨g1,E,v⟩=>by unfold O3;by_cases c:j<hY s;obtain⟨a,z,_⟩:=n5 (l:=s) (i:=j) (by omega) c;rw[if_pos c,z];simp only[oB,decide_eq_true_eq];by_cases B:a<x;rw[if_pos B];rw[u9 (by omega) (by omega)];refine .inl ⟨j+1,rfl,⟨by omega,by omega,fun k b k0 k1 q=> ?_⟩,by omega⟩;by_cases e:k=j;subst e;rw[z] at q;cases q;exact B;exact v k b k0 (by omega) q;rw[if_neg B];exact .inr ⟨j,rfl,g1,E,v,fun b q=>by rw[z] at q;cases q;omega⟩;rw[if_neg c];exact .inr ⟨j,rfl,g1,E,v,fun b q=>by have:=(u6 q).2.1;omega⟩)
 exact⟨o,h2,F⟩
theorem av7{s part:Li}(hs:Inc s)(hp:Inc part)(hl:hY s<=1000000):J4 s part=some (dec (∀x ∈ part,x ∈ s)):=by
 unfold J4
 rcases az2 (body:=V5 s part) (n:=(hY part:Int)) (fun j i=>(0<=i/\i<=hY s/\∀k a,0<=k->k<i->ix s k=some a->∀m x,j<=m->ix part m=some x->a<x)/\∀m x,0<=m->m<j->ix part m=some x->x ∈ s) (fun o=>o=false/\¬ ∀x ∈ part,x ∈ s) (s:=0) (by omega) ⟨⟨by omega,by omega,fun k a h1 h2=>by omega⟩,fun m x h1 h2=>by omega⟩ (fun j i h0 h1 ⟨⟨g1,g2,g3⟩,g4⟩=>by
  obtain⟨x,hx,gx⟩:=n5 (l:=part) h0 h1
  unfold V5
  obtain⟨i',e1,e2,e3,e4,e5⟩:=containsLoop hs hl x g1 g2 (fun k a k0 k1 ha=>g3 k a k0 k1 ha j x (gG _) hx)
  rw[hx]
  simp only[oB,e1]
  have nin:(∀a,ix s i'=some a->x<a)->x ∉ s:=fun hgt hin=>by
   obtain⟨k,k0,k1,hk⟩:=D6 hin
   rcases gL k i' with c|c|c
   ·have:=e4 k x k0 c hk;omega
   ·subst c;have:=hgt x hk;omega
   ·obtain⟨b,hb,gb⟩:=n5 (l:=s) (i:=i') (by omega) (by omega)
    obtain⟨_,_,gk⟩:=u6 hk
    have:=hs.get gb gk (by omega)
    have:=e5 b hb
    omega
  by_cases c:i'=hY s
  ·rw[if_pos c]
   refine .inr ⟨false,rfl,rfl,fun h=> ?_⟩
   exact nin (fun a ha=>by have:=(u6 ha).2.1;omega) (h x (y5 hx))
  ·rw[if_neg c]
   obtain⟨b,hb,gb⟩:=n5 (l:=s) (i:=i') (by omega) (by omega)
   rw[hb]
   simp only[oB]
   have hxb:=e5 b hb
   by_cases c2:b=x
   ·subst c2
    rw[if_neg (by simp)]
    refine .inl ⟨i',rfl,⟨by omega,e3,fun k a k0 k1 ha m y hm hy=> ?_⟩,fun m y m0 m1 hy=> ?_⟩
    ·obtain⟨_,_,gy⟩:=u6 hy
     have:=hp.get gx gy (by omega)
     have:=e4 k a k0 k1 ha
     omega
    ·by_cases e:m=j
     ·subst e;rw[hx] at hy;cases hy;exact y5 hb
     ·exact g4 m y m0 (by omega) hy
   ·rw[if_pos (by simpa using c2)]
    refine .inr ⟨false,rfl,rfl,fun h=> ?_⟩
    exact nin (fun a ha=>by rw[hb] at ha;cases ha;omega) (h x (y5 hx))) with⟨s',h1,_,h2⟩|⟨o,h1,rfl,h2⟩
 ·rw[h1,o9]
  ·rfl
  ·intro x hx
   obtain⟨m,m0,m1,hm⟩:=D6 hx
   exact h2 m x m0 m1 hm
 ·rw[h1,A5 h2];rfl
end Ab
end
section
namespace Ab
open Go
def half_eq{i j:Int}(h0:0<=i)(h1:i<=j)(h2:j<=1000000):w64 (shrW .u64 ((IntKind.u64).wrap (w64 (i+j))) 1)=(i+j) / 2:=by
 rw[u9 (n:=i+j) (by omega) (by omega),IntKind.wrap_u64,Int.emod_eq_of_lt (by omega) (by omega)];have:shrW .u64 (i+j) 1=(i+j) / 2:=by simp only[shrW,IntKind.bits];rw[show min (1:Int).toNat 64=1 by rfl,Int.fdiv_eq_ediv_of_nonneg _ (by decide)];rfl
 rw[this];exact u9 (by omega) (by omega)
def less_eq(a b:Int):ae3 a b=some (decide (a<b)):=by simp[ae3,K8]
def bsearch_eq{h:Li}(hs:Inc h)(hl:hY h<=500000)(t:Int):∃i,y9 h t=some (i,dec (t ∈ h))/\0<=i/\i<=hY h/\(∀k a,0<=k->k<i->ix h k=some a->a<t)/\(∀k a,i<=k->ix h k=some a->t<=a):=by
 unfold y9;obtain⟨i,h1,h2,h3,h4,h5⟩:=M9 (body:=D4 h t) (fun p=>(0<=p.1/\p.1<=p.2/\p.2<=hY h)/\(∀k a,0<=k->k<p.1->ix h k=some a->a<t)/\(∀k a,p.2<=k->ix h k=some a->t<=a))
  (fun i=>0<=i/\i<=hY h/\(∀k a,0<=k->k<i->ix h k=some a->a<t)/\(∀k a,i<=k->ix h k=some a->t<=a)) (fun p=>(p.2 - p.1).toNat) (s:=(0,(hY h:Int)))
  ⟨⟨by simp,by simp,by simp⟩,fun k a h1 h2=>by simp at h2;omega,fun k a h1 h2=>by have:=(u6 h2).2.1;simp at h1;omega⟩ (fun⟨i,j⟩ ⟨⟨g1,g2,E⟩,F,J⟩=>by
  dsimp only at g1 g2 E F J ⊢
  unfold D4
  dsimp only
  by_cases c:i<j
  ·rw[if_pos c,half_eq g1 g2 (by omega)]
   obtain⟨a,u,N⟩:=n5 (l:=h) (i:=(i+j) / 2) (by omega) (by omega)
   rw[u]
   simp only[oB,less_eq,decide_eq_true_eq]
   by_cases v:a<t
   ·rw[if_pos v,u9 (by omega) (by omega)]
    refine .inl ⟨_,rfl,⟨⟨by dsimp only;omega,by dsimp only;omega,E⟩,fun k b k0 k1 q=> ?_,J⟩,by dsimp only;omega⟩
    dsimp only at k1
    obtain⟨_,_,z⟩:=u6 q
    by_cases e:k=(i+j) / 2
    ·subst e;rw[u] at q;cases q;exact v
    ·have:=hs.get z N (by omega);omega
   ·rw[if_neg v]
    refine .inl ⟨_,rfl,⟨⟨g1,by dsimp only;omega,by dsimp only;omega⟩,F,fun k b k0 q=> ?_⟩,by dsimp only;omega⟩
    dsimp only at k0
    obtain⟨_,_,z⟩:=u6 q
    by_cases e:k=(i+j) / 2
    ·subst e;rw[u] at q;cases q;omega
    ·have:=hs.get N z (by omega);omega
  ·rw[if_neg c]
   have:i=j:=by omega
   subst this
   exact .inr ⟨i,rfl,g1,E,F,J⟩)
 rw[h1];simp only[oB];refine⟨i,?_,h2,h3,h4,h5⟩;have B:(∀a,ix h i=some a->a ≠ t)->t ∉ h:=fun O U=>by obtain⟨k,k0,k1,hk⟩:=D6 U;rcases gL k i with c|c|c;have:=h4 k t k0 c hk;omega;subst c;exact O t hk rfl;obtain⟨b,q,z⟩:=n5 (l:=h) (i:=i) (by omega) (by omega);obtain⟨_,_,gk⟩:=u6 hk;have:=hs.get z gk (by omega);have:=h5 i b (gG _) q;omega
 by_cases c:i<hY h;obtain⟨a,u,N⟩:=n5 (l:=h) (i:=i) (by omega) c;rw[if_pos c,u];simp only[oB];by_cases v:a=t;subst v;rw[if_pos rfl,o9 (y5 u)];rfl;rw[if_neg v];simp only[S5,decide_true,Bool.not_true,gZ,if_false,oB];rw[A5 (B fun b q=>by rw[u] at q;cases q;exact v)];rw[if_neg c];simp only[oB];rw[A5 (B fun b q=>by have:=(u6 q).2.1;omega)]
def bsearch2{c:Li}(hs:Inc c)(hl:hY c<=500000)(t:Int):∃i,y9 c t=some (i,dec (t ∈ c)):=
 let ⟨i,h,_⟩:=bsearch_eq hs hl t
 ⟨i,h⟩
def containsFunc_eq{l:Li}{f:Int->Option Bool}(p:Int->Prop)(hf:∀x ∈ l,f x=some (dec (p x))):C3 l f=some (dec (∃x ∈ l,p x)):=by unfold C3 K7;rcases V9 (body:=G4 l f) (n:=(hY l:Int)) (fun j=>if dec (∀a,ix l j=some a->¬ p a)=true then none else some j) (by omega) (fun j e h1 _=>by obtain⟨a,u,_⟩:=n5 (l:=l) e h1;unfold G4;rw[u];simp only[oB,hf a (y5 u)];by_cases c:p a;rw[if_pos (o9 c),if_neg (by rw[q8];exact fun h=>h a rfl c)];rw[if_neg (by rw[A5 c];simp),if_pos (o9 fun b q=>by cases q;exact c)]) with⟨h1,h2⟩|⟨j,o,e,h1,h2,_,v⟩;rw[h1];simp only[oB];rw[A5];rfl;rintro ⟨x,hx,hp⟩;obtain⟨i,g1,z,B⟩:=D6 hx;have:=h2 i g1 z;split at this;rename_i h;exact q8.1 h x B hp;cases this;rw[v];split at h2;cases h2;rename_i h;cases h2;simp only[oB];rw[o9];simp[e];simp only[q8] at h;obtain⟨a,g1,_⟩:=n5 (l:=l) e h1;refine⟨a,y5 g1,?_⟩;rcases Classical.em (p a) with c|c;exact c;exact absurd (fun b q=>by rw[g1] at q;cases q;exact c) h
def meets_eq{a b:Li}(c:Inc b)(hl:hY b<=500000):ad4 a b=some (dec (∃x ∈ a,x ∈ b)):=by unfold ad4;rw[containsFunc_eq (fun x=>x ∈ b) (fun x _=>by unfold ae7;obtain⟨i,h⟩:=bsearch2 c hl x;rw[h];rfl)];rfl
/-! ### Sorted, and equal neighbours made one -/
def compact_spec{l:Li}(hs:l.Pairwise (· <= ·)):Inc (ah3 l)/\∀x,x ∈ ah3 l↔x ∈ l:=by
 have key:∀m,m<=hY l->Inc (Go.Lib.compactUpTo l.toArray m)/\(∀x,x ∈ Go.Lib.compactUpTo l.toArray m↔x ∈ l.take m):=by
  intro m;induction m with
  |zero=>intro _;simp[Go.Lib.compactUpTo]
  |succ m B=>
   intro N
   obtain⟨h1,h2⟩:=B (by omega)
   have j:m<hY l:=by omega
   have hd:l.toArray[m]! =l[m]:=by simp[j]
   have ht:l.take (m+1)=l.take m++[l[m]]:=by rw[gK];simp[j]
   rw[Go.Lib.compactUpTo_succ,ht]
   by_cases hk:Go.Lib.keeps l.toArray m=true
   ·rw[if_pos hk,hd]
    refine⟨gU.2 ⟨h1,by simp,fun a E b v=> ?_⟩,fun x=>by rw[gI,gI,h2]⟩
    simp only[gO] at v
    subst v
    have u:=(h2 a).1 E
    obtain⟨i,hi,rfl⟩:=List.mem_iff_getElem.1 u
    rw[hJ] at hi
    rw[List.getElem_take]
    simp only[Go.Lib.keeps,decide_eq_true_eq] at hk
    rcases hk with hk|hk
    ·omega
    ·have q:l.toArray[m - 1]! =l[m - 1]:=by simp[show m - 1<hY l by omega]
     rw[hd,q] at hk
     have O:l[m - 1]<=l[m]:=gH.1 hs (m - 1) m (by omega) j (by omega)
     have U:l[i]<=l[m - 1]:=by
      rcases Nat.lt_or_ge i (m - 1) with c|c;exact gH.1 hs i (m - 1) (by omega) (by omega) c;have:i=m - 1:=by omega
      subst this;exact gG _
     omega
   ·rw[if_neg hk,List.append_nil]
    refine⟨h1,fun x=> ?_⟩
    rw[h2,gI]
    refine⟨.inl,fun h=> ?_⟩
    rcases h with h|h
    ·exact h
    ·simp only[gO] at h
     subst h
     have F:m ≠ 0:=fun e=>hk (by simp[Go.Lib.keeps,e])
     have q:l.toArray[m - 1]! =l[m - 1]:=by simp[show m - 1<hY l by omega]
     have J:l[m]=l[m - 1]:=by simp only[Go.Lib.keeps,decide_eq_true_eq,not_or] at hk;have z:l.toArray[m]! =l.toArray[m - 1]! :=Classical.not_not.1 (fun h=>hk.2 h);rw[hd,q] at z;exact z
     rw[J,List.mem_take_iff_getElem]
     exact⟨m - 1,by omega,rfl⟩
 obtain⟨h1,h2⟩:=key (hY l) (Nat.le_refl _);refine⟨?_,fun x=> ?_⟩;simpa[ah3,Go.Lib.compact] using h1;have:=h2 x;rw[List.take_length] at this;simpa[ah3,Go.Lib.compact] using this
def srt_spec(l:Li):(srt l).Pairwise (· <= ·)/\∀x,x ∈ srt l↔x ∈ l:=by refine⟨?_,fun x=>by simp[srt]⟩;have:=gR (le:=fun x y:Int=>decide (x<=y)) (fun a b c h1 h2=>by simp at h1 h2 ⊢;omega) (fun a b=>by simp;omega) l;refine this.imp fun h=>by simpa using h
def sortL_eq{l:Li}(h:hY l<4611686018427387904):sortL l=some (srt l):=by rw[sortL_srt,if_pos h]
def update_inc{s add del:Li}(hd:Inc del)(hl:hY del<=500000)(h1:hY s<=500000)(h2:hY add<=500000):
  ∃r,K9 s add del=some r/\Inc r/\∀x,x ∈ r↔(x ∈ s/\x ∉ del)\/x ∈ add:=by
 unfold K9
 rw[forR_filter (l:=s) (b:=8) (fun a=>a ∉ del) (fun j a c h=>by obtain⟨i,hi⟩:=bsearch2 hd hl a;unfold ai3;rw[h];simp only[oB,hi,P5];refine⟨fun e=> ?_,fun e=> ?_⟩;rw[if_pos (o9 e)];cases app 8 c [a]<;>rfl;rw[if_neg (by simpa using e)];rfl) [] (by simp;omega)]
 simp only[oB,List.nil_append]
 have q:(s.filter fun a=>dec (a ∉ del)).length<=hY s:=gM _ _
 rw[show app 8 (s.filter fun a=>dec (a ∉ del)) add=some ((s.filter fun a=>dec (a ∉ del))++add) by rw[app,if_pos];omega]
 simp only[oB]
 rw[sortL_eq (by rw[gX];omega)]
 simp only[oB]
 obtain⟨u,v⟩:=srt_spec ((s.filter fun a=>dec (a ∉ del))++add)
 obtain⟨z,B⟩:=compact_spec u
 refine⟨_,rfl,z,fun x=> ?_⟩
 rw[B,v,gI,List.mem_filter,q8]
def update_eq{s add del:Li}{n:Int}(u:n<=1000)(hd:Inc del)(hl:hY del<=500000)(hs:SetN s n)(c:SetN add n):
  K9 s add del=some (N5 (fun x=>(x ∈ s/\x ∉ del)\/x ∈ add) n):=by
 have h1:=hs.len;have h2:=c.len
 obtain⟨r,j,q,e⟩:=update_inc (s:=s) (add:=add) hd hl (by omega) (by omega)
 rw[j,SetN.eq_of (n:=n) ⟨q,fun x hx=> ?_⟩ (fun x _ _=>e x)]
 rcases(e x).1 hx with h|h
 ·exact hs.2 x h.1
 ·exact c.2 x h
end Ab
end
section
namespace Ab
open Go
def ab0(o:j7)(n:Int):Prop:=SetN o.pre n/\SetN o.add n/\SetN o.del n/\∀x ∈ o.add,x ∉ o.del
def al0(o:j7):Prop:=0<=o.cost/\o.cost<=100
noncomputable def aa4(o:j7)(n:Int):Int:=if dec (ab0 o n)=true then if dec (al0 o)=true then 0 else 3 else 5
structure s6(t:i4):Prop where
 n0:0<=t.facts
 n1:t.facts<=24
 init:SetN t.init t.facts
 goal:SetN t.goal t.facts
 ops:hY t.operators<=40
 op:∀o ∈ t.operators,ab0 o t.facts/\al0 o
def opCode_zero{o:j7}{n:Int}:aa4 o n=0↔ab0 o n/\al0 o:=by unfold aa4;by_cases h:ab0 o n;rw[if_pos (o9 h)];by_cases g:al0 o;rw[if_pos (o9 g)];simp[h,g];rw[if_neg (by rw[A5 g];simp)];simp[g];rw[if_neg (by rw[A5 h];simp)];simp[h]
def operator_eq{o:j7}{n:Int}(v:0<=n)(h1:n<=24):V0 o n=some (aa4 o n):=by unfold V0 aa4;simp only[at1,oB,P5];have bad:¬ ab0 o n->dec (ab0 o n)=true->False:=fun h g=>h (q8.1 g);by_cases c1:SetN o.pre n;rw[if_neg (by simpa using c1)];by_cases j:SetN o.add n;rw[if_neg (by simpa using j)];by_cases c:SetN o.del n;rw[if_neg (by simpa using c)];have hl:=c.len;rw[meets_eq c.1 (by omega)];simp only[oB];by_cases q:∃x ∈ o.add,x ∈ o.del;rw[if_pos (o9 q),if_neg];rw[q8];obtain⟨x,g1,u⟩:=q;exact fun h=>h.2.2.2 x g1 u;have hs:ab0 o n:=⟨c1,j,c,fun x g1 u=>q ⟨x,g1,u⟩⟩;rw[if_neg (by rw[A5 q];simp),if_pos (o9 hs)];by_cases e:al0 o;rw[if_pos (o9 e),if_neg];have:=e.1;have:=e.2;simp;omega;rw[if_neg (fun h=>e (q8.1 h)),if_pos];unfold al0 at e;simp;omega;rw[if_pos (by simpa using c)];simp only[oB,if_true];rw[if_neg fun h=>c (q8.1 h).2.2.1];rw[if_pos (by simpa using j)];simp only[oB,if_true];rw[if_neg fun h=>j (q8.1 h).2.1];rw[if_pos (by simpa using c1)];simp only[oB,if_true];rw[if_neg fun h=>c1 (q8.1 h).1]
def aw3(t:i4):∃f,y4 t=some f/\am0 t=some f/\((f=⟨0,0⟩/\s6 t)\/(f.code ≠ 0/\¬ s6 t)):=by
 unfold y4 am0;simp only[in_eq,at_eq,oB,P5];by_cases c1:0<=t.facts/\t.facts<=24;rw[if_neg (by simp;omega),ifNN c1];simp only[at1,rIsSet_eq (n:=t.facts) _ (by omega) (by omega),oB,P5];by_cases u:SetN t.init t.facts;rw[ifNN u,ifNN u];by_cases v:SetN t.goal t.facts;rw[ifNN v,ifNN v];by_cases B:40<(hY t.operators:Int);rw[if_pos B,if_pos B];exact⟨_,rfl,rfl,.inr ⟨by simp,fun h=>by have:=h.ops;omega⟩⟩;rw[if_neg B,if_neg B];have J:∀j:Int,0<=j->j<hY t.operators->∃o,ix t.operators j=some o/\O1 t j ()=some (if aa4 o t.facts=0 then .inl () else .inr ⟨aa4 o t.facts,j⟩)/\Q7 t j ()=some (if aa4 o t.facts=0 then .inl () else .inr ⟨aa4 o t.facts,j⟩):=fun j q h1=>by
  obtain⟨o,ho,_⟩:=n5 (l:=t.operators) q h1;refine⟨o,ho,?_,?_⟩;unfold O1;rw[ho];simp only[oB,operator_eq c1.1 c1.2];by_cases e:aa4 o t.facts=0;rw[if_pos e,if_pos e];rw[if_neg e,if_neg e];unfold Q7;rw[ho];simp only[oB,rIsSet_eq (n:=t.facts) _ (show -9223372036854775808<t.facts by omega) (show t.facts<=9223372036854775807 by omega),disjoint_eq,in_eq,at_eq,P5];have hp:(if dec (¬ SetN o.pre t.facts)=true then some true else if dec (¬ SetN o.add t.facts)=true then some true else if dec (¬ SetN o.del t.facts)=true then some true else some (dec (¬ ∀x ∈ o.add,x ∉ o.del)))=some (dec (¬ ab0 o t.facts)):=by unfold ab0;by_cases g1:SetN o.pre t.facts;rw[if_neg (by simpa using g1)];by_cases c:SetN o.add t.facts;rw[if_neg (by simpa using c)];by_cases E:SetN o.del t.facts;rw[if_neg (by simpa using E)];exact congrArg some (W6 ⟨fun h g=>h g.2.2.2,fun h g=>h ⟨g1,c,E,g⟩⟩);rw[if_pos (by simpa using E),o9 (fun g=>E g.2.2.1)];rw[if_pos (by simpa using c),o9 (fun g=>c g.2.1)];rw[if_pos (by simpa using g1),o9 (fun g=>g1 g.1)]
  rw[hp];simp only[oB];unfold aa4;by_cases g1:ab0 o t.facts;rw[if_neg (by simpa using g1),if_pos (o9 g1)];by_cases c:al0 o;rw[ifP c,ifNN (p:=0<=o.cost/\o.cost<=100) c];rfl;rw[ifN c,ifP (p:=¬ (0<=o.cost/\o.cost<=100)) c];rfl;rw[if_pos (o9 g1),if_neg (fun h=>g1 (q8.1 h))];rfl
 have z:rngX 0 (hY t.operators:Int) (O1 t) ()=rngX 0 (hY t.operators:Int) (Q7 t) ():=
  (rngX_eq (fun _ _=>True) (by omega) trivial (fun j s q h1 _=>by obtain⟨o,_,O,N⟩:=J j q h1;exact⟨by rw[O,N],by rw[O];simp,fun _ _=>Y⟩)).1
 rcases V9 (body:=Q7 t) (n:=(hY t.operators:Int)) (fun j=>match ix t.operators j with|some o=>if aa4 o t.facts=0 then none else some (⟨aa4 o t.facts,j⟩:TFault)|none=>none) (by omega) (fun j q h1 _=>by obtain⟨o,F,_,N⟩:=J j q h1;rw[N,F];dsimp only;split<;>rfl) with⟨h1,h2⟩|⟨j,f,q,h1,h2,_,U⟩
 rw[z,h1];refine⟨⟨0,0⟩,rfl,rfl,.inl ⟨rfl,c1.1,c1.2,u,v,by omega,fun o ho=> ?_⟩⟩;obtain⟨j,g0,g1,c⟩:=D6 ho;have:=h2 j g0 g1;rw[c] at this;dsimp only at this;split at this;rename_i e;exact opCode_zero.1 e;cases this;rw[z,U];obtain⟨o,F,_,_⟩:=J j q h1;rw[F] at h2;dsimp only at h2;split at h2;cases h2;rename_i e;cases h2;exact⟨_,rfl,rfl,.inr ⟨e,fun h=>e (opCode_zero.2 (h.op o (y5 F)))⟩⟩;rw[ifP v,ifP v];exact⟨_,rfl,rfl,.inr ⟨by simp,fun h=>v h.goal⟩⟩;rw[ifP u,ifP u];exact⟨_,rfl,rfl,.inr ⟨by simp,fun h=>u h.init⟩⟩;rw[if_pos (by simp;omega),if_pos (o9 c1)];exact⟨_,rfl,rfl,.inr ⟨by simp,fun h=>c1 ⟨h.n0,h.n1⟩⟩⟩
def rSteps_eq{n:Int}(h0:0<=n)(h1:n<=9223372036854775807)(plan:Li):∃f,aj8 n plan=some f/\((f=⟨0,0⟩/\(hY plan)<=60/\∀x ∈ plan,0<=x/\x<n)\/(f.code ≠ 0/\¬ (hY plan<=60/\∀x ∈ plan,0<=x/\x<n))):=by unfold aj8;by_cases c:60<(hY plan:Int);rw[if_pos c];exact⟨⟨2, -5⟩,rfl,.inr ⟨by simp,fun h=>by omega⟩⟩;rw[if_neg c];rw[rng_list (l:=plan) (fun x=>0<=x/\x<n) (⟨3, -6⟩:TFault) (fun j a h=>by unfold ao6;rw[h];simp only[oB,in_eq,at_eq,u9 (n:=n - 1) (by omega) (by omega),P5];by_cases g:0<=a/\a<n;rw[if_neg (by simp;omega)];exact .inl ⟨g,rfl⟩;rw[if_pos (by rw[q8];omega)];exact .inr ⟨g,rfl⟩)];by_cases g:∀x ∈ plan,0<=x/\x<n;rw[if_pos (o9 g)];exact⟨_,rfl,.inl ⟨rfl,by omega,g⟩⟩;rw[if_neg (fun h=>g (q8.1 h))];exact⟨_,rfl,.inr ⟨by simp,fun h=>g h.2⟩⟩
/-! ### What operators and plans do -/
def noOp:j7:=⟨[],[],[],0⟩
def opAt(t:i4)(op:Int):j7:=(t.operators[op.toNat]?).getD noOp
def ix_op{t:i4}{op:Int}(c:0<=op)(h1:op<hY t.operators):ix t.operators op=some (opAt t op):=by obtain⟨a,h2,e⟩:=n5 c h1;rw[h2,opAt,e];rfl
def s6.at{t:i4}(h:s6 t){op:Int}(c:0<=op)(h1:op<hY t.operators):ab0 (opAt t op) t.facts/\al0 (opAt t op):=h.op _ (y5 (ix_op c h1))
def can(t:i4)(s:Li)(op:Int):Prop:=∀x ∈ (opAt t op).pre,x ∈ s
noncomputable def aft(t:i4)(s:Li)(op:Int):Li:=N5 (fun x=>x ∈ (opAt t op).add\/x ∈ s/\x ∉ (opAt t op).del) t.facts
def setN_aft(t:i4)(s:Li)(op:Int):SetN (aft t s op) t.facts:=az3 _ _
def can_eq{t:i4}(ht:s6 t){op:Int}(c:0<=op)(h1:op<hY t.operators){s:Li}(hs:SetN s t.facts):ak3 t s op=some (dec (can t s op)):=by have:=ht.n1;have:=hs.len;unfold ak3;rw[ix_op c h1];simp only[oB];rw[av7 hs.1 (ht.at c h1).1.1.1 (by omega)];rfl
def next_eq{t:i4}(ht:s6 t){op:Int}(c:0<=op)(h1:op<hY t.operators){s:Li}(hs:SetN s t.facts):ab4 t s op=some (aft t s op):=by have:=ht.n1;obtain⟨⟨_,h,e,_⟩,_⟩:=ht.at c h1;have hl:=e.len;unfold ab4;rw[ix_op c h1];simp only[oB];rw[update_eq (n:=t.facts) (by omega) e.1 (by omega) hs h];simp only[oB,aft];exact congrArg some (setOf_congr fun x _ _=>Or.comm)
noncomputable def ends(t:i4):Li->Li->Option Li
 |s,[]=>some s
 |s,op::r=>if dec (can t s op)=true then ends t (aft t s op) r else none
def aw6{t:i4}:∀{p q s:Li},ends t s (p++q)=(ends t s p).bind fun e=>ends t e q
 |[],q,s=>rfl
 |op::r,q,s=>by simp only[List.cons_append,ends];split;exact aw6;rfl
def works(t:i4)(s plan:Li):Prop:=∃e,ends t s plan=some e/\∀x ∈ t.goal,x ∈ e
end Ab
end
section
namespace Ab
open Go
def setN1(a:Int){n:Int}(c:0<=a)(h1:a<n):SetN [a] n:=⟨by simp,by simp[c,h1]⟩
end Ab
end
section
namespace Ab
open Go
def llt:Li->Li->Prop
 |[],[]=>False
 |[],_::_=>True
 |_::_,[]=>False
 |a::l,b::m=>a<b\/a=b/\llt l m
def ae8:∀l:Li,¬ llt l l
 |[]=>id
 |a::l=>fun h=>by rcases h with h|⟨_,h⟩;omega;exact ae8 l h
def ad5:∀{a b c:Li},llt a b->llt b c->llt a c
 |[],[],_,h,_=>h.elim
 |[],_::_,[],_,h=>h.elim
 |[],_::_,_::_,_,_=>trivial
 |_::_,[],_,h,_=>h.elim
 |_::_,_::_,[],_,h=>h.elim
 |x::a,y::b,z::c,h,g=>by rcases h with h|⟨rfl,h⟩<;>rcases g with g|⟨rfl,g⟩;exact .inl (by omega);exact .inl h;exact .inl g;exact .inr ⟨rfl,ad5 h g⟩
def Y3:∀a b:Li,llt a b\/a=b\/llt b a
 |[],[]=>.inr (.inl rfl)
 |[],_::_=>.inl trivial
 |_::_,[]=>.inr (.inr trivial)
 |x::a,y::b=>by rcases gL x y with h|rfl|h;exact .inl (.inl h);rcases Y3 a b with h|rfl|h;exact .inl (.inr ⟨rfl,h⟩);exact .inr (.inl rfl);exact .inr (.inr (.inr ⟨rfl,h⟩));exact .inr (.inr (.inl h))
def au9{a b:Li}(h:llt a b)(g:llt b a):False:=ae8 a (ad5 h g)
noncomputable def cmpL(a b:Li):Int:=if dec (llt a b)=true then -1 else if dec (a=b)=true then 0 else 1
def ab3{a b:Li}:cmpL a b<0↔llt a b:=by unfold cmpL;by_cases h:llt a b;rw[ifP h];simp[h];rw[ifN h];split<;>simp[h]
def cmpL_eq{a b:Li}:cmpL a b=0↔a=b:=by unfold cmpL;by_cases h:llt a b;rw[ifP h];constructor;intro e;omega;rintro rfl;exact absurd h (ae8 _);rw[ifN h];by_cases g:a=b;rw[ifP g];simp[g];rw[ifN g];simp[g]
def cmpInt_eq(x y:Int):V8 x y=some (if x<y then -1 else if y<x then 1 else 0):=by unfold V8 K8;simp only[decide_true,Bool.not_true,oB,gZ,if_false];split;rfl;split<;>rfl
def llt_drop:∀{a b:Li} (k:Nat),k<=hY a->k<=hY b->a.take k=b.take k->(llt a b↔llt (a.drop k) (b.drop k))
 |_,_,0,_,_,_=>by simp
 |[],_,k+1,h,_,_=>by simp at h
 |_::_,[],k+1,_,h,_=>by simp at h
 |x::a,y::b,k+1,h1,h2,c=>by simp only[List.take_succ_cons,List.cons.injEq] at c;obtain⟨rfl,c⟩:=c;simp only[List.drop_succ_cons];rw[<- llt_drop k (by simpa using h1) (by simpa using h2) c];simp[llt]
def compare_eq(a b:Li):B0 a b=some (cmpL a b):=by
 unfold B0;rcases az2 (body:=I5 a b) (n:=(hY a:Int)) (s:=()) (fun j _=>j<=hY b/\a.take j.toNat=b.take j.toNat) (fun o=>o=cmpL a b) (by omega) ⟨by omega,by simp⟩ (fun j _ F j1 ⟨k1,J⟩=>by
  obtain⟨x,hx,N⟩:=n5 (l:=a) F j1;have u:=(lG.1 N).2;unfold I5;rw[hx];simp only[oB];have hd:=llt_drop (a:=a) (b:=b) j.toNat (by omega) (by omega) J;have q:a.drop j.toNat=x::a.drop (j.toNat+1):=by rw[<- u];exact gQ (by omega)
  by_cases c:(hY b:Int)<=j;rw[if_pos c];refine .inr ⟨_,rfl,?_⟩;have v:b.drop j.toNat=[]:=List.drop_of_length_le (by omega);rw[q,v] at hd;unfold cmpL;rw[ifN (fun h=>(hd.1 h).elim),ifN];rintro rfl;omega;rw[if_neg c];obtain⟨y,hy,O⟩:=n5 (l:=b) (i:=j) F (by omega);have z:=(lG.1 O).2;have v:b.drop j.toNat=y::b.drop (j.toNat+1):=by rw[<- z];exact gQ (by omega)
  rw[hy];simp only[oB,cmpInt_eq];rw[q,v] at hd;have B:x ≠ y->a ≠ b:=fun h e=>by subst e;rw[hx] at hy;cases hy;exact h rfl
  rcases gL x y with h|rfl|h;rw[if_pos h,if_neg (by decide)];refine .inr ⟨_,rfl,?_⟩;unfold cmpL;rw[ifP (hd.2 (.inl h))];simp only[Int.lt_irrefl,if_false,if_true];refine .inl ⟨(),Y,by omega,?_⟩;rw[show(j+1).toNat=j.toNat+1 by omega,gK,gK,N,O,J];rw[if_neg (show ¬ x<y by omega),if_pos h,if_neg (by decide)];refine .inr ⟨_,rfl,?_⟩;unfold cmpL;rw[ifN,ifN (B (by omega))];intro g;rcases hd.1 g with g|⟨g,_⟩<;>omega) with⟨_,E,r2,U⟩|⟨o,E,rfl⟩
 rw[E];simp only[oB];have hd:=llt_drop (a:=a) (b:=b) (hY a) (Nat.le_refl _) (by omega) (by simpa using U);have q:a.drop (hY a)=[]:=by simp
 rw[q] at hd;have e3:a=b.take (hY a):=by simpa using U
 by_cases c:(hY a:Int)<hY b;rw[if_pos c];have:b.drop (hY a) ≠ []:=by simp;omega
 unfold cmpL;rw[ifP];rw[hd];cases h:b.drop (hY a) with
 |nil=>exact absurd h this
 |cons x l=>trivial
 rw[if_neg c];have:a=b:=by rw[e3,List.take_of_length_le (by omega)]
 rw[cmpL_eq.2 this];rw[E];rfl
def cmp_ok:CmpOk B0 cmpL:=by refine⟨compare_eq,⟨fun x=> ?_,fun x y z h1 h2=> ?_,fun x y z h1 h2=> ?_⟩,fun a b h1 h2=> ?_⟩;simp only[Go.Proofs.ltOf,decide_eq_false_iff_not,ab3];exact ae8 x;simp only[Go.Proofs.ltOf,decide_eq_true_eq,ab3] at h1 h2 ⊢;exact ad5 h1 h2;simp only[Go.Proofs.ltOf,decide_eq_false_iff_not,ab3] at h1 h2 ⊢;intro h;rcases Y3 x y with g|rfl|g;exact h1 g;exact h2 h;exact h2 (ad5 g h);rw[ab3] at h1 h2;rcases Y3 a b with g|g|g;exact absurd g h1;exact g;exact absurd g h2
def lltB_iff:∀{a b:Li},lltB a b=true↔llt a b
 |[],[]=>by simp[lltB,llt]
 |[],_::_=>by simp[lltB,llt]
 |_::_,[]=>by simp[lltB,llt]
 |x::l,y::m=>by simp only[lltB,llt];by_cases h:x<y;simp[h];by_cases e:x=y;simp[h,e,lltB_iff];simp[h,e]
def ai7{a b:Li}:lltB a b=false↔¬ llt a b:=by rw[<- lltB_iff];simp
def sortLL_ms{l:LL}(h:hY l<4611686018427387904):sortLL l=some (l.mergeSort fun x y=>decide (¬ cmpL y x<0)):=by
 have e:∀a b c:Li,lltB b a=false->lltB c b=false->lltB c a=false:=fun a b c h1 h2=>by rw[ai7] at h1 h2 ⊢;intro h;rcases Y3 b a with g|g|g;exact h1 g;subst g;exact h2 h;exact h2 (ad5 h g)
 rw[sortLL,if_pos h,srtB_eq (m:=l.mergeSort fun x y=>decide (¬ cmpL y x<0)) e (fun a b h=>ai7.2 fun g=>au9 (lltB_iff.1 h) g) (fun a b h1 h2=>by rcases Y3 a b with g|g|g;exact absurd g (ai7.1 h1);exact g;exact absurd g (ai7.1 h2)) (List.mergeSort_perm ..)];have:=gR (le:=fun x y:Li=>decide (¬ cmpL y x<0)) (fun a b c h1 h2=>by
  simp only[decide_eq_true_eq,ab3] at h1 h2 ⊢;exact ai7.1 (e a b c (ai7.2 h1) (ai7.2 h2))) (fun a b=>by
  simp only[Bool.or_eq_true,decide_eq_true_eq,ab3];by_cases h:llt b a;exact .inr fun g=>au9 h g;exact .inl h) l
 exact this.imp fun h=>by simpa[ab3,ai7] using h
def sortLL_fl{l l':LL}(h:sortLL l=some l'):ak8 B0 l=some l':=by
 have hl:hY l<4611686018427387904:=by unfold sortLL at h;split at h;assumption;cases h
 rw[sortFL_eq hl cmp_ok,<- sortLL_ms hl,h]
end Ab
end
