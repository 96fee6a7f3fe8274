/-
  Texts that the proof stands on.
-/
import Derived.Test.YtigdhmjenhoncaaGreatDoorKRwTopStrong3
import Derived.Shelf.Small.Bits
import Derived.Shelf.Strconv.Itoa0
import Derived.Shelf.Strconv.Itoa1
import Derived.Shelf.LaysM
import Derived.Shelf.Strconv.Itoa2
import Derived.Shelf.Sort.Plain
import Derived.Shelf.Bits.Mul64
import Derived.Shelf.Slices.Reverse
import Derived.Shelf.Slices.Equal
import Derived.Ground.Names2Prog
import Derived.Shelf.Slices.Clone
import Derived.Shelf.Slices.SearchI
import Derived.Shelf.Slices.Cells
import Derived.Shelf.Slices.In.SortNone
import Derived.Shelf.Slices.Empties
import Derived.Shelf.Slices.Empties2
import Derived.Ground.SlgnProg
import Derived.Shelf.SlicesE.Clone
import Derived.Ground.SlsfProg
import Derived.Shelf.SlSortCmp.Insertion
import Derived.Shelf.SlSortCmp.SiftDown1
import Derived.Shelf.SlSortCmp.HeapSort1
import Derived.Shelf.SlSortCmp.Insertion1
import Derived.Shelf.SlSortCmp.Median1
import Derived.Shelf.SlSortCmp.Pivot1
import Derived.Shelf.SlSortCmp.ReverseRange1
import Derived.Shelf.SlSortCmp.PartialInsertion1
import Derived.Shelf.SlSortCmp.PartitionEqual1
import Derived.Shelf.SlSortCmp.Partition1
import Derived.Shelf.SlSortCmp.Pdq1
import Derived.Shelf.SlSortCmp.NoneTotal
import Derived.Test.YtigdhmjenhoncaaGreatDoorProg
set_option linter.all false
open Option renaming bind->gE,getD->gP
open List renaming map->gF,pairwise_cons->gG,mem_cons->gH,pairwise_iff_getElem->gJ,mem_append->gK,drop_eq_getElem_cons->gL,take_add_one->gM,length_filter_le->gO,mem_singleton->gQ,pairwise_mergeSort->gR,drop_of_length_le->gS,pairwise_append->gV,length_append->gY,filter_append->gZ,length_take->hZ,take_length->ia,length->ib
open Int renaming le_refl->gI,lt_trichotomy->gN,le_of_lt_add_one->gT,lt_or_eq_of_le->gW
open Nat renaming mul_le_mul_right->gU,le_trans->gX
open Bool renaming false_eq_true->hJ,and_eq_true->hY
section
namespace Ab
open Go Go.Proofs
set_option linter.all false
abbrev d8(l:Li):List I:=[.sl 1 (l.map intI)]
structure h9 where
  pre:Li
  add:Li
  del:Li
  cost:Int
abbrev j8(v:h9):List I:=[.sl 1 (gF intI v.pre),.sl 1 (gF intI v.add),.sl 1 (gF intI v.del),.val (.int .i64 v.cost)]
structure j3 where
  facts:Int
  init:Li
  goal:Li
  operators:List h9
structure ar3 where
  fx:Int
  fy:Int
  signed:Bool
  code:Int
structure Truntime_boundsError where
  fx:Int
  fy:Int
  signed:Bool
  code:Int
structure w8 where
  add:Li
  del:Li
  weight:Int
abbrev z1(v:w8):List I:=[.sl 1 (gF intI v.add),.sl 1 (gF intI v.del),.val (.int .i64 v.weight)]
structure m5 where
  pre:Li
  outcomes:List w8
  cost:Int
abbrev u5(v:m5):List I:=[.sl 1 (gF intI v.pre),.sl 3 (gF z1 v.outcomes),.val (.int .i64 v.cost)]
structure ao1 where
  facts:Int
  init:Li
  goal:Li
  operators:List m5
structure d5 where
  facts:Int
  init:Li
  goal:Li
  operators:List m5
abbrev eTOpenTask(v:d5):List I:=[.val (.int .i64 v.facts),.sl 1 (gF intI v.init),.sl 1 (gF intI v.goal),.sl 3 (gF u5 v.operators)]
structure aB7 where
  pre:Li
  outcomes:List w8
  cost:Int
structure e9 where
  state:Li
  operator:Int
abbrev j9(v:e9):List I:=[.sl 1 (gF intI v.state),.val (.int .i64 v.operator)]
structure TCode_int_Index_int where
  code:Int
  index:Int
structure g8 where
  code:Int
  index:Int
structure ar1 where
  facts:Int
  init:Li
  goal:Li
  operators:List h9
abbrev U9(v:Int×Int):List I:=[.val (.int .i64 v.1),.val (.int .i64 v.2)]
structure TAdd_int_Del_int_Weight_int where
  add:Li
  del:Li
  weight:Int
structure aE3 where
  pre:Li
  add:Li
  del:Li
  cost:Int
structure TState_int_Operator_int where
  state:Li
  operator:Int
structure Tnode_int_from_int_step_int where
  node:LL
  ffrom:Int
  step:Int
structure f8 where
  node:LL
  ffrom:Int
  step:Int
abbrev f9(v:f8):List I:=[.sl 1 (gF d8 v.node),.val (.int .i64 v.ffrom),.val (.int .i64 v.step)]
structure C4 where
  ffrom:Int
  cost:Int
abbrev m6(v:C4):List I:=[.val (.int .u32 v.ffrom),.val (.int .i64 v.cost)]
structure Tspace_Step_uint32 where
  op:Int
  cost:Int
  to:Int
structure TOp_int_Cost_int_To_uint32 where
  op:Int
  cost:Int
  to:Int
structure Tfrom_uint32_cost_int where
  ffrom:Int
  cost:Int
structure l8 where
  pre:Int
  add:Int
  del:Int
  cost:Int
abbrev f5(v:l8):List I:=[.val (.int .u32 v.pre),.val (.int .u32 v.add),.val (.int .u32 v.del),.val (.int .i64 v.cost)]
structure az5 where
  start:Int
  goal:Int
  ops:List l8
structure Tspace_Words where
  start:Int
  goal:Int
  ops:List l8
structure ay7 where
  pre:Int
  add:Int
  del:Int
  cost:Int
structure aD0 where
  item:Int
  key:Int
  time:Int
  fat:Int
structure b9 where
  item:Int
  key:Int
  time:Int
  fat:Int
abbrev b8(v:b9):List I:=[.val (.int .u32 v.item),.val (.int .i64 v.key),.val (.int .i64 v.time),.val (.int .i64 v.fat)]
abbrev preOp(o:h9):List I:=[.sl 1 (o.pre.map intI)]
abbrev postOp(o:h9):List I:=[.sl 1 (o.del.map intI),.val (.int .i64 o.cost)]
abbrev omOp(r:Nat)(M:List h9):Ent:=omat r 4 preOp postOp h9.add 1 intI M
abbrev vpOp(M:List h9)(i n m:Nat)(a:h9):Blk:=vecP preOp postOp h9.add 1 intI 4 M i (n,[]) m a
def ae6:Option j3:=some (⟨1,[],[0],[(⟨[],[0],[],2⟩:h9)]⟩:j3)
def ab1(l:Li)(nv:Int):Int->Unit->Option (Unit⊕Bool):=fun t3 _=>gE (ix l t3) fun a12=>gE (if a12<0 then some true else if nv<=a12 then some true else if 0<t3 then gE (ix l (t3 - 1)) fun a29=>some (decide (a12<=a29)) else some false) fun t4=>if t4=true then some (.inr false) else some (.inl ())
def w6(l:Li)(nv:Int):Option Bool:=(gE (rngX 0 (l.length:Int) (ab1 l nv) ()) fun| .inl _=>some true| .inr x=>some x)
def I5(xv:Int):Option Bool:=some (!(decide (xv=xv)))
def ad3(xv:Int)(yv:Int):Option Bool:=gE (gE (I5 xv) fun a6=>if a6=true then gE (I5 yv) fun a9=>if(!a9)=true then some true else some (decide (xv<yv)) else some (decide (xv<yv))) fun t3=>some t3
def P9(xv:Int):Option Bool:=some (!(decide (xv=xv)))
def C5(xv:Li)(target:Int):(Int×Int)->Option ((Int×Int)⊕Int):=fun(iv3,j4)=>if iv3<j4 then gE (ix xv (w64 (shrW .u64 ((IntKind.u64).wrap (w64 (iv3+j4))) 1))) fun a24=>gE (ad3 a24 target) fun a27=>if a27=true then some (.inl (w64 ((w64 (shrW .u64 ((IntKind.u64).wrap (w64 (iv3+j4))) 1))+1),j4)) else some (.inl (iv3,w64 (shrW .u64 ((IntKind.u64).wrap (w64 (iv3+j4))) 1))) else some (.inr iv3)
noncomputable def v7(xv:Li)(target:Int):Option (Int×Bool):=gE (Loop (C5 xv target) (0,(xv.length:Int))) fun iv5=>gE (if iv5<(xv.length:Int) then gE (ix xv iv5) fun a38=>if a38=target then some true else gE (ix xv iv5) fun a45=>gE (P9 a45) fun a47=>if a47=true then gE (P9 target) fun a50=>some a50 else some false else some false) fun t8=>some (iv5,t8)
noncomputable def ad7(xv:Int)(c2:Li):Option Bool:=gE (v7 c2 xv) fun a9=>some a9.2
def F1(sv:Li)(fv:Int->Option Bool):Int->Unit->Option (Unit⊕Int):=fun t3 _=>gE (ix sv t3) fun a14=>gE (fv a14) fun a16=>if a16=true then some (.inr t3) else some (.inl ())
def I2(sv:Li)(fv:Int->Option Bool):Option Int:=(gE (rngX 0 (sv.length:Int) (F1 sv fv) ()) fun| .inl _=>some (-1)| .inr x=>some x)
def B1(sv:Li)(fv:Int->Option Bool):Option Bool:=gE (I2 sv fv) fun a7=>some (decide (0<=a7))
noncomputable def V6(av:Li)(bv:Li):Option Bool:=gE (B1 av (fun y1=>ad7 y1 bv)) fun a7=>some a7
noncomputable def S5(ov:h9)(facts:Int):Option Int:=gE (gE (w6 ov.pre facts) fun a9=>if(!a9)=true then some true else gE (w6 ov.add facts) fun a15=>if(!a15)=true then some true else gE (w6 ov.del facts) fun a22=>if(!a22)=true then some true else gE (V6 ov.add ov.del) fun a30=>some a30) fun t3=>if t3=true then some 5 else if((decide (ov.cost<0))||(decide (100<ov.cost)))=true then some 3 else some 0
noncomputable def L3(t:j3):Int->Unit->Option (Unit⊕g8):=fun t6 _=>gE (ix t.operators t6) fun a44=>gE (S5 a44 t.facts) fun a49=>if a49=0 then some (.inl ()) else some (.inr (⟨a49,t6⟩:g8))
noncomputable def A9(t:j3):Option g8:=if((decide (t.facts<0))||(decide (24<t.facts)))=true then some (⟨3, -1⟩:g8) else gE (w6 t.init t.facts) fun a21=>if(!a21)=true then some (⟨5, -2⟩:g8) else gE (w6 t.goal t.facts) fun a29=>if(!a29)=true then some (⟨5, -3⟩:g8) else if 40<(t.operators.length:Int) then some (⟨2, -1⟩:g8) else(gE (rngX 0 (t.operators.length:Int) (L3 t) ()) fun| .inl _=>some (⟨0,0⟩:g8)| .inr x=>some x)
noncomputable def J7(t:j3)(unknown:Li):Option g8:=gE (A9 t) fun a7=>if(!((decide (a7.code=0)) && (decide (a7.index=0))))=true then some a7 else if 4<(unknown.length:Int) then some (⟨2, -8⟩:g8) else gE (w6 unknown t.facts) fun a21=>if(!a21)=true then some (⟨5, -8⟩:g8) else some (⟨0,0⟩:g8)
def L5(sv:Li)(a12:Int):Int->Option (Int⊕Int):=fun iv5=>gE (if iv5<(sv.length:Int) then gE (ix sv iv5) fun a21=>some (decide (a21<a12)) else some false) fun t7=>if t7=true then some (.inl (w64 (iv5+1))) else some (.inr iv5)
noncomputable def T0(sv:Li)(part:Li):Int->Int->Option (Int⊕Bool):=fun t4 iv3=>gE (ix part t4) fun a12=>gE (Loop (L5 sv a12) iv3) fun iv6=>gE (if iv6=(sv.length:Int) then some true else gE (ix sv iv6) fun a35=>some (!(decide (a35=a12)))) fun t11=>if t11=true then some (.inr false) else some (.inl iv6)
noncomputable def v8(sv:Li)(part:Li):Option Bool:=(gE (rngX 0 (part.length:Int) (T0 sv part) 0) fun| .inl iv3=>some true| .inr x=>some x)
noncomputable def ag0(sv:Li)(c2:Li):Option Bool:=gE (v8 sv c2) fun a6=>some (!a6)
def z7(sv:LL)(fv:Li->Option Bool):Int->Unit->Option (Unit⊕Int):=fun t3 _=>gE (ix sv t3) fun a14=>gE (fv a14) fun a16=>if a16=true then some (.inr t3) else some (.inl ())
def F4(sv:LL)(fv:Li->Option Bool):Option Int:=(gE (rngX 0 (sv.length:Int) (z7 sv fv) ()) fun| .inl _=>some (-1)| .inr x=>some x)
def u4(sv:LL)(fv:Li->Option Bool):Option Bool:=gE (F4 sv fv) fun a7=>some (decide (0<=a7))
noncomputable def O6(worlds:LL)(facts:Li):Option Bool:=gE (u4 worlds (fun y1=>ag0 y1 facts)) fun a7=>some (!a7)
noncomputable def ai9(sv:Li)(del:Li):Int->Li->Option Li:=fun t5 c4=>gE (gE (ix sv t5) fun a16=>gE (v7 del a16) fun a21=>if(!a21.2)=true then gE (app 8 c4 [a16]) fun a29=>some a29 else some c4) fun c6=>some c6
noncomputable def B8(sv:Li)(add:Li)(del:Li):Option Li:=(gE (forR 0 (sv.length:Int) (ai9 sv del) []) fun c4=>gE (app 8 c4 add) fun a33=>gE (sortL a33) fun a35=>some (ah1 a35))
noncomputable def Y6(t:j3)(sv:Li)(op:Int):Option Li:=gE (ix t.operators op) fun a11=>gE (B8 sv a11.add a11.del) fun a18=>some a18
def T6(xv:Int)(yv:Int):Option Int:=gE (I5 xv) fun a8=>gE (I5 yv) fun a10=>if a8=true then if a10=true then some 0 else some (-1) else if a10=true then some 1 else if xv<yv then some (-1) else if yv<xv then some 1 else some 0
def G5(s11:Li)(s22:Li):Int->Unit->Option (Unit⊕Int):=fun t3 _=>gE (ix s11 t3) fun a14=>if(s22.length:Int)<=t3 then some (.inr 1) else gE (ix s22 t3) fun a22=>gE (T6 a14 a22) fun a26=>if a26=0 then some (.inl ()) else some (.inr a26)
def slices_Compare_int_int(s11:Li)(s22:Li):Option Int:=(gE (rngX 0 (s11.length:Int) (G5 s11 s22) ()) fun| .inl _=>if(s11.length:Int)<(s22.length:Int) then some (-1) else some 0| .inr x=>some x)
def R2(s11:Li)(s22:Li):Int->Unit->Option (Unit⊕Bool):=fun t4 _=>gE (ix s11 t4) fun a18=>gE (ix s22 t4) fun a22=>if a18=a22 then some (.inl ()) else some (.inr false)
def B3(s11:Li)(s22:Li):Option Bool:=if(s11.length:Int)=(s22.length:Int) then(gE (rngX 0 (s11.length:Int) (R2 s11 s22) ()) fun| .inl _=>some true| .inr x=>some x) else some false
abbrev H0(l:LL):b6:=[.one (vec 1 d8 l)]
def y4(l:LL)(kv54:Int):Int->((LL)×Int)->Option ((LL)×Int):=fun k258 (c56,kv57)=>gE (gE (ixV c56 (0+kv54) ((l.length:Int) - kv54) k258) fun a41=>gE (ixV c56 (0+kv54) ((l.length:Int) - kv54) (k258 - 1)) fun a46=>gE (B3 a41 a46) fun a48=>if(!a48)=true then gE (ixV c56 (0+kv54) ((l.length:Int) - kv54) k258) fun a54=>gE (ix c56 kv57) fun a56=>some (c56.set kv57.toNat a54,w64 (kv57+1)) else some (c56,kv57)) fun⟨c59,kv60⟩=>some (c59,kv60)
def u9(l:LL):Int->Unit->Option (Unit⊕(LL)):=fun kv54 _=>gE (ix l kv54) fun a21=>gE (ix l (kv54 - 1)) fun a26=>gE (B3 a21 a26) fun a28=>if a28=true then gE (cutV (l.length:Int) kv54 (l.length:Int)) fun u31=>(gE (forR 1 ((l.length:Int) - kv54) (y4 l kv54) (l,kv54)) fun⟨c56,kv57⟩=>gE (cutV (c56.length:Int) kv57 (c56.length:Int)) fun u61=>gE (cutV ((clrL c56 (0+kv57) ((c56.length:Int) - kv57) []).length:Int) 0 kv57) fun u64=>some (.inr (w5 (clrL c56 (0+kv57) ((c56.length:Int) - kv57) []) 0 kv57))) else some (.inl ())
def A4(l:LL):Option (LL):=if(l.length:Int)<2 then some l else(gE (rngX 1 (l.length:Int) (u9 l) ()) fun| .inl _=>some l| .inr x=>some x)
abbrev aC5(l:LL):b6:=[.one (vec 1 d8 l)]
def C7(l:LL):Option (LL):=gE (sortLL l) fun a4=>gE (A4 a4) fun a6=>some a6
noncomputable def T5(t:j3)(worlds:LL)(op:Int):Int->(LL)->Option (LL):=fun t5 c4=>gE (ix worlds t5) fun a14=>gE (Y6 t a14 op) fun a20=>gE (app 24 c4 [a20]) fun a22=>some a22
noncomputable def K8(t:j3)(worlds:LL)(op:Int):Option (LL):=(gE (forR 0 (worlds.length:Int) (T5 t worlds op) []) fun c4=>gE (C7 c4) fun a25=>some a25)
abbrev ax1(t:j3)(worlds:LL):b6:=[]
def J5(t:j3)(worlds:LL):Option Unit:=some ()
def ai1(unknown:Li)(t4:Int):Int->Li->Option Li:=fun t6 c5=>gE (gE (ix unknown t6) fun a21=>if Go.bits .and .i64 (shrW .i64 t4 t6) 1=1 then gE (app 8 c5 [a21]) fun a31=>some a31 else some c5) fun c7=>some c7
noncomputable def Q0(t:j3)(unknown:Li):Int->(LL)->Option (LL):=fun t4 c3=>(gE (forR 0 (unknown.length:Int) (ai1 unknown t4) []) fun c5=>gE (B8 t.init c5 unknown) fun a38=>gE (app 24 c3 [a38]) fun a40=>some a40)
noncomputable def R4(t:j3)(unknown:Li):Option (LL):=gE (chk0 (unknown.length:Int)) fun u12=>if shlW .i64 1 (unknown.length:Int)<=9223372036854775807 then(gE (forR 0 (shlW .i64 1 (unknown.length:Int)) (Q0 t unknown) []) fun c3=>gE (C7 c3) fun a43=>some a43) else none
def S4(v:LL):Option Bool:=some false
def internal_strconv_small(iv:Int):Option ByteArray:=if iv<10 then gE (subS (⟨#[48,49,50,51,52,53,54,55,56,57,97,98,99,100,101,102,103,104,105,106,107,108,109,110,111,112,113,114,115,116,117,118,119,120,121,122]⟩:ByteArray) iv (w64 (iv+1))) fun a8=>some a8 else gE (subS (⟨#[48,48,48,49,48,50,48,51,48,52,48,53,48,54,48,55,48,56,48,57,49,48,49,49,49,50,49,51,49,52,49,53,49,54,49,55,49,56,49,57,50,48,50,49,50,50,50,51,50,52,50,53,50,54,50,55,50,56,50,57,51,48,51,49,51,50,51,51,51,52,51,53,51,54,51,55,51,56,51,57,52,48,52,49,52,50,52,51,52,52,52,53,52,54,52,55,52,56,52,57,53,48,53,49,53,50,53,51,53,52,53,53,53,54,53,55,53,56,53,57,54,48,54,49,54,50,54,51,54,52,54,53,54,54,54,55,54,56,54,57,55,48,55,49,55,50,55,51,55,52,55,53,55,54,55,55,55,56,55,57,56,48,56,49,56,50,56,51,56,52,56,53,56,54,56,55,56,56,56,57,57,48,57,49,57,50,57,51,57,52,57,53,57,54,57,55,57,56,57,57]⟩:ByteArray) (w64 (iv * 2)) (w64 ((w64 (iv * 2))+2))) fun a14=>some a14
abbrev af6(iv:Int)(base:Int)(l:Li):b6:=[.one (vec 1 eU8 l)]
def C3(iv:Int)(base:Int)(l:Li):Option Li:=if base=10 then if iv<100 then gE (internal_strconv_small (w64 iv)) fun a16=>gE (app 1 l (strL a16)) fun a17=>some a17 else none else none
abbrev ah3(iv:Int)(base:Int)(l:Li):b6:=[.one (vec 1 eU8 l)]
def D2(iv:Int)(base:Int)(l:Li):Option Li:=gE (if iv<0 then none else some ()) fun _=>gE (C3 ((IntKind.u64).wrap iv) base l) fun a20=>some a20
abbrev av6(iv:Int)(base:Int)(l:Li):b6:=[.one (vec 1 eU8 l)]
def E3(iv:Int)(base:Int)(l:Li):Option Li:=gE (D2 iv base l) fun a10=>some a10
def aq4(a12:Li):Int->Li->Option Li:=fun t5 c4=>gE (ix a12 t5) fun a18=>gE (E3 a18 10 c4) fun a22=>gE (app 1 a22 [44]) fun a24=>some a24
def aq7(l:LL):Int->Li->Option Li:=fun t3 c2=>gE (ix l t3) fun a12=>(gE (forR 0 (a12.length:Int) (aq4 a12) c2) fun c4=>gE (app 1 c4 [59]) fun a28=>some a28)
def C6(l:LL):Option ByteArray:=(gE (forR 0 (l.length:Int) (aq7 l) []) fun c2=>some (strB c2))
noncomputable def M8(w:LL)(c2:j3):Option Bool:=gE (O6 w c2.goal) fun a7=>some a7
abbrev aF1(t:j3):b6:=[]
def ag1(t:j3):Option Unit:=some ()
abbrev aD6(worlds:LL)(Facts:Int)(Init:Li)(Goal:Li)(Operators:List h9):b6:=[.one (.cells 4 [[int Facts,row 1 intI Init,row 1 intI Goal,row 4 j8 Operators]])]
def L8(worlds:LL)(Facts:Int)(Init:Li)(Goal:Li)(Operators:List h9):Option Unit:=gE (J5 (⟨Facts,Init,Goal,Operators⟩:j3) worlds) fun a6=>some ()
abbrev I9(start:LL)(Facts:Int)(Init:Li)(Goal:Li)(Operators:List h9):b6:=[.one (.cells 4 [[int Facts,row 1 intI Init,row 1 intI Goal,row 4 j8 Operators]])]
def ae4(c59:List f8):(Li×Int)->Option ((Li×Int)⊕Li):=fun(c64,iv65)=>gE (ix c59 iv65) fun a43=>if 0<=a43.ffrom then gE (ix c59 iv65) fun a55=>gE (app 8 c64 [a55.step]) fun a59=>gE (ix c59 iv65) fun a49=>some (.inl (a59,a49.ffrom)) else some (.inr c64)
noncomputable def I8(Facts:Int)(Init:Li)(Goal:Li)(Operators:List h9)(c61:Int)(a66:f8):Int->((List (ByteArray×Int))×(List f8))->Option (((List (ByteArray×Int))×(List f8))⊕(((List (ByteArray×Int))×(List f8))⊕((List (ByteArray×Int))×(List f8)))):=fun t75 (c73,c74)=>gE (ix Operators t75) fun ai12=>gE (O6 a66.node ai12.pre) fun ai17=>if ai17=true then gE (K8 (⟨Facts,Init,Goal,Operators⟩:j3) a66.node t75) fun ai24=>gE (C6 ai24) fun ab74=>if 0<gP (mget c73 ab74) 0 then some (.inl (c73,c74)) else if(c74.length:Int)=2000 then some (.inr (.inr (c73,c74))) else gE (app 40 c74 [(⟨ai24,c61,t75⟩:f8)]) fun ab90=>some (.inl (mset c73 ab74 1,ab90)) else some (.inl (c73,c74))
noncomputable def E8(Facts:Int)(Init:Li)(Goal:Li)(Operators:List h9)(c59:List f8)(c60:List (ByteArray×Int))(c61:Int)(a66:f8):Option (((List (ByteArray×Int))×(List f8))⊕((List (ByteArray×Int))×(List f8))):=(gE (rngX 0 (Operators.length:Int) (I8 Facts Init Goal Operators c61 a66) (c60,c59)) fun| .inl (c73,c74)=>some (.inl (c73,c74))| .inr x=>some x)
noncomputable def J1(Facts:Int)(Init:Li)(Goal:Li)(Operators:List h9):((List f8)×(List (ByteArray×Int))×Int)->Option (((List f8)×(List (ByteArray×Int))×Int)⊕(Unit⊕(Li×Bool×Bool))):=fun(c59,c60,c61)=>if c61<(c59.length:Int) then gE (ix c59 c61) fun a36=>gE (S4 a36.node) fun a39=>if a39=true then gE (Loop (ae4 c59) ([],c61)) fun c66=>some (.inr (.inr (c66.reverse,true,true))) else gE (ix c59 c61) fun a66=>gE (L8 a66.node Facts Init Goal Operators) fun a69=>gE (E8 Facts Init Goal Operators c59 c60 c61 a66) fun| .inl (c69,c70)=>some (.inl (c70,c69,w64 (c61+1)))| .inr (c71,c72)=>some (.inr (.inr ([],false,false))) else some (.inr (.inl ()))
noncomputable def O4(start:LL)(Facts:Int)(Init:Li)(Goal:Li)(Operators:List h9):Option (Li×Bool×Bool):=gE (C6 start) fun a25=>gE (Loop (J1 Facts Init Goal Operators) ([(⟨start, -1,0⟩:f8)],mset ([]:List (ByteArray×Int)) a25 1,0)) fun| .inl _=>some ([],false,true)| .inr x=>some x
abbrev ay6(start:LL)(Facts:Int)(Init:Li)(Goal:Li)(Operators:List h9):b6:=[.one (.cells 4 [[int Facts,row 1 intI Init,row 1 intI Goal,row 4 j8 Operators]])]
noncomputable def D4(start:LL)(Facts:Int)(Init:Li)(Goal:Li)(Operators:List h9):Option Bool:=gE (O4 start Facts Init Goal Operators) fun a14=>some a14.2.2
abbrev H2(start:LL)(Facts:Int)(Init:Li)(Goal:Li)(Operators:List h9)(Facts6:Int)(Init7:Li)(Goal8:Li)(Operators9:List h9):b6:=[.one (.cells 4 [[int Facts,row 1 intI Init,row 1 intI Goal,row 4 j8 Operators]]),.one (.cells 4 [[int Facts6,row 1 intI Init7,row 1 intI Goal8,row 4 j8 Operators9]])]
def D7(c63:List f8):(Li×Int)->Option ((Li×Int)⊕Li):=fun(c68,iv69)=>gE (ix c63 iv69) fun a43=>if 0<=a43.ffrom then gE (ix c63 iv69) fun a55=>gE (app 8 c68 [a55.step]) fun a59=>gE (ix c63 iv69) fun a49=>some (.inl (a59,a49.ffrom)) else some (.inr c68)
noncomputable def A5(Facts:Int)(Init:Li)(Goal:Li)(Operators:List h9)(c65:Int)(a66:f8):Int->((List (ByteArray×Int))×(List f8))->Option (((List (ByteArray×Int))×(List f8))⊕(((List (ByteArray×Int))×(List f8))⊕((List (ByteArray×Int))×(List f8)))):=fun t79 (c77,c78)=>gE (ix Operators t79) fun ai12=>gE (O6 a66.node ai12.pre) fun ai17=>if ai17=true then gE (K8 (⟨Facts,Init,Goal,Operators⟩:j3) a66.node t79) fun ai24=>gE (C6 ai24) fun ab74=>if 0<gP (mget c77 ab74) 0 then some (.inl (c77,c78)) else if(c78.length:Int)=2000 then some (.inr (.inr (c77,c78))) else gE (app 40 c78 [(⟨ai24,c65,t79⟩:f8)]) fun ab90=>some (.inl (mset c77 ab74 1,ab90)) else some (.inl (c77,c78))
noncomputable def H4(Facts:Int)(Init:Li)(Goal:Li)(Operators:List h9)(c63:List f8)(c64:List (ByteArray×Int))(c65:Int)(a66:f8):Option (((List (ByteArray×Int))×(List f8))⊕((List (ByteArray×Int))×(List f8))):=(gE (rngX 0 (Operators.length:Int) (A5 Facts Init Goal Operators c65 a66) (c64,c63)) fun| .inl (c77,c78)=>some (.inl (c77,c78))| .inr x=>some x)
noncomputable def A0(Facts:Int)(Init:Li)(Goal:Li)(Operators:List h9)(Facts6:Int)(Init7:Li)(Goal8:Li)(Operators9:List h9):((List f8)×(List (ByteArray×Int))×Int)->Option (((List f8)×(List (ByteArray×Int))×Int)⊕(Unit⊕(Li×Bool×Bool))):=fun(c63,c64,c65)=>if c65<(c63.length:Int) then gE (ix c63 c65) fun a36=>gE (M8 a36.node (⟨Facts6,Init7,Goal8,Operators9⟩:j3)) fun a39=>if a39=true then gE (Loop (D7 c63) ([],c65)) fun c70=>some (.inr (.inr (c70.reverse,true,true))) else gE (ix c63 c65) fun a66=>gE (L8 a66.node Facts Init Goal Operators) fun a69=>gE (H4 Facts Init Goal Operators c63 c64 c65 a66) fun| .inl (c73,c74)=>some (.inl (c74,c73,w64 (c65+1)))| .inr (c75,c76)=>some (.inr (.inr ([],false,false))) else some (.inr (.inl ()))
noncomputable def G3(start:LL)(Facts:Int)(Init:Li)(Goal:Li)(Operators:List h9)(Facts6:Int)(Init7:Li)(Goal8:Li)(Operators9:List h9):Option (Li×Bool×Bool):=gE (C6 start) fun a25=>gE (Loop (A0 Facts Init Goal Operators Facts6 Init7 Goal8 Operators9) ([(⟨start, -1,0⟩:f8)],mset ([]:List (ByteArray×Int)) a25 1,0)) fun| .inl _=>some ([],false,true)| .inr x=>some x
noncomputable def af8(t:j3)(unknown:Li):Option (Li×Bool×g8):=gE (J7 t unknown) fun a14=>if(!((decide (a14.code=0)) && (decide (a14.index=0))))=true then some ([],false,a14) else gE (ag1 t) fun a20=>gE (R4 t unknown) fun a23=>gE (D4 a23 t.facts t.init t.goal t.operators) fun a25=>if(!a25)=true then some ([],false,(⟨10, -7⟩:g8)) else gE (R4 t unknown) fun a31=>gE (G3 a31 t.facts t.init t.goal t.operators t.facts t.init t.goal t.operators) fun a34=>if 60<(a34.1.length:Int) then some ([],false,(⟨10, -5⟩:g8)) else some (a34.1,a34.2.1,(⟨0,0⟩:g8))
noncomputable def ae3(t:j3)(op:Int):Option g8:=gE (A9 t) fun a7=>if(!((decide (a7.code=0)) && (decide (a7.index=0))))=true then some a7 else if((decide (op<0))||(decide ((t.operators.length:Int)<=op)))=true then some (⟨3, -6⟩:g8) else some (⟨0,0⟩:g8)
noncomputable def X2(t:j3)(op:Int):Option g8:=gE (A9 t) fun a7=>if(!((decide (a7.code=0)) && (decide (a7.index=0))))=true then some a7 else if((decide (op<0))||(decide ((t.operators.length:Int)<=op)))=true then some (⟨3, -6⟩:g8) else some (⟨0,0⟩:g8)
abbrev aC2(t:j3):b6:=[]
noncomputable def ao7(t:j3):Int->(List h9)->Option (List h9):=fun t56 c55=>gE (ix t.operators t56) fun a20=>gE (k7 a20.pre) fun a26=>gE (k7 a20.add) fun a29=>gE (k7 a20.del) fun a32=>gE (app 80 c55 [(⟨a26,a29,a32,a20.cost⟩:h9)]) fun a37=>some a37
noncomputable def al4(t:j3):Option (Li×Li×(List h9)):=gE (k7 t.init) fun a10=>gE (k7 t.goal) fun a13=>(gE (forR 0 (t.operators.length:Int) (ao7 t) ([]:List h9)) fun c55=>some (a10,a13,c55))
noncomputable def aa1(t:j3)(op:Int):Option (j3×g8):=gE (X2 t op) fun a10=>if(!((decide (a10.code=0)) && (decide (a10.index=0))))=true then some ((⟨0,[],[],[]⟩:j3),a10) else if t.facts=24 then some ((⟨0,[],[],[]⟩:j3),(⟨10, -8⟩:g8)) else gE (al4 t) fun a22=>gE (ix a22.2.2 op) fun ao5=>gE (app 8 a22.2.1 [t.facts]) fun a28=>gE (app 8 ao5.add [t.facts]) fun a42=>some ((⟨w64 (t.facts+1),a22.1,a28,a22.2.2.set op.toNat (⟨ao5.pre,a42,ao5.del,ao5.cost⟩:h9)⟩:j3),(⟨0,0⟩:g8))
def aB5(sv:Li):Int->Int->Option Int:=fun t3 w2=>gE (ix sv t3) fun a10=>gE (chk0 a10) fun u14=>some (Go.bits .or .u32 w2 (shlW .u32 1 a10))
def W4(sv:Li):Option Int:=(gE (forR 0 (sv.length:Int) (aB5 sv) 0) fun w2=>some w2)
def ad9(w:Int):Int->Li->Option Li:=fun t3 c2=>gE (if Go.bits .and .u32 (shrW .u32 w t3) 1=1 then gE (app 8 c2 [t3]) fun a16=>some a16 else some c2) fun c4=>some c4
def Y3(w:Int):Option Li:=(gE (forR 0 32 (ad9 w) []) fun c2=>some c2)
def L7(av:Int)(bv:Int):Option Int:=gE (Y3 av) fun a6=>gE (Y3 bv) fun a8=>gE (slices_Compare_int_int a6 a8) fun a9=>some a9
abbrev space_Of_w_s0(t:j3):b6:=[]
def aB6(t:j3):Int->(List l8)->Option (List l8):=fun t56 c55=>gE (ix t.operators t56) fun a19=>gE (W4 a19.pre) fun a28=>gE (W4 a19.add) fun a31=>gE (W4 a19.del) fun a34=>gE (app 24 c55 [(⟨a28,a31,a34,a19.cost⟩:l8)]) fun a39=>some a39
def ar6(t:j3):Option (Int×Int×(List l8)):=gE (W4 t.init) fun a8=>gE (W4 t.goal) fun a11=>(gE (forR 0 (t.operators.length:Int) (aB6 t) []) fun c55=>some (a8,a11,c55))
abbrev ax9(start:Int)(goal:Int)(l:List l8):b6:=[.one (.cells 3 [[.imm (.val (.int .u32 start)),.imm (.val (.int .u32 goal)),.own 1 0 l.length]]),.one (vec 4 f5 l)]
def C2(start:Int)(goal:Int)(l:List l8):Option Unit:=some ()
abbrev ax4(sv:Int)(start:Int)(goal:Int)(l:List l8):b6:=[.one (.cells 3 [[.imm (.val (.int .u32 start)),.imm (.val (.int .u32 goal)),.own 1 0 l.length]]),.one (vec 4 f5 l)]
def Q9(sv:Int)(start:Int)(goal:Int)(l:List l8):Option Unit:=some ()
abbrev V3(start:Int)(goal:Int)(l:List l8):b6:=[.one (.cells 3 [[.imm (.val (.int .u32 start)),.imm (.val (.int .u32 goal)),.own 1 0 l.length]]),.one (vec 4 f5 l)]
def aj1(l:List l8)(a26:Int)(u32:Unit):Int->((List (Int×Unit))×Li)->Option ((List (Int×Unit))×Li):=fun t66 (c64,c65)=>gE (ix l t66) fun ai14=>if Go.bits .and .u32 a26 ai14.pre=ai14.pre then if(!(Option.isSome (mget c64 (Go.bits .or .u32 (Go.bits .andNot .u32 a26 ai14.del) ai14.add))))=true then gE (app 4 c65 [Go.bits .or .u32 (Go.bits .andNot .u32 a26 ai14.del) ai14.add]) fun ab58=>some (mset c64 (Go.bits .or .u32 (Go.bits .andNot .u32 a26 ai14.del) ai14.add) (),ab58) else some (c64,c65) else some (c64,c65)
def aj8(l:List l8)(c56:Li)(c57:List (Int×Unit))(a26:Int)(u32:Unit):Option ((List (Int×Unit))×Li):=(gE (forR 0 (l.length:Int) (aj1 l a26 u32) (c57,w5 c56 0 ((c56.length:Int) - 1))) fun⟨c64,c65⟩=>some (c64,c65))
def aj4(start:Int)(goal:Int)(l:List l8):(Li×(List (Int×Unit))×Li)->Option ((Li×(List (Int×Unit))×Li)⊕(Li⊕(Li×Bool))):=fun(c56,c57,c58)=>if 0<(c56.length:Int) then gE (ix c56 ((c56.length:Int) - 1)) fun a26=>gE (cutV (c56.length:Int) 0 ((c56.length:Int) - 1)) fun u32=>gE (app 4 c58 [a26]) fun a36=>gE (Q9 a26 start goal l) fun a39=>gE (aj8 l c56 c57 a26 u32) fun⟨c62,c63⟩=>if 2000<(c62.length:Int) then some (.inr (.inr ([],false))) else some (.inl (c63,c62,a36)) else some (.inr (.inl c58))
noncomputable def T2(start:Int)(goal:Int)(l:List l8):Option (Li×Bool):=gE (C2 start goal l) fun a12=>gE (C2 start goal l) fun a16=>gE (Loop (aj4 start goal l) ([start],mset ([]:List (Int×Unit)) start (),[])) fun| .inl c59=>some (c59,true)| .inr x=>some x
abbrev aC6(t:j3):b6:=[]
noncomputable def aa2(t:j3):Option ((Int×Int)⊕(Int×Int×(List l8)×Li)):=gE (A9 t) fun a10=>if(!((decide (a10.code=0)) && (decide (a10.index=0))))=true then some (.inl (a10.code,a10.index)) else gE (ar6 t) fun a16=>gE (T2 a16.1 a16.2.1 a16.2.2) fun a20=>if(!a20.2)=true then some (.inl (10, -7)) else gE (sortFU L7 a20.1) fun a27=>some (.inr (a16.1,a16.2.1,a16.2.2,a27))
abbrev as9:b6:=[]
def W0:Option Unit:=some ()
abbrev ax2(sv:Int)(start:Int)(goal:Int)(l:List l8):b6:=[.one (.cells 3 [[.imm (.val (.int .u32 start)),.imm (.val (.int .u32 goal)),.own 1 0 l.length]]),.one (vec 4 f5 l)]
def Y7(sv:Int)(start:Int)(goal:Int)(l:List l8):Option Unit:=some ()
abbrev al0(l:Li)(l2:List b9):b6:=[.one (prow 1 l),pool 4 b8 l2]
def B0(l:Li)(l2:List b9):Option Unit:=some ()
abbrev ak5(iv:Int)(kv:Int)(l:Li)(l4:List b9):b6:=[.one (prow 1 l),pool 4 b8 l4]
def A6(iv:Int)(kv:Int)(l:Li)(l4:List b9):Option Bool:=gE (ix l iv) fun a9=>gE (ix l4 a9) fun en56=>gE (ix l kv) fun a16=>gE (ix l4 a16) fun en57=>some ((decide (en56.key<en57.key))||((decide (en56.key=en57.key)) && (decide (en56.time<en57.time))))
abbrev ak4(iv:Int)(kv:Int)(l:Li)(l4:List b9):b6:=[.one (prow 1 l),pool 4 b8 l4]
def A7(iv:Int)(kv:Int)(l:Li)(l4:List b9):Option (Li×(List b9)):=gE (ix l kv) fun a12=>gE (ix l iv) fun a16=>gE (ix ((l.set iv.toNat a12).set kv.toNat a16) iv) fun ha57=>gE (ix ((l.set iv.toNat a12).set kv.toNat a16) kv) fun ha58=>gE (ix l4 ha57) fun en59=>gE (ix (l4.set ha57.toNat (⟨en59.item,en59.key,en59.time,iv⟩:b9)) ha58) fun en60=>some ((l.set iv.toNat a12).set kv.toNat a16,(l4.set ha57.toNat (⟨en59.item,en59.key,en59.time,iv⟩:b9)).set ha58.toNat (⟨en60.item,en60.key,en60.time,kv⟩:b9))
abbrev ac8(i01:Int)(nv:Int)(time:Int)(l:Li)(l5:List (Int×Int))(l6:List b9):b6:=[.one (.cells 3 [[.own 1 0 l.length,.map 2,int time]]),.one (prow 3 l),.one (pmap 3 (Value.int .u32) l5),pool 4 b8 l6]
def ad1(nv:Int):(Li×(List b9)×Int)->Option ((Li×(List b9)×Int)⊕(Li×(List b9)×Int)):=fun(c60,c61,iv62)=>if((decide (nv<=w64 ((w64 (2 * iv62))+1)))||(decide (w64 ((w64 (2 * iv62))+1)<0)))=true then some (.inr (c60,c61,iv62)) else gE (gE (if w64 ((w64 ((w64 (2 * iv62))+1))+1)<nv then gE (A6 (w64 ((w64 ((w64 (2 * iv62))+1))+1)) (w64 ((w64 (2 * iv62))+1)) c60 c61) fun a32=>some a32 else some false) fun t69=>if t69=true then some (w64 ((w64 ((w64 (2 * iv62))+1))+1)) else some (w64 ((w64 (2 * iv62))+1))) fun j67=>gE (A6 j67 iv62 c60 c61) fun a38=>if(!a38)=true then some (.inr (c60,c61,iv62)) else gE (A7 iv62 j67 c60 c61) fun a43=>gE (chkLen c60 a43.1) fun u74=>some (.inl (a43.1,a43.2,j67))
noncomputable def L9(i01:Int)(nv:Int)(time:Int)(l:Li)(l5:List (Int×Int))(l6:List b9):Option (Li×(List b9)×Bool):=gE (Loop (ad1 nv) (l,l6,i01)) fun⟨c63,c64,iv65⟩=>some (c63,c64,decide (i01<iv65))
abbrev af5(j:Int)(time:Int)(l:Li)(l4:List (Int×Int))(l5:List b9):b6:=[.one (.cells 3 [[.own 1 0 l.length,.map 2,int time]]),.one (prow 3 l),.one (pmap 3 (Value.int .u32) l4),pool 4 b8 l5]
def af2:(Li×(List b9)×Int)->Option ((Li×(List b9)×Int)⊕(Li×(List b9))):=fun(c58,c59,j60)=>gE (chkN 2) fun u7=>gE (if w64 ((w64 (j60 - 1)).tdiv 2)=j60 then some true else gE (A6 j60 (w64 ((w64 (j60 - 1)).tdiv 2)) c58 c59) fun a15=>some (!a15)) fun t63=>if t63=true then some (.inr (c58,c59)) else gE (A7 (w64 ((w64 (j60 - 1)).tdiv 2)) j60 c58 c59) fun a21=>gE (chkLen c58 a21.1) fun u67=>some (.inl (a21.1,a21.2,w64 ((w64 (j60 - 1)).tdiv 2)))
noncomputable def Q7(j:Int)(time:Int)(l:Li)(l4:List (Int×Int))(l5:List b9):Option (Li×(List b9)):=gE (Loop af2 (l,l5,j)) fun⟨c61,c62⟩=>some (c61,c62)
abbrev av7(iv:Int)(time:Int)(l:Li)(l4:List (Int×Int))(l5:List b9):b6:=[.one (.cells 3 [[.own 1 0 l.length,.map 2,int time]]),.one (prow 3 l),.one (pmap 3 (Value.int .u32) l4),pool 4 b8 l5]
noncomputable def W5(iv:Int)(time:Int)(l:Li)(l4:List (Int×Int))(l5:List b9):Option (Li×(List b9)):=gE (B0 l l5) fun a7=>gE (L9 iv (l.length:Int) time l l4 l5) fun a8=>if(!a8.2.2)=true then gE (Q7 iv time a8.1 l4 a8.2.1) fun a12=>some (a12.1,a12.2) else some (a8.1,a8.2.1)
abbrev ai3(xv:Int)(time:Int)(l:List b9)(l4:Li)(l5:List (Int×Int)):b6:=[.one (.cells 3 [[.own 2 0 l4.length,.map 3,int time]]),pool 4 b8 l,.one (prow 1 l4),.one (pmap 1 (Value.int .u32) l5)]
def I7(xv:Int)(time:Int)(l:List b9)(l4:Li)(l5:List (Int×Int)):Option ((List b9)×Li):=gE (ix l xv) fun en58=>gE (app 8 l4 [xv]) fun a20=>some (l.set xv.toNat (⟨en58.item,en58.key,en58.time,(l4.length:Int)⟩:b9),a20)
abbrev au7(xv:Int)(time:Int)(l:List b9)(l4:Li)(l5:List (Int×Int)):b6:=[.one (.cells 3 [[.own 2 0 l4.length,.map 3,int time]]),pool 4 b8 l,.one (prow 1 l4),.one (pmap 1 (Value.int .u32) l5)]
noncomputable def V9(xv:Int)(time:Int)(l:List b9)(l4:Li)(l5:List (Int×Int)):Option ((List b9)×Li):=gE (I7 xv time l l4 l5) fun a6=>gE (B0 a6.2 a6.1) fun a9=>gE (Q7 (w64 ((a6.2.length:Int) - 1)) time a6.2 l5 a6.1) fun a11=>some (a11.2,a11.1)
abbrev ak0(item:Int)(key:Int)(time:Int)(l:Li)(l5:List (Int×Int))(l6:List b9):b6:=[.one (.cells 3 [[.own 1 0 l.length,.map 2,int time]]),.one (prow 3 l),.one (pmap 3 (Value.int .u32) l5),pool 4 b8 l6]
noncomputable def E6(item:Int)(key:Int)(time:Int)(l:Li)(l5:List (Int×Int))(l6:List b9):Option ((List (Int×Int))×Li×(List b9)):=if(Option.isSome (mget l5 item))=true then gE (mget l5 item) fun ap61=>gE (ix l6 ap61) fun en62=>gE (W5 en62.fat (w64 (time+1)) l l5 ((l6.set ap61.toNat (⟨en62.item,key,en62.time,en62.fat⟩:b9)).set ap61.toNat (⟨en62.item,key,w64 (time+1),en62.fat⟩:b9))) fun a45=>some (l5,a45.1,a45.2) else gE (chkH l6.length (gF (·.2) l5)) fun u63=>gE (chkH l6.length l) fun u64=>gE (V9 (l6.length:Int) (w64 (time+1)) (l6++[(⟨item,key,w64 (time+1),0⟩:b9)]) l (mset l5 item (l6.length:Int))) fun a66=>some (mset l5 item (l6.length:Int),a66.2,a66.1)
abbrev al7(time:Int)(l:Li)(l3:List (Int×Int))(l4:List b9):b6:=[.one (.cells 3 [[.own 1 0 l.length,.map 2,int time]]),.one (prow 3 l),.one (pmap 3 (Value.int .u32) l3),pool 4 b8 l4]
def L6(time:Int)(l:Li)(l3:List (Int×Int))(l4:List b9):Option Unit:=some ()
abbrev ak2(time:Int)(l:Li)(l3:List (Int×Int))(l4:List b9):b6:=[.one (.cells 3 [[.own 1 0 l.length,.map 2,int time]]),.one (prow 3 l),.one (pmap 3 (Value.int .u32) l3),pool 4 b8 l4]
def J8(time:Int)(l:Li)(l3:List (Int×Int))(l4:List b9):Option (Li×Int):=gE (ix l ((l.length:Int) - 1)) fun a12=>gE (subL l 0 ((l.length:Int) - 1)) fun a19=>some (a19,a12)
abbrev av0(time:Int)(l:Li)(l3:List (Int×Int))(l4:List b9):b6:=[.one (.cells 3 [[.own 1 0 l.length,.map 2,int time]]),.one (prow 3 l),.one (pmap 3 (Value.int .u32) l3),pool 4 b8 l4]
noncomputable def X4(time:Int)(l:Li)(l3:List (Int×Int))(l4:List b9):Option ((List b9)×Li×Int):=gE (B0 l l4) fun a5=>gE (A7 0 (w64 ((l.length:Int) - 1)) l l4) fun a9=>gE (chkLen l a9.1) fun u58=>gE (L9 0 (w64 ((l.length:Int) - 1)) time a9.1 l3 a9.2) fun a12=>gE (J8 time a12.1 l3 a12.2.1) fun a14=>some (a12.2.1,a14.1,a14.2)
abbrev ai4(time:Int)(l:Li)(l3:List (Int×Int))(l4:List b9):b6:=[.one (.cells 3 [[.own 1 0 l.length,.map 2,int time]]),.one (prow 3 l),.one (pmap 3 (Value.int .u32) l3),pool 4 b8 l4]
noncomputable def I6(time:Int)(l:Li)(l3:List (Int×Int))(l4:List b9):Option ((List (Int×Int))×(List b9)×Li×Int×Int×Bool):=if(l.length:Int)=0 then some (l3,l4,l,0,0,false) else gE (X4 time l l3 l4) fun a17=>gE (ix a17.1 a17.2.2) fun en62=>some (mdel l3 en62.item,a17.1,a17.2.1,en62.item,en62.key,true)
abbrev aq8(l:Li)(start:Int)(goal:Int)(l4:List l8):b6:=[.one (.cells 3 [[.imm (.val (.int .u32 start)),.imm (.val (.int .u32 goal)),.own 1 0 l4.length]]),.one (vec 4 f5 l4)]
def ar5(l4:List l8)(a23:Int):Int->(List (Int×List C4))->Option (List (Int×List C4)):=fun t73 c72=>gE (ix l4 t73) fun ai14=>if Go.bits .and .u32 a23 ai14.pre=ai14.pre then gE (app 16 (rowM c72 (Go.bits .or .u32 (Go.bits .andNot .u32 a23 ai14.del) ai14.add)) [(⟨a23,ai14.cost⟩:C4)]) fun ab51=>some (mset c72 (Go.bits .or .u32 (Go.bits .andNot .u32 a23 ai14.del) ai14.add) ab51) else some c72
def ar2(l4:List l8)(c56:List (Int×List C4))(a23:Int):Option (List (Int×List C4)):=(gE (forR 0 (l4.length:Int) (ar5 l4 a23) c56) fun c72=>some c72)
noncomputable def ar4(l:Li)(start:Int)(goal:Int)(l4:List l8):Int->((List (Int×List C4))×(List (Int×Int))×(List (Int×Int))×(List b9)×Int×Li)->Option ((List (Int×List C4))×(List (Int×Int))×(List (Int×Int))×(List b9)×Int×Li):=fun t62 (c56,c57,c58,c59,c60,c61)=>gE (ix l t62) fun a23=>gE (gE (Y7 a23 start goal l4) fun a29=>if Go.bits .and .u32 a23 goal=goal then gE (E6 a23 0 c60 c61 c58 c59) fun a34=>some (mset (mset c57 a23 1000000000) a23 0,a34.1,w64 (c60+1),a34.2.1,a34.2.2) else some (mset c57 a23 1000000000,c58,c60,c61,c59)) fun⟨c63,c64,c65,c66,c67⟩=>gE (Q9 a23 start goal l4) fun a37=>gE (ar2 l4 c56 a23) fun c71=>some (c71,c63,c64,c67,c65,c66)
noncomputable def ar0(c56:List (Int×List C4))(a58:(List (Int×Int))×(List b9)×Li×Int×Int×Bool):Int->((List (Int×Int))×(List (Int×Int))×(List b9)×Int×Li)->Option ((List (Int×Int))×(List (Int×Int))×(List b9)×Int×Li):=fun t87 (c82,c83,c84,c85,c86)=>gE (gE (ix (rowM c56 a58.2.2.2.1) t87) fun a68=>if w64 (a58.2.2.2.2.1+a68.cost)<gP (mget c82 a68.ffrom) 0 then gE (E6 a68.ffrom (w64 (a58.2.2.2.2.1+a68.cost)) c85 c86 c83 c84) fun a93=>some (mset c82 a68.ffrom (w64 (a58.2.2.2.2.1+a68.cost)),a93.1,w64 (c85+1),a93.2.1,a93.2.2) else some (c82,c83,c85,c86,c84)) fun⟨c88,c89,c90,c91,c92⟩=>some (c88,c89,c92,c90,c91)
noncomputable def aq9(c56:List (Int×List C4)):((List (Int×Int))×(List (Int×Int))×(List b9)×Int×Li)->Option (((List (Int×Int))×(List (Int×Int))×(List b9)×Int×Li)⊕(List (Int×Int))):=fun(c75,c76,c77,c78,c79)=>gE (L6 c78 c79 c76 c77) fun a54=>if 0<(c79.length:Int) then gE (I6 c78 c79 c76 c77) fun a58=>(gE (forR 0 ((rowM c56 a58.2.2.2.1).length:Int) (ar0 c56 a58) (c75,a58.1,a58.2.1,c78,a58.2.2.1)) fun⟨c82,c83,c84,c85,c86⟩=>some (.inl (c82,c83,c84,c85,c86))) else some (.inr c75)
noncomputable def U8(l:Li)(start:Int)(goal:Int)(l4:List l8):Option (List (Int×Int)):=gE (W0) fun a18=>(gE (forR 0 (l.length:Int) (ar4 l start goal l4) (([]:List (Int×List C4)),([]:List (Int×Int)),([]:List (Int×Int)),([]:List b9),0,([]:Li))) fun⟨c56,c57,c58,c59,c60,c61⟩=>gE (Loop (aq9 c56) (c57,c58,c59,c60,c61)) fun c80=>some c80)
noncomputable def ag5(t:j3):Option (Int×g8):=gE (aa2 t) fun| .inl fk2=>if(!((decide (fk2.1=0)) && (decide (fk2.2=0))))=true then some (0,(⟨fk2.1,fk2.2⟩:g8)) else none| .inr fk2=>if(!((decide (0=0)) && (decide (0=0))))=true then some (0,(⟨0,0⟩:g8)) else gE (U8 fk2.2.2.2 fk2.1 fk2.2.1 fk2.2.2.1) fun a19=>gE (C2 fk2.1 fk2.2.1 fk2.2.2.1) fun a21=>some (gP (mget a19 fk2.1) 0,(⟨0,0⟩:g8))
noncomputable def Y1(t:j3)(op:Int):Option (Int×g8):=gE (ae3 t op) fun a11=>if(!((decide (a11.code=0)) && (decide (a11.index=0))))=true then some (0,a11) else gE (aa1 t op) fun a19=>if(!((decide (a19.2.code=0)) && (decide (a19.2.index=0))))=true then some (0,a19.2) else gE (ag5 a19.1) fun a27=>some (a27.1,a27.2)
def au9(av:Li)(bv:Li):Int->Unit->Option (Unit⊕Bool):=fun iv4 _=>gE (ix av iv4) fun a19=>gE (ix bv iv4) fun a23=>if a19=a23 then some (.inl ()) else some (.inr false)
def P0(av:Li)(bv:Li):Option Bool:=if(av.length:Int)=(bv.length:Int) then(gE (rngX 0 (av.length:Int) (au9 av bv) ()) fun| .inl _=>some true| .inr x=>some x) else some false
noncomputable def M9:Option Bool:=gE (ae6) fun a7=>gE (af8 a7 []) fun a8=>gE (ae6) fun a13=>gE (Y1 a13 0) fun a14=>gE (if a8.2.2.code=0 then if a14.2.code=0 then if a8.2.1=true then gE (P0 a8.1 [0]) fun a31=>if a31=true then some (decide (a14.1=2)) else some false else some false else some false else some false) fun t1=>some t1
noncomputable def H6(ov:m5)(facts:Int):Int->Unit->Option (Unit⊕Int):=fun t6 _=>gE (ix ov.outcomes t6) fun a38=>gE (gE (w6 a38.add facts) fun a44=>if(!a44)=true then some true else gE (w6 a38.del facts) fun a50=>if(!a50)=true then some true else gE (V6 a38.add a38.del) fun a58=>some a58) fun t7=>if t7=true then some (.inr 5) else if((decide (a38.weight<1))||(decide (6<a38.weight)))=true then some (.inr 3) else some (.inl ())
noncomputable def N3(ov:m5)(facts:Int):Option Int:=gE (w6 ov.pre facts) fun a11=>if(!a11)=true then some 5 else if((decide (ov.cost<0))||(decide (100<ov.cost)))=true then some 3 else if((decide ((ov.outcomes.length:Int)=0))||(decide (4<(ov.outcomes.length:Int))))=true then some 9 else(gE (rngX 0 (ov.outcomes.length:Int) (H6 ov facts) ()) fun| .inl _=>some 0| .inr x=>some x)
noncomputable def Q4(ov:d5):Int->Unit->Option (Unit⊕g8):=fun t6 _=>gE (ix ov.operators t6) fun a44=>gE (N3 a44 ov.facts) fun a49=>if a49=0 then some (.inl ()) else some (.inr (⟨a49,t6⟩:g8))
noncomputable def D9(ov:d5):Option g8:=if((decide (ov.facts<0))||(decide (24<ov.facts)))=true then some (⟨3, -1⟩:g8) else gE (w6 ov.init ov.facts) fun a21=>if(!a21)=true then some (⟨5, -2⟩:g8) else gE (w6 ov.goal ov.facts) fun a29=>if(!a29)=true then some (⟨5, -3⟩:g8) else if 40<(ov.operators.length:Int) then some (⟨2, -1⟩:g8) else(gE (rngX 0 (ov.operators.length:Int) (Q4 ov) ()) fun| .inl _=>some (⟨0,0⟩:g8)| .inr x=>some x)
noncomputable def ai8(ov:d5)(sv:Li)(op:Int):Option Bool:=gE (ix ov.operators op) fun a11=>gE (v8 sv a11.pre) fun a14=>some a14
def J6(xv:LL)(target:Li)(cmp:Li->Li->Option Int):(Int×Int)->Option ((Int×Int)⊕Int):=fun(iv4,j5)=>if iv4<j5 then gE (ix xv (w64 (shrW .u64 ((IntKind.u64).wrap (w64 (iv4+j5))) 1))) fun a27=>gE (cmp a27 target) fun a30=>if a30<0 then some (.inl (w64 ((w64 (shrW .u64 ((IntKind.u64).wrap (w64 (iv4+j5))) 1))+1),j5)) else some (.inl (iv4,w64 (shrW .u64 ((IntKind.u64).wrap (w64 (iv4+j5))) 1))) else some (.inr iv4)
noncomputable def s9(xv:LL)(target:Li)(cmp:Li->Li->Option Int):Option (Int×Bool):=gE (Loop (J6 xv target cmp) (0,(xv.length:Int))) fun iv6=>gE (if iv6<(xv.length:Int) then gE (ix xv iv6) fun a43=>gE (cmp a43 target) fun a46=>some (decide (a46=0)) else some false) fun t9=>some (iv6,t9)
noncomputable def T7(sv:Li)(a20:m5):Int->(LL)->Option (LL):=fun t5 c4=>gE (ix a20.outcomes t5) fun a26=>gE (B8 sv a26.add a26.del) fun a34=>gE (app 24 c4 [a34]) fun a36=>some a36
noncomputable def M3(c4:LL)(a40:(LL))(a47:m5):Int->Li->Option Li:=fun t7 c6=>gE (ix a47.outcomes t7) fun a54=>gE (ix c4 t7) fun a60=>gE (s9 a40 a60 slices_Compare_int_int) fun a62=>gE (ix c6 a62.1) fun a67=>gE (ix c6 a62.1) fun a72=>some (c6.set a62.1.toNat (w64 (a67+a54.weight)))
noncomputable def H7(ov:d5)(sv:Li)(op:Int):Option ((LL)×Li):=gE (ix ov.operators op) fun a20=>(gE (forR 0 (a20.outcomes.length:Int) (T7 sv a20) []) fun c4=>gE (F9 c4) fun a39=>gE (C7 a39) fun a40=>gE (mkL 8 (a40.length:Int) 0) fun a43=>gE (ix ov.operators op) fun a47=>(gE (forR 0 (a47.outcomes.length:Int) (M3 c4 a40 a47) a43) fun c6=>some (a40,c6)))
def ag6:((LL)×(List (ByteArray×Int)))->Option (((LL)×(List (ByteArray×Int)))⊕((LL)×Bool)):=fun(c10,c11)=>some (.inl (c10,c11))
def ag8:((LL)×(List (ByteArray×Int)))->Option (((LL)×(List (ByteArray×Int)))⊕((LL)×Bool)):=fun(c16,c17)=>some (.inl (c16,c17))
def R6(a48:(LL)×Li):Int->((LL)×(List (ByteArray×Int)))->Option (((LL)×(List (ByteArray×Int)))⊕((LL)×Bool)):=fun t15 (c13,c14)=>gE (ix a48.1 t15) fun a55=>gE (C6 [a55]) fun a59=>if 0<gP (mget c14 a59) 0 then ag8 (c13,c14) else if(c13.length:Int)=2000 then some (.inr ([],false)) else gE (app 24 c13 [a55]) fun a72=>ag8 (a72,mset c14 a59 1)
noncomputable def R9(ov:d5)(atv4:Int):Int->((LL)×(List (ByteArray×Int)))->Option (((LL)×(List (ByteArray×Int)))⊕((LL)×Bool)):=fun t9 (c7,c8)=>gE (ix c7 atv4) fun a36=>gE (ai8 ov a36 t9) fun a39=>if(!a39)=true then ag6 (c7,c8) else gE (ix c7 atv4) fun a45=>gE (H7 ov a45 t9) fun a48=>(gE (rngX 0 (a48.1.length:Int) (R6 a48) (c7,c8)) fun| .inl (c13,c14)=>ag6 (c13,c14)| .inr x=>some (.inr x))
noncomputable def ag2(ov:d5):((LL)×(List (ByteArray×Int))×Int)->Option (((LL)×(List (ByteArray×Int))×Int)⊕((LL)⊕((LL)×Bool))):=fun(c2,c3,atv4)=>if atv4<(c2.length:Int) then(gE (rngX 0 (ov.operators.length:Int) (R9 ov atv4) (c2,c3)) fun| .inl (c7,c8)=>some (.inl (c7,c8,w64 (atv4+1)))| .inr x=>some (.inr (.inr x))) else some (.inr (.inl c2))
noncomputable def N8(ov:d5):Option ((LL)×Bool):=gE (k7 ov.init) fun a15=>gE (C6 [a15]) fun a19=>gE (Loop (ag2 ov) ([a15],mset ([]:List (ByteArray×Int)) a19 1,0)) fun| .inl c5=>gE (C7 c5) fun a76=>some (a76,true)| .inr x=>some x
noncomputable def P7(ov:d5):Option ((LL)×g8):=gE (D9 ov) fun a8=>if(!((decide (a8.code=0)) && (decide (a8.index=0))))=true then some ([],a8) else gE (N8 ov) fun a15=>if(!a15.2)=true then some ([],(⟨10, -7⟩:g8)) else some (a15.1,(⟨0,0⟩:g8))
noncomputable def ac6(all:LL)(sv:Li):Option Int:=gE (s9 all sv slices_Compare_int_int) fun a10=>some a10.1
noncomputable def M5(all:LL)(rank:Li)(a21:(LL)×Li):Int->Int->Option (Int⊕Int):=fun t7 nv6=>gE (ix a21.1 t7) fun a28=>gE (ac6 all a28) fun a33=>gE (ix rank a33) fun a34=>if a34<0 then some (.inr (-1)) else some (.inl (max nv6 a34))
noncomputable def K9(ov:d5)(all:LL)(rank:Li)(sv:Li)(op:Int):Option Int:=gE (H7 ov sv op) fun a21=>(gE (rngX 0 (a21.1.length:Int) (M5 all rank a21) 0) fun| .inl nv6=>some nv6| .inr x=>some x)
noncomputable def ad5(ov:d5)(all:LL)(rank:Li)(sv:Li):Int->(Int×Int)->Option (Int×Int):=fun t7 (out5,least6)=>gE (gE (ai8 ov sv t7) fun a22=>if(!a22)=true then some (out5,least6) else gE (K9 ov all rank sv t7) fun a29=>if((decide (0<=a29)) && ((decide (out5<0))||(decide (a29<least6))))=true then some (t7,a29) else some (out5,least6)) fun⟨out8,least9⟩=>some (out8,least9)
noncomputable def x8(ov:d5)(all:LL)(rank:Li)(sv:Li):Option Int:=(gE (forR 0 (ov.operators.length:Int) (ad5 ov all rank sv) (-1,0)) fun⟨out5,least6⟩=>some out5)
noncomputable def aa0(ov:d5)(all:LL):Int->Li->Option Li:=fun t4 c3=>gE (gE (ix all t4) fun a23=>gE (v8 a23 ov.goal) fun a28=>if a28=true then gE (ix c3 t4) fun a31=>some (c3.set t4.toNat 0) else some c3) fun c5=>some c5
noncomputable def aa4(ov:d5)(all:LL)(c8:Li):Int->Li->Option Li:=fun t11 c10=>gE (gE (ix all t11) fun a40=>gE (gE (ix c8 t11) fun a44=>if a44<0 then gE (x8 ov all c8 a40) fun a52=>some (decide (0<=a52)) else some false) fun t14=>if t14=true then gE (app 8 c10 [t11]) fun a58=>some a58 else some c10) fun c12=>some c12
def aa5(layer9:Int)(c10:Li):Int->Li->Option Li:=fun t20 c19=>gE (ix c10 t20) fun a68=>gE (ix c19 a68) fun a73=>some (c19.set a68.toNat layer9)
noncomputable def aa6(ov:d5)(all:LL):(Li×Int)->Option ((Li×Int)⊕Li):=fun(c8,layer9)=>(gE (forR 0 (all.length:Int) (aa4 ov all c8) []) fun c10=>if(c10.length:Int)=0 then some (.inr c8) else(gE (forR 0 (c10.length:Int) (aa5 layer9 c10) c8) fun c19=>some (.inl (c19,w64 (layer9+1)))))
noncomputable def ab2(ov:d5)(all:LL):Option Li:=gE (G2 [-1] (all.length:Int)) fun a17=>(gE (forR 0 (all.length:Int) (aa0 ov all) a17) fun c3=>gE (Loop (aa6 ov all) (c3,1)) fun x=>some x)
noncomputable def T4(sv:Li)(c2:d5)(c3:LL)(c4:Li):Option Int:=gE (x8 c2 c3 c4 sv) fun a10=>some a10
def B5(xv:List e9)(target:Li)(cmp:e9->Li->Option Int):(Int×Int)->Option ((Int×Int)⊕Int):=fun(iv4,j5)=>if iv4<j5 then gE (ix xv (w64 (shrW .u64 ((IntKind.u64).wrap (w64 (iv4+j5))) 1))) fun a27=>gE (cmp a27 target) fun a30=>if a30<0 then some (.inl (w64 ((w64 (shrW .u64 ((IntKind.u64).wrap (w64 (iv4+j5))) 1))+1),j5)) else some (.inl (iv4,w64 (shrW .u64 ((IntKind.u64).wrap (w64 (iv4+j5))) 1))) else some (.inr iv4)
noncomputable def n9(xv:List e9)(target:Li)(cmp:e9->Li->Option Int):Option (Int×Bool):=gE (Loop (B5 xv target cmp) (0,(xv.length:Int))) fun iv6=>gE (if iv6<(xv.length:Int) then gE (ix xv iv6) fun a43=>gE (cmp a43 target) fun a46=>some (decide (a46=0)) else some false) fun t9=>some (iv6,t9)
def open_Chosen_1(c:e9)(sv:Li):Option Int:=gE (slices_Compare_int_int c.state sv) fun a8=>some a8
noncomputable def K5(policy:List e9)(sv:Li):Option Int:=gE (n9 policy sv open_Chosen_1) fun a10=>if(!a10.2)=true then some (-1) else gE (ix policy a10.1) fun a17=>some a17.operator
def P2(c:e9)(sv:Li):Option Int:=gE (slices_Compare_int_int c.state sv) fun a8=>some a8
def M2(atv5:Int):((LL)×(List e9))->Option (((LL)×(List e9)×Int)⊕((List e9)⊕((List e9)×Bool))):=fun(c8,c9)=>some (.inl (c8,c9,w64 (atv5+1)))
noncomputable def aa9(ov:d5)(choose:Li->Option Int):((LL)×(List e9)×Int)->Option (((LL)×(List e9)×Int)⊕((List e9)⊕((List e9)×Bool))):=fun(c3,c4,atv5)=>if atv5<(c3.length:Int) then gE (ix c3 atv5) fun a26=>gE (gE (v8 a26 ov.goal) fun a31=>if a31=true then some true else gE (K5 c4 a26) fun a35=>some (decide (0<=a35))) fun t10=>if t10=true then(M2 atv5) (c3,c4) else if(c4.length:Int)=200 then some (.inr (.inr ([],false))) else gE (choose a26) fun a43=>gE (n9 c4 a26 P2) fun a47=>gE (k7 a26) fun a53=>gE (insL c4 a47.1 (⟨a53,a43⟩:e9)) fun a57=>gE (H7 ov a26 a43) fun a62=>gE (app 24 c3 a62.1) fun a67=>(M2 atv5) (a67,a57) else some (.inr (.inl c4))
noncomputable def ab6(ov:d5)(choose:Li->Option Int):Option ((List e9)×Bool):=gE (Loop (aa9 ov choose) ([ov.init],[],0)) fun| .inl c6=>some (c6,true)| .inr x=>some x
noncomputable def y7(ov:d5):Option ((List e9)×Bool×g8):=gE (P7 ov) fun a12=>if(!((decide (a12.2.code=0)) && (decide (a12.2.index=0))))=true then some ([],false,a12.2) else gE (ab2 ov a12.1) fun a21=>gE (ac6 a12.1 ov.init) fun a26=>gE (ix a21 a26) fun a27=>if a27<0 then some ([],false,(⟨0,0⟩:g8)) else gE (ab6 ov (fun y1=>T4 y1 ov a12.1 a21)) fun a34=>if(!a34.2)=true then some ([],false,(⟨10, -8⟩:g8)) else some (a34.1,true,(⟨0,0⟩:g8))
noncomputable def z8(t5:Int)(a34:m5):Int->((List (Int×Int))×(List h9))->Option ((List (Int×Int))×(List h9)):=fun t8 (c6,c7)=>gE (ix a34.outcomes t8) fun a42=>gE (k7 a34.pre) fun a48=>gE (k7 a42.add) fun a51=>gE (k7 a42.del) fun a54=>gE (app 80 c7 [(⟨a48,a51,a54,a34.cost⟩:h9)]) fun a59=>gE (app 16 c6 [(t5,t8)]) fun a66=>some (a66,a59)
noncomputable def x6(ov:d5):Int->((List (Int×Int))×(List h9))->Option ((List (Int×Int))×(List h9)):=fun t5 (c3,c4)=>gE (ix ov.operators t5) fun a34=>(gE (forR 0 (a34.outcomes.length:Int) (z8 t5 a34) (c3,c4)) fun⟨c6,c7⟩=>some (c6,c7))
noncomputable def D3(ov:d5):Option (j3×(List (Int×Int))×g8):=gE (D9 ov) fun a13=>if(!((decide (a13.code=0)) && (decide (a13.index=0))))=true then some ((⟨0,[],[],[]⟩:j3),[],a13) else gE (k7 ov.init) fun a23=>gE (k7 ov.goal) fun a26=>(gE (forR 0 (ov.operators.length:Int) (x6 ov) ([],[])) fun⟨c3,c4⟩=>if 40<(c3.length:Int) then some ((⟨0,[],[],[]⟩:j3),[],(⟨10, -1⟩:g8)) else some ((⟨ov.facts,a23,a26,c4⟩:j3),c3,(⟨0,0⟩:g8)))
noncomputable def F3(ov:d5)(policy:List e9):Int->Unit->Option (Unit⊕g8):=fun t5 _=>gE (ix policy t5) fun a24=>gE (gE (gE (w6 a24.state ov.facts) fun a31=>if(!a31)=true then some true else if 0<t5 then gE (ix policy (t5 - 1)) fun a40=>gE (slices_Compare_int_int a40.state a24.state) fun a45=>some (decide (0<=a45)) else some false) fun t8=>if t8=true then some 5 else if((decide (a24.operator<0))||(decide ((ov.operators.length:Int)<=a24.operator)))=true then some 3 else gE (ai8 ov a24.state a24.operator) fun a67=>if(!a67)=true then some 11 else some 0) fun ev6=>if ev6=0 then some (.inl ()) else some (.inr (⟨ev6,w64 ((-9) - t5)⟩:g8))
noncomputable def x7(ov:d5)(policy:List e9):Option g8:=gE (D9 ov) fun a10=>if(!((decide (a10.code=0)) && (decide (a10.index=0))))=true then some a10 else if 200<(policy.length:Int) then some (⟨2, -8⟩:g8) else(gE (rngX 0 (policy.length:Int) (F3 ov policy) ()) fun| .inl _=>some (⟨0,0⟩:g8)| .inr x=>some x)
def P5(xv:Li)(c2:Li):Option Bool:=gE (B3 xv c2) fun a6=>some a6
def S3(a46:(LL)×Li):Int->(LL)->Option (LL):=fun t14 c13=>gE (gE (ix a46.1 t14) fun a53=>gE (u4 c13 (fun y1=>P5 y1 a53)) fun a57=>if(!a57)=true then gE (app 24 c13 [a53]) fun a62=>some a62 else some c13) fun c15=>some c15
noncomputable def aa8(ov:d5)(policy:List e9):((LL)×Int)->Option (((LL)×Int)⊕(LL)):=fun(c3,atv4)=>if atv4<(c3.length:Int) then gE (gE (ix c3 atv4) fun a25=>gE (K5 policy a25) fun a27=>gE (if a27<0 then some true else gE (ix c3 atv4) fun a33=>gE (v8 a33 ov.goal) fun a37=>some a37) fun t9=>if t9=true then some c3 else gE (ix c3 atv4) fun a43=>gE (H7 ov a43 a27) fun a46=>(gE (forR 0 (a46.1.length:Int) (S3 a46) c3) fun c13=>some c13)) fun c7=>some (.inl (c7,w64 (atv4+1))) else some (.inr c3)
noncomputable def ac0(ov:d5)(policy:List e9):Option (LL):=gE (k7 ov.init) fun a14=>gE (Loop (aa8 ov policy) ([a14],0)) fun c5=>gE (C7 c5) fun a65=>some a65
def J0(sv:Li)(v:Int):Int->Unit->Option (Unit⊕Int):=fun t3 _=>gE (ix sv t3) fun a14=>if v=a14 then some (.inr t3) else some (.inl ())
def N9(sv:Li)(v:Int):Option Int:=(gE (rngX 0 (sv.length:Int) (J0 sv v) ()) fun| .inl _=>some (-1)| .inr x=>some x)
def E7(sv:Li)(v:Int):Option Bool:=gE (N9 sv v) fun a7=>some (decide (0<=a7))
noncomputable def T9(ov:d5)(a25:(LL)):Int->Li->Option Li:=fun t5 c4=>gE (gE (ix a25 t5) fun a34=>gE (v8 a34 ov.goal) fun a39=>if(!a39)=true then gE (ix c4 t5) fun a43=>some (c4.set t5.toNat (-1)) else some c4) fun c6=>some c6
noncomputable def S8(ov:d5)(policy:List e9)(a25:(LL)):Int->Li->Option Li:=fun t12 c11=>gE (gE (ix a25 t12) fun a54=>gE (K5 policy a54) fun a58=>gE (ix c11 t12) fun a61=>if((decide (0<=a61))||(decide (a58<0)))=true then some c11 else gE (K9 ov a25 c11 a54 a58) fun a73=>if 0<=a73 then gE (ix c11 t12) fun a80=>some (c11.set t12.toNat (w64 (a73+1))) else some c11) fun c13=>some c13
noncomputable def S0(ov:d5)(policy:List e9)(a25:(LL)):Int->Li->Option Li:=fun t10 c9=>(gE (forR 0 (a25.length:Int) (S8 ov policy a25) c9) fun c11=>some c11)
noncomputable def B4(ov:d5)(policy:List e9):Option (Int×Bool×g8):=gE (x7 ov policy) fun a18=>if(!((decide (a18.code=0)) && (decide (a18.index=0))))=true then some (0,false,a18) else gE (ac0 ov policy) fun a25=>gE (mkL 8 (a25.length:Int) 0) fun a28=>(gE (forR 0 (a25.length:Int) (T9 ov a25) a28) fun c4=>(gE (forR 0 (a25.length:Int) (S0 ov policy a25) c4) fun c9=>gE (E7 c9 (-1)) fun a84=>if a84=true then some (0,false,(⟨0,0⟩:g8)) else gE (ac6 a25 ov.init) fun a90=>gE (ix c9 a90) fun a91=>some (a91,true,(⟨0,0⟩:g8))))
noncomputable def P3(ov:d5)(policy:List e9)(outcomes:Li):((LL)×Li×Int)->Option (((LL)×Li×Int)⊕((LL)⊕((LL)×g8))):=fun(c6,sv7,t8)=>if t8<(outcomes.length:Int) then gE (ix outcomes t8) fun a37=>gE (K5 policy sv7) fun a41=>gE (if a41<0 then some true else gE (v8 sv7 ov.goal) fun a48=>some a48) fun t11=>if t11=true then some (.inr (.inl c6)) else gE (ix ov.operators a41) fun a53=>if((decide (a37<0))||(decide ((a53.outcomes.length:Int)<=a37)))=true then some (.inr (.inr ([],(⟨3,t8⟩:g8)))) else gE (ix a53.outcomes a37) fun a69=>gE (ix a53.outcomes a37) fun a74=>gE (B8 sv7 a69.add a74.del) fun a77=>gE (app 24 c6 [a77]) fun a81=>some (.inl (a81,a77,w64 (t8+1))) else some (.inr (.inl c6))
noncomputable def O9(ov:d5)(policy:List e9)(outcomes:Li):Option ((LL)×g8):=gE (x7 ov policy) fun a17=>if(!((decide (a17.code=0)) && (decide (a17.index=0))))=true then some ([],a17) else if 60<(outcomes.length:Int) then some ([],(⟨2, -5⟩:g8)) else gE (k7 ov.init) fun a28=>gE (k7 a28) fun a30=>gE (Loop (P3 ov policy outcomes) ([a30],a28,0)) fun| .inl c9=>some (c9,(⟨0,0⟩:g8))| .inr x=>some x
def ad8(p:List e9)(sv:Li):Int->Unit->Option (Unit⊕Int):=fun iv3 _=>gE (ix p iv3) fun a14=>gE (P0 a14.state sv) fun a18=>if a18=true then gE (ix p iv3) fun a21=>some (.inr a21.operator) else some (.inl ())
def K2(p:List e9)(sv:Li):Option Int:=(gE (rngX 0 (p.length:Int) (ad8 p sv) ()) fun| .inl _=>some (-1)| .inr x=>some x)
def am2(operators:Int)(plan:Li):Int->Unit->Option (Unit⊕g8):=fun t4 _=>gE (ix plan t4) fun a15=>if((decide (a15<0))||(decide (operators<=a15)))=true then some (.inr (⟨3, -6⟩:g8)) else some (.inl ())
def ab8(operators:Int)(plan:Li):Option g8:=if 60<(plan.length:Int) then some (⟨2, -5⟩:g8) else(gE (rngX 0 (plan.length:Int) (am2 operators plan) ()) fun| .inl _=>some (⟨0,0⟩:g8)| .inr x=>some x)
noncomputable def P8(t:j3)(plan:Li):Option g8:=gE (A9 t) fun a7=>if(!((decide (a7.code=0)) && (decide (a7.index=0))))=true then some a7 else gE (ab8 (t.operators.length:Int) plan) fun a16=>some a16
noncomputable def al1(t:j3)(sv:Li)(op:Int):Option Bool:=gE (ix t.operators op) fun a11=>gE (v8 sv a11.pre) fun a14=>some a14
noncomputable def ag9(t:j3)(plan:Li):((LL)×Li×Int)->Option (((LL)×Li×Int)⊕(LL)):=fun(c4,sv5,t6)=>if t6<(plan.length:Int) then gE (ix plan t6) fun a17=>gE (al1 t sv5 a17) fun a22=>if(!a22)=true then some (.inr c4) else gE (Y6 t sv5 a17) fun a27=>gE (app 24 c4 [a27]) fun a31=>some (.inl (a31,a27,w64 (t6+1))) else some (.inr c4)
noncomputable def am1(t:j3)(sv:Li)(plan:Li):Option (LL):=gE (k7 sv) fun a11=>gE (Loop (ag9 t plan) ([a11],sv,0)) fun c7=>some c7
noncomputable def ac2(t:j3)(sv:Li)(plan:Li):Option Bool:=gE (am1 t sv plan) fun a11=>gE (if(a11.length:Int)=w64 ((plan.length:Int)+1) then gE (ix a11 (plan.length:Int)) fun a22=>gE (v8 a22 t.goal) fun a26=>some a26 else some false) fun t4=>some t4
noncomputable def X6(t:j3)(plan:Li):Option (Bool×g8):=gE (P8 t plan) fun a9=>if(!((decide (a9.code=0)) && (decide (a9.index=0))))=true then some (false,a9) else gE (ac2 t t.init plan) fun a18=>some (a18,(⟨0,0⟩:g8))
noncomputable def B2(ov:d5):Int->Unit->Option (Unit⊕Bool):=fun iv2 _=>gE (ix ov.operators iv2) fun a29=>if(a29.outcomes.length:Int)=1 then some (.inl ()) else gE (M9) fun a34=>some (.inr a34)
def x5(a37:(List e9)×Bool×g8)(a76:(LL)×g8):Int->Li->Option Li:=fun iv7 c6=>gE (ix a76.1 iv7) fun a107=>gE (K2 a37.1 a107) fun a109=>gE (app 8 c6 [a109]) fun a111=>some a111
noncomputable def D1(ov:d5):Option Bool:=(gE (rngX 0 (ov.operators.length:Int) (B2 ov) ()) fun| .inl _=>gE (y7 ov) fun a37=>gE (D3 ov) fun a43=>gE (B4 ov a37.1) fun a50=>if((((!(decide (a37.2.2.code=0)))||(!(decide (a43.2.2.code=0))))||(!a37.2.1))||(decide (60<a50.1)))=true then gE (M9) fun a70=>some a70 else gE (mkL 8 a50.1 0) fun a75=>gE (O9 ov a37.1 a75) fun a76=>if((((!(decide (a50.2.2.code=0)))||(!a50.2.1))||(!(decide (a76.2.code=0))))||(!(decide ((a76.1.length:Int)=w64 (a50.1+1)))))=true then some false else if a50.1<=9223372036854775807 then(gE (forR 0 a50.1 (x5 a37 a76) []) fun c6=>gE (X6 a43.1 c6) fun a115=>gE (if a115.2.code=0 then if a115.1=true then gE (M9) fun a125=>some a125 else some false else some false) fun t8=>some t8) else none| .inr x=>some x)
def R5(nv:Int)(low:Int)(high:Int):Option Bool:=some ((decide (low<=nv)) && (decide (nv<=high)))
def C8(code:Int)(index:Int):Option g8:=some (⟨code,index⟩:g8)
def aq5(l:Li)(nv:Int):Int->Unit->Option (Unit⊕Bool):=fun iv3 _=>gE (gE (ix l iv3) fun a14=>gE (R5 a14 0 (w64 (nv - 1))) fun a18=>if(!a18)=true then some true else if 0<iv3 then gE (ix l iv3) fun a26=>gE (ix l (iv3 - 1)) fun a31=>some (decide (a26<=a31)) else some false) fun t4=>if t4=true then some (.inr false) else some (.inl ())
def E5(l:Li)(nv:Int):Option Bool:=(gE (rngX 0 (l.length:Int) (aq5 l nv) ()) fun| .inl _=>some true| .inr x=>some x)
def ref1_Has_l1(l:Li)(nv:Int):Int->Unit->Option (Unit⊕Bool):=fun iv3 _=>gE (ix l iv3) fun a14=>if a14=nv then some (.inr true) else some (.inl ())
def ac3(l:Li)(nv:Int):Option Bool:=(gE (rngX 0 (l.length:Int) (ref1_Has_l1 l nv) ()) fun| .inl _=>some false| .inr x=>some x)
def au5(av:Li)(bv:Li):Int->Unit->Option (Unit⊕Bool):=fun iv3 _=>gE (ix av iv3) fun a15=>gE (ac3 bv a15) fun a17=>if a17=true then some (.inr false) else some (.inl ())
def af9(av:Li)(bv:Li):Option Bool:=(gE (rngX 0 (av.length:Int) (au5 av bv) ()) fun| .inl _=>some true| .inr x=>some x)
def N7(t:j3):Int->Unit->Option (Unit⊕g8):=fun iv6 _=>gE (ix t.operators iv6) fun a39=>gE (gE (E5 a39.pre t.facts) fun a45=>if(!a45)=true then some true else gE (E5 a39.add t.facts) fun a52=>if(!a52)=true then some true else gE (E5 a39.del t.facts) fun a60=>if(!a60)=true then some true else gE (af9 a39.add a39.del) fun a68=>some (!a68)) fun t7=>if t7=true then gE (C8 5 iv6) fun a72=>some (.inr a72) else gE (R5 a39.cost 0 100) fun a75=>if(!a75)=true then gE (C8 3 iv6) fun a78=>some (.inr a78) else some (.inl ())
def an1(t:j3):Option g8:=gE (R5 t.facts 0 24) fun a7=>if(!a7)=true then gE (C8 3 (-1)) fun a9=>some a9 else gE (E5 t.init t.facts) fun a14=>if(!a14)=true then gE (C8 5 (-2)) fun a16=>some a16 else gE (E5 t.goal t.facts) fun a21=>if(!a21)=true then gE (C8 5 (-3)) fun a23=>some a23 else if 40<(t.operators.length:Int) then gE (C8 2 (-1)) fun a28=>some a28 else(gE (rngX 0 (t.operators.length:Int) (N7 t) ()) fun| .inl _=>some (⟨0,0⟩:g8)| .inr x=>some x)
def ap9(operators:Int)(plan:Li):Int->Unit->Option (Unit⊕g8):=fun iv4 _=>gE (ix plan iv4) fun a18=>gE (R5 a18 0 (w64 (operators - 1))) fun a22=>if(!a22)=true then gE (C8 3 (-6)) fun a24=>some (.inr a24) else some (.inl ())
def ak6(operators:Int)(plan:Li):Option g8:=if 60<(plan.length:Int) then gE (C8 2 (-5)) fun a9=>some a9 else(gE (rngX 0 (plan.length:Int) (ap9 operators plan) ()) fun| .inl _=>some (⟨0,0⟩:g8)| .inr x=>some x)
def az4(t:j3)(plan:Li):Option g8:=gE (an1 t) fun a7=>gE (if a7.code=0 then gE (ak6 (t.operators.length:Int) plan) fun a15=>some (a15.code,a15.index) else some (a7.code,a7.index)) fun⟨c3,c4⟩=>some (⟨c3,c4⟩:g8)
def ay1(part:Li)(l:Li):Int->Unit->Option (Unit⊕Bool):=fun iv3 _=>gE (ix part iv3) fun a15=>gE (ac3 l a15) fun a17=>if(!a17)=true then some (.inr false) else some (.inl ())
def an9(part:Li)(l:Li):Option Bool:=(gE (rngX 0 (part.length:Int) (ay1 part l) ()) fun| .inl _=>some true| .inr x=>some x)
def aq1(l:LL)(sv:Li):Int->Unit->Option (Unit⊕Int):=fun iv3 _=>gE (ix l iv3) fun a14=>gE (P0 a14 sv) fun a17=>if a17=true then some (.inr iv3) else some (.inl ())
def aA8(l:LL)(sv:Li):Option Int:=(gE (rngX 0 (l.length:Int) (aq1 l sv) ()) fun| .inl _=>some (-1)| .inr x=>some x)
def F0(ov:d5)(a42:m5):(Int×Int)->Option ((Int×Int)⊕Int):=fun(ev12,kv13)=>if((decide (kv13<(a42.outcomes.length:Int))) && (decide (ev12=0)))=true then gE (gE (ix a42.outcomes kv13) fun a73=>gE (gE (E5 a73.add ov.facts) fun a79=>if(!a79)=true then some true else gE (E5 a73.del ov.facts) fun a86=>if(!a86)=true then some true else gE (af9 a73.add a73.del) fun a94=>some (!a94)) fun t18=>if t18=true then some 5 else gE (R5 a73.weight 1 6) fun a99=>if(!a99)=true then some 3 else some ev12) fun ev16=>some (.inl (ev16,w64 (kv13+1))) else some (.inr ev12)
noncomputable def N4(ov:d5):Int->Unit->Option (Unit⊕g8):=fun iv6 _=>gE (ix ov.operators iv6) fun a42=>gE (gE (E5 a42.pre ov.facts) fun a48=>if(!a48)=true then some 5 else gE (R5 a42.cost 0 100) fun a52=>if(!a52)=true then some 3 else gE (R5 (a42.outcomes.length:Int) 1 4) fun a57=>if(!a57)=true then some 9 else some 0) fun ev7=>gE (Loop (F0 ov a42) (ev7,0)) fun ev14=>if ev14=0 then some (.inl ()) else gE (C8 ev14 iv6) fun a105=>some (.inr a105)
noncomputable def an4(ov:d5):Option g8:=gE (R5 ov.facts 0 24) fun a10=>if(!a10)=true then gE (C8 3 (-1)) fun a12=>some a12 else gE (E5 ov.init ov.facts) fun a17=>if(!a17)=true then gE (C8 5 (-2)) fun a19=>some a19 else gE (E5 ov.goal ov.facts) fun a24=>if(!a24)=true then gE (C8 5 (-3)) fun a26=>some a26 else if 40<(ov.operators.length:Int) then gE (C8 2 (-1)) fun a31=>some a31 else(gE (rngX 0 (ov.operators.length:Int) (N4 ov) ()) fun| .inl _=>some (⟨0,0⟩:g8)| .inr x=>some x)
def at8(sv:Li):Int->Int->Option Int:=fun iv3 w2=>gE (ix sv iv3) fun a14=>gE (chk0 ((IntKind.u64).wrap a14)) fun u17=>some (w64 (w2+(shlW .i64 1 ((IntKind.u64).wrap a14))))
def ao3(sv:Li):Option Int:=(gE (forR 0 (sv.length:Int) (at8 sv) 0) fun w2=>some w2)
def al9(ov:d5)(sv:Li)(op:Int):Option Bool:=gE (ix ov.operators op) fun a10=>gE (an9 a10.pre sv) fun a14=>some a14
def az1(sv:Li)(xv:w8):Int->Li->Option Li:=fun p5 c4=>gE (gE (gE (ac3 xv.add p5) fun a18=>if a18=true then some true else gE (ac3 sv p5) fun a22=>if a22=true then gE (ac3 xv.del p5) fun a27=>some (!a27) else some false) fun t8=>if t8=true then gE (app 8 c4 [p5]) fun a34=>some a34 else some c4) fun c6=>some c6
def af1(ov:d5)(sv:Li)(xv:w8):Option Li:=if ov.facts<=9223372036854775807 then(gE (forR 0 ov.facts (az1 sv xv) []) fun c4=>some c4) else none
def an6(av:Li)(bv:Li):Int->Option (Int⊕(Unit⊕Bool)):=fun iv3=>if((decide (iv3<(av.length:Int))) && (decide (iv3<(bv.length:Int))))=true then gE (ix av iv3) fun a20=>gE (ix bv iv3) fun a24=>if a20=a24 then some (.inl (w64 (iv3+1))) else gE (ix av iv3) fun a29=>gE (ix bv iv3) fun a33=>some (.inr (.inr (decide (a29<a33)))) else some (.inr (.inl ()))
noncomputable def af3(av:Li)(bv:Li):Option Bool:=gE (Loop (an6 av bv) 0) fun| .inl _=>some (decide ((av.length:Int)<(bv.length:Int)))| .inr x=>some x
noncomputable def am8(l:LL)(sv:Li):Int->Option (Int⊕Int):=fun kv3=>gE (if kv3<(l.length:Int) then gE (ix l kv3) fun a13=>gE (af3 a13 sv) fun a16=>some a16 else some false) fun t5=>if t5=true then some (.inl (w64 (kv3+1))) else some (.inr kv3)
noncomputable def ao0(l:LL)(sv:Li):Option (LL):=gE (Loop (am8 l sv) 0) fun kv4=>gE (if kv4<(l.length:Int) then gE (ix l kv4) fun a27=>gE (P0 a27 sv) fun a30=>some a30 else some false) fun t9=>if t9=true then some l else gE (subL l 0 kv4) fun a36=>gE (app 24 ([]:LL) a36) fun a37=>gE (app 24 a37 [sv]) fun a40=>gE (subL l kv4 (l.length:Int)) fun a43=>gE (app 24 a40 a43) fun a44=>some a44
noncomputable def aq3(ov:d5)(sv:Li)(a17:m5):Int->(LL)->Option (LL):=fun kv5 states4=>gE (ix a17.outcomes kv5) fun a31=>gE (af1 ov sv a31) fun a33=>gE (ao0 states4 a33) fun a34=>some a34
def aq2(ov:d5)(sv:Li)(a17:m5)(states4:LL):Int->Li->Option Li:=fun kv7 c6=>gE (ix a17.outcomes kv7) fun a49=>gE (af1 ov sv a49) fun a51=>gE (aA8 states4 a51) fun a52=>gE (ix c6 a52) fun a57=>gE (ix a17.outcomes kv7) fun a61=>gE (ix c6 a52) fun a65=>some (c6.set a52.toNat (w64 (a57+a61.weight)))
noncomputable def aA9(ov:d5)(sv:Li)(op:Int):Option ((LL)×Li):=gE (ix ov.operators op) fun a17=>(gE (forR 0 (a17.outcomes.length:Int) (aq3 ov sv a17) []) fun states4=>gE (mkL 8 (states4.length:Int) 0) fun a37=>(gE (forR 0 (a17.outcomes.length:Int) (aq2 ov sv a17 states4) a37) fun c6=>some (states4,c6)))
def aw4:((LL)×Li)->Option (((LL)×Li)⊕((LL)×Bool)):=fun(c11,c12)=>some (.inl (c11,c12))
def aw6:((LL)×Li)->Option (((LL)×Li)⊕((LL)×Bool)):=fun(c17,c18)=>some (.inl (c17,c18))
def U3(most:Int)(a52:(LL)×Li):Int->((LL)×Li)->Option (((LL)×Li)⊕((LL)×Bool)):=fun kv16 (c14,c15)=>gE (ix a52.1 kv16) fun a64=>gE (ao3 a64) fun a66=>gE (ac3 c15 a66) fun a67=>if a67=true then aw6 (c14,c15) else if most<=(c14.length:Int) then some (.inr ([],false)) else gE (ix a52.1 kv16) fun a75=>gE (app 24 c14 [a75]) fun a78=>gE (ix a52.1 kv16) fun a82=>gE (ao3 a82) fun a84=>gE (app 8 c15 [a84]) fun a86=>aw6 (a78,a86)
noncomputable def S7(ov:d5)(most:Int)(iv5:Int):Int->((LL)×Li)->Option (((LL)×Li)⊕((LL)×Bool)):=fun op10 (c8,c9)=>gE (ix c8 iv5) fun a40=>gE (al9 ov a40 op10) fun a43=>if(!a43)=true then aw4 (c8,c9) else gE (ix c8 iv5) fun a49=>gE (aA9 ov a49 op10) fun a52=>(gE (rngX 0 (a52.1.length:Int) (U3 most a52) (c8,c9)) fun| .inl (c14,c15)=>aw4 (c14,c15)| .inr x=>some (.inr x))
noncomputable def aa7(ov:d5)(most:Int):((LL)×Li×Int)->Option (((LL)×Li×Int)⊕((LL)⊕((LL)×Bool))):=fun(c3,c4,iv5)=>if iv5<(c3.length:Int) then(gE (rngX 0 (ov.operators.length:Int) (S7 ov most iv5) (c3,c4)) fun| .inl (c8,c9)=>some (.inl (c8,c9,w64 (iv5+1)))| .inr x=>some (.inr (.inr x))) else some (.inr (.inl c3))
noncomputable def am0(c6:LL):Int->(LL)->Option (LL):=fun iv22 out21=>gE (ix c6 iv22) fun a96=>gE (ao0 out21 a96) fun a98=>some a98
noncomputable def ab4(ov:d5)(most:Int):Option ((LL)×Bool):=gE (ao3 ov.init) fun a21=>gE (app 8 [] [a21]) fun a23=>gE (Loop (aa7 ov most) ([ov.init],a23,0)) fun| .inl c6=>(gE (forR 0 (c6.length:Int) (am0 c6) []) fun out21=>some (out21,true))| .inr x=>some x
def ref8_Goal(ov:d5)(sv:Li):Option Bool:=gE (an9 ov.goal sv) fun a8=>some a8
noncomputable def J3(ov:d5)(p:List e9):Int->Unit->Option (Unit⊕g8):=fun iv5 _=>gE (gE (ix p iv5) fun a25=>gE (E5 a25.state ov.facts) fun a30=>if(!a30)=true then some true else if 0<iv5 then gE (ix p (iv5 - 1)) fun a39=>gE (ix p iv5) fun a44=>gE (af3 a39.state a44.state) fun a47=>some (!a47) else some false) fun t6=>if t6=true then gE (C8 5 (w64 ((-9) - iv5))) fun a53=>some (.inr a53) else gE (ix p iv5) fun a56=>gE (R5 a56.operator 0 (w64 ((ov.operators.length:Int) - 1))) fun a63=>if(!a63)=true then gE (C8 3 (w64 ((-9) - iv5))) fun a67=>some (.inr a67) else gE (ix p iv5) fun a71=>gE (ix p iv5) fun a76=>gE (al9 ov a71.state a76.operator) fun a79=>if(!a79)=true then gE (C8 11 (w64 ((-9) - iv5))) fun a83=>some (.inr a83) else some (.inl ())
noncomputable def ai7(ov:d5)(p:List e9):Option g8:=gE (an4 ov) fun a8=>if a8.code=0 then if 200<(p.length:Int) then gE (C8 2 (-8)) fun a16=>some a16 else(gE (rngX 0 (p.length:Int) (J3 ov p) ()) fun| .inl _=>some (⟨0,0⟩:g8)| .inr x=>some x) else some a8
def an7(ov:d5)(p:List e9)(outcomes:Li):Int->(LL)->Option ((LL)⊕((LL)×g8)):=fun iv6 c5=>gE (ix c5 iv6) fun a27=>gE (K2 p a27) fun a31=>gE (if a31<0 then some true else gE (ref8_Goal ov a27) fun a37=>some a37) fun t7=>if t7=true then some (.inr (c5,(⟨0,0⟩:g8))) else gE (ix outcomes iv6) fun a43=>gE (ix ov.operators a31) fun a48=>gE (R5 a43 0 (w64 ((a48.outcomes.length:Int) - 1))) fun a53=>if(!a53)=true then gE (C8 3 iv6) fun a56=>some (.inr ([],a56)) else gE (ix ov.operators a31) fun a63=>gE (ix outcomes iv6) fun a68=>gE (ix a63.outcomes a68) fun a70=>gE (af1 ov a27 a70) fun a72=>gE (app 24 c5 [a72]) fun a74=>some (.inl a74)
def ae7(ov:d5)(p:List e9)(outcomes:Li):Option ((LL)×g8):=if 60<(outcomes.length:Int) then gE (C8 2 (-5)) fun a15=>some ([],a15) else(gE (rngX 0 (outcomes.length:Int) (an7 ov p outcomes) [ov.init]) fun| .inl c5=>some (c5,(⟨0,0⟩:g8))| .inr x=>some x)
end Ab
end
section
namespace Ab
open Go
mutual
theorem C.no_ok0{id:Id}:∀c:C,c.ok 0=true->c.no id=true
 | .imm _,_=>rfl
 | .own _ _ _,h=>by simp[C.ok] at h
 | .ptr _ _ _,h=>by simp[C.ok] at h
 | .fn _ caps,h=>C.noL_ok0 caps h
 | .fnb _ caps,h=>C.noL_ok0 caps h
 | .ifc _ cs _,h=>C.noL_ok0 cs h
 | .map _,h=>by simp[C.ok] at h
theorem C.noL_ok0{id:Id}:∀l:List C,C.okL 0 l=true->C.noL id l=true
 |[],_=>rfl
 |c::r,h=>by
  simp only[C.okL,hY] at h
  simp only[C.noL,hY]
  exact⟨C.no_ok0 c h.1,C.noL_ok0 r h.2⟩
end
theorem fnNo{id:Id}{f:FuncId}{cv:List C}(h:C.okL 0 cv=true):(C.fn f cv).no id=true:=C.noL_ok0 cv h
theorem fnOk{n:Nat}{f:FuncId}{cv:List C}(h:C.okL 0 cv=true):(C.fn f cv).ok n=true:=C.okL_mono (Nat.zero_le n) cv h
theorem fnMv{π:Id->Id}{o:Option T}{f:FuncId}{cv:List C}(h:C.okL 0 cv=true)(e:o=some (.c (.fn f cv))):o=some ((T.c (.fn f cv)).ren π):=by
 rw[e]
 simp only[T.ren,C.ren]
 rw[C.renL_ok (m:=0) (fun i hi=>absurd hi (Nat.not_lt_zero _)) cv h]
theorem eOk1{n t:Nat}{v:T}{r:Env}(h:v.ok n=true)(hr:ag4 n r=true):ag4 n ((t,v)::r)=true:=by
 simp only[ag4,h,hr,Bool.and_self]
section
open Go.Proofs
variable {P:Program}{σ0:b6}{sz:Nat}{Q:Post}{env:Env}{σv:b6}{ops:Array Oper}{rest:List Oper}
def XAny(id:Id)(k:Nat)(es:List (List I)):C->C->Prop:=fun c c'=>c.frz id k es=c'
theorem AOps.frzB{e:List I}{id:Id}{k:Nat}{env2:Env}{σ1 σ2:b6}(hid:Nat.ble σ0.length id.1=true)(hσ:σv[id]? =some (some (Blk.im k [e])))(henv:U7 id (XAny id k [e]) env env2)(h1:putF σv id none=some σ1)(hst:FrzS id (XAny id k [e]) σ1 σ2)
  (h:AOps P σ0 sz ops Q rest (St.mk env2 σ2)):AOps P σ0 sz ops Q rest (St.mk env σv):=AOps.sub (Sub.frzX (fun _ _ h=>h) hid hσ henv h1 hst) h
end
end Ab
end
section
namespace Go.Proofs
open Go.Shelf
open Tryz
def Tryz.lays283_ren:Go.Shelf.Ren:=⟨fun|283=>146|n=>n,fun|3=>3|9=>9|4=>4|n=>n,fun|n=>n⟩
theorem Tryz.lays283:Go.Proofs.Lays.n283 prog Tryz.lays283_ren:={
 mixed:=by kernel_rfl
 f283:=func146.trans (congrArg some (by kernel_rfl))
 t3:=underlying3
 a3:=isAgg3
 z3:=sizeOf3
 v3:=zeroValue3
 t4:=underlying4
 a4:=isAgg4
 z4:=sizeOf4
 v4:=zeroValue4
 t9:=underlying9
 a9:=isAgg9
 z9:=sizeOf9
 v9:=zeroValue9}
open Go.Lib in
theorem Tryz.internal_strconv_small(i:Nat)(h:i<100)(w:World):
  Calls prog 146 #[.int .i64 i] w fun e w'=>e=.returned (.string ⟨(Lib.decDigits i).toArray⟩)/\w'=w:=Any.internal_strconv_small Tryz.lays283 i h w
def Tryz.lays189_ren:Go.Shelf.Ren:=⟨fun|189=>61|125=>89|257=>88|128=>122|129=>123|294=>114|295=>115|296=>116|297=>117|298=>118|299=>119|216=>86|300=>120|301=>121|328=>141|329=>142|330=>143|331=>144|332=>145|215=>109|343=>163|n=>n,fun|28=>22|3=>3|46=>132|0=>0|51=>130|53=>177|4=>4|183=>184|182=>183|131=>95|5=>5|9=>9|218=>222|222=>226|228=>246|229=>247|n=>n,fun|n=>n⟩
theorem Tryz.lays189:Go.Proofs.Lays.n189 prog Tryz.lays189_ren:={
 mixed:=by kernel_rfl
 f125:=func89.trans (congrArg some (by kernel_rfl))
 f128:=func122.trans (congrArg some (by kernel_rfl))
 f129:=func123.trans (congrArg some (by kernel_rfl))
 f189:=func61.trans (congrArg some (by kernel_rfl))
 f215:=func109.trans (congrArg some (by kernel_rfl))
 f216:=func86.trans (congrArg some (by kernel_rfl))
 f257:=func88.trans (congrArg some (by kernel_rfl))
 f294:=func114.trans (congrArg some (by kernel_rfl))
 f295:=func115.trans (congrArg some (by kernel_rfl))
 f296:=func116.trans (congrArg some (by kernel_rfl))
 f297:=func117.trans (congrArg some (by kernel_rfl))
 f298:=func118.trans (congrArg some (by kernel_rfl))
 f299:=func119.trans (congrArg some (by kernel_rfl))
 f300:=func120.trans (congrArg some (by kernel_rfl))
 f301:=func121.trans (congrArg some (by kernel_rfl))
 f328:=func141.trans (congrArg some (by kernel_rfl))
 f329:=func142.trans (congrArg some (by kernel_rfl))
 f330:=func143.trans (congrArg some (by kernel_rfl))
 f331:=func144.trans (congrArg some (by kernel_rfl))
 f332:=func145.trans (congrArg some (by kernel_rfl))
 f343:=func163.trans (congrArg some (by kernel_rfl))
 t0:=underlying0
 a0:=isAgg0
 z0:=sizeOf0
 v0:=zeroValue0
 t3:=underlying3
 a3:=isAgg3
 z3:=sizeOf3
 v3:=zeroValue3
 t4:=underlying4
 a4:=isAgg4
 z4:=sizeOf4
 v4:=zeroValue4
 t5:=underlying5
 a5:=isAgg5
 z5:=sizeOf5
 v5:=zeroValue5
 t9:=underlying9
 a9:=isAgg9
 z9:=sizeOf9
 v9:=zeroValue9
 t28:=underlying22
 a28:=isAgg22
 z28:=sizeOf22
 v28:=zeroValue22
 t46:=underlying132
 a46:=isAgg132
 z46:=sizeOf132
 v46:=zeroValue132
 t51:=underlying130
 a51:=isAgg130
 z51:=sizeOf130
 v51:=zeroValue130
 t53:=underlying177
 a53:=isAgg177
 z53:=sizeOf177
 v53:=zeroValue177
 t131:=underlying95
 a131:=isAgg95
 z131:=sizeOf95
 v131:=zeroValue95
 t182:=underlying183
 a182:=isAgg183
 z182:=sizeOf183
 v182:=zeroValue183
 t183:=underlying184
 a183:=isAgg184
 z183:=sizeOf184
 v183:=zeroValue184
 t218:=underlying222
 a218:=isAgg222
 z218:=sizeOf222
 v218:=zeroValue222
 t222:=underlying226
 a222:=isAgg226
 z222:=sizeOf226
 v222:=zeroValue226
 t228:=underlying246
 a228:=isAgg246
 z228:=sizeOf246
 v228:=zeroValue246
 t229:=underlying247
 a229:=isAgg247
 z229:=sizeOf247
 v229:=zeroValue247}
open Go.Sort Go.RowKit in
theorem Tryz.slices_Sort_int(blk off cap:Nat)(zs:List Int)(w:World)(hH:Holds (Value.int .i64) w blk off zs.toArray)(hblk:blk<w.heap.size)(hsz:zs.length<4611686018427387904):
  Calls prog 61 #[.slice (some ⟨blk,off,none⟩) zs.length cap] w fun e w'=>
   e=.returned (.tuple #[])/\∃n os,w'=grow (putRow (Value.int .i64) (Sort.ahead w n) blk off (zs.mergeSort fun x y=>decide (x<=y)).toArray) os:=Any.slices_Sort_int Tryz.lays189 blk off cap zs w hH hblk hsz
def Tryz.lays112_ren:Go.Shelf.Ren:=⟨fun|112=>70|n=>n,fun|28=>22|3=>3|4=>4|0=>0|n=>n,fun|n=>n⟩
theorem Tryz.lays112:Go.Proofs.Lays.n112 prog Tryz.lays112_ren:={
 mixed:=by kernel_rfl
 f112:=func70.trans (congrArg some (by kernel_rfl))
 t0:=underlying0
 a0:=isAgg0
 z0:=sizeOf0
 v0:=zeroValue0
 t3:=underlying3
 a3:=isAgg3
 z3:=sizeOf3
 v3:=zeroValue3
 t4:=underlying4
 a4:=isAgg4
 z4:=sizeOf4
 v4:=zeroValue4
 t28:=underlying22
 a28:=isAgg22
 z28:=sizeOf22
 v28:=zeroValue22}
open Go.RowKit Go.Lib Go.Sort in
theorem Tryz.slices_Reverse_int(blk off cap:Nat)(zs:List Int)(w:World)(hH:Holds (Value.int .i64) w blk off zs.toArray)(hsz:zs.length<=9223372036854775807):
  Calls prog 70 #[.slice (some ⟨blk,off,none⟩) zs.length cap] w fun e w'=>e=.returned (.tuple #[])/\∃n,w'=putRow (Value.int .i64) (Sort.ahead w n) blk off zs.reverse.toArray:=Any.slices_Reverse_int Tryz.lays112 blk off cap zs w hH hsz
open Go.RowKit Go.Lib Go.Sort in
theorem Tryz.slices_Reverse_int_empty(a:Option Addr)(cap:Nat)(w:World):
  Calls prog 70 #[.slice a 0 cap] w fun e w'=>e=.returned (.tuple #[])/\w'=w:=Any.slices_Reverse_int_empty Tryz.lays112 a cap w
def Tryz.laysNm220_ren:Go.Shelf.Ren:=⟨fun|20=>62|n=>n,fun|22=>22|3=>3|4=>4|0=>0|n=>n,fun|n=>n⟩
theorem Tryz.laysNm220:Go.Proofs.Lays2.n20 prog Tryz.laysNm220_ren:={
 mixed:=by kernel_rfl
 f20:=func62.trans (congrArg some (by kernel_rfl))
 t0:=underlying0
 a0:=isAgg0
 z0:=sizeOf0
 v0:=zeroValue0
 t3:=underlying3
 a3:=isAgg3
 z3:=sizeOf3
 v3:=zeroValue3
 t4:=underlying4
 a4:=isAgg4
 z4:=sizeOf4
 v4:=zeroValue4
 t22:=underlying22
 a22:=isAgg22
 z22:=sizeOf22
 v22:=zeroValue22
 i3:=by kernel_rfl}
open Go.RowKit Go.Lib Go.Sort in
theorem Tryz.slices_Compact_int(blk off cap:Nat)(zs:List Int)(w:World)(hH:Holds (Value.int .i64) w blk off zs.toArray)(hsz:zs.length<=9223372036854775807)(hcap:zs.length<=cap):
  Calls prog 62 #[.slice (some ⟨blk,off,none⟩) zs.length cap] w fun e w'=>e=.returned (.slice (some ⟨blk,off,none⟩) (Lib.compact zs).length cap)/\∃q,w'=putRow (Value.int .i64) (Sort.ahead w q) blk off (Lib.compact zs++List.replicate (zs.length - (Lib.compact zs).length) 0).toArray:=Any.slices_Compact_int Tryz.laysNm220 blk off cap zs w hH hsz hcap
open Go.RowKit Go.Lib Go.Sort in
theorem Tryz.slices_Compact_int_empty(a:Option Addr)(cap:Nat)(w:World):
  Calls prog 62 #[.slice a 0 cap] w fun e w'=>e=.returned (.slice a 0 cap)/\w'=w:=Any.slices_Compact_int_empty Tryz.laysNm220 a cap w
open Go.RowKit Go.Sort in
theorem Tryz.slices_Sort_int_none(p:Option Addr)(cap:Nat)(w:World):
  Calls prog 61 #[.slice p 0 cap] w fun e w'=>e=.returned (.tuple #[])/\w'=w:=Any.slices_Sort_int_none Tryz.lays189 p cap w
def Tryz.laysSlF6_f84_ren:Go.Shelf.Ren:=⟨fun|6=>84|15=>89|14=>113|28=>122|29=>123|20=>133|21=>134|22=>135|23=>136|24=>137|25=>138|26=>139|27=>140|46=>160|47=>142|48=>143|49=>161|50=>162|57=>171|n=>n,fun|22=>43|24=>22|25=>97|3=>3|39=>132|0=>0|53=>130|55=>177|4=>4|46=>184|45=>183|50=>95|5=>5|9=>9|66=>222|70=>226|76=>246|77=>247|n=>n,fun|n=>n⟩
theorem Tryz.laysSlF6_f84:Go.Proofs.SlLaysF.n6 prog Tryz.laysSlF6_f84_ren:={
 mixed:=by kernel_rfl
 f6:=⟨Tryz.f84.name,by decide,func84.trans (congrArg some (by kernel_rfl))⟩
 f14:=⟨Tryz.f113.name,by decide,func113.trans (congrArg some (by kernel_rfl))⟩
 f15:=func89.trans (congrArg some (by kernel_rfl))
 f20:=⟨Tryz.f133.name,by decide,func133.trans (congrArg some (by kernel_rfl))⟩
 f21:=⟨Tryz.f134.name,by decide,func134.trans (congrArg some (by kernel_rfl))⟩
 f22:=⟨Tryz.f135.name,by decide,func135.trans (congrArg some (by kernel_rfl))⟩
 f23:=⟨Tryz.f136.name,by decide,func136.trans (congrArg some (by kernel_rfl))⟩
 f24:=⟨Tryz.f137.name,by decide,func137.trans (congrArg some (by kernel_rfl))⟩
 f25:=⟨Tryz.f138.name,by decide,func138.trans (congrArg some (by kernel_rfl))⟩
 f26:=⟨Tryz.f139.name,by decide,func139.trans (congrArg some (by kernel_rfl))⟩
 f27:=⟨Tryz.f140.name,by decide,func140.trans (congrArg some (by kernel_rfl))⟩
 f28:=func122.trans (congrArg some (by kernel_rfl))
 f29:=func123.trans (congrArg some (by kernel_rfl))
 f46:=⟨Tryz.f160.name,by decide,func160.trans (congrArg some (by kernel_rfl))⟩
 f47:=func142.trans (congrArg some (by kernel_rfl))
 f48:=func143.trans (congrArg some (by kernel_rfl))
 f49:=⟨Tryz.f161.name,by decide,func161.trans (congrArg some (by kernel_rfl))⟩
 f50:=⟨Tryz.f162.name,by decide,func162.trans (congrArg some (by kernel_rfl))⟩
 f57:=⟨Tryz.f171.name,by decide,func171.trans (congrArg some (by kernel_rfl))⟩
 t0:=underlying0
 a0:=isAgg0
 z0:=sizeOf0
 v0:=zeroValue0
 t3:=underlying3
 a3:=isAgg3
 z3:=sizeOf3
 v3:=zeroValue3
 t4:=underlying4
 a4:=isAgg4
 z4:=sizeOf4
 v4:=zeroValue4
 t5:=underlying5
 a5:=isAgg5
 z5:=sizeOf5
 v5:=zeroValue5
 t9:=underlying9
 a9:=isAgg9
 z9:=sizeOf9
 v9:=zeroValue9
 t22:=underlying43
 a22:=isAgg43
 z22:=sizeOf43
 v22:=zeroValue43
 a24:=isAgg22
 z24:=sizeOf22
 t25:=underlying97
 a25:=isAgg97
 z25:=sizeOf97
 v25:=zeroValue97
 t39:=underlying132
 a39:=isAgg132
 z39:=sizeOf132
 v39:=zeroValue132
 t45:=underlying183
 a45:=isAgg183
 z45:=sizeOf183
 v45:=zeroValue183
 t46:=underlying184
 a46:=isAgg184
 z46:=sizeOf184
 v46:=zeroValue184
 t50:=underlying95
 a50:=isAgg95
 z50:=sizeOf95
 v50:=zeroValue95
 t53:=underlying130
 a53:=isAgg130
 z53:=sizeOf130
 v53:=zeroValue130
 t55:=underlying177
 a55:=isAgg177
 z55:=sizeOf177
 v55:=zeroValue177
 t66:=underlying222
 a66:=isAgg222
 z66:=sizeOf222
 v66:=zeroValue222
 t70:=underlying226
 a70:=isAgg226
 z70:=sizeOf226
 v70:=zeroValue226
 t76:=underlying246
 a76:=isAgg246
 z76:=sizeOf246
 v76:=zeroValue246
 t77:=underlying247
 a77:=isAgg247
 z77:=sizeOf247
 v77:=zeroValue247}
def Tryz.laysSlF6_f98_ren:Go.Shelf.Ren:=⟨fun|6=>98|15=>89|14=>126|28=>122|29=>123|20=>150|21=>151|22=>152|23=>153|24=>154|25=>155|26=>156|27=>157|46=>168|47=>142|48=>143|49=>169|50=>170|57=>174|n=>n,fun|22=>125|24=>130|25=>155|3=>3|39=>132|0=>0|53=>130|55=>177|4=>4|46=>184|45=>183|50=>95|5=>5|9=>9|66=>222|70=>226|76=>246|77=>247|n=>n,fun|n=>n⟩
theorem Tryz.laysSlF6_f98:Go.Proofs.SlLaysF.n6 prog Tryz.laysSlF6_f98_ren:={
 mixed:=by kernel_rfl
 f6:=⟨Tryz.f98.name,by decide,func98.trans (congrArg some (by kernel_rfl))⟩
 f14:=⟨Tryz.f126.name,by decide,func126.trans (congrArg some (by kernel_rfl))⟩
 f15:=func89.trans (congrArg some (by kernel_rfl))
 f20:=⟨Tryz.f150.name,by decide,func150.trans (congrArg some (by kernel_rfl))⟩
 f21:=⟨Tryz.f151.name,by decide,func151.trans (congrArg some (by kernel_rfl))⟩
 f22:=⟨Tryz.f152.name,by decide,func152.trans (congrArg some (by kernel_rfl))⟩
 f23:=⟨Tryz.f153.name,by decide,func153.trans (congrArg some (by kernel_rfl))⟩
 f24:=⟨Tryz.f154.name,by decide,func154.trans (congrArg some (by kernel_rfl))⟩
 f25:=⟨Tryz.f155.name,by decide,func155.trans (congrArg some (by kernel_rfl))⟩
 f26:=⟨Tryz.f156.name,by decide,func156.trans (congrArg some (by kernel_rfl))⟩
 f27:=⟨Tryz.f157.name,by decide,func157.trans (congrArg some (by kernel_rfl))⟩
 f28:=func122.trans (congrArg some (by kernel_rfl))
 f29:=func123.trans (congrArg some (by kernel_rfl))
 f46:=⟨Tryz.f168.name,by decide,func168.trans (congrArg some (by kernel_rfl))⟩
 f47:=func142.trans (congrArg some (by kernel_rfl))
 f48:=func143.trans (congrArg some (by kernel_rfl))
 f49:=⟨Tryz.f169.name,by decide,func169.trans (congrArg some (by kernel_rfl))⟩
 f50:=⟨Tryz.f170.name,by decide,func170.trans (congrArg some (by kernel_rfl))⟩
 f57:=⟨Tryz.f174.name,by decide,func174.trans (congrArg some (by kernel_rfl))⟩
 t0:=underlying0
 a0:=isAgg0
 z0:=sizeOf0
 v0:=zeroValue0
 t3:=underlying3
 a3:=isAgg3
 z3:=sizeOf3
 v3:=zeroValue3
 t4:=underlying4
 a4:=isAgg4
 z4:=sizeOf4
 v4:=zeroValue4
 t5:=underlying5
 a5:=isAgg5
 z5:=sizeOf5
 v5:=zeroValue5
 t9:=underlying9
 a9:=isAgg9
 z9:=sizeOf9
 v9:=zeroValue9
 t22:=underlying125
 a22:=isAgg125
 z22:=sizeOf125
 v22:=zeroValue125
 a24:=isAgg130
 z24:=sizeOf130
 t25:=underlying155
 a25:=isAgg155
 z25:=sizeOf155
 v25:=zeroValue155
 t39:=underlying132
 a39:=isAgg132
 z39:=sizeOf132
 v39:=zeroValue132
 t45:=underlying183
 a45:=isAgg183
 z45:=sizeOf183
 v45:=zeroValue183
 t46:=underlying184
 a46:=isAgg184
 z46:=sizeOf184
 v46:=zeroValue184
 t50:=underlying95
 a50:=isAgg95
 z50:=sizeOf95
 v50:=zeroValue95
 t53:=underlying130
 a53:=isAgg130
 z53:=sizeOf130
 v53:=zeroValue130
 t55:=underlying177
 a55:=isAgg177
 z55:=sizeOf177
 v55:=zeroValue177
 t66:=underlying222
 a66:=isAgg222
 z66:=sizeOf222
 v66:=zeroValue222
 t70:=underlying226
 a70:=isAgg226
 z70:=sizeOf226
 v70:=zeroValue226
 t76:=underlying246
 a76:=isAgg246
 z76:=sizeOf246
 v76:=zeroValue246
 t77:=underlying247
 a77:=isAgg247
 z77:=sizeOf247
 v77:=zeroValue247}
open Go.RowKit Go.Lib Go.Sort in
theorem Tryz.slices_SortFunc_f84{α:Type}[Inhabited α](enc:α->Value)(h1:OneCell enc)(cf:α->α->Int)(hO:SWO (ltOf cf))(g:Nat)(cb:Array Value)(blk off cap:Nat)(d:Array α)(w:World)(eg:∀args w,(callFunc g args).run prog w=.ok (.enter g args) w)(hcmp:CmpLays1 prog g cb enc cf blk off d.size w)(hH:Holds enc w blk off d)(hblk:blk<w.heap.size)(hsz:d.size<4611686018427387904):
  Calls prog 84 #[.slice (some ⟨blk,off,none⟩) d.size cap,.func (.func g) #[] cb] w fun e w'=>
   e=.returned (.tuple #[])/\∃d' n os,PermIn 0 d.size d d'/\SortedIn (ltOf cf) 0 d.size d'/\w'=sortWorld enc w blk off n d' os:=Any.slices_SortFunc Tryz.laysSlF6_f84 enc h1 cf hO g cb blk off cap d w eg hcmp hH hblk hsz
open Go.RowKit Go.Lib Go.Sort in
theorem Tryz.slices_SortFunc_f98{α:Type}[Inhabited α](enc:α->Value)(h1:OneCell enc)(cf:α->α->Int)(hO:SWO (ltOf cf))(g:Nat)(cb:Array Value)(blk off cap:Nat)(d:Array α)(w:World)(eg:∀args w,(callFunc g args).run prog w=.ok (.enter g args) w)(hcmp:CmpLays1 prog g cb enc cf blk off d.size w)(hH:Holds enc w blk off d)(hblk:blk<w.heap.size)(hsz:d.size<4611686018427387904):
  Calls prog 98 #[.slice (some ⟨blk,off,none⟩) d.size cap,.func (.func g) #[] cb] w fun e w'=>
   e=.returned (.tuple #[])/\∃d' n os,PermIn 0 d.size d d'/\SortedIn (ltOf cf) 0 d.size d'/\w'=sortWorld enc w blk off n d' os:=Any.slices_SortFunc Tryz.laysSlF6_f98 enc h1 cf hO g cb blk off cap d w eg hcmp hH hblk hsz
def Tryz.laysSlF06_f84_ren:Go.Shelf.Ren:=⟨fun|6=>84|15=>89|14=>113|28=>122|29=>123|20=>133|21=>134|22=>135|23=>136|24=>137|25=>138|26=>139|27=>140|46=>160|47=>142|48=>143|49=>161|50=>162|57=>171|n=>n,fun|22=>43|24=>22|25=>97|3=>3|39=>132|0=>0|53=>130|55=>177|4=>4|46=>184|45=>183|50=>95|5=>5|9=>9|66=>222|70=>226|76=>246|77=>247|n=>n,fun|n=>n⟩
theorem Tryz.laysSlF06_f84:Go.Proofs.SlLaysF0.n6 prog Tryz.laysSlF06_f84_ren:={
 mixed:=by kernel_rfl
 f6:=⟨Tryz.f84.name,by decide,func84.trans (congrArg some (by kernel_rfl))⟩
 f14:=⟨Tryz.f113.name,by decide,func113.trans (congrArg some (by kernel_rfl))⟩
 f15:=func89.trans (congrArg some (by kernel_rfl))
 f20:=⟨Tryz.f133.name,by decide,func133.trans (congrArg some (by kernel_rfl))⟩
 f21:=⟨Tryz.f134.name,by decide,func134.trans (congrArg some (by kernel_rfl))⟩
 f22:=⟨Tryz.f135.name,by decide,func135.trans (congrArg some (by kernel_rfl))⟩
 f23:=⟨Tryz.f136.name,by decide,func136.trans (congrArg some (by kernel_rfl))⟩
 f24:=⟨Tryz.f137.name,by decide,func137.trans (congrArg some (by kernel_rfl))⟩
 f25:=⟨Tryz.f138.name,by decide,func138.trans (congrArg some (by kernel_rfl))⟩
 f26:=⟨Tryz.f139.name,by decide,func139.trans (congrArg some (by kernel_rfl))⟩
 f27:=⟨Tryz.f140.name,by decide,func140.trans (congrArg some (by kernel_rfl))⟩
 f28:=func122.trans (congrArg some (by kernel_rfl))
 f29:=func123.trans (congrArg some (by kernel_rfl))
 f46:=⟨Tryz.f160.name,by decide,func160.trans (congrArg some (by kernel_rfl))⟩
 f47:=func142.trans (congrArg some (by kernel_rfl))
 f48:=func143.trans (congrArg some (by kernel_rfl))
 f49:=⟨Tryz.f161.name,by decide,func161.trans (congrArg some (by kernel_rfl))⟩
 f50:=⟨Tryz.f162.name,by decide,func162.trans (congrArg some (by kernel_rfl))⟩
 f57:=⟨Tryz.f171.name,by decide,func171.trans (congrArg some (by kernel_rfl))⟩
 t0:=underlying0
 a0:=isAgg0
 z0:=sizeOf0
 v0:=zeroValue0
 t3:=underlying3
 a3:=isAgg3
 z3:=sizeOf3
 v3:=zeroValue3
 t4:=underlying4
 a4:=isAgg4
 z4:=sizeOf4
 v4:=zeroValue4
 t5:=underlying5
 a5:=isAgg5
 z5:=sizeOf5
 v5:=zeroValue5
 t9:=underlying9
 a9:=isAgg9
 z9:=sizeOf9
 v9:=zeroValue9
 t22:=underlying43
 a22:=isAgg43
 z22:=sizeOf43
 v22:=zeroValue43
 t25:=underlying97
 a25:=isAgg97
 z25:=sizeOf97
 v25:=zeroValue97
 t39:=underlying132
 a39:=isAgg132
 z39:=sizeOf132
 v39:=zeroValue132
 t45:=underlying183
 a45:=isAgg183
 z45:=sizeOf183
 v45:=zeroValue183
 t46:=underlying184
 a46:=isAgg184
 z46:=sizeOf184
 v46:=zeroValue184
 t50:=underlying95
 a50:=isAgg95
 z50:=sizeOf95
 v50:=zeroValue95
 t53:=underlying130
 a53:=isAgg130
 z53:=sizeOf130
 v53:=zeroValue130
 t55:=underlying177
 a55:=isAgg177
 z55:=sizeOf177
 v55:=zeroValue177
 t66:=underlying222
 a66:=isAgg222
 z66:=sizeOf222
 v66:=zeroValue222
 t70:=underlying226
 a70:=isAgg226
 z70:=sizeOf226
 v70:=zeroValue226
 t76:=underlying246
 a76:=isAgg246
 z76:=sizeOf246
 v76:=zeroValue246
 t77:=underlying247
 a77:=isAgg247
 z77:=sizeOf247
 v77:=zeroValue247}
open Go.RowKit Go.Lib Go.Sort in
theorem Tryz.slices_SortFunc_none_f84{α:Type}[Inhabited α](p:Option Addr)(cap:Nat)(fv:Value)(w:World):
  Calls prog 84 #[.slice p 0 cap,fv] w fun e w'=>e=.returned (.tuple #[])/\w'=w:=AnyF.slices_SortFunc_none Tryz.laysSlF06_f84 p cap fv w
def Tryz.laysSlF06_f98_ren:Go.Shelf.Ren:=⟨fun|6=>98|15=>89|14=>126|28=>122|29=>123|20=>150|21=>151|22=>152|23=>153|24=>154|25=>155|26=>156|27=>157|46=>168|47=>142|48=>143|49=>169|50=>170|57=>174|n=>n,fun|22=>125|24=>130|25=>155|3=>3|39=>132|0=>0|53=>130|55=>177|4=>4|46=>184|45=>183|50=>95|5=>5|9=>9|66=>222|70=>226|76=>246|77=>247|n=>n,fun|n=>n⟩
theorem Tryz.laysSlF06_f98:Go.Proofs.SlLaysF0.n6 prog Tryz.laysSlF06_f98_ren:={
 mixed:=by kernel_rfl
 f6:=⟨Tryz.f98.name,by decide,func98.trans (congrArg some (by kernel_rfl))⟩
 f14:=⟨Tryz.f126.name,by decide,func126.trans (congrArg some (by kernel_rfl))⟩
 f15:=func89.trans (congrArg some (by kernel_rfl))
 f20:=⟨Tryz.f150.name,by decide,func150.trans (congrArg some (by kernel_rfl))⟩
 f21:=⟨Tryz.f151.name,by decide,func151.trans (congrArg some (by kernel_rfl))⟩
 f22:=⟨Tryz.f152.name,by decide,func152.trans (congrArg some (by kernel_rfl))⟩
 f23:=⟨Tryz.f153.name,by decide,func153.trans (congrArg some (by kernel_rfl))⟩
 f24:=⟨Tryz.f154.name,by decide,func154.trans (congrArg some (by kernel_rfl))⟩
 f25:=⟨Tryz.f155.name,by decide,func155.trans (congrArg some (by kernel_rfl))⟩
 f26:=⟨Tryz.f156.name,by decide,func156.trans (congrArg some (by kernel_rfl))⟩
 f27:=⟨Tryz.f157.name,by decide,func157.trans (congrArg some (by kernel_rfl))⟩
 f28:=func122.trans (congrArg some (by kernel_rfl))
 f29:=func123.trans (congrArg some (by kernel_rfl))
 f46:=⟨Tryz.f168.name,by decide,func168.trans (congrArg some (by kernel_rfl))⟩
 f47:=func142.trans (congrArg some (by kernel_rfl))
 f48:=func143.trans (congrArg some (by kernel_rfl))
 f49:=⟨Tryz.f169.name,by decide,func169.trans (congrArg some (by kernel_rfl))⟩
 f50:=⟨Tryz.f170.name,by decide,func170.trans (congrArg some (by kernel_rfl))⟩
 f57:=⟨Tryz.f174.name,by decide,func174.trans (congrArg some (by kernel_rfl))⟩
 t0:=underlying0
 a0:=isAgg0
 z0:=sizeOf0
 v0:=zeroValue0
 t3:=underlying3
 a3:=isAgg3
 z3:=sizeOf3
 v3:=zeroValue3
 t4:=underlying4
 a4:=isAgg4
 z4:=sizeOf4
 v4:=zeroValue4
 t5:=underlying5
 a5:=isAgg5
 z5:=sizeOf5
 v5:=zeroValue5
 t9:=underlying9
 a9:=isAgg9
 z9:=sizeOf9
 v9:=zeroValue9
 t22:=underlying125
 a22:=isAgg125
 z22:=sizeOf125
 v22:=zeroValue125
 t25:=underlying155
 a25:=isAgg155
 z25:=sizeOf155
 v25:=zeroValue155
 t39:=underlying132
 a39:=isAgg132
 z39:=sizeOf132
 v39:=zeroValue132
 t45:=underlying183
 a45:=isAgg183
 z45:=sizeOf183
 v45:=zeroValue183
 t46:=underlying184
 a46:=isAgg184
 z46:=sizeOf184
 v46:=zeroValue184
 t50:=underlying95
 a50:=isAgg95
 z50:=sizeOf95
 v50:=zeroValue95
 t53:=underlying130
 a53:=isAgg130
 z53:=sizeOf130
 v53:=zeroValue130
 t55:=underlying177
 a55:=isAgg177
 z55:=sizeOf177
 v55:=zeroValue177
 t66:=underlying222
 a66:=isAgg222
 z66:=sizeOf222
 v66:=zeroValue222
 t70:=underlying226
 a70:=isAgg226
 z70:=sizeOf226
 v70:=zeroValue226
 t76:=underlying246
 a76:=isAgg246
 z76:=sizeOf246
 v76:=zeroValue246
 t77:=underlying247
 a77:=isAgg247
 z77:=sizeOf247
 v77:=zeroValue247}
open Go.RowKit Go.Lib Go.Sort in
theorem Tryz.slices_SortFunc_none_f98{α:Type}[Inhabited α](p:Option Addr)(cap:Nat)(fv:Value)(w:World):
  Calls prog 98 #[.slice p 0 cap,fv] w fun e w'=>e=.returned (.tuple #[])/\w'=w:=AnyF.slices_SortFunc_none Tryz.laysSlF06_f98 p cap fv w
end Go.Proofs
end
section
namespace Ab
open Go Go.Proofs
open Tryz
theorem sort_facts:P1 prog 61:=⟨_,func61,rfl,rfl⟩
theorem compact_facts:P1 prog 62:=⟨_,func62,rfl,rfl⟩
theorem sortL_ok:SortOk prog 61:=fun hσ hl=>sort_fn sort_facts (fun blk off cap zs w hH hb hs=>Tryz.slices_Sort_int blk off cap zs w hH hb hs) (fun p cap w=>Tryz.slices_Sort_int_none p cap w) hσ hl
theorem compactL_ok:CompactOk prog 62:=fun hσ=>compact_fn compact_facts (fun blk off cap zs w hH hs hc=>Tryz.slices_Compact_int blk off cap zs w hH hs hc) (fun a cap w=>Tryz.slices_Compact_int_empty a cap w) hσ
end Ab
end
section
namespace Ab
open Go Go.Proofs
open Tryz
theorem sortF_facts:P1 prog 84:=⟨_,func84,rfl,rfl⟩
theorem sortF_LLi64_ok:SortFOk prog 84:=fun hgn hO hT hg _ _ _ hσ hl=>sortF_fn sortF_facts hgn hO hT hg (fun β _ enc h1 cf hO g cb blk off cap d w eg hcmp hH hblk hsz=>Tryz.slices_SortFunc_f84 enc h1 cf hO g cb blk off cap d w eg hcmp hH hblk hsz) (fun p cap fv w=>Tryz.slices_SortFunc_none_f84 (α:=Unit) p cap fv w) hσ hl
end Ab
end
section
namespace Ab
open Go Go.Proofs
open Tryz
theorem reverse_facts:P1 prog 70:=⟨_,func70,rfl,rfl⟩
theorem revL_ok:RevOk prog 70:=fun hσ=>rev_fn reverse_facts (fun blk off cap zs w hH hs=>Tryz.slices_Reverse_int blk off cap zs w hH hs) (fun p cap w=>Tryz.slices_Reverse_int_empty p cap w) hσ
end Ab
end
section
namespace Ab
open Go Go.Proofs
open Tryz
theorem sortU_facts:P1 prog 98:=⟨_,func98,rfl,rfl⟩
theorem sortF_Lu32_ok:SortFOk prog 98:=fun hgn hO hT hg _ _ _ hσ hl=>sortF_fn sortU_facts hgn hO hT hg (fun β _ enc h1 cf hO g cb blk off cap d w eg hcmp hH hblk hsz=>Tryz.slices_SortFunc_f98 enc h1 cf hO g cb blk off cap d w eg hcmp hH hblk hsz) (fun p cap fv w=>Tryz.slices_SortFunc_none_f98 (α:=Unit) p cap fv w) hσ hl
end Ab
end
section
namespace Ab
open Go
theorem J2{α:Type}{l:List α}{k:Nat}:ix l (k:Int)=l[k]? :=by simp[ix]
theorem k6{α:Type}{l:List α}{i:Int}(h0:0<=i)(h1:i<l.length):∃a,ix l i=some a/\l[i.toNat]? =some a:=by
 have h:i.toNat<l.length:=by omega
 exact⟨l[i.toNat],by simp[ix,h0,h],by simp[h]⟩
theorem n7{α:Type}{l:List α}{i:Int}{a:α}(h:ix l i=some a):0<=i/\i<l.length/\l[i.toNat]? =some a:=by
 unfold ix at h
 split at h
 ·have:=(lG.1 h).1
  exact⟨by assumption,by omega,h⟩
 ·cases h
theorem x9{n:Int}(h1: -9223372036854775808<=n)(h2:n<=9223372036854775807):w64 n=n:=w64_eq ⟨h1,h2⟩
theorem forN_inv{S:Type}{body:Int->S->Option S}(P:Int->S->Prop):∀(k:Nat) (i:Int) (s:S),P i s->
  (∀j s,i<=j->j<i+k->P j s->∃s',body j s=some s'/\P (j+1) s')->∃s',forN body k i s=some s'/\P (i+k) s'
 |0,i,s,h,_=>⟨s,rfl,by simpa using h⟩
 |k+1,i,s,h,hb=>by
  obtain⟨s1,h1,h2⟩:=hb i s (gI _) (by omega) h
  obtain⟨s2,h3,h4⟩:=forN_inv P k (i+1) s1 h2 (fun j s g1 g2=>hb j s (by omega) (by omega))
  exact⟨s2,by simp only[forN,h1];exact h3,by rw[show i+((k+1:Nat):Int)=i+1+k by omega];exact h4⟩
theorem z6{S:Type}{body:Int->S->Option S}{n:Int}(P:Int->S->Prop){s:S}(hn:0<=n)(h0:P 0 s)
  (hb:∀j s,0<=j->j<n->P j s->∃s',body j s=some s'/\P (j+1) s'):∃s',forR 0 n body s=some s'/\P n s':=by
 obtain⟨s',h1,h2⟩:=forN_inv P (n - 0).toNat 0 s h0 (fun j s g1 g2=>hb j s g1 (by omega))
 exact⟨s',h1,by rwa [show(0:Int)+((n - 0).toNat:Int)=n by omega] at h2⟩
theorem rngN_inv{S O:Type}{body:Int->S->Option (S⊕O)}(P:Int->S->Prop)(Q:O->Prop):∀(k:Nat) (i:Int) (s:S),P i s->
  (∀j s,i<=j->j<i+k->P j s->(∃s',body j s=some (.inl s')/\P (j+1) s')\/∃o,body j s=some (.inr o)/\Q o)->
  (∃s',rngN body k i s=some (.inl s')/\P (i+k) s')\/∃o,rngN body k i s=some (.inr o)/\Q o
 |0,i,s,h,_=>.inl ⟨s,rfl,by simpa using h⟩
 |k+1,i,s,h,hb=>by
  rcases hb i s (gI _) (by omega) h with⟨s1,h1,h2⟩|⟨o,h1,h2⟩
  ·rcases rngN_inv P Q k (i+1) s1 h2 (fun j s g1 g2=>hb j s (by omega) (by omega)) with⟨s2,h3,h4⟩|⟨o,h3,h4⟩
   ·exact .inl ⟨s2,by simp only[rngN,h1];exact h3,by rw[show i+((k+1:Nat):Int)=i+1+k by omega];exact h4⟩
   ·exact .inr ⟨o,by simp only[rngN,h1];exact h3,h4⟩
  ·exact .inr ⟨o,by simp only[rngN,h1],h2⟩
theorem X3{S O:Type}{body:Int->S->Option (S⊕O)}{n:Int}(P:Int->S->Prop)(Q:O->Prop){s:S}(hn:0<=n)(h0:P 0 s)
  (hb:∀j s,0<=j->j<n->P j s->(∃s',body j s=some (.inl s')/\P (j+1) s')\/∃o,body j s=some (.inr o)/\Q o):
  (∃s',rngX 0 n body s=some (.inl s')/\P n s')\/∃o,rngX 0 n body s=some (.inr o)/\Q o:=by
 rcases rngN_inv P Q (n - 0).toNat 0 s h0 (fun j s g1 g2=>hb j s g1 (by omega)) with⟨s',h1,h2⟩|h
 ·exact .inl ⟨s',h1,by rwa [show(0:Int)+((n - 0).toNat:Int)=n by omega] at h2⟩
 ·exact .inr h
theorem LoopN_inv{S O:Type}{body:S->Option (S⊕O)}(P:S->Prop)(Q:O->Prop)(μ:S->Nat)(hb:∀s,P s->(∃s',body s=some (.inl s')/\P s'/\μ s'<μ s)\/∃o,body s=some (.inr o)/\Q o):
  ∀(k:Nat) (s:S),μ s<k->P s->∃o,R0 body k s=some o/\Q o
 |0,s,h,_=>by omega
 |k+1,s,h,hs=>by
  rcases hb s hs with⟨s',h1,h2,h3⟩|⟨o,h1,h2⟩
  ·obtain⟨o,g1,g2⟩:=LoopN_inv P Q μ hb k s' (by omega) h2
   exact⟨o,by simp only[R0,h1];exact g1,g2⟩
  ·exact⟨o,by simp only[R0,h1],h2⟩
theorem M7{S O:Type}{body:S->Option (S⊕O)}(P:S->Prop)(Q:O->Prop)(μ:S->Nat){s:S}(hs:P s)
  (hb:∀s,P s->(∃s',body s=some (.inl s')/\P s'/\μ s'<μ s)\/∃o,body s=some (.inr o)/\Q o):∃o,Loop body s=some o/\Q o:=by
 obtain⟨o,h1,h2⟩:=LoopN_inv P Q μ hb (μ s+1) s (by omega) hs
 exact⟨o,au1.2 ⟨_,h1⟩,h2⟩
/-! ### Two loops that do the same -/
theorem rngN_eq{S O:Type}{b1 b2:Int->S->Option (S⊕O)}(P:Int->S->Prop):∀(k:Nat) (i:Int) (s:S),P i s->
  (∀j s,i<=j->j<i+k->P j s->b1 j s=b2 j s/\b1 j s ≠ none/\∀s',b1 j s=some (.inl s')->P (j+1) s')->
  rngN b1 k i s=rngN b2 k i s/\rngN b1 k i s ≠ none/\∀s',rngN b1 k i s=some (.inl s')->P (i+k) s'
 |0,i,s,h,_=>⟨rfl,by simp[rngN],fun s' hs=>by simp only[rngN,Option.some.injEq,Sum.inl.injEq] at hs;subst hs;simpa using h⟩
 |k+1,i,s,h,hb=>by
  obtain⟨h1,h2,h3⟩:=hb i s (gI _) (by omega) h
  simp only[rngN]
  rw[<- h1]
  cases hc:b1 i s with
  |none=>exact absurd hc h2
  |some x=>
   cases x with
   |inr o=>exact⟨rfl,by simp,fun s' hs=>by simp at hs⟩
   |inl s1=>
    dsimp only
    have:=rngN_eq (b1:=b1) (b2:=b2) P k (i+1) s1 (h3 s1 hc) (fun j s g1 g2=>hb j s (by omega) (by omega))
    rwa [show i+1+(k:Int)=i+((k+1:Nat):Int) by omega] at this
theorem rngX_eq{S O:Type}{b1 b2:Int->S->Option (S⊕O)}{n:Int}(P:Int->S->Prop){s:S}(hn:0<=n)(h0:P 0 s)
  (hb:∀j s,0<=j->j<n->P j s->b1 j s=b2 j s/\b1 j s ≠ none/\∀s',b1 j s=some (.inl s')->P (j+1) s'):
  rngX 0 n b1 s=rngX 0 n b2 s/\rngX 0 n b1 s ≠ none/\∀s',rngX 0 n b1 s=some (.inl s')->P n s':=by
 have:=rngN_eq P (n - 0).toNat 0 s h0 (fun j s g1 g2=>hb j s g1 (by omega))
 rwa [show(0:Int)+((n - 0).toNat:Int)=n by omega] at this
end Ab
end
section
namespace Ab
open Go
noncomputable def dec(p:Prop):Bool:=@decide p (Classical.propDecidable p)
@[simp] theorem n8 {p:Prop}:dec p=true↔p:=by simp[dec]
@[simp] theorem dec_false {p:Prop}:dec p=false↔¬ p:=by simp[dec]
@[simp] theorem v6 {p:Prop}:(!dec p)=dec (¬ p):=by by_cases h:p<;>simp[dec,h]
theorem W9{p:Prop}[Decidable p]:decide p=dec p:=by by_cases h:p<;>simp[dec,h]
theorem o8{p:Prop}(h:p):dec p=true:=n8.2 h
theorem z2{p:Prop}(h:¬ p):dec p=false:=dec_false.2 h
theorem C1{p q:Prop}(h:p↔q):dec p=dec q:=by rw[propext h]
theorem dec_and{p q:Prop}:(dec p && dec q)=dec (p/\q):=by by_cases h:p<;>by_cases g:q<;>simp[dec,h,g]
theorem ifP{α:Type}{p:Prop}{a b:α}(h:p):(if dec p=true then a else b)=a:=if_pos (o8 h)
theorem ifN{α:Type}{p:Prop}{a b:α}(h:¬ p):(if dec p=true then a else b)=b:=if_neg fun g=>h (n8.1 g)
theorem ifNN{α:Type}{p:Prop}{a b:α}(h:p):(if dec (¬ p)=true then a else b)=b:=ifN (not_not_intro h)
theorem m9{α:Type}{l:List α}{i:Int}{a:α}(h:ix l i=some a):a ∈ l:=List.mem_of_getElem? (n7 h).2.2
theorem s6{α:Type}{l:List α}{a:α}(h:a ∈ l):∃i:Int,0<=i/\i<l.length/\ix l i=some a:=by
 obtain⟨k,hk⟩:=List.getElem?_of_mem h
 exact⟨k,by omega,by have:=(lG.1 hk).1;omega,by rw[J2,hk]⟩
theorem ix_put{α:Type}{l:List α}{i j:Int}{x:α}(h0:0<=i)(h1:i<l.length)(hj:0<=j):ix (l.set i.toNat x) j=if j=i then some x else ix l j:=by
 simp only[ix,hj,if_true,List.getElem?_set]
 by_cases h:j=i
 ·subst h;rw[if_pos rfl,if_pos rfl,if_pos (by omega)]
 ·rw[if_neg h,if_neg (by omega)]
theorem D5{O:Type}{body:Int->Unit->Option (Unit⊕O)}{n:Int}(g:Int->Option O)(hn:0<=n)
  (hb:∀j,0<=j->j<n->(∀i,0<=i->i<j->g i=none)->body j ()=some (match g j with|none=>.inl ()|some o=>.inr o)):
  (rngX 0 n body ()=some (.inl ())/\∀j,0<=j->j<n->g j=none)\/∃j o,0<=j/\j<n/\g j=some o/\(∀i,0<=i->i<j->g i=none)/\rngX 0 n body ()=some (.inr o):=by
 rcases X3 (body:=body) (n:=n) (fun j _=>∀i,0<=i->i<j->g i=none) (fun o=>∃j,0<=j/\j<n/\g j=some o/\∀i,0<=i->i<j->g i=none) (s:=()) hn (fun i h1 h2=>by omega) (fun j s h0 h1 hP=>by
  have:=hb j h0 h1 hP
  cases hg:g j with
  |none=>rw[hg] at this;exact .inl ⟨(),this,fun i h2 h3=>by
    rcases gW (gT h3) with h|h
    ·exact hP i h2 h
    ·rw[h,hg]⟩
  |some o=>rw[hg] at this;exact .inr ⟨o,this,j,h0,h1,hg,hP⟩) with⟨s',h1,h2⟩|⟨o,h1,j,h2,h3,h4,h5⟩
 ·exact .inl ⟨h1,h2⟩
 ·exact .inr ⟨j,o,h2,h3,h4,h5,h1⟩
theorem at9{α O:Type}{l:List α}{body:Int->Unit->Option (Unit⊕O)}(q:α->Prop)(b:O)
  (hb:∀j a,ix l j=some a->(q a/\body j ()=some (.inl ()))\/(¬ q a/\body j ()=some (.inr b))):
  rngX 0 (l.length:Int) body ()=some (if dec (∀a ∈ l,q a)=true then .inl () else .inr b):=by
 rcases D5 (body:=body) (n:=(l.length:Int)) (fun j=>match ix l j with|some a=>if dec (q a)=true then none else some b|none=>none) (by omega) (fun j h0 h1 _=>by
  obtain⟨a,h2,_⟩:=k6 h0 h1
  rw[h2]
  rcases hb j a h2 with⟨h3,h4⟩|⟨h3,h4⟩
  ·rw[h4];simp[h3]
  ·rw[h4];simp[h3]) with⟨h1,h2⟩|⟨j,o,h0,h1,h2,_,h4⟩
 ·rw[h1,if_pos]
  rw[n8]
  intro a ha
  obtain⟨i,g1,g2,g3⟩:=s6 ha
  have:=h2 i g1 g2
  rw[g3] at this
  simpa using this
 ·rw[h4]
  obtain⟨a,g1,_⟩:=k6 h0 h1
  rw[g1] at h2
  simp only[n8] at h2
  split at h2
  ·cases h2
  ·rename_i hq
   cases h2
   rw[if_neg]
   rw[n8]
   exact fun h=>hq (o8 (h a (m9 g1)))
abbrev Inc(l:Li):Prop:=l.Pairwise (· < ·)
theorem inc_of_adj:∀{l:Li},(∀(k:Nat) a b,l[k]? =some a->l[k+1]? =some b->a<b)->Inc l
 |[],_=>.nil
 |[_],_=>by simp
 |a::b::l,h=>by
  have ih:Inc (b::l):=inc_of_adj fun k x y h1 h2=>h (k+1) x y (by simpa using h1) (by simpa using h2)
  have hab:a<b:=h 0 a b rfl rfl
  refine gG.2 ⟨fun c hc=> ?_,ih⟩
  rcases gH.1 hc with rfl|hc
  ·exact hab
  ·exact Int.lt_trans hab ((gG.1 ih).1 c hc)
theorem Inc.get{l:Li}(h:Inc l){i j:Nat}{a b:Int}(hi:l[i]? =some a)(hj:l[j]? =some b)(hij:i<j):a<b:=by
 obtain⟨h1,rfl⟩:=lG.1 hi
 obtain⟨h2,rfl⟩:=lG.1 hj
 exact gJ.1 h i j h1 h2 hij
theorem Inc.ext:∀{l m:Li},Inc l->Inc m->(∀x,x ∈ l↔x ∈ m)->l=m
 |[],[],_,_,_=>rfl
 |[],b::m,_,_,h=>absurd ((h b).2 (by simp)) (by simp)
 |a::l,[],_,_,h=>absurd ((h a).1 (by simp)) (by simp)
 |a::l,b::m,hl,hm,h=>by
  obtain⟨l1,l2⟩:=gG.1 hl
  obtain⟨m1,m2⟩:=gG.1 hm
  have hab:a=b:=by
   rcases gH.1 ((h a).1 (by simp)) with e|e
   ·exact e
   ·rcases gH.1 ((h b).2 (by simp)) with e'|e'
    ·exact e'.symm
    ·have:=l1 b e';have:=m1 a e;omega
  subst hab
  rw[Inc.ext l2 m2 fun x=>⟨fun hx=> ?_,fun hx=> ?_⟩]
  ·rcases gH.1 ((h x).1 (by simp[hx])) with e|e
   ·have:=l1 x hx;omega
   ·exact e
  ·rcases gH.1 ((h x).2 (by simp[hx])) with e|e
   ·have:=m1 x hx;omega
   ·exact e
theorem Inc.filter{l:Li}(h:Inc l)(p:Int->Bool):Inc (l.filter p):=List.Pairwise.filter p h
def nums(lo:Int):Nat->Li
 |0=>[]
 |k+1=>lo::nums (lo+1) k
theorem ac9{x:Int}:∀{k:Nat} {lo:Int},x ∈ nums lo k↔lo<=x/\x<lo+k
 |0,lo=>by simp[nums]
 |k+1,lo=>by
  rw[nums,gH,ac9 (k:=k)]
  omega
theorem aA3:∀(k:Nat) (lo:Int),Inc (nums lo k)
 |0,_=>.nil
 |k+1,lo=>gG.2 ⟨fun x hx=>by have:=ac9.1 hx;omega,aA3 k (lo+1)⟩
theorem len_nums:∀(k:Nat) (lo:Int),(nums lo k).length=k
 |0,_=>rfl
 |k+1,lo=>by simp[nums,len_nums k]
noncomputable def S6(p:Int->Prop)(n:Int):Li:=(nums 0 n.toNat).filter fun x=>dec (p x)
theorem aj9{p:Int->Prop}{n x:Int}:x ∈ S6 p n↔0<=x/\x<n/\p x:=by
 rw[S6,List.mem_filter,ac9,n8]
 constructor
 ·rintro ⟨⟨h1,h2⟩,h3⟩;exact⟨h1,by omega,h3⟩
 ·rintro ⟨h1,h2,h3⟩;exact⟨⟨h1,by omega⟩,h3⟩
theorem aw3(p:Int->Prop)(n:Int):Inc (S6 p n):=(aA3 _ _).filter _
theorem ax5{p q:Int->Prop}{n:Int}(h:∀x,0<=x->x<n->(p x↔q x)):S6 p n=S6 q n:=by
 refine List.filter_congr fun x hx=>C1 ?_
 have:=ac9.1 hx
 exact h x (by omega) (by omega)
def SetN(l:Li)(n:Int):Prop:=Inc l/\∀x ∈ l,0<=x/\x<n
theorem aB1(p:Int->Prop)(n:Int):SetN (S6 p n) n:=⟨aw3 p n,fun x hx=>by have:=aj9.1 hx;exact⟨this.1,this.2.1⟩⟩
theorem SetN.eq{l:Li}{n:Int}(h:SetN l n):l=S6 (· ∈ l) n:=
 h.1.ext (aw3 _ _) fun x=>⟨fun hx=>aj9.2 ⟨(h.2 x hx).1,(h.2 x hx).2,hx⟩,fun hx=>(aj9.1 hx).2.2⟩
theorem SetN.eq_of{l:Li}{n:Int}(h:SetN l n){p:Int->Prop}(hp:∀x,0<=x->x<n->(x ∈ l↔p x)):l=S6 p n:=
 h.eq.trans (ax5 hp)
theorem SetN.len{l:Li}{n:Int}(h:SetN l n):l.length<=n.toNat:=by
 rw[h.eq,S6]
 exact gX (gO _ _) (Nat.le_of_eq (len_nums _ _))
theorem W6(n:Int):SetN [] n:=⟨.nil,by simp⟩
theorem forR_filter{α:Type}{l:List α}{b:Nat}{body:Int->List α->Option (List α)}(q:α->Prop)
  (hb:∀j a c,ix l j=some a->(q a->body j c=app b c [a])/\(¬ q a->body j c=some c)) (c0:List α) (hl:(c0.length+l.length) * b<=140737488355328):
  forR 0 (l.length:Int) body c0=some (c0++l.filter fun a=>dec (q a)):=by
 obtain⟨s',h1,h2⟩:=z6 (body:=body) (n:=(l.length:Int)) (s:=c0) (fun j c=>c=c0++(l.take j.toNat).filter fun a=>dec (q a)) (by omega) (by simp) (fun j c h0 h1 hP=>by
  obtain⟨a,g1,g2⟩:=k6 h0 h1
  have e:(j+1).toNat=j.toNat+1:=by omega
  have ht:l.take (j+1).toNat=l.take j.toNat++[a]:=by rw[e,gM,g2];rfl
  by_cases hq:q a
  ·have happ:app b c [a]=some (c++[a]):=by
    rw[app,if_pos]
    have h3:((l.take j.toNat).filter fun a=>dec (q a)).length<=(l.take j.toNat).length:=gO _ _
    rw[hZ] at h3
    have h5:c.length+1<=c0.length+l.length:=by rw[hP,gY];omega
    refine gX (gU b ?_) hl
    simpa using h5
   refine⟨c++[a],by rw[(hb j a c g1).1 hq,happ],?_⟩
   rw[ht,gZ,hP]
   simp[hq]
  ·refine⟨c,(hb j a c g1).2 hq,?_⟩
   rw[ht,gZ,hP]
   simp[hq])
 rw[h1,h2]
 simp
theorem forR_setOf{b:Nat}{n:Int}{body:Int->Li->Option Li}(q:Int->Prop)(hn:0<=n)(hl:n.toNat * b<=140737488355328)
  (hb:∀j c,0<=j->j<n->(q j->body j c=app b c [j])/\(¬ q j->body j c=some c)):forR 0 n body []=some (S6 q n):=by
 obtain⟨s',h1,h2⟩:=z6 (body:=body) (n:=n) (s:=[]) (fun j c=>c=S6 q j) hn (by simp[S6,nums]) (fun j c h0 h1 hP=>by
  have hs:S6 q (j+1)=S6 q j++if dec (q j)=true then [j] else []:=by
   refine(aw3 q (j+1)).ext ?_ fun x=> ?_
   ·refine gV.2 ⟨aw3 _ _,by split<;>simp,fun a ha b hb=> ?_⟩
    have:=aj9.1 ha
    split at hb
    ·simp at hb;omega
    ·cases hb
   ·rw[gK,aj9,aj9]
    by_cases hq:q j
    ·rw[if_pos (o8 hq)]
     simp only[gQ]
     refine⟨fun h=> ?_,fun h=> ?_⟩
     ·by_cases e:x=j
      ·exact .inr e
      ·exact .inl ⟨h.1,by omega,h.2.2⟩
     ·rcases h with h|rfl
      ·exact⟨h.1,by omega,h.2.2⟩
      ·exact⟨h0,by omega,hq⟩
    ·rw[if_neg (by simpa using hq)]
     simp only[List.not_mem_nil,or_false]
     refine⟨fun h=>⟨h.1,?_,h.2.2⟩,fun h=>⟨h.1,by omega,h.2.2⟩⟩
     rcases gW (gT h.2.1) with e|e
     ·exact e
     ·rw[e] at h;exact absurd h.2.2 hq
  by_cases hq:q j
  ·refine⟨c++[j],?_,by rw[hs,hP,if_pos (o8 hq)]⟩
   rw[(hb j c h0 h1).1 hq,app,if_pos]
   have h3:c.length<=j.toNat:=by rw[hP];exact(aB1 q j).len
   refine gX (gU b ?_) hl
   simp;omega
  ·refine⟨c,(hb j c h0 h1).2 hq,?_⟩
   rw[hs,hP,if_neg (by simpa using hq),List.append_nil])
 rw[h1,h2]
end Ab
end
section
namespace Ab
open Go
theorem has_eq(l:Li)(n:Int):ac3 l n=some (dec (n ∈ l)):=by
 unfold ac3
 rw[at9 (l:=l) (fun a=>a ≠ n) true (fun j a h=>by
  unfold ref1_Has_l1
  rw[h]
  by_cases e:a=n<;>simp[e])]
 by_cases h:n ∈ l
 ·rw[if_neg (by simp only[n8];exact fun g=>g n h rfl)]
  simp[h]
 ·rw[if_pos (by simp only[n8];exact fun a ha e=>h (e ▸ ha))]
  simp[h]
theorem subset_eq(part l:Li):an9 part l=some (dec (∀x ∈ part,x ∈ l)):=by
 unfold an9
 rw[at9 (l:=part) (fun a=>a ∈ l) false (fun j a h=>by
  unfold ay1
  rw[h]
  by_cases e:a ∈ l<;>simp[e,has_eq])]
 by_cases h:∀x ∈ part,x ∈ l
 ·rw[if_pos (o8 h),o8 h];rfl
 ·rw[if_neg (by rw[z2 h];simp),z2 h];rfl
theorem disjoint_eq(a b:Li):af9 a b=some (dec (∀x ∈ a,x ∉ b)):=by
 unfold af9
 rw[at9 (l:=a) (fun x=>x ∉ b) false (fun j x h=>by
  unfold au5
  rw[h]
  by_cases e:x ∈ b<;>simp[e,has_eq])]
 by_cases h:∀x ∈ a,x ∉ b
 ·rw[if_pos (o8 h),o8 h];rfl
 ·rw[if_neg (by rw[z2 h];simp),z2 h];rfl
theorem in_eq(n lo hi:Int):R5 n lo hi=some (dec (lo<=n/\n<=hi)):=by
 unfold R5;rw[W9,W9,dec_and]
theorem at_eq(c i:Int):C8 c i=some ⟨c,i⟩:=rfl
def stepOk(l:Li)(n j:Int):Prop:=∀a,ix l j=some a->(0<=a/\a<n)/\∀b,0<j->ix l (j - 1)=some b->b<a
theorem ar7{l:Li}{n:Int}:(∀j:Int,0<=j->j<l.length->stepOk l n j)↔SetN l n:=by
 constructor
 ·intro h
  refine⟨inc_of_adj fun k a b h1 h2=> ?_,fun x hx=> ?_⟩
  ·have hk:=(lG.1 h2).1
   have:=(h ((k+1:Nat):Int) (by omega) (by omega) b (by rw[J2];exact h2)).2 a (by omega)
   rw[show((k+1:Nat):Int) - 1=(k:Nat) by omega] at this
   exact this (by rw[J2];exact h1)
  ·obtain⟨i,h1,h2,h3⟩:=s6 hx
   exact(h i h1 h2 x h3).1
 ·intro h j h0 h1 a ha
  refine⟨h.2 a (m9 ha),fun b hj hb=> ?_⟩
  obtain⟨_,_,ga⟩:=n7 ha
  obtain⟨_,_,gb⟩:=n7 hb
  exact h.1.get gb ga (by omega)
theorem ai6(l:Li)(n:Int):w6 l n=some (dec (SetN l n)):=by
 unfold w6
 rcases D5 (body:=ab1 l n) (n:=(l.length:Int)) (fun j=>if dec (stepOk l n j)=true then none else some false) (by omega) (fun j h0 h1 _=>by
  obtain⟨a,ha,_⟩:=k6 (l:=l) h0 h1
  unfold ab1
  rw[ha]
  simp only[oB]
  by_cases c1:a<0
  ·rw[if_pos c1,if_neg]
   ·rfl
   ·rw[n8];intro h;have:=(h a ha).1;omega
  ·rw[if_neg c1]
   by_cases c2:n<=a
   ·rw[if_pos c2,if_neg]
    ·rfl
    ·rw[n8];intro h;have:=(h a ha).1;omega
   ·rw[if_neg c2]
    by_cases c3:0<j
    ·obtain⟨b,hb,_⟩:=k6 (l:=l) (i:=j - 1) (by omega) (by omega)
     rw[if_pos c3,hb]
     simp only[oB]
     by_cases c4:a<=b
     ·rw[if_pos (by simpa using c4),if_neg]
      rw[n8];intro h;have:=(h a ha).2 b c3 hb;omega
     ·rw[if_neg (by simpa using c4),if_pos]
      rw[n8];intro x hx
      rw[ha] at hx;cases hx
      exact⟨by omega,fun y _ hy=>by rw[hb] at hy;cases hy;omega⟩
    ·rw[if_neg c3]
     simp only[oB]
     rw[if_neg (by simp),if_pos]
     rw[n8];intro x hx
     rw[ha] at hx;cases hx
     exact⟨by omega,fun y hy=>absurd hy c3⟩) with⟨h1,h2⟩|⟨j,o,h0,h1,h2,_,h4⟩
 ·rw[h1,o8]
  ·rfl
  ·exact ar7.1 fun j g1 g2=>by have:=h2 j g1 g2;simpa using this
 ·rw[h4]
  split at h2
  ·cases h2
  ·rename_i hs
   cases h2
   rw[z2]
   ·rfl
   ·exact fun h=>hs (o8 (ar7.2 h j h0 h1))
theorem aj6(l:Li){n:Int}(hn: -9223372036854775808<n)(hn':n<=9223372036854775807):E5 l n=some (dec (SetN l n)):=by
 unfold E5
 rcases D5 (body:=aq5 l n) (n:=(l.length:Int)) (fun j=>if dec (stepOk l n j)=true then none else some false) (by omega) (fun j h0 h1 _=>by
  obtain⟨a,ha,_⟩:=k6 (l:=l) h0 h1
  unfold aq5
  rw[ha]
  simp only[oB,in_eq,x9 (n:=n - 1) (by omega) (by omega),v6]
  by_cases c1:0<=a/\a<=n - 1
  ·rw[if_neg (by simpa using c1)]
   by_cases c3:0<j
   ·obtain⟨b,hb,_⟩:=k6 (l:=l) (i:=j - 1) (by omega) (by omega)
    rw[if_pos c3,hb]
    simp only[oB]
    by_cases c4:a<=b
    ·rw[if_pos (by simpa using c4),if_neg]
     rw[n8];intro h;have:=(h a ha).2 b c3 hb;omega
    ·rw[if_neg (by simpa using c4),if_pos]
     rw[n8];intro x hx
     rw[ha] at hx;cases hx
     exact⟨by omega,fun y _ hy=>by rw[hb] at hy;cases hy;omega⟩
   ·rw[if_neg c3]
    simp only[oB]
    rw[if_neg (by simp),if_pos]
    rw[n8];intro x hx
    rw[ha] at hx;cases hx
    exact⟨by omega,fun y hy=>absurd hy c3⟩
  ·rw[if_pos (by simpa using c1),if_neg]
   ·rfl
   ·rw[n8];intro h;have:=(h a ha).1;omega) with⟨h1,h2⟩|⟨j,o,h0,h1,h2,_,h4⟩
 ·rw[h1,o8]
  ·rfl
  ·exact ar7.1 fun j g1 g2=>by have:=h2 j g1 g2;simpa using this
 ·rw[h4]
  split at h2
  ·cases h2
  ·rename_i hs
   cases h2
   rw[z2]
   ·rfl
   ·exact fun h=>hs (o8 (ar7.2 h j h0 h1))
theorem containsLoop{s:Li}(hs:Inc s)(hl:s.length<=1000000)(x:Int){i:Int}(h0:0<=i)(h1:i<=s.length)(hlt:∀k a,0<=k->k<i->ix s k=some a->a<x):
  ∃i',Loop (L5 s x) i=some i'/\i<=i'/\i'<=s.length/\(∀k a,0<=k->k<i'->ix s k=some a->a<x)/\(∀a,ix s i'=some a->x<=a):=by
 obtain⟨o,h2,h3⟩:=M7 (body:=L5 s x) (fun j=>i<=j/\j<=s.length/\∀k a,0<=k->k<j->ix s k=some a->a<x) (fun i'=>i<=i'/\i'<=s.length/\(∀k a,0<=k->k<i'->ix s k=some a->a<x)/\(∀a,ix s i'=some a->x<=a)) (fun j=>(s.length - j).toNat) (s:=i) ⟨gI _,h1,hlt⟩ (fun j ⟨g1,g2,g3⟩=>by
  unfold L5
  by_cases c:j<s.length
  ·obtain⟨a,ha,_⟩:=k6 (l:=s) (i:=j) (by omega) c
   rw[if_pos c,ha]
   simp only[oB,decide_eq_true_eq]
   by_cases c2:a<x
   ·rw[if_pos c2]
    rw[x9 (by omega) (by omega)]
    refine .inl ⟨j+1,rfl,⟨by omega,by omega,fun k b k0 k1 hb=> ?_⟩,by omega⟩
    by_cases e:k=j
    ·subst e;rw[ha] at hb;cases hb;exact c2
    ·exact g3 k b k0 (by omega) hb
   ·rw[if_neg c2]
    exact .inr ⟨j,rfl,g1,g2,g3,fun b hb=>by rw[ha] at hb;cases hb;omega⟩
  ·rw[if_neg c]
   exact .inr ⟨j,rfl,g1,g2,g3,fun b hb=>by have:=(n7 hb).2.1;omega⟩)
 exact⟨o,h2,h3⟩
theorem K1{s part:Li}(hs:Inc s)(hp:Inc part)(hl:s.length<=1000000):v8 s part=some (dec (∀x ∈ part,x ∈ s)):=by
 unfold v8
 rcases X3 (body:=T0 s part) (n:=(part.length:Int)) (fun j i=>(0<=i/\i<=s.length/\∀k a,0<=k->k<i->ix s k=some a->∀m x,j<=m->ix part m=some x->a<x)/\∀m x,0<=m->m<j->ix part m=some x->x ∈ s) (fun o=>o=false/\¬ ∀x ∈ part,x ∈ s) (s:=0) (by omega) ⟨⟨by omega,by omega,fun k a h1 h2=>by omega⟩,fun m x h1 h2=>by omega⟩ (fun j i h0 h1 ⟨⟨g1,g2,g3⟩,g4⟩=>by
  obtain⟨x,hx,gx⟩:=k6 (l:=part) h0 h1
  unfold T0
  obtain⟨i',e1,e2,e3,e4,e5⟩:=containsLoop hs hl x g1 g2 (fun k a k0 k1 ha=>g3 k a k0 k1 ha j x (gI _) hx)
  rw[hx]
  simp only[oB,e1]
  have nin:(∀a,ix s i'=some a->x<a)->x ∉ s:=fun hgt hin=>by
   obtain⟨k,k0,k1,hk⟩:=s6 hin
   rcases gN k i' with c|c|c
   ·have:=e4 k x k0 c hk;omega
   ·subst c;have:=hgt x hk;omega
   ·obtain⟨b,hb,gb⟩:=k6 (l:=s) (i:=i') (by omega) (by omega)
    obtain⟨_,_,gk⟩:=n7 hk
    have:=hs.get gb gk (by omega)
    have:=e5 b hb
    omega
  by_cases c:i'=s.length
  ·rw[if_pos c]
   refine .inr ⟨false,rfl,rfl,fun h=> ?_⟩
   exact nin (fun a ha=>by have:=(n7 ha).2.1;omega) (h x (m9 hx))
  ·rw[if_neg c]
   obtain⟨b,hb,gb⟩:=k6 (l:=s) (i:=i') (by omega) (by omega)
   rw[hb]
   simp only[oB]
   have hxb:=e5 b hb
   by_cases c2:b=x
   ·subst c2
    rw[if_neg (by simp)]
    refine .inl ⟨i',rfl,⟨by omega,e3,fun k a k0 k1 ha m y hm hy=> ?_⟩,fun m y m0 m1 hy=> ?_⟩
    ·obtain⟨_,_,gy⟩:=n7 hy
     have:=hp.get gx gy (by omega)
     have:=e4 k a k0 k1 ha
     omega
    ·by_cases e:m=j
     ·subst e;rw[hx] at hy;cases hy;exact m9 hb
     ·exact g4 m y m0 (by omega) hy
   ·rw[if_pos (by simpa using c2)]
    refine .inr ⟨false,rfl,rfl,fun h=> ?_⟩
    exact nin (fun a ha=>by rw[hb] at ha;cases ha;omega) (h x (m9 hx))) with⟨s',h1,_,h2⟩|⟨o,h1,rfl,h2⟩
 ·rw[h1,o8]
  ·rfl
  ·intro x hx
   obtain⟨m,m0,m1,hm⟩:=s6 hx
   exact h2 m x m0 m1 hm
 ·rw[h1,z2 h2];rfl
end Ab
end
section
namespace Ab
open Go
theorem half_eq{i j:Int}(h0:0<=i)(h1:i<=j)(h2:j<=1000000):w64 (shrW .u64 ((IntKind.u64).wrap (w64 (i+j))) 1)=(i+j) / 2:=by
 rw[x9 (n:=i+j) (by omega) (by omega),IntKind.wrap_u64,Int.emod_eq_of_lt (by omega) (by omega)]
 have:shrW .u64 (i+j) 1=(i+j) / 2:=by
  simp only[shrW,IntKind.bits]
  rw[show min (1:Int).toNat 64=1 by rfl,Int.fdiv_eq_ediv_of_nonneg _ (by decide)]
  rfl
 rw[this]
 exact x9 (by omega) (by omega)
theorem less_eq(a b:Int):ad3 a b=some (decide (a<b)):=by simp[ad3,I5]
theorem bsearch_eq{xs:Li}(hs:Inc xs)(hl:xs.length<=500000)(t:Int):∃i,v7 xs t=some (i,dec (t ∈ xs))/\0<=i/\i<=xs.length/\(∀k a,0<=k->k<i->ix xs k=some a->a<t)/\(∀k a,i<=k->ix xs k=some a->t<=a):=by
 unfold v7
 obtain⟨i,h1,h2,h3,h4,h5⟩:=M7 (body:=C5 xs t) (fun p=>(0<=p.1/\p.1<=p.2/\p.2<=xs.length)/\(∀k a,0<=k->k<p.1->ix xs k=some a->a<t)/\(∀k a,p.2<=k->ix xs k=some a->t<=a))
  (fun i=>0<=i/\i<=xs.length/\(∀k a,0<=k->k<i->ix xs k=some a->a<t)/\(∀k a,i<=k->ix xs k=some a->t<=a)) (fun p=>(p.2 - p.1).toNat) (s:=(0,(xs.length:Int)))
  ⟨⟨by simp,by simp,by simp⟩,fun k a h1 h2=>by simp at h2;omega,fun k a h1 h2=>by have:=(n7 h2).2.1;simp at h1;omega⟩ (fun⟨i,j⟩ ⟨⟨g1,g2,g3⟩,g4,g5⟩=>by
  dsimp only at g1 g2 g3 g4 g5 ⊢
  unfold C5
  dsimp only
  by_cases c:i<j
  ·rw[if_pos c,half_eq g1 g2 (by omega)]
   obtain⟨a,ha,ga⟩:=k6 (l:=xs) (i:=(i+j) / 2) (by omega) (by omega)
   rw[ha]
   simp only[oB,less_eq,decide_eq_true_eq]
   by_cases c2:a<t
   ·rw[if_pos c2,x9 (by omega) (by omega)]
    refine .inl ⟨_,rfl,⟨⟨by dsimp only;omega,by dsimp only;omega,g3⟩,fun k b k0 k1 hb=> ?_,g5⟩,by dsimp only;omega⟩
    dsimp only at k1
    obtain⟨_,_,gb⟩:=n7 hb
    by_cases e:k=(i+j) / 2
    ·subst e;rw[ha] at hb;cases hb;exact c2
    ·have:=hs.get gb ga (by omega);omega
   ·rw[if_neg c2]
    refine .inl ⟨_,rfl,⟨⟨g1,by dsimp only;omega,by dsimp only;omega⟩,g4,fun k b k0 hb=> ?_⟩,by dsimp only;omega⟩
    dsimp only at k0
    obtain⟨_,_,gb⟩:=n7 hb
    by_cases e:k=(i+j) / 2
    ·subst e;rw[ha] at hb;cases hb;omega
    ·have:=hs.get ga gb (by omega);omega
  ·rw[if_neg c]
   have:i=j:=by omega
   subst this
   exact .inr ⟨i,rfl,g1,g3,g4,g5⟩)
 rw[h1]
 simp only[oB]
 refine⟨i,?_,h2,h3,h4,h5⟩
 have nin:(∀a,ix xs i=some a->a ≠ t)->t ∉ xs:=fun hne hin=>by
  obtain⟨k,k0,k1,hk⟩:=s6 hin
  rcases gN k i with c|c|c
  ·have:=h4 k t k0 c hk;omega
  ·subst c;exact hne t hk rfl
  ·obtain⟨b,hb,gb⟩:=k6 (l:=xs) (i:=i) (by omega) (by omega)
   obtain⟨_,_,gk⟩:=n7 hk
   have:=hs.get gb gk (by omega)
   have:=h5 i b (gI _) hb
   omega
 by_cases c:i<xs.length
 ·obtain⟨a,ha,ga⟩:=k6 (l:=xs) (i:=i) (by omega) c
  rw[if_pos c,ha]
  simp only[oB]
  by_cases c2:a=t
  ·subst c2
   rw[if_pos rfl,o8 (m9 ha)]
   rfl
  ·rw[if_neg c2]
   simp only[P9,decide_true,Bool.not_true,hJ,if_false,oB]
   rw[z2 (nin fun b hb=>by rw[ha] at hb;cases hb;exact c2)]
 ·rw[if_neg c]
  simp only[oB]
  rw[z2 (nin fun b hb=>by have:=(n7 hb).2.1;omega)]
theorem bsearch2{xs:Li}(hs:Inc xs)(hl:xs.length<=500000)(t:Int):∃i,v7 xs t=some (i,dec (t ∈ xs)):=
 let ⟨i,h,_⟩:=bsearch_eq hs hl t
 ⟨i,h⟩
theorem containsFunc_eq{l:Li}{f:Int->Option Bool}(p:Int->Prop)(hf:∀x ∈ l,f x=some (dec (p x))):B1 l f=some (dec (∃x ∈ l,p x)):=by
 unfold B1 I2
 rcases D5 (body:=F1 l f) (n:=(l.length:Int)) (fun j=>if dec (∀a,ix l j=some a->¬ p a)=true then none else some j) (by omega) (fun j h0 h1 _=>by
  obtain⟨a,ha,_⟩:=k6 (l:=l) h0 h1
  unfold F1
  rw[ha]
  simp only[oB,hf a (m9 ha)]
  by_cases c:p a
  ·rw[if_pos (o8 c),if_neg (by rw[n8];exact fun h=>h a rfl c)]
  ·rw[if_neg (by rw[z2 c];simp),if_pos (o8 fun b hb=>by cases hb;exact c)]) with⟨h1,h2⟩|⟨j,o,h0,h1,h2,_,h4⟩
 ·rw[h1]
  simp only[oB]
  rw[z2]
  ·rfl
  ·rintro ⟨x,hx,hp⟩
   obtain⟨i,g1,g2,g3⟩:=s6 hx
   have:=h2 i g1 g2
   split at this
   ·rename_i h;exact n8.1 h x g3 hp
   ·cases this
 ·rw[h4]
  split at h2
  ·cases h2
  ·rename_i h
   cases h2
   simp only[oB]
   rw[o8]
   ·simp[h0]
   ·simp only[n8] at h
    obtain⟨a,g1,_⟩:=k6 (l:=l) h0 h1
    refine⟨a,m9 g1,?_⟩
    rcases Classical.em (p a) with c|c
    ·exact c
    ·exact absurd (fun b hb=>by rw[g1] at hb;cases hb;exact c) h
theorem meets_eq{a b:Li}(hb:Inc b)(hl:b.length<=500000):V6 a b=some (dec (∃x ∈ a,x ∈ b)):=by
 unfold V6
 rw[containsFunc_eq (fun x=>x ∈ b) (fun x _=>by
  unfold ad7
  obtain⟨i,h⟩:=bsearch2 hb hl x
  rw[h];rfl)]
 rfl
/-! ### Sorted, and equal neighbours made one -/
theorem compact_spec{l:Li}(hs:l.Pairwise (· <= ·)):Inc (ah1 l)/\∀x,x ∈ ah1 l↔x ∈ l:=by
 have key:∀m,m<=l.length->Inc (Go.Lib.compactUpTo l.toArray m)/\(∀x,x ∈ Go.Lib.compactUpTo l.toArray m↔x ∈ l.take m):=by
  intro m
  induction m with
  |zero=>intro _;simp[Go.Lib.compactUpTo]
  |succ m ih=>
   intro hm
   obtain⟨h1,h2⟩:=ih (by omega)
   have hlt:m<l.length:=by omega
   have hd:l.toArray[m]! =l[m]:=by simp[hlt]
   have ht:l.take (m+1)=l.take m++[l[m]]:=by rw[gM];simp[hlt]
   rw[Go.Lib.compactUpTo_succ,ht]
   by_cases hk:Go.Lib.keeps l.toArray m=true
   ·rw[if_pos hk,hd]
    refine⟨gV.2 ⟨h1,by simp,fun a ha b hb=> ?_⟩,fun x=>by rw[gK,gK,h2]⟩
    simp only[gQ] at hb
    subst hb
    have ha':=(h2 a).1 ha
    obtain⟨i,hi,rfl⟩:=List.mem_iff_getElem.1 ha'
    rw[hZ] at hi
    rw[List.getElem_take]
    simp only[Go.Lib.keeps,decide_eq_true_eq] at hk
    rcases hk with hk|hk
    ·omega
    ·have hm1:l.toArray[m - 1]! =l[m - 1]:=by simp[show m - 1<l.length by omega]
     rw[hd,hm1] at hk
     have e1:l[m - 1]<=l[m]:=gJ.1 hs (m - 1) m (by omega) hlt (by omega)
     have e2:l[i]<=l[m - 1]:=by
      rcases Nat.lt_or_ge i (m - 1) with c|c
      ·exact gJ.1 hs i (m - 1) (by omega) (by omega) c
      ·have:i=m - 1:=by omega
       subst this;exact gI _
     omega
   ·rw[if_neg hk,List.append_nil]
    refine⟨h1,fun x=> ?_⟩
    rw[h2,gK]
    refine⟨.inl,fun h=> ?_⟩
    rcases h with h|h
    ·exact h
    ·simp only[gQ] at h
     subst h
     have hm0:m ≠ 0:=fun e=>hk (by simp[Go.Lib.keeps,e])
     have hm1:l.toArray[m - 1]! =l[m - 1]:=by simp[show m - 1<l.length by omega]
     have he:l[m]=l[m - 1]:=by
      simp only[Go.Lib.keeps,decide_eq_true_eq,not_or] at hk
      have h3:l.toArray[m]! =l.toArray[m - 1]! :=Classical.not_not.1 (fun h=>hk.2 h)
      rw[hd,hm1] at h3;exact h3
     rw[he,List.mem_take_iff_getElem]
     exact⟨m - 1,by omega,rfl⟩
 obtain⟨h1,h2⟩:=key l.length (Nat.le_refl _)
 refine⟨?_,fun x=> ?_⟩
 ·simpa[ah1,Go.Lib.compact] using h1
 ·have:=h2 x
  rw[ia] at this
  simpa[ah1,Go.Lib.compact] using this
theorem srt_spec(l:Li):(srt l).Pairwise (· <= ·)/\∀x,x ∈ srt l↔x ∈ l:=by
 refine⟨?_,fun x=>by simp[srt]⟩
 have:=gR (le:=fun x y:Int=>decide (x<=y)) (fun a b c h1 h2=>by simp at h1 h2 ⊢;omega) (fun a b=>by simp;omega) l
 refine this.imp fun h=>by simpa using h
theorem sortL_eq{l:Li}(h:l.length<4611686018427387904):sortL l=some (srt l):=by rw[sortL_srt,if_pos h]
theorem update_inc{s add del:Li}(hd:Inc del)(hl:del.length<=500000)(h1:s.length<=500000)(h2:add.length<=500000):
  ∃r,B8 s add del=some r/\Inc r/\∀x,x ∈ r↔(x ∈ s/\x ∉ del)\/x ∈ add:=by
 unfold B8
 rw[forR_filter (l:=s) (b:=8) (fun a=>a ∉ del) (fun j a c h=>by
  obtain⟨i,hi⟩:=bsearch2 hd hl a
  unfold ai9
  rw[h]
  simp only[oB,hi,v6]
  refine⟨fun hq=> ?_,fun hq=> ?_⟩
  ·rw[if_pos (o8 hq)]
   cases app 8 c [a]<;>rfl
  ·rw[if_neg (by simpa using hq)];rfl) [] (by simp;omega)]
 simp only[oB,List.nil_append]
 have hle:(s.filter fun a=>dec (a ∉ del)).length<=s.length:=gO _ _
 rw[show app 8 (s.filter fun a=>dec (a ∉ del)) add=some ((s.filter fun a=>dec (a ∉ del))++add) by rw[app,if_pos];omega]
 simp only[oB]
 rw[sortL_eq (by rw[gY];omega)]
 simp only[oB]
 obtain⟨e1,e2⟩:=srt_spec ((s.filter fun a=>dec (a ∉ del))++add)
 obtain⟨e3,e4⟩:=compact_spec e1
 refine⟨_,rfl,e3,fun x=> ?_⟩
 rw[e4,e2,gK,List.mem_filter,n8]
theorem update_eq{s add del:Li}{n:Int}(hn:n<=1000)(hd:Inc del)(hl:del.length<=500000)(hs:SetN s n)(ha:SetN add n):
  B8 s add del=some (S6 (fun x=>(x ∈ s/\x ∉ del)\/x ∈ add) n):=by
 have h1:=hs.len;have h2:=ha.len
 obtain⟨r,e1,e2,e3⟩:=update_inc (s:=s) (add:=add) hd hl (by omega) (by omega)
 rw[e1,SetN.eq_of (n:=n) ⟨e2,fun x hx=> ?_⟩ (fun x _ _=>e3 x)]
 rcases(e3 x).1 hx with h|h
 ·exact hs.2 x h.1
 ·exact ha.2 x h
end Ab
end
section
namespace Ab
open Go
def ad4(o:h9)(n:Int):Prop:=SetN o.pre n/\SetN o.add n/\SetN o.del n/\∀x ∈ o.add,x ∉ o.del
def ap7(o:h9):Prop:=0<=o.cost/\o.cost<=100
noncomputable def X7(o:h9)(n:Int):Int:=if dec (ad4 o n)=true then if dec (ap7 o)=true then 0 else 3 else 5
structure I1(t:j3):Prop where
 n0:0<=t.facts
 n1:t.facts<=24
 init:SetN t.init t.facts
 goal:SetN t.goal t.facts
 ops:t.operators.length<=40
 op:∀o ∈ t.operators,ad4 o t.facts/\ap7 o
def PlanOk(t:j3)(plan:Li):Prop:=plan.length<=60/\∀x ∈ plan,0<=x/\x<t.operators.length
theorem opCode_zero{o:h9}{n:Int}:X7 o n=0↔ad4 o n/\ap7 o:=by
 unfold X7
 by_cases h:ad4 o n
 ·rw[if_pos (o8 h)]
  by_cases g:ap7 o
  ·rw[if_pos (o8 g)];simp[h,g]
  ·rw[if_neg (by rw[z2 g];simp)];simp[g]
 ·rw[if_neg (by rw[z2 h];simp)];simp[h]
theorem operator_eq{o:h9}{n:Int}(h0:0<=n)(h1:n<=24):S5 o n=some (X7 o n):=by
 unfold S5 X7
 simp only[ai6,oB,v6]
 have bad:¬ ad4 o n->dec (ad4 o n)=true->False:=fun h g=>h (n8.1 g)
 by_cases c1:SetN o.pre n
 ·rw[if_neg (by simpa using c1)]
  by_cases c2:SetN o.add n
  ·rw[if_neg (by simpa using c2)]
   by_cases c3:SetN o.del n
   ·rw[if_neg (by simpa using c3)]
    have hl:=c3.len
    rw[meets_eq c3.1 (by omega)]
    simp only[oB]
    by_cases c4:∃x ∈ o.add,x ∈ o.del
    ·rw[if_pos (o8 c4),if_neg]
     rw[n8]
     obtain⟨x,g1,g2⟩:=c4
     exact fun h=>h.2.2.2 x g1 g2
    ·have hs:ad4 o n:=⟨c1,c2,c3,fun x g1 g2=>c4 ⟨x,g1,g2⟩⟩
     rw[if_neg (by rw[z2 c4];simp),if_pos (o8 hs)]
     by_cases c5:ap7 o
     ·rw[if_pos (o8 c5),if_neg]
      have:=c5.1;have:=c5.2
      simp;omega
     ·rw[if_neg (fun h=>c5 (n8.1 h)),if_pos]
      unfold ap7 at c5
      simp;omega
   ·rw[if_pos (by simpa using c3)]
    simp only[oB,if_true]
    rw[if_neg fun h=>c3 (n8.1 h).2.2.1]
  ·rw[if_pos (by simpa using c2)]
   simp only[oB,if_true]
   rw[if_neg fun h=>c2 (n8.1 h).2.1]
 ·rw[if_pos (by simpa using c1)]
  simp only[oB,if_true]
  rw[if_neg fun h=>c1 (n8.1 h).1]
theorem validate_eq(t:j3):∃f,A9 t=some f/\an1 t=some f/\((f=⟨0,0⟩/\I1 t)\/(f.code ≠ 0/\¬ I1 t)):=by
 unfold A9 an1
 simp only[in_eq,at_eq,oB,v6]
 by_cases c1:0<=t.facts/\t.facts<=24
 ·rw[if_neg (by simp;omega),ifNN c1]
  simp only[ai6,aj6 (n:=t.facts) _ (by omega) (by omega),oB,v6]
  by_cases c2:SetN t.init t.facts
  ·rw[ifNN c2,ifNN c2]
   by_cases c3:SetN t.goal t.facts
   ·rw[ifNN c3,ifNN c3]
    by_cases c4:40<(t.operators.length:Int)
    ·rw[if_pos c4,if_pos c4]
     exact⟨_,rfl,rfl,.inr ⟨by simp,fun h=>by have:=h.ops;omega⟩⟩
    ·rw[if_neg c4,if_neg c4]
     have hb:∀j:Int,0<=j->j<t.operators.length->∃o,ix t.operators j=some o/\L3 t j ()=some (if X7 o t.facts=0 then .inl () else .inr ⟨X7 o t.facts,j⟩)/\N7 t j ()=some (if X7 o t.facts=0 then .inl () else .inr ⟨X7 o t.facts,j⟩):=fun j h0 h1=>by
      obtain⟨o,ho,_⟩:=k6 (l:=t.operators) h0 h1
      refine⟨o,ho,?_,?_⟩
      ·unfold L3
       rw[ho]
       simp only[oB,operator_eq c1.1 c1.2]
       by_cases e:X7 o t.facts=0
       ·rw[if_pos e,if_pos e]
       ·rw[if_neg e,if_neg e]
      ·unfold N7
       rw[ho]
       simp only[oB,aj6 (n:=t.facts) _ (show -9223372036854775808<t.facts by omega) (show t.facts<=9223372036854775807 by omega),disjoint_eq,in_eq,at_eq,v6]
       have hp:(if dec (¬ SetN o.pre t.facts)=true then some true else if dec (¬ SetN o.add t.facts)=true then some true else if dec (¬ SetN o.del t.facts)=true then some true else some (dec (¬ ∀x ∈ o.add,x ∉ o.del)))=some (dec (¬ ad4 o t.facts)):=by
        unfold ad4
        by_cases g1:SetN o.pre t.facts
        ·rw[if_neg (by simpa using g1)]
         by_cases g2:SetN o.add t.facts
         ·rw[if_neg (by simpa using g2)]
          by_cases g3:SetN o.del t.facts
          ·rw[if_neg (by simpa using g3)]
           exact congrArg some (C1 ⟨fun h g=>h g.2.2.2,fun h g=>h ⟨g1,g2,g3,g⟩⟩)
          ·rw[if_pos (by simpa using g3),o8 (fun g=>g3 g.2.2.1)]
         ·rw[if_pos (by simpa using g2),o8 (fun g=>g2 g.2.1)]
        ·rw[if_pos (by simpa using g1),o8 (fun g=>g1 g.1)]
       rw[hp]
       simp only[oB]
       unfold X7
       by_cases g1:ad4 o t.facts
       ·rw[if_neg (by simpa using g1),if_pos (o8 g1)]
        by_cases g2:ap7 o
        ·rw[ifP g2,ifNN (p:=0<=o.cost/\o.cost<=100) g2];rfl
        ·rw[ifN g2,ifP (p:=¬ (0<=o.cost/\o.cost<=100)) g2];rfl
       ·rw[if_pos (o8 g1),if_neg (fun h=>g1 (n8.1 h))];rfl
     have heq:rngX 0 (t.operators.length:Int) (L3 t) ()=rngX 0 (t.operators.length:Int) (N7 t) ():=
      (rngX_eq (fun _ _=>True) (by omega) trivial (fun j s h0 h1 _=>by
       obtain⟨o,_,e1,e2⟩:=hb j h0 h1
       exact⟨by rw[e1,e2],by rw[e1];simp,fun _ _=>Y⟩)).1
     rcases D5 (body:=N7 t) (n:=(t.operators.length:Int)) (fun j=>match ix t.operators j with|some o=>if X7 o t.facts=0 then none else some (⟨X7 o t.facts,j⟩:g8)|none=>none) (by omega) (fun j h0 h1 _=>by
      obtain⟨o,e0,_,e2⟩:=hb j h0 h1
      rw[e2,e0]
      dsimp only
      split<;>rfl) with⟨h1,h2⟩|⟨j,f,h0,h1,h2,_,h4⟩
     ·rw[heq,h1]
      refine⟨⟨0,0⟩,rfl,rfl,.inl ⟨rfl,c1.1,c1.2,c2,c3,by omega,fun o ho=> ?_⟩⟩
      obtain⟨j,g0,g1,g2⟩:=s6 ho
      have:=h2 j g0 g1
      rw[g2] at this
      dsimp only at this
      split at this
      ·rename_i e;exact opCode_zero.1 e
      ·cases this
     ·rw[heq,h4]
      obtain⟨o,e0,_,_⟩:=hb j h0 h1
      rw[e0] at h2
      dsimp only at h2
      split at h2
      ·cases h2
      ·rename_i e
       cases h2
       exact⟨_,rfl,rfl,.inr ⟨e,fun h=>e (opCode_zero.2 (h.op o (m9 e0)))⟩⟩
   ·rw[ifP c3,ifP c3]
    exact⟨_,rfl,rfl,.inr ⟨by simp,fun h=>c3 h.goal⟩⟩
  ·rw[ifP c2,ifP c2]
   exact⟨_,rfl,rfl,.inr ⟨by simp,fun h=>c2 h.init⟩⟩
 ·rw[if_pos (by simp;omega),if_pos (o8 c1)]
  exact⟨_,rfl,rfl,.inr ⟨by simp,fun h=>c1 ⟨h.n0,h.n1⟩⟩⟩
theorem am9{f:g8}(h:f.code ≠ 0):(!((decide (f.code=0)) && (decide (f.index=0))))=true:=by simp[h]
theorem steps_eq{n:Int}(h0:0<=n)(h1:n<=9223372036854775807)(plan:Li):∃f,ab8 n plan=some f/\ak6 n plan=some f/\((f=⟨0,0⟩/\plan.length<=60/\∀x ∈ plan,0<=x/\x<n)\/(f.code ≠ 0/\¬ (plan.length<=60/\∀x ∈ plan,0<=x/\x<n))):=by
 unfold ab8 ak6
 by_cases c:60<(plan.length:Int)
 ·rw[if_pos c,if_pos c]
  exact⟨⟨2, -5⟩,rfl,rfl,.inr ⟨by simp,fun h=>by omega⟩⟩
 ·rw[if_neg c,if_neg c]
  rw[at9 (l:=plan) (fun x=>0<=x/\x<n) (⟨3, -6⟩:g8) (fun j a h=>by
   unfold am2
   rw[h]
   simp only[oB]
   by_cases g:0<=a/\a<n
   ·rw[if_neg (by simp;omega)];exact .inl ⟨g,rfl⟩
   ·rw[if_pos (by simp;omega)];exact .inr ⟨g,rfl⟩)]
  rw[at9 (l:=plan) (fun x=>0<=x/\x<n) (⟨3, -6⟩:g8) (fun j a h=>by
   unfold ap9
   rw[h]
   simp only[oB,in_eq,at_eq,x9 (n:=n - 1) (by omega) (by omega),v6]
   by_cases g:0<=a/\a<n
   ·rw[if_neg (by simp;omega)];exact .inl ⟨g,rfl⟩
   ·rw[if_pos (by rw[n8];omega)];exact .inr ⟨g,rfl⟩)]
  by_cases g:∀x ∈ plan,0<=x/\x<n
  ·rw[if_pos (o8 g)]
   exact⟨_,rfl,rfl,.inl ⟨rfl,by omega,g⟩⟩
  ·rw[if_neg (fun h=>g (n8.1 h))]
   exact⟨_,rfl,rfl,.inr ⟨by simp,fun h=>g h.2⟩⟩
theorem planFault_eq(t:j3)(plan:Li):∃f,P8 t plan=some f/\az4 t plan=some f/\((f=⟨0,0⟩/\I1 t/\PlanOk t plan)\/(f.code ≠ 0/\¬ (I1 t/\PlanOk t plan))):=by
 obtain⟨f,h1,h2,h3⟩:=validate_eq t
 unfold P8 az4
 rw[h1,h2]
 simp only[oB]
 rcases h3 with⟨rfl,ht⟩|⟨hc,ht⟩
 ·obtain⟨g,g1,g2,g3⟩:=steps_eq (n:=(t.operators.length:Int)) (by omega) (by have:=ht.ops;omega) plan
  rw[if_neg (by simp),if_pos rfl,g1,g2]
  refine⟨g,rfl,rfl,?_⟩
  rcases g3 with⟨e,k⟩|⟨e,k⟩
  ·exact .inl ⟨e,ht,k⟩
  ·exact .inr ⟨e,fun h=>k h.2⟩
 ·rw[if_pos (am9 hc),if_neg hc]
  exact⟨f,rfl,rfl,.inr ⟨hc,fun h=>ht h.1⟩⟩
/-! ### What operators and plans do -/
def noOp:h9:=⟨[],[],[],0⟩
def opAt(t:j3)(op:Int):h9:=(t.operators[op.toNat]?).getD noOp
theorem ix_op{t:j3}{op:Int}(h0:0<=op)(h1:op<t.operators.length):ix t.operators op=some (opAt t op):=by
 obtain⟨a,h2,h3⟩:=k6 h0 h1
 rw[h2,opAt,h3];rfl
theorem I1.at{t:j3}(h:I1 t){op:Int}(h0:0<=op)(h1:op<t.operators.length):ad4 (opAt t op) t.facts/\ap7 (opAt t op):=h.op _ (m9 (ix_op h0 h1))
def can(t:j3)(s:Li)(op:Int):Prop:=∀x ∈ (opAt t op).pre,x ∈ s
noncomputable def aft(t:j3)(s:Li)(op:Int):Li:=S6 (fun x=>x ∈ (opAt t op).add\/x ∈ s/\x ∉ (opAt t op).del) t.facts
theorem aB3(t:j3)(s:Li)(op:Int):SetN (aft t s op) t.facts:=aB1 _ _
theorem can_eq{t:j3}(ht:I1 t){op:Int}(h0:0<=op)(h1:op<t.operators.length){s:Li}(hs:SetN s t.facts):al1 t s op=some (dec (can t s op)):=by
 have:=ht.n1;have:=hs.len
 unfold al1
 rw[ix_op h0 h1]
 simp only[oB]
 rw[K1 hs.1 (ht.at h0 h1).1.1.1 (by omega)]
 rfl
theorem next_eq{t:j3}(ht:I1 t){op:Int}(h0:0<=op)(h1:op<t.operators.length){s:Li}(hs:SetN s t.facts):Y6 t s op=some (aft t s op):=by
 have:=ht.n1
 obtain⟨⟨_,k2,k3,_⟩,_⟩:=ht.at h0 h1
 have hl:=k3.len
 unfold Y6
 rw[ix_op h0 h1]
 simp only[oB]
 rw[update_eq (n:=t.facts) (by omega) k3.1 (by omega) hs k2]
 simp only[oB,aft]
 exact congrArg some (ax5 fun x _ _=>Or.comm)
noncomputable def ends(t:j3):Li->Li->Option Li
 |s,[]=>some s
 |s,op::r=>if dec (can t s op)=true then ends t (aft t s op) r else none
theorem ends_setN{t:j3}:∀{plan s e:Li},SetN s t.facts->ends t s plan=some e->SetN e t.facts
 |[],s,e,hs,h=>by cases h;exact hs
 |op::r,s,e,hs,h=>by
  simp only[ends] at h
  split at h
  ·exact ends_setN (aB3 t s op) h
  ·cases h
theorem ends_append{t:j3}:∀{p q s:Li},ends t s (p++q)=(ends t s p).bind fun e=>ends t e q
 |[],q,s=>rfl
 |op::r,q,s=>by
  simp only[List.cons_append,ends]
  split
  ·exact ends_append
  ·rfl
def works(t:j3)(s plan:Li):Prop:=∃e,ends t s plan=some e/\∀x ∈ t.goal,x ∈ e
theorem P6{s:Li}(h:s.length<=1000000):k7 s=some s:=by
 rw[k7,app,if_pos (by simp;omega)];rfl
noncomputable def run(t:j3):Li->Li->LL
 |s,[]=>[s]
 |s,op::r=>s::if dec (can t s op)=true then run t (aft t s op) r else []
theorem run_ends{t:j3}:∀{plan s:Li},(ends t s plan=none->(run t s plan).length ≠ plan.length+1)/\∀e,ends t s plan=some e->(run t s plan).length=plan.length+1/\(run t s plan)[plan.length]? =some e
 |[],s=>⟨fun h=>by simp[ends] at h,fun e h=>by cases h;simp[run]⟩
 |op::r,s=>by
  obtain⟨h1,h2⟩:=run_ends (t:=t) (plan:=r) (s:=aft t s op)
  simp only[ends,run,List.length_cons]
  by_cases c:can t s op
  ·rw[ifP c,ifP c]
   exact⟨fun h=>by have:=h1 h;omega,fun e h=>by obtain⟨g1,g2⟩:=h2 e h;exact⟨by omega,by simpa using g2⟩⟩
  ·rw[ifN c,ifN c]
   exact⟨fun _=>by simp,fun e h=>by cases h⟩
theorem run_eq{t:j3}(ht:I1 t){plan:Li}(hp:PlanOk t plan){s:Li}(hs:SetN s t.facts):am1 t s plan=some (run t s plan):=by
 have hl:=hp.1
 have hsl:=hs.len
 have hn:=ht.n1
 unfold am1
 rw[P6 (by omega)]
 simp only[oB]
 obtain⟨o,h1,h2⟩:=M7 (body:=ag9 t plan) (fun p=>0<=p.2.2/\p.2.2<=plan.length/\SetN p.2.1 t.facts/\p.1.length=p.2.2.toNat+1/\∃pre,p.1=pre++[p.2.1]/\run t s plan=pre++run t p.2.1 (plan.drop p.2.2.toNat))
  (fun o=>o=run t s plan) (fun p=>(plan.length - p.2.2).toNat) (s:=([s],s,0)) ⟨by simp,by simp,hs,by simp,[],rfl,by simp⟩ (fun⟨c,s',j⟩ ⟨g0,g1,g2,g3,pre,g4,g5⟩=>by
   dsimp only at g0 g1 g2 g3 g4 g5 ⊢
   unfold ag9
   dsimp only
   by_cases cj:j<plan.length
   ·obtain⟨op,hop,gop⟩:=k6 (l:=plan) g0 cj
    have hm:=hp.2 op (m9 hop)
    have hd:plan.drop j.toNat=op::plan.drop (j.toNat+1):=by
     obtain⟨hlt,rfl⟩:=lG.1 gop
     exact gL hlt
    rw[hd] at g5
    rw[if_pos cj,hop]
    simp only[oB,can_eq ht hm.1 hm.2 g2,v6,next_eq ht hm.1 hm.2 g2]
    by_cases cc:can t s' op
    ·rw[ifNN cc,app,if_pos (by simp;omega)]
     simp only[oB]
     rw[x9 (by omega) (by omega)]
     refine .inl ⟨_,rfl,⟨by dsimp only;omega,by dsimp only;omega,aB3 _ _ _,by simp;omega,c,rfl,?_⟩,by dsimp only;omega⟩
     dsimp only
     rw[g5,run,ifP cc,g4,show(j+1).toNat=j.toNat+1 by omega]
     simp
    ·rw[ifP cc]
     refine .inr ⟨_,rfl,?_⟩
     rw[g5,run,ifN cc,g4]
   ·rw[if_neg cj]
    refine .inr ⟨_,rfl,?_⟩
    rw[g5,gS (by omega),run,g4])
 rw[h1,h2];rfl
theorem sWorks_eq{t:j3}(ht:I1 t){plan:Li}(hp:PlanOk t plan){s:Li}(hs:SetN s t.facts):ac2 t s plan=some (dec (works t s plan)):=by
 have hl:=hp.1
 have hn:=ht.n1
 unfold ac2
 rw[run_eq ht hp hs,x9 (by omega) (by omega)]
 simp only[oB]
 obtain⟨h1,h2⟩:=run_ends (t:=t) (plan:=plan) (s:=s)
 cases h:ends t s plan with
 |none=>
  rw[if_neg (by have:=h1 h;omega)]
  simp only[oB]
  rw[z2]
  rintro ⟨e,g,_⟩
  rw[h] at g;cases g
 |some e=>
  obtain⟨g1,g2⟩:=h2 e h
  have he:=ends_setN hs h
  have hel:=he.len
  rw[if_pos (by omega)]
  simp only[J2,g2,oB]
  rw[K1 he.1 ht.goal.1 (by omega)]
  simp only[oB]
  exact congrArg some (C1 ⟨fun g=>⟨e,h,g⟩,fun⟨e',k1,k2⟩=>by rw[h] at k1;cases k1;exact k2⟩)
end Ab
end
section
namespace Ab
open Go
theorem setN1(a:Int){n:Int}(h0:0<=a)(h1:a<n):SetN [a] n:=⟨by simp,by simp[h0,h1]⟩
theorem subL_drop{α:Type}{l:List α}{i:Int}(h0:0<=i)(h1:i<=l.length):subL l i (l.length:Int)=some (l.drop i.toNat):=by
 rw[subL,if_pos (by omega)]
 rw[show((l.length:Int)).toNat=l.length by omega,ia]
theorem subL_take{α:Type}{l:List α}{i:Int}(h0:0<=i)(h1:i<=l.length):subL l 0 i=some (l.take i.toNat):=by
 rw[subL,if_pos (by omega)];rfl
end Ab
end
section
namespace Ab
open Go
def llt:Li->Li->Prop
 |[],[]=>False
 |[],_::_=>True
 |_::_,[]=>False
 |a::l,b::m=>a<b\/a=b/\llt l m
theorem K3:∀l:Li,¬ llt l l
 |[]=>id
 |a::l=>fun h=>by
  rcases h with h|⟨_,h⟩
  ·omega
  ·exact K3 l h
theorem G0:∀{a b c:Li},llt a b->llt b c->llt a c
 |[],[],_,h,_=>h.elim
 |[],_::_,[],_,h=>h.elim
 |[],_::_,_::_,_,_=>trivial
 |_::_,[],_,h,_=>h.elim
 |_::_,_::_,[],_,h=>h.elim
 |x::a,y::b,z::c,h,g=>by
  rcases h with h|⟨rfl,h⟩<;>rcases g with g|⟨rfl,g⟩
  ·exact .inl (by omega)
  ·exact .inl h
  ·exact .inl g
  ·exact .inr ⟨rfl,G0 h g⟩
theorem O7:∀a b:Li,llt a b\/a=b\/llt b a
 |[],[]=>.inr (.inl rfl)
 |[],_::_=>.inl trivial
 |_::_,[]=>.inr (.inr trivial)
 |x::a,y::b=>by
  rcases gN x y with h|rfl|h
  ·exact .inl (.inl h)
  ·rcases O7 a b with h|rfl|h
   ·exact .inl (.inr ⟨rfl,h⟩)
   ·exact .inr (.inl rfl)
   ·exact .inr (.inr (.inr ⟨rfl,h⟩))
  ·exact .inr (.inr (.inl h))
theorem aw0{a b:Li}(h:llt a b)(g:llt b a):False:=K3 a (G0 h g)
noncomputable def cmpL(a b:Li):Int:=if dec (llt a b)=true then -1 else if dec (a=b)=true then 0 else 1
theorem M1{a b:Li}:cmpL a b<0↔llt a b:=by
 unfold cmpL
 by_cases h:llt a b
 ·rw[ifP h];simp[h]
 ·rw[ifN h]
  split<;>simp[h]
theorem cmpL_eq{a b:Li}:cmpL a b=0↔a=b:=by
 unfold cmpL
 by_cases h:llt a b
 ·rw[ifP h]
  constructor
  ·intro e;omega
  ·rintro rfl;exact absurd h (K3 _)
 ·rw[ifN h]
  by_cases g:a=b
  ·rw[ifP g];simp[g]
  ·rw[ifN g];simp[g]
theorem cmpL_ge{a b:Li}:0<=cmpL a b↔¬ llt a b:=by rw[<- M1];omega
theorem cmpInt_eq(x y:Int):T6 x y=some (if x<y then -1 else if y<x then 1 else 0):=by
 unfold T6 I5
 simp only[decide_true,Bool.not_true,oB,hJ,if_false]
 split
 ·rfl
 ·split<;>rfl
theorem aA5:∀{a b:Li} (k:Nat),k<=a.length->k<=b.length->a.take k=b.take k->(llt a b↔llt (a.drop k) (b.drop k))
 |_,_,0,_,_,_=>by simp
 |[],_,k+1,h,_,_=>by simp at h
 |_::_,[],k+1,_,h,_=>by simp at h
 |x::a,y::b,k+1,h1,h2,h3=>by
  simp only[List.take_succ_cons,List.cons.injEq] at h3
  obtain⟨rfl,h3⟩:=h3
  simp only[List.drop_succ_cons]
  rw[<- aA5 k (by simpa using h1) (by simpa using h2) h3]
  simp[llt]
theorem al5(a b:Li):slices_Compare_int_int a b=some (cmpL a b):=by
 unfold slices_Compare_int_int
 rcases X3 (body:=G5 a b) (n:=(a.length:Int)) (s:=()) (fun j _=>j<=b.length/\a.take j.toNat=b.take j.toNat) (fun o=>o=cmpL a b) (by omega) ⟨by omega,by simp⟩ (fun j _ j0 j1 ⟨k1,k2⟩=>by
  obtain⟨x,hx,gx⟩:=k6 (l:=a) j0 j1
  have hxl:=(lG.1 gx).2
  unfold G5
  rw[hx]
  simp only[oB]
  have hd:=aA5 (a:=a) (b:=b) j.toNat (by omega) (by omega) k2
  have da:a.drop j.toNat=x::a.drop (j.toNat+1):=by rw[<- hxl];exact gL (by omega)
  by_cases c:(b.length:Int)<=j
  ·rw[if_pos c]
   refine .inr ⟨_,rfl,?_⟩
   have db:b.drop j.toNat=[]:=gS (by omega)
   rw[da,db] at hd
   unfold cmpL
   rw[ifN (fun h=>(hd.1 h).elim),ifN]
   rintro rfl;omega
  ·rw[if_neg c]
   obtain⟨y,hy,gy⟩:=k6 (l:=b) (i:=j) j0 (by omega)
   have hyl:=(lG.1 gy).2
   have db:b.drop j.toNat=y::b.drop (j.toNat+1):=by rw[<- hyl];exact gL (by omega)
   rw[hy]
   simp only[oB,cmpInt_eq]
   rw[da,db] at hd
   have hne:x ≠ y->a ≠ b:=fun h e=>by subst e;rw[hx] at hy;cases hy;exact h rfl
   rcases gN x y with h|rfl|h
   ·rw[if_pos h,if_neg (by decide)]
    refine .inr ⟨_,rfl,?_⟩
    unfold cmpL
    rw[ifP (hd.2 (.inl h))]
   ·simp only[Int.lt_irrefl,if_false,if_true]
    refine .inl ⟨(),Y,by omega,?_⟩
    rw[show(j+1).toNat=j.toNat+1 by omega,gM,gM,gx,gy,k2]
   ·rw[if_neg (show ¬ x<y by omega),if_pos h,if_neg (by decide)]
    refine .inr ⟨_,rfl,?_⟩
    unfold cmpL
    rw[ifN,ifN (hne (by omega))]
    intro g
    rcases hd.1 g with g|⟨g,_⟩<;>omega) with⟨_,r1,r2,r3⟩|⟨o,r1,rfl⟩
 ·rw[r1]
  simp only[oB]
  have hd:=aA5 (a:=a) (b:=b) a.length (Nat.le_refl _) (by omega) (by simpa using r3)
  have da:a.drop a.length=[]:=by simp
  rw[da] at hd
  have e3:a=b.take a.length:=by simpa using r3
  by_cases c:(a.length:Int)<b.length
  ·rw[if_pos c]
   have:b.drop a.length ≠ []:=by simp;omega
   unfold cmpL
   rw[ifP]
   rw[hd]
   cases h:b.drop a.length with
   |nil=>exact absurd h this
   |cons x l=>trivial
  ·rw[if_neg c]
   have:a=b:=by rw[e3,List.take_of_length_le (by omega)]
   rw[cmpL_eq.2 this]
 ·rw[r1];rfl
theorem cmp_ok:CmpOk slices_Compare_int_int cmpL:=by
 refine⟨al5,⟨fun x=> ?_,fun x y z h1 h2=> ?_,fun x y z h1 h2=> ?_⟩,fun a b h1 h2=> ?_⟩
 ·simp only[Go.Proofs.ltOf,decide_eq_false_iff_not,M1]
  exact K3 x
 ·simp only[Go.Proofs.ltOf,decide_eq_true_eq,M1] at h1 h2 ⊢
  exact G0 h1 h2
 ·simp only[Go.Proofs.ltOf,decide_eq_false_iff_not,M1] at h1 h2 ⊢
  intro h
  rcases O7 x y with g|rfl|g
  ·exact h1 g
  ·exact h2 h
  ·exact h2 (G0 g h)
 ·rw[M1] at h1 h2
  rcases O7 a b with g|g|g
  ·exact absurd g h1
  ·exact g
  ·exact absurd g h2
theorem lltB_iff:∀{a b:Li},lltB a b=true↔llt a b
 |[],[]=>by simp[lltB,llt]
 |[],_::_=>by simp[lltB,llt]
 |_::_,[]=>by simp[lltB,llt]
 |x::l,y::m=>by
  simp only[lltB,llt]
  by_cases h:x<y
  ·simp[h]
  ·by_cases e:x=y
   ·simp[h,e,lltB_iff]
   ·simp[h,e]
theorem aj3{a b:Li}:lltB a b=false↔¬ llt a b:=by rw[<- lltB_iff];simp
theorem sortLL_ms{l:LL}(h:l.length<4611686018427387904):sortLL l=some (l.mergeSort fun x y=>decide (¬ cmpL y x<0)):=by
 have tr:∀a b c:Li,lltB b a=false->lltB c b=false->lltB c a=false:=fun a b c h1 h2=>by
  rw[aj3] at h1 h2 ⊢
  intro h
  rcases O7 b a with g|g|g
  ·exact h1 g
  ·subst g;exact h2 h
  ·exact h2 (G0 h g)
 rw[sortLL,if_pos h,srtB_eq (m:=l.mergeSort fun x y=>decide (¬ cmpL y x<0)) tr (fun a b h=>aj3.2 fun g=>aw0 (lltB_iff.1 h) g) (fun a b h1 h2=>by
  rcases O7 a b with g|g|g
  ·exact absurd g (aj3.1 h1)
  ·exact g
  ·exact absurd g (aj3.1 h2)) (List.mergeSort_perm ..)]
 have:=gR (le:=fun x y:Li=>decide (¬ cmpL y x<0)) (fun a b c h1 h2=>by
  simp only[decide_eq_true_eq,M1] at h1 h2 ⊢
  exact aj3.1 (tr a b c (aj3.2 h1) (aj3.2 h2))) (fun a b=>by
  simp only[Bool.or_eq_true,decide_eq_true_eq,M1]
  by_cases h:llt b a
  ·exact .inr fun g=>aw0 h g
  ·exact .inl h) l
 exact this.imp fun h=>by simpa[M1,aj3] using h
theorem sortLL_fl{l l':LL}(h:sortLL l=some l'):al8 slices_Compare_int_int l=some l':=by
 have hl:l.length<4611686018427387904:=by
  unfold sortLL at h
  split at h
  ·assumption
  ·cases h
 rw[sortFL_eq hl cmp_ok,<- sortLL_ms hl,h]
end Ab
end
