/-
  Texts that the proof stands on.
-/
import Derived.Test.YtnjdfghkeijgnaaGreatDoorKRwChWo3
import Derived.Shelf.Small.Bits
import Derived.Shelf.Strconv.Itoa0
import Derived.Shelf.Sort.Plain
import Derived.Shelf.Bits.Mul64
import Derived.Shelf.Slices.Equal
import Derived.Ground.Names2Prog
import Derived.Shelf.Slices.Clone
import Derived.Shelf.Slices.SearchI
import Derived.Shelf.Slices.Cells
import Derived.Shelf.Slices.In.SortNone
import Derived.Shelf.Slices.Empties
import Derived.Shelf.Slices.Empties2
import Derived.Ground.SlsfProg
import Derived.Shelf.SlSortCmp.Insertion
import Derived.Shelf.SlSortCmp.SiftDown1
import Derived.Shelf.SlSortCmp.HeapSort1
import Derived.Shelf.SlSortCmp.Insertion1
import Derived.Shelf.SlSortCmp.Median1
import Derived.Shelf.SlSortCmp.Pivot1
import Derived.Shelf.SlSortCmp.ReverseRange1
import Derived.Shelf.SlSortCmp.PartialInsertion1
import Derived.Shelf.SlSortCmp.PartitionEqual1
import Derived.Shelf.SlSortCmp.Partition1
import Derived.Shelf.SlSortCmp.Pdq1
import Derived.Shelf.SlSortCmp.NoneTotal
import Derived.Test.YtnjdfghkeijgnaaGreatDoorProg
set_option linter.all false
open Option renaming bind->gS,getD->iq
open List renaming map->gT,pairwise_cons->gU,mem_cons->gV,pairwise_iff_getElem->gX,mem_append->gY,take_add_one->gZ,length_filter_le->hZ,mem_singleton->ia,drop_eq_getElem_cons->ib,pairwise_mergeSort->ic,pairwise_append->ii,length_append->il,filter_append->io,length_take->iw,take_length->iy,length->iA
open Int renaming le_refl->gW,lt_trichotomy->hY,le_of_lt_add_one->ie,lt_or_eq_of_le->ij
open Nat renaming mul_le_mul_right->ig,le_trans->ik
open Bool renaming false_eq_true->ip,and_eq_true->iu
namespace Ab
open Go
variable{a:List C}{n:Nat}{A B:Type}{x y:Int}{p q:Prop}{b d:Li}{c:Int->Prop}{f:List A}{g:A}
section
open Go.Proofs
abbrev e8(l:Li):List I:=[.sl 1 (l.map intI)]
structure q9 where
  add:Li
  del:Li
  weight:Int
abbrev A0(v:q9):List I:=[.sl 1 (gT intI v.add),.sl 1 (gT intI v.del),.val (.int .i64 v.weight)]
structure g9 where
  pre:Li
  outcomes:List q9
  cost:Int
abbrev e7(v:g9):List I:=[.sl 1 (gT intI v.pre),.sl 3 (gT A0 v.outcomes),.val (.int .i64 v.cost)]
structure b8 where
  facts:Int
  init:Li
  goal:Li
  operators:List g9
abbrev eTOpenTask(v:b8):List I:=[.val (.int .i64 v.facts),.sl 1 (gT intI v.init),.sl 1 (gT intI v.goal),.sl 3 (gT e7 v.operators)]
structure m7 where
  code:Int
  index:Int
abbrev R8(l:LL):List I:=[.sl 1 (l.map e8)]
structure au2 where
  fx:Int
  fy:Int
  signed:Bool
  code:Int
structure Truntime_boundsError where
  fx:Int
  fy:Int
  signed:Bool
  code:Int
structure ar5 where
  facts:Int
  init:Li
  goal:Li
  operators:List g9
structure f9 where
  state:Li
  operator:Int
abbrev s6(v:f9):List I:=[.sl 1 (gT intI v.state),.val (.int .i64 v.operator)]
structure TNum_int_Den_int where
  num:Int
  den:Int
structure E6 where
  num:Int
  den:Int
structure TCode_int_Index_int where
  code:Int
  index:Int
structure aF4 where
  pre:Li
  outcomes:List q9
  cost:Int
structure w7 where
  pre:Li
  add:Li
  del:Li
  cost:Int
abbrev D8(v:w7):List I:=[.sl 1 (gT intI v.pre),.sl 1 (gT intI v.add),.sl 1 (gT intI v.del),.val (.int .i64 v.cost)]
structure au1 where
  facts:Int
  init:Li
  goal:Li
  operators:List w7
structure n9 where
  facts:Int
  init:Li
  goal:Li
  operators:List w7
abbrev ao6(v:Int×Int):List I:=[.val (.int .i64 v.1),.val (.int .i64 v.2)]
structure au5 where
  fo:b8
  states:LL
  ops:Li
  num:Li
  den:Int
structure Tchance_chooser where
  fo:b8
  states:LL
  ops:Li
  num:Li
  den:Int
structure Tstates_int_rows_int where
  states:LL
  rows:LL
structure Tchance_system where
  states:LL
  rows:LL
structure TAdd_int_Del_int_Weight_int where
  add:Li
  del:Li
  weight:Int
structure TState_int_Operator_int where
  state:Li
  operator:Int
structure aI3 where
  pre:Li
  add:Li
  del:Li
  cost:Int
structure C7 where
  ffrom:Int
  cost:Int
abbrev r9(v:C7):List I:=[.val (.int .u32 v.ffrom),.val (.int .i64 v.cost)]
structure Tspace_Step_uint32 where
  op:Int
  cost:Int
  to:Int
structure TOp_int_Cost_int_To_uint32 where
  op:Int
  cost:Int
  to:Int
structure Tfrom_uint32_cost_int where
  ffrom:Int
  cost:Int
structure k7 where
  pre:Int
  add:Int
  del:Int
  cost:Int
abbrev f8(v:k7):List I:=[.val (.int .u32 v.pre),.val (.int .u32 v.add),.val (.int .u32 v.del),.val (.int .i64 v.cost)]
structure aC9 where
  start:Int
  goal:Int
  ops:List k7
structure Tspace_Words where
  start:Int
  goal:Int
  ops:List k7
structure aC4 where
  pre:Int
  add:Int
  del:Int
  cost:Int
structure aH0 where
  item:Int
  key:Int
  time:Int
  fat:Int
structure b9 where
  item:Int
  key:Int
  time:Int
  fat:Int
abbrev d6(v:b9):List I:=[.val (.int .u32 v.item),.val (.int .i64 v.key),.val (.int .i64 v.time),.val (.int .i64 v.fat)]
def ag0(l:Li)(c:Int):Int->Unit->Option (Unit⊕Bool):=fun t3 _=>gS (ix l t3) fun a=>gS (if a<0 then some true else if c<=a then some true else if 0<t3 then gS (ix l (t3 - 1)) fun b=>some (decide (a<=b)) else some false) fun t4=>if t4=true then some (.inr false) else some (.inl ())
def B4(l:Li)(a:Int):Option Bool:=(gS (rngX 0 (iA l:Int) (ag0 l a) ()) fun| .inl _=>some true| .inr x=>some x)
def N2(a:Int):Option Bool:=some (!(decide (a=a)))
def ah7(xv:Int)(yv:Int):Option Bool:=gS (gS (N2 xv) fun a6=>if a6=true then gS (N2 yv) fun a9=>if(!a9)=true then some true else some (decide (xv<yv)) else some (decide (xv<yv))) fun t3=>some t3
def U4(a:Int):Option Bool:=some (!(decide (a=a)))
def F1(e:Li)(target:Int):(Int×Int)->Option ((Int×Int)⊕Int):=fun(a,b)=>if a<b then gS (ix e (w64 (shrW .u64 ((IntKind.u64).wrap (w64 (a+b))) 1))) fun c=>gS (ah7 c target) fun d=>if d=true then some (.inl (w64 ((w64 (shrW .u64 ((IntKind.u64).wrap (w64 (a+b))) 1))+1),b)) else some (.inl (a,w64 (shrW .u64 ((IntKind.u64).wrap (w64 (a+b))) 1))) else some (.inr a)
noncomputable def y9(b:Li)(target:Int):Option (Int×Bool):=gS (Loop (F1 b target) (0,(iA b:Int))) fun a=>gS (if a<(iA b:Int) then gS (ix b a) fun c=>if c=target then some true else gS (ix b a) fun d=>gS (U4 d) fun e=>if e=true then gS (U4 target) fun f=>some f else some false else some false) fun t8=>some (a,t8)
noncomputable def ai1(a:Int)(b:Li):Option Bool:=gS (y9 b a) fun c=>some c.2
def A9(c:Li)(d:Int->Option Bool):Int->Unit->Option (Unit⊕Int):=fun t3 _=>gS (ix c t3) fun a=>gS (d a) fun b=>if b=true then some (.inr t3) else some (.inl ())
def G4(a:Li)(b:Int->Option Bool):Option Int:=(gS (rngX 0 (iA a:Int) (A9 a b) ()) fun| .inl _=>some (-1)| .inr x=>some x)
def w3(a:Li)(b:Int->Option Bool):Option Bool:=gS (G4 a b) fun c=>some (decide (0<=c))
noncomputable def ac2(a:Li)(b:Li):Option Bool:=gS (w3 a (fun c=>ai1 c b)) fun d=>some d
noncomputable def M3(ov:g9)(facts:Int):Int->Unit->Option (Unit⊕Int):=fun t6 _=>gS (ix ov.outcomes t6) fun a38=>gS (gS (B4 a38.add facts) fun a44=>if(!a44)=true then some true else gS (B4 a38.del facts) fun a50=>if(!a50)=true then some true else gS (ac2 a38.add a38.del) fun a58=>some a58) fun t7=>if t7=true then some (.inr 5) else if((decide (a38.weight<1))||(decide (6<a38.weight)))=true then some (.inr 3) else some (.inl ())
noncomputable def S4(ov:g9)(facts:Int):Option Int:=gS (B4 ov.pre facts) fun a11=>if(!a11)=true then some 5 else if((decide (ov.cost<0))||(decide (100<ov.cost)))=true then some 3 else if((decide ((iA ov.outcomes:Int)=0))||(decide (4<(iA ov.outcomes:Int))))=true then some 9 else(gS (rngX 0 (iA ov.outcomes:Int) (M3 ov facts) ()) fun| .inl _=>some 0| .inr x=>some x)
noncomputable def U9(c:b8):Int->Unit->Option (Unit⊕m7):=fun t6 _=>gS (ix c.operators t6) fun b=>gS (S4 b c.facts) fun a=>if a=0 then some (.inl ()) else some (.inr (⟨a,t6⟩:m7))
noncomputable def J2(ov:b8):Option m7:=if((decide (ov.facts<0))||(decide (24<ov.facts)))=true then some (⟨3, -1⟩:m7) else gS (B4 ov.init ov.facts) fun a21=>if(!a21)=true then some (⟨5, -2⟩:m7) else gS (B4 ov.goal ov.facts) fun a29=>if(!a29)=true then some (⟨5, -3⟩:m7) else if 40<(iA ov.operators:Int) then some (⟨2, -1⟩:m7) else(gS (rngX 0 (iA ov.operators:Int) (U9 ov) ()) fun| .inl _=>some (⟨0,0⟩:m7)| .inr x=>some x)
def O9(a:Int):Option ByteArray:=if a<10 then gS (subS (⟨#[48,49,50,51,52,53,54,55,56,57,97,98,99,100,101,102,103,104,105,106,107,108,109,110,111,112,113,114,115,116,117,118,119,120,121,122]⟩:ByteArray) a (w64 (a+1))) fun c=>some c else gS (subS (⟨#[48,48,48,49,48,50,48,51,48,52,48,53,48,54,48,55,48,56,48,57,49,48,49,49,49,50,49,51,49,52,49,53,49,54,49,55,49,56,49,57,50,48,50,49,50,50,50,51,50,52,50,53,50,54,50,55,50,56,50,57,51,48,51,49,51,50,51,51,51,52,51,53,51,54,51,55,51,56,51,57,52,48,52,49,52,50,52,51,52,52,52,53,52,54,52,55,52,56,52,57,53,48,53,49,53,50,53,51,53,52,53,53,53,54,53,55,53,56,53,57,54,48,54,49,54,50,54,51,54,52,54,53,54,54,54,55,54,56,54,57,55,48,55,49,55,50,55,51,55,52,55,53,55,54,55,55,55,56,55,57,56,48,56,49,56,50,56,51,56,52,56,53,56,54,56,55,56,56,56,57,57,48,57,49,57,50,57,51,57,52,57,53,57,54,57,55,57,56,57,57]⟩:ByteArray) (w64 (a * 2)) (w64 ((w64 (a * 2))+2))) fun b=>some b
abbrev aj9(b:Int)(a:Int)(l:Li):b6:=[.one (vec 1 eU8 l)]
def F0(d:Int)(a:Int)(l:Li):Option Li:=if a=10 then if d<100 then gS (O9 (w64 d)) fun b=>gS (app 1 l (strL b)) fun c=>some c else none else none
abbrev al0(b:Int)(a:Int)(l:Li):b6:=[.one (vec 1 eU8 l)]
def F8(c:Int)(a:Int)(l:Li):Option Li:=gS (if c<0 then none else some ()) fun _=>gS (F0 ((IntKind.u64).wrap c) a l) fun b=>some b
abbrev az3(b:Int)(a:Int)(l:Li):b6:=[.one (vec 1 eU8 l)]
def H3(c:Int)(a:Int)(l:Li):Option Li:=gS (F8 c a l) fun b=>some b
def at6(a:Li):Int->Li->Option Li:=fun t5 e=>gS (ix a t5) fun b=>gS (H3 b 10 e) fun c=>gS (app 1 c [44]) fun d=>some d
def at8(l:LL):Int->Li->Option Li:=fun t3 c=>gS (ix l t3) fun a=>(gS (forR 0 (iA a:Int) (at6 a) c) fun d=>gS (app 1 d [59]) fun b=>some b)
def ad8(l:LL):Option ByteArray:=(gS (forR 0 (iA l:Int) (at8 l) []) fun a=>some (strB a))
def P6(d:Li)(b:Int):Int->Option (Int⊕Int):=fun a=>gS (if a<(iA d:Int) then gS (ix d a) fun c=>some (decide (c<b)) else some false) fun t7=>if t7=true then some (.inl (w64 (a+1))) else some (.inr a)
noncomputable def X6(c:Li)(part:Li):Int->Int->Option (Int⊕Bool):=fun t4 d=>gS (ix part t4) fun b=>gS (Loop (P6 c b) d) fun a=>gS (if a=(iA c:Int) then some true else gS (ix c a) fun e=>some (!(decide (e=b)))) fun t11=>if t11=true then some (.inr false) else some (.inl a)
noncomputable def w9(a:Li)(part:Li):Option Bool:=(gS (rngX 0 (iA part:Int) (X6 a part) 0) fun| .inl b=>some true| .inr x=>some x)
noncomputable def ah6(c:b8)(d:Li)(op:Int):Option Bool:=gS (ix c.operators op) fun a=>gS (w9 d a.pre) fun b=>some b
noncomputable def am3(sv:Li)(del:Li):Int->Li->Option Li:=fun t5 c4=>gS (gS (ix sv t5) fun a16=>gS (y9 del a16) fun a21=>if(!a21.2)=true then gS (app 8 c4 [a16]) fun a29=>some a29 else some c4) fun c6=>some c6
noncomputable def R7(c:Li)(add:Li)(del:Li):Option Li:=(gS (forR 0 (iA c:Int) (am3 c del) []) fun d=>gS (app 8 d add) fun a=>gS (sortL a) fun b=>some (ak9 b))
def Y0(b:Int)(c:Int):Option Int:=gS (N2 b) fun d=>gS (N2 c) fun a=>if d=true then if a=true then some 0 else some (-1) else if a=true then some 1 else if b<c then some (-1) else if c<b then some 1 else some 0
def K2(c:Li)(a:Li):Int->Unit->Option (Unit⊕Int):=fun t3 _=>gS (ix c t3) fun d=>if(iA a:Int)<=t3 then some (.inr 1) else gS (ix a t3) fun e=>gS (Y0 d e) fun b=>if b=0 then some (.inl ()) else some (.inr b)
def slices_Compare_int_int(a:Li)(b:Li):Option Int:=(gS (rngX 0 (iA a:Int) (K2 a b) ()) fun| .inl _=>if(iA a:Int)<(iA b:Int) then some (-1) else some 0| .inr x=>some x)
def W2(a:Li)(b:Li):Int->Unit->Option (Unit⊕Bool):=fun t4 _=>gS (ix a t4) fun c=>gS (ix b t4) fun d=>if c=d then some (.inl ()) else some (.inr false)
def H2(a:Li)(b:Li):Option Bool:=if(iA a:Int)=(iA b:Int) then(gS (rngX 0 (iA a:Int) (W2 a b) ()) fun| .inl _=>some true| .inr x=>some x) else some false
def N5(f:LL)(target:Li)(c:Li->Li->Option Int):(Int×Int)->Option ((Int×Int)⊕Int):=fun(a,b)=>if a<b then gS (ix f (w64 (shrW .u64 ((IntKind.u64).wrap (w64 (a+b))) 1))) fun d=>gS (c d target) fun e=>if e<0 then some (.inl (w64 ((w64 (shrW .u64 ((IntKind.u64).wrap (w64 (a+b))) 1))+1),b)) else some (.inl (a,w64 (shrW .u64 ((IntKind.u64).wrap (w64 (a+b))) 1))) else some (.inr a)
noncomputable def v6(c:LL)(target:Li)(b:Li->Li->Option Int):Option (Int×Bool):=gS (Loop (N5 c target b) (0,(iA c:Int))) fun a=>gS (if a<(iA c:Int) then gS (ix c a) fun d=>gS (b d target) fun e=>some (decide (e=0)) else some false) fun t9=>some (a,t9)
abbrev K7(l:LL):b6:=[.one (vec 1 e8 l)]
def B2(l:LL)(kv54:Int):Int->((LL)×Int)->Option ((LL)×Int):=fun k258 (c56,kv57)=>gS (gS (ixV c56 (0+kv54) ((iA l:Int) - kv54) k258) fun a41=>gS (ixV c56 (0+kv54) ((iA l:Int) - kv54) (k258 - 1)) fun a46=>gS (H2 a41 a46) fun a48=>if(!a48)=true then gS (ixV c56 (0+kv54) ((iA l:Int) - kv54) k258) fun a54=>gS (ix c56 kv57) fun a56=>some (c56.set kv57.toNat a54,w64 (kv57+1)) else some (c56,kv57)) fun⟨c59,kv60⟩=>some (c59,kv60)
def y8(l:LL):Int->Unit->Option (Unit⊕(LL)):=fun b _=>gS (ix l b) fun d=>gS (ix l (b - 1)) fun e=>gS (H2 d e) fun f=>if f=true then gS (cutV (iA l:Int) b (iA l:Int)) fun g=>(gS (forR 1 ((iA l:Int) - b) (B2 l b) (l,b)) fun⟨c,a⟩=>gS (cutV (iA c:Int) a (iA c:Int)) fun h=>gS (cutV ((clrL c (0+a) ((iA c:Int) - a) []).length:Int) 0 a) fun u64=>some (.inr (w4 (clrL c (0+a) ((iA c:Int) - a) []) 0 a))) else some (.inl ())
def D0(l:LL):Option (LL):=if(iA l:Int)<2 then some l else(gS (rngX 1 (iA l:Int) (y8 l) ()) fun| .inl _=>some l| .inr x=>some x)
abbrev aG2(l:LL):b6:=[.one (vec 1 e8 l)]
def R3(l:LL):Option (LL):=gS (sortLL l) fun a=>gS (D0 a) fun b=>some b
noncomputable def Y1(e:Li)(b:g9):Int->(LL)->Option (LL):=fun t5 f=>gS (ix b.outcomes t5) fun a=>gS (R7 e a.add a.del) fun c=>gS (app 24 f [c]) fun d=>some d
noncomputable def H9(h:LL)(b:(LL))(c:g9):Int->Li->Option Li:=fun t7 d=>gS (ix c.outcomes t7) fun e=>gS (ix h t7) fun f=>gS (v6 b f slices_Compare_int_int) fun a=>gS (ix d a.1) fun g=>gS (ix d a.1) fun i=>some (d.set a.1.toNat (w64 (g+e.weight)))
noncomputable def A7(f:b8)(h:Li)(op:Int):Option ((LL)×Li):=gS (ix f.operators op) fun b=>(gS (forR 0 (iA b.outcomes:Int) (Y1 h b) []) fun g=>gS (C9 g) fun d=>gS (R3 d) fun a=>gS (mkL 8 (iA a:Int) 0) fun e=>gS (ix f.operators op) fun c=>(gS (forR 0 (iA c.outcomes:Int) (H9 g a c) e) fun i=>some (a,i)))
def ak6:((LL)×(List (ByteArray×Int)))->Option (((LL)×(List (ByteArray×Int)))⊕((LL)×Bool)):=fun(a,b)=>some (.inl (a,b))
def ak8:((LL)×(List (ByteArray×Int)))->Option (((LL)×(List (ByteArray×Int)))⊕((LL)×Bool)):=fun(a,b)=>some (.inl (a,b))
def J3(e:(LL)×Li):Int->((LL)×(List (ByteArray×Int)))->Option (((LL)×(List (ByteArray×Int)))⊕((LL)×Bool)):=fun t15 (a,b)=>gS (ix e.1 t15) fun c=>gS (ad8 [c]) fun d=>if 0<iq (mget b d) 0 then ak8 (a,b) else if(iA a:Int)=2000 then some (.inr ([],false)) else gS (app 24 a [c]) fun f=>ak8 (f,mset b d 1)
noncomputable def J4(ov:b8)(atv4:Int):Int->((LL)×(List (ByteArray×Int)))->Option (((LL)×(List (ByteArray×Int)))⊕((LL)×Bool)):=fun t9 (c7,c8)=>gS (ix c7 atv4) fun a36=>gS (ah6 ov a36 t9) fun a39=>if(!a39)=true then ak6 (c7,c8) else gS (ix c7 atv4) fun a45=>gS (A7 ov a45 t9) fun a48=>(gS (rngX 0 (a48.1.length:Int) (J3 a48) (c7,c8)) fun| .inl (c13,c14)=>ak6 (c13,c14)| .inr x=>some (.inr x))
noncomputable def W4(c:b8):((LL)×(List (ByteArray×Int))×Int)->Option (((LL)×(List (ByteArray×Int))×Int)⊕((LL)⊕((LL)×Bool))):=fun(b,d,a)=>if a<(iA b:Int) then(gS (rngX 0 (iA c.operators:Int) (J4 c a) (b,d)) fun| .inl (e,f)=>some (.inl (e,f,w64 (a+1)))| .inr x=>some (.inr (.inr x))) else some (.inr (.inl b))
noncomputable def G9(d:b8):Option ((LL)×Bool):=gS (u4 d.init) fun a=>gS (ad8 [a]) fun b=>gS (Loop (W4 d) ([a],mset ([]:List (ByteArray×Int)) b 1,0)) fun| .inl e=>gS (R3 e) fun c=>some (c,true)| .inr x=>some x
noncomputable def P2(ov:b8):Option ((LL)×m7):=gS (J2 ov) fun a8=>if(!((decide (a8.code=0)) && (decide (a8.index=0))))=true then some ([],a8) else gS (G9 ov) fun a15=>if(!a15.2)=true then some ([],(⟨10, -7⟩:m7)) else some (a15.1,(⟨0,0⟩:m7))
def w5(c:List g9)(d:g9->Option Bool):Int->Unit->Option (Unit⊕Int):=fun t3 _=>gS (ix c t3) fun a=>gS (d a) fun b=>if b=true then some (.inr t3) else some (.inl ())
def x5(a:List g9)(b:g9->Option Bool):Option Int:=(gS (rngX 0 (iA a:Int) (w5 a b) ()) fun| .inl _=>some (-1)| .inr x=>some x)
def q7(a:List g9)(b:g9->Option Bool):Option Bool:=gS (x5 a b) fun c=>some (decide (0<=c))
def W3(a:g9):Option Bool:=some (decide (a.cost=0))
noncomputable def G3(all:LL)(b:Li):Option Int:=gS (v6 all b slices_Compare_int_int) fun a=>some a.1
noncomputable def ai6(all:LL)(t6:Int)(b:(LL)×Li):Int->(LL)->Option (LL):=fun t11 a=>gS (ix b.1 t11) fun c=>gS (ix a t6) fun d=>gS (G3 all c) fun e=>gS (app 8 d [e]) fun f=>gS (ix a t6) fun g=>some (a.set t6.toNat f)
noncomputable def ai0(ov:b8)(all:LL)(a21:Li):Int->(LL)->Option (LL):=fun t6 c5=>gS (gS (ah6 ov a21 t6) fun a39=>if(!a39)=true then some c5 else gS (A7 ov a21 t6) fun a45=>(gS (forR 0 (a45.1.length:Int) (ai6 all t6 a45) c5) fun c10=>some c10)) fun c7=>some c7
noncomputable def ai7(a:b8)(all:LL):Int->(List (LL))->Option (List (LL)):=fun t4 d=>gS (ix all t4) fun b=>gS (mkL 24 (iA a.operators:Int) ([]:Li)) fun c=>gS (ix d t4) fun e=>(gS (forR 0 (iA a.operators:Int) (ai0 a all b) c) fun f=>some (d.set t4.toNat f))
noncomputable def ak1(b:b8)(all:LL):Option (List (LL)):=gS (mkL 24 (iA all:Int) []) fun a=>(gS (forR 0 (iA all:Int) (ai7 b all) a) fun c=>some c)
def af3(a:Int)(b:Li):Option Bool:=gS (ix b a) fun c=>some (decide (c=0))
def ae5(l:Li)(safe:Li):Option Bool:=gS (if 0<(iA l:Int) then gS (w3 l (fun y1=>af3 y1 safe)) fun a11=>some (!a11) else some false) fun t3=>some t3
def X1(a:Int)(b:Li)(c:Int):Option Bool:=gS (ix b a) fun d=>some (decide (d=w64 (c - 1)))
def N6(l:Li)(b:Li)(c:Li)(d:Int):Option Bool:=gS (gS (ae5 l b) fun e=>if e=true then gS (w3 l (fun f=>X1 f c d)) fun a=>some a else some false) fun t2=>some t2
def C0(c:LL)(d:Li->Option Bool):Int->Unit->Option (Unit⊕Int):=fun t3 _=>gS (ix c t3) fun a=>gS (d a) fun b=>if b=true then some (.inr t3) else some (.inl ())
def z8(a:LL)(b:Li->Option Bool):Option Int:=(gS (rngX 0 (iA a:Int) (C0 a b) ()) fun| .inl _=>some (-1)| .inr x=>some x)
def C5(a:LL)(b:Li->Option Bool):Option Bool:=gS (z8 a b) fun c=>some (decide (0<=c))
noncomputable def aa8(d:b8)(all:LL):Int->Li->Option Li:=fun t6 a=>gS (gS (ix all t6) fun b=>gS (w9 b d.goal) fun c=>if c=true then gS (ix a t6) fun e=>some (a.set t6.toNat 0) else some a) fun f=>some f
def aa5(c:List (LL))(b:Li)(d:Int):Int->Li->Option Li:=fun t15 a=>gS (gS (gS (ix a t15) fun e=>if 0<=e then some true else gS (ix b t15) fun f=>some (decide (f=0))) fun t18=>if t18=true then some a else gS (ix c t15) fun g=>gS (C5 g (fun j=>N6 j b a d)) fun h=>if h=true then gS (ix a t15) fun k=>some (a.set t15.toNat d) else some a) fun i=>some i
def ab1(all:LL)(a:List (LL))(c:Li):(Li×Int)->Option ((Li×Int)⊕Li):=fun(d,b)=>if b<=(iA all:Int) then(gS (forR 0 (iA all:Int) (aa5 a c b) d) fun e=>some (.inl (e,w64 (b+1)))) else some (.inr d)
noncomputable def ac4(e:b8)(all:LL)(a:List (LL))(b:Li):Option Li:=gS (F6 [-1] (iA all:Int)) fun c=>(gS (forR 0 (iA all:Int) (aa8 e all) c) fun f=>gS (Loop (ab1 all a b) (f,1)) fun d=>some d)
def V6(a21:Li):Int->(Li×Bool)->Option (Li×Bool):=fun t6 (c4,same5)=>gS (if same5=true then gS (ix a21 t6) fun a31=>gS (ix c4 t6) fun a36=>some (decide ((decide (0<=a31))=(decide (0<a36)))) else some false) fun same7=>gS (ix a21 t6) fun a45=>gS (ix c4 t6) fun a49=>some (c4.set t6.toNat (min 1 (w64 (a45+1))),same7)
noncomputable def V4(e:b8)(all:LL)(c:(List (LL))):Li->Option (Li⊕Li):=fun d=>gS (ac4 e all c d) fun a=>(gS (forR 0 (iA a:Int) (V6 a) (d,true)) fun⟨f,b⟩=>if b=true then some (.inr a) else some (.inl f))
noncomputable def O0(c:b8)(all:LL):Option Li:=gS (ak1 c all) fun a=>gS (F6 [1] (iA all:Int)) fun b=>gS (Loop (V4 c all a) b) fun x=>some x
noncomputable def W6(a:Li)(b:Li)(c:LL):Option Bool:=gS (G3 c a) fun d=>gS (ix b d) fun e=>some (decide (e<0))
noncomputable def O4(a:Li)(b:b8):Option Bool:=gS (w9 a b.goal) fun c=>some c
def P3:Unit->Option (Unit⊕Int):=fun _=>some (.inl ())
noncomputable def Y4(j:Li)(k:LL)(f:Int)(g:(LL)×Li):Int->(Bool×Bool)->Option (Bool×Bool):=fun t6 (c,a)=>gS (gS (ix g.1 t6) fun h=>gS (G3 k h) fun i=>gS (ix j i) fun b=>if c=true then if a=true then some (decide (0<=b),true) else some (decide (0<=b),decide (b=w64 (f - 1))) else if a=true then some (false,true) else some (false,decide (b=w64 (f - 1)))) fun⟨d,e⟩=>some (d,e)
noncomputable def P1(sv:Li)(c2:Li)(c3:LL)(c4:b8)(a19:Int):Int->Unit->Option (Unit⊕Int):=fun t2 _=>gS (ah6 c4 sv t2) fun a30=>if(!a30)=true then P3 () else gS (A7 c4 sv t2) fun a36=>(gS (forR 0 (a36.1.length:Int) (Y4 c2 c3 a19 a36) (true,false)) fun⟨sure4,near5⟩=>if(sure4 && near5)=true then some (.inr t2) else P3 ())
noncomputable def y4(c:Li)(d:Li)(e:LL)(f:b8):Option Int:=gS (G3 e c) fun a=>gS (ix d a) fun b=>(gS (rngX 0 (iA f.operators:Int) (P1 c d e f b) ()) fun| .inl _=>some (-1)| .inr x=>some x)
def D9(f:List f9)(target:Li)(c:f9->Li->Option Int):(Int×Int)->Option ((Int×Int)⊕Int):=fun(a,b)=>if a<b then gS (ix f (w64 (shrW .u64 ((IntKind.u64).wrap (w64 (a+b))) 1))) fun d=>gS (c d target) fun e=>if e<0 then some (.inl (w64 ((w64 (shrW .u64 ((IntKind.u64).wrap (w64 (a+b))) 1))+1),b)) else some (.inl (a,w64 (shrW .u64 ((IntKind.u64).wrap (w64 (a+b))) 1))) else some (.inr a)
noncomputable def m9(c:List f9)(target:Li)(b:f9->Li->Option Int):Option (Int×Bool):=gS (Loop (D9 c target b) (0,(iA c:Int))) fun a=>gS (if a<(iA c:Int) then gS (ix c a) fun d=>gS (b d target) fun e=>some (decide (e=0)) else some false) fun t9=>some (a,t9)
def open_Chosen_1(c:f9)(a:Li):Option Int:=gS (slices_Compare_int_int c.state a) fun b=>some b
noncomputable def O8(policy:List f9)(sv:Li):Option Int:=gS (m9 policy sv open_Chosen_1) fun a10=>if(!a10.2)=true then some (-1) else gS (ix policy a10.1) fun a17=>some a17.operator
def N7(c:f9)(a:Li):Option Int:=gS (slices_Compare_int_int c.state a) fun b=>some b
def Q8(a:Int):((LL)×(List f9))->Option (((LL)×(List f9)×Int)⊕((List f9)⊕((List f9)×Bool))):=fun(b,c)=>some (.inl (b,c,w64 (a+1)))
noncomputable def af9(n:b8)(choose:Li->Option Int):((LL)×(List f9)×Int)->Option (((LL)×(List f9)×Int)⊕((List f9)⊕((List f9)×Bool))):=fun(e,c,a)=>if a<(iA e:Int) then gS (ix e a) fun b=>gS (gS (w9 b n.goal) fun f=>if f=true then some true else gS (O8 c b) fun g=>some (decide (0<=g))) fun t10=>if t10=true then(Q8 a) (e,c) else if(iA c:Int)=200 then some (.inr (.inr ([],false))) else gS (choose b) fun d=>gS (m9 c b N7) fun h=>gS (u4 b) fun i=>gS (insL c h.1 (⟨i,d⟩:f9)) fun j=>gS (A7 n b d) fun k=>gS (app 24 e k.1) fun l=>(Q8 a) (l,j) else some (.inr (.inl c))
noncomputable def ab8(a:b8)(choose:Li->Option Int):Option ((List f9)×Bool):=gS (Loop (af9 a choose) ([a.init],[],0)) fun| .inl b=>some (b,true)| .inr x=>some x
noncomputable def G6(ov:b8):Option ((List f9)×Bool×m7):=gS (P2 ov) fun a12=>if(!((decide (a12.2.code=0)) && (decide (a12.2.index=0))))=true then some ([],false,a12.2) else gS (O0 ov a12.1) fun a21=>gS (G3 a12.1 ov.init) fun a26=>gS (ix a21 a26) fun a27=>if a27<0 then some ([],false,(⟨0,0⟩:m7)) else gS (ab8 ov (fun y1=>y4 y1 a21 a12.1 ov)) fun a34=>if(!a34.2)=true then some ([],false,(⟨10, -8⟩:m7)) else some (a34.1,true,(⟨0,0⟩:m7))
noncomputable def V8(ov:b8)(states:LL)(t5:Int)(a31:Int)(a36:(LL)×Li):Int->Li->Option Li:=fun t7 c6=>gS (gS (ix a36.1 t7) fun a44=>gS (ix c6 t5) fun a48=>gS (ix a36.2 t7) fun a52=>gS (ix c6 t5) fun a55=>gS (ix (c6.set t5.toNat (w64 (a48+a52))) (iA states:Int)) fun a59=>gS (ix a36.2 t7) fun a63=>gS (ix ov.operators a31) fun a68=>gS (ix (c6.set t5.toNat (w64 (a48+a52))) (iA states:Int)) fun a73=>gS (w9 a44 ov.goal) fun a77=>if(!a77)=true then gS (G3 states a44) fun a82=>gS (ix ((c6.set t5.toNat (w64 (a48+a52))).set ((iA states:Int).toNat) (w64 (a59+(w64 (a63 * a68.cost))))) a82) fun a83=>gS (ix a36.2 t7) fun a87=>gS (ix ((c6.set t5.toNat (w64 (a48+a52))).set ((iA states:Int).toNat) (w64 (a59+(w64 (a63 * a68.cost))))) a82) fun a90=>some (((c6.set t5.toNat (w64 (a48+a52))).set ((iA states:Int).toNat) (w64 (a59+(w64 (a63 * a68.cost))))).set a82.toNat (w64 (a83 - a87))) else some ((c6.set t5.toNat (w64 (a48+a52))).set ((iA states:Int).toNat) (w64 (a59+(w64 (a63 * a68.cost)))))) fun c8=>some c8
noncomputable def I4(f:b8)(states:LL)(choose:Li->Option Int):Int->(LL)->Option (LL):=fun t5 g=>gS (ix states t5) fun a=>gS (mkL 8 (w64 ((iA states:Int)+1)) 0) fun d=>gS (choose a) fun b=>gS (A7 f a b) fun c=>(gS (forR 0 (c.1.length:Int) (V8 f states t5 b c) d) fun h=>gS (app 24 g [h]) fun e=>some e)
def U8:(Int×Int)->Option ((Int×Int)⊕Int):=fun(b,a)=>if 0<a then gS (chkN a) fun c=>some (.inl (a,(b).tmod a)) else some (.inr b)
noncomputable def G8(num:Int)(den:Int):Option (E6×Bool):=gS (if den<0 then some (w64 (0 - num),w64 (0 - den)) else some (num,den)) fun⟨num3,den4⟩=>gS (Loop U8 (max num3 (w64 (0 - num3)),den4)) fun av9=>gS (chkN av9) fun u28=>gS (chkN av9) fun u31=>some ((⟨w64 ((num3).tdiv av9),w64 ((den4).tdiv av9)⟩:E6),decide (max (max (w64 ((num3).tdiv av9)) (w64 (0 - (w64 ((num3).tdiv av9))))) (w64 ((den4).tdiv av9))<=1000000000))
noncomputable def ae2(num:Int)(den:Int):Option (E6×m7):=gS (G8 num den) fun a11=>if(!a11.2)=true then some ((⟨0,0⟩:E6),(⟨10, -2⟩:m7)) else some (a11.1,(⟨0,0⟩:m7))
abbrev Y8(l:LL)(c:LL)(a:Li):b6:=[.one (vec 1 e8 l),.one (.cells 1 [[.own 3 0 (iA a)]]),.one (.cells 1 [[row 1 e8 c]]),.one (vec 1 intI a)]
noncomputable def X5(c:LL)(l3:Li):((LL)×Int×Int)->Option (((LL)×Int×Int)⊕((LL)×Int)):=fun(c56,iv57,j58)=>if j58<(iA c56:Int) then gS (gS (ix c56 j58) fun a24=>gS (W6 a24 l3 c) fun a28=>if(!a28)=true then gS (ix c56 iv57) fun a33=>some (c56.set iv57.toNat a24,w64 (iv57+1)) else some (c56,iv57)) fun⟨c62,iv63⟩=>some (.inl (c62,iv63,w64 (j58+1))) else some (.inr (c56,iv57))
noncomputable def D5(l:LL)(c:LL)(e:Li):Option (LL):=gS (z8 l (fun f=>W6 f e c)) fun d=>if d=(-1) then some l else gS (Loop (X5 c e) (l,d,w64 (d+1))) fun⟨b,a⟩=>gS (cutV (iA b:Int) a (iA b:Int)) fun g=>gS (cutV ((clrL b (0+a) ((iA b:Int) - a) []).length:Int) 0 a) fun h=>some (w4 (clrL b (0+a) ((iA b:Int) - a) []) 0 a)
abbrev V9(l:LL)(b:Int)(c:Li)(d:Li)(a:List g9):b6:=[.one (vec 1 e8 l),.one (.cells 4 [[int b,row 1 intI c,row 1 intI d,row 3 e7 a]])]
noncomputable def W1(Facts:Int)(Init:Li)(Goal:Li)(Operators:List g9):((LL)×Int×Int)->Option (((LL)×Int×Int)⊕((LL)×Int)):=fun(c58,iv59,j60)=>if j60<(iA c58:Int) then gS (gS (ix c58 j60) fun a24=>gS (O4 a24 (⟨Facts,Init,Goal,Operators⟩:b8)) fun a28=>if(!a28)=true then gS (ix c58 iv59) fun a33=>some (c58.set iv59.toNat a24,w64 (iv59+1)) else some (c58,iv59)) fun⟨c64,iv65⟩=>some (.inl (c64,iv65,w64 (j60+1))) else some (.inr (c58,iv59))
noncomputable def N8(l:LL)(d:Int)(e:Li)(f:Li)(a:List g9):Option (LL):=gS (z8 l (fun h=>O4 h (⟨d,e,f,a⟩:b8))) fun g=>if g=(-1) then some l else gS (Loop (W1 d e f a) (l,g,w64 (g+1))) fun⟨c,b⟩=>gS (cutV (iA c:Int) b (iA c:Int)) fun i=>gS (cutV ((clrL c (0+b) ((iA c:Int) - b) []).length:Int) 0 b) fun j=>some (w4 (clrL c (0+b) ((iA c:Int) - b) []) 0 b)
abbrev aF5(a:b8)(l:LL):b6:=[.one (vec 1 e8 l)]
noncomputable def O3(a:b8)(l:LL):Option (LL):=gS (N8 l a.facts a.init a.goal a.operators) fun b=>some b
abbrev V2(states:LL)(l:LL):b6:=[mat (0,[]) 1 intI l]
def G2(l:LL)(t57:Int)(a:LL):Unit->Option (Unit⊕Unit):=fun _=>gS (if t57<(iA l:Int) - 1 then gS (ix a t57) fun b=>gS (ix b t57) fun c=>some (decide (c=0)) else some false) fun t58=>if t58=true then none else some (.inr ())
def G0(t57:Int)(c:Int)(t63:Int):((LL)×Int)->Option (((LL)×Int)⊕(LL)):=fun(a,b)=>if 0<=b then gS (if b=t57 then some a else gS (ix a t63) fun d=>gS (ix a t57) fun f=>gS (ix f t57) fun g=>gS (ix a t63) fun h=>gS (ix h b) fun i=>gS (ix a t63) fun j=>gS (ix j t57) fun k=>gS (ix a t57) fun l=>gS (ix l b) fun e=>gS (chkN c) fun o=>gS (ix d b) fun p=>some (a.set t63.toNat (d.set b.toNat (w64 ((w64 ((w64 (g * i)) - (w64 (k * e)))).tdiv c))))) fun n=>some (.inl (n,w64 (b - 1))) else some (.inr a)
noncomputable def G5(l:LL)(t57:Int)(a:Int):Int->(LL)->Option (LL):=fun t63 c=>gS (if t63=t57 then some c else gS (Loop (G0 t57 a t63) (c,(iA l:Int))) fun d=>gS (ix d t63) fun b=>gS (ix b t57) fun f=>some (d.set t63.toNat (b.set t57.toNat 0))) fun e=>some e
noncomputable def F9(l:LL):Int->((LL)×Int)->Option ((LL)×Int):=fun t57 (a,b)=>gS (Loop (G2 l t57 a) ()) fun _=>gS (ix a t57) fun f=>gS (ix a t57) fun g=>gS (ix a t57) fun h=>gS (ix a t57) fun i=>(gS (forR 0 (iA l:Int) (G5 l t57 b) a) fun c=>gS (ix c t57) fun d=>gS (ix d t57) fun e=>some (c,e))
def L6(l:LL)(d:LL):Int->Li->Option Li:=fun t75 a=>gS (ix d t75) fun b=>gS (ix b (iA l:Int)) fun c=>gS (ix a t75) fun e=>some (a.set t75.toNat c)
noncomputable def D2(states:LL)(l:LL):Option (Li×Int):=(gS (forR 0 (iA l:Int) (F9 l) (l,1)) fun⟨c,a⟩=>gS (mkL 8 (iA l:Int) 0) fun b=>(gS (forR 0 (iA b:Int) (L6 l c) b) fun d=>some (d,a)))
abbrev af7(c:Li)(op:Int)(a:b8)(states:LL)(den:Int)(l:Li)(b:Li):b6:=[.one (.cells 8 [[int a.facts,row 1 intI a.init,row 1 intI a.goal,row 3 e7 a.operators,row 1 e8 states,.own 1 0 (iA l),.own 2 0 (iA b),int den]]),.one (vec 1 intI l),.one (vec 1 intI b)]
def B8:(Int×Int)->Option ((Int×Int)⊕(Int×Int×Bool)):=fun(a,b)=>some (.inl (a,b))
noncomputable def K3(ov:b8)(states:LL)(l7:Li)(a24:(LL)×Li):Int->(Int×Int)->Option ((Int×Int)⊕(Int×Int×Bool)):=fun t63 (sum61,all62)=>gS (ix a24.1 t63) fun a32=>gS (ix a24.2 t63) fun a37=>gS (w9 a32 ov.goal) fun a46=>if a46=true then B8 (sum61,w64 (all62+a37)) else gS (v6 states a32 slices_Compare_int_int) fun a53=>if(!a53.2)=true then some (.inr (0,0,false)) else gS (ix a24.2 t63) fun a61=>gS (ix l7 a53.1) fun a68=>B8 (w64 (sum61+(w64 (a61 * a68))),w64 (all62+a37))
noncomputable def E4(f:Li)(op:Int)(d:b8)(states:LL)(den:Int)(l:Li)(g:Li):Option (Int×Int×Bool):=gS (A7 d f op) fun c=>(gS (rngX 0 (c.1.length:Int) (K3 d states g c) (0,0)) fun| .inl (b,a)=>gS (ix d.operators op) fun e=>some (w64 (b+(w64 ((w64 (a * e.cost)) * den))),a,true)| .inr x=>some x)
abbrev as0(a:b8)(states:LL)(den:Int)(l:Li)(b:Li):b6:=[.one (.cells 8 [[int a.facts,row 1 intI a.init,row 1 intI a.goal,row 3 e7 a.operators,row 1 e8 states,.own 1 0 (iA l),.own 2 0 (iA b),int den]]),.one (vec 1 intI l),.one (vec 1 intI b)]
noncomputable def D6(ov:b8)(states:LL)(den:Int)(l:Li)(l5:Li)(a27:Li):Int->(Int×Int×Int)->Option (Int×Int×Int):=fun t64 (found61,num62,den63)=>gS (gS (ah6 ov a27 t64) fun a44=>if(!a44)=true then some (found61,num62,den63) else gS (E4 a27 t64 ov states den l l5) fun a50=>if(a50.2.2 && ((decide (found61<0))||(decide (w64 (a50.1 * den63)<w64 (num62 * a50.2.1)))))=true then some (t64,a50.1,a50.2.1) else some (found61,num62,den63)) fun⟨found65,num66,den67⟩=>some (found65,num66,den67)
noncomputable def H8(i:b8)(states:LL)(den:Int)(l:Li)(j:Li):Int->(Li×Bool)->Option (Li×Bool):=fun t60 (f,a)=>gS (ix states t60) fun g=>(gS (forR 0 (iA i.operators:Int) (D6 i states den l j g) (-1,0,1)) fun⟨c,d,e⟩=>gS (if a=true then some true else gS (ix j t60) fun h=>some (decide (d<w64 (h * e)))) fun b=>gS (ix f t60) fun k=>some (f.set t60.toNat c,b))
noncomputable def G1(d:b8)(states:LL)(den:Int)(l:Li)(e:Li):Option (Li×Bool):=gS (u4 l) fun b=>(gS (forR 0 (iA states:Int) (H8 d states den l e) (b,false)) fun⟨c,a⟩=>some (c,a))
abbrev az1(c:Li)(a:b8)(states:LL)(den:Int)(l:Li)(b:Li):b6:=[.one (.cells 8 [[int a.facts,row 1 intI a.init,row 1 intI a.goal,row 3 e7 a.operators,row 1 e8 states,.own 1 0 (iA l),.own 2 0 (iA b),int den]]),.one (vec 1 intI l),.one (vec 1 intI b)]
noncomputable def y6(c:Li)(d:b8)(states:LL)(den:Int)(l:Li)(e:Li):Option Int:=gS (G3 states c) fun a=>gS (ix l a) fun b=>some b
abbrev aB6(d:b8)(states:LL)(b:b8)(a:LL)(den:Int)(l:Li)(c:Li):b6:=[.one (.cells 8 [[int b.facts,row 1 intI b.init,row 1 intI b.goal,row 3 e7 b.operators,row 1 e8 a,.own 1 0 (iA l),.own 2 0 (iA c),int den]]),.one (vec 1 intI l),.one (vec 1 intI c)]
noncomputable def ak2(ov:b8)(states:LL)(t60:Int)(a31:Int)(a36:(LL)×Li):Int->Li->Option Li:=fun t62 c61=>gS (gS (ix a36.1 t62) fun a44=>gS (ix c61 t60) fun a48=>gS (ix a36.2 t62) fun a52=>gS (ix c61 t60) fun a55=>gS (ix (c61.set t60.toNat (w64 (a48+a52))) (iA states:Int)) fun a59=>gS (ix a36.2 t62) fun a63=>gS (ix ov.operators a31) fun a68=>gS (ix (c61.set t60.toNat (w64 (a48+a52))) (iA states:Int)) fun a73=>gS (w9 a44 ov.goal) fun a77=>if(!a77)=true then gS (G3 states a44) fun a82=>gS (ix ((c61.set t60.toNat (w64 (a48+a52))).set ((iA states:Int).toNat) (w64 (a59+(w64 (a63 * a68.cost))))) a82) fun a83=>gS (ix a36.2 t62) fun a87=>gS (ix ((c61.set t60.toNat (w64 (a48+a52))).set ((iA states:Int).toNat) (w64 (a59+(w64 (a63 * a68.cost))))) a82) fun a90=>some (((c61.set t60.toNat (w64 (a48+a52))).set ((iA states:Int).toNat) (w64 (a59+(w64 (a63 * a68.cost))))).set a82.toNat (w64 (a83 - a87))) else some ((c61.set t60.toNat (w64 (a48+a52))).set ((iA states:Int).toNat) (w64 (a59+(w64 (a63 * a68.cost)))))) fun c63=>some c63
noncomputable def aj6(j:b8)(states:LL)(e:b8)(a:LL)(den:Int)(l:Li)(k:Li):Int->(LL)->Option (LL):=fun t60 f=>gS (ix states t60) fun b=>gS (mkL 8 (w64 ((iA states:Int)+1)) 0) fun g=>gS (y6 b e a den l k) fun c=>gS (A7 j b c) fun d=>(gS (forR 0 (d.1.length:Int) (ak2 j states t60 c d) g) fun h=>gS (app 24 f [h]) fun i=>some i)
noncomputable def N3(d:b8)(states:LL)(b:b8)(a:LL)(den:Int)(l:Li)(e:Li):Option (LL):=(gS (forR 0 (iA states:Int) (aj6 d states b a den l e) ([]:LL)) fun c=>some c)
abbrev aj2(c:b8)(a:b8)(states:LL)(den:Int)(l:Li)(b:Li):b6:=[.one (.cells 8 [[int a.facts,row 1 intI a.init,row 1 intI a.goal,row 3 e7 a.operators,row 1 e8 states,.own 1 0 (iA l),.own 2 0 (iA b),int den]]),.one (vec 1 intI l),.one (vec 1 intI b)]
def ab0(a:Int):((LL)×(List f9))->Option (((LL)×(List f9)×Int)⊕((List f9)⊕((List f9)×Bool))):=fun(b,c)=>some (.inl (b,c,w64 (a+1)))
noncomputable def au3(p:b8)(f:b8)(states:LL)(den:Int)(l:Li)(q:Li):((LL)×(List f9)×Int)->Option (((LL)×(List f9)×Int)⊕((List f9)⊕((List f9)×Bool))):=fun(d,b,a)=>if a<(iA d:Int) then gS (ix d a) fun c=>gS (gS (w9 c p.goal) fun g=>if g=true then some true else gS (O8 b c) fun h=>some (decide (0<=h))) fun t66=>if t66=true then(ab0 a) (d,b) else if(iA b:Int)=200 then some (.inr (.inr ([],false))) else gS (y6 c f states den l q) fun e=>gS (m9 b c N7) fun i=>gS (u4 c) fun j=>gS (insL b i.1 (⟨j,e⟩:f9)) fun k=>gS (A7 p c e) fun n=>gS (app 24 d n.1) fun o=>(ab0 a) (o,k) else some (.inr (.inl b))
noncomputable def ac6(c:b8)(a:b8)(states:LL)(den:Int)(l:Li)(d:Li):Option ((List f9)×Bool):=gS (Loop (au3 c a states den l d) ([c.init],[],0)) fun| .inl b=>some (b,true)| .inr x=>some x
noncomputable def ad0(d:b8)(e:(LL)):Int->Li->Option Li:=fun t8 g=>gS (ix e t8) fun a=>gS (G6 (⟨d.facts,a,d.goal,d.operators⟩:b8)) fun f=>gS (O8 f.1 a) fun b=>gS (app 8 g [b]) fun c=>some c
def ab5:Int->Li->Option Li:=fun t22 a=>gS (ix a t22) fun b=>gS (ix a t22) fun c=>some (a.set t22.toNat (w64 (0 - b)))
noncomputable def U2(j:b8)(c:(LL)):(Int×Li×Li×Bool)->Option ((Int×Li×Li×Bool)⊕(Int×Li×Li)):=fun(l,e,f,b)=>if b=true then gS (N3 j c j c l e f) fun g=>gS (D2 c g) fun a=>gS (if a.2<0 then(gS (forR 0 (a.1.length:Int) ab5 a.1) fun k=>some (w64 (0 - a.2),k)) else some (a.2,a.1)) fun⟨h,i⟩=>gS (G1 j c h e i) fun d=>some (.inl (h,d.1,i,d.2)) else some (.inr (l,e,f))
noncomputable def A5(c:b8):Option ((List f9)×E6×Bool×m7):=gS (P2 c) fun a=>if(!((decide (a.2.code=0)) && (decide (a.2.index=0))))=true then some ([],(⟨0,0⟩:E6),false,a.2) else gS (q7 c.operators W3) fun k=>if k=true then some ([],(⟨0,0⟩:E6),false,(⟨3, -5⟩:m7)) else gS (O0 c a.1) fun e=>gS (C9 a.1) fun l=>gS (D5 l a.1 e) fun n=>gS (O3 c n) fun d=>gS (C9 a.1) fun o=>gS (O3 c o) fun p=>if 5<(iA p:Int) then some ([],(⟨0,0⟩:E6),false,(⟨10, -7⟩:m7)) else gS (G3 a.1 c.init) fun q=>gS (ix e q) fun r=>if r<0 then some ([],(⟨0,0⟩:E6),false,(⟨0,0⟩:m7)) else gS (w9 c.init c.goal) fun s=>if s=true then some ([],(⟨0,1⟩:E6),true,(⟨0,0⟩:m7)) else(gS (forR 0 (iA d:Int) (ad0 c d) []) fun u=>gS (Loop (U2 c d) (0,u,[],true)) fun⟨f,t,g⟩=>gS (G3 d c.init) fun h=>gS (ix g h) fun i=>gS (ae2 i f) fun b=>if(!((decide (b.2.code=0)) && (decide (b.2.index=0))))=true then some ([],(⟨0,0⟩:E6),false,b.2) else gS (ac6 c c d f t g) fun j=>some (j.1,b.1,true,(⟨0,0⟩:m7)))
def ai3(b:Int)(low:Int)(a:Int):Option Bool:=some ((decide (low<=b)) && (decide (b<=a)))
def W5(code:Int)(index:Int):Option m7:=some (⟨code,index⟩:m7)
def at7(l:Li)(nv:Int):Int->Unit->Option (Unit⊕Bool):=fun iv3 _=>gS (gS (ix l iv3) fun a14=>gS (ai3 a14 0 (w64 (nv - 1))) fun a18=>if(!a18)=true then some true else if 0<iv3 then gS (ix l iv3) fun a26=>gS (ix l (iv3 - 1)) fun a31=>some (decide (a26<=a31)) else some false) fun t4=>if t4=true then some (.inr false) else some (.inl ())
def J5(l:Li)(a:Int):Option Bool:=(gS (rngX 0 (iA l:Int) (at7 l a) ()) fun| .inl _=>some true| .inr x=>some x)
def ref1_Has_l1(l:Li)(c:Int):Int->Unit->Option (Unit⊕Bool):=fun a _=>gS (ix l a) fun b=>if b=c then some (.inr true) else some (.inl ())
def ag6(l:Li)(a:Int):Option Bool:=(gS (rngX 0 (iA l:Int) (ref1_Has_l1 l a) ()) fun| .inl _=>some false| .inr x=>some x)
def ay2(d:Li)(e:Li):Int->Unit->Option (Unit⊕Bool):=fun a _=>gS (ix d a) fun b=>gS (ag6 e b) fun c=>if c=true then some (.inr false) else some (.inl ())
def ak3(a:Li)(b:Li):Option Bool:=(gS (rngX 0 (iA a:Int) (ay2 a b) ()) fun| .inl _=>some true| .inr x=>some x)
def H7(ov:b8)(a42:g9):(Int×Int)->Option ((Int×Int)⊕Int):=fun(ev12,kv13)=>if((decide (kv13<(iA a42.outcomes:Int))) && (decide (ev12=0)))=true then gS (gS (ix a42.outcomes kv13) fun a73=>gS (gS (J5 a73.add ov.facts) fun a79=>if(!a79)=true then some true else gS (J5 a73.del ov.facts) fun a86=>if(!a86)=true then some true else gS (ak3 a73.add a73.del) fun a94=>some (!a94)) fun t18=>if t18=true then some 5 else gS (ai3 a73.weight 1 6) fun a99=>if(!a99)=true then some 3 else some ev12) fun ev16=>some (.inl (ev16,w64 (kv13+1))) else some (.inr ev12)
noncomputable def S5(ov:b8):Int->Unit->Option (Unit⊕m7):=fun iv6 _=>gS (ix ov.operators iv6) fun a42=>gS (gS (J5 a42.pre ov.facts) fun a48=>if(!a48)=true then some 5 else gS (ai3 a42.cost 0 100) fun a52=>if(!a52)=true then some 3 else gS (ai3 (iA a42.outcomes:Int) 1 4) fun a57=>if(!a57)=true then some 9 else some 0) fun ev7=>gS (Loop (H7 ov a42) (ev7,0)) fun ev14=>if ev14=0 then some (.inl ()) else gS (W5 ev14 iv6) fun a105=>some (.inr a105)
noncomputable def aC3(ov:b8):Option m7:=gS (ai3 ov.facts 0 24) fun a10=>if(!a10)=true then gS (W5 3 (-1)) fun a12=>some a12 else gS (J5 ov.init ov.facts) fun a17=>if(!a17)=true then gS (W5 5 (-2)) fun a19=>some a19 else gS (J5 ov.goal ov.facts) fun a24=>if(!a24)=true then gS (W5 5 (-3)) fun a26=>some a26 else if 40<(iA ov.operators:Int) then gS (W5 2 (-1)) fun a31=>some a31 else(gS (rngX 0 (iA ov.operators:Int) (S5 ov) ()) fun| .inl _=>some (⟨0,0⟩:m7)| .inr x=>some x)
def ax5(c:Li):Int->Int->Option Int:=fun b d=>gS (ix c b) fun a=>gS (chk0 ((IntKind.u64).wrap a)) fun e=>some (w64 (d+(shlW .i64 1 ((IntKind.u64).wrap a))))
def ar8(a:Li):Option Int:=(gS (forR 0 (iA a:Int) (ax5 a) 0) fun b=>some b)
def aB8(part:Li)(l:Li):Int->Unit->Option (Unit⊕Bool):=fun iv3 _=>gS (ix part iv3) fun a15=>gS (ag6 l a15) fun a17=>if(!a17)=true then some (.inr false) else some (.inl ())
def aA9(part:Li)(l:Li):Option Bool:=(gS (rngX 0 (iA part:Int) (aB8 part l) ()) fun| .inl _=>some true| .inr x=>some x)
def ax9(c:b8)(d:Li)(op:Int):Option Bool:=gS (ix c.operators op) fun a=>gS (aA9 a.pre d) fun b=>some b
def aC6(sv:Li)(xv:q9):Int->Li->Option Li:=fun p5 c4=>gS (gS (gS (ag6 xv.add p5) fun a18=>if a18=true then some true else gS (ag6 sv p5) fun a22=>if a22=true then gS (ag6 xv.del p5) fun a27=>some (!a27) else some false) fun t8=>if t8=true then gS (app 8 c4 [p5]) fun a34=>some a34 else some c4) fun c6=>some c6
def ar3(a:b8)(b:Li)(c:q9):Option Li:=if a.facts<=9223372036854775807 then(gS (forR 0 a.facts (aC6 b c) []) fun d=>some d) else none
def aq8(b:Li)(c:Li):Int->Option (Int⊕(Unit⊕Bool)):=fun a=>if((decide (a<(iA b:Int))) && (decide (a<(iA c:Int))))=true then gS (ix b a) fun d=>gS (ix c a) fun e=>if d=e then some (.inl (w64 (a+1))) else gS (ix b a) fun f=>gS (ix c a) fun g=>some (.inr (.inr (decide (f<g)))) else some (.inr (.inl ()))
noncomputable def aB5(a:Li)(b:Li):Option Bool:=gS (Loop (aq8 a b) 0) fun| .inl _=>some (decide ((iA a:Int)<(iA b:Int)))| .inr x=>some x
def ay7(d:Li)(e:Li):Int->Unit->Option (Unit⊕Bool):=fun a _=>gS (ix d a) fun b=>gS (ix e a) fun c=>if b=c then some (.inl ()) else some (.inr false)
def T9(a:Li)(b:Li):Option Bool:=if(iA a:Int)=(iA b:Int) then(gS (rngX 0 (iA a:Int) (ay7 a b) ()) fun| .inl _=>some true| .inr x=>some x) else some false
noncomputable def aq5(l:LL)(d:Li):Int->Option (Int⊕Int):=fun a=>gS (if a<(iA l:Int) then gS (ix l a) fun b=>gS (aB5 b d) fun c=>some c else some false) fun t5=>if t5=true then some (.inl (w64 (a+1))) else some (.inr a)
noncomputable def ar4(l:LL)(b:Li):Option (LL):=gS (Loop (aq5 l b) 0) fun a=>gS (if a<(iA l:Int) then gS (ix l a) fun c=>gS (T9 c b) fun d=>some d else some false) fun t9=>if t9=true then some l else gS (subL l 0 a) fun e=>gS (app 24 ([]:LL) e) fun f=>gS (app 24 f [b]) fun g=>gS (subL l a (iA l:Int)) fun h=>gS (app 24 g h) fun i=>some i
def at2(l:LL)(d:Li):Int->Unit->Option (Unit⊕Int):=fun a _=>gS (ix l a) fun b=>gS (T9 b d) fun c=>if c=true then some (.inr a) else some (.inl ())
def aE7(l:LL)(a:Li):Option Int:=(gS (rngX 0 (iA l:Int) (at2 l a) ()) fun| .inl _=>some (-1)| .inr x=>some x)
noncomputable def at4(g:b8)(h:Li)(b:g9):Int->(LL)->Option (LL):=fun c a=>gS (ix b.outcomes c) fun d=>gS (ar3 g h d) fun e=>gS (ar4 a e) fun f=>some f
def at3(j:b8)(k:Li)(c:g9)(a:LL):Int->Li->Option Li:=fun d e=>gS (ix c.outcomes d) fun f=>gS (ar3 j k f) fun g=>gS (aE7 a g) fun b=>gS (ix e b) fun h=>gS (ix c.outcomes d) fun i=>gS (ix e b) fun l=>some (e.set b.toNat (w64 (h+i.weight)))
noncomputable def aE8(c:b8)(e:Li)(op:Int):Option ((LL)×Li):=gS (ix c.operators op) fun b=>(gS (forR 0 (iA b.outcomes:Int) (at4 c e b) []) fun a=>gS (mkL 8 (iA a:Int) 0) fun d=>(gS (forR 0 (iA b.outcomes:Int) (at3 c e b a) d) fun f=>some (a,f)))
def aA1:((LL)×Li)->Option (((LL)×Li)⊕((LL)×Bool)):=fun(a,b)=>some (.inl (a,b))
def aA2:((LL)×Li)->Option (((LL)×Li)⊕((LL)×Bool)):=fun(a,b)=>some (.inl (a,b))
def Y9(most:Int)(b:(LL)×Li):Int->((LL)×Li)->Option (((LL)×Li)⊕((LL)×Bool)):=fun a (c,d)=>gS (ix b.1 a) fun e=>gS (ar8 e) fun f=>gS (ag6 d f) fun g=>if g=true then aA2 (c,d) else if most<=(iA c:Int) then some (.inr ([],false)) else gS (ix b.1 a) fun h=>gS (app 24 c [h]) fun i=>gS (ix b.1 a) fun j=>gS (ar8 j) fun k=>gS (app 8 d [k]) fun l=>aA2 (i,l)
noncomputable def X4(ov:b8)(most:Int)(iv5:Int):Int->((LL)×Li)->Option (((LL)×Li)⊕((LL)×Bool)):=fun op10 (c8,c9)=>gS (ix c8 iv5) fun a40=>gS (ax9 ov a40 op10) fun a43=>if(!a43)=true then aA1 (c8,c9) else gS (ix c8 iv5) fun a49=>gS (aE8 ov a49 op10) fun a52=>(gS (rngX 0 (a52.1.length:Int) (Y9 most a52) (c8,c9)) fun| .inl (c14,c15)=>aA1 (c14,c15)| .inr x=>some (.inr x))
noncomputable def af8(c:b8)(most:Int):((LL)×Li×Int)->Option (((LL)×Li×Int)⊕((LL)⊕((LL)×Bool))):=fun(b,d,a)=>if a<(iA b:Int) then(gS (rngX 0 (iA c.operators:Int) (X4 c most a) (b,d)) fun| .inl (e,f)=>some (.inl (e,f,w64 (a+1)))| .inr x=>some (.inr (.inr x))) else some (.inr (.inl b))
noncomputable def ap2(e:LL):Int->(LL)->Option (LL):=fun b a=>gS (ix e b) fun c=>gS (ar4 a c) fun d=>some d
noncomputable def U3(b:b8)(most:Int):Option ((LL)×Bool):=gS (ar8 b.init) fun c=>gS (app 8 [] [c]) fun d=>gS (Loop (af8 b most) ([b.init],d,0)) fun| .inl e=>(gS (forR 0 (iA e:Int) (ap2 e) []) fun a=>some (a,true))| .inr x=>some x
def law8_coin:Option b8:=some (⟨1,[],[0],[(⟨[],[(⟨[0],[],1⟩:q9),(⟨[],[],2⟩:q9)],1⟩:g9)]⟩:b8)
def az5(av:List f9)(bv:List f9):Int->Unit->Option (Unit⊕Bool):=fun iv4 _=>gS (gS (ix av iv4) fun a19=>gS (ix bv iv4) fun a24=>if(!(decide (a19.operator=a24.operator)))=true then some true else gS (ix av iv4) fun a31=>gS (ix bv iv4) fun a36=>gS (T9 a31.state a36.state) fun a39=>some (!a39)) fun t5=>if t5=true then some (.inr false) else some (.inl ())
def aw2(a:List f9)(b:List f9):Option Bool:=if(iA a:Int)=(iA b:Int) then(gS (rngX 0 (iA a:Int) (az5 a b) ()) fun| .inl _=>some true| .inr x=>some x) else some false
noncomputable def U7:Option Bool:=gS (law8_coin) fun c=>gS (A5 c) fun a=>gS (if a.2.2.2.code=0 then if a.2.2.1=true then if((decide (a.2.1.num=3)) && (decide (a.2.1.den=1)))=true then gS (aw2 a.1 ([(⟨[],0⟩:f9)])) fun b=>some b else some false else some false else some false) fun t1=>some t1
def aq6(p:List f9)(e:Li):Int->Unit->Option (Unit⊕Int):=fun a _=>gS (ix p a) fun b=>gS (T9 b.state e) fun c=>if c=true then gS (ix p a) fun d=>some (.inr d.operator) else some (.inl ())
def ar1(p:List f9)(a:Li):Option Int:=(gS (rngX 0 (iA p:Int) (aq6 p a) ()) fun| .inl _=>some (-1)| .inr x=>some x)
noncomputable def N4(t5:Int)(a:g9):Int->((List (Int×Int))×(List w7))->Option ((List (Int×Int))×(List w7)):=fun t8 (h,i)=>gS (ix a.outcomes t8) fun b=>gS (u4 a.pre) fun c=>gS (u4 b.add) fun d=>gS (u4 b.del) fun e=>gS (app 80 i [(⟨c,d,e,a.cost⟩:w7)]) fun f=>gS (app 16 h [(t5,t8)]) fun g=>some (g,f)
noncomputable def I8(b:b8):Int->((List (Int×Int))×(List w7))->Option ((List (Int×Int))×(List w7)):=fun t5 (c,d)=>gS (ix b.operators t5) fun a=>(gS (forR 0 (iA a.outcomes:Int) (N4 t5 a) (c,d)) fun⟨e,f⟩=>some (e,f))
noncomputable def D7(b:b8):Option (n9×(List (Int×Int))×m7):=gS (J2 b) fun a=>if(!((decide (a.code=0)) && (decide (a.index=0))))=true then some ((⟨0,[],[],[]⟩:n9),[],a) else gS (u4 b.init) fun c=>gS (u4 b.goal) fun d=>(gS (forR 0 (iA b.operators:Int) (I8 b) ([],[])) fun⟨e,f⟩=>if 40<(iA e:Int) then some ((⟨0,[],[],[]⟩:n9),[],(⟨10, -1⟩:m7)) else some ((⟨b.facts,c,d,f⟩:n9),e,(⟨0,0⟩:m7)))
noncomputable def X3(ov:w7)(facts:Int):Option Int:=gS (gS (B4 ov.pre facts) fun a9=>if(!a9)=true then some true else gS (B4 ov.add facts) fun a15=>if(!a15)=true then some true else gS (B4 ov.del facts) fun a22=>if(!a22)=true then some true else gS (ac2 ov.add ov.del) fun a30=>some a30) fun t3=>if t3=true then some 5 else if((decide (ov.cost<0))||(decide (100<ov.cost)))=true then some 3 else some 0
noncomputable def P5(t:n9):Int->Unit->Option (Unit⊕m7):=fun t6 _=>gS (ix t.operators t6) fun b=>gS (X3 b t.facts) fun a=>if a=0 then some (.inl ()) else some (.inr (⟨a,t6⟩:m7))
noncomputable def M4(t:n9):Option m7:=if((decide (t.facts<0))||(decide (24<t.facts)))=true then some (⟨3, -1⟩:m7) else gS (B4 t.init t.facts) fun a21=>if(!a21)=true then some (⟨5, -2⟩:m7) else gS (B4 t.goal t.facts) fun a29=>if(!a29)=true then some (⟨5, -3⟩:m7) else if 40<(iA t.operators:Int) then some (⟨2, -1⟩:m7) else(gS (rngX 0 (iA t.operators:Int) (P5 t) ()) fun| .inl _=>some (⟨0,0⟩:m7)| .inr x=>some x)
def ak5(b:Li):Int->Int->Option Int:=fun t3 c=>gS (ix b t3) fun a=>gS (chk0 a) fun d=>some (Go.bits .or .u32 c (shlW .u32 1 a))
def T3(a:Li):Option Int:=(gS (forR 0 (iA a:Int) (ak5 a) 0) fun b=>some b)
def ai4(w:Int):Int->Li->Option Li:=fun t3 b=>gS (if Go.bits .and .u32 (shrW .u32 w t3) 1=1 then gS (app 8 b [t3]) fun a=>some a else some b) fun c=>some c
def ae9(w:Int):Option Li:=(gS (forR 0 32 (ai4 w) []) fun a=>some a)
def P8(a:Int)(b:Int):Option Int:=gS (ae9 a) fun c=>gS (ae9 b) fun d=>gS (slices_Compare_int_int c d) fun e=>some e
abbrev space_Of_w_s0(t:n9):b6:=[]
def ak7(t:n9):Int->(List k7)->Option (List k7):=fun t56 b=>gS (ix t.operators t56) fun a=>gS (T3 a.pre) fun c=>gS (T3 a.add) fun d=>gS (T3 a.del) fun e=>gS (app 24 b [(⟨c,d,e,a.cost⟩:k7)]) fun f=>some f
def ao2(t:n9):Option (Int×Int×(List k7)):=gS (T3 t.init) fun c=>gS (T3 t.goal) fun a=>(gS (forR 0 (iA t.operators:Int) (ak7 t) []) fun b=>some (c,a,b))
abbrev aB4(start:Int)(goal:Int)(l:List k7):b6:=[.one (.cells 3 [[.imm (.val (.int .u32 start)),.imm (.val (.int .u32 goal)),.own 1 0 (iA l)]]),.one (vec 4 f8 l)]
def E7(start:Int)(goal:Int)(l:List k7):Option Unit:=some ()
abbrev aB1(a:Int)(start:Int)(goal:Int)(l:List k7):b6:=[.one (.cells 3 [[.imm (.val (.int .u32 start)),.imm (.val (.int .u32 goal)),.own 1 0 (iA l)]]),.one (vec 4 f8 l)]
def I9(a:Int)(start:Int)(goal:Int)(l:List k7):Option Unit:=some ()
abbrev ac0(start:Int)(goal:Int)(l:List k7):b6:=[.one (.cells 3 [[.imm (.val (.int .u32 start)),.imm (.val (.int .u32 goal)),.own 1 0 (iA l)]]),.one (vec 4 f8 l)]
def P9(l:List k7)(b:Int)(f:Unit):Int->((List (Int×Unit))×Li)->Option ((List (Int×Unit))×Li):=fun t66 (c,d)=>gS (ix l t66) fun a=>if Go.bits .and .u32 b a.pre=a.pre then if(!(Option.isSome (mget c (Go.bits .or .u32 (Go.bits .andNot .u32 b a.del) a.add))))=true then gS (app 4 d [Go.bits .or .u32 (Go.bits .andNot .u32 b a.del) a.add]) fun e=>some (mset c (Go.bits .or .u32 (Go.bits .andNot .u32 b a.del) a.add) (),e) else some (c,d) else some (c,d)
def Q9(l:List k7)(a:Li)(b:List (Int×Unit))(c:Int)(d:Unit):Option ((List (Int×Unit))×Li):=(gS (forR 0 (iA l:Int) (P9 l c d) (b,w4 a 0 ((iA a:Int) - 1))) fun⟨e,f⟩=>some (e,f))
def Q7(start:Int)(goal:Int)(l:List k7):(Li×(List (Int×Unit))×Li)->Option ((Li×(List (Int×Unit))×Li)⊕(Li⊕(Li×Bool))):=fun(a,e,c)=>if 0<(iA a:Int) then gS (ix a ((iA a:Int) - 1)) fun b=>gS (cutV (iA a:Int) 0 ((iA a:Int) - 1)) fun f=>gS (app 4 c [b]) fun g=>gS (I9 b start goal l) fun i=>gS (Q9 l a e b f) fun⟨d,h⟩=>if 2000<(iA d:Int) then some (.inr (.inr ([],false))) else some (.inl (h,d,g)) else some (.inr (.inl c))
noncomputable def P4(start:Int)(goal:Int)(l:List k7):Option (Li×Bool):=gS (E7 start goal l) fun b=>gS (E7 start goal l) fun c=>gS (Loop (Q7 start goal l) ([start],mset ([]:List (Int×Unit)) start (),[])) fun| .inl a=>some (a,true)| .inr x=>some x
abbrev aG6(t:n9):b6:=[]
noncomputable def L3(t:n9):Option ((Int×Int)⊕(Int×Int×(List k7)×Li)):=gS (M4 t) fun a10=>if(!((decide (a10.code=0)) && (decide (a10.index=0))))=true then some (.inl (a10.code,a10.index)) else gS (ao2 t) fun a16=>gS (P4 a16.1 a16.2.1 a16.2.2) fun a20=>if(!a20.2)=true then some (.inl (10, -7)) else gS (sortFU P8 a20.1) fun a27=>some (.inr (a16.1,a16.2.1,a16.2.2,a27))
abbrev aw6:b6:=[]
def R1:Option Unit:=some ()
abbrev aA8(a:Int)(start:Int)(goal:Int)(l:List k7):b6:=[.one (.cells 3 [[.imm (.val (.int .u32 start)),.imm (.val (.int .u32 goal)),.own 1 0 (iA l)]]),.one (vec 4 f8 l)]
def V5(a:Int)(start:Int)(goal:Int)(l:List k7):Option Unit:=some ()
abbrev ao5(l:Li)(a:List b9):b6:=[.one (prow 1 l),pool 4 d6 a]
def x6(l:Li)(a:List b9):Option Unit:=some ()
abbrev ao1(b:Int)(c:Int)(l:Li)(a:List b9):b6:=[.one (prow 1 l),pool 4 d6 a]
def x4(e:Int)(f:Int)(l:Li)(d:List b9):Option Bool:=gS (ix l e) fun g=>gS (ix d g) fun a=>gS (ix l f) fun c=>gS (ix d c) fun b=>some ((decide (a.key<b.key))||((decide (a.key=b.key)) && (decide (a.time<b.time))))
abbrev ao0(b:Int)(c:Int)(l:Li)(a:List b9):b6:=[.one (prow 1 l),pool 4 d6 a]
def v7(e:Int)(h:Int)(l:Li)(i:List b9):Option (Li×(List b9)):=gS (ix l h) fun f=>gS (ix l e) fun g=>gS (ix ((l.set e.toNat f).set h.toNat g) e) fun b=>gS (ix ((l.set e.toNat f).set h.toNat g) h) fun d=>gS (ix i b) fun a=>gS (ix (i.set b.toNat (⟨a.item,a.key,a.time,e⟩:b9)) d) fun c=>some ((l.set e.toNat f).set h.toNat g,(i.set b.toNat (⟨a.item,a.key,a.time,e⟩:b9)).set d.toNat (⟨c.item,c.key,c.time,h⟩:b9))
abbrev ah3(a:Int)(d:Int)(time:Int)(l:Li)(b:List (Int×Int))(c:List b9):b6:=[.one (.cells 3 [[.own 1 0 (iA l),.map 2,int time]]),.one (prow 3 l),.one (pmap 3 (Value.int .u32) b),pool 4 d6 c]
def D3(nv:Int):(Li×(List b9)×Int)->Option ((Li×(List b9)×Int)⊕(Li×(List b9)×Int)):=fun(c60,c61,iv62)=>if((decide (nv<=w64 ((w64 (2 * iv62))+1)))||(decide (w64 ((w64 (2 * iv62))+1)<0)))=true then some (.inr (c60,c61,iv62)) else gS (gS (if w64 ((w64 ((w64 (2 * iv62))+1))+1)<nv then gS (x4 (w64 ((w64 ((w64 (2 * iv62))+1))+1)) (w64 ((w64 (2 * iv62))+1)) c60 c61) fun a32=>some a32 else some false) fun t69=>if t69=true then some (w64 ((w64 ((w64 (2 * iv62))+1))+1)) else some (w64 ((w64 (2 * iv62))+1))) fun j67=>gS (x4 j67 iv62 c60 c61) fun a38=>if(!a38)=true then some (.inr (c60,c61,iv62)) else gS (v7 iv62 j67 c60 c61) fun a43=>gS (as1 c60 a43.1) fun u74=>some (.inl (a43.1,a43.2,j67))
noncomputable def F3(a:Int)(e:Int)(time:Int)(l:Li)(g:List (Int×Int))(f:List b9):Option (Li×(List b9)×Bool):=gS (Loop (D3 e) (l,f,a)) fun⟨c,d,b⟩=>some (c,d,decide (a<b))
abbrev aj8(j:Int)(time:Int)(l:Li)(a:List (Int×Int))(b:List b9):b6:=[.one (.cells 3 [[.own 1 0 (iA l),.map 2,int time]]),.one (prow 3 l),.one (pmap 3 (Value.int .u32) a),pool 4 d6 b]
def O7:(Li×(List b9)×Int)->Option ((Li×(List b9)×Int)⊕(Li×(List b9))):=fun(c58,c59,j60)=>gS (chkN 2) fun u7=>gS (if w64 ((w64 (j60 - 1)).tdiv 2)=j60 then some true else gS (x4 j60 (w64 ((w64 (j60 - 1)).tdiv 2)) c58 c59) fun a15=>some (!a15)) fun t63=>if t63=true then some (.inr (c58,c59)) else gS (v7 (w64 ((w64 (j60 - 1)).tdiv 2)) j60 c58 c59) fun a21=>gS (as1 c58 a21.1) fun u67=>some (.inl (a21.1,a21.2,w64 ((w64 (j60 - 1)).tdiv 2)))
noncomputable def I5(j:Int)(time:Int)(l:Li)(d:List (Int×Int))(c:List b9):Option (Li×(List b9)):=gS (Loop O7 (l,c,j)) fun⟨a,b⟩=>some (a,b)
abbrev az4(c:Int)(time:Int)(l:Li)(a:List (Int×Int))(b:List b9):b6:=[.one (.cells 3 [[.own 1 0 (iA l),.map 2,int time]]),.one (prow 3 l),.one (pmap 3 (Value.int .u32) a),pool 4 d6 b]
noncomputable def L5(iv:Int)(time:Int)(l:Li)(l4:List (Int×Int))(l5:List b9):Option (Li×(List b9)):=gS (x6 l l5) fun a7=>gS (F3 iv (iA l:Int) time l l4 l5) fun a8=>if(!a8.2.2)=true then gS (I5 iv time a8.1 l4 a8.2.1) fun a12=>some (a12.1,a12.2) else some (a8.1,a8.2.1)
abbrev am0(c:Int)(time:Int)(l:List b9)(a:Li)(b:List (Int×Int)):b6:=[.one (.cells 3 [[.own 2 0 (iA a),.map 3,int time]]),pool 4 d6 l,.one (prow 1 a),.one (pmap 1 (Value.int .u32) b)]
def F7(b:Int)(time:Int)(l:List b9)(d:Li)(e:List (Int×Int)):Option ((List b9)×Li):=gS (ix l b) fun a=>gS (app 8 d [b]) fun c=>some (l.set b.toNat (⟨a.item,a.key,a.time,(iA d:Int)⟩:b9),c)
abbrev ay6(c:Int)(time:Int)(l:List b9)(a:Li)(b:List (Int×Int)):b6:=[.one (.cells 3 [[.own 2 0 (iA a),.map 3,int time]]),pool 4 d6 l,.one (prow 1 a),.one (pmap 1 (Value.int .u32) b)]
noncomputable def J9(d:Int)(time:Int)(l:List b9)(e:Li)(c:List (Int×Int)):Option ((List b9)×Li):=gS (F7 d time l e c) fun a=>gS (x6 a.2 a.1) fun f=>gS (I5 (w64 ((a.2.length:Int) - 1)) time a.2 c a.1) fun b=>some (b.2,b.1)
abbrev an5(item:Int)(key:Int)(time:Int)(l:Li)(a:List (Int×Int))(b:List b9):b6:=[.one (.cells 3 [[.own 1 0 (iA l),.map 2,int time]]),.one (prow 3 l),.one (pmap 3 (Value.int .u32) a),pool 4 d6 b]
noncomputable def y5(item:Int)(key:Int)(time:Int)(l:Li)(d:List (Int×Int))(c:List b9):Option ((List (Int×Int))×Li×(List b9)):=if(Option.isSome (mget d item))=true then gS (mget d item) fun b=>gS (ix c b) fun a=>gS (L5 a.fat (w64 (time+1)) l d ((c.set b.toNat (⟨a.item,key,a.time,a.fat⟩:b9)).set b.toNat (⟨a.item,key,w64 (time+1),a.fat⟩:b9))) fun e=>some (d,e.1,e.2) else gS (chkH (iA c) (gT (·.2) d)) fun g=>gS (chkH (iA c) l) fun u64=>gS (J9 (iA c:Int) (w64 (time+1)) (c++[(⟨item,key,w64 (time+1),0⟩:b9)]) l (mset d item (iA c:Int))) fun f=>some (mset d item (iA c:Int),f.2,f.1)
abbrev ap0(time:Int)(l:Li)(a:List (Int×Int))(b:List b9):b6:=[.one (.cells 3 [[.own 1 0 (iA l),.map 2,int time]]),.one (prow 3 l),.one (pmap 3 (Value.int .u32) a),pool 4 d6 b]
def I3(time:Int)(l:Li)(a:List (Int×Int))(b:List b9):Option Unit:=some ()
abbrev an7(time:Int)(l:Li)(a:List (Int×Int))(b:List b9):b6:=[.one (.cells 3 [[.own 1 0 (iA l),.map 2,int time]]),.one (prow 3 l),.one (pmap 3 (Value.int .u32) a),pool 4 d6 b]
def H0(time:Int)(l:Li)(c:List (Int×Int))(d:List b9):Option (Li×Int):=gS (ix l ((iA l:Int) - 1)) fun a=>gS (subL l 0 ((iA l:Int) - 1)) fun b=>some (b,a)
abbrev ay8(time:Int)(l:Li)(a:List (Int×Int))(b:List b9):b6:=[.one (.cells 3 [[.own 1 0 (iA l),.map 2,int time]]),.one (prow 3 l),.one (pmap 3 (Value.int .u32) a),pool 4 d6 b]
noncomputable def M6(time:Int)(l:Li)(d:List (Int×Int))(e:List b9):Option ((List b9)×Li×Int):=gS (x6 l e) fun g=>gS (v7 0 (w64 ((iA l:Int) - 1)) l e) fun c=>gS (as1 l c.1) fun f=>gS (F3 0 (w64 ((iA l:Int) - 1)) time c.1 d c.2) fun a=>gS (H0 time a.1 d a.2.1) fun b=>some (a.2.1,b.1,b.2)
abbrev am1(time:Int)(l:Li)(a:List (Int×Int))(b:List b9):b6:=[.one (.cells 3 [[.own 1 0 (iA l),.map 2,int time]]),.one (prow 3 l),.one (pmap 3 (Value.int .u32) a),pool 4 d6 b]
noncomputable def C6(time:Int)(l:Li)(c:List (Int×Int))(d:List b9):Option ((List (Int×Int))×(List b9)×Li×Int×Int×Bool):=if(iA l:Int)=0 then some (c,d,l,0,0,false) else gS (M6 time l c d) fun b=>gS (ix b.1 b.2.2) fun a=>some (mdel c a.item,b.1,b.2.1,a.item,a.key,true)
abbrev au0(l:Li)(start:Int)(goal:Int)(a:List k7):b6:=[.one (.cells 3 [[.imm (.val (.int .u32 start)),.imm (.val (.int .u32 goal)),.own 1 0 (iA a)]]),.one (vec 4 f8 a)]
def ab2(e:List k7)(b:Int):Int->(List (Int×List C7))->Option (List (Int×List C7)):=fun t73 c=>gS (ix e t73) fun a=>if Go.bits .and .u32 b a.pre=a.pre then gS (app 16 (rowM c (Go.bits .or .u32 (Go.bits .andNot .u32 b a.del) a.add)) [(⟨b,a.cost⟩:C7)]) fun d=>some (mset c (Go.bits .or .u32 (Go.bits .andNot .u32 b a.del) a.add) d) else some c
def aa7(d:List k7)(a:List (Int×List C7))(b:Int):Option (List (Int×List C7)):=(gS (forR 0 (iA d:Int) (ab2 d b) a) fun c=>some c)
noncomputable def S6(l:Li)(start:Int)(goal:Int)(h:List k7):Int->((List (Int×List C7))×(List (Int×Int))×(List (Int×Int))×(List b9)×Int×Li)->Option ((List (Int×List C7))×(List (Int×Int))×(List (Int×Int))×(List b9)×Int×Li):=fun t62 (i,d,e,f,b,g)=>gS (ix l t62) fun a=>gS (gS (V5 a start goal h) fun r=>if Go.bits .and .u32 a goal=goal then gS (y5 a 0 b g e f) fun c=>some (mset (mset d a 1000000000) a 0,c.1,w64 (b+1),c.2.1,c.2.2) else some (mset d a 1000000000,e,b,g,f)) fun⟨j,k,n,o,p⟩=>gS (I9 a start goal h) fun s=>gS (aa7 h i a) fun q=>some (q,j,k,p,n,o)
noncomputable def S0(i:List (Int×List C7))(b:(List (Int×Int))×(List b9)×Li×Int×Int×Bool):Int->((List (Int×Int))×(List (Int×Int))×(List b9)×Int×Li)->Option ((List (Int×Int))×(List (Int×Int))×(List b9)×Int×Li):=fun t87 (c,f,g,d,h)=>gS (gS (ix (rowM i b.2.2.2.1) t87) fun a=>if w64 (b.2.2.2.2.1+a.cost)<iq (mget c a.ffrom) 0 then gS (y5 a.ffrom (w64 (b.2.2.2.2.1+a.cost)) d h f g) fun e=>some (mset c a.ffrom (w64 (b.2.2.2.2.1+a.cost)),e.1,w64 (d+1),e.2.1,e.2.2) else some (c,f,d,h,g)) fun⟨j,k,l,n,o⟩=>some (j,k,o,l,n)
noncomputable def R9(d:List (Int×List C7)):((List (Int×Int))×(List (Int×Int))×(List b9)×Int×Li)->Option (((List (Int×Int))×(List (Int×Int))×(List b9)×Int×Li)⊕(List (Int×Int))):=fun(e,f,g,b,c)=>gS (I3 b c f g) fun n=>if 0<(iA c:Int) then gS (C6 b c f g) fun a=>(gS (forR 0 ((rowM d a.2.2.2.1).length:Int) (S0 d a) (e,a.1,a.2.1,b,a.2.2.1)) fun⟨h,i,j,k,l⟩=>some (.inl (h,i,j,k,l))) else some (.inr e)
noncomputable def ab7(l:Li)(start:Int)(goal:Int)(h:List k7):Option (List (Int×Int)):=gS (R1) fun i=>(gS (forR 0 (iA l:Int) (S6 l start goal h) (([]:List (Int×List C7)),([]:List (Int×Int)),([]:List (Int×Int)),([]:List b9),0,([]:Li))) fun⟨a,b,c,d,e,f⟩=>gS (Loop (R9 a) (b,c,d,e,f)) fun g=>some g)
noncomputable def R4(t:n9):Option (Int×m7):=gS (L3 t) fun| .inl a=>if(!((decide (a.1=0)) && (decide (a.2=0))))=true then some (0,(⟨a.1,a.2⟩:m7)) else none| .inr a=>if(!((decide (0=0)) && (decide (0=0))))=true then some (0,(⟨0,0⟩:m7)) else gS (ab7 a.2.2.2 a.1 a.2.1 a.2.2.1) fun b=>gS (E7 a.1 a.2.1 a.2.2.1) fun c=>some (iq (mget b a.1) 0,(⟨0,0⟩:m7))
noncomputable def I0(d:b8):Int->Unit->Option (Unit⊕Bool):=fun a _=>gS (ix d.operators a) fun b=>if(iA b.outcomes:Int)=1 then some (.inl ()) else gS (U7) fun c=>some (.inr c)
noncomputable def M0(ov:b8):Option Bool:=(gS (rngX 0 (iA ov.operators:Int) (I0 ov) ()) fun| .inl _=>gS (A5 ov) fun a31=>gS (D7 ov) fun a38=>gS (R4 a38.1) fun a44=>if(((!(decide (a31.2.2.2.code=0)))||(!(decide (a38.2.2.code=0))))||(!(decide (a44.2.code=0))))=true then gS (U7) fun a60=>some a60 else gS (if a31.2.2.1=(decide (a44.1<1000000000)) then if(!a31.2.2.1)=true then gS (U7) fun a76=>some a76 else if((decide (a31.2.1.num=a44.1)) && (decide (a31.2.1.den=1)))=true then gS (U7) fun a76=>some a76 else some false else some false) fun t5=>some t5| .inr x=>some x)
def T0(t:n9):Int->Unit->Option (Unit⊕m7):=fun iv6 _=>gS (ix t.operators iv6) fun a39=>gS (gS (J5 a39.pre t.facts) fun a45=>if(!a45)=true then some true else gS (J5 a39.add t.facts) fun a52=>if(!a52)=true then some true else gS (J5 a39.del t.facts) fun a60=>if(!a60)=true then some true else gS (ak3 a39.add a39.del) fun a68=>some (!a68)) fun t7=>if t7=true then gS (W5 5 iv6) fun a72=>some (.inr a72) else gS (ai3 a39.cost 0 100) fun a75=>if(!a75)=true then gS (W5 3 iv6) fun a78=>some (.inr a78) else some (.inl ())
def aB9(t:n9):Option m7:=gS (ai3 t.facts 0 24) fun a7=>if(!a7)=true then gS (W5 3 (-1)) fun a9=>some a9 else gS (J5 t.init t.facts) fun a14=>if(!a14)=true then gS (W5 5 (-2)) fun a16=>some a16 else gS (J5 t.goal t.facts) fun a21=>if(!a21)=true then gS (W5 5 (-3)) fun a23=>some a23 else if 40<(iA t.operators:Int) then gS (W5 2 (-1)) fun a28=>some a28 else(gS (rngX 0 (iA t.operators:Int) (T0 t) ()) fun| .inl _=>some (⟨0,0⟩:m7)| .inr x=>some x)
end
mutual
theorem C.no_ok0{id:Id}:∀c:C,c.ok 0=true->c.no id=true
 | .imm _,_=>rfl
 | .own _ _ _,h=>by simp[C.ok] at h
 | .ptr _ _ _,h=>by simp[C.ok] at h
 | .fn _ a,h=>C.noL_ok0 a h
 | .fnb _ a,h=>C.noL_ok0 a h
 | .ifc _ cs _,h=>C.noL_ok0 cs h
 | .map _,h=>by simp[C.ok] at h
theorem C.noL_ok0{id:Id}:∀l:List C,C.okL 0 l=true->C.noL id l=true
 |[],_=>rfl
 |c::r,h=>by simp only[C.okL,iu] at h;simp only[C.noL,iu];exact⟨C.no_ok0 c h.1,C.noL_ok0 r h.2⟩
end
def fnNo{id:Id}{f:FuncId}(h:C.okL 0 a=true):(C.fn f a).no id=true:=C.noL_ok0 a h
def fnOk{f:FuncId}(h:C.okL 0 a=true):(C.fn f a).ok n=true:=C.okL_mono (Nat.zero_le n) a h
def fnMv{b:Id->Id}{o:Option T}{f:FuncId}(h:C.okL 0 a=true)(e:o=some (.c (.fn f a))):o=some ((T.c (.fn f a)).ren b):=by rw[e];simp only[T.ren,C.ren];rw[C.renL_ok (m:=0) (fun i hi=>absurd hi (Nat.not_lt_zero _)) a h]
def eOk1{t:Nat}{v:T}{r:Env}(h:v.ok n=true)(a:X8 n r=true):X8 n ((t,v)::r)=true:=by
 simp only[X8,h,a,Bool.and_self]
section
open Go.Proofs
def XAny(id:Id)(k:Nat)(a:List (List I)):C->C->Prop:=fun c b=>c.frz id k a=b
def AOps.frzB{P:Program}{σ0:b6}{Q:Post}{env:Env}{a:b6}{ops:Array Oper}{rest:List Oper}{e:List I}{id:Id}{k:Nat}{env2:Env}{b σ2:b6}(d:Nat.ble (iA σ0) id.1=true)(f:a[id]? =some (some (Blk.im k [e])))(c:ab4 id (XAny id k [e]) env env2)(i:putF a id none=some b)(g:FrzS id (XAny id k [e]) b σ2)(h:AOps P σ0 n ops Q rest (St.mk env2 σ2)):AOps P σ0 n ops Q rest (St.mk env a):=AOps.sub (Sub.frzX (fun _ _ h=>h) d f c i g) h
end
end Ab
section
namespace Go.Proofs
open Go.Shelf
open Tryz
def Tryz.lays189_ren:Go.Shelf.Ren:=⟨fun|189=>135|125=>120|257=>155|128=>147|129=>148|294=>171|295=>172|296=>173|297=>174|298=>175|299=>176|216=>153|300=>177|301=>178|328=>187|329=>158|330=>159|331=>188|332=>189|215=>133|343=>195|n=>n,fun|28=>22|3=>3|46=>137|0=>0|51=>118|53=>207|4=>4|183=>215|182=>214|131=>127|5=>5|9=>9|218=>232|222=>236|228=>249|229=>250|n=>n,fun|n=>n⟩
theorem Tryz.lays189:Go.Proofs.Lays.n189 prog Tryz.lays189_ren:={
 mixed:=by kernel_rfl
 f125:=func120.trans (congrArg some (by kernel_rfl))
 f128:=func147.trans (congrArg some (by kernel_rfl))
 f129:=func148.trans (congrArg some (by kernel_rfl))
 f189:=func135.trans (congrArg some (by kernel_rfl))
 f215:=func133.trans (congrArg some (by kernel_rfl))
 f216:=func153.trans (congrArg some (by kernel_rfl))
 f257:=func155.trans (congrArg some (by kernel_rfl))
 f294:=func171.trans (congrArg some (by kernel_rfl))
 f295:=func172.trans (congrArg some (by kernel_rfl))
 f296:=func173.trans (congrArg some (by kernel_rfl))
 f297:=func174.trans (congrArg some (by kernel_rfl))
 f298:=func175.trans (congrArg some (by kernel_rfl))
 f299:=func176.trans (congrArg some (by kernel_rfl))
 f300:=func177.trans (congrArg some (by kernel_rfl))
 f301:=func178.trans (congrArg some (by kernel_rfl))
 f328:=func187.trans (congrArg some (by kernel_rfl))
 f329:=func158.trans (congrArg some (by kernel_rfl))
 f330:=func159.trans (congrArg some (by kernel_rfl))
 f331:=func188.trans (congrArg some (by kernel_rfl))
 f332:=func189.trans (congrArg some (by kernel_rfl))
 f343:=func195.trans (congrArg some (by kernel_rfl))
 t0:=underlying0
 a0:=isAgg0
 z0:=sizeOf0
 v0:=zeroValue0
 t3:=underlying3
 a3:=isAgg3
 z3:=sizeOf3
 v3:=zeroValue3
 t4:=underlying4
 a4:=isAgg4
 z4:=sizeOf4
 v4:=zeroValue4
 t5:=underlying5
 a5:=isAgg5
 z5:=sizeOf5
 v5:=zeroValue5
 t9:=underlying9
 a9:=isAgg9
 z9:=sizeOf9
 v9:=zeroValue9
 t28:=underlying22
 a28:=isAgg22
 z28:=sizeOf22
 v28:=zeroValue22
 t46:=underlying137
 a46:=isAgg137
 z46:=sizeOf137
 v46:=zeroValue137
 t51:=underlying118
 a51:=isAgg118
 z51:=sizeOf118
 v51:=zeroValue118
 t53:=underlying207
 a53:=isAgg207
 z53:=sizeOf207
 v53:=zeroValue207
 t131:=underlying127
 a131:=isAgg127
 z131:=sizeOf127
 v131:=zeroValue127
 t182:=underlying214
 a182:=isAgg214
 z182:=sizeOf214
 v182:=zeroValue214
 t183:=underlying215
 a183:=isAgg215
 z183:=sizeOf215
 v183:=zeroValue215
 t218:=underlying232
 a218:=isAgg232
 z218:=sizeOf232
 v218:=zeroValue232
 t222:=underlying236
 a222:=isAgg236
 z222:=sizeOf236
 v222:=zeroValue236
 t228:=underlying249
 a228:=isAgg249
 z228:=sizeOf249
 v228:=zeroValue249
 t229:=underlying250
 a229:=isAgg250
 z229:=sizeOf250
 v229:=zeroValue250}
open Go.Sort Go.RowKit in
theorem Tryz.slices_Sort_int(blk off cap:Nat)(zs:List Int)(w:World)(hH:Holds (Value.int .i64) w blk off zs.toArray)(hblk:blk<w.heap.size)(hsz:zs.length<4611686018427387904):
  Calls prog 135 #[.slice (some ⟨blk,off,none⟩) zs.length cap] w fun e w'=>
   e=.returned (.tuple #[])/\∃n os,w'=grow (putRow (Value.int .i64) (Sort.ahead w n) blk off (zs.mergeSort fun x y=>decide (x<=y)).toArray) os:=Any.slices_Sort_int Tryz.lays189 blk off cap zs w hH hblk hsz
def Tryz.laysNm220_ren:Go.Shelf.Ren:=⟨fun|20=>136|n=>n,fun|22=>22|3=>3|4=>4|0=>0|n=>n,fun|n=>n⟩
theorem Tryz.laysNm220:Go.Proofs.Lays2.n20 prog Tryz.laysNm220_ren:={
 mixed:=by kernel_rfl
 f20:=func136.trans (congrArg some (by kernel_rfl))
 t0:=underlying0
 a0:=isAgg0
 z0:=sizeOf0
 v0:=zeroValue0
 t3:=underlying3
 a3:=isAgg3
 z3:=sizeOf3
 v3:=zeroValue3
 t4:=underlying4
 a4:=isAgg4
 z4:=sizeOf4
 v4:=zeroValue4
 t22:=underlying22
 a22:=isAgg22
 z22:=sizeOf22
 v22:=zeroValue22
 i3:=by kernel_rfl}
open Go.RowKit Go.Lib Go.Sort in
theorem Tryz.slices_Compact_int(blk off cap:Nat)(zs:List Int)(w:World)(hH:Holds (Value.int .i64) w blk off zs.toArray)(hsz:zs.length<=9223372036854775807)(hcap:zs.length<=cap):
  Calls prog 136 #[.slice (some ⟨blk,off,none⟩) zs.length cap] w fun e w'=>e=.returned (.slice (some ⟨blk,off,none⟩) (Lib.compact zs).length cap)/\∃q,w'=putRow (Value.int .i64) (Sort.ahead w q) blk off (Lib.compact zs++List.replicate (zs.length - (Lib.compact zs).length) 0).toArray:=Any.slices_Compact_int Tryz.laysNm220 blk off cap zs w hH hsz hcap
open Go.RowKit Go.Lib Go.Sort in
theorem Tryz.slices_Compact_int_empty(a:Option Addr)(cap:Nat)(w:World):
  Calls prog 136 #[.slice a 0 cap] w fun e w'=>e=.returned (.slice a 0 cap)/\w'=w:=Any.slices_Compact_int_empty Tryz.laysNm220 a cap w
open Go.RowKit Go.Sort in
theorem Tryz.slices_Sort_int_none(p:Option Addr)(cap:Nat)(w:World):
  Calls prog 135 #[.slice p 0 cap] w fun e w'=>e=.returned (.tuple #[])/\w'=w:=Any.slices_Sort_int_none Tryz.lays189 p cap w
def Tryz.laysSlF6_f95_ren:Go.Shelf.Ren:=⟨fun|6=>95|15=>120|14=>119|28=>147|29=>148|20=>139|21=>140|22=>141|23=>142|24=>143|25=>144|26=>145|27=>146|46=>157|47=>158|48=>159|49=>160|50=>161|57=>179|n=>n,fun|22=>113|24=>118|25=>147|3=>3|39=>137|0=>0|53=>118|55=>207|4=>4|46=>215|45=>214|50=>127|5=>5|9=>9|66=>232|70=>236|76=>249|77=>250|n=>n,fun|n=>n⟩
theorem Tryz.laysSlF6_f95:Go.Proofs.SlLaysF.n6 prog Tryz.laysSlF6_f95_ren:={
 mixed:=by kernel_rfl
 f6:=⟨Tryz.f95.name,by decide,func95.trans (congrArg some (by kernel_rfl))⟩
 f14:=⟨Tryz.f119.name,by decide,func119.trans (congrArg some (by kernel_rfl))⟩
 f15:=func120.trans (congrArg some (by kernel_rfl))
 f20:=⟨Tryz.f139.name,by decide,func139.trans (congrArg some (by kernel_rfl))⟩
 f21:=⟨Tryz.f140.name,by decide,func140.trans (congrArg some (by kernel_rfl))⟩
 f22:=⟨Tryz.f141.name,by decide,func141.trans (congrArg some (by kernel_rfl))⟩
 f23:=⟨Tryz.f142.name,by decide,func142.trans (congrArg some (by kernel_rfl))⟩
 f24:=⟨Tryz.f143.name,by decide,func143.trans (congrArg some (by kernel_rfl))⟩
 f25:=⟨Tryz.f144.name,by decide,func144.trans (congrArg some (by kernel_rfl))⟩
 f26:=⟨Tryz.f145.name,by decide,func145.trans (congrArg some (by kernel_rfl))⟩
 f27:=⟨Tryz.f146.name,by decide,func146.trans (congrArg some (by kernel_rfl))⟩
 f28:=func147.trans (congrArg some (by kernel_rfl))
 f29:=func148.trans (congrArg some (by kernel_rfl))
 f46:=⟨Tryz.f157.name,by decide,func157.trans (congrArg some (by kernel_rfl))⟩
 f47:=func158.trans (congrArg some (by kernel_rfl))
 f48:=func159.trans (congrArg some (by kernel_rfl))
 f49:=⟨Tryz.f160.name,by decide,func160.trans (congrArg some (by kernel_rfl))⟩
 f50:=⟨Tryz.f161.name,by decide,func161.trans (congrArg some (by kernel_rfl))⟩
 f57:=⟨Tryz.f179.name,by decide,func179.trans (congrArg some (by kernel_rfl))⟩
 t0:=underlying0
 a0:=isAgg0
 z0:=sizeOf0
 v0:=zeroValue0
 t3:=underlying3
 a3:=isAgg3
 z3:=sizeOf3
 v3:=zeroValue3
 t4:=underlying4
 a4:=isAgg4
 z4:=sizeOf4
 v4:=zeroValue4
 t5:=underlying5
 a5:=isAgg5
 z5:=sizeOf5
 v5:=zeroValue5
 t9:=underlying9
 a9:=isAgg9
 z9:=sizeOf9
 v9:=zeroValue9
 t22:=underlying113
 a22:=isAgg113
 z22:=sizeOf113
 v22:=zeroValue113
 a24:=isAgg118
 z24:=sizeOf118
 t25:=underlying147
 a25:=isAgg147
 z25:=sizeOf147
 v25:=zeroValue147
 t39:=underlying137
 a39:=isAgg137
 z39:=sizeOf137
 v39:=zeroValue137
 t45:=underlying214
 a45:=isAgg214
 z45:=sizeOf214
 v45:=zeroValue214
 t46:=underlying215
 a46:=isAgg215
 z46:=sizeOf215
 v46:=zeroValue215
 t50:=underlying127
 a50:=isAgg127
 z50:=sizeOf127
 v50:=zeroValue127
 t53:=underlying118
 a53:=isAgg118
 z53:=sizeOf118
 v53:=zeroValue118
 t55:=underlying207
 a55:=isAgg207
 z55:=sizeOf207
 v55:=zeroValue207
 t66:=underlying232
 a66:=isAgg232
 z66:=sizeOf232
 v66:=zeroValue232
 t70:=underlying236
 a70:=isAgg236
 z70:=sizeOf236
 v70:=zeroValue236
 t76:=underlying249
 a76:=isAgg249
 z76:=sizeOf249
 v76:=zeroValue249
 t77:=underlying250
 a77:=isAgg250
 z77:=sizeOf250
 v77:=zeroValue250}
def Tryz.laysSlF6_f126_ren:Go.Shelf.Ren:=⟨fun|6=>126|15=>120|14=>152|28=>147|29=>148|20=>163|21=>164|22=>165|23=>166|24=>167|25=>168|26=>169|27=>170|46=>184|47=>158|48=>159|49=>185|50=>186|57=>194|n=>n,fun|22=>34|24=>22|25=>129|3=>3|39=>137|0=>0|53=>118|55=>207|4=>4|46=>215|45=>214|50=>127|5=>5|9=>9|66=>232|70=>236|76=>249|77=>250|n=>n,fun|n=>n⟩
theorem Tryz.laysSlF6_f126:Go.Proofs.SlLaysF.n6 prog Tryz.laysSlF6_f126_ren:={
 mixed:=by kernel_rfl
 f6:=⟨Tryz.f126.name,by decide,func126.trans (congrArg some (by kernel_rfl))⟩
 f14:=⟨Tryz.f152.name,by decide,func152.trans (congrArg some (by kernel_rfl))⟩
 f15:=func120.trans (congrArg some (by kernel_rfl))
 f20:=⟨Tryz.f163.name,by decide,func163.trans (congrArg some (by kernel_rfl))⟩
 f21:=⟨Tryz.f164.name,by decide,func164.trans (congrArg some (by kernel_rfl))⟩
 f22:=⟨Tryz.f165.name,by decide,func165.trans (congrArg some (by kernel_rfl))⟩
 f23:=⟨Tryz.f166.name,by decide,func166.trans (congrArg some (by kernel_rfl))⟩
 f24:=⟨Tryz.f167.name,by decide,func167.trans (congrArg some (by kernel_rfl))⟩
 f25:=⟨Tryz.f168.name,by decide,func168.trans (congrArg some (by kernel_rfl))⟩
 f26:=⟨Tryz.f169.name,by decide,func169.trans (congrArg some (by kernel_rfl))⟩
 f27:=⟨Tryz.f170.name,by decide,func170.trans (congrArg some (by kernel_rfl))⟩
 f28:=func147.trans (congrArg some (by kernel_rfl))
 f29:=func148.trans (congrArg some (by kernel_rfl))
 f46:=⟨Tryz.f184.name,by decide,func184.trans (congrArg some (by kernel_rfl))⟩
 f47:=func158.trans (congrArg some (by kernel_rfl))
 f48:=func159.trans (congrArg some (by kernel_rfl))
 f49:=⟨Tryz.f185.name,by decide,func185.trans (congrArg some (by kernel_rfl))⟩
 f50:=⟨Tryz.f186.name,by decide,func186.trans (congrArg some (by kernel_rfl))⟩
 f57:=⟨Tryz.f194.name,by decide,func194.trans (congrArg some (by kernel_rfl))⟩
 t0:=underlying0
 a0:=isAgg0
 z0:=sizeOf0
 v0:=zeroValue0
 t3:=underlying3
 a3:=isAgg3
 z3:=sizeOf3
 v3:=zeroValue3
 t4:=underlying4
 a4:=isAgg4
 z4:=sizeOf4
 v4:=zeroValue4
 t5:=underlying5
 a5:=isAgg5
 z5:=sizeOf5
 v5:=zeroValue5
 t9:=underlying9
 a9:=isAgg9
 z9:=sizeOf9
 v9:=zeroValue9
 t22:=underlying34
 a22:=isAgg34
 z22:=sizeOf34
 v22:=zeroValue34
 a24:=isAgg22
 z24:=sizeOf22
 t25:=underlying129
 a25:=isAgg129
 z25:=sizeOf129
 v25:=zeroValue129
 t39:=underlying137
 a39:=isAgg137
 z39:=sizeOf137
 v39:=zeroValue137
 t45:=underlying214
 a45:=isAgg214
 z45:=sizeOf214
 v45:=zeroValue214
 t46:=underlying215
 a46:=isAgg215
 z46:=sizeOf215
 v46:=zeroValue215
 t50:=underlying127
 a50:=isAgg127
 z50:=sizeOf127
 v50:=zeroValue127
 t53:=underlying118
 a53:=isAgg118
 z53:=sizeOf118
 v53:=zeroValue118
 t55:=underlying207
 a55:=isAgg207
 z55:=sizeOf207
 v55:=zeroValue207
 t66:=underlying232
 a66:=isAgg232
 z66:=sizeOf232
 v66:=zeroValue232
 t70:=underlying236
 a70:=isAgg236
 z70:=sizeOf236
 v70:=zeroValue236
 t76:=underlying249
 a76:=isAgg249
 z76:=sizeOf249
 v76:=zeroValue249
 t77:=underlying250
 a77:=isAgg250
 z77:=sizeOf250
 v77:=zeroValue250}
open Go.RowKit Go.Lib Go.Sort in
theorem Tryz.slices_SortFunc_f95{α:Type}[Inhabited α](enc:α->Value)(h1:OneCell enc)(cf:α->α->Int)(hO:SWO (ltOf cf))(g:Nat)(cb:Array Value)(blk off cap:Nat)(d:Array α)(w:World)(eg:∀args w,(callFunc g args).run prog w=.ok (.enter g args) w)(hcmp:CmpLays1 prog g cb enc cf blk off d.size w)(hH:Holds enc w blk off d)(hblk:blk<w.heap.size)(hsz:d.size<4611686018427387904):
  Calls prog 95 #[.slice (some ⟨blk,off,none⟩) d.size cap,.func (.func g) #[] cb] w fun e w'=>
   e=.returned (.tuple #[])/\∃d' n os,PermIn 0 d.size d d'/\SortedIn (ltOf cf) 0 d.size d'/\w'=sortWorld enc w blk off n d' os:=Any.slices_SortFunc Tryz.laysSlF6_f95 enc h1 cf hO g cb blk off cap d w eg hcmp hH hblk hsz
open Go.RowKit Go.Lib Go.Sort in
theorem Tryz.slices_SortFunc_f126{α:Type}[Inhabited α](enc:α->Value)(h1:OneCell enc)(cf:α->α->Int)(hO:SWO (ltOf cf))(g:Nat)(cb:Array Value)(blk off cap:Nat)(d:Array α)(w:World)(eg:∀args w,(callFunc g args).run prog w=.ok (.enter g args) w)(hcmp:CmpLays1 prog g cb enc cf blk off d.size w)(hH:Holds enc w blk off d)(hblk:blk<w.heap.size)(hsz:d.size<4611686018427387904):
  Calls prog 126 #[.slice (some ⟨blk,off,none⟩) d.size cap,.func (.func g) #[] cb] w fun e w'=>
   e=.returned (.tuple #[])/\∃d' n os,PermIn 0 d.size d d'/\SortedIn (ltOf cf) 0 d.size d'/\w'=sortWorld enc w blk off n d' os:=Any.slices_SortFunc Tryz.laysSlF6_f126 enc h1 cf hO g cb blk off cap d w eg hcmp hH hblk hsz
def Tryz.laysSlF06_f95_ren:Go.Shelf.Ren:=⟨fun|6=>95|15=>120|14=>119|28=>147|29=>148|20=>139|21=>140|22=>141|23=>142|24=>143|25=>144|26=>145|27=>146|46=>157|47=>158|48=>159|49=>160|50=>161|57=>179|n=>n,fun|22=>113|24=>118|25=>147|3=>3|39=>137|0=>0|53=>118|55=>207|4=>4|46=>215|45=>214|50=>127|5=>5|9=>9|66=>232|70=>236|76=>249|77=>250|n=>n,fun|n=>n⟩
theorem Tryz.laysSlF06_f95:Go.Proofs.SlLaysF0.n6 prog Tryz.laysSlF06_f95_ren:={
 mixed:=by kernel_rfl
 f6:=⟨Tryz.f95.name,by decide,func95.trans (congrArg some (by kernel_rfl))⟩
 f14:=⟨Tryz.f119.name,by decide,func119.trans (congrArg some (by kernel_rfl))⟩
 f15:=func120.trans (congrArg some (by kernel_rfl))
 f20:=⟨Tryz.f139.name,by decide,func139.trans (congrArg some (by kernel_rfl))⟩
 f21:=⟨Tryz.f140.name,by decide,func140.trans (congrArg some (by kernel_rfl))⟩
 f22:=⟨Tryz.f141.name,by decide,func141.trans (congrArg some (by kernel_rfl))⟩
 f23:=⟨Tryz.f142.name,by decide,func142.trans (congrArg some (by kernel_rfl))⟩
 f24:=⟨Tryz.f143.name,by decide,func143.trans (congrArg some (by kernel_rfl))⟩
 f25:=⟨Tryz.f144.name,by decide,func144.trans (congrArg some (by kernel_rfl))⟩
 f26:=⟨Tryz.f145.name,by decide,func145.trans (congrArg some (by kernel_rfl))⟩
 f27:=⟨Tryz.f146.name,by decide,func146.trans (congrArg some (by kernel_rfl))⟩
 f28:=func147.trans (congrArg some (by kernel_rfl))
 f29:=func148.trans (congrArg some (by kernel_rfl))
 f46:=⟨Tryz.f157.name,by decide,func157.trans (congrArg some (by kernel_rfl))⟩
 f47:=func158.trans (congrArg some (by kernel_rfl))
 f48:=func159.trans (congrArg some (by kernel_rfl))
 f49:=⟨Tryz.f160.name,by decide,func160.trans (congrArg some (by kernel_rfl))⟩
 f50:=⟨Tryz.f161.name,by decide,func161.trans (congrArg some (by kernel_rfl))⟩
 f57:=⟨Tryz.f179.name,by decide,func179.trans (congrArg some (by kernel_rfl))⟩
 t0:=underlying0
 a0:=isAgg0
 z0:=sizeOf0
 v0:=zeroValue0
 t3:=underlying3
 a3:=isAgg3
 z3:=sizeOf3
 v3:=zeroValue3
 t4:=underlying4
 a4:=isAgg4
 z4:=sizeOf4
 v4:=zeroValue4
 t5:=underlying5
 a5:=isAgg5
 z5:=sizeOf5
 v5:=zeroValue5
 t9:=underlying9
 a9:=isAgg9
 z9:=sizeOf9
 v9:=zeroValue9
 t22:=underlying113
 a22:=isAgg113
 z22:=sizeOf113
 v22:=zeroValue113
 t25:=underlying147
 a25:=isAgg147
 z25:=sizeOf147
 v25:=zeroValue147
 t39:=underlying137
 a39:=isAgg137
 z39:=sizeOf137
 v39:=zeroValue137
 t45:=underlying214
 a45:=isAgg214
 z45:=sizeOf214
 v45:=zeroValue214
 t46:=underlying215
 a46:=isAgg215
 z46:=sizeOf215
 v46:=zeroValue215
 t50:=underlying127
 a50:=isAgg127
 z50:=sizeOf127
 v50:=zeroValue127
 t53:=underlying118
 a53:=isAgg118
 z53:=sizeOf118
 v53:=zeroValue118
 t55:=underlying207
 a55:=isAgg207
 z55:=sizeOf207
 v55:=zeroValue207
 t66:=underlying232
 a66:=isAgg232
 z66:=sizeOf232
 v66:=zeroValue232
 t70:=underlying236
 a70:=isAgg236
 z70:=sizeOf236
 v70:=zeroValue236
 t76:=underlying249
 a76:=isAgg249
 z76:=sizeOf249
 v76:=zeroValue249
 t77:=underlying250
 a77:=isAgg250
 z77:=sizeOf250
 v77:=zeroValue250}
open Go.RowKit Go.Lib Go.Sort in
theorem Tryz.slices_SortFunc_none_f95{α:Type}[Inhabited α](p:Option Addr)(cap:Nat)(fv:Value)(w:World):
  Calls prog 95 #[.slice p 0 cap,fv] w fun e w'=>e=.returned (.tuple #[])/\w'=w:=AnyF.slices_SortFunc_none Tryz.laysSlF06_f95 p cap fv w
def Tryz.laysSlF06_f126_ren:Go.Shelf.Ren:=⟨fun|6=>126|15=>120|14=>152|28=>147|29=>148|20=>163|21=>164|22=>165|23=>166|24=>167|25=>168|26=>169|27=>170|46=>184|47=>158|48=>159|49=>185|50=>186|57=>194|n=>n,fun|22=>34|24=>22|25=>129|3=>3|39=>137|0=>0|53=>118|55=>207|4=>4|46=>215|45=>214|50=>127|5=>5|9=>9|66=>232|70=>236|76=>249|77=>250|n=>n,fun|n=>n⟩
theorem Tryz.laysSlF06_f126:Go.Proofs.SlLaysF0.n6 prog Tryz.laysSlF06_f126_ren:={
 mixed:=by kernel_rfl
 f6:=⟨Tryz.f126.name,by decide,func126.trans (congrArg some (by kernel_rfl))⟩
 f14:=⟨Tryz.f152.name,by decide,func152.trans (congrArg some (by kernel_rfl))⟩
 f15:=func120.trans (congrArg some (by kernel_rfl))
 f20:=⟨Tryz.f163.name,by decide,func163.trans (congrArg some (by kernel_rfl))⟩
 f21:=⟨Tryz.f164.name,by decide,func164.trans (congrArg some (by kernel_rfl))⟩
 f22:=⟨Tryz.f165.name,by decide,func165.trans (congrArg some (by kernel_rfl))⟩
 f23:=⟨Tryz.f166.name,by decide,func166.trans (congrArg some (by kernel_rfl))⟩
 f24:=⟨Tryz.f167.name,by decide,func167.trans (congrArg some (by kernel_rfl))⟩
 f25:=⟨Tryz.f168.name,by decide,func168.trans (congrArg some (by kernel_rfl))⟩
 f26:=⟨Tryz.f169.name,by decide,func169.trans (congrArg some (by kernel_rfl))⟩
 f27:=⟨Tryz.f170.name,by decide,func170.trans (congrArg some (by kernel_rfl))⟩
 f28:=func147.trans (congrArg some (by kernel_rfl))
 f29:=func148.trans (congrArg some (by kernel_rfl))
 f46:=⟨Tryz.f184.name,by decide,func184.trans (congrArg some (by kernel_rfl))⟩
 f47:=func158.trans (congrArg some (by kernel_rfl))
 f48:=func159.trans (congrArg some (by kernel_rfl))
 f49:=⟨Tryz.f185.name,by decide,func185.trans (congrArg some (by kernel_rfl))⟩
 f50:=⟨Tryz.f186.name,by decide,func186.trans (congrArg some (by kernel_rfl))⟩
 f57:=⟨Tryz.f194.name,by decide,func194.trans (congrArg some (by kernel_rfl))⟩
 t0:=underlying0
 a0:=isAgg0
 z0:=sizeOf0
 v0:=zeroValue0
 t3:=underlying3
 a3:=isAgg3
 z3:=sizeOf3
 v3:=zeroValue3
 t4:=underlying4
 a4:=isAgg4
 z4:=sizeOf4
 v4:=zeroValue4
 t5:=underlying5
 a5:=isAgg5
 z5:=sizeOf5
 v5:=zeroValue5
 t9:=underlying9
 a9:=isAgg9
 z9:=sizeOf9
 v9:=zeroValue9
 t22:=underlying34
 a22:=isAgg34
 z22:=sizeOf34
 v22:=zeroValue34
 t25:=underlying129
 a25:=isAgg129
 z25:=sizeOf129
 v25:=zeroValue129
 t39:=underlying137
 a39:=isAgg137
 z39:=sizeOf137
 v39:=zeroValue137
 t45:=underlying214
 a45:=isAgg214
 z45:=sizeOf214
 v45:=zeroValue214
 t46:=underlying215
 a46:=isAgg215
 z46:=sizeOf215
 v46:=zeroValue215
 t50:=underlying127
 a50:=isAgg127
 z50:=sizeOf127
 v50:=zeroValue127
 t53:=underlying118
 a53:=isAgg118
 z53:=sizeOf118
 v53:=zeroValue118
 t55:=underlying207
 a55:=isAgg207
 z55:=sizeOf207
 v55:=zeroValue207
 t66:=underlying232
 a66:=isAgg232
 z66:=sizeOf232
 v66:=zeroValue232
 t70:=underlying236
 a70:=isAgg236
 z70:=sizeOf236
 v70:=zeroValue236
 t76:=underlying249
 a76:=isAgg249
 z76:=sizeOf249
 v76:=zeroValue249
 t77:=underlying250
 a77:=isAgg250
 z77:=sizeOf250
 v77:=zeroValue250}
open Go.RowKit Go.Lib Go.Sort in
theorem Tryz.slices_SortFunc_none_f126{α:Type}[Inhabited α](p:Option Addr)(cap:Nat)(fv:Value)(w:World):
  Calls prog 126 #[.slice p 0 cap,fv] w fun e w'=>e=.returned (.tuple #[])/\w'=w:=AnyF.slices_SortFunc_none Tryz.laysSlF06_f126 p cap fv w
end Go.Proofs
end
namespace Ab
open Go
section
open Go.Proofs
open Tryz
variable{a:List C}{n:Nat}{A B:Type}{x y:Int}{p q:Prop}{b d:Li}{c:Int->Prop}{f:List A}{g:A}
def sort_facts:ab6 prog 135:=⟨_,func135,rfl,rfl⟩
def compact_facts:ab6 prog 136:=⟨_,func136,rfl,rfl⟩
def sortL_ok:SortOk prog 135:=fun b d=>sort_fn sort_facts (fun blk c a e w f g h=>Tryz.slices_Sort_int blk c a e w f g h) (fun p a w=>Tryz.slices_Sort_int_none p a w) b d
def compactL_ok:CompactOk prog 136:=fun c=>compact_fn compact_facts (fun blk d b e w f g h=>Tryz.slices_Compact_int blk d b e w f g h) (fun a b w=>Tryz.slices_Compact_int_empty a b w) c
end
section
open Go.Proofs
open Tryz
def sortF_facts:ab6 prog 126:=⟨_,func126,rfl,rfl⟩
def sortF_LLi64_ok:SortFOk prog 126:=fun e f l n _ _ _ h o=>sortF_fn sortF_facts e f l n (fun x _ i q r f g s blk j a d w t b u c k=>Tryz.slices_SortFunc_f126 i q r f g s blk j a d w t b u c k) (fun p a v w=>Tryz.slices_SortFunc_none_f126 (α:=Unit) p a v w) h o
end
section
open Go.Proofs
open Tryz
def sortU_facts:ab6 prog 95:=⟨_,func95,rfl,rfl⟩
def sortF_Lu32_ok:SortFOk prog 95:=fun e f l n _ _ _ h o=>sortF_fn sortU_facts e f l n (fun x _ i q r f g s blk j a d w t b u c k=>Tryz.slices_SortFunc_f95 i q r f g s blk j a d w t b u c k) (fun p a v w=>Tryz.slices_SortFunc_none_f95 (α:=Unit) p a v w) h o
end
def v8{a:Type}{l:List a}{k:Nat}:ix l (k:Int)=l[k]? :=by simp[ix]
def j7{b:Type}{l:List b}{i:Int}(c:0<=i)(d:i<iA l):∃a,ix l i=some a/\l[i.toNat]? =some a:=by
 have h:i.toNat<iA l:=by omega
 exact⟨l[i.toNat],by simp[ix,c,h],by simp[h]⟩
def n8{b:Type}{l:List b}{i:Int}{a:b}(h:ix l i=some a):0<=i/\i<iA l/\l[i.toNat]? =some a:=by unfold ix at h;split at h;have:=(lG.1 h).1;exact⟨by assumption,by omega,h⟩;cases h
def p9{n:Int}(a: -9223372036854775808<=n)(b:n<=9223372036854775807):w64 n=n:=w64_eq ⟨a,b⟩
def forN_inv{S:Type}{body:Int->S->Option S}(P:Int->S->Prop):∀(k:Nat) (i:Int) (s:S),P i s->
  (∀j s,i<=j->j<i+k->P j s->∃a,body j s=some a/\P (j+1) a)->∃a,forN body k i s=some a/\P (i+k) a
 |0,i,s,h,_=>⟨s,rfl,by simpa using h⟩
 |k+1,i,s,h,b=>by obtain⟨s1,c,d⟩:=b i s (gW _) (by omega) h;obtain⟨e,f,g⟩:=forN_inv P k (i+1) s1 d (fun j s l n=>b j s (by omega) (by omega));exact⟨e,by simp only[forN,c];exact f,by rw[show i+((k+1:Nat):Int)=i+1+k by omega];exact g⟩
def u9{S:Type}{body:Int->S->Option S}{n:Int}(P:Int->S->Prop){s:S}(g:0<=n)(b:P 0 s)
  (c:∀j s,0<=j->j<n->P j s->∃a,body j s=some a/\P (j+1) a):∃a,forR 0 n body s=some a/\P n a:=by
 obtain⟨a,d,e⟩:=forN_inv P (n - 0).toNat 0 s b (fun j s f h=>c j s f (by omega))
 exact⟨a,d,by rwa [show(0:Int)+((n - 0).toNat:Int)=n by omega] at e⟩
def rngN_inv{S O:Type}{body:Int->S->Option (S⊕O)}(P:Int->S->Prop)(Q:O->Prop):∀(k:Nat) (i:Int) (s:S),P i s->
  (∀j s,i<=j->j<i+k->P j s->(∃a,body j s=some (.inl a)/\P (j+1) a)\/∃o,body j s=some (.inr o)/\Q o)->
  (∃a,rngN body k i s=some (.inl a)/\P (i+k) a)\/∃o,rngN body k i s=some (.inr o)/\Q o
 |0,i,s,h,_=>.inl ⟨s,rfl,by simpa using h⟩
 |k+1,i,s,h,f=>by rcases f i s (gW _) (by omega) h with⟨s1,b,c⟩|⟨o,b,c⟩;rcases rngN_inv P Q k (i+1) s1 c (fun j s l n=>f j s (by omega) (by omega)) with⟨g,d,e⟩|⟨o,d,e⟩;exact .inl ⟨g,by simp only[rngN,b];exact d,by rw[show i+((k+1:Nat):Int)=i+1+k by omega];exact e⟩;exact .inr ⟨o,by simp only[rngN,b];exact d,e⟩;exact .inr ⟨o,by simp only[rngN,b],c⟩
def ah0{S O:Type}{body:Int->S->Option (S⊕O)}{n:Int}(P:Int->S->Prop)(Q:O->Prop){s:S}(g:0<=n)(b:P 0 s)
  (c:∀j s,0<=j->j<n->P j s->(∃a,body j s=some (.inl a)/\P (j+1) a)\/∃o,body j s=some (.inr o)/\Q o):
  (∃a,rngX 0 n body s=some (.inl a)/\P n a)\/∃o,rngX 0 n body s=some (.inr o)/\Q o:=by
 rcases rngN_inv P Q (n - 0).toNat 0 s b (fun j s d i=>c j s d (by omega)) with⟨a,e,f⟩|h
 ·exact .inl ⟨a,e,by rwa [show(0:Int)+((n - 0).toNat:Int)=n by omega] at f⟩
 ·exact .inr h
def LoopN_inv{S O:Type}{a:S->Option (S⊕O)}(P:S->Prop)(Q:O->Prop)(μ:S->Nat)(e:∀s,P s->(∃b,a s=some (.inl b)/\P b/\μ b<μ s)\/∃o,a s=some (.inr o)/\Q o):
  ∀(k:Nat) (s:S),μ s<k->P s->∃o,LoopN a k s=some o/\Q o
 |0,s,h,_=>by omega
 |k+1,s,h,f=>by rcases e s f with⟨b,c,d,j⟩|⟨o,c,d⟩;obtain⟨o,g,i⟩:=LoopN_inv P Q μ e k b (by omega) d;exact⟨o,by simp only[LoopN,c];exact g,i⟩;exact⟨o,by simp only[LoopN,c],d⟩
def E8{S O:Type}{body:S->Option (S⊕O)}(P:S->Prop)(Q:O->Prop)(μ:S->Nat){s:S}(b:P s)
  (c:∀s,P s->(∃a,body s=some (.inl a)/\P a/\μ a<μ s)\/∃o,body s=some (.inr o)/\Q o):∃o,Loop body s=some o/\Q o:=by
 obtain⟨o,d,e⟩:=LoopN_inv P Q μ c (μ s+1) s (by omega) b
 exact⟨o,al7.2 ⟨_,d⟩,e⟩
/-! ### Two loops that do the same -/
def rngN_eq{S O:Type}{b1 b2:Int->S->Option (S⊕O)}(P:Int->S->Prop):∀(k:Nat) (i:Int) (s:S),P i s->
  (∀j s,i<=j->j<i+k->P j s->b1 j s=b2 j s/\b1 j s ≠ none/\∀a,b1 j s=some (.inl a)->P (j+1) a)->
  rngN b1 k i s=rngN b2 k i s/\rngN b1 k i s ≠ none/\∀a,rngN b1 k i s=some (.inl a)->P (i+k) a
 |0,i,s,h,_=>⟨rfl,by simp[rngN],fun a b=>by simp only[rngN,Option.some.injEq,Sum.inl.injEq] at b;subst b;simpa using h⟩
 |k+1,i,s,h,c=>by
  obtain⟨e,f,g⟩:=c i s (gW _) (by omega) h;simp only[rngN];rw[<- e];cases d:b1 i s with
  |none=>exact absurd d f
  |some x=>
   cases x with
   |inr o=>exact⟨rfl,by simp,fun a b=>by simp at b⟩
   |inl s1=>
    dsimp only
    have:=rngN_eq (b1:=b1) (b2:=b2) P k (i+1) s1 (g s1 d) (fun j s l n=>c j s (by omega) (by omega))
    rwa [show i+1+(k:Int)=i+((k+1:Nat):Int) by omega] at this
def rngX_eq{S O:Type}{a b2:Int->S->Option (S⊕O)}{n:Int}(P:Int->S->Prop){s:S}(f:0<=n)(c:P 0 s)
  (d:∀j s,0<=j->j<n->P j s->a j s=b2 j s/\a j s ≠ none/\∀b,a j s=some (.inl b)->P (j+1) b):
  rngX 0 n a s=rngX 0 n b2 s/\rngX 0 n a s ≠ none/\∀b,rngX 0 n a s=some (.inl b)->P n b:=by
 have:=rngN_eq P (n - 0).toNat 0 s c (fun j s e g=>d j s e (by omega))
 rwa [show(0:Int)+((n - 0).toNat:Int)=n by omega] at this
noncomputable def dec(p:Prop):Bool:=@decide p (Classical.propDecidable p)
@[simp] theorem m5 {p:Prop}:dec p=true↔p:=by simp[dec]
@[simp] theorem dec_false {p:Prop}:dec p=false↔¬ p:=by simp[dec]
@[simp] theorem B9 {p:Prop}:(!dec p)=dec (¬ p):=by by_cases h:p<;>simp[dec,h]
def L8{p:Prop}[Decidable p]:decide p=dec p:=by by_cases h:p<;>simp[dec,h]
def i9{p:Prop}(h:p):dec p=true:=m5.2 h
def s9{p:Prop}(h:¬ p):dec p=false:=dec_false.2 h
def x7{p q:Prop}(h:p↔q):dec p=dec q:=by rw[propext h]
def dec_inj{p q:Prop}:dec p=dec q↔(p↔q):=⟨fun h=>⟨fun hp=>m5.1 (h ▸ i9 hp),fun a=>m5.1 (h.symm ▸ i9 a)⟩,x7⟩
def dec_and{p q:Prop}:(dec p && dec q)=dec (p/\q):=by by_cases h:p<;>by_cases g:q<;>simp[dec,h,g]
def dec_or{p q:Prop}:(dec p||dec q)=dec (p\/q):=by by_cases h:p<;>by_cases g:q<;>simp[dec,h,g]
def bool_dec(b:Bool):b=dec (b=true):=by cases b<;>simp[dec]
def ifP{c:Type}{p:Prop}{a b:c}(h:p):(if dec p=true then a else b)=a:=if_pos (i9 h)
def ifN{c:Type}{p:Prop}{a b:c}(h:¬ p):(if dec p=true then a else b)=b:=if_neg fun g=>h (m5.1 g)
def ifNN{c:Type}{p:Prop}{a b:c}(h:p):(if dec (¬ p)=true then a else b)=b:=ifN (not_not_intro h)
def ix_ltN{a:Type}{l:List a}{k:Nat}(h:k<iA l):ix l (k:Int)=some l[k]:=by rw[v8];simp[h]
def l8{b:Type}{l:List b}{i:Int}{a:b}(h:ix l i=some a):a ∈ l:=List.mem_of_getElem? (n8 h).2.2
def p8{b:Type}{l:List b}{a:b}(h:a ∈ l):∃i:Int,0<=i/\i<iA l/\ix l i=some a:=by obtain⟨k,hk⟩:=List.getElem?_of_mem h;exact⟨k,by omega,by have:=(lG.1 hk).1;omega,by rw[v8,hk]⟩
def U5{a:Type}{l:List a}{i j:Int}{x:a}(c:0<=i)(d:i<iA l)(b:0<=j):ix (l.set i.toNat x) j=if j=i then some x else ix l j:=by simp only[ix,b,if_true,List.getElem?_set];by_cases h:j=i;subst h;rw[if_pos rfl,if_pos rfl,if_pos (by omega)];rw[if_neg h,if_neg (by omega)]
def I2{O:Type}{body:Int->Unit->Option (Unit⊕O)}{n:Int}(g:Int->Option O)(k:0<=n)
  (l:∀j,0<=j->j<n->(∀i,0<=i->i<j->g i=none)->body j ()=some (match g j with|none=>.inl ()|some o=>.inr o)):
  (rngX 0 n body ()=some (.inl ())/\∀j,0<=j->j<n->g j=none)\/∃j o,0<=j/\j<n/\g j=some o/\(∀i,0<=i->i<j->g i=none)/\rngX 0 n body ()=some (.inr o):=by
 rcases ah0 (body:=body) (n:=n) (fun j _=>∀i,0<=i->i<j->g i=none) (fun o=>∃j,0<=j/\j<n/\g j=some o/\∀i,0<=i->i<j->g i=none) (s:=()) k (fun i a b=>by omega) (fun j s f a d=>by
  have:=l j f a d;cases c:g j with
  |none=>rw[c] at this;exact .inl ⟨(),this,fun i b e=>by rcases ij (ie e) with h|h;exact d i b h;rw[h,c]⟩
  |some o=>rw[c] at this;exact .inr ⟨o,this,j,f,a,c,d⟩) with⟨r,a,b⟩|⟨o,a,j,b,e,p,q⟩
 ·exact .inl ⟨a,b⟩
 ·exact .inr ⟨j,o,b,e,p,q,a⟩
def rng_list{r O:Type}{l:List r}{c:Int->Unit->Option (Unit⊕O)}(q:r->Prop)(b:O)
  (s:∀j a,ix l j=some a->(q a/\c j ()=some (.inl ()))\/(¬ q a/\c j ()=some (.inr b))):
  rngX 0 (iA l:Int) c ()=some (if dec (∀a ∈ l,q a)=true then .inl () else .inr b):=by
 rcases I2 (body:=c) (n:=(iA l:Int)) (fun j=>match ix l j with|some a=>if dec (q a)=true then none else some b|none=>none) (by omega) (fun j k e _=>by obtain⟨a,d,_⟩:=j7 k e;rw[d];rcases s j a d with⟨p,f⟩|⟨p,f⟩;rw[f];simp[p];rw[f];simp[p]) with⟨e,d⟩|⟨j,o,k,e,d,_,f⟩
 ·rw[e,if_pos]
  rw[m5]
  intro a t
  obtain⟨i,g,u,v⟩:=p8 t
  have:=d i g u
  rw[v] at this
  simpa using this
 ·rw[f]
  obtain⟨a,g,_⟩:=j7 k e
  rw[g] at d
  simp only[m5] at d
  split at d
  ·cases d
  ·rename_i w
   cases d
   rw[if_neg]
   rw[m5]
   exact fun h=>w (i9 (h a (l8 g)))
abbrev Inc(l:Li):Prop:=l.Pairwise (· < ·)
def inc_of_adj:∀{l:Li},(∀(k:Nat) a b,l[k]? =some a->l[k+1]? =some b->a<b)->Inc l
 |[],_=>.nil
 |[_],_=>by simp
 |a::b::l,h=>by have f:Inc (b::l):=inc_of_adj fun k x y g i=>h (k+1) x y (by simpa using g) (by simpa using i);have d:a<b:=h 0 a b rfl rfl;refine gU.2 ⟨fun c e=> ?_,f⟩;rcases gV.1 e with rfl|e;exact d;exact Int.lt_trans d ((gU.1 f).1 c e)
def Inc.get{l:Li}(h:Inc l){i j:Nat}{a b:Int}(hi:l[i]? =some a)(d:l[j]? =some b)(c:i<j):a<b:=by obtain⟨e,rfl⟩:=lG.1 hi;obtain⟨f,rfl⟩:=lG.1 d;exact gX.1 h i j e f c
def Inc.ext:∀{l m:Li},Inc l->Inc m->(∀x,x ∈ l↔x ∈ m)->l=m
 |[],[],_,_,_=>rfl
 |[],b::m,_,_,h=>absurd ((h b).2 (by simp)) (by simp)
 |a::l,[],_,_,h=>absurd ((h a).1 (by simp)) (by simp)
 |a::l,b::m,i,j,h=>by
  obtain⟨l1,k⟩:=gU.1 i;obtain⟨g,n⟩:=gU.1 j;have d:a=b:=by rcases gV.1 ((h a).1 (by simp)) with e|e;exact e;rcases gV.1 ((h b).2 (by simp)) with f|f;exact f.symm;have:=l1 b f;have:=g a e;omega
  subst d;rw[Inc.ext k n fun x=>⟨fun c=> ?_,fun c=> ?_⟩];rcases gV.1 ((h x).1 (by simp[c])) with e|e;have:=l1 x c;omega;exact e;rcases gV.1 ((h x).2 (by simp[c])) with e|e;have:=g x c;omega;exact e
def Inc.filter{l:Li}(h:Inc l)(p:Int->Bool):Inc (l.filter p):=List.Pairwise.filter p h
def nums(a:Int):Nat->Li
 |0=>[]
 |k+1=>a::nums (a+1) k
def ah4{x:Int}:∀{k:Nat} {a:Int},x ∈ nums a k↔a<=x/\x<a+k
 |0,a=>by simp[nums]
 |k+1,a=>by rw[nums,gV,ah4 (k:=k)];omega
def aE3:∀(k:Nat) (a:Int),Inc (nums a k)
 |0,_=>.nil
 |k+1,a=>gU.2 ⟨fun x b=>by have:=ah4.1 b;omega,aE3 k (a+1)⟩
def len_nums:∀(k:Nat) (a:Int),(nums a k).length=k
 |0,_=>rfl
 |k+1,a=>by simp[nums,len_nums k]
noncomputable def Q5(p:Int->Prop)(n:Int):Li:=(nums 0 n.toNat).filter fun x=>dec (p x)
def ah8{p:Int->Prop}{n x:Int}:x ∈ Q5 p n↔0<=x/\x<n/\p x:=by rw[Q5,List.mem_filter,ah4,m5];constructor;rintro ⟨⟨a,c⟩,b⟩;exact⟨a,by omega,b⟩;rintro ⟨a,c,b⟩;exact⟨⟨a,by omega⟩,b⟩
def aA0(p:Int->Prop)(n:Int):Inc (Q5 p n):=(aE3 _ _).filter _
def setOf_congr{p q:Int->Prop}{n:Int}(h:∀x,0<=x->x<n->(p x↔q x)):Q5 p n=Q5 q n:=by refine List.filter_congr fun x a=>x7 ?_;have:=ah4.1 a;exact h x (by omega) (by omega)
def SetN(l:Li)(n:Int):Prop:=Inc l/\∀x ∈ l,0<=x/\x<n
def av1(p:Int->Prop)(n:Int):SetN (Q5 p n) n:=⟨aA0 p n,fun x a=>by have:=ah8.1 a;exact⟨this.1,this.2.1⟩⟩
def SetN.eq{l:Li}{n:Int}(h:SetN l n):l=Q5 (· ∈ l) n:=
 h.1.ext (aA0 _ _) fun x=>⟨fun a=>ah8.2 ⟨(h.2 x a).1,(h.2 x a).2,a⟩,fun a=>(ah8.1 a).2.2⟩
def SetN.eq_of{l:Li}{n:Int}(h:SetN l n){p:Int->Prop}(hp:∀x,0<=x->x<n->(x ∈ l↔p x)):l=Q5 p n:=
 h.eq.trans (setOf_congr hp)
def SetN.len{l:Li}{n:Int}(h:SetN l n):iA l<=n.toNat:=by rw[h.eq,Q5];exact ik (hZ _ _) (Nat.le_of_eq (len_nums _ _))
def forR_filter{f:Type}{l:List f}{b:Nat}{d:Int->List f->Option (List f)}(q:f->Prop)
  (o:∀j a c,ix l j=some a->(q a->d j c=app b c [a])/\(¬ q a->d j c=some c)) (c0:List f) (t:(iA c0+iA l) * b<=140737488355328):
  forR 0 (iA l:Int) d c0=some (c0++l.filter fun a=>dec (q a)):=by
 obtain⟨z,i,u⟩:=u9 (body:=d) (n:=(iA l:Int)) (s:=c0) (fun j c=>c=c0++(l.take j.toNat).filter fun a=>dec (q a)) (by omega) (by simp) (fun j c v i k=>by
  obtain⟨a,p,w⟩:=j7 v i;have e:(j+1).toNat=j.toNat+1:=by omega
  have r:l.take (j+1).toNat=l.take j.toNat++[a]:=by rw[e,gZ,w];rfl
  by_cases h:q a;have g:app b c [a]=some (c++[a]):=by
   rw[app,if_pos];have x:((l.take j.toNat).filter fun a=>dec (q a)).length<=(l.take j.toNat).length:=hZ _ _;rw[iw] at x;have y:iA c+1<=iA c0+iA l:=by rw[k,il];omega
   refine ik (ig b ?_) t;simpa using y
  refine⟨c++[a],by rw[(o j a c p).1 h,g],?_⟩;rw[r,io,k];simp[h];refine⟨c,(o j a c p).2 h,?_⟩;rw[r,io,k];simp[h])
 rw[i,u]
 simp
def forR_setOf{b:Nat}{n:Int}{d:Int->Li->Option Li}(q:Int->Prop)(p:0<=n)(r:n.toNat * b<=140737488355328)
  (g:∀j c,0<=j->j<n->(q j->d j c=app b c [j])/\(¬ q j->d j c=some c)):forR 0 n d []=some (Q5 q n):=by
 obtain⟨v,i,t⟩:=u9 (body:=d) (n:=n) (s:=[]) (fun j c=>c=Q5 q j) p (by simp[Q5,nums]) (fun j c k i l=>by
  have o:Q5 q (j+1)=Q5 q j++if dec (q j)=true then [j] else []:=by refine(aA0 q (j+1)).ext ?_ fun x=> ?_;refine ii.2 ⟨aA0 _ _,by split<;>simp,fun a u b g=> ?_⟩;have:=ah8.1 u;split at g;simp at g;omega;cases g;rw[gY,ah8,ah8];by_cases f:q j;rw[if_pos (i9 f)];simp only[ia];refine⟨fun h=> ?_,fun h=> ?_⟩;by_cases e:x=j;exact .inr e;exact .inl ⟨h.1,by omega,h.2.2⟩;rcases h with h|rfl;exact⟨h.1,by omega,h.2.2⟩;exact⟨k,by omega,f⟩;rw[if_neg (by simpa using f)];simp only[List.not_mem_nil,or_false];refine⟨fun h=>⟨h.1,?_,h.2.2⟩,fun h=>⟨h.1,by omega,h.2.2⟩⟩;rcases ij (ie h.2.1) with e|e;exact e;rw[e] at h;exact absurd h.2.2 f
  by_cases f:q j;refine⟨c++[j],?_,by rw[o,l,if_pos (i9 f)]⟩;rw[(g j c k i).1 f,app,if_pos];have w:iA c<=j.toNat:=by rw[l];exact(av1 q j).len
  refine ik (ig b ?_) r;simp;omega;refine⟨c,(g j c k i).2 f,?_⟩;rw[o,l,if_neg (by simpa using f),List.append_nil])
 rw[i,t]
def has_eq(l:Li)(n:Int):ag6 l n=some (dec (n ∈ l)):=by unfold ag6;rw[rng_list (l:=l) (fun a=>a ≠ n) true (fun j a h=>by unfold ref1_Has_l1;rw[h];by_cases e:a=n<;>simp[e])];by_cases h:n ∈ l;rw[if_neg (by simp only[m5];exact fun g=>g n h rfl)];simp[h];rw[if_pos (by simp only[m5];exact fun a ha e=>h (e ▸ ha))];simp[h]
theorem subset_eq(part l:Li):aA9 part l=some (dec (∀x ∈ part,x ∈ l)):=by
 unfold aA9
 rw[rng_list (l:=part) (fun a=>a ∈ l) false (fun j a h=>by
  unfold aB8
  rw[h]
  by_cases e:a ∈ l<;>simp[e,has_eq])]
 by_cases h:∀x ∈ part,x ∈ l
 ·rw[if_pos (i9 h),i9 h];rfl
 ·rw[if_neg (by rw[s9 h];simp),s9 h];rfl
theorem disjoint_eq(a b:Li):ak3 a b=some (dec (∀x ∈ a,x ∉ b)):=by
 unfold ak3
 rw[rng_list (l:=a) (fun x=>x ∉ b) false (fun j x h=>by
  unfold ay2
  rw[h]
  by_cases e:x ∈ b<;>simp[e,has_eq])]
 by_cases h:∀x ∈ a,x ∉ b
 ·rw[if_pos (i9 h),i9 h];rfl
 ·rw[if_neg (by rw[s9 h];simp),s9 h];rfl
def in_eq(n a hi:Int):ai3 n a hi=some (dec (a<=n/\n<=hi)):=by
 unfold ai3;rw[L8,L8,dec_and]
def at_eq(c i:Int):W5 c i=some ⟨c,i⟩:=rfl
def stepOk(l:Li)(n j:Int):Prop:=∀a,ix l j=some a->(0<=a/\a<n)/\∀b,0<j->ix l (j - 1)=some b->b<a
def au4{l:Li}{n:Int}:(∀j:Int,0<=j->j<iA l->stepOk l n j)↔SetN l n:=by constructor;intro h;refine⟨inc_of_adj fun k a b c d=> ?_,fun x f=> ?_⟩;have hk:=(lG.1 d).1;have:=(h ((k+1:Nat):Int) (by omega) (by omega) b (by rw[v8];exact d)).2 a (by omega);rw[show((k+1:Nat):Int) - 1=(k:Nat) by omega] at this;exact this (by rw[v8];exact c);obtain⟨i,c,d,g⟩:=p8 f;exact(h i c d x g).1;intro h j r c a e;refine⟨h.2 a (l8 e),fun b s o=> ?_⟩;obtain⟨_,_,p⟩:=n8 e;obtain⟨_,_,q⟩:=n8 o;exact h.1.get q p (by omega)
def ay5(l:Li)(n:Int):B4 l n=some (dec (SetN l n)):=by
 unfold B4;rcases I2 (body:=ag0 l n) (n:=(iA l:Int)) (fun j=>if dec (stepOk l n j)=true then none else some false) (by omega) (fun j p d _=>by obtain⟨a,c,_⟩:=j7 (l:=l) p d;unfold ag0;rw[c];simp only[oB];by_cases c1:a<0;rw[if_pos c1,if_neg];rfl;rw[m5];intro h;have:=(h a c).1;omega;rw[if_neg c1];by_cases s:n<=a;rw[if_pos s,if_neg];rfl;rw[m5];intro h;have:=(h a c).1;omega;rw[if_neg s];by_cases g:0<j;obtain⟨b,q,_⟩:=j7 (l:=l) (i:=j - 1) (by omega) (by omega);rw[if_pos g,q];simp only[oB];by_cases t:a<=b;rw[if_pos (by simpa using t),if_neg];rw[m5];intro h;have:=(h a c).2 b g q;omega;rw[if_neg (by simpa using t),if_pos];rw[m5];intro x e;rw[c] at e;cases e;exact⟨by omega,fun y _ k=>by rw[q] at k;cases k;omega⟩;rw[if_neg g];simp only[oB];rw[if_neg (by simp),if_pos];rw[m5];intro x e;rw[c] at e;cases e;exact⟨by omega,fun y k=>absurd k g⟩) with⟨d,f⟩|⟨j,o,p,d,f,_,u⟩;rw[d,i9];rfl;exact au4.1 fun j v w=>by have:=f j v w;simpa using this
 rw[u];split at f;cases f;rename_i z;cases f;rw[s9];rfl;exact fun h=>z (i9 (au4.2 h j p d))
def as7(l:Li){n:Int}(A: -9223372036854775808<n)(t:n<=9223372036854775807):J5 l n=some (dec (SetN l n)):=by
 unfold J5;rcases I2 (body:=at7 l n) (n:=(iA l:Int)) (fun j=>if dec (stepOk l n j)=true then none else some false) (by omega) (fun j p c _=>by obtain⟨a,d,_⟩:=j7 (l:=l) p c;unfold at7;rw[d];simp only[oB,in_eq,p9 (n:=n - 1) (by omega) (by omega),B9];by_cases c1:0<=a/\a<=n - 1;rw[if_neg (by simpa using c1)];by_cases g:0<j;obtain⟨b,q,_⟩:=j7 (l:=l) (i:=j - 1) (by omega) (by omega);rw[if_pos g,q];simp only[oB];by_cases s:a<=b;rw[if_pos (by simpa using s),if_neg];rw[m5];intro h;have:=(h a d).2 b g q;omega;rw[if_neg (by simpa using s),if_pos];rw[m5];intro x e;rw[d] at e;cases e;exact⟨by omega,fun y _ k=>by rw[q] at k;cases k;omega⟩;rw[if_neg g];simp only[oB];rw[if_neg (by simp),if_pos];rw[m5];intro x e;rw[d] at e;cases e;exact⟨by omega,fun y k=>absurd k g⟩;rw[if_pos (by simpa using c1),if_neg];rfl;rw[m5];intro h;have:=(h a d).1;omega) with⟨c,f⟩|⟨j,o,p,c,f,_,u⟩;rw[c,i9];rfl;exact au4.1 fun j v w=>by have:=f j v w;simpa using this
 rw[u];split at f;cases f;rename_i z;cases f;rw[s9];rfl;exact fun h=>z (i9 (au4.2 h j p c))
def containsLoop{s:Li}(z:Inc s)(A:iA s<=1000000)(x:Int){i:Int}(B:0<=i)(u:i<=iA s)(g:∀k a,0<=k->k<i->ix s k=some a->a<x):
  ∃d,Loop (P6 s x) i=some d/\i<=d/\d<=iA s/\(∀k a,0<=k->k<d->ix s k=some a->a<x)/\(∀a,ix s d=some a->x<=a):=by
 obtain⟨o,v,w⟩:=E8 (body:=P6 s x) (fun j=>i<=j/\j<=iA s/\∀k a,0<=k->k<j->ix s k=some a->a<x) (fun d=>i<=d/\d<=iA s/\(∀k a,0<=k->k<d->ix s k=some a->a<x)/\(∀a,ix s d=some a->x<=a)) (fun j=>(iA s - j).toNat) (s:=i) ⟨gW _,u,g⟩ (fun j ⟨r,t,h⟩=>by unfold P6;by_cases c:j<iA s;obtain⟨a,n,_⟩:=j7 (l:=s) (i:=j) (by omega) c;rw[if_pos c,n];simp only[oB,decide_eq_true_eq];by_cases p:a<x;rw[if_pos p];rw[p9 (by omega) (by omega)];refine .inl ⟨j+1,rfl,⟨by omega,by omega,fun k b y D f=> ?_⟩,by omega⟩;by_cases e:k=j;subst e;rw[n] at f;cases f;exact p;exact h k b y (by omega) f;rw[if_neg p];exact .inr ⟨j,rfl,r,t,h,fun b f=>by rw[n] at f;cases f;omega⟩;rw[if_neg c];exact .inr ⟨j,rfl,r,t,h,fun b f=>by have:=(n8 f).2.1;omega⟩)
 exact⟨o,v,w⟩
theorem aa0{s part:Li}(hs:Inc s)(hp:Inc part)(hl:iA s<=1000000):w9 s part=some (dec (∀x ∈ part,x ∈ s)):=by
 unfold w9
 rcases ah0 (body:=X6 s part) (n:=(iA part:Int)) (fun j i=>(0<=i/\i<=iA s/\∀k a,0<=k->k<i->ix s k=some a->∀m x,j<=m->ix part m=some x->a<x)/\∀m x,0<=m->m<j->ix part m=some x->x ∈ s) (fun o=>o=false/\¬ ∀x ∈ part,x ∈ s) (s:=0) (by omega) ⟨⟨by omega,by omega,fun k a h1 h2=>by omega⟩,fun m x h1 h2=>by omega⟩ (fun j i h0 h1 ⟨⟨g1,g2,g3⟩,g4⟩=>by
  obtain⟨x,hx,gx⟩:=j7 (l:=part) h0 h1
  unfold X6
  obtain⟨i',e1,e2,e3,e4,e5⟩:=containsLoop hs hl x g1 g2 (fun k a k0 k1 ha=>g3 k a k0 k1 ha j x (gW _) hx)
  rw[hx]
  simp only[oB,e1]
  have nin:(∀a,ix s i'=some a->x<a)->x ∉ s:=fun hgt hin=>by
   obtain⟨k,k0,k1,hk⟩:=p8 hin
   rcases hY k i' with c|c|c
   ·have:=e4 k x k0 c hk;omega
   ·subst c;have:=hgt x hk;omega
   ·obtain⟨b,hb,gb⟩:=j7 (l:=s) (i:=i') (by omega) (by omega)
    obtain⟨_,_,gk⟩:=n8 hk
    have:=hs.get gb gk (by omega)
    have:=e5 b hb
    omega
  by_cases c:i'=iA s
  ·rw[if_pos c]
   refine .inr ⟨false,rfl,rfl,fun h=> ?_⟩
   exact nin (fun a ha=>by have:=(n8 ha).2.1;omega) (h x (l8 hx))
  ·rw[if_neg c]
   obtain⟨b,hb,gb⟩:=j7 (l:=s) (i:=i') (by omega) (by omega)
   rw[hb]
   simp only[oB]
   have hxb:=e5 b hb
   by_cases c2:b=x
   ·subst c2
    rw[if_neg (by simp)]
    refine .inl ⟨i',rfl,⟨by omega,e3,fun k a k0 k1 ha m y hm hy=> ?_⟩,fun m y m0 m1 hy=> ?_⟩
    ·obtain⟨_,_,gy⟩:=n8 hy
     have:=hp.get gx gy (by omega)
     have:=e4 k a k0 k1 ha
     omega
    ·by_cases e:m=j
     ·subst e;rw[hx] at hy;cases hy;exact l8 hb
     ·exact g4 m y m0 (by omega) hy
   ·rw[if_pos (by simpa using c2)]
    refine .inr ⟨false,rfl,rfl,fun h=> ?_⟩
    exact nin (fun a ha=>by rw[hb] at ha;cases ha;omega) (h x (l8 hx))) with⟨s',h1,_,h2⟩|⟨o,h1,rfl,h2⟩
 ·rw[h1,i9]
  ·rfl
  ·intro x hx
   obtain⟨m,m0,m1,hm⟩:=p8 hx
   exact h2 m x m0 m1 hm
 ·rw[h1,s9 h2];rfl
def half_eq{i j:Int}(h0:0<=i)(h1:i<=j)(h2:j<=1000000):w64 (shrW .u64 ((IntKind.u64).wrap (w64 (i+j))) 1)=(i+j) / 2:=by
 rw[p9 (n:=i+j) (by omega) (by omega),IntKind.wrap_u64,Int.emod_eq_of_lt (by omega) (by omega)];have:shrW .u64 (i+j) 1=(i+j) / 2:=by simp only[shrW,IntKind.bits];rw[show min (1:Int).toNat 64=1 by rfl,Int.fdiv_eq_ediv_of_nonneg _ (by decide)];rfl
 rw[this];exact p9 (by omega) (by omega)
def less_eq(a b:Int):ah7 a b=some (decide (a<b)):=by simp[ah7,N2]
def bsearch_eq{xs:Li}(v:Inc xs)(L:iA xs<=500000)(t:Int):∃i,y9 xs t=some (i,dec (t ∈ xs))/\0<=i/\i<=iA xs/\(∀k a,0<=k->k<i->ix xs k=some a->a<t)/\(∀k a,i<=k->ix xs k=some a->t<=a):=by
 unfold y9;obtain⟨i,q,h,J,D,E⟩:=E8 (body:=F1 xs t) (fun p=>(0<=p.1/\p.1<=p.2/\p.2<=iA xs)/\(∀k a,0<=k->k<p.1->ix xs k=some a->a<t)/\(∀k a,p.2<=k->ix xs k=some a->t<=a))
  (fun i=>0<=i/\i<=iA xs/\(∀k a,0<=k->k<i->ix xs k=some a->a<t)/\(∀k a,i<=k->ix xs k=some a->t<=a)) (fun p=>(p.2 - p.1).toNat) (s:=(0,(iA xs:Int)))
  ⟨⟨by simp,by simp,by simp⟩,fun k a q h=>by simp at h;omega,fun k a q h=>by have:=(n8 h).2.1;simp at q;omega⟩ (fun⟨i,j⟩ ⟨⟨r,G,w⟩,x,y⟩=>by
  dsimp only at r G w x y ⊢
  unfold F1
  dsimp only
  by_cases c:i<j
  ·rw[if_pos c,half_eq r G (by omega)]
   obtain⟨a,f,z⟩:=j7 (l:=xs) (i:=(i+j) / 2) (by omega) (by omega)
   rw[f]
   simp only[oB,less_eq,decide_eq_true_eq]
   by_cases g:a<t
   ·rw[if_pos g,p9 (by omega) (by omega)]
    refine .inl ⟨_,rfl,⟨⟨by dsimp only;omega,by dsimp only;omega,w⟩,fun k b u H d=> ?_,y⟩,by dsimp only;omega⟩
    dsimp only at H
    obtain⟨_,_,n⟩:=n8 d
    by_cases e:k=(i+j) / 2
    ·subst e;rw[f] at d;cases d;exact g
    ·have:=v.get n z (by omega);omega
   ·rw[if_neg g]
    refine .inl ⟨_,rfl,⟨⟨r,by dsimp only;omega,by dsimp only;omega⟩,x,fun k b u d=> ?_⟩,by dsimp only;omega⟩
    dsimp only at u
    obtain⟨_,_,n⟩:=n8 d
    by_cases e:k=(i+j) / 2
    ·subst e;rw[f] at d;cases d;omega
    ·have:=v.get z n (by omega);omega
  ·rw[if_neg c]
   have:i=j:=by omega
   subst this
   exact .inr ⟨i,rfl,r,w,x,y⟩)
 rw[q];simp only[oB];refine⟨i,?_,h,J,D,E⟩;have o:(∀a,ix xs i=some a->a ≠ t)->t ∉ xs:=fun A B=>by obtain⟨k,u,H,hk⟩:=p8 B;rcases hY k i with c|c|c;have:=D k t u c hk;omega;subst c;exact A t hk rfl;obtain⟨b,d,n⟩:=j7 (l:=xs) (i:=i) (by omega) (by omega);obtain⟨_,_,K⟩:=n8 hk;have:=v.get n K (by omega);have:=E i b (gW _) d;omega
 by_cases c:i<iA xs;obtain⟨a,f,z⟩:=j7 (l:=xs) (i:=i) (by omega) c;rw[if_pos c,f];simp only[oB];by_cases g:a=t;subst g;rw[if_pos rfl,i9 (l8 f)];rfl;rw[if_neg g];simp only[U4,decide_true,Bool.not_true,ip,if_false,oB];rw[s9 (o fun b d=>by rw[f] at d;cases d;exact g)];rw[if_neg c];simp only[oB];rw[s9 (o fun b d=>by have:=(n8 d).2.1;omega)]
def bsearch2{xs:Li}(a:Inc xs)(b:iA xs<=500000)(t:Int):∃i,y9 xs t=some (i,dec (t ∈ xs)):=
 let ⟨i,h,_⟩:=bsearch_eq a b t
 ⟨i,h⟩
def containsFunc_eq{l:Li}{f:Int->Option Bool}(p:Int->Prop)(t:∀x ∈ l,f x=some (dec (p x))):w3 l f=some (dec (∃x ∈ l,p x)):=by unfold w3 G4;rcases I2 (body:=A9 l f) (n:=(iA l:Int)) (fun j=>if dec (∀a,ix l j=some a->¬ p a)=true then none else some j) (by omega) (fun j g d _=>by obtain⟨a,s,_⟩:=j7 (l:=l) g d;unfold A9;rw[s];simp only[oB,t a (l8 s)];by_cases c:p a;rw[if_pos (i9 c),if_neg (by rw[m5];exact fun h=>h a rfl c)];rw[if_neg (by rw[s9 c];simp),if_pos (i9 fun b k=>by cases k;exact c)]) with⟨d,e⟩|⟨j,o,g,d,e,_,u⟩;rw[d];simp only[oB];rw[s9];rfl;rintro ⟨x,v,hp⟩;obtain⟨i,q,w,y⟩:=p8 v;have:=e i q w;split at this;rename_i h;exact m5.1 h x y hp;cases this;rw[u];split at e;cases e;rename_i h;cases e;simp only[oB];rw[i9];simp[g];simp only[m5] at h;obtain⟨a,q,_⟩:=j7 (l:=l) g d;refine⟨a,l8 q,?_⟩;rcases Classical.em (p a) with c|c;exact c;exact absurd (fun b k=>by rw[q] at k;cases k;exact c) h
def meets_eq{a b:Li}(c:Inc b)(d:iA b<=500000):ac2 a b=some (dec (∃x ∈ a,x ∈ b)):=by unfold ac2;rw[containsFunc_eq (fun x=>x ∈ b) (fun x _=>by unfold ai1;obtain⟨i,h⟩:=bsearch2 c d x;rw[h];rfl)];rfl
/-! ### Sorted, and equal neighbours made one -/
def compact_spec{l:Li}(o:l.Pairwise (· <= ·)):Inc (ak9 l)/\∀x,x ∈ ak9 l↔x ∈ l:=by
 have key:∀m,m<=iA l->Inc (Go.Lib.compactUpTo l.toArray m)/\(∀x,x ∈ Go.Lib.compactUpTo l.toArray m↔x ∈ l.take m):=by
  intro m;induction m with
  |zero=>intro _;simp[Go.Lib.compactUpTo]
  |succ m r=>
   intro w
   obtain⟨j,g⟩:=r (by omega)
   have d:m<iA l:=by omega
   have k:l.toArray[m]! =l[m]:=by simp[d]
   have s:l.take (m+1)=l.take m++[l[m]]:=by rw[gZ];simp[d]
   rw[Go.Lib.compactUpTo_succ,s]
   by_cases hk:Go.Lib.keeps l.toArray m=true
   ·rw[if_pos hk,k]
    refine⟨ii.2 ⟨j,by simp,fun a t b p=> ?_⟩,fun x=>by rw[gY,gY,g]⟩
    simp only[ia] at p
    subst p
    have n:=(g a).1 t
    obtain⟨i,hi,rfl⟩:=List.mem_iff_getElem.1 n
    rw[iw] at hi
    rw[List.getElem_take]
    simp only[Go.Lib.keeps,decide_eq_true_eq] at hk
    rcases hk with hk|hk
    ·omega
    ·have f:l.toArray[m - 1]! =l[m - 1]:=by simp[show m - 1<iA l by omega]
     rw[k,f] at hk
     have y:l[m - 1]<=l[m]:=gX.1 o (m - 1) m (by omega) d (by omega)
     have z:l[i]<=l[m - 1]:=by
      rcases Nat.lt_or_ge i (m - 1) with c|c;exact gX.1 o i (m - 1) (by omega) (by omega) c;have:i=m - 1:=by omega
      subst this;exact gW _
     omega
   ·rw[if_neg hk,List.append_nil]
    refine⟨j,fun x=> ?_⟩
    rw[g,gY]
    refine⟨.inl,fun h=> ?_⟩
    rcases h with h|h
    ·exact h
    ·simp only[ia] at h
     subst h
     have u:m ≠ 0:=fun e=>hk (by simp[Go.Lib.keeps,e])
     have f:l.toArray[m - 1]! =l[m - 1]:=by simp[show m - 1<iA l by omega]
     have v:l[m]=l[m - 1]:=by simp only[Go.Lib.keeps,decide_eq_true_eq,not_or] at hk;have q:l.toArray[m]! =l.toArray[m - 1]! :=Classical.not_not.1 (fun h=>hk.2 h);rw[k,f] at q;exact q
     rw[v,List.mem_take_iff_getElem]
     exact⟨m - 1,by omega,rfl⟩
 obtain⟨j,g⟩:=key (iA l) (Nat.le_refl _);refine⟨?_,fun x=> ?_⟩;simpa[ak9,Go.Lib.compact] using j;have:=g x;rw[iy] at this;simpa[ak9,Go.Lib.compact] using this
def srt_spec(l:Li):(srt l).Pairwise (· <= ·)/\∀x,x ∈ srt l↔x ∈ l:=by refine⟨?_,fun x=>by simp[srt]⟩;have:=ic (le:=fun x y:Int=>decide (x<=y)) (fun a b c d e=>by simp at d e ⊢;omega) (fun a b=>by simp;omega) l;refine this.imp fun h=>by simpa using h
def sortL_eq{l:Li}(h:iA l<4611686018427387904):sortL l=some (srt l):=by rw[sortL_srt,if_pos h]
def update_inc{s add del:Li}(hd:Inc del)(hl:iA del<=500000)(h1:iA s<=500000)(h2:iA add<=500000):
  ∃r,R7 s add del=some r/\Inc r/\∀x,x ∈ r↔(x ∈ s/\x ∉ del)\/x ∈ add:=by
 unfold R7
 rw[forR_filter (l:=s) (b:=8) (fun a=>a ∉ del) (fun j a c h=>by obtain⟨i,hi⟩:=bsearch2 hd hl a;unfold am3;rw[h];simp only[oB,hi,B9];refine⟨fun hq=> ?_,fun hq=> ?_⟩;rw[if_pos (i9 hq)];cases app 8 c [a]<;>rfl;rw[if_neg (by simpa using hq)];rfl) [] (by simp;omega)]
 simp only[oB,List.nil_append]
 have hle:(s.filter fun a=>dec (a ∉ del)).length<=iA s:=hZ _ _
 rw[show app 8 (s.filter fun a=>dec (a ∉ del)) add=some ((s.filter fun a=>dec (a ∉ del))++add) by rw[app,if_pos];omega]
 simp only[oB]
 rw[sortL_eq (by rw[il];omega)]
 simp only[oB]
 obtain⟨e1,e2⟩:=srt_spec ((s.filter fun a=>dec (a ∉ del))++add)
 obtain⟨e3,e4⟩:=compact_spec e1
 refine⟨_,rfl,e3,fun x=> ?_⟩
 rw[e4,e2,gY,List.mem_filter,m5]
def update_eq{s add del:Li}{n:Int}(j:n<=1000)(d:Inc del)(e:iA del<=500000)(a:SetN s n)(b:SetN add n):
  R7 s add del=some (Q5 (fun x=>(x ∈ s/\x ∉ del)\/x ∈ add) n):=by
 have k:=a.len;have l:=b.len
 obtain⟨r,f,g,c⟩:=update_inc (s:=s) (add:=add) d e (by omega) (by omega)
 rw[f,SetN.eq_of (n:=n) ⟨g,fun x i=> ?_⟩ (fun x _ _=>c x)]
 rcases(c x).1 i with h|h
 ·exact a.2 x h.1
 ·exact b.2 x h
def ae7(o:w7)(n:Int):Prop:=SetN o.pre n/\SetN o.add n/\SetN o.del n/\∀x ∈ o.add,x ∉ o.del
def ap3(o:w7):Prop:=0<=o.cost/\o.cost<=100
noncomputable def ae1(o:w7)(n:Int):Int:=if dec (ae7 o n)=true then if dec (ap3 o)=true then 0 else 3 else 5
structure B6(t:n9):Prop where
 n0:0<=t.facts
 n1:t.facts<=24
 init:SetN t.init t.facts
 goal:SetN t.goal t.facts
 ops:iA t.operators<=40
 op:∀o ∈ t.operators,ae7 o t.facts/\ap3 o
def opCode_zero{o:w7}{n:Int}:ae1 o n=0↔ae7 o n/\ap3 o:=by unfold ae1;by_cases h:ae7 o n;rw[if_pos (i9 h)];by_cases g:ap3 o;rw[if_pos (i9 g)];simp[h,g];rw[if_neg (by rw[s9 g];simp)];simp[g];rw[if_neg (by rw[s9 h];simp)];simp[h]
def operator_eq{o:w7}{n:Int}(j:0<=n)(k:n<=24):X3 o n=some (ae1 o n):=by unfold X3 ae1;simp only[ay5,oB,B9];have bad:¬ ae7 o n->dec (ae7 o n)=true->False:=fun h g=>h (m5.1 g);by_cases c1:SetN o.pre n;rw[if_neg (by simpa using c1)];by_cases c:SetN o.add n;rw[if_neg (by simpa using c)];by_cases a:SetN o.del n;rw[if_neg (by simpa using a)];have l:=a.len;rw[meets_eq a.1 (by omega)];simp only[oB];by_cases d:∃x ∈ o.add,x ∈ o.del;rw[if_pos (i9 d),if_neg];rw[m5];obtain⟨x,e,f⟩:=d;exact fun h=>h.2.2.2 x e f;have i:ae7 o n:=⟨c1,c,a,fun x e f=>d ⟨x,e,f⟩⟩;rw[if_neg (by rw[s9 d];simp),if_pos (i9 i)];by_cases b:ap3 o;rw[if_pos (i9 b),if_neg];have:=b.1;have:=b.2;simp;omega;rw[if_neg (fun h=>b (m5.1 h)),if_pos];unfold ap3 at b;simp;omega;rw[if_pos (by simpa using a)];simp only[oB,if_true];rw[if_neg fun h=>a (m5.1 h).2.2.1];rw[if_pos (by simpa using c)];simp only[oB,if_true];rw[if_neg fun h=>c (m5.1 h).2.1];rw[if_pos (by simpa using c1)];simp only[oB,if_true];rw[if_neg fun h=>c1 (m5.1 h).1]
def validate_eq(t:n9):∃f,M4 t=some f/\aB9 t=some f/\((f=⟨0,0⟩/\B6 t)\/(f.code ≠ 0/\¬ B6 t)):=by
 unfold M4 aB9;simp only[in_eq,at_eq,oB,B9];by_cases c1:0<=t.facts/\t.facts<=24;rw[if_neg (by simp;omega),ifNN c1];simp only[ay5,as7 (n:=t.facts) _ (by omega) (by omega),oB,B9];by_cases k:SetN t.init t.facts;rw[ifNN k,ifNN k];by_cases q:SetN t.goal t.facts;rw[ifNN q,ifNN q];by_cases v:40<(iA t.operators:Int);rw[if_pos v,if_pos v];exact⟨_,rfl,rfl,.inr ⟨by simp,fun h=>by have:=h.ops;omega⟩⟩;rw[if_neg v,if_neg v];have z:∀j:Int,0<=j->j<iA t.operators->∃o,ix t.operators j=some o/\P5 t j ()=some (if ae1 o t.facts=0 then .inl () else .inr ⟨ae1 o t.facts,j⟩)/\T0 t j ()=some (if ae1 o t.facts=0 then .inl () else .inr ⟨ae1 o t.facts,j⟩):=fun j d c=>by
  obtain⟨o,r,_⟩:=j7 (l:=t.operators) d c;refine⟨o,r,?_,?_⟩;unfold P5;rw[r];simp only[oB,operator_eq c1.1 c1.2];by_cases e:ae1 o t.facts=0;rw[if_pos e,if_pos e];rw[if_neg e,if_neg e];unfold T0;rw[r];simp only[oB,as7 (n:=t.facts) _ (show -9223372036854775808<t.facts by omega) (show t.facts<=9223372036854775807 by omega),disjoint_eq,in_eq,at_eq,B9];have hp:(if dec (¬ SetN o.pre t.facts)=true then some true else if dec (¬ SetN o.add t.facts)=true then some true else if dec (¬ SetN o.del t.facts)=true then some true else some (dec (¬ ∀x ∈ o.add,x ∉ o.del)))=some (dec (¬ ae7 o t.facts)):=by unfold ae7;by_cases a:SetN o.pre t.facts;rw[if_neg (by simpa using a)];by_cases b:SetN o.add t.facts;rw[if_neg (by simpa using b)];by_cases w:SetN o.del t.facts;rw[if_neg (by simpa using w)];exact congrArg some (x7 ⟨fun h g=>h g.2.2.2,fun h g=>h ⟨a,b,w,g⟩⟩);rw[if_pos (by simpa using w),i9 (fun g=>w g.2.2.1)];rw[if_pos (by simpa using b),i9 (fun g=>b g.2.1)];rw[if_pos (by simpa using a),i9 (fun g=>a g.1)]
  rw[hp];simp only[oB];unfold ae1;by_cases a:ae7 o t.facts;rw[if_neg (by simpa using a),if_pos (i9 a)];by_cases b:ap3 o;rw[ifP b,ifNN (p:=0<=o.cost/\o.cost<=100) b];rfl;rw[ifN b,ifP (p:=¬ (0<=o.cost/\o.cost<=100)) b];rfl;rw[if_pos (i9 a),if_neg (fun h=>a (m5.1 h))];rfl
 have u:rngX 0 (iA t.operators:Int) (P5 t) ()=rngX 0 (iA t.operators:Int) (T0 t) ():=
  (rngX_eq (fun _ _=>True) (by omega) trivial (fun j s d c _=>by obtain⟨o,_,B,A⟩:=z j d c;exact⟨by rw[B,A],by rw[B];simp,fun _ _=>Y⟩)).1
 rcases I2 (body:=T0 t) (n:=(iA t.operators:Int)) (fun j=>match ix t.operators j with|some o=>if ae1 o t.facts=0 then none else some (⟨ae1 o t.facts,j⟩:m7)|none=>none) (by omega) (fun j d c _=>by obtain⟨o,y,_,A⟩:=z j d c;rw[A,y];dsimp only;split<;>rfl) with⟨c,i⟩|⟨j,f,d,c,i,_,E⟩
 rw[u,c];refine⟨⟨0,0⟩,rfl,rfl,.inl ⟨rfl,c1.1,c1.2,k,q,by omega,fun o r=> ?_⟩⟩;obtain⟨j,F,a,b⟩:=p8 r;have:=i j F a;rw[b] at this;dsimp only at this;split at this;rename_i e;exact opCode_zero.1 e;cases this;rw[u,E];obtain⟨o,y,_,_⟩:=z j d c;rw[y] at i;dsimp only at i;split at i;cases i;rename_i e;cases i;exact⟨_,rfl,rfl,.inr ⟨e,fun h=>e (opCode_zero.2 (h.op o (l8 y)))⟩⟩;rw[ifP q,ifP q];exact⟨_,rfl,rfl,.inr ⟨by simp,fun h=>q h.goal⟩⟩;rw[ifP k,ifP k];exact⟨_,rfl,rfl,.inr ⟨by simp,fun h=>k h.init⟩⟩;rw[if_pos (by simp;omega),if_pos (i9 c1)];exact⟨_,rfl,rfl,.inr ⟨by simp,fun h=>c1 ⟨h.n0,h.n1⟩⟩⟩
def fault_no{f:m7}(h:f.code ≠ 0):(!((decide (f.code=0)) && (decide (f.index=0))))=true:=by simp[h]
/-! ### What operators and plans do -/
def noOp:w7:=⟨[],[],[],0⟩
def opAt(t:n9)(op:Int):w7:=(t.operators[op.toNat]?).getD noOp
def ix_op{t:n9}{op:Int}(b:0<=op)(c:op<iA t.operators):ix t.operators op=some (opAt t op):=by obtain⟨a,d,e⟩:=j7 b c;rw[d,opAt,e];rfl
def B6.at{t:n9}(h:B6 t){op:Int}(a:0<=op)(b:op<iA t.operators):ae7 (opAt t op) t.facts/\ap3 (opAt t op):=h.op _ (l8 (ix_op a b))
def can(t:n9)(s:Li)(op:Int):Prop:=∀x ∈ (opAt t op).pre,x ∈ s
noncomputable def aft(t:n9)(s:Li)(op:Int):Li:=Q5 (fun x=>x ∈ (opAt t op).add\/x ∈ s/\x ∉ (opAt t op).del) t.facts
def setN_aft(t:n9)(s:Li)(op:Int):SetN (aft t s op) t.facts:=av1 _ _
noncomputable def ends(t:n9):Li->Li->Option Li
 |s,[]=>some s
 |s,op::r=>if dec (can t s op)=true then ends t (aft t s op) r else none
def ah9(t:n9)(s a:Li):Prop:=∃e,ends t s a=some e/\∀x ∈ t.goal,x ∈ e
def ad5{s:Li}(h:iA s<=1000000):u4 s=some s:=by
 rw[u4,app,if_pos (by simp;omega)];rfl
def subL_drop{a:Type}{l:List a}{i:Int}(b:0<=i)(c:i<=iA l):subL l i (iA l:Int)=some (l.drop i.toNat):=by rw[subL,if_pos (by omega)];rw[show((iA l:Int)).toNat=iA l by omega,iy]
def subL_take{a:Type}{l:List a}{i:Int}(b:0<=i)(c:i<=iA l):subL l 0 i=some (l.take i.toNat):=by
 rw[subL,if_pos (by omega)];rfl
def llt:Li->Li->Prop
 |[],[]=>False
 |[],_::_=>True
 |_::_,[]=>False
 |a::l,b::m=>a<b\/a=b/\llt l m
def O5:∀l:Li,¬ llt l l
 |[]=>id
 |a::l=>fun h=>by rcases h with h|⟨_,h⟩;omega;exact O5 l h
def N1:∀{a b c:Li},llt a b->llt b c->llt a c
 |[],[],_,h,_=>h.elim
 |[],_::_,[],_,h=>h.elim
 |[],_::_,_::_,_,_=>trivial
 |_::_,[],_,h,_=>h.elim
 |_::_,_::_,[],_,h=>h.elim
 |x::a,y::b,z::c,h,g=>by rcases h with h|⟨rfl,h⟩<;>rcases g with g|⟨rfl,g⟩;exact .inl (by omega);exact .inl h;exact .inl g;exact .inr ⟨rfl,N1 h g⟩
def T7:∀a b:Li,llt a b\/a=b\/llt b a
 |[],[]=>.inr (.inl rfl)
 |[],_::_=>.inl trivial
 |_::_,[]=>.inr (.inr trivial)
 |x::a,y::b=>by rcases hY x y with h|rfl|h;exact .inl (.inl h);rcases T7 a b with h|rfl|h;exact .inl (.inr ⟨rfl,h⟩);exact .inr (.inl rfl);exact .inr (.inr (.inr ⟨rfl,h⟩));exact .inr (.inr (.inl h))
def az9{a b:Li}(h:llt a b)(g:llt b a):False:=O5 a (N1 h g)
noncomputable def cmpL(a b:Li):Int:=if dec (llt a b)=true then -1 else if dec (a=b)=true then 0 else 1
def U0{a b:Li}:cmpL a b<0↔llt a b:=by unfold cmpL;by_cases h:llt a b;rw[ifP h];simp[h];rw[ifN h];split<;>simp[h]
def cmpL_eq{a b:Li}:cmpL a b=0↔a=b:=by unfold cmpL;by_cases h:llt a b;rw[ifP h];constructor;intro e;omega;rintro rfl;exact absurd h (O5 _);rw[ifN h];by_cases g:a=b;rw[ifP g];simp[g];rw[ifN g];simp[g]
def cmpInt_eq(x y:Int):Y0 x y=some (if x<y then -1 else if y<x then 1 else 0):=by unfold Y0 N2;simp only[decide_true,Bool.not_true,oB,ip,if_false];split;rfl;split<;>rfl
def aE5:∀{a b:Li} (k:Nat),k<=iA a->k<=iA b->a.take k=b.take k->(llt a b↔llt (a.drop k) (b.drop k))
 |_,_,0,_,_,_=>by simp
 |[],_,k+1,h,_,_=>by simp at h
 |_::_,[],k+1,_,h,_=>by simp at h
 |x::a,y::b,k+1,d,e,c=>by simp only[List.take_succ_cons,List.cons.injEq] at c;obtain⟨rfl,c⟩:=c;simp only[List.drop_succ_cons];rw[<- aE5 k (by simpa using d) (by simpa using e) c];simp[llt]
def au6(a b:Li):slices_Compare_int_int a b=some (cmpL a b):=by
 unfold slices_Compare_int_int;rcases ah0 (body:=K2 a b) (n:=(iA a:Int)) (s:=()) (fun j _=>j<=iA b/\a.take j.toNat=b.take j.toNat) (fun o=>o=cmpL a b) (by omega) ⟨by omega,by simp⟩ (fun j _ w F ⟨H,z⟩=>by
  obtain⟨x,A,B⟩:=j7 (l:=a) w F;have k:=(lG.1 B).2;unfold K2;rw[A];simp only[oB];have d:=aE5 (a:=a) (b:=b) j.toNat (by omega) (by omega) z;have f:a.drop j.toNat=x::a.drop (j.toNat+1):=by rw[<- k];exact ib (by omega)
  by_cases c:(iA b:Int)<=j;rw[if_pos c];refine .inr ⟨_,rfl,?_⟩;have p:b.drop j.toNat=[]:=List.drop_of_length_le (by omega);rw[f,p] at d;unfold cmpL;rw[ifN (fun h=>(d.1 h).elim),ifN];rintro rfl;omega;rw[if_neg c];obtain⟨y,q,D⟩:=j7 (l:=b) (i:=j) w (by omega);have r:=(lG.1 D).2;have p:b.drop j.toNat=y::b.drop (j.toNat+1):=by rw[<- r];exact ib (by omega)
  rw[q];simp only[oB,cmpInt_eq];rw[f,p] at d;have t:x ≠ y->a ≠ b:=fun h e=>by subst e;rw[A] at q;cases q;exact h rfl
  rcases hY x y with h|rfl|h;rw[if_pos h,if_neg (by decide)];refine .inr ⟨_,rfl,?_⟩;unfold cmpL;rw[ifP (d.2 (.inl h))];simp only[Int.lt_irrefl,if_false,if_true];refine .inl ⟨(),Y,by omega,?_⟩;rw[show(j+1).toNat=j.toNat+1 by omega,gZ,gZ,B,D,z];rw[if_neg (show ¬ x<y by omega),if_pos h,if_neg (by decide)];refine .inr ⟨_,rfl,?_⟩;unfold cmpL;rw[ifN,ifN (t (by omega))];intro g;rcases d.1 g with g|⟨g,_⟩<;>omega) with⟨_,u,J,E⟩|⟨o,u,rfl⟩
 rw[u];simp only[oB];have d:=aE5 (a:=a) (b:=b) (iA a) (Nat.le_refl _) (by omega) (by simpa using E);have f:a.drop (iA a)=[]:=by simp
 rw[f] at d;have G:a=b.take (iA a):=by simpa using E
 by_cases c:(iA a:Int)<iA b;rw[if_pos c];have:b.drop (iA a) ≠ []:=by simp;omega
 unfold cmpL;rw[ifP];rw[d];cases h:b.drop (iA a) with
 |nil=>exact absurd h this
 |cons x l=>trivial
 rw[if_neg c];have:a=b:=by rw[G,List.take_of_length_le (by omega)]
 rw[cmpL_eq.2 this];rw[u];rfl
def cmp_ok:CmpOk slices_Compare_int_int cmpL:=by refine⟨au6,⟨fun x=> ?_,fun x y z h1 h2=> ?_,fun x y z h1 h2=> ?_⟩,fun a b h1 h2=> ?_⟩;simp only[Go.Proofs.ltOf,decide_eq_false_iff_not,U0];exact O5 x;simp only[Go.Proofs.ltOf,decide_eq_true_eq,U0] at h1 h2 ⊢;exact N1 h1 h2;simp only[Go.Proofs.ltOf,decide_eq_false_iff_not,U0] at h1 h2 ⊢;intro h;rcases T7 x y with g|rfl|g;exact h1 g;exact h2 h;exact h2 (N1 g h);rw[U0] at h1 h2;rcases T7 a b with g|g|g;exact absurd g h1;exact g;exact absurd g h2
def lltB_iff:∀{a b:Li},lltB a b=true↔llt a b
 |[],[]=>by simp[lltB,llt]
 |[],_::_=>by simp[lltB,llt]
 |_::_,[]=>by simp[lltB,llt]
 |x::l,y::m=>by simp only[lltB,llt];by_cases h:x<y;simp[h];by_cases e:x=y;simp[h,e,lltB_iff];simp[h,e]
def am6{a b:Li}:lltB a b=false↔¬ llt a b:=by rw[<- lltB_iff];simp
def sortLL_ms{l:LL}(h:iA l<4611686018427387904):sortLL l=some (l.mergeSort fun x y=>decide (¬ cmpL y x<0)):=by
 have tr:∀a b c:Li,lltB b a=false->lltB c b=false->lltB c a=false:=fun a b c h1 h2=>by rw[am6] at h1 h2 ⊢;intro h;rcases T7 b a with g|g|g;exact h1 g;subst g;exact h2 h;exact h2 (N1 h g)
 rw[sortLL,if_pos h,srtB_eq (m:=l.mergeSort fun x y=>decide (¬ cmpL y x<0)) tr (fun a b h=>am6.2 fun g=>az9 (lltB_iff.1 h) g) (fun a b h1 h2=>by rcases T7 a b with g|g|g;exact absurd g (am6.1 h1);exact g;exact absurd g (am6.1 h2)) (List.mergeSort_perm ..)];have:=ic (le:=fun x y:Li=>decide (¬ cmpL y x<0)) (fun a b c h1 h2=>by
  simp only[decide_eq_true_eq,U0] at h1 h2 ⊢;exact am6.1 (tr a b c (am6.2 h1) (am6.2 h2))) (fun a b=>by
  simp only[Bool.or_eq_true,decide_eq_true_eq,U0];by_cases h:llt b a;exact .inr fun g=>az9 h g;exact .inl h) l
 exact this.imp fun h=>by simpa[U0,am6] using h
def sortLL_fl{l a:LL}(h:sortLL l=some a):ap1 slices_Compare_int_int l=some a:=by
 have b:iA l<4611686018427387904:=by unfold sortLL at h;split at h;assumption;cases h
 rw[sortFL_eq b cmp_ok,<- sortLL_ms b,h]
end Ab
