/-
  Texts that the proof stands on.
-/
import Derived.Test.YtnjdfghkeijgnaaGreatDoorKRwChWo5
set_option linter.all false
open List renaming getElem?_eq_getElem->iI,mem_cons_of_mem->iK,length_append->iO,mem_append->iP,length_cons->iQ,mem_singleton->iU,replicate->iZ,mem_map->jd,take_add_one->je,mem_cons->jf,getElem?_append_left->jh,getElem_mem->ji,getElem?_set->jj,drop_eq_getElem_cons->jk,cons_append->jl,pairwise_cons->jm,drop_of_length_le->jn,flatMap_nil->jp,getElem_of_mem->jr,pairwise_iff_getElem->jt,nil_append->jv,getElem?_replicate->jx,flatMap_cons->jy,mem_flatMap->jz,take_length->jA,getElem?_eq_none->jB,take_append_drop->jC,length_singleton->jD,pairwise_append->jG,append_nil->jH,mem_cons_self->jL,append_assoc->jN,mem_take_iff_getElem->jO,length_take->jT,length_pos_of_mem->jY,mem_of_mem_take->ka,getElem?_of_mem->kd,mem_append_left->ke,Pairwise->kf,flatMap_append->kg,take_sublist->kn,drop_sublist->ko,filter_cons->kr,length->kw
open Nat renaming le_refl->iJ,two_pow_pos->jF,lt_or_gt_of_ne->jK,zero_le->jX,pow_le_pow_right->jZ,mul_le_mul_right->kc,gcd->ku
open Int renaming toNat_natCast->iL,mul_comm->iM,le_refl->iR,eq_ofNat_of_zero_le->iS,mul_le_mul_of_nonneg_right->iT,le_trans->iY,eq_of_mul_eq_mul_left->jb,mul_nonneg->jg,mul_le_mul_of_nonneg_left->jo,sub_eq_add_neg->jw,mul_zero->jE,mul_le_mul->jI,neg_mul->jJ,lt_trichotomy->jM,add_zero->jR,mul_neg->jV,one_mul->jW,pow_succ->kh,zero_add->ki,emod_eq_of_lt->kl,mul_pos->kq
open Option renaming bind->iN,isSome->jq,bind_some->jS,map_some->jU
open Bool renaming false_and->iV,false_or->iW,true_and->iX,true_or->jc,or_eq_true->ju,false_eq_true->kj
open Classical renaming byContradiction->js,not_not->km,not_imp->kp
namespace Ab
open Go
variable{a:b8}{x y:Int}{b r:Li}{c:List b9}{d:Li×(List b9)}{f:List (Int×Int)}{g p:Nat->Int}{n k l:Nat}{A B:Type}{q:LL}{s:List f9}{t:List (ByteArray×Int)}{v:Li->Int}{H:Nat->LL}{L:Nat->Li}{M:A}{P:List A}{Q V:A->Prop}{X:A->List A}
section
open Go.Proofs
open Tryz
set_option maxHeartbeats 4000000
attribute [local irreducible] AWP AOps thn inB Done f5 w8 Sub
def aF6{r:n9×(List (Int×Int))×m7}(h:D7 a=some r):f5 prog 19 [.agg (tO a)] (.tup [.agg (tT r.1),.c (row 2 ao6 r.2.1),.agg [int r.2.2.code,int r.2.2.index]]):=by
 unfold f5;refine FnOk.enter (rs:=[.cell 2 55 4,.t 3,.cell 4 30 2]) func19 Z ntmps19 results19 Z ⟨rv _ Z,Y,rv _ Z,Y⟩ (by kernel_rfl) Z ?_;refine AWP.gk 4 Z (.j (.j (bB h fun e V h=>.G 1 Z (.E Z Z Z Z (aw5 V) Z (.G 2 Z (.nil (b5 (.gs 2 Z (.neqP Z Z Z Z Z Z Z (.ne (.O Z h (fun av h=> ?_) (fun av h=> ?_))))))))))));refine AWP.j (.drawEI [2,4] mixed Z Z Z (b7.D 2 Z Z ?_));apply b7.consE (v:=.undef);exact Z;exact Z;intro E;refine W.storeAgg Z Z Z Z Z Z Z .N;exact Z;exact Z;refine b7.D 1 Z Z ?_;apply b7.consE (v:=.undef);exact Z;exact Z;intro E;refine W.storeAgg Z Z Z Z Z Z Z .N;exact Z;exact Z;refine b7.done Z ?_ ?_;refine d9.D 5 Z Z (d9.nil);dsimp only[j6];refine b5 (.nilB (b:=1) [int 0,row 1 intI [],row 1 intI [],row 4 D8 []] Z (by exact⟨.inl Z,.inr ⟨Z,_,Z⟩,.inr ⟨Z,_,Z⟩,.inr ⟨Z,_,Z⟩,Y⟩) Z Z (.nilrow 2 3 Z (.ret (e9 ?_))));obtain rfl:=oi h;exact Done.ret Z Z;refine AWP.skip (b5 (.j (bC h fun g F i H h=>.sub (s':=⟨[(0,.agg (tO a)),(1,(cP 0 0 0)),(2,(cP 1 0 0)),(3,.c (.imm (.val nL))),(4,(cP 2 0 0)),(5,(cP 3 0 0)),(12,.agg (tO a)),(13,.agg [int e.code,int e.index]),(14,.agg [int e.code,int e.index]),(15,.agg [int 0,int 0]),(16,(cB (!((decide (e.code=0)) && (decide (e.index=0))))))],[(oE 4 (tO a)),(oE 4 [int 0,.imm (.val nL),.imm (.val nL),.imm (.val nL)]),(oE 2 [int 0,int 0]),(oE 2 [int e.code,int e.index]),.dead,.dead,.dead]⟩) (Sub.cut ⟨Z,Z,Z,Z,Z,Z,Z,Z,Z,Z,Z,Y⟩ Z ⟨.one Z,.one Z,.one Z,.one Z,.dead,.dead,.dead,Y⟩ Z) (.drawTI [(cP 0 0 0),(cI a.facts),(cP 0 0 1),(cR a.init),.c (.own 4 0 (kw g)),(cP 0 0 2),(cR a.goal),.c (.own 5 0 (kw i)),.agg [int a.facts,.own 4 0 (kw g),.own 5 0 (kw i),.imm (.val nL)],(cP 6 0 0),.undef] [4,7,9,10] [([],[(oE 4 (tO a)),(oE 4 [int 0,.imm (.val nL),.imm (.val nL),.imm (.val nL)]),(oE 2 [int 0,int 0]),(oE 2 [int e.code,int e.index]),.dead,.dead,.dead]),([4],[(oE 4 (tO a)),(oE 4 [int 0,.imm (.val nL),.imm (.val nL),.imm (.val nL)]),(oE 2 [int 0,int 0]),(oE 2 [int e.code,int e.index]),(oV 1 intI g),.dead,.dead]),([4,7],[(oE 4 (tO a)),(oE 4 [int 0,.imm (.val nL),.imm (.val nL),.imm (.val nL)]),(oE 2 [int 0,int 0]),(oE 2 [int e.code,int e.index]),(oV 1 intI g),(oV 1 intI i),.dead]),([9],[(oE 4 (tO a)),(oE 4 [int 0,.imm (.val nL),.imm (.val nL),.imm (.val nL)]),(oE 2 [int 0,int 0]),(oE 2 [int e.code,int e.index]),.dead,.dead,(oE 4 [int 0,.imm (.val nL),.imm (.val nL),.imm (.val nL)])]),([4,9],[(oE 4 (tO a)),(oE 4 [int 0,.imm (.val nL),.imm (.val nL),.imm (.val nL)]),(oE 2 [int 0,int 0]),(oE 2 [int e.code,int e.index]),(oV 1 intI g),.dead,(oE 4 [int 0,.imm (.val nL),.imm (.val nL),.imm (.val nL)])]),([4,7,9],[(oE 4 (tO a)),(oE 4 [int 0,.imm (.val nL),.imm (.val nL),.imm (.val nL)]),(oE 2 [int 0,int 0]),(oE 2 [int e.code,int e.index]),(oV 1 intI g),(oV 1 intI i),(oE 4 [int 0,.imm (.val nL),.imm (.val nL),.imm (.val nL)])]),([4,7,9,10],[(oE 4 (tO a)),(oE 4 [int 0,.imm (.val nL),.imm (.val nL),.imm (.val nL)]),(oE 2 [int 0,int 0]),(oE 2 [int e.code,int e.index]),(oV 1 intI g),(oV 1 intI i),(oE 4 [int a.facts,.own 4 0 (kw g),.own 5 0 (kw i),.imm (.val nL)])])] [(oE 4 (tO a)),(oE 4 [int 0,.imm (.val nL),.imm (.val nL),.imm (.val nL)]),(oE 2 [int 0,int 0]),(oE 2 [int e.code,int e.index]),(oV 1 intI g),(oV 1 intI i),(oE 4 [int a.facts,.own 4 0 (kw g),.own 5 0 (kw i),.imm (.val nL)])] mixed Z Z Z Z Z ?_ ?_))));refine T5.cons ?_ ?_;refine h9.go Z Z Z (fun E k=>W.fieldAddr Z Z Z Z .N) (h9.go Z Z Z (fun E k=>.load Z Z Z Z Z Z .N) (h9.go Z Z Z (fun E k=>W.fieldAddr Z Z Z Z .N) (h9.go Z Z Z (fun E k=>.load Z Z Z Z Z Z .N) ?_)));apply h9.eff;exact Z;exact Z;exact Z;exact Z;intro E k;(refine AOps.newAt 4 (.c (.own 4 0 (kw g))) (vec 1 intI g) (.inl Z) Z k Z Z Z Z (.vec) (.vec) Z Z Z ⟨.one Z,.one Z,.one Z,.one Z,.dead,.dead,.dead,Y⟩ (fun P=>by(refine S.fresh Z Z Z Z (o7 F) Z Z ?_;exact P)) ?_);exact AOps.nil ⟨Z,Z⟩;refine h9.go Z Z Z (fun E k=>W.fieldAddr Z Z Z Z .N) (h9.go Z Z Z (fun E k=>.load Z Z Z Z Z Z .N) (h9.no Z (h9.no Z ?_)));apply h9.eff;exact Z;exact Z;exact Z;exact Z;intro E k;(refine AOps.allocAt 6 k Z Z Z Z Z Z Z ⟨.one Z,.one Z,.one Z,.one Z,.dead,.dead,.dead,Y⟩ Z ?_);exact AOps.nil ⟨Z,Z⟩;refine h9.no Z (h9.nil);refine T5.cons ?_ ?_;refine h9.go Z Z Z (fun E k=>W.fieldAddr Z Z Z Z .N) (h9.go Z Z Z (fun E k=>.load Z Z Z Z Z Z .N) (h9.no Z (h9.no Z (h9.no Z (h9.go Z Z Z (fun E k=>W.fieldAddr Z Z Z Z .N) (h9.go Z Z Z (fun E k=>.load Z Z Z Z Z Z .N) ?_))))));apply h9.eff;exact Z;exact Z;exact Z;exact Z;intro E k;(refine AOps.newAt 5 (.c (.own 5 0 (kw i))) (vec 1 intI i) (.inl Z) Z k Z Z Z Z (.vec) (.vec) Z Z Z ⟨.one Z,.one Z,.one Z,.one Z,.vec,.dead,.dead,Y⟩ (fun P=>by(refine S.fresh Z Z Z Z (o7 H) Z Z ?_;exact P)) ?_);exact AOps.nil ⟨Z,Z⟩;refine h9.no Z ?_;apply h9.eff;exact Z;exact Z;exact Z;exact Z;intro E k;(refine AOps.allocAt 6 k Z Z Z Z Z Z Z ⟨.one Z,.one Z,.one Z,.one Z,.vec,.dead,.dead,Y⟩ Z ?_);exact AOps.nil ⟨Z,Z⟩;refine h9.no Z (h9.nil);refine T5.cons ?_ ?_;refine h9.go Z Z Z (fun E k=>W.fieldAddr Z Z Z Z .N) (h9.go Z Z Z (fun E k=>.load Z Z Z Z Z Z .N) (h9.no Z (h9.no Z (h9.no Z (h9.no Z (h9.no Z (h9.no Z (h9.go Z Z Z (fun E k=>W.build Z Z Z Z .N) ?_))))))));apply h9.eff;exact Z;exact Z;exact Z;exact Z;intro E k;(refine AOps.allocAt 6 k Z Z Z Z Z Z Z ⟨.one Z,.one Z,.one Z,.one Z,.vec,.vec,.dead,Y⟩ Z ?_);exact AOps.nil ⟨Z,Z⟩;refine h9.no Z (h9.nil);refine T5.cons ?_ ?_;refine h9.go Z Z Z (fun E k=>W.fieldAddr Z Z Z Z .N) (h9.go Z Z Z (fun E k=>.load Z Z Z Z Z Z .N) (h9.go Z Z Z (fun E k=>W.fieldAddr Z Z Z Z .N) (h9.go Z Z Z (fun E k=>.load Z Z Z Z Z Z .N) ?_)));apply h9.eff;exact Z;exact Z;exact Z;exact Z;intro E k;(refine AOps.newAt 4 (.c (.own 4 0 (kw g))) (vec 1 intI g) (.inl Z) Z k Z Z Z Z (.vec) (.vec) Z Z Z ⟨.one Z,.one Z,.one Z,.one Z,.dead,.dead,.one Z,Y⟩ (fun P=>by(refine S.fresh Z Z Z Z (o7 F) Z Z ?_;exact P)) ?_);exact AOps.nil ⟨Z,Z⟩;exact h9.go Z Z Z (fun E k=>W.fieldAddr Z Z Z Z .N) (h9.go Z Z Z (fun E k=>.load Z Z Z Z Z Z .N) (h9.no Z (h9.no Z (h9.no Z (h9.no Z (h9.nil))))));refine T5.cons ?_ ?_;refine h9.go Z Z Z (fun E k=>W.fieldAddr Z Z Z Z .N) (h9.go Z Z Z (fun E k=>.load Z Z Z Z Z Z .N) (h9.no Z (h9.no Z (h9.no Z (h9.go Z Z Z (fun E k=>W.fieldAddr Z Z Z Z .N) (h9.go Z Z Z (fun E k=>.load Z Z Z Z Z Z .N) ?_))))));apply h9.eff;exact Z;exact Z;exact Z;exact Z;intro E k;(refine AOps.newAt 5 (.c (.own 5 0 (kw i))) (vec 1 intI i) (.inl Z) Z k Z Z Z Z (.vec) (.vec) Z Z Z ⟨.one Z,.one Z,.one Z,.one Z,.vec,.dead,.one Z,Y⟩ (fun P=>by(refine S.fresh Z Z Z Z (o7 H) Z Z ?_;exact P)) ?_);exact AOps.nil ⟨Z,Z⟩;refine h9.no Z (h9.no Z (h9.no Z (h9.nil)));refine T5.cons ?_ ?_;refine h9.go Z Z Z (fun E k=>W.fieldAddr Z Z Z Z .N) (h9.go Z Z Z (fun E k=>.load Z Z Z Z Z Z .N) (h9.no Z (h9.no Z (h9.no Z (h9.no Z (h9.no Z (h9.no Z (h9.go Z Z Z (fun E k=>W.build Z Z Z Z .N) (h9.no Z ?_)))))))));apply h9.eff;exact Z;exact Z;exact Z;exact Z;intro E k;(refine W.storeAgg Z Z Z Z Z Z Z ?_);exact AOps.nil ⟨Z,Z⟩;exact h9.nil;refine T5.cons ?_ ?_;refine h9.no Z (h9.no Z (h9.no Z (h9.no Z (h9.no Z (h9.no Z (h9.no Z (h9.no Z (h9.no Z (h9.no Z (h9.no Z (h9.nil)))))))))));exact T5.nil;dsimp only[j6];refine b5 (.gk 1 Z (.j (.gs 2 Z (S.len Z Z (fun a8=>.ge 1 Z (.u (.virtV 2 ao6 7 Z Z Z (.virtB 4 D8 (b:=6) (o:=3) Z Z Z Z Z Z ?_))))))));obtain⟨⟨c3,c4⟩,ay,h⟩:=bind_some h;refine AWP.forH ay (fun t5 (c3,c4)=>⟨[(2,(cP 1 0 0)),(4,(cP 2 0 0)),(6,(cP 6 0 0)),(7,.c (.own 7 0 (kw c3))),(29,.c (row 3 e7 a.operators)),(30,(cI (kw a.operators:Int))),(31,(cI t5))],[.dead,(oE 4 [int 0,.imm (.val nL),.imm (.val nL),.imm (.val nL)]),(oE 2 [int 0,int 0]),.dead,(oV 1 intI g),(oV 1 intI i),(oE 4 [int a.facts,.own 4 0 (kw g),.own 5 0 (kw i),.own 8 0 (kw c4)]),(oV 2 ao6 c3),(oV 4 D8 c4)]⟩) (fun _ _=>Z) ?_ ?_ ?_;exact Sub.ctE ⟨Z,Z,Z,(E3 (by first|rfl|simp only[lS])),Z,Z,Z,Y⟩ Z (.d (.o Z (.o Z (.d (.v (.v (.q Z (by first|rfl|(simp only[lS];done)) (.v (.v .n)))))))))
 intro t5 s o a0 a1 h;obtain⟨c3,c4⟩:=s;refine AWP.j (.u (.j (bB h fun p X h=>.G 1 Z (S.idx X Z Z Z Z (.G 4 Z (.nil (b5 (.gs 2 Z (S.len Z Z (fun a9=>.ge 1 Z (.u ?_)))))))))));obtain⟨⟨Q,c7⟩,a2,h⟩:=bind_some h;refine AWP.forH a2 (fun t8 (Q,c7)=>⟨[(2,(cP 1 0 0)),(4,(cP 2 0 0)),(6,(cP 6 0 0)),(7,.c (.own 7 0 (kw Q))),(8,(cI t5)),(9,(cP 9 0 0)),(29,.c (row 3 e7 a.operators)),(30,(cI (kw a.operators:Int))),(31,(cI t5)),(37,.c (row 3 A0 p.outcomes)),(38,(cI (kw p.outcomes:Int))),(39,(cI t8))],[.dead,(oE 4 [int 0,.imm (.val nL),.imm (.val nL),.imm (.val nL)]),(oE 2 [int 0,int 0]),.dead,(oV 1 intI g),(oV 1 intI i),(oE 4 [int a.facts,.own 4 0 (kw g),.own 5 0 (kw i),.own 8 0 (kw c7)]),(oV 2 ao6 Q),(oV 4 D8 c7),(oE 3 [row 1 intI p.pre,row 3 A0 p.outcomes,int p.cost])]⟩) (fun _ _=>Z) ?_ ?_ ?_;exact Sub.en Z;intro t8 s o a3 a4 h;obtain⟨Q,c7⟩:=s;refine AWP.j (.u (.j (bB h fun w ac h=>.G 1 Z (S.idx ac Z Z Z Z (.G 4 Z (.nil (b5 (.j ?_))))))));obtain⟨x,K,y,L,A,M,h⟩:=b3 h;obtain⟨B,ad,h⟩:=bind_some h;refine AWP.drawEI [14,15,17] mixed Z Z Z (b7.D 4 Z Z (b7.consN Z Z (fun E=>.E Z Z Z Z (w8.data (o7 K)) Z .N) Z (b7.D 2 Z Z (b7.consN Z Z (fun E=>.E Z Z Z Z (w8.data (o7 L)) Z .N) Z (b7.D 2 Z Z (b7.consN Z Z (fun E=>.E Z Z Z Z (w8.data (o7 M)) Z .N) Z (b7.D 3 Z Z ?_)))))));apply b7.consE;exact Z;exact Z;intro E;refine S.lit (f:=D8) (l:=[(⟨x,y,A,p.cost⟩:w7)]) (ess:=[[row 1 intI x,row 1 intI y,row 1 intI A,int p.cost]]) Z Z Z Z Z Z Z ⟨⟨.inl Z,.inl Z,.inl Z,.inl Z,Y⟩,Y⟩ Z Z Z .N;exact Z;exact Z;apply b7.consE;exact Z;exact Z;intro E;refine S.append (f:=D8) ad Z Z Z Z Z Z (.own Z Z) Z Z Z Z .N;exact Z;exact Z;refine b7.D 1 Z Z ?_;apply b7.consE (v:=.undef);exact Z;exact Z;intro E;refine W.store Z Z Z Z Z .N;exact Z;exact Z;refine b7.done Z ?_ ?_;exact d9.D 4 Z Z (d9.cons Z Z (.go Z Z (fun E=>.E Z Z Z Z (w8.data (o7 K)) Z .N) (.skip Z (.skip Z (.skip Z .nil)))) (d9.D 2 Z Z (d9.cons Z Z (.go Z Z (fun E=>.E Z Z Z Z (w8.data (o7 L)) Z .N) (.skip Z (.skip Z (.skip Z .nil)))) (d9.D 2 Z Z (d9.cons Z Z (.go Z Z (fun E=>.E Z Z Z Z (w8.data (o7 M)) Z .N) (.skip Z (.skip Z (.skip Z .nil)))) (d9.D 7 Z Z (d9.nil)))))));dsimp only[j6];refine b5 (.z (env':=[(2,(cP 1 0 0)),(4,(cP 2 0 0)),(6,(cP 6 0 0)),(7,.c (.own 7 0 (kw Q))),(8,(cI t5)),(9,(cP 9 0 0)),(10,(cI t8)),(29,.c (row 3 e7 a.operators)),(30,(cI (kw a.operators:Int))),(31,(cI t5)),(37,.c (row 3 A0 p.outcomes)),(38,(cI (kw p.outcomes:Int))),(39,(cI t8))]) (σ':=[.dead,(oE 4 [int 0,.imm (.val nL),.imm (.val nL),.imm (.val nL)]),(oE 2 [int 0,int 0]),.dead,(oV 1 intI g),(oV 1 intI i),(oE 4 [int a.facts,.own 4 0 (kw g),.own 5 0 (kw i),.own 8 0 (kw B)]),(oV 2 ao6 Q),(oV 4 D8 B),(oE 3 [row 1 intI p.pre,row 3 A0 p.outcomes,int p.cost]),(oE 3 [row 1 intI w.add,row 1 intI w.del,int w.weight]),(oV 4 D8 [(⟨x,y,A,p.cost⟩:w7)])]) 8 12 Z Z Z ⟨Z,Z,Z,Z,Z,Z,Z,Z,Z,Z,Z,Z,Z,Y⟩ Z ⟨Y,⟨Z,Z⟩,⟨Z,Z⟩,Y,⟨Blk.im_ok _ _ _,m6 Z⟩,⟨Blk.im_ok _ _ _,m6 Z⟩,⟨Z,Z⟩,⟨Blk.im_ok _ _ _,m6 Z⟩,⟨Blk.im_ok _ _ _,m6 Z⟩,⟨Z,Z⟩,⟨Z,Z⟩,⟨Blk.im_ok _ _ _,m6 Z⟩,Y⟩ (bB h fun an ao h=>.G 3 Z (.buildA Z Z Z Z (S.lit (f:=ao6) (l:=[(t5,t8)]) (ess:=[[int t5,int t8]]) Z Z Z Z Z Z Z ⟨⟨.inl Z,.inl Z,Y⟩,Y⟩ Z Z Z (S.append (f:=ao6) ao Z Z Z Z Z Z (.own Z Z) Z Z Z Z (.J Z Z (.nil (d8 (b5 (.z (env':=[(2,(cP 1 0 0)),(4,(cP 2 0 0)),(6,(cP 6 0 0)),(7,.c (.own 7 0 (kw an))),(8,(cI t5)),(9,(cP 9 0 0)),(29,.c (row 3 e7 a.operators)),(30,(cI (kw a.operators:Int))),(31,(cI t5)),(37,.c (row 3 A0 p.outcomes)),(38,(cI (kw p.outcomes:Int))),(39,(cI t8))]) (σ':=[.dead,(oE 4 [int 0,.imm (.val nL),.imm (.val nL),.imm (.val nL)]),(oE 2 [int 0,int 0]),.dead,(oV 1 intI g),(oV 1 intI i),(oE 4 [int a.facts,.own 4 0 (kw g),.own 5 0 (kw i),.own 8 0 (kw B)]),(oV 2 ao6 an),(oV 4 D8 B),(oE 3 [row 1 intI p.pre,row 3 A0 p.outcomes,int p.cost]),(oE 3 [row 1 intI w.add,row 1 intI w.del,int w.weight]),(oV 4 D8 [(⟨x,y,A,p.cost⟩:w7)]),(oV 2 ao6 [(t5,t8)])]) 7 13 Z Z Z ⟨Z,Z,Z,Z,Z,Z,Z,Z,Z,Z,Z,Z,Y⟩ Z ⟨Y,⟨Z,Z⟩,⟨Z,Z⟩,Y,⟨Blk.im_ok _ _ _,m6 Z⟩,⟨Blk.im_ok _ _ _,m6 Z⟩,⟨Z,Z⟩,⟨Blk.im_ok _ _ _,m6 Z⟩,⟨Blk.im_ok _ _ _,m6 Z⟩,⟨Z,Z⟩,⟨Z,Z⟩,⟨Blk.im_ok _ _ _,m6 Z⟩,⟨Blk.im_ok _ _ _,m6 Z⟩,Y⟩ (.aa (.add Z Z Z (by omega) (.z Z Z (.nil ?_))))))))))))));obtain rfl:=oi h;refine b5 (Sub.ct Z Z (.d (.o Z (.o Z (.d (.v (.v (.o Z (.v (.v (.o Z .n)))))))))));intro iz;refine g8 (d8 (b5 (.aa (.add Z Z Z (by omega) (.z Z Z (.nil ?_))))));obtain rfl:=oi h;refine b5 (Sub.ct Z Z (.d (.o Z (.o Z (.d (.v (.v (.o Z (.v (.v .n))))))))));intro iz;refine g8 (b5 (.j (.gs 1 Z (S.lenO Z Z Z (fun bb=>.ge 1 Z (.U Z h (fun a7 h=> ?_) (fun a7 h=> ?_)))))));refine AWP.gk 5 Z (.nilB (b:=1) [int 0,row 1 intI [],row 1 intI [],row 4 D8 []] Z (by exact⟨.inl Z,.inr ⟨Z,_,Z⟩,.inr ⟨Z,_,Z⟩,.inr ⟨Z,_,Z⟩,Y⟩) Z Z (.nilrow 2 3 Z (.ret (e9 ?_))));obtain rfl:=oi h;exact Done.ret Z Z;refine AWP.skip (b5 (.gk 6 Z (.fz 4 [2,3,4] Z Z Z Z Y (.d (.o Z ⟨Z,Y⟩ (.o Z Y (.d (.d (.v (.o Z ⟨Z,Y⟩ (.v (.v .n))))))))) (AWP.fz 5 [2,3,4] Z Z Z Z Y (.d (.o Z ⟨Z,Y⟩ (.o Z Y (.d (.d (.d (.o Z ⟨Z,Y⟩ (.v (.v .n))))))))) (AWP.fz 8 [2,3,4] Z Z Z Z Y (.d (.o Z ⟨Z,Y⟩ (.o Z Y (.d (.d (.d (.o Z ⟨Z,Y⟩ (.v (.d .n))))))))) (AWP.fz 7 [2,3,4] Z Z Z Z ⟨Z,Y⟩ (.d (.o Z Y (.o Z Y (.d (.d (.d (.o Z Y (.d (.d .n))))))))) (AWP.ret ?_)))))));obtain rfl:=oi h;exact Done.ret Z Z
def aF8{ov:w7}{facts:Int}{r:Int}(h:X3 ov facts=some r):f5 prog 117 [.agg [row 1 intI ov.pre,row 1 intI ov.add,row 1 intI ov.del,int ov.cost],(cI facts)] ((cI r)):=by unfold f5;refine FnOk.enter (rs:=[.t 4]) func117 Z ntmps117 results117 Z ⟨Y,Y⟩ (by kernel_rfl) Z ?_;unfold X3 at h;refine AWP.gk 2 Z (.j (.u (bB h fun t3 hx4 h=>.seqJ (⟨[(2,(cP 0 0 0)),(5,(cB t3))],[(oE 4 [row 1 intI ov.pre,row 1 intI ov.add,row 1 intI ov.del,int ov.cost])]⟩) ?_ ?_)));obtain⟨a9,ha9,hx4⟩:=bind_some hx4;rcases bft (!a9) with hb5|hb5;replace hx4:=O6 hb5 hx4;refine AWP.G 3 Z (.E Z Z Z Z (r8 ha9) Z (.G 2 Z (.K Z Z hb5 (.G 21 Z (.nil ?_)))));obtain rfl:=oi hx4;refine b5 (Sub.en Z);replace hx4:=P0 hb5 hx4;obtain⟨a15,ha15,hx4⟩:=bind_some hx4;rcases bft (!a15) with hb6|hb6;replace hx4:=O6 hb6 hx4;refine AWP.G 3 Z (.E Z Z Z Z (r8 ha9) Z (.G 2 Z (.K Z Z hb5 (.G 3 Z (.F Z Z Z Z (.E Z Z Z Z (r8 ha15) Z (.G 3 Z (.K Z Z hb6 (.G 14 Z (.nil ?_))))))))));obtain rfl:=oi hx4;refine b5 (Sub.en Z);replace hx4:=P0 hb6 hx4;obtain⟨a22,ha22,hx4⟩:=bind_some hx4;rcases bft (!a22) with hb7|hb7;replace hx4:=O6 hb7 hx4;refine AWP.G 3 Z (.E Z Z Z Z (r8 ha9) Z (.G 2 Z (.K Z Z hb5 (.G 3 Z (.F Z Z Z Z (.E Z Z Z Z (r8 ha15) Z (.G 3 Z (.K Z Z hb6 (.G 3 Z (.F Z Z Z Z (.E Z Z Z Z (r8 ha22) Z (.G 3 Z (.K Z Z hb7 (.G 7 Z (.nil ?_)))))))))))))));obtain rfl:=oi hx4;refine b5 (Sub.en Z);replace hx4:=P0 hb7 hx4;obtain⟨a30,ha30,hx4⟩:=bind_some hx4;refine AWP.G 3 Z (.E Z Z Z Z (r8 ha9) Z (.G 2 Z (.K Z Z hb5 (.G 3 Z (.F Z Z Z Z (.E Z Z Z Z (r8 ha15) Z (.G 3 Z (.K Z Z hb6 (.G 3 Z (.F Z Z Z Z (.E Z Z Z Z (r8 ha22) Z (.G 3 Z (.K Z Z hb7 (.G 4 Z (.F Z Z Z Z (.E Z Z Z Z (aA7 ha30) Z (.G 2 Z (.nil ?_))))))))))))))))));obtain rfl:=oi hx4;refine b5 (Sub.en Z);refine AWP.O Z h (fun hc8 h=> ?_) (fun hc8 h=> ?_);refine AWP.gk 1 Z (.ret (i7 (e9 ?_)));obtain rfl:=oi h;exact Done.ret Z Z;refine AWP.seqJ (⟨[(32,(cB ((decide (ov.cost<0))||(decide (100<ov.cost)))))],[(oE 4 [row 1 intI ov.pre,row 1 intI ov.add,row 1 intI ov.del,int ov.cost])]⟩) ?_ ?_;rcases bft (decide (ov.cost<0)) with hb1|hb1;refine AWP.G 4 Z (.K Z Z hb1 (.G 5 Z (.nil (b5 ?_))));simp only[ad9 hb1,or_t hb1,iW,jc,iV,iX];exact Sub.en Z;refine AWP.G 4 Z (.K Z Z hb1 (.G 5 Z (.nil (b5 ?_))));simp only[aa6 hb1,or_f hb1,iW,jc,iV,iX];exact Sub.en Z;refine AWP.O Z h (fun hc9 h=> ?_) (fun hc9 h=> ?_);refine AWP.gk 1 Z (.ret (i7 (e9 ?_)));obtain rfl:=oi h;exact Done.ret Z Z;refine AWP.skip (d8 (b5 (.gk 1 Z (.ret ?_))));obtain rfl:=oi h;exact Done.ret Z Z
def aH3{t:n9}{r:m7}(h:M4 t=some r):f5 prog 92 [.agg (tT t)] (.agg [int r.code,int r.index]):=by unfold f5;refine FnOk.enter (rs:=[.cell 2 30 2]) func92 Z ntmps92 results92 Z ⟨rv _ Z,Y⟩ (by kernel_rfl) Z ?_;refine AWP.gk 2 Z (.j (.u (.seqJ (⟨[(1,(cP 0 0 0)),(2,(cP 1 0 0)),(6,(cB ((decide (t.facts<0))||(decide (24<t.facts)))))],[(oE 4 (tT t)),(oE 2 [int 0,int 0])]⟩) ?_ ?_)));rcases bft (decide (t.facts<0)) with a|a;refine AWP.G 4 Z (.K Z Z a (.G 5 Z (.nil (b5 ?_))));simp only[ad9 a,or_t a,iW,jc,iV,iX];exact Sub.en Z;refine AWP.G 4 Z (.K Z Z a (.G 5 Z (.nil (b5 ?_))));simp only[aa6 a,or_f a,iW,jc,iV,iX];exact Sub.en Z;refine AWP.O Z h (fun i h=> ?_) (fun i h=> ?_);refine AWP.gk 2 Z (.ret (i7 (e9 ?_)));obtain rfl:=oi h;exact Done.ret Z Z;refine AWP.j (bB h fun F b h=>.G 4 Z (.E Z Z Z Z (r8 b) Z (.G 2 Z (.nil (b5 (.O Z h (fun k h=> ?_) (fun k h=> ?_)))))));refine AWP.gk 2 Z (.ret (i7 (e9 ?_)));obtain rfl:=oi h;exact Done.ret Z Z;refine AWP.j (bB h fun H d h=>.G 4 Z (.E Z Z Z Z (r8 d) Z (.G 2 Z (.nil (b5 (.O Z h (fun l h=> ?_) (fun l h=> ?_)))))));refine AWP.gk 2 Z (.ret (i7 (e9 ?_)));obtain rfl:=oi h;exact Done.ret Z Z;refine AWP.gs 2 Z (S.len Z Z (fun B=>.ge 2 Z (.U Z h (fun p h=> ?_) (fun p h=> ?_))));refine AWP.gk 2 Z (.ret (i7 (e9 ?_)));obtain rfl:=oi h;exact Done.ret Z Z;refine AWP.skip (d8 (b5 (.j (.gs 2 Z (S.len Z Z (fun D=>.ge 1 Z (.u (bB h fun V q h=>.rngH q (fun t6 _=>⟨[(1,(cP 0 0 0)),(2,(cP 1 0 0)),(39,.c (row 4 D8 t.operators)),(40,(cI (kw t.operators:Int))),(41,(cI t6))],[(oE 4 (tT t)),(oE 2 [int 0,int 0])]⟩) (fun x e st=>e=.ret/\Done [.cell 2 30 2] (fun t _=>t=.agg [int x.code,int x.index]) .ret st) (fun _ _=>Z) ?_ ?_ ?_ ?_))))))));exact Sub.en Z;intro t6 s o v w h;refine AWP.j (.u (.j (bB h fun L f h=>.G 1 Z (S.idx f Z Z Z Z (.G 4 Z (.nil (b5 (.j (bB h fun M g h=>.G 3 Z (.E Z Z Z Z (aF8 g) Z (.J Z Z (.nil (b5 (.gk 2 Z (.iteN Z h (fun y h=> ?_) (fun y h=> ?_))))))))))))))));refine AWP.gk 4 Z (.ret (i7 (e9 ?_)));obtain rfl:=oi h;exact e9 ⟨_,Z,Z,(Done.ret Z Z)⟩;refine AWP.skip (d8 (b5 (.aa (.add Z Z Z (by omega) (.z Z Z (.nil ?_))))));obtain rfl:=oi h;exact b5 ⟨_,Z,(Sub.ct Z Z (.o Z (.o Z .n)))⟩;intro X _ A;subst A;refine g8 (b5 (.gk 2 Z (.ret ?_)));obtain rfl:=oi h;exact Done.ret Z Z;intro x e st A N;subst A;obtain⟨rfl,P⟩:=N;refine ⟨_,Sub.refl _ _,(i7 (e9 ?_))⟩;obtain rfl:=oi h;exact P
def G7(h:T3 b=some x):f5 prog 118 [(cR b)] (.c (.imm (.val (.int .u32 x)))):=by unfold f5;refine FnOk.enter (rs:=[.t 2]) func118 Z ntmps118 results118 Z ⟨Y,Y⟩ (by kernel_rfl) Z ?_;refine AWP.gk 1 Z (.gk 1 Z (.j (.gs 1 Z (S.len Z Z (fun k=>.ge 1 Z (.u (bB h fun e f h=>.forH f (fun t3 e=>⟨[(3,.c (.imm (.val (.int .u32 e)))),(6,(cR b)),(7,(cI (kw b:Int))),(8,(cI t3))],[]⟩) (fun _ _=>Z) ?_ ?_ ?_)))))));exact Sub.en Z;intro t3 e o g i h;refine AWP.j (.u (.j (bB h fun l a h=>.aa (S.idx a Z Z Z Z (.G 2 Z (.nil (b5 (bB h fun n d h=>.G 2 Z (S.shl d Z Z Z (.bits Z Z Z (by simp) (.J Z Z (.nil (d8 (b5 (.aa (.add Z Z Z (by omega) (.z Z Z (.nil ?_))))))))))))))))));obtain rfl:=oi h;refine b5 (Sub.en Z);intro q;refine g8 (b5 (.gk 2 Z (.ret ?_)));obtain rfl:=oi h;exact Done.ret Z Z
def aC0(h:ae9 x=some b):w8 prog 97 [.c (.imm (.val (.int .u32 x)))] 1 (List.map intI b):=by
 unfold w8;refine FnOk.enter (rs:=[.t 2]) func97 Z ntmps97 results97 Z ⟨Y,Y⟩ (by kernel_rfl) Z ?_;refine AWP.gk 1 Z (.gk 1 Z (.j (.gk 1 Z (.u (.virtV 1 intI 3 Z Z Z (bB h fun g i h=>.forH i (fun t3 g=>⟨[(0,.c (.imm (.val (.int .u32 x)))),(3,.c (.own 0 0 (kw g))),(5,(cI t3))],[(oV 1 intI g)]⟩) (fun _ _=>Z) ?_ ?_ ?_))))));exact Sub.env ⟨Z,(E3 (by first|rfl|simp only[lS])),Z,Y⟩
 intro t3 g o k p h;obtain⟨s,a,h⟩:=bind_some h;refine AWP.jQ [0,5] [(3,.c (.own 2 0 (kw s)))] [.dead,.dead,(oV 1 intI s)] Z ?_ ?_;refine AWP.u (.gk 2 Z (.gs 2 Z (.shr Z Z Z (by first|decide|omega) Z (.bits Z Z Z (by simp) (.ge 1 Z (.U Z a (fun q a=> ?_) (fun q a=> ?_)))))))
 obtain⟨y,e,a⟩:=bind_some a;refine AWP.G 2 Z (S.lit (f:=intI) (l:=[t3]) (ess:=[[int t3]]) Z Z Z Z Z Z Z ⟨⟨.inl Z,Y⟩,Y⟩ Z Z Z (S.append (f:=intI) e Z Z Z Z Z Z (.own Z Z) Z Z Z Z (.J Z Z (.nil (d8 ?_)))));obtain rfl:=oi a;refine b5 (Sub.ct Z Z (.d (.d (.v .n))));refine AWP.skip (d8 ?_);obtain rfl:=oi a;refine b5 (Sub.mv 2 0 Z Z (.d (.d (.v Z .n))));refine AWP.aa (.add Z Z Z (by omega) (.z Z Z (.nil ?_)));obtain rfl:=oi h;refine b5 (Sub.mv 0 2 Z Z (.v Z .n));intro D;refine g8 (b5 (.gk 2 Z (.ret ?_)));obtain rfl:=oi h;exact Done.ret Z (Fresh.mk Z Z)
def aF9{r:Int}(h:P8 x y=some r):f5 prog 96 [.c (.imm (.val (.int .u32 x))),.c (.imm (.val (.int .u32 y)))] ((cI r)):=by unfold f5;refine FnOk.enter (rs:=[.t 4]) func96 Z ntmps96 results96 Z ⟨Y,Y⟩ (by kernel_rfl) Z ?_;refine AWP.gk 1 Z (.j (bD h fun f a g b i d h=>.G 1 Z (S.fresh Z Z Z Z (aC0 a) Z Z (.z Z Z (S.fresh Z Z Z Z (aC0 b) Z Z (.ac Z Z (.cons (.c (.own Z Z)) (.cons (.c (.own Z Z)) .nil)) Z (z7 d) Z (.J Z Z (.nil (b5 (.ret ?_))))))))));obtain rfl:=oi h;exact Done.ret Z Z
def space_Of_w_ok{t:n9}{r:Int×Int×(List k7)}(h:ao2 t=some r):FnOk prog 93 [.agg (tT t)] (space_Of_w_s0 t) (fun U V=>U=(cP 1 0 0)/\V=[.dead,(oE 3 [.imm (.val (.int .u32 r.1)),.imm (.val (.int .u32 r.2.1)),.own 2 0 r.2.2.length]),(oV 4 f8 r.2.2)]):=by
 refine FnOk.enter (rs:=[.t 2]) func93 Z ntmps93 results93 Z ⟨Y,Y⟩ (by kernel_rfl) Z ?_;refine AWP.weak (AWP.gk 2 Z (.j (bC h fun O A B i h=>.drawEI [7] mixed Z Z Z (b7.D 2 Z Z (b7.consN Z Z (fun E=>.E Z Z Z Z (G7 A) Z .N) Z (b7.D 2 Z Z (b7.consN Z Z (fun E=>.E Z Z Z Z (G7 i) Z .N) Z (b7.D 1 Z Z ?_))))))));apply b7.consE;exact Z;exact Z;intro E;refine W.box Z Z Z Z Z Z .N;exact Z;exact Z;refine b7.D 1 Z Z (b7.done Z ?_ ?_);exact d9.D 2 Z Z (d9.cons Z Z (.go Z Z (fun E=>.E Z Z Z Z (G7 A) Z .N) (.skip Z .nil)) (d9.D 2 Z Z (d9.cons Z Z (.go Z Z (fun E=>.E Z Z Z Z (G7 i) Z .N) (.skip Z .nil)) (d9.D 3 Z Z (d9.nil)))));dsimp only[j6];refine b5 (.j (.gs 2 Z (S.len Z Z (fun P=>.ge 1 Z (.u (.virtB 4 f8 (b:=1) (o:=2) Z Z Z Z Z Z (bB h fun g M h=>.forH M (fun t56 g=>⟨[(3,(cP 1 0 0)),(15,.c (row 4 D8 t.operators)),(16,(cI (kw t.operators:Int))),(17,(cI t56))],[.dead,(oE 3 (wW O B 2 (kw g))),(oV 4 f8 g)]⟩) (fun _ _=>Z) ?_ ?_ ?_)))))));exact Sub.ct Z Z (.d (.q Z (by first|rfl|(simp only[lS];done)) (.v .n)))
 intro t56 g o K L h;refine AWP.j (.u (.j (bB h fun a F h=>.aa (S.idx F Z Z Z Z (.G 3 Z (.nil (b5 ?_)))))));obtain⟨w,k,x,p,y,s,h⟩:=b3 h;obtain⟨H,J,h⟩:=bind_some h;refine AWP.drawEI [17,18,21] mixed Z Z Z (b7.D 7 Z Z (b7.consN Z Z (fun E=>.E Z Z Z Z (G7 k) Z .N) Z (b7.D 2 Z Z (b7.consN Z Z (fun E=>.E Z Z Z Z (G7 p) Z .N) Z (b7.D 2 Z Z (b7.consN Z Z (fun E=>.E Z Z Z Z (G7 s) Z .N) Z (b7.D 3 Z Z ?_)))))));apply b7.consE;exact Z;exact Z;intro E;refine S.lit (f:=f8) (l:=[(⟨w,x,y,a.cost⟩:k7)]) (ess:=[[.imm (.val (.int .u32 w)),.imm (.val (.int .u32 x)),.imm (.val (.int .u32 y)),int a.cost]]) Z Z Z Z Z Z Z ⟨⟨.inl Z,.inl Z,.inl Z,.inl Z,Y⟩,Y⟩ Z Z Z .N;exact Z;exact Z;apply b7.consE;exact Z;exact Z;intro E;refine S.append (f:=f8) J Z Z Z Z Z Z (.own Z Z) Z Z Z Z .N;exact Z;exact Z;refine b7.D 2 Z Z ?_;apply b7.consE (v:=.undef);exact Z;exact Z;intro E;refine W.store Z Z Z Z Z .N;exact Z;exact Z;refine b7.done Z ?_ ?_;exact d9.D 7 Z Z (d9.cons Z Z (.go Z Z (fun E=>.E Z Z Z Z (G7 k) Z .N) (.skip Z (.skip Z (.skip Z .nil)))) (d9.D 2 Z Z (d9.cons Z Z (.go Z Z (fun E=>.E Z Z Z Z (G7 p) Z .N) (.skip Z (.skip Z (.skip Z .nil)))) (d9.D 2 Z Z (d9.cons Z Z (.go Z Z (fun E=>.E Z Z Z Z (G7 s) Z .N) (.skip Z (.skip Z (.skip Z .nil)))) (d9.D 8 Z Z (d9.nil)))))));dsimp only[j6];refine d8 (b5 (.z (env':=[(3,(cP 1 0 0)),(15,.c (row 4 D8 t.operators)),(16,(cI (kw t.operators:Int))),(17,(cI t56))]) (σ':=[.dead,(oE 3 (wW O B 2 (kw H))),(oV 4 f8 H),(oE 4 [row 1 intI a.pre,row 1 intI a.add,row 1 intI a.del,int a.cost]),(oV 4 f8 [(⟨w,x,y,a.cost⟩:k7)])]) 2 5 Z Z Z ⟨Z,Z,Z,Z,Y⟩ Z ⟨Y,⟨Z,Z⟩,⟨Blk.im_ok _ _ _,m6 Z⟩,⟨Z,Z⟩,⟨Blk.im_ok _ _ _,m6 Z⟩,Y⟩ (.aa (.add Z Z Z (by omega) (.z Z Z (.nil ?_))))));obtain rfl:=oi h;refine b5 (Sub.ct Z Z (.d (.o Z (.v .n))));intro iz;refine g8 (b5 (.gk 2 Z (.ret ?_)));obtain rfl:=oi h;exact Done.e Z ⟨Z,Z⟩
def aa2{start:Int}{goal:Int}{l:List k7}{r:Unit}(h:E7 start goal l=some r):FnOk prog 67 [(cP 0 0 0)] (aB4 start goal l) (fun a b=>a=.c (.imm (.val (.int .u32 start)))/\b=[(oE 3 (wW start goal 1 (kw l))),(oV 4 f8 l)]):=by refine FnOk.enter (rs:=[.t 2]) func67 Z ntmps67 results67 Z ⟨Y,Y⟩ (by kernel_rfl) Z ?_;refine AWP.weak (AWP.gk 1 Z (.gk 5 Z (.ret ?_)));obtain rfl:=oi h;exact Done.e Z ⟨Z,Z⟩
def aj3{start:Int}{goal:Int}{l:List k7}{r:Unit}(h:I9 x start goal l=some r):FnOk prog 101 [(cP 0 0 0),.c (.imm (.val (.int .u32 x)))] (aB1 x start goal l) (fun a b=>a=.c (.fn 123 [.ptr 2 0 0,.ptr 3 0 0])/\b=[(oE 3 (wW start goal 1 (kw l))),(oV 4 f8 l),(o1 (.ptr 0 0 0)),(o1 (.imm (.val (.int .u32 x))))]):=by refine FnOk.enter (rs:=[.t 4]) func101 Z ntmps101 results101 Z ⟨Y,Y⟩ (by kernel_rfl) Z ?_;refine AWP.weak (AWP.gk 3 Z (.j (.aa (.ad Z Z (.ge 1 Z (.ret ?_))))));obtain rfl:=oi h;exact Done.e Z ⟨Z,Z⟩
theorem aC2{start:Int}{goal:Int}{l:List k7}{r:Li×Bool}(h:P4 start goal l=some r):FnOk prog 94 [.c (.ifc 112 [.ptr 0 0 0] false)] (ac0 start goal l) (fun tt ss=>tt=.tup [.c (.own 12 0 r.1.length),(cB r.2)]/\ss=[(oE 3 (wW start goal 1 (kw l))),(oV 4 f8 l),.dead,.dead,.dead,.dead,.dead,.dead,.dead,.dead,.dead,.dead,(oV 1 eU32 r.1)]):=by
 refine FnOk.enter (rs:=[.t 2,.t 3]) func94 Z ntmps94 results94 Z ⟨Y,Y,Y⟩ (by kernel_rfl) Z ?_
 refine AWP.weak ?_
 unfold P4 at h
 refine AWP.gk 2 Z (.j ?_)
 obtain⟨a12,ha12,h⟩:=bind_some h
 refine AWP.G 1 Z (S.invokeP Z Z Z (FnOk.ld [0,1] (aa2 ha12) Z Z Z (.o Z Z (.v Z .n)) Z (.b 0 Z Z Z (.v 1 Z Z .n)) Z) (S.lit (f:=eU32) (l:=[start]) (ess:=[[.imm (.val (.int .u32 start))]]) Z Z Z Z Z Z Z ⟨⟨.inl Z,Y⟩,Y⟩ Z Z Z (.G 2 Z (.nil (b5 (.j ?_))))))
 obtain⟨a16,ha16,h⟩:=bind_some h
 refine AWP.aa (W.makeMap vU noV Z Z Z (.z Z Z (S.invokeP Z Z Z (FnOk.ld [0,1] (aa2 ha16) Z Z Z (.o Z Z (.v Z .n)) Z (.b 0 Z Z Z (.v 1 Z Z (.o Z Z (.o Z Z (.o Z Z .n))))) Z) (S.build0 Z Z Z (W.insertU (fk:=vU) (k:=start) S8 Z Z Z Z Z (.G 3 Z (.nil (b5 (.gk 1 Z (.j (.u (.virtV 1 eU32 6 Z Z Z ?_))))))))))))
 obtain⟨oo,ho1,h⟩:=bind_some h
 refine AWP.loopS ho1 (fun(c56,c57,c58)=>⟨[(0,.c (.ifc 112 [.ptr 0 0 0] false)),(4,(cP 3 0 0)),(5,(cP 5 0 0)),(6,.c (.own 6 0 (kw c58)))],[(oE 3 (wW start goal 1 (kw l))),(oV 4 f8 l),(oV 1 eU32 c56),(o1 (.own 2 0 (kw c56))),(oW vU noV c57),(o1 (.map 4)),(oV 1 eU32 c58)]⟩) (fun o e st=>match o with| .inl c59=>e=.exit 0/\Sub (ac0 start goal l) st ⟨[(6,.c (.own 6 0 (kw c59)))],[(oE 3 (wW start goal 1 (kw l))),(oV 4 f8 l),.dead,.dead,.dead,.dead,(oV 1 eU32 c59)]⟩| .inr x=>e=.ret/\∃J,Sub (ac0 start goal l) st J/\Done [.t 2,.t 3] (fun tt ss=>tt=.tup [.c (.own 12 0 x.1.length),(cB x.2)]/\ss=[(oE 3 (wW start goal 1 (kw l))),(oV 4 f8 l),.dead,.dead,.dead,.dead,.dead,.dead,.dead,.dead,.dead,.dead,(oV 1 eU32 x.1)]) .ret J) ?_ ?_ ?_
 ·exact Sub.env ⟨Z,Z,Z,(E3 (by first|rfl|simp only[lS])),Y⟩
 ·intro s o h
  obtain⟨c56,c57,c58⟩:=s
  unfold Q7 at h
  try dsimp only at h ⊢
  refine AWP.j (.gs 1 Z (S.lenO Z Z Z (fun hl20=>.ge 1 Z (.U Z h (fun hc60 h=> ?_) (fun hc60 h=> ?_)))))
  ·refine AWP.skip (b5 (.u (.j ?_)))
   obtain⟨a26,ha26,h⟩:=bind_some h
   refine AWP.G 2 Z (S.lenO Z Z Z (fun hl24=>.sub' Z Z Z (by omega) (S.idxO ha26 Z Z Z Z Z (S.loadO ha26 Z Z Z Z Z (.J Z Z (.nil (b5 (.j ?_))))))))
   obtain⟨u32,hu32,h⟩:=bind_some h
   refine AWP.G 2 Z (S.lenO Z Z Z (fun hl30=>.sub' Z Z Z (by omega) (S.vTo (F5 c56) hu32 Z Z Z Z Z Z (.sub (Sub.reown (env':=[(0,.c (.ifc 112 [.ptr 0 0 0] false)),(4,(cP 3 0 0)),(5,(cP 5 0 0)),(6,.c (.own 6 0 (kw c58))),(7,.c (.imm (.val (.int .u32 a26)))),(20,(cI (kw c56:Int))),(21,(cB (decide (0<(kw c56:Int))))),(24,(cI (kw c56:Int))),(25,(cI ((kw c56:Int) - 1))),(27,.c (.imm (.val (.int .u32 a26)))),(30,(cI (kw c56:Int))),(31,(cI ((kw c56:Int) - 1))),(32,.c (.own 7 0 ((w4 c56 0 ((kw c56:Int) - 1)).length)))]) 32 (vw_to (F5 c56) hu32) Z Z Z Z Z Z Z Z (by exact⟨.inr Z,.inr Z,.inr Z,.inr Z,.inr Z,.inr Z,.inr Z,.inr Z,.inr Z,.inr Z,.inr Z,.inr Z,.inl ⟨Z,Z⟩,Y⟩)) (W.store Z Z Z Z Z (.nil (b5 (.j (.z (env':=[(0,.c (.ifc 112 [.ptr 0 0 0] false)),(4,(cP 3 0 0)),(5,(cP 5 0 0)),(6,.c (.own 6 0 (kw c58))),(7,.c (.imm (.val (.int .u32 a26))))]) (σ':=[(oE 3 (wW start goal 1 (kw l))),(oV 4 f8 l),(oV 1 eU32 (w4 c56 0 ((kw c56:Int) - 1))),(o1 (.own 2 0 ((w4 c56 0 ((kw c56:Int) - 1)).length))),(oW vU noV c57),(o1 (.map 4)),(oV 1 eU32 c58)]) 2 7 Z Z Z ⟨Z,Z,Z,Z,Z,Y⟩ Z ⟨⟨Z,Z⟩,⟨Blk.im_ok _ _ _,m6 Z⟩,⟨Blk.im_ok _ _ _,m6 Z⟩,⟨Z,Z⟩,⟨Z,Z⟩,⟨Z,Z⟩,⟨Blk.im_ok _ _ _,m6 Z⟩,Y⟩ ?_)))))))))
   obtain⟨a36,ha36,h⟩:=bind_some h
   refine AWP.G 2 Z (S.lit (f:=eU32) (l:=[a26]) (ess:=[[.imm (.val (.int .u32 a26))]]) Z Z Z Z Z Z Z ⟨⟨.inl Z,Y⟩,Y⟩ Z Z Z (S.append (f:=eU32) ha36 Z Z Z Z Z Z (.own Z Z) Z Z Z Z (.J Z Z (.nil (b5 (.j (.j (.z (env':=[(0,.c (.ifc 112 [.ptr 0 0 0] false)),(4,(cP 3 0 0)),(5,(cP 5 0 0)),(6,.c (.own 6 0 (kw a36))),(7,.c (.imm (.val (.int .u32 a26))))]) (σ':=[(oE 3 (wW start goal 1 (kw l))),(oV 4 f8 l),(oV 1 eU32 (w4 c56 0 ((kw c56:Int) - 1))),(o1 (.own 2 0 ((w4 c56 0 ((kw c56:Int) - 1)).length))),(oW vU noV c57),(o1 (.map 4)),(oV 1 eU32 a36),(oV 1 eU32 [a26])]) 6 8 Z Z Z ⟨Z,Z,Z,Z,Z,Y⟩ Z ⟨⟨Z,Z⟩,⟨Blk.im_ok _ _ _,m6 Z⟩,⟨Blk.im_ok _ _ _,m6 Z⟩,⟨Z,Z⟩,⟨Z,Z⟩,⟨Z,Z⟩,⟨Blk.im_ok _ _ _,m6 Z⟩,⟨Blk.im_ok _ _ _,m6 Z⟩,Y⟩ ?_))))))))
   obtain⟨a39,ha39,h⟩:=bind_some h
   refine AWP.G 2 Z (S.invokeP Z Z Z (FnOk.ld [0,1] (aj3 ha39) Z Z Z (.o Z Z (.v Z .n)) Z (.b 0 Z Z Z (.v 1 Z Z (.o Z Z (.o Z Z (.o Z Z (.o Z Z (.o Z Z (.o Z Z (.b 2 Z Z Z (.b 3 Z Z Z .n)))))))))) Z) (.nil (b5 (.u ?_))))
   obtain⟨xr61,hr61,h⟩:=bind_some h
   refine AWP.rangeB [(4,none),(5,none)] Z Z Z (fun as61 bo61 hA61 hB61=>⟨[(oE 3 (wW start goal 1 (kw l))),(oV 4 f8 l),(oV 1 eU32 (w4 c56 0 ((kw c56:Int) - 1))),(o1 (.own 2 0 ((w4 c56 0 ((kw c56:Int) - 1)).length))),(oW vU noV c57),(o1 (.map 4)),(oV 1 eU32 a36),(oV 1 eU32 [a26]),(o1 (.ptr 0 0 0)),(o1 (.imm (.val (.int .u32 a26)))),.one (C8 63 [40] as61 bo61 .ready none [(4,none),(5,none)] [.ptr 3 0 0,.ptr 5 0 0])],fun tt ss=>tt=.tup []/\ss=[(oE 3 (wW start goal 1 (kw l))),(oV 4 f8 l),.dead,(o1 (.own 11 0 xr61.2.length)),(oW vU noV xr61.1),(o1 (.map 4)),(oV 1 eU32 a36),(oV 1 eU32 [a26]),(o1 (.ptr 0 0 0)),(o1 (.imm (.val (.int .u32 a26)))),.one (C8 63 [40] as61 bo61 .ready none [(4,none),(5,none)] [.ptr 3 0 0,.ptr 5 0 0]),(oV 1 eU32 xr61.2)],Z,?_,?_⟩)
   ·refine FnOk.enter (rs:=[]) func123 Z ntmps123 results123 Z Y (by kernel_rfl) Z ?_
    refine AWP.weak ?_
    unfold Q9 at hr61
    try dsimp only at hr61
    refine AWP.z (env':=[(0,.c (.yld 10)),(1,(cP 8 0 0)),(2,(cP 9 0 0))]) (σ':=[(oE 3 (wW start goal 1 (kw l))),(oV 4 f8 l),.dead,(o1 (.own 11 0 ((w4 c56 0 ((kw c56:Int) - 1)).length))),(oW vU noV c57),(o1 (.map 4)),(oV 1 eU32 a36),(oV 1 eU32 [a26]),(o1 (.ptr 0 0 0)),(o1 (.imm (.val (.int .u32 a26)))),.one (C8 63 [40] as61 bo61 .ready none [(4,none),(5,none)] [.ptr 3 0 0,.ptr 5 0 0]),(oV 1 eU32 (w4 c56 0 ((kw c56:Int) - 1)))]) 11 2 Z Z Z ⟨Z,Z,Z,Y⟩ Z ⟨⟨Z,Z⟩,⟨Blk.im_ok _ _ _,m6 Z⟩,Y,⟨Z,Z⟩,⟨Z,Z⟩,⟨Z,Z⟩,⟨Blk.im_ok _ _ _,m6 Z⟩,⟨Blk.im_ok _ _ _,m6 Z⟩,⟨Z,Z⟩,⟨Z,Z⟩,⟨Z,Z⟩,⟨Blk.im_ok _ _ _,m6 Z⟩,Y⟩ (.gs 4 Z (S.lenO Z Z Z (fun hl10=>.ge 1 Z (.u ?_))))
    obtain⟨⟨c64,c65⟩,ho2,hr61⟩:=bind_some hr61
    try dsimp only at hr61
    refine AWP.forH ho2 (fun t66 (c64,c65)=>⟨[(0,.c (.yld 10)),(2,(cP 9 0 0)),(9,.c (.own 1 0 (kw l))),(10,(cI (kw l:Int))),(11,(cI t66))],[(oE 3 (wW start goal 1 (kw l))),(oV 4 f8 l),.dead,(o1 (.own 11 0 (kw c65))),(oW vU noV c64),(o1 (.map 4)),(oV 1 eU32 a36),(oV 1 eU32 [a26]),(o1 (.ptr 0 0 0)),(o1 (.imm (.val (.int .u32 a26)))),.one (C8 63 [40] as61 bo61 .ready none [(4,none),(5,none)] [.ptr 3 0 0,.ptr 5 0 0]),(oV 1 eU32 c65)]⟩) (fun _ _=>Z) ?_ ?_ ?_
    ·exact Sub.en Z
    ·intro t66 s o hlot66 hltt66 h
     obtain⟨c64,c65⟩:=s
     unfold P9 at h
     try dsimp only at h ⊢
     refine AWP.j (.u (.j ?_))
     obtain⟨ai14,hai14,h⟩:=bind_some h
     refine AWP.G 1 Z (S.idxO hai14 Z Z Z Z Z (S.loadOAgg hai14 Z Z Z Z Z Z Z (.G 3 Z (.nil (b5 (.j ?_))))))
     rcases bft (decide (Go.bits .and .u32 a26 ai14.pre=ai14.pre)) with hb67|hb67
     ·replace h:=V7 hb67 h
      refine AWP.G 3 Z (.bits Z Z Z (by simp) (.G 4 Z (.F Z Z Z hb67 (.z Z Z (.F Z Z Z hb67 (.z Z Z (.F Z Z Z hb67 (W.fieldAddr Z Z Z Z (.F Z Z Z hb67 (.load Z Z Z Z Z Z (.F Z Z Z hb67 (.load Z Z Z Z Z Z (.F Z Z Z hb67 (W.fieldAddr Z Z Z Z (.F Z Z Z hb67 (.load Z Z Z Z Z Z (.F Z Z Z hb67 (.bits Z Z Z (by simp) (.F Z Z Z hb67 (W.fieldAddr Z Z Z Z (.F Z Z Z hb67 (.load Z Z Z Z Z Z (.F Z Z Z hb67 (.bits Z Z Z (by simp) (.F Z Z Z hb67 (W.build Z Z Z Z ?_))))))))))))))))))))))))))
      refine AOps.F Z Z Z hb67 ?_;refine AOps.yieldB (E1:=[(8,(cP 13 0 0)),(40,.agg [int t66,int ai14.cost,.imm (.val (.int .u32 (Go.bits .or .u32 (Go.bits .andNot .u32 a26 ai14.del) ai14.add)))]),(4,(cP 3 0 0)),(5,(cP 5 0 0))]) (σ1:=[(oE 3 (wW start goal 1 (kw l))),(oV 4 f8 l),.dead,(o1 (.own 11 0 (kw c65))),(oW vU noV c64),(o1 (.map 4)),(oV 1 eU32 a36),(oV 1 eU32 [a26]),(o1 (.ptr 0 0 0)),(o1 (.imm (.val (.int .u32 a26)))),.one (C8 63 [40] as61 bo61 .ready none [(4,none),(5,none)] [.ptr 3 0 0,.ptr 5 0 0]),(oV 1 eU32 c65),(oE 4 [.imm (.val (.int .u32 ai14.pre)),.imm (.val (.int .u32 ai14.add)),.imm (.val (.int .u32 ai14.del)),int ai14.cost]),(oE 3 [int t66,int ai14.cost,.imm (.val (.int .u32 (Go.bits .or .u32 (Go.bits .andNot .u32 a26 ai14.del) ai14.add)))])]) hA61 hB61 Z Z Z Z Z Z Z Z Z Z ?_ ?_
      ·refine AWP.G 2 Z (.nil ?_)
       exact⟨Z,Z⟩
      refine AWP.sub (s':=⟨[(4,(cP 3 0 0)),(5,(cP 5 0 0)),(8,(cP 13 0 0))],[(oE 3 (wW start goal 1 (kw l))),(oV 4 f8 l),.dead,(o1 (.own 11 0 (kw c65))),(oW vU noV c64),(o1 (.map 4)),(oV 1 eU32 a36),(oV 1 eU32 [a26]),(o1 (.ptr 0 0 0)),(o1 (.imm (.val (.int .u32 a26)))),.one (C8 63 [40] as61 bo61 .busy none [(4,none),(5,none)] [.ptr 3 0 0,.ptr 5 0 0]),(oV 1 eU32 c65),(oE 4 [.imm (.val (.int .u32 ai14.pre)),.imm (.val (.int .u32 ai14.add)),.imm (.val (.int .u32 ai14.del)),int ai14.cost]),(oE 3 [int t66,int ai14.cost,.imm (.val (.int .u32 (Go.bits .or .u32 (Go.bits .andNot .u32 a26 ai14.del) ai14.add)))])]⟩) (Sub.env ⟨Z,Z,Z,Y⟩) (.u (.gs 3 Z (W.lookupOkU (fk:=vU) (k:=Go.bits .or .u32 (Go.bits .andNot .u32 a26 ai14.del) ai14.add) S8 Z Z Z Z Z (.G 4 Z (S.store0 Z Z Z (.ge 1 Z (.gk 2 Z (.O Z h (fun hc68 h=> ?_) (fun hc68 h=> ?_)))))))))
      ·refine AWP.gs 3 Z (S.build0 Z Z Z (W.mapUpdateU (fk:=vU) (k:=Go.bits .or .u32 (Go.bits .andNot .u32 a26 ai14.del) ai14.add) S8 Z Z Z Z Z (.ne ?_)))
       obtain⟨ab58,hab58,h⟩:=bind_some h
       refine AWP.G 3 Z (S.lit (f:=eU32) (l:=[Go.bits .or .u32 (Go.bits .andNot .u32 a26 ai14.del) ai14.add]) (ess:=[[.imm (.val (.int .u32 (Go.bits .or .u32 (Go.bits .andNot .u32 a26 ai14.del) ai14.add)))]]) Z Z Z Z Z Z Z ⟨⟨.inl Z,Y⟩,Y⟩ Z Z Z (S.append (f:=eU32) hab58 Z Z Z Z Z Z (.own Z Z) Z Z Z Z (.G 1 Z (.nil (d8 (ay3 Z Z (.F Z Z Z hb67 (.not Z Z (.pickT Z hb67 Z Z (.nil (b5 (.z (env':=[(0,.c (.yld 10)),(2,(cP 9 0 0)),(9,.c (.own 1 0 (kw l))),(10,(cI (kw l:Int))),(11,(cI t66)),(38,(cB false))]) (σ':=[(oE 3 (wW start goal 1 (kw l))),(oV 4 f8 l),.dead,(o1 (.own 11 0 (kw ab58))),(oW vU noV (mset c64 (Go.bits .or .u32 (Go.bits .andNot .u32 a26 ai14.del) ai14.add) ())),(o1 (.map 4)),(oV 1 eU32 a36),(oV 1 eU32 [a26]),(o1 (.ptr 0 0 0)),(o1 (.imm (.val (.int .u32 a26)))),.one (C8 63 [40] as61 bo61 .ready none [(4,none),(5,none)] [.ptr 3 0 0,.ptr 5 0 0]),(oV 1 eU32 ab58),(oE 4 [.imm (.val (.int .u32 ai14.pre)),.imm (.val (.int .u32 ai14.add)),.imm (.val (.int .u32 ai14.del)),int ai14.cost]),(oE 3 [int t66,int ai14.cost,.imm (.val (.int .u32 (Go.bits .or .u32 (Go.bits .andNot .u32 a26 ai14.del) ai14.add)))]),(oE 0 []),(oV 1 eU32 [Go.bits .or .u32 (Go.bits .andNot .u32 a26 ai14.del) ai14.add])]) 11 16 Z Z Z ⟨Z,Z,Z,Z,Z,Z,Y⟩ Z ⟨⟨Z,Z⟩,⟨Blk.im_ok _ _ _,m6 Z⟩,Y,⟨Z,Z⟩,⟨Z,Z⟩,⟨Z,Z⟩,⟨Blk.im_ok _ _ _,m6 Z⟩,⟨Blk.im_ok _ _ _,m6 Z⟩,⟨Z,Z⟩,⟨Z,Z⟩,⟨Z,Z⟩,⟨Blk.im_ok _ _ _,m6 Z⟩,⟨Z,Z⟩,⟨Z,Z⟩,⟨Z,Z⟩,⟨Blk.im_ok _ _ _,m6 Z⟩,Y⟩ (.condF Z (.skip (d8 (b5 (.aa (.add Z Z Z (by omega) (.z Z Z (.nil ?_))))))))))))))))))))
       obtain rfl:=oi h
       refine b5 (Sub.ct Z Z (.o Z (.v (.d (.o Z (.o Z (.o Z (.v (.v (.o Z (.o Z (.o Z (.v .n)))))))))))))
      ·refine AWP.skip (d8 (ay3 Z Z (.F Z Z Z hb67 (.not Z Z (.pickT Z hb67 Z Z (.nil (b5 (.condF Z (.skip (d8 (b5 (.aa (.add Z Z Z (by omega) (.z Z Z (.nil ?_)))))))))))))))
       obtain rfl:=oi h
       refine b5 (Sub.ct Z Z (.o Z (.v (.d (.o Z (.o Z (.o Z (.v (.v (.o Z (.o Z (.o Z (.v .n)))))))))))))
     ·replace h:=V3 hb67 h
      refine AWP.G 3 Z (.bits Z Z Z (by simp) (.G 4 Z (.ab Z Z Z hb67 (.ab Z Z Z hb67 (.ab Z Z Z hb67 (.ab Z Z Z hb67 (.ab Z Z Z hb67 (.ab Z Z Z hb67 (.ab Z Z Z hb67 (.ab Z Z Z hb67 (.ab Z Z Z hb67 (.ab Z Z Z hb67 (.ab Z Z Z hb67 (.ab Z Z Z hb67 (.ab Z Z Z hb67 (.ab Z Z Z hb67 (.pickF Z hb67 Z Z (.nil (b5 (.condF Z (.skip (d8 (b5 (.aa (.add Z Z Z (by omega) (.z Z Z (.nil ?_)))))))))))))))))))))))))))
      obtain rfl:=oi h
      refine b5 (Sub.ct Z Z (.o Z (.v (.d (.o Z (.o Z (.o Z (.v (.v (.o Z (.o Z (.o Z (.v .n)))))))))))))
    ·intro iz
     refine g8 ?_
     obtain rfl:=oi hr61
     exact⟨⟨[],[(oE 3 (wW start goal 1 (kw l))),(oV 4 f8 l),.dead,(o1 (.own 11 0 (kw c65))),(oW vU noV c64),(o1 (.map 4)),(oV 1 eU32 a36),(oV 1 eU32 [a26]),(o1 (.ptr 0 0 0)),(o1 (.imm (.val (.int .u32 a26)))),.one (C8 63 [40] as61 bo61 .ready none [(4,none),(5,none)] [.ptr 3 0 0,.ptr 5 0 0]),(oV 1 eU32 c65)]⟩,Sub.env Y,Done.normal Z ⟨Z,Z⟩⟩
   ·rintro tt ss ⟨rfl,rfl⟩
    obtain⟨c62,c63⟩:=xr61
    try dsimp only at h ⊢
    refine aG5 Z Z (d8 (b5 (.gs 1 Z (S.lenMap (fk:=vU) (fv:=noV) Z Z Z (.ge 1 Z (.U Z h (fun hc69 h=> ?_) (fun hc69 h=> ?_)))))))
    ·refine AWP.gk 2 Z (.virtV 1 eU32 2 Z Z Z (.ret (i7 ?_)))
     obtain rfl:=oi h
     refine e9 ⟨_,Z,Z,?_⟩
     exact⟨⟨[(2,.c (.own 12 0 ([].length))),(3,(cB false))],[(oE 3 (wW start goal 1 (kw l))),(oV 4 f8 l),.dead,.dead,.dead,.dead,.dead,.dead,.dead,.dead,.dead,.dead,(oV 1 eU32 [])]⟩,Sub.ctE ⟨(E3 (by first|rfl|simp only[lS])),Z,Y⟩ Z (.o Z (.v (.d (.d (.d (.d (.d (.d (.d (.d (.d (.d (.v .n))))))))))))),Done.ret Z ⟨Z,Z⟩⟩
    ·refine AWP.skip (d8 ?_)
     obtain rfl:=oi h
     refine b5 ⟨_,Z,?_⟩
     exact Sub.mv 2 11 Z Z (.o Z Z (.v Z (.v Z (.o Z Z (.o Z Z (.o Z Z (.v Z .n)))))))
  ·refine AWP.exit (j9 ?_)
   obtain rfl:=oi h
   refine j9 ⟨_,Z,Z,?_⟩
   exact Sub.ct Z Z (.o Z (.v (.d (.d (.d (.d (.v .n)))))))
 ·intro e s hq
  rcases oo with c59|x
  ·try dsimp only at h hq
   obtain⟨rfl,hs⟩:=hq
   refine⟨_,hs,?_⟩
   refine g8 (b5 (.gk 3 Z (.ret ?_)))
   obtain rfl:=oi h
   exact⟨⟨[(2,.c (.own 12 0 (kw c59))),(3,(cB true))],[(oE 3 (wW start goal 1 (kw l))),(oV 4 f8 l),.dead,.dead,.dead,.dead,.dead,.dead,.dead,.dead,.dead,.dead,(oV 1 eU32 c59)]⟩,Sub.mv 12 6 Z Z (.o Z Z (.v Z (.d (.d (.d (.d (.d (.d (.d (.d (.d (.d (.v Z .n))))))))))))),Done.ret Z ⟨Z,Z⟩⟩
  ·try dsimp only at h hq
   obtain⟨rfl,hs⟩:=hq
   refine⟨_,Sub.refl _ _,?_⟩
   refine i7 (e9 ?_)
   obtain rfl:=oi h
   exact hs
def as9{t:n9}{r:(Int×Int)⊕(Int×Int×(List k7)×Li)}(h:L3 t=some r):FnOk prog 65 [.agg (tT t)] (aG6 t) (fun s u=>(∃v:Int×Int,r=.inl v/\s=.tup [.c (.imm (.val (.pointer none))),.c (row 1 eU32 []),.agg [int v.1,int v.2]]/\u=[.dead,(oE 2 [int v.1,int v.2])])\/(∃v:Int×Int×(List k7)×Li,r=.inr v/\s=.tup [(cP 4 0 0),.c (row 1 eU32 v.2.2.2),.agg [int 0,int 0]]/\u=[.dead,(oE 2 [int 0,int 0]),.dead,.dead,(oE 3 [.imm (.val (.int .u32 v.1)),.imm (.val (.int .u32 v.2.1)),.own 5 0 v.2.2.1.length]),(oV 4 f8 v.2.2.1)])):=by refine FnOk.enter (rs:=[.t 2,.t 3,.cell 4 30 2]) func65 Z ntmps65 results65 Z ⟨Y,Y,rv _ Z,Y⟩ (by kernel_rfl) Z ?_;refine AWP.weak (AWP.gk 4 Z (.j (.j (bB h fun f g h=>.G 1 Z (.E Z Z Z Z (aH3 g) Z (.G 2 Z (.nil (b5 (.gs 2 Z (.neqP Z Z Z Z Z Z Z (.ne (.O Z h (fun i h=> ?_) (fun i h=> ?_)))))))))))));refine AWP.j (.drawEI [3] mixed Z Z Z (b7.D 3 Z Z ?_));apply b7.consE (v:=.undef);exact Z;exact Z;intro E;refine W.storeAgg Z Z Z Z Z Z Z .N;exact Z;exact Z;refine b7.done Z ?_ ?_;refine d9.D 4 Z Z (d9.nil);dsimp only[j6];refine b5 (.nilrow 1 3 Z (.ret (e9 ?_)));obtain rfl:=oi h;exact⟨⟨[(2,.c (.imm (.val (.pointer none)))),(3,.c (row 1 eU32 [])),(4,(cP 1 0 0))],[.dead,(oE 2 [int f.code,int f.index])]⟩,Sub.ct Z Z (.d (.o Z .n)),Done.ret Z (.inl ⟨_,Z,Z,Z⟩)⟩;refine AWP.skip (b5 (.j (bB h fun a k h=>.G 1 Z (.callF Z Z Z (FnOk.ld [] (space_Of_w_ok k) Z Z Z .n Z (.o Z Z (.o Z Z (.o Z Z (.d (.b 1 Z Z Z (.v 2 Z Z .n)))))) Z) (.J Z Z (.nil (b5 (.j (bB h fun w l h=>.G 1 Z (S.mkIfc Z Z Z (.callF Z Z Z (FnOk.ld [4,5] (aC2 l) Z Z Z (.o Z Z (.v Z .n)) Z (.o Z Z (.o Z Z (.o Z Z (.d (.b 0 Z Z Z (.v 1 Z Z (.d (.d (.d (.d (.d (.d (.d (.d (.d (.d (.v 12 Z Z .n))))))))))))))))) Z) (.G 5 Z (.nil (b5 (.j (.gk 2 Z (.O Z h (fun p h=> ?_) (fun p h=> ?_))))))))))))))))));refine AWP.gk 4 Z (.nilrow 1 3 Z (.ret (e9 ?_)));obtain rfl:=oi h;exact⟨⟨[(2,.c (.imm (.val (.pointer none)))),(3,.c (row 1 eU32 [])),(4,(cP 1 0 0))],[.dead,(oE 2 [int 10,int (-7)])]⟩,Sub.ct Z Z (.d (.o Z .n)),Done.ret Z (.inl ⟨_,Z,Z,Z⟩)⟩;refine AWP.skip (b5 (.j (bB h fun q e h=>.G 1 Z (S.sortFU e (fun x=>aF9 x) sortF_Lu32_ok (⟨_,func96,Z,Z⟩) Z Z Z Z Z Z (AOps.nil (b5 (.gk 6 Z (.fz 16 [2,3,4] Z Z Z Z ⟨(sortFU_len e),Y⟩ (.o Z Y (.o Z Y (.o Z Y (.d (.o Z Y (.v (.d (.d (.d (.d (.d (.d (.d (.d (.d (.d (.d .n))))))))))))))))) (AWP.ret ?_)))))))));obtain rfl:=oi h;exact⟨⟨[(2,(cP 4 0 0)),(3,.c (row 1 eU32 q)),(4,(cP 1 0 0))],[.dead,(oE 2 [int 0,int 0]),.dead,.dead,(oE 3 [.imm (.val (.int .u32 a.1)),.imm (.val (.int .u32 a.2.1)),.own 5 0 a.2.2.length]),(oV 4 f8 a.2.2)]⟩,Sub.ct Z Z (.d (.o Z (.d (.d (.o Z (.v .n)))))),Done.ret Z (.inr ⟨_,Z,Z,Z⟩)⟩
def ax1{r:Unit}(h:R1=some r):FnOk prog 98 [] (aw6) (fun a c=>a=(cP 2 0 0)/\c=[.one (pmap 1 vU ([]:List (Int×Int))),pool 4 d6 ([]:List b9),(oE 3 [.own 3 0 (([]:Li).length),.map 0,int 0]),.one (prow 1 ([]:Li))]):=by refine FnOk.enter (rs:=[.t 0]) func98 Z ntmps98 results98 Z ⟨Y,Y⟩ (by kernel_rfl) Z ?_;refine AWP.weak (AWP.gk 1 Z (.j (.aa (W.makeMapP 1 vU Z Z Z (.sub (Sub.newPool (size:=4) (f:=d6) Z) (.ge 3 Z (.virtP 1 (b:=2) (o:=0) Z Z Z Z Z Z (.ret ?_))))))));obtain rfl:=oi h;exact Done.e Z ⟨Z,Z⟩
def aB7{start:Int}{goal:Int}{l:List k7}{r:Unit}(h:V5 x start goal l=some r):FnOk prog 99 [(cP 0 0 0),.c (.imm (.val (.int .u32 x)))] (aA8 x start goal l) (fun a b=>a=(cB (decide (Go.bits .and .u32 x goal=goal)))/\b=[(oE 3 (wW start goal 1 (kw l))),(oV 4 f8 l)]):=by refine FnOk.enter (rs:=[.t 4]) func99 Z ntmps99 results99 Z ⟨Y,Y⟩ (by kernel_rfl) Z ?_;refine AWP.weak (AWP.gk 1 Z (.j (.drawI mixed Z (d7.D 5 Z (d7.consF Z (fun E=>.bits Z Z Z (by simp) .N) Z ?_)))));refine d7.D 6 Z (d7.done ?_);dsimp only[j6];refine b5 (.ret ?_);obtain rfl:=oi h;exact Done.e Z ⟨Z,Z⟩
def M7{r:Unit}(h:x6 b c=some r):FnOk prog 214 [.c (.own 0 0 (kw b))] (ao5 b c) (fun a d=>a=(cI (kw b:Int))/\d=[.one (prow 1 b),pool 4 d6 c]):=by refine FnOk.enter (rs:=[.t 2]) func214 Z ntmps214 results214 Z ⟨Y,Y⟩ (by kernel_rfl) Z ?_;refine AWP.weak (AWP.gk 1 Z (.gs 1 Z (.lenOwnB Z Z Z (fun f=>.ge 1 Z (.ret ?_)))));obtain rfl:=oi h;exact Done.e Z ⟨Z,Z⟩
def K6{r:Bool}(h:x4 x y b c=some r):FnOk prog 215 [.c (.own 0 0 (kw b)),(cI x),(cI y)] (ao1 x y b c) (fun o p=>o=(cB r)/\p=[.one (prow 1 b),pool 4 d6 c]):=by refine FnOk.enter (rs:=[.t 6]) func215 Z ntmps215 results215 Z ⟨Y,Y⟩ (by kernel_rfl) Z ?_;refine AWP.weak (AWP.gk 1 Z ?_);obtain⟨u,g,j,a,q,f,h⟩:=b3 h;obtain⟨k,d,h⟩:=bind_some h;refine AWP.seqJ (⟨[(6,(cB ((decide (j.key<k.key))||((decide (j.key=k.key)) && (decide (j.time<k.time))))))],[.one (prow 1 b),pool 4 d6 c]⟩) ?_ ?_;rcases bft (decide (j.key<k.key)) with i|i;refine AWP.drawI mixed Z (d7.D 2 Z (d7.consF Z (fun E=>S.idxPb Z Z Z (by simpa only[lS] using J0 g) Z Z .N) Z (.consF Z (fun E=>S.loadP g Z Z Z Z .N) Z (.consF Z (fun E=>S.nilCheckE Z Z (by simpa only[lS] using j8 a) Z .N) Z (.consF Z (fun E=>S.fieldE Z Z Z (by simpa only[lS] using j8 a) Z .N) Z (.consF Z (fun E=>.load Z Z (F4 Z a) Z Z Z .N) Z (d7.D 2 Z (d7.consF Z (fun E=>S.idxPb Z Z Z (by simpa only[lS] using J0 f) Z Z .N) Z (.consF Z (fun E=>S.loadP f Z Z Z Z .N) Z (.consF Z (fun E=>S.nilCheckE Z Z (by simpa only[lS] using j8 d) Z .N) Z (.consF Z (fun E=>S.fieldE Z Z Z (by simpa only[lS] using j8 d) Z .N) Z (.consF Z (fun E=>.load Z Z (F4 Z d) Z Z Z .N) Z (d7.D 2 Z (d7.K Z i Z (d7.D 34 Z (d7.done ?_))))))))))))))));dsimp only[j6];refine b5 ?_;simp only[ad9 i,or_t i,iW,jc,iV,iX];exact Sub.en Z;rcases bft (decide (j.key=k.key)) with n|n;refine AWP.drawI mixed Z (d7.D 2 Z (d7.consF Z (fun E=>S.idxPb Z Z Z (by simpa only[lS] using J0 g) Z Z .N) Z (.consF Z (fun E=>S.loadP g Z Z Z Z .N) Z (.consF Z (fun E=>S.nilCheckE Z Z (by simpa only[lS] using j8 a) Z .N) Z (.consF Z (fun E=>S.fieldE Z Z Z (by simpa only[lS] using j8 a) Z .N) Z (.consF Z (fun E=>.load Z Z (F4 Z a) Z Z Z .N) Z (d7.D 2 Z (d7.consF Z (fun E=>S.idxPb Z Z Z (by simpa only[lS] using J0 f) Z Z .N) Z (.consF Z (fun E=>S.loadP f Z Z Z Z .N) Z (.consF Z (fun E=>S.nilCheckE Z Z (by simpa only[lS] using j8 d) Z .N) Z (.consF Z (fun E=>S.fieldE Z Z Z (by simpa only[lS] using j8 d) Z .N) Z (.consF Z (fun E=>.load Z Z (F4 Z d) Z Z Z .N) Z (d7.D 2 Z (d7.K Z i Z (d7.D 2 Z (d7.consF Z (fun E=>.F Z Z Z Z (S.idxPb Z Z Z (by simpa only[lS] using J0 g) Z Z .N)) Z (.consF Z (fun E=>.F Z Z Z Z (S.loadP g Z Z Z Z .N)) Z (.consF Z (fun E=>.F Z Z Z Z (S.nilCheckE Z Z (by simpa only[lS] using j8 a) Z .N)) Z (.consF Z (fun E=>.F Z Z Z Z (S.fieldE Z Z Z (by simpa only[lS] using j8 a) Z .N)) Z (.consF Z (fun E=>.F Z Z Z Z (.load Z Z (F4 Z a) Z Z Z .N)) Z (d7.D 2 Z (d7.consF Z (fun E=>.F Z Z Z Z (S.idxPb Z Z Z (by simpa only[lS] using J0 f) Z Z .N)) Z (.consF Z (fun E=>.F Z Z Z Z (S.loadP f Z Z Z Z .N)) Z (.consF Z (fun E=>.F Z Z Z Z (S.nilCheckE Z Z (by simpa only[lS] using j8 d) Z .N)) Z (.consF Z (fun E=>.F Z Z Z Z (S.fieldE Z Z Z (by simpa only[lS] using j8 d) Z .N)) Z (.consF Z (fun E=>.F Z Z Z Z (.load Z Z (F4 Z d) Z Z Z .N)) Z (d7.D 2 Z (d7.K Z n Z (d7.D 2 Z (d7.consF Z (fun E=>.F Z Z Z Z (S.idxPb Z Z Z (by simpa only[lS] using J0 g) Z Z .N)) Z (.consF Z (fun E=>.F Z Z Z Z (S.loadP g Z Z Z Z .N)) Z (.consF Z (fun E=>.F Z Z Z Z (S.nilCheckE Z Z (by simpa only[lS] using j8 a) Z .N)) Z (.consF Z (fun E=>.F Z Z Z Z (S.fieldE Z Z Z (by simpa only[lS] using j8 a) Z .N)) Z (.consF Z (fun E=>.F Z Z Z Z (.load Z Z (F4 Z a) Z Z Z .N)) Z (d7.D 2 Z (d7.consF Z (fun E=>.F Z Z Z Z (S.idxPb Z Z Z (by simpa only[lS] using J0 f) Z Z .N)) Z (.consF Z (fun E=>.F Z Z Z Z (S.loadP f Z Z Z Z .N)) Z (.consF Z (fun E=>.F Z Z Z Z (S.nilCheckE Z Z (by simpa only[lS] using j8 d) Z .N)) Z (.consF Z (fun E=>.F Z Z Z Z (S.fieldE Z Z Z (by simpa only[lS] using j8 d) Z .N)) Z (.consF Z (fun E=>.F Z Z Z Z (.load Z Z (F4 Z d) Z Z Z .N)) Z (d7.D 4 Z (d7.done ?_))))))))))))))))))))))))))))))))))))))))));dsimp only[j6];refine b5 ?_;simp only[aa6 i,or_f i,ad9 n,or_t n,iW,jc,iV,iX];exact Sub.en Z;refine AWP.drawI mixed Z (d7.D 2 Z (d7.consF Z (fun E=>S.idxPb Z Z Z (by simpa only[lS] using J0 g) Z Z .N) Z (.consF Z (fun E=>S.loadP g Z Z Z Z .N) Z (.consF Z (fun E=>S.nilCheckE Z Z (by simpa only[lS] using j8 a) Z .N) Z (.consF Z (fun E=>S.fieldE Z Z Z (by simpa only[lS] using j8 a) Z .N) Z (.consF Z (fun E=>.load Z Z (F4 Z a) Z Z Z .N) Z (d7.D 2 Z (d7.consF Z (fun E=>S.idxPb Z Z Z (by simpa only[lS] using J0 f) Z Z .N) Z (.consF Z (fun E=>S.loadP f Z Z Z Z .N) Z (.consF Z (fun E=>S.nilCheckE Z Z (by simpa only[lS] using j8 d) Z .N) Z (.consF Z (fun E=>S.fieldE Z Z Z (by simpa only[lS] using j8 d) Z .N) Z (.consF Z (fun E=>.load Z Z (F4 Z d) Z Z Z .N) Z (d7.D 2 Z (d7.K Z i Z (d7.D 2 Z (d7.consF Z (fun E=>.F Z Z Z Z (S.idxPb Z Z Z (by simpa only[lS] using J0 g) Z Z .N)) Z (.consF Z (fun E=>.F Z Z Z Z (S.loadP g Z Z Z Z .N)) Z (.consF Z (fun E=>.F Z Z Z Z (S.nilCheckE Z Z (by simpa only[lS] using j8 a) Z .N)) Z (.consF Z (fun E=>.F Z Z Z Z (S.fieldE Z Z Z (by simpa only[lS] using j8 a) Z .N)) Z (.consF Z (fun E=>.F Z Z Z Z (.load Z Z (F4 Z a) Z Z Z .N)) Z (d7.D 2 Z (d7.consF Z (fun E=>.F Z Z Z Z (S.idxPb Z Z Z (by simpa only[lS] using J0 f) Z Z .N)) Z (.consF Z (fun E=>.F Z Z Z Z (S.loadP f Z Z Z Z .N)) Z (.consF Z (fun E=>.F Z Z Z Z (S.nilCheckE Z Z (by simpa only[lS] using j8 d) Z .N)) Z (.consF Z (fun E=>.F Z Z Z Z (S.fieldE Z Z Z (by simpa only[lS] using j8 d) Z .N)) Z (.consF Z (fun E=>.F Z Z Z Z (.load Z Z (F4 Z d) Z Z Z .N)) Z (d7.D 2 Z (d7.K Z n Z (d7.D 18 Z (d7.done ?_))))))))))))))))))))))))))))));dsimp only[j6];refine b5 ?_;simp only[aa6 i,or_f i,aa6 n,or_f n,iW,jc,iV,iX];exact Sub.en Z;refine AWP.ret ?_;obtain rfl:=oi h;exact Done.e Z ⟨Z,Z⟩
def K5(h:v7 x y b c=some d):FnOk prog 216 [.c (.own 0 0 (kw b)),(cI x),(cI y)] (ao0 x y b c) (fun w z=>w=.tup []/\z=[.one (prow 1 d.1),pool 4 d6 d.2]):=by refine FnOk.enter (rs:=[]) func216 Z ntmps216 results216 Z Y (by kernel_rfl) Z ?_;refine AWP.weak (AWP.j (bC h fun q e s f h=>.drawEI [13,15] mixed Z Z Z (b7.D 6 Z Z (b7.consN Z Z (fun E=>S.idxPb Z Z Z (by simpa only[lS] using J0 e) Z Z .N) Z (.consN Z Z (fun E=>S.loadP e Z Z Z Z .N) Z (b7.D 2 Z Z (b7.consN Z Z (fun E=>S.idxPb Z Z Z (by simpa only[lS] using J0 f) Z Z .N) Z (.consN Z Z (fun E=>S.loadP f Z Z Z Z .N) Z (.consN Z Z (fun E=>S.idxPb Z Z Z (by simpa only[lS] using J0 f) Z Z .N) Z ?_)))))))));apply b7.consE (v:=.undef);exact Z;exact Z;intro E;refine S.storeP (a:=q) (by simpa only[lS] using j8 f) Z Z Z Z .N;exact Z;exact Z;refine b7.consN Z Z (fun E=>S.idxPb Z Z (by simp only[lS]) (by simpa only[lS] using J0 e) Z Z .N) Z ?_;apply b7.consE (v:=.undef);exact Z;exact Z;intro E;refine S.storeP (a:=s) (by simpa only[lS] using j8 e) Z Z Z Z .N;exact Z;exact Z;refine b7.done Z ?_ ?_;refine d9.D 6 Z Z (d9.cons Z Z (.go Z Z (fun E=>S.idxPb Z Z Z (by simpa only[lS] using J0 e) Z Z .N) (.skip Z (.skip Z .nil))) (.cons Z Z (.go Z Z (fun E=>S.loadP e Z Z Z Z .N) (.skip Z (.skip Z .nil))) (d9.D 2 Z Z (d9.cons Z Z (.go Z Z (fun E=>S.idxPb Z Z Z (by simpa only[lS] using J0 f) Z Z .N) (.skip Z (.skip Z .nil))) (.cons Z Z (.go Z Z (fun E=>S.loadP f Z Z Z Z .N) (.skip Z (.skip Z .nil))) (.cons Z Z (.go Z Z (fun E=>S.idxPb Z Z Z (by simpa only[lS] using J0 f) Z Z .N) (.skip Z (.skip Z .nil))) (d9.D 1 Z Z (d9.cons Z Z ?_ ?_))))))));refine i6.skip Z (i6.go Z Z (fun E=>S.idxPb Z Z (by simp only[lS]) (by simpa only[lS] using J0 e) Z Z .N) ?_);refine i6.skip Z (i6.nil);refine d9.D 1 Z Z (d9.nil);dsimp only[j6];refine b5 ?_;obtain⟨t,o,u,p,k,g,h⟩:=b3 h;obtain⟨n,i,h⟩:=bind_some h;refine AWP.drawEI [12,15] mixed Z Z Z (b7.D 2 Z Z (b7.consN Z Z (fun E=>S.idxPb Z Z (by simp only[lS]) (by simpa only[lS] using J0 f) Z Z .N) Z (.consN Z Z (fun E=>S.loadP o Z Z Z Z .N) Z (b7.D 2 Z Z (b7.consN Z Z (fun E=>S.idxPb Z Z (by simp only[lS]) (by simpa only[lS] using J0 e) Z Z .N) Z (.consN Z Z (fun E=>S.loadP p Z Z Z Z .N) Z (b7.D 2 Z Z (b7.consN Z Z (fun E=>S.nilCheckE Z Z (by simpa only[lS] using j8 g) Z .N) Z (.consN Z Z (fun E=>S.fieldE Z Z Z (by simpa only[lS] using j8 g) Z .N) Z ?_)))))))));apply b7.consE (v:=.undef);exact Z;exact Z;intro E;refine S.storeE (e':=(⟨k.item,k.key,k.time,x⟩:b9)) g Z Z Z Z Z Z .N;exact Z;exact Z;refine b7.consN Z Z (fun E=>S.nilCheckE Z Z (by simpa only[lS] using j8 i) Z .N) Z (.consN Z Z (fun E=>S.fieldE Z Z Z (by simpa only[lS] using j8 i) Z .N) Z ?_);apply b7.consE (v:=.undef);exact Z;exact Z;intro E;refine S.storeE (e':=(⟨n.item,n.key,n.time,y⟩:b9)) i Z Z Z Z Z Z .N;exact Z;exact Z;refine b7.done Z ?_ ?_;refine d9.D 2 Z Z (d9.cons Z Z (.go Z Z (fun E=>S.idxPb Z Z (by simp only[lS]) (by simpa only[lS] using J0 f) Z Z .N) (.skip Z (.skip Z .nil))) (.cons Z Z (.go Z Z (fun E=>S.loadP o Z Z Z Z .N) (.skip Z (.skip Z .nil))) (d9.D 2 Z Z (d9.cons Z Z (.go Z Z (fun E=>S.idxPb Z Z (by simp only[lS]) (by simpa only[lS] using J0 e) Z Z .N) (.skip Z (.skip Z .nil))) (.cons Z Z (.go Z Z (fun E=>S.loadP p Z Z Z Z .N) (.skip Z (.skip Z .nil))) (d9.D 2 Z Z (d9.cons Z Z (.go Z Z (fun E=>S.nilCheckE Z Z (by simpa only[lS] using j8 g) Z .N) (.skip Z (.skip Z .nil))) (.cons Z Z (.go Z Z (fun E=>S.fieldE Z Z Z (by simpa only[lS] using j8 g) Z .N) (.skip Z (.skip Z .nil))) (d9.D 1 Z Z (d9.cons Z Z ?_ ?_))))))))));refine i6.skip Z (i6.go Z Z (fun E=>S.nilCheckE Z Z (by simpa only[lS] using j8 i) Z .N) ?_);refine i6.skip Z (i6.nil);refine d9.cons Z Z ?_ ?_;refine i6.skip Z (i6.go Z Z (fun E=>S.fieldE Z Z Z (by simpa only[lS] using j8 i) Z .N) ?_);refine i6.skip Z (i6.nil);refine d9.D 1 Z Z (d9.nil);dsimp only[j6];obtain rfl:=oi h;exact⟨⟨[],[.one (prow 1 ((b.set x.toNat q).set y.toNat s)),pool 4 d6 ((c.set t.toNat (⟨k.item,k.key,k.time,x⟩:b9)).set u.toNat (⟨n.item,n.key,n.time,y⟩:b9))]⟩,Sub.env Y,Done.normal Z ⟨Z,Z⟩⟩
def ag3{time:Int}{r:Li×(List b9)×Bool}(h:F3 x y time b f c=some r):FnOk prog 149 [.c (.ifc 197 [.ptr 0 0 0] false),(cI x),(cI y)] (ah3 x y time b f c) (fun U V=>U=(cB r.2.2)/\V=[(oE 3 [.own 1 0 r.1.length,.map 2,int time]),.one (prow 3 r.1),.one (pmap 3 vU f),pool 4 d6 r.2.1]):=by
 refine FnOk.enter (rs:=[.t 6]) func149 Z ntmps149 results149 Z ⟨Y,Y⟩ (by kernel_rfl) Z ?_;refine AWP.weak (AWP.gk 1 Z (.gk 2 Z (.j (.u ?_))));obtain⟨⟨w,A,v⟩,N,h⟩:=bind_some h;refine AWP.loopS N (fun(k,z,a)=>⟨[(0,.c (.ifc 197 [.ptr 0 0 0] false)),(1,(cI x)),(2,(cI y)),(7,(cI a))],[(oE 3 [.own 1 0 (kw k),.map 2,int time]),.one (prow 3 k),.one (pmap 3 vU f),pool 4 d6 z]⟩) (fun(w,A,v) e st=>e=.exit 0/\Sub (ah3 x y time b f c) st ⟨[(1,(cI x)),(7,(cI v))],[(oE 3 [.own 1 0 (kw w),.map 2,int time]),.one (prow 3 w),.one (pmap 3 vU f),pool 4 d6 A]⟩) ?_ ?_ ?_;exact Sub.en Z;intro s o h;obtain⟨k,z,a⟩:=s;refine AWP.u (.gk 4 Z (.j (.seqJ (⟨[(0,.c (.ifc 197 [.ptr 0 0 0] false)),(1,(cI x)),(2,(cI y)),(7,(cI a)),(8,(cI (w64 ((w64 (2 * a))+1)))),(21,(cB ((decide (y<=w64 ((w64 (2 * a))+1)))||(decide (w64 ((w64 (2 * a))+1)<0)))))],[(oE 3 [.own 1 0 (kw k),.map 2,int time]),.one (prow 3 k),.one (pmap 3 vU f),pool 4 d6 z]⟩) ?_ ?_)));rcases bft (decide (y<=w64 ((w64 (2 * a))+1))) with p|p;refine AWP.G 4 Z (.K Z Z p (.G 3 Z (.nil (b5 ?_))));simp only[ad9 p,or_t p,iW,jc,iV,iX];exact Sub.en Z;refine AWP.G 4 Z (.K Z Z p (.G 3 Z (.nil (b5 ?_))));simp only[aa6 p,or_f p,iW,jc,iV,iX];exact Sub.en Z;refine AWP.O Z h (fun B h=> ?_) (fun B h=> ?_);refine AWP.exit (j9 (aa4 Z ?_));obtain rfl:=oi h;exact j9 ⟨_,Z,Z,(Sub.en Z)⟩;refine AWP.skip (b5 (.gk 2 Z (bB h fun P g h=>.jP [0,1,2,7] [(9,(cI P))] Z ?_ ?_)));refine AWP.gk 3 Z (bB g fun t69 d g=>.jP [0,1,2,7,9,10] [(33,(cB t69))] Z ?_ ?_);rcases bft (decide (w64 ((w64 ((w64 (2 * a))+1))+1)<y)) with i|i;replace d:=V7 i d;obtain⟨X,D,d⟩:=bind_some d;refine AWP.G 4 Z (.K Z Z i (.G 3 Z (.F Z Z Z Z (S.invokeV Z Z Z Z Z Z Z (FnOk.ld [1,3] (K6 D) Z Z Z (.e (.one (n7 Z)) Z (.one (k9 fun _=>Z)) (.e (.any x8) Z RenE.pool .n)) Z (.o Z Z (.e (e:=.one (prow 3 k)) 0 Z Z (.one (k9 fun _=>Z)) (.o Z Z (.e 1 Z Z RenE.pool .n)))) Z) (.G 1 Z (.nil ?_))))));obtain rfl:=oi d;refine b5 (Sub.en Z);replace d:=V3 i d;refine AWP.G 4 Z (.K Z Z i (.G 5 Z (.nil ?_)));obtain rfl:=oi d;refine b5 (Sub.en Z);refine AWP.O Z g (fun E g=> ?_) (fun E g=> ?_);refine AWP.G 2 Z (.nil ?_);obtain rfl:=oi g;refine b5 (Sub.en Z);refine AWP.skip ?_;obtain rfl:=oi g;refine b5 (Sub.en Z);refine AWP.j (.j (bB h fun l H h=>.G 3 Z (S.invokeV Z Z Z Z Z Z Z (FnOk.ld [1,3] (K6 H) Z Z Z (.e (.one (n7 Z)) Z (.one (k9 fun _=>Z)) (.e (.any x8) Z RenE.pool .n)) Z (.o Z Z (.e (e:=.one (prow 3 k)) 0 Z Z (.one (k9 fun _=>Z)) (.o Z Z (.e 1 Z Z RenE.pool .n)))) Z) (.not Z Z (.nil (b5 (.O Z h (fun J h=> ?_) (fun J h=> ?_))))))));refine AWP.exit (j9 (aa4 Z ?_));obtain rfl:=oi h;exact j9 ⟨_,Z,Z,(Sub.en Z)⟩;refine AWP.skip (b5 (.j (bC h fun Q L aa M h=>.G 3 Z (S.invokeV Z Z Z Z Z Z Z (FnOk.ld [1,3] (K5 L) Z Z Z (.e (.one (n7 Z)) Z (.one (k9 fun _=>Z)) (.e (.any x8) Z RenE.pool .n)) Z (.o Z Z (.e (e:=.one (prow 3 Q.1)) 0 Z Z (.one (k9 fun _=>Z)) (.o Z Z (.e 1 Z Z RenE.pool .n)))) Z) (.nil (b5 (.G 2 Z (.nil (d8 ?_)))))))));obtain rfl:=oi h;refine b5 ⟨_,Z,?_⟩;exact Sub.ct Z Z (.q Z (by first|rfl|rw[(aD6 M)]|(simp only[lS];done)) (.o (n7 Z) (.o (q8 Z) (.e (.any x8) .n))))
 intro e s hq;obtain⟨rfl,hs⟩:=hq;refine ⟨_,hs,(g8 (b5 (.gk 4 Z (.ret ?_))))⟩;obtain rfl:=oi h;exact Done.e Z ⟨Z,Z⟩
def aj5{time:Int}(h:I5 x time b f c=some d):FnOk prog 150 [.c (.ifc 197 [.ptr 0 0 0] false),(cI x)] (aj8 x time b f c) (fun H L=>H=.tup []/\L=[(oE 3 [.own 1 0 d.1.length,.map 2,int time]),.one (prow 3 d.1),.one (pmap 3 vU f),pool 4 d6 d.2]):=by
 refine FnOk.enter (rs:=[]) func150 Z ntmps150 results150 Z Y (by kernel_rfl) Z ?_;refine AWP.weak ?_;unfold I5 at h;refine AWP.u ?_;obtain⟨⟨i,t⟩,B,h⟩:=bind_some h;refine AWP.loopS B (fun(k,v,p)=>⟨[(0,.c (.ifc 197 [.ptr 0 0 0] false)),(1,(cI p))],[(oE 3 [.own 1 0 (kw k),.map 2,int time]),.one (prow 3 k),.one (pmap 3 vU f),pool 4 d6 v]⟩) (fun(i,t) e st=>e=.exit 0/\Sub (aj8 x time b f c) st ⟨[],[(oE 3 [.own 1 0 (kw i),.map 2,int time]),.one (prow 3 i),.one (pmap 3 vU f),pool 4 d6 t]⟩) ?_ ?_ ?_;exact Sub.en Z;intro s o h;obtain⟨k,v,p⟩:=s;unfold O7 at h;refine AWP.u (.j (bB h fun V D h=>.G 2 Z (S.quo D Z Z Z (.J Z Z (.nil (b5 (.j (bB h fun t63 a h=>.jP [0,1,4] [(17,(cB t63))] Z ?_ ?_))))))));rcases bft (decide (w64 ((w64 (p - 1)).tdiv 2)=p)) with g|g;replace a:=V7 g a;refine AWP.G 4 Z (.K Z Z g (.G 6 Z (.nil ?_)));obtain rfl:=oi a;refine b5 (Sub.en Z);replace a:=V3 g a;obtain⟨M,w,a⟩:=bind_some a;refine AWP.G 4 Z (.K Z Z g (.G 3 Z (.F Z Z Z Z (S.invokeV Z Z Z Z Z Z Z (FnOk.ld [1,3] (K6 w) Z Z Z (.e (.one (n7 Z)) Z (.one (k9 fun _=>Z)) (.e (.any x8) Z RenE.pool .n)) Z (.o Z Z (.e (e:=.one (prow 3 k)) 0 Z Z (.one (k9 fun _=>Z)) (.o Z Z (.e 1 Z Z RenE.pool .n)))) Z) (.G 2 Z (.nil ?_))))));obtain rfl:=oi a;refine b5 (Sub.en Z);refine AWP.O Z h (fun y h=> ?_) (fun y h=> ?_);refine AWP.exit (j9 (aa4 Z ?_));obtain rfl:=oi h;exact j9 ⟨_,Z,Z,(Sub.env Y)⟩;refine AWP.skip (b5 (.j (bC h fun E z N A h=>.G 3 Z (S.invokeV Z Z Z Z Z Z Z (FnOk.ld [1,3] (K5 z) Z Z Z (.e (.one (n7 Z)) Z (.one (k9 fun _=>Z)) (.e (.any x8) Z RenE.pool .n)) Z (.o Z Z (.e (e:=.one (prow 3 E.1)) 0 Z Z (.one (k9 fun _=>Z)) (.o Z Z (.e 1 Z Z RenE.pool .n)))) Z) (.nil (b5 (.G 2 Z (.nil (d8 ?_)))))))));obtain rfl:=oi h;refine b5 ⟨_,Z,?_⟩;exact Sub.ct Z Z (.q Z (by first|rfl|rw[(aD6 A)]|(simp only[lS];done)) (.o (n7 Z) (.o (q8 Z) (.e (.any x8) .n))))
 intro e s P;obtain⟨rfl,Q⟩:=P;refine ⟨_,Q,(g8 ?_)⟩;obtain rfl:=oi h;exact⟨⟨[],[(oE 3 [.own 1 0 (kw i),.map 2,int time]),.one (prow 3 i),.one (pmap 3 vU f),pool 4 d6 t]⟩,Sub.env Y,Done.normal Z ⟨Z,Z⟩⟩
def az2{time:Int}(h:L5 x time b f c=some d):FnOk prog 121 [.c (.ifc 197 [.ptr 0 0 0] false),(cI x)] (az4 x time b f c) (fun s t=>s=.tup []/\t=[(oE 3 [.own 1 0 d.1.length,.map 2,int time]),.one (prow 3 d.1),.one (pmap 3 vU f),pool 4 d6 d.2]):=by refine FnOk.enter (rs:=[]) func121 Z ntmps121 results121 Z Y (by kernel_rfl) Z ?_;refine AWP.weak (AWP.j (bC h fun v p k q h=>.G 3 Z (S.invokeV Z Z Z Z Z Z Z (FnOk.ld [1,3] (M7 p) Z Z Z (.e (.one (n7 Z)) Z (.one (k9 fun _=>Z)) (.e (.any x8) Z RenE.pool .n)) Z (.o Z Z (.e (e:=.one (prow 3 b)) 0 Z Z (.one (k9 fun _=>Z)) (.o Z Z (.e 1 Z Z RenE.pool .n)))) Z) (.callF Z Z Z (FnOk.ld [0,1,2,3] (ag3 q) Z Z Z (.o Z Z (.e (.one (n7 Z)) Z (.one (k9 fun _=>Z)) (.e (.one (q8 Z)) Z (.one (u6 fun _=>Z)) (.e (.any x8) Z RenE.pool .n)))) Z (.b 0 Z Z Z (.e (e:=.one (prow 3 k.1)) 1 Z Z (.one (k9 fun _=>Z)) (.e (e:=.one (pmap 3 vU f)) 2 Z Z (.one (u6 fun _=>Z)) (.e 3 Z Z RenE.pool .n)))) Z) (.not Z Z (.nil (b5 (.O Z h (fun g h=> ?_) (fun g h=> ?_)))))))));obtain⟨a,i,h⟩:=bind_some h;refine AWP.G 2 Z (.callF Z Z Z (FnOk.ld [0,1,2,3] (aj5 i) Z Z Z (.o Z Z (.e (.one (n7 Z)) Z (.one (k9 fun _=>Z)) (.e (.one (q8 Z)) Z (.one (u6 fun _=>Z)) (.e (.any x8) Z RenE.pool .n)))) Z (.b 0 Z Z Z (.e (e:=.one (prow 3 a.1)) 1 Z Z (.one (k9 fun _=>Z)) (.e (e:=.one (pmap 3 vU f)) 2 Z Z (.one (u6 fun _=>Z)) (.e 3 Z Z RenE.pool .n)))) Z) (.nil ?_));obtain rfl:=oi h;exact⟨⟨[],[(oE 3 [.own 1 0 a.1.length,.map 2,int time]),.one (prow 3 a.1),.one (pmap 3 vU f),pool 4 d6 a.2]⟩,Sub.env Y,Done.normal Z ⟨Z,Z⟩⟩;refine AWP.skip ?_;obtain rfl:=oi h;exact⟨⟨[],[(oE 3 [.own 1 0 k.1.length,.map 2,int time]),.one (prow 3 k.1),.one (pmap 3 vU f),pool 4 d6 k.2.1]⟩,Sub.env Y,Done.normal Z ⟨Z,Z⟩⟩
def al9{time:Int}{r:(List b9)×Li}(h:F7 x time c b f=some r):FnOk prog 218 [(cP 0 0 0),.c (.ifc 192 [.ptr (1,[x.toNat]) 0 0] false)] (am0 x time c b f) (fun s t=>s=.tup []/\t=[(oE 3 [.own 6 0 r.2.length,.map 3,int time]),pool 4 d6 r.1,.dead,.one (pmap 1 vU f),.dead,.dead,.one (prow 1 r.2)]):=by refine FnOk.enter (rs:=[]) func218 Z ntmps218 results218 Z Y (by kernel_rfl) Z ?_;refine AWP.weak (AWP.z (env':=[(0,(cP 0 0 0)),(1,.c (.ifc 192 [.ptr (1,[x.toNat]) 0 0] false))]) (σ':=[(oE 3 [.own 4 0 (kw b),.map 3,int time]),pool 4 d6 c,.dead,.one (pmap 1 vU f),.one (prow 1 b)]) 4 2 Z Z Z ⟨Z,Z,Y⟩ Z ⟨⟨Z,Z⟩,(A8.pool Z),Y,⟨q8 Z,H5 Z ab3⟩,⟨n7 Z,H5 Z ab9⟩,Y⟩ (.gs 1 Z (S.assert Z Z Z (.ge 1 Z (.j (bB h fun a g h=>.G 4 Z (.lenOwnB Z Z Z (fun q=>S.nilCheckE Z Z (by simpa only[lS] using j8 g) Z (S.fieldE Z Z Z (by simpa only[lS] using j8 g) Z (S.storeE (e':=(⟨a.item,a.key,a.time,(kw b:Int)⟩:b9)) g Z Z Z Z Z Z (.nil (b5 (bB h fun i k h=>.G 5 Z (W.lit1 Z Z Z Z Z Z Z Z Z (S.appendP k Z Z Z Z Z Z Z Z Z Z Z Z (.G 2 Z (.nil ?_)))))))))))))))));obtain rfl:=oi h;exact⟨⟨[],[(oE 3 [.own 6 0 (kw i),.map 3,int time]),pool 4 d6 (c.set x.toNat (⟨a.item,a.key,a.time,(kw b:Int)⟩:b9)),.dead,.one (pmap 1 vU f),.dead,.dead,.one (prow 1 i)]⟩,Sub.ct Z Z (.o Z (.e (.any x8) (.d (.o (q8 Z) (.d (.d (.o (n7 Z) .n))))))),Done.normal Z ⟨Z,Z⟩⟩
def ax6{time:Int}{r:(List b9)×Li}(h:J9 x time c b f=some r):FnOk prog 122 [.c (.ifc 197 [.ptr 0 0 0] false),.c (.ifc 192 [.ptr (1,[x.toNat]) 0 0] false)] (ay6 x time c b f) (fun q s=>q=.tup []/\s=[(oE 3 [.own 6 0 r.2.length,.map 3,int time]),pool 4 d6 r.1,.dead,.one (pmap 1 vU f),.dead,.dead,.one (prow 1 r.2)]):=by refine FnOk.enter (rs:=[]) func122 Z ntmps122 results122 Z Y (by kernel_rfl) Z ?_;refine AWP.weak (AWP.j (bB h fun p i h=>.G 2 Z (S.invokeP Z Z Z (FnOk.ld [0,1,2,3] (al9 i) Z Z Z (.o Z Z (.e (.any x8) Z RenE.pool (.e (.one (n7 Z)) Z (.one (k9 fun _=>Z)) (.e (.one (q8 Z)) Z (.one (u6 fun _=>Z)) .n)))) Z (.b 0 Z Z Z (.e 1 Z Z RenE.pool (.d (.e (e:=.one (pmap 1 vU f)) 3 Z Z (.one (u6 fun _=>Z)) (.d (.d (.e (e:=.one (prow 1 p.2)) 6 Z Z (.one (k9 fun _=>Z)) .n))))))) Z) (.nil (b5 (bC h fun u k a g h=>.G 2 Z (S.invokeV Z Z Z Z Z Z Z (FnOk.ld [6,1] (M7 k) Z Z Z (.e (.one (n7 Z)) Z (.one (k9 fun _=>Z)) (.e (.any x8) Z RenE.pool .n)) Z (.o Z Z (.e 1 Z Z RenE.pool (.d (.o Z Z (.d (.d (.e (e:=.one (prow 1 p.2)) 0 Z Z (.one (k9 fun _=>Z)) .n))))))) Z) (S.sub Z Z Z (.callF Z Z Z (FnOk.ld [0,6,3,1] (aj5 g) Z Z Z (.o Z Z (.e (.one (n7 Z)) Z (.one (k9 fun _=>Z)) (.e (.one (q8 Z)) Z (.one (u6 fun _=>Z)) (.e (.any x8) Z RenE.pool .n)))) Z (.b 0 Z Z Z (.e 3 Z Z RenE.pool (.d (.e (e:=.one (pmap 1 vU f)) 2 Z Z (.one (u6 fun _=>Z)) (.d (.d (.e (e:=.one (prow 1 a.1)) 1 Z Z (.one (k9 fun _=>Z)) .n))))))) Z) (.nil ?_))))))))));obtain rfl:=oi h;exact⟨⟨[],[(oE 3 [.own 6 0 a.1.length,.map 3,int time]),pool 4 d6 a.2,.dead,.one (pmap 1 vU f),.dead,.dead,.one (prow 1 a.1)]⟩,Sub.env Y,Done.normal Z ⟨Z,Z⟩⟩
def W0{item:Int}{time:Int}{r:(List (Int×Int))×Li×(List b9)}(h:y5 item x time b f c=some r):FnOk prog 100 [(cP 0 0 0),.c (.imm (.val (.int .u32 item))),(cI x)] (an5 item x time b f c) (fun H K=>H=.tup []/\K=[(oE 3 [.own 4 0 r.2.1.length,.map 2,int (w64 (time+1))]),.dead,.one (pmap 5 vU r.1),.dead,.one (prow 5 r.2.1),pool 4 d6 r.2.2]):=by refine FnOk.enter (rs:=[]) func100 Z ntmps100 results100 Z Y (by kernel_rfl) Z ?_;refine AWP.weak (AWP.z (env':=[(0,(cP 0 0 0)),(1,.c (.imm (.val (.int .u32 item)))),(2,(cI x))]) (σ':=[(oE 3 [.own 4 0 (kw b),.map 2,int time]),.dead,.one (pmap 3 vU f),pool 4 d6 c,.one (prow 3 b)]) 4 1 Z Z Z ⟨Z,Z,Z,Y⟩ Z ⟨⟨Z,Z⟩,Y,⟨q8 Z,H5 Z ab3⟩,(A8.pool Z),⟨n7 Z,H5 Z ab9⟩,Y⟩ (.moveM (env':=[(0,(cP 0 0 0)),(1,.c (.imm (.val (.int .u32 item)))),(2,(cI x))]) (σ':=[(oE 3 [.own 4 0 (kw b),.map 2,int time]),.dead,.one (pmap 5 vU f),.dead,.one (prow 5 b),pool 4 d6 c]) 5 3 Z Z Z ⟨Z,Z,Z,Y⟩ Z ⟨(.one Z Z),.dead,(.one (q8 Z) (Q6 Z Z (u6 fun _=>Z))),.dead,(.one (n7 Z) (Q6 Z Z (k9 fun _=>Z))),(EntR.pool Z Z),Y⟩ (AWP.gk 8 Z (.j (.gs 5 Z (S.lookupOkP (fk:=vU) (k:=item) S8 Z Z Z Z Z (.ge 5 Z (.gk 1 Z (.O Z h (fun w h=> ?_) (fun w h=> ?_))))))))));obtain⟨u,p,h⟩:=bind_some h;refine AWP.sub (s':=⟨[(0,(cP 0 0 0)),(1,.c (.imm (.val (.int .u32 item)))),(2,(cI x)),(6,(cP (5,[u.toNat]) 0 0)),(7,(cB (jq (mget f item)))),(9,(cP 0 0 0)),(10,(cP 0 0 0)),(11,(cP 0 0 2)),(12,(cI time)),(13,(cI (w64 (time+1)))),(14,(cP 0 0 0)),(15,(cP 0 0 2)),(17,(cP 0 0 0)),(18,(cP 0 0 0)),(19,(cP 0 0 1)),(20,.c (.map 2)),(21,.c (.imm (.val (.int .u32 item)))),(23,(cP (5,[u.toNat]) 0 0)),(24,(cB (jq (mget f item)))),(25,(cB (jq (mget f item))))],[(oE 3 [.own 4 0 (kw b),.map 2,int (w64 (time+1))]),.dead,.one (pmap 5 vU f),.dead,.one (prow 5 b),pool 4 d6 c]⟩) (Sub.env ⟨Z,Z,Z,(ptrO_some p),Z,Z,Z,Z,Z,Z,Z,Z,Z,Z,Z,Z,Z,(ptrO_some p),Z,Z,Y⟩) (.j (bB h fun i g h=>.G 7 Z (S.nilCheckE Z Z (by simpa only[lS] using j8 g) Z (S.fieldE Z Z Z (by simpa only[lS] using j8 g) Z (S.storeE (e':=(⟨i.item,x,i.time,i.fat⟩:b9)) g Z Z Z Z Z Z (S.nilCheckE Z Z (by simpa only[lS] using j8 g) Z (S.fieldE Z Z Z (by simpa only[lS] using j8 g) Z (S.storeE (e':=(⟨i.item,x,w64 (time+1),i.fat⟩:b9)) (ix_set g) Z Z Z Z Z Z (.nil (b5 (.j (bB h fun q y h=>.drawEI [8] mixed Z Z Z (b7.D 3 Z Z (b7.consN Z Z (fun E=>S.mkIfc Z Z Z .N) Z (b7.D 1 Z Z (b7.consN Z Z (fun E=>S.nilCheckE Z Z (by simpa only[lS] using j8 g) Z .N) Z (.consN Z Z (fun E=>S.fieldE Z Z Z (by simpa only[lS] using j8 g) Z .N) Z (.consN Z Z (fun E=>.load Z Z (F4 Z (ix_set (ix_set g))) Z Z Z .N) Z ?_))))))))))))))))));apply b7.consE;exact Z;exact Z;intro E;refine AOps.callF Z Z Z (FnOk.ld [0,4,2,5] (az2 y) Z Z Z (.o Z Z (.e (.one (n7 Z)) Z (.one (k9 fun _=>Z)) (.e (.one (q8 Z)) Z (.one (u6 fun _=>Z)) (.e (.any x8) Z RenE.pool .n)))) Z (.b 0 Z Z Z (.d (.e (e:=.one (pmap 5 vU f)) 2 Z Z (.one (u6 fun _=>Z)) (.d (.e (e:=.one (prow 5 q.1)) 1 Z Z (.one (k9 fun _=>Z)) (.e 3 Z Z RenE.pool .n)))))) Z) .N;exact Z;exact Z;refine b7.done Z ?_ ?_;exact d9.D 3 Z Z (d9.cons Z Z (.go Z Z (fun E=>S.mkIfc Z Z Z .N) (.skip Z .nil)) (d9.D 1 Z Z (d9.cons Z Z (.go Z Z (fun E=>S.nilCheckE Z Z (by simpa only[lS] using j8 g) Z .N) (.skip Z .nil)) (.cons Z Z (.go Z Z (fun E=>S.fieldE Z Z Z (by simpa only[lS] using j8 g) Z .N) (.skip Z .nil)) (.cons Z Z (.go Z Z (fun E=>.load Z Z (F4 Z (ix_set (ix_set g))) Z Z Z .N) (.skip Z .nil)) (d9.D 1 Z Z (d9.nil)))))));dsimp only[j6];refine b5 (.ret (e9 ?_));obtain rfl:=oi h;exact⟨⟨[],[(oE 3 [.own 4 0 q.1.length,.map 2,int (w64 (time+1))]),.dead,.one (pmap 5 vU f),.dead,.one (prow 5 q.1),pool 4 d6 q.2]⟩,Sub.env Y,Done.ret Z ⟨Z,Z⟩⟩;refine AWP.skip (b5 (.j (bC h fun P A u64 B h=>.G 7 Z (W.box Z Z Z Z Z Z (.sub (Sub.move (env':=[(0,(cP 0 0 0)),(1,.c (.imm (.val (.int .u32 item)))),(2,(cI x)),(7,(cB (jq (mget f item)))),(9,(cP 0 0 0)),(10,(cP 0 0 0)),(11,(cP 0 0 2)),(12,(cI time)),(13,(cI (w64 (time+1)))),(14,(cP 0 0 0)),(15,(cP 0 0 2)),(17,(cP 0 0 0)),(18,(cP 0 0 0)),(19,(cP 0 0 1)),(20,.c (.map 2)),(21,.c (.imm (.val (.int .u32 item)))),(24,(cB (jq (mget f item)))),(25,(cB (jq (mget f item)))),(46,.c (.imm (.val (.int .u32 item)))),(47,(cI x)),(48,(cP 0 0 0)),(49,(cP 0 0 0)),(50,(cP 0 0 2)),(51,(cI (w64 (time+1)))),(52,.agg [.imm (.val (.int .u32 item)),int x,int (w64 (time+1)),int 0]),(53,(cP (5,[(kw c:Int).toNat]) 0 0))]) (σ':=[(oE 3 [.own 4 0 (kw b),.map 2,int (w64 (time+1))]),.dead,.one (pmap 5 vU f),.dead,.one (prow 5 b),pool 4 d6 (c++[(⟨item,x,w64 (time+1),0⟩:b9)])]) (5,[kw c]) (6,[]) Z Z Z ⟨Z,Z,Z,Z,Z,Z,Z,Z,Z,Z,Z,Z,Z,Z,Z,Z,Z,Z,Z,Z,Z,Z,Z,Z,Z,ptr_adopt,Y⟩ Z ⟨⟨Z,Z⟩,Y,⟨q8 Z,aA3 Z (pmap_adopt A) mv_root⟩,Y,⟨n7 Z,aA3 Z (prow_adopt B) mv_root⟩,(A8.adopt Z Z),Y⟩) (.J Z Z (.nil (b5 (.gs 6 Z (S.mapUpdateP (fk:=vU) (k:=item) (a:=(kw c:Int)) S8 Z Z Z Z Z (.ne (bB h fun s F h=>.G 3 Z (S.mkIfc Z Z Z (.z Z Z (S.mkIfc Z Z Z (.callF Z Z Z (FnOk.ld [0,5,4,2] (ax6 F) Z Z Z (.o Z Z (.e (.any x8) Z RenE.pool (.e (.one (n7 Z)) Z (.one (k9 fun _=>Z)) (.e (.one (q8 Z)) Z (.one (u6 fun _=>Z)) .n)))) Z (.b 0 Z Z Z (.d (.e (e:=.one (pmap 5 vU (mset f item (kw c:Int)))) 3 Z Z (.one (u6 fun _=>Z)) (.d (.d (.e 1 Z Z RenE.pool (.d (.d (.e (e:=.one (prow 5 s.2)) 6 Z Z (.one (k9 fun _=>Z)) .n))))))))) Z) (.nil ?_)))))))))))))))));obtain rfl:=oi h;exact⟨⟨[],[(oE 3 [.own 4 0 s.2.length,.map 2,int (w64 (time+1))]),.dead,.one (pmap 5 vU (mset f item (kw c:Int))),.dead,.one (prow 5 s.2),pool 4 d6 s.1]⟩,Sub.mv 4 8 Z Z (.o Z Z (.d (.e ⟨q8 Z,H5 Z ab3⟩ (.d (.e ⟨n7 Z,H5 Z ab9⟩ (.e (A8.pool Z) .n)))))),Done.normal Z ⟨Z,Z⟩⟩
def ao7{time:Int}{r:Unit}(h:I3 time b f c=some r):FnOk prog 102 [(cP 0 0 0)] (ap0 time b f c) (fun a d=>a=(cI (kw b:Int))/\d=[(oE 3 [.own 1 0 (kw b),.map 2,int time]),.one (prow 3 b),.one (pmap 3 vU f),pool 4 d6 c]):=by refine FnOk.enter (rs:=[.t 2]) func102 Z ntmps102 results102 Z ⟨Y,Y⟩ (by kernel_rfl) Z ?_;refine AWP.weak (AWP.gk 1 Z (.gs 4 Z (.lenOwnB Z Z Z (fun g=>.ge 1 Z (.ret ?_)))));obtain rfl:=oi h;exact Done.e Z ⟨Z,Z⟩
def an6{time:Int}{r:Li×Int}(h:H0 time b f c=some r):FnOk prog 217 [(cP 0 0 0)] (an7 time b f c) (fun p q=>p=.c (.ifc 192 [.ptr (3,[r.2.toNat]) 0 0] false)/\q=[(oE 3 [.own 5 0 r.1.length,.map 2,int time]),.dead,.one (pmap 3 vU f),pool 4 d6 c,.dead,.one (prow 3 r.1)]):=by refine FnOk.enter (rs:=[.t 2]) func217 Z ntmps217 results217 Z ⟨Y,Y⟩ (by kernel_rfl) Z ?_;refine AWP.weak (AWP.z (env':=[(0,(cP 0 0 0))]) (σ':=[(oE 3 [.own 4 0 (kw b),.map 2,int time]),.dead,.one (pmap 3 vU f),pool 4 d6 c,.one (prow 3 b)]) 4 1 Z Z Z ⟨Z,Y⟩ Z ⟨⟨Z,Z⟩,Y,⟨q8 Z,H5 Z ab3⟩,(A8.pool Z),⟨n7 Z,H5 Z ab9⟩,Y⟩ (.gk 1 Z (.gk 4 Z (.j (bB h fun i a h=>.G 2 Z (.lenOwnB Z Z Z (fun n=>.sub' Z Z Z (by omega) (S.idxPb Z Z Z (by simpa only[lS] using J0 a) Z Z (S.loadP a Z Z Z Z (.J Z Z (.nil (b5 (.j (bB h fun k d h=>.G 3 Z (.lenOwnB Z Z Z (fun o=>.sub' Z Z Z (by omega) (S.shrinkP d Z Z Z Z Z (.sub (Sub.reownP (env':=[(0,(cP 0 0 0)),(2,.c (.imm (.val .nilIface))),(4,(cP (3,[i.toNat]) 0 0)),(5,(cP 0 0 0)),(6,(cP 0 0 0)),(10,(cI (kw b:Int))),(11,(cI ((kw b:Int) - 1))),(13,(cP (3,[i.toNat]) 0 0)),(14,(cP 0 0 0)),(17,(cI (kw b:Int))),(18,(cI ((kw b:Int) - 1))),(19,.c (.own 5 0 (kw k)))]) 19 d Z Z Z Z Z Z Z (by exact⟨.inr Z,.inr Z,.inr Z,.inr Z,.inr Z,.inr Z,.inr Z,.inr Z,.inr Z,.inr Z,.inr Z,.inl ⟨Z,Z⟩,Y⟩)) (.G 2 Z (.nil (b5 (.gs 1 Z (S.mkIfc Z Z Z (.ge 1 Z (.ret ?_)))))))))))))))))))))))));obtain rfl:=oi h;exact Done.e Z ⟨Z,Z⟩
def az0{time:Int}{r:(List b9)×Li×Int}(h:M6 time b f c=some r):FnOk prog 124 [.c (.ifc 197 [.ptr 0 0 0] false)] (ay8 time b f c) (fun v w=>v=.c (.ifc 192 [.ptr (3,[r.2.2.toNat]) 0 0] false)/\w=[(oE 3 [.own 5 0 r.2.1.length,.map 2,int time]),.dead,.one (pmap 3 vU f),pool 4 d6 r.1,.dead,.one (prow 3 r.2.1)]):=by refine FnOk.enter (rs:=[.t 2]) func124 Z ntmps124 results124 Z ⟨Y,Y⟩ (by kernel_rfl) Z ?_;refine AWP.weak (AWP.gk 1 Z (.j (bB h fun z p h=>.G 1 Z (S.invokeV Z Z Z Z Z Z Z (FnOk.ld [1,3] (M7 p) Z Z Z (.e (.one (n7 Z)) Z (.one (k9 fun _=>Z)) (.e (.any x8) Z RenE.pool .n)) Z (.o Z Z (.e (e:=.one (prow 3 b)) 0 Z Z (.one (k9 fun _=>Z)) (.o Z Z (.e 1 Z Z RenE.pool .n)))) Z) (.G 2 Z (.nil (b5 (.j (bC h fun k q x a h=>.G 2 Z (S.invokeV Z Z Z Z Z Z Z (FnOk.ld [1,3] (K5 q) Z Z Z (.e (.one (n7 Z)) Z (.one (k9 fun _=>Z)) (.e (.any x8) Z RenE.pool .n)) Z (.o Z Z (.e (e:=.one (prow 3 k.1)) 0 Z Z (.one (k9 fun _=>Z)) (.o Z Z (.e 1 Z Z RenE.pool .n)))) Z) (.nil (b5 (.j (bB h fun s g h=>.G 2 Z (.sub (s':=⟨[(0,.c (.ifc 197 [.ptr 0 0 0] false)),(2,.c (.imm (.val .nilIface))),(3,(cI (w64 ((kw b:Int) - 1)))),(4,.c (.ifc 197 [.ptr 0 0 0] false)),(5,(cI (kw b:Int))),(6,(cI (w64 ((kw b:Int) - 1)))),(7,.c (.ifc 197 [.ptr 0 0 0] false)),(8,(cI (w64 ((kw b:Int) - 1)))),(9,.tup []),(10,.c (.ifc 197 [.ptr 0 0 0] false)),(11,(cI (w64 ((kw b:Int) - 1))))],[(oE 3 [.own 1 0 k.1.length,.map 2,int time]),.one (prow 3 k.1),.one (pmap 3 vU f),pool 4 d6 k.2]⟩) (Sub.cut ⟨Z,Z,Z,Z,Z,Z,Z,Z,Z,Z,Z,Y⟩ Z ⟨(.eq Z (by rw[(aD6 a)])),(.one (n7 Z)),(.one (q8 Z)),(.any x8),Y⟩ Z) (.callF Z Z Z (FnOk.ld [0,1,2,3] (ag3 g) Z Z Z (.o Z Z (.e (.one (n7 Z)) Z (.one (k9 fun _=>Z)) (.e (.one (q8 Z)) Z (.one (u6 fun _=>Z)) (.e (.any x8) Z RenE.pool .n)))) Z (.b 0 Z Z Z (.e (e:=.one (prow 3 s.1)) 1 Z Z (.one (k9 fun _=>Z)) (.e (e:=.one (pmap 3 vU f)) 2 Z Z (.one (u6 fun _=>Z)) (.e 3 Z Z RenE.pool .n)))) Z) (.nil (b5 (.j (bB h fun u i h=>.G 1 Z (S.invokeP Z Z Z (FnOk.ld [0,1,2,3] (an6 i) Z Z Z (.o Z Z (.e (.one (n7 Z)) Z (.one (k9 fun _=>Z)) (.e (.one (q8 Z)) Z (.one (u6 fun _=>Z)) (.e (.any x8) Z RenE.pool .n)))) Z (.b 0 Z Z Z (.d (.e (e:=.one (pmap 3 vU f)) 2 Z Z (.one (u6 fun _=>Z)) (.e 3 Z Z RenE.pool (.d (.e (e:=.one (prow 3 u.1)) 5 Z Z (.one (k9 fun _=>Z)) .n)))))) Z) (.J Z Z (.nil (b5 (.ret ?_)))))))))))))))))))))))));obtain rfl:=oi h;exact Done.e Z ⟨Z,Z⟩
def al3{time:Int}{r:(List (Int×Int))×(List b9)×Li×Int×Int×Bool}(h:C6 time b f c=some r):FnOk prog 103 [(cP 0 0 0)] (am1 time b f c) (fun w x=>w=.tup [.c (.imm (.val (.int .u32 r.2.2.2.1))),(cI r.2.2.2.2.1),(cB r.2.2.2.2.2)]/\x=[(oE 3 [.own 4 0 r.2.2.1.length,.map 2,int time]),.dead,.one (pmap 3 vU r.1),pool 4 d6 r.2.1,.one (prow 3 r.2.2.1)]):=by refine FnOk.enter (rs:=[.t 2,.t 3,.t 4]) func103 Z ntmps103 results103 Z ⟨Y,Y,Y,Y⟩ (by kernel_rfl) Z ?_;refine AWP.weak (AWP.z (env':=[(0,(cP 0 0 0))]) (σ':=[(oE 3 [.own 4 0 (kw b),.map 2,int time]),.dead,.one (pmap 3 vU f),pool 4 d6 c,.one (prow 3 b)]) 4 1 Z Z Z ⟨Z,Y⟩ Z ⟨⟨Z,Z⟩,Y,⟨q8 Z,H5 Z ab3⟩,(A8.pool Z),⟨n7 Z,H5 Z ab9⟩,Y⟩ (.gk 3 Z (.j (.gs 4 Z (.lenOwnB Z Z Z (fun u=>.ge 1 Z (.U Z h (fun p h=> ?_) (fun p h=> ?_))))))));refine AWP.gk 4 Z (.ret (e9 ?_));obtain rfl:=oi h;exact Done.e Z ⟨Z,Z⟩;refine AWP.skip (b5 (.j (bB h fun i q h=>.G 3 Z (S.mkIfc Z Z Z (.callF Z Z Z (FnOk.ld [0,4,2,3] (az0 q) Z Z Z (.o Z Z (.e (.one (n7 Z)) Z (.one (k9 fun _=>Z)) (.e (.one (q8 Z)) Z (.one (u6 fun _=>Z)) (.e (.any x8) Z RenE.pool .n)))) Z (.b 0 Z Z Z (.d (.e (e:=.one (pmap 3 vU f)) 2 Z Z (.one (u6 fun _=>Z)) (.e 3 Z Z RenE.pool (.d (.d (.e (e:=.one (prow 3 i.2.1)) 5 Z Z (.one (k9 fun _=>Z)) .n))))))) Z) (S.assert Z Z Z (.J Z Z (.nil (b5 (.j (bB h fun g a h=>.drawEI [8] mixed Z Z Z (b7.D 5 Z Z (b7.consN Z Z (fun E=>S.nilCheckE Z Z (by simpa only[lS] using j8 a) Z .N) Z (.consN Z Z (fun E=>S.fieldE Z Z Z (by simpa only[lS] using j8 a) Z .N) Z (.consN Z Z (fun E=>.load Z Z (F4 Z a) Z Z Z .N) Z ?_)))))))))))))));apply b7.consE (v:=.undef);exact Z;exact Z;intro E;refine S.deleteP (fk:=vU) (k:=g.item) S8 Z Z Z Z Z .N;exact Z;exact Z;refine b7.done Z ?_ ?_;exact d9.D 5 Z Z (d9.cons Z Z (.go Z Z (fun E=>S.nilCheckE Z Z (by simpa only[lS] using j8 a) Z .N) (.skip Z .nil)) (.cons Z Z (.go Z Z (fun E=>S.fieldE Z Z Z (by simpa only[lS] using j8 a) Z .N) (.skip Z .nil)) (.cons Z Z (.go Z Z (fun E=>.load Z Z (F4 Z a) Z Z Z .N) (.skip Z .nil)) (d9.D 1 Z Z (d9.nil)))));dsimp only[j6];refine b5 (.j (.drawI mixed Z (d7.D 1 Z (d7.consF Z (fun E=>S.nilCheckE Z Z (by simpa only[lS] using j8 a) Z .N) Z (.consF Z (fun E=>S.fieldE Z Z Z (by simpa only[lS] using j8 a) Z .N) Z (.consF Z (fun E=>.load Z Z (F4 Z a) Z Z Z .N) Z (d7.D 1 Z (d7.consF Z (fun E=>S.nilCheckE Z Z (by simpa only[lS] using j8 a) Z .N) Z (.consF Z (fun E=>S.fieldE Z Z Z (by simpa only[lS] using j8 a) Z .N) Z (.consF Z (fun E=>.load Z Z (F4 Z a) Z Z Z .N) Z (d7.D 3 Z (d7.done ?_))))))))))));dsimp only[j6];refine b5 (.ret ?_);obtain rfl:=oi h;exact⟨⟨[(2,.c (.imm (.val (.int .u32 g.item)))),(3,(cI g.key)),(4,(cB true))],[(oE 3 [.own 4 0 i.2.1.length,.map 2,int time]),.dead,.one (pmap 3 vU (mdel f g.item)),pool 4 d6 i.1,.one (prow 3 i.2.1)]⟩,Sub.mv 4 6 Z Z (.o Z Z (.d (.e ⟨q8 Z,H5 Z ab3⟩ (.e (A8.pool Z) (.e ⟨n7 Z,H5 Z ab9⟩ .n))))),Done.ret Z ⟨Z,Z⟩⟩
theorem aH8{l:Li}{start:Int}{goal:Int}{l4:List k7}{r:(List (Int×Int))}(h:ab7 l start goal l4=some r):FnOk prog 66 [(cP 0 0 0),.c (row 1 eU32 l)] (au0 l start goal l4) (fun tt ss=>tt=.c (.map 4)/\ss=[(oE 3 (wW start goal 1 (kw l4))),(oV 4 f8 l4),.dead,.dead,(oW vU vI r)]):=by
 refine FnOk.enter (rs:=[.t 4]) func66 Z ntmps66 results66 Z ⟨Y,Y⟩ (by kernel_rfl) Z ?_
 refine AWP.weak ?_
 unfold ab7 at h
 refine AWP.gk 1 Z (.j (.aa (W.makeMapM 2 2 vU r9 Z Z Z (.ge 2 Z (.j (.aa (W.makeMap vU vI Z Z Z (.ge 1 Z (.j ?_)))))))))
 obtain⟨a18,ha18,h⟩:=bind_some h
 refine AWP.aa (.callF Z Z Z (FnOk.ld [] (ax1 ha18) Z Z Z .n Z (.o Z Z (.o Z Z (.o Z Z (.o Z Z (.o Z Z (.e (e:=.one (pmap 6 vU ([]:List (Int×Int)))) 0 Z Z (.one (u6 fun _=>Z)) (.e 1 Z Z RenE.pool (.b 2 Z Z Z (.e (e:=.one (prow 6 ([]:Li))) 3 Z Z (.one (k9 fun _=>Z)) .n))))))))) Z) (.J Z Z (.nil (b5 (.j (.gs 1 Z (S.len Z Z (fun hl20=>.ge 1 Z (.u ?_)))))))))
 obtain⟨⟨c56,c57,c58,c59,c60,c61⟩,ho1,h⟩:=bind_some h
 try dsimp only at h
 refine AWP.forH ho1 (fun t62 (c56,c57,c58,c59,c60,c61)=>⟨[(0,(cP 0 0 0)),(5,(cP 3 0 0)),(6,.c (.map 4)),(7,(cP 7 0 0)),(19,.c (row 1 eU32 l)),(20,(cI (kw l:Int))),(21,(cI t62))],[(oE 3 (wW start goal 1 (kw l4))),(oV 4 f8 l4),mmap 2 2 vU r9 c56,(o1 (.map 2)),(oW vU vI c57),.one (pmap 6 vU c58),pool 4 d6 c59,(oE 3 [.own 8 0 (kw c61),.map 5,int c60]),.one (prow 6 c61)]⟩) (fun _ _=>Z) ?_ ?_ ?_
 ·exact Sub.en Z
 ·intro t62 s o hlot62 hltt62 h
  obtain⟨c56,c57,c58,c59,c60,c61⟩:=s
  unfold S6 at h
  try dsimp only at h ⊢
  refine AWP.j (.u (.j ?_))
  obtain⟨a23,ha23,h⟩:=bind_some h
  refine AWP.aa (S.idx ha23 Z Z Z Z (.G 3 Z (.nil (b5 (.gs 2 Z (W.mapUpdate (fk:=vU) (fv:=vI) (k:=a23) (a:=1000000000) S8 Z Z Z Z Z (.ne ?_)))))))
  obtain⟨⟨c63,c64,c65,c66,c67⟩,hx68,h⟩:=bind_some h
  refine AWP.jQ [0,5,6,7,9,19,20,21] [] [(oE 3 (wW start goal 1 (kw l4))),(oV 4 f8 l4),mmap 2 2 vU r9 c56,(o1 (.map 2)),(oW vU vI c63),.one (pmap 11 vU c64),.dead,(oE 3 [.own 10 0 (kw c66),.map 5,int c65]),.dead,(o1 (.imm (.val (.int .u32 a23)))),.one (prow 11 c66),pool 4 d6 c67] Z ?_ ?_
  ·refine AWP.j ?_
   obtain⟨a29,ha29,hx68⟩:=bind_some hx68
   refine AWP.G 2 Z (.callF Z Z Z (FnOk.ld [0,1] (aB7 ha29) Z Z Z (.o Z Z (.v Z .n)) Z (.b 0 Z Z Z (.v 1 Z Z (.o Z Z (.o Z Z (.o Z Z (.o Z Z (.o Z Z (.o Z Z (.o Z Z (.o Z Z .n)))))))))) Z) (.nil (b5 (.U Z hx68 (fun hc69 hx68=> ?_) (fun hc69 hx68=> ?_)))))
   ·refine AWP.gs 2 Z (W.mapUpdate (fk:=vU) (fv:=vI) (k:=a23) (a:=0) S8 Z Z Z Z Z (.ne ?_))
    obtain⟨a34,ha34,hx68⟩:=bind_some hx68
    refine AWP.G 2 Z (.callF Z Z Z (FnOk.ld [7,8,5,6] (W0 ha34) Z Z Z (.o Z Z (.e (.one (n7 Z)) Z (.one (k9 fun _=>Z)) (.e (.one (q8 Z)) Z (.one (u6 fun _=>Z)) (.e (.any x8) Z RenE.pool .n)))) Z (.o Z Z (.o Z Z (.o Z Z (.o Z Z (.o Z Z (.e (e:=.one (pmap 11 vU a34.1)) 2 Z Z (.one (u6 fun _=>Z)) (.d (.b 0 Z Z Z (.d (.o Z Z (.e (e:=.one (prow 11 a34.2.1)) 4 Z Z (.one (k9 fun _=>Z)) (.e 5 Z Z RenE.pool .n)))))))))))) Z) (.nil ?_))
    obtain⟨ej0,ej1,ej2,ej3,ej4⟩:=o5 hx68
    subst ej0 ej1 ej2 ej3 ej4
    refine b5 (Sub.en Z)
   ·refine AWP.skip ?_
    obtain⟨ej0,ej1,ej2,ej3,ej4⟩:=o5 hx68
    subst ej0 ej1 ej2 ej3 ej4
    refine b5 ((Sub.move (env':=[(0,(cP 0 0 0)),(5,(cP 3 0 0)),(6,.c (.map 4)),(7,(cP 7 0 0)),(9,(cP 9 0 0)),(19,.c (row 1 eU32 l)),(20,(cI (kw l:Int))),(21,(cI t62))]) (σ':=[(oE 3 (wW start goal 1 (kw l4))),(oV 4 f8 l4),mmap 2 2 vU r9 c56,(o1 (.map 2)),(oW vU vI (mset c57 a23 1000000000)),.one (pmap 6 vU c58),pool 4 d6 c59,(oE 3 [.own 10 0 (kw c61),.map 5,int c60]),.dead,(o1 (.imm (.val (.int .u32 a23)))),.one (prow 6 c61)]) 10 8 Z Z Z ⟨Z,Z,Z,Z,Z,Z,Z,Z,Y⟩ Z ⟨⟨Z,Z⟩,⟨Blk.im_ok _ _ _,m6 Z⟩,(A8.mmap Z Z Z),⟨Z,Z⟩,⟨Z,Z⟩,⟨q8 Z,H5 Z ab3⟩,(A8.pool Z),⟨Z,Z⟩,Y,⟨Z,Z⟩,⟨n7 Z,H5 Z ab9⟩,Y⟩).trans ((Sub.moveM (env':=[(0,(cP 0 0 0)),(5,(cP 3 0 0)),(6,.c (.map 4)),(7,(cP 7 0 0)),(9,(cP 9 0 0)),(19,.c (row 1 eU32 l)),(20,(cI (kw l:Int))),(21,(cI t62))]) (σ':=[(oE 3 (wW start goal 1 (kw l4))),(oV 4 f8 l4),mmap 2 2 vU r9 c56,(o1 (.map 2)),(oW vU vI (mset c57 a23 1000000000)),.one (pmap 11 vU c58),.dead,(oE 3 [.own 10 0 (kw c61),.map 5,int c60]),.dead,(o1 (.imm (.val (.int .u32 a23)))),.one (prow 11 c61),pool 4 d6 c59]) 11 6 Z Z Z ⟨Z,Z,Z,Z,Z,Z,Z,Z,Y⟩ Z ⟨(.one Z Z),(.vec Z),(EntR.mmap Z Z Z),(.one Z Z),(.one Z Z),(.one (q8 Z) (Q6 Z Z (u6 fun _=>Z))),.dead,(.one Z Z),.dead,(.one Z Z),(.one (n7 Z) (Q6 Z Z (k9 fun _=>Z))),(EntR.pool Z Z),Y⟩).trans (Sub.env ⟨Z,Z,Z,Z,Z,Z,Z,Z,Y⟩)))
  ·try dsimp only at h
   refine AWP.j ?_
   obtain⟨a37,ha37,h⟩:=bind_some h
   refine AWP.G 2 Z (.callF Z Z Z (FnOk.ld [0,1] (aj3 ha37) Z Z Z (.o Z Z (.v Z .n)) Z (.b 0 Z Z Z (.v 1 Z Z (.o Z Z (.o Z Z (.o Z Z (.o Z Z (.d (.o Z Z (.d (.o Z Z (.o Z Z (.o Z Z (.b 2 Z Z Z (.b 3 Z Z Z .n)))))))))))))) Z) (.nil (b5 (.u ?_))))
   obtain⟨c71,hr70,h⟩:=bind_some h
   refine AWP.rangeB [(5,none),(9,none)] Z Z Z (fun as70 bo70 hA70 hB70=>⟨[(oE 3 (wW start goal 1 (kw l4))),(oV 4 f8 l4),mmap 2 2 vU r9 c56,(o1 (.map 2)),(oW vU vI c63),.one (pmap 11 vU c64),.dead,(oE 3 [.own 10 0 (kw c66),.map 5,int c65]),.dead,(o1 (.imm (.val (.int .u32 a23)))),.one (prow 11 c66),pool 4 d6 c67,(o1 (.ptr 0 0 0)),(o1 (.imm (.val (.int .u32 a23)))),.one (C8 96 [38] as70 bo70 .ready none [(5,none),(9,none)] [.ptr 3 0 0,.ptr 9 0 0])],fun tt ss=>tt=.tup []/\ss=[(oE 3 (wW start goal 1 (kw l4))),(oV 4 f8 l4),.dead,(o1 (.map 15)),(oW vU vI c63),.one (pmap 11 vU c64),.dead,(oE 3 [.own 10 0 (kw c66),.map 5,int c65]),.dead,(o1 (.imm (.val (.int .u32 a23)))),.one (prow 11 c66),pool 4 d6 c67,(o1 (.ptr 0 0 0)),(o1 (.imm (.val (.int .u32 a23)))),.one (C8 96 [38] as70 bo70 .ready none [(5,none),(9,none)] [.ptr 3 0 0,.ptr 9 0 0]),mmap 15 2 vU r9 c71],Z,?_,?_⟩)
   ·refine FnOk.enter (rs:=[]) func123 Z ntmps123 results123 Z Y (by kernel_rfl) Z ?_
    refine AWP.weak ?_
    unfold aa7 at hr70
    try dsimp only at hr70
    refine AWP.moveM (env':=[(0,.c (.yld 14)),(1,(cP 12 0 0)),(2,(cP 13 0 0))]) (σ':=[(oE 3 (wW start goal 1 (kw l4))),(oV 4 f8 l4),.dead,(o1 (.map 15)),(oW vU vI c63),.one (pmap 11 vU c64),.dead,(oE 3 [.own 10 0 (kw c66),.map 5,int c65]),.dead,(o1 (.imm (.val (.int .u32 a23)))),.one (prow 11 c66),pool 4 d6 c67,(o1 (.ptr 0 0 0)),(o1 (.imm (.val (.int .u32 a23)))),.one (C8 96 [38] as70 bo70 .ready none [(5,none),(9,none)] [.ptr 3 0 0,.ptr 9 0 0]),mmap 15 2 vU r9 c56]) 15 2 Z Z Z ⟨Z,Z,Z,Y⟩ Z ⟨(.one Z Z),(.vec Z),.dead,(.one Z Z),(.one Z Z),(.one (q8 Z) (Q6 Z Z (u6 fun _=>Z))),.dead,(.one Z Z),.dead,(.one Z Z),(.one (n7 Z) (Q6 Z Z (k9 fun _=>Z))),(EntR.pool Z Z),(.one Z Z),(.one Z Z),(.one Z Z),(EntR.mmap Z Z Z),Y⟩ ?_
    refine AWP.gs 4 Z (S.lenO Z Z Z (fun hl10=>.ge 1 Z (.u ?_)))
    obtain⟨c72,ho2,hr70⟩:=bind_some hr70
    refine AWP.forH ho2 (fun t73 c72=>⟨[(0,.c (.yld 14)),(2,(cP 13 0 0)),(9,.c (.own 1 0 (kw l4))),(10,(cI (kw l4:Int))),(11,(cI t73))],[(oE 3 (wW start goal 1 (kw l4))),(oV 4 f8 l4),.dead,(o1 (.map 15)),(oW vU vI c63),.one (pmap 11 vU c64),.dead,(oE 3 [.own 10 0 (kw c66),.map 5,int c65]),.dead,(o1 (.imm (.val (.int .u32 a23)))),.one (prow 11 c66),pool 4 d6 c67,(o1 (.ptr 0 0 0)),(o1 (.imm (.val (.int .u32 a23)))),.one (C8 96 [38] as70 bo70 .ready none [(5,none),(9,none)] [.ptr 3 0 0,.ptr 9 0 0]),mmap 15 2 vU r9 c72]⟩) (fun _ _=>Z) ?_ ?_ ?_
    ·exact Sub.en Z
    ·intro t73 c72 o hlot73 hltt73 h
     unfold ab2 at h
     try dsimp only at h ⊢
     refine AWP.j (.u (.j ?_))
     obtain⟨ai14,hai14,h⟩:=bind_some h
     refine AWP.G 1 Z (S.idxO hai14 Z Z Z Z Z (S.loadOAgg hai14 Z Z Z Z Z Z Z (.G 3 Z (.nil (b5 (.j ?_))))))
     rcases bft (decide (Go.bits .and .u32 a23 ai14.pre=ai14.pre)) with hb74|hb74
     ·replace h:=V7 hb74 h
      refine AWP.G 3 Z (.bits Z Z Z (by simp) (.G 4 Z (.F Z Z Z hb74 (.z Z Z (.F Z Z Z hb74 (.z Z Z (.F Z Z Z hb74 (W.fieldAddr Z Z Z Z (.F Z Z Z hb74 (.load Z Z Z Z Z Z (.F Z Z Z hb74 (.load Z Z Z Z Z Z (.F Z Z Z hb74 (W.fieldAddr Z Z Z Z (.F Z Z Z hb74 (.load Z Z Z Z Z Z (.F Z Z Z hb74 (.bits Z Z Z (by simp) (.F Z Z Z hb74 (W.fieldAddr Z Z Z Z (.F Z Z Z hb74 (.load Z Z Z Z Z Z (.F Z Z Z hb74 (.bits Z Z Z (by simp) (.F Z Z Z hb74 (W.build Z Z Z Z ?_))))))))))))))))))))))))))
      refine AOps.F Z Z Z hb74 ?_;refine AOps.yieldB (E1:=[(10,(cP 17 0 0)),(38,.agg [int t73,int ai14.cost,.imm (.val (.int .u32 (Go.bits .or .u32 (Go.bits .andNot .u32 a23 ai14.del) ai14.add)))]),(5,(cP 3 0 0)),(9,(cP 9 0 0))]) (σ1:=[(oE 3 (wW start goal 1 (kw l4))),(oV 4 f8 l4),.dead,(o1 (.map 15)),(oW vU vI c63),.one (pmap 11 vU c64),.dead,(oE 3 [.own 10 0 (kw c66),.map 5,int c65]),.dead,(o1 (.imm (.val (.int .u32 a23)))),.one (prow 11 c66),pool 4 d6 c67,(o1 (.ptr 0 0 0)),(o1 (.imm (.val (.int .u32 a23)))),.one (C8 96 [38] as70 bo70 .ready none [(5,none),(9,none)] [.ptr 3 0 0,.ptr 9 0 0]),mmap 15 2 vU r9 c72,(oE 4 [.imm (.val (.int .u32 ai14.pre)),.imm (.val (.int .u32 ai14.add)),.imm (.val (.int .u32 ai14.del)),int ai14.cost]),(oE 3 [int t73,int ai14.cost,.imm (.val (.int .u32 (Go.bits .or .u32 (Go.bits .andNot .u32 a23 ai14.del) ai14.add)))])]) hA70 hB70 Z Z Z Z Z Z Z Z Z Z ?_ ?_
      ·refine AWP.G 2 Z (.nil ?_)
       exact⟨Z,Z⟩
      refine AWP.sub (s':=⟨[(5,(cP 3 0 0)),(9,(cP 9 0 0)),(10,(cP 17 0 0))],[(oE 3 (wW start goal 1 (kw l4))),(oV 4 f8 l4),.dead,(o1 (.map 15)),(oW vU vI c63),.one (pmap 11 vU c64),.dead,(oE 3 [.own 10 0 (kw c66),.map 5,int c65]),.dead,(o1 (.imm (.val (.int .u32 a23)))),.one (prow 11 c66),pool 4 d6 c67,(o1 (.ptr 0 0 0)),(o1 (.imm (.val (.int .u32 a23)))),.one (C8 96 [38] as70 bo70 .busy none [(5,none),(9,none)] [.ptr 3 0 0,.ptr 9 0 0]),mmap 15 2 vU r9 c72,(oE 4 [.imm (.val (.int .u32 ai14.pre)),.imm (.val (.int .u32 ai14.add)),.imm (.val (.int .u32 ai14.del)),int ai14.cost]),(oE 3 [int t73,int ai14.cost,.imm (.val (.int .u32 (Go.bits .or .u32 (Go.bits .andNot .u32 a23 ai14.del) ai14.add)))])]⟩) (Sub.env ⟨Z,Z,Z,Y⟩) (.u ?_)
      obtain⟨ab51,hab51,h⟩:=bind_some h
      refine AWP.drawEI [11,12,13] mixed Z Z Z (b7.D 6 Z Z ?_)
      refine b7.consN Z Z (fun E=>S.lookupM (fk:=vU) (key:=Go.bits .or .u32 (Go.bits .andNot .u32 a23 ai14.del) ai14.add) S8 Z Z Z Z Z .N) Z ?_
      refine b7.D 4 Z Z ?_
      apply b7.consE;exact Z;exact Z;intro E
      refine S.lit (f:=r9) (l:=[(⟨a23,ai14.cost⟩:C7)]) (ess:=[[.imm (.val (.int .u32 a23)),int ai14.cost]]) Z Z Z Z Z Z Z ⟨⟨.inl Z,.inl Z,Y⟩,Y⟩ Z Z Z .N
      exact Z
      exact Z
      apply b7.consE;exact Z;exact Z;intro E
      refine S.appendMM (f:=r9) hab51 Z Z Z Z Z (.own Z Z) Z Z Z Z .N
      exact Z
      exact Z
      apply b7.consE (v:=.undef);exact Z;exact Z;intro E
      refine S.updateMM (fk:=vU) (key:=Go.bits .or .u32 (Go.bits .andNot .u32 a23 ai14.del) ai14.add) S8 Z Z Z Z Z .N
      exact Z
      exact Z
      refine b7.done Z ?_ ?_
      ·refine d9.D 6 Z Z ?_
       refine d9.cons Z Z (.go Z Z (fun E=>S.lookupM (fk:=vU) (key:=Go.bits .or .u32 (Go.bits .andNot .u32 a23 ai14.del) ai14.add) S8 Z Z Z Z Z .N) (.go Z Z (fun E=>S.lookupM (fk:=vU) (key:=Go.bits .or .u32 (Go.bits .andNot .u32 a23 ai14.del) ai14.add) S8 Z Z Z Z Z .N) (.skip Z (.skip Z .nil)))) ?_
       refine d9.D 7 Z Z (d9.nil)
      dsimp only[j6]
      refine d8 (ay3 Z Z (.F Z Z Z hb74 (.not Z Z (.pickT Z hb74 Z Z (.nil (b5 (.z (env':=[(0,.c (.yld 14)),(2,(cP 13 0 0)),(9,.c (.own 1 0 (kw l4))),(10,(cI (kw l4:Int))),(11,(cI t73)),(38,(cB false))]) (σ':=[(oE 3 (wW start goal 1 (kw l4))),(oV 4 f8 l4),.dead,(o1 (.map 15)),(oW vU vI c63),.one (pmap 11 vU c64),.dead,(oE 3 [.own 10 0 (kw c66),.map 5,int c65]),.dead,(o1 (.imm (.val (.int .u32 a23)))),.one (prow 11 c66),pool 4 d6 c67,(o1 (.ptr 0 0 0)),(o1 (.imm (.val (.int .u32 a23)))),.one (C8 96 [38] as70 bo70 .ready none [(5,none),(9,none)] [.ptr 3 0 0,.ptr 9 0 0]),mmap 15 2 vU r9 (mset c72 (Go.bits .or .u32 (Go.bits .andNot .u32 a23 ai14.del) ai14.add) ab51),(oE 4 [.imm (.val (.int .u32 ai14.pre)),.imm (.val (.int .u32 ai14.add)),.imm (.val (.int .u32 ai14.del)),int ai14.cost]),(oE 3 [int t73,int ai14.cost,.imm (.val (.int .u32 (Go.bits .or .u32 (Go.bits .andNot .u32 a23 ai14.del) ai14.add)))]),(oV 2 r9 [(⟨a23,ai14.cost⟩:C7)])]) (15,[posM c72 (Go.bits .or .u32 (Go.bits .andNot .u32 a23 ai14.del) ai14.add)]) (19,[]) Z Z Z ⟨Z,Z,Z,Z,Z,Z,Y⟩ Z ⟨⟨Z,Z⟩,⟨Blk.im_ok _ _ _,m6 Z⟩,Y,⟨Z,Z⟩,⟨Z,Z⟩,⟨q8 Z,aA3 Z (pmap_mvR Z) mv_root⟩,Y,⟨Z,Z⟩,Y,⟨Z,Z⟩,⟨n7 Z,aA3 Z (prow_mvR Z) mv_root⟩,(A8.poolR Z Z),⟨Z,Z⟩,⟨Z,Z⟩,⟨Z,Z⟩,(A8.putMM Z Z Z Z),⟨Z,Z⟩,⟨Z,Z⟩,⟨Blk.im_ok _ _ _,m6 Z⟩,Y⟩ (.condF Z (.skip (d8 (b5 (.aa (.add Z Z Z (by omega) (.z Z Z (.nil ?_)))))))))))))))
      obtain rfl:=oi h
      refine b5 (Sub.ct Z Z (.o Z (.v (.d (.o Z (.o Z (.o (q8 Z) (.d (.o Z (.d (.o Z (.o (n7 Z) (.e (.any x8) (.o Z (.o Z (.o Z (.e (.any (mm_ok Z)) .n)))))))))))))))))
     ·replace h:=V3 hb74 h
      refine AWP.G 3 Z (.bits Z Z Z (by simp) (.G 4 Z (.ab Z Z Z hb74 (.ab Z Z Z hb74 (.ab Z Z Z hb74 (.ab Z Z Z hb74 (.ab Z Z Z hb74 (.ab Z Z Z hb74 (.ab Z Z Z hb74 (.ab Z Z Z hb74 (.ab Z Z Z hb74 (.ab Z Z Z hb74 (.ab Z Z Z hb74 (.ab Z Z Z hb74 (.ab Z Z Z hb74 (.ab Z Z Z hb74 (.pickF Z hb74 Z Z (.nil (b5 (.condF Z (.skip (d8 (b5 (.aa (.add Z Z Z (by omega) (.z Z Z (.nil ?_)))))))))))))))))))))))))))
      obtain rfl:=oi h
      refine b5 (Sub.ct Z Z (.o Z (.v (.d (.o Z (.o Z (.o (q8 Z) (.d (.o Z (.d (.o Z (.o (n7 Z) (.e (.any x8) (.o Z (.o Z (.o Z (.e (.any (mm_ok Z)) .n)))))))))))))))))
    ·intro iz
     refine g8 ?_
     obtain rfl:=oi hr70
     exact⟨⟨[],[(oE 3 (wW start goal 1 (kw l4))),(oV 4 f8 l4),.dead,(o1 (.map 15)),(oW vU vI c63),.one (pmap 11 vU c64),.dead,(oE 3 [.own 10 0 (kw c66),.map 5,int c65]),.dead,(o1 (.imm (.val (.int .u32 a23)))),.one (prow 11 c66),pool 4 d6 c67,(o1 (.ptr 0 0 0)),(o1 (.imm (.val (.int .u32 a23)))),.one (C8 96 [38] as70 bo70 .ready none [(5,none),(9,none)] [.ptr 3 0 0,.ptr 9 0 0]),mmap 15 2 vU r9 c72]⟩,Sub.env Y,Done.normal Z ⟨Z,Z⟩⟩
   ·rintro tt ss ⟨rfl,rfl⟩
    try dsimp only at h ⊢
    refine aG5 Z Z (d8 (d8 (b5 (.aa (.add Z Z Z (by omega) (.z Z Z (.nil ?_)))))))
    obtain rfl:=oi h
    refine b5 ((Sub.moveM (env':=[(0,(cP 0 0 0)),(5,(cP 3 0 0)),(6,.c (.map 4)),(7,(cP 7 0 0)),(19,.c (row 1 eU32 l)),(20,(cI (kw l:Int))),(21,(cI (t62+1)))]) (σ':=[(oE 3 (wW start goal 1 (kw l4))),(oV 4 f8 l4),mmap 2 2 vU r9 c71,(o1 (.map 2)),(oW vU vI c63),.one (pmap 11 vU c64),.dead,(oE 3 [.own 10 0 (kw c66),.map 5,int c65]),.dead,(o1 (.imm (.val (.int .u32 a23)))),.one (prow 11 c66),pool 4 d6 c67,(o1 (.ptr 0 0 0)),(o1 (.imm (.val (.int .u32 a23)))),.dead]) 2 15 Z Z Z ⟨Z,Z,Z,Z,Z,Z,Z,Y⟩ Z ⟨(.one Z Z),(.vec Z),(EntR.mmap Z Z Z),(.one Z Z),(.one Z Z),(.one (q8 Z) (Q6 Z Z (u6 fun _=>Z))),.dead,(.one Z Z),.dead,(.one Z Z),(.one (n7 Z) (Q6 Z Z (k9 fun _=>Z))),(EntR.pool Z Z),(.one Z Z),(.one Z Z),.dead,Y⟩).trans ((Sub.move (env':=[(0,(cP 0 0 0)),(5,(cP 3 0 0)),(6,.c (.map 4)),(7,(cP 7 0 0)),(19,.c (row 1 eU32 l)),(20,(cI (kw l:Int))),(21,(cI (t62+1)))]) (σ':=[(oE 3 (wW start goal 1 (kw l4))),(oV 4 f8 l4),mmap 2 2 vU r9 c71,(o1 (.map 2)),(oW vU vI c63),.one (pmap 11 vU c64),.dead,(oE 3 [.own 8 0 (kw c66),.map 5,int c65]),.one (prow 11 c66),(o1 (.imm (.val (.int .u32 a23)))),.dead,pool 4 d6 c67,(o1 (.ptr 0 0 0)),(o1 (.imm (.val (.int .u32 a23)))),.dead]) 8 10 Z Z Z ⟨Z,Z,Z,Z,Z,Z,Z,Y⟩ Z ⟨⟨Z,Z⟩,⟨Blk.im_ok _ _ _,m6 Z⟩,(A8.mmap Z Z Z),⟨Z,Z⟩,⟨Z,Z⟩,⟨q8 Z,H5 Z ab3⟩,Y,⟨Z,Z⟩,⟨n7 Z,H5 Z ab9⟩,⟨Z,Z⟩,Y,(A8.pool Z),⟨Z,Z⟩,⟨Z,Z⟩,Y,Y⟩).trans ((Sub.moveM (env':=[(0,(cP 0 0 0)),(5,(cP 3 0 0)),(6,.c (.map 4)),(7,(cP 7 0 0)),(19,.c (row 1 eU32 l)),(20,(cI (kw l:Int))),(21,(cI (t62+1)))]) (σ':=[(oE 3 (wW start goal 1 (kw l4))),(oV 4 f8 l4),mmap 2 2 vU r9 c71,(o1 (.map 2)),(oW vU vI c63),.one (pmap 6 vU c64),pool 4 d6 c67,(oE 3 [.own 8 0 (kw c66),.map 5,int c65]),.one (prow 6 c66),(o1 (.imm (.val (.int .u32 a23)))),.dead,.dead,(o1 (.ptr 0 0 0)),(o1 (.imm (.val (.int .u32 a23)))),.dead]) 6 11 Z Z Z ⟨Z,Z,Z,Z,Z,Z,Z,Y⟩ Z ⟨(.one Z Z),(.vec Z),(EntR.mmap Z Z Z),(.one Z Z),(.one Z Z),(.one (q8 Z) (Q6 Z Z (u6 fun _=>Z))),(EntR.pool Z Z),(.one Z Z),(.one (n7 Z) (Q6 Z Z (k9 fun _=>Z))),(.one Z Z),.dead,.dead,(.one Z Z),(.one Z Z),.dead,Y⟩).trans (Sub.ct Z Z (.o Z (.v (.e (.any (mm_ok Z)) (.o Z (.o Z (.o (q8 Z) (.e (.any x8) (.o Z (.o (n7 Z) .n)))))))))))))
 ·intro iz
  refine g8 (b5 (.j (.u ?_)))
  obtain⟨c80,ho4,h⟩:=bind_some h
  refine AWP.loopS ho4 (fun(c75,c76,c77,c78,c79)=>⟨[(5,(cP 3 0 0)),(6,.c (.map 4)),(7,(cP 7 0 0))],[(oE 3 (wW start goal 1 (kw l4))),(oV 4 f8 l4),mmap 2 2 vU r9 c56,(o1 (.map 2)),(oW vU vI c75),.one (pmap 6 vU c76),pool 4 d6 c77,(oE 3 [.own 8 0 (kw c79),.map 5,int c78]),.one (prow 6 c79)]⟩) (fun c80 e st=>e=.exit 4/\Sub (au0 l start goal l4) st ⟨[(6,.c (.map 4))],[(oE 3 (wW start goal 1 (kw l4))),(oV 4 f8 l4),.dead,.dead,(oW vU vI c80)]⟩) ?_ ?_ ?_
  ·exact Sub.en Z
  ·intro s o h
   obtain⟨c75,c76,c77,c78,c79⟩:=s
   unfold R9 at h
   try dsimp only at h ⊢
   refine AWP.j (.j ?_)
   obtain⟨a54,ha54,h⟩:=bind_some h
   refine AWP.G 1 Z (.callF Z Z Z (FnOk.ld [7,8,5,6] (ao7 ha54) Z Z Z (.o Z Z (.e (.one (n7 Z)) Z (.one (k9 fun _=>Z)) (.e (.one (q8 Z)) Z (.one (u6 fun _=>Z)) (.e (.any x8) Z RenE.pool .n)))) Z (.o Z Z (.o Z Z (.o Z Z (.o Z Z (.o Z Z (.e (e:=.one (pmap 6 vU c76)) 2 Z Z (.one (u6 fun _=>Z)) (.e 3 Z Z RenE.pool (.b 0 Z Z Z (.e (e:=.one (prow 6 c79)) 1 Z Z (.one (k9 fun _=>Z)) .n))))))))) Z) (.gtr Z Z Z (.nil (b5 (.U Z h (fun hc81 h=> ?_) (fun hc81 h=> ?_))))))
   ·refine AWP.skip (b5 (.u (.j ?_)))
    obtain⟨a58,ha58,h⟩:=bind_some h
    refine AWP.G 1 Z (.callF Z Z Z (FnOk.ld [7,8,5,6] (al3 ha58) Z Z Z (.o Z Z (.e (.one (n7 Z)) Z (.one (k9 fun _=>Z)) (.e (.one (q8 Z)) Z (.one (u6 fun _=>Z)) (.e (.any x8) Z RenE.pool .n)))) Z (.o Z Z (.o Z Z (.o Z Z (.o Z Z (.o Z Z (.e (e:=.one (pmap 6 vU a58.1)) 2 Z Z (.one (u6 fun _=>Z)) (.e 3 Z Z RenE.pool (.b 0 Z Z Z (.d (.e (e:=.one (prow 6 a58.2.2.1)) 4 Z Z (.one (k9 fun _=>Z)) .n)))))))))) Z) (.G 7 Z (.nil (b5 (.gs 2 Z (S.lookupM (fk:=vU) (key:=a58.2.2.2.1) S8 Z Z Z Z Z (S.lenMM Z Z Z (fun hl65=>.ge 1 Z (.u ?_)))))))))
    obtain⟨⟨c82,c83,c84,c85,c86⟩,ho5,h⟩:=bind_some h
    try dsimp only at h
    refine AWP.forH ho5 (fun t87 (c82,c83,c84,c85,c86)=>⟨[(5,(cP 3 0 0)),(6,.c (.map 4)),(7,(cP 7 0 0)),(12,(cI a58.2.2.2.2.1)),(64,.c (rowC 2 c56 a58.2.2.2.1)),(65,(cI ((rowM c56 a58.2.2.2.1).length:Int))),(66,(cI t87))],[(oE 3 (wW start goal 1 (kw l4))),(oV 4 f8 l4),mmap 2 2 vU r9 c56,(o1 (.map 2)),(oW vU vI c82),.one (pmap 6 vU c83),pool 4 d6 c84,(oE 3 [.own 9 0 (kw c86),.map 5,int c85]),.dead,.one (prow 6 c86)]⟩) (fun _ _=>Z) ?_ ?_ ?_
    ·exact Sub.en Z
    ·intro t87 s o hlot87 hltt87 h
     obtain⟨c82,c83,c84,c85,c86⟩:=s
     unfold S0 at h
     try dsimp only at h ⊢
     obtain⟨⟨c88,c89,c90,c91,c92⟩,hx93,h⟩:=bind_some h
     refine AWP.jQ [5,6,7,12,64,65,66] [] [(oE 3 (wW start goal 1 (kw l4))),(oV 4 f8 l4),mmap 2 2 vU r9 c56,(o1 (.map 2)),(oW vU vI c88),.one (pmap 12 vU c89),.dead,(oE 3 [.own 11 0 (kw c91),.map 5,int c90]),.dead,.dead,.dead,.one (prow 12 c91),pool 4 d6 c92] Z ?_ ?_
     ·refine AWP.u (.j ?_)
      obtain⟨a68,ha68,hx93⟩:=bind_some hx93
      refine AWP.aa (S.idxMM ha68 Z Z Z Z (S.loadOAgg ha68 Z Z (mm_get Z ha68) Z Z Z Z (.G 2 Z (.nil (b5 (.gs 7 Z (W.lookup (fk:=vU) (fv:=vI) (k:=a68.ffrom) (z:=0) S8 Z (fun _=>Z) Z Z Z Z ?_)))))))
      refine AOps.ge 1 Z (.U Z hx93 (fun hc94 hx93=> ?_) (fun hc94 hx93=> ?_))
      ·refine AWP.gs 7 Z (W.mapUpdate (fk:=vU) (fv:=vI) (k:=a68.ffrom) (a:=w64 (a58.2.2.2.2.1+a68.cost)) S8 Z Z Z Z Z (.ne ?_))
       obtain⟨a93,ha93,hx93⟩:=bind_some hx93
       refine AWP.G 7 Z (.callF Z Z Z (FnOk.ld [7,9,5,6] (W0 ha93) Z Z Z (.o Z Z (.e (.one (n7 Z)) Z (.one (k9 fun _=>Z)) (.e (.one (q8 Z)) Z (.one (u6 fun _=>Z)) (.e (.any x8) Z RenE.pool .n)))) Z (.o Z Z (.o Z Z (.o Z Z (.o Z Z (.o Z Z (.e (e:=.one (pmap 12 vU a93.1)) 2 Z Z (.one (u6 fun _=>Z)) (.d (.b 0 Z Z Z (.d (.d (.o Z Z (.e (e:=.one (prow 12 a93.2.1)) 4 Z Z (.one (k9 fun _=>Z)) (.e 5 Z Z RenE.pool .n))))))))))))) Z) (.nil (d8 ?_)))
       obtain⟨ej0,ej1,ej2,ej3,ej4⟩:=o5 hx93
       subst ej0 ej1 ej2 ej3 ej4
       refine b5 (Sub.cut ⟨Z,Z,Z,Z,Z,Z,Z,Y⟩ Z ⟨.one Z,.vec,(.any (mm_ok Z)),.one Z,.one Z,(.one (q8 Z)),.dead,.one Z,.dead,.dead,.dead,(.one (n7 Z)),(.any x8),Y⟩ (eOk1 Z (eOk1 Z (eOk1 Z (eOk1 Z (eOk1 (aq1 Z) (eOk1 Z (eOk1 Z Z))))))))
      ·refine AWP.skip (d8 ?_)
       obtain⟨ej0,ej1,ej2,ej3,ej4⟩:=o5 hx93
       subst ej0 ej1 ej2 ej3 ej4
       refine b5 ((Sub.move (env':=[(5,(cP 3 0 0)),(6,.c (.map 4)),(7,(cP 7 0 0)),(12,(cI a58.2.2.2.2.1)),(64,.c (rowC 2 c56 a58.2.2.2.1)),(65,(cI ((rowM c56 a58.2.2.2.1).length:Int))),(66,(cI t87))]) (σ':=[(oE 3 (wW start goal 1 (kw l4))),(oV 4 f8 l4),mmap 2 2 vU r9 c56,(o1 (.map 2)),(oW vU vI c82),.one (pmap 6 vU c83),pool 4 d6 c84,(oE 3 [.own 11 0 (kw c86),.map 5,int c85]),.dead,.dead,(oE 2 [.imm (.val (.int .u32 a68.ffrom)),int a68.cost]),.one (prow 6 c86)]) 11 9 Z Z Z ⟨Z,Z,Z,Z,rowC_mv (fun _=>Z) Z,Z,Z,Y⟩ (eOk1 Z (eOk1 Z (eOk1 Z (eOk1 Z (eOk1 (aq1 Z) (eOk1 Z (eOk1 Z Z))))))) ⟨⟨Z,Z⟩,⟨Blk.im_ok _ _ _,m6 Z⟩,(A8.mmap Z Z Z),⟨Z,Z⟩,⟨Z,Z⟩,⟨q8 Z,H5 Z ab3⟩,(A8.pool Z),⟨Z,Z⟩,Y,Y,⟨Z,Z⟩,⟨n7 Z,H5 Z ab9⟩,Y⟩).trans ((Sub.moveM (env':=[(5,(cP 3 0 0)),(6,.c (.map 4)),(7,(cP 7 0 0)),(12,(cI a58.2.2.2.2.1)),(64,.c (rowC 2 c56 a58.2.2.2.1)),(65,(cI ((rowM c56 a58.2.2.2.1).length:Int))),(66,(cI t87))]) (σ':=[(oE 3 (wW start goal 1 (kw l4))),(oV 4 f8 l4),mmap 2 2 vU r9 c56,(o1 (.map 2)),(oW vU vI c82),.one (pmap 12 vU c83),.dead,(oE 3 [.own 11 0 (kw c86),.map 5,int c85]),.dead,.dead,(oE 2 [.imm (.val (.int .u32 a68.ffrom)),int a68.cost]),.one (prow 12 c86),pool 4 d6 c84]) 12 6 Z Z Z ⟨Z,Z,Z,Z,rowC_mv (fun _=>Z) Z,Z,Z,Y⟩ (eOk1 Z (eOk1 Z (eOk1 Z (eOk1 Z (eOk1 (aq1 Z) (eOk1 Z (eOk1 Z Z))))))) ⟨(.one Z Z),(.vec Z),(EntR.mmap Z Z Z),(.one Z Z),(.one Z Z),(.one (q8 Z) (Q6 Z Z (u6 fun _=>Z))),.dead,(.one Z Z),.dead,.dead,(.one Z Z),(.one (n7 Z) (Q6 Z Z (k9 fun _=>Z))),(EntR.pool Z Z),Y⟩).trans (Sub.cut ⟨Z,Z,Z,Z,Z,Z,Z,Y⟩ Z ⟨.one Z,.vec,(.any (mm_ok Z)),.one Z,.one Z,(.one (q8 Z)),.dead,.one Z,.dead,.dead,.dead,(.one (n7 Z)),(.any x8),Y⟩ (eOk1 Z (eOk1 Z (eOk1 Z (eOk1 Z (eOk1 (aq1 Z) (eOk1 Z (eOk1 Z Z))))))))))
     ·try dsimp only at h
      refine AWP.aa (.add Z Z Z (by omega) (.z Z Z (.nil ?_)))
      obtain rfl:=oi h
      refine b5 ((Sub.move (env':=[(5,(cP 3 0 0)),(6,.c (.map 4)),(7,(cP 7 0 0)),(12,(cI a58.2.2.2.2.1)),(64,.c (rowC 2 c56 a58.2.2.2.1)),(65,(cI ((rowM c56 a58.2.2.2.1).length:Int))),(66,(cI (t87+1)))]) (σ':=[(oE 3 (wW start goal 1 (kw l4))),(oV 4 f8 l4),mmap 2 2 vU r9 c56,(o1 (.map 2)),(oW vU vI c88),.one (pmap 12 vU c89),.dead,(oE 3 [.own 9 0 (kw c91),.map 5,int c90]),.dead,.one (prow 12 c91),.dead,.dead,pool 4 d6 c92]) 9 11 Z Z Z ⟨Z,Z,Z,Z,rowC_mv (fun _=>Z) Z,Z,Z,Y⟩ (eOk1 Z (eOk1 Z (eOk1 Z (eOk1 Z (eOk1 (aq1 Z) (eOk1 Z (eOk1 Z Z))))))) ⟨⟨Z,Z⟩,⟨Blk.im_ok _ _ _,m6 Z⟩,(A8.mmap Z Z Z),⟨Z,Z⟩,⟨Z,Z⟩,⟨q8 Z,H5 Z ab3⟩,Y,⟨Z,Z⟩,Y,⟨n7 Z,H5 Z ab9⟩,Y,Y,(A8.pool Z),Y⟩).trans ((Sub.moveM (env':=[(5,(cP 3 0 0)),(6,.c (.map 4)),(7,(cP 7 0 0)),(12,(cI a58.2.2.2.2.1)),(64,.c (rowC 2 c56 a58.2.2.2.1)),(65,(cI ((rowM c56 a58.2.2.2.1).length:Int))),(66,(cI (t87+1)))]) (σ':=[(oE 3 (wW start goal 1 (kw l4))),(oV 4 f8 l4),mmap 2 2 vU r9 c56,(o1 (.map 2)),(oW vU vI c88),.one (pmap 6 vU c89),pool 4 d6 c92,(oE 3 [.own 9 0 (kw c91),.map 5,int c90]),.dead,.one (prow 6 c91),.dead,.dead]) 6 12 Z Z Z ⟨Z,Z,Z,Z,rowC_mv (fun _=>Z) Z,Z,Z,Y⟩ (eOk1 Z (eOk1 Z (eOk1 Z (eOk1 Z (eOk1 (aq1 Z) (eOk1 Z (eOk1 Z Z))))))) ⟨(.one Z Z),(.vec Z),(EntR.mmap Z Z Z),(.one Z Z),(.one Z Z),(.one (q8 Z) (Q6 Z Z (u6 fun _=>Z))),(EntR.pool Z Z),(.one Z Z),.dead,(.one (n7 Z) (Q6 Z Z (k9 fun _=>Z))),.dead,.dead,Y⟩).trans (Sub.cut ⟨Z,Z,Z,Z,Z,Z,Z,Y⟩ Z ⟨.one Z,.vec,(.any (mm_ok Z)),.one Z,.one Z,(.one (q8 Z)),(.any x8),.one Z,.dead,(.one (n7 Z)),Y⟩ (eOk1 Z (eOk1 Z (eOk1 Z (eOk1 Z (eOk1 (aq1 Z) (eOk1 Z (eOk1 Z Z))))))))))
    ·intro iz
     refine g8 (d8 ?_)
     obtain rfl:=oi h
     refine b5 ⟨_,Z,?_⟩
     exact Sub.mv 8 9 Z Z (.o Z Z (.v Z (.e (A8.mmap Z Z Z) (.o Z Z (.o Z Z (.e ⟨q8 Z,H5 Z ab3⟩ (.e (A8.pool Z) (.o Z Z (.e ⟨n7 Z,H5 Z ab9⟩ .n)))))))))
   ·refine AWP.exit (j9 ?_)
    obtain rfl:=oi h
    refine j9 ⟨_,Z,Z,?_⟩
    exact Sub.ct Z Z (.o Z (.v (.d (.d (.o Z .n)))))
  ·intro e s hq
   obtain⟨rfl,hs⟩:=hq
   refine⟨_,hs,?_⟩
   refine g8 (b5 (.gk 2 Z (.ret ?_)))
   obtain rfl:=oi h
   exact Done.e Z ⟨Z,Z⟩
def aI8{t:n9}{r:Int×m7}(h:R4 t=some r):f5 prog 20 [.agg (tT t)] (.tup [(cI r.1),.agg [int r.2.code,int r.2.index]]):=by
 unfold f5;refine FnOk.enter (rs:=[.t 2,.cell 3 30 2]) func20 Z ntmps20 results20 Z ⟨Y,rv _ Z,Y⟩ (by kernel_rfl) Z ?_;refine AWP.gk 3 Z (.j ?_);obtain⟨a,c,h⟩:=bind_some h;rcases a with a|a;try dsimp only at h
 refine AWP.G 1 Z (.callF Z Z Z (FnOk.ld [] (FnOk.alt1 (as9 c)) Z Z Z .n Z (.o Z Z (.o Z Z (.d (.b 1 Z Z Z .n)))) Z) (.G 8 Z (.nil (b5 (.j (.gs 2 Z (.neqP Z Z Z Z Z Z Z (.ne (.O Z h (fun f h=> ?_) (fun f h=> ?_))))))))));refine AWP.j (.drawEI [2] mixed Z Z Z (b7.D 2 Z Z ?_));apply b7.consE (v:=.undef);exact Z;exact Z;intro E;refine W.storeAgg Z Z Z Z Z Z Z .N;exact Z;exact Z;refine b7.done Z ?_ ?_;refine d9.D 3 Z Z (d9.nil);dsimp only[j6];refine b5 (.ret (e9 ?_));obtain rfl:=oi h;exact Done.ret Z Z;cases h;try dsimp only at h
 refine AWP.G 1 Z (.callF Z Z Z (FnOk.ld [] (FnOk.alt2 (as9 c)) Z Z Z .n Z (.o Z Z (.o Z Z (.d (.b 1 Z Z Z (.d (.d (.b 4 Z Z Z (.v 5 Z Z .n)))))))) Z) (.G 8 Z (.nil (b5 (.j (.gs 2 Z (.neqP Z Z Z Z Z Z Z (.ne (.O Z h (fun f h=> ?_) (fun f h=> ?_))))))))));refine AWP.j (.drawEI [2] mixed Z Z Z (b7.D 2 Z Z ?_));apply b7.consE (v:=.undef);exact Z;exact Z;intro E;refine W.storeAgg Z Z Z Z Z Z Z .N;exact Z;exact Z;refine b7.done Z ?_ ?_;refine d9.D 3 Z Z (d9.nil);dsimp only[j6];refine b5 (.ret (e9 ?_));obtain rfl:=oi h;exact Done.ret Z Z;refine AWP.skip (b5 (.j (bC h fun l g p i h=>.G 2 Z (.callF Z Z Z (FnOk.ld [6,7] (aH8 g) Z Z Z (.o Z Z (.v Z .n)) Z (.o Z Z (.o Z Z (.d (.o Z Z (.d (.d (.b 0 Z Z Z (.v 1 Z Z (.o Z Z (.d (.d (.e (e:=(oW vU vI l)) 4 Z Z (.one Z) .n)))))))))))) Z) (.z Z Z (.callF Z Z Z (FnOk.ld [6,7] (aa2 i) Z Z Z (.o Z Z (.v Z .n)) Z (.o Z Z (.o Z Z (.d (.o Z Z (.d (.d (.b 0 Z Z Z (.v 1 Z Z (.o Z Z (.d (.d (.o Z Z .n)))))))))))) Z) (W.lookup (fk:=vU) (fv:=vI) (k:=a.1) (z:=0) S8 Z (fun _=>Z) Z Z Z Z (AOps.G 3 Z (.nil (b5 (.ret ?_)))))))))));obtain rfl:=oi h;exact Done.ret Z Z
def as8{ov:b8}{r:Bool}(h:M0 ov=some r):f5 prog 4 [.agg (tO ov)] ((cB r)):=by
 unfold f5;refine FnOk.enter (rs:=[.t 2]) func4 Z ntmps4 results4 Z ⟨Y,Y⟩ (by kernel_rfl) Z ?_;unfold M0 at h;refine AWP.gk 2 Z (.j (.gk 1 Z (.u (bB h fun oo ho1 h=>.rngL ho1 (fun iv2 _=>⟨[(1,(cP 0 0 0)),(3,(cI iv2))],[(oE 4 (tO ov))]⟩) (fun x e st=>e=.ret/\Done [.t 2] (fun t _=>t=(cB x)) .ret st) (fun _ _ _ k=>.G 3 Z (S.len Z Z fun hl=>.gn 1 Z (k hl))) (fun _ _=>Z) ?_ ?_ ?_ ?_))));exact Sub.en Z;intro iv2 s o hloiv2 hltiv2 h hl16;unfold I0 at h;try dsimp only at h ⊢
 refine AWP.j (.u (.j (bB h fun a23 ha23 h=>.G 3 Z (S.idx ha23 Z Z Z Z (.G 2 Z (S.len Z Z (fun hl26=>.neq Z Z Z (.nil (b5 (.iteN Z h (fun hc3 h=> ?_) (fun hc3 h=> ?_)))))))))));refine AWP.j (bB h fun a28 ha28 h=>.aa (.E Z Z Z Z (af5 ha28) Z (.J Z Z (.nil (b5 (.ret (i7 (e9 ?_))))))));obtain rfl:=oi h;exact e9 ⟨_,Z,Z,(Done.ret Z Z)⟩;refine AWP.skip (d8 (b5 (.G 1 Z (.add Z Z Z (by omega) (.J Z Z (.nil ?_))))));obtain rfl:=oi h;exact b5 ⟨_,Z,(Sub.en Z)⟩;intro iz _ he;subst he;try dsimp only at h ⊢
 refine g8 (b5 (.j (bB h fun a31 ha31 h=>.G 1 Z (.E Z Z Z Z (aC5 ha31) Z (.G 11 Z (.nil (b5 (.j (bB h fun a38 ha38 h=>.G 1 Z (.E Z Z Z Z (aF6 ha38) Z (.G 9 Z (.nil (b5 (.j (bB h fun a44 ha44 h=>.G 1 Z (.E Z Z Z Z (aI8 ha44) Z (.G 6 Z (.nil (b5 (.j (.seqJ (⟨[(5,(cP 1 0 0)),(6,(cB a31.2.2.1)),(11,(cI a44.1)),(59,(cB (((!(decide (a31.2.2.2.code=0)))||(!(decide (a38.2.2.code=0))))||(!(decide (a44.2.code=0))))))],[(oE 4 (tO ov)),(oE 2 [int a31.2.1.num,int a31.2.1.den]),(oE 2 [int a31.2.2.2.code,int a31.2.2.2.index]),(oE 4 (tT a38.1)),(oE 2 [int a38.2.2.code,int a38.2.2.index]),(oE 2 [int a44.2.code,int a44.2.index])]⟩) ?_ ?_)))))))))))))))))))));rcases bft (!(decide (a31.2.2.2.code=0))) with hb1|hb1;refine AWP.G 4 Z (.K Z Z hb1 (.G 9 Z (.nil (b5 ?_))));simp only[ad9 hb1,or_t hb1,iW,jc,iV,iX];exact Sub.en Z;rcases bft (!(decide (a38.2.2.code=0))) with hb2|hb2;refine AWP.G 4 Z (.K Z Z hb1 (.G 5 Z (.K Z Z hb2 (.G 4 Z (.nil (b5 ?_))))));simp only[aa6 hb1,or_f hb1,ad9 hb2,or_t hb2,iW,jc,iV,iX];exact Sub.en Z;refine AWP.G 4 Z (.K Z Z hb1 (.G 5 Z (.K Z Z hb2 (.G 4 Z (.nil (b5 ?_))))));simp only[aa6 hb1,or_f hb1,aa6 hb2,or_f hb2,iW,jc,iV,iX];exact Sub.en Z;refine AWP.O Z h (fun hc4 h=> ?_) (fun hc4 h=> ?_);refine AWP.j (bB h fun a60 ha60 h=>.aa (.E Z Z Z Z (af5 ha60) Z (.J Z Z (.nil (b5 (.ret (e9 ?_)))))));obtain rfl:=oi h;exact Done.ret Z Z;refine AWP.skip (b5 (bB h fun t5 hx6 h=>.seqJ (⟨[(2,(cB t5))],[]⟩) ?_ ?_));rcases bft (decide (a31.2.2.1=(decide (a44.1<1000000000)))) with hb7|hb7;replace hx6:=V7 hb7 hx6;rcases bft (!a31.2.2.1) with hb8|hb8;replace hx6:=O6 hb8 hx6;obtain⟨a76,ha76,hx6⟩:=bind_some hx6;refine AWP.G 3 Z (.eqlB Z Z Z (.z Z Z (.K Z Z hb7 (.G 3 Z (.K Z Z hb8 (.G 7 Z (.F Z Z Z Z (.E Z Z Z Z (af5 ha76) Z (.G 2 Z (.nil ?_))))))))));obtain rfl:=oi hx6;refine b5 (Sub.ct Z Z .n);replace hx6:=P0 hb8 hx6;rcases bft ((decide (a31.2.1.num=a44.1)) && (decide (a31.2.1.den=1))) with hb9|hb9;replace hx6:=O6 hb9 hx6;obtain⟨a76,ha76,hx6⟩:=bind_some hx6;refine AWP.G 3 Z (.eqlB Z Z Z (.z Z Z (.K Z Z hb7 (.G 3 Z (.K Z Z hb8 (.G 3 Z (.F Z Z Z Z (.eqlP Z Z Z Z Z Z Z (.G 3 Z (.F Z Z Z hb9 (.E Z Z Z Z (af5 ha76) Z (.pickT Z hb9 Z Z (.J Z Z (.nil ?_))))))))))))));obtain rfl:=oi hx6;refine b5 (Sub.ct Z Z .n);replace hx6:=P0 hb9 hx6;refine AWP.G 3 Z (.eqlB Z Z Z (.z Z Z (.K Z Z hb7 (.G 3 Z (.K Z Z hb8 (.G 3 Z (.F Z Z Z Z (.eqlP Z Z Z Z Z Z Z (.G 3 Z (.ab Z Z Z hb9 (.pickF Z hb9 Z Z (.J Z Z (.nil ?_)))))))))))));obtain rfl:=oi hx6;refine b5 (Sub.ct Z Z .n);replace hx6:=V3 hb7 hx6;refine AWP.G 3 Z (.eqlB Z Z Z (.z Z Z (.K Z Z hb7 (.G 13 Z (.nil ?_)))));obtain rfl:=oi hx6;refine b5 (Sub.ct Z Z .n);refine AWP.ret ?_;obtain rfl:=oi h;exact Done.ret Z Z;intro x e st he hq;subst he;try dsimp only at h hq
 obtain⟨rfl,hs⟩:=hq;refine ⟨_,Sub.refl _ _,(i7 (e9 ?_))⟩;obtain rfl:=oi h;exact hs
end
def sgn(j:Nat):Int:=if j % 2=0 then 1 else -1
def sk(j k:Nat):Nat:=if k<j then k else k+1
def smN:Nat->(Nat->Int)->Int
 |0,_=>0
 |n+1,f=>smN n f+f n
abbrev Mtx:=Nat->Nat->Int
variable{i o:Mtx}
def mnr(A:Mtx)(j:Nat):Mtx:=fun i k=>A (i+1) (sk j k)
def det:Nat->Mtx->Int
 |0,_=>1
 |n+1,A=>smN (n+1) fun j=>sgn j * A 0 j * det n (mnr A j)
def o8{g:Nat->Int}:∀{n:Nat},(∀j,j<n->p j=g j)->smN n p=smN n g
 |0,_=>rfl
 |n+1,h=>by simp only[smN];rw[o8 fun j a=>h j (by omega),h n (by omega)]
def Q3{f:Nat->Int}:∀n:Nat,smN n (fun j=>f j+g j)=smN n f+smN n g
 |0=>rfl
 |n+1=>by simp only[smN,Q3 n];omega
def C4{c:Int}{f:Nat->Int}:∀n:Nat,smN n (fun j=>c * f j)=c * smN n f
 |0=>by simp[smN]
 |n+1=>by simp only[smN,C4 n,Int.mul_add]
def al5:∀{n:Nat},(∀j,j<n->g j=0)->smN n g=0
 |0,_=>rfl
 |n+1,h=>by simp only[smN];rw[al5 fun j a=>h j (by omega),h n (by omega)];rfl
def W8{f:Nat->Int}{a:Nat}:∀{n:Nat},a<n->(∀j,j<n->j ≠ a->f j=0)->smN n f=f a
 |0,h,_=>by omega
 |n+1,c,h=>by simp only[smN];by_cases e:a=n;subst e;rw[al5 fun j b=>h j (by omega) (by omega)];omega;rw[W8 (a:=a) (by omega) fun j b=>h j (by omega),h n (by omega) (by omega)];omega
def smN_two{a b:Nat}(c:a<b):∀{n:Nat},b<n->(∀j,j<n->j ≠ a->j ≠ b->g j=0)->smN n g=g a+g b
 |0,h,_=>by omega
 |n+1,k,h=>by simp only[smN];by_cases e:b=n;subst e;rw[W8 (a:=a) c fun j d i=>h j (by omega) i (by omega)];rw[smN_two c (n:=n) (by omega) fun j d=>h j (by omega),h n (by omega) (by omega) (by omega)];omega
def smN_comm{f:Nat->Nat->Int}:∀n:Nat,smN n (fun i=>smN k fun j=>f i j)=smN k fun j=>smN n fun i=>f i j
 |0=>by simp only[smN];exact(al5 fun _ _=>rfl).symm
 |n+1=>by simp only[smN,smN_comm n,Q3]
def ad4:∀{n:Nat} {A B:Mtx},(∀i j,i<n->j<n->A i j=B i j)->det n A=det n B
 |0,_,_,_=>rfl
 |n+1,A,B,h=>by simp only[det];refine o8 fun j a=> ?_;rw[h 0 j (by omega) a,ad4 (n:=n) (A:=mnr A j) (B:=mnr B j) fun i k hi hk=>h _ _ (by omega) (by unfold sk;split<;>omega)]
def rep(A:Mtx)(k:Nat)(u:Nat->Int):Mtx:=fun i j=>if j=k then u i else A i j
def rep_self(A:Mtx)(k:Nat):rep A k (fun i=>A i k)=A:=by funext i j;unfold rep;split;rename_i e;rw[e];rfl
def aE0:mnr (rep i n g) n=mnr i n:=by
 funext a c;unfold mnr rep;rw[if_neg (by unfold sk;split<;>omega)]
def aE1(h:n ≠ k):mnr (rep i k g) n=rep (mnr i n) (if k<n then k else k - 1) fun a=>g (a+1):=by
 funext a c;unfold mnr rep;have:sk n c=k↔c=if k<n then k else k - 1:=by unfold sk;split<;>split<;>omega
 by_cases e:sk n c=k;rw[if_pos e,if_pos (this.1 e)];rw[if_neg e,if_neg fun q=>e (this.2 q)]
def det_lin{x y:Int}{u v:Nat->Int}:∀{n:Nat} {A:Mtx} {k:Nat},k<n->det n (rep A k fun i=>x * u i+y * v i)=x * det n (rep A k u)+y * det n (rep A k v)
 |0,_,_,h=>by omega
 |n+1,A,k,hk=>by
  simp only[det];rw[<- C4,<- C4,<- Q3];refine o8 fun j b=> ?_;by_cases e:j=k;subst e;rw[aE0,aE0,aE0];simp only[rep,if_true];grind;rw[aE1 e,aE1 e,aE1 e];have a:(if k<j then k else k - 1)<n:=by split<;>omega
  have:=det_lin (x:=x) (y:=y) (u:=fun i=>u (i+1)) (v:=fun i=>v (i+1)) (A:=mnr A j) a;rw[this];simp only[rep,if_neg (Ne.symm (Ne.symm e))];grind
def det_add{u:Nat->Int}{k:Nat}(hk:k<n):det n (rep i k fun a=>u a+g a)=det n (rep i k u)+det n (rep i k g):=by have:=det_lin (x:=1) (y:=1) (u:=u) (v:=g) (A:=i) hk;simpa using this
def aD8{u:Nat->Int}{c:Int}{A:Mtx}(hk:k<n):det n (rep A k fun i=>c * u i)=c * det n (rep A k u):=by have:=det_lin (x:=c) (y:=0) (u:=u) (v:=u) (A:=A) hk;simpa using this
def det_adj:∀{n:Nat} {A:Mtx} {k:Nat},k+1<n->(∀i,i<n->A i k=A i (k+1))->det n A=0
 |0,_,_,h,_=>by omega
 |n+1,A,k,hk,h=>by
  simp only[det];rw[smN_two (a:=k) (b:=k+1) (by omega) hk fun j f g l=> ?_];have:det n (mnr A k)=det n (mnr A (k+1)):=ad4 fun i c hi o=>by unfold mnr sk;by_cases e:c=k;subst e;rw[if_neg (by omega),if_pos (by omega)];exact(h (i+1) (by omega)).symm;by_cases q:c<k;rw[if_pos q,if_pos (by omega)];rw[if_neg q,if_neg (by omega)]
  rw[this,h 0 (by omega)];have d:sgn (k+1)= - sgn k:=by unfold sgn;split<;>split<;>omega
  rw[d];grind;by_cases q:j<k;have:det n (mnr A j)=0:=det_adj (k:=k - 1) (by omega) fun i hi=>by unfold mnr sk;rw[if_neg (by omega),if_neg (by omega),show k - 1+1=k by omega];exact h (i+1) (by omega)
  rw[this];simp;have:det n (mnr A j)=0:=det_adj (k:=k) (by omega) fun i hi=>by unfold mnr sk;rw[if_pos (by omega),if_pos (by omega)];exact h (i+1) (by omega)
  rw[this];simp
def av8{k l:Nat}{u:Nat->Int}(h:k ≠ l):rep (rep i k u) l g=rep (rep i l g) k u:=by funext a j;unfold rep;by_cases e:j=l;subst e;rw[if_pos rfl,if_neg (Ne.symm h),if_pos rfl];rw[if_neg e];by_cases q:j=k<;>simp[q,e]<;>omega
def det_swap(hk:k+1<n)(u v:Nat->Int):det n (rep (rep i k u) (k+1) v)= - det n (rep (rep i k v) (k+1) u):=by
 have z:∀w:Nat->Int,det n (rep (rep i k w) (k+1) w)=0:=fun w=>det_adj hk fun a _=>by simp[rep]
 have h:=z fun a=>u a+v a;rw[det_add hk,av8 (by omega),det_add (by omega),av8 (k:=k+1) (l:=k) (by omega),av8 (k:=k+1) (l:=k) (by omega),z u] at h;rw[av8 (k:=k) (l:=k+1) (by omega) (u:=fun a=>u a+v a),det_add (by omega),av8 (k:=k+1) (l:=k) (by omega),av8 (k:=k+1) (l:=k) (by omega),z v] at h;omega
def det_same:∀{d n:Nat} {A:Mtx} {k:Nat},k+d+1<n->(∀i,i<n->A i k=A i (k+d+1))->det n A=0
 |0,n,A,k,hk,h=>det_adj hk h
 |d+1,n,A,k,hk,h=>by
  have e:A=rep (rep A (k+d+1) fun i=>A i (k+d+1)) (k+d+1+1) fun i=>A i (k+d+1+1):=by funext i j;unfold rep;by_cases q:j=k+d+1+1;rw[if_pos q,q];rw[if_neg q];by_cases a:j=k+d+1;rw[if_pos a,a];rw[if_neg a]
  rw[e,det_swap (by omega)];rw[det_same (d:=d) (k:=k) (by omega) fun i hi=> ?_];rfl;unfold rep;rw[if_neg (by omega),if_neg (by omega),if_neg (by omega),if_pos rfl];exact h i hi
def det_col(hk:k<n)(b:l<n)(h:k ≠ l):det n (rep i l fun a=>i a k)=0:=by
 rcases jK h with q|q;exact det_same (d:=l - k - 1) (k:=k) (by omega) fun a _=>by rw[show k+(l - k - 1)+1=l by omega];unfold rep;rw[if_neg h,if_pos rfl]
 exact det_same (d:=k - l - 1) (k:=l) (by omega) fun a _=>by rw[show l+(k - l - 1)+1=k by omega];unfold rep;rw[if_pos rfl,if_neg h]
def det_sum(d:k<n):∀m:Nat,det n (rep i k fun a=>smN m fun b=>o a b * g b)=smN m fun b=>g b * det n (rep i k fun a=>o a b)
 |0=>by simp only[smN];have:=aD8 (u:=fun _=>0) (c:=0) (A:=i) d;simpa using this
 |m+1=>by simp only[smN];rw[det_add d,det_sum d m,show(fun a=>o a m * g m)=fun a=>g m * o a m from funext fun a=>iM _ _,aD8 d]
def cramer{n:Nat}{A:Mtx}{y b:Nat->Int}(h:∀i,i<n->smN n (fun k=>A i k * y k)=b i){l:Nat}(a:l<n):det n (rep A l b)=y l * det n A:=by
 have e:det n (rep A l b)=det n (rep A l fun i=>smN n fun k=>A i k * y k):=ad4 fun i j hi _=>by unfold rep;split;exact(h i hi).symm;rfl
 rw[e,det_sum a,W8 a fun k hk c=> ?_];rw[rep_self];rw[det_col hk a c];simp
def det_foot:∀{n:Nat} {A:Mtx} {d:Int},(∀i,i<n->A i n=0)->A n n=d->det (n+1) A=d * det n A
 |0,A,d,_,h=>by simp[det,smN,sgn,h]
 |n+1,A,d,a,h=>by
  rw[det,smN];rw[a 0 (by omega)];have b:sgn (n+1) * 0 * det (n+1) (mnr A (n+1))=0:=by simp
  rw[b,jR,det,<- C4];refine o8 fun j c=> ?_;rw[det_foot (n:=n) (A:=mnr A j) (d:=d) (fun i hi=>by unfold mnr sk;rw[if_neg (by omega)];exact a (i+1) (by omega)) (by unfold mnr sk;rw[if_neg (by omega)];exact h)];grind
/-! ### How large -/
def prd:Nat->(Nat->Int)->Int
 |0,_=>1
 |n+1,r=>r 0 * prd n fun i=>r (i+1)
def prd_nonneg:∀{n:Nat} {r:Nat->Int},(∀i,0<=r i)->0<=prd n r
 |0,_,_=>by simp[prd]
 |n+1,r,h=>jg (h 0) (prd_nonneg fun i=>h (i+1))
def ab(x:Int):Int:=if 0<=x then x else -x
def E5(x:Int):0<=ab x:=by unfold ab;split<;>omega
def ab_add(x y:Int):ab (x+y)<=ab x+ab y:=by unfold ab;split<;>split<;>split<;>omega
def ab_le(h:ab x<=y): -y<=x/\x<=y:=by unfold ab at h;split at h<;>omega
def ab_mul(x y:Int):ab (x * y)=ab x * ab y:=by unfold ab;by_cases a:0<=x<;>by_cases b:0<=y;rw[if_pos a,if_pos b,if_pos (jg a b)];rw[if_pos a,if_neg b];by_cases c:0<=x * y;have:x * y<=0:=Int.mul_nonpos_of_nonneg_of_nonpos a (by omega);rw[if_pos c,jV];omega;rw[if_neg c,jV];rw[if_neg a,if_pos b];by_cases c:0<=x * y;have:x * y<=0:=Int.mul_nonpos_of_nonpos_of_nonneg (by omega) b;rw[if_pos c,jJ];omega;rw[if_neg c,jJ];have h:0<=x * y:=Int.mul_nonneg_of_nonpos_of_nonpos (by omega) (by omega);rw[if_neg a,if_neg b,if_pos h,Int.neg_mul_neg]
def ab_sum{f:Nat->Int}:∀n:Nat,ab (smN n f)<=smN n fun j=>ab (f j)
 |0=>by simp[smN,ab]
 |n+1=>by have:=ab_sum (f:=f) n;have:=ab_add (smN n f) (f n);simp only[smN];omega
def ac8{g:Nat->Int}:∀{n:Nat},(∀j,j<n->p j<=g j)->smN n p<=smN n g
 |0,_=>iR _
 |n+1,h=>by have:=ac8 (n:=n) fun j a=>h j (by omega);have:=h n (by omega);simp only[smN];omega
def ae0:∀{n:Nat},(∀j,j<n->0<=g j)->0<=smN n g
 |0,_=>iR _
 |n+1,h=>by have:=ae0 (n:=n) fun j a=>h j (by omega);have:=h n (by omega);simp only[smN];omega
def smN_sk{f:Nat->Int}(h:∀j,0<=f j):∀{n j:Nat},smN n (fun k=>f (sk j k))<=smN (n+1) f
 |0,j=>by simp only[smN];have:=h 0;omega
 |n+1,j=>by
  by_cases q:n<j;rw[o8 (g:=f) fun k hk=>by unfold sk;rw[if_pos (by omega)]];have:=h (n+1);simp only[smN];omega;have:=smN_sk h (n:=n) (j:=j);have e:sk j n=n+1:=by unfold sk;rw[if_neg q]
  simp only[smN,e] at this ⊢;omega
def an4:∀{n:Nat} {A:Mtx} {r:Nat->Int},(∀i,0<=r i)->(∀i,i<n->smN n (fun j=>ab (A i j))<=r i)->ab (det n A)<=prd n r
 |0,_,_,_,_=>by simp[det,prd,ab]
 |n+1,A,r,a,h=>by
  simp only[det,prd];refine iY (ab_sum _) ?_;have b:∀j,j<n+1->ab (sgn j * A 0 j * det n (mnr A j))<=prd n (fun i=>r (i+1)) * ab (A 0 j):=fun j _=>by
   have c:=an4 (n:=n) (A:=mnr A j) (r:=fun i=>r (i+1)) (fun i=>a (i+1)) fun i hi=>by have:=smN_sk (f:=fun k=>ab (A (i+1) k)) (fun k=>E5 _) (n:=n) (j:=j);have:=h (i+1) (by omega);simp only[mnr] at *;omega
   have d:ab (sgn j)=1:=by unfold sgn ab;split<;>split<;>omega
   rw[ab_mul,ab_mul,d,jW,iM];exact iT c (E5 _)
  refine iY (ac8 b) ?_;rw[C4,iM];exact iT (h 0 (by omega)) (prd_nonneg fun i=>a (i+1))
structure GJ(n:Nat)(A:Mtx)(c:Nat)(a:Mtx)(d:Int):Prop where
 dd:d=det c A
 nz:d ≠ 0
 on:∀i k,i<n->k<c->a i k=if i=k then d else 0
 top:∀j r,c<=j->j<=n->r<c->smN c (fun k=>A r k * a k j)=d * A r j
 low:∀j r,c<=j->j<=n->c<=r->r<n->a r j=d * A r j - smN c (fun k=>A r k * a k j)
def GJ.start{n:Nat}:GJ n i 0 i 1:=
 ⟨rfl,by omega,fun a k _ h=>by omega,fun j r _ _ h=>by omega,fun j r _ _ _ _=>by simp[smN]⟩
def brd(c:Nat)(A:Mtx)(r j:Nat):Mtx:=fun i k=>A (if i=c then r else i) (if k=c then j else k)
def smN_neg:smN n (fun k=> - g k)= - smN n g:=by have:=C4 (c:= -1) (f:=g) n;simpa using this
def GJ.brd{n:Nat}{A:Mtx}(h:GJ n A k i x){r:Nat}(t:k<=l)(p:l<=n)(u:k<=r)(s:r<n):i r l=det (k+1) (brd k A r l):=by
 have key:=cramer (n:=k+1) (A:=Ab.brd k A r l) (y:=fun f=>if f=k then x else - i f l) (b:=fun g=>if g=k then i r l else 0) (fun g hi=>by
  simp only[smN];rw[if_pos trivial];have e:smN k (fun f=>Ab.brd k A r l g f * if f=k then x else - i f l)= - smN k (fun f=>A (if g=k then r else g) f * i f l):=by rw[<- smN_neg];refine o8 fun f hk=> ?_;rw[if_neg (by omega)];unfold Ab.brd;rw[if_neg (by omega:¬ f=k)];grind
  rw[e];have v:Ab.brd k A r l g k=A (if g=k then r else g) l:=by unfold Ab.brd;simp
  rw[v];by_cases q:g=k;subst q;simp only[if_true];have:=h.low l r t p u s;have:=iM x (A r l);omega;simp only[if_neg q];have:=h.top l g t p (by omega);have:=iM x (A g l);omega) (l:=k) (by omega)
 rw[if_pos rfl,det_foot (d:=i r l) (fun g hi=>by unfold rep;rw[if_pos rfl];exact if_neg (by omega)) (by unfold rep;rw[if_pos rfl];exact if_pos rfl)] at key;have e:det k (rep (Ab.brd k A r l) k fun g=>if g=k then i r l else 0)=x:=by rw[h.dd];refine ad4 fun g f hi hk=> ?_;unfold rep Ab.brd;rw[if_neg (by omega),if_neg (by omega),if_neg (by omega)]
 rw[e,iM] at key;exact jb h.nz key
def GJ.piv(h:GJ n i k o x)(j:k<n):o k k=det (k+1) i:=by rw[h.brd (iJ k) (by omega) (iJ k) j];refine ad4 fun b f _ _=> ?_;unfold Ab.brd;split;rename_i e;rw[e];split;rename_i g;rw[g];rfl;split;rename_i g;rw[g];rfl
def crs(a:Mtx)(c i j:Nat):Int:=a c c * a i j - a i c * a c j
def GJ.topc{n:Nat}{A:Mtx}(h:GJ n A k i x)(g:k<n)(o:k<=l)(f:l<=n){r:Nat}(p:r<k+1):
  smN (k+1) (fun b=>A r b * if b=k then x * i k l else crs i k b l)=x * i k k * A r l:=by
 simp only[smN]
 rw[if_pos trivial]
 have e:smN k (fun b=>A r b * if b=k then x * i k l else crs i k b l)=i k k * smN k (fun b=>A r b * i b l) - i k l * smN k (fun b=>A r b * i b k):=by rw[<- C4,jw,<- jJ,<- C4,<- Q3];refine o8 fun b hk=> ?_;rw[if_neg (by omega)];unfold crs;grind
 rw[e]
 by_cases q:r=k
 ·subst q
  have s:=h.low l r o f (iJ r) g
  have t:=h.low r r (iJ r) (by omega) (iJ r) g
  rw[show smN r (fun b=>A r b * i b l)=x * A r l - i r l by omega,show smN r (fun b=>A r b * i b r)=x * A r r - i r r by omega]
  grind
 ·rw[h.top l r o f (by omega),h.top k r (iJ k) (by omega) (by omega)]
  grind
def GJ.exact_top(h:GJ n i k o x)(p:k<n)(hp:o k k ≠ 0){j:Nat}(hi:l<k)(q:k<=j)(g:j<=n):crs o k l j=x * det (k+1) (rep i l fun r=>i r j):=by
 have key:=cramer (n:=k+1) (A:=i) (y:=fun e=>if e=k then x * o k j else crs o k e j) (b:=fun r=>(x * o k k) * i r j) (fun r s=>h.topc p q g s) (l:=l) (by omega);rw[if_neg (by omega),aD8 (by omega),<- h.piv p] at key;have:o k k * crs o k l j=o k k * (x * det (k+1) (rep i l fun r=>i r j)):=by grind
 exact jb hp this
def GJ.step{n c:Nat}{A a:Mtx}{d:Int}(h:GJ n A c a d)(t:c<n)(hp:a c c ≠ 0){b:Mtx}(u:∀j,j<=n->b c j=a c j)(v:∀i j,i<n->i ≠ c->j<=n->j ≠ c->d * b i j=crs a c i j)(x:∀i,i<n->i ≠ c->b i c=0):GJ n A (c+1) b (a c c):=by
 have p:=h.nz;have old:∀i k,i<n->k<c->b i k=if i=k then a c c else 0:=fun i k hi hk=>by by_cases q:i=c;subst q;rw[u k (by omega),h.on i k hi hk,if_neg (by omega),if_neg (by omega)];have e:=v i k hi q (by omega) (by omega);unfold crs at e;rw[h.on c k t hk,if_neg (by omega),jE,Int.sub_zero,h.on i k hi hk] at e;split;rename_i g;rw[if_pos g,iM (a c c)] at e;exact jb p e;rename_i g;rw[if_neg g] at e;simp only[jE] at e;exact(Int.mul_eq_zero.1 e).resolve_left p
 have o:∀j r,c+1<=j->j<=n->d * smN (c+1) (fun k=>A r k * b k j)=smN (c+1) (fun k=>A r k * if k=c then d * a c j else crs a c k j):=fun j r s f=>by rw[<- C4];refine o8 fun k hk=> ?_;by_cases q:k=c;subst q;rw[if_pos rfl,u j f];grind;rw[if_neg q,<- v k j (by omega) q f (by omega)];grind
 refine⟨h.piv t,hp,fun i k hi hk=> ?_,fun j r s f w=> ?_,fun j r s f w l=> ?_⟩;by_cases q:k=c;subst q;by_cases g:i=k;subst g;rw[u i (by omega),if_pos rfl];rw[x i hi g,if_neg g];exact old i k hi (by omega);have e:=o j r s f;rw[h.topc t (by omega) f w] at e;exact jb p (by rw[e];grind);have e:=o j r s f;have y:=v r j l (by omega) f (by omega);have z:smN (c+1) (fun k=>A r k * if k=c then d * a c j else crs a c k j)=a c c * smN c (fun k=>A r k * a k j) - a c j * smN c (fun k=>A r k * a k c)+A r c * (d * a c j):=by
  simp only[smN];rw[if_pos trivial];have e:smN c (fun k=>A r k * if k=c then d * a c j else crs a c k j)=a c c * smN c (fun k=>A r k * a k j) - a c j * smN c (fun k=>A r k * a k c):=by rw[<- C4,jw,<- jJ,<- C4,<- Q3];refine o8 fun k hk=> ?_;rw[if_neg (by omega)];unfold crs;grind
  rw[e]
 have l1:=h.low j r (by omega) f (by omega) l;have B:=h.low c r (iJ c) (by omega) (by omega) l;rw[z,show smN c (fun k=>A r k * a k j)=d * A r j - a r j by omega,show smN c (fun k=>A r k * a k c)=d * A r c - a r c by omega] at e;refine jb p ?_;rw[y,Int.mul_sub,e];unfold crs;grind
def GJ.exact_low(h:GJ n i k o y)(p:k<n)(hp:o k k ≠ 0){j:Nat}(s:k<l)(f:l<n)(t:k<j)(g:j<=n):∃x,crs o k l j=y * x:=by
 refine⟨o k k * i l j - i l k * o k j - smN k (fun b=>i l b * det (k+1) (rep i b fun q=>i q j)),?_⟩;have l1:=h.low j l (by omega) g (by omega) f;have u:=h.low k l (iJ k) (by omega) (by omega) f;have e:y * smN k (fun b=>i l b * det (k+1) (rep i b fun q=>i q j))=o k k * smN k (fun b=>i l b * o b j) - o k j * smN k (fun b=>i l b * o b k):=by rw[<- C4,<- C4,jw,<- jJ,<- C4,<- Q3];refine o8 fun b hk=> ?_;have:=h.exact_top p hp hk (by omega:k<=j) g;unfold crs at this;grind
 rw[Int.mul_sub,e,show smN k (fun b=>i l b * o b j)=y * i l j - o l j by omega,show smN k (fun b=>i l b * o b k)=y * i l k - o l k by omega];unfold crs;grind
def GJ.exact{n c:Nat}{A a:Mtx}{d:Int}(h:GJ n A c a d)(b:c<n)(hp:a c c ≠ 0){i j:Nat}(hi:i<n)(e:i ≠ c)(g:j<=n)(f:j ≠ c):∃x,crs a c i j=d * x:=by rcases jK f with q|q;unfold crs;rw[h.on c j b q,if_neg (by omega),h.on i j hi q];split;exact⟨a c c,by grind⟩;exact⟨0,by simp⟩;rcases jK e with r|r;exact⟨_,h.exact_top b hp r (by omega) g⟩;exact h.exact_low b hp r hi q g
structure Ms(n:Nat)(W:Nat->Int)(w:Mtx):Prop where
 pos:∀i,i<n->0<W i
 nn:∀i k,0<=w i k
 le:∀i,i<n->smN n (w i)<=W i
inductive Px(n:Nat)(W:Nat->Int)(w:Mtx):Nat->Prop
 |exit {i:Nat} (h:i<n) (hw:smN n (w i)<W i):Px n W w i
 |step {i k:Nat} (h:i<n) (hk:k<n) (hw:0<w i k) (hp:Px n W w k):Px n W w i
theorem aa1 {f : Nat -> Int} (h : ∀ j, 0 <= f j) {m : Nat} : ∀ {n : Nat}, m <= n -> smN m f <= smN n f
  | 0, hm => by have : m = 0 := by omega
                subst this; exact iR _
  | n + 1, hm => by
    by_cases e : m = n + 1
    · subst e; exact iR _
    · have := aa1 h (m := m) (n := n) (by omega)
      have := h n
      simp only [smN]; omega
def ad7{f:Nat->Int}(h:∀j,0<=f j){m k:Nat}(hk:m<=k):∀{n:Nat},k<n->smN m f+f k<=smN n f
 |0,h=>by omega
 |n+1,a=>by by_cases e:k=n;subst e;have:=aa1 h (m:=m) (n:=k) hk;simp only[smN];omega;have:=ad7 h hk (n:=n) (by omega);have:=h n;simp only[smN];omega
def exists_max (z : Nat -> Int) : ∀ {m : Nat}, 0 < m -> ∃ r, r < m /\ ∀ k, k < m -> z k <= z r
  | 0, h => by omega
  | 1, _ => ⟨0, by omega, fun k hk => by have : k = 0 := by omega
                                         subst this; exact iR _⟩
  | m + 2, _ => by obtain ⟨r, b, a⟩ := exists_max z (m := m + 1) (by omega);by_cases c : z (m + 1) <= z r;exact ⟨r, by omega, fun k hk => by by_cases e : k = m + 1;rw [e]; exact c;exact a k (by omega)⟩;exact ⟨m + 1, by omega, fun k hk => by by_cases e : k = m + 1;rw [e]; exact iR _;have := a k (by omega); omega⟩
def maxP{W:Nat->Int}(l:Ms n W i)(x:k<=n)(hp:∀b,b<k->Px n W i b){z:Nat->Int}(y:∀r,r<k->W r * z r<=smN k (fun d=>i r d * z d)):∀r,r<k->z r<=0:=by
 intro r F;obtain⟨q,A,p⟩:=exists_max z (m:=k) (by omega);by_cases c:z q<=0;exact iY (p r F) c;exfalso;have o:0<z q:=by omega
 have g:∀b,b<k->z b=z q->smN k (i b)<W b->False:=fun b hi e h=>by
  have s:=y b hi;have B:smN k (fun d=>i b d * z d)<=z q * smN k (i b):=by rw[<- C4];refine ac8 fun d hk=> ?_;rw[iM];exact iT (p d hk) (l.nn b d)
  have G:z q * smN k (i b)<z q * W b:=Int.mul_lt_mul_of_pos_left h o;have D:=iM (W b) (z b);rw[e] at s D;omega
 have key:∀b,Px n W i b->b<k->z b=z q->False:=fun b hi=>by
  induction hi with
  |@exit b h H=>
   intro hi e
   have:=aa1 (f:=i b) (fun d=>l.nn b d) x
   exact g b hi e (by omega)
  |@step b d h hk H _ J=>
   intro hi e
   by_cases t:d<k
   ·by_cases K:z d=z q
    ·exact J t K
    ·have u:z d<=z q - 1:=by have:=p d t;omega
     have s:=y b hi
     have B:smN k (fun j=>i b j * z j)<=smN k (fun j=>z q * i b j+(if j=d then - i b d else 0)):=by refine ac8 fun j L=> ?_;by_cases E:j=d;subst E;rw[if_pos rfl];have:=iT u (l.nn b j);have N:=iM (i b j) (z j);rw[Int.sub_mul,jW] at this;omega;rw[if_neg E,jR,iM];exact iT (p j L) (l.nn b j)
     rw[Q3,C4,W8 (a:=d) t fun j _ v=>if_neg v,if_pos rfl] at B
     have G:=aa1 (f:=i b) (fun d=>l.nn b d) x
     have D:=l.le b h
     have O:z q * smN k (i b)<=z q * W b:=jo (by omega) (by omega)
     have M:=iM (W b) (z b)
     rw[e] at s M;omega
   ·have:=ad7 (f:=i b) (fun d=>l.nn b d) (m:=k) (k:=d) (by omega) hk
    have:=l.le b h
    exact g b hi e (by omega)
 exact key q (hp q A) A rfl
def eqM(n:Nat)(W:Nat->Int)(w:Mtx)(b:Nat->Int):Mtx:=fun i k=>if k=n then b i else(if i=k then W i else 0) - w i k
def eqM_sum{W:Nat->Int}(h:k<=n)(f:l<k)(y:Nat->Int):smN k (fun c=>eqM n W i g l c * y c)=W l * y l - smN k (fun c=>i l c * y c):=by
 have:smN k (fun c=>eqM n W i g l c * y c)=smN k (fun c=>(if l=c then W l * y l else 0)+ - (i l c * y c)):=o8 fun c hk=>by unfold eqM;rw[if_neg (by omega)];split;rename_i e;subst e;grind;grind
 rw[this,Q3,smN_neg,W8 (a:=l) f fun c _ d=>if_neg (Ne.symm d),if_pos rfl];omega
def ker0{W:Nat->Int}(f:Ms n W i){b:Nat->Int}{m:Nat}(d:m<=n)(hp:∀a,a<m->Px n W i a){y:Nat->Int}(g:∀r,r<m->smN m (fun k=>eqM n W i b r k * y k)=0):∀r,r<m->y r=0:=by
 intro r c;have h:=maxP f d hp (z:=y) (fun r c=>by have:=g r c;rw[eqM_sum d c] at this;omega) r c;have j:=maxP f d hp (z:=fun k=> - y k) (fun r c=>by
  have:=g r c;rw[eqM_sum d c] at this;have e:smN m (fun k=>i r k * - y k)= - smN m (fun k=>i r k * y k):=by rw[<- smN_neg];exact o8 fun k _=>by grind
  rw[e,jV];omega) r c
 omega
def pos0{W:Nat->Int}(d:Ms n W i){b:Nat->Int}(hp:∀a,a<n->Px n W i a){y:Nat->Int}(f:∀r,r<n->0<=smN n (fun k=>eqM n W i b r k * y k)):∀r,r<n->0<=y r:=by
 intro r c;have g:=maxP d (iJ n) hp (z:=fun k=> - y k) (fun r c=>by
  have:=f r c;rw[eqM_sum (iJ n) c] at this;have e:smN n (fun k=>i r k * - y k)= - smN n (fun k=>i r k * y k):=by rw[<- smN_neg];exact o8 fun k _=>by grind
  rw[e,jV];omega) r c
 omega
def GJ.pivot{W:Nat->Int}(l:Ms n W i)(hp:∀f,f<n->Px n W i f)(h:GJ n (eqM n W i g) k o x)(p:k<n):o k k ≠ 0:=by
 intro s;have:=ker0 l (b:=g) (m:=k+1) (by omega) (fun f hi=>hp f (by omega)) (y:=fun j=>if j=k then x else - o j k) (fun r t=>by
  simp only[smN];rw[if_pos trivial];have e:smN k (fun j=>eqM n W i g r j * if j=k then x else - o j k)= - smN k (fun j=>eqM n W i g r j * o j k):=by rw[<- smN_neg];refine o8 fun j hk=> ?_;rw[if_neg (by omega)];grind
  rw[e];by_cases q:r=k;subst q;have:=h.low r r (iJ r) (by omega) (iJ r) p;have:=iM x (eqM n W i g r r);omega;have:=h.top k r (iJ k) (by omega) (by omega);have:=iM x (eqM n W i g r k);omega) k (by omega)
 rw[if_pos rfl] at this;exact h.nz this
def Qv(n:Nat)(W:Nat->Int)(w:Mtx)(c num:Nat->Int)(den:Int)(i:Nat):Int:=smN n (fun k=>w i k * num k)+W i * c i * den
structure Vf(n:Nat)(W:Nat->Int)(w:Mtx)(c num:Nat->Int)(den:Int):Prop where
 pos:0<den
 eq:∀i,i<n->Qv n W w c num den i=W i * num i
def smN_lin:smN n (fun k=>x * g k - y * p k)=x * smN n g - y * smN n p:=by
 have:(fun k=>x * g k - y * p k)=fun k=>x * g k+ -y * p k:=by funext k;grind
 rw[this,Q3,C4,C4];grind
def lin_row(r:Nat):smN n (fun k=>i r k * (x * p k - y * g k))=x * smN n (fun k=>i r k * p k) - y * smN n (fun k=>i r k * g k):=by
 rw[<- smN_lin];exact o8 fun k _=>by grind
def val_ge{W:Nat->Int}{d:Nat->Int}{den:Int}(o:Ms n W i)(hp:∀a,a<n->Px n W i a)(j:Vf n W i g d x)(v:0<den)(h:∀a,a<n->Qv n W i g p den a<=W a * p a):∀a,a<n->den * d a<=x * p a/\(Qv n W i g p den a<W a * p a->den * d a<x * p a):=by
 have sum:∀r,r<n->W r * (x * p r - den * d r)=smN n (fun k=>i r k * (x * p k - den * d k))+x * (W r * p r - Qv n W i g p den r):=fun r f=>by
  rw[lin_row];have l:=j.eq r f;unfold Qv at l ⊢;have q:smN n (fun k=>i r k * d k)=W r * d r - W r * g r * x:=by omega
  rw[q];grind
 have nn:∀a,a<n->0<=x * p a - den * d a:=fun a hi=>pos0 o (b:=fun _=>0) hp (y:=fun k=>x * p k - den * d k) (fun r f=>by rw[eqM_sum (iJ n) f];have:=sum r f;have s:=h r f;have t:0<=x * (W r * p r - Qv n W i g p den r):=jg (Int.le_of_lt j.pos) (by omega);omega) a hi;intro a hi;refine⟨by have:=nn a hi;omega,fun u=> ?_⟩;have l:=sum a hi;have s:0<x * (W a * p a - Qv n W i g p den a):=kq j.pos (by omega);have t:0<=smN n (fun k=>i a k * (x * p k - den * d k)):=ae0 fun k hk=>jg (o.nn a k) (nn k hk);have q:=nn a hi;by_cases e:x * p a - den * d a=0;rw[e,jE] at l;omega;omega
def exists_min(z:Nat->Int)(C:Nat->Prop):∀{m:Nat},(∃i,i<m/\C i)->∃r,r<m/\C r/\∀k,k<m->C k->z r<=z k
 |0,⟨i,h,_⟩=>by omega
 |m+1,⟨i,hi,b⟩=>by
  by_cases e:∃i,i<m/\C i;obtain⟨r,j,d,c⟩:=exists_min z C e;by_cases q:C m/\z m<z r;refine⟨m,by omega,q.1,fun k hk a=> ?_⟩;by_cases f:k=m;rw[f];exact iR _;have:=c k (by omega) a;omega;refine⟨r,by omega,d,fun k hk a=> ?_⟩;by_cases f:k=m;subst f;by_cases g:z k<z r;exact absurd ⟨a,g⟩ q;omega;exact c k (by omega) a;have:i=m:=by by_cases f:i=m;exact f;exact absurd ⟨i,by omega,b⟩ e
  subst this;refine⟨i,by omega,b,fun k hk a=> ?_⟩;by_cases f:k=i;rw[f];exact iR _;exact absurd ⟨k,by omega,a⟩ e
def proper_of{W:Nat->Int}{den:Int}(d:Ms n W i)(f:∀a,a<n->1<=g a)(j:0<den)(h:∀a,a<n->Qv n W i g p den a<=W a * p a):∀a,a<n->Px n W i a:=by
 intro a hi;refine js fun l=> ?_;obtain⟨r,b,e,o⟩:=exists_min p (fun a=>¬ Px n W i a) ⟨a,hi,l⟩;have s:=h r b;have t:=d.pos r b;have u:smN n (i r)=W r:=by have:=d.le r b;by_cases q:smN n (i r)<W r;exact absurd (Px.exit b q) e;omega
 have v:smN n (fun k=>p r * i r k)<=smN n (fun k=>i r k * p k):=ac8 fun k hk=>by
  by_cases q:0<i r k;have:¬ Px n W i k:=fun hp=>e (.step b hk q hp);have:=o k hk this;rw[iM];exact jo this (by omega);have:i r k=0:=by have:=d.nn r k;omega
  rw[this];simp
 rw[C4,u] at v;have x:0<W r * g r * den:=kq (kq t (by have:=f r b;omega)) j;unfold Qv at s;have:=iM (p r) (W r);omega
def am9:∀n:Nat,prd n (fun _=>x)=x ^ n
 |0=>by simp[prd]
 |n+1=>by rw[prd,am9 n,kh,iM]
def pow_nn(h:0<=x):∀n:Nat,0<=x ^ n
 |0=>by simp
 |n+1=>by rw[kh];exact jg (pow_nn h n) h
def ab_sgn(j:Nat):ab (sgn j)=1:=by unfold sgn ab;split<;>split<;>omega
def av3{R B:Int}(h:0<=R)(o:0<=B):∀{n:Nat} {A:Mtx} {l:Nat},l<n+1->(∀i,i<n+1->smN (n+1) (fun j=>if j=l then 0 else ab (A i j))<=R)->(∀i,i<n+1->ab (A i l)<=B)->ab (det (n+1) A)<=(n+1:Int) * B * R ^ n
 |0,A,l,s,_,b=>by
  have:l=0:=by omega
  subst this;have:=b 0 (by omega);simpa[det,smN,sgn] using this
 |n+1,A,l,s,p,b=>by
  have v:0<=(n+1:Int) * B * R ^ n:=jg (jg (by omega) o) (pow_nn h n);rw[det];refine iY (ab_sum _) ?_;have w:∀j,j<n+1+1->ab (sgn j * A 0 j * det (n+1) (mnr A j))<=((n+1:Int) * B * R ^ n) * (if j=l then 0 else ab (A 0 j))+(if j=l then B * R ^ (n+1) else 0):=fun j t=>by
   rw[ab_mul,ab_mul,ab_sgn,jW];by_cases e:j=l;subst e;rw[if_pos rfl,if_pos rfl,jE,ki];have u:=an4 (n:=n+1) (A:=mnr A j) (r:=fun _=>R) (fun _=>h) fun i hi=>by have c:=p (i+1) (by omega);have d:=smN_sk (f:=fun k=>if k=j then 0 else ab (A (i+1) k)) (fun k=>by split;omega;exact E5 _) (n:=n+1) (j:=j);rw[o8 (g:=fun k=>if sk j k=j then 0 else ab (A (i+1) (sk j k))) fun k _=>by unfold mnr;rw[if_neg (by unfold sk;split<;>omega)]];exact iY d c
   rw[am9] at u;exact jI (b 0 (by omega)) u (E5 _) o;rw[if_neg e,if_neg e,jR,iM];refine iT (av3 h o (l:=if j<l then l - 1 else l) (by split<;>omega) (fun i hi=> ?_) fun i hi=> ?_) (E5 _);have c:=p (i+1) (by omega);have d:=smN_sk (f:=fun k=>if k=l then 0 else ab (A (i+1) k)) (fun k=>by split;omega;exact E5 _) (n:=n+1) (j:=j);rw[o8 (g:=fun k=>if sk j k=l then 0 else ab (A (i+1) (sk j k))) fun k _=>by
    unfold mnr;have:k=(if j<l then l - 1 else l)↔sk j k=l:=by unfold sk;split<;>split<;>omega
    by_cases q:sk j k=l;rw[if_pos (this.2 q),if_pos q];rw[if_neg (fun r=>q (this.1 r)),if_neg q]]
   exact iY d c;have:=b (i+1) (by omega);unfold mnr;rwa [show sk j (if j<l then l - 1 else l)=l by unfold sk;split<;>split<;>omega]
  refine iY (ac8 w) ?_;rw[Q3,C4,W8 (f:=fun j=>if j=l then B * R ^ (n+1) else 0) (a:=l) s fun j _ t=>if_neg t,if_pos rfl];have c:=jo (p 0 (by omega)) v;have d:((n+1:Int) * B * R ^ n) * R=(n+1:Int) * B * R ^ (n+1):=by rw[kh];grind
  push_cast;have x:((n:Int)+1+1) * B * R ^ (n+1)=(n+1:Int) * B * R ^ (n+1)+B * R ^ (n+1):=by grind
  omega
def GJ.rep{n:Nat}{A:Mtx}{d:Int}(h:GJ n A k i d){j:Nat}(hi:l<k)(o:k<=j)(g:j<=n):i l j=det k (rep A l fun r=>A r j):=by have key:=cramer (n:=k) (A:=A) (y:=fun e=>i e j) (b:=fun r=>d * A r j) (fun r p=>h.top j r o g p) (l:=l) hi;rw[aD8 hi,<- h.dd,iM (i l j)] at key;exact(jb h.nz key).symm
structure Rb(n:Nat)(A:Mtx)(R B:Int):Prop where
 R0:0<=R
 B0:0<=B
 row:∀i,i<n->smN n (fun k=>ab (A i k))<=R
 rhs:∀i,i<n->ab (A i n)<=B
def Rb.brd1(h:Rb n i x y){j:Nat}(e:k<=j)(b:j<n)(hi:k<=l)(o:l<n):ab (det (k+1) (brd k i l j))<=x ^ (k+1):=by
 have:=an4 (n:=k+1) (A:=brd k i l j) (r:=fun _=>x) (fun _=>h.R0) fun r p=>by
  have d:(if r=k then l else r)<n:=by split<;>omega
  have q:=ad7 (f:=fun a=>ab (i (if r=k then l else r) a)) (fun _=>E5 _) e b;have s:=h.row _ d;simp only[smN];rw[o8 (g:=fun a=>ab (i (if r=k then l else r) a)) fun a hk=>by unfold brd;rw[if_neg (by omega:¬ a=k)]];have:brd k i l j r k=i (if r=k then l else r) j:=by unfold brd;rw[if_pos (rfl:k=k)]
  rw[this];omega
 rwa [am9] at this
def Rb.brd2(h:Rb n i x y)(e:k<=n)(hi:k<=l)(j:l<n):ab (det (k+1) (brd k i l n))<=(k+1:Int) * y * x ^ k:=by
 refine av3 h.R0 h.B0 (l:=k) (by omega) (fun r o=> ?_) fun r o=> ?_;have d:(if r=k then l else r)<n:=by split<;>omega
 have p:=aa1 (f:=fun b=>ab (i (if r=k then l else r) b)) (fun _=>E5 _) e;have q:=h.row _ d;simp only[smN,if_true,jR];rw[o8 (g:=fun b=>ab (i (if r=k then l else r) b)) fun b hk=>by unfold brd;rw[if_neg (by omega:¬ b=k),if_neg (by omega:¬ b=k)]];omega;have d:(if r=k then l else r)<n:=by split<;>omega
 have:brd k i l n r k=i (if r=k then l else r) n:=by unfold brd;rw[if_pos (rfl:k=k)]
 rw[this];exact h.rhs _ d
def Rb.rep1(h:Rb n i x y)(q:k<=n){j:Nat}(hi:l<k)(g:k<=j)(b:j<n):ab (det k (rep i l fun r=>i r j))<=x ^ k:=by
 have:=an4 (n:=k) (A:=rep i l fun r=>i r j) (r:=fun _=>x) (fun _=>h.R0) fun r s=>by
  have o:=ad7 (f:=fun a=>ab (i r a)) (fun _=>E5 _) g b;have p:=h.row r (by omega);have d:smN k (fun a=>ab (rep i l (fun r=>i r j) r a))<=smN k (fun a=>ab (i r a)+(if a=l then ab (i r j) else 0)):=ac8 fun a hk=>by unfold Ab.rep;by_cases e:a=l;rw[if_pos e,if_pos e];have:=E5 (i r a);show ab (i r j)<=ab (i r a)+ab (i r j);omega;rw[if_neg e,if_neg e];omega
  rw[Q3,W8 (f:=fun a=>if a=l then ab (i r j) else 0) hi fun a _ hk=>if_neg hk,if_pos rfl] at d;exact iY d (iY o p)
 rwa [am9] at this
def Rb.rep2{c:Nat}(h:Rb n o x y){i:Nat}(a:c+1<=n)(hi:i<c+1):ab (det (c+1) (rep o i fun r=>o r n))<=(c+1:Int) * y * x ^ c:=by refine av3 h.R0 h.B0 (l:=i) hi (fun r b=> ?_) fun r b=> ?_;have d:=aa1 (f:=fun k=>ab (o r k)) (fun _=>E5 _) a;have e:=h.row r (by omega);refine iY (ac8 (g:=fun k=>ab (o r k)) fun k hk=> ?_) (iY d e);unfold Ab.rep;split;exact E5 _;exact iR _;unfold Ab.rep;rw[if_pos rfl];exact h.rhs r (by omega)
def filter_le{p q:A->Bool}:∀{l:List A},(∀x ∈ l,p x=true->q x=true)->(l.filter p).length<=(l.filter q).length
 |[],_=>iJ _
 |a::l,h=>by have b:=filter_le (l:=l) fun x c=>h x (iK _ c);have d:=h a (by simp);simp only[kr];split;rename_i hp;rw[if_pos (d hp)];simp only[iQ];omega;split;simp only[iQ];omega;exact b
def filter_lt{p q:A->Bool}:∀{l:List A},(∀x ∈ l,p x=true->q x=true)->(∃x ∈ l,q x=true/\p x=false)->(l.filter p).length<(l.filter q).length
 |[],_,⟨x,h,_⟩=>by cases h
 |a::l,h,⟨x,b,c,hp⟩=>by have d:=fun x b=>h x (iK a b);have f:=h a (by simp);simp only[kr];rcases jf.1 b with rfl|b;have:=filter_le d;rw[hp,c];simp only[kj,if_false,if_true,iQ];omega;have g:=filter_lt d ⟨x,b,c,hp⟩;split;rename_i e;rw[if_pos (f e)];simp only[iQ];omega;split;simp only[iQ];omega;exact g
noncomputable def rank(L:List A)(lt:A->A->Prop)(x:A):Nat:=(L.filter fun z=>dec (lt z x)).length
def rank_lt{L:List A}{lt:A->A->Prop}(a:∀M y z,lt M y->lt y z->lt M z)(b:∀M,¬ lt M M){y:A}(c:y ∈ L)(h:lt y M):rank L lt y<rank L lt M:=
 filter_lt (fun z _ d=>i9 (a _ _ _ (m5.1 d) h)) ⟨y,c,i9 h,s9 (b y)⟩
def lists(m:Nat):Nat->LL
 |0=>[[]]
 |n+1=>(List.range m).flatMap fun a:Nat=>(lists m n).map fun l=>(a:Int)::l
def mem_lists:∀{n:Nat} {l:Li},kw l=n->(∀x ∈ l,0<=x/\x<k)->l ∈ lists k n
 |0,l,h,_=>by have:l=[]:=List.eq_nil_of_length_eq_zero h;rw[this];simp[lists]
 |n+1,a::l,h,b=>by have c:=b a (by simp);refine jz.2 ⟨a.toNat,List.mem_range.2 (by omega),jd.2 ⟨l,mem_lists (by simpa using h) fun x d=>b x (iK _ d),?_⟩⟩;rw[Int.toNat_of_nonneg c.1]
def mE(M:LL):Mtx:=fun i j=>((M[i]?).getD [])[j]?.getD 0
structure Shp(n:Nat)(M:LL):Prop where
 len:kw M=n
 row:∀r ∈ M,kw r=n+1
def Shp.get{n:Nat}(h:Shp n q){i:Nat}(hi:i<n):∃row,q[i]? =some row/\(kw row)=n+1/\ix q (i:Int)=some row/\∀j,j<=n->ix row (j:Int)=some (mE q i j)/\row[j]? =some (mE q i j):=by
 have b:i<kw q:=by rw[h.len];exact hi
 have e:q[i]? =some q[i]:=iI b;have d:=h.row _ (ji b);refine⟨q[i],e,d,by rw[v8,e],fun j f=> ?_⟩;have a:j<q[i].length:=by omega
 have c:q[i][j]? =some q[i][j]:=iI a;have:mE q i j=q[i][j]:=by unfold mE;rw[e];simp[c]
 rw[v8,c,this];exact⟨rfl,rfl⟩
def Shp.set{n:Nat}{M:LL}(h:Shp n M){i:Nat}{row:Li}(b:kw row=n+1):Shp n (M.set i row):=
 ⟨by rw[lS];exact h.len,fun r a=>by rcases List.mem_or_eq_of_mem_set a with a|rfl;exact h.row r a;exact b⟩
def mE_set{M:LL}(h:Shp n M)(hi:k<n){row:Li}(a:M[k]? =some row)(d:l<kw row)(v:Int)(b c:Nat):
  mE (M.set k (row.set l v)) b c=if b=k/\c=l then v else mE M b c:=by
 have g:k<kw M:=by rw[h.len];exact hi
 unfold mE
 rw[jj]
 by_cases e:b=k
 ·subst e
  rw[if_pos rfl,if_pos g,a]
  simp only[Option.getD_some,jj,true_and]
  by_cases f:c=l
  ·subst f;simp[d]
  ·rw[if_neg (fun q=>f q.symm),if_neg f]
 ·rw[if_neg (fun q=>e q.symm),if_neg (fun q=>e q.1)]
def Ft(x:Int):Prop:= -9223372036854775808<=x/\x<=9223372036854775807
def Ft.w(h:Ft x):w64 x=x:=w64_eq h
def row_clear{M:LL}(K:Shp n M)(X:n<=1000)(L:k<n)(hi:l<n)(t:l ≠ k)(N:x ≠ 0)(O:∀j,j<=n->j ≠ k->Ft (mE M k k * mE M l j)/\Ft (mE M l k * mE M k j)/\Ft (crs (mE M) k l j)/\Ft ((crs (mE M) k l j).tdiv x)):
  ∃p,Loop (G0 k x l) (M,(n:Int))=some p/\Shp n p/\∀d b,b<=n->mE p d b=if d=l/\b ≠ k then(crs (mE M) k l b).tdiv x else mE M d b:=by
 refine E8 (body:=G0 k x l) (s:=(M,(n:Int)))
  (fun s=>Shp n s.1/\ -1<=s.2/\s.2<=n/\∀d b:Nat,b<=n->mE s.1 d b=if d=l/\b ≠ k/\s.2<b then(crs (mE M) k l b).tdiv x else mE M d b)
  (fun p=>Shp n p/\∀d b,b<=n->mE p d b=if d=l/\b ≠ k then(crs (mE M) k l b).tdiv x else mE M d b)
  (fun s=>(s.2+1).toNat) ⟨K,by dsimp only;omega,by dsimp only;omega,fun d b g=>by rw[if_neg (by dsimp only;omega)]⟩ ?_
 rintro ⟨u,j⟩ ⟨o,P,Q,h⟩
 dsimp only at o P Q h
 unfold G0
 dsimp only
 by_cases v:0<=j
 ·rw[if_pos v]
  obtain⟨a,rfl⟩:=iS v
  have G:w64 ((a:Int) - 1)=a - 1:=p9 (by omega) (by omega)
  by_cases e:(a:Int)=k
  ·rw[if_pos e,jS,G]
   refine .inl ⟨_,rfl,⟨o,by dsimp only;omega,by dsimp only;omega,fun d b g=> ?_⟩,by dsimp only;omega⟩
   rw[h d b g]
   dsimp only
   by_cases q:d=l/\b ≠ k/\(a:Int)<b
   ·rw[if_pos q,if_pos ⟨q.1,q.2.1,by omega⟩]
   ·rw[if_neg q,if_neg (fun r=>q ⟨r.1,r.2.1,by have:=r.2.1;have:=r.2.2;omega⟩)]
  ·rw[if_neg e]
   have y:a ≠ k:=by omega
   have hk:a<=n:=by omega
   obtain⟨c,a1,U,V,H⟩:=o.get hi
   obtain⟨i,b1,b2,b3,J⟩:=o.get L
   have z:mE u k k=mE M k k:=by rw[h k k (by omega),if_neg (fun q=>t q.1.symm)]
   have A:mE u k a=mE M k a:=by rw[h k a hk,if_neg (fun q=>t q.1.symm)]
   have B:mE u l k=mE M l k:=by rw[h l k (by omega),if_neg (fun q=>q.2.1 rfl)]
   have D:mE u l a=mE M l a:=by rw[h l a hk,if_neg (fun q=>by have:=q.2.2;omega)]
   obtain⟨f1,f2,f3,f4⟩:=O a hk y
   have E:mE M k k * mE M l a - mE M l k * mE M k a=crs (mE M) k l a:=rfl
   simp only[V,b3,oB,(H a hk).1,(H k (by omega)).1,(J k (by omega)).1,(J a hk).1,z,A,B,D,f1.w,f2.w,E,f3.w,f4.w,chkN]
   rw[if_neg N]
   simp only[oB,G,iL]
   refine .inl ⟨_,rfl,⟨o.set (by rw[lS];exact U),by dsimp only;omega,by dsimp only;omega,fun d b g=> ?_⟩,by dsimp only;omega⟩
   dsimp only
   rw[mE_set o hi a1 (by omega)]
   by_cases q:d=l/\b=a
   ·rw[if_pos q,if_pos ⟨q.1,by omega,by omega⟩,q.2]
   ·rw[if_neg q,h d b g]
    by_cases r:d=l/\b ≠ k/\(a:Int)<b
    ·rw[if_pos r,if_pos ⟨r.1,r.2.1,by omega⟩]
    ·rw[if_neg r,if_neg (fun s=>r ⟨s.1,s.2.1,by have:=s.2.2;by_cases f:b=a;exact absurd ⟨s.1,f⟩ q;omega⟩)]
 ·rw[if_neg v]
  refine .inr ⟨_,rfl,o,fun d b g=> ?_⟩
  rw[h d b g]
  by_cases q:d=l/\b ≠ k
  ·rw[if_pos q,if_pos ⟨q.1,q.2,by omega⟩]
  ·rw[if_neg q,if_neg (fun r=>q ⟨r.1,r.2.1⟩)]
def nxt(a:Mtx)(c:Nat)(d:Int):Mtx:=fun i j=>if i=c then a c j else if j=c then 0 else(crs a c i j).tdiv d
def col_clear{L M:LL}(E:kw L=n)(F:Shp n M)(G:n<=1000)(z:k<n)(H:x ≠ 0)(J:∀i j,i<n->i ≠ k->j<=n->j ≠ k->Ft (mE M k k * mE M i j)/\Ft (mE M i k * mE M k j)/\Ft (crs (mE M) k i j)/\Ft ((crs (mE M) k i j).tdiv x)):
  ∃o,forR 0 (kw L:Int) (G5 L k x) M=some o/\Shp n o/\∀i j,i<n->j<=n->mE o i j=nxt (mE M) k x i j:=by
 obtain⟨o,K,N,O⟩:=u9 (body:=G5 L k x) (n:=(kw L:Int)) (s:=M)
  (fun q s=>Shp n s/\∀i j:Nat,i<n->j<=n->mE s i j=if(i:Int)<q then nxt (mE M) k x i j else mE M i j) (by omega)
  ⟨F,fun i j hi a=>by rw[if_neg (by omega)]⟩ (fun q s P q1 ⟨B,t⟩=>by
   obtain⟨i,rfl⟩:=iS P;have hi:i<n:=by omega
   unfold G5;by_cases e:(i:Int)=k;have p:i=k:=by omega
   rw[if_pos e,jS];refine⟨_,rfl,B,fun b l h d=> ?_⟩;rw[t b l h d];by_cases f:(b:Int)<i;rw[if_pos f,if_pos (by omega)];rw[if_neg f];by_cases g:b=i;rw[if_pos (by omega),g,p];unfold nxt;rw[if_pos rfl];rw[if_neg (by omega)];have p:i ≠ k:=by omega
   have u:∀j,j<=n->mE s i j=mE M i j:=fun j a=>by rw[t i j hi a,if_neg (by omega)]
   have v:∀j,j<=n->mE s k j=mE M k j:=fun j a=>by rw[t k j z a];split;unfold nxt;rw[if_pos rfl];rfl
   have D:∀j,j<=n->crs (mE s) k i j=crs (mE M) k i j:=fun j a=>by unfold crs;rw[u j a,u k (by omega),v j a,v k (by omega)]
   obtain⟨M1,Q,w,U⟩:=row_clear B G z hi p H (fun j a y=>by have:=J i j hi p a y;rw[v k (by omega),u j a,u k (by omega),v j a,D j a];exact this);obtain⟨r,a1,V,X,c⟩:=w.get hi;rw[if_neg e,E,Q];simp only[oB,X,(c k (by omega)).1,iL];refine⟨_,rfl,w.set (by rw[lS];exact V),fun b l h d=> ?_⟩;rw[mE_set w hi a1 (by omega),U b l d];by_cases g:b=i;subst g;rw[if_pos (show((b:Nat):Int)<(b:Int)+1 by omega)];unfold nxt;rw[if_neg p];by_cases f:l=k;rw[if_pos ⟨rfl,f⟩,if_pos f];rw[if_neg (fun q=>f q.2),if_pos ⟨rfl,f⟩,if_neg f,D l d];rw[if_neg (fun q=>g q.1),if_neg (fun q=>g q.1),t b l h d];by_cases f:(b:Int)<i;rw[if_pos f,if_pos (show(b:Int)<(i:Int)+1 by omega)];rw[if_neg f,if_neg (show ¬ (b:Int)<(i:Int)+1 by omega)])
 refine⟨o,K,N,fun i j hi a=> ?_⟩
 rw[O i j hi a,if_pos (by omega)]
def ab_prod{X Y:Int}(a:ab x<=X)(b:ab y<=Y):ab (x * y)<=X * Y:=by
 rw[ab_mul];exact jI a b (E5 _) (iY (E5 x) a)
def Ft.of(h:ab x<=9223372036854775807):Ft x:=by
 have:=ab_le h;unfold Ft;omega
def ab_tdiv(x d:Int):ab (x.tdiv d)<=ab x:=by
 have e:∀y:Int,ab y=(y.natAbs:Int):=fun y=>by unfold ab;split<;>omega
 rw[e,e,Int.natAbs_tdiv];exact_mod_cast Nat.div_le_self _ _
def Ft.crs(b:ab (i n n * i k l)<=4000000000000000000)(f:ab (i k n * i n l)<=4000000000000000000):Ft (i n n * i k l)/\Ft (i k n * i n l)/\Ft (Ab.crs i n k l)/\Ft ((Ab.crs i n k l).tdiv x):=by
 have g:ab (Ab.crs i n k l)<=8000000000000000000:=by
  have:=ab_add (i n n * i k l) (-(i k n * i n l));have e:ab (-(i k n * i n l))=ab (i k n * i n l):=by unfold ab;split<;>split<;>omega
  rw[e] at this;unfold Ab.crs;rw[jw];omega
 have h:=ab_tdiv (Ab.crs i n k l) x;exact⟨.of (by omega),.of (by omega),.of (by omega),.of (by omega)⟩
def det_top(h:Rb n i x y)(b:k<=n):ab (det k i)<=x ^ k:=by
 have:=an4 (n:=k) (A:=i) (r:=fun _=>x) (fun _=>h.R0) fun r d=>by have e:=aa1 (f:=fun a=>ab (i r a)) (fun _=>E5 _) b;have g:=h.row r (by omega);omega
 rwa [am9] at this
theorem GJ.fits{n c:Nat}{A a:Mtx}{d:Int}(hn:n<=5)(hR:Rb n A 48 2400)(h:GJ n A c a d)(hc:c<n){i j:Nat}(hi:i<n)(hic:i ≠ c)(hj:j<=n)(hjc:j ≠ c):ab (a c c * a i j)<=4000000000000000000/\ab (a i c * a c j)<=4000000000000000000:=by
 have P:ab (a c c)<=48 ^ (c+1):=by rw[h.brd (iJ c) (by omega) (iJ c) hc];exact hR.brd1 (iJ c) hc (iJ c) hc
 have hd:ab d<=48 ^ c:=by rw[h.dd];exact det_top hR (by omega)
 have h5:c=0\/c=1\/c=2\/c=3\/c=4:=by omega
 have fin:∀{x y X Y:Int},ab x<=X->ab y<=Y->X * Y<=4000000000000000000->ab (x * y)<=4000000000000000000:=fun h1 h2 h3=>iY (ab_prod h1 h2) h3
 rcases Nat.lt_or_ge j c with q|q
 ·have e1:a c j=0:=by rw[h.on c j hc q,if_neg (by omega)]
  have e2:ab (a i j)<=48 ^ c:=by
   rw[h.on i j hi q]
   split
   ·exact hd
   ·have:ab 0=0:=by unfold ab;rfl
    rw[this];exact pow_nn (by omega) c
  refine⟨fin P e2 ?_,?_⟩
  ·rcases h5 with rfl|rfl|rfl|rfl|rfl<;>decide
  ·rw[e1,jE];decide
 ·have R2:ab (a c n)<=(c+1:Int) * 2400 * 48 ^ c:=by rw[h.brd (by omega) (iJ n) (iJ c) hc];exact hR.brd2 (by omega) (iJ c) hc
  rcases Nat.lt_or_ge i c with r|r
  · -- a row that is cleared
   have C1:ab (a i c)<=48 ^ c:=by rw[h.rep r (iJ c) (by omega)];exact hR.rep1 (by omega) r (iJ c) hc
   by_cases e:j=n
   ·subst e
    obtain⟨c',rfl⟩:∃c',c=c'+1:=⟨c - 1,by omega⟩
    have C2:ab (a i j)<=(c'+1:Int) * 2400 * 48 ^ c':=by rw[h.rep r (by omega) (iJ j)];exact hR.rep2 (by omega) r
    have h5:c'=0\/c'=1\/c'=2\/c'=3:=by omega
    exact⟨fin P C2 (by rcases h5 with rfl|rfl|rfl|rfl<;>decide),fin C1 R2 (by rcases h5 with rfl|rfl|rfl|rfl<;>decide)⟩
   ·have C2:ab (a i j)<=48 ^ c:=by rw[h.rep r (by omega) (by omega)];exact hR.rep1 (by omega) r (by omega) (by omega)
    have C3:ab (a c j)<=48 ^ (c+1):=by rw[h.brd (by omega) (by omega) (iJ c) hc];exact hR.brd1 (by omega) (by omega) (iJ c) hc
    exact⟨fin P C2 (by rcases h5 with rfl|rfl|rfl|rfl|rfl<;>decide),fin C1 C3 (by rcases h5 with rfl|rfl|rfl|rfl|rfl<;>decide)⟩
  ·have h4:c=0\/c=1\/c=2\/c=3:=by omega
   have C1:ab (a i c)<=48 ^ (c+1):=by rw[h.brd (iJ c) (by omega) r hi];exact hR.brd1 (iJ c) hc r hi
   by_cases e:j=n
   ·subst e
    have C2:ab (a i j)<=(c+1:Int) * 2400 * 48 ^ c:=by rw[h.brd (by omega) (iJ j) r hi];exact hR.brd2 (by omega) r hi
    exact⟨fin P C2 (by rcases h4 with rfl|rfl|rfl|rfl<;>decide),fin C1 R2 (by rcases h4 with rfl|rfl|rfl|rfl<;>decide)⟩
   ·have C2:ab (a i j)<=48 ^ (c+1):=by rw[h.brd (by omega) (by omega) r hi];exact hR.brd1 (by omega) (by omega) r hi
    have C3:ab (a c j)<=48 ^ (c+1):=by rw[h.brd (by omega) (by omega) (iJ c) hc];exact hR.brd1 (by omega) (by omega) (iJ c) hc
    exact⟨fin P C2 (by rcases h4 with rfl|rfl|rfl|rfl<;>decide),fin C1 C3 (by rcases h4 with rfl|rfl|rfl|rfl<;>decide)⟩
def solve_rows{L:LL}(z:n<=5)(p:Shp n L)(A:Rb n (mE L) 48 2400)(hp:∀c a d,GJ n (mE L) c a d->c<n->a c c ≠ 0):
  ∃M d,forR 0 (kw L:Int) (F9 L) (L,1)=some (M,d)/\Shp n M/\GJ n (mE L) n (mE M) d:=by
 obtain⟨⟨M,d⟩,B,D,v⟩:=u9 (body:=F9 L) (n:=(kw L:Int)) (s:=(L,1))
  (fun q s=>Shp n s.1/\GJ n (mE L) q.toNat (mE s.1) s.2) (by omega) ⟨p,GJ.start⟩ (fun q s E N ⟨r,k⟩=>by
   obtain⟨M,d⟩:=s;obtain⟨c,rfl⟩:=iS E;have t:=p.len;have g:c<n:=by omega
   dsimp only at r k;rw[iL] at k;have f:=hp c _ _ k g;obtain⟨O,P,b2,b3,F⟩:=r.get g;unfold F9;have G:Loop (G2 L c M) ()=some ():=by
    rw[av5];have:G2 L c M ()=some (.inr ()):=by unfold G2;split;simp only[b3,(F c (by omega)).1,oB];rw[if_neg (by simp[f])];rfl
    rw[this]
   have l:=fun i j (hi:i<n) (b:i ≠ c) (h:j<=n) (e:j ≠ c)=>k.fits z A g hi b h e;obtain⟨H,J,y,o⟩:=col_clear t r (by omega) g k.nz (fun i j hi b h e=>Ft.crs (l i j hi b h e).1 (l i j hi b h e).2);obtain⟨Q,d1,d2,d3,d4⟩:=y.get g;have u:mE H c c=mE M c c:=by rw[o c c g (by omega)];unfold nxt;rw[if_pos rfl]
   dsimp only;simp only[G,b3,J,d3,(d4 c (by omega)).1,oB];refine⟨_,rfl,y,?_⟩;dsimp only;rw[show((c:Int)+1).toNat=c+1 by omega,u];refine k.step g f (fun j h=>by rw[o c j g h];unfold nxt;rw[if_pos rfl]) (fun i j hi b h e=> ?_) (fun i hi b=>by rw[o i c hi (by omega)];unfold nxt;rw[if_neg b,if_pos rfl]);rw[o i j hi h];unfold nxt;rw[if_neg b,if_neg e];obtain⟨x,K⟩:=k.exact g f hi b h e;rw[K,Int.mul_tdiv_cancel_left _ k.nz])
 refine⟨M,d,B,D,?_⟩
 rw[p.len,iL] at v
 exact v
def solve_spec{L:LL}(st:LL)(v:n<=5)(p:Shp n L)(w:Rb n (mE L) 48 2400)(hp:∀c a d,GJ n (mE L) c a d->c<n->a c c ≠ 0):
  ∃num:Li,D2 st L=some (num,det n (mE L))/\(kw num)=n/\det n (mE L) ≠ 0/\(∀l,l<n->num[l]? =some (det n (rep (mE L) l fun r=>mE L r n)))/\
   ∀r,r<n->smN n (fun k=>mE L r k * (num[k]?).getD 0)=det n (mE L) * mE L r n:=by
 obtain⟨M,d,x,y,h⟩:=solve_rows v p w hp
 have g:=p.len
 unfold D2
 rw[x]
 simp only[oB]
 have j:mkL 8 (kw L:Int) (0:Int)=some (iZ n 0):=by unfold mkL;rw[if_pos (by omega),g,iL]
 rw[j]
 simp only[oB,List.length_replicate]
 obtain⟨num,z,A,B⟩:=u9 (body:=L6 L M) (n:=(n:Int)) (s:=iZ n 0)
  (fun q s=>kw s=n/\∀l:Nat,(l:Int)<q->l<n->s[l]? =some (mE M l n)) (by omega) ⟨by simp,fun l f=>by omega⟩ (fun q s D N ⟨E,F⟩=>by
   obtain⟨i,rfl⟩:=iS D;have hi:i<n:=by omega
   obtain⟨r,a1,O,G,H⟩:=y.get hi;have u:i<kw s:=by omega
   have J:ix s (i:Int)=some s[i]:=by rw[v8];exact iI u
   unfold L6;simp only[G,g,(H n (iJ n)).1,J,oB,iL];refine⟨_,rfl,by rw[lS];exact E,fun l f o=> ?_⟩;rw[jj];by_cases e:i=l;subst e;rw[if_pos rfl,if_pos u];rw[if_neg e];exact F l (by omega) o)
 rw[z]
 have dd:d=det n (mE L):=h.dd
 have b:∀l,l<n->num[l]? =some (mE M l n):=fun l f=>B l (by omega) f
 refine⟨num,by rw[dd];rfl,A,by rw[<- dd];exact h.nz,fun l f=> ?_,fun r K=> ?_⟩
 ·rw[b l f,h.rep f (iJ n) (iJ n)]
 ·rw[<- dd,<- h.top n r (iJ n) (iJ n) K]
  exact o8 fun k hk=>by rw[b k hk];rfl
/-! ### States as' numbers -/
def wsN:Li->Nat
 |[]=>0
 |a::l=>2 ^ a.toNat+wsN l
def wsN_append:∀{l m:Li},wsN (l++m)=wsN l+wsN m
 |[],m=>by simp[wsN]
 |a::l,m=>by simp only[jl,wsN,wsN_append (l:=l)];omega
def wsN_le:∀{l:Li},(∀x ∈ l,x<24)->wsN l<=kw l * 16777216
 |[],_=>by simp[wsN]
 |a::l,h=>by have c:=wsN_le (l:=l) fun x b=>h x (iK _ b);have d:2 ^ a.toNat<=2 ^ 24:=jZ (by decide) (by have:=h a (by simp);omega);simp only[wsN,iQ];omega
def wsN_dvd:∀{l:Li},(∀x ∈ l,n<=x.toNat)->2 ^ n ∣ wsN l
 |[],_=>⟨0,rfl⟩
 |a::l,h=>Nat.dvd_add (Nat.pow_dvd_pow 2 (h a (by simp))) (wsN_dvd fun x b=>h x (iK _ b))
def two_pow_no(h:2 ^ (n+1) ∣ 2 ^ n):False:=by have a:=Nat.le_of_dvd (jF n) h;have b:=jF n;rw[Nat.pow_succ] at a;omega
def wsN_ne(f:0<=y)(d:∀x ∈ b,y<x)(e:∀x ∈ r,y<x):wsN (y::b) ≠ wsN r:=fun h=>by
 have d1:2 ^ (y.toNat+1) ∣ wsN b:=wsN_dvd fun x c=>by have:=d x c;omega
 have d2:2 ^ (y.toNat+1) ∣ wsN r:=wsN_dvd fun x c=>by have:=e x c;omega
 rw[<- h,wsN] at d2;exact two_pow_no ((Nat.dvd_add_left d1).1 d2)
def wsN_inj:∀{l m:Li},Inc l->Inc m->(∀x ∈ l,0<=x)->(∀x ∈ m,0<=x)->wsN l=wsN m->l=m
 |[],[],_,_,_,_,_=>rfl
 |[],b::m,_,_,_,_,h=>by have:=jF b.toNat;simp only[wsN] at h;omega
 |a::l,[],_,_,_,_,h=>by have:=jF a.toNat;simp only[wsN] at h;omega
 |a::l,b::m,i,j,e,f,h=>by obtain⟨l1,k⟩:=jm.1 i;obtain⟨g,n⟩:=jm.1 j;rcases jM a b with c|c|c;exact absurd h (wsN_ne (e a (by simp)) l1 fun x d=>by rcases jf.1 d with rfl|d;exact c;have:=g x d;omega);subst c;simp only[wsN] at h;rw[wsN_inj k n (fun x d=>e x (iK _ d)) (fun x d=>f x (iK _ d)) (by omega)];exact absurd h.symm (wsN_ne (f b (by simp)) g fun x d=>by rcases jf.1 d with rfl|d;exact c;have:=l1 x d;omega)
def SetN.word_inj(h:SetN b y)(c:SetN r y)(e:wsN b=wsN r):b=r:=
 wsN_inj h.1 c.1 (fun x a=>(h.2 x a).1) (fun x a=>(c.2 x a).1) e
def word_eq{s:Li}{n:Int}(hs:SetN s n)(hn:n<=24):ar8 s=some (wsN s:Int):=by
 have hl:=hs.len;unfold ar8;obtain⟨w,h1,h2⟩:=u9 (body:=ax5 s) (n:=(kw s:Int)) (s:=0) (fun j w=>w=(wsN (s.take j.toNat):Int)) (by omega) (by simp[wsN]) (fun j w j0 j1 hP=>by
  obtain⟨a,ha,ga⟩:=j7 (l:=s) j0 j1;have hb:=hs.2 a (l8 ha);have ht:s.take (j+1).toNat=s.take j.toNat++[a]:=by rw[show(j+1).toNat=j.toNat+1 by omega,je,ga];rfl
  have b1:wsN (s.take j.toNat)<=(s.take j.toNat).length * 16777216:=wsN_le fun x hx=>by have:=hs.2 x (ka hx);omega
  have b2:(s.take j.toNat).length<=24:=by rw[jT];omega
  have b4:(s.take j.toNat).length * 16777216<=24 * 16777216:=kc _ b2;obtain⟨q,hq⟩:∃q:Nat,q=2 ^ a.toNat:=⟨_,rfl⟩;have b3:q<=16777216:=by rw[hq];exact(jZ (by decide) (by omega):2 ^ a.toNat<=2 ^ 24)
  have ep:(2:Int) ^ a.toNat=(q:Int):=by rw[hq];push_cast;rfl
  unfold ax5;rw[ha];simp only[oB];rw[IntKind.wrap_u64,kl (by omega) (by omega),chk0,if_neg (by omega)];simp only[oB];have es:shlW .i64 1 a=(q:Int):=by unfold shlW;rw[show min a.toNat (IntKind.i64).bits=a.toNat by simp only[IntKind.bits];omega,jW,ep];exact p9 (by omega) (by omega)
  rw[es,p9 (by omega) (by omega),ht,wsN_append,hP];refine⟨_,rfl,?_⟩;simp only[wsN,<- hq];omega)
 rw[h1,h2,iL,jA];rfl
/-! ### Lists compared -/
def listEq{b:List A}{c:Int->Unit->Option (Unit⊕Bool)}(t:kw P=kw b)(r:∀j x y,ix P j=some x->ix b j=some y->(x=y/\c j ()=some (.inl ()))\/(x ≠ y/\c j ()=some (.inr false))):
  (iN (rngX 0 (kw P:Int) c ()) fun| .inl _=>some true| .inr x=>some x)=some (dec (P=b)):=by
 rcases I2 (body:=c) (n:=(kw P:Int)) (fun j=>if dec (ix P j=ix b j)=true then none else some false) (by omega) (fun j g f _=>by obtain⟨x,p,_⟩:=j7 (l:=P) g f;obtain⟨y,q,_⟩:=j7 (l:=b) (i:=j) g (by omega);rcases r j x y p q with⟨e,h⟩|⟨e,h⟩;rw[h,ifP (by rw[p,q,e])];rw[h,ifN (by rw[p,q];simpa using e)]) with⟨f,d⟩|⟨j,o,g,f,d,_,s⟩
 ·rw[f,i9]
  ·rfl
  ·refine List.ext_getElem? fun k=> ?_
   by_cases hk:k<kw P
   ·have:=d k (by omega) (by omega)
    split at this
    ·rename_i e
     have:=m5.1 e
     rwa [v8,v8] at this
    ·cases this
   ·rw[jB (by omega),jB (by omega)]
 ·rw[s]
  split at d
  ·cases d
  ·rename_i e
   cases d
   rw[s9 (fun h=>e (i9 (by rw[h])))];rfl
def ints_eq(a b:Li):T9 a b=some (dec (a=b)):=by unfold T9;by_cases c:(kw a:Int)=kw b;rw[if_pos c];refine listEq (by omega) fun j x y d f=> ?_;unfold ay7;simp only[d,f,oB];by_cases e:x=y;rw[if_pos e];exact .inl ⟨e,rfl⟩;rw[if_neg e];exact .inr ⟨e,rfl⟩;rw[if_neg c,s9 (fun h=>c (by rw[h]))]
def equal_eq(a b:Li):H2 a b=some (dec (a=b)):=by unfold H2;by_cases c:(kw a:Int)=kw b;rw[if_pos c];refine listEq (by omega) fun j x y d f=> ?_;unfold W2;simp only[d,f,oB];by_cases e:x=y;rw[if_pos e];exact .inl ⟨e,rfl⟩;rw[if_neg e];exact .inr ⟨e,rfl⟩;rw[if_neg c,s9 (fun h=>c (by rw[h]))]
def place_eq(l:LL)(s:Li):∃r,aE7 l s=some r/\((r= -1/\s ∉ l)\/(0<=r/\r<kw l/\ix l r=some s/\∀j,0<=j->j<r->ix l j ≠ some s)):=by unfold aE7;rcases I2 (body:=at2 l s) (n:=(kw l:Int)) (fun j=>if dec (ix l j=some s)=true then some j else none) (by omega) (fun j c a _=>by obtain⟨x,k,_⟩:=j7 (l:=l) c a;unfold at2;simp only[k,oB,ints_eq];by_cases e:x=s;rw[ifP e,ifP (by rw[e])];rw[ifN e,ifN (by simpa using e)]) with⟨a,b⟩|⟨j,o,c,a,b,p,q⟩;rw[a];refine⟨-1,rfl,.inl ⟨rfl,fun t=> ?_⟩⟩;obtain⟨i,d,f,hi⟩:=p8 t;have:=b i d f;rw[ifP hi] at this;cases this;rw[q];split at b;rename_i e;cases b;refine⟨_,rfl,.inr ⟨c,a,m5.1 e,fun i d f=> ?_⟩⟩;have:=p i d f;split at this;cases this;rename_i e;exact fun h=>e (i9 h);cases b
/-! ### Ordered lists -/
abbrev Ord(l:LL):Prop:=l.Pairwise llt
def Ord.ext:∀{l m:LL},Ord l->Ord m->(∀x,x ∈ l↔x ∈ m)->l=m
 |[],[],_,_,_=>rfl
 |[],b::m,_,_,h=>absurd ((h b).2 (by simp)) (by simp)
 |a::l,[],_,_,h=>absurd ((h a).1 (by simp)) (by simp)
 |a::l,b::m,i,j,h=>by
  obtain⟨l1,k⟩:=jm.1 i;obtain⟨g,n⟩:=jm.1 j;have d:a=b:=by rcases jf.1 ((h a).1 (by simp)) with e|e;exact e;rcases jf.1 ((h b).2 (by simp)) with f|f;exact f.symm;exact(az9 (l1 b f) (g a e)).elim
  subst d;rw[Ord.ext k n fun x=>⟨fun c=> ?_,fun c=> ?_⟩];rcases jf.1 ((h x).1 (by simp[c])) with e|e;subst e;exact absurd (l1 x c) (O5 x);exact e;rcases jf.1 ((h x).2 (by simp[c])) with e|e;subst e;exact absurd (g x c) (O5 x);exact e
def Ord.get(h:Ord q){i j:Int}(hi:ix q i=some r)(c:ix q j=some b)(d:i<j):llt r b:=by obtain⟨g,k,hi⟩:=n8 hi;obtain⟨n,o,c⟩:=n8 c;obtain⟨e,rfl⟩:=lG.1 hi;obtain⟨f,rfl⟩:=lG.1 c;exact jt.1 h _ _ e f (by omega)
def Ord.inj(h:Ord q)(hi:ix q x=some b)(c:ix q y=some b):x=y:=by rcases jM x y with e|e|e;exact absurd (h.get hi c e) (O5 b);exact e;exact absurd (h.get c hi e) (O5 b)
def ddN(l:LL):Nat->LL
 |0=>[]
 |m+1=>ddN l m++if decide (m=0\/l[m]? ≠ l[m - 1]?)=true then l[m]?.toList else []
def ddN_spec(o:q.Pairwise fun a b=>¬ llt b a):∀m,m<=kw q->Ord (ddN q m)/\∀x,x ∈ ddN q m↔x ∈ q.take m:=by
 intro m;induction m with
 |zero=>intro _;simp[ddN]
 |succ m t=>
  intro z
  obtain⟨p,f⟩:=t (by omega)
  have c:m<kw q:=by omega
  have u:q.take (m+1)=q.take m++[q[m]]:=by rw[je];simp[c]
  rw[ddN,u]
  by_cases hk:m=0\/q[m]? ≠ q[m - 1]?
  ·rw[if_pos (by simpa using hk)]
   simp only[iI c,Option.toList_some]
   refine⟨jG.2 ⟨p,by simp,fun a v b r=> ?_⟩,fun x=>by rw[iP,iP,f]⟩
   simp only[iU] at r
   subst r
   have g:=(f a).1 v
   obtain⟨i,hi,rfl⟩:=List.mem_iff_getElem.1 g
   rw[jT] at hi
   rw[List.getElem_take]
   rcases hk with hk|hk
   ·omega
   ·have d:m - 1<kw q:=by omega
    rw[iI c,iI d] at hk
    have w:¬ llt q[m] q[m - 1]:=jt.1 o (m - 1) m d c (by omega)
    have j:llt q[m - 1] q[m]:=by rcases T7 q[m - 1] q[m] with h|h|h;exact h;exact absurd (by rw[h]) hk;exact absurd h w
    by_cases k:i=m - 1
    ·subst k;exact j
    ·have n:¬ llt q[m - 1] q[i]:=jt.1 o i (m - 1) (by omega) d (by omega)
     rcases T7 q[i] q[m] with h|h|h
     ·exact h
     ·rw[h] at n;exact absurd j n
     ·exact absurd (N1 j h) n
  ·rw[if_neg (by simpa using hk),jH]
   refine⟨p,fun x=> ?_⟩
   rw[f,iP]
   refine⟨.inl,fun h=> ?_⟩
   rcases h with h|h
   ·exact h
   ·simp only[iU] at h
    subst h
    have y:m ≠ 0:=fun e=>hk (.inl e)
    have s:q[m]? =q[m - 1]? :=km.1 fun e=>hk (.inr e)
    rw[iI c,iI (show m - 1<kw q by omega)] at s
    rw[Option.some.inj s,jO]
    exact⟨m - 1,by omega,rfl⟩
def ddN_len(l:LL):∀m,(ddN l m).length<=m
 |0=>by simp[ddN]
 |m+1=>by
  have:=ddN_len l m;rw[ddN,iO];split;have:(l[m]?.toList).length<=1:=by cases l[m]? <;>simp
  omega;simp;omega
def ddN_all:∀m,m<=kw q->(∀i,0<i->i<m->q[i]? ≠ q[i - 1]?)->ddN q m=q.take m
 |0,_,_=>by simp[ddN]
 |m+1,b,h=>by rw[ddN,ddN_all m (by omega) fun i a c=>h i a (by omega),if_pos,je];rw[decide_eq_true_eq];by_cases e:m=0;exact .inl e;exact .inr (h m (by omega) (by omega))
def compactF_eq(hl:kw q<=1000000):D0 q=some (ddN q (kw q)):=by
 unfold D0;by_cases c0:(kw q:Int)<2;rw[if_pos c0,ddN_all (kw q) (iJ _) fun i k g=>by omega,jA];rw[if_neg c0];have key:=rngN_inv (body:=y8 q) (fun j _=>∀i:Nat,0<i->(i:Int)<j->q[i]? ≠ q[i - 1]?) (fun o=>o=ddN q (kw q)) ((kw q:Int) - 1).toNat 1 () (fun i k g=>by omega) (fun j _ j0 j1 F=>by
  obtain⟨a,M,G⟩:=j7 (l:=q) (i:=j) (by omega) (by omega);obtain⟨b,N,u⟩:=j7 (l:=q) (i:=j - 1) (by omega) (by omega);unfold y8;simp only[M,N,oB,equal_eq];have O:(j - 1).toNat=j.toNat - 1:=by omega
  rw[O] at u;by_cases c:a=b;rw[ifP c];subst c;right;rw[show cutV (kw q:Int) j (kw q:Int)=some () by rw[cutV,if_pos (by omega)]];simp only[oB];obtain⟨⟨cs,f⟩,P,Q,U,V,H,X⟩:=forN_inv (body:=B2 q j) (fun d p=>p.1.length=kw q/\j<=p.2/\p.2<=j+d - 1/\p.1.take p.2.toNat=ddN q (j+d).toNat/\∀i:Nat,j+d - 1<=i->p.1[i]? =q[i]?) ((kw q:Int) - j - 1).toNat 1 (q,j) ⟨rfl,by simp,by dsimp only;omega,by
    dsimp only;rw[show(j+1).toNat=j.toNat+1 by omega,ddN,if_neg,jH,ddN_all j.toNat (by omega) fun i k g=>F i k (by omega)];rw[decide_eq_true_eq];rintro (h|h);omega;exact h (G.trans u.symm),fun i _=>rfl⟩ (fun d ⟨cs,f⟩ k0 k1 ⟨v,J,l,w,s⟩=>by
    dsimp only at v J l w s ⊢;obtain⟨x,hx,A⟩:=j7 (l:=q) (i:=j+d) (by omega) (by omega);obtain⟨y,hy,B⟩:=j7 (l:=q) (i:=j+d - 1) (by omega) (by omega);have K:∀i:Int,0<=i->i<(kw q:Int) - j->ixV cs (0+j) ((kw q:Int) - j) i=ix cs (j+i):=fun i k g=>by rw[ixV,if_pos (by omega),ki]
    have n:∀i:Int,j+d - 1<=i->ix cs i=ix q i:=fun i hi=>by have:=s i.toNat (by omega);simp only[ix];rw[this]
    unfold B2;dsimp only;rw[K d (by omega) (by omega),K (d - 1) (by omega) (by omega),show j+(d - 1)=j+d - 1 by omega,n _ (by omega),n _ (by omega),hx,hy];simp only[oB,equal_eq,B9];have L:(j+(d+1)).toNat=(j+d).toNat+1:=by omega
    have D:(j+d - 1).toNat=(j+d).toNat - 1:=by omega
    rw[D] at B;by_cases t:x=y;rw[ifNN t];refine⟨_,rfl,v,J,by omega,?_,fun i hi=>s i (by omega)⟩;dsimp only;rw[L,ddN,if_neg,jH];exact w;rw[decide_eq_true_eq];rintro (h|h);omega;exact h (by rw[A,B,t]);rw[ifP t];obtain⟨z,hz,gz⟩:=j7 (l:=cs) (i:=f) (by omega) (by omega);simp only[hz,oB];rw[p9 (by omega) (by omega)];refine⟨_,rfl,by rw[lS];exact v,by omega,by omega,?_,fun i hi=> ?_⟩;dsimp only;rw[L,ddN,if_pos,A,show(f+1).toNat=f.toNat+1 by omega,je,jj,if_pos rfl,if_pos (by omega),List.take_set_of_le (iJ _),w];rw[decide_eq_true_eq];exact .inr (by rw[A,B];simpa using t);dsimp only;rw[jj,if_neg (by omega)];exact s i (by omega))
  have ef:forR 1 ((kw q:Int) - j) (B2 q j) (q,j)=some (cs,f):=P;dsimp only at Q U V H X;rw[ef];simp only[oB];have E:(clrL cs (0+f) ((kw cs:Int) - f) []).length=kw cs:=by simp[clrL];omega
  rw[show cutV (kw cs:Int) f (kw cs:Int)=some () by rw[cutV,if_pos (by omega)]];simp only[oB,E];rw[show cutV (kw cs:Int) 0 f=some () by rw[cutV,if_pos (by omega)]];refine⟨_,rfl,?_⟩;have e1:w4 (clrL cs (0+f) ((kw cs:Int) - f) []) 0 f=cs.take f.toNat:=by simp only[w4,clrL,ki,Int.toNat_zero,List.drop_zero];rw[jN,List.take_append_of_le_length (by simp;omega),List.take_take,Nat.min_self]
  rw[e1,H];congr 1;omega;rw[ifN c];left;refine⟨(),rfl,fun i k g=> ?_⟩;by_cases e:(i:Int)=j;have:i=j.toNat:=by omega
  subst this;rw[G,u];simpa using c;exact F i k (by omega))
 rcases key with⟨_,g,h2⟩|⟨o,g,rfl⟩;have:rngX 1 (kw q:Int) (y8 q) ()=some (.inl ()):=g;rw[this];simp only[oB];rw[ddN_all (kw q) (iJ _) fun i k g=>h2 i k (by omega),jA];have:rngX 1 (kw q:Int) (y8 q) ()=some (.inr (ddN q (kw q))):=g;rw[this];rfl
def normal_eq{l:LL}(i:kw l<=1000000):∃r,R3 l=some r/\Ord r/\(∀x,x ∈ r↔x ∈ l)/\(kw r)<=kw l:=by
 unfold R3;rw[sortLL_ms (by omega)];simp only[oB];have d:(l.mergeSort fun x y=>decide (¬ cmpL y x<0)).length=kw l:=by simp
 rw[compactF_eq (by rw[d];exact i)];have j:(l.mergeSort fun x y=>decide (¬ cmpL y x<0)).Pairwise fun a b=>¬ llt b a:=by
  have:=List.pairwise_mergeSort (le:=fun x y:Li=>decide (¬ cmpL y x<0)) (fun a b c f e=>by
   simp only[decide_eq_true_eq,U0] at f e ⊢;intro h;rcases T7 b a with g|g|g;exact f g;subst g;exact e h;exact e (N1 h g)) (fun a b=>by
   simp only[ju,decide_eq_true_eq,U0];by_cases h:llt b a;exact .inr fun g=>az9 h g;exact .inl h) l
  exact this.imp fun h=>by simpa[U0] using h
 obtain⟨f,e⟩:=ddN_spec j _ (iJ _);refine⟨_,rfl,f,fun x=> ?_,?_⟩;rw[e,jA];simp;have:=ddN_len (l.mergeSort fun x y=>decide (¬ cmpL y x<0)) (l.mergeSort fun x y=>decide (¬ cmpL y x<0)).length;rw[d] at this;rw[d];exact this
def forN_congr{a b2:Int->A->Option A}:∀(k:Nat) (i:Int) (s:A),(∀j s,i<=j->j<i+k->a j s=b2 j s)->forN a k i s=forN b2 k i s
 |0,_,_,_=>rfl
 |k+1,i,s,h=>by
  simp only[forN];rw[h i s (by omega) (by omega)];cases b2 i s with
  |none=>rfl
  |some b=>exact forN_congr k (i+1) b fun j s c d=>h j s (by omega) (by omega)
def forR_congr{a b2:Int->A->Option A}(h:∀j M,x<=j->j<y->a j M=b2 j M):forR x y a M=forR x y b2 M:=
 forN_congr _ _ _ fun j M b c=>h j M b (by omega)
/-! ### Binary search by a key -/
def bsl(f:List A)(target:B)(c:A->B->Option Int):(Int×Int)->Option ((Int×Int)⊕Int):=fun(a,b)=>if a<b then iN (ix f (w64 (shrW .u64 ((IntKind.u64).wrap (w64 (a+b))) 1))) fun d=>iN (c d target) fun e=>if e<0 then some (.inl (w64 ((w64 (shrW .u64 ((IntKind.u64).wrap (w64 (a+b))) 1))+1),b)) else some (.inl (a,w64 (shrW .u64 ((IntKind.u64).wrap (w64 (a+b))) 1))) else some (.inr a)
noncomputable def bsf(c:List A)(target:B)(b:A->B->Option Int):Option (Int×Bool):=iN (Loop (bsl c target b) (0,(kw c:Int))) fun a=>iN (if a<(kw c:Int) then iN (ix c a) fun d=>iN (b d target) fun e=>some (decide (e=0)) else some false) fun t9=>some (a,t9)
def aD5{key:A->Li}(h:Ord (P.map key)){b:A}(hi:ix P x=some M)(c:ix P y=some b)(d:x<y):llt (key M) (key b):=by obtain⟨e,g,hi⟩:=n8 hi;obtain⟨f,k,c⟩:=n8 c;refine h.get (i:=x) (j:=y) ?_ ?_ d;rw[ix,if_pos e,lM,hi];rfl;rw[ix,if_pos f,lM,c];rfl
def bsf_full{key:A->Li}{xs:List A}{t:Li}{cmp:A->Li->Option Int}(v:Ord (xs.map key))(L:kw xs<=500000)(B:∀a,cmp a t=some (cmpL (key a) t)):
  ∃i,bsf xs t cmp=some (i,dec (∃a ∈ xs,key a=t))/\0<=i/\(∀k a,ix xs k=some a->key a=t->k=i)/\i<=kw xs/\(∀k a,0<=k->k<i->ix xs k=some a->llt (key a) t)/\(∀k a,i<=k->ix xs k=some a->¬ llt (key a) t):=by
 unfold bsf
 obtain⟨i,q,o,J,D,E⟩:=E8 (body:=bsl xs t cmp) (fun p=>(0<=p.1/\p.1<=p.2/\p.2<=kw xs)/\(∀k a,0<=k->k<p.1->ix xs k=some a->llt (key a) t)/\(∀k a,p.2<=k->ix xs k=some a->¬ llt (key a) t))
  (fun i=>0<=i/\i<=kw xs/\(∀k a,0<=k->k<i->ix xs k=some a->llt (key a) t)/\(∀k a,i<=k->ix xs k=some a->¬ llt (key a) t)) (fun p=>(p.2 - p.1).toNat) (s:=(0,(kw xs:Int)))
  ⟨⟨by simp,by simp,by simp⟩,fun k a q o=>by simp at o;omega,fun k a q o=>by have:=(n8 o).2.1;simp at q;omega⟩ (fun⟨i,j⟩ ⟨⟨r,G,w⟩,x,y⟩=>by
  dsimp only at r G w x y ⊢
  unfold bsl
  dsimp only
  by_cases c:i<j
  ·rw[if_pos c,half_eq r G (by omega)]
   obtain⟨a,n,K⟩:=j7 (l:=xs) (i:=(i+j) / 2) (by omega) (by omega)
   rw[n]
   simp only[oB,B,U0]
   by_cases f:llt (key a) t
   ·rw[if_pos (U0.2 f),p9 (by omega) (by omega)]
    refine .inl ⟨_,rfl,⟨⟨by dsimp only;omega,by dsimp only;omega,w⟩,fun k b u z d=> ?_,y⟩,by dsimp only;omega⟩
    dsimp only at z
    by_cases e:k=(i+j) / 2
    ·subst e;rw[n] at d;cases d;exact f
    ·exact N1 (aD5 v d n (by omega)) f
   ·rw[if_neg (fun h=>f (U0.1 h))]
    refine .inl ⟨_,rfl,⟨⟨r,by dsimp only;omega,by dsimp only;omega⟩,x,fun k b u d=> ?_⟩,by dsimp only;omega⟩
    dsimp only at u
    by_cases e:k=(i+j) / 2
    ·subst e;rw[n] at d;cases d;exact f
    ·exact fun h=>f (N1 (aD5 v n d (by omega)) h)
  ·rw[if_neg c]
   have:i=j:=by omega
   subst this
   exact .inr ⟨i,rfl,r,w,x,y⟩)
 rw[q]
 simp only[oB]
 have g:∀k a,ix xs k=some a->key a=t->k=i:=fun k a hk H=>by rcases jM k i with c|c|c;have:=D k a (n8 hk).1 c hk;rw[H] at this;exact absurd this (O5 t);exact c;obtain⟨b,d,M⟩:=j7 (l:=xs) (i:=i) o (by have:=(n8 hk).2.1;omega);have:=aD5 v d hk c;rw[H] at this;exact absurd this (E i b (iR _) d)
 refine⟨i,?_,o,g,J,D,E⟩
 by_cases c:i<kw xs
 ·obtain⟨a,n,K⟩:=j7 (l:=xs) (i:=i) (by omega) c
  rw[if_pos c,n]
  simp only[oB,B]
  by_cases f:key a=t
  ·rw[decide_eq_true (cmpL_eq.2 f),i9 ⟨a,l8 n,f⟩]
  ·rw[decide_eq_false (fun h=>f (cmpL_eq.1 h)),s9]
   rintro ⟨b,d,e⟩
   obtain⟨k,u,z,hk⟩:=p8 d
   have:=g k b hk e
   subst this
   rw[hk] at n;cases n;exact f e
 ·rw[if_neg c]
  simp only[oB]
  rw[s9]
  rintro ⟨b,d,e⟩
  obtain⟨k,u,z,hk⟩:=p8 d
  have:=g k b hk e
  omega
def bsf_eq{key:A->Li}{xs:List A}{t:Li}{cmp:A->Li->Option Int}(b:Ord (xs.map key))(c:kw xs<=500000)(d:∀a,cmp a t=some (cmpL (key a) t)):
  ∃i,bsf xs t cmp=some (i,dec (∃a ∈ xs,key a=t))/\0<=i/\∀k a,ix xs k=some a->key a=t->k=i:=by
 obtain⟨i,e,f,g,_⟩:=bsf_full b c d
 exact⟨i,e,f,g⟩
def ax8{t:Li}(b:Ord q)(c:kw q<=500000):∃i,v6 q t slices_Compare_int_int=some (i,dec (t ∈ q))/\0<=i/\∀k,ix q k=some t->k=i:=by obtain⟨i,d,e,f⟩:=bsf_eq (key:=fun a=>a) (xs:=q) (t:=t) (cmp:=slices_Compare_int_int) (by simpa using b) c (fun a=>au6 a t);refine⟨i,?_,e,fun k hk=>f k t hk rfl⟩;have:v6 q t slices_Compare_int_int=bsf q t slices_Compare_int_int:=rfl;rw[this,d];simp
/-! ### The order that the specification tells -/
def before_eq(E:kw r<=1000000):aB5 r b=some (dec (llt r b)):=by
 unfold aB5;obtain⟨o,w,A⟩:=E8 (body:=aq8 r b) (fun k=>0<=k/\k<=kw r/\k<=kw b/\r.take k.toNat=b.take k.toNat) (fun o=>(match o with| .inl _=>some (decide ((kw r:Int)<(kw b:Int)))| .inr x=>some x)=some (dec (llt r b))) (fun k=>(kw r - k).toNat) (s:=0) ⟨by omega,by omega,by omega,by simp⟩ (fun k ⟨q,F,G,t⟩=>by
  have i:=aE5 (a:=r) (b:=b) k.toNat (by omega) (by omega) t;unfold aq8;by_cases c:k<kw r/\k<kw b;rw[if_pos (by simpa using c)];obtain⟨x,B,u⟩:=j7 (l:=r) q c.1;obtain⟨y,D,v⟩:=j7 (l:=b) q c.2;have j:r.drop k.toNat=x::r.drop (k.toNat+1):=by obtain⟨f,rfl⟩:=lG.1 u;exact jk f
  have n:b.drop k.toNat=y::b.drop (k.toNat+1):=by obtain⟨f,rfl⟩:=lG.1 v;exact jk f
  rw[j,n] at i;simp only[B,D,oB];by_cases e:x=y;subst e;rw[if_pos rfl,p9 (by omega) (by omega)];refine .inl ⟨k+1,rfl,⟨by omega,by omega,by omega,?_⟩,by omega⟩;rw[show(k+1).toNat=k.toNat+1 by omega,je,je,u,v,t];rw[if_neg e];refine .inr ⟨_,rfl,?_⟩;dsimp only;rw[L8];refine congrArg some (x7 ?_);rw[i];exact⟨fun h=>.inl h,fun h=>h.resolve_right fun g=>e g.1⟩;rw[if_neg (by simpa using c)];refine .inr ⟨_,rfl,?_⟩;dsimp only;rw[L8];refine congrArg some (x7 ?_);rw[i];by_cases H:k<kw r;have n:b.drop k.toNat=[]:=jn (by omega);rw[n];constructor;intro h;omega;intro h;cases d:r.drop k.toNat with
  |nil=>rw[d] at h;exact h.elim
  |cons z l=>rw[d] at h;exact h.elim
  have j:r.drop k.toNat=[]:=jn (by omega);rw[j];constructor;intro h;cases d:b.drop k.toNat with
  |nil=>have:=List.drop_eq_nil_iff.1 d;omega
  |cons z l=>trivial
  intro h;cases d:b.drop k.toNat with
  |nil=>rw[d] at h;exact h.elim
  |cons z l=>
   have:¬ (kw b)<=k.toNat:=fun g=>by rw[jn g] at d;cases d
   omega)
 rw[w];simp only[oB];exact A
def ord_append{m:LL}(c:Ord q)(d:Ord m)(h:∀a ∈ q,∀b ∈ m,llt a b):Ord (q++m):=jG.2 ⟨c,d,h⟩
def insert_eq(h:Ord q)(hl:kw q<=1000000)(L:∀x ∈ q,kw x<=1000000)(s:Li):∃r,ar4 q s=some r/\Ord r/\(∀x,x ∈ r↔x=s\/x ∈ q)/\(kw r)<=kw q+1:=by
 unfold ar4;obtain⟨k,M,t,k1,N,O⟩:=E8 (body:=aq5 q s) (fun k=>0<=k/\k<=kw q/\∀i a,i<k->ix q i=some a->llt a s) (fun k=>0<=k/\k<=kw q/\(∀i a,i<k->ix q i=some a->llt a s)/\∀a,ix q k=some a->¬ llt a s) (fun k=>(kw q - k).toNat) (s:=0) ⟨by omega,by omega,fun i a hi d=>by have:=(n8 d).1;omega⟩ (fun k ⟨v,J,w⟩=>by unfold aq5;by_cases c:k<kw q;obtain⟨a,d,P⟩:=j7 (l:=q) v c;rw[if_pos c,d];simp only[oB,before_eq (L a (l8 d))];by_cases u:llt a s;rw[ifP u,p9 (by omega) (by omega)];refine .inl ⟨_,rfl,⟨by omega,by omega,fun i b hi f=> ?_⟩,by omega⟩;by_cases e:i=k;subst e;rw[d] at f;cases f;exact u;exact w i b (by omega) f;rw[ifN u];exact .inr ⟨k,rfl,v,J,w,fun b f=>by rw[d] at f;cases f;exact u⟩;rw[if_neg c];exact .inr ⟨k,rfl,v,J,w,fun b f=>by have:=(n8 f).2.1;omega⟩);rw[M];simp only[oB];have step:(iN (if k<(kw q:Int) then iN (ix q k) fun n=>iN (T9 n s) fun o=>some o else some false) fun t9=>if t9=true then some q else iN (subL q 0 k) fun y=>iN (app 24 ([]:LL) y) fun A=>iN (app 24 A [s]) fun B=>iN (subL q k (kw q:Int)) fun D=>iN (app 24 B D) fun E=>some E)=if dec (ix q k=some s)=true then some q else some (q.take k.toNat++[s]++q.drop k.toNat):=by
  have e:(if k<(kw q:Int) then iN (ix q k) fun n=>iN (T9 n s) fun o=>some o else some false)=some (dec (ix q k=some s)):=by by_cases c:k<kw q;obtain⟨a,d,P⟩:=j7 (l:=q) t c;rw[if_pos c,d];simp only[oB,ints_eq];exact congrArg some (x7 (by simp));rw[if_neg c,s9];intro h;have:=(n8 h).2.1;omega
  rw[e];simp only[oB];by_cases c:ix q k=some s;rw[ifP c,ifP c];rw[ifN c,ifN c,subL_take t (by omega),subL_drop t (by omega)];simp only[oB];rw[app,if_pos (by simp;omega)];simp only[oB,jv];rw[app,if_pos (by simp;omega)];simp only[oB];rw[app,if_pos (by simp;omega)];rfl
 rw[step];by_cases c:ix q k=some s;rw[ifP c];exact⟨q,rfl,h,fun x=>⟨.inr,fun g=>g.elim (fun e=>e ▸ l8 c) id⟩,by omega⟩;rw[ifN c];refine⟨_,rfl,?_,fun x=> ?_,by simp;omega⟩;have Q:Ord (q.take k.toNat):=h.sublist (kn _ _);have U:Ord (q.drop k.toNat):=h.sublist (ko _ _);have K:∀a ∈ q.take k.toNat,llt a s:=fun a d=>by obtain⟨i,hi,e⟩:=jO.1 d;exact N (i:Int) a (by omega) (by rw[v8,<- e];exact iI _)
 have b2:∀a ∈ q.drop k.toNat,llt s a:=fun a d=>by
  obtain⟨i,hi,e⟩:=List.mem_drop_iff_getElem.1 d;have F:k<kw q:=by omega
  obtain⟨z,G,V⟩:=j7 (l:=q) t F;have nz:=O z G;have p:llt s z:=by rcases T7 z s with g|g|g;exact absurd g nz;exact absurd (g ▸ G) c;exact g
  by_cases X:i=0;subst X;obtain⟨q1,l⟩:=lG.1 V;have:a=z:=by rw[<- e,<- l];simp
  rw[this];exact p;refine N1 p (h.get G (j:=k+i) ?_ (by omega));rw[show k+(i:Int)=((k.toNat+i:Nat):Int) by omega,v8,<- e];exact iI _
 refine ord_append (ord_append Q (by simp) fun a d b f=> ?_) U fun a d b f=> ?_;simp only[iU] at f;subst f;exact K a d;rcases iP.1 d with d|d;exact N1 (K a d) (b2 b f);simp only[iU] at d;subst d;exact b2 b f;rw[iP,iP,iU];have:=jC k.toNat q;constructor;rintro ((g|g)|g);exact .inr (ka g);exact .inl g;exact .inr (List.mem_of_mem_drop g);rintro (g|g);exact .inl (.inr g);rw[<- this] at g;rcases iP.1 g with g|g;exact .inl (.inl g);exact .inr g
def af4(x:q9)(n:Int):Prop:=SetN x.add n/\SetN x.del n/\∀a ∈ x.add,a ∉ x.del
def xWt(x:q9):Prop:=1<=x.weight/\x.weight<=6
noncomputable def af6(n:Int)(x:q9):Int:=if dec (af4 x n)=true then if dec (xWt x)=true then 0 else 3 else 5
noncomputable def S3(n:Int):List q9->Int
 |[]=>0
 |x::l=>if af6 n x=0 then S3 n l else af6 n x
def xCode_zero{x:q9}:af6 y x=0↔af4 x y/\xWt x:=by unfold af6;by_cases c1:af4 x y;rw[ifP c1];by_cases a:xWt x;rw[ifP a];exact⟨fun _=>⟨c1,a⟩,fun _=>rfl⟩;rw[ifN a];exact⟨fun h=>by omega,fun h=>absurd h.2 a⟩;rw[ifN c1];exact⟨fun h=>by omega,fun h=>absurd h.1 c1⟩
def aB3:∀{l:List q9},S3 y l=0↔∀x ∈ l,af4 x y/\xWt x
 |[]=>by simp[S3]
 |x::l=>by rw[S3];by_cases c:af6 y x=0;rw[if_pos c,aB3];simp[xCode_zero.1 c];rw[if_neg c];exact⟨fun h=>absurd h c,fun h=>absurd (xCode_zero.2 (h x (by simp))) c⟩
structure OOk(o:g9)(n:Int):Prop where
 pre:SetN o.pre n
 c0:0<=o.cost
 c1:o.cost<=100
 l0:1<=kw o.outcomes
 l1:kw o.outcomes<=4
 xs:∀x ∈ o.outcomes,af4 x n/\xWt x
noncomputable def ai8(o:g9)(n:Int):Int:=if dec (SetN o.pre n)=true then if dec (0<=o.cost/\o.cost<=100)=true then if dec (1<=(kw o.outcomes:Int)/\(kw o.outcomes:Int)<=4)=true then 0 else 9 else 3 else 5
noncomputable def ad6(o:g9)(n:Int):Int:=if ai8 o n=0 then S3 n o.outcomes else ai8 o n
def aD1{o:g9}:ai8 o x=0↔SetN o.pre x/\(0<=o.cost/\o.cost<=100)/\(1<=(kw o.outcomes:Int)/\(kw o.outcomes:Int)<=4):=by unfold ai8;by_cases c1:SetN o.pre x;rw[ifP c1];by_cases a:0<=o.cost/\o.cost<=100;rw[ifP a];by_cases b:1<=(kw o.outcomes:Int)/\(kw o.outcomes:Int)<=4;rw[ifP b];exact⟨fun _=>⟨c1,a,b⟩,fun _=>rfl⟩;rw[ifN b];exact⟨fun h=>by omega,fun h=>absurd h.2.2 b⟩;rw[ifN a];exact⟨fun h=>by omega,fun h=>absurd h.2.1 a⟩;rw[ifN c1];exact⟨fun h=>by omega,fun h=>absurd h.1 c1⟩
def oCode_of{o:g9}(h:OOk o x):ad6 o x=0:=by have:=h.l0;have:=h.l1;rw[ad6,if_pos (aD1.2 ⟨h.pre,⟨h.c0,h.c1⟩,by omega,by omega⟩),aB3];exact h.xs
def oCode_ok{o:g9}(h:ad6 o x=0):OOk o x:=by unfold ad6 at h;by_cases c:ai8 o x=0;rw[if_pos c] at h;obtain⟨b,a,d⟩:=aD1.1 c;exact⟨b,a.1,a.2,by omega,by omega,aB3.1 h⟩;rw[if_neg c] at h;exact absurd h c
def oc1{o:g9}(p:0<=y)(q:y<=24){j:Int}{x:q9}(k:ix o.outcomes j=some x):M3 o y j ()=some (if af6 y x=0 then .inl () else .inr (af6 y x)):=by unfold M3;rw[k];simp only[oB,ay5,B9];by_cases d:SetN x.add y;rw[ifNN d];by_cases b:SetN x.del y;have:=b.len;rw[ifNN b,meets_eq b.1 (by omega)];simp only[oB];by_cases c:∀a ∈ x.add,a ∉ x.del;have g:af4 x y:=⟨d,b,c⟩;rw[ifN (fun⟨a,e,l⟩=>c a e l)];unfold af6;rw[ifP g];by_cases f:xWt x;have i:=f;unfold xWt at i;rw[ifP f,if_neg (by simp;omega)];rfl;have i:=f;unfold xWt at i;rw[ifN f,if_pos (by simp;omega)];rfl;have g:¬ af4 x y:=fun h=>c h.2.2;rw[ifP (by rw[Classical.not_forall] at c;obtain⟨a,e⟩:=c;exact⟨a,kp.1 e|>.1,km.1 (kp.1 e).2⟩)];unfold af6;rw[ifN g];rfl;have g:¬ af4 x y:=fun h=>b h.2.1;rw[ifP b];unfold af6;rw[ifN g];rfl;have g:¬ af4 x y:=fun h=>d h.1;rw[ifP d];unfold af6;rw[ifN g];rfl
def operatorCode_eq{o:g9}(i:0<=y)(k:y<=24):S4 o y=some (ad6 o y):=by
 unfold S4;simp only[ay5,oB,B9];unfold ad6 ai8;by_cases c1:SetN o.pre y;rw[ifNN c1,ifP c1];by_cases f:0<=o.cost/\o.cost<=100;rw[if_neg (show ¬ ((decide (o.cost<0))||(decide (100<o.cost)))=true by rw[ju,decide_eq_true_eq,decide_eq_true_eq];omega),ifP f];by_cases g:1<=(kw o.outcomes:Int)/\(kw o.outcomes:Int)<=4;rw[if_neg (show ¬ ((decide ((kw o.outcomes:Int)=0))||(decide (4<(kw o.outcomes:Int))))=true by rw[ju,decide_eq_true_eq,decide_eq_true_eq];omega),ifP g,if_pos rfl];rcases ah0 (body:=M3 o y) (n:=(kw o.outcomes:Int)) (fun j _=>S3 y o.outcomes=S3 y (o.outcomes.drop j.toNat)) (fun c=>c=S3 y o.outcomes) (s:=()) (by omega) (by simp) (fun j _ p q a=>by
  obtain⟨x,r,t⟩:=j7 (l:=o.outcomes) p q;have u:o.outcomes.drop j.toNat=x::o.outcomes.drop (j.toNat+1):=by obtain⟨b,rfl⟩:=lG.1 t;exact jk b
  rw[oc1 i k r];rw[u,S3] at a;by_cases e:af6 y x=0;rw[if_pos e] at a ⊢;exact .inl ⟨(),rfl,by rw[a,show(j+1).toNat=j.toNat+1 by omega]⟩;rw[if_neg e] at a ⊢;exact .inr ⟨_,rfl,a.symm⟩) with⟨_,d,v⟩|⟨c,d,rfl⟩
 rw[d,v];simp[S3];rw[d];rfl;rw[if_pos (show((decide ((kw o.outcomes:Int)=0))||(decide (4<(kw o.outcomes:Int))))=true by rw[ju,decide_eq_true_eq,decide_eq_true_eq];omega),ifN g];rfl;rw[if_pos (show((decide (o.cost<0))||(decide (100<o.cost)))=true by rw[ju,decide_eq_true_eq,decide_eq_true_eq];omega),ifN f];rfl;rw[ifP c1,ifN c1];rfl
def of2{o:g9}(G:0<=a.facts)(H:a.facts<=24)(J:kw o.outcomes<=1000000)(c:Int):Loop (H7 a o) (c,0)=some (if c=0 then S3 a.facts o.outcomes else c):=by
 obtain⟨r,z,A⟩:=E8 (body:=H7 a o) (fun p=>0<=p.2/\p.2<=kw o.outcomes/\(if c=0 then S3 a.facts o.outcomes else c)=if p.1=0 then S3 a.facts (o.outcomes.drop p.2.toNat) else p.1) (fun r=>r=if c=0 then S3 a.facts o.outcomes else c) (fun p=>(kw o.outcomes - p.2).toNat) (s:=(c,0)) ⟨by simp,by simp,by simp⟩ (fun⟨e,j⟩ ⟨y,B,i⟩=>by
  dsimp only at y B i ⊢;unfold H7;dsimp only;by_cases g:j<kw o.outcomes/\e=0;rw[if_pos (by simpa using g)];obtain⟨x,D,E⟩:=j7 (l:=o.outcomes) y g.1;have F:o.outcomes.drop j.toNat=x::o.outcomes.drop (j.toNat+1):=by obtain⟨q,rfl⟩:=lG.1 E;exact jk q
  rw[g.2,if_pos rfl,F,S3] at i;rw[D];simp only[oB,as7 (n:=a.facts) _ (show -9223372036854775808<a.facts by omega) (show a.facts<=9223372036854775807 by omega),disjoint_eq,in_eq,B9,g.2];have hp:(if dec (¬ SetN x.add a.facts)=true then some true else if dec (¬ SetN x.del a.facts)=true then some true else some (dec (¬ ∀b ∈ x.add,b ∉ x.del)))=some (dec (¬ af4 x a.facts)):=by unfold af4;by_cases d:SetN x.add a.facts;rw[ifNN d];by_cases f:SetN x.del a.facts;rw[ifNN f];exact congrArg some (x7 ⟨fun h k=>h k.2.2,fun h k=>h ⟨d,f,k⟩⟩);rw[ifP f,i9 (fun k=>f k.2.1)];rw[ifP d,i9 (fun k=>d k.1)]
  rw[hp];simp only[oB];rw[p9 (by omega) (by omega)];have u:(if dec (¬ af4 x a.facts)=true then some (5:Int) else if dec (¬ (1<=x.weight/\x.weight<=6))=true then some 3 else some 0)=some (af6 a.facts x):=by unfold af6;by_cases d:af4 x a.facts;rw[ifNN d,ifP d];by_cases f:xWt x;rw[ifNN (p:=1<=x.weight/\x.weight<=6) f,ifP f];rw[ifP (p:=¬ (1<=x.weight/\x.weight<=6)) f,ifN f];rw[ifP d,ifN d]
  rw[u];simp only[oB];refine .inl ⟨_,rfl,⟨by dsimp only;omega,by dsimp only;omega,?_⟩,by dsimp only;omega⟩;dsimp only;rw[i,show(j+1).toNat=j.toNat+1 by omega];rw[if_neg (by simpa using g)];refine .inr ⟨e,rfl,?_⟩;rw[i];by_cases v:e=0;rw[if_pos v,jn (by omega),S3,v];rw[if_neg v])
 rw[z,A]
structure k8(t:b8):Prop where
 n0:0<=t.facts
 n1:t.facts<=24
 init:SetN t.init t.facts
 goal:SetN t.goal t.facts
 ops:kw t.operators<=40
 op:∀o ∈ t.operators,OOk o t.facts
def aw7(t:b8):∃f,J2 t=some f/\aC3 t=some f/\((f=⟨0,0⟩/\k8 t)\/(f.code ≠ 0/\¬ k8 t)):=by
 unfold J2 aC3;simp only[in_eq,at_eq,oB,B9];by_cases c1:0<=t.facts/\t.facts<=24;rw[if_neg (by simp;omega),ifNN c1];simp only[ay5,as7 (n:=t.facts) _ (show -9223372036854775808<t.facts by omega) (show t.facts<=9223372036854775807 by omega),oB,B9];by_cases d:SetN t.init t.facts;rw[ifNN d,ifNN d];by_cases g:SetN t.goal t.facts;rw[ifNN g,ifNN g];by_cases u:40<(kw t.operators:Int);rw[if_pos u,if_pos u];exact⟨_,rfl,rfl,.inr ⟨by simp,fun h=>by have:=h.ops;omega⟩⟩;rw[if_neg u,if_neg u];have x:∀j:Int,0<=j->j<kw t.operators->∃o,ix t.operators j=some o/\U9 t j ()=some (if ad6 o t.facts=0 then .inl () else .inr ⟨ad6 o t.facts,j⟩)/\S5 t j ()=some (if ad6 o t.facts=0 then .inl () else .inr ⟨ad6 o t.facts,j⟩):=fun j b a=>by
  obtain⟨o,p,_⟩:=j7 (l:=t.operators) b a;refine⟨o,p,?_,?_⟩;unfold U9;rw[p];simp only[oB,operatorCode_eq c1.1 c1.2];by_cases e:ad6 o t.facts=0;rw[if_pos e,if_pos e];rw[if_neg e,if_neg e];unfold S5;rw[p];simp only[oB,as7 (n:=t.facts) _ (show -9223372036854775808<t.facts by omega) (show t.facts<=9223372036854775807 by omega),in_eq,at_eq,B9];have hp:(if dec (¬ SetN o.pre t.facts)=true then some (5:Int) else if dec (¬ (0<=o.cost/\o.cost<=100))=true then some 3 else if dec (¬ (1<=(kw o.outcomes:Int)/\(kw o.outcomes:Int)<=4))=true then some 9 else some 0)=some (ai8 o t.facts):=by unfold ai8;by_cases i:SetN o.pre t.facts;rw[ifNN i,ifP i];by_cases k:0<=o.cost/\o.cost<=100;rw[ifNN k,ifP k];by_cases v:1<=(kw o.outcomes:Int)/\(kw o.outcomes:Int)<=4;rw[ifNN v,ifP v];rw[ifP v,ifN v];rw[ifP k,ifN k];rw[ifP i,ifN i]
  rw[hp];simp only[oB];by_cases q:ai8 o t.facts=0;have:=aD1.1 q;rw[of2 c1.1 c1.2 (by omega),if_pos q];simp only[oB,ad6,q,if_true];split<;>rfl;have B:Loop (H7 t o) (ai8 o t.facts,0)=some (ai8 o t.facts):=by
   rw[av5];have:H7 t o (ai8 o t.facts,0)=some (.inr (ai8 o t.facts)):=by unfold H7;dsimp only;rw[if_neg (by simp[q])]
   rw[this]
  rw[B];simp only[oB,ad6,if_neg q]
 have r:rngX 0 (kw t.operators:Int) (U9 t) ()=rngX 0 (kw t.operators:Int) (S5 t) ():=
  (rngX_eq (fun _ _=>True) (by omega) trivial (fun j s b a _=>by obtain⟨o,_,z,y⟩:=x j b a;exact⟨by rw[z,y],by rw[z];simp,fun _ _=>Y⟩)).1
 rcases I2 (body:=S5 t) (n:=(kw t.operators:Int)) (fun j=>match ix t.operators j with|some o=>if ad6 o t.facts=0 then none else some (⟨ad6 o t.facts,j⟩:m7)|none=>none) (by omega) (fun j b a _=>by obtain⟨o,w,_,y⟩:=x j b a;rw[y,w];dsimp only;split<;>rfl) with⟨a,c⟩|⟨j,f,b,a,c,_,D⟩
 rw[r,a];refine⟨⟨0,0⟩,rfl,rfl,.inl ⟨rfl,c1.1,c1.2,d,g,by omega,fun o p=> ?_⟩⟩;obtain⟨j,E,i,k⟩:=p8 p;have:=c j E i;rw[k] at this;dsimp only at this;split at this;rename_i e;exact oCode_ok e;cases this;rw[r,D];obtain⟨o,w,_,_⟩:=x j b a;rw[w] at c;dsimp only at c;split at c;cases c;rename_i e;cases c;exact⟨_,rfl,rfl,.inr ⟨e,fun h=>e (oCode_of (h.op o (l8 w)))⟩⟩;rw[ifP g,ifP g];exact⟨_,rfl,rfl,.inr ⟨by simp,fun h=>g h.goal⟩⟩;rw[ifP d,ifP d];exact⟨_,rfl,rfl,.inr ⟨by simp,fun h=>d h.init⟩⟩;rw[if_pos (by simp;omega),if_pos (i9 c1)];exact⟨_,rfl,rfl,.inr ⟨by simp,fun h=>c1 ⟨h.n0,h.n1⟩⟩⟩
def noOO:g9:=⟨[],[],0⟩
def ooAt(t:b8)(op:Int):g9:=(t.operators[op.toNat]?).getD noOO
def ix_oo{op:Int}(c:0<=op)(d:op<kw a.operators):ix a.operators op=some (ooAt a op):=by obtain⟨b,e,f⟩:=j7 c d;rw[e,ooAt,f];rfl
def oCan(t:b8)(s:Li)(op:Int):Prop:=∀x ∈ (ooAt t op).pre,x ∈ s
noncomputable def efc(n:Int)(s:Li)(x:q9):Li:=Q5 (fun p=>p ∈ x.add\/p ∈ s/\p ∉ x.del) n
def al2(n:Int)(s:Li)(x:q9):SetN (efc n s x) n:=av1 _ _
def k8.at{t:b8}(h:k8 t){op:Int}(a:0<=op)(b:op<kw t.operators):OOk (ooAt t op) t.facts:=h.op _ (l8 (ix_oo a b))
def oCan_eq(c:k8 a){op:Int}(d:0<=op)(e:op<kw a.operators)(f:SetN b a.facts):ah6 a b op=some (dec (oCan a b op)):=by have:=c.n1;have:=f.len;unfold ah6;rw[ix_oo d e];simp only[oB];rw[aa0 f.1 (c.at d e).pre.1 (by omega)];rfl
def oApplies_eq{op:Int}(b:0<=op)(c:op<kw a.operators)(s:Li):ax9 a s op=some (dec (oCan a s op)):=by unfold ax9;rw[ix_oo b c];simp only[oB,subset_eq];rfl
def effect_eq(g:k8 a)(s:Li)(x:q9):ar3 a s x=some (efc a.facts s x):=by
 have:=g.n1;unfold ar3;rw[if_pos (by omega)];rw[forR_setOf (b:=8) (fun p=>p ∈ x.add\/p ∈ s/\p ∉ x.del) g.n0 (by omega) (fun j c i k=>by
  unfold aC6;simp only[oB,has_eq,B9];have e:(if dec (j ∈ x.add)=true then some true else if dec (j ∈ s)=true then some (dec (j ∉ x.del)) else some false)=some (dec (j ∈ x.add\/j ∈ s/\j ∉ x.del)):=by by_cases c1:j ∈ x.add;rw[if_pos (i9 c1),i9 (.inl c1)];rw[if_neg (fun h=>c1 (m5.1 h))];by_cases d:j ∈ s;rw[if_pos (i9 d)];exact congrArg some (x7 ⟨fun h=>.inr ⟨d,h⟩,fun h=>(h.resolve_left c1).2⟩);rw[if_neg (fun h=>d (m5.1 h)),s9 (fun h=>d (h.resolve_left c1).1)]
  rw[e];simp only[oB];refine⟨fun f=> ?_,fun f=> ?_⟩;rw[if_pos (i9 f)];cases app 8 c [j]<;>rfl;rw[if_neg (fun h=>f (m5.1 h))];rfl)]
 rfl
def oUpdate_eq(d:y<=24)(c:SetN b y){x:q9}(a:af4 x y):R7 b x.add x.del=some (efc y b x):=by have:=a.2.1.len;rw[update_eq (n:=y) (by omega) a.2.1.1 (by omega) c a.1];exact congrArg some (setOf_congr fun _ _ _=>Or.comm)
/-! ### Policies -/
structure PolOk(t:b8)(p:List f9):Prop where
 len:kw p<=200
 ord:Ord (p.map f9.state)
 set:∀c ∈ p,SetN c.state t.facts
 op:∀c ∈ p,0<=c.operator/\c.operator<kw t.operators
 can:∀c ∈ p,oCan t c.state c.operator
def aE9(p:List f9)(s:Li):∃r,ar1 p s=some r/\((r= -1/\∀c ∈ p,c.state ≠ s)\/∃c,c ∈ p/\c.state=s/\r=c.operator):=by
 unfold ar1;rcases I2 (body:=aq6 p s) (n:=(kw p:Int)) (fun j=>match ix p j with|some c=>if dec (c.state=s)=true then some c.operator else none|none=>none) (by omega) (fun j f b _=>by obtain⟨x,h,_⟩:=j7 (l:=p) f b;unfold aq6;simp only[h,oB,ints_eq];by_cases e:x.state=s;rw[ifP e,ifP e];rw[ifN e,ifN e]) with⟨b,a⟩|⟨j,o,f,b,a,v,k⟩
 rw[b];refine⟨-1,rfl,.inl ⟨rfl,fun c d q=> ?_⟩⟩;obtain⟨i,t,u,hi⟩:=p8 d;have:=a i t u;rw[hi] at this;dsimp only at this;rw[ifP q] at this;cases this;rw[k];obtain⟨c,d,_⟩:=j7 (l:=p) f b;rw[d] at a;dsimp only at a;split at a;rename_i e;cases a;exact⟨_,rfl,.inr ⟨c,l8 d,m5.1 e,rfl⟩⟩;cases a
def chosen_eq(hp:PolOk a s)(b:Li):∃r,O8 s b=some r/\ar1 s b=some r/\(r= -1\/(0<=r/\r<kw a.operators/\oCan a b r)):=by obtain⟨r,l,j⟩:=aE9 s b;refine⟨r,?_,l,?_⟩;unfold O8;obtain⟨i,n,v,o⟩:=bsf_eq (key:=f9.state) (xs:=s) (t:=b) (cmp:=open_Chosen_1) hp.ord (by have:=hp.len;omega) (fun d=>by unfold open_Chosen_1;rw[au6];rfl);have:m9 s b open_Chosen_1=bsf s b open_Chosen_1:=rfl;rw[this,n];simp only[oB,B9];rcases j with⟨rfl,h⟩|⟨c,f,g,rfl⟩;rw[ifP];rintro ⟨d,u,e⟩;exact h d u e;rw[ifNN ⟨c,f,g⟩];obtain⟨k,_,_,hk⟩:=p8 f;have:=o k c hk g;subst this;rw[hk];rfl;rcases j with⟨rfl,h⟩|⟨c,f,g,rfl⟩;exact .inl rfl;have:=hp.op c f;exact .inr ⟨this.1,this.2,g ▸ hp.can c f⟩
def ix_map{f:A->B}:ix (P.map f) x=(ix P x).map f:=by simp only[ix];split;rw[lM];rfl
def Ord.one{l:LL}(a:Ord l)(b:Ord q){p:Li->Prop}(c:∀y,y ∈ l↔p y)(d:∀y,y ∈ q↔p y):l=q:=Ord.ext a b fun y=>(c y).trans (d y).symm
def cloneLL_eq(h:kw q<=1000000):C9 q=some q:=by
 rw[C9,app,if_pos (by simp;omega)];rfl
def results1{o:g9}(d:OOk o a.facts)(i:a.facts<=24)(k:SetN b a.facts):forR 0 (kw o.outcomes:Int) (Y1 b o) []=some (o.outcomes.map (efc a.facts b)):=by
 have w:=d.l1;obtain⟨c,p,q⟩:=u9 (body:=Y1 b o) (n:=(kw o.outcomes:Int)) (s:=[]) (fun j c=>c=(o.outcomes.take j.toNat).map (efc a.facts b)) (by omega) (by simp) (fun j c r u f=>by
  obtain⟨x,g,v⟩:=j7 (l:=o.outcomes) r u;unfold Y1;rw[g];simp only[oB];rw[oUpdate_eq i k (d.xs x (l8 g)).1];simp only[oB];have h:kw c<=4:=by rw[f,List.length_map,jT];omega
  rw[app,if_pos (by simp;omega)];refine⟨_,rfl,?_⟩;rw[show(j+1).toNat=j.toNat+1 by omega,je,v,f,List.map_append];rfl)
 rw[p,q];simp
def aa3(g:k8 a){op:Int}(h:0<=op)(o:op<kw a.operators)(A:SetN b a.facts):∃st w,A7 a b op=some (st,w)/\Ord st/\(∀y,y ∈ st↔∃x ∈ (ooAt a op).outcomes,efc a.facts b x=y)/\(kw st)<=4/\(kw w)=kw st/\forR 0 ((ooAt a op).outcomes.length:Int) (H9 ((ooAt a op).outcomes.map (efc a.facts b)) st (ooAt a op)) (iZ (kw st) 0)=some w:=by
 have p:=g.at h o;have N:=p.l1;unfold A7;rw[ix_oo h o];simp only[oB];rw[results1 p g.n1 A];simp only[oB];rw[cloneLL_eq (by simp;omega)];simp only[oB];obtain⟨st,n1,q,r,B⟩:=normal_eq (l:=(ooAt a op).outcomes.map (efc a.facts b)) (by simp;omega);have e:kw st<=4:=by rw[List.length_map] at B;omega
 have D:mkL 8 (kw st:Int) (0:Int)=some (iZ (kw st) 0):=by rw[mkL,if_pos (by omega)];simp
 obtain⟨w,u,E⟩:=u9 (body:=H9 ((ooAt a op).outcomes.map (efc a.facts b)) st (ooAt a op)) (n:=((ooAt a op).outcomes.length:Int)) (s:=iZ (kw st) 0) (fun j c=>kw c=kw st) (by omega) (by simp) (fun j c F G H=>by obtain⟨x,f,O⟩:=j7 (l:=(ooAt a op).outcomes) F G;have d:efc a.facts b x ∈ st:=(r _).2 (jd.2 ⟨x,l8 f,rfl⟩);obtain⟨i,J,P,K⟩:=ax8 (t:=efc a.facts b x) q (by omega);obtain⟨k,L,Q,hk⟩:=p8 d;have:=K k hk;subst this;obtain⟨z,M,U⟩:=j7 (l:=c) (i:=k) L (by omega);unfold H9;rw[f,ix_map,f];simp only[oB,jU,J,M];exact⟨_,rfl,by rw[lS];exact H⟩);rw[n1];simp only[oB,D,u];exact⟨st,w,rfl,q,fun y=>by rw[r,jd],e,E,u⟩
/-! ### The coin -/
noncomputable def chO(p:List f9)(s:Li):Int:=(ar1 p s).getD (-1)
def chosen_chO(hp:PolOk a s)(b:Li):O8 s b=some (chO s b)/\(chO s b= -1\/(0<=chO s b/\chO s b<kw a.operators/\oCan a b (chO s b))):=by
 obtain⟨r,c,d,e⟩:=chosen_eq hp b;have:chO s b=r:=by rw[chO,d];rfl
 rw[this];exact⟨c,e⟩
def dzO(o:g9)(x:q9):w7:=⟨o.pre,x.add,x.del,o.cost⟩
structure Dz(t:b8)(a k:Int)(c:List (Int×Int))(d:List w7):Prop where
 len:kw c=kw d
 most:(kw c:Int)<=4 * a+k
 each:∀i p,ix c i=some p->(0<=p.1/\p.1<kw t.operators)/\∃x ∈ (ooAt t p.1).outcomes,ix d i=some (dzO (ooAt t p.1) x)
 all:∀(b m:Int) (x:q9),0<=b->b<kw t.operators->ix (ooAt t b).outcomes m=some x->(b<a\/b=a/\m<k)->∃i,ix c i=some (b,m)/\ix d i=some (dzO (ooAt t b) x)
def dz2(h:k8 a)(i:0<=y)(j:y<kw a.operators){k:Int}{x:q9}(b:ix (ooAt a y).outcomes k=some x)(c:List (Int×Int))(d:List w7):N4 y (ooAt a y) k (c,d)=iN (app 80 d [dzO (ooAt a y) x]) fun e=>iN (app 16 c [(y,k)]) fun f=>some (f,e):=by have g:=h.at i j;have l:=h.n1;have:=g.pre.len;have:=(g.xs x (l8 b)).1.1.len;have:=(g.xs x (l8 b)).1.2.1.len;unfold N4;dsimp only;rw[b];simp only[oB];rw[ad5 (by omega),ad5 (by omega),ad5 (by omega)];rfl
def dz_put{k:Int}{x:q9}(w:0<=y)(A:y<kw a.operators)(v:ix (ooAt a y).outcomes k=some x){d:List w7}(h:Dz a y k f d):Dz a y (k+1) (f++[(y,k)]) (d++[dzO (ooAt a y) x]):=by
 have old:∀{n:Type} {l:List n} {j z:n} {i:Int},ix l i=some j->ix (l++[z]) i=some j:=fun {n l j z i} hi=>by obtain⟨q,B,g⟩:=n8 hi;rw[ix,if_pos q,jh (by omega),g]
 have new:∀{n:Type} {l:List n} {z:n},ix (l++[z]) (kw l:Int)=some z:=fun {n l z}=>by rw[v8];simp
 refine⟨by simp[h.len],by have:=h.most;simp;omega,fun i p hi=> ?_,fun b m j D E r F=> ?_⟩;have o:=(n8 hi);by_cases e:i<kw f;have:ix f i=some p:=by obtain⟨q,B,g⟩:=o;rw[jh (by omega)] at g;rw[ix,if_pos q,g]
 obtain⟨s,j,u,G⟩:=h.each i p this;exact⟨s,j,u,old G⟩;have:i=(kw f:Int):=by have:=o.2.1;simp at this;omega
 subst this;rw[new] at hi;cases hi;exact⟨⟨w,A⟩,x,l8 v,by rw[h.len];exact new⟩;by_cases e:b=y/\m=k;obtain⟨rfl,rfl⟩:=e;rw[v] at r;cases r;exact⟨(kw f:Int),new,by rw[h.len];exact new⟩;obtain⟨i,s,u⟩:=h.all b m j D E r (by omega);exact⟨i,old s,old u⟩
def dz_all(v:k8 a):∃c d,forR 0 (kw a.operators:Int) (I8 a) ([],[])=some (c,d)/\Dz a (kw a.operators) 0 c d:=by have y:=v.ops;obtain⟨⟨c,d⟩,A,B⟩:=u9 (body:=I8 a) (n:=(kw a.operators:Int)) (s:=([],[])) (fun f q=>Dz a f 0 q.1 q.2) (by omega) ⟨rfl,by simp,fun i p hi=>by simp[ix] at hi,fun b m x z _ g w=>by have:=(n8 g).1;omega⟩ (fun f ⟨c,d⟩ r u h=>by dsimp only at h;have D:=v.at r u;have J:=D.l1;unfold I8;dsimp only;rw[ix_oo r u];simp only[oB];obtain⟨⟨K,L⟩,E,o⟩:=u9 (body:=N4 f (ooAt a f)) (n:=((ooAt a f).outcomes.length:Int)) (s:=(c,d)) (fun k q=>Dz a f k q.1 q.2) (by omega) h (fun k ⟨c,d⟩ F G h=>by dsimp only at h;obtain⟨x,g,_⟩:=j7 (l:=(ooAt a f).outcomes) F G;rw[dz2 v r u g];have:=h.most;have:=h.len;rw[app,if_pos (by simp;omega)];simp only[oB];rw[app,if_pos (by simp;omega)];exact⟨_,rfl,dz_put r u g h⟩);rw[E];refine⟨_,rfl,?_⟩;dsimp only at o ⊢;refine⟨o.len,by have:=o.most;omega,o.each,fun b m x z H g w=>o.all b m x z H g ?_⟩;by_cases e:b=f;subst e;exact .inr ⟨rfl,(n8 g).2.1⟩;have:=(n8 g).1;exact .inl (by omega));exact⟨c,d,A,B⟩
def determinize_ok(b:k8 a):∃c d,forR 0 (kw a.operators:Int) (I8 a) ([],[])=some (c,d)/\Dz a (kw a.operators) 0 c d/\D7 a=if 40<(kw c:Int) then some (⟨0,[],[],[]⟩,[],⟨10, -1⟩) else some (⟨a.facts,a.init,a.goal,d⟩,c,⟨0,0⟩):=by obtain⟨f,g,_,h⟩:=aw7 a;rcases h with⟨rfl,_⟩|⟨_,i⟩;obtain⟨c,d,e,j⟩:=dz_all b;refine⟨c,d,e,j,?_⟩;have:=b.init.len;have:=b.goal.len;have:=b.n1;unfold D7;rw[g];simp only[oB];rw[if_neg (by simp),ad5 (by omega),ad5 (by omega),e];rfl;exact absurd b i
def determinize_bad{f:m7}(b:J2 a=some f)(c:f.code ≠ 0):D7 a=some (⟨0,[],[],[]⟩,[],f):=by unfold D7;rw[b];simp only[oB];rw[if_pos (fault_no c)]
def dz_task(b:k8 a){d:List w7}(h:Dz a (kw a.operators) 0 f d)(w:kw f<=40):B6 ⟨a.facts,a.init,a.goal,d⟩ where
 n0:=b.n0
 n1:=b.n1
 init:=b.init
 goal:=b.goal
 ops:=by have:=h.len;dsimp only;omega
 op o k:=by obtain⟨i,n,q,hi⟩:=p8 (show o ∈ d from k);obtain⟨p,hp,_⟩:=j7 (l:=f) (i:=i) n (by rw[h.len];exact q);obtain⟨g,x,r,j⟩:=h.each i p hp;rw[hi] at j;cases j;have e:=b.at g.1 g.2;obtain⟨s,u,v⟩:=(e.xs x r).1;exact⟨⟨e.pre,s,u,v⟩,e.c0,e.c1⟩
def dg(x:Int):Li:=if x<10 then [48+x] else [48+x / 10,48+x % 10]
def encS(s:Li):Li:=s.flatMap (fun x=>dg x++[44])++[59]
def encK(l:LL):Li:=l.flatMap encS
def small(s:Li):Prop:=∀x ∈ s,0<=x/\x<100
def dg_split(c:0<=x/\x<100)(d:0<=y/\y<100){a:Li}(h:dg x++44::b=dg y++44::a):x=y/\b=a:=by unfold dg at h;split at h<;>split at h<;>simp only[jl,jv,List.cons.injEq] at h;exact⟨by omega,h.2.2⟩;exfalso;omega;exfalso;omega;exact⟨by omega,h.2.2.2⟩
def dg_head(b:0<=x/\x<100):∃a l,dg x=a::l/\48<=a/\a<58:=by unfold dg;split;exact⟨_,_,rfl,by omega,by omega⟩;exact⟨_,_,rfl,by omega,by omega⟩
def at0(x:Int)(s:Li):encS (x::s)=dg x++44::encS s:=by simp[encS]
def encS_inj:∀{s s' r r':Li},small s->small s'->encS s++r=encS s'++r'->s=s'/\r=r'
 |[],[],r,r',_,_,h=>by simp[encS] at h;exact⟨rfl,h⟩
 |[],y::s',r,r',_,h2,h=>by obtain⟨a,l,ha,h3,h4⟩:=dg_head (h2 y (by simp));rw[at0,ha] at h;simp only[encS,jp,jv,jl,List.cons.injEq] at h;omega
 |x::s,[],r,r',h1,_,h=>by obtain⟨a,l,ha,h3,h4⟩:=dg_head (h1 x (by simp));rw[at0,ha] at h;simp only[encS,jp,jv,jl,List.cons.injEq] at h;omega
 |x::s,y::s',r,r',h1,h2,h=>by rw[at0,at0,jN,jN,jl,jl] at h;obtain⟨rfl,g⟩:=dg_split (h1 x (by simp)) (h2 y (by simp)) h;obtain⟨e1,e2⟩:=encS_inj (s:=s) (s':=s') (fun z hz=>h1 z (iK _ hz)) (fun z hz=>h2 z (iK _ hz)) g;exact⟨by rw[e1],e2⟩
def encK_inj:∀{l l':LL},(∀s ∈ l,small s)->(∀s ∈ l',small s)->encK l=encK l'->l=l'
 |[],[],_,_,_=>rfl
 |[],s::l',_,_,h=>by have h:=congrArg kw h;simp only[encK,encS,jp,jy,iO,List.length_nil,iQ] at h;omega
 |s::l,[],_,_,h=>by have h:=congrArg kw h;simp only[encK,encS,jp,jy,iO,List.length_nil,iQ] at h;omega
 |s::l,s'::l',h1,h2,h=>by have h:encS s++encK l=encS s'++encK l':=h;obtain⟨e1,e2⟩:=encS_inj (h1 s (jL ..)) (h2 s' (jL ..)) h;have e3:=encK_inj (l:=l) (l':=l') (fun z hz=>h1 z (iK _ hz)) (fun z hz=>h2 z (iK _ hz)) e2;rw[e1,e3]
def dg_byte(c:0<=x/\x<100):∀a ∈ dg x,0<=a/\a<256:=by intro a b;unfold dg at b;split at b<;>simp at b<;>omega
def encS_byte(h:small b):∀a ∈ encS b,0<=a/\a<256:=by intro a d;simp only[encS,iP,jz,iU] at d;rcases d with⟨x,e,c|c⟩|c;exact dg_byte (h x e) a c;omega;omega
def encK_byte(h:∀s ∈ q,small s):∀a ∈ encK q,0<=a/\a<256:=by intro a b;simp only[encK,jz] at b;obtain⟨s,c,d⟩:=b;exact encS_byte (h s c) a d
def strB_inj{d:Li}(e:∀a ∈ r,0<=a/\a<256)(f:∀a ∈ d,0<=a/\a<256)(h:strB r=strB d):r=d:=by
 have g:r.map (fun n=>UInt8.ofNat n.toNat)=d.map (fun n=>UInt8.ofNat n.toNat):=by have:=congrArg ByteArray.data h;simpa[strB] using this
 have c:∀{m:Li},(∀a ∈ m,0<=a/\a<256)->(m.map (fun n=>UInt8.ofNat n.toNat)).map (fun b=>(b.toNat:Int))=m:=by
  intro m i;rw[List.map_map];conv=>rhs;rw[<- List.map_id m]
  apply List.map_congr_left;intro a j;have:=i a j;simp only[Function.comp_apply,id_eq,UInt8.toNat_ofNat'];omega
 rw[<- c e,<- c f,g]
def keyK(l:LL):ByteArray:=strB (encK l)
def keyK_inj{l l':LL}(a:∀s ∈ l,small s)(b:∀s ∈ l',small s)(h:keyK l=keyK l'):l=l':=encK_inj a b (strB_inj (encK_byte a) (encK_byte b) h)
/-! ### Maps -/
def I1[DecidableEq A](k b:A)(v:B):∀m:List (A×B),mget (mset m k v) b=if b=k then some v else mget m b
 |[]=>by simp only[mset,mget]
 |p::r=>by simp only[mset];by_cases h:k=p.1;rw[if_pos h];simp only[mget];by_cases a:b=k;rw[if_pos a,if_pos a];rw[if_neg a,if_neg a,if_neg (by rw[<- h];exact a)];rw[if_neg h];simp only[mget];rw[I1 k b v r];by_cases a:b=p.1;rw[if_pos a,if_pos a,if_neg (fun e=>h (e.symm.trans a))];rw[if_neg a,if_neg a]
def aG0{b:Int->List B->Option (List B)}(g:A->List B)(N:Nat)(c0:List B)(i:∀j a c,ix P j=some a->kw c+(g a).length<=N->b j c=some (c++g a))(t:kw c0+(P.flatMap g).length<=N):
  forR 0 (kw P:Int) b c0=some (c0++P.flatMap g):=by
 obtain⟨u,d,k⟩:=u9 (body:=b) (n:=(kw P:Int)) (s:=c0) (fun j c=>c=c0++(P.take j.toNat).flatMap g) (by omega) (by simp) (fun j c o d f=>by
  obtain⟨a,p,q⟩:=j7 o d;have e:(j+1).toNat=j.toNat+1:=by omega
  have h:P.take (j+1).toNat=P.take j.toNat++[a]:=by rw[e,je,q];rfl
  refine⟨c++g a,i j a c p ?_,?_⟩;have r:P=P.take j.toNat++[a]++P.drop (j+1).toNat:=by rw[<- h,jC]
  have v:(P.flatMap g).length=((P.take j.toNat).flatMap g).length+(g a).length+((P.drop (j+1).toNat).flatMap g).length:=by
   conv=>lhs;rw[r]
   simp[kg];omega
  rw[f,iO];omega;rw[h,kg,f];simp)
 rw[d,k]
 simp
def small_eq:∀n:Fin 100,(O9 (n:Nat)).map strL=some (dg (n:Nat)):=by decide+kernel
def appendInt_eq(d:0<=x/\x<100){l:Li}(g:kw l<=1000000):H3 x 10 l=some (l++dg x):=by
 have h:=small_eq ⟨x.toNat,by omega⟩;rw[show(((⟨x.toNat,by omega⟩:Fin 100):Nat):Int)=x by simp;omega] at h;obtain⟨b,e,f⟩:=oM.1 h;first
  |unfold H3 F8 F0
  |unfold H3 c a
 rw[if_neg (by omega),IntKind.wrap_u64,kl (by omega) (by omega)];simp only[oB,if_true];rw[if_pos d.2,p9 (by omega) (by omega),e];simp only[oB,f];have:(dg x).length<=2:=by unfold dg;split<;>simp
 rw[app,if_pos (by omega)];rfl
def dg_len(x:Int):(dg x).length<=2:=by unfold dg;split<;>simp
def key_eq(e:∀s ∈ q,small s)(f:(encK q).length<=900000):ad8 q=some (keyK q):=by
 unfold ad8;rw[aG0 encS 900000 [] (fun j s c b h=>by
  unfold at8;rw[b];simp only[oB];have d:(encS s).length=(s.flatMap fun x=>dg x++[44]).length+1:=by simp[encS]
  rw[aG0 (fun x=>dg x++[44]) 900000 c (fun i x g hi a=>by unfold at6;rw[hi];simp only[iO,jD] at a;simp only[oB,appendInt_eq (e s (l8 b) x (l8 hi)) (l:=g) (by omega)];rw[app,if_pos (by simp;omega)];simp) (by omega)];simp only[oB];rw[app,if_pos (by rw[iO];simp only[jD];omega)];simp[encS]) (by simpa[encK] using f)]
 rfl
def encS_len:∀s:Li,(encS s).length<=3 * (kw s)+1
 |[]=>by simp[encS]
 |x::s=>by have:=encS_len s;have:=dg_len x;rw[at0];simp only[iO,iQ];omega
/-! ### Loops side by side -/
def rngN_sim{n o:Type}{b:Int->A->Option (A⊕n)}{b2:Int->B->Option (B⊕o)}(R:Int->A->B->Prop)(Q:n->o->Prop):∀(k:Nat) (i:Int) (s1:A) (a:B),R i s1 a->
  (∀j s1 a,i<=j->j<i+k->R j s1 a->(∃t1 t2,b j s1=some (.inl t1)/\b2 j a=some (.inl t2)/\R (j+1) t1 t2)\/∃o1 o2,b j s1=some (.inr o1)/\b2 j a=some (.inr o2)/\Q o1 o2)->
  (∃t1 t2,rngN b k i s1=some (.inl t1)/\rngN b2 k i a=some (.inl t2)/\R (i+k) t1 t2)\/∃o1 o2,rngN b k i s1=some (.inr o1)/\rngN b2 k i a=some (.inr o2)/\Q o1 o2
 |0,i,s1,a,h,_=>.inl ⟨s1,a,rfl,rfl,by simpa using h⟩
 |k+1,i,s1,a,h,p=>by rcases p i s1 a (iR _) (by omega) h with⟨t1,t2,c,d,g⟩|⟨o1,o2,c,d,g⟩;rcases rngN_sim R Q k (i+1) t1 t2 g (fun j s1 a e f=>p j s1 a (by omega) (by omega)) with⟨q,r,e,f,l⟩|⟨o1,o2,e,f,l⟩;exact .inl ⟨q,r,by simp only[rngN,c];exact e,by simp only[rngN,d];exact f,by rw[show i+((k+1:Nat):Int)=i+1+k by omega];exact l⟩;exact .inr ⟨o1,o2,by simp only[rngN,c];exact e,by simp only[rngN,d];exact f,l⟩;exact .inr ⟨o1,o2,by simp only[rngN,c],by simp only[rngN,d],g⟩
def rngX_sim{a b:Type}{b1:Int->A->Option (A⊕a)}{b2:Int->B->Option (B⊕b)}{n:Int}(R:Int->A->B->Prop)(Q:a->b->Prop){s1:A}{s2:B}(k:0<=n)(c:R 0 s1 s2)(d:∀j s1 s2,0<=j->j<n->R j s1 s2->(∃t1 t2,b1 j s1=some (.inl t1)/\b2 j s2=some (.inl t2)/\R (j+1) t1 t2)\/∃o1 o2,b1 j s1=some (.inr o1)/\b2 j s2=some (.inr o2)/\Q o1 o2):
  (∃t1 t2,rngX 0 n b1 s1=some (.inl t1)/\rngX 0 n b2 s2=some (.inl t2)/\R n t1 t2)\/∃o1 o2,rngX 0 n b1 s1=some (.inr o1)/\rngX 0 n b2 s2=some (.inr o2)/\Q o1 o2:=by
 rcases rngN_sim R Q (n - 0).toNat 0 s1 s2 c (fun j s1 s2 e l=>d j s1 s2 e (by omega)) with⟨t1,t2,f,g,i⟩|h
 ·exact .inl ⟨t1,t2,f,g,by rwa [show(0:Int)+((n - 0).toNat:Int)=n by omega] at i⟩
 ·exact .inr h
def Loop_sim{e f:Type}{b1:A->Option (A⊕e)}{b2:B->Option (B⊕f)}(R:A->B->Prop)(Q:e->f->Prop)(μ:A->Nat)(g:∀s1 a,R s1 a->(∃t1 t2,b1 s1=some (.inl t1)/\b2 a=some (.inl t2)/\R t1 t2/\μ t1<μ s1)\/∃o1 o2,b1 s1=some (.inr o1)/\b2 a=some (.inr o2)/\Q o1 o2):
  ∀(k:Nat) (s1:A) (a:B),μ s1<k->R s1 a->∃o1 o2,Loop b1 s1=some o1/\Loop b2 a=some o2/\Q o1 o2
 |0,_,_,h,_=>by omega
 |k+1,s1,a,h,i=>by rcases g s1 a i with⟨t1,t2,b,c,d,o⟩|⟨o1,o2,b,c,d⟩;obtain⟨o1,o2,j,l,n⟩:=Loop_sim R Q μ g k t1 t2 (by omega) d;exact⟨o1,o2,by rw[av5,b];exact j,by rw[av5,c];exact l,n⟩;exact⟨o1,o2,by rw[av5,b],by rw[av5,c],d⟩
def SetN.small(h:SetN b y)(c:y<=24):small b:=fun x a=>by have:=h.2 x a;omega
def key1_eq(a:small b)(c:kw b<=1000):ad8 [b]=some (keyK [b]):=by refine key_eq (by simpa using a) ?_;have:=encS_len b;simp only[encK,jy,jp,iO,jH];omega
def SetN.key_inj(a:x<=24)(h:SetN b x)(c:SetN r x)(e:keyK [b]=keyK [r]):b=r:=by have:=keyK_inj (l:=[b]) (l':=[r]) (by simpa using h.small a) (by simpa using c.small a) e;simpa using this
def oAfter_eq(o:k8 a){op:Int}(q:0<=op)(u:op<kw a.operators)(K:SetN b a.facts):aE8 a b op=A7 a b op:=by
 obtain⟨st,w,L,E,F,r4,r5,M⟩:=aa3 o q u K;have N:=o.at q u;have hl:=N.l1;have hn:=o.n1;rw[L];unfold aE8;rw[ix_oo q u];simp only[oB];obtain⟨l,a1,O,a3,a4,P⟩:=u9 (body:=at4 a b (ooAt a op)) (n:=((ooAt a op).outcomes.length:Int)) (s:=[]) (fun j l=>Ord l/\(kw l:Int)<=j/\(∀y ∈ l,kw y<=24)/\∀y,y ∈ l↔∃k x,k<j/\ix (ooAt a op).outcomes k=some x/\efc a.facts b x=y) (by omega) ⟨.nil,by simp,by simp,fun y=>⟨fun h=>by(cases h),fun⟨k,x,p,d,_⟩=>by have:=(n8 d).1;omega⟩⟩ (fun j l v z ⟨Q,p2,H,U⟩=>by obtain⟨x,f,_⟩:=j7 (l:=(ooAt a op).outcomes) v z;unfold at4;rw[f];simp only[oB,effect_eq o];obtain⟨V,X,t,J,m4⟩:=insert_eq Q (by omega) (fun y A=>by have:=H y A;omega) (efc a.facts b x);rw[X];have s:=(al2 a.facts b x).len;refine⟨V,rfl,t,by omega,fun y A=> ?_,fun y=> ?_⟩;rcases(J y).1 A with rfl|h;omega;exact H y h;rw[J,U];constructor;rintro (rfl|⟨k,B,p,d⟩);exact⟨j,x,by omega,f,rfl⟩;exact⟨k,B,by omega,d⟩;rintro ⟨k,B,p,d,g⟩;by_cases ek:k=j;subst ek;rw[f] at d;cases d;exact .inl g.symm;exact .inr ⟨k,B,by omega,d,g⟩);have D:l=st:=Ord.ext O E fun y=>by rw[P,F];constructor;rintro ⟨k,x,_,d,g⟩;exact⟨x,l8 d,g⟩;rintro ⟨x,f,g⟩;obtain⟨k,k0,p,d⟩:=p8 f;exact⟨k,x,p,d,g⟩
 subst D;have hm:mkL 8 (kw l:Int) (0:Int)=some (iZ (kw l) 0):=by rw[mkL,if_pos (by omega)];simp
 rw[a1];simp only[oB,hm];have e:forR 0 ((ooAt a op).outcomes.length:Int) (at3 a b (ooAt a op) l) (iZ (kw l) 0)=some w:=by rw[<- M];refine forR_congr fun j c v z=> ?_;obtain⟨x,f,_⟩:=j7 (l:=(ooAt a op).outcomes) v z;obtain⟨i,e1,e2,e3⟩:=ax8 (t:=efc a.facts b x) E (by omega);obtain⟨r,g1,g2⟩:=place_eq l (efc a.facts b x);unfold at3 H9;rw[f,ix_map,f];simp only[oB,jU,effect_eq o,e1,g1];rcases g2 with⟨_,h⟩|⟨_,_,h,_⟩;exact absurd ((F _).2 ⟨x,l8 f,rfl⟩) h;rw[e3 r h]
 rw[e];rfl
def Ext(a b:LL):Prop:=∀k y,ix a k=some y->ix b k=some y
def Ext.refl(a:LL):Ext a a:=fun _ _ h=>h
def Ext.mem{b:LL}(h:Ext q b)(c:r ∈ q):r ∈ b:=by obtain⟨k,_,_,hk⟩:=p8 c;exact l8 (h k r hk)
def Ext.snoc{b:LL}(h:Ext q b)(z:Li):Ext q (b++[z]):=fun k y hk=>by obtain⟨c,d,g⟩:=n8 (h k y hk);rw[ix,if_pos c,jh (by omega),g]
def Ext.len{b:LL}(h:Ext q b):kw q<=kw b:=by by_cases c:kw q=0;omega;obtain⟨y,d,_⟩:=j7 (l:=q) (i:=(kw q:Int) - 1) (by omega) (by omega);have:=(n8 (h _ y d)).2.1;omega
structure Rc(t:b8)(l:LL)(m:List (ByteArray×Int))(ws:Li):Prop where
 set:∀s ∈ l,SetN s t.facts
 len:kw l<=2000
 map:∀s,SetN s t.facts->(0<Option.getD (mget m (keyK [s])) 0↔s ∈ l)
 wrd:ws=l.map fun s=>(wsN s:Int)
def Rc.has{m:List (ByteArray×Int)}(h:Rc a q m b)(f:SetN r a.facts):(wsN r:Int) ∈ b↔r ∈ q:=by rw[h.wrd,jd];constructor;rintro ⟨c,d,e⟩;have:c=r:=(h.set c d).word_inj f (by omega);exact this ▸ d;intro g;exact⟨r,g,rfl⟩
def Rc.put{t:b8}(d:t.facts<=24){m:List (ByteArray×Int)}(h:Rc t q m b)(c:SetN r t.facts)(f:kw q<2000):Rc t (q++[r]) (mset m (keyK [r]) 1) (b++[(wsN r:Int)]):=by refine⟨fun y a=> ?_,by simp;omega,fun y a=> ?_,by rw[h.wrd];simp⟩;rcases iP.1 a with g|g;exact h.set y g;simp only[iU] at g;subst g;exact c;rw[I1,iP,iU];by_cases e:keyK [y]=keyK [r];have:=SetN.key_inj d a c e;subst this;rw[if_pos rfl];simp;rw[if_neg e,h.map y a];constructor;exact .inl;rintro (g|g);exact g;exact absurd (by rw[g]) e
def reach4(H:k8 a){st:LL}{w:Li}(r:∀y ∈ st,SetN y a.facts){l0:LL}{o:List (ByteArray×Int)}(J:Rc a l0 o b):
  (∃p q,rngX 0 (kw st:Int) (J3 (st,w)) (l0,o)=some (.inl p)/\rngX 0 (kw st:Int) (Y9 2000 (st,w)) (l0,b)=some (.inl q)/\q.1=p.1/\Rc a p.1 p.2 q.2/\Ext l0 p.1/\∀y ∈ st,y ∈ p.1)\/∃o1 o2,rngX 0 (kw st:Int) (J3 (st,w)) (l0,o)=some (.inr o1)/\rngX 0 (kw st:Int) (Y9 2000 (st,w)) (l0,b)=some (.inr o2)/\o1=([],false)/\o2=([],false):=by
 have s:=H.n1
 rcases rngX_sim (b1:=J3 (st,w)) (b2:=Y9 2000 (st,w)) (n:=(kw st:Int)) (s1:=(l0,o)) (s2:=(l0,b)) (fun j p q=>q.1=p.1/\Rc a p.1 p.2 q.2/\Ext l0 p.1/\∀k y,k<j->ix st k=some y->y ∈ p.1) (fun o1 o2=>o1=([],false)/\o2=([],false)) (by omega) ⟨rfl,J,.refl _,fun k y k0 hk=>by have:=(n8 hk).1;omega⟩ (fun j ⟨l,m⟩ ⟨u,ws⟩ K L ⟨e,d,v,E⟩=>by
  dsimp only at e d v E;subst e;obtain⟨y,i,_⟩:=j7 (l:=st) K L;have f:=r y (l8 i);have M:=f.len;unfold J3 Y9;dsimp only;rw[i];simp only[oB];rw[key1_eq (f.small s) (by omega),word_eq f s];simp only[oB,has_eq];have g:∀{x:LL},Ext u x->y ∈ x->∀k z,k<j+1->ix st k=some z->z ∈ x:=fun A B k z hk D=>by by_cases N:k=j;subst N;rw[i] at D;cases D;exact B;exact A.mem (E k z (by omega) D)
  by_cases c:y ∈ u;rw[if_pos ((d.map y f).2 c),ifP ((d.has f).2 c)];exact .inl ⟨_,_,rfl,rfl,rfl,d,v,g (.refl _) c⟩;rw[if_neg (fun h=>c ((d.map y f).1 h)),ifN (fun h=>c ((d.has f).1 h))];have F:=d.len;by_cases G:(kw u:Int)=2000;rw[if_pos G,if_pos (by omega)];exact .inr ⟨_,_,rfl,rfl,rfl,rfl⟩;rw[if_neg G,if_neg (by omega),app,if_pos (by simp;omega)];simp only[oB];rw[app,if_pos (by rw[d.wrd];simp;omega)];exact .inl ⟨_,_,rfl,rfl,rfl,d.put s f (by omega),v.snoc _,g ((Ext.refl _).snoc _) (by simp)⟩) with⟨p,q,A,B,O,P,Q,U⟩|h
 ·refine .inl ⟨p,q,A,B,O,P,Q,fun y i=> ?_⟩
  obtain⟨k,_,V,hk⟩:=p8 i
  exact U k y V hk
 ·exact .inr h
def ClS(t:b8)(l:LL)(s:Li)(n:Int):Prop:=∀op:Int,0<=op->op<n->oCan t s op->∀x ∈ (ooAt t op).outcomes,efc t.facts s x ∈ l
def ClS.ext{c:LL}(h:ClS a q b y)(e:Ext q c):ClS a c b y:=fun op d f g x i=>e.mem (h op d f g x i)
def reach2(u:k8 a){l0:LL}{v:List (ByteArray×Int)}(J:Rc a l0 v r){s:Li}(K:ix l0 y=some s):
  (∃p q,rngX 0 (kw a.operators:Int) (J4 a y) (l0,v)=some (.inl p)/\rngX 0 (kw a.operators:Int) (X4 a 2000 y) (l0,r)=some (.inl q)/\q.1=p.1/\Rc a p.1 p.2 q.2/\Ext l0 p.1/\ClS a p.1 s (kw a.operators))\/∃o1 o2,rngX 0 (kw a.operators:Int) (J4 a y) (l0,v)=some (.inr o1)/\rngX 0 (kw a.operators:Int) (X4 a 2000 y) (l0,r)=some (.inr o2)/\o1=([],false)/\o2=([],false):=by
 have g:=J.set s (l8 K)
 exact rngX_sim (b1:=J4 a y) (b2:=X4 a 2000 y) (n:=(kw a.operators:Int)) (s1:=(l0,v)) (s2:=(l0,r)) (fun j p q=>q.1=p.1/\Rc a p.1 p.2 q.2/\Ext l0 p.1/\ClS a p.1 s j) (fun o1 o2=>o1=([],false)/\o2=([],false)) (by omega) ⟨rfl,J,.refl _,fun op d b=>by omega⟩ (fun j ⟨l,m⟩ ⟨P,ws⟩ z A ⟨e,E,B,L⟩=>by
  dsimp only at e E B L;subst e;unfold J4 X4;dsimp only;rw[B _ _ K];simp only[oB];rw[oCan_eq u z A g,oApplies_eq z A];simp only[oB,B9];have step:∀{F:LL},Ext P F->(oCan a s j->∀x ∈ (ooAt a j).outcomes,efc a.facts s x ∈ F)->ClS a F s (j+1):=fun i o op d b M x D=>by by_cases Q:op=j;subst Q;exact o M x D;exact i.mem (L op d (by omega) M x D)
  by_cases c:oCan a s j;rw[ifNN c,ifNN c,oAfter_eq u z A g];obtain⟨st,w,U,r2,N,_⟩:=aa3 u z A g;rw[U];simp only[oB];rcases reach4 u (st:=st) (w:=w) (fun f V=>by obtain⟨x,_,rfl⟩:=(N f).1 V;exact al2 _ _ _) E with⟨p,q,i,o,G,H,O,X⟩|⟨o1,o2,i,o,G,H⟩;rw[i,o];refine .inl ⟨p,q,rfl,rfl,G,H,fun k f hk=>O k f (B k f hk),step O fun _ x D=>X _ ((N _).2 ⟨x,D,rfl⟩)⟩;rw[i,o];exact .inr ⟨o1,o2,rfl,rfl,G,H⟩;rw[ifP c,ifP c];exact .inl ⟨_,_,rfl,rfl,rfl,E,B,step (.refl _) fun h=>absurd h c⟩)
structure Cl(t:b8)(l:LL):Prop where
 len:kw l<=2000
 set:∀s ∈ l,SetN s t.facts
 init:t.init ∈ l
 closed:∀s ∈ l,ClS t l s (kw t.operators)
def reach_full(J:k8 a):(∃g,G9 a=some (g,true)/\U3 a 2000=some (g,true)/\Cl a g/\Ord g/\∃l,Loop (af8 a 2000) ([a.init],[(wsN a.init:Int)],0)=some (.inl l)/\(kw g)<=kw l)\/(G9 a=some ([],false)/\U3 a 2000=some ([],false)):=by
 have K:=J.n1;have hi:=J.init;have ac:=hi.len;unfold G9 U3;rw[ad5 (by omega)];simp only[oB];rw[key1_eq (hi.small K) (by omega),word_eq hi K];simp only[oB];rw[app,if_pos (by simp)];simp only[oB,jv];have r0:Rc a [a.init] (mset ([]:List (ByteArray×Int)) (keyK [a.init]) 1) [(wsN a.init:Int)]:=by refine⟨by simpa using hi,by simp,fun s d=> ?_,rfl⟩;rw[I1];by_cases e:keyK [s]=keyK [a.init];rw[if_pos e,SetN.key_inj K d hi e];simp;rw[if_neg e];simp only[mget,iU,Option.getD_none];exact⟨fun h=>by omega,fun h=>absurd (by rw[h]) e⟩
 obtain⟨o1,o2,q1,q2,q3⟩:=Loop_sim (b1:=W4 a) (b2:=af8 a 2000) (fun p q=>q.1=p.1/\q.2.2=p.2.2/\Rc a p.1 p.2.1 q.2.1/\0<=p.2.2/\p.2.2<=p.1.length/\a.init ∈ p.1/\∀i s,i<p.2.2->ix p.1 i=some s->ClS a p.1 s (kw a.operators)) (fun o1 o2=>(∃l,o1=.inl l/\o2=.inl l/\Cl a l)\/(o1=.inr ([],false)/\o2=.inr ([],false))) (fun p=>(2000 - p.2.2).toNat) (fun⟨l,m,b⟩ ⟨f,ws,Q⟩ ⟨U,V,w,X,g3,L,M⟩=>by dsimp only at U V w X g3 L M;subst U V;have t:=w.len;unfold W4 af8;dsimp only;by_cases c:Q<kw f;rw[if_pos c,if_pos c];obtain⟨s,d,_⟩:=j7 (l:=f) X c;rcases reach2 J w d with⟨p,q,z,N,O,G,A,h6⟩|⟨o1,o2,z,N,O,G⟩;rw[z,N];have:=A.len;have:=G.len;simp only[oB];rw[p9 (by omega) (by omega)];refine .inl ⟨_,_,rfl,rfl,⟨O,rfl,G,by dsimp only;omega,by dsimp only;omega,A.mem L,fun i s' P o=> ?_⟩,by dsimp only;omega⟩;dsimp only at P o ⊢;by_cases ei:i=Q;subst ei;rw[A _ _ d] at o;cases o;exact h6;obtain⟨y,v,_⟩:=j7 (l:=f) (i:=i) (n8 o).1 (by omega);have B:=A _ _ v;rw[o] at B;cases B;exact(M i s' (by omega) v).ext A;rw[z,N];refine .inr ⟨_,_,rfl,rfl,.inr ⟨by rw[O],by rw[G]⟩⟩;rw[if_neg c,if_neg c];refine .inr ⟨_,_,rfl,rfl,.inl ⟨f,rfl,rfl,w.len,w.set,L,fun s d=> ?_⟩⟩;obtain⟨i,i0,i1,hi⟩:=p8 d;exact M i s (by omega) hi) _ ([a.init],mset ([]:List (ByteArray×Int)) (keyK [a.init]) 1,0) ([a.init],[(wsN a.init:Int)],0) (Nat.lt_succ_self _) ⟨rfl,rfl,r0,by simp,by simp,by simp,fun i s hi d=>by have:=(n8 d).1;dsimp only at hi;omega⟩;rw[q1,q2];rcases q3 with⟨l,rfl,rfl,D⟩|⟨rfl,rfl⟩;left;simp only[oB];have ad:=D.len;obtain⟨r,n1,n2,E,n4⟩:=normal_eq (l:=l) (by omega);rw[n1];obtain⟨f,a1,a2,a3,a4,a5⟩:=u9 (body:=ap2 l) (n:=(kw l:Int)) (s:=[]) (fun j f=>Ord f/\(kw f:Int)<=j/\(∀y ∈ f,kw y<=24)/\∀y,y ∈ f↔∃k,k<j/\ix l k=some y) (by omega) ⟨.nil,by simp,by simp,fun y=>⟨fun h=>by(cases h),fun⟨k,H,u⟩=>by have:=(n8 u).1;omega⟩⟩ (fun j f j0 j1 ⟨p1,p2,p3,p4⟩=>by obtain⟨s,d,_⟩:=j7 (l:=l) j0 j1;unfold ap2;rw[d];simp only[oB];obtain⟨l2,m1,m2,m3,m4⟩:=insert_eq p1 (by omega) (fun y v=>by have:=p3 y v;omega) s;rw[m1];have al:=(D.set s (l8 d)).len;refine⟨l2,rfl,m2,by omega,fun y v=> ?_,fun y=> ?_⟩;rcases(m3 y).1 v with rfl|h;omega;exact p3 y h;rw[m3,p4];constructor;rintro (rfl|⟨k,H,u⟩);exact⟨j,by omega,d⟩;exact⟨k,by omega,u⟩;rintro ⟨k,H,u⟩;by_cases ek:k=j;subst ek;rw[d] at u;cases u;exact .inl rfl;exact .inr ⟨k,by omega,u⟩);rw[a1];have:f=r:=Ord.ext a2 n2 fun y=>by rw[a5,E];constructor;rintro ⟨k,_,u⟩;exact l8 u;intro v;obtain⟨k,_,H,hk⟩:=p8 v;exact⟨k,H,hk⟩
 subst this;refine⟨f,rfl,rfl,⟨by omega,fun s d=>D.set s ((E s).1 d),(E _).2 D.init,fun s d op h0 z F x hx=>(E _).2 (D.closed s ((E s).1 d) op h0 z F x hx)⟩,a2,l,rfl,n4⟩;right;exact⟨rfl,rfl⟩
def explore_ok(b:k8 a):P2 a=(G9 a).bind fun r=>if r.2=true then some (r.1,⟨0,0⟩) else some ([],⟨10, -7⟩):=by obtain⟨f,c,_,d⟩:=aw7 a;rcases d with⟨rfl,_⟩|⟨_,e⟩;unfold P2;rw[c];simp only[oB];rw[if_neg (by simp)];congr 1;funext r;cases r.2<;>rfl;exact absurd b e
def explore_bad{f:m7}(b:J2 a=some f)(c:f.code ≠ 0):P2 a=some ([],f):=by unfold P2;rw[b];simp only[oB];rw[if_pos (fault_no c)]
def ad1[DecidableEq A]:∀{c S:List A},c.Nodup->(∀x ∈ c,x ∈ S)->kw c<=kw S
 |[],_,_,_=>jX _
 |a::c,S,h,d=>by
  obtain⟨i,j⟩:=List.nodup_cons.1 h;have f:=d a (by simp);have:=ad1 (c:=c) (S:=S.erase a) j fun x g=>by have b:x ≠ a:=fun e=>i (e ▸ g);exact(List.mem_erase_of_ne b).2 (d x (iK _ g))
  rw[List.length_erase_of_mem f] at this;have:0<kw S:=jY f;simp only[iQ];omega
def Dn(G L:A->Prop)(a:A->List A):Nat->A->Prop
 |0,s=>G s
 |k+1,s=>G s\/(L s/\∀y ∈ a s,Dn G L a k y)
def Dn.goal{k:Nat}{s:A}(h:Q s):Dn Q V X k s:=by
 cases k with
 |zero=>exact h
 |succ k=>exact .inl h
def Dn.succ:∀{k:Nat} {s:A},Dn Q V X k s->Dn Q V X (k+1) s
 |0,s,h=>.inl h
 |k+1,s,h=>by rcases h with h|⟨a,b⟩;exact .inl h;exact .inr ⟨a,fun y c=>(b y c).succ⟩
def Dn.mono(h:Dn Q V X n M)(a:n<=k):Dn Q V X k M:=by
 induction a with
 |refl=>exact h
 |step _ b=>exact b.succ
def Ht(G L:A->Prop)(a:A->List A)(k:Nat)(s:A):Prop:=Dn G L a k s/\∀j,j<k->¬ Dn G L a j s
def Ht.unique(h:Ht Q V X n M)(a:Ht Q V X k M):n=k:=by rcases Nat.lt_trichotomy n k with c|c|c;exact absurd h.1 (a.2 n c);exact c;exact absurd a.1 (h.2 k c)
def Ht.of_dn:∀{k:Nat} {s:A},Dn Q V X k s->∃m,m<=k/\Ht Q V X m s
 |0,s,h=>⟨0,iJ _,h,fun j a=>by omega⟩
 |k+1,s,h=>by by_cases c:Dn Q V X k s;obtain⟨m,e,b⟩:=Ht.of_dn c;exact⟨m,by omega,b⟩;exact⟨k+1,iJ _,h,fun j a d=>c (d.mono (by omega))⟩
def Ht.zero(h:Q M):Ht Q V X 0 M:=⟨h,fun j a=>by omega⟩
def Ht.goal{k:Nat}{s:A}(h:Ht Q V X k s)(a:Q s):k=0:=h.unique (.zero a)
def Ht.step{α:Type}{G L:α->Prop}{nx:α->List α}{k:Nat}{s:α}(h:Ht G L nx k s)(f:¬ G s)(c:∀s,L s->nx s ≠ []):∃m,k=m+1/\L s/\(∀y ∈ nx s,∃j,j<=m/\Ht G L nx j y)/\∃y ∈ nx s,Ht G L nx m y:=by
 cases k with
 |zero=>exact absurd h.1 f
 |succ m=>
  rcases h.1 with g|⟨d,e⟩
  ·exact absurd g f
  ·refine⟨m,rfl,d,fun y a=>Ht.of_dn (e y a),?_⟩
   cases m with
   |zero=>
    obtain⟨y,a⟩:=List.exists_mem_of_ne_nil _ (c s d)
    exact⟨y,a,e y a,fun j i=>by omega⟩
   |succ m=>
    have l:=h.2 (m+1) (by omega)
    have:∃y ∈ nx s,¬ Dn G L nx m y:=js fun n=>l (.inr ⟨d,fun y a=>js fun b=>n ⟨y,a,b⟩⟩)
    obtain⟨y,a,b⟩:=this
    exact⟨y,a,e y a,fun j i o=>b (o.mono (by omega))⟩
def l9(t:b8)(s:Li):Prop:=∀x ∈ t.goal,x ∈ s
noncomputable def LiveS(p:List f9)(s:Li):Prop:=0<=chO p s
noncomputable def nxS(t:b8)(p:List f9)(s:Li):LL:=(ooAt t (chO p s)).outcomes.map (efc t.facts s)
inductive Rch(t:b8)(p:List f9):Li->Prop
 |init:Rch t p t.init
 |step {s y:Li}:Rch t p s->¬ l9 t s->LiveS p s->y ∈ nxS t p s->Rch t p y
def chO_mem(h:0<=chO s b):∃c ∈ s,c.state=b/\chO s b=c.operator:=by
 obtain⟨r,a,d⟩:=aE9 s b;have e:chO s b=r:=by rw[chO,a];rfl
 rw[e] at h ⊢;rcases d with⟨rfl,_⟩|⟨c,f,g,i⟩;omega;exact⟨c,f,g,i⟩
def Rch.set(b:k8 a){p:List f9}{s:Li}(h:Rch a p s):SetN s a.facts:=by
 cases h with
 |init=>exact b.init
 |step _ _ _ c=>
  obtain⟨x,_,rfl⟩:=jd.1 c
  exact al2 _ _ _
noncomputable def candK(t:b8)(p:List f9):LL:=t.init::p.flatMap fun c=>(ooAt t c.operator).outcomes.map (efc t.facts c.state)
def flat_len{f:A->List B}{n:Nat}:∀{l:List A},(∀a ∈ l,(f a).length<=n)->(l.flatMap f).length<=kw l * n
 |[],_=>by simp
 |a::l,h=>by have d:=h a (by simp);have e:=flat_len (l:=l) fun b c=>h b (iK _ c);rw[jy,iO,iQ,Nat.succ_mul];omega
def candK_len(b:k8 a)(hp:PolOk a s):(candK a s).length<=801:=by
 have h:=flat_len (f:=fun c:f9=>(ooAt a c.operator).outcomes.map (efc a.facts c.state)) (n:=4) (l:=s) fun c d=>by have:=hp.op c d;have:=(b.at this.1 this.2).l1;simpa using this
 have:=hp.len;have e:kw s * 4<=200 * 4:=kc _ this;unfold candK;rw[iQ];omega
def Rch.cand(h:Rch a s b):b ∈ candK a s:=by
 cases h with
 |init=>exact jL ..
 |@step b y _ _ e d=>
  obtain⟨c,f,g,i⟩:=chO_mem e
  refine iK _ (jz.2 ⟨c,f,?_⟩)
  unfold nxS at d
  rw[i] at d
  rw[g]
  exact d
def rch_len(c:k8 a)(hp:PolOk a s)(d:q.Nodup)(h:∀b ∈ q,Rch a s b):kw q<=801:=
 Nat.le_trans (ad1 d fun b e=>(h b e).cand) (candK_len c hp)
def Ord.nodup(h:Ord q):q.Nodup:=kf.imp (fun {a b:Li} (c:llt a b) (e:a=b)=>O5 a (by rw[<- e] at c;exact c)) h
structure Vis(t:b8)(p:List f9)(l:LL):Prop where
 ord:Ord l
 mem:∀s,s ∈ l↔Rch t p s
def Vis.closed(h:Vis a s q):∀b ∈ q,¬ l9 a b->LiveS s b->∀y ∈ nxS a s b,y ∈ q:=fun b c d e y f=>(h.mem y).2 (.step ((h.mem b).1 c) d e f)
def Vis.len{t:b8}(a:k8 t){p:List f9}(hp:PolOk t p){l:LL}(h:Vis t p l):kw l<=801:=rch_len a hp h.ord.nodup fun s b=>(h.mem s).1 b
def af1(a:Ord q)(c:kw q<=500000)(hi:ix q x=some b):G3 q b=some x:=by unfold G3;obtain⟨k,d,_,e⟩:=ax8 (t:=b) a c;rw[d,e x hi];rfl
noncomputable def nxC(t:b8)(a:Li->Int)(s:Li):LL:=(ooAt t (a s)).outcomes.map (efc t.facts s)
inductive RchC(t:b8)(ch:Li->Int):Li->Prop
 |init:RchC t ch t.init
 |step {s y:Li} (h:RchC t ch s) (hg:¬ l9 t s) (hy:y ∈ nxC t ch s):RchC t ch y
def ChOk(t:b8)(a:Li->Int):Prop:=∀s,RchC t a s->¬ l9 t s->(0<=a s/\a s<kw t.operators)/\oCan t s (a s)
def RchC.set(b:k8 a){s:Li}(h:RchC a v s):SetN s a.facts:=by
 cases h with
 |init=>exact b.init
 |step _ _ c=>obtain⟨x,_,rfl⟩:=jd.1 c;exact al2 _ _ _
structure PolB(t:b8)(ch:Li->Int)(p:List f9):Prop where
 ord:Ord (p.map f9.state)
 mem:∀s,(∃c ∈ p,c.state=s)↔RchC t ch s/\¬ l9 t s
 op:∀c ∈ p,c.operator=ch c.state
def PolB.rch(h:PolB a v s){c:f9}(b:c ∈ s):RchC a v c.state/\¬ l9 a c.state:=(h.mem _).1 ⟨c,b,rfl⟩
def PolB.pol{t:b8}(b:k8 t)(hk:ChOk t v)(h:PolB t v s)(d:kw s<=200):PolOk t s:=
 ⟨d,h.ord,fun c a=>(h.rch a).1.set b,fun c a=>by rw[h.op c a];exact(hk _ (h.rch a).1 (h.rch a).2).1,fun c a=>by rw[h.op c a];exact(hk _ (h.rch a).1 (h.rch a).2).2⟩
def chO_ch(b:∀c ∈ s,c.operator=v c.state)(a:Li):(chO s a= -1/\∀c ∈ s,c.state ≠ a)\/((∃c ∈ s,c.state=a)/\chO s a=v a):=by
 obtain⟨r,e,f⟩:=aE9 s a;have:chO s a=r:=by rw[chO,e];rfl
 rw[this];rcases f with⟨rfl,h⟩|⟨c,d,rfl,rfl⟩;exact .inl ⟨rfl,h⟩;exact .inr ⟨⟨c,d,rfl⟩,b c d⟩
def PolB.live(h:PolB a v s)(d:RchC a v b)(f:¬ l9 a b):chO s b=v b:=by rcases chO_ch h.op b with⟨_,e⟩|⟨_,e⟩;obtain⟨c,g,i⟩:=(h.mem b).2 ⟨d,f⟩;exact absurd i (e c g);exact e
/-! ### One choice put in its place -/
def mem_takeN(h:M ∈ P.take n):∃k:Int,0<=k/\k<n/\ix P k=some M:=by obtain⟨k,hk⟩:=kd h;rw[List.getElem?_take] at hk;split at hk;exact⟨k,by omega,by omega,by rw[v8];exact hk⟩;cases hk
def mem_dropN(h:M ∈ P.drop n):∃k:Int,(n:Int)<=k/\ix P k=some M:=by obtain⟨k,hk⟩:=kd h;rw[List.getElem?_drop] at hk;exact⟨(n+k:Nat),by omega,by rw[v8];exact hk⟩
def ins_ord{c:f9}(o:Ord (s.map f9.state))(w:0<=y)(f:∀k a,0<=k->k<y->ix s k=some a->llt a.state c.state)(g:∀k a,y<=k->ix s k=some a->¬ llt a.state c.state)(j:∀a ∈ s,a.state ≠ c.state):
  Ord ((s.take y.toNat++c::s.drop y.toNat).map f9.state):=by
 have a1:∀a ∈ s.take y.toNat,llt a.state c.state:=fun a e=>by obtain⟨k,r,t,hk⟩:=mem_takeN e;exact f k a r (by omega) hk
 have q:∀a ∈ s.drop y.toNat,llt c.state a.state:=fun a e=>by obtain⟨k,t,hk⟩:=mem_dropN e;rcases T7 a.state c.state with h|h|h;exact absurd h (g k a (by omega) hk);exact absurd h (j a (l8 hk));exact h
 have s1:Ord ((s.take y.toNat).map f9.state):=by rw[List.map_take];exact kf.sublist (kn _ _) o
 have u:Ord ((s.drop y.toNat).map f9.state):=by rw[List.map_drop];exact kf.sublist (ko _ _) o
 rw[List.map_append,List.map_cons]
 refine jG.2 ⟨s1,jm.2 ⟨fun x l=> ?_,u⟩,fun x l d n=> ?_⟩
 ·obtain⟨a,e,rfl⟩:=jd.1 l
  exact q a e
 ·obtain⟨a,e,rfl⟩:=jd.1 l
  rcases jf.1 n with rfl|n
  ·exact a1 a e
  ·obtain⟨b,v,rfl⟩:=jd.1 n
   exact N1 (a1 a e) (q b v)
def ins_mem{x:A}:x ∈ P.take n++M::P.drop n↔x=M\/x ∈ P:=by
 have:x ∈ P↔x ∈ P.take n\/x ∈ P.drop n:=by rw[<- iP,jC]
 rw[this];simp only[iP,jf];constructor;rintro (h|h|h);exact .inr (.inl h);exact .inl h;exact .inr (.inr h);rintro (h|h|h);exact .inr (.inl h);exact .inl h;exact .inr (.inr h)
def ins_len(h:n<=kw P):(P.take n++M::P.drop n).length=kw P+1:=by simp;omega
structure PolP(t:b8)(ch:Li->Int)(p:List f9):Prop where
 pol:PolOk t p
 of:∀c ∈ p,(RchC t ch c.state/\¬ l9 t c.state)/\c.operator=ch c.state
def PolP.op{t:b8}(h:PolP t v s):∀c ∈ s,c.operator=v c.state:=fun c a=>(h.of c a).2
def PolP.ins(r:k8 a)(hk:ChOk a v)(h:PolP a v s)(e:RchC a v b)(f:¬ l9 a b)(u:0<=x)(o:x<=kw s)(g:∀k d,0<=k->k<x->ix s k=some d->llt d.state b)(j:∀k d,x<=k->ix s k=some d->¬ llt d.state b)(l:∀d ∈ s,d.state ≠ b)(y:kw s<200):
  PolP a v (s.take x.toNat++⟨b,v b⟩::s.drop x.toNat):=by
 have key:∀{q:f9->Prop},q ⟨b,v b⟩->(∀c ∈ s,q c)->∀c ∈ s.take x.toNat++⟨b,v b⟩::s.drop x.toNat,q c:=fun o w c n=>by rcases ins_mem.1 n with rfl|n;exact o;exact w c n
 exact⟨⟨by rw[ins_len (by omega)];omega,ins_ord h.pol.ord u g j l,key (e.set r) h.pol.set,key (hk b e f).1 h.pol.op,key (hk b e f).2 h.pol.can⟩,key ⟨⟨e,f⟩,rfl⟩ h.of⟩
def states_nodup(h:Ord (s.map f9.state))(c:∀a ∈ s,a.state ≠ b):(b::s.map f9.state).Nodup:=
 List.nodup_cons.2 ⟨fun d=>by obtain⟨a,f,e⟩:=jd.1 d;exact c a f e,h.nodup⟩
structure BI(t:b8)(ch:Li->Int)(q:LL)(p:List f9)(a:Int):Prop where
 a0:0<=a
 a1:a<=kw q
 pp:PolP t ch p
 qr:∀s ∈ q,RchC t ch s
 qi:t.init ∈ q
 px:∀c ∈ p,∀y ∈ nxC t ch c.state,y ∈ q
 dn:∀k s,k<a->ix q k=some s->l9 t s\/∃c ∈ p,c.state=s
 ql:kw q<=1+4 * (kw p)
def build_prog(F:k8 a)(hk:ChOk a v){choose:Li->Option Int}(L:∀s,RchC a v s->¬ l9 a s->choose s=some (v s)):
  ∃r,ab8 a choose=some r/\((r=([],false)/\∃l:LL,l.Nodup/\(∀s ∈ l,RchC a v s/\¬ l9 a s)/\(kw l)=201)\/∃p,r=(p,true)/\PolB a v p/\(kw p)<=200):=by
 have hn:=F.n1
 obtain⟨o,o1,o2⟩:=E8 (body:=af9 a choose) (fun x=>BI a v x.1 x.2.1 x.2.2) (fun o=>(o=.inr ([],false)/\∃l:LL,l.Nodup/\(∀s ∈ l,RchC a v s/\¬ l9 a s)/\(kw l)=201)\/∃p,o=.inl p/\PolB a v p/\(kw p)<=200) (fun x=>(1000 - x.2.2).toNat)
  (s:=([a.init],[],0)) ⟨by dsimp only;omega,by simp,⟨⟨by simp,.nil,by simp,by simp,by simp⟩,by simp⟩,fun s j=>by rw[iU.1 j];exact .init,by simp,by simp,fun k s hk j=>by have:=(n8 j).1;dsimp only at hk;omega,by simp⟩ (fun⟨q,p,b⟩ h=>by
   have a0:0<=b:=h.a0;have a1:b<=kw q:=h.a1;have ql:kw q<=1+4 * (kw p):=h.ql;have pp:PolP a v p:=h.pp;have qr:∀s ∈ q,RchC a v s:=h.qr;have qi:a.init ∈ q:=h.qi;have px:∀c ∈ p,∀y ∈ nxC a v c.state,y ∈ q:=h.px;have dn:∀k s,k<b->ix q k=some s->l9 a s\/∃c ∈ p,c.state=s:=h.dn;have pl:kw p<=200:=pp.pol.len;clear h;dsimp only;unfold af9;dsimp only;by_cases c:b<kw q;rw[if_pos c];obtain⟨s,j,_⟩:=j7 (l:=q) a0 c;have B:=qr s (l8 j);have u:=B.set F;have aa:=u.len;rw[j];simp only[oB,aa0 u.1 F.goal.1 (show (kw s)<=1000000 by omega),(chosen_chO pp.pol s).1];have key:(if dec (∀x ∈ a.goal,x ∈ s)=true then some true else some (decide (0<=chO p s)))=some (dec (l9 a s\/0<=chO p s)):=by by_cases f:l9 a s;rw[ifP (p:=∀x ∈ a.goal,x ∈ s) f,i9 (.inl f)];rw[ifN (p:=∀x ∈ a.goal,x ∈ s) f,L8];congr 1;exact x7 ⟨.inr,fun h=>h.resolve_left f⟩
   rw[key];simp only[oB];have O:w64 (b+1)=b+1:=p9 (by omega) (by omega);by_cases G:l9 a s\/0<=chO p s;rw[ifP G];unfold Q8;dsimp only;refine .inl ⟨(q,p,b+1),by rw[O],⟨by dsimp only;omega,by dsimp only;omega,pp,qr,qi,px,fun(k:Int) z D d=> ?_,ql⟩,by dsimp only;omega⟩;dsimp only at D d;by_cases e:k=b;subst e;rw[j] at d;cases d;refine G.imp id fun n=> ?_;rcases chO_ch pp.op s with⟨e,_⟩|⟨e,_⟩;omega;exact e;exact dn k z (by omega) d;rw[ifN G];have f:¬ l9 a s:=fun g=>G (.inl g);have H:∀c ∈ p,c.state ≠ s:=by rcases chO_ch pp.op s with⟨_,e⟩|⟨_,e⟩;exact e;exact absurd (.inr (by rw[e];exact(hk s B f).1.1)) G
   by_cases cl:(kw p:Int)=200;rw[if_pos cl];refine .inr ⟨_,rfl,.inl ⟨rfl,s::p.map f9.state,states_nodup pp.pol.ord H,fun z d=> ?_,by simp;omega⟩⟩;rcases jf.1 d with rfl|d;exact⟨B,f⟩;obtain⟨c,n,rfl⟩:=jd.1 d;exact(pp.of c n).1;rw[if_neg cl,L s B f];simp only[oB];have P:=hk s B f;obtain⟨i,i1,Q,_,U,i3,i4⟩:=bsf_full (key:=f9.state) (xs:=p) (t:=s) (cmp:=N7) pp.pol.ord (by omega) (fun b=>by unfold N7;rw[au6];rfl);have hb:m9 p s N7=some (i,dec (∃b ∈ p,b.state=s)):=i1;rw[hb];simp only[oB,ad5 (show (kw s)<=1000000 by omega)];rw[insL,if_pos ⟨Q,U,by omega⟩];obtain⟨st,w,r1,_,r3,r4,_⟩:=aa3 F P.1.1 P.1.2 u;simp only[oB,r1];rw[app,if_pos (by omega)];simp only[oB];unfold Q8;dsimp only;have J:∀y,y ∈ st↔y ∈ nxC a v s:=fun y=>by rw[r3,nxC,jd]
   have M:=pp.ins F hk B f Q U i3 i4 H (by omega);refine .inl ⟨(q++st,p.take i.toNat++⟨s,v s⟩::p.drop i.toNat,b+1),by rw[O],⟨by dsimp only;omega,by simp;omega,M,fun z d=> ?_,ke _ qi,fun c n y K=> ?_,fun k z D d=> ?_,?_⟩,by dsimp only;omega⟩;rcases iP.1 d with d|d;exact qr z d;exact .step B f ((J z).1 d);rcases ins_mem.1 n with rfl|n;exact List.mem_append_right _ ((J y).2 K);exact ke _ (px c n y K);dsimp only at D d;obtain⟨z',A,_⟩:=j7 (l:=q) (i:=k) (n8 d).1 (by omega);have e:z'=z:=by obtain⟨V,_,X⟩:=n8 d;obtain⟨_,t,g2⟩:=n8 A;rw[jh (by omega),g2] at X;exact Option.some.inj X
   subst e;by_cases e:k=b;subst e;rw[j] at A;cases A;exact .inr ⟨⟨s,v s⟩,ins_mem.2 (.inl rfl),rfl⟩;refine(dn k _ (by omega) A).imp id fun⟨c,n,e⟩=>⟨c,ins_mem.2 (.inr n),e⟩;dsimp only;rw[iO,ins_len (by omega)];omega;rw[if_neg c];have all:∀s,RchC a v s->s ∈ q:=fun s j=>by
    induction j with
    |init=>exact qi
    |@step s y _ f K ih=>
     obtain⟨k,V,t,E⟩:=p8 ih
     rcases dn k s (by omega) E with g|⟨c,n,rfl⟩
     ·exact absurd g f
     ·exact px c n y K
   refine .inr ⟨_,rfl,.inr ⟨p,rfl,⟨pp.pol.ord,fun s=>⟨fun⟨c,n,e⟩=>e ▸ (pp.of c n).1,fun⟨j,f⟩=> ?_⟩,pp.op⟩,pl⟩⟩;obtain⟨k,V,t,E⟩:=p8 (all s j);exact(dn k s (by omega) E).resolve_left f)
 unfold ab8
 rw[o1]
 rcases o2 with⟨rfl,h⟩|⟨p,rfl,h⟩
 ·exact⟨_,rfl,.inl ⟨rfl,h⟩⟩
 ·exact⟨_,rfl,.inr ⟨p,rfl,h⟩⟩
def smN_upd{f:Nat->Int}(hi:k<n)(h:∀a,a<n->a ≠ k->g a=f a):smN n g=smN n f+(g k - f k):=by
 have:smN n g=smN n fun a=>f a+if a=k then g k - f k else 0:=o8 fun a hk=>by by_cases e:a=k;subst e;rw[if_pos rfl];omega;rw[if_neg e,h a hk e];omega
 rw[this,Q3,W8 (f:=fun a=>if a=k then g k - f k else 0) hi fun a _ hk=>if_neg hk,if_pos rfl]
def wtj(w:Li)(j:Nat):Int:=(w[j]?).getD 0
def ap9{w:Li}{i:Nat}(h:i<kw w):ix w (i:Int)=some (wtj w i):=by
 rw[v8,iI h];unfold wtj;rw[iI h];rfl
def wtj_set{w:Li}{i:Nat}(h:i<kw w)(v:Int)(k:Nat):wtj (w.set i v) k=if k=i then v else wtj w k:=by unfold wtj;rw[jj];by_cases e:k=i;subst e;rw[if_pos rfl,if_pos h,if_pos rfl];rfl;rw[if_neg (fun q=>e q.symm),if_neg e]
structure Wok(t:b8)(s:Li)(op:Int)(st:LL)(w:Li):Prop where
 eq:A7 t s op=some (st,w)
 ord:Ord st
 mem:∀y,y ∈ st↔∃x ∈ (ooAt t op).outcomes,efc t.facts s x=y
 s4:kw st<=4
 len:kw w=kw st
 pos:∀k,k<kw st->1<=wtj w k
 sum:smN (kw st) (wtj w)<=24
def results_ok(z:k8 a){op:Int}(A:0<=op)(B:op<kw a.operators)(K:SetN b a.facts):∃st w,Wok a b op st w:=by
 have D:=z.at A B;have hl:=D.l1;obtain⟨st,w,L,E,u,M,N,O⟩:=aa3 z A B K;obtain⟨w',v,k2,k3,k4,P⟩:=u9 (body:=H9 ((ooAt a op).outcomes.map (efc a.facts b)) st (ooAt a op)) (n:=((ooAt a op).outcomes.length:Int)) (s:=iZ (kw st) 0)
  (fun j c=>kw c=kw st/\(∀k,0<=wtj c k)/\smN (kw st) (wtj c)<=6 * j/\∀(i:Int) x,0<=i->i<j->ix (ooAt a op).outcomes i=some x->∀k:Nat,st[k]? =some (efc a.facts b x)->1<=wtj c k) (by omega)
  ⟨by simp,fun k=>by unfold wtj;rw[jx];split<;>simp,by
   rw[al5 fun k _=>by unfold wtj;rw[jx];split<;>rfl];omega,fun i x r hi=>by omega⟩ (fun j c Q U ⟨V,o,p3,X⟩=>by
   obtain⟨x,g,gx⟩:=j7 (l:=(ooAt a op).outcomes) Q U;have p:efc a.facts b x ∈ st:=(u _).2 ⟨x,l8 g,rfl⟩;obtain⟨i,t,e2,G⟩:=ax8 (t:=efc a.facts b x) E (by omega);obtain⟨k,s,v,hk⟩:=p8 p;have:=G k hk;subst this;obtain⟨m,rfl⟩:=iS s;have H:m<kw st:=by omega
   have hz:=ap9 (w:=c) (i:=m) (by omega);have hw:=(D.xs x (l8 g)).2;unfold xWt at hw;have aa:wtj c m<=smN (kw st) (wtj c):=by have:=ad7 (f:=wtj c) o (jX m) H;simpa[smN] using this
   have y:w64 (wtj c m+x.weight)=wtj c m+x.weight:=p9 (by have:=o m;omega) (by omega);unfold H9;rw[g,ix_map,g];simp only[oB,jU,t,hz,y,iL];have d:=wtj_set (w:=c) (i:=m) (by omega) (wtj c m+x.weight);refine⟨_,rfl,by rw[lS];exact V,fun k=> ?_,?_,fun J x' r ac h k q=> ?_⟩;rw[d];have:=o k;have:=o m;split<;>omega;rw[smN_upd H (f:=wtj c) (fun k _ hk=>by rw[d,if_neg hk]),d,if_pos rfl];omega;rw[d];by_cases e:k=m;subst e;rw[if_pos rfl];have:=o k;omega;rw[if_neg e];by_cases f:J=j;subst f;rw[g] at h;cases h;have h5:ix st (k:Int)=some (efc a.facts b x):=by rw[v8];exact q
   have:=G _ h5;omega;exact X J x' r (by omega) h k q)
 rw[O] at v;cases v;refine⟨st,w,L,E,u,M,N,fun k hk=> ?_,by omega⟩;obtain⟨x,g,e⟩:=(u st[k]).1 (ji hk);obtain⟨i,r,i1,hi⟩:=p8 g;exact P i x r i1 hi k (by rw[iI hk,e])
def twF(st:LL)(w:Li)(J:Nat)(y:Li):Int:=smN J fun j=>if st[j]? =some y then wtj w j else 0
structure Sys(t:b8)(S:LL)(op:Nat->Int)(st:Nat->LL)(w:Nat->Li):Prop where
 ord:Ord S
 n5:kw S<=5
 set:∀s ∈ S,SetN s t.facts
 ng:∀s ∈ S,¬ l9 t s
 rng:∀i,i<kw S->0<=op i/\op i<kw t.operators
 res:∀i s,S[i]? =some s->Wok t s (op i) (st i) (w i)
 cl:∀i,i<kw S->∀y ∈ st i,l9 t y\/y ∈ S
def WF(st:Nat->LL)(w:Nat->Li)(i:Nat):Int:=smN (st i).length (wtj (w i))
def wF(S:LL)(st:Nat->LL)(w:Nat->Li):Mtx:=fun i k=>match S[k]? with|some y=>twF (st i) (w i) (st i).length y|none=>0
def cF(t:b8)(op:Nat->Int)(i:Nat):Int:=(ooAt t (op i)).cost
def ao8{op:Nat->Int}(h:Sys a q op H L)(hi:n<kw q)(j:Nat):0<=wtj (L n) j:=by have b:=h.res n q[n] (iI hi);by_cases e:j<(H n).length;have:=b.pos j e;omega;unfold wtj;rw[jB (by rw[b.len];omega)];simp
def twF_nn{op:Nat->Int}(h:Sys a q op H L)(hi:n<kw q)(J:Nat)(y:Li):0<=twF (H n) (L n) J y:=ae0 fun j _=>by split;exact ao8 h hi j;exact iR _
def twF_le{op:Nat->Int}(h:Sys a q op H L)(hi:n<kw q){J:Nat}(b:J<=(H n).length)(y:Li):twF (H n) (L n) J y<=24:=by
 have c:twF (H n) (L n) J y<=smN J (wtj (L n)):=ac8 fun j _=>by split;exact iR _;exact ao8 h hi j
 have d:=aa1 (f:=wtj (L n)) (ao8 h hi) b;have e:=(h.res n q[n] (iI hi)).sum;omega
def rowV(S:LL)(st:LL)(w:Li)(c:Int)(i J k:Nat):Int:=
 if k=kw S then smN J (wtj w) * c else(if k=i then smN J (wtj w) else 0) - match S[k]? with|some y=>twF st w J y|none=>0
def eq_row{S:LL}{op:Nat->Int}(t:k8 a)(h:Sys a S op H L)(hi:k<kw S):
  ∃c:Li,forR 0 ((H k).length:Int) (V8 a S k (op k) (H k,L k)) (iZ (kw S+1) 0)=some c/\(kw c)=kw S+1/\∀b,b<=kw S->wtj c b=rowV S (H k) (L k) (cF a op k) k (H k).length b:=by
 have E:=h.res k S[k] (iI hi)
 have o:=h.rng k hi
 have F:=(t.at o.1 o.2)
 have G:=F.c0;have w:=F.c1
 have an:=h.n5
 have ao:=E.s4
 have ad:=E.sum
 obtain⟨c,k1,k2,k3⟩:=u9 (body:=V8 a S k (op k) (H k,L k)) (n:=((H k).length:Int)) (s:=iZ (kw S+1) 0)
  (fun q c=>kw c=kw S+1/\∀b,b<=kw S->wtj c b=rowV S (H k) (L k) (cF a op k) k q.toNat b) (by omega)
  ⟨by simp,fun b hk=>by
   unfold rowV wtj;rw[jx];simp only[Int.toNat_zero,smN,twF,Int.zero_mul,ite_self];split<;>split<;>(try split)<;>simp⟩ (fun q c q0 q1 ⟨p1,B⟩=>by
   obtain⟨J,rfl⟩:=iS q0;have D:J<(H k).length:=by omega
   rw[iL] at B;have hx:ix (H k) (J:Int)=some (H k)[J]:=by rw[v8];exact iI D
   have hw:=ap9 (w:=L k) (i:=J) (by rw[E.len];exact D);have av:=E.pos J D;have ci:=ap9 (w:=c) (i:=k) (by omega);have K:smN (J+1) (wtj (L k))=smN J (wtj (L k))+wtj (L k) J:=rfl;have b0:0<=smN J (wtj (L k)):=ae0 fun j _=>ao8 h hi j;have b1:=aa1 (f:=wtj (L k)) (ao8 h hi) (show J+1<=(H k).length by omega);have sc:∀x:Int,0<=x->x<=24->0<=x * (ooAt a (op k)).cost/\x * (ooAt a (op k)).cost<=2400:=fun x h0 h1=>⟨jg h0 G,by have:=jI h1 w G (by omega:(0:Int)<=24);omega⟩;have i:=B k (by omega);unfold rowV at i;rw[if_neg (by omega),if_pos rfl,iI hi] at i;dsimp only at i;have t1:=twF_nn h hi J S[k];have t2:=twF_le h hi (J:=J) (by omega) S[k];have f1:w64 (wtj c k+wtj (L k) J)=wtj c k+wtj (L k) J:=p9 (by omega) (by omega);have s1:=wtj_set (w:=c) (i:=k) (by omega) (wtj c k+wtj (L k) J);have cn:=ap9 (w:=c.set k (wtj c k+wtj (L k) J)) (i:=kw S) (by rw[lS];omega);rw[s1,if_neg (by omega)] at cn;have vn:=B (kw S) (iJ _);unfold rowV at vn;rw[if_pos rfl] at vn;have m1:=sc (wtj (L k) J) (by omega) (by omega);have m2:=sc (smN J (wtj (L k))) b0 (by omega);have M:wtj c (kw S)=smN J (wtj (L k)) * (ooAt a (op k)).cost:=vn;have f2:w64 (wtj (L k) J * (ooAt a (op k)).cost)=wtj (L k) J * (ooAt a (op k)).cost:=p9 (by omega) (by omega);have f3:w64 (wtj c (kw S)+wtj (L k) J * (ooAt a (op k)).cost)=wtj c (kw S)+wtj (L k) J * (ooAt a (op k)).cost:=p9 (by omega) (by omega);generalize r:c.set k (wtj c k+wtj (L k) J)=c1 at *;have l1:kw c1=kw S+1:=by rw[<- r,lS];exact p1
   have U:=wtj_set (w:=c1) (i:=kw S) (by omega) (wtj c (kw S)+wtj (L k) J * (ooAt a (op k)).cost);generalize u:c1.set (kw S) (wtj c (kw S)+wtj (L k) J * (ooAt a (op k)).cost)=z at *;have l2:kw z=kw S+1:=by rw[<- u,lS];exact l1
   have v:SetN (H k)[J] a.facts:=by obtain⟨x,_,e⟩:=(E.mem (H k)[J]).1 (ji D);rw[<- e];exact al2 _ _ _
   have N:w9 (H k)[J] a.goal=some (dec (l9 a (H k)[J])):=aa0 v.1 t.goal.1 (by have:=v.len;have:=t.n1;omega);have O:∀y,twF (H k) (L k) (J+1) y=twF (H k) (L k) J y+if(H k)[J]? =some y then wtj (L k) J else 0:=fun y=>rfl;have P:(H k)[J]? =some (H k)[J]:=iI D;unfold V8;simp only[hx,hw,ci,oB,f1,ix_oo o.1 o.2,f2,f3,iL,r,cn,N,u];by_cases V:l9 a (H k)[J];rw[i9 V];simp only[Bool.not_true,kj,if_false,oB];refine⟨_,rfl,l2,fun b hk=> ?_⟩;rw[show((J:Int)+1).toNat=J+1 by omega,U];unfold rowV;by_cases e:b=kw S;subst e;rw[if_pos rfl,if_pos rfl,K,M,Int.add_mul];rfl;rw[if_neg e,if_neg e,s1];have d:b<kw S:=by omega
   rw[iI d];dsimp only;have A:¬ (H k)[J]? =some S[b]:=fun q=>by rw[P] at q;have:=Option.some.inj q;exact h.ng S[b] (ji d) (this ▸ V)
   rw[O,if_neg A];have l:=B b hk;unfold rowV at l;rw[if_neg e,iI d] at l;dsimp only at l;by_cases f:b=k;subst f;rw[if_pos rfl,if_pos rfl,K];omega;rw[if_neg f,if_neg f];rw[if_neg f] at l;omega;rw[s9 V];have hm:(H k)[J] ∈ S:=(h.cl k hi _ (ji D)).resolve_left V;obtain⟨p,p0,p3,hp⟩:=p8 hm;obtain⟨m,rfl⟩:=iS p0;have Q:m<kw S:=by omega
   have aa:S[m]=(H k)[J]:=by rw[v8,iI Q] at hp;exact Option.some.inj hp
   have cm:=ap9 (w:=z) (i:=m) (by omega);have X:=B m (by omega);unfold rowV at X;rw[if_neg (by omega),iI Q] at X;dsimp only at X;have t3:=twF_nn h hi J S[m];have t4:=twF_le h hi (J:=J) (by omega) S[m];have v2:wtj z m=(if m=k then wtj c k+wtj (L k) J else wtj c m):=by rw[U,if_neg (by omega),s1]
   have f4:w64 (wtj z m - wtj (L k) J)=wtj z m - wtj (L k) J:=by rw[v2];split;exact p9 (by omega) (by omega);rename_i q;rw[if_neg q] at X;exact p9 (by omega) (by omega)
   simp only[Bool.not_false,if_true,af1 h.ord (by omega) hp,cm,oB,f4,iL];have s3:=wtj_set (w:=z) (i:=m) (by omega) (wtj z m - wtj (L k) J);refine⟨_,rfl,by rw[lS];exact l2,fun b hk=> ?_⟩;rw[show((J:Int)+1).toNat=J+1 by omega,s3];unfold rowV;by_cases e:b=kw S;subst e;rw[if_neg (by omega),if_pos rfl,U,if_pos rfl,K,M,Int.add_mul];rfl;have d:b<kw S:=by omega
   rw[if_neg e,iI d];dsimp only;rw[O,P];have l:=B b hk;unfold rowV at l;rw[if_neg e,iI d] at l;dsimp only at l;by_cases g:b=m;subst g;have hq:some (H k)[J]=some S[b]:=by rw[aa]
   rw[if_pos rfl,if_pos hq,v2];by_cases f:b=k;subst f;rw[if_pos rfl,if_pos rfl,K];omega;rw[if_neg f,if_neg f];rw[if_neg f] at l;omega;have A:¬ some (H k)[J]=some S[b]:=fun q=>by
    have q1:=Option.some.inj q;have ac:ix S (b:Int)=some (H k)[J]:=by rw[v8,iI d,q1]
    have:=h.ord.inj hp ac;omega
   rw[if_neg g,if_neg A,U,if_neg e,s1];by_cases f:b=k;subst f;rw[if_pos rfl,if_pos rfl,K];omega;rw[if_neg f,if_neg f];rw[if_neg f] at l;omega)
 refine⟨c,k1,k2,fun b hk=> ?_⟩
 rw[k3 b hk,iL]
def wG(S:LL)(st:Nat->LL)(w:Nat->Li):Mtx:=fun i k=>if i<kw S then wF S st w i k else 0
abbrev eqN(t:b8)(S:LL)(op:Nat->Int)(st:Nat->LL)(w:Nat->Li):Mtx:=eqM (kw S) (WF st w) (wG S st w) fun i=>WF st w i * cF t op i
def rowV_eq{S:LL}{op:Nat->Int}(hi:n<kw S)(hk:k<=kw S):rowV S (H n) (L n) (cF a op n) n (H n).length k=eqN a S op H L n k:=by
 unfold rowV eqN eqM;by_cases e:k=kw S;rw[if_pos e,if_pos e];rfl;have b:k<kw S:=by omega
 rw[if_neg e,if_neg e];unfold wG wF;rw[if_pos hi,iI b];dsimp only;by_cases f:k=n;rw[if_pos f,if_pos f.symm];rfl;rw[if_neg f,if_neg (fun q=>f q.symm)]
def eqs_ok{S:LL}{op:Nat->Int}(x:k8 a)(h:Sys a S op H L){choose:Li->Option Int}(f:∀i s,S[i]? =some s->choose s=some (op i)):
  ∃b,forR 0 (kw S:Int) (I4 a S choose) []=some b/\Shp (kw S) b/\∀i k,i<kw S->k<=kw S->mE b i k=eqN a S op H L i k:=by
 have y:=h.n5
 obtain⟨b,z,O,u⟩:=u9 (body:=I4 a S choose) (n:=(kw S:Int)) (s:=[])
  (fun q c=>(kw c:Int)=q/\∀i:Nat,(i:Int)<q->∃row,c[i]? =some row/\(kw row)=kw S+1/\∀k,k<=kw S->wtj row k=eqN a S op H L i k) (by omega) ⟨rfl,fun i hi=>by omega⟩ (fun q c A P ⟨Q,B⟩=>by
   obtain⟨i,rfl⟩:=iS A;have hi:i<kw S:=by omega
   have g:S[i]? =some S[i]:=iI hi;obtain⟨row,D,E,F⟩:=eq_row x h hi;have G:w64 ((kw S:Int)+1)=((kw S+1:Nat):Int):=by rw[p9 (by omega) (by omega)];omega
   have j:mkL 8 ((kw S+1:Nat):Int) (0:Int)=some (iZ (kw S+1) 0):=by unfold mkL;rw[if_pos (by omega),iL]
   have J:app 24 c [row]=some (c++[row]):=by unfold app;rw[if_pos (by simp;omega)]
   unfold I4;simp only[show ix S (i:Int)=some S[i] by rw[v8,g],jS,G,j,f i _ g,(h.res i _ g).eq,D,J];refine⟨_,rfl,by rw[iO,jD];omega,fun l K=> ?_⟩;by_cases e:l=i;subst e;refine⟨row,?_,E,fun k hk=>by rw[F k hk,rowV_eq hi hk]⟩;have:l=kw c:=by omega
   rw[this];simp;obtain⟨M,a1,o,p⟩:=B l (by omega);exact⟨M,by rw[jh (by omega),a1],o,p⟩)
 have d:kw b=kw S:=by omega
 refine⟨b,z,⟨d,fun r N=> ?_⟩,fun i k hi hk=> ?_⟩
 ·obtain⟨i,hi,rfl⟩:=jr N
  obtain⟨row,a1,o,_⟩:=u i (by omega)
  rw[iI hi] at a1
  cases a1;exact o
 ·obtain⟨row,a1,_,p⟩:=u i (by omega)
  have:mE b i k=wtj row k:=by unfold mE wtj;rw[a1];rfl
  rw[this,p k hk]
def lead_sum{S:LL}{op:Nat->Int}(h:Sys a S op H L)(hi:n<kw S):smN (kw S) (wG S H L n)=smN (H n).length fun j=>if dec (∃y ∈ S,(H n)[j]? =some y)=true then wtj (L n) j else 0:=by
 have f:smN (kw S) (wG S H L n)=smN (kw S) fun k=>smN (H n).length fun j=>if(H n)[j]? =S[k]? then wtj (L n) j else 0:=o8 fun k hk=>by unfold wG wF;rw[if_pos hi,iI hk];rfl
 rw[f,smN_comm];refine o8 fun j g=> ?_;have l:(H n)[j]? =some (H n)[j]:=iI g;by_cases e:∃y ∈ S,(H n)[j]? =some y;rw[if_pos (i9 e)];obtain⟨y,o,e⟩:=e;obtain⟨k,hk,rfl⟩:=jr o;rw[W8 (a:=k) hk fun p d r=> ?_,if_pos (by rw[e,iI hk])];rw[if_neg];intro q;rw[e,iI d] at q;have q:=Option.some.inj q;have c:ix S (k:Int)=some S[k]:=by rw[v8,iI hk]
 have b:ix S (p:Int)=some S[k]:=by rw[v8,iI d,q]
 have:=h.ord.inj c b;omega;rw[if_neg (by rw[s9 e];simp)];refine al5 fun k hk=> ?_;rw[if_neg];intro q;rw[iI hk] at q;exact e ⟨_,ji hk,q⟩
def sys_ms{op:Nat->Int}(e:k8 a)(h:Sys a q op H L):Ms (kw q) (WF H L) (wG q H L):=by refine⟨fun i hi=> ?_,fun i k=> ?_,fun i hi=> ?_⟩;have c:=h.res i q[i] (iI hi);have b:=h.rng i hi;have l0:=(e.at b.1 b.2).l0;have g:efc a.facts q[i] ((ooAt a (op i)).outcomes[0]) ∈ H i:=(c.mem _).2 ⟨_,ji (by omega),rfl⟩;have d:=jY g;have n:=c.pos 0 d;have l:=ad7 (f:=wtj (L i)) (ao8 h hi) (jX 0) d;simp only[smN] at l;unfold WF;omega;unfold wG;split;rename_i hi;unfold wF;split;exact twF_nn h hi _ _;exact iR _;exact iR _;rw[lead_sum h hi];refine ac8 fun j _=> ?_;split;exact iR _;exact ao8 h hi j
def WF_le{op:Nat->Int}(h:Sys a q op H L)(hi:n<kw q):WF H L n<=24:=(h.res n q[n] (iI hi)).sum
def sys_exit{S:LL}{op:Nat->Int}(h:Sys a S op H L)(hi:n<kw S)(l:b ∈ H n)(o:l9 a b):smN (kw S) (wG S H L n)<WF H L n:=by
 rw[lead_sum h hi];have p:=h.res n S[n] (iI hi);obtain⟨j,c,rfl⟩:=jr l;have d:smN (H n).length (fun q=>if dec (∃b ∈ S,(H n)[q]? =some b)=true then wtj (L n) q else 0)<=smN (H n).length fun q=>wtj (L n) q+if q=j then -(wtj (L n) j) else 0:=ac8 fun q k=>by by_cases e:q=j;subst e;rw[if_pos rfl,if_neg];omega;rw[s9];simp;rintro ⟨b,g,e⟩;rw[iI c] at e;cases e;exact h.ng _ g o;rw[if_neg e];have:=ao8 h hi q;split<;>omega
 rw[Q3,W8 (f:=fun q=>if q=j then -(wtj (L n) j) else 0) c fun q _ k=>if_neg k,if_pos rfl] at d;have:=p.pos j c;show _<smN (H n).length (wtj (L n));omega
def sys_step{S:LL}{op:Nat->Int}(h:Sys a S op H L)(hi:n<kw S)(hk:k<kw S)(d:S[k] ∈ H n):0<wG S H L n k:=by have g:=h.res n S[n] (iI hi);unfold wG wF;rw[if_pos hi,iI hk];dsimp only;obtain⟨j,b,e⟩:=jr d;have c:=ad7 (f:=fun q=>if(H n)[q]? =some S[k] then wtj (L n) q else 0) (fun q=>by split;exact ao8 h hi q;exact iR _) (jX j) b;simp only[smN] at c;rw[if_pos (by rw[iI b,e])] at c;have:=g.pos j b;unfold twF;omega
inductive Wy(t:b8)(S:LL)(st:Nat->LL):Nat->Prop
 |exit {i:Nat} {y:Li} (h:i<kw S) (hy:y ∈ st i) (hg:l9 t y):Wy t S st i
 |step {i k:Nat} {y:Li} (h:i<kw S) (hk:S[k]? =some y) (hy:y ∈ st i) (hp:Wy t S st k):Wy t S st i
def Wy.px{op:Nat->Int}(h:Sys a q op H L)(d:Wy a q H n):Px (kw q) (WF H L) (wG q H L) n:=by
 induction d with
 |exit hi c e=>exact .exit hi (sys_exit h hi c e)
 |@step n k y hi hk c _ f=>
  obtain⟨b,rfl⟩:=lG.1 hk
  exact .step hi b (sys_step h hi b c) f
def sys_rb{S:LL}{op:Nat->Int}(g:k8 a)(h:Sys a S op H L):Rb (kw S) (eqN a S op H L) 48 2400:=by
 have d:=sys_ms g h;refine⟨by omega,by omega,fun i hi=> ?_,fun i hi=> ?_⟩;have j:smN (kw S) (fun k=>ab (eqN a S op H L i k))<=smN (kw S) fun k=>(if k=i then WF H L i else 0)+wG S H L i k:=ac8 fun k hk=>by
  have r:=d.nn i k;have l:=d.pos i hi;have e:eqN a S op H L i k=(if k=i then WF H L i else 0) - wG S H L i k:=by unfold eqN eqM;rw[if_neg (by omega)];by_cases f:k=i;rw[if_pos f,if_pos f.symm];rw[if_neg f,if_neg (fun q=>f q.symm)]
  rw[e];unfold ab;split<;>split<;>omega
 rw[Q3,W8 (f:=fun k=>if k=i then WF H L i else 0) hi fun k _ hk=>if_neg hk,if_pos rfl] at j;have:=d.le i hi;have:=WF_le h hi;omega;have e:eqN a S op H L i (kw S)=WF H L i * cF a op i:=by unfold eqN eqM;rw[if_pos rfl]
 rw[e];have c:=h.rng i hi;have b:=g.at c.1 c.2;have l:=d.pos i hi;have n:=WF_le h hi;have o:0<=WF H L i * cF a op i:=jg (by omega) b.c0;have p:=jI n b.c1 b.c0 (by omega:(0:Int)<=24);unfold ab;rw[if_pos o];exact p
def Rb.congr{C:Int}(h:Rb n i x C)(e:∀a k,a<n->k<=n->o a k=i a k):Rb n o x C:=
 ⟨h.R0,h.B0,fun a hi=>by rw[o8 (g:=fun k=>ab (i a k)) fun k hk=>by rw[e a k hi (by omega)]];exact h.row a hi,fun a hi=>by rw[e a n hi (iJ n)];exact h.rhs a hi⟩
def GJ.congr{a:Mtx}(h:GJ n o k a x)(e:∀b f,b<n->f<=n->o b f=i b f)(s:k<=n):GJ n i k a x:=by
 refine⟨by rw[h.dd];exact ad4 fun b j hi p=>e b j (by omega) (by omega),h.nz,h.on,fun j r p g q=> ?_,fun j r p g q l=> ?_⟩;rw[<- e r j (by omega) g,<- h.top j r p g q];exact o8 fun f hk=>by rw[e r f (by omega) (by omega)]
 rw[h.low j r p g q l,e r j l g];congr 1;exact o8 fun f hk=>by rw[e r f l (by omega)]
def value_ok{op:Nat->Int}(j:k8 a)(h:Sys a q op H L)(hp:∀i,i<kw q->Px (kw q) (WF H L) (wG q H L) i){choose:Li->Option Int}(n:∀i s,q[i]? =some s->choose s=some (op i)):
  ∃b num,forR 0 (kw q:Int) (I4 a q choose) []=some b/\D2 q b=some (num,det (kw q) (eqN a q op H L))/\(kw num)=kw q/\det (kw q) (eqN a q op H L) ≠ 0/\
   (∀l,l<kw q->num[l]? =some (det (kw q) (rep (eqN a q op H L) l fun r=>eqN a q op H L r (kw q))))/\
   ∀r,r<kw q->smN (kw q) (fun k=>eqN a q op H L r k * wtj num k)=det (kw q) (eqN a q op H L) * (WF H L r * cF a op r):=by
 obtain⟨b,l1,v,f⟩:=eqs_ok j h n
 have x:=sys_ms j h
 have p:det (kw q) (mE b)=det (kw q) (eqN a q op H L):=ad4 fun i k hi hk=>f i k hi (by omega)
 obtain⟨num,s1,y,u,s4,z⟩:=solve_spec q h.n5 v ((sys_rb j h).congr f) (fun c e d A B=>(A.congr f (by omega)).pivot x hp B)
 rw[p] at s1 u
 refine⟨b,num,l1,s1,y,u,fun l D=> ?_,fun r o=> ?_⟩
 ·rw[s4 l D]
  congr 1
  exact ad4 fun i k hi hk=>by unfold Ab.rep;split;exact f i _ hi (iJ _);exact f i k hi (by omega)
 ·have:=z r o
  rw[p,f r _ o (iJ _)] at this
  rw[o8 (g:=fun k=>mE b r k * (num[k]?).getD 0) fun k hk=>by rw[f r k o (by omega)];rfl,this]
  congr 1
  unfold eqN eqM;rw[if_pos rfl]
def euclid_eq(h:0<n\/0<k):Loop U8 ((n:Int),(k:Int))=some ((ku n k:Nat):Int):=by
 obtain⟨o,f,g⟩:=E8 (body:=U8) (s:=((n:Int),(k:Int)))
  (fun s=>∃x y:Nat,s=((x:Int),(y:Int))/\ku x y=ku n k) (fun o=>o=((ku n k:Nat):Int)) (fun s=>s.2.toNat) ⟨n,k,rfl,rfl⟩ (by
   rintro s ⟨x,y,rfl,e⟩;unfold U8;dsimp only;by_cases c:0<y;rw[if_pos (by omega),chkN,if_neg (by omega)];simp only[oB];refine .inl ⟨_,rfl,⟨y,x % y,?_,?_⟩,?_⟩;rw[<- Int.ofNat_tmod];rw[<- e,Nat.gcd_comm y,<- Nat.gcd_rec,Nat.gcd_comm];dsimp only;rw[<- Int.ofNat_tmod,iL,iL];exact Nat.mod_lt _ c;rw[if_neg (by omega)];have:y=0:=by omega
   subst this;rw[Nat.gcd_zero_right] at e;exact .inr ⟨_,rfl,by rw[e]⟩)
 rw[f,g]
def Lt(x y:Option A):Prop:=∀r,x=some r->y=some r
def Lt.rfl'{x:Option A}:Lt x x:=fun _ h=>h
def Lt.bind{x y:Option A}{f g:A->Option B}(h:Lt x y)(k:∀a,Lt (f a) (g a)):Lt (x.bind f) (y.bind g):=fun r b=>by obtain⟨a,c,d⟩:=bind_some b;rw[h a c];exact k a r d
def Lt.rngN{O:Type}{f g:Int->A->Option (A⊕O)}(h:∀i s,Lt (f i s) (g i s)):∀(k:Nat) (i:Int) (s:A),Lt (rngN f k i s) (rngN g k i s)
 |0,_,_=>Lt.rfl'
 |k+1,i,s=>fun r a=>by
  simp only[Ab.rngN] at a ⊢;cases b:f i s with
  |none=>rw[b] at a;cases a
  |some x=>
   rw[h i s x b]
   rw[b] at a
   cases x with
   |inl c=>exact Lt.rngN h k (i+1) c r a
   |inr o=>exact a
def Lt.rngX{f g:Int->A->Option (A⊕B)}(h:∀i M,Lt (f i M) (g i M)):Lt (rngX x y f M) (rngX x y g M):=Lt.rngN h _ _ _
def Lt.LoopN{f g:A->Option (A⊕B)}(h:∀s,Lt (f s) (g s)):∀(k:Nat) (s:A),Lt (LoopN f k s) (LoopN g k s)
 |0,_=>Lt.rfl'
 |k+1,s=>fun r a=>by
  simp only[Ab.LoopN] at a ⊢;cases b:f s with
  |none=>rw[b] at a;cases a
  |some x=>
   rw[h s x b]
   rw[b] at a
   cases x with
   |inl c=>exact Lt.LoopN h k c r a
   |inr o=>exact a
def Lt.Loop{f g:A->Option (A⊕B)}(h:∀M,Lt (f M) (g M)):Lt (Loop f M) (Loop g M):=fun r a=>by obtain⟨n,b⟩:=al7.1 a;exact al7.2 ⟨n,Lt.LoopN h n M r b⟩
end Ab
