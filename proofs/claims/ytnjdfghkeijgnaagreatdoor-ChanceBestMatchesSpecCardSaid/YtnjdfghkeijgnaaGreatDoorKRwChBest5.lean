/-
  Texts that the proof stands on.
-/
import Derived.Test.YtnjdfghkeijgnaaGreatDoorKRwChBest4
set_option linter.all false
open Nat renaming le_refl->ie,two_pow_pos->iR,lt_or_gt_of_ne->iU,pow_le_pow_right->je
open List renaming getElem?_eq_getElem->ig,mem_cons_of_mem->iy,mem_append->iD,take_add_one->iE,length_cons->iF,mem_cons->iH,mem_singleton->iI,getElem?_set->iK,pairwise_iff_getElem->iL,pairwise_cons->iN,drop_of_length_le->iO,take_length->iP,map->iS,mem_take_iff_getElem->iW,drop_eq_getElem_cons->iX,append_nil->iZ,getElem?_eq_none->jd,mem_of_mem_take->jf,pairwise_append->jg,filter_cons->jk,length_take->jm,length->jn
open Int renaming mul_comm->ii,mul_le_mul_of_nonneg_right->ik,le_trans->iq,eq_of_mul_eq_mul_left->iu,toNat_natCast->iA,mul_nonneg->iB,le_refl->iC,eq_ofNat_of_zero_le->iG,mul_le_mul_of_nonneg_left->iJ,sub_eq_add_neg->iM,mul_zero->iQ,neg_mul->iT,lt_trichotomy->iV,add_zero->iY,mul_neg->jb,one_mul->jc,pow_succ->jh,zero_add->ji,mul_pos->jj
open Option renaming bind->ij,bind_some->jl
open Bool renaming false_and->il,false_or->io,true_and->ip,true_or->iw
namespace Ab
open Go
variable{a c:Li}{x y:Int}{b:Bool}{d:b9}{f:LL}{g:(LL)}{i:List f8}{k s:Nat->Int}{n o p r:Nat}{A:Type}{t v:Int->A->Option A}
section
open Go.Proofs
open Tryz
set_option maxHeartbeats 4000000
attribute [local irreducible] AWP AOps thn inB Done e9 p8 Sub
def K2{l:Li}{nv:Int}{r:Bool}(h:Q1 l nv=some r):e9 prog 40 [(cR l),(cI nv)] ((cB r)):=by
 unfold e9;refine FnOk.enter (rs:=[.t 4]) func40 Z ntmps40 results40 Z ⟨Y,Y⟩ (by kernel_rfl) Z ?_;unfold Q1 at h;refine AWP.gk 1 Z (.j (.gk 1 Z (.u (bB h fun oo ho1 h=>.rngL ho1 (fun iv3 _=>⟨[(0,(cR l)),(1,(cI nv)),(5,(cI iv3))],[]⟩) (fun x e st=>e=.ret/\Done [.t 4] (fun t _=>t=(cB x)) .ret st) (fun _ _ _ k=>.G 2 Z (S.len Z Z fun hl=>.gn 1 Z (k hl))) (fun _ _=>Z) ?_ ?_ ?_ ?_))));exact Sub.en Z;intro iv3 s o hloiv3 hltiv3 h hl8;unfold al5 at h;try dsimp only at h ⊢
 refine AWP.j (.u (bB h fun t4 hx5 h=>.jP [0,1,5] [(35,(cB t4))] Z ?_ ?_));obtain⟨a14,ha14,a18,ha18,hx5⟩:=b2 hx5;rcases bft (!a18) with hb6|hb6;replace hx5:=y5 hb6 hx5;refine AWP.drawI mixed Z (b7.D 2 Z (b7.consF Z (fun E=>S.idx ha14 Z Z Z Z .N) Z (b7.D 3 Z (b7.consF Z (fun E=>.z Z Z Z Z (ab6 ha18) Z .N) Z (b7.D 2 Z (b7.K Z hb6 Z (b7.D 15 Z (b7.done ?_))))))));dsimp only[g9];obtain rfl:=oi hx5;refine b5 (Sub.en Z);replace hx5:=y6 hb6 hx5;rcases bft (decide (0<iv3)) with hb7|hb7;replace hx5:=G5 hb7 hx5;obtain⟨a26,ha26,a31,ha31,hx5⟩:=b2 hx5;refine AWP.drawI mixed Z (b7.D 2 Z (b7.consF Z (fun E=>S.idx ha14 Z Z Z Z .N) Z (b7.D 3 Z (b7.consF Z (fun E=>.z Z Z Z Z (ab6 ha18) Z .N) Z (b7.D 2 Z (b7.K Z hb6 Z (b7.D 3 Z (b7.K Z hb7 Z (b7.D 2 Z (b7.consF Z (fun E=>.J Z Z Z Z (S.idx ha26 Z Z Z Z .N)) Z (b7.D 3 Z (b7.consF Z (fun E=>.J Z Z Z Z (.sub' Z Z Z (by omega) .N)) Z (.consF Z (fun E=>.J Z Z Z Z (S.idx ha31 Z Z Z Z .N)) Z (b7.D 4 Z (b7.done ?_)))))))))))))));dsimp only[g9];obtain rfl:=oi hx5;refine b5 (Sub.en Z);replace hx5:=G1 hb7 hx5;refine AWP.drawI mixed Z (b7.D 2 Z (b7.consF Z (fun E=>S.idx ha14 Z Z Z Z .N) Z (b7.D 3 Z (b7.consF Z (fun E=>.z Z Z Z Z (ab6 ha18) Z .N) Z (b7.D 2 Z (b7.K Z hb6 Z (b7.D 3 Z (b7.K Z hb7 Z (b7.D 12 Z (b7.done ?_))))))))));dsimp only[g9];obtain rfl:=oi hx5;refine b5 (Sub.en Z);refine AWP.U Z h (fun hc8 h=> ?_) (fun hc8 h=> ?_);refine AWP.gk 1 Z (.ret (i5 (e8 ?_)));obtain rfl:=oi h;exact e8 ⟨_,Z,Z,(Done.ret Z Z)⟩;refine AWP.skip (d6 (b5 (.G 1 Z (.add Z Z Z (by omega) (.E Z Z (.nil ?_))))));obtain rfl:=oi h;exact b5 ⟨_,Z,(Sub.en Z)⟩;intro iz _ he;subst he;try dsimp only at h ⊢
 refine f9 (b5 (.gk 1 Z (.ret ?_)));obtain rfl:=oi h;exact Done.ret Z Z;intro x e st he hq;subst he;try dsimp only at h hq
 obtain⟨rfl,hs⟩:=hq;refine ⟨_,Sub.refl _ _,(i5 (e8 ?_))⟩;obtain rfl:=oi h;exact hs
def M5(h:S5 a y=some b):e9 prog 45 [(cR a),(cI y)] ((cB b)):=by unfold e9;refine FnOk.enter (rs:=[.t 4]) func45 Z ntmps45 results45 Z ⟨Y,Y⟩ (by kernel_rfl) Z ?_;refine AWP.gk 1 Z (.j (.gk 1 Z (.u (bB h fun D i h=>.rngL i (fun c _=>⟨[(0,(cR a)),(1,(cI y)),(5,(cI c))],[]⟩) (fun x e st=>e=.ret/\Done [.t 4] (fun t _=>t=(cB x)) .ret st) (fun _ _ _ k=>.G 2 Z (S.len Z Z fun q=>.gn 1 Z (k q))) (fun _ _=>Z) ?_ ?_ ?_ ?_))));exact Sub.en Z;intro c s o f g h v;refine AWP.j (.u (.j (bB h fun w d h=>.G 2 Z (S.idx d Z Z Z Z (.G 3 Z (.nil (b5 (.O Z h (fun n h=> ?_) (fun n h=> ?_)))))))));refine AWP.gk 1 Z (.ret (i5 (e8 ?_)));obtain rfl:=oi h;exact e8 ⟨_,Z,Z,(Done.ret Z Z)⟩;refine AWP.skip (d6 (b5 (.G 1 Z (.add Z Z Z (by omega) (.E Z Z (.nil ?_))))));obtain rfl:=oi h;exact b5 ⟨_,Z,(Sub.en Z)⟩;intro F _ p;subst p;refine f9 (b5 (.gk 1 Z (.ret ?_)));obtain rfl:=oi h;exact Done.ret Z Z;intro x e st p z;subst p;obtain⟨rfl,A⟩:=z;refine ⟨_,Sub.refl _ _,(i5 (e8 ?_))⟩;obtain rfl:=oi h;exact A
def aG8(h:ac2 a c=some b):e9 prog 41 [(cR a),(cR c)] ((cB b)):=by unfold e9;refine FnOk.enter (rs:=[.t 4]) func41 Z ntmps41 results41 Z ⟨Y,Y⟩ (by kernel_rfl) Z ?_;refine AWP.gk 1 Z (.j (.gk 1 Z (.u (bB h fun H n h=>.rngL n (fun d _=>⟨[(0,(cR a)),(1,(cR c)),(5,(cI d))],[]⟩) (fun x e st=>e=.ret/\Done [.t 4] (fun t _=>t=(cB x)) .ret st) (fun _ _ _ k=>.G 2 Z (S.len Z Z fun v=>.gn 1 Z (k v))) (fun _ _=>Z) ?_ ?_ ?_ ?_))));exact Sub.en Z;intro d s o i l h w;refine AWP.j (.u (.j (bC h fun y f A g h=>.G 3 Z (S.idx f Z Z Z Z (.G 1 Z (.z Z Z Z Z (M5 g) Z (.nil (b5 (.U Z h (fun p h=> ?_) (fun p h=> ?_))))))))));refine AWP.gk 1 Z (.ret (i5 (e8 ?_)));obtain rfl:=oi h;exact e8 ⟨_,Z,Z,(Done.ret Z Z)⟩;refine AWP.skip (d6 (b5 (.G 1 Z (.add Z Z Z (by omega) (.E Z Z (.nil ?_))))));obtain rfl:=oi h;exact b5 ⟨_,Z,(Sub.en Z)⟩;intro J _ q;subst q;refine f9 (b5 (.gk 1 Z (.ret ?_)));obtain rfl:=oi h;exact Done.ret Z Z;intro x e st q B;subst q;obtain⟨rfl,D⟩:=B;refine ⟨_,Sub.refl _ _,(i5 (e8 ?_))⟩;obtain rfl:=oi h;exact D
def aF7{ov:b9}{r:u5}(h:Y8 ov=some r):e9 prog 6 [.agg (tO ov)] (.agg [int r.code,int r.index]):=by
 unfold e9;refine FnOk.enter (rs:=[.cell 2 30 2]) func6 Z ntmps6 results6 Z ⟨rv _ Z,Y⟩ (by kernel_rfl) Z ?_;unfold Y8 at h;refine AWP.gk 2 Z (.j (.j (bB h fun a10 ha10 h=>.G 2 Z (.z Z Z Z Z (ab6 ha10) Z (.not Z Z (.nil (b5 (.U Z h (fun hc2 h=> ?_) (fun hc2 h=> ?_)))))))));refine AWP.j (bB h fun a12 ha12 h=>.aa (.z Z Z Z Z (H6 ha12) Z (.G 1 Z (.nil (b5 (.ret (e8 ?_)))))));obtain rfl:=oi h;exact Done.ret Z Z;refine AWP.skip (b5 (.j (.j (bB h fun a17 ha17 h=>.G 4 Z (.z Z Z Z Z (K2 ha17) Z (.not Z Z (.nil (b5 (.U Z h (fun hc3 h=> ?_) (fun hc3 h=> ?_))))))))));refine AWP.j (bB h fun a19 ha19 h=>.aa (.z Z Z Z Z (H6 ha19) Z (.G 1 Z (.nil (b5 (.ret (e8 ?_)))))));obtain rfl:=oi h;exact Done.ret Z Z;refine AWP.skip (b5 (.j (.j (bB h fun a24 ha24 h=>.G 4 Z (.z Z Z Z Z (K2 ha24) Z (.not Z Z (.nil (b5 (.U Z h (fun hc4 h=> ?_) (fun hc4 h=> ?_))))))))));refine AWP.j (bB h fun a26 ha26 h=>.aa (.z Z Z Z Z (H6 ha26) Z (.G 1 Z (.nil (b5 (.ret (e8 ?_)))))));obtain rfl:=oi h;exact Done.ret Z Z;refine AWP.skip (b5 (.j (.gs 2 Z (S.len Z Z (fun hl29=>.ge 1 Z (.O Z h (fun hc5 h=> ?_) (fun hc5 h=> ?_)))))));refine AWP.j (bB h fun a31 ha31 h=>.aa (.z Z Z Z Z (H6 ha31) Z (.G 1 Z (.nil (b5 (.ret (e8 ?_)))))));obtain rfl:=oi h;exact Done.ret Z Z;refine AWP.skip (b5 (.j (.gk 1 Z (.u (bB h fun oo ho1 h=>.rngL ho1 (fun iv6 _=>⟨[(1,(cP 0 0 0)),(2,(cP 1 0 0)),(3,(cI iv6))],[(oE 4 (tO ov)),(oE 2 [int 0,int 0])]⟩) (fun x e st=>e=.ret/\Done [.cell 2 30 2] (fun t _=>t=.agg [int x.code,int x.index]) .ret st) (fun _ _ _ k=>.G 3 Z (S.len Z Z fun hl=>.gn 1 Z (k hl))) (fun _ _=>Z) ?_ ?_ ?_ ?_)))));exact Sub.en Z;intro iv6 s o hloiv6 hltiv6 h hl35;unfold K1 at h;try dsimp only at h ⊢
 refine AWP.j (.u (.j (bB h fun a42 ha42 h=>.G 3 Z (S.idx ha42 Z Z Z Z (.G 3 Z (.nil (b5 (.gk 1 Z (bB h fun ev7 hx8 h=>.jP [1,2,3,4] [(5,(cI ev7))] Z ?_ ?_)))))))));refine AWP.j (bB hx8 fun a48 ha48 hx8=>.G 4 Z (.z Z Z Z Z (K2 ha48) Z (.not Z Z (.nil (b5 (.U Z hx8 (fun hc9 hx8=> ?_) (fun hc9 hx8=> ?_)))))));refine AWP.G 1 Z (.nil ?_);obtain rfl:=oi hx8;refine b5 (Sub.en Z);refine AWP.j (bB hx8 fun a52 ha52 hx8=>.G 2 Z (.z Z Z Z Z (ab6 ha52) Z (.not Z Z (.nil (b5 (.U Z hx8 (fun hc10 hx8=> ?_) (fun hc10 hx8=> ?_)))))));refine AWP.G 1 Z (.nil ?_);obtain rfl:=oi hx8;refine b5 (Sub.en Z);refine AWP.j (bB hx8 fun a57 ha57 hx8=>.G 2 Z (S.len Z Z (fun hl56=>.z Z Z Z Z (ab6 ha57) Z (.not Z Z (.nil (b5 (.U Z hx8 (fun hc11 hx8=> ?_) (fun hc11 hx8=> ?_))))))));refine AWP.G 1 Z (.nil ?_);obtain rfl:=oi hx8;refine b5 (Sub.en Z);refine AWP.skip ?_;obtain rfl:=oi hx8;refine b5 (Sub.en Z);refine AWP.j (.gk 1 Z (.u (bB h fun ev14 ho2 h=>.loopS ho2 (fun(ev12,kv13)=>⟨[(1,(cP 0 0 0)),(2,(cP 1 0 0)),(3,(cI iv6)),(4,(cP 2 0 0)),(5,(cI ev12)),(6,(cI kv13))],[(oE 4 (tO ov)),(oE 2 [int 0,int 0]),(oE 3 [row 1 intI a42.pre,row 3 B8 a42.outcomes,int a42.cost])]⟩) (fun ev14 e st=>e=.exit 2/\Sub [] st ⟨[(1,(cP 0 0 0)),(2,(cP 1 0 0)),(3,(cI iv6)),(5,(cI ev14))],[(oE 4 (tO ov)),(oE 2 [int 0,int 0])]⟩) ?_ ?_ ?_)));exact Sub.en Z;intro s o h;obtain⟨ev12,kv13⟩:=s;unfold E3 at h;try dsimp only at h ⊢
 refine AWP.j (.seqJ (⟨[(1,(cP 0 0 0)),(2,(cP 1 0 0)),(3,(cI iv6)),(4,(cP 2 0 0)),(5,(cI ev12)),(6,(cI kv13)),(67,(cB ((decide (kv13<(jn a42.outcomes:Int))) && (decide (ev12=0)))))],[(oE 4 (tO ov)),(oE 2 [int 0,int 0]),(oE 3 [row 1 intI a42.pre,row 3 B8 a42.outcomes,int a42.cost])]⟩) ?_ ?_);rcases bft (decide (kv13<(jn a42.outcomes:Int))) with hb1|hb1;refine AWP.G 3 Z (S.len Z Z (fun hl62=>.G 2 Z (.K Z Z hb1 (.G 3 Z (.nil (b5 ?_))))));simp only[ab4 hb1,or_t hb1,io,iw,il,ip];exact Sub.en Z;refine AWP.G 3 Z (S.len Z Z (fun hl62=>.G 2 Z (.K Z Z hb1 (.G 3 Z (.nil (b5 ?_))))));simp only[ae1 hb1,or_f hb1,io,iw,il,ip];exact Sub.en Z;refine AWP.U Z h (fun hc15 h=> ?_) (fun hc15 h=> ?_);refine AWP.skip (b5 (bB h fun ev16 hx17 h=>.jP [1,2,3,4,6] [(5,(cI ev16))] Z ?_ ?_));refine AWP.u (.j (bB hx17 fun a73 ha73 hx17=>.G 3 Z (S.idx ha73 Z Z Z Z (.G 3 Z (.nil (b5 (bB hx17 fun t18 hx19 hx17=>.jP [1,2,3,4,5,6,7] [(96,(cB t18))] Z ?_ ?_)))))));obtain⟨a79,ha79,hx19⟩:=bind_some hx19;rcases bft (!a79) with hb20|hb20;replace hx19:=y5 hb20 hx19;refine AWP.G 4 Z (.z Z Z Z Z (K2 ha79) Z (.G 2 Z (.K Z Z hb20 (.G 15 Z (.nil ?_)))));obtain rfl:=oi hx19;refine b5 (Sub.en Z);replace hx19:=y6 hb20 hx19;obtain⟨a86,ha86,hx19⟩:=bind_some hx19;rcases bft (!a86) with hb21|hb21;replace hx19:=y5 hb21 hx19;refine AWP.G 4 Z (.z Z Z Z Z (K2 ha79) Z (.G 2 Z (.K Z Z hb20 (.G 4 Z (.J Z Z Z Z (.z Z Z Z Z (K2 ha86) Z (.G 3 Z (.K Z Z hb21 (.G 7 Z (.nil ?_))))))))));obtain rfl:=oi hx19;refine b5 (Sub.en Z);replace hx19:=y6 hb21 hx19;obtain⟨a94,ha94,hx19⟩:=bind_some hx19;refine AWP.G 4 Z (.z Z Z Z Z (K2 ha79) Z (.G 2 Z (.K Z Z hb20 (.G 4 Z (.J Z Z Z Z (.z Z Z Z Z (K2 ha86) Z (.G 3 Z (.K Z Z hb21 (.G 4 Z (.J Z Z Z Z (.z Z Z Z Z (aG8 ha94) Z (.G 2 Z (.nil ?_)))))))))))));obtain rfl:=oi hx19;refine b5 (Sub.en Z);refine AWP.U Z hx17 (fun hc22 hx17=> ?_) (fun hc22 hx17=> ?_);refine AWP.G 1 Z (.nil (d6 ?_));obtain rfl:=oi hx17;refine b5 (Sub.ct Z Z (.o Z (.o Z (.o Z .n))));refine AWP.j (bB hx17 fun a99 ha99 hx17=>.G 2 Z (.z Z Z Z Z (ab6 ha99) Z (.not Z Z (.nil (b5 (.U Z hx17 (fun hc23 hx17=> ?_) (fun hc23 hx17=> ?_)))))));refine AWP.G 1 Z (.nil (d6 ?_));obtain rfl:=oi hx17;refine b5 (Sub.ct Z Z (.o Z (.o Z (.o Z .n))));refine AWP.skip (d6 ?_);obtain rfl:=oi hx17;refine b5 (Sub.ct Z Z (.o Z (.o Z (.o Z .n))));refine AWP.G 3 Z (.nil ?_);obtain rfl:=oi h;exact b5 ⟨_,Z,(Sub.en Z)⟩;refine AWP.exit (i7 ?_);obtain rfl:=oi h;exact i7 ⟨_,Z,Z,(Sub.ct Z Z (.o Z (.o Z .n)))⟩;intro e s hq;obtain⟨rfl,hs⟩:=hq;refine ⟨_,hs,(f9 (b5 (.gk 2 Z (.iteN Z h (fun hc24 h=> ?_) (fun hc24 h=> ?_)))))⟩;refine AWP.j (bB h fun a105 ha105 h=>.G 2 Z (.z Z Z Z Z (H6 ha105) Z (.G 1 Z (.nil (b5 (.ret (i5 (e8 ?_))))))));obtain rfl:=oi h;exact e8 ⟨_,Z,Z,(Done.ret Z Z)⟩;refine AWP.skip (d6 (b5 (.G 1 Z (.add Z Z Z (by omega) (.E Z Z (.nil ?_))))));obtain rfl:=oi h;exact b5 ⟨_,Z,(Sub.en Z)⟩;intro iz _ he;subst he;try dsimp only at h ⊢
 refine f9 (b5 (.gk 2 Z (.ret ?_)));obtain rfl:=oi h;exact Done.ret Z Z;intro x e st he hq;subst he;try dsimp only at h hq
 obtain⟨rfl,hs⟩:=hq;refine ⟨_,Sub.refl _ _,(i5 (e8 ?_))⟩;obtain rfl:=oi h;exact hs
def aw2(h:aa1 a=some x):e9 prog 42 [(cR a)] ((cI x)):=by unfold e9;refine FnOk.enter (rs:=[.t 2]) func42 Z ntmps42 results42 Z ⟨Y,Y⟩ (by kernel_rfl) Z ?_;refine AWP.gk 1 Z (.gk 1 Z (.j (.gk 1 Z (.u (bB h fun g i h=>.forL i (fun b g=>⟨[(0,(cR a)),(3,(cI g)),(4,(cI b))],[]⟩) (fun _ _ _ k=>.G 2 Z (S.len Z Z fun l=>.gn 1 Z (k l))) (fun _ _=>Z) ?_ ?_ ?_)))));exact Sub.en Z;intro b g o e f h n;refine AWP.j (.u (bC h fun p c q d h=>.G 3 Z (S.idx c Z Z Z Z (.G 2 Z (S.shl d Z Z Z (.G 2 Z (.nil (d6 (b5 (.G 1 Z (.add Z Z Z (by omega) (.E Z Z (.nil ?_)))))))))))));obtain rfl:=oi h;refine b5 (Sub.en Z);intro v;refine f9 (b5 (.gk 2 Z (.ret ?_)));obtain rfl:=oi h;exact Done.ret Z Z
def az7{part:Li}(h:ac9 part a=some b):e9 prog 86 [(cR part),(cR a)] ((cB b)):=by unfold e9;refine FnOk.enter (rs:=[.t 4]) func86 Z ntmps86 results86 Z ⟨Y,Y⟩ (by kernel_rfl) Z ?_;refine AWP.gk 1 Z (.j (.gk 1 Z (.u (bB h fun H n h=>.rngL n (fun c _=>⟨[(0,(cR part)),(1,(cR a)),(5,(cI c))],[]⟩) (fun x e st=>e=.ret/\Done [.t 4] (fun t _=>t=(cB x)) .ret st) (fun _ _ _ k=>.G 2 Z (S.len Z Z fun v=>.gn 1 Z (k v))) (fun _ _=>Z) ?_ ?_ ?_ ?_))));exact Sub.en Z;intro c s o g i h w;refine AWP.j (.u (.j (bC h fun y d A f h=>.G 3 Z (S.idx d Z Z Z Z (.G 1 Z (.z Z Z Z Z (M5 f) Z (.not Z Z (.nil (b5 (.U Z h (fun p h=> ?_) (fun p h=> ?_)))))))))));refine AWP.gk 1 Z (.ret (i5 (e8 ?_)));obtain rfl:=oi h;exact e8 ⟨_,Z,Z,(Done.ret Z Z)⟩;refine AWP.skip (d6 (b5 (.G 1 Z (.add Z Z Z (by omega) (.E Z Z (.nil ?_))))));obtain rfl:=oi h;exact b5 ⟨_,Z,(Sub.en Z)⟩;intro J _ q;subst q;refine f9 (b5 (.gk 1 Z (.ret ?_)));obtain rfl:=oi h;exact Done.ret Z Z;intro x e st q B;subst q;obtain⟨rfl,D⟩:=B;refine ⟨_,Sub.refl _ _,(i5 (e8 ?_))⟩;obtain rfl:=oi h;exact D
def y7{op:Int}(h:J6 d a op=some b):e9 prog 43 [.agg (tO d),(cR a),(cI op)] ((cB b)):=by unfold e9;refine FnOk.enter (rs:=[.t 6]) func43 Z ntmps43 results43 Z ⟨Y,Y⟩ (by kernel_rfl) Z ?_;refine AWP.gk 2 Z (.j (bC h fun f c g e h=>.G 3 Z (S.idx c Z Z Z Z (.G 3 Z (.z Z Z Z Z (az7 e) Z (.E Z Z (.nil (b5 (.ret ?_)))))))));obtain rfl:=oi h;exact Done.ret Z Z
def az6{q:u6}(h:ad0 d a q=some c):p8 prog 87 [.agg (tO d),(cR a),.agg [row 1 intI q.add,row 1 intI q.del,int q.weight]] 1 (iS intI c):=by
 unfold p8;refine FnOk.enter (rs:=[.t 6]) func87 Z ntmps87 results87 Z ⟨Y,Y⟩ (by kernel_rfl) Z ?_;refine AWP.gk 3 Z (.gk 1 Z (.j (.gk 1 Z (.u (.virtV 1 intI 7 Z Z Z ?_)))));obtain⟨O,h⟩:=ite_none h;obtain⟨A,D,h⟩:=bind_some h;refine AWP.forL D (fun B A=>⟨[(1,(cR a)),(3,(cP 0 0 0)),(5,(cP 1 0 0)),(7,.c (.own 2 0 (jn A))),(8,(cI B))],[(oE 4 (tO d)),(oE 3 [row 1 intI q.add,row 1 intI q.del,int q.weight]),(oV 1 intI A)]⟩) (fun _ _ _ k=>.gn 4 Z (k Y)) (fun _ _=>Z) ?_ ?_ ?_;exact Sub.env ⟨Z,Z,Z,(n8 (by first|rfl|simp only[lS])),Z,Y⟩
 intro B A o H L h _;obtain⟨P,g,h⟩:=bind_some h;refine AWP.jQ [1,3,5,8] [(7,.c (.own 4 0 (jn P)))] [(oE 4 (tO d)),(oE 3 [row 1 intI q.add,row 1 intI q.del,int q.weight]),.dead,.dead,(oV 1 intI P)] Z ?_ ?_;refine AWP.u (bB g fun t8 b g=>.jP [1,3,5,7,8] [(30,(cB t8))] Z ?_ ?_);obtain⟨M,p,b⟩:=bind_some b;rcases bft (M) with e|e;replace b:=y5 e b;refine AWP.G 3 Z (.z Z Z Z Z (M5 p) Z (.F Z Z (.K Z Z e (.G 11 Z (.nil ?_)))));obtain rfl:=oi b;refine b5 (Sub.en Z);replace b:=y6 e b;obtain⟨N,s,b⟩:=bind_some b;rcases bft (N) with i|i;replace b:=y5 i b;obtain⟨Q,w,b⟩:=bind_some b;refine AWP.G 3 Z (.z Z Z Z Z (M5 p) Z (.F Z Z (.K Z Z e (.G 2 Z (.J Z Z Z Z (.z Z Z Z Z (M5 s) Z (.G 1 Z (.K Z Z i (.G 3 Z (.J Z Z Z Z (.z Z Z Z Z (M5 w) Z (.G 3 Z (.nil ?_)))))))))))));obtain rfl:=oi b;refine b5 (Sub.en Z);replace b:=y6 i b;refine AWP.G 3 Z (.z Z Z Z Z (M5 p) Z (.F Z Z (.K Z Z e (.G 2 Z (.J Z Z Z Z (.z Z Z Z Z (M5 s) Z (.G 1 Z (.K Z Z i (.G 7 Z (.nil ?_))))))))));obtain rfl:=oi b;refine b5 (Sub.en Z);refine AWP.U Z g (fun x g=> ?_) (fun x g=> ?_);obtain⟨V,y,g⟩:=bind_some g;refine AWP.G 2 Z (S.lit (f:=intI) (l:=[B]) (ess:=[[int B]]) Z Z Z Z Z Z Z ⟨⟨.inl Z,Y⟩,Y⟩ Z Z Z (S.append (f:=intI) y Z Z Z Z Z Z (.own Z Z) Z Z Z Z (.E Z Z (.nil (d6 ?_)))));obtain rfl:=oi g;refine b5 (Sub.ct Z Z (.o Z (.o Z (.d (.d (.v .n))))));refine AWP.skip (d6 ?_);obtain rfl:=oi g;refine b5 (Sub.mv 4 2 Z Z (.o Z Z (.o Z Z (.d (.d (.v Z .n))))));refine AWP.G 1 Z (.add Z Z Z (by omega) (.E Z Z (.nil ?_)));obtain rfl:=oi h;refine b5 (Sub.mv 2 4 Z Z (.o Z Z (.o Z Z (.v Z .n))));intro iz;refine f9 (b5 (.gk 2 Z (.ret ?_)));obtain rfl:=oi h;exact Done.ret Z (Fresh.mk Z Z)
theorem az9{av:Li}{bv:Li}{r:Bool}(h:ad4 av bv=some r):e9 prog 62 [(cR av),(cR bv)] ((cB r)):=by
 unfold e9
 refine FnOk.enter (rs:=[.t 4]) func62 Z ntmps62 results62 Z ⟨Y,Y⟩ (by kernel_rfl) Z ?_
 unfold ad4 at h
 refine AWP.gk 1 Z (.j (.gk 1 Z (.u ?_)))
 obtain⟨oo,ho1,h⟩:=bind_some h
 refine AWP.loopS ho1 (fun iv3=>⟨[(0,(cR av)),(1,(cR bv)),(5,(cI iv3))],[]⟩) (fun o e st=>match o with| .inl _=>e=.exit 0/\Sub [] st ⟨[(0,(cR av)),(1,(cR bv))],[]⟩| .inr x=>e=.ret/\Done [.t 4] (fun t _=>t=(cB x)) .ret st) ?_ ?_ ?_
 ·exact Sub.en Z
 ·intro iv3 o h
  unfold ai7 at h
  try dsimp only at h ⊢
  refine AWP.j (.seqJ (⟨[(0,(cR av)),(1,(cR bv)),(5,(cI iv3)),(15,(cB ((decide (iv3<(jn av:Int))) && (decide (iv3<(jn bv:Int))))))],[]⟩) ?_ ?_)
  ·rcases bft (decide (iv3<(jn av:Int))) with hb1|hb1
   ·refine AWP.G 2 Z (S.len Z Z (fun hl8=>.G 2 Z (.K Z Z hb1 (.G 2 Z ?_))))
    refine AOps.J Z Z Z Z ?_;refine S.len Z Z (fun hl13=> ?_)
    refine AOps.G 2 Z (.nil (b5 ?_))
    simp only[ab4 hb1,or_t hb1,io,iw,il,ip]
    exact Sub.en Z
   ·refine AWP.G 2 Z (S.len Z Z (fun hl8=>.G 2 Z (.K Z Z hb1 (.G 5 Z (.nil (b5 ?_))))))
    simp only[ae1 hb1,or_f hb1,io,iw,il,ip]
    exact Sub.en Z
  ·refine AWP.U Z h (fun hc4 h=> ?_) (fun hc4 h=> ?_)
   ·refine AWP.skip (b5 (.j (.u (.j ?_))))
    obtain⟨a20,ha20,a24,ha24,h⟩:=b2 h
    refine AWP.drawI mixed Z (b7.D 2 Z ?_)
    refine b7.consF Z (fun E=>S.idx ha20 Z Z Z Z .N) Z ?_
    refine b7.D 3 Z ?_
    refine b7.consF Z (fun E=>S.idx ha24 Z Z Z Z .N) Z ?_
    refine b7.D 2 Z (b7.done ?_)
    dsimp only[g9]
    refine b5 (.iteN Z h (fun hc5 h=> ?_) (fun hc5 h=> ?_))
    ·refine AWP.j ?_
     obtain⟨a29,ha29,a33,ha33,h⟩:=b2 h
     refine AWP.drawI mixed Z (b7.D 2 Z ?_)
     refine b7.consF Z (fun E=>S.idx ha29 Z Z Z Z .N) Z ?_
     refine b7.D 3 Z ?_
     refine b7.consF Z (fun E=>S.idx ha33 Z Z Z Z .N) Z ?_
     refine b7.D 3 Z (b7.done ?_)
     dsimp only[g9]
     refine b5 (.ret (i5 (e8 ?_)))
     obtain rfl:=oi h
     refine e8 ⟨_,Z,Z,?_⟩
     exact Done.ret Z Z
    ·refine AWP.skip (d6 (b5 (.G 3 Z (.nil ?_))))
     obtain rfl:=oi h
     refine b5 ⟨_,Z,?_⟩
     exact Sub.en Z
   ·refine AWP.exit (i7 ?_)
    obtain rfl:=oi h
    refine i7 ⟨_,Z,Z,?_⟩
    exact Sub.en Z
 ·intro e s hq
  rcases oo with u|x
  ·try dsimp only at h hq
   obtain⟨rfl,hs⟩:=hq
   refine⟨_,hs,?_⟩
   refine f9 (b5 (.gs 1 Z (S.len Z Z (fun hl37=>.F Z Z (S.len Z Z (fun hl39=>.ge 2 Z (.ret ?_)))))))
   obtain rfl:=oi h
   exact Done.ret Z Z
  ·try dsimp only at h hq
   obtain⟨rfl,hs⟩:=hq
   refine⟨_,Sub.refl _ _,?_⟩
   refine i5 (e8 ?_)
   obtain rfl:=oi h
   exact hs
def ao4(h:Q5 a c=some b):e9 prog 49 [(cR a),(cR c)] ((cB b)):=by unfold e9;refine FnOk.enter (rs:=[.t 4]) func49 Z ntmps49 results49 Z ⟨Y,Y⟩ (by kernel_rfl) Z ?_;refine AWP.gk 1 Z (.j (.gs 1 Z (S.len Z Z (fun y=>.F Z Z (S.len Z Z (fun z=>.ge 1 Z (.iteN Z h (fun n h=> ?_) (fun n h=> ?_))))))));refine AWP.gk 1 Z (.ret (e8 ?_));obtain rfl:=oi h;exact Done.ret Z Z;refine AWP.skip (b5 (.j (.gk 1 Z (.u (bB h fun M p h=>.rngL p (fun d _=>⟨[(0,(cR a)),(1,(cR c)),(5,(cI d))],[]⟩) (fun x e st=>e=.ret/\Done [.t 4] (fun t _=>t=(cB x)) .ret st) (fun _ _ _ k=>.G 2 Z (S.len Z Z fun A=>.gn 1 Z (k A))) (fun _ _=>Z) ?_ ?_ ?_ ?_)))));exact Sub.en Z;intro d s o i l h w;refine AWP.j (.u (.j (bC h fun B f H g h=>.drawI mixed Z (b7.D 2 Z (b7.consF Z (fun E=>S.idx f Z Z Z Z .N) Z (b7.D 3 Z (b7.consF Z (fun E=>S.idx g Z Z Z Z .N) Z (b7.D 2 Z (b7.done ?_)))))))));dsimp only[g9];refine b5 (.iteN Z h (fun q h=> ?_) (fun q h=> ?_));refine AWP.gk 1 Z (.ret (i5 (e8 ?_)));obtain rfl:=oi h;exact e8 ⟨_,Z,Z,(Done.ret Z Z)⟩;refine AWP.skip (d6 (b5 (.G 1 Z (.add Z Z Z (by omega) (.E Z Z (.nil ?_))))));obtain rfl:=oi h;exact b5 ⟨_,Z,(Sub.en Z)⟩;intro O _ v;subst v;refine f9 (b5 (.gk 1 Z (.ret ?_)));obtain rfl:=oi h;exact Done.ret Z Z;intro x e st v J;subst v;obtain⟨rfl,K⟩:=J;refine ⟨_,Sub.refl _ _,(i5 (e8 ?_))⟩;obtain rfl:=oi h;exact K
def aq7(h:X1 f a=some g):e9 prog 46 [.c (row 1 d7 f),(cR a)] (.c (row 1 d7 g)):=by unfold e9;refine FnOk.enter (rs:=[.t 4]) func46 Z ntmps46 results46 Z ⟨Y,Y⟩ (by kernel_rfl) Z ?_;refine AWP.gk 1 Z (.gk 1 Z (.j (.u (bB h fun B al h=>.loopS al (fun P=>⟨[(0,.c (row 1 d7 f)),(1,(cR a)),(5,(cI P))],[]⟩) (fun B e st=>e=.exit 0/\Sub [] st ⟨[(0,.c (row 1 d7 f)),(1,(cR a)),(5,(cI B))],[]⟩) ?_ ?_ ?_))));exact Sub.en Z;intro P o h;refine AWP.j (bB h fun t5 q h=>.jP [0,1,5] [(17,(cB t5))] Z ?_ ?_);rcases bft (decide (P<(jn f:Int))) with H|H;replace q:=G5 H q;obtain⟨a0,Q,a1,V,q⟩:=b2 q;refine AWP.G 2 Z (S.len Z Z (fun an=>.G 2 Z (.K Z Z H (.G 2 Z (.J Z Z Z Z (S.idx Q Z Z Z Z (.G 2 Z (.J Z Z Z Z (.z Z Z Z Z (az9 V) Z (.G 1 Z (.nil ?_)))))))))));obtain rfl:=oi q;refine b5 (Sub.en Z);replace q:=G1 H q;refine AWP.G 2 Z (S.len Z Z (fun an=>.G 2 Z (.K Z Z H (.G 7 Z (.nil ?_)))));obtain rfl:=oi q;refine b5 (Sub.en Z);refine AWP.U Z h (fun ao h=> ?_) (fun ao h=> ?_);refine AWP.skip (b5 (.u (.G 3 Z (.nil (d6 ?_)))));obtain rfl:=oi h;exact b5 ⟨_,Z,(Sub.en Z)⟩;refine AWP.exit (i7 ?_);obtain rfl:=oi h;exact i7 ⟨_,Z,Z,(Sub.en Z)⟩;intro e s hq;obtain⟨rfl,hs⟩:=hq;refine ⟨_,hs,(f9 (b5 (.j (bB h fun t9 k h=>.jP [0,1,5] [(31,(cB t9))] Z ?_ ?_))))⟩;rcases bft (decide (B<(jn f:Int))) with w|w;replace k:=G5 w k;obtain⟨a2,X,a3,l,k⟩:=b2 k;refine AWP.G 2 Z (S.len Z Z (fun r=>.G 2 Z (.K Z Z w (.G 2 Z (.J Z Z Z Z (S.idx X Z Z Z Z (.G 2 Z (.J Z Z Z Z (.z Z Z Z Z (ao4 l) Z (.G 1 Z (.nil ?_)))))))))));obtain rfl:=oi k;refine b5 (Sub.en Z);replace k:=G1 w k;refine AWP.G 2 Z (S.len Z Z (fun r=>.G 2 Z (.K Z Z w (.G 7 Z (.nil ?_)))));obtain rfl:=oi k;refine b5 (Sub.en Z);refine AWP.U Z h (fun aa h=> ?_) (fun aa h=> ?_);refine AWP.gk 2 Z (.ret (e8 ?_));obtain rfl:=oi h;exact Done.ret Z Z;refine AWP.skip (b5 (.j ?_));obtain⟨av,A,y,O,L,ac,h⟩:=b3 h;obtain⟨ay,p,D,ad,h⟩:=b2 h;refine AWP.sub (s':=⟨[(0,.c (row 1 d7 f)),(1,(cR a)),(5,(cI B)),(31,(cB t9))],[.dead,.dead,.dead,.dead,.dead]⟩) (Sub.cut ⟨Z,Z,Z,Z,Y⟩ Z ⟨.dead,.dead,.dead,.dead,.dead,Y⟩ Z) (.drawTI [.c (.own 0 0 (([]:LL).length)),.c (row 1 d7 f),(cI B),.c (row 1 d7 av),.c (.own 1 0 (jn y)),(cR a),.c (.own 2 0 ([a].length)),.c (.own 3 0 (jn L)),.c (row 1 d7 f),(cI B),.c (row 1 d7 ay),.c (.own 4 0 (jn D)),.c (.own 4 0 (jn D))] [0,4,6,7,11] [([],[.dead,.dead,.dead,.dead,.dead]),([0],[(oV 1 d7 ([]:LL)),.dead,.dead,.dead,.dead]),([0,4],[.dead,(oV 1 d7 y),.dead,.dead,.dead]),([6],[.dead,.dead,(oV 1 d7 [a]),.dead,.dead]),([0,6],[(oV 1 d7 ([]:LL)),.dead,(oV 1 d7 [a]),.dead,.dead]),([0,4,6],[.dead,(oV 1 d7 y),(oV 1 d7 [a]),.dead,.dead]),([0,4,6,7],[.dead,.dead,(oV 1 d7 [a]),(oV 1 d7 L),.dead]),([0,4,6,7,11],[.dead,.dead,(oV 1 d7 [a]),.dead,(oV 1 d7 D)])] [.dead,.dead,(oV 1 d7 [a]),.dead,(oV 1 d7 D)] mixed Z Z Z Z Z ?_ ?_);refine O6.cons ?_ ?_;apply g8.eff;exact Z;exact Z;exact Z;exact Z;intro E i;(refine AOps.newAt 0 (.c (.own 0 0 (([]:LL).length))) (vec 1 d7 ([]:LL)) (.inl Z) Z i Z Z Z Z (.vec) (.vec) Z Z Z ⟨.dead,.dead,.dead,.dead,.dead,Y⟩ (fun x=>by(refine S.lit (f:=d7) (l:=[]) (ess:=[]) Z Z Z Z Z Z Z trivial Z Z Z ?_;exact x)) ?_);exact AOps.nil ⟨Z,Z⟩;refine g8.go Z Z Z (fun E i=>.F Z Z .N) (g8.go Z Z Z (fun E i=>.F Z Z .N) (g8.go Z Z Z (fun E i=>S.subTo A Z Z Z .N) (g8.no Z (g8.go Z Z Z (fun E i=>.F Z Z .N) ?_))));apply g8.eff;exact Z;exact Z;exact Z;exact Z;intro E i;(refine AOps.newAt 2 (.c (.own 2 0 ([a].length))) (vec 1 d7 [a]) (.inl Z) Z i Z Z Z Z (.vec) (.vec) Z Z Z ⟨.dead,.dead,.dead,.dead,.dead,Y⟩ (fun x=>by(refine S.lit (f:=d7) (l:=[a]) (ess:=[[row 1 intI a]]) Z Z Z Z Z Z Z ⟨⟨.inl Z,Y⟩,Y⟩ Z Z Z ?_;exact x)) ?_);exact AOps.nil ⟨Z,Z⟩;exact g8.no Z (g8.go Z Z Z (fun E i=>.F Z Z .N) (g8.go Z Z Z (fun E i=>.F Z Z .N) (g8.go Z Z Z (fun E i=>S.subFrom p Z Z Z .N) (g8.no Z (g8.no Z (g8.nil))))));refine O6.cons ?_ ?_;refine g8.no Z (g8.go Z Z Z (fun E i=>.F Z Z .N) (g8.go Z Z Z (fun E i=>.F Z Z .N) (g8.go Z Z Z (fun E i=>S.subTo A Z Z Z .N) ?_)));apply g8.eff;exact Z;exact Z;exact Z;exact Z;intro E i;(refine AOps.newAt 1 (.c (.own 1 0 (jn y))) (vec 1 d7 y) (.inr ⟨0,Z⟩) Z i Z Z Z Z (.vec) (.vec) Z Z Z ⟨.dead,.dead,.dead,.dead,.dead,Y⟩ (fun x=>by(refine S.append (f:=d7) O Z Z Z Z Z Z .row Z Z Z Z ?_;exact x)) ?_);exact AOps.nil ⟨Z,Z⟩;refine g8.go Z Z Z (fun E i=>.F Z Z .N) ?_;apply g8.eff;exact Z;exact Z;exact Z;exact Z;intro E i;(refine AOps.newAt 2 (.c (.own 2 0 ([a].length))) (vec 1 d7 [a]) (.inl Z) Z i Z Z Z Z (.vec) (.vec) Z Z Z ⟨.vec,.dead,.dead,.dead,.dead,Y⟩ (fun x=>by(refine S.lit (f:=d7) (l:=[a]) (ess:=[[row 1 intI a]]) Z Z Z Z Z Z Z ⟨⟨.inl Z,Y⟩,Y⟩ Z Z Z ?_;exact x)) ?_);exact AOps.nil ⟨Z,Z⟩;exact g8.no Z (g8.go Z Z Z (fun E i=>.F Z Z .N) (g8.go Z Z Z (fun E i=>.F Z Z .N) (g8.go Z Z Z (fun E i=>S.subFrom p Z Z Z .N) (g8.no Z (g8.no Z (g8.nil))))));refine O6.cons ?_ ?_;refine g8.no Z (g8.no Z (g8.no Z (g8.no Z (g8.no Z (g8.go Z Z Z (fun E i=>.F Z Z .N) ?_)))));apply g8.eff;exact Z;exact Z;exact Z;exact Z;intro E i;(refine AOps.newAt 2 (.c (.own 2 0 ([a].length))) (vec 1 d7 [a]) (.inl Z) Z i Z Z Z Z (.vec) (.vec) Z Z Z ⟨.dead,.vec,.dead,.dead,.dead,Y⟩ (fun x=>by(refine S.lit (f:=d7) (l:=[a]) (ess:=[[row 1 intI a]]) Z Z Z Z Z Z Z ⟨⟨.inl Z,Y⟩,Y⟩ Z Z Z ?_;exact x)) ?_);exact AOps.nil ⟨Z,Z⟩;exact g8.no Z (g8.go Z Z Z (fun E i=>.F Z Z .N) (g8.go Z Z Z (fun E i=>.F Z Z .N) (g8.go Z Z Z (fun E i=>S.subFrom p Z Z Z .N) (g8.no Z (g8.no Z (g8.nil))))));refine O6.cons ?_ ?_;apply g8.eff;exact Z;exact Z;exact Z;exact Z;intro E i;(refine AOps.newAt 0 (.c (.own 0 0 (([]:LL).length))) (vec 1 d7 ([]:LL)) (.inl Z) Z i Z Z Z Z (.vec) (.vec) Z Z Z ⟨.dead,.dead,.vec,.dead,.dead,Y⟩ (fun x=>by(refine S.lit (f:=d7) (l:=[]) (ess:=[]) Z Z Z Z Z Z Z trivial Z Z Z ?_;exact x)) ?_);exact AOps.nil ⟨Z,Z⟩;exact g8.go Z Z Z (fun E i=>.F Z Z .N) (g8.go Z Z Z (fun E i=>.F Z Z .N) (g8.go Z Z Z (fun E i=>S.subTo A Z Z Z .N) (g8.no Z (g8.no Z (g8.no Z (g8.no Z (g8.go Z Z Z (fun E i=>.F Z Z .N) (g8.go Z Z Z (fun E i=>.F Z Z .N) (g8.go Z Z Z (fun E i=>S.subFrom p Z Z Z .N) (g8.no Z (g8.no Z (g8.nil))))))))))));refine O6.cons ?_ ?_;refine g8.no Z (g8.go Z Z Z (fun E i=>.F Z Z .N) (g8.go Z Z Z (fun E i=>.F Z Z .N) (g8.go Z Z Z (fun E i=>S.subTo A Z Z Z .N) ?_)));apply g8.eff;exact Z;exact Z;exact Z;exact Z;intro E i;(refine AOps.newAt 1 (.c (.own 1 0 (jn y))) (vec 1 d7 y) (.inr ⟨0,Z⟩) Z i Z Z Z Z (.vec) (.vec) Z Z Z ⟨.dead,.dead,.vec,.dead,.dead,Y⟩ (fun x=>by(refine S.append (f:=d7) O Z Z Z Z Z Z .row Z Z Z Z ?_;exact x)) ?_);exact AOps.nil ⟨Z,Z⟩;exact g8.no Z (g8.no Z (g8.no Z (g8.go Z Z Z (fun E i=>.F Z Z .N) (g8.go Z Z Z (fun E i=>.F Z Z .N) (g8.go Z Z Z (fun E i=>S.subFrom p Z Z Z .N) (g8.no Z (g8.no Z (g8.nil))))))));refine O6.cons ?_ ?_;refine g8.no Z (g8.no Z (g8.no Z (g8.no Z (g8.no Z (g8.no Z (g8.no Z ?_))))));apply g8.eff;exact Z;exact Z;exact Z;exact Z;intro E i;(refine AOps.newAt 3 (.c (.own 3 0 (jn L))) (vec 1 d7 L) (.inr ⟨1,Z⟩) Z i Z Z Z Z (.vec) (.vec) Z Z Z ⟨.dead,.dead,.vec,.dead,.dead,Y⟩ (fun x=>by(refine S.append (f:=d7) ac Z Z Z Z Z Z (.own Z Z) Z Z Z Z ?_;exact x)) ?_);exact AOps.nil ⟨Z,Z⟩;exact g8.go Z Z Z (fun E i=>.F Z Z .N) (g8.go Z Z Z (fun E i=>.F Z Z .N) (g8.go Z Z Z (fun E i=>S.subFrom p Z Z Z .N) (g8.no Z (g8.no Z (g8.nil)))));refine O6.cons ?_ ?_;refine g8.no Z (g8.no Z (g8.no Z (g8.no Z (g8.no Z (g8.no Z (g8.no Z (g8.no Z (g8.go Z Z Z (fun E i=>.F Z Z .N) (g8.go Z Z Z (fun E i=>.F Z Z .N) (g8.go Z Z Z (fun E i=>S.subFrom p Z Z Z .N) ?_))))))))));apply g8.eff;exact Z;exact Z;exact Z;exact Z;intro E i;(refine AOps.newAt 4 (.c (.own 4 0 (jn D))) (vec 1 d7 D) (.inr ⟨3,Z⟩) Z i Z Z Z Z (.vec) (.vec) Z Z Z ⟨.dead,.dead,.vec,.dead,.dead,Y⟩ (fun x=>by(refine S.append (f:=d7) ad Z Z Z Z Z Z .row Z Z Z Z ?_;exact x)) ?_);exact AOps.nil ⟨Z,Z⟩;refine g8.no Z (g8.nil);refine O6.cons ?_ ?_;exact g8.no Z (g8.no Z (g8.no Z (g8.no Z (g8.no Z (g8.no Z (g8.no Z (g8.no Z (g8.no Z (g8.no Z (g8.no Z (g8.no Z (g8.go Z Z Z (fun E i=>.E Z Z .N) g8.nil))))))))))));exact O6.nil;dsimp only[g9];refine b5 (.fz 4 [4] Z Z Z Z ⟨Z,Y⟩ (.d (.d (.v (.d (.d .n))))) (AWP.ret ?_));obtain rfl:=oi h;exact Done.ret Z Z
def B4(h:C8 f a=some y):e9 prog 11 [.c (row 1 d7 f),(cR a)] ((cI y)):=by unfold e9;refine FnOk.enter (rs:=[.t 4]) func11 Z ntmps11 results11 Z ⟨Y,Y⟩ (by kernel_rfl) Z ?_;refine AWP.gk 1 Z (.j (.gk 1 Z (.u (bB h fun K p h=>.rngL p (fun b _=>⟨[(0,.c (row 1 d7 f)),(1,(cR a)),(5,(cI b))],[]⟩) (fun x e st=>e=.ret/\Done [.t 4] (fun t _=>t=(cI x)) .ret st) (fun _ _ _ k=>.G 2 Z (S.len Z Z fun w=>.gn 1 Z (k w))) (fun _ _=>Z) ?_ ?_ ?_ ?_))));exact Sub.en Z;intro b s o i n h A;refine AWP.j (.u (.j (bC h fun B d D g h=>.G 2 Z (S.idx d Z Z Z Z (.G 2 Z (.z Z Z Z Z (ao4 g) Z (.nil (b5 (.U Z h (fun q h=> ?_) (fun q h=> ?_))))))))));refine AWP.gk 2 Z (.ret (i5 (e8 ?_)));obtain rfl:=oi h;exact e8 ⟨_,Z,Z,(Done.ret Z Z)⟩;refine AWP.skip (d6 (b5 (.G 1 Z (.add Z Z Z (by omega) (.E Z Z (.nil ?_))))));obtain rfl:=oi h;exact b5 ⟨_,Z,(Sub.en Z)⟩;intro L _ v;subst v;refine f9 (b5 (.gk 1 Z (.ret ?_)));obtain rfl:=oi h;exact Done.ret Z Z;intro x e st v F;subst v;obtain⟨rfl,H⟩:=F;refine ⟨_,Sub.refl _ _,(i5 (e8 ?_))⟩;obtain rfl:=oi h;exact H
def O9{op:Int}{r:(LL)×Li}(h:J7 d a op=some r):e9 prog 44 [.agg (tO d),(cR a),(cI op)] (.tup [.c (row 1 d7 r.1),(cR r.2)]):=by
 unfold e9;refine FnOk.enter (rs:=[.t 6,.t 7]) func44 Z ntmps44 results44 Z ⟨Y,Y,Y⟩ (by kernel_rfl) Z ?_;refine AWP.gk 3 Z (.gk 1 Z (.j (bB h fun q s h=>.G 3 Z (S.idx s Z Z Z Z (.G 3 Z (.nil (b5 (.j (.gk 1 Z (.u (bB h fun b P h=>.forL P (fun w b=>⟨[(1,(cR a)),(3,(cP 0 0 0)),(8,.c (row 1 d7 b)),(9,.c (row 3 B8 q.outcomes)),(10,(cI w))],[(oE 4 (tO d))]⟩) (fun _ _ _ k=>.G 2 Z (S.len Z Z fun Q=>.gn 1 Z (k Q))) (fun _ _=>Z) ?_ ?_ ?_)))))))))));exact(Sub.nilrow 1 8 Z).trans (Sub.en Z);intro w b o J K h aa;refine AWP.j (.u (bD h fun al x an y ao A h=>.drawI mixed Z (b7.D 5 Z (b7.consF Z (fun E=>S.idx x Z Z Z Z .N) Z (b7.D 1 Z (b7.consF Z (fun E=>.z Z Z Z Z (p8.data (az6 y)) Z .N) Z (.consF Z (fun E=>.z Z Z Z Z (aq7 A) Z .N) Z (b7.D 1 Z (b7.done ?_)))))))));dsimp only[g9];refine d6 (b5 (.G 1 Z (.add Z Z Z (by omega) (.E Z Z (.nil ?_)))));obtain rfl:=oi h;refine b5 (Sub.en Z);intro iz;refine f9 (b5 (.j (bB h fun av B h=>.G 1 Z (S.len Z Z (fun ac=>S.make (f:=intI) B (.val .nil) Z Z Z Z Z Z (.E Z Z (.nil (b5 (.j (.gk 1 Z (.u (bB h fun L U h=>.forL U (fun F L=>⟨[(1,(cR a)),(3,(cP 0 0 0)),(8,.c (row 1 d7 b)),(9,.c (row 3 B8 q.outcomes)),(11,.c (.own 1 0 (jn L))),(12,(cI F))],[(oE 4 (tO d)),(oV 1 intI L)]⟩) (fun _ _ _ k=>.G 2 Z (S.len Z Z fun Q=>.gn 1 Z (k Q))) (fun _ _=>Z) ?_ ?_ ?_))))))))))));exact Sub.en Z;intro F L o M O h ad;refine AWP.j (.u (.j (bD h fun ay i a0 H a1 l h=>.drawEI [7] mixed Z Z Z (b8.D 5 Z Z (b8.consN Z Z (fun E=>S.idx i Z Z Z Z .N) Z (b8.D 1 Z Z ?_))))));apply b8.consE;exact Z;exact Z;intro E;refine S.fresh Z Z Z Z (az6 H) Z Z .N;exact Z;exact Z;refine b8.consN Z Z (fun E=>.ab Z Z (.cons (.c .imm) (.cons (.c (.own Z Z)) .nil)) Z (B4 l) Z .N) Z (b8.D 1 Z Z (b8.done Z ?_ ?_));refine d8.D 5 Z Z (d8.cons Z Z (.go Z Z (fun E=>S.idx i Z Z Z Z .N) (.skip Z .nil)) (d8.D 2 Z Z (d8.cons Z Z ?_ ?_)));exact d9.skip Z (d9.go Z Z (fun E=>.ab Z Z (.cons (.c .imm) (.cons (.c (.own Z Z)) .nil)) Z (B4 l) Z .N) d9.nil);refine d8.D 1 Z Z (d8.nil);dsimp only[g9];refine b5 (bD h fun V e X p a2 g h=>.drawEI [13] mixed Z Z Z (b8.D 4 Z Z (b8.consN Z Z (fun E=>S.idxO e Z Z Z Z Z .N) Z (.consN Z Z (fun E=>S.loadO e Z Z Z Z Z .N) Z (b8.D 2 Z Z (b8.consN Z Z (fun E=>S.idx p Z Z Z Z .N) Z (b8.D 3 Z Z (b8.consN Z Z (fun E=>S.idxO g Z Z Z Z Z .N) Z ?_))))))));apply b8.consE (v:=.undef);exact Z;exact Z;intro E;exact S.storeO1 (f:=intI) (a':=w64 (V+X.weight)) (s9 g) (fun _=>⟨_,Z⟩) Z Z Z Z Z (AOps.nil ⟨Z,Z⟩);exact Z;exact Z;refine b8.done Z ?_ ?_;exact d8.D 4 Z Z (d8.cons Z Z (.go Z Z (fun E=>S.idxO e Z Z Z Z Z .N) (.skip Z .nil)) (.cons Z Z (.go Z Z (fun E=>S.loadO e Z Z Z Z Z .N) (.skip Z .nil)) (d8.D 2 Z Z (d8.cons Z Z (.go Z Z (fun E=>S.idx p Z Z Z Z .N) (.skip Z .nil)) (d8.D 3 Z Z (d8.cons Z Z (.go Z Z (fun E=>S.idxO g Z Z Z Z Z .N) (.skip Z .nil)) (d8.D 1 Z Z (d8.nil))))))));dsimp only[g9];refine d6 (b5 (.G 1 Z (.add Z Z Z (by omega) (.E Z Z (.nil ?_)))));obtain rfl:=oi h;refine b5 (Sub.ctE ⟨Z,Z,Z,Z,(n8 (by first|rfl|simp only[lS])),Z,Y⟩ Z (.o Z (.v .n)))
 intro iz;refine f9 (b5 (.gk 4 Z (.fz 1 [6,7] Z Z Z Z ⟨Z,Y⟩ (.o Z Y (.d .n)) (AWP.ret ?_))));obtain rfl:=oi h;exact Done.ret Z Z
def ref8_Reached_ok{most:Int}{r:(LL)×Bool}(h:A7 d most=some r):e9 prog 7 [.agg (tO d),(cI most)] (.tup [.c (row 1 d7 r.1),(cB r.2)]):=by
 unfold e9;refine FnOk.enter (rs:=[.t 4,.t 5]) func7 Z ntmps7 results7 Z ⟨Y,Y,Y⟩ (by kernel_rfl) Z ?_;refine AWP.gk 3 Z (.gs 2 Z (S.lit (f:=d7) (l:=[d.init]) (ess:=[[row 1 intI d.init]]) Z Z Z Z Z Z Z ⟨⟨.inl Z,Y⟩,Y⟩ Z Z Z (.ge 1 Z (.gk 1 Z (.j (bC h fun aa ac ci ad h=>.G 3 Z (.z Z Z Z Z (aw2 ac) Z (S.lit (f:=intI) (l:=[aa]) (ess:=[[int aa]]) Z Z Z Z Z Z Z ⟨⟨.inl Z,Y⟩,Y⟩ Z Z Z (S.appendNil (f:=intI) ad Z Z Z Z (.own Z Z) Z Z Z (.E Z Z (.nil (b5 (.j (.gk 1 Z (.u (bB h fun oo b0 h=>.loopS b0 (fun(c3,c4,b)=>⟨[(1,(cI most)),(2,(cP 0 0 0)),(6,.c (.own 1 0 (jn c3))),(7,.c (.own 3 0 (jn c4))),(8,(cI b))],[(oE 4 (tO d)),(oV 1 d7 c3),.dead,(oV 1 intI c4)]⟩) (fun o e st=>match o with| .inl c6=>e=.exit 0/\Sub [] st ⟨[(6,.c (.own 1 0 (jn c6)))],[.dead,(oV 1 d7 c6)]⟩| .inr x=>e=.ret/\Done [.t 4,.t 5] (fun t _=>t=.tup [.c (row 1 d7 x.1),(cB x.2)]) .ret st) ?_ ?_ ?_))))))))))))))))
 exact Sub.ct Z Z (.o Z (.v (.d (.v .n))));intro s o h;obtain⟨c3,c4,b⟩:=s;refine AWP.j (.gs 2 Z (S.lenO Z Z Z (fun cc=>.ge 1 Z (.O Z h (fun b1 h=> ?_) (fun b1 h=> ?_)))));refine AWP.skip (b5 (.j (.u (.gk 1 Z (.u (bB h fun oo b4 h=>.rngL b4 (fun a (c8,c9)=>⟨[(1,(cI most)),(2,(cP 0 0 0)),(6,.c (.own 1 0 (jn c8))),(7,.c (.own 3 0 (jn c9))),(8,(cI b)),(9,(cI a))],[(oE 4 (tO d)),(oV 1 d7 c8),.dead,(oV 1 intI c9)]⟩) (fun x e st=>e=.ret/\Done [.t 4,.t 5] (fun t _=>t=.tup [.c (row 1 d7 x.1),(cB x.2)]) .ret st) (fun _ _ _ k=>.G 3 Z (S.len Z Z fun hl=>.gn 1 Z (k hl))) (fun _ _=>Z) ?_ ?_ ?_ ?_))))));exact Sub.en Z;intro a s o al an h cd;obtain⟨c8,c9⟩:=s;refine AWP.seqF (W2) o (fun(K,L)=>⟨[(1,(cI most)),(2,(cP 0 0 0)),(6,.c (.own 1 0 (jn K))),(7,.c (.own 3 0 (jn L))),(8,(cI b)),(9,(cI a))],[(oE 4 (tO d)),(oV 1 d7 K),.dead,(oV 1 intI L)]⟩) (fun x h=> ?_) ?_;obtain⟨K,L⟩:=x;refine AWP.G 1 Z (.add Z Z Z (by omega) (.E Z Z (.nil ?_)));obtain rfl:=oi h;exact b5 ⟨_,Z,(Sub.en Z)⟩;refine AWP.u (.j (.j (bC h fun cj w ck ao h=>.drawI mixed Z (b7.D 3 Z (b7.consF Z (fun E=>S.idxO w Z Z Z Z Z .N) Z (.consF Z (fun E=>S.loadO w Z Z Z Z Z .N) Z (b7.D 1 Z (b7.consF Z (fun E=>.z Z Z Z Z (y7 ao) Z .N) Z (b7.D 1 Z (b7.done ?_))))))))));dsimp only[g9];refine b5 (.U Z h (fun av h=> ?_) (fun av h=> ?_));exact AWP.exit (i7 (f9 (b5 ⟨_,h,(Sub.en Z)⟩)));refine AWP.skip (b5 (.j (bC h fun cl y M ay h=>.drawI mixed Z (b7.D 3 Z (b7.consF Z (fun E=>S.idxO y Z Z Z Z Z .N) Z (.consF Z (fun E=>S.loadO y Z Z Z Z Z .N) Z (b7.D 1 Z (b7.consF Z (fun E=>.z Z Z Z Z (O9 ay) Z .N) Z (b7.D 5 Z (b7.done ?_))))))))));dsimp only[g9];refine b5 (.gk 1 Z (.u (bB h fun oo ca h=>.rngL ca (fun i (q,p)=>⟨[(1,(cI most)),(2,(cP 0 0 0)),(6,.c (.own 1 0 (jn q))),(7,.c (.own 3 0 (jn p))),(8,(cI b)),(9,(cI a)),(10,.c (row 1 d7 M.1)),(12,(cI i))],[(oE 4 (tO d)),(oV 1 d7 q),.dead,(oV 1 intI p)]⟩) (fun x e st=>e=.ret/\Done [.t 4,.t 5] (fun t _=>t=.tup [.c (row 1 d7 x.1),(cB x.2)]) .ret st) (fun _ _ _ k=>.G 2 Z (S.len Z Z fun hl=>.gn 1 Z (k hl))) (fun _ _=>Z) ?_ ?_ ?_ ?_)));exact Sub.en Z;intro i s o a0 a1 h ce;obtain⟨q,p⟩:=s;refine AWP.seqF (W5) o (fun(P,Q)=>⟨[(1,(cI most)),(2,(cP 0 0 0)),(6,.c (.own 1 0 (jn P))),(7,.c (.own 3 0 (jn Q))),(8,(cI b)),(9,(cI a)),(10,.c (row 1 d7 M.1)),(12,(cI i))],[(oE 4 (tO d)),(oV 1 d7 P),.dead,(oV 1 intI Q)]⟩) (fun x h=> ?_) ?_;obtain⟨P,Q⟩:=x;refine AWP.G 1 Z (.add Z Z Z (by omega) (.E Z Z (.nil ?_)));obtain rfl:=oi h;exact b5 ⟨_,Z,(Sub.en Z)⟩;refine AWP.u (.j (.j (bD h fun cm a2 cn a3 cv a4 h=>.G 3 Z (S.idx a2 Z Z Z Z (.G 1 Z (.z Z Z Z Z (aw2 a3) Z (.ab Z Z (.cons (.c (.own Z Z)) (.cons (.c .imm) .nil)) Z (M5 a4) Z (.nil (b5 (.U Z h (fun a5 h=> ?_) (fun a5 h=> ?_)))))))))));exact AWP.exit (i7 (f9 (b5 ⟨_,h,(Sub.en Z)⟩)));refine AWP.skip (b5 (.j (.gs 1 Z (S.lenO Z Z Z (fun cf=>.ge 2 Z (.O Z h (fun a6 h=> ?_) (fun a6 h=> ?_)))))));refine AWP.gk 2 Z (.nilrow 1 4 Z (.ret (e8 (i5 (e8 ?_)))));obtain rfl:=oi h;exact e8 ⟨_,Z,Z,(Done.ret Z Z)⟩;exact AWP.skip (b5 (.j (bC h fun V a7 a8 a9 h=>.G 3 Z (S.idx a7 Z Z Z Z (.G 1 Z (S.lit (f:=d7) (l:=[V]) (ess:=[[row 1 intI V]]) Z Z Z Z Z Z Z ⟨⟨.inl Z,Y⟩,Y⟩ Z Z Z (S.append (f:=d7) a9 Z Z Z Z Z Z (.own Z Z) Z Z Z Z (.E Z Z (.nil (b5 (.F (env':=[(1,(cI most)),(2,(cP 0 0 0)),(6,.c (.own 1 0 (jn a8))),(7,.c (.own 3 0 (jn p))),(8,(cI b)),(9,(cI a)),(10,.c (row 1 d7 M.1)),(12,(cI i))]) (σ':=[(oE 4 (tO d)),(oV 1 d7 a8),.dead,(oV 1 intI p),(oV 1 d7 [V])]) 1 5 Z Z Z ⟨Z,Z,Z,Z,Z,Z,Z,Z,Y⟩ Z ⟨⟨Z,Z⟩,⟨Blk.im_ok _ _ _,k8 Z⟩,Y,⟨Blk.im_ok _ _ _,k8 Z⟩,⟨Blk.im_ok _ _ _,k8 Z⟩,Y⟩ (bD h fun cz be bi bj c0 bk h=>.G 3 Z (S.idx be Z Z Z Z (.G 1 Z (.z Z Z Z Z (aw2 bj) Z (S.lit (f:=intI) (l:=[bi]) (ess:=[[int bi]]) Z Z Z Z Z Z Z ⟨⟨.inl Z,Y⟩,Y⟩ Z Z Z (S.append (f:=intI) bk Z Z Z Z Z Z (.own Z Z) Z Z Z Z (.E Z Z (.nil (d6 (b5 ⟨_,h,(Sub.mv 3 6 Z Z (.o Z Z (.v Z (.d (.v Z .n)))))⟩)))))))))))))))))))));intro iz s X;obtain⟨q,p⟩:=s;subst X;exact f9 (d6 (b5 ⟨_,h,(Sub.en Z)⟩));intro x e st X A;subst X;obtain⟨rfl,hs⟩:=A;refine ⟨_,Sub.refl _ _,(i5 (i5 (e8 ?_)))⟩;obtain rfl:=oi h;exact e8 ⟨_,Z,Z,hs⟩;intro iz s X;obtain⟨c8,c9⟩:=s;subst X;refine f9 (d6 (b5 (.G 3 Z (.nil ?_))));obtain rfl:=oi h;exact b5 ⟨_,Z,(Sub.en Z)⟩;intro x e st X A;subst X;obtain⟨rfl,hs⟩:=A;refine ⟨_,Sub.refl _ _,(i5 (i5 (e8 ?_)))⟩;obtain rfl:=oi h;exact e8 ⟨_,Z,Z,hs⟩;refine AWP.exit (i7 ?_);obtain rfl:=oi h;exact i7 ⟨_,Z,Z,(Sub.ct Z Z (.d (.v .n)))⟩;intro e s A;rcases oo with c6|x;try dsimp only at h A
 obtain⟨rfl,hs⟩:=A;refine ⟨_,hs,(f9 (b5 (.gk 1 Z (.j (.gk 1 Z (.u (bB h fun g cb h=>.forL cb (fun B g=>⟨[(6,.c (.own 1 0 (jn c6))),(13,.c (row 1 d7 g)),(14,(cI B))],[.dead,(oV 1 d7 c6)]⟩) (fun _ _ _ k=>.G 2 Z (S.lenO Z Z Z fun hl=>.gn 1 Z (k hl))) (fun _ _=>Z) ?_ ?_ ?_)))))))⟩;exact(Sub.nilrow 1 13 Z).trans (Sub.en Z);intro B g o bs bv h ch;refine AWP.j (.u (bC h fun c1 H c2 bx h=>.G 3 Z (S.idxO H Z Z Z Z Z (S.loadO H Z Z Z Z Z (.z Z Z Z Z (aq7 bx) Z (.E Z Z (.nil (d6 (b5 (.G 1 Z (.add Z Z Z (by omega) (.E Z Z (.nil ?_)))))))))))));obtain rfl:=oi h;refine b5 (Sub.en Z);intro iz;refine f9 (b5 (.gk 3 Z (.ret ?_)));obtain rfl:=oi h;exact Done.ret Z Z;try dsimp only at h A
 obtain⟨rfl,hs⟩:=A;refine ⟨_,Sub.refl _ _,(i5 (e8 ?_))⟩;obtain rfl:=oi h;exact hs
def law8_coin_ok(h:law8_coin=some d):e9 prog 47 [] (.agg (tO d)):=by unfold e9;refine FnOk.enter (rs:=[.cell 0 25 4]) func47 Z ntmps47 results47 Z ⟨rv _ Z,Y⟩ (by kernel_rfl) Z ?_;refine AWP.gk 1 Z (.j (.aa (S.lit (f:=intI) (l:=[0]) (ess:=[[int 0]]) Z Z Z Z Z Z Z ⟨⟨.inl Z,Y⟩,Y⟩ Z Z Z (S.lit (f:=intI) (l:=[0]) (ess:=[[int 0]]) Z Z Z Z Z Z Z ⟨⟨.inl Z,Y⟩,Y⟩ Z Z Z (.G 2 Z (.fz 2 [0,1,3,4] Z Z Z Z ⟨Z,Y⟩ (.o Z Y (.v (.d .n))) (S.lit (f:=B8) (l:=[(⟨[0],[],1⟩:u6),(⟨[],[],2⟩:u6)]) (ess:=[[row 1 intI [0],.imm (.val nL),int 1],[.imm (.val nL),.imm (.val nL),int 2]]) Z Z Z Z Z Z Z ⟨⟨.inl Z,.inr ⟨Z,_,Z⟩,.inl Z,Y⟩,⟨.inr ⟨Z,_,Z⟩,.inr ⟨Z,_,Z⟩,.inl Z,Y⟩,Y⟩ Z Z Z (.G 1 Z (.fz 3 [0,1,6] Z Z Z Z ⟨Z,Y⟩ (.o Z Y (.v (.d (.d .n)))) (S.lit (f:=g7) (l:=[(⟨[],[(⟨[0],[],1⟩:u6),(⟨[],[],2⟩:u6)],1⟩:i9)]) (ess:=[[.imm (.val nL),row 3 B8 ([(⟨[0],[],1⟩:u6),(⟨[],[],2⟩:u6)]),int 1]]) Z Z Z Z Z Z Z ⟨⟨.inr ⟨Z,_,Z⟩,.inl Z,.inl Z,Y⟩,Y⟩ Z Z Z (.ge 2 Z (.fz 1 [0] Z Z Z Z Y (.o Z ⟨Z,Y⟩ (.d (.d (.d (.v .n))))) (AWP.fz 4 [0] Z Z Z Z Y (.o Z ⟨Z,Y⟩ (.d (.d (.d (.d .n))))) (AWP.nilB (b:=0) [int 1,row 1 intI [],row 1 intI [0],row 3 g7 ([(⟨[],[(⟨[0],[],1⟩:u6),(⟨[],[],2⟩:u6)],1⟩:i9)])] Z (by exact⟨.inl Z,.inr ⟨Z,_,Z⟩,.inl Z,.inl Z,Y⟩) Z Z (.ret ?_)))))))))))))));obtain rfl:=oi h;exact Done.ret Z Z
def ap4{y:List f8}(h:Y2 i y=some b):e9 prog 17 [.c (row 2 j3 i),.c (row 2 j3 y)] ((cB b)):=by unfold e9;refine FnOk.enter (rs:=[.t 4]) func17 Z ntmps17 results17 Z ⟨Y,Y⟩ (by kernel_rfl) Z ?_;refine AWP.gk 1 Z (.j (.gs 1 Z (S.len Z Z (fun Q=>.F Z Z (S.len Z Z (fun V=>.ge 1 Z (.iteN Z h (fun A h=> ?_) (fun A h=> ?_))))))));refine AWP.gk 1 Z (.ret (e8 ?_));obtain rfl:=oi h;exact Done.ret Z Z;refine AWP.skip (b5 (.j (.gk 1 Z (.u (bB h fun oo B h=>.rngL B (fun l _=>⟨[(0,.c (row 2 j3 i)),(1,.c (row 2 j3 y)),(5,(cI l))],[]⟩) (fun x e st=>e=.ret/\Done [.t 4] (fun t _=>t=(cB x)) .ret st) (fun _ _ _ k=>.G 2 Z (S.len Z Z fun X=>.gn 1 Z (k X))) (fun _ _=>Z) ?_ ?_ ?_ ?_)))));exact Sub.en Z;intro l s o v w h P;refine AWP.j (.u (bB h fun t5 a h=>.jP [0,1,5] [(41,(cB t5))] Z ?_ ?_));obtain⟨H,f,L,g,a⟩:=b2 a;rcases bft (!(decide (H.operator=L.operator))) with d|d;replace a:=y5 d a;refine AWP.drawI mixed Z (b7.D 2 Z (b7.consF Z (fun E=>S.idx f Z Z Z Z .N) Z (b7.D 4 Z (b7.consF Z (fun E=>S.idx g Z Z Z Z .N) Z (b7.D 4 Z (b7.K Z d Z (b7.D 13 Z (b7.done ?_))))))));dsimp only[g9];obtain rfl:=oi a;refine b5 (Sub.en Z);replace a:=y6 d a;obtain⟨r,n,aa,p,ac,q,a⟩:=b3 a;refine AWP.drawI mixed Z (b7.D 2 Z (b7.consF Z (fun E=>S.idx f Z Z Z Z .N) Z (b7.D 4 Z (b7.consF Z (fun E=>S.idx g Z Z Z Z .N) Z (b7.D 4 Z (b7.K Z d Z (b7.D 2 Z (b7.consF Z (fun E=>.J Z Z Z Z (S.idx n Z Z Z Z .N)) Z (b7.D 4 Z (b7.consF Z (fun E=>.J Z Z Z Z (S.idx p Z Z Z Z .N)) Z (b7.D 2 Z (b7.consF Z (fun E=>.J Z Z Z Z (.z Z Z Z Z (ao4 q) Z .N)) Z (b7.D 2 Z (b7.done ?_))))))))))))));dsimp only[g9];obtain rfl:=oi a;refine b5 (Sub.en Z);refine AWP.U Z h (fun M h=> ?_) (fun M h=> ?_);refine AWP.gk 1 Z (.ret (i5 (e8 ?_)));obtain rfl:=oi h;exact e8 ⟨_,Z,Z,(Done.ret Z Z)⟩;refine AWP.skip (d6 (b5 (.G 1 Z (.add Z Z Z (by omega) (.E Z Z (.nil ?_))))));obtain rfl:=oi h;exact b5 ⟨_,Z,(Sub.en Z)⟩;intro iz _ O;subst O;refine f9 (b5 (.gk 1 Z (.ret ?_)));obtain rfl:=oi h;exact Done.ret Z Z;intro x e st O hq;subst O;obtain⟨rfl,hs⟩:=hq;refine ⟨_,Sub.refl _ _,(i5 (e8 ?_))⟩;obtain rfl:=oi h;exact hs
def O3(h:J4=some b):e9 prog 8 [] ((cB b)):=by unfold e9;refine FnOk.enter (rs:=[.t 0]) func8 Z ntmps8 results8 Z ⟨Y,Y⟩ (by kernel_rfl) Z ?_;refine AWP.gk 1 Z (.j (bC h fun v o k p h=>.aa (.z Z Z Z Z (law8_coin_ok o) Z (.z Z Z Z Z (aA1 p) Z (.G 11 Z (.nil (b5 (bB h fun t1 a h=>.seqJ (⟨[(0,(cB t1))],[]⟩) ?_ ?_))))))));rcases bft (decide (k.2.2.2.code=0)) with d|d;replace a:=G5 d a;rcases bft (k.2.2.1) with e|e;replace a:=y5 e a;rcases bft ((decide (k.2.1.num=3)) && (decide (k.2.1.den=1))) with g|g;replace a:=y5 g a;obtain⟨q,i,a⟩:=bind_some a;refine AWP.G 4 Z (.J Z Z Z d (.F Z Z (.pickT Z d Z Z (.F Z Z (.K Z Z e (.G 2 Z (.J Z Z Z Z (.eqlP Z Z Z Z Z Z Z (.G 2 Z (.K Z Z g (.G 2 Z (.J Z Z Z Z (S.lit (f:=j3) (l:=[(⟨[],0⟩:f8)]) (ess:=[[.imm (.val nL),int 0]]) Z Z Z Z Z Z Z ⟨⟨.inr ⟨Z,_,Z⟩,.inl Z,Y⟩,Y⟩ Z Z Z (.J Z Z Z Z (.ab Z Z (.cons (.c .imm) (.cons (.c (.own Z Z)) .nil)) Z (ap4 i) Z (.G 2 Z (.nil ?_)))))))))))))))));obtain rfl:=oi a;refine b5 (Sub.ct Z Z .n);replace a:=y6 g a;refine AWP.G 4 Z (.J Z Z Z d (.F Z Z (.pickT Z d Z Z (.F Z Z (.K Z Z e (.G 2 Z (.J Z Z Z Z (.eqlP Z Z Z Z Z Z Z (.G 2 Z (.K Z Z g (.G 6 Z (.nil ?_))))))))))));obtain rfl:=oi a;refine b5 (Sub.ct Z Z .n);replace a:=y6 e a;refine AWP.G 4 Z (.J Z Z Z d (.F Z Z (.pickT Z d Z Z (.F Z Z (.K Z Z e (.G 11 Z (.nil ?_)))))));obtain rfl:=oi a;refine b5 (Sub.ct Z Z .n);replace a:=G1 d a;refine AWP.G 4 Z (.guardF Z Z Z d (.pickF Z d Z Z (.G 12 Z (.nil ?_))));obtain rfl:=oi a;refine b5 (Sub.ct Z Z .n);refine AWP.ret ?_;obtain rfl:=oi h;exact Done.ret Z Z
def D9(h:E4 d a=some b):e9 prog 48 [.agg (tO d),(cR a)] ((cB b)):=by unfold e9;refine FnOk.enter (rs:=[.t 4]) func48 Z ntmps48 results48 Z ⟨Y,Y⟩ (by kernel_rfl) Z ?_;refine AWP.gk 2 Z (.j (bB h fun f c h=>.G 3 Z (.z Z Z Z Z (az7 c) Z (.E Z Z (.nil (b5 (.ret ?_)))))));obtain rfl:=oi h;exact Done.ret Z Z
def ref8_Pending_ok(h:ag4 d f=some g):p8 prog 10 [.agg (tO d),.c (row 1 d7 f)] 1 (iS d7 g):=by
 unfold p8;refine FnOk.enter (rs:=[.t 4]) func10 Z ntmps10 results10 Z ⟨Y,Y⟩ (by kernel_rfl) Z ?_;refine AWP.gk 2 Z (.gk 1 Z (.j (.gk 1 Z (.u (.virtV 1 d7 5 Z Z Z (bB h fun x B h=>.forL B (fun e x=>⟨[(1,.c (row 1 d7 f)),(2,(cP 0 0 0)),(5,.c (.own 1 0 (jn x))),(6,(cI e))],[(oE 4 (tO d)),(oV 1 d7 x)]⟩) (fun _ _ _ k=>.G 2 Z (S.len Z Z fun J=>.gn 1 Z (k J))) (fun _ _=>Z) ?_ ?_ ?_))))));exact Sub.env ⟨Z,Z,(n8 (by first|rfl|simp only[lS])),Z,Y⟩
 intro e x o y A h K;obtain⟨H,b,h⟩:=bind_some h;refine AWP.jQ [1,2,6] [(5,.c (.own 3 0 (jn H)))] [(oE 4 (tO d)),.dead,.dead,(oV 1 d7 H)] Z ?_ ?_;refine AWP.u (.j (bC b fun L i M p b=>.drawI mixed Z (b7.D 3 Z (b7.consF Z (fun E=>S.idx i Z Z Z Z .N) Z (b7.D 1 Z (b7.consF Z (fun E=>.z Z Z Z Z (D9 p) Z .N) Z (b7.D 1 Z (b7.done ?_))))))));dsimp only[g9];refine b5 (.U Z b (fun F b=> ?_) (fun F b=> ?_));obtain⟨q,s,O,w,b⟩:=b2 b;refine AWP.G 3 Z (S.idx s Z Z Z Z (.G 1 Z (S.lit (f:=d7) (l:=[q]) (ess:=[[row 1 intI q]]) Z Z Z Z Z Z Z ⟨⟨.inl Z,Y⟩,Y⟩ Z Z Z (S.append (f:=d7) w Z Z Z Z Z Z (.own Z Z) Z Z Z Z (.E Z Z (.nil (d6 ?_)))))));obtain rfl:=oi b;refine b5 (Sub.ct Z Z (.o Z (.d (.d (.v .n)))));refine AWP.skip (d6 ?_);obtain rfl:=oi b;refine b5 (Sub.mv 3 1 Z Z (.o Z Z (.d (.d (.v Z .n)))));refine AWP.G 1 Z (.add Z Z Z (by omega) (.E Z Z (.nil ?_)));obtain rfl:=oi h;refine b5 (Sub.mv 1 3 Z Z (.o Z Z (.v Z .n)));intro V;refine f9 (b5 (.gk 2 Z (.ret ?_)));obtain rfl:=oi h;exact Done.ret Z (Fresh.mk Z Z)
def Q9{g:List Bool}{op:Int}(h:Q4 d f g a op=some b):e9 prog 50 [.agg (tO d),.c (row 1 d7 f),.c (row 1 z6 g),(cR a),(cI op)] ((cB b)):=by unfold e9;refine FnOk.enter (rs:=[.t 10]) func50 Z ntmps50 results50 Z ⟨Y,Y⟩ (by kernel_rfl) Z ?_;refine AWP.gk 2 Z (.j (bB h fun A i h=>.G 3 Z (.z Z Z Z Z (O9 i) Z (.G 5 Z (.nil (b5 (.j (.gk 1 Z (.u (bB h fun Q B h=>.rngL B (fun l _=>⟨[(1,.c (row 1 d7 f)),(2,.c (row 1 z6 g)),(11,.c (row 1 d7 A.1)),(13,(cI l))],[]⟩) (fun x e st=>e=.ret/\Done [.t 10] (fun t _=>t=(cB x)) .ret st) (fun _ _ _ k=>.G 2 Z (S.len Z Z fun J=>.gn 1 Z (k J))) (fun _ _=>Z) ?_ ?_ ?_ ?_))))))))));exact Sub.ct Z Z .n;intro l s o w y h H;refine AWP.j (.u (.j (bD h fun K p L q M v h=>.G 4 Z (S.idx p Z Z Z Z (.G 1 Z (.z Z Z Z Z (B4 q) Z (S.idx v Z Z Z Z (.G 2 Z (.nil (b5 (.U Z h (fun D h=> ?_) (fun D h=> ?_))))))))))));refine AWP.gk 1 Z (.ret (i5 (e8 ?_)));obtain rfl:=oi h;exact e8 ⟨_,Z,Z,(Done.ret Z Z)⟩;refine AWP.skip (d6 (b5 (.G 1 Z (.add Z Z Z (by omega) (.E Z Z (.nil ?_))))));obtain rfl:=oi h;exact b5 ⟨_,Z,(Sub.en Z)⟩;intro V _ F;subst F;refine f9 (b5 (.gk 1 Z (.ret ?_)));obtain rfl:=oi h;exact Done.ret Z Z;intro x e st F N;subst F;obtain⟨rfl,O⟩:=N;refine ⟨_,Sub.refl _ _,(i5 (e8 ?_))⟩;obtain rfl:=oi h;exact O
def ak0{op:Int}(h:ab7 d f a c op=some x):e9 prog 51 [.agg (tO d),.c (row 1 d7 f),(cR a),(cR c),(cI op)] ((cI x)):=by unfold e9;refine FnOk.enter (rs:=[.t 10]) func51 Z ntmps51 results51 Z ⟨Y,Y⟩ (by kernel_rfl) Z ?_;refine AWP.gk 2 Z (.gk 1 Z (.j (bB h fun y g h=>.G 3 Z (.z Z Z Z Z (O9 g) Z (.G 5 Z (.nil (b5 (.j (.gk 1 Z (.u (bB h fun e A h=>.forL A (fun i e=>⟨[(1,.c (row 1 d7 f)),(2,(cR a)),(11,(cI e)),(12,.c (row 1 d7 y.1)),(14,(cI i))],[]⟩) (fun _ _ _ k=>.G 2 Z (S.len Z Z fun F=>.gn 1 Z (k F))) (fun _ _=>Z) ?_ ?_ ?_)))))))))));exact Sub.ct Z Z .n;intro i e o v w h D;obtain⟨B,b,h⟩:=bind_some h;refine AWP.jP [1,2,12,14] [(11,(cI B))] Z ?_ ?_;refine AWP.u (.j (bD b fun H l J p K q b=>.G 4 Z (S.idx l Z Z Z Z (.G 1 Z (.z Z Z Z Z (B4 p) Z (S.idx q Z Z Z Z (.G 2 Z (.nil (b5 (.gk 3 Z (.O Z b (fun s b=> ?_) (fun s b=> ?_))))))))))));refine AWP.G 2 Z (.nil (d6 ?_));obtain rfl:=oi b;refine b5 (Sub.en Z);refine AWP.skip (d6 ?_);obtain rfl:=oi b;refine b5 (Sub.en Z);refine AWP.G 1 Z (.add Z Z Z (by omega) (.E Z Z (.nil ?_)));obtain rfl:=oi h;refine b5 (Sub.en Z);intro M;refine f9 (b5 (.gk 2 Z (.ret ?_)));obtain rfl:=oi h;exact Done.ret Z Z
def ap6{ov:b9}{all:LL}{r:Li}(h:S0 ov all=some r):p8 prog 12 [.agg (tO ov),.c (row 1 d7 all)] 1 (iS intI r):=by
 unfold p8;refine FnOk.enter (rs:=[.t 4]) func12 Z ntmps12 results12 Z ⟨Y,Y⟩ (by kernel_rfl) Z ?_;unfold S0 at h;refine AWP.gk 2 Z (.j (bB h fun a18 ha18 h=>.G 1 Z (S.len Z Z (fun hl17=>S.make (f:=z6) ha18 (.val .nil) Z Z Z Z Z Z (.E Z Z (.nil (b5 (.j (.gk 1 Z (.u (bB h fun c3 ho1 h=>.forL ho1 (fun iv4 c3=>⟨[(1,.c (row 1 d7 all)),(2,(cP 0 0 0)),(5,.c (.own 1 0 (jn c3))),(6,(cI iv4))],[(oE 4 (tO ov)),(oV 1 z6 c3)]⟩) (fun _ _ _ k=>.G 2 Z (S.len Z Z fun hl=>.gn 1 Z (k hl))) (fun _ _=>Z) ?_ ?_ ?_)))))))))));exact Sub.en Z;intro iv4 c3 o hloiv4 hltiv4 h hl21;unfold ae5 at h;try dsimp only at h ⊢
 refine AWP.j (.u (bB h fun a27 ha27 h=>.G 2 Z (S.idxO ha27 Z Z Z Z Z (S.storeO1 (f:=z6) (a':=true) (s9 ha27) (fun _=>⟨_,Z⟩) Z Z Z Z Z (AOps.nil (d6 (b5 (.G 1 Z (.add Z Z Z (by omega) (.E Z Z (.nil ?_)))))))))));obtain rfl:=oi h;refine b5 (Sub.env ⟨Z,Z,(n8 (by first|rfl|simp only[lS])),Z,Y⟩)
 intro iz;refine f9 (b5 (.u (bB h fun x ho2 h=>.loopS ho2 (fun c5=>⟨[(1,.c (row 1 d7 all)),(2,(cP 0 0 0)),(5,.c (.own 1 0 (jn c5)))],[(oE 4 (tO ov)),(oV 1 z6 c5)]⟩) (fun x e st=>e=.ret/\Done [.t 4] (fun t s=>∃id,t=.c (.own id 0 (iS intI x).length)/\s[id]? =some (some (Blk.im 1 (iS intI x)))) .ret st) ?_ ?_ ?_)));exact Sub.en Z;intro c5 o h;unfold af0 at h;try dsimp only at h ⊢
 refine AWP.u (.j (bB h fun a30 ha30 h=>.G 1 Z (S.len Z Z (fun hl29=>S.make (f:=intI) ha30 (.val .nil) Z Z Z Z Z Z (.E Z Z (.nil (b5 (.j (.gk 1 Z (.u (bB h fun c6 ho3 h=>.forL ho3 (fun iv7 c6=>⟨[(1,.c (row 1 d7 all)),(2,(cP 0 0 0)),(5,.c (.own 1 0 (jn c5))),(7,.c (.own 2 0 (jn c6))),(8,(cI iv7))],[(oE 4 (tO ov)),(oV 1 z6 c5),(oV 1 intI c6)]⟩) (fun _ _ _ k=>.G 2 Z (S.len Z Z fun hl=>.gn 1 Z (k hl))) (fun _ _=>Z) ?_ ?_ ?_)))))))))));exact Sub.en Z;intro iv7 c6 o hloiv7 hltiv7 h hl33;unfold ae6 at h;try dsimp only at h ⊢
 obtain⟨c8,hx9,h⟩:=bind_some h;refine AWP.jQ [1,2,5,8] [(7,.c (.own 2 0 (jn c8)))] [(oE 4 (tO ov)),(oV 1 z6 c5),(oV 1 intI c8)] Z ?_ ?_;refine AWP.u (.j (bB hx9 fun a39 ha39 hx9=>.G 2 Z (S.idxO ha39 Z Z Z Z Z (S.storeO1 (f:=intI) (a':=1000000000) (s9 ha39) (fun _=>⟨_,Z⟩) Z Z Z Z Z (AOps.nil (b5 (.j (bC hx9 fun a43 ha43 a45 ha45 hx9=>.drawI mixed Z (b7.D 3 Z (b7.consF Z (fun E=>S.idx ha43 Z Z Z Z .N) Z (b7.D 1 Z (b7.consF Z (fun E=>.z Z Z Z Z (D9 ha45) Z .N) Z (b7.done ?_)))))))))))));dsimp only[g9];refine b5 (.U Z hx9 (fun hc10 hx9=> ?_) (fun hc10 hx9=> ?_));obtain⟨a48,ha48,hx9⟩:=bind_some hx9;refine AWP.G 2 Z (S.idxO ha48 Z (by simp only[lS]) Z Z Z (S.storeO1 (f:=intI) (a':=0) (s9 ha48) (fun _=>⟨_,Z⟩) Z Z Z Z Z (AOps.nil (d6 ?_))));obtain rfl:=oi hx9;refine b5 (Sub.env ⟨Z,Z,Z,Z,(n8 (by first|rfl|simp only[lS])),Y⟩)
 refine AWP.skip (d6 ?_);obtain rfl:=oi hx9;refine b5 (Sub.env ⟨Z,Z,Z,Z,(n8 (by first|rfl|simp only[lS])),Y⟩)
 refine AWP.G 1 Z (.add Z Z Z (by omega) (.E Z Z (.nil ?_)));obtain rfl:=oi h;refine b5 (Sub.en Z);intro iz;refine f9 (b5 (.j (.gk 1 Z (.u (bB h fun c13 ho4 h=>.loopS ho4 (fun(c11,again12)=>⟨[(1,.c (row 1 d7 all)),(2,(cP 0 0 0)),(5,.c (.own 1 0 (jn c5))),(7,.c (.own 2 0 (jn c11))),(9,(cB again12))],[(oE 4 (tO ov)),(oV 1 z6 c5),(oV 1 intI c11)]⟩) (fun c13 e st=>e=.exit 6/\Sub [] st ⟨[(1,.c (row 1 d7 all)),(2,(cP 0 0 0)),(5,.c (.own 1 0 (jn c5))),(7,.c (.own 2 0 (jn c13)))],[(oE 4 (tO ov)),(oV 1 z6 c5),(oV 1 intI c13)]⟩) ?_ ?_ ?_)))));exact Sub.en Z;intro s o h;obtain⟨c11,again12⟩:=s;unfold ae2 at h;try dsimp only at h ⊢
 refine AWP.j (.gk 1 Z (.U Z h (fun hc14 h=> ?_) (fun hc14 h=> ?_)));refine AWP.skip (b5 (.u (.gk 1 Z (.gk 1 Z (.u ?_)))));obtain⟨⟨c15,again16⟩,ho5,h⟩:=bind_some h;try dsimp only at h
 refine AWP.forL ho5 (fun iv17 (c15,again16)=>⟨[(1,.c (row 1 d7 all)),(2,(cP 0 0 0)),(5,.c (.own 1 0 (jn c5))),(7,.c (.own 2 0 (jn c15))),(9,(cB again16)),(10,(cI iv17))],[(oE 4 (tO ov)),(oV 1 z6 c5),(oV 1 intI c15)]⟩) (fun _ _ _ k=>.G 2 Z (S.len Z Z fun hl=>.gn 1 Z (k hl))) (fun _ _=>Z) ?_ ?_ ?_;exact Sub.en Z;intro iv17 s o hloiv17 hltiv17 h hl52;obtain⟨c15,again16⟩:=s;unfold V0 at h;try dsimp only at h ⊢
 refine AWP.j (.u (.gk 1 Z (.u ?_)));obtain⟨⟨c21,again22⟩,ho6,h⟩:=bind_some h;try dsimp only at h
 refine AWP.loopS ho6 (fun(c18,again19,op20)=>⟨[(1,.c (row 1 d7 all)),(2,(cP 0 0 0)),(5,.c (.own 1 0 (jn c5))),(7,.c (.own 2 0 (jn c18))),(9,(cB again19)),(10,(cI iv17)),(11,(cI op20))],[(oE 4 (tO ov)),(oV 1 z6 c5),(oV 1 intI c18)]⟩) (fun(c21,again22) e st=>e=.exit 10/\Sub [] st ⟨[(1,.c (row 1 d7 all)),(2,(cP 0 0 0)),(5,.c (.own 1 0 (jn c5))),(7,.c (.own 2 0 (jn c21))),(9,(cB again22)),(10,(cI iv17))],[(oE 4 (tO ov)),(oV 1 z6 c5),(oV 1 intI c21)]⟩) ?_ ?_ ?_;exact Sub.en Z;intro s o h;obtain⟨c18,again19,op20⟩:=s;unfold af2 at h;try dsimp only at h ⊢
 refine AWP.j (bB h fun t23 hx24 h=>.jP [1,2,5,7,9,10,11] [(66,(cB t23))] Z ?_ ?_);rcases bft (decide (op20<(jn ov.operators:Int))) with hb25|hb25;replace hx24:=G5 hb25 hx24;obtain⟨a64,ha64,hx24⟩:=bind_some hx24;refine AWP.G 3 Z (S.len Z Z (fun hl59=>.G 2 Z (.K Z Z hb25 (.G 2 Z (.J Z Z Z Z (S.idxO ha64 Z Z Z Z Z (.J Z Z Z Z (S.loadO ha64 Z Z Z Z Z (.G 1 Z (.nil ?_))))))))));obtain rfl:=oi hx24;refine b5 (Sub.en Z);replace hx24:=G1 hb25 hx24;refine AWP.G 3 Z (S.len Z Z (fun hl59=>.G 2 Z (.K Z Z hb25 (.G 5 Z (.nil ?_)))));obtain rfl:=oi hx24;refine b5 (Sub.en Z);refine AWP.U Z h (fun hc26 h=> ?_) (fun hc26 h=> ?_);refine AWP.skip (b5 ?_);obtain⟨⟨c27,again28⟩,hx29,h⟩:=bind_some h;refine AWP.jQ [1,2,5,10,11] [(7,.c (.own 2 0 (jn c27))),(9,(cB again28))] [(oE 4 (tO ov)),(oV 1 z6 c5),(oV 1 intI c27)] Z ?_ ?_;refine AWP.u (.j (bB hx29 fun t30 hx31 hx29=>.jP [1,2,5,7,9,10,11] [(88,(cB t30))] Z ?_ ?_));obtain⟨a72,ha72,a75,ha75,hx31⟩:=b2 hx31;rcases bft (!a75) with hb32|hb32;replace hx31:=y5 hb32 hx31;refine AWP.drawI mixed Z (b7.D 3 Z (b7.consF Z (fun E=>S.idx ha72 Z Z Z Z .N) Z (b7.D 2 Z (b7.consF Z (fun E=>.z Z Z Z Z (y7 ha75) Z .N) Z (b7.D 2 Z (b7.K Z hb32 Z (b7.D 11 Z (b7.done ?_))))))));dsimp only[g9];obtain rfl:=oi hx31;refine b5 (Sub.en Z);replace hx31:=y6 hb32 hx31;obtain⟨a83,ha83,a86,ha86,hx31⟩:=b2 hx31;refine AWP.drawI mixed Z (b7.D 3 Z (b7.consF Z (fun E=>S.idx ha72 Z Z Z Z .N) Z (b7.D 2 Z (b7.consF Z (fun E=>.z Z Z Z Z (y7 ha75) Z .N) Z (b7.D 2 Z (b7.K Z hb32 Z (b7.D 5 Z (b7.consF Z (fun E=>.J Z Z Z Z (S.idx ha83 Z Z Z Z .N)) Z (b7.D 2 Z (b7.consF Z (fun E=>.J Z Z Z Z (.ab Z Z (.cons (.agg (.cons .imm (.cons .imm (.cons .imm (.cons .imm .nil))))) (.cons (.c .imm) (.cons (.c (.own Z Z)) (.cons (.c .imm) (.cons (.c .imm) .nil))))) Z (Q9 ha86) Z .N)) Z (b7.D 2 Z (b7.done ?_))))))))))));dsimp only[g9];obtain rfl:=oi hx31;refine b5 (Sub.en Z);refine AWP.U Z hx29 (fun hc33 hx29=> ?_) (fun hc33 hx29=> ?_);refine AWP.exit (i7 (f9 ?_));obtain⟨ej0,ej1⟩:=o2 hx29;subst ej0 ej1;refine b5 (Sub.en Z);refine AWP.skip (b5 (.j (bC hx29 fun a94 ha94 a97 ha97 hx29=>.drawI mixed Z (b7.D 5 Z (b7.consF Z (fun E=>S.idx ha94 Z Z Z Z .N) Z (b7.D 2 Z (b7.consF Z (fun E=>.ab Z Z (.cons (.agg (.cons .imm (.cons .imm (.cons .imm (.cons .imm .nil))))) (.cons (.c .imm) (.cons (.c (.own Z Z)) (.cons (.c .imm) (.cons (.c .imm) .nil))))) Z (ak0 ha97) Z .N) Z (b7.D 1 Z (b7.done ?_)))))))));dsimp only[g9];refine b5 (.j (bB hx29 fun a102 ha102 hx29=>.G 4 Z (S.idxO ha102 Z Z Z Z Z (S.loadO ha102 Z Z Z Z Z (.lss Z Z Z (.nil (b5 (.O Z hx29 (fun hc34 hx29=> ?_) (fun hc34 hx29=> ?_)))))))));refine AWP.j (bB hx29 fun a109 ha109 hx29=>.G 4 Z (S.idxO ha109 Z Z Z Z Z (S.storeO1 (f:=intI) (a':=w64 (a97+1)) (s9 ha109) (fun _=>⟨_,Z⟩) Z Z Z Z Z (AOps.nil (b5 (.G 1 Z (.nil (d6 ?_))))))));obtain⟨ej0,ej1⟩:=o2 hx29;subst ej0 ej1;refine b5 (Sub.env ⟨Z,Z,Z,Z,Z,(n8 (by first|rfl|simp only[lS])),Z,Y⟩)
 refine AWP.skip (d6 ?_);obtain⟨ej0,ej1⟩:=o2 hx29;subst ej0 ej1;refine b5 (Sub.en Z);try dsimp only at h
 refine AWP.G 3 Z (.nil ?_);obtain rfl:=oi h;exact b5 ⟨_,Z,(Sub.en Z)⟩;refine AWP.exit (i7 ?_);obtain rfl:=oi h;exact i7 ⟨_,Z,Z,(Sub.en Z)⟩;intro e s hq;obtain⟨rfl,hs⟩:=hq;refine ⟨_,hs,(f9 (d6 (b5 (.G 1 Z (.add Z Z Z (by omega) (.E Z Z (.nil ?_)))))))⟩;obtain rfl:=oi h;refine b5 (Sub.en Z);intro iz;refine f9 (d6 ?_);obtain rfl:=oi h;exact b5 ⟨_,Z,(Sub.en Z)⟩;refine AWP.exit (i7 ?_);obtain rfl:=oi h;exact i7 ⟨_,Z,Z,(Sub.en Z)⟩;intro e s hq;obtain⟨rfl,hs⟩:=hq;refine ⟨_,hs,(f9 (b5 (.gk 1 Z (.j (.gk 1 Z (.u (bB h fun gone35 ho7 h=>.forL ho7 (fun iv36 gone35=>⟨[(1,.c (row 1 d7 all)),(2,(cP 0 0 0)),(5,.c (.own 1 0 (jn c5))),(7,.c (.own 2 0 (jn c13))),(13,(cI gone35)),(14,(cI iv36))],[(oE 4 (tO ov)),(oV 1 z6 c5),(oV 1 intI c13)]⟩) (fun _ _ _ k=>.G 2 Z (S.len Z Z fun hl=>.gn 1 Z (k hl))) (fun _ _=>Z) ?_ ?_ ?_)))))))⟩;exact Sub.en Z;intro iv36 gone35 o hloiv36 hltiv36 h hl112;unfold ad9 at h;try dsimp only at h ⊢
 obtain⟨gone37,hx38,h⟩:=bind_some h;refine AWP.jP [1,2,5,7,14] [(13,(cI gone37))] Z ?_ ?_;refine AWP.u (bB hx38 fun t39 hx40 hx38=>.jP [1,2,5,7,13,14] [(126,(cB t39))] Z ?_ ?_);obtain⟨a118,ha118,hx40⟩:=bind_some hx40;rcases bft (a118) with hb41|hb41;replace hx40:=y5 hb41 hx40;obtain⟨a123,ha123,hx40⟩:=bind_some hx40;refine AWP.G 2 Z (S.idxO ha118 Z Z Z Z Z (S.loadO ha118 Z Z Z Z Z (.F Z Z (.K Z Z hb41 (.G 2 Z (.J Z Z Z Z (S.idxO ha123 Z Z Z Z Z (.J Z Z Z Z (S.loadO ha123 Z Z Z Z Z (.G 2 Z (.nil ?_)))))))))));obtain rfl:=oi hx40;refine b5 (Sub.en Z);replace hx40:=y6 hb41 hx40;refine AWP.G 2 Z (S.idxO ha118 Z Z Z Z Z (S.loadO ha118 Z Z Z Z Z (.F Z Z (.K Z Z hb41 (.G 6 Z (.nil ?_))))));obtain rfl:=oi hx40;refine b5 (Sub.en Z);refine AWP.U Z hx38 (fun hc42 hx38=> ?_) (fun hc42 hx38=> ?_);refine AWP.G 2 Z (.nil (d6 ?_));obtain rfl:=oi hx38;refine b5 (Sub.en Z);refine AWP.skip (d6 ?_);obtain rfl:=oi hx38;refine b5 (Sub.en Z);refine AWP.G 1 Z (.add Z Z Z (by omega) (.E Z Z (.nil ?_)));obtain rfl:=oi h;refine b5 (Sub.en Z);intro iz;refine f9 (b5 (.j (.gk 2 Z (.O Z h (fun hc43 h=> ?_) (fun hc43 h=> ?_)))));refine AWP.j (.gk 1 Z (.u (bB h fun c44 ho8 h=>.forL ho8 (fun iv45 c44=>⟨[(1,.c (row 1 d7 all)),(5,.c (.own 1 0 (jn c5))),(7,.c (.own 2 0 (jn c44))),(15,(cI iv45))],[.dead,(oV 1 z6 c5),(oV 1 intI c44)]⟩) (fun _ _ _ k=>.G 2 Z (S.len Z Z fun hl=>.gn 1 Z (k hl))) (fun _ _=>Z) ?_ ?_ ?_)));exact Sub.ct Z Z (.d (.v (.v .n)));intro iv45 c44 o hloiv45 hltiv45 h hl132;unfold ae3 at h;try dsimp only at h ⊢
 obtain⟨c46,hx47,h⟩:=bind_some h;refine AWP.jQ [1,5,15] [(7,.c (.own 2 0 (jn c46)))] [.dead,(oV 1 z6 c5),(oV 1 intI c46)] Z ?_ ?_;refine AWP.u (.j (bB hx47 fun a138 ha138 hx47=>.G 2 Z (S.idxO ha138 Z Z Z Z Z (S.loadO ha138 Z Z Z Z Z (.not Z Z (.nil (b5 (.U Z hx47 (fun hc48 hx47=> ?_) (fun hc48 hx47=> ?_)))))))));obtain⟨a143,ha143,hx47⟩:=bind_some hx47;refine AWP.G 2 Z (S.idxO ha143 Z Z Z Z Z (S.storeO1 (f:=intI) (a':=1000000000) (s9 ha143) (fun _=>⟨_,Z⟩) Z Z Z Z Z (AOps.nil (d6 ?_))));obtain rfl:=oi hx47;refine b5 (Sub.env ⟨Z,Z,Z,(n8 (by first|rfl|simp only[lS])),Y⟩)
 refine AWP.skip (d6 ?_);obtain rfl:=oi hx47;refine b5 (Sub.en Z);refine AWP.G 1 Z (.add Z Z Z (by omega) (.E Z Z (.nil ?_)));obtain rfl:=oi h;refine b5 (Sub.en Z);intro iz;refine f9 (b5 (.gk 2 Z (.ret (e8 (i5 ?_)))));obtain rfl:=oi h;exact e8 ⟨_,Z,Z,(Done.ret Z (Fresh.mk Z Z))⟩;refine AWP.skip (b5 (bB h fun a147 ha147 h=>.G 2 Z (S.idxO ha147 Z Z Z Z Z (S.storeO1 (f:=z6) (a':=false) (s9 ha147) (fun _=>⟨_,Z⟩) Z Z Z Z Z (AOps.nil (d6 ?_))))));obtain rfl:=oi h;exact b5 ⟨_,Z,(Sub.ctE ⟨Z,Z,(n8 (by first|rfl|simp only[lS])),Y⟩ Z (.o Z (.v .n)))⟩
 intro e s hq;obtain⟨rfl,hs⟩:=hq;refine ⟨_,Sub.refl _ _,(i5 ?_)⟩;obtain rfl:=oi h;exact hs
def ak2{r:(List Bool)}(h:aa8 a=some r):p8 prog 52 [(cR a)] 1 (iS z6 r):=by
 unfold p8;refine FnOk.enter (rs:=[.t 2]) func52 Z ntmps52 results52 Z ⟨Y,Y⟩ (by kernel_rfl) Z ?_;refine AWP.gk 1 Z (.gk 1 Z (.j (.gk 1 Z (.u (.virtV 1 z6 3 Z Z Z (bB h fun p w h=>.forL w (fun b p=>⟨[(0,(cR a)),(3,.c (.own 0 0 (jn p))),(4,(cI b))],[(oV 1 z6 p)]⟩) (fun _ _ _ k=>.G 2 Z (S.len Z Z fun y=>.gn 1 Z (k y))) (fun _ _=>Z) ?_ ?_ ?_))))));exact Sub.env ⟨Z,(n8 (by first|rfl|simp only[lS])),Z,Y⟩
 intro b p o q s h z;refine AWP.j (.u (bC h fun d e g i h=>.G 3 Z (S.idx e Z Z Z Z (.G 2 Z (S.lit (f:=z6) (l:=[decide (d<1000000000)]) (ess:=[[bool (decide (d<1000000000))]]) Z Z Z Z Z Z Z ⟨⟨.inl Z,Y⟩,Y⟩ Z Z Z (S.append (f:=z6) i Z Z Z Z Z Z (.own Z Z) Z Z Z Z (.E Z Z (.nil (d6 (b5 (.F (env':=[(0,(cR a)),(3,.c (.own 0 0 (jn g))),(4,(cI b))]) (σ':=[(oV 1 z6 g),(oV 1 z6 [decide (d<1000000000)])]) 0 2 Z Z Z ⟨Z,Z,Z,Y⟩ Z ⟨⟨Blk.im_ok _ _ _,k8 Z⟩,⟨Blk.im_ok _ _ _,k8 Z⟩,Y⟩ (.G 1 Z (.add Z Z Z (by omega) (.E Z Z (.nil ?_)))))))))))))));obtain rfl:=oi h;refine b5 (Sub.ct Z Z (.v .n));intro H;refine f9 (b5 (.gk 2 Z (.ret ?_)));obtain rfl:=oi h;exact Done.ret Z (Fresh.mk Z Z)
def ap5{s:List Bool}(h:R5 d f s a=some c):p8 prog 53 [.agg (tO d),.c (row 1 d7 f),.c (row 1 z6 s),(cR a)] 1 (iS intI c):=by
 unfold p8;refine FnOk.enter (rs:=[.t 8]) func53 Z ntmps53 results53 Z ⟨Y,Y⟩ (by kernel_rfl) Z ?_;refine AWP.gk 2 Z (.gk 1 Z (.j (.gk 1 Z (.u (.virtV 1 intI 9 Z Z Z (bB h fun A H h=>.forL H (fun p A=>⟨[(1,.c (row 1 d7 f)),(2,.c (row 1 z6 s)),(3,(cR a)),(4,(cP 0 0 0)),(9,.c (.own 1 0 (jn A))),(10,(cI p))],[(oE 4 (tO d)),(oV 1 intI A)]⟩) (fun _ _ _ k=>.G 3 Z (S.len Z Z fun O=>.gn 1 Z (k O))) (fun _ _=>Z) ?_ ?_ ?_))))));exact Sub.env ⟨Z,Z,Z,Z,(n8 (by first|rfl|simp only[lS])),Z,Y⟩
 intro p A o B D h M;obtain⟨N,g,h⟩:=bind_some h;refine AWP.jQ [1,2,3,4,10] [(9,.c (.own 3 0 (jn N)))] [(oE 4 (tO d)),.dead,.dead,(oV 1 intI N)] Z ?_ ?_;refine AWP.u (bB g fun t9 e g=>.jP [1,2,3,4,9,10] [(29,(cB t9))] Z ?_ ?_);obtain⟨L,q,e⟩:=bind_some e;rcases bft (L) with i|i;replace e:=y5 i e;obtain⟨P,w,e⟩:=bind_some e;refine AWP.G 3 Z (.z Z Z Z Z (y7 q) Z (.F Z Z (.K Z Z i (.G 5 Z (.J Z Z Z Z (.z Z Z Z Z (Q9 w) Z (.G 1 Z (.nil ?_))))))));obtain rfl:=oi e;refine b5 (Sub.en Z);replace e:=y6 i e;refine AWP.G 3 Z (.z Z Z Z Z (y7 q) Z (.F Z Z (.K Z Z i (.G 7 Z (.nil ?_)))));obtain rfl:=oi e;refine b5 (Sub.en Z);refine AWP.U Z g (fun x g=> ?_) (fun x g=> ?_);obtain⟨Q,y,g⟩:=bind_some g;refine AWP.G 2 Z (S.lit (f:=intI) (l:=[p]) (ess:=[[int p]]) Z Z Z Z Z Z Z ⟨⟨.inl Z,Y⟩,Y⟩ Z Z Z (S.append (f:=intI) y Z Z Z Z Z Z (.own Z Z) Z Z Z Z (.E Z Z (.nil (d6 ?_)))));obtain rfl:=oi g;refine b5 (Sub.ct Z Z (.o Z (.d (.d (.v .n)))));refine AWP.skip (d6 ?_);obtain rfl:=oi g;refine b5 (Sub.mv 3 1 Z Z (.o Z Z (.d (.d (.v Z .n)))));refine AWP.G 1 Z (.add Z Z Z (by omega) (.E Z Z (.nil ?_)));obtain rfl:=oi h;refine b5 (Sub.mv 1 3 Z Z (.o Z Z (.v Z .n)));intro r;refine f9 (b5 (.gk 2 Z (.ret ?_)));obtain rfl:=oi h;exact Done.ret Z (Fresh.mk Z Z)
def ao7(h:C7 d f=some y):e9 prog 13 [.agg (tO d),.c (row 1 d7 f)] ((cI y)):=by unfold e9;refine FnOk.enter (rs:=[.t 4]) func13 Z ntmps13 results13 Z ⟨Y,Y⟩ (by kernel_rfl) Z ?_;refine AWP.gk 2 Z (.j (bC h fun ad q V s h=>.G 2 Z (S.fresh Z Z Z Z (ap6 q) Z Z (S.freshL (fun _=>Z) Z Z (.cons (.c (.own Z Z)) .nil) Z (ak2 s) Z Z (AOps.E Z Z (.nil (b5 (.gk 1 Z (.j (.gk 1 Z (.u (.fz 2 [1,2,5,6,7] Z Z Z Z ⟨Z,Y⟩ (.o Z Y (.v (.d .n))) (bB h fun oo X h=>.rngL X (fun w p=>⟨[(1,.c (row 1 d7 f)),(2,(cP 0 0 0)),(5,.c (row 1 z6 V)),(6,(cI p)),(7,(cI w))],[(oE 4 (tO d))]⟩) (fun x e st=>e=.ret/\Done [.t 4] (fun t _=>t=(cI x)) .ret st) (fun _ _ _ k=>.G 2 Z (S.len Z Z fun hl=>.gn 1 Z (k hl))) (fun _ _=>Z) ?_ ?_ ?_ ?_)))))))))))));exact Sub.ct Z Z (.o Z .n);intro w p o P Q h ac;refine AWP.j (.u (bB h fun r b h=>.jP [1,2,5,7] [(6,(cI r))] Z ?_ ?_));obtain⟨t7,a,b⟩:=bind_some b;refine AWP.jP [1,2,5,6,7] [(30,(cB t7))] Z ?_ ?_;obtain⟨aa,i,a⟩:=bind_some a;rcases bft (aa) with g|g;replace a:=y5 g a;obtain⟨al,A,an,B,a⟩:=b2 a;refine AWP.drawI mixed Z (b7.D 2 Z (b7.consF Z (fun E=>S.idx i Z Z Z Z .N) Z (b7.D 2 Z (b7.K Z g Z (b7.D 3 Z (b7.consF Z (fun E=>.J Z Z Z Z (S.idx A Z Z Z Z .N)) Z (b7.D 1 Z (b7.consF Z (fun E=>.J Z Z Z Z (.z Z Z Z Z (D9 B) Z .N)) Z (b7.D 2 Z (b7.done ?_))))))))));dsimp only[g9];obtain rfl:=oi a;refine b5 (Sub.en Z);replace a:=y6 g a;refine AWP.drawI mixed Z (b7.D 2 Z (b7.consF Z (fun E=>S.idx i Z Z Z Z .N) Z (b7.D 2 Z (b7.K Z g Z (b7.D 8 Z (b7.done ?_))))));dsimp only[g9];obtain rfl:=oi a;refine b5 (Sub.en Z);refine AWP.U Z b (fun F b=> ?_) (fun F b=> ?_);obtain⟨ao,l,av,H,b⟩:=b2 b;refine AWP.drawEI [8] mixed Z Z Z (b8.D 6 Z Z (b8.consN Z Z (fun E=>S.idx l Z Z Z Z .N) Z (b8.D 1 Z Z ?_)));apply b8.consE;exact Z;exact Z;intro E;refine S.fresh Z Z Z Z (ap5 H) Z Z .N;exact Z;exact Z;refine b8.consN Z Z (fun E=>S.lenO Z Z Z (fun L=>.nil ⟨Z,Z⟩)) Z (b8.D 2 Z Z (b8.done Z ?_ ?_));refine d8.D 6 Z Z (d8.cons Z Z (.go Z Z (fun E=>S.idx l Z Z Z Z .N) (.skip Z .nil)) (d8.D 2 Z Z (d8.cons Z Z ?_ ?_)));refine d9.skip Z ?_;apply d9.go;exact Z;exact Z;intro E;refine S.lenO Z Z Z (fun L=> ?_);exact AOps.nil ⟨Z,Z⟩;exact d9.nil;refine d8.D 2 Z Z (d8.nil);dsimp only[g9];obtain rfl:=oi b;refine b5 (Sub.ct Z Z (.o Z .n));refine AWP.skip ?_;obtain rfl:=oi b;refine b5 (Sub.en Z);refine AWP.gk 2 Z (.O Z h (fun M h=> ?_) (fun M h=> ?_));refine AWP.gk 1 Z (.ret (i5 (e8 ?_)));obtain rfl:=oi h;exact e8 ⟨_,Z,Z,(Done.ret Z Z)⟩;refine AWP.skip (d6 (b5 (.G 1 Z (.add Z Z Z (by omega) (.E Z Z (.nil ?_))))));obtain rfl:=oi h;exact b5 ⟨_,Z,(Sub.en Z)⟩;intro iz p he;subst he;refine f9 (b5 (.gk 2 Z (.ret ?_)));obtain rfl:=oi h;exact Done.ret Z Z;intro x e st he hq;subst he;obtain⟨rfl,hs⟩:=hq;refine ⟨_,Sub.refl _ _,(i5 (e8 ?_))⟩;obtain rfl:=oi h;exact hs
def ar1(h:I7 i a=some y):e9 prog 59 [.c (row 2 j3 i),(cR a)] ((cI y)):=by unfold e9;refine FnOk.enter (rs:=[.t 4]) func59 Z ntmps59 results59 Z ⟨Y,Y⟩ (by kernel_rfl) Z ?_;refine AWP.gk 1 Z (.j (.gk 1 Z (.u (bB h fun M q h=>.rngL q (fun b _=>⟨[(0,.c (row 2 j3 i)),(1,(cR a)),(5,(cI b))],[]⟩) (fun x e st=>e=.ret/\Done [.t 4] (fun t _=>t=(cI x)) .ret st) (fun _ _ _ k=>.G 2 Z (S.len Z Z fun A=>.gn 1 Z (k A))) (fun _ _=>Z) ?_ ?_ ?_ ?_))));exact Sub.en Z;intro b s o l n h B;refine AWP.j (.u (.j (bC h fun D d F f h=>.G 2 Z (S.idx d Z Z Z Z (.G 3 Z (.z Z Z Z Z (ao4 f) Z (.nil (b5 (.U Z h (fun v h=> ?_) (fun v h=> ?_))))))))));refine AWP.j (bB h fun H g h=>.G 2 Z (S.idx g Z Z Z Z (.G 3 Z (.nil (b5 (.ret (i5 (e8 ?_))))))));obtain rfl:=oi h;exact e8 ⟨_,Z,Z,(Done.ret Z Z)⟩;refine AWP.skip (d6 (b5 (.G 1 Z (.add Z Z Z (by omega) (.E Z Z (.nil ?_))))));obtain rfl:=oi h;exact b5 ⟨_,Z,(Sub.en Z)⟩;intro N _ w;subst w;refine f9 (b5 (.gk 1 Z (.ret ?_)));obtain rfl:=oi h;exact Done.ret Z Z;intro x e st w J;subst w;obtain⟨rfl,K⟩:=J;refine ⟨_,Sub.refl _ _,(i5 (e8 ?_))⟩;obtain rfl:=oi h;exact K
def ay1(h:Y5 d i=some g):e9 prog 58 [.agg (tO d),.c (row 2 j3 i)] (.c (row 1 d7 g)):=by
 unfold e9;refine FnOk.enter (rs:=[.t 4]) func58 Z ntmps58 results58 Z ⟨Y,Y⟩ (by kernel_rfl) Z ?_;refine AWP.gk 2 Z (.gs 2 Z (S.lit (f:=d7) (l:=[d.init]) (ess:=[[row 1 intI d.init]]) Z Z Z Z Z Z Z ⟨⟨.inl Z,Y⟩,Y⟩ Z Z Z (.ge 1 Z (.j (.gk 1 Z (.u (.fz 1 [1,2,5,6] Z Z Z Z ⟨Z,Y⟩ (.o Z Y (.d .n)) (bB h fun Q a9 h=>.loopS a9 (fun(V,F)=>⟨[(1,.c (row 2 j3 i)),(2,(cP 0 0 0)),(5,.c (row 1 d7 V)),(6,(cB F))],[(oE 4 (tO d))]⟩) (fun Q e st=>e=.exit 0/\Sub [] st ⟨[(5,.c (row 1 d7 Q))],[]⟩) ?_ ?_ ?_))))))));exact Sub.ct Z Z (.o Z .n);intro s o h;obtain⟨V,F⟩:=s;refine AWP.j (.gk 1 Z (.U Z h (fun be h=> ?_) (fun be h=> ?_)));refine AWP.skip (b5 (.u (.gk 1 Z (.gk 1 Z (.u ?_)))));obtain⟨⟨L,w⟩,bi,h⟩:=bind_some h;refine AWP.loopS bi (fun(X,H,r)=>⟨[(1,.c (row 2 j3 i)),(2,(cP 0 0 0)),(5,.c (row 1 d7 X)),(6,(cB H)),(7,(cI r))],[(oE 4 (tO d))]⟩) (fun(L,w) e st=>e=.exit 2/\Sub [] st ⟨[(1,.c (row 2 j3 i)),(2,(cP 0 0 0)),(5,.c (row 1 d7 L)),(6,(cB w))],[(oE 4 (tO d))]⟩) ?_ ?_ ?_;exact Sub.en Z;intro s o h;obtain⟨X,H,r⟩:=s;refine AWP.j (.gs 2 Z (S.len Z Z (fun bv=>.ge 1 Z (.O Z h (fun ad h=> ?_) (fun ad h=> ?_)))));refine AWP.skip (b5 ?_);obtain⟨⟨aa,M⟩,a,h⟩:=bind_some h;refine AWP.jP [1,2,7] [(5,.c (row 1 d7 aa)),(6,(cB M))] Z ?_ ?_;refine AWP.u (.j (bC a fun b1 al bj an a=>.G 3 Z (S.idx al Z Z Z Z (.G 1 Z (.z Z Z Z Z (ar1 an) Z (.E Z Z (.nil (b5 (.j (bB a fun t16 q a=>.jP [1,2,5,6,7,8] [(37,(cB t16))] Z ?_ ?_))))))))));rcases bft (decide (bj<0)) with x|x;replace q:=G5 x q;refine AWP.drawI mixed Z (b7.D 3 Z (b7.K Z x Z (b7.D 7 Z (b7.done ?_))));dsimp only[g9];obtain rfl:=oi q;refine b5 (Sub.en Z);replace q:=G1 x q;obtain⟨b4,ao,ca,av,q⟩:=b2 q;refine AWP.drawI mixed Z (b7.D 3 Z (b7.K Z x Z (b7.D 3 Z (b7.consF Z (fun E=>.J Z Z Z Z (S.idx ao Z Z Z Z .N)) Z (b7.D 1 Z (b7.consF Z (fun E=>.J Z Z Z Z (.z Z Z Z Z (D9 av) Z .N)) Z (b7.D 1 Z (b7.done ?_))))))));dsimp only[g9];obtain rfl:=oi q;refine b5 (Sub.en Z);refine AWP.U Z a (fun ay a=> ?_) (fun ay a=> ?_);refine AWP.exit (i7 (f9 ?_));obtain⟨y,A⟩:=o2 a;subst y A;refine b5 (Sub.en Z);refine AWP.skip (b5 (.j (bC a fun cb a0 bk a1 a=>.drawI mixed Z (b7.D 3 Z (b7.consF Z (fun E=>S.idx a0 Z Z Z Z .N) Z (b7.D 2 Z (b7.consF Z (fun E=>.z Z Z Z Z (O9 a1) Z .N) Z (b7.D 5 Z (b7.done ?_)))))))));dsimp only[g9];refine b5 (.gk 1 Z (.u ?_));obtain⟨⟨B,v⟩,bs,a⟩:=bind_some a;refine AWP.forL bs (fun p (B,v)=>⟨[(1,.c (row 2 j3 i)),(2,(cP 0 0 0)),(5,.c (row 1 d7 B)),(6,(cB v)),(7,(cI r)),(9,.c (row 1 d7 bk.1)),(11,(cI p))],[(oE 4 (tO d))]⟩) (fun _ _ _ k=>.G 2 Z (S.len Z Z fun hl=>.gn 1 Z (k hl))) (fun _ _=>Z) ?_ ?_ ?_;exact Sub.en Z;intro p s o a2 a3 h bx;obtain⟨B,v⟩:=s;obtain⟨⟨ac,P⟩,b,h⟩:=bind_some h;refine AWP.jP [1,2,7,9,11] [(5,.c (row 1 d7 ac)),(6,(cB P))] Z ?_ ?_;refine AWP.u (.j (bC b fun cc a4 cd a5 b=>.G 3 Z (S.idx a4 Z Z Z Z (.G 1 Z (.z Z Z Z Z (B4 a5) Z (.lss Z Z Z (.nil (b5 (.O Z b (fun a6 b=> ?_) (fun a6 b=> ?_))))))))));refine AWP.j (bC b fun ce a7 cf a8 b=>.G 3 Z (S.idx a7 Z Z Z Z (.G 1 Z (.z Z Z Z Z (aq7 a8) Z (.E Z Z (.nil (b5 (.G 1 Z (.nil (d6 ?_))))))))));obtain⟨y,A⟩:=o2 b;subst y A;refine b5 (Sub.en Z);refine AWP.skip (d6 ?_);obtain⟨y,A⟩:=o2 b;subst y A;refine b5 (Sub.en Z);try dsimp only at h
 refine AWP.G 1 Z (.add Z Z Z (by omega) (.E Z Z (.nil ?_)));obtain rfl:=oi h;refine b5 (Sub.en Z);intro iz;refine f9 (d6 ?_);obtain⟨y,A⟩:=o2 a;subst y A;refine b5 (Sub.en Z);try dsimp only at h
 refine AWP.G 3 Z (.nil ?_);obtain rfl:=oi h;exact b5 ⟨_,Z,(Sub.en Z)⟩;refine AWP.exit (i7 ?_);obtain rfl:=oi h;exact i7 ⟨_,Z,Z,(Sub.en Z)⟩;intro e s hq;obtain⟨rfl,hs⟩:=hq;refine ⟨_,hs,(f9 (d6 ?_))⟩;obtain rfl:=oi h;exact b5 ⟨_,Z,(Sub.en Z)⟩;refine AWP.exit (i7 ?_);obtain rfl:=oi h;exact i7 ⟨_,Z,Z,(Sub.ct Z Z .n)⟩;intro e s hq;obtain⟨rfl,hs⟩:=hq;refine ⟨_,hs,(f9 (b5 (.gk 2 Z (.ret ?_))))⟩;obtain rfl:=oi h;exact Done.ret Z Z
def ref8_Keeps_ok(h:ab9 d i=some b):e9 prog 54 [.agg (tO d),.c (row 2 j3 i)] ((cB b)):=by
 unfold e9;refine FnOk.enter (rs:=[.t 4]) func54 Z ntmps54 results54 Z ⟨Y,Y⟩ (by kernel_rfl) Z ?_;refine AWP.gk 2 Z (.j (bB h fun y aa h=>.G 2 Z (.z Z Z Z Z (ay1 aa) Z (.E Z Z (.nil (b5 (.j (bB h fun ce ac h=>.G 1 Z (S.len Z Z (fun ca=>S.make (f:=intI) ac (.val .nil) Z Z Z Z Z Z (.E Z Z (.nil (b5 (.j (.gk 1 Z (.u (bB h fun c3 bs h=>.forL bs (fun ad c3=>⟨[(1,.c (row 2 j3 i)),(2,(cP 0 0 0)),(5,.c (row 1 d7 y)),(6,.c (.own 1 0 (jn c3))),(7,(cI ad))],[(oE 4 (tO d)),(oV 1 intI c3)]⟩) (fun _ _ _ k=>.G 2 Z (S.len Z Z fun hl=>.gn 1 Z (k hl))) (fun _ _=>Z) ?_ ?_ ?_)))))))))))))))));exact Sub.en Z;intro ad c3 o bj bk h cb;obtain⟨c5,l,h⟩:=bind_some h;refine AWP.jQ [1,2,5,7] [(6,.c (.own 1 0 (jn c5)))] [(oE 4 (tO d)),(oV 1 intI c5)] Z ?_ ?_;refine AWP.u (.j (bC l fun cf al cg an l=>.drawI mixed Z (b7.D 3 Z (b7.consF Z (fun E=>S.idx al Z Z Z Z .N) Z (b7.D 1 Z (b7.consF Z (fun E=>.z Z Z Z Z (D9 an) Z .N) Z (b7.D 1 Z (b7.done ?_))))))));dsimp only[g9];refine b5 (.U Z l (fun bv l=> ?_) (fun bv l=> ?_));obtain⟨ch,M,l⟩:=bind_some l;refine AWP.G 2 Z (S.idxO M Z Z Z Z Z (S.storeO1 (f:=intI) (a':=1000000000) (s9 M) (fun _=>⟨_,Z⟩) Z Z Z Z Z (AOps.nil (d6 ?_))));obtain rfl:=oi l;refine b5 (Sub.env ⟨Z,Z,Z,Z,(n8 (by first|rfl|simp only[lS])),Y⟩)
 refine AWP.skip (d6 ?_);obtain rfl:=oi l;refine b5 (Sub.en Z);refine AWP.G 1 Z (.add Z Z Z (by omega) (.E Z Z (.nil ?_)));obtain rfl:=oi h;refine b5 (Sub.en Z);intro iz;refine f9 (b5 (.j (.gk 1 Z (.u (bB h fun B bx h=>.loopS bx (fun(c8,w)=>⟨[(1,.c (row 2 j3 i)),(2,(cP 0 0 0)),(5,.c (row 1 d7 y)),(6,.c (.own 1 0 (jn c8))),(8,(cB w))],[(oE 4 (tO d)),(oV 1 intI c8)]⟩) (fun B e st=>e=.exit 2/\Sub [] st ⟨[(5,.c (row 1 d7 y)),(6,.c (.own 1 0 (jn B)))],[.dead,(oV 1 intI B)]⟩) ?_ ?_ ?_)))));exact Sub.en Z;intro s o h;obtain⟨c8,w⟩:=s;refine AWP.j (.gk 1 Z (.U Z h (fun ao h=> ?_) (fun ao h=> ?_)));refine AWP.skip (b5 (.u (.gk 1 Z (.gk 1 Z (.u ?_)))));obtain⟨⟨A,g⟩,b0,h⟩:=bind_some h;refine AWP.forL b0 (fun F (A,g)=>⟨[(1,.c (row 2 j3 i)),(2,(cP 0 0 0)),(5,.c (row 1 d7 y)),(6,.c (.own 1 0 (jn A))),(8,(cB g)),(9,(cI F))],[(oE 4 (tO d)),(oV 1 intI A)]⟩) (fun _ _ _ k=>.G 2 Z (S.len Z Z fun hl=>.gn 1 Z (k hl))) (fun _ _=>Z) ?_ ?_ ?_;exact Sub.en Z;intro F s o av ay h cc;obtain⟨A,g⟩:=s;obtain⟨⟨a0,H⟩,a,h⟩:=bind_some h;refine AWP.jQ [1,2,5,9] [(6,.c (.own 1 0 (jn a0))),(8,(cB H))] [(oE 4 (tO d)),(oV 1 intI a0)] Z ?_ ?_;refine AWP.u (.j (bC a fun ci a1 a2 a3 a=>.G 3 Z (S.idx a1 Z Z Z Z (.G 1 Z (.z Z Z Z Z (ar1 a3) Z (.E Z Z (.nil (b5 (.j (bC a fun cj P a4 Q a=>.seqJ (⟨[(1,.c (row 2 j3 i)),(2,(cP 0 0 0)),(5,.c (row 1 d7 y)),(6,.c (.own 1 0 (jn A))),(8,(cB g)),(9,(cI F)),(10,(cI a2)),(57,(cB (a4||(decide (a2<0)))))],[(oE 4 (tO d)),(oV 1 intI A)]⟩) ?_ ?_))))))))));rcases bft (a4) with q|q;refine AWP.drawI mixed Z (b7.D 3 Z (b7.consF Z (fun E=>S.idx P Z Z Z Z .N) Z (b7.D 1 Z (b7.consF Z (fun E=>.z Z Z Z Z (D9 Q) Z .N) Z (b7.D 1 Z (b7.K Z q Z (b7.D 3 Z (b7.done ?_))))))));dsimp only[g9];refine b5 ?_;simp only[ab4 q,or_t q,io,iw,il,ip];exact Sub.en Z;refine AWP.drawI mixed Z (b7.D 3 Z (b7.consF Z (fun E=>S.idx P Z Z Z Z .N) Z (b7.D 1 Z (b7.consF Z (fun E=>.z Z Z Z Z (D9 Q) Z .N) Z (b7.D 1 Z (b7.K Z q Z (b7.D 3 Z (b7.done ?_))))))));dsimp only[g9];refine b5 ?_;simp only[ae1 q,or_f q,io,iw,il,ip];exact Sub.en Z;refine AWP.U Z a (fun a5 a=> ?_) (fun a5 a=> ?_);refine AWP.exit (i7 (f9 ?_));obtain⟨J,L⟩:=o2 a;subst J L;refine b5 (Sub.en Z);refine AWP.skip (b5 (.j (bC a fun ck a6 b1 a7 a=>.drawI mixed Z (b7.D 5 Z (b7.consF Z (fun E=>S.idx a6 Z Z Z Z .N) Z (b7.D 2 Z (b7.consF Z (fun E=>.ab Z Z (.cons (.agg (.cons .imm (.cons .imm (.cons .imm (.cons .imm .nil))))) (.cons (.c .imm) (.cons (.c (.own Z Z)) (.cons (.c .imm) (.cons (.c .imm) .nil))))) Z (ak0 a7) Z .N) Z (b7.D 1 Z (b7.done ?_)))))))));dsimp only[g9];refine b5 (.j (bB a fun cl V a=>.G 4 Z (S.idxO V Z Z Z Z Z (S.loadO V Z Z Z Z Z (.lss Z Z Z (.nil (b5 (.O Z a (fun a8 a=> ?_) (fun a8 a=> ?_)))))))));refine AWP.j (bB a fun cm X a=>.G 4 Z (S.idxO X Z Z Z Z Z (S.storeO1 (f:=intI) (a':=w64 (b1+1)) (s9 X) (fun _=>⟨_,Z⟩) Z Z Z Z Z (AOps.nil (b5 (.G 1 Z (.nil (d6 ?_))))))));obtain⟨J,L⟩:=o2 a;subst J L;refine b5 (Sub.env ⟨Z,Z,Z,Z,(n8 (by first|rfl|simp only[lS])),Z,Y⟩)
 refine AWP.skip (d6 ?_);obtain⟨J,L⟩:=o2 a;subst J L;refine b5 (Sub.en Z);try dsimp only at h
 refine AWP.G 1 Z (.add Z Z Z (by omega) (.E Z Z (.nil ?_)));obtain rfl:=oi h;refine b5 (Sub.en Z);intro iz;refine f9 (d6 ?_);obtain rfl:=oi h;exact b5 ⟨_,Z,(Sub.en Z)⟩;refine AWP.exit (i7 ?_);obtain rfl:=oi h;exact i7 ⟨_,Z,Z,(Sub.ct Z Z (.d (.v .n)))⟩;intro e s hq;obtain⟨rfl,hs⟩:=hq;refine ⟨_,hs,(f9 (b5 (.j (.gk 1 Z (.u (bB h fun oo b4 h=>.rngL b4 (fun p _=>⟨[(5,.c (row 1 d7 y)),(6,.c (.own 1 0 (jn B))),(12,(cI p))],[.dead,(oV 1 intI B)]⟩) (fun x e st=>e=.ret/\Done [.t 4] (fun t _=>t=(cB x)) .ret st) (fun _ _ _ k=>.G 2 Z (S.len Z Z fun hl=>.gn 1 Z (k hl))) (fun _ _=>Z) ?_ ?_ ?_ ?_))))))⟩;exact Sub.en Z;intro p s o a9 be h cd;refine AWP.j (.u (.j (bB h fun cn r h=>.G 2 Z (S.idxO r Z Z Z Z Z (S.loadO r Z Z Z Z Z (.geq Z Z Z (.nil (b5 (.O Z h (fun bi h=> ?_) (fun bi h=> ?_))))))))));refine AWP.gk 1 Z (.ret (i5 (e8 ?_)));obtain rfl:=oi h;exact e8 ⟨_,Z,Z,(Done.ret Z Z)⟩;refine AWP.skip (d6 (b5 (.G 1 Z (.add Z Z Z (by omega) (.E Z Z (.nil ?_))))));obtain rfl:=oi h;exact b5 ⟨_,Z,(Sub.en Z)⟩;intro iz _ he;subst he;refine f9 (b5 (.gk 1 Z (.ret ?_)));obtain rfl:=oi h;exact Done.ret Z Z;intro x e st he hq;subst he;obtain⟨rfl,hs⟩:=hq;refine ⟨_,Sub.refl _ _,(i5 (e8 ?_))⟩;obtain rfl:=oi h;exact hs
def ay8:∀(n:Nat) (xs:(LL)) (r:Int),recN (A0) n xs=some r->FnOk prog 88 [.c (row 1 d7 xs)] (an3 xs) (fun tt ss=>tt=(cI r)/\ss=[]):=by
 intro n;induction n with
 |zero=>intro xs r h;cases h
 |succ n ih=>
  intro m r h
  have h:A0 (recN (A0) n) m=some r:=h
  revert ih h
  generalize recN (A0) n=a3
  intro B h
  refine FnOk.enter (rs:=[.t 2]) func88 Z ntmps88 results88 Z ⟨Y,Y⟩ (by kernel_rfl) Z ?_
  refine AWP.weak ?_
  refine AWP.gk 1 Z (.j (.gs 1 Z (S.len Z Z (fun a4=>.ge 1 Z (.O Z h (fun ad h=> ?_) (fun ad h=> ?_))))))
  ·refine AWP.gk 1 Z (.ret (e8 ?_))
   obtain rfl:=oi h
   exact Done.e Z ⟨Z,Z⟩
  ·refine AWP.skip (b5 (.gk 1 Z (.gk 1 Z (.j (.gk 1 Z (.u ?_))))))
   obtain⟨⟨i,b⟩,al,h⟩:=bind_some h
   refine AWP.forL al (fun F (i,b)=>⟨[(0,.c (row 1 d7 m)),(3,(cI i)),(4,(cI b)),(5,(cI F))],[]⟩) (fun _ _ _ k=>.G 2 Z (S.len Z Z fun hl=>.gn 1 Z (k hl))) (fun _ _=>Z) ?_ ?_ ?_
   ·exact Sub.en Z
   ·intro F s o an ao h a1
    obtain⟨i,b⟩:=s
    refine AWP.j (.u ?_)
    obtain⟨H,g,h⟩:=bind_some h
    refine AWP.jP [0,4,5] [(3,(cI H))] Z ?_ ?_
    ·refine AWP.j ?_
     obtain⟨a5,J,a6,K,g⟩:=b2 g
     refine AWP.G 1 Z (S.idx J Z Z Z Z (.G 2 Z (S.idx K Z Z Z Z (.G 2 Z (.nil (b5 (.iteN Z g (fun av g=> ?_) (fun av g=> ?_))))))))
     ·refine AWP.gk 1 Z (.j (.gk 1 Z (.u (.virtVM 1 intI 6 Z Z Z Z ?_))))
      obtain⟨v,ay,g⟩:=bind_some g
      refine AWP.forL ay (fun w v=>⟨[(0,.c (row 1 d7 m)),(3,(cI i)),(4,(cI b)),(5,(cI F)),(6,.c (.own 0 0 (jn v))),(7,(cI w))],[mat (0,[]) 1 intI v]⟩) (fun _ _ _ k=>.G 2 Z (S.len Z Z fun hl=>.gn 1 Z (k hl))) (fun _ _=>Z) ?_ ?_ ?_
      ·exact Sub.en Z
      ·intro w v o L M h a2
       refine AWP.j (.u ?_)
       obtain⟨a7,x,a8,y,a9,P,h⟩:=b3 h
       obtain⟨be,p,bi,q,Q,U,h⟩:=b3 h
       obtain⟨V,X,h⟩:=bind_some h
       refine AWP.drawEI [1,8,16,17,18] mixed Z Z Z (b8.D 1 Z Z ?_)
       apply b8.consE;exact Z;exact Z;intro E
       refine S.lit (f:=intI) (l:=[]) (ess:=[]) Z Z Z Z Z Z Z Y Z Z Z .N
       exact Z
       exact Z
       refine b8.D 2 Z Z ?_
       refine b8.consN Z Z (fun E=>S.idx x Z Z Z Z .N) Z ?_
       refine b8.D 2 Z Z ?_
       refine b8.consN Z Z (fun E=>S.subTo y Z Z Z .N) Z ?_
       apply b8.consE;exact Z;exact Z;intro E
       refine S.append (f:=intI) P Z Z Z Z Z Z .row Z Z Z Z .N
       exact Z
       exact Z
       refine b8.D 2 Z Z ?_
       refine b8.consN Z Z (fun E=>S.idx p Z Z Z Z .N) Z ?_
       refine b8.D 2 Z Z ?_
       refine b8.consN Z Z (fun E=>.add Z Z Z (by omega) .N) Z (.consN Z Z (fun E=>S.subFrom q Z Z Z .N) Z ?_)
       apply b8.consE;exact Z;exact Z;intro E
       refine S.append (f:=intI) U Z Z Z Z Z Z .row Z Z Z Z .N
       exact Z
       exact Z
       apply b8.consE;exact Z;exact Z;intro E
       refine W.lit1 Z Z Z Z Z Z Z Z Z .N
       exact Z
       exact Z
       apply b8.consE;exact Z;exact Z;intro E
       refine S.appendMR (k:=1) (f:=intI) (a:=Q) X Z Z Z Z Z Z Z Z Z Z Z Z Z Z Z Z .N
       exact Z
       exact Z
       refine b8.D 1 Z Z (b8.done Z ?_ ?_)
       ·refine d8.D 4 Z Z ?_
        refine d8.cons Z Z (.go Z Z (fun E=>S.idx x Z Z Z Z .N) (.go Z Z (fun E=>S.idx x Z Z Z Z .N) (.skip Z (.skip Z (.skip Z (.skip Z .nil)))))) ?_
        refine d8.D 2 Z Z ?_
        refine d8.cons Z Z (.go Z Z (fun E=>S.subTo y Z Z Z .N) (.go Z Z (fun E=>S.subTo y Z Z Z .N) (.skip Z (.skip Z (.skip Z (.skip Z .nil)))))) ?_
        refine d8.D 3 Z Z ?_
        refine d8.cons Z Z (.go Z Z (fun E=>S.idx p Z Z Z Z .N) (.go Z Z (fun E=>S.idx p Z Z Z Z .N) (.go Z Z (fun E=>S.idx p Z Z Z Z .N) (.skip Z (.skip Z (.skip Z .nil)))))) ?_
        refine d8.D 2 Z Z ?_
        refine d8.cons Z Z (.go Z Z (fun E=>.add Z Z Z (by omega) .N) (.go Z Z (fun E=>.add Z Z Z (by omega) .N) (.go Z Z (fun E=>.add Z Z Z (by omega) .N) (.skip Z (.skip Z (.skip Z .nil)))))) (.cons Z Z (.go Z Z (fun E=>S.subFrom q Z Z Z .N) (.go Z Z (fun E=>S.subFrom q Z Z Z .N) (.go Z Z (fun E=>S.subFrom q Z Z Z .N) (.skip Z (.skip Z (.skip Z .nil)))))) ?_)
        refine d8.D 4 Z Z (d8.nil)
       dsimp only[g9]
       refine d6 (b5 (.moveM (env':=[(0,.c (row 1 d7 m)),(3,(cI i)),(4,(cI b)),(5,(cI F)),(6,.c (.own 0 0 (jn V))),(7,(cI w))]) (σ':=[mat (0,[]) 1 intI V,.dead,.dead,.dead,(o1 (.own 3 0 (jn Q)))]) 0 5 Z Z Z ⟨Z,Z,Z,Z,Z,Z,Y⟩ Z ⟨(.mat Z Z Z),.dead,.dead,.dead,(.one Z Z),Y⟩ (.G 1 Z (.add Z Z Z (by omega) (.E Z Z (.nil ?_))))))
       obtain rfl:=oi h
       refine b5 (Sub.ct Z Z (.e (.mat Z) .n))
      ·intro iz
       refine f9 (b5 (.matV' (k:=1) (f:=intI) (env':=[(0,.c (row 1 d7 m)),(3,(cI i)),(4,(cI b)),(5,(cI F)),(6,.c (.own 0 0 (jn v)))]) (σ':=[(oV 1 d7 v)]) 0 Z ⟨Z,Z,Z,Z,Z,Y⟩ Z (by exact⟨.self,Y⟩) Z Z (.fz 0 [0,3,4,5,6] Z Z Z Z ⟨Z,Y⟩ (.d .n) ?_)))
       obtain⟨bk,z,bs,A,bv,ac,g⟩:=b3 g
       refine AWP.drawEI [10] mixed Z Z Z (b8.D 3 Z Z ?_)
       refine b8.consN Z Z (fun E=>S.idx z Z Z Z Z .N) Z ?_
       refine b8.D 2 Z Z ?_
       refine b8.consN Z Z (fun E=>S.idx A Z Z Z Z .N) Z ?_
       refine b8.D 3 Z Z ?_
       apply b8.consE;exact Z;exact Z;intro E
       refine AOps.callF Z Z Z (FnOk.ld [] (B _ _ ac) Z Z Z .n Z (.d .n) Z) .N
       exact Z
       exact Z
       refine b8.D 3 Z Z (b8.done Z ?_ ?_)
       ·refine d8.D 3 Z Z ?_
        refine d8.cons Z Z ?_ ?_
        refine d9.go Z Z (fun E=>S.idx z Z Z Z Z .N) ?_
        refine d9.go Z Z (fun E=>S.idx z Z Z Z Z .N) ?_
        exact d9.nil
        refine d8.D 2 Z Z ?_
        refine d8.cons Z Z ?_ ?_
        refine d9.go Z Z (fun E=>S.idx A Z Z Z Z .N) ?_
        refine d9.go Z Z (fun E=>S.idx A Z Z Z Z .N) ?_
        exact d9.nil
        refine d8.D 7 Z Z (d8.nil)
       dsimp only[g9]
       obtain rfl:=oi g
       refine b5 (Sub.ct Z Z .n)
     ·refine AWP.skip ?_
      obtain rfl:=oi g
      refine b5 (Sub.en Z)
    ·refine AWP.G 1 Z (S.neg Z Z (.E Z Z (.nil (d6 (b5 (.G 1 Z (.add Z Z Z (by omega) (.E Z Z (.nil ?_)))))))))
     obtain rfl:=oi h
     refine b5 (Sub.en Z)
   ·intro iz
    refine f9 (b5 (.gk 2 Z (.ret ?_)))
    obtain rfl:=oi h
    exact Done.e Z ⟨Z,Z⟩
def am9(h:N4 f=some x):FnOk prog 88 [.c (row 1 d7 f)] (an3 f) (fun a b=>a=(cI x)/\b=[]):=by obtain⟨n,d⟩:=Rec_some h;exact ay8 n _ x d
def aH2{states:LL}{r:Li×Int}(h:U4 d states a=some r):e9 prog 55 [.agg (tO d),.c (row 1 d7 states),(cR a)] (.tup [(cR r.1),(cI r.2)]):=by
 unfold e9;refine FnOk.enter (rs:=[.t 6,.t 7]) func55 Z ntmps55 results55 Z ⟨Y,Y,Y⟩ (by kernel_rfl) Z ?_;refine AWP.gk 3 Z (.gs 1 Z (S.len Z Z (fun eb=>.ge 1 Z (.gk 1 Z (.gk 1 Z (.j (.gk 1 Z (.u (.virtV 1 d7 9 Z Z Z (.virtV 1 intI 10 Z Z Z ?_))))))))));obtain⟨⟨V,q⟩,dd,h⟩:=bind_some h;refine AWP.forL dd (fun X (V,q)=>⟨[(1,.c (row 1 d7 states)),(2,(cR a)),(3,(cP 0 0 0)),(8,(cI (jn states:Int))),(9,.c (.own 1 0 (jn V))),(10,.c (.own 2 0 (jn q))),(11,(cI X))],[(oE 4 (tO d)),(oV 1 d7 V),(oV 1 intI q)]⟩) (fun _ _ _ k=>.gn 3 Z (k Y)) (fun _ _=>Z) ?_ ?_ ?_;exact Sub.env ⟨Z,Z,Z,Z,(n8 (by first|rfl|simp only[lS])),(n8 (by first|rfl|simp only[lS])),Z,Y⟩
 intro X s o c2 c3 h _;obtain⟨V,q⟩:=s;refine AWP.j (.u (.j (bB h fun ei b0 h=>.G 1 Z (S.make (f:=intI) b0 (.val .nil) Z Z Z Z Z Z (.E Z Z (.nil (b5 (.gk 1 Z (.j (bD h fun ej b1 ek b4 ca cb h=>.drawI mixed Z (b7.D 3 Z (b7.consF Z (fun E=>S.idx b1 Z Z Z Z .N) Z (b7.D 3 Z (b7.consF Z (fun E=>S.idx b4 Z Z Z Z .N) Z (b7.D 1 Z (b7.consF Z (fun E=>.z Z Z Z Z (O9 cb) Z .N) Z (b7.D 5 Z (b7.done ?_))))))))))))))))));dsimp only[g9];refine b5 (.j (.gk 1 Z (.u ?_)));obtain⟨⟨c7,e⟩,dk,h⟩:=bind_some h;refine AWP.forL dk (fun cc (c7,e)=>⟨[(1,.c (row 1 d7 states)),(2,(cR a)),(3,(cP 0 0 0)),(8,(cI (jn states:Int))),(9,.c (.own 1 0 (jn V))),(10,.c (.own 2 0 (jn q))),(11,(cI X)),(12,.c (.own 3 0 (jn c7))),(13,(cI e)),(14,.c (row 1 d7 ca.1)),(15,(cR ca.2)),(16,(cI cc))],[(oE 4 (tO d)),(oV 1 d7 V),(oV 1 intI q),(oV 1 intI c7)]⟩) (fun _ _ _ k=>.G 2 Z (S.len Z Z fun hl=>.gn 1 Z (k hl))) (fun _ _=>Z) ?_ ?_ ?_;exact Sub.en Z;intro cc s o c6 c8 h ec;obtain⟨c7,e⟩:=s;obtain⟨⟨cd,a7⟩,b,h⟩:=bind_some h;refine AWP.jQ [1,2,3,8,9,10,11,14,15,16] [(12,.c (.own 3 0 (jn cd))),(13,(cI a7))] [(oE 4 (tO d)),(oV 1 d7 V),(oV 1 intI q),(oV 1 intI cd)] Z ?_ ?_;refine AWP.u (.j (bD b fun dl H dn a3 el ac b=>.drawEI [12] mixed Z Z Z (b8.D 4 Z Z (b8.consN Z Z (fun E=>S.idxO H Z Z Z Z Z .N) Z (.consN Z Z (fun E=>S.loadO H Z Z Z Z Z .N) Z (b8.D 2 Z Z (b8.consN Z Z (fun E=>S.idx a3 Z Z Z Z .N) Z (b8.D 2 Z Z (b8.consN Z Z (fun E=>S.idxO ac Z Z Z Z Z .N) Z ?_)))))))));apply b8.consE (v:=.undef);exact Z;exact Z;intro E;exact S.storeO1 (f:=intI) (a':=w64 (dl+dn)) (s9 ac) (fun _=>⟨_,Z⟩) Z Z Z Z Z (AOps.nil ⟨Z,Z⟩);exact Z;exact Z;refine b8.done Z ?_ ?_;exact d8.D 4 Z Z (d8.cons Z Z (.go Z Z (fun E=>S.idxO H Z Z Z Z Z .N) (.skip Z .nil)) (.cons Z Z (.go Z Z (fun E=>S.loadO H Z Z Z Z Z .N) (.skip Z .nil)) (d8.D 2 Z Z (d8.cons Z Z (.go Z Z (fun E=>S.idx a3 Z Z Z Z .N) (.skip Z .nil)) (d8.D 2 Z Z (d8.cons Z Z (.go Z Z (fun E=>S.idxO ac Z Z Z Z Z .N) (.skip Z .nil)) (d8.D 1 Z Z (d8.nil))))))));dsimp only[g9];refine b5 (.j (bD b fun em ce eo cf ep cg b=>.drawI mixed Z (b7.D 3 Z (b7.consF Z (fun E=>S.idx ce Z Z Z Z .N) Z (b7.D 5 Z (b7.consF Z (fun E=>S.idx cf Z Z Z Z .N) Z (b7.D 1 Z (b7.consF Z (fun E=>S.idx cg Z Z Z Z .N) Z (b7.D 5 Z (b7.done ?_))))))))));dsimp only[g9];refine b5 (.j (bC b fun eq ch es ci b=>.drawI mixed Z (b7.D 3 Z (b7.consF Z (fun E=>S.idx ch Z Z Z Z .N) Z (b7.D 1 Z (b7.consF Z (fun E=>.z Z Z Z Z (D9 ci) Z .N) Z (b7.D 1 Z (b7.done ?_))))))));dsimp only[g9];refine b5 (.U Z b (fun cj b=> ?_) (fun cj b=> ?_));refine AWP.j (bC b fun ex ck ey cl b=>.G 3 Z (S.idx ck Z Z Z Z (.G 1 Z (.z Z Z Z Z (B4 cl) Z (.E Z Z (.nil (b5 (bD b fun ds J cm ad ed y b=>.drawEI [12] mixed Z Z Z (b8.D 4 Z Z (b8.consN Z Z (fun E=>S.idxO J Z (by simp only[lS]) Z Z Z .N) Z (.consN Z Z (fun E=>S.loadO J Z Z Z Z Z .N) Z (b8.D 2 Z Z (b8.consN Z Z (fun E=>S.idx ad Z Z Z Z .N) Z (b8.D 2 Z Z (b8.consN Z Z (fun E=>S.idxO y Z (by simp only[lS]) Z Z Z .N) Z ?_)))))))))))))));apply b8.consE (v:=.undef);exact Z;exact Z;intro E;exact S.storeO1 (f:=intI) (a':=w64 (ds - cm)) (s9 y) (fun _=>⟨_,Z⟩) Z Z Z Z Z (AOps.nil ⟨Z,Z⟩);exact Z;exact Z;refine b8.done Z ?_ ?_;exact d8.D 4 Z Z (d8.cons Z Z (.go Z Z (fun E=>S.idxO J Z (by simp only[lS]) Z Z Z .N) (.skip Z .nil)) (.cons Z Z (.go Z Z (fun E=>S.loadO J Z Z Z Z Z .N) (.skip Z .nil)) (d8.D 2 Z Z (d8.cons Z Z (.go Z Z (fun E=>S.idx ad Z Z Z Z .N) (.skip Z .nil)) (d8.D 2 Z Z (d8.cons Z Z (.go Z Z (fun E=>S.idxO y Z (by simp only[lS]) Z Z Z .N) (.skip Z .nil)) (d8.D 1 Z Z (d8.nil))))))));dsimp only[g9];refine d6 ?_;obtain⟨A,B⟩:=o2 b;subst A B;refine b5 (Sub.env ⟨Z,Z,Z,Z,Z,Z,Z,Z,Z,Z,(n8 (by first|rfl|simp only[lS])),Z,Y⟩)
 refine AWP.skip (d6 ?_);obtain⟨A,B⟩:=o2 b;subst A B;refine b5 (Sub.env ⟨Z,Z,Z,Z,Z,Z,Z,Z,Z,Z,(n8 (by first|rfl|simp only[lS])),Z,Y⟩)
 try dsimp only at h
 refine AWP.G 1 Z (.add Z Z Z (by omega) (.E Z Z (.nil ?_)));obtain rfl:=oi h;refine b5 (Sub.en Z);intro iz;refine f9 (b5 (.j (bB h fun K a8 h=>.G 2 Z (.fz 3 [1,2,3,8,10,11,13,106,107] Z Z Z Z ⟨Z,Y⟩ (.o Z Y (.v (.v (.d .n)))) (S.lit (f:=d7) (l:=[c7]) (ess:=[[row 1 intI c7]]) Z Z Z Z Z Z Z ⟨⟨.inl Z,Y⟩,Y⟩ Z Z Z (S.append (f:=d7) a8 Z Z Z Z Z Z (.own Z Z) Z Z Z Z (.E Z Z (.nil (b5 (.F (env':=[(1,.c (row 1 d7 states)),(2,(cR a)),(3,(cP 0 0 0)),(8,(cI (jn states:Int))),(9,.c (.own 1 0 (jn K))),(10,.c (.own 2 0 (jn q))),(11,(cI X)),(13,(cI e))]) (σ':=[(oE 4 (tO d)),(oV 1 d7 K),(oV 1 intI q),.dead,(oV 1 d7 [c7])]) 1 5 Z Z Z ⟨Z,Z,Z,Z,Z,Z,Z,Z,Y⟩ Z ⟨⟨Z,Z⟩,⟨Blk.im_ok _ _ _,k8 Z⟩,⟨Blk.im_ok _ _ _,k8 Z⟩,Y,⟨Blk.im_ok _ _ _,k8 Z⟩,Y⟩ (bB h fun a4 a9 h=>.G 2 Z (S.lit (f:=intI) (l:=[e]) (ess:=[[int e]]) Z Z Z Z Z Z Z ⟨⟨.inl Z,Y⟩,Y⟩ Z Z Z (S.append (f:=intI) a9 Z Z Z Z Z Z (.own Z Z) Z Z Z Z (.E Z Z (.nil (d6 (b5 (.F (env':=[(1,.c (row 1 d7 states)),(2,(cR a)),(3,(cP 0 0 0)),(8,(cI (jn states:Int))),(9,.c (.own 1 0 (jn K))),(10,.c (.own 2 0 (jn a4))),(11,(cI X))]) (σ':=[(oE 4 (tO d)),(oV 1 d7 K),(oV 1 intI a4),.dead,(oV 1 d7 [c7]),(oV 1 intI [e])]) 2 6 Z Z Z ⟨Z,Z,Z,Z,Z,Z,Z,Y⟩ Z ⟨⟨Z,Z⟩,⟨Blk.im_ok _ _ _,k8 Z⟩,⟨Blk.im_ok _ _ _,k8 Z⟩,Y,⟨Blk.im_ok _ _ _,k8 Z⟩,⟨Blk.im_ok _ _ _,k8 Z⟩,Y⟩ (.G 1 Z (.add Z Z Z (by omega) (.E Z Z (.nil ?_))))))))))))))))))))));obtain rfl:=oi h;refine b5 (Sub.ct Z Z (.o Z (.v (.v .n))));intro iz;refine f9 (b5 (.j (bB h fun p be h=>.G 1 Z (.fz 1 [8,9,10,114] Z Z Z Z ⟨Z,Z,Y⟩ (.o Z Y (.d (.v .n))) (AOps.callF Z Z Z (FnOk.ld [] (am9 be) Z Z Z .n Z (.o Z Z (.d (.o Z Z .n))) Z) (.E Z Z (.nil (b5 (.gk 1 Z (.j (.gk 1 Z (.u (.virtV 1 intI 19 Z Z Z (bB h fun i dx h=>.forL dx (fun w i=>⟨[(8,(cI (jn states:Int))),(9,.c (row 1 d7 V)),(10,.c (.own 2 0 (jn q))),(18,(cI p)),(19,.c (.own 3 0 (jn i))),(20,(cI w))],[.dead,.dead,(oV 1 intI q),(oV 1 intI i)]⟩) (fun _ _ _ k=>.gn 3 Z (k Y)) (fun _ _=>Z) ?_ ?_ ?_))))))))))))));exact Sub.ctE ⟨Z,Z,Z,Z,(n8 (by first|rfl|simp only[lS])),Z,Y⟩ Z (.d (.d (.v (.v .n))))
 intro w i o c9 da h _;refine AWP.j (.u (.gk 1 Z (.j (.gk 1 Z (.u (.virtV 1 d7 21 Z Z Z (bB h fun Q dy h=>.forL dy (fun M Q=>⟨[(8,(cI (jn states:Int))),(9,.c (row 1 d7 V)),(10,.c (.own 2 0 (jn q))),(18,(cI p)),(19,.c (.own 3 0 (jn i))),(20,(cI w)),(21,.c (.own 4 0 (jn Q))),(22,(cI M))],[.dead,.dead,(oV 1 intI q),(oV 1 intI i),(oV 1 d7 Q)]⟩) (fun _ _ _ k=>.gn 3 Z (k Y)) (fun _ _=>Z) ?_ ?_ ?_)))))));exact Sub.env ⟨Z,Z,Z,Z,Z,Z,(n8 (by first|rfl|simp only[lS])),Z,Y⟩
 intro M Q o cn cv h _;refine AWP.j (.u (.j (bC h fun ef bi x bj h=>.aa (S.lit (f:=intI) (l:=[]) (ess:=[]) Z Z Z Z Z Z Z Y Z Z Z (.G 2 Z (S.idx bi Z Z Z Z (.G 1 Z (S.append (f:=intI) bj Z Z Z Z Z Z .row Z Z Z Z (.E Z Z (.nil (b5 (.j (.F (env':=[(8,(cI (jn states:Int))),(9,.c (row 1 d7 V)),(10,.c (.own 2 0 (jn q))),(18,(cI p)),(19,.c (.own 3 0 (jn i))),(20,(cI w)),(21,.c (.own 4 0 (jn Q))),(22,(cI M)),(23,.c (.own 5 0 (jn x)))]) (σ':=[.dead,.dead,(oV 1 intI q),(oV 1 intI i),(oV 1 d7 Q),(oV 1 intI x)]) 5 6 Z Z Z ⟨Z,Z,Z,Z,Z,Z,Z,Z,Z,Y⟩ Z ⟨Y,Y,⟨Blk.im_ok _ _ _,k8 Z⟩,⟨Blk.im_ok _ _ _,k8 Z⟩,⟨Blk.im_ok _ _ _,k8 Z⟩,⟨Blk.im_ok _ _ _,k8 Z⟩,Y⟩ (bC h fun P al eg an h=>.G 4 Z (S.idxO al Z Z Z Z Z (S.loadO al Z Z Z Z Z (S.idxO an Z Z Z Z Z (S.storeO1 (f:=intI) (a':=P) (s9 an) (fun _=>⟨_,Z⟩) Z Z Z Z Z (AOps.nil (b5 (bB h fun a5 bk h=>.G 2 Z (.fz 5 [8,9,10,18,19,20,22,139,140] Z Z Z Z ⟨(by simp only[lS]),Y⟩ (.d (.d (.v (.v (.v (.d .n)))))) (S.lit (f:=d7) (l:=[x.set w.toNat P]) (ess:=[[row 1 intI (x.set w.toNat P)]]) Z Z Z Z Z Z Z ⟨⟨.inl Z,Y⟩,Y⟩ Z Z Z (S.append (f:=d7) bk Z Z Z Z Z Z (.own Z Z) Z Z Z Z (.E Z Z (.nil (d6 (b5 (.F (env':=[(8,(cI (jn states:Int))),(9,.c (row 1 d7 V)),(10,.c (.own 2 0 (jn q))),(18,(cI p)),(19,.c (.own 3 0 (jn i))),(20,(cI w)),(21,.c (.own 4 0 (jn a5))),(22,(cI M))]) (σ':=[.dead,.dead,(oV 1 intI q),(oV 1 intI i),(oV 1 d7 a5),.dead,(oV 1 d7 [x.set w.toNat P])]) 4 7 Z Z Z ⟨Z,Z,Z,Z,Z,Z,Z,Z,Y⟩ Z ⟨Y,Y,⟨Blk.im_ok _ _ _,k8 Z⟩,⟨Blk.im_ok _ _ _,k8 Z⟩,⟨Blk.im_ok _ _ _,k8 Z⟩,Y,⟨Blk.im_ok _ _ _,k8 Z⟩,Y⟩ (.G 1 Z (.add Z Z Z (by omega) (.E Z Z (.nil ?_)))))))))))))))))))))))))))))))));obtain rfl:=oi h;refine b5 (Sub.ct Z Z (.d (.d (.v (.v (.v .n))))));intro iz;refine f9 (b5 (bC h fun ao bs a6 bv h=>.G 2 Z (.fz 4 [8,9,10,18,20,143,144] Z Z Z Z ⟨Z,Y⟩ (.d (.d (.v (.v (.d .n))))) (AOps.callF Z Z Z (FnOk.ld [] (am9 bs) Z Z Z .n Z (.d (.d (.o Z Z (.o Z Z (.d .n))))) Z) (S.lit (f:=intI) (l:=[ao]) (ess:=[[int ao]]) Z Z Z Z Z Z Z ⟨⟨.inl Z,Y⟩,Y⟩ Z Z Z (S.append (f:=intI) bv Z Z Z Z Z Z (.own Z Z) Z Z Z Z (.E Z Z (.nil (d6 (b5 (.F (env':=[(8,(cI (jn states:Int))),(9,.c (row 1 d7 V)),(10,.c (.own 2 0 (jn q))),(18,(cI p)),(19,.c (.own 3 0 (jn a6))),(20,(cI w))]) (σ':=[.dead,.dead,(oV 1 intI q),(oV 1 intI a6),.dead,(oV 1 intI [ao])]) 3 6 Z Z Z ⟨Z,Z,Z,Z,Z,Z,Y⟩ Z ⟨Y,Y,⟨Blk.im_ok _ _ _,k8 Z⟩,⟨Blk.im_ok _ _ _,k8 Z⟩,Y,⟨Blk.im_ok _ _ _,k8 Z⟩,Y⟩ (.G 1 Z (.add Z Z Z (by omega) (.E Z Z (.nil ?_)))))))))))))));obtain rfl:=oi h;refine b5 (Sub.ct Z Z (.d (.d (.v (.v .n)))));intro iz;refine f9 (b5 ?_);obtain⟨⟨cx,bx⟩,g,h⟩:=bind_some h;refine AWP.seqJ (⟨[(18,(cI bx)),(19,.c (.own 3 0 (jn cx)))],[.dead,.dead,.dead,(oV 1 intI cx)]⟩) ?_ ?_;refine AWP.gk 2 Z (.O Z g (fun cz g=> ?_) (fun cz g=> ?_));refine AWP.gs 1 Z (S.neg Z Z (.ge 1 Z (.gk 1 Z (.u (bB g fun a2 ea g=>.forL ea (fun c0 a2=>⟨[(8,(cI (jn states:Int))),(18,(cI (w64 (0 - p)))),(19,.c (.own 3 0 (jn a2))),(24,(cI c0))],[.dead,.dead,.dead,(oV 1 intI a2)]⟩) (fun _ _ _ k=>.gn 3 Z (k Y)) (fun _ _=>Z) ?_ ?_ ?_)))));exact Sub.ct Z Z (.d (.d (.d (.v .n))));intro c0 a2 o db dc h _;refine AWP.j (.u (bC h fun c1 av eh ay h=>.G 4 Z (S.idxO av Z Z Z Z Z (S.loadO av Z Z Z Z Z (S.neg Z Z (S.idxO ay Z Z Z Z Z (S.storeO1 (f:=intI) (a':=w64 (0 - c1)) (s9 ay) (fun _=>⟨_,Z⟩) Z Z Z Z Z (AOps.nil (d6 (b5 (.G 1 Z (.add Z Z Z (by omega) (.E Z Z (.nil ?_))))))))))))));obtain rfl:=oi h;refine b5 (Sub.env ⟨Z,Z,(n8 (by first|rfl|simp only[lS])),Z,Y⟩)
 intro iz;refine f9 ?_;obtain⟨A,B⟩:=o2 g;subst A B;refine b5 (Sub.en Z);refine AWP.skip ?_;obtain⟨A,B⟩:=o2 g;subst A B;refine b5 (Sub.ct Z Z (.d (.d (.d (.v .n)))));try dsimp only at h
 refine AWP.gk 4 Z (.fz 3 [6,7] Z Z Z Z ⟨Z,Y⟩ (.d (.d (.d (.d .n)))) (AWP.ret ?_));obtain rfl:=oi h;exact Done.ret Z Z
def ref8_Gcd_ok{r:Int}(h:aq8 x y=some r):e9 prog 57 [(cI x),(cI y)] ((cI r)):=by unfold e9;refine FnOk.enter (rs:=[.t 4]) func57 Z ntmps57 results57 Z ⟨Y,Y⟩ (by kernel_rfl) Z ?_;refine AWP.gk 1 Z (.gk 1 Z (.j (.u ?_)));obtain⟨⟨l,g⟩,L,h⟩:=bind_some h;refine AWP.loopS L (fun(c,i,d)=>⟨[(0,(cI c)),(1,(cI i)),(5,(cI d))],[]⟩) (fun(l,g) e st=>e=.exit 0/\Sub [] st ⟨[(1,(cI l)),(5,(cI g))],[]⟩) ?_ ?_ ?_;exact Sub.en Z;intro s o h;obtain⟨c,i,d⟩:=s;refine AWP.j (.seqJ (⟨[(0,(cI c)),(1,(cI i)),(5,(cI d)),(12,(cB ((decide (0<c)) && (!(decide (c=i))))))],[]⟩) ?_ ?_);rcases bft (decide (0<c)) with f|f;refine AWP.G 3 Z (.K Z Z f (.G 4 Z (.nil (b5 ?_))));simp only[ab4 f,or_t f,io,iw,il,ip];exact Sub.en Z;refine AWP.G 3 Z (.K Z Z f (.G 4 Z (.nil (b5 ?_))));simp only[ae1 f,or_f f,io,iw,il,ip];exact Sub.en Z;refine AWP.U Z h (fun M h=> ?_) (fun M h=> ?_);refine AWP.skip (b5 (.u (bB h fun t9 a h=>.jP [0,1,5] [(20,(cB t9))] Z ?_ ?_)));obtain⟨N,k,a⟩:=bind_some a;rcases bft (decide ((c).tmod 2=0)) with b|b;replace a:=G5 b a;obtain⟨P,n,a⟩:=bind_some a;refine AWP.G 1 Z (S.rem k Z Z Z (.G 2 Z (.K Z Z b (.G 1 Z (.J Z Z Z Z (S.rem n Z Z Z (.G 2 Z (.nil ?_))))))));obtain rfl:=oi a;refine b5 (Sub.en Z);replace a:=G1 b a;refine AWP.G 1 Z (S.rem k Z Z Z (.G 2 Z (.K Z Z b (.G 4 Z (.nil ?_)))));obtain rfl:=oi a;refine b5 (Sub.en Z);refine AWP.U Z h (fun p h=> ?_) (fun p h=> ?_);refine AWP.j (bB h fun Q q h=>.G 1 Z (S.quo q Z Z Z (.E Z Z (.nil (b5 (.j (bB h fun V v h=>.G 1 Z (S.quo v Z Z Z (.E Z Z (.nil (b5 (.G 3 Z (.nil (d6 ?_))))))))))))));obtain rfl:=oi h;exact b5 ⟨_,Z,(Sub.en Z)⟩;refine AWP.j (bB h fun X w h=>.G 1 Z (S.rem w Z Z Z (.eql Z Z Z (.nil (b5 (.O Z h (fun z h=> ?_) (fun z h=> ?_)))))));obtain⟨aa,A,h⟩:=bind_some h;refine AWP.G 1 Z (S.quo A Z Z Z (.E Z Z (.nil (d6 ?_))));obtain rfl:=oi h;exact b5 ⟨_,Z,(Sub.en Z)⟩;refine AWP.j (bB h fun ac B h=>.G 1 Z (S.rem B Z Z Z (.eql Z Z Z (.nil (b5 (.O Z h (fun D h=> ?_) (fun D h=> ?_)))))));obtain⟨ad,F,h⟩:=bind_some h;refine AWP.G 1 Z (S.quo F Z Z Z (.E Z Z (.nil (d6 ?_))));obtain rfl:=oi h;exact b5 ⟨_,Z,(Sub.en Z)⟩;refine AWP.gk 3 Z (.O Z h (fun H h=> ?_) (fun H h=> ?_));refine AWP.G 4 Z (.nil (d6 ?_));obtain rfl:=oi h;exact b5 ⟨_,Z,(Sub.en Z)⟩;refine AWP.G 4 Z (.nil (d6 ?_));obtain rfl:=oi h;exact b5 ⟨_,Z,(Sub.en Z)⟩;refine AWP.exit (i7 ?_);obtain rfl:=oi h;exact i7 ⟨_,Z,Z,(Sub.en Z)⟩;intro e s hq;obtain⟨rfl,hs⟩:=hq;refine ⟨_,hs,(f9 (b5 (.gk 4 Z (.ret ?_))))⟩;obtain rfl:=oi h;exact Done.ret Z Z
def B3{r:s8}(h:I8 x y=some r):e9 prog 15 [(cI x),(cI y)] (.agg [int r.num,int r.den]):=by unfold e9;refine FnOk.enter (rs:=[.cell 4 28 2]) func15 Z ntmps15 results15 Z ⟨rv _ Z,Y⟩ (by kernel_rfl) Z ?_;refine AWP.gk 1 Z (.j (bB h fun g c h=>.G 2 Z (.z Z Z Z Z (ref8_Gcd_ok c) Z (.E Z Z (.nil (b5 (.j (bC h fun d a e b h=>.drawEI [7] mixed Z Z Z (b8.D 2 Z Z (b8.consN Z Z (fun E=>S.quo a Z Z Z .N) Z (b8.D 2 Z Z (b8.consN Z Z (fun E=>S.quo b Z Z Z .N) Z (b8.D 1 Z Z ?_)))))))))))));apply b8.consE (v:=.undef);exact Z;exact Z;intro E;refine W.storeAgg Z Z Z Z Z Z Z .N;exact Z;exact Z;refine b8.done Z ?_ ?_;exact d8.D 2 Z Z (d8.cons Z Z (.go Z Z (fun E=>S.quo a Z Z Z .N) (.skip Z .nil)) (d8.D 2 Z Z (d8.cons Z Z (.go Z Z (fun E=>S.quo b Z Z Z .N) (.skip Z .nil)) (d8.D 2 Z Z (d8.nil)))));dsimp only[g9];refine b5 (.ret ?_);obtain rfl:=oi h;exact Done.ret Z Z
def ref8_attains_ok{states:LL}{op:Int}(h:T5 d states a c x op=some b):e9 prog 56 [.agg (tO d),.c (row 1 d7 states),(cR a),(cR c),(cI x),(cI op)] ((cB b)):=by
 unfold e9;refine FnOk.enter (rs:=[.t 12]) func56 Z ntmps56 results56 Z ⟨Y,Y⟩ (by kernel_rfl) Z ?_;refine AWP.gk 2 Z (.j (bC h fun b0 Q F V h=>.drawI mixed Z (b7.D 3 Z (b7.consF Z (fun E=>S.idx Q Z Z Z Z .N) Z (b7.D 2 Z (b7.consF Z (fun E=>.z Z Z Z Z (O9 V) Z .N) Z (b7.D 5 Z (b7.done ?_))))))));dsimp only[g9];refine b5 (.j (bB h fun a3 X h=>.G 3 Z (S.idx X Z Z Z Z (.G 5 Z (.nil (b5 (.gk 1 Z (.j (.gk 1 Z (.u (bB h fun f a4 h=>.forL a4 (fun r f=>⟨[(1,.c (row 1 d7 states)),(2,(cR a)),(3,(cR c)),(4,(cI x)),(6,(cP 0 0 0)),(13,.c (row 1 d7 F.1)),(14,(cR F.2)),(15,(cP 1 0 0)),(16,(cI f)),(17,(cI r))],[(oE 4 (tO d)),(oE 2 [int a3.cost,int 1])]⟩) (fun _ _ _ k=>.G 2 Z (S.len Z Z fun hl=>.gn 1 Z (k hl))) (fun _ _=>Z) ?_ ?_ ?_)))))))))));exact Sub.en Z;intro r f o a1 a2 h a8;refine AWP.j (.u (bB h fun b1 aa h=>.G 3 Z (S.idx aa Z Z Z Z (.G 3 Z (.nil (d6 (b5 (.G 1 Z (.add Z Z Z (by omega) (.E Z Z (.nil ?_)))))))))));obtain rfl:=oi h;refine b5 (Sub.en Z);intro iz;refine f9 (b5 (.j (.gk 1 Z (.u ?_))));obtain⟨⟨c9,J⟩,a5,h⟩:=bind_some h;refine AWP.forL a5 (fun H (c9,J)=>⟨[(1,.c (row 1 d7 states)),(2,(cR a)),(3,(cR c)),(4,(cI x)),(6,(cP 0 0 0)),(13,.c (row 1 d7 F.1)),(14,(cR F.2)),(15,(cP 1 0 0)),(16,(cI f)),(18,(cI H))],[(oE 4 (tO d)),(oE 2 [int c9,int J])]⟩) (fun _ _ _ k=>.G 2 Z (S.len Z Z fun hl=>.gn 1 Z (k hl))) (fun _ _=>Z) ?_ ?_ ?_;exact Sub.en Z;intro H s o ac ad h a9;obtain⟨c9,J⟩:=s;obtain⟨⟨a6,a7⟩,e,h⟩:=bind_some h;refine AWP.jQ [1,2,3,4,6,13,14,15,16,18] [] [(oE 4 (tO d)),(oE 2 [int a6,int a7])] Z ?_ ?_;refine AWP.u (.j (.j (bC e fun b4 al ca an e=>.drawI mixed Z (b7.D 3 Z (b7.consF Z (fun E=>S.idx al Z Z Z Z .N) Z (b7.D 1 Z (b7.consF Z (fun E=>.z Z Z Z Z (D9 an) Z .N) Z (b7.done ?_))))))));dsimp only[g9];refine b5 (.U Z e (fun ao e=> ?_) (fun ao e=> ?_));refine AWP.exit (i7 (f9 ?_));obtain⟨K,L⟩:=o2 e;subst K L;refine b5 (Sub.en Z);refine AWP.skip (b5 (.j (bC e fun cb av cc ay e=>.G 3 Z (S.idx av Z Z Z Z (.G 1 Z (.z Z Z Z Z (B4 ay) Z (.E Z Z (.nil (b5 (.j (bD e fun cd g ce i cf l e=>.drawEI [9,10] mixed Z Z Z (b8.D 2 Z Z (b8.consN Z Z (fun E=>S.idx g Z Z Z Z .N) Z (b8.D 3 Z Z (b8.consN Z Z (fun E=>S.idx i Z Z Z Z .N) Z (b8.D 1 Z Z (b8.consN Z Z (fun E=>.z Z Z Z Z (B3 l) Z .N) Z ?_)))))))))))))))));apply b8.consE;exact Z;exact Z;intro E;refine W.alloc Z Z Z Z .N;exact Z;exact Z;apply b8.consE (v:=.undef);exact Z;exact Z;intro E;refine W.storeAgg Z Z Z Z Z Z Z .N;exact Z;exact Z;refine b8.done Z ?_ ?_;exact d8.D 2 Z Z (d8.cons Z Z (.go Z Z (fun E=>S.idx g Z Z Z Z .N) (.go Z Z (fun E=>S.idx g Z Z Z Z .N) (.skip Z .nil))) (d8.D 3 Z Z (d8.cons Z Z (.go Z Z (fun E=>S.idx i Z Z Z Z .N) (.go Z Z (fun E=>S.idx i Z Z Z Z .N) (.skip Z .nil))) (d8.D 1 Z Z (d8.cons Z Z (.go Z Z (fun E=>.z Z Z Z Z (B3 l) Z .N) (.go Z Z (fun E=>.z Z Z Z Z (B3 l) Z .N) (.skip Z .nil))) (d8.D 2 Z Z (d8.nil)))))));dsimp only[g9];refine b5 (.j (bC e fun cg p ch q e=>.drawEI [12,13] mixed Z Z Z (b8.D 4 Z Z (b8.consN Z Z (fun E=>S.idx p Z Z Z Z .N) Z (b8.D 6 Z Z (b8.consN Z Z (fun E=>.z Z Z Z Z (B3 q) Z .N) Z ?_))))));apply b8.consE;exact Z;exact Z;intro E;refine W.alloc Z Z Z Z .N;exact Z;exact Z;apply b8.consE (v:=.undef);exact Z;exact Z;intro E;refine W.storeAgg Z Z Z Z Z Z Z .N;exact Z;exact Z;refine b8.done Z ?_ ?_;exact d8.D 4 Z Z (d8.cons Z Z (.go Z Z (fun E=>S.idx p Z Z Z Z .N) (.go Z Z (fun E=>S.idx p Z Z Z Z .N) (.skip Z .nil))) (d8.D 6 Z Z (d8.cons Z Z (.go Z Z (fun E=>.z Z Z Z Z (B3 q) Z .N) (.go Z Z (fun E=>.z Z Z Z Z (B3 q) Z .N) (.skip Z .nil))) (d8.D 2 Z Z (d8.nil)))));dsimp only[g9];refine b5 (.j (bB e fun ci a0 e=>.G 4 Z (.z Z Z Z Z (ref8_Gcd_ok a0) Z (.E Z Z (.nil (b5 ?_))))));obtain⟨be,w,bi,y,bj,A,e⟩:=b3 e;obtain⟨bk,B,e⟩:=bind_some e;refine AWP.drawEI [23] mixed Z Z Z (b8.D 5 Z Z (b8.consN Z Z (fun E=>S.quo w Z Z Z .N) Z (b8.D 6 Z Z (b8.consN Z Z (fun E=>S.quo y Z Z Z .N) Z (b8.D 5 Z Z (b8.consN Z Z (fun E=>S.quo A Z Z Z .N) Z (b8.D 3 Z Z (b8.consN Z Z (fun E=>.z Z Z Z Z (B3 B) Z .N) Z ?_))))))));apply b8.consE (v:=.undef);exact Z;exact Z;intro E;refine W.storeAgg Z Z Z Z Z Z Z .N;exact Z;exact Z;refine b8.done Z ?_ ?_;exact d8.D 5 Z Z (d8.cons Z Z (.go Z Z (fun E=>S.quo w Z Z Z .N) (.skip Z .nil)) (d8.D 6 Z Z (d8.cons Z Z (.go Z Z (fun E=>S.quo y Z Z Z .N) (.skip Z .nil)) (d8.D 5 Z Z (d8.cons Z Z (.go Z Z (fun E=>S.quo A Z Z Z .N) (.skip Z .nil)) (d8.D 3 Z Z (d8.cons Z Z (.go Z Z (fun E=>.z Z Z Z Z (B3 B) Z .N) (.skip Z .nil)) (d8.D 1 Z Z (d8.nil)))))))));dsimp only[g9];refine d6 ?_;obtain⟨K,L⟩:=o2 e;subst K L;refine b5 (Sub.ct Z Z (.o Z (.o Z .n)));try dsimp only at h
 refine AWP.G 1 Z (.add Z Z Z (by omega) (.E Z Z (.nil ?_)));obtain rfl:=oi h;refine b5 (Sub.en Z);intro iz;refine f9 (b5 (.j (bD h fun bs M bv O bx P h=>.drawI mixed Z (b7.D 3 Z (b7.consF Z (fun E=>S.idx M Z Z Z Z .N) Z (b7.D 3 Z (b7.consF Z (fun E=>S.idx O Z Z Z Z .N) Z (b7.D 1 Z (b7.consF Z (fun E=>.z Z Z Z Z (B3 P) Z .N) Z (.consF Z (fun E=>.eqlP Z Z Z Z Z Z Z .N) Z (b7.D 1 Z (b7.done ?_))))))))))));dsimp only[g9];refine b5 (.ret ?_);obtain rfl:=oi h;exact Done.ret Z Z
def aH3{r:Li×Li×Li}(h:ac3 d f=some r):e9 prog 14 [.agg (tO d),.c (row 1 d7 f)] (.tup [(cR r.1),(cR r.2.1),(cR r.2.2)]):=by
 unfold e9;refine FnOk.enter (rs:=[.t 4,.t 5,.t 6]) func14 Z ntmps14 results14 Z ⟨Y,Y,Y,Y⟩ (by kernel_rfl) Z ?_;refine AWP.gk 4 Z (.j (bC h fun ih ec B ed h=>.G 2 Z (S.fresh Z Z Z Z (ap6 ec) Z Z (S.freshL (fun _=>Z) Z Z (.cons (.c (.own Z Z)) .nil) Z (ak2 ed) Z Z (AOps.E Z Z (.nil (b5 (.gk 1 Z (.j (.gk 1 Z (.u (.virtV 1 d7 8 Z Z Z (bB h fun c3 gy h=>.forL gy (fun ef c3=>⟨[(1,.c (row 1 d7 f)),(2,(cP 0 0 0)),(7,.c (.own 2 0 (jn B))),(8,.c (.own 3 0 (jn c3))),(9,(cI ef))],[(oE 4 (tO d)),.dead,(oV 1 z6 B),(oV 1 d7 c3)]⟩) (fun _ _ _ k=>.G 2 Z (S.len Z Z fun hl=>.gn 1 Z (k hl))) (fun _ _=>Z) ?_ ?_ ?_)))))))))))));exact Sub.ctE ⟨Z,Z,Z,(n8 (by first|rfl|simp only[lS])),Z,Y⟩ Z (.o Z (.d (.v (.v .n))))
 intro ef c3 o gv gx h hi;obtain⟨c5,al,h⟩:=bind_some h;refine AWP.jQ [1,2,7,9] [(8,.c (.own 5 0 (jn c5)))] [(oE 4 (tO d)),.dead,(oV 1 z6 B),.dead,.dead,(oV 1 d7 c5)] Z ?_ ?_;refine AWP.u (bB al fun t7 aa al=>.jP [1,2,7,8,9] [(53,(cB t7))] Z ?_ ?_);obtain⟨gz,a3,aa⟩:=bind_some aa;rcases bft (gz) with a7|a7;replace aa:=y5 a7 aa;obtain⟨im,eg,ir,eh,aa⟩:=b2 aa;refine AWP.drawI mixed Z (b7.D 2 Z (b7.consF Z (fun E=>S.idxO a3 Z Z Z Z Z .N) Z (.consF Z (fun E=>S.loadO a3 Z Z Z Z Z .N) Z (b7.D 1 Z (b7.K Z a7 Z (b7.D 3 Z (b7.consF Z (fun E=>.J Z Z Z Z (S.idx eg Z Z Z Z .N)) Z (b7.D 1 Z (b7.consF Z (fun E=>.J Z Z Z Z (.z Z Z Z Z (D9 eh) Z .N)) Z (b7.D 2 Z (b7.done ?_)))))))))));dsimp only[g9];obtain rfl:=oi aa;refine b5 (Sub.en Z);replace aa:=y6 a7 aa;refine AWP.drawI mixed Z (b7.D 2 Z (b7.consF Z (fun E=>S.idxO a3 Z Z Z Z Z .N) Z (.consF Z (fun E=>S.loadO a3 Z Z Z Z Z .N) Z (b7.D 1 Z (b7.K Z a7 Z (b7.D 8 Z (b7.done ?_)))))));dsimp only[g9];obtain rfl:=oi aa;refine b5 (Sub.en Z);refine AWP.U Z al (fun ei al=> ?_) (fun ei al=> ?_);obtain⟨ej,ek,is,el,al⟩:=b2 al;refine AWP.G 3 Z (S.idx ek Z Z Z Z (.G 1 Z (S.lit (f:=d7) (l:=[ej]) (ess:=[[row 1 intI ej]]) Z Z Z Z Z Z Z ⟨⟨.inl Z,Y⟩,Y⟩ Z Z Z (S.append (f:=d7) el Z Z Z Z Z Z (.own Z Z) Z Z Z Z (.E Z Z (.nil (d6 ?_)))))));obtain rfl:=oi al;refine b5 (Sub.ct Z Z (.o Z (.d (.v (.d (.d (.v .n)))))));refine AWP.skip (d6 ?_);obtain rfl:=oi al;refine b5 (Sub.mv 5 3 Z Z (.o Z Z (.d (.v Z (.d (.d (.v Z .n)))))));refine AWP.G 1 Z (.add Z Z Z (by omega) (.E Z Z (.nil ?_)));obtain rfl:=oi h;refine b5 (Sub.mv 3 5 Z Z (.o Z Z (.d (.v Z (.v Z .n)))));intro iz;refine f9 (b5 (.j (bB h fun it eo h=>.G 1 Z (S.lenO Z Z Z (fun hj=>S.make (f:=intI) eo (.val .nil) Z Z Z Z Z Z (.E Z Z (.nil (b5 (.j (bB h fun iv ep h=>.G 1 Z (S.lenO Z Z Z (fun hk=>S.make (f:=intI) ep (.val .nil) Z Z Z Z Z Z (.E Z Z (.nil (b5 (.j (.gk 1 Z (.u (.fz 2 [1,2,7,8,10,11,12] Z Z Z Z ⟨Z,Y⟩ (.o Z Y (.d (.d (.v (.v (.v .n)))))) (AWP.fz 3 [1,2,7,8,10,11,12] Z Z Z Z ⟨Z,Y⟩ (.o Z Y (.d (.d (.d (.v (.v .n)))))) ?_))))))))))))))))))));obtain⟨⟨H,L⟩,g0,h⟩:=bind_some h;refine AWP.loopS g0 (fun(M,P,Q)=>⟨[(1,.c (row 1 d7 f)),(2,(cP 0 0 0)),(7,.c (row 1 z6 B)),(8,.c (row 1 d7 c3)),(10,.c (.own 4 0 (jn M))),(11,.c (.own 5 0 (jn P))),(12,(cI Q))],[(oE 4 (tO d)),.dead,.dead,.dead,(oV 1 intI M),(oV 1 intI P)]⟩) (fun(H,L) e st=>e=.exit 2/\Sub [] st ⟨[(1,.c (row 1 d7 f)),(2,(cP 0 0 0)),(7,.c (row 1 z6 B)),(8,.c (row 1 d7 c3)),(10,.c (.own 4 0 (jn H))),(11,.c (.own 5 0 (jn L)))],[(oE 4 (tO d)),.dead,.dead,.dead,(oV 1 intI H),(oV 1 intI L)]⟩) ?_ ?_ ?_;exact Sub.en Z;intro s o h;obtain⟨M,P,Q⟩:=s;refine AWP.j (.j (bB h fun i0 eq h=>.G 3 Z (.z Z Z Z Z (ao7 eq) Z (.lss Z Z Z (.nil (b5 (.O Z h (fun es h=> ?_) (fun es h=> ?_))))))));refine AWP.skip (b5 ?_);obtain⟨⟨ex,ey⟩,i,h⟩:=bind_some h;refine AWP.jQ [1,2,7,8,12] [(10,.c (.own 4 0 (jn ex))),(11,.c (.own 5 0 (jn ey)))] [(oE 4 (tO d)),.dead,.dead,.dead,(oV 1 intI ex),(oV 1 intI ey)] Z ?_ ?_;refine AWP.u (.gk 1 Z (.gk 1 Z (.gk 2 Z (.j (.gk 1 Z (.u (.virtV 1 intI 13 Z Z Z (.virtV 2 j3 14 Z Z Z ?_))))))));obtain⟨⟨a5,a0,y⟩,g1,i⟩:=bind_some i;refine AWP.forL g1 (fun a4 (a5,a0,y)=>⟨[(1,.c (row 1 d7 f)),(2,(cP 0 0 0)),(7,.c (row 1 z6 B)),(8,.c (row 1 d7 c3)),(10,.c (.own 4 0 (jn M))),(11,.c (.own 5 0 (jn P))),(12,(cI Q)),(13,.c (.own 6 0 (jn a5))),(14,.c (.own 7 0 (jn a0))),(15,(cI y)),(16,(cI a4))],[(oE 4 (tO d)),.dead,.dead,.dead,(oV 1 intI M),(oV 1 intI P),(oV 1 intI a5),(oV 2 j3 a0)]⟩) (fun _ _ _ k=>.G 2 Z (S.len Z Z fun hl=>.gn 1 Z (k hl))) (fun _ _=>Z) ?_ ?_ ?_;exact Sub.env ⟨Z,Z,Z,Z,Z,Z,Z,(n8 (by first|rfl|simp only[lS])),(n8 (by first|rfl|simp only[lS])),Z,Z,Y⟩
 intro a4 s o e0 e1 h hm;obtain⟨a5,a0,y⟩:=s;refine AWP.j (.u (.j (bC h fun i1 cn ch e2 h=>.drawEI [7] mixed Z Z Z (b8.D 5 Z Z (b8.consN Z Z (fun E=>S.idx cn Z Z Z Z .N) Z (b8.D 1 Z Z ?_))))));apply b8.consE;exact Z;exact Z;intro E;refine S.fresh Z Z Z Z (ap5 e2) Z Z .N;exact Z;exact Z;refine b8.D 1 Z Z (b8.done Z ?_ ?_);exact d8.D 5 Z Z (d8.cons Z Z (.go Z Z (fun E=>S.idx cn Z Z Z Z .N) (.skip Z .nil)) (d8.D 3 Z Z (d8.nil)));dsimp only[g9];refine b5 (.j (bD h fun i2 e3 ci cv cj e4 h=>.G 4 Z (S.lenO Z Z Z (fun hn=>S.rem e3 Z Z Z (S.idxO cv Z Z Z Z Z (S.loadO cv Z Z Z Z Z (S.lit (f:=intI) (l:=[ci]) (ess:=[[int ci]]) Z Z Z Z Z Z Z ⟨⟨.inl Z,Y⟩,Y⟩ Z Z Z (S.append (f:=intI) e4 Z Z Z Z Z Z (.own Z Z) Z Z Z Z (.E Z Z (.nil (b5 (.j (.F (env':=[(1,.c (row 1 d7 f)),(2,(cP 0 0 0)),(7,.c (row 1 z6 B)),(8,.c (row 1 d7 c3)),(10,.c (.own 4 0 (jn M))),(11,.c (.own 5 0 (jn P))),(12,(cI Q)),(13,.c (.own 6 0 (jn cj))),(14,.c (.own 7 0 (jn a0))),(15,(cI y)),(16,(cI a4)),(17,.c (.own 8 0 (jn ch)))]) (σ':=[(oE 4 (tO d)),.dead,.dead,.dead,(oV 1 intI M),(oV 1 intI P),(oV 1 intI cj),(oV 2 j3 a0),(oV 1 intI ch),(oV 1 intI [ci])]) 6 10 Z Z Z ⟨Z,Z,Z,Z,Z,Z,Z,Z,Z,Z,Z,Z,Y⟩ Z ⟨⟨Z,Z⟩,Y,Y,Y,⟨Blk.im_ok _ _ _,k8 Z⟩,⟨Blk.im_ok _ _ _,k8 Z⟩,⟨Blk.im_ok _ _ _,k8 Z⟩,⟨Blk.im_ok _ _ _,k8 Z⟩,⟨Blk.im_ok _ _ _,k8 Z⟩,⟨Blk.im_ok _ _ _,k8 Z⟩,Y⟩ ?_)))))))))))));obtain⟨a8,a9,ho,be,bi,an,h⟩:=b3 h;obtain⟨cx,c2,h⟩:=bind_some h;refine AWP.drawEI [13,14] mixed Z Z Z (b8.D 3 Z Z (b8.consN Z Z (fun E=>S.idx a9 Z Z Z Z .N) Z (b8.D 4 Z Z (b8.consN Z Z (fun E=>S.lenO Z Z Z (fun c4=>.nil ⟨Z,Z⟩)) Z (.consN Z Z (fun E=>S.rem be Z Z Z .N) Z (.consN Z Z (fun E=>S.idxO an Z Z Z Z Z .N) Z (.consN Z Z (fun E=>S.loadO an Z Z Z Z Z .N) Z (b8.D 1 Z Z ?_))))))));apply b8.consE;exact Z;exact Z;intro E;refine S.lit (f:=j3) (l:=[(⟨a8,bi⟩:f8)]) (ess:=[[row 1 intI a8,int bi]]) Z Z Z Z Z Z Z ⟨⟨.inl Z,.inl Z,Y⟩,Y⟩ Z Z Z .N;exact Z;exact Z;apply b8.consE;exact Z;exact Z;intro E;refine S.append (f:=j3) c2 Z Z Z Z Z Z (.own Z Z) Z Z Z Z .N;exact Z;exact Z;refine b8.D 1 Z Z (b8.done Z ?_ ?_);refine d8.D 3 Z Z (d8.cons Z Z (.go Z Z (fun E=>S.idx a9 Z Z Z Z .N) (.skip Z (.skip Z .nil))) (d8.D 4 Z Z (d8.cons Z Z ?_ ?_)));apply d9.go;exact Z;exact Z;intro E;refine S.lenO Z Z Z (fun c4=> ?_);exact AOps.nil ⟨Z,Z⟩;refine d9.skip Z (d9.skip Z (d9.nil));exact d8.cons Z Z (.go Z Z (fun E=>S.rem be Z Z Z .N) (.skip Z (.skip Z .nil))) (.cons Z Z (.go Z Z (fun E=>S.idxO an Z Z Z Z Z .N) (.skip Z (.skip Z .nil))) (.cons Z Z (.go Z Z (fun E=>S.loadO an Z Z Z Z Z .N) (.skip Z (.skip Z .nil))) (d8.D 4 Z Z (d8.nil))));dsimp only[g9];refine b5 (.F (env':=[(1,.c (row 1 d7 f)),(2,(cP 0 0 0)),(7,.c (row 1 z6 B)),(8,.c (row 1 d7 c3)),(10,.c (.own 4 0 (jn M))),(11,.c (.own 5 0 (jn P))),(12,(cI Q)),(13,.c (.own 6 0 (jn cj))),(14,.c (.own 7 0 (jn cx))),(15,(cI y)),(16,(cI a4)),(17,.c (.own 8 0 (jn ch)))]) (σ':=[(oE 4 (tO d)),.dead,.dead,.dead,(oV 1 intI M),(oV 1 intI P),(oV 1 intI cj),(oV 2 j3 cx),(oV 1 intI ch),(oV 1 intI [ci]),(oV 2 j3 [(⟨a8,bi⟩:f8)])]) 7 11 Z Z Z ⟨Z,Z,Z,Z,Z,Z,Z,Z,Z,Z,Z,Z,Y⟩ Z ⟨⟨Z,Z⟩,Y,Y,Y,⟨Blk.im_ok _ _ _,k8 Z⟩,⟨Blk.im_ok _ _ _,k8 Z⟩,⟨Blk.im_ok _ _ _,k8 Z⟩,⟨Blk.im_ok _ _ _,k8 Z⟩,⟨Blk.im_ok _ _ _,k8 Z⟩,⟨Blk.im_ok _ _ _,k8 Z⟩,⟨Blk.im_ok _ _ _,k8 Z⟩,Y⟩ (bB h fun hp c6 h=>.G 2 Z (S.lenO Z Z Z (fun g3=>S.quo c6 Z Z Z (.E Z Z (.nil (d6 (b5 (.G 1 Z (.add Z Z Z (by omega) (.E Z Z (.nil ?_))))))))))));obtain rfl:=oi h;refine b5 (Sub.ct Z Z (.o Z (.d (.d (.d (.v (.v (.v (.v .n)))))))));intro iz;refine f9 (b5 (.gk 1 Z (.j (.gk 1 Z (.u (bB i fun q g4 i=>.forL g4 (fun cz q=>⟨[(1,.c (row 1 d7 f)),(2,(cP 0 0 0)),(7,.c (row 1 z6 B)),(8,.c (row 1 d7 c3)),(10,.c (.own 4 0 (jn M))),(11,.c (.own 5 0 (jn P))),(12,(cI Q)),(13,.c (.own 6 0 (jn a5))),(14,.c (.own 7 0 (jn a0))),(18,(cB q)),(19,(cI cz))],[(oE 4 (tO d)),.dead,.dead,.dead,(oV 1 intI M),(oV 1 intI P),(oV 1 intI a5),(oV 2 j3 a0)]⟩) (fun _ _ _ k=>.G 2 Z (S.len Z Z fun hl=>.gn 1 Z (k hl))) (fun _ _=>Z) ?_ ?_ ?_))))));exact Sub.en Z;intro cz q o e6 e7 h g5;obtain⟨a6,w,h⟩:=bind_some h;refine AWP.jP [1,2,7,8,10,11,12,13,14,19] [(18,(cB a6))] Z ?_ ?_;refine AWP.u (.gk 3 Z (.j (bB w fun hr c7 w=>.G 2 Z (S.idx c7 Z Z Z Z (.G 3 Z (.nil (b5 ?_)))))));rcases bft (q) with a1|a1;replace w:=y5 a1 w;obtain⟨ht,c8,w⟩:=bind_some w;refine AWP.G 2 Z (.K Z Z a1 (.G 2 Z (.J Z Z Z Z (.ab Z Z (.cons (.agg (.cons .imm (.cons .imm (.cons .imm (.cons .imm .nil))))) (.cons (.c (.own Z Z)) .nil)) Z (ref8_Keeps_ok c8) Z (.G 2 Z (.nil (d6 ?_)))))));obtain rfl:=oi w;refine b5 (Sub.ct Z Z (.o Z (.d (.d (.d (.v (.v (.v (.v .n)))))))));replace w:=y6 a1 w;refine AWP.G 2 Z (.K Z Z a1 (.G 5 Z (.nil (d6 ?_))));obtain rfl:=oi w;refine b5 (Sub.ct Z Z (.o Z (.d (.d (.d (.v (.v (.v (.v .n)))))))));refine AWP.G 1 Z (.add Z Z Z (by omega) (.E Z Z (.nil ?_)));obtain rfl:=oi h;refine b5 (Sub.en Z);intro iz;refine f9 (b5 (.j (.gk 2 Z (.U Z i (fun fb i=> ?_) (fun fb i=> ?_)))));refine AWP.exit (i7 (f9 ?_));obtain⟨V,X⟩:=o2 i;subst V X;refine b5 (Sub.ct Z Z (.o Z (.d (.d (.d (.v (.v .n)))))));refine AWP.skip (b5 (.j (bB i fun bj c9 i=>.G 3 Z (.fz 6 [1,2,7,8,10,11,12,139,140,141] Z Z Z Z ⟨Z,Y⟩ (.o Z Y (.d (.d (.d (.v (.v (.d (.v .n)))))))) (AOps.z Z Z Z Z (aH2 c9) Z (.G 5 Z (.nil (b5 (.gk 1 Z (.u ?_))))))))));obtain⟨⟨ck,cl⟩,g6,i⟩:=bind_some i;refine AWP.forL g6 (fun c0 (ck,cl)=>⟨[(1,.c (row 1 d7 f)),(2,(cP 0 0 0)),(7,.c (row 1 z6 B)),(8,.c (row 1 d7 c3)),(10,.c (.own 4 0 (jn ck))),(11,.c (.own 5 0 (jn cl))),(12,(cI Q)),(21,(cR bj.1)),(22,(cI bj.2)),(23,(cI c0))],[(oE 4 (tO d)),.dead,.dead,.dead,(oV 1 intI ck),(oV 1 intI cl)]⟩) (fun _ _ _ k=>.G 2 Z (S.len Z Z fun hl=>.gn 1 Z (k hl))) (fun _ _=>Z) ?_ ?_ ?_;exact Sub.ct Z Z (.o Z (.d (.d (.d (.v (.v .n))))));intro c0 s o fd fk h ha;obtain⟨ck,cl⟩:=s;obtain⟨⟨fl,fn⟩,p,h⟩:=bind_some h;refine AWP.jQ [1,2,7,8,12,21,22,23] [(10,.c (.own 4 0 (jn fl))),(11,.c (.own 5 0 (jn fn)))] [(oE 4 (tO d)),.dead,.dead,.dead,(oV 1 intI fl),(oV 1 intI fn)] Z ?_ ?_;refine AWP.u (bB p fun t36 x p=>.jP [1,2,7,8,10,11,12,21,22,23] [(173,(cB t36))] Z ?_ ?_);obtain⟨fo,ao,x⟩:=bind_some x;rcases bft (decide (fo=0)) with a2|a2;replace x:=G5 a2 x;refine AWP.drawI mixed Z (b7.D 2 Z (b7.consF Z (fun E=>S.idxO ao Z Z Z Z Z .N) Z (.consF Z (fun E=>S.loadO ao Z Z Z Z Z .N) Z (b7.D 2 Z (b7.K Z a2 Z (b7.D 17 Z (b7.done ?_)))))));dsimp only[g9];obtain rfl:=oi x;refine b5 (Sub.en Z);replace x:=G1 a2 x;obtain⟨hu,da,hv,bk,hw,bs,x⟩:=b3 x;refine AWP.drawI mixed Z (b7.D 2 Z (b7.consF Z (fun E=>S.idxO ao Z Z Z Z Z .N) Z (.consF Z (fun E=>S.loadO ao Z Z Z Z Z .N) Z (b7.D 2 Z (b7.K Z a2 Z (b7.D 2 Z (b7.consF Z (fun E=>.J Z Z Z Z (S.idx da Z Z Z Z .N)) Z (b7.D 3 Z (b7.consF Z (fun E=>.J Z Z Z Z (S.idxO bk Z Z Z Z Z .N)) Z (.consF Z (fun E=>.J Z Z Z Z (S.loadO bk Z Z Z Z Z .N)) Z (b7.D 3 Z (b7.consF Z (fun E=>.J Z Z Z Z (S.idxO bs Z Z Z Z Z .N)) Z (.consF Z (fun E=>.J Z Z Z Z (S.loadO bs Z Z Z Z Z .N)) Z (b7.D 4 Z (b7.done ?_)))))))))))))));dsimp only[g9];obtain rfl:=oi x;refine b5 (Sub.en Z);refine AWP.U Z p (fun fr p=> ?_) (fun fr p=> ?_);refine AWP.j (bC p fun fs db hx bv p=>.G 4 Z (S.idx db Z Z Z Z (.G 1 Z (S.idxO bv Z Z Z Z Z (S.storeO1 (f:=intI) (a':=fs) (s9 bv) (fun _=>⟨_,Z⟩) Z Z Z Z Z (AOps.nil (b5 (bB p fun hy bx p=>.G 3 Z (S.idxO bx Z Z Z Z Z (S.storeO1 (f:=intI) (a':=bj.2) (s9 bx) (fun _=>⟨_,Z⟩) Z Z Z Z Z (AOps.nil (d6 ?_))))))))))));obtain⟨V,X⟩:=o2 p;subst V X;refine b5 (Sub.env ⟨Z,Z,Z,Z,Z,Z,Z,Z,(n8 (by first|rfl|simp only[lS])),(n8 (by first|rfl|simp only[lS])),Y⟩)
 refine AWP.skip (d6 ?_);obtain⟨V,X⟩:=o2 p;subst V X;refine b5 (Sub.en Z);try dsimp only at h
 refine AWP.G 1 Z (.add Z Z Z (by omega) (.E Z Z (.nil ?_)));obtain rfl:=oi h;refine b5 (Sub.en Z);intro iz;refine f9 (d6 ?_);obtain⟨V,X⟩:=o2 i;subst V X;refine b5 (Sub.en Z);try dsimp only at h
 refine AWP.G 3 Z (.nil ?_);obtain rfl:=oi h;exact b5 ⟨_,Z,(Sub.en Z)⟩;refine AWP.exit (i7 ?_);obtain rfl:=oi h;exact i7 ⟨_,Z,Z,(Sub.en Z)⟩;intro e s hq;obtain⟨rfl,hs⟩:=hq;refine ⟨_,hs,(f9 (b5 (.j (bB h fun hz dc h=>.G 1 Z (S.len Z Z (fun hb=>S.make (f:=intI) dc (.val .nil) Z Z Z Z Z Z (.E Z Z (.nil (b5 (.j (bB h fun h0 dd h=>.G 1 Z (S.len Z Z (fun hc=>S.make (f:=intI) dd (.val .nil) Z Z Z Z Z Z (.E Z Z (.nil (b5 (.j (bB h fun h1 dk h=>.G 1 Z (S.len Z Z (fun hd=>S.make (f:=intI) dk (.val .nil) Z Z Z Z Z Z (.E Z Z (.nil (b5 (.j (.gk 1 Z (.u ?_))))))))))))))))))))))))))⟩;obtain⟨⟨cm,av,ay⟩,he,h⟩:=bind_some h;refine AWP.forL he (fun b (cm,av,ay)=>⟨[(1,.c (row 1 d7 f)),(2,(cP 0 0 0)),(7,.c (row 1 z6 B)),(8,.c (row 1 d7 c3)),(10,.c (.own 4 0 (jn H))),(11,.c (.own 5 0 (jn L))),(24,.c (.own 6 0 (jn cm))),(25,.c (.own 7 0 (jn av))),(26,.c (.own 8 0 (jn ay))),(27,(cI b))],[(oE 4 (tO d)),.dead,.dead,.dead,(oV 1 intI H),(oV 1 intI L),(oV 1 intI cm),(oV 1 intI av),(oV 1 intI ay)]⟩) (fun _ _ _ k=>.G 2 Z (S.len Z Z fun hl=>.gn 1 Z (k hl))) (fun _ _=>Z) ?_ ?_ ?_;exact Sub.en Z;intro b s o ft fv h hf;obtain⟨cm,av,ay⟩:=s;obtain⟨⟨fx,fy,ga⟩,g,h⟩:=bind_some h;refine AWP.jQ [1,2,7,8,10,11,27] [(24,.c (.own 6 0 (jn fx))),(25,.c (.own 7 0 (jn fy))),(26,.c (.own 8 0 (jn ga)))] [(oE 4 (tO d)),.dead,.dead,.dead,(oV 1 intI H),(oV 1 intI L),(oV 1 intI fx),(oV 1 intI fy),(oV 1 intI ga)] Z ?_ ?_;refine AWP.u (.j (bB g fun h2 b0 g=>.G 2 Z (S.idxO b0 Z Z Z Z Z (S.storeO1 (f:=intI) (a':=1) (s9 b0) (fun _=>⟨_,Z⟩) Z Z Z Z Z (AOps.nil (b5 (.j (bC g fun h3 dl gb dn g=>.G 3 Z (S.idx dl Z Z Z Z (.G 1 Z (.z Z Z Z Z (B4 dn) Z (.E Z Z (.nil (b5 (.j (.gk 2 Z (.O Z g (fun gd g=> ?_) (fun gd g=> ?_))))))))))))))))));refine AWP.exit (i7 (f9 ?_));obtain⟨V,X,ds⟩:=o3 g;subst V X ds;refine b5 (Sub.env ⟨Z,Z,Z,Z,Z,Z,Z,Z,Z,(n8 (by first|rfl|simp only[lS])),Y⟩)
 refine AWP.skip (b5 (.j (bC g fun ac b1 h4 b4 g=>.G 4 Z (S.idxO b1 Z Z Z Z Z (S.loadO b1 Z Z Z Z Z (S.idxO b4 Z Z Z Z Z (S.storeO1 (f:=intI) (a':=ac) (s9 b4) (fun _=>⟨_,Z⟩) Z Z Z Z Z (AOps.nil (b5 (.j (bC g fun ad ca h5 cb g=>.G 4 Z (S.idxO ca Z Z Z Z Z (S.loadO ca Z Z Z Z Z (S.idxO cb Z (by simp only[lS]) Z Z Z (S.storeO1 (f:=intI) (a':=ad) (s9 cb) (fun _=>⟨_,Z⟩) Z Z Z Z Z (AOps.nil (b5 (.j (bC g fun h6 cc cd dx g=>.drawEI [7] mixed Z Z Z (b8.D 5 Z Z (b8.consN Z Z (fun E=>S.idx cc Z Z Z Z .N) Z (b8.D 1 Z Z ?_))))))))))))))))))))));apply b8.consE;exact Z;exact Z;intro E;refine S.fresh Z Z Z Z (ap5 dx) Z Z .N;exact Z;exact Z;refine b8.D 1 Z Z (b8.done Z ?_ ?_);exact d8.D 5 Z Z (d8.cons Z Z (.go Z Z (fun E=>S.idx cc Z Z Z Z .N) (.skip Z .nil)) (d8.D 3 Z Z (d8.nil)));dsimp only[g9];refine b5 (.gs 1 Z (S.lenO Z Z Z (fun hg=>.sub' Z Z Z (by omega) (.ge 1 Z (.u (bB g fun dy hh g=>.loopS hh (fun(ea,c1)=>⟨[(1,.c (row 1 d7 f)),(2,(cP 0 0 0)),(7,.c (row 1 z6 B)),(8,.c (row 1 d7 c3)),(10,.c (.own 4 0 (jn H))),(11,.c (.own 5 0 (jn L))),(24,.c (.own 6 0 (jn ea))),(25,.c (.own 7 0 ((av.set b.toNat ac).length))),(26,.c (.own 8 0 (((ay.set b.toNat 1).set b.toNat ad).length))),(27,(cI b)),(28,(cI gb)),(29,.c (.own 9 0 (jn cd))),(30,(cI c1))],[(oE 4 (tO d)),.dead,.dead,.dead,(oV 1 intI H),(oV 1 intI L),(oV 1 intI ea),(oV 1 intI (av.set b.toNat ac)),(oV 1 intI ((ay.set b.toNat 1).set b.toNat ad)),(oV 1 intI cd)]⟩) (fun dy e st=>e=.exit 12/\Sub [] st ⟨[(1,.c (row 1 d7 f)),(2,(cP 0 0 0)),(7,.c (row 1 z6 B)),(8,.c (row 1 d7 c3)),(10,.c (.own 4 0 (jn H))),(11,.c (.own 5 0 (jn L))),(24,.c (.own 6 0 (jn dy))),(25,.c (.own 7 0 ((av.set b.toNat ac).length))),(26,.c (.own 8 0 (((ay.set b.toNat 1).set b.toNat ad).length))),(27,(cI b))],[(oE 4 (tO d)),.dead,.dead,.dead,(oV 1 intI H),(oV 1 intI L),(oV 1 intI dy),(oV 1 intI (av.set b.toNat ac)),(oV 1 intI ((ay.set b.toNat 1).set b.toNat ad))]⟩) ?_ ?_ ?_))))));exact Sub.env ⟨Z,Z,Z,Z,Z,Z,Z,(n8 (by first|rfl|simp only[lS])),(n8 (by first|rfl|simp only[lS])),Z,Z,Z,Z,Y⟩
 intro s o h;obtain⟨ea,c1⟩:=s;refine AWP.j (.gk 2 Z (.O Z h (fun gf h=> ?_) (fun gf h=> ?_)));refine AWP.skip (b5 (bB h fun gg A h=>.jQ [1,2,7,8,10,11,25,26,27,28,29,30] [(24,.c (.own 6 0 (jn gg)))] [(oE 4 (tO d)),.dead,.dead,.dead,(oV 1 intI H),(oV 1 intI L),(oV 1 intI gg),(oV 1 intI (av.set b.toNat ac)),(oV 1 intI ((ay.set b.toNat 1).set b.toNat ad)),(oV 1 intI cd)] Z ?_ ?_));refine AWP.u (.j (bC A fun h7 ce h8 eb A=>.drawI mixed Z (b7.D 7 Z (b7.consF Z (fun E=>S.idxO ce Z Z Z Z Z .N) Z (.consF Z (fun E=>S.loadO ce Z Z Z Z Z .N) Z (.consF Z (fun E=>.ab Z Z (.cons (.agg (.cons .imm (.cons .imm (.cons .imm (.cons .imm .nil))))) (.cons (.c .imm) (.cons (.c (.own Z Z)) (.cons (.c (.own Z Z)) (.cons (.c .imm) (.cons (.c .imm) .nil)))))) Z (ref8_attains_ok eb) Z .N) Z (b7.done ?_)))))));dsimp only[g9];refine b5 (.U Z A (fun gq A=> ?_) (fun gq A=> ?_));obtain⟨gr,cf,ic,cg,A⟩:=b2 A;refine AWP.G 4 Z (S.idxO cf Z Z Z Z Z (S.loadO cf Z Z Z Z Z (S.idxO cg Z Z Z Z Z (S.storeO1 (f:=intI) (a':=gr) (s9 cg) (fun _=>⟨_,Z⟩) Z Z Z Z Z (AOps.nil (d6 ?_))))));obtain rfl:=oi A;refine b5 (Sub.env ⟨Z,Z,Z,Z,Z,Z,Z,Z,Z,Z,Z,Z,(n8 (by first|rfl|simp only[lS])),Y⟩)
 refine AWP.skip (d6 ?_);obtain rfl:=oi A;refine b5 (Sub.en Z);refine AWP.G 3 Z (.nil ?_);obtain rfl:=oi h;exact b5 ⟨_,Z,(Sub.en Z)⟩;refine AWP.exit (i7 ?_);obtain rfl:=oi h;exact i7 ⟨_,Z,Z,(Sub.ct Z Z (.o Z (.d (.d (.d (.v (.v (.v (.v (.v .n))))))))))⟩;intro e s hq;obtain⟨rfl,hs⟩:=hq;refine ⟨_,hs,(f9 (d6 ?_))⟩;obtain⟨V,X,ds⟩:=o3 g;subst V X ds;refine b5 (Sub.en Z);try dsimp only at h
 refine AWP.G 1 Z (.add Z Z Z (by omega) (.E Z Z (.nil ?_)));obtain rfl:=oi h;refine b5 (Sub.en Z);intro iz;refine f9 (b5 (.gk 6 Z (.fz 6 [4,5,6] Z Z Z Z ⟨Z,Y⟩ (.o Z Y (.d (.d (.d (.v (.v (.d (.v (.v .n))))))))) (AWP.fz 7 [4,5,6] Z Z Z Z ⟨Z,Y⟩ (.o Z Y (.d (.d (.d (.v (.v (.d (.d (.v .n))))))))) (AWP.fz 8 [4,5,6] Z Z Z Z ⟨Z,Y⟩ (.o Z Y (.d (.d (.d (.v (.v (.d (.d (.d .n))))))))) (AWP.ret ?_))))));obtain rfl:=oi h;exact Done.ret Z Z
def ref8_Large_ok{c:s8}(h:aa6 c=some b):e9 prog 16 [.agg [int c.num,int c.den]] ((cB b)):=by unfold e9;refine FnOk.enter (rs:=[.t 2]) func16 Z ntmps16 results16 Z ⟨Y,Y⟩ (by kernel_rfl) Z ?_;refine AWP.gk 2 Z (.seqJ (⟨[(2,(cB ((decide (1000000000<c.num))||(decide (1000000000<c.den)))))],[(oE 2 [int c.num,int c.den])]⟩) ?_ ?_);rcases bft (decide (1000000000<c.num)) with a|a;refine AWP.G 4 Z (.K Z Z a (.G 5 Z (.nil (b5 ?_))));simp only[ab4 a,or_t a,io,iw,il,ip];exact Sub.en Z;refine AWP.G 4 Z (.K Z Z a (.G 5 Z (.nil (b5 ?_))));simp only[ae1 a,or_f a,io,iw,il,ip];exact Sub.en Z;refine AWP.ret ?_;obtain rfl:=oi h;exact Done.ret Z Z
def ref8_Most_ok{op:Int}(h:ref8_Most d f a c op=some x):e9 prog 89 [.agg (tO d),.c (row 1 d7 f),(cR a),(cR c),(cI op)] ((cI x)):=by unfold e9;refine FnOk.enter (rs:=[.t 10]) func89 Z ntmps89 results89 Z ⟨Y,Y⟩ (by kernel_rfl) Z ?_;refine AWP.gk 2 Z (.gk 1 Z (.j (bB h fun y g h=>.G 3 Z (.z Z Z Z Z (O9 g) Z (.G 5 Z (.nil (b5 (.j (.gk 1 Z (.u (bB h fun e A h=>.forL A (fun i e=>⟨[(1,.c (row 1 d7 f)),(2,(cR a)),(11,(cI e)),(12,.c (row 1 d7 y.1)),(14,(cI i))],[]⟩) (fun _ _ _ k=>.G 2 Z (S.len Z Z fun F=>.gn 1 Z (k F))) (fun _ _=>Z) ?_ ?_ ?_)))))))))));exact Sub.ct Z Z .n;intro i e o v w h D;obtain⟨B,b,h⟩:=bind_some h;refine AWP.jP [1,2,12,14] [(11,(cI B))] Z ?_ ?_;refine AWP.u (.j (bD b fun H l J p K q b=>.G 4 Z (S.idx l Z Z Z Z (.G 1 Z (.z Z Z Z Z (B4 p) Z (S.idx q Z Z Z Z (.G 2 Z (.nil (b5 (.gk 3 Z (.O Z b (fun s b=> ?_) (fun s b=> ?_))))))))))));refine AWP.G 2 Z (.nil (d6 ?_));obtain rfl:=oi b;refine b5 (Sub.en Z);refine AWP.skip (d6 ?_);obtain rfl:=oi b;refine b5 (Sub.en Z);refine AWP.G 1 Z (.add Z Z Z (by omega) (.E Z Z (.nil ?_)));obtain rfl:=oi h;refine b5 (Sub.en Z);intro M;refine f9 (b5 (.gk 2 Z (.ret ?_)));obtain rfl:=oi h;exact Done.ret Z Z
def aB4{rank:Li}(h:X3 d f rank a=some y):e9 prog 60 [.agg (tO d),.c (row 1 d7 f),(cR rank),(cR a)] ((cI y)):=by unfold e9;refine FnOk.enter (rs:=[.t 8]) func60 Z ntmps60 results60 Z ⟨Y,Y⟩ (by kernel_rfl) Z ?_;refine AWP.gk 2 Z (.j (.gk 1 Z (.u (bB h fun Q H h=>.rngL H (fun l _=>⟨[(1,.c (row 1 d7 f)),(2,(cR rank)),(3,(cR a)),(4,(cP 0 0 0)),(9,(cI l))],[(oE 4 (tO d))]⟩) (fun x e st=>e=.ret/\Done [.t 8] (fun t _=>t=(cI x)) .ret st) (fun _ _ _ k=>.gn 2 Z (k Y)) (fun _ _=>Z) ?_ ?_ ?_ ?_))));exact Sub.en Z;intro l s o w A h _;refine AWP.j (.u (.gk 1 Z (.u (bB h fun Q L h=>.rngL L (fun p _=>⟨[(1,.c (row 1 d7 f)),(2,(cR rank)),(3,(cR a)),(4,(cP 0 0 0)),(9,(cI l)),(10,(cI p))],[(oE 4 (tO d))]⟩) (fun x e st=>e=.ret/\Done [.t 8] (fun t _=>t=(cI x)) .ret st) (fun _ _ _ k=>.G 3 Z (S.len Z Z fun V=>.gn 1 Z (k V))) (fun _ _=>Z) ?_ ?_ ?_ ?_))));exact Sub.en Z;intro p s o B D h P;refine AWP.j (.u (bB h fun t7 b h=>.jP [1,2,3,4,9,10] [(35,(cB t7))] Z ?_ ?_));obtain⟨M,i,b⟩:=bind_some b;rcases bft (M) with g|g;replace b:=y5 g b;obtain⟨X,q,b⟩:=bind_some b;refine AWP.G 3 Z (.z Z Z Z Z (y7 i) Z (.F Z Z (.K Z Z g (.G 5 Z (.J Z Z Z Z (.z Z Z Z Z (ref8_Most_ok q) Z (.G 3 Z (.nil ?_))))))));obtain rfl:=oi b;refine b5 (Sub.en Z);replace b:=y6 g b;refine AWP.G 3 Z (.z Z Z Z Z (y7 i) Z (.F Z Z (.K Z Z g (.G 9 Z (.nil ?_)))));obtain rfl:=oi b;refine b5 (Sub.en Z);refine AWP.U Z h (fun v h=> ?_) (fun v h=> ?_);refine AWP.gk 2 Z (.ret (i5 (e8 ?_)));obtain rfl:=oi h;exact e8 ⟨_,Z,Z,(Done.ret Z Z)⟩;refine AWP.skip (d6 (b5 (.G 1 Z (.add Z Z Z (by omega) (.E Z Z (.nil ?_))))));obtain rfl:=oi h;exact b5 ⟨_,Z,(Sub.en Z)⟩;intro r _ n;subst n;refine f9 (d6 (b5 (.G 1 Z (.add Z Z Z (by omega) (.E Z Z (.nil ?_))))));obtain rfl:=oi h;exact b5 ⟨_,Z,(Sub.en Z)⟩;intro x e st n N;subst n;obtain⟨rfl,O⟩:=N;refine ⟨_,Sub.refl _ _,(i5 (i5 (e8 ?_)))⟩;obtain rfl:=oi h;exact e8 ⟨_,Z,Z,O⟩;intro r _ n;subst n;refine f9 (b5 (.gk 1 Z (.ret ?_)));obtain rfl:=oi h;exact Done.ret Z Z;intro x e st n N;subst n;obtain⟨rfl,O⟩:=N;refine ⟨_,Sub.refl _ _,(i5 (e8 ?_))⟩;obtain rfl:=oi h;exact O
def aC2(h:X4 d f a c=some y):e9 prog 61 [.agg (tO d),.c (row 1 d7 f),(cR a),(cR c)] ((cI y)):=by unfold e9;refine FnOk.enter (rs:=[.t 8]) func61 Z ntmps61 results61 Z ⟨Y,Y⟩ (by kernel_rfl) Z ?_;refine AWP.gk 2 Z (.j (.gk 1 Z (.u (bB h fun oo M h=>.rngL M (fun B _=>⟨[(1,.c (row 1 d7 f)),(2,(cR a)),(3,(cR c)),(4,(cP 0 0 0)),(9,(cI B))],[(oE 4 (tO d))]⟩) (fun x e st=>e=.ret/\Done [.t 8] (fun t _=>t=(cI x)) .ret st) (fun _ _ _ k=>.G 3 Z (S.len Z Z fun X=>.gn 1 Z (k X))) (fun _ _=>Z) ?_ ?_ ?_ ?_))));exact Sub.en Z;intro B s o K L h V;refine AWP.j (.u (bB h fun t6 i h=>.jP [1,2,3,4,9] [(44,(cB t6))] Z ?_ ?_));obtain⟨O,l,i⟩:=bind_some i;rcases bft (O) with b|b;replace i:=y5 b i;obtain⟨r,q,P,p,i⟩:=b2 i;rcases bft (P) with g|g;replace i:=y5 g i;obtain⟨aa,v,ac,w,ad,A,i⟩:=b3 i;refine AWP.drawEI [8] mixed Z Z Z (b8.D 3 Z Z (b8.consN Z Z (fun E=>.z Z Z Z Z (y7 l) Z .N) Z (b8.D 1 Z Z (b8.consN Z Z (fun E=>.J Z Z Z b (W.loadAgg Z Z Z Z Z Z Z .N)) Z (.consN Z Z (fun E=>.J Z Z Z b (.F Z Z .N)) Z (.consN Z Z (fun E=>.J Z Z Z b (.F Z Z .N)) Z ?_))))));apply b8.consE;exact Z;exact Z;intro E;refine AOps.J Z Z Z b (S.fresh Z Z Z Z (ak2 q) Z Z .N);exact Z;exact Z;refine b8.consN Z Z (fun E=>.J Z Z Z b (.F Z Z .N)) Z (.consN Z Z (fun E=>.J Z Z Z b (.F Z Z .N)) Z (.consN Z Z (fun E=>.J Z Z Z b (.ab Z Z (.cons (.agg (.cons .imm (.cons .imm (.cons .imm (.cons .imm .nil))))) (.cons (.c .imm) (.cons (.c (.own Z Z)) (.cons (.c .imm) (.cons (.c .imm) .nil))))) Z (Q9 p) Z .N)) Z (.consN Z Z (fun E=>.pickT Z b Z Z .N) Z (b8.D 1 Z Z (b8.consN Z Z (fun E=>.J Z Z Z g (W.loadAgg Z Z Z Z Z Z Z .N)) Z (.consN Z Z (fun E=>.J Z Z Z g (.F Z Z .N)) Z (.consN Z Z (fun E=>.J Z Z Z g (.F Z Z .N)) Z (.consN Z Z (fun E=>.J Z Z Z g (.F Z Z .N)) Z (.consN Z Z (fun E=>.J Z Z Z g (.F Z Z .N)) Z (.consN Z Z (fun E=>.J Z Z Z g (.z Z Z Z Z (ak0 v) Z .N)) Z (.consN Z Z (fun E=>.J Z Z Z g (.F Z Z .N)) Z (.consN Z Z (fun E=>.J Z Z Z g (.F Z Z .N)) Z (.consN Z Z (fun E=>.J Z Z Z g (.F Z Z .N)) Z (.consN Z Z (fun E=>.J Z Z Z g (.z Z Z Z Z (B4 w) Z .N)) Z (.consN Z Z (fun E=>.J Z Z Z g (S.idx A Z Z Z Z .N)) Z (.consN Z Z (fun E=>.J Z Z Z g (.loadI Z Z Z Z .N)) Z (.consN Z Z (fun E=>.J Z Z Z g (.lss Z Z Z .N)) Z (.consN Z Z (fun E=>.pickT Z g Z Z .N) Z (b8.done Z ?_ ?_)))))))))))))))))));refine d8.D 3 Z Z (d8.cons Z Z (.go Z Z (fun E=>.z Z Z Z Z (y7 l) Z .N) (.skip Z .nil)) (d8.D 1 Z Z (d8.cons Z Z ?_ ?_)));exact d9.go Z Z (fun E=>.J Z Z Z b (W.loadAgg Z Z Z Z Z Z Z .N)) (d9.go Z Z (fun E=>.J Z Z Z b (W.loadAgg Z Z Z Z Z Z Z .N)) d9.nil);refine d8.cons Z Z ?_ ?_;exact d9.go Z Z (fun E=>.J Z Z Z b (AOps.F Z Z .N)) (d9.go Z Z (fun E=>.J Z Z Z b (AOps.F Z Z .N)) d9.nil);refine d8.cons Z Z (.go Z Z (fun E=>.J Z Z Z b (AOps.F Z Z .N)) (.skip Z .nil)) (d8.D 1 Z Z (d8.cons Z Z ?_ ?_));exact d9.go Z Z (fun E=>.J Z Z Z b (AOps.F Z Z .N)) (d9.go Z Z (fun E=>.J Z Z Z b (AOps.F Z Z .N)) d9.nil);refine d8.cons Z Z ?_ ?_;exact d9.go Z Z (fun E=>.J Z Z Z b (AOps.F Z Z .N)) (d9.go Z Z (fun E=>.J Z Z Z b (AOps.F Z Z .N)) d9.nil);refine d8.cons Z Z ?_ ?_;exact d9.skip Z (d9.go Z Z (fun E=>.J Z Z Z b (AOps.ab Z Z (.cons (.agg (.cons .imm (.cons .imm (.cons .imm (.cons .imm .nil))))) (.cons (.c .imm) (.cons (.c (.own Z Z)) (.cons (.c .imm) (.cons (.c .imm) .nil))))) Z (Q9 p) Z .N)) d9.nil);refine d8.cons Z Z ?_ ?_;exact d9.skip Z (d9.go Z Z (fun E=>.pickT Z b Z Z .N) d9.nil);refine d8.D 1 Z Z (d8.cons Z Z ?_ ?_);exact d9.skip Z (d9.go Z Z (fun E=>.J Z Z Z g (W.loadAgg Z Z Z Z Z Z Z .N)) d9.nil);refine d8.cons Z Z ?_ ?_;exact d9.skip Z (d9.go Z Z (fun E=>.J Z Z Z g (AOps.F Z Z .N)) d9.nil);refine d8.cons Z Z ?_ ?_;exact d9.skip Z (d9.go Z Z (fun E=>.J Z Z Z g (AOps.F Z Z .N)) d9.nil);refine d8.cons Z Z ?_ ?_;exact d9.skip Z (d9.go Z Z (fun E=>.J Z Z Z g (AOps.F Z Z .N)) d9.nil);refine d8.cons Z Z ?_ ?_;exact d9.skip Z (d9.go Z Z (fun E=>.J Z Z Z g (AOps.F Z Z .N)) d9.nil);refine d8.cons Z Z ?_ ?_;exact d9.skip Z (d9.go Z Z (fun E=>.J Z Z Z g (AOps.z Z Z Z Z (ak0 v) Z .N)) d9.nil);refine d8.cons Z Z ?_ ?_;exact d9.skip Z (d9.go Z Z (fun E=>.J Z Z Z g (AOps.F Z Z .N)) d9.nil);refine d8.cons Z Z ?_ ?_;exact d9.skip Z (d9.go Z Z (fun E=>.J Z Z Z g (AOps.F Z Z .N)) d9.nil);refine d8.cons Z Z ?_ ?_;exact d9.skip Z (d9.go Z Z (fun E=>.J Z Z Z g (AOps.F Z Z .N)) d9.nil);refine d8.cons Z Z ?_ ?_;exact d9.skip Z (d9.go Z Z (fun E=>.J Z Z Z g (AOps.z Z Z Z Z (B4 w) Z .N)) d9.nil);refine d8.cons Z Z ?_ ?_;exact d9.skip Z (d9.go Z Z (fun E=>.J Z Z Z g (S.idx A Z Z Z Z .N)) d9.nil);refine d8.cons Z Z ?_ ?_;exact d9.skip Z (d9.go Z Z (fun E=>.J Z Z Z g (AOps.loadI Z Z Z Z .N)) d9.nil);refine d8.cons Z Z ?_ ?_;exact d9.skip Z (d9.go Z Z (fun E=>.J Z Z Z g (AOps.lss Z Z Z .N)) d9.nil);refine d8.cons Z Z ?_ ?_;exact d9.skip Z (d9.go Z Z (fun E=>.pickT Z g Z Z .N) d9.nil);exact d8.nil;dsimp only[g9];obtain rfl:=oi i;refine b5 (Sub.ct Z Z (.o Z .n));replace i:=y6 g i;refine AWP.drawEI [8] mixed Z Z Z (b8.D 3 Z Z (b8.consN Z Z (fun E=>.z Z Z Z Z (y7 l) Z .N) Z (b8.D 1 Z Z (b8.consN Z Z (fun E=>.J Z Z Z b (W.loadAgg Z Z Z Z Z Z Z .N)) Z (.consN Z Z (fun E=>.J Z Z Z b (.F Z Z .N)) Z (.consN Z Z (fun E=>.J Z Z Z b (.F Z Z .N)) Z ?_))))));apply b8.consE;exact Z;exact Z;intro E;refine AOps.J Z Z Z b (S.fresh Z Z Z Z (ak2 q) Z Z .N);exact Z;exact Z;refine b8.consN Z Z (fun E=>.J Z Z Z b (.F Z Z .N)) Z (.consN Z Z (fun E=>.J Z Z Z b (.F Z Z .N)) Z (.consN Z Z (fun E=>.J Z Z Z b (.ab Z Z (.cons (.agg (.cons .imm (.cons .imm (.cons .imm (.cons .imm .nil))))) (.cons (.c .imm) (.cons (.c (.own Z Z)) (.cons (.c .imm) (.cons (.c .imm) .nil))))) Z (Q9 p) Z .N)) Z (.consN Z Z (fun E=>.pickT Z b Z Z .N) Z (b8.D 1 Z Z (b8.consN Z Z (fun E=>.guardF Z Z Z g .N) Z (.consN Z Z (fun E=>.guardF Z Z Z g .N) Z (.consN Z Z (fun E=>.guardF Z Z Z g .N) Z (.consN Z Z (fun E=>.guardF Z Z Z g .N) Z (.consN Z Z (fun E=>.guardF Z Z Z g .N) Z (.consN Z Z (fun E=>.guardF Z Z Z g .N) Z (.consN Z Z (fun E=>.guardF Z Z Z g .N) Z (.consN Z Z (fun E=>.guardF Z Z Z g .N) Z (.consN Z Z (fun E=>.guardF Z Z Z g .N) Z (.consN Z Z (fun E=>.guardF Z Z Z g .N) Z (.consN Z Z (fun E=>.guardF Z Z Z g .N) Z (.consN Z Z (fun E=>.guardF Z Z Z g .N) Z (.consN Z Z (fun E=>.guardF Z Z Z g .N) Z (.consN Z Z (fun E=>.pickF Z g Z Z .N) Z (b8.done Z ?_ ?_)))))))))))))))))));refine d8.D 3 Z Z (d8.cons Z Z (.go Z Z (fun E=>.z Z Z Z Z (y7 l) Z .N) (.skip Z .nil)) (d8.D 1 Z Z (d8.cons Z Z ?_ ?_)));exact d9.go Z Z (fun E=>.J Z Z Z b (W.loadAgg Z Z Z Z Z Z Z .N)) (d9.go Z Z (fun E=>.J Z Z Z b (W.loadAgg Z Z Z Z Z Z Z .N)) d9.nil);refine d8.cons Z Z ?_ ?_;exact d9.go Z Z (fun E=>.J Z Z Z b (AOps.F Z Z .N)) (d9.go Z Z (fun E=>.J Z Z Z b (AOps.F Z Z .N)) d9.nil);refine d8.cons Z Z (.go Z Z (fun E=>.J Z Z Z b (AOps.F Z Z .N)) (.skip Z .nil)) (d8.D 1 Z Z (d8.cons Z Z ?_ ?_));exact d9.go Z Z (fun E=>.J Z Z Z b (AOps.F Z Z .N)) (d9.go Z Z (fun E=>.J Z Z Z b (AOps.F Z Z .N)) d9.nil);refine d8.cons Z Z ?_ ?_;exact d9.go Z Z (fun E=>.J Z Z Z b (AOps.F Z Z .N)) (d9.go Z Z (fun E=>.J Z Z Z b (AOps.F Z Z .N)) d9.nil);refine d8.cons Z Z ?_ ?_;exact d9.skip Z (d9.go Z Z (fun E=>.J Z Z Z b (AOps.ab Z Z (.cons (.agg (.cons .imm (.cons .imm (.cons .imm (.cons .imm .nil))))) (.cons (.c .imm) (.cons (.c (.own Z Z)) (.cons (.c .imm) (.cons (.c .imm) .nil))))) Z (Q9 p) Z .N)) d9.nil);refine d8.cons Z Z ?_ ?_;exact d9.skip Z (d9.go Z Z (fun E=>.pickT Z b Z Z .N) d9.nil);refine d8.D 1 Z Z (d8.cons Z Z ?_ ?_);exact d9.skip Z (d9.go Z Z (fun E=>.guardF Z Z Z g .N) d9.nil);refine d8.cons Z Z ?_ ?_;exact d9.skip Z (d9.go Z Z (fun E=>.guardF Z Z Z g .N) d9.nil);refine d8.cons Z Z ?_ ?_;exact d9.skip Z (d9.go Z Z (fun E=>.guardF Z Z Z g .N) d9.nil);refine d8.cons Z Z ?_ ?_;exact d9.skip Z (d9.go Z Z (fun E=>.guardF Z Z Z g .N) d9.nil);refine d8.cons Z Z ?_ ?_;exact d9.skip Z (d9.go Z Z (fun E=>.guardF Z Z Z g .N) d9.nil);refine d8.cons Z Z ?_ ?_;exact d9.skip Z (d9.go Z Z (fun E=>.guardF Z Z Z g .N) d9.nil);refine d8.cons Z Z ?_ ?_;exact d9.skip Z (d9.go Z Z (fun E=>.guardF Z Z Z g .N) d9.nil);refine d8.cons Z Z ?_ ?_;exact d9.skip Z (d9.go Z Z (fun E=>.guardF Z Z Z g .N) d9.nil);refine d8.cons Z Z ?_ ?_;exact d9.skip Z (d9.go Z Z (fun E=>.guardF Z Z Z g .N) d9.nil);refine d8.cons Z Z ?_ ?_;exact d9.skip Z (d9.go Z Z (fun E=>.guardF Z Z Z g .N) d9.nil);refine d8.cons Z Z ?_ ?_;exact d9.skip Z (d9.go Z Z (fun E=>.guardF Z Z Z g .N) d9.nil);refine d8.cons Z Z ?_ ?_;exact d9.skip Z (d9.go Z Z (fun E=>.guardF Z Z Z g .N) d9.nil);refine d8.cons Z Z ?_ ?_;exact d9.skip Z (d9.go Z Z (fun E=>.guardF Z Z Z g .N) d9.nil);refine d8.cons Z Z ?_ ?_;exact d9.skip Z (d9.go Z Z (fun E=>.pickF Z g Z Z .N) d9.nil);exact d8.nil;dsimp only[g9];obtain rfl:=oi i;refine b5 (Sub.ct Z Z (.o Z .n));replace i:=y6 b i;refine AWP.drawEI [8] mixed Z Z Z (b8.D 3 Z Z (b8.consN Z Z (fun E=>.z Z Z Z Z (y7 l) Z .N) Z (b8.D 1 Z Z (b8.consN Z Z (fun E=>.guardF Z Z Z b .N) Z (.consN Z Z (fun E=>.guardF Z Z Z b .N) Z (.consN Z Z (fun E=>.guardF Z Z Z b .N) Z ?_))))));apply b8.consE;exact Z;exact Z;intro E;refine AOps.guardF Z Z Z b .N;exact Z;exact Z;refine b8.consN Z Z (fun E=>.guardF Z Z Z b .N) Z (.consN Z Z (fun E=>.guardF Z Z Z b .N) Z (.consN Z Z (fun E=>.guardF Z Z Z b .N) Z (.consN Z Z (fun E=>.pickF Z b Z Z .N) Z (b8.D 15 Z Z (b8.done Z ?_ ?_)))));refine d8.D 3 Z Z (d8.cons Z Z (.go Z Z (fun E=>.z Z Z Z Z (y7 l) Z .N) (.skip Z .nil)) (d8.D 1 Z Z (d8.cons Z Z ?_ ?_)));exact d9.go Z Z (fun E=>.guardF Z Z Z b .N) (d9.go Z Z (fun E=>.guardF Z Z Z b .N) d9.nil);refine d8.cons Z Z ?_ ?_;exact d9.go Z Z (fun E=>.guardF Z Z Z b .N) (d9.go Z Z (fun E=>.guardF Z Z Z b .N) d9.nil);refine d8.cons Z Z (.go Z Z (fun E=>.guardF Z Z Z b .N) (.skip Z .nil)) (d8.D 1 Z Z (d8.cons Z Z ?_ ?_));exact d9.go Z Z (fun E=>.guardF Z Z Z b .N) (d9.go Z Z (fun E=>.guardF Z Z Z b .N) d9.nil);refine d8.cons Z Z ?_ ?_;exact d9.go Z Z (fun E=>.guardF Z Z Z b .N) (d9.go Z Z (fun E=>.guardF Z Z Z b .N) d9.nil);refine d8.cons Z Z ?_ ?_;exact d9.skip Z (d9.go Z Z (fun E=>.guardF Z Z Z b .N) d9.nil);refine d8.cons Z Z ?_ ?_;exact d9.skip Z (d9.go Z Z (fun E=>.pickF Z b Z Z .N) d9.nil);refine d8.D 15 Z Z (d8.nil);dsimp only[g9];obtain rfl:=oi i;refine b5 (Sub.en Z);refine AWP.U Z h (fun H h=> ?_) (fun H h=> ?_);refine AWP.gk 2 Z (.ret (i5 (e8 ?_)));obtain rfl:=oi h;exact e8 ⟨_,Z,Z,(Done.ret Z Z)⟩;refine AWP.skip (d6 (b5 (.G 1 Z (.add Z Z Z (by omega) (.E Z Z (.nil ?_))))));obtain rfl:=oi h;exact b5 ⟨_,Z,(Sub.en Z)⟩;intro iz _ Q;subst Q;refine f9 (b5 (.gk 1 Z (.ret ?_)));obtain rfl:=oi h;exact Done.ret Z Z;intro x e st Q hq;subst Q;obtain⟨rfl,hs⟩:=hq;refine ⟨_,Sub.refl _ _,(i5 (e8 ?_))⟩;obtain rfl:=oi h;exact hs
end
section
open Go.Proofs
open Tryz
set_option maxHeartbeats 4000000
attribute [local irreducible] AWP AOps thn inB Done e9 p8 Sub
def aD0{ov:b9}{all:LL}{value:Li}{kind:Int}{r:(List f8)}(h:ap2 ov all value kind=some r):e9 prog 18 [.agg (tO ov),.c (row 1 d7 all),(cR value),(cI kind)] (.c (row 2 j3 r)):=by
 unfold e9;refine FnOk.enter (rs:=[.t 8]) func18 Z ntmps18 results18 Z ⟨Y,Y⟩ (by kernel_rfl) Z ?_;unfold ap2 at h;refine AWP.gk 2 Z (.gk 1 Z (.u (.virtV 2 j3 9 Z Z Z (bB h fun x ho1 h=>.loopS ho1 (fun c5=>⟨[(1,.c (row 1 d7 all)),(2,(cR value)),(3,(cI kind)),(4,(cP 0 0 0)),(9,.c (.own 1 0 (jn c5)))],[(oE 4 (tO ov)),(oV 2 j3 c5)]⟩) (fun x e st=>e=.ret/\Done [.t 8] (fun t _=>t=.c (row 2 j3 x)) .ret st) ?_ ?_ ?_))));exact Sub.env ⟨Z,Z,Z,Z,(n8 (by first|rfl|simp only[lS])),Y⟩
 intro c5 o h;unfold al1 at h;try dsimp only at h ⊢
 refine AWP.u (.j (bB h fun a19 ha19 h=>.G 2 Z (.fz 1 [1,2,3,4,9,17,18] Z Z Z Z ⟨Z,Z,Y⟩ (.o Z Y (.d .n)) (AOps.z Z Z Z Z (ay1 ha19) Z (.E Z Z (.nil (b5 (.gk 1 Z (.j (.gk 1 Z (.u (bB h fun fresh6 ho2 h=>.forL ho2 (fun iv7 fresh6=>⟨[(1,.c (row 1 d7 all)),(2,(cR value)),(3,(cI kind)),(4,(cP 0 0 0)),(9,.c (row 2 j3 c5)),(10,.c (row 1 d7 a19)),(11,(cI fresh6)),(12,(cI iv7))],[(oE 4 (tO ov))]⟩) (fun _ _ _ k=>.G 2 Z (S.len Z Z fun hl=>.gn 1 Z (k hl))) (fun _ _=>Z) ?_ ?_ ?_))))))))))));exact Sub.ct Z Z (.o Z .n);intro iv7 fresh6 o hloiv7 hltiv7 h hl22;unfold ak5 at h;try dsimp only at h ⊢
 obtain⟨fresh8,hx9,h⟩:=bind_some h;refine AWP.jP [1,2,3,4,9,10,12] [(11,(cI fresh8))] Z ?_ ?_;refine AWP.u (bB hx9 fun t10 hx11 hx9=>.jP [1,2,3,4,9,10,11,12] [(41,(cB t10))] Z ?_ ?_);obtain⟨a29,ha29,a31,ha31,hx11⟩:=b2 hx11;rcases bft (!a31) with hb12|hb12;replace hx11:=y5 hb12 hx11;obtain⟨a37,ha37,a39,ha39,hx11⟩:=b2 hx11;refine AWP.drawI mixed Z (b7.D 3 Z (b7.consF Z (fun E=>S.idx ha29 Z Z Z Z .N) Z (b7.D 1 Z (b7.consF Z (fun E=>.z Z Z Z Z (D9 ha31) Z .N) Z (b7.D 2 Z (b7.K Z hb12 Z (b7.D 3 Z (b7.consF Z (fun E=>.J Z Z Z Z (S.idx ha37 Z Z Z Z .N)) Z (b7.D 1 Z (b7.consF Z (fun E=>.J Z Z Z Z (.z Z Z Z Z (ar1 ha39) Z .N)) Z (b7.D 2 Z (b7.done ?_))))))))))));dsimp only[g9];obtain rfl:=oi hx11;refine b5 (Sub.en Z);replace hx11:=y6 hb12 hx11;refine AWP.drawI mixed Z (b7.D 3 Z (b7.consF Z (fun E=>S.idx ha29 Z Z Z Z .N) Z (b7.D 1 Z (b7.consF Z (fun E=>.z Z Z Z Z (D9 ha31) Z .N) Z (b7.D 2 Z (b7.K Z hb12 Z (b7.D 8 Z (b7.done ?_))))))));dsimp only[g9];obtain rfl:=oi hx11;refine b5 (Sub.en Z);refine AWP.U Z hx9 (fun hc13 hx9=> ?_) (fun hc13 hx9=> ?_);refine AWP.G 2 Z (.nil (d6 ?_));obtain rfl:=oi hx9;refine b5 (Sub.en Z);refine AWP.skip (d6 ?_);obtain rfl:=oi hx9;refine b5 (Sub.en Z);refine AWP.G 1 Z (.add Z Z Z (by omega) (.E Z Z (.nil ?_)));obtain rfl:=oi h;refine b5 (Sub.en Z);intro iz;refine f9 (b5 (.j (.gk 2 Z (.O Z h (fun hc14 h=> ?_) (fun hc14 h=> ?_)))));refine AWP.gk 2 Z (.ret (e8 (i5 ?_)));obtain rfl:=oi h;exact e8 ⟨_,Z,Z,(Done.ret Z Z)⟩;refine AWP.skip (b5 (.j (bB h fun a48 ha48 h=>.G 2 Z (S.idx ha48 Z Z Z Z (.G 2 Z (.nil (b5 (.j (bC h fun a53 ha53 a54 ha54 h=>.G 3 Z (.z Z Z Z Z (B4 ha53) Z (S.idx ha54 Z Z Z Z (.G 2 Z (.nil (b5 (bB h fun op15 hx16 h=>.jP [1,2,3,4,9,13] [(14,(cI op15))] Z ?_ ?_)))))))))))))));refine AWP.gk 2 Z (.O Z hx16 (fun hc17 hx16=> ?_) (fun hc17 hx16=> ?_));obtain⟨a62,ha62,hx16⟩:=bind_some hx16;refine AWP.G 4 Z (.z Z Z Z Z (aB4 ha62) Z (.E Z Z (.nil ?_)));obtain rfl:=oi hx16;refine b5 (Sub.en Z);refine AWP.skip ?_;obtain rfl:=oi hx16;refine b5 (Sub.en Z);obtain⟨op18,hx19,h⟩:=bind_some h;refine AWP.jP [1,2,3,4,9,13] [(14,(cI op18))] Z ?_ ?_;refine AWP.gk 2 Z (.O Z hx19 (fun hc20 hx19=> ?_) (fun hc20 hx19=> ?_));obtain⟨a69,ha69,hx19⟩:=bind_some hx19;refine AWP.G 4 Z (.z Z Z Z Z (aC2 ha69) Z (.E Z Z (.nil ?_)));obtain rfl:=oi hx19;refine b5 (Sub.en Z);refine AWP.skip ?_;obtain rfl:=oi hx19;refine b5 (Sub.en Z);refine AWP.gk 1 Z (.gk 1 Z (.j (.u (.virtV 2 j3 15 Z Z Z ?_))));obtain⟨⟨c23,kv24⟩,ho3,h⟩:=bind_some h;try dsimp only at h
 refine AWP.loopS ho3 (fun(c21,kv22)=>⟨[(1,.c (row 1 d7 all)),(2,(cR value)),(3,(cI kind)),(4,(cP 0 0 0)),(9,.c (row 2 j3 c5)),(13,(cR a48)),(14,(cI op18)),(15,.c (.own 1 0 (jn c21))),(16,(cI kv22))],[(oE 4 (tO ov)),(oV 2 j3 c21)]⟩) (fun(c23,kv24) e st=>e=.exit 4/\Sub [] st ⟨[(1,.c (row 1 d7 all)),(2,(cR value)),(3,(cI kind)),(4,(cP 0 0 0)),(9,.c (row 2 j3 c5)),(13,(cR a48)),(14,(cI op18)),(15,.c (.own 1 0 (jn c23))),(16,(cI kv24))],[(oE 4 (tO ov)),(oV 2 j3 c23)]⟩) ?_ ?_ ?_;exact Sub.env ⟨Z,Z,Z,Z,Z,Z,Z,(n8 (by first|rfl|simp only[lS])),Z,Y⟩
 intro s o h;obtain⟨c21,kv22⟩:=s;unfold ak1 at h;try dsimp only at h ⊢
 refine AWP.j (bB h fun t25 hx26 h=>.jP [1,2,3,4,9,13,14,15,16] [(82,(cB t25))] Z ?_ ?_);rcases bft (decide (kv22<(jn c5:Int))) with hb27|hb27;replace hx26:=G5 hb27 hx26;obtain⟨a77,ha77,a81,ha81,hx26⟩:=b2 hx26;refine AWP.G 2 Z (S.len Z Z (fun hl72=>.G 2 Z (.K Z Z hb27 (.G 2 Z (.J Z Z Z Z (S.idx ha77 Z Z Z Z (.G 3 Z (.J Z Z Z Z (.z Z Z Z Z (az9 ha81) Z (.G 1 Z (.nil ?_)))))))))));obtain rfl:=oi hx26;refine b5 (Sub.en Z);replace hx26:=G1 hb27 hx26;refine AWP.G 2 Z (S.len Z Z (fun hl72=>.G 2 Z (.K Z Z hb27 (.G 8 Z (.nil ?_)))));obtain rfl:=oi hx26;refine b5 (Sub.en Z);refine AWP.U Z h (fun hc28 h=> ?_) (fun hc28 h=> ?_);refine AWP.skip (b5 (.u (.j (bC h fun a86 ha86 a89 ha89 h=>.G 3 Z (S.idx ha86 Z Z Z Z (.G 1 Z (S.lit (f:=j3) (l:=[a86]) (ess:=[[row 1 intI a86.state,int a86.operator]]) Z Z Z Z Z Z Z ⟨⟨.inl Z,.inl Z,Y⟩,Y⟩ Z Z Z (S.append (f:=j3) ha89 Z Z Z Z Z Z (.own Z Z) Z Z Z Z (.E Z Z (.nil (b5 (.F (env':=[(1,.c (row 1 d7 all)),(2,(cR value)),(3,(cI kind)),(4,(cP 0 0 0)),(9,.c (row 2 j3 c5)),(13,(cR a48)),(14,(cI op18)),(15,.c (.own 1 0 (jn a89))),(16,(cI kv22))]) (σ':=[(oE 4 (tO ov)),(oV 2 j3 a89),(oV 2 j3 [a86])]) 1 3 Z Z Z ⟨Z,Z,Z,Z,Z,Z,Z,Z,Z,Y⟩ Z ⟨⟨Z,Z⟩,⟨Blk.im_ok _ _ _,k8 Z⟩,⟨Blk.im_ok _ _ _,k8 Z⟩,Y⟩ (.G 3 Z (.nil (d6 ?_)))))))))))))));obtain rfl:=oi h;exact b5 ⟨_,Z,(Sub.ct Z Z (.o Z (.v .n)))⟩;refine AWP.exit (i7 ?_);obtain rfl:=oi h;exact i7 ⟨_,Z,Z,(Sub.en Z)⟩;intro e s hq;obtain⟨rfl,hs⟩:=hq;refine ⟨_,hs,(f9 (b5 (bD h fun a97 ha97 a100 ha100 a101 ha101 h=>.drawEI [4,5,9] mixed Z Z Z (b8.D 4 Z Z ?_))))⟩;apply b8.consE;exact Z;exact Z;intro E;refine S.lit (f:=j3) (l:=[(⟨a48,op18⟩:f8)]) (ess:=[[row 1 intI a48,int op18]]) Z Z Z Z Z Z Z ⟨⟨.inl Z,.inl Z,Y⟩,Y⟩ Z Z Z .N;exact Z;exact Z;apply b8.consE;exact Z;exact Z;intro E;refine S.append (f:=j3) ha97 Z Z Z Z Z Z (.own Z Z) Z Z Z Z .N;exact Z;exact Z;refine b8.D 2 Z Z (b8.consN Z Z (fun E=>S.subFrom ha100 Z Z Z .N) Z ?_);apply b8.consE;exact Z;exact Z;intro E;refine S.append (f:=j3) ha101 Z Z Z Z Z Z .row Z Z Z Z .N;exact Z;exact Z;refine b8.D 1 Z Z (b8.done Z ?_ ?_);exact d8.D 8 Z Z (d8.cons Z Z (.go Z Z (fun E=>S.subFrom ha100 Z Z Z .N) (.go Z Z (fun E=>S.subFrom ha100 Z Z Z .N) (.go Z Z (fun E=>S.subFrom ha100 Z Z Z .N) (.skip Z .nil)))) (d8.D 2 Z Z (d8.nil)));dsimp only[g9];refine d6 ?_;obtain rfl:=oi h;exact b5 ⟨_,Z,(Sub.mv 1 4 Z Z (.o Z Z (.v Z .n)))⟩;intro e s hq;obtain⟨rfl,hs⟩:=hq;refine ⟨_,Sub.refl _ _,(i5 ?_)⟩;obtain rfl:=oi h;exact hs
theorem ap8{ov:b9}{r:Bool}(h:H3 ov=some r):e9 prog 3 [.agg (tO ov)] ((cB r)):=by
 unfold e9
 refine FnOk.enter (rs:=[.t 2]) func3 Z ntmps3 results3 Z ⟨Y,Y⟩ (by kernel_rfl) Z ?_
 unfold H3 at h
 refine AWP.gk 2 Z (.j ?_)
 obtain⟨a19,ha19,h⟩:=bind_some h
 refine AWP.G 1 Z (.z Z Z Z Z (aA1 ha19) Z (.G 11 Z (.nil (b5 (.j ?_)))))
 obtain⟨a25,ha25,h⟩:=bind_some h
 refine AWP.G 1 Z (.z Z Z Z Z (aF7 ha25) Z (.G 2 Z (.nil (b5 (.gk 1 Z (.seqF ((z8 ov a19 a25)) r (fun all2=>⟨[(1,(cP 0 0 0)),(3,.c (row 2 j3 a19.1)),(4,(cP 1 0 0)),(5,(cB a19.2.2.1)),(6,(cP 2 0 0)),(7,(cP 3 0 0)),(8,.c (row 1 d7 all2))],[(oE 4 (tO ov)),(oE 2 [int a19.2.1.num,int a19.2.1.den]),(oE 2 [int a19.2.2.2.code,int a19.2.2.2.index]),(oE 2 [int a25.code,int a25.index])]⟩) (fun all2 h=> ?_) ?_))))))
 ·unfold z8 at h
  try dsimp only at h ⊢
  refine AWP.j (.gk 1 Z (.u ?_))
  obtain⟨⟨c6,c7⟩,ho2,h⟩:=bind_some h
  try dsimp only at h
  refine AWP.loopS ho2 (fun(c3,c4,iv5)=>⟨[(1,(cP 0 0 0)),(3,.c (row 2 j3 a19.1)),(4,(cP 1 0 0)),(5,(cB a19.2.2.1)),(6,(cP 2 0 0)),(7,(cP 3 0 0)),(8,.c (row 1 d7 all2)),(11,(cI iv5))],[(oE 4 (tO ov)),(oE 2 [int a19.2.1.num,int a19.2.1.den]),(oE 2 [int a19.2.2.2.code,int a19.2.2.2.index]),(oE 2 [int c3,int c4])]⟩) (fun(c6,c7) e st=>e=.exit 0/\Sub [] st ⟨[(1,(cP 0 0 0)),(3,.c (row 2 j3 a19.1)),(4,(cP 1 0 0)),(5,(cB a19.2.2.1)),(6,(cP 2 0 0)),(7,(cP 3 0 0)),(8,.c (row 1 d7 all2))],[(oE 4 (tO ov)),(oE 2 [int a19.2.1.num,int a19.2.1.den]),(oE 2 [int a19.2.2.2.code,int a19.2.2.2.index]),(oE 2 [int c6,int c7])]⟩) ?_ ?_ ?_
  ·exact Sub.en Z
  ·intro s o h
   obtain⟨c3,c4,iv5⟩:=s
   unfold s7 at h
   try dsimp only at h ⊢
   refine AWP.j (.seqJ (⟨[(1,(cP 0 0 0)),(3,.c (row 2 j3 a19.1)),(4,(cP 1 0 0)),(5,(cB a19.2.2.1)),(6,(cP 2 0 0)),(7,(cP 3 0 0)),(8,.c (row 1 d7 all2)),(11,(cI iv5)),(47,(cB ((decide (iv5<(jn ov.operators:Int))) && (decide (c3=0)))))],[(oE 4 (tO ov)),(oE 2 [int a19.2.1.num,int a19.2.1.den]),(oE 2 [int a19.2.2.2.code,int a19.2.2.2.index]),(oE 2 [int c3,int c4])]⟩) ?_ ?_)
   ·rcases bft (decide (iv5<(jn ov.operators:Int))) with hb1|hb1
    ·refine AWP.G 3 Z (S.len Z Z (fun hl41=>.G 2 Z (.K Z Z hb1 (.G 4 Z (.nil (b5 ?_))))))
     simp only[ab4 hb1,or_t hb1,io,iw,il,ip]
     exact Sub.en Z
    ·refine AWP.G 3 Z (S.len Z Z (fun hl41=>.G 2 Z (.K Z Z hb1 (.G 4 Z (.nil (b5 ?_))))))
     simp only[ae1 hb1,or_f hb1,io,iw,il,ip]
     exact Sub.en Z
   ·refine AWP.U Z h (fun hc8 h=> ?_) (fun hc8 h=> ?_)
    ·refine AWP.skip (b5 ?_)
     obtain⟨⟨c9,c10⟩,hx11,h⟩:=bind_some h
     refine AWP.jQ [1,3,4,5,6,7,8,11] [] [(oE 4 (tO ov)),(oE 2 [int a19.2.1.num,int a19.2.1.den]),(oE 2 [int a19.2.2.2.code,int a19.2.2.2.index]),(oE 2 [int c9,int c10])] Z ?_ ?_
     ·refine AWP.u (.j ?_)
      obtain⟨a53,ha53,hx11⟩:=bind_some hx11
      refine AWP.G 3 Z (S.idx ha53 Z Z Z Z (.G 3 Z (.nil (b5 (.O Z hx11 (fun hc12 hx11=> ?_) (fun hc12 hx11=> ?_))))))
      ·obtain⟨a57,ha57,hx11⟩:=bind_some hx11
       refine AWP.aa (.z Z Z Z Z (H6 ha57) Z (.G 1 Z (.nil (d6 ?_))))
       obtain⟨ej0,ej1⟩:=o2 hx11
       subst ej0 ej1
       refine b5 (Sub.en Z)
      ·refine AWP.skip (d6 ?_)
       obtain⟨ej0,ej1⟩:=o2 hx11
       subst ej0 ej1
       refine b5 (Sub.en Z)
     ·try dsimp only at h
      refine AWP.G 3 Z (.nil ?_)
      obtain rfl:=oi h
      refine b5 ⟨_,Z,?_⟩
      exact Sub.en Z
    ·refine AWP.exit (i7 ?_)
     obtain rfl:=oi h
     refine i7 ⟨_,Z,Z,?_⟩
     exact Sub.en Z
  ·intro e s hq
   obtain⟨rfl,hs⟩:=hq
   refine⟨_,hs,?_⟩
   refine f9 (b5 ?_)
   obtain⟨⟨c13,c14⟩,hx15,h⟩:=bind_some h
   refine AWP.jQ [1,3,4,5,6,7,8] [] [(oE 4 (tO ov)),(oE 2 [int a19.2.1.num,int a19.2.1.den]),(oE 2 [int a19.2.2.2.code,int a19.2.2.2.index]),(oE 2 [int c13,int c14])] Z ?_ ?_
   ·obtain⟨t16,hx17,hx15⟩:=bind_some hx15
    refine AWP.jP [1,3,4,5,6,7,8] [(67,(cB t16))] Z ?_ ?_
    ·rcases bft (decide (c6=0)) with hb18|hb18
     ·replace hx17:=G5 hb18 hx17
      obtain⟨a64,ha64,hx17⟩:=bind_some hx17
      refine AWP.G 4 Z (.K Z Z hb18 (.G 2 Z (.J Z Z Z Z (S.fresh Z Z Z Z (ref8_Pending_ok ha64) Z Z ?_))))
      refine AOps.J Z Z Z Z ?_;refine S.lenO Z Z Z (fun hl65=> ?_)
      refine AOps.G 2 Z (.nil ?_)
      obtain rfl:=oi hx17
      refine b5 (Sub.ct Z Z (.o Z (.o Z (.o Z (.o Z .n)))))
     ·replace hx17:=G1 hb18 hx17
      refine AWP.G 4 Z (.K Z Z hb18 (.G 6 Z (.nil ?_)))
      obtain rfl:=oi hx17
      refine b5 (Sub.en Z)
    ·refine AWP.U Z hx15 (fun hc19 hx15=> ?_) (fun hc19 hx15=> ?_)
     ·obtain⟨a68,ha68,hx15⟩:=bind_some hx15
      refine AWP.aa (.z Z Z Z Z (H6 ha68) Z (.G 1 Z (.nil ?_)))
      obtain⟨ej0,ej1⟩:=o2 hx15
      subst ej0 ej1
      refine b5 (Sub.en Z)
     ·refine AWP.skip ?_
      obtain⟨ej0,ej1⟩:=o2 hx15
      subst ej0 ej1
      refine b5 (Sub.en Z)
   ·try dsimp only at h
    refine AWP.j (.gk 3 Z (.iteN Z h (fun hc20 h=> ?_) (fun hc20 h=> ?_)))
    ·obtain⟨t21,hx22,h⟩:=bind_some h
     refine AWP.seqJ (⟨[(2,(cB t21))],[]⟩) ?_ ?_
     ·rcases bft ((decide (a19.2.2.2.code=c13)) && (decide (a19.2.2.2.index=c14))) with hb23|hb23
      ·replace hx22:=y5 hb23 hx22
       rcases bft (!a19.2.2.1) with hb24|hb24
       ·replace hx22:=y5 hb24 hx22
        rcases bft ((decide (a19.2.1.num=0)) && (decide (a19.2.1.den=0))) with hb25|hb25
        ·replace hx22:=y5 hb25 hx22
         rcases bft (decide ((a19.1.length:Int)=0)) with hb26|hb26
         ·replace hx22:=G5 hb26 hx22
          obtain⟨a90,ha90,hx22⟩:=bind_some hx22
          refine AWP.G 2 Z (.eqlP Z Z Z Z Z Z Z (.F Z Z (.K Z Z hb23 (.G 4 Z (.K Z Z hb24 (.G 2 Z (.J Z Z Z Z (.eqlP Z Z Z Z Z Z Z (.G 2 Z (.K Z Z hb25 (.G 1 Z ?_)))))))))))
          refine AOps.J Z Z Z Z ?_;refine S.len Z Z (fun hl86=> ?_)
          refine AOps.G 3 Z (.J Z Z Z hb26 (.z Z Z Z Z (O3 ha90) Z (.pickT Z hb26 Z Z (.E Z Z (.nil ?_)))))
          obtain rfl:=oi hx22
          refine b5 (Sub.ct Z Z .n)
         ·replace hx22:=G1 hb26 hx22
          refine AWP.G 2 Z (.eqlP Z Z Z Z Z Z Z (.F Z Z (.K Z Z hb23 (.G 4 Z (.K Z Z hb24 (.G 2 Z (.J Z Z Z Z (.eqlP Z Z Z Z Z Z Z (.G 2 Z (.K Z Z hb25 (.G 1 Z ?_)))))))))))
          refine AOps.J Z Z Z Z ?_;refine S.len Z Z (fun hl86=> ?_)
          refine AOps.G 3 Z (.guardF Z Z Z hb26 (.pickF Z hb26 Z Z (.E Z Z (.nil ?_))))
          obtain rfl:=oi hx22
          refine b5 (Sub.ct Z Z .n)
        ·replace hx22:=y6 hb25 hx22
         refine AWP.G 2 Z (.eqlP Z Z Z Z Z Z Z (.F Z Z (.K Z Z hb23 (.G 4 Z (.K Z Z hb24 (.G 2 Z (.J Z Z Z Z (.eqlP Z Z Z Z Z Z Z (.G 2 Z (.K Z Z hb25 (.G 8 Z (.nil ?_))))))))))))
         obtain rfl:=oi hx22
         refine b5 (Sub.ct Z Z .n)
       ·replace hx22:=y6 hb24 hx22
        refine AWP.G 2 Z (.eqlP Z Z Z Z Z Z Z (.F Z Z (.K Z Z hb23 (.G 4 Z (.K Z Z hb24 (.G 13 Z (.nil ?_)))))))
        obtain rfl:=oi hx22
        refine b5 (Sub.ct Z Z .n)
      ·replace hx22:=y6 hb23 hx22
       refine AWP.G 2 Z (.eqlP Z Z Z Z Z Z Z (.F Z Z (.K Z Z hb23 (.G 17 Z (.nil ?_)))))
       obtain rfl:=oi hx22
       refine b5 (Sub.ct Z Z .n)
     ·refine AWP.ret (e8 ?_)
      obtain rfl:=oi h
      exact Done.ret Z Z
    ·refine AWP.skip (b5 (.j ?_))
     obtain⟨a95,ha95,h⟩:=bind_some h
     refine AWP.G 3 Z (.z Z Z Z Z (B4 ha95) Z (.E Z Z (.nil (b5 (.j (.j ?_))))))
     obtain⟨a98,ha98,a100,ha100,h⟩:=b2 h
     refine AWP.G 2 Z (S.fresh Z Z Z Z (ap6 ha98) Z Z (.F Z Z (S.idxO ha100 Z Z Z Z Z (S.loadO ha100 Z Z Z Z Z (.geq Z Z Z (.nil (b5 (.O Z h (fun hc27 h=> ?_) (fun hc27 h=> ?_)))))))))
     ·obtain⟨t28,hx29,h⟩:=bind_some h
      refine AWP.seqJ (⟨[(2,(cB t28))],[]⟩) ?_ ?_
      ·rcases bft (decide (a19.2.2.2.code=0)) with hb30|hb30
       ·replace hx29:=G5 hb30 hx29
        rcases bft (!a19.2.2.1) with hb31|hb31
        ·replace hx29:=y5 hb31 hx29
         rcases bft ((decide (a19.2.1.num=0)) && (decide (a19.2.1.den=0))) with hb32|hb32
         ·replace hx29:=y5 hb32 hx29
          rcases bft (decide ((a19.1.length:Int)=0)) with hb33|hb33
          ·replace hx29:=G5 hb33 hx29
           obtain⟨a121,ha121,hx29⟩:=bind_some hx29
           refine AWP.G 4 Z (.K Z Z hb30 (.G 4 Z (.K Z Z hb31 (.G 2 Z (.J Z Z Z Z (.eqlP Z Z Z Z Z Z Z (.G 2 Z (.K Z Z hb32 (.G 1 Z ?_)))))))))
           refine AOps.J Z Z Z Z ?_;refine S.len Z Z (fun hl117=> ?_)
           refine AOps.G 3 Z (.J Z Z Z hb33 (.z Z Z Z Z (O3 ha121) Z (.pickT Z hb33 Z Z (.E Z Z (.nil ?_)))))
           obtain rfl:=oi hx29
           refine b5 (Sub.ct Z Z .n)
          ·replace hx29:=G1 hb33 hx29
           refine AWP.G 4 Z (.K Z Z hb30 (.G 4 Z (.K Z Z hb31 (.G 2 Z (.J Z Z Z Z (.eqlP Z Z Z Z Z Z Z (.G 2 Z (.K Z Z hb32 (.G 1 Z ?_)))))))))
           refine AOps.J Z Z Z Z ?_;refine S.len Z Z (fun hl117=> ?_)
           refine AOps.G 3 Z (.guardF Z Z Z hb33 (.pickF Z hb33 Z Z (.E Z Z (.nil ?_))))
           obtain rfl:=oi hx29
           refine b5 (Sub.ct Z Z .n)
         ·replace hx29:=y6 hb32 hx29
          refine AWP.G 4 Z (.K Z Z hb30 (.G 4 Z (.K Z Z hb31 (.G 2 Z (.J Z Z Z Z (.eqlP Z Z Z Z Z Z Z (.G 2 Z (.K Z Z hb32 (.G 8 Z (.nil ?_))))))))))
          obtain rfl:=oi hx29
          refine b5 (Sub.ct Z Z .n)
        ·replace hx29:=y6 hb31 hx29
         refine AWP.G 4 Z (.K Z Z hb30 (.G 4 Z (.K Z Z hb31 (.G 13 Z (.nil ?_)))))
         obtain rfl:=oi hx29
         refine b5 (Sub.ct Z Z .n)
       ·replace hx29:=G1 hb30 hx29
        refine AWP.G 4 Z (.K Z Z hb30 (.G 17 Z (.nil ?_)))
        obtain rfl:=oi hx29
        refine b5 (Sub.ct Z Z .n)
      ·refine AWP.ret (e8 ?_)
       obtain rfl:=oi h
       exact Done.ret Z Z
     ·refine AWP.skip (b5 (.j (.j ?_)))
      obtain⟨a125,ha125,h⟩:=bind_some h
      refine AWP.G 2 Z (.z Z Z Z Z (ao7 ha125) Z (.geq Z Z Z (.nil (b5 (.O Z h (fun hc34 h=> ?_) (fun hc34 h=> ?_))))))
      ·refine AWP.j ?_
       obtain⟨a127,ha127,h⟩:=bind_some h
       refine AWP.aa (.z Z Z Z Z (O3 ha127) Z (.E Z Z (.nil (b5 (.ret (e8 ?_))))))
       obtain rfl:=oi h
       exact Done.ret Z Z
      ·refine AWP.skip (b5 (.j ?_))
       obtain⟨a131,ha131,h⟩:=bind_some h
       refine AWP.G 2 Z (.z Z Z Z Z (aH3 ha131) Z (.G 7 Z (.nil (b5 (.j ?_)))))
       obtain⟨a137,ha137,a141,ha141,a143,ha143,h⟩:=b3 h
       refine AWP.drawEI [9,10] mixed Z Z Z (b8.D 2 Z Z ?_)
       refine b8.consN Z Z (fun E=>S.idx ha137 Z Z Z Z .N) Z ?_
       refine b8.D 3 Z Z ?_
       refine b8.consN Z Z (fun E=>S.idx ha141 Z Z Z Z .N) Z ?_
       refine b8.D 1 Z Z ?_
       refine b8.consN Z Z (fun E=>.z Z Z Z Z (B3 ha143) Z .N) Z ?_
       apply b8.consE;exact Z;exact Z;intro E
       refine W.alloc Z Z Z Z .N
       exact Z
       exact Z
       apply b8.consE (v:=.undef);exact Z;exact Z;intro E
       refine W.storeAgg Z Z Z Z Z Z Z .N
       exact Z
       exact Z
       refine b8.done Z ?_ ?_
       ·refine d8.D 2 Z Z ?_
        refine d8.cons Z Z (.go Z Z (fun E=>S.idx ha137 Z Z Z Z .N) (.go Z Z (fun E=>S.idx ha137 Z Z Z Z .N) (.skip Z .nil))) ?_
        refine d8.D 3 Z Z ?_
        refine d8.cons Z Z (.go Z Z (fun E=>S.idx ha141 Z Z Z Z .N) (.go Z Z (fun E=>S.idx ha141 Z Z Z Z .N) (.skip Z .nil))) ?_
        refine d8.D 1 Z Z ?_
        refine d8.cons Z Z (.go Z Z (fun E=>.z Z Z Z Z (B3 ha143) Z .N) (.go Z Z (fun E=>.z Z Z Z Z (B3 ha143) Z .N) (.skip Z .nil))) ?_
        refine d8.D 2 Z Z (d8.nil)
       dsimp only[g9]
       refine b5 (.j (.j ?_))
       obtain⟨a145,ha145,h⟩:=bind_some h
       refine AWP.G 1 Z (.z Z Z Z Z (ref8_Large_ok ha145) Z (.nil (b5 (.U Z h (fun hc35 h=> ?_) (fun hc35 h=> ?_)))))
       ·obtain⟨t36,hx37,h⟩:=bind_some h
        refine AWP.seqJ (⟨[(2,(cB t36))],[]⟩) ?_ ?_
        ·obtain⟨a147,ha147,hx37⟩:=bind_some hx37
         rcases bft ((decide (a19.2.2.2.code=a147.code)) && (decide (a19.2.2.2.index=a147.index))) with hb38|hb38
         ·replace hx37:=y5 hb38 hx37
          rcases bft (!a19.2.2.1) with hb39|hb39
          ·replace hx37:=y5 hb39 hx37
           rcases bft ((decide (a19.2.1.num=0)) && (decide (a19.2.1.den=0))) with hb40|hb40
           ·replace hx37:=y5 hb40 hx37
            rcases bft (decide ((a19.1.length:Int)=0)) with hb41|hb41
            ·replace hx37:=G5 hb41 hx37
             obtain⟨a164,ha164,hx37⟩:=bind_some hx37
             refine AWP.drawI mixed Z (b7.D 1 Z ?_)
             refine b7.consF Z (fun E=>.z Z Z Z Z (H6 ha147) Z .N) Z (.consF Z (fun E=>.eqlP Z Z Z Z Z Z Z .N) Z ?_)
             refine b7.D 1 Z (b7.K Z hb38 Z (b7.D 4 Z (b7.K Z hb39 Z (b7.D 2 Z ?_))))
             refine b7.consF Z (fun E=>.J Z Z Z Z (.eqlP Z Z Z Z Z Z Z .N)) Z ?_
             refine b7.D 2 Z (b7.K Z hb40 Z (b7.D 1 Z ?_))
             apply b7.consF;exact Z;intro E
             refine AOps.J Z Z Z Z ?_;refine S.len Z Z (fun hl160=> ?_)
             exact AOps.nil ⟨Z,Z⟩
             exact Z
             refine b7.D 3 Z ?_
             refine b7.consF Z (fun E=>.J Z Z Z hb41 (.z Z Z Z Z (O3 ha164) Z .N)) Z (.consF Z (fun E=>.pickT Z hb41 Z Z .N) Z ?_)
             refine b7.D 1 Z (b7.done ?_)
             dsimp only[g9]
             obtain rfl:=oi hx37
             refine b5 (Sub.ct Z Z .n)
            ·replace hx37:=G1 hb41 hx37
             refine AWP.drawI mixed Z (b7.D 1 Z ?_)
             refine b7.consF Z (fun E=>.z Z Z Z Z (H6 ha147) Z .N) Z (.consF Z (fun E=>.eqlP Z Z Z Z Z Z Z .N) Z ?_)
             refine b7.D 1 Z (b7.K Z hb38 Z (b7.D 4 Z (b7.K Z hb39 Z (b7.D 2 Z ?_))))
             refine b7.consF Z (fun E=>.J Z Z Z Z (.eqlP Z Z Z Z Z Z Z .N)) Z ?_
             refine b7.D 2 Z (b7.K Z hb40 Z (b7.D 1 Z ?_))
             apply b7.consF;exact Z;intro E
             refine AOps.J Z Z Z Z ?_;refine S.len Z Z (fun hl160=> ?_)
             exact AOps.nil ⟨Z,Z⟩
             exact Z
             refine b7.D 3 Z ?_
             refine b7.consF Z (fun E=>.guardF Z Z Z hb41 .N) Z (.consF Z (fun E=>.pickF Z hb41 Z Z .N) Z ?_)
             refine b7.D 1 Z (b7.done ?_)
             dsimp only[g9]
             obtain rfl:=oi hx37
             refine b5 (Sub.ct Z Z .n)
           ·replace hx37:=y6 hb40 hx37
            refine AWP.drawI mixed Z (b7.D 1 Z ?_)
            refine b7.consF Z (fun E=>.z Z Z Z Z (H6 ha147) Z .N) Z (.consF Z (fun E=>.eqlP Z Z Z Z Z Z Z .N) Z ?_)
            refine b7.D 1 Z (b7.K Z hb38 Z (b7.D 4 Z (b7.K Z hb39 Z (b7.D 2 Z ?_))))
            refine b7.consF Z (fun E=>.J Z Z Z Z (.eqlP Z Z Z Z Z Z Z .N)) Z ?_
            refine b7.D 2 Z (b7.K Z hb40 Z (b7.D 8 Z (b7.done ?_)))
            dsimp only[g9]
            obtain rfl:=oi hx37
            refine b5 (Sub.ct Z Z .n)
          ·replace hx37:=y6 hb39 hx37
           refine AWP.drawI mixed Z (b7.D 1 Z ?_)
           refine b7.consF Z (fun E=>.z Z Z Z Z (H6 ha147) Z .N) Z (.consF Z (fun E=>.eqlP Z Z Z Z Z Z Z .N) Z ?_)
           refine b7.D 1 Z (b7.K Z hb38 Z (b7.D 4 Z (b7.K Z hb39 Z (b7.D 13 Z (b7.done ?_)))))
           dsimp only[g9]
           obtain rfl:=oi hx37
           refine b5 (Sub.ct Z Z .n)
         ·replace hx37:=y6 hb38 hx37
          refine AWP.drawI mixed Z (b7.D 1 Z ?_)
          refine b7.consF Z (fun E=>.z Z Z Z Z (H6 ha147) Z .N) Z (.consF Z (fun E=>.eqlP Z Z Z Z Z Z Z .N) Z ?_)
          refine b7.D 1 Z (b7.K Z hb38 Z (b7.D 17 Z (b7.done ?_)))
          dsimp only[g9]
          obtain rfl:=oi hx37
          refine b5 (Sub.ct Z Z .n)
        ·refine AWP.ret (e8 ?_)
         obtain rfl:=oi h
         exact Done.ret Z Z
       ·refine AWP.skip (b5 ?_)
        obtain⟨t42,hx43,h⟩:=bind_some h
        refine AWP.seqJ (⟨[(2,(cB t42))],[]⟩) ?_ ?_
        ·rcases bft (decide (a19.2.2.2.code=0)) with hb44|hb44
         ·replace hx43:=G5 hb44 hx43
          rcases bft (a19.2.2.1) with hb45|hb45
          ·replace hx43:=y5 hb45 hx43
           rcases bft ((decide (a19.2.1.num=a143.num)) && (decide (a19.2.1.den=a143.den))) with hb46|hb46
           ·replace hx43:=y5 hb46 hx43
            obtain⟨a182,ha182,a183,ha183,hx43⟩:=b2 hx43
            rcases bft (a183) with hb47|hb47
            ·replace hx43:=y5 hb47 hx43
             obtain⟨a186,ha186,hx43⟩:=bind_some hx43
             refine AWP.G 4 Z (.J Z Z Z hb44 (.F Z Z (.pickT Z hb44 Z Z (.F Z Z (.K Z Z hb45 (.G 2 Z (.J Z Z Z Z (.eqlP Z Z Z Z Z Z Z (.G 2 Z (.K Z Z hb46 (.G 4 Z (.J Z Z Z Z (.z Z Z Z Z (aD0 ha182) Z (.J Z Z Z Z (.z Z Z Z Z (ap4 ha183) Z (.G 2 Z (.J Z Z Z hb47 (.z Z Z Z Z (O3 ha186) Z (.pickT Z hb47 Z Z (.E Z Z (.nil ?_)))))))))))))))))))))
             obtain rfl:=oi hx43
             refine b5 (Sub.ct Z Z .n)
            ·replace hx43:=y6 hb47 hx43
             refine AWP.G 4 Z (.J Z Z Z hb44 (.F Z Z (.pickT Z hb44 Z Z (.F Z Z (.K Z Z hb45 (.G 2 Z (.J Z Z Z Z (.eqlP Z Z Z Z Z Z Z (.G 2 Z (.K Z Z hb46 (.G 4 Z (.J Z Z Z Z (.z Z Z Z Z (aD0 ha182) Z (.J Z Z Z Z (.z Z Z Z Z (ap4 ha183) Z (.G 2 Z (.guardF Z Z Z hb47 (.pickF Z hb47 Z Z (.E Z Z (.nil ?_))))))))))))))))))))
             obtain rfl:=oi hx43
             refine b5 (Sub.ct Z Z .n)
           ·replace hx43:=y6 hb46 hx43
            refine AWP.G 4 Z (.J Z Z Z hb44 (.F Z Z (.pickT Z hb44 Z Z (.F Z Z (.K Z Z hb45 (.G 2 Z (.J Z Z Z Z (.eqlP Z Z Z Z Z Z Z (.G 2 Z (.K Z Z hb46 (.G 11 Z (.nil ?_))))))))))))
            obtain rfl:=oi hx43
            refine b5 (Sub.ct Z Z .n)
          ·replace hx43:=y6 hb45 hx43
           refine AWP.G 4 Z (.J Z Z Z hb44 (.F Z Z (.pickT Z hb44 Z Z (.F Z Z (.K Z Z hb45 (.G 16 Z (.nil ?_)))))))
           obtain rfl:=oi hx43
           refine b5 (Sub.ct Z Z .n)
         ·replace hx43:=G1 hb44 hx43
          refine AWP.G 4 Z (.guardF Z Z Z hb44 (.pickF Z hb44 Z Z (.G 17 Z (.nil ?_))))
          obtain rfl:=oi hx43
          refine b5 (Sub.ct Z Z .n)
        ·refine AWP.ret ?_
         obtain rfl:=oi h
         exact Done.ret Z Z
 ·refine AWP.gk 3 Z (.O Z h (fun hc48 h=> ?_) (fun hc48 h=> ?_))
  ·refine AWP.j ?_
   obtain⟨a31,ha31,h⟩:=bind_some h
   refine AWP.G 1 Z (.z Z Z Z Z (ref8_Reached_ok ha31) Z (.G 5 Z (.nil (b5 (.j (.gk 2 Z (.U Z h (fun hc49 h=> ?_) (fun hc49 h=> ?_))))))))
   ·refine AWP.j ?_
    obtain⟨a36,ha36,h⟩:=bind_some h
    refine AWP.aa (.z Z Z Z Z (O3 ha36) Z (.E Z Z (.nil (b5 (.ret (e8 (e8 ?_)))))))
    obtain rfl:=oi h
    exact Done.ret Z Z
   ·refine AWP.skip (b5 (.G 2 Z (.nil (b5 ⟨_,h,?_⟩))))
    exact Sub.en Z
  ·refine AWP.skip (b5 ⟨_,h,?_⟩)
   exact(Sub.nilrow 1 8 Z).trans (Sub.en Z)
end
def sgn(j:Nat):Int:=if j % 2=0 then 1 else -1
def sk(j k:Nat):Nat:=if k<j then k else k+1
def smN:Nat->(Nat->Int)->Int
 |0,_=>0
 |n+1,f=>smN n f+f n
abbrev Mtx:=Nat->Nat->Int
variable{l q:Mtx}
def mnr(A:Mtx)(j:Nat):Mtx:=fun i k=>A (i+1) (sk j k)
def det:Nat->Mtx->Int
 |0,_=>1
 |n+1,A=>smN (n+1) fun j=>sgn j * A 0 j * det n (mnr A j)
def m7{g:Nat->Int}:∀{n:Nat},(∀j,j<n->k j=g j)->smN n k=smN n g
 |0,_=>rfl
 |n+1,h=>by simp only[smN];rw[m7 fun j a=>h j (by omega),h n (by omega)]
def O4{f:Nat->Int}:∀n:Nat,smN n (fun j=>f j+k j)=smN n f+smN n k
 |0=>rfl
 |n+1=>by simp only[smN,O4 n];omega
def B6{c:Int}{f:Nat->Int}:∀n:Nat,smN n (fun j=>c * f j)=c * smN n f
 |0=>by simp[smN]
 |n+1=>by simp only[smN,B6 n,Int.mul_add]
def am3:∀{n:Nat},(∀j,j<n->k j=0)->smN n k=0
 |0,_=>rfl
 |n+1,h=>by simp only[smN];rw[am3 fun j a=>h j (by omega),h n (by omega)];rfl
def R3{f:Nat->Int}{a:Nat}:∀{n:Nat},a<n->(∀j,j<n->j ≠ a->f j=0)->smN n f=f a
 |0,h,_=>by omega
 |n+1,c,h=>by simp only[smN];by_cases e:a=n;subst e;rw[am3 fun j b=>h j (by omega) (by omega)];omega;rw[R3 (a:=a) (by omega) fun j b=>h j (by omega),h n (by omega) (by omega)];omega
def smN_two{a b:Nat}(c:a<b):∀{n:Nat},b<n->(∀j,j<n->j ≠ a->j ≠ b->k j=0)->smN n k=k a+k b
 |0,h,_=>by omega
 |n+1,i,h=>by simp only[smN];by_cases e:b=n;subst e;rw[R3 (a:=a) c fun j d g=>h j (by omega) g (by omega)];rw[smN_two c (n:=n) (by omega) fun j d=>h j (by omega),h n (by omega) (by omega) (by omega)];omega
def smN_comm{f:Nat->Nat->Int}:∀n:Nat,smN n (fun i=>smN o fun j=>f i j)=smN o fun j=>smN n fun i=>f i j
 |0=>by simp only[smN];exact(am3 fun _ _=>rfl).symm
 |n+1=>by simp only[smN,smN_comm n,O4]
def N3:∀{n:Nat} {A B:Mtx},(∀i j,i<n->j<n->A i j=B i j)->det n A=det n B
 |0,_,_,_=>rfl
 |n+1,A,B,h=>by simp only[det];refine m7 fun j a=> ?_;rw[h 0 j (by omega) a,N3 (n:=n) (A:=mnr A j) (B:=mnr B j) fun i k b hk=>h _ _ (by omega) (by unfold sk;split<;>omega)]
def rep(A:Mtx)(k:Nat)(u:Nat->Int):Mtx:=fun i j=>if j=k then u i else A i j
def rep_self(A:Mtx)(k:Nat):rep A k (fun i=>A i k)=A:=by funext i j;unfold rep;split;rename_i e;rw[e];rfl
def aB8:mnr (rep l n k) n=mnr l n:=by
 funext i c;unfold mnr rep;rw[if_neg (by unfold sk;split<;>omega)]
def aB9(h:n ≠ o):mnr (rep l o k) n=rep (mnr l n) (if o<n then o else o - 1) fun i=>k (i+1):=by
 funext i c;unfold mnr rep;have:sk n c=o↔c=if o<n then o else o - 1:=by unfold sk;split<;>split<;>omega
 by_cases e:sk n c=o;rw[if_pos e,if_pos (this.1 e)];rw[if_neg e,if_neg fun q=>e (this.2 q)]
def det_lin{x y:Int}{u v:Nat->Int}:∀{n:Nat} {A:Mtx} {k:Nat},k<n->det n (rep A k fun i=>x * u i+y * v i)=x * det n (rep A k u)+y * det n (rep A k v)
 |0,_,_,h=>by omega
 |n+1,A,k,hk=>by
  simp only[det];rw[<- B6,<- B6,<- O4];refine m7 fun j b=> ?_;by_cases e:j=k;subst e;rw[aB8,aB8,aB8];simp only[rep,if_true];grind;rw[aB9 e,aB9 e,aB9 e];have a:(if k<j then k else k - 1)<n:=by split<;>omega
  have:=det_lin (x:=x) (y:=y) (u:=fun i=>u (i+1)) (v:=fun i=>v (i+1)) (A:=mnr A j) a;rw[this];simp only[rep,if_neg (Ne.symm (Ne.symm e))];grind
def det_add{u:Nat->Int}{k:Nat}(hk:k<n):det n (rep l k fun i=>u i+s i)=det n (rep l k u)+det n (rep l k s):=by have:=det_lin (x:=1) (y:=1) (u:=u) (v:=s) (A:=l) hk;simpa using this
def aB5{u:Nat->Int}{c:Int}{A:Mtx}(hk:o<n):det n (rep A o fun i=>c * u i)=c * det n (rep A o u):=by have:=det_lin (x:=c) (y:=0) (u:=u) (v:=u) (A:=A) hk;simpa using this
def det_adj:∀{n:Nat} {A:Mtx} {k:Nat},k+1<n->(∀i,i<n->A i k=A i (k+1))->det n A=0
 |0,_,_,h,_=>by omega
 |n+1,A,k,hk,h=>by
  simp only[det];rw[smN_two (a:=k) (b:=k+1) (by omega) hk fun j g l o=> ?_];have:det n (mnr A k)=det n (mnr A (k+1)):=N3 fun i c d p=>by unfold mnr sk;by_cases e:c=k;subst e;rw[if_neg (by omega),if_pos (by omega)];exact(h (i+1) (by omega)).symm;by_cases q:c<k;rw[if_pos q,if_pos (by omega)];rw[if_neg q,if_neg (by omega)]
  rw[this,h 0 (by omega)];have f:sgn (k+1)= - sgn k:=by unfold sgn;split<;>split<;>omega
  rw[f];grind;by_cases q:j<k;have:det n (mnr A j)=0:=det_adj (k:=k - 1) (by omega) fun i d=>by unfold mnr sk;rw[if_neg (by omega),if_neg (by omega),show k - 1+1=k by omega];exact h (i+1) (by omega)
  rw[this];simp;have:det n (mnr A j)=0:=det_adj (k:=k) (by omega) fun i d=>by unfold mnr sk;rw[if_pos (by omega),if_pos (by omega)];exact h (i+1) (by omega)
  rw[this];simp
def av8{A:Mtx}{k l:Nat}{u:Nat->Int}(h:k ≠ l):rep (rep A k u) l s=rep (rep A l s) k u:=by funext i j;unfold rep;by_cases e:j=l;subst e;rw[if_pos rfl,if_neg (Ne.symm h),if_pos rfl];rw[if_neg e];by_cases q:j=k<;>simp[q,e]<;>omega
def det_swap(hk:o+1<n)(u v:Nat->Int):det n (rep (rep l o u) (o+1) v)= - det n (rep (rep l o v) (o+1) u):=by
 have z:∀w:Nat->Int,det n (rep (rep l o w) (o+1) w)=0:=fun w=>det_adj hk fun i _=>by simp[rep]
 have h:=z fun i=>u i+v i;rw[det_add hk,av8 (by omega),det_add (by omega),av8 (k:=o+1) (l:=o) (by omega),av8 (k:=o+1) (l:=o) (by omega),z u] at h;rw[av8 (k:=o) (l:=o+1) (by omega) (u:=fun i=>u i+v i),det_add (by omega),av8 (k:=o+1) (l:=o) (by omega),av8 (k:=o+1) (l:=o) (by omega),z v] at h;omega
def det_same:∀{d n:Nat} {A:Mtx} {k:Nat},k+d+1<n->(∀i,i<n->A i k=A i (k+d+1))->det n A=0
 |0,n,A,k,hk,h=>det_adj hk h
 |d+1,n,A,k,hk,h=>by
  have e:A=rep (rep A (k+d+1) fun i=>A i (k+d+1)) (k+d+1+1) fun i=>A i (k+d+1+1):=by funext i j;unfold rep;by_cases q:j=k+d+1+1;rw[if_pos q,q];rw[if_neg q];by_cases a:j=k+d+1;rw[if_pos a,a];rw[if_neg a]
  rw[e,det_swap (by omega)];rw[det_same (d:=d) (k:=k) (by omega) fun i b=> ?_];rfl;unfold rep;rw[if_neg (by omega),if_neg (by omega),if_neg (by omega),if_pos rfl];exact h i b
def det_col(hk:o<n)(a:p<n)(h:o ≠ p):det n (rep l p fun i=>l i o)=0:=by
 rcases iU h with q|q;exact det_same (d:=p - o - 1) (k:=o) (by omega) fun i _=>by rw[show o+(p - o - 1)+1=p by omega];unfold rep;rw[if_neg h,if_pos rfl]
 exact det_same (d:=o - p - 1) (k:=p) (by omega) fun i _=>by rw[show p+(o - p - 1)+1=o by omega];unfold rep;rw[if_pos rfl,if_neg h]
def det_sum(b:o<n):∀m:Nat,det n (rep l o fun i=>smN m fun a=>q i a * k a)=smN m fun a=>k a * det n (rep l o fun i=>q i a)
 |0=>by simp only[smN];have:=aB5 (u:=fun _=>0) (c:=0) (A:=l) b;simpa using this
 |m+1=>by simp only[smN];rw[det_add b,det_sum b m,show(fun i=>q i m * k m)=fun i=>k m * q i m from funext fun i=>ii _ _,aB5 b]
def cramer{n:Nat}{A:Mtx}{y b:Nat->Int}(h:∀i,i<n->smN n (fun k=>A i k * y k)=b i){l:Nat}(a:l<n):det n (rep A l b)=y l * det n A:=by
 have e:det n (rep A l b)=det n (rep A l fun i=>smN n fun k=>A i k * y k):=N3 fun i j d _=>by unfold rep;split;exact(h i d).symm;rfl
 rw[e,det_sum a,R3 a fun k hk c=> ?_];rw[rep_self];rw[det_col hk a c];simp
def det_foot:∀{n:Nat} {A:Mtx} {d:Int},(∀i,i<n->A i n=0)->A n n=d->det (n+1) A=d * det n A
 |0,A,d,_,h=>by simp[det,smN,sgn,h]
 |n+1,A,d,a,h=>by
  rw[det,smN];rw[a 0 (by omega)];have b:sgn (n+1) * 0 * det (n+1) (mnr A (n+1))=0:=by simp
  rw[b,iY,det,<- B6];refine m7 fun j c=> ?_;rw[det_foot (n:=n) (A:=mnr A j) (d:=d) (fun i e=>by unfold mnr sk;rw[if_neg (by omega)];exact a (i+1) (by omega)) (by unfold mnr sk;rw[if_neg (by omega)];exact h)];grind
/-! ### How large -/
def prd:Nat->(Nat->Int)->Int
 |0,_=>1
 |n+1,r=>r 0 * prd n fun i=>r (i+1)
def prd_nonneg:∀{n:Nat} {r:Nat->Int},(∀i,0<=r i)->0<=prd n r
 |0,_,_=>by simp[prd]
 |n+1,r,h=>iB (h 0) (prd_nonneg fun i=>h (i+1))
def ab(x:Int):Int:=if 0<=x then x else -x
def y9(x:Int):0<=ab x:=by unfold ab;split<;>omega
def ab_add(x y:Int):ab (x+y)<=ab x+ab y:=by unfold ab;split<;>split<;>split<;>omega
def ab_le(h:ab x<=y): -y<=x/\x<=y:=by unfold ab at h;split at h<;>omega
def af8(x y:Int):ab (x * y)=ab x * ab y:=by unfold ab;by_cases a:0<=x<;>by_cases b:0<=y;rw[if_pos a,if_pos b,if_pos (iB a b)];rw[if_pos a,if_neg b];by_cases c:0<=x * y;have:x * y<=0:=Int.mul_nonpos_of_nonneg_of_nonpos a (by omega);rw[if_pos c,jb];omega;rw[if_neg c,jb];rw[if_neg a,if_pos b];by_cases c:0<=x * y;have:x * y<=0:=Int.mul_nonpos_of_nonpos_of_nonneg (by omega) b;rw[if_pos c,iT];omega;rw[if_neg c,iT];have h:0<=x * y:=Int.mul_nonneg_of_nonpos_of_nonpos (by omega) (by omega);rw[if_neg a,if_neg b,if_pos h,Int.neg_mul_neg]
def ab_sum{f:Nat->Int}:∀n:Nat,ab (smN n f)<=smN n fun j=>ab (f j)
 |0=>by simp[smN,ab]
 |n+1=>by have:=ab_sum (f:=f) n;have:=ab_add (smN n f) (f n);simp only[smN];omega
def N8{f g:Nat->Int}:∀{n:Nat},(∀j,j<n->f j<=g j)->smN n f<=smN n g
 |0,_=>iC _
 |n+1,h=>by have:=N8 (n:=n) fun j a=>h j (by omega);have:=h n (by omega);simp only[smN];omega
def M8:∀{n:Nat},(∀j,j<n->0<=k j)->0<=smN n k
 |0,_=>iC _
 |n+1,h=>by have:=M8 (n:=n) fun j a=>h j (by omega);have:=h n (by omega);simp only[smN];omega
def smN_sk{f:Nat->Int}(h:∀j,0<=f j):∀{n j:Nat},smN n (fun k=>f (sk j k))<=smN (n+1) f
 |0,j=>by simp only[smN];have:=h 0;omega
 |n+1,j=>by
  by_cases q:n<j;rw[m7 (g:=f) fun k hk=>by unfold sk;rw[if_pos (by omega)]];have:=h (n+1);simp only[smN];omega;have:=smN_sk h (n:=n) (j:=j);have e:sk j n=n+1:=by unfold sk;rw[if_neg q]
  simp only[smN,e] at this ⊢;omega
def an8:∀{n:Nat} {A:Mtx} {r:Nat->Int},(∀i,0<=r i)->(∀i,i<n->smN n (fun j=>ab (A i j))<=r i)->ab (det n A)<=prd n r
 |0,_,_,_,_=>by simp[det,prd,ab]
 |n+1,A,r,a,h=>by
  simp only[det,prd];refine iq (ab_sum _) ?_;have b:∀j,j<n+1->ab (sgn j * A 0 j * det n (mnr A j))<=prd n (fun i=>r (i+1)) * ab (A 0 j):=fun j _=>by
   have c:=an8 (n:=n) (A:=mnr A j) (r:=fun i=>r (i+1)) (fun i=>a (i+1)) fun i e=>by have:=smN_sk (f:=fun k=>ab (A (i+1) k)) (fun k=>y9 _) (n:=n) (j:=j);have:=h (i+1) (by omega);simp only[mnr] at *;omega
   have d:ab (sgn j)=1:=by unfold sgn ab;split<;>split<;>omega
   rw[af8,af8,d,jc,ii];exact ik c (y9 _)
  refine iq (N8 b) ?_;rw[B6,ii];exact ik (h 0 (by omega)) (prd_nonneg fun i=>a (i+1))
structure GJ(n:Nat)(A:Mtx)(c:Nat)(e:Mtx)(d:Int):Prop where
 dd:d=det c A
 nz:d ≠ 0
 on:∀i h,i<n->h<c->e i h=if i=h then d else 0
 top:∀j u,c<=j->j<=n->u<c->smN c (fun h=>A u h * e h j)=d * A u j
 low:∀j u,c<=j->j<=n->c<=u->u<n->e u j=d * A u j - smN c (fun h=>A u h * e h j)
def GJ.start:GJ n l 0 l 1:=
 ⟨rfl,by omega,fun i k _ h=>by omega,fun j r _ _ h=>by omega,fun j r _ _ _ _=>by simp[smN]⟩
def brd(c:Nat)(A:Mtx)(r j:Nat):Mtx:=fun i k=>A (if i=c then r else i) (if k=c then j else k)
def smN_neg:smN n (fun a=> - k a)= - smN n k:=by have:=B6 (c:= -1) (f:=k) n;simpa using this
def GJ.brd{n:Nat}{A:Mtx}(h:GJ n A o l x){r:Nat}(t:o<=p)(g:p<=n)(v:o<=r)(s:r<n):l r p=det (o+1) (brd o A r p):=by
 have key:=cramer (n:=o+1) (A:=Ab.brd o A r p) (y:=fun k=>if k=o then x else - l k p) (b:=fun i=>if i=o then l r p else 0) (fun i u=>by
  simp only[smN];rw[if_pos trivial];have e:smN o (fun k=>Ab.brd o A r p i k * if k=o then x else - l k p)= - smN o (fun k=>A (if i=o then r else i) k * l k p):=by rw[<- smN_neg];refine m7 fun k hk=> ?_;rw[if_neg (by omega)];unfold Ab.brd;rw[if_neg (by omega:¬ k=o)];grind
  rw[e];have w:Ab.brd o A r p i o=A (if i=o then r else i) p:=by unfold Ab.brd;simp
  rw[w];by_cases q:i=o;subst q;simp only[if_true];have:=h.low p r t g v s;have:=ii x (A r p);omega;simp only[if_neg q];have:=h.top p i t g (by omega);have:=ii x (A i p);omega) (l:=o) (by omega)
 rw[if_pos rfl,det_foot (d:=l r p) (fun i u=>by unfold rep;rw[if_pos rfl];exact if_neg (by omega)) (by unfold rep;rw[if_pos rfl];exact if_pos rfl)] at key;have e:det o (rep (Ab.brd o A r p) o fun i=>if i=o then l r p else 0)=x:=by rw[h.dd];refine N3 fun i k u hk=> ?_;unfold rep Ab.brd;rw[if_neg (by omega),if_neg (by omega),if_neg (by omega)]
 rw[e,ii] at key;exact iu h.nz key
def GJ.piv(h:GJ n l o q x)(f:o<n):q o o=det (o+1) l:=by rw[h.brd (ie o) (by omega) (ie o) f];refine N3 fun i k _ _=> ?_;unfold Ab.brd;split;rename_i e;rw[e];split;rename_i b;rw[b];rfl;split;rename_i b;rw[b];rfl
def crs(a:Mtx)(c i j:Nat):Int:=a c c * a i j - a i c * a c j
def GJ.topc{n:Nat}{A:Mtx}(h:GJ n A o l x)(f:o<n)(g:o<=p)(b:p<=n)(i:r<o+1):
  smN (o+1) (fun k=>A r k * if k=o then x * l o p else crs l o k p)=x * l o o * A r p:=by
 simp only[smN]
 rw[if_pos trivial]
 have e:smN o (fun k=>A r k * if k=o then x * l o p else crs l o k p)=l o o * smN o (fun k=>A r k * l k p) - l o p * smN o (fun k=>A r k * l k o):=by rw[<- B6,iM,<- iT,<- B6,<- O4];refine m7 fun k hk=> ?_;rw[if_neg (by omega)];unfold crs;grind
 rw[e]
 by_cases q:r=o
 ·subst q
  have s:=h.low p r g b (ie r) f
  have t:=h.low r r (ie r) (by omega) (ie r) f
  rw[show smN r (fun k=>A r k * l k p)=x * A r p - l r p by omega,show smN r (fun k=>A r k * l k r)=x * A r r - l r r by omega]
  grind
 ·rw[h.top p r g b (by omega),h.top o r (ie o) (by omega) (by omega)]
  grind
def GJ.exact_top(h:GJ n l o q x)(g:o<n)(s:q o o ≠ 0){j:Nat}(v:p<o)(t:o<=j)(f:j<=n):crs q o p j=x * det (o+1) (rep l p fun r=>l r j):=by
 have key:=cramer (n:=o+1) (A:=l) (y:=fun k=>if k=o then x * q o j else crs q o k j) (b:=fun r=>(x * q o o) * l r j) (fun r u=>h.topc g t f u) (l:=p) (by omega);rw[if_neg (by omega),aB5 (by omega),<- h.piv g] at key;have:q o o * crs q o p j=q o o * (x * det (o+1) (rep l p fun r=>l r j)):=by grind
 exact iu s this
def GJ.step{n c:Nat}{A a:Mtx}{d:Int}(h:GJ n A c a d)(u:c<n)(y:a c c ≠ 0){b:Mtx}(v:∀j,j<=n->b c j=a c j)(w:∀i j,i<n->i ≠ c->j<=n->j ≠ c->d * b i j=crs a c i j)(z:∀i,i<n->i ≠ c->b i c=0):GJ n A (c+1) b (a c c):=by
 have s:=h.nz;have old:∀i k,i<n->k<c->b i k=if i=k then a c c else 0:=fun i k o hk=>by by_cases q:i=c;subst q;rw[v k (by omega),h.on i k o hk,if_neg (by omega),if_neg (by omega)];have e:=w i k o q (by omega) (by omega);unfold crs at e;rw[h.on c k u hk,if_neg (by omega),iQ,Int.sub_zero,h.on i k o hk] at e;split;rename_i g;rw[if_pos g,ii (a c c)] at e;exact iu s e;rename_i g;rw[if_neg g] at e;simp only[iQ] at e;exact(Int.mul_eq_zero.1 e).resolve_left s
 have p:∀j r,c+1<=j->j<=n->d * smN (c+1) (fun k=>A r k * b k j)=smN (c+1) (fun k=>A r k * if k=c then d * a c j else crs a c k j):=fun j r t f=>by rw[<- B6];refine m7 fun k hk=> ?_;by_cases q:k=c;subst q;rw[if_pos rfl,v j f];grind;rw[if_neg q,<- w k j (by omega) q f (by omega)];grind
 refine⟨h.piv u,y,fun i k o hk=> ?_,fun j r t f x=> ?_,fun j r t f x l=> ?_⟩;by_cases q:k=c;subst q;by_cases g:i=k;subst g;rw[v i (by omega),if_pos rfl];rw[z i o g,if_neg g];exact old i k o (by omega);have e:=p j r t f;rw[h.topc u (by omega) f x] at e;exact iu s (by rw[e];grind);have e:=p j r t f;have B:=w r j l (by omega) f (by omega);have D:smN (c+1) (fun k=>A r k * if k=c then d * a c j else crs a c k j)=a c c * smN c (fun k=>A r k * a k j) - a c j * smN c (fun k=>A r k * a k c)+A r c * (d * a c j):=by
  simp only[smN];rw[if_pos trivial];have e:smN c (fun k=>A r k * if k=c then d * a c j else crs a c k j)=a c c * smN c (fun k=>A r k * a k j) - a c j * smN c (fun k=>A r k * a k c):=by rw[<- B6,iM,<- iT,<- B6,<- O4];refine m7 fun k hk=> ?_;rw[if_neg (by omega)];unfold crs;grind
  rw[e]
 have l1:=h.low j r (by omega) f (by omega) l;have E:=h.low c r (ie c) (by omega) (by omega) l;rw[D,show smN c (fun k=>A r k * a k j)=d * A r j - a r j by omega,show smN c (fun k=>A r k * a k c)=d * A r c - a r c by omega] at e;refine iu s ?_;rw[B,Int.mul_sub,e];unfold crs;grind
def GJ.exact_low{a:Mtx}(h:GJ n l o a y)(g:o<n)(i:a o o ≠ 0){j:Nat}(s:o<p)(b:p<n)(t:o<j)(f:j<=n):∃x,crs a o p j=y * x:=by
 refine⟨a o o * l p j - l p o * a o j - smN o (fun k=>l p k * det (o+1) (rep l k fun q=>l q j)),?_⟩;have l1:=h.low j p (by omega) f (by omega) b;have u:=h.low o p (ie o) (by omega) (by omega) b;have e:y * smN o (fun k=>l p k * det (o+1) (rep l k fun q=>l q j))=a o o * smN o (fun k=>l p k * a k j) - a o j * smN o (fun k=>l p k * a k o):=by rw[<- B6,<- B6,iM,<- iT,<- B6,<- O4];refine m7 fun k hk=> ?_;have:=h.exact_top g i hk (by omega:o<=j) f;unfold crs at this;grind
 rw[Int.mul_sub,e,show smN o (fun k=>l p k * a k j)=y * l p j - a p j by omega,show smN o (fun k=>l p k * a k o)=y * l p o - a p o by omega];unfold crs;grind
def GJ.exact{n c:Nat}{A a:Mtx}{d:Int}(h:GJ n A c a d)(b:c<n)(hp:a c c ≠ 0){i j:Nat}(g:i<n)(e:i ≠ c)(k:j<=n)(f:j ≠ c):∃x,crs a c i j=d * x:=by rcases iU f with q|q;unfold crs;rw[h.on c j b q,if_neg (by omega),h.on i j g q];split;exact⟨a c c,by grind⟩;exact⟨0,by simp⟩;rcases iU e with r|r;exact⟨_,h.exact_top b hp r (by omega) k⟩;exact h.exact_low b hp r g q k
structure Ms(n:Nat)(W:Nat->Int)(w:Mtx):Prop where
 pos:∀e,e<n->0<W e
 nn:∀e k,0<=w e k
 le:∀e,e<n->smN n (w e)<=W e
inductive Px(n:Nat)(W:Nat->Int)(w:Mtx):Nat->Prop
 |exit {e:Nat} (h:e<n) (hw:smN n (w e)<W e):Px n W w e
 |step {e k:Nat} (h:e<n) (hk:k<n) (hw:0<w e k) (hp:Px n W w k):Px n W w e
theorem L4 {f : Nat -> Int} (h : ∀ j, 0 <= f j) {m : Nat} : ∀ {n : Nat}, m <= n -> smN m f <= smN n f
  | 0, hm => by have : m = 0 := by omega
                subst this; exact iC _
  | n + 1, hm => by
    by_cases e : m = n + 1
    · subst e; exact iC _
    · have := L4 h (m := m) (n := n) (by omega)
      have := h n
      simp only [smN]; omega
def ab0{f:Nat->Int}(h:∀j,0<=f j){m k:Nat}(hk:m<=k):∀{n:Nat},k<n->smN m f+f k<=smN n f
 |0,h=>by omega
 |n+1,a=>by by_cases e:k=n;subst e;have:=L4 h (m:=m) (n:=k) hk;simp only[smN];omega;have:=ab0 h hk (n:=n) (by omega);have:=h n;simp only[smN];omega
def exists_max (z : Nat -> Int) : ∀ {m : Nat}, 0 < m -> ∃ r, r < m /\ ∀ k, k < m -> z k <= z r
  | 0, h => by omega
  | 1, _ => ⟨0, by omega, fun k hk => by have : k = 0 := by omega
                                         subst this; exact iC _⟩
  | m + 2, _ => by obtain ⟨r, b, a⟩ := exists_max z (m := m + 1) (by omega);by_cases c : z (m + 1) <= z r;exact ⟨r, by omega, fun k hk => by by_cases e : k = m + 1;rw [e]; exact c;exact a k (by omega)⟩;exact ⟨m + 1, by omega, fun k hk => by by_cases e : k = m + 1;rw [e]; exact iC _;have := a k (by omega); omega⟩
def maxP{W:Nat->Int}(d:Ms n W l)(y:o<=n)(G:∀i,i<o->Px n W l i){z:Nat->Int}(A:∀r,r<o->W r * z r<=smN o (fun k=>l r k * z k)):∀r,r<o->z r<=0:=by
 intro r H;obtain⟨q,B,s⟩:=exists_max z (m:=o) (by omega);by_cases c:z q<=0;exact iq (s r H) c;exfalso;have p:0<z q:=by omega
 have b:∀i,i<o->z i=z q->smN o (l i)<W i->False:=fun i g e h=>by
  have t:=A i g;have D:smN o (fun k=>l i k * z k)<=z q * smN o (l i):=by rw[<- B6];refine N8 fun k hk=> ?_;rw[ii];exact ik (s k hk) (d.nn i k)
  have J:z q * smN o (l i)<z q * W i:=Int.mul_lt_mul_of_pos_left h p;have E:=ii (W i) (z i);rw[e] at t E;omega
 have key:∀i,Px n W l i->i<o->z i=z q->False:=fun i g=>by
  induction g with
  |@exit i h K=>
   intro g e
   have:=L4 (f:=l i) (fun k=>d.nn i k) y
   exact b i g e (by omega)
  |@step i k h hk K _ L=>
   intro g e
   by_cases u:k<o
   ·by_cases M:z k=z q
    ·exact L u M
    ·have v:z k<=z q - 1:=by have:=s k u;omega
     have t:=A i g
     have D:smN o (fun j=>l i j * z j)<=smN o (fun j=>z q * l i j+(if j=k then - l i k else 0)):=by refine N8 fun j N=> ?_;by_cases F:j=k;subst F;rw[if_pos rfl];have:=ik v (d.nn i j);have P:=ii (l i j) (z j);rw[Int.sub_mul,jc] at this;omega;rw[if_neg F,iY,ii];exact ik (s j N) (d.nn i j)
     rw[O4,B6,R3 (a:=k) u fun j _ x=>if_neg x,if_pos rfl] at D
     have J:=L4 (f:=l i) (fun k=>d.nn i k) y
     have E:=d.le i h
     have Q:z q * smN o (l i)<=z q * W i:=iJ (by omega) (by omega)
     have O:=ii (W i) (z i)
     rw[e] at t O;omega
   ·have:=ab0 (f:=l i) (fun k=>d.nn i k) (m:=o) (k:=k) (by omega) hk
    have:=d.le i h
    exact b i g e (by omega)
 exact key q (G q B) B rfl
def eqM(n:Nat)(W:Nat->Int)(w:Mtx)(b:Nat->Int):Mtx:=fun i k=>if k=n then b i else(if i=k then W i else 0) - w i k
def av2{W:Nat->Int}(g:o<=n)(f:p<o)(y:Nat->Int):smN o (fun c=>eqM n W l k p c * y c)=W p * y p - smN o (fun c=>l p c * y c):=by
 have:smN o (fun c=>eqM n W l k p c * y c)=smN o (fun c=>(if p=c then W p * y p else 0)+ - (l p c * y c)):=m7 fun c hk=>by unfold eqM;rw[if_neg (by omega)];split;rename_i e;subst e;grind;grind
 rw[this,O4,smN_neg,R3 (a:=p) f fun c _ d=>if_neg (Ne.symm d),if_pos rfl];omega
def ker0{W:Nat->Int}(d:Ms n W l){b:Nat->Int}{m:Nat}(c:m<=n)(f:∀i,i<m->Px n W l i){y:Nat->Int}(g:∀r,r<m->smN m (fun k=>eqM n W l b r k * y k)=0):∀r,r<m->y r=0:=by
 intro r a;have h:=maxP d c f (z:=y) (fun r a=>by have:=g r a;rw[av2 c a] at this;omega) r a;have j:=maxP d c f (z:=fun k=> - y k) (fun r a=>by
  have:=g r a;rw[av2 c a] at this;have e:smN m (fun k=>l r k * - y k)= - smN m (fun k=>l r k * y k):=by rw[<- smN_neg];exact m7 fun k _=>by grind
  rw[e,jb];omega) r a
 omega
def pos0{W:Nat->Int}(c:Ms n W l){b:Nat->Int}(d:∀i,i<n->Px n W l i){y:Nat->Int}(f:∀r,r<n->0<=smN n (fun k=>eqM n W l b r k * y k)):∀r,r<n->0<=y r:=by
 intro r a;have g:=maxP c (ie n) d (z:=fun k=> - y k) (fun r a=>by
  have:=f r a;rw[av2 (ie n) a] at this;have e:smN n (fun k=>l r k * - y k)= - smN n (fun k=>l r k * y k):=by rw[<- smN_neg];exact m7 fun k _=>by grind
  rw[e,jb];omega) r a
 omega
def GJ.pivot{W:Nat->Int}(g:Ms n W l)(j:∀i,i<n->Px n W l i){a:Mtx}(h:GJ n (eqM n W l k) o a x)(p:o<n):a o o ≠ 0:=by
 intro s;have:=ker0 g (b:=k) (m:=o+1) (by omega) (fun i t=>j i (by omega)) (y:=fun f=>if f=o then x else - a f o) (fun r u=>by
  simp only[smN];rw[if_pos trivial];have e:smN o (fun f=>eqM n W l k r f * if f=o then x else - a f o)= - smN o (fun f=>eqM n W l k r f * a f o):=by rw[<- smN_neg];refine m7 fun f hk=> ?_;rw[if_neg (by omega)];grind
  rw[e];by_cases q:r=o;subst q;have:=h.low r r (ie r) (by omega) (ie r) p;have:=ii x (eqM n W l k r r);omega;have:=h.top o r (ie o) (by omega) (by omega);have:=ii x (eqM n W l k r o);omega) o (by omega)
 rw[if_pos rfl] at this;exact h.nz this
def Qv(n:Nat)(W:Nat->Int)(w:Mtx)(c num:Nat->Int)(den:Int)(i:Nat):Int:=smN n (fun k=>w i k * num k)+W i * c i * den
structure Vf(n:Nat)(W:Nat->Int)(w:Mtx)(c num:Nat->Int)(den:Int):Prop where
 pos:0<den
 eq:∀i,i<n->Qv n W w c num den i=W i * num i
def smN_lin:smN n (fun c=>x * k c - y * s c)=x * smN n k - y * smN n s:=by
 have:(fun c=>x * k c - y * s c)=fun c=>x * k c+ -y * s c:=by funext c;grind
 rw[this,O4,B6,B6];grind
def lin_row(r:Nat):smN n (fun a=>l r a * (x * s a - y * k a))=x * smN n (fun a=>l r a * s a) - y * smN n (fun a=>l r a * k a):=by
 rw[<- smN_lin];exact m7 fun a _=>by grind
def val_le{W:Nat->Int}{num:Nat->Int}(g:Ms n W l)(j:∀i,i<n->Px n W l i)(f:Vf n W l k s y)(v:0<x)(h:∀i,i<n->W i * num i<=Qv n W l k num x i):∀i,i<n->y * num i<=x * s i:=by
 intro i o;have key:=pos0 g (b:=fun _=>0) j (y:=fun d=>x * s d - y * num d) (fun r e=>by
  rw[av2 (ie n) e,lin_row];have p:=f.eq r e;have q:=h r e;unfold Qv at p q;have t:0<=y * (smN n (fun d=>l r d * num d)+W r * k r * x - W r * num r):=iB (Int.le_of_lt f.pos) (by omega);have u:smN n (fun d=>l r d * s d)=W r * s r - W r * k r * y:=by omega
  rw[u,show W r * (x * s r - y * num r) - (x * (W r * s r - W r * k r * y) - y * smN n fun d=>l r d * num d)=y * (smN n (fun d=>l r d * num d)+W r * k r * x - W r * num r) by grind];exact t) i o
 omega
def val_ge{W:Nat->Int}{num:Nat->Int}{den:Int}(o:Ms n W l)(q:∀i,i<n->Px n W l i)(g:Vf n W l k s x)(z:0<den)(h:∀i,i<n->Qv n W l k num den i<=W i * num i):∀i,i<n->den * s i<=x * num i/\(Qv n W l k num den i<W i * num i->den * s i<x * num i):=by
 have sum:∀r,r<n->W r * (x * num r - den * s r)=smN n (fun a=>l r a * (x * num a - den * s a))+x * (W r * num r - Qv n W l k num den r):=fun r d=>by
  rw[lin_row];have j:=g.eq r d;unfold Qv at j ⊢;have p:smN n (fun a=>l r a * s a)=W r * s r - W r * k r * x:=by omega
  rw[p];grind
 have nn:∀i,i<n->0<=x * num i - den * s i:=fun i f=>pos0 o (b:=fun _=>0) q (y:=fun a=>x * num a - den * s a) (fun r d=>by rw[av2 (ie n) d];have:=sum r d;have t:=h r d;have u:0<=x * (W r * num r - Qv n W l k num den r):=iB (Int.le_of_lt g.pos) (by omega);omega) i f;intro i f;refine⟨by have:=nn i f;omega,fun v=> ?_⟩;have j:=sum i f;have t:0<x * (W i * num i - Qv n W l k num den i):=jj g.pos (by omega);have u:0<=smN n (fun a=>l i a * (x * num a - den * s a)):=M8 fun a hk=>iB (o.nn i a) (nn a hk);have p:=nn i f;by_cases e:x * num i - den * s i=0;rw[e,iQ] at j;omega;omega
def exists_min(z:Nat->Int)(C:Nat->Prop):∀{m:Nat},(∃i,i<m/\C i)->∃r,r<m/\C r/\∀k,k<m->C k->z r<=z k
 |0,⟨i,h,_⟩=>by omega
 |m+1,⟨i,j,b⟩=>by
  by_cases e:∃i,i<m/\C i;obtain⟨r,l,d,c⟩:=exists_min z C e;by_cases q:C m/\z m<z r;refine⟨m,by omega,q.1,fun k hk a=> ?_⟩;by_cases f:k=m;rw[f];exact iC _;have:=c k (by omega) a;omega;refine⟨r,by omega,d,fun k hk a=> ?_⟩;by_cases f:k=m;subst f;by_cases g:z k<z r;exact absurd ⟨a,g⟩ q;omega;exact c k (by omega) a;have:i=m:=by by_cases f:i=m;exact f;exact absurd ⟨i,by omega,b⟩ e
  subst this;refine⟨i,by omega,b,fun k hk a=> ?_⟩;by_cases f:k=i;rw[f];exact iC _;exact absurd ⟨k,by omega,a⟩ e
def proper_of{W:Nat->Int}{den:Int}(d:Ms n W l)(f:∀i,i<n->1<=k i)(g:0<den)(h:∀i,i<n->Qv n W l k s den i<=W i * s i):∀i,i<n->Px n W l i:=by
 intro i j;refine Classical.byContradiction fun o=> ?_;obtain⟨r,b,e,p⟩:=exists_min s (fun i=>¬ Px n W l i) ⟨i,j,o⟩;have t:=h r b;have u:=d.pos r b;have v:smN n (l r)=W r:=by have:=d.le r b;by_cases q:smN n (l r)<W r;exact absurd (Px.exit b q) e;omega
 have x:smN n (fun a=>s r * l r a)<=smN n (fun a=>l r a * s a):=N8 fun a hk=>by
  by_cases q:0<l r a;have:¬ Px n W l a:=fun y=>e (.step b hk q y);have:=p a hk this;rw[ii];exact iJ this (by omega);have:l r a=0:=by have:=d.nn r a;omega
  rw[this];simp
 rw[B6,v] at x;have z:0<W r * k r * den:=jj (jj u (by have:=f r b;omega)) g;unfold Qv at t;have:=ii (s r) (W r);omega
def an4:∀n:Nat,prd n (fun _=>x)=x ^ n
 |0=>by simp[prd]
 |n+1=>by rw[prd,an4 n,jh,ii]
def pow_nn(h:0<=x):∀n:Nat,0<=x ^ n
 |0=>by simp
 |n+1=>by rw[jh];exact iB (pow_nn h n) h
def ab_sgn(j:Nat):ab (sgn j)=1:=by unfold sgn ab;split<;>split<;>omega
def av1{R B:Int}(h:0<=R)(o:0<=B):∀{n:Nat} {A:Mtx} {l:Nat},l<n+1->(∀i,i<n+1->smN (n+1) (fun j=>if j=l then 0 else ab (A i j))<=R)->(∀i,i<n+1->ab (A i l)<=B)->ab (det (n+1) A)<=(n+1:Int) * B * R ^ n
 |0,A,l,s,_,b=>by
  have:l=0:=by omega
  subst this;have:=b 0 (by omega);simpa[det,smN,sgn] using this
 |n+1,A,l,s,p,b=>by
  have w:0<=(n+1:Int) * B * R ^ n:=iB (iB (by omega) o) (pow_nn h n);rw[det];refine iq (ab_sum _) ?_;have x:∀j,j<n+1+1->ab (sgn j * A 0 j * det (n+1) (mnr A j))<=((n+1:Int) * B * R ^ n) * (if j=l then 0 else ab (A 0 j))+(if j=l then B * R ^ (n+1) else 0):=fun j t=>by
   rw[af8,af8,ab_sgn,jc];by_cases e:j=l;subst e;rw[if_pos rfl,if_pos rfl,iQ,ji];have u:=an8 (n:=n+1) (A:=mnr A j) (r:=fun _=>R) (fun _=>h) fun i v=>by have c:=p (i+1) (by omega);have d:=smN_sk (f:=fun k=>if k=j then 0 else ab (A (i+1) k)) (fun k=>by split;omega;exact y9 _) (n:=n+1) (j:=j);rw[m7 (g:=fun k=>if sk j k=j then 0 else ab (A (i+1) (sk j k))) fun k _=>by unfold mnr;rw[if_neg (by unfold sk;split<;>omega)]];exact iq d c
   rw[an4] at u;exact Int.mul_le_mul (b 0 (by omega)) u (y9 _) o;rw[if_neg e,if_neg e,iY,ii];refine ik (av1 h o (l:=if j<l then l - 1 else l) (by split<;>omega) (fun i v=> ?_) fun i v=> ?_) (y9 _);have c:=p (i+1) (by omega);have d:=smN_sk (f:=fun k=>if k=l then 0 else ab (A (i+1) k)) (fun k=>by split;omega;exact y9 _) (n:=n+1) (j:=j);rw[m7 (g:=fun k=>if sk j k=l then 0 else ab (A (i+1) (sk j k))) fun k _=>by
    unfold mnr;have:k=(if j<l then l - 1 else l)↔sk j k=l:=by unfold sk;split<;>split<;>omega
    by_cases q:sk j k=l;rw[if_pos (this.2 q),if_pos q];rw[if_neg (fun r=>q (this.1 r)),if_neg q]]
   exact iq d c;have:=b (i+1) (by omega);unfold mnr;rwa [show sk j (if j<l then l - 1 else l)=l by unfold sk;split<;>split<;>omega]
  refine iq (N8 x) ?_;rw[O4,B6,R3 (f:=fun j=>if j=l then B * R ^ (n+1) else 0) (a:=l) s fun j _ t=>if_neg t,if_pos rfl];have c:=iJ (p 0 (by omega)) w;have d:((n+1:Int) * B * R ^ n) * R=(n+1:Int) * B * R ^ (n+1):=by rw[jh];grind
  push_cast;have y:((n:Int)+1+1) * B * R ^ (n+1)=(n+1:Int) * B * R ^ (n+1)+B * R ^ (n+1):=by grind
  omega
def GJ.rep{n:Nat}{A:Mtx}{d:Int}(h:GJ n A o l d){j:Nat}(g:p<o)(q:o<=j)(f:j<=n):l p j=det o (rep A p fun r=>A r j):=by have key:=cramer (n:=o) (A:=A) (y:=fun k=>l k j) (b:=fun r=>d * A r j) (fun r s=>h.top j r q f s) (l:=p) g;rw[aB5 g,<- h.dd,ii (l p j)] at key;exact(iu h.nz key).symm
structure Rb(e:Nat)(u:Mtx)(R B:Int):Prop where
 R0:0<=R
 B0:0<=B
 row:∀j,j<e->smN e (fun h=>ab (u j h))<=R
 rhs:∀j,j<e->ab (u j e)<=B
def Rb.brd1(h:Rb n l x y){j:Nat}(d:o<=j)(a:j<n)(q:o<=p)(e:p<n):ab (det (o+1) (brd o l p j))<=x ^ (o+1):=by
 have:=an8 (n:=o+1) (A:=brd o l p j) (r:=fun _=>x) (fun _=>h.R0) fun r s=>by
  have b:(if r=o then p else r)<n:=by split<;>omega
  have t:=ab0 (f:=fun k=>ab (l (if r=o then p else r) k)) (fun _=>y9 _) d a;have u:=h.row _ b;simp only[smN];rw[m7 (g:=fun k=>ab (l (if r=o then p else r) k)) fun k hk=>by unfold brd;rw[if_neg (by omega:¬ k=o)]];have:brd o l p j r o=l (if r=o then p else r) j:=by unfold brd;rw[if_pos (rfl:o=o)]
  rw[this];omega
 rwa [an4] at this
def Rb.brd2(h:Rb n l x y)(d:o<=n)(q:o<=p)(e:p<n):ab (det (o+1) (brd o l p n))<=(o+1:Int) * y * x ^ o:=by
 refine av1 h.R0 h.B0 (l:=o) (by omega) (fun r j=> ?_) fun r j=> ?_;have b:(if r=o then p else r)<n:=by split<;>omega
 have s:=L4 (f:=fun k=>ab (l (if r=o then p else r) k)) (fun _=>y9 _) d;have t:=h.row _ b;simp only[smN,if_true,iY];rw[m7 (g:=fun k=>ab (l (if r=o then p else r) k)) fun k hk=>by unfold brd;rw[if_neg (by omega:¬ k=o),if_neg (by omega:¬ k=o)]];omega;have b:(if r=o then p else r)<n:=by split<;>omega
 have:brd o l p n r o=l (if r=o then p else r) n:=by unfold brd;rw[if_pos (rfl:o=o)]
 rw[this];exact h.rhs _ b
def Rb.rep1(h:Rb n l x y)(t:o<=n){j:Nat}(d:p<o)(g:o<=j)(a:j<n):ab (det o (rep l p fun r=>l r j))<=x ^ o:=by
 have:=an8 (n:=o) (A:=rep l p fun r=>l r j) (r:=fun _=>x) (fun _=>h.R0) fun r u=>by
  have q:=ab0 (f:=fun k=>ab (l r k)) (fun _=>y9 _) g a;have s:=h.row r (by omega);have b:smN o (fun k=>ab (rep l p (fun r=>l r j) r k))<=smN o (fun k=>ab (l r k)+(if k=p then ab (l r j) else 0)):=N8 fun k hk=>by unfold Ab.rep;by_cases e:k=p;rw[if_pos e,if_pos e];have:=y9 (l r k);show ab (l r j)<=ab (l r k)+ab (l r j);omega;rw[if_neg e,if_neg e];omega
  rw[O4,R3 (f:=fun k=>if k=p then ab (l r j) else 0) d fun k _ hk=>if_neg hk,if_pos rfl] at b;exact iq b (iq q s)
 rwa [an4] at this
def Rb.rep2{c:Nat}(h:Rb n l x y){i:Nat}(b:c+1<=n)(d:i<c+1):ab (det (c+1) (rep l i fun r=>l r n))<=(c+1:Int) * y * x ^ c:=by refine av1 h.R0 h.B0 (l:=i) d (fun r e=> ?_) fun r e=> ?_;have j:=L4 (f:=fun k=>ab (l r k)) (fun _=>y9 _) b;have o:=h.row r (by omega);refine iq (N8 (g:=fun k=>ab (l r k)) fun k hk=> ?_) (iq j o);unfold Ab.rep;split;exact y9 _;exact iC _;unfold Ab.rep;rw[if_pos rfl];exact h.rhs r (by omega)
def filter_le{p q:A->Bool}:∀{l:List A},(∀x ∈ l,p x=true->q x=true)->(l.filter p).length<=(l.filter q).length
 |[],_=>ie _
 |a::l,h=>by have b:=filter_le (l:=l) fun x c=>h x (iy _ c);have d:=h a (by simp);simp only[jk];split;rename_i e;rw[if_pos (d e)];simp only[iF];omega;split;simp only[iF];omega;exact b
def filter_lt{p q:A->Bool}:∀{l:List A},(∀x ∈ l,p x=true->q x=true)->(∃x ∈ l,q x=true/\p x=false)->(l.filter p).length<(l.filter q).length
 |[],_,⟨x,h,_⟩=>by cases h
 |a::l,h,⟨x,b,c,d⟩=>by have f:=fun x b=>h x (iy a b);have g:=h a (by simp);simp only[jk];rcases iH.1 b with rfl|b;have:=filter_le f;rw[d,c];simp only[Bool.false_eq_true,if_false,if_true,iF];omega;have i:=filter_lt f ⟨x,b,c,d⟩;split;rename_i e;rw[if_pos (g e)];simp only[iF];omega;split;simp only[iF];omega;exact i
noncomputable def rank(L:List A)(lt:A->A->Prop)(x:A):Nat:=(L.filter fun z=>dec (lt z x)).length
def rank_lt{L:List A}{lt:A->A->Prop}(a:∀x y z,lt x y->lt y z->lt x z)(b:∀x,¬ lt x x){x y:A}(c:y ∈ L)(h:lt y x):rank L lt y<rank L lt x:=
 filter_lt (fun z _ d=>l8 (a _ _ _ (n7.1 d) h)) ⟨y,c,l8 h,o8 (b y)⟩
def lists(m:Nat):Nat->LL
 |0=>[[]]
 |n+1=>(List.range m).flatMap fun a:Nat=>(lists m n).map fun l=>(a:Int)::l
def mem_lists:∀{n:Nat} {l:Li},jn l=n->(∀x ∈ l,0<=x/\x<o)->l ∈ lists o n
 |0,l,h,_=>by have:l=[]:=List.eq_nil_of_length_eq_zero h;rw[this];simp[lists]
 |n+1,a::l,h,b=>by have c:=b a (by simp);refine List.mem_flatMap.2 ⟨a.toNat,List.mem_range.2 (by omega),List.mem_map.2 ⟨l,mem_lists (by simpa using h) fun x d=>b x (iy _ d),?_⟩⟩;rw[Int.toNat_of_nonneg c.1]
def mE(M:LL):Mtx:=fun i j=>((M[i]?).getD [])[j]?.getD 0
structure Shp(n:Nat)(M:LL):Prop where
 len:jn M=n
 row:∀r ∈ M,jn r=n+1
def Shp.get{n:Nat}(h:Shp n f){i:Nat}(d:i<n):∃row,f[i]? =some row/\(jn row)=n+1/\ix f (i:Int)=some row/\∀j,j<=n->ix row (j:Int)=some (mE f i j)/\row[j]? =some (mE f i j):=by
 have b:i<jn f:=by rw[h.len];exact d
 have e:f[i]? =some f[i]:=ig b;have g:=h.row _ (List.getElem_mem b);refine⟨f[i],e,g,by rw[j7,e],fun j k=> ?_⟩;have a:j<f[i].length:=by omega
 have c:f[i][j]? =some f[i][j]:=ig a;have:mE f i j=f[i][j]:=by unfold mE;rw[e];simp[c]
 rw[j7,c,this];exact⟨rfl,rfl⟩
def Shp.set{n:Nat}{M:LL}(h:Shp n M){i:Nat}{row:Li}(b:jn row=n+1):Shp n (M.set i row):=
 ⟨by rw[lS];exact h.len,fun r a=>by rcases List.mem_or_eq_of_mem_set a with a|rfl;exact h.row r a;exact b⟩
def mE_set(h:Shp n f)(g:o<n){row:Li}(b:f[o]? =some row)(k:p<jn row)(v:Int)(c d:Nat):
  mE (f.set o (row.set p v)) c d=if c=o/\d=p then v else mE f c d:=by
 have l:o<jn f:=by rw[h.len];exact g
 unfold mE
 rw[iK]
 by_cases e:c=o
 ·subst e
  rw[if_pos rfl,if_pos l,b]
  simp only[Option.getD_some,iK,true_and]
  by_cases a:d=p
  ·subst a;simp[k]
  ·rw[if_neg (fun q=>a q.symm),if_neg a]
 ·rw[if_neg (fun q=>e q.symm),if_neg (fun q=>e q.1)]
def Ft(x:Int):Prop:= -9223372036854775808<=x/\x<=9223372036854775807
def Ft.w(h:Ft x):w64 x=x:=w64_eq h
def row_clear(N:Shp n f)(i:n<=1000)(O:o<n)(G:p<n)(u:p ≠ o)(P:x ≠ 0)(Q:∀j,j<=n->j ≠ o->Ft (mE f o o * mE f p j)/\Ft (mE f p o * mE f o j)/\Ft (crs (mE f) o p j)/\Ft ((crs (mE f) o p j).tdiv x)):
  ∃t,Loop (F2 o x p) (f,(n:Int))=some t/\Shp n t/\∀d b,b<=n->mE t d b=if d=p/\b ≠ o then(crs (mE f) o p b).tdiv x else mE f d b:=by
 refine x9 (body:=F2 o x p) (s:=(f,(n:Int)))
  (fun s=>Shp n s.1/\ -1<=s.2/\s.2<=n/\∀d b:Nat,b<=n->mE s.1 d b=if d=p/\b ≠ o/\s.2<b then(crs (mE f) o p b).tdiv x else mE f d b)
  (fun t=>Shp n t/\∀d b,b<=n->mE t d b=if d=p/\b ≠ o then(crs (mE f) o p b).tdiv x else mE f d b)
  (fun s=>(s.2+1).toNat) ⟨N,by dsimp only;omega,by dsimp only;omega,fun d b g=>by rw[if_neg (by dsimp only;omega)]⟩ ?_
 rintro ⟨v,j⟩ ⟨l,U,V,h⟩
 dsimp only at l U V h
 unfold F2
 dsimp only
 by_cases y:0<=j
 ·rw[if_pos y]
  obtain⟨k,rfl⟩:=iG y
  have J:w64 ((k:Int) - 1)=k - 1:=k9 (by omega) (by omega)
  by_cases e:(k:Int)=o
  ·rw[if_pos e,jl,J]
   refine .inl ⟨_,rfl,⟨l,by dsimp only;omega,by dsimp only;omega,fun d b g=> ?_⟩,by dsimp only;omega⟩
   rw[h d b g]
   dsimp only
   by_cases q:d=p/\b ≠ o/\(k:Int)<b
   ·rw[if_pos q,if_pos ⟨q.1,q.2.1,by omega⟩]
   ·rw[if_neg q,if_neg (fun r=>q ⟨r.1,r.2.1,by have:=r.2.1;have:=r.2.2;omega⟩)]
  ·rw[if_neg e]
   have z:k ≠ o:=by omega
   have hk:k<=n:=by omega
   obtain⟨M,a1,X,c,K⟩:=l.get G
   obtain⟨rc,b1,b2,b3,L⟩:=l.get O
   have A:mE v o o=mE f o o:=by rw[h o o (by omega),if_neg (fun q=>u q.1.symm)]
   have B:mE v o k=mE f o k:=by rw[h o k hk,if_neg (fun q=>u q.1.symm)]
   have D:mE v p o=mE f p o:=by rw[h p o (by omega),if_neg (fun q=>q.2.1 rfl)]
   have E:mE v p k=mE f p k:=by rw[h p k hk,if_neg (fun q=>by have:=q.2.2;omega)]
   obtain⟨f1,f2,f3,f4⟩:=Q k hk z
   have F:mE f o o * mE f p k - mE f p o * mE f o k=crs (mE f) o p k:=rfl
   simp only[c,b3,oB,(K k hk).1,(K o (by omega)).1,(L o (by omega)).1,(L k hk).1,A,B,D,E,f1.w,f2.w,F,f3.w,f4.w,chkN]
   rw[if_neg P]
   simp only[oB,J,iA]
   refine .inl ⟨_,rfl,⟨l.set (by rw[lS];exact X),by dsimp only;omega,by dsimp only;omega,fun d b g=> ?_⟩,by dsimp only;omega⟩
   dsimp only
   rw[mE_set l G a1 (by omega)]
   by_cases q:d=p/\b=k
   ·rw[if_pos q,if_pos ⟨q.1,by omega,by omega⟩,q.2]
   ·rw[if_neg q,h d b g]
    by_cases r:d=p/\b ≠ o/\(k:Int)<b
    ·rw[if_pos r,if_pos ⟨r.1,r.2.1,by omega⟩]
    ·rw[if_neg r,if_neg (fun s=>r ⟨s.1,s.2.1,by have:=s.2.2;by_cases a:b=k;exact absurd ⟨s.1,a⟩ q;omega⟩)]
 ·rw[if_neg y]
  refine .inr ⟨_,rfl,l,fun d b g=> ?_⟩
  rw[h d b g]
  by_cases q:d=p/\b ≠ o
  ·rw[if_pos q,if_pos ⟨q.1,q.2,by omega⟩]
  ·rw[if_neg q,if_neg (fun r=>q ⟨r.1,r.2.1⟩)]
def nxt(a:Mtx)(c:Nat)(d:Int):Mtx:=fun i j=>if i=c then a c j else if j=c then 0 else(crs a c i j).tdiv d
def col_clear{M:LL}(G:jn f=n)(H:Shp n M)(J:n<=1000)(B:o<n)(K:x ≠ 0)(N:∀i j,i<n->i ≠ o->j<=n->j ≠ o->Ft (mE M o o * mE M i j)/\Ft (mE M i o * mE M o j)/\Ft (crs (mE M) o i j)/\Ft ((crs (mE M) o i j).tdiv x)):
  ∃t,forR 0 (jn f:Int) (F8 f o x) M=some t/\Shp n t/\∀i j,i<n->j<=n->mE t i j=nxt (mE M) o x i j:=by
 obtain⟨t,O,P,Q⟩:=m5 (body:=F8 f o x) (n:=(jn f:Int)) (s:=M)
  (fun q s=>Shp n s/\∀i j:Nat,i<n->j<=n->mE s i j=if(i:Int)<q then nxt (mE M) o x i j else mE M i j) (by omega)
  ⟨H,fun i j k b=>by rw[if_neg (by omega)]⟩ (fun q s U q1 ⟨E,v⟩=>by
   obtain⟨i,rfl⟩:=iG U;have k:i<n:=by omega
   unfold F8;by_cases e:(i:Int)=o;have u:i=o:=by omega
   rw[if_pos e,jl];refine⟨_,rfl,E,fun d p l h=> ?_⟩;rw[v d p l h];by_cases a:(d:Int)<i;rw[if_pos a,if_pos (by omega)];rw[if_neg a];by_cases g:d=i;rw[if_pos (by omega),g,u];unfold nxt;rw[if_pos rfl];rw[if_neg (by omega)];have u:i ≠ o:=by omega
   have w:∀j,j<=n->mE s i j=mE M i j:=fun j b=>by rw[v i j k b,if_neg (by omega)]
   have y:∀j,j<=n->mE s o j=mE M o j:=fun j b=>by rw[v o j B b];split;unfold nxt;rw[if_pos rfl];rfl
   have F:∀j,j<=n->crs (mE s) o i j=crs (mE M) o i j:=fun j b=>by unfold crs;rw[w j b,w o (by omega),y j b,y o (by omega)]
   obtain⟨M1,V,z,X⟩:=row_clear E J B k u K (fun j b A=>by have:=N i j k u b A;rw[y o (by omega),w j b,w o (by omega),y j b,F j b];exact this);obtain⟨r,a1,c,L,a4⟩:=z.get k;rw[if_neg e,G,V];simp only[oB,L,(a4 o (by omega)).1,iA];refine⟨_,rfl,z.set (by rw[lS];exact c),fun d p l h=> ?_⟩;rw[mE_set z k a1 (by omega),X d p h];by_cases g:d=i;subst g;rw[if_pos (show((d:Nat):Int)<(d:Int)+1 by omega)];unfold nxt;rw[if_neg u];by_cases a:p=o;rw[if_pos ⟨rfl,a⟩,if_pos a];rw[if_neg (fun q=>a q.2),if_pos ⟨rfl,a⟩,if_neg a,F p h];rw[if_neg (fun q=>g q.1),if_neg (fun q=>g q.1),v d p l h];by_cases a:(d:Int)<i;rw[if_pos a,if_pos (show(d:Int)<(i:Int)+1 by omega)];rw[if_neg a,if_neg (show ¬ (d:Int)<(i:Int)+1 by omega)])
 refine⟨t,O,P,fun i j k b=> ?_⟩
 rw[Q i j k b,if_pos (by omega)]
def ab_prod{X Y:Int}(a:ab x<=X)(b:ab y<=Y):ab (x * y)<=X * Y:=by
 rw[af8];exact Int.mul_le_mul a b (y9 _) (iq (y9 x) a)
def Ft.of(h:ab x<=9223372036854775807):Ft x:=by
 have:=ab_le h;unfold Ft;omega
def ab_tdiv(x d:Int):ab (x.tdiv d)<=ab x:=by
 have e:∀y:Int,ab y=(y.natAbs:Int):=fun y=>by unfold ab;split<;>omega
 rw[e,e,Int.natAbs_tdiv];exact_mod_cast Nat.div_le_self _ _
def Ft.crs(b:ab (l n n * l o p)<=4000000000000000000)(f:ab (l o n * l n p)<=4000000000000000000):Ft (l n n * l o p)/\Ft (l o n * l n p)/\Ft (Ab.crs l n o p)/\Ft ((Ab.crs l n o p).tdiv x):=by
 have g:ab (Ab.crs l n o p)<=8000000000000000000:=by
  have:=ab_add (l n n * l o p) (-(l o n * l n p));have e:ab (-(l o n * l n p))=ab (l o n * l n p):=by unfold ab;split<;>split<;>omega
  rw[e] at this;unfold Ab.crs;rw[iM];omega
 have h:=ab_tdiv (Ab.crs l n o p) x;exact⟨.of (by omega),.of (by omega),.of (by omega),.of (by omega)⟩
def det_top(h:Rb n l x y)(a:o<=n):ab (det o l)<=x ^ o:=by
 have:=an8 (n:=o) (A:=l) (r:=fun _=>x) (fun _=>h.R0) fun r b=>by have d:=L4 (f:=fun k=>ab (l r k)) (fun _=>y9 _) a;have e:=h.row r (by omega);omega
 rwa [an4] at this
theorem GJ.fits{n c:Nat}{A a:Mtx}{d:Int}(hn:n<=5)(hR:Rb n A 48 2400)(h:GJ n A c a d)(hc:c<n){i j:Nat}(hi:i<n)(hic:i ≠ c)(hj:j<=n)(hjc:j ≠ c):ab (a c c * a i j)<=4000000000000000000/\ab (a i c * a c j)<=4000000000000000000:=by
 have P:ab (a c c)<=48 ^ (c+1):=by rw[h.brd (ie c) (by omega) (ie c) hc];exact hR.brd1 (ie c) hc (ie c) hc
 have hd:ab d<=48 ^ c:=by rw[h.dd];exact det_top hR (by omega)
 have h5:c=0\/c=1\/c=2\/c=3\/c=4:=by omega
 have fin:∀{x y X Y:Int},ab x<=X->ab y<=Y->X * Y<=4000000000000000000->ab (x * y)<=4000000000000000000:=fun h1 h2 h3=>iq (ab_prod h1 h2) h3
 rcases Nat.lt_or_ge j c with q|q
 ·have e1:a c j=0:=by rw[h.on c j hc q,if_neg (by omega)]
  have e2:ab (a i j)<=48 ^ c:=by
   rw[h.on i j hi q]
   split
   ·exact hd
   ·have:ab 0=0:=by unfold ab;rfl
    rw[this];exact pow_nn (by omega) c
  refine⟨fin P e2 ?_,?_⟩
  ·rcases h5 with rfl|rfl|rfl|rfl|rfl<;>decide
  ·rw[e1,iQ];decide
 ·have R2:ab (a c n)<=(c+1:Int) * 2400 * 48 ^ c:=by rw[h.brd (by omega) (ie n) (ie c) hc];exact hR.brd2 (by omega) (ie c) hc
  rcases Nat.lt_or_ge i c with r|r
  · -- a row that is cleared
   have C1:ab (a i c)<=48 ^ c:=by rw[h.rep r (ie c) (by omega)];exact hR.rep1 (by omega) r (ie c) hc
   by_cases e:j=n
   ·subst e
    obtain⟨c',rfl⟩:∃c',c=c'+1:=⟨c - 1,by omega⟩
    have C2:ab (a i j)<=(c'+1:Int) * 2400 * 48 ^ c':=by rw[h.rep r (by omega) (ie j)];exact hR.rep2 (by omega) r
    have h5:c'=0\/c'=1\/c'=2\/c'=3:=by omega
    exact⟨fin P C2 (by rcases h5 with rfl|rfl|rfl|rfl<;>decide),fin C1 R2 (by rcases h5 with rfl|rfl|rfl|rfl<;>decide)⟩
   ·have C2:ab (a i j)<=48 ^ c:=by rw[h.rep r (by omega) (by omega)];exact hR.rep1 (by omega) r (by omega) (by omega)
    have C3:ab (a c j)<=48 ^ (c+1):=by rw[h.brd (by omega) (by omega) (ie c) hc];exact hR.brd1 (by omega) (by omega) (ie c) hc
    exact⟨fin P C2 (by rcases h5 with rfl|rfl|rfl|rfl|rfl<;>decide),fin C1 C3 (by rcases h5 with rfl|rfl|rfl|rfl|rfl<;>decide)⟩
  ·have h4:c=0\/c=1\/c=2\/c=3:=by omega
   have C1:ab (a i c)<=48 ^ (c+1):=by rw[h.brd (ie c) (by omega) r hi];exact hR.brd1 (ie c) hc r hi
   by_cases e:j=n
   ·subst e
    have C2:ab (a i j)<=(c+1:Int) * 2400 * 48 ^ c:=by rw[h.brd (by omega) (ie j) r hi];exact hR.brd2 (by omega) r hi
    exact⟨fin P C2 (by rcases h4 with rfl|rfl|rfl|rfl<;>decide),fin C1 R2 (by rcases h4 with rfl|rfl|rfl|rfl<;>decide)⟩
   ·have C2:ab (a i j)<=48 ^ (c+1):=by rw[h.brd (by omega) (by omega) r hi];exact hR.brd1 (by omega) (by omega) r hi
    have C3:ab (a c j)<=48 ^ (c+1):=by rw[h.brd (by omega) (by omega) (ie c) hc];exact hR.brd1 (by omega) (by omega) (ie c) hc
    exact⟨fin P C2 (by rcases h4 with rfl|rfl|rfl|rfl<;>decide),fin C1 C3 (by rcases h4 with rfl|rfl|rfl|rfl<;>decide)⟩
def solve_rows(B:n<=5)(t:Shp n f)(D:Rb n (mE f) 48 2400)(E:∀c a d,GJ n (mE f) c a d->c<n->a c c ≠ 0):
  ∃M d,forR 0 (jn f:Int) (F1 f) (f,1)=some (M,d)/\Shp n M/\GJ n (mE f) n (mE M) d:=by
 obtain⟨⟨M,d⟩,F,G,y⟩:=m5 (body:=F1 f) (n:=(jn f:Int)) (s:=(f,1))
  (fun q s=>Shp n s.1/\GJ n (mE f) q.toNat (mE s.1) s.2) (by omega) ⟨t,GJ.start⟩ (fun q s H Q ⟨u,o⟩=>by
   obtain⟨M,d⟩:=s;obtain⟨c,rfl⟩:=iG H;have v:=t.len;have h:c<n:=by omega
   dsimp only at u o;rw[iA] at o;have g:=E c _ _ o h;obtain⟨U,V,b2,b3,J⟩:=u.get h;unfold F1;have K:Loop (F4 f c M) ()=some ():=by
    rw[av4];have:F4 f c M ()=some (.inr ()):=by unfold F4;split;simp only[b3,(J c (by omega)).1,oB];rw[if_neg (by simp[g])];rfl
    rw[this]
   have p:=fun i j (k:i<n) (b:i ≠ c) (l:j<=n) (e:j ≠ c)=>o.fits B D h k b l e;obtain⟨N,O,A,r⟩:=col_clear v u (by omega) h o.nz (fun i j k b l e=>Ft.crs (p i j k b l e).1 (p i j k b l e).2);obtain⟨X,d1,d2,d3,d4⟩:=A.get h;have w:mE N c c=mE M c c:=by rw[r c c h (by omega)];unfold nxt;rw[if_pos rfl]
   dsimp only;simp only[K,b3,O,d3,(d4 c (by omega)).1,oB];refine⟨_,rfl,A,?_⟩;dsimp only;rw[show((c:Int)+1).toNat=c+1 by omega,w];refine o.step h g (fun j l=>by rw[r c j h l];unfold nxt;rw[if_pos rfl]) (fun i j k b l e=> ?_) (fun i k b=>by rw[r i c k (by omega)];unfold nxt;rw[if_neg b,if_pos rfl]);rw[r i j k l];unfold nxt;rw[if_neg b,if_neg e];obtain⟨x,P⟩:=o.exact h g k b l e;rw[P,Int.mul_tdiv_cancel_left _ o.nz])
 refine⟨M,d,F,G,?_⟩
 rw[t.len,iA] at y
 exact y
def solve_spec(st:LL)(w:n<=5)(t:Shp n f)(x:Rb n (mE f) 48 2400)(y:∀c a d,GJ n (mE f) c a d->c<n->a c c ≠ 0):
  ∃num:Li,D2 st f=some (num,det n (mE f))/\(jn num)=n/\det n (mE f) ≠ 0/\(∀l,l<n->num[l]? =some (det n (rep (mE f) l fun r=>mE f r n)))/\
   ∀r,r<n->smN n (fun k=>mE f r k * (num[k]?).getD 0)=det n (mE f) * mE f r n:=by
 obtain⟨M,d,z,A,j⟩:=solve_rows w t x y
 have h:=t.len
 unfold D2
 rw[z]
 simp only[oB]
 have o:mkL 8 (jn f:Int) (0:Int)=some (List.replicate n 0):=by unfold mkL;rw[if_pos (by omega),h,iA]
 rw[o]
 simp only[oB,List.length_replicate]
 obtain⟨num,B,D,E⟩:=m5 (body:=J3 f M) (n:=(n:Int)) (s:=List.replicate n 0)
  (fun q s=>jn s=n/\∀l:Nat,(l:Int)<q->l<n->s[l]? =some (mE M l n)) (by omega) ⟨by simp,fun l g=>by omega⟩ (fun q s F Q ⟨G,H⟩=>by
   obtain⟨i,rfl⟩:=iG F;have J:i<n:=by omega
   obtain⟨r,a1,U,K,N⟩:=A.get J;have v:i<jn s:=by omega
   have O:ix s (i:Int)=some s[i]:=by rw[j7];exact ig v
   unfold J3;simp only[K,h,(N n (ie n)).1,O,oB,iA];refine⟨_,rfl,by rw[lS];exact G,fun l g p=> ?_⟩;rw[iK];by_cases e:i=l;subst e;rw[if_pos rfl,if_pos v];rw[if_neg e];exact H l (by omega) p)
 rw[B]
 have dd:d=det n (mE f):=j.dd
 have b:∀l,l<n->num[l]? =some (mE M l n):=fun l g=>E l (by omega) g
 refine⟨num,by rw[dd];rfl,D,by rw[<- dd];exact j.nz,fun l g=> ?_,fun r P=> ?_⟩
 ·rw[b l g,j.rep g (ie n) (ie n)]
 ·rw[<- dd,<- j.top n r (ie n) (ie n) P]
  exact m7 fun k hk=>by rw[b k hk];rfl
/-! ### States as' numbers -/
def wsN:Li->Nat
 |[]=>0
 |a::l=>2 ^ a.toNat+wsN l
def wsN_append:∀{l m:Li},wsN (l++m)=wsN l+wsN m
 |[],m=>by simp[wsN]
 |a::l,m=>by simp only[List.cons_append,wsN,wsN_append (l:=l)];omega
def wsN_le:∀{l:Li},(∀x ∈ l,x<24)->wsN l<=jn l * 16777216
 |[],_=>by simp[wsN]
 |a::l,h=>by have c:=wsN_le (l:=l) fun x b=>h x (iy _ b);have d:2 ^ a.toNat<=2 ^ 24:=je (by decide) (by have:=h a (by simp);omega);simp only[wsN,iF];omega
def wsN_dvd:∀{l:Li},(∀x ∈ l,n<=x.toNat)->2 ^ n ∣ wsN l
 |[],_=>⟨0,rfl⟩
 |a::l,h=>Nat.dvd_add (Nat.pow_dvd_pow 2 (h a (by simp))) (wsN_dvd fun x b=>h x (iy _ b))
def two_pow_no(h:2 ^ (n+1) ∣ 2 ^ n):False:=by have a:=Nat.le_of_dvd (iR n) h;have b:=iR n;rw[Nat.pow_succ] at a;omega
def wsN_ne(f:0<=y)(d:∀x ∈ a,y<x)(e:∀x ∈ c,y<x):wsN (y::a) ≠ wsN c:=fun h=>by
 have d1:2 ^ (y.toNat+1) ∣ wsN a:=wsN_dvd fun x b=>by have:=d x b;omega
 have d2:2 ^ (y.toNat+1) ∣ wsN c:=wsN_dvd fun x b=>by have:=e x b;omega
 rw[<- h,wsN] at d2;exact two_pow_no ((Nat.dvd_add_left d1).1 d2)
def wsN_inj:∀{l m:Li},Inc l->Inc m->(∀x ∈ l,0<=x)->(∀x ∈ m,0<=x)->wsN l=wsN m->l=m
 |[],[],_,_,_,_,_=>rfl
 |[],b::m,_,_,_,_,h=>by have:=iR b.toNat;simp only[wsN] at h;omega
 |a::l,[],_,_,_,_,h=>by have:=iR a.toNat;simp only[wsN] at h;omega
 |a::l,b::m,i,j,e,f,h=>by obtain⟨l1,k⟩:=iN.1 i;obtain⟨g,n⟩:=iN.1 j;rcases iV a b with c|c|c;exact absurd h (wsN_ne (e a (by simp)) l1 fun x d=>by rcases iH.1 d with rfl|d;exact c;have:=g x d;omega);subst c;simp only[wsN] at h;rw[wsN_inj k n (fun x d=>e x (iy _ d)) (fun x d=>f x (iy _ d)) (by omega)];exact absurd h.symm (wsN_ne (f b (by simp)) g fun x d=>by rcases iH.1 d with rfl|d;exact c;have:=l1 x d;omega)
def SetN.word_inj(h:SetN a y)(d:SetN c y)(e:wsN a=wsN c):a=c:=
 wsN_inj h.1 d.1 (fun x b=>(h.2 x b).1) (fun x b=>(d.2 x b).1) e
def word_eq{s:Li}{n:Int}(hs:SetN s n)(hn:n<=24):aa1 s=some (wsN s:Int):=by
 have hl:=hs.len;unfold aa1;obtain⟨w,h1,h2⟩:=m5 (body:=ao9 s) (n:=(jn s:Int)) (s:=0) (fun j w=>w=(wsN (s.take j.toNat):Int)) (by omega) (by simp[wsN]) (fun j w j0 j1 hP=>by
  obtain⟨a,ha,ga⟩:=j9 (l:=s) j0 j1;have hb:=hs.2 a (j8 ha);have ht:s.take (j+1).toNat=s.take j.toNat++[a]:=by rw[show(j+1).toNat=j.toNat+1 by omega,iE,ga];rfl
  have b1:wsN (s.take j.toNat)<=(s.take j.toNat).length * 16777216:=wsN_le fun x hx=>by have:=hs.2 x (jf hx);omega
  have b2:(s.take j.toNat).length<=24:=by rw[jm];omega
  have b4:(s.take j.toNat).length * 16777216<=24 * 16777216:=Nat.mul_le_mul_right _ b2;obtain⟨q,hq⟩:∃q:Nat,q=2 ^ a.toNat:=⟨_,rfl⟩;have b3:q<=16777216:=by rw[hq];exact(je (by decide) (by omega):2 ^ a.toNat<=2 ^ 24)
  have ep:(2:Int) ^ a.toNat=(q:Int):=by rw[hq];push_cast;rfl
  unfold ao9;rw[ha];simp only[oB];rw[IntKind.wrap_u64,Int.emod_eq_of_lt (by omega) (by omega),chk0,if_neg (by omega)];simp only[oB];have es:shlW .i64 1 a=(q:Int):=by unfold shlW;rw[show min a.toNat (IntKind.i64).bits=a.toNat by simp only[IntKind.bits];omega,jc,ep];exact k9 (by omega) (by omega)
  rw[es,k9 (by omega) (by omega),ht,wsN_append,hP];refine⟨_,rfl,?_⟩;simp only[wsN,<- hq];omega)
 rw[h1,h2,iA,iP];rfl
/-! ### Lists compared -/
def listEq{a b:List A}{c:Int->Unit->Option (Unit⊕Bool)}(t:jn a=jn b)(r:∀j x y,ix a j=some x->ix b j=some y->(x=y/\c j ()=some (.inl ()))\/(x ≠ y/\c j ()=some (.inr false))):
  (ij (rngX 0 (jn a:Int) c ()) fun| .inl _=>some true| .inr x=>some x)=some (dec (a=b)):=by
 rcases F5 (body:=c) (n:=(jn a:Int)) (fun j=>if dec (ix a j=ix b j)=true then none else some false) (by omega) (fun j g f _=>by obtain⟨x,p,_⟩:=j9 (l:=a) g f;obtain⟨y,q,_⟩:=j9 (l:=b) (i:=j) g (by omega);rcases r j x y p q with⟨e,h⟩|⟨e,h⟩;rw[h,ifP (by rw[p,q,e])];rw[h,ifN (by rw[p,q];simpa using e)]) with⟨f,d⟩|⟨j,o,g,f,d,_,s⟩
 ·rw[f,l8]
  ·rfl
  ·refine List.ext_getElem? fun k=> ?_
   by_cases hk:k<jn a
   ·have:=d k (by omega) (by omega)
    split at this
    ·rename_i e
     have:=n7.1 e
     rwa [j7,j7] at this
    ·cases this
   ·rw[jd (by omega),jd (by omega)]
 ·rw[s]
  split at d
  ·cases d
  ·rename_i e
   cases d
   rw[o8 (fun h=>e (l8 (by rw[h])))];rfl
def ints_eq(a b:Li):Q5 a b=some (dec (a=b)):=by unfold Q5;by_cases c:(jn a:Int)=jn b;rw[if_pos c];refine listEq (by omega) fun j x y d f=> ?_;unfold ax4;simp only[d,f,oB];by_cases e:x=y;rw[if_pos e];exact .inl ⟨e,rfl⟩;rw[if_neg e];exact .inr ⟨e,rfl⟩;rw[if_neg c,o8 (fun h=>c (by rw[h]))]
def equal_eq(a b:Li):G2 a b=some (dec (a=b)):=by unfold G2;by_cases c:(jn a:Int)=jn b;rw[if_pos c];refine listEq (by omega) fun j x y d f=> ?_;unfold U3;simp only[d,f,oB];by_cases e:x=y;rw[if_pos e];exact .inl ⟨e,rfl⟩;rw[if_neg e];exact .inr ⟨e,rfl⟩;rw[if_neg c,o8 (fun h=>c (by rw[h]))]
def aw1(l:LL)(s:Li):∃r,C8 l s=some r/\((r= -1/\s ∉ l)\/(0<=r/\r<jn l/\ix l r=some s/\∀j,0<=j->j<r->ix l j ≠ some s)):=by unfold C8;rcases F5 (body:=aj9 l s) (n:=(jn l:Int)) (fun j=>if dec (ix l j=some s)=true then some j else none) (by omega) (fun j c a _=>by obtain⟨x,k,_⟩:=j9 (l:=l) c a;unfold aj9;simp only[k,oB,ints_eq];by_cases e:x=s;rw[ifP e,ifP (by rw[e])];rw[ifN e,ifN (by simpa using e)]) with⟨a,b⟩|⟨j,o,c,a,b,p,q⟩;rw[a];refine⟨-1,rfl,.inl ⟨rfl,fun t=> ?_⟩⟩;obtain⟨i,d,f,u⟩:=n9 t;have:=b i d f;rw[ifP u] at this;cases this;rw[q];split at b;rename_i e;cases b;refine⟨_,rfl,.inr ⟨c,a,n7.1 e,fun i d f=> ?_⟩⟩;have:=p i d f;split at this;cases this;rename_i e;exact fun h=>e (l8 h);cases b
/-! ### Ordered lists -/
abbrev Ord(l:LL):Prop:=l.Pairwise llt
def Ord.ext:∀{l m:LL},Ord l->Ord m->(∀x,x ∈ l↔x ∈ m)->l=m
 |[],[],_,_,_=>rfl
 |[],b::m,_,_,h=>absurd ((h b).2 (by simp)) (by simp)
 |a::l,[],_,_,h=>absurd ((h a).1 (by simp)) (by simp)
 |a::l,b::m,i,j,h=>by
  obtain⟨l1,k⟩:=iN.1 i;obtain⟨g,n⟩:=iN.1 j;have d:a=b:=by rcases iH.1 ((h a).1 (by simp)) with e|e;exact e;rcases iH.1 ((h b).2 (by simp)) with f|f;exact f.symm;exact(ay0 (l1 b f) (g a e)).elim
  subst d;rw[Ord.ext k n fun x=>⟨fun c=> ?_,fun c=> ?_⟩];rcases iH.1 ((h x).1 (by simp[c])) with e|e;subst e;exact absurd (l1 x c) (M3 x);exact e;rcases iH.1 ((h x).2 (by simp[c])) with e|e;subst e;exact absurd (g x c) (M3 x);exact e
def Ord.get{l:LL}(h:Ord l){i j:Int}(d:ix l i=some a)(e:ix l j=some c)(f:i<j):llt a c:=by obtain⟨n,o,d⟩:=m8 d;obtain⟨p,q,e⟩:=m8 e;obtain⟨g,rfl⟩:=lG.1 d;obtain⟨k,rfl⟩:=lG.1 e;exact iL.1 h _ _ g k (by omega)
def Ord.inj(h:Ord f)(b:ix f x=some a)(c:ix f y=some a):x=y:=by rcases iV x y with e|e|e;exact absurd (h.get b c e) (M3 a);exact e;exact absurd (h.get c b e) (M3 a)
def ddN(l:LL):Nat->LL
 |0=>[]
 |m+1=>ddN l m++if decide (m=0\/l[m]? ≠ l[m - 1]?)=true then l[m]?.toList else []
def ddN_spec(p:f.Pairwise fun a b=>¬ llt b a):∀m,m<=jn f->Ord (ddN f m)/\∀x,x ∈ ddN f m↔x ∈ f.take m:=by
 intro m;induction m with
 |zero=>intro _;simp[ddN]
 |succ m t=>
  intro A
  obtain⟨q,g⟩:=t (by omega)
  have c:m<jn f:=by omega
  have u:f.take (m+1)=f.take m++[f[m]]:=by rw[iE];simp[c]
  rw[ddN,u]
  by_cases hk:m=0\/f[m]? ≠ f[m - 1]?
  ·rw[if_pos (by simpa using hk)]
   simp only[ig c,Option.toList_some]
   refine⟨jg.2 ⟨q,by simp,fun a v b r=> ?_⟩,fun x=>by rw[iD,iD,g]⟩
   simp only[iI] at r
   subst r
   have j:=(g a).1 v
   obtain⟨i,w,rfl⟩:=List.mem_iff_getElem.1 j
   rw[jm] at w
   rw[List.getElem_take]
   rcases hk with hk|hk
   ·omega
   ·have d:m - 1<jn f:=by omega
    rw[ig c,ig d] at hk
    have y:¬ llt f[m] f[m - 1]:=iL.1 p (m - 1) m d c (by omega)
    have k:llt f[m - 1] f[m]:=by rcases Q2 f[m - 1] f[m] with h|h|h;exact h;exact absurd (by rw[h]) hk;exact absurd h y
    by_cases n:i=m - 1
    ·subst n;exact k
    ·have o:¬ llt f[m - 1] f[i]:=iL.1 p i (m - 1) (by omega) d (by omega)
     rcases Q2 f[i] f[m] with h|h|h
     ·exact h
     ·rw[h] at o;exact absurd k o
     ·exact absurd (I1 k h) o
  ·rw[if_neg (by simpa using hk),iZ]
   refine⟨q,fun x=> ?_⟩
   rw[g,iD]
   refine⟨.inl,fun h=> ?_⟩
   rcases h with h|h
   ·exact h
   ·simp only[iI] at h
    subst h
    have z:m ≠ 0:=fun e=>hk (.inl e)
    have s:f[m]? =f[m - 1]? :=Classical.not_not.1 fun e=>hk (.inr e)
    rw[ig c,ig (show m - 1<jn f by omega)] at s
    rw[Option.some.inj s,iW]
    exact⟨m - 1,by omega,rfl⟩
def ddN_len(l:LL):∀m,(ddN l m).length<=m
 |0=>by simp[ddN]
 |m+1=>by
  have:=ddN_len l m;rw[ddN,List.length_append];split;have:(l[m]?.toList).length<=1:=by cases l[m]? <;>simp
  omega;simp;omega
def ddN_all:∀m,m<=jn f->(∀i,0<i->i<m->f[i]? ≠ f[i - 1]?)->ddN f m=f.take m
 |0,_,_=>by simp[ddN]
 |m+1,b,h=>by rw[ddN,ddN_all m (by omega) fun i a c=>h i a (by omega),if_pos,iE];rw[decide_eq_true_eq];by_cases e:m=0;exact .inl e;exact .inr (h m (by omega) (by omega))
def compactF_eq(hl:jn f<=1000000):D0 f=some (ddN f (jn f)):=by
 unfold D0;by_cases c0:(jn f:Int)<2;rw[if_pos c0,ddN_all (jn f) (ie _) fun i n k=>by omega,iP];rw[if_neg c0];have key:=rngN_inv (body:=x7 f) (fun j _=>∀i:Nat,0<i->(i:Int)<j->f[i]? ≠ f[i - 1]?) (fun o=>o=ddN f (jn f)) ((jn f:Int) - 1).toNat 1 () (fun i n k=>by omega) (fun j _ j0 j1 F=>by
  obtain⟨a,N,G⟩:=j9 (l:=f) (i:=j) (by omega) (by omega);obtain⟨b,O,u⟩:=j9 (l:=f) (i:=j - 1) (by omega) (by omega);unfold x7;simp only[N,O,oB,equal_eq];have P:(j - 1).toNat=j.toNat - 1:=by omega
  rw[P] at u;by_cases c:a=b;rw[ifP c];subst c;right;rw[show cutV (jn f:Int) j (jn f:Int)=some () by rw[cutV,if_pos (by omega)]];simp only[oB];obtain⟨⟨cs,g⟩,Q,U,V,X,H,l⟩:=aB7 (body:=B2 f j) (fun d p=>p.1.length=jn f/\j<=p.2/\p.2<=j+d - 1/\p.1.take p.2.toNat=ddN f (j+d).toNat/\∀i:Nat,j+d - 1<=i->p.1[i]? =f[i]?) ((jn f:Int) - j - 1).toNat 1 (f,j) ⟨rfl,by simp,by dsimp only;omega,by
    dsimp only;rw[show(j+1).toNat=j.toNat+1 by omega,ddN,if_neg,iZ,ddN_all j.toNat (by omega) fun i n k=>F i n (by omega)];rw[decide_eq_true_eq];rintro (h|h);omega;exact h (G.trans u.symm),fun i _=>rfl⟩ (fun d ⟨cs,g⟩ k0 k1 ⟨v,J,g3,w,s⟩=>by
    dsimp only at v J g3 w s ⊢;obtain⟨x,hx,A⟩:=j9 (l:=f) (i:=j+d) (by omega) (by omega);obtain⟨y,hy,B⟩:=j9 (l:=f) (i:=j+d - 1) (by omega) (by omega);have K:∀i:Int,0<=i->i<(jn f:Int) - j->ixV cs (0+j) ((jn f:Int) - j) i=ix cs (j+i):=fun i n k=>by rw[ixV,if_pos (by omega),ji]
    have q:∀i:Int,j+d - 1<=i->ix cs i=ix f i:=fun i L=>by have:=s i.toNat (by omega);simp only[ix];rw[this]
    unfold B2;dsimp only;rw[K d (by omega) (by omega),K (d - 1) (by omega) (by omega),show j+(d - 1)=j+d - 1 by omega,q _ (by omega),q _ (by omega),hx,hy];simp only[oB,equal_eq,x8];have M:(j+(d+1)).toNat=(j+d).toNat+1:=by omega
    have D:(j+d - 1).toNat=(j+d).toNat - 1:=by omega
    rw[D] at B;by_cases t:x=y;rw[ifNN t];refine⟨_,rfl,v,J,by omega,?_,fun i L=>s i (by omega)⟩;dsimp only;rw[M,ddN,if_neg,iZ];exact w;rw[decide_eq_true_eq];rintro (h|h);omega;exact h (by rw[A,B,t]);rw[ifP t];obtain⟨z,hz,gz⟩:=j9 (l:=cs) (i:=g) (by omega) (by omega);simp only[hz,oB];rw[k9 (by omega) (by omega)];refine⟨_,rfl,by rw[lS];exact v,by omega,by omega,?_,fun i L=> ?_⟩;dsimp only;rw[M,ddN,if_pos,A,show(g+1).toNat=g.toNat+1 by omega,iE,iK,if_pos rfl,if_pos (by omega),List.take_set_of_le (ie _),w];rw[decide_eq_true_eq];exact .inr (by rw[A,B];simpa using t);dsimp only;rw[iK,if_neg (by omega)];exact s i (by omega))
  have ef:forR 1 ((jn f:Int) - j) (B2 f j) (f,j)=some (cs,g):=Q;dsimp only at U V X H l;rw[ef];simp only[oB];have E:(clrL cs (0+g) ((jn cs:Int) - g) []).length=jn cs:=by simp[clrL];omega
  rw[show cutV (jn cs:Int) g (jn cs:Int)=some () by rw[cutV,if_pos (by omega)]];simp only[oB,E];rw[show cutV (jn cs:Int) 0 g=some () by rw[cutV,if_pos (by omega)]];refine⟨_,rfl,?_⟩;have e1:A9 (clrL cs (0+g) ((jn cs:Int) - g) []) 0 g=cs.take g.toNat:=by simp only[A9,clrL,ji,Int.toNat_zero,List.drop_zero];rw[List.append_assoc,List.take_append_of_le_length (by simp;omega),List.take_take,Nat.min_self]
  rw[e1,H];congr 1;omega;rw[ifN c];left;refine⟨(),rfl,fun i n k=> ?_⟩;by_cases e:(i:Int)=j;have:i=j.toNat:=by omega
  subst this;rw[G,u];simpa using c;exact F i n (by omega))
 rcases key with⟨_,k,h2⟩|⟨o,k,rfl⟩;have:rngX 1 (jn f:Int) (x7 f) ()=some (.inl ()):=k;rw[this];simp only[oB];rw[ddN_all (jn f) (ie _) fun i n k=>h2 i n (by omega),iP];have:rngX 1 (jn f:Int) (x7 f) ()=some (.inr (ddN f (jn f))):=k;rw[this];rfl
def normal_eq{l:LL}(i:jn l<=1000000):∃r,O8 l=some r/\Ord r/\(∀x,x ∈ r↔x ∈ l)/\(jn r)<=jn l:=by
 unfold O8;rw[sortLL_ms (by omega)];simp only[oB];have d:(l.mergeSort fun x y=>decide (¬ cmpL y x<0)).length=jn l:=by simp
 rw[compactF_eq (by rw[d];exact i)];have j:(l.mergeSort fun x y=>decide (¬ cmpL y x<0)).Pairwise fun a b=>¬ llt b a:=by
  have:=List.pairwise_mergeSort (le:=fun x y:Li=>decide (¬ cmpL y x<0)) (fun a b c f e=>by
   simp only[decide_eq_true_eq,Q8] at f e ⊢;intro h;rcases Q2 b a with g|g|g;exact f g;subst g;exact e h;exact e (I1 h g)) (fun a b=>by
   simp only[Bool.or_eq_true,decide_eq_true_eq,Q8];by_cases h:llt b a;exact .inr fun g=>ay0 h g;exact .inl h) l
  exact this.imp fun h=>by simpa[Q8] using h
 obtain⟨f,e⟩:=ddN_spec j _ (ie _);refine⟨_,rfl,f,fun x=> ?_,?_⟩;rw[e,iP];simp;have:=ddN_len (l.mergeSort fun x y=>decide (¬ cmpL y x<0)) (l.mergeSort fun x y=>decide (¬ cmpL y x<0)).length;rw[d] at this;rw[d];exact this
def forR_from{body:Int->A->Option A}{lo n:Int}(P:Int->A->Prop){s:A}(g:lo<=n)(b:P lo s)(c:∀j s,lo<=j->j<n->P j s->∃a,body j s=some a/\P (j+1) a):∃a,forR lo n body s=some a/\P n a:=by
 obtain⟨a,d,e⟩:=aB7 P (n - lo).toNat lo s b (fun j s f h=>c j s f (by omega))
 exact⟨a,d,by rwa [show lo+((n - lo).toNat:Int)=n by omega] at e⟩
def forN_congr:∀(k:Nat) (i:Int) (s:A),(∀j s,i<=j->j<i+k->t j s=v j s)->forN t k i s=forN v k i s
 |0,_,_,_=>rfl
 |k+1,i,s,h=>by
  simp only[forN];rw[h i s (by omega) (by omega)];cases v i s with
  |none=>rfl
  |some a=>exact forN_congr k (i+1) a fun j s b c=>h j s (by omega) (by omega)
def forR_congr{s:A}(h:∀j s,x<=j->j<y->t j s=v j s):forR x y t s=forR x y v s:=
 forN_congr _ _ _ fun j s a b=>h j s a (by omega)
/-! ### Binary search by a key -/
def bsl{B:Type}(f:List A)(target:B)(c:A->B->Option Int):(Int×Int)->Option ((Int×Int)⊕Int):=fun(a,b)=>if a<b then ij (ix f (w64 (shrW .u64 ((IntKind.u64).wrap (w64 (a+b))) 1))) fun d=>ij (c d target) fun e=>if e<0 then some (.inl (w64 ((w64 (shrW .u64 ((IntKind.u64).wrap (w64 (a+b))) 1))+1),b)) else some (.inl (a,w64 (shrW .u64 ((IntKind.u64).wrap (w64 (a+b))) 1))) else some (.inr a)
noncomputable def bsf{B:Type}(c:List A)(target:B)(b:A->B->Option Int):Option (Int×Bool):=ij (Loop (bsl c target b) (0,(jn c:Int))) fun a=>ij (if a<(jn c:Int) then ij (ix c a) fun d=>ij (b d target) fun e=>some (decide (e=0)) else some false) fun t9=>some (a,t9)
def au2{key:A->Li}{xs:List A}(h:Ord (xs.map key)){a b:A}(c:ix xs x=some a)(d:ix xs y=some b)(e:x<y):llt (key a) (key b):=by obtain⟨f,k,c⟩:=m8 c;obtain⟨g,l,d⟩:=m8 d;refine h.get (i:=x) (j:=y) ?_ ?_ e;rw[ix,if_pos f,lM,c];rfl;rw[ix,if_pos g,lM,d];rfl
def bsf_full{key:A->Li}{xs:List A}{t:Li}{cmp:A->Li->Option Int}(v:Ord (xs.map key))(L:jn xs<=500000)(B:∀a,cmp a t=some (cmpL (key a) t)):
  ∃i,bsf xs t cmp=some (i,dec (∃a ∈ xs,key a=t))/\0<=i/\(∀k a,ix xs k=some a->key a=t->k=i)/\i<=jn xs/\(∀k a,0<=k->k<i->ix xs k=some a->llt (key a) t)/\(∀k a,i<=k->ix xs k=some a->¬ llt (key a) t):=by
 unfold bsf
 obtain⟨i,q,o,J,D,E⟩:=x9 (body:=bsl xs t cmp) (fun p=>(0<=p.1/\p.1<=p.2/\p.2<=jn xs)/\(∀k a,0<=k->k<p.1->ix xs k=some a->llt (key a) t)/\(∀k a,p.2<=k->ix xs k=some a->¬ llt (key a) t))
  (fun i=>0<=i/\i<=jn xs/\(∀k a,0<=k->k<i->ix xs k=some a->llt (key a) t)/\(∀k a,i<=k->ix xs k=some a->¬ llt (key a) t)) (fun p=>(p.2 - p.1).toNat) (s:=(0,(jn xs:Int)))
  ⟨⟨by simp,by simp,by simp⟩,fun k a q o=>by simp at o;omega,fun k a q o=>by have:=(m8 o).2.1;simp at q;omega⟩ (fun⟨i,j⟩ ⟨⟨r,G,w⟩,x,y⟩=>by
  dsimp only at r G w x y ⊢
  unfold bsl
  dsimp only
  by_cases c:i<j
  ·rw[if_pos c,half_eq r G (by omega)]
   obtain⟨a,n,K⟩:=j9 (l:=xs) (i:=(i+j) / 2) (by omega) (by omega)
   rw[n]
   simp only[oB,B,Q8]
   by_cases f:llt (key a) t
   ·rw[if_pos (Q8.2 f),k9 (by omega) (by omega)]
    refine .inl ⟨_,rfl,⟨⟨by dsimp only;omega,by dsimp only;omega,w⟩,fun k b u z d=> ?_,y⟩,by dsimp only;omega⟩
    dsimp only at z
    by_cases e:k=(i+j) / 2
    ·subst e;rw[n] at d;cases d;exact f
    ·exact I1 (au2 v d n (by omega)) f
   ·rw[if_neg (fun h=>f (Q8.1 h))]
    refine .inl ⟨_,rfl,⟨⟨r,by dsimp only;omega,by dsimp only;omega⟩,x,fun k b u d=> ?_⟩,by dsimp only;omega⟩
    dsimp only at u
    by_cases e:k=(i+j) / 2
    ·subst e;rw[n] at d;cases d;exact f
    ·exact fun h=>f (I1 (au2 v n d (by omega)) h)
  ·rw[if_neg c]
   have:i=j:=by omega
   subst this
   exact .inr ⟨i,rfl,r,w,x,y⟩)
 rw[q]
 simp only[oB]
 have g:∀k a,ix xs k=some a->key a=t->k=i:=fun k a hk H=>by rcases iV k i with c|c|c;have:=D k a (m8 hk).1 c hk;rw[H] at this;exact absurd this (M3 t);exact c;obtain⟨b,d,M⟩:=j9 (l:=xs) (i:=i) o (by have:=(m8 hk).2.1;omega);have:=au2 v d hk c;rw[H] at this;exact absurd this (E i b (iC _) d)
 refine⟨i,?_,o,g,J,D,E⟩
 by_cases c:i<jn xs
 ·obtain⟨a,n,K⟩:=j9 (l:=xs) (i:=i) (by omega) c
  rw[if_pos c,n]
  simp only[oB,B]
  by_cases f:key a=t
  ·rw[decide_eq_true (cmpL_eq.2 f),l8 ⟨a,j8 n,f⟩]
  ·rw[decide_eq_false (fun h=>f (cmpL_eq.1 h)),o8]
   rintro ⟨b,d,e⟩
   obtain⟨k,u,z,hk⟩:=n9 d
   have:=g k b hk e
   subst this
   rw[hk] at n;cases n;exact f e
 ·rw[if_neg c]
  simp only[oB]
  rw[o8]
  rintro ⟨b,d,e⟩
  obtain⟨k,u,z,hk⟩:=n9 d
  have:=g k b hk e
  omega
def bsf_eq{key:A->Li}{xs:List A}{t:Li}{cmp:A->Li->Option Int}(b:Ord (xs.map key))(c:jn xs<=500000)(d:∀a,cmp a t=some (cmpL (key a) t)):
  ∃i,bsf xs t cmp=some (i,dec (∃a ∈ xs,key a=t))/\0<=i/\∀k a,ix xs k=some a->key a=t->k=i:=by
 obtain⟨i,e,f,g,_⟩:=bsf_full b c d
 exact⟨i,e,f,g⟩
def aw8{t:Li}(b:Ord f)(c:jn f<=500000):∃i,p9 f t slices_Compare_int_int=some (i,dec (t ∈ f))/\0<=i/\∀k,ix f k=some t->k=i:=by obtain⟨i,d,e,g⟩:=bsf_eq (key:=fun a=>a) (xs:=f) (t:=t) (cmp:=slices_Compare_int_int) (by simpa using b) c (fun a=>au4 a t);refine⟨i,?_,e,fun k hk=>g k t hk rfl⟩;have:p9 f t slices_Compare_int_int=bsf f t slices_Compare_int_int:=rfl;rw[this,d];simp
/-! ### The order that the specification tells -/
def before_eq{b:Li}(D:jn a<=1000000):ad4 a b=some (dec (llt a b)):=by
 unfold ad4;obtain⟨o,v,w⟩:=x9 (body:=ai7 a b) (fun k=>0<=k/\k<=jn a/\k<=jn b/\a.take k.toNat=b.take k.toNat) (fun o=>(match o with| .inl _=>some (decide ((jn a:Int)<(jn b:Int)))| .inr x=>some x)=some (dec (llt a b))) (fun k=>(jn a - k).toNat) (s:=0) ⟨by omega,by omega,by omega,by simp⟩ (fun k ⟨q,E,F,r⟩=>by
  have i:=aC1 (a:=a) (b:=b) k.toNat (by omega) (by omega) r;unfold ai7;by_cases c:k<jn a/\k<jn b;rw[if_pos (by simpa using c)];obtain⟨x,A,t⟩:=j9 (l:=a) q c.1;obtain⟨y,B,u⟩:=j9 (l:=b) q c.2;have j:a.drop k.toNat=x::a.drop (k.toNat+1):=by obtain⟨f,rfl⟩:=lG.1 t;exact iX f
  have n:b.drop k.toNat=y::b.drop (k.toNat+1):=by obtain⟨f,rfl⟩:=lG.1 u;exact iX f
  rw[j,n] at i;simp only[A,B,oB];by_cases e:x=y;subst e;rw[if_pos rfl,k9 (by omega) (by omega)];refine .inl ⟨k+1,rfl,⟨by omega,by omega,by omega,?_⟩,by omega⟩;rw[show(k+1).toNat=k.toNat+1 by omega,iE,iE,t,u,r];rw[if_neg e];refine .inr ⟨_,rfl,?_⟩;dsimp only;rw[G3];refine congrArg some (r9 ?_);rw[i];exact⟨fun h=>.inl h,fun h=>h.resolve_right fun g=>e g.1⟩;rw[if_neg (by simpa using c)];refine .inr ⟨_,rfl,?_⟩;dsimp only;rw[G3];refine congrArg some (r9 ?_);rw[i];by_cases G:k<jn a;have n:b.drop k.toNat=[]:=iO (by omega);rw[n];constructor;intro h;omega;intro h;cases d:a.drop k.toNat with
  |nil=>rw[d] at h;exact h.elim
  |cons z l=>rw[d] at h;exact h.elim
  have j:a.drop k.toNat=[]:=iO (by omega);rw[j];constructor;intro h;cases d:b.drop k.toNat with
  |nil=>have:=List.drop_eq_nil_iff.1 d;omega
  |cons z l=>trivial
  intro h;cases d:b.drop k.toNat with
  |nil=>rw[d] at h;exact h.elim
  |cons z l=>
   have:¬ (jn b)<=k.toNat:=fun g=>by rw[iO g] at d;cases d
   omega)
 rw[v];simp only[oB];exact w
def ord_append{m:LL}(c:Ord f)(d:Ord m)(h:∀a ∈ f,∀b ∈ m,llt a b):Ord (f++m):=jg.2 ⟨c,d,h⟩
def insert_eq(h:Ord f)(hl:jn f<=1000000)(M:∀x ∈ f,jn x<=1000000)(s:Li):∃r,X1 f s=some r/\Ord r/\(∀x,x ∈ r↔x=s\/x ∈ f)/\(jn r)<=jn f+1:=by
 unfold X1;obtain⟨k,N,t,k1,O,P⟩:=x9 (body:=ah9 f s) (fun k=>0<=k/\k<=jn f/\∀i a,i<k->ix f i=some a->llt a s) (fun k=>0<=k/\k<=jn f/\(∀i a,i<k->ix f i=some a->llt a s)/\∀a,ix f k=some a->¬ llt a s) (fun k=>(jn f - k).toNat) (s:=0) ⟨by omega,by omega,fun i a v d=>by have:=(m8 d).1;omega⟩ (fun k ⟨w,K,y⟩=>by unfold ah9;by_cases c:k<jn f;obtain⟨a,d,Q⟩:=j9 (l:=f) w c;rw[if_pos c,d];simp only[oB,before_eq (M a (j8 d))];by_cases u:llt a s;rw[ifP u,k9 (by omega) (by omega)];refine .inl ⟨_,rfl,⟨by omega,by omega,fun i b v n=> ?_⟩,by omega⟩;by_cases e:i=k;subst e;rw[d] at n;cases n;exact u;exact y i b (by omega) n;rw[ifN u];exact .inr ⟨k,rfl,w,K,y,fun b n=>by rw[d] at n;cases n;exact u⟩;rw[if_neg c];exact .inr ⟨k,rfl,w,K,y,fun b n=>by have:=(m8 n).2.1;omega⟩);rw[N];simp only[oB];have step:(ij (if k<(jn f:Int) then ij (ix f k) fun o=>ij (Q5 o s) fun p=>some p else some false) fun t9=>if t9=true then some f else ij (subL f 0 k) fun A=>ij (app 24 ([]:LL) A) fun B=>ij (app 24 B [s]) fun D=>ij (subL f k (jn f:Int)) fun E=>ij (app 24 D E) fun F=>some F)=if dec (ix f k=some s)=true then some f else some (f.take k.toNat++[s]++f.drop k.toNat):=by
  have e:(if k<(jn f:Int) then ij (ix f k) fun o=>ij (Q5 o s) fun p=>some p else some false)=some (dec (ix f k=some s)):=by by_cases c:k<jn f;obtain⟨a,d,Q⟩:=j9 (l:=f) t c;rw[if_pos c,d];simp only[oB,ints_eq];exact congrArg some (r9 (by simp));rw[if_neg c,o8];intro h;have:=(m8 h).2.1;omega
  rw[e];simp only[oB];by_cases c:ix f k=some s;rw[ifP c,ifP c];rw[ifN c,ifN c,subL_take t (by omega),subL_drop t (by omega)];simp only[oB];rw[app,if_pos (by simp;omega)];simp only[oB,List.nil_append];rw[app,if_pos (by simp;omega)];simp only[oB];rw[app,if_pos (by simp;omega)];rfl
 rw[step];by_cases c:ix f k=some s;rw[ifP c];exact⟨f,rfl,h,fun x=>⟨.inr,fun g=>g.elim (fun e=>e ▸ j8 c) id⟩,by omega⟩;rw[ifN c];refine⟨_,rfl,?_,fun x=> ?_,by simp;omega⟩;have U:Ord (f.take k.toNat):=h.sublist (List.take_sublist _ _);have V:Ord (f.drop k.toNat):=h.sublist (List.drop_sublist _ _);have L:∀a ∈ f.take k.toNat,llt a s:=fun a d=>by obtain⟨i,v,e⟩:=iW.1 d;exact O (i:Int) a (by omega) (by rw[j7,<- e];exact ig _)
 have b2:∀a ∈ f.drop k.toNat,llt s a:=fun a d=>by
  obtain⟨i,v,e⟩:=List.mem_drop_iff_getElem.1 d;have G:k<jn f:=by omega
  obtain⟨z,H,X⟩:=j9 (l:=f) t G;have nz:=P z H;have q:llt s z:=by rcases Q2 z s with g|g|g;exact absurd g nz;exact absurd (g ▸ H) c;exact g
  by_cases l:i=0;subst l;obtain⟨q1,q2⟩:=lG.1 X;have:a=z:=by rw[<- e,<- q2];simp
  rw[this];exact q;refine I1 q (h.get H (j:=k+i) ?_ (by omega));rw[show k+(i:Int)=((k.toNat+i:Nat):Int) by omega,j7,<- e];exact ig _
 refine ord_append (ord_append U (by simp) fun a d b n=> ?_) V fun a d b n=> ?_;simp only[iI] at n;subst n;exact L a d;rcases iD.1 d with d|d;exact I1 (L a d) (b2 b n);simp only[iI] at d;subst d;exact b2 b n;rw[iD,iD,iI];have:=List.take_append_drop k.toNat f;constructor;rintro ((g|g)|g);exact .inr (jf g);exact .inl g;exact .inr (List.mem_of_mem_drop g);rintro (g|g);exact .inl (.inr g);rw[<- this] at g;rcases iD.1 g with g|g;exact .inl (.inl g);exact .inr g
end Ab
