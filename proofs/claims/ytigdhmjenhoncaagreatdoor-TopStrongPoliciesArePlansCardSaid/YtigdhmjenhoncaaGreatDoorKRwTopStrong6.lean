/-
  Texts that the proof stands on.
-/
import Derived.Test.YtigdhmjenhoncaaGreatDoorKRwTopStrong5
set_option linter.all false
open Bool renaming false_and->io,false_or->ip,true_and->iq,true_or->ir,or_eq_true->iC
open List renaming map->it,getElem?_eq_getElem->iw,take_add_one->iy,pairwise_cons->iA,mem_append->iB,drop_eq_getElem_cons->iD,mem_cons->iE,mem_singleton->iF,drop_of_length_le->iG,mem_cons_of_mem->iH,pairwise_iff_getElem->iJ,take_length->iL,mem_take_iff_getElem->iN,length_take->iO,append_nil->iP,getElem?_eq_none->iR,replicate->iS,mem_of_mem_take->iU,pairwise_append->iV,getElem?_set->iX,length->iZ
open Option renaming bind->iu,isSome->iI
open Int renaming lt_trichotomy->iK
open Nat renaming two_pow_pos->iM,le_refl->iQ,pow_le_pow_right->iT
open Classical renaming not_not->iW,not_imp->iY
section
namespace Ab
open Go Go.Proofs
open Tryz
set_option maxHeartbeats 4000000
set_option linter.all false
attribute [local irreducible] AWP AOps thn inB Done f7 o9 Sub
theorem ay5{start:Int}{goal:Int}{l:List l8}{r:Li×Bool}(h:T2 start goal l=some r):FnOk prog 97 [.c (.ifc 124 [.ptr 0 0 0] false)] (V3 start goal l) (fun tt ss=>tt=.tup [.c (.own 12 0 r.1.length),(cB r.2)]/\ss=[(oE 3 (wW start goal 1 l.length)),(oV 4 f5 l),.dead,.dead,.dead,.dead,.dead,.dead,.dead,.dead,.dead,.dead,(oV 1 eU32 r.1)]):=by
 refine FnOk.enter (rs:=[.t 2,.t 3]) func97 Z ntmps97 results97 Z ⟨Y,Y,Y⟩ (by kernel_rfl) Z ?_
 refine AWP.weak ?_
 unfold T2 at h
 refine AWP.gk 2 Z (.j ?_)
 obtain⟨a12,ha12,h⟩:=b7 h
 refine AWP.G 1 Z (S.invokeP (r2:=.c (.imm (.val (.int .u32 start)))) (σ'':=[(oE 3 (wW start goal 1 l.length)),(oV 4 f5 l)]) Z Z Z (FnOk.lend [0,1] (U4 ha12) Z Z Z Z Z Z (by exact⟨(.one Z),.vec,Y⟩) Z (by exact⟨(.live Z (.one Z)),(.live Z .vec),Y⟩) Z Z (by exact⟨(.new 0 Z Z (.one Z)),(.new 1 Z Z .vec),Y⟩)) (S.lit (f:=eU32) (l:=[start]) (ess:=[[.imm (.val (.int .u32 start))]]) Z Z Z Z Z Z Z ⟨⟨.inl Z,Y⟩,Y⟩ Z Z Z (.G 2 Z (.nil (b5 (.j ?_))))))
 obtain⟨a16,ha16,h⟩:=b7 h
 refine AWP.U (W.makeMap vU noV Z Z Z (.z Z Z (S.invokeP (r2:=.c (.imm (.val (.int .u32 start)))) (σ'':=[(oE 3 (wW start goal 1 l.length)),(oV 4 f5 l),(oV 1 eU32 [start]),(o1 (.own 2 0 ([start].length))),(oW vU noV ([]:List (Int×Unit)))]) Z Z Z (FnOk.lend [0,1] (U4 ha16) Z Z Z Z Z Z (by exact⟨(.one Z),.vec,Y⟩) Z (by exact⟨(.live Z (.one Z)),(.live Z .vec),Y⟩) Z Z (by exact⟨(.new 0 Z Z (.one Z)),(.new 1 Z Z .vec),(.old Z Z Z),(.old Z Z Z),(.old Z Z Z),Y⟩)) (S.build0 Z Z Z (W.insertU (fk:=vU) (k:=start) N5 Z Z Z Z Z (.G 3 Z (.nil (b5 (.gk 1 Z (.j (.q (.virtV 1 eU32 6 Z Z Z ?_))))))))))))
 obtain⟨oo,ho1,h⟩:=b7 h
 refine AWP.loopS ho1 (fun(c56,c57,c58)=>⟨[(0,.c (.ifc 124 [.ptr 0 0 0] false)),(4,(cP 3 0 0)),(5,(cP 5 0 0)),(6,.c (.own 6 0 c58.length))],[(oE 3 (wW start goal 1 l.length)),(oV 4 f5 l),(oV 1 eU32 c56),(o1 (.own 2 0 c56.length)),(oW vU noV c57),(o1 (.map 4)),(oV 1 eU32 c58)]⟩) (fun o e st=>match o with| .inl c59=>e=.exit 0/\Sub (V3 start goal l) st ⟨[(6,.c (.own 6 0 c59.length))],[(oE 3 (wW start goal 1 l.length)),(oV 4 f5 l),.dead,.dead,.dead,.dead,(oV 1 eU32 c59)]⟩| .inr x=>e=.ret/\∃J,Sub (V3 start goal l) st J/\Done [.t 2,.t 3] (fun tt ss=>tt=.tup [.c (.own 12 0 x.1.length),(cB x.2)]/\ss=[(oE 3 (wW start goal 1 l.length)),(oV 4 f5 l),.dead,.dead,.dead,.dead,.dead,.dead,.dead,.dead,.dead,.dead,(oV 1 eU32 x.1)]) .ret J) ?_ ?_ ?_
 ·exact Sub.env ⟨Z,Z,Z,(C0 (by first|rfl|simp only[lS])),Y⟩
 ·intro s o h
  obtain⟨c56,c57,c58⟩:=s
  unfold aj4 at h
  try dsimp only at h ⊢
  refine AWP.j (.gs 1 Z (S.lenO Z Z Z (fun hl20=>.ge 1 Z (.J Z h (fun hc60 h=> ?_) (fun hc60 h=> ?_)))))
  ·refine AWP.skip (b5 (.q (.j ?_)))
   obtain⟨a26,ha26,h⟩:=b7 h
   refine AWP.G 2 Z (S.lenO Z Z Z (fun hl24=>.sub' Z Z Z (by omega) (S.idxO ha26 Z Z Z Z Z (S.loadO ha26 Z Z Z Z Z (.B Z Z (.nil (b5 (.j ?_))))))))
   obtain⟨u32,hu32,h⟩:=b7 h
   refine AWP.G 2 Z (S.lenO Z Z Z (fun hl30=>.sub' Z Z Z (by omega) (S.vTo (Y5 c56) hu32 Z Z Z Z Z Z (.sub (Sub.reown (env':=[(0,.c (.ifc 124 [.ptr 0 0 0] false)),(4,(cP 3 0 0)),(5,(cP 5 0 0)),(6,.c (.own 6 0 c58.length)),(7,.c (.imm (.val (.int .u32 a26)))),(20,(cI (c56.length:Int))),(21,(cB (decide (0<(c56.length:Int))))),(24,(cI (c56.length:Int))),(25,(cI ((c56.length:Int) - 1))),(27,.c (.imm (.val (.int .u32 a26)))),(30,(cI (c56.length:Int))),(31,(cI ((c56.length:Int) - 1))),(32,.c (.own 7 0 ((w5 c56 0 ((c56.length:Int) - 1)).length)))]) 32 (vw_to (Y5 c56) hu32) Z Z Z Z Z Z Z Z (by exact⟨.inr Z,.inr Z,.inr Z,.inr Z,.inr Z,.inr Z,.inr Z,.inr Z,.inr Z,.inr Z,.inr Z,.inr Z,.inl ⟨Z,Z⟩,Y⟩)) (W.store Z Z Z Z Z (.nil (b5 (.j (.z (env':=[(0,.c (.ifc 124 [.ptr 0 0 0] false)),(4,(cP 3 0 0)),(5,(cP 5 0 0)),(6,.c (.own 6 0 c58.length)),(7,.c (.imm (.val (.int .u32 a26))))]) (σ':=[(oE 3 (wW start goal 1 l.length)),(oV 4 f5 l),(oV 1 eU32 (w5 c56 0 ((c56.length:Int) - 1))),(o1 (.own 2 0 ((w5 c56 0 ((c56.length:Int) - 1)).length))),(oW vU noV c57),(o1 (.map 4)),(oV 1 eU32 c58)]) 2 7 Z Z Z ⟨Z,Z,Z,Z,Z,Y⟩ Z ⟨⟨Z,Z⟩,⟨Blk.im_ok _ _ _,i6 Z⟩,⟨Blk.im_ok _ _ _,i6 Z⟩,⟨Z,Z⟩,⟨Z,Z⟩,⟨Z,Z⟩,⟨Blk.im_ok _ _ _,i6 Z⟩,Y⟩ ?_)))))))))
   obtain⟨a36,ha36,h⟩:=b7 h
   refine AWP.G 2 Z (S.lit (f:=eU32) (l:=[a26]) (ess:=[[.imm (.val (.int .u32 a26))]]) Z Z Z Z Z Z Z ⟨⟨.inl Z,Y⟩,Y⟩ Z Z Z (S.append (f:=eU32) ha36 Z Z Z Z Z Z (.own Z Z) Z Z Z Z (.B Z Z (.nil (b5 (.j (.j (.z (env':=[(0,.c (.ifc 124 [.ptr 0 0 0] false)),(4,(cP 3 0 0)),(5,(cP 5 0 0)),(6,.c (.own 6 0 a36.length)),(7,.c (.imm (.val (.int .u32 a26))))]) (σ':=[(oE 3 (wW start goal 1 l.length)),(oV 4 f5 l),(oV 1 eU32 (w5 c56 0 ((c56.length:Int) - 1))),(o1 (.own 2 0 ((w5 c56 0 ((c56.length:Int) - 1)).length))),(oW vU noV c57),(o1 (.map 4)),(oV 1 eU32 a36),(oV 1 eU32 [a26])]) 6 8 Z Z Z ⟨Z,Z,Z,Z,Z,Y⟩ Z ⟨⟨Z,Z⟩,⟨Blk.im_ok _ _ _,i6 Z⟩,⟨Blk.im_ok _ _ _,i6 Z⟩,⟨Z,Z⟩,⟨Z,Z⟩,⟨Z,Z⟩,⟨Blk.im_ok _ _ _,i6 Z⟩,⟨Blk.im_ok _ _ _,i6 Z⟩,Y⟩ ?_))))))))
   obtain⟨a39,ha39,h⟩:=b7 h
   refine AWP.G 2 Z (S.invokeP (r2:=.c (.fn 129 [.ptr 8 0 0,.ptr 9 0 0])) (σ'':=[(oE 3 (wW start goal 1 l.length)),(oV 4 f5 l),(oV 1 eU32 (w5 c56 0 ((c56.length:Int) - 1))),(o1 (.own 2 0 ((w5 c56 0 ((c56.length:Int) - 1)).length))),(oW vU noV c57),(o1 (.map 4)),(oV 1 eU32 a36),(oV 1 eU32 [a26]),(o1 (.ptr 0 0 0)),(o1 (.imm (.val (.int .u32 a26))))]) Z Z Z (FnOk.lend [0,1] (ae5 ha39) Z Z Z Z Z Z (by exact⟨(.one Z),.vec,Y⟩) Z (by exact⟨(.live Z (.one Z)),(.live Z .vec),Y⟩) Z Z (by exact⟨(.new 0 Z Z (.one Z)),(.new 1 Z Z .vec),(.old Z Z Z),(.old Z Z Z),(.old Z Z Z),(.old Z Z Z),(.old Z Z Z),(.old Z Z Z),(.new 2 Z Z (.one Z)),(.new 3 Z Z (.one Z)),Y⟩)) (.nil (b5 (.q ?_))))
   obtain⟨xr61,hr61,h⟩:=b7 h
   refine AWP.rangeB [(4,none),(5,none)] Z Z Z (fun as61 bo61 hA61 hB61=>⟨[(oE 3 (wW start goal 1 l.length)),(oV 4 f5 l),(oV 1 eU32 (w5 c56 0 ((c56.length:Int) - 1))),(o1 (.own 2 0 ((w5 c56 0 ((c56.length:Int) - 1)).length))),(oW vU noV c57),(o1 (.map 4)),(oV 1 eU32 a36),(oV 1 eU32 [a26]),(o1 (.ptr 0 0 0)),(o1 (.imm (.val (.int .u32 a26)))),.one (p8 63 [40] as61 bo61 .ready none [(4,none),(5,none)] [.ptr 3 0 0,.ptr 5 0 0])],fun tt ss=>tt=.tup []/\ss=[(oE 3 (wW start goal 1 l.length)),(oV 4 f5 l),.dead,(o1 (.own 11 0 xr61.2.length)),(oW vU noV xr61.1),(o1 (.map 4)),(oV 1 eU32 a36),(oV 1 eU32 [a26]),(o1 (.ptr 0 0 0)),(o1 (.imm (.val (.int .u32 a26)))),.one (p8 63 [40] as61 bo61 .ready none [(4,none),(5,none)] [.ptr 3 0 0,.ptr 5 0 0]),(oV 1 eU32 xr61.2)],Z,?_,?_⟩)
   ·refine FnOk.enter (rs:=[]) func129 Z ntmps129 results129 Z Y (by kernel_rfl) Z ?_
    refine AWP.weak ?_
    unfold aj8 at hr61
    try dsimp only at hr61
    refine AWP.z (env':=[(0,.c (.yld 10)),(1,(cP 8 0 0)),(2,(cP 9 0 0))]) (σ':=[(oE 3 (wW start goal 1 l.length)),(oV 4 f5 l),.dead,(o1 (.own 11 0 ((w5 c56 0 ((c56.length:Int) - 1)).length))),(oW vU noV c57),(o1 (.map 4)),(oV 1 eU32 a36),(oV 1 eU32 [a26]),(o1 (.ptr 0 0 0)),(o1 (.imm (.val (.int .u32 a26)))),.one (p8 63 [40] as61 bo61 .ready none [(4,none),(5,none)] [.ptr 3 0 0,.ptr 5 0 0]),(oV 1 eU32 (w5 c56 0 ((c56.length:Int) - 1)))]) 11 2 Z Z Z ⟨Z,Z,Z,Y⟩ Z ⟨⟨Z,Z⟩,⟨Blk.im_ok _ _ _,i6 Z⟩,Y,⟨Z,Z⟩,⟨Z,Z⟩,⟨Z,Z⟩,⟨Blk.im_ok _ _ _,i6 Z⟩,⟨Blk.im_ok _ _ _,i6 Z⟩,⟨Z,Z⟩,⟨Z,Z⟩,⟨Z,Z⟩,⟨Blk.im_ok _ _ _,i6 Z⟩,Y⟩ (.gs 4 Z (S.lenO Z Z Z (fun hl10=>.ge 1 Z (.q ?_))))
    obtain⟨⟨c64,c65⟩,ho2,hr61⟩:=b7 hr61
    try dsimp only at hr61
    refine AWP.forH ho2 (fun t66 (c64,c65)=>⟨[(0,.c (.yld 10)),(2,(cP 9 0 0)),(9,.c (.own 1 0 l.length)),(10,(cI (l.length:Int))),(11,(cI t66))],[(oE 3 (wW start goal 1 l.length)),(oV 4 f5 l),.dead,(o1 (.own 11 0 c65.length)),(oW vU noV c64),(o1 (.map 4)),(oV 1 eU32 a36),(oV 1 eU32 [a26]),(o1 (.ptr 0 0 0)),(o1 (.imm (.val (.int .u32 a26)))),.one (p8 63 [40] as61 bo61 .ready none [(4,none),(5,none)] [.ptr 3 0 0,.ptr 5 0 0]),(oV 1 eU32 c65)]⟩) (fun _ _=>Z) ?_ ?_ ?_
    ·exact Sub.en Z
    ·intro t66 s o hlot66 hltt66 h
     obtain⟨c64,c65⟩:=s
     unfold aj1 at h
     try dsimp only at h ⊢
     refine AWP.j (.q (.j ?_))
     obtain⟨ai14,hai14,h⟩:=b7 h
     refine AWP.G 1 Z (S.idxO hai14 Z Z Z Z Z (S.loadOAgg hai14 Z Z Z Z Z Z Z (.G 3 Z (.nil (b5 (.j ?_))))))
     rcases bft (decide (Go.bits .and .u32 a26 ai14.pre=ai14.pre)) with hb67|hb67
     ·replace h:=K6 hb67 h
      refine AWP.G 3 Z (.bits Z Z Z (by simp) (.G 4 Z (.E Z Z Z hb67 (.z Z Z (.E Z Z Z hb67 (.z Z Z (.E Z Z Z hb67 (W.fieldAddr Z Z Z Z (.E Z Z Z hb67 (.load Z Z Z Z Z Z (.E Z Z Z hb67 (.load Z Z Z Z Z Z (.E Z Z Z hb67 (W.fieldAddr Z Z Z Z (.E Z Z Z hb67 (.load Z Z Z Z Z Z (.E Z Z Z hb67 (.bits Z Z Z (by simp) (.E Z Z Z hb67 (W.fieldAddr Z Z Z Z (.E Z Z Z hb67 (.load Z Z Z Z Z Z (.E Z Z Z hb67 (.bits Z Z Z (by simp) (.E Z Z Z hb67 (W.build Z Z Z Z ?_))))))))))))))))))))))))))
      refine AOps.E Z Z Z hb67 ?_;refine AOps.yieldB (E1:=[(8,(cP 13 0 0)),(40,.agg [int t66,int ai14.cost,.imm (.val (.int .u32 (Go.bits .or .u32 (Go.bits .andNot .u32 a26 ai14.del) ai14.add)))]),(4,(cP 3 0 0)),(5,(cP 5 0 0))]) (σ1:=[(oE 3 (wW start goal 1 l.length)),(oV 4 f5 l),.dead,(o1 (.own 11 0 c65.length)),(oW vU noV c64),(o1 (.map 4)),(oV 1 eU32 a36),(oV 1 eU32 [a26]),(o1 (.ptr 0 0 0)),(o1 (.imm (.val (.int .u32 a26)))),.one (p8 63 [40] as61 bo61 .ready none [(4,none),(5,none)] [.ptr 3 0 0,.ptr 5 0 0]),(oV 1 eU32 c65),(oE 4 [.imm (.val (.int .u32 ai14.pre)),.imm (.val (.int .u32 ai14.add)),.imm (.val (.int .u32 ai14.del)),int ai14.cost]),(oE 3 [int t66,int ai14.cost,.imm (.val (.int .u32 (Go.bits .or .u32 (Go.bits .andNot .u32 a26 ai14.del) ai14.add)))])]) hA61 hB61 Z Z Z Z Z Z Z Z Z Z ?_ ?_
      ·refine AWP.G 2 Z (.nil ?_)
       exact⟨Z,Z⟩
      refine AWP.sub (s':=⟨[(4,(cP 3 0 0)),(5,(cP 5 0 0)),(8,(cP 13 0 0))],[(oE 3 (wW start goal 1 l.length)),(oV 4 f5 l),.dead,(o1 (.own 11 0 c65.length)),(oW vU noV c64),(o1 (.map 4)),(oV 1 eU32 a36),(oV 1 eU32 [a26]),(o1 (.ptr 0 0 0)),(o1 (.imm (.val (.int .u32 a26)))),.one (p8 63 [40] as61 bo61 .busy none [(4,none),(5,none)] [.ptr 3 0 0,.ptr 5 0 0]),(oV 1 eU32 c65),(oE 4 [.imm (.val (.int .u32 ai14.pre)),.imm (.val (.int .u32 ai14.add)),.imm (.val (.int .u32 ai14.del)),int ai14.cost]),(oE 3 [int t66,int ai14.cost,.imm (.val (.int .u32 (Go.bits .or .u32 (Go.bits .andNot .u32 a26 ai14.del) ai14.add)))])]⟩) (Sub.env ⟨Z,Z,Z,Y⟩) (.q (.gs 3 Z (W.lookupOkU (fk:=vU) (k:=Go.bits .or .u32 (Go.bits .andNot .u32 a26 ai14.del) ai14.add) N5 Z Z Z Z Z (.G 4 Z (S.store0 Z Z Z (.ge 1 Z (.gk 2 Z (.F Z h (fun hc68 h=> ?_) (fun hc68 h=> ?_)))))))))
      ·refine AWP.gs 3 Z (S.build0 Z Z Z (W.mapUpdateU (fk:=vU) (k:=Go.bits .or .u32 (Go.bits .andNot .u32 a26 ai14.del) ai14.add) N5 Z Z Z Z Z (.ne ?_)))
       obtain⟨ab58,hab58,h⟩:=b7 h
       refine AWP.G 3 Z (S.lit (f:=eU32) (l:=[Go.bits .or .u32 (Go.bits .andNot .u32 a26 ai14.del) ai14.add]) (ess:=[[.imm (.val (.int .u32 (Go.bits .or .u32 (Go.bits .andNot .u32 a26 ai14.del) ai14.add)))]]) Z Z Z Z Z Z Z ⟨⟨.inl Z,Y⟩,Y⟩ Z Z Z (S.append (f:=eU32) hab58 Z Z Z Z Z Z (.own Z Z) Z Z Z Z (.G 1 Z (.nil (d6 (Q3 Z Z (.E Z Z Z hb67 (.not Z Z (.ab Z hb67 Z Z (.nil (b5 (.z (env':=[(0,.c (.yld 10)),(2,(cP 9 0 0)),(9,.c (.own 1 0 l.length)),(10,(cI (l.length:Int))),(11,(cI t66)),(38,(cB false))]) (σ':=[(oE 3 (wW start goal 1 l.length)),(oV 4 f5 l),.dead,(o1 (.own 11 0 ab58.length)),(oW vU noV (mset c64 (Go.bits .or .u32 (Go.bits .andNot .u32 a26 ai14.del) ai14.add) ())),(o1 (.map 4)),(oV 1 eU32 a36),(oV 1 eU32 [a26]),(o1 (.ptr 0 0 0)),(o1 (.imm (.val (.int .u32 a26)))),.one (p8 63 [40] as61 bo61 .ready none [(4,none),(5,none)] [.ptr 3 0 0,.ptr 5 0 0]),(oV 1 eU32 ab58),(oE 4 [.imm (.val (.int .u32 ai14.pre)),.imm (.val (.int .u32 ai14.add)),.imm (.val (.int .u32 ai14.del)),int ai14.cost]),(oE 3 [int t66,int ai14.cost,.imm (.val (.int .u32 (Go.bits .or .u32 (Go.bits .andNot .u32 a26 ai14.del) ai14.add)))]),(oE 0 []),(oV 1 eU32 [Go.bits .or .u32 (Go.bits .andNot .u32 a26 ai14.del) ai14.add])]) 11 16 Z Z Z ⟨Z,Z,Z,Z,Z,Z,Y⟩ Z ⟨⟨Z,Z⟩,⟨Blk.im_ok _ _ _,i6 Z⟩,Y,⟨Z,Z⟩,⟨Z,Z⟩,⟨Z,Z⟩,⟨Blk.im_ok _ _ _,i6 Z⟩,⟨Blk.im_ok _ _ _,i6 Z⟩,⟨Z,Z⟩,⟨Z,Z⟩,⟨Z,Z⟩,⟨Blk.im_ok _ _ _,i6 Z⟩,⟨Z,Z⟩,⟨Z,Z⟩,⟨Z,Z⟩,⟨Blk.im_ok _ _ _,i6 Z⟩,Y⟩ (.condF Z (.skip (d6 (b5 (.U (.add Z Z Z (by omega) (.z Z Z (.nil ?_))))))))))))))))))))
       obtain rfl:=oi h
       refine b5 (Sub.cut ⟨Z,Z,Z,Z,Z,Y⟩ Z ⟨.one Z,.vec,.dead,.one Z,.one Z,.one Z,.vec,.vec,.one Z,.one Z,.one Z,.vec,Y⟩ Z)
      ·refine AWP.skip (d6 (Q3 Z Z (.E Z Z Z hb67 (.not Z Z (.ab Z hb67 Z Z (.nil (b5 (.condF Z (.skip (d6 (b5 (.U (.add Z Z Z (by omega) (.z Z Z (.nil ?_)))))))))))))))
       obtain rfl:=oi h
       refine b5 (Sub.cut ⟨Z,Z,Z,Z,Z,Y⟩ Z ⟨.one Z,.vec,.dead,.one Z,.one Z,.one Z,.vec,.vec,.one Z,.one Z,.one Z,.vec,Y⟩ Z)
     ·replace h:=K0 hb67 h
      refine AWP.G 3 Z (.bits Z Z Z (by simp) (.G 4 Z (.O Z Z Z hb67 (.O Z Z Z hb67 (.O Z Z Z hb67 (.O Z Z Z hb67 (.O Z Z Z hb67 (.O Z Z Z hb67 (.O Z Z Z hb67 (.O Z Z Z hb67 (.O Z Z Z hb67 (.O Z Z Z hb67 (.O Z Z Z hb67 (.O Z Z Z hb67 (.O Z Z Z hb67 (.O Z Z Z hb67 (.pickF Z hb67 Z Z (.nil (b5 (.condF Z (.skip (d6 (b5 (.U (.add Z Z Z (by omega) (.z Z Z (.nil ?_)))))))))))))))))))))))))))
      obtain rfl:=oi h
      refine b5 (Sub.cut ⟨Z,Z,Z,Z,Z,Y⟩ Z ⟨.one Z,.vec,.dead,.one Z,.one Z,.one Z,.vec,.vec,.one Z,.one Z,.one Z,.vec,Y⟩ Z)
    ·intro iz
     refine i7 ?_
     obtain rfl:=oi hr61
     exact⟨⟨[],[(oE 3 (wW start goal 1 l.length)),(oV 4 f5 l),.dead,(o1 (.own 11 0 c65.length)),(oW vU noV c64),(o1 (.map 4)),(oV 1 eU32 a36),(oV 1 eU32 [a26]),(o1 (.ptr 0 0 0)),(o1 (.imm (.val (.int .u32 a26)))),.one (p8 63 [40] as61 bo61 .ready none [(4,none),(5,none)] [.ptr 3 0 0,.ptr 5 0 0]),(oV 1 eU32 c65)]⟩,Sub.env Y,Done.normal Z ⟨Z,Z⟩⟩
   ·rintro tt ss ⟨rfl,rfl⟩
    obtain⟨c62,c63⟩:=xr61
    try dsimp only at h ⊢
    refine al3 Z Z (d6 (b5 (.gs 1 Z (S.lenMap (fk:=vU) (fv:=noV) Z Z Z (.ge 1 Z (.J Z h (fun hc69 h=> ?_) (fun hc69 h=> ?_)))))))
    ·refine AWP.gk 2 Z (.virtV 1 eU32 2 Z Z Z (.ret (i9 ?_)))
     obtain rfl:=oi h
     refine d9 ⟨_,Z,Z,?_⟩
     exact⟨⟨[(2,.c (.own 12 0 ([].length))),(3,(cB false))],[(oE 3 (wW start goal 1 l.length)),(oV 4 f5 l),.dead,.dead,.dead,.dead,.dead,.dead,.dead,.dead,.dead,.dead,(oV 1 eU32 [])]⟩,Sub.cut ⟨(C0 (by first|rfl|simp only[lS])),Z,Y⟩ Z ⟨.one Z,.vec,.dead,.dead,.dead,.dead,.dead,.dead,.dead,.dead,.dead,.dead,.vec,Y⟩ Z,Done.ret Z ⟨Z,Z⟩⟩
    ·refine AWP.skip (d6 ?_)
     obtain rfl:=oi h
     refine b5 ⟨_,Z,?_⟩
     exact(Sub.move (env':=[(0,.c (.ifc 124 [.ptr 0 0 0] false)),(4,(cP 3 0 0)),(5,(cP 5 0 0)),(6,.c (.own 6 0 a36.length))]) (σ':=[(oE 3 (wW start goal 1 l.length)),(oV 4 f5 l),(oV 1 eU32 c63),(o1 (.own 2 0 c63.length)),(oW vU noV c62),(o1 (.map 4)),(oV 1 eU32 a36),(oV 1 eU32 [a26]),(o1 (.ptr 0 0 0)),(o1 (.imm (.val (.int .u32 a26)))),.dead]) 2 11 Z Z Z ⟨Z,Z,Z,Z,Y⟩ Z ⟨⟨Z,Z⟩,⟨Blk.im_ok _ _ _,i6 Z⟩,⟨Blk.im_ok _ _ _,i6 Z⟩,⟨Z,Z⟩,⟨Z,Z⟩,⟨Z,Z⟩,⟨Blk.im_ok _ _ _,i6 Z⟩,⟨Blk.im_ok _ _ _,i6 Z⟩,⟨Z,Z⟩,⟨Z,Z⟩,Y,Y⟩).trans (Sub.cut ⟨Z,Z,Z,Z,Y⟩ Z ⟨.one Z,.vec,.vec,.one Z,.one Z,.one Z,.vec,Y⟩ Z)
  ·refine AWP.exit (k8 ?_)
   obtain rfl:=oi h
   refine k8 ⟨_,Z,Z,?_⟩
   exact Sub.cut ⟨Z,Y⟩ Z ⟨.one Z,.vec,.dead,.dead,.dead,.dead,.vec,Y⟩ Z
 ·intro e s hq
  rcases oo with c59|x
  ·try dsimp only at h hq
   obtain⟨rfl,hs⟩:=hq
   refine⟨_,hs,?_⟩
   refine i7 (b5 (.gk 3 Z (.ret ?_)))
   obtain rfl:=oi h
   exact⟨⟨[(2,.c (.own 12 0 c59.length)),(3,(cB true))],[(oE 3 (wW start goal 1 l.length)),(oV 4 f5 l),.dead,.dead,.dead,.dead,.dead,.dead,.dead,.dead,.dead,.dead,(oV 1 eU32 c59)]⟩,(Sub.move (env':=[(2,.c (.own 12 0 c59.length)),(3,(cB true))]) (σ':=[(oE 3 (wW start goal 1 l.length)),(oV 4 f5 l),.dead,.dead,.dead,.dead,.dead,.dead,.dead,.dead,.dead,.dead,(oV 1 eU32 c59)]) 12 6 Z Z Z ⟨Z,Z,Y⟩ Z ⟨⟨Z,Z⟩,⟨Blk.im_ok _ _ _,i6 Z⟩,Y,Y,Y,Y,Y,Y,Y,Y,Y,Y,⟨Blk.im_ok _ _ _,i6 Z⟩,Y⟩).trans (Sub.env ⟨Z,Z,Y⟩),Done.ret Z ⟨Z,Z⟩⟩
  ·try dsimp only at h hq
   obtain⟨rfl,hs⟩:=hq
   refine⟨_,Sub.refl _ _,?_⟩
   refine i9 (d9 ?_)
   obtain rfl:=oi h
   exact hs
theorem ap5{t:j3}{r:(Int×Int)⊕(Int×Int×(List l8)×Li)}(h:aa2 t=some r):FnOk prog 74 [.agg (tT t)] (aC6 t) (fun tt ss=>(∃v:Int×Int,r=.inl v/\tt=.tup [.c (.imm (.val (.pointer none))),.c (row 1 eU32 []),.agg [int v.1,int v.2]]/\ss=[.dead,(oE 2 [int v.1,int v.2])])\/(∃v:Int×Int×(List l8)×Li,r=.inr v/\tt=.tup [(cP 4 0 0),.c (row 1 eU32 v.2.2.2),.agg [int 0,int 0]]/\ss=[.dead,(oE 2 [int 0,int 0]),.dead,.dead,(oE 3 [.imm (.val (.int .u32 v.1)),.imm (.val (.int .u32 v.2.1)),.own 5 0 v.2.2.1.length]),(oV 4 f5 v.2.2.1)])):=by
 refine FnOk.enter (rs:=[.t 2,.t 3,.cell 4 32 2]) func74 Z ntmps74 results74 Z ⟨Y,Y,rv _ Z,Y⟩ (by kernel_rfl) Z ?_
 refine AWP.weak ?_
 unfold aa2 at h
 refine AWP.gk 4 Z (.j (.j ?_))
 obtain⟨a10,ha10,h⟩:=b7 h
 refine AWP.G 1 Z (.u Z Z Z Z (L4 ha10) Z (.G 2 Z (.nil (b5 (.gs 2 Z (.neqP Z Z Z Z Z Z Z (.ne (.F Z h (fun hc58 h=> ?_) (fun hc58 h=> ?_)))))))))
 ·refine AWP.j (.drawEI [3] mixed Z Z Z (d4.D 3 Z Z ?_))
  apply d4.consE (v:=.undef);exact Z;exact Z;intro E
  refine W.storeAgg Z Z Z Z Z Z Z .N
  exact Z
  exact Z
  refine d4.done Z ?_ ?_
  ·refine i5.D 4 Z Z (i5.nil)
  dsimp only[l9]
  refine b5 (.nilrow 1 3 Z (.ret (d9 ?_)))
  obtain rfl:=oi h
  exact⟨⟨[(2,.c (.imm (.val (.pointer none)))),(3,.c (row 1 eU32 [])),(4,(cP 1 0 0))],[.dead,(oE 2 [int a10.code,int a10.index])]⟩,Sub.cut ⟨Z,Z,Z,Y⟩ Z ⟨.dead,.one Z,Y⟩ Z,Done.ret Z (.inl ⟨_,Z,Z,Z⟩)⟩
 ·refine AWP.skip (b5 (.j ?_))
  obtain⟨a16,ha16,h⟩:=b7 h
  refine AWP.G 1 Z (.callF (r2:=(cP 4 0 0)) (σ'':=[(oE 4 (tT t)),(oE 2 [int 0,int 0]),(oE 2 [int a10.code,int a10.index]),.dead,(oE 3 [.imm (.val (.int .u32 a16.1)),.imm (.val (.int .u32 a16.2.1)),.own 5 0 a16.2.2.length]),(oV 4 f5 a16.2.2)]) Z Z Z (FnOk.lend [] (space_Of_w_ok ha16) Z Z Z Z Z Z (by exact Y) Z (by exact Y) Z Z (by exact⟨(.old Z Z Z),(.old Z Z Z),(.old Z Z Z),.dead,(.new 1 Z Z (.one Z)),(.new 2 Z Z .vec),Y⟩)) (.B Z Z (.nil (b5 (.j ?_)))))
  obtain⟨a20,ha20,h⟩:=b7 h
  refine AWP.G 1 Z (S.mkIfc Z Z Z (.callF (r2:=.tup [.c (.own 16 0 a20.1.length),(cB a20.2)]) (σ'':=[(oE 4 (tT t)),(oE 2 [int 0,int 0]),(oE 2 [int a10.code,int a10.index]),.dead,(oE 3 [.imm (.val (.int .u32 a16.1)),.imm (.val (.int .u32 a16.2.1)),.own 5 0 a16.2.2.length]),(oV 4 f5 a16.2.2),.dead,.dead,.dead,.dead,.dead,.dead,.dead,.dead,.dead,.dead,(oV 1 eU32 a20.1)]) Z Z Z (FnOk.lend [4,5] (ay5 ha20) Z Z Z Z Z Z (by exact⟨(.one Z),.vec,Y⟩) Z (by exact⟨(.live Z (.one Z)),(.live Z .vec),Y⟩) Z Z (by exact⟨(.old Z Z Z),(.old Z Z Z),(.old Z Z Z),.dead,(.new 0 Z Z (.one Z)),(.new 1 Z Z .vec),.dead,.dead,.dead,.dead,.dead,.dead,.dead,.dead,.dead,.dead,(.new 12 Z Z .vec),Y⟩)) (.G 5 Z (.nil (b5 (.j (.gk 2 Z (.F Z h (fun hc59 h=> ?_) (fun hc59 h=> ?_)))))))))
  ·refine AWP.gk 4 Z (.nilrow 1 3 Z (.ret (d9 ?_)))
   obtain rfl:=oi h
   exact⟨⟨[(2,.c (.imm (.val (.pointer none)))),(3,.c (row 1 eU32 [])),(4,(cP 1 0 0))],[.dead,(oE 2 [int 10,int (-7)])]⟩,Sub.cut ⟨Z,Z,Z,Y⟩ Z ⟨.dead,.one Z,Y⟩ Z,Done.ret Z (.inl ⟨_,Z,Z,Z⟩)⟩
  ·refine AWP.skip (b5 (.j ?_))
   obtain⟨a27,ha27,h⟩:=b7 h
   refine AWP.G 1 Z (S.sortFU ha27 (fun hy=>aC1 hy) sortF_Lu32_ok (⟨_,func99,Z,Z⟩) Z Z Z Z Z Z ?_)
   refine AOps.nil (b5 (.gk 6 Z (.frzV (id:=16) (l:=a27) (env2:=[(2,(cP 4 0 0)),(3,.c (row 1 eU32 a27)),(4,(cP 1 0 0))]) (σ2:=[(oE 4 (tT t)),(oE 2 [int 0,int 0]),(oE 2 [int a10.code,int a10.index]),.dead,(oE 3 [.imm (.val (.int .u32 a16.1)),.imm (.val (.int .u32 a16.2.1)),.own 5 0 a16.2.2.length]),(oV 4 f5 a16.2.2),.dead,.dead,.dead,.dead,.dead,.dead,.dead,.dead,.dead,.dead,.dead]) Z Z (by exact⟨⟨_,Z,.inl ⟨Z,Z⟩⟩,⟨_,Z,.inr ⟨_,Z,(sortFU_len ha27),Z⟩⟩,⟨_,Z,.inl ⟨Z,Z⟩⟩,Y⟩) Z (by exact⟨⟨Z,.inl ⟨Z,Z⟩,.inl ⟨Z,Z⟩,.inl ⟨Z,Z⟩,.inl ⟨Z,Z⟩,Y⟩,⟨Z,.inl ⟨Z,Z⟩,.inl ⟨Z,Z⟩,Y⟩,⟨Z,.inl ⟨Z,Z⟩,.inl ⟨Z,Z⟩,Y⟩,Y,⟨Z,.inl ⟨Z,Z⟩,.inl ⟨Z,Z⟩,.inl ⟨Z,Z⟩,Y⟩,FrzB.vec,Y,Y,Y,Y,Y,Y,Y,Y,Y,Y,Y,Y⟩) (.ret ?_))))
   obtain rfl:=oi h
   exact⟨⟨[(2,(cP 4 0 0)),(3,.c (row 1 eU32 a27)),(4,(cP 1 0 0))],[.dead,(oE 2 [int 0,int 0]),.dead,.dead,(oE 3 [.imm (.val (.int .u32 a16.1)),.imm (.val (.int .u32 a16.2.1)),.own 5 0 a16.2.2.length]),(oV 4 f5 a16.2.2)]⟩,Sub.cut ⟨Z,Z,Z,Y⟩ Z ⟨.dead,.one Z,.dead,.dead,.one Z,.vec,Y⟩ Z,Done.ret Z (.inr ⟨_,Z,Z,Z⟩)⟩
theorem at6{r:Unit}(h:W0=some r):FnOk prog 101 [] (as9) (fun tt ss=>tt=(cP 2 0 0)/\ss=[.one (pmap 1 vU ([]:List (Int×Int))),pool 4 b8 ([]:List b9),(oE 3 [.own 3 0 (([]:Li).length),.map 0,int 0]),.one (prow 1 ([]:Li))]):=by
 refine FnOk.enter (rs:=[.t 0]) func101 Z ntmps101 results101 Z ⟨Y,Y⟩ (by kernel_rfl) Z ?_
 refine AWP.weak ?_
 unfold W0 at h
 refine AWP.gk 1 Z (.j (.U (W.makeMapP 1 vU Z Z Z (.sub (Sub.newPool (size:=4) (f:=b8) Z) (.ge 3 Z (.virtP 1 (b:=2) (o:=0) Z Z Z Z Z Z (.ret ?_)))))))
 obtain rfl:=oi h
 exact Done.e Z ⟨Z,Z⟩
theorem ay0{sv:Int}{start:Int}{goal:Int}{l:List l8}{r:Unit}(h:Y7 sv start goal l=some r):FnOk prog 102 [(cP 0 0 0),.c (.imm (.val (.int .u32 sv)))] (ax2 sv start goal l) (fun tt ss=>tt=(cB (decide (Go.bits .and .u32 sv goal=goal)))/\ss=[(oE 3 (wW start goal 1 l.length)),(oV 4 f5 l)]):=by
 refine FnOk.enter (rs:=[.t 4]) func102 Z ntmps102 results102 Z ⟨Y,Y⟩ (by kernel_rfl) Z ?_
 refine AWP.weak ?_
 unfold Y7 at h
 refine AWP.gk 1 Z (.j (.drawI mixed Z (d7.D 5 Z ?_)))
 refine d7.consF Z (fun E=>.bits Z Z Z (by simp) .N) Z ?_
 refine d7.D 6 Z (d7.done ?_)
 dsimp only[l9]
 refine b5 (.ret ?_)
 obtain rfl:=oi h
 exact Done.e Z ⟨Z,Z⟩
theorem H9{l:Li}{l2:List b9}{r:Unit}(h:B0 l l2=some r):FnOk prog 191 [.c (.own 0 0 l.length)] (al0 l l2) (fun tt ss=>tt=(cI (l.length:Int))/\ss=[.one (prow 1 l),pool 4 b8 l2]):=by
 refine FnOk.enter (rs:=[.t 2]) func191 Z ntmps191 results191 Z ⟨Y,Y⟩ (by kernel_rfl) Z ?_
 refine AWP.weak ?_
 unfold B0 at h
 refine AWP.gk 1 Z (.gs 1 Z (.lenOwnB Z Z Z (fun hl4=>.ge 1 Z (.ret ?_))))
 obtain rfl:=oi h
 exact Done.e Z ⟨Z,Z⟩
theorem G9{iv:Int}{kv:Int}{l:Li}{l4:List b9}{r:Bool}(h:A6 iv kv l l4=some r):FnOk prog 192 [.c (.own 0 0 l.length),(cI iv),(cI kv)] (ak5 iv kv l l4) (fun tt ss=>tt=(cB r)/\ss=[.one (prow 1 l),pool 4 b8 l4]):=by
 refine FnOk.enter (rs:=[.t 6]) func192 Z ntmps192 results192 Z ⟨Y,Y⟩ (by kernel_rfl) Z ?_
 refine AWP.weak ?_
 unfold A6 at h
 refine AWP.gk 1 Z ?_
 obtain⟨a9,ha9,en56,hen56,a16,ha16,h⟩:=b3 h
 obtain⟨en57,hen57,h⟩:=b7 h
 refine AWP.seqJ (⟨[(6,(cB ((decide (en56.key<en57.key))||((decide (en56.key=en57.key)) && (decide (en56.time<en57.time))))))],[.one (prow 1 l),pool 4 b8 l4]⟩) ?_ ?_
 ·rcases bft (decide (en56.key<en57.key)) with hb1|hb1
  ·refine AWP.drawI mixed Z (d7.D 2 Z ?_)
   refine d7.consF Z (fun E=>S.idxPb Z Z Z (by simpa only[lS] using F5 ha9) Z Z .N) Z (.consF Z (fun E=>S.loadP ha9 Z Z Z Z .N) Z (.consF Z (fun E=>S.nilCheckE Z Z (by simpa only[lS] using o7 hen56) Z .N) Z (.consF Z (fun E=>S.fieldE Z Z Z (by simpa only[lS] using o7 hen56) Z .N) Z (.consF Z (fun E=>.load Z Z (D0 Z hen56) Z Z Z .N) Z ?_))))
   refine d7.D 2 Z ?_
   refine d7.consF Z (fun E=>S.idxPb Z Z Z (by simpa only[lS] using F5 ha16) Z Z .N) Z (.consF Z (fun E=>S.loadP ha16 Z Z Z Z .N) Z (.consF Z (fun E=>S.nilCheckE Z Z (by simpa only[lS] using o7 hen57) Z .N) Z (.consF Z (fun E=>S.fieldE Z Z Z (by simpa only[lS] using o7 hen57) Z .N) Z (.consF Z (fun E=>.load Z Z (D0 Z hen57) Z Z Z .N) Z ?_))))
   refine d7.D 2 Z (d7.K Z hb1 Z (d7.D 34 Z (d7.done ?_)))
   dsimp only[l9]
   refine b5 ?_
   simp only[G6 hb1,or_t hb1,ip,ir,io,iq]
   exact Sub.en Z
  ·rcases bft (decide (en56.key=en57.key)) with hb2|hb2
   ·refine AWP.drawI mixed Z (d7.D 2 Z ?_)
    refine d7.consF Z (fun E=>S.idxPb Z Z Z (by simpa only[lS] using F5 ha9) Z Z .N) Z (.consF Z (fun E=>S.loadP ha9 Z Z Z Z .N) Z (.consF Z (fun E=>S.nilCheckE Z Z (by simpa only[lS] using o7 hen56) Z .N) Z (.consF Z (fun E=>S.fieldE Z Z Z (by simpa only[lS] using o7 hen56) Z .N) Z (.consF Z (fun E=>.load Z Z (D0 Z hen56) Z Z Z .N) Z ?_))))
    refine d7.D 2 Z ?_
    refine d7.consF Z (fun E=>S.idxPb Z Z Z (by simpa only[lS] using F5 ha16) Z Z .N) Z (.consF Z (fun E=>S.loadP ha16 Z Z Z Z .N) Z (.consF Z (fun E=>S.nilCheckE Z Z (by simpa only[lS] using o7 hen57) Z .N) Z (.consF Z (fun E=>S.fieldE Z Z Z (by simpa only[lS] using o7 hen57) Z .N) Z (.consF Z (fun E=>.load Z Z (D0 Z hen57) Z Z Z .N) Z ?_))))
    refine d7.D 2 Z (d7.K Z hb1 Z (d7.D 2 Z ?_))
    refine d7.consF Z (fun E=>.E Z Z Z Z (S.idxPb Z Z Z (by simpa only[lS] using F5 ha9) Z Z .N)) Z (.consF Z (fun E=>.E Z Z Z Z (S.loadP ha9 Z Z Z Z .N)) Z (.consF Z (fun E=>.E Z Z Z Z (S.nilCheckE Z Z (by simpa only[lS] using o7 hen56) Z .N)) Z (.consF Z (fun E=>.E Z Z Z Z (S.fieldE Z Z Z (by simpa only[lS] using o7 hen56) Z .N)) Z (.consF Z (fun E=>.E Z Z Z Z (.load Z Z (D0 Z hen56) Z Z Z .N)) Z ?_))))
    refine d7.D 2 Z ?_
    refine d7.consF Z (fun E=>.E Z Z Z Z (S.idxPb Z Z Z (by simpa only[lS] using F5 ha16) Z Z .N)) Z (.consF Z (fun E=>.E Z Z Z Z (S.loadP ha16 Z Z Z Z .N)) Z (.consF Z (fun E=>.E Z Z Z Z (S.nilCheckE Z Z (by simpa only[lS] using o7 hen57) Z .N)) Z (.consF Z (fun E=>.E Z Z Z Z (S.fieldE Z Z Z (by simpa only[lS] using o7 hen57) Z .N)) Z (.consF Z (fun E=>.E Z Z Z Z (.load Z Z (D0 Z hen57) Z Z Z .N)) Z ?_))))
    refine d7.D 2 Z (d7.K Z hb2 Z (d7.D 2 Z ?_))
    refine d7.consF Z (fun E=>.E Z Z Z Z (S.idxPb Z Z Z (by simpa only[lS] using F5 ha9) Z Z .N)) Z (.consF Z (fun E=>.E Z Z Z Z (S.loadP ha9 Z Z Z Z .N)) Z (.consF Z (fun E=>.E Z Z Z Z (S.nilCheckE Z Z (by simpa only[lS] using o7 hen56) Z .N)) Z (.consF Z (fun E=>.E Z Z Z Z (S.fieldE Z Z Z (by simpa only[lS] using o7 hen56) Z .N)) Z (.consF Z (fun E=>.E Z Z Z Z (.load Z Z (D0 Z hen56) Z Z Z .N)) Z ?_))))
    refine d7.D 2 Z ?_
    refine d7.consF Z (fun E=>.E Z Z Z Z (S.idxPb Z Z Z (by simpa only[lS] using F5 ha16) Z Z .N)) Z (.consF Z (fun E=>.E Z Z Z Z (S.loadP ha16 Z Z Z Z .N)) Z (.consF Z (fun E=>.E Z Z Z Z (S.nilCheckE Z Z (by simpa only[lS] using o7 hen57) Z .N)) Z (.consF Z (fun E=>.E Z Z Z Z (S.fieldE Z Z Z (by simpa only[lS] using o7 hen57) Z .N)) Z (.consF Z (fun E=>.E Z Z Z Z (.load Z Z (D0 Z hen57) Z Z Z .N)) Z ?_))))
    refine d7.D 4 Z (d7.done ?_)
    dsimp only[l9]
    refine b5 ?_
    simp only[B9 hb1,or_f hb1,G6 hb2,or_t hb2,ip,ir,io,iq]
    exact Sub.en Z
   ·refine AWP.drawI mixed Z (d7.D 2 Z ?_)
    refine d7.consF Z (fun E=>S.idxPb Z Z Z (by simpa only[lS] using F5 ha9) Z Z .N) Z (.consF Z (fun E=>S.loadP ha9 Z Z Z Z .N) Z (.consF Z (fun E=>S.nilCheckE Z Z (by simpa only[lS] using o7 hen56) Z .N) Z (.consF Z (fun E=>S.fieldE Z Z Z (by simpa only[lS] using o7 hen56) Z .N) Z (.consF Z (fun E=>.load Z Z (D0 Z hen56) Z Z Z .N) Z ?_))))
    refine d7.D 2 Z ?_
    refine d7.consF Z (fun E=>S.idxPb Z Z Z (by simpa only[lS] using F5 ha16) Z Z .N) Z (.consF Z (fun E=>S.loadP ha16 Z Z Z Z .N) Z (.consF Z (fun E=>S.nilCheckE Z Z (by simpa only[lS] using o7 hen57) Z .N) Z (.consF Z (fun E=>S.fieldE Z Z Z (by simpa only[lS] using o7 hen57) Z .N) Z (.consF Z (fun E=>.load Z Z (D0 Z hen57) Z Z Z .N) Z ?_))))
    refine d7.D 2 Z (d7.K Z hb1 Z (d7.D 2 Z ?_))
    refine d7.consF Z (fun E=>.E Z Z Z Z (S.idxPb Z Z Z (by simpa only[lS] using F5 ha9) Z Z .N)) Z (.consF Z (fun E=>.E Z Z Z Z (S.loadP ha9 Z Z Z Z .N)) Z (.consF Z (fun E=>.E Z Z Z Z (S.nilCheckE Z Z (by simpa only[lS] using o7 hen56) Z .N)) Z (.consF Z (fun E=>.E Z Z Z Z (S.fieldE Z Z Z (by simpa only[lS] using o7 hen56) Z .N)) Z (.consF Z (fun E=>.E Z Z Z Z (.load Z Z (D0 Z hen56) Z Z Z .N)) Z ?_))))
    refine d7.D 2 Z ?_
    refine d7.consF Z (fun E=>.E Z Z Z Z (S.idxPb Z Z Z (by simpa only[lS] using F5 ha16) Z Z .N)) Z (.consF Z (fun E=>.E Z Z Z Z (S.loadP ha16 Z Z Z Z .N)) Z (.consF Z (fun E=>.E Z Z Z Z (S.nilCheckE Z Z (by simpa only[lS] using o7 hen57) Z .N)) Z (.consF Z (fun E=>.E Z Z Z Z (S.fieldE Z Z Z (by simpa only[lS] using o7 hen57) Z .N)) Z (.consF Z (fun E=>.E Z Z Z Z (.load Z Z (D0 Z hen57) Z Z Z .N)) Z ?_))))
    refine d7.D 2 Z (d7.K Z hb2 Z (d7.D 18 Z (d7.done ?_)))
    dsimp only[l9]
    refine b5 ?_
    simp only[B9 hb1,or_f hb1,B9 hb2,or_f hb2,ip,ir,io,iq]
    exact Sub.en Z
 ·refine AWP.ret ?_
  obtain rfl:=oi h
  exact Done.e Z ⟨Z,Z⟩
theorem G8{iv:Int}{kv:Int}{l:Li}{l4:List b9}{r:Li×(List b9)}(h:A7 iv kv l l4=some r):FnOk prog 193 [.c (.own 0 0 l.length),(cI iv),(cI kv)] (ak4 iv kv l l4) (fun tt ss=>tt=.tup []/\ss=[.one (prow 1 r.1),pool 4 b8 r.2]):=by
 refine FnOk.enter (rs:=[]) func193 Z ntmps193 results193 Z Y (by kernel_rfl) Z ?_
 refine AWP.weak ?_
 unfold A7 at h
 refine AWP.j ?_
 obtain⟨a12,ha12,a16,ha16,h⟩:=b2 h
 refine AWP.drawEI [13,15] mixed Z Z Z (d4.D 6 Z Z ?_)
 refine d4.consN Z Z (fun E=>S.idxPb Z Z Z (by simpa only[lS] using F5 ha12) Z Z .N) Z (.consN Z Z (fun E=>S.loadP ha12 Z Z Z Z .N) Z ?_)
 refine d4.D 2 Z Z ?_
 refine d4.consN Z Z (fun E=>S.idxPb Z Z Z (by simpa only[lS] using F5 ha16) Z Z .N) Z (.consN Z Z (fun E=>S.loadP ha16 Z Z Z Z .N) Z (.consN Z Z (fun E=>S.idxPb Z Z Z (by simpa only[lS] using F5 ha16) Z Z .N) Z ?_))
 apply d4.consE (v:=.undef);exact Z;exact Z;intro E
 refine S.storeP (a:=a12) (by simpa only[lS] using o7 ha16) Z Z Z Z .N
 exact Z
 exact Z
 refine d4.consN Z Z (fun E=>S.idxPb Z Z (by simp only[lS]) (by simpa only[lS] using F5 ha12) Z Z .N) Z ?_
 apply d4.consE (v:=.undef);exact Z;exact Z;intro E
 refine S.storeP (a:=a16) (by simpa only[lS] using o7 ha12) Z Z Z Z .N
 exact Z
 exact Z
 refine d4.done Z ?_ ?_
 ·refine i5.D 6 Z Z ?_
  refine i5.cons Z Z (.go Z Z (fun E=>S.idxPb Z Z Z (by simpa only[lS] using F5 ha12) Z Z .N) (.skip Z (.skip Z .nil))) (.cons Z Z (.go Z Z (fun E=>S.loadP ha12 Z Z Z Z .N) (.skip Z (.skip Z .nil))) ?_)
  refine i5.D 2 Z Z ?_
  refine i5.cons Z Z (.go Z Z (fun E=>S.idxPb Z Z Z (by simpa only[lS] using F5 ha16) Z Z .N) (.skip Z (.skip Z .nil))) (.cons Z Z (.go Z Z (fun E=>S.loadP ha16 Z Z Z Z .N) (.skip Z (.skip Z .nil))) (.cons Z Z (.go Z Z (fun E=>S.idxPb Z Z Z (by simpa only[lS] using F5 ha16) Z Z .N) (.skip Z (.skip Z .nil))) ?_))
  refine i5.D 1 Z Z ?_
  refine i5.cons Z Z ?_ ?_
  refine k9.skip Z ?_
  refine k9.go Z Z (fun E=>S.idxPb Z Z (by simp only[lS]) (by simpa only[lS] using F5 ha12) Z Z .N) ?_
  refine k9.skip Z (k9.nil)
  refine i5.D 1 Z Z (i5.nil)
 dsimp only[l9]
 refine b5 ?_
 obtain⟨ha57,hha57,ha58,hha58,en59,hen59,h⟩:=b3 h
 obtain⟨en60,hen60,h⟩:=b7 h
 refine AWP.drawEI [12,15] mixed Z Z Z (d4.D 2 Z Z ?_)
 refine d4.consN Z Z (fun E=>S.idxPb Z Z (by simp only[lS]) (by simpa only[lS] using F5 ha16) Z Z .N) Z (.consN Z Z (fun E=>S.loadP hha57 Z Z Z Z .N) Z ?_)
 refine d4.D 2 Z Z ?_
 refine d4.consN Z Z (fun E=>S.idxPb Z Z (by simp only[lS]) (by simpa only[lS] using F5 ha12) Z Z .N) Z (.consN Z Z (fun E=>S.loadP hha58 Z Z Z Z .N) Z ?_)
 refine d4.D 2 Z Z ?_
 refine d4.consN Z Z (fun E=>S.nilCheckE Z Z (by simpa only[lS] using o7 hen59) Z .N) Z (.consN Z Z (fun E=>S.fieldE Z Z Z (by simpa only[lS] using o7 hen59) Z .N) Z ?_)
 apply d4.consE (v:=.undef);exact Z;exact Z;intro E
 refine S.storeE (e':=(⟨en59.item,en59.key,en59.time,iv⟩:b9)) hen59 Z Z Z Z Z Z .N
 exact Z
 exact Z
 refine d4.consN Z Z (fun E=>S.nilCheckE Z Z (by simpa only[lS] using o7 hen60) Z .N) Z (.consN Z Z (fun E=>S.fieldE Z Z Z (by simpa only[lS] using o7 hen60) Z .N) Z ?_)
 apply d4.consE (v:=.undef);exact Z;exact Z;intro E
 refine S.storeE (e':=(⟨en60.item,en60.key,en60.time,kv⟩:b9)) hen60 Z Z Z Z Z Z .N
 exact Z
 exact Z
 refine d4.done Z ?_ ?_
 ·refine i5.D 2 Z Z ?_
  refine i5.cons Z Z (.go Z Z (fun E=>S.idxPb Z Z (by simp only[lS]) (by simpa only[lS] using F5 ha16) Z Z .N) (.skip Z (.skip Z .nil))) (.cons Z Z (.go Z Z (fun E=>S.loadP hha57 Z Z Z Z .N) (.skip Z (.skip Z .nil))) ?_)
  refine i5.D 2 Z Z ?_
  refine i5.cons Z Z (.go Z Z (fun E=>S.idxPb Z Z (by simp only[lS]) (by simpa only[lS] using F5 ha12) Z Z .N) (.skip Z (.skip Z .nil))) (.cons Z Z (.go Z Z (fun E=>S.loadP hha58 Z Z Z Z .N) (.skip Z (.skip Z .nil))) ?_)
  refine i5.D 2 Z Z ?_
  refine i5.cons Z Z (.go Z Z (fun E=>S.nilCheckE Z Z (by simpa only[lS] using o7 hen59) Z .N) (.skip Z (.skip Z .nil))) (.cons Z Z (.go Z Z (fun E=>S.fieldE Z Z Z (by simpa only[lS] using o7 hen59) Z .N) (.skip Z (.skip Z .nil))) ?_)
  refine i5.D 1 Z Z ?_
  refine i5.cons Z Z ?_ ?_
  refine k9.skip Z ?_
  refine k9.go Z Z (fun E=>S.nilCheckE Z Z (by simpa only[lS] using o7 hen60) Z .N) ?_
  refine k9.skip Z (k9.nil)
  refine i5.cons Z Z ?_ ?_
  refine k9.skip Z ?_
  refine k9.go Z Z (fun E=>S.fieldE Z Z Z (by simpa only[lS] using o7 hen60) Z .N) ?_
  refine k9.skip Z (k9.nil)
  refine i5.D 1 Z Z (i5.nil)
 dsimp only[l9]
 obtain rfl:=oi h
 exact⟨⟨[],[.one (prow 1 ((l.set iv.toNat a12).set kv.toNat a16)),pool 4 b8 ((l4.set ha57.toNat (⟨en59.item,en59.key,en59.time,iv⟩:b9)).set ha58.toNat (⟨en60.item,en60.key,en60.time,kv⟩:b9))]⟩,Sub.env Y,Done.normal Z ⟨Z,Z⟩⟩
theorem ab7{i01:Int}{nv:Int}{time:Int}{l:Li}{l5:List (Int×Int)}{l6:List b9}{r:Li×(List b9)×Bool}(h:L9 i01 nv time l l5 l6=some r):FnOk prog 158 [.c (.ifc 211 [.ptr 0 0 0] false),(cI i01),(cI nv)] (ac8 i01 nv time l l5 l6) (fun tt ss=>tt=(cB r.2.2)/\ss=[(oE 3 [.own 1 0 r.1.length,.map 2,int time]),.one (prow 3 r.1),.one (pmap 3 vU l5),pool 4 b8 r.2.1]):=by
 refine FnOk.enter (rs:=[.t 6]) func158 Z ntmps158 results158 Z ⟨Y,Y⟩ (by kernel_rfl) Z ?_
 refine AWP.weak ?_
 unfold L9 at h
 refine AWP.gk 1 Z (.gk 2 Z (.j (.q ?_)))
 obtain⟨⟨c63,c64,iv65⟩,ho1,h⟩:=b7 h
 try dsimp only at h
 refine AWP.loopS ho1 (fun(c60,c61,iv62)=>⟨[(0,.c (.ifc 211 [.ptr 0 0 0] false)),(1,(cI i01)),(2,(cI nv)),(7,(cI iv62))],[(oE 3 [.own 1 0 c60.length,.map 2,int time]),.one (prow 3 c60),.one (pmap 3 vU l5),pool 4 b8 c61]⟩) (fun(c63,c64,iv65) e st=>e=.exit 0/\Sub (ac8 i01 nv time l l5 l6) st ⟨[(1,(cI i01)),(7,(cI iv65))],[(oE 3 [.own 1 0 c63.length,.map 2,int time]),.one (prow 3 c63),.one (pmap 3 vU l5),pool 4 b8 c64]⟩) ?_ ?_ ?_
 ·exact Sub.en Z
 ·intro s o h
  obtain⟨c60,c61,iv62⟩:=s
  unfold ad1 at h
  try dsimp only at h ⊢
  refine AWP.q (.gk 4 Z (.j (.seqJ (⟨[(0,.c (.ifc 211 [.ptr 0 0 0] false)),(1,(cI i01)),(2,(cI nv)),(7,(cI iv62)),(8,(cI (w64 ((w64 (2 * iv62))+1)))),(21,(cB ((decide (nv<=w64 ((w64 (2 * iv62))+1)))||(decide (w64 ((w64 (2 * iv62))+1)<0)))))],[(oE 3 [.own 1 0 c60.length,.map 2,int time]),.one (prow 3 c60),.one (pmap 3 vU l5),pool 4 b8 c61]⟩) ?_ ?_)))
  ·rcases bft (decide (nv<=w64 ((w64 (2 * iv62))+1))) with hb1|hb1
   ·refine AWP.G 4 Z (.K Z Z hb1 (.G 3 Z (.nil (b5 ?_))))
    simp only[G6 hb1,or_t hb1,ip,ir,io,iq]
    exact Sub.en Z
   ·refine AWP.G 4 Z (.K Z Z hb1 (.G 3 Z (.nil (b5 ?_))))
    simp only[B9 hb1,or_f hb1,ip,ir,io,iq]
    exact Sub.en Z
  ·refine AWP.F Z h (fun hc66 h=> ?_) (fun hc66 h=> ?_)
   ·refine AWP.exit (k8 (K4 Z ?_))
    obtain rfl:=oi h
    refine k8 ⟨_,Z,Z,?_⟩
    exact Sub.en Z
   ·refine AWP.skip (b5 (.gk 2 Z ?_))
    obtain⟨j67,hx68,h⟩:=b7 h
    refine AWP.seqJ (⟨[(0,.c (.ifc 211 [.ptr 0 0 0] false)),(1,(cI i01)),(2,(cI nv)),(7,(cI iv62)),(9,(cI j67))],[(oE 3 [.own 1 0 c60.length,.map 2,int time]),.one (prow 3 c60),.one (pmap 3 vU l5),pool 4 b8 c61]⟩) ?_ ?_
    ·refine AWP.gk 3 Z ?_
     obtain⟨t69,hx70,hx68⟩:=b7 hx68
     refine AWP.seqJ (⟨[(0,.c (.ifc 211 [.ptr 0 0 0] false)),(1,(cI i01)),(2,(cI nv)),(7,(cI iv62)),(9,(cI (w64 ((w64 (2 * iv62))+1)))),(10,(cI (w64 ((w64 ((w64 (2 * iv62))+1))+1)))),(33,(cB t69))],[(oE 3 [.own 1 0 c60.length,.map 2,int time]),.one (prow 3 c60),.one (pmap 3 vU l5),pool 4 b8 c61]⟩) ?_ ?_
     ·rcases bft (decide (w64 ((w64 ((w64 (2 * iv62))+1))+1)<nv)) with hb71|hb71
      ·replace hx70:=K6 hb71 hx70
       obtain⟨a32,ha32,hx70⟩:=b7 hx70
       refine AWP.G 4 Z (.K Z Z hb71 (.G 3 Z (.E Z Z Z Z (S.invokeV (r2:=(cB a32)) (σ'':=[(oE 3 [.own 1 0 c60.length,.map 2,int time]),.one (prow 3 c60),.one (pmap 3 vU l5),pool 4 b8 c61]) Z Z Z Z Z Z Z (FnOk.lend [1,3] (G9 ha32) Z Z Z Z Z Z (by exact⟨(.one (m7 Z)),(.any s8),Y⟩) Z (by exact⟨(.live Z (.one (l7 fun _=>Z))),(.live Z RenE.pool),Y⟩) Z Z (by exact⟨(.old Z Z Z),(.new 0 Z Z (.one (l7 fun _=>Z))),(.old Z Z Z),(.new 1 Z Z RenE.pool),Y⟩)) (.G 1 Z (.nil ?_))))))
       obtain rfl:=oi hx70
       refine b5 (Sub.en Z)
      ·replace hx70:=K0 hb71 hx70
       refine AWP.G 4 Z (.K Z Z hb71 (.G 5 Z (.nil ?_)))
       obtain rfl:=oi hx70
       refine b5 (Sub.en Z)
     ·refine AWP.F Z hx68 (fun hc72 hx68=> ?_) (fun hc72 hx68=> ?_)
      ·refine AWP.G 2 Z (.nil ?_)
       obtain rfl:=oi hx68
       refine b5 (Sub.en Z)
      ·refine AWP.skip ?_
       obtain rfl:=oi hx68
       refine b5 (Sub.en Z)
    ·refine AWP.j (.j ?_)
     obtain⟨a38,ha38,h⟩:=b7 h
     refine AWP.G 3 Z (S.invokeV (r2:=(cB a38)) (σ'':=[(oE 3 [.own 1 0 c60.length,.map 2,int time]),.one (prow 3 c60),.one (pmap 3 vU l5),pool 4 b8 c61]) Z Z Z Z Z Z Z (FnOk.lend [1,3] (G9 ha38) Z Z Z Z Z Z (by exact⟨(.one (m7 Z)),(.any s8),Y⟩) Z (by exact⟨(.live Z (.one (l7 fun _=>Z))),(.live Z RenE.pool),Y⟩) Z Z (by exact⟨(.old Z Z Z),(.new 0 Z Z (.one (l7 fun _=>Z))),(.old Z Z Z),(.new 1 Z Z RenE.pool),Y⟩)) (.not Z Z (.nil (b5 (.F Z h (fun hc73 h=> ?_) (fun hc73 h=> ?_))))))
     ·refine AWP.exit (k8 (K4 Z ?_))
      obtain rfl:=oi h
      refine k8 ⟨_,Z,Z,?_⟩
      exact Sub.en Z
     ·refine AWP.skip (b5 (.j ?_))
      obtain⟨a43,ha43,u74,hu74,h⟩:=b2 h
      refine AWP.G 3 Z (S.invokeV (r2:=.tup []) (σ'':=[(oE 3 [.own 1 0 c60.length,.map 2,int time]),.one (prow 3 a43.1),.one (pmap 3 vU l5),pool 4 b8 a43.2]) Z Z Z Z Z Z Z (FnOk.lend [1,3] (G8 ha43) Z Z Z Z Z Z (by exact⟨(.one (m7 Z)),(.any s8),Y⟩) Z (by exact⟨(.live Z (.one (l7 fun _=>Z))),(.live Z RenE.pool),Y⟩) Z Z (by exact⟨(.old Z Z Z),(.new 0 Z Z (.one (l7 fun _=>Z))),(.old Z Z Z),(.new 1 Z Z RenE.pool),Y⟩)) (.nil (b5 (.G 2 Z (.nil (d6 ?_))))))
      obtain rfl:=oi h
      refine b5 ⟨_,Z,?_⟩
      exact Sub.cut ⟨Z,Z,Z,Z,Y⟩ Z ⟨(.eq Z (by first|rfl|rw[(az9 hu74)]|(simp only[lS];done))),(.one (m7 Z)),(.one (p9 Z)),(.any s8),Y⟩ Z
 ·intro e s hq
  obtain⟨rfl,hs⟩:=hq
  refine⟨_,hs,?_⟩
  refine i7 (b5 (.gk 4 Z (.ret ?_)))
  obtain rfl:=oi h
  exact Done.e Z ⟨Z,Z⟩
theorem af0{j:Int}{time:Int}{l:Li}{l4:List (Int×Int)}{l5:List b9}{r:Li×(List b9)}(h:Q7 j time l l4 l5=some r):FnOk prog 159 [.c (.ifc 211 [.ptr 0 0 0] false),(cI j)] (af5 j time l l4 l5) (fun tt ss=>tt=.tup []/\ss=[(oE 3 [.own 1 0 r.1.length,.map 2,int time]),.one (prow 3 r.1),.one (pmap 3 vU l4),pool 4 b8 r.2]):=by
 refine FnOk.enter (rs:=[]) func159 Z ntmps159 results159 Z Y (by kernel_rfl) Z ?_
 refine AWP.weak ?_
 unfold Q7 at h
 refine AWP.q ?_
 obtain⟨⟨c61,c62⟩,ho1,h⟩:=b7 h
 try dsimp only at h
 refine AWP.loopS ho1 (fun(c58,c59,j60)=>⟨[(0,.c (.ifc 211 [.ptr 0 0 0] false)),(1,(cI j60))],[(oE 3 [.own 1 0 c58.length,.map 2,int time]),.one (prow 3 c58),.one (pmap 3 vU l4),pool 4 b8 c59]⟩) (fun(c61,c62) e st=>e=.exit 0/\Sub (af5 j time l l4 l5) st ⟨[],[(oE 3 [.own 1 0 c61.length,.map 2,int time]),.one (prow 3 c61),.one (pmap 3 vU l4),pool 4 b8 c62]⟩) ?_ ?_ ?_
 ·exact Sub.en Z
 ·intro s o h
  obtain⟨c58,c59,j60⟩:=s
  unfold af2 at h
  try dsimp only at h ⊢
  refine AWP.q (.j ?_)
  obtain⟨u7,hu7,h⟩:=b7 h
  refine AWP.G 2 Z (S.quo hu7 Z Z Z (.B Z Z (.nil (b5 (.j ?_)))))
  obtain⟨t63,hx64,h⟩:=b7 h
  refine AWP.seqJ (⟨[(0,.c (.ifc 211 [.ptr 0 0 0] false)),(1,(cI j60)),(4,(cI (w64 ((w64 (j60 - 1)).tdiv 2)))),(17,(cB t63))],[(oE 3 [.own 1 0 c58.length,.map 2,int time]),.one (prow 3 c58),.one (pmap 3 vU l4),pool 4 b8 c59]⟩) ?_ ?_
  ·rcases bft (decide (w64 ((w64 (j60 - 1)).tdiv 2)=j60)) with hb65|hb65
   ·replace hx64:=K6 hb65 hx64
    refine AWP.G 4 Z (.K Z Z hb65 (.G 6 Z (.nil ?_)))
    obtain rfl:=oi hx64
    refine b5 (Sub.en Z)
   ·replace hx64:=K0 hb65 hx64
    obtain⟨a15,ha15,hx64⟩:=b7 hx64
    refine AWP.G 4 Z (.K Z Z hb65 (.G 3 Z (.E Z Z Z Z (S.invokeV (r2:=(cB a15)) (σ'':=[(oE 3 [.own 1 0 c58.length,.map 2,int time]),.one (prow 3 c58),.one (pmap 3 vU l4),pool 4 b8 c59]) Z Z Z Z Z Z Z (FnOk.lend [1,3] (G9 ha15) Z Z Z Z Z Z (by exact⟨(.one (m7 Z)),(.any s8),Y⟩) Z (by exact⟨(.live Z (.one (l7 fun _=>Z))),(.live Z RenE.pool),Y⟩) Z Z (by exact⟨(.old Z Z Z),(.new 0 Z Z (.one (l7 fun _=>Z))),(.old Z Z Z),(.new 1 Z Z RenE.pool),Y⟩)) (.G 2 Z (.nil ?_))))))
    obtain rfl:=oi hx64
    refine b5 (Sub.en Z)
  ·refine AWP.F Z h (fun hc66 h=> ?_) (fun hc66 h=> ?_)
   ·refine AWP.exit (k8 (K4 Z ?_))
    obtain rfl:=oi h
    refine k8 ⟨_,Z,Z,?_⟩
    exact Sub.env Y
   ·refine AWP.skip (b5 (.j ?_))
    obtain⟨a21,ha21,u67,hu67,h⟩:=b2 h
    refine AWP.G 3 Z (S.invokeV (r2:=.tup []) (σ'':=[(oE 3 [.own 1 0 c58.length,.map 2,int time]),.one (prow 3 a21.1),.one (pmap 3 vU l4),pool 4 b8 a21.2]) Z Z Z Z Z Z Z (FnOk.lend [1,3] (G8 ha21) Z Z Z Z Z Z (by exact⟨(.one (m7 Z)),(.any s8),Y⟩) Z (by exact⟨(.live Z (.one (l7 fun _=>Z))),(.live Z RenE.pool),Y⟩) Z Z (by exact⟨(.old Z Z Z),(.new 0 Z Z (.one (l7 fun _=>Z))),(.old Z Z Z),(.new 1 Z Z RenE.pool),Y⟩)) (.nil (b5 (.G 2 Z (.nil (d6 ?_))))))
    obtain rfl:=oi h
    refine b5 ⟨_,Z,?_⟩
    exact Sub.cut ⟨Z,Z,Y⟩ Z ⟨(.eq Z (by first|rfl|rw[(az9 hu67)]|(simp only[lS];done))),(.one (m7 Z)),(.one (p9 Z)),(.any s8),Y⟩ Z
 ·intro e s hq
  obtain⟨rfl,hs⟩:=hq
  refine⟨_,hs,?_⟩
  refine i7 ?_
  obtain rfl:=oi h
  exact⟨⟨[],[(oE 3 [.own 1 0 c61.length,.map 2,int time]),.one (prow 3 c61),.one (pmap 3 vU l4),pool 4 b8 c62]⟩,Sub.env Y,Done.normal Z ⟨Z,Z⟩⟩
theorem av4{iv:Int}{time:Int}{l:Li}{l4:List (Int×Int)}{l5:List b9}{r:Li×(List b9)}(h:W5 iv time l l4 l5=some r):FnOk prog 127 [.c (.ifc 211 [.ptr 0 0 0] false),(cI iv)] (av7 iv time l l4 l5) (fun tt ss=>tt=.tup []/\ss=[(oE 3 [.own 1 0 r.1.length,.map 2,int time]),.one (prow 3 r.1),.one (pmap 3 vU l4),pool 4 b8 r.2]):=by
 refine FnOk.enter (rs:=[]) func127 Z ntmps127 results127 Z Y (by kernel_rfl) Z ?_
 refine AWP.weak ?_
 unfold W5 at h
 refine AWP.j ?_
 obtain⟨a7,ha7,a8,ha8,h⟩:=b2 h
 refine AWP.G 3 Z (S.invokeV (r2:=(cI (l.length:Int))) (σ'':=[(oE 3 [.own 1 0 l.length,.map 2,int time]),.one (prow 3 l),.one (pmap 3 vU l4),pool 4 b8 l5]) Z Z Z Z Z Z Z (FnOk.lend [1,3] (H9 ha7) Z Z Z Z Z Z (by exact⟨(.one (m7 Z)),(.any s8),Y⟩) Z (by exact⟨(.live Z (.one (l7 fun _=>Z))),(.live Z RenE.pool),Y⟩) Z Z (by exact⟨(.old Z Z Z),(.new 0 Z Z (.one (l7 fun _=>Z))),(.old Z Z Z),(.new 1 Z Z RenE.pool),Y⟩)) (.callF (r2:=(cB a8.2.2)) (σ'':=[(oE 3 [.own 1 0 a8.1.length,.map 2,int time]),.one (prow 3 a8.1),.one (pmap 3 vU l4),pool 4 b8 a8.2.1]) Z Z Z (FnOk.lend [0,1,2,3] (ab7 ha8) Z Z Z Z Z Z (by exact⟨(.one Z),(.one (m7 Z)),(.one (p9 Z)),(.any s8),Y⟩) Z (by exact⟨(.live Z (.one Z)),(.live Z (.one (l7 fun _=>Z))),(.live Z (.one (q8 fun _=>Z))),(.live Z RenE.pool),Y⟩) Z Z (by exact⟨(.new 0 Z Z (.one Z)),(.new 1 Z Z (.one (l7 fun _=>Z))),(.new 2 Z Z (.one (q8 fun _=>Z))),(.new 3 Z Z RenE.pool),Y⟩)) (.not Z Z (.nil (b5 (.F Z h (fun hc58 h=> ?_) (fun hc58 h=> ?_)))))))
 ·obtain⟨a12,ha12,h⟩:=b7 h
  refine AWP.G 2 Z (.callF (r2:=.tup []) (σ'':=[(oE 3 [.own 1 0 a12.1.length,.map 2,int time]),.one (prow 3 a12.1),.one (pmap 3 vU l4),pool 4 b8 a12.2]) Z Z Z (FnOk.lend [0,1,2,3] (af0 ha12) Z Z Z Z Z Z (by exact⟨(.one Z),(.one (m7 Z)),(.one (p9 Z)),(.any s8),Y⟩) Z (by exact⟨(.live Z (.one Z)),(.live Z (.one (l7 fun _=>Z))),(.live Z (.one (q8 fun _=>Z))),(.live Z RenE.pool),Y⟩) Z Z (by exact⟨(.new 0 Z Z (.one Z)),(.new 1 Z Z (.one (l7 fun _=>Z))),(.new 2 Z Z (.one (q8 fun _=>Z))),(.new 3 Z Z RenE.pool),Y⟩)) (.nil ?_))
  obtain rfl:=oi h
  exact⟨⟨[],[(oE 3 [.own 1 0 a12.1.length,.map 2,int time]),.one (prow 3 a12.1),.one (pmap 3 vU l4),pool 4 b8 a12.2]⟩,Sub.env Y,Done.normal Z ⟨Z,Z⟩⟩
 ·refine AWP.skip ?_
  obtain rfl:=oi h
  exact⟨⟨[],[(oE 3 [.own 1 0 a8.1.length,.map 2,int time]),.one (prow 3 a8.1),.one (pmap 3 vU l4),pool 4 b8 a8.2.1]⟩,Sub.env Y,Done.normal Z ⟨Z,Z⟩⟩
theorem ai2{xv:Int}{time:Int}{l:List b9}{l4:Li}{l5:List (Int×Int)}{r:(List b9)×Li}(h:I7 xv time l l4 l5=some r):FnOk prog 195 [(cP 0 0 0),.c (.ifc 206 [.ptr (1,[xv.toNat]) 0 0] false)] (ai3 xv time l l4 l5) (fun tt ss=>tt=.tup []/\ss=[(oE 3 [.own 6 0 r.2.length,.map 3,int time]),pool 4 b8 r.1,.dead,.one (pmap 1 vU l5),.dead,.dead,.one (prow 1 r.2)]):=by
 refine FnOk.enter (rs:=[]) func195 Z ntmps195 results195 Z Y (by kernel_rfl) Z ?_
 refine AWP.weak ?_
 unfold I7 at h
 refine AWP.z (env':=[(0,(cP 0 0 0)),(1,.c (.ifc 206 [.ptr (1,[xv.toNat]) 0 0] false))]) (σ':=[(oE 3 [.own 4 0 l4.length,.map 3,int time]),pool 4 b8 l,.dead,.one (pmap 1 vU l5),.one (prow 1 l4)]) 4 2 Z Z Z ⟨Z,Z,Y⟩ Z ⟨⟨Z,Z⟩,(y5.pool Z),Y,⟨p9 Z,E9 Z U6⟩,⟨m7 Z,E9 Z V1⟩,Y⟩ (.gs 1 Z (S.assert Z Z Z (.ge 1 Z (.j ?_))))
 obtain⟨en58,hen58,h⟩:=b7 h
 refine AWP.G 4 Z (.lenOwnB Z Z Z (fun hl11=>S.nilCheckE Z Z (by simpa only[lS] using o7 hen58) Z (S.fieldE Z Z Z (by simpa only[lS] using o7 hen58) Z (S.storeE (e':=(⟨en58.item,en58.key,en58.time,(l4.length:Int)⟩:b9)) hen58 Z Z Z Z Z Z (.nil (b5 ?_))))))
 obtain⟨a20,ha20,h⟩:=b7 h
 refine AWP.G 5 Z (W.lit1 Z Z Z Z Z Z Z Z Z (S.appendP ha20 Z Z Z Z Z Z Z Z Z Z Z Z (.G 2 Z (.nil ?_))))
 obtain rfl:=oi h
 exact⟨⟨[],[(oE 3 [.own 6 0 a20.length,.map 3,int time]),pool 4 b8 (l.set xv.toNat (⟨en58.item,en58.key,en58.time,(l4.length:Int)⟩:b9)),.dead,.one (pmap 1 vU l5),.dead,.dead,.one (prow 1 a20)]⟩,Sub.cut Y Z ⟨.one Z,(.any s8),.dead,(.one (p9 Z)),.dead,.dead,(.one (m7 Z)),Y⟩ Z,Done.normal Z ⟨Z,Z⟩⟩
theorem au0{xv:Int}{time:Int}{l:List b9}{l4:Li}{l5:List (Int×Int)}{r:(List b9)×Li}(h:V9 xv time l l4 l5=some r):FnOk prog 128 [.c (.ifc 211 [.ptr 0 0 0] false),.c (.ifc 206 [.ptr (1,[xv.toNat]) 0 0] false)] (au7 xv time l l4 l5) (fun tt ss=>tt=.tup []/\ss=[(oE 3 [.own 6 0 r.2.length,.map 3,int time]),pool 4 b8 r.1,.dead,.one (pmap 1 vU l5),.dead,.dead,.one (prow 1 r.2)]):=by
 refine FnOk.enter (rs:=[]) func128 Z ntmps128 results128 Z Y (by kernel_rfl) Z ?_
 refine AWP.weak ?_
 unfold V9 at h
 refine AWP.j ?_
 obtain⟨a6,ha6,h⟩:=b7 h
 refine AWP.G 2 Z (S.invokeP (r2:=.tup []) (σ'':=[(oE 3 [.own 6 0 a6.2.length,.map 3,int time]),pool 4 b8 a6.1,.dead,.one (pmap 1 vU l5),.dead,.dead,.one (prow 1 a6.2)]) Z Z Z (FnOk.lend [0,1,2,3] (ai2 ha6) Z Z Z Z Z Z (by exact⟨(.one Z),(.any s8),(.one (m7 Z)),(.one (p9 Z)),Y⟩) Z (by exact⟨(.live Z (.one Z)),(.live Z RenE.pool),(.live Z (.one (l7 fun _=>Z))),(.live Z (.one (q8 fun _=>Z))),Y⟩) Z Z (by exact⟨(.new 0 Z Z (.one Z)),(.new 1 Z Z RenE.pool),.dead,(.new 3 Z Z (.one (q8 fun _=>Z))),.dead,.dead,(.new 6 Z Z (.one (l7 fun _=>Z))),Y⟩)) (.nil (b5 ?_)))
 obtain⟨a9,ha9,a11,ha11,h⟩:=b2 h
 refine AWP.G 2 Z (S.invokeV (r2:=(cI (a6.2.length:Int))) (σ'':=[(oE 3 [.own 6 0 a6.2.length,.map 3,int time]),pool 4 b8 a6.1,.dead,.one (pmap 1 vU l5),.dead,.dead,.one (prow 1 a6.2)]) Z Z Z Z Z Z Z (FnOk.lend [6,1] (H9 ha9) Z Z Z Z Z Z (by exact⟨(.one (m7 Z)),(.any s8),Y⟩) Z (by exact⟨(.live Z (.one (l7 fun _=>Z))),(.live Z RenE.pool),Y⟩) Z Z (by exact⟨(.old Z Z Z),(.new 1 Z Z RenE.pool),.dead,(.old Z Z Z),.dead,.dead,(.new 0 Z Z (.one (l7 fun _=>Z))),Y⟩)) (S.sub Z Z Z (.callF (r2:=.tup []) (σ'':=[(oE 3 [.own 6 0 a11.1.length,.map 3,int time]),pool 4 b8 a11.2,.dead,.one (pmap 1 vU l5),.dead,.dead,.one (prow 1 a11.1)]) Z Z Z (FnOk.lend [0,6,3,1] (af0 ha11) Z Z Z Z Z Z (by exact⟨(.one Z),(.one (m7 Z)),(.one (p9 Z)),(.any s8),Y⟩) Z (by exact⟨(.live Z (.one Z)),(.live Z (.one (l7 fun _=>Z))),(.live Z (.one (q8 fun _=>Z))),(.live Z RenE.pool),Y⟩) Z Z (by exact⟨(.new 0 Z Z (.one Z)),(.new 3 Z Z RenE.pool),.dead,(.new 2 Z Z (.one (q8 fun _=>Z))),.dead,.dead,(.new 1 Z Z (.one (l7 fun _=>Z))),Y⟩)) (.nil ?_))))
 obtain rfl:=oi h
 exact⟨⟨[],[(oE 3 [.own 6 0 a11.1.length,.map 3,int time]),pool 4 b8 a11.2,.dead,.one (pmap 1 vU l5),.dead,.dead,.one (prow 1 a11.1)]⟩,Sub.env Y,Done.normal Z ⟨Z,Z⟩⟩
theorem R1{item:Int}{key:Int}{time:Int}{l:Li}{l5:List (Int×Int)}{l6:List b9}{r:(List (Int×Int))×Li×(List b9)}(h:E6 item key time l l5 l6=some r):FnOk prog 103 [(cP 0 0 0),.c (.imm (.val (.int .u32 item))),(cI key)] (ak0 item key time l l5 l6) (fun tt ss=>tt=.tup []/\ss=[(oE 3 [.own 4 0 r.2.1.length,.map 2,int (w64 (time+1))]),.dead,.one (pmap 5 vU r.1),.dead,.one (prow 5 r.2.1),pool 4 b8 r.2.2]):=by
 refine FnOk.enter (rs:=[]) func103 Z ntmps103 results103 Z Y (by kernel_rfl) Z ?_
 refine AWP.weak ?_
 unfold E6 at h
 refine AWP.z (env':=[(0,(cP 0 0 0)),(1,.c (.imm (.val (.int .u32 item)))),(2,(cI key))]) (σ':=[(oE 3 [.own 4 0 l.length,.map 2,int time]),.dead,.one (pmap 3 vU l5),pool 4 b8 l6,.one (prow 3 l)]) 4 1 Z Z Z ⟨Z,Z,Z,Y⟩ Z ⟨⟨Z,Z⟩,Y,⟨p9 Z,E9 Z U6⟩,(y5.pool Z),⟨m7 Z,E9 Z V1⟩,Y⟩ (.moveM (env':=[(0,(cP 0 0 0)),(1,.c (.imm (.val (.int .u32 item)))),(2,(cI key))]) (σ':=[(oE 3 [.own 4 0 l.length,.map 2,int time]),.dead,.one (pmap 5 vU l5),.dead,.one (prow 5 l),pool 4 b8 l6]) 5 3 Z Z Z ⟨Z,Z,Z,Y⟩ Z ⟨(.one Z Z),.dead,(.one (p9 Z) (M0 Z Z (q8 fun _=>Z))),.dead,(.one (m7 Z) (M0 Z Z (l7 fun _=>Z))),(EntR.pool Z Z),Y⟩ ?_)
 refine AWP.gk 8 Z (.j (.gs 5 Z (S.lookupOkP (fk:=vU) (k:=item) N5 Z Z Z Z Z (.ge 5 Z (.gk 1 Z (.F Z h (fun hc60 h=> ?_) (fun hc60 h=> ?_)))))))
 ·obtain⟨ap61,hap61,h⟩:=b7 h
  refine AWP.sub (s':=⟨[(0,(cP 0 0 0)),(1,.c (.imm (.val (.int .u32 item)))),(2,(cI key)),(6,(cP (5,[ap61.toNat]) 0 0)),(7,(cB (iI (mget l5 item)))),(9,(cP 0 0 0)),(10,(cP 0 0 0)),(11,(cP 0 0 2)),(12,(cI time)),(13,(cI (w64 (time+1)))),(14,(cP 0 0 0)),(15,(cP 0 0 2)),(17,(cP 0 0 0)),(18,(cP 0 0 0)),(19,(cP 0 0 1)),(20,.c (.map 2)),(21,.c (.imm (.val (.int .u32 item)))),(23,(cP (5,[ap61.toNat]) 0 0)),(24,(cB (iI (mget l5 item)))),(25,(cB (iI (mget l5 item))))],[(oE 3 [.own 4 0 l.length,.map 2,int (w64 (time+1))]),.dead,.one (pmap 5 vU l5),.dead,.one (prow 5 l),pool 4 b8 l6]⟩) (Sub.env ⟨Z,Z,Z,(ptrO_some hap61),Z,Z,Z,Z,Z,Z,Z,Z,Z,Z,Z,Z,Z,(ptrO_some hap61),Z,Z,Y⟩) (.j ?_)
  obtain⟨en62,hen62,h⟩:=b7 h
  refine AWP.G 7 Z (S.nilCheckE Z Z (by simpa only[lS] using o7 hen62) Z (S.fieldE Z Z Z (by simpa only[lS] using o7 hen62) Z (S.storeE (e':=(⟨en62.item,key,en62.time,en62.fat⟩:b9)) hen62 Z Z Z Z Z Z (S.nilCheckE Z Z (by simpa only[lS] using o7 hen62) Z (S.fieldE Z Z Z (by simpa only[lS] using o7 hen62) Z (S.storeE (e':=(⟨en62.item,key,w64 (time+1),en62.fat⟩:b9)) (ix_set hen62) Z Z Z Z Z Z (.nil (b5 (.j ?_)))))))))
  obtain⟨a45,ha45,h⟩:=b7 h
  refine AWP.drawEI [8] mixed Z Z Z (d4.D 3 Z Z ?_)
  refine d4.consN Z Z (fun E=>S.mkIfc Z Z Z .N) Z ?_
  refine d4.D 1 Z Z ?_
  refine d4.consN Z Z (fun E=>S.nilCheckE Z Z (by simpa only[lS] using o7 hen62) Z .N) Z (.consN Z Z (fun E=>S.fieldE Z Z Z (by simpa only[lS] using o7 hen62) Z .N) Z (.consN Z Z (fun E=>.load Z Z (D0 Z (ix_set (ix_set hen62))) Z Z Z .N) Z ?_))
  apply d4.consE;exact Z;exact Z;intro E
  refine AOps.callF (r2:=.tup []) (σ'':=[(oE 3 [.own 4 0 a45.1.length,.map 2,int (w64 (time+1))]),.dead,.one (pmap 5 vU l5),.dead,.one (prow 5 a45.1),pool 4 b8 a45.2]) Z Z Z (FnOk.lend [0,4,2,5] (av4 ha45) Z Z Z Z Z Z (by exact⟨(.one Z),(.one (m7 Z)),(.one (p9 Z)),(.any s8),Y⟩) Z (by exact⟨(.live Z (.one Z)),(.live Z (.one (l7 fun _=>Z))),(.live Z (.one (q8 fun _=>Z))),(.live Z RenE.pool),Y⟩) Z Z (by exact⟨(.new 0 Z Z (.one Z)),.dead,(.new 2 Z Z (.one (q8 fun _=>Z))),.dead,(.new 1 Z Z (.one (l7 fun _=>Z))),(.new 3 Z Z RenE.pool),Y⟩)) .N
  exact Z
  exact Z
  refine d4.done Z ?_ ?_
  ·refine i5.D 3 Z Z ?_
   refine i5.cons Z Z (.go Z Z (fun E=>S.mkIfc Z Z Z .N) (.skip Z .nil)) ?_
   refine i5.D 1 Z Z ?_
   refine i5.cons Z Z (.go Z Z (fun E=>S.nilCheckE Z Z (by simpa only[lS] using o7 hen62) Z .N) (.skip Z .nil)) (.cons Z Z (.go Z Z (fun E=>S.fieldE Z Z Z (by simpa only[lS] using o7 hen62) Z .N) (.skip Z .nil)) (.cons Z Z (.go Z Z (fun E=>.load Z Z (D0 Z (ix_set (ix_set hen62))) Z Z Z .N) (.skip Z .nil)) ?_))
   refine i5.D 1 Z Z (i5.nil)
  dsimp only[l9]
  refine b5 (.ret (d9 ?_))
  obtain rfl:=oi h
  exact⟨⟨[],[(oE 3 [.own 4 0 a45.1.length,.map 2,int (w64 (time+1))]),.dead,.one (pmap 5 vU l5),.dead,.one (prow 5 a45.1),pool 4 b8 a45.2]⟩,Sub.env Y,Done.ret Z ⟨Z,Z⟩⟩
 ·refine AWP.skip (b5 (.j ?_))
  obtain⟨u63,hu63,u64,hu64,h⟩:=b2 h
  refine AWP.G 7 Z (W.box Z Z Z Z Z Z (.sub (Sub.move (env':=[(0,(cP 0 0 0)),(1,.c (.imm (.val (.int .u32 item)))),(2,(cI key)),(7,(cB (iI (mget l5 item)))),(9,(cP 0 0 0)),(10,(cP 0 0 0)),(11,(cP 0 0 2)),(12,(cI time)),(13,(cI (w64 (time+1)))),(14,(cP 0 0 0)),(15,(cP 0 0 2)),(17,(cP 0 0 0)),(18,(cP 0 0 0)),(19,(cP 0 0 1)),(20,.c (.map 2)),(21,.c (.imm (.val (.int .u32 item)))),(24,(cB (iI (mget l5 item)))),(25,(cB (iI (mget l5 item)))),(46,.c (.imm (.val (.int .u32 item)))),(47,(cI key)),(48,(cP 0 0 0)),(49,(cP 0 0 0)),(50,(cP 0 0 2)),(51,(cI (w64 (time+1)))),(52,.agg [.imm (.val (.int .u32 item)),int key,int (w64 (time+1)),int 0]),(53,(cP (5,[(l6.length:Int).toNat]) 0 0))]) (σ':=[(oE 3 [.own 4 0 l.length,.map 2,int (w64 (time+1))]),.dead,.one (pmap 5 vU l5),.dead,.one (prow 5 l),pool 4 b8 (l6++[(⟨item,key,w64 (time+1),0⟩:b9)])]) (5,[l6.length]) (6,[]) Z Z Z ⟨Z,Z,Z,Z,Z,Z,Z,Z,Z,Z,Z,Z,Z,Z,Z,Z,Z,Z,Z,Z,Z,Z,Z,Z,Z,ptr_adopt,Y⟩ Z ⟨⟨Z,Z⟩,Y,⟨p9 Z,aw7 Z (pmap_adopt hu63) mv_root⟩,Y,⟨m7 Z,aw7 Z (prow_adopt hu64) mv_root⟩,(y5.adopt Z Z),Y⟩) (.B Z Z (.nil (b5 (.gs 6 Z (S.mapUpdateP (fk:=vU) (k:=item) (a:=(l6.length:Int)) N5 Z Z Z Z Z (.ne ?_))))))))
  obtain⟨a66,ha66,h⟩:=b7 h
  refine AWP.G 3 Z (S.mkIfc Z Z Z (.z Z Z (S.mkIfc Z Z Z (.callF (r2:=.tup []) (σ'':=[(oE 3 [.own 8 0 a66.2.length,.map 2,int (w64 (time+1))]),.dead,.one (pmap 5 vU (mset l5 item (l6.length:Int))),.dead,.dead,pool 4 b8 a66.1,.dead,.dead,.one (prow 5 a66.2)]) Z Z Z (FnOk.lend [0,5,4,2] (au0 ha66) Z Z Z Z Z Z (by exact⟨(.one Z),(.any s8),(.one (m7 Z)),(.one (p9 Z)),Y⟩) Z (by exact⟨(.live Z (.one Z)),(.live Z RenE.pool),(.live Z (.one (l7 fun _=>Z))),(.live Z (.one (q8 fun _=>Z))),Y⟩) Z Z (by exact⟨(.new 0 Z Z (.one Z)),.dead,(.new 3 Z Z (.one (q8 fun _=>Z))),.dead,.dead,(.new 1 Z Z RenE.pool),.dead,.dead,(.new 6 Z Z (.one (l7 fun _=>Z))),Y⟩)) (.nil ?_)))))
  obtain rfl:=oi h
  exact⟨⟨[],[(oE 3 [.own 4 0 a66.2.length,.map 2,int (w64 (time+1))]),.dead,.one (pmap 5 vU (mset l5 item (l6.length:Int))),.dead,.one (prow 5 a66.2),pool 4 b8 a66.1]⟩,(Sub.move (env':=[]) (σ':=[(oE 3 [.own 4 0 a66.2.length,.map 2,int (w64 (time+1))]),.dead,.one (pmap 5 vU (mset l5 item (l6.length:Int))),.dead,.one (prow 5 a66.2),pool 4 b8 a66.1,.dead,.dead]) 4 8 Z Z Z Y Z ⟨⟨Z,Z⟩,Y,⟨p9 Z,E9 Z U6⟩,Y,⟨m7 Z,E9 Z V1⟩,(y5.pool Z),Y,Y,Y⟩).trans (Sub.cut Y Z ⟨.one Z,.dead,(.one (p9 Z)),.dead,(.one (m7 Z)),(.any s8),Y⟩ Z),Done.normal Z ⟨Z,Z⟩⟩
theorem al2{time:Int}{l:Li}{l3:List (Int×Int)}{l4:List b9}{r:Unit}(h:L6 time l l3 l4=some r):FnOk prog 105 [(cP 0 0 0)] (al7 time l l3 l4) (fun tt ss=>tt=(cI (l.length:Int))/\ss=[(oE 3 [.own 1 0 l.length,.map 2,int time]),.one (prow 3 l),.one (pmap 3 vU l3),pool 4 b8 l4]):=by
 refine FnOk.enter (rs:=[.t 2]) func105 Z ntmps105 results105 Z ⟨Y,Y⟩ (by kernel_rfl) Z ?_
 refine AWP.weak ?_
 unfold L6 at h
 refine AWP.gk 1 Z (.gs 4 Z (.lenOwnB Z Z Z (fun hl7=>.ge 1 Z (.ret ?_))))
 obtain rfl:=oi h
 exact Done.e Z ⟨Z,Z⟩
theorem ak1{time:Int}{l:Li}{l3:List (Int×Int)}{l4:List b9}{r:Li×Int}(h:J8 time l l3 l4=some r):FnOk prog 194 [(cP 0 0 0)] (ak2 time l l3 l4) (fun tt ss=>tt=.c (.ifc 206 [.ptr (3,[r.2.toNat]) 0 0] false)/\ss=[(oE 3 [.own 5 0 r.1.length,.map 2,int time]),.dead,.one (pmap 3 vU l3),pool 4 b8 l4,.dead,.one (prow 3 r.1)]):=by
 refine FnOk.enter (rs:=[.t 2]) func194 Z ntmps194 results194 Z ⟨Y,Y⟩ (by kernel_rfl) Z ?_
 refine AWP.weak ?_
 unfold J8 at h
 refine AWP.z (env':=[(0,(cP 0 0 0))]) (σ':=[(oE 3 [.own 4 0 l.length,.map 2,int time]),.dead,.one (pmap 3 vU l3),pool 4 b8 l4,.one (prow 3 l)]) 4 1 Z Z Z ⟨Z,Y⟩ Z ⟨⟨Z,Z⟩,Y,⟨p9 Z,E9 Z U6⟩,(y5.pool Z),⟨m7 Z,E9 Z V1⟩,Y⟩ (.gk 1 Z (.gk 4 Z (.j ?_)))
 obtain⟨a12,ha12,h⟩:=b7 h
 refine AWP.G 2 Z (.lenOwnB Z Z Z (fun hl10=>.sub' Z Z Z (by omega) (S.idxPb Z Z Z (by simpa only[lS] using F5 ha12) Z Z (S.loadP ha12 Z Z Z Z (.B Z Z (.nil (b5 (.j ?_))))))))
 obtain⟨a19,ha19,h⟩:=b7 h
 refine AWP.G 3 Z (.lenOwnB Z Z Z (fun hl17=>.sub' Z Z Z (by omega) (S.shrinkP ha19 Z Z Z Z Z (.sub (Sub.reownP (env':=[(0,(cP 0 0 0)),(2,.c (.imm (.val .nilIface))),(4,(cP (3,[a12.toNat]) 0 0)),(5,(cP 0 0 0)),(6,(cP 0 0 0)),(10,(cI (l.length:Int))),(11,(cI ((l.length:Int) - 1))),(13,(cP (3,[a12.toNat]) 0 0)),(14,(cP 0 0 0)),(17,(cI (l.length:Int))),(18,(cI ((l.length:Int) - 1))),(19,.c (.own 5 0 a19.length))]) 19 ha19 Z Z Z Z Z Z Z (by exact⟨.inr Z,.inr Z,.inr Z,.inr Z,.inr Z,.inr Z,.inr Z,.inr Z,.inr Z,.inr Z,.inr Z,.inl ⟨Z,Z⟩,Y⟩)) (.G 2 Z (.nil (b5 (.gs 1 Z (S.mkIfc Z Z Z (.ge 1 Z (.ret ?_)))))))))))
 obtain rfl:=oi h
 exact Done.e Z ⟨Z,Z⟩
theorem av2{time:Int}{l:Li}{l3:List (Int×Int)}{l4:List b9}{r:(List b9)×Li×Int}(h:X4 time l l3 l4=some r):FnOk prog 130 [.c (.ifc 211 [.ptr 0 0 0] false)] (av0 time l l3 l4) (fun tt ss=>tt=.c (.ifc 206 [.ptr (3,[r.2.2.toNat]) 0 0] false)/\ss=[(oE 3 [.own 5 0 r.2.1.length,.map 2,int time]),.dead,.one (pmap 3 vU l3),pool 4 b8 r.1,.dead,.one (prow 3 r.2.1)]):=by
 refine FnOk.enter (rs:=[.t 2]) func130 Z ntmps130 results130 Z ⟨Y,Y⟩ (by kernel_rfl) Z ?_
 refine AWP.weak ?_
 unfold X4 at h
 refine AWP.gk 1 Z (.j ?_)
 obtain⟨a5,ha5,h⟩:=b7 h
 refine AWP.G 1 Z (S.invokeV (r2:=(cI (l.length:Int))) (σ'':=[(oE 3 [.own 1 0 l.length,.map 2,int time]),.one (prow 3 l),.one (pmap 3 vU l3),pool 4 b8 l4]) Z Z Z Z Z Z Z (FnOk.lend [1,3] (H9 ha5) Z Z Z Z Z Z (by exact⟨(.one (m7 Z)),(.any s8),Y⟩) Z (by exact⟨(.live Z (.one (l7 fun _=>Z))),(.live Z RenE.pool),Y⟩) Z Z (by exact⟨(.old Z Z Z),(.new 0 Z Z (.one (l7 fun _=>Z))),(.old Z Z Z),(.new 1 Z Z RenE.pool),Y⟩)) (.G 2 Z (.nil (b5 (.j ?_)))))
 obtain⟨a9,ha9,u58,hu58,h⟩:=b2 h
 refine AWP.G 2 Z (S.invokeV (r2:=.tup []) (σ'':=[(oE 3 [.own 1 0 l.length,.map 2,int time]),.one (prow 3 a9.1),.one (pmap 3 vU l3),pool 4 b8 a9.2]) Z Z Z Z Z Z Z (FnOk.lend [1,3] (G8 ha9) Z Z Z Z Z Z (by exact⟨(.one (m7 Z)),(.any s8),Y⟩) Z (by exact⟨(.live Z (.one (l7 fun _=>Z))),(.live Z RenE.pool),Y⟩) Z Z (by exact⟨(.old Z Z Z),(.new 0 Z Z (.one (l7 fun _=>Z))),(.old Z Z Z),(.new 1 Z Z RenE.pool),Y⟩)) (.nil (b5 (.j ?_))))
 obtain⟨a12,ha12,h⟩:=b7 h
 refine AWP.G 2 Z (.sub (s':=⟨[(0,.c (.ifc 211 [.ptr 0 0 0] false)),(2,.c (.imm (.val .nilIface))),(3,(cI (w64 ((l.length:Int) - 1)))),(4,.c (.ifc 211 [.ptr 0 0 0] false)),(5,(cI (l.length:Int))),(6,(cI (w64 ((l.length:Int) - 1)))),(7,.c (.ifc 211 [.ptr 0 0 0] false)),(8,(cI (w64 ((l.length:Int) - 1)))),(9,.tup []),(10,.c (.ifc 211 [.ptr 0 0 0] false)),(11,(cI (w64 ((l.length:Int) - 1))))],[(oE 3 [.own 1 0 a9.1.length,.map 2,int time]),.one (prow 3 a9.1),.one (pmap 3 vU l3),pool 4 b8 a9.2]⟩) (Sub.cut ⟨Z,Z,Z,Z,Z,Z,Z,Z,Z,Z,Z,Y⟩ Z ⟨(.eq Z (by rw[(az9 hu58)])),(.one (m7 Z)),(.one (p9 Z)),(.any s8),Y⟩ Z) (.callF (r2:=(cB a12.2.2)) (σ'':=[(oE 3 [.own 1 0 a12.1.length,.map 2,int time]),.one (prow 3 a12.1),.one (pmap 3 vU l3),pool 4 b8 a12.2.1]) Z Z Z (FnOk.lend [0,1,2,3] (ab7 ha12) Z Z Z Z Z Z (by exact⟨(.one Z),(.one (m7 Z)),(.one (p9 Z)),(.any s8),Y⟩) Z (by exact⟨(.live Z (.one Z)),(.live Z (.one (l7 fun _=>Z))),(.live Z (.one (q8 fun _=>Z))),(.live Z RenE.pool),Y⟩) Z Z (by exact⟨(.new 0 Z Z (.one Z)),(.new 1 Z Z (.one (l7 fun _=>Z))),(.new 2 Z Z (.one (q8 fun _=>Z))),(.new 3 Z Z RenE.pool),Y⟩)) (.nil (b5 (.j ?_)))))
 obtain⟨a14,ha14,h⟩:=b7 h
 refine AWP.G 1 Z (S.invokeP (r2:=.c (.ifc 206 [.ptr (3,[a14.2.toNat]) 0 0] false)) (σ'':=[(oE 3 [.own 5 0 a14.1.length,.map 2,int time]),.dead,.one (pmap 3 vU l3),pool 4 b8 a12.2.1,.dead,.one (prow 3 a14.1)]) Z Z Z (FnOk.lend [0,1,2,3] (ak1 ha14) Z Z Z Z Z Z (by exact⟨(.one Z),(.one (m7 Z)),(.one (p9 Z)),(.any s8),Y⟩) Z (by exact⟨(.live Z (.one Z)),(.live Z (.one (l7 fun _=>Z))),(.live Z (.one (q8 fun _=>Z))),(.live Z RenE.pool),Y⟩) Z Z (by exact⟨(.new 0 Z Z (.one Z)),.dead,(.new 2 Z Z (.one (q8 fun _=>Z))),(.new 3 Z Z RenE.pool),.dead,(.new 5 Z Z (.one (l7 fun _=>Z))),Y⟩)) (.B Z Z (.nil (b5 (.ret ?_)))))
 obtain rfl:=oi h
 exact Done.e Z ⟨Z,Z⟩
theorem ah6{time:Int}{l:Li}{l3:List (Int×Int)}{l4:List b9}{r:(List (Int×Int))×(List b9)×Li×Int×Int×Bool}(h:I6 time l l3 l4=some r):FnOk prog 106 [(cP 0 0 0)] (ai4 time l l3 l4) (fun tt ss=>tt=.tup [.c (.imm (.val (.int .u32 r.2.2.2.1))),(cI r.2.2.2.2.1),(cB r.2.2.2.2.2)]/\ss=[(oE 3 [.own 4 0 r.2.2.1.length,.map 2,int time]),.dead,.one (pmap 3 vU r.1),pool 4 b8 r.2.1,.one (prow 3 r.2.2.1)]):=by
 refine FnOk.enter (rs:=[.t 2,.t 3,.t 4]) func106 Z ntmps106 results106 Z ⟨Y,Y,Y,Y⟩ (by kernel_rfl) Z ?_
 refine AWP.weak ?_
 unfold I6 at h
 refine AWP.z (env':=[(0,(cP 0 0 0))]) (σ':=[(oE 3 [.own 4 0 l.length,.map 2,int time]),.dead,.one (pmap 3 vU l3),pool 4 b8 l4,.one (prow 3 l)]) 4 1 Z Z Z ⟨Z,Y⟩ Z ⟨⟨Z,Z⟩,Y,⟨p9 Z,E9 Z U6⟩,(y5.pool Z),⟨m7 Z,E9 Z V1⟩,Y⟩ (.gk 3 Z (.j (.gs 4 Z (.lenOwnB Z Z Z (fun hl10=>.ge 1 Z (.J Z h (fun hc61 h=> ?_) (fun hc61 h=> ?_)))))))
 ·refine AWP.gk 4 Z (.ret (d9 ?_))
  obtain rfl:=oi h
  exact Done.e Z ⟨Z,Z⟩
 ·refine AWP.skip (b5 (.j ?_))
  obtain⟨a17,ha17,h⟩:=b7 h
  refine AWP.G 3 Z (S.mkIfc Z Z Z (.callF (r2:=.c (.ifc 206 [.ptr (3,[a17.2.2.toNat]) 0 0] false)) (σ'':=[(oE 3 [.own 6 0 a17.2.1.length,.map 2,int time]),.dead,.one (pmap 3 vU l3),pool 4 b8 a17.1,.dead,.dead,.one (prow 3 a17.2.1)]) Z Z Z (FnOk.lend [0,4,2,3] (av2 ha17) Z Z Z Z Z Z (by exact⟨(.one Z),(.one (m7 Z)),(.one (p9 Z)),(.any s8),Y⟩) Z (by exact⟨(.live Z (.one Z)),(.live Z (.one (l7 fun _=>Z))),(.live Z (.one (q8 fun _=>Z))),(.live Z RenE.pool),Y⟩) Z Z (by exact⟨(.new 0 Z Z (.one Z)),.dead,(.new 2 Z Z (.one (q8 fun _=>Z))),(.new 3 Z Z RenE.pool),.dead,.dead,(.new 5 Z Z (.one (l7 fun _=>Z))),Y⟩)) (S.assert Z Z Z (.B Z Z (.nil (b5 (.j ?_)))))))
  obtain⟨en62,hen62,h⟩:=b7 h
  refine AWP.drawEI [8] mixed Z Z Z (d4.D 5 Z Z ?_)
  refine d4.consN Z Z (fun E=>S.nilCheckE Z Z (by simpa only[lS] using o7 hen62) Z .N) Z (.consN Z Z (fun E=>S.fieldE Z Z Z (by simpa only[lS] using o7 hen62) Z .N) Z (.consN Z Z (fun E=>.load Z Z (D0 Z hen62) Z Z Z .N) Z ?_))
  apply d4.consE (v:=.undef);exact Z;exact Z;intro E
  refine S.deleteP (fk:=vU) (k:=en62.item) N5 Z Z Z Z Z .N
  exact Z
  exact Z
  refine d4.done Z ?_ ?_
  ·refine i5.D 5 Z Z ?_
   refine i5.cons Z Z (.go Z Z (fun E=>S.nilCheckE Z Z (by simpa only[lS] using o7 hen62) Z .N) (.skip Z .nil)) (.cons Z Z (.go Z Z (fun E=>S.fieldE Z Z Z (by simpa only[lS] using o7 hen62) Z .N) (.skip Z .nil)) (.cons Z Z (.go Z Z (fun E=>.load Z Z (D0 Z hen62) Z Z Z .N) (.skip Z .nil)) ?_))
   refine i5.D 1 Z Z (i5.nil)
  dsimp only[l9]
  refine b5 (.j (.drawI mixed Z (d7.D 1 Z ?_)))
  refine d7.consF Z (fun E=>S.nilCheckE Z Z (by simpa only[lS] using o7 hen62) Z .N) Z (.consF Z (fun E=>S.fieldE Z Z Z (by simpa only[lS] using o7 hen62) Z .N) Z (.consF Z (fun E=>.load Z Z (D0 Z hen62) Z Z Z .N) Z ?_))
  refine d7.D 1 Z ?_
  refine d7.consF Z (fun E=>S.nilCheckE Z Z (by simpa only[lS] using o7 hen62) Z .N) Z (.consF Z (fun E=>S.fieldE Z Z Z (by simpa only[lS] using o7 hen62) Z .N) Z (.consF Z (fun E=>.load Z Z (D0 Z hen62) Z Z Z .N) Z ?_))
  refine d7.D 3 Z (d7.done ?_)
  dsimp only[l9]
  refine b5 (.ret ?_)
  obtain rfl:=oi h
  exact⟨⟨[(2,.c (.imm (.val (.int .u32 en62.item)))),(3,(cI en62.key)),(4,(cB true))],[(oE 3 [.own 4 0 a17.2.1.length,.map 2,int time]),.dead,.one (pmap 3 vU (mdel l3 en62.item)),pool 4 b8 a17.1,.one (prow 3 a17.2.1)]⟩,(Sub.move (env':=[(2,.c (.imm (.val (.int .u32 en62.item)))),(3,(cI en62.key)),(4,(cB true))]) (σ':=[(oE 3 [.own 4 0 a17.2.1.length,.map 2,int time]),.dead,.one (pmap 3 vU (mdel l3 en62.item)),pool 4 b8 a17.1,.one (prow 3 a17.2.1),.dead]) 4 6 Z Z Z ⟨Z,Z,Z,Y⟩ Z ⟨⟨Z,Z⟩,Y,⟨p9 Z,E9 Z U6⟩,(y5.pool Z),⟨m7 Z,E9 Z V1⟩,Y,Y⟩).trans (Sub.cut ⟨Z,Z,Z,Y⟩ Z ⟨.one Z,.dead,(.one (p9 Z)),(.any s8),(.one (m7 Z)),Y⟩ Z),Done.ret Z ⟨Z,Z⟩⟩
theorem aD8{l:Li}{start:Int}{goal:Int}{l4:List l8}{r:(List (Int×Int))}(h:U8 l start goal l4=some r):FnOk prog 75 [(cP 0 0 0),.c (row 1 eU32 l)] (aq8 l start goal l4) (fun tt ss=>tt=.c (.map 4)/\ss=[(oE 3 (wW start goal 1 l4.length)),(oV 4 f5 l4),.dead,.dead,(oW vU vI r)]):=by
 refine FnOk.enter (rs:=[.t 4]) func75 Z ntmps75 results75 Z ⟨Y,Y⟩ (by kernel_rfl) Z ?_
 refine AWP.weak ?_
 unfold U8 at h
 refine AWP.gk 1 Z (.j (.U (W.makeMapM 2 2 vU m6 Z Z Z (.ge 2 Z (.j (.U (W.makeMap vU vI Z Z Z (.ge 1 Z (.j ?_)))))))))
 obtain⟨a18,ha18,h⟩:=b7 h
 refine AWP.U (.callF (r2:=(cP 7 0 0)) (σ'':=[(oE 3 (wW start goal 1 l4.length)),(oV 4 f5 l4),mmap 2 2 vU m6 ([]:List (Int×List C4)),(o1 (.map 2)),(oW vU vI ([]:List (Int×Int))),.one (pmap 6 vU ([]:List (Int×Int))),pool 4 b8 ([]:List b9),(oE 3 [.own 8 0 (([]:Li).length),.map 5,int 0]),.one (prow 6 ([]:Li))]) Z Z Z (FnOk.lend [] (at6 ha18) Z Z Z Z Z Z (by exact Y) Z (by exact Y) Z Z (by exact⟨(.old Z Z Z),(.old Z Z Z),(.old Z Z Z),(.old Z Z Z),(.old Z Z Z),(.new 0 Z Z (.one (q8 fun _=>Z))),(.new 1 Z Z RenE.pool),(.new 2 Z Z (.one Z)),(.new 3 Z Z (.one (l7 fun _=>Z))),Y⟩)) (.B Z Z (.nil (b5 (.j (.gs 1 Z (S.len Z Z (fun hl20=>.ge 1 Z (.q ?_)))))))))
 obtain⟨⟨c56,c57,c58,c59,c60,c61⟩,ho1,h⟩:=b7 h
 try dsimp only at h
 refine AWP.forH ho1 (fun t62 (c56,c57,c58,c59,c60,c61)=>⟨[(0,(cP 0 0 0)),(5,(cP 3 0 0)),(6,.c (.map 4)),(7,(cP 7 0 0)),(19,.c (row 1 eU32 l)),(20,(cI (l.length:Int))),(21,(cI t62))],[(oE 3 (wW start goal 1 l4.length)),(oV 4 f5 l4),mmap 2 2 vU m6 c56,(o1 (.map 2)),(oW vU vI c57),.one (pmap 6 vU c58),pool 4 b8 c59,(oE 3 [.own 8 0 c61.length,.map 5,int c60]),.one (prow 6 c61)]⟩) (fun _ _=>Z) ?_ ?_ ?_
 ·exact Sub.en Z
 ·intro t62 s o hlot62 hltt62 h
  obtain⟨c56,c57,c58,c59,c60,c61⟩:=s
  unfold ar4 at h
  try dsimp only at h ⊢
  refine AWP.j (.q (.j ?_))
  obtain⟨a23,ha23,h⟩:=b7 h
  refine AWP.U (S.idx ha23 Z Z Z Z (.G 3 Z (.nil (b5 (.gs 2 Z (W.mapUpdate (fk:=vU) (fv:=vI) (k:=a23) (a:=1000000000) N5 Z Z Z Z Z (.ne ?_)))))))
  obtain⟨⟨c63,c64,c65,c66,c67⟩,hx68,h⟩:=b7 h
  refine AWP.seqJ (⟨[(0,(cP 0 0 0)),(5,(cP 3 0 0)),(6,.c (.map 4)),(7,(cP 7 0 0)),(9,(cP 9 0 0)),(19,.c (row 1 eU32 l)),(20,(cI (l.length:Int))),(21,(cI t62))],[(oE 3 (wW start goal 1 l4.length)),(oV 4 f5 l4),mmap 2 2 vU m6 c56,(o1 (.map 2)),(oW vU vI c63),.one (pmap 11 vU c64),.dead,(oE 3 [.own 10 0 c66.length,.map 5,int c65]),.dead,(o1 (.imm (.val (.int .u32 a23)))),.one (prow 11 c66),pool 4 b8 c67]⟩) ?_ ?_
  ·refine AWP.j ?_
   obtain⟨a29,ha29,hx68⟩:=b7 hx68
   refine AWP.G 2 Z (.callF (r2:=(cB (decide (Go.bits .and .u32 a23 goal=goal)))) (σ'':=[(oE 3 (wW start goal 1 l4.length)),(oV 4 f5 l4),mmap 2 2 vU m6 c56,(o1 (.map 2)),(oW vU vI (mset c57 a23 1000000000)),.one (pmap 6 vU c58),pool 4 b8 c59,(oE 3 [.own 8 0 c61.length,.map 5,int c60]),.one (prow 6 c61),(o1 (.imm (.val (.int .u32 a23))))]) Z Z Z (FnOk.lend [0,1] (ay0 ha29) Z Z Z Z Z Z (by exact⟨(.one Z),.vec,Y⟩) Z (by exact⟨(.live Z (.one Z)),(.live Z .vec),Y⟩) Z Z (by exact⟨(.new 0 Z Z (.one Z)),(.new 1 Z Z .vec),(.old Z Z Z),(.old Z Z Z),(.old Z Z Z),(.old Z Z Z),(.old Z Z Z),(.old Z Z Z),(.old Z Z Z),(.old Z Z Z),Y⟩)) (.nil (b5 (.J Z hx68 (fun hc69 hx68=> ?_) (fun hc69 hx68=> ?_)))))
   ·refine AWP.gs 2 Z (W.mapUpdate (fk:=vU) (fv:=vI) (k:=a23) (a:=0) N5 Z Z Z Z Z (.ne ?_))
    obtain⟨a34,ha34,hx68⟩:=b7 hx68
    refine AWP.G 2 Z (.callF (r2:=.tup []) (σ'':=[(oE 3 (wW start goal 1 l4.length)),(oV 4 f5 l4),mmap 2 2 vU m6 c56,(o1 (.map 2)),(oW vU vI (mset (mset c57 a23 1000000000) a23 0)),.one (pmap 11 vU a34.1),.dead,(oE 3 [.own 10 0 a34.2.1.length,.map 5,int (w64 (c60+1))]),.dead,(o1 (.imm (.val (.int .u32 a23)))),.one (prow 11 a34.2.1),pool 4 b8 a34.2.2]) Z Z Z (FnOk.lend [7,8,5,6] (R1 ha34) Z Z Z Z Z Z (by exact⟨(.one Z),(.one (m7 Z)),(.one (p9 Z)),(.any s8),Y⟩) Z (by exact⟨(.live Z (.one Z)),(.live Z (.one (l7 fun _=>Z))),(.live Z (.one (q8 fun _=>Z))),(.live Z RenE.pool),Y⟩) Z Z (by exact⟨(.old Z Z Z),(.old Z Z Z),(.old Z Z Z),(.old Z Z Z),(.old Z Z Z),(.new 2 Z Z (.one (q8 fun _=>Z))),.dead,(.new 0 Z Z (.one Z)),.dead,(.old Z Z Z),(.new 4 Z Z (.one (l7 fun _=>Z))),(.new 5 Z Z RenE.pool),Y⟩)) (.nil ?_))
    obtain⟨ej0,ej1,ej2,ej3,ej4⟩:=o5 hx68
    subst ej0 ej1 ej2 ej3 ej4
    refine b5 (Sub.en Z)
   ·refine AWP.skip ?_
    obtain⟨ej0,ej1,ej2,ej3,ej4⟩:=o5 hx68
    subst ej0 ej1 ej2 ej3 ej4
    refine b5 ((Sub.move (env':=[(0,(cP 0 0 0)),(5,(cP 3 0 0)),(6,.c (.map 4)),(7,(cP 7 0 0)),(9,(cP 9 0 0)),(19,.c (row 1 eU32 l)),(20,(cI (l.length:Int))),(21,(cI t62))]) (σ':=[(oE 3 (wW start goal 1 l4.length)),(oV 4 f5 l4),mmap 2 2 vU m6 c56,(o1 (.map 2)),(oW vU vI (mset c57 a23 1000000000)),.one (pmap 6 vU c58),pool 4 b8 c59,(oE 3 [.own 10 0 c61.length,.map 5,int c60]),.dead,(o1 (.imm (.val (.int .u32 a23)))),.one (prow 6 c61)]) 10 8 Z Z Z ⟨Z,Z,Z,Z,Z,Z,Z,Z,Y⟩ Z ⟨⟨Z,Z⟩,⟨Blk.im_ok _ _ _,i6 Z⟩,(y5.mmap Z Z Z),⟨Z,Z⟩,⟨Z,Z⟩,⟨p9 Z,E9 Z U6⟩,(y5.pool Z),⟨Z,Z⟩,Y,⟨Z,Z⟩,⟨m7 Z,E9 Z V1⟩,Y⟩).trans ((Sub.moveM (env':=[(0,(cP 0 0 0)),(5,(cP 3 0 0)),(6,.c (.map 4)),(7,(cP 7 0 0)),(9,(cP 9 0 0)),(19,.c (row 1 eU32 l)),(20,(cI (l.length:Int))),(21,(cI t62))]) (σ':=[(oE 3 (wW start goal 1 l4.length)),(oV 4 f5 l4),mmap 2 2 vU m6 c56,(o1 (.map 2)),(oW vU vI (mset c57 a23 1000000000)),.one (pmap 11 vU c58),.dead,(oE 3 [.own 10 0 c61.length,.map 5,int c60]),.dead,(o1 (.imm (.val (.int .u32 a23)))),.one (prow 11 c61),pool 4 b8 c59]) 11 6 Z Z Z ⟨Z,Z,Z,Z,Z,Z,Z,Z,Y⟩ Z ⟨(.one Z Z),(.vec Z),(EntR.mmap Z Z Z),(.one Z Z),(.one Z Z),(.one (p9 Z) (M0 Z Z (q8 fun _=>Z))),.dead,(.one Z Z),.dead,(.one Z Z),(.one (m7 Z) (M0 Z Z (l7 fun _=>Z))),(EntR.pool Z Z),Y⟩).trans (Sub.env ⟨Z,Z,Z,Z,Z,Z,Z,Z,Y⟩)))
  ·try dsimp only at h
   refine AWP.j ?_
   obtain⟨a37,ha37,h⟩:=b7 h
   refine AWP.G 2 Z (.callF (r2:=.c (.fn 129 [.ptr 12 0 0,.ptr 13 0 0])) (σ'':=[(oE 3 (wW start goal 1 l4.length)),(oV 4 f5 l4),mmap 2 2 vU m6 c56,(o1 (.map 2)),(oW vU vI c63),.one (pmap 11 vU c64),.dead,(oE 3 [.own 10 0 c66.length,.map 5,int c65]),.dead,(o1 (.imm (.val (.int .u32 a23)))),.one (prow 11 c66),pool 4 b8 c67,(o1 (.ptr 0 0 0)),(o1 (.imm (.val (.int .u32 a23))))]) Z Z Z (FnOk.lend [0,1] (ae5 ha37) Z Z Z Z Z Z (by exact⟨(.one Z),.vec,Y⟩) Z (by exact⟨(.live Z (.one Z)),(.live Z .vec),Y⟩) Z Z (by exact⟨(.new 0 Z Z (.one Z)),(.new 1 Z Z .vec),(.old Z Z Z),(.old Z Z Z),(.old Z Z Z),(.old Z Z Z),.dead,(.old Z Z Z),.dead,(.old Z Z Z),(.old Z Z Z),(.old Z Z Z),(.new 2 Z Z (.one Z)),(.new 3 Z Z (.one Z)),Y⟩)) (.nil (b5 (.q ?_))))
   obtain⟨c71,hr70,h⟩:=b7 h
   refine AWP.rangeB [(5,none),(9,none)] Z Z Z (fun as70 bo70 hA70 hB70=>⟨[(oE 3 (wW start goal 1 l4.length)),(oV 4 f5 l4),mmap 2 2 vU m6 c56,(o1 (.map 2)),(oW vU vI c63),.one (pmap 11 vU c64),.dead,(oE 3 [.own 10 0 c66.length,.map 5,int c65]),.dead,(o1 (.imm (.val (.int .u32 a23)))),.one (prow 11 c66),pool 4 b8 c67,(o1 (.ptr 0 0 0)),(o1 (.imm (.val (.int .u32 a23)))),.one (p8 96 [38] as70 bo70 .ready none [(5,none),(9,none)] [.ptr 3 0 0,.ptr 9 0 0])],fun tt ss=>tt=.tup []/\ss=[(oE 3 (wW start goal 1 l4.length)),(oV 4 f5 l4),.dead,(o1 (.map 15)),(oW vU vI c63),.one (pmap 11 vU c64),.dead,(oE 3 [.own 10 0 c66.length,.map 5,int c65]),.dead,(o1 (.imm (.val (.int .u32 a23)))),.one (prow 11 c66),pool 4 b8 c67,(o1 (.ptr 0 0 0)),(o1 (.imm (.val (.int .u32 a23)))),.one (p8 96 [38] as70 bo70 .ready none [(5,none),(9,none)] [.ptr 3 0 0,.ptr 9 0 0]),mmap 15 2 vU m6 c71],Z,?_,?_⟩)
   ·refine FnOk.enter (rs:=[]) func129 Z ntmps129 results129 Z Y (by kernel_rfl) Z ?_
    refine AWP.weak ?_
    unfold ar2 at hr70
    try dsimp only at hr70
    refine AWP.moveM (env':=[(0,.c (.yld 14)),(1,(cP 12 0 0)),(2,(cP 13 0 0))]) (σ':=[(oE 3 (wW start goal 1 l4.length)),(oV 4 f5 l4),.dead,(o1 (.map 15)),(oW vU vI c63),.one (pmap 11 vU c64),.dead,(oE 3 [.own 10 0 c66.length,.map 5,int c65]),.dead,(o1 (.imm (.val (.int .u32 a23)))),.one (prow 11 c66),pool 4 b8 c67,(o1 (.ptr 0 0 0)),(o1 (.imm (.val (.int .u32 a23)))),.one (p8 96 [38] as70 bo70 .ready none [(5,none),(9,none)] [.ptr 3 0 0,.ptr 9 0 0]),mmap 15 2 vU m6 c56]) 15 2 Z Z Z ⟨Z,Z,Z,Y⟩ Z ⟨(.one Z Z),(.vec Z),.dead,(.one Z Z),(.one Z Z),(.one (p9 Z) (M0 Z Z (q8 fun _=>Z))),.dead,(.one Z Z),.dead,(.one Z Z),(.one (m7 Z) (M0 Z Z (l7 fun _=>Z))),(EntR.pool Z Z),(.one Z Z),(.one Z Z),(.one Z Z),(EntR.mmap Z Z Z),Y⟩ ?_
    refine AWP.gs 4 Z (S.lenO Z Z Z (fun hl10=>.ge 1 Z (.q ?_)))
    obtain⟨c72,ho2,hr70⟩:=b7 hr70
    refine AWP.forH ho2 (fun t73 c72=>⟨[(0,.c (.yld 14)),(2,(cP 13 0 0)),(9,.c (.own 1 0 l4.length)),(10,(cI (l4.length:Int))),(11,(cI t73))],[(oE 3 (wW start goal 1 l4.length)),(oV 4 f5 l4),.dead,(o1 (.map 15)),(oW vU vI c63),.one (pmap 11 vU c64),.dead,(oE 3 [.own 10 0 c66.length,.map 5,int c65]),.dead,(o1 (.imm (.val (.int .u32 a23)))),.one (prow 11 c66),pool 4 b8 c67,(o1 (.ptr 0 0 0)),(o1 (.imm (.val (.int .u32 a23)))),.one (p8 96 [38] as70 bo70 .ready none [(5,none),(9,none)] [.ptr 3 0 0,.ptr 9 0 0]),mmap 15 2 vU m6 c72]⟩) (fun _ _=>Z) ?_ ?_ ?_
    ·exact Sub.en Z
    ·intro t73 c72 o hlot73 hltt73 h
     unfold ar5 at h
     try dsimp only at h ⊢
     refine AWP.j (.q (.j ?_))
     obtain⟨ai14,hai14,h⟩:=b7 h
     refine AWP.G 1 Z (S.idxO hai14 Z Z Z Z Z (S.loadOAgg hai14 Z Z Z Z Z Z Z (.G 3 Z (.nil (b5 (.j ?_))))))
     rcases bft (decide (Go.bits .and .u32 a23 ai14.pre=ai14.pre)) with hb74|hb74
     ·replace h:=K6 hb74 h
      refine AWP.G 3 Z (.bits Z Z Z (by simp) (.G 4 Z (.E Z Z Z hb74 (.z Z Z (.E Z Z Z hb74 (.z Z Z (.E Z Z Z hb74 (W.fieldAddr Z Z Z Z (.E Z Z Z hb74 (.load Z Z Z Z Z Z (.E Z Z Z hb74 (.load Z Z Z Z Z Z (.E Z Z Z hb74 (W.fieldAddr Z Z Z Z (.E Z Z Z hb74 (.load Z Z Z Z Z Z (.E Z Z Z hb74 (.bits Z Z Z (by simp) (.E Z Z Z hb74 (W.fieldAddr Z Z Z Z (.E Z Z Z hb74 (.load Z Z Z Z Z Z (.E Z Z Z hb74 (.bits Z Z Z (by simp) (.E Z Z Z hb74 (W.build Z Z Z Z ?_))))))))))))))))))))))))))
      refine AOps.E Z Z Z hb74 ?_;refine AOps.yieldB (E1:=[(10,(cP 17 0 0)),(38,.agg [int t73,int ai14.cost,.imm (.val (.int .u32 (Go.bits .or .u32 (Go.bits .andNot .u32 a23 ai14.del) ai14.add)))]),(5,(cP 3 0 0)),(9,(cP 9 0 0))]) (σ1:=[(oE 3 (wW start goal 1 l4.length)),(oV 4 f5 l4),.dead,(o1 (.map 15)),(oW vU vI c63),.one (pmap 11 vU c64),.dead,(oE 3 [.own 10 0 c66.length,.map 5,int c65]),.dead,(o1 (.imm (.val (.int .u32 a23)))),.one (prow 11 c66),pool 4 b8 c67,(o1 (.ptr 0 0 0)),(o1 (.imm (.val (.int .u32 a23)))),.one (p8 96 [38] as70 bo70 .ready none [(5,none),(9,none)] [.ptr 3 0 0,.ptr 9 0 0]),mmap 15 2 vU m6 c72,(oE 4 [.imm (.val (.int .u32 ai14.pre)),.imm (.val (.int .u32 ai14.add)),.imm (.val (.int .u32 ai14.del)),int ai14.cost]),(oE 3 [int t73,int ai14.cost,.imm (.val (.int .u32 (Go.bits .or .u32 (Go.bits .andNot .u32 a23 ai14.del) ai14.add)))])]) hA70 hB70 Z Z Z Z Z Z Z Z Z Z ?_ ?_
      ·refine AWP.G 2 Z (.nil ?_)
       exact⟨Z,Z⟩
      refine AWP.sub (s':=⟨[(5,(cP 3 0 0)),(9,(cP 9 0 0)),(10,(cP 17 0 0))],[(oE 3 (wW start goal 1 l4.length)),(oV 4 f5 l4),.dead,(o1 (.map 15)),(oW vU vI c63),.one (pmap 11 vU c64),.dead,(oE 3 [.own 10 0 c66.length,.map 5,int c65]),.dead,(o1 (.imm (.val (.int .u32 a23)))),.one (prow 11 c66),pool 4 b8 c67,(o1 (.ptr 0 0 0)),(o1 (.imm (.val (.int .u32 a23)))),.one (p8 96 [38] as70 bo70 .busy none [(5,none),(9,none)] [.ptr 3 0 0,.ptr 9 0 0]),mmap 15 2 vU m6 c72,(oE 4 [.imm (.val (.int .u32 ai14.pre)),.imm (.val (.int .u32 ai14.add)),.imm (.val (.int .u32 ai14.del)),int ai14.cost]),(oE 3 [int t73,int ai14.cost,.imm (.val (.int .u32 (Go.bits .or .u32 (Go.bits .andNot .u32 a23 ai14.del) ai14.add)))])]⟩) (Sub.env ⟨Z,Z,Z,Y⟩) (.q ?_)
      obtain⟨ab51,hab51,h⟩:=b7 h
      refine AWP.drawEI [11,12,13] mixed Z Z Z (d4.D 6 Z Z ?_)
      refine d4.consN Z Z (fun E=>S.lookupM (fk:=vU) (key:=Go.bits .or .u32 (Go.bits .andNot .u32 a23 ai14.del) ai14.add) N5 Z Z Z Z Z .N) Z ?_
      refine d4.D 4 Z Z ?_
      apply d4.consE;exact Z;exact Z;intro E
      refine S.lit (f:=m6) (l:=[(⟨a23,ai14.cost⟩:C4)]) (ess:=[[.imm (.val (.int .u32 a23)),int ai14.cost]]) Z Z Z Z Z Z Z ⟨⟨.inl Z,.inl Z,Y⟩,Y⟩ Z Z Z .N
      exact Z
      exact Z
      apply d4.consE;exact Z;exact Z;intro E
      refine S.appendMM (f:=m6) hab51 Z Z Z Z Z (.own Z Z) Z Z Z Z .N
      exact Z
      exact Z
      apply d4.consE (v:=.undef);exact Z;exact Z;intro E
      refine S.updateMM (fk:=vU) (key:=Go.bits .or .u32 (Go.bits .andNot .u32 a23 ai14.del) ai14.add) N5 Z Z Z Z Z .N
      exact Z
      exact Z
      refine d4.done Z ?_ ?_
      ·refine i5.D 6 Z Z ?_
       refine i5.cons Z Z (.go Z Z (fun E=>S.lookupM (fk:=vU) (key:=Go.bits .or .u32 (Go.bits .andNot .u32 a23 ai14.del) ai14.add) N5 Z Z Z Z Z .N) (.go Z Z (fun E=>S.lookupM (fk:=vU) (key:=Go.bits .or .u32 (Go.bits .andNot .u32 a23 ai14.del) ai14.add) N5 Z Z Z Z Z .N) (.skip Z (.skip Z .nil)))) ?_
       refine i5.D 7 Z Z (i5.nil)
      dsimp only[l9]
      refine d6 (Q3 Z Z (.E Z Z Z hb74 (.not Z Z (.ab Z hb74 Z Z (.nil (b5 (.z (env':=[(0,.c (.yld 14)),(2,(cP 13 0 0)),(9,.c (.own 1 0 l4.length)),(10,(cI (l4.length:Int))),(11,(cI t73)),(38,(cB false))]) (σ':=[(oE 3 (wW start goal 1 l4.length)),(oV 4 f5 l4),.dead,(o1 (.map 15)),(oW vU vI c63),.one (pmap 11 vU c64),.dead,(oE 3 [.own 10 0 c66.length,.map 5,int c65]),.dead,(o1 (.imm (.val (.int .u32 a23)))),.one (prow 11 c66),pool 4 b8 c67,(o1 (.ptr 0 0 0)),(o1 (.imm (.val (.int .u32 a23)))),.one (p8 96 [38] as70 bo70 .ready none [(5,none),(9,none)] [.ptr 3 0 0,.ptr 9 0 0]),mmap 15 2 vU m6 (mset c72 (Go.bits .or .u32 (Go.bits .andNot .u32 a23 ai14.del) ai14.add) ab51),(oE 4 [.imm (.val (.int .u32 ai14.pre)),.imm (.val (.int .u32 ai14.add)),.imm (.val (.int .u32 ai14.del)),int ai14.cost]),(oE 3 [int t73,int ai14.cost,.imm (.val (.int .u32 (Go.bits .or .u32 (Go.bits .andNot .u32 a23 ai14.del) ai14.add)))]),(oV 2 m6 [(⟨a23,ai14.cost⟩:C4)])]) (15,[posM c72 (Go.bits .or .u32 (Go.bits .andNot .u32 a23 ai14.del) ai14.add)]) (19,[]) Z Z Z ⟨Z,Z,Z,Z,Z,Z,Y⟩ Z ⟨⟨Z,Z⟩,⟨Blk.im_ok _ _ _,i6 Z⟩,Y,⟨Z,Z⟩,⟨Z,Z⟩,⟨p9 Z,aw7 Z (pmap_mvR Z) mv_root⟩,Y,⟨Z,Z⟩,Y,⟨Z,Z⟩,⟨m7 Z,aw7 Z (prow_mvR Z) mv_root⟩,(y5.poolR Z Z),⟨Z,Z⟩,⟨Z,Z⟩,⟨Z,Z⟩,(y5.putMM Z Z Z Z),⟨Z,Z⟩,⟨Z,Z⟩,⟨Blk.im_ok _ _ _,i6 Z⟩,Y⟩ (.condF Z (.skip (d6 (b5 (.U (.add Z Z Z (by omega) (.z Z Z (.nil ?_)))))))))))))))
      obtain rfl:=oi h
      refine b5 (Sub.cut ⟨Z,Z,Z,Z,Z,Y⟩ Z ⟨.one Z,.vec,.dead,.one Z,.one Z,(.one (p9 Z)),.dead,.one Z,.dead,.one Z,(.one (m7 Z)),(.any s8),.one Z,.one Z,.one Z,(.any (mm_ok Z)),Y⟩ Z)
     ·replace h:=K0 hb74 h
      refine AWP.G 3 Z (.bits Z Z Z (by simp) (.G 4 Z (.O Z Z Z hb74 (.O Z Z Z hb74 (.O Z Z Z hb74 (.O Z Z Z hb74 (.O Z Z Z hb74 (.O Z Z Z hb74 (.O Z Z Z hb74 (.O Z Z Z hb74 (.O Z Z Z hb74 (.O Z Z Z hb74 (.O Z Z Z hb74 (.O Z Z Z hb74 (.O Z Z Z hb74 (.O Z Z Z hb74 (.pickF Z hb74 Z Z (.nil (b5 (.condF Z (.skip (d6 (b5 (.U (.add Z Z Z (by omega) (.z Z Z (.nil ?_)))))))))))))))))))))))))))
      obtain rfl:=oi h
      refine b5 (Sub.cut ⟨Z,Z,Z,Z,Z,Y⟩ Z ⟨.one Z,.vec,.dead,.one Z,.one Z,(.one (p9 Z)),.dead,.one Z,.dead,.one Z,(.one (m7 Z)),(.any s8),.one Z,.one Z,.one Z,(.any (mm_ok Z)),Y⟩ Z)
    ·intro iz
     refine i7 ?_
     obtain rfl:=oi hr70
     exact⟨⟨[],[(oE 3 (wW start goal 1 l4.length)),(oV 4 f5 l4),.dead,(o1 (.map 15)),(oW vU vI c63),.one (pmap 11 vU c64),.dead,(oE 3 [.own 10 0 c66.length,.map 5,int c65]),.dead,(o1 (.imm (.val (.int .u32 a23)))),.one (prow 11 c66),pool 4 b8 c67,(o1 (.ptr 0 0 0)),(o1 (.imm (.val (.int .u32 a23)))),.one (p8 96 [38] as70 bo70 .ready none [(5,none),(9,none)] [.ptr 3 0 0,.ptr 9 0 0]),mmap 15 2 vU m6 c72]⟩,Sub.env Y,Done.normal Z ⟨Z,Z⟩⟩
   ·rintro tt ss ⟨rfl,rfl⟩
    try dsimp only at h ⊢
    refine al3 Z Z (d6 (d6 (b5 (.U (.add Z Z Z (by omega) (.z Z Z (.nil ?_)))))))
    obtain rfl:=oi h
    refine b5 ((Sub.moveM (env':=[(0,(cP 0 0 0)),(5,(cP 3 0 0)),(6,.c (.map 4)),(7,(cP 7 0 0)),(19,.c (row 1 eU32 l)),(20,(cI (l.length:Int))),(21,(cI (t62+1)))]) (σ':=[(oE 3 (wW start goal 1 l4.length)),(oV 4 f5 l4),mmap 2 2 vU m6 c71,(o1 (.map 2)),(oW vU vI c63),.one (pmap 11 vU c64),.dead,(oE 3 [.own 10 0 c66.length,.map 5,int c65]),.dead,(o1 (.imm (.val (.int .u32 a23)))),.one (prow 11 c66),pool 4 b8 c67,(o1 (.ptr 0 0 0)),(o1 (.imm (.val (.int .u32 a23)))),.dead]) 2 15 Z Z Z ⟨Z,Z,Z,Z,Z,Z,Z,Y⟩ Z ⟨(.one Z Z),(.vec Z),(EntR.mmap Z Z Z),(.one Z Z),(.one Z Z),(.one (p9 Z) (M0 Z Z (q8 fun _=>Z))),.dead,(.one Z Z),.dead,(.one Z Z),(.one (m7 Z) (M0 Z Z (l7 fun _=>Z))),(EntR.pool Z Z),(.one Z Z),(.one Z Z),.dead,Y⟩).trans ((Sub.move (env':=[(0,(cP 0 0 0)),(5,(cP 3 0 0)),(6,.c (.map 4)),(7,(cP 7 0 0)),(19,.c (row 1 eU32 l)),(20,(cI (l.length:Int))),(21,(cI (t62+1)))]) (σ':=[(oE 3 (wW start goal 1 l4.length)),(oV 4 f5 l4),mmap 2 2 vU m6 c71,(o1 (.map 2)),(oW vU vI c63),.one (pmap 11 vU c64),.dead,(oE 3 [.own 8 0 c66.length,.map 5,int c65]),.one (prow 11 c66),(o1 (.imm (.val (.int .u32 a23)))),.dead,pool 4 b8 c67,(o1 (.ptr 0 0 0)),(o1 (.imm (.val (.int .u32 a23)))),.dead]) 8 10 Z Z Z ⟨Z,Z,Z,Z,Z,Z,Z,Y⟩ Z ⟨⟨Z,Z⟩,⟨Blk.im_ok _ _ _,i6 Z⟩,(y5.mmap Z Z Z),⟨Z,Z⟩,⟨Z,Z⟩,⟨p9 Z,E9 Z U6⟩,Y,⟨Z,Z⟩,⟨m7 Z,E9 Z V1⟩,⟨Z,Z⟩,Y,(y5.pool Z),⟨Z,Z⟩,⟨Z,Z⟩,Y,Y⟩).trans ((Sub.moveM (env':=[(0,(cP 0 0 0)),(5,(cP 3 0 0)),(6,.c (.map 4)),(7,(cP 7 0 0)),(19,.c (row 1 eU32 l)),(20,(cI (l.length:Int))),(21,(cI (t62+1)))]) (σ':=[(oE 3 (wW start goal 1 l4.length)),(oV 4 f5 l4),mmap 2 2 vU m6 c71,(o1 (.map 2)),(oW vU vI c63),.one (pmap 6 vU c64),pool 4 b8 c67,(oE 3 [.own 8 0 c66.length,.map 5,int c65]),.one (prow 6 c66),(o1 (.imm (.val (.int .u32 a23)))),.dead,.dead,(o1 (.ptr 0 0 0)),(o1 (.imm (.val (.int .u32 a23)))),.dead]) 6 11 Z Z Z ⟨Z,Z,Z,Z,Z,Z,Z,Y⟩ Z ⟨(.one Z Z),(.vec Z),(EntR.mmap Z Z Z),(.one Z Z),(.one Z Z),(.one (p9 Z) (M0 Z Z (q8 fun _=>Z))),(EntR.pool Z Z),(.one Z Z),(.one (m7 Z) (M0 Z Z (l7 fun _=>Z))),(.one Z Z),.dead,.dead,(.one Z Z),(.one Z Z),.dead,Y⟩).trans (Sub.cut ⟨Z,Z,Z,Z,Z,Z,Z,Y⟩ Z ⟨.one Z,.vec,(.any (mm_ok Z)),.one Z,.one Z,(.one (p9 Z)),(.any s8),.one Z,(.one (m7 Z)),Y⟩ Z))))
 ·intro iz
  refine i7 (b5 (.j (.q ?_)))
  obtain⟨c80,ho4,h⟩:=b7 h
  refine AWP.loopS ho4 (fun(c75,c76,c77,c78,c79)=>⟨[(5,(cP 3 0 0)),(6,.c (.map 4)),(7,(cP 7 0 0))],[(oE 3 (wW start goal 1 l4.length)),(oV 4 f5 l4),mmap 2 2 vU m6 c56,(o1 (.map 2)),(oW vU vI c75),.one (pmap 6 vU c76),pool 4 b8 c77,(oE 3 [.own 8 0 c79.length,.map 5,int c78]),.one (prow 6 c79)]⟩) (fun c80 e st=>e=.exit 4/\Sub (aq8 l start goal l4) st ⟨[(6,.c (.map 4))],[(oE 3 (wW start goal 1 l4.length)),(oV 4 f5 l4),.dead,.dead,(oW vU vI c80)]⟩) ?_ ?_ ?_
  ·exact Sub.en Z
  ·intro s o h
   obtain⟨c75,c76,c77,c78,c79⟩:=s
   unfold aq9 at h
   try dsimp only at h ⊢
   refine AWP.j (.j ?_)
   obtain⟨a54,ha54,h⟩:=b7 h
   refine AWP.G 1 Z (.callF (r2:=(cI (c79.length:Int))) (σ'':=[(oE 3 (wW start goal 1 l4.length)),(oV 4 f5 l4),mmap 2 2 vU m6 c56,(o1 (.map 2)),(oW vU vI c75),.one (pmap 6 vU c76),pool 4 b8 c77,(oE 3 [.own 8 0 c79.length,.map 5,int c78]),.one (prow 6 c79)]) Z Z Z (FnOk.lend [7,8,5,6] (al2 ha54) Z Z Z Z Z Z (by exact⟨(.one Z),(.one (m7 Z)),(.one (p9 Z)),(.any s8),Y⟩) Z (by exact⟨(.live Z (.one Z)),(.live Z (.one (l7 fun _=>Z))),(.live Z (.one (q8 fun _=>Z))),(.live Z RenE.pool),Y⟩) Z Z (by exact⟨(.old Z Z Z),(.old Z Z Z),(.old Z Z Z),(.old Z Z Z),(.old Z Z Z),(.new 2 Z Z (.one (q8 fun _=>Z))),(.new 3 Z Z RenE.pool),(.new 0 Z Z (.one Z)),(.new 1 Z Z (.one (l7 fun _=>Z))),Y⟩)) (.gtr Z Z Z (.nil (b5 (.J Z h (fun hc81 h=> ?_) (fun hc81 h=> ?_))))))
   ·refine AWP.skip (b5 (.q (.j ?_)))
    obtain⟨a58,ha58,h⟩:=b7 h
    refine AWP.G 1 Z (.callF (r2:=.tup [.c (.imm (.val (.int .u32 a58.2.2.2.1))),(cI a58.2.2.2.2.1),(cB a58.2.2.2.2.2)]) (σ'':=[(oE 3 (wW start goal 1 l4.length)),(oV 4 f5 l4),mmap 2 2 vU m6 c56,(o1 (.map 2)),(oW vU vI c75),.one (pmap 6 vU a58.1),pool 4 b8 a58.2.1,(oE 3 [.own 9 0 a58.2.2.1.length,.map 5,int c78]),.dead,.one (prow 6 a58.2.2.1)]) Z Z Z (FnOk.lend [7,8,5,6] (ah6 ha58) Z Z Z Z Z Z (by exact⟨(.one Z),(.one (m7 Z)),(.one (p9 Z)),(.any s8),Y⟩) Z (by exact⟨(.live Z (.one Z)),(.live Z (.one (l7 fun _=>Z))),(.live Z (.one (q8 fun _=>Z))),(.live Z RenE.pool),Y⟩) Z Z (by exact⟨(.old Z Z Z),(.old Z Z Z),(.old Z Z Z),(.old Z Z Z),(.old Z Z Z),(.new 2 Z Z (.one (q8 fun _=>Z))),(.new 3 Z Z RenE.pool),(.new 0 Z Z (.one Z)),.dead,(.new 4 Z Z (.one (l7 fun _=>Z))),Y⟩)) (.G 7 Z (.nil (b5 (.gs 2 Z (S.lookupM (fk:=vU) (key:=a58.2.2.2.1) N5 Z Z Z Z Z (S.lenMM Z Z Z (fun hl65=>.ge 1 Z (.q ?_)))))))))
    obtain⟨⟨c82,c83,c84,c85,c86⟩,ho5,h⟩:=b7 h
    try dsimp only at h
    refine AWP.forH ho5 (fun t87 (c82,c83,c84,c85,c86)=>⟨[(5,(cP 3 0 0)),(6,.c (.map 4)),(7,(cP 7 0 0)),(12,(cI a58.2.2.2.2.1)),(64,.c (rowC 2 c56 a58.2.2.2.1)),(65,(cI ((rowM c56 a58.2.2.2.1).length:Int))),(66,(cI t87))],[(oE 3 (wW start goal 1 l4.length)),(oV 4 f5 l4),mmap 2 2 vU m6 c56,(o1 (.map 2)),(oW vU vI c82),.one (pmap 6 vU c83),pool 4 b8 c84,(oE 3 [.own 9 0 c86.length,.map 5,int c85]),.dead,.one (prow 6 c86)]⟩) (fun _ _=>Z) ?_ ?_ ?_
    ·exact Sub.en Z
    ·intro t87 s o hlot87 hltt87 h
     obtain⟨c82,c83,c84,c85,c86⟩:=s
     unfold ar0 at h
     try dsimp only at h ⊢
     obtain⟨⟨c88,c89,c90,c91,c92⟩,hx93,h⟩:=b7 h
     refine AWP.seqJ (⟨[(5,(cP 3 0 0)),(6,.c (.map 4)),(7,(cP 7 0 0)),(12,(cI a58.2.2.2.2.1)),(64,.c (rowC 2 c56 a58.2.2.2.1)),(65,(cI ((rowM c56 a58.2.2.2.1).length:Int))),(66,(cI t87))],[(oE 3 (wW start goal 1 l4.length)),(oV 4 f5 l4),mmap 2 2 vU m6 c56,(o1 (.map 2)),(oW vU vI c88),.one (pmap 12 vU c89),.dead,(oE 3 [.own 11 0 c91.length,.map 5,int c90]),.dead,.dead,.dead,.one (prow 12 c91),pool 4 b8 c92]⟩) ?_ ?_
     ·refine AWP.q (.j ?_)
      obtain⟨a68,ha68,hx93⟩:=b7 hx93
      refine AWP.U (S.idxMM ha68 Z Z Z Z (S.loadOAgg ha68 Z Z (mm_get Z ha68) Z Z Z Z (.G 2 Z (.nil (b5 (.gs 7 Z (W.lookup (fk:=vU) (fv:=vI) (k:=a68.ffrom) (z:=0) N5 Z (fun _=>Z) Z Z Z Z ?_)))))))
      refine AOps.ge 1 Z (.J Z hx93 (fun hc94 hx93=> ?_) (fun hc94 hx93=> ?_))
      ·refine AWP.gs 7 Z (W.mapUpdate (fk:=vU) (fv:=vI) (k:=a68.ffrom) (a:=w64 (a58.2.2.2.2.1+a68.cost)) N5 Z Z Z Z Z (.ne ?_))
       obtain⟨a93,ha93,hx93⟩:=b7 hx93
       refine AWP.G 7 Z (.callF (r2:=.tup []) (σ'':=[(oE 3 (wW start goal 1 l4.length)),(oV 4 f5 l4),mmap 2 2 vU m6 c56,(o1 (.map 2)),(oW vU vI (mset c82 a68.ffrom (w64 (a58.2.2.2.2.1+a68.cost)))),.one (pmap 12 vU a93.1),.dead,(oE 3 [.own 11 0 a93.2.1.length,.map 5,int (w64 (c85+1))]),.dead,.dead,(oE 2 [.imm (.val (.int .u32 a68.ffrom)),int a68.cost]),.one (prow 12 a93.2.1),pool 4 b8 a93.2.2]) Z Z Z (FnOk.lend [7,9,5,6] (R1 ha93) Z Z Z Z Z Z (by exact⟨(.one Z),(.one (m7 Z)),(.one (p9 Z)),(.any s8),Y⟩) Z (by exact⟨(.live Z (.one Z)),(.live Z (.one (l7 fun _=>Z))),(.live Z (.one (q8 fun _=>Z))),(.live Z RenE.pool),Y⟩) Z Z (by exact⟨(.old Z Z Z),(.old Z Z Z),(.old Z Z Z),(.old Z Z Z),(.old Z Z Z),(.new 2 Z Z (.one (q8 fun _=>Z))),.dead,(.new 0 Z Z (.one Z)),.dead,.dead,(.old Z Z Z),(.new 4 Z Z (.one (l7 fun _=>Z))),(.new 5 Z Z RenE.pool),Y⟩)) (.nil (d6 ?_)))
       obtain⟨ej0,ej1,ej2,ej3,ej4⟩:=o5 hx93
       subst ej0 ej1 ej2 ej3 ej4
       refine b5 (Sub.cut ⟨Z,Z,Z,Z,Z,Z,Z,Y⟩ Z ⟨.one Z,.vec,(.any (mm_ok Z)),.one Z,.one Z,(.one (p9 Z)),.dead,.one Z,.dead,.dead,.dead,(.one (m7 Z)),(.any s8),Y⟩ (eOk1 Z (eOk1 Z (eOk1 Z (eOk1 Z (eOk1 (am6 Z) (eOk1 Z (eOk1 Z Z))))))))
      ·refine AWP.skip (d6 ?_)
       obtain⟨ej0,ej1,ej2,ej3,ej4⟩:=o5 hx93
       subst ej0 ej1 ej2 ej3 ej4
       refine b5 ((Sub.move (env':=[(5,(cP 3 0 0)),(6,.c (.map 4)),(7,(cP 7 0 0)),(12,(cI a58.2.2.2.2.1)),(64,.c (rowC 2 c56 a58.2.2.2.1)),(65,(cI ((rowM c56 a58.2.2.2.1).length:Int))),(66,(cI t87))]) (σ':=[(oE 3 (wW start goal 1 l4.length)),(oV 4 f5 l4),mmap 2 2 vU m6 c56,(o1 (.map 2)),(oW vU vI c82),.one (pmap 6 vU c83),pool 4 b8 c84,(oE 3 [.own 11 0 c86.length,.map 5,int c85]),.dead,.dead,(oE 2 [.imm (.val (.int .u32 a68.ffrom)),int a68.cost]),.one (prow 6 c86)]) 11 9 Z Z Z ⟨Z,Z,Z,Z,rowC_mv (fun _=>Z) Z,Z,Z,Y⟩ (eOk1 Z (eOk1 Z (eOk1 Z (eOk1 Z (eOk1 (am6 Z) (eOk1 Z (eOk1 Z Z))))))) ⟨⟨Z,Z⟩,⟨Blk.im_ok _ _ _,i6 Z⟩,(y5.mmap Z Z Z),⟨Z,Z⟩,⟨Z,Z⟩,⟨p9 Z,E9 Z U6⟩,(y5.pool Z),⟨Z,Z⟩,Y,Y,⟨Z,Z⟩,⟨m7 Z,E9 Z V1⟩,Y⟩).trans ((Sub.moveM (env':=[(5,(cP 3 0 0)),(6,.c (.map 4)),(7,(cP 7 0 0)),(12,(cI a58.2.2.2.2.1)),(64,.c (rowC 2 c56 a58.2.2.2.1)),(65,(cI ((rowM c56 a58.2.2.2.1).length:Int))),(66,(cI t87))]) (σ':=[(oE 3 (wW start goal 1 l4.length)),(oV 4 f5 l4),mmap 2 2 vU m6 c56,(o1 (.map 2)),(oW vU vI c82),.one (pmap 12 vU c83),.dead,(oE 3 [.own 11 0 c86.length,.map 5,int c85]),.dead,.dead,(oE 2 [.imm (.val (.int .u32 a68.ffrom)),int a68.cost]),.one (prow 12 c86),pool 4 b8 c84]) 12 6 Z Z Z ⟨Z,Z,Z,Z,rowC_mv (fun _=>Z) Z,Z,Z,Y⟩ (eOk1 Z (eOk1 Z (eOk1 Z (eOk1 Z (eOk1 (am6 Z) (eOk1 Z (eOk1 Z Z))))))) ⟨(.one Z Z),(.vec Z),(EntR.mmap Z Z Z),(.one Z Z),(.one Z Z),(.one (p9 Z) (M0 Z Z (q8 fun _=>Z))),.dead,(.one Z Z),.dead,.dead,(.one Z Z),(.one (m7 Z) (M0 Z Z (l7 fun _=>Z))),(EntR.pool Z Z),Y⟩).trans (Sub.cut ⟨Z,Z,Z,Z,Z,Z,Z,Y⟩ Z ⟨.one Z,.vec,(.any (mm_ok Z)),.one Z,.one Z,(.one (p9 Z)),.dead,.one Z,.dead,.dead,.dead,(.one (m7 Z)),(.any s8),Y⟩ (eOk1 Z (eOk1 Z (eOk1 Z (eOk1 Z (eOk1 (am6 Z) (eOk1 Z (eOk1 Z Z))))))))))
     ·try dsimp only at h
      refine AWP.U (.add Z Z Z (by omega) (.z Z Z (.nil ?_)))
      obtain rfl:=oi h
      refine b5 ((Sub.move (env':=[(5,(cP 3 0 0)),(6,.c (.map 4)),(7,(cP 7 0 0)),(12,(cI a58.2.2.2.2.1)),(64,.c (rowC 2 c56 a58.2.2.2.1)),(65,(cI ((rowM c56 a58.2.2.2.1).length:Int))),(66,(cI (t87+1)))]) (σ':=[(oE 3 (wW start goal 1 l4.length)),(oV 4 f5 l4),mmap 2 2 vU m6 c56,(o1 (.map 2)),(oW vU vI c88),.one (pmap 12 vU c89),.dead,(oE 3 [.own 9 0 c91.length,.map 5,int c90]),.dead,.one (prow 12 c91),.dead,.dead,pool 4 b8 c92]) 9 11 Z Z Z ⟨Z,Z,Z,Z,rowC_mv (fun _=>Z) Z,Z,Z,Y⟩ (eOk1 Z (eOk1 Z (eOk1 Z (eOk1 Z (eOk1 (am6 Z) (eOk1 Z (eOk1 Z Z))))))) ⟨⟨Z,Z⟩,⟨Blk.im_ok _ _ _,i6 Z⟩,(y5.mmap Z Z Z),⟨Z,Z⟩,⟨Z,Z⟩,⟨p9 Z,E9 Z U6⟩,Y,⟨Z,Z⟩,Y,⟨m7 Z,E9 Z V1⟩,Y,Y,(y5.pool Z),Y⟩).trans ((Sub.moveM (env':=[(5,(cP 3 0 0)),(6,.c (.map 4)),(7,(cP 7 0 0)),(12,(cI a58.2.2.2.2.1)),(64,.c (rowC 2 c56 a58.2.2.2.1)),(65,(cI ((rowM c56 a58.2.2.2.1).length:Int))),(66,(cI (t87+1)))]) (σ':=[(oE 3 (wW start goal 1 l4.length)),(oV 4 f5 l4),mmap 2 2 vU m6 c56,(o1 (.map 2)),(oW vU vI c88),.one (pmap 6 vU c89),pool 4 b8 c92,(oE 3 [.own 9 0 c91.length,.map 5,int c90]),.dead,.one (prow 6 c91),.dead,.dead]) 6 12 Z Z Z ⟨Z,Z,Z,Z,rowC_mv (fun _=>Z) Z,Z,Z,Y⟩ (eOk1 Z (eOk1 Z (eOk1 Z (eOk1 Z (eOk1 (am6 Z) (eOk1 Z (eOk1 Z Z))))))) ⟨(.one Z Z),(.vec Z),(EntR.mmap Z Z Z),(.one Z Z),(.one Z Z),(.one (p9 Z) (M0 Z Z (q8 fun _=>Z))),(EntR.pool Z Z),(.one Z Z),.dead,(.one (m7 Z) (M0 Z Z (l7 fun _=>Z))),.dead,.dead,Y⟩).trans (Sub.cut ⟨Z,Z,Z,Z,Z,Z,Z,Y⟩ Z ⟨.one Z,.vec,(.any (mm_ok Z)),.one Z,.one Z,(.one (p9 Z)),(.any s8),.one Z,.dead,(.one (m7 Z)),Y⟩ (eOk1 Z (eOk1 Z (eOk1 Z (eOk1 Z (eOk1 (am6 Z) (eOk1 Z (eOk1 Z Z))))))))))
    ·intro iz
     refine i7 (d6 ?_)
     obtain rfl:=oi h
     refine b5 ⟨_,Z,?_⟩
     exact(Sub.move (env':=[(5,(cP 3 0 0)),(6,.c (.map 4)),(7,(cP 7 0 0))]) (σ':=[(oE 3 (wW start goal 1 l4.length)),(oV 4 f5 l4),mmap 2 2 vU m6 c56,(o1 (.map 2)),(oW vU vI c82),.one (pmap 6 vU c83),pool 4 b8 c84,(oE 3 [.own 8 0 c86.length,.map 5,int c85]),.one (prow 6 c86)]) 8 9 Z Z Z ⟨Z,Z,Z,Y⟩ Z ⟨⟨Z,Z⟩,⟨Blk.im_ok _ _ _,i6 Z⟩,(y5.mmap Z Z Z),⟨Z,Z⟩,⟨Z,Z⟩,⟨p9 Z,E9 Z U6⟩,(y5.pool Z),⟨Z,Z⟩,⟨m7 Z,E9 Z V1⟩,Y⟩).trans (Sub.en Z)
   ·refine AWP.exit (k8 ?_)
    obtain rfl:=oi h
    refine k8 ⟨_,Z,Z,?_⟩
    exact Sub.cut ⟨Z,Y⟩ Z ⟨.one Z,.vec,.dead,.dead,.one Z,Y⟩ Z
  ·intro e s hq
   obtain⟨rfl,hs⟩:=hq
   refine⟨_,hs,?_⟩
   refine i7 (b5 (.gk 2 Z (.ret ?_)))
   obtain rfl:=oi h
   exact Done.e Z ⟨Z,Z⟩
theorem aE8{t:j3}{r:Int×g8}(h:ag5 t=some r):f7 prog 42 [.agg (tT t)] (.tup [(cI r.1),.agg [int r.2.code,int r.2.index]]):=by
 unfold f7
 refine FnOk.enter (rs:=[.t 2,.cell 3 32 2]) func42 Z ntmps42 results42 Z ⟨Y,rv _ Z,Y⟩ (by kernel_rfl) Z ?_
 unfold ag5 at h
 refine AWP.gk 3 Z (.j ?_)
 obtain⟨fk2,hfk2,h⟩:=b7 h
 rcases fk2 with fk2|fk2
 ·try dsimp only at h
  refine AWP.G 1 Z (.callF (r2:=.tup [.c (.imm (.val (.pointer none))),.c (row 1 eU32 []),.agg [int fk2.1,int fk2.2]]) (σ'':=[(oE 4 (tT t)),(oE 2 [int 0,int 0]),.dead,(oE 2 [int fk2.1,int fk2.2])]) Z Z Z (FnOk.lend [] (FnOk.alt1 (ap5 hfk2)) Z Z Z Z Z Z (by exact Y) Z (by exact Y) Z Z (by exact⟨(.old Z Z Z),(.old Z Z Z),.dead,(.new 1 Z Z (.one Z)),Y⟩)) (.G 8 Z (.nil (b5 (.j (.gs 2 Z (.neqP Z Z Z Z Z Z Z (.ne (.F Z h (fun hc3 h=> ?_) (fun hc3 h=> ?_))))))))))
  ·refine AWP.j (.drawEI [2] mixed Z Z Z (d4.D 2 Z Z ?_))
   apply d4.consE (v:=.undef);exact Z;exact Z;intro E
   refine W.storeAgg Z Z Z Z Z Z Z .N
   exact Z
   exact Z
   refine d4.done Z ?_ ?_
   ·refine i5.D 3 Z Z (i5.nil)
   dsimp only[l9]
   refine b5 (.ret (d9 ?_))
   obtain rfl:=oi h
   exact Done.ret Z Z
  ·cases h
 ·try dsimp only at h
  refine AWP.G 1 Z (.callF (r2:=.tup [(cP 6 0 0),.c (row 1 eU32 fk2.2.2.2),.agg [int 0,int 0]]) (σ'':=[(oE 4 (tT t)),(oE 2 [int 0,int 0]),.dead,(oE 2 [int 0,int 0]),.dead,.dead,(oE 3 [.imm (.val (.int .u32 fk2.1)),.imm (.val (.int .u32 fk2.2.1)),.own 7 0 fk2.2.2.1.length]),(oV 4 f5 fk2.2.2.1)]) Z Z Z (FnOk.lend [] (FnOk.alt2 (ap5 hfk2)) Z Z Z Z Z Z (by exact Y) Z (by exact Y) Z Z (by exact⟨(.old Z Z Z),(.old Z Z Z),.dead,(.new 1 Z Z (.one Z)),.dead,.dead,(.new 4 Z Z (.one Z)),(.new 5 Z Z .vec),Y⟩)) (.G 8 Z (.nil (b5 (.j (.gs 2 Z (.neqP Z Z Z Z Z Z Z (.ne (.F Z h (fun hc3 h=> ?_) (fun hc3 h=> ?_))))))))))
  ·refine AWP.j (.drawEI [2] mixed Z Z Z (d4.D 2 Z Z ?_))
   apply d4.consE (v:=.undef);exact Z;exact Z;intro E
   refine W.storeAgg Z Z Z Z Z Z Z .N
   exact Z
   exact Z
   refine d4.done Z ?_ ?_
   ·refine i5.D 3 Z Z (i5.nil)
   dsimp only[l9]
   refine b5 (.ret (d9 ?_))
   obtain rfl:=oi h
   exact Done.ret Z Z
  ·refine AWP.skip (b5 (.j ?_))
   obtain⟨a19,ha19,a21,ha21,h⟩:=b2 h
   refine AWP.G 2 Z (.callF (r2:=.c (.map 11)) (σ'':=[(oE 4 (tT t)),(oE 2 [int 0,int 0]),.dead,(oE 2 [int 0,int 0]),.dead,.dead,(oE 3 [.imm (.val (.int .u32 fk2.1)),.imm (.val (.int .u32 fk2.2.1)),.own 7 0 fk2.2.2.1.length]),(oV 4 f5 fk2.2.2.1),(oE 2 [int 0,int 0]),.dead,.dead,(oW vU vI a19)]) Z Z Z (FnOk.lend [6,7] (aD8 ha19) Z Z Z Z Z Z (by exact⟨(.one Z),.vec,Y⟩) Z (by exact⟨(.live Z (.one Z)),(.live Z .vec),Y⟩) Z Z (by exact⟨(.old Z Z Z),(.old Z Z Z),.dead,(.old Z Z Z),.dead,.dead,(.new 0 Z Z (.one Z)),(.new 1 Z Z .vec),(.old Z Z Z),.dead,.dead,(.new 4 Z Z (.one Z)),Y⟩)) (.z Z Z (.callF (r2:=.c (.imm (.val (.int .u32 fk2.1)))) (σ'':=[(oE 4 (tT t)),(oE 2 [int 0,int 0]),.dead,(oE 2 [int 0,int 0]),.dead,.dead,(oE 3 [.imm (.val (.int .u32 fk2.1)),.imm (.val (.int .u32 fk2.2.1)),.own 7 0 fk2.2.2.1.length]),(oV 4 f5 fk2.2.2.1),(oE 2 [int 0,int 0]),.dead,.dead,(oW vU vI a19)]) Z Z Z (FnOk.lend [6,7] (U4 ha21) Z Z Z Z Z Z (by exact⟨(.one Z),.vec,Y⟩) Z (by exact⟨(.live Z (.one Z)),(.live Z .vec),Y⟩) Z Z (by exact⟨(.old Z Z Z),(.old Z Z Z),.dead,(.old Z Z Z),.dead,.dead,(.new 0 Z Z (.one Z)),(.new 1 Z Z .vec),(.old Z Z Z),.dead,.dead,(.old Z Z Z),Y⟩)) (W.lookup (fk:=vU) (fv:=vI) (k:=fk2.1) (z:=0) N5 Z (fun _=>Z) Z Z Z Z ?_))))
   refine AOps.G 3 Z (.nil (b5 (.ret ?_)))
   obtain rfl:=oi h
   exact Done.ret Z Z
theorem aF3{t:j3}{op:Int}{r:Int×g8}(h:Y1 t op=some r):f7 prog 13 [.agg (tT t),(cI op)] (.tup [(cI r.1),.agg [int r.2.code,int r.2.index]]):=by
 unfold f7
 refine FnOk.enter (rs:=[.t 4,.cell 5 32 2]) func13 Z ntmps13 results13 Z ⟨Y,rv _ Z,Y⟩ (by kernel_rfl) Z ?_
 unfold Y1 at h
 refine AWP.gk 3 Z (.j (.j ?_))
 obtain⟨a11,ha11,h⟩:=b7 h
 refine AWP.G 2 Z (.u Z Z Z Z (aE0 ha11) Z (.G 2 Z (.nil (b5 (.gs 2 Z (.neqP Z Z Z Z Z Z Z (.ne (.F Z h (fun hc3 h=> ?_) (fun hc3 h=> ?_)))))))))
 ·refine AWP.j (.drawEI [2] mixed Z Z Z (d4.D 2 Z Z ?_))
  apply d4.consE (v:=.undef);exact Z;exact Z;intro E
  refine W.storeAgg Z Z Z Z Z Z Z .N
  exact Z
  exact Z
  refine d4.done Z ?_ ?_
  ·refine i5.D 3 Z Z (i5.nil)
  dsimp only[l9]
  refine b5 (.ret (d9 ?_))
  obtain rfl:=oi h
  exact Done.ret Z Z
 ·refine AWP.skip (b5 (.j ?_))
  obtain⟨a19,ha19,h⟩:=b7 h
  refine AWP.G 2 Z (.u Z Z Z Z (aD5 ha19) Z (.G 7 Z (.nil (b5 (.j (.gs 2 Z (.neqP Z Z Z Z Z Z Z (.ne (.F Z h (fun hc4 h=> ?_) (fun hc4 h=> ?_))))))))))
  ·refine AWP.j (.drawEI [2] mixed Z Z Z (d4.D 2 Z Z ?_))
   apply d4.consE (v:=.undef);exact Z;exact Z;intro E
   refine W.storeAgg Z Z Z Z Z Z Z .N
   exact Z
   exact Z
   refine d4.done Z ?_ ?_
   ·refine i5.D 3 Z Z (i5.nil)
   dsimp only[l9]
   refine b5 (.ret (d9 ?_))
   obtain rfl:=oi h
   exact Done.ret Z Z
  ·refine AWP.skip (b5 (.j ?_))
   obtain⟨a27,ha27,h⟩:=b7 h
   refine AWP.G 1 Z (.u Z Z Z Z (aE8 ha27) Z (.G 4 Z (.nil (b5 (.ret ?_)))))
   obtain rfl:=oi h
   exact Done.ret Z Z
theorem as8{av:Li}{bv:Li}{r:Bool}(h:P0 av bv=some r):f7 prog 14 [(cR av),(cR bv)] ((cB r)):=by
 unfold f7
 refine FnOk.enter (rs:=[.t 4]) func14 Z ntmps14 results14 Z ⟨Y,Y⟩ (by kernel_rfl) Z ?_
 unfold P0 at h
 refine AWP.gk 1 Z (.j (.gs 1 Z (S.len Z Z (fun hl7=>.z Z Z (S.len Z Z (fun hl9=>.ge 1 Z (.iteN Z h (fun hc3 h=> ?_) (fun hc3 h=> ?_))))))))
 ·refine AWP.gk 1 Z (.ret (d9 ?_))
  obtain rfl:=oi h
  exact Done.ret Z Z
 ·refine AWP.skip (b5 (.j (.gk 1 Z (.q ?_))))
  obtain⟨oo,ho1,h⟩:=b7 h
  refine AWP.rngL ho1 (fun iv4 _=>⟨[(0,(cR av)),(1,(cR bv)),(5,(cI iv4))],[]⟩) (fun x e st=>e=.ret/\Done [.t 4] (fun t _=>t=(cB x)) .ret st) (fun _ _ _ k=>.G 2 Z (S.len Z Z fun hl=>.gn 1 Z (k hl))) (fun _ _=>Z) ?_ ?_ ?_ ?_
  ·exact Sub.en Z
  ·intro iv4 s o hloiv4 hltiv4 h hl13
   unfold au9 at h
   try dsimp only at h ⊢
   refine AWP.j (.q (.j ?_))
   obtain⟨a19,ha19,a23,ha23,h⟩:=b2 h
   refine AWP.drawI mixed Z (d7.D 2 Z ?_)
   refine d7.consF Z (fun E=>S.idx ha19 Z Z Z Z .N) Z ?_
   refine d7.D 3 Z ?_
   refine d7.consF Z (fun E=>S.idx ha23 Z Z Z Z .N) Z ?_
   refine d7.D 2 Z (d7.done ?_)
   dsimp only[l9]
   refine b5 (.iteN Z h (fun hc5 h=> ?_) (fun hc5 h=> ?_))
   ·refine AWP.gk 1 Z (.ret (i9 (d9 ?_)))
    obtain rfl:=oi h
    refine d9 ⟨_,Z,Z,?_⟩
    exact Done.ret Z Z
   ·refine AWP.skip (d6 (b5 (.G 1 Z (.add Z Z Z (by omega) (.B Z Z (.nil ?_))))))
    obtain rfl:=oi h
    refine b5 ⟨_,Z,?_⟩
    exact Sub.en Z
  ·intro iz _ he
   subst he
   try dsimp only at h ⊢
   refine i7 (b5 (.gk 1 Z (.ret ?_)))
   obtain rfl:=oi h
   exact Done.ret Z Z
  ·intro x e st he hq
   subst he
   try dsimp only at h hq
   obtain⟨rfl,hs⟩:=hq
   refine⟨_,Sub.refl _ _,?_⟩
   refine i9 (d9 ?_)
   obtain rfl:=oi h
   exact hs
theorem ah0{r:Bool}(h:M9=some r):f7 prog 4 [] ((cB r)):=by
 unfold f7
 refine FnOk.enter (rs:=[.t 0]) func4 Z ntmps4 results4 Z ⟨Y,Y⟩ (by kernel_rfl) Z ?_
 unfold M9 at h
 refine AWP.gk 1 Z (.j ?_)
 obtain⟨a7,ha7,a8,ha8,h⟩:=b2 h
 refine AWP.U (.u Z Z Z Z (az0 ha7) Z (.u Z Z Z Z (f7.nil (by exact⟨⟨(.inl Z),(.inl Z),(.inl Z),(.inl Z),Y⟩,(.inr ⟨Z,_,Z⟩),Y⟩) (belief_Plan_ok ha8)) Z (.G 8 Z (.nil (b5 (.j ?_))))))
 obtain⟨a13,ha13,a14,ha14,h⟩:=b2 h
 refine AWP.U (.u Z Z Z Z (az0 ha13) Z (.u Z Z Z Z (aF3 ha14) Z (.G 6 Z (.nil (b5 ?_)))))
 obtain⟨t1,hx2,h⟩:=b7 h
 refine AWP.seqJ (⟨[(0,(cB t1))],[]⟩) ?_ ?_
 ·rcases bft (decide (a8.2.2.code=0)) with hb3|hb3
  ·replace hx2:=K6 hb3 hx2
   rcases bft (decide (a14.2.code=0)) with hb4|hb4
   ·replace hx2:=K6 hb4 hx2
    rcases bft (a8.2.1) with hb5|hb5
    ·replace hx2:=X1 hb5 hx2
     obtain⟨a31,ha31,hx2⟩:=b7 hx2
     rcases bft (a31) with hb6|hb6
     ·replace hx2:=X1 hb6 hx2
      refine AWP.G 4 Z (.K Z Z hb3 (.G 5 Z (.E Z Z Z hb4 (.z Z Z (.ab Z hb4 Z Z (.z Z Z (.K Z Z hb5 (.G 1 Z (.E Z Z Z Z (S.lit (f:=intI) (l:=[0]) (ess:=[[int 0]]) Z Z Z Z Z Z Z ⟨⟨.inl Z,Y⟩,Y⟩ Z Z Z (.E Z Z Z Z (.aa Z Z (.cons (.c .imm) (.cons (.c (.own Z Z)) .nil)) Z (as8 ha31) Z (.G 2 Z (.K Z Z hb6 (.G 4 Z (.nil ?_))))))))))))))))
      obtain rfl:=oi hx2
      refine b5 (Sub.cut ⟨Z,Y⟩ Z Y Z)
     ·replace hx2:=X5 hb6 hx2
      refine AWP.G 4 Z (.K Z Z hb3 (.G 5 Z (.E Z Z Z hb4 (.z Z Z (.ab Z hb4 Z Z (.z Z Z (.K Z Z hb5 (.G 1 Z (.E Z Z Z Z (S.lit (f:=intI) (l:=[0]) (ess:=[[int 0]]) Z Z Z Z Z Z Z ⟨⟨.inl Z,Y⟩,Y⟩ Z Z Z (.E Z Z Z Z (.aa Z Z (.cons (.c .imm) (.cons (.c (.own Z Z)) .nil)) Z (as8 ha31) Z (.G 2 Z (.K Z Z hb6 (.G 4 Z (.nil ?_))))))))))))))))
      obtain rfl:=oi hx2
      refine b5 (Sub.cut ⟨Z,Y⟩ Z Y Z)
    ·replace hx2:=X5 hb5 hx2
     refine AWP.G 4 Z (.K Z Z hb3 (.G 5 Z (.E Z Z Z hb4 (.z Z Z (.ab Z hb4 Z Z (.z Z Z (.K Z Z hb5 (.G 9 Z (.nil ?_)))))))))
     obtain rfl:=oi hx2
     refine b5 (Sub.cut ⟨Z,Y⟩ Z Y Z)
   ·replace hx2:=K0 hb4 hx2
    refine AWP.G 4 Z (.K Z Z hb3 (.G 5 Z (.O Z Z Z hb4 (.pickF Z hb4 Z Z (.G 10 Z (.nil ?_))))))
    obtain rfl:=oi hx2
    refine b5 (Sub.cut ⟨Z,Y⟩ Z Y Z)
  ·replace hx2:=K0 hb3 hx2
   refine AWP.G 4 Z (.K Z Z hb3 (.G 17 Z (.nil ?_)))
   obtain rfl:=oi hx2
   refine b5 (Sub.cut ⟨Z,Y⟩ Z Y Z)
 ·refine AWP.ret ?_
  obtain rfl:=oi h
  exact Done.ret Z Z
theorem az8{ov:m5}{facts:Int}{r:Int}(h:N3 ov facts=some r):f7 prog 53 [.agg [row 1 intI ov.pre,row 3 z1 ov.outcomes,int ov.cost],(cI facts)] ((cI r)):=by
 unfold f7
 refine FnOk.enter (rs:=[.t 4]) func53 Z ntmps53 results53 Z ⟨Y,Y⟩ (by kernel_rfl) Z ?_
 unfold N3 at h
 refine AWP.gk 2 Z (.j (.q (.j ?_)))
 obtain⟨a11,ha11,h⟩:=b7 h
 refine AWP.G 3 Z (.u Z Z Z Z (n5 ha11) Z (.G 2 Z (.nil (b5 (.F Z h (fun hc3 h=> ?_) (fun hc3 h=> ?_))))))
 ·refine AWP.gk 1 Z (.ret (i9 (d9 ?_)))
  obtain rfl:=oi h
  exact Done.ret Z Z
 ·refine AWP.seqJ (⟨[(1,(cI facts)),(2,(cP 0 0 0)),(13,(cB ((decide (ov.cost<0))||(decide (100<ov.cost)))))],[(oE 3 [row 1 intI ov.pre,row 3 z1 ov.outcomes,int ov.cost])]⟩) ?_ ?_
  ·rcases bft (decide (ov.cost<0)) with hb1|hb1
   ·refine AWP.G 4 Z (.K Z Z hb1 (.G 5 Z (.nil (b5 ?_))))
    simp only[G6 hb1,or_t hb1,ip,ir,io,iq]
    exact Sub.en Z
   ·refine AWP.G 4 Z (.K Z Z hb1 (.G 5 Z (.nil (b5 ?_))))
    simp only[B9 hb1,or_f hb1,ip,ir,io,iq]
    exact Sub.en Z
  ·refine AWP.F Z h (fun hc4 h=> ?_) (fun hc4 h=> ?_)
   ·refine AWP.gk 1 Z (.ret (i9 (d9 ?_)))
    obtain rfl:=oi h
    exact Done.ret Z Z
   ·refine AWP.seqJ (⟨[(1,(cI facts)),(2,(cP 0 0 0)),(22,(cB ((decide ((ov.outcomes.length:Int)=0))||(decide (4<(ov.outcomes.length:Int))))))],[(oE 3 [row 1 intI ov.pre,row 3 z1 ov.outcomes,int ov.cost])]⟩) ?_ ?_
    ·rcases bft (decide ((ov.outcomes.length:Int)=0)) with hb1|hb1
     ·refine AWP.G 2 Z (S.len Z Z (fun hl25=>.G 2 Z (.K Z Z hb1 (.G 6 Z (.nil (b5 ?_))))))
      simp only[G6 hb1,or_t hb1,ip,ir,io,iq]
      exact Sub.en Z
     ·refine AWP.G 2 Z (S.len Z Z (fun hl25=>.G 2 Z (.K Z Z hb1 (.G 2 Z ?_))))
      refine AOps.E Z Z Z Z ?_;refine S.len Z Z (fun hl30=> ?_)
      refine AOps.G 3 Z (.nil (b5 ?_))
      simp only[B9 hb1,or_f hb1,ip,ir,io,iq]
      exact Sub.en Z
    ·refine AWP.F Z h (fun hc5 h=> ?_) (fun hc5 h=> ?_)
     ·refine AWP.gk 1 Z (.ret (i9 (d9 ?_)))
      obtain rfl:=oi h
      exact Done.ret Z Z
     ·refine AWP.skip (d6 (b5 (.j (.gs 2 Z (S.len Z Z (fun hl35=>.ge 1 Z (.q ?_)))))))
      obtain⟨oo,ho1,h⟩:=b7 h
      refine AWP.rngH ho1 (fun t6 _=>⟨[(1,(cI facts)),(34,.c (row 3 z1 ov.outcomes)),(35,(cI (ov.outcomes.length:Int))),(36,(cI t6))],[]⟩) (fun x e st=>e=.ret/\Done [.t 4] (fun t _=>t=(cI x)) .ret st) (fun _ _=>Z) ?_ ?_ ?_ ?_
      ·exact Sub.cut ⟨Z,Z,Z,Z,Y⟩ Z Y Z
      ·intro t6 s o hlot6 hltt6 h
       unfold H6 at h
       try dsimp only at h ⊢
       refine AWP.j (.q (.j ?_))
       obtain⟨a38,ha38,h⟩:=b7 h
       refine AWP.U (S.idx ha38 Z Z Z Z (.G 3 Z (.nil (b5 (.q ?_)))))
       obtain⟨t7,hx8,h⟩:=b7 h
       refine AWP.seqJ (⟨[(1,(cI facts)),(6,(cP 0 0 0)),(34,.c (row 3 z1 ov.outcomes)),(35,(cI (ov.outcomes.length:Int))),(36,(cI t6)),(40,(cB t7))],[(oE 3 [row 1 intI a38.add,row 1 intI a38.del,int a38.weight])]⟩) ?_ ?_
       ·obtain⟨a44,ha44,hx8⟩:=b7 hx8
        rcases bft (!a44) with hb9|hb9
        ·replace hx8:=X1 hb9 hx8
         refine AWP.G 3 Z (.u Z Z Z Z (n5 ha44) Z (.G 2 Z (.K Z Z hb9 (.G 14 Z (.nil ?_)))))
         obtain rfl:=oi hx8
         refine b5 (Sub.en Z)
        ·replace hx8:=X5 hb9 hx8
         obtain⟨a50,ha50,hx8⟩:=b7 hx8
         rcases bft (!a50) with hb10|hb10
         ·replace hx8:=X1 hb10 hx8
          refine AWP.G 3 Z (.u Z Z Z Z (n5 ha44) Z (.G 2 Z (.K Z Z hb9 (.G 3 Z (.E Z Z Z Z (.u Z Z Z Z (n5 ha50) Z (.G 3 Z (.K Z Z hb10 (.G 7 Z (.nil ?_))))))))))
          obtain rfl:=oi hx8
          refine b5 (Sub.en Z)
         ·replace hx8:=X5 hb10 hx8
          obtain⟨a58,ha58,hx8⟩:=b7 hx8
          refine AWP.G 3 Z (.u Z Z Z Z (n5 ha44) Z (.G 2 Z (.K Z Z hb9 (.G 3 Z (.E Z Z Z Z (.u Z Z Z Z (n5 ha50) Z (.G 3 Z (.K Z Z hb10 (.G 4 Z (.E Z Z Z Z (.u Z Z Z Z (ax0 ha58) Z (.G 2 Z (.nil ?_)))))))))))))
          obtain rfl:=oi hx8
          refine b5 (Sub.en Z)
       ·refine AWP.F Z h (fun hc11 h=> ?_) (fun hc11 h=> ?_)
        ·refine AWP.gk 1 Z (.ret (i9 (i9 (d9 ?_))))
         obtain rfl:=oi h
         refine d9 ⟨_,Z,Z,?_⟩
         exact Done.ret Z Z
        ·refine AWP.seqJ (⟨[(1,(cI facts)),(34,.c (row 3 z1 ov.outcomes)),(35,(cI (ov.outcomes.length:Int))),(36,(cI t6)),(60,(cB ((decide (a38.weight<1))||(decide (6<a38.weight)))))],[(oE 3 [row 1 intI a38.add,row 1 intI a38.del,int a38.weight])]⟩) ?_ ?_
         ·rcases bft (decide (a38.weight<1)) with hb1|hb1
          ·refine AWP.G 4 Z (.K Z Z hb1 (.G 5 Z (.nil (b5 ?_))))
           simp only[G6 hb1,or_t hb1,ip,ir,io,iq]
           exact Sub.en Z
          ·refine AWP.G 4 Z (.K Z Z hb1 (.G 5 Z (.nil (b5 ?_))))
           simp only[B9 hb1,or_f hb1,ip,ir,io,iq]
           exact Sub.en Z
         ·refine AWP.F Z h (fun hc12 h=> ?_) (fun hc12 h=> ?_)
          ·refine AWP.gk 1 Z (.ret (i9 (i9 (d9 ?_))))
           obtain rfl:=oi h
           refine d9 ⟨_,Z,Z,?_⟩
           exact Done.ret Z Z
          ·refine AWP.skip (d6 (d6 (b5 (.U (.add Z Z Z (by omega) (.z Z Z (.nil ?_)))))))
           obtain rfl:=oi h
           refine b5 ⟨_,Z,?_⟩
           exact Sub.cut ⟨Z,Z,Z,Z,Y⟩ Z Y Z
      ·intro iz _ he
       subst he
       try dsimp only at h ⊢
       refine i7 (b5 (.gk 1 Z (.ret ?_)))
       obtain rfl:=oi h
       exact Done.ret Z Z
      ·intro x e st he hq
       subst he
       try dsimp only at h hq
       obtain⟨rfl,hs⟩:=hq
       refine⟨_,Sub.refl _ _,?_⟩
       refine i9 (d9 ?_)
       obtain rfl:=oi h
       exact hs
theorem ah2{ov:d5}{r:g8}(h:D9 ov=some r):f7 prog 21 [.agg (tO ov)] (.agg [int r.code,int r.index]):=by
 unfold f7
 refine FnOk.enter (rs:=[.cell 2 32 2]) func21 Z ntmps21 results21 Z ⟨rv _ Z,Y⟩ (by kernel_rfl) Z ?_
 unfold D9 at h
 refine AWP.gk 2 Z (.j (.q (.seqJ (⟨[(1,(cP 0 0 0)),(2,(cP 1 0 0)),(6,(cB ((decide (ov.facts<0))||(decide (24<ov.facts)))))],[(oE 4 (tO ov)),(oE 2 [int 0,int 0])]⟩) ?_ ?_)))
 ·rcases bft (decide (ov.facts<0)) with hb1|hb1
  ·refine AWP.G 4 Z (.K Z Z hb1 (.G 5 Z (.nil (b5 ?_))))
   simp only[G6 hb1,or_t hb1,ip,ir,io,iq]
   exact Sub.en Z
  ·refine AWP.G 4 Z (.K Z Z hb1 (.G 5 Z (.nil (b5 ?_))))
   simp only[B9 hb1,or_f hb1,ip,ir,io,iq]
   exact Sub.en Z
 ·refine AWP.F Z h (fun hc2 h=> ?_) (fun hc2 h=> ?_)
  ·refine AWP.gk 2 Z (.ret (i9 (d9 ?_)))
   obtain rfl:=oi h
   exact Done.ret Z Z
  ·refine AWP.j ?_
   obtain⟨a21,ha21,h⟩:=b7 h
   refine AWP.G 4 Z (.u Z Z Z Z (n5 ha21) Z (.G 2 Z (.nil (b5 (.F Z h (fun hc3 h=> ?_) (fun hc3 h=> ?_))))))
   ·refine AWP.gk 2 Z (.ret (i9 (d9 ?_)))
    obtain rfl:=oi h
    exact Done.ret Z Z
   ·refine AWP.j ?_
    obtain⟨a29,ha29,h⟩:=b7 h
    refine AWP.G 4 Z (.u Z Z Z Z (n5 ha29) Z (.G 2 Z (.nil (b5 (.F Z h (fun hc4 h=> ?_) (fun hc4 h=> ?_))))))
    ·refine AWP.gk 2 Z (.ret (i9 (d9 ?_)))
     obtain rfl:=oi h
     exact Done.ret Z Z
    ·refine AWP.gs 2 Z (S.len Z Z (fun hl35=>.ge 2 Z (.J Z h (fun hc5 h=> ?_) (fun hc5 h=> ?_))))
     ·refine AWP.gk 2 Z (.ret (i9 (d9 ?_)))
      obtain rfl:=oi h
      exact Done.ret Z Z
     ·refine AWP.skip (d6 (b5 (.j (.gs 2 Z (S.len Z Z (fun hl40=>.ge 1 Z (.q ?_)))))))
      obtain⟨oo,ho1,h⟩:=b7 h
      refine AWP.rngH ho1 (fun t6 _=>⟨[(1,(cP 0 0 0)),(2,(cP 1 0 0)),(39,.c (row 3 u5 ov.operators)),(40,(cI (ov.operators.length:Int))),(41,(cI t6))],[(oE 4 (tO ov)),(oE 2 [int 0,int 0])]⟩) (fun x e st=>e=.ret/\Done [.cell 2 32 2] (fun t _=>t=.agg [int x.code,int x.index]) .ret st) (fun _ _=>Z) ?_ ?_ ?_ ?_
      ·exact Sub.en Z
      ·intro t6 s o hlot6 hltt6 h
       unfold Q4 at h
       try dsimp only at h ⊢
       refine AWP.j (.q (.j ?_))
       obtain⟨a44,ha44,h⟩:=b7 h
       refine AWP.G 1 Z (S.idx ha44 Z Z Z Z (.G 4 Z (.nil (b5 (.j ?_)))))
       obtain⟨a49,ha49,h⟩:=b7 h
       refine AWP.G 3 Z (.u Z Z Z Z (az8 ha49) Z (.B Z Z (.nil (b5 (.gk 2 Z (.iteN Z h (fun hc7 h=> ?_) (fun hc7 h=> ?_)))))))
       ·refine AWP.gk 4 Z (.ret (i9 (d9 ?_)))
        obtain rfl:=oi h
        refine d9 ⟨_,Z,Z,?_⟩
        exact Done.ret Z Z
       ·refine AWP.skip (d6 (b5 (.U (.add Z Z Z (by omega) (.z Z Z (.nil ?_))))))
        obtain rfl:=oi h
        refine b5 ⟨_,Z,?_⟩
        exact Sub.cut ⟨Z,Z,Z,Z,Z,Y⟩ Z ⟨.one Z,.one Z,Y⟩ Z
      ·intro iz _ he
       subst he
       try dsimp only at h ⊢
       refine i7 (b5 (.gk 2 Z (.ret ?_)))
       obtain rfl:=oi h
       exact Done.ret Z Z
      ·intro x e st he hq
       subst he
       try dsimp only at h hq
       obtain⟨rfl,hs⟩:=hq
       refine⟨_,Sub.refl _ _,?_⟩
       refine i9 (d9 ?_)
       obtain rfl:=oi h
       exact hs
theorem ax3{ov:d5}{sv:Li}{op:Int}{r:Bool}(h:ai8 ov sv op=some r):f7 prog 51 [.agg (tO ov),(cR sv),(cI op)] ((cB r)):=by
 unfold f7
 refine FnOk.enter (rs:=[.t 6]) func51 Z ntmps51 results51 Z ⟨Y,Y⟩ (by kernel_rfl) Z ?_
 unfold ai8 at h
 refine AWP.gk 2 Z (.j ?_)
 obtain⟨a11,ha11,a14,ha14,h⟩:=b2 h
 refine AWP.G 4 Z (S.idx ha11 Z Z Z Z (.G 2 Z (.u Z Z Z Z (x4 ha14) Z (.B Z Z (.nil (b5 (.ret ?_)))))))
 obtain rfl:=oi h
 exact Done.ret Z Z
theorem J4{xv:LL}{target:Li}{cmp:Li->Li->Option Int}{r:Int×Bool}{fvcmp:FuncId}{cvcmp:List C}(hcvcmp:C.okL 0 cvcmp=true)(hcmp:∀{y1:Li} {y2:Li} {z:Int},cmp y1 y2=some z->f7 prog fvcmp ([(cR y1),(cR y2)]++cvcmp.map T.c) ((cI z)))(h:s9 xv target cmp=some r):f7 prog 45 [.c (row 1 d8 xv),(cR target),.c (.fn fvcmp cvcmp)] (.tup [(cI r.1),(cB r.2)]):=by
 unfold f7
 refine FnOk.enter (rs:=[.t 6,.t 7]) func45 Z ntmps45 results45 Z ⟨Y,Y,Y⟩ (by kernel_rfl) Z ?_
 unfold s9 at h
 refine AWP.gk 2 Z (.gs 1 Z (S.len Z Z (fun hl13=>.ge 1 Z (.gk 3 Z (.j (.q ?_))))))
 obtain⟨iv6,ho1,h⟩:=b7 h
 refine AWP.loopS ho1 (fun(iv4,j5)=>⟨[(0,.c (row 1 d8 xv)),(1,(cR target)),(2,.c (.fn fvcmp cvcmp)),(8,(cI (xv.length:Int))),(9,(cI iv4)),(10,(cI j5))],[]⟩) (fun iv6 e st=>e=.exit 0/\Sub [] st ⟨[(0,.c (row 1 d8 xv)),(1,(cR target)),(2,.c (.fn fvcmp cvcmp)),(8,(cI (xv.length:Int))),(9,(cI iv6))],[]⟩) ?_ ?_ ?_
 ·exact Sub.en Z
 ·intro s o h
  obtain⟨iv4,j5⟩:=s
  unfold J6 at h
  try dsimp only at h ⊢
  refine AWP.j (.gk 3 Z (.J Z h (fun hc7 h=> ?_) (fun hc7 h=> ?_)))
  ·refine AWP.skip (b5 (.q (.gs 4 Z (.shr Z Z Z (by first|decide|omega) Z (.ge 2 Z (.j ?_))))))
   obtain⟨a27,ha27,a30,ha30,h⟩:=b2 h
   refine AWP.G 3 Z (S.idx ha27 Z Z Z Z (.G 2 Z (.u Z Z (an5 Z hcvcmp) Z (hcmp ha30) Z (.lss Z Z Z (.nil (b5 (.J Z h (fun hc8 h=> ?_) (fun hc8 h=> ?_))))))))
   ·refine AWP.G 3 Z (.nil (d6 ?_))
    obtain rfl:=oi h
    refine b5 ⟨_,Z,?_⟩
    exact Sub.en Z
   ·refine AWP.G 2 Z (.nil (d6 ?_))
    obtain rfl:=oi h
    refine b5 ⟨_,Z,?_⟩
    exact Sub.en Z
  ·refine AWP.exit (k8 ?_)
   obtain rfl:=oi h
   refine k8 ⟨_,Z,Z,?_⟩
   exact Sub.en Z
 ·intro e s hq
  obtain⟨rfl,hs⟩:=hq
  refine⟨_,hs,?_⟩
  refine i7 (b5 ?_)
  obtain⟨t9,hx10,h⟩:=b7 h
  refine AWP.seqJ (⟨[(6,(cI iv6)),(7,(cB t9))],[]⟩) ?_ ?_
  ·rcases bft (decide (iv6<(xv.length:Int))) with hb11|hb11
   ·replace hx10:=K6 hb11 hx10
    obtain⟨a43,ha43,a46,ha46,hx10⟩:=b2 hx10
    refine AWP.G 5 Z (.K Z Z hb11 (.G 3 Z (.E Z Z Z Z (S.idx ha43 Z Z Z Z (.G 2 Z (.E Z Z Z Z (.u Z Z (an5 Z hcvcmp) Z (hcmp ha46) Z (.G 4 Z (.nil ?_)))))))))
    obtain rfl:=oi hx10
    refine b5 (Sub.en Z)
   ·replace hx10:=K0 hb11 hx10
    refine AWP.G 5 Z (.K Z Z hb11 (.G 11 Z (.nil ?_)))
    obtain rfl:=oi hx10
    refine b5 (Sub.en Z)
  ·refine AWP.ret ?_
   obtain rfl:=oi h
   exact Done.ret Z Z
theorem ab0{ov:d5}{sv:Li}{op:Int}{r:(LL)×Li}(h:H7 ov sv op=some r):f7 prog 50 [.agg (tO ov),(cR sv),(cI op)] (.tup [.c (row 1 d8 r.1),(cR r.2)]):=by
 unfold f7
 refine FnOk.enter (rs:=[.t 6,.t 7]) func50 Z ntmps50 results50 Z ⟨Y,Y,Y⟩ (by kernel_rfl) Z ?_
 unfold H7 at h
 refine AWP.gk 3 Z (.gk 1 Z (.j (.j ?_)))
 obtain⟨a20,ha20,h⟩:=b7 h
 refine AWP.G 3 Z (S.idx ha20 Z Z Z Z (.G 2 Z (S.len Z Z (fun hl23=>.z Z Z (.nil (b5 (.q (.virtV 1 d8 8 Z Z Z ?_))))))))
 obtain⟨c4,ho1,h⟩:=b7 h
 refine AWP.forH ho1 (fun t5 c4=>⟨[(1,(cR sv)),(2,(cI op)),(3,(cP 0 0 0)),(8,.c (.own 1 0 c4.length)),(22,.c (row 3 z1 a20.outcomes)),(23,(cI (a20.outcomes.length:Int))),(24,(cI t5))],[(oE 4 (tO ov)),(oV 1 d8 c4)]⟩) (fun _ _=>Z) ?_ ?_ ?_
 ·exact Sub.env ⟨Z,Z,Z,(C0 (by first|rfl|simp only[lS])),Z,Z,Z,Y⟩
 ·intro t5 c4 o hlot5 hltt5 h
  unfold T7 at h
  try dsimp only at h ⊢
  refine AWP.j (.q (.j ?_))
  obtain⟨a26,ha26,h⟩:=b7 h
  refine AWP.U (S.idx ha26 Z Z Z Z (.G 3 Z (.nil (b5 ?_))))
  obtain⟨a34,ha34,a36,ha36,h⟩:=b2 h
  refine AWP.G 6 Z (S.fresh Z Z Z Z (X0 ha34) Z Z (.frzV (id:=3) (l:=a34) (env2:=[(1,(cR sv)),(2,(cI op)),(3,(cP 0 0 0)),(22,.c (row 3 z1 a20.outcomes)),(23,(cI (a20.outcomes.length:Int))),(24,(cI t5)),(28,.c (.own 1 0 c4.length)),(34,(cR a34))]) (σ2:=[(oE 4 (tO ov)),(oV 1 d8 c4),(oE 3 [row 1 intI a26.add,row 1 intI a26.del,int a26.weight]),.dead]) Z Z (by exact⟨⟨_,Z,.inl ⟨Z,Z⟩⟩,⟨_,Z,.inl ⟨Z,Z⟩⟩,⟨_,Z,.inl ⟨Z,Z⟩⟩,⟨_,Z,.inl ⟨Z,Z⟩⟩,⟨_,Z,.inl ⟨Z,Z⟩⟩,⟨_,Z,.inl ⟨Z,Z⟩⟩,⟨_,Z,.inl ⟨Z,Z⟩⟩,⟨_,Z,.inr ⟨_,Z,Z,Z⟩⟩,Y⟩) Z (by exact⟨⟨Z,.inl ⟨Z,Z⟩,.inl ⟨Z,Z⟩,.inl ⟨Z,Z⟩,.inl ⟨Z,Z⟩,Y⟩,FrzB.vec,⟨Z,.inl ⟨Z,Z⟩,.inl ⟨Z,Z⟩,.inl ⟨Z,Z⟩,Y⟩,Y,Y⟩) (S.lit (f:=d8) (l:=[a34]) (ess:=[[row 1 intI a34]]) Z Z Z Z Z Z Z ⟨⟨.inl Z,Y⟩,Y⟩ Z Z Z (S.append (f:=d8) ha36 Z Z Z Z Z Z (.own Z Z) Z Z Z Z (.B Z Z (.nil (d6 (b5 (.z (env':=[(1,(cR sv)),(2,(cI op)),(3,(cP 0 0 0)),(8,.c (.own 1 0 a36.length)),(22,.c (row 3 z1 a20.outcomes)),(23,(cI (a20.outcomes.length:Int))),(24,(cI t5))]) (σ':=[(oE 4 (tO ov)),(oV 1 d8 a36),(oE 3 [row 1 intI a26.add,row 1 intI a26.del,int a26.weight]),.dead,(oV 1 d8 [a34])]) 1 5 Z Z Z ⟨Z,Z,Z,Z,Z,Z,Z,Y⟩ Z ⟨⟨Z,Z⟩,⟨Blk.im_ok _ _ _,i6 Z⟩,⟨Z,Z⟩,Y,⟨Blk.im_ok _ _ _,i6 Z⟩,Y⟩ (.U (.add Z Z Z (by omega) (.z Z Z (.nil ?_)))))))))))))
  obtain rfl:=oi h
  refine b5 (Sub.cut ⟨Z,Z,Z,Z,Z,Z,Z,Y⟩ Z ⟨.one Z,.vec,Y⟩ Z)
 ·intro iz
  refine i7 (b5 (.j ?_))
  obtain⟨a39,ha39,a40,ha40,h⟩:=b2 h
  refine AWP.G 1 Z (.frzV (id:=1) (l:=c4) (env2:=[(2,(cI op)),(3,(cP 0 0 0)),(8,.c (row 1 d8 c4)),(38,.c (row 1 d8 c4))]) (σ2:=[(oE 4 (tO ov)),.dead]) Z Z (by exact⟨⟨_,Z,.inl ⟨Z,Z⟩⟩,⟨_,Z,.inl ⟨Z,Z⟩⟩,⟨_,Z,.inr ⟨_,Z,Z,Z⟩⟩,⟨_,Z,.inr ⟨_,Z,Z,Z⟩⟩,Y⟩) Z (by exact⟨⟨Z,.inl ⟨Z,Z⟩,.inl ⟨Z,Z⟩,.inl ⟨Z,Z⟩,.inl ⟨Z,Z⟩,Y⟩,Y,Y⟩) (S.fresh Z Z Z Z (at4 ha39) Z Z (.callF (r2:=.c (.own 4 0 a40.length)) (σ'':=[(oE 4 (tO ov)),.dead,.dead,.dead,(oV 1 d8 a40)]) Z Z Z (FnOk.lend [2] (K7 ha40) Z Z Z Z Z Z (by exact⟨.vec,Y⟩) Z (by exact⟨(.live Z .vec),Y⟩) Z Z (by exact⟨(.old Z Z Z),.dead,.dead,.dead,(.new 2 Z Z .vec),Y⟩)) (.B Z Z (.nil (b5 (.j ?_)))))))
  obtain⟨a43,ha43,h⟩:=b7 h
  refine AWP.G 1 Z (S.lenO Z Z Z (fun hl42=>S.make (f:=intI) ha43 (.val .nil) Z Z Z Z Z Z (.B Z Z (.nil (b5 (.j (.j ?_)))))))
  obtain⟨a47,ha47,h⟩:=b7 h
  refine AWP.G 3 Z (S.idx ha47 Z Z Z Z (.G 2 Z (S.len Z Z (fun hl50=>.z Z Z (.nil (b5 (.q ?_)))))))
  obtain⟨c6,ho2,h⟩:=b7 h
  refine AWP.forH ho2 (fun t7 c6=>⟨[(8,.c (row 1 d8 c4)),(11,.c (.own 4 0 a40.length)),(12,.c (.own 5 0 c6.length)),(49,.c (row 3 z1 a47.outcomes)),(50,(cI (a47.outcomes.length:Int))),(51,(cI t7))],[.dead,.dead,.dead,.dead,(oV 1 d8 a40),(oV 1 intI c6)]⟩) (fun _ _=>Z) ?_ ?_ ?_
  ·exact Sub.cut ⟨Z,Z,Z,Z,Z,Z,Y⟩ Z ⟨.dead,.dead,.dead,.dead,.vec,.vec,Y⟩ Z
  ·intro t7 c6 o hlot7 hltt7 h
   unfold M3 at h
   try dsimp only at h ⊢
   refine AWP.j (.q (.j ?_))
   obtain⟨a54,ha54,h⟩:=b7 h
   refine AWP.G 1 Z (S.idx ha54 Z Z Z Z (.G 4 Z (.nil (b5 (.j ?_)))))
   obtain⟨a60,ha60,a62,ha62,h⟩:=b2 h
   refine AWP.G 3 Z (S.idx ha60 Z Z Z Z (.G 1 Z (.aa Z Z (.cons (.c (.own Z Z)) (.cons (.c .imm) (.cons (.c (.fn .nil)) .nil))) Z (J4 Z (fun hy=>w9 hy) ha62) Z ?_)))
   refine AOps.G 5 Z (.nil (b5 ?_))
   obtain⟨a67,ha67,a72,ha72,h⟩:=b2 h
   refine AWP.drawEI [8] mixed Z Z Z (d4.D 2 Z Z ?_)
   refine d4.consN Z Z (fun E=>S.idxO ha67 Z Z Z Z Z .N) Z (.consN Z Z (fun E=>S.loadO ha67 Z Z Z Z Z .N) Z ?_)
   refine d4.D 3 Z Z ?_
   refine d4.consN Z Z (fun E=>S.idxO ha72 Z Z Z Z Z .N) Z ?_
   apply d4.consE (v:=.undef);exact Z;exact Z;intro E
   refine S.storeO1 (f:=intI) (a':=w64 (a67+a54.weight)) (o7 ha72) (fun _=>⟨_,Z⟩) Z Z Z Z Z ?_
   exact AOps.nil ⟨Z,Z⟩
   exact Z
   exact Z
   refine d4.done Z ?_ ?_
   ·refine i5.D 2 Z Z ?_
    refine i5.cons Z Z (.go Z Z (fun E=>S.idxO ha67 Z Z Z Z Z .N) (.skip Z .nil)) (.cons Z Z (.go Z Z (fun E=>S.loadO ha67 Z Z Z Z Z .N) (.skip Z .nil)) ?_)
    refine i5.D 3 Z Z ?_
    refine i5.cons Z Z (.go Z Z (fun E=>S.idxO ha72 Z Z Z Z Z .N) (.skip Z .nil)) ?_
    refine i5.D 1 Z Z (i5.nil)
   dsimp only[l9]
   refine d6 (b5 (.U (.add Z Z Z (by omega) (.z Z Z (.nil ?_)))))
   obtain rfl:=oi h
   refine b5 (Sub.cut ⟨Z,Z,(C0 (by first|rfl|simp only[lS])),Z,Z,Z,Y⟩ Z ⟨.dead,.dead,.dead,.dead,.vec,.vec,Y⟩ Z)
  ·intro iz
   refine i7 (b5 (.gk 4 Z (.frzV (id:=4) (l:=a40) (env2:=[(6,.c (row 1 d8 a40)),(7,.c (.own 5 0 c6.length))]) (σ2:=[.dead,.dead,.dead,.dead,.dead,(oV 1 intI c6)]) Z Z (by exact⟨⟨_,Z,.inr ⟨_,Z,Z,Z⟩⟩,⟨_,Z,.inl ⟨Z,Z⟩⟩,Y⟩) Z (by exact⟨Y,Y,Y,Y,Y,FrzB.vec,Y⟩) (.frzV (id:=5) (l:=c6) (env2:=[(6,.c (row 1 d8 a40)),(7,(cR c6))]) (σ2:=[.dead,.dead,.dead,.dead,.dead,.dead]) Z Z (by exact⟨⟨_,Z,.inl ⟨Z,Z⟩⟩,⟨_,Z,.inr ⟨_,Z,Z,Z⟩⟩,Y⟩) Z (by exact⟨Y,Y,Y,Y,Y,Y,Y⟩) (.ret ?_)))))
   obtain rfl:=oi h
   exact Done.ret Z Z
theorem open_Reach_ok{ov:d5}{r:(LL)×Bool}(h:N8 ov=some r):f7 prog 43 [.agg (tO ov)] (.tup [.c (row 1 d8 r.1),(cB r.2)]):=by
 unfold f7
 refine FnOk.enter (rs:=[.t 2,.t 3]) func43 Z ntmps43 results43 Z ⟨Y,Y,Y⟩ (by kernel_rfl) Z ?_
 unfold N8 at h
 refine AWP.gk 3 Z (.j ?_)
 obtain⟨a15,ha15,h⟩:=b7 h
 refine AWP.G 2 Z (S.fresh Z Z Z Z (j6 ha15) Z Z (.frzV (id:=1) (l:=a15) (env2:=[(1,(cP 0 0 0)),(15,(cR a15))]) (σ2:=[(oE 4 (tO ov)),.dead]) Z Z (by exact⟨⟨_,Z,.inl ⟨Z,Z⟩⟩,⟨_,Z,.inr ⟨_,Z,Z,Z⟩⟩,Y⟩) Z (by exact⟨⟨Z,.inl ⟨Z,Z⟩,.inl ⟨Z,Z⟩,.inl ⟨Z,Z⟩,.inl ⟨Z,Z⟩,Y⟩,Y,Y⟩) (S.lit (f:=d8) (l:=[a15]) (ess:=[[row 1 intI a15]]) Z Z Z Z Z Z Z ⟨⟨.inl Z,Y⟩,Y⟩ Z Z Z (.B Z Z (.nil (b5 (.j ?_)))))))
 obtain⟨a19,ha19,h⟩:=b7 h
 refine AWP.U (W.makeMap Value.string vI Z Z Z (.z Z Z (.aa Z Z (.cons (.c (.own Z Z)) .nil) Z (R7 ha19) Z (W.insert (fk:=Value.string) (fv:=vI) (k:=a19) (a:=1) ak8 Z Z Z Z Z (.G 2 Z (.nil (b5 (.j (.gk 1 Z (.q ?_))))))))))
 obtain⟨oo,ho1,h⟩:=b7 h
 refine AWP.loopS ho1 (fun(c2,c3,atv4)=>⟨[(1,(cP 0 0 0)),(4,.c (.own 2 0 c2.length)),(5,.c (.map 3)),(6,(cI atv4))],[(oE 4 (tO ov)),.dead,(oV 1 d8 c2),(oW Value.string vI c3)]⟩) (fun o e st=>match o with| .inl c5=>e=.exit 0/\Sub [] st ⟨[(4,.c (.own 2 0 c5.length))],[.dead,.dead,(oV 1 d8 c5)]⟩| .inr x=>e=.ret/\Done [.t 2,.t 3] (fun t _=>t=.tup [.c (row 1 d8 x.1),(cB x.2)]) .ret st) ?_ ?_ ?_
 ·exact Sub.en Z
 ·intro s o h
  obtain⟨c2,c3,atv4⟩:=s
  unfold ag2 at h
  try dsimp only at h ⊢
  refine AWP.j (.gs 2 Z (S.lenO Z Z Z (fun hl23=>.ge 1 Z (.J Z h (fun hc6 h=> ?_) (fun hc6 h=> ?_)))))
  ·refine AWP.skip (b5 (.j (.q (.gs 2 Z (S.len Z Z (fun hl29=>.ge 1 Z (.q ?_)))))))
   obtain⟨oo,ho2,h⟩:=b7 h
   refine AWP.rngH ho2 (fun t9 (c7,c8)=>⟨[(1,(cP 0 0 0)),(4,.c (.own 2 0 c7.length)),(5,.c (.map 3)),(6,(cI atv4)),(29,(cI (ov.operators.length:Int))),(30,(cI t9))],[(oE 4 (tO ov)),.dead,(oV 1 d8 c7),(oW Value.string vI c8)]⟩) (fun x e st=>e=.ret/\Done [.t 2,.t 3] (fun t _=>t=.tup [.c (row 1 d8 x.1),(cB x.2)]) .ret st) (fun _ _=>Z) ?_ ?_ ?_ ?_
   ·exact Sub.en Z
   ·intro t9 s o hlot9 hltt9 h
    obtain⟨c7,c8⟩:=s
    unfold R9 at h
    try dsimp only at h ⊢
    refine AWP.seqF (ag6) o (fun(c10,c11)=>⟨[(1,(cP 0 0 0)),(4,.c (.own 2 0 c10.length)),(5,.c (.map 3)),(6,(cI atv4)),(29,(cI (ov.operators.length:Int))),(30,(cI t9))],[(oE 4 (tO ov)),.dead,(oV 1 d8 c10),(oW Value.string vI c11)]⟩) (fun x h=> ?_) ?_
    ·obtain⟨c10,c11⟩:=x
     unfold ag6 at h
     try dsimp only at h ⊢
     refine AWP.U (.add Z Z Z (by omega) (.z Z Z (.nil ?_)))
     obtain rfl:=oi h
     refine b5 ⟨_,Z,?_⟩
     exact Sub.en Z
    ·refine AWP.q (.gk 2 Z (.j (.j ?_)))
     obtain⟨a36,ha36,a39,ha39,h⟩:=b2 h
     refine AWP.drawI mixed Z (d7.D 3 Z ?_)
     refine d7.consF Z (fun E=>S.idxO ha36 Z Z Z Z Z .N) Z (.consF Z (fun E=>S.loadO ha36 Z Z Z Z Z .N) Z ?_)
     refine d7.D 1 Z ?_
     refine d7.consF Z (fun E=>.u Z Z Z Z (ax3 ha39) Z .N) Z ?_
     refine d7.D 1 Z (d7.done ?_)
     dsimp only[l9]
     refine b5 (.F Z h (fun hc12 h=> ?_) (fun hc12 h=> ?_))
     ·refine AWP.exit (k8 (i7 (b5 ⟨_,h,?_⟩)))
      exact Sub.en Z
     ·refine AWP.skip (b5 (.j ?_))
      obtain⟨a45,ha45,a48,ha48,h⟩:=b2 h
      refine AWP.drawI mixed Z (d7.D 3 Z ?_)
      refine d7.consF Z (fun E=>S.idxO ha45 Z Z Z Z Z .N) Z (.consF Z (fun E=>S.loadO ha45 Z Z Z Z Z .N) Z ?_)
      refine d7.D 1 Z ?_
      refine d7.consF Z (fun E=>.u Z Z Z Z (ab0 ha48) Z .N) Z ?_
      refine d7.D 5 Z (d7.done ?_)
      dsimp only[l9]
      refine b5 (.gs 1 Z (S.len Z Z (fun hl52=>.ge 1 Z (.q ?_))))
      obtain⟨oo,ho4,h⟩:=b7 h
      refine AWP.rngH ho4 (fun t15 (c13,c14)=>⟨[(1,(cP 0 0 0)),(4,.c (.own 2 0 c13.length)),(5,.c (.map 3)),(6,(cI atv4)),(29,(cI (ov.operators.length:Int))),(30,(cI t9)),(51,.c (row 1 d8 a48.1)),(52,(cI (a48.1.length:Int))),(53,(cI t15))],[(oE 4 (tO ov)),.dead,(oV 1 d8 c13),(oW Value.string vI c14)]⟩) (fun x e st=>e=.ret/\Done [.t 2,.t 3] (fun t _=>t=.tup [.c (row 1 d8 x.1),(cB x.2)]) .ret st) (fun _ _=>Z) ?_ ?_ ?_ ?_
      ·exact Sub.en Z
      ·intro t15 s o hlot15 hltt15 h
       obtain⟨c13,c14⟩:=s
       unfold R6 at h
       try dsimp only at h ⊢
       refine AWP.seqF (ag8) o (fun(c16,c17)=>⟨[(1,(cP 0 0 0)),(4,.c (.own 2 0 c16.length)),(5,.c (.map 3)),(6,(cI atv4)),(29,(cI (ov.operators.length:Int))),(30,(cI t9)),(51,.c (row 1 d8 a48.1)),(52,(cI (a48.1.length:Int))),(53,(cI t15))],[(oE 4 (tO ov)),.dead,(oV 1 d8 c16),(oW Value.string vI c17)]⟩) (fun x h=> ?_) ?_
       ·obtain⟨c16,c17⟩:=x
        unfold ag8 at h
        try dsimp only at h ⊢
        refine AWP.U (.add Z Z Z (by omega) (.z Z Z (.nil ?_)))
        obtain rfl:=oi h
        refine b5 ⟨_,Z,?_⟩
        exact Sub.en Z
       ·refine AWP.q (.j ?_)
        obtain⟨a55,ha55,h⟩:=b7 h
        refine AWP.U (S.idx ha55 Z Z Z Z (.G 2 Z (.nil (b5 (.j ?_)))))
        obtain⟨a59,ha59,h⟩:=b7 h
        refine AWP.G 1 Z (S.lit (f:=d8) (l:=[a55]) (ess:=[[row 1 intI a55]]) Z Z Z Z Z Z Z ⟨⟨.inl Z,Y⟩,Y⟩ Z Z Z (.aa Z Z (.cons (.c (.own Z Z)) .nil) Z (R7 ha59) Z (.B Z Z (.nil (b5 (.j (.gs 2 Z (W.lookup (fk:=Value.string) (fv:=vI) (k:=a59) (z:=0) ak8 Z (fun _=>Z) Z Z Z Z ?_))))))))
        refine AOps.ge 1 Z (.J Z h (fun hc18 h=> ?_) (fun hc18 h=> ?_))
        ·refine AWP.exit (k8 (i7 (b5 ⟨_,h,?_⟩)))
         exact Sub.cut ⟨Z,Z,Z,Z,Z,Z,Z,Z,Z,Y⟩ Z ⟨.one Z,.dead,.vec,.one Z,Y⟩ Z
        ·refine AWP.skip (b5 (.j (.gs 1 Z (S.lenO Z Z Z (fun hl65=>.ge 1 Z (.J Z h (fun hc19 h=> ?_) (fun hc19 h=> ?_)))))))
         ·refine AWP.gk 2 Z (.nilrow 1 2 Z (.ret (d9 (i9 (d9 ?_)))))
          obtain rfl:=oi h
          refine d9 ⟨_,Z,Z,?_⟩
          exact Done.ret Z Z
         ·refine AWP.skip (b5 (.gs 2 Z (W.mapUpdate (fk:=Value.string) (fv:=vI) (k:=a59) (a:=1) ak8 Z Z Z Z Z (.ne ?_))))
          obtain⟨a72,ha72,h⟩:=b7 h
          refine AWP.G 2 Z (S.lit (f:=d8) (l:=[a55]) (ess:=[[row 1 intI a55]]) Z Z Z Z Z Z Z ⟨⟨.inl Z,Y⟩,Y⟩ Z Z Z (S.append (f:=d8) ha72 Z Z Z Z Z Z (.own Z Z) Z Z Z Z (.B Z Z (.nil (d6 (b5 ⟨_,h,?_⟩))))))
          exact(Sub.move (env':=[(1,(cP 0 0 0)),(4,.c (.own 2 0 a72.length)),(5,.c (.map 3)),(6,(cI atv4)),(29,(cI (ov.operators.length:Int))),(30,(cI t9)),(51,.c (row 1 d8 a48.1)),(52,(cI (a48.1.length:Int))),(53,(cI t15))]) (σ':=[(oE 4 (tO ov)),.dead,(oV 1 d8 a72),(oW Value.string vI (mset c14 a59 1)),(oV 1 d8 [a55]),(oV 1 d8 [a55])]) 2 6 Z Z Z ⟨Z,Z,Z,Z,Z,Z,Z,Z,Z,Y⟩ Z ⟨⟨Z,Z⟩,Y,⟨Blk.im_ok _ _ _,i6 Z⟩,⟨Z,Z⟩,⟨Blk.im_ok _ _ _,i6 Z⟩,⟨Blk.im_ok _ _ _,i6 Z⟩,Y⟩).trans (Sub.cut ⟨Z,Z,Z,Z,Z,Z,Z,Z,Z,Y⟩ Z ⟨.one Z,.dead,.vec,.one Z,Y⟩ Z)
      ·intro iz s he
       obtain⟨c13,c14⟩:=s
       subst he
       try dsimp only at h ⊢
       refine i7 (d6 (b5 ⟨_,h,?_⟩))
       exact Sub.en Z
      ·intro x e st he hq
       subst he
       try dsimp only at h hq
       obtain⟨rfl,hs⟩:=hq
       refine⟨_,Sub.refl _ _,?_⟩
       refine i9 (i9 (d9 ?_))
       obtain rfl:=oi h
       refine d9 ⟨_,Z,Z,?_⟩
       exact hs
   ·intro iz s he
    obtain⟨c7,c8⟩:=s
    subst he
    try dsimp only at h ⊢
    refine i7 (d6 (b5 (.G 3 Z (.nil ?_))))
    obtain rfl:=oi h
    refine b5 ⟨_,Z,?_⟩
    exact Sub.en Z
   ·intro x e st he hq
    subst he
    try dsimp only at h hq
    obtain⟨rfl,hs⟩:=hq
    refine⟨_,Sub.refl _ _,?_⟩
    refine i9 (i9 (d9 ?_))
    obtain rfl:=oi h
    refine d9 ⟨_,Z,Z,?_⟩
    exact hs
  ·refine AWP.exit (k8 ?_)
   obtain rfl:=oi h
   refine k8 ⟨_,Z,Z,?_⟩
   exact Sub.cut ⟨Z,Y⟩ Z ⟨.dead,.dead,.vec,Y⟩ Z
 ·intro e s hq
  rcases oo with c5|x
  ·try dsimp only at h hq
   obtain⟨rfl,hs⟩:=hq
   refine⟨_,hs,?_⟩
   refine i7 (b5 (.j ?_))
   obtain⟨a76,ha76,h⟩:=b7 h
   refine AWP.G 1 Z (.callF (r2:=.c (.own 4 0 a76.length)) (σ'':=[.dead,.dead,.dead,.dead,(oV 1 d8 a76)]) Z Z Z (FnOk.lend [2] (K7 ha76) Z Z Z Z Z Z (by exact⟨.vec,Y⟩) Z (by exact⟨(.live Z .vec),Y⟩) Z Z (by exact⟨.dead,.dead,.dead,.dead,(.new 2 Z Z .vec),Y⟩)) (.G 2 Z (.nil (b5 (.frzV (id:=4) (l:=a76) (env2:=[(2,.c (row 1 d8 a76)),(3,(cB true))]) (σ2:=[.dead,.dead,.dead,.dead,.dead]) Z Z (by exact⟨⟨_,Z,.inr ⟨_,Z,Z,Z⟩⟩,⟨_,Z,.inl ⟨Z,Z⟩⟩,Y⟩) Z (by exact⟨Y,Y,Y,Y,Y,Y⟩) (.ret ?_))))))
   obtain rfl:=oi h
   exact Done.ret Z Z
  ·try dsimp only at h hq
   obtain⟨rfl,hs⟩:=hq
   refine⟨_,Sub.refl _ _,?_⟩
   refine i9 (d9 ?_)
   obtain rfl:=oi h
   exact hs
theorem open_Explore_ok{ov:d5}{r:(LL)×g8}(h:P7 ov=some r):f7 prog 15 [.agg (tO ov)] (.tup [.c (row 1 d8 r.1),.agg [int r.2.code,int r.2.index]]):=by
 unfold f7
 refine FnOk.enter (rs:=[.t 2,.cell 3 32 2]) func15 Z ntmps15 results15 Z ⟨Y,rv _ Z,Y⟩ (by kernel_rfl) Z ?_
 unfold P7 at h
 refine AWP.gk 3 Z (.j (.j ?_))
 obtain⟨a8,ha8,h⟩:=b7 h
 refine AWP.G 1 Z (.u Z Z Z Z (ah2 ha8) Z (.G 2 Z (.nil (b5 (.gs 2 Z (.neqP Z Z Z Z Z Z Z (.ne (.F Z h (fun hc2 h=> ?_) (fun hc2 h=> ?_)))))))))
 ·refine AWP.j (.drawEI [2] mixed Z Z Z (d4.D 2 Z Z ?_))
  apply d4.consE (v:=.undef);exact Z;exact Z;intro E
  refine W.storeAgg Z Z Z Z Z Z Z .N
  exact Z
  exact Z
  refine d4.done Z ?_ ?_
  ·refine i5.D 3 Z Z (i5.nil)
  dsimp only[l9]
  refine b5 (.nilrow 1 2 Z (.ret (d9 ?_)))
  obtain rfl:=oi h
  exact Done.ret Z Z
 ·refine AWP.skip (b5 (.j ?_))
  obtain⟨a15,ha15,h⟩:=b7 h
  refine AWP.G 1 Z (.u Z Z Z Z (open_Reach_ok ha15) Z (.G 5 Z (.nil (b5 (.j (.gk 2 Z (.F Z h (fun hc3 h=> ?_) (fun hc3 h=> ?_))))))))
  ·refine AWP.gk 3 Z (.nilrow 1 2 Z (.ret (d9 ?_)))
   obtain rfl:=oi h
   exact Done.ret Z Z
  ·refine AWP.skip (b5 (.gk 4 Z (.ret ?_)))
   obtain rfl:=oi h
   exact Done.ret Z Z
theorem at7{all:LL}{sv:Li}{r:Int}(h:ac6 all sv=some r):f7 prog 17 [.c (row 1 d8 all),(cR sv)] ((cI r)):=by
 unfold f7
 refine FnOk.enter (rs:=[.t 4]) func17 Z ntmps17 results17 Z ⟨Y,Y⟩ (by kernel_rfl) Z ?_
 unfold ac6 at h
 refine AWP.gk 1 Z (.j ?_)
 obtain⟨a10,ha10,h⟩:=b7 h
 refine AWP.G 2 Z (.u Z Z Z Z (J4 Z (fun hy=>w9 hy) ha10) Z ?_)
 refine AOps.G 5 Z (.nil (b5 (.gk 2 Z (.ret ?_))))
 obtain rfl:=oi h
 exact Done.ret Z Z
theorem aw2{ov:d5}{all:LL}{rank:Li}{sv:Li}{op:Int}{r:Int}(h:K9 ov all rank sv op=some r):f7 prog 27 [.agg (tO ov),.c (row 1 d8 all),(cR rank),(cR sv),(cI op)] ((cI r)):=by
 unfold f7
 refine FnOk.enter (rs:=[.t 10]) func27 Z ntmps27 results27 Z ⟨Y,Y⟩ (by kernel_rfl) Z ?_
 unfold K9 at h
 refine AWP.gk 2 Z (.gk 1 Z (.j ?_))
 obtain⟨a21,ha21,h⟩:=b7 h
 refine AWP.G 3 Z (.u Z Z Z Z (ab0 ha21) Z (.G 5 Z (.nil (b5 (.j (.gs 1 Z (S.len Z Z (fun hl25=>.ge 1 Z (.q ?_)))))))))
 obtain⟨oo,ho1,h⟩:=b7 h
 refine AWP.rngH ho1 (fun t7 nv6=>⟨[(1,.c (row 1 d8 all)),(2,(cR rank)),(11,(cI nv6)),(24,.c (row 1 d8 a21.1)),(25,(cI (a21.1.length:Int))),(26,(cI t7))],[]⟩) (fun x e st=>e=.ret/\Done [.t 10] (fun t _=>t=(cI x)) .ret st) (fun _ _=>Z) ?_ ?_ ?_ ?_
 ·exact Sub.cut ⟨Z,Z,Z,Z,Z,Z,Y⟩ Z Y Z
 ·intro t7 nv6 o hlot7 hltt7 h
  unfold M5 at h
  try dsimp only at h ⊢
  refine AWP.j (.q (.j ?_))
  obtain⟨a28,ha28,h⟩:=b7 h
  refine AWP.U (S.idx ha28 Z Z Z Z (.G 2 Z (.nil (b5 (.j ?_)))))
  obtain⟨a33,ha33,a34,ha34,h⟩:=b2 h
  refine AWP.G 3 Z (.u Z Z Z Z (at7 ha33) Z (S.idx ha34 Z Z Z Z (.G 2 Z (.nil (b5 (.j (.gk 2 Z (.J Z h (fun hc8 h=> ?_) (fun hc8 h=> ?_)))))))))
  ·refine AWP.gk 1 Z (.ret (d9 (i9 (d9 ?_))))
   obtain rfl:=oi h
   refine d9 ⟨_,Z,Z,?_⟩
   exact Done.ret Z Z
  ·refine AWP.skip (b5 (.G 2 Z (.max2 Z Z Z (.B Z Z (.nil (d6 (b5 (.U (.add Z Z Z (by omega) (.z Z Z (.nil ?_)))))))))))
   obtain rfl:=oi h
   refine b5 ⟨_,Z,?_⟩
   exact Sub.en Z
 ·intro iz nv6 he
  subst he
  try dsimp only at h ⊢
  refine i7 (b5 (.gk 2 Z (.ret ?_)))
  obtain rfl:=oi h
  exact Done.ret Z Z
 ·intro x e st he hq
  subst he
  try dsimp only at h hq
  obtain⟨rfl,hs⟩:=hq
  refine⟨_,Sub.refl _ _,?_⟩
  refine i9 (d9 ?_)
  obtain rfl:=oi h
  exact hs
theorem ay8{ov:d5}{all:LL}{rank:Li}{sv:Li}{r:Int}(h:x8 ov all rank sv=some r):f7 prog 20 [.agg (tO ov),.c (row 1 d8 all),(cR rank),(cR sv)] ((cI r)):=by
 unfold f7
 refine FnOk.enter (rs:=[.t 8]) func20 Z ntmps20 results20 Z ⟨Y,Y⟩ (by kernel_rfl) Z ?_
 unfold x8 at h
 refine AWP.gk 2 Z (.gk 2 Z (.j (.gs 2 Z (S.len Z Z (fun hl15=>.ge 1 Z (.q ?_))))))
 obtain⟨⟨out5,least6⟩,ho1,h⟩:=b7 h
 try dsimp only at h
 refine AWP.forH ho1 (fun t7 (out5,least6)=>⟨[(1,.c (row 1 d8 all)),(2,(cR rank)),(3,(cR sv)),(4,(cP 0 0 0)),(9,(cI out5)),(10,(cI least6)),(15,(cI (ov.operators.length:Int))),(16,(cI t7))],[(oE 4 (tO ov))]⟩) (fun _ _=>Z) ?_ ?_ ?_
 ·exact Sub.en Z
 ·intro t7 s o hlot7 hltt7 h
  obtain⟨out5,least6⟩:=s
  unfold ad5 at h
  try dsimp only at h ⊢
  obtain⟨⟨out8,least9⟩,hx10,h⟩:=b7 h
  refine AWP.seqJ (⟨[(1,.c (row 1 d8 all)),(2,(cR rank)),(3,(cR sv)),(4,(cP 0 0 0)),(9,(cI out8)),(10,(cI least9)),(15,(cI (ov.operators.length:Int))),(16,(cI t7))],[(oE 4 (tO ov))]⟩) ?_ ?_
  ·refine AWP.q (.gk 2 Z (.j (.j ?_)))
   obtain⟨a22,ha22,hx10⟩:=b7 hx10
   refine AWP.G 3 Z (.u Z Z Z Z (ax3 ha22) Z (.not Z Z (.nil (b5 (.F Z hx10 (fun hc11 hx10=> ?_) (fun hc11 hx10=> ?_))))))
   ·refine AWP.exit (k8 (i7 ?_))
    obtain⟨ej0,ej1⟩:=o2 hx10
    subst ej0 ej1
    refine b5 (Sub.en Z)
   ·refine AWP.skip (b5 (.j ?_))
    obtain⟨a29,ha29,hx10⟩:=b7 hx10
    refine AWP.G 5 Z (.u Z Z Z Z (aw2 ha29) Z (.B Z Z (.nil (b5 (.seqJ (⟨[(1,.c (row 1 d8 all)),(2,(cR rank)),(3,(cR sv)),(4,(cP 0 0 0)),(9,(cI out5)),(10,(cI least6)),(11,(cI t7)),(12,(cI a29)),(15,(cI (ov.operators.length:Int))),(16,(cI t7)),(40,(cB ((decide (0<=a29)) && ((decide (out5<0))||(decide (a29<least6))))))],[(oE 4 (tO ov))]⟩) ?_ ?_)))))
    ·rcases bft (decide (0<=a29)) with hb1|hb1
     ·rcases bft (decide (out5<0)) with hb2|hb2
      ·refine AWP.G 3 Z (.K Z Z hb1 (.G 3 Z (.K Z Z hb2 (.G 5 Z (.nil (b5 ?_))))))
       simp only[G6 hb1,or_t hb1,G6 hb2,or_t hb2,ip,ir,io,iq]
       exact Sub.en Z
      ·refine AWP.G 3 Z (.K Z Z hb1 (.G 3 Z (.K Z Z hb2 (.G 5 Z (.nil (b5 ?_))))))
       simp only[G6 hb1,or_t hb1,B9 hb2,or_f hb2,ip,ir,io,iq]
       exact Sub.en Z
     ·refine AWP.G 3 Z (.K Z Z hb1 (.G 8 Z (.nil (b5 ?_))))
      simp only[B9 hb1,or_f hb1,ip,ir,io,iq]
      exact Sub.en Z
    ·refine AWP.F Z hx10 (fun hc12 hx10=> ?_) (fun hc12 hx10=> ?_)
     ·refine AWP.G 4 Z (.nil (d6 ?_))
      obtain⟨ej0,ej1⟩:=o2 hx10
      subst ej0 ej1
      refine b5 (Sub.en Z)
     ·refine AWP.skip (d6 ?_)
      obtain⟨ej0,ej1⟩:=o2 hx10
      subst ej0 ej1
      refine b5 (Sub.en Z)
  ·try dsimp only at h
   refine AWP.U (.add Z Z Z (by omega) (.z Z Z (.nil ?_)))
   obtain rfl:=oi h
   refine b5 (Sub.en Z)
 ·intro iz
  refine i7 (b5 (.gk 2 Z (.ret ?_)))
  obtain rfl:=oi h
  exact Done.ret Z Z
theorem strong_ranks_ok{ov:d5}{all:LL}{r:Li}(h:ab2 ov all=some r):o9 prog 16 [.agg (tO ov),.c (row 1 d8 all)] 1 (it intI r):=by
 unfold o9
 refine FnOk.enter (rs:=[.t 4]) func16 Z ntmps16 results16 Z ⟨Y,Y⟩ (by kernel_rfl) Z ?_
 unfold ab2 at h
 refine AWP.gk 2 Z (.j ?_)
 obtain⟨a17,ha17,h⟩:=b7 h
 refine AWP.U (S.lit (f:=intI) (l:=[-1]) (ess:=[[int (-1)]]) Z Z Z Z Z Z Z ⟨⟨.inl Z,Y⟩,Y⟩ Z Z Z (.z Z Z (S.len Z Z (fun hl16=>S.freshL (fun _=>Z) Z Z (.cons (.c (.own Z Z)) (.cons (.c .imm) .nil)) Z (au3 ha17) Z Z ?_))))
 refine AOps.B Z Z (.nil (b5 (.j (.gs 1 Z (S.len Z Z (fun hl19=>.ge 1 Z (.q ?_)))))))
 obtain⟨c3,ho1,h⟩:=b7 h
 refine AWP.forH ho1 (fun t4 c3=>⟨[(1,.c (row 1 d8 all)),(2,(cP 0 0 0)),(5,.c (.own 2 0 c3.length)),(18,.c (row 1 d8 all)),(19,(cI (all.length:Int))),(20,(cI t4))],[(oE 4 (tO ov)),.dead,(oV 1 intI c3)]⟩) (fun _ _=>Z) ?_ ?_ ?_
 ·exact Sub.cut ⟨Z,Z,Z,Z,Z,Z,Y⟩ Z ⟨.one Z,.dead,.vec,Y⟩ Z
 ·intro t4 c3 o hlot4 hltt4 h
  unfold aa0 at h
  try dsimp only at h ⊢
  obtain⟨c5,hx6,h⟩:=b7 h
  refine AWP.seqJ (⟨[(1,.c (row 1 d8 all)),(2,(cP 0 0 0)),(5,.c (.own 2 0 c5.length)),(18,.c (row 1 d8 all)),(19,(cI (all.length:Int))),(20,(cI t4))],[(oE 4 (tO ov)),.dead,(oV 1 intI c5)]⟩) ?_ ?_
  ·refine AWP.q (.j ?_)
   obtain⟨a23,ha23,hx6⟩:=b7 hx6
   refine AWP.G 1 Z (S.idx ha23 Z Z Z Z (.G 3 Z (.nil (b5 (.j ?_)))))
   obtain⟨a28,ha28,hx6⟩:=b7 hx6
   refine AWP.G 3 Z (.u Z Z Z Z (x4 ha28) Z (.nil (b5 (.F Z hx6 (fun hc7 hx6=> ?_) (fun hc7 hx6=> ?_)))))
   ·obtain⟨a31,ha31,hx6⟩:=b7 hx6
    refine AWP.G 2 Z (S.idxO ha31 Z Z Z Z Z (S.storeO1 (f:=intI) (a':=0) (o7 ha31) (fun _=>⟨_,Z⟩) Z Z Z Z Z ?_))
    refine AOps.nil (d6 ?_)
    obtain rfl:=oi hx6
    refine b5 (Sub.env ⟨Z,Z,(C0 (by first|rfl|simp only[lS])),Z,Z,Z,Y⟩)
   ·refine AWP.skip (d6 ?_)
    obtain rfl:=oi hx6
    refine b5 (Sub.en Z)
  ·refine AWP.U (.add Z Z Z (by omega) (.z Z Z (.nil ?_)))
   obtain rfl:=oi h
   refine b5 (Sub.en Z)
 ·intro iz
  refine i7 (b5 (.gk 1 Z (.q ?_)))
  obtain⟨x,ho2,h⟩:=b7 h
  refine AWP.loopS ho2 (fun(c8,layer9)=>⟨[(1,.c (row 1 d8 all)),(2,(cP 0 0 0)),(5,.c (.own 2 0 c8.length)),(8,(cI layer9))],[(oE 4 (tO ov)),.dead,(oV 1 intI c8)]⟩) (fun x e st=>e=.ret/\Done [.t 4] (fun t s=>∃id,t=.c (.own id 0 (it intI x).length)/\s[id]? =some (some (Blk.im 1 (it intI x)))) .ret st) ?_ ?_ ?_
  ·exact Sub.en Z
  ·intro s o h
   obtain⟨c8,layer9⟩:=s
   unfold aa6 at h
   try dsimp only at h ⊢
   refine AWP.j (.q (.gk 1 Z (.j (.gs 1 Z (S.len Z Z (fun hl36=>.ge 1 Z (.q (.virtV 1 intI 9 Z Z Z ?_))))))))
   obtain⟨c10,ho3,h⟩:=b7 h
   refine AWP.forH ho3 (fun t11 c10=>⟨[(1,.c (row 1 d8 all)),(2,(cP 0 0 0)),(5,.c (.own 2 0 c8.length)),(8,(cI layer9)),(9,.c (.own 3 0 c10.length)),(35,.c (row 1 d8 all)),(36,(cI (all.length:Int))),(37,(cI t11))],[(oE 4 (tO ov)),.dead,(oV 1 intI c8),(oV 1 intI c10)]⟩) (fun _ _=>Z) ?_ ?_ ?_
   ·exact Sub.env ⟨Z,Z,Z,Z,(C0 (by first|rfl|simp only[lS])),Z,Z,Z,Y⟩
   ·intro t11 c10 o hlot11 hltt11 h
    unfold aa4 at h
    try dsimp only at h ⊢
    obtain⟨c12,hx13,h⟩:=b7 h
    refine AWP.seqJ (⟨[(1,.c (row 1 d8 all)),(2,(cP 0 0 0)),(5,.c (.own 2 0 c8.length)),(8,(cI layer9)),(9,.c (.own 5 0 c12.length)),(35,.c (row 1 d8 all)),(36,(cI (all.length:Int))),(37,(cI t11))],[(oE 4 (tO ov)),.dead,(oV 1 intI c8),.dead,.dead,(oV 1 intI c12)]⟩) ?_ ?_
    ·refine AWP.q (.j ?_)
     obtain⟨a40,ha40,hx13⟩:=b7 hx13
     refine AWP.G 1 Z (S.idx ha40 Z Z Z Z (.G 3 Z (.nil (b5 ?_))))
     obtain⟨t14,hx15,hx13⟩:=b7 hx13
     refine AWP.seqJ (⟨[(1,.c (row 1 d8 all)),(2,(cP 0 0 0)),(5,.c (.own 2 0 c8.length)),(8,(cI layer9)),(9,.c (.own 3 0 c10.length)),(10,(cI t11)),(35,.c (row 1 d8 all)),(36,(cI (all.length:Int))),(37,(cI t11)),(54,(cB t14))],[(oE 4 (tO ov)),.dead,(oV 1 intI c8),(oV 1 intI c10)]⟩) ?_ ?_
     ·obtain⟨a44,ha44,hx15⟩:=b7 hx15
      rcases bft (decide (a44<0)) with hb16|hb16
      ·replace hx15:=K6 hb16 hx15
       obtain⟨a52,ha52,hx15⟩:=b7 hx15
       refine AWP.G 2 Z (S.idxO ha44 Z Z Z Z Z (S.loadO ha44 Z Z Z Z Z (.G 2 Z (.K Z Z hb16 (.G 4 Z (.E Z Z Z Z (.aa Z Z (.cons (.agg (.cons .imm (.cons .imm (.cons .imm (.cons .imm .nil))))) (.cons (.c .imm) (.cons (.c (.own Z Z)) (.cons (.c .imm) .nil)))) Z (ay8 ha52) Z (.G 2 Z (.nil ?_)))))))))
       obtain rfl:=oi hx15
       refine b5 (Sub.en Z)
      ·replace hx15:=K0 hb16 hx15
       refine AWP.G 2 Z (S.idxO ha44 Z Z Z Z Z (S.loadO ha44 Z Z Z Z Z (.G 2 Z (.K Z Z hb16 (.G 7 Z (.nil ?_))))))
       obtain rfl:=oi hx15
       refine b5 (Sub.en Z)
     ·refine AWP.F Z hx13 (fun hc17 hx13=> ?_) (fun hc17 hx13=> ?_)
      ·obtain⟨a58,ha58,hx13⟩:=b7 hx13
       refine AWP.G 2 Z (S.lit (f:=intI) (l:=[t11]) (ess:=[[int t11]]) Z Z Z Z Z Z Z ⟨⟨.inl Z,Y⟩,Y⟩ Z Z Z (S.append (f:=intI) ha58 Z Z Z Z Z Z (.own Z Z) Z Z Z Z (.B Z Z (.nil (d6 ?_)))))
       obtain rfl:=oi hx13
       refine b5 (Sub.cut ⟨Z,Z,Z,Z,Z,Z,Z,Z,Y⟩ Z ⟨.one Z,.dead,.vec,.dead,.dead,.vec,Y⟩ Z)
      ·refine AWP.skip (d6 ?_)
       obtain rfl:=oi hx13
       refine b5 ((Sub.move (env':=[(1,.c (row 1 d8 all)),(2,(cP 0 0 0)),(5,.c (.own 2 0 c8.length)),(8,(cI layer9)),(9,.c (.own 5 0 c10.length)),(35,.c (row 1 d8 all)),(36,(cI (all.length:Int))),(37,(cI t11))]) (σ':=[(oE 4 (tO ov)),.dead,(oV 1 intI c8),.dead,.dead,(oV 1 intI c10)]) 5 3 Z Z Z ⟨Z,Z,Z,Z,Z,Z,Z,Z,Y⟩ Z ⟨⟨Z,Z⟩,Y,⟨Blk.im_ok _ _ _,i6 Z⟩,Y,Y,⟨Blk.im_ok _ _ _,i6 Z⟩,Y⟩).trans (Sub.en Z))
    ·refine AWP.U (.add Z Z Z (by omega) (.z Z Z (.nil ?_)))
     obtain rfl:=oi h
     refine b5 ((Sub.move (env':=[(1,.c (row 1 d8 all)),(2,(cP 0 0 0)),(5,.c (.own 2 0 c8.length)),(8,(cI layer9)),(9,.c (.own 3 0 c12.length)),(35,.c (row 1 d8 all)),(36,(cI (all.length:Int))),(37,(cI (t11+1)))]) (σ':=[(oE 4 (tO ov)),.dead,(oV 1 intI c8),(oV 1 intI c12),.dead]) 3 5 Z Z Z ⟨Z,Z,Z,Z,Z,Z,Z,Z,Y⟩ Z ⟨⟨Z,Z⟩,Y,⟨Blk.im_ok _ _ _,i6 Z⟩,⟨Blk.im_ok _ _ _,i6 Z⟩,Y,Y⟩).trans (Sub.cut ⟨Z,Z,Z,Z,Z,Z,Z,Z,Y⟩ Z ⟨.one Z,.dead,.vec,.vec,Y⟩ Z))
   ·intro iz
    refine i7 (b5 (.j (.gs 1 Z (S.lenO Z Z Z (fun hl61=>.ge 1 Z (.J Z h (fun hc18 h=> ?_) (fun hc18 h=> ?_)))))))
    ·refine AWP.gk 2 Z (.ret (d9 (i9 (d9 ?_))))
     obtain rfl:=oi h
     refine d9 ⟨_,Z,Z,?_⟩
     exact Done.ret Z (Fresh.mk Z Z)
    ·refine AWP.skip (b5 (.gs 1 Z (S.lenO Z Z Z (fun hl65=>.ge 1 Z (.q ?_)))))
     obtain⟨c19,ho4,h⟩:=b7 h
     refine AWP.forH ho4 (fun t20 c19=>⟨[(1,.c (row 1 d8 all)),(2,(cP 0 0 0)),(5,.c (.own 2 0 c19.length)),(8,(cI layer9)),(64,.c (.own 3 0 c10.length)),(65,(cI (c10.length:Int))),(66,(cI t20))],[(oE 4 (tO ov)),.dead,(oV 1 intI c19),(oV 1 intI c10)]⟩) (fun _ _=>Z) ?_ ?_ ?_
     ·exact Sub.en Z
     ·intro t20 c19 o hlot20 hltt20 h
      unfold aa5 at h
      try dsimp only at h ⊢
      refine AWP.j (.q (.j ?_))
      obtain⟨a68,ha68,h⟩:=b7 h
      refine AWP.U (S.idxO ha68 Z Z Z Z Z (S.loadO ha68 Z Z Z Z Z (.B Z Z (.nil (b5 ?_)))))
      obtain⟨a73,ha73,h⟩:=b7 h
      refine AWP.G 3 Z (S.idxO ha73 Z Z Z Z Z (S.storeO1 (f:=intI) (a':=layer9) (o7 ha73) (fun _=>⟨_,Z⟩) Z Z Z Z Z ?_))
      refine AOps.nil (d6 (b5 (.U (.add Z Z Z (by omega) (.z Z Z (.nil ?_))))))
      obtain rfl:=oi h
      refine b5 (Sub.env ⟨Z,Z,(C0 (by first|rfl|simp only[lS])),Z,Z,Z,Z,Y⟩)
     ·intro iz
      refine i7 (d6 (b5 (.G 3 Z (.nil ?_))))
      obtain rfl:=oi h
      refine b5 ⟨_,Z,?_⟩
      exact Sub.cut ⟨Z,Z,Z,Z,Y⟩ Z ⟨.one Z,.dead,.vec,Y⟩ Z
  ·intro e s hq
   obtain⟨rfl,hs⟩:=hq
   refine⟨_,Sub.refl _ _,?_⟩
   refine i9 ?_
   obtain rfl:=oi h
   exact hs
theorem aC9{sv:Li}{c2:d5}{c3:LL}{c4:Li}{r:Int}(h:T4 sv c2 c3 c4=some r):f7 prog 19 [(cR sv),.c (.imm (.ipt [.val (.int .i64 c2.facts),.sl 1 (it intI c2.init),.sl 1 (it intI c2.goal),.sl 3 (it u5 c2.operators)])),.c (.imm (.ipt [.sl 1 (it d8 c3)])),.c (.imm (.ipt [.sl 1 (it intI c4)]))] ((cI r)):=by
 unfold f7
 refine FnOk.enter (rs:=[.t 5]) func19 Z ntmps19 results19 Z ⟨Y,Y⟩ (by kernel_rfl) Z ?_
 unfold T4 at h
 refine AWP.gk 1 Z (.j ?_)
 obtain⟨a10,ha10,h⟩:=b7 h
 refine AWP.G 4 Z (.u Z Z Z Z (ay8 ha10) Z (.B Z Z (.nil (b5 (.ret ?_)))))
 obtain rfl:=oi h
 exact Done.ret Z Z
theorem B6{xv:List e9}{target:Li}{cmp:e9->Li->Option Int}{r:Int×Bool}{fvcmp:FuncId}{cvcmp:List C}(hcvcmp:C.okL 0 cvcmp=true)(hcmp:∀{y1:e9} {y2:Li} {z:Int},cmp y1 y2=some z->f7 prog fvcmp ([.agg [row 1 intI y1.state,int y1.operator],(cR y2)]++cvcmp.map T.c) ((cI z)))(h:n9 xv target cmp=some r):f7 prog 47 [.c (row 2 j9 xv),(cR target),.c (.fn fvcmp cvcmp)] (.tup [(cI r.1),(cB r.2)]):=by
 unfold f7
 refine FnOk.enter (rs:=[.t 6,.t 7]) func47 Z ntmps47 results47 Z ⟨Y,Y,Y⟩ (by kernel_rfl) Z ?_
 unfold n9 at h
 refine AWP.gk 2 Z (.gs 1 Z (S.len Z Z (fun hl13=>.ge 1 Z (.gk 3 Z (.j (.q ?_))))))
 obtain⟨iv6,ho1,h⟩:=b7 h
 refine AWP.loopS ho1 (fun(iv4,j5)=>⟨[(0,.c (row 2 j9 xv)),(1,(cR target)),(2,.c (.fn fvcmp cvcmp)),(8,(cI (xv.length:Int))),(9,(cI iv4)),(10,(cI j5))],[]⟩) (fun iv6 e st=>e=.exit 0/\Sub [] st ⟨[(0,.c (row 2 j9 xv)),(1,(cR target)),(2,.c (.fn fvcmp cvcmp)),(8,(cI (xv.length:Int))),(9,(cI iv6))],[]⟩) ?_ ?_ ?_
 ·exact Sub.en Z
 ·intro s o h
  obtain⟨iv4,j5⟩:=s
  unfold B5 at h
  try dsimp only at h ⊢
  refine AWP.j (.gk 3 Z (.J Z h (fun hc7 h=> ?_) (fun hc7 h=> ?_)))
  ·refine AWP.skip (b5 (.q (.gs 4 Z (.shr Z Z Z (by first|decide|omega) Z (.ge 2 Z (.j ?_))))))
   obtain⟨a27,ha27,a30,ha30,h⟩:=b2 h
   refine AWP.G 3 Z (S.idx ha27 Z Z Z Z (.G 2 Z (.u Z Z (an5 Z hcvcmp) Z (hcmp ha30) Z (.lss Z Z Z (.nil (b5 (.J Z h (fun hc8 h=> ?_) (fun hc8 h=> ?_))))))))
   ·refine AWP.G 3 Z (.nil (d6 ?_))
    obtain rfl:=oi h
    refine b5 ⟨_,Z,?_⟩
    exact Sub.en Z
   ·refine AWP.G 2 Z (.nil (d6 ?_))
    obtain rfl:=oi h
    refine b5 ⟨_,Z,?_⟩
    exact Sub.en Z
  ·refine AWP.exit (k8 ?_)
   obtain rfl:=oi h
   refine k8 ⟨_,Z,Z,?_⟩
   exact Sub.en Z
 ·intro e s hq
  obtain⟨rfl,hs⟩:=hq
  refine⟨_,hs,?_⟩
  refine i7 (b5 ?_)
  obtain⟨t9,hx10,h⟩:=b7 h
  refine AWP.seqJ (⟨[(6,(cI iv6)),(7,(cB t9))],[]⟩) ?_ ?_
  ·rcases bft (decide (iv6<(xv.length:Int))) with hb11|hb11
   ·replace hx10:=K6 hb11 hx10
    obtain⟨a43,ha43,a46,ha46,hx10⟩:=b2 hx10
    refine AWP.G 5 Z (.K Z Z hb11 (.G 3 Z (.E Z Z Z Z (S.idx ha43 Z Z Z Z (.G 2 Z (.E Z Z Z Z (.u Z Z (an5 Z hcvcmp) Z (hcmp ha46) Z (.G 4 Z (.nil ?_)))))))))
    obtain rfl:=oi hx10
    refine b5 (Sub.en Z)
   ·replace hx10:=K0 hb11 hx10
    refine AWP.G 5 Z (.K Z Z hb11 (.G 11 Z (.nil ?_)))
    obtain rfl:=oi hx10
    refine b5 (Sub.en Z)
  ·refine AWP.ret ?_
   obtain rfl:=oi h
   exact Done.ret Z Z
theorem aF0{c:e9}{sv:Li}{r:Int}(h:open_Chosen_1 c sv=some r):f7 prog 58 [.agg [row 1 intI c.state,int c.operator],(cR sv)] ((cI r)):=by
 unfold f7
 refine FnOk.enter (rs:=[.t 4]) func58 Z ntmps58 results58 Z ⟨Y,Y⟩ (by kernel_rfl) Z ?_
 unfold open_Chosen_1 at h
 refine AWP.gk 2 Z (.j ?_)
 obtain⟨a8,ha8,h⟩:=b7 h
 refine AWP.G 3 Z (.u Z Z Z Z (w9 ha8) Z (.B Z Z (.nil (b5 (.ret ?_)))))
 obtain rfl:=oi h
 exact Done.ret Z Z
theorem ae2{policy:List e9}{sv:Li}{r:Int}(h:K5 policy sv=some r):f7 prog 26 [.c (row 2 j9 policy),(cR sv)] ((cI r)):=by
 unfold f7
 refine FnOk.enter (rs:=[.t 4]) func26 Z ntmps26 results26 Z ⟨Y,Y⟩ (by kernel_rfl) Z ?_
 unfold K5 at h
 refine AWP.gk 1 Z (.j ?_)
 obtain⟨a10,ha10,h⟩:=b7 h
 refine AWP.G 2 Z (.u Z Z Z Z (B6 Z (fun hy=>aF0 hy) ha10) Z ?_)
 refine AOps.G 5 Z (.nil (b5 (.j (.gk 2 Z (.F Z h (fun hc3 h=> ?_) (fun hc3 h=> ?_))))))
 ·refine AWP.gk 1 Z (.ret (d9 ?_))
  obtain rfl:=oi h
  exact Done.ret Z Z
 ·refine AWP.skip (b5 (.j ?_))
  obtain⟨a17,ha17,h⟩:=b7 h
  refine AWP.G 2 Z (S.idx ha17 Z Z Z Z (.G 3 Z (.nil (b5 (.ret ?_)))))
  obtain rfl:=oi h
  exact Done.ret Z Z
theorem aD7{c:e9}{sv:Li}{r:Int}(h:P2 c sv=some r):f7 prog 48 [.agg [row 1 intI c.state,int c.operator],(cR sv)] ((cI r)):=by
 unfold f7
 refine FnOk.enter (rs:=[.t 4]) func48 Z ntmps48 results48 Z ⟨Y,Y⟩ (by kernel_rfl) Z ?_
 unfold P2 at h
 refine AWP.gk 2 Z (.j ?_)
 obtain⟨a8,ha8,h⟩:=b7 h
 refine AWP.G 3 Z (.u Z Z Z Z (w9 ha8) Z (.B Z Z (.nil (b5 (.ret ?_)))))
 obtain rfl:=oi h
 exact Done.ret Z Z
theorem strong_Build_ok{ov:d5}{choose:Li->Option Int}{r:(List e9)×Bool}{fvchoose:FuncId}{cvchoose:List C}(hcvchoose:C.okL 0 cvchoose=true)(hchoose:∀{y1:Li} {z:Int},choose y1=some z->f7 prog fvchoose ([(cR y1)]++cvchoose.map T.c) ((cI z)))(h:ab6 ov choose=some r):f7 prog 18 [.agg (tO ov),.c (.fn fvchoose cvchoose)] (.tup [.c (row 2 j9 r.1),(cB r.2)]):=by
 unfold f7
 refine FnOk.enter (rs:=[.t 4,.t 5]) func18 Z ntmps18 results18 Z ⟨Y,Y,Y⟩ (by kernel_rfl) Z ?_
 unfold ab6 at h
 refine AWP.gk 3 Z (.gk 1 Z (.gs 2 Z (S.lit (f:=d8) (l:=[ov.init]) (ess:=[[row 1 intI ov.init]]) Z Z Z Z Z Z Z ⟨⟨.inl Z,Y⟩,Y⟩ Z Z Z (.ge 1 Z (.j (.gk 1 Z (.q (.virtV 2 j9 6 Z Z Z ?_))))))))
 obtain⟨oo,ho1,h⟩:=b7 h
 refine AWP.loopS ho1 (fun(c3,c4,atv5)=>⟨[(1,.c (.fn fvchoose cvchoose)),(2,(cP 0 0 0)),(6,.c (.own 2 0 c4.length)),(7,.c (.own 1 0 c3.length)),(8,(cI atv5))],[(oE 4 (tO ov)),(oV 1 d8 c3),(oV 2 j9 c4)]⟩) (fun o e st=>match o with| .inl c6=>e=.exit 0/\Sub [] st ⟨[(6,.c (.own 2 0 c6.length))],[.dead,.dead,(oV 2 j9 c6)]⟩| .inr x=>e=.ret/\Done [.t 4,.t 5] (fun t _=>t=.tup [.c (row 2 j9 x.1),(cB x.2)]) .ret st) ?_ ?_ ?_
 ·exact Sub.env ⟨Z,Z,(C0 (by first|rfl|simp only[lS])),Z,Z,Y⟩
 ·intro s o h
  obtain⟨c3,c4,atv5⟩:=s
  unfold aa9 at h
  try dsimp only at h ⊢
  refine AWP.j (.gs 2 Z (S.lenO Z Z Z (fun hl20=>.ge 1 Z (.J Z h (fun hc7 h=> ?_) (fun hc7 h=> ?_)))))
  ·refine AWP.skip (b5 (.seqF ((M2 atv5)) o (fun(c8,c9)=>⟨[(1,.c (.fn fvchoose cvchoose)),(2,(cP 0 0 0)),(6,.c (.own 2 0 c9.length)),(7,.c (.own 1 0 c8.length)),(8,(cI atv5))],[(oE 4 (tO ov)),(oV 1 d8 c8),(oV 2 j9 c9)]⟩) (fun x h=> ?_) ?_))
   ·obtain⟨c8,c9⟩:=x
    unfold M2 at h
    try dsimp only at h ⊢
    refine AWP.G 3 Z (.nil ?_)
    obtain rfl:=oi h
    refine b5 ⟨_,Z,?_⟩
    exact Sub.en Z
   ·refine AWP.q (.j ?_)
    obtain⟨a26,ha26,h⟩:=b7 h
    refine AWP.G 2 Z (S.idxO ha26 Z Z Z Z Z (S.loadO ha26 Z Z Z Z Z (.B Z Z (.nil (b5 (.j ?_))))))
    obtain⟨t10,hx11,h⟩:=b7 h
    refine AWP.seqJ (⟨[(1,.c (.fn fvchoose cvchoose)),(2,(cP 0 0 0)),(6,.c (.own 2 0 c4.length)),(7,.c (.own 1 0 c3.length)),(8,(cI atv5)),(9,(cR a26)),(37,(cB t10))],[(oE 4 (tO ov)),(oV 1 d8 c3),(oV 2 j9 c4)]⟩) ?_ ?_
    ·obtain⟨a31,ha31,hx11⟩:=b7 hx11
     rcases bft (a31) with hb12|hb12
     ·replace hx11:=X1 hb12 hx11
      refine AWP.G 3 Z (.u Z Z Z Z (x4 ha31) Z (.z Z Z (.K Z Z hb12 (.G 5 Z (.nil ?_)))))
      obtain rfl:=oi hx11
      refine b5 (Sub.en Z)
     ·replace hx11:=X5 hb12 hx11
      obtain⟨a35,ha35,hx11⟩:=b7 hx11
      refine AWP.G 3 Z (.u Z Z Z Z (x4 ha31) Z (.z Z Z (.K Z Z hb12 (.G 2 Z (.E Z Z Z Z (.aa Z Z (.cons (.c (.own Z Z)) (.cons (.c .imm) .nil)) Z (ae2 ha35) Z (.G 2 Z (.nil ?_))))))))
      obtain rfl:=oi hx11
      refine b5 (Sub.en Z)
    ·refine AWP.F Z h (fun hc13 h=> ?_) (fun hc13 h=> ?_)
     ·refine AWP.exit (k8 (i7 (b5 ⟨_,h,?_⟩)))
      exact Sub.en Z
     ·refine AWP.skip (b5 (.j (.gs 1 Z (S.lenO Z Z Z (fun hl39=>.ge 1 Z (.J Z h (fun hc14 h=> ?_) (fun hc14 h=> ?_)))))))
      ·refine AWP.gk 2 Z (.nilrow 2 4 Z (.ret (d9 (i9 (d9 ?_)))))
       obtain rfl:=oi h
       refine d9 ⟨_,Z,Z,?_⟩
       exact Done.ret Z Z
      ·refine AWP.skip (b5 (.j ?_))
       obtain⟨a43,ha43,h⟩:=b7 h
       refine AWP.G 2 Z (.u Z Z (an5 Z hcvchoose) Z (hchoose ha43) Z (.B Z Z (.nil (b5 (.j ?_)))))
       obtain⟨a47,ha47,h⟩:=b7 h
       refine AWP.G 2 Z (.aa Z Z (.cons (.c (.own Z Z)) (.cons (.c .imm) (.cons (.c (.fn .nil)) .nil))) Z (B6 Z (fun hy=>aD7 hy) ha47) Z ?_)
       refine AOps.G 5 Z (.nil (b5 (.j ?_)))
       obtain⟨a53,ha53,a57,ha57,h⟩:=b2 h
       refine AWP.G 3 Z (S.fresh Z Z Z Z (j6 ha53) Z Z (.G 2 Z (.frzV (id:=3) (l:=a53) (env2:=[(1,.c (.fn fvchoose cvchoose)),(2,(cP 0 0 0)),(7,.c (.own 1 0 c3.length)),(8,(cI atv5)),(9,(cR a26)),(10,(cI a43)),(50,.c (.own 2 0 c4.length)),(51,(cI a47.1)),(55,.agg [row 1 intI a53,int a43])]) (σ2:=[(oE 4 (tO ov)),(oV 1 d8 c3),(oV 2 j9 c4),.dead]) Z Z (by exact⟨⟨_,Z,.inl ⟨Z,fnNo hcvchoose⟩⟩,⟨_,Z,.inl ⟨Z,Z⟩⟩,⟨_,Z,.inl ⟨Z,Z⟩⟩,⟨_,Z,.inl ⟨Z,Z⟩⟩,⟨_,Z,.inl ⟨Z,Z⟩⟩,⟨_,Z,.inl ⟨Z,Z⟩⟩,⟨_,Z,.inl ⟨Z,Z⟩⟩,⟨_,Z,.inl ⟨Z,Z⟩⟩,⟨_,Z,⟨.inr ⟨_,Z,Z,Z⟩,.inl ⟨Z,Z⟩,Y⟩⟩,Y⟩) Z (by exact⟨⟨Z,.inl ⟨Z,Z⟩,.inl ⟨Z,Z⟩,.inl ⟨Z,Z⟩,.inl ⟨Z,Z⟩,Y⟩,FrzB.vec,FrzB.vec,Y,Y⟩) (S.lit (f:=j9) (l:=[(⟨a53,a43⟩:e9)]) (ess:=[[row 1 intI a53,int a43]]) Z Z Z Z Z Z Z ⟨⟨.inl Z,.inl Z,Y⟩,Y⟩ Z Z Z (S.insert (f:=j9) ha57 Z Z Z Z Z Z Z Z Z Z Z (.B Z Z (.nil (b5 (.j (.z (env':=[(1,.c (.fn fvchoose cvchoose)),(2,(cP 0 0 0)),(6,.c (.own 2 0 a57.length)),(7,.c (.own 1 0 c3.length)),(8,(cI atv5)),(9,(cR a26)),(10,(cI a43))]) (σ':=[(oE 4 (tO ov)),(oV 1 d8 c3),(oV 2 j9 a57),.dead,(oV 2 j9 [(⟨a53,a43⟩:e9)])]) 2 5 Z Z Z ⟨fnMv hcvchoose Z,Z,Z,Z,Z,Z,Z,Y⟩ (eOk1 (fnOk (f:=fvchoose) hcvchoose) (eOk1 Z (eOk1 Z (eOk1 Z (eOk1 Z (eOk1 Z (eOk1 Z Z))))))) ⟨⟨Z,Z⟩,⟨Blk.im_ok _ _ _,i6 Z⟩,⟨Blk.im_ok _ _ _,i6 Z⟩,Y,⟨Blk.im_ok _ _ _,i6 Z⟩,Y⟩ ?_))))))))))
       obtain⟨a62,ha62,h⟩:=b7 h
       refine AWP.G 3 Z (.u Z Z Z Z (ab0 ha62) Z (.G 5 Z (.nil (b5 ?_))))
       obtain⟨a67,ha67,h⟩:=b7 h
       refine AWP.G 2 Z (S.append (f:=d8) ha67 Z Z Z Z Z Z .row Z Z Z Z (.B Z Z (.nil (d6 (b5 ⟨_,h,?_⟩)))))
       exact(Sub.move (env':=[(1,.c (.fn fvchoose cvchoose)),(2,(cP 0 0 0)),(6,.c (.own 2 0 a57.length)),(7,.c (.own 1 0 a67.length)),(8,(cI atv5))]) (σ':=[(oE 4 (tO ov)),(oV 1 d8 a67),(oV 2 j9 a57),.dead,(oV 2 j9 [(⟨a53,a43⟩:e9)])]) 1 5 Z Z Z ⟨fnMv hcvchoose Z,Z,Z,Z,Z,Y⟩ (eOk1 (fnOk (f:=fvchoose) hcvchoose) (eOk1 Z (eOk1 Z (eOk1 Z (eOk1 Z Z))))) ⟨⟨Z,Z⟩,⟨Blk.im_ok _ _ _,i6 Z⟩,⟨Blk.im_ok _ _ _,i6 Z⟩,Y,⟨Blk.im_ok _ _ _,i6 Z⟩,Y⟩).trans (Sub.cut ⟨Z,Z,Z,Z,Z,Y⟩ Z ⟨.one Z,.vec,.vec,Y⟩ (eOk1 (fnOk (f:=fvchoose) hcvchoose) (eOk1 Z (eOk1 Z (eOk1 Z (eOk1 Z Z))))))
  ·refine AWP.exit (k8 ?_)
   obtain rfl:=oi h
   refine k8 ⟨_,Z,Z,?_⟩
   exact Sub.cut ⟨Z,Y⟩ Z ⟨.dead,.dead,.vec,Y⟩ Z
 ·intro e s hq
  rcases oo with c6|x
  ·try dsimp only at h hq
   obtain⟨rfl,hs⟩:=hq
   refine⟨_,hs,?_⟩
   refine i7 (b5 (.gk 3 Z (.frzV (id:=2) (l:=c6) (env2:=[(4,.c (row 2 j9 c6)),(5,(cB true))]) (σ2:=[.dead,.dead,.dead]) Z Z (by exact⟨⟨_,Z,.inr ⟨_,Z,Z,Z⟩⟩,⟨_,Z,.inl ⟨Z,Z⟩⟩,Y⟩) Z (by exact⟨Y,Y,Y,Y⟩) (.ret ?_))))
   obtain rfl:=oi h
   exact Done.ret Z Z
  ·try dsimp only at h hq
   obtain⟨rfl,hs⟩:=hq
   refine⟨_,Sub.refl _ _,?_⟩
   refine i9 (d9 ?_)
   obtain rfl:=oi h
   exact hs
theorem aE6{ov:d5}{r:(List e9)×Bool×g8}(h:y7 ov=some r):f7 prog 5 [.agg (tO ov)] (.tup [.c (row 2 j9 r.1),(cB r.2.1),.agg [int r.2.2.code,int r.2.2.index]]):=by
 unfold f7
 refine FnOk.enter (rs:=[.t 2,.t 3,.cell 4 32 2]) func5 Z ntmps5 results5 Z ⟨Y,Y,rv _ Z,Y⟩ (by kernel_rfl) Z ?_
 unfold y7 at h
 refine AWP.gk 4 Z (.j ?_)
 obtain⟨a12,ha12,h⟩:=b7 h
 refine AWP.G 1 Z (.u Z Z Z Z (open_Explore_ok ha12) Z (.G 7 Z (.nil (b5 (.j (.gs 2 Z (.neqP Z Z Z Z Z Z Z (.ne (.F Z h (fun hc2 h=> ?_) (fun hc2 h=> ?_))))))))))
 ·refine AWP.j (.drawEI [3] mixed Z Z Z (d4.D 3 Z Z ?_))
  apply d4.consE (v:=.undef);exact Z;exact Z;intro E
  refine W.storeAgg Z Z Z Z Z Z Z .N
  exact Z
  exact Z
  refine d4.done Z ?_ ?_
  ·refine i5.D 4 Z Z (i5.nil)
  dsimp only[l9]
  refine b5 (.nilrow 2 2 Z (.ret (d9 ?_)))
  obtain rfl:=oi h
  exact Done.ret Z Z
 ·refine AWP.skip (b5 (.j ?_))
  obtain⟨a21,ha21,h⟩:=b7 h
  refine AWP.G 2 Z (S.fresh Z Z Z Z (strong_ranks_ok ha21) Z Z (.G 2 Z (.nil (b5 (.j (.j ?_))))))
  obtain⟨a26,ha26,a27,ha27,h⟩:=b2 h
  refine AWP.drawI mixed Z (d7.D 4 Z ?_)
  refine d7.consF Z (fun E=>.u Z Z Z Z (at7 ha26) Z .N) Z (.consF Z (fun E=>S.idxO ha27 Z Z Z Z Z .N) Z (.consF Z (fun E=>S.loadO ha27 Z Z Z Z Z .N) Z ?_))
  refine d7.D 1 Z (d7.done ?_)
  dsimp only[l9]
  refine b5 (.J Z h (fun hc3 h=> ?_) (fun hc3 h=> ?_))
  ·refine AWP.gk 4 Z (.nilrow 2 2 Z (.ret (d9 ?_)))
   obtain rfl:=oi h
   exact Done.ret Z Z
  ·refine AWP.skip (b5 (.j ?_))
   obtain⟨a34,ha34,h⟩:=b7 h
   refine AWP.G 1 Z (.ac Z Z ?_)
   refine AOps.frzB (id:=0) (e:=[.val (.int .i64 ov.facts),.sl 1 (it intI ov.init),.sl 1 (it intI ov.goal),.sl 3 (it u5 ov.operators)]) (env2:=[(4,(cP 1 0 0)),(32,.agg (tO ov)),(33,.c (.fn 19 [.imm (.ipt [.val (.int .i64 ov.facts),.sl 1 (it intI ov.init),.sl 1 (it intI ov.goal),.sl 3 (it u5 ov.operators)]),.ptr 2 0 0,.ptr 5 0 0]))]) (σ2:=[.dead,(oE 2 [int 0,int 0]),(o1 (row 1 d8 a12.1)),(oE 2 [int a12.2.code,int a12.2.index]),(oV 1 intI a21),(o1 (.own 4 0 a21.length))]) Z Z (by exact⟨⟨_,Z,.inl ⟨Z,Z⟩⟩,⟨_,Z,⟨.inl ⟨Z,Z⟩,.inl ⟨Z,Z⟩,.inl ⟨Z,Z⟩,.inl ⟨Z,Z⟩,Y⟩⟩,⟨_,Z,.inr Z⟩,Y⟩) Z (by exact⟨Y,⟨Z,.inl ⟨Z,Z⟩,.inl ⟨Z,Z⟩,Y⟩,⟨Z,.inl ⟨Z,Z⟩,Y⟩,⟨Z,.inl ⟨Z,Z⟩,.inl ⟨Z,Z⟩,Y⟩,FrzB.vec,⟨Z,.inl ⟨Z,Z⟩,Y⟩,Y⟩) ?_;refine AOps.frzB (id:=2) (e:=[.sl 1 (it d8 a12.1)]) (env2:=[(4,(cP 1 0 0)),(32,.agg (tO ov)),(33,.c (.fn 19 [.imm (.ipt [.val (.int .i64 ov.facts),.sl 1 (it intI ov.init),.sl 1 (it intI ov.goal),.sl 3 (it u5 ov.operators)]),.imm (.ipt [.sl 1 (it d8 a12.1)]),.ptr 5 0 0]))]) (σ2:=[.dead,(oE 2 [int 0,int 0]),.dead,(oE 2 [int a12.2.code,int a12.2.index]),(oV 1 intI a21),(o1 (.own 4 0 a21.length))]) Z Z (by exact⟨⟨_,Z,.inl ⟨Z,Z⟩⟩,⟨_,Z,⟨.inl ⟨Z,Z⟩,.inl ⟨Z,Z⟩,.inl ⟨Z,Z⟩,.inl ⟨Z,Z⟩,Y⟩⟩,⟨_,Z,.inr Z⟩,Y⟩) Z (by exact⟨Y,⟨Z,.inl ⟨Z,Z⟩,.inl ⟨Z,Z⟩,Y⟩,Y,⟨Z,.inl ⟨Z,Z⟩,.inl ⟨Z,Z⟩,Y⟩,FrzB.vec,⟨Z,.inl ⟨Z,Z⟩,Y⟩,Y⟩) ?_;refine AOps.frzV (id:=4) (l:=a21) (env2:=[(4,(cP 1 0 0)),(32,.agg (tO ov)),(33,.c (.fn 19 [.imm (.ipt [.val (.int .i64 ov.facts),.sl 1 (it intI ov.init),.sl 1 (it intI ov.goal),.sl 3 (it u5 ov.operators)]),.imm (.ipt [.sl 1 (it d8 a12.1)]),.ptr 5 0 0]))]) (σ2:=[.dead,(oE 2 [int 0,int 0]),.dead,(oE 2 [int a12.2.code,int a12.2.index]),.dead,(o1 (row 1 intI a21))]) Z Z (by exact⟨⟨_,Z,.inl ⟨Z,Z⟩⟩,⟨_,Z,⟨.inl ⟨Z,Z⟩,.inl ⟨Z,Z⟩,.inl ⟨Z,Z⟩,.inl ⟨Z,Z⟩,Y⟩⟩,⟨_,Z,.inl ⟨Z,Z⟩⟩,Y⟩) Z (by exact⟨Y,⟨Z,.inl ⟨Z,Z⟩,.inl ⟨Z,Z⟩,Y⟩,Y,⟨Z,.inl ⟨Z,Z⟩,.inl ⟨Z,Z⟩,Y⟩,Y,⟨Z,.inr ⟨_,Z,Z,Z⟩,Y⟩,Y⟩) ?_;refine AOps.frzB (id:=5) (e:=[.sl 1 (it intI a21)]) (env2:=[(4,(cP 1 0 0)),(32,.agg (tO ov)),(33,.c (.fn 19 [.imm (.ipt [.val (.int .i64 ov.facts),.sl 1 (it intI ov.init),.sl 1 (it intI ov.goal),.sl 3 (it u5 ov.operators)]),.imm (.ipt [.sl 1 (it d8 a12.1)]),.imm (.ipt [.sl 1 (it intI a21)])]))]) (σ2:=[.dead,(oE 2 [int 0,int 0]),.dead,(oE 2 [int a12.2.code,int a12.2.index]),.dead,.dead]) Z Z (by exact⟨⟨_,Z,.inl ⟨Z,Z⟩⟩,⟨_,Z,⟨.inl ⟨Z,Z⟩,.inl ⟨Z,Z⟩,.inl ⟨Z,Z⟩,.inl ⟨Z,Z⟩,Y⟩⟩,⟨_,Z,.inr Z⟩,Y⟩) Z (by exact⟨Y,⟨Z,.inl ⟨Z,Z⟩,.inl ⟨Z,Z⟩,Y⟩,Y,⟨Z,.inl ⟨Z,Z⟩,.inl ⟨Z,Z⟩,Y⟩,Y,Y,Y⟩) ?_;refine AOps.u Z Z Z Z (strong_Build_ok Z (fun hy=>aC9 hy) ha34) Z ?_
   refine AOps.G 5 Z (.nil (b5 (.j (.gk 2 Z (.F Z h (fun hc4 h=> ?_) (fun hc4 h=> ?_))))))
   ·refine AWP.gk 4 Z (.nilrow 2 2 Z (.ret (d9 ?_)))
    obtain rfl:=oi h
    exact Done.ret Z Z
   ·refine AWP.skip (b5 (.gk 5 Z (.ret ?_)))
    obtain rfl:=oi h
    exact Done.ret Z Z
theorem aB8{ov:d5}{r:j3×(List (Int×Int))×g8}(h:D3 ov=some r):f7 prog 6 [.agg (tO ov)] (.tup [.agg (tT r.1),.c (row 2 U9 r.2.1),.agg [int r.2.2.code,int r.2.2.index]]):=by
 unfold f7
 refine FnOk.enter (rs:=[.cell 2 37 4,.t 3,.cell 4 32 2]) func6 Z ntmps6 results6 Z ⟨rv _ Z,Y,rv _ Z,Y⟩ (by kernel_rfl) Z ?_
 unfold D3 at h
 refine AWP.gk 4 Z (.j (.j ?_))
 obtain⟨a13,ha13,h⟩:=b7 h
 refine AWP.G 1 Z (.u Z Z Z Z (ah2 ha13) Z (.G 2 Z (.nil (b5 (.gs 2 Z (.neqP Z Z Z Z Z Z Z (.ne (.F Z h (fun hc2 h=> ?_) (fun hc2 h=> ?_)))))))))
 ·refine AWP.j (.drawEI [2,4] mixed Z Z Z (d4.D 2 Z Z ?_))
  apply d4.consE (v:=.undef);exact Z;exact Z;intro E
  refine W.storeAgg Z Z Z Z Z Z Z .N
  exact Z
  exact Z
  refine d4.D 1 Z Z ?_
  apply d4.consE (v:=.undef);exact Z;exact Z;intro E
  refine W.storeAgg Z Z Z Z Z Z Z .N
  exact Z
  exact Z
  refine d4.done Z ?_ ?_
  ·refine i5.D 5 Z Z (i5.nil)
  dsimp only[l9]
  refine b5 (.nilB (b:=1) [int 0,row 1 intI [],row 1 intI [],row 4 j8 []] Z (by exact⟨.inl Z,.inr ⟨Z,_,Z⟩,.inr ⟨Z,_,Z⟩,.inr ⟨Z,_,Z⟩,Y⟩) Z Z (.nilrow 2 3 Z (.ret (d9 ?_))))
  obtain rfl:=oi h
  exact Done.ret Z Z
 ·refine AWP.skip (b5 (.j ?_))
  obtain⟨a23,ha23,a26,ha26,h⟩:=b2 h
  refine AWP.sub (s':=⟨[(0,.agg (tO ov)),(1,(cP 0 0 0)),(2,(cP 1 0 0)),(3,.c (.imm (.val nL))),(4,(cP 2 0 0)),(5,(cP 3 0 0)),(12,.agg (tO ov)),(13,.agg [int a13.code,int a13.index]),(14,.agg [int a13.code,int a13.index]),(15,.agg [int 0,int 0]),(16,(cB (!((decide (a13.code=0)) && (decide (a13.index=0))))))],[(oE 4 (tO ov)),(oE 4 [int 0,.imm (.val nL),.imm (.val nL),.imm (.val nL)]),(oE 2 [int 0,int 0]),(oE 2 [int a13.code,int a13.index]),.dead,.dead,.dead]⟩) (Sub.cut ⟨Z,Z,Z,Z,Z,Z,Z,Z,Z,Z,Z,Y⟩ Z ⟨.one Z,.one Z,.one Z,.one Z,.dead,.dead,.dead,Y⟩ Z) (.drawTI [(cP 0 0 0),(cI ov.facts),(cP 0 0 1),(cR ov.init),.c (.own 4 0 a23.length),(cP 0 0 2),(cR ov.goal),.c (.own 5 0 a26.length),.agg [int ov.facts,.own 4 0 a23.length,.own 5 0 a26.length,.imm (.val nL)],(cP 6 0 0),.undef] [4,7,9,10] [([],[(oE 4 (tO ov)),(oE 4 [int 0,.imm (.val nL),.imm (.val nL),.imm (.val nL)]),(oE 2 [int 0,int 0]),(oE 2 [int a13.code,int a13.index]),.dead,.dead,.dead]),([4],[(oE 4 (tO ov)),(oE 4 [int 0,.imm (.val nL),.imm (.val nL),.imm (.val nL)]),(oE 2 [int 0,int 0]),(oE 2 [int a13.code,int a13.index]),(oV 1 intI a23),.dead,.dead]),([4,7],[(oE 4 (tO ov)),(oE 4 [int 0,.imm (.val nL),.imm (.val nL),.imm (.val nL)]),(oE 2 [int 0,int 0]),(oE 2 [int a13.code,int a13.index]),(oV 1 intI a23),(oV 1 intI a26),.dead]),([9],[(oE 4 (tO ov)),(oE 4 [int 0,.imm (.val nL),.imm (.val nL),.imm (.val nL)]),(oE 2 [int 0,int 0]),(oE 2 [int a13.code,int a13.index]),.dead,.dead,(oE 4 [int 0,.imm (.val nL),.imm (.val nL),.imm (.val nL)])]),([4,9],[(oE 4 (tO ov)),(oE 4 [int 0,.imm (.val nL),.imm (.val nL),.imm (.val nL)]),(oE 2 [int 0,int 0]),(oE 2 [int a13.code,int a13.index]),(oV 1 intI a23),.dead,(oE 4 [int 0,.imm (.val nL),.imm (.val nL),.imm (.val nL)])]),([4,7,9],[(oE 4 (tO ov)),(oE 4 [int 0,.imm (.val nL),.imm (.val nL),.imm (.val nL)]),(oE 2 [int 0,int 0]),(oE 2 [int a13.code,int a13.index]),(oV 1 intI a23),(oV 1 intI a26),(oE 4 [int 0,.imm (.val nL),.imm (.val nL),.imm (.val nL)])]),([4,7,9,10],[(oE 4 (tO ov)),(oE 4 [int 0,.imm (.val nL),.imm (.val nL),.imm (.val nL)]),(oE 2 [int 0,int 0]),(oE 2 [int a13.code,int a13.index]),(oV 1 intI a23),(oV 1 intI a26),(oE 4 [int ov.facts,.own 4 0 a23.length,.own 5 0 a26.length,.imm (.val nL)])])] [(oE 4 (tO ov)),(oE 4 [int 0,.imm (.val nL),.imm (.val nL),.imm (.val nL)]),(oE 2 [int 0,int 0]),(oE 2 [int a13.code,int a13.index]),(oV 1 intI a23),(oV 1 intI a26),(oE 4 [int ov.facts,.own 4 0 a23.length,.own 5 0 a26.length,.imm (.val nL)])] mixed Z Z Z Z Z ?_ ?_)
  ·refine E4.cons ?_ ?_
   ·refine e8.go Z Z Z (fun E hE=>W.fieldAddr Z Z Z Z .N) ?_
    refine e8.go Z Z Z (fun E hE=>.load Z Z Z Z Z Z .N) ?_
    refine e8.go Z Z Z (fun E hE=>W.fieldAddr Z Z Z Z .N) ?_
    refine e8.go Z Z Z (fun E hE=>.load Z Z Z Z Z Z .N) ?_
    apply e8.eff;exact Z;exact Z;exact Z;exact Z;intro E hE;(refine AOps.newAt 4 (.c (.own 4 0 a23.length)) (vec 1 intI a23) (.inl Z) Z hE Z Z Z Z (.vec) (.vec) Z Z Z ⟨.one Z,.one Z,.one Z,.one Z,.dead,.dead,.dead,Y⟩ (fun hh=>by(refine S.fresh Z Z Z Z (j6 ha23) Z Z ?_;exact hh)) ?_);exact AOps.nil ⟨Z,Z⟩
    refine e8.go Z Z Z (fun E hE=>W.fieldAddr Z Z Z Z .N) ?_
    refine e8.go Z Z Z (fun E hE=>.load Z Z Z Z Z Z .N) ?_
    refine e8.no Z (e8.no Z ?_)
    apply e8.eff;exact Z;exact Z;exact Z;exact Z;intro E hE;(refine AOps.allocAt 6 hE Z Z Z Z Z Z Z ⟨.one Z,.one Z,.one Z,.one Z,.dead,.dead,.dead,Y⟩ Z ?_);exact AOps.nil ⟨Z,Z⟩
    refine e8.no Z (e8.nil)
   refine E4.cons ?_ ?_
   ·refine e8.go Z Z Z (fun E hE=>W.fieldAddr Z Z Z Z .N) ?_
    refine e8.go Z Z Z (fun E hE=>.load Z Z Z Z Z Z .N) ?_
    refine e8.no Z (e8.no Z (e8.no Z ?_))
    refine e8.go Z Z Z (fun E hE=>W.fieldAddr Z Z Z Z .N) ?_
    refine e8.go Z Z Z (fun E hE=>.load Z Z Z Z Z Z .N) ?_
    apply e8.eff;exact Z;exact Z;exact Z;exact Z;intro E hE;(refine AOps.newAt 5 (.c (.own 5 0 a26.length)) (vec 1 intI a26) (.inl Z) Z hE Z Z Z Z (.vec) (.vec) Z Z Z ⟨.one Z,.one Z,.one Z,.one Z,.vec,.dead,.dead,Y⟩ (fun hh=>by(refine S.fresh Z Z Z Z (j6 ha26) Z Z ?_;exact hh)) ?_);exact AOps.nil ⟨Z,Z⟩
    refine e8.no Z ?_
    apply e8.eff;exact Z;exact Z;exact Z;exact Z;intro E hE;(refine AOps.allocAt 6 hE Z Z Z Z Z Z Z ⟨.one Z,.one Z,.one Z,.one Z,.vec,.dead,.dead,Y⟩ Z ?_);exact AOps.nil ⟨Z,Z⟩
    refine e8.no Z (e8.nil)
   refine E4.cons ?_ ?_
   ·refine e8.go Z Z Z (fun E hE=>W.fieldAddr Z Z Z Z .N) ?_
    refine e8.go Z Z Z (fun E hE=>.load Z Z Z Z Z Z .N) ?_
    refine e8.no Z (e8.no Z (e8.no Z (e8.no Z (e8.no Z (e8.no Z ?_)))))
    refine e8.go Z Z Z (fun E hE=>W.build Z Z Z Z .N) ?_
    apply e8.eff;exact Z;exact Z;exact Z;exact Z;intro E hE;(refine AOps.allocAt 6 hE Z Z Z Z Z Z Z ⟨.one Z,.one Z,.one Z,.one Z,.vec,.vec,.dead,Y⟩ Z ?_);exact AOps.nil ⟨Z,Z⟩
    refine e8.no Z (e8.nil)
   refine E4.cons ?_ ?_
   ·refine e8.go Z Z Z (fun E hE=>W.fieldAddr Z Z Z Z .N) ?_
    refine e8.go Z Z Z (fun E hE=>.load Z Z Z Z Z Z .N) ?_
    refine e8.go Z Z Z (fun E hE=>W.fieldAddr Z Z Z Z .N) ?_
    refine e8.go Z Z Z (fun E hE=>.load Z Z Z Z Z Z .N) ?_
    apply e8.eff;exact Z;exact Z;exact Z;exact Z;intro E hE;(refine AOps.newAt 4 (.c (.own 4 0 a23.length)) (vec 1 intI a23) (.inl Z) Z hE Z Z Z Z (.vec) (.vec) Z Z Z ⟨.one Z,.one Z,.one Z,.one Z,.dead,.dead,.one Z,Y⟩ (fun hh=>by(refine S.fresh Z Z Z Z (j6 ha23) Z Z ?_;exact hh)) ?_);exact AOps.nil ⟨Z,Z⟩
    refine e8.go Z Z Z (fun E hE=>W.fieldAddr Z Z Z Z .N) ?_
    refine e8.go Z Z Z (fun E hE=>.load Z Z Z Z Z Z .N) ?_
    refine e8.no Z (e8.no Z (e8.no Z (e8.no Z (e8.nil))))
   refine E4.cons ?_ ?_
   ·refine e8.go Z Z Z (fun E hE=>W.fieldAddr Z Z Z Z .N) ?_
    refine e8.go Z Z Z (fun E hE=>.load Z Z Z Z Z Z .N) ?_
    refine e8.no Z (e8.no Z (e8.no Z ?_))
    refine e8.go Z Z Z (fun E hE=>W.fieldAddr Z Z Z Z .N) ?_
    refine e8.go Z Z Z (fun E hE=>.load Z Z Z Z Z Z .N) ?_
    apply e8.eff;exact Z;exact Z;exact Z;exact Z;intro E hE;(refine AOps.newAt 5 (.c (.own 5 0 a26.length)) (vec 1 intI a26) (.inl Z) Z hE Z Z Z Z (.vec) (.vec) Z Z Z ⟨.one Z,.one Z,.one Z,.one Z,.vec,.dead,.one Z,Y⟩ (fun hh=>by(refine S.fresh Z Z Z Z (j6 ha26) Z Z ?_;exact hh)) ?_);exact AOps.nil ⟨Z,Z⟩
    refine e8.no Z (e8.no Z (e8.no Z (e8.nil)))
   refine E4.cons ?_ ?_
   ·refine e8.go Z Z Z (fun E hE=>W.fieldAddr Z Z Z Z .N) ?_
    refine e8.go Z Z Z (fun E hE=>.load Z Z Z Z Z Z .N) ?_
    refine e8.no Z (e8.no Z (e8.no Z (e8.no Z (e8.no Z (e8.no Z ?_)))))
    refine e8.go Z Z Z (fun E hE=>W.build Z Z Z Z .N) ?_
    refine e8.no Z ?_
    apply e8.eff;exact Z;exact Z;exact Z;exact Z;intro E hE;(refine W.storeAgg Z Z Z Z Z Z Z ?_);exact AOps.nil ⟨Z,Z⟩
    exact e8.nil
   refine E4.cons ?_ ?_
   ·refine e8.no Z (e8.no Z (e8.no Z (e8.no Z (e8.no Z (e8.no Z (e8.no Z (e8.no Z (e8.no Z (e8.no Z (e8.no Z (e8.nil)))))))))))
   exact E4.nil
  dsimp only[l9]
  refine b5 (.gk 1 Z (.j (.gs 2 Z (S.len Z Z (fun hl30=>.ge 1 Z (.q (.virtV 2 U9 7 Z Z Z (.virtB 4 j8 (b:=6) (o:=3) Z Z Z Z Z Z ?_))))))))
  obtain⟨⟨c3,c4⟩,ho1,h⟩:=b7 h
  try dsimp only at h
  refine AWP.forH ho1 (fun t5 (c3,c4)=>⟨[(2,(cP 1 0 0)),(4,(cP 2 0 0)),(6,(cP 6 0 0)),(7,.c (.own 7 0 c3.length)),(29,.c (row 3 u5 ov.operators)),(30,(cI (ov.operators.length:Int))),(31,(cI t5))],[.dead,(oE 4 [int 0,.imm (.val nL),.imm (.val nL),.imm (.val nL)]),(oE 2 [int 0,int 0]),.dead,(oV 1 intI a23),(oV 1 intI a26),(oE 4 [int ov.facts,.own 4 0 a23.length,.own 5 0 a26.length,.own 8 0 c4.length]),(oV 2 U9 c3),(oV 4 j8 c4)]⟩) (fun _ _=>Z) ?_ ?_ ?_
  ·exact Sub.cut ⟨Z,Z,Z,(C0 (by first|rfl|simp only[lS])),Z,Z,Z,Y⟩ Z ⟨.dead,.one Z,.one Z,.dead,.vec,.vec,(.eq Z (by first|rfl|(simp only[lS];done))),.vec,.vec,Y⟩ Z
  ·intro t5 s o hlot5 hltt5 h
   obtain⟨c3,c4⟩:=s
   unfold x6 at h
   try dsimp only at h ⊢
   refine AWP.j (.q (.j ?_))
   obtain⟨a34,ha34,h⟩:=b7 h
   refine AWP.G 1 Z (S.idx ha34 Z Z Z Z (.G 4 Z (.nil (b5 (.gs 2 Z (S.len Z Z (fun hl38=>.ge 1 Z (.q ?_))))))))
   obtain⟨⟨c6,c7⟩,ho2,h⟩:=b7 h
   try dsimp only at h
   refine AWP.forH ho2 (fun t8 (c6,c7)=>⟨[(2,(cP 1 0 0)),(4,(cP 2 0 0)),(6,(cP 6 0 0)),(7,.c (.own 7 0 c6.length)),(8,(cI t5)),(9,(cP 9 0 0)),(29,.c (row 3 u5 ov.operators)),(30,(cI (ov.operators.length:Int))),(31,(cI t5)),(37,.c (row 3 z1 a34.outcomes)),(38,(cI (a34.outcomes.length:Int))),(39,(cI t8))],[.dead,(oE 4 [int 0,.imm (.val nL),.imm (.val nL),.imm (.val nL)]),(oE 2 [int 0,int 0]),.dead,(oV 1 intI a23),(oV 1 intI a26),(oE 4 [int ov.facts,.own 4 0 a23.length,.own 5 0 a26.length,.own 8 0 c7.length]),(oV 2 U9 c6),(oV 4 j8 c7),(oE 3 [row 1 intI a34.pre,row 3 z1 a34.outcomes,int a34.cost])]⟩) (fun _ _=>Z) ?_ ?_ ?_
   ·exact Sub.en Z
   ·intro t8 s o hlot8 hltt8 h
    obtain⟨c6,c7⟩:=s
    unfold z8 at h
    try dsimp only at h ⊢
    refine AWP.j (.q (.j ?_))
    obtain⟨a42,ha42,h⟩:=b7 h
    refine AWP.G 1 Z (S.idx ha42 Z Z Z Z (.G 4 Z (.nil (b5 (.j ?_)))))
    obtain⟨a48,ha48,a51,ha51,a54,ha54,h⟩:=b3 h
    obtain⟨a59,ha59,h⟩:=b7 h
    refine AWP.drawEI [14,15,17] mixed Z Z Z (d4.D 4 Z Z ?_)
    refine d4.consN Z Z (fun E=>.u Z Z Z Z (o9.data (j6 ha48)) Z .N) Z ?_
    refine d4.D 2 Z Z ?_
    refine d4.consN Z Z (fun E=>.u Z Z Z Z (o9.data (j6 ha51)) Z .N) Z ?_
    refine d4.D 2 Z Z ?_
    refine d4.consN Z Z (fun E=>.u Z Z Z Z (o9.data (j6 ha54)) Z .N) Z ?_
    refine d4.D 3 Z Z ?_
    apply d4.consE;exact Z;exact Z;intro E
    refine S.lit (f:=j8) (l:=[(⟨a48,a51,a54,a34.cost⟩:h9)]) (ess:=[[row 1 intI a48,row 1 intI a51,row 1 intI a54,int a34.cost]]) Z Z Z Z Z Z Z ⟨⟨.inl Z,.inl Z,.inl Z,.inl Z,Y⟩,Y⟩ Z Z Z .N
    exact Z
    exact Z
    apply d4.consE;exact Z;exact Z;intro E
    refine S.append (f:=j8) ha59 Z Z Z Z Z Z (.own Z Z) Z Z Z Z .N
    exact Z
    exact Z
    refine d4.D 1 Z Z ?_
    apply d4.consE (v:=.undef);exact Z;exact Z;intro E
    refine W.store Z Z Z Z Z .N
    exact Z
    exact Z
    refine d4.done Z ?_ ?_
    ·refine i5.D 4 Z Z ?_
     refine i5.cons Z Z (.go Z Z (fun E=>.u Z Z Z Z (o9.data (j6 ha48)) Z .N) (.skip Z (.skip Z (.skip Z .nil)))) ?_
     refine i5.D 2 Z Z ?_
     refine i5.cons Z Z (.go Z Z (fun E=>.u Z Z Z Z (o9.data (j6 ha51)) Z .N) (.skip Z (.skip Z (.skip Z .nil)))) ?_
     refine i5.D 2 Z Z ?_
     refine i5.cons Z Z (.go Z Z (fun E=>.u Z Z Z Z (o9.data (j6 ha54)) Z .N) (.skip Z (.skip Z (.skip Z .nil)))) ?_
     refine i5.D 7 Z Z (i5.nil)
    dsimp only[l9]
    refine b5 (.z (env':=[(2,(cP 1 0 0)),(4,(cP 2 0 0)),(6,(cP 6 0 0)),(7,.c (.own 7 0 c6.length)),(8,(cI t5)),(9,(cP 9 0 0)),(10,(cI t8)),(29,.c (row 3 u5 ov.operators)),(30,(cI (ov.operators.length:Int))),(31,(cI t5)),(37,.c (row 3 z1 a34.outcomes)),(38,(cI (a34.outcomes.length:Int))),(39,(cI t8))]) (σ':=[.dead,(oE 4 [int 0,.imm (.val nL),.imm (.val nL),.imm (.val nL)]),(oE 2 [int 0,int 0]),.dead,(oV 1 intI a23),(oV 1 intI a26),(oE 4 [int ov.facts,.own 4 0 a23.length,.own 5 0 a26.length,.own 8 0 a59.length]),(oV 2 U9 c6),(oV 4 j8 a59),(oE 3 [row 1 intI a34.pre,row 3 z1 a34.outcomes,int a34.cost]),(oE 3 [row 1 intI a42.add,row 1 intI a42.del,int a42.weight]),(oV 4 j8 [(⟨a48,a51,a54,a34.cost⟩:h9)])]) 8 12 Z Z Z ⟨Z,Z,Z,Z,Z,Z,Z,Z,Z,Z,Z,Z,Z,Y⟩ Z ⟨Y,⟨Z,Z⟩,⟨Z,Z⟩,Y,⟨Blk.im_ok _ _ _,i6 Z⟩,⟨Blk.im_ok _ _ _,i6 Z⟩,⟨Z,Z⟩,⟨Blk.im_ok _ _ _,i6 Z⟩,⟨Blk.im_ok _ _ _,i6 Z⟩,⟨Z,Z⟩,⟨Z,Z⟩,⟨Blk.im_ok _ _ _,i6 Z⟩,Y⟩ ?_)
    obtain⟨a66,ha66,h⟩:=b7 h
    refine AWP.G 3 Z (.buildA Z Z Z Z (S.lit (f:=U9) (l:=[(t5,t8)]) (ess:=[[int t5,int t8]]) Z Z Z Z Z Z Z ⟨⟨.inl Z,.inl Z,Y⟩,Y⟩ Z Z Z (S.append (f:=U9) ha66 Z Z Z Z Z Z (.own Z Z) Z Z Z Z (.B Z Z (.nil (d6 (b5 (.z (env':=[(2,(cP 1 0 0)),(4,(cP 2 0 0)),(6,(cP 6 0 0)),(7,.c (.own 7 0 a66.length)),(8,(cI t5)),(9,(cP 9 0 0)),(29,.c (row 3 u5 ov.operators)),(30,(cI (ov.operators.length:Int))),(31,(cI t5)),(37,.c (row 3 z1 a34.outcomes)),(38,(cI (a34.outcomes.length:Int))),(39,(cI t8))]) (σ':=[.dead,(oE 4 [int 0,.imm (.val nL),.imm (.val nL),.imm (.val nL)]),(oE 2 [int 0,int 0]),.dead,(oV 1 intI a23),(oV 1 intI a26),(oE 4 [int ov.facts,.own 4 0 a23.length,.own 5 0 a26.length,.own 8 0 a59.length]),(oV 2 U9 a66),(oV 4 j8 a59),(oE 3 [row 1 intI a34.pre,row 3 z1 a34.outcomes,int a34.cost]),(oE 3 [row 1 intI a42.add,row 1 intI a42.del,int a42.weight]),(oV 4 j8 [(⟨a48,a51,a54,a34.cost⟩:h9)]),(oV 2 U9 [(t5,t8)])]) 7 13 Z Z Z ⟨Z,Z,Z,Z,Z,Z,Z,Z,Z,Z,Z,Z,Y⟩ Z ⟨Y,⟨Z,Z⟩,⟨Z,Z⟩,Y,⟨Blk.im_ok _ _ _,i6 Z⟩,⟨Blk.im_ok _ _ _,i6 Z⟩,⟨Z,Z⟩,⟨Blk.im_ok _ _ _,i6 Z⟩,⟨Blk.im_ok _ _ _,i6 Z⟩,⟨Z,Z⟩,⟨Z,Z⟩,⟨Blk.im_ok _ _ _,i6 Z⟩,⟨Blk.im_ok _ _ _,i6 Z⟩,Y⟩ (.U (.add Z Z Z (by omega) (.z Z Z (.nil ?_))))))))))))
    obtain rfl:=oi h
    refine b5 (Sub.cut ⟨Z,Z,Z,Z,Z,Z,Z,Z,Z,Z,Z,Z,Y⟩ Z ⟨.dead,.one Z,.one Z,.dead,.vec,.vec,.one Z,.vec,.vec,.one Z,Y⟩ Z)
   ·intro iz
    refine i7 (d6 (b5 (.U (.add Z Z Z (by omega) (.z Z Z (.nil ?_))))))
    obtain rfl:=oi h
    refine b5 (Sub.cut ⟨Z,Z,Z,Z,Z,Z,Z,Y⟩ Z ⟨.dead,.one Z,.one Z,.dead,.vec,.vec,.one Z,.vec,.vec,Y⟩ Z)
  ·intro iz
   refine i7 (b5 (.j (.gs 1 Z (S.lenO Z Z Z (fun hl70=>.ge 1 Z (.J Z h (fun hc9 h=> ?_) (fun hc9 h=> ?_)))))))
   ·refine AWP.gk 5 Z (.nilB (b:=1) [int 0,row 1 intI [],row 1 intI [],row 4 j8 []] Z (by exact⟨.inl Z,.inr ⟨Z,_,Z⟩,.inr ⟨Z,_,Z⟩,.inr ⟨Z,_,Z⟩,Y⟩) Z Z (.nilrow 2 3 Z (.ret (d9 ?_))))
    obtain rfl:=oi h
    exact Done.ret Z Z
   ·refine AWP.skip (b5 (.gk 6 Z (.frzV (id:=4) (l:=a23) (env2:=[(2,(cP 1 0 0)),(3,.c (.own 7 0 c3.length)),(4,(cP 2 0 0))]) (σ2:=[.dead,(oE 4 [int ov.facts,row 1 intI a23,.own 5 0 a26.length,.own 8 0 c4.length]),(oE 2 [int 0,int 0]),.dead,.dead,(oV 1 intI a26),(oE 4 [int ov.facts,row 1 intI a23,.own 5 0 a26.length,.own 8 0 c4.length]),(oV 2 U9 c3),(oV 4 j8 c4)]) Z Z (by exact⟨⟨_,Z,.inl ⟨Z,Z⟩⟩,⟨_,Z,.inl ⟨Z,Z⟩⟩,⟨_,Z,.inl ⟨Z,Z⟩⟩,Y⟩) Z (by exact⟨Y,⟨Z,.inl ⟨Z,Z⟩,.inr ⟨_,Z,Z,Z⟩,.inl ⟨Z,Z⟩,.inl ⟨Z,Z⟩,Y⟩,⟨Z,.inl ⟨Z,Z⟩,.inl ⟨Z,Z⟩,Y⟩,Y,Y,FrzB.vec,⟨Z,.inl ⟨Z,Z⟩,.inr ⟨_,Z,Z,Z⟩,.inl ⟨Z,Z⟩,.inl ⟨Z,Z⟩,Y⟩,FrzB.vec,FrzB.vec,Y⟩) (.frzV (id:=5) (l:=a26) (env2:=[(2,(cP 1 0 0)),(3,.c (.own 7 0 c3.length)),(4,(cP 2 0 0))]) (σ2:=[.dead,(oE 4 [int ov.facts,row 1 intI a23,row 1 intI a26,.own 8 0 c4.length]),(oE 2 [int 0,int 0]),.dead,.dead,.dead,(oE 4 [int ov.facts,row 1 intI a23,row 1 intI a26,.own 8 0 c4.length]),(oV 2 U9 c3),(oV 4 j8 c4)]) Z Z (by exact⟨⟨_,Z,.inl ⟨Z,Z⟩⟩,⟨_,Z,.inl ⟨Z,Z⟩⟩,⟨_,Z,.inl ⟨Z,Z⟩⟩,Y⟩) Z (by exact⟨Y,⟨Z,.inl ⟨Z,Z⟩,.inl ⟨Z,Z⟩,.inr ⟨_,Z,Z,Z⟩,.inl ⟨Z,Z⟩,Y⟩,⟨Z,.inl ⟨Z,Z⟩,.inl ⟨Z,Z⟩,Y⟩,Y,Y,Y,⟨Z,.inl ⟨Z,Z⟩,.inl ⟨Z,Z⟩,.inr ⟨_,Z,Z,Z⟩,.inl ⟨Z,Z⟩,Y⟩,FrzB.vec,FrzB.vec,Y⟩) (.frzV (id:=8) (l:=c4) (env2:=[(2,(cP 1 0 0)),(3,.c (.own 7 0 c3.length)),(4,(cP 2 0 0))]) (σ2:=[.dead,(oE 4 [int ov.facts,row 1 intI a23,row 1 intI a26,row 4 j8 c4]),(oE 2 [int 0,int 0]),.dead,.dead,.dead,(oE 4 [int ov.facts,row 1 intI a23,row 1 intI a26,row 4 j8 c4]),(oV 2 U9 c3),.dead]) Z Z (by exact⟨⟨_,Z,.inl ⟨Z,Z⟩⟩,⟨_,Z,.inl ⟨Z,Z⟩⟩,⟨_,Z,.inl ⟨Z,Z⟩⟩,Y⟩) Z (by exact⟨Y,⟨Z,.inl ⟨Z,Z⟩,.inl ⟨Z,Z⟩,.inl ⟨Z,Z⟩,.inr ⟨_,Z,Z,Z⟩,Y⟩,⟨Z,.inl ⟨Z,Z⟩,.inl ⟨Z,Z⟩,Y⟩,Y,Y,Y,⟨Z,.inl ⟨Z,Z⟩,.inl ⟨Z,Z⟩,.inl ⟨Z,Z⟩,.inr ⟨_,Z,Z,Z⟩,Y⟩,FrzB.vec,Y,Y⟩) (.frzV (id:=7) (l:=c3) (env2:=[(2,(cP 1 0 0)),(3,.c (row 2 U9 c3)),(4,(cP 2 0 0))]) (σ2:=[.dead,(oE 4 [int ov.facts,row 1 intI a23,row 1 intI a26,row 4 j8 c4]),(oE 2 [int 0,int 0]),.dead,.dead,.dead,(oE 4 [int ov.facts,row 1 intI a23,row 1 intI a26,row 4 j8 c4]),.dead,.dead]) Z Z (by exact⟨⟨_,Z,.inl ⟨Z,Z⟩⟩,⟨_,Z,.inr ⟨_,Z,Z,Z⟩⟩,⟨_,Z,.inl ⟨Z,Z⟩⟩,Y⟩) Z (by exact⟨Y,⟨Z,.inl ⟨Z,Z⟩,.inl ⟨Z,Z⟩,.inl ⟨Z,Z⟩,.inl ⟨Z,Z⟩,Y⟩,⟨Z,.inl ⟨Z,Z⟩,.inl ⟨Z,Z⟩,Y⟩,Y,Y,Y,⟨Z,.inl ⟨Z,Z⟩,.inl ⟨Z,Z⟩,.inl ⟨Z,Z⟩,.inl ⟨Z,Z⟩,Y⟩,Y,Y,Y⟩) (.ret ?_)))))))
    obtain rfl:=oi h
    exact Done.ret Z Z
end Ab
end
section
namespace Ab
open Go Go.Proofs
open Tryz
set_option maxHeartbeats 4000000
set_option linter.all false
attribute [local irreducible] AWP AOps thn inB Done f7 o9 Sub
theorem af7{ov:d5}{policy:List e9}{r:g8}(h:x7 ov policy=some r):f7 prog 23 [.agg (tO ov),.c (row 2 j9 policy)] (.agg [int r.code,int r.index]):=by
 unfold f7
 refine FnOk.enter (rs:=[.cell 4 32 2]) func23 Z ntmps23 results23 Z ⟨rv _ Z,Y⟩ (by kernel_rfl) Z ?_
 unfold x7 at h
 refine AWP.gk 2 Z (.j (.j ?_))
 obtain⟨a10,ha10,h⟩:=b7 h
 refine AWP.G 1 Z (.u Z Z Z Z (ah2 ha10) Z (.G 2 Z (.nil (b5 (.gs 2 Z (.neqP Z Z Z Z Z Z Z (.ne (.F Z h (fun hc3 h=> ?_) (fun hc3 h=> ?_)))))))))
 ·refine AWP.gk 2 Z (.ret (d9 ?_))
  obtain rfl:=oi h
  exact Done.ret Z Z
 ·refine AWP.skip (b5 (.j (.gs 1 Z (S.len Z Z (fun hl16=>.ge 1 Z (.J Z h (fun hc4 h=> ?_) (fun hc4 h=> ?_)))))))
  ·refine AWP.gk 2 Z (.ret (d9 ?_))
   obtain rfl:=oi h
   exact Done.ret Z Z
  ·refine AWP.skip (b5 (.j (.gs 1 Z (S.len Z Z (fun hl20=>.ge 1 Z (.q ?_))))))
   obtain⟨oo,ho1,h⟩:=b7 h
   refine AWP.rngH ho1 (fun t5 _=>⟨[(1,.c (row 2 j9 policy)),(2,(cP 0 0 0)),(4,(cP 1 0 0)),(19,.c (row 2 j9 policy)),(20,(cI (policy.length:Int))),(21,(cI t5))],[(oE 4 (tO ov)),(oE 2 [int 0,int 0])]⟩) (fun x e st=>e=.ret/\Done [.cell 4 32 2] (fun t _=>t=.agg [int x.code,int x.index]) .ret st) (fun _ _=>Z) ?_ ?_ ?_ ?_
   ·exact Sub.cut ⟨Z,Z,Z,Z,Z,Z,Y⟩ Z ⟨.one Z,.one Z,Y⟩ Z
   ·intro t5 s o hlot5 hltt5 h
    unfold F3 at h
    try dsimp only at h ⊢
    refine AWP.j (.q (.j ?_))
    obtain⟨a24,ha24,h⟩:=b7 h
    refine AWP.G 1 Z (S.idx ha24 Z Z Z Z (.G 4 Z (.nil (b5 (.gk 1 Z ?_)))))
    obtain⟨ev6,hx7,h⟩:=b7 h
    refine AWP.seqJ (⟨[(1,.c (row 2 j9 policy)),(2,(cP 0 0 0)),(4,(cP 1 0 0)),(6,(cI t5)),(8,(cI ev6)),(19,.c (row 2 j9 policy)),(20,(cI (policy.length:Int))),(21,(cI t5))],[(oE 4 (tO ov)),(oE 2 [int 0,int 0])]⟩) ?_ ?_
    ·refine AWP.q ?_
     obtain⟨t8,hx9,hx7⟩:=b7 hx7
     refine AWP.seqJ (⟨[(1,.c (row 2 j9 policy)),(2,(cP 0 0 0)),(4,(cP 1 0 0)),(6,(cI t5)),(7,(cP 2 0 0)),(8,(cI 0)),(19,.c (row 2 j9 policy)),(20,(cI (policy.length:Int))),(21,(cI t5)),(26,(cB t8))],[(oE 4 (tO ov)),(oE 2 [int 0,int 0]),(oE 2 [row 1 intI a24.state,int a24.operator])]⟩) ?_ ?_
     ·obtain⟨a31,ha31,hx9⟩:=b7 hx9
      rcases bft (!a31) with hb10|hb10
      ·replace hx9:=X1 hb10 hx9
       refine AWP.drawI mixed Z (d7.D 4 Z ?_)
       refine d7.consF Z (fun E=>.u Z Z Z Z (n5 ha31) Z .N) Z ?_
       refine d7.D 2 Z (d7.K Z hb10 Z (d7.D 16 Z (d7.done ?_)))
       dsimp only[l9]
       obtain rfl:=oi hx9
       refine b5 (Sub.en Z)
      ·replace hx9:=X5 hb10 hx9
       rcases bft (decide (0<t5)) with hb11|hb11
       ·replace hx9:=K6 hb11 hx9
        obtain⟨a40,ha40,a45,ha45,hx9⟩:=b2 hx9
        refine AWP.drawI mixed Z (d7.D 4 Z ?_)
        refine d7.consF Z (fun E=>.u Z Z Z Z (n5 ha31) Z .N) Z ?_
        refine d7.D 2 Z (d7.K Z hb10 Z (d7.D 3 Z (d7.K Z hb11 Z (d7.D 2 Z ?_))))
        refine d7.consF Z (fun E=>.E Z Z Z Z (.sub' Z Z Z (by omega) .N)) Z (.consF Z (fun E=>.E Z Z Z Z (S.idx ha40 Z Z Z Z .N)) Z ?_)
        refine d7.D 4 Z ?_
        refine d7.consF Z (fun E=>.E Z Z Z Z (.u Z Z Z Z (w9 ha45) Z .N)) Z ?_
        refine d7.D 4 Z (d7.done ?_)
        dsimp only[l9]
        obtain rfl:=oi hx9
        refine b5 (Sub.en Z)
       ·replace hx9:=K0 hb11 hx9
        refine AWP.drawI mixed Z (d7.D 4 Z ?_)
        refine d7.consF Z (fun E=>.u Z Z Z Z (n5 ha31) Z .N) Z ?_
        refine d7.D 2 Z (d7.K Z hb10 Z (d7.D 3 Z (d7.K Z hb11 Z (d7.D 13 Z (d7.done ?_)))))
        dsimp only[l9]
        obtain rfl:=oi hx9
        refine b5 (Sub.en Z)
     ·refine AWP.F Z hx7 (fun hc12 hx7=> ?_) (fun hc12 hx7=> ?_)
      ·refine AWP.G 1 Z (.nil (d6 ?_))
       obtain rfl:=oi hx7
       refine b5 (Sub.cut ⟨Z,Z,Z,Z,Z,Z,Z,Z,Y⟩ Z ⟨.one Z,.one Z,Y⟩ Z)
      ·refine AWP.seqJ (⟨[(1,.c (row 2 j9 policy)),(2,(cP 0 0 0)),(4,(cP 1 0 0)),(6,(cI t5)),(7,(cP 2 0 0)),(8,(cI 0)),(19,.c (row 2 j9 policy)),(20,(cI (policy.length:Int))),(21,(cI t5)),(49,(cB ((decide (a24.operator<0))||(decide ((ov.operators.length:Int)<=a24.operator)))))],[(oE 4 (tO ov)),(oE 2 [int 0,int 0]),(oE 2 [row 1 intI a24.state,int a24.operator])]⟩) ?_ ?_
       ·rcases bft (decide (a24.operator<0)) with hb1|hb1
        ·refine AWP.G 4 Z (.K Z Z hb1 (.G 8 Z (.nil (b5 ?_))))
         simp only[G6 hb1,or_t hb1,ip,ir,io,iq]
         exact Sub.en Z
        ·refine AWP.G 4 Z (.K Z Z hb1 (.G 4 Z ?_))
         refine AOps.E Z Z Z Z ?_;refine S.len Z Z (fun hl58=> ?_)
         refine AOps.G 3 Z (.nil (b5 ?_))
         simp only[B9 hb1,or_f hb1,ip,ir,io,iq]
         exact Sub.en Z
       ·refine AWP.F Z hx7 (fun hc13 hx7=> ?_) (fun hc13 hx7=> ?_)
        ·refine AWP.G 1 Z (.nil (d6 ?_))
         obtain rfl:=oi hx7
         refine b5 (Sub.cut ⟨Z,Z,Z,Z,Z,Z,Z,Z,Y⟩ Z ⟨.one Z,.one Z,Y⟩ Z)
        ·refine AWP.j ?_
         obtain⟨a67,ha67,hx7⟩:=b7 hx7
         refine AWP.G 5 Z (.u Z Z Z Z (ax3 ha67) Z (.G 2 Z (.nil (b5 (.F Z hx7 (fun hc14 hx7=> ?_) (fun hc14 hx7=> ?_))))))
         ·refine AWP.G 1 Z (.nil (d6 ?_))
          obtain rfl:=oi hx7
          refine b5 (Sub.cut ⟨Z,Z,Z,Z,Z,Z,Z,Z,Y⟩ Z ⟨.one Z,.one Z,Y⟩ Z)
         ·refine AWP.skip (d6 ?_)
          obtain rfl:=oi hx7
          refine b5 (Sub.cut ⟨Z,Z,Z,Z,Z,Z,Z,Z,Y⟩ Z ⟨.one Z,.one Z,Y⟩ Z)
    ·refine AWP.gk 2 Z (.iteN Z h (fun hc15 h=> ?_) (fun hc15 h=> ?_))
     ·refine AWP.gk 5 Z (.ret (i9 (d9 ?_)))
      obtain rfl:=oi h
      refine d9 ⟨_,Z,Z,?_⟩
      exact Done.ret Z Z
     ·refine AWP.skip (d6 (b5 (.U (.add Z Z Z (by omega) (.z Z Z (.nil ?_))))))
      obtain rfl:=oi h
      refine b5 ⟨_,Z,?_⟩
      exact Sub.en Z
   ·intro iz _ he
    subst he
    try dsimp only at h ⊢
    refine i7 (b5 (.gk 2 Z (.ret ?_)))
    obtain rfl:=oi h
    exact Done.ret Z Z
   ·intro x e st he hq
    subst he
    try dsimp only at h hq
    obtain⟨rfl,hs⟩:=hq
    refine⟨_,Sub.refl _ _,?_⟩
    refine i9 (d9 ?_)
    obtain rfl:=oi h
    exact hs
theorem aD9{xv:Li}{c2:Li}{r:Bool}(h:P5 xv c2=some r):f7 prog 55 [(cR xv),.c (.imm (.ipt [.sl 1 (it intI c2)]))] ((cB r)):=by
 unfold f7
 refine FnOk.enter (rs:=[.t 3]) func55 Z ntmps55 results55 Z ⟨Y,Y⟩ (by kernel_rfl) Z ?_
 unfold P5 at h
 refine AWP.gk 1 Z (.j ?_)
 obtain⟨a6,ha6,h⟩:=b7 h
 refine AWP.G 2 Z (.u Z Z Z Z (R3 ha6) Z (.B Z Z (.nil (b5 (.ret ?_)))))
 obtain rfl:=oi h
 exact Done.ret Z Z
theorem open_Visited_ok{ov:d5}{policy:List e9}{r:(LL)}(h:ac0 ov policy=some r):o9 prog 24 [.agg (tO ov),.c (row 2 j9 policy)] 1 (it d8 r):=by
 unfold o9
 refine FnOk.enter (rs:=[.t 4]) func24 Z ntmps24 results24 Z ⟨Y,Y⟩ (by kernel_rfl) Z ?_
 unfold ac0 at h
 refine AWP.gk 2 Z (.j ?_)
 obtain⟨a14,ha14,h⟩:=b7 h
 refine AWP.G 2 Z (S.fresh Z Z Z Z (j6 ha14) Z Z (.frzV (id:=1) (l:=a14) (env2:=[(1,.c (row 2 j9 policy)),(2,(cP 0 0 0)),(14,(cR a14))]) (σ2:=[(oE 4 (tO ov)),.dead]) Z Z (by exact⟨⟨_,Z,.inl ⟨Z,Z⟩⟩,⟨_,Z,.inl ⟨Z,Z⟩⟩,⟨_,Z,.inr ⟨_,Z,Z,Z⟩⟩,Y⟩) Z (by exact⟨⟨Z,.inl ⟨Z,Z⟩,.inl ⟨Z,Z⟩,.inl ⟨Z,Z⟩,.inl ⟨Z,Z⟩,Y⟩,Y,Y⟩) (S.lit (f:=d8) (l:=[a14]) (ess:=[[row 1 intI a14]]) Z Z Z Z Z Z Z ⟨⟨.inl Z,Y⟩,Y⟩ Z Z Z (.B Z Z (.nil (b5 (.j (.gk 1 Z (.q ?_)))))))))
 obtain⟨c5,ho1,h⟩:=b7 h
 refine AWP.loopS ho1 (fun(c3,atv4)=>⟨[(1,.c (row 2 j9 policy)),(2,(cP 0 0 0)),(5,.c (.own 2 0 c3.length)),(6,(cI atv4))],[(oE 4 (tO ov)),.dead,(oV 1 d8 c3)]⟩) (fun c5 e st=>e=.exit 0/\Sub [] st ⟨[(5,.c (.own 2 0 c5.length))],[.dead,.dead,(oV 1 d8 c5)]⟩) ?_ ?_ ?_
 ·exact Sub.en Z
 ·intro s o h
  obtain⟨c3,atv4⟩:=s
  unfold aa8 at h
  try dsimp only at h ⊢
  refine AWP.j (.gs 2 Z (S.lenO Z Z Z (fun hl18=>.ge 1 Z (.J Z h (fun hc6 h=> ?_) (fun hc6 h=> ?_)))))
  ·refine AWP.skip (b5 ?_)
   obtain⟨c7,hx8,h⟩:=b7 h
   refine AWP.seqJ (⟨[(1,.c (row 2 j9 policy)),(2,(cP 0 0 0)),(5,.c (.own 2 0 c7.length)),(6,(cI atv4))],[(oE 4 (tO ov)),.dead,(oV 1 d8 c7)]⟩) ?_ ?_
   ·refine AWP.q (.j ?_)
    obtain⟨a25,ha25,a27,ha27,hx8⟩:=b2 hx8
    refine AWP.G 3 Z (S.idxO ha25 Z Z Z Z Z (S.loadO ha25 Z Z Z Z Z (.u Z Z Z Z (ae2 ha27) Z (.B Z Z (.nil (b5 (.j ?_)))))))
    obtain⟨t9,hx10,hx8⟩:=b7 hx8
    refine AWP.seqJ (⟨[(1,.c (row 2 j9 policy)),(2,(cP 0 0 0)),(5,.c (.own 2 0 c3.length)),(6,(cI atv4)),(7,(cI a27)),(38,(cB t9))],[(oE 4 (tO ov)),.dead,(oV 1 d8 c3)]⟩) ?_ ?_
    ·rcases bft (decide (a27<0)) with hb11|hb11
     ·replace hx10:=K6 hb11 hx10
      refine AWP.drawI mixed Z (d7.D 3 Z (d7.K Z hb11 Z (d7.D 8 Z (d7.done ?_))))
      dsimp only[l9]
      obtain rfl:=oi hx10
      refine b5 (Sub.en Z)
     ·replace hx10:=K0 hb11 hx10
      obtain⟨a33,ha33,a37,ha37,hx10⟩:=b2 hx10
      refine AWP.drawI mixed Z (d7.D 3 Z (d7.K Z hb11 Z (d7.D 2 Z ?_)))
      refine d7.consF Z (fun E=>.E Z Z Z Z (S.idxO ha33 Z Z Z Z Z .N)) Z (.consF Z (fun E=>.E Z Z Z Z (S.loadO ha33 Z Z Z Z Z .N)) Z ?_)
      refine d7.D 2 Z ?_
      refine d7.consF Z (fun E=>.E Z Z Z Z (.u Z Z Z Z (x4 ha37) Z .N)) Z ?_
      refine d7.D 1 Z (d7.done ?_)
      dsimp only[l9]
      obtain rfl:=oi hx10
      refine b5 (Sub.en Z)
    ·refine AWP.F Z hx8 (fun hc12 hx8=> ?_) (fun hc12 hx8=> ?_)
     ·refine AWP.exit (k8 (i7 ?_))
      obtain rfl:=oi hx8
      refine b5 (Sub.en Z)
     ·refine AWP.skip (b5 (.j ?_))
      obtain⟨a43,ha43,a46,ha46,hx8⟩:=b2 hx8
      refine AWP.drawI mixed Z (d7.D 3 Z ?_)
      refine d7.consF Z (fun E=>S.idxO ha43 Z Z Z Z Z .N) Z (.consF Z (fun E=>S.loadO ha43 Z Z Z Z Z .N) Z ?_)
      refine d7.D 1 Z ?_
      refine d7.consF Z (fun E=>.u Z Z Z Z (ab0 ha46) Z .N) Z ?_
      refine d7.D 5 Z (d7.done ?_)
      dsimp only[l9]
      refine b5 (.gs 1 Z (S.len Z Z (fun hl50=>.ge 1 Z (.q ?_))))
      obtain⟨c13,ho2,hx8⟩:=b7 hx8
      refine AWP.forH ho2 (fun t14 c13=>⟨[(1,.c (row 2 j9 policy)),(2,(cP 0 0 0)),(5,.c (.own 2 0 c13.length)),(6,(cI atv4)),(49,.c (row 1 d8 a46.1)),(50,(cI (a46.1.length:Int))),(51,(cI t14))],[(oE 4 (tO ov)),.dead,(oV 1 d8 c13)]⟩) (fun _ _=>Z) ?_ ?_ ?_
      ·exact Sub.en Z
      ·intro t14 c13 o hlot14 hltt14 h
       unfold S3 at h
       try dsimp only at h ⊢
       obtain⟨c15,hx16,h⟩:=b7 h
       refine AWP.seqJ (⟨[(1,.c (row 2 j9 policy)),(2,(cP 0 0 0)),(5,.c (.own 5 0 c15.length)),(6,(cI atv4)),(49,.c (row 1 d8 a46.1)),(50,(cI (a46.1.length:Int))),(51,(cI t14))],[(oE 4 (tO ov)),.dead,.dead,.dead,.dead,(oV 1 d8 c15)]⟩) ?_ ?_
       ·refine AWP.q (.j ?_)
        obtain⟨a53,ha53,hx16⟩:=b7 hx16
        refine AWP.U (S.idx ha53 Z Z Z Z (.G 3 Z (.nil (b5 (.j ?_)))))
        obtain⟨a57,ha57,hx16⟩:=b7 hx16
        refine AWP.G 1 Z (.ac Z Z (.aa Z Z (.cons (.c (.own Z Z)) (.cons (.c (.fn (.cons (.ptr (es:=[.sl 1 (it intI a53)]) Z Z (.cons .imm .nil)) .nil))) .nil)) Z (V0 Z (fun hy=>aD9 hy) ha57) Z ?_))
        refine AOps.not Z Z (.nil (b5 (.F Z hx16 (fun hc17 hx16=> ?_) (fun hc17 hx16=> ?_))))
        ·obtain⟨a62,ha62,hx16⟩:=b7 hx16
         refine AWP.G 2 Z (S.lit (f:=d8) (l:=[a53]) (ess:=[[row 1 intI a53]]) Z Z Z Z Z Z Z ⟨⟨.inl Z,Y⟩,Y⟩ Z Z Z (S.append (f:=d8) ha62 Z Z Z Z Z Z (.own Z Z) Z Z Z Z (.B Z Z (.nil (d6 ?_)))))
         obtain rfl:=oi hx16
         refine b5 (Sub.cut ⟨Z,Z,Z,Z,Z,Z,Z,Y⟩ Z ⟨.one Z,.dead,.dead,.dead,.dead,.vec,Y⟩ Z)
        ·refine AWP.skip (d6 ?_)
         obtain rfl:=oi hx16
         refine b5 ((Sub.move (env':=[(1,.c (row 2 j9 policy)),(2,(cP 0 0 0)),(5,.c (.own 5 0 c13.length)),(6,(cI atv4)),(49,.c (row 1 d8 a46.1)),(50,(cI (a46.1.length:Int))),(51,(cI t14))]) (σ':=[(oE 4 (tO ov)),.dead,.dead,(o1 (row 1 intI a53)),.dead,(oV 1 d8 c13)]) 5 2 Z Z Z ⟨Z,Z,Z,Z,Z,Z,Z,Y⟩ Z ⟨⟨Z,Z⟩,Y,Y,⟨Z,Z⟩,Y,⟨Blk.im_ok _ _ _,i6 Z⟩,Y⟩).trans (Sub.cut ⟨Z,Z,Z,Z,Z,Z,Z,Y⟩ Z ⟨.one Z,.dead,.dead,.dead,.dead,.vec,Y⟩ Z))
       ·refine AWP.U (.add Z Z Z (by omega) (.z Z Z (.nil ?_)))
        obtain rfl:=oi h
        refine b5 ((Sub.move (env':=[(1,.c (row 2 j9 policy)),(2,(cP 0 0 0)),(5,.c (.own 2 0 c15.length)),(6,(cI atv4)),(49,.c (row 1 d8 a46.1)),(50,(cI (a46.1.length:Int))),(51,(cI (t14+1)))]) (σ':=[(oE 4 (tO ov)),.dead,(oV 1 d8 c15),.dead,.dead]) 2 5 Z Z Z ⟨Z,Z,Z,Z,Z,Z,Z,Y⟩ Z ⟨⟨Z,Z⟩,Y,⟨Blk.im_ok _ _ _,i6 Z⟩,Y,Y,Y⟩).trans (Sub.cut ⟨Z,Z,Z,Z,Z,Z,Z,Y⟩ Z ⟨.one Z,.dead,.vec,Y⟩ Z))
      ·intro iz
       refine i7 (d6 ?_)
       obtain rfl:=oi hx8
       refine b5 (Sub.en Z)
   ·refine AWP.G 3 Z (.nil ?_)
    obtain rfl:=oi h
    refine b5 ⟨_,Z,?_⟩
    exact Sub.en Z
  ·refine AWP.exit (k8 ?_)
   obtain rfl:=oi h
   refine k8 ⟨_,Z,Z,?_⟩
   exact Sub.cut ⟨Z,Y⟩ Z ⟨.dead,.dead,.vec,Y⟩ Z
 ·intro e s hq
  obtain⟨rfl,hs⟩:=hq
  refine⟨_,hs,?_⟩
  refine i7 (b5 (.j ?_))
  obtain⟨a65,ha65,h⟩:=b7 h
  refine AWP.G 1 Z (.callF (r2:=.c (.own 4 0 a65.length)) (σ'':=[.dead,.dead,.dead,.dead,(oV 1 d8 a65)]) Z Z Z (FnOk.lend [2] (K7 ha65) Z Z Z Z Z Z (by exact⟨.vec,Y⟩) Z (by exact⟨(.live Z .vec),Y⟩) Z Z (by exact⟨.dead,.dead,.dead,.dead,(.new 2 Z Z .vec),Y⟩)) (.B Z Z (.nil (b5 (.ret ?_)))))
  obtain rfl:=oi h
  exact Done.ret Z (Fresh.mk Z Z)
theorem av8{sv:Li}{v:Int}{r:Int}(h:N9 sv v=some r):f7 prog 59 [(cR sv),(cI v)] ((cI r)):=by
 unfold f7
 refine FnOk.enter (rs:=[.t 4]) func59 Z ntmps59 results59 Z ⟨Y,Y⟩ (by kernel_rfl) Z ?_
 unfold N9 at h
 refine AWP.gk 1 Z (.j (.gs 1 Z (S.len Z Z (fun hl7=>.ge 1 Z (.q ?_)))))
 obtain⟨oo,ho1,h⟩:=b7 h
 refine AWP.rngH ho1 (fun t3 _=>⟨[(0,(cR sv)),(1,(cI v)),(7,(cI (sv.length:Int))),(8,(cI t3))],[]⟩) (fun x e st=>e=.ret/\Done [.t 4] (fun t _=>t=(cI x)) .ret st) (fun _ _=>Z) ?_ ?_ ?_ ?_
 ·exact Sub.en Z
 ·intro t3 s o hlot3 hltt3 h
  unfold J0 at h
  try dsimp only at h ⊢
  refine AWP.j (.q (.gk 2 Z (.j ?_)))
  obtain⟨a14,ha14,h⟩:=b7 h
  refine AWP.G 3 Z (S.idx ha14 Z Z Z Z (.G 2 Z (.nil (b5 (.J Z h (fun hc4 h=> ?_) (fun hc4 h=> ?_))))))
  ·refine AWP.gk 2 Z (.ret (i9 (d9 ?_)))
   obtain rfl:=oi h
   refine d9 ⟨_,Z,Z,?_⟩
   exact Done.ret Z Z
  ·refine AWP.skip (d6 (b5 (.U (.add Z Z Z (by omega) (.z Z Z (.nil ?_))))))
   obtain rfl:=oi h
   refine b5 ⟨_,Z,?_⟩
   exact Sub.en Z
 ·intro iz _ he
  subst he
  try dsimp only at h ⊢
  refine i7 (b5 (.gk 1 Z (.ret ?_)))
  obtain rfl:=oi h
  exact Done.ret Z Z
 ·intro x e st he hq
  subst he
  try dsimp only at h hq
  obtain⟨rfl,hs⟩:=hq
  refine⟨_,Sub.refl _ _,?_⟩
  refine i9 (d9 ?_)
  obtain rfl:=oi h
  exact hs
theorem aq0{sv:Li}{v:Int}{r:Bool}(h:E7 sv v=some r):f7 prog 28 [(cR sv),(cI v)] ((cB r)):=by
 unfold f7
 refine FnOk.enter (rs:=[.t 4]) func28 Z ntmps28 results28 Z ⟨Y,Y⟩ (by kernel_rfl) Z ?_
 unfold E7 at h
 refine AWP.gk 1 Z (.j ?_)
 obtain⟨a7,ha7,h⟩:=b7 h
 refine AWP.G 2 Z (.u Z Z Z Z (av8 ha7) Z (.G 2 Z (.nil (b5 (.ret ?_)))))
 obtain rfl:=oi h
 exact Done.ret Z Z
theorem strong_Check_ok{ov:d5}{policy:List e9}{r:Int×Bool×g8}(h:B4 ov policy=some r):f7 prog 7 [.agg (tO ov),.c (row 2 j9 policy)] (.tup [(cI r.1),(cB r.2.1),.agg [int r.2.2.code,int r.2.2.index]]):=by
 unfold f7
 refine FnOk.enter (rs:=[.t 4,.t 5,.cell 6 32 2]) func7 Z ntmps7 results7 Z ⟨Y,Y,rv _ Z,Y⟩ (by kernel_rfl) Z ?_
 unfold B4 at h
 refine AWP.gk 4 Z (.j (.j ?_))
 obtain⟨a18,ha18,h⟩:=b7 h
 refine AWP.G 2 Z (.u Z Z Z Z (af7 ha18) Z (.G 2 Z (.nil (b5 (.gs 2 Z (.neqP Z Z Z Z Z Z Z (.ne (.F Z h (fun hc3 h=> ?_) (fun hc3 h=> ?_)))))))))
 ·refine AWP.j (.drawEI [3] mixed Z Z Z (d4.D 3 Z Z ?_))
  apply d4.consE (v:=.undef);exact Z;exact Z;intro E
  refine W.storeAgg Z Z Z Z Z Z Z .N
  exact Z
  exact Z
  refine d4.done Z ?_ ?_
  ·refine i5.D 4 Z Z (i5.nil)
  dsimp only[l9]
  refine b5 (.ret (d9 ?_))
  obtain rfl:=oi h
  exact Done.ret Z Z
 ·refine AWP.skip (b5 (.j ?_))
  obtain⟨a25,ha25,h⟩:=b7 h
  refine AWP.G 2 Z (S.fresh Z Z Z Z (open_Visited_ok ha25) Z Z (.B Z Z (.nil (b5 (.j ?_)))))
  obtain⟨a28,ha28,h⟩:=b7 h
  refine AWP.G 1 Z (S.lenO Z Z Z (fun hl27=>S.make (f:=intI) ha28 (.val .nil) Z Z Z Z Z Z (.B Z Z (.nil (b5 (.j (.gs 1 Z (S.lenO Z Z Z (fun hl30=>.ge 1 Z (.q ?_))))))))))
  obtain⟨c4,ho1,h⟩:=b7 h
  refine AWP.forH ho1 (fun t5 c4=>⟨[(1,.c (row 2 j9 policy)),(2,(cP 0 0 0)),(6,(cP 1 0 0)),(8,.c (.own 3 0 a25.length)),(9,.c (.own 4 0 c4.length)),(29,.c (.own 3 0 a25.length)),(30,(cI (a25.length:Int))),(31,(cI t5))],[(oE 4 (tO ov)),(oE 2 [int 0,int 0]),.dead,(oV 1 d8 a25),(oV 1 intI c4)]⟩) (fun _ _=>Z) ?_ ?_ ?_
  ·exact Sub.cut ⟨Z,Z,Z,Z,Z,Z,Z,Z,Y⟩ Z ⟨.one Z,.one Z,.dead,.vec,.vec,Y⟩ Z
  ·intro t5 c4 o hlot5 hltt5 h
   unfold T9 at h
   try dsimp only at h ⊢
   obtain⟨c6,hx7,h⟩:=b7 h
   refine AWP.seqJ (⟨[(1,.c (row 2 j9 policy)),(2,(cP 0 0 0)),(6,(cP 1 0 0)),(8,.c (.own 3 0 a25.length)),(9,.c (.own 4 0 c6.length)),(29,.c (.own 3 0 a25.length)),(30,(cI (a25.length:Int))),(31,(cI t5))],[(oE 4 (tO ov)),(oE 2 [int 0,int 0]),.dead,(oV 1 d8 a25),(oV 1 intI c6)]⟩) ?_ ?_
   ·refine AWP.q (.j ?_)
    obtain⟨a34,ha34,hx7⟩:=b7 hx7
    refine AWP.G 1 Z (S.idxO ha34 Z Z Z Z Z (S.loadO ha34 Z Z Z Z Z (.G 2 Z (.nil (b5 (.j ?_))))))
    obtain⟨a39,ha39,hx7⟩:=b7 hx7
    refine AWP.G 3 Z (.u Z Z Z Z (x4 ha39) Z (.not Z Z (.nil (b5 (.F Z hx7 (fun hc8 hx7=> ?_) (fun hc8 hx7=> ?_))))))
    ·obtain⟨a43,ha43,hx7⟩:=b7 hx7
     refine AWP.G 2 Z (S.idxO ha43 Z Z Z Z Z (S.storeO1 (f:=intI) (a':= -1) (o7 ha43) (fun _=>⟨_,Z⟩) Z Z Z Z Z ?_))
     refine AOps.nil (d6 ?_)
     obtain rfl:=oi hx7
     refine b5 (Sub.env ⟨Z,Z,Z,Z,(C0 (by first|rfl|simp only[lS])),Z,Z,Z,Y⟩)
    ·refine AWP.skip (d6 ?_)
     obtain rfl:=oi hx7
     refine b5 (Sub.en Z)
   ·refine AWP.U (.add Z Z Z (by omega) (.z Z Z (.nil ?_)))
    obtain rfl:=oi h
    refine b5 (Sub.en Z)
  ·intro iz
   refine i7 (b5 (.j (.gs 1 Z (S.lenO Z Z Z (fun hl46=>.ge 1 Z (.q ?_))))))
   obtain⟨c9,ho2,h⟩:=b7 h
   refine AWP.forH ho2 (fun t10 c9=>⟨[(1,.c (row 2 j9 policy)),(2,(cP 0 0 0)),(6,(cP 1 0 0)),(8,.c (.own 3 0 a25.length)),(9,.c (.own 4 0 c9.length)),(46,(cI (a25.length:Int))),(47,(cI t10))],[(oE 4 (tO ov)),(oE 2 [int 0,int 0]),.dead,(oV 1 d8 a25),(oV 1 intI c9)]⟩) (fun _ _=>Z) ?_ ?_ ?_
   ·exact Sub.en Z
   ·intro t10 c9 o hlot10 hltt10 h
    unfold S0 at h
    try dsimp only at h ⊢
    refine AWP.j (.q (.gs 1 Z (S.lenO Z Z Z (fun hl50=>.ge 1 Z (.q ?_)))))
    obtain⟨c11,ho3,h⟩:=b7 h
    refine AWP.forH ho3 (fun t12 c11=>⟨[(1,.c (row 2 j9 policy)),(2,(cP 0 0 0)),(6,(cP 1 0 0)),(8,.c (.own 3 0 a25.length)),(9,.c (.own 4 0 c11.length)),(46,(cI (a25.length:Int))),(47,(cI t10)),(49,.c (.own 3 0 a25.length)),(50,(cI (a25.length:Int))),(51,(cI t12))],[(oE 4 (tO ov)),(oE 2 [int 0,int 0]),.dead,(oV 1 d8 a25),(oV 1 intI c11)]⟩) (fun _ _=>Z) ?_ ?_ ?_
    ·exact Sub.en Z
    ·intro t12 c11 o hlot12 hltt12 h
     unfold S8 at h
     try dsimp only at h ⊢
     obtain⟨c13,hx14,h⟩:=b7 h
     refine AWP.seqJ (⟨[(1,.c (row 2 j9 policy)),(2,(cP 0 0 0)),(6,(cP 1 0 0)),(8,.c (.own 3 0 a25.length)),(9,.c (.own 4 0 c13.length)),(46,(cI (a25.length:Int))),(47,(cI t10)),(49,.c (.own 3 0 a25.length)),(50,(cI (a25.length:Int))),(51,(cI t12))],[(oE 4 (tO ov)),(oE 2 [int 0,int 0]),.dead,(oV 1 d8 a25),(oV 1 intI c13)]⟩) ?_ ?_
     ·refine AWP.q (.j ?_)
      obtain⟨a54,ha54,hx14⟩:=b7 hx14
      refine AWP.G 1 Z (S.idxO ha54 Z Z Z Z Z (S.loadO ha54 Z Z Z Z Z (.G 2 Z (.nil (b5 (.j ?_))))))
      obtain⟨a58,ha58,hx14⟩:=b7 hx14
      refine AWP.G 2 Z (.u Z Z Z Z (ae2 ha58) Z (.B Z Z (.nil (b5 (.j ?_)))))
      obtain⟨a61,ha61,hx14⟩:=b7 hx14
      refine AWP.seqJ (⟨[(1,.c (row 2 j9 policy)),(2,(cP 0 0 0)),(6,(cP 1 0 0)),(8,.c (.own 3 0 a25.length)),(9,.c (.own 4 0 c11.length)),(12,(cI t12)),(13,(cR a54)),(14,(cI a58)),(46,(cI (a25.length:Int))),(47,(cI t10)),(49,.c (.own 3 0 a25.length)),(50,(cI (a25.length:Int))),(51,(cI t12)),(67,(cB ((decide (0<=a61))||(decide (a58<0)))))],[(oE 4 (tO ov)),(oE 2 [int 0,int 0]),.dead,(oV 1 d8 a25),(oV 1 intI c11)]⟩) ?_ ?_
      ·rcases bft (decide (0<=a61)) with hb1|hb1
       ·refine AWP.G 2 Z (S.idxO ha61 Z Z Z Z Z (S.loadO ha61 Z Z Z Z Z (.G 2 Z (.K Z Z hb1 (.G 3 Z (.nil (b5 ?_)))))))
        simp only[G6 hb1,or_t hb1,ip,ir,io,iq]
        exact Sub.en Z
       ·refine AWP.G 2 Z (S.idxO ha61 Z Z Z Z Z (S.loadO ha61 Z Z Z Z Z (.G 2 Z (.K Z Z hb1 (.G 3 Z (.nil (b5 ?_)))))))
        simp only[B9 hb1,or_f hb1,ip,ir,io,iq]
        exact Sub.en Z
      ·refine AWP.F Z hx14 (fun hc15 hx14=> ?_) (fun hc15 hx14=> ?_)
       ·refine AWP.exit (k8 (i7 ?_))
        obtain rfl:=oi hx14
        refine b5 (Sub.en Z)
       ·refine AWP.skip (b5 (.j ?_))
        obtain⟨a73,ha73,hx14⟩:=b7 hx14
        refine AWP.G 5 Z (.aa Z Z (.cons (.agg (.cons .imm (.cons .imm (.cons .imm (.cons .imm .nil))))) (.cons (.c (.own Z Z)) (.cons (.c (.own Z Z)) (.cons (.c .imm) (.cons (.c .imm) .nil))))) Z (aw2 ha73) Z (.B Z Z (.nil (b5 (.gk 2 Z (.J Z hx14 (fun hc16 hx14=> ?_) (fun hc16 hx14=> ?_)))))))
        ·obtain⟨a80,ha80,hx14⟩:=b7 hx14
         refine AWP.G 4 Z (S.idxO ha80 Z Z Z Z Z (S.storeO1 (f:=intI) (a':=w64 (a73+1)) (o7 ha80) (fun _=>⟨_,Z⟩) Z Z Z Z Z ?_))
         refine AOps.nil (d6 ?_)
         obtain rfl:=oi hx14
         refine b5 (Sub.env ⟨Z,Z,Z,Z,(C0 (by first|rfl|simp only[lS])),Z,Z,Z,Z,Z,Y⟩)
        ·refine AWP.skip (d6 ?_)
         obtain rfl:=oi hx14
         refine b5 (Sub.en Z)
     ·refine AWP.U (.add Z Z Z (by omega) (.z Z Z (.nil ?_)))
      obtain rfl:=oi h
      refine b5 (Sub.en Z)
    ·intro iz
     refine i7 (d6 (b5 (.U (.add Z Z Z (by omega) (.z Z Z (.nil ?_))))))
     obtain rfl:=oi h
     refine b5 (Sub.en Z)
   ·intro iz
    refine i7 (b5 (.j (.j ?_)))
    obtain⟨a84,ha84,h⟩:=b7 h
    refine AWP.G 1 Z (.aa Z Z (.cons (.c (.own Z Z)) (.cons (.c .imm) .nil)) Z (aq0 ha84) Z (.nil (b5 (.F Z h (fun hc17 h=> ?_) (fun hc17 h=> ?_)))))
    ·refine AWP.gk 4 Z (.ret (d9 ?_))
     obtain rfl:=oi h
     exact Done.ret Z Z
    ·refine AWP.skip (b5 (.j ?_))
     obtain⟨a90,ha90,a91,ha91,h⟩:=b2 h
     refine AWP.G 4 Z (.aa Z Z (.cons (.c (.own Z Z)) (.cons (.c .imm) .nil)) Z (at7 ha90) Z (S.idxO ha91 Z Z Z Z Z (S.loadO ha91 Z Z Z Z Z (.G 4 Z (.nil (b5 (.ret ?_)))))))
     obtain rfl:=oi h
     exact Done.ret Z Z
theorem an3{ov:d5}{policy:List e9}{outcomes:Li}{r:(LL)×g8}(h:O9 ov policy outcomes=some r):f7 prog 8 [.agg (tO ov),.c (row 2 j9 policy),(cR outcomes)] (.tup [.c (row 1 d8 r.1),.agg [int r.2.code,int r.2.index]]):=by
 unfold f7
 refine FnOk.enter (rs:=[.t 6,.cell 7 32 2]) func8 Z ntmps8 results8 Z ⟨Y,rv _ Z,Y⟩ (by kernel_rfl) Z ?_
 unfold O9 at h
 refine AWP.gk 3 Z (.j (.j ?_))
 obtain⟨a17,ha17,h⟩:=b7 h
 refine AWP.G 2 Z (.u Z Z Z Z (af7 ha17) Z (.G 2 Z (.nil (b5 (.gs 2 Z (.neqP Z Z Z Z Z Z Z (.ne (.F Z h (fun hc4 h=> ?_) (fun hc4 h=> ?_)))))))))
 ·refine AWP.j (.drawEI [2] mixed Z Z Z (d4.D 2 Z Z ?_))
  apply d4.consE (v:=.undef);exact Z;exact Z;intro E
  refine W.storeAgg Z Z Z Z Z Z Z .N
  exact Z
  exact Z
  refine d4.done Z ?_ ?_
  ·refine i5.D 3 Z Z (i5.nil)
  dsimp only[l9]
  refine b5 (.nilrow 1 6 Z (.ret (d9 ?_)))
  obtain rfl:=oi h
  exact Done.ret Z Z
 ·refine AWP.skip (b5 (.j (.gs 1 Z (S.len Z Z (fun hl23=>.ge 1 Z (.J Z h (fun hc5 h=> ?_) (fun hc5 h=> ?_)))))))
  ·refine AWP.gk 3 Z (.nilrow 1 6 Z (.ret (d9 ?_)))
   obtain rfl:=oi h
   exact Done.ret Z Z
  ·refine AWP.skip (b5 (.j ?_))
   obtain⟨a28,ha28,h⟩:=b7 h
   refine AWP.G 2 Z (S.fresh Z Z Z Z (j6 ha28) Z Z (.B Z Z (.nil (b5 (.j ?_)))))
   obtain⟨a30,ha30,h⟩:=b7 h
   refine AWP.G 1 Z (S.freshL (fun _=>Z) Z Z (.cons (.c (.own Z Z)) .nil) Z (j6 ha30) Z Z ?_)
   refine AOps.frzV (id:=4) (l:=a30) (env2:=[(1,.c (row 2 j9 policy)),(2,(cR outcomes)),(3,(cP 0 0 0)),(7,(cP 1 0 0)),(9,.c (.own 3 0 a28.length)),(30,(cR a30))]) (σ2:=[(oE 4 (tO ov)),(oE 2 [int 0,int 0]),(oE 2 [int a17.code,int a17.index]),(oV 1 intI a28),.dead]) Z Z (by exact⟨⟨_,Z,.inl ⟨Z,Z⟩⟩,⟨_,Z,.inl ⟨Z,Z⟩⟩,⟨_,Z,.inl ⟨Z,Z⟩⟩,⟨_,Z,.inl ⟨Z,Z⟩⟩,⟨_,Z,.inl ⟨Z,Z⟩⟩,⟨_,Z,.inr ⟨_,Z,Z,Z⟩⟩,Y⟩) Z (by exact⟨⟨Z,.inl ⟨Z,Z⟩,.inl ⟨Z,Z⟩,.inl ⟨Z,Z⟩,.inl ⟨Z,Z⟩,Y⟩,⟨Z,.inl ⟨Z,Z⟩,.inl ⟨Z,Z⟩,Y⟩,⟨Z,.inl ⟨Z,Z⟩,.inl ⟨Z,Z⟩,Y⟩,FrzB.vec,Y,Y⟩) (S.lit (f:=d8) (l:=[a30]) (ess:=[[row 1 intI a30]]) Z Z Z Z Z Z Z ⟨⟨.inl Z,Y⟩,Y⟩ Z Z Z (.B Z Z (.nil (b5 (.j (.gs 1 Z (S.len Z Z (fun hl33=>.ge 1 Z (.q (.frzV (id:=3) (l:=a28) (env2:=[(1,.c (row 2 j9 policy)),(3,(cP 0 0 0)),(7,(cP 1 0 0)),(9,(cR a28)),(10,.c (.own 5 0 ([a30].length))),(32,(cR outcomes)),(33,(cI (outcomes.length:Int))),(34,(cI 0))]) (σ2:=[(oE 4 (tO ov)),(oE 2 [int 0,int 0]),(oE 2 [int a17.code,int a17.index]),.dead,.dead,(oV 1 d8 [a30])]) Z Z (by exact⟨⟨_,Z,.inl ⟨Z,Z⟩⟩,⟨_,Z,.inl ⟨Z,Z⟩⟩,⟨_,Z,.inl ⟨Z,Z⟩⟩,⟨_,Z,.inr ⟨_,Z,Z,Z⟩⟩,⟨_,Z,.inl ⟨Z,Z⟩⟩,⟨_,Z,.inl ⟨Z,Z⟩⟩,⟨_,Z,.inl ⟨Z,Z⟩⟩,⟨_,Z,.inl ⟨Z,Z⟩⟩,Y⟩) Z (by exact⟨⟨Z,.inl ⟨Z,Z⟩,.inl ⟨Z,Z⟩,.inl ⟨Z,Z⟩,.inl ⟨Z,Z⟩,Y⟩,⟨Z,.inl ⟨Z,Z⟩,.inl ⟨Z,Z⟩,Y⟩,⟨Z,.inl ⟨Z,Z⟩,.inl ⟨Z,Z⟩,Y⟩,Y,Y,FrzB.vec,Y⟩) ?_))))))))))
   obtain⟨oo,ho1,h⟩:=b7 h
   refine AWP.loopS ho1 (fun(c6,sv7,t8)=>⟨[(1,.c (row 2 j9 policy)),(3,(cP 0 0 0)),(7,(cP 1 0 0)),(9,(cR sv7)),(10,.c (.own 5 0 c6.length)),(32,(cR outcomes)),(33,(cI (outcomes.length:Int))),(34,(cI t8))],[(oE 4 (tO ov)),(oE 2 [int 0,int 0]),.dead,.dead,.dead,(oV 1 d8 c6)]⟩) (fun o e st=>match o with| .inl c9=>e=.exit 0/\Sub [] st ⟨[(7,(cP 1 0 0)),(10,.c (.own 5 0 c9.length))],[.dead,(oE 2 [int 0,int 0]),.dead,.dead,.dead,(oV 1 d8 c9)]⟩| .inr x=>e=.ret/\Done [.t 6,.cell 7 32 2] (fun t _=>t=.tup [.c (row 1 d8 x.1),.agg [int x.2.code,int x.2.index]]) .ret st) ?_ ?_ ?_
   ·exact Sub.cut ⟨Z,Z,Z,Z,Z,Z,Z,Z,Y⟩ Z ⟨.one Z,.one Z,.dead,.dead,.dead,.vec,Y⟩ Z
   ·intro s o h
    obtain⟨c6,sv7,t8⟩:=s
    unfold P3 at h
    try dsimp only at h ⊢
    refine AWP.gk 1 Z (.j (.J Z h (fun hc10 h=> ?_) (fun hc10 h=> ?_)))
    ·refine AWP.skip (b5 (.j (.q (.j ?_))))
     obtain⟨a37,ha37,h⟩:=b7 h
     refine AWP.G 1 Z (S.idx ha37 Z Z Z Z (.G 3 Z (.nil (b5 (.j ?_)))))
     obtain⟨a41,ha41,h⟩:=b7 h
     refine AWP.G 2 Z (.u Z Z Z Z (ae2 ha41) Z (.B Z Z (.nil (b5 (.j ?_)))))
     obtain⟨t11,hx12,h⟩:=b7 h
     refine AWP.seqJ (⟨[(1,.c (row 2 j9 policy)),(3,(cP 0 0 0)),(7,(cP 1 0 0)),(9,(cR sv7)),(10,.c (.own 5 0 c6.length)),(11,(cI t8)),(12,(cI a37)),(13,(cI a41)),(32,(cR outcomes)),(33,(cI (outcomes.length:Int))),(34,(cI t8)),(49,(cB t11))],[(oE 4 (tO ov)),(oE 2 [int 0,int 0]),.dead,.dead,.dead,(oV 1 d8 c6)]⟩) ?_ ?_
     ·rcases bft (decide (a41<0)) with hb13|hb13
      ·replace hx12:=K6 hb13 hx12
       refine AWP.G 3 Z (.K Z Z hb13 (.G 5 Z (.nil ?_)))
       obtain rfl:=oi hx12
       refine b5 (Sub.en Z)
      ·replace hx12:=K0 hb13 hx12
       obtain⟨a48,ha48,hx12⟩:=b7 hx12
       refine AWP.G 3 Z (.K Z Z hb13 (.G 3 Z (.E Z Z Z Z (.u Z Z Z Z (x4 ha48) Z (.G 1 Z (.nil ?_))))))
       obtain rfl:=oi hx12
       refine b5 (Sub.en Z)
     ·refine AWP.F Z h (fun hc14 h=> ?_) (fun hc14 h=> ?_)
      ·refine AWP.exit (k8 (K4 Z (k8 ?_)))
       obtain rfl:=oi h
       refine k8 ⟨_,Z,Z,?_⟩
       exact Sub.cut ⟨Z,Z,Y⟩ Z ⟨.dead,.one Z,.dead,.dead,.dead,.vec,Y⟩ Z
      ·refine AWP.skip (b5 (.j ?_))
       obtain⟨a53,ha53,h⟩:=b7 h
       refine AWP.G 3 Z (S.idx ha53 Z Z Z Z (.G 3 Z (.nil (b5 (.j (.seqJ (⟨[(1,.c (row 2 j9 policy)),(3,(cP 0 0 0)),(7,(cP 1 0 0)),(9,(cR sv7)),(10,.c (.own 5 0 c6.length)),(11,(cI t8)),(12,(cI a37)),(14,.c (row 3 z1 a53.outcomes)),(32,(cR outcomes)),(33,(cI (outcomes.length:Int))),(34,(cI t8)),(63,(cB ((decide (a37<0))||(decide ((a53.outcomes.length:Int)<=a37)))))],[(oE 4 (tO ov)),(oE 2 [int 0,int 0]),.dead,.dead,.dead,(oV 1 d8 c6)]⟩) ?_ ?_))))))
       ·rcases bft (decide (a37<0)) with hb1|hb1
        ·refine AWP.G 3 Z (.K Z Z hb1 (.G 5 Z (.nil (b5 ?_))))
         simp only[G6 hb1,or_t hb1,ip,ir,io,iq]
         exact Sub.en Z
        ·refine AWP.G 3 Z (.K Z Z hb1 (.G 2 Z ?_))
         refine AOps.E Z Z Z Z ?_;refine S.len Z Z (fun hl61=> ?_)
         refine AOps.G 2 Z (.nil (b5 ?_))
         simp only[B9 hb1,or_f hb1,ip,ir,io,iq]
         exact Sub.en Z
       ·refine AWP.F Z h (fun hc15 h=> ?_) (fun hc15 h=> ?_)
        ·refine AWP.gk 4 Z (.nilrow 1 6 Z (.ret (d9 (i9 (d9 ?_)))))
         obtain rfl:=oi h
         refine d9 ⟨_,Z,Z,?_⟩
         exact Done.ret Z Z
        ·refine AWP.skip (b5 (.j ?_))
         obtain⟨a69,ha69,a74,ha74,a77,ha77,h⟩:=b3 h
         refine AWP.drawEI [11] mixed Z Z Z (d4.D 3 Z Z ?_)
         refine d4.consN Z Z (fun E=>S.idx ha69 Z Z Z Z .N) Z ?_
         refine d4.D 4 Z Z ?_
         refine d4.consN Z Z (fun E=>S.idx ha74 Z Z Z Z .N) Z ?_
         refine d4.D 2 Z Z ?_
         apply d4.consE;exact Z;exact Z;intro E
         refine S.fresh Z Z Z Z (X0 ha77) Z Z .N
         exact Z
         exact Z
         refine d4.D 1 Z Z (d4.done Z ?_ ?_)
         ·refine i5.D 3 Z Z ?_
          refine i5.cons Z Z (.go Z Z (fun E=>S.idx ha69 Z Z Z Z .N) (.skip Z .nil)) ?_
          refine i5.D 4 Z Z ?_
          refine i5.cons Z Z (.go Z Z (fun E=>S.idx ha74 Z Z Z Z .N) (.skip Z .nil)) ?_
          refine i5.D 4 Z Z (i5.nil)
         dsimp only[l9]
         refine b5 ?_
         obtain⟨a81,ha81,h⟩:=b7 h
         refine AWP.G 2 Z (.frzV (id:=6) (l:=a77) (env2:=[(1,.c (row 2 j9 policy)),(3,(cP 0 0 0)),(7,(cP 1 0 0)),(9,(cR a77)),(32,(cR outcomes)),(33,(cI (outcomes.length:Int))),(34,(cI t8)),(78,.c (.own 5 0 c6.length)),(79,(cR a77))]) (σ2:=[(oE 4 (tO ov)),(oE 2 [int 0,int 0]),.dead,.dead,.dead,(oV 1 d8 c6),.dead]) Z Z (by exact⟨⟨_,Z,.inl ⟨Z,Z⟩⟩,⟨_,Z,.inl ⟨Z,Z⟩⟩,⟨_,Z,.inl ⟨Z,Z⟩⟩,⟨_,Z,.inr ⟨_,Z,Z,Z⟩⟩,⟨_,Z,.inl ⟨Z,Z⟩⟩,⟨_,Z,.inl ⟨Z,Z⟩⟩,⟨_,Z,.inl ⟨Z,Z⟩⟩,⟨_,Z,.inl ⟨Z,Z⟩⟩,⟨_,Z,.inr ⟨_,Z,Z,Z⟩⟩,Y⟩) Z (by exact⟨⟨Z,.inl ⟨Z,Z⟩,.inl ⟨Z,Z⟩,.inl ⟨Z,Z⟩,.inl ⟨Z,Z⟩,Y⟩,⟨Z,.inl ⟨Z,Z⟩,.inl ⟨Z,Z⟩,Y⟩,Y,Y,Y,FrzB.vec,Y,Y⟩) (S.lit (f:=d8) (l:=[a77]) (ess:=[[row 1 intI a77]]) Z Z Z Z Z Z Z ⟨⟨.inl Z,Y⟩,Y⟩ Z Z Z (S.append (f:=d8) ha81 Z Z Z Z Z Z (.own Z Z) Z Z Z Z (.B Z Z (.nil (d6 (b5 (.z (env':=[(1,.c (row 2 j9 policy)),(3,(cP 0 0 0)),(7,(cP 1 0 0)),(9,(cR a77)),(10,.c (.own 5 0 a81.length)),(32,(cR outcomes)),(33,(cI (outcomes.length:Int))),(34,(cI t8))]) (σ':=[(oE 4 (tO ov)),(oE 2 [int 0,int 0]),.dead,.dead,.dead,(oV 1 d8 a81),.dead,(oV 1 d8 [a77])]) 5 8 Z Z Z ⟨Z,Z,Z,Z,Z,Z,Z,Z,Y⟩ Z ⟨⟨Z,Z⟩,⟨Z,Z⟩,Y,Y,Y,⟨Blk.im_ok _ _ _,i6 Z⟩,Y,⟨Blk.im_ok _ _ _,i6 Z⟩,Y⟩ (.G 2 Z (.nil ?_))))))))))
         obtain rfl:=oi h
         refine b5 ⟨_,Z,?_⟩
         exact Sub.cut ⟨Z,Z,Z,Z,Z,Z,Z,Z,Y⟩ Z ⟨.one Z,.one Z,.dead,.dead,.dead,.vec,Y⟩ Z
    ·refine AWP.exit (k8 ?_)
     obtain rfl:=oi h
     refine k8 ⟨_,Z,Z,?_⟩
     exact Sub.cut ⟨Z,Z,Y⟩ Z ⟨.dead,.one Z,.dead,.dead,.dead,.vec,Y⟩ Z
   ·intro e s hq
    rcases oo with c9|x
    ·try dsimp only at h hq
     obtain⟨rfl,hs⟩:=hq
     refine⟨_,hs,?_⟩
     refine i7 (b5 (.gk 4 Z (.frzV (id:=5) (l:=c9) (env2:=[(6,.c (row 1 d8 c9)),(7,(cP 1 0 0))]) (σ2:=[.dead,(oE 2 [int 0,int 0]),.dead,.dead,.dead,.dead]) Z Z (by exact⟨⟨_,Z,.inr ⟨_,Z,Z,Z⟩⟩,⟨_,Z,.inl ⟨Z,Z⟩⟩,Y⟩) Z (by exact⟨Y,⟨Z,.inl ⟨Z,Z⟩,.inl ⟨Z,Z⟩,Y⟩,Y,Y,Y,Y,Y⟩) (.ret ?_))))
     obtain rfl:=oi h
     exact Done.ret Z Z
    ·try dsimp only at h hq
     obtain⟨rfl,hs⟩:=hq
     refine⟨_,Sub.refl _ _,?_⟩
     refine i9 (d9 ?_)
     obtain rfl:=oi h
     exact hs
theorem ref8_Chosen_ok{p:List e9}{sv:Li}{r:Int}(h:K2 p sv=some r):f7 prog 9 [.c (row 2 j9 p),(cR sv)] ((cI r)):=by
 unfold f7
 refine FnOk.enter (rs:=[.t 4]) func9 Z ntmps9 results9 Z ⟨Y,Y⟩ (by kernel_rfl) Z ?_
 unfold K2 at h
 refine AWP.gk 1 Z (.j (.gk 1 Z (.q ?_)))
 obtain⟨oo,ho1,h⟩:=b7 h
 refine AWP.rngL ho1 (fun iv3 _=>⟨[(0,.c (row 2 j9 p)),(1,(cR sv)),(5,(cI iv3))],[]⟩) (fun x e st=>e=.ret/\Done [.t 4] (fun t _=>t=(cI x)) .ret st) (fun _ _ _ k=>.G 2 Z (S.len Z Z fun hl=>.gn 1 Z (k hl))) (fun _ _=>Z) ?_ ?_ ?_ ?_
 ·exact Sub.en Z
 ·intro iv3 s o hloiv3 hltiv3 h hl8
  unfold ad8 at h
  try dsimp only at h ⊢
  refine AWP.j (.q (.j ?_))
  obtain⟨a14,ha14,a18,ha18,h⟩:=b2 h
  refine AWP.G 2 Z (S.idx ha14 Z Z Z Z (.G 3 Z (.u Z Z Z Z (as8 ha18) Z (.nil (b5 (.F Z h (fun hc4 h=> ?_) (fun hc4 h=> ?_)))))))
  ·refine AWP.j ?_
   obtain⟨a21,ha21,h⟩:=b7 h
   refine AWP.G 2 Z (S.idx ha21 Z Z Z Z (.G 3 Z (.nil (b5 (.ret (i9 (d9 ?_)))))))
   obtain rfl:=oi h
   refine d9 ⟨_,Z,Z,?_⟩
   exact Done.ret Z Z
  ·refine AWP.skip (d6 (b5 (.G 1 Z (.add Z Z Z (by omega) (.B Z Z (.nil ?_))))))
   obtain rfl:=oi h
   refine b5 ⟨_,Z,?_⟩
   exact Sub.en Z
 ·intro iz _ he
  subst he
  try dsimp only at h ⊢
  refine i7 (b5 (.gk 1 Z (.ret ?_)))
  obtain rfl:=oi h
  exact Done.ret Z Z
 ·intro x e st he hq
  subst he
  try dsimp only at h hq
  obtain⟨rfl,hs⟩:=hq
  refine⟨_,Sub.refl _ _,?_⟩
  refine i9 (d9 ?_)
  obtain rfl:=oi h
  exact hs
theorem strips_Steps_ok{operators:Int}{plan:Li}{r:g8}(h:ab8 operators plan=some r):f7 prog 64 [(cI operators),(cR plan)] (.agg [int r.code,int r.index]):=by
 unfold f7
 refine FnOk.enter (rs:=[.cell 4 32 2]) func64 Z ntmps64 results64 Z ⟨rv _ Z,Y⟩ (by kernel_rfl) Z ?_
 unfold ab8 at h
 refine AWP.gk 1 Z (.j (.gs 1 Z (S.len Z Z (fun hl8=>.ge 1 Z (.J Z h (fun hc3 h=> ?_) (fun hc3 h=> ?_))))))
 ·refine AWP.gk 2 Z (.ret (d9 ?_))
  obtain rfl:=oi h
  exact Done.ret Z Z
 ·refine AWP.skip (b5 (.j (.gs 1 Z (S.len Z Z (fun hl12=>.ge 1 Z (.q ?_))))))
  obtain⟨oo,ho1,h⟩:=b7 h
  refine AWP.rngH ho1 (fun t4 _=>⟨[(0,(cI operators)),(4,(cP 0 0 0)),(11,(cR plan)),(12,(cI (plan.length:Int))),(13,(cI t4))],[(oE 2 [int 0,int 0])]⟩) (fun x e st=>e=.ret/\Done [.cell 4 32 2] (fun t _=>t=.agg [int x.code,int x.index]) .ret st) (fun _ _=>Z) ?_ ?_ ?_ ?_
  ·exact Sub.en Z
  ·intro t4 s o hlot4 hltt4 h
   unfold am2 at h
   try dsimp only at h ⊢
   refine AWP.j (.q (.j ?_))
   obtain⟨a15,ha15,h⟩:=b7 h
   refine AWP.U (S.idx ha15 Z Z Z Z (.G 2 Z (.nil (b5 (.seqJ (⟨[(0,(cI operators)),(4,(cP 0 0 0)),(11,(cR plan)),(12,(cI (plan.length:Int))),(13,(cI t4)),(23,(cB ((decide (a15<0))||(decide (operators<=a15)))))],[(oE 2 [int 0,int 0])]⟩) ?_ ?_)))))
   ·rcases bft (decide (a15<0)) with hb1|hb1
    ·refine AWP.G 3 Z (.K Z Z hb1 (.G 4 Z (.nil (b5 ?_))))
     simp only[G6 hb1,or_t hb1,ip,ir,io,iq]
     exact Sub.en Z
    ·refine AWP.G 3 Z (.K Z Z hb1 (.G 4 Z (.nil (b5 ?_))))
     simp only[B9 hb1,or_f hb1,ip,ir,io,iq]
     exact Sub.en Z
   ·refine AWP.F Z h (fun hc5 h=> ?_) (fun hc5 h=> ?_)
    ·refine AWP.gk 2 Z (.ret (i9 (d9 ?_)))
     obtain rfl:=oi h
     refine d9 ⟨_,Z,Z,?_⟩
     exact Done.ret Z Z
    ·refine AWP.skip (d6 (b5 (.U (.add Z Z Z (by omega) (.z Z Z (.nil ?_))))))
     obtain rfl:=oi h
     refine b5 ⟨_,Z,?_⟩
     exact Sub.en Z
  ·intro iz _ he
   subst he
   try dsimp only at h ⊢
   refine i7 (b5 (.gk 2 Z (.ret ?_)))
   obtain rfl:=oi h
   exact Done.ret Z Z
  ·intro x e st he hq
   subst he
   try dsimp only at h hq
   obtain⟨rfl,hs⟩:=hq
   refine⟨_,Sub.refl _ _,?_⟩
   refine i9 (d9 ?_)
   obtain rfl:=oi h
   exact hs
theorem aB9{t:j3}{plan:Li}{r:g8}(h:P8 t plan=some r):f7 prog 30 [.agg (tT t),(cR plan)] (.agg [int r.code,int r.index]):=by
 unfold f7
 refine FnOk.enter (rs:=[.cell 4 32 2]) func30 Z ntmps30 results30 Z ⟨rv _ Z,Y⟩ (by kernel_rfl) Z ?_
 unfold P8 at h
 refine AWP.gk 2 Z (.j (.j ?_))
 obtain⟨a7,ha7,h⟩:=b7 h
 refine AWP.G 1 Z (.u Z Z Z Z (L4 ha7) Z (.G 2 Z (.nil (b5 (.gs 2 Z (.neqP Z Z Z Z Z Z Z (.ne (.F Z h (fun hc3 h=> ?_) (fun hc3 h=> ?_)))))))))
 ·refine AWP.gk 2 Z (.ret (d9 ?_))
  obtain rfl:=oi h
  exact Done.ret Z Z
 ·refine AWP.skip (b5 (.j ?_))
  obtain⟨a16,ha16,h⟩:=b7 h
  refine AWP.G 2 Z (S.len Z Z (fun hl14=>.z Z Z (.u Z Z Z Z (strips_Steps_ok ha16) Z (.G 1 Z (.nil (b5 (.ret ?_)))))))
  obtain rfl:=oi h
  exact Done.ret Z Z
theorem strips_Can_ok{t:j3}{sv:Li}{op:Int}{r:Bool}(h:al1 t sv op=some r):f7 prog 91 [.agg (tT t),(cR sv),(cI op)] ((cB r)):=by
 unfold f7
 refine FnOk.enter (rs:=[.t 6]) func91 Z ntmps91 results91 Z ⟨Y,Y⟩ (by kernel_rfl) Z ?_
 unfold al1 at h
 refine AWP.gk 2 Z (.j ?_)
 obtain⟨a11,ha11,a14,ha14,h⟩:=b2 h
 refine AWP.G 4 Z (S.idx ha11 Z Z Z Z (.G 2 Z (.u Z Z Z Z (x4 ha14) Z (.B Z Z (.nil (b5 (.ret ?_)))))))
 obtain rfl:=oi h
 exact Done.ret Z Z
theorem strips_Run_ok{t:j3}{sv:Li}{plan:Li}{r:(LL)}(h:am1 t sv plan=some r):o9 prog 65 [.agg (tT t),(cR sv),(cR plan)] 1 (it d8 r):=by
 unfold o9
 refine FnOk.enter (rs:=[.t 6]) func65 Z ntmps65 results65 Z ⟨Y,Y⟩ (by kernel_rfl) Z ?_
 unfold am1 at h
 refine AWP.gk 2 Z (.j ?_)
 obtain⟨a11,ha11,h⟩:=b7 h
 refine AWP.G 1 Z (S.fresh Z Z Z Z (j6 ha11) Z Z (.frzV (id:=1) (l:=a11) (env2:=[(1,(cR sv)),(2,(cR plan)),(3,(cP 0 0 0)),(11,(cR a11))]) (σ2:=[(oE 4 (tT t)),.dead]) Z Z (by exact⟨⟨_,Z,.inl ⟨Z,Z⟩⟩,⟨_,Z,.inl ⟨Z,Z⟩⟩,⟨_,Z,.inl ⟨Z,Z⟩⟩,⟨_,Z,.inr ⟨_,Z,Z,Z⟩⟩,Y⟩) Z (by exact⟨⟨Z,.inl ⟨Z,Z⟩,.inl ⟨Z,Z⟩,.inl ⟨Z,Z⟩,.inl ⟨Z,Z⟩,Y⟩,Y,Y⟩) (S.lit (f:=d8) (l:=[a11]) (ess:=[[row 1 intI a11]]) Z Z Z Z Z Z Z ⟨⟨.inl Z,Y⟩,Y⟩ Z Z Z (.B Z Z (.nil (b5 (.j (.gs 1 Z (S.len Z Z (fun hl14=>.ge 1 Z (.q ?_)))))))))))
 obtain⟨c7,ho1,h⟩:=b7 h
 refine AWP.loopS ho1 (fun(c4,sv5,t6)=>⟨[(1,(cR sv5)),(3,(cP 0 0 0)),(7,.c (.own 2 0 c4.length)),(13,(cR plan)),(14,(cI (plan.length:Int))),(15,(cI t6))],[(oE 4 (tT t)),.dead,(oV 1 d8 c4)]⟩) (fun c7 e st=>e=.exit 0/\Sub [] st ⟨[(7,.c (.own 2 0 c7.length))],[.dead,.dead,(oV 1 d8 c7)]⟩) ?_ ?_ ?_
 ·exact Sub.en Z
 ·intro s o h
  obtain⟨c4,sv5,t6⟩:=s
  unfold ag9 at h
  try dsimp only at h ⊢
  refine AWP.gk 1 Z (.j (.J Z h (fun hc8 h=> ?_) (fun hc8 h=> ?_)))
  ·refine AWP.skip (b5 (.j (.q (.j ?_))))
   obtain⟨a17,ha17,h⟩:=b7 h
   refine AWP.U (S.idx ha17 Z Z Z Z (.G 2 Z (.nil (b5 (.j (.j ?_))))))
   obtain⟨a22,ha22,h⟩:=b7 h
   refine AWP.G 3 Z (.u Z Z Z Z (strips_Can_ok ha22) Z (.not Z Z (.nil (b5 (.F Z h (fun hc9 h=> ?_) (fun hc9 h=> ?_))))))
   ·refine AWP.exit (k8 (K4 Z (k8 ?_)))
    obtain rfl:=oi h
    refine k8 ⟨_,Z,Z,?_⟩
    exact Sub.cut ⟨Z,Y⟩ Z ⟨.dead,.dead,.vec,Y⟩ Z
   ·refine AWP.skip (b5 (.j ?_))
    obtain⟨a27,ha27,h⟩:=b7 h
    refine AWP.G 3 Z (S.fresh Z Z Z Z (ay9 ha27) Z Z (.B Z Z (.nil (b5 ?_))))
    obtain⟨a31,ha31,h⟩:=b7 h
    refine AWP.G 2 Z (.frzV (id:=3) (l:=a27) (env2:=[(1,(cR a27)),(3,(cP 0 0 0)),(13,(cR plan)),(14,(cI (plan.length:Int))),(15,(cI t6)),(28,.c (.own 2 0 c4.length)),(29,(cR a27))]) (σ2:=[(oE 4 (tT t)),.dead,(oV 1 d8 c4),.dead]) Z Z (by exact⟨⟨_,Z,.inr ⟨_,Z,Z,Z⟩⟩,⟨_,Z,.inl ⟨Z,Z⟩⟩,⟨_,Z,.inl ⟨Z,Z⟩⟩,⟨_,Z,.inl ⟨Z,Z⟩⟩,⟨_,Z,.inl ⟨Z,Z⟩⟩,⟨_,Z,.inl ⟨Z,Z⟩⟩,⟨_,Z,.inr ⟨_,Z,Z,Z⟩⟩,Y⟩) Z (by exact⟨⟨Z,.inl ⟨Z,Z⟩,.inl ⟨Z,Z⟩,.inl ⟨Z,Z⟩,.inl ⟨Z,Z⟩,Y⟩,Y,FrzB.vec,Y,Y⟩) (S.lit (f:=d8) (l:=[a27]) (ess:=[[row 1 intI a27]]) Z Z Z Z Z Z Z ⟨⟨.inl Z,Y⟩,Y⟩ Z Z Z (S.append (f:=d8) ha31 Z Z Z Z Z Z (.own Z Z) Z Z Z Z (.B Z Z (.nil (d6 (b5 (.z (env':=[(1,(cR a27)),(3,(cP 0 0 0)),(7,.c (.own 2 0 a31.length)),(13,(cR plan)),(14,(cI (plan.length:Int))),(15,(cI t6))]) (σ':=[(oE 4 (tT t)),.dead,(oV 1 d8 a31),.dead,(oV 1 d8 [a27])]) 2 5 Z Z Z ⟨Z,Z,Z,Z,Z,Z,Y⟩ Z ⟨⟨Z,Z⟩,Y,⟨Blk.im_ok _ _ _,i6 Z⟩,Y,⟨Blk.im_ok _ _ _,i6 Z⟩,Y⟩ (.G 2 Z (.nil ?_))))))))))
    obtain rfl:=oi h
    refine b5 ⟨_,Z,?_⟩
    exact Sub.cut ⟨Z,Z,Z,Z,Z,Z,Y⟩ Z ⟨.one Z,.dead,.vec,Y⟩ Z
  ·refine AWP.exit (k8 ?_)
   obtain rfl:=oi h
   refine k8 ⟨_,Z,Z,?_⟩
   exact Sub.cut ⟨Z,Y⟩ Z ⟨.dead,.dead,.vec,Y⟩ Z
 ·intro e s hq
  obtain⟨rfl,hs⟩:=hq
  refine⟨_,hs,?_⟩
  refine i7 (b5 (.gk 2 Z (.ret ?_)))
  obtain rfl:=oi h
  exact Done.ret Z (Fresh.mk Z Z)
theorem strips_Works_ok{t:j3}{sv:Li}{plan:Li}{r:Bool}(h:ac2 t sv plan=some r):f7 prog 31 [.agg (tT t),(cR sv),(cR plan)] ((cB r)):=by
 unfold f7
 refine FnOk.enter (rs:=[.t 6]) func31 Z ntmps31 results31 Z ⟨Y,Y⟩ (by kernel_rfl) Z ?_
 unfold ac2 at h
 refine AWP.gk 2 Z (.j ?_)
 obtain⟨a11,ha11,h⟩:=b7 h
 refine AWP.G 3 Z (S.fresh Z Z Z Z (strips_Run_ok ha11) Z Z (.B Z Z (.nil (b5 ?_))))
 obtain⟨t4,hx5,h⟩:=b7 h
 refine AWP.seqJ (⟨[(6,(cB t4))],[]⟩) ?_ ?_
 ·rcases bft (decide ((a11.length:Int)=w64 ((plan.length:Int)+1))) with hb6|hb6
  ·replace hx5:=K6 hb6 hx5
   obtain⟨a22,ha22,a26,ha26,hx5⟩:=b2 hx5
   refine AWP.drawI mixed Z (d7.D 1 Z ?_)
   refine d7.consF Z (fun E=>S.lenO Z Z Z (fun hl13=>.nil ⟨Z,Z⟩)) Z ?_
   refine d7.D 1 Z ?_
   refine d7.consF Z (fun E=>S.len Z Z (fun hl15=>.nil ⟨Z,Z⟩)) Z ?_
   refine d7.D 3 Z (d7.K Z hb6 Z (d7.D 2 Z ?_))
   apply d7.consF;exact Z;intro E
   refine AOps.E Z Z Z Z ?_;refine S.len Z Z (fun hl21=> ?_)
   exact AOps.nil ⟨Z,Z⟩
   exact Z
   refine d7.consF Z (fun E=>.E Z Z Z Z (S.idxO ha22 Z Z Z Z Z .N)) Z (.consF Z (fun E=>.E Z Z Z Z (S.loadO ha22 Z Z Z Z Z .N)) Z ?_)
   refine d7.D 2 Z ?_
   refine d7.consF Z (fun E=>.E Z Z Z Z (.u Z Z Z Z (x4 ha26) Z .N)) Z ?_
   refine d7.D 2 Z (d7.done ?_)
   dsimp only[l9]
   obtain rfl:=oi hx5
   refine b5 (Sub.cut ⟨Z,Y⟩ Z Y Z)
  ·replace hx5:=K0 hb6 hx5
   refine AWP.drawI mixed Z (d7.D 1 Z ?_)
   refine d7.consF Z (fun E=>S.lenO Z Z Z (fun hl13=>.nil ⟨Z,Z⟩)) Z ?_
   refine d7.D 1 Z ?_
   refine d7.consF Z (fun E=>S.len Z Z (fun hl15=>.nil ⟨Z,Z⟩)) Z ?_
   refine d7.D 3 Z (d7.K Z hb6 Z (d7.D 10 Z (d7.done ?_)))
   dsimp only[l9]
   obtain rfl:=oi hx5
   refine b5 (Sub.cut ⟨Z,Y⟩ Z Y Z)
 ·refine AWP.ret ?_
  obtain rfl:=oi h
  exact Done.ret Z Z
theorem aF4{t:j3}{plan:Li}{r:Bool×g8}(h:X6 t plan=some r):f7 prog 10 [.agg (tT t),(cR plan)] (.tup [(cB r.1),.agg [int r.2.code,int r.2.index]]):=by
 unfold f7
 refine FnOk.enter (rs:=[.t 4,.cell 5 32 2]) func10 Z ntmps10 results10 Z ⟨Y,rv _ Z,Y⟩ (by kernel_rfl) Z ?_
 unfold X6 at h
 refine AWP.gk 3 Z (.j (.j ?_))
 obtain⟨a9,ha9,h⟩:=b7 h
 refine AWP.G 2 Z (.u Z Z Z Z (aB9 ha9) Z (.G 2 Z (.nil (b5 (.gs 2 Z (.neqP Z Z Z Z Z Z Z (.ne (.F Z h (fun hc3 h=> ?_) (fun hc3 h=> ?_)))))))))
 ·refine AWP.j (.drawEI [2] mixed Z Z Z (d4.D 2 Z Z ?_))
  apply d4.consE (v:=.undef);exact Z;exact Z;intro E
  refine W.storeAgg Z Z Z Z Z Z Z .N
  exact Z
  exact Z
  refine d4.done Z ?_ ?_
  ·refine i5.D 3 Z Z (i5.nil)
  dsimp only[l9]
  refine b5 (.ret (d9 ?_))
  obtain rfl:=oi h
  exact Done.ret Z Z
 ·refine AWP.skip (b5 (.j ?_))
  obtain⟨a18,ha18,h⟩:=b7 h
  refine AWP.G 4 Z (.u Z Z Z Z (strips_Works_ok ha18) Z (.G 3 Z (.nil (b5 (.ret ?_)))))
  obtain rfl:=oi h
  exact Done.ret Z Z
theorem ah8{ov:d5}{r:Bool}(h:D1 ov=some r):f7 prog 3 [.agg (tO ov)] ((cB r)):=by
 unfold f7
 refine FnOk.enter (rs:=[.t 2]) func3 Z ntmps3 results3 Z ⟨Y,Y⟩ (by kernel_rfl) Z ?_
 unfold D1 at h
 refine AWP.gk 2 Z (.j (.gk 1 Z (.q ?_)))
 obtain⟨oo,ho1,h⟩:=b7 h
 refine AWP.rngL ho1 (fun iv2 _=>⟨[(1,(cP 0 0 0)),(3,(cI iv2))],[(oE 4 (tO ov))]⟩) (fun x e st=>e=.ret/\Done [.t 2] (fun t _=>t=(cB x)) .ret st) (fun _ _ _ k=>.G 3 Z (S.len Z Z fun hl=>.gn 1 Z (k hl))) (fun _ _=>Z) ?_ ?_ ?_ ?_
 ·exact Sub.en Z
 ·intro iv2 s o hloiv2 hltiv2 h hl22
  unfold B2 at h
  try dsimp only at h ⊢
  refine AWP.j (.q (.j ?_))
  obtain⟨a29,ha29,h⟩:=b7 h
  refine AWP.G 3 Z (S.idx ha29 Z Z Z Z (.G 2 Z (S.len Z Z (fun hl32=>.neq Z Z Z (.nil (b5 (.iteN Z h (fun hc3 h=> ?_) (fun hc3 h=> ?_))))))))
  ·refine AWP.j ?_
   obtain⟨a34,ha34,h⟩:=b7 h
   refine AWP.U (.u Z Z Z Z (ah0 ha34) Z (.B Z Z (.nil (b5 (.ret (i9 (d9 ?_)))))))
   obtain rfl:=oi h
   refine d9 ⟨_,Z,Z,?_⟩
   exact Done.ret Z Z
  ·refine AWP.skip (d6 (b5 (.G 1 Z (.add Z Z Z (by omega) (.B Z Z (.nil ?_))))))
   obtain rfl:=oi h
   refine b5 ⟨_,Z,?_⟩
   exact Sub.en Z
 ·intro iz _ he
  subst he
  try dsimp only at h ⊢
  refine i7 (b5 (.j ?_))
  obtain⟨a37,ha37,h⟩:=b7 h
  refine AWP.G 1 Z (.u Z Z Z Z (aE6 ha37) Z (.G 8 Z (.nil (b5 (.j ?_)))))
  obtain⟨a43,ha43,h⟩:=b7 h
  refine AWP.G 1 Z (.u Z Z Z Z (aB8 ha43) Z (.G 9 Z (.nil (b5 (.j ?_)))))
  obtain⟨a50,ha50,h⟩:=b7 h
  refine AWP.G 2 Z (.u Z Z Z Z (strong_Check_ok ha50) Z (.G 8 Z (.nil (b5 (.j (.seqJ (⟨[(1,(cP 0 0 0)),(4,.c (row 2 j9 a37.1)),(7,(cP 2 0 0)),(10,(cI a50.1)),(11,(cB a50.2.1)),(12,(cP 4 0 0)),(69,(cB ((((!(decide (a37.2.2.code=0)))||(!(decide (a43.2.2.code=0))))||(!a37.2.1))||(decide (60<a50.1)))))],[(oE 4 (tO ov)),(oE 2 [int a37.2.2.code,int a37.2.2.index]),(oE 4 (tT a43.1)),(oE 2 [int a43.2.2.code,int a43.2.2.index]),(oE 2 [int a50.2.2.code,int a50.2.2.index])]⟩) ?_ ?_))))))
  ·rcases bft (!(decide (a37.2.2.code=0))) with hb1|hb1
   ·refine AWP.G 4 Z (.K Z Z hb1 (.G 12 Z (.nil (b5 ?_))))
    simp only[G6 hb1,or_t hb1,ip,ir,io,iq]
    exact Sub.en Z
   ·rcases bft (!(decide (a43.2.2.code=0))) with hb2|hb2
    ·refine AWP.G 4 Z (.K Z Z hb1 (.G 5 Z (.K Z Z hb2 (.G 7 Z (.nil (b5 ?_))))))
     simp only[B9 hb1,or_f hb1,G6 hb2,or_t hb2,ip,ir,io,iq]
     exact Sub.en Z
    ·rcases bft (!a37.2.1) with hb3|hb3
     ·refine AWP.G 4 Z (.K Z Z hb1 (.G 5 Z (.K Z Z hb2 (.G 4 Z (.K Z Z hb3 (.G 3 Z (.nil (b5 ?_))))))))
      simp only[B9 hb1,or_f hb1,B9 hb2,or_f hb2,G6 hb3,or_t hb3,ip,ir,io,iq]
      exact Sub.en Z
     ·refine AWP.G 4 Z (.K Z Z hb1 (.G 5 Z (.K Z Z hb2 (.G 4 Z (.K Z Z hb3 (.G 3 Z (.nil (b5 ?_))))))))
      simp only[B9 hb1,or_f hb1,B9 hb2,or_f hb2,B9 hb3,or_f hb3,ip,ir,io,iq]
      exact Sub.en Z
  ·refine AWP.F Z h (fun hc4 h=> ?_) (fun hc4 h=> ?_)
   ·refine AWP.j ?_
    obtain⟨a70,ha70,h⟩:=b7 h
    refine AWP.U (.u Z Z Z Z (ah0 ha70) Z (.B Z Z (.nil (b5 (.ret (d9 ?_))))))
    obtain rfl:=oi h
    exact Done.ret Z Z
   ·refine AWP.skip (b5 (.j ?_))
    obtain⟨a75,ha75,a76,ha76,h⟩:=b2 h
    refine AWP.drawEI [8,10] mixed Z Z Z (d4.D 3 Z Z ?_)
    refine d4.consN Z Z (fun E=>S.makeD (f:=intI) ha75 (by exact⟨.inl Z,Y⟩) Z Z Z Z .N) Z (.consN Z Z (fun E=>.u Z Z Z Z (an3 ha76) Z .N) Z ?_)
    refine d4.D 3 Z Z ?_
    apply d4.consE;exact Z;exact Z;intro E
    refine W.alloc Z Z Z Z .N
    exact Z
    exact Z
    refine d4.D 1 Z Z ?_
    apply d4.consE (v:=.undef);exact Z;exact Z;intro E
    refine W.storeAgg Z Z Z Z Z Z Z .N
    exact Z
    exact Z
    refine d4.done Z ?_ ?_
    ·refine i5.D 3 Z Z ?_
     refine i5.cons Z Z (.go Z Z (fun E=>S.makeD (f:=intI) ha75 (by exact⟨.inl Z,Y⟩) Z Z Z Z .N) (.go Z Z (fun E=>S.makeD (f:=intI) ha75 (by exact⟨.inl Z,Y⟩) Z Z Z Z .N) (.skip Z .nil))) (.cons Z Z (.go Z Z (fun E=>.u Z Z Z Z (an3 ha76) Z .N) (.go Z Z (fun E=>.u Z Z Z Z (an3 ha76) Z .N) (.skip Z .nil))) ?_)
     refine i5.D 6 Z Z (i5.nil)
    dsimp only[l9]
    refine b5 (.j (.seqJ (⟨[(4,.c (row 2 j9 a37.1)),(7,(cP 2 0 0)),(10,(cI a50.1)),(13,.c (row 1 d8 a76.1)),(97,(cB ((((!(decide (a50.2.2.code=0)))||(!a50.2.1))||(!(decide (a76.2.code=0))))||(!(decide ((a76.1.length:Int)=w64 (a50.1+1)))))))],[(oE 4 (tO ov)),(oE 2 [int a37.2.2.code,int a37.2.2.index]),(oE 4 (tT a43.1)),(oE 2 [int a43.2.2.code,int a43.2.2.index]),(oE 2 [int a50.2.2.code,int a50.2.2.index]),(oE 2 [int a76.2.code,int a76.2.index])]⟩) ?_ ?_))
    ·rcases bft (!(decide (a50.2.2.code=0))) with hb1|hb1
     ·refine AWP.G 4 Z (.K Z Z hb1 (.G 15 Z (.nil (b5 ?_))))
      simp only[G6 hb1,or_t hb1,ip,ir,io,iq]
      exact Sub.en Z
     ·rcases bft (!a50.2.1) with hb2|hb2
      ·refine AWP.G 4 Z (.K Z Z hb1 (.G 4 Z (.K Z Z hb2 (.G 11 Z (.nil (b5 ?_))))))
       simp only[B9 hb1,or_f hb1,G6 hb2,or_t hb2,ip,ir,io,iq]
       exact Sub.en Z
      ·rcases bft (!(decide (a76.2.code=0))) with hb3|hb3
       ·refine AWP.G 4 Z (.K Z Z hb1 (.G 4 Z (.K Z Z hb2 (.G 5 Z (.K Z Z hb3 (.G 6 Z (.nil (b5 ?_))))))))
        simp only[B9 hb1,or_f hb1,B9 hb2,or_f hb2,G6 hb3,or_t hb3,ip,ir,io,iq]
        exact Sub.en Z
       ·refine AWP.G 4 Z (.K Z Z hb1 (.G 4 Z (.K Z Z hb2 (.G 5 Z (.K Z Z hb3 (.G 1 Z ?_))))))
        refine AOps.E Z Z Z Z ?_;refine S.len Z Z (fun hl93=> ?_)
        refine AOps.G 4 Z (.nil (b5 ?_))
        simp only[B9 hb1,or_f hb1,B9 hb2,or_f hb2,B9 hb3,or_f hb3,ip,ir,io,iq]
        exact Sub.en Z
    ·refine AWP.F Z h (fun hc5 h=> ?_) (fun hc5 h=> ?_)
     ·refine AWP.gk 1 Z (.ret (d9 ?_))
      obtain rfl:=oi h
      exact Done.ret Z Z
     ·refine AWP.skip (b5 (.gk 1 Z (.j (.gk 1 Z (.q (.virtV 1 intI 15 Z Z Z ?_))))))
      obtain⟨hniv7,h⟩:=ite_none h
      obtain⟨c6,ho2,h⟩:=b7 h
      refine AWP.forL ho2 (fun iv7 c6=>⟨[(4,.c (row 2 j9 a37.1)),(7,(cP 2 0 0)),(10,(cI a50.1)),(13,.c (row 1 d8 a76.1)),(15,.c (.own 6 0 c6.length)),(16,(cI iv7))],[.dead,.dead,(oE 4 (tT a43.1)),.dead,.dead,.dead,(oV 1 intI c6)]⟩) (fun _ _ _ k=>.gn 3 Z (k Y)) (fun _ _=>Z) ?_ ?_ ?_
      ·exact Sub.cut ⟨Z,Z,Z,Z,(C0 (by first|rfl|simp only[lS])),Z,Y⟩ Z ⟨.dead,.dead,.one Z,.dead,.dead,.dead,.vec,Y⟩ Z
      ·intro iv7 c6 o hloiv7 hltiv7 h _
       unfold x5 at h
       try dsimp only at h ⊢
       refine AWP.j (.q ?_)
       obtain⟨a107,ha107,a109,ha109,a111,ha111,h⟩:=b3 h
       refine AWP.G 4 Z (S.idx ha107 Z Z Z Z (.G 1 Z (.u Z Z Z Z (ref8_Chosen_ok ha109) Z (S.lit (f:=intI) (l:=[a109]) (ess:=[[int a109]]) Z Z Z Z Z Z Z ⟨⟨.inl Z,Y⟩,Y⟩ Z Z Z (S.append (f:=intI) ha111 Z Z Z Z Z Z (.own Z Z) Z Z Z Z (.B Z Z (.nil (d6 (b5 (.z (env':=[(4,.c (row 2 j9 a37.1)),(7,(cP 2 0 0)),(10,(cI a50.1)),(13,.c (row 1 d8 a76.1)),(15,.c (.own 6 0 a111.length)),(16,(cI iv7))]) (σ':=[.dead,.dead,(oE 4 (tT a43.1)),.dead,.dead,.dead,(oV 1 intI a111),(oV 1 intI [a109])]) 6 8 Z Z Z ⟨Z,Z,Z,Z,Z,Z,Y⟩ Z ⟨Y,Y,⟨Z,Z⟩,Y,Y,Y,⟨Blk.im_ok _ _ _,i6 Z⟩,⟨Blk.im_ok _ _ _,i6 Z⟩,Y⟩ (.G 1 Z (.add Z Z Z (by omega) (.B Z Z (.nil ?_))))))))))))))
       obtain rfl:=oi h
       refine b5 (Sub.cut ⟨Z,Z,Z,Z,Z,Z,Y⟩ Z ⟨.dead,.dead,.one Z,.dead,.dead,.dead,.vec,Y⟩ Z)
      ·intro iz
       refine i7 (b5 (.j ?_))
       obtain⟨a115,ha115,h⟩:=b7 h
       refine AWP.G 2 Z (.aa Z Z (.cons (.agg (.cons .imm (.cons .imm (.cons .imm (.cons .imm .nil))))) (.cons (.c (.own Z Z)) .nil)) Z (aF4 ha115) Z (.G 6 Z (.nil (b5 ?_))))
       obtain⟨t8,hx9,h⟩:=b7 h
       refine AWP.seqJ (⟨[(2,(cB t8))],[]⟩) ?_ ?_
       ·rcases bft (decide (a115.2.code=0)) with hb10|hb10
        ·replace hx9:=K6 hb10 hx9
         rcases bft (a115.1) with hb11|hb11
         ·replace hx9:=X1 hb11 hx9
          obtain⟨a125,ha125,hx9⟩:=b7 hx9
          refine AWP.G 4 Z (.E Z Z Z hb10 (.z Z Z (.ab Z hb10 Z Z (.z Z Z (.E Z Z Z hb11 (.u Z Z Z Z (ah0 ha125) Z (.ab Z hb11 Z Z (.B Z Z (.nil ?_)))))))))
          obtain rfl:=oi hx9
          refine b5 (Sub.cut ⟨Z,Y⟩ Z Y Z)
         ·replace hx9:=X5 hb11 hx9
          refine AWP.G 4 Z (.E Z Z Z hb10 (.z Z Z (.ab Z hb10 Z Z (.z Z Z (.O Z Z Z hb11 (.pickF Z hb11 Z Z (.B Z Z (.nil ?_))))))))
          obtain rfl:=oi hx9
          refine b5 (Sub.cut ⟨Z,Y⟩ Z Y Z)
        ·replace hx9:=K0 hb10 hx9
         refine AWP.G 4 Z (.O Z Z Z hb10 (.pickF Z hb10 Z Z (.G 4 Z (.nil ?_))))
         obtain rfl:=oi hx9
         refine b5 (Sub.cut ⟨Z,Y⟩ Z Y Z)
       ·refine AWP.ret ?_
        obtain rfl:=oi h
        exact Done.ret Z Z
 ·intro x e st he hq
  subst he
  try dsimp only at h hq
  obtain⟨rfl,hs⟩:=hq
  refine⟨_,Sub.refl _ _,?_⟩
  refine i9 (d9 ?_)
  obtain rfl:=oi h
  exact hs
end Ab
end
section
namespace Ab
open Go
/-! ### States as' numbers -/
def wsN:Li->Nat
 |[]=>0
 |a::l=>2 ^ a.toNat+wsN l
theorem wsN_append:∀{l m:Li},wsN (l++m)=wsN l+wsN m
 |[],m=>by simp[wsN]
 |a::l,m=>by simp only[List.cons_append,wsN,wsN_append (l:=l)];omega
theorem wsN_le:∀{l:Li},(∀x ∈ l,x<24)->wsN l<=l.length * 16777216
 |[],_=>by simp[wsN]
 |a::l,h=>by
  have h1:=wsN_le (l:=l) fun x hx=>h x (iH _ hx)
  have h2:2 ^ a.toNat<=2 ^ 24:=iT (by decide) (by have:=h a (by simp);omega)
  simp only[wsN,List.length_cons]
  omega
theorem wsN_dvd{k:Nat}:∀{l:Li},(∀x ∈ l,k<=x.toNat)->2 ^ k ∣ wsN l
 |[],_=>⟨0,rfl⟩
 |a::l,h=>Nat.dvd_add (Nat.pow_dvd_pow 2 (h a (by simp))) (wsN_dvd fun x hx=>h x (iH _ hx))
theorem two_pow_no{k:Nat}(h:2 ^ (k+1) ∣ 2 ^ k):False:=by
 have h1:=Nat.le_of_dvd (iM k) h
 have h2:=iM k
 rw[Nat.pow_succ] at h1
 omega
theorem wsN_ne{a:Int}{l m:Li}(ha:0<=a)(hl:∀x ∈ l,a<x)(hm:∀x ∈ m,a<x):wsN (a::l) ≠ wsN m:=fun h=>by
 have d1:2 ^ (a.toNat+1) ∣ wsN l:=wsN_dvd fun x hx=>by have:=hl x hx;omega
 have d2:2 ^ (a.toNat+1) ∣ wsN m:=wsN_dvd fun x hx=>by have:=hm x hx;omega
 rw[<- h,wsN] at d2
 exact two_pow_no ((Nat.dvd_add_left d1).1 d2)
theorem wsN_inj:∀{l m:Li},Inc l->Inc m->(∀x ∈ l,0<=x)->(∀x ∈ m,0<=x)->wsN l=wsN m->l=m
 |[],[],_,_,_,_,_=>rfl
 |[],b::m,_,_,_,_,h=>by
  have:=iM b.toNat
  simp only[wsN] at h;omega
 |a::l,[],_,_,_,_,h=>by
  have:=iM a.toNat
  simp only[wsN] at h;omega
 |a::l,b::m,h1,h2,h3,h4,h=>by
  obtain⟨l1,l2⟩:=iA.1 h1
  obtain⟨m1,m2⟩:=iA.1 h2
  rcases iK a b with c|c|c
  ·exact absurd h (wsN_ne (h3 a (by simp)) l1 fun x hx=>by
    rcases iE.1 hx with rfl|hx
    ·exact c
    ·have:=m1 x hx;omega)
  ·subst c
   simp only[wsN] at h
   rw[wsN_inj l2 m2 (fun x hx=>h3 x (iH _ hx)) (fun x hx=>h4 x (iH _ hx)) (by omega)]
  ·exact absurd h.symm (wsN_ne (h4 b (by simp)) m1 fun x hx=>by
    rcases iE.1 hx with rfl|hx
    ·exact c
    ·have:=l1 x hx;omega)
theorem SetN.word_inj{s s':Li}{n:Int}(h:SetN s n)(h':SetN s' n)(e:wsN s=wsN s'):s=s':=
 wsN_inj h.1 h'.1 (fun x hx=>(h.2 x hx).1) (fun x hx=>(h'.2 x hx).1) e
theorem word_eq{s:Li}{n:Int}(hs:SetN s n)(hn:n<=24):ao3 s=some (wsN s:Int):=by
 have hl:=hs.len
 unfold ao3
 obtain⟨w,h1,h2⟩:=z6 (body:=at8 s) (n:=(s.length:Int)) (s:=0) (fun j w=>w=(wsN (s.take j.toNat):Int)) (by omega) (by simp[wsN]) (fun j w j0 j1 hP=>by
  obtain⟨a,ha,ga⟩:=k6 (l:=s) j0 j1
  have hb:=hs.2 a (m9 ha)
  have ht:s.take (j+1).toNat=s.take j.toNat++[a]:=by rw[show(j+1).toNat=j.toNat+1 by omega,iy,ga];rfl
  have b1:wsN (s.take j.toNat)<=(s.take j.toNat).length * 16777216:=wsN_le fun x hx=>by have:=hs.2 x (iU hx);omega
  have b2:(s.take j.toNat).length<=24:=by rw[iO];omega
  have b4:(s.take j.toNat).length * 16777216<=24 * 16777216:=Nat.mul_le_mul_right _ b2
  obtain⟨q,hq⟩:∃q:Nat,q=2 ^ a.toNat:=⟨_,rfl⟩
  have b3:q<=16777216:=by rw[hq];exact(iT (by decide) (by omega):2 ^ a.toNat<=2 ^ 24)
  have ep:(2:Int) ^ a.toNat=(q:Int):=by rw[hq];push_cast;rfl
  unfold at8
  rw[ha]
  simp only[oB]
  rw[IntKind.wrap_u64,Int.emod_eq_of_lt (by omega) (by omega),chk0,if_neg (by omega)]
  simp only[oB]
  have es:shlW .i64 1 a=(q:Int):=by
   unfold shlW
   rw[show min a.toNat (IntKind.i64).bits=a.toNat by simp only[IntKind.bits];omega,Int.one_mul,ep]
   exact x9 (by omega) (by omega)
  rw[es,x9 (by omega) (by omega),ht,wsN_append,hP]
  refine⟨_,rfl,?_⟩
  simp only[wsN,<- hq]
  omega)
 rw[h1,h2,Int.toNat_natCast,iL]
 rfl
end Ab
end
section
namespace Ab
open Go
/-! ### Lists compared -/
theorem listEq{α:Type}{a b:List α}{body:Int->Unit->Option (Unit⊕Bool)}(hl:a.length=b.length)(hb:∀j x y,ix a j=some x->ix b j=some y->(x=y/\body j ()=some (.inl ()))\/(x ≠ y/\body j ()=some (.inr false))):
  (iu (rngX 0 (a.length:Int) body ()) fun| .inl _=>some true| .inr x=>some x)=some (dec (a=b)):=by
 rcases D5 (body:=body) (n:=(a.length:Int)) (fun j=>if dec (ix a j=ix b j)=true then none else some false) (by omega) (fun j h0 h1 _=>by
  obtain⟨x,hx,_⟩:=k6 (l:=a) h0 h1
  obtain⟨y,hy,_⟩:=k6 (l:=b) (i:=j) h0 (by omega)
  rcases hb j x y hx hy with⟨e,h⟩|⟨e,h⟩
  ·rw[h,ifP (by rw[hx,hy,e])]
  ·rw[h,ifN (by rw[hx,hy];simpa using e)]) with⟨h1,h2⟩|⟨j,o,h0,h1,h2,_,h4⟩
 ·rw[h1,o8]
  ·rfl
  ·refine List.ext_getElem? fun k=> ?_
   by_cases hk:k<a.length
   ·have:=h2 k (by omega) (by omega)
    split at this
    ·rename_i e
     have:=n8.1 e
     rwa [J2,J2] at this
    ·cases this
   ·rw[iR (by omega),iR (by omega)]
 ·rw[h4]
  split at h2
  ·cases h2
  ·rename_i e
   cases h2
   rw[z2 (fun h=>e (o8 (by rw[h])))];rfl
theorem ints_eq(a b:Li):P0 a b=some (dec (a=b)):=by
 unfold P0
 by_cases hl:(a.length:Int)=b.length
 ·rw[if_pos hl]
  refine listEq (by omega) fun j x y hx hy=> ?_
  unfold au9
  simp only[hx,hy,oB]
  by_cases e:x=y
  ·rw[if_pos e];exact .inl ⟨e,rfl⟩
  ·rw[if_neg e];exact .inr ⟨e,rfl⟩
 ·rw[if_neg hl,z2 (fun h=>hl (by rw[h]))]
theorem equal_eq(a b:Li):B3 a b=some (dec (a=b)):=by
 unfold B3
 by_cases hl:(a.length:Int)=b.length
 ·rw[if_pos hl]
  refine listEq (by omega) fun j x y hx hy=> ?_
  unfold R2
  simp only[hx,hy,oB]
  by_cases e:x=y
  ·rw[if_pos e];exact .inl ⟨e,rfl⟩
  ·rw[if_neg e];exact .inr ⟨e,rfl⟩
 ·rw[if_neg hl,z2 (fun h=>hl (by rw[h]))]
theorem place_eq(l:LL)(s:Li):∃r,aA8 l s=some r/\((r= -1/\s ∉ l)\/(0<=r/\r<l.length/\ix l r=some s/\∀j,0<=j->j<r->ix l j ≠ some s)):=by
 unfold aA8
 rcases D5 (body:=aq1 l s) (n:=(l.length:Int)) (fun j=>if dec (ix l j=some s)=true then some j else none) (by omega) (fun j h0 h1 _=>by
  obtain⟨x,hx,_⟩:=k6 (l:=l) h0 h1
  unfold aq1
  simp only[hx,oB,ints_eq]
  by_cases e:x=s
  ·rw[ifP e,ifP (by rw[e])]
  ·rw[ifN e,ifN (by simpa using e)]) with⟨h1,h2⟩|⟨j,o,h0,h1,h2,h3,h4⟩
 ·rw[h1]
  refine⟨-1,rfl,.inl ⟨rfl,fun hs=> ?_⟩⟩
  obtain⟨i,i0,i1,hi⟩:=s6 hs
  have:=h2 i i0 i1
  rw[ifP hi] at this
  cases this
 ·rw[h4]
  split at h2
  ·rename_i e
   cases h2
   refine⟨_,rfl,.inr ⟨h0,h1,n8.1 e,fun i i0 i1=> ?_⟩⟩
   have:=h3 i i0 i1
   split at this
   ·cases this
   ·rename_i e
    exact fun h=>e (o8 h)
  ·cases h2
/-! ### Ordered lists -/
abbrev Ord(l:LL):Prop:=l.Pairwise llt
theorem Ord.ext:∀{l m:LL},Ord l->Ord m->(∀x,x ∈ l↔x ∈ m)->l=m
 |[],[],_,_,_=>rfl
 |[],b::m,_,_,h=>absurd ((h b).2 (by simp)) (by simp)
 |a::l,[],_,_,h=>absurd ((h a).1 (by simp)) (by simp)
 |a::l,b::m,hl,hm,h=>by
  obtain⟨l1,l2⟩:=iA.1 hl
  obtain⟨m1,m2⟩:=iA.1 hm
  have hab:a=b:=by
   rcases iE.1 ((h a).1 (by simp)) with e|e
   ·exact e
   ·rcases iE.1 ((h b).2 (by simp)) with e'|e'
    ·exact e'.symm
    ·exact(aw0 (l1 b e') (m1 a e)).elim
  subst hab
  rw[Ord.ext l2 m2 fun x=>⟨fun hx=> ?_,fun hx=> ?_⟩]
  ·rcases iE.1 ((h x).1 (by simp[hx])) with e|e
   ·subst e;exact absurd (l1 x hx) (K3 x)
   ·exact e
  ·rcases iE.1 ((h x).2 (by simp[hx])) with e|e
   ·subst e;exact absurd (m1 x hx) (K3 x)
   ·exact e
theorem Ord.get{l:LL}(h:Ord l){i j:Int}{a b:Li}(hi:ix l i=some a)(hj:ix l j=some b)(hij:i<j):llt a b:=by
 obtain⟨i0,i1,hi⟩:=n7 hi
 obtain⟨j0,j1,hj⟩:=n7 hj
 obtain⟨h1,rfl⟩:=lG.1 hi
 obtain⟨h2,rfl⟩:=lG.1 hj
 exact iJ.1 h _ _ h1 h2 (by omega)
theorem Ord.inj{l:LL}(h:Ord l){i j:Int}{a:Li}(hi:ix l i=some a)(hj:ix l j=some a):i=j:=by
 rcases iK i j with e|e|e
 ·exact absurd (h.get hi hj e) (K3 a)
 ·exact e
 ·exact absurd (h.get hj hi e) (K3 a)
def ddN(l:LL):Nat->LL
 |0=>[]
 |m+1=>ddN l m++if decide (m=0\/l[m]? ≠ l[m - 1]?)=true then l[m]?.toList else []
theorem ddN_spec{l:LL}(hs:l.Pairwise fun a b=>¬ llt b a):∀m,m<=l.length->Ord (ddN l m)/\∀x,x ∈ ddN l m↔x ∈ l.take m:=by
 intro m
 induction m with
 |zero=>intro _;simp[ddN]
 |succ m ih=>
  intro hm
  obtain⟨h1,h2⟩:=ih (by omega)
  have hlt:m<l.length:=by omega
  have ht:l.take (m+1)=l.take m++[l[m]]:=by rw[iy];simp[hlt]
  rw[ddN,ht]
  by_cases hk:m=0\/l[m]? ≠ l[m - 1]?
  ·rw[if_pos (by simpa using hk)]
   simp only[iw hlt,Option.toList_some]
   refine⟨iV.2 ⟨h1,by simp,fun a ha b hb=> ?_⟩,fun x=>by rw[iB,iB,h2]⟩
   simp only[iF] at hb
   subst hb
   have ha':=(h2 a).1 ha
   obtain⟨i,hi,rfl⟩:=List.mem_iff_getElem.1 ha'
   rw[iO] at hi
   rw[List.getElem_take]
   rcases hk with hk|hk
   ·omega
   ·have hm1:m - 1<l.length:=by omega
    rw[iw hlt,iw hm1] at hk
    have e1:¬ llt l[m] l[m - 1]:=iJ.1 hs (m - 1) m hm1 hlt (by omega)
    have e2:llt l[m - 1] l[m]:=by
     rcases O7 l[m - 1] l[m] with h|h|h
     ·exact h
     ·exact absurd (by rw[h]) hk
     ·exact absurd h e1
    by_cases hi2:i=m - 1
    ·subst hi2;exact e2
    ·have e3:¬ llt l[m - 1] l[i]:=iJ.1 hs i (m - 1) (by omega) hm1 (by omega)
     rcases O7 l[i] l[m] with h|h|h
     ·exact h
     ·rw[h] at e3;exact absurd e2 e3
     ·exact absurd (G0 e2 h) e3
  ·rw[if_neg (by simpa using hk),iP]
   refine⟨h1,fun x=> ?_⟩
   rw[h2,iB]
   refine⟨.inl,fun h=> ?_⟩
   rcases h with h|h
   ·exact h
   ·simp only[iF] at h
    subst h
    have hm0:m ≠ 0:=fun e=>hk (.inl e)
    have he:l[m]? =l[m - 1]? :=iW.1 fun e=>hk (.inr e)
    rw[iw hlt,iw (show m - 1<l.length by omega)] at he
    rw[Option.some.inj he,iN]
    exact⟨m - 1,by omega,rfl⟩
theorem ddN_len(l:LL):∀m,(ddN l m).length<=m
 |0=>by simp[ddN]
 |m+1=>by
  have:=ddN_len l m
  rw[ddN,List.length_append]
  split
  ·have:(l[m]?.toList).length<=1:=by cases l[m]? <;>simp
   omega
  ·simp;omega
theorem ddN_all{l:LL}:∀m,m<=l.length->(∀i,0<i->i<m->l[i]? ≠ l[i - 1]?)->ddN l m=l.take m
 |0,_,_=>by simp[ddN]
 |m+1,hm,h=>by
  rw[ddN,ddN_all m (by omega) fun i h0 h1=>h i h0 (by omega),if_pos,iy]
  rw[decide_eq_true_eq]
  by_cases e:m=0
  ·exact .inl e
  ·exact .inr (h m (by omega) (by omega))
theorem compactF_eq{l:LL}(hl:l.length<=1000000):A4 l=some (ddN l l.length):=by
 unfold A4
 by_cases c0:(l.length:Int)<2
 ·rw[if_pos c0,ddN_all l.length (iQ _) fun i h0 h1=>by omega,iL]
 ·rw[if_neg c0]
  have key:=rngN_inv (body:=u9 l) (fun j _=>∀i:Nat,0<i->(i:Int)<j->l[i]? ≠ l[i - 1]?) (fun o=>o=ddN l l.length) ((l.length:Int) - 1).toNat 1 () (fun i h0 h1=>by omega) (fun j _ j0 j1 hP=>by
   obtain⟨a,ha,ga⟩:=k6 (l:=l) (i:=j) (by omega) (by omega)
   obtain⟨b,hb,gb⟩:=k6 (l:=l) (i:=j - 1) (by omega) (by omega)
   unfold u9
   simp only[ha,hb,oB,equal_eq]
   have ej:(j - 1).toNat=j.toNat - 1:=by omega
   rw[ej] at gb
   by_cases c:a=b
   ·rw[ifP c]
    subst c
    right
    rw[show cutV (l.length:Int) j (l.length:Int)=some () by rw[cutV,if_pos (by omega)]]
    simp only[oB]
    obtain⟨⟨cs,kv⟩,r1,r2,r3,r4,r5,r6⟩:=forN_inv (body:=y4 l j) (fun k2 p=>p.1.length=l.length/\j<=p.2/\p.2<=j+k2 - 1/\p.1.take p.2.toNat=ddN l (j+k2).toNat/\∀i:Nat,j+k2 - 1<=i->p.1[i]? =l[i]?) ((l.length:Int) - j - 1).toNat 1 (l,j) ⟨rfl,by simp,by dsimp only;omega,by
      dsimp only
      rw[show(j+1).toNat=j.toNat+1 by omega,ddN,if_neg,iP,ddN_all j.toNat (by omega) fun i h0 h1=>hP i h0 (by omega)]
      rw[decide_eq_true_eq]
      rintro (h|h)
      ·omega
      ·exact h (ga.trans gb.symm),fun i _=>rfl⟩ (fun k2 ⟨cs,kv⟩ k0 k1 ⟨g1,g2,g3,g4,g5⟩=>by
      dsimp only at g1 g2 g3 g4 g5 ⊢
      obtain⟨x,hx,gx⟩:=k6 (l:=l) (i:=j+k2) (by omega) (by omega)
      obtain⟨y,hy,gy⟩:=k6 (l:=l) (i:=j+k2 - 1) (by omega) (by omega)
      have iv:∀i:Int,0<=i->i<(l.length:Int) - j->ixV cs (0+j) ((l.length:Int) - j) i=ix cs (j+i):=fun i h0 h1=>by
       rw[ixV,if_pos (by omega),Int.zero_add]
      have same:∀i:Int,j+k2 - 1<=i->ix cs i=ix l i:=fun i hi=>by
       have:=g5 i.toNat (by omega)
       simp only[ix]
       rw[this]
      unfold y4
      dsimp only
      rw[iv k2 (by omega) (by omega),iv (k2 - 1) (by omega) (by omega),show j+(k2 - 1)=j+k2 - 1 by omega,same _ (by omega),same _ (by omega),hx,hy]
      simp only[oB,equal_eq,v6]
      have ek:(j+(k2+1)).toNat=(j+k2).toNat+1:=by omega
      have ek1:(j+k2 - 1).toNat=(j+k2).toNat - 1:=by omega
      rw[ek1] at gy
      by_cases cx:x=y
      ·rw[ifNN cx]
       refine⟨_,rfl,g1,g2,by omega,?_,fun i hi=>g5 i (by omega)⟩
       dsimp only
       rw[ek,ddN,if_neg,iP]
       ·exact g4
       ·rw[decide_eq_true_eq]
        rintro (h|h)
        ·omega
        ·exact h (by rw[gx,gy,cx])
      ·rw[ifP cx]
       obtain⟨z,hz,gz⟩:=k6 (l:=cs) (i:=kv) (by omega) (by omega)
       simp only[hz,oB]
       rw[x9 (by omega) (by omega)]
       refine⟨_,rfl,by rw[lS];exact g1,by omega,by omega,?_,fun i hi=> ?_⟩
       ·dsimp only
        rw[ek,ddN,if_pos,gx,show(kv+1).toNat=kv.toNat+1 by omega,iy,iX,if_pos rfl,if_pos (by omega),List.take_set_of_le (iQ _),g4]
        rw[decide_eq_true_eq]
        exact .inr (by rw[gx,gy];simpa using cx)
       ·dsimp only
        rw[iX,if_neg (by omega)]
        exact g5 i (by omega))
    have ef:forR 1 ((l.length:Int) - j) (y4 l j) (l,j)=some (cs,kv):=r1
    dsimp only at r2 r3 r4 r5 r6
    rw[ef]
    simp only[oB]
    have hcl:(clrL cs (0+kv) ((cs.length:Int) - kv) []).length=cs.length:=by simp[clrL];omega
    rw[show cutV (cs.length:Int) kv (cs.length:Int)=some () by rw[cutV,if_pos (by omega)]]
    simp only[oB,hcl]
    rw[show cutV (cs.length:Int) 0 kv=some () by rw[cutV,if_pos (by omega)]]
    refine⟨_,rfl,?_⟩
    have e1:w5 (clrL cs (0+kv) ((cs.length:Int) - kv) []) 0 kv=cs.take kv.toNat:=by
     simp only[w5,clrL,Int.zero_add,Int.toNat_zero,List.drop_zero]
     rw[List.append_assoc,List.take_append_of_le_length (by simp;omega),List.take_take,Nat.min_self]
    rw[e1,r5]
    congr 1
    omega
   ·rw[ifN c]
    left
    refine⟨(),rfl,fun i h0 h1=> ?_⟩
    by_cases e:(i:Int)=j
    ·have:i=j.toNat:=by omega
     subst this
     rw[ga,gb]
     simpa using c
    ·exact hP i h0 (by omega))
  rcases key with⟨_,h1,h2⟩|⟨o,h1,rfl⟩
  ·have:rngX 1 (l.length:Int) (u9 l) ()=some (.inl ()):=h1
   rw[this]
   simp only[oB]
   rw[ddN_all l.length (iQ _) fun i h0 h1=>h2 i h0 (by omega),iL]
  ·have:rngX 1 (l.length:Int) (u9 l) ()=some (.inr (ddN l l.length)):=h1
   rw[this];rfl
theorem ap6{l:LL}(hl:l.length<=1000000):∃r,C7 l=some r/\Ord r/\(∀x,x ∈ r↔x ∈ l)/\r.length<=l.length:=by
 unfold C7
 rw[sortLL_ms (by omega)]
 simp only[oB]
 have hlen:(l.mergeSort fun x y=>decide (¬ cmpL y x<0)).length=l.length:=by simp
 rw[compactF_eq (by rw[hlen];exact hl)]
 have hs:(l.mergeSort fun x y=>decide (¬ cmpL y x<0)).Pairwise fun a b=>¬ llt b a:=by
  have:=List.pairwise_mergeSort (le:=fun x y:Li=>decide (¬ cmpL y x<0)) (fun a b c h1 h2=>by
   simp only[decide_eq_true_eq,M1] at h1 h2 ⊢
   intro h
   rcases O7 b a with g|g|g
   ·exact h1 g
   ·subst g;exact h2 h
   ·exact h2 (G0 h g)) (fun a b=>by
   simp only[iC,decide_eq_true_eq,M1]
   by_cases h:llt b a
   ·exact .inr fun g=>aw0 h g
   ·exact .inl h) l
  exact this.imp fun h=>by simpa[M1] using h
 obtain⟨h1,h2⟩:=ddN_spec hs _ (iQ _)
 refine⟨_,rfl,h1,fun x=> ?_,?_⟩
 ·rw[h2,iL];simp
 ·have:=ddN_len (l.mergeSort fun x y=>decide (¬ cmpL y x<0)) (l.mergeSort fun x y=>decide (¬ cmpL y x<0)).length
  rw[hlen] at this
  rw[hlen];exact this
end Ab
end
section
namespace Ab
open Go
theorem forN_congr{S:Type}{b1 b2:Int->S->Option S}:∀(k:Nat) (i:Int) (s:S),(∀j s,i<=j->j<i+k->b1 j s=b2 j s)->forN b1 k i s=forN b2 k i s
 |0,_,_,_=>rfl
 |k+1,i,s,h=>by
  simp only[forN]
  rw[h i s (by omega) (by omega)]
  cases b2 i s with
  |none=>rfl
  |some s'=>exact forN_congr k (i+1) s' fun j s g1 g2=>h j s (by omega) (by omega)
theorem forR_congr{S:Type}{b1 b2:Int->S->Option S}{lo n:Int}{s:S}(h:∀j s,lo<=j->j<n->b1 j s=b2 j s):forR lo n b1 s=forR lo n b2 s:=
 forN_congr _ _ _ fun j s g1 g2=>h j s g1 (by omega)
/-! ### Binary search by a key -/
def bsl{A B:Type}(xv:List A)(target:B)(cmp:A->B->Option Int):(Int×Int)->Option ((Int×Int)⊕Int):=fun(iv4,j5)=>if iv4<j5 then iu (ix xv (w64 (shrW .u64 ((IntKind.u64).wrap (w64 (iv4+j5))) 1))) fun a27=>iu (cmp a27 target) fun a30=>if a30<0 then some (.inl (w64 ((w64 (shrW .u64 ((IntKind.u64).wrap (w64 (iv4+j5))) 1))+1),j5)) else some (.inl (iv4,w64 (shrW .u64 ((IntKind.u64).wrap (w64 (iv4+j5))) 1))) else some (.inr iv4)
noncomputable def bsf{A B:Type}(xv:List A)(target:B)(cmp:A->B->Option Int):Option (Int×Bool):=iu (Loop (bsl xv target cmp) (0,(xv.length:Int))) fun iv6=>iu (if iv6<(xv.length:Int) then iu (ix xv iv6) fun a43=>iu (cmp a43 target) fun a46=>some (decide (a46=0)) else some false) fun t9=>some (iv6,t9)
theorem ar8{A:Type}{key:A->Li}{xs:List A}(h:Ord (xs.map key)){i j:Int}{a b:A}(hi:ix xs i=some a)(hj:ix xs j=some b)(hij:i<j):llt (key a) (key b):=by
 obtain⟨i0,i1,hi⟩:=n7 hi
 obtain⟨j0,j1,hj⟩:=n7 hj
 refine h.get (i:=i) (j:=j) ?_ ?_ hij
 ·rw[ix,if_pos i0,lM,hi];rfl
 ·rw[ix,if_pos j0,lM,hj];rfl
theorem bsf_full{A:Type}{key:A->Li}{xs:List A}{t:Li}{cmp:A->Li->Option Int}(hs:Ord (xs.map key))(hl:xs.length<=500000)(hc:∀a,cmp a t=some (cmpL (key a) t)):
  ∃i,bsf xs t cmp=some (i,dec (∃a ∈ xs,key a=t))/\0<=i/\(∀k a,ix xs k=some a->key a=t->k=i)/\i<=xs.length/\(∀k a,0<=k->k<i->ix xs k=some a->llt (key a) t)/\(∀k a,i<=k->ix xs k=some a->¬ llt (key a) t):=by
 unfold bsf
 obtain⟨i,h1,h2,h3,h4,h5⟩:=M7 (body:=bsl xs t cmp) (fun p=>(0<=p.1/\p.1<=p.2/\p.2<=xs.length)/\(∀k a,0<=k->k<p.1->ix xs k=some a->llt (key a) t)/\(∀k a,p.2<=k->ix xs k=some a->¬ llt (key a) t))
  (fun i=>0<=i/\i<=xs.length/\(∀k a,0<=k->k<i->ix xs k=some a->llt (key a) t)/\(∀k a,i<=k->ix xs k=some a->¬ llt (key a) t)) (fun p=>(p.2 - p.1).toNat) (s:=(0,(xs.length:Int)))
  ⟨⟨by simp,by simp,by simp⟩,fun k a h1 h2=>by simp at h2;omega,fun k a h1 h2=>by have:=(n7 h2).2.1;simp at h1;omega⟩ (fun⟨i,j⟩ ⟨⟨g1,g2,g3⟩,g4,g5⟩=>by
  dsimp only at g1 g2 g3 g4 g5 ⊢
  unfold bsl
  dsimp only
  by_cases c:i<j
  ·rw[if_pos c,half_eq g1 g2 (by omega)]
   obtain⟨a,ha,ga⟩:=k6 (l:=xs) (i:=(i+j) / 2) (by omega) (by omega)
   rw[ha]
   simp only[oB,hc,M1]
   by_cases c2:llt (key a) t
   ·rw[if_pos (M1.2 c2),x9 (by omega) (by omega)]
    refine .inl ⟨_,rfl,⟨⟨by dsimp only;omega,by dsimp only;omega,g3⟩,fun k b k0 k1 hb=> ?_,g5⟩,by dsimp only;omega⟩
    dsimp only at k1
    by_cases e:k=(i+j) / 2
    ·subst e;rw[ha] at hb;cases hb;exact c2
    ·exact G0 (ar8 hs hb ha (by omega)) c2
   ·rw[if_neg (fun h=>c2 (M1.1 h))]
    refine .inl ⟨_,rfl,⟨⟨g1,by dsimp only;omega,by dsimp only;omega⟩,g4,fun k b k0 hb=> ?_⟩,by dsimp only;omega⟩
    dsimp only at k0
    by_cases e:k=(i+j) / 2
    ·subst e;rw[ha] at hb;cases hb;exact c2
    ·exact fun h=>c2 (G0 (ar8 hs ha hb (by omega)) h)
  ·rw[if_neg c]
   have:i=j:=by omega
   subst this
   exact .inr ⟨i,rfl,g1,g3,g4,g5⟩)
 rw[h1]
 simp only[oB]
 have uniq:∀k a,ix xs k=some a->key a=t->k=i:=fun k a hk he=>by
  rcases iK k i with c|c|c
  ·have:=h4 k a (n7 hk).1 c hk;rw[he] at this;exact absurd this (K3 t)
  ·exact c
  ·obtain⟨b,hb,gb⟩:=k6 (l:=xs) (i:=i) h2 (by have:=(n7 hk).2.1;omega)
   have:=ar8 hs hb hk c
   rw[he] at this
   exact absurd this (h5 i b (Int.le_refl _) hb)
 refine⟨i,?_,h2,uniq,h3,h4,h5⟩
 by_cases c:i<xs.length
 ·obtain⟨a,ha,ga⟩:=k6 (l:=xs) (i:=i) (by omega) c
  rw[if_pos c,ha]
  simp only[oB,hc]
  by_cases c2:key a=t
  ·rw[decide_eq_true (cmpL_eq.2 c2),o8 ⟨a,m9 ha,c2⟩]
  ·rw[decide_eq_false (fun h=>c2 (cmpL_eq.1 h)),z2]
   rintro ⟨b,hb,e⟩
   obtain⟨k,k0,k1,hk⟩:=s6 hb
   have:=uniq k b hk e
   subst this
   rw[hk] at ha;cases ha;exact c2 e
 ·rw[if_neg c]
  simp only[oB]
  rw[z2]
  rintro ⟨b,hb,e⟩
  obtain⟨k,k0,k1,hk⟩:=s6 hb
  have:=uniq k b hk e
  omega
theorem bsf_eq{A:Type}{key:A->Li}{xs:List A}{t:Li}{cmp:A->Li->Option Int}(hs:Ord (xs.map key))(hl:xs.length<=500000)(hc:∀a,cmp a t=some (cmpL (key a) t)):
  ∃i,bsf xs t cmp=some (i,dec (∃a ∈ xs,key a=t))/\0<=i/\∀k a,ix xs k=some a->key a=t->k=i:=by
 obtain⟨i,h1,h2,h3,_⟩:=bsf_full hs hl hc
 exact⟨i,h1,h2,h3⟩
theorem bsets_eq{xs:LL}{t:Li}(hs:Ord xs)(hl:xs.length<=500000):∃i,s9 xs t slices_Compare_int_int=some (i,dec (t ∈ xs))/\0<=i/\∀k,ix xs k=some t->k=i:=by
 obtain⟨i,h1,h2,h3⟩:=bsf_eq (key:=fun a=>a) (xs:=xs) (t:=t) (cmp:=slices_Compare_int_int) (by simpa using hs) hl (fun a=>al5 a t)
 refine⟨i,?_,h2,fun k hk=>h3 k t hk rfl⟩
 have:s9 xs t slices_Compare_int_int=bsf xs t slices_Compare_int_int:=rfl
 rw[this,h1]
 simp
/-! ### The order that the specification tells -/
theorem before_eq{a b:Li}(ha:a.length<=1000000):af3 a b=some (dec (llt a b)):=by
 unfold af3
 obtain⟨o,h1,h2⟩:=M7 (body:=an6 a b) (fun k=>0<=k/\k<=a.length/\k<=b.length/\a.take k.toNat=b.take k.toNat) (fun o=>(match o with| .inl _=>some (decide ((a.length:Int)<(b.length:Int)))| .inr x=>some x)=some (dec (llt a b))) (fun k=>(a.length - k).toNat) (s:=0) ⟨by omega,by omega,by omega,by simp⟩ (fun k ⟨g0,g1,g2,g3⟩=>by
  have hd:=aA5 (a:=a) (b:=b) k.toNat (by omega) (by omega) g3
  unfold an6
  by_cases c:k<a.length/\k<b.length
  ·rw[if_pos (by simpa using c)]
   obtain⟨x,hx,gx⟩:=k6 (l:=a) g0 c.1
   obtain⟨y,hy,gy⟩:=k6 (l:=b) g0 c.2
   have da:a.drop k.toNat=x::a.drop (k.toNat+1):=by
    obtain⟨hlt,rfl⟩:=lG.1 gx
    exact iD hlt
   have db:b.drop k.toNat=y::b.drop (k.toNat+1):=by
    obtain⟨hlt,rfl⟩:=lG.1 gy
    exact iD hlt
   rw[da,db] at hd
   simp only[hx,hy,oB]
   by_cases e:x=y
   ·subst e
    rw[if_pos rfl,x9 (by omega) (by omega)]
    refine .inl ⟨k+1,rfl,⟨by omega,by omega,by omega,?_⟩,by omega⟩
    rw[show(k+1).toNat=k.toNat+1 by omega,iy,iy,gx,gy,g3]
   ·rw[if_neg e]
    refine .inr ⟨_,rfl,?_⟩
    dsimp only
    rw[W9]
    refine congrArg some (C1 ?_)
    rw[hd]
    exact⟨fun h=>.inl h,fun h=>h.resolve_right fun g=>e g.1⟩
  ·rw[if_neg (by simpa using c)]
   refine .inr ⟨_,rfl,?_⟩
   dsimp only
   rw[W9]
   refine congrArg some (C1 ?_)
   rw[hd]
   by_cases ca:k<a.length
   ·have db:b.drop k.toNat=[]:=iG (by omega)
    rw[db]
    constructor
    ·intro h;omega
    ·intro h;cases h':a.drop k.toNat with
     |nil=>rw[h'] at h;exact h.elim
     |cons z l=>rw[h'] at h;exact h.elim
   ·have da:a.drop k.toNat=[]:=iG (by omega)
    rw[da]
    constructor
    ·intro h
     cases h':b.drop k.toNat with
     |nil=>have:=List.drop_eq_nil_iff.1 h';omega
     |cons z l=>trivial
    ·intro h
     cases h':b.drop k.toNat with
     |nil=>rw[h'] at h;exact h.elim
     |cons z l=>
      have:¬ b.length<=k.toNat:=fun g=>by rw[iG g] at h';cases h'
      omega)
 rw[h1]
 simp only[oB]
 exact h2
theorem ord_append{l m:LL}(hl:Ord l)(hm:Ord m)(h:∀a ∈ l,∀b ∈ m,llt a b):Ord (l++m):=iV.2 ⟨hl,hm,h⟩
theorem insert_eq{l:LL}(h:Ord l)(hl:l.length<=1000000)(hw:∀x ∈ l,x.length<=1000000)(s:Li):∃r,ao0 l s=some r/\Ord r/\(∀x,x ∈ r↔x=s\/x ∈ l)/\r.length<=l.length+1:=by
 unfold ao0
 obtain⟨k,h1,k0,k1,k2,k3⟩:=M7 (body:=am8 l s) (fun k=>0<=k/\k<=l.length/\∀i a,i<k->ix l i=some a->llt a s) (fun k=>0<=k/\k<=l.length/\(∀i a,i<k->ix l i=some a->llt a s)/\∀a,ix l k=some a->¬ llt a s) (fun k=>(l.length - k).toNat) (s:=0) ⟨by omega,by omega,fun i a hi ha=>by have:=(n7 ha).1;omega⟩ (fun k ⟨g0,g1,g2⟩=>by
  unfold am8
  by_cases c:k<l.length
  ·obtain⟨a,ha,ga⟩:=k6 (l:=l) g0 c
   rw[if_pos c,ha]
   simp only[oB,before_eq (hw a (m9 ha))]
   by_cases c2:llt a s
   ·rw[ifP c2,x9 (by omega) (by omega)]
    refine .inl ⟨_,rfl,⟨by omega,by omega,fun i b hi hb=> ?_⟩,by omega⟩
    by_cases e:i=k
    ·subst e;rw[ha] at hb;cases hb;exact c2
    ·exact g2 i b (by omega) hb
   ·rw[ifN c2]
    exact .inr ⟨k,rfl,g0,g1,g2,fun b hb=>by rw[ha] at hb;cases hb;exact c2⟩
  ·rw[if_neg c]
   exact .inr ⟨k,rfl,g0,g1,g2,fun b hb=>by have:=(n7 hb).2.1;omega⟩)
 rw[h1]
 simp only[oB]
 have step:(iu (if k<(l.length:Int) then iu (ix l k) fun a27=>iu (P0 a27 s) fun a30=>some a30 else some false) fun t9=>if t9=true then some l else iu (subL l 0 k) fun a36=>iu (app 24 ([]:LL) a36) fun a37=>iu (app 24 a37 [s]) fun a40=>iu (subL l k (l.length:Int)) fun a43=>iu (app 24 a40 a43) fun a44=>some a44)=if dec (ix l k=some s)=true then some l else some (l.take k.toNat++[s]++l.drop k.toNat):=by
  have e:(if k<(l.length:Int) then iu (ix l k) fun a27=>iu (P0 a27 s) fun a30=>some a30 else some false)=some (dec (ix l k=some s)):=by
   by_cases c:k<l.length
   ·obtain⟨a,ha,ga⟩:=k6 (l:=l) k0 c
    rw[if_pos c,ha]
    simp only[oB,ints_eq]
    exact congrArg some (C1 (by simp))
   ·rw[if_neg c,z2]
    intro h;have:=(n7 h).2.1;omega
  rw[e]
  simp only[oB]
  by_cases c:ix l k=some s
  ·rw[ifP c,ifP c]
  ·rw[ifN c,ifN c,subL_take k0 (by omega),subL_drop k0 (by omega)]
   simp only[oB]
   rw[app,if_pos (by simp;omega)]
   simp only[oB,List.nil_append]
   rw[app,if_pos (by simp;omega)]
   simp only[oB]
   rw[app,if_pos (by simp;omega)]
   rfl
 rw[step]
 by_cases c:ix l k=some s
 ·rw[ifP c]
  exact⟨l,rfl,h,fun x=>⟨.inr,fun g=>g.elim (fun e=>e ▸ m9 c) id⟩,by omega⟩
 ·rw[ifN c]
  refine⟨_,rfl,?_,fun x=> ?_,by simp;omega⟩
  ·have ht:Ord (l.take k.toNat):=h.sublist (List.take_sublist _ _)
   have hd:Ord (l.drop k.toNat):=h.sublist (List.drop_sublist _ _)
   have b1:∀a ∈ l.take k.toNat,llt a s:=fun a ha=>by
    obtain⟨i,hi,e⟩:=iN.1 ha
    exact k2 (i:Int) a (by omega) (by rw[J2,<- e];exact iw _)
   have b2:∀a ∈ l.drop k.toNat,llt s a:=fun a ha=>by
    obtain⟨i,hi,e⟩:=List.mem_drop_iff_getElem.1 ha
    have hlk:k<l.length:=by omega
    obtain⟨z,hz,gz⟩:=k6 (l:=l) k0 hlk
    have nz:=k3 z hz
    have nz2:llt s z:=by
     rcases O7 z s with g|g|g
     ·exact absurd g nz
     ·exact absurd (g ▸ hz) c
     ·exact g
    by_cases i0:i=0
    ·subst i0
     obtain⟨q1,q2⟩:=lG.1 gz
     have:a=z:=by rw[<- e,<- q2];simp
     rw[this];exact nz2
    ·refine G0 nz2 (h.get hz (j:=k+i) ?_ (by omega))
     rw[show k+(i:Int)=((k.toNat+i:Nat):Int) by omega,J2,<- e]
     exact iw _
   refine ord_append (ord_append ht (by simp) fun a ha b hb=> ?_) hd fun a ha b hb=> ?_
   ·simp only[iF] at hb;subst hb;exact b1 a ha
   ·rcases iB.1 ha with ha|ha
    ·exact G0 (b1 a ha) (b2 b hb)
    ·simp only[iF] at ha;subst ha;exact b2 b hb
  ·rw[iB,iB,iF]
   have:=List.take_append_drop k.toNat l
   constructor
   ·rintro ((g|g)|g)
    ·exact .inr (iU g)
    ·exact .inl g
    ·exact .inr (List.mem_of_mem_drop g)
   ·rintro (g|g)
    ·exact .inl (.inr g)
    ·rw[<- this] at g
     rcases iB.1 g with g|g
     ·exact .inl (.inl g)
     ·exact .inr g
end Ab
end
section
namespace Ab
open Go
def Y9(x:w8)(n:Int):Prop:=SetN x.add n/\SetN x.del n/\∀a ∈ x.add,a ∉ x.del
def xWt(x:w8):Prop:=1<=x.weight/\x.weight<=6
noncomputable def aa3(n:Int)(x:w8):Int:=if dec (Y9 x n)=true then if dec (xWt x)=true then 0 else 3 else 5
noncomputable def N2(n:Int):List w8->Int
 |[]=>0
 |x::l=>if aa3 n x=0 then N2 n l else aa3 n x
theorem xCode_zero{n:Int}{x:w8}:aa3 n x=0↔Y9 x n/\xWt x:=by
 unfold aa3
 by_cases c1:Y9 x n
 ·rw[ifP c1]
  by_cases c2:xWt x
  ·rw[ifP c2];exact⟨fun _=>⟨c1,c2⟩,fun _=>rfl⟩
  ·rw[ifN c2];exact⟨fun h=>by omega,fun h=>absurd h.2 c2⟩
 ·rw[ifN c1];exact⟨fun h=>by omega,fun h=>absurd h.1 c1⟩
theorem ax8{n:Int}:∀{l:List w8},N2 n l=0↔∀x ∈ l,Y9 x n/\xWt x
 |[]=>by simp[N2]
 |x::l=>by
  rw[N2]
  by_cases c:aa3 n x=0
  ·rw[if_pos c,ax8];simp[xCode_zero.1 c]
  ·rw[if_neg c]
   exact⟨fun h=>absurd h c,fun h=>absurd (xCode_zero.2 (h x (by simp))) c⟩
structure OOk(o:m5)(n:Int):Prop where
 pre:SetN o.pre n
 c0:0<=o.cost
 c1:o.cost<=100
 l0:1<=o.outcomes.length
 l1:o.outcomes.length<=4
 xs:∀x ∈ o.outcomes,Y9 x n/\xWt x
noncomputable def ae1(o:m5)(n:Int):Int:=if dec (SetN o.pre n)=true then if dec (0<=o.cost/\o.cost<=100)=true then if dec (1<=(o.outcomes.length:Int)/\(o.outcomes.length:Int)<=4)=true then 0 else 9 else 3 else 5
noncomputable def W8(o:m5)(n:Int):Int:=if ae1 o n=0 then N2 n o.outcomes else ae1 o n
theorem az7{o:m5}{n:Int}:ae1 o n=0↔SetN o.pre n/\(0<=o.cost/\o.cost<=100)/\(1<=(o.outcomes.length:Int)/\(o.outcomes.length:Int)<=4):=by
 unfold ae1
 by_cases c1:SetN o.pre n
 ·rw[ifP c1]
  by_cases c2:0<=o.cost/\o.cost<=100
  ·rw[ifP c2]
   by_cases c3:1<=(o.outcomes.length:Int)/\(o.outcomes.length:Int)<=4
   ·rw[ifP c3];exact⟨fun _=>⟨c1,c2,c3⟩,fun _=>rfl⟩
   ·rw[ifN c3];exact⟨fun h=>by omega,fun h=>absurd h.2.2 c3⟩
  ·rw[ifN c2];exact⟨fun h=>by omega,fun h=>absurd h.2.1 c2⟩
 ·rw[ifN c1];exact⟨fun h=>by omega,fun h=>absurd h.1 c1⟩
theorem oCode_of{o:m5}{n:Int}(h:OOk o n):W8 o n=0:=by
 have:=h.l0;have:=h.l1
 rw[W8,if_pos (az7.2 ⟨h.pre,⟨h.c0,h.c1⟩,by omega,by omega⟩),ax8]
 exact h.xs
theorem oCode_ok{o:m5}{n:Int}(h:W8 o n=0):OOk o n:=by
 unfold W8 at h
 by_cases c:ae1 o n=0
 ·rw[if_pos c] at h
  obtain⟨g1,g2,g3⟩:=az7.1 c
  exact⟨g1,g2.1,g2.2,by omega,by omega,ax8.1 h⟩
 ·rw[if_neg c] at h;exact absurd h c
theorem oc1{o:m5}{n:Int}(h0:0<=n)(h1:n<=24){j:Int}{x:w8}(hx:ix o.outcomes j=some x):H6 o n j ()=some (if aa3 n x=0 then .inl () else .inr (aa3 n x)):=by
 unfold H6
 rw[hx]
 simp only[oB,ai6,v6]
 by_cases g1:SetN x.add n
 ·rw[ifNN g1]
  by_cases g2:SetN x.del n
  ·have:=g2.len
   rw[ifNN g2,meets_eq g2.1 (by omega)]
   simp only[oB]
   by_cases g3:∀a ∈ x.add,a ∉ x.del
   ·have g:Y9 x n:=⟨g1,g2,g3⟩
    rw[ifN (fun⟨a,ha,hb⟩=>g3 a ha hb)]
    unfold aa3
    rw[ifP g]
    by_cases g4:xWt x
    ·have g5:=g4
     unfold xWt at g5
     rw[ifP g4,if_neg (by simp;omega)];rfl
    ·have g5:=g4
     unfold xWt at g5
     rw[ifN g4,if_pos (by simp;omega)];rfl
   ·have g:¬ Y9 x n:=fun h=>g3 h.2.2
    rw[ifP (by
     rw[Classical.not_forall] at g3
     obtain⟨a,ha⟩:=g3
     exact⟨a,iY.1 ha|>.1,iW.1 (iY.1 ha).2⟩)]
    unfold aa3
    rw[ifN g];rfl
  ·have g:¬ Y9 x n:=fun h=>g2 h.2.1
   rw[ifP g2]
   unfold aa3
   rw[ifN g];rfl
 ·have g:¬ Y9 x n:=fun h=>g1 h.1
  rw[ifP g1]
  unfold aa3
  rw[ifN g];rfl
theorem operatorCode_eq{o:m5}{n:Int}(h0:0<=n)(h1:n<=24):N3 o n=some (W8 o n):=by
 unfold N3
 simp only[ai6,oB,v6]
 unfold W8 ae1
 by_cases c1:SetN o.pre n
 ·rw[ifNN c1,ifP c1]
  by_cases c2:0<=o.cost/\o.cost<=100
  ·rw[if_neg (show ¬ ((decide (o.cost<0))||(decide (100<o.cost)))=true by rw[iC,decide_eq_true_eq,decide_eq_true_eq];omega),ifP c2]
   by_cases c3:1<=(o.outcomes.length:Int)/\(o.outcomes.length:Int)<=4
   ·rw[if_neg (show ¬ ((decide ((o.outcomes.length:Int)=0))||(decide (4<(o.outcomes.length:Int))))=true by rw[iC,decide_eq_true_eq,decide_eq_true_eq];omega),ifP c3,if_pos rfl]
    rcases X3 (body:=H6 o n) (n:=(o.outcomes.length:Int)) (fun j _=>N2 n o.outcomes=N2 n (o.outcomes.drop j.toNat)) (fun c=>c=N2 n o.outcomes) (s:=()) (by omega) (by simp) (fun j _ j0 j1 hP=>by
     obtain⟨x,hx,gx⟩:=k6 (l:=o.outcomes) j0 j1
     have hd:o.outcomes.drop j.toNat=x::o.outcomes.drop (j.toNat+1):=by
      obtain⟨hlt,rfl⟩:=lG.1 gx
      exact iD hlt
     rw[oc1 h0 h1 hx]
     rw[hd,N2] at hP
     by_cases e:aa3 n x=0
     ·rw[if_pos e] at hP ⊢
      exact .inl ⟨(),rfl,by rw[hP,show(j+1).toNat=j.toNat+1 by omega]⟩
     ·rw[if_neg e] at hP ⊢
      exact .inr ⟨_,rfl,hP.symm⟩) with⟨_,r1,r2⟩|⟨c,r1,rfl⟩
    ·rw[r1,r2];simp[N2]
    ·rw[r1];rfl
   ·rw[if_pos (show((decide ((o.outcomes.length:Int)=0))||(decide (4<(o.outcomes.length:Int))))=true by rw[iC,decide_eq_true_eq,decide_eq_true_eq];omega),ifN c3];rfl
  ·rw[if_pos (show((decide (o.cost<0))||(decide (100<o.cost)))=true by rw[iC,decide_eq_true_eq,decide_eq_true_eq];omega),ifN c2];rfl
 ·rw[ifP c1,ifN c1];rfl
theorem of2{t:d5}{o:m5}(h0:0<=t.facts)(h1:t.facts<=24)(hl:o.outcomes.length<=1000000)(c:Int):Loop (F0 t o) (c,0)=some (if c=0 then N2 t.facts o.outcomes else c):=by
 obtain⟨r,r1,r2⟩:=M7 (body:=F0 t o) (fun p=>0<=p.2/\p.2<=o.outcomes.length/\(if c=0 then N2 t.facts o.outcomes else c)=if p.1=0 then N2 t.facts (o.outcomes.drop p.2.toNat) else p.1) (fun r=>r=if c=0 then N2 t.facts o.outcomes else c) (fun p=>(o.outcomes.length - p.2).toNat) (s:=(c,0)) ⟨by simp,by simp,by simp⟩ (fun⟨e,j⟩ ⟨g0,g1,g2⟩=>by
  dsimp only at g0 g1 g2 ⊢
  unfold F0
  dsimp only
  by_cases cj:j<o.outcomes.length/\e=0
  ·rw[if_pos (by simpa using cj)]
   obtain⟨x,hx,gx⟩:=k6 (l:=o.outcomes) g0 cj.1
   have hd:o.outcomes.drop j.toNat=x::o.outcomes.drop (j.toNat+1):=by
    obtain⟨hlt,rfl⟩:=lG.1 gx
    exact iD hlt
   rw[cj.2,if_pos rfl,hd,N2] at g2
   rw[hx]
   simp only[oB,aj6 (n:=t.facts) _ (show -9223372036854775808<t.facts by omega) (show t.facts<=9223372036854775807 by omega),disjoint_eq,in_eq,v6,cj.2]
   have hp:(if dec (¬ SetN x.add t.facts)=true then some true else if dec (¬ SetN x.del t.facts)=true then some true else some (dec (¬ ∀a ∈ x.add,a ∉ x.del)))=some (dec (¬ Y9 x t.facts)):=by
    unfold Y9
    by_cases k1:SetN x.add t.facts
    ·rw[ifNN k1]
     by_cases k2:SetN x.del t.facts
     ·rw[ifNN k2]
      exact congrArg some (C1 ⟨fun h k=>h k.2.2,fun h k=>h ⟨k1,k2,k⟩⟩)
     ·rw[ifP k2,o8 (fun k=>k2 k.2.1)]
    ·rw[ifP k1,o8 (fun k=>k1 k.1)]
   rw[hp]
   simp only[oB]
   rw[x9 (by omega) (by omega)]
   have fin:(if dec (¬ Y9 x t.facts)=true then some (5:Int) else if dec (¬ (1<=x.weight/\x.weight<=6))=true then some 3 else some 0)=some (aa3 t.facts x):=by
    unfold aa3
    by_cases k1:Y9 x t.facts
    ·rw[ifNN k1,ifP k1]
     by_cases k2:xWt x
     ·rw[ifNN (p:=1<=x.weight/\x.weight<=6) k2,ifP k2]
     ·rw[ifP (p:=¬ (1<=x.weight/\x.weight<=6)) k2,ifN k2]
    ·rw[ifP k1,ifN k1]
   rw[fin]
   simp only[oB]
   refine .inl ⟨_,rfl,⟨by dsimp only;omega,by dsimp only;omega,?_⟩,by dsimp only;omega⟩
   dsimp only
   rw[g2,show(j+1).toNat=j.toNat+1 by omega]
  ·rw[if_neg (by simpa using cj)]
   refine .inr ⟨e,rfl,?_⟩
   rw[g2]
   by_cases ce:e=0
   ·rw[if_pos ce,iG (by omega),N2,ce]
   ·rw[if_neg ce])
 rw[r1,r2]
structure m8(t:d5):Prop where
 n0:0<=t.facts
 n1:t.facts<=24
 init:SetN t.init t.facts
 goal:SetN t.goal t.facts
 ops:t.operators.length<=40
 op:∀o ∈ t.operators,OOk o t.facts
theorem V2(t:d5):∃f,D9 t=some f/\an4 t=some f/\((f=⟨0,0⟩/\m8 t)\/(f.code ≠ 0/\¬ m8 t)):=by
 unfold D9 an4
 simp only[in_eq,at_eq,oB,v6]
 by_cases c1:0<=t.facts/\t.facts<=24
 ·rw[if_neg (by simp;omega),ifNN c1]
  simp only[ai6,aj6 (n:=t.facts) _ (show -9223372036854775808<t.facts by omega) (show t.facts<=9223372036854775807 by omega),oB,v6]
  by_cases c2:SetN t.init t.facts
  ·rw[ifNN c2,ifNN c2]
   by_cases c3:SetN t.goal t.facts
   ·rw[ifNN c3,ifNN c3]
    by_cases c4:40<(t.operators.length:Int)
    ·rw[if_pos c4,if_pos c4]
     exact⟨_,rfl,rfl,.inr ⟨by simp,fun h=>by have:=h.ops;omega⟩⟩
    ·rw[if_neg c4,if_neg c4]
     have hb:∀j:Int,0<=j->j<t.operators.length->∃o,ix t.operators j=some o/\Q4 t j ()=some (if W8 o t.facts=0 then .inl () else .inr ⟨W8 o t.facts,j⟩)/\N4 t j ()=some (if W8 o t.facts=0 then .inl () else .inr ⟨W8 o t.facts,j⟩):=fun j h0 h1=>by
      obtain⟨o,ho,_⟩:=k6 (l:=t.operators) h0 h1
      refine⟨o,ho,?_,?_⟩
      ·unfold Q4
       rw[ho]
       simp only[oB,operatorCode_eq c1.1 c1.2]
       by_cases e:W8 o t.facts=0
       ·rw[if_pos e,if_pos e]
       ·rw[if_neg e,if_neg e]
      ·unfold N4
       rw[ho]
       simp only[oB,aj6 (n:=t.facts) _ (show -9223372036854775808<t.facts by omega) (show t.facts<=9223372036854775807 by omega),in_eq,at_eq,v6]
       have hp:(if dec (¬ SetN o.pre t.facts)=true then some (5:Int) else if dec (¬ (0<=o.cost/\o.cost<=100))=true then some 3 else if dec (¬ (1<=(o.outcomes.length:Int)/\(o.outcomes.length:Int)<=4))=true then some 9 else some 0)=some (ae1 o t.facts):=by
        unfold ae1
        by_cases g1:SetN o.pre t.facts
        ·rw[ifNN g1,ifP g1]
         by_cases g2:0<=o.cost/\o.cost<=100
         ·rw[ifNN g2,ifP g2]
          by_cases g3:1<=(o.outcomes.length:Int)/\(o.outcomes.length:Int)<=4
          ·rw[ifNN g3,ifP g3]
          ·rw[ifP g3,ifN g3]
         ·rw[ifP g2,ifN g2]
        ·rw[ifP g1,ifN g1]
       rw[hp]
       simp only[oB]
       by_cases eh:ae1 o t.facts=0
       ·have:=az7.1 eh
        rw[of2 c1.1 c1.2 (by omega),if_pos eh]
        simp only[oB,W8,eh,if_true]
        split<;>rfl
       ·have nl:Loop (F0 t o) (ae1 o t.facts,0)=some (ae1 o t.facts):=by
         rw[ae0]
         have:F0 t o (ae1 o t.facts,0)=some (.inr (ae1 o t.facts)):=by
          unfold F0
          dsimp only
          rw[if_neg (by simp[eh])]
         rw[this]
        rw[nl]
        simp only[oB,W8,if_neg eh]
     have heq:rngX 0 (t.operators.length:Int) (Q4 t) ()=rngX 0 (t.operators.length:Int) (N4 t) ():=
      (rngX_eq (fun _ _=>True) (by omega) trivial (fun j s h0 h1 _=>by
       obtain⟨o,_,e1,e2⟩:=hb j h0 h1
       exact⟨by rw[e1,e2],by rw[e1];simp,fun _ _=>Y⟩)).1
     rcases D5 (body:=N4 t) (n:=(t.operators.length:Int)) (fun j=>match ix t.operators j with|some o=>if W8 o t.facts=0 then none else some (⟨W8 o t.facts,j⟩:g8)|none=>none) (by omega) (fun j h0 h1 _=>by
      obtain⟨o,e0,_,e2⟩:=hb j h0 h1
      rw[e2,e0]
      dsimp only
      split<;>rfl) with⟨h1,h2⟩|⟨j,f,h0,h1,h2,_,h4⟩
     ·rw[heq,h1]
      refine⟨⟨0,0⟩,rfl,rfl,.inl ⟨rfl,c1.1,c1.2,c2,c3,by omega,fun o ho=> ?_⟩⟩
      obtain⟨j,g0,g1,g2⟩:=s6 ho
      have:=h2 j g0 g1
      rw[g2] at this
      dsimp only at this
      split at this
      ·rename_i e;exact oCode_ok e
      ·cases this
     ·rw[heq,h4]
      obtain⟨o,e0,_,_⟩:=hb j h0 h1
      rw[e0] at h2
      dsimp only at h2
      split at h2
      ·cases h2
      ·rename_i e
       cases h2
       exact⟨_,rfl,rfl,.inr ⟨e,fun h=>e (oCode_of (h.op o (m9 e0)))⟩⟩
   ·rw[ifP c3,ifP c3]
    exact⟨_,rfl,rfl,.inr ⟨by simp,fun h=>c3 h.goal⟩⟩
  ·rw[ifP c2,ifP c2]
   exact⟨_,rfl,rfl,.inr ⟨by simp,fun h=>c2 h.init⟩⟩
 ·rw[if_pos (by simp;omega),if_pos (o8 c1)]
  exact⟨_,rfl,rfl,.inr ⟨by simp,fun h=>c1 ⟨h.n0,h.n1⟩⟩⟩
end Ab
end
section
namespace Ab
open Go
def noOO:m5:=⟨[],[],0⟩
def ooAt(t:d5)(op:Int):m5:=(t.operators[op.toNat]?).getD noOO
theorem ix_oo{t:d5}{op:Int}(h0:0<=op)(h1:op<t.operators.length):ix t.operators op=some (ooAt t op):=by
 obtain⟨a,h2,h3⟩:=k6 h0 h1
 rw[h2,ooAt,h3];rfl
def oCan(t:d5)(s:Li)(op:Int):Prop:=∀x ∈ (ooAt t op).pre,x ∈ s
noncomputable def efc(n:Int)(s:Li)(x:w8):Li:=S6 (fun p=>p ∈ x.add\/p ∈ s/\p ∉ x.del) n
theorem at1(n:Int)(s:Li)(x:w8):SetN (efc n s x) n:=aB1 _ _
theorem m8.at{t:d5}(h:m8 t){op:Int}(h0:0<=op)(h1:op<t.operators.length):OOk (ooAt t op) t.facts:=h.op _ (m9 (ix_oo h0 h1))
theorem oCan_eq{t:d5}(ht:m8 t){op:Int}(h0:0<=op)(h1:op<t.operators.length){s:Li}(hs:SetN s t.facts):ai8 t s op=some (dec (oCan t s op)):=by
 have:=ht.n1;have:=hs.len
 unfold ai8
 rw[ix_oo h0 h1]
 simp only[oB]
 rw[K1 hs.1 (ht.at h0 h1).pre.1 (by omega)]
 rfl
theorem oApplies_eq{t:d5}{op:Int}(h0:0<=op)(h1:op<t.operators.length)(s:Li):al9 t s op=some (dec (oCan t s op)):=by
 unfold al9
 rw[ix_oo h0 h1]
 simp only[oB,subset_eq]
 rfl
theorem effect_eq{t:d5}(ht:m8 t)(s:Li)(x:w8):af1 t s x=some (efc t.facts s x):=by
 have:=ht.n1
 unfold af1
 rw[if_pos (by omega)]
 rw[forR_setOf (b:=8) (fun p=>p ∈ x.add\/p ∈ s/\p ∉ x.del) ht.n0 (by omega) (fun j c g0 g1=>by
  unfold az1
  simp only[oB,has_eq,v6]
  have e:(if dec (j ∈ x.add)=true then some true else if dec (j ∈ s)=true then some (dec (j ∉ x.del)) else some false)=some (dec (j ∈ x.add\/j ∈ s/\j ∉ x.del)):=by
   by_cases c1:j ∈ x.add
   ·rw[if_pos (o8 c1),o8 (.inl c1)]
   ·rw[if_neg (fun h=>c1 (n8.1 h))]
    by_cases c2:j ∈ s
    ·rw[if_pos (o8 c2)]
     exact congrArg some (C1 ⟨fun h=>.inr ⟨c2,h⟩,fun h=>(h.resolve_left c1).2⟩)
    ·rw[if_neg (fun h=>c2 (n8.1 h)),z2 (fun h=>c2 (h.resolve_left c1).1)]
  rw[e]
  simp only[oB]
  refine⟨fun hq=> ?_,fun hq=> ?_⟩
  ·rw[if_pos (o8 hq)]
   cases app 8 c [j]<;>rfl
  ·rw[if_neg (fun h=>hq (n8.1 h))];rfl)]
 rfl
theorem oUpdate_eq{n:Int}(hn:n<=24){s:Li}(hs:SetN s n){x:w8}(hx:Y9 x n):B8 s x.add x.del=some (efc n s x):=by
 have:=hx.2.1.len
 rw[update_eq (n:=n) (by omega) hx.2.1.1 (by omega) hs hx.1]
 exact congrArg some (ax5 fun _ _ _=>Or.comm)
/-! ### Policies -/
theorem ord_of_adj:∀{l:LL},(∀(k:Nat) a b,l[k]? =some a->l[k+1]? =some b->llt a b)->Ord l
 |[],_=>.nil
 |[_],_=>by simp
 |a::b::l,h=>by
  have ih:Ord (b::l):=ord_of_adj fun k x y h1 h2=>h (k+1) x y (by simpa using h1) (by simpa using h2)
  have hab:llt a b:=h 0 a b rfl rfl
  refine iA.2 ⟨fun c hc=> ?_,ih⟩
  rcases iE.1 hc with rfl|hc
  ·exact hab
  ·exact G0 hab ((iA.1 ih).1 c hc)
structure F2(t:d5)(p:List e9):Prop where
 len:p.length<=200
 ord:Ord (p.map e9.state)
 set:∀c ∈ p,SetN c.state t.facts
 op:∀c ∈ p,0<=c.operator/\c.operator<t.operators.length
 can:∀c ∈ p,oCan t c.state c.operator
def pSet(t:d5)(p:List e9)(j:Int)(c:e9):Prop:=SetN c.state t.facts/\∀b,0<j->ix p (j - 1)=some b->llt b.state c.state
noncomputable def Q8(t:d5)(p:List e9)(j:Int)(c:e9):Int:=if dec (pSet t p j c)=true then if dec (0<=c.operator/\c.operator<t.operators.length)=true then if dec (oCan t c.state c.operator)=true then 0 else 11 else 3 else 5
theorem pCode_zero{t:d5}{p:List e9}{j:Int}{c:e9}:Q8 t p j c=0->pSet t p j c/\(0<=c.operator/\c.operator<t.operators.length)/\oCan t c.state c.operator:=by
 unfold Q8
 by_cases c1:pSet t p j c
 ·rw[ifP c1]
  by_cases c2:0<=c.operator/\c.operator<t.operators.length
  ·rw[ifP c2]
   by_cases c3:oCan t c.state c.operator
   ·rw[ifP c3];exact fun _=>⟨c1,c2,c3⟩
   ·rw[ifN c3];exact fun h=>by omega
  ·rw[ifN c2];exact fun h=>by omega
 ·rw[ifN c1];exact fun h=>by omega
theorem pCode_of{t:d5}{p:List e9}(hp:F2 t p){j:Int}{c:e9}(hc:ix p j=some c):Q8 t p j c=0:=by
 have hm:=m9 hc
 unfold Q8
 rw[ifP ⟨hp.set c hm,fun b _ hb=>ar8 hp.ord hb hc (by omega)⟩,ifP (hp.op c hm),ifP (hp.can c hm)]
theorem pol1{t:d5}(ht:m8 t){p:List e9}{j:Int}{c:e9}(hl:p.length<=200)(hc:ix p j=some c):F3 t p j ()=some (if Q8 t p j c=0 then .inl () else .inr ⟨Q8 t p j c, -9 - j⟩):=by
 obtain⟨j0,j1,_⟩:=n7 hc
 have hn:=ht.n1
 unfold F3
 rw[hc]
 simp only[oB,ai6,v6]
 have key:(if dec (¬ SetN c.state t.facts)=true then some true else if 0<j then iu (ix p (j - 1)) fun a40=>iu (slices_Compare_int_int a40.state c.state) fun a45=>some (decide (0<=a45)) else some false)=some (dec (¬ pSet t p j c)):=by
  by_cases g1:SetN c.state t.facts
  ·rw[ifNN g1]
   by_cases g2:0<j
   ·rw[if_pos g2]
    obtain⟨b,hb,_⟩:=k6 (l:=p) (i:=j - 1) (by omega) (by omega)
    rw[hb]
    simp only[oB,al5,W9]
    refine congrArg some (C1 ?_)
    rw[cmpL_ge]
    exact⟨fun h g=>h (g.2 b g2 hb),fun h g=>h ⟨g1,fun b' _ hb'=>by rw[hb] at hb';cases hb';exact g⟩⟩
   ·rw[if_neg g2,z2]
    exact fun h=>h ⟨g1,fun _ g=>absurd g g2⟩
  ·rw[ifP g1,o8 (fun h=>g1 h.1)]
 rw[key]
 simp only[oB]
 rw[x9 (by omega) (by omega)]
 unfold Q8
 by_cases g1:pSet t p j c
 ·rw[ifNN g1,ifP g1]
  by_cases g2:0<=c.operator/\c.operator<t.operators.length
  ·rw[if_neg (show ¬ ((decide (c.operator<0))||(decide ((t.operators.length:Int)<=c.operator)))=true by rw[iC,decide_eq_true_eq,decide_eq_true_eq];omega),ifP g2,oCan_eq ht g2.1 g2.2 g1.1]
   simp only[oB,v6]
   by_cases g3:oCan t c.state c.operator
   ·rw[ifNN g3,ifP g3];rfl
   ·rw[ifP g3,ifN g3];rfl
  ·rw[if_pos (show((decide (c.operator<0))||(decide ((t.operators.length:Int)<=c.operator)))=true by rw[iC,decide_eq_true_eq,decide_eq_true_eq];omega),ifN g2];rfl
 ·rw[ifP g1,ifN g1];rfl
theorem pol2{t:d5}(ht:m8 t){p:List e9}{j:Int}{c:e9}(hl:p.length<=200)(hw:0<j->∀b,ix p (j - 1)=some b->b.state.length<=1000000)(hc:ix p j=some c):J3 t p j ()=some (if Q8 t p j c=0 then .inl () else .inr ⟨Q8 t p j c, -9 - j⟩):=by
 obtain⟨j0,j1,_⟩:=n7 hc
 have hn:=ht.n1;have hn0:=ht.n0;have ho:=ht.ops
 unfold J3
 rw[hc]
 simp only[oB,aj6 (n:=t.facts) _ (show -9223372036854775808<t.facts by omega) (show t.facts<=9223372036854775807 by omega),in_eq,at_eq,v6]
 have key:(if dec (¬ SetN c.state t.facts)=true then some true else if 0<j then iu (ix p (j - 1)) fun a39=>iu (af3 a39.state c.state) fun a47=>some (!a47) else some false)=some (dec (¬ pSet t p j c)):=by
  by_cases g1:SetN c.state t.facts
  ·rw[ifNN g1]
   by_cases g2:0<j
   ·rw[if_pos g2]
    obtain⟨b,hb,_⟩:=k6 (l:=p) (i:=j - 1) (by omega) (by omega)
    rw[hb]
    simp only[oB,before_eq (hw g2 b hb),v6]
    refine congrArg some (C1 ?_)
    exact⟨fun h g=>h (g.2 b g2 hb),fun h g=>h ⟨g1,fun b' _ hb'=>by rw[hb] at hb';cases hb';exact g⟩⟩
   ·rw[if_neg g2,z2]
    exact fun h=>h ⟨g1,fun _ g=>absurd g g2⟩
  ·rw[ifP g1,o8 (fun h=>g1 h.1)]
 rw[key]
 simp only[oB]
 rw[x9 (n:= -9 - j) (by omega) (by omega),x9 (n:=(t.operators.length:Int) - 1) (by omega) (by omega)]
 unfold Q8
 by_cases g1:pSet t p j c
 ·rw[ifNN g1,ifP g1]
  by_cases g2:0<=c.operator/\c.operator<t.operators.length
  ·rw[ifN (show ¬ ¬ (0<=c.operator/\c.operator<=(t.operators.length:Int) - 1) by omega),ifP g2,oApplies_eq g2.1 g2.2]
   simp only[oB,v6]
   by_cases g3:oCan t c.state c.operator
   ·rw[ifNN g3,ifP g3];rfl
   ·rw[ifP g3,ifN g3];rfl
  ·rw[ifP (show ¬ (0<=c.operator/\c.operator<=(t.operators.length:Int) - 1) by omega),ifN g2];rfl
 ·rw[ifP g1,ifN g1];rfl
theorem aw5(t:d5)(p:List e9):∃f,x7 t p=some f/\ai7 t p=some f/\((f=⟨0,0⟩/\m8 t/\F2 t p)\/(f.code ≠ 0/\¬ (m8 t/\F2 t p))):=by
 obtain⟨f,h1,h2,h3⟩:=V2 t
 unfold x7 ai7
 rw[h1,h2]
 simp only[oB]
 rcases h3 with⟨rfl,ht⟩|⟨hc,hnt⟩
 ·rw[if_neg (by simp),if_pos rfl]
  by_cases c1:200<(p.length:Int)
  ·rw[if_pos c1,if_pos c1,at_eq]
   exact⟨_,rfl,rfl,.inr ⟨by simp,fun h=>by have:=h.2.len;omega⟩⟩
  ·rw[if_neg c1,if_neg c1]
   have hn:=ht.n1
   have hset:∀j:Int,(∀i,0<=i->i<j->(match ix p i with|some c=>if Q8 t p i c=0 then none else some (⟨Q8 t p i c, -9 - i⟩:g8)|none=>none)=none)->0<j->∀b,ix p (j - 1)=some b->b.state.length<=1000000:=fun j hj j0 b hb=>by
    have:=hj (j - 1) (by omega) (by omega)
    rw[hb] at this
    dsimp only at this
    split at this
    ·rename_i e
     have:=(pCode_zero e).1.1.len
     omega
    ·cases this
   rcases D5 (body:=F3 t p) (n:=(p.length:Int)) (fun j=>match ix p j with|some c=>if Q8 t p j c=0 then none else some (⟨Q8 t p j c, -9 - j⟩:g8)|none=>none) (by omega) (fun j h0 h1 _=>by
    obtain⟨c,e0,_⟩:=k6 (l:=p) h0 h1
    rw[pol1 ht (by omega) e0,e0]
    dsimp only
    split<;>rfl) with⟨a1,a2⟩|⟨j,f,a0,a1,a2,a3,a4⟩
   ·rcases D5 (body:=J3 t p) (n:=(p.length:Int)) (fun j=>match ix p j with|some c=>if Q8 t p j c=0 then none else some (⟨Q8 t p j c, -9 - j⟩:g8)|none=>none) (by omega) (fun j h0 h1 hj=>by
     obtain⟨c,e0,_⟩:=k6 (l:=p) h0 h1
     rw[pol2 ht (by omega) (hset j hj) e0,e0]
     dsimp only
     split<;>rfl) with⟨b1,b2⟩|⟨j',f',b0,b1,b2,b3,b4⟩
    ·rw[a1,b1]
     have all:∀j c,ix p j=some c->pSet t p j c/\(0<=c.operator/\c.operator<t.operators.length)/\oCan t c.state c.operator:=fun j c hc=>by
      have:=a2 j (n7 hc).1 (n7 hc).2.1
      rw[hc] at this
      dsimp only at this
      split at this
      ·rename_i e;exact pCode_zero e
      ·cases this
     have all':∀c ∈ p,SetN c.state t.facts/\(0<=c.operator/\c.operator<t.operators.length)/\oCan t c.state c.operator:=fun c hc=>by
      obtain⟨j,_,_,hj⟩:=s6 hc
      obtain⟨g1,g2,g3⟩:=all j c hj
      exact⟨g1.1,g2,g3⟩
     refine⟨_,rfl,rfl,.inl ⟨rfl,ht,by omega,ord_of_adj fun k a b ha hb=> ?_,fun c hc=>(all' c hc).1,fun c hc=>(all' c hc).2.1,fun c hc=>(all' c hc).2.2⟩⟩
     rw[lM] at ha hb
     cases ha':p[k]? with
     |none=>rw[ha'] at ha;cases ha
     |some a'=>
      cases hb':p[k+1]? with
      |none=>rw[hb'] at hb;cases hb
      |some b'=>
       rw[ha'] at ha;rw[hb'] at hb;cases ha;cases hb
       refine(all ((k+1:Nat):Int) b' (by rw[J2,hb'])).1.2 a' (by omega) ?_
       rw[show((k+1:Nat):Int) - 1=(k:Nat) by omega,J2,ha']
    ·rw[a2 j' b0 b1] at b2;cases b2
   ·rcases D5 (body:=J3 t p) (n:=(p.length:Int)) (fun j=>match ix p j with|some c=>if Q8 t p j c=0 then none else some (⟨Q8 t p j c, -9 - j⟩:g8)|none=>none) (by omega) (fun j h0 h1 hj=>by
     obtain⟨c,e0,_⟩:=k6 (l:=p) h0 h1
     rw[pol2 ht (by omega) (hset j hj) e0,e0]
     dsimp only
     split<;>rfl) with⟨b1,b2⟩|⟨j',f',b0,b1,b2,b3,b4⟩
    ·rw[b2 j a0 a1] at a2;cases a2
    ·have ej:j=j':=by
      rcases iK j j' with h|h|h
      ·rw[b3 j a0 h] at a2;cases a2
      ·exact h
      ·rw[a3 j' b0 h] at b2;cases b2
     subst ej
     rw[a2] at b2
     cases b2
     rw[a4,b4]
     refine⟨_,rfl,rfl,.inr ?_⟩
     obtain⟨c,e0,_⟩:=k6 (l:=p) a0 a1
     rw[e0] at a2
     dsimp only at a2
     split at a2
     ·cases a2
     ·rename_i e;cases a2;exact⟨e,fun h=>e (pCode_of h.2 e0)⟩
 ·rw[if_pos (am9 hc),if_neg hc]
  exact⟨f,rfl,rfl,.inr ⟨hc,fun h=>hnt h.1⟩⟩
/-! ### What a policy chooses -/
theorem as2(p:List e9)(s:Li):∃r,K2 p s=some r/\((r= -1/\∀c ∈ p,c.state ≠ s)\/∃c,c ∈ p/\c.state=s/\r=c.operator):=by
 unfold K2
 rcases D5 (body:=ad8 p s) (n:=(p.length:Int)) (fun j=>match ix p j with|some c=>if dec (c.state=s)=true then some c.operator else none|none=>none) (by omega) (fun j h0 h1 _=>by
  obtain⟨x,hx,_⟩:=k6 (l:=p) h0 h1
  unfold ad8
  simp only[hx,oB,ints_eq]
  by_cases e:x.state=s
  ·rw[ifP e,ifP e]
  ·rw[ifN e,ifN e]) with⟨h1,h2⟩|⟨j,o,h0,h1,h2,h3,h4⟩
 ·rw[h1]
  refine⟨-1,rfl,.inl ⟨rfl,fun c hc he=> ?_⟩⟩
  obtain⟨i,i0,i1,hi⟩:=s6 hc
  have:=h2 i i0 i1
  rw[hi] at this
  dsimp only at this
  rw[ifP he] at this
  cases this
 ·rw[h4]
  obtain⟨c,hc,_⟩:=k6 (l:=p) h0 h1
  rw[hc] at h2
  dsimp only at h2
  split at h2
  ·rename_i e
   cases h2
   exact⟨_,rfl,.inr ⟨c,m9 hc,n8.1 e,rfl⟩⟩
  ·cases h2
theorem chosen_eq{t:d5}{p:List e9}(hp:F2 t p)(s:Li):∃r,K5 p s=some r/\K2 p s=some r/\(r= -1\/(0<=r/\r<t.operators.length/\oCan t s r)):=by
 obtain⟨r,h1,h2⟩:=as2 p s
 refine⟨r,?_,h1,?_⟩
 ·unfold K5
  obtain⟨i,g1,g2,g3⟩:=bsf_eq (key:=e9.state) (xs:=p) (t:=s) (cmp:=open_Chosen_1) hp.ord (by have:=hp.len;omega) (fun a=>by unfold open_Chosen_1;rw[al5];rfl)
  have:n9 p s open_Chosen_1=bsf p s open_Chosen_1:=rfl
  rw[this,g1]
  simp only[oB,v6]
  rcases h2 with⟨rfl,h⟩|⟨c,hc,he,rfl⟩
  ·rw[ifP]
   rintro ⟨a,ha,e⟩;exact h a ha e
  ·rw[ifNN ⟨c,hc,he⟩]
   obtain⟨k,_,_,hk⟩:=s6 hc
   have:=g3 k c hk he
   subst this
   rw[hk];rfl
 ·rcases h2 with⟨rfl,h⟩|⟨c,hc,he,rfl⟩
  ·exact .inl rfl
  ·have:=hp.op c hc
   exact .inr ⟨this.1,this.2,he ▸ hp.can c hc⟩
end Ab
end
section
namespace Ab
open Go
theorem ix_map{α β:Type}{f:α->β}{l:List α}{i:Int}:ix (l.map f) i=(ix l i).map f:=by
 simp only[ix]
 split
 ·rw[lM]
 ·rfl
theorem Ord.one{l m:LL}(hl:Ord l)(hm:Ord m){p:Li->Prop}(h1:∀y,y ∈ l↔p y)(h2:∀y,y ∈ m↔p y):l=m:=Ord.ext hl hm fun y=>(h1 y).trans (h2 y).symm
theorem cloneLL_eq{s:LL}(h:s.length<=1000000):F9 s=some s:=by
 rw[F9,app,if_pos (by simp;omega)];rfl
theorem results1{t:d5}{o:m5}(ho:OOk o t.facts)(hn:t.facts<=24){s:Li}(hs:SetN s t.facts):forR 0 (o.outcomes.length:Int) (T7 s o) []=some (o.outcomes.map (efc t.facts s)):=by
 have hl:=ho.l1
 obtain⟨c,h1,h2⟩:=z6 (body:=T7 s o) (n:=(o.outcomes.length:Int)) (s:=[]) (fun j c=>c=(o.outcomes.take j.toNat).map (efc t.facts s)) (by omega) (by simp) (fun j c j0 j1 hP=>by
  obtain⟨x,hx,gx⟩:=k6 (l:=o.outcomes) j0 j1
  unfold T7
  rw[hx]
  simp only[oB]
  rw[oUpdate_eq hn hs (ho.xs x (m9 hx)).1]
  simp only[oB]
  have hlen:c.length<=4:=by rw[hP,List.length_map,iO];omega
  rw[app,if_pos (by simp;omega)]
  refine⟨_,rfl,?_⟩
  rw[show(j+1).toNat=j.toNat+1 by omega,iy,gx,hP,List.map_append];rfl)
 rw[h1,h2]
 simp
theorem Y4{t:d5}(ht:m8 t){op:Int}(h0:0<=op)(h1:op<t.operators.length){s:Li}(hs:SetN s t.facts):∃st w,H7 t s op=some (st,w)/\Ord st/\(∀y,y ∈ st↔∃x ∈ (ooAt t op).outcomes,efc t.facts s x=y)/\st.length<=4/\w.length=st.length/\forR 0 ((ooAt t op).outcomes.length:Int) (M3 ((ooAt t op).outcomes.map (efc t.facts s)) st (ooAt t op)) (iS st.length 0)=some w:=by
 have ho:=ht.at h0 h1
 have hl:=ho.l1
 unfold H7
 rw[ix_oo h0 h1]
 simp only[oB]
 rw[results1 ho ht.n1 hs]
 simp only[oB]
 rw[cloneLL_eq (by simp;omega)]
 simp only[oB]
 obtain⟨st,n1,n2,n3,n4⟩:=ap6 (l:=(ooAt t op).outcomes.map (efc t.facts s)) (by simp;omega)
 have n4':st.length<=4:=by rw[List.length_map] at n4;omega
 have hm:mkL 8 (st.length:Int) (0:Int)=some (iS st.length 0):=by
  rw[mkL,if_pos (by omega)];simp
 obtain⟨w,w1,w2⟩:=z6 (body:=M3 ((ooAt t op).outcomes.map (efc t.facts s)) st (ooAt t op)) (n:=((ooAt t op).outcomes.length:Int)) (s:=iS st.length 0) (fun j c=>c.length=st.length) (by omega) (by simp) (fun j c j0 j1 hP=>by
  obtain⟨x,hx,gx⟩:=k6 (l:=(ooAt t op).outcomes) j0 j1
  have hmem:efc t.facts s x ∈ st:=(n3 _).2 (List.mem_map.2 ⟨x,m9 hx,rfl⟩)
  obtain⟨i,e1,e2,e3⟩:=bsets_eq (t:=efc t.facts s x) n2 (by omega)
  obtain⟨k,k0,k1,hk⟩:=s6 hmem
  have:=e3 k hk
  subst this
  obtain⟨z,hz,gz⟩:=k6 (l:=c) (i:=k) k0 (by omega)
  unfold M3
  rw[hx,ix_map,hx]
  simp only[oB,Option.map_some,e1,hz]
  exact⟨_,rfl,by rw[lS];exact hP⟩)
 rw[n1]
 simp only[oB,hm,w1]
 exact⟨st,w,rfl,n2,fun y=>by rw[n3,List.mem_map],n4',w2,w1⟩
/-! ### The coin -/
end Ab
end
