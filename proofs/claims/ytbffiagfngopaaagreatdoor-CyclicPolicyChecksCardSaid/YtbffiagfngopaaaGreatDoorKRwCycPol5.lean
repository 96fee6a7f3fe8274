/-
  Texts that the proof stands on.
-/
import Derived.Test.YtbffiagfngopaaaGreatDoorKRwCycPol4
set_option linter.all false
section
namespace Ab
open Go Go.Proofs
set_option maxHeartbeats 4000000
set_option linter.all false
attribute [local irreducible] AWP AOps thn inB Done PureOk FreshOk Sub
theorem cyclic_arcs_ok {ov : TOpenTask} {all : List (List Int)} {r : (List (List (List Int)))} (h : cyclic_arcs ov all = some r) : FreshOk Tryz.prog 86 [.agg [int ov.facts, row 1 intI ov.init, row 1 intI ov.goal, row 3 eTOpenOperator ov.operators], .c (row 1 eLi64 all)] 1 (List.map eLLi64 r) := by
 unfold FreshOk
 refine FnOk.enter (rs := [.t 4]) Tryz.func86 rfl Tryz.ntmps86 Tryz.results86 rfl ⟨trivial, trivial⟩ (by kernel_rfl) rfl ?_
 unfold cyclic_arcs at h
 refine AWP.seq (.region (W.box rfl rfl rfl rfl rfl rfl (.assign rfl rfl (.nil (thn_normal (.seq ?_))))))
 obtain ⟨a15, ha15, h⟩ := bind_some h
 refine AWP.region (.move rfl rfl (S.len rfl rfl (fun hl14 => S.make (f := eLLi64) ha15 (.row .nil) rfl rfl rfl rfl rfl rfl (.assign rfl rfl (.nil (thn_normal (.seq (.seq (.region (.move rfl rfl (S.len rfl rfl (fun hl17 => .move rfl rfl (.nil (thn_normal (.block ?_)))))))))))))))
 obtain ⟨c3, ho1, h⟩ := bind_some h
 refine AWP.forS ho1 (fun t4 c3 => ⟨[(1, .c (row 1 eLi64 all)), (2, .c (.ptr 0 0 0)), (5, .c (.own 1 0 c3.length)), (16, .c (row 1 eLi64 all)), (17, .c (int (all.length : Int))), (18, .c (int t4))], [.one (.cells 4 [[int ov.facts, row 1 intI ov.init, row 1 intI ov.goal, row 3 eTOpenOperator ov.operators]]), .one (vec 1 eLLi64 c3)]⟩) (fun c3 e st => e = .exit 0 ∧ Sub [] st ⟨[(5, .c (.own 1 0 c3.length))], [.one (.cells 4 [[int ov.facts, row 1 intI ov.init, row 1 intI ov.goal, row 3 eTOpenOperator ov.operators]]), .one (vec 1 eLLi64 c3)]⟩) ?_ ?_ ?_ ?_
 ·try dsimp only
  exact Sub.env ⟨rfl, rfl, rfl, rfl, rfl, rfl, trivial⟩
 ·intro t4 c3 hlot4 hltt4 _
  try dsimp only
  refine AWP.seq (.region (.lss rfl rfl rfl (.nil (thn_normal (.seq (.condNP rfl hltt4 (.exit (thn_exit (thn_exit ⟨rfl, ?_⟩)))))))))
  exact Sub.env ⟨rfl, trivial⟩
 ·intro t4 c3 o hlot4 hltt4 h
  unfold cyclic_arcs_l1 at h
  try dsimp only at h ⊢
  refine AWP.seq (.region (.lss rfl rfl rfl (.nil (thn_normal (.seq (.condP rfl hltt4 (.skip (thn_normal (.seq (.block (.seq ?_)))))))))))
  obtain ⟨a21, ha21, h⟩ := bind_some h
  refine AWP.region (.move rfl rfl (S.idx ha21 rfl rfl rfl rfl (.loadI rfl rfl rfl rfl (.assign rfl rfl (.assign rfl rfl (.nil (thn_normal (.seq ?_))))))))
  obtain ⟨a28, ha28, h⟩ := bind_some h
  obtain ⟨a29, ha29, h⟩ := bind_some h
  refine AWP.region (.move rfl rfl (.move rfl rfl (W.fieldAddr rfl rfl rfl rfl (.load rfl rfl rfl rfl rfl rfl (S.len rfl rfl (fun hl27 => S.makeM 1 intI ha28 rfl rfl rfl rfl rfl (S.idxO ha29 rfl rfl rfl rfl rfl (S.storeS (f := eLLi64) (ix_lt ha29) (fun _ => ⟨_, rfl⟩) rfl rfl rfl rfl ?_))))))))
  refine AOps.nil (thn_normal (.seq (.region (W.fieldAddr rfl rfl rfl rfl (.load rfl rfl rfl rfl rfl rfl (S.len rfl rfl (fun hl32 => .move rfl rfl (.nil (thn_normal (.block ?_))))))))))
  obtain ⟨c5, ho2, h⟩ := bind_some h
  refine AWP.forS ho2 (fun t6 c5 => ⟨[(1, .c (row 1 eLi64 all)), (2, .c (.ptr 0 0 0)), (5, .c (.own 1 0 c3.length)), (6, .c (int t4)), (7, .c (row 1 intI a21)), (16, .c (row 1 eLi64 all)), (17, .c (int (all.length : Int))), (18, .c (int t4)), (32, .c (int (ov.operators.length : Int))), (33, .c (int t6))], [.one (.cells 4 [[int ov.facts, row 1 intI ov.init, row 1 intI ov.goal, row 3 eTOpenOperator ov.operators]]), .one (vecS eLLi64 c3 t4.toNat 2 c5.length), mat (2, []) 1 intI c5]⟩) (fun c5 e st => e = .exit 2 ∧ Sub [] st ⟨[(1, .c (row 1 eLi64 all)), (2, .c (.ptr 0 0 0)), (5, .c (.own 1 0 c3.length)), (16, .c (row 1 eLi64 all)), (17, .c (int (all.length : Int))), (18, .c (int t4))], [.one (.cells 4 [[int ov.facts, row 1 intI ov.init, row 1 intI ov.goal, row 3 eTOpenOperator ov.operators]]), .one (vecS eLLi64 c3 t4.toNat 2 c5.length), mat (2, []) 1 intI c5]⟩) ?_ ?_ ?_ ?_
  ·try dsimp only
   exact Sub.env ⟨rfl, rfl, rfl, rfl, rfl, rfl, rfl, rfl, rfl, rfl, trivial⟩
  ·intro t6 c5 hlot6 hltt6 _
   try dsimp only
   refine AWP.seq (.region (.lss rfl rfl rfl (.nil (thn_normal (.seq (.condNP rfl hltt6 (.exit (thn_exit (thn_exit ⟨rfl, ?_⟩)))))))))
   exact Sub.env ⟨rfl, rfl, rfl, rfl, rfl, rfl, trivial⟩
  ·intro t6 c5 o hlot6 hltt6 h
   unfold cyclic_arcs_l2 at h
   try dsimp only at h ⊢
   refine AWP.seq (.region (.lss rfl rfl rfl (.nil (thn_normal (.seq (.condP rfl hltt6 (.skip (thn_normal ?_))))))))
   obtain ⟨c7, hx8, h⟩ := bind_some h
   refine AWP.seqJ (⟨[(1, .c (row 1 eLi64 all)), (2, .c (.ptr 0 0 0)), (5, .c (.own 1 0 c3.length)), (6, .c (int t4)), (7, .c (row 1 intI a21)), (16, .c (row 1 eLi64 all)), (17, .c (int (all.length : Int))), (18, .c (int t4)), (32, .c (int (ov.operators.length : Int))), (33, .c (int t6))], [.one (.cells 4 [[int ov.facts, row 1 intI ov.init, row 1 intI ov.goal, row 3 eTOpenOperator ov.operators]]), .one (vecS eLLi64 c3 t4.toNat 2 c7.length), mat (2, []) 1 intI c7]⟩) ?_ ?_
   ·refine AWP.block (.seq (.region (.move rfl rfl (.assign rfl rfl (.nil (thn_normal (.seq (.seq ?_))))))))
    obtain ⟨a39, ha39, hx8⟩ := bind_some hx8
    refine AWP.region (W.loadAgg rfl rfl rfl rfl rfl rfl rfl (.move rfl rfl (.move rfl rfl (.callR rfl rfl rfl rfl (open_Can_ok ha39) rfl (.not rfl rfl (.nil (thn_normal (.iteB rfl hx8 (fun hc9 hx8 => ?_) (fun hc9 hx8 => ?_)))))))))
    ·refine AWP.exit (thn_exit (inB_exit ?_))
     have ej := Option.some.inj hx8
     subst ej
     refine thn_normal (Sub.env ⟨rfl, rfl, rfl, rfl, rfl, rfl, rfl, rfl, rfl, rfl, trivial⟩)
    ·refine AWP.skip (thn_normal (.seq ?_))
     obtain ⟨a45, ha45, hx8⟩ := bind_some hx8
     refine AWP.region (W.loadAgg rfl rfl rfl rfl rfl rfl rfl (.move rfl rfl (.move rfl rfl (.callR rfl rfl rfl rfl (open_Results_ok ha45) rfl (.move rfl rfl (.extract rfl rfl rfl (.extract rfl rfl rfl (.assign rfl rfl (.assign rfl rfl (.nil (thn_normal (.seq (.region (.move rfl rfl (S.len rfl rfl (fun hl49 => .move rfl rfl (.nil (thn_normal (.block ?_)))))))))))))))))))
     obtain ⟨c10, ho3, hx8⟩ := bind_some hx8
     refine AWP.forS ho3 (fun t11 c10 => ⟨[(1, .c (row 1 eLi64 all)), (2, .c (.ptr 0 0 0)), (5, .c (.own 1 0 c3.length)), (6, .c (int t4)), (7, .c (row 1 intI a21)), (8, .c (int t6)), (16, .c (row 1 eLi64 all)), (17, .c (int (all.length : Int))), (18, .c (int t4)), (32, .c (int (ov.operators.length : Int))), (33, .c (int t6)), (48, .c (row 1 eLi64 a45.1)), (49, .c (int (a45.1.length : Int))), (50, .c (int t11))], [.one (.cells 4 [[int ov.facts, row 1 intI ov.init, row 1 intI ov.goal, row 3 eTOpenOperator ov.operators]]), .one (vecS eLLi64 c3 t4.toNat 2 c10.length), mat (2, []) 1 intI c10]⟩) (fun c10 e st => e = .exit 4 ∧ Sub [] st ⟨[(1, .c (row 1 eLi64 all)), (2, .c (.ptr 0 0 0)), (5, .c (.own 1 0 c3.length)), (6, .c (int t4)), (7, .c (row 1 intI a21)), (16, .c (row 1 eLi64 all)), (17, .c (int (all.length : Int))), (18, .c (int t4)), (32, .c (int (ov.operators.length : Int))), (33, .c (int t6))], [.one (.cells 4 [[int ov.facts, row 1 intI ov.init, row 1 intI ov.goal, row 3 eTOpenOperator ov.operators]]), .one (vecS eLLi64 c3 t4.toNat 2 c10.length), mat (2, []) 1 intI c10]⟩) ?_ ?_ ?_ ?_
     ·try dsimp only
      exact Sub.env ⟨rfl, rfl, rfl, rfl, rfl, rfl, rfl, rfl, rfl, rfl, rfl, rfl, rfl, rfl, trivial⟩
     ·intro t11 c10 hlot11 hltt11 _
      try dsimp only
      refine AWP.seq (.region (.lss rfl rfl rfl (.nil (thn_normal (.seq (.condNP rfl hltt11 (.exit (thn_exit (thn_exit ⟨rfl, ?_⟩)))))))))
      exact Sub.env ⟨rfl, rfl, rfl, rfl, rfl, rfl, rfl, rfl, rfl, rfl, trivial⟩
     ·intro t11 c10 o hlot11 hltt11 h
      unfold cyclic_arcs_l3 at h
      try dsimp only at h ⊢
      refine AWP.seq (.region (.lss rfl rfl rfl (.nil (thn_normal (.seq (.condP rfl hltt11 (.skip (thn_normal (.seq (.block (.seq ?_)))))))))))
      obtain ⟨a52, ha52, h⟩ := bind_some h
      refine AWP.region (S.idx ha52 rfl rfl rfl rfl (.loadI rfl rfl rfl rfl (.assign rfl rfl (.nil (thn_normal ?_)))))
      obtain ⟨a64, ha64, h⟩ := bind_some h
      obtain ⟨a68, ha68, h⟩ := bind_some h
      obtain ⟨a70, ha70, h⟩ := bind_some h
      obtain ⟨a71, ha71, h⟩ := bind_some h
      refine AWP.drawEI [15, 16, 18] mixed rfl rfl rfl ?_
      apply DrawSeqE.consN; exact rfl; exact rfl; intro E
      refine AOps.move rfl rfl (.nil ⟨rfl, rfl⟩)
      exact rfl
      apply DrawSeqE.consN; exact rfl; exact rfl; intro E
      refine AOps.move rfl rfl (.nil ⟨rfl, rfl⟩)
      exact rfl
      apply DrawSeqE.consN; exact rfl; exact rfl; intro E
      refine S.idxS (ix_lt ha29) (ix_pos ha29) rfl rfl rfl rfl rfl (.nil ⟨rfl, rfl⟩)
      exact rfl
      apply DrawSeqE.consN; exact rfl; exact rfl; intro E
      refine S.loadS rfl (ix_lt ha29) rfl rfl rfl (.nil ⟨rfl, rfl⟩)
      exact rfl
      apply DrawSeqE.consN; exact rfl; exact rfl; intro E
      refine AOps.move rfl rfl (.nil ⟨rfl, rfl⟩)
      exact rfl
      apply DrawSeqE.consN; exact rfl; exact rfl; intro E
      refine AOps.move rfl rfl (.nil ⟨rfl, rfl⟩)
      exact rfl
      apply DrawSeqE.consN; exact rfl; exact rfl; intro E
      refine AOps.move rfl rfl (.nil ⟨rfl, rfl⟩)
      exact rfl
      apply DrawSeqE.consN; exact rfl; exact rfl; intro E
      refine S.idxS (ix_lt ha29) (ix_pos ha29) rfl rfl rfl rfl rfl (.nil ⟨rfl, rfl⟩)
      exact rfl
      apply DrawSeqE.consN; exact rfl; exact rfl; intro E
      refine S.loadS rfl (ix_lt ha29) rfl rfl rfl (.nil ⟨rfl, rfl⟩)
      exact rfl
      apply DrawSeqE.consN; exact rfl; exact rfl; intro E
      refine AOps.move rfl rfl (.nil ⟨rfl, rfl⟩)
      exact rfl
      apply DrawSeqE.consN; exact rfl; exact rfl; intro E
      refine S.idxH ha64 rfl rfl rfl (by simp) rfl rfl (.nil ⟨rfl, rfl⟩)
      exact rfl
      apply DrawSeqE.consN; exact rfl; exact rfl; intro E
      refine S.loadM ha64 rfl rfl rfl rfl (.nil ⟨rfl, rfl⟩)
      exact rfl
      apply DrawSeqE.consN; exact rfl; exact rfl; intro E
      refine AOps.move rfl rfl (.nil ⟨rfl, rfl⟩)
      exact rfl
      apply DrawSeqE.consN; exact rfl; exact rfl; intro E
      refine AOps.move rfl rfl (.nil ⟨rfl, rfl⟩)
      exact rfl
      apply DrawSeqE.consN; exact rfl; exact rfl; intro E
      refine AOps.callR rfl rfl rfl rfl (open_Find_ok ha68) rfl (.nil ⟨rfl, rfl⟩)
      exact rfl
      apply DrawSeqE.consE; exact rfl; exact rfl; intro E
      refine S.lit (f := intI) (l := [a68]) (ess := [[int a68]]) rfl rfl rfl rfl rfl rfl rfl ⟨⟨.inl rfl, trivial⟩, trivial⟩ rfl rfl rfl (.nil ⟨rfl, rfl⟩)
      exact rfl
      exact rfl
      apply DrawSeqE.consE; exact rfl; exact rfl; intro E
      refine S.appendR (f := intI) ha70 (ix_get ha64).2 rfl rfl rfl rfl rfl rfl (.own rfl rfl) rfl rfl rfl rfl (.nil ⟨rfl, rfl⟩)
      exact rfl
      exact rfl
      apply DrawSeqE.consN; exact rfl; exact rfl; intro E
      refine S.idxH ha71 rfl rfl rfl (by simp) rfl rfl (.nil ⟨rfl, rfl⟩)
      exact rfl
      apply DrawSeqE.consE (v := .undef); exact rfl; exact rfl; intro E
      refine S.storeHD (ix_get ha71).2 rfl rfl rfl rfl (.nil ⟨rfl, rfl⟩)
      exact rfl
      exact rfl
      refine DrawSeqE.done rfl ?_ ?_
      ·apply RestI.cons; exact rfl; exact rfl
       apply RestK.go; exact rfl; exact rfl; intro E; refine AOps.move rfl rfl ?_; exact AOps.nil ⟨rfl, rfl⟩
       apply RestK.go; exact rfl; exact rfl; intro E; refine AOps.move rfl rfl ?_; exact AOps.nil ⟨rfl, rfl⟩
       apply RestK.go; exact rfl; exact rfl; intro E; refine AOps.move rfl rfl ?_; exact AOps.nil ⟨rfl, rfl⟩
       refine RestK.skip rfl (RestK.nil)
       apply RestI.cons; exact rfl; exact rfl
       apply RestK.go; exact rfl; exact rfl; intro E; refine AOps.move rfl rfl ?_; exact AOps.nil ⟨rfl, rfl⟩
       apply RestK.go; exact rfl; exact rfl; intro E; refine AOps.move rfl rfl ?_; exact AOps.nil ⟨rfl, rfl⟩
       apply RestK.go; exact rfl; exact rfl; intro E; refine AOps.move rfl rfl ?_; exact AOps.nil ⟨rfl, rfl⟩
       refine RestK.skip rfl (RestK.nil)
       apply RestI.cons; exact rfl; exact rfl
       apply RestK.go; exact rfl; exact rfl; intro E; refine S.idxS (ix_lt ha29) (ix_pos ha29) rfl rfl rfl rfl rfl ?_; exact AOps.nil ⟨rfl, rfl⟩
       apply RestK.go; exact rfl; exact rfl; intro E; refine S.idxS (ix_lt ha29) (ix_pos ha29) rfl rfl rfl rfl rfl ?_; exact AOps.nil ⟨rfl, rfl⟩
       apply RestK.go; exact rfl; exact rfl; intro E; refine S.idxS (ix_lt ha29) (ix_pos ha29) rfl rfl rfl rfl rfl ?_; exact AOps.nil ⟨rfl, rfl⟩
       refine RestK.skip rfl (RestK.nil)
       apply RestI.cons; exact rfl; exact rfl
       apply RestK.go; exact rfl; exact rfl; intro E; refine S.loadS rfl (ix_lt ha29) rfl rfl rfl ?_; exact AOps.nil ⟨rfl, rfl⟩
       apply RestK.go; exact rfl; exact rfl; intro E; refine S.loadS rfl (ix_lt ha29) rfl rfl rfl ?_; exact AOps.nil ⟨rfl, rfl⟩
       apply RestK.go; exact rfl; exact rfl; intro E; refine S.loadS rfl (ix_lt ha29) rfl rfl rfl ?_; exact AOps.nil ⟨rfl, rfl⟩
       refine RestK.skip rfl (RestK.nil)
       apply RestI.cons; exact rfl; exact rfl
       apply RestK.go; exact rfl; exact rfl; intro E; refine AOps.move rfl rfl ?_; exact AOps.nil ⟨rfl, rfl⟩
       apply RestK.go; exact rfl; exact rfl; intro E; refine AOps.move rfl rfl ?_; exact AOps.nil ⟨rfl, rfl⟩
       apply RestK.go; exact rfl; exact rfl; intro E; refine AOps.move rfl rfl ?_; exact AOps.nil ⟨rfl, rfl⟩
       refine RestK.skip rfl (RestK.nil)
       apply RestI.cons; exact rfl; exact rfl
       apply RestK.go; exact rfl; exact rfl; intro E; refine AOps.move rfl rfl ?_; exact AOps.nil ⟨rfl, rfl⟩
       apply RestK.go; exact rfl; exact rfl; intro E; refine AOps.move rfl rfl ?_; exact AOps.nil ⟨rfl, rfl⟩
       refine RestK.skip rfl (RestK.skip rfl (RestK.nil))
       apply RestI.cons; exact rfl; exact rfl
       apply RestK.go; exact rfl; exact rfl; intro E; refine AOps.move rfl rfl ?_; exact AOps.nil ⟨rfl, rfl⟩
       apply RestK.go; exact rfl; exact rfl; intro E; refine AOps.move rfl rfl ?_; exact AOps.nil ⟨rfl, rfl⟩
       refine RestK.skip rfl (RestK.skip rfl (RestK.nil))
       apply RestI.cons; exact rfl; exact rfl
       apply RestK.go; exact rfl; exact rfl; intro E; refine S.idxS (ix_lt ha29) (ix_pos ha29) rfl rfl rfl rfl rfl ?_; exact AOps.nil ⟨rfl, rfl⟩
       apply RestK.go; exact rfl; exact rfl; intro E; refine S.idxS (ix_lt ha29) (ix_pos ha29) rfl rfl rfl rfl rfl ?_; exact AOps.nil ⟨rfl, rfl⟩
       refine RestK.skip rfl (RestK.skip rfl (RestK.nil))
       apply RestI.cons; exact rfl; exact rfl
       apply RestK.go; exact rfl; exact rfl; intro E; refine S.loadS rfl (ix_lt ha29) rfl rfl rfl ?_; exact AOps.nil ⟨rfl, rfl⟩
       apply RestK.go; exact rfl; exact rfl; intro E; refine S.loadS rfl (ix_lt ha29) rfl rfl rfl ?_; exact AOps.nil ⟨rfl, rfl⟩
       refine RestK.skip rfl (RestK.skip rfl (RestK.nil))
       apply RestI.cons; exact rfl; exact rfl
       apply RestK.go; exact rfl; exact rfl; intro E; refine AOps.move rfl rfl ?_; exact AOps.nil ⟨rfl, rfl⟩
       apply RestK.go; exact rfl; exact rfl; intro E; refine AOps.move rfl rfl ?_; exact AOps.nil ⟨rfl, rfl⟩
       refine RestK.skip rfl (RestK.skip rfl (RestK.nil))
       apply RestI.cons; exact rfl; exact rfl
       apply RestK.go; exact rfl; exact rfl; intro E; refine S.idxH ha64 rfl rfl rfl (by simp) rfl rfl ?_; exact AOps.nil ⟨rfl, rfl⟩
       apply RestK.go; exact rfl; exact rfl; intro E; refine S.idxH ha64 rfl rfl rfl (by simp) rfl rfl ?_; exact AOps.nil ⟨rfl, rfl⟩
       refine RestK.skip rfl (RestK.skip rfl (RestK.nil))
       apply RestI.cons; exact rfl; exact rfl
       apply RestK.go; exact rfl; exact rfl; intro E; refine S.loadM ha64 rfl rfl rfl rfl ?_; exact AOps.nil ⟨rfl, rfl⟩
       apply RestK.go; exact rfl; exact rfl; intro E; refine S.loadM ha64 rfl rfl rfl rfl ?_; exact AOps.nil ⟨rfl, rfl⟩
       refine RestK.skip rfl (RestK.skip rfl (RestK.nil))
       apply RestI.cons; exact rfl; exact rfl
       apply RestK.go; exact rfl; exact rfl; intro E; refine AOps.move rfl rfl ?_; exact AOps.nil ⟨rfl, rfl⟩
       refine RestK.skip rfl (RestK.skip rfl (RestK.skip rfl (RestK.nil)))
       apply RestI.cons; exact rfl; exact rfl
       apply RestK.go; exact rfl; exact rfl; intro E; refine AOps.move rfl rfl ?_; exact AOps.nil ⟨rfl, rfl⟩
       refine RestK.skip rfl (RestK.skip rfl (RestK.skip rfl (RestK.nil)))
       apply RestI.cons; exact rfl; exact rfl
       apply RestK.go; exact rfl; exact rfl; intro E; refine AOps.callR rfl rfl rfl rfl (open_Find_ok ha68) rfl ?_; exact AOps.nil ⟨rfl, rfl⟩
       refine RestK.skip rfl (RestK.skip rfl (RestK.skip rfl (RestK.nil)))
       refine RestI.skip rfl (RestI.skip rfl ?_)
       apply RestI.cons; exact rfl; exact rfl
       refine RestK.skip rfl (RestK.skip rfl ?_)
       apply RestK.go; exact rfl; exact rfl; intro E; refine S.idxH ha71 rfl rfl rfl (by simp) rfl rfl ?_; exact AOps.nil ⟨rfl, rfl⟩
       refine RestK.skip rfl (RestK.nil)
       refine RestI.skip rfl (RestI.nil)
      dsimp only [envEnd]
      refine inB_normal (thn_normal (.moveR (k := 1) (f := intI) (M := c10) (env' := [(1, .c (row 1 eLi64 all)), (2, .c (.ptr 0 0 0)), (5, .c (.own 1 0 c3.length)), (6, .c (int t4)), (7, .c (row 1 intI a21)), (8, .c (int t6)), (16, .c (row 1 eLi64 all)), (17, .c (int (all.length : Int))), (18, .c (int t4)), (32, .c (int (ov.operators.length : Int))), (33, .c (int t6)), (48, .c (row 1 eLi64 a45.1)), (49, .c (int (a45.1.length : Int))), (50, .c (int t11))]) (σ' := [.one (.cells 4 [[int ov.facts, row 1 intI ov.init, row 1 intI ov.goal, row 3 eTOpenOperator ov.operators]]), .one (vecS eLLi64 c3 t4.toNat 2 c10.length), mat (2, []) 1 intI (c10.set t6.toNat a70), .one (vec 1 intI [a68])]) (r := 2) (s := 4) (p := t6.toNat) (matSD_at rfl) (ix_get ha71).2 rfl rfl rfl rfl rfl (.inl rfl) ⟨.one rfl rfl, .one (vs_ok rfl) (vs_rl _), .self, .vec, trivial⟩ ⟨rfl, rfl, rfl, rfl, rfl, rfl, rfl, rfl, rfl, rfl, rfl, rfl, rfl, rfl, trivial⟩ rfl rfl (.region (.add rfl rfl rfl (by omega) (.move rfl rfl (.nil ?_))))))
      have ej := Option.some.inj h
      subst ej
      refine thn_normal (Sub.cut ⟨rfl, rfl, rfl, rfl, rfl, rfl, rfl, rfl, rfl, rfl, rfl, rfl, rfl, rfl, trivial⟩ rfl ⟨.one rfl, (.eq (vs_ok rfl) (by first | rfl | simp only [List.length_set])), .mat rfl, trivial⟩ rfl)
     ·intro e s hq
      obtain ⟨rfl, hs⟩ := hq
      refine ⟨_, hs, ?_⟩
      refine inB_exit (inB_normal ?_)
      have ej := Option.some.inj hx8
      subst ej
      refine thn_normal (Sub.env ⟨rfl, rfl, rfl, rfl, rfl, rfl, rfl, rfl, rfl, rfl, trivial⟩)
   ·refine AWP.region (.add rfl rfl rfl (by omega) (.move rfl rfl (.nil ?_)))
    have ej := Option.some.inj h
    subst ej
    refine thn_normal (Sub.env ⟨rfl, rfl, rfl, rfl, rfl, rfl, rfl, rfl, rfl, rfl, trivial⟩)
  ·intro e s hq
   obtain ⟨rfl, hs⟩ := hq
   refine ⟨_, hs, ?_⟩
   refine inB_exit (inB_normal (thn_normal (.region (.add rfl rfl rfl (by omega) (.move rfl rfl (.nil ?_))))))
   have ej := Option.some.inj h
   subst ej
   refine thn_normal ((Sub.matV' (k := 1) (f := intI) (env' := [(1, .c (row 1 eLi64 all)), (2, .c (.ptr 0 0 0)), (5, .c (.own 1 0 c3.length)), (16, .c (row 1 eLi64 all)), (17, .c (int (all.length : Int))), (18, .c (int (t4 + 1)))]) (σ' := [.one (.cells 4 [[int ov.facts, row 1 intI ov.init, row 1 intI ov.goal, row 3 eTOpenOperator ov.operators]]), .one (vecS eLLi64 c3 t4.toNat 2 c5.length), .one (vec 1 eLi64 c5)]) 2 rfl ⟨rfl, rfl, rfl, rfl, rfl, rfl, trivial⟩ rfl (by exact ⟨.one (fun _ => rfl), .one (fun _ => vs_rl _), .self, trivial⟩) rfl rfl).trans ((Sub.frzW (id := 2) (M := c5) (env2 := [(1, .c (row 1 eLi64 all)), (2, .c (.ptr 0 0 0)), (5, .c (.own 1 0 c3.length)), (16, .c (row 1 eLi64 all)), (17, .c (int (all.length : Int))), (18, .c (int (t4 + 1)))]) (σ2 := [.one (.cells 4 [[int ov.facts, row 1 intI ov.init, row 1 intI ov.goal, row 3 eTOpenOperator ov.operators]]), .one (vec 1 eLLi64 (c3.set t4.toNat c5)), .dead]) rfl rfl (by exact ⟨⟨_, rfl, .inl ⟨rfl, rfl⟩⟩, ⟨_, rfl, .inl ⟨rfl, rfl⟩⟩, ⟨_, rfl, .inl ⟨rfl, rfl⟩⟩, ⟨_, rfl, .inl ⟨rfl, rfl⟩⟩, ⟨_, rfl, .inl ⟨rfl, rfl⟩⟩, ⟨_, rfl, .inl ⟨rfl, rfl⟩⟩, trivial⟩) rfl (by exact ⟨.old ⟨rfl, .inl ⟨rfl, rfl⟩, .inl ⟨rfl, rfl⟩, .inl ⟨rfl, rfl⟩, .inl ⟨rfl, rfl⟩, trivial⟩, (.vs (vs_frz rfl rfl)), .old (trivial), trivial⟩)).trans (Sub.cut ⟨rfl, rfl, (own_len (by first | rfl | simp only [List.length_set])), rfl, rfl, rfl, trivial⟩ rfl ⟨.one rfl, .vec, trivial⟩ rfl)))
 ·intro e s hq
  obtain ⟨rfl, hs⟩ := hq
  refine ⟨_, hs, ?_⟩
  refine inB_exit (thn_normal (.seq (.region (.move rfl rfl (.assign rfl rfl (.nil (thn_normal (.ret ?_))))))))
  have ej := Option.some.inj h
  subst ej
  exact Done.ret rfl (Fresh.mk rfl rfl)
theorem cyclic_inside_1_ok {iv : Int} {c2 : List Int} {r : Bool} (h : cyclic_inside_1 iv c2 = some r) : PureOk Tryz.prog 116 [.c (int iv), .c (.imm (.ipt [.sl 1 (List.map intI c2)]))] (.c (bool r)) := by
 unfold PureOk
 refine FnOk.enter (rs := [.t 3]) Tryz.func116 rfl Tryz.ntmps116 Tryz.results116 rfl ⟨trivial, trivial⟩ (by kernel_rfl) rfl ?_
 unfold cyclic_inside_1 at h
 refine AWP.seq (.region (.assign rfl rfl (.nil (thn_normal (.seq ?_)))))
 obtain ⟨a6, ha6, h⟩ := bind_some h
 refine AWP.region (.loadI rfl rfl rfl rfl (.move rfl rfl (S.idx ha6 rfl rfl rfl rfl (.loadI rfl rfl rfl rfl (.eql rfl rfl rfl (.assign rfl rfl (.nil (thn_normal (.ret ?_)))))))))
 have ej := Option.some.inj h
 subst ej
 exact Done.ret rfl rfl
theorem cyclic_inside_ok {l : List Int} {safe : List Int} {r : Bool} (h : cyclic_inside l safe = some r) : PureOk Tryz.prog 102 [.c (row 1 intI l), .c (row 1 intI safe)] (.c (bool r)) := by
 unfold PureOk
 refine FnOk.enter (rs := [.t 4]) Tryz.func102 rfl Tryz.ntmps102 Tryz.results102 rfl ⟨trivial, trivial⟩ (by kernel_rfl) rfl ?_
 unfold cyclic_inside at h
 refine AWP.seq (.region (W.box rfl rfl rfl rfl rfl rfl (.assign rfl rfl (.nil (thn_normal ?_)))))
 obtain ⟨t3, hx4, h⟩ := bind_some h
 refine AWP.seqJ (⟨[(4, .c (bool t3))], []⟩) ?_ ?_
 ·rcases Bool.eq_false_or_eq_true (decide (0 < (l.length : Int))) with hb5 | hb5
  ·replace hx4 := iteDT hb5 hx4
   obtain ⟨a11, ha11, hx4⟩ := bind_some hx4
   refine AWP.region (.move rfl rfl (S.len rfl rfl (fun hl6 => .gtr rfl rfl rfl (.move rfl rfl (.guardT rfl rfl rfl hb5 (.move rfl rfl (.guardT rfl rfl rfl hb5 (.makeFunc rfl rfl ?_))))))))
   refine AOps.guardT rfl rfl rfl hb5 ?_; refine AOps.callL rfl rfl (.cons (.c .imm) (.cons (.c (.fn (.cons (.ptr (es := [.sl 1 (List.map intI safe)]) rfl rfl (.cons .imm .nil)) .nil))) .nil)) rfl (slices_ContainsFunc_int_int_ok rfl (fun hy => cyclic_inside_1_ok hy) ha11) rfl ?_
   refine AOps.guardT rfl rfl rfl hb5 (.not rfl rfl (.pickT rfl hb5 rfl rfl (.assign rfl rfl (.nil ?_))))
   have ej := Option.some.inj hx4
   subst ej
   refine thn_normal (Sub.cut ⟨rfl, trivial⟩ rfl trivial rfl)
  ·replace hx4 := iteDF hb5 hx4
   refine AWP.region (.move rfl rfl (S.len rfl rfl (fun hl6 => .gtr rfl rfl rfl (.move rfl rfl (.guardF rfl rfl rfl hb5 (.guardF rfl rfl rfl hb5 (.guardF rfl rfl rfl hb5 (.guardF rfl rfl rfl hb5 (.pickF rfl hb5 rfl rfl (.assign rfl rfl (.nil ?_)))))))))))
   have ej := Option.some.inj hx4
   subst ej
   refine thn_normal (Sub.cut ⟨rfl, trivial⟩ rfl trivial rfl)
 ·refine AWP.ret ?_
  have ej := Option.some.inj h
  subst ej
  exact Done.ret rfl rfl
theorem cyclic_measure_1_1_ok {kv : Int} {c2 : List Int} {c3 : Int} {r : Bool} (h : cyclic_measure_1_1 kv c2 c3 = some r) : PureOk Tryz.prog 104 [.c (int kv), .c (.imm (.ipt [.sl 1 (List.map intI c2)])), .c (.imm (.ipt [.val (.int .i64 c3)]))] (.c (bool r)) := by
 unfold PureOk
 refine FnOk.enter (rs := [.t 4]) Tryz.func104 rfl Tryz.ntmps104 Tryz.results104 rfl ⟨trivial, trivial⟩ (by kernel_rfl) rfl ?_
 unfold cyclic_measure_1_1 at h
 refine AWP.seq (.region (.assign rfl rfl (.nil (thn_normal (.seq ?_)))))
 obtain ⟨a7, ha7, h⟩ := bind_some h
 refine AWP.drawI mixed rfl ?_
 apply DrawSeq.consF; exact rfl; intro E
 refine AOps.loadI rfl rfl rfl rfl (.nil ⟨rfl, rfl⟩)
 exact rfl
 apply DrawSeq.consF; exact rfl; intro E
 refine AOps.move rfl rfl (.nil ⟨rfl, rfl⟩)
 exact rfl
 apply DrawSeq.consF; exact rfl; intro E
 refine S.idx ha7 rfl rfl rfl rfl (.nil ⟨rfl, rfl⟩)
 exact rfl
 apply DrawSeq.consF; exact rfl; intro E
 refine AOps.loadI rfl rfl rfl rfl (.nil ⟨rfl, rfl⟩)
 exact rfl
 apply DrawSeq.consF; exact rfl; intro E
 refine AOps.loadI rfl rfl rfl rfl (.nil ⟨rfl, rfl⟩)
 exact rfl
 apply DrawSeq.consF; exact rfl; intro E
 refine S.sub rfl rfl rfl (.nil ⟨rfl, rfl⟩)
 exact rfl
 apply DrawSeq.consF; exact rfl; intro E
 refine AOps.eql rfl rfl rfl (.nil ⟨rfl, rfl⟩)
 exact rfl
 apply DrawSeq.consF; exact rfl; intro E
 refine AOps.assign rfl rfl (.nil ⟨rfl, rfl⟩)
 exact rfl
 refine DrawSeq.done ?_
 dsimp only [envEnd]
 refine thn_normal (.ret ?_)
 have ej := Option.some.inj h
 subst ej
 exact Done.ret rfl rfl
theorem cyclic_measure_1_ok {l : List Int} {c2 : List Int} {c3 : List Int} {c4 : Int} {r : Bool} (h : cyclic_measure_1 l c2 c3 c4 = some r) : PureOk Tryz.prog 101 [.c (row 1 intI l), .c (.imm (.ipt [.sl 1 (List.map intI c2)])), .c (.imm (.ipt [.sl 1 (List.map intI c3)])), .c (.imm (.ipt [.val (.int .i64 c4)]))] (.c (bool r)) := by
 unfold PureOk
 refine FnOk.enter (rs := [.t 5]) Tryz.func101 rfl Tryz.ntmps101 Tryz.results101 rfl ⟨trivial, trivial⟩ (by kernel_rfl) rfl ?_
 unfold cyclic_measure_1 at h
 refine AWP.seq (.region (.assign rfl rfl (.nil (thn_normal ?_))))
 obtain ⟨t2, hx3, h⟩ := bind_some h
 refine AWP.seqJ (⟨[(5, .c (bool t2))], []⟩) ?_ ?_
 ·obtain ⟨a8, ha8, hx3⟩ := bind_some hx3
  rcases Bool.eq_false_or_eq_true (a8) with hb4 | hb4
  ·replace hx3 := iteBT hb4 hx3
   obtain ⟨a12, ha12, hx3⟩ := bind_some hx3
   refine AWP.region (.move rfl rfl (.loadI rfl rfl rfl rfl (.callR rfl rfl rfl rfl (cyclic_inside_ok ha8) rfl (.move rfl rfl (.guardT rfl rfl rfl hb4 (.move rfl rfl (.guardT rfl rfl rfl hb4 (.makeFunc rfl rfl ?_))))))))
   refine AOps.guardT rfl rfl rfl hb4 ?_; refine AOps.callR rfl rfl rfl rfl (slices_ContainsFunc_int_int_ok rfl (fun hy => cyclic_measure_1_1_ok hy) ha12) rfl ?_
   refine AOps.pickT rfl hb4 rfl rfl (.assign rfl rfl (.nil ?_))
   have ej := Option.some.inj hx3
   subst ej
   refine thn_normal (Sub.env ⟨rfl, trivial⟩)
  ·replace hx3 := iteBF hb4 hx3
   refine AWP.region (.move rfl rfl (.loadI rfl rfl rfl rfl (.callR rfl rfl rfl rfl (cyclic_inside_ok ha8) rfl (.move rfl rfl (.guardF rfl rfl rfl hb4 (.guardF rfl rfl rfl hb4 (.guardF rfl rfl rfl hb4 (.pickF rfl hb4 rfl rfl (.assign rfl rfl (.nil ?_))))))))))
   have ej := Option.some.inj hx3
   subst ej
   refine thn_normal (Sub.env ⟨rfl, trivial⟩)
 ·refine AWP.ret ?_
  have ej := Option.some.inj h
  subst ej
  exact Done.ret rfl rfl
theorem cyclic_measure_ok {ov : TOpenTask} {all : List (List Int)} {nextv : List (List (List Int))} {safe : List Int} {r : (List Int)} (h : cyclic_measure ov all nextv safe = some r) : FreshOk Tryz.prog 87 [.agg [int ov.facts, row 1 intI ov.init, row 1 intI ov.goal, row 3 eTOpenOperator ov.operators], .c (row 1 eLi64 all), .c (row 1 eLLi64 nextv), .c (row 1 intI safe)] 1 (List.map intI r) := by
 unfold FreshOk
 refine FnOk.enter (rs := [.t 8]) Tryz.func87 rfl Tryz.ntmps87 Tryz.results87 rfl ⟨trivial, trivial⟩ (by kernel_rfl) rfl ?_
 unfold cyclic_measure at h
 refine AWP.seq (.region (W.box rfl rfl rfl rfl rfl rfl (W.box rfl rfl rfl rfl rfl rfl (.assign rfl rfl (.nil (thn_normal (.seq ?_)))))))
 obtain ⟨a17, ha17, h⟩ := bind_some h
 refine AWP.region (S.lit (f := intI) (l := [-1]) (ess := [[int (-1)]]) rfl rfl rfl rfl rfl rfl rfl ⟨⟨.inl rfl, trivial⟩, trivial⟩ rfl rfl rfl (.move rfl rfl (S.len rfl rfl (fun hl16 => S.freshL (fun _ => rfl) rfl rfl (.cons (.c (.own rfl rfl)) (.cons (.c .imm) .nil)) rfl (slices_Repeat_int_int_ok ha17) rfl rfl ?_))))
 refine W.alloc rfl rfl rfl rfl (W.store rfl rfl rfl rfl rfl (.nil (thn_normal (.seq (.seq (.region (.move rfl rfl (S.len rfl rfl (fun hl19 => .move rfl rfl (.nil (thn_normal (.block ?_))))))))))))
 obtain ⟨c5, ho1, h⟩ := bind_some h
 refine AWP.forS ho1 (fun t6 c5 => ⟨[(1, .c (row 1 eLi64 all)), (2, .c (row 1 eLLi64 nextv)), (4, .c (.ptr 0 0 0)), (7, .c (.ptr 1 0 0)), (9, .c (.ptr 4 0 0)), (18, .c (row 1 eLi64 all)), (19, .c (int (all.length : Int))), (20, .c (int t6))], [.one (.cells 4 [[int ov.facts, row 1 intI ov.init, row 1 intI ov.goal, row 3 eTOpenOperator ov.operators]]), .one (.cells 1 [[row 1 intI safe]]), .dead, .one (vec 1 intI c5), .one (.cells 1 [[.own 3 0 c5.length]])]⟩) (fun c5 e st => e = .exit 0 ∧ Sub [] st ⟨[(1, .c (row 1 eLi64 all)), (2, .c (row 1 eLLi64 nextv)), (7, .c (.ptr 1 0 0)), (9, .c (.ptr 4 0 0))], [.one (.cells 4 [[int ov.facts, row 1 intI ov.init, row 1 intI ov.goal, row 3 eTOpenOperator ov.operators]]), .one (.cells 1 [[row 1 intI safe]]), .dead, .one (vec 1 intI c5), .one (.cells 1 [[.own 3 0 c5.length]])]⟩) ?_ ?_ ?_ ?_
 ·try dsimp only
  exact Sub.cut ⟨rfl, rfl, rfl, rfl, rfl, rfl, rfl, rfl, trivial⟩ rfl ⟨.one rfl, .one rfl, .dead, .vec, .one rfl, trivial⟩ rfl
 ·intro t6 c5 hlot6 hltt6 _
  try dsimp only
  refine AWP.seq (.region (.lss rfl rfl rfl (.nil (thn_normal (.seq (.condNP rfl hltt6 (.exit (thn_exit (thn_exit ⟨rfl, ?_⟩)))))))))
  exact Sub.env ⟨rfl, rfl, rfl, rfl, trivial⟩
 ·intro t6 c5 o hlot6 hltt6 h
  unfold cyclic_measure_l1 at h
  try dsimp only at h ⊢
  refine AWP.seq (.region (.lss rfl rfl rfl (.nil (thn_normal (.seq (.condP rfl hltt6 (.skip (thn_normal ?_))))))))
  obtain ⟨c7, hx8, h⟩ := bind_some h
  refine AWP.seqJ (⟨[(1, .c (row 1 eLi64 all)), (2, .c (row 1 eLLi64 nextv)), (4, .c (.ptr 0 0 0)), (7, .c (.ptr 1 0 0)), (9, .c (.ptr 4 0 0)), (18, .c (row 1 eLi64 all)), (19, .c (int (all.length : Int))), (20, .c (int t6))], [.one (.cells 4 [[int ov.facts, row 1 intI ov.init, row 1 intI ov.goal, row 3 eTOpenOperator ov.operators]]), .one (.cells 1 [[row 1 intI safe]]), .dead, .one (vec 1 intI c7), .one (.cells 1 [[.own 3 0 c7.length]])]⟩) ?_ ?_
  ·refine AWP.block (.seq ?_)
   obtain ⟨a23, ha23, hx8⟩ := bind_some hx8
   refine AWP.region (.move rfl rfl (S.idx ha23 rfl rfl rfl rfl (.loadI rfl rfl rfl rfl (.assign rfl rfl (.assign rfl rfl (.nil (thn_normal (.seq ?_))))))))
   obtain ⟨a28, ha28, hx8⟩ := bind_some hx8
   refine AWP.region (.move rfl rfl (W.fieldAddr rfl rfl rfl rfl (.load rfl rfl rfl rfl rfl rfl (.callR rfl rfl rfl rfl (strips_Contains_ok ha28) rfl (.nil (thn_normal (.iteB rfl hx8 (fun hc9 hx8 => ?_) (fun hc9 hx8 => ?_))))))))
   ·obtain ⟨a31, ha31, hx8⟩ := bind_some hx8
    refine AWP.region (.load rfl rfl rfl rfl rfl rfl (.move rfl rfl (S.idxO ha31 rfl rfl rfl rfl rfl (S.storeO1 (f := intI) (a' := 0) (ix_lt ha31) (fun _ => ⟨_, rfl⟩) rfl rfl rfl rfl rfl ?_))))
    refine AOps.nil (inB_normal ?_)
    have ej := Option.some.inj hx8
    subst ej
    refine thn_normal (Sub.cut ⟨rfl, rfl, rfl, rfl, rfl, rfl, rfl, rfl, trivial⟩ rfl ⟨.one rfl, .one rfl, .dead, .vec, (.eq rfl (by first | rfl | simp only [List.length_set])), trivial⟩ rfl)
   ·refine AWP.skip (inB_normal ?_)
    have ej := Option.some.inj hx8
    subst ej
    refine thn_normal (Sub.env ⟨rfl, rfl, rfl, rfl, rfl, rfl, rfl, rfl, trivial⟩)
  ·refine AWP.region (.add rfl rfl rfl (by omega) (.move rfl rfl (.nil ?_)))
   have ej := Option.some.inj h
   subst ej
   refine thn_normal (Sub.env ⟨rfl, rfl, rfl, rfl, rfl, rfl, rfl, rfl, trivial⟩)
 ·intro e s hq
  obtain ⟨rfl, hs⟩ := hq
  refine ⟨_, hs, ?_⟩
  refine inB_exit (thn_normal (.seq (.seq (.region (W.alloc rfl rfl rfl rfl (W.store rfl rfl rfl rfl rfl (.nil (thn_normal (.block ?_)))))))))
  obtain ⟨c12, ho2, h⟩ := bind_some h
  refine AWP.loopS ho2 (fun (c10, c11) => ⟨[(1, .c (row 1 eLi64 all)), (2, .c (row 1 eLLi64 nextv)), (7, .c (.ptr 1 0 0)), (9, .c (.ptr 4 0 0)), (12, .c (.ptr 5 0 0))], [.dead, .one (.cells 1 [[row 1 intI safe]]), .dead, .one (vec 1 intI c10), .one (.cells 1 [[.own 3 0 c10.length]]), .one (.cells 1 [[int c11]])]⟩) (fun c12 e st => e = .exit 2 ∧ Sub [] st ⟨[(9, .c (.ptr 4 0 0))], [.dead, .dead, .dead, .one (vec 1 intI c12), .one (.cells 1 [[.own 3 0 c12.length]])]⟩) ?_ ?_ ?_
  ·try dsimp only
   exact Sub.cut ⟨rfl, rfl, rfl, rfl, rfl, trivial⟩ rfl ⟨.dead, .one rfl, .dead, .vec, .one rfl, .one rfl, trivial⟩ rfl
  ·intro s o h
   obtain ⟨c10, c11⟩ := s
   unfold cyclic_measure_l2 at h
   try dsimp only at h ⊢
   refine AWP.seq (.seq (.region (.load rfl rfl rfl rfl rfl rfl (.move rfl rfl (S.len rfl rfl (fun hl35 => .leq rfl rfl rfl (.nil (thn_normal (.ite rfl h (fun hc13 h => ?_) (fun hc13 h => ?_))))))))))
   ·refine AWP.skip (thn_normal (.seq (.block (.seq (.region (.move rfl rfl (S.len rfl rfl (fun hl40 => .move rfl rfl (.nil (thn_normal (.block ?_)))))))))))
    obtain ⟨c14, ho3, h⟩ := bind_some h
    refine AWP.forS ho3 (fun t15 c14 => ⟨[(1, .c (row 1 eLi64 all)), (2, .c (row 1 eLLi64 nextv)), (7, .c (.ptr 1 0 0)), (9, .c (.ptr 4 0 0)), (12, .c (.ptr 5 0 0)), (40, .c (int (all.length : Int))), (41, .c (int t15))], [.dead, .one (.cells 1 [[row 1 intI safe]]), .dead, .one (vec 1 intI c14), .one (.cells 1 [[.own 3 0 c14.length]]), .one (.cells 1 [[int c11]])]⟩) (fun c14 e st => e = .exit 4 ∧ Sub [] st ⟨[(1, .c (row 1 eLi64 all)), (2, .c (row 1 eLLi64 nextv)), (7, .c (.ptr 1 0 0)), (9, .c (.ptr 4 0 0)), (12, .c (.ptr 5 0 0))], [.dead, .one (.cells 1 [[row 1 intI safe]]), .dead, .one (vec 1 intI c14), .one (.cells 1 [[.own 3 0 c14.length]]), .one (.cells 1 [[int c11]])]⟩) ?_ ?_ ?_ ?_
    ·try dsimp only
     exact Sub.env ⟨rfl, rfl, rfl, rfl, rfl, rfl, rfl, trivial⟩
    ·intro t15 c14 hlot15 hltt15 _
     try dsimp only
     refine AWP.seq (.region (.lss rfl rfl rfl (.nil (thn_normal (.seq (.condNP rfl hltt15 (.exit (thn_exit (thn_exit ⟨rfl, ?_⟩)))))))))
     exact Sub.env ⟨rfl, rfl, rfl, rfl, rfl, trivial⟩
    ·intro t15 c14 o hlot15 hltt15 h
     unfold cyclic_measure_l3 at h
     try dsimp only at h ⊢
     refine AWP.seq (.region (.lss rfl rfl rfl (.nil (thn_normal (.seq (.condP rfl hltt15 (.skip (thn_normal ?_))))))))
     obtain ⟨c16, hx17, h⟩ := bind_some h
     refine AWP.seqJ (⟨[(1, .c (row 1 eLi64 all)), (2, .c (row 1 eLLi64 nextv)), (7, .c (.ptr 1 0 0)), (9, .c (.ptr 4 0 0)), (12, .c (.ptr 5 0 0)), (40, .c (int (all.length : Int))), (41, .c (int t15))], [.dead, .one (.cells 1 [[row 1 intI safe]]), .dead, .one (vec 1 intI c16), .one (.cells 1 [[.own 3 0 c16.length]]), .one (.cells 1 [[int c11]])]⟩) ?_ ?_
     ·refine AWP.block (.seq (.region (.move rfl rfl (.assign rfl rfl (.nil (thn_normal (.seq ?_)))))))
      obtain ⟨t18, hx19, hx17⟩ := bind_some hx17
      refine AWP.seqJ (⟨[(1, .c (row 1 eLi64 all)), (2, .c (row 1 eLLi64 nextv)), (7, .c (.ptr 1 0 0)), (9, .c (.ptr 4 0 0)), (12, .c (.ptr 5 0 0)), (13, .c (int t15)), (40, .c (int (all.length : Int))), (41, .c (int t15)), (55, .c (bool t18))], [.dead, .one (.cells 1 [[row 1 intI safe]]), .dead, .one (vec 1 intI c14), .one (.cells 1 [[.own 3 0 c14.length]]), .one (.cells 1 [[int c11]])]⟩) ?_ ?_
      ·obtain ⟨a46, ha46, hx19⟩ := bind_some hx19
       rcases Bool.eq_false_or_eq_true (decide (0 ≤ a46)) with hb20 | hb20
       ·replace hx19 := iteDT hb20 hx19
        refine AWP.region (.load rfl rfl rfl rfl rfl rfl (.move rfl rfl (S.idxO ha46 rfl rfl rfl rfl rfl (S.loadO ha46 rfl rfl rfl rfl rfl (.geq rfl rfl rfl (.move rfl rfl (.guardF rfl rfl rfl hb20 (.guardF rfl rfl rfl hb20 (.guardF rfl rfl rfl hb20 (.guardF rfl rfl rfl hb20 (.guardF rfl rfl rfl hb20 (.pickT rfl hb20 rfl rfl (.nil ?_)))))))))))))
        have ej := Option.some.inj hx19
        subst ej
        refine thn_normal (Sub.env ⟨rfl, rfl, rfl, rfl, rfl, rfl, rfl, rfl, rfl, trivial⟩)
       ·replace hx19 := iteDF hb20 hx19
        obtain ⟨a52, ha52, hx19⟩ := bind_some hx19
        refine AWP.region (.load rfl rfl rfl rfl rfl rfl (.move rfl rfl (S.idxO ha46 rfl rfl rfl rfl rfl (S.loadO ha46 rfl rfl rfl rfl rfl (.geq rfl rfl rfl (.move rfl rfl (.guardT rfl rfl rfl hb20 (.load rfl rfl rfl rfl rfl rfl (.guardT rfl rfl rfl hb20 (.move rfl rfl (.guardT rfl rfl rfl hb20 (S.idx ha52 rfl rfl rfl rfl (.guardT rfl rfl rfl hb20 (.loadI rfl rfl rfl rfl (.guardT rfl rfl rfl hb20 (.eql rfl rfl rfl (.pickF rfl hb20 rfl rfl (.nil ?_))))))))))))))))))
        have ej := Option.some.inj hx19
        subst ej
        refine thn_normal (Sub.env ⟨rfl, rfl, rfl, rfl, rfl, rfl, rfl, rfl, rfl, trivial⟩)
      ·refine AWP.iteB rfl hx17 (fun hc21 hx17 => ?_) (fun hc21 hx17 => ?_)
       ·refine AWP.exit (thn_exit (inB_exit ?_))
        have ej := Option.some.inj hx17
        subst ej
        refine thn_normal (Sub.env ⟨rfl, rfl, rfl, rfl, rfl, rfl, rfl, trivial⟩)
       ·refine AWP.skip (thn_normal (.seq ?_))
        obtain ⟨a58, ha58, hx17⟩ := bind_some hx17
        obtain ⟨a61, ha61, hx17⟩ := bind_some hx17
        refine AWP.region (.move rfl rfl (.move rfl rfl (S.idx ha58 rfl rfl rfl rfl (.loadI rfl rfl rfl rfl (.makeFunc rfl rfl (.callL rfl rfl (.cons (.c .imm) (.cons (.c (.fn (.cons (.ptr (es := [.sl 1 (List.map intI safe)]) rfl rfl (.cons .imm .nil)) (.cons (.ptr (es := [.sl 1 (List.map intI c14)]) rfl rfl (.cons (.own rfl rfl) .nil)) (.cons (.ptr (es := [.val (.int .i64 c11)]) rfl rfl (.cons .imm .nil)) .nil))))) .nil)) rfl (slices_ContainsFunc_LLint_ok rfl (fun hy => cyclic_measure_1_ok hy) ha61) rfl ?_))))))
        refine AOps.nil (thn_normal (.iteB rfl hx17 (fun hc22 hx17 => ?_) (fun hc22 hx17 => ?_)))
        ·obtain ⟨a65, ha65, hx17⟩ := bind_some hx17
         refine AWP.region (.load rfl rfl rfl rfl rfl rfl (.move rfl rfl (.load rfl rfl rfl rfl rfl rfl (S.idxO ha65 rfl rfl rfl rfl rfl (S.storeO1 (f := intI) (a' := c11) (ix_lt ha65) (fun _ => ⟨_, rfl⟩) rfl rfl rfl rfl rfl ?_)))))
         refine AOps.nil (inB_normal ?_)
         have ej := Option.some.inj hx17
         subst ej
         refine thn_normal (Sub.cut ⟨rfl, rfl, rfl, rfl, rfl, rfl, rfl, trivial⟩ rfl ⟨.dead, .one rfl, .dead, .vec, (.eq rfl (by first | rfl | simp only [List.length_set])), .one rfl, trivial⟩ rfl)
        ·refine AWP.skip (inB_normal ?_)
         have ej := Option.some.inj hx17
         subst ej
         refine thn_normal (Sub.env ⟨rfl, rfl, rfl, rfl, rfl, rfl, rfl, trivial⟩)
     ·refine AWP.region (.add rfl rfl rfl (by omega) (.move rfl rfl (.nil ?_)))
      have ej := Option.some.inj h
      subst ej
      refine thn_normal (Sub.env ⟨rfl, rfl, rfl, rfl, rfl, rfl, rfl, trivial⟩)
    ·intro e s hq
     obtain ⟨rfl, hs⟩ := hq
     refine ⟨_, hs, ?_⟩
     refine inB_exit (inB_normal (thn_normal (.seq (.seq (.region (.load rfl rfl rfl rfl rfl rfl (.nil (thn_normal (.region (W.alloc rfl rfl rfl rfl (W.store rfl rfl rfl rfl rfl (.nil (thn_normal (.region (.load rfl rfl rfl rfl rfl rfl (S.add rfl rfl rfl (W.store rfl rfl rfl rfl rfl (.nil ?_))))))))))))))))))
     have ej := Option.some.inj h
     subst ej
     refine thn_normal ⟨_, rfl, ?_⟩
     exact (Sub.move (env' := [(1, .c (row 1 eLi64 all)), (2, .c (row 1 eLLi64 nextv)), (7, .c (.ptr 1 0 0)), (9, .c (.ptr 4 0 0)), (12, .c (.ptr 5 0 0))]) (σ' := [.dead, .one (.cells 1 [[row 1 intI safe]]), .dead, .one (vec 1 intI c14), .one (.cells 1 [[.own 3 0 c14.length]]), .one (.cells 1 [[int (w64 (c11 + 1))]])]) 5 6 rfl rfl rfl ⟨rfl, rfl, rfl, rfl, rfl, trivial⟩ rfl ⟨trivial, ⟨rfl, rfl⟩, trivial, ⟨Blk.im_ok _ _ _, vec_mv rfl⟩, ⟨rfl, rfl⟩, ⟨rfl, rfl⟩, trivial⟩).trans (Sub.env ⟨rfl, rfl, rfl, rfl, rfl, trivial⟩)
   ·refine AWP.exit (thn_exit ?_)
    have ej := Option.some.inj h
    subst ej
    refine thn_exit ⟨_, rfl, rfl, ?_⟩
    exact Sub.cut ⟨rfl, trivial⟩ rfl ⟨.dead, .dead, .dead, .vec, .one rfl, trivial⟩ rfl
  ·intro e s hq
   obtain ⟨rfl, hs⟩ := hq
   refine ⟨_, hs, ?_⟩
   refine inB_exit (thn_normal (.seq (.region (.load rfl rfl rfl rfl rfl rfl (.assign rfl rfl (.nil (thn_normal (.ret ?_))))))))
   have ej := Option.some.inj h
   subst ej
   exact Done.ret rfl (Fresh.mk rfl rfl)
theorem cyclic_Distances_ok {ov : TOpenTask} {all : List (List Int)} {r : (List Int)} (h : cyclic_Distances ov all = some r) : FreshOk Tryz.prog 58 [.agg [int ov.facts, row 1 intI ov.init, row 1 intI ov.goal, row 3 eTOpenOperator ov.operators], .c (row 1 eLi64 all)] 1 (List.map intI r) := by
 unfold FreshOk
 refine FnOk.enter (rs := [.t 4]) Tryz.func58 rfl Tryz.ntmps58 Tryz.results58 rfl ⟨trivial, trivial⟩ (by kernel_rfl) rfl ?_
 unfold cyclic_Distances at h
 refine AWP.seq (.region (W.box rfl rfl rfl rfl rfl rfl (.assign rfl rfl (.nil (thn_normal (.seq ?_))))))
 obtain ⟨a12, ha12, h⟩ := bind_some h
 refine AWP.region (W.loadAgg rfl rfl rfl rfl rfl rfl rfl (.move rfl rfl (S.fresh rfl rfl rfl rfl (cyclic_arcs_ok ha12) rfl rfl (.assign rfl rfl (.nil (thn_normal (.seq ?_)))))))
 obtain ⟨a16, ha16, h⟩ := bind_some h
 refine AWP.region (S.lit (f := intI) (l := [1]) (ess := [[int 1]]) rfl rfl rfl rfl rfl rfl rfl ⟨⟨.inl rfl, trivial⟩, trivial⟩ rfl rfl rfl (.move rfl rfl (S.len rfl rfl (fun hl15 => S.freshL (fun _ => rfl) rfl rfl (.cons (.c (.own rfl rfl)) (.cons (.c .imm) .nil)) rfl (slices_Repeat_int_int_ok ha16) rfl rfl ?_))))
 refine AOps.assign rfl rfl (.nil (thn_normal (.block ?_)))
 obtain ⟨x, ho1, h⟩ := bind_some h
 refine AWP.loopS ho1 (fun c3 => ⟨[(1, .c (row 1 eLi64 all)), (2, .c (.ptr 0 0 0)), (5, .c (.own 1 0 a12.length)), (6, .c (.own 3 0 c3.length))], [.one (.cells 4 [[int ov.facts, row 1 intI ov.init, row 1 intI ov.goal, row 3 eTOpenOperator ov.operators]]), .one (vec 1 eLLi64 a12), .dead, .one (vec 1 intI c3)]⟩) (fun x e st => e = .ret ∧ Done [.t 4] (fun t s => ∃ id, t = .c (.own id 0 (List.map intI x).length) ∧ s[id]? = some (some (Blk.im 1 (List.map intI x)))) .ret st) ?_ ?_ ?_
 ·try dsimp only
  exact Sub.cut ⟨rfl, rfl, rfl, rfl, trivial⟩ rfl ⟨.one rfl, .vec, .dead, .vec, trivial⟩ rfl
 ·intro c3 o h
  unfold cyclic_Distances_l1 at h
  try dsimp only at h ⊢
  refine AWP.block (.seq ?_)
  obtain ⟨a21, ha21, h⟩ := bind_some h
  refine AWP.region (W.loadAgg rfl rfl rfl rfl rfl rfl rfl (.move rfl rfl (.move rfl rfl (.move rfl rfl (S.freshL (fun _ => rfl) rfl rfl (.cons (.agg (.cons .imm (.cons .imm (.cons .imm (.cons .imm .nil))))) (.cons (.c .imm) (.cons (.c (.own rfl rfl)) (.cons (.c (.own rfl rfl)) .nil)))) rfl (cyclic_measure_ok ha21) rfl rfl ?_)))))
  refine AOps.assign rfl rfl (.nil (thn_normal (.seq (.region (.assign rfl rfl (.nil (thn_normal (.seq (.seq (.region (.move rfl rfl (S.lenO rfl rfl rfl (fun hl23 => .move rfl rfl (.nil (thn_normal (.block ?_))))))))))))))))
  obtain ⟨⟨c4, same5⟩, ho2, h⟩ := bind_some h
  try dsimp only at h
  refine AWP.forS ho2 (fun t6 (c4, same5) => ⟨[(1, .c (row 1 eLi64 all)), (2, .c (.ptr 0 0 0)), (5, .c (.own 1 0 a12.length)), (6, .c (.own 3 0 c4.length)), (7, .c (.own 4 0 a21.length)), (8, .c (bool same5)), (23, .c (int (a21.length : Int))), (24, .c (int t6))], [.one (.cells 4 [[int ov.facts, row 1 intI ov.init, row 1 intI ov.goal, row 3 eTOpenOperator ov.operators]]), .one (vec 1 eLLi64 a12), .dead, .one (vec 1 intI c4), .one (vec 1 intI a21)]⟩) (fun (c4, same5) e st => e = .exit 2 ∧ Sub [] st ⟨[(1, .c (row 1 eLi64 all)), (2, .c (.ptr 0 0 0)), (5, .c (.own 1 0 a12.length)), (6, .c (.own 3 0 c4.length)), (7, .c (.own 4 0 a21.length)), (8, .c (bool same5))], [.one (.cells 4 [[int ov.facts, row 1 intI ov.init, row 1 intI ov.goal, row 3 eTOpenOperator ov.operators]]), .one (vec 1 eLLi64 a12), .dead, .one (vec 1 intI c4), .one (vec 1 intI a21)]⟩) ?_ ?_ ?_ ?_
  ·try dsimp only
   exact Sub.env ⟨rfl, rfl, rfl, rfl, rfl, rfl, rfl, rfl, trivial⟩
  ·intro t6 s hlot6 hltt6 _
   obtain ⟨c4, same5⟩ := s
   try dsimp only
   refine AWP.seq (.region (.lss rfl rfl rfl (.nil (thn_normal (.seq (.condNP rfl hltt6 (.exit (thn_exit (thn_exit ⟨rfl, ?_⟩)))))))))
   exact Sub.env ⟨rfl, rfl, rfl, rfl, rfl, rfl, trivial⟩
  ·intro t6 s o hlot6 hltt6 h
   obtain ⟨c4, same5⟩ := s
   unfold cyclic_Distances_l2 at h
   try dsimp only at h ⊢
   refine AWP.seq (.region (.lss rfl rfl rfl (.nil (thn_normal (.seq (.condP rfl hltt6 (.skip (thn_normal (.seq (.block (.seq (.region (.move rfl rfl (.assign rfl rfl (.nil (thn_normal ?_))))))))))))))))
   obtain ⟨same7, hx8, h⟩ := bind_some h
   refine AWP.seqJ (⟨[(1, .c (row 1 eLi64 all)), (2, .c (.ptr 0 0 0)), (5, .c (.own 1 0 a12.length)), (6, .c (.own 3 0 c4.length)), (7, .c (.own 4 0 a21.length)), (8, .c (bool same7)), (9, .c (int t6)), (23, .c (int (a21.length : Int))), (24, .c (int t6))], [.one (.cells 4 [[int ov.facts, row 1 intI ov.init, row 1 intI ov.goal, row 3 eTOpenOperator ov.operators]]), .one (vec 1 eLLi64 a12), .dead, .one (vec 1 intI c4), .one (vec 1 intI a21)]⟩) ?_ ?_
   ·rcases Bool.eq_false_or_eq_true (same5) with hb9 | hb9
    ·replace hx8 := iteBT hb9 hx8
     obtain ⟨a31, ha31, hx8⟩ := bind_some hx8
     obtain ⟨a36, ha36, hx8⟩ := bind_some hx8
     refine AWP.drawI mixed rfl ?_
     apply DrawSeq.consF; exact rfl; intro E
     refine AOps.move rfl rfl (.nil ⟨rfl, rfl⟩)
     exact rfl
     apply DrawSeq.consF; exact rfl; intro E
     refine AOps.move rfl rfl (.nil ⟨rfl, rfl⟩)
     exact rfl
     apply DrawSeq.consF; exact rfl; intro E
     refine AOps.guardT rfl rfl rfl hb9 (.move rfl rfl (.nil ⟨rfl, rfl⟩))
     exact rfl
     apply DrawSeq.consF; exact rfl; intro E
     refine AOps.guardT rfl rfl rfl hb9 (.move rfl rfl (.nil ⟨rfl, rfl⟩))
     exact rfl
     apply DrawSeq.consF; exact rfl; intro E
     refine AOps.guardT rfl rfl rfl hb9 (S.idxO ha31 rfl rfl rfl rfl rfl (.nil ⟨rfl, rfl⟩))
     exact rfl
     apply DrawSeq.consF; exact rfl; intro E
     refine AOps.guardT rfl rfl rfl hb9 (S.loadO ha31 rfl rfl rfl rfl rfl (.nil ⟨rfl, rfl⟩))
     exact rfl
     apply DrawSeq.consF; exact rfl; intro E
     refine AOps.guardT rfl rfl rfl hb9 (.geq rfl rfl rfl (.nil ⟨rfl, rfl⟩))
     exact rfl
     apply DrawSeq.consF; exact rfl; intro E
     refine AOps.guardT rfl rfl rfl hb9 (.move rfl rfl (.nil ⟨rfl, rfl⟩))
     exact rfl
     apply DrawSeq.consF; exact rfl; intro E
     refine AOps.guardT rfl rfl rfl hb9 (.move rfl rfl (.nil ⟨rfl, rfl⟩))
     exact rfl
     apply DrawSeq.consF; exact rfl; intro E
     refine AOps.guardT rfl rfl rfl hb9 (S.idxO ha36 rfl rfl rfl rfl rfl (.nil ⟨rfl, rfl⟩))
     exact rfl
     apply DrawSeq.consF; exact rfl; intro E
     refine AOps.guardT rfl rfl rfl hb9 (S.loadO ha36 rfl rfl rfl rfl rfl (.nil ⟨rfl, rfl⟩))
     exact rfl
     apply DrawSeq.consF; exact rfl; intro E
     refine AOps.guardT rfl rfl rfl hb9 (.gtr rfl rfl rfl (.nil ⟨rfl, rfl⟩))
     exact rfl
     apply DrawSeq.consF; exact rfl; intro E
     refine AOps.guardT rfl rfl rfl hb9 (.eqlB rfl rfl rfl (.nil ⟨rfl, rfl⟩))
     exact rfl
     apply DrawSeq.consF; exact rfl; intro E
     refine AOps.pickT rfl hb9 rfl rfl (.nil ⟨rfl, rfl⟩)
     exact rfl
     apply DrawSeq.consF; exact rfl; intro E
     refine AOps.assign rfl rfl (.nil ⟨rfl, rfl⟩)
     exact rfl
     refine DrawSeq.done ?_
     dsimp only [envEnd]
     have ej := Option.some.inj hx8
     subst ej
     refine thn_normal (Sub.env ⟨rfl, rfl, rfl, rfl, rfl, rfl, rfl, rfl, rfl, trivial⟩)
    ·replace hx8 := iteBF hb9 hx8
     refine AWP.drawI mixed rfl ?_
     apply DrawSeq.consF; exact rfl; intro E
     refine AOps.move rfl rfl (.nil ⟨rfl, rfl⟩)
     exact rfl
     apply DrawSeq.consF; exact rfl; intro E
     refine AOps.move rfl rfl (.nil ⟨rfl, rfl⟩)
     exact rfl
     apply DrawSeq.consF; exact rfl; intro E
     refine AOps.guardF rfl rfl rfl hb9 (.nil ⟨rfl, rfl⟩)
     exact rfl
     apply DrawSeq.consF; exact rfl; intro E
     refine AOps.guardF rfl rfl rfl hb9 (.nil ⟨rfl, rfl⟩)
     exact rfl
     apply DrawSeq.consF; exact rfl; intro E
     refine AOps.guardF rfl rfl rfl hb9 (.nil ⟨rfl, rfl⟩)
     exact rfl
     apply DrawSeq.consF; exact rfl; intro E
     refine AOps.guardF rfl rfl rfl hb9 (.nil ⟨rfl, rfl⟩)
     exact rfl
     apply DrawSeq.consF; exact rfl; intro E
     refine AOps.guardF rfl rfl rfl hb9 (.nil ⟨rfl, rfl⟩)
     exact rfl
     apply DrawSeq.consF; exact rfl; intro E
     refine AOps.guardF rfl rfl rfl hb9 (.nil ⟨rfl, rfl⟩)
     exact rfl
     apply DrawSeq.consF; exact rfl; intro E
     refine AOps.guardF rfl rfl rfl hb9 (.nil ⟨rfl, rfl⟩)
     exact rfl
     apply DrawSeq.consF; exact rfl; intro E
     refine AOps.guardF rfl rfl rfl hb9 (.nil ⟨rfl, rfl⟩)
     exact rfl
     apply DrawSeq.consF; exact rfl; intro E
     refine AOps.guardF rfl rfl rfl hb9 (.nil ⟨rfl, rfl⟩)
     exact rfl
     apply DrawSeq.consF; exact rfl; intro E
     refine AOps.guardF rfl rfl rfl hb9 (.nil ⟨rfl, rfl⟩)
     exact rfl
     apply DrawSeq.consF; exact rfl; intro E
     refine AOps.guardF rfl rfl rfl hb9 (.nil ⟨rfl, rfl⟩)
     exact rfl
     apply DrawSeq.consF; exact rfl; intro E
     refine AOps.pickF rfl hb9 rfl rfl (.nil ⟨rfl, rfl⟩)
     exact rfl
     apply DrawSeq.consF; exact rfl; intro E
     refine AOps.assign rfl rfl (.nil ⟨rfl, rfl⟩)
     exact rfl
     refine DrawSeq.done ?_
     dsimp only [envEnd]
     have ej := Option.some.inj hx8
     subst ej
     refine thn_normal (Sub.env ⟨rfl, rfl, rfl, rfl, rfl, rfl, rfl, rfl, rfl, trivial⟩)
   ·obtain ⟨a45, ha45, h⟩ := bind_some h
    obtain ⟨a49, ha49, h⟩ := bind_some h
    refine AWP.region (.move rfl rfl (.move rfl rfl (.move rfl rfl (.move rfl rfl (S.idxO ha45 rfl rfl rfl rfl rfl (S.loadO ha45 rfl rfl rfl rfl rfl (S.add rfl rfl rfl (.min2 rfl rfl rfl (S.idxO ha49 rfl rfl rfl rfl rfl (S.storeO1 (f := intI) (a' := min 1 (w64 (a45 + 1))) (ix_lt ha49) (fun _ => ⟨_, rfl⟩) rfl rfl rfl rfl rfl ?_))))))))))
    refine AOps.nil (inB_normal (thn_normal (.region (.add rfl rfl rfl (by omega) (.move rfl rfl (.nil ?_))))))
    have ej := Option.some.inj h
    subst ej
    refine thn_normal (Sub.env ⟨rfl, rfl, rfl, (own_len (by first | rfl | simp only [List.length_set])), rfl, rfl, rfl, rfl, trivial⟩)
  ·intro e s hq
   obtain ⟨rfl, hs⟩ := hq
   refine ⟨_, hs, ?_⟩
   refine inB_exit (thn_normal (.seq (.region (.move rfl rfl (.nil (thn_normal (.iteB rfl h (fun hc10 h => ?_) (fun hc10 h => ?_))))))))
   ·refine AWP.seq (.region (.move rfl rfl (.assign rfl rfl (.nil (thn_normal (.ret (inB_ret ?_)))))))
    have ej := Option.some.inj h
    subst ej
    refine thn_ret ⟨_, rfl, rfl, ?_⟩
    exact Done.ret rfl (Fresh.mk rfl rfl)
   ·refine AWP.skip (inB_normal ?_)
    have ej := Option.some.inj h
    subst ej
    refine thn_normal ⟨_, rfl, ?_⟩
    exact Sub.cut ⟨rfl, rfl, rfl, rfl, trivial⟩ rfl ⟨.one rfl, .vec, .dead, .vec, trivial⟩ rfl
 ·intro e s hq
  obtain ⟨rfl, hs⟩ := hq
  refine ⟨_, Sub.refl _ _, ?_⟩
  refine inB_ret ?_
  have ej := Option.some.inj h
  subst ej
  exact hs
theorem cyclic_Policy_1_ok {sv : List Int} {c2 : List Int} {c3 : List (List Int)} {c4 : TOpenTask} {r : Int} (h : cyclic_Policy_1 sv c2 c3 c4 = some r) : PureOk Tryz.prog 59 [.c (row 1 intI sv), .c (.imm (.ipt [.sl 1 (List.map intI c2)])), .c (.imm (.ipt [.sl 1 (List.map eLi64 c3)])), .c (.imm (.ipt [.val (.int .i64 c4.facts), .sl 1 (List.map intI c4.init), .sl 1 (List.map intI c4.goal), .sl 3 (List.map eTOpenOperator c4.operators)]))] (.c (int r)) := by
 unfold PureOk
 refine FnOk.enter (rs := [.t 5]) Tryz.func59 rfl Tryz.ntmps59 Tryz.results59 rfl ⟨trivial, trivial⟩ (by kernel_rfl) rfl ?_
 unfold cyclic_Policy_1 at h
 refine AWP.seq (.region (.assign rfl rfl (.nil (thn_normal (.seq ?_)))))
 obtain ⟨a18, ha18, h⟩ := bind_some h
 obtain ⟨a19, ha19, h⟩ := bind_some h
 refine AWP.drawI mixed rfl ?_
 apply DrawSeq.consF; exact rfl; intro E
 refine AOps.loadI rfl rfl rfl rfl (.nil ⟨rfl, rfl⟩)
 exact rfl
 apply DrawSeq.consF; exact rfl; intro E
 refine AOps.loadI rfl rfl rfl rfl (.nil ⟨rfl, rfl⟩)
 exact rfl
 apply DrawSeq.consF; exact rfl; intro E
 refine AOps.move rfl rfl (.nil ⟨rfl, rfl⟩)
 exact rfl
 apply DrawSeq.consF; exact rfl; intro E
 refine AOps.callR rfl rfl rfl rfl (open_Find_ok ha18) rfl (.nil ⟨rfl, rfl⟩)
 exact rfl
 apply DrawSeq.consF; exact rfl; intro E
 refine S.idx ha19 rfl rfl rfl rfl (.nil ⟨rfl, rfl⟩)
 exact rfl
 apply DrawSeq.consF; exact rfl; intro E
 refine AOps.loadI rfl rfl rfl rfl (.nil ⟨rfl, rfl⟩)
 exact rfl
 apply DrawSeq.consF; exact rfl; intro E
 refine AOps.assign rfl rfl (.nil ⟨rfl, rfl⟩)
 exact rfl
 refine DrawSeq.done ?_
 dsimp only [envEnd]
 refine thn_normal (.seq (.seq (.region (W.fieldAddrI rfl rfl rfl rfl (.loadI rfl rfl rfl rfl (S.len rfl rfl (fun hl23 => .move rfl rfl (.nil (thn_normal (.block ?_))))))))))
 obtain ⟨oo, ho1, h⟩ := bind_some h
 refine AWP.rngS ho1 (fun t2 _ => ⟨[(0, .c (row 1 intI sv)), (1, .c (.imm (.ipt [.sl 1 (List.map intI c2)]))), (2, .c (.imm (.ipt [.sl 1 (List.map eLi64 c3)]))), (3, .c (.imm (.ipt [.val (.int .i64 c4.facts), .sl 1 (List.map intI c4.init), .sl 1 (List.map intI c4.goal), .sl 3 (List.map eTOpenOperator c4.operators)]))), (6, .c (int a19)), (23, .c (int (c4.operators.length : Int))), (24, .c (int t2))], []⟩) (fun o e st => match o with | .inl _ => e = .exit 0 ∧ Sub [] st ⟨[], []⟩ | .inr x => e = .ret ∧ Done [.t 5] (fun t _ => t = .c (int x)) .ret st) ?_ ?_ ?_ ?_
 ·try dsimp only
  exact Sub.env ⟨rfl, rfl, rfl, rfl, rfl, rfl, rfl, trivial⟩
 ·intro t2 s hlot2 hltt2 _
  try dsimp only
  refine AWP.seq (.region (.lss rfl rfl rfl (.nil (thn_normal (.seq (.condNP rfl hltt2 (.exit (thn_exit (thn_exit ⟨rfl, ?_⟩)))))))))
  exact Sub.env trivial
 ·intro t2 s o hlot2 hltt2 h
  unfold cyclic_Policy_1_l1 at h
  try dsimp only at h ⊢
  refine AWP.seq (.region (.lss rfl rfl rfl (.nil (thn_normal (.seq (.condP rfl hltt2 (.skip (thn_normal (.seqF (cyclic_Policy_1_j2) o (fun () => ⟨[(0, .c (row 1 intI sv)), (1, .c (.imm (.ipt [.sl 1 (List.map intI c2)]))), (2, .c (.imm (.ipt [.sl 1 (List.map eLi64 c3)]))), (3, .c (.imm (.ipt [.val (.int .i64 c4.facts), .sl 1 (List.map intI c4.init), .sl 1 (List.map intI c4.goal), .sl 3 (List.map eTOpenOperator c4.operators)]))), (6, .c (int a19)), (23, .c (int (c4.operators.length : Int))), (24, .c (int t2))], []⟩) (fun x h => ?_) ?_)))))))))
  ·unfold cyclic_Policy_1_j2 at h
   try dsimp only at h ⊢
   refine AWP.region (.add rfl rfl rfl (by omega) (.move rfl rfl (.nil ?_)))
   have ej := Option.some.inj h
   subst ej
   refine thn_normal ⟨_, rfl, ?_⟩
   exact Sub.env ⟨rfl, rfl, rfl, rfl, rfl, rfl, rfl, trivial⟩
  ·refine AWP.block (.seq (.region (.move rfl rfl (.assign rfl rfl (.nil (thn_normal (.seq (.seq ?_))))))))
   obtain ⟨a30, ha30, h⟩ := bind_some h
   refine AWP.region (W.loadIAgg rfl rfl rfl rfl rfl (.move rfl rfl (.move rfl rfl (.callR rfl rfl rfl rfl (open_Can_ok ha30) rfl (.not rfl rfl (.nil (thn_normal (.iteB rfl h (fun hc3 h => ?_) (fun hc3 h => ?_)))))))))
   ·refine AWP.exit (thn_exit (inB_exit (thn_normal ⟨_, h, ?_⟩)))
    exact Sub.env ⟨rfl, rfl, rfl, rfl, rfl, rfl, rfl, trivial⟩
   ·refine AWP.skip (thn_normal (.seq ?_))
    obtain ⟨a36, ha36, h⟩ := bind_some h
    refine AWP.region (W.loadIAgg rfl rfl rfl rfl rfl (.move rfl rfl (.move rfl rfl (.callR rfl rfl rfl rfl (open_Results_ok ha36) rfl (.move rfl rfl (.extract rfl rfl rfl (.extract rfl rfl rfl (.assign rfl rfl (.assign rfl rfl (.nil (thn_normal (.seq (.region (.assign rfl rfl (.assign rfl rfl (.nil (thn_normal (.seq (.seq (.region (.move rfl rfl (S.len rfl rfl (fun hl40 => .move rfl rfl (.nil (thn_normal (.block ?_))))))))))))))))))))))))))
    obtain ⟨⟨sure4, near5⟩, ho3, h⟩ := bind_some h
    try dsimp only at h
    refine AWP.forS ho3 (fun t6 (sure4, near5) => ⟨[(0, .c (row 1 intI sv)), (1, .c (.imm (.ipt [.sl 1 (List.map intI c2)]))), (2, .c (.imm (.ipt [.sl 1 (List.map eLi64 c3)]))), (3, .c (.imm (.ipt [.val (.int .i64 c4.facts), .sl 1 (List.map intI c4.init), .sl 1 (List.map intI c4.goal), .sl 3 (List.map eTOpenOperator c4.operators)]))), (6, .c (int a19)), (7, .c (int t2)), (10, .c (bool sure4)), (11, .c (bool near5)), (23, .c (int (c4.operators.length : Int))), (24, .c (int t2)), (39, .c (row 1 eLi64 a36.1)), (40, .c (int (a36.1.length : Int))), (41, .c (int t6))], []⟩) (fun (sure4, near5) e st => e = .exit 2 ∧ Sub [] st ⟨[(0, .c (row 1 intI sv)), (1, .c (.imm (.ipt [.sl 1 (List.map intI c2)]))), (2, .c (.imm (.ipt [.sl 1 (List.map eLi64 c3)]))), (3, .c (.imm (.ipt [.val (.int .i64 c4.facts), .sl 1 (List.map intI c4.init), .sl 1 (List.map intI c4.goal), .sl 3 (List.map eTOpenOperator c4.operators)]))), (6, .c (int a19)), (7, .c (int t2)), (10, .c (bool sure4)), (11, .c (bool near5)), (23, .c (int (c4.operators.length : Int))), (24, .c (int t2))], []⟩) ?_ ?_ ?_ ?_
    ·try dsimp only
     exact Sub.env ⟨rfl, rfl, rfl, rfl, rfl, rfl, rfl, rfl, rfl, rfl, rfl, rfl, rfl, trivial⟩
    ·intro t6 s hlot6 hltt6 _
     obtain ⟨sure4, near5⟩ := s
     try dsimp only
     refine AWP.seq (.region (.lss rfl rfl rfl (.nil (thn_normal (.seq (.condNP rfl hltt6 (.exit (thn_exit (thn_exit ⟨rfl, ?_⟩)))))))))
     exact Sub.env ⟨rfl, rfl, rfl, rfl, rfl, rfl, rfl, rfl, rfl, rfl, trivial⟩
    ·intro t6 s o hlot6 hltt6 h
     obtain ⟨sure4, near5⟩ := s
     unfold cyclic_Policy_1_l3 at h
     try dsimp only at h ⊢
     refine AWP.seq (.region (.lss rfl rfl rfl (.nil (thn_normal (.seq (.condP rfl hltt6 (.skip (thn_normal ?_))))))))
     obtain ⟨⟨sure7, near8⟩, hx9, h⟩ := bind_some h
     refine AWP.seqJ (⟨[(0, .c (row 1 intI sv)), (1, .c (.imm (.ipt [.sl 1 (List.map intI c2)]))), (2, .c (.imm (.ipt [.sl 1 (List.map eLi64 c3)]))), (3, .c (.imm (.ipt [.val (.int .i64 c4.facts), .sl 1 (List.map intI c4.init), .sl 1 (List.map intI c4.goal), .sl 3 (List.map eTOpenOperator c4.operators)]))), (6, .c (int a19)), (7, .c (int t2)), (10, .c (bool sure7)), (11, .c (bool near8)), (23, .c (int (c4.operators.length : Int))), (24, .c (int t2)), (39, .c (row 1 eLi64 a36.1)), (40, .c (int (a36.1.length : Int))), (41, .c (int t6))], []⟩) ?_ ?_
     ·refine AWP.block (.seq ?_)
      obtain ⟨a43, ha43, hx9⟩ := bind_some hx9
      refine AWP.region (S.idx ha43 rfl rfl rfl rfl (.loadI rfl rfl rfl rfl (.assign rfl rfl (.nil (thn_normal (.seq ?_))))))
      obtain ⟨a48, ha48, hx9⟩ := bind_some hx9
      obtain ⟨a49, ha49, hx9⟩ := bind_some hx9
      refine AWP.drawI mixed rfl ?_
      apply DrawSeq.consF; exact rfl; intro E
      refine AOps.loadI rfl rfl rfl rfl (.nil ⟨rfl, rfl⟩)
      exact rfl
      apply DrawSeq.consF; exact rfl; intro E
      refine AOps.loadI rfl rfl rfl rfl (.nil ⟨rfl, rfl⟩)
      exact rfl
      apply DrawSeq.consF; exact rfl; intro E
      refine AOps.move rfl rfl (.nil ⟨rfl, rfl⟩)
      exact rfl
      apply DrawSeq.consF; exact rfl; intro E
      refine AOps.callR rfl rfl rfl rfl (open_Find_ok ha48) rfl (.nil ⟨rfl, rfl⟩)
      exact rfl
      apply DrawSeq.consF; exact rfl; intro E
      refine S.idx ha49 rfl rfl rfl rfl (.nil ⟨rfl, rfl⟩)
      exact rfl
      apply DrawSeq.consF; exact rfl; intro E
      refine AOps.loadI rfl rfl rfl rfl (.nil ⟨rfl, rfl⟩)
      exact rfl
      apply DrawSeq.consF; exact rfl; intro E
      refine AOps.assign rfl rfl (.nil ⟨rfl, rfl⟩)
      exact rfl
      refine DrawSeq.done ?_
      dsimp only [envEnd]
      refine thn_normal ?_
      rcases Bool.eq_false_or_eq_true (sure4) with hb10 | hb10
      ·replace hx9 := iteBT hb10 hx9
       rcases Bool.eq_false_or_eq_true (near5) with hb11 | hb11
       ·replace hx9 := iteBT hb11 hx9
        refine AWP.region (.move rfl rfl (.move rfl rfl (.guardT rfl rfl rfl hb10 (.move rfl rfl (.guardT rfl rfl rfl hb10 (.geq rfl rfl rfl (.pickT rfl hb10 rfl rfl (.move rfl rfl (.move rfl rfl (.guardF rfl rfl rfl hb11 (.guardF rfl rfl rfl hb11 (.guardF rfl rfl rfl hb11 (.guardF rfl rfl rfl hb11 (.pickT rfl hb11 rfl rfl (.assign rfl rfl (.assign rfl rfl (.nil (inB_normal ?_))))))))))))))))))
        have ej := Option.some.inj hx9
        simp only [Prod.mk.injEq] at ej
        obtain ⟨ej0, ej1⟩ := ej
        subst ej0
        subst ej1
        refine thn_normal (Sub.env ⟨rfl, rfl, rfl, rfl, rfl, rfl, rfl, rfl, rfl, rfl, rfl, rfl, rfl, trivial⟩)
       ·replace hx9 := iteBF hb11 hx9
        refine AWP.region (.move rfl rfl (.move rfl rfl (.guardT rfl rfl rfl hb10 (.move rfl rfl (.guardT rfl rfl rfl hb10 (.geq rfl rfl rfl (.pickT rfl hb10 rfl rfl (.move rfl rfl (.move rfl rfl (.guardT rfl rfl rfl hb11 (.move rfl rfl (.guardT rfl rfl rfl hb11 (.move rfl rfl (.guardT rfl rfl rfl hb11 (S.sub rfl rfl rfl (.guardT rfl rfl rfl hb11 (.eql rfl rfl rfl (.pickF rfl hb11 rfl rfl (.assign rfl rfl (.assign rfl rfl (.nil (inB_normal ?_))))))))))))))))))))))
        have ej := Option.some.inj hx9
        simp only [Prod.mk.injEq] at ej
        obtain ⟨ej0, ej1⟩ := ej
        subst ej0
        subst ej1
        refine thn_normal (Sub.env ⟨rfl, rfl, rfl, rfl, rfl, rfl, rfl, rfl, rfl, rfl, rfl, rfl, rfl, trivial⟩)
      ·replace hx9 := iteBF hb10 hx9
       rcases Bool.eq_false_or_eq_true (near5) with hb12 | hb12
       ·replace hx9 := iteBT hb12 hx9
        refine AWP.region (.move rfl rfl (.move rfl rfl (.guardF rfl rfl rfl hb10 (.guardF rfl rfl rfl hb10 (.pickF rfl hb10 rfl rfl (.move rfl rfl (.move rfl rfl (.guardF rfl rfl rfl hb12 (.guardF rfl rfl rfl hb12 (.guardF rfl rfl rfl hb12 (.guardF rfl rfl rfl hb12 (.pickT rfl hb12 rfl rfl (.assign rfl rfl (.assign rfl rfl (.nil (inB_normal ?_))))))))))))))))
        have ej := Option.some.inj hx9
        simp only [Prod.mk.injEq] at ej
        obtain ⟨ej0, ej1⟩ := ej
        subst ej0
        subst ej1
        refine thn_normal (Sub.env ⟨rfl, rfl, rfl, rfl, rfl, rfl, rfl, rfl, rfl, rfl, rfl, rfl, rfl, trivial⟩)
       ·replace hx9 := iteBF hb12 hx9
        refine AWP.region (.move rfl rfl (.move rfl rfl (.guardF rfl rfl rfl hb10 (.guardF rfl rfl rfl hb10 (.pickF rfl hb10 rfl rfl (.move rfl rfl (.move rfl rfl (.guardT rfl rfl rfl hb12 (.move rfl rfl (.guardT rfl rfl rfl hb12 (.move rfl rfl (.guardT rfl rfl rfl hb12 (S.sub rfl rfl rfl (.guardT rfl rfl rfl hb12 (.eql rfl rfl rfl (.pickF rfl hb12 rfl rfl (.assign rfl rfl (.assign rfl rfl (.nil (inB_normal ?_))))))))))))))))))))
        have ej := Option.some.inj hx9
        simp only [Prod.mk.injEq] at ej
        obtain ⟨ej0, ej1⟩ := ej
        subst ej0
        subst ej1
        refine thn_normal (Sub.env ⟨rfl, rfl, rfl, rfl, rfl, rfl, rfl, rfl, rfl, rfl, rfl, rfl, rfl, trivial⟩)
     ·try dsimp only at h
      refine AWP.region (.add rfl rfl rfl (by omega) (.move rfl rfl (.nil ?_)))
      have ej := Option.some.inj h
      subst ej
      refine thn_normal (Sub.env ⟨rfl, rfl, rfl, rfl, rfl, rfl, rfl, rfl, rfl, rfl, rfl, rfl, rfl, trivial⟩)
    ·intro e s hq
     obtain ⟨rfl, hs⟩ := hq
     refine ⟨_, hs, ?_⟩
     refine inB_exit (thn_normal (.seqJ (⟨[(0, .c (row 1 intI sv)), (1, .c (.imm (.ipt [.sl 1 (List.map intI c2)]))), (2, .c (.imm (.ipt [.sl 1 (List.map eLi64 c3)]))), (3, .c (.imm (.ipt [.val (.int .i64 c4.facts), .sl 1 (List.map intI c4.init), .sl 1 (List.map intI c4.goal), .sl 3 (List.map eTOpenOperator c4.operators)]))), (6, .c (int a19)), (7, .c (int t2)), (23, .c (int (c4.operators.length : Int))), (24, .c (int t2)), (67, .c (bool (sure4 && near5)))], []⟩) ?_ ?_))
     ·rcases Bool.eq_false_or_eq_true (sure4) with hb1 | hb1
      ·refine AWP.region (.move rfl rfl (.move rfl rfl (.guardT rfl rfl rfl hb1 (.move rfl rfl (.pickT rfl hb1 rfl rfl (.nil (thn_normal ?_)))))))
       simp only [and_t hb1, or_t hb1, Bool.false_or, Bool.true_or, Bool.false_and, Bool.true_and]
       exact Sub.env ⟨rfl, rfl, rfl, rfl, rfl, rfl, rfl, rfl, rfl, trivial⟩
      ·refine AWP.region (.move rfl rfl (.move rfl rfl (.guardF rfl rfl rfl hb1 (.pickF rfl hb1 rfl rfl (.nil (thn_normal ?_))))))
       simp only [and_f hb1, or_f hb1, Bool.false_or, Bool.true_or, Bool.false_and, Bool.true_and]
       exact Sub.env ⟨rfl, rfl, rfl, rfl, rfl, rfl, rfl, rfl, rfl, trivial⟩
     ·refine AWP.iteB rfl h (fun hc13 h => ?_) (fun hc13 h => ?_)
      ·refine AWP.seq (.region (.move rfl rfl (.assign rfl rfl (.nil (thn_normal (.ret (inB_ret (thn_ret ?_))))))))
       have ej := Option.some.inj h
       subst ej
       refine thn_ret ⟨_, rfl, rfl, ?_⟩
       exact Done.ret rfl rfl
      ·refine AWP.skip (inB_normal (thn_normal ⟨_, h, ?_⟩))
       exact Sub.env ⟨rfl, rfl, rfl, rfl, rfl, rfl, rfl, trivial⟩
 ·intro e s hq
  rcases oo with u | x
  ·try dsimp only at h hq
   obtain ⟨rfl, hs⟩ := hq
   refine ⟨_, hs, ?_⟩
   refine inB_exit (thn_normal (.seq (.region (.assign rfl rfl (.nil (thn_normal (.ret ?_)))))))
   have ej := Option.some.inj h
   subst ej
   exact Done.ret rfl rfl
  ·try dsimp only at h hq
   obtain ⟨rfl, hs⟩ := hq
   refine ⟨_, Sub.refl _ _, ?_⟩
   refine inB_ret (thn_ret ?_)
   have ej := Option.some.inj h
   subst ej
   exact hs
theorem cyclic_Policy_ok {ov : TOpenTask} {r : (List TChoice) × Bool × TFault} (h : cyclic_Policy ov = some r) : PureOk Tryz.prog 21 [.agg [int ov.facts, row 1 intI ov.init, row 1 intI ov.goal, row 3 eTOpenOperator ov.operators]] (.tup [.c (row 2 eTChoice r.1), .c (bool r.2.1), .agg [int r.2.2.code, int r.2.2.index]]) := by
 unfold PureOk
 refine FnOk.enter (rs := [.t 2, .t 3, .cell 4 28 2]) Tryz.func21 rfl Tryz.ntmps21 Tryz.results21 rfl ⟨trivial, trivial, rv _ rfl, trivial⟩ (by kernel_rfl) rfl ?_
 unfold cyclic_Policy at h
 refine AWP.seq (.region (W.box rfl rfl rfl rfl rfl rfl (.assign rfl rfl (.assign rfl rfl (W.alloc rfl rfl rfl rfl (.nil (thn_normal (.seq ?_))))))))
 obtain ⟨a12, ha12, h⟩ := bind_some h
 refine AWP.region (W.loadAgg rfl rfl rfl rfl rfl rfl rfl (.callR rfl rfl rfl rfl (open_Explore_ok ha12) rfl (.move rfl rfl (.extract rfl rfl rfl (.extract rfl rfl rfl (W.alloc rfl rfl rfl rfl (W.alloc rfl rfl rfl rfl (W.store rfl rfl rfl rfl rfl (W.storeAgg rfl rfl rfl rfl rfl rfl rfl (.nil (thn_normal (.seq (.seq (.region (W.loadAgg rfl rfl rfl rfl rfl rfl rfl (W.build rfl rfl rfl rfl (.neqP rfl rfl rfl rfl rfl rfl rfl (.nil (thn_normal (.iteB rfl h (fun hc2 h => ?_) (fun hc2 h => ?_)))))))))))))))))))))
 ·refine AWP.seq (.drawEI [3] mixed rfl rfl rfl ?_)
  apply DrawSeqE.consN; exact rfl; exact rfl; intro E
  refine W.loadAgg rfl rfl rfl rfl rfl rfl rfl (.nil ⟨rfl, rfl⟩)
  exact rfl
  apply DrawSeqE.consN; exact rfl; exact rfl; intro E
  refine AOps.assign rfl rfl (.nil ⟨rfl, rfl⟩)
  exact rfl
  apply DrawSeqE.consN; exact rfl; exact rfl; intro E
  refine AOps.assign rfl rfl (.nil ⟨rfl, rfl⟩)
  exact rfl
  apply DrawSeqE.consE (v := .undef); exact rfl; exact rfl; intro E
  refine W.storeAgg rfl rfl rfl rfl rfl rfl rfl (.nil ⟨rfl, rfl⟩)
  exact rfl
  exact rfl
  refine DrawSeqE.done rfl ?_ ?_
  ·apply RestI.cons; exact rfl; exact rfl
   apply RestK.go; exact rfl; exact rfl; intro E; refine W.loadAgg rfl rfl rfl rfl rfl rfl rfl ?_; exact AOps.nil ⟨rfl, rfl⟩
   refine RestK.skip rfl (RestK.nil)
   apply RestI.cons; exact rfl; exact rfl
   apply RestK.go; exact rfl; exact rfl; intro E; refine AOps.assign rfl rfl ?_; exact AOps.nil ⟨rfl, rfl⟩
   refine RestK.skip rfl (RestK.nil)
   apply RestI.cons; exact rfl; exact rfl
   apply RestK.go; exact rfl; exact rfl; intro E; refine AOps.assign rfl rfl ?_; exact AOps.nil ⟨rfl, rfl⟩
   refine RestK.skip rfl (RestK.nil)
   refine RestI.skip rfl (RestI.nil)
  dsimp only [envEnd]
  refine thn_normal (.nilrow 2 2 rfl (.ret (thn_ret ?_)))
  have ej := Option.some.inj h
  subst ej
  exact Done.ret rfl rfl
 ·refine AWP.skip (thn_normal (.seq ?_))
  obtain ⟨a21, ha21, h⟩ := bind_some h
  refine AWP.region (W.loadAgg rfl rfl rfl rfl rfl rfl rfl (.load rfl rfl rfl rfl rfl rfl (S.fresh rfl rfl rfl rfl (cyclic_Distances_ok ha21) rfl rfl (W.alloc rfl rfl rfl rfl (W.store rfl rfl rfl rfl rfl (.nil (thn_normal (.seq (.seq ?_)))))))))
  obtain ⟨a26, ha26, h⟩ := bind_some h
  obtain ⟨a27, ha27, h⟩ := bind_some h
  refine AWP.drawI mixed rfl ?_
  apply DrawSeq.consF; exact rfl; intro E
  refine AOps.load rfl rfl rfl rfl rfl rfl (.nil ⟨rfl, rfl⟩)
  exact rfl
  apply DrawSeq.consF; exact rfl; intro E
  refine AOps.load rfl rfl rfl rfl rfl rfl (.nil ⟨rfl, rfl⟩)
  exact rfl
  apply DrawSeq.consF; exact rfl; intro E
  refine W.fieldAddr rfl rfl rfl rfl (.nil ⟨rfl, rfl⟩)
  exact rfl
  apply DrawSeq.consF; exact rfl; intro E
  refine AOps.load rfl rfl rfl rfl rfl rfl (.nil ⟨rfl, rfl⟩)
  exact rfl
  apply DrawSeq.consF; exact rfl; intro E
  refine AOps.callR rfl rfl rfl rfl (open_Find_ok ha26) rfl (.nil ⟨rfl, rfl⟩)
  exact rfl
  apply DrawSeq.consF; exact rfl; intro E
  refine S.idxO ha27 rfl rfl rfl rfl rfl (.nil ⟨rfl, rfl⟩)
  exact rfl
  apply DrawSeq.consF; exact rfl; intro E
  refine S.loadO ha27 rfl rfl rfl rfl rfl (.nil ⟨rfl, rfl⟩)
  exact rfl
  apply DrawSeq.consF; exact rfl; intro E
  refine AOps.lss rfl rfl rfl (.nil ⟨rfl, rfl⟩)
  exact rfl
  refine DrawSeq.done ?_
  dsimp only [envEnd]
  refine thn_normal (.ite rfl h (fun hc3 h => ?_) (fun hc3 h => ?_))
  ·refine AWP.seq (.region (W.build rfl rfl rfl rfl (.assign rfl rfl (.assign rfl rfl (W.storeAgg rfl rfl rfl rfl rfl rfl rfl (.nil (thn_normal (.nilrow 2 2 rfl (.ret (thn_ret ?_))))))))))
   have ej := Option.some.inj h
   subst ej
   exact Done.ret rfl rfl
  ·refine AWP.skip (thn_normal (.seq ?_))
   obtain ⟨a34, ha34, h⟩ := bind_some h
   refine AWP.region (W.loadAgg rfl rfl rfl rfl rfl rfl rfl (.makeFunc rfl rfl ?_))
   refine AOps.frzV (id := 4) (l := a21) (env2 := [(4, .c (.ptr 1 0 0)), (32, .agg [int ov.facts, row 1 intI ov.init, row 1 intI ov.goal, row 3 eTOpenOperator ov.operators]), (33, .c (.fn 59 [.ptr 5 0 0, .ptr 2 0 0, .ptr 0 0 0]))]) (σ2 := [.one (.cells 4 [[int ov.facts, row 1 intI ov.init, row 1 intI ov.goal, row 3 eTOpenOperator ov.operators]]), .one (.cells 2 [[int 0, int 0]]), .one (.cells 1 [[row 1 eLi64 a12.1]]), .one (.cells 2 [[int a12.2.code, int a12.2.index]]), .dead, .one (.cells 1 [[row 1 intI a21]])]) rfl rfl (by exact ⟨⟨_, rfl, .inl ⟨rfl, rfl⟩⟩, ⟨_, rfl, ⟨.inl ⟨rfl, rfl⟩, .inl ⟨rfl, rfl⟩, .inl ⟨rfl, rfl⟩, .inl ⟨rfl, rfl⟩, trivial⟩⟩, ⟨_, rfl, .inl ⟨rfl, rfl⟩⟩, trivial⟩) rfl (by exact ⟨⟨rfl, .inl ⟨rfl, rfl⟩, .inl ⟨rfl, rfl⟩, .inl ⟨rfl, rfl⟩, .inl ⟨rfl, rfl⟩, trivial⟩, ⟨rfl, .inl ⟨rfl, rfl⟩, .inl ⟨rfl, rfl⟩, trivial⟩, ⟨rfl, .inl ⟨rfl, rfl⟩, trivial⟩, ⟨rfl, .inl ⟨rfl, rfl⟩, .inl ⟨rfl, rfl⟩, trivial⟩, trivial, ⟨rfl, .inr ⟨_, rfl, rfl, rfl⟩, trivial⟩, trivial⟩) ?_; refine AOps.frzB (id := 5) (e := [.sl 1 (List.map intI a21)]) (env2 := [(4, .c (.ptr 1 0 0)), (32, .agg [int ov.facts, row 1 intI ov.init, row 1 intI ov.goal, row 3 eTOpenOperator ov.operators]), (33, .c (.fn 59 [.imm (.ipt [.sl 1 (List.map intI a21)]), .ptr 2 0 0, .ptr 0 0 0]))]) (σ2 := [.one (.cells 4 [[int ov.facts, row 1 intI ov.init, row 1 intI ov.goal, row 3 eTOpenOperator ov.operators]]), .one (.cells 2 [[int 0, int 0]]), .one (.cells 1 [[row 1 eLi64 a12.1]]), .one (.cells 2 [[int a12.2.code, int a12.2.index]]), .dead, .dead]) rfl rfl (by exact ⟨⟨_, rfl, .inl ⟨rfl, rfl⟩⟩, ⟨_, rfl, ⟨.inl ⟨rfl, rfl⟩, .inl ⟨rfl, rfl⟩, .inl ⟨rfl, rfl⟩, .inl ⟨rfl, rfl⟩, trivial⟩⟩, ⟨_, rfl, .inr rfl⟩, trivial⟩) rfl (by exact ⟨⟨rfl, .inl ⟨rfl, rfl⟩, .inl ⟨rfl, rfl⟩, .inl ⟨rfl, rfl⟩, .inl ⟨rfl, rfl⟩, trivial⟩, ⟨rfl, .inl ⟨rfl, rfl⟩, .inl ⟨rfl, rfl⟩, trivial⟩, ⟨rfl, .inl ⟨rfl, rfl⟩, trivial⟩, ⟨rfl, .inl ⟨rfl, rfl⟩, .inl ⟨rfl, rfl⟩, trivial⟩, trivial, trivial, trivial⟩) ?_; refine AOps.frzB (id := 2) (e := [.sl 1 (List.map eLi64 a12.1)]) (env2 := [(4, .c (.ptr 1 0 0)), (32, .agg [int ov.facts, row 1 intI ov.init, row 1 intI ov.goal, row 3 eTOpenOperator ov.operators]), (33, .c (.fn 59 [.imm (.ipt [.sl 1 (List.map intI a21)]), .imm (.ipt [.sl 1 (List.map eLi64 a12.1)]), .ptr 0 0 0]))]) (σ2 := [.one (.cells 4 [[int ov.facts, row 1 intI ov.init, row 1 intI ov.goal, row 3 eTOpenOperator ov.operators]]), .one (.cells 2 [[int 0, int 0]]), .dead, .one (.cells 2 [[int a12.2.code, int a12.2.index]]), .dead, .dead]) rfl rfl (by exact ⟨⟨_, rfl, .inl ⟨rfl, rfl⟩⟩, ⟨_, rfl, ⟨.inl ⟨rfl, rfl⟩, .inl ⟨rfl, rfl⟩, .inl ⟨rfl, rfl⟩, .inl ⟨rfl, rfl⟩, trivial⟩⟩, ⟨_, rfl, .inr rfl⟩, trivial⟩) rfl (by exact ⟨⟨rfl, .inl ⟨rfl, rfl⟩, .inl ⟨rfl, rfl⟩, .inl ⟨rfl, rfl⟩, .inl ⟨rfl, rfl⟩, trivial⟩, ⟨rfl, .inl ⟨rfl, rfl⟩, .inl ⟨rfl, rfl⟩, trivial⟩, trivial, ⟨rfl, .inl ⟨rfl, rfl⟩, .inl ⟨rfl, rfl⟩, trivial⟩, trivial, trivial, trivial⟩) ?_; refine AOps.frzB (id := 0) (e := [.val (.int .i64 ov.facts), .sl 1 (List.map intI ov.init), .sl 1 (List.map intI ov.goal), .sl 3 (List.map eTOpenOperator ov.operators)]) (env2 := [(4, .c (.ptr 1 0 0)), (32, .agg [int ov.facts, row 1 intI ov.init, row 1 intI ov.goal, row 3 eTOpenOperator ov.operators]), (33, .c (.fn 59 [.imm (.ipt [.sl 1 (List.map intI a21)]), .imm (.ipt [.sl 1 (List.map eLi64 a12.1)]), .imm (.ipt [.val (.int .i64 ov.facts), .sl 1 (List.map intI ov.init), .sl 1 (List.map intI ov.goal), .sl 3 (List.map eTOpenOperator ov.operators)])]))]) (σ2 := [.dead, .one (.cells 2 [[int 0, int 0]]), .dead, .one (.cells 2 [[int a12.2.code, int a12.2.index]]), .dead, .dead]) rfl rfl (by exact ⟨⟨_, rfl, .inl ⟨rfl, rfl⟩⟩, ⟨_, rfl, ⟨.inl ⟨rfl, rfl⟩, .inl ⟨rfl, rfl⟩, .inl ⟨rfl, rfl⟩, .inl ⟨rfl, rfl⟩, trivial⟩⟩, ⟨_, rfl, .inr rfl⟩, trivial⟩) rfl (by exact ⟨trivial, ⟨rfl, .inl ⟨rfl, rfl⟩, .inl ⟨rfl, rfl⟩, trivial⟩, trivial, ⟨rfl, .inl ⟨rfl, rfl⟩, .inl ⟨rfl, rfl⟩, trivial⟩, trivial, trivial, trivial⟩) ?_; refine AOps.callR rfl rfl rfl rfl (strong_Build_ok rfl (fun hy => cyclic_Policy_1_ok hy) ha34) rfl ?_
   refine AOps.move rfl rfl (.extract rfl rfl rfl (.extract rfl rfl rfl (.assign rfl rfl (.assign rfl rfl (.nil (thn_normal (.seq (.seq (.region (.move rfl rfl (.not rfl rfl (.nil (thn_normal (.iteB rfl h (fun hc4 h => ?_) (fun hc4 h => ?_)))))))))))))))
   ·refine AWP.seq (.region (W.build rfl rfl rfl rfl (.assign rfl rfl (.assign rfl rfl (W.storeAgg rfl rfl rfl rfl rfl rfl rfl (.nil (thn_normal (.nilrow 2 2 rfl (.ret (thn_ret ?_))))))))))
    have ej := Option.some.inj h
    subst ej
    exact Done.ret rfl rfl
   ·refine AWP.skip (thn_normal (.seq (.region (.move rfl rfl (W.build rfl rfl rfl rfl (.assign rfl rfl (.assign rfl rfl (W.storeAgg rfl rfl rfl rfl rfl rfl rfl (.nil (thn_normal (.ret ?_)))))))))))
    have ej := Option.some.inj h
    subst ej
    exact Done.ret rfl rfl
theorem law8_coin_ok {r : TOpenTask} (h : law8_coin = some r) : PureOk Tryz.prog 62 [] (.agg [int r.facts, row 1 intI r.init, row 1 intI r.goal, row 3 eTOpenOperator r.operators]) := by
 unfold PureOk
 refine FnOk.enter (rs := [.cell 0 25 4]) Tryz.func62 rfl Tryz.ntmps62 Tryz.results62 rfl ⟨rv _ rfl, trivial⟩ (by kernel_rfl) rfl ?_
 unfold law8_coin at h
 refine AWP.seq (.region (W.alloc rfl rfl rfl rfl (.nil (thn_normal (.seq (.region (S.lit (f := intI) (l := [0]) (ess := [[int 0]]) rfl rfl rfl rfl rfl rfl rfl ⟨⟨.inl rfl, trivial⟩, trivial⟩ rfl rfl rfl (S.lit (f := intI) (l := [0]) (ess := [[int 0]]) rfl rfl rfl rfl rfl rfl rfl ⟨⟨.inl rfl, trivial⟩, trivial⟩ rfl rfl rfl (W.build rfl rfl rfl rfl (W.build rfl rfl rfl rfl (.frzV (id := 2) (l := [0]) (env2 := [(0, .c (.ptr 0 0 0)), (1, .c (.own 1 0 ([0].length))), (3, .agg [row 1 intI [0], .imm (.val (.slice none 0 0)), int 1]), (4, .agg [.imm (.val (.slice none 0 0)), .imm (.val (.slice none 0 0)), int 2])]) (σ2 := [.one (.cells 4 [[int 0, .imm (.val (.slice none 0 0)), .imm (.val (.slice none 0 0)), .imm (.val (.slice none 0 0))]]), .one (vec 1 intI [0]), .dead]) rfl rfl (by exact ⟨⟨_, rfl, .inl ⟨rfl, rfl⟩⟩, ⟨_, rfl, .inl ⟨rfl, rfl⟩⟩, ⟨_, rfl, ⟨.inr ⟨_, rfl, rfl, rfl⟩, .inl ⟨rfl, rfl⟩, .inl ⟨rfl, rfl⟩, trivial⟩⟩, ⟨_, rfl, ⟨.inl ⟨rfl, rfl⟩, .inl ⟨rfl, rfl⟩, .inl ⟨rfl, rfl⟩, trivial⟩⟩, trivial⟩) rfl (by exact ⟨⟨rfl, .inl ⟨rfl, rfl⟩, .inl ⟨rfl, rfl⟩, .inl ⟨rfl, rfl⟩, .inl ⟨rfl, rfl⟩, trivial⟩, FrzB.vec, trivial, trivial⟩) (S.lit (f := eTOutcome) (l := [(⟨[0], [], 1⟩ : TOutcome), (⟨[], [], 2⟩ : TOutcome)]) (ess := [[row 1 intI [0], .imm (.val (.slice none 0 0)), int 1], [.imm (.val (.slice none 0 0)), .imm (.val (.slice none 0 0)), int 2]]) rfl rfl rfl rfl rfl rfl rfl ⟨⟨.inl rfl, .inr ⟨rfl, _, rfl⟩, .inl rfl, trivial⟩, ⟨.inr ⟨rfl, _, rfl⟩, .inr ⟨rfl, _, rfl⟩, .inl rfl, trivial⟩, trivial⟩ rfl rfl rfl (W.build rfl rfl rfl rfl (.frzV (id := 3) (l := [(⟨[0], [], 1⟩ : TOutcome), (⟨[], [], 2⟩ : TOutcome)]) (env2 := [(0, .c (.ptr 0 0 0)), (1, .c (.own 1 0 ([0].length))), (6, .agg [.imm (.val (.slice none 0 0)), row 3 eTOutcome ([(⟨[0], [], 1⟩ : TOutcome), (⟨[], [], 2⟩ : TOutcome)]), int 1])]) (σ2 := [.one (.cells 4 [[int 0, .imm (.val (.slice none 0 0)), .imm (.val (.slice none 0 0)), .imm (.val (.slice none 0 0))]]), .one (vec 1 intI [0]), .dead, .dead]) rfl rfl (by exact ⟨⟨_, rfl, .inl ⟨rfl, rfl⟩⟩, ⟨_, rfl, .inl ⟨rfl, rfl⟩⟩, ⟨_, rfl, ⟨.inl ⟨rfl, rfl⟩, .inr ⟨_, rfl, rfl, rfl⟩, .inl ⟨rfl, rfl⟩, trivial⟩⟩, trivial⟩) rfl (by exact ⟨⟨rfl, .inl ⟨rfl, rfl⟩, .inl ⟨rfl, rfl⟩, .inl ⟨rfl, rfl⟩, .inl ⟨rfl, rfl⟩, trivial⟩, FrzB.vec, trivial, trivial, trivial⟩) (S.lit (f := eTOpenOperator) (l := [(⟨[], [(⟨[0], [], 1⟩ : TOutcome), (⟨[], [], 2⟩ : TOutcome)], 1⟩ : TOpenOperator)]) (ess := [[.imm (.val (.slice none 0 0)), row 3 eTOutcome ([(⟨[0], [], 1⟩ : TOutcome), (⟨[], [], 2⟩ : TOutcome)]), int 1]]) rfl rfl rfl rfl rfl rfl rfl ⟨⟨.inr ⟨rfl, _, rfl⟩, .inl rfl, .inl rfl, trivial⟩, trivial⟩ rfl rfl rfl (W.build rfl rfl rfl rfl (W.storeAgg rfl rfl rfl rfl rfl rfl rfl (.nil (thn_normal (.frzV (id := 1) (l := [0]) (env2 := [(0, .c (.ptr 0 0 0))]) (σ2 := [.one (.cells 4 [[int 1, .imm (.val (.slice none 0 0)), row 1 intI [0], .own 4 0 (([(⟨[], [(⟨[0], [], 1⟩ : TOutcome), (⟨[], [], 2⟩ : TOutcome)], 1⟩ : TOpenOperator)]).length)]]), .dead, .dead, .dead, .one (vec 3 eTOpenOperator ([(⟨[], [(⟨[0], [], 1⟩ : TOutcome), (⟨[], [], 2⟩ : TOutcome)], 1⟩ : TOpenOperator)]))]) rfl rfl (by exact ⟨⟨_, rfl, .inl ⟨rfl, rfl⟩⟩, trivial⟩) rfl (by exact ⟨⟨rfl, .inl ⟨rfl, rfl⟩, .inl ⟨rfl, rfl⟩, .inr ⟨_, rfl, rfl, rfl⟩, .inl ⟨rfl, rfl⟩, trivial⟩, trivial, trivial, trivial, FrzB.vec, trivial⟩) (.frzV (id := 4) (l := [(⟨[], [(⟨[0], [], 1⟩ : TOutcome), (⟨[], [], 2⟩ : TOutcome)], 1⟩ : TOpenOperator)]) (env2 := [(0, .c (.ptr 0 0 0))]) (σ2 := [.one (.cells 4 [[int 1, .imm (.val (.slice none 0 0)), row 1 intI [0], row 3 eTOpenOperator ([(⟨[], [(⟨[0], [], 1⟩ : TOutcome), (⟨[], [], 2⟩ : TOutcome)], 1⟩ : TOpenOperator)])]]), .dead, .dead, .dead, .dead]) rfl rfl (by exact ⟨⟨_, rfl, .inl ⟨rfl, rfl⟩⟩, trivial⟩) rfl (by exact ⟨⟨rfl, .inl ⟨rfl, rfl⟩, .inl ⟨rfl, rfl⟩, .inl ⟨rfl, rfl⟩, .inr ⟨_, rfl, rfl, rfl⟩, trivial⟩, trivial, trivial, trivial, trivial, trivial⟩) (.nilB (b := 0) [int 1, row 1 intI [], row 1 intI [0], row 3 eTOpenOperator ([(⟨[], [(⟨[0], [], 1⟩ : TOutcome), (⟨[], [], 2⟩ : TOutcome)], 1⟩ : TOpenOperator)])] rfl (by exact ⟨.inl rfl, .inr ⟨rfl, _, rfl⟩, .inl rfl, .inl rfl, trivial⟩) rfl rfl (.ret ?_)))))))))))))))))))))))
 have ej := Option.some.inj h
 subst ej
 exact Done.ret rfl rfl
theorem cyclic_Holds_ok {ov : TOpenTask} {policy : List TChoice} {r : Bool} (h : cyclic_Holds ov policy = some r) : PureOk Tryz.prog 65 [.agg [int ov.facts, row 1 intI ov.init, row 1 intI ov.goal, row 3 eTOpenOperator ov.operators], .c (row 2 eTChoice policy)] (.c (bool r)) := by
 unfold PureOk
 refine FnOk.enter (rs := [.t 4]) Tryz.func65 rfl Tryz.ntmps65 Tryz.results65 rfl ⟨trivial, trivial⟩ (by kernel_rfl) rfl ?_
 unfold cyclic_Holds at h
 refine AWP.seq (.region (W.box rfl rfl rfl rfl rfl rfl (.assign rfl rfl (.nil (thn_normal (.seq ?_))))))
 obtain ⟨a16, ha16, h⟩ := bind_some h
 refine AWP.region (W.loadAgg rfl rfl rfl rfl rfl rfl rfl (.move rfl rfl (S.fresh rfl rfl rfl rfl (open_Visited_ok ha16) rfl rfl (.assign rfl rfl (.nil (thn_normal (.seq ?_)))))))
 obtain ⟨a19, ha19, h⟩ := bind_some h
 refine AWP.region (.move rfl rfl (S.lenO rfl rfl rfl (fun hl18 => S.make (f := intI) ha19 (.val .nil) rfl rfl rfl rfl rfl rfl (.assign rfl rfl (.nil (thn_normal (.seq (.seq (.region (.move rfl rfl (S.lenO rfl rfl rfl (fun hl21 => .move rfl rfl (.nil (thn_normal (.block ?_)))))))))))))))
 obtain ⟨oo, ho1, h⟩ := bind_some h
 refine AWP.rngS ho1 (fun t4 c3 => ⟨[(1, .c (row 2 eTChoice policy)), (2, .c (.ptr 0 0 0)), (5, .c (.own 1 0 a16.length)), (6, .c (.own 2 0 c3.length)), (21, .c (int (a16.length : Int))), (22, .c (int t4))], [.one (.cells 4 [[int ov.facts, row 1 intI ov.init, row 1 intI ov.goal, row 3 eTOpenOperator ov.operators]]), .one (vec 1 eLi64 a16), .one (vec 1 intI c3)]⟩) (fun o e st => match o with | .inl c3 => e = .exit 0 ∧ Sub [] st ⟨[(6, .c (.own 2 0 c3.length))], [.one (.cells 4 [[int ov.facts, row 1 intI ov.init, row 1 intI ov.goal, row 3 eTOpenOperator ov.operators]]), .one (vec 1 eLi64 a16), .one (vec 1 intI c3)]⟩ | .inr x => e = .ret ∧ Done [.t 4] (fun t _ => t = .c (bool x)) .ret st) ?_ ?_ ?_ ?_
 ·try dsimp only
  exact Sub.env ⟨rfl, rfl, rfl, rfl, rfl, rfl, trivial⟩
 ·intro t4 c3 hlot4 hltt4 _
  try dsimp only
  refine AWP.seq (.region (.lss rfl rfl rfl (.nil (thn_normal (.seq (.condNP rfl hltt4 (.exit (thn_exit (thn_exit ⟨rfl, ?_⟩)))))))))
  exact Sub.env ⟨rfl, trivial⟩
 ·intro t4 c3 o hlot4 hltt4 h
  unfold cyclic_Holds_l1 at h
  try dsimp only at h ⊢
  refine AWP.seq (.region (.lss rfl rfl rfl (.nil (thn_normal (.seq (.condP rfl hltt4 (.skip (thn_normal (.seq (.block (.seq (.region (.move rfl rfl (S.lenO rfl rfl rfl (fun hl25 => .move rfl rfl (.nil (thn_normal (.block ?_))))))))))))))))))
  obtain ⟨oo, ho2, h⟩ := bind_some h
  refine AWP.rngS ho2 (fun t6 c5 => ⟨[(1, .c (row 2 eTChoice policy)), (2, .c (.ptr 0 0 0)), (5, .c (.own 1 0 a16.length)), (6, .c (.own 2 0 c5.length)), (21, .c (int (a16.length : Int))), (22, .c (int t4)), (24, .c (.own 1 0 a16.length)), (25, .c (int (a16.length : Int))), (26, .c (int t6))], [.one (.cells 4 [[int ov.facts, row 1 intI ov.init, row 1 intI ov.goal, row 3 eTOpenOperator ov.operators]]), .one (vec 1 eLi64 a16), .one (vec 1 intI c5)]⟩) (fun o e st => match o with | .inl c5 => e = .exit 2 ∧ Sub [] st ⟨[(1, .c (row 2 eTChoice policy)), (2, .c (.ptr 0 0 0)), (5, .c (.own 1 0 a16.length)), (6, .c (.own 2 0 c5.length)), (21, .c (int (a16.length : Int))), (22, .c (int t4))], [.one (.cells 4 [[int ov.facts, row 1 intI ov.init, row 1 intI ov.goal, row 3 eTOpenOperator ov.operators]]), .one (vec 1 eLi64 a16), .one (vec 1 intI c5)]⟩ | .inr x => e = .ret ∧ Done [.t 4] (fun t _ => t = .c (bool x)) .ret st) ?_ ?_ ?_ ?_
  ·try dsimp only
   exact Sub.env ⟨rfl, rfl, rfl, rfl, rfl, rfl, rfl, rfl, rfl, trivial⟩
  ·intro t6 c5 hlot6 hltt6 _
   try dsimp only
   refine AWP.seq (.region (.lss rfl rfl rfl (.nil (thn_normal (.seq (.condNP rfl hltt6 (.exit (thn_exit (thn_exit ⟨rfl, ?_⟩)))))))))
   exact Sub.env ⟨rfl, rfl, rfl, rfl, rfl, rfl, trivial⟩
  ·intro t6 c5 o hlot6 hltt6 h
   unfold cyclic_Holds_l2 at h
   try dsimp only at h ⊢
   refine AWP.seq (.region (.lss rfl rfl rfl (.nil (thn_normal (.seq (.condP rfl hltt6 (.skip (thn_normal (.seqF (cyclic_Holds_j3) o (fun c7 => ⟨[(1, .c (row 2 eTChoice policy)), (2, .c (.ptr 0 0 0)), (5, .c (.own 1 0 a16.length)), (6, .c (.own 2 0 c7.length)), (21, .c (int (a16.length : Int))), (22, .c (int t4)), (24, .c (.own 1 0 a16.length)), (25, .c (int (a16.length : Int))), (26, .c (int t6))], [.one (.cells 4 [[int ov.facts, row 1 intI ov.init, row 1 intI ov.goal, row 3 eTOpenOperator ov.operators]]), .one (vec 1 eLi64 a16), .one (vec 1 intI c7)]⟩) (fun c7 h => ?_) ?_)))))))))
   ·unfold cyclic_Holds_j3 at h
    try dsimp only at h ⊢
    refine AWP.region (.add rfl rfl rfl (by omega) (.move rfl rfl (.nil ?_)))
    have ej := Option.some.inj h
    subst ej
    refine thn_normal ⟨_, rfl, ?_⟩
    exact Sub.env ⟨rfl, rfl, rfl, rfl, rfl, rfl, rfl, rfl, rfl, trivial⟩
   ·refine AWP.block (.seq ?_)
    obtain ⟨a29, ha29, h⟩ := bind_some h
    refine AWP.region (.move rfl rfl (S.idxO ha29 rfl rfl rfl rfl rfl (S.loadO ha29 rfl rfl rfl rfl rfl (.assign rfl rfl (.assign rfl rfl (.nil (thn_normal (.seq (.seq ?_)))))))))
    obtain ⟨a34, ha34, h⟩ := bind_some h
    refine AWP.region (.move rfl rfl (W.fieldAddr rfl rfl rfl rfl (.load rfl rfl rfl rfl rfl rfl (.callR rfl rfl rfl rfl (strips_Contains_ok ha34) rfl (.nil (thn_normal (.iteB rfl h (fun hc8 h => ?_) (fun hc8 h => ?_))))))))
    ·refine AWP.seq ?_
     obtain ⟨a37, ha37, h⟩ := bind_some h
     refine AWP.region (.move rfl rfl (.move rfl rfl (S.idxO ha37 rfl rfl rfl rfl rfl (S.storeO1 (f := intI) (a' := 1) (ix_lt ha37) (fun _ => ⟨_, rfl⟩) rfl rfl rfl rfl rfl ?_))))
     refine AOps.nil (thn_normal (.exit (thn_exit (inB_exit (thn_normal ⟨_, h, ?_⟩)))))
     exact Sub.env ⟨rfl, rfl, rfl, (own_len (by first | rfl | simp only [List.length_set])), rfl, rfl, rfl, rfl, rfl, trivial⟩
    ·refine AWP.skip (thn_normal (.seq ?_))
     obtain ⟨a40, ha40, h⟩ := bind_some h
     refine AWP.region (.move rfl rfl (.move rfl rfl (.callR rfl rfl rfl rfl (open_Chosen_ok ha40) rfl (.assign rfl rfl (.nil (thn_normal (.seq (.seq (.region (.move rfl rfl (.lss rfl rfl rfl (.nil (thn_normal (.ite rfl h (fun hc9 h => ?_) (fun hc9 h => ?_)))))))))))))))
     ·refine AWP.seq (.region (.assign rfl rfl (.nil (thn_normal (.ret (thn_ret (inB_ret (thn_ret ?_))))))))
      have ej := Option.some.inj h
      subst ej
      refine thn_ret ⟨_, rfl, rfl, ?_⟩
      exact Done.ret rfl rfl
     ·refine AWP.skip (thn_normal (.seq ?_))
      obtain ⟨a47, ha47, h⟩ := bind_some h
      refine AWP.region (W.loadAgg rfl rfl rfl rfl rfl rfl rfl (.move rfl rfl (.move rfl rfl (.callR rfl rfl rfl rfl (open_Results_ok ha47) rfl (.move rfl rfl (.extract rfl rfl rfl (.extract rfl rfl rfl (.assign rfl rfl (.assign rfl rfl (.nil (thn_normal (.seq (.region (.move rfl rfl (S.len rfl rfl (fun hl51 => .move rfl rfl (.nil (thn_normal (.block ?_)))))))))))))))))))
      obtain ⟨c10, ho4, h⟩ := bind_some h
      refine AWP.forS ho4 (fun t11 c10 => ⟨[(1, .c (row 2 eTChoice policy)), (2, .c (.ptr 0 0 0)), (5, .c (.own 1 0 a16.length)), (6, .c (.own 2 0 c10.length)), (7, .c (int t6)), (21, .c (int (a16.length : Int))), (22, .c (int t4)), (24, .c (.own 1 0 a16.length)), (25, .c (int (a16.length : Int))), (26, .c (int t6)), (50, .c (row 1 eLi64 a47.1)), (51, .c (int (a47.1.length : Int))), (52, .c (int t11))], [.one (.cells 4 [[int ov.facts, row 1 intI ov.init, row 1 intI ov.goal, row 3 eTOpenOperator ov.operators]]), .one (vec 1 eLi64 a16), .one (vec 1 intI c10)]⟩) (fun c10 e st => e = .exit 4 ∧ Sub [] st ⟨[(1, .c (row 2 eTChoice policy)), (2, .c (.ptr 0 0 0)), (5, .c (.own 1 0 a16.length)), (6, .c (.own 2 0 c10.length)), (21, .c (int (a16.length : Int))), (22, .c (int t4)), (24, .c (.own 1 0 a16.length)), (25, .c (int (a16.length : Int))), (26, .c (int t6))], [.one (.cells 4 [[int ov.facts, row 1 intI ov.init, row 1 intI ov.goal, row 3 eTOpenOperator ov.operators]]), .one (vec 1 eLi64 a16), .one (vec 1 intI c10)]⟩) ?_ ?_ ?_ ?_
      ·try dsimp only
       exact Sub.env ⟨rfl, rfl, rfl, rfl, rfl, rfl, rfl, rfl, rfl, rfl, rfl, rfl, rfl, trivial⟩
      ·intro t11 c10 hlot11 hltt11 _
       try dsimp only
       refine AWP.seq (.region (.lss rfl rfl rfl (.nil (thn_normal (.seq (.condNP rfl hltt11 (.exit (thn_exit (thn_exit ⟨rfl, ?_⟩)))))))))
       exact Sub.env ⟨rfl, rfl, rfl, rfl, rfl, rfl, rfl, rfl, rfl, trivial⟩
      ·intro t11 c10 o hlot11 hltt11 h
       unfold cyclic_Holds_l4 at h
       try dsimp only at h ⊢
       refine AWP.seq (.region (.lss rfl rfl rfl (.nil (thn_normal (.seq (.condP rfl hltt11 (.skip (thn_normal (.seq (.block (.seq ?_)))))))))))
       obtain ⟨a54, ha54, h⟩ := bind_some h
       refine AWP.region (S.idx ha54 rfl rfl rfl rfl (.loadI rfl rfl rfl rfl (.assign rfl rfl (.nil (thn_normal ?_)))))
       obtain ⟨a60, ha60, h⟩ := bind_some h
       obtain ⟨a65, ha65, h⟩ := bind_some h
       obtain ⟨a66, ha66, h⟩ := bind_some h
       obtain ⟨a69, ha69, h⟩ := bind_some h
       refine AWP.drawEI [14] mixed rfl rfl rfl ?_
       apply DrawSeqE.consN; exact rfl; exact rfl; intro E
       refine AOps.move rfl rfl (.nil ⟨rfl, rfl⟩)
       exact rfl
       apply DrawSeqE.consN; exact rfl; exact rfl; intro E
       refine AOps.move rfl rfl (.nil ⟨rfl, rfl⟩)
       exact rfl
       apply DrawSeqE.consN; exact rfl; exact rfl; intro E
       refine AOps.move rfl rfl (.nil ⟨rfl, rfl⟩)
       exact rfl
       apply DrawSeqE.consN; exact rfl; exact rfl; intro E
       refine AOps.move rfl rfl (.nil ⟨rfl, rfl⟩)
       exact rfl
       apply DrawSeqE.consN; exact rfl; exact rfl; intro E
       refine S.idxO ha60 rfl rfl rfl rfl rfl (.nil ⟨rfl, rfl⟩)
       exact rfl
       apply DrawSeqE.consN; exact rfl; exact rfl; intro E
       refine S.loadO ha60 rfl rfl rfl rfl rfl (.nil ⟨rfl, rfl⟩)
       exact rfl
       apply DrawSeqE.consN; exact rfl; exact rfl; intro E
       refine AOps.move rfl rfl (.nil ⟨rfl, rfl⟩)
       exact rfl
       apply DrawSeqE.consN; exact rfl; exact rfl; intro E
       refine AOps.move rfl rfl (.nil ⟨rfl, rfl⟩)
       exact rfl
       apply DrawSeqE.consN; exact rfl; exact rfl; intro E
       refine AOps.move rfl rfl (.nil ⟨rfl, rfl⟩)
       exact rfl
       apply DrawSeqE.consN; exact rfl; exact rfl; intro E
       refine AOps.callL rfl rfl (.cons (.c (.own rfl rfl)) (.cons (.c .imm) .nil)) rfl (open_Find_ok ha65) rfl (.nil ⟨rfl, rfl⟩)
       exact rfl
       apply DrawSeqE.consN; exact rfl; exact rfl; intro E
       refine S.idxO ha66 rfl rfl rfl rfl rfl (.nil ⟨rfl, rfl⟩)
       exact rfl
       apply DrawSeqE.consN; exact rfl; exact rfl; intro E
       refine S.loadO ha66 rfl rfl rfl rfl rfl (.nil ⟨rfl, rfl⟩)
       exact rfl
       apply DrawSeqE.consN; exact rfl; exact rfl; intro E
       refine AOps.max2 rfl rfl rfl (.nil ⟨rfl, rfl⟩)
       exact rfl
       apply DrawSeqE.consN; exact rfl; exact rfl; intro E
       refine S.idxO ha69 rfl rfl rfl rfl rfl (.nil ⟨rfl, rfl⟩)
       exact rfl
       apply DrawSeqE.consE (v := .undef); exact rfl; exact rfl; intro E
       refine S.storeO1 (f := intI) (a' := max a60 a66) (ix_lt ha69) (fun _ => ⟨_, rfl⟩) rfl rfl rfl rfl rfl ?_
       exact AOps.nil ⟨rfl, rfl⟩
       exact rfl
       exact rfl
       refine DrawSeqE.done rfl ?_ ?_
       ·apply RestI.cons; exact rfl; exact rfl
        apply RestK.go; exact rfl; exact rfl; intro E; refine AOps.move rfl rfl ?_; exact AOps.nil ⟨rfl, rfl⟩
        refine RestK.skip rfl (RestK.nil)
        apply RestI.cons; exact rfl; exact rfl
        apply RestK.go; exact rfl; exact rfl; intro E; refine AOps.move rfl rfl ?_; exact AOps.nil ⟨rfl, rfl⟩
        refine RestK.skip rfl (RestK.nil)
        apply RestI.cons; exact rfl; exact rfl
        apply RestK.go; exact rfl; exact rfl; intro E; refine AOps.move rfl rfl ?_; exact AOps.nil ⟨rfl, rfl⟩
        refine RestK.skip rfl (RestK.nil)
        apply RestI.cons; exact rfl; exact rfl
        apply RestK.go; exact rfl; exact rfl; intro E; refine AOps.move rfl rfl ?_; exact AOps.nil ⟨rfl, rfl⟩
        refine RestK.skip rfl (RestK.nil)
        apply RestI.cons; exact rfl; exact rfl
        apply RestK.go; exact rfl; exact rfl; intro E; refine S.idxO ha60 rfl rfl rfl rfl rfl ?_; exact AOps.nil ⟨rfl, rfl⟩
        refine RestK.skip rfl (RestK.nil)
        apply RestI.cons; exact rfl; exact rfl
        apply RestK.go; exact rfl; exact rfl; intro E; refine S.loadO ha60 rfl rfl rfl rfl rfl ?_; exact AOps.nil ⟨rfl, rfl⟩
        refine RestK.skip rfl (RestK.nil)
        apply RestI.cons; exact rfl; exact rfl
        apply RestK.go; exact rfl; exact rfl; intro E; refine AOps.move rfl rfl ?_; exact AOps.nil ⟨rfl, rfl⟩
        refine RestK.skip rfl (RestK.nil)
        apply RestI.cons; exact rfl; exact rfl
        apply RestK.go; exact rfl; exact rfl; intro E; refine AOps.move rfl rfl ?_; exact AOps.nil ⟨rfl, rfl⟩
        refine RestK.skip rfl (RestK.nil)
        apply RestI.cons; exact rfl; exact rfl
        apply RestK.go; exact rfl; exact rfl; intro E; refine AOps.move rfl rfl ?_; exact AOps.nil ⟨rfl, rfl⟩
        refine RestK.skip rfl (RestK.nil)
        apply RestI.cons; exact rfl; exact rfl
        apply RestK.go; exact rfl; exact rfl; intro E; refine AOps.callL rfl rfl (.cons (.c (.own rfl rfl)) (.cons (.c .imm) .nil)) rfl (open_Find_ok ha65) rfl ?_; exact AOps.nil ⟨rfl, rfl⟩
        refine RestK.skip rfl (RestK.nil)
        apply RestI.cons; exact rfl; exact rfl
        apply RestK.go; exact rfl; exact rfl; intro E; refine S.idxO ha66 rfl rfl rfl rfl rfl ?_; exact AOps.nil ⟨rfl, rfl⟩
        refine RestK.skip rfl (RestK.nil)
        apply RestI.cons; exact rfl; exact rfl
        apply RestK.go; exact rfl; exact rfl; intro E; refine S.loadO ha66 rfl rfl rfl rfl rfl ?_; exact AOps.nil ⟨rfl, rfl⟩
        refine RestK.skip rfl (RestK.nil)
        apply RestI.cons; exact rfl; exact rfl
        apply RestK.go; exact rfl; exact rfl; intro E; refine AOps.max2 rfl rfl rfl ?_; exact AOps.nil ⟨rfl, rfl⟩
        refine RestK.skip rfl (RestK.nil)
        apply RestI.cons; exact rfl; exact rfl
        apply RestK.go; exact rfl; exact rfl; intro E; refine S.idxO ha69 rfl rfl rfl rfl rfl ?_; exact AOps.nil ⟨rfl, rfl⟩
        refine RestK.skip rfl (RestK.nil)
        refine RestI.skip rfl (RestI.nil)
       dsimp only [envEnd]
       refine inB_normal (thn_normal (.region (.add rfl rfl rfl (by omega) (.move rfl rfl (.nil ?_)))))
       have ej := Option.some.inj h
       subst ej
       refine thn_normal (Sub.env ⟨rfl, rfl, rfl, (own_len (by first | rfl | simp only [List.length_set])), rfl, rfl, rfl, rfl, rfl, rfl, rfl, rfl, rfl, trivial⟩)
      ·intro e s hq
       obtain ⟨rfl, hs⟩ := hq
       refine ⟨_, hs, ?_⟩
       refine inB_exit (inB_normal (thn_normal ⟨_, h, ?_⟩))
       exact Sub.env ⟨rfl, rfl, rfl, rfl, rfl, rfl, rfl, rfl, rfl, trivial⟩
  ·intro e s hq
   rcases oo with c5 | x
   ·try dsimp only at h hq
    obtain ⟨rfl, hs⟩ := hq
    refine ⟨_, hs, ?_⟩
    refine inB_exit (inB_normal (thn_normal (.region (.add rfl rfl rfl (by omega) (.move rfl rfl (.nil ?_))))))
    have ej := Option.some.inj h
    subst ej
    refine thn_normal ⟨_, rfl, ?_⟩
    exact Sub.env ⟨rfl, rfl, rfl, rfl, rfl, rfl, trivial⟩
   ·try dsimp only at h hq
    obtain ⟨rfl, hs⟩ := hq
    refine ⟨_, Sub.refl _ _, ?_⟩
    refine inB_ret (inB_ret (thn_ret ?_))
    have ej := Option.some.inj h
    subst ej
    refine thn_ret ⟨_, rfl, rfl, ?_⟩
    exact hs
 ·intro e s hq
  rcases oo with c3 | x
  ·try dsimp only at h hq
   obtain ⟨rfl, hs⟩ := hq
   refine ⟨_, hs, ?_⟩
   refine inB_exit (thn_normal (.seq ?_))
   obtain ⟨a74, ha74, h⟩ := bind_some h
   refine AWP.region (.move rfl rfl (.callL rfl rfl (.cons (.c (.own rfl rfl)) (.cons (.c .imm) .nil)) rfl (slices_Contains_int_int_ok ha74) rfl (.not rfl rfl (.assign rfl rfl (.nil (thn_normal (.ret ?_)))))))
   have ej := Option.some.inj h
   subst ej
   exact Done.ret rfl rfl
  ·try dsimp only at h hq
   obtain ⟨rfl, hs⟩ := hq
   refine ⟨_, Sub.refl _ _, ?_⟩
   refine inB_ret (thn_ret ?_)
   have ej := Option.some.inj h
   subst ej
   exact hs
theorem cyclic_Check_ok {ov : TOpenTask} {policy : List TChoice} {r : Bool × TFault} (h : cyclic_Check ov policy = some r) : PureOk Tryz.prog 24 [.agg [int ov.facts, row 1 intI ov.init, row 1 intI ov.goal, row 3 eTOpenOperator ov.operators], .c (row 2 eTChoice policy)] (.tup [.c (bool r.1), .agg [int r.2.code, int r.2.index]]) := by
 unfold PureOk
 refine FnOk.enter (rs := [.t 4, .cell 5 28 2]) Tryz.func24 rfl Tryz.ntmps24 Tryz.results24 rfl ⟨trivial, rv _ rfl, trivial⟩ (by kernel_rfl) rfl ?_
 unfold cyclic_Check at h
 refine AWP.seq (.region (W.box rfl rfl rfl rfl rfl rfl (.assign rfl rfl (W.alloc rfl rfl rfl rfl (.nil (thn_normal (.seq (.seq ?_))))))))
 obtain ⟨a9, ha9, h⟩ := bind_some h
 refine AWP.region (W.loadAgg rfl rfl rfl rfl rfl rfl rfl (.move rfl rfl (.callR rfl rfl rfl rfl (open_ValidatePolicy_ok ha9) rfl (W.alloc rfl rfl rfl rfl (W.storeAgg rfl rfl rfl rfl rfl rfl rfl (.nil (thn_normal (.seq (.region (W.loadAgg rfl rfl rfl rfl rfl rfl rfl (W.build rfl rfl rfl rfl (.neqP rfl rfl rfl rfl rfl rfl rfl (.nil (thn_normal (.iteB rfl h (fun hc3 h => ?_) (fun hc3 h => ?_))))))))))))))))
 ·refine AWP.seq (.drawEI [2] mixed rfl rfl rfl ?_)
  apply DrawSeqE.consN; exact rfl; exact rfl; intro E
  refine W.loadAgg rfl rfl rfl rfl rfl rfl rfl (.nil ⟨rfl, rfl⟩)
  exact rfl
  apply DrawSeqE.consN; exact rfl; exact rfl; intro E
  refine AOps.assign rfl rfl (.nil ⟨rfl, rfl⟩)
  exact rfl
  apply DrawSeqE.consE (v := .undef); exact rfl; exact rfl; intro E
  refine W.storeAgg rfl rfl rfl rfl rfl rfl rfl (.nil ⟨rfl, rfl⟩)
  exact rfl
  exact rfl
  refine DrawSeqE.done rfl ?_ ?_
  ·apply RestI.cons; exact rfl; exact rfl
   apply RestK.go; exact rfl; exact rfl; intro E; refine W.loadAgg rfl rfl rfl rfl rfl rfl rfl ?_; exact AOps.nil ⟨rfl, rfl⟩
   refine RestK.skip rfl (RestK.nil)
   apply RestI.cons; exact rfl; exact rfl
   apply RestK.go; exact rfl; exact rfl; intro E; refine AOps.assign rfl rfl ?_; exact AOps.nil ⟨rfl, rfl⟩
   refine RestK.skip rfl (RestK.nil)
   refine RestI.skip rfl (RestI.nil)
  dsimp only [envEnd]
  refine thn_normal (.ret (thn_ret ?_))
  have ej := Option.some.inj h
  subst ej
  exact Done.ret rfl rfl
 ·refine AWP.skip (thn_normal (.seq ?_))
  obtain ⟨a16, ha16, h⟩ := bind_some h
  refine AWP.region (W.loadAgg rfl rfl rfl rfl rfl rfl rfl (.move rfl rfl (.callR rfl rfl rfl rfl (cyclic_Holds_ok ha16) rfl (W.build rfl rfl rfl rfl (.assign rfl rfl (W.storeAgg rfl rfl rfl rfl rfl rfl rfl (.nil (thn_normal (.ret ?_)))))))))
  have ej := Option.some.inj h
  subst ej
  exact Done.ret rfl rfl
theorem law8_repeated_ok {r : Bool} (h : law8_repeated = some r) : PureOk Tryz.prog 22 [] (.c (bool r)) := by
 unfold PureOk
 refine FnOk.enter (rs := [.t 0]) Tryz.func22 rfl Tryz.ntmps22 Tryz.results22 rfl ⟨trivial, trivial⟩ (by kernel_rfl) rfl ?_
 unfold law8_repeated at h
 refine AWP.seq (.region (.assign rfl rfl (.nil (thn_normal (.seq ?_)))))
 obtain ⟨a7, ha7, h⟩ := bind_some h
 obtain ⟨a8, ha8, h⟩ := bind_some h
 refine AWP.region (.callR rfl rfl rfl rfl (law8_coin_ok ha7) rfl (.callR rfl rfl rfl rfl (cyclic_Policy_ok ha8) rfl (.move rfl rfl (.extract rfl rfl rfl (.extract rfl rfl rfl (.extract rfl rfl rfl (W.alloc rfl rfl rfl rfl (.assign rfl rfl (.assign rfl rfl (W.storeAgg rfl rfl rfl rfl rfl rfl rfl (.nil (thn_normal (.seq ?_)))))))))))))
 obtain ⟨a13, ha13, h⟩ := bind_some h
 obtain ⟨a15, ha15, h⟩ := bind_some h
 refine AWP.region (.callR rfl rfl rfl rfl (law8_coin_ok ha13) rfl (.move rfl rfl (.callR rfl rfl rfl rfl (cyclic_Check_ok ha15) rfl (.move rfl rfl (.extract rfl rfl rfl (.extract rfl rfl rfl (W.alloc rfl rfl rfl rfl (.assign rfl rfl (W.storeAgg rfl rfl rfl rfl rfl rfl rfl (.nil (thn_normal ?_)))))))))))
 obtain ⟨t1, hx2, h⟩ := bind_some h
 refine AWP.seqJ (⟨[(0, .c (bool t1))], []⟩) ?_ ?_
 ·rcases Bool.eq_false_or_eq_true (decide (a8.2.2.code = 0)) with hb3 | hb3
  ·replace hx2 := iteDT hb3 hx2
   rcases Bool.eq_false_or_eq_true (decide (a15.2.code = 0)) with hb4 | hb4
   ·replace hx2 := iteDT hb4 hx2
    rcases Bool.eq_false_or_eq_true (a8.2.1) with hb5 | hb5
    ·replace hx2 := iteBT hb5 hx2
     rcases Bool.eq_false_or_eq_true (a15.1) with hb6 | hb6
     ·replace hx2 := iteBT hb6 hx2
      obtain ⟨a36, ha36, hx2⟩ := bind_some hx2
      refine AWP.region (W.fieldAddr rfl rfl rfl rfl (.load rfl rfl rfl rfl rfl rfl (.eql rfl rfl rfl (.move rfl rfl (.guardT rfl rfl rfl hb3 (W.fieldAddr rfl rfl rfl rfl (.guardT rfl rfl rfl hb3 (.load rfl rfl rfl rfl rfl rfl (.guardT rfl rfl rfl hb3 (.eql rfl rfl rfl (.pickT rfl hb3 rfl rfl (.move rfl rfl (.guardT rfl rfl rfl hb4 (.move rfl rfl (.pickT rfl hb4 rfl rfl (.move rfl rfl (.guardT rfl rfl rfl hb5 (.move rfl rfl (.pickT rfl hb5 rfl rfl (.move rfl rfl (.guardT rfl rfl rfl hb6 (.move rfl rfl (.guardT rfl rfl rfl hb6 (W.build rfl rfl rfl rfl (.guardT rfl rfl rfl hb6 (S.lit (f := eTChoice) (l := [(⟨[], 0⟩ : TChoice)]) (ess := [[.imm (.val (.slice none 0 0)), int 0]]) rfl rfl rfl rfl rfl rfl rfl ⟨⟨.inr ⟨rfl, _, rfl⟩, .inl rfl, trivial⟩, trivial⟩ rfl rfl rfl (.guardT rfl rfl rfl hb6 (.callL rfl rfl (.cons (.c .imm) (.cons (.c (.own rfl rfl)) .nil)) rfl (ref8_Choices_ok ha36) rfl (.pickT rfl hb6 rfl rfl (.assign rfl rfl (.nil ?_)))))))))))))))))))))))))))))))
      have ej := Option.some.inj hx2
      subst ej
      refine thn_normal (Sub.cut ⟨rfl, trivial⟩ rfl trivial rfl)
     ·replace hx2 := iteBF hb6 hx2
      refine AWP.region (W.fieldAddr rfl rfl rfl rfl (.load rfl rfl rfl rfl rfl rfl (.eql rfl rfl rfl (.move rfl rfl (.guardT rfl rfl rfl hb3 (W.fieldAddr rfl rfl rfl rfl (.guardT rfl rfl rfl hb3 (.load rfl rfl rfl rfl rfl rfl (.guardT rfl rfl rfl hb3 (.eql rfl rfl rfl (.pickT rfl hb3 rfl rfl (.move rfl rfl (.guardT rfl rfl rfl hb4 (.move rfl rfl (.pickT rfl hb4 rfl rfl (.move rfl rfl (.guardT rfl rfl rfl hb5 (.move rfl rfl (.pickT rfl hb5 rfl rfl (.move rfl rfl (.guardF rfl rfl rfl hb6 (.guardF rfl rfl rfl hb6 (.guardF rfl rfl rfl hb6 (.guardF rfl rfl rfl hb6 (.pickF rfl hb6 rfl rfl (.assign rfl rfl (.nil ?_)))))))))))))))))))))))))))
      have ej := Option.some.inj hx2
      subst ej
      refine thn_normal (Sub.cut ⟨rfl, trivial⟩ rfl trivial rfl)
    ·replace hx2 := iteBF hb5 hx2
     refine AWP.region (W.fieldAddr rfl rfl rfl rfl (.load rfl rfl rfl rfl rfl rfl (.eql rfl rfl rfl (.move rfl rfl (.guardT rfl rfl rfl hb3 (W.fieldAddr rfl rfl rfl rfl (.guardT rfl rfl rfl hb3 (.load rfl rfl rfl rfl rfl rfl (.guardT rfl rfl rfl hb3 (.eql rfl rfl rfl (.pickT rfl hb3 rfl rfl (.move rfl rfl (.guardT rfl rfl rfl hb4 (.move rfl rfl (.pickT rfl hb4 rfl rfl (.move rfl rfl (.guardF rfl rfl rfl hb5 (.pickF rfl hb5 rfl rfl (.move rfl rfl (.guardF rfl rfl rfl rfl (.guardF rfl rfl rfl rfl (.guardF rfl rfl rfl rfl (.guardF rfl rfl rfl rfl (.pickF rfl rfl rfl rfl (.assign rfl rfl (.nil ?_))))))))))))))))))))))))))
     have ej := Option.some.inj hx2
     subst ej
     refine thn_normal (Sub.cut ⟨rfl, trivial⟩ rfl trivial rfl)
   ·replace hx2 := iteDF hb4 hx2
    refine AWP.region (W.fieldAddr rfl rfl rfl rfl (.load rfl rfl rfl rfl rfl rfl (.eql rfl rfl rfl (.move rfl rfl (.guardT rfl rfl rfl hb3 (W.fieldAddr rfl rfl rfl rfl (.guardT rfl rfl rfl hb3 (.load rfl rfl rfl rfl rfl rfl (.guardT rfl rfl rfl hb3 (.eql rfl rfl rfl (.pickT rfl hb3 rfl rfl (.move rfl rfl (.guardF rfl rfl rfl hb4 (.pickF rfl hb4 rfl rfl (.move rfl rfl (.guardF rfl rfl rfl rfl (.pickF rfl rfl rfl rfl (.move rfl rfl (.guardF rfl rfl rfl rfl (.guardF rfl rfl rfl rfl (.guardF rfl rfl rfl rfl (.guardF rfl rfl rfl rfl (.pickF rfl rfl rfl rfl (.assign rfl rfl (.nil ?_)))))))))))))))))))))))))
    have ej := Option.some.inj hx2
    subst ej
    refine thn_normal (Sub.cut ⟨rfl, trivial⟩ rfl trivial rfl)
  ·replace hx2 := iteDF hb3 hx2
   refine AWP.region (W.fieldAddr rfl rfl rfl rfl (.load rfl rfl rfl rfl rfl rfl (.eql rfl rfl rfl (.move rfl rfl (.guardF rfl rfl rfl hb3 (.guardF rfl rfl rfl hb3 (.guardF rfl rfl rfl hb3 (.pickF rfl hb3 rfl rfl (.move rfl rfl (.guardF rfl rfl rfl rfl (.pickF rfl rfl rfl rfl (.move rfl rfl (.guardF rfl rfl rfl rfl (.pickF rfl rfl rfl rfl (.move rfl rfl (.guardF rfl rfl rfl rfl (.guardF rfl rfl rfl rfl (.guardF rfl rfl rfl rfl (.guardF rfl rfl rfl rfl (.pickF rfl rfl rfl rfl (.assign rfl rfl (.nil ?_))))))))))))))))))))))
   have ej := Option.some.inj hx2
   subst ej
   refine thn_normal (Sub.cut ⟨rfl, trivial⟩ rfl trivial rfl)
 ·refine AWP.ret ?_
  have ej := Option.some.inj h
  subst ej
  exact Done.ret rfl rfl
theorem law8_CyclicPolicyChecks_ok {ov : TOpenTask} {r : Bool} (h : law8_CyclicPolicyChecks ov = some r) : PureOk Tryz.prog 8 [.agg [int ov.facts, row 1 intI ov.init, row 1 intI ov.goal, row 3 eTOpenOperator ov.operators]] (.c (bool r)) := by
 unfold PureOk
 refine FnOk.enter (rs := [.t 2]) Tryz.func8 rfl Tryz.ntmps8 Tryz.results8 rfl ⟨trivial, trivial⟩ (by kernel_rfl) rfl ?_
 unfold law8_CyclicPolicyChecks at h
 refine AWP.seq (.region (W.box rfl rfl rfl rfl rfl rfl (.assign rfl rfl (.nil (thn_normal (.seq ?_))))))
 obtain ⟨a10, ha10, h⟩ := bind_some h
 refine AWP.region (W.loadAgg rfl rfl rfl rfl rfl rfl rfl (.callR rfl rfl rfl rfl (cyclic_Policy_ok ha10) rfl (.move rfl rfl (.extract rfl rfl rfl (.extract rfl rfl rfl (.extract rfl rfl rfl (W.alloc rfl rfl rfl rfl (.assign rfl rfl (.assign rfl rfl (W.storeAgg rfl rfl rfl rfl rfl rfl rfl (.nil (thn_normal (.seq (.seqJ (⟨[(1, .c (.ptr 0 0 0)), (3, .c (row 2 eTChoice a10.1)), (20, .c (bool ((!(decide (a10.2.2.code = 0))) || (!a10.2.1))))], [.one (.cells 4 [[int ov.facts, row 1 intI ov.init, row 1 intI ov.goal, row 3 eTOpenOperator ov.operators]]), .one (.cells 2 [[int a10.2.2.code, int a10.2.2.index]])]⟩) ?_ ?_))))))))))))))
 ·rcases Bool.eq_false_or_eq_true (!(decide (a10.2.2.code = 0))) with hb1 | hb1
  ·refine AWP.region (W.fieldAddr rfl rfl rfl rfl (.load rfl rfl rfl rfl rfl rfl (.neq rfl rfl rfl (.move rfl rfl (.guardF rfl rfl rfl hb1 (.guardF rfl rfl rfl hb1 (.pickT rfl hb1 rfl rfl (.nil (thn_normal ?_)))))))))
   simp only [and_t hb1, or_t hb1, Bool.false_or, Bool.true_or, Bool.false_and, Bool.true_and]
   exact Sub.env ⟨rfl, rfl, rfl, trivial⟩
  ·refine AWP.region (W.fieldAddr rfl rfl rfl rfl (.load rfl rfl rfl rfl rfl rfl (.neq rfl rfl rfl (.move rfl rfl (.guardT rfl rfl rfl hb1 (.move rfl rfl (.guardT rfl rfl rfl hb1 (.not rfl rfl (.pickF rfl hb1 rfl rfl (.nil (thn_normal ?_)))))))))))
   simp only [and_f hb1, or_f hb1, Bool.false_or, Bool.true_or, Bool.false_and, Bool.true_and]
   exact Sub.env ⟨rfl, rfl, rfl, trivial⟩
 ·refine AWP.iteB rfl h (fun hc2 h => ?_) (fun hc2 h => ?_)
  ·refine AWP.seq ?_
   obtain ⟨a21, ha21, h⟩ := bind_some h
   refine AWP.region (.callR rfl rfl rfl rfl (law8_repeated_ok ha21) rfl (.assign rfl rfl (.nil (thn_normal (.ret (thn_ret ?_))))))
   have ej := Option.some.inj h
   subst ej
   exact Done.ret rfl rfl
  ·refine AWP.skip (thn_normal (.seq ?_))
   obtain ⟨a25, ha25, h⟩ := bind_some h
   refine AWP.region (W.loadAgg rfl rfl rfl rfl rfl rfl rfl (.move rfl rfl (.callR rfl rfl rfl rfl (cyclic_Check_ok ha25) rfl (.move rfl rfl (.extract rfl rfl rfl (.extract rfl rfl rfl (W.alloc rfl rfl rfl rfl (.assign rfl rfl (W.storeAgg rfl rfl rfl rfl rfl rfl rfl (.nil (thn_normal ?_)))))))))))
   obtain ⟨t3, hx4, h⟩ := bind_some h
   refine AWP.seqJ (⟨[(2, .c (bool t3))], []⟩) ?_ ?_
   ·rcases Bool.eq_false_or_eq_true (decide (a25.2.code = 0)) with hb5 | hb5
    ·replace hx4 := iteDT hb5 hx4
     rcases Bool.eq_false_or_eq_true (a25.1) with hb6 | hb6
     ·replace hx4 := iteBT hb6 hx4
      obtain ⟨a35, ha35, hx4⟩ := bind_some hx4
      refine AWP.region (W.fieldAddr rfl rfl rfl rfl (.load rfl rfl rfl rfl rfl rfl (.eql rfl rfl rfl (.move rfl rfl (.guardT rfl rfl rfl hb5 (.move rfl rfl (.pickT rfl hb5 rfl rfl (.move rfl rfl (.guardT rfl rfl rfl hb6 (.callR rfl rfl rfl rfl (law8_repeated_ok ha35) rfl (.pickT rfl hb6 rfl rfl (.assign rfl rfl (.nil ?_)))))))))))))
      have ej := Option.some.inj hx4
      subst ej
      refine thn_normal (Sub.cut ⟨rfl, trivial⟩ rfl trivial rfl)
     ·replace hx4 := iteBF hb6 hx4
      refine AWP.region (W.fieldAddr rfl rfl rfl rfl (.load rfl rfl rfl rfl rfl rfl (.eql rfl rfl rfl (.move rfl rfl (.guardT rfl rfl rfl hb5 (.move rfl rfl (.pickT rfl hb5 rfl rfl (.move rfl rfl (.guardF rfl rfl rfl hb6 (.pickF rfl hb6 rfl rfl (.assign rfl rfl (.nil ?_))))))))))))
      have ej := Option.some.inj hx4
      subst ej
      refine thn_normal (Sub.cut ⟨rfl, trivial⟩ rfl trivial rfl)
    ·replace hx4 := iteDF hb5 hx4
     refine AWP.region (W.fieldAddr rfl rfl rfl rfl (.load rfl rfl rfl rfl rfl rfl (.eql rfl rfl rfl (.move rfl rfl (.guardF rfl rfl rfl hb5 (.pickF rfl hb5 rfl rfl (.move rfl rfl (.guardF rfl rfl rfl rfl (.pickF rfl rfl rfl rfl (.assign rfl rfl (.nil ?_)))))))))))
     have ej := Option.some.inj hx4
     subst ej
     refine thn_normal (Sub.cut ⟨rfl, trivial⟩ rfl trivial rfl)
   ·refine AWP.ret ?_
    have ej := Option.some.inj h
    subst ej
    exact Done.ret rfl rfl
end Ab
end
section
namespace Ab
open Go
theorem ix_nat {α : Type} {l : List α} {k : Nat} : ix l (k : Int) = l[k]? := by simp [ix]
theorem ix_of {α : Type} {l : List α} {i : Int} (h0 : 0 ≤ i) (h1 : i < l.length) : ∃ a, ix l i = some a ∧ l[i.toNat]? = some a := by
  have h : i.toNat < l.length := by omega
  exact ⟨l[i.toNat], by simp [ix, h0, h], by simp [h]⟩
theorem ix_lo {α : Type} {l : List α} {i : Int} {a : α} (h : ix l i = some a) : 0 ≤ i ∧ i < l.length ∧ l[i.toNat]? = some a := by
  unfold ix at h
  split at h
  · have := (List.getElem?_eq_some_iff.1 h).1
    exact ⟨by assumption, by omega, h⟩
  · cases h
theorem w64_of {n : Int} (h1 : -9223372036854775808 ≤ n) (h2 : n ≤ 9223372036854775807) : w64 n = n := w64_eq ⟨h1, h2⟩
theorem forN_inv {S : Type} {body : Int → S → Option S} (P : Int → S → Prop) : ∀ (k : Nat) (i : Int) (s : S), P i s →
    (∀ j s, i ≤ j → j < i + k → P j s → ∃ s', body j s = some s' ∧ P (j + 1) s') → ∃ s', forN body k i s = some s' ∧ P (i + k) s'
  | 0, i, s, h, _ => ⟨s, rfl, by simpa using h⟩
  | k + 1, i, s, h, hb => by
    obtain ⟨s1, h1, h2⟩ := hb i s (Int.le_refl _) (by omega) h
    obtain ⟨s2, h3, h4⟩ := forN_inv P k (i + 1) s1 h2 (fun j s g1 g2 => hb j s (by omega) (by omega))
    exact ⟨s2, by simp only [forN, h1]; exact h3, by rw [show i + ((k + 1 : Nat) : Int) = i + 1 + k by omega]; exact h4⟩
/-- A loop over numbers, from what it keeps. -/
theorem forR_inv {S : Type} {body : Int → S → Option S} {n : Int} (P : Int → S → Prop) {s : S} (hn : 0 ≤ n) (h0 : P 0 s)
    (hb : ∀ j s, 0 ≤ j → j < n → P j s → ∃ s', body j s = some s' ∧ P (j + 1) s') : ∃ s', forR 0 n body s = some s' ∧ P n s' := by
  obtain ⟨s', h1, h2⟩ := forN_inv P (n - 0).toNat 0 s h0 (fun j s g1 g2 => hb j s g1 (by omega))
  exact ⟨s', h1, by rwa [show (0 : Int) + ((n - 0).toNat : Int) = n by omega] at h2⟩
theorem rngN_inv {S O : Type} {body : Int → S → Option (S ⊕ O)} (P : Int → S → Prop) (Q : O → Prop) : ∀ (k : Nat) (i : Int) (s : S), P i s →
    (∀ j s, i ≤ j → j < i + k → P j s → (∃ s', body j s = some (.inl s') ∧ P (j + 1) s') ∨ ∃ o, body j s = some (.inr o) ∧ Q o) →
    (∃ s', rngN body k i s = some (.inl s') ∧ P (i + k) s') ∨ ∃ o, rngN body k i s = some (.inr o) ∧ Q o
  | 0, i, s, h, _ => .inl ⟨s, rfl, by simpa using h⟩
  | k + 1, i, s, h, hb => by
    rcases hb i s (Int.le_refl _) (by omega) h with ⟨s1, h1, h2⟩ | ⟨o, h1, h2⟩
    · rcases rngN_inv P Q k (i + 1) s1 h2 (fun j s g1 g2 => hb j s (by omega) (by omega)) with ⟨s2, h3, h4⟩ | ⟨o, h3, h4⟩
      · exact .inl ⟨s2, by simp only [rngN, h1]; exact h3, by rw [show i + ((k + 1 : Nat) : Int) = i + 1 + k by omega]; exact h4⟩
      · exact .inr ⟨o, by simp only [rngN, h1]; exact h3, h4⟩
    · exact .inr ⟨o, by simp only [rngN, h1], h2⟩
/-- A loop over numbers with ways out, from what it keeps. -/
theorem rngX_inv {S O : Type} {body : Int → S → Option (S ⊕ O)} {n : Int} (P : Int → S → Prop) (Q : O → Prop) {s : S} (hn : 0 ≤ n) (h0 : P 0 s)
    (hb : ∀ j s, 0 ≤ j → j < n → P j s → (∃ s', body j s = some (.inl s') ∧ P (j + 1) s') ∨ ∃ o, body j s = some (.inr o) ∧ Q o) :
    (∃ s', rngX 0 n body s = some (.inl s') ∧ P n s') ∨ ∃ o, rngX 0 n body s = some (.inr o) ∧ Q o := by
  rcases rngN_inv P Q (n - 0).toNat 0 s h0 (fun j s g1 g2 => hb j s g1 (by omega)) with ⟨s', h1, h2⟩ | h
  · exact .inl ⟨s', h1, by rwa [show (0 : Int) + ((n - 0).toNat : Int) = n by omega] at h2⟩
  · exact .inr h
/-- A loop that tests: all pass. -/
theorem rngX_all {O : Type} {body : Int → Unit → Option (Unit ⊕ O)} {n : Int} (hn : 0 ≤ n) (hb : ∀ j, 0 ≤ j → j < n → body j () = some (.inl ())) : rngX 0 n body () = some (.inl ()) := by
  rcases rngX_inv (body := body) (fun _ _ => True) (fun _ => False) (s := ()) hn trivial (fun j s g1 g2 _ => .inl ⟨(), hb j g1 g2, trivial⟩) with ⟨s', h, _⟩ | ⟨o, _, h⟩
  · exact h
  · exact h.elim
theorem LoopN_inv {S O : Type} {body : S → Option (S ⊕ O)} (P : S → Prop) (Q : O → Prop) (μ : S → Nat) (hb : ∀ s, P s → (∃ s', body s = some (.inl s') ∧ P s' ∧ μ s' < μ s) ∨ ∃ o, body s = some (.inr o) ∧ Q o) :
    ∀ (k : Nat) (s : S), μ s < k → P s → ∃ o, LoopN body k s = some o ∧ Q o
  | 0, s, h, _ => by omega
  | k + 1, s, h, hs => by
    rcases hb s hs with ⟨s', h1, h2, h3⟩ | ⟨o, h1, h2⟩
    · obtain ⟨o, g1, g2⟩ := LoopN_inv P Q μ hb k s' (by omega) h2
      exact ⟨o, by simp only [LoopN, h1]; exact g1, g2⟩
    · exact ⟨o, by simp only [LoopN, h1], h2⟩
/-- A loop, from what it keeps and a measure that sinks. -/
theorem Loop_inv {S O : Type} {body : S → Option (S ⊕ O)} (P : S → Prop) (Q : O → Prop) (μ : S → Nat) {s : S} (hs : P s)
    (hb : ∀ s, P s → (∃ s', body s = some (.inl s') ∧ P s' ∧ μ s' < μ s) ∨ ∃ o, body s = some (.inr o) ∧ Q o) : ∃ o, Loop body s = some o ∧ Q o := by
  obtain ⟨o, h1, h2⟩ := LoopN_inv P Q μ hb (μ s + 1) s (by omega) hs
  exact ⟨o, Loop_iff.2 ⟨_, h1⟩, h2⟩
/-! ### Two loops that do the same -/
theorem rngN_eq {S O : Type} {b1 b2 : Int → S → Option (S ⊕ O)} (P : Int → S → Prop) : ∀ (k : Nat) (i : Int) (s : S), P i s →
    (∀ j s, i ≤ j → j < i + k → P j s → b1 j s = b2 j s ∧ b1 j s ≠ none ∧ ∀ s', b1 j s = some (.inl s') → P (j + 1) s') →
    rngN b1 k i s = rngN b2 k i s ∧ rngN b1 k i s ≠ none ∧ ∀ s', rngN b1 k i s = some (.inl s') → P (i + k) s'
  | 0, i, s, h, _ => ⟨rfl, by simp [rngN], fun s' hs => by simp only [rngN, Option.some.injEq, Sum.inl.injEq] at hs; subst hs; simpa using h⟩
  | k + 1, i, s, h, hb => by
    obtain ⟨h1, h2, h3⟩ := hb i s (Int.le_refl _) (by omega) h
    simp only [rngN]
    rw [← h1]
    cases hc : b1 i s with
    | none => exact absurd hc h2
    | some x =>
      cases x with
      | inr o => exact ⟨rfl, by simp, fun s' hs => by simp at hs⟩
      | inl s1 =>
        dsimp only
        have := rngN_eq (b1 := b1) (b2 := b2) P k (i + 1) s1 (h3 s1 hc) (fun j s g1 g2 => hb j s (by omega) (by omega))
        rwa [show i + 1 + (k : Int) = i + ((k + 1 : Nat) : Int) by omega] at this
theorem rngX_eq {S O : Type} {b1 b2 : Int → S → Option (S ⊕ O)} {n : Int} (P : Int → S → Prop) {s : S} (hn : 0 ≤ n) (h0 : P 0 s)
    (hb : ∀ j s, 0 ≤ j → j < n → P j s → b1 j s = b2 j s ∧ b1 j s ≠ none ∧ ∀ s', b1 j s = some (.inl s') → P (j + 1) s') :
    rngX 0 n b1 s = rngX 0 n b2 s ∧ rngX 0 n b1 s ≠ none ∧ ∀ s', rngX 0 n b1 s = some (.inl s') → P n s' := by
  have := rngN_eq P (n - 0).toNat 0 s h0 (fun j s g1 g2 => hb j s g1 (by omega))
  rwa [show (0 : Int) + ((n - 0).toNat : Int) = n by omega] at this
end Ab
end
section
namespace Ab
open Go
/-- A proposition as' a truth value. -/
noncomputable def dec (p : Prop) : Bool := @decide p (Classical.propDecidable p)
@[simp] theorem dec_true {p : Prop} : dec p = true ↔ p := by simp [dec]
@[simp] theorem dec_false {p : Prop} : dec p = false ↔ ¬ p := by simp [dec]
@[simp] theorem dec_not {p : Prop} : (!dec p) = dec (¬ p) := by by_cases h : p <;> simp [dec, h]
theorem decide_dec {p : Prop} [Decidable p] : decide p = dec p := by by_cases h : p <;> simp [dec, h]
theorem dec_of {p : Prop} (h : p) : dec p = true := dec_true.2 h
theorem dec_no {p : Prop} (h : ¬ p) : dec p = false := dec_false.2 h
theorem dec_congr {p q : Prop} (h : p ↔ q) : dec p = dec q := by rw [propext h]
theorem dec_inj {p q : Prop} : dec p = dec q ↔ (p ↔ q) := ⟨fun h => ⟨fun hp => dec_true.1 (h ▸ dec_of hp), fun hq => dec_true.1 (h.symm ▸ dec_of hq)⟩, dec_congr⟩
theorem dec_and {p q : Prop} : (dec p && dec q) = dec (p ∧ q) := by by_cases h : p <;> by_cases g : q <;> simp [dec, h, g]
theorem dec_or {p q : Prop} : (dec p || dec q) = dec (p ∨ q) := by by_cases h : p <;> by_cases g : q <;> simp [dec, h, g]
theorem ifP {α : Type} {p : Prop} {a b : α} (h : p) : (if dec p = true then a else b) = a := if_pos (dec_of h)
theorem ifN {α : Type} {p : Prop} {a b : α} (h : ¬ p) : (if dec p = true then a else b) = b := if_neg fun g => h (dec_true.1 g)
theorem ifNN {α : Type} {p : Prop} {a b : α} (h : p) : (if dec (¬ p) = true then a else b) = b := ifN (not_not_intro h)
theorem ix_mem {α : Type} {l : List α} {i : Int} {a : α} (h : ix l i = some a) : a ∈ l := List.mem_of_getElem? (ix_lo h).2.2
theorem mem_ix {α : Type} {l : List α} {a : α} (h : a ∈ l) : ∃ i : Int, 0 ≤ i ∧ i < l.length ∧ ix l i = some a := by
  obtain ⟨k, hk⟩ := List.getElem?_of_mem h
  exact ⟨k, by omega, by have := (List.getElem?_eq_some_iff.1 hk).1; omega, by rw [ix_nat, hk]⟩
theorem ix_put {α : Type} {l : List α} {i j : Int} {x : α} (h0 : 0 ≤ i) (h1 : i < l.length) (hj : 0 ≤ j) : ix (l.set i.toNat x) j = if j = i then some x else ix l j := by
  simp only [ix, hj, if_true, List.getElem?_set]
  by_cases h : j = i
  · subst h; rw [if_pos rfl, if_pos rfl, if_pos (by omega)]
  · rw [if_neg h, if_neg (by omega)]
/-- A loop that tests: the first number that fails ends it. -/
theorem rngX_test {O : Type} {body : Int → Unit → Option (Unit ⊕ O)} {n : Int} (g : Int → Option O) (hn : 0 ≤ n)
    (hb : ∀ j, 0 ≤ j → j < n → (∀ i, 0 ≤ i → i < j → g i = none) → body j () = some (match g j with | none => .inl () | some o => .inr o)) :
    (rngX 0 n body () = some (.inl ()) ∧ ∀ j, 0 ≤ j → j < n → g j = none) ∨ ∃ j o, 0 ≤ j ∧ j < n ∧ g j = some o ∧ (∀ i, 0 ≤ i → i < j → g i = none) ∧ rngX 0 n body () = some (.inr o) := by
  rcases rngX_inv (body := body) (n := n) (fun j _ => ∀ i, 0 ≤ i → i < j → g i = none) (fun o => ∃ j, 0 ≤ j ∧ j < n ∧ g j = some o ∧ ∀ i, 0 ≤ i → i < j → g i = none) (s := ()) hn (fun i h1 h2 => by omega) (fun j s h0 h1 hP => by
    have := hb j h0 h1 hP
    cases hg : g j with
    | none => rw [hg] at this; exact .inl ⟨(), this, fun i h2 h3 => by
        rcases Int.lt_or_eq_of_le (Int.le_of_lt_add_one h3) with h | h
        · exact hP i h2 h
        · rw [h, hg]⟩
    | some o => rw [hg] at this; exact .inr ⟨o, this, j, h0, h1, hg, hP⟩) with ⟨s', h1, h2⟩ | ⟨o, h1, j, h2, h3, h4, h5⟩
  · exact .inl ⟨h1, h2⟩
  · exact .inr ⟨j, o, h2, h3, h4, h5, h1⟩
/-- A loop over a list that tests its elements. -/
theorem rng_list {α O : Type} {l : List α} {body : Int → Unit → Option (Unit ⊕ O)} (q : α → Prop) (b : O)
    (hb : ∀ j a, ix l j = some a → (q a ∧ body j () = some (.inl ())) ∨ (¬ q a ∧ body j () = some (.inr b))) :
    rngX 0 (l.length : Int) body () = some (if dec (∀ a ∈ l, q a) = true then .inl () else .inr b) := by
  rcases rngX_test (body := body) (n := (l.length : Int)) (fun j => match ix l j with | some a => if dec (q a) = true then none else some b | none => none) (by omega) (fun j h0 h1 _ => by
    obtain ⟨a, h2, _⟩ := ix_of h0 h1
    rw [h2]
    rcases hb j a h2 with ⟨h3, h4⟩ | ⟨h3, h4⟩
    · rw [h4]; simp [h3]
    · rw [h4]; simp [h3]) with ⟨h1, h2⟩ | ⟨j, o, h0, h1, h2, _, h4⟩
  · rw [h1, if_pos]
    rw [dec_true]
    intro a ha
    obtain ⟨i, g1, g2, g3⟩ := mem_ix ha
    have := h2 i g1 g2
    rw [g3] at this
    simpa using this
  · rw [h4]
    obtain ⟨a, g1, _⟩ := ix_of h0 h1
    rw [g1] at h2
    simp only [dec_true] at h2
    split at h2
    · cases h2
    · rename_i hq
      cases h2
      rw [if_neg]
      rw [dec_true]
      exact fun h => hq (dec_of (h a (ix_mem g1)))
/-- Rising lists. -/
abbrev Inc (l : List Int) : Prop := l.Pairwise (· < ·)
theorem inc_of_adj : ∀ {l : List Int}, (∀ (k : Nat) a b, l[k]? = some a → l[k + 1]? = some b → a < b) → Inc l
  | [], _ => .nil
  | [_], _ => by simp
  | a :: b :: l, h => by
    have ih : Inc (b :: l) := inc_of_adj fun k x y h1 h2 => h (k + 1) x y (by simpa using h1) (by simpa using h2)
    have hab : a < b := h 0 a b rfl rfl
    refine List.pairwise_cons.2 ⟨fun c hc => ?_, ih⟩
    rcases List.mem_cons.1 hc with rfl | hc
    · exact hab
    · exact Int.lt_trans hab ((List.pairwise_cons.1 ih).1 c hc)
theorem Inc.get {l : List Int} (h : Inc l) {i j : Nat} {a b : Int} (hi : l[i]? = some a) (hj : l[j]? = some b) (hij : i < j) : a < b := by
  obtain ⟨h1, rfl⟩ := List.getElem?_eq_some_iff.1 hi
  obtain ⟨h2, rfl⟩ := List.getElem?_eq_some_iff.1 hj
  exact List.pairwise_iff_getElem.1 h i j h1 h2 hij
theorem Inc.ext : ∀ {l m : List Int}, Inc l → Inc m → (∀ x, x ∈ l ↔ x ∈ m) → l = m
  | [], [], _, _, _ => rfl
  | [], b :: m, _, _, h => absurd ((h b).2 (by simp)) (by simp)
  | a :: l, [], _, _, h => absurd ((h a).1 (by simp)) (by simp)
  | a :: l, b :: m, hl, hm, h => by
    obtain ⟨l1, l2⟩ := List.pairwise_cons.1 hl
    obtain ⟨m1, m2⟩ := List.pairwise_cons.1 hm
    have hab : a = b := by
      rcases List.mem_cons.1 ((h a).1 (by simp)) with e | e
      · exact e
      · rcases List.mem_cons.1 ((h b).2 (by simp)) with e' | e'
        · exact e'.symm
        · have := l1 b e'; have := m1 a e; omega
    subst hab
    rw [Inc.ext l2 m2 fun x => ⟨fun hx => ?_, fun hx => ?_⟩]
    · rcases List.mem_cons.1 ((h x).1 (by simp [hx])) with e | e
      · have := l1 x hx; omega
      · exact e
    · rcases List.mem_cons.1 ((h x).2 (by simp [hx])) with e | e
      · have := m1 x hx; omega
      · exact e
theorem Inc.filter {l : List Int} (h : Inc l) (p : Int → Bool) : Inc (l.filter p) := List.Pairwise.filter p h
/-- Numbers from lo on. -/
def nums (lo : Int) : Nat → List Int
  | 0 => []
  | k + 1 => lo :: nums (lo + 1) k
theorem mem_nums {x : Int} : ∀ {k : Nat} {lo : Int}, x ∈ nums lo k ↔ lo ≤ x ∧ x < lo + k
  | 0, lo => by simp [nums]
  | k + 1, lo => by
    rw [nums, List.mem_cons, mem_nums (k := k)]
    omega
theorem inc_nums : ∀ (k : Nat) (lo : Int), Inc (nums lo k)
  | 0, _ => .nil
  | k + 1, lo => List.pairwise_cons.2 ⟨fun x hx => by have := mem_nums.1 hx; omega, inc_nums k (lo + 1)⟩
theorem len_nums : ∀ (k : Nat) (lo : Int), (nums lo k).length = k
  | 0, _ => rfl
  | k + 1, lo => by simp [nums, len_nums k]
/-- The set of the numbers below n of which p holds. -/
noncomputable def setOf (p : Int → Prop) (n : Int) : List Int := (nums 0 n.toNat).filter fun x => dec (p x)
theorem mem_setOf {p : Int → Prop} {n x : Int} : x ∈ setOf p n ↔ 0 ≤ x ∧ x < n ∧ p x := by
  rw [setOf, List.mem_filter, mem_nums, dec_true]
  constructor
  · rintro ⟨⟨h1, h2⟩, h3⟩; exact ⟨h1, by omega, h3⟩
  · rintro ⟨h1, h2, h3⟩; exact ⟨⟨h1, by omega⟩, h3⟩
theorem inc_setOf (p : Int → Prop) (n : Int) : Inc (setOf p n) := (inc_nums _ _).filter _
theorem setOf_congr {p q : Int → Prop} {n : Int} (h : ∀ x, 0 ≤ x → x < n → (p x ↔ q x)) : setOf p n = setOf q n := by
  refine List.filter_congr fun x hx => dec_congr ?_
  have := mem_nums.1 hx
  exact h x (by omega) (by omega)
/-- A rising list of numbers below n. -/
def SetN (l : List Int) (n : Int) : Prop := Inc l ∧ ∀ x ∈ l, 0 ≤ x ∧ x < n
theorem setN_setOf (p : Int → Prop) (n : Int) : SetN (setOf p n) n := ⟨inc_setOf p n, fun x hx => by have := mem_setOf.1 hx; exact ⟨this.1, this.2.1⟩⟩
theorem SetN.eq {l : List Int} {n : Int} (h : SetN l n) : l = setOf (· ∈ l) n :=
  h.1.ext (inc_setOf _ _) fun x => ⟨fun hx => mem_setOf.2 ⟨(h.2 x hx).1, (h.2 x hx).2, hx⟩, fun hx => (mem_setOf.1 hx).2.2⟩
theorem SetN.eq_of {l : List Int} {n : Int} (h : SetN l n) {p : Int → Prop} (hp : ∀ x, 0 ≤ x → x < n → (x ∈ l ↔ p x)) : l = setOf p n :=
  h.eq.trans (setOf_congr hp)
theorem SetN.len {l : List Int} {n : Int} (h : SetN l n) : l.length ≤ n.toNat := by
  rw [h.eq, setOf]
  exact Nat.le_trans (List.length_filter_le _ _) (Nat.le_of_eq (len_nums _ _))
theorem setN_nil (n : Int) : SetN [] n := ⟨.nil, by simp⟩
/-- A list of the elements that pass, made by appending. -/
theorem forR_filter {α : Type} {l : List α} {b : Nat} {body : Int → List α → Option (List α)} (q : α → Prop)
    (hb : ∀ j a c, ix l j = some a → (q a → body j c = app b c [a]) ∧ (¬ q a → body j c = some c)) (c0 : List α) (hl : (c0.length + l.length) * b ≤ 140737488355328) :
    forR 0 (l.length : Int) body c0 = some (c0 ++ l.filter fun a => dec (q a)) := by
  obtain ⟨s', h1, h2⟩ := forR_inv (body := body) (n := (l.length : Int)) (s := c0) (fun j c => c = c0 ++ (l.take j.toNat).filter fun a => dec (q a)) (by omega) (by simp) (fun j c h0 h1 hP => by
    obtain ⟨a, g1, g2⟩ := ix_of h0 h1
    have e : (j + 1).toNat = j.toNat + 1 := by omega
    have ht : l.take (j + 1).toNat = l.take j.toNat ++ [a] := by rw [e, List.take_add_one, g2]; rfl
    by_cases hq : q a
    · have happ : app b c [a] = some (c ++ [a]) := by
        rw [app, if_pos]
        have h3 : ((l.take j.toNat).filter fun a => dec (q a)).length ≤ (l.take j.toNat).length := List.length_filter_le _ _
        rw [List.length_take] at h3
        have h5 : c.length + 1 ≤ c0.length + l.length := by rw [hP, List.length_append]; omega
        refine Nat.le_trans (Nat.mul_le_mul_right b ?_) hl
        simpa using h5
      refine ⟨c ++ [a], by rw [(hb j a c g1).1 hq, happ], ?_⟩
      rw [ht, List.filter_append, hP]
      simp [hq]
    · refine ⟨c, (hb j a c g1).2 hq, ?_⟩
      rw [ht, List.filter_append, hP]
      simp [hq])
  rw [h1, h2]
  simp
/-- The same over numbers. -/
theorem forR_setOf {b : Nat} {n : Int} {body : Int → List Int → Option (List Int)} (q : Int → Prop) (hn : 0 ≤ n) (hl : n.toNat * b ≤ 140737488355328)
    (hb : ∀ j c, 0 ≤ j → j < n → (q j → body j c = app b c [j]) ∧ (¬ q j → body j c = some c)) : forR 0 n body [] = some (setOf q n) := by
  obtain ⟨s', h1, h2⟩ := forR_inv (body := body) (n := n) (s := []) (fun j c => c = setOf q j) hn (by simp [setOf, nums]) (fun j c h0 h1 hP => by
    have hs : setOf q (j + 1) = setOf q j ++ if dec (q j) = true then [j] else [] := by
      refine (inc_setOf q (j + 1)).ext ?_ fun x => ?_
      · refine List.pairwise_append.2 ⟨inc_setOf _ _, by split <;> simp, fun a ha b hb => ?_⟩
        have := mem_setOf.1 ha
        split at hb
        · simp at hb; omega
        · cases hb
      · rw [List.mem_append, mem_setOf, mem_setOf]
        by_cases hq : q j
        · rw [if_pos (dec_of hq)]
          simp only [List.mem_singleton]
          refine ⟨fun h => ?_, fun h => ?_⟩
          · by_cases e : x = j
            · exact .inr e
            · exact .inl ⟨h.1, by omega, h.2.2⟩
          · rcases h with h | rfl
            · exact ⟨h.1, by omega, h.2.2⟩
            · exact ⟨h0, by omega, hq⟩
        · rw [if_neg (by simpa using hq)]
          simp only [List.not_mem_nil, or_false]
          refine ⟨fun h => ⟨h.1, ?_, h.2.2⟩, fun h => ⟨h.1, by omega, h.2.2⟩⟩
          rcases Int.lt_or_eq_of_le (Int.le_of_lt_add_one h.2.1) with e | e
          · exact e
          · rw [e] at h; exact absurd h.2.2 hq
    by_cases hq : q j
    · refine ⟨c ++ [j], ?_, by rw [hs, hP, if_pos (dec_of hq)]⟩
      rw [(hb j c h0 h1).1 hq, app, if_pos]
      have h3 : c.length ≤ j.toNat := by rw [hP]; exact (setN_setOf q j).len
      refine Nat.le_trans (Nat.mul_le_mul_right b ?_) hl
      simp; omega
    · refine ⟨c, (hb j c h0 h1).2 hq, ?_⟩
      rw [hs, hP, if_neg (by simpa using hq), List.append_nil])
  rw [h1, h2]
end Ab
end
section
namespace Ab
open Go
theorem has_eq (l : List Int) (n : Int) : ref1_Has l n = some (dec (n ∈ l)) := by
  unfold ref1_Has
  rw [rng_list (l := l) (fun a => a ≠ n) true (fun j a h => by
    unfold ref1_Has_l1
    rw [h]
    by_cases e : a = n <;> simp [e])]
  by_cases h : n ∈ l
  · rw [if_neg (by simp only [dec_true]; exact fun g => g n h rfl)]
    simp [h]
  · rw [if_pos (by simp only [dec_true]; exact fun a ha e => h (e ▸ ha))]
    simp [h]
theorem subset_eq (part l : List Int) : ref1_Subset part l = some (dec (∀ x ∈ part, x ∈ l)) := by
  unfold ref1_Subset
  rw [rng_list (l := part) (fun a => a ∈ l) false (fun j a h => by
    unfold ref1_Subset_l1
    rw [h]
    by_cases e : a ∈ l <;> simp [e, has_eq])]
  by_cases h : ∀ x ∈ part, x ∈ l
  · rw [if_pos (dec_of h), dec_of h]; rfl
  · rw [if_neg (by rw [dec_no h]; simp), dec_no h]; rfl
theorem disjoint_eq (a b : List Int) : ref1_Disjoint a b = some (dec (∀ x ∈ a, x ∉ b)) := by
  unfold ref1_Disjoint
  rw [rng_list (l := a) (fun x => x ∉ b) false (fun j x h => by
    unfold ref1_Disjoint_l1
    rw [h]
    by_cases e : x ∈ b <;> simp [e, has_eq])]
  by_cases h : ∀ x ∈ a, x ∉ b
  · rw [if_pos (dec_of h), dec_of h]; rfl
  · rw [if_neg (by rw [dec_no h]; simp), dec_no h]; rfl
theorem in_eq (n lo hi : Int) : ref1_In n lo hi = some (dec (lo ≤ n ∧ n ≤ hi)) := by
  unfold ref1_In; rw [decide_dec, decide_dec, dec_and]
theorem at_eq (c i : Int) : ref1_At c i = some ⟨c, i⟩ := rfl
/-- What a test of a rising list asks at a place. -/
def stepOk (l : List Int) (n j : Int) : Prop := ∀ a, ix l j = some a → (0 ≤ a ∧ a < n) ∧ ∀ b, 0 < j → ix l (j - 1) = some b → b < a
theorem stepOk_iff {l : List Int} {n : Int} : (∀ j : Int, 0 ≤ j → j < l.length → stepOk l n j) ↔ SetN l n := by
  constructor
  · intro h
    refine ⟨inc_of_adj fun k a b h1 h2 => ?_, fun x hx => ?_⟩
    · have hk := (List.getElem?_eq_some_iff.1 h2).1
      have := (h ((k + 1 : Nat) : Int) (by omega) (by omega) b (by rw [ix_nat]; exact h2)).2 a (by omega)
      rw [show ((k + 1 : Nat) : Int) - 1 = (k : Nat) by omega] at this
      exact this (by rw [ix_nat]; exact h1)
    · obtain ⟨i, h1, h2, h3⟩ := mem_ix hx
      exact (h i h1 h2 x h3).1
  · intro h j h0 h1 a ha
    refine ⟨h.2 a (ix_mem ha), fun b hj hb => ?_⟩
    obtain ⟨_, _, ga⟩ := ix_lo ha
    obtain ⟨_, _, gb⟩ := ix_lo hb
    exact h.1.get gb ga (by omega)
theorem isSet_eq (l : List Int) (n : Int) : strips_IsSet l n = some (dec (SetN l n)) := by
  unfold strips_IsSet
  rcases rngX_test (body := strips_IsSet_l1 l n) (n := (l.length : Int)) (fun j => if dec (stepOk l n j) = true then none else some false) (by omega) (fun j h0 h1 _ => by
    obtain ⟨a, ha, _⟩ := ix_of (l := l) h0 h1
    unfold strips_IsSet_l1
    rw [ha]
    simp only [Option.bind_some]
    by_cases c1 : a < 0
    · rw [if_pos c1, if_neg]
      · rfl
      · rw [dec_true]; intro h; have := (h a ha).1; omega
    · rw [if_neg c1]
      by_cases c2 : n ≤ a
      · rw [if_pos c2, if_neg]
        · rfl
        · rw [dec_true]; intro h; have := (h a ha).1; omega
      · rw [if_neg c2]
        by_cases c3 : 0 < j
        · obtain ⟨b, hb, _⟩ := ix_of (l := l) (i := j - 1) (by omega) (by omega)
          rw [if_pos c3, hb]
          simp only [Option.bind_some]
          by_cases c4 : a ≤ b
          · rw [if_pos (by simpa using c4), if_neg]
            rw [dec_true]; intro h; have := (h a ha).2 b c3 hb; omega
          · rw [if_neg (by simpa using c4), if_pos]
            rw [dec_true]; intro x hx
            rw [ha] at hx; cases hx
            exact ⟨by omega, fun y _ hy => by rw [hb] at hy; cases hy; omega⟩
        · rw [if_neg c3]
          simp only [Option.bind_some]
          rw [if_neg (by simp), if_pos]
          rw [dec_true]; intro x hx
          rw [ha] at hx; cases hx
          exact ⟨by omega, fun y hy => absurd hy c3⟩) with ⟨h1, h2⟩ | ⟨j, o, h0, h1, h2, _, h4⟩
  · rw [h1, dec_of]
    · rfl
    · exact stepOk_iff.1 fun j g1 g2 => by have := h2 j g1 g2; simpa using this
  · rw [h4]
    split at h2
    · cases h2
    · rename_i hs
      cases h2
      rw [dec_no]
      · rfl
      · exact fun h => hs (dec_of (stepOk_iff.2 h j h0 h1))
theorem rIsSet_eq (l : List Int) {n : Int} (hn : -9223372036854775808 < n) (hn' : n ≤ 9223372036854775807) : ref1_IsSet l n = some (dec (SetN l n)) := by
  unfold ref1_IsSet
  rcases rngX_test (body := ref1_IsSet_l1 l n) (n := (l.length : Int)) (fun j => if dec (stepOk l n j) = true then none else some false) (by omega) (fun j h0 h1 _ => by
    obtain ⟨a, ha, _⟩ := ix_of (l := l) h0 h1
    unfold ref1_IsSet_l1
    rw [ha]
    simp only [Option.bind_some, in_eq, w64_of (n := n - 1) (by omega) (by omega), dec_not]
    by_cases c1 : 0 ≤ a ∧ a ≤ n - 1
    · rw [if_neg (by simpa using c1)]
      by_cases c3 : 0 < j
      · obtain ⟨b, hb, _⟩ := ix_of (l := l) (i := j - 1) (by omega) (by omega)
        rw [if_pos c3, hb]
        simp only [Option.bind_some]
        by_cases c4 : a ≤ b
        · rw [if_pos (by simpa using c4), if_neg]
          rw [dec_true]; intro h; have := (h a ha).2 b c3 hb; omega
        · rw [if_neg (by simpa using c4), if_pos]
          rw [dec_true]; intro x hx
          rw [ha] at hx; cases hx
          exact ⟨by omega, fun y _ hy => by rw [hb] at hy; cases hy; omega⟩
      · rw [if_neg c3]
        simp only [Option.bind_some]
        rw [if_neg (by simp), if_pos]
        rw [dec_true]; intro x hx
        rw [ha] at hx; cases hx
        exact ⟨by omega, fun y hy => absurd hy c3⟩
    · rw [if_pos (by simpa using c1), if_neg]
      · rfl
      · rw [dec_true]; intro h; have := (h a ha).1; omega) with ⟨h1, h2⟩ | ⟨j, o, h0, h1, h2, _, h4⟩
  · rw [h1, dec_of]
    · rfl
    · exact stepOk_iff.1 fun j g1 g2 => by have := h2 j g1 g2; simpa using this
  · rw [h4]
    split at h2
    · cases h2
    · rename_i hs
      cases h2
      rw [dec_no]
      · rfl
      · exact fun h => hs (dec_of (stepOk_iff.2 h j h0 h1))
theorem containsLoop {s : List Int} (hs : Inc s) (hl : s.length ≤ 1000000) (x : Int) {i : Int} (h0 : 0 ≤ i) (h1 : i ≤ s.length) (hlt : ∀ k a, 0 ≤ k → k < i → ix s k = some a → a < x) :
    ∃ i', Loop (strips_Contains_l2 s x) i = some i' ∧ i ≤ i' ∧ i' ≤ s.length ∧ (∀ k a, 0 ≤ k → k < i' → ix s k = some a → a < x) ∧ (∀ a, ix s i' = some a → x ≤ a) := by
  obtain ⟨o, h2, h3⟩ := Loop_inv (body := strips_Contains_l2 s x) (fun j => i ≤ j ∧ j ≤ s.length ∧ ∀ k a, 0 ≤ k → k < j → ix s k = some a → a < x) (fun i' => i ≤ i' ∧ i' ≤ s.length ∧ (∀ k a, 0 ≤ k → k < i' → ix s k = some a → a < x) ∧ (∀ a, ix s i' = some a → x ≤ a)) (fun j => (s.length - j).toNat) (s := i) ⟨Int.le_refl _, h1, hlt⟩ (fun j ⟨g1, g2, g3⟩ => by
    unfold strips_Contains_l2
    by_cases c : j < s.length
    · obtain ⟨a, ha, _⟩ := ix_of (l := s) (i := j) (by omega) c
      rw [if_pos c, ha]
      simp only [Option.bind_some, decide_eq_true_eq]
      by_cases c2 : a < x
      · rw [if_pos c2]
        rw [w64_of (by omega) (by omega)]
        refine .inl ⟨j + 1, rfl, ⟨by omega, by omega, fun k b k0 k1 hb => ?_⟩, by omega⟩
        by_cases e : k = j
        · subst e; rw [ha] at hb; cases hb; exact c2
        · exact g3 k b k0 (by omega) hb
      · rw [if_neg c2]
        exact .inr ⟨j, rfl, g1, g2, g3, fun b hb => by rw [ha] at hb; cases hb; omega⟩
    · rw [if_neg c]
      exact .inr ⟨j, rfl, g1, g2, g3, fun b hb => by have := (ix_lo hb).2.1; omega⟩)
  exact ⟨o, h2, h3⟩
theorem contains_eq {s part : List Int} (hs : Inc s) (hp : Inc part) (hl : s.length ≤ 1000000) : strips_Contains s part = some (dec (∀ x ∈ part, x ∈ s)) := by
  unfold strips_Contains
  rcases rngX_inv (body := strips_Contains_l1 s part) (n := (part.length : Int)) (fun j i => (0 ≤ i ∧ i ≤ s.length ∧ ∀ k a, 0 ≤ k → k < i → ix s k = some a → ∀ m x, j ≤ m → ix part m = some x → a < x) ∧ ∀ m x, 0 ≤ m → m < j → ix part m = some x → x ∈ s) (fun o => o = false ∧ ¬ ∀ x ∈ part, x ∈ s) (s := 0) (by omega) ⟨⟨by omega, by omega, fun k a h1 h2 => by omega⟩, fun m x h1 h2 => by omega⟩ (fun j i h0 h1 ⟨⟨g1, g2, g3⟩, g4⟩ => by
    obtain ⟨x, hx, gx⟩ := ix_of (l := part) h0 h1
    unfold strips_Contains_l1
    obtain ⟨i', e1, e2, e3, e4, e5⟩ := containsLoop hs hl x g1 g2 (fun k a k0 k1 ha => g3 k a k0 k1 ha j x (Int.le_refl _) hx)
    rw [hx]
    simp only [Option.bind_some, e1]
    have nin : (∀ a, ix s i' = some a → x < a) → x ∉ s := fun hgt hin => by
      obtain ⟨k, k0, k1, hk⟩ := mem_ix hin
      rcases Int.lt_trichotomy k i' with c | c | c
      · have := e4 k x k0 c hk; omega
      · subst c; have := hgt x hk; omega
      · obtain ⟨b, hb, gb⟩ := ix_of (l := s) (i := i') (by omega) (by omega)
        obtain ⟨_, _, gk⟩ := ix_lo hk
        have := hs.get gb gk (by omega)
        have := e5 b hb
        omega
    by_cases c : i' = s.length
    · rw [if_pos c]
      refine .inr ⟨false, rfl, rfl, fun h => ?_⟩
      exact nin (fun a ha => by have := (ix_lo ha).2.1; omega) (h x (ix_mem hx))
    · rw [if_neg c]
      obtain ⟨b, hb, gb⟩ := ix_of (l := s) (i := i') (by omega) (by omega)
      rw [hb]
      simp only [Option.bind_some]
      have hxb := e5 b hb
      by_cases c2 : b = x
      · subst c2
        rw [if_neg (by simp)]
        refine .inl ⟨i', rfl, ⟨by omega, e3, fun k a k0 k1 ha m y hm hy => ?_⟩, fun m y m0 m1 hy => ?_⟩
        · obtain ⟨_, _, gy⟩ := ix_lo hy
          have := hp.get gx gy (by omega)
          have := e4 k a k0 k1 ha
          omega
        · by_cases e : m = j
          · subst e; rw [hx] at hy; cases hy; exact ix_mem hb
          · exact g4 m y m0 (by omega) hy
      · rw [if_pos (by simpa using c2)]
        refine .inr ⟨false, rfl, rfl, fun h => ?_⟩
        exact nin (fun a ha => by rw [hb] at ha; cases ha; omega) (h x (ix_mem hx))) with ⟨s', h1, _, h2⟩ | ⟨o, h1, rfl, h2⟩
  · rw [h1, dec_of]
    · rfl
    · intro x hx
      obtain ⟨m, m0, m1, hm⟩ := mem_ix hx
      exact h2 m x m0 m1 hm
  · rw [h1, dec_no h2]; rfl
end Ab
end
section
namespace Ab
open Go
theorem half_eq {i j : Int} (h0 : 0 ≤ i) (h1 : i ≤ j) (h2 : j ≤ 1000000) : w64 (shrW .u64 ((IntKind.u64).wrap (w64 (i + j))) 1) = (i + j) / 2 := by
  rw [w64_of (n := i + j) (by omega) (by omega), IntKind.wrap_u64, Int.emod_eq_of_lt (by omega) (by omega)]
  have : shrW .u64 (i + j) 1 = (i + j) / 2 := by
    simp only [shrW, IntKind.bits]
    rw [show min (1 : Int).toNat 64 = 1 by rfl, Int.fdiv_eq_ediv_of_nonneg _ (by decide)]
    rfl
  rw [this]
  exact w64_of (by omega) (by omega)
theorem less_eq (a b : Int) : cmp_Less_int a b = some (decide (a < b)) := by simp [cmp_Less_int, cmp_isNaN_int]
theorem bsearch_eq {xs : List Int} (hs : Inc xs) (hl : xs.length ≤ 500000) (t : Int) : ∃ i, slices_BinarySearch_int_int xs t = some (i, dec (t ∈ xs)) ∧ 0 ≤ i ∧ i ≤ xs.length ∧ (∀ k a, 0 ≤ k → k < i → ix xs k = some a → a < t) ∧ (∀ k a, i ≤ k → ix xs k = some a → t ≤ a) := by
  unfold slices_BinarySearch_int_int
  obtain ⟨i, h1, h2, h3, h4, h5⟩ := Loop_inv (body := slices_BinarySearch_int_int_l1 xs t) (fun p => (0 ≤ p.1 ∧ p.1 ≤ p.2 ∧ p.2 ≤ xs.length) ∧ (∀ k a, 0 ≤ k → k < p.1 → ix xs k = some a → a < t) ∧ (∀ k a, p.2 ≤ k → ix xs k = some a → t ≤ a))
    (fun i => 0 ≤ i ∧ i ≤ xs.length ∧ (∀ k a, 0 ≤ k → k < i → ix xs k = some a → a < t) ∧ (∀ k a, i ≤ k → ix xs k = some a → t ≤ a)) (fun p => (p.2 - p.1).toNat) (s := (0, (xs.length : Int)))
    ⟨⟨by simp, by simp, by simp⟩, fun k a h1 h2 => by simp at h2; omega, fun k a h1 h2 => by have := (ix_lo h2).2.1; simp at h1; omega⟩ (fun ⟨i, j⟩ ⟨⟨g1, g2, g3⟩, g4, g5⟩ => by
    dsimp only at g1 g2 g3 g4 g5 ⊢
    unfold slices_BinarySearch_int_int_l1
    dsimp only
    by_cases c : i < j
    · rw [if_pos c, half_eq g1 g2 (by omega)]
      obtain ⟨a, ha, ga⟩ := ix_of (l := xs) (i := (i + j) / 2) (by omega) (by omega)
      rw [ha]
      simp only [Option.bind_some, less_eq, decide_eq_true_eq]
      by_cases c2 : a < t
      · rw [if_pos c2, w64_of (by omega) (by omega)]
        refine .inl ⟨_, rfl, ⟨⟨by dsimp only; omega, by dsimp only; omega, g3⟩, fun k b k0 k1 hb => ?_, g5⟩, by dsimp only; omega⟩
        dsimp only at k1
        obtain ⟨_, _, gb⟩ := ix_lo hb
        by_cases e : k = (i + j) / 2
        · subst e; rw [ha] at hb; cases hb; exact c2
        · have := hs.get gb ga (by omega); omega
      · rw [if_neg c2]
        refine .inl ⟨_, rfl, ⟨⟨g1, by dsimp only; omega, by dsimp only; omega⟩, g4, fun k b k0 hb => ?_⟩, by dsimp only; omega⟩
        dsimp only at k0
        obtain ⟨_, _, gb⟩ := ix_lo hb
        by_cases e : k = (i + j) / 2
        · subst e; rw [ha] at hb; cases hb; omega
        · have := hs.get ga gb (by omega); omega
    · rw [if_neg c]
      have : i = j := by omega
      subst this
      exact .inr ⟨i, rfl, g1, g3, g4, g5⟩)
  rw [h1]
  simp only [Option.bind_some]
  refine ⟨i, ?_, h2, h3, h4, h5⟩
  have nin : (∀ a, ix xs i = some a → a ≠ t) → t ∉ xs := fun hne hin => by
    obtain ⟨k, k0, k1, hk⟩ := mem_ix hin
    rcases Int.lt_trichotomy k i with c | c | c
    · have := h4 k t k0 c hk; omega
    · subst c; exact hne t hk rfl
    · obtain ⟨b, hb, gb⟩ := ix_of (l := xs) (i := i) (by omega) (by omega)
      obtain ⟨_, _, gk⟩ := ix_lo hk
      have := hs.get gb gk (by omega)
      have := h5 i b (Int.le_refl _) hb
      omega
  by_cases c : i < xs.length
  · obtain ⟨a, ha, ga⟩ := ix_of (l := xs) (i := i) (by omega) c
    rw [if_pos c, ha]
    simp only [Option.bind_some]
    by_cases c2 : a = t
    · subst c2
      rw [if_pos rfl, dec_of (ix_mem ha)]
      rfl
    · rw [if_neg c2]
      simp only [slices_isNaN_int, decide_true, Bool.not_true, Bool.false_eq_true, if_false, Option.bind_some]
      rw [dec_no (nin fun b hb => by rw [ha] at hb; cases hb; exact c2)]
  · rw [if_neg c]
    simp only [Option.bind_some]
    rw [dec_no (nin fun b hb => by have := (ix_lo hb).2.1; omega)]
theorem bsearch2 {xs : List Int} (hs : Inc xs) (hl : xs.length ≤ 500000) (t : Int) : ∃ i, slices_BinarySearch_int_int xs t = some (i, dec (t ∈ xs)) :=
  let ⟨i, h, _⟩ := bsearch_eq hs hl t
  ⟨i, h⟩
theorem containsFunc_eq {l : List Int} {f : Int → Option Bool} (p : Int → Prop) (hf : ∀ x ∈ l, f x = some (dec (p x))) : slices_ContainsFunc_int_int l f = some (dec (∃ x ∈ l, p x)) := by
  unfold slices_ContainsFunc_int_int slices_IndexFunc_int_int
  rcases rngX_test (body := slices_IndexFunc_int_int_l1 l f) (n := (l.length : Int)) (fun j => if dec (∀ a, ix l j = some a → ¬ p a) = true then none else some j) (by omega) (fun j h0 h1 _ => by
    obtain ⟨a, ha, _⟩ := ix_of (l := l) h0 h1
    unfold slices_IndexFunc_int_int_l1
    rw [ha]
    simp only [Option.bind_some, hf a (ix_mem ha)]
    by_cases c : p a
    · rw [if_pos (dec_of c), if_neg (by rw [dec_true]; exact fun h => h a rfl c)]
    · rw [if_neg (by rw [dec_no c]; simp), if_pos (dec_of fun b hb => by cases hb; exact c)]) with ⟨h1, h2⟩ | ⟨j, o, h0, h1, h2, _, h4⟩
  · rw [h1]
    simp only [Option.bind_some]
    rw [dec_no]
    · rfl
    · rintro ⟨x, hx, hp⟩
      obtain ⟨i, g1, g2, g3⟩ := mem_ix hx
      have := h2 i g1 g2
      split at this
      · rename_i h; exact dec_true.1 h x g3 hp
      · cases this
  · rw [h4]
    split at h2
    · cases h2
    · rename_i h
      cases h2
      simp only [Option.bind_some]
      rw [dec_of]
      · simp [h0]
      · simp only [dec_true] at h
        obtain ⟨a, g1, _⟩ := ix_of (l := l) h0 h1
        refine ⟨a, ix_mem g1, ?_⟩
        rcases Classical.em (p a) with c | c
        · exact c
        · exact absurd (fun b hb => by rw [g1] at hb; cases hb; exact c) h
theorem meets_eq {a b : List Int} (hb : Inc b) (hl : b.length ≤ 500000) : strips_Meets a b = some (dec (∃ x ∈ a, x ∈ b)) := by
  unfold strips_Meets
  rw [containsFunc_eq (fun x => x ∈ b) (fun x _ => by
    unfold strips_Meets_1
    obtain ⟨i, h⟩ := bsearch2 hb hl x
    rw [h]; rfl)]
  rfl
/-! ### Sorted, and equal neighbours made one -/
theorem compact_spec {l : List Int} (hs : l.Pairwise (· ≤ ·)) : Inc (compactL l) ∧ ∀ x, x ∈ compactL l ↔ x ∈ l := by
  have key : ∀ m, m ≤ l.length → Inc (Go.Lib.compactUpTo l.toArray m) ∧ (∀ x, x ∈ Go.Lib.compactUpTo l.toArray m ↔ x ∈ l.take m) := by
    intro m
    induction m with
    | zero => intro _; simp [Go.Lib.compactUpTo]
    | succ m ih =>
      intro hm
      obtain ⟨h1, h2⟩ := ih (by omega)
      have hlt : m < l.length := by omega
      have hd : l.toArray[m]! = l[m] := by simp [hlt]
      have ht : l.take (m + 1) = l.take m ++ [l[m]] := by rw [List.take_add_one]; simp [hlt]
      rw [Go.Lib.compactUpTo_succ, ht]
      by_cases hk : Go.Lib.keeps l.toArray m = true
      · rw [if_pos hk, hd]
        refine ⟨List.pairwise_append.2 ⟨h1, by simp, fun a ha b hb => ?_⟩, fun x => by rw [List.mem_append, List.mem_append, h2]⟩
        simp only [List.mem_singleton] at hb
        subst hb
        have ha' := (h2 a).1 ha
        obtain ⟨i, hi, rfl⟩ := List.mem_iff_getElem.1 ha'
        rw [List.length_take] at hi
        rw [List.getElem_take]
        simp only [Go.Lib.keeps, decide_eq_true_eq] at hk
        rcases hk with hk | hk
        · omega
        · have hm1 : l.toArray[m - 1]! = l[m - 1] := by simp [show m - 1 < l.length by omega]
          rw [hd, hm1] at hk
          have e1 : l[m - 1] ≤ l[m] := List.pairwise_iff_getElem.1 hs (m - 1) m (by omega) hlt (by omega)
          have e2 : l[i] ≤ l[m - 1] := by
            rcases Nat.lt_or_ge i (m - 1) with c | c
            · exact List.pairwise_iff_getElem.1 hs i (m - 1) (by omega) (by omega) c
            · have : i = m - 1 := by omega
              subst this; exact Int.le_refl _
          omega
      · rw [if_neg hk, List.append_nil]
        refine ⟨h1, fun x => ?_⟩
        rw [h2, List.mem_append]
        refine ⟨.inl, fun h => ?_⟩
        rcases h with h | h
        · exact h
        · simp only [List.mem_singleton] at h
          subst h
          have hm0 : m ≠ 0 := fun e => hk (by simp [Go.Lib.keeps, e])
          have hm1 : l.toArray[m - 1]! = l[m - 1] := by simp [show m - 1 < l.length by omega]
          have he : l[m] = l[m - 1] := by
            simp only [Go.Lib.keeps, decide_eq_true_eq, not_or] at hk
            have h3 : l.toArray[m]! = l.toArray[m - 1]! := Classical.not_not.1 (fun h => hk.2 h)
            rw [hd, hm1] at h3; exact h3
          rw [he, List.mem_take_iff_getElem]
          exact ⟨m - 1, by omega, rfl⟩
  obtain ⟨h1, h2⟩ := key l.length (Nat.le_refl _)
  refine ⟨?_, fun x => ?_⟩
  · simpa [compactL, Go.Lib.compact] using h1
  · have := h2 x
    rw [List.take_length] at this
    simpa [compactL, Go.Lib.compact] using this
theorem srt_spec (l : List Int) : (srt l).Pairwise (· ≤ ·) ∧ ∀ x, x ∈ srt l ↔ x ∈ l := by
  refine ⟨?_, fun x => by simp [srt]⟩
  have := List.pairwise_mergeSort (le := fun x y : Int => decide (x ≤ y)) (fun a b c h1 h2 => by simp at h1 h2 ⊢; omega) (fun a b => by simp; omega) l
  refine this.imp fun h => by simpa using h
theorem sortL_eq {l : List Int} (h : l.length < 4611686018427387904) : sortL l = some (srt l) := by rw [sortL, if_pos h]
theorem update_inc {s add del : List Int} (hd : Inc del) (hl : del.length ≤ 500000) (h1 : s.length ≤ 500000) (h2 : add.length ≤ 500000) :
    ∃ r, strips_Update s add del = some r ∧ Inc r ∧ ∀ x, x ∈ r ↔ (x ∈ s ∧ x ∉ del) ∨ x ∈ add := by
  unfold strips_Update
  rw [forR_filter (l := s) (b := 8) (fun a => a ∉ del) (fun j a c h => by
    obtain ⟨i, hi⟩ := bsearch2 hd hl a
    unfold strips_Update_l1
    rw [h]
    simp only [Option.bind_some, hi, dec_not]
    refine ⟨fun hq => ?_, fun hq => ?_⟩
    · rw [if_pos (dec_of hq)]
      cases app 8 c [a] <;> rfl
    · rw [if_neg (by simpa using hq)]; rfl) [] (by simp; omega)]
  simp only [Option.bind_some, List.nil_append]
  have hle : (s.filter fun a => dec (a ∉ del)).length ≤ s.length := List.length_filter_le _ _
  rw [show app 8 (s.filter fun a => dec (a ∉ del)) add = some ((s.filter fun a => dec (a ∉ del)) ++ add) by rw [app, if_pos]; omega]
  simp only [Option.bind_some]
  rw [sortL_eq (by rw [List.length_append]; omega)]
  simp only [Option.bind_some]
  obtain ⟨e1, e2⟩ := srt_spec ((s.filter fun a => dec (a ∉ del)) ++ add)
  obtain ⟨e3, e4⟩ := compact_spec e1
  refine ⟨_, rfl, e3, fun x => ?_⟩
  rw [e4, e2, List.mem_append, List.mem_filter, dec_true]
theorem update_eq {s add del : List Int} {n : Int} (hn : n ≤ 1000) (hd : Inc del) (hl : del.length ≤ 500000) (hs : SetN s n) (ha : SetN add n) :
    strips_Update s add del = some (setOf (fun x => (x ∈ s ∧ x ∉ del) ∨ x ∈ add) n) := by
  have h1 := hs.len; have h2 := ha.len
  obtain ⟨r, e1, e2, e3⟩ := update_inc (s := s) (add := add) hd hl (by omega) (by omega)
  rw [e1, SetN.eq_of (n := n) ⟨e2, fun x hx => ?_⟩ (fun x _ _ => e3 x)]
  rcases (e3 x).1 hx with h | h
  · exact hs.2 x h.1
  · exact ha.2 x h
end Ab
end
section
namespace Ab
open Go
theorem fault_no {f : TFault} (h : f.code ≠ 0) : (!((decide (f.code = 0)) && (decide (f.index = 0)))) = true := by simp [h]
theorem clone_eq {s : List Int} (h : s.length ≤ 1000000) : slices_Clone_int_int s = some s := by
  rw [slices_Clone_int_int, app, if_pos (by simp; omega)]; rfl
end Ab
end
section
namespace Ab
open Go
theorem setN1 (a : Int) {n : Int} (h0 : 0 ≤ a) (h1 : a < n) : SetN [a] n := ⟨by simp, by simp [h0, h1]⟩
theorem subL_drop {α : Type} {l : List α} {i : Int} (h0 : 0 ≤ i) (h1 : i ≤ l.length) : subL l i (l.length : Int) = some (l.drop i.toNat) := by
  rw [subL, if_pos (by omega)]
  rw [show ((l.length : Int)).toNat = l.length by omega, List.take_length]
theorem subL_take {α : Type} {l : List α} {i : Int} (h0 : 0 ≤ i) (h1 : i ≤ l.length) : subL l 0 i = some (l.take i.toNat) := by
  rw [subL, if_pos (by omega)]; rfl
end Ab
end
section
namespace Ab
open Go
/-- Lexicographic order. -/
def llt : List Int → List Int → Prop
  | [], [] => False
  | [], _ :: _ => True
  | _ :: _, [] => False
  | a :: l, b :: m => a < b ∨ a = b ∧ llt l m
theorem llt_irrefl : ∀ l : List Int, ¬ llt l l
  | [] => id
  | a :: l => fun h => by
    rcases h with h | ⟨_, h⟩
    · omega
    · exact llt_irrefl l h
theorem llt_trans : ∀ {a b c : List Int}, llt a b → llt b c → llt a c
  | [], [], _, h, _ => h.elim
  | [], _ :: _, [], _, h => h.elim
  | [], _ :: _, _ :: _, _, _ => trivial
  | _ :: _, [], _, h, _ => h.elim
  | _ :: _, _ :: _, [], _, h => h.elim
  | x :: a, y :: b, z :: c, h, g => by
    rcases h with h | ⟨rfl, h⟩ <;> rcases g with g | ⟨rfl, g⟩
    · exact .inl (by omega)
    · exact .inl h
    · exact .inl g
    · exact .inr ⟨rfl, llt_trans h g⟩
theorem llt_total : ∀ a b : List Int, llt a b ∨ a = b ∨ llt b a
  | [], [] => .inr (.inl rfl)
  | [], _ :: _ => .inl trivial
  | _ :: _, [] => .inr (.inr trivial)
  | x :: a, y :: b => by
    rcases Int.lt_trichotomy x y with h | rfl | h
    · exact .inl (.inl h)
    · rcases llt_total a b with h | rfl | h
      · exact .inl (.inr ⟨rfl, h⟩)
      · exact .inr (.inl rfl)
      · exact .inr (.inr (.inr ⟨rfl, h⟩))
    · exact .inr (.inr (.inl h))
theorem llt_asymm {a b : List Int} (h : llt a b) (g : llt b a) : False := llt_irrefl a (llt_trans h g)
/-- What Compare tells. -/
noncomputable def cmpL (a b : List Int) : Int := if dec (llt a b) = true then -1 else if dec (a = b) = true then 0 else 1
theorem cmpL_lt {a b : List Int} : cmpL a b < 0 ↔ llt a b := by
  unfold cmpL
  by_cases h : llt a b
  · rw [ifP h]; simp [h]
  · rw [ifN h]
    split <;> simp [h]
theorem cmpL_eq {a b : List Int} : cmpL a b = 0 ↔ a = b := by
  unfold cmpL
  by_cases h : llt a b
  · rw [ifP h]
    constructor
    · intro e; omega
    · rintro rfl; exact absurd h (llt_irrefl _)
  · rw [ifN h]
    by_cases g : a = b
    · rw [ifP g]; simp [g]
    · rw [ifN g]; simp [g]
theorem cmpL_ge {a b : List Int} : 0 ≤ cmpL a b ↔ ¬ llt a b := by rw [← cmpL_lt]; omega
theorem cmpInt_eq (x y : Int) : cmp_Compare_int x y = some (if x < y then -1 else if y < x then 1 else 0) := by
  unfold cmp_Compare_int cmp_isNaN_int
  simp only [decide_true, Bool.not_true, Option.bind_some, Bool.false_eq_true, if_false]
  split
  · rfl
  · split <;> rfl
theorem llt_drop : ∀ {a b : List Int} (k : Nat), k ≤ a.length → k ≤ b.length → a.take k = b.take k → (llt a b ↔ llt (a.drop k) (b.drop k))
  | _, _, 0, _, _, _ => by simp
  | [], _, k + 1, h, _, _ => by simp at h
  | _ :: _, [], k + 1, _, h, _ => by simp at h
  | x :: a, y :: b, k + 1, h1, h2, h3 => by
    simp only [List.take_succ_cons, List.cons.injEq] at h3
    obtain ⟨rfl, h3⟩ := h3
    simp only [List.drop_succ_cons]
    rw [← llt_drop k (by simpa using h1) (by simpa using h2) h3]
    simp [llt]
theorem compare_eq (a b : List Int) : slices_Compare_int_int a b = some (cmpL a b) := by
  unfold slices_Compare_int_int
  rcases rngX_inv (body := slices_Compare_int_int_l1 a b) (n := (a.length : Int)) (s := ()) (fun j _ => j ≤ b.length ∧ a.take j.toNat = b.take j.toNat) (fun o => o = cmpL a b) (by omega) ⟨by omega, by simp⟩ (fun j _ j0 j1 ⟨k1, k2⟩ => by
    obtain ⟨x, hx, gx⟩ := ix_of (l := a) j0 j1
    have hxl := (List.getElem?_eq_some_iff.1 gx).2
    unfold slices_Compare_int_int_l1
    rw [hx]
    simp only [Option.bind_some]
    have hd := llt_drop (a := a) (b := b) j.toNat (by omega) (by omega) k2
    have da : a.drop j.toNat = x :: a.drop (j.toNat + 1) := by rw [← hxl]; exact List.drop_eq_getElem_cons (by omega)
    by_cases c : (b.length : Int) ≤ j
    · rw [if_pos c]
      refine .inr ⟨_, rfl, ?_⟩
      have db : b.drop j.toNat = [] := List.drop_of_length_le (by omega)
      rw [da, db] at hd
      unfold cmpL
      rw [ifN (fun h => (hd.1 h).elim), ifN]
      rintro rfl; omega
    · rw [if_neg c]
      obtain ⟨y, hy, gy⟩ := ix_of (l := b) (i := j) j0 (by omega)
      have hyl := (List.getElem?_eq_some_iff.1 gy).2
      have db : b.drop j.toNat = y :: b.drop (j.toNat + 1) := by rw [← hyl]; exact List.drop_eq_getElem_cons (by omega)
      rw [hy]
      simp only [Option.bind_some, cmpInt_eq]
      rw [da, db] at hd
      have hne : x ≠ y → a ≠ b := fun h e => by subst e; rw [hx] at hy; cases hy; exact h rfl
      rcases Int.lt_trichotomy x y with h | rfl | h
      · rw [if_pos h, if_neg (by decide)]
        refine .inr ⟨_, rfl, ?_⟩
        unfold cmpL
        rw [ifP (hd.2 (.inl h))]
      · simp only [Int.lt_irrefl, if_false, if_true]
        refine .inl ⟨(), trivial, by omega, ?_⟩
        rw [show (j + 1).toNat = j.toNat + 1 by omega, List.take_add_one, List.take_add_one, gx, gy, k2]
      · rw [if_neg (show ¬ x < y by omega), if_pos h, if_neg (by decide)]
        refine .inr ⟨_, rfl, ?_⟩
        unfold cmpL
        rw [ifN, ifN (hne (by omega))]
        intro g
        rcases hd.1 g with g | ⟨g, _⟩ <;> omega) with ⟨_, r1, r2, r3⟩ | ⟨o, r1, rfl⟩
  · rw [r1]
    simp only [Option.bind_some]
    have hd := llt_drop (a := a) (b := b) a.length (Nat.le_refl _) (by omega) (by simpa using r3)
    have da : a.drop a.length = [] := by simp
    rw [da] at hd
    have e3 : a = b.take a.length := by simpa using r3
    by_cases c : (a.length : Int) < b.length
    · rw [if_pos c]
      have : b.drop a.length ≠ [] := by simp; omega
      unfold cmpL
      rw [ifP]
      rw [hd]
      cases h : b.drop a.length with
      | nil => exact absurd h this
      | cons x l => trivial
    · rw [if_neg c]
      have : a = b := by rw [e3, List.take_of_length_le (by omega)]
      rw [cmpL_eq.2 this]
  · rw [r1]; rfl
theorem cmp_ok : CmpOk slices_Compare_int_int cmpL := by
  refine ⟨compare_eq, ⟨fun x => ?_, fun x y z h1 h2 => ?_, fun x y z h1 h2 => ?_⟩, fun a b h1 h2 => ?_⟩
  · simp only [Go.Proofs.ltOf, decide_eq_false_iff_not, cmpL_lt]
    exact llt_irrefl x
  · simp only [Go.Proofs.ltOf, decide_eq_true_eq, cmpL_lt] at h1 h2 ⊢
    exact llt_trans h1 h2
  · simp only [Go.Proofs.ltOf, decide_eq_false_iff_not, cmpL_lt] at h1 h2 ⊢
    intro h
    rcases llt_total x y with g | rfl | g
    · exact h1 g
    · exact h2 h
    · exact h2 (llt_trans g h)
  · rw [cmpL_lt] at h1 h2
    rcases llt_total a b with g | g | g
    · exact absurd g h1
    · exact g
    · exact absurd g h2
/-! ### Lists compared -/
/-- Two lists compared element by element. -/
theorem listEq {α : Type} {a b : List α} {body : Int → Unit → Option (Unit ⊕ Bool)} (hl : a.length = b.length) (hb : ∀ j x y, ix a j = some x → ix b j = some y → (x = y ∧ body j () = some (.inl ())) ∨ (x ≠ y ∧ body j () = some (.inr false))) :
    (Option.bind (rngX 0 (a.length : Int) body ()) fun | .inl _ => some true | .inr x => some x) = some (dec (a = b)) := by
  rcases rngX_test (body := body) (n := (a.length : Int)) (fun j => if dec (ix a j = ix b j) = true then none else some false) (by omega) (fun j h0 h1 _ => by
    obtain ⟨x, hx, _⟩ := ix_of (l := a) h0 h1
    obtain ⟨y, hy, _⟩ := ix_of (l := b) (i := j) h0 (by omega)
    rcases hb j x y hx hy with ⟨e, h⟩ | ⟨e, h⟩
    · rw [h, ifP (by rw [hx, hy, e])]
    · rw [h, ifN (by rw [hx, hy]; simpa using e)]) with ⟨h1, h2⟩ | ⟨j, o, h0, h1, h2, _, h4⟩
  · rw [h1, dec_of]
    · rfl
    · refine List.ext_getElem? fun k => ?_
      by_cases hk : k < a.length
      · have := h2 k (by omega) (by omega)
        split at this
        · rename_i e
          have := dec_true.1 e
          rwa [ix_nat, ix_nat] at this
        · cases this
      · rw [List.getElem?_eq_none (by omega), List.getElem?_eq_none (by omega)]
  · rw [h4]
    split at h2
    · cases h2
    · rename_i e
      cases h2
      rw [dec_no (fun h => e (dec_of (by rw [h])))]; rfl
theorem ints_eq (a b : List Int) : ref1_Ints a b = some (dec (a = b)) := by
  unfold ref1_Ints
  by_cases hl : (a.length : Int) = b.length
  · rw [if_pos hl]
    refine listEq (by omega) fun j x y hx hy => ?_
    unfold ref1_Ints_l1
    simp only [hx, hy, Option.bind_some]
    by_cases e : x = y
    · rw [if_pos e]; exact .inl ⟨e, rfl⟩
    · rw [if_neg e]; exact .inr ⟨e, rfl⟩
  · rw [if_neg hl, dec_no (fun h => hl (by rw [h]))]
theorem equal_eq (a b : List Int) : slices_Equal_int_int a b = some (dec (a = b)) := by
  unfold slices_Equal_int_int
  by_cases hl : (a.length : Int) = b.length
  · rw [if_pos hl]
    refine listEq (by omega) fun j x y hx hy => ?_
    unfold slices_Equal_int_int_l1
    simp only [hx, hy, Option.bind_some]
    by_cases e : x = y
    · rw [if_pos e]; exact .inl ⟨e, rfl⟩
    · rw [if_neg e]; exact .inr ⟨e, rfl⟩
  · rw [if_neg hl, dec_no (fun h => hl (by rw [h]))]
theorem place_eq (l : List (List Int)) (s : List Int) : ∃ r, ref1_Place l s = some r ∧ ((r = -1 ∧ s ∉ l) ∨ (0 ≤ r ∧ r < l.length ∧ ix l r = some s ∧ ∀ j, 0 ≤ j → j < r → ix l j ≠ some s)) := by
  unfold ref1_Place
  rcases rngX_test (body := ref1_Place_l1 l s) (n := (l.length : Int)) (fun j => if dec (ix l j = some s) = true then some j else none) (by omega) (fun j h0 h1 _ => by
    obtain ⟨x, hx, _⟩ := ix_of (l := l) h0 h1
    unfold ref1_Place_l1
    simp only [hx, Option.bind_some, ints_eq]
    by_cases e : x = s
    · rw [ifP e, ifP (by rw [e])]
    · rw [ifN e, ifN (by simpa using e)]) with ⟨h1, h2⟩ | ⟨j, o, h0, h1, h2, h3, h4⟩
  · rw [h1]
    refine ⟨-1, rfl, .inl ⟨rfl, fun hs => ?_⟩⟩
    obtain ⟨i, i0, i1, hi⟩ := mem_ix hs
    have := h2 i i0 i1
    rw [ifP hi] at this
    cases this
  · rw [h4]
    split at h2
    · rename_i e
      cases h2
      refine ⟨_, rfl, .inr ⟨h0, h1, dec_true.1 e, fun i i0 i1 => ?_⟩⟩
      have := h3 i i0 i1
      split at this
      · cases this
      · rename_i e
        exact fun h => e (dec_of h)
    · cases h2
/-! ### Ordered lists -/
abbrev Ord (l : List (List Int)) : Prop := l.Pairwise llt
theorem Ord.ext : ∀ {l m : List (List Int)}, Ord l → Ord m → (∀ x, x ∈ l ↔ x ∈ m) → l = m
  | [], [], _, _, _ => rfl
  | [], b :: m, _, _, h => absurd ((h b).2 (by simp)) (by simp)
  | a :: l, [], _, _, h => absurd ((h a).1 (by simp)) (by simp)
  | a :: l, b :: m, hl, hm, h => by
    obtain ⟨l1, l2⟩ := List.pairwise_cons.1 hl
    obtain ⟨m1, m2⟩ := List.pairwise_cons.1 hm
    have hab : a = b := by
      rcases List.mem_cons.1 ((h a).1 (by simp)) with e | e
      · exact e
      · rcases List.mem_cons.1 ((h b).2 (by simp)) with e' | e'
        · exact e'.symm
        · exact (llt_asymm (l1 b e') (m1 a e)).elim
    subst hab
    rw [Ord.ext l2 m2 fun x => ⟨fun hx => ?_, fun hx => ?_⟩]
    · rcases List.mem_cons.1 ((h x).1 (by simp [hx])) with e | e
      · subst e; exact absurd (l1 x hx) (llt_irrefl x)
      · exact e
    · rcases List.mem_cons.1 ((h x).2 (by simp [hx])) with e | e
      · subst e; exact absurd (m1 x hx) (llt_irrefl x)
      · exact e
theorem Ord.get {l : List (List Int)} (h : Ord l) {i j : Int} {a b : List Int} (hi : ix l i = some a) (hj : ix l j = some b) (hij : i < j) : llt a b := by
  obtain ⟨i0, i1, hi⟩ := ix_lo hi
  obtain ⟨j0, j1, hj⟩ := ix_lo hj
  obtain ⟨h1, rfl⟩ := List.getElem?_eq_some_iff.1 hi
  obtain ⟨h2, rfl⟩ := List.getElem?_eq_some_iff.1 hj
  exact List.pairwise_iff_getElem.1 h _ _ h1 h2 (by omega)
theorem Ord.inj {l : List (List Int)} (h : Ord l) {i j : Int} {a : List Int} (hi : ix l i = some a) (hj : ix l j = some a) : i = j := by
  rcases Int.lt_trichotomy i j with e | e | e
  · exact absurd (h.get hi hj e) (llt_irrefl a)
  · exact e
  · exact absurd (h.get hj hi e) (llt_irrefl a)
/-- Equal neighbours made one: what is kept of the first m elements. -/
def ddN (l : List (List Int)) : Nat → List (List Int)
  | 0 => []
  | m + 1 => ddN l m ++ if decide (m = 0 ∨ l[m]? ≠ l[m - 1]?) = true then l[m]?.toList else []
theorem ddN_spec {l : List (List Int)} (hs : l.Pairwise fun a b => ¬ llt b a) : ∀ m, m ≤ l.length → Ord (ddN l m) ∧ ∀ x, x ∈ ddN l m ↔ x ∈ l.take m := by
  intro m
  induction m with
  | zero => intro _; simp [ddN]
  | succ m ih =>
    intro hm
    obtain ⟨h1, h2⟩ := ih (by omega)
    have hlt : m < l.length := by omega
    have ht : l.take (m + 1) = l.take m ++ [l[m]] := by rw [List.take_add_one]; simp [hlt]
    rw [ddN, ht]
    by_cases hk : m = 0 ∨ l[m]? ≠ l[m - 1]?
    · rw [if_pos (by simpa using hk)]
      simp only [List.getElem?_eq_getElem hlt, Option.toList_some]
      refine ⟨List.pairwise_append.2 ⟨h1, by simp, fun a ha b hb => ?_⟩, fun x => by rw [List.mem_append, List.mem_append, h2]⟩
      simp only [List.mem_singleton] at hb
      subst hb
      have ha' := (h2 a).1 ha
      obtain ⟨i, hi, rfl⟩ := List.mem_iff_getElem.1 ha'
      rw [List.length_take] at hi
      rw [List.getElem_take]
      rcases hk with hk | hk
      · omega
      · have hm1 : m - 1 < l.length := by omega
        rw [List.getElem?_eq_getElem hlt, List.getElem?_eq_getElem hm1] at hk
        have e1 : ¬ llt l[m] l[m - 1] := List.pairwise_iff_getElem.1 hs (m - 1) m hm1 hlt (by omega)
        have e2 : llt l[m - 1] l[m] := by
          rcases llt_total l[m - 1] l[m] with h | h | h
          · exact h
          · exact absurd (by rw [h]) hk
          · exact absurd h e1
        by_cases hi2 : i = m - 1
        · subst hi2; exact e2
        · have e3 : ¬ llt l[m - 1] l[i] := List.pairwise_iff_getElem.1 hs i (m - 1) (by omega) hm1 (by omega)
          rcases llt_total l[i] l[m] with h | h | h
          · exact h
          · rw [h] at e3; exact absurd e2 e3
          · exact absurd (llt_trans e2 h) e3
    · rw [if_neg (by simpa using hk), List.append_nil]
      refine ⟨h1, fun x => ?_⟩
      rw [h2, List.mem_append]
      refine ⟨.inl, fun h => ?_⟩
      rcases h with h | h
      · exact h
      · simp only [List.mem_singleton] at h
        subst h
        have hm0 : m ≠ 0 := fun e => hk (.inl e)
        have he : l[m]? = l[m - 1]? := Classical.not_not.1 fun e => hk (.inr e)
        rw [List.getElem?_eq_getElem hlt, List.getElem?_eq_getElem (show m - 1 < l.length by omega)] at he
        rw [Option.some.inj he, List.mem_take_iff_getElem]
        exact ⟨m - 1, by omega, rfl⟩
theorem ddN_len (l : List (List Int)) : ∀ m, (ddN l m).length ≤ m
  | 0 => by simp [ddN]
  | m + 1 => by
    have := ddN_len l m
    rw [ddN, List.length_append]
    split
    · have : (l[m]?.toList).length ≤ 1 := by cases l[m]? <;> simp
      omega
    · simp; omega
theorem ddN_all {l : List (List Int)} : ∀ m, m ≤ l.length → (∀ i, 0 < i → i < m → l[i]? ≠ l[i - 1]?) → ddN l m = l.take m
  | 0, _, _ => by simp [ddN]
  | m + 1, hm, h => by
    rw [ddN, ddN_all m (by omega) fun i h0 h1 => h i h0 (by omega), if_pos, List.take_add_one]
    rw [decide_eq_true_eq]
    by_cases e : m = 0
    · exact .inl e
    · exact .inr (h m (by omega) (by omega))
theorem compactF_eq {l : List (List Int)} (hl : l.length ≤ 1000000) : slices_CompactFunc_int_int_w l = some (ddN l l.length) := by
  unfold slices_CompactFunc_int_int_w
  by_cases c0 : (l.length : Int) < 2
  · rw [if_pos c0, ddN_all l.length (Nat.le_refl _) fun i h0 h1 => by omega, List.take_length]
  · rw [if_neg c0]
    have key := rngN_inv (body := slices_CompactFunc_int_int_w_l1 l) (fun j _ => ∀ i : Nat, 0 < i → (i : Int) < j → l[i]? ≠ l[i - 1]?) (fun o => o = ddN l l.length) ((l.length : Int) - 1).toNat 1 () (fun i h0 h1 => by omega) (fun j _ j0 j1 hP => by
      obtain ⟨a, ha, ga⟩ := ix_of (l := l) (i := j) (by omega) (by omega)
      obtain ⟨b, hb, gb⟩ := ix_of (l := l) (i := j - 1) (by omega) (by omega)
      unfold slices_CompactFunc_int_int_w_l1
      simp only [ha, hb, Option.bind_some, equal_eq]
      have ej : (j - 1).toNat = j.toNat - 1 := by omega
      rw [ej] at gb
      by_cases c : a = b
      · rw [ifP c]
        subst c
        right
        rw [show cutV (l.length : Int) j (l.length : Int) = some () by rw [cutV, if_pos (by omega)]]
        simp only [Option.bind_some]
        obtain ⟨⟨cs, kv⟩, r1, r2, r3, r4, r5, r6⟩ := forN_inv (body := slices_CompactFunc_int_int_w_l2 l j) (fun k2 p => p.1.length = l.length ∧ j ≤ p.2 ∧ p.2 ≤ j + k2 - 1 ∧ p.1.take p.2.toNat = ddN l (j + k2).toNat ∧ ∀ i : Nat, j + k2 - 1 ≤ i → p.1[i]? = l[i]?) ((l.length : Int) - j - 1).toNat 1 (l, j) ⟨rfl, by simp, by dsimp only; omega, by
            dsimp only
            rw [show (j + 1).toNat = j.toNat + 1 by omega, ddN, if_neg, List.append_nil, ddN_all j.toNat (by omega) fun i h0 h1 => hP i h0 (by omega)]
            rw [decide_eq_true_eq]
            rintro (h | h)
            · omega
            · exact h (ga.trans gb.symm), fun i _ => rfl⟩ (fun k2 ⟨cs, kv⟩ k0 k1 ⟨g1, g2, g3, g4, g5⟩ => by
            dsimp only at g1 g2 g3 g4 g5 ⊢
            obtain ⟨x, hx, gx⟩ := ix_of (l := l) (i := j + k2) (by omega) (by omega)
            obtain ⟨y, hy, gy⟩ := ix_of (l := l) (i := j + k2 - 1) (by omega) (by omega)
            have iv : ∀ i : Int, 0 ≤ i → i < (l.length : Int) - j → ixV cs (0 + j) ((l.length : Int) - j) i = ix cs (j + i) := fun i h0 h1 => by
              rw [ixV, if_pos (by omega), Int.zero_add]
            have same : ∀ i : Int, j + k2 - 1 ≤ i → ix cs i = ix l i := fun i hi => by
              have := g5 i.toNat (by omega)
              simp only [ix]
              rw [this]
            unfold slices_CompactFunc_int_int_w_l2
            dsimp only
            rw [iv k2 (by omega) (by omega), iv (k2 - 1) (by omega) (by omega), show j + (k2 - 1) = j + k2 - 1 by omega, same _ (by omega), same _ (by omega), hx, hy]
            simp only [Option.bind_some, equal_eq, dec_not]
            have ek : (j + (k2 + 1)).toNat = (j + k2).toNat + 1 := by omega
            have ek1 : (j + k2 - 1).toNat = (j + k2).toNat - 1 := by omega
            rw [ek1] at gy
            by_cases cx : x = y
            · rw [ifNN cx]
              refine ⟨_, rfl, g1, g2, by omega, ?_, fun i hi => g5 i (by omega)⟩
              dsimp only
              rw [ek, ddN, if_neg, List.append_nil]
              · exact g4
              · rw [decide_eq_true_eq]
                rintro (h | h)
                · omega
                · exact h (by rw [gx, gy, cx])
            · rw [ifP cx]
              obtain ⟨z, hz, gz⟩ := ix_of (l := cs) (i := kv) (by omega) (by omega)
              simp only [hz, Option.bind_some]
              rw [w64_of (by omega) (by omega)]
              refine ⟨_, rfl, by rw [List.length_set]; exact g1, by omega, by omega, ?_, fun i hi => ?_⟩
              · dsimp only
                rw [ek, ddN, if_pos, gx, show (kv + 1).toNat = kv.toNat + 1 by omega, List.take_add_one, List.getElem?_set, if_pos rfl, if_pos (by omega), List.take_set_of_le (Nat.le_refl _), g4]
                rw [decide_eq_true_eq]
                exact .inr (by rw [gx, gy]; simpa using cx)
              · dsimp only
                rw [List.getElem?_set, if_neg (by omega)]
                exact g5 i (by omega))
        have ef : forR 1 ((l.length : Int) - j) (slices_CompactFunc_int_int_w_l2 l j) (l, j) = some (cs, kv) := r1
        dsimp only at r2 r3 r4 r5 r6
        rw [ef]
        simp only [Option.bind_some]
        have hcl : (clrL cs (0 + kv) ((cs.length : Int) - kv) []).length = cs.length := by simp [clrL]; omega
        rw [show cutV (cs.length : Int) kv (cs.length : Int) = some () by rw [cutV, if_pos (by omega)]]
        simp only [Option.bind_some, hcl]
        rw [show cutV (cs.length : Int) 0 kv = some () by rw [cutV, if_pos (by omega)]]
        refine ⟨_, rfl, ?_⟩
        have e1 : viewL (clrL cs (0 + kv) ((cs.length : Int) - kv) []) 0 kv = cs.take kv.toNat := by
          simp only [viewL, clrL, Int.zero_add, Int.toNat_zero, List.drop_zero]
          rw [List.append_assoc, List.take_append_of_le_length (by simp; omega), List.take_take, Nat.min_self]
        rw [e1, r5]
        congr 1
        omega
      · rw [ifN c]
        left
        refine ⟨(), rfl, fun i h0 h1 => ?_⟩
        by_cases e : (i : Int) = j
        · have : i = j.toNat := by omega
          subst this
          rw [ga, gb]
          simpa using c
        · exact hP i h0 (by omega))
    rcases key with ⟨_, h1, h2⟩ | ⟨o, h1, rfl⟩
    · have : rngX 1 (l.length : Int) (slices_CompactFunc_int_int_w_l1 l) () = some (.inl ()) := h1
      rw [this]
      simp only [Option.bind_some]
      rw [ddN_all l.length (Nat.le_refl _) fun i h0 h1 => h2 i h0 (by omega), List.take_length]
    · have : rngX 1 (l.length : Int) (slices_CompactFunc_int_int_w_l1 l) () = some (.inr (ddN l l.length)) := h1
      rw [this]; rfl
theorem normal_eq {l : List (List Int)} (hl : l.length ≤ 1000000) : ∃ r, belief_Normal_w l = some r ∧ Ord r ∧ (∀ x, x ∈ r ↔ x ∈ l) ∧ r.length ≤ l.length := by
  unfold belief_Normal_w
  rw [sortFL_eq (by omega) cmp_ok]
  simp only [Option.bind_some]
  have hlen : (l.mergeSort fun x y => decide (¬ cmpL y x < 0)).length = l.length := by simp
  rw [compactF_eq (by rw [hlen]; exact hl)]
  have hs : (l.mergeSort fun x y => decide (¬ cmpL y x < 0)).Pairwise fun a b => ¬ llt b a := by
    have := List.pairwise_mergeSort (le := fun x y : List Int => decide (¬ cmpL y x < 0)) (fun a b c h1 h2 => by
      simp only [decide_eq_true_eq, cmpL_lt] at h1 h2 ⊢
      intro h
      rcases llt_total b a with g | g | g
      · exact h1 g
      · subst g; exact h2 h
      · exact h2 (llt_trans h g)) (fun a b => by
      simp only [Bool.or_eq_true, decide_eq_true_eq, cmpL_lt]
      by_cases h : llt b a
      · exact .inr fun g => llt_asymm h g
      · exact .inl h) l
    exact this.imp fun h => by simpa [cmpL_lt] using h
  obtain ⟨h1, h2⟩ := ddN_spec hs _ (Nat.le_refl _)
  refine ⟨_, rfl, h1, fun x => ?_, ?_⟩
  · rw [h2, List.take_length]; simp
  · have := ddN_len (l.mergeSort fun x y => decide (¬ cmpL y x < 0)) (l.mergeSort fun x y => decide (¬ cmpL y x < 0)).length
    rw [hlen] at this
    rw [hlen]; exact this
end Ab
end
section
namespace Ab
open Go
theorem forN_congr {S : Type} {b1 b2 : Int → S → Option S} : ∀ (k : Nat) (i : Int) (s : S), (∀ j s, i ≤ j → j < i + k → b1 j s = b2 j s) → forN b1 k i s = forN b2 k i s
  | 0, _, _, _ => rfl
  | k + 1, i, s, h => by
    simp only [forN]
    rw [h i s (by omega) (by omega)]
    cases b2 i s with
    | none => rfl
    | some s' => exact forN_congr k (i + 1) s' fun j s g1 g2 => h j s (by omega) (by omega)
theorem forR_congr {S : Type} {b1 b2 : Int → S → Option S} {lo n : Int} {s : S} (h : ∀ j s, lo ≤ j → j < n → b1 j s = b2 j s) : forR lo n b1 s = forR lo n b2 s :=
  forN_congr _ _ _ fun j s g1 g2 => h j s g1 (by omega)
/-! ### Binary search by a key -/
def bsl {A B : Type} (xv : List A) (target : B) (cmp : A → B → Option Int) : (Int × Int) → Option ((Int × Int) ⊕ Int) := fun (iv4, j5) => if iv4 < j5 then Option.bind (ix xv (w64 (shrW .u64 ((IntKind.u64).wrap (w64 (iv4 + j5))) 1))) fun a27 => Option.bind (cmp a27 target) fun a30 => if a30 < 0 then some (.inl (w64 ((w64 (shrW .u64 ((IntKind.u64).wrap (w64 (iv4 + j5))) 1)) + 1), j5)) else some (.inl (iv4, w64 (shrW .u64 ((IntKind.u64).wrap (w64 (iv4 + j5))) 1))) else some (.inr iv4)
noncomputable def bsf {A B : Type} (xv : List A) (target : B) (cmp : A → B → Option Int) : Option (Int × Bool) := Option.bind (Loop (bsl xv target cmp) (0, (xv.length : Int))) fun iv6 => Option.bind (if iv6 < (xv.length : Int) then Option.bind (ix xv iv6) fun a43 => Option.bind (cmp a43 target) fun a46 => some (decide (a46 = 0)) else some false) fun t9 => some (iv6, t9)
theorem ordMap_get {A : Type} {key : A → List Int} {xs : List A} (h : Ord (xs.map key)) {i j : Int} {a b : A} (hi : ix xs i = some a) (hj : ix xs j = some b) (hij : i < j) : llt (key a) (key b) := by
  obtain ⟨i0, i1, hi⟩ := ix_lo hi
  obtain ⟨j0, j1, hj⟩ := ix_lo hj
  refine h.get (i := i) (j := j) ?_ ?_ hij
  · rw [ix, if_pos i0, List.getElem?_map, hi]; rfl
  · rw [ix, if_pos j0, List.getElem?_map, hj]; rfl
theorem bsf_full {A : Type} {key : A → List Int} {xs : List A} {t : List Int} {cmp : A → List Int → Option Int} (hs : Ord (xs.map key)) (hl : xs.length ≤ 500000) (hc : ∀ a, cmp a t = some (cmpL (key a) t)) :
    ∃ i, bsf xs t cmp = some (i, dec (∃ a ∈ xs, key a = t)) ∧ 0 ≤ i ∧ (∀ k a, ix xs k = some a → key a = t → k = i) ∧ i ≤ xs.length ∧ (∀ k a, 0 ≤ k → k < i → ix xs k = some a → llt (key a) t) ∧ (∀ k a, i ≤ k → ix xs k = some a → ¬ llt (key a) t) := by
  unfold bsf
  obtain ⟨i, h1, h2, h3, h4, h5⟩ := Loop_inv (body := bsl xs t cmp) (fun p => (0 ≤ p.1 ∧ p.1 ≤ p.2 ∧ p.2 ≤ xs.length) ∧ (∀ k a, 0 ≤ k → k < p.1 → ix xs k = some a → llt (key a) t) ∧ (∀ k a, p.2 ≤ k → ix xs k = some a → ¬ llt (key a) t))
    (fun i => 0 ≤ i ∧ i ≤ xs.length ∧ (∀ k a, 0 ≤ k → k < i → ix xs k = some a → llt (key a) t) ∧ (∀ k a, i ≤ k → ix xs k = some a → ¬ llt (key a) t)) (fun p => (p.2 - p.1).toNat) (s := (0, (xs.length : Int)))
    ⟨⟨by simp, by simp, by simp⟩, fun k a h1 h2 => by simp at h2; omega, fun k a h1 h2 => by have := (ix_lo h2).2.1; simp at h1; omega⟩ (fun ⟨i, j⟩ ⟨⟨g1, g2, g3⟩, g4, g5⟩ => by
    dsimp only at g1 g2 g3 g4 g5 ⊢
    unfold bsl
    dsimp only
    by_cases c : i < j
    · rw [if_pos c, half_eq g1 g2 (by omega)]
      obtain ⟨a, ha, ga⟩ := ix_of (l := xs) (i := (i + j) / 2) (by omega) (by omega)
      rw [ha]
      simp only [Option.bind_some, hc, cmpL_lt]
      by_cases c2 : llt (key a) t
      · rw [if_pos (cmpL_lt.2 c2), w64_of (by omega) (by omega)]
        refine .inl ⟨_, rfl, ⟨⟨by dsimp only; omega, by dsimp only; omega, g3⟩, fun k b k0 k1 hb => ?_, g5⟩, by dsimp only; omega⟩
        dsimp only at k1
        by_cases e : k = (i + j) / 2
        · subst e; rw [ha] at hb; cases hb; exact c2
        · exact llt_trans (ordMap_get hs hb ha (by omega)) c2
      · rw [if_neg (fun h => c2 (cmpL_lt.1 h))]
        refine .inl ⟨_, rfl, ⟨⟨g1, by dsimp only; omega, by dsimp only; omega⟩, g4, fun k b k0 hb => ?_⟩, by dsimp only; omega⟩
        dsimp only at k0
        by_cases e : k = (i + j) / 2
        · subst e; rw [ha] at hb; cases hb; exact c2
        · exact fun h => c2 (llt_trans (ordMap_get hs ha hb (by omega)) h)
    · rw [if_neg c]
      have : i = j := by omega
      subst this
      exact .inr ⟨i, rfl, g1, g3, g4, g5⟩)
  rw [h1]
  simp only [Option.bind_some]
  have uniq : ∀ k a, ix xs k = some a → key a = t → k = i := fun k a hk he => by
    rcases Int.lt_trichotomy k i with c | c | c
    · have := h4 k a (ix_lo hk).1 c hk; rw [he] at this; exact absurd this (llt_irrefl t)
    · exact c
    · obtain ⟨b, hb, gb⟩ := ix_of (l := xs) (i := i) h2 (by have := (ix_lo hk).2.1; omega)
      have := ordMap_get hs hb hk c
      rw [he] at this
      exact absurd this (h5 i b (Int.le_refl _) hb)
  refine ⟨i, ?_, h2, uniq, h3, h4, h5⟩
  by_cases c : i < xs.length
  · obtain ⟨a, ha, ga⟩ := ix_of (l := xs) (i := i) (by omega) c
    rw [if_pos c, ha]
    simp only [Option.bind_some, hc]
    by_cases c2 : key a = t
    · rw [decide_eq_true (cmpL_eq.2 c2), dec_of ⟨a, ix_mem ha, c2⟩]
    · rw [decide_eq_false (fun h => c2 (cmpL_eq.1 h)), dec_no]
      rintro ⟨b, hb, e⟩
      obtain ⟨k, k0, k1, hk⟩ := mem_ix hb
      have := uniq k b hk e
      subst this
      rw [hk] at ha; cases ha; exact c2 e
  · rw [if_neg c]
    simp only [Option.bind_some]
    rw [dec_no]
    rintro ⟨b, hb, e⟩
    obtain ⟨k, k0, k1, hk⟩ := mem_ix hb
    have := uniq k b hk e
    omega
theorem bsf_eq {A : Type} {key : A → List Int} {xs : List A} {t : List Int} {cmp : A → List Int → Option Int} (hs : Ord (xs.map key)) (hl : xs.length ≤ 500000) (hc : ∀ a, cmp a t = some (cmpL (key a) t)) :
    ∃ i, bsf xs t cmp = some (i, dec (∃ a ∈ xs, key a = t)) ∧ 0 ≤ i ∧ ∀ k a, ix xs k = some a → key a = t → k = i := by
  obtain ⟨i, h1, h2, h3, _⟩ := bsf_full hs hl hc
  exact ⟨i, h1, h2, h3⟩
theorem bsets_eq {xs : List (List Int)} {t : List Int} (hs : Ord xs) (hl : xs.length ≤ 500000) : ∃ i, slices_BinarySearchFunc_int_int_int xs t slices_Compare_int_int = some (i, dec (t ∈ xs)) ∧ 0 ≤ i ∧ ∀ k, ix xs k = some t → k = i := by
  obtain ⟨i, h1, h2, h3⟩ := bsf_eq (key := fun a => a) (xs := xs) (t := t) (cmp := slices_Compare_int_int) (by simpa using hs) hl (fun a => compare_eq a t)
  refine ⟨i, ?_, h2, fun k hk => h3 k t hk rfl⟩
  have : slices_BinarySearchFunc_int_int_int xs t slices_Compare_int_int = bsf xs t slices_Compare_int_int := rfl
  rw [this, h1]
  simp
/-! ### The order that the specification tells -/
theorem before_eq {a b : List Int} (ha : a.length ≤ 1000000) : ref7_Before a b = some (dec (llt a b)) := by
  unfold ref7_Before
  obtain ⟨o, h1, h2⟩ := Loop_inv (body := ref7_Before_l1 a b) (fun k => 0 ≤ k ∧ k ≤ a.length ∧ k ≤ b.length ∧ a.take k.toNat = b.take k.toNat) (fun o => (match o with | .inl _ => some (decide ((a.length : Int) < (b.length : Int))) | .inr x => some x) = some (dec (llt a b))) (fun k => (a.length - k).toNat) (s := 0) ⟨by omega, by omega, by omega, by simp⟩ (fun k ⟨g0, g1, g2, g3⟩ => by
    have hd := llt_drop (a := a) (b := b) k.toNat (by omega) (by omega) g3
    unfold ref7_Before_l1
    by_cases c : k < a.length ∧ k < b.length
    · rw [if_pos (by simpa using c)]
      obtain ⟨x, hx, gx⟩ := ix_of (l := a) g0 c.1
      obtain ⟨y, hy, gy⟩ := ix_of (l := b) g0 c.2
      have da : a.drop k.toNat = x :: a.drop (k.toNat + 1) := by
        obtain ⟨hlt, rfl⟩ := List.getElem?_eq_some_iff.1 gx
        exact List.drop_eq_getElem_cons hlt
      have db : b.drop k.toNat = y :: b.drop (k.toNat + 1) := by
        obtain ⟨hlt, rfl⟩ := List.getElem?_eq_some_iff.1 gy
        exact List.drop_eq_getElem_cons hlt
      rw [da, db] at hd
      simp only [hx, hy, Option.bind_some]
      by_cases e : x = y
      · subst e
        rw [if_pos rfl, w64_of (by omega) (by omega)]
        refine .inl ⟨k + 1, rfl, ⟨by omega, by omega, by omega, ?_⟩, by omega⟩
        rw [show (k + 1).toNat = k.toNat + 1 by omega, List.take_add_one, List.take_add_one, gx, gy, g3]
      · rw [if_neg e]
        refine .inr ⟨_, rfl, ?_⟩
        dsimp only
        rw [decide_dec]
        refine congrArg some (dec_congr ?_)
        rw [hd]
        exact ⟨fun h => .inl h, fun h => h.resolve_right fun g => e g.1⟩
    · rw [if_neg (by simpa using c)]
      refine .inr ⟨_, rfl, ?_⟩
      dsimp only
      rw [decide_dec]
      refine congrArg some (dec_congr ?_)
      rw [hd]
      by_cases ca : k < a.length
      · have db : b.drop k.toNat = [] := List.drop_of_length_le (by omega)
        rw [db]
        constructor
        · intro h; omega
        · intro h; cases h' : a.drop k.toNat with
          | nil => rw [h'] at h; exact h.elim
          | cons z l => rw [h'] at h; exact h.elim
      · have da : a.drop k.toNat = [] := List.drop_of_length_le (by omega)
        rw [da]
        constructor
        · intro h
          cases h' : b.drop k.toNat with
          | nil => have := List.drop_eq_nil_iff.1 h'; omega
          | cons z l => trivial
        · intro h
          cases h' : b.drop k.toNat with
          | nil => rw [h'] at h; exact h.elim
          | cons z l =>
            have : ¬ b.length ≤ k.toNat := fun g => by rw [List.drop_of_length_le g] at h'; cases h'
            omega)
  rw [h1]
  simp only [Option.bind_some]
  exact h2
theorem ord_append {l m : List (List Int)} (hl : Ord l) (hm : Ord m) (h : ∀ a ∈ l, ∀ b ∈ m, llt a b) : Ord (l ++ m) := List.pairwise_append.2 ⟨hl, hm, h⟩
/-- Inserting a set. -/
theorem insert_eq {l : List (List Int)} (h : Ord l) (hl : l.length ≤ 1000000) (hw : ∀ x ∈ l, x.length ≤ 1000000) (s : List Int) : ∃ r, ref7_Insert l s = some r ∧ Ord r ∧ (∀ x, x ∈ r ↔ x = s ∨ x ∈ l) ∧ r.length ≤ l.length + 1 := by
  unfold ref7_Insert
  obtain ⟨k, h1, k0, k1, k2, k3⟩ := Loop_inv (body := ref7_Insert_l1 l s) (fun k => 0 ≤ k ∧ k ≤ l.length ∧ ∀ i a, i < k → ix l i = some a → llt a s) (fun k => 0 ≤ k ∧ k ≤ l.length ∧ (∀ i a, i < k → ix l i = some a → llt a s) ∧ ∀ a, ix l k = some a → ¬ llt a s) (fun k => (l.length - k).toNat) (s := 0) ⟨by omega, by omega, fun i a hi ha => by have := (ix_lo ha).1; omega⟩ (fun k ⟨g0, g1, g2⟩ => by
    unfold ref7_Insert_l1
    by_cases c : k < l.length
    · obtain ⟨a, ha, ga⟩ := ix_of (l := l) g0 c
      rw [if_pos c, ha]
      simp only [Option.bind_some, before_eq (hw a (ix_mem ha))]
      by_cases c2 : llt a s
      · rw [ifP c2, w64_of (by omega) (by omega)]
        refine .inl ⟨_, rfl, ⟨by omega, by omega, fun i b hi hb => ?_⟩, by omega⟩
        by_cases e : i = k
        · subst e; rw [ha] at hb; cases hb; exact c2
        · exact g2 i b (by omega) hb
      · rw [ifN c2]
        exact .inr ⟨k, rfl, g0, g1, g2, fun b hb => by rw [ha] at hb; cases hb; exact c2⟩
    · rw [if_neg c]
      exact .inr ⟨k, rfl, g0, g1, g2, fun b hb => by have := (ix_lo hb).2.1; omega⟩)
  rw [h1]
  simp only [Option.bind_some]
  have step : (Option.bind (if k < (l.length : Int) then Option.bind (ix l k) fun a27 => Option.bind (ref1_Ints a27 s) fun a30 => some a30 else some false) fun t9 => if t9 = true then some l else Option.bind (subL l 0 k) fun a36 => Option.bind (app 24 ([] : List (List Int)) a36) fun a37 => Option.bind (app 24 a37 [s]) fun a40 => Option.bind (subL l k (l.length : Int)) fun a43 => Option.bind (app 24 a40 a43) fun a44 => some a44) = if dec (ix l k = some s) = true then some l else some (l.take k.toNat ++ [s] ++ l.drop k.toNat) := by
    have e : (if k < (l.length : Int) then Option.bind (ix l k) fun a27 => Option.bind (ref1_Ints a27 s) fun a30 => some a30 else some false) = some (dec (ix l k = some s)) := by
      by_cases c : k < l.length
      · obtain ⟨a, ha, ga⟩ := ix_of (l := l) k0 c
        rw [if_pos c, ha]
        simp only [Option.bind_some, ints_eq]
        exact congrArg some (dec_congr (by simp))
      · rw [if_neg c, dec_no]
        intro h; have := (ix_lo h).2.1; omega
    rw [e]
    simp only [Option.bind_some]
    by_cases c : ix l k = some s
    · rw [ifP c, ifP c]
    · rw [ifN c, ifN c, subL_take k0 (by omega), subL_drop k0 (by omega)]
      simp only [Option.bind_some]
      rw [app, if_pos (by simp; omega)]
      simp only [Option.bind_some, List.nil_append]
      rw [app, if_pos (by simp; omega)]
      simp only [Option.bind_some]
      rw [app, if_pos (by simp; omega)]
      rfl
  rw [step]
  by_cases c : ix l k = some s
  · rw [ifP c]
    exact ⟨l, rfl, h, fun x => ⟨.inr, fun g => g.elim (fun e => e ▸ ix_mem c) id⟩, by omega⟩
  · rw [ifN c]
    refine ⟨_, rfl, ?_, fun x => ?_, by simp; omega⟩
    · have ht : Ord (l.take k.toNat) := h.sublist (List.take_sublist _ _)
      have hd : Ord (l.drop k.toNat) := h.sublist (List.drop_sublist _ _)
      have b1 : ∀ a ∈ l.take k.toNat, llt a s := fun a ha => by
        obtain ⟨i, hi, e⟩ := List.mem_take_iff_getElem.1 ha
        exact k2 (i : Int) a (by omega) (by rw [ix_nat, ← e]; exact List.getElem?_eq_getElem _)
      have b2 : ∀ a ∈ l.drop k.toNat, llt s a := fun a ha => by
        obtain ⟨i, hi, e⟩ := List.mem_drop_iff_getElem.1 ha
        have hlk : k < l.length := by omega
        obtain ⟨z, hz, gz⟩ := ix_of (l := l) k0 hlk
        have nz := k3 z hz
        have nz2 : llt s z := by
          rcases llt_total z s with g | g | g
          · exact absurd g nz
          · exact absurd (g ▸ hz) c
          · exact g
        by_cases i0 : i = 0
        · subst i0
          obtain ⟨q1, q2⟩ := List.getElem?_eq_some_iff.1 gz
          have : a = z := by rw [← e, ← q2]; simp
          rw [this]; exact nz2
        · refine llt_trans nz2 (h.get hz (j := k + i) ?_ (by omega))
          rw [show k + (i : Int) = ((k.toNat + i : Nat) : Int) by omega, ix_nat, ← e]
          exact List.getElem?_eq_getElem _
      refine ord_append (ord_append ht (by simp) fun a ha b hb => ?_) hd fun a ha b hb => ?_
      · simp only [List.mem_singleton] at hb; subst hb; exact b1 a ha
      · rcases List.mem_append.1 ha with ha | ha
        · exact llt_trans (b1 a ha) (b2 b hb)
        · simp only [List.mem_singleton] at ha; subst ha; exact b2 b hb
    · rw [List.mem_append, List.mem_append, List.mem_singleton]
      have := List.take_append_drop k.toNat l
      constructor
      · rintro ((g | g) | g)
        · exact .inr (List.mem_of_mem_take g)
        · exact .inl g
        · exact .inr (List.mem_of_mem_drop g)
      · rintro (g | g)
        · exact .inl (.inr g)
        · rw [← this] at g
          rcases List.mem_append.1 g with g | g
          · exact .inl (.inl g)
          · exact .inr g
end Ab
end
section
namespace Ab
open Go
def xSets (x : TOutcome) (n : Int) : Prop := SetN x.add n ∧ SetN x.del n ∧ ∀ a ∈ x.add, a ∉ x.del
def xWt (x : TOutcome) : Prop := 1 ≤ x.weight ∧ x.weight ≤ 6
noncomputable def xCode (n : Int) (x : TOutcome) : Int := if dec (xSets x n) = true then if dec (xWt x) = true then 0 else 3 else 5
noncomputable def xsCode (n : Int) : List TOutcome → Int
  | [] => 0
  | x :: l => if xCode n x = 0 then xsCode n l else xCode n x
theorem xCode_zero {n : Int} {x : TOutcome} : xCode n x = 0 ↔ xSets x n ∧ xWt x := by
  unfold xCode
  by_cases c1 : xSets x n
  · rw [ifP c1]
    by_cases c2 : xWt x
    · rw [ifP c2]; exact ⟨fun _ => ⟨c1, c2⟩, fun _ => rfl⟩
    · rw [ifN c2]; exact ⟨fun h => by omega, fun h => absurd h.2 c2⟩
  · rw [ifN c1]; exact ⟨fun h => by omega, fun h => absurd h.1 c1⟩
theorem xsCode_zero {n : Int} : ∀ {l : List TOutcome}, xsCode n l = 0 ↔ ∀ x ∈ l, xSets x n ∧ xWt x
  | [] => by simp [xsCode]
  | x :: l => by
    rw [xsCode]
    by_cases c : xCode n x = 0
    · rw [if_pos c, xsCode_zero]; simp [xCode_zero.1 c]
    · rw [if_neg c]
      exact ⟨fun h => absurd h c, fun h => absurd (xCode_zero.2 (h x (by simp))) c⟩
structure OOk (o : TOpenOperator) (n : Int) : Prop where
  pre : SetN o.pre n
  c0 : 0 ≤ o.cost
  c1 : o.cost ≤ 100
  l0 : 1 ≤ o.outcomes.length
  l1 : o.outcomes.length ≤ 4
  xs : ∀ x ∈ o.outcomes, xSets x n ∧ xWt x
noncomputable def oHead (o : TOpenOperator) (n : Int) : Int := if dec (SetN o.pre n) = true then if dec (0 ≤ o.cost ∧ o.cost ≤ 100) = true then if dec (1 ≤ (o.outcomes.length : Int) ∧ (o.outcomes.length : Int) ≤ 4) = true then 0 else 9 else 3 else 5
noncomputable def oCode (o : TOpenOperator) (n : Int) : Int := if oHead o n = 0 then xsCode n o.outcomes else oHead o n
theorem oHead_zero {o : TOpenOperator} {n : Int} : oHead o n = 0 ↔ SetN o.pre n ∧ (0 ≤ o.cost ∧ o.cost ≤ 100) ∧ (1 ≤ (o.outcomes.length : Int) ∧ (o.outcomes.length : Int) ≤ 4) := by
  unfold oHead
  by_cases c1 : SetN o.pre n
  · rw [ifP c1]
    by_cases c2 : 0 ≤ o.cost ∧ o.cost ≤ 100
    · rw [ifP c2]
      by_cases c3 : 1 ≤ (o.outcomes.length : Int) ∧ (o.outcomes.length : Int) ≤ 4
      · rw [ifP c3]; exact ⟨fun _ => ⟨c1, c2, c3⟩, fun _ => rfl⟩
      · rw [ifN c3]; exact ⟨fun h => by omega, fun h => absurd h.2.2 c3⟩
    · rw [ifN c2]; exact ⟨fun h => by omega, fun h => absurd h.2.1 c2⟩
  · rw [ifN c1]; exact ⟨fun h => by omega, fun h => absurd h.1 c1⟩
theorem oCode_of {o : TOpenOperator} {n : Int} (h : OOk o n) : oCode o n = 0 := by
  have := h.l0; have := h.l1
  rw [oCode, if_pos (oHead_zero.2 ⟨h.pre, ⟨h.c0, h.c1⟩, by omega, by omega⟩), xsCode_zero]
  exact h.xs
theorem oCode_ok {o : TOpenOperator} {n : Int} (h : oCode o n = 0) : OOk o n := by
  unfold oCode at h
  by_cases c : oHead o n = 0
  · rw [if_pos c] at h
    obtain ⟨g1, g2, g3⟩ := oHead_zero.1 c
    exact ⟨g1, g2.1, g2.2, by omega, by omega, xsCode_zero.1 h⟩
  · rw [if_neg c] at h; exact absurd h c
theorem oc1 {o : TOpenOperator} {n : Int} (h0 : 0 ≤ n) (h1 : n ≤ 24) {j : Int} {x : TOutcome} (hx : ix o.outcomes j = some x) : open_operatorCode_l1 o n j () = some (if xCode n x = 0 then .inl () else .inr (xCode n x)) := by
  unfold open_operatorCode_l1
  rw [hx]
  simp only [Option.bind_some, isSet_eq, dec_not]
  by_cases g1 : SetN x.add n
  · rw [ifNN g1]
    by_cases g2 : SetN x.del n
    · have := g2.len
      rw [ifNN g2, meets_eq g2.1 (by omega)]
      simp only [Option.bind_some]
      by_cases g3 : ∀ a ∈ x.add, a ∉ x.del
      · have g : xSets x n := ⟨g1, g2, g3⟩
        rw [ifN (fun ⟨a, ha, hb⟩ => g3 a ha hb)]
        unfold xCode
        rw [ifP g]
        by_cases g4 : xWt x
        · have g5 := g4
          unfold xWt at g5
          rw [ifP g4, if_neg (by simp; omega)]; rfl
        · have g5 := g4
          unfold xWt at g5
          rw [ifN g4, if_pos (by simp; omega)]; rfl
      · have g : ¬ xSets x n := fun h => g3 h.2.2
        rw [ifP (by
          rw [Classical.not_forall] at g3
          obtain ⟨a, ha⟩ := g3
          exact ⟨a, Classical.not_imp.1 ha |>.1, Classical.not_not.1 (Classical.not_imp.1 ha).2⟩)]
        unfold xCode
        rw [ifN g]; rfl
    · have g : ¬ xSets x n := fun h => g2 h.2.1
      rw [ifP g2]
      unfold xCode
      rw [ifN g]; rfl
  · have g : ¬ xSets x n := fun h => g1 h.1
    rw [ifP g1]
    unfold xCode
    rw [ifN g]; rfl
theorem operatorCode_eq {o : TOpenOperator} {n : Int} (h0 : 0 ≤ n) (h1 : n ≤ 24) : open_operatorCode o n = some (oCode o n) := by
  unfold open_operatorCode
  simp only [isSet_eq, Option.bind_some, dec_not]
  unfold oCode oHead
  by_cases c1 : SetN o.pre n
  · rw [ifNN c1, ifP c1]
    by_cases c2 : 0 ≤ o.cost ∧ o.cost ≤ 100
    · rw [if_neg (show ¬ ((decide (o.cost < 0)) || (decide (100 < o.cost))) = true by rw [Bool.or_eq_true, decide_eq_true_eq, decide_eq_true_eq]; omega), ifP c2]
      by_cases c3 : 1 ≤ (o.outcomes.length : Int) ∧ (o.outcomes.length : Int) ≤ 4
      · rw [if_neg (show ¬ ((decide ((o.outcomes.length : Int) = 0)) || (decide (4 < (o.outcomes.length : Int)))) = true by rw [Bool.or_eq_true, decide_eq_true_eq, decide_eq_true_eq]; omega), ifP c3, if_pos rfl]
        rcases rngX_inv (body := open_operatorCode_l1 o n) (n := (o.outcomes.length : Int)) (fun j _ => xsCode n o.outcomes = xsCode n (o.outcomes.drop j.toNat)) (fun c => c = xsCode n o.outcomes) (s := ()) (by omega) (by simp) (fun j _ j0 j1 hP => by
          obtain ⟨x, hx, gx⟩ := ix_of (l := o.outcomes) j0 j1
          have hd : o.outcomes.drop j.toNat = x :: o.outcomes.drop (j.toNat + 1) := by
            obtain ⟨hlt, rfl⟩ := List.getElem?_eq_some_iff.1 gx
            exact List.drop_eq_getElem_cons hlt
          rw [oc1 h0 h1 hx]
          rw [hd, xsCode] at hP
          by_cases e : xCode n x = 0
          · rw [if_pos e] at hP ⊢
            exact .inl ⟨(), rfl, by rw [hP, show (j + 1).toNat = j.toNat + 1 by omega]⟩
          · rw [if_neg e] at hP ⊢
            exact .inr ⟨_, rfl, hP.symm⟩) with ⟨_, r1, r2⟩ | ⟨c, r1, rfl⟩
        · rw [r1, r2]; simp [xsCode]
        · rw [r1]; rfl
      · rw [if_pos (show ((decide ((o.outcomes.length : Int) = 0)) || (decide (4 < (o.outcomes.length : Int)))) = true by rw [Bool.or_eq_true, decide_eq_true_eq, decide_eq_true_eq]; omega), ifN c3]; rfl
    · rw [if_pos (show ((decide (o.cost < 0)) || (decide (100 < o.cost))) = true by rw [Bool.or_eq_true, decide_eq_true_eq, decide_eq_true_eq]; omega), ifN c2]; rfl
  · rw [ifP c1, ifN c1]; rfl
theorem of2 {t : TOpenTask} {o : TOpenOperator} (h0 : 0 ≤ t.facts) (h1 : t.facts ≤ 24) (hl : o.outcomes.length ≤ 1000000) (c : Int) : Loop (ref8_OpenFault_l2 t o) (c, 0) = some (if c = 0 then xsCode t.facts o.outcomes else c) := by
  obtain ⟨r, r1, r2⟩ := Loop_inv (body := ref8_OpenFault_l2 t o) (fun p => 0 ≤ p.2 ∧ p.2 ≤ o.outcomes.length ∧ (if c = 0 then xsCode t.facts o.outcomes else c) = if p.1 = 0 then xsCode t.facts (o.outcomes.drop p.2.toNat) else p.1) (fun r => r = if c = 0 then xsCode t.facts o.outcomes else c) (fun p => (o.outcomes.length - p.2).toNat) (s := (c, 0)) ⟨by simp, by simp, by simp⟩ (fun ⟨e, j⟩ ⟨g0, g1, g2⟩ => by
    dsimp only at g0 g1 g2 ⊢
    unfold ref8_OpenFault_l2
    dsimp only
    by_cases cj : j < o.outcomes.length ∧ e = 0
    · rw [if_pos (by simpa using cj)]
      obtain ⟨x, hx, gx⟩ := ix_of (l := o.outcomes) g0 cj.1
      have hd : o.outcomes.drop j.toNat = x :: o.outcomes.drop (j.toNat + 1) := by
        obtain ⟨hlt, rfl⟩ := List.getElem?_eq_some_iff.1 gx
        exact List.drop_eq_getElem_cons hlt
      rw [cj.2, if_pos rfl, hd, xsCode] at g2
      rw [hx]
      simp only [Option.bind_some, rIsSet_eq (n := t.facts) _ (show -9223372036854775808 < t.facts by omega) (show t.facts ≤ 9223372036854775807 by omega), disjoint_eq, in_eq, dec_not, cj.2]
      have hp : (if dec (¬ SetN x.add t.facts) = true then some true else if dec (¬ SetN x.del t.facts) = true then some true else some (dec (¬ ∀ a ∈ x.add, a ∉ x.del))) = some (dec (¬ xSets x t.facts)) := by
        unfold xSets
        by_cases k1 : SetN x.add t.facts
        · rw [ifNN k1]
          by_cases k2 : SetN x.del t.facts
          · rw [ifNN k2]
            exact congrArg some (dec_congr ⟨fun h k => h k.2.2, fun h k => h ⟨k1, k2, k⟩⟩)
          · rw [ifP k2, dec_of (fun k => k2 k.2.1)]
        · rw [ifP k1, dec_of (fun k => k1 k.1)]
      rw [hp]
      simp only [Option.bind_some]
      rw [w64_of (by omega) (by omega)]
      have fin : (if dec (¬ xSets x t.facts) = true then some (5 : Int) else if dec (¬ (1 ≤ x.weight ∧ x.weight ≤ 6)) = true then some 3 else some 0) = some (xCode t.facts x) := by
        unfold xCode
        by_cases k1 : xSets x t.facts
        · rw [ifNN k1, ifP k1]
          by_cases k2 : xWt x
          · rw [ifNN (p := 1 ≤ x.weight ∧ x.weight ≤ 6) k2, ifP k2]
          · rw [ifP (p := ¬ (1 ≤ x.weight ∧ x.weight ≤ 6)) k2, ifN k2]
        · rw [ifP k1, ifN k1]
      rw [fin]
      simp only [Option.bind_some]
      refine .inl ⟨_, rfl, ⟨by dsimp only; omega, by dsimp only; omega, ?_⟩, by dsimp only; omega⟩
      dsimp only
      rw [g2, show (j + 1).toNat = j.toNat + 1 by omega]
    · rw [if_neg (by simpa using cj)]
      refine .inr ⟨e, rfl, ?_⟩
      rw [g2]
      by_cases ce : e = 0
      · rw [if_pos ce, List.drop_of_length_le (by omega), xsCode, ce]
      · rw [if_neg ce])
  rw [r1, r2]
structure OTaskOk (t : TOpenTask) : Prop where
  n0 : 0 ≤ t.facts
  n1 : t.facts ≤ 24
  init : SetN t.init t.facts
  goal : SetN t.goal t.facts
  ops : t.operators.length ≤ 40
  op : ∀ o ∈ t.operators, OOk o t.facts
theorem oValidate_eq (t : TOpenTask) : ∃ f, open_Validate t = some f ∧ ref8_OpenFault t = some f ∧ ((f = ⟨0, 0⟩ ∧ OTaskOk t) ∨ (f.code ≠ 0 ∧ ¬ OTaskOk t)) := by
  unfold open_Validate ref8_OpenFault
  simp only [in_eq, at_eq, Option.bind_some, dec_not]
  by_cases c1 : 0 ≤ t.facts ∧ t.facts ≤ 24
  · rw [if_neg (by simp; omega), ifNN c1]
    simp only [isSet_eq, rIsSet_eq (n := t.facts) _ (show -9223372036854775808 < t.facts by omega) (show t.facts ≤ 9223372036854775807 by omega), Option.bind_some, dec_not]
    by_cases c2 : SetN t.init t.facts
    · rw [ifNN c2, ifNN c2]
      by_cases c3 : SetN t.goal t.facts
      · rw [ifNN c3, ifNN c3]
        by_cases c4 : 40 < (t.operators.length : Int)
        · rw [if_pos c4, if_pos c4]
          exact ⟨_, rfl, rfl, .inr ⟨by simp, fun h => by have := h.ops; omega⟩⟩
        · rw [if_neg c4, if_neg c4]
          have hb : ∀ j : Int, 0 ≤ j → j < t.operators.length → ∃ o, ix t.operators j = some o ∧ open_Validate_l1 t j () = some (if oCode o t.facts = 0 then .inl () else .inr ⟨oCode o t.facts, j⟩) ∧ ref8_OpenFault_l1 t j () = some (if oCode o t.facts = 0 then .inl () else .inr ⟨oCode o t.facts, j⟩) := fun j h0 h1 => by
            obtain ⟨o, ho, _⟩ := ix_of (l := t.operators) h0 h1
            refine ⟨o, ho, ?_, ?_⟩
            · unfold open_Validate_l1
              rw [ho]
              simp only [Option.bind_some, operatorCode_eq c1.1 c1.2]
              by_cases e : oCode o t.facts = 0
              · rw [if_pos e, if_pos e]
              · rw [if_neg e, if_neg e]
            · unfold ref8_OpenFault_l1
              rw [ho]
              simp only [Option.bind_some, rIsSet_eq (n := t.facts) _ (show -9223372036854775808 < t.facts by omega) (show t.facts ≤ 9223372036854775807 by omega), in_eq, at_eq, dec_not]
              have hp : (if dec (¬ SetN o.pre t.facts) = true then some (5 : Int) else if dec (¬ (0 ≤ o.cost ∧ o.cost ≤ 100)) = true then some 3 else if dec (¬ (1 ≤ (o.outcomes.length : Int) ∧ (o.outcomes.length : Int) ≤ 4)) = true then some 9 else some 0) = some (oHead o t.facts) := by
                unfold oHead
                by_cases g1 : SetN o.pre t.facts
                · rw [ifNN g1, ifP g1]
                  by_cases g2 : 0 ≤ o.cost ∧ o.cost ≤ 100
                  · rw [ifNN g2, ifP g2]
                    by_cases g3 : 1 ≤ (o.outcomes.length : Int) ∧ (o.outcomes.length : Int) ≤ 4
                    · rw [ifNN g3, ifP g3]
                    · rw [ifP g3, ifN g3]
                  · rw [ifP g2, ifN g2]
                · rw [ifP g1, ifN g1]
              rw [hp]
              simp only [Option.bind_some]
              by_cases eh : oHead o t.facts = 0
              · have := oHead_zero.1 eh
                rw [of2 c1.1 c1.2 (by omega), if_pos eh]
                simp only [Option.bind_some, oCode, eh, if_true]
                split <;> rfl
              · have nl : Loop (ref8_OpenFault_l2 t o) (oHead o t.facts, 0) = some (oHead o t.facts) := by
                  rw [Loop_eq]
                  have : ref8_OpenFault_l2 t o (oHead o t.facts, 0) = some (.inr (oHead o t.facts)) := by
                    unfold ref8_OpenFault_l2
                    dsimp only
                    rw [if_neg (by simp [eh])]
                  rw [this]
                rw [nl]
                simp only [Option.bind_some, oCode, if_neg eh]
          have heq : rngX 0 (t.operators.length : Int) (open_Validate_l1 t) () = rngX 0 (t.operators.length : Int) (ref8_OpenFault_l1 t) () :=
            (rngX_eq (fun _ _ => True) (by omega) trivial (fun j s h0 h1 _ => by
              obtain ⟨o, _, e1, e2⟩ := hb j h0 h1
              exact ⟨by rw [e1, e2], by rw [e1]; simp, fun _ _ => trivial⟩)).1
          rcases rngX_test (body := ref8_OpenFault_l1 t) (n := (t.operators.length : Int)) (fun j => match ix t.operators j with | some o => if oCode o t.facts = 0 then none else some (⟨oCode o t.facts, j⟩ : TFault) | none => none) (by omega) (fun j h0 h1 _ => by
            obtain ⟨o, e0, _, e2⟩ := hb j h0 h1
            rw [e2, e0]
            dsimp only
            split <;> rfl) with ⟨h1, h2⟩ | ⟨j, f, h0, h1, h2, _, h4⟩
          · rw [heq, h1]
            refine ⟨⟨0, 0⟩, rfl, rfl, .inl ⟨rfl, c1.1, c1.2, c2, c3, by omega, fun o ho => ?_⟩⟩
            obtain ⟨j, g0, g1, g2⟩ := mem_ix ho
            have := h2 j g0 g1
            rw [g2] at this
            dsimp only at this
            split at this
            · rename_i e; exact oCode_ok e
            · cases this
          · rw [heq, h4]
            obtain ⟨o, e0, _, _⟩ := hb j h0 h1
            rw [e0] at h2
            dsimp only at h2
            split at h2
            · cases h2
            · rename_i e
              cases h2
              exact ⟨_, rfl, rfl, .inr ⟨e, fun h => e (oCode_of (h.op o (ix_mem e0)))⟩⟩
      · rw [ifP c3, ifP c3]
        exact ⟨_, rfl, rfl, .inr ⟨by simp, fun h => c3 h.goal⟩⟩
    · rw [ifP c2, ifP c2]
      exact ⟨_, rfl, rfl, .inr ⟨by simp, fun h => c2 h.init⟩⟩
  · rw [if_pos (by simp; omega), if_pos (dec_of c1)]
    exact ⟨_, rfl, rfl, .inr ⟨by simp, fun h => c1 ⟨h.n0, h.n1⟩⟩⟩
end Ab
end
section
namespace Ab
open Go
def noOO : TOpenOperator := ⟨[], [], 0⟩
def ooAt (t : TOpenTask) (op : Int) : TOpenOperator := (t.operators[op.toNat]?).getD noOO
theorem ix_oo {t : TOpenTask} {op : Int} (h0 : 0 ≤ op) (h1 : op < t.operators.length) : ix t.operators op = some (ooAt t op) := by
  obtain ⟨a, h2, h3⟩ := ix_of h0 h1
  rw [h2, ooAt, h3]; rfl
def oCan (t : TOpenTask) (s : List Int) (op : Int) : Prop := ∀ x ∈ (ooAt t op).pre, x ∈ s
noncomputable def efc (n : Int) (s : List Int) (x : TOutcome) : List Int := setOf (fun p => p ∈ x.add ∨ p ∈ s ∧ p ∉ x.del) n
theorem setN_efc (n : Int) (s : List Int) (x : TOutcome) : SetN (efc n s x) n := setN_setOf _ _
theorem OTaskOk.at {t : TOpenTask} (h : OTaskOk t) {op : Int} (h0 : 0 ≤ op) (h1 : op < t.operators.length) : OOk (ooAt t op) t.facts := h.op _ (ix_mem (ix_oo h0 h1))
theorem oCan_eq {t : TOpenTask} (ht : OTaskOk t) {op : Int} (h0 : 0 ≤ op) (h1 : op < t.operators.length) {s : List Int} (hs : SetN s t.facts) : open_Can t s op = some (dec (oCan t s op)) := by
  have := ht.n1; have := hs.len
  unfold open_Can
  rw [ix_oo h0 h1]
  simp only [Option.bind_some]
  rw [contains_eq hs.1 (ht.at h0 h1).pre.1 (by omega)]
  rfl
theorem oApplies_eq {t : TOpenTask} {op : Int} (h0 : 0 ≤ op) (h1 : op < t.operators.length) (s : List Int) : ref8_Applies t s op = some (dec (oCan t s op)) := by
  unfold ref8_Applies
  rw [ix_oo h0 h1]
  simp only [Option.bind_some, subset_eq]
  rfl
theorem effect_eq {t : TOpenTask} (ht : OTaskOk t) (s : List Int) (x : TOutcome) : ref8_Effect t s x = some (efc t.facts s x) := by
  have := ht.n1
  unfold ref8_Effect
  rw [if_pos (by omega)]
  rw [forR_setOf (b := 8) (fun p => p ∈ x.add ∨ p ∈ s ∧ p ∉ x.del) ht.n0 (by omega) (fun j c g0 g1 => by
    unfold ref8_Effect_l1
    simp only [Option.bind_some, has_eq, dec_not]
    have e : (if dec (j ∈ x.add) = true then some true else if dec (j ∈ s) = true then some (dec (j ∉ x.del)) else some false) = some (dec (j ∈ x.add ∨ j ∈ s ∧ j ∉ x.del)) := by
      by_cases c1 : j ∈ x.add
      · rw [if_pos (dec_of c1), dec_of (.inl c1)]
      · rw [if_neg (fun h => c1 (dec_true.1 h))]
        by_cases c2 : j ∈ s
        · rw [if_pos (dec_of c2)]
          exact congrArg some (dec_congr ⟨fun h => .inr ⟨c2, h⟩, fun h => (h.resolve_left c1).2⟩)
        · rw [if_neg (fun h => c2 (dec_true.1 h)), dec_no (fun h => c2 (h.resolve_left c1).1)]
    rw [e]
    simp only [Option.bind_some]
    refine ⟨fun hq => ?_, fun hq => ?_⟩
    · rw [if_pos (dec_of hq)]
      cases app 8 c [j] <;> rfl
    · rw [if_neg (fun h => hq (dec_true.1 h))]; rfl)]
  rfl
theorem oUpdate_eq {n : Int} (hn : n ≤ 24) {s : List Int} (hs : SetN s n) {x : TOutcome} (hx : xSets x n) : strips_Update s x.add x.del = some (efc n s x) := by
  have := hx.2.1.len
  rw [update_eq (n := n) (by omega) hx.2.1.1 (by omega) hs hx.1]
  exact congrArg some (setOf_congr fun _ _ _ => Or.comm)
/-! ### Policies -/
theorem ord_of_adj : ∀ {l : List (List Int)}, (∀ (k : Nat) a b, l[k]? = some a → l[k + 1]? = some b → llt a b) → Ord l
  | [], _ => .nil
  | [_], _ => by simp
  | a :: b :: l, h => by
    have ih : Ord (b :: l) := ord_of_adj fun k x y h1 h2 => h (k + 1) x y (by simpa using h1) (by simpa using h2)
    have hab : llt a b := h 0 a b rfl rfl
    refine List.pairwise_cons.2 ⟨fun c hc => ?_, ih⟩
    rcases List.mem_cons.1 hc with rfl | hc
    · exact hab
    · exact llt_trans hab ((List.pairwise_cons.1 ih).1 c hc)
structure PolOk (t : TOpenTask) (p : List TChoice) : Prop where
  len : p.length ≤ 200
  ord : Ord (p.map TChoice.state)
  set : ∀ c ∈ p, SetN c.state t.facts
  op : ∀ c ∈ p, 0 ≤ c.operator ∧ c.operator < t.operators.length
  can : ∀ c ∈ p, oCan t c.state c.operator
def pSet (t : TOpenTask) (p : List TChoice) (j : Int) (c : TChoice) : Prop := SetN c.state t.facts ∧ ∀ b, 0 < j → ix p (j - 1) = some b → llt b.state c.state
noncomputable def pCode (t : TOpenTask) (p : List TChoice) (j : Int) (c : TChoice) : Int := if dec (pSet t p j c) = true then if dec (0 ≤ c.operator ∧ c.operator < t.operators.length) = true then if dec (oCan t c.state c.operator) = true then 0 else 11 else 3 else 5
theorem pCode_zero {t : TOpenTask} {p : List TChoice} {j : Int} {c : TChoice} : pCode t p j c = 0 → pSet t p j c ∧ (0 ≤ c.operator ∧ c.operator < t.operators.length) ∧ oCan t c.state c.operator := by
  unfold pCode
  by_cases c1 : pSet t p j c
  · rw [ifP c1]
    by_cases c2 : 0 ≤ c.operator ∧ c.operator < t.operators.length
    · rw [ifP c2]
      by_cases c3 : oCan t c.state c.operator
      · rw [ifP c3]; exact fun _ => ⟨c1, c2, c3⟩
      · rw [ifN c3]; exact fun h => by omega
    · rw [ifN c2]; exact fun h => by omega
  · rw [ifN c1]; exact fun h => by omega
theorem pCode_of {t : TOpenTask} {p : List TChoice} (hp : PolOk t p) {j : Int} {c : TChoice} (hc : ix p j = some c) : pCode t p j c = 0 := by
  have hm := ix_mem hc
  unfold pCode
  rw [ifP ⟨hp.set c hm, fun b _ hb => ordMap_get hp.ord hb hc (by omega)⟩, ifP (hp.op c hm), ifP (hp.can c hm)]
theorem pol1 {t : TOpenTask} (ht : OTaskOk t) {p : List TChoice} {j : Int} {c : TChoice} (hl : p.length ≤ 200) (hc : ix p j = some c) : open_ValidatePolicy_l1 t p j () = some (if pCode t p j c = 0 then .inl () else .inr ⟨pCode t p j c, -9 - j⟩) := by
  obtain ⟨j0, j1, _⟩ := ix_lo hc
  have hn := ht.n1
  unfold open_ValidatePolicy_l1
  rw [hc]
  simp only [Option.bind_some, isSet_eq, dec_not]
  have key : (if dec (¬ SetN c.state t.facts) = true then some true else if 0 < j then Option.bind (ix p (j - 1)) fun a40 => Option.bind (slices_Compare_int_int a40.state c.state) fun a45 => some (decide (0 ≤ a45)) else some false) = some (dec (¬ pSet t p j c)) := by
    by_cases g1 : SetN c.state t.facts
    · rw [ifNN g1]
      by_cases g2 : 0 < j
      · rw [if_pos g2]
        obtain ⟨b, hb, _⟩ := ix_of (l := p) (i := j - 1) (by omega) (by omega)
        rw [hb]
        simp only [Option.bind_some, compare_eq, decide_dec]
        refine congrArg some (dec_congr ?_)
        rw [cmpL_ge]
        exact ⟨fun h g => h (g.2 b g2 hb), fun h g => h ⟨g1, fun b' _ hb' => by rw [hb] at hb'; cases hb'; exact g⟩⟩
      · rw [if_neg g2, dec_no]
        exact fun h => h ⟨g1, fun _ g => absurd g g2⟩
    · rw [ifP g1, dec_of (fun h => g1 h.1)]
  rw [key]
  simp only [Option.bind_some]
  rw [w64_of (by omega) (by omega)]
  unfold pCode
  by_cases g1 : pSet t p j c
  · rw [ifNN g1, ifP g1]
    by_cases g2 : 0 ≤ c.operator ∧ c.operator < t.operators.length
    · rw [if_neg (show ¬ ((decide (c.operator < 0)) || (decide ((t.operators.length : Int) ≤ c.operator))) = true by rw [Bool.or_eq_true, decide_eq_true_eq, decide_eq_true_eq]; omega), ifP g2, oCan_eq ht g2.1 g2.2 g1.1]
      simp only [Option.bind_some, dec_not]
      by_cases g3 : oCan t c.state c.operator
      · rw [ifNN g3, ifP g3]; rfl
      · rw [ifP g3, ifN g3]; rfl
    · rw [if_pos (show ((decide (c.operator < 0)) || (decide ((t.operators.length : Int) ≤ c.operator))) = true by rw [Bool.or_eq_true, decide_eq_true_eq, decide_eq_true_eq]; omega), ifN g2]; rfl
  · rw [ifP g1, ifN g1]; rfl
theorem pol2 {t : TOpenTask} (ht : OTaskOk t) {p : List TChoice} {j : Int} {c : TChoice} (hl : p.length ≤ 200) (hw : 0 < j → ∀ b, ix p (j - 1) = some b → b.state.length ≤ 1000000) (hc : ix p j = some c) : ref8_PolicyFault_l1 t p j () = some (if pCode t p j c = 0 then .inl () else .inr ⟨pCode t p j c, -9 - j⟩) := by
  obtain ⟨j0, j1, _⟩ := ix_lo hc
  have hn := ht.n1; have hn0 := ht.n0; have ho := ht.ops
  unfold ref8_PolicyFault_l1
  rw [hc]
  simp only [Option.bind_some, rIsSet_eq (n := t.facts) _ (show -9223372036854775808 < t.facts by omega) (show t.facts ≤ 9223372036854775807 by omega), in_eq, at_eq, dec_not]
  have key : (if dec (¬ SetN c.state t.facts) = true then some true else if 0 < j then Option.bind (ix p (j - 1)) fun a39 => Option.bind (ref7_Before a39.state c.state) fun a47 => some (!a47) else some false) = some (dec (¬ pSet t p j c)) := by
    by_cases g1 : SetN c.state t.facts
    · rw [ifNN g1]
      by_cases g2 : 0 < j
      · rw [if_pos g2]
        obtain ⟨b, hb, _⟩ := ix_of (l := p) (i := j - 1) (by omega) (by omega)
        rw [hb]
        simp only [Option.bind_some, before_eq (hw g2 b hb), dec_not]
        refine congrArg some (dec_congr ?_)
        exact ⟨fun h g => h (g.2 b g2 hb), fun h g => h ⟨g1, fun b' _ hb' => by rw [hb] at hb'; cases hb'; exact g⟩⟩
      · rw [if_neg g2, dec_no]
        exact fun h => h ⟨g1, fun _ g => absurd g g2⟩
    · rw [ifP g1, dec_of (fun h => g1 h.1)]
  rw [key]
  simp only [Option.bind_some]
  rw [w64_of (n := -9 - j) (by omega) (by omega), w64_of (n := (t.operators.length : Int) - 1) (by omega) (by omega)]
  unfold pCode
  by_cases g1 : pSet t p j c
  · rw [ifNN g1, ifP g1]
    by_cases g2 : 0 ≤ c.operator ∧ c.operator < t.operators.length
    · rw [ifN (show ¬ ¬ (0 ≤ c.operator ∧ c.operator ≤ (t.operators.length : Int) - 1) by omega), ifP g2, oApplies_eq g2.1 g2.2]
      simp only [Option.bind_some, dec_not]
      by_cases g3 : oCan t c.state c.operator
      · rw [ifNN g3, ifP g3]; rfl
      · rw [ifP g3, ifN g3]; rfl
    · rw [ifP (show ¬ (0 ≤ c.operator ∧ c.operator ≤ (t.operators.length : Int) - 1) by omega), ifN g2]; rfl
  · rw [ifP g1, ifN g1]; rfl
theorem policy_eq (t : TOpenTask) (p : List TChoice) : ∃ f, open_ValidatePolicy t p = some f ∧ ref8_PolicyFault t p = some f ∧ ((f = ⟨0, 0⟩ ∧ OTaskOk t ∧ PolOk t p) ∨ (f.code ≠ 0 ∧ ¬ (OTaskOk t ∧ PolOk t p))) := by
  obtain ⟨f, h1, h2, h3⟩ := oValidate_eq t
  unfold open_ValidatePolicy ref8_PolicyFault
  rw [h1, h2]
  simp only [Option.bind_some]
  rcases h3 with ⟨rfl, ht⟩ | ⟨hc, hnt⟩
  · rw [if_neg (by simp), if_pos rfl]
    by_cases c1 : 200 < (p.length : Int)
    · rw [if_pos c1, if_pos c1, at_eq]
      exact ⟨_, rfl, rfl, .inr ⟨by simp, fun h => by have := h.2.len; omega⟩⟩
    · rw [if_neg c1, if_neg c1]
      have hn := ht.n1
      have hset : ∀ j : Int, (∀ i, 0 ≤ i → i < j → (match ix p i with | some c => if pCode t p i c = 0 then none else some (⟨pCode t p i c, -9 - i⟩ : TFault) | none => none) = none) → 0 < j → ∀ b, ix p (j - 1) = some b → b.state.length ≤ 1000000 := fun j hj j0 b hb => by
        have := hj (j - 1) (by omega) (by omega)
        rw [hb] at this
        dsimp only at this
        split at this
        · rename_i e
          have := (pCode_zero e).1.1.len
          omega
        · cases this
      rcases rngX_test (body := open_ValidatePolicy_l1 t p) (n := (p.length : Int)) (fun j => match ix p j with | some c => if pCode t p j c = 0 then none else some (⟨pCode t p j c, -9 - j⟩ : TFault) | none => none) (by omega) (fun j h0 h1 _ => by
        obtain ⟨c, e0, _⟩ := ix_of (l := p) h0 h1
        rw [pol1 ht (by omega) e0, e0]
        dsimp only
        split <;> rfl) with ⟨a1, a2⟩ | ⟨j, f, a0, a1, a2, a3, a4⟩
      · rcases rngX_test (body := ref8_PolicyFault_l1 t p) (n := (p.length : Int)) (fun j => match ix p j with | some c => if pCode t p j c = 0 then none else some (⟨pCode t p j c, -9 - j⟩ : TFault) | none => none) (by omega) (fun j h0 h1 hj => by
          obtain ⟨c, e0, _⟩ := ix_of (l := p) h0 h1
          rw [pol2 ht (by omega) (hset j hj) e0, e0]
          dsimp only
          split <;> rfl) with ⟨b1, b2⟩ | ⟨j', f', b0, b1, b2, b3, b4⟩
        · rw [a1, b1]
          have all : ∀ j c, ix p j = some c → pSet t p j c ∧ (0 ≤ c.operator ∧ c.operator < t.operators.length) ∧ oCan t c.state c.operator := fun j c hc => by
            have := a2 j (ix_lo hc).1 (ix_lo hc).2.1
            rw [hc] at this
            dsimp only at this
            split at this
            · rename_i e; exact pCode_zero e
            · cases this
          have all' : ∀ c ∈ p, SetN c.state t.facts ∧ (0 ≤ c.operator ∧ c.operator < t.operators.length) ∧ oCan t c.state c.operator := fun c hc => by
            obtain ⟨j, _, _, hj⟩ := mem_ix hc
            obtain ⟨g1, g2, g3⟩ := all j c hj
            exact ⟨g1.1, g2, g3⟩
          refine ⟨_, rfl, rfl, .inl ⟨rfl, ht, by omega, ord_of_adj fun k a b ha hb => ?_, fun c hc => (all' c hc).1, fun c hc => (all' c hc).2.1, fun c hc => (all' c hc).2.2⟩⟩
          rw [List.getElem?_map] at ha hb
          cases ha' : p[k]? with
          | none => rw [ha'] at ha; cases ha
          | some a' =>
            cases hb' : p[k + 1]? with
            | none => rw [hb'] at hb; cases hb
            | some b' =>
              rw [ha'] at ha; rw [hb'] at hb; cases ha; cases hb
              refine (all ((k + 1 : Nat) : Int) b' (by rw [ix_nat, hb'])).1.2 a' (by omega) ?_
              rw [show ((k + 1 : Nat) : Int) - 1 = (k : Nat) by omega, ix_nat, ha']
        · rw [a2 j' b0 b1] at b2; cases b2
      · rcases rngX_test (body := ref8_PolicyFault_l1 t p) (n := (p.length : Int)) (fun j => match ix p j with | some c => if pCode t p j c = 0 then none else some (⟨pCode t p j c, -9 - j⟩ : TFault) | none => none) (by omega) (fun j h0 h1 hj => by
          obtain ⟨c, e0, _⟩ := ix_of (l := p) h0 h1
          rw [pol2 ht (by omega) (hset j hj) e0, e0]
          dsimp only
          split <;> rfl) with ⟨b1, b2⟩ | ⟨j', f', b0, b1, b2, b3, b4⟩
        · rw [b2 j a0 a1] at a2; cases a2
        · have ej : j = j' := by
            rcases Int.lt_trichotomy j j' with h | h | h
            · rw [b3 j a0 h] at a2; cases a2
            · exact h
            · rw [a3 j' b0 h] at b2; cases b2
          subst ej
          rw [a2] at b2
          cases b2
          rw [a4, b4]
          refine ⟨_, rfl, rfl, .inr ?_⟩
          obtain ⟨c, e0, _⟩ := ix_of (l := p) a0 a1
          rw [e0] at a2
          dsimp only at a2
          split at a2
          · cases a2
          · rename_i e; cases a2; exact ⟨e, fun h => e (pCode_of h.2 e0)⟩
  · rw [if_pos (fault_no hc), if_neg hc]
    exact ⟨f, rfl, rfl, .inr ⟨hc, fun h => hnt h.1⟩⟩
/-! ### What a policy chooses -/
theorem rChosen_eq (p : List TChoice) (s : List Int) : ∃ r, ref8_Chosen p s = some r ∧ ((r = -1 ∧ ∀ c ∈ p, c.state ≠ s) ∨ ∃ c, c ∈ p ∧ c.state = s ∧ r = c.operator) := by
  unfold ref8_Chosen
  rcases rngX_test (body := ref8_Chosen_l1 p s) (n := (p.length : Int)) (fun j => match ix p j with | some c => if dec (c.state = s) = true then some c.operator else none | none => none) (by omega) (fun j h0 h1 _ => by
    obtain ⟨x, hx, _⟩ := ix_of (l := p) h0 h1
    unfold ref8_Chosen_l1
    simp only [hx, Option.bind_some, ints_eq]
    by_cases e : x.state = s
    · rw [ifP e, ifP e]
    · rw [ifN e, ifN e]) with ⟨h1, h2⟩ | ⟨j, o, h0, h1, h2, h3, h4⟩
  · rw [h1]
    refine ⟨-1, rfl, .inl ⟨rfl, fun c hc he => ?_⟩⟩
    obtain ⟨i, i0, i1, hi⟩ := mem_ix hc
    have := h2 i i0 i1
    rw [hi] at this
    dsimp only at this
    rw [ifP he] at this
    cases this
  · rw [h4]
    obtain ⟨c, hc, _⟩ := ix_of (l := p) h0 h1
    rw [hc] at h2
    dsimp only at h2
    split at h2
    · rename_i e
      cases h2
      exact ⟨_, rfl, .inr ⟨c, ix_mem hc, dec_true.1 e, rfl⟩⟩
    · cases h2
theorem chosen_eq {t : TOpenTask} {p : List TChoice} (hp : PolOk t p) (s : List Int) : ∃ r, open_Chosen p s = some r ∧ ref8_Chosen p s = some r ∧ (r = -1 ∨ (0 ≤ r ∧ r < t.operators.length ∧ oCan t s r)) := by
  obtain ⟨r, h1, h2⟩ := rChosen_eq p s
  refine ⟨r, ?_, h1, ?_⟩
  · unfold open_Chosen
    obtain ⟨i, g1, g2, g3⟩ := bsf_eq (key := TChoice.state) (xs := p) (t := s) (cmp := open_Chosen_1) hp.ord (by have := hp.len; omega) (fun a => by unfold open_Chosen_1; rw [compare_eq]; rfl)
    have : slices_BinarySearchFunc_api_Choice_api_Choice_int p s open_Chosen_1 = bsf p s open_Chosen_1 := rfl
    rw [this, g1]
    simp only [Option.bind_some, dec_not]
    rcases h2 with ⟨rfl, h⟩ | ⟨c, hc, he, rfl⟩
    · rw [ifP]
      rintro ⟨a, ha, e⟩; exact h a ha e
    · rw [ifNN ⟨c, hc, he⟩]
      obtain ⟨k, _, _, hk⟩ := mem_ix hc
      have := g3 k c hk he
      subst this
      rw [hk]; rfl
  · rcases h2 with ⟨rfl, h⟩ | ⟨c, hc, he, rfl⟩
    · exact .inl rfl
    · have := hp.op c hc
      exact .inr ⟨this.1, this.2, he ▸ hp.can c hc⟩
end Ab
end
section
namespace Ab
open Go
theorem ix_map {α β : Type} {f : α → β} {l : List α} {i : Int} : ix (l.map f) i = (ix l i).map f := by
  simp only [ix]
  split
  · rw [List.getElem?_map]
  · rfl
theorem Ord.one {l m : List (List Int)} (hl : Ord l) (hm : Ord m) {p : List Int → Prop} (h1 : ∀ y, y ∈ l ↔ p y) (h2 : ∀ y, y ∈ m ↔ p y) : l = m := Ord.ext hl hm fun y => (h1 y).trans (h2 y).symm
theorem cloneLL_eq {s : List (List Int)} (h : s.length ≤ 1000000) : slices_Clone_Lint_int s = some s := by
  rw [slices_Clone_Lint_int, app, if_pos (by simp; omega)]; rfl
theorem results1 {t : TOpenTask} {o : TOpenOperator} (ho : OOk o t.facts) (hn : t.facts ≤ 24) {s : List Int} (hs : SetN s t.facts) : forR 0 (o.outcomes.length : Int) (open_Results_l1 s o) [] = some (o.outcomes.map (efc t.facts s)) := by
  have hl := ho.l1
  obtain ⟨c, h1, h2⟩ := forR_inv (body := open_Results_l1 s o) (n := (o.outcomes.length : Int)) (s := []) (fun j c => c = (o.outcomes.take j.toNat).map (efc t.facts s)) (by omega) (by simp) (fun j c j0 j1 hP => by
    obtain ⟨x, hx, gx⟩ := ix_of (l := o.outcomes) j0 j1
    unfold open_Results_l1
    rw [hx]
    simp only [Option.bind_some]
    rw [oUpdate_eq hn hs (ho.xs x (ix_mem hx)).1]
    simp only [Option.bind_some]
    have hlen : c.length ≤ 4 := by rw [hP, List.length_map, List.length_take]; omega
    rw [app, if_pos (by simp; omega)]
    refine ⟨_, rfl, ?_⟩
    rw [show (j + 1).toNat = j.toNat + 1 by omega, List.take_add_one, gx, hP, List.map_append]; rfl)
  rw [h1, h2]
  simp
theorem oResults_eq {t : TOpenTask} (ht : OTaskOk t) {op : Int} (h0 : 0 ≤ op) (h1 : op < t.operators.length) {s : List Int} (hs : SetN s t.facts) : ∃ st w, open_Results t s op = some (st, w) ∧ Ord st ∧ (∀ y, y ∈ st ↔ ∃ x ∈ (ooAt t op).outcomes, efc t.facts s x = y) ∧ st.length ≤ 4 ∧ w.length = st.length ∧ forR 0 ((ooAt t op).outcomes.length : Int) (open_Results_l2 ((ooAt t op).outcomes.map (efc t.facts s)) st (ooAt t op)) (List.replicate st.length 0) = some w := by
  have ho := ht.at h0 h1
  have hl := ho.l1
  unfold open_Results
  rw [ix_oo h0 h1]
  simp only [Option.bind_some]
  rw [results1 ho ht.n1 hs]
  simp only [Option.bind_some]
  rw [cloneLL_eq (by simp; omega)]
  simp only [Option.bind_some]
  obtain ⟨st, n1, n2, n3, n4⟩ := normal_eq (l := (ooAt t op).outcomes.map (efc t.facts s)) (by simp; omega)
  have n4' : st.length ≤ 4 := by rw [List.length_map] at n4; omega
  have hm : mkL 8 (st.length : Int) (0 : Int) = some (List.replicate st.length 0) := by
    rw [mkL, if_pos (by omega)]; simp
  obtain ⟨w, w1, w2⟩ := forR_inv (body := open_Results_l2 ((ooAt t op).outcomes.map (efc t.facts s)) st (ooAt t op)) (n := ((ooAt t op).outcomes.length : Int)) (s := List.replicate st.length 0) (fun j c => c.length = st.length) (by omega) (by simp) (fun j c j0 j1 hP => by
    obtain ⟨x, hx, gx⟩ := ix_of (l := (ooAt t op).outcomes) j0 j1
    have hmem : efc t.facts s x ∈ st := (n3 _).2 (List.mem_map.2 ⟨x, ix_mem hx, rfl⟩)
    obtain ⟨i, e1, e2, e3⟩ := bsets_eq (t := efc t.facts s x) n2 (by omega)
    obtain ⟨k, k0, k1, hk⟩ := mem_ix hmem
    have := e3 k hk
    subst this
    obtain ⟨z, hz, gz⟩ := ix_of (l := c) (i := k) k0 (by omega)
    unfold open_Results_l2
    rw [hx, ix_map, hx]
    simp only [Option.bind_some, Option.map_some, e1, hz]
    exact ⟨_, rfl, by rw [List.length_set]; exact hP⟩)
  rw [n1]
  simp only [Option.bind_some, hm, w1]
  exact ⟨st, w, rfl, n2, fun y => by rw [n3, List.mem_map], n4', w2, w1⟩
/-! ### The coin -/
def coinX : TOutcome := ⟨[0], [], 1⟩
def coinY : TOutcome := ⟨[], [], 2⟩
def coinO : TOpenOperator := ⟨[], [coinX, coinY], 1⟩
def coinT : TOpenTask := ⟨1, [], [0], [coinO]⟩
theorem coin_ok : OTaskOk coinT where
  n0 := by decide
  n1 := by decide
  init := setN_nil _
  goal := setN1 0 (by decide) (by decide)
  ops := by decide
  op o ho := by
    simp only [coinT, List.mem_singleton] at ho
    subst ho
    refine ⟨setN_nil _, by decide, by decide, by decide, by decide, fun x hx => ?_⟩
    simp only [coinO, List.mem_cons, List.not_mem_nil, or_false] at hx
    rcases hx with rfl | rfl
    · exact ⟨⟨setN1 0 (by decide) (by decide), setN_nil _, by simp [coinX]⟩, by decide, by decide⟩
    · exact ⟨⟨setN_nil _, setN_nil _, by simp [coinY]⟩, by decide, by decide⟩
theorem coin_X : efc 1 [] coinX = [0] := by
  refine ((setN1 0 (by decide) (by decide) : SetN [0] 1).eq_of (p := fun p => p ∈ coinX.add ∨ p ∈ [] ∧ p ∉ coinX.del) fun x h0 h1 => ?_).symm
  simp [coinX]
theorem coin_Y : efc 1 [] coinY = [] := by
  refine ((setN_nil 1).eq_of (p := fun p => p ∈ coinY.add ∨ p ∈ [] ∧ p ∉ coinY.del) fun x h0 h1 => ?_).symm
  simp [coinY]
end Ab
end
section
namespace Ab
open Go
noncomputable def chO (p : List TChoice) (s : List Int) : Int := (ref8_Chosen p s).getD (-1)
theorem chosen_chO {t : TOpenTask} {p : List TChoice} (hp : PolOk t p) (s : List Int) : open_Chosen p s = some (chO p s) ∧ (chO p s = -1 ∨ (0 ≤ chO p s ∧ chO p s < t.operators.length ∧ oCan t s (chO p s))) := by
  obtain ⟨r, h1, h2, h3⟩ := chosen_eq hp s
  have : chO p s = r := by rw [chO, h2]; rfl
  rw [this]
  exact ⟨h1, h3⟩
theorem ifOr {a b : Prop} : (if dec a = true then some true else some (dec b)) = some (dec (a ∨ b)) := by
  by_cases h : a
  · rw [ifP h, dec_of (.inl h)]
  · rw [ifN h]; exact congrArg some (dec_congr ⟨.inr, fun g => g.resolve_left h⟩)
end Ab
end
section
namespace Ab
open Go
end Ab
end
section
namespace Ab
open Go
/-- A number under 100 in decimal digits. -/
def dg (x : Int) : List Int := if x < 10 then [48 + x] else [48 + x / 10, 48 + x % 10]
def encS (s : List Int) : List Int := s.flatMap (fun x => dg x ++ [44]) ++ [59]
def encK (l : List (List Int)) : List Int := l.flatMap encS
def small (s : List Int) : Prop := ∀ x ∈ s, 0 ≤ x ∧ x < 100
theorem dg_split {x y : Int} (hx : 0 ≤ x ∧ x < 100) (hy : 0 ≤ y ∧ y < 100) {r r' : List Int} (h : dg x ++ 44 :: r = dg y ++ 44 :: r') : x = y ∧ r = r' := by
  unfold dg at h
  split at h <;> split at h <;> simp only [List.cons_append, List.nil_append, List.cons.injEq] at h
  · exact ⟨by omega, h.2.2⟩
  · exfalso; omega
  · exfalso; omega
  · exact ⟨by omega, h.2.2.2⟩
theorem dg_head {x : Int} (hx : 0 ≤ x ∧ x < 100) : ∃ a l, dg x = a :: l ∧ 48 ≤ a ∧ a < 58 := by
  unfold dg
  split
  · exact ⟨_, _, rfl, by omega, by omega⟩
  · exact ⟨_, _, rfl, by omega, by omega⟩
theorem encS_cons (x : Int) (s : List Int) : encS (x :: s) = dg x ++ 44 :: encS s := by simp [encS]
theorem encS_inj : ∀ {s s' r r' : List Int}, small s → small s' → encS s ++ r = encS s' ++ r' → s = s' ∧ r = r'
  | [], [], r, r', _, _, h => by simp [encS] at h; exact ⟨rfl, h⟩
  | [], y :: s', r, r', _, h2, h => by
    obtain ⟨a, l, ha, h3, h4⟩ := dg_head (h2 y (by simp))
    rw [encS_cons, ha] at h
    simp only [encS, List.flatMap_nil, List.nil_append, List.cons_append, List.cons.injEq] at h
    omega
  | x :: s, [], r, r', h1, _, h => by
    obtain ⟨a, l, ha, h3, h4⟩ := dg_head (h1 x (by simp))
    rw [encS_cons, ha] at h
    simp only [encS, List.flatMap_nil, List.nil_append, List.cons_append, List.cons.injEq] at h
    omega
  | x :: s, y :: s', r, r', h1, h2, h => by
    rw [encS_cons, encS_cons, List.append_assoc, List.append_assoc, List.cons_append, List.cons_append] at h
    obtain ⟨rfl, g⟩ := dg_split (h1 x (by simp)) (h2 y (by simp)) h
    obtain ⟨e1, e2⟩ := encS_inj (s := s) (s' := s') (fun z hz => h1 z (List.mem_cons_of_mem _ hz)) (fun z hz => h2 z (List.mem_cons_of_mem _ hz)) g
    exact ⟨by rw [e1], e2⟩
theorem encK_inj : ∀ {l l' : List (List Int)}, (∀ s ∈ l, small s) → (∀ s ∈ l', small s) → encK l = encK l' → l = l'
  | [], [], _, _, _ => rfl
  | [], s :: l', _, _, h => by
    have h := congrArg List.length h
    simp only [encK, encS, List.flatMap_nil, List.flatMap_cons, List.length_append, List.length_nil, List.length_cons] at h
    omega
  | s :: l, [], _, _, h => by
    have h := congrArg List.length h
    simp only [encK, encS, List.flatMap_nil, List.flatMap_cons, List.length_append, List.length_nil, List.length_cons] at h
    omega
  | s :: l, s' :: l', h1, h2, h => by
    have h : encS s ++ encK l = encS s' ++ encK l' := h
    obtain ⟨e1, e2⟩ := encS_inj (h1 s (List.mem_cons_self ..)) (h2 s' (List.mem_cons_self ..)) h
    have e3 := encK_inj (l := l) (l' := l') (fun z hz => h1 z (List.mem_cons_of_mem _ hz)) (fun z hz => h2 z (List.mem_cons_of_mem _ hz)) e2
    rw [e1, e3]
theorem dg_byte {x : Int} (hx : 0 ≤ x ∧ x < 100) : ∀ a ∈ dg x, 0 ≤ a ∧ a < 256 := by
  intro a ha
  unfold dg at ha
  split at ha <;> simp at ha <;> omega
theorem encS_byte {s : List Int} (h : small s) : ∀ a ∈ encS s, 0 ≤ a ∧ a < 256 := by
  intro a ha
  simp only [encS, List.mem_append, List.mem_flatMap, List.mem_singleton] at ha
  rcases ha with ⟨x, hx, h1 | h1⟩ | h1
  · exact dg_byte (h x hx) a h1
  · omega
  · omega
theorem encK_byte {l : List (List Int)} (h : ∀ s ∈ l, small s) : ∀ a ∈ encK l, 0 ≤ a ∧ a < 256 := by
  intro a ha
  simp only [encK, List.mem_flatMap] at ha
  obtain ⟨s, hs, h1⟩ := ha
  exact encS_byte (h s hs) a h1
theorem strB_inj {l l' : List Int} (h1 : ∀ a ∈ l, 0 ≤ a ∧ a < 256) (h2 : ∀ a ∈ l', 0 ≤ a ∧ a < 256) (h : strB l = strB l') : l = l' := by
  have h3 : l.map (fun n => UInt8.ofNat n.toNat) = l'.map (fun n => UInt8.ofNat n.toNat) := by
    have := congrArg ByteArray.data h
    simpa [strB] using this
  have back : ∀ {m : List Int}, (∀ a ∈ m, 0 ≤ a ∧ a < 256) → (m.map (fun n => UInt8.ofNat n.toNat)).map (fun b => (b.toNat : Int)) = m := by
    intro m hm
    rw [List.map_map]
    conv => rhs; rw [← List.map_id m]
    apply List.map_congr_left
    intro a ha
    have := hm a ha
    simp only [Function.comp_apply, id_eq, UInt8.toNat_ofNat']
    omega
  rw [← back h1, ← back h2, h3]
/-- The key of a list of sets. -/
def keyK (l : List (List Int)) : ByteArray := strB (encK l)
theorem keyK_inj {l l' : List (List Int)} (h1 : ∀ s ∈ l, small s) (h2 : ∀ s ∈ l', small s) (h : keyK l = keyK l') : l = l' := encK_inj h1 h2 (strB_inj (encK_byte h1) (encK_byte h2) h)
/-! ### Maps -/
theorem mget_mset {K V : Type} [DecidableEq K] (k k' : K) (v : V) : ∀ m : List (K × V), mget (mset m k v) k' = if k' = k then some v else mget m k'
  | [] => by
    simp only [mset, mget]
  | p :: r => by
    simp only [mset]
    by_cases h : k = p.1
    · rw [if_pos h]
      simp only [mget]
      by_cases h2 : k' = k
      · rw [if_pos h2, if_pos h2]
      · rw [if_neg h2, if_neg h2, if_neg (by rw [← h]; exact h2)]
    · rw [if_neg h]
      simp only [mget]
      rw [mget_mset k k' v r]
      by_cases h2 : k' = p.1
      · rw [if_pos h2, if_pos h2, if_neg (fun e => h (e.symm.trans h2))]
      · rw [if_neg h2, if_neg h2]
end Ab
end
section
namespace Ab
open Go
/-- A list made by appending a piece for each element. -/
theorem forR_flatMap {α β : Type} {l : List α} {body : Int → List β → Option (List β)} (g : α → List β) (N : Nat) (c0 : List β)
    (hb : ∀ j a c, ix l j = some a → c.length + (g a).length ≤ N → body j c = some (c ++ g a)) (hN : c0.length + (l.flatMap g).length ≤ N) :
    forR 0 (l.length : Int) body c0 = some (c0 ++ l.flatMap g) := by
  obtain ⟨s', h1, h2⟩ := forR_inv (body := body) (n := (l.length : Int)) (s := c0) (fun j c => c = c0 ++ (l.take j.toNat).flatMap g) (by omega) (by simp) (fun j c h0 h1 hP => by
    obtain ⟨a, g1, g2⟩ := ix_of h0 h1
    have e : (j + 1).toNat = j.toNat + 1 := by omega
    have ht : l.take (j + 1).toNat = l.take j.toNat ++ [a] := by rw [e, List.take_add_one, g2]; rfl
    refine ⟨c ++ g a, hb j a c g1 ?_, ?_⟩
    · have hs : l = l.take j.toNat ++ [a] ++ l.drop (j + 1).toNat := by rw [← ht, List.take_append_drop]
      have hl : (l.flatMap g).length = ((l.take j.toNat).flatMap g).length + (g a).length + ((l.drop (j + 1).toNat).flatMap g).length := by
        conv => lhs; rw [hs]
        simp [List.flatMap_append]; omega
      rw [hP, List.length_append]; omega
    · rw [ht, List.flatMap_append, hP]; simp)
  rw [h1, h2]
  simp
theorem small_eq : ∀ n : Fin 100, (internal_strconv_small (n : Nat)).map strL = some (dg (n : Nat)) := by decide +kernel
theorem appendInt_eq {x : Int} (hx : 0 ≤ x ∧ x < 100) {l : List Int} (hl : l.length ≤ 1000000) : strconv_AppendInt_w1 x 10 l = some (l ++ dg x) := by
  have h := small_eq ⟨x.toNat, by omega⟩
  rw [show (((⟨x.toNat, by omega⟩ : Fin 100) : Nat) : Int) = x by simp; omega] at h
  obtain ⟨b, h1, h2⟩ := Option.map_eq_some_iff.1 h
  first
    | unfold strconv_AppendInt_w1 internal_strconv_AppendInt_w1 internal_strconv_AppendUint_w1
    | unfold strconv_AppendInt_w1 internal_strconv_AppendInt_w2 internal_strconv_AppendUint_w3
  rw [if_neg (by omega), IntKind.wrap_u64, Int.emod_eq_of_lt (by omega) (by omega)]
  simp only [Option.bind_some, if_true]
  rw [if_pos hx.2, w64_of (by omega) (by omega), h1]
  simp only [Option.bind_some, h2]
  have : (dg x).length ≤ 2 := by unfold dg; split <;> simp
  rw [app, if_pos (by omega)]
  rfl
theorem dg_len (x : Int) : (dg x).length ≤ 2 := by unfold dg; split <;> simp
theorem key_eq {l : List (List Int)} (hs : ∀ s ∈ l, small s) (hN : (encK l).length ≤ 900000) : belief_Key l = some (keyK l) := by
  unfold belief_Key
  rw [forR_flatMap encS 900000 [] (fun j s c hj hc => by
    unfold belief_Key_l1
    rw [hj]
    simp only [Option.bind_some]
    have hlen : (encS s).length = (s.flatMap fun x => dg x ++ [44]).length + 1 := by simp [encS]
    rw [forR_flatMap (fun x => dg x ++ [44]) 900000 c (fun i x c' hi hc' => by
      unfold belief_Key_l2
      rw [hi]
      simp only [List.length_append, List.length_singleton] at hc'
      simp only [Option.bind_some, appendInt_eq (hs s (ix_mem hj) x (ix_mem hi)) (l := c') (by omega)]
      rw [app, if_pos (by simp; omega)]
      simp) (by omega)]
    simp only [Option.bind_some]
    rw [app, if_pos (by rw [List.length_append]; simp only [List.length_singleton]; omega)]
    simp [encS]) (by simpa [encK] using hN)]
  rfl
theorem encS_len : ∀ s : List Int, (encS s).length ≤ 3 * s.length + 1
  | [] => by simp [encS]
  | x :: s => by
    have := encS_len s
    have := dg_len x
    rw [encS_cons]
    simp only [List.length_append, List.length_cons]
    omega
end Ab
end
section
namespace Ab
open Go
/-! ### Loops side by side -/
theorem rngN_sim {S1 S2 O1 O2 : Type} {b1 : Int → S1 → Option (S1 ⊕ O1)} {b2 : Int → S2 → Option (S2 ⊕ O2)} (R : Int → S1 → S2 → Prop) (Q : O1 → O2 → Prop) : ∀ (k : Nat) (i : Int) (s1 : S1) (s2 : S2), R i s1 s2 →
    (∀ j s1 s2, i ≤ j → j < i + k → R j s1 s2 → (∃ t1 t2, b1 j s1 = some (.inl t1) ∧ b2 j s2 = some (.inl t2) ∧ R (j + 1) t1 t2) ∨ ∃ o1 o2, b1 j s1 = some (.inr o1) ∧ b2 j s2 = some (.inr o2) ∧ Q o1 o2) →
    (∃ t1 t2, rngN b1 k i s1 = some (.inl t1) ∧ rngN b2 k i s2 = some (.inl t2) ∧ R (i + k) t1 t2) ∨ ∃ o1 o2, rngN b1 k i s1 = some (.inr o1) ∧ rngN b2 k i s2 = some (.inr o2) ∧ Q o1 o2
  | 0, i, s1, s2, h, _ => .inl ⟨s1, s2, rfl, rfl, by simpa using h⟩
  | k + 1, i, s1, s2, h, hb => by
    rcases hb i s1 s2 (Int.le_refl _) (by omega) h with ⟨t1, t2, h1, h2, h3⟩ | ⟨o1, o2, h1, h2, h3⟩
    · rcases rngN_sim R Q k (i + 1) t1 t2 h3 (fun j s1 s2 g1 g2 => hb j s1 s2 (by omega) (by omega)) with ⟨u1, u2, g1, g2, g3⟩ | ⟨o1, o2, g1, g2, g3⟩
      · exact .inl ⟨u1, u2, by simp only [rngN, h1]; exact g1, by simp only [rngN, h2]; exact g2, by rw [show i + ((k + 1 : Nat) : Int) = i + 1 + k by omega]; exact g3⟩
      · exact .inr ⟨o1, o2, by simp only [rngN, h1]; exact g1, by simp only [rngN, h2]; exact g2, g3⟩
    · exact .inr ⟨o1, o2, by simp only [rngN, h1], by simp only [rngN, h2], h3⟩
theorem rngX_sim {S1 S2 O1 O2 : Type} {b1 : Int → S1 → Option (S1 ⊕ O1)} {b2 : Int → S2 → Option (S2 ⊕ O2)} {n : Int} (R : Int → S1 → S2 → Prop) (Q : O1 → O2 → Prop) {s1 : S1} {s2 : S2} (hn : 0 ≤ n) (h0 : R 0 s1 s2)
    (hb : ∀ j s1 s2, 0 ≤ j → j < n → R j s1 s2 → (∃ t1 t2, b1 j s1 = some (.inl t1) ∧ b2 j s2 = some (.inl t2) ∧ R (j + 1) t1 t2) ∨ ∃ o1 o2, b1 j s1 = some (.inr o1) ∧ b2 j s2 = some (.inr o2) ∧ Q o1 o2) :
    (∃ t1 t2, rngX 0 n b1 s1 = some (.inl t1) ∧ rngX 0 n b2 s2 = some (.inl t2) ∧ R n t1 t2) ∨ ∃ o1 o2, rngX 0 n b1 s1 = some (.inr o1) ∧ rngX 0 n b2 s2 = some (.inr o2) ∧ Q o1 o2 := by
  rcases rngN_sim R Q (n - 0).toNat 0 s1 s2 h0 (fun j s1 s2 g1 g2 => hb j s1 s2 g1 (by omega)) with ⟨t1, t2, h1, h2, h3⟩ | h
  · exact .inl ⟨t1, t2, h1, h2, by rwa [show (0 : Int) + ((n - 0).toNat : Int) = n by omega] at h3⟩
  · exact .inr h
theorem Loop_sim {S1 S2 O1 O2 : Type} {b1 : S1 → Option (S1 ⊕ O1)} {b2 : S2 → Option (S2 ⊕ O2)} (R : S1 → S2 → Prop) (Q : O1 → O2 → Prop) (μ : S1 → Nat)
    (hb : ∀ s1 s2, R s1 s2 → (∃ t1 t2, b1 s1 = some (.inl t1) ∧ b2 s2 = some (.inl t2) ∧ R t1 t2 ∧ μ t1 < μ s1) ∨ ∃ o1 o2, b1 s1 = some (.inr o1) ∧ b2 s2 = some (.inr o2) ∧ Q o1 o2) :
    ∀ (k : Nat) (s1 : S1) (s2 : S2), μ s1 < k → R s1 s2 → ∃ o1 o2, Loop b1 s1 = some o1 ∧ Loop b2 s2 = some o2 ∧ Q o1 o2
  | 0, _, _, h, _ => by omega
  | k + 1, s1, s2, h, hs => by
    rcases hb s1 s2 hs with ⟨t1, t2, h1, h2, h3, h4⟩ | ⟨o1, o2, h1, h2, h3⟩
    · obtain ⟨o1, o2, g1, g2, g3⟩ := Loop_sim R Q μ hb k t1 t2 (by omega) h3
      exact ⟨o1, o2, by rw [Loop_eq, h1]; exact g1, by rw [Loop_eq, h2]; exact g2, g3⟩
    · exact ⟨o1, o2, by rw [Loop_eq, h1], by rw [Loop_eq, h2], h3⟩
/-! ### States as' numbers -/
def wsN : List Int → Nat
  | [] => 0
  | a :: l => 2 ^ a.toNat + wsN l
theorem wsN_append : ∀ {l m : List Int}, wsN (l ++ m) = wsN l + wsN m
  | [], m => by simp [wsN]
  | a :: l, m => by simp only [List.cons_append, wsN, wsN_append (l := l)]; omega
theorem wsN_le : ∀ {l : List Int}, (∀ x ∈ l, x < 24) → wsN l ≤ l.length * 16777216
  | [], _ => by simp [wsN]
  | a :: l, h => by
    have h1 := wsN_le (l := l) fun x hx => h x (List.mem_cons_of_mem _ hx)
    have h2 : 2 ^ a.toNat ≤ 2 ^ 24 := Nat.pow_le_pow_right (by decide) (by have := h a (by simp); omega)
    simp only [wsN, List.length_cons]
    omega
theorem wsN_dvd {k : Nat} : ∀ {l : List Int}, (∀ x ∈ l, k ≤ x.toNat) → 2 ^ k ∣ wsN l
  | [], _ => ⟨0, rfl⟩
  | a :: l, h => Nat.dvd_add (Nat.pow_dvd_pow 2 (h a (by simp))) (wsN_dvd fun x hx => h x (List.mem_cons_of_mem _ hx))
theorem two_pow_no {k : Nat} (h : 2 ^ (k + 1) ∣ 2 ^ k) : False := by
  have h1 := Nat.le_of_dvd (Nat.two_pow_pos k) h
  have h2 := Nat.two_pow_pos k
  rw [Nat.pow_succ] at h1
  omega
theorem wsN_ne {a : Int} {l m : List Int} (ha : 0 ≤ a) (hl : ∀ x ∈ l, a < x) (hm : ∀ x ∈ m, a < x) : wsN (a :: l) ≠ wsN m := fun h => by
  have d1 : 2 ^ (a.toNat + 1) ∣ wsN l := wsN_dvd fun x hx => by have := hl x hx; omega
  have d2 : 2 ^ (a.toNat + 1) ∣ wsN m := wsN_dvd fun x hx => by have := hm x hx; omega
  rw [← h, wsN] at d2
  exact two_pow_no ((Nat.dvd_add_left d1).1 d2)
theorem wsN_inj : ∀ {l m : List Int}, Inc l → Inc m → (∀ x ∈ l, 0 ≤ x) → (∀ x ∈ m, 0 ≤ x) → wsN l = wsN m → l = m
  | [], [], _, _, _, _, _ => rfl
  | [], b :: m, _, _, _, _, h => by
    have := Nat.two_pow_pos b.toNat
    simp only [wsN] at h; omega
  | a :: l, [], _, _, _, _, h => by
    have := Nat.two_pow_pos a.toNat
    simp only [wsN] at h; omega
  | a :: l, b :: m, h1, h2, h3, h4, h => by
    obtain ⟨l1, l2⟩ := List.pairwise_cons.1 h1
    obtain ⟨m1, m2⟩ := List.pairwise_cons.1 h2
    rcases Int.lt_trichotomy a b with c | c | c
    · exact absurd h (wsN_ne (h3 a (by simp)) l1 fun x hx => by
        rcases List.mem_cons.1 hx with rfl | hx
        · exact c
        · have := m1 x hx; omega)
    · subst c
      simp only [wsN] at h
      rw [wsN_inj l2 m2 (fun x hx => h3 x (List.mem_cons_of_mem _ hx)) (fun x hx => h4 x (List.mem_cons_of_mem _ hx)) (by omega)]
    · exact absurd h.symm (wsN_ne (h4 b (by simp)) m1 fun x hx => by
        rcases List.mem_cons.1 hx with rfl | hx
        · exact c
        · have := l1 x hx; omega)
theorem SetN.word_inj {s s' : List Int} {n : Int} (h : SetN s n) (h' : SetN s' n) (e : wsN s = wsN s') : s = s' :=
  wsN_inj h.1 h'.1 (fun x hx => (h.2 x hx).1) (fun x hx => (h'.2 x hx).1) e
theorem word_eq {s : List Int} {n : Int} (hs : SetN s n) (hn : n ≤ 24) : ref1_Word s = some (wsN s : Int) := by
  have hl := hs.len
  unfold ref1_Word
  obtain ⟨w, h1, h2⟩ := forR_inv (body := ref1_Word_l1 s) (n := (s.length : Int)) (s := 0) (fun j w => w = (wsN (s.take j.toNat) : Int)) (by omega) (by simp [wsN]) (fun j w j0 j1 hP => by
    obtain ⟨a, ha, ga⟩ := ix_of (l := s) j0 j1
    have hb := hs.2 a (ix_mem ha)
    have ht : s.take (j + 1).toNat = s.take j.toNat ++ [a] := by rw [show (j + 1).toNat = j.toNat + 1 by omega, List.take_add_one, ga]; rfl
    have b1 : wsN (s.take j.toNat) ≤ (s.take j.toNat).length * 16777216 := wsN_le fun x hx => by have := hs.2 x (List.mem_of_mem_take hx); omega
    have b2 : (s.take j.toNat).length ≤ 24 := by rw [List.length_take]; omega
    have b4 : (s.take j.toNat).length * 16777216 ≤ 24 * 16777216 := Nat.mul_le_mul_right _ b2
    obtain ⟨q, hq⟩ : ∃ q : Nat, q = 2 ^ a.toNat := ⟨_, rfl⟩
    have b3 : q ≤ 16777216 := by rw [hq]; exact (Nat.pow_le_pow_right (by decide) (by omega) : 2 ^ a.toNat ≤ 2 ^ 24)
    have ep : (2 : Int) ^ a.toNat = (q : Int) := by rw [hq]; push_cast; rfl
    unfold ref1_Word_l1
    rw [ha]
    simp only [Option.bind_some]
    rw [IntKind.wrap_u64, Int.emod_eq_of_lt (by omega) (by omega), chk0, if_neg (by omega)]
    simp only [Option.bind_some]
    have es : shlW .i64 1 a = (q : Int) := by
      unfold shlW
      rw [show min a.toNat (IntKind.i64).bits = a.toNat by simp only [IntKind.bits]; omega, Int.one_mul, ep]
      exact w64_of (by omega) (by omega)
    rw [es, w64_of (by omega) (by omega), ht, wsN_append, hP]
    refine ⟨_, rfl, ?_⟩
    simp only [wsN, ← hq]
    omega)
  rw [h1, h2, Int.toNat_natCast, List.take_length]
  rfl
theorem SetN.small {s : List Int} {n : Int} (h : SetN s n) (hn : n ≤ 24) : small s := fun x hx => by have := h.2 x hx; omega
theorem key1_eq {s : List Int} (hs : small s) (h1 : s.length ≤ 1000) : belief_Key [s] = some (keyK [s]) := by
  refine key_eq (by simpa using hs) ?_
  have := encS_len s
  simp only [encK, List.flatMap_cons, List.flatMap_nil, List.length_append, List.append_nil]
  omega
theorem SetN.key_inj {s s' : List Int} {n : Int} (hn : n ≤ 24) (h : SetN s n) (h' : SetN s' n) (e : keyK [s] = keyK [s']) : s = s' := by
  have := keyK_inj (l := [s]) (l' := [s']) (by simpa using h.small hn) (by simpa using h'.small hn) e
  simpa using this
theorem oAfter_eq {t : TOpenTask} (ht : OTaskOk t) {op : Int} (h0 : 0 ≤ op) (h1 : op < t.operators.length) {s : List Int} (hs : SetN s t.facts) : ref8_After t s op = open_Results t s op := by
  obtain ⟨st, w, r1, r2, r3, r4, r5, r6⟩ := oResults_eq ht h0 h1 hs
  have ho := ht.at h0 h1
  have hl := ho.l1
  have hn := ht.n1
  rw [r1]
  unfold ref8_After
  rw [ix_oo h0 h1]
  simp only [Option.bind_some]
  obtain ⟨l, a1, a2, a3, a4, a5⟩ := forR_inv (body := ref8_After_l1 t s (ooAt t op)) (n := ((ooAt t op).outcomes.length : Int)) (s := []) (fun j l => Ord l ∧ (l.length : Int) ≤ j ∧ (∀ y ∈ l, y.length ≤ 24) ∧ ∀ y, y ∈ l ↔ ∃ k x, k < j ∧ ix (ooAt t op).outcomes k = some x ∧ efc t.facts s x = y) (by omega) ⟨.nil, by simp, by simp, fun y => ⟨fun h => by (cases h), fun ⟨k, x, k1, k2, _⟩ => by have := (ix_lo k2).1; omega⟩⟩ (fun j l j0 j1 ⟨p1, p2, p3, p4⟩ => by
    obtain ⟨x, hx, _⟩ := ix_of (l := (ooAt t op).outcomes) j0 j1
    unfold ref8_After_l1
    rw [hx]
    simp only [Option.bind_some, effect_eq ht]
    obtain ⟨l', m1, m2, m3, m4⟩ := insert_eq p1 (by omega) (fun y hy => by have := p3 y hy; omega) (efc t.facts s x)
    rw [m1]
    have e24 := (setN_efc t.facts s x).len
    refine ⟨l', rfl, m2, by omega, fun y hy => ?_, fun y => ?_⟩
    · rcases (m3 y).1 hy with rfl | h
      · omega
      · exact p3 y h
    · rw [m3, p4]
      constructor
      · rintro (rfl | ⟨k, x', k1, k2⟩)
        · exact ⟨j, x, by omega, hx, rfl⟩
        · exact ⟨k, x', by omega, k2⟩
      · rintro ⟨k, x', k1, k2, k3⟩
        by_cases ek : k = j
        · subst ek
          rw [hx] at k2; cases k2
          exact .inl k3.symm
        · exact .inr ⟨k, x', by omega, k2, k3⟩)
  have hst : l = st := Ord.ext a2 r2 fun y => by
    rw [a5, r3]
    constructor
    · rintro ⟨k, x, _, k2, k3⟩; exact ⟨x, ix_mem k2, k3⟩
    · rintro ⟨x, hx, k3⟩
      obtain ⟨k, k0, k1, k2⟩ := mem_ix hx
      exact ⟨k, x, k1, k2, k3⟩
  subst hst
  have hm : mkL 8 (l.length : Int) (0 : Int) = some (List.replicate l.length 0) := by
    rw [mkL, if_pos (by omega)]; simp
  rw [a1]
  simp only [Option.bind_some, hm]
  have e : forR 0 ((ooAt t op).outcomes.length : Int) (ref8_After_l2 t s (ooAt t op) l) (List.replicate l.length 0) = some w := by
    rw [← r6]
    refine forR_congr fun j c j0 j1 => ?_
    obtain ⟨x, hx, _⟩ := ix_of (l := (ooAt t op).outcomes) j0 j1
    obtain ⟨i, e1, e2, e3⟩ := bsets_eq (t := efc t.facts s x) r2 (by omega)
    obtain ⟨r, g1, g2⟩ := place_eq l (efc t.facts s x)
    unfold ref8_After_l2 open_Results_l2
    rw [hx, ix_map, hx]
    simp only [Option.bind_some, Option.map_some, effect_eq ht, e1, g1]
    rcases g2 with ⟨_, h⟩ | ⟨_, _, h, _⟩
    · exact absurd ((r3 _).2 ⟨x, ix_mem hx, rfl⟩) h
    · rw [e3 r h]
  rw [e]
  rfl
end Ab
end
section
namespace Ab
open Go
def Ext (a b : List (List Int)) : Prop := ∀ k y, ix a k = some y → ix b k = some y
theorem Ext.refl (a : List (List Int)) : Ext a a := fun _ _ h => h
theorem Ext.mem {a b : List (List Int)} (h : Ext a b) {y : List Int} (hy : y ∈ a) : y ∈ b := by
  obtain ⟨k, _, _, hk⟩ := mem_ix hy
  exact ix_mem (h k y hk)
theorem Ext.snoc {a b : List (List Int)} (h : Ext a b) (z : List Int) : Ext a (b ++ [z]) := fun k y hk => by
  obtain ⟨i0, i1, g⟩ := ix_lo (h k y hk)
  rw [ix, if_pos i0, List.getElem?_append_left (by omega), g]
theorem Ext.len {a b : List (List Int)} (h : Ext a b) : a.length ≤ b.length := by
  by_cases c : a.length = 0
  · omega
  · obtain ⟨y, hy, _⟩ := ix_of (l := a) (i := (a.length : Int) - 1) (by omega) (by omega)
    have := (ix_lo (h _ y hy)).2.1
    omega
structure Rc (t : TOpenTask) (l : List (List Int)) (m : List (ByteArray × Int)) (ws : List Int) : Prop where
  set : ∀ s ∈ l, SetN s t.facts
  len : l.length ≤ 2000
  map : ∀ s, SetN s t.facts → (0 < Option.getD (mget m (keyK [s])) 0 ↔ s ∈ l)
  wrd : ws = l.map fun s => (wsN s : Int)
theorem Rc.has {t : TOpenTask} {l : List (List Int)} {m : List (ByteArray × Int)} {ws : List Int} (h : Rc t l m ws) {s : List Int} (hs : SetN s t.facts) : (wsN s : Int) ∈ ws ↔ s ∈ l := by
  rw [h.wrd, List.mem_map]
  constructor
  · rintro ⟨a, ha, e⟩
    have : a = s := (h.set a ha).word_inj hs (by omega)
    exact this ▸ ha
  · intro hm; exact ⟨s, hm, rfl⟩
theorem Rc.put {t : TOpenTask} (hn : t.facts ≤ 24) {l : List (List Int)} {m : List (ByteArray × Int)} {ws : List Int} (h : Rc t l m ws) {s : List Int} (hs : SetN s t.facts) (hl : l.length < 2000) : Rc t (l ++ [s]) (mset m (keyK [s]) 1) (ws ++ [(wsN s : Int)]) := by
  refine ⟨fun y hy => ?_, by simp; omega, fun y hy => ?_, by rw [h.wrd]; simp⟩
  · rcases List.mem_append.1 hy with g | g
    · exact h.set y g
    · simp only [List.mem_singleton] at g; subst g; exact hs
  · rw [mget_mset, List.mem_append, List.mem_singleton]
    by_cases e : keyK [y] = keyK [s]
    · have := SetN.key_inj hn hy hs e
      subst this
      rw [if_pos rfl]
      simp
    · rw [if_neg e, h.map y hy]
      constructor
      · exact .inl
      · rintro (g | g)
        · exact g
        · exact absurd (by rw [g]) e
theorem reach4 {t : TOpenTask} (ht : OTaskOk t) {st : List (List Int)} {w : List Int} (hst : ∀ y ∈ st, SetN y t.facts) {l0 : List (List Int)} {m0 : List (ByteArray × Int)} {ws0 : List Int} (h0 : Rc t l0 m0 ws0) :
    (∃ p q, rngX 0 (st.length : Int) (open_Reach_l4 (st, w)) (l0, m0) = some (.inl p) ∧ rngX 0 (st.length : Int) (ref8_Reached_l4 2000 (st, w)) (l0, ws0) = some (.inl q) ∧ q.1 = p.1 ∧ Rc t p.1 p.2 q.2 ∧ Ext l0 p.1 ∧ ∀ y ∈ st, y ∈ p.1) ∨ ∃ o1 o2, rngX 0 (st.length : Int) (open_Reach_l4 (st, w)) (l0, m0) = some (.inr o1) ∧ rngX 0 (st.length : Int) (ref8_Reached_l4 2000 (st, w)) (l0, ws0) = some (.inr o2) ∧ o1 = ([], false) ∧ o2 = ([], false) := by
  have hn := ht.n1
  rcases rngX_sim (b1 := open_Reach_l4 (st, w)) (b2 := ref8_Reached_l4 2000 (st, w)) (n := (st.length : Int)) (s1 := (l0, m0)) (s2 := (l0, ws0)) (fun j p q => q.1 = p.1 ∧ Rc t p.1 p.2 q.2 ∧ Ext l0 p.1 ∧ ∀ k y, k < j → ix st k = some y → y ∈ p.1) (fun o1 o2 => o1 = ([], false) ∧ o2 = ([], false)) (by omega) ⟨rfl, h0, .refl _, fun k y k0 hk => by have := (ix_lo hk).1; omega⟩ (fun j ⟨l, m⟩ ⟨l', ws⟩ j0 j1 ⟨e, g1, g2, g3⟩ => by
    dsimp only at e g1 g2 g3
    subst e
    obtain ⟨y, hy, _⟩ := ix_of (l := st) j0 j1
    have hs := hst y (ix_mem hy)
    have hyl := hs.len
    unfold open_Reach_l4 ref8_Reached_l4
    dsimp only
    rw [hy]
    simp only [Option.bind_some]
    rw [key1_eq (hs.small hn) (by omega), word_eq hs hn]
    simp only [Option.bind_some, has_eq]
    have mono : ∀ {l2 : List (List Int)}, Ext l' l2 → y ∈ l2 → ∀ k z, k < j + 1 → ix st k = some z → z ∈ l2 := fun h1 h2 k z hk hz => by
      by_cases ek : k = j
      · subst ek; rw [hy] at hz; cases hz; exact h2
      · exact h1.mem (g3 k z (by omega) hz)
    by_cases c : y ∈ l'
    · rw [if_pos ((g1.map y hs).2 c), ifP ((g1.has hs).2 c)]
      exact .inl ⟨_, _, rfl, rfl, rfl, g1, g2, mono (.refl _) c⟩
    · rw [if_neg (fun h => c ((g1.map y hs).1 h)), ifN (fun h => c ((g1.has hs).1 h))]
      have hlen := g1.len
      by_cases c2 : (l'.length : Int) = 2000
      · rw [if_pos c2, if_pos (by omega)]
        exact .inr ⟨_, _, rfl, rfl, rfl, rfl⟩
      · rw [if_neg c2, if_neg (by omega), app, if_pos (by simp; omega)]
        simp only [Option.bind_some]
        rw [app, if_pos (by rw [g1.wrd]; simp; omega)]
        exact .inl ⟨_, _, rfl, rfl, rfl, g1.put hn hs (by omega), g2.snoc _, mono ((Ext.refl _).snoc _) (by simp)⟩) with ⟨p, q, h1, h2, h3, h4, h5, h6⟩ | h
  · refine .inl ⟨p, q, h1, h2, h3, h4, h5, fun y hy => ?_⟩
    obtain ⟨k, _, k1, hk⟩ := mem_ix hy
    exact h6 k y k1 hk
  · exact .inr h
/-- What follows a state lies in a list, for the first operators. -/
def ClS (t : TOpenTask) (l : List (List Int)) (s : List Int) (n : Int) : Prop := ∀ op : Int, 0 ≤ op → op < n → oCan t s op → ∀ x ∈ (ooAt t op).outcomes, efc t.facts s x ∈ l
theorem ClS.ext {t : TOpenTask} {l l' : List (List Int)} {s : List Int} {n : Int} (h : ClS t l s n) (e : Ext l l') : ClS t l' s n := fun op h0 h1 hc x hx => e.mem (h op h0 h1 hc x hx)
theorem reach2 {t : TOpenTask} (ht : OTaskOk t) {l0 : List (List Int)} {m0 : List (ByteArray × Int)} {ws0 : List Int} (h0 : Rc t l0 m0 ws0) {at_ : Int} {s : List Int} (hs : ix l0 at_ = some s) :
    (∃ p q, rngX 0 (t.operators.length : Int) (open_Reach_l2 t at_) (l0, m0) = some (.inl p) ∧ rngX 0 (t.operators.length : Int) (ref8_Reached_l2 t 2000 at_) (l0, ws0) = some (.inl q) ∧ q.1 = p.1 ∧ Rc t p.1 p.2 q.2 ∧ Ext l0 p.1 ∧ ClS t p.1 s t.operators.length) ∨ ∃ o1 o2, rngX 0 (t.operators.length : Int) (open_Reach_l2 t at_) (l0, m0) = some (.inr o1) ∧ rngX 0 (t.operators.length : Int) (ref8_Reached_l2 t 2000 at_) (l0, ws0) = some (.inr o2) ∧ o1 = ([], false) ∧ o2 = ([], false) := by
  have hset := h0.set s (ix_mem hs)
  exact rngX_sim (b1 := open_Reach_l2 t at_) (b2 := ref8_Reached_l2 t 2000 at_) (n := (t.operators.length : Int)) (s1 := (l0, m0)) (s2 := (l0, ws0)) (fun j p q => q.1 = p.1 ∧ Rc t p.1 p.2 q.2 ∧ Ext l0 p.1 ∧ ClS t p.1 s j) (fun o1 o2 => o1 = ([], false) ∧ o2 = ([], false)) (by omega) ⟨rfl, h0, .refl _, fun op a b => by omega⟩ (fun j ⟨l, m⟩ ⟨l', ws⟩ j0 j1 ⟨e, g1, g2, g3⟩ => by
    dsimp only at e g1 g2 g3
    subst e
    unfold open_Reach_l2 ref8_Reached_l2
    dsimp only
    rw [g2 _ _ hs]
    simp only [Option.bind_some]
    rw [oCan_eq ht j0 j1 hset, oApplies_eq j0 j1]
    simp only [Option.bind_some, dec_not]
    have step : ∀ {l2 : List (List Int)}, Ext l' l2 → (oCan t s j → ∀ x ∈ (ooAt t j).outcomes, efc t.facts s x ∈ l2) → ClS t l2 s (j + 1) := fun h1 h2 op a b hc x hx => by
      by_cases eo : op = j
      · subst eo; exact h2 hc x hx
      · exact h1.mem (g3 op a (by omega) hc x hx)
    by_cases c : oCan t s j
    · rw [ifNN c, ifNN c, oAfter_eq ht j0 j1 hset]
      obtain ⟨st, w, r1, r2, r3, _⟩ := oResults_eq ht j0 j1 hset
      rw [r1]
      simp only [Option.bind_some]
      rcases reach4 ht (st := st) (w := w) (fun y hy => by
        obtain ⟨x, _, rfl⟩ := (r3 y).1 hy
        exact setN_efc _ _ _) g1 with ⟨p, q, h1, h2, h3, h4, h5, h6⟩ | ⟨o1, o2, h1, h2, h3, h4⟩
      · rw [h1, h2]
        refine .inl ⟨p, q, rfl, rfl, h3, h4, fun k y hk => h5 k y (g2 k y hk), step h5 fun _ x hx => h6 _ ((r3 _).2 ⟨x, hx, rfl⟩)⟩
      · rw [h1, h2]
        exact .inr ⟨o1, o2, rfl, rfl, h3, h4⟩
    · rw [ifP c, ifP c]
      exact .inl ⟨_, _, rfl, rfl, rfl, g1, g2, step (.refl _) fun h => absurd h c⟩)
/-- What is known of the states that are reached. -/
structure Cl (t : TOpenTask) (l : List (List Int)) : Prop where
  len : l.length ≤ 2000
  set : ∀ s ∈ l, SetN s t.facts
  init : t.init ∈ l
  closed : ∀ s ∈ l, ClS t l s t.operators.length
theorem reach_full {t : TOpenTask} (ht : OTaskOk t) : (∃ out, open_Reach t = some (out, true) ∧ ref8_Reached t 2000 = some (out, true) ∧ Cl t out ∧ Ord out ∧ ∃ l, Loop (ref8_Reached_l1 t 2000) ([t.init], [(wsN t.init : Int)], 0) = some (.inl l) ∧ out.length ≤ l.length) ∨ (open_Reach t = some ([], false) ∧ ref8_Reached t 2000 = some ([], false)) := by
  have hn := ht.n1
  have hi := ht.init
  have hil := hi.len
  unfold open_Reach ref8_Reached
  rw [clone_eq (by omega)]
  simp only [Option.bind_some]
  rw [key1_eq (hi.small hn) (by omega), word_eq hi hn]
  simp only [Option.bind_some]
  rw [app, if_pos (by simp)]
  simp only [Option.bind_some, List.nil_append]
  have r0 : Rc t [t.init] (mset ([] : List (ByteArray × Int)) (keyK [t.init]) 1) [(wsN t.init : Int)] := by
    refine ⟨by simpa using hi, by simp, fun s hs => ?_, rfl⟩
    rw [mget_mset]
    by_cases e : keyK [s] = keyK [t.init]
    · rw [if_pos e, SetN.key_inj hn hs hi e]; simp
    · rw [if_neg e]
      simp only [mget, List.mem_singleton, Option.getD_none]
      exact ⟨fun h => by omega, fun h => absurd (by rw [h]) e⟩
  obtain ⟨o1, o2, q1, q2, q3⟩ := Loop_sim (b1 := open_Reach_l1 t) (b2 := ref8_Reached_l1 t 2000) (fun p q => q.1 = p.1 ∧ q.2.2 = p.2.2 ∧ Rc t p.1 p.2.1 q.2.1 ∧ 0 ≤ p.2.2 ∧ p.2.2 ≤ p.1.length ∧ t.init ∈ p.1 ∧ ∀ i s, i < p.2.2 → ix p.1 i = some s → ClS t p.1 s t.operators.length) (fun o1 o2 => (∃ l, o1 = .inl l ∧ o2 = .inl l ∧ Cl t l) ∨ (o1 = .inr ([], false) ∧ o2 = .inr ([], false))) (fun p => (2000 - p.2.2).toNat) (fun ⟨l, m, a⟩ ⟨l', ws, a'⟩ ⟨e1, e2, g1, g2, g3, g4, g5⟩ => by
    dsimp only at e1 e2 g1 g2 g3 g4 g5
    subst e1 e2
    have hlen := g1.len
    unfold open_Reach_l1 ref8_Reached_l1
    dsimp only
    by_cases c : a' < l'.length
    · rw [if_pos c, if_pos c]
      obtain ⟨s, hs, _⟩ := ix_of (l := l') g2 c
      rcases reach2 ht g1 hs with ⟨p, q, h1, h2, h3, h4, h5, h6⟩ | ⟨o1, o2, h1, h2, h3, h4⟩
      · rw [h1, h2]
        have := h5.len
        have := h4.len
        simp only [Option.bind_some]
        rw [w64_of (by omega) (by omega)]
        refine .inl ⟨_, _, rfl, rfl, ⟨h3, rfl, h4, by dsimp only; omega, by dsimp only; omega, h5.mem g4, fun i s' hi' hs' => ?_⟩, by dsimp only; omega⟩
        dsimp only at hi' hs' ⊢
        by_cases ei : i = a'
        · subst ei
          rw [h5 _ _ hs] at hs'; cases hs'
          exact h6
        · obtain ⟨y, hy, _⟩ := ix_of (l := l') (i := i) (ix_lo hs').1 (by omega)
          have hy2 := h5 _ _ hy
          rw [hs'] at hy2
          cases hy2
          exact (g5 i s' (by omega) hy).ext h5
      · rw [h1, h2]
        refine .inr ⟨_, _, rfl, rfl, .inr ⟨by rw [h3], by rw [h4]⟩⟩
    · rw [if_neg c, if_neg c]
      refine .inr ⟨_, _, rfl, rfl, .inl ⟨l', rfl, rfl, g1.len, g1.set, g4, fun s hs => ?_⟩⟩
      obtain ⟨i, i0, i1, hi⟩ := mem_ix hs
      exact g5 i s (by omega) hi) _ ([t.init], mset ([] : List (ByteArray × Int)) (keyK [t.init]) 1, 0) ([t.init], [(wsN t.init : Int)], 0) (Nat.lt_succ_self _) ⟨rfl, rfl, r0, by simp, by simp, by simp, fun i s hi hs => by have := (ix_lo hs).1; dsimp only at hi; omega⟩
  rw [q1, q2]
  rcases q3 with ⟨l, rfl, rfl, hc⟩ | ⟨rfl, rfl⟩
  · left
    simp only [Option.bind_some]
    have hcl := hc.len
    obtain ⟨r, n1, n2, n3, n4⟩ := normal_eq (l := l) (by omega)
    rw [n1]
    obtain ⟨l', a1, a2, a3, a4, a5⟩ := forR_inv (body := ref8_Reached_l6 l) (n := (l.length : Int)) (s := []) (fun j l' => Ord l' ∧ (l'.length : Int) ≤ j ∧ (∀ y ∈ l', y.length ≤ 24) ∧ ∀ y, y ∈ l' ↔ ∃ k, k < j ∧ ix l k = some y) (by omega) ⟨.nil, by simp, by simp, fun y => ⟨fun h => by (cases h), fun ⟨k, k1, k2⟩ => by have := (ix_lo k2).1; omega⟩⟩ (fun j l' j0 j1 ⟨p1, p2, p3, p4⟩ => by
      obtain ⟨s, hs, _⟩ := ix_of (l := l) j0 j1
      unfold ref8_Reached_l6
      rw [hs]
      simp only [Option.bind_some]
      obtain ⟨l2, m1, m2, m3, m4⟩ := insert_eq p1 (by omega) (fun y hy => by have := p3 y hy; omega) s
      rw [m1]
      have e24 := (hc.set s (ix_mem hs)).len
      refine ⟨l2, rfl, m2, by omega, fun y hy => ?_, fun y => ?_⟩
      · rcases (m3 y).1 hy with rfl | h
        · omega
        · exact p3 y h
      · rw [m3, p4]
        constructor
        · rintro (rfl | ⟨k, k1, k2⟩)
          · exact ⟨j, by omega, hs⟩
          · exact ⟨k, by omega, k2⟩
        · rintro ⟨k, k1, k2⟩
          by_cases ek : k = j
          · subst ek
            rw [hs] at k2; cases k2
            exact .inl rfl
          · exact .inr ⟨k, by omega, k2⟩)
    rw [a1]
    have : l' = r := Ord.ext a2 n2 fun y => by
      rw [a5, n3]
      constructor
      · rintro ⟨k, _, k2⟩; exact ix_mem k2
      · intro hy
        obtain ⟨k, _, k1, hk⟩ := mem_ix hy
        exact ⟨k, k1, hk⟩
    subst this
    refine ⟨l', rfl, rfl, ⟨by omega, fun s hs => hc.set s ((n3 s).1 hs), (n3 _).2 hc.init, fun s hs op h0 h1 hcan x hx => (n3 _).2 (hc.closed s ((n3 s).1 hs) op h0 h1 hcan x hx)⟩, a2, l, rfl, n4⟩
  · right
    exact ⟨rfl, rfl⟩
theorem explore_ok {t : TOpenTask} (ht : OTaskOk t) : open_Explore t = (open_Reach t).bind fun r => if r.2 = true then some (r.1, ⟨0, 0⟩) else some ([], ⟨10, -7⟩) := by
  obtain ⟨f, h1, _, h3⟩ := oValidate_eq t
  rcases h3 with ⟨rfl, _⟩ | ⟨_, hn⟩
  · unfold open_Explore
    rw [h1]
    simp only [Option.bind_some]
    rw [if_neg (by simp)]
    congr 1
    funext r
    cases r.2 <;> rfl
  · exact absurd ht hn
theorem explore_bad {t : TOpenTask} {f : TFault} (hv : open_Validate t = some f) (hc : f.code ≠ 0) : open_Explore t = some ([], f) := by
  unfold open_Explore
  rw [hv]
  simp only [Option.bind_some]
  rw [if_pos (fault_no hc)]
end Ab
end
section
namespace Ab
open Go
theorem nodup_len {α : Type} [DecidableEq α] : ∀ {c S : List α}, c.Nodup → (∀ x ∈ c, x ∈ S) → c.length ≤ S.length
  | [], _, _, _ => Nat.zero_le _
  | a :: c, S, h, hs => by
    obtain ⟨h1, h2⟩ := List.nodup_cons.1 h
    have ha := hs a (by simp)
    have := nodup_len (c := c) (S := S.erase a) h2 fun x hx => by
      have hne : x ≠ a := fun e => h1 (e ▸ hx)
      exact (List.mem_erase_of_ne hne).2 (hs x (List.mem_cons_of_mem _ hx))
    rw [List.length_erase_of_mem ha] at this
    have : 0 < S.length := List.length_pos_of_mem ha
    simp only [List.length_cons]
    omega
section
variable {α : Type}
/-- Surely over within k steps. -/
def Dn (G L : α → Prop) (nx : α → List α) : Nat → α → Prop
  | 0, s => G s
  | k + 1, s => G s ∨ (L s ∧ ∀ y ∈ nx s, Dn G L nx k y)
variable {G L : α → Prop} {nx : α → List α}
theorem Dn.goal {k : Nat} {s : α} (h : G s) : Dn G L nx k s := by
  cases k with
  | zero => exact h
  | succ k => exact .inl h
theorem Dn.succ : ∀ {k : Nat} {s : α}, Dn G L nx k s → Dn G L nx (k + 1) s
  | 0, s, h => .inl h
  | k + 1, s, h => by
    rcases h with h | ⟨h1, h2⟩
    · exact .inl h
    · exact .inr ⟨h1, fun y hy => (h2 y hy).succ⟩
theorem Dn.mono {k m : Nat} {s : α} (h : Dn G L nx k s) (hm : k ≤ m) : Dn G L nx m s := by
  induction hm with
  | refl => exact h
  | step _ ih => exact ih.succ
/-- The exact number of steps in the worst case. -/
def Ht (G L : α → Prop) (nx : α → List α) (k : Nat) (s : α) : Prop := Dn G L nx k s ∧ ∀ j, j < k → ¬ Dn G L nx j s
theorem Ht.unique {k m : Nat} {s : α} (h : Ht G L nx k s) (h' : Ht G L nx m s) : k = m := by
  rcases Nat.lt_trichotomy k m with c | c | c
  · exact absurd h.1 (h'.2 k c)
  · exact c
  · exact absurd h'.1 (h.2 m c)
theorem Ht.le {k m : Nat} {s : α} (h : Ht G L nx k s) (h' : Dn G L nx m s) : k ≤ m := by
  rcases Nat.lt_or_ge m k with c | c
  · exact absurd h' (h.2 m c)
  · exact c
theorem Ht.of_dn : ∀ {k : Nat} {s : α}, Dn G L nx k s → ∃ m, m ≤ k ∧ Ht G L nx m s
  | 0, s, h => ⟨0, Nat.le_refl _, h, fun j hj => by omega⟩
  | k + 1, s, h => by
    by_cases c : Dn G L nx k s
    · obtain ⟨m, h1, h2⟩ := Ht.of_dn c
      exact ⟨m, by omega, h2⟩
    · exact ⟨k + 1, Nat.le_refl _, h, fun j hj hd => c (hd.mono (by omega))⟩
theorem Ht.zero {s : α} (h : G s) : Ht G L nx 0 s := ⟨h, fun j hj => by omega⟩
theorem Ht.goal {k : Nat} {s : α} (h : Ht G L nx k s) (hg : G s) : k = 0 := h.unique (.zero hg)
/-- A state that is not over has a successor one step nearer, and none further. -/
theorem Ht.step {k : Nat} {s : α} (h : Ht G L nx k s) (hg : ¬ G s) (hne : ∀ s, L s → nx s ≠ []) : ∃ m, k = m + 1 ∧ L s ∧ (∀ y ∈ nx s, ∃ j, j ≤ m ∧ Ht G L nx j y) ∧ ∃ y ∈ nx s, Ht G L nx m y := by
  cases k with
  | zero => exact absurd h.1 hg
  | succ m =>
    rcases h.1 with g | ⟨h1, h2⟩
    · exact absurd g hg
    · refine ⟨m, rfl, h1, fun y hy => Ht.of_dn (h2 y hy), ?_⟩
      cases m with
      | zero =>
        obtain ⟨y, hy⟩ := List.exists_mem_of_ne_nil _ (hne s h1)
        exact ⟨y, hy, h2 y hy, fun j hj => by omega⟩
      | succ m =>
        have hn := h.2 (m + 1) (by omega)
        have : ∃ y ∈ nx s, ¬ Dn G L nx m y := Classical.byContradiction fun hc => hn (.inr ⟨h1, fun y hy => Classical.byContradiction fun hy2 => hc ⟨y, hy, hy2⟩⟩)
        obtain ⟨y, hy, hy2⟩ := this
        exact ⟨y, hy, h2 y hy, fun j hj hd => hy2 (hd.mono (by omega))⟩
end
end Ab
end
section
namespace Ab
open Go
def GoalS (t : TOpenTask) (s : List Int) : Prop := ∀ x ∈ t.goal, x ∈ s
noncomputable def LiveS (p : List TChoice) (s : List Int) : Prop := 0 ≤ chO p s
noncomputable def nxS (t : TOpenTask) (p : List TChoice) (s : List Int) : List (List Int) := (ooAt t (chO p s)).outcomes.map (efc t.facts s)
inductive Rch (t : TOpenTask) (p : List TChoice) : List Int → Prop
  | init : Rch t p t.init
  | step {s y : List Int} : Rch t p s → ¬ GoalS t s → LiveS p s → y ∈ nxS t p s → Rch t p y
theorem chO_mem {p : List TChoice} {s : List Int} (h : 0 ≤ chO p s) : ∃ c ∈ p, c.state = s ∧ chO p s = c.operator := by
  obtain ⟨r, h1, h2⟩ := rChosen_eq p s
  have e : chO p s = r := by rw [chO, h1]; rfl
  rw [e] at h ⊢
  rcases h2 with ⟨rfl, _⟩ | ⟨c, h3, h4, h5⟩
  · omega
  · exact ⟨c, h3, h4, h5⟩
theorem live_op {t : TOpenTask} {p : List TChoice} (hp : PolOk t p) {s : List Int} (h : LiveS p s) : (0 ≤ chO p s ∧ chO p s < t.operators.length) ∧ oCan t s (chO p s) := by
  obtain ⟨_, e⟩ := chosen_chO hp s
  unfold LiveS at h
  rcases e with e | e
  · omega
  · exact ⟨⟨e.1, e.2.1⟩, e.2.2⟩
theorem Rch.set {t : TOpenTask} (ht : OTaskOk t) {p : List TChoice} {s : List Int} (h : Rch t p s) : SetN s t.facts := by
  cases h with
  | init => exact ht.init
  | step _ _ _ hy =>
    obtain ⟨x, _, rfl⟩ := List.mem_map.1 hy
    exact setN_efc _ _ _
/-- All states that can be met. -/
noncomputable def candK (t : TOpenTask) (p : List TChoice) : List (List Int) := t.init :: p.flatMap fun c => (ooAt t c.operator).outcomes.map (efc t.facts c.state)
theorem flat_len {α β : Type} {f : α → List β} {n : Nat} : ∀ {l : List α}, (∀ a ∈ l, (f a).length ≤ n) → (l.flatMap f).length ≤ l.length * n
  | [], _ => by simp
  | a :: l, h => by
    have h1 := h a (by simp)
    have h2 := flat_len (l := l) fun b hb => h b (List.mem_cons_of_mem _ hb)
    rw [List.flatMap_cons, List.length_append, List.length_cons, Nat.succ_mul]
    omega
theorem candK_len {t : TOpenTask} (ht : OTaskOk t) {p : List TChoice} (hp : PolOk t p) : (candK t p).length ≤ 801 := by
  have h := flat_len (f := fun c : TChoice => (ooAt t c.operator).outcomes.map (efc t.facts c.state)) (n := 4) (l := p) fun c hc => by
    have := hp.op c hc
    have := (ht.at this.1 this.2).l1
    simpa using this
  have := hp.len
  have h2 : p.length * 4 ≤ 200 * 4 := Nat.mul_le_mul_right _ this
  unfold candK
  rw [List.length_cons]
  omega
theorem Rch.cand {t : TOpenTask} {p : List TChoice} {s : List Int} (h : Rch t p s) : s ∈ candK t p := by
  cases h with
  | init => exact List.mem_cons_self ..
  | @step s y _ _ hl hy =>
    obtain ⟨c, h1, h2, h3⟩ := chO_mem hl
    refine List.mem_cons_of_mem _ (List.mem_flatMap.2 ⟨c, h1, ?_⟩)
    unfold nxS at hy
    rw [h3] at hy
    rw [h2]
    exact hy
theorem rch_len {t : TOpenTask} (ht : OTaskOk t) {p : List TChoice} (hp : PolOk t p) {l : List (List Int)} (hn : l.Nodup) (h : ∀ s ∈ l, Rch t p s) : l.length ≤ 801 :=
  Nat.le_trans (nodup_len hn fun s hs => (h s hs).cand) (candK_len ht hp)
theorem Ord.nodup {l : List (List Int)} (h : Ord l) : l.Nodup := List.Pairwise.imp (fun {a b : List Int} (hab : llt a b) (e : a = b) => llt_irrefl a (by rw [← e] at hab; exact hab)) h
/-- What follows a state that is left lies in l. -/
def ClV (t : TOpenTask) (p : List TChoice) (l : List (List Int)) (s : List Int) : Prop := ¬ GoalS t s → LiveS p s → ∀ y ∈ nxS t p s, y ∈ l
/-- The states that a policy meets, in order. -/
structure Vis (t : TOpenTask) (p : List TChoice) (l : List (List Int)) : Prop where
  ord : Ord l
  mem : ∀ s, s ∈ l ↔ Rch t p s
theorem vis_of {t : TOpenTask} {p : List TChoice} {l : List (List Int)} (ho : Ord l) (hi : t.init ∈ l) (hr : ∀ s ∈ l, Rch t p s) (hc : ∀ s ∈ l, ClV t p l s) : Vis t p l := by
  refine ⟨ho, fun s => ⟨hr s, fun h => ?_⟩⟩
  induction h with
  | init => exact hi
  | step _ hg hl hy ih => exact hc _ ih hg hl _ hy
theorem containsLL_eq {l : List (List Int)} {s : List Int} : slices_ContainsFunc_LLint l (fun y => open_Visited_1 y s) = some (dec (s ∈ l)) := by
  unfold slices_ContainsFunc_LLint slices_IndexFunc_LLint
  rcases rngX_test (body := slices_IndexFunc_LLint_l1 l fun y => open_Visited_1 y s) (n := (l.length : Int)) (fun j => if dec (ix l j = some s) = true then some j else none) (by omega) (fun j h0 h1 _ => by
    obtain ⟨x, hx, _⟩ := ix_of (l := l) h0 h1
    unfold slices_IndexFunc_LLint_l1 open_Visited_1
    rw [hx]
    simp only [Option.bind_some, equal_eq]
    by_cases e : x = s
    · rw [ifP e, ifP (by rw [e])]
    · rw [ifN e, ifN (by simpa using e)]) with ⟨h1, h2⟩ | ⟨j, o, h0, h1, h2, h3, h4⟩
  · rw [h1]
    simp only [Option.bind_some]
    rw [dec_no]
    · rfl
    · intro hs
      obtain ⟨i, i0, i1, hi⟩ := mem_ix hs
      have := h2 i i0 i1
      rw [ifP hi] at this
      cases this
  · rw [h4]
    split at h2
    · rename_i e
      cases h2
      simp only [Option.bind_some]
      rw [dec_of (ix_mem (dec_true.1 e)), decide_eq_true h0]
    · cases h2
theorem vis4 {t : TOpenTask} (ht : OTaskOk t) {p : List TChoice} (hp : PolOk t p) {s : List Int} (hs : Rch t p s) (hg : ¬ GoalS t s) (hl : LiveS p s) {st : List (List Int)} {w : List Int} (hst : ∀ y, y ∈ st ↔ y ∈ nxS t p s) {l0 : List (List Int)} (hn : l0.Nodup) (hr : ∀ s ∈ l0, Rch t p s) :
    ∃ l, forR 0 (st.length : Int) (open_Visited_l2 (st, w)) l0 = some l ∧ l.Nodup ∧ (∀ s ∈ l, Rch t p s) ∧ Ext l0 l ∧ ∀ y ∈ st, y ∈ l := by
  obtain ⟨l, h1, h2, h3, h4, h5⟩ := forR_inv (body := open_Visited_l2 (st, w)) (n := (st.length : Int)) (s := l0) (fun j l => l.Nodup ∧ (∀ s ∈ l, Rch t p s) ∧ Ext l0 l ∧ ∀ k y, k < j → ix st k = some y → y ∈ l) (by omega) ⟨hn, hr, .refl _, fun k y hk h => by have := (ix_lo h).1; omega⟩ (fun j l j0 j1 ⟨a1, a2, a3, a4⟩ => by
    obtain ⟨y, hy, _⟩ := ix_of (l := st) j0 j1
    unfold open_Visited_l2
    dsimp only
    rw [hy]
    simp only [Option.bind_some, containsLL_eq, dec_not]
    have mono : ∀ {l2 : List (List Int)}, Ext l l2 → y ∈ l2 → ∀ k z, k < j + 1 → ix st k = some z → z ∈ l2 := fun h1 h2 k z hk hz => by
      by_cases ek : k = j
      · subst ek; rw [hy] at hz; cases hz; exact h2
      · exact h1.mem (a4 k z (by omega) hz)
    have hry : Rch t p y := .step hs hg hl ((hst y).1 (ix_mem hy))
    by_cases c : y ∈ l
    · rw [ifNN c]
      exact ⟨l, rfl, a1, a2, a3, mono (.refl _) c⟩
    · have hlen := rch_len ht hp a1 a2
      rw [ifP c, app, if_pos (by simp; omega)]
      refine ⟨_, rfl, List.nodup_append.2 ⟨a1, by simp, fun a ha b hb => ?_⟩, fun z hz => ?_, a3.snoc _, mono ((Ext.refl _).snoc _) (by simp)⟩
      · simp only [List.mem_singleton] at hb; subst hb; exact fun e => c (e ▸ ha)
      · rcases List.mem_append.1 hz with g | g
        · exact a2 z g
        · simp only [List.mem_singleton] at g; exact g ▸ hry)
  refine ⟨l, h1, h2, h3, h4, fun y hy => ?_⟩
  obtain ⟨k, _, k1, hk⟩ := mem_ix hy
  exact h5 k y k1 hk
theorem oVisited_eq {t : TOpenTask} (ht : OTaskOk t) {p : List TChoice} (hp : PolOk t p) : ∃ l, open_Visited t p = some l ∧ Vis t p l := by
  have hn := ht.n1
  have hil := ht.init.len
  unfold open_Visited
  rw [clone_eq (by omega)]
  simp only [Option.bind_some]
  obtain ⟨l, h1, h2, h3, h4, h5⟩ := Loop_inv (body := open_Visited_l1 t p) (fun q => q.1.Nodup ∧ (∀ s ∈ q.1, Rch t p s) ∧ t.init ∈ q.1 ∧ (0 ≤ q.2 ∧ q.2 ≤ q.1.length) ∧ ∀ i s, i < q.2 → ix q.1 i = some s → ClV t p q.1 s) (fun l => l.Nodup ∧ (∀ s ∈ l, Rch t p s) ∧ t.init ∈ l ∧ ∀ s ∈ l, ClV t p l s) (fun q => (801 - q.2).toNat) (s := ([t.init], 0)) ⟨by simp, by simpa using Rch.init, by simp, by simp, fun i s hi h => by have := (ix_lo h).1; dsimp only at hi; omega⟩ (fun ⟨l, a⟩ ⟨g1, g2, g3, g4, g5⟩ => by
    dsimp only at g1 g2 g3 g4 g5 ⊢
    have hlen := rch_len ht hp g1 g2
    unfold open_Visited_l1
    dsimp only
    by_cases c : a < l.length
    · rw [if_pos c]
      obtain ⟨s, hs, _⟩ := ix_of (l := l) g4.1 c
      have hrs := g2 s (ix_mem hs)
      have hset := hrs.set ht
      have hsl := hset.len
      rw [hs]
      simp only [Option.bind_some, (chosen_chO hp s).1, contains_eq hset.1 ht.goal.1 (show s.length ≤ 1000000 by omega)]
      have key : (if chO p s < 0 then some true else some (dec (∀ x ∈ t.goal, x ∈ s))) = some (dec (chO p s < 0 ∨ GoalS t s)) := by
        unfold GoalS
        rw [← ifOr]
        by_cases h : chO p s < 0
        · rw [if_pos h, ifP h]
        · rw [if_neg h, ifN h]
      rw [key]
      simp only [Option.bind_some]
      have fin : ∀ {l2 : List (List Int)}, Ext l l2 → ClV t p l2 s → ∀ i z, i < a + 1 → ix l2 i = some z → ClV t p l2 z := fun h1 h2 i z hi hz => by
        by_cases ei : i = a
        · subst ei
          rw [h1 _ _ hs] at hz; cases hz; exact h2
        · obtain ⟨y, hy, _⟩ := ix_of (l := l) (i := i) (ix_lo hz).1 (by omega)
          have := h1 _ _ hy
          rw [hz] at this; cases this
          exact fun q1 q2 y hy2 => h1.mem (g5 i z (by omega) hy q1 q2 y hy2)
      by_cases cs : chO p s < 0 ∨ GoalS t s
      · rw [ifP cs]
        simp only [Option.bind_some]
        rw [w64_of (by omega) (by omega)]
        refine .inl ⟨_, rfl, ⟨g1, g2, g3, by dsimp only; omega, fin (.refl _) fun q1 q2 => ?_⟩, by dsimp only; omega⟩
        rcases cs with c1 | c1
        · unfold LiveS at q2; omega
        · exact absurd c1 q1
      · rw [ifN cs]
        have hl : LiveS p s := by unfold LiveS; have := fun h => cs (.inl h); omega
        have hg : ¬ GoalS t s := fun h => cs (.inr h)
        have ho := live_op hp hl
        obtain ⟨st, w, r1, _, r3, _⟩ := oResults_eq ht ho.1.1 ho.1.2 hset
        rw [r1]
        simp only [Option.bind_some]
        obtain ⟨l2, e1, e2, e3, e4, e5⟩ := vis4 ht hp hrs hg hl (st := st) (w := w) (fun y => by rw [r3, nxS, List.mem_map]) g1 g2
        rw [e1]
        simp only [Option.bind_some]
        have := e4.len
        rw [w64_of (by omega) (by omega)]
        exact .inl ⟨_, rfl, ⟨e2, e3, e4.mem g3, by dsimp only; omega, fin e4 fun _ _ y hy => e5 y (by rw [r3]; exact List.mem_map.1 hy)⟩, by dsimp only; omega⟩
    · rw [if_neg c]
      refine .inr ⟨l, rfl, g1, g2, g3, fun s hs => ?_⟩
      obtain ⟨i, i0, i1, hi⟩ := mem_ix hs
      exact g5 i s (by omega) hi)
  rw [h1]
  simp only [Option.bind_some]
  have hlen := rch_len ht hp h2 h3
  obtain ⟨r, n1, n2, n3, n4⟩ := normal_eq (l := l) (by omega)
  rw [n1]
  exact ⟨r, rfl, vis_of n2 ((n3 _).2 h4) (fun s hs => h3 s ((n3 s).1 hs)) fun s hs q1 q2 y hy => (n3 y).2 (h5 s ((n3 s).1 hs) q1 q2 y hy)⟩
end Ab
end
section
namespace Ab
open Go
abbrev HtS (t : TOpenTask) (p : List TChoice) (k : Nat) (s : List Int) : Prop := Ht (GoalS t) (LiveS p) (nxS t p) k s
theorem Vis.closed {t : TOpenTask} {p : List TChoice} {l : List (List Int)} (h : Vis t p l) : ∀ s ∈ l, ¬ GoalS t s → LiveS p s → ∀ y ∈ nxS t p s, y ∈ l := fun s hs hg hl y hy => (h.mem y).2 (.step ((h.mem s).1 hs) hg hl hy)
theorem Vis.len {t : TOpenTask} (ht : OTaskOk t) {p : List TChoice} (hp : PolOk t p) {l : List (List Int)} (h : Vis t p l) : l.length ≤ 801 := rch_len ht hp h.ord.nodup fun s hs => (h.mem s).1 hs
/-- A value at a state of an ordered list. -/
theorem find_eq {l : List (List Int)} (ho : Ord l) (hl : l.length ≤ 500000) {s : List Int} {i : Int} (hi : ix l i = some s) : open_Find l s = some i := by
  unfold open_Find
  obtain ⟨k, h1, _, h3⟩ := bsets_eq (t := s) ho hl
  rw [h1, h3 i hi]; rfl
/-- Values that are known are the exact ones. -/
structure ValOk (t : TOpenTask) (p : List TChoice) (l : List (List Int)) (v : List Int) : Prop where
  len : v.length = l.length
  val : ∀ i s x, ix l i = some s → ix v i = some x → x = -1 ∨ ∃ k : Nat, x = k ∧ HtS t p k s
  goal : ∀ i s x, ix l i = some s → ix v i = some x → GoalS t s → x = 0
theorem ValOk.m1 {t : TOpenTask} {p : List TChoice} {l : List (List Int)} {v : List Int} (h : ValOk t p l v) : ∀ x ∈ v, -1 ≤ x := fun x hx => by
  obtain ⟨i, i0, i1, hi⟩ := mem_ix hx
  obtain ⟨s, hs, _⟩ := ix_of (l := l) i0 (by have := h.len; omega)
  rcases h.val i s x hs hi with e | ⟨k, e, _⟩ <;> omega
/-- What is known stays. -/
def Stays (v v' : List Int) : Prop := ∀ i x, ix v i = some x → x ≠ -1 → ix v' i = some x
theorem Stays.known {v v' : List Int} (h : Stays v v') (hl : v'.length = v.length) {i : Int} (hn : ix v i ≠ some (-1)) : ix v' i ≠ some (-1) := fun he => by
  obtain ⟨i0, i1, _⟩ := ix_lo he
  obtain ⟨x, hx, _⟩ := ix_of (l := v) i0 (by omega)
  have hne : x ≠ -1 := fun e => hn (e ▸ hx)
  rw [h i x hx hne] at he
  exact hne (Option.some.inj he)
theorem contains1_eq {l : List Int} {s : Int} : slices_Contains_int_int l s = some (dec (s ∈ l)) := by
  unfold slices_Contains_int_int slices_Index_int_int
  rcases rngX_test (body := slices_Index_int_int_l1 l s) (n := (l.length : Int)) (fun j => if dec (ix l j = some s) = true then some j else none) (by omega) (fun j h0 h1 _ => by
    obtain ⟨x, hx, _⟩ := ix_of (l := l) h0 h1
    unfold slices_Index_int_int_l1
    rw [hx]
    simp only [Option.bind_some]
    by_cases e : s = x
    · rw [if_pos e, ifP (by rw [e])]
    · rw [if_neg e, ifN (by simpa using fun h => e h.symm)]) with ⟨h1, h2⟩ | ⟨j, o, h0, h1, h2, h3, h4⟩
  · rw [h1]
    simp only [Option.bind_some]
    rw [dec_no]
    · rfl
    · intro hs
      obtain ⟨i, i0, i1, hi⟩ := mem_ix hs
      have := h2 i i0 i1
      rw [ifP hi] at this
      cases this
  · rw [h4]
    split at h2
    · rename_i e
      cases h2
      simp only [Option.bind_some]
      rw [dec_of (ix_mem (dec_true.1 e)), decide_eq_true h0]
    · cases h2
end Ab
end
section
namespace Ab
open Go
theorem set01 : SetN [0] 1 := setN1 0 (by decide) (by decide)
theorem one_rng {S O : Type} {body : Int → S → Option (S ⊕ O)} {s : S} {x : S ⊕ O} (h : body 0 s = some x) : rngX 0 1 body s = some x := by
  unfold rngX
  rw [show ((1 : Int) - 0).toNat = 1 from rfl]
  simp only [rngN, h]
  cases x <;> rfl
theorem choices_self (p : List TChoice) : ref8_Choices p p = some true := by
  unfold ref8_Choices
  rw [if_pos rfl, rngX_all (by omega) fun j j0 j1 => by
    obtain ⟨c, hc, _⟩ := ix_of (l := p) j0 j1
    unfold ref8_Choices_l1
    rw [hc]
    simp only [Option.bind_some, decide_true, Bool.not_true, Bool.false_eq_true, if_false, ints_eq, dec_of]]
  rfl
end Ab
end
section
namespace Ab
open Go
end Ab
end
section
namespace Ab
open Go
end Ab
end
