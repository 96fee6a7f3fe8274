/-
  Texts that the proof stands on.
-/
import Derived.Test.YtfjhmljchkhpnaaDoorKRwRepNear3
set_option linter.all false
section
namespace Ab
open Go Go.Proofs
set_option maxHeartbeats 4000000
set_option linter.all false
attribute [local irreducible] AWP AOps thn inB Done PureOk FreshOk Sub
theorem repair_Distance_ok {av : List Int} {bv : List Int} {r : Int × TFault} (h : repair_Distance av bv = some r) : PureOk Tryd.prog 7 [.c (row 1 intI av), .c (row 1 intI bv)] (.tup [.c (int r.1), .agg [int r.2.code, int r.2.index]]) := by
 unfold PureOk
 refine FnOk.enter (rs := [.t 4, .cell 5 24 2]) Tryd.func7 rfl Tryd.ntmps7 Tryd.results7 rfl ⟨trivial, rv _ rfl, trivial⟩ (by kernel_rfl) rfl ?_
 unfold repair_Distance at h
 refine AWP.seq (.region (.assign rfl rfl (W.alloc rfl rfl rfl rfl (.nil (thn_normal (.seq (.seqJ (⟨[(0, .c (row 1 intI av)), (1, .c (row 1 intI bv)), (5, .c (.ptr 0 0 0)), (21, .c (bool ((decide (60 < (av.length : Int))) || (decide (60 < (bv.length : Int))))))], [.one (.cells 2 [[int 0, int 0]])]⟩) ?_ ?_)))))))
 ·rcases Bool.eq_false_or_eq_true (decide (60 < (av.length : Int))) with hb1 | hb1
  ·refine AWP.region (.move rfl rfl (S.len rfl rfl (fun hl15 => .gtr rfl rfl rfl (.move rfl rfl (.guardF rfl rfl rfl hb1 (.guardF rfl rfl rfl hb1 (.guardF rfl rfl rfl hb1 (.pickT rfl hb1 rfl rfl (.nil (thn_normal ?_))))))))))
   simp only [and_t hb1, or_t hb1, Bool.false_or, Bool.true_or, Bool.false_and, Bool.true_and]
   exact Sub.env ⟨rfl, rfl, rfl, rfl, trivial⟩
  ·refine AWP.region (.move rfl rfl (S.len rfl rfl (fun hl15 => .gtr rfl rfl rfl (.move rfl rfl (.guardT rfl rfl rfl hb1 (.move rfl rfl ?_))))))
   refine AOps.guardT rfl rfl rfl hb1 ?_; refine S.len rfl rfl (fun hl19 => ?_)
   refine AOps.guardT rfl rfl rfl hb1 (.gtr rfl rfl rfl (.pickF rfl hb1 rfl rfl (.nil (thn_normal ?_))))
   simp only [and_f hb1, or_f hb1, Bool.false_or, Bool.true_or, Bool.false_and, Bool.true_and]
   exact Sub.env ⟨rfl, rfl, rfl, rfl, trivial⟩
 ·refine AWP.iteB rfl h (fun hc3 h => ?_) (fun hc3 h => ?_)
  ·refine AWP.seq (.region (W.build rfl rfl rfl rfl (.assign rfl rfl (W.storeAgg rfl rfl rfl rfl rfl rfl rfl (.nil (thn_normal (.ret (thn_ret ?_))))))))
   have ej := Option.some.inj h
   subst ej
   exact Done.ret rfl rfl
  ·refine AWP.skip (thn_normal (.seq ?_))
   obtain ⟨a26, ha26, h⟩ := bind_some h
   refine AWP.region (.move rfl rfl (S.len rfl rfl (fun hl24 => S.add rfl rfl rfl (S.make (f := intI) ha26 (.val .nil) rfl rfl rfl rfl rfl rfl (.assign rfl rfl (.nil (thn_normal (.seq (.seq (.region (.move rfl rfl (S.lenO rfl rfl rfl (fun hl28 => .move rfl rfl (.nil (thn_normal (.block ?_))))))))))))))))
   obtain ⟨c4, ho1, h⟩ := bind_some h
   refine AWP.forS ho1 (fun t5 c4 => ⟨[(0, .c (row 1 intI av)), (1, .c (row 1 intI bv)), (5, .c (.ptr 0 0 0)), (6, .c (.own 1 0 c4.length)), (28, .c (int (a26.length : Int))), (29, .c (int t5))], [.one (.cells 2 [[int 0, int 0]]), .one (vec 1 intI c4)]⟩) (fun c4 e st => e = .exit 0 ∧ Sub [] st ⟨[(0, .c (row 1 intI av)), (1, .c (row 1 intI bv)), (5, .c (.ptr 0 0 0)), (6, .c (.own 1 0 c4.length))], [.one (.cells 2 [[int 0, int 0]]), .one (vec 1 intI c4)]⟩) ?_ ?_ ?_ ?_
   ·try dsimp only
    exact Sub.env ⟨rfl, rfl, rfl, rfl, rfl, rfl, trivial⟩
   ·intro t5 c4 hlot5 hltt5 _
    try dsimp only
    refine AWP.seq (.region (.lss rfl rfl rfl (.nil (thn_normal (.seq (.condNP rfl hltt5 (.exit (thn_exit (thn_exit ⟨rfl, ?_⟩)))))))))
    exact Sub.env ⟨rfl, rfl, rfl, rfl, trivial⟩
   ·intro t5 c4 o hlot5 hltt5 h
    unfold repair_Distance_l1 at h
    try dsimp only at h ⊢
    refine AWP.seq (.region (.lss rfl rfl rfl (.nil (thn_normal (.seq (.condP rfl hltt5 (.skip (thn_normal (.seq (.block (.seq (.region (.move rfl rfl (.assign rfl rfl (.nil (thn_normal ?_))))))))))))))))
    obtain ⟨a35, ha35, h⟩ := bind_some h
    refine AWP.region (.move rfl rfl (.move rfl rfl (.move rfl rfl (S.idxO ha35 rfl rfl rfl rfl rfl (S.storeO1 (f := intI) (a' := t5) (ix_lt ha35) (fun _ => ⟨_, rfl⟩) rfl rfl rfl rfl rfl ?_)))))
    refine AOps.nil (inB_normal (thn_normal (.region (.add rfl rfl rfl (by omega) (.move rfl rfl (.nil ?_))))))
    have ej := Option.some.inj h
    subst ej
    refine thn_normal (Sub.env ⟨rfl, rfl, rfl, (own_len (by first | rfl | simp only [List.length_set])), rfl, rfl, trivial⟩)
   ·intro e s hq
    obtain ⟨rfl, hs⟩ := hq
    refine ⟨_, hs, ?_⟩
    refine inB_exit (thn_normal (.seq (.seq (.region (.move rfl rfl (S.len rfl rfl (fun hl38 => .move rfl rfl (.nil (thn_normal (.block ?_))))))))))
    obtain ⟨c6, ho2, h⟩ := bind_some h
    refine AWP.forS ho2 (fun t7 c6 => ⟨[(1, .c (row 1 intI bv)), (5, .c (.ptr 0 0 0)), (6, .c (.own 1 0 c6.length)), (37, .c (row 1 intI av)), (38, .c (int (av.length : Int))), (39, .c (int t7))], [.one (.cells 2 [[int 0, int 0]]), .one (vec 1 intI c6)]⟩) (fun c6 e st => e = .exit 2 ∧ Sub [] st ⟨[(1, .c (row 1 intI bv)), (5, .c (.ptr 0 0 0)), (6, .c (.own 1 0 c6.length))], [.one (.cells 2 [[int 0, int 0]]), .one (vec 1 intI c6)]⟩) ?_ ?_ ?_ ?_
    ·try dsimp only
     exact Sub.env ⟨rfl, rfl, rfl, rfl, rfl, rfl, trivial⟩
    ·intro t7 c6 hlot7 hltt7 _
     try dsimp only
     refine AWP.seq (.region (.lss rfl rfl rfl (.nil (thn_normal (.seq (.condNP rfl hltt7 (.exit (thn_exit (thn_exit ⟨rfl, ?_⟩)))))))))
     exact Sub.env ⟨rfl, rfl, rfl, trivial⟩
    ·intro t7 c6 o hlot7 hltt7 h
     unfold repair_Distance_l2 at h
     try dsimp only at h ⊢
     refine AWP.seq (.region (.lss rfl rfl rfl (.nil (thn_normal (.seq (.condP rfl hltt7 (.skip (thn_normal (.seq (.block (.seq ?_)))))))))))
     obtain ⟨a41, ha41, h⟩ := bind_some h
     refine AWP.region (S.idx ha41 rfl rfl rfl rfl (.loadI rfl rfl rfl rfl (.assign rfl rfl (.nil (thn_normal (.seq ?_))))))
     obtain ⟨a44, ha44, h⟩ := bind_some h
     refine AWP.region (.move rfl rfl (S.idxO ha44 rfl rfl rfl rfl rfl (S.loadO ha44 rfl rfl rfl rfl rfl (.assign rfl rfl (.nil (thn_normal (.seq ?_)))))))
     obtain ⟨a47, ha47, h⟩ := bind_some h
     obtain ⟨a50, ha50, h⟩ := bind_some h
     refine AWP.region (.move rfl rfl (S.idxO ha47 rfl rfl rfl rfl rfl (S.loadO ha47 rfl rfl rfl rfl rfl (S.add rfl rfl rfl (S.idxO ha50 rfl rfl rfl rfl rfl (S.storeO1 (f := intI) (a' := w64 (a47 + 1)) (ix_lt ha50) (fun _ => ⟨_, rfl⟩) rfl rfl rfl rfl rfl ?_))))))
     refine AOps.nil (thn_normal (.seq (.region (.move rfl rfl (S.len rfl rfl (fun hl52 => .move rfl rfl (.nil (thn_normal (.block ?_)))))))))
     obtain ⟨⟨c8, diagonal9⟩, ho3, h⟩ := bind_some h
     try dsimp only at h
     refine AWP.forS ho3 (fun t10 (c8, diagonal9) => ⟨[(1, .c (row 1 intI bv)), (5, .c (.ptr 0 0 0)), (6, .c (.own 1 0 c8.length)), (9, .c (int a41)), (10, .c (int diagonal9)), (37, .c (row 1 intI av)), (38, .c (int (av.length : Int))), (39, .c (int t7)), (51, .c (row 1 intI bv)), (52, .c (int (bv.length : Int))), (53, .c (int t10))], [.one (.cells 2 [[int 0, int 0]]), .one (vec 1 intI c8)]⟩) (fun (c8, diagonal9) e st => e = .exit 4 ∧ Sub [] st ⟨[(1, .c (row 1 intI bv)), (5, .c (.ptr 0 0 0)), (6, .c (.own 1 0 c8.length)), (37, .c (row 1 intI av)), (38, .c (int (av.length : Int))), (39, .c (int t7))], [.one (.cells 2 [[int 0, int 0]]), .one (vec 1 intI c8)]⟩) ?_ ?_ ?_ ?_
     ·try dsimp only
      exact Sub.env ⟨rfl, rfl, (own_len (by first | rfl | simp only [List.length_set])), rfl, rfl, rfl, rfl, rfl, rfl, rfl, rfl, trivial⟩
     ·intro t10 s hlot10 hltt10 _
      obtain ⟨c8, diagonal9⟩ := s
      try dsimp only
      refine AWP.seq (.region (.lss rfl rfl rfl (.nil (thn_normal (.seq (.condNP rfl hltt10 (.exit (thn_exit (thn_exit ⟨rfl, ?_⟩)))))))))
      exact Sub.env ⟨rfl, rfl, rfl, rfl, rfl, rfl, trivial⟩
     ·intro t10 s o hlot10 hltt10 h
      obtain ⟨c8, diagonal9⟩ := s
      unfold repair_Distance_l3 at h
      try dsimp only at h ⊢
      refine AWP.seq (.region (.lss rfl rfl rfl (.nil (thn_normal (.seq (.condP rfl hltt10 (.skip (thn_normal (.seq (.block (.seq ?_)))))))))))
      obtain ⟨a56, ha56, h⟩ := bind_some h
      refine AWP.region (.move rfl rfl (S.idx ha56 rfl rfl rfl rfl (.loadI rfl rfl rfl rfl (.assign rfl rfl (.assign rfl rfl (.nil (thn_normal (.seq ?_))))))))
      obtain ⟨a60, ha60, h⟩ := bind_some h
      obtain ⟨a65, ha65, h⟩ := bind_some h
      refine AWP.drawI mixed rfl ?_
      apply DrawSeq.consF; exact rfl; intro E
      refine AOps.move rfl rfl (.nil ⟨rfl, rfl⟩)
      exact rfl
      apply DrawSeq.consF; exact rfl; intro E
      refine AOps.move rfl rfl (.nil ⟨rfl, rfl⟩)
      exact rfl
      apply DrawSeq.consF; exact rfl; intro E
      refine S.idxO ha60 rfl rfl rfl rfl rfl (.nil ⟨rfl, rfl⟩)
      exact rfl
      apply DrawSeq.consF; exact rfl; intro E
      refine S.loadO ha60 rfl rfl rfl rfl rfl (.nil ⟨rfl, rfl⟩)
      exact rfl
      apply DrawSeq.consF; exact rfl; intro E
      refine AOps.move rfl rfl (.nil ⟨rfl, rfl⟩)
      exact rfl
      apply DrawSeq.consF; exact rfl; intro E
      refine AOps.move rfl rfl (.nil ⟨rfl, rfl⟩)
      exact rfl
      apply DrawSeq.consF; exact rfl; intro E
      refine AOps.add rfl rfl rfl (by omega) (.nil ⟨rfl, rfl⟩)
      exact rfl
      apply DrawSeq.consF; exact rfl; intro E
      refine S.idxO ha65 rfl rfl rfl rfl rfl (.nil ⟨rfl, rfl⟩)
      exact rfl
      apply DrawSeq.consF; exact rfl; intro E
      refine S.loadO ha65 rfl rfl rfl rfl rfl (.nil ⟨rfl, rfl⟩)
      exact rfl
      apply DrawSeq.consF; exact rfl; intro E
      refine AOps.min2 rfl rfl rfl (.nil ⟨rfl, rfl⟩)
      exact rfl
      apply DrawSeq.consF; exact rfl; intro E
      refine S.add rfl rfl rfl (.nil ⟨rfl, rfl⟩)
      exact rfl
      apply DrawSeq.consF; exact rfl; intro E
      refine AOps.assign rfl rfl (.nil ⟨rfl, rfl⟩)
      exact rfl
      refine DrawSeq.done ?_
      dsimp only [envEnd]
      refine thn_normal ?_
      obtain ⟨nv11, hx12, h⟩ := bind_some h
      refine AWP.seqJ (⟨[(1, .c (row 1 intI bv)), (5, .c (.ptr 0 0 0)), (6, .c (.own 1 0 c8.length)), (9, .c (int a41)), (11, .c (int t10)), (13, .c (int nv11)), (37, .c (row 1 intI av)), (38, .c (int (av.length : Int))), (39, .c (int t7)), (51, .c (row 1 intI bv)), (52, .c (int (bv.length : Int))), (53, .c (int t10))], [.one (.cells 2 [[int 0, int 0]]), .one (vec 1 intI c8)]⟩) ?_ ?_
      ·refine AWP.seq (.region (.move rfl rfl (.move rfl rfl (.eql rfl rfl rfl (.nil (thn_normal (.ite rfl hx12 (fun hc13 hx12 => ?_) (fun hc13 hx12 => ?_))))))))
       ·refine AWP.region (.move rfl rfl (.move rfl rfl (.min2 rfl rfl rfl (.assign rfl rfl (.nil ?_)))))
        have ej := Option.some.inj hx12
        subst ej
        refine thn_normal (Sub.env ⟨rfl, rfl, rfl, rfl, rfl, rfl, rfl, rfl, rfl, rfl, rfl, rfl, trivial⟩)
       ·refine AWP.skip ?_
        have ej := Option.some.inj hx12
        subst ej
        refine thn_normal (Sub.env ⟨rfl, rfl, rfl, rfl, rfl, rfl, rfl, rfl, rfl, rfl, rfl, rfl, trivial⟩)
      ·obtain ⟨a81, ha81, h⟩ := bind_some h
       obtain ⟨a84, ha84, h⟩ := bind_some h
       refine AWP.region (.move rfl rfl (.move rfl rfl (.add rfl rfl rfl (by omega) (.move rfl rfl (.move rfl rfl (.add rfl rfl rfl (by omega) (S.idxO ha81 rfl rfl rfl rfl rfl (S.loadO ha81 rfl rfl rfl rfl rfl (.move rfl rfl (.assign rfl rfl (S.idxO ha84 rfl rfl rfl rfl rfl (S.storeO1 (f := intI) (a' := nv11) (ix_lt ha84) (fun _ => ⟨_, rfl⟩) rfl rfl rfl rfl rfl ?_))))))))))))
       refine AOps.nil (inB_normal (thn_normal (.region (.add rfl rfl rfl (by omega) (.move rfl rfl (.nil ?_))))))
       have ej := Option.some.inj h
       subst ej
       refine thn_normal (Sub.env ⟨rfl, rfl, (own_len (by first | rfl | simp only [List.length_set])), rfl, rfl, rfl, rfl, rfl, rfl, rfl, rfl, trivial⟩)
     ·intro e s hq
      obtain ⟨rfl, hs⟩ := hq
      refine ⟨_, hs, ?_⟩
      refine inB_exit (inB_normal (thn_normal (.region (.add rfl rfl rfl (by omega) (.move rfl rfl (.nil ?_))))))
      have ej := Option.some.inj h
      subst ej
      refine thn_normal (Sub.env ⟨rfl, rfl, rfl, rfl, rfl, rfl, trivial⟩)
    ·intro e s hq
     obtain ⟨rfl, hs⟩ := hq
     refine ⟨_, hs, ?_⟩
     refine inB_exit (thn_normal (.seq ?_))
     obtain ⟨a90, ha90, h⟩ := bind_some h
     refine AWP.region (.move rfl rfl (.move rfl rfl (S.len rfl rfl (fun hl89 => S.idxO ha90 rfl rfl rfl rfl rfl (S.loadO ha90 rfl rfl rfl rfl rfl (W.build rfl rfl rfl rfl (.assign rfl rfl (W.storeAgg rfl rfl rfl rfl rfl rfl rfl (.nil (thn_normal (.ret ?_)))))))))))
     have ej := Option.some.inj h
     subst ej
     exact Done.ret rfl rfl
theorem law8_step_ok {r : TTask} (h : law8_step = some r) : PureOk Tryd.prog 14 [] (.agg [int r.facts, row 1 intI r.init, row 1 intI r.goal, row 4 eTOperator r.operators]) := by
 unfold PureOk
 refine FnOk.enter (rs := [.cell 0 34 4]) Tryd.func14 rfl Tryd.ntmps14 Tryd.results14 rfl ⟨rv _ rfl, trivial⟩ (by kernel_rfl) rfl ?_
 unfold law8_step at h
 refine AWP.seq (.region (W.alloc rfl rfl rfl rfl (.nil (thn_normal (.seq (.region (S.lit (f := intI) (l := [0]) (ess := [[int 0]]) rfl rfl rfl rfl rfl rfl rfl ⟨⟨.inl rfl, trivial⟩, trivial⟩ rfl rfl rfl (S.lit (f := intI) (l := [1]) (ess := [[int 1]]) rfl rfl rfl rfl rfl rfl rfl ⟨⟨.inl rfl, trivial⟩, trivial⟩ rfl rfl rfl (S.lit (f := intI) (l := [0]) (ess := [[int 0]]) rfl rfl rfl rfl rfl rfl rfl ⟨⟨.inl rfl, trivial⟩, trivial⟩ rfl rfl rfl (S.lit (f := intI) (l := [1]) (ess := [[int 1]]) rfl rfl rfl rfl rfl rfl rfl ⟨⟨.inl rfl, trivial⟩, trivial⟩ rfl rfl rfl (S.lit (f := intI) (l := [0]) (ess := [[int 0]]) rfl rfl rfl rfl rfl rfl rfl ⟨⟨.inl rfl, trivial⟩, trivial⟩ rfl rfl rfl (W.build rfl rfl rfl rfl (S.lit (f := intI) (l := [1]) (ess := [[int 1]]) rfl rfl rfl rfl rfl rfl rfl ⟨⟨.inl rfl, trivial⟩, trivial⟩ rfl rfl rfl (W.build rfl rfl rfl rfl ?_))))))))))))))
 refine AOps.frzV (id := 3) (l := [0]) (env2 := [(0, .c (.ptr 0 0 0)), (1, .c (.own 1 0 ([0].length))), (2, .c (.own 2 0 ([1].length))), (6, .agg [row 1 intI [0], .own 4 0 ([1].length), .own 5 0 ([0].length), int 1]), (8, .agg [.imm (.val (.slice none 0 0)), .own 6 0 ([1].length), .imm (.val (.slice none 0 0)), int 3])]) (σ2 := [.one (.cells 4 [[int 0, .imm (.val (.slice none 0 0)), .imm (.val (.slice none 0 0)), .imm (.val (.slice none 0 0))]]), .one (vec 1 intI [0]), .one (vec 1 intI [1]), .dead, .one (vec 1 intI [1]), .one (vec 1 intI [0]), .one (vec 1 intI [1])]) rfl rfl (by exact ⟨⟨_, rfl, .inl ⟨rfl, rfl⟩⟩, ⟨_, rfl, .inl ⟨rfl, rfl⟩⟩, ⟨_, rfl, .inl ⟨rfl, rfl⟩⟩, ⟨_, rfl, ⟨.inr ⟨_, rfl, rfl, rfl⟩, .inl ⟨rfl, rfl⟩, .inl ⟨rfl, rfl⟩, .inl ⟨rfl, rfl⟩, trivial⟩⟩, ⟨_, rfl, ⟨.inl ⟨rfl, rfl⟩, .inl ⟨rfl, rfl⟩, .inl ⟨rfl, rfl⟩, .inl ⟨rfl, rfl⟩, trivial⟩⟩, trivial⟩) rfl (by exact ⟨⟨rfl, .inl ⟨rfl, rfl⟩, .inl ⟨rfl, rfl⟩, .inl ⟨rfl, rfl⟩, .inl ⟨rfl, rfl⟩, trivial⟩, FrzB.vec, FrzB.vec, trivial, FrzB.vec, FrzB.vec, FrzB.vec, trivial⟩) ?_; refine AOps.frzV (id := 4) (l := [1]) (env2 := [(0, .c (.ptr 0 0 0)), (1, .c (.own 1 0 ([0].length))), (2, .c (.own 2 0 ([1].length))), (6, .agg [row 1 intI [0], row 1 intI [1], .own 5 0 ([0].length), int 1]), (8, .agg [.imm (.val (.slice none 0 0)), .own 6 0 ([1].length), .imm (.val (.slice none 0 0)), int 3])]) (σ2 := [.one (.cells 4 [[int 0, .imm (.val (.slice none 0 0)), .imm (.val (.slice none 0 0)), .imm (.val (.slice none 0 0))]]), .one (vec 1 intI [0]), .one (vec 1 intI [1]), .dead, .dead, .one (vec 1 intI [0]), .one (vec 1 intI [1])]) rfl rfl (by exact ⟨⟨_, rfl, .inl ⟨rfl, rfl⟩⟩, ⟨_, rfl, .inl ⟨rfl, rfl⟩⟩, ⟨_, rfl, .inl ⟨rfl, rfl⟩⟩, ⟨_, rfl, ⟨.inl ⟨rfl, rfl⟩, .inr ⟨_, rfl, rfl, rfl⟩, .inl ⟨rfl, rfl⟩, .inl ⟨rfl, rfl⟩, trivial⟩⟩, ⟨_, rfl, ⟨.inl ⟨rfl, rfl⟩, .inl ⟨rfl, rfl⟩, .inl ⟨rfl, rfl⟩, .inl ⟨rfl, rfl⟩, trivial⟩⟩, trivial⟩) rfl (by exact ⟨⟨rfl, .inl ⟨rfl, rfl⟩, .inl ⟨rfl, rfl⟩, .inl ⟨rfl, rfl⟩, .inl ⟨rfl, rfl⟩, trivial⟩, FrzB.vec, FrzB.vec, trivial, trivial, FrzB.vec, FrzB.vec, trivial⟩) ?_; refine AOps.frzV (id := 5) (l := [0]) (env2 := [(0, .c (.ptr 0 0 0)), (1, .c (.own 1 0 ([0].length))), (2, .c (.own 2 0 ([1].length))), (6, .agg [row 1 intI [0], row 1 intI [1], row 1 intI [0], int 1]), (8, .agg [.imm (.val (.slice none 0 0)), .own 6 0 ([1].length), .imm (.val (.slice none 0 0)), int 3])]) (σ2 := [.one (.cells 4 [[int 0, .imm (.val (.slice none 0 0)), .imm (.val (.slice none 0 0)), .imm (.val (.slice none 0 0))]]), .one (vec 1 intI [0]), .one (vec 1 intI [1]), .dead, .dead, .dead, .one (vec 1 intI [1])]) rfl rfl (by exact ⟨⟨_, rfl, .inl ⟨rfl, rfl⟩⟩, ⟨_, rfl, .inl ⟨rfl, rfl⟩⟩, ⟨_, rfl, .inl ⟨rfl, rfl⟩⟩, ⟨_, rfl, ⟨.inl ⟨rfl, rfl⟩, .inl ⟨rfl, rfl⟩, .inr ⟨_, rfl, rfl, rfl⟩, .inl ⟨rfl, rfl⟩, trivial⟩⟩, ⟨_, rfl, ⟨.inl ⟨rfl, rfl⟩, .inl ⟨rfl, rfl⟩, .inl ⟨rfl, rfl⟩, .inl ⟨rfl, rfl⟩, trivial⟩⟩, trivial⟩) rfl (by exact ⟨⟨rfl, .inl ⟨rfl, rfl⟩, .inl ⟨rfl, rfl⟩, .inl ⟨rfl, rfl⟩, .inl ⟨rfl, rfl⟩, trivial⟩, FrzB.vec, FrzB.vec, trivial, trivial, trivial, FrzB.vec, trivial⟩) ?_; refine AOps.frzV (id := 6) (l := [1]) (env2 := [(0, .c (.ptr 0 0 0)), (1, .c (.own 1 0 ([0].length))), (2, .c (.own 2 0 ([1].length))), (6, .agg [row 1 intI [0], row 1 intI [1], row 1 intI [0], int 1]), (8, .agg [.imm (.val (.slice none 0 0)), row 1 intI [1], .imm (.val (.slice none 0 0)), int 3])]) (σ2 := [.one (.cells 4 [[int 0, .imm (.val (.slice none 0 0)), .imm (.val (.slice none 0 0)), .imm (.val (.slice none 0 0))]]), .one (vec 1 intI [0]), .one (vec 1 intI [1]), .dead, .dead, .dead, .dead]) rfl rfl (by exact ⟨⟨_, rfl, .inl ⟨rfl, rfl⟩⟩, ⟨_, rfl, .inl ⟨rfl, rfl⟩⟩, ⟨_, rfl, .inl ⟨rfl, rfl⟩⟩, ⟨_, rfl, ⟨.inl ⟨rfl, rfl⟩, .inl ⟨rfl, rfl⟩, .inl ⟨rfl, rfl⟩, .inl ⟨rfl, rfl⟩, trivial⟩⟩, ⟨_, rfl, ⟨.inl ⟨rfl, rfl⟩, .inr ⟨_, rfl, rfl, rfl⟩, .inl ⟨rfl, rfl⟩, .inl ⟨rfl, rfl⟩, trivial⟩⟩, trivial⟩) rfl (by exact ⟨⟨rfl, .inl ⟨rfl, rfl⟩, .inl ⟨rfl, rfl⟩, .inl ⟨rfl, rfl⟩, .inl ⟨rfl, rfl⟩, trivial⟩, FrzB.vec, FrzB.vec, trivial, trivial, trivial, trivial, trivial⟩) ?_; refine S.lit (f := eTOperator) (l := [(⟨[0], [1], [0], 1⟩ : TOperator), (⟨[], [1], [], 3⟩ : TOperator)]) (ess := [[row 1 intI [0], row 1 intI [1], row 1 intI [0], int 1], [.imm (.val (.slice none 0 0)), row 1 intI [1], .imm (.val (.slice none 0 0)), int 3]]) rfl rfl rfl rfl rfl rfl rfl ⟨⟨.inl rfl, .inl rfl, .inl rfl, .inl rfl, trivial⟩, ⟨.inr ⟨rfl, _, rfl⟩, .inl rfl, .inr ⟨rfl, _, rfl⟩, .inl rfl, trivial⟩, trivial⟩ rfl rfl rfl ?_
 refine W.build rfl rfl rfl rfl (W.storeAgg rfl rfl rfl rfl rfl rfl rfl (.nil (thn_normal (.frzV (id := 1) (l := [0]) (env2 := [(0, .c (.ptr 0 0 0))]) (σ2 := [.one (.cells 4 [[int 2, row 1 intI [0], .own 2 0 ([1].length), .own 7 0 (([(⟨[0], [1], [0], 1⟩ : TOperator), (⟨[], [1], [], 3⟩ : TOperator)]).length)]]), .dead, .one (vec 1 intI [1]), .dead, .dead, .dead, .dead, .one (vec 4 eTOperator ([(⟨[0], [1], [0], 1⟩ : TOperator), (⟨[], [1], [], 3⟩ : TOperator)]))]) rfl rfl (by exact ⟨⟨_, rfl, .inl ⟨rfl, rfl⟩⟩, trivial⟩) rfl (by exact ⟨⟨rfl, .inl ⟨rfl, rfl⟩, .inr ⟨_, rfl, rfl, rfl⟩, .inl ⟨rfl, rfl⟩, .inl ⟨rfl, rfl⟩, trivial⟩, trivial, FrzB.vec, trivial, trivial, trivial, trivial, FrzB.vec, trivial⟩) (.frzV (id := 2) (l := [1]) (env2 := [(0, .c (.ptr 0 0 0))]) (σ2 := [.one (.cells 4 [[int 2, row 1 intI [0], row 1 intI [1], .own 7 0 (([(⟨[0], [1], [0], 1⟩ : TOperator), (⟨[], [1], [], 3⟩ : TOperator)]).length)]]), .dead, .dead, .dead, .dead, .dead, .dead, .one (vec 4 eTOperator ([(⟨[0], [1], [0], 1⟩ : TOperator), (⟨[], [1], [], 3⟩ : TOperator)]))]) rfl rfl (by exact ⟨⟨_, rfl, .inl ⟨rfl, rfl⟩⟩, trivial⟩) rfl (by exact ⟨⟨rfl, .inl ⟨rfl, rfl⟩, .inl ⟨rfl, rfl⟩, .inr ⟨_, rfl, rfl, rfl⟩, .inl ⟨rfl, rfl⟩, trivial⟩, trivial, trivial, trivial, trivial, trivial, trivial, FrzB.vec, trivial⟩) (.frzV (id := 7) (l := [(⟨[0], [1], [0], 1⟩ : TOperator), (⟨[], [1], [], 3⟩ : TOperator)]) (env2 := [(0, .c (.ptr 0 0 0))]) (σ2 := [.one (.cells 4 [[int 2, row 1 intI [0], row 1 intI [1], row 4 eTOperator ([(⟨[0], [1], [0], 1⟩ : TOperator), (⟨[], [1], [], 3⟩ : TOperator)])]]), .dead, .dead, .dead, .dead, .dead, .dead, .dead]) rfl rfl (by exact ⟨⟨_, rfl, .inl ⟨rfl, rfl⟩⟩, trivial⟩) rfl (by exact ⟨⟨rfl, .inl ⟨rfl, rfl⟩, .inl ⟨rfl, rfl⟩, .inl ⟨rfl, rfl⟩, .inr ⟨_, rfl, rfl, rfl⟩, trivial⟩, trivial, trivial, trivial, trivial, trivial, trivial, trivial, trivial⟩) (.ret ?_)))))))
 have ej := Option.some.inj h
 subst ej
 exact Done.ret rfl rfl
theorem strips_IsSet_ok {l : List Int} {nv : Int} {r : Bool} (h : strips_IsSet l nv = some r) : PureOk Tryd.prog 36 [.c (row 1 intI l), .c (int nv)] (.c (bool r)) := by
 unfold PureOk
 refine FnOk.enter (rs := [.t 4]) Tryd.func36 rfl Tryd.ntmps36 Tryd.results36 rfl ⟨trivial, trivial⟩ (by kernel_rfl) rfl ?_
 unfold strips_IsSet at h
 refine AWP.seq (.region (.assign rfl rfl (.nil (thn_normal (.seq (.seq (.region (.move rfl rfl (S.len rfl rfl (fun hl8 => .move rfl rfl (.nil (thn_normal (.block ?_)))))))))))))
 obtain ⟨oo, ho1, h⟩ := bind_some h
 refine AWP.rngS ho1 (fun t3 _ => ⟨[(0, .c (row 1 intI l)), (1, .c (int nv)), (7, .c (row 1 intI l)), (8, .c (int (l.length : Int))), (9, .c (int t3))], []⟩) (fun o e st => match o with | .inl _ => e = .exit 0 ∧ Sub [] st ⟨[], []⟩ | .inr x => e = .ret ∧ Done [.t 4] (fun t _ => t = .c (bool x)) .ret st) ?_ ?_ ?_ ?_
 ·try dsimp only
  exact Sub.env ⟨rfl, rfl, rfl, rfl, rfl, trivial⟩
 ·intro t3 s hlot3 hltt3 _
  try dsimp only
  refine AWP.seq (.region (.lss rfl rfl rfl (.nil (thn_normal (.seq (.condNP rfl hltt3 (.exit (thn_exit (thn_exit ⟨rfl, ?_⟩)))))))))
  exact Sub.env trivial
 ·intro t3 s o hlot3 hltt3 h
  unfold strips_IsSet_l1 at h
  try dsimp only at h ⊢
  refine AWP.seq (.region (.lss rfl rfl rfl (.nil (thn_normal (.seq (.condP rfl hltt3 (.skip (thn_normal (.seq (.block (.seq ?_)))))))))))
  obtain ⟨a12, ha12, h⟩ := bind_some h
  refine AWP.region (.move rfl rfl (S.idx ha12 rfl rfl rfl rfl (.loadI rfl rfl rfl rfl (.assign rfl rfl (.assign rfl rfl (.nil (thn_normal ?_)))))))
  obtain ⟨t4, hx5, h⟩ := bind_some h
  refine AWP.seqJ (⟨[(0, .c (row 1 intI l)), (1, .c (int nv)), (7, .c (row 1 intI l)), (8, .c (int (l.length : Int))), (9, .c (int t3)), (33, .c (bool t4))], []⟩) ?_ ?_
  ·rcases Bool.eq_false_or_eq_true (decide (a12 < 0)) with hb6 | hb6
   ·replace hx5 := iteDT hb6 hx5
    refine AWP.region (.move rfl rfl (.lss rfl rfl rfl (.move rfl rfl (.guardF rfl rfl rfl hb6 (.guardF rfl rfl rfl hb6 (.guardF rfl rfl rfl hb6 (.pickT rfl hb6 rfl rfl (.move rfl rfl (.guardF rfl rfl rfl rfl (.guardF rfl rfl rfl rfl (.guardF rfl rfl rfl rfl (.guardSkip rfl rfl rfl (.guardSkip rfl rfl rfl (.guardSkip rfl rfl rfl (.guardSkip rfl rfl rfl (.guardSkip rfl rfl rfl (.guardSkip rfl rfl rfl (.guardSkip rfl rfl rfl (.guardF rfl rfl rfl rfl (.pickT rfl rfl rfl rfl (.nil ?_)))))))))))))))))))))
    have ej := Option.some.inj hx5
    subst ej
    refine thn_normal (Sub.env ⟨rfl, rfl, rfl, rfl, rfl, rfl, trivial⟩)
   ·replace hx5 := iteDF hb6 hx5
    rcases Bool.eq_false_or_eq_true (decide (nv ≤ a12)) with hb7 | hb7
    ·replace hx5 := iteDT hb7 hx5
     refine AWP.region (.move rfl rfl (.lss rfl rfl rfl (.move rfl rfl (.guardT rfl rfl rfl hb6 (.move rfl rfl (.guardT rfl rfl rfl hb6 (.move rfl rfl (.guardT rfl rfl rfl hb6 (.geq rfl rfl rfl (.pickF rfl hb6 rfl rfl (.move rfl rfl (.guardF rfl rfl rfl hb7 (.guardF rfl rfl rfl hb7 (.guardF rfl rfl rfl hb7 (.guardSkip rfl rfl rfl (.guardSkip rfl rfl rfl (.guardSkip rfl rfl rfl (.guardSkip rfl rfl rfl (.guardSkip rfl rfl rfl (.guardSkip rfl rfl rfl (.guardSkip rfl rfl rfl (.guardF rfl rfl rfl hb7 (.pickT rfl hb7 rfl rfl (.nil ?_))))))))))))))))))))))))
     have ej := Option.some.inj hx5
     subst ej
     refine thn_normal (Sub.env ⟨rfl, rfl, rfl, rfl, rfl, rfl, trivial⟩)
    ·replace hx5 := iteDF hb7 hx5
     rcases Bool.eq_false_or_eq_true (decide (0 < t3)) with hb8 | hb8
     ·replace hx5 := iteDT hb8 hx5
      obtain ⟨a29, ha29, hx5⟩ := bind_some hx5
      refine AWP.region (.move rfl rfl (.lss rfl rfl rfl (.move rfl rfl (.guardT rfl rfl rfl hb6 (.move rfl rfl (.guardT rfl rfl rfl hb6 (.move rfl rfl (.guardT rfl rfl rfl hb6 (.geq rfl rfl rfl (.pickF rfl hb6 rfl rfl (.move rfl rfl (.guardT rfl rfl rfl hb7 (.move rfl rfl (.guardT rfl rfl rfl hb7 (.gtr rfl rfl rfl (.guardT rfl rfl rfl hb7 (.move rfl rfl (.guardT rfl rfl rfl hb8 (.move rfl rfl (.guardT rfl rfl rfl hb8 (.move rfl rfl (.guardT rfl rfl rfl hb8 (.move rfl rfl (.guardT rfl rfl rfl hb8 (.sub' rfl rfl rfl (by omega) (.guardT rfl rfl rfl hb8 (S.idx ha29 rfl rfl rfl rfl (.guardT rfl rfl rfl hb8 (.loadI rfl rfl rfl rfl (.guardT rfl rfl rfl hb8 (.leq rfl rfl rfl (.guardT rfl rfl rfl hb7 (.pickT rfl hb8 rfl rfl (.pickF rfl hb7 rfl rfl (.nil ?_)))))))))))))))))))))))))))))))))))
      have ej := Option.some.inj hx5
      subst ej
      refine thn_normal (Sub.env ⟨rfl, rfl, rfl, rfl, rfl, rfl, trivial⟩)
     ·replace hx5 := iteDF hb8 hx5
      refine AWP.region (.move rfl rfl (.lss rfl rfl rfl (.move rfl rfl (.guardT rfl rfl rfl hb6 (.move rfl rfl (.guardT rfl rfl rfl hb6 (.move rfl rfl (.guardT rfl rfl rfl hb6 (.geq rfl rfl rfl (.pickF rfl hb6 rfl rfl (.move rfl rfl (.guardT rfl rfl rfl hb7 (.move rfl rfl (.guardT rfl rfl rfl hb7 (.gtr rfl rfl rfl (.guardT rfl rfl rfl hb7 (.move rfl rfl (.guardF rfl rfl rfl hb8 (.guardF rfl rfl rfl hb8 (.guardF rfl rfl rfl hb8 (.guardF rfl rfl rfl hb8 (.guardF rfl rfl rfl hb8 (.guardF rfl rfl rfl hb8 (.guardF rfl rfl rfl hb8 (.guardT rfl rfl rfl hb7 (.pickF rfl hb8 rfl rfl (.pickF rfl hb7 rfl rfl (.nil ?_))))))))))))))))))))))))))))
      have ej := Option.some.inj hx5
      subst ej
      refine thn_normal (Sub.env ⟨rfl, rfl, rfl, rfl, rfl, rfl, trivial⟩)
  ·refine AWP.iteB rfl h (fun hc9 h => ?_) (fun hc9 h => ?_)
   ·refine AWP.seq (.region (.assign rfl rfl (.nil (thn_normal (.ret (inB_ret (thn_ret ?_)))))))
    have ej := Option.some.inj h
    subst ej
    refine thn_ret ⟨_, rfl, rfl, ?_⟩
    exact Done.ret rfl rfl
   ·refine AWP.skip (inB_normal (thn_normal (.region (.add rfl rfl rfl (by omega) (.move rfl rfl (.nil ?_))))))
    have ej := Option.some.inj h
    subst ej
    refine thn_normal ⟨_, rfl, ?_⟩
    exact Sub.env ⟨rfl, rfl, rfl, rfl, rfl, trivial⟩
 ·intro e s hq
  rcases oo with u | x
  ·try dsimp only at h hq
   obtain ⟨rfl, hs⟩ := hq
   refine ⟨_, hs, ?_⟩
   refine inB_exit (thn_normal (.seq (.region (.assign rfl rfl (.nil (thn_normal (.ret ?_)))))))
   have ej := Option.some.inj h
   subst ej
   exact Done.ret rfl rfl
  ·try dsimp only at h hq
   obtain ⟨rfl, hs⟩ := hq
   refine ⟨_, Sub.refl _ _, ?_⟩
   refine inB_ret (thn_ret ?_)
   have ej := Option.some.inj h
   subst ej
   exact hs
theorem cmp_isNaN_int_ok {xv : Int} {r : Bool} (h : cmp_isNaN_int xv = some r) : PureOk Tryd.prog 76 [.c (int xv)] (.c (bool r)) := by
 unfold PureOk
 refine FnOk.enter (rs := [.t 2]) Tryd.func76 rfl Tryd.ntmps76 Tryd.results76 rfl ⟨trivial, trivial⟩ (by kernel_rfl) rfl ?_
 unfold cmp_isNaN_int at h
 refine AWP.seq (.region (.assign rfl rfl (.nil (thn_normal (.seq (.region (.move rfl rfl (.move rfl rfl (.neq rfl rfl rfl (.assign rfl rfl (.nil (thn_normal (.ret ?_)))))))))))))
 have ej := Option.some.inj h
 subst ej
 exact Done.ret rfl rfl
theorem cmp_Less_int_ok {xv : Int} {yv : Int} {r : Bool} (h : cmp_Less_int xv yv = some r) : PureOk Tryd.prog 64 [.c (int xv), .c (int yv)] (.c (bool r)) := by
 unfold PureOk
 refine FnOk.enter (rs := [.t 4]) Tryd.func64 rfl Tryd.ntmps64 Tryd.results64 rfl ⟨trivial, trivial⟩ (by kernel_rfl) rfl ?_
 unfold cmp_Less_int at h
 refine AWP.seq (.region (.assign rfl rfl (.nil (thn_normal ?_))))
 obtain ⟨t3, hx4, h⟩ := bind_some h
 refine AWP.seqJ (⟨[(4, .c (bool t3))], []⟩) ?_ ?_
 ·obtain ⟨a6, ha6, hx4⟩ := bind_some hx4
  rcases Bool.eq_false_or_eq_true (a6) with hb5 | hb5
  ·replace hx4 := iteBT hb5 hx4
   obtain ⟨a9, ha9, hx4⟩ := bind_some hx4
   rcases Bool.eq_false_or_eq_true (!a9) with hb6 | hb6
   ·replace hx4 := iteBT hb6 hx4
    refine AWP.region (.move rfl rfl (.callR rfl rfl rfl rfl (cmp_isNaN_int_ok ha6) rfl (.move rfl rfl (.guardT rfl rfl rfl hb5 (.move rfl rfl (.guardT rfl rfl rfl hb5 (.callR rfl rfl rfl rfl (cmp_isNaN_int_ok ha9) rfl (.guardT rfl rfl rfl hb5 (.not rfl rfl (.pickT rfl hb5 rfl rfl (.move rfl rfl (.guardF rfl rfl rfl hb6 (.guardF rfl rfl rfl hb6 (.guardF rfl rfl rfl hb6 (.pickT rfl hb6 rfl rfl (.assign rfl rfl (.nil ?_)))))))))))))))))
    have ej := Option.some.inj hx4
    subst ej
    refine thn_normal (Sub.env ⟨rfl, trivial⟩)
   ·replace hx4 := iteBF hb6 hx4
    refine AWP.region (.move rfl rfl (.callR rfl rfl rfl rfl (cmp_isNaN_int_ok ha6) rfl (.move rfl rfl (.guardT rfl rfl rfl hb5 (.move rfl rfl (.guardT rfl rfl rfl hb5 (.callR rfl rfl rfl rfl (cmp_isNaN_int_ok ha9) rfl (.guardT rfl rfl rfl hb5 (.not rfl rfl (.pickT rfl hb5 rfl rfl (.move rfl rfl (.guardT rfl rfl rfl hb6 (.move rfl rfl (.guardT rfl rfl rfl hb6 (.move rfl rfl (.guardT rfl rfl rfl hb6 (.lss rfl rfl rfl (.pickF rfl hb6 rfl rfl (.assign rfl rfl (.nil ?_))))))))))))))))))))
    have ej := Option.some.inj hx4
    subst ej
    refine thn_normal (Sub.env ⟨rfl, trivial⟩)
  ·replace hx4 := iteBF hb5 hx4
   refine AWP.region (.move rfl rfl (.callR rfl rfl rfl rfl (cmp_isNaN_int_ok ha6) rfl (.move rfl rfl (.guardF rfl rfl rfl hb5 (.guardF rfl rfl rfl hb5 (.guardF rfl rfl rfl hb5 (.pickF rfl hb5 rfl rfl (.move rfl rfl (.guardT rfl rfl rfl rfl (.move rfl rfl (.guardT rfl rfl rfl rfl (.move rfl rfl (.guardT rfl rfl rfl rfl (.lss rfl rfl rfl (.pickF rfl rfl rfl rfl (.assign rfl rfl (.nil ?_)))))))))))))))))
   have ej := Option.some.inj hx4
   subst ej
   refine thn_normal (Sub.env ⟨rfl, trivial⟩)
 ·refine AWP.ret ?_
  have ej := Option.some.inj h
  subst ej
  exact Done.ret rfl rfl
theorem slices_isNaN_int_ok {xv : Int} {r : Bool} (h : slices_isNaN_int xv = some r) : PureOk Tryd.prog 65 [.c (int xv)] (.c (bool r)) := by
 unfold PureOk
 refine FnOk.enter (rs := [.t 2]) Tryd.func65 rfl Tryd.ntmps65 Tryd.results65 rfl ⟨trivial, trivial⟩ (by kernel_rfl) rfl ?_
 unfold slices_isNaN_int at h
 refine AWP.seq (.region (.assign rfl rfl (.nil (thn_normal (.seq (.region (.move rfl rfl (.move rfl rfl (.neq rfl rfl rfl (.assign rfl rfl (.nil (thn_normal (.ret ?_)))))))))))))
 have ej := Option.some.inj h
 subst ej
 exact Done.ret rfl rfl
theorem slices_BinarySearch_int_int_ok {xv : List Int} {target : Int} {r : Int × Bool} (h : slices_BinarySearch_int_int xv target = some r) : PureOk Tryd.prog 50 [.c (row 1 intI xv), .c (int target)] (.tup [.c (int r.1), .c (bool r.2)]) := by
 unfold PureOk
 refine FnOk.enter (rs := [.t 4, .t 5]) Tryd.func50 rfl Tryd.ntmps50 Tryd.results50 rfl ⟨trivial, trivial, trivial⟩ (by kernel_rfl) rfl ?_
 unfold slices_BinarySearch_int_int at h
 refine AWP.seq (.region (.assign rfl rfl (.assign rfl rfl (.nil (thn_normal (.seq (.region (.move rfl rfl (S.len rfl rfl (fun hl11 => .assign rfl rfl (.nil (thn_normal (.seq (.region (.move rfl rfl (.assign rfl rfl (.assign rfl rfl (.nil (thn_normal (.seq (.block ?_)))))))))))))))))))))
 obtain ⟨iv5, ho1, h⟩ := bind_some h
 refine AWP.loopS ho1 (fun (iv3, j4) => ⟨[(0, .c (row 1 intI xv)), (1, .c (int target)), (6, .c (int (xv.length : Int))), (7, .c (int iv3)), (8, .c (int j4))], []⟩) (fun iv5 e st => e = .exit 0 ∧ Sub [] st ⟨[(0, .c (row 1 intI xv)), (1, .c (int target)), (6, .c (int (xv.length : Int))), (7, .c (int iv5))], []⟩) ?_ ?_ ?_
 ·try dsimp only
  exact Sub.env ⟨rfl, rfl, rfl, rfl, rfl, trivial⟩
 ·intro s o h
  obtain ⟨iv3, j4⟩ := s
  unfold slices_BinarySearch_int_int_l1 at h
  try dsimp only at h ⊢
  refine AWP.seq (.seq (.region (.move rfl rfl (.move rfl rfl (.lss rfl rfl rfl (.nil (thn_normal (.ite rfl h (fun hc6 h => ?_) (fun hc6 h => ?_)))))))))
  ·refine AWP.skip (thn_normal (.block (.seq (.region (.move rfl rfl (.move rfl rfl (S.add rfl rfl rfl (.convInt rfl rfl (.shr rfl rfl rfl (by decide) rfl (.convInt rfl rfl (.assign rfl rfl (.nil (thn_normal (.seq ?_))))))))))))))
   obtain ⟨a24, ha24, h⟩ := bind_some h
   obtain ⟨a27, ha27, h⟩ := bind_some h
   refine AWP.region (.move rfl rfl (.move rfl rfl (S.idx ha24 rfl rfl rfl rfl (.loadI rfl rfl rfl rfl (.move rfl rfl (.callR rfl rfl rfl rfl (cmp_Less_int_ok ha27) rfl (.nil (thn_normal (.iteB rfl h (fun hc7 h => ?_) (fun hc7 h => ?_))))))))))
   ·refine AWP.region (.move rfl rfl (S.add rfl rfl rfl (.assign rfl rfl (.nil (inB_normal ?_)))))
    have ej := Option.some.inj h
    subst ej
    refine thn_normal ⟨_, rfl, ?_⟩
    exact Sub.env ⟨rfl, rfl, rfl, rfl, rfl, trivial⟩
   ·refine AWP.region (.move rfl rfl (.assign rfl rfl (.nil (inB_normal ?_))))
    have ej := Option.some.inj h
    subst ej
    refine thn_normal ⟨_, rfl, ?_⟩
    exact Sub.env ⟨rfl, rfl, rfl, rfl, rfl, trivial⟩
  ·refine AWP.exit (thn_exit ?_)
   have ej := Option.some.inj h
   subst ej
   refine thn_exit ⟨_, rfl, rfl, ?_⟩
   exact Sub.env ⟨rfl, rfl, rfl, rfl, trivial⟩
 ·intro e s hq
  obtain ⟨rfl, hs⟩ := hq
  refine ⟨_, hs, ?_⟩
  refine inB_exit (thn_normal ?_)
  obtain ⟨t8, hx9, h⟩ := bind_some h
  refine AWP.seqJ (⟨[(4, .c (int iv5)), (5, .c (bool t8))], []⟩) ?_ ?_
  ·rcases Bool.eq_false_or_eq_true (decide (iv5 < (xv.length : Int))) with hb10 | hb10
   ·replace hx9 := iteDT hb10 hx9
    obtain ⟨a38, ha38, hx9⟩ := bind_some hx9
    rcases Bool.eq_false_or_eq_true (decide (a38 = target)) with hb11 | hb11
    ·replace hx9 := iteDT hb11 hx9
     refine AWP.region (.move rfl rfl (.move rfl rfl (.move rfl rfl (.lss rfl rfl rfl (.move rfl rfl (.guardT rfl rfl rfl hb10 (.move rfl rfl (.guardT rfl rfl rfl hb10 (.move rfl rfl (.guardT rfl rfl rfl hb10 (S.idx ha38 rfl rfl rfl rfl (.guardT rfl rfl rfl hb10 (.loadI rfl rfl rfl rfl (.guardT rfl rfl rfl hb10 (.move rfl rfl (.guardT rfl rfl rfl hb10 (.eql rfl rfl rfl (.guardT rfl rfl rfl hb10 (.move rfl rfl (.guardF rfl rfl rfl hb11 (.guardF rfl rfl rfl hb11 (.guardF rfl rfl rfl hb11 (.guardF rfl rfl rfl hb11 (.guardF rfl rfl rfl hb11 (.guardF rfl rfl rfl hb11 (.guardSkip rfl rfl rfl (.guardSkip rfl rfl rfl (.guardF rfl rfl rfl hb11 (.guardT rfl rfl rfl hb10 (.pickT rfl hb11 rfl rfl (.pickT rfl hb10 rfl rfl (.assign rfl rfl (.assign rfl rfl (.nil ?_))))))))))))))))))))))))))))))))))
     have ej := Option.some.inj hx9
     subst ej
     refine thn_normal (Sub.env ⟨rfl, rfl, trivial⟩)
    ·replace hx9 := iteDF hb11 hx9
     obtain ⟨a45, ha45, hx9⟩ := bind_some hx9
     obtain ⟨a47, ha47, hx9⟩ := bind_some hx9
     rcases Bool.eq_false_or_eq_true (a47) with hb12 | hb12
     ·replace hx9 := iteBT hb12 hx9
      obtain ⟨a50, ha50, hx9⟩ := bind_some hx9
      refine AWP.region (.move rfl rfl (.move rfl rfl (.move rfl rfl (.lss rfl rfl rfl (.move rfl rfl (.guardT rfl rfl rfl hb10 (.move rfl rfl (.guardT rfl rfl rfl hb10 (.move rfl rfl (.guardT rfl rfl rfl hb10 (S.idx ha38 rfl rfl rfl rfl (.guardT rfl rfl rfl hb10 (.loadI rfl rfl rfl rfl (.guardT rfl rfl rfl hb10 (.move rfl rfl (.guardT rfl rfl rfl hb10 (.eql rfl rfl rfl (.guardT rfl rfl rfl hb10 (.move rfl rfl (.guardT rfl rfl rfl hb11 (.move rfl rfl (.guardT rfl rfl rfl hb11 (.move rfl rfl (.guardT rfl rfl rfl hb11 (S.idx ha45 rfl rfl rfl rfl (.guardT rfl rfl rfl hb11 (.loadI rfl rfl rfl rfl (.guardT rfl rfl rfl hb11 (.callR rfl rfl rfl rfl (slices_isNaN_int_ok ha47) rfl (.guardT rfl rfl rfl hb11 (.move rfl rfl (.guardT rfl rfl rfl hb12 (.move rfl rfl (.guardT rfl rfl rfl hb12 (.callR rfl rfl rfl rfl (slices_isNaN_int_ok ha50) rfl (.guardT rfl rfl rfl hb11 (.pickT rfl hb12 rfl rfl (.guardT rfl rfl rfl hb10 (.pickF rfl hb11 rfl rfl (.pickT rfl hb10 rfl rfl (.assign rfl rfl (.assign rfl rfl (.nil ?_)))))))))))))))))))))))))))))))))))))))))))
      have ej := Option.some.inj hx9
      subst ej
      refine thn_normal (Sub.env ⟨rfl, rfl, trivial⟩)
     ·replace hx9 := iteBF hb12 hx9
      refine AWP.region (.move rfl rfl (.move rfl rfl (.move rfl rfl (.lss rfl rfl rfl (.move rfl rfl (.guardT rfl rfl rfl hb10 (.move rfl rfl (.guardT rfl rfl rfl hb10 (.move rfl rfl (.guardT rfl rfl rfl hb10 (S.idx ha38 rfl rfl rfl rfl (.guardT rfl rfl rfl hb10 (.loadI rfl rfl rfl rfl (.guardT rfl rfl rfl hb10 (.move rfl rfl (.guardT rfl rfl rfl hb10 (.eql rfl rfl rfl (.guardT rfl rfl rfl hb10 (.move rfl rfl (.guardT rfl rfl rfl hb11 (.move rfl rfl (.guardT rfl rfl rfl hb11 (.move rfl rfl (.guardT rfl rfl rfl hb11 (S.idx ha45 rfl rfl rfl rfl (.guardT rfl rfl rfl hb11 (.loadI rfl rfl rfl rfl (.guardT rfl rfl rfl hb11 (.callR rfl rfl rfl rfl (slices_isNaN_int_ok ha47) rfl (.guardT rfl rfl rfl hb11 (.move rfl rfl (.guardF rfl rfl rfl hb12 (.guardF rfl rfl rfl hb12 (.guardT rfl rfl rfl hb11 (.pickF rfl hb12 rfl rfl (.guardT rfl rfl rfl hb10 (.pickF rfl hb11 rfl rfl (.pickT rfl hb10 rfl rfl (.assign rfl rfl (.assign rfl rfl (.nil ?_)))))))))))))))))))))))))))))))))))))))))
      have ej := Option.some.inj hx9
      subst ej
      refine thn_normal (Sub.env ⟨rfl, rfl, trivial⟩)
   ·replace hx9 := iteDF hb10 hx9
    refine AWP.region (.move rfl rfl (.move rfl rfl (.move rfl rfl (.lss rfl rfl rfl (.move rfl rfl (.guardF rfl rfl rfl hb10 (.guardF rfl rfl rfl hb10 (.guardF rfl rfl rfl hb10 (.guardF rfl rfl rfl hb10 (.guardF rfl rfl rfl hb10 (.guardF rfl rfl rfl hb10 (.guardF rfl rfl rfl hb10 (.guardSkip rfl rfl rfl (.guardSkip rfl rfl rfl (.guardSkip rfl rfl rfl (.guardSkip rfl rfl rfl (.guardSkip rfl rfl rfl (.guardSkip rfl rfl rfl (.guardSkip rfl rfl rfl (.guardSkip rfl rfl rfl (.guardSkip rfl rfl rfl (.guardF rfl rfl rfl hb10 (.pickF rfl hb10 rfl rfl (.assign rfl rfl (.assign rfl rfl (.nil ?_))))))))))))))))))))))))))
    have ej := Option.some.inj hx9
    subst ej
    refine thn_normal (Sub.env ⟨rfl, rfl, trivial⟩)
  ·refine AWP.ret ?_
   have ej := Option.some.inj h
   subst ej
   exact Done.ret rfl rfl
theorem strips_Meets_1_ok {xv : Int} {c2 : List Int} {r : Bool} (h : strips_Meets_1 xv c2 = some r) : PureOk Tryd.prog 54 [.c (int xv), .c (.imm (.ipt [.sl 1 (List.map intI c2)]))] (.c (bool r)) := by
 unfold PureOk
 refine FnOk.enter (rs := [.t 3]) Tryd.func54 rfl Tryd.ntmps54 Tryd.results54 rfl ⟨trivial, trivial⟩ (by kernel_rfl) rfl ?_
 unfold strips_Meets_1 at h
 refine AWP.seq (.region (.assign rfl rfl (.nil (thn_normal (.seq ?_)))))
 obtain ⟨a9, ha9, h⟩ := bind_some h
 refine AWP.region (.loadI rfl rfl rfl rfl (.move rfl rfl (.callR rfl rfl rfl rfl (slices_BinarySearch_int_int_ok ha9) rfl (.move rfl rfl (.extract rfl rfl rfl (.extract rfl rfl rfl (.assign rfl rfl (.assign rfl rfl (.nil (thn_normal (.seq (.region (.move rfl rfl (.assign rfl rfl (.nil (thn_normal (.ret ?_)))))))))))))))))
 have ej := Option.some.inj h
 subst ej
 exact Done.ret rfl rfl
theorem slices_IndexFunc_int_int_ok {sv : List Int} {fv : Int → Option Bool} {r : Int} {fvfv : FuncId} {cvfv : List C} (hcvfv : C.okL 0 cvfv = true) (hfv : ∀ {y1 : Int} {z : Bool}, fv y1 = some z → PureOk Tryd.prog fvfv ([.c (int y1)] ++ cvfv.map T.c) (.c (bool z))) (h : slices_IndexFunc_int_int sv fv = some r) : PureOk Tryd.prog 68 [.c (row 1 intI sv), .c (.fn fvfv cvfv)] (.c (int r)) := by
 unfold PureOk
 refine FnOk.enter (rs := [.t 4]) Tryd.func68 rfl Tryd.ntmps68 Tryd.results68 rfl ⟨trivial, trivial⟩ (by kernel_rfl) rfl ?_
 unfold slices_IndexFunc_int_int at h
 refine AWP.seq (.region (.assign rfl rfl (.nil (thn_normal (.seq (.seq (.region (.move rfl rfl (S.len rfl rfl (fun hl7 => .move rfl rfl (.nil (thn_normal (.block ?_)))))))))))))
 obtain ⟨oo, ho1, h⟩ := bind_some h
 refine AWP.rngS ho1 (fun t3 _ => ⟨[(0, .c (row 1 intI sv)), (1, .c (.fn fvfv cvfv)), (7, .c (int (sv.length : Int))), (8, .c (int t3))], []⟩) (fun o e st => match o with | .inl _ => e = .exit 0 ∧ Sub [] st ⟨[], []⟩ | .inr x => e = .ret ∧ Done [.t 4] (fun t _ => t = .c (int x)) .ret st) ?_ ?_ ?_ ?_
 ·try dsimp only
  exact Sub.env ⟨rfl, rfl, rfl, rfl, trivial⟩
 ·intro t3 s hlot3 hltt3 _
  try dsimp only
  refine AWP.seq (.region (.lss rfl rfl rfl (.nil (thn_normal (.seq (.condNP rfl hltt3 (.exit (thn_exit (thn_exit ⟨rfl, ?_⟩)))))))))
  exact Sub.env trivial
 ·intro t3 s o hlot3 hltt3 h
  unfold slices_IndexFunc_int_int_l1 at h
  try dsimp only at h ⊢
  refine AWP.seq (.region (.lss rfl rfl rfl (.nil (thn_normal (.seq (.condP rfl hltt3 (.skip (thn_normal (.seq (.block (.seq (.region (.move rfl rfl (.assign rfl rfl (.nil (thn_normal (.seq ?_)))))))))))))))))
  obtain ⟨a14, ha14, h⟩ := bind_some h
  obtain ⟨a16, ha16, h⟩ := bind_some h
  refine AWP.region (.move rfl rfl (.move rfl rfl (.move rfl rfl (S.idx ha14 rfl rfl rfl rfl (.loadI rfl rfl rfl rfl (.callR rfl rfl (okL_app rfl hcvfv) rfl (hfv ha16) rfl (.nil (thn_normal (.iteB rfl h (fun hc4 h => ?_) (fun hc4 h => ?_))))))))))
  ·refine AWP.seq (.region (.move rfl rfl (.assign rfl rfl (.nil (thn_normal (.ret (inB_ret (thn_ret ?_))))))))
   have ej := Option.some.inj h
   subst ej
   refine thn_ret ⟨_, rfl, rfl, ?_⟩
   exact Done.ret rfl rfl
  ·refine AWP.skip (inB_normal (thn_normal (.region (.add rfl rfl rfl (by omega) (.move rfl rfl (.nil ?_))))))
   have ej := Option.some.inj h
   subst ej
   refine thn_normal ⟨_, rfl, ?_⟩
   exact Sub.env ⟨rfl, rfl, rfl, rfl, trivial⟩
 ·intro e s hq
  rcases oo with u | x
  ·try dsimp only at h hq
   obtain ⟨rfl, hs⟩ := hq
   refine ⟨_, hs, ?_⟩
   refine inB_exit (thn_normal (.seq (.region (.assign rfl rfl (.nil (thn_normal (.ret ?_)))))))
   have ej := Option.some.inj h
   subst ej
   exact Done.ret rfl rfl
  ·try dsimp only at h hq
   obtain ⟨rfl, hs⟩ := hq
   refine ⟨_, Sub.refl _ _, ?_⟩
   refine inB_ret (thn_ret ?_)
   have ej := Option.some.inj h
   subst ej
   exact hs
theorem slices_ContainsFunc_int_int_ok {sv : List Int} {fv : Int → Option Bool} {r : Bool} {fvfv : FuncId} {cvfv : List C} (hcvfv : C.okL 0 cvfv = true) (hfv : ∀ {y1 : Int} {z : Bool}, fv y1 = some z → PureOk Tryd.prog fvfv ([.c (int y1)] ++ cvfv.map T.c) (.c (bool z))) (h : slices_ContainsFunc_int_int sv fv = some r) : PureOk Tryd.prog 53 [.c (row 1 intI sv), .c (.fn fvfv cvfv)] (.c (bool r)) := by
 unfold PureOk
 refine FnOk.enter (rs := [.t 4]) Tryd.func53 rfl Tryd.ntmps53 Tryd.results53 rfl ⟨trivial, trivial⟩ (by kernel_rfl) rfl ?_
 unfold slices_ContainsFunc_int_int at h
 refine AWP.seq (.region (.assign rfl rfl (.nil (thn_normal (.seq ?_)))))
 obtain ⟨a7, ha7, h⟩ := bind_some h
 refine AWP.region (.move rfl rfl (.move rfl rfl (.callR rfl rfl (by simp [T.okL, T.ok, C.ok, C.okL, hcvfv]) rfl (slices_IndexFunc_int_int_ok hcvfv hfv ha7) rfl (.geq rfl rfl rfl (.assign rfl rfl (.nil (thn_normal (.ret ?_))))))))
 have ej := Option.some.inj h
 subst ej
 exact Done.ret rfl rfl
theorem strips_Meets_ok {av : List Int} {bv : List Int} {r : Bool} (h : strips_Meets av bv = some r) : PureOk Tryd.prog 45 [.c (row 1 intI av), .c (row 1 intI bv)] (.c (bool r)) := by
 unfold PureOk
 refine FnOk.enter (rs := [.t 4]) Tryd.func45 rfl Tryd.ntmps45 Tryd.results45 rfl ⟨trivial, trivial⟩ (by kernel_rfl) rfl ?_
 unfold strips_Meets at h
 refine AWP.seq (.region (W.box rfl rfl rfl rfl rfl rfl (.assign rfl rfl (.nil (thn_normal (.seq ?_))))))
 obtain ⟨a7, ha7, h⟩ := bind_some h
 refine AWP.region (.move rfl rfl (.makeFunc rfl rfl (.callL rfl rfl (.cons (.c .imm) (.cons (.c (.fn (.cons (.ptr (es := [.sl 1 (List.map intI bv)]) rfl rfl (.cons .imm .nil)) .nil))) .nil)) rfl (slices_ContainsFunc_int_int_ok rfl (fun hy => strips_Meets_1_ok hy) ha7) rfl ?_)))
 refine AOps.assign rfl rfl (.nil (thn_normal (.ret ?_)))
 have ej := Option.some.inj h
 subst ej
 exact Done.ret rfl rfl
theorem strips_operator_ok {ov : TOperator} {facts : Int} {r : Int} (h : strips_operator ov facts = some r) : PureOk Tryd.prog 37 [.agg [row 1 intI ov.pre, row 1 intI ov.add, row 1 intI ov.del, int ov.cost], .c (int facts)] (.c (int r)) := by
 unfold PureOk
 refine FnOk.enter (rs := [.t 4]) Tryd.func37 rfl Tryd.ntmps37 Tryd.results37 rfl ⟨trivial, trivial⟩ (by kernel_rfl) rfl ?_
 unfold strips_operator at h
 refine AWP.seq (.region (W.box rfl rfl rfl rfl rfl rfl (.assign rfl rfl (.nil (thn_normal (.seq (.block ?_)))))))
 obtain ⟨t3, hx4, h⟩ := bind_some h
 refine AWP.seqJ (⟨[(2, .c (.ptr 0 0 0)), (5, .c (bool t3))], [.one (.cells 4 [[row 1 intI ov.pre, row 1 intI ov.add, row 1 intI ov.del, int ov.cost]])]⟩) ?_ ?_
 ·obtain ⟨a9, ha9, hx4⟩ := bind_some hx4
  rcases Bool.eq_false_or_eq_true (!a9) with hb5 | hb5
  ·replace hx4 := iteBT hb5 hx4
   refine AWP.region (W.fieldAddr rfl rfl rfl rfl (.load rfl rfl rfl rfl rfl rfl (.move rfl rfl (.callR rfl rfl rfl rfl (strips_IsSet_ok ha9) rfl (.not rfl rfl (.move rfl rfl (.guardF rfl rfl rfl hb5 (.guardF rfl rfl rfl hb5 (.guardF rfl rfl rfl hb5 (.guardF rfl rfl rfl hb5 (.guardF rfl rfl rfl hb5 (.pickT rfl hb5 rfl rfl (.move rfl rfl (.guardF rfl rfl rfl rfl (.guardF rfl rfl rfl rfl (.guardF rfl rfl rfl rfl (.guardF rfl rfl rfl rfl (.guardF rfl rfl rfl rfl (.pickT rfl rfl rfl rfl (.move rfl rfl (.guardF rfl rfl rfl rfl (.guardF rfl rfl rfl rfl (.guardF rfl rfl rfl rfl (.guardF rfl rfl rfl rfl (.guardF rfl rfl rfl rfl (.pickT rfl rfl rfl rfl (.assign rfl rfl (.nil ?_))))))))))))))))))))))))))))
   have ej := Option.some.inj hx4
   subst ej
   refine thn_normal (Sub.env ⟨rfl, rfl, trivial⟩)
  ·replace hx4 := iteBF hb5 hx4
   obtain ⟨a15, ha15, hx4⟩ := bind_some hx4
   rcases Bool.eq_false_or_eq_true (!a15) with hb6 | hb6
   ·replace hx4 := iteBT hb6 hx4
    refine AWP.region (W.fieldAddr rfl rfl rfl rfl (.load rfl rfl rfl rfl rfl rfl (.move rfl rfl (.callR rfl rfl rfl rfl (strips_IsSet_ok ha9) rfl (.not rfl rfl (.move rfl rfl (.guardT rfl rfl rfl hb5 (W.fieldAddr rfl rfl rfl rfl (.guardT rfl rfl rfl hb5 (.load rfl rfl rfl rfl rfl rfl (.guardT rfl rfl rfl hb5 (.move rfl rfl (.guardT rfl rfl rfl hb5 (.callR rfl rfl rfl rfl (strips_IsSet_ok ha15) rfl (.guardT rfl rfl rfl hb5 (.not rfl rfl (.pickF rfl hb5 rfl rfl (.move rfl rfl (.guardF rfl rfl rfl hb6 (.guardF rfl rfl rfl hb6 (.guardF rfl rfl rfl hb6 (.guardF rfl rfl rfl hb6 (.guardF rfl rfl rfl hb6 (.pickT rfl hb6 rfl rfl (.move rfl rfl (.guardF rfl rfl rfl rfl (.guardF rfl rfl rfl rfl (.guardF rfl rfl rfl rfl (.guardF rfl rfl rfl rfl (.guardF rfl rfl rfl rfl (.pickT rfl rfl rfl rfl (.assign rfl rfl (.nil ?_)))))))))))))))))))))))))))))))))
    have ej := Option.some.inj hx4
    subst ej
    refine thn_normal (Sub.env ⟨rfl, rfl, trivial⟩)
   ·replace hx4 := iteBF hb6 hx4
    obtain ⟨a22, ha22, hx4⟩ := bind_some hx4
    rcases Bool.eq_false_or_eq_true (!a22) with hb7 | hb7
    ·replace hx4 := iteBT hb7 hx4
     refine AWP.region (W.fieldAddr rfl rfl rfl rfl (.load rfl rfl rfl rfl rfl rfl (.move rfl rfl (.callR rfl rfl rfl rfl (strips_IsSet_ok ha9) rfl (.not rfl rfl (.move rfl rfl (.guardT rfl rfl rfl hb5 (W.fieldAddr rfl rfl rfl rfl (.guardT rfl rfl rfl hb5 (.load rfl rfl rfl rfl rfl rfl (.guardT rfl rfl rfl hb5 (.move rfl rfl (.guardT rfl rfl rfl hb5 (.callR rfl rfl rfl rfl (strips_IsSet_ok ha15) rfl (.guardT rfl rfl rfl hb5 (.not rfl rfl (.pickF rfl hb5 rfl rfl (.move rfl rfl (.guardT rfl rfl rfl hb6 (W.fieldAddr rfl rfl rfl rfl (.guardT rfl rfl rfl hb6 (.load rfl rfl rfl rfl rfl rfl (.guardT rfl rfl rfl hb6 (.move rfl rfl (.guardT rfl rfl rfl hb6 (.callR rfl rfl rfl rfl (strips_IsSet_ok ha22) rfl (.guardT rfl rfl rfl hb6 (.not rfl rfl (.pickF rfl hb6 rfl rfl (.move rfl rfl (.guardF rfl rfl rfl hb7 (.guardF rfl rfl rfl hb7 (.guardF rfl rfl rfl hb7 (.guardF rfl rfl rfl hb7 (.guardF rfl rfl rfl hb7 (.pickT rfl hb7 rfl rfl (.assign rfl rfl (.nil ?_))))))))))))))))))))))))))))))))))))))
     have ej := Option.some.inj hx4
     subst ej
     refine thn_normal (Sub.env ⟨rfl, rfl, trivial⟩)
    ·replace hx4 := iteBF hb7 hx4
     obtain ⟨a30, ha30, hx4⟩ := bind_some hx4
     refine AWP.region (W.fieldAddr rfl rfl rfl rfl (.load rfl rfl rfl rfl rfl rfl (.move rfl rfl (.callR rfl rfl rfl rfl (strips_IsSet_ok ha9) rfl (.not rfl rfl (.move rfl rfl (.guardT rfl rfl rfl hb5 (W.fieldAddr rfl rfl rfl rfl (.guardT rfl rfl rfl hb5 (.load rfl rfl rfl rfl rfl rfl (.guardT rfl rfl rfl hb5 (.move rfl rfl (.guardT rfl rfl rfl hb5 (.callR rfl rfl rfl rfl (strips_IsSet_ok ha15) rfl (.guardT rfl rfl rfl hb5 (.not rfl rfl (.pickF rfl hb5 rfl rfl (.move rfl rfl (.guardT rfl rfl rfl hb6 (W.fieldAddr rfl rfl rfl rfl (.guardT rfl rfl rfl hb6 (.load rfl rfl rfl rfl rfl rfl (.guardT rfl rfl rfl hb6 (.move rfl rfl (.guardT rfl rfl rfl hb6 (.callR rfl rfl rfl rfl (strips_IsSet_ok ha22) rfl (.guardT rfl rfl rfl hb6 (.not rfl rfl (.pickF rfl hb6 rfl rfl (.move rfl rfl (.guardT rfl rfl rfl hb7 (W.fieldAddr rfl rfl rfl rfl (.guardT rfl rfl rfl hb7 (.load rfl rfl rfl rfl rfl rfl (.guardT rfl rfl rfl hb7 (W.fieldAddr rfl rfl rfl rfl (.guardT rfl rfl rfl hb7 (.load rfl rfl rfl rfl rfl rfl (.guardT rfl rfl rfl hb7 (.callR rfl rfl rfl rfl (strips_Meets_ok ha30) rfl (.pickF rfl hb7 rfl rfl (.assign rfl rfl (.nil ?_)))))))))))))))))))))))))))))))))))))))))))
     have ej := Option.some.inj hx4
     subst ej
     refine thn_normal (Sub.env ⟨rfl, rfl, trivial⟩)
 ·refine AWP.iteB rfl h (fun hc8 h => ?_) (fun hc8 h => ?_)
  ·refine AWP.seq (.region (.assign rfl rfl (.nil (thn_normal (.ret (inB_ret (thn_ret ?_)))))))
   have ej := Option.some.inj h
   subst ej
   exact Done.ret rfl rfl
  ·refine AWP.seqJ (⟨[(32, .c (bool ((decide (ov.cost < 0)) || (decide (100 < ov.cost)))))], [.one (.cells 4 [[row 1 intI ov.pre, row 1 intI ov.add, row 1 intI ov.del, int ov.cost]])]⟩) ?_ ?_
   ·rcases Bool.eq_false_or_eq_true (decide (ov.cost < 0)) with hb1 | hb1
    ·refine AWP.region (W.fieldAddr rfl rfl rfl rfl (.load rfl rfl rfl rfl rfl rfl (.lss rfl rfl rfl (.move rfl rfl (.guardF rfl rfl rfl hb1 (.guardF rfl rfl rfl hb1 (.guardF rfl rfl rfl hb1 (.pickT rfl hb1 rfl rfl (.assign rfl rfl (.nil (thn_normal ?_)))))))))))
     simp only [and_t hb1, or_t hb1, Bool.false_or, Bool.true_or, Bool.false_and, Bool.true_and]
     exact Sub.env ⟨rfl, trivial⟩
    ·refine AWP.region (W.fieldAddr rfl rfl rfl rfl (.load rfl rfl rfl rfl rfl rfl (.lss rfl rfl rfl (.move rfl rfl (.guardT rfl rfl rfl hb1 (W.fieldAddr rfl rfl rfl rfl (.guardT rfl rfl rfl hb1 (.load rfl rfl rfl rfl rfl rfl (.guardT rfl rfl rfl hb1 (.gtr rfl rfl rfl (.pickF rfl hb1 rfl rfl (.assign rfl rfl (.nil (thn_normal ?_))))))))))))))
     simp only [and_f hb1, or_f hb1, Bool.false_or, Bool.true_or, Bool.false_and, Bool.true_and]
     exact Sub.env ⟨rfl, trivial⟩
   ·refine AWP.iteB rfl h (fun hc9 h => ?_) (fun hc9 h => ?_)
    ·refine AWP.seq (.region (.assign rfl rfl (.nil (thn_normal (.ret (inB_ret (thn_ret ?_)))))))
     have ej := Option.some.inj h
     subst ej
     exact Done.ret rfl rfl
    ·refine AWP.skip (inB_normal (thn_normal (.seq (.region (.assign rfl rfl (.nil (thn_normal (.ret ?_))))))))
     have ej := Option.some.inj h
     subst ej
     exact Done.ret rfl rfl
theorem strips_Validate_ok {t : TTask} {r : TFault} (h : strips_Validate t = some r) : PureOk Tryd.prog 24 [.agg [int t.facts, row 1 intI t.init, row 1 intI t.goal, row 4 eTOperator t.operators]] (.agg [int r.code, int r.index]) := by
 unfold PureOk
 refine FnOk.enter (rs := [.cell 2 24 2]) Tryd.func24 rfl Tryd.ntmps24 Tryd.results24 rfl ⟨rv _ rfl, trivial⟩ (by kernel_rfl) rfl ?_
 unfold strips_Validate at h
 refine AWP.seq (.region (W.box rfl rfl rfl rfl rfl rfl (W.alloc rfl rfl rfl rfl (.nil (thn_normal (.seq (.block (.seqJ (⟨[(1, .c (.ptr 0 0 0)), (2, .c (.ptr 1 0 0)), (6, .c (bool ((decide (t.facts < 0)) || (decide (24 < t.facts)))))], [.one (.cells 4 [[int t.facts, row 1 intI t.init, row 1 intI t.goal, row 4 eTOperator t.operators]]), .one (.cells 2 [[int 0, int 0]])]⟩) ?_ ?_))))))))
 ·rcases Bool.eq_false_or_eq_true (decide (t.facts < 0)) with hb1 | hb1
  ·refine AWP.region (W.fieldAddr rfl rfl rfl rfl (.load rfl rfl rfl rfl rfl rfl (.lss rfl rfl rfl (.move rfl rfl (.guardF rfl rfl rfl hb1 (.guardF rfl rfl rfl hb1 (.guardF rfl rfl rfl hb1 (.pickT rfl hb1 rfl rfl (.assign rfl rfl (.nil (thn_normal ?_)))))))))))
   simp only [and_t hb1, or_t hb1, Bool.false_or, Bool.true_or, Bool.false_and, Bool.true_and]
   exact Sub.env ⟨rfl, rfl, rfl, trivial⟩
  ·refine AWP.region (W.fieldAddr rfl rfl rfl rfl (.load rfl rfl rfl rfl rfl rfl (.lss rfl rfl rfl (.move rfl rfl (.guardT rfl rfl rfl hb1 (W.fieldAddr rfl rfl rfl rfl (.guardT rfl rfl rfl hb1 (.load rfl rfl rfl rfl rfl rfl (.guardT rfl rfl rfl hb1 (.gtr rfl rfl rfl (.pickF rfl hb1 rfl rfl (.assign rfl rfl (.nil (thn_normal ?_))))))))))))))
   simp only [and_f hb1, or_f hb1, Bool.false_or, Bool.true_or, Bool.false_and, Bool.true_and]
   exact Sub.env ⟨rfl, rfl, rfl, trivial⟩
 ·refine AWP.iteB rfl h (fun hc2 h => ?_) (fun hc2 h => ?_)
  ·refine AWP.seq (.region (W.build rfl rfl rfl rfl (W.storeAgg rfl rfl rfl rfl rfl rfl rfl (.nil (thn_normal (.ret (inB_ret (thn_ret ?_))))))))
   have ej := Option.some.inj h
   subst ej
   exact Done.ret rfl rfl
  ·refine AWP.seq ?_
   obtain ⟨a21, ha21, h⟩ := bind_some h
   refine AWP.region (W.fieldAddr rfl rfl rfl rfl (.load rfl rfl rfl rfl rfl rfl (W.fieldAddr rfl rfl rfl rfl (.load rfl rfl rfl rfl rfl rfl (.callR rfl rfl rfl rfl (strips_IsSet_ok ha21) rfl (.not rfl rfl (.assign rfl rfl (.nil (thn_normal (.iteB rfl h (fun hc3 h => ?_) (fun hc3 h => ?_)))))))))))
   ·refine AWP.seq (.region (W.build rfl rfl rfl rfl (W.storeAgg rfl rfl rfl rfl rfl rfl rfl (.nil (thn_normal (.ret (inB_ret (thn_ret ?_))))))))
    have ej := Option.some.inj h
    subst ej
    exact Done.ret rfl rfl
   ·refine AWP.seq ?_
    obtain ⟨a29, ha29, h⟩ := bind_some h
    refine AWP.region (W.fieldAddr rfl rfl rfl rfl (.load rfl rfl rfl rfl rfl rfl (W.fieldAddr rfl rfl rfl rfl (.load rfl rfl rfl rfl rfl rfl (.callR rfl rfl rfl rfl (strips_IsSet_ok ha29) rfl (.not rfl rfl (.assign rfl rfl (.nil (thn_normal (.iteB rfl h (fun hc4 h => ?_) (fun hc4 h => ?_)))))))))))
    ·refine AWP.seq (.region (W.build rfl rfl rfl rfl (W.storeAgg rfl rfl rfl rfl rfl rfl rfl (.nil (thn_normal (.ret (inB_ret (thn_ret ?_))))))))
     have ej := Option.some.inj h
     subst ej
     exact Done.ret rfl rfl
    ·refine AWP.seq (.region (W.fieldAddr rfl rfl rfl rfl (.load rfl rfl rfl rfl rfl rfl (S.len rfl rfl (fun hl35 => .gtr rfl rfl rfl (.assign rfl rfl (.nil (thn_normal (.ite rfl h (fun hc5 h => ?_) (fun hc5 h => ?_))))))))))
     ·refine AWP.seq (.region (W.build rfl rfl rfl rfl (W.storeAgg rfl rfl rfl rfl rfl rfl rfl (.nil (thn_normal (.ret (inB_ret (thn_ret ?_))))))))
      have ej := Option.some.inj h
      subst ej
      exact Done.ret rfl rfl
     ·refine AWP.skip (inB_normal (thn_normal (.seq (.seq (.region (W.fieldAddr rfl rfl rfl rfl (.load rfl rfl rfl rfl rfl rfl (S.len rfl rfl (fun hl40 => .move rfl rfl (.nil (thn_normal (.block ?_))))))))))))
      obtain ⟨oo, ho1, h⟩ := bind_some h
      refine AWP.rngS ho1 (fun t6 _ => ⟨[(1, .c (.ptr 0 0 0)), (2, .c (.ptr 1 0 0)), (39, .c (row 4 eTOperator t.operators)), (40, .c (int (t.operators.length : Int))), (41, .c (int t6))], [.one (.cells 4 [[int t.facts, row 1 intI t.init, row 1 intI t.goal, row 4 eTOperator t.operators]]), .one (.cells 2 [[int 0, int 0]])]⟩) (fun o e st => match o with | .inl _ => e = .exit 1 ∧ Sub [] st ⟨[(2, .c (.ptr 1 0 0))], [.one (.cells 4 [[int t.facts, row 1 intI t.init, row 1 intI t.goal, row 4 eTOperator t.operators]]), .one (.cells 2 [[int 0, int 0]])]⟩ | .inr x => e = .ret ∧ Done [.cell 2 24 2] (fun t _ => t = .agg [int x.code, int x.index]) .ret st) ?_ ?_ ?_ ?_
      ·try dsimp only
       exact Sub.env ⟨rfl, rfl, rfl, rfl, rfl, trivial⟩
      ·intro t6 s hlot6 hltt6 _
       try dsimp only
       refine AWP.seq (.region (.lss rfl rfl rfl (.nil (thn_normal (.seq (.condNP rfl hltt6 (.exit (thn_exit (thn_exit ⟨rfl, ?_⟩)))))))))
       exact Sub.env ⟨rfl, trivial⟩
      ·intro t6 s o hlot6 hltt6 h
       unfold strips_Validate_l1 at h
       try dsimp only at h ⊢
       refine AWP.seq (.region (.lss rfl rfl rfl (.nil (thn_normal (.seq (.condP rfl hltt6 (.skip (thn_normal (.seq (.block (.seq ?_)))))))))))
       obtain ⟨a44, ha44, h⟩ := bind_some h
       refine AWP.region (.move rfl rfl (S.idx ha44 rfl rfl rfl rfl (W.loadIAgg rfl rfl rfl rfl rfl (W.alloc rfl rfl rfl rfl (.assign rfl rfl (W.storeAgg rfl rfl rfl rfl rfl rfl rfl (.nil (thn_normal (.seq ?_)))))))))
       obtain ⟨a49, ha49, h⟩ := bind_some h
       refine AWP.region (W.loadAgg rfl rfl rfl rfl rfl rfl rfl (W.fieldAddr rfl rfl rfl rfl (.load rfl rfl rfl rfl rfl rfl (.callR rfl rfl rfl rfl (strips_operator_ok ha49) rfl (.assign rfl rfl (.nil (thn_normal (.seq (.region (.move rfl rfl (.neq rfl rfl rfl (.nil (thn_normal (.iteN rfl h (fun hc7 h => ?_) (fun hc7 h => ?_)))))))))))))))
       ·refine AWP.seq (.region (.move rfl rfl (.move rfl rfl (W.build rfl rfl rfl rfl (W.storeAgg rfl rfl rfl rfl rfl rfl rfl (.nil (thn_normal (.ret (inB_ret (thn_ret ?_))))))))))
        have ej := Option.some.inj h
        subst ej
        refine thn_ret ⟨_, rfl, rfl, ?_⟩
        exact Done.ret rfl rfl
       ·refine AWP.skip (inB_normal (thn_normal (.region (.add rfl rfl rfl (by omega) (.move rfl rfl (.nil ?_))))))
        have ej := Option.some.inj h
        subst ej
        refine thn_normal ⟨_, rfl, ?_⟩
        exact Sub.cut ⟨rfl, rfl, rfl, rfl, rfl, trivial⟩ rfl ⟨.one rfl, .one rfl, trivial⟩ rfl
      ·intro e s hq
       rcases oo with u | x
       ·try dsimp only at h hq
        obtain ⟨rfl, hs⟩ := hq
        refine ⟨_, hs, ?_⟩
        refine inB_exit (thn_normal (.seq (.region (W.build rfl rfl rfl rfl (W.storeAgg rfl rfl rfl rfl rfl rfl rfl (.nil (thn_normal (.ret ?_))))))))
        have ej := Option.some.inj h
        subst ej
        exact Done.ret rfl rfl
       ·try dsimp only at h hq
        obtain ⟨rfl, hs⟩ := hq
        refine ⟨_, Sub.refl _ _, ?_⟩
        refine inB_ret (thn_ret ?_)
        have ej := Option.some.inj h
        subst ej
        exact hs
theorem strips_Steps_ok {operators : Int} {plan : List Int} {r : TFault} (h : strips_Steps operators plan = some r) : PureOk Tryd.prog 25 [.c (int operators), .c (row 1 intI plan)] (.agg [int r.code, int r.index]) := by
 unfold PureOk
 refine FnOk.enter (rs := [.cell 4 24 2]) Tryd.func25 rfl Tryd.ntmps25 Tryd.results25 rfl ⟨rv _ rfl, trivial⟩ (by kernel_rfl) rfl ?_
 unfold strips_Steps at h
 refine AWP.seq (.region (W.alloc rfl rfl rfl rfl (.nil (thn_normal (.seq (.seq (.region (.move rfl rfl (S.len rfl rfl (fun hl8 => .gtr rfl rfl rfl (.nil (thn_normal (.ite rfl h (fun hc3 h => ?_) (fun hc3 h => ?_))))))))))))))
 ·refine AWP.seq (.region (W.build rfl rfl rfl rfl (W.storeAgg rfl rfl rfl rfl rfl rfl rfl (.nil (thn_normal (.ret (thn_ret ?_)))))))
  have ej := Option.some.inj h
  subst ej
  exact Done.ret rfl rfl
 ·refine AWP.skip (thn_normal (.seq (.seq (.region (.move rfl rfl (S.len rfl rfl (fun hl12 => .move rfl rfl (.nil (thn_normal (.block ?_))))))))))
  obtain ⟨oo, ho1, h⟩ := bind_some h
  refine AWP.rngS ho1 (fun t4 _ => ⟨[(0, .c (int operators)), (4, .c (.ptr 0 0 0)), (11, .c (row 1 intI plan)), (12, .c (int (plan.length : Int))), (13, .c (int t4))], [.one (.cells 2 [[int 0, int 0]])]⟩) (fun o e st => match o with | .inl _ => e = .exit 0 ∧ Sub [] st ⟨[(4, .c (.ptr 0 0 0))], [.one (.cells 2 [[int 0, int 0]])]⟩ | .inr x => e = .ret ∧ Done [.cell 4 24 2] (fun t _ => t = .agg [int x.code, int x.index]) .ret st) ?_ ?_ ?_ ?_
  ·try dsimp only
   exact Sub.env ⟨rfl, rfl, rfl, rfl, rfl, trivial⟩
  ·intro t4 s hlot4 hltt4 _
   try dsimp only
   refine AWP.seq (.region (.lss rfl rfl rfl (.nil (thn_normal (.seq (.condNP rfl hltt4 (.exit (thn_exit (thn_exit ⟨rfl, ?_⟩)))))))))
   exact Sub.env ⟨rfl, trivial⟩
  ·intro t4 s o hlot4 hltt4 h
   unfold strips_Steps_l1 at h
   try dsimp only at h ⊢
   refine AWP.seq (.region (.lss rfl rfl rfl (.nil (thn_normal (.seq (.condP rfl hltt4 (.skip (thn_normal (.seq (.block (.seq ?_)))))))))))
   obtain ⟨a15, ha15, h⟩ := bind_some h
   refine AWP.region (S.idx ha15 rfl rfl rfl rfl (.loadI rfl rfl rfl rfl (.assign rfl rfl (.nil (thn_normal (.seqJ (⟨[(0, .c (int operators)), (4, .c (.ptr 0 0 0)), (11, .c (row 1 intI plan)), (12, .c (int (plan.length : Int))), (13, .c (int t4)), (23, .c (bool ((decide (a15 < 0)) || (decide (operators ≤ a15)))))], [.one (.cells 2 [[int 0, int 0]])]⟩) ?_ ?_))))))
   ·rcases Bool.eq_false_or_eq_true (decide (a15 < 0)) with hb1 | hb1
    ·refine AWP.region (.move rfl rfl (.lss rfl rfl rfl (.move rfl rfl (.guardF rfl rfl rfl hb1 (.guardF rfl rfl rfl hb1 (.guardF rfl rfl rfl hb1 (.pickT rfl hb1 rfl rfl (.nil (thn_normal ?_)))))))))
     simp only [and_t hb1, or_t hb1, Bool.false_or, Bool.true_or, Bool.false_and, Bool.true_and]
     exact Sub.env ⟨rfl, rfl, rfl, rfl, rfl, rfl, trivial⟩
    ·refine AWP.region (.move rfl rfl (.lss rfl rfl rfl (.move rfl rfl (.guardT rfl rfl rfl hb1 (.move rfl rfl (.guardT rfl rfl rfl hb1 (.move rfl rfl (.guardT rfl rfl rfl hb1 (.geq rfl rfl rfl (.pickF rfl hb1 rfl rfl (.nil (thn_normal ?_))))))))))))
     simp only [and_f hb1, or_f hb1, Bool.false_or, Bool.true_or, Bool.false_and, Bool.true_and]
     exact Sub.env ⟨rfl, rfl, rfl, rfl, rfl, rfl, trivial⟩
   ·refine AWP.iteB rfl h (fun hc5 h => ?_) (fun hc5 h => ?_)
    ·refine AWP.seq (.region (W.build rfl rfl rfl rfl (W.storeAgg rfl rfl rfl rfl rfl rfl rfl (.nil (thn_normal (.ret (inB_ret (thn_ret ?_))))))))
     have ej := Option.some.inj h
     subst ej
     refine thn_ret ⟨_, rfl, rfl, ?_⟩
     exact Done.ret rfl rfl
    ·refine AWP.skip (inB_normal (thn_normal (.region (.add rfl rfl rfl (by omega) (.move rfl rfl (.nil ?_))))))
     have ej := Option.some.inj h
     subst ej
     refine thn_normal ⟨_, rfl, ?_⟩
     exact Sub.env ⟨rfl, rfl, rfl, rfl, rfl, trivial⟩
  ·intro e s hq
   rcases oo with u | x
   ·try dsimp only at h hq
    obtain ⟨rfl, hs⟩ := hq
    refine ⟨_, hs, ?_⟩
    refine inB_exit (thn_normal (.seq (.region (W.build rfl rfl rfl rfl (W.storeAgg rfl rfl rfl rfl rfl rfl rfl (.nil (thn_normal (.ret ?_))))))))
    have ej := Option.some.inj h
    subst ej
    exact Done.ret rfl rfl
   ·try dsimp only at h hq
    obtain ⟨rfl, hs⟩ := hq
    refine ⟨_, Sub.refl _ _, ?_⟩
    refine inB_ret (thn_ret ?_)
    have ej := Option.some.inj h
    subst ej
    exact hs
theorem strips_PlanFault_ok {t : TTask} {plan : List Int} {r : TFault} (h : strips_PlanFault t plan = some r) : PureOk Tryd.prog 15 [.agg [int t.facts, row 1 intI t.init, row 1 intI t.goal, row 4 eTOperator t.operators], .c (row 1 intI plan)] (.agg [int r.code, int r.index]) := by
 unfold PureOk
 refine FnOk.enter (rs := [.cell 4 24 2]) Tryd.func15 rfl Tryd.ntmps15 Tryd.results15 rfl ⟨rv _ rfl, trivial⟩ (by kernel_rfl) rfl ?_
 unfold strips_PlanFault at h
 refine AWP.seq (.region (W.box rfl rfl rfl rfl rfl rfl (W.alloc rfl rfl rfl rfl (.nil (thn_normal (.seq (.seq ?_)))))))
 obtain ⟨a7, ha7, h⟩ := bind_some h
 refine AWP.region (W.loadAgg rfl rfl rfl rfl rfl rfl rfl (.callR rfl rfl rfl rfl (strips_Validate_ok ha7) rfl (W.alloc rfl rfl rfl rfl (W.storeAgg rfl rfl rfl rfl rfl rfl rfl (.nil (thn_normal (.seq (.region (W.loadAgg rfl rfl rfl rfl rfl rfl rfl (W.build rfl rfl rfl rfl (.neqP rfl rfl rfl rfl rfl rfl rfl (.nil (thn_normal (.iteB rfl h (fun hc3 h => ?_) (fun hc3 h => ?_)))))))))))))))
 ·refine AWP.seq (.region (W.loadAgg rfl rfl rfl rfl rfl rfl rfl (W.storeAgg rfl rfl rfl rfl rfl rfl rfl (.nil (thn_normal (.ret (thn_ret ?_)))))))
  have ej := Option.some.inj h
  subst ej
  exact Done.ret rfl rfl
 ·refine AWP.skip (thn_normal (.seq ?_))
  obtain ⟨a16, ha16, h⟩ := bind_some h
  refine AWP.region (W.fieldAddr rfl rfl rfl rfl (.load rfl rfl rfl rfl rfl rfl (S.len rfl rfl (fun hl14 => .move rfl rfl (.callR rfl rfl rfl rfl (strips_Steps_ok ha16) rfl (W.storeAgg rfl rfl rfl rfl rfl rfl rfl (.nil (thn_normal (.ret ?_)))))))))
  have ej := Option.some.inj h
  subst ej
  exact Done.ret rfl rfl
theorem strips_Contains_ok {sv : List Int} {part : List Int} {r : Bool} (h : strips_Contains sv part = some r) : PureOk Tryd.prog 20 [.c (row 1 intI sv), .c (row 1 intI part)] (.c (bool r)) := by
 unfold PureOk
 refine FnOk.enter (rs := [.t 4]) Tryd.func20 rfl Tryd.ntmps20 Tryd.results20 rfl ⟨trivial, trivial⟩ (by kernel_rfl) rfl ?_
 unfold strips_Contains at h
 refine AWP.seq (.region (.assign rfl rfl (.nil (thn_normal (.seq (.region (.assign rfl rfl (.nil (thn_normal (.seq (.seq (.region (.move rfl rfl (S.len rfl rfl (fun hl9 => .move rfl rfl (.nil (thn_normal (.block ?_))))))))))))))))))
 obtain ⟨oo, ho1, h⟩ := bind_some h
 refine AWP.rngS ho1 (fun t4 iv3 => ⟨[(0, .c (row 1 intI sv)), (5, .c (int iv3)), (8, .c (row 1 intI part)), (9, .c (int (part.length : Int))), (10, .c (int t4))], []⟩) (fun o e st => match o with | .inl iv3 => e = .exit 0 ∧ Sub [] st ⟨[], []⟩ | .inr x => e = .ret ∧ Done [.t 4] (fun t _ => t = .c (bool x)) .ret st) ?_ ?_ ?_ ?_
 ·try dsimp only
  exact Sub.env ⟨rfl, rfl, rfl, rfl, rfl, trivial⟩
 ·intro t4 iv3 hlot4 hltt4 _
  try dsimp only
  refine AWP.seq (.region (.lss rfl rfl rfl (.nil (thn_normal (.seq (.condNP rfl hltt4 (.exit (thn_exit (thn_exit ⟨rfl, ?_⟩)))))))))
  exact Sub.env trivial
 ·intro t4 iv3 o hlot4 hltt4 h
  unfold strips_Contains_l1 at h
  try dsimp only at h ⊢
  refine AWP.seq (.region (.lss rfl rfl rfl (.nil (thn_normal (.seq (.condP rfl hltt4 (.skip (thn_normal (.seq (.block (.seq ?_)))))))))))
  obtain ⟨a12, ha12, h⟩ := bind_some h
  refine AWP.region (S.idx ha12 rfl rfl rfl rfl (.loadI rfl rfl rfl rfl (.assign rfl rfl (.nil (thn_normal (.seq (.block ?_)))))))
  obtain ⟨iv6, ho2, h⟩ := bind_some h
  refine AWP.loopS ho2 (fun iv5 => ⟨[(0, .c (row 1 intI sv)), (5, .c (int iv5)), (7, .c (int a12)), (8, .c (row 1 intI part)), (9, .c (int (part.length : Int))), (10, .c (int t4))], []⟩) (fun iv6 e st => e = .exit 2 ∧ Sub [] st ⟨[(0, .c (row 1 intI sv)), (5, .c (int iv6)), (7, .c (int a12)), (8, .c (row 1 intI part)), (9, .c (int (part.length : Int))), (10, .c (int t4))], []⟩) ?_ ?_ ?_
  ·try dsimp only
   exact Sub.env ⟨rfl, rfl, rfl, rfl, rfl, rfl, trivial⟩
  ·intro iv5 o h
   unfold strips_Contains_l2 at h
   try dsimp only at h ⊢
   refine AWP.seq ?_
   obtain ⟨t7, hx8, h⟩ := bind_some h
   refine AWP.seqJ (⟨[(0, .c (row 1 intI sv)), (5, .c (int iv5)), (7, .c (int a12)), (8, .c (row 1 intI part)), (9, .c (int (part.length : Int))), (10, .c (int t4)), (25, .c (bool t7))], []⟩) ?_ ?_
   ·rcases Bool.eq_false_or_eq_true (decide (iv5 < (sv.length : Int))) with hb9 | hb9
    ·replace hx8 := iteDT hb9 hx8
     obtain ⟨a21, ha21, hx8⟩ := bind_some hx8
     refine AWP.region (.move rfl rfl (.move rfl rfl (S.len rfl rfl (fun hl16 => .lss rfl rfl rfl (.move rfl rfl (.guardT rfl rfl rfl hb9 (.move rfl rfl (.guardT rfl rfl rfl hb9 (.move rfl rfl (.guardT rfl rfl rfl hb9 (S.idx ha21 rfl rfl rfl rfl (.guardT rfl rfl rfl hb9 (.loadI rfl rfl rfl rfl (.guardT rfl rfl rfl hb9 (.move rfl rfl (.guardT rfl rfl rfl hb9 (.lss rfl rfl rfl (.pickT rfl hb9 rfl rfl (.nil ?_)))))))))))))))))))
     have ej := Option.some.inj hx8
     subst ej
     refine thn_normal (Sub.env ⟨rfl, rfl, rfl, rfl, rfl, rfl, rfl, trivial⟩)
    ·replace hx8 := iteDF hb9 hx8
     refine AWP.region (.move rfl rfl (.move rfl rfl (S.len rfl rfl (fun hl16 => .lss rfl rfl rfl (.move rfl rfl (.guardF rfl rfl rfl hb9 (.guardF rfl rfl rfl hb9 (.guardF rfl rfl rfl hb9 (.guardF rfl rfl rfl hb9 (.guardF rfl rfl rfl hb9 (.guardF rfl rfl rfl hb9 (.pickF rfl hb9 rfl rfl (.nil ?_)))))))))))))
     have ej := Option.some.inj hx8
     subst ej
     refine thn_normal (Sub.env ⟨rfl, rfl, rfl, rfl, rfl, rfl, rfl, trivial⟩)
   ·refine AWP.iteB rfl h (fun hc10 h => ?_) (fun hc10 h => ?_)
    ·refine AWP.skip (thn_normal (.block (.region (.move rfl rfl (S.add rfl rfl rfl (.assign rfl rfl (.nil (inB_normal ?_))))))))
     have ej := Option.some.inj h
     subst ej
     refine thn_normal ⟨_, rfl, ?_⟩
     exact Sub.env ⟨rfl, rfl, rfl, rfl, rfl, rfl, trivial⟩
    ·refine AWP.exit (thn_exit ?_)
     have ej := Option.some.inj h
     subst ej
     refine thn_exit ⟨_, rfl, rfl, ?_⟩
     exact Sub.env ⟨rfl, rfl, rfl, rfl, rfl, rfl, trivial⟩
  ·intro e s hq
   obtain ⟨rfl, hs⟩ := hq
   refine ⟨_, hs, ?_⟩
   refine inB_exit (thn_normal ?_)
   obtain ⟨t11, hx12, h⟩ := bind_some h
   refine AWP.seqJ (⟨[(0, .c (row 1 intI sv)), (5, .c (int iv6)), (8, .c (row 1 intI part)), (9, .c (int (part.length : Int))), (10, .c (int t4)), (39, .c (bool t11))], []⟩) ?_ ?_
   ·rcases Bool.eq_false_or_eq_true (decide (iv6 = (sv.length : Int))) with hb13 | hb13
    ·replace hx12 := iteDT hb13 hx12
     refine AWP.region (.move rfl rfl (.move rfl rfl (S.len rfl rfl (fun hl30 => .eql rfl rfl rfl (.move rfl rfl (.guardF rfl rfl rfl hb13 (.guardF rfl rfl rfl hb13 (.guardF rfl rfl rfl hb13 (.guardF rfl rfl rfl hb13 (.guardF rfl rfl rfl hb13 (.guardF rfl rfl rfl hb13 (.pickT rfl hb13 rfl rfl (.nil ?_)))))))))))))
     have ej := Option.some.inj hx12
     subst ej
     refine thn_normal (Sub.env ⟨rfl, rfl, rfl, rfl, rfl, rfl, trivial⟩)
    ·replace hx12 := iteDF hb13 hx12
     obtain ⟨a35, ha35, hx12⟩ := bind_some hx12
     refine AWP.region (.move rfl rfl (.move rfl rfl (S.len rfl rfl (fun hl30 => .eql rfl rfl rfl (.move rfl rfl (.guardT rfl rfl rfl hb13 (.move rfl rfl (.guardT rfl rfl rfl hb13 (.move rfl rfl (.guardT rfl rfl rfl hb13 (S.idx ha35 rfl rfl rfl rfl (.guardT rfl rfl rfl hb13 (.loadI rfl rfl rfl rfl (.guardT rfl rfl rfl hb13 (.move rfl rfl (.guardT rfl rfl rfl hb13 (.neq rfl rfl rfl (.pickF rfl hb13 rfl rfl (.nil ?_)))))))))))))))))))
     have ej := Option.some.inj hx12
     subst ej
     refine thn_normal (Sub.env ⟨rfl, rfl, rfl, rfl, rfl, rfl, trivial⟩)
   ·refine AWP.iteB rfl h (fun hc14 h => ?_) (fun hc14 h => ?_)
    ·refine AWP.seq (.region (.assign rfl rfl (.nil (thn_normal (.ret (inB_ret (thn_ret ?_)))))))
     have ej := Option.some.inj h
     subst ej
     refine thn_ret ⟨_, rfl, rfl, ?_⟩
     exact Done.ret rfl rfl
    ·refine AWP.skip (inB_normal (thn_normal (.region (.add rfl rfl rfl (by omega) (.move rfl rfl (.nil ?_))))))
     have ej := Option.some.inj h
     subst ej
     refine thn_normal ⟨_, rfl, ?_⟩
     exact Sub.env ⟨rfl, rfl, rfl, rfl, rfl, trivial⟩
 ·intro e s hq
  rcases oo with iv3 | x
  ·try dsimp only at h hq
   obtain ⟨rfl, hs⟩ := hq
   refine ⟨_, hs, ?_⟩
   refine inB_exit (thn_normal (.seq (.region (.assign rfl rfl (.nil (thn_normal (.ret ?_)))))))
   have ej := Option.some.inj h
   subst ej
   exact Done.ret rfl rfl
  ·try dsimp only at h hq
   obtain ⟨rfl, hs⟩ := hq
   refine ⟨_, Sub.refl _ _, ?_⟩
   refine inB_ret (thn_ret ?_)
   have ej := Option.some.inj h
   subst ej
   exact hs
theorem belief_Sure_1_ok {sv : List Int} {c2 : List Int} {r : Bool} (h : belief_Sure_1 sv c2 = some r) : PureOk Tryd.prog 48 [.c (row 1 intI sv), .c (.imm (.ipt [.sl 1 (List.map intI c2)]))] (.c (bool r)) := by
 unfold PureOk
 refine FnOk.enter (rs := [.t 3]) Tryd.func48 rfl Tryd.ntmps48 Tryd.results48 rfl ⟨trivial, trivial⟩ (by kernel_rfl) rfl ?_
 unfold belief_Sure_1 at h
 refine AWP.seq (.region (.assign rfl rfl (.nil (thn_normal (.seq ?_)))))
 obtain ⟨a6, ha6, h⟩ := bind_some h
 refine AWP.region (.move rfl rfl (.loadI rfl rfl rfl rfl (.callR rfl rfl rfl rfl (strips_Contains_ok ha6) rfl (.not rfl rfl (.assign rfl rfl (.nil (thn_normal (.ret ?_))))))))
 have ej := Option.some.inj h
 subst ej
 exact Done.ret rfl rfl
theorem slices_IndexFunc_LLint_ok {sv : List (List Int)} {fv : (List Int) → Option Bool} {r : Int} {fvfv : FuncId} {cvfv : List C} (hcvfv : C.okL 0 cvfv = true) (hfv : ∀ {y1 : List Int} {z : Bool}, fv y1 = some z → PureOk Tryd.prog fvfv ([.c (row 1 intI y1)] ++ cvfv.map T.c) (.c (bool z))) (h : slices_IndexFunc_LLint sv fv = some r) : PureOk Tryd.prog 59 [.c (row 1 eLi64 sv), .c (.fn fvfv cvfv)] (.c (int r)) := by
 unfold PureOk
 refine FnOk.enter (rs := [.t 4]) Tryd.func59 rfl Tryd.ntmps59 Tryd.results59 rfl ⟨trivial, trivial⟩ (by kernel_rfl) rfl ?_
 unfold slices_IndexFunc_LLint at h
 refine AWP.seq (.region (.assign rfl rfl (.nil (thn_normal (.seq (.seq (.region (.move rfl rfl (S.len rfl rfl (fun hl7 => .move rfl rfl (.nil (thn_normal (.block ?_)))))))))))))
 obtain ⟨oo, ho1, h⟩ := bind_some h
 refine AWP.rngS ho1 (fun t3 _ => ⟨[(0, .c (row 1 eLi64 sv)), (1, .c (.fn fvfv cvfv)), (7, .c (int (sv.length : Int))), (8, .c (int t3))], []⟩) (fun o e st => match o with | .inl _ => e = .exit 0 ∧ Sub [] st ⟨[], []⟩ | .inr x => e = .ret ∧ Done [.t 4] (fun t _ => t = .c (int x)) .ret st) ?_ ?_ ?_ ?_
 ·try dsimp only
  exact Sub.env ⟨rfl, rfl, rfl, rfl, trivial⟩
 ·intro t3 s hlot3 hltt3 _
  try dsimp only
  refine AWP.seq (.region (.lss rfl rfl rfl (.nil (thn_normal (.seq (.condNP rfl hltt3 (.exit (thn_exit (thn_exit ⟨rfl, ?_⟩)))))))))
  exact Sub.env trivial
 ·intro t3 s o hlot3 hltt3 h
  unfold slices_IndexFunc_LLint_l1 at h
  try dsimp only at h ⊢
  refine AWP.seq (.region (.lss rfl rfl rfl (.nil (thn_normal (.seq (.condP rfl hltt3 (.skip (thn_normal (.seq (.block (.seq (.region (.move rfl rfl (.assign rfl rfl (.nil (thn_normal (.seq ?_)))))))))))))))))
  obtain ⟨a14, ha14, h⟩ := bind_some h
  obtain ⟨a16, ha16, h⟩ := bind_some h
  refine AWP.region (.move rfl rfl (.move rfl rfl (.move rfl rfl (S.idx ha14 rfl rfl rfl rfl (.loadI rfl rfl rfl rfl (.callR rfl rfl (okL_app rfl hcvfv) rfl (hfv ha16) rfl (.nil (thn_normal (.iteB rfl h (fun hc4 h => ?_) (fun hc4 h => ?_))))))))))
  ·refine AWP.seq (.region (.move rfl rfl (.assign rfl rfl (.nil (thn_normal (.ret (inB_ret (thn_ret ?_))))))))
   have ej := Option.some.inj h
   subst ej
   refine thn_ret ⟨_, rfl, rfl, ?_⟩
   exact Done.ret rfl rfl
  ·refine AWP.skip (inB_normal (thn_normal (.region (.add rfl rfl rfl (by omega) (.move rfl rfl (.nil ?_))))))
   have ej := Option.some.inj h
   subst ej
   refine thn_normal ⟨_, rfl, ?_⟩
   exact Sub.env ⟨rfl, rfl, rfl, rfl, trivial⟩
 ·intro e s hq
  rcases oo with u | x
  ·try dsimp only at h hq
   obtain ⟨rfl, hs⟩ := hq
   refine ⟨_, hs, ?_⟩
   refine inB_exit (thn_normal (.seq (.region (.assign rfl rfl (.nil (thn_normal (.ret ?_)))))))
   have ej := Option.some.inj h
   subst ej
   exact Done.ret rfl rfl
  ·try dsimp only at h hq
   obtain ⟨rfl, hs⟩ := hq
   refine ⟨_, Sub.refl _ _, ?_⟩
   refine inB_ret (thn_ret ?_)
   have ej := Option.some.inj h
   subst ej
   exact hs
theorem slices_ContainsFunc_LLint_ok {sv : List (List Int)} {fv : (List Int) → Option Bool} {r : Bool} {fvfv : FuncId} {cvfv : List C} (hcvfv : C.okL 0 cvfv = true) (hfv : ∀ {y1 : List Int} {z : Bool}, fv y1 = some z → PureOk Tryd.prog fvfv ([.c (row 1 intI y1)] ++ cvfv.map T.c) (.c (bool z))) (h : slices_ContainsFunc_LLint sv fv = some r) : PureOk Tryd.prog 47 [.c (row 1 eLi64 sv), .c (.fn fvfv cvfv)] (.c (bool r)) := by
 unfold PureOk
 refine FnOk.enter (rs := [.t 4]) Tryd.func47 rfl Tryd.ntmps47 Tryd.results47 rfl ⟨trivial, trivial⟩ (by kernel_rfl) rfl ?_
 unfold slices_ContainsFunc_LLint at h
 refine AWP.seq (.region (.assign rfl rfl (.nil (thn_normal (.seq ?_)))))
 obtain ⟨a7, ha7, h⟩ := bind_some h
 refine AWP.region (.move rfl rfl (.move rfl rfl (.callR rfl rfl (by simp [T.okL, T.ok, C.ok, C.okL, hcvfv]) rfl (slices_IndexFunc_LLint_ok hcvfv hfv ha7) rfl (.geq rfl rfl rfl (.assign rfl rfl (.nil (thn_normal (.ret ?_))))))))
 have ej := Option.some.inj h
 subst ej
 exact Done.ret rfl rfl
theorem belief_Sure_ok {worlds : List (List Int)} {facts : List Int} {r : Bool} (h : belief_Sure worlds facts = some r) : PureOk Tryd.prog 40 [.c (row 1 eLi64 worlds), .c (row 1 intI facts)] (.c (bool r)) := by
 unfold PureOk
 refine FnOk.enter (rs := [.t 4]) Tryd.func40 rfl Tryd.ntmps40 Tryd.results40 rfl ⟨trivial, trivial⟩ (by kernel_rfl) rfl ?_
 unfold belief_Sure at h
 refine AWP.seq (.region (W.box rfl rfl rfl rfl rfl rfl (.assign rfl rfl (.nil (thn_normal (.seq ?_))))))
 obtain ⟨a7, ha7, h⟩ := bind_some h
 refine AWP.region (.move rfl rfl (.makeFunc rfl rfl (.callL rfl rfl (.cons (.c .imm) (.cons (.c (.fn (.cons (.ptr (es := [.sl 1 (List.map intI facts)]) rfl rfl (.cons .imm .nil)) .nil))) .nil)) rfl (slices_ContainsFunc_LLint_ok rfl (fun hy => belief_Sure_1_ok hy) ha7) rfl ?_)))
 refine AOps.not rfl rfl (.assign rfl rfl (.nil (thn_normal (.ret ?_))))
 have ej := Option.some.inj h
 subst ej
 exact Done.ret rfl rfl
theorem strips_Update_ok {sv : List Int} {add : List Int} {del : List Int} {r : (List Int)} (h : strips_Update sv add del = some r) : FreshOk Tryd.prog 42 [.c (row 1 intI sv), .c (row 1 intI add), .c (row 1 intI del)] 1 (List.map intI r) := by
 unfold FreshOk
 refine FnOk.enter (rs := [.t 6]) Tryd.func42 rfl Tryd.ntmps42 Tryd.results42 rfl ⟨trivial, trivial⟩ (by kernel_rfl) rfl ?_
 unfold strips_Update at h
 refine AWP.seq (.region (.assign rfl rfl (.nil (thn_normal (.seq (.region (.assign rfl rfl (.nil (thn_normal (.seq (.seq (.region (.move rfl rfl (S.len rfl rfl (fun hl13 => .move rfl rfl (.nil (thn_normal (.block (.virtV 1 intI 7 rfl rfl rfl ?_)))))))))))))))))))
 obtain ⟨c4, ho1, h⟩ := bind_some h
 refine AWP.forS ho1 (fun t5 c4 => ⟨[(1, .c (row 1 intI add)), (2, .c (row 1 intI del)), (7, .c (.own 0 0 c4.length)), (12, .c (row 1 intI sv)), (13, .c (int (sv.length : Int))), (14, .c (int t5))], [.one (vec 1 intI c4)]⟩) (fun c4 e st => e = .exit 0 ∧ Sub [] st ⟨[(1, .c (row 1 intI add)), (7, .c (.own 0 0 c4.length))], [.one (vec 1 intI c4)]⟩) ?_ ?_ ?_ ?_
 ·try dsimp only
  exact Sub.env ⟨rfl, rfl, (own_len (by first | rfl | simp only [List.length_set])), rfl, rfl, rfl, trivial⟩
 ·intro t5 c4 hlot5 hltt5 _
  try dsimp only
  refine AWP.seq (.region (.lss rfl rfl rfl (.nil (thn_normal (.seq (.condNP rfl hltt5 (.exit (thn_exit (thn_exit ⟨rfl, ?_⟩)))))))))
  exact Sub.env ⟨rfl, rfl, trivial⟩
 ·intro t5 c4 o hlot5 hltt5 h
  unfold strips_Update_l1 at h
  try dsimp only at h ⊢
  refine AWP.seq (.region (.lss rfl rfl rfl (.nil (thn_normal (.seq (.condP rfl hltt5 (.skip (thn_normal ?_))))))))
  obtain ⟨c6, hx7, h⟩ := bind_some h
  refine AWP.seqJ (⟨[(1, .c (row 1 intI add)), (2, .c (row 1 intI del)), (7, .c (.own 2 0 c6.length)), (12, .c (row 1 intI sv)), (13, .c (int (sv.length : Int))), (14, .c (int t5))], [.dead, .dead, .one (vec 1 intI c6)]⟩) ?_ ?_
  ·refine AWP.block (.seq ?_)
   obtain ⟨a16, ha16, hx7⟩ := bind_some hx7
   refine AWP.region (S.idx ha16 rfl rfl rfl rfl (.loadI rfl rfl rfl rfl (.assign rfl rfl (.nil (thn_normal (.seq ?_))))))
   obtain ⟨a21, ha21, hx7⟩ := bind_some hx7
   refine AWP.region (.move rfl rfl (.move rfl rfl (.callR rfl rfl rfl rfl (slices_BinarySearch_int_int_ok ha21) rfl (.move rfl rfl (.extract rfl rfl rfl (.extract rfl rfl rfl (.assign rfl rfl (.assign rfl rfl (.nil (thn_normal (.seq (.region (.move rfl rfl (.not rfl rfl (.nil (thn_normal (.iteB rfl hx7 (fun hc8 hx7 => ?_) (fun hc8 hx7 => ?_))))))))))))))))))
   ·obtain ⟨a29, ha29, hx7⟩ := bind_some hx7
    refine AWP.region (.move rfl rfl (.move rfl rfl (S.lit (f := intI) (l := [a16]) (ess := [[int a16]]) rfl rfl rfl rfl rfl rfl rfl ⟨⟨.inl rfl, trivial⟩, trivial⟩ rfl rfl rfl (S.append (f := intI) ha29 rfl rfl rfl rfl rfl rfl (.own rfl rfl) rfl rfl rfl rfl (.assign rfl rfl (.nil (inB_normal ?_)))))))
    have ej := Option.some.inj hx7
    subst ej
    refine thn_normal (Sub.cut ⟨rfl, rfl, rfl, rfl, rfl, rfl, trivial⟩ rfl ⟨.dead, .dead, .vec, trivial⟩ rfl)
   ·refine AWP.skip (inB_normal ?_)
    have ej := Option.some.inj hx7
    subst ej
    refine thn_normal ((Sub.move (env' := [(1, .c (row 1 intI add)), (2, .c (row 1 intI del)), (7, .c (.own 2 0 c4.length)), (12, .c (row 1 intI sv)), (13, .c (int (sv.length : Int))), (14, .c (int t5))]) (σ' := [.dead, .dead, .one (vec 1 intI c4)]) 2 0 rfl rfl rfl ⟨rfl, rfl, rfl, rfl, rfl, rfl, trivial⟩ rfl ⟨trivial, trivial, ⟨Blk.im_ok _ _ _, vec_mv rfl⟩, trivial⟩).trans (Sub.env ⟨rfl, rfl, rfl, rfl, rfl, rfl, trivial⟩))
  ·refine AWP.region (.add rfl rfl rfl (by omega) (.move rfl rfl (.nil ?_)))
   have ej := Option.some.inj h
   subst ej
   refine thn_normal ((Sub.move (env' := [(1, .c (row 1 intI add)), (2, .c (row 1 intI del)), (7, .c (.own 0 0 c6.length)), (12, .c (row 1 intI sv)), (13, .c (int (sv.length : Int))), (14, .c (int (t5 + 1)))]) (σ' := [.one (vec 1 intI c6), .dead]) 0 2 rfl rfl rfl ⟨rfl, rfl, rfl, rfl, rfl, rfl, trivial⟩ rfl ⟨⟨Blk.im_ok _ _ _, vec_mv rfl⟩, trivial, trivial⟩).trans (Sub.cut ⟨rfl, rfl, rfl, rfl, rfl, rfl, trivial⟩ rfl ⟨.vec, trivial⟩ rfl))
 ·intro e s hq
  obtain ⟨rfl, hs⟩ := hq
  refine ⟨_, hs, ?_⟩
  refine inB_exit (thn_normal (.seq ?_))
  obtain ⟨a33, ha33, h⟩ := bind_some h
  refine AWP.region (.move rfl rfl (.move rfl rfl (S.append (f := intI) ha33 rfl rfl rfl rfl rfl rfl .row rfl rfl rfl rfl (.assign rfl rfl (.nil (thn_normal (.seq (.move (env' := [(7, .c (.own 0 0 a33.length))]) (σ' := [.one (vec 1 intI a33)]) 0 1 rfl rfl rfl ⟨rfl, trivial⟩ rfl ⟨⟨Blk.im_ok _ _ _, vec_mv rfl⟩, trivial⟩ ?_))))))))
  obtain ⟨a35, ha35, h⟩ := bind_some h
  refine AWP.region (.move rfl rfl (S.sort ha35 sortL_ok rfl rfl rfl rfl rfl rfl (.nil (thn_normal (.seq (.region (.move rfl rfl (S.compact compactL_ok rfl rfl (sortL_len ha35) rfl rfl rfl rfl rfl (.assign rfl rfl (.nil (thn_normal (.ret ?_))))))))))))
  have ej := Option.some.inj h
  subst ej
  exact Done.ret rfl (Fresh.mk rfl rfl)
theorem strips_Next_ok {t : TTask} {sv : List Int} {op : Int} {r : (List Int)} (h : strips_Next t sv op = some r) : FreshOk Tryd.prog 33 [.agg [int t.facts, row 1 intI t.init, row 1 intI t.goal, row 4 eTOperator t.operators], .c (row 1 intI sv), .c (int op)] 1 (List.map intI r) := by
 unfold FreshOk
 refine FnOk.enter (rs := [.t 6]) Tryd.func33 rfl Tryd.ntmps33 Tryd.results33 rfl ⟨trivial, trivial⟩ (by kernel_rfl) rfl ?_
 unfold strips_Next at h
 refine AWP.seq (.region (W.box rfl rfl rfl rfl rfl rfl (.assign rfl rfl (.nil (thn_normal (.seq ?_))))))
 obtain ⟨a11, ha11, h⟩ := bind_some h
 refine AWP.region (W.fieldAddr rfl rfl rfl rfl (.load rfl rfl rfl rfl rfl rfl (.move rfl rfl (S.idx ha11 rfl rfl rfl rfl (W.loadIAgg rfl rfl rfl rfl rfl (W.alloc rfl rfl rfl rfl (W.storeAgg rfl rfl rfl rfl rfl rfl rfl (.nil (thn_normal (.seq ?_))))))))))
 obtain ⟨a18, ha18, h⟩ := bind_some h
 refine AWP.region (.move rfl rfl (W.fieldAddr rfl rfl rfl rfl (.load rfl rfl rfl rfl rfl rfl (W.fieldAddr rfl rfl rfl rfl (.load rfl rfl rfl rfl rfl rfl (S.fresh rfl rfl rfl rfl (strips_Update_ok ha18) rfl rfl (.assign rfl rfl (.nil (thn_normal (.ret ?_))))))))))
 have ej := Option.some.inj h
 subst ej
 exact Done.ret rfl (Fresh.mk rfl rfl)
theorem cmp_Compare_int_ok {xv : Int} {yv : Int} {r : Int} (h : cmp_Compare_int xv yv = some r) : PureOk Tryd.prog 75 [.c (int xv), .c (int yv)] (.c (int r)) := by
 unfold PureOk
 refine FnOk.enter (rs := [.t 4]) Tryd.func75 rfl Tryd.ntmps75 Tryd.results75 rfl ⟨trivial, trivial⟩ (by kernel_rfl) rfl ?_
 unfold cmp_Compare_int at h
 refine AWP.seq (.region (.assign rfl rfl (.nil (thn_normal (.seq ?_)))))
 obtain ⟨a8, ha8, h⟩ := bind_some h
 refine AWP.region (.move rfl rfl (.callR rfl rfl rfl rfl (cmp_isNaN_int_ok ha8) rfl (.assign rfl rfl (.nil (thn_normal (.seq ?_))))))
 obtain ⟨a10, ha10, h⟩ := bind_some h
 refine AWP.region (.move rfl rfl (.callR rfl rfl rfl rfl (cmp_isNaN_int_ok ha10) rfl (.assign rfl rfl (.nil (thn_normal (.seq (.seq (.region (.move rfl rfl (.nil (thn_normal (.iteB rfl h (fun hc3 h => ?_) (fun hc3 h => ?_)))))))))))))
 ·refine AWP.seq (.seq (.region (.move rfl rfl (.nil (thn_normal (.iteB rfl h (fun hc4 h => ?_) (fun hc4 h => ?_)))))))
  ·refine AWP.seq (.region (.assign rfl rfl (.nil (thn_normal (.ret (thn_ret (thn_ret ?_)))))))
   have ej := Option.some.inj h
   subst ej
   exact Done.ret rfl rfl
  ·refine AWP.skip (thn_normal (.seq (.region (.assign rfl rfl (.nil (thn_normal (.ret (thn_ret ?_))))))))
   have ej := Option.some.inj h
   subst ej
   exact Done.ret rfl rfl
 ·refine AWP.skip (thn_normal (.seq (.seq (.region (.move rfl rfl (.nil (thn_normal (.iteB rfl h (fun hc5 h => ?_) (fun hc5 h => ?_)))))))))
  ·refine AWP.seq (.region (.assign rfl rfl (.nil (thn_normal (.ret (thn_ret ?_))))))
   have ej := Option.some.inj h
   subst ej
   exact Done.ret rfl rfl
  ·refine AWP.skip (thn_normal (.seq (.seq (.region (.move rfl rfl (.move rfl rfl (.lss rfl rfl rfl (.nil (thn_normal (.ite rfl h (fun hc6 h => ?_) (fun hc6 h => ?_)))))))))))
   ·refine AWP.seq (.region (.assign rfl rfl (.nil (thn_normal (.ret (thn_ret ?_))))))
    have ej := Option.some.inj h
    subst ej
    exact Done.ret rfl rfl
   ·refine AWP.skip (thn_normal (.seq (.seq (.region (.move rfl rfl (.move rfl rfl (.gtr rfl rfl rfl (.nil (thn_normal (.ite rfl h (fun hc7 h => ?_) (fun hc7 h => ?_)))))))))))
    ·refine AWP.seq (.region (.assign rfl rfl (.nil (thn_normal (.ret (thn_ret ?_))))))
     have ej := Option.some.inj h
     subst ej
     exact Done.ret rfl rfl
    ·refine AWP.skip (thn_normal (.seq (.region (.assign rfl rfl (.nil (thn_normal (.ret ?_)))))))
     have ej := Option.some.inj h
     subst ej
     exact Done.ret rfl rfl
theorem slices_Compare_int_int_ok {s11 : List Int} {s22 : List Int} {r : Int} (h : slices_Compare_int_int s11 s22 = some r) : PureOk Tryd.prog 61 [.c (row 1 intI s11), .c (row 1 intI s22)] (.c (int r)) := by
 unfold PureOk
 refine FnOk.enter (rs := [.t 4]) Tryd.func61 rfl Tryd.ntmps61 Tryd.results61 rfl ⟨trivial, trivial⟩ (by kernel_rfl) rfl ?_
 unfold slices_Compare_int_int at h
 refine AWP.seq (.region (.assign rfl rfl (.nil (thn_normal (.seq (.seq (.region (.move rfl rfl (S.len rfl rfl (fun hl10 => .move rfl rfl (.nil (thn_normal (.block ?_)))))))))))))
 obtain ⟨oo, ho1, h⟩ := bind_some h
 refine AWP.rngS ho1 (fun t3 _ => ⟨[(0, .c (row 1 intI s11)), (1, .c (row 1 intI s22)), (9, .c (row 1 intI s11)), (10, .c (int (s11.length : Int))), (11, .c (int t3))], []⟩) (fun o e st => match o with | .inl _ => e = .exit 0 ∧ Sub [] st ⟨[(0, .c (row 1 intI s11)), (1, .c (row 1 intI s22))], []⟩ | .inr x => e = .ret ∧ Done [.t 4] (fun t _ => t = .c (int x)) .ret st) ?_ ?_ ?_ ?_
 ·try dsimp only
  exact Sub.env ⟨rfl, rfl, rfl, rfl, rfl, trivial⟩
 ·intro t3 s hlot3 hltt3 _
  try dsimp only
  refine AWP.seq (.region (.lss rfl rfl rfl (.nil (thn_normal (.seq (.condNP rfl hltt3 (.exit (thn_exit (thn_exit ⟨rfl, ?_⟩)))))))))
  exact Sub.env ⟨rfl, rfl, trivial⟩
 ·intro t3 s o hlot3 hltt3 h
  unfold slices_Compare_int_int_l1 at h
  try dsimp only at h ⊢
  refine AWP.seq (.region (.lss rfl rfl rfl (.nil (thn_normal (.seq (.condP rfl hltt3 (.skip (thn_normal (.seq (.block (.seq ?_)))))))))))
  obtain ⟨a14, ha14, h⟩ := bind_some h
  refine AWP.region (.move rfl rfl (S.idx ha14 rfl rfl rfl rfl (.loadI rfl rfl rfl rfl (.assign rfl rfl (.assign rfl rfl (.nil (thn_normal (.seq (.seq (.region (.move rfl rfl (.move rfl rfl (S.len rfl rfl (fun hl18 => .geq rfl rfl rfl (.nil (thn_normal (.ite rfl h (fun hc4 h => ?_) (fun hc4 h => ?_))))))))))))))))))
  ·refine AWP.seq (.region (.assign rfl rfl (.nil (thn_normal (.ret (thn_ret (inB_ret (thn_ret ?_))))))))
   have ej := Option.some.inj h
   subst ej
   refine thn_ret ⟨_, rfl, rfl, ?_⟩
   exact Done.ret rfl rfl
  ·refine AWP.skip (thn_normal (.seq ?_))
   obtain ⟨a22, ha22, h⟩ := bind_some h
   refine AWP.region (.move rfl rfl (.move rfl rfl (S.idx ha22 rfl rfl rfl rfl (.loadI rfl rfl rfl rfl (.assign rfl rfl (.nil (thn_normal (.seq ?_))))))))
   obtain ⟨a26, ha26, h⟩ := bind_some h
   refine AWP.region (.move rfl rfl (.move rfl rfl (.callR rfl rfl rfl rfl (cmp_Compare_int_ok ha26) rfl (.assign rfl rfl (.nil (thn_normal (.seq (.region (.move rfl rfl (.neq rfl rfl rfl (.nil (thn_normal (.iteN rfl h (fun hc5 h => ?_) (fun hc5 h => ?_))))))))))))))
   ·refine AWP.seq (.region (.move rfl rfl (.assign rfl rfl (.nil (thn_normal (.ret (inB_ret (thn_ret ?_))))))))
    have ej := Option.some.inj h
    subst ej
    refine thn_ret ⟨_, rfl, rfl, ?_⟩
    exact Done.ret rfl rfl
   ·refine AWP.skip (inB_normal (thn_normal (.region (.add rfl rfl rfl (by omega) (.move rfl rfl (.nil ?_))))))
    have ej := Option.some.inj h
    subst ej
    refine thn_normal ⟨_, rfl, ?_⟩
    exact Sub.env ⟨rfl, rfl, rfl, rfl, rfl, trivial⟩
 ·intro e s hq
  rcases oo with u | x
  ·try dsimp only at h hq
   obtain ⟨rfl, hs⟩ := hq
   refine ⟨_, hs, ?_⟩
   refine inB_exit (thn_normal (.seq (.seq (.region (.move rfl rfl (S.len rfl rfl (fun hl32 => .move rfl rfl (S.len rfl rfl (fun hl34 => .lss rfl rfl rfl (.nil (thn_normal (.ite rfl h (fun hc6 h => ?_) (fun hc6 h => ?_)))))))))))))
   ·refine AWP.seq (.region (.assign rfl rfl (.nil (thn_normal (.ret (thn_ret ?_))))))
    have ej := Option.some.inj h
    subst ej
    exact Done.ret rfl rfl
   ·refine AWP.skip (thn_normal (.seq (.region (.assign rfl rfl (.nil (thn_normal (.ret ?_)))))))
    have ej := Option.some.inj h
    subst ej
    exact Done.ret rfl rfl
  ·try dsimp only at h hq
   obtain ⟨rfl, hs⟩ := hq
   refine ⟨_, Sub.refl _ _, ?_⟩
   refine inB_ret (thn_ret ?_)
   have ej := Option.some.inj h
   subst ej
   exact hs
theorem slices_Equal_int_int_ok {s11 : List Int} {s22 : List Int} {r : Bool} (h : slices_Equal_int_int s11 s22 = some r) : PureOk Tryd.prog 63 [.c (row 1 intI s11), .c (row 1 intI s22)] (.c (bool r)) := by
 unfold PureOk
 refine FnOk.enter (rs := [.t 4]) Tryd.func63 rfl Tryd.ntmps63 Tryd.results63 rfl ⟨trivial, trivial⟩ (by kernel_rfl) rfl ?_
 unfold slices_Equal_int_int at h
 refine AWP.seq (.region (.assign rfl rfl (.nil (thn_normal (.seq (.seq (.region (.move rfl rfl (S.len rfl rfl (fun hl7 => .move rfl rfl (S.len rfl rfl (fun hl9 => .neq rfl rfl rfl (.nil (thn_normal (.iteN rfl h (fun hc3 h => ?_) (fun hc3 h => ?_))))))))))))))))
 ·refine AWP.seq (.region (.assign rfl rfl (.nil (thn_normal (.ret (thn_ret ?_))))))
  have ej := Option.some.inj h
  subst ej
  exact Done.ret rfl rfl
 ·refine AWP.skip (thn_normal (.seq (.seq (.region (.move rfl rfl (S.len rfl rfl (fun hl12 => .move rfl rfl (.nil (thn_normal (.block ?_))))))))))
  obtain ⟨oo, ho1, h⟩ := bind_some h
  refine AWP.rngS ho1 (fun t4 _ => ⟨[(0, .c (row 1 intI s11)), (1, .c (row 1 intI s22)), (12, .c (int (s11.length : Int))), (13, .c (int t4))], []⟩) (fun o e st => match o with | .inl _ => e = .exit 0 ∧ Sub [] st ⟨[], []⟩ | .inr x => e = .ret ∧ Done [.t 4] (fun t _ => t = .c (bool x)) .ret st) ?_ ?_ ?_ ?_
  ·try dsimp only
   exact Sub.env ⟨rfl, rfl, rfl, rfl, trivial⟩
  ·intro t4 s hlot4 hltt4 _
   try dsimp only
   refine AWP.seq (.region (.lss rfl rfl rfl (.nil (thn_normal (.seq (.condNP rfl hltt4 (.exit (thn_exit (thn_exit ⟨rfl, ?_⟩)))))))))
   exact Sub.env trivial
  ·intro t4 s o hlot4 hltt4 h
   unfold slices_Equal_int_int_l1 at h
   try dsimp only at h ⊢
   refine AWP.seq (.region (.lss rfl rfl rfl (.nil (thn_normal (.seq (.condP rfl hltt4 (.skip (thn_normal (.seq (.block (.seq (.region (.move rfl rfl (.assign rfl rfl (.nil (thn_normal (.seq ?_)))))))))))))))))
   obtain ⟨a18, ha18, h⟩ := bind_some h
   obtain ⟨a22, ha22, h⟩ := bind_some h
   refine AWP.drawI mixed rfl ?_
   apply DrawSeq.consF; exact rfl; intro E
   refine AOps.move rfl rfl (.nil ⟨rfl, rfl⟩)
   exact rfl
   apply DrawSeq.consF; exact rfl; intro E
   refine AOps.move rfl rfl (.nil ⟨rfl, rfl⟩)
   exact rfl
   apply DrawSeq.consF; exact rfl; intro E
   refine S.idx ha18 rfl rfl rfl rfl (.nil ⟨rfl, rfl⟩)
   exact rfl
   apply DrawSeq.consF; exact rfl; intro E
   refine AOps.loadI rfl rfl rfl rfl (.nil ⟨rfl, rfl⟩)
   exact rfl
   apply DrawSeq.consF; exact rfl; intro E
   refine AOps.move rfl rfl (.nil ⟨rfl, rfl⟩)
   exact rfl
   apply DrawSeq.consF; exact rfl; intro E
   refine AOps.move rfl rfl (.nil ⟨rfl, rfl⟩)
   exact rfl
   apply DrawSeq.consF; exact rfl; intro E
   refine S.idx ha22 rfl rfl rfl rfl (.nil ⟨rfl, rfl⟩)
   exact rfl
   apply DrawSeq.consF; exact rfl; intro E
   refine AOps.loadI rfl rfl rfl rfl (.nil ⟨rfl, rfl⟩)
   exact rfl
   apply DrawSeq.consF; exact rfl; intro E
   refine AOps.neq rfl rfl rfl (.nil ⟨rfl, rfl⟩)
   exact rfl
   refine DrawSeq.done ?_
   dsimp only [envEnd]
   refine thn_normal (.iteN rfl h (fun hc5 h => ?_) (fun hc5 h => ?_))
   ·refine AWP.seq (.region (.assign rfl rfl (.nil (thn_normal (.ret (inB_ret (thn_ret ?_)))))))
    have ej := Option.some.inj h
    subst ej
    refine thn_ret ⟨_, rfl, rfl, ?_⟩
    exact Done.ret rfl rfl
   ·refine AWP.skip (inB_normal (thn_normal (.region (.add rfl rfl rfl (by omega) (.move rfl rfl (.nil ?_))))))
    have ej := Option.some.inj h
    subst ej
    refine thn_normal ⟨_, rfl, ?_⟩
    exact Sub.env ⟨rfl, rfl, rfl, rfl, trivial⟩
  ·intro e s hq
   rcases oo with u | x
   ·try dsimp only at h hq
    obtain ⟨rfl, hs⟩ := hq
    refine ⟨_, hs, ?_⟩
    refine inB_exit (thn_normal (.seq (.region (.assign rfl rfl (.nil (thn_normal (.ret ?_)))))))
    have ej := Option.some.inj h
    subst ej
    exact Done.ret rfl rfl
   ·try dsimp only at h hq
    obtain ⟨rfl, hs⟩ := hq
    refine ⟨_, Sub.refl _ _, ?_⟩
    refine inB_ret (thn_ret ?_)
    have ej := Option.some.inj h
    subst ej
    exact hs
theorem slices_CompactFunc_int_int_w_ok {l : List (List Int)} {r : (List (List Int))} (h : slices_CompactFunc_int_int_w l = some r) : FnOk Tryd.prog 62 [.c (.own 0 0 l.length), .c (.fn 63 [])] (slices_CompactFunc_int_int_w_s0 l) (fun tt ss => tt = .c (.own 1 0 r.length) ∧ ss = [.dead, .one (vec 1 eLi64 r)]) := by
 refine FnOk.enter (rs := [.t 4]) Tryd.func62 rfl Tryd.ntmps62 Tryd.results62 rfl ⟨trivial, trivial⟩ (by kernel_rfl) rfl ?_
 refine AWP.weak ?_
 unfold slices_CompactFunc_int_int_w at h
 refine AWP.move (env' := [(0, .c (.own 1 0 l.length)), (1, .c (.fn 63 []))]) (σ' := [.dead, .one (vec 1 eLi64 l)]) 1 0 rfl rfl rfl ⟨rfl, rfl, trivial⟩ rfl ⟨trivial, ⟨Blk.im_ok _ _ _, vec_mv rfl⟩, trivial⟩ (.seq (.region (.assign rfl rfl (.nil (thn_normal (.seq (.seq (.region (.move rfl rfl (S.lenO rfl rfl rfl (fun hl9 => .lss rfl rfl rfl (.nil (thn_normal (.ite rfl h (fun hc53 h => ?_) (fun hc53 h => ?_)))))))))))))))
 ·refine AWP.seq (.region (.move rfl rfl (.assign rfl rfl (.nil (thn_normal (.ret (thn_ret ?_)))))))
  have ej := Option.some.inj h
  subst ej
  exact ⟨⟨[(4, .c (.own 1 0 l.length))], [.dead, .one (vec 1 eLi64 l)]⟩, Sub.env ⟨rfl, trivial⟩, Done.ret rfl ⟨rfl, rfl⟩⟩
 ·refine AWP.skip (thn_normal (.seq (.seq (.region (.assign rfl rfl (.nil (thn_normal (.block ?_))))))))
  obtain ⟨oo, ho1, h⟩ := bind_some h
  refine AWP.rngS ho1 (fun kv54 _ => ⟨[(0, .c (.own 1 0 l.length)), (1, .c (.fn 63 [])), (5, .c (int kv54))], [.dead, .one (vec 1 eLi64 l)]⟩) (fun o e st => match o with | .inl _ => e = .exit 0 ∧ Sub (slices_CompactFunc_int_int_w_s0 l) st ⟨[(0, .c (.own 1 0 l.length))], [.dead, .one (vec 1 eLi64 l)]⟩ | .inr x => e = .ret ∧ ∃ J, Sub (slices_CompactFunc_int_int_w_s0 l) st J ∧ Done [.t 4] (fun tt ss => tt = .c (.own 1 0 x.length) ∧ ss = [.dead, .one (vec 1 eLi64 x)]) .ret J) ?_ ?_ ?_ ?_
  ·try dsimp only
   exact Sub.env ⟨rfl, rfl, rfl, trivial⟩
  ·intro kv54 s hlokv54 hltkv54 _
   try dsimp only
   refine AWP.seq (.seq (.region (.move rfl rfl (.move rfl rfl (S.lenO rfl rfl rfl (fun hl14 => .lss rfl rfl rfl (.nil (thn_normal (.condNP rfl hltkv54 (.exit (thn_exit (thn_exit ⟨rfl, ?_⟩))))))))))))
   exact Sub.env ⟨rfl, trivial⟩
  ·intro kv54 s o hlokv54 hltkv54 h
   unfold slices_CompactFunc_int_int_w_l1 at h
   try dsimp only at h ⊢
   refine AWP.seq (.seq (.region (.move rfl rfl (.move rfl rfl (S.lenO rfl rfl rfl (fun hl14 => .lss rfl rfl rfl (.nil (thn_normal (.condP rfl hltkv54 (.skip (thn_normal (.seq (.block (.seq ?_))))))))))))))
   obtain ⟨a21, ha21, h⟩ := bind_some h
   obtain ⟨a26, ha26, h⟩ := bind_some h
   obtain ⟨a28, ha28, h⟩ := bind_some h
   refine AWP.drawI mixed rfl ?_
   apply DrawSeq.consF; exact rfl; intro E
   refine AOps.move rfl rfl (.nil ⟨rfl, rfl⟩)
   exact rfl
   apply DrawSeq.consF; exact rfl; intro E
   refine AOps.move rfl rfl (.nil ⟨rfl, rfl⟩)
   exact rfl
   apply DrawSeq.consF; exact rfl; intro E
   refine AOps.move rfl rfl (.nil ⟨rfl, rfl⟩)
   exact rfl
   apply DrawSeq.consF; exact rfl; intro E
   refine S.idxO ha21 rfl rfl rfl rfl rfl (.nil ⟨rfl, rfl⟩)
   exact rfl
   apply DrawSeq.consF; exact rfl; intro E
   refine S.loadO ha21 rfl rfl rfl rfl rfl (.nil ⟨rfl, rfl⟩)
   exact rfl
   apply DrawSeq.consF; exact rfl; intro E
   refine AOps.move rfl rfl (.nil ⟨rfl, rfl⟩)
   exact rfl
   apply DrawSeq.consF; exact rfl; intro E
   refine AOps.move rfl rfl (.nil ⟨rfl, rfl⟩)
   exact rfl
   apply DrawSeq.consF; exact rfl; intro E
   refine AOps.sub' rfl rfl rfl (by omega) (.nil ⟨rfl, rfl⟩)
   exact rfl
   apply DrawSeq.consF; exact rfl; intro E
   refine S.idxO ha26 rfl rfl rfl rfl rfl (.nil ⟨rfl, rfl⟩)
   exact rfl
   apply DrawSeq.consF; exact rfl; intro E
   refine S.loadO ha26 rfl rfl rfl rfl rfl (.nil ⟨rfl, rfl⟩)
   exact rfl
   apply DrawSeq.consF; exact rfl; intro E
   refine AOps.callR rfl rfl rfl rfl (slices_Equal_int_int_ok ha28) rfl (.nil ⟨rfl, rfl⟩)
   exact rfl
   refine DrawSeq.done ?_
   dsimp only [envEnd]
   refine thn_normal (.iteB rfl h (fun hc55 h => ?_) (fun hc55 h => ?_))
   ·refine AWP.seq ?_
    obtain ⟨u31, hu31, h⟩ := bind_some h
    refine AWP.region (.move rfl rfl (.move rfl rfl (S.vFrom (vw_full l) hu31 rfl rfl rfl rfl rfl rfl (.assign rfl rfl (.nil (thn_normal (.seq (.seq (.region (.assign rfl rfl (.nil (thn_normal (.block ?_)))))))))))))
    obtain ⟨⟨c56, kv57⟩, ho2, h⟩ := bind_some h
    try dsimp only at h
    refine AWP.forS ho2 (fun k258 (c56, kv57) => ⟨[(0, .c (.own 1 0 c56.length)), (1, .c (.fn 63 [])), (5, .c (int kv57)), (6, .c (.own 1 ((0 + kv54).toNat) (((l.length : Int) - kv54).toNat))), (7, .c (int k258))], [.dead, .one (vec 1 eLi64 c56)]⟩) (fun (c56, kv57) e st => e = .exit 2 ∧ Sub (slices_CompactFunc_int_int_w_s0 l) st ⟨[(0, .c (.own 1 0 c56.length)), (5, .c (int kv57))], [.dead, .one (vec 1 eLi64 c56)]⟩) ?_ ?_ ?_ ?_
    ·try dsimp only
     exact Sub.env ⟨rfl, rfl, rfl, rfl, rfl, trivial⟩
    ·intro k258 s hlok258 hltk258 _
     obtain ⟨c56, kv57⟩ := s
     try dsimp only
     refine AWP.seq (.seq (.region (.move rfl rfl (.move rfl rfl (S.lenV (vw_get (vw_cut (vw_full l) hu31)).2.1 rfl rfl rfl (fun hl34 => .lss rfl rfl rfl (.nil (thn_normal (.condNP rfl hltk258 (.exit (thn_exit (thn_exit ⟨rfl, ?_⟩))))))))))))
     exact Sub.env ⟨rfl, rfl, trivial⟩
    ·intro k258 s o hlok258 hltk258 h
     obtain ⟨c56, kv57⟩ := s
     unfold slices_CompactFunc_int_int_w_l2 at h
     try dsimp only at h ⊢
     refine AWP.seq (.seq (.region (.move rfl rfl (.move rfl rfl (S.lenV (vw_get (vw_cut (vw_full l) hu31)).2.1 rfl rfl rfl (fun hl34 => .lss rfl rfl rfl (.nil (thn_normal (.condP rfl hltk258 (.skip (thn_normal ?_)))))))))))
     obtain ⟨⟨c59, kv60⟩, hx61, h⟩ := bind_some h
     refine AWP.seqJ (⟨[(0, .c (.own 1 0 c59.length)), (1, .c (.fn 63 [])), (5, .c (int kv60)), (6, .c (.own 1 ((0 + kv54).toNat) (((l.length : Int) - kv54).toNat))), (7, .c (int k258))], [.dead, .one (vec 1 eLi64 c59)]⟩) ?_ ?_
     ·refine AWP.block (.seq ?_)
      obtain ⟨a41, ha41, hx61⟩ := bind_some hx61
      obtain ⟨a46, ha46, hx61⟩ := bind_some hx61
      obtain ⟨a48, ha48, hx61⟩ := bind_some hx61
      refine AWP.drawI mixed rfl ?_
      apply DrawSeq.consF; exact rfl; intro E
      refine AOps.move rfl rfl (.nil ⟨rfl, rfl⟩)
      exact rfl
      apply DrawSeq.consF; exact rfl; intro E
      refine AOps.move rfl rfl (.nil ⟨rfl, rfl⟩)
      exact rfl
      apply DrawSeq.consF; exact rfl; intro E
      refine AOps.move rfl rfl (.nil ⟨rfl, rfl⟩)
      exact rfl
      apply DrawSeq.consF; exact rfl; intro E
      refine S.idxV ha41 rfl rfl rfl rfl (.nil ⟨rfl, rfl⟩)
      exact rfl
      apply DrawSeq.consF; exact rfl; intro E
      refine S.loadO (ixV_ix ha41) rfl rfl rfl rfl rfl (.nil ⟨rfl, rfl⟩)
      exact rfl
      apply DrawSeq.consF; exact rfl; intro E
      refine AOps.move rfl rfl (.nil ⟨rfl, rfl⟩)
      exact rfl
      apply DrawSeq.consF; exact rfl; intro E
      refine AOps.move rfl rfl (.nil ⟨rfl, rfl⟩)
      exact rfl
      apply DrawSeq.consF; exact rfl; intro E
      refine AOps.sub' rfl rfl rfl (by omega) (.nil ⟨rfl, rfl⟩)
      exact rfl
      apply DrawSeq.consF; exact rfl; intro E
      refine S.idxV ha46 rfl rfl rfl rfl (.nil ⟨rfl, rfl⟩)
      exact rfl
      apply DrawSeq.consF; exact rfl; intro E
      refine S.loadO (ixV_ix ha46) rfl rfl rfl rfl rfl (.nil ⟨rfl, rfl⟩)
      exact rfl
      apply DrawSeq.consF; exact rfl; intro E
      refine AOps.callR rfl rfl rfl rfl (slices_Equal_int_int_ok ha48) rfl (.nil ⟨rfl, rfl⟩)
      exact rfl
      apply DrawSeq.consF; exact rfl; intro E
      refine AOps.not rfl rfl (.nil ⟨rfl, rfl⟩)
      exact rfl
      refine DrawSeq.done ?_
      dsimp only [envEnd]
      refine thn_normal (.iteB rfl hx61 (fun hc62 hx61 => ?_) (fun hc62 hx61 => ?_))
      ·refine AWP.seq ?_
       obtain ⟨a54, ha54, hx61⟩ := bind_some hx61
       obtain ⟨a56, ha56, hx61⟩ := bind_some hx61
       refine AWP.region (.move rfl rfl (.move rfl rfl (.move rfl rfl (.move rfl rfl (S.idxV ha54 rfl rfl rfl rfl (S.loadO (ixV_ix ha54) rfl rfl rfl rfl rfl (S.idxO ha56 rfl rfl rfl rfl rfl (S.storeO1 (f := eLi64) (a' := a54) (ix_lt ha56) (fun _ => ⟨_, rfl⟩) rfl rfl rfl rfl rfl ?_))))))))
       refine AOps.nil (thn_normal (.region (.move rfl rfl (S.add rfl rfl rfl (.assign rfl rfl (.nil (inB_normal ?_)))))))
       have ej := Option.some.inj hx61
       simp only [Prod.mk.injEq] at ej
       obtain ⟨ej0, ej1⟩ := ej
       subst ej0
       subst ej1
       refine thn_normal (Sub.env ⟨(own_len (by first | rfl | simp only [List.length_set])), rfl, rfl, rfl, rfl, trivial⟩)
      ·refine AWP.skip (inB_normal ?_)
       have ej := Option.some.inj hx61
       simp only [Prod.mk.injEq] at ej
       obtain ⟨ej0, ej1⟩ := ej
       subst ej0
       subst ej1
       refine thn_normal (Sub.env ⟨rfl, rfl, rfl, rfl, rfl, trivial⟩)
     ·try dsimp only at h
      refine AWP.region (.move rfl rfl (.add rfl rfl rfl (by omega) (.assign rfl rfl (.nil ?_))))
      have ej := Option.some.inj h
      subst ej
      refine thn_normal (Sub.env ⟨rfl, rfl, rfl, rfl, rfl, trivial⟩)
    ·intro e s hq
     obtain ⟨rfl, hs⟩ := hq
     refine ⟨_, hs, ?_⟩
     refine inB_exit (thn_normal (.seq ?_))
     obtain ⟨u61, hu61, h⟩ := bind_some h
     refine AWP.region (.move rfl rfl (.move rfl rfl (S.vFrom (vw_full c56) hu61 rfl rfl rfl rfl rfl rfl (S.clear (a0 := []) rfl rfl rfl (fun _ _ _ _ => .imm .slNil) (vw_cut (vw_full c56) hu61) rfl rfl rfl rfl rfl ?_))))
     refine AOps.nil (thn_normal (.seq ?_))
     obtain ⟨u64, hu64, h⟩ := bind_some h
     refine AWP.region (.move rfl rfl (.move rfl rfl ?_))
     refine S.vTo (vw_full (clrL c56 (0 + kv57) ((c56.length : Int) - kv57) [])) hu64 rfl rfl (by rw [Int.toNat_natCast]; exact (clrL_len (vw_cut (vw_full c56) hu61)).symm) rfl rfl rfl ?_
     refine AOps.assign rfl rfl (.nil (thn_normal (.reown (env' := [(4, .c (.own 2 0 ((viewL (clrL c56 (0 + kv57) ((c56.length : Int) - kv57) []) 0 kv57).length)))]) 4 (vw_to (vw_full (clrL c56 (0 + kv57) ((c56.length : Int) - kv57) [])) hu64) rfl rfl rfl rfl rfl rfl rfl rfl (by exact ⟨.inl ⟨rfl, rfl⟩, trivial⟩) (.ret (inB_ret (thn_ret ?_))))))
     have ej := Option.some.inj h
     subst ej
     refine thn_ret ⟨_, rfl, rfl, ?_⟩
     exact ⟨⟨[(4, .c (.own 1 0 ((viewL (clrL c56 (0 + kv57) ((c56.length : Int) - kv57) []) 0 kv57).length)))], [.dead, .one (vec 1 eLi64 (viewL (clrL c56 (0 + kv57) ((c56.length : Int) - kv57) []) 0 kv57))]⟩, (Sub.move (env' := [(4, .c (.own 1 0 ((viewL (clrL c56 (0 + kv57) ((c56.length : Int) - kv57) []) 0 kv57).length)))]) (σ' := [.dead, .one (vec 1 eLi64 (viewL (clrL c56 (0 + kv57) ((c56.length : Int) - kv57) []) 0 kv57))]) 1 2 rfl rfl rfl ⟨rfl, trivial⟩ rfl ⟨trivial, ⟨Blk.im_ok _ _ _, vec_mv rfl⟩, trivial⟩).trans (Sub.env ⟨rfl, trivial⟩), Done.ret rfl ⟨rfl, rfl⟩⟩
   ·refine AWP.skip (inB_normal (thn_normal (.region (.move rfl rfl (.add rfl rfl rfl (by omega) (.assign rfl rfl (.nil ?_)))))))
    have ej := Option.some.inj h
    subst ej
    refine thn_normal ⟨_, rfl, ?_⟩
    exact Sub.env ⟨rfl, rfl, rfl, trivial⟩
  ·intro e s hq
   rcases oo with u | x
   ·try dsimp only at h hq
    obtain ⟨rfl, hs⟩ := hq
    refine ⟨_, hs, ?_⟩
    refine inB_exit (thn_normal (.seq (.region (.move rfl rfl (.assign rfl rfl (.nil (thn_normal (.ret ?_))))))))
    have ej := Option.some.inj h
    subst ej
    exact ⟨⟨[(4, .c (.own 1 0 l.length))], [.dead, .one (vec 1 eLi64 l)]⟩, Sub.env ⟨rfl, trivial⟩, Done.ret rfl ⟨rfl, rfl⟩⟩
   ·try dsimp only at h hq
    obtain ⟨rfl, hs⟩ := hq
    refine ⟨_, Sub.refl _ _, ?_⟩
    refine inB_ret (thn_ret ?_)
    have ej := Option.some.inj h
    subst ej
    exact hs
theorem belief_Normal_w_ok {l : List (List Int)} {r : (List (List Int))} (h : belief_Normal_w l = some r) : FnOk Tryd.prog 49 [.c (.own 0 0 l.length)] (belief_Normal_w_s0 l) (fun tt ss => tt = .c (.own 2 0 r.length) ∧ ss = [.dead, .dead, .one (vec 1 eLi64 r)]) := by
 refine FnOk.enter (rs := [.t 2]) Tryd.func49 rfl Tryd.ntmps49 Tryd.results49 rfl ⟨trivial, trivial⟩ (by kernel_rfl) rfl ?_
 refine AWP.weak ?_
 unfold belief_Normal_w at h
 refine AWP.move (env' := [(0, .c (.own 1 0 l.length))]) (σ' := [.dead, .one (vec 1 eLi64 l)]) 1 0 rfl rfl rfl ⟨rfl, trivial⟩ rfl ⟨trivial, ⟨Blk.im_ok _ _ _, vec_mv rfl⟩, trivial⟩ (.seq (.region (.assign rfl rfl (.nil (thn_normal (.seq ?_))))))
 obtain ⟨a4, ha4, h⟩ := bind_some h
 refine AWP.region (.move rfl rfl (S.sortF (fun x => .sl 1 (List.map intI x)) ha4 rfl (fun hy => slices_Compare_int_int_ok hy) sortF_LLi64_ok (⟨_, Tryd.func61, rfl, rfl⟩) rfl rfl rfl rfl rfl rfl ?_))
 refine AOps.nil (thn_normal (.seq ?_))
 obtain ⟨a6, ha6, h⟩ := bind_some h
 refine AWP.region (.move rfl rfl ?_)
 refine AOps.callF (r2 := .c (.own 2 0 a6.length)) (σ'' := [.dead, .dead, .one (vec 1 eLi64 a6)]) rfl rfl rfl (FnOk.lend [1] (slices_CompactFunc_int_int_w_ok ha6) rfl rfl rfl rfl rfl rfl (by exact ⟨.vec, trivial⟩) (by rw [(sortFL_len ha4)] <;> rfl) (by exact ⟨(.live rfl .vec), trivial⟩) rfl rfl (by exact ⟨.dead, .dead, (.new 1 rfl rfl .vec), trivial⟩)) ?_
 refine AOps.assign rfl rfl (.nil (thn_normal (.ret ?_)))
 have ej := Option.some.inj h
 subst ej
 exact ⟨⟨[(2, .c (.own 2 0 a6.length))], [.dead, .dead, .one (vec 1 eLi64 a6)]⟩, Sub.env ⟨rfl, trivial⟩, Done.ret rfl ⟨rfl, rfl⟩⟩
theorem belief_After_ok {t : TTask} {worlds : List (List Int)} {op : Int} {r : (List (List Int))} (h : belief_After t worlds op = some r) : FreshOk Tryd.prog 41 [.agg [int t.facts, row 1 intI t.init, row 1 intI t.goal, row 4 eTOperator t.operators], .c (row 1 eLi64 worlds), .c (int op)] 1 (List.map eLi64 r) := by
 unfold FreshOk
 refine FnOk.enter (rs := [.t 6]) Tryd.func41 rfl Tryd.ntmps41 Tryd.results41 rfl ⟨trivial, trivial⟩ (by kernel_rfl) rfl ?_
 unfold belief_After at h
 refine AWP.seq (.region (W.box rfl rfl rfl rfl rfl rfl (.assign rfl rfl (.nil (thn_normal (.seq (.region (.assign rfl rfl (.nil (thn_normal (.seq (.seq (.region (.move rfl rfl (S.len rfl rfl (fun hl11 => .move rfl rfl (.nil (thn_normal (.block (.virtV 1 eLi64 7 rfl rfl rfl ?_))))))))))))))))))))
 obtain ⟨c4, ho1, h⟩ := bind_some h
 refine AWP.forS ho1 (fun t5 c4 => ⟨[(2, .c (int op)), (3, .c (.ptr 0 0 0)), (7, .c (.own 1 0 c4.length)), (10, .c (row 1 eLi64 worlds)), (11, .c (int (worlds.length : Int))), (12, .c (int t5))], [.one (.cells 4 [[int t.facts, row 1 intI t.init, row 1 intI t.goal, row 4 eTOperator t.operators]]), .one (vec 1 eLi64 c4)]⟩) (fun c4 e st => e = .exit 0 ∧ Sub [] st ⟨[(7, .c (.own 1 0 c4.length))], [.one (.cells 4 [[int t.facts, row 1 intI t.init, row 1 intI t.goal, row 4 eTOperator t.operators]]), .one (vec 1 eLi64 c4)]⟩) ?_ ?_ ?_ ?_
 ·try dsimp only
  exact Sub.env ⟨rfl, rfl, (own_len (by first | rfl | simp only [List.length_set])), rfl, rfl, rfl, trivial⟩
 ·intro t5 c4 hlot5 hltt5 _
  try dsimp only
  refine AWP.seq (.region (.lss rfl rfl rfl (.nil (thn_normal (.seq (.condNP rfl hltt5 (.exit (thn_exit (thn_exit ⟨rfl, ?_⟩)))))))))
  exact Sub.env ⟨rfl, trivial⟩
 ·intro t5 c4 o hlot5 hltt5 h
  unfold belief_After_l1 at h
  try dsimp only at h ⊢
  refine AWP.seq (.region (.lss rfl rfl rfl (.nil (thn_normal (.seq (.condP rfl hltt5 (.skip (thn_normal (.seq (.block (.seq ?_)))))))))))
  obtain ⟨a14, ha14, h⟩ := bind_some h
  refine AWP.region (S.idx ha14 rfl rfl rfl rfl (.loadI rfl rfl rfl rfl (.assign rfl rfl (.nil (thn_normal ?_)))))
  obtain ⟨a20, ha20, h⟩ := bind_some h
  obtain ⟨a22, ha22, h⟩ := bind_some h
  refine AWP.region (.move rfl rfl (W.loadAgg rfl rfl rfl rfl rfl rfl rfl (.move rfl rfl (.move rfl rfl (S.fresh rfl rfl rfl rfl (strips_Next_ok ha20) rfl rfl (.frzV (id := 2) (l := a20) (env2 := [(2, .c (int op)), (3, .c (.ptr 0 0 0)), (10, .c (row 1 eLi64 worlds)), (11, .c (int (worlds.length : Int))), (12, .c (int t5)), (16, .c (.own 1 0 c4.length)), (20, .c (row 1 intI a20))]) (σ2 := [.one (.cells 4 [[int t.facts, row 1 intI t.init, row 1 intI t.goal, row 4 eTOperator t.operators]]), .one (vec 1 eLi64 c4), .dead]) rfl rfl (by exact ⟨⟨_, rfl, .inl ⟨rfl, rfl⟩⟩, ⟨_, rfl, .inl ⟨rfl, rfl⟩⟩, ⟨_, rfl, .inl ⟨rfl, rfl⟩⟩, ⟨_, rfl, .inl ⟨rfl, rfl⟩⟩, ⟨_, rfl, .inl ⟨rfl, rfl⟩⟩, ⟨_, rfl, .inl ⟨rfl, rfl⟩⟩, ⟨_, rfl, .inr ⟨_, rfl, rfl, rfl⟩⟩, trivial⟩) rfl (by exact ⟨⟨rfl, .inl ⟨rfl, rfl⟩, .inl ⟨rfl, rfl⟩, .inl ⟨rfl, rfl⟩, .inl ⟨rfl, rfl⟩, trivial⟩, FrzB.vec, trivial, trivial⟩) (S.lit (f := eLi64) (l := [a20]) (ess := [[row 1 intI a20]]) rfl rfl rfl rfl rfl rfl rfl ⟨⟨.inl rfl, trivial⟩, trivial⟩ rfl rfl rfl (S.append (f := eLi64) ha22 rfl rfl rfl rfl rfl rfl (.own rfl rfl) rfl rfl rfl rfl (.assign rfl rfl (.nil (inB_normal (thn_normal (.move (env' := [(2, .c (int op)), (3, .c (.ptr 0 0 0)), (7, .c (.own 1 0 a22.length)), (10, .c (row 1 eLi64 worlds)), (11, .c (int (worlds.length : Int))), (12, .c (int t5))]) (σ' := [.one (.cells 4 [[int t.facts, row 1 intI t.init, row 1 intI t.goal, row 4 eTOperator t.operators]]), .one (vec 1 eLi64 a22), .dead, .one (vec 1 eLi64 [a20])]) 1 4 rfl rfl rfl ⟨rfl, rfl, rfl, rfl, rfl, rfl, trivial⟩ rfl ⟨⟨rfl, rfl⟩, ⟨Blk.im_ok _ _ _, vec_mv rfl⟩, trivial, ⟨Blk.im_ok _ _ _, vec_mv rfl⟩, trivial⟩ (.region (.add rfl rfl rfl (by omega) (.move rfl rfl (.nil ?_)))))))))))))))))
  have ej := Option.some.inj h
  subst ej
  refine thn_normal (Sub.cut ⟨rfl, rfl, rfl, rfl, rfl, rfl, trivial⟩ rfl ⟨.one rfl, .vec, trivial⟩ rfl)
 ·intro e s hq
  obtain ⟨rfl, hs⟩ := hq
  refine ⟨_, hs, ?_⟩
  refine inB_exit (thn_normal (.seq ?_))
  obtain ⟨a25, ha25, h⟩ := bind_some h
  refine AWP.region (.move rfl rfl (.callF (r2 := .c (.own 3 0 a25.length)) (σ'' := [.one (.cells 4 [[int t.facts, row 1 intI t.init, row 1 intI t.goal, row 4 eTOperator t.operators]]), .dead, .dead, .one (vec 1 eLi64 a25)]) rfl rfl rfl (FnOk.lend [1] (belief_Normal_w_ok ha25) rfl rfl rfl rfl rfl rfl (by exact ⟨.vec, trivial⟩) rfl (by exact ⟨(.live rfl .vec), trivial⟩) rfl rfl (by exact ⟨(.old rfl rfl rfl), .dead, .dead, (.new 2 rfl rfl .vec), trivial⟩)) (.assign rfl rfl (.nil (thn_normal (.ret ?_))))))
  have ej := Option.some.inj h
  subst ej
  exact Done.ret rfl (Fresh.mk rfl rfl)
theorem belief_Successors_w_ok {t : TTask} {worlds : List (List Int)} {r : Unit} (h : belief_Successors_w t worlds = some r) : FnOk Tryd.prog 30 [.agg [int t.facts, row 1 intI t.init, row 1 intI t.goal, row 4 eTOperator t.operators], .c (row 1 eLi64 worlds)] (belief_Successors_w_s0 t worlds) (fun tt ss => tt = .c (.fn 39 [.ptr 0 0 0, .ptr 1 0 0]) ∧ ss = [.one (.cells 4 [[int t.facts, row 1 intI t.init, row 1 intI t.goal, row 4 eTOperator t.operators]]), .one (.cells 1 [[row 1 eLi64 worlds]])]) := by
 refine FnOk.enter (rs := [.t 4]) Tryd.func30 rfl Tryd.ntmps30 Tryd.results30 rfl ⟨trivial, trivial⟩ (by kernel_rfl) rfl ?_
 refine AWP.weak ?_
 unfold belief_Successors_w at h
 refine AWP.seq (.region (W.box rfl rfl rfl rfl rfl rfl (W.box rfl rfl rfl rfl rfl rfl (.assign rfl rfl (.nil (thn_normal (.seq (.region (.makeFunc rfl rfl (.assign rfl rfl (.nil (thn_normal (.ret ?_)))))))))))))
 have ej := Option.some.inj h
 subst ej
 exact ⟨⟨[(4, .c (.fn 39 [.ptr 0 0 0, .ptr 1 0 0]))], [.one (.cells 4 [[int t.facts, row 1 intI t.init, row 1 intI t.goal, row 4 eTOperator t.operators]]), .one (.cells 1 [[row 1 eLi64 worlds]])]⟩, Sub.env ⟨rfl, trivial⟩, Done.ret rfl ⟨rfl, rfl⟩⟩
theorem belief_Small_int_1_ok {v : List (List Int)} {r : Bool} (h : belief_Small_int_1 v = some r) : PureOk Tryd.prog 27 [.c (row 1 eLi64 v)] (.c (bool r)) := by
 unfold PureOk
 refine FnOk.enter (rs := [.t 2]) Tryd.func27 rfl Tryd.ntmps27 Tryd.results27 rfl ⟨trivial, trivial⟩ (by kernel_rfl) rfl ?_
 unfold belief_Small_int_1 at h
 refine AWP.seq (.region (.assign rfl rfl (.nil (thn_normal (.seq (.region (.assign rfl rfl (.nil (thn_normal (.ret ?_))))))))))
 have ej := Option.some.inj h
 subst ej
 exact Done.ret rfl rfl
theorem internal_strconv_small_ok {iv : Int} {r : ByteArray} (h : internal_strconv_small iv = some r) : PureOk Tryd.prog 55 [.c (int iv)] (.c (.imm (.val (.string r)))) := by
 unfold PureOk
 refine FnOk.enter (rs := [.t 2]) Tryd.func55 rfl Tryd.ntmps55 Tryd.results55 rfl ⟨trivial, trivial⟩ (by kernel_rfl) rfl ?_
 unfold internal_strconv_small at h
 refine AWP.seq (.region (.assign rfl rfl (.nil (thn_normal (.seq (.seq (.region (.move rfl rfl (.lss rfl rfl rfl (.nil (thn_normal (.ite rfl h (fun hc2 h => ?_) (fun hc2 h => ?_)))))))))))))
 ·refine AWP.seq ?_
  obtain ⟨a8, ha8, h⟩ := bind_some h
  refine AWP.region (.move rfl rfl (.move rfl rfl (S.add rfl rfl rfl (S.subStr ha8 rfl rfl rfl rfl (.assign rfl rfl (.nil (thn_normal (.ret (thn_ret ?_)))))))))
  have ej := Option.some.inj h
  subst ej
  exact Done.ret rfl rfl
 ·refine AWP.skip (thn_normal (.seq ?_))
  obtain ⟨a14, ha14, h⟩ := bind_some h
  refine AWP.region (.move rfl rfl (S.mul rfl rfl rfl (.move rfl rfl (S.mul rfl rfl rfl (S.add rfl rfl rfl (S.subStr ha14 rfl rfl rfl rfl (.assign rfl rfl (.nil (thn_normal (.ret ?_))))))))))
  have ej := Option.some.inj h
  subst ej
  exact Done.ret rfl rfl
theorem internal_strconv_AppendUint_w1_ok {iv : Int} {base : Int} {l : List Int} {r : (List Int)} (h : internal_strconv_AppendUint_w1 iv base l = some r) : FnOk Tryd.prog 46 [.c (.own 0 0 l.length), .c (.imm (.val (.int .u64 iv))), .c (int base)] (internal_strconv_AppendUint_w1_s0 iv base l) (fun tt ss => tt = .c (.own 2 0 r.length) ∧ ss = [.dead, .dead, .one (vec 1 eU8 r)]) := by
 refine FnOk.enter (rs := [.t 6]) Tryd.func46 rfl Tryd.ntmps46 Tryd.results46 rfl ⟨trivial, trivial⟩ (by kernel_rfl) rfl ?_
 refine AWP.weak ?_
 unfold internal_strconv_AppendUint_w1 at h
 refine AWP.move (env' := [(0, .c (.own 1 0 l.length)), (1, .c (.imm (.val (.int .u64 iv)))), (2, .c (int base))]) (σ' := [.dead, .one (vec 1 eU8 l)]) 1 0 rfl rfl rfl ⟨rfl, rfl, rfl, trivial⟩ rfl ⟨trivial, ⟨Blk.im_ok _ _ _, vec_mv rfl⟩, trivial⟩ (.seq (.region (.assign rfl rfl (.nil (thn_normal (.seq (.seq (.region (.move rfl rfl (.eql rfl rfl rfl (.nil (thn_normal (.ite rfl h (fun hc55 h => ?_) (fun hc55 h => ?_))))))))))))))
 ·refine AWP.seq (.seq (.region (.move rfl rfl (.lss rfl rfl rfl (.nil (thn_normal (.ite rfl h (fun hc56 h => ?_) (fun hc56 h => ?_))))))))
  ·refine AWP.seq ?_
   obtain ⟨a16, ha16, h⟩ := bind_some h
   obtain ⟨a17, ha17, h⟩ := bind_some h
   refine AWP.region (.move rfl rfl (.move rfl rfl (.convInt rfl rfl (.callR rfl rfl rfl rfl (internal_strconv_small_ok ha16) rfl (S.appendStr ha17 rfl rfl rfl rfl rfl rfl rfl rfl rfl rfl (.assign rfl rfl (.nil (thn_normal (.ret (thn_ret (thn_ret ?_)))))))))))
   have ej := Option.some.inj h
   subst ej
   exact ⟨⟨[(6, .c (.own 2 0 a17.length))], [.dead, .dead, .one (vec 1 eU8 a17)]⟩, Sub.env ⟨rfl, trivial⟩, Done.ret rfl ⟨rfl, rfl⟩⟩
  ·cases h
 ·cases h
theorem internal_strconv_AppendInt_w1_ok {iv : Int} {base : Int} {l : List Int} {r : (List Int)} (h : internal_strconv_AppendInt_w1 iv base l = some r) : FnOk Tryd.prog 38 [.c (.own 0 0 l.length), .c (int iv), .c (int base)] (internal_strconv_AppendInt_w1_s0 iv base l) (fun tt ss => tt = .c (.own 3 0 r.length) ∧ ss = [.dead, .dead, .dead, .one (vec 1 eU8 r)]) := by
 refine FnOk.enter (rs := [.t 6]) Tryd.func38 rfl Tryd.ntmps38 Tryd.results38 rfl ⟨trivial, trivial⟩ (by kernel_rfl) rfl ?_
 refine AWP.weak ?_
 unfold internal_strconv_AppendInt_w1 at h
 refine AWP.move (env' := [(0, .c (.own 1 0 l.length)), (1, .c (int iv)), (2, .c (int base))]) (σ' := [.dead, .one (vec 1 eU8 l)]) 1 0 rfl rfl rfl ⟨rfl, rfl, rfl, trivial⟩ rfl ⟨trivial, ⟨Blk.im_ok _ _ _, vec_mv rfl⟩, trivial⟩ (.seq (.region (.assign rfl rfl (.nil (thn_normal (.seq (.region (.move rfl rfl (.convInt rfl rfl (.assign rfl rfl (.nil (thn_normal ?_))))))))))))
 obtain ⟨u, hx55, h⟩ := bind_some h
 refine AWP.seqJ (⟨[(0, .c (.own 1 0 l.length)), (2, .c (int base)), (7, .c (.imm (.val (.int .u64 ((IntKind.u64).wrap iv)))))], [.dead, .one (vec 1 eU8 l)]⟩) ?_ ?_
 ·refine AWP.seq (.region (.move rfl rfl (.lss rfl rfl rfl (.nil (thn_normal (.ite rfl hx55 (fun hc56 hx55 => ?_) (fun hc56 hx55 => ?_)))))))
  ·cases hx55
  ·refine AWP.skip ?_
   have ej := Option.some.inj hx55
   subst ej
   refine thn_normal (Sub.env ⟨rfl, rfl, rfl, trivial⟩)
 ·try dsimp only at h
  refine AWP.seq ?_
  obtain ⟨a20, ha20, h⟩ := bind_some h
  refine AWP.region (.move rfl rfl (.move rfl rfl (.move rfl rfl (.callF (r2 := .c (.own 3 0 a20.length)) (σ'' := [.dead, .dead, .dead, .one (vec 1 eU8 a20)]) rfl rfl rfl (FnOk.lend [1] (internal_strconv_AppendUint_w1_ok ha20) rfl rfl rfl rfl rfl rfl (by exact ⟨.vec, trivial⟩) rfl (by exact ⟨(.live rfl .vec), trivial⟩) rfl rfl (by exact ⟨.dead, .dead, .dead, (.new 2 rfl rfl .vec), trivial⟩)) (.assign rfl rfl (.nil (thn_normal (.ret ?_))))))))
  have ej := Option.some.inj h
  subst ej
  exact ⟨⟨[(6, .c (.own 3 0 a20.length))], [.dead, .dead, .dead, .one (vec 1 eU8 a20)]⟩, Sub.env ⟨rfl, trivial⟩, Done.ret rfl ⟨rfl, rfl⟩⟩
theorem strconv_AppendInt_w1_ok {iv : Int} {base : Int} {l : List Int} {r : (List Int)} (h : strconv_AppendInt_w1 iv base l = some r) : FnOk Tryd.prog 28 [.c (.own 0 0 l.length), .c (int iv), .c (int base)] (strconv_AppendInt_w1_s0 iv base l) (fun tt ss => tt = .c (.own 4 0 r.length) ∧ ss = [.dead, .dead, .dead, .dead, .one (vec 1 eU8 r)]) := by
 refine FnOk.enter (rs := [.t 6]) Tryd.func28 rfl Tryd.ntmps28 Tryd.results28 rfl ⟨trivial, trivial⟩ (by kernel_rfl) rfl ?_
 refine AWP.weak ?_
 unfold strconv_AppendInt_w1 at h
 refine AWP.move (env' := [(0, .c (.own 1 0 l.length)), (1, .c (int iv)), (2, .c (int base))]) (σ' := [.dead, .one (vec 1 eU8 l)]) 1 0 rfl rfl rfl ⟨rfl, rfl, rfl, trivial⟩ rfl ⟨trivial, ⟨Blk.im_ok _ _ _, vec_mv rfl⟩, trivial⟩ (.seq (.region (.assign rfl rfl (.nil (thn_normal (.seq ?_))))))
 obtain ⟨a10, ha10, h⟩ := bind_some h
 refine AWP.region (.move rfl rfl (.move rfl rfl (.move rfl rfl (.callF (r2 := .c (.own 4 0 a10.length)) (σ'' := [.dead, .dead, .dead, .dead, .one (vec 1 eU8 a10)]) rfl rfl rfl (FnOk.lend [1] (internal_strconv_AppendInt_w1_ok ha10) rfl rfl rfl rfl rfl rfl (by exact ⟨.vec, trivial⟩) rfl (by exact ⟨(.live rfl .vec), trivial⟩) rfl rfl (by exact ⟨.dead, .dead, .dead, .dead, (.new 3 rfl rfl .vec), trivial⟩)) (.assign rfl rfl (.nil (thn_normal (.ret ?_))))))))
 have ej := Option.some.inj h
 subst ej
 exact ⟨⟨[(6, .c (.own 4 0 a10.length))], [.dead, .dead, .dead, .dead, .one (vec 1 eU8 a10)]⟩, Sub.env ⟨rfl, trivial⟩, Done.ret rfl ⟨rfl, rfl⟩⟩
theorem belief_Key_ok {l : List (List Int)} {r : ByteArray} (h : belief_Key l = some r) : PureOk Tryd.prog 17 [.c (row 1 eLi64 l)] (.c (.imm (.val (.string r)))) := by
 unfold PureOk
 refine FnOk.enter (rs := [.t 2]) Tryd.func17 rfl Tryd.ntmps17 Tryd.results17 rfl ⟨trivial, trivial⟩ (by kernel_rfl) rfl ?_
 unfold belief_Key at h
 refine AWP.seq (.region (.assign rfl rfl (.nil (thn_normal (.seq (.region (.assign rfl rfl (.nil (thn_normal (.seq (.seq (.region (.move rfl rfl (S.len rfl rfl (fun hl9 => .move rfl rfl (.nil (thn_normal (.block (.virtV 1 eU8 3 rfl rfl rfl ?_)))))))))))))))))))
 obtain ⟨c2, ho1, h⟩ := bind_some h
 refine AWP.forS ho1 (fun t3 c2 => ⟨[(3, .c (.own 0 0 c2.length)), (8, .c (row 1 eLi64 l)), (9, .c (int (l.length : Int))), (10, .c (int t3))], [.one (vec 1 eU8 c2)]⟩) (fun c2 e st => e = .exit 0 ∧ Sub [] st ⟨[(3, .c (.own 0 0 c2.length))], [.one (vec 1 eU8 c2)]⟩) ?_ ?_ ?_ ?_
 ·try dsimp only
  exact Sub.env ⟨(own_len (by first | rfl | simp only [List.length_set])), rfl, rfl, rfl, trivial⟩
 ·intro t3 c2 hlot3 hltt3 _
  try dsimp only
  refine AWP.seq (.region (.lss rfl rfl rfl (.nil (thn_normal (.seq (.condNP rfl hltt3 (.exit (thn_exit (thn_exit ⟨rfl, ?_⟩)))))))))
  exact Sub.env ⟨rfl, trivial⟩
 ·intro t3 c2 o hlot3 hltt3 h
  unfold belief_Key_l1 at h
  try dsimp only at h ⊢
  refine AWP.seq (.region (.lss rfl rfl rfl (.nil (thn_normal (.seq (.condP rfl hltt3 (.skip (thn_normal (.seq (.block (.seq ?_)))))))))))
  obtain ⟨a12, ha12, h⟩ := bind_some h
  refine AWP.region (S.idx ha12 rfl rfl rfl rfl (.loadI rfl rfl rfl rfl (.assign rfl rfl (.nil (thn_normal (.seq (.seq (.region (.move rfl rfl (S.len rfl rfl (fun hl15 => .move rfl rfl (.nil (thn_normal (.block ?_))))))))))))))
  obtain ⟨c4, ho2, h⟩ := bind_some h
  refine AWP.forS ho2 (fun t5 c4 => ⟨[(3, .c (.own 0 0 c4.length)), (8, .c (row 1 eLi64 l)), (9, .c (int (l.length : Int))), (10, .c (int t3)), (14, .c (row 1 intI a12)), (15, .c (int (a12.length : Int))), (16, .c (int t5))], [.one (vec 1 eU8 c4)]⟩) (fun c4 e st => e = .exit 2 ∧ Sub [] st ⟨[(3, .c (.own 0 0 c4.length)), (8, .c (row 1 eLi64 l)), (9, .c (int (l.length : Int))), (10, .c (int t3))], [.one (vec 1 eU8 c4)]⟩) ?_ ?_ ?_ ?_
  ·try dsimp only
   exact Sub.env ⟨rfl, rfl, rfl, rfl, rfl, rfl, rfl, trivial⟩
  ·intro t5 c4 hlot5 hltt5 _
   try dsimp only
   refine AWP.seq (.region (.lss rfl rfl rfl (.nil (thn_normal (.seq (.condNP rfl hltt5 (.exit (thn_exit (thn_exit ⟨rfl, ?_⟩)))))))))
   exact Sub.env ⟨rfl, rfl, rfl, rfl, trivial⟩
  ·intro t5 c4 o hlot5 hltt5 h
   unfold belief_Key_l2 at h
   try dsimp only at h ⊢
   refine AWP.seq (.region (.lss rfl rfl rfl (.nil (thn_normal (.seq (.condP rfl hltt5 (.skip (thn_normal (.seq (.block (.seq ?_)))))))))))
   obtain ⟨a18, ha18, h⟩ := bind_some h
   refine AWP.region (S.idx ha18 rfl rfl rfl rfl (.loadI rfl rfl rfl rfl (.assign rfl rfl (.nil (thn_normal ?_)))))
   obtain ⟨a22, ha22, h⟩ := bind_some h
   obtain ⟨a24, ha24, h⟩ := bind_some h
   refine AWP.region (.move rfl rfl (.move rfl rfl (.callF (r2 := .c (.own 4 0 a22.length)) (σ'' := [.dead, .dead, .dead, .dead, .one (vec 1 eU8 a22)]) rfl rfl rfl (FnOk.lend [0] (strconv_AppendInt_w1_ok ha22) rfl rfl rfl rfl rfl rfl (by exact ⟨.vec, trivial⟩) rfl (by exact ⟨(.live rfl .vec), trivial⟩) rfl rfl (by exact ⟨.dead, .dead, .dead, .dead, (.new 4 rfl rfl .vec), trivial⟩)) (S.lit (f := eU8) (l := [44]) (ess := [[.imm (.val (.int .u8 44))]]) rfl rfl rfl rfl rfl rfl rfl ⟨⟨.inl rfl, trivial⟩, trivial⟩ rfl rfl rfl (S.append (f := eU8) ha24 rfl rfl rfl rfl rfl rfl (.own rfl rfl) rfl rfl rfl rfl (.assign rfl rfl (.nil (inB_normal (thn_normal (.move (env' := [(3, .c (.own 4 0 a24.length)), (8, .c (row 1 eLi64 l)), (9, .c (int (l.length : Int))), (10, .c (int t3)), (14, .c (row 1 intI a12)), (15, .c (int (a12.length : Int))), (16, .c (int t5))]) (σ' := [.dead, .dead, .dead, .dead, .one (vec 1 eU8 a24), .one (vec 1 eU8 [44])]) 4 6 rfl rfl rfl ⟨rfl, rfl, rfl, rfl, rfl, rfl, rfl, trivial⟩ rfl ⟨trivial, trivial, trivial, trivial, ⟨Blk.im_ok _ _ _, vec_mv rfl⟩, ⟨Blk.im_ok _ _ _, vec_mv rfl⟩, trivial⟩ (.region (.add rfl rfl rfl (by omega) (.move rfl rfl (.nil ?_))))))))))))))
   have ej := Option.some.inj h
   subst ej
   refine thn_normal ((Sub.move (env' := [(3, .c (.own 0 0 a24.length)), (8, .c (row 1 eLi64 l)), (9, .c (int (l.length : Int))), (10, .c (int t3)), (14, .c (row 1 intI a12)), (15, .c (int (a12.length : Int))), (16, .c (int (t5 + 1)))]) (σ' := [.one (vec 1 eU8 a24), .dead, .dead, .dead, .dead, .one (vec 1 eU8 [44])]) 0 4 rfl rfl rfl ⟨rfl, rfl, rfl, rfl, rfl, rfl, rfl, trivial⟩ rfl ⟨⟨Blk.im_ok _ _ _, vec_mv rfl⟩, trivial, trivial, trivial, trivial, ⟨Blk.im_ok _ _ _, vec_mv rfl⟩, trivial⟩).trans (Sub.cut ⟨rfl, rfl, rfl, rfl, rfl, rfl, rfl, trivial⟩ rfl ⟨.vec, trivial⟩ rfl))
  ·intro e s hq
   obtain ⟨rfl, hs⟩ := hq
   refine ⟨_, hs, ?_⟩
   refine inB_exit (thn_normal ?_)
   obtain ⟨a28, ha28, h⟩ := bind_some h
   refine AWP.region (.move rfl rfl (S.lit (f := eU8) (l := [59]) (ess := [[.imm (.val (.int .u8 59))]]) rfl rfl rfl rfl rfl rfl rfl ⟨⟨.inl rfl, trivial⟩, trivial⟩ rfl rfl rfl (S.append (f := eU8) ha28 rfl rfl rfl rfl rfl rfl (.own rfl rfl) rfl rfl rfl rfl (.assign rfl rfl (.nil (inB_normal (thn_normal (.move (env' := [(3, .c (.own 0 0 a28.length)), (8, .c (row 1 eLi64 l)), (9, .c (int (l.length : Int))), (10, .c (int t3))]) (σ' := [.one (vec 1 eU8 a28), .one (vec 1 eU8 [59])]) 0 2 rfl rfl rfl ⟨rfl, rfl, rfl, rfl, trivial⟩ rfl ⟨⟨Blk.im_ok _ _ _, vec_mv rfl⟩, ⟨Blk.im_ok _ _ _, vec_mv rfl⟩, trivial⟩ (.region (.add rfl rfl rfl (by omega) (.move rfl rfl (.nil ?_))))))))))))
   have ej := Option.some.inj h
   subst ej
   refine thn_normal (Sub.cut ⟨rfl, rfl, rfl, rfl, trivial⟩ rfl ⟨.vec, trivial⟩ rfl)
 ·intro e s hq
  obtain ⟨rfl, hs⟩ := hq
  refine ⟨_, hs, ?_⟩
  refine inB_exit (thn_normal (.seq (.region (.move rfl rfl (S.bytesStr rfl rfl rfl rfl (.assign rfl rfl (.nil (thn_normal (.ret ?_)))))))))
  have ej := Option.some.inj h
  subst ej
  exact Done.ret rfl rfl
theorem strips_Can_ok {t : TTask} {sv : List Int} {op : Int} {r : Bool} (h : strips_Can t sv op = some r) : PureOk Tryd.prog 32 [.agg [int t.facts, row 1 intI t.init, row 1 intI t.goal, row 4 eTOperator t.operators], .c (row 1 intI sv), .c (int op)] (.c (bool r)) := by
 unfold PureOk
 refine FnOk.enter (rs := [.t 6]) Tryd.func32 rfl Tryd.ntmps32 Tryd.results32 rfl ⟨trivial, trivial⟩ (by kernel_rfl) rfl ?_
 unfold strips_Can at h
 refine AWP.seq (.region (W.box rfl rfl rfl rfl rfl rfl (.assign rfl rfl (.nil (thn_normal (.seq ?_))))))
 obtain ⟨a11, ha11, h⟩ := bind_some h
 obtain ⟨a14, ha14, h⟩ := bind_some h
 refine AWP.region (.move rfl rfl (W.fieldAddr rfl rfl rfl rfl (.load rfl rfl rfl rfl rfl rfl (.move rfl rfl (S.idx ha11 rfl rfl rfl rfl (W.fieldAddrI rfl rfl rfl rfl (.loadI rfl rfl rfl rfl (.callR rfl rfl rfl rfl (strips_Contains_ok ha14) rfl (.assign rfl rfl (.nil (thn_normal (.ret ?_))))))))))))
 have ej := Option.some.inj h
 subst ej
 exact Done.ret rfl rfl
theorem belief_Next_w_ok {t : TTask} {r : Unit} (h : belief_Next_w t = some r) : FnOk Tryd.prog 18 [.agg [int t.facts, row 1 intI t.init, row 1 intI t.goal, row 4 eTOperator t.operators]] (belief_Next_w_s0 t) (fun tt ss => tt = .c (.fn 29 [.ptr 0 0 0]) ∧ ss = [.one (.cells 4 [[int t.facts, row 1 intI t.init, row 1 intI t.goal, row 4 eTOperator t.operators]])]) := by
 refine FnOk.enter (rs := [.t 2]) Tryd.func18 rfl Tryd.ntmps18 Tryd.results18 rfl ⟨trivial, trivial⟩ (by kernel_rfl) rfl ?_
 refine AWP.weak ?_
 unfold belief_Next_w at h
 refine AWP.seq (.region (W.box rfl rfl rfl rfl rfl rfl (.assign rfl rfl (.nil (thn_normal (.seq (.region (.makeFunc rfl rfl (.assign rfl rfl (.nil (thn_normal (.ret ?_))))))))))))
 have ej := Option.some.inj h
 subst ej
 exact ⟨⟨[(2, .c (.fn 29 [.ptr 0 0 0]))], [.one (.cells 4 [[int t.facts, row 1 intI t.init, row 1 intI t.goal, row 4 eTOperator t.operators]])]⟩, Sub.env ⟨rfl, trivial⟩, Done.ret rfl ⟨rfl, rfl⟩⟩
theorem belief_Next_1_w_ok {worlds : List (List Int)} {Facts : Int} {Init : List Int} {Goal : List Int} {Operators : List TOperator} {r : Unit} (h : belief_Next_1_w worlds Facts Init Goal Operators = some r) : FnOk Tryd.prog 29 [.c (row 1 eLi64 worlds), .c (.ptr 0 0 0)] (belief_Next_1_w_s0 worlds Facts Init Goal Operators) (fun tt ss => tt = .c (.fn 39 [.ptr 1 0 0, .ptr 2 0 0]) ∧ ss = [.one (.cells 4 [[int Facts, row 1 intI Init, row 1 intI Goal, row 4 eTOperator Operators]]), .one (.cells 4 [[int Facts, row 1 intI Init, row 1 intI Goal, row 4 eTOperator Operators]]), .one (.cells 1 [[row 1 eLi64 worlds]])]) := by
 refine FnOk.enter (rs := [.t 3]) Tryd.func29 rfl Tryd.ntmps29 Tryd.results29 rfl ⟨trivial, trivial⟩ (by kernel_rfl) rfl ?_
 refine AWP.weak ?_
 unfold belief_Next_1_w at h
 refine AWP.seq (.region (.assign rfl rfl (.nil (thn_normal (.seq ?_)))))
 obtain ⟨a6, ha6, h⟩ := bind_some h
 refine AWP.region (W.loadAgg rfl rfl rfl rfl rfl rfl rfl (.move rfl rfl (.callF (r2 := .c (.fn 39 [.ptr 1 0 0, .ptr 2 0 0])) (σ'' := [.one (.cells 4 [[int Facts, row 1 intI Init, row 1 intI Goal, row 4 eTOperator Operators]]), .one (.cells 4 [[int Facts, row 1 intI Init, row 1 intI Goal, row 4 eTOperator Operators]]), .one (.cells 1 [[row 1 eLi64 worlds]])]) rfl rfl rfl (FnOk.lend [] (belief_Successors_w_ok ha6) rfl rfl rfl rfl rfl rfl (by exact trivial) rfl (by exact trivial) rfl rfl (by exact ⟨(.old rfl rfl rfl), (.new 0 rfl rfl (.one rfl)), (.new 1 rfl rfl (.one rfl)), trivial⟩)) (.assign rfl rfl (.nil (thn_normal (.ret ?_)))))))
 have ej := Option.some.inj h
 subst ej
 exact ⟨⟨[(3, .c (.fn 39 [.ptr 1 0 0, .ptr 2 0 0]))], [.one (.cells 4 [[int Facts, row 1 intI Init, row 1 intI Goal, row 4 eTOperator Operators]]), .one (.cells 4 [[int Facts, row 1 intI Init, row 1 intI Goal, row 4 eTOperator Operators]]), .one (.cells 1 [[row 1 eLi64 worlds]])]⟩, Sub.env ⟨rfl, trivial⟩, Done.ret rfl ⟨rfl, rfl⟩⟩
theorem belief_Breadth_int_w_ok {start : List (List Int)} {Facts : Int} {Init : List Int} {Goal : List Int} {Operators : List TOperator} {r : (List Int) × Bool × Bool} (h : belief_Breadth_int_w start Facts Init Goal Operators = some r) : FnOk Tryd.prog 26 [.c (row 1 eLi64 start), .c (.fn 17 []), .c (.fn 29 [.ptr 0 0 0]), .c (.fn 27 [])] (belief_Breadth_int_w_s0 start Facts Init Goal Operators) (fun tt ss => tt = .tup [.c (row 1 intI r.1), .c (bool r.2.1), .c (bool r.2.2)] ∧ ss = [.one (.cells 4 [[int Facts, row 1 intI Init, row 1 intI Goal, row 4 eTOperator Operators]]), .dead, .one (.cells 1 [[row 1 intI r.1]]), .one (.cells 1 [[bool r.2.1]]), .one (.cells 1 [[bool r.2.2]])]) := by
 refine FnOk.enter (rs := [.one 8 22, .one 9 4, .one 10 4]) Tryd.func26 rfl Tryd.ntmps26 Tryd.results26 rfl ⟨rv1 _ rfl, rv1 _ rfl, rv1 _ rfl, trivial⟩ (by kernel_rfl) rfl ?_
 refine AWP.weak ?_
 unfold belief_Breadth_int_w at h
 refine AWP.seq (.region (W.box rfl rfl rfl rfl rfl rfl (W.alloc rfl rfl rfl rfl (W.alloc rfl rfl rfl rfl (W.alloc rfl rfl rfl rfl (.nil (thn_normal (.seq (.region (.move rfl rfl (W.build rfl rfl rfl rfl (S.lit (f := eTbelief_entry_int) (l := [(⟨start, -1, 0⟩ : Tbelief_entry_int)]) (ess := [[row 1 eLi64 start, int (-1), int 0]]) rfl rfl rfl rfl rfl rfl rfl ⟨⟨.inl rfl, .inl rfl, .inl rfl, trivial⟩, trivial⟩ rfl rfl rfl (W.alloc rfl rfl rfl rfl (W.store rfl rfl rfl rfl rfl (.nil (thn_normal (.seq ?_)))))))))))))))))
 obtain ⟨a25, ha25, h⟩ := bind_some h
 refine AWP.region (W.makeMap Value.string (Value.int .i64) rfl rfl rfl (.load rfl rfl rfl rfl rfl rfl (.move rfl rfl (.callR rfl rfl rfl rfl (belief_Key_ok ha25) rfl (W.insert (fk := Value.string) (fv := (Value.int .i64)) (k := a25) (a := 1) keyStr rfl rfl rfl rfl rfl (.move rfl rfl (W.alloc rfl rfl rfl rfl (W.store rfl rfl rfl rfl rfl (.nil (thn_normal (.seq (.seq (.region (W.alloc rfl rfl rfl rfl (W.store rfl rfl rfl rfl rfl (.nil (thn_normal (.block ?_))))))))))))))))))
 obtain ⟨oo, ho1, h⟩ := bind_some h
 refine AWP.loopS ho1 (fun (c59, c60, c61) => ⟨[(2, .c (.fn 29 [.ptr 0 0 0])), (3, .c (.fn 27 [])), (5, .c (.ptr 1 0 0)), (8, .c (.ptr 2 0 0)), (9, .c (.ptr 3 0 0)), (10, .c (.ptr 4 0 0)), (11, .c (.ptr 6 0 0)), (12, .c (.ptr 8 0 0)), (13, .c (.ptr 9 0 0))], [.one (.cells 4 [[int Facts, row 1 intI Init, row 1 intI Goal, row 4 eTOperator Operators]]), .one (.cells 1 [[.fn 17 []]]), .one (.cells 1 [[.imm (.val (.slice none 0 0))]]), .one (.cells 1 [[bool false]]), .one (.cells 1 [[bool false]]), .one (vec 3 eTbelief_entry_int c59), .one (.cells 1 [[.own 5 0 c59.length]]), .one (mapB Value.string (Value.int .i64) c60), .one (.cells 1 [[.map 7]]), .one (.cells 1 [[int c61]])]⟩) (fun o e st => match o with | .inl _ => e = .exit 0 ∧ Sub (belief_Breadth_int_w_s0 start Facts Init Goal Operators) st ⟨[(8, .c (.ptr 2 0 0)), (9, .c (.ptr 3 0 0)), (10, .c (.ptr 4 0 0))], [.one (.cells 4 [[int Facts, row 1 intI Init, row 1 intI Goal, row 4 eTOperator Operators]]), .dead, .one (.cells 1 [[.imm (.val (.slice none 0 0))]]), .one (.cells 1 [[bool false]]), .one (.cells 1 [[bool false]])]⟩ | .inr x => e = .ret ∧ ∃ J, Sub (belief_Breadth_int_w_s0 start Facts Init Goal Operators) st J ∧ Done [.one 8 22, .one 9 4, .one 10 4] (fun tt ss => tt = .tup [.c (row 1 intI x.1), .c (bool x.2.1), .c (bool x.2.2)] ∧ ss = [.one (.cells 4 [[int Facts, row 1 intI Init, row 1 intI Goal, row 4 eTOperator Operators]]), .dead, .one (.cells 1 [[row 1 intI x.1]]), .one (.cells 1 [[bool x.2.1]]), .one (.cells 1 [[bool x.2.2]])]) .ret J) ?_ ?_ ?_
 ·try dsimp only
  exact Sub.env ⟨rfl, rfl, rfl, rfl, rfl, rfl, rfl, rfl, rfl, trivial⟩
 ·intro s o h
  obtain ⟨c59, c60, c61⟩ := s
  unfold belief_Breadth_int_w_l1 at h
  try dsimp only at h ⊢
  refine AWP.seq (.seq (.region (.load rfl rfl rfl rfl rfl rfl (.load rfl rfl rfl rfl rfl rfl (S.lenO rfl rfl rfl (fun hl29 => .lss rfl rfl rfl (.nil (thn_normal (.ite rfl h (fun hc62 h => ?_) (fun hc62 h => ?_))))))))))
  ·refine AWP.skip (thn_normal (.seq (.block (.seq (.seq ?_)))))
   obtain ⟨a36, ha36, h⟩ := bind_some h
   obtain ⟨a39, ha39, h⟩ := bind_some h
   refine AWP.region (.move rfl rfl (.load rfl rfl rfl rfl rfl rfl (.load rfl rfl rfl rfl rfl rfl (S.idxO ha36 rfl rfl rfl rfl rfl (W.fieldAddr rfl rfl rfl rfl (S.loadO ha36 rfl rfl rfl rfl rfl (.callR rfl rfl rfl rfl (belief_Small_int_1_ok ha39) rfl (.nil (thn_normal (.iteB rfl h (fun hc63 h => ?_) (fun hc63 h => ?_)))))))))))
   ·refine AWP.seq (.region (.assign rfl rfl (.nil (thn_normal (.seq (.seq (.region (.load rfl rfl rfl rfl rfl rfl (.assign rfl rfl (.nil (thn_normal (.block (.virtV 1 intI 14 rfl rfl rfl ?_)))))))))))))
    obtain ⟨c66, ho2, h⟩ := bind_some h
    refine AWP.loopS ho2 (fun (c64, iv65) => ⟨[(8, .c (.ptr 2 0 0)), (9, .c (.ptr 3 0 0)), (10, .c (.ptr 4 0 0)), (11, .c (.ptr 6 0 0)), (14, .c (.own 10 0 c64.length)), (15, .c (int iv65))], [.one (.cells 4 [[int Facts, row 1 intI Init, row 1 intI Goal, row 4 eTOperator Operators]]), .dead, .one (.cells 1 [[.imm (.val (.slice none 0 0))]]), .one (.cells 1 [[bool false]]), .one (.cells 1 [[bool false]]), .one (vec 3 eTbelief_entry_int c59), .one (.cells 1 [[.own 5 0 c59.length]]), .dead, .dead, .dead, .one (vec 1 intI c64)]⟩) (fun c66 e st => e = .exit 2 ∧ Sub (belief_Breadth_int_w_s0 start Facts Init Goal Operators) st ⟨[(8, .c (.ptr 2 0 0)), (9, .c (.ptr 3 0 0)), (10, .c (.ptr 4 0 0)), (14, .c (.own 10 0 c66.length))], [.one (.cells 4 [[int Facts, row 1 intI Init, row 1 intI Goal, row 4 eTOperator Operators]]), .dead, .one (.cells 1 [[.imm (.val (.slice none 0 0))]]), .one (.cells 1 [[bool false]]), .one (.cells 1 [[bool false]]), .dead, .dead, .dead, .dead, .dead, .one (vec 1 intI c66)]⟩) ?_ ?_ ?_
    ·try dsimp only
     exact Sub.cut ⟨rfl, rfl, rfl, rfl, (own_len (by first | rfl | simp only [List.length_set])), rfl, trivial⟩ rfl ⟨.one rfl, .dead, .one rfl, .one rfl, .one rfl, .vec, .one rfl, .dead, .dead, .dead, .vec, trivial⟩ rfl
    ·intro s o h
     obtain ⟨c64, iv65⟩ := s
     unfold belief_Breadth_int_w_l2 at h
     try dsimp only at h ⊢
     refine AWP.seq (.seq ?_)
     obtain ⟨a43, ha43, h⟩ := bind_some h
     refine AWP.region (.load rfl rfl rfl rfl rfl rfl (.move rfl rfl (S.idxO ha43 rfl rfl rfl rfl rfl (W.fieldAddr rfl rfl rfl rfl (S.loadO ha43 rfl rfl rfl rfl rfl (.geq rfl rfl rfl (.nil (thn_normal (.ite rfl h (fun hc67 h => ?_) (fun hc67 h => ?_))))))))))
     ·refine AWP.skip (thn_normal (.seq (.block ?_)))
      obtain ⟨a55, ha55, h⟩ := bind_some h
      obtain ⟨a59, ha59, h⟩ := bind_some h
      refine AWP.region (.move rfl rfl (.load rfl rfl rfl rfl rfl rfl (.move rfl rfl (S.idxO ha55 rfl rfl rfl rfl rfl (W.fieldAddr rfl rfl rfl rfl (S.loadO ha55 rfl rfl rfl rfl rfl (S.lit (f := intI) (l := [a55.step]) (ess := [[int a55.step]]) rfl rfl rfl rfl rfl rfl rfl ⟨⟨.inl rfl, trivial⟩, trivial⟩ rfl rfl rfl (S.append (f := intI) ha59 rfl rfl rfl rfl rfl rfl (.own rfl rfl) rfl rfl rfl rfl (.assign rfl rfl (.nil (inB_normal (thn_normal (.move (env' := [(8, .c (.ptr 2 0 0)), (9, .c (.ptr 3 0 0)), (10, .c (.ptr 4 0 0)), (11, .c (.ptr 6 0 0)), (14, .c (.own 10 0 a59.length)), (15, .c (int iv65))]) (σ' := [.one (.cells 4 [[int Facts, row 1 intI Init, row 1 intI Goal, row 4 eTOperator Operators]]), .dead, .one (.cells 1 [[.imm (.val (.slice none 0 0))]]), .one (.cells 1 [[bool false]]), .one (.cells 1 [[bool false]]), .one (vec 3 eTbelief_entry_int c59), .one (.cells 1 [[.own 5 0 c59.length]]), .dead, .dead, .dead, .one (vec 1 intI a59), .one (vec 1 intI [a55.step])]) 10 12 rfl rfl rfl ⟨rfl, rfl, rfl, rfl, rfl, rfl, trivial⟩ rfl ⟨⟨rfl, rfl⟩, trivial, ⟨rfl, rfl⟩, ⟨rfl, rfl⟩, ⟨rfl, rfl⟩, ⟨Blk.im_ok _ _ _, vec_mv rfl⟩, ⟨rfl, rfl⟩, trivial, trivial, trivial, ⟨Blk.im_ok _ _ _, vec_mv rfl⟩, ⟨Blk.im_ok _ _ _, vec_mv rfl⟩, trivial⟩ ?_)))))))))))))
      obtain ⟨a49, ha49, h⟩ := bind_some h
      refine AWP.region (.load rfl rfl rfl rfl rfl rfl (.move rfl rfl (S.idxO ha49 rfl rfl rfl rfl rfl (W.fieldAddr rfl rfl rfl rfl (S.loadO ha49 rfl rfl rfl rfl rfl (.assign rfl rfl (.nil ?_)))))))
      have ej := Option.some.inj h
      subst ej
      refine thn_normal ⟨_, rfl, ?_⟩
      exact Sub.cut ⟨rfl, rfl, rfl, rfl, rfl, rfl, trivial⟩ rfl ⟨.one rfl, .dead, .one rfl, .one rfl, .one rfl, .vec, .one rfl, .dead, .dead, .dead, .vec, trivial⟩ rfl
     ·refine AWP.exit (thn_exit ?_)
      have ej := Option.some.inj h
      subst ej
      refine thn_exit ⟨_, rfl, rfl, ?_⟩
      exact Sub.cut ⟨rfl, rfl, rfl, rfl, trivial⟩ rfl ⟨.one rfl, .dead, .one rfl, .one rfl, .one rfl, .dead, .dead, .dead, .dead, .dead, .vec, trivial⟩ rfl
    ·intro e s hq
     obtain ⟨rfl, hs⟩ := hq
     refine ⟨_, hs, ?_⟩
     refine inB_exit (thn_normal (.seq (.region (.move rfl rfl (S.rev revL_ok rfl rfl rfl rfl rfl rfl (.nil (thn_normal (.seq (.region (.move rfl rfl (W.store rfl rfl rfl rfl rfl (W.store rfl rfl rfl rfl rfl (W.store rfl rfl rfl rfl rfl (.nil (thn_normal (.frzV (id := 10) (l := c66.reverse) (env2 := [(8, .c (.ptr 2 0 0)), (9, .c (.ptr 3 0 0)), (10, .c (.ptr 4 0 0))]) (σ2 := [.one (.cells 4 [[int Facts, row 1 intI Init, row 1 intI Goal, row 4 eTOperator Operators]]), .dead, .one (.cells 1 [[row 1 intI c66.reverse]]), .one (.cells 1 [[bool true]]), .one (.cells 1 [[bool true]]), .dead, .dead, .dead, .dead, .dead, .dead]) rfl rfl (by exact ⟨⟨_, rfl, .inl ⟨rfl, rfl⟩⟩, ⟨_, rfl, .inl ⟨rfl, rfl⟩⟩, ⟨_, rfl, .inl ⟨rfl, rfl⟩⟩, trivial⟩) rfl (by exact ⟨⟨rfl, .inl ⟨rfl, rfl⟩, .inl ⟨rfl, rfl⟩, .inl ⟨rfl, rfl⟩, .inl ⟨rfl, rfl⟩, trivial⟩, trivial, ⟨rfl, .inr ⟨_, rfl, List.length_reverse.symm, rfl⟩, trivial⟩, ⟨rfl, .inl ⟨rfl, rfl⟩, trivial⟩, ⟨rfl, .inl ⟨rfl, rfl⟩, trivial⟩, trivial, trivial, trivial, trivial, trivial, trivial, trivial⟩) (.ret (thn_ret (inB_ret (thn_ret ?_))))))))))))))))))))
     have ej := Option.some.inj h
     subst ej
     refine thn_ret ⟨_, rfl, rfl, ?_⟩
     exact ⟨⟨[(8, .c (.ptr 2 0 0)), (9, .c (.ptr 3 0 0)), (10, .c (.ptr 4 0 0))], [.one (.cells 4 [[int Facts, row 1 intI Init, row 1 intI Goal, row 4 eTOperator Operators]]), .dead, .one (.cells 1 [[row 1 intI c66.reverse]]), .one (.cells 1 [[bool true]]), .one (.cells 1 [[bool true]])]⟩, Sub.cut ⟨rfl, rfl, rfl, trivial⟩ rfl ⟨.one rfl, .dead, .one rfl, .one rfl, .one rfl, trivial⟩ rfl, Done.ret rfl ⟨rfl, rfl⟩⟩
   ·refine AWP.skip (thn_normal (.seq ?_))
    obtain ⟨a66, ha66, h⟩ := bind_some h
    obtain ⟨a69, ha69, h⟩ := bind_some h
    refine AWP.region (.move rfl rfl (.load rfl rfl rfl rfl rfl rfl (.load rfl rfl rfl rfl rfl rfl (S.idxO ha66 rfl rfl rfl rfl rfl (W.fieldAddr rfl rfl rfl rfl (S.loadO ha66 rfl rfl rfl rfl rfl (.callF (r2 := .c (.fn 39 [.ptr 10 0 0, .ptr 11 0 0])) (σ'' := [.one (.cells 4 [[int Facts, row 1 intI Init, row 1 intI Goal, row 4 eTOperator Operators]]), .one (.cells 1 [[.fn 17 []]]), .one (.cells 1 [[.imm (.val (.slice none 0 0))]]), .one (.cells 1 [[bool false]]), .one (.cells 1 [[bool false]]), .one (vec 3 eTbelief_entry_int c59), .one (.cells 1 [[.own 5 0 c59.length]]), .one (mapB Value.string (Value.int .i64) c60), .one (.cells 1 [[.map 7]]), .one (.cells 1 [[int c61]]), .one (.cells 4 [[int Facts, row 1 intI Init, row 1 intI Goal, row 4 eTOperator Operators]]), .one (.cells 1 [[row 1 eLi64 a66.node]])]) rfl rfl rfl (FnOk.lend [0] (belief_Next_1_w_ok ha69) rfl rfl rfl rfl rfl rfl (by exact ⟨(.one rfl), trivial⟩) rfl (by exact ⟨(.live rfl (.one rfl)), trivial⟩) rfl rfl (by exact ⟨(.new 0 rfl rfl (.one rfl)), (.old rfl rfl rfl), (.old rfl rfl rfl), (.old rfl rfl rfl), (.old rfl rfl rfl), (.old rfl rfl rfl), (.old rfl rfl rfl), (.old rfl rfl rfl), (.old rfl rfl rfl), (.old rfl rfl rfl), (.new 1 rfl rfl (.one rfl)), (.new 2 rfl rfl (.one rfl)), trivial⟩)) (.nil (thn_normal (.block ?_))))))))))
    obtain ⟨xr68, hr68, h⟩ := bind_some h
    refine AWP.rangeB [(5, none), (8, none), (9, none), (10, none), (11, none), (12, none), (13, none)] rfl rfl rfl (fun as68 bo68 hA68 hB68 => ⟨[.one (.cells 4 [[int Facts, row 1 intI Init, row 1 intI Goal, row 4 eTOperator Operators]]), .one (.cells 1 [[.fn 17 []]]), .one (.cells 1 [[.imm (.val (.slice none 0 0))]]), .one (.cells 1 [[bool false]]), .one (.cells 1 [[bool false]]), .one (vec 3 eTbelief_entry_int c59), .one (.cells 1 [[.own 5 0 c59.length]]), .one (mapB Value.string (Value.int .i64) c60), .one (.cells 1 [[.map 7]]), .one (.cells 1 [[int c61]]), .one (.cells 4 [[int Facts, row 1 intI Init, row 1 intI Goal, row 4 eTOperator Operators]]), .one (.cells 1 [[row 1 eLi64 a66.node]]), .one (loopB 92 [70, 71] as68 bo68 .ready none [(5, none), (8, none), (9, none), (10, none), (11, none), (12, none), (13, none)] [.ptr 1 0 0, .ptr 2 0 0, .ptr 3 0 0, .ptr 4 0 0, .ptr 6 0 0, .ptr 8 0 0, .ptr 9 0 0])], fun tt ss => (∃ v : (List (ByteArray × Int)) × (List Tbelief_entry_int), xr68 = .inl v ∧ tt = .tup [] ∧ ss = [.one (.cells 4 [[int Facts, row 1 intI Init, row 1 intI Goal, row 4 eTOperator Operators]]), .one (.cells 1 [[.fn 17 []]]), .one (.cells 1 [[.imm (.val (.slice none 0 0))]]), .one (.cells 1 [[bool false]]), .one (.cells 1 [[bool false]]), .dead, .one (.cells 1 [[.own 13 0 v.2.length]]), .one (mapB Value.string (Value.int .i64) v.1), .one (.cells 1 [[.map 7]]), .one (.cells 1 [[int c61]]), .one (.cells 4 [[int Facts, row 1 intI Init, row 1 intI Goal, row 4 eTOperator Operators]]), .one (.cells 1 [[row 1 eLi64 a66.node]]), .one (loopB 92 [70, 71] as68 bo68 .ready none [(5, none), (8, none), (9, none), (10, none), (11, none), (12, none), (13, none)] [.ptr 1 0 0, .ptr 2 0 0, .ptr 3 0 0, .ptr 4 0 0, .ptr 6 0 0, .ptr 8 0 0, .ptr 9 0 0]), .one (vec 3 eTbelief_entry_int v.2)]) ∨ (∃ v : (List (ByteArray × Int)) × (List Tbelief_entry_int), xr68 = .inr v ∧ tt = .tup [] ∧ ss = [.one (.cells 4 [[int Facts, row 1 intI Init, row 1 intI Goal, row 4 eTOperator Operators]]), .one (.cells 1 [[.fn 17 []]]), .one (.cells 1 [[.imm (.val (.slice none 0 0))]]), .one (.cells 1 [[bool false]]), .one (.cells 1 [[bool false]]), .dead, .one (.cells 1 [[.own 13 0 v.2.length]]), .one (mapB Value.string (Value.int .i64) v.1), .one (.cells 1 [[.map 7]]), .one (.cells 1 [[int c61]]), .one (.cells 4 [[int Facts, row 1 intI Init, row 1 intI Goal, row 4 eTOperator Operators]]), .one (.cells 1 [[row 1 eLi64 a66.node]]), .one (loopB 92 [70, 71] as68 bo68 .done (some .ret) [(5, none), (8, none), (9, none), (10, none), (11, none), (12, none), (13, none)] [.ptr 1 0 0, .ptr 2 0 0, .ptr 3 0 0, .ptr 4 0 0, .ptr 6 0 0, .ptr 8 0 0, .ptr 9 0 0]), .one (vec 3 eTbelief_entry_int v.2)]), rfl, ?_, ?_⟩)
    ·clear h
     refine FnOk.enter (rs := []) Tryd.func39 rfl Tryd.ntmps39 Tryd.results39 rfl trivial (by kernel_rfl) rfl ?_
     refine AWP.weak ?_
     unfold belief_Breadth_int_w_r4 at hr68
     try dsimp only at hr68
     refine AWP.move (env' := [(0, .c (.yld 12)), (1, .c (.ptr 10 0 0)), (2, .c (.ptr 11 0 0))]) (σ' := [.one (.cells 4 [[int Facts, row 1 intI Init, row 1 intI Goal, row 4 eTOperator Operators]]), .one (.cells 1 [[.fn 17 []]]), .one (.cells 1 [[.imm (.val (.slice none 0 0))]]), .one (.cells 1 [[bool false]]), .one (.cells 1 [[bool false]]), .dead, .one (.cells 1 [[.own 13 0 c59.length]]), .one (mapB Value.string (Value.int .i64) c60), .one (.cells 1 [[.map 7]]), .one (.cells 1 [[int c61]]), .one (.cells 4 [[int Facts, row 1 intI Init, row 1 intI Goal, row 4 eTOperator Operators]]), .one (.cells 1 [[row 1 eLi64 a66.node]]), .one (loopB 92 [70, 71] as68 bo68 .ready none [(5, none), (8, none), (9, none), (10, none), (11, none), (12, none), (13, none)] [.ptr 1 0 0, .ptr 2 0 0, .ptr 3 0 0, .ptr 4 0 0, .ptr 6 0 0, .ptr 8 0 0, .ptr 9 0 0]), .one (vec 3 eTbelief_entry_int c59)]) 13 5 rfl rfl rfl ⟨rfl, rfl, rfl, trivial⟩ rfl ⟨⟨rfl, rfl⟩, ⟨rfl, rfl⟩, ⟨rfl, rfl⟩, ⟨rfl, rfl⟩, ⟨rfl, rfl⟩, trivial, ⟨rfl, rfl⟩, ⟨rfl, rfl⟩, ⟨rfl, rfl⟩, ⟨rfl, rfl⟩, ⟨rfl, rfl⟩, ⟨rfl, rfl⟩, ⟨rfl, rfl⟩, ⟨Blk.im_ok _ _ _, vec_mv rfl⟩, trivial⟩ (.seq (.region (W.fieldAddr rfl rfl rfl rfl (.load rfl rfl rfl rfl rfl rfl (S.len rfl rfl (fun hl8 => .move rfl rfl (.nil (thn_normal (.block ?_)))))))))
     obtain ⟨oo, ho3, hr68⟩ := bind_some hr68
     refine AWP.rngS ho3 (fun t75 (c73, c74) => ⟨[(0, .c (.yld 12)), (1, .c (.ptr 10 0 0)), (2, .c (.ptr 11 0 0)), (7, .c (row 4 eTOperator Operators)), (8, .c (int (Operators.length : Int))), (9, .c (int t75))], [.one (.cells 4 [[int Facts, row 1 intI Init, row 1 intI Goal, row 4 eTOperator Operators]]), .one (.cells 1 [[.fn 17 []]]), .one (.cells 1 [[.imm (.val (.slice none 0 0))]]), .one (.cells 1 [[bool false]]), .one (.cells 1 [[bool false]]), .dead, .one (.cells 1 [[.own 13 0 c74.length]]), .one (mapB Value.string (Value.int .i64) c73), .one (.cells 1 [[.map 7]]), .one (.cells 1 [[int c61]]), .one (.cells 4 [[int Facts, row 1 intI Init, row 1 intI Goal, row 4 eTOperator Operators]]), .one (.cells 1 [[row 1 eLi64 a66.node]]), .one (loopB 92 [70, 71] as68 bo68 .ready none [(5, none), (8, none), (9, none), (10, none), (11, none), (12, none), (13, none)] [.ptr 1 0 0, .ptr 2 0 0, .ptr 3 0 0, .ptr 4 0 0, .ptr 6 0 0, .ptr 8 0 0, .ptr 9 0 0]), .one (vec 3 eTbelief_entry_int c74)]⟩) (fun o e st => match o with | .inl (c73, c74) => e = .exit 0 ∧ Sub ([.one (.cells 4 [[int Facts, row 1 intI Init, row 1 intI Goal, row 4 eTOperator Operators]]), .one (.cells 1 [[.fn 17 []]]), .one (.cells 1 [[.imm (.val (.slice none 0 0))]]), .one (.cells 1 [[bool false]]), .one (.cells 1 [[bool false]]), .one (vec 3 eTbelief_entry_int c59), .one (.cells 1 [[.own 5 0 c59.length]]), .one (mapB Value.string (Value.int .i64) c60), .one (.cells 1 [[.map 7]]), .one (.cells 1 [[int c61]]), .one (.cells 4 [[int Facts, row 1 intI Init, row 1 intI Goal, row 4 eTOperator Operators]]), .one (.cells 1 [[row 1 eLi64 a66.node]]), .one (loopB 92 [70, 71] as68 bo68 .ready none [(5, none), (8, none), (9, none), (10, none), (11, none), (12, none), (13, none)] [.ptr 1 0 0, .ptr 2 0 0, .ptr 3 0 0, .ptr 4 0 0, .ptr 6 0 0, .ptr 8 0 0, .ptr 9 0 0])] : Store) st ⟨[], [.one (.cells 4 [[int Facts, row 1 intI Init, row 1 intI Goal, row 4 eTOperator Operators]]), .one (.cells 1 [[.fn 17 []]]), .one (.cells 1 [[.imm (.val (.slice none 0 0))]]), .one (.cells 1 [[bool false]]), .one (.cells 1 [[bool false]]), .dead, .one (.cells 1 [[.own 13 0 c74.length]]), .one (mapB Value.string (Value.int .i64) c73), .one (.cells 1 [[.map 7]]), .one (.cells 1 [[int c61]]), .one (.cells 4 [[int Facts, row 1 intI Init, row 1 intI Goal, row 4 eTOperator Operators]]), .one (.cells 1 [[row 1 eLi64 a66.node]]), .one (loopB 92 [70, 71] as68 bo68 .ready none [(5, none), (8, none), (9, none), (10, none), (11, none), (12, none), (13, none)] [.ptr 1 0 0, .ptr 2 0 0, .ptr 3 0 0, .ptr 4 0 0, .ptr 6 0 0, .ptr 8 0 0, .ptr 9 0 0]), .one (vec 3 eTbelief_entry_int c74)]⟩ | .inr x => e = .ret ∧ ∃ J, Sub ([.one (.cells 4 [[int Facts, row 1 intI Init, row 1 intI Goal, row 4 eTOperator Operators]]), .one (.cells 1 [[.fn 17 []]]), .one (.cells 1 [[.imm (.val (.slice none 0 0))]]), .one (.cells 1 [[bool false]]), .one (.cells 1 [[bool false]]), .one (vec 3 eTbelief_entry_int c59), .one (.cells 1 [[.own 5 0 c59.length]]), .one (mapB Value.string (Value.int .i64) c60), .one (.cells 1 [[.map 7]]), .one (.cells 1 [[int c61]]), .one (.cells 4 [[int Facts, row 1 intI Init, row 1 intI Goal, row 4 eTOperator Operators]]), .one (.cells 1 [[row 1 eLi64 a66.node]]), .one (loopB 92 [70, 71] as68 bo68 .ready none [(5, none), (8, none), (9, none), (10, none), (11, none), (12, none), (13, none)] [.ptr 1 0 0, .ptr 2 0 0, .ptr 3 0 0, .ptr 4 0 0, .ptr 6 0 0, .ptr 8 0 0, .ptr 9 0 0])] : Store) st J ∧ Done [] (fun tt ss => (∃ v : (List (ByteArray × Int)) × (List Tbelief_entry_int), x = .inl v ∧ tt = .tup [] ∧ ss = [.one (.cells 4 [[int Facts, row 1 intI Init, row 1 intI Goal, row 4 eTOperator Operators]]), .one (.cells 1 [[.fn 17 []]]), .one (.cells 1 [[.imm (.val (.slice none 0 0))]]), .one (.cells 1 [[bool false]]), .one (.cells 1 [[bool false]]), .dead, .one (.cells 1 [[.own 13 0 v.2.length]]), .one (mapB Value.string (Value.int .i64) v.1), .one (.cells 1 [[.map 7]]), .one (.cells 1 [[int c61]]), .one (.cells 4 [[int Facts, row 1 intI Init, row 1 intI Goal, row 4 eTOperator Operators]]), .one (.cells 1 [[row 1 eLi64 a66.node]]), .one (loopB 92 [70, 71] as68 bo68 .ready none [(5, none), (8, none), (9, none), (10, none), (11, none), (12, none), (13, none)] [.ptr 1 0 0, .ptr 2 0 0, .ptr 3 0 0, .ptr 4 0 0, .ptr 6 0 0, .ptr 8 0 0, .ptr 9 0 0]), .one (vec 3 eTbelief_entry_int v.2)]) ∨ (∃ v : (List (ByteArray × Int)) × (List Tbelief_entry_int), x = .inr v ∧ tt = .tup [] ∧ ss = [.one (.cells 4 [[int Facts, row 1 intI Init, row 1 intI Goal, row 4 eTOperator Operators]]), .one (.cells 1 [[.fn 17 []]]), .one (.cells 1 [[.imm (.val (.slice none 0 0))]]), .one (.cells 1 [[bool false]]), .one (.cells 1 [[bool false]]), .dead, .one (.cells 1 [[.own 13 0 v.2.length]]), .one (mapB Value.string (Value.int .i64) v.1), .one (.cells 1 [[.map 7]]), .one (.cells 1 [[int c61]]), .one (.cells 4 [[int Facts, row 1 intI Init, row 1 intI Goal, row 4 eTOperator Operators]]), .one (.cells 1 [[row 1 eLi64 a66.node]]), .one (loopB 92 [70, 71] as68 bo68 .done (some .ret) [(5, none), (8, none), (9, none), (10, none), (11, none), (12, none), (13, none)] [.ptr 1 0 0, .ptr 2 0 0, .ptr 3 0 0, .ptr 4 0 0, .ptr 6 0 0, .ptr 8 0 0, .ptr 9 0 0]), .one (vec 3 eTbelief_entry_int v.2)])) .ret J) ?_ ?_ ?_ ?_
     ·try dsimp only
      exact Sub.env ⟨rfl, rfl, rfl, rfl, rfl, rfl, trivial⟩
     ·intro t75 s hlot75 hltt75 _
      obtain ⟨c73, c74⟩ := s
      try dsimp only
      refine AWP.seq (.region (.lss rfl rfl rfl (.nil (thn_normal (.seq (.condNP rfl hltt75 (.exit (thn_exit (thn_exit ⟨rfl, ?_⟩)))))))))
      exact Sub.env trivial
     ·intro t75 s o hlot75 hltt75 h
      obtain ⟨c73, c74⟩ := s
      unfold belief_Breadth_int_w_l3 at h
      try dsimp only at h ⊢
      refine AWP.seq (.region (.lss rfl rfl rfl (.nil (thn_normal (.seq (.condP rfl hltt75 (.skip (thn_normal (.seq (.block (.seq ?_)))))))))))
      obtain ⟨ai12, hai12, h⟩ := bind_some h
      refine AWP.region (.move rfl rfl (S.idx hai12 rfl rfl rfl rfl (W.loadIAgg rfl rfl rfl rfl rfl (W.alloc rfl rfl rfl rfl (.assign rfl rfl (W.storeAgg rfl rfl rfl rfl rfl rfl rfl (.nil (thn_normal (.seq ?_)))))))))
      obtain ⟨ai17, hai17, h⟩ := bind_some h
      rcases Bool.eq_false_or_eq_true (ai17) with hb76 | hb76
      ·replace h := iteBT hb76 h
       obtain ⟨ai24, hai24, h⟩ := bind_some h
       refine AWP.region (.load rfl rfl rfl rfl rfl rfl (W.fieldAddr rfl rfl rfl rfl (.load rfl rfl rfl rfl rfl rfl (.callR rfl rfl rfl rfl (belief_Sure_ok hai17) rfl (.move rfl rfl (.guardT rfl rfl rfl hb76 (.move rfl rfl (.guardT rfl rfl rfl hb76 (.move rfl rfl (.guardT rfl rfl rfl hb76 (W.loadAgg rfl rfl rfl rfl rfl rfl rfl (.guardT rfl rfl rfl hb76 (.load rfl rfl rfl rfl rfl rfl (.guardT rfl rfl rfl hb76 (.move rfl rfl (.guardT rfl rfl rfl hb76 (S.fresh rfl rfl rfl rfl (belief_After_ok hai24) rfl rfl (.frzV (id := 15) (l := ai24) (env2 := [(0, .c (.yld 12)), (1, .c (.ptr 10 0 0)), (2, .c (.ptr 11 0 0)), (7, .c (row 4 eTOperator Operators)), (8, .c (int (Operators.length : Int))), (9, .c (int t75)), (18, .c (bool ai17)), (19, .c (.yld 12)), (20, .c (int t75)), (24, .c (row 1 eLi64 ai24))]) (σ2 := [.one (.cells 4 [[int Facts, row 1 intI Init, row 1 intI Goal, row 4 eTOperator Operators]]), .one (.cells 1 [[.fn 17 []]]), .one (.cells 1 [[.imm (.val (.slice none 0 0))]]), .one (.cells 1 [[bool false]]), .one (.cells 1 [[bool false]]), .dead, .one (.cells 1 [[.own 13 0 c74.length]]), .one (mapB Value.string (Value.int .i64) c73), .one (.cells 1 [[.map 7]]), .one (.cells 1 [[int c61]]), .one (.cells 4 [[int Facts, row 1 intI Init, row 1 intI Goal, row 4 eTOperator Operators]]), .one (.cells 1 [[row 1 eLi64 a66.node]]), .one (loopB 92 [70, 71] as68 bo68 .ready none [(5, none), (8, none), (9, none), (10, none), (11, none), (12, none), (13, none)] [.ptr 1 0 0, .ptr 2 0 0, .ptr 3 0 0, .ptr 4 0 0, .ptr 6 0 0, .ptr 8 0 0, .ptr 9 0 0]), .one (vec 3 eTbelief_entry_int c74), .one (.cells 4 [[row 1 intI ai12.pre, row 1 intI ai12.add, row 1 intI ai12.del, int ai12.cost]]), .dead]) rfl rfl (by exact ⟨⟨_, rfl, .inl ⟨rfl, rfl⟩⟩, ⟨_, rfl, .inl ⟨rfl, rfl⟩⟩, ⟨_, rfl, .inl ⟨rfl, rfl⟩⟩, ⟨_, rfl, .inl ⟨rfl, rfl⟩⟩, ⟨_, rfl, .inl ⟨rfl, rfl⟩⟩, ⟨_, rfl, .inl ⟨rfl, rfl⟩⟩, ⟨_, rfl, .inl ⟨rfl, rfl⟩⟩, ⟨_, rfl, .inl ⟨rfl, rfl⟩⟩, ⟨_, rfl, .inl ⟨rfl, rfl⟩⟩, ⟨_, rfl, .inr ⟨_, rfl, rfl, rfl⟩⟩, trivial⟩) rfl (by exact ⟨⟨rfl, .inl ⟨rfl, rfl⟩, .inl ⟨rfl, rfl⟩, .inl ⟨rfl, rfl⟩, .inl ⟨rfl, rfl⟩, trivial⟩, ⟨rfl, .inl ⟨rfl, rfl⟩, trivial⟩, ⟨rfl, .inl ⟨rfl, rfl⟩, trivial⟩, ⟨rfl, .inl ⟨rfl, rfl⟩, trivial⟩, ⟨rfl, .inl ⟨rfl, rfl⟩, trivial⟩, trivial, ⟨rfl, .inl ⟨rfl, rfl⟩, trivial⟩, ⟨rfl, rfl⟩, ⟨rfl, .inl ⟨rfl, rfl⟩, trivial⟩, ⟨rfl, .inl ⟨rfl, rfl⟩, trivial⟩, ⟨rfl, .inl ⟨rfl, rfl⟩, .inl ⟨rfl, rfl⟩, .inl ⟨rfl, rfl⟩, .inl ⟨rfl, rfl⟩, trivial⟩, ⟨rfl, .inl ⟨rfl, rfl⟩, trivial⟩, ⟨rfl, rfl⟩, FrzB.vec, ⟨rfl, .inl ⟨rfl, rfl⟩, .inl ⟨rfl, rfl⟩, .inl ⟨rfl, rfl⟩, .inl ⟨rfl, rfl⟩, trivial⟩, trivial, trivial⟩) ?_))))))))))))))))))
       refine AOps.guardT rfl rfl rfl hb76 ?_; refine AOps.yieldB (E1 := [(17, .c (row 1 eLi64 ai24)), (16, .c (int t75)), (71, .c (row 1 eLi64 ai24)), (70, .c (int t75)), (5, .c (.ptr 1 0 0)), (8, .c (.ptr 2 0 0)), (9, .c (.ptr 3 0 0)), (10, .c (.ptr 4 0 0)), (11, .c (.ptr 6 0 0)), (12, .c (.ptr 8 0 0)), (13, .c (.ptr 9 0 0))]) hA68 hB68 rfl rfl rfl rfl rfl rfl rfl rfl rfl ?_ ?_
       ·refine AWP.seq (.region (.assign rfl rfl (.nil (thn_normal (.region (.assign rfl rfl (.nil ?_)))))))
        exact ⟨rfl, rfl⟩
       refine AWP.sub (s' := ⟨[(5, .c (.ptr 1 0 0)), (8, .c (.ptr 2 0 0)), (9, .c (.ptr 3 0 0)), (10, .c (.ptr 4 0 0)), (11, .c (.ptr 6 0 0)), (12, .c (.ptr 8 0 0)), (13, .c (.ptr 9 0 0)), (16, .c (int t75)), (17, .c (row 1 eLi64 ai24))], [.one (.cells 4 [[int Facts, row 1 intI Init, row 1 intI Goal, row 4 eTOperator Operators]]), .one (.cells 1 [[.fn 17 []]]), .one (.cells 1 [[.imm (.val (.slice none 0 0))]]), .one (.cells 1 [[bool false]]), .one (.cells 1 [[bool false]]), .dead, .one (.cells 1 [[.own 13 0 c74.length]]), .one (mapB Value.string (Value.int .i64) c73), .one (.cells 1 [[.map 7]]), .one (.cells 1 [[int c61]]), .one (.cells 4 [[int Facts, row 1 intI Init, row 1 intI Goal, row 4 eTOperator Operators]]), .one (.cells 1 [[row 1 eLi64 a66.node]]), .one (loopB 92 [70, 71] as68 bo68 .busy none [(5, none), (8, none), (9, none), (10, none), (11, none), (12, none), (13, none)] [.ptr 1 0 0, .ptr 2 0 0, .ptr 3 0 0, .ptr 4 0 0, .ptr 6 0 0, .ptr 8 0 0, .ptr 9 0 0]), .one (vec 3 eTbelief_entry_int c74), .one (.cells 4 [[row 1 intI ai12.pre, row 1 intI ai12.add, row 1 intI ai12.del, int ai12.cost]]), .dead]⟩) (Sub.env ⟨rfl, rfl, rfl, rfl, rfl, rfl, rfl, rfl, rfl, trivial⟩) (.block (.seq ?_))
       obtain ⟨ab74, hab74, h⟩ := bind_some h
       refine AWP.region (.load rfl rfl rfl rfl rfl rfl (.move rfl rfl (.callR rfl rfl rfl rfl (belief_Key_ok hab74) rfl (.assign rfl rfl (.nil (thn_normal (.seq (.seq (.region (.load rfl rfl rfl rfl rfl rfl (.move rfl rfl (W.lookup (fk := Value.string) (fv := (Value.int .i64)) (k := ab74) (z := 0) keyStr rfl (fun _ => rfl) rfl rfl rfl rfl ?_))))))))))))
       refine AOps.gtr rfl rfl rfl (.nil (thn_normal (.ite rfl h (fun hc77 h => ?_) (fun hc77 h => ?_))))
       ·refine AWP.exit (thn_exit (inB_exit (yPost_normal rfl rfl (.guardT rfl rfl rfl hb76 (.not rfl rfl (.pickT rfl hb76 rfl rfl (.nil (thn_normal (.condF rfl (.skip (inB_normal (thn_normal (.region (.add rfl rfl rfl (by omega) (.move rfl rfl (.nil ?_))))))))))))))))
        have ej := Option.some.inj h
        subst ej
        refine thn_normal ⟨_, rfl, ?_⟩
        exact Sub.cut ⟨rfl, rfl, rfl, rfl, rfl, rfl, trivial⟩ rfl ⟨.one rfl, .one rfl, .one rfl, .one rfl, .one rfl, .dead, .one rfl, .one rfl, .one rfl, .one rfl, .one rfl, .one rfl, .one rfl, .vec, trivial⟩ rfl
       ·refine AWP.skip (thn_normal (.seq (.seq (.region (.load rfl rfl rfl rfl rfl rfl (S.lenO rfl rfl rfl (fun hl80 => .eql rfl rfl rfl (.nil (thn_normal (.ite rfl h (fun hc78 h => ?_) (fun hc78 h => ?_)))))))))))
        ·refine AWP.seq (.region (W.store rfl rfl rfl rfl rfl (W.store rfl rfl rfl rfl rfl (W.store rfl rfl rfl rfl rfl (.nil (thn_normal (.ret (thn_ret (inB_ret (yPost_ret rfl rfl (.guardT rfl rfl rfl hb76 (.not rfl rfl (.pickT rfl hb76 rfl rfl (.nil (thn_normal (.condT rfl (.ret (inB_ret (thn_ret ?_)))))))))))))))))))
         have ej := Option.some.inj h
         subst ej
         refine thn_ret ⟨_, rfl, rfl, ?_⟩
         exact ⟨⟨[], [.one (.cells 4 [[int Facts, row 1 intI Init, row 1 intI Goal, row 4 eTOperator Operators]]), .one (.cells 1 [[.fn 17 []]]), .one (.cells 1 [[.imm (.val (.slice none 0 0))]]), .one (.cells 1 [[bool false]]), .one (.cells 1 [[bool false]]), .dead, .one (.cells 1 [[.own 13 0 c74.length]]), .one (mapB Value.string (Value.int .i64) c73), .one (.cells 1 [[.map 7]]), .one (.cells 1 [[int c61]]), .one (.cells 4 [[int Facts, row 1 intI Init, row 1 intI Goal, row 4 eTOperator Operators]]), .one (.cells 1 [[row 1 eLi64 a66.node]]), .one (loopB 92 [70, 71] as68 bo68 .done (some .ret) [(5, none), (8, none), (9, none), (10, none), (11, none), (12, none), (13, none)] [.ptr 1 0 0, .ptr 2 0 0, .ptr 3 0 0, .ptr 4 0 0, .ptr 6 0 0, .ptr 8 0 0, .ptr 9 0 0]), .one (vec 3 eTbelief_entry_int c74)]⟩, Sub.cut trivial rfl ⟨.one rfl, .one rfl, .one rfl, .one rfl, .one rfl, .dead, .one rfl, .one rfl, .one rfl, .one rfl, .one rfl, .one rfl, .one rfl, .vec, trivial⟩ rfl, Done.ret rfl (.inr ⟨_, rfl, rfl, rfl⟩)⟩
        ·refine AWP.skip (thn_normal (.seq (.region (.load rfl rfl rfl rfl rfl rfl (.move rfl rfl (W.mapUpdate (fk := Value.string) (fv := (Value.int .i64)) (k := ab74) (a := 1) keyStr rfl rfl rfl rfl rfl (.nil (thn_normal ?_))))))))
         obtain ⟨ab90, hab90, h⟩ := bind_some h
         refine AWP.region (.load rfl rfl rfl rfl rfl rfl (.move rfl rfl (.load rfl rfl rfl rfl rfl rfl (.move rfl rfl (W.build rfl rfl rfl rfl (S.lit (f := eTbelief_entry_int) (l := [(⟨ai24, c61, t75⟩ : Tbelief_entry_int)]) (ess := [[row 1 eLi64 ai24, int c61, int t75]]) rfl rfl rfl rfl rfl rfl rfl ⟨⟨.inl rfl, .inl rfl, .inl rfl, trivial⟩, trivial⟩ rfl rfl rfl (S.append (f := eTbelief_entry_int) hab90 rfl rfl rfl rfl rfl rfl (.own rfl rfl) rfl rfl rfl rfl (W.store rfl rfl rfl rfl rfl (.nil (inB_normal (yPost_normal rfl rfl (.guardT rfl rfl rfl hb76 (.not rfl rfl (.pickT rfl hb76 rfl rfl (.nil (thn_normal (.move (env' := [(0, .c (.yld 12)), (1, .c (.ptr 10 0 0)), (2, .c (.ptr 11 0 0)), (7, .c (row 4 eTOperator Operators)), (8, .c (int (Operators.length : Int))), (9, .c (int t75)), (27, .c (bool false))]) (σ' := [.one (.cells 4 [[int Facts, row 1 intI Init, row 1 intI Goal, row 4 eTOperator Operators]]), .one (.cells 1 [[.fn 17 []]]), .one (.cells 1 [[.imm (.val (.slice none 0 0))]]), .one (.cells 1 [[bool false]]), .one (.cells 1 [[bool false]]), .dead, .one (.cells 1 [[.own 13 0 ab90.length]]), .one (mapB Value.string (Value.int .i64) (mset c73 ab74 1)), .one (.cells 1 [[.map 7]]), .one (.cells 1 [[int c61]]), .one (.cells 4 [[int Facts, row 1 intI Init, row 1 intI Goal, row 4 eTOperator Operators]]), .one (.cells 1 [[row 1 eLi64 a66.node]]), .one (loopB 92 [70, 71] as68 bo68 .ready none [(5, none), (8, none), (9, none), (10, none), (11, none), (12, none), (13, none)] [.ptr 1 0 0, .ptr 2 0 0, .ptr 3 0 0, .ptr 4 0 0, .ptr 6 0 0, .ptr 8 0 0, .ptr 9 0 0]), .one (vec 3 eTbelief_entry_int ab90), .one (.cells 4 [[row 1 intI ai12.pre, row 1 intI ai12.add, row 1 intI ai12.del, int ai12.cost]]), .dead, .one (vec 3 eTbelief_entry_int [(⟨ai24, c61, t75⟩ : Tbelief_entry_int)])]) 13 17 rfl rfl rfl ⟨rfl, rfl, rfl, rfl, rfl, rfl, rfl, trivial⟩ rfl ⟨⟨rfl, rfl⟩, ⟨rfl, rfl⟩, ⟨rfl, rfl⟩, ⟨rfl, rfl⟩, ⟨rfl, rfl⟩, trivial, ⟨rfl, rfl⟩, ⟨rfl, rfl⟩, ⟨rfl, rfl⟩, ⟨rfl, rfl⟩, ⟨rfl, rfl⟩, ⟨rfl, rfl⟩, ⟨rfl, rfl⟩, ⟨Blk.im_ok _ _ _, vec_mv rfl⟩, ⟨rfl, rfl⟩, trivial, ⟨Blk.im_ok _ _ _, vec_mv rfl⟩, trivial⟩ (.condF rfl (.skip (inB_normal (thn_normal (.region (.add rfl rfl rfl (by omega) (.move rfl rfl (.nil ?_)))))))))))))))))))))))))
         have ej := Option.some.inj h
         subst ej
         refine thn_normal ⟨_, rfl, ?_⟩
         exact Sub.cut ⟨rfl, rfl, rfl, rfl, rfl, rfl, trivial⟩ rfl ⟨.one rfl, .one rfl, .one rfl, .one rfl, .one rfl, .dead, .one rfl, .one rfl, .one rfl, .one rfl, .one rfl, .one rfl, .one rfl, .vec, trivial⟩ rfl
      ·replace h := iteBF hb76 h
       refine AWP.region (.load rfl rfl rfl rfl rfl rfl (W.fieldAddr rfl rfl rfl rfl (.load rfl rfl rfl rfl rfl rfl (.callR rfl rfl rfl rfl (belief_Sure_ok hai17) rfl (.move rfl rfl (.guardF rfl rfl rfl hb76 (.guardF rfl rfl rfl hb76 (.guardF rfl rfl rfl hb76 (.guardF rfl rfl rfl hb76 (.guardF rfl rfl rfl hb76 (.guardF rfl rfl rfl hb76 (.guardF rfl rfl rfl hb76 (.guardF rfl rfl rfl hb76 (.pickF rfl hb76 rfl rfl (.nil (thn_normal (.condF rfl (.skip (inB_normal (thn_normal (.region (.add rfl rfl rfl (by omega) (.move rfl rfl (.nil ?_))))))))))))))))))))))))
       have ej := Option.some.inj h
       subst ej
       refine thn_normal ⟨_, rfl, ?_⟩
       exact Sub.cut ⟨rfl, rfl, rfl, rfl, rfl, rfl, trivial⟩ rfl ⟨.one rfl, .one rfl, .one rfl, .one rfl, .one rfl, .dead, .one rfl, .one rfl, .one rfl, .one rfl, .one rfl, .one rfl, .one rfl, .vec, trivial⟩ rfl
     ·intro e s hq
      rcases oo with ⟨c73, c74⟩ | x
      ·try dsimp only at hr68 hq
       obtain ⟨rfl, hs⟩ := hq
       refine ⟨_, hs, ?_⟩
       refine inB_exit ?_
       have ej := Option.some.inj hr68
       subst ej
       exact ⟨⟨[], [.one (.cells 4 [[int Facts, row 1 intI Init, row 1 intI Goal, row 4 eTOperator Operators]]), .one (.cells 1 [[.fn 17 []]]), .one (.cells 1 [[.imm (.val (.slice none 0 0))]]), .one (.cells 1 [[bool false]]), .one (.cells 1 [[bool false]]), .dead, .one (.cells 1 [[.own 13 0 c74.length]]), .one (mapB Value.string (Value.int .i64) c73), .one (.cells 1 [[.map 7]]), .one (.cells 1 [[int c61]]), .one (.cells 4 [[int Facts, row 1 intI Init, row 1 intI Goal, row 4 eTOperator Operators]]), .one (.cells 1 [[row 1 eLi64 a66.node]]), .one (loopB 92 [70, 71] as68 bo68 .ready none [(5, none), (8, none), (9, none), (10, none), (11, none), (12, none), (13, none)] [.ptr 1 0 0, .ptr 2 0 0, .ptr 3 0 0, .ptr 4 0 0, .ptr 6 0 0, .ptr 8 0 0, .ptr 9 0 0]), .one (vec 3 eTbelief_entry_int c74)]⟩, Sub.env trivial, Done.normal rfl (.inl ⟨_, rfl, rfl, rfl⟩)⟩
      ·try dsimp only at hr68 hq
       obtain ⟨rfl, hs⟩ := hq
       refine ⟨_, Sub.refl _ _, ?_⟩
       refine inB_ret ?_
       have ej := Option.some.inj hr68
       subst ej
       exact hs
    ·rintro tt ss (⟨⟨c69, c70⟩, rfl, rfl, rfl⟩ | ⟨⟨c71, c72⟩, rfl, rfl, rfl⟩)
     ·try dsimp only at h ⊢
      refine rPost_normal rfl rfl (inB_normal (inB_normal (thn_normal (.seq (.seq (.region (.load rfl rfl rfl rfl rfl rfl (.nil (thn_normal (.region (W.alloc rfl rfl rfl rfl (W.store rfl rfl rfl rfl rfl (.nil (thn_normal (.region (.load rfl rfl rfl rfl rfl rfl (S.add rfl rfl rfl (W.store rfl rfl rfl rfl rfl (.nil ?_)))))))))))))))))))
      have ej := Option.some.inj h
      subst ej
      refine thn_normal ⟨_, rfl, ?_⟩
      exact (Sub.move (env' := [(2, .c (.fn 29 [.ptr 0 0 0])), (3, .c (.fn 27 [])), (5, .c (.ptr 1 0 0)), (8, .c (.ptr 2 0 0)), (9, .c (.ptr 3 0 0)), (10, .c (.ptr 4 0 0)), (11, .c (.ptr 6 0 0)), (12, .c (.ptr 8 0 0)), (13, .c (.ptr 9 0 0))]) (σ' := [.one (.cells 4 [[int Facts, row 1 intI Init, row 1 intI Goal, row 4 eTOperator Operators]]), .one (.cells 1 [[.fn 17 []]]), .one (.cells 1 [[.imm (.val (.slice none 0 0))]]), .one (.cells 1 [[bool false]]), .one (.cells 1 [[bool false]]), .dead, .one (.cells 1 [[.own 13 0 c70.length]]), .one (mapB Value.string (Value.int .i64) c69), .one (.cells 1 [[.map 7]]), .one (.cells 1 [[int (w64 (c61 + 1))]]), .one (.cells 4 [[int Facts, row 1 intI Init, row 1 intI Goal, row 4 eTOperator Operators]]), .one (.cells 1 [[row 1 eLi64 a66.node]]), .dead, .one (vec 3 eTbelief_entry_int c70)]) 9 14 rfl rfl rfl ⟨rfl, rfl, rfl, rfl, rfl, rfl, rfl, rfl, rfl, trivial⟩ rfl ⟨⟨rfl, rfl⟩, ⟨rfl, rfl⟩, ⟨rfl, rfl⟩, ⟨rfl, rfl⟩, ⟨rfl, rfl⟩, trivial, ⟨rfl, rfl⟩, ⟨rfl, rfl⟩, ⟨rfl, rfl⟩, ⟨rfl, rfl⟩, ⟨rfl, rfl⟩, ⟨rfl, rfl⟩, trivial, ⟨Blk.im_ok _ _ _, vec_mv rfl⟩, trivial⟩).trans ((Sub.move (env' := [(2, .c (.fn 29 [.ptr 0 0 0])), (3, .c (.fn 27 [])), (5, .c (.ptr 1 0 0)), (8, .c (.ptr 2 0 0)), (9, .c (.ptr 3 0 0)), (10, .c (.ptr 4 0 0)), (11, .c (.ptr 6 0 0)), (12, .c (.ptr 8 0 0)), (13, .c (.ptr 9 0 0))]) (σ' := [.one (.cells 4 [[int Facts, row 1 intI Init, row 1 intI Goal, row 4 eTOperator Operators]]), .one (.cells 1 [[.fn 17 []]]), .one (.cells 1 [[.imm (.val (.slice none 0 0))]]), .one (.cells 1 [[bool false]]), .one (.cells 1 [[bool false]]), .one (vec 3 eTbelief_entry_int c70), .one (.cells 1 [[.own 5 0 c70.length]]), .one (mapB Value.string (Value.int .i64) c69), .one (.cells 1 [[.map 7]]), .one (.cells 1 [[int (w64 (c61 + 1))]]), .one (.cells 4 [[int Facts, row 1 intI Init, row 1 intI Goal, row 4 eTOperator Operators]]), .one (.cells 1 [[row 1 eLi64 a66.node]]), .dead]) 5 13 rfl rfl rfl ⟨rfl, rfl, rfl, rfl, rfl, rfl, rfl, rfl, rfl, trivial⟩ rfl ⟨⟨rfl, rfl⟩, ⟨rfl, rfl⟩, ⟨rfl, rfl⟩, ⟨rfl, rfl⟩, ⟨rfl, rfl⟩, ⟨Blk.im_ok _ _ _, vec_mv rfl⟩, ⟨rfl, rfl⟩, ⟨rfl, rfl⟩, ⟨rfl, rfl⟩, ⟨rfl, rfl⟩, ⟨rfl, rfl⟩, ⟨rfl, rfl⟩, trivial, trivial⟩).trans (Sub.cut ⟨rfl, rfl, rfl, rfl, rfl, rfl, rfl, rfl, rfl, trivial⟩ rfl ⟨.one rfl, .one rfl, .one rfl, .one rfl, .one rfl, .vec, .one rfl, .one rfl, .one rfl, .one rfl, trivial⟩ rfl))
     ·try dsimp only at h ⊢
      refine rPost_jump rfl rfl (.nilB (b := 2) [row 1 intI []] rfl (by exact ⟨.inr ⟨rfl, _, rfl⟩, trivial⟩) rfl rfl (.ret (inB_ret (inB_ret (thn_ret ?_)))))
      have ej := Option.some.inj h
      subst ej
      refine thn_ret ⟨_, rfl, rfl, ?_⟩
      exact ⟨⟨[(8, .c (.ptr 2 0 0)), (9, .c (.ptr 3 0 0)), (10, .c (.ptr 4 0 0))], [.one (.cells 4 [[int Facts, row 1 intI Init, row 1 intI Goal, row 4 eTOperator Operators]]), .dead, .one (.cells 1 [[row 1 intI []]]), .one (.cells 1 [[bool false]]), .one (.cells 1 [[bool false]])]⟩, Sub.cut ⟨rfl, rfl, rfl, trivial⟩ rfl ⟨.one rfl, .dead, .one rfl, .one rfl, .one rfl, trivial⟩ rfl, Done.ret rfl ⟨rfl, rfl⟩⟩
  ·refine AWP.exit (thn_exit ?_)
   have ej := Option.some.inj h
   subst ej
   refine thn_exit ⟨_, rfl, rfl, ?_⟩
   exact Sub.cut ⟨rfl, rfl, rfl, trivial⟩ rfl ⟨.one rfl, .dead, .one rfl, .one rfl, .one rfl, trivial⟩ rfl
 ·intro e s hq
  rcases oo with u | x
  ·try dsimp only at h hq
   obtain ⟨rfl, hs⟩ := hq
   refine ⟨_, hs, ?_⟩
   refine inB_exit (thn_normal (.seq (.region (W.store rfl rfl rfl rfl rfl (W.store rfl rfl rfl rfl rfl (W.store rfl rfl rfl rfl rfl (.nil (thn_normal (.nilB (b := 2) [row 1 intI []] rfl (by exact ⟨.inr ⟨rfl, _, rfl⟩, trivial⟩) rfl rfl (.ret ?_))))))))))
   have ej := Option.some.inj h
   subst ej
   exact ⟨⟨[(8, .c (.ptr 2 0 0)), (9, .c (.ptr 3 0 0)), (10, .c (.ptr 4 0 0))], [.one (.cells 4 [[int Facts, row 1 intI Init, row 1 intI Goal, row 4 eTOperator Operators]]), .dead, .one (.cells 1 [[row 1 intI []]]), .one (.cells 1 [[bool false]]), .one (.cells 1 [[bool true]])]⟩, Sub.env ⟨rfl, rfl, rfl, trivial⟩, Done.ret rfl ⟨rfl, rfl⟩⟩
  ·try dsimp only at h hq
   obtain ⟨rfl, hs⟩ := hq
   refine ⟨_, Sub.refl _ _, ?_⟩
   refine inB_ret (thn_ret ?_)
   have ej := Option.some.inj h
   subst ej
   exact hs
theorem belief_Small_int_w_ok {l : List (List Int)} {Facts : Int} {Init : List Int} {Goal : List Int} {Operators : List TOperator} {r : Bool} (h : belief_Small_int_w l Facts Init Goal Operators = some r) : FnOk Tryd.prog 16 [.c (.own 0 0 l.length), .c (.fn 17 []), .c (.fn 29 [.ptr 1 0 0])] (belief_Small_int_w_s0 l Facts Init Goal Operators) (fun tt ss => tt = .c (bool r) ∧ ss = [.dead, .one (.cells 4 [[int Facts, row 1 intI Init, row 1 intI Goal, row 4 eTOperator Operators]])]) := by
 refine FnOk.enter (rs := [.t 6]) Tryd.func16 rfl Tryd.ntmps16 Tryd.results16 rfl ⟨trivial, trivial⟩ (by kernel_rfl) rfl ?_
 refine AWP.weak ?_
 unfold belief_Small_int_w at h
 refine AWP.move (env' := [(0, .c (.own 2 0 l.length)), (1, .c (.fn 17 [])), (2, .c (.fn 29 [.ptr 1 0 0]))]) (σ' := [.dead, .one (.cells 4 [[int Facts, row 1 intI Init, row 1 intI Goal, row 4 eTOperator Operators]]), .one (vec 1 eLi64 l)]) 2 0 rfl rfl rfl ⟨rfl, rfl, rfl, trivial⟩ rfl ⟨trivial, ⟨rfl, rfl⟩, ⟨Blk.im_ok _ _ _, vec_mv rfl⟩, trivial⟩ (.seq (.region (.assign rfl rfl (.nil (thn_normal (.seq ?_))))))
 obtain ⟨a14, ha14, h⟩ := bind_some h
 refine AWP.region (.move rfl rfl (.move rfl rfl (.move rfl rfl (.frzV (id := 2) (l := l) (env2 := [(11, .c (row 1 eLi64 l)), (12, .c (.fn 17 [])), (13, .c (.fn 29 [.ptr 1 0 0]))]) (σ2 := [.dead, .one (.cells 4 [[int Facts, row 1 intI Init, row 1 intI Goal, row 4 eTOperator Operators]]), .dead]) rfl rfl (by exact ⟨⟨_, rfl, .inr ⟨_, rfl, rfl, rfl⟩⟩, ⟨_, rfl, .inl ⟨rfl, rfl⟩⟩, ⟨_, rfl, .inl ⟨rfl, rfl⟩⟩, trivial⟩) rfl (by exact ⟨trivial, ⟨rfl, .inl ⟨rfl, rfl⟩, .inl ⟨rfl, rfl⟩, .inl ⟨rfl, rfl⟩, .inl ⟨rfl, rfl⟩, trivial⟩, trivial, trivial⟩) (.callF (r2 := .tup [.c (row 1 intI a14.1), .c (bool a14.2.1), .c (bool a14.2.2)]) (σ'' := [.dead, .one (.cells 4 [[int Facts, row 1 intI Init, row 1 intI Goal, row 4 eTOperator Operators]]), .dead, .dead, .one (.cells 1 [[row 1 intI a14.1]]), .one (.cells 1 [[bool a14.2.1]]), .one (.cells 1 [[bool a14.2.2]])]) rfl rfl rfl (FnOk.lend [1] (belief_Breadth_int_w_ok ha14) rfl rfl rfl rfl rfl rfl (by exact ⟨(.one rfl), trivial⟩) rfl (by exact ⟨(.live rfl (.one rfl)), trivial⟩) rfl rfl (by exact ⟨.dead, (.new 0 rfl rfl (.one rfl)), .dead, .dead, (.new 2 rfl rfl (.one rfl)), (.new 3 rfl rfl (.one rfl)), (.new 4 rfl rfl (.one rfl)), trivial⟩)) (.move rfl rfl (.extract rfl rfl rfl (.extract rfl rfl rfl (.extract rfl rfl rfl (.assign rfl rfl (.assign rfl rfl (.assign rfl rfl (.nil (thn_normal (.seq (.region (.move rfl rfl (.assign rfl rfl (.nil (thn_normal (.ret ?_)))))))))))))))))))))
 have ej := Option.some.inj h
 subst ej
 exact ⟨⟨[(6, .c (bool a14.2.2))], [.dead, .one (.cells 4 [[int Facts, row 1 intI Init, row 1 intI Goal, row 4 eTOperator Operators]])]⟩, Sub.cut ⟨rfl, trivial⟩ rfl ⟨.dead, .one rfl, trivial⟩ rfl, Done.ret rfl ⟨rfl, rfl⟩⟩
theorem repair_searcher_add_w2_ok {nv : Trepair_node} {t : TTask} {plan : List Int} {l : List Trepair_node} {l5 : List (List Int)} {l6 : List (ByteArray × Int)} {r : (List (ByteArray × Int)) × (List Trepair_node) × (List (List Int))} (h : repair_searcher_add_w2 nv t plan l l5 l6 = some r) : FnOk Tryd.prog 19 [.c (.ptr 0 0 0), .agg [row 1 intI nv.fs, int nv.fat, int nv.ffrom, int nv.op, int nv.change]] (repair_searcher_add_w2_s0 nv t plan l l5 l6) (fun tt ss => tt = .tup [] ∧ ss = [.one (.cells 8 [[int t.facts, row 1 intI t.init, row 1 intI t.goal, row 4 eTOperator t.operators, row 1 intI plan, .own 4 0 r.2.1.length, .own 5 0 r.2.2.length, .map 3]]), .dead, .dead, .one (mapB Value.string (Value.int .i64) r.1), .one (vec 5 eTrepair_node r.2.1), mat (5, []) 1 intI r.2.2]) := by
 refine FnOk.enter (rs := []) Tryd.func19 rfl Tryd.ntmps19 Tryd.results19 rfl trivial (by kernel_rfl) rfl ?_
 refine AWP.weak ?_
 unfold repair_searcher_add_w2 at h
 refine AWP.move (env' := [(0, .c (.ptr 0 0 0)), (1, .agg [row 1 intI nv.fs, int nv.fat, int nv.ffrom, int nv.op, int nv.change])]) (σ' := [.one (.cells 8 [[int t.facts, row 1 intI t.init, row 1 intI t.goal, row 4 eTOperator t.operators, row 1 intI plan, .own 4 0 l.length, .own 2 0 l5.length, .map 3]]), .dead, mat (2, []) 1 intI l5, .one (mapB Value.string (Value.int .i64) l6), .one (vec 5 eTrepair_node l)]) 4 1 rfl rfl rfl ⟨rfl, rfl, trivial⟩ rfl ⟨⟨rfl, rfl⟩, trivial, .mat rfl rfl rfl, ⟨rfl, rfl⟩, ⟨Blk.im_ok _ _ _, vec_mv rfl⟩, trivial⟩ (.moveM (env' := [(0, .c (.ptr 0 0 0)), (1, .agg [row 1 intI nv.fs, int nv.fat, int nv.ffrom, int nv.op, int nv.change])]) (σ' := [.one (.cells 8 [[int t.facts, row 1 intI t.init, row 1 intI t.goal, row 4 eTOperator t.operators, row 1 intI plan, .own 4 0 l.length, .own 5 0 l5.length, .map 3]]), .dead, .dead, .one (mapB Value.string (Value.int .i64) l6), .one (vec 5 eTrepair_node l), mat (5, []) 1 intI l5]) 5 2 rfl rfl rfl ⟨rfl, rfl, trivial⟩ rfl ⟨(.one rfl rfl), .dead, .dead, (.one rfl rfl), (.vec rfl), (.mat rfl rfl rfl), trivial⟩ (.seq (.region (W.box rfl rfl rfl rfl rfl rfl (.nil (thn_normal (.seq ?_)))))))
 obtain ⟨a13, ha13, h⟩ := bind_some h
 refine AWP.region (W.fieldAddr rfl rfl rfl rfl (.load rfl rfl rfl rfl rfl rfl (W.fieldAddr rfl rfl rfl rfl (.load rfl rfl rfl rfl rfl rfl (S.lit (f := intI) (l := [nv.fat]) (ess := [[int nv.fat]]) rfl rfl rfl rfl rfl rfl rfl ⟨⟨.inl rfl, trivial⟩, trivial⟩ rfl rfl rfl (.frzV (id := 7) (l := [nv.fat]) (env2 := [(0, .c (.ptr 0 0 0)), (3, .c (.ptr 6 0 0)), (8, .c (row 1 intI nv.fs)), (11, .c (row 1 intI [nv.fat]))]) (σ2 := [.one (.cells 8 [[int t.facts, row 1 intI t.init, row 1 intI t.goal, row 4 eTOperator t.operators, row 1 intI plan, .own 4 0 l.length, .own 5 0 l5.length, .map 3]]), .dead, .dead, .one (mapB Value.string (Value.int .i64) l6), .one (vec 5 eTrepair_node l), mat (5, []) 1 intI l5, .one (.cells 5 [[row 1 intI nv.fs, int nv.fat, int nv.ffrom, int nv.op, int nv.change]]), .dead]) rfl rfl (by exact ⟨⟨_, rfl, .inl ⟨rfl, rfl⟩⟩, ⟨_, rfl, .inl ⟨rfl, rfl⟩⟩, ⟨_, rfl, .inl ⟨rfl, rfl⟩⟩, ⟨_, rfl, .inr ⟨_, rfl, rfl, rfl⟩⟩, trivial⟩) rfl (by exact ⟨⟨rfl, .inl ⟨rfl, rfl⟩, .inl ⟨rfl, rfl⟩, .inl ⟨rfl, rfl⟩, .inl ⟨rfl, rfl⟩, .inl ⟨rfl, rfl⟩, .inl ⟨rfl, rfl⟩, .inl ⟨rfl, rfl⟩, .inl ⟨rfl, rfl⟩, trivial⟩, trivial, trivial, ⟨rfl, rfl⟩, FrzB.vec, (FrzB.mat rfl), ⟨rfl, .inl ⟨rfl, rfl⟩, .inl ⟨rfl, rfl⟩, .inl ⟨rfl, rfl⟩, .inl ⟨rfl, rfl⟩, .inl ⟨rfl, rfl⟩, trivial⟩, trivial, trivial⟩) (S.lit (f := eLi64) (l := [nv.fs, [nv.fat]]) (ess := [[row 1 intI nv.fs], [row 1 intI [nv.fat]]]) rfl rfl rfl rfl rfl rfl rfl ⟨⟨.inl rfl, trivial⟩, ⟨.inl rfl, trivial⟩, trivial⟩ rfl rfl rfl (.callL rfl rfl (.cons (.c (.own rfl rfl)) .nil) rfl (belief_Key_ok ha13) rfl (.assign rfl rfl (.nil (thn_normal (.seq (.seq (.region (.move rfl rfl (.nilCheck rfl rfl rfl (W.fieldAddr rfl rfl rfl rfl (.load rfl rfl rfl rfl rfl rfl (.move rfl rfl (W.lookupOk (fk := Value.string) (fv := (Value.int .i64)) (k := a13) (z := 0) keyStr rfl (fun _ => rfl) rfl rfl rfl rfl ?_))))))))))))))))))))
 refine AOps.move rfl rfl (.extract rfl rfl rfl (.extract rfl rfl rfl (.assign rfl rfl (.assign rfl rfl (.nil (thn_normal (.seqJ (⟨[(0, .c (.ptr 0 0 0)), (3, .c (.ptr 6 0 0)), (4, .c (.imm (.val (.string a13)))), (29, .c (bool ((Option.isSome (mget l6 a13)) && (decide (Option.getD (mget l6 a13) 0 ≤ nv.change)))))], [.one (.cells 8 [[int t.facts, row 1 intI t.init, row 1 intI t.goal, row 4 eTOperator t.operators, row 1 intI plan, .own 4 0 l.length, .own 5 0 l5.length, .map 3]]), .dead, .dead, .one (mapB Value.string (Value.int .i64) l6), .one (vec 5 eTrepair_node l), mat (5, []) 1 intI l5, .one (.cells 5 [[row 1 intI nv.fs, int nv.fat, int nv.ffrom, int nv.op, int nv.change]]), .dead, .one (vec 1 eLi64 ([nv.fs, [nv.fat]]))]⟩) ?_ ?_)))))))
 ·rcases Bool.eq_false_or_eq_true (Option.isSome (mget l6 a13)) with hb1 | hb1
  ·refine AWP.region (.move rfl rfl (.move rfl rfl (.guardT rfl rfl rfl hb1 (.move rfl rfl (.guardT rfl rfl rfl hb1 (W.fieldAddr rfl rfl rfl rfl (.guardT rfl rfl rfl hb1 (.load rfl rfl rfl rfl rfl rfl (.guardT rfl rfl rfl hb1 (.leq rfl rfl rfl (.pickT rfl hb1 rfl rfl (.nil (thn_normal ?_)))))))))))))
   simp only [and_t hb1, or_t hb1, Bool.false_or, Bool.true_or, Bool.false_and, Bool.true_and]
   exact Sub.env ⟨rfl, rfl, rfl, rfl, trivial⟩
  ·refine AWP.region (.move rfl rfl (.move rfl rfl (.guardF rfl rfl rfl hb1 (.guardF rfl rfl rfl hb1 (.guardF rfl rfl rfl hb1 (.guardF rfl rfl rfl hb1 (.pickF rfl hb1 rfl rfl (.nil (thn_normal ?_)))))))))
   simp only [and_f hb1, or_f hb1, Bool.false_or, Bool.true_or, Bool.false_and, Bool.true_and]
   exact Sub.env ⟨rfl, rfl, rfl, rfl, trivial⟩
 ·refine AWP.iteB rfl h (fun hc60 h => ?_) (fun hc60 h => ?_)
  ·refine AWP.ret (thn_ret ?_)
   have ej := Option.some.inj h
   subst ej
   exact ⟨⟨[], [.one (.cells 8 [[int t.facts, row 1 intI t.init, row 1 intI t.goal, row 4 eTOperator t.operators, row 1 intI plan, .own 4 0 l.length, .own 5 0 l5.length, .map 3]]), .dead, .dead, .one (mapB Value.string (Value.int .i64) l6), .one (vec 5 eTrepair_node l), mat (5, []) 1 intI l5]⟩, Sub.cut trivial rfl ⟨.one rfl, .dead, .dead, .one rfl, .vec, .mat rfl, trivial⟩ rfl, Done.ret rfl ⟨rfl, rfl⟩⟩
  ·refine AWP.skip (thn_normal (.seq (.drawEI [7] mixed rfl rfl rfl ?_)))
   apply DrawSeqE.consN; exact rfl; exact rfl; intro E
   refine AOps.move rfl rfl (.nil ⟨rfl, rfl⟩)
   exact rfl
   apply DrawSeqE.consN; exact rfl; exact rfl; intro E
   refine AOps.nilCheck rfl rfl rfl (.nil ⟨rfl, rfl⟩)
   exact rfl
   apply DrawSeqE.consN; exact rfl; exact rfl; intro E
   refine W.fieldAddr rfl rfl rfl rfl (.nil ⟨rfl, rfl⟩)
   exact rfl
   apply DrawSeqE.consN; exact rfl; exact rfl; intro E
   refine AOps.load rfl rfl rfl rfl rfl rfl (.nil ⟨rfl, rfl⟩)
   exact rfl
   apply DrawSeqE.consN; exact rfl; exact rfl; intro E
   refine AOps.move rfl rfl (.nil ⟨rfl, rfl⟩)
   exact rfl
   apply DrawSeqE.consN; exact rfl; exact rfl; intro E
   refine W.fieldAddr rfl rfl rfl rfl (.nil ⟨rfl, rfl⟩)
   exact rfl
   apply DrawSeqE.consN; exact rfl; exact rfl; intro E
   refine AOps.load rfl rfl rfl rfl rfl rfl (.nil ⟨rfl, rfl⟩)
   exact rfl
   apply DrawSeqE.consE (v := .undef); exact rfl; exact rfl; intro E
   refine W.mapUpdate (fk := Value.string) (fv := (Value.int .i64)) (k := a13) (a := nv.change) keyStr rfl rfl rfl rfl rfl (.nil ⟨rfl, rfl⟩)
   exact rfl
   exact rfl
   refine DrawSeqE.done rfl ?_ ?_
   ·apply RestI.cons; exact rfl; exact rfl
    apply RestK.go; exact rfl; exact rfl; intro E; refine AOps.move rfl rfl ?_; exact AOps.nil ⟨rfl, rfl⟩
    refine RestK.skip rfl (RestK.nil)
    apply RestI.cons; exact rfl; exact rfl
    apply RestK.go; exact rfl; exact rfl; intro E; refine AOps.nilCheck rfl rfl rfl ?_; exact AOps.nil ⟨rfl, rfl⟩
    refine RestK.skip rfl (RestK.nil)
    apply RestI.cons; exact rfl; exact rfl
    apply RestK.go; exact rfl; exact rfl; intro E; refine W.fieldAddr rfl rfl rfl rfl ?_; exact AOps.nil ⟨rfl, rfl⟩
    refine RestK.skip rfl (RestK.nil)
    apply RestI.cons; exact rfl; exact rfl
    apply RestK.go; exact rfl; exact rfl; intro E; refine AOps.load rfl rfl rfl rfl rfl rfl ?_; exact AOps.nil ⟨rfl, rfl⟩
    refine RestK.skip rfl (RestK.nil)
    apply RestI.cons; exact rfl; exact rfl
    apply RestK.go; exact rfl; exact rfl; intro E; refine AOps.move rfl rfl ?_; exact AOps.nil ⟨rfl, rfl⟩
    refine RestK.skip rfl (RestK.nil)
    apply RestI.cons; exact rfl; exact rfl
    apply RestK.go; exact rfl; exact rfl; intro E; refine W.fieldAddr rfl rfl rfl rfl ?_; exact AOps.nil ⟨rfl, rfl⟩
    refine RestK.skip rfl (RestK.nil)
    apply RestI.cons; exact rfl; exact rfl
    apply RestK.go; exact rfl; exact rfl; intro E; refine AOps.load rfl rfl rfl rfl rfl rfl ?_; exact AOps.nil ⟨rfl, rfl⟩
    refine RestK.skip rfl (RestK.nil)
    refine RestI.skip rfl (RestI.nil)
   dsimp only [envEnd]
   refine thn_normal (.seq ?_)
   obtain ⟨a44, ha44, h⟩ := bind_some h
   refine AWP.drawEI [6, 7, 10] mixed rfl rfl rfl ?_
   apply DrawSeqE.consN; exact rfl; exact rfl; intro E
   refine AOps.move rfl rfl (.nil ⟨rfl, rfl⟩)
   exact rfl
   apply DrawSeqE.consN; exact rfl; exact rfl; intro E
   refine AOps.move rfl rfl (.nil ⟨rfl, rfl⟩)
   exact rfl
   apply DrawSeqE.consN; exact rfl; exact rfl; intro E
   refine AOps.nilCheck rfl rfl rfl (.nil ⟨rfl, rfl⟩)
   exact rfl
   apply DrawSeqE.consN; exact rfl; exact rfl; intro E
   refine W.fieldAddr rfl rfl rfl rfl (.nil ⟨rfl, rfl⟩)
   exact rfl
   apply DrawSeqE.consN; exact rfl; exact rfl; intro E
   refine AOps.load rfl rfl rfl rfl rfl rfl (.nil ⟨rfl, rfl⟩)
   exact rfl
   apply DrawSeqE.consN; exact rfl; exact rfl; intro E
   refine W.loadAgg rfl rfl rfl rfl rfl rfl rfl (.nil ⟨rfl, rfl⟩)
   exact rfl
   apply DrawSeqE.consE; exact rfl; exact rfl; intro E
   refine S.lit (f := eTrepair_node) (l := [nv]) (ess := [[row 1 intI nv.fs, int nv.fat, int nv.ffrom, int nv.op, int nv.change]]) rfl rfl rfl rfl rfl rfl rfl ⟨⟨.inl rfl, .inl rfl, .inl rfl, .inl rfl, .inl rfl, trivial⟩, trivial⟩ rfl rfl rfl (.nil ⟨rfl, rfl⟩)
   exact rfl
   exact rfl
   apply DrawSeqE.consE; exact rfl; exact rfl; intro E
   refine S.append (f := eTrepair_node) ha44 rfl rfl rfl rfl rfl rfl (.own rfl rfl) rfl rfl rfl rfl (.nil ⟨rfl, rfl⟩)
   exact rfl
   exact rfl
   apply DrawSeqE.consN; exact rfl; exact rfl; intro E
   refine AOps.nilCheck rfl rfl rfl (.nil ⟨rfl, rfl⟩)
   exact rfl
   apply DrawSeqE.consN; exact rfl; exact rfl; intro E
   refine W.fieldAddr rfl rfl rfl rfl (.nil ⟨rfl, rfl⟩)
   exact rfl
   apply DrawSeqE.consE (v := .undef); exact rfl; exact rfl; intro E
   refine W.store rfl rfl rfl rfl rfl (.nil ⟨rfl, rfl⟩)
   exact rfl
   exact rfl
   refine DrawSeqE.done rfl ?_ ?_
   ·apply RestI.cons; exact rfl; exact rfl
    apply RestK.go; exact rfl; exact rfl; intro E; refine AOps.move rfl rfl ?_; exact AOps.nil ⟨rfl, rfl⟩
    apply RestK.go; exact rfl; exact rfl; intro E; refine AOps.move rfl rfl ?_; exact AOps.nil ⟨rfl, rfl⟩
    apply RestK.go; exact rfl; exact rfl; intro E; refine AOps.move rfl rfl ?_; exact AOps.nil ⟨rfl, rfl⟩
    refine RestK.skip rfl (RestK.nil)
    apply RestI.cons; exact rfl; exact rfl
    apply RestK.go; exact rfl; exact rfl; intro E; refine AOps.move rfl rfl ?_; exact AOps.nil ⟨rfl, rfl⟩
    apply RestK.go; exact rfl; exact rfl; intro E; refine AOps.move rfl rfl ?_; exact AOps.nil ⟨rfl, rfl⟩
    refine RestK.skip rfl (RestK.skip rfl (RestK.nil))
    apply RestI.cons; exact rfl; exact rfl
    apply RestK.go; exact rfl; exact rfl; intro E; refine AOps.nilCheck rfl rfl rfl ?_; exact AOps.nil ⟨rfl, rfl⟩
    apply RestK.go; exact rfl; exact rfl; intro E; refine AOps.nilCheck rfl rfl rfl ?_; exact AOps.nil ⟨rfl, rfl⟩
    refine RestK.skip rfl (RestK.skip rfl (RestK.nil))
    apply RestI.cons; exact rfl; exact rfl
    apply RestK.go; exact rfl; exact rfl; intro E; refine W.fieldAddr rfl rfl rfl rfl ?_; exact AOps.nil ⟨rfl, rfl⟩
    apply RestK.go; exact rfl; exact rfl; intro E; refine W.fieldAddr rfl rfl rfl rfl ?_; exact AOps.nil ⟨rfl, rfl⟩
    refine RestK.skip rfl (RestK.skip rfl (RestK.nil))
    apply RestI.cons; exact rfl; exact rfl
    apply RestK.go; exact rfl; exact rfl; intro E; refine AOps.load rfl rfl rfl rfl rfl rfl ?_; exact AOps.nil ⟨rfl, rfl⟩
    apply RestK.go; exact rfl; exact rfl; intro E; refine AOps.load rfl rfl rfl rfl rfl rfl ?_; exact AOps.nil ⟨rfl, rfl⟩
    refine RestK.skip rfl (RestK.skip rfl (RestK.nil))
    apply RestI.cons; exact rfl; exact rfl
    apply RestK.go; exact rfl; exact rfl; intro E; refine W.loadAgg rfl rfl rfl rfl rfl rfl rfl ?_; exact AOps.nil ⟨rfl, rfl⟩
    refine RestK.skip rfl (RestK.skip rfl (RestK.skip rfl (RestK.nil)))
    refine RestI.skip rfl (RestI.skip rfl ?_)
    apply RestI.cons; exact rfl; exact rfl
    refine RestK.skip rfl (RestK.skip rfl ?_)
    apply RestK.go; exact rfl; exact rfl; intro E; refine AOps.nilCheck rfl rfl rfl ?_; exact AOps.nil ⟨rfl, rfl⟩
    refine RestK.skip rfl (RestK.nil)
    apply RestI.cons; exact rfl; exact rfl
    refine RestK.skip rfl (RestK.skip rfl ?_)
    apply RestK.go; exact rfl; exact rfl; intro E; refine W.fieldAddr rfl rfl rfl rfl ?_; exact AOps.nil ⟨rfl, rfl⟩
    refine RestK.skip rfl (RestK.nil)
    refine RestI.skip rfl (RestI.nil)
   dsimp only [envEnd]
   refine thn_normal (.seq (.block (.move (env' := [(0, .c (.ptr 0 0 0)), (3, .c (.ptr 6 0 0))]) (σ' := [.one (.cells 8 [[int t.facts, row 1 intI t.init, row 1 intI t.goal, row 4 eTOperator t.operators, row 1 intI plan, .own 4 0 a44.length, .own 5 0 l5.length, .map 3]]), .dead, .dead, .one (mapB Value.string (Value.int .i64) (mset l6 a13 nv.change)), .one (vec 5 eTrepair_node a44), mat (5, []) 1 intI l5, .one (.cells 5 [[row 1 intI nv.fs, int nv.fat, int nv.ffrom, int nv.op, int nv.change]]), .dead, .one (vec 1 eLi64 ([nv.fs, [nv.fat]])), .one (vec 5 eTrepair_node [nv])]) 4 10 rfl rfl rfl ⟨rfl, rfl, trivial⟩ rfl ⟨⟨rfl, rfl⟩, trivial, trivial, ⟨rfl, rfl⟩, ⟨Blk.im_ok _ _ _, vec_mv rfl⟩, .mat rfl rfl rfl, ⟨rfl, rfl⟩, trivial, ⟨Blk.im_ok _ _ _, vec_mv rfl⟩, ⟨Blk.im_ok _ _ _, vec_mv rfl⟩, trivial⟩ ?_)))
   obtain ⟨c62, ho1, h⟩ := bind_some h
   refine AWP.loopS ho1 (fun c61 => ⟨[(0, .c (.ptr 0 0 0)), (3, .c (.ptr 6 0 0))], [.one (.cells 8 [[int t.facts, row 1 intI t.init, row 1 intI t.goal, row 4 eTOperator t.operators, row 1 intI plan, .own 4 0 a44.length, .own 5 0 c61.length, .map 3]]), .dead, .dead, .one (mapB Value.string (Value.int .i64) (mset l6 a13 nv.change)), .one (vec 5 eTrepair_node a44), mat (5, []) 1 intI c61, .one (.cells 5 [[row 1 intI nv.fs, int nv.fat, int nv.ffrom, int nv.op, int nv.change]])]⟩) (fun c62 e st => e = .exit 0 ∧ Sub (repair_searcher_add_w2_s0 nv t plan l l5 l6) st ⟨[(0, .c (.ptr 0 0 0)), (3, .c (.ptr 6 0 0))], [.one (.cells 8 [[int t.facts, row 1 intI t.init, row 1 intI t.goal, row 4 eTOperator t.operators, row 1 intI plan, .own 4 0 a44.length, .own 5 0 c62.length, .map 3]]), .dead, .dead, .one (mapB Value.string (Value.int .i64) (mset l6 a13 nv.change)), .one (vec 5 eTrepair_node a44), mat (5, []) 1 intI c62, .one (.cells 5 [[row 1 intI nv.fs, int nv.fat, int nv.ffrom, int nv.op, int nv.change]])]⟩) ?_ ?_ ?_
   ·try dsimp only
    exact Sub.cut ⟨rfl, rfl, trivial⟩ rfl ⟨.one rfl, .dead, .dead, .one rfl, .vec, .mat rfl, .one rfl, trivial⟩ rfl
   ·intro c61 o h
    unfold repair_searcher_add_w2_l1 at h
    try dsimp only at h ⊢
    refine AWP.seq (.seq (.drawI mixed rfl ?_))
    apply DrawSeq.consF; exact rfl; intro E
    refine AOps.move rfl rfl (.nil ⟨rfl, rfl⟩)
    exact rfl
    apply DrawSeq.consF; exact rfl; intro E
    refine AOps.nilCheck rfl rfl rfl (.nil ⟨rfl, rfl⟩)
    exact rfl
    apply DrawSeq.consF; exact rfl; intro E
    refine W.fieldAddr rfl rfl rfl rfl (.nil ⟨rfl, rfl⟩)
    exact rfl
    apply DrawSeq.consF; exact rfl; intro E
    refine AOps.load rfl rfl rfl rfl rfl rfl (.nil ⟨rfl, rfl⟩)
    exact rfl
    apply DrawSeq.consF; exact rfl; intro E
    refine S.lenM rfl rfl rfl (fun hl51 => .nil ⟨rfl, rfl⟩)
    exact rfl
    apply DrawSeq.consF; exact rfl; intro E
    refine W.fieldAddr rfl rfl rfl rfl (.nil ⟨rfl, rfl⟩)
    exact rfl
    apply DrawSeq.consF; exact rfl; intro E
    refine AOps.load rfl rfl rfl rfl rfl rfl (.nil ⟨rfl, rfl⟩)
    exact rfl
    apply DrawSeq.consF; exact rfl; intro E
    refine AOps.leq rfl rfl rfl (.nil ⟨rfl, rfl⟩)
    exact rfl
    refine DrawSeq.done ?_
    dsimp only [envEnd]
    refine thn_normal (.ite rfl h (fun hc63 h => ?_) (fun hc63 h => ?_))
    ·refine AWP.skip (thn_normal (.block ?_))
     obtain ⟨a61, ha61, h⟩ := bind_some h
     refine AWP.region (.move rfl rfl (.move rfl rfl (.nilCheck rfl rfl rfl (W.fieldAddr rfl rfl rfl rfl (.load rfl rfl rfl rfl rfl rfl (W.lit1 rfl rfl rfl rfl rfl rfl rfl rfl rfl (S.appendM (k := 1) (f := intI) ha61 rfl rfl rfl rfl rfl rfl rfl rfl rfl rfl rfl rfl (.nilCheck rfl rfl rfl (W.fieldAddr rfl rfl rfl rfl (W.store rfl rfl rfl rfl rfl (.nil (inB_normal ?_))))))))))))
     have ej := Option.some.inj h
     subst ej
     refine thn_normal ⟨_, rfl, ?_⟩
     exact (Sub.moveM (env' := [(0, .c (.ptr 0 0 0)), (3, .c (.ptr 6 0 0))]) (σ' := [.one (.cells 8 [[int t.facts, row 1 intI t.init, row 1 intI t.goal, row 4 eTOperator t.operators, row 1 intI plan, .own 4 0 a44.length, .own 5 0 a61.length, .map 3]]), .dead, .dead, .one (mapB Value.string (Value.int .i64) (mset l6 a13 nv.change)), .one (vec 5 eTrepair_node a44), mat (5, []) 1 intI a61, .one (.cells 5 [[row 1 intI nv.fs, int nv.fat, int nv.ffrom, int nv.op, int nv.change]]), .one (.cells 1 [[.imm (.val (.slice none 0 0))]])]) 5 8 rfl rfl rfl ⟨rfl, rfl, trivial⟩ rfl ⟨(.one rfl rfl), .dead, .dead, (.one rfl rfl), (.vec rfl), (.mat rfl rfl rfl), (.one rfl rfl), (.one rfl rfl), trivial⟩).trans (Sub.cut ⟨rfl, rfl, trivial⟩ rfl ⟨.one rfl, .dead, .dead, .one rfl, .vec, .mat rfl, .one rfl, trivial⟩ rfl)
    ·refine AWP.exit (thn_exit ?_)
     have ej := Option.some.inj h
     subst ej
     refine thn_exit ⟨_, rfl, rfl, ?_⟩
     exact Sub.env ⟨rfl, rfl, trivial⟩
   ·intro e s hq
    obtain ⟨rfl, hs⟩ := hq
    refine ⟨_, hs, ?_⟩
    refine inB_exit (thn_normal ?_)
    obtain ⟨a76, ha76, h⟩ := bind_some h
    obtain ⟨a85, ha85, h⟩ := bind_some h
    obtain ⟨a86, ha86, h⟩ := bind_some h
    refine AWP.drawEI [20, 21, 23] mixed rfl rfl rfl ?_
    apply DrawSeqE.consN; exact rfl; exact rfl; intro E
    refine AOps.move rfl rfl (.nil ⟨rfl, rfl⟩)
    exact rfl
    apply DrawSeqE.consN; exact rfl; exact rfl; intro E
    refine AOps.nilCheck rfl rfl rfl (.nil ⟨rfl, rfl⟩)
    exact rfl
    apply DrawSeqE.consN; exact rfl; exact rfl; intro E
    refine W.fieldAddr rfl rfl rfl rfl (.nil ⟨rfl, rfl⟩)
    exact rfl
    apply DrawSeqE.consN; exact rfl; exact rfl; intro E
    refine AOps.load rfl rfl rfl rfl rfl rfl (.nil ⟨rfl, rfl⟩)
    exact rfl
    apply DrawSeqE.consN; exact rfl; exact rfl; intro E
    refine W.fieldAddr rfl rfl rfl rfl (.nil ⟨rfl, rfl⟩)
    exact rfl
    apply DrawSeqE.consN; exact rfl; exact rfl; intro E
    refine AOps.load rfl rfl rfl rfl rfl rfl (.nil ⟨rfl, rfl⟩)
    exact rfl
    apply DrawSeqE.consN; exact rfl; exact rfl; intro E
    refine AOps.move rfl rfl (.nil ⟨rfl, rfl⟩)
    exact rfl
    apply DrawSeqE.consN; exact rfl; exact rfl; intro E
    refine AOps.nilCheck rfl rfl rfl (.nil ⟨rfl, rfl⟩)
    exact rfl
    apply DrawSeqE.consN; exact rfl; exact rfl; intro E
    refine W.fieldAddr rfl rfl rfl rfl (.nil ⟨rfl, rfl⟩)
    exact rfl
    apply DrawSeqE.consN; exact rfl; exact rfl; intro E
    refine AOps.load rfl rfl rfl rfl rfl rfl (.nil ⟨rfl, rfl⟩)
    exact rfl
    apply DrawSeqE.consN; exact rfl; exact rfl; intro E
    refine W.fieldAddr rfl rfl rfl rfl (.nil ⟨rfl, rfl⟩)
    exact rfl
    apply DrawSeqE.consN; exact rfl; exact rfl; intro E
    refine AOps.load rfl rfl rfl rfl rfl rfl (.nil ⟨rfl, rfl⟩)
    exact rfl
    apply DrawSeqE.consN; exact rfl; exact rfl; intro E
    refine S.idxH ha76 rfl rfl rfl (by simp) rfl rfl (.nil ⟨rfl, rfl⟩)
    exact rfl
    apply DrawSeqE.consN; exact rfl; exact rfl; intro E
    refine S.loadM ha76 rfl rfl rfl rfl (.nil ⟨rfl, rfl⟩)
    exact rfl
    apply DrawSeqE.consN; exact rfl; exact rfl; intro E
    refine AOps.move rfl rfl (.nil ⟨rfl, rfl⟩)
    exact rfl
    apply DrawSeqE.consN; exact rfl; exact rfl; intro E
    refine AOps.nilCheck rfl rfl rfl (.nil ⟨rfl, rfl⟩)
    exact rfl
    apply DrawSeqE.consN; exact rfl; exact rfl; intro E
    refine W.fieldAddr rfl rfl rfl rfl (.nil ⟨rfl, rfl⟩)
    exact rfl
    apply DrawSeqE.consN; exact rfl; exact rfl; intro E
    refine AOps.load rfl rfl rfl rfl rfl rfl (.nil ⟨rfl, rfl⟩)
    exact rfl
    apply DrawSeqE.consN; exact rfl; exact rfl; intro E
    refine S.lenO rfl rfl rfl (fun hl82 => .nil ⟨rfl, rfl⟩)
    exact rfl
    apply DrawSeqE.consN; exact rfl; exact rfl; intro E
    refine S.sub rfl rfl rfl (.nil ⟨rfl, rfl⟩)
    exact rfl
    apply DrawSeqE.consE; exact rfl; exact rfl; intro E
    refine S.lit (f := intI) (l := [w64 ((a44.length : Int) - 1)]) (ess := [[int (w64 ((a44.length : Int) - 1))]]) rfl rfl rfl rfl rfl rfl rfl ⟨⟨.inl rfl, trivial⟩, trivial⟩ rfl rfl rfl (.nil ⟨rfl, rfl⟩)
    exact rfl
    exact rfl
    apply DrawSeqE.consE; exact rfl; exact rfl; intro E
    refine S.appendR (f := intI) ha85 (ix_get ha76).2 rfl rfl rfl rfl rfl rfl (.own rfl rfl) rfl rfl rfl rfl (.nil ⟨rfl, rfl⟩)
    exact rfl
    exact rfl
    apply DrawSeqE.consN; exact rfl; exact rfl; intro E
    refine S.idxH ha86 rfl rfl rfl (by simp) rfl rfl (.nil ⟨rfl, rfl⟩)
    exact rfl
    apply DrawSeqE.consE (v := .undef); exact rfl; exact rfl; intro E
    refine S.storeHD (ix_get ha86).2 rfl rfl rfl rfl (.nil ⟨rfl, rfl⟩)
    exact rfl
    exact rfl
    refine DrawSeqE.done rfl ?_ ?_
    ·apply RestI.cons; exact rfl; exact rfl
     apply RestK.go; exact rfl; exact rfl; intro E; refine AOps.move rfl rfl ?_; exact AOps.nil ⟨rfl, rfl⟩
     apply RestK.go; exact rfl; exact rfl; intro E; refine AOps.move rfl rfl ?_; exact AOps.nil ⟨rfl, rfl⟩
     apply RestK.go; exact rfl; exact rfl; intro E; refine AOps.move rfl rfl ?_; exact AOps.nil ⟨rfl, rfl⟩
     refine RestK.skip rfl (RestK.nil)
     apply RestI.cons; exact rfl; exact rfl
     apply RestK.go; exact rfl; exact rfl; intro E; refine AOps.nilCheck rfl rfl rfl ?_; exact AOps.nil ⟨rfl, rfl⟩
     apply RestK.go; exact rfl; exact rfl; intro E; refine AOps.nilCheck rfl rfl rfl ?_; exact AOps.nil ⟨rfl, rfl⟩
     apply RestK.go; exact rfl; exact rfl; intro E; refine AOps.nilCheck rfl rfl rfl ?_; exact AOps.nil ⟨rfl, rfl⟩
     refine RestK.skip rfl (RestK.nil)
     apply RestI.cons; exact rfl; exact rfl
     apply RestK.go; exact rfl; exact rfl; intro E; refine W.fieldAddr rfl rfl rfl rfl ?_; exact AOps.nil ⟨rfl, rfl⟩
     apply RestK.go; exact rfl; exact rfl; intro E; refine W.fieldAddr rfl rfl rfl rfl ?_; exact AOps.nil ⟨rfl, rfl⟩
     apply RestK.go; exact rfl; exact rfl; intro E; refine W.fieldAddr rfl rfl rfl rfl ?_; exact AOps.nil ⟨rfl, rfl⟩
     refine RestK.skip rfl (RestK.nil)
     apply RestI.cons; exact rfl; exact rfl
     apply RestK.go; exact rfl; exact rfl; intro E; refine AOps.load rfl rfl rfl rfl rfl rfl ?_; exact AOps.nil ⟨rfl, rfl⟩
     apply RestK.go; exact rfl; exact rfl; intro E; refine AOps.load rfl rfl rfl rfl rfl rfl ?_; exact AOps.nil ⟨rfl, rfl⟩
     apply RestK.go; exact rfl; exact rfl; intro E; refine AOps.load rfl rfl rfl rfl rfl rfl ?_; exact AOps.nil ⟨rfl, rfl⟩
     refine RestK.skip rfl (RestK.nil)
     apply RestI.cons; exact rfl; exact rfl
     apply RestK.go; exact rfl; exact rfl; intro E; refine W.fieldAddr rfl rfl rfl rfl ?_; exact AOps.nil ⟨rfl, rfl⟩
     apply RestK.go; exact rfl; exact rfl; intro E; refine W.fieldAddr rfl rfl rfl rfl ?_; exact AOps.nil ⟨rfl, rfl⟩
     apply RestK.go; exact rfl; exact rfl; intro E; refine W.fieldAddr rfl rfl rfl rfl ?_; exact AOps.nil ⟨rfl, rfl⟩
     refine RestK.skip rfl (RestK.nil)
     apply RestI.cons; exact rfl; exact rfl
     apply RestK.go; exact rfl; exact rfl; intro E; refine AOps.load rfl rfl rfl rfl rfl rfl ?_; exact AOps.nil ⟨rfl, rfl⟩
     apply RestK.go; exact rfl; exact rfl; intro E; refine AOps.load rfl rfl rfl rfl rfl rfl ?_; exact AOps.nil ⟨rfl, rfl⟩
     apply RestK.go; exact rfl; exact rfl; intro E; refine AOps.load rfl rfl rfl rfl rfl rfl ?_; exact AOps.nil ⟨rfl, rfl⟩
     refine RestK.skip rfl (RestK.nil)
     apply RestI.cons; exact rfl; exact rfl
     apply RestK.go; exact rfl; exact rfl; intro E; refine AOps.move rfl rfl ?_; exact AOps.nil ⟨rfl, rfl⟩
     apply RestK.go; exact rfl; exact rfl; intro E; refine AOps.move rfl rfl ?_; exact AOps.nil ⟨rfl, rfl⟩
     refine RestK.skip rfl (RestK.skip rfl (RestK.nil))
     apply RestI.cons; exact rfl; exact rfl
     apply RestK.go; exact rfl; exact rfl; intro E; refine AOps.nilCheck rfl rfl rfl ?_; exact AOps.nil ⟨rfl, rfl⟩
     apply RestK.go; exact rfl; exact rfl; intro E; refine AOps.nilCheck rfl rfl rfl ?_; exact AOps.nil ⟨rfl, rfl⟩
     refine RestK.skip rfl (RestK.skip rfl (RestK.nil))
     apply RestI.cons; exact rfl; exact rfl
     apply RestK.go; exact rfl; exact rfl; intro E; refine W.fieldAddr rfl rfl rfl rfl ?_; exact AOps.nil ⟨rfl, rfl⟩
     apply RestK.go; exact rfl; exact rfl; intro E; refine W.fieldAddr rfl rfl rfl rfl ?_; exact AOps.nil ⟨rfl, rfl⟩
     refine RestK.skip rfl (RestK.skip rfl (RestK.nil))
     apply RestI.cons; exact rfl; exact rfl
     apply RestK.go; exact rfl; exact rfl; intro E; refine AOps.load rfl rfl rfl rfl rfl rfl ?_; exact AOps.nil ⟨rfl, rfl⟩
     apply RestK.go; exact rfl; exact rfl; intro E; refine AOps.load rfl rfl rfl rfl rfl rfl ?_; exact AOps.nil ⟨rfl, rfl⟩
     refine RestK.skip rfl (RestK.skip rfl (RestK.nil))
     apply RestI.cons; exact rfl; exact rfl
     apply RestK.go; exact rfl; exact rfl; intro E; refine W.fieldAddr rfl rfl rfl rfl ?_; exact AOps.nil ⟨rfl, rfl⟩
     apply RestK.go; exact rfl; exact rfl; intro E; refine W.fieldAddr rfl rfl rfl rfl ?_; exact AOps.nil ⟨rfl, rfl⟩
     refine RestK.skip rfl (RestK.skip rfl (RestK.nil))
     apply RestI.cons; exact rfl; exact rfl
     apply RestK.go; exact rfl; exact rfl; intro E; refine AOps.load rfl rfl rfl rfl rfl rfl ?_; exact AOps.nil ⟨rfl, rfl⟩
     apply RestK.go; exact rfl; exact rfl; intro E; refine AOps.load rfl rfl rfl rfl rfl rfl ?_; exact AOps.nil ⟨rfl, rfl⟩
     refine RestK.skip rfl (RestK.skip rfl (RestK.nil))
     apply RestI.cons; exact rfl; exact rfl
     apply RestK.go; exact rfl; exact rfl; intro E; refine S.idxH ha76 rfl rfl rfl (by simp) rfl rfl ?_; exact AOps.nil ⟨rfl, rfl⟩
     apply RestK.go; exact rfl; exact rfl; intro E; refine S.idxH ha76 rfl rfl rfl (by simp) rfl rfl ?_; exact AOps.nil ⟨rfl, rfl⟩
     refine RestK.skip rfl (RestK.skip rfl (RestK.nil))
     apply RestI.cons; exact rfl; exact rfl
     apply RestK.go; exact rfl; exact rfl; intro E; refine S.loadM ha76 rfl rfl rfl rfl ?_; exact AOps.nil ⟨rfl, rfl⟩
     apply RestK.go; exact rfl; exact rfl; intro E; refine S.loadM ha76 rfl rfl rfl rfl ?_; exact AOps.nil ⟨rfl, rfl⟩
     refine RestK.skip rfl (RestK.skip rfl (RestK.nil))
     apply RestI.cons; exact rfl; exact rfl
     apply RestK.go; exact rfl; exact rfl; intro E; refine AOps.move rfl rfl ?_; exact AOps.nil ⟨rfl, rfl⟩
     refine RestK.skip rfl (RestK.skip rfl (RestK.skip rfl (RestK.nil)))
     apply RestI.cons; exact rfl; exact rfl
     apply RestK.go; exact rfl; exact rfl; intro E; refine AOps.nilCheck rfl rfl rfl ?_; exact AOps.nil ⟨rfl, rfl⟩
     refine RestK.skip rfl (RestK.skip rfl (RestK.skip rfl (RestK.nil)))
     apply RestI.cons; exact rfl; exact rfl
     apply RestK.go; exact rfl; exact rfl; intro E; refine W.fieldAddr rfl rfl rfl rfl ?_; exact AOps.nil ⟨rfl, rfl⟩
     refine RestK.skip rfl (RestK.skip rfl (RestK.skip rfl (RestK.nil)))
     apply RestI.cons; exact rfl; exact rfl
     apply RestK.go; exact rfl; exact rfl; intro E; refine AOps.load rfl rfl rfl rfl rfl rfl ?_; exact AOps.nil ⟨rfl, rfl⟩
     refine RestK.skip rfl (RestK.skip rfl (RestK.skip rfl (RestK.nil)))
     apply RestI.cons; exact rfl; exact rfl
     apply RestK.go; exact rfl; exact rfl; intro E; refine S.lenO rfl rfl rfl (fun hl82 => ?_); exact AOps.nil ⟨rfl, rfl⟩
     refine RestK.skip rfl (RestK.skip rfl (RestK.skip rfl (RestK.nil)))
     apply RestI.cons; exact rfl; exact rfl
     apply RestK.go; exact rfl; exact rfl; intro E; refine S.sub rfl rfl rfl ?_; exact AOps.nil ⟨rfl, rfl⟩
     refine RestK.skip rfl (RestK.skip rfl (RestK.skip rfl (RestK.nil)))
     refine RestI.skip rfl (RestI.skip rfl ?_)
     apply RestI.cons; exact rfl; exact rfl
     refine RestK.skip rfl (RestK.skip rfl ?_)
     apply RestK.go; exact rfl; exact rfl; intro E; refine S.idxH ha86 rfl rfl rfl (by simp) rfl rfl ?_; exact AOps.nil ⟨rfl, rfl⟩
     refine RestK.skip rfl (RestK.nil)
     refine RestI.skip rfl (RestI.nil)
    dsimp only [envEnd]
    have ej := Option.some.inj h
    subst ej
    exact ⟨⟨[], [.one (.cells 8 [[int t.facts, row 1 intI t.init, row 1 intI t.goal, row 4 eTOperator t.operators, row 1 intI plan, .own 4 0 a44.length, .own 5 0 ((c62.set nv.change.toNat a85).length), .map 3]]), .dead, .dead, .one (mapB Value.string (Value.int .i64) (mset l6 a13 nv.change)), .one (vec 5 eTrepair_node a44), mat (5, []) 1 intI (c62.set nv.change.toNat a85)]⟩, (Sub.moveR (k := 1) (f := intI) (M := c62) (env' := []) (σ' := [.one (.cells 8 [[int t.facts, row 1 intI t.init, row 1 intI t.goal, row 4 eTOperator t.operators, row 1 intI plan, .own 4 0 a44.length, .own 5 0 c62.length, .map 3]]), .dead, .dead, .one (mapB Value.string (Value.int .i64) (mset l6 a13 nv.change)), .one (vec 5 eTrepair_node a44), mat (5, []) 1 intI (c62.set nv.change.toNat a85), .one (.cells 5 [[row 1 intI nv.fs, int nv.fat, int nv.ffrom, int nv.op, int nv.change]]), .one (vec 1 intI [w64 ((a44.length : Int) - 1)])]) (r := 5) (s := 8) (p := nv.change.toNat) (matSD_at rfl) (ix_get ha86).2 rfl rfl rfl rfl rfl (.inl rfl) (OthL.all ⟨.one rfl rfl, .dead, .dead, .one rfl rfl, .vec, .self, .one rfl rfl, .vec, trivial⟩) trivial rfl rfl).trans (Sub.cut trivial rfl ⟨(.eq rfl (by first | rfl | simp only [List.length_set])), .dead, .dead, .one rfl, .vec, .mat rfl, trivial⟩ rfl), Done.normal rfl ⟨rfl, rfl⟩⟩
theorem repair_searcher_steps_w_ok {iv : Int} {t : TTask} {plan : List Int} {l : List Trepair_node} {l5 : List (List Int)} {l6 : List (ByteArray × Int)} {r : (List Int)} (h : repair_searcher_steps_w iv t plan l l5 l6 = some r) : FnOk Tryd.prog 21 [.c (.ptr 0 0 0), .c (int iv)] (repair_searcher_steps_w_s0 iv t plan l l5 l6) (fun tt ss => tt = .c (row 1 intI r) ∧ ss = [.one (.cells 8 [[int t.facts, row 1 intI t.init, row 1 intI t.goal, row 4 eTOperator t.operators, row 1 intI plan, .own 1 0 l.length, .own 2 0 l5.length, .map 3]]), .one (vec 5 eTrepair_node l), mat (2, []) 1 intI l5, .one (mapB Value.string (Value.int .i64) l6)]) := by
 refine FnOk.enter (rs := [.t 4]) Tryd.func21 rfl Tryd.ntmps21 Tryd.results21 rfl ⟨trivial, trivial⟩ (by kernel_rfl) rfl ?_
 refine AWP.weak ?_
 unfold repair_searcher_steps_w at h
 refine AWP.seq (.region (.assign rfl rfl (.nil (thn_normal (.seq (.region (.assign rfl rfl (.nil (thn_normal (.seq (.block (.virtV 1 intI 5 rfl rfl rfl ?_))))))))))))
 obtain ⟨c60, ho1, h⟩ := bind_some h
 refine AWP.loopS ho1 (fun (c58, iv59) => ⟨[(0, .c (.ptr 0 0 0)), (1, .c (int iv59)), (5, .c (.own 4 0 c58.length))], [.one (.cells 8 [[int t.facts, row 1 intI t.init, row 1 intI t.goal, row 4 eTOperator t.operators, row 1 intI plan, .own 1 0 l.length, .own 2 0 l5.length, .map 3]]), .one (vec 5 eTrepair_node l), mat (2, []) 1 intI l5, .one (mapB Value.string (Value.int .i64) l6), .one (vec 1 intI c58)]⟩) (fun c60 e st => e = .exit 0 ∧ Sub (repair_searcher_steps_w_s0 iv t plan l l5 l6) st ⟨[(5, .c (.own 4 0 c60.length))], [.one (.cells 8 [[int t.facts, row 1 intI t.init, row 1 intI t.goal, row 4 eTOperator t.operators, row 1 intI plan, .own 1 0 l.length, .own 2 0 l5.length, .map 3]]), .one (vec 5 eTrepair_node l), mat (2, []) 1 intI l5, .one (mapB Value.string (Value.int .i64) l6), .one (vec 1 intI c60)]⟩) ?_ ?_ ?_
 ·try dsimp only
  exact Sub.env ⟨rfl, rfl, (own_len (by first | rfl | simp only [List.length_set])), trivial⟩
 ·intro s o h
  obtain ⟨c58, iv59⟩ := s
  unfold repair_searcher_steps_w_l1 at h
  try dsimp only at h ⊢
  refine AWP.seq (.seq (.region (.move rfl rfl (.geq rfl rfl rfl (.nil (thn_normal (.ite rfl h (fun hc61 h => ?_) (fun hc61 h => ?_))))))))
  ·refine AWP.skip (thn_normal ?_)
   obtain ⟨c62, hx63, h⟩ := bind_some h
   refine AWP.seqJ (⟨[(0, .c (.ptr 0 0 0)), (1, .c (int iv59)), (5, .c (.own 6 0 c62.length))], [.one (.cells 8 [[int t.facts, row 1 intI t.init, row 1 intI t.goal, row 4 eTOperator t.operators, row 1 intI plan, .own 1 0 l.length, .own 2 0 l5.length, .map 3]]), .one (vec 5 eTrepair_node l), mat (2, []) 1 intI l5, .one (mapB Value.string (Value.int .i64) l6), .dead, .dead, .one (vec 1 intI c62)]⟩) ?_ ?_
   ·refine AWP.block (.seq ?_)
    obtain ⟨a22, ha22, hx63⟩ := bind_some hx63
    refine AWP.region (.move rfl rfl (.nilCheck rfl rfl rfl (W.fieldAddr rfl rfl rfl rfl (.load rfl rfl rfl rfl rfl rfl (.move rfl rfl (S.idxO ha22 rfl rfl rfl rfl rfl (W.fieldAddr rfl rfl rfl rfl (S.loadO ha22 rfl rfl rfl rfl rfl (.assign rfl rfl (.nil (thn_normal (.seq (.region (.move rfl rfl (.geq rfl rfl rfl (.nil (thn_normal (.ite rfl hx63 (fun hc64 hx63 => ?_) (fun hc64 hx63 => ?_)))))))))))))))))))
    ·obtain ⟨a30, ha30, hx63⟩ := bind_some hx63
     refine AWP.region (.move rfl rfl (.move rfl rfl (S.lit (f := intI) (l := [a22.op]) (ess := [[int a22.op]]) rfl rfl rfl rfl rfl rfl rfl ⟨⟨.inl rfl, trivial⟩, trivial⟩ rfl rfl rfl (S.append (f := intI) ha30 rfl rfl rfl rfl rfl rfl (.own rfl rfl) rfl rfl rfl rfl (.assign rfl rfl (.nil (inB_normal ?_)))))))
     have ej := Option.some.inj hx63
     subst ej
     refine thn_normal (Sub.cut ⟨rfl, rfl, rfl, trivial⟩ rfl ⟨.one rfl, .vec, .mat rfl, .one rfl, .dead, .dead, .vec, trivial⟩ rfl)
    ·refine AWP.skip (inB_normal ?_)
     have ej := Option.some.inj hx63
     subst ej
     refine thn_normal ((Sub.move (env' := [(0, .c (.ptr 0 0 0)), (1, .c (int iv59)), (5, .c (.own 6 0 c58.length))]) (σ' := [.one (.cells 8 [[int t.facts, row 1 intI t.init, row 1 intI t.goal, row 4 eTOperator t.operators, row 1 intI plan, .own 1 0 l.length, .own 2 0 l5.length, .map 3]]), .one (vec 5 eTrepair_node l), mat (2, []) 1 intI l5, .one (mapB Value.string (Value.int .i64) l6), .dead, .dead, .one (vec 1 intI c58)]) 6 4 rfl rfl rfl ⟨rfl, rfl, rfl, trivial⟩ rfl ⟨⟨rfl, rfl⟩, ⟨Blk.im_ok _ _ _, vec_mv rfl⟩, .mat rfl rfl rfl, ⟨rfl, rfl⟩, trivial, trivial, ⟨Blk.im_ok _ _ _, vec_mv rfl⟩, trivial⟩).trans (Sub.env ⟨rfl, rfl, rfl, trivial⟩))
   ·obtain ⟨a14, ha14, h⟩ := bind_some h
    refine AWP.region (.move rfl rfl (.nilCheck rfl rfl rfl (W.fieldAddr rfl rfl rfl rfl (.load rfl rfl rfl rfl rfl rfl (.move rfl rfl (S.idxO ha14 rfl rfl rfl rfl rfl (W.fieldAddr rfl rfl rfl rfl (S.loadO ha14 rfl rfl rfl rfl rfl (.assign rfl rfl (.nil ?_))))))))))
    have ej := Option.some.inj h
    subst ej
    refine thn_normal ⟨_, rfl, ?_⟩
    exact (Sub.move (env' := [(0, .c (.ptr 0 0 0)), (1, .c (int a14.ffrom)), (5, .c (.own 4 0 c62.length))]) (σ' := [.one (.cells 8 [[int t.facts, row 1 intI t.init, row 1 intI t.goal, row 4 eTOperator t.operators, row 1 intI plan, .own 1 0 l.length, .own 2 0 l5.length, .map 3]]), .one (vec 5 eTrepair_node l), mat (2, []) 1 intI l5, .one (mapB Value.string (Value.int .i64) l6), .one (vec 1 intI c62), .dead]) 4 6 rfl rfl rfl ⟨rfl, rfl, rfl, trivial⟩ rfl ⟨⟨rfl, rfl⟩, ⟨Blk.im_ok _ _ _, vec_mv rfl⟩, .mat rfl rfl rfl, ⟨rfl, rfl⟩, ⟨Blk.im_ok _ _ _, vec_mv rfl⟩, trivial, trivial⟩).trans (Sub.cut ⟨rfl, rfl, rfl, trivial⟩ rfl ⟨.one rfl, .vec, .mat rfl, .one rfl, .vec, trivial⟩ rfl)
  ·refine AWP.exit (thn_exit ?_)
   have ej := Option.some.inj h
   subst ej
   refine thn_exit ⟨_, rfl, rfl, ?_⟩
   exact Sub.env ⟨rfl, trivial⟩
 ·intro e s hq
  obtain ⟨rfl, hs⟩ := hq
  refine ⟨_, hs, ?_⟩
  refine inB_exit (thn_normal (.seq (.region (.move rfl rfl (S.rev revL_ok rfl rfl rfl rfl rfl rfl (.nil (thn_normal (.seq (.region (.move rfl rfl (.assign rfl rfl (.nil (thn_normal (.frzV (id := 4) (l := c60.reverse) (env2 := [(4, .c (row 1 intI c60.reverse))]) (σ2 := [.one (.cells 8 [[int t.facts, row 1 intI t.init, row 1 intI t.goal, row 4 eTOperator t.operators, row 1 intI plan, .own 1 0 l.length, .own 2 0 l5.length, .map 3]]), .one (vec 5 eTrepair_node l), mat (2, []) 1 intI l5, .one (mapB Value.string (Value.int .i64) l6), .dead]) rfl rfl (by exact ⟨⟨_, rfl, .inr ⟨_, rfl, List.length_reverse.symm, rfl⟩⟩, trivial⟩) rfl (by exact ⟨⟨rfl, .inl ⟨rfl, rfl⟩, .inl ⟨rfl, rfl⟩, .inl ⟨rfl, rfl⟩, .inl ⟨rfl, rfl⟩, .inl ⟨rfl, rfl⟩, .inl ⟨rfl, rfl⟩, .inl ⟨rfl, rfl⟩, .inl ⟨rfl, rfl⟩, trivial⟩, FrzB.vec, (FrzB.mat rfl), ⟨rfl, rfl⟩, trivial, trivial⟩) (.ret ?_)))))))))))))))
  have ej := Option.some.inj h
  subst ej
  exact ⟨⟨[(4, .c (row 1 intI c60.reverse))], [.one (.cells 8 [[int t.facts, row 1 intI t.init, row 1 intI t.goal, row 4 eTOperator t.operators, row 1 intI plan, .own 1 0 l.length, .own 2 0 l5.length, .map 3]]), .one (vec 5 eTrepair_node l), mat (2, []) 1 intI l5, .one (mapB Value.string (Value.int .i64) l6)]⟩, Sub.cut ⟨rfl, trivial⟩ rfl ⟨.one rfl, .vec, .mat rfl, .one rfl, trivial⟩ rfl, Done.ret rfl ⟨rfl, rfl⟩⟩
theorem strips_Successors_w_ok {t : TTask} {sv : List Int} {r : Unit} (h : strips_Successors_w t sv = some r) : FnOk Tryd.prog 34 [.agg [int t.facts, row 1 intI t.init, row 1 intI t.goal, row 4 eTOperator t.operators], .c (row 1 intI sv)] (strips_Successors_w_s0 t sv) (fun tt ss => tt = .c (.fn 43 [.ptr 0 0 0, .ptr 1 0 0]) ∧ ss = [.one (.cells 4 [[int t.facts, row 1 intI t.init, row 1 intI t.goal, row 4 eTOperator t.operators]]), .one (.cells 1 [[row 1 intI sv]])]) := by
 refine FnOk.enter (rs := [.t 4]) Tryd.func34 rfl Tryd.ntmps34 Tryd.results34 rfl ⟨trivial, trivial⟩ (by kernel_rfl) rfl ?_
 refine AWP.weak ?_
 unfold strips_Successors_w at h
 refine AWP.seq (.region (W.box rfl rfl rfl rfl rfl rfl (W.box rfl rfl rfl rfl rfl rfl (.assign rfl rfl (.nil (thn_normal (.seq (.region (.makeFunc rfl rfl (.assign rfl rfl (.nil (thn_normal (.ret ?_)))))))))))))
 have ej := Option.some.inj h
 subst ej
 exact ⟨⟨[(4, .c (.fn 43 [.ptr 0 0 0, .ptr 1 0 0]))], [.one (.cells 4 [[int t.facts, row 1 intI t.init, row 1 intI t.goal, row 4 eTOperator t.operators]]), .one (.cells 1 [[row 1 intI sv]])]⟩, Sub.env ⟨rfl, trivial⟩, Done.ret rfl ⟨rfl, rfl⟩⟩
end Ab
end
