/-
  Texts that the proof stands on.
-/
import Derived.Test.YtiooehonogebkaaDoorKRwWithout3
set_option linter.all false
section
namespace Ab
open Go Go.Proofs
set_option maxHeartbeats 4000000
set_option linter.all false
attribute [local irreducible] AWP AOps thn inB Done PureOk FreshOk Sub
theorem law8_step_ok {r : TTask} (h : law8_step = some r) : PureOk Tryd.prog 29 [] (.agg [int r.facts, row 1 intI r.init, row 1 intI r.goal, row 4 eTOperator r.operators]) := by
  unfold PureOk
  refine FnOk.enter (rs := [.cell 0 25 4]) Tryd.func29 rfl Tryd.ntmps29 Tryd.results29 rfl ⟨rv _ rfl, trivial⟩ (by kernel_rfl) rfl ?_
  unfold law8_step at h
  refine AWP.seq ?_
  refine AWP.region ?_
  refine W.alloc rfl rfl rfl rfl ?_
  refine AOps.nil ?_
  refine thn_normal ?_
  refine AWP.seq ?_
  refine AWP.region ?_
  refine S.lit (f := intI) (l := [0]) (ess := [[int 0]]) rfl rfl rfl rfl rfl rfl rfl ⟨⟨.inl rfl, trivial⟩, trivial⟩ rfl rfl rfl ?_
  refine S.lit (f := intI) (l := [1]) (ess := [[int 1]]) rfl rfl rfl rfl rfl rfl rfl ⟨⟨.inl rfl, trivial⟩, trivial⟩ rfl rfl rfl ?_
  refine S.lit (f := intI) (l := [0]) (ess := [[int 0]]) rfl rfl rfl rfl rfl rfl rfl ⟨⟨.inl rfl, trivial⟩, trivial⟩ rfl rfl rfl ?_
  refine S.lit (f := intI) (l := [1]) (ess := [[int 1]]) rfl rfl rfl rfl rfl rfl rfl ⟨⟨.inl rfl, trivial⟩, trivial⟩ rfl rfl rfl ?_
  refine S.lit (f := intI) (l := [0]) (ess := [[int 0]]) rfl rfl rfl rfl rfl rfl rfl ⟨⟨.inl rfl, trivial⟩, trivial⟩ rfl rfl rfl ?_
  refine W.build rfl rfl rfl rfl ?_
  refine S.lit (f := intI) (l := [1]) (ess := [[int 1]]) rfl rfl rfl rfl rfl rfl rfl ⟨⟨.inl rfl, trivial⟩, trivial⟩ rfl rfl rfl ?_
  refine W.build rfl rfl rfl rfl ?_
  refine AOps.frzV (id := 3) (l := [0]) (env2 := [(0, .c (.ptr 0 0 0)), (1, .c (.own 1 0 ([0].length))), (2, .c (.own 2 0 ([1].length))), (6, .agg [row 1 intI [0], .own 4 0 ([1].length), .own 5 0 ([0].length), int 1]), (8, .agg [.imm (.val (.slice none 0 0)), .own 6 0 ([1].length), .imm (.val (.slice none 0 0)), int 3])]) (σ2 := [.one (.cells 4 [[int 0, .imm (.val (.slice none 0 0)), .imm (.val (.slice none 0 0)), .imm (.val (.slice none 0 0))]]), .one (vec 1 intI [0]), .one (vec 1 intI [1]), .dead, .one (vec 1 intI [1]), .one (vec 1 intI [0]), .one (vec 1 intI [1])]) rfl rfl (by exact ⟨⟨_, rfl, .inl ⟨rfl, rfl⟩⟩, ⟨_, rfl, .inl ⟨rfl, rfl⟩⟩, ⟨_, rfl, .inl ⟨rfl, rfl⟩⟩, ⟨_, rfl, ⟨.inr ⟨_, rfl, rfl, rfl⟩, .inl ⟨rfl, rfl⟩, .inl ⟨rfl, rfl⟩, .inl ⟨rfl, rfl⟩, trivial⟩⟩, ⟨_, rfl, ⟨.inl ⟨rfl, rfl⟩, .inl ⟨rfl, rfl⟩, .inl ⟨rfl, rfl⟩, .inl ⟨rfl, rfl⟩, trivial⟩⟩, trivial⟩) rfl (by exact ⟨⟨rfl, .inl ⟨rfl, rfl⟩, .inl ⟨rfl, rfl⟩, .inl ⟨rfl, rfl⟩, .inl ⟨rfl, rfl⟩, trivial⟩, FrzB.vec, FrzB.vec, trivial, FrzB.vec, FrzB.vec, FrzB.vec, trivial⟩) ?_; refine AOps.frzV (id := 4) (l := [1]) (env2 := [(0, .c (.ptr 0 0 0)), (1, .c (.own 1 0 ([0].length))), (2, .c (.own 2 0 ([1].length))), (6, .agg [row 1 intI [0], row 1 intI [1], .own 5 0 ([0].length), int 1]), (8, .agg [.imm (.val (.slice none 0 0)), .own 6 0 ([1].length), .imm (.val (.slice none 0 0)), int 3])]) (σ2 := [.one (.cells 4 [[int 0, .imm (.val (.slice none 0 0)), .imm (.val (.slice none 0 0)), .imm (.val (.slice none 0 0))]]), .one (vec 1 intI [0]), .one (vec 1 intI [1]), .dead, .dead, .one (vec 1 intI [0]), .one (vec 1 intI [1])]) rfl rfl (by exact ⟨⟨_, rfl, .inl ⟨rfl, rfl⟩⟩, ⟨_, rfl, .inl ⟨rfl, rfl⟩⟩, ⟨_, rfl, .inl ⟨rfl, rfl⟩⟩, ⟨_, rfl, ⟨.inl ⟨rfl, rfl⟩, .inr ⟨_, rfl, rfl, rfl⟩, .inl ⟨rfl, rfl⟩, .inl ⟨rfl, rfl⟩, trivial⟩⟩, ⟨_, rfl, ⟨.inl ⟨rfl, rfl⟩, .inl ⟨rfl, rfl⟩, .inl ⟨rfl, rfl⟩, .inl ⟨rfl, rfl⟩, trivial⟩⟩, trivial⟩) rfl (by exact ⟨⟨rfl, .inl ⟨rfl, rfl⟩, .inl ⟨rfl, rfl⟩, .inl ⟨rfl, rfl⟩, .inl ⟨rfl, rfl⟩, trivial⟩, FrzB.vec, FrzB.vec, trivial, trivial, FrzB.vec, FrzB.vec, trivial⟩) ?_; refine AOps.frzV (id := 5) (l := [0]) (env2 := [(0, .c (.ptr 0 0 0)), (1, .c (.own 1 0 ([0].length))), (2, .c (.own 2 0 ([1].length))), (6, .agg [row 1 intI [0], row 1 intI [1], row 1 intI [0], int 1]), (8, .agg [.imm (.val (.slice none 0 0)), .own 6 0 ([1].length), .imm (.val (.slice none 0 0)), int 3])]) (σ2 := [.one (.cells 4 [[int 0, .imm (.val (.slice none 0 0)), .imm (.val (.slice none 0 0)), .imm (.val (.slice none 0 0))]]), .one (vec 1 intI [0]), .one (vec 1 intI [1]), .dead, .dead, .dead, .one (vec 1 intI [1])]) rfl rfl (by exact ⟨⟨_, rfl, .inl ⟨rfl, rfl⟩⟩, ⟨_, rfl, .inl ⟨rfl, rfl⟩⟩, ⟨_, rfl, .inl ⟨rfl, rfl⟩⟩, ⟨_, rfl, ⟨.inl ⟨rfl, rfl⟩, .inl ⟨rfl, rfl⟩, .inr ⟨_, rfl, rfl, rfl⟩, .inl ⟨rfl, rfl⟩, trivial⟩⟩, ⟨_, rfl, ⟨.inl ⟨rfl, rfl⟩, .inl ⟨rfl, rfl⟩, .inl ⟨rfl, rfl⟩, .inl ⟨rfl, rfl⟩, trivial⟩⟩, trivial⟩) rfl (by exact ⟨⟨rfl, .inl ⟨rfl, rfl⟩, .inl ⟨rfl, rfl⟩, .inl ⟨rfl, rfl⟩, .inl ⟨rfl, rfl⟩, trivial⟩, FrzB.vec, FrzB.vec, trivial, trivial, trivial, FrzB.vec, trivial⟩) ?_; refine AOps.frzV (id := 6) (l := [1]) (env2 := [(0, .c (.ptr 0 0 0)), (1, .c (.own 1 0 ([0].length))), (2, .c (.own 2 0 ([1].length))), (6, .agg [row 1 intI [0], row 1 intI [1], row 1 intI [0], int 1]), (8, .agg [.imm (.val (.slice none 0 0)), row 1 intI [1], .imm (.val (.slice none 0 0)), int 3])]) (σ2 := [.one (.cells 4 [[int 0, .imm (.val (.slice none 0 0)), .imm (.val (.slice none 0 0)), .imm (.val (.slice none 0 0))]]), .one (vec 1 intI [0]), .one (vec 1 intI [1]), .dead, .dead, .dead, .dead]) rfl rfl (by exact ⟨⟨_, rfl, .inl ⟨rfl, rfl⟩⟩, ⟨_, rfl, .inl ⟨rfl, rfl⟩⟩, ⟨_, rfl, .inl ⟨rfl, rfl⟩⟩, ⟨_, rfl, ⟨.inl ⟨rfl, rfl⟩, .inl ⟨rfl, rfl⟩, .inl ⟨rfl, rfl⟩, .inl ⟨rfl, rfl⟩, trivial⟩⟩, ⟨_, rfl, ⟨.inl ⟨rfl, rfl⟩, .inr ⟨_, rfl, rfl, rfl⟩, .inl ⟨rfl, rfl⟩, .inl ⟨rfl, rfl⟩, trivial⟩⟩, trivial⟩) rfl (by exact ⟨⟨rfl, .inl ⟨rfl, rfl⟩, .inl ⟨rfl, rfl⟩, .inl ⟨rfl, rfl⟩, .inl ⟨rfl, rfl⟩, trivial⟩, FrzB.vec, FrzB.vec, trivial, trivial, trivial, trivial, trivial⟩) ?_; refine S.lit (f := eTOperator) (l := [(⟨[0], [1], [0], 1⟩ : TOperator), (⟨[], [1], [], 3⟩ : TOperator)]) (ess := [[row 1 intI [0], row 1 intI [1], row 1 intI [0], int 1], [.imm (.val (.slice none 0 0)), row 1 intI [1], .imm (.val (.slice none 0 0)), int 3]]) rfl rfl rfl rfl rfl rfl rfl ⟨⟨.inl rfl, .inl rfl, .inl rfl, .inl rfl, trivial⟩, ⟨.inr ⟨rfl, _, rfl⟩, .inl rfl, .inr ⟨rfl, _, rfl⟩, .inl rfl, trivial⟩, trivial⟩ rfl rfl rfl ?_
  refine W.build rfl rfl rfl rfl ?_
  refine W.storeAgg rfl rfl rfl rfl rfl rfl rfl ?_
  refine AOps.nil ?_
  refine thn_normal ?_
  refine AWP.frzV (id := 1) (l := [0]) (env2 := [(0, .c (.ptr 0 0 0))]) (σ2 := [.one (.cells 4 [[int 2, row 1 intI [0], .own 2 0 ([1].length), .own 7 0 (([(⟨[0], [1], [0], 1⟩ : TOperator), (⟨[], [1], [], 3⟩ : TOperator)]).length)]]), .dead, .one (vec 1 intI [1]), .dead, .dead, .dead, .dead, .one (vec 4 eTOperator ([(⟨[0], [1], [0], 1⟩ : TOperator), (⟨[], [1], [], 3⟩ : TOperator)]))]) rfl rfl (by exact ⟨⟨_, rfl, .inl ⟨rfl, rfl⟩⟩, trivial⟩) rfl (by exact ⟨⟨rfl, .inl ⟨rfl, rfl⟩, .inr ⟨_, rfl, rfl, rfl⟩, .inl ⟨rfl, rfl⟩, .inl ⟨rfl, rfl⟩, trivial⟩, trivial, FrzB.vec, trivial, trivial, trivial, trivial, FrzB.vec, trivial⟩) ?_
  refine AWP.frzV (id := 2) (l := [1]) (env2 := [(0, .c (.ptr 0 0 0))]) (σ2 := [.one (.cells 4 [[int 2, row 1 intI [0], row 1 intI [1], .own 7 0 (([(⟨[0], [1], [0], 1⟩ : TOperator), (⟨[], [1], [], 3⟩ : TOperator)]).length)]]), .dead, .dead, .dead, .dead, .dead, .dead, .one (vec 4 eTOperator ([(⟨[0], [1], [0], 1⟩ : TOperator), (⟨[], [1], [], 3⟩ : TOperator)]))]) rfl rfl (by exact ⟨⟨_, rfl, .inl ⟨rfl, rfl⟩⟩, trivial⟩) rfl (by exact ⟨⟨rfl, .inl ⟨rfl, rfl⟩, .inl ⟨rfl, rfl⟩, .inr ⟨_, rfl, rfl, rfl⟩, .inl ⟨rfl, rfl⟩, trivial⟩, trivial, trivial, trivial, trivial, trivial, trivial, FrzB.vec, trivial⟩) ?_
  refine AWP.frzV (id := 7) (l := [(⟨[0], [1], [0], 1⟩ : TOperator), (⟨[], [1], [], 3⟩ : TOperator)]) (env2 := [(0, .c (.ptr 0 0 0))]) (σ2 := [.one (.cells 4 [[int 2, row 1 intI [0], row 1 intI [1], row 4 eTOperator ([(⟨[0], [1], [0], 1⟩ : TOperator), (⟨[], [1], [], 3⟩ : TOperator)])]]), .dead, .dead, .dead, .dead, .dead, .dead, .dead]) rfl rfl (by exact ⟨⟨_, rfl, .inl ⟨rfl, rfl⟩⟩, trivial⟩) rfl (by exact ⟨⟨rfl, .inl ⟨rfl, rfl⟩, .inl ⟨rfl, rfl⟩, .inl ⟨rfl, rfl⟩, .inr ⟨_, rfl, rfl, rfl⟩, trivial⟩, trivial, trivial, trivial, trivial, trivial, trivial, trivial, trivial⟩) ?_
  refine AWP.ret ?_
  have ej := Option.some.inj h
  subst ej
  exact Done.ret rfl rfl
theorem merging_Check_ok {t : TTask} {goals : List (List Int)} {plans : List (List Int)} {turns : List Int} {r : Bool × TFault} (h : merging_Check t goals plans turns = some r) : PureOk Tryd.prog 14 [.agg [int t.facts, row 1 intI t.init, row 1 intI t.goal, row 4 eTOperator t.operators], .c (row 1 eLi64 goals), .c (row 1 eLi64 plans), .c (row 1 intI turns)] (.tup [.c (bool r.1), .agg [int r.2.code, int r.2.index]]) := by
  unfold PureOk
  refine FnOk.enter (rs := [.t 8, .cell 9 28 2]) Tryd.func14 rfl Tryd.ntmps14 Tryd.results14 rfl ⟨trivial, rv _ rfl, trivial⟩ (by kernel_rfl) rfl ?_
  unfold merging_Check at h
  refine AWP.seq ?_
  refine AWP.region ?_
  refine W.box rfl rfl rfl rfl rfl rfl ?_
  refine AOps.assign rfl rfl ?_
  refine W.alloc rfl rfl rfl rfl ?_
  refine AOps.nil ?_
  refine thn_normal ?_
  refine AWP.seq ?_
  refine AWP.seq ?_
  obtain ⟨a21, ha21, h⟩ := bind_some h
  refine AWP.region ?_
  refine W.loadAgg rfl rfl rfl rfl rfl rfl rfl ?_
  refine AOps.move rfl rfl ?_
  refine AOps.move rfl rfl ?_
  refine AOps.callR rfl rfl rfl rfl (merging_check_ok ha21) rfl ?_
  refine W.alloc rfl rfl rfl rfl ?_
  refine W.storeAgg rfl rfl rfl rfl rfl rfl rfl ?_
  refine AOps.nil ?_
  refine thn_normal ?_
  refine AWP.seq ?_
  refine AWP.region ?_
  refine W.loadAgg rfl rfl rfl rfl rfl rfl rfl ?_
  refine W.build rfl rfl rfl rfl ?_
  refine AOps.neqP rfl rfl rfl rfl rfl rfl rfl ?_
  refine AOps.nil ?_
  refine thn_normal ?_
  refine AWP.iteB rfl h (fun hc5 h => ?_) (fun hc5 h => ?_)
  · refine AWP.seq ?_
    refine AWP.drawEI [2] mixed rfl rfl rfl ?_
    apply DrawSeqE.consN; exact rfl; exact rfl; intro E
    refine W.loadAgg rfl rfl rfl rfl rfl rfl rfl ?_
    exact AOps.nil ⟨rfl, rfl⟩
    exact rfl
    apply DrawSeqE.consN; exact rfl; exact rfl; intro E
    refine AOps.assign rfl rfl ?_
    exact AOps.nil ⟨rfl, rfl⟩
    exact rfl
    apply DrawSeqE.consE (v := .undef); exact rfl; exact rfl; intro E
    refine W.storeAgg rfl rfl rfl rfl rfl rfl rfl ?_
    exact AOps.nil ⟨rfl, rfl⟩
    exact rfl
    exact rfl
    refine DrawSeqE.done rfl ?_ ?_
    · apply RestI.cons; exact rfl; exact rfl
      first | refine RestK.skip rfl ?_ | (apply RestK.go; exact rfl; exact rfl; intro E; (refine W.loadAgg rfl rfl rfl rfl rfl rfl rfl ?_); exact AOps.nil ⟨rfl, rfl⟩)
      first | refine RestK.skip rfl ?_ | (apply RestK.go; exact rfl; exact rfl; intro E; (refine W.loadAgg rfl rfl rfl rfl rfl rfl rfl ?_); exact AOps.nil ⟨rfl, rfl⟩)
      exact RestK.nil
      apply RestI.cons; exact rfl; exact rfl
      first | refine RestK.skip rfl ?_ | (apply RestK.go; exact rfl; exact rfl; intro E; (refine AOps.assign rfl rfl ?_); exact AOps.nil ⟨rfl, rfl⟩)
      first | refine RestK.skip rfl ?_ | (apply RestK.go; exact rfl; exact rfl; intro E; (refine AOps.assign rfl rfl ?_); exact AOps.nil ⟨rfl, rfl⟩)
      exact RestK.nil
      refine RestI.skip rfl ?_
      exact RestI.nil
    dsimp only [envEnd]
    refine thn_normal ?_
    refine AWP.ret ?_
    refine thn_ret ?_
    have ej := Option.some.inj h
    subst ej
    exact Done.ret rfl rfl
  · refine AWP.skip ?_
    refine thn_normal ?_
    refine AWP.seq ?_
    refine AWP.seq ?_
    refine AWP.region ?_
    refine AOps.move rfl rfl ?_
    refine S.len rfl rfl (fun hl27 => ?_)
    refine AOps.gtr rfl rfl rfl ?_
    refine AOps.nil ?_
    refine thn_normal ?_
    refine AWP.ite rfl h (fun hc6 h => ?_) (fun hc6 h => ?_)
    · refine AWP.seq ?_
      refine AWP.region ?_
      refine W.build rfl rfl rfl rfl ?_
      refine AOps.assign rfl rfl ?_
      refine W.storeAgg rfl rfl rfl rfl rfl rfl rfl ?_
      refine AOps.nil ?_
      refine thn_normal ?_
      refine AWP.ret ?_
      refine thn_ret ?_
      have ej := Option.some.inj h
      subst ej
      exact Done.ret rfl rfl
    · refine AWP.skip ?_
      refine thn_normal ?_
      refine AWP.seq ?_
      refine AWP.seq ?_
      refine AWP.region ?_
      refine AOps.move rfl rfl ?_
      refine S.len rfl rfl (fun hl31 => ?_)
      refine AOps.move rfl rfl ?_
      refine AOps.nil ?_
      refine thn_normal ?_
      refine AWP.block ?_
      obtain ⟨oo, ho1, h⟩ := bind_some h
      refine AWP.rngS ho1 (fun t7 _ => ⟨[(1, .c (row 1 eLi64 goals)), (2, .c (row 1 eLi64 plans)), (3, .c (row 1 intI turns)), (4, .c (.ptr 0 0 0)), (9, .c (.ptr 1 0 0)), (30, .c (row 1 intI turns)), (31, .c (int (turns.length : Int))), (32, .c (int t7))], [.one (.cells 4 [[int t.facts, row 1 intI t.init, row 1 intI t.goal, row 4 eTOperator t.operators]]), .one (.cells 2 [[int 0, int 0]])]⟩) (fun o e st => match o with | .inl _ => e = .exit 0 ∧ Sub [] st ⟨[(1, .c (row 1 eLi64 goals)), (2, .c (row 1 eLi64 plans)), (3, .c (row 1 intI turns)), (4, .c (.ptr 0 0 0)), (9, .c (.ptr 1 0 0))], [.one (.cells 4 [[int t.facts, row 1 intI t.init, row 1 intI t.goal, row 4 eTOperator t.operators]]), .one (.cells 2 [[int 0, int 0]])]⟩ | .inr x => e = .ret ∧ Done [.t 8, .cell 9 28 2] (fun t _ => t = .tup [.c (bool x.1), .agg [int x.2.code, int x.2.index]]) .ret st) ?_ ?_ ?_ ?_
      · try dsimp only
        exact Sub.cut ⟨rfl, rfl, rfl, rfl, rfl, rfl, rfl, rfl, trivial⟩ rfl ⟨.one rfl, .one rfl, trivial⟩ rfl
      · intro t7 s hlot7 hltt7 _
        try dsimp only
        refine AWP.seq ?_
        refine AWP.region ?_
        refine AOps.lss rfl rfl rfl ?_
        refine AOps.nil ?_
        refine thn_normal ?_
        refine AWP.seq ?_
        refine AWP.condNP rfl hltt7 ?_
        refine AWP.exit ?_
        refine thn_exit ?_
        refine thn_exit ⟨rfl, ?_⟩
        exact Sub.env ⟨rfl, rfl, rfl, rfl, rfl, trivial⟩
      · intro t7 s o hlot7 hltt7 h
        unfold merging_Check_l1 at h
        try dsimp only at h ⊢
        refine AWP.seq ?_
        refine AWP.region ?_
        refine AOps.lss rfl rfl rfl ?_
        refine AOps.nil ?_
        refine thn_normal ?_
        refine AWP.seq ?_
        refine AWP.condP rfl hltt7 ?_
        refine AWP.skip ?_
        refine thn_normal ?_
        refine AWP.seq ?_
        refine AWP.block ?_
        refine AWP.seq ?_
        obtain ⟨a34, ha34, h⟩ := bind_some h
        refine AWP.region ?_
        refine S.idx ha34 rfl rfl rfl rfl ?_
        refine AOps.loadI rfl rfl rfl rfl ?_
        refine AOps.assign rfl rfl ?_
        refine AOps.nil ?_
        refine thn_normal ?_
        refine AWP.seqJ (⟨[(1, .c (row 1 eLi64 goals)), (2, .c (row 1 eLi64 plans)), (3, .c (row 1 intI turns)), (4, .c (.ptr 0 0 0)), (9, .c (.ptr 1 0 0)), (30, .c (row 1 intI turns)), (31, .c (int (turns.length : Int))), (32, .c (int t7)), (43, .c (bool ((decide (a34 < 0)) || (decide ((plans.length : Int) ≤ a34)))))], [.one (.cells 4 [[int t.facts, row 1 intI t.init, row 1 intI t.goal, row 4 eTOperator t.operators]]), .one (.cells 2 [[int 0, int 0]])]⟩) ?_ ?_
        · rcases Bool.eq_false_or_eq_true (decide (a34 < 0)) with hb1 | hb1
          · refine AWP.region ?_
            refine AOps.move rfl rfl ?_
            refine AOps.lss rfl rfl rfl ?_
            refine AOps.move rfl rfl ?_
            refine AOps.guardF rfl rfl rfl hb1 ?_
            refine AOps.guardF rfl rfl rfl hb1 ?_
            refine AOps.guardF rfl rfl rfl hb1 ?_
            refine AOps.guardF rfl rfl rfl hb1 ?_
            refine AOps.pickT rfl hb1 rfl rfl ?_
            refine AOps.nil ?_
            refine thn_normal ?_
            simp only [and_t hb1, or_t hb1, Bool.false_or, Bool.true_or, Bool.false_and, Bool.true_and]
            exact Sub.env ⟨rfl, rfl, rfl, rfl, rfl, rfl, rfl, rfl, rfl, trivial⟩
          · refine AWP.region ?_
            refine AOps.move rfl rfl ?_
            refine AOps.lss rfl rfl rfl ?_
            refine AOps.move rfl rfl ?_
            refine AOps.guardT rfl rfl rfl hb1 ?_; refine AOps.move rfl rfl ?_
            refine AOps.guardT rfl rfl rfl hb1 ?_; refine AOps.move rfl rfl ?_
            refine AOps.guardT rfl rfl rfl hb1 ?_; refine S.len rfl rfl (fun hl41 => ?_)
            refine AOps.guardT rfl rfl rfl hb1 ?_; refine AOps.geq rfl rfl rfl ?_
            refine AOps.pickF rfl hb1 rfl rfl ?_
            refine AOps.nil ?_
            refine thn_normal ?_
            simp only [and_f hb1, or_f hb1, Bool.false_or, Bool.true_or, Bool.false_and, Bool.true_and]
            exact Sub.env ⟨rfl, rfl, rfl, rfl, rfl, rfl, rfl, rfl, rfl, trivial⟩
        · refine AWP.iteB rfl h (fun hc8 h => ?_) (fun hc8 h => ?_)
          · refine AWP.seq ?_
            refine AWP.region ?_
            refine W.build rfl rfl rfl rfl ?_
            refine AOps.assign rfl rfl ?_
            refine W.storeAgg rfl rfl rfl rfl rfl rfl rfl ?_
            refine AOps.nil ?_
            refine thn_normal ?_
            refine AWP.ret ?_
            refine inB_ret ?_
            refine thn_ret ?_
            have ej := Option.some.inj h
            subst ej
            refine thn_ret ⟨_, rfl, rfl, ?_⟩
            exact Done.ret rfl rfl
          · refine AWP.skip ?_
            refine inB_normal ?_
            refine thn_normal ?_
            refine AWP.region ?_
            refine AOps.add rfl rfl rfl (by omega) ?_
            refine AOps.move rfl rfl ?_
            refine AOps.nil ?_
            have ej := Option.some.inj h
            subst ej
            refine thn_normal ⟨_, rfl, ?_⟩
            exact Sub.env ⟨rfl, rfl, rfl, rfl, rfl, rfl, rfl, rfl, trivial⟩
      · intro e s hq
        rcases oo with u | x
        · try dsimp only at h hq
          obtain ⟨rfl, hs⟩ := hq
          refine ⟨_, hs, ?_⟩
          refine inB_exit ?_
          refine thn_normal ?_
          refine AWP.seq ?_
          obtain ⟨a48, ha48, h⟩ := bind_some h
          refine AWP.region ?_
          refine AOps.move rfl rfl ?_
          refine S.len rfl rfl (fun hl47 => ?_)
          refine S.make (f := intI) ha48 (.val .nil) rfl rfl rfl rfl rfl rfl ?_
          refine AOps.assign rfl rfl ?_
          refine AOps.nil ?_
          refine thn_normal ?_
          refine AWP.seq ?_
          refine AWP.region ?_
          refine W.fieldAddr rfl rfl rfl rfl ?_
          refine AOps.load rfl rfl rfl rfl rfl rfl ?_
          refine AOps.assign rfl rfl ?_
          refine AOps.nil ?_
          refine thn_normal ?_
          refine AWP.seq ?_
          refine AWP.seq ?_
          refine AWP.region ?_
          refine AOps.move rfl rfl ?_
          refine S.len rfl rfl (fun hl52 => ?_)
          refine AOps.move rfl rfl ?_
          refine AOps.nil ?_
          refine thn_normal ?_
          refine AWP.block ?_
          obtain ⟨oo, ho2, h⟩ := bind_some h
          refine AWP.rngS ho2 (fun t11 (c9, sv10) => ⟨[(1, .c (row 1 eLi64 goals)), (2, .c (row 1 eLi64 plans)), (4, .c (.ptr 0 0 0)), (9, .c (.ptr 1 0 0)), (13, .c (.own 2 0 c9.length)), (14, .c (row 1 intI sv10)), (51, .c (row 1 intI turns)), (52, .c (int (turns.length : Int))), (53, .c (int t11))], [.one (.cells 4 [[int t.facts, row 1 intI t.init, row 1 intI t.goal, row 4 eTOperator t.operators]]), .one (.cells 2 [[int 0, int 0]]), .one (vec 1 intI c9)]⟩) (fun o e st => match o with | .inl (c9, sv10) => e = .exit 2 ∧ Sub [] st ⟨[(1, .c (row 1 eLi64 goals)), (2, .c (row 1 eLi64 plans)), (9, .c (.ptr 1 0 0)), (13, .c (.own 2 0 c9.length)), (14, .c (row 1 intI sv10))], [.one (.cells 4 [[int t.facts, row 1 intI t.init, row 1 intI t.goal, row 4 eTOperator t.operators]]), .one (.cells 2 [[int 0, int 0]]), .one (vec 1 intI c9)]⟩ | .inr x => e = .ret ∧ Done [.t 8, .cell 9 28 2] (fun t _ => t = .tup [.c (bool x.1), .agg [int x.2.code, int x.2.index]]) .ret st) ?_ ?_ ?_ ?_
          · try dsimp only
            exact Sub.env ⟨rfl, rfl, rfl, rfl, rfl, rfl, rfl, rfl, rfl, trivial⟩
          · intro t11 s hlot11 hltt11 _
            obtain ⟨c9, sv10⟩ := s
            try dsimp only
            refine AWP.seq ?_
            refine AWP.region ?_
            refine AOps.lss rfl rfl rfl ?_
            refine AOps.nil ?_
            refine thn_normal ?_
            refine AWP.seq ?_
            refine AWP.condNP rfl hltt11 ?_
            refine AWP.exit ?_
            refine thn_exit ?_
            refine thn_exit ⟨rfl, ?_⟩
            exact Sub.env ⟨rfl, rfl, rfl, rfl, rfl, trivial⟩
          · intro t11 s o hlot11 hltt11 h
            obtain ⟨c9, sv10⟩ := s
            unfold merging_Check_l2 at h
            try dsimp only at h ⊢
            refine AWP.seq ?_
            refine AWP.region ?_
            refine AOps.lss rfl rfl rfl ?_
            refine AOps.nil ?_
            refine thn_normal ?_
            refine AWP.seq ?_
            refine AWP.condP rfl hltt11 ?_
            refine AWP.skip ?_
            refine thn_normal ?_
            refine AWP.seq ?_
            refine AWP.block ?_
            refine AWP.seq ?_
            obtain ⟨a55, ha55, h⟩ := bind_some h
            refine AWP.region ?_
            refine S.idx ha55 rfl rfl rfl rfl ?_
            refine AOps.loadI rfl rfl rfl rfl ?_
            refine AOps.assign rfl rfl ?_
            refine AOps.nil ?_
            refine thn_normal ?_
            refine AWP.seq ?_
            obtain ⟨t12, hx13, h⟩ := bind_some h
            refine AWP.seqJ (⟨[(1, .c (row 1 eLi64 goals)), (2, .c (row 1 eLi64 plans)), (4, .c (.ptr 0 0 0)), (9, .c (.ptr 1 0 0)), (13, .c (.own 2 0 c9.length)), (14, .c (row 1 intI sv10)), (16, .c (int a55)), (51, .c (row 1 intI turns)), (52, .c (int (turns.length : Int))), (53, .c (int t11)), (82, .c (bool t12))], [.one (.cells 4 [[int t.facts, row 1 intI t.init, row 1 intI t.goal, row 4 eTOperator t.operators]]), .one (.cells 2 [[int 0, int 0]]), .one (vec 1 intI c9)]⟩) ?_ ?_
            · obtain ⟨a59, ha59, hx13⟩ := bind_some hx13
              obtain ⟨a63, ha63, hx13⟩ := bind_some hx13
              rcases Bool.eq_false_or_eq_true (decide (a59 = (a63.length : Int))) with hb14 | hb14
              · replace hx13 := iteDT hb14 hx13
                refine AWP.drawI mixed rfl ?_
                apply DrawSeq.consF; exact rfl; intro E
                refine AOps.move rfl rfl ?_
                exact AOps.nil ⟨rfl, rfl⟩
                exact rfl
                apply DrawSeq.consF; exact rfl; intro E
                refine AOps.move rfl rfl ?_
                exact AOps.nil ⟨rfl, rfl⟩
                exact rfl
                apply DrawSeq.consF; exact rfl; intro E
                refine S.idxO ha59 rfl rfl rfl rfl rfl ?_
                exact AOps.nil ⟨rfl, rfl⟩
                exact rfl
                apply DrawSeq.consF; exact rfl; intro E
                refine S.loadO ha59 rfl rfl rfl rfl rfl ?_
                exact AOps.nil ⟨rfl, rfl⟩
                exact rfl
                apply DrawSeq.consF; exact rfl; intro E
                refine AOps.move rfl rfl ?_
                exact AOps.nil ⟨rfl, rfl⟩
                exact rfl
                apply DrawSeq.consF; exact rfl; intro E
                refine AOps.move rfl rfl ?_
                exact AOps.nil ⟨rfl, rfl⟩
                exact rfl
                apply DrawSeq.consF; exact rfl; intro E
                refine S.idx ha63 rfl rfl rfl rfl ?_
                exact AOps.nil ⟨rfl, rfl⟩
                exact rfl
                apply DrawSeq.consF; exact rfl; intro E
                refine AOps.loadI rfl rfl rfl rfl ?_
                exact AOps.nil ⟨rfl, rfl⟩
                exact rfl
                apply DrawSeq.consF; exact rfl; intro E
                refine S.len rfl rfl (fun hl65 => ?_)
                exact AOps.nil ⟨rfl, rfl⟩
                exact rfl
                apply DrawSeq.consF; exact rfl; intro E
                refine AOps.eql rfl rfl rfl ?_
                exact AOps.nil ⟨rfl, rfl⟩
                exact rfl
                apply DrawSeq.consF; exact rfl; intro E
                refine AOps.move rfl rfl ?_
                exact AOps.nil ⟨rfl, rfl⟩
                exact rfl
                apply DrawSeq.consF; exact rfl; intro E
                refine AOps.guardF rfl rfl rfl hb14 ?_
                exact AOps.nil ⟨rfl, rfl⟩
                exact rfl
                apply DrawSeq.consF; exact rfl; intro E
                refine AOps.guardF rfl rfl rfl hb14 ?_
                exact AOps.nil ⟨rfl, rfl⟩
                exact rfl
                apply DrawSeq.consF; exact rfl; intro E
                refine AOps.guardF rfl rfl rfl hb14 ?_
                exact AOps.nil ⟨rfl, rfl⟩
                exact rfl
                apply DrawSeq.consF; exact rfl; intro E
                refine AOps.guardF rfl rfl rfl hb14 ?_
                exact AOps.nil ⟨rfl, rfl⟩
                exact rfl
                apply DrawSeq.consF; exact rfl; intro E
                refine AOps.guardF rfl rfl rfl hb14 ?_
                exact AOps.nil ⟨rfl, rfl⟩
                exact rfl
                apply DrawSeq.consF; exact rfl; intro E
                refine AOps.guardF rfl rfl rfl hb14 ?_
                exact AOps.nil ⟨rfl, rfl⟩
                exact rfl
                apply DrawSeq.consF; exact rfl; intro E
                refine AOps.guardF rfl rfl rfl hb14 ?_
                exact AOps.nil ⟨rfl, rfl⟩
                exact rfl
                apply DrawSeq.consF; exact rfl; intro E
                refine AOps.guardF rfl rfl rfl hb14 ?_
                exact AOps.nil ⟨rfl, rfl⟩
                exact rfl
                apply DrawSeq.consF; exact rfl; intro E
                refine AOps.guardF rfl rfl rfl hb14 ?_
                exact AOps.nil ⟨rfl, rfl⟩
                exact rfl
                apply DrawSeq.consF; exact rfl; intro E
                refine AOps.guardF rfl rfl rfl hb14 ?_
                exact AOps.nil ⟨rfl, rfl⟩
                exact rfl
                apply DrawSeq.consF; exact rfl; intro E
                refine AOps.guardF rfl rfl rfl hb14 ?_
                exact AOps.nil ⟨rfl, rfl⟩
                exact rfl
                apply DrawSeq.consF; exact rfl; intro E
                refine AOps.guardF rfl rfl rfl hb14 ?_
                exact AOps.nil ⟨rfl, rfl⟩
                exact rfl
                apply DrawSeq.consF; exact rfl; intro E
                refine AOps.guardF rfl rfl rfl hb14 ?_
                exact AOps.nil ⟨rfl, rfl⟩
                exact rfl
                apply DrawSeq.consF; exact rfl; intro E
                refine AOps.guardF rfl rfl rfl hb14 ?_
                exact AOps.nil ⟨rfl, rfl⟩
                exact rfl
                apply DrawSeq.consF; exact rfl; intro E
                refine AOps.pickT rfl hb14 rfl rfl ?_
                exact AOps.nil ⟨rfl, rfl⟩
                exact rfl
                refine DrawSeq.done ?_
                dsimp only [envEnd]
                have ej := Option.some.inj hx13
                subst ej
                refine thn_normal ?_
                exact Sub.env ⟨rfl, rfl, rfl, rfl, rfl, rfl, rfl, rfl, rfl, rfl, rfl, trivial⟩
              · replace hx13 := iteDF hb14 hx13
                obtain ⟨a72, ha72, hx13⟩ := bind_some hx13
                obtain ⟨a76, ha76, hx13⟩ := bind_some hx13
                obtain ⟨a78, ha78, hx13⟩ := bind_some hx13
                obtain ⟨a80, ha80, hx13⟩ := bind_some hx13
                refine AWP.drawI mixed rfl ?_
                apply DrawSeq.consF; exact rfl; intro E
                refine AOps.move rfl rfl ?_
                exact AOps.nil ⟨rfl, rfl⟩
                exact rfl
                apply DrawSeq.consF; exact rfl; intro E
                refine AOps.move rfl rfl ?_
                exact AOps.nil ⟨rfl, rfl⟩
                exact rfl
                apply DrawSeq.consF; exact rfl; intro E
                refine S.idxO ha59 rfl rfl rfl rfl rfl ?_
                exact AOps.nil ⟨rfl, rfl⟩
                exact rfl
                apply DrawSeq.consF; exact rfl; intro E
                refine S.loadO ha59 rfl rfl rfl rfl rfl ?_
                exact AOps.nil ⟨rfl, rfl⟩
                exact rfl
                apply DrawSeq.consF; exact rfl; intro E
                refine AOps.move rfl rfl ?_
                exact AOps.nil ⟨rfl, rfl⟩
                exact rfl
                apply DrawSeq.consF; exact rfl; intro E
                refine AOps.move rfl rfl ?_
                exact AOps.nil ⟨rfl, rfl⟩
                exact rfl
                apply DrawSeq.consF; exact rfl; intro E
                refine S.idx ha63 rfl rfl rfl rfl ?_
                exact AOps.nil ⟨rfl, rfl⟩
                exact rfl
                apply DrawSeq.consF; exact rfl; intro E
                refine AOps.loadI rfl rfl rfl rfl ?_
                exact AOps.nil ⟨rfl, rfl⟩
                exact rfl
                apply DrawSeq.consF; exact rfl; intro E
                refine S.len rfl rfl (fun hl65 => ?_)
                exact AOps.nil ⟨rfl, rfl⟩
                exact rfl
                apply DrawSeq.consF; exact rfl; intro E
                refine AOps.eql rfl rfl rfl ?_
                exact AOps.nil ⟨rfl, rfl⟩
                exact rfl
                apply DrawSeq.consF; exact rfl; intro E
                refine AOps.move rfl rfl ?_
                exact AOps.nil ⟨rfl, rfl⟩
                exact rfl
                apply DrawSeq.consF; exact rfl; intro E
                refine AOps.guardT rfl rfl rfl hb14 ?_; refine W.loadAgg rfl rfl rfl rfl rfl rfl rfl ?_
                exact AOps.nil ⟨rfl, rfl⟩
                exact rfl
                apply DrawSeq.consF; exact rfl; intro E
                refine AOps.guardT rfl rfl rfl hb14 ?_; refine AOps.move rfl rfl ?_
                exact AOps.nil ⟨rfl, rfl⟩
                exact rfl
                apply DrawSeq.consF; exact rfl; intro E
                refine AOps.guardT rfl rfl rfl hb14 ?_; refine AOps.move rfl rfl ?_
                exact AOps.nil ⟨rfl, rfl⟩
                exact rfl
                apply DrawSeq.consF; exact rfl; intro E
                refine AOps.guardT rfl rfl rfl hb14 ?_; refine AOps.move rfl rfl ?_
                exact AOps.nil ⟨rfl, rfl⟩
                exact rfl
                apply DrawSeq.consF; exact rfl; intro E
                refine AOps.guardT rfl rfl rfl hb14 ?_; refine S.idx ha72 rfl rfl rfl rfl ?_
                exact AOps.nil ⟨rfl, rfl⟩
                exact rfl
                apply DrawSeq.consF; exact rfl; intro E
                refine AOps.guardT rfl rfl rfl hb14 ?_; refine AOps.loadI rfl rfl rfl rfl ?_
                exact AOps.nil ⟨rfl, rfl⟩
                exact rfl
                apply DrawSeq.consF; exact rfl; intro E
                refine AOps.guardT rfl rfl rfl hb14 ?_; refine AOps.move rfl rfl ?_
                exact AOps.nil ⟨rfl, rfl⟩
                exact rfl
                apply DrawSeq.consF; exact rfl; intro E
                refine AOps.guardT rfl rfl rfl hb14 ?_; refine AOps.move rfl rfl ?_
                exact AOps.nil ⟨rfl, rfl⟩
                exact rfl
                apply DrawSeq.consF; exact rfl; intro E
                refine AOps.guardT rfl rfl rfl hb14 ?_; refine S.idxO ha76 rfl rfl rfl rfl rfl ?_
                exact AOps.nil ⟨rfl, rfl⟩
                exact rfl
                apply DrawSeq.consF; exact rfl; intro E
                refine AOps.guardT rfl rfl rfl hb14 ?_; refine S.loadO ha76 rfl rfl rfl rfl rfl ?_
                exact AOps.nil ⟨rfl, rfl⟩
                exact rfl
                apply DrawSeq.consF; exact rfl; intro E
                refine AOps.guardT rfl rfl rfl hb14 ?_; refine S.idx ha78 rfl rfl rfl rfl ?_
                exact AOps.nil ⟨rfl, rfl⟩
                exact rfl
                apply DrawSeq.consF; exact rfl; intro E
                refine AOps.guardT rfl rfl rfl hb14 ?_; refine AOps.loadI rfl rfl rfl rfl ?_
                exact AOps.nil ⟨rfl, rfl⟩
                exact rfl
                apply DrawSeq.consF; exact rfl; intro E
                refine AOps.guardT rfl rfl rfl hb14 ?_; refine AOps.callR rfl rfl rfl rfl (strips_Can_ok ha80) rfl ?_
                exact AOps.nil ⟨rfl, rfl⟩
                exact rfl
                apply DrawSeq.consF; exact rfl; intro E
                refine AOps.guardT rfl rfl rfl hb14 ?_; refine AOps.not rfl rfl ?_
                exact AOps.nil ⟨rfl, rfl⟩
                exact rfl
                apply DrawSeq.consF; exact rfl; intro E
                refine AOps.pickF rfl hb14 rfl rfl ?_
                exact AOps.nil ⟨rfl, rfl⟩
                exact rfl
                refine DrawSeq.done ?_
                dsimp only [envEnd]
                have ej := Option.some.inj hx13
                subst ej
                refine thn_normal ?_
                exact Sub.env ⟨rfl, rfl, rfl, rfl, rfl, rfl, rfl, rfl, rfl, rfl, rfl, trivial⟩
            · refine AWP.iteB rfl h (fun hc15 h => ?_) (fun hc15 h => ?_)
              · refine AWP.seq ?_
                refine AWP.region ?_
                refine W.build rfl rfl rfl rfl ?_
                refine AOps.assign rfl rfl ?_
                refine W.storeAgg rfl rfl rfl rfl rfl rfl rfl ?_
                refine AOps.nil ?_
                refine thn_normal ?_
                refine AWP.ret ?_
                refine thn_ret ?_
                refine inB_ret ?_
                refine thn_ret ?_
                have ej := Option.some.inj h
                subst ej
                refine thn_ret ⟨_, rfl, rfl, ?_⟩
                exact Done.ret rfl rfl
              · refine AWP.skip ?_
                refine thn_normal ?_
                refine AWP.seq ?_
                obtain ⟨a88, ha88, h⟩ := bind_some h
                obtain ⟨a92, ha92, h⟩ := bind_some h
                obtain ⟨a94, ha94, h⟩ := bind_some h
                obtain ⟨a96, ha96, h⟩ := bind_some h
                refine AWP.drawEI [12] mixed rfl rfl rfl ?_
                apply DrawSeqE.consN; exact rfl; exact rfl; intro E
                refine W.loadAgg rfl rfl rfl rfl rfl rfl rfl ?_
                exact AOps.nil ⟨rfl, rfl⟩
                exact rfl
                apply DrawSeqE.consN; exact rfl; exact rfl; intro E
                refine AOps.move rfl rfl ?_
                exact AOps.nil ⟨rfl, rfl⟩
                exact rfl
                apply DrawSeqE.consN; exact rfl; exact rfl; intro E
                refine AOps.move rfl rfl ?_
                exact AOps.nil ⟨rfl, rfl⟩
                exact rfl
                apply DrawSeqE.consN; exact rfl; exact rfl; intro E
                refine AOps.move rfl rfl ?_
                exact AOps.nil ⟨rfl, rfl⟩
                exact rfl
                apply DrawSeqE.consN; exact rfl; exact rfl; intro E
                refine S.idx ha88 rfl rfl rfl rfl ?_
                exact AOps.nil ⟨rfl, rfl⟩
                exact rfl
                apply DrawSeqE.consN; exact rfl; exact rfl; intro E
                refine AOps.loadI rfl rfl rfl rfl ?_
                exact AOps.nil ⟨rfl, rfl⟩
                exact rfl
                apply DrawSeqE.consN; exact rfl; exact rfl; intro E
                refine AOps.move rfl rfl ?_
                exact AOps.nil ⟨rfl, rfl⟩
                exact rfl
                apply DrawSeqE.consN; exact rfl; exact rfl; intro E
                refine AOps.move rfl rfl ?_
                exact AOps.nil ⟨rfl, rfl⟩
                exact rfl
                apply DrawSeqE.consN; exact rfl; exact rfl; intro E
                refine S.idxO ha92 rfl rfl rfl rfl rfl ?_
                exact AOps.nil ⟨rfl, rfl⟩
                exact rfl
                apply DrawSeqE.consN; exact rfl; exact rfl; intro E
                refine S.loadO ha92 rfl rfl rfl rfl rfl ?_
                exact AOps.nil ⟨rfl, rfl⟩
                exact rfl
                apply DrawSeqE.consN; exact rfl; exact rfl; intro E
                refine S.idx ha94 rfl rfl rfl rfl ?_
                exact AOps.nil ⟨rfl, rfl⟩
                exact rfl
                apply DrawSeqE.consN; exact rfl; exact rfl; intro E
                refine AOps.loadI rfl rfl rfl rfl ?_
                exact AOps.nil ⟨rfl, rfl⟩
                exact rfl
                apply DrawSeqE.consE; exact rfl; exact rfl; intro E
                refine S.fresh rfl rfl rfl rfl (strips_Next_ok ha96) rfl rfl ?_
                exact AOps.nil ⟨rfl, rfl⟩
                exact rfl
                exact rfl
                apply DrawSeqE.consN; exact rfl; exact rfl; intro E
                refine AOps.assign rfl rfl ?_
                exact AOps.nil ⟨rfl, rfl⟩
                exact rfl
                refine DrawSeqE.done rfl ?_ ?_
                · apply RestI.cons; exact rfl; exact rfl
                  first | refine RestK.skip rfl ?_ | (apply RestK.go; exact rfl; exact rfl; intro E; (refine W.loadAgg rfl rfl rfl rfl rfl rfl rfl ?_); exact AOps.nil ⟨rfl, rfl⟩)
                  first | refine RestK.skip rfl ?_ | (apply RestK.go; exact rfl; exact rfl; intro E; (refine W.loadAgg rfl rfl rfl rfl rfl rfl rfl ?_); exact AOps.nil ⟨rfl, rfl⟩)
                  exact RestK.nil
                  apply RestI.cons; exact rfl; exact rfl
                  first | refine RestK.skip rfl ?_ | (apply RestK.go; exact rfl; exact rfl; intro E; (refine AOps.move rfl rfl ?_); exact AOps.nil ⟨rfl, rfl⟩)
                  first | refine RestK.skip rfl ?_ | (apply RestK.go; exact rfl; exact rfl; intro E; (refine AOps.move rfl rfl ?_); exact AOps.nil ⟨rfl, rfl⟩)
                  exact RestK.nil
                  apply RestI.cons; exact rfl; exact rfl
                  first | refine RestK.skip rfl ?_ | (apply RestK.go; exact rfl; exact rfl; intro E; (refine AOps.move rfl rfl ?_); exact AOps.nil ⟨rfl, rfl⟩)
                  first | refine RestK.skip rfl ?_ | (apply RestK.go; exact rfl; exact rfl; intro E; (refine AOps.move rfl rfl ?_); exact AOps.nil ⟨rfl, rfl⟩)
                  exact RestK.nil
                  apply RestI.cons; exact rfl; exact rfl
                  first | refine RestK.skip rfl ?_ | (apply RestK.go; exact rfl; exact rfl; intro E; (refine AOps.move rfl rfl ?_); exact AOps.nil ⟨rfl, rfl⟩)
                  first | refine RestK.skip rfl ?_ | (apply RestK.go; exact rfl; exact rfl; intro E; (refine AOps.move rfl rfl ?_); exact AOps.nil ⟨rfl, rfl⟩)
                  exact RestK.nil
                  apply RestI.cons; exact rfl; exact rfl
                  first | refine RestK.skip rfl ?_ | (apply RestK.go; exact rfl; exact rfl; intro E; (refine S.idx ha88 rfl rfl rfl rfl ?_); exact AOps.nil ⟨rfl, rfl⟩)
                  first | refine RestK.skip rfl ?_ | (apply RestK.go; exact rfl; exact rfl; intro E; (refine S.idx ha88 rfl rfl rfl rfl ?_); exact AOps.nil ⟨rfl, rfl⟩)
                  exact RestK.nil
                  apply RestI.cons; exact rfl; exact rfl
                  first | refine RestK.skip rfl ?_ | (apply RestK.go; exact rfl; exact rfl; intro E; (refine AOps.loadI rfl rfl rfl rfl ?_); exact AOps.nil ⟨rfl, rfl⟩)
                  first | refine RestK.skip rfl ?_ | (apply RestK.go; exact rfl; exact rfl; intro E; (refine AOps.loadI rfl rfl rfl rfl ?_); exact AOps.nil ⟨rfl, rfl⟩)
                  exact RestK.nil
                  apply RestI.cons; exact rfl; exact rfl
                  first | refine RestK.skip rfl ?_ | (apply RestK.go; exact rfl; exact rfl; intro E; (refine AOps.move rfl rfl ?_); exact AOps.nil ⟨rfl, rfl⟩)
                  first | refine RestK.skip rfl ?_ | (apply RestK.go; exact rfl; exact rfl; intro E; (refine AOps.move rfl rfl ?_); exact AOps.nil ⟨rfl, rfl⟩)
                  exact RestK.nil
                  apply RestI.cons; exact rfl; exact rfl
                  first | refine RestK.skip rfl ?_ | (apply RestK.go; exact rfl; exact rfl; intro E; (refine AOps.move rfl rfl ?_); exact AOps.nil ⟨rfl, rfl⟩)
                  first | refine RestK.skip rfl ?_ | (apply RestK.go; exact rfl; exact rfl; intro E; (refine AOps.move rfl rfl ?_); exact AOps.nil ⟨rfl, rfl⟩)
                  exact RestK.nil
                  apply RestI.cons; exact rfl; exact rfl
                  first | refine RestK.skip rfl ?_ | (apply RestK.go; exact rfl; exact rfl; intro E; (refine S.idxO ha92 rfl rfl rfl rfl rfl ?_); exact AOps.nil ⟨rfl, rfl⟩)
                  first | refine RestK.skip rfl ?_ | (apply RestK.go; exact rfl; exact rfl; intro E; (refine S.idxO ha92 rfl rfl rfl rfl rfl ?_); exact AOps.nil ⟨rfl, rfl⟩)
                  exact RestK.nil
                  apply RestI.cons; exact rfl; exact rfl
                  first | refine RestK.skip rfl ?_ | (apply RestK.go; exact rfl; exact rfl; intro E; (refine S.loadO ha92 rfl rfl rfl rfl rfl ?_); exact AOps.nil ⟨rfl, rfl⟩)
                  first | refine RestK.skip rfl ?_ | (apply RestK.go; exact rfl; exact rfl; intro E; (refine S.loadO ha92 rfl rfl rfl rfl rfl ?_); exact AOps.nil ⟨rfl, rfl⟩)
                  exact RestK.nil
                  apply RestI.cons; exact rfl; exact rfl
                  first | refine RestK.skip rfl ?_ | (apply RestK.go; exact rfl; exact rfl; intro E; (refine S.idx ha94 rfl rfl rfl rfl ?_); exact AOps.nil ⟨rfl, rfl⟩)
                  first | refine RestK.skip rfl ?_ | (apply RestK.go; exact rfl; exact rfl; intro E; (refine S.idx ha94 rfl rfl rfl rfl ?_); exact AOps.nil ⟨rfl, rfl⟩)
                  exact RestK.nil
                  apply RestI.cons; exact rfl; exact rfl
                  first | refine RestK.skip rfl ?_ | (apply RestK.go; exact rfl; exact rfl; intro E; (refine AOps.loadI rfl rfl rfl rfl ?_); exact AOps.nil ⟨rfl, rfl⟩)
                  first | refine RestK.skip rfl ?_ | (apply RestK.go; exact rfl; exact rfl; intro E; (refine AOps.loadI rfl rfl rfl rfl ?_); exact AOps.nil ⟨rfl, rfl⟩)
                  exact RestK.nil
                  refine RestI.skip rfl ?_
                  apply RestI.cons; exact rfl; exact rfl
                  first | refine RestK.skip rfl ?_ | (apply RestK.go; exact rfl; exact rfl; intro E; (refine AOps.assign rfl rfl ?_); exact AOps.nil ⟨rfl, rfl⟩)
                  first | refine RestK.skip rfl ?_ | (apply RestK.go; exact rfl; exact rfl; intro E; (refine AOps.assign rfl rfl ?_); exact AOps.nil ⟨rfl, rfl⟩)
                  exact RestK.nil
                  exact RestI.nil
                dsimp only [envEnd]
                refine thn_normal ?_
                obtain ⟨a99, ha99, h⟩ := bind_some h
                obtain ⟨a102, ha102, h⟩ := bind_some h
                refine AWP.region ?_
                refine AOps.move rfl rfl ?_
                refine AOps.move rfl rfl ?_
                refine S.idxO ha99 rfl rfl rfl rfl rfl ?_
                refine S.loadO ha99 rfl rfl rfl rfl rfl ?_
                refine S.add rfl rfl rfl ?_
                refine S.idxO ha102 rfl rfl rfl rfl rfl ?_
                refine S.storeO1 (f := intI) (a' := w64 (a99 + 1)) (ix_lt ha102) (fun _ => ⟨_, rfl⟩) rfl rfl rfl rfl rfl ?_
                refine AOps.nil ?_
                refine inB_normal ?_
                refine thn_normal ?_
                refine AWP.region ?_
                refine AOps.add rfl rfl rfl (by omega) ?_
                refine AOps.move rfl rfl ?_
                refine AOps.nil ?_
                have ej := Option.some.inj h
                subst ej
                refine thn_normal ⟨_, rfl, ?_⟩
                exact (Sub.frzV (id := 3) (l := a96) (env2 := [(1, .c (row 1 eLi64 goals)), (2, .c (row 1 eLi64 plans)), (4, .c (.ptr 0 0 0)), (9, .c (.ptr 1 0 0)), (13, .c (.own 2 0 c9.length)), (14, .c (row 1 intI a96)), (51, .c (row 1 intI turns)), (52, .c (int (turns.length : Int))), (53, .c (int (t11 + 1)))]) (σ2 := [.one (.cells 4 [[int t.facts, row 1 intI t.init, row 1 intI t.goal, row 4 eTOperator t.operators]]), .one (.cells 2 [[int 0, int 0]]), .one (vec 1 intI (c9.set a55.toNat (w64 (a99 + 1)))), .dead]) rfl rfl (by exact ⟨⟨_, rfl, .inl ⟨rfl, rfl⟩⟩, ⟨_, rfl, .inl ⟨rfl, rfl⟩⟩, ⟨_, rfl, .inl ⟨rfl, rfl⟩⟩, ⟨_, rfl, .inl ⟨rfl, rfl⟩⟩, ⟨_, rfl, .inl ⟨rfl, rfl⟩⟩, ⟨_, rfl, .inr ⟨_, rfl, rfl, rfl⟩⟩, ⟨_, rfl, .inl ⟨rfl, rfl⟩⟩, ⟨_, rfl, .inl ⟨rfl, rfl⟩⟩, ⟨_, rfl, .inl ⟨rfl, rfl⟩⟩, trivial⟩) rfl (by exact ⟨⟨rfl, .inl ⟨rfl, rfl⟩, .inl ⟨rfl, rfl⟩, .inl ⟨rfl, rfl⟩, .inl ⟨rfl, rfl⟩, trivial⟩, ⟨rfl, .inl ⟨rfl, rfl⟩, .inl ⟨rfl, rfl⟩, trivial⟩, FrzB.vec, trivial, trivial⟩)).trans (Sub.cut ⟨rfl, rfl, rfl, rfl, (own_len (by first | rfl | simp only [List.length_set])), rfl, rfl, rfl, rfl, trivial⟩ rfl ⟨.one rfl, .one rfl, .vec, trivial⟩ rfl)
          · intro e s hq
            rcases oo with ⟨c9, sv10⟩ | x
            · try dsimp only at h hq
              obtain ⟨rfl, hs⟩ := hq
              refine ⟨_, hs, ?_⟩
              refine inB_exit ?_
              refine thn_normal ?_
              refine AWP.seq ?_
              refine AWP.seq ?_
              refine AWP.region ?_
              refine AOps.move rfl rfl ?_
              refine S.len rfl rfl (fun hl105 => ?_)
              refine AOps.move rfl rfl ?_
              refine AOps.nil ?_
              refine thn_normal ?_
              refine AWP.block ?_
              obtain ⟨oo, ho3, h⟩ := bind_some h
              refine AWP.rngS ho3 (fun t16 _ => ⟨[(1, .c (row 1 eLi64 goals)), (2, .c (row 1 eLi64 plans)), (9, .c (.ptr 1 0 0)), (13, .c (.own 2 0 c9.length)), (14, .c (row 1 intI sv10)), (105, .c (int (plans.length : Int))), (106, .c (int t16))], [.dead, .one (.cells 2 [[int 0, int 0]]), .one (vec 1 intI c9)]⟩) (fun o e st => match o with | .inl _ => e = .exit 4 ∧ Sub [] st ⟨[(1, .c (row 1 eLi64 goals)), (9, .c (.ptr 1 0 0)), (14, .c (row 1 intI sv10))], [.dead, .one (.cells 2 [[int 0, int 0]]), .one (vec 1 intI c9)]⟩ | .inr x => e = .ret ∧ Done [.t 8, .cell 9 28 2] (fun t _ => t = .tup [.c (bool x.1), .agg [int x.2.code, int x.2.index]]) .ret st) ?_ ?_ ?_ ?_
              · try dsimp only
                exact Sub.cut ⟨rfl, rfl, rfl, rfl, rfl, rfl, rfl, trivial⟩ rfl ⟨.dead, .one rfl, .vec, trivial⟩ rfl
              · intro t16 s hlot16 hltt16 _
                try dsimp only
                refine AWP.seq ?_
                refine AWP.region ?_
                refine AOps.lss rfl rfl rfl ?_
                refine AOps.nil ?_
                refine thn_normal ?_
                refine AWP.seq ?_
                refine AWP.condNP rfl hltt16 ?_
                refine AWP.exit ?_
                refine thn_exit ?_
                refine thn_exit ⟨rfl, ?_⟩
                exact Sub.env ⟨rfl, rfl, rfl, trivial⟩
              · intro t16 s o hlot16 hltt16 h
                unfold merging_Check_l3 at h
                try dsimp only at h ⊢
                refine AWP.seq ?_
                refine AWP.region ?_
                refine AOps.lss rfl rfl rfl ?_
                refine AOps.nil ?_
                refine thn_normal ?_
                refine AWP.seq ?_
                refine AWP.condP rfl hltt16 ?_
                refine AWP.skip ?_
                refine thn_normal ?_
                refine AWP.seq ?_
                refine AWP.block ?_
                refine AWP.seq ?_
                refine AWP.region ?_
                refine AOps.move rfl rfl ?_
                refine AOps.assign rfl rfl ?_
                refine AOps.nil ?_
                refine thn_normal ?_
                refine AWP.seq ?_
                obtain ⟨a111, ha111, h⟩ := bind_some h
                obtain ⟨a115, ha115, h⟩ := bind_some h
                refine AWP.drawI mixed rfl ?_
                apply DrawSeq.consF; exact rfl; intro E
                refine AOps.move rfl rfl ?_
                exact AOps.nil ⟨rfl, rfl⟩
                exact rfl
                apply DrawSeq.consF; exact rfl; intro E
                refine AOps.move rfl rfl ?_
                exact AOps.nil ⟨rfl, rfl⟩
                exact rfl
                apply DrawSeq.consF; exact rfl; intro E
                refine S.idxO ha111 rfl rfl rfl rfl rfl ?_
                exact AOps.nil ⟨rfl, rfl⟩
                exact rfl
                apply DrawSeq.consF; exact rfl; intro E
                refine S.loadO ha111 rfl rfl rfl rfl rfl ?_
                exact AOps.nil ⟨rfl, rfl⟩
                exact rfl
                apply DrawSeq.consF; exact rfl; intro E
                refine AOps.move rfl rfl ?_
                exact AOps.nil ⟨rfl, rfl⟩
                exact rfl
                apply DrawSeq.consF; exact rfl; intro E
                refine AOps.move rfl rfl ?_
                exact AOps.nil ⟨rfl, rfl⟩
                exact rfl
                apply DrawSeq.consF; exact rfl; intro E
                refine S.idx ha115 rfl rfl rfl rfl ?_
                exact AOps.nil ⟨rfl, rfl⟩
                exact rfl
                apply DrawSeq.consF; exact rfl; intro E
                refine AOps.loadI rfl rfl rfl rfl ?_
                exact AOps.nil ⟨rfl, rfl⟩
                exact rfl
                apply DrawSeq.consF; exact rfl; intro E
                refine S.len rfl rfl (fun hl117 => ?_)
                exact AOps.nil ⟨rfl, rfl⟩
                exact rfl
                apply DrawSeq.consF; exact rfl; intro E
                refine AOps.lss rfl rfl rfl ?_
                exact AOps.nil ⟨rfl, rfl⟩
                exact rfl
                refine DrawSeq.done ?_
                dsimp only [envEnd]
                refine thn_normal ?_
                refine AWP.ite rfl h (fun hc17 h => ?_) (fun hc17 h => ?_)
                · refine AWP.seq ?_
                  refine AWP.region ?_
                  refine W.build rfl rfl rfl rfl ?_
                  refine AOps.assign rfl rfl ?_
                  refine W.storeAgg rfl rfl rfl rfl rfl rfl rfl ?_
                  refine AOps.nil ?_
                  refine thn_normal ?_
                  refine AWP.ret ?_
                  refine inB_ret ?_
                  refine thn_ret ?_
                  have ej := Option.some.inj h
                  subst ej
                  refine thn_ret ⟨_, rfl, rfl, ?_⟩
                  exact Done.ret rfl rfl
                · refine AWP.skip ?_
                  refine inB_normal ?_
                  refine thn_normal ?_
                  refine AWP.region ?_
                  refine AOps.add rfl rfl rfl (by omega) ?_
                  refine AOps.move rfl rfl ?_
                  refine AOps.nil ?_
                  have ej := Option.some.inj h
                  subst ej
                  refine thn_normal ⟨_, rfl, ?_⟩
                  exact Sub.env ⟨rfl, rfl, rfl, rfl, rfl, rfl, rfl, trivial⟩
              · intro e s hq
                rcases oo with u | x
                · try dsimp only at h hq
                  obtain ⟨rfl, hs⟩ := hq
                  refine ⟨_, hs, ?_⟩
                  refine inB_exit ?_
                  refine thn_normal ?_
                  refine AWP.seq ?_
                  obtain ⟨a123, ha123, h⟩ := bind_some h
                  obtain ⟨a124, ha124, h⟩ := bind_some h
                  refine AWP.region ?_
                  refine AOps.move rfl rfl ?_
                  refine AOps.move rfl rfl ?_
                  refine S.fresh rfl rfl rfl rfl (merging_union_ok ha123) rfl rfl ?_
                  refine AOps.callL rfl rfl (.cons (.c .imm) (.cons (.c (.own rfl rfl)) .nil)) rfl (strips_Contains_ok ha124) rfl ?_
                  refine W.build rfl rfl rfl rfl ?_
                  refine AOps.assign rfl rfl ?_
                  refine W.storeAgg rfl rfl rfl rfl rfl rfl rfl ?_
                  refine AOps.nil ?_
                  refine thn_normal ?_
                  refine AWP.ret ?_
                  have ej := Option.some.inj h
                  subst ej
                  exact Done.ret rfl rfl
                · try dsimp only at h hq
                  obtain ⟨rfl, hs⟩ := hq
                  refine ⟨_, Sub.refl _ _, ?_⟩
                  refine inB_ret ?_
                  refine thn_ret ?_
                  have ej := Option.some.inj h
                  subst ej
                  exact hs
            · try dsimp only at h hq
              obtain ⟨rfl, hs⟩ := hq
              refine ⟨_, Sub.refl _ _, ?_⟩
              refine inB_ret ?_
              refine thn_ret ?_
              have ej := Option.some.inj h
              subst ej
              exact hs
        · try dsimp only at h hq
          obtain ⟨rfl, hs⟩ := hq
          refine ⟨_, Sub.refl _ _, ?_⟩
          refine inB_ret ?_
          refine thn_ret ?_
          have ej := Option.some.inj h
          subst ej
          exact hs
theorem equal_Numbers_ok {av : List Int} {bv : List Int} {r : Bool} (h : equal_Numbers av bv = some r) : PureOk Tryd.prog 13 [.c (row 1 intI av), .c (row 1 intI bv)] (.c (bool r)) := by
  unfold PureOk
  refine FnOk.enter (rs := [.t 4]) Tryd.func13 rfl Tryd.ntmps13 Tryd.results13 rfl ⟨trivial, trivial⟩ (by kernel_rfl) rfl ?_
  unfold equal_Numbers at h
  refine AWP.seq ?_
  refine AWP.region ?_
  refine AOps.assign rfl rfl ?_
  refine AOps.nil ?_
  refine thn_normal ?_
  refine AWP.seq ?_
  refine AWP.seq ?_
  refine AWP.region ?_
  refine AOps.move rfl rfl ?_
  refine S.len rfl rfl (fun hl7 => ?_)
  refine AOps.move rfl rfl ?_
  refine S.len rfl rfl (fun hl9 => ?_)
  refine AOps.neq rfl rfl rfl ?_
  refine AOps.nil ?_
  refine thn_normal ?_
  refine AWP.iteN rfl h (fun hc3 h => ?_) (fun hc3 h => ?_)
  · refine AWP.seq ?_
    refine AWP.region ?_
    refine AOps.assign rfl rfl ?_
    refine AOps.nil ?_
    refine thn_normal ?_
    refine AWP.ret ?_
    refine thn_ret ?_
    have ej := Option.some.inj h
    subst ej
    exact Done.ret rfl rfl
  · refine AWP.skip ?_
    refine thn_normal ?_
    refine AWP.seq ?_
    refine AWP.seq ?_
    refine AWP.region ?_
    refine AOps.assign rfl rfl ?_
    refine AOps.nil ?_
    refine thn_normal ?_
    refine AWP.block ?_
    obtain ⟨oo, ho1, h⟩ := bind_some h
    refine AWP.rngS ho1 (fun iv4 _ => ⟨[(0, .c (row 1 intI av)), (1, .c (row 1 intI bv)), (5, .c (int iv4))], []⟩) (fun o e st => match o with | .inl _ => e = .exit 0 ∧ Sub [] st ⟨[], []⟩ | .inr x => e = .ret ∧ Done [.t 4] (fun t _ => t = .c (bool x)) .ret st) ?_ ?_ ?_ ?_
    · try dsimp only
      exact Sub.env ⟨rfl, rfl, rfl, trivial⟩
    · intro iv4 s hloiv4 hltiv4 _
      try dsimp only
      refine AWP.seq ?_
      refine AWP.seq ?_
      refine AWP.region ?_
      refine AOps.move rfl rfl ?_
      refine AOps.move rfl rfl ?_
      refine S.len rfl rfl (fun hl13 => ?_)
      refine AOps.lss rfl rfl rfl ?_
      refine AOps.nil ?_
      refine thn_normal ?_
      refine AWP.condNP rfl hltiv4 ?_
      refine AWP.exit ?_
      refine thn_exit ?_
      refine thn_exit ⟨rfl, ?_⟩
      exact Sub.env trivial
    · intro iv4 s o hloiv4 hltiv4 h
      unfold equal_Numbers_l1 at h
      try dsimp only at h ⊢
      refine AWP.seq ?_
      refine AWP.seq ?_
      refine AWP.region ?_
      refine AOps.move rfl rfl ?_
      refine AOps.move rfl rfl ?_
      refine S.len rfl rfl (fun hl13 => ?_)
      refine AOps.lss rfl rfl rfl ?_
      refine AOps.nil ?_
      refine thn_normal ?_
      refine AWP.condP rfl hltiv4 ?_
      refine AWP.skip ?_
      refine thn_normal ?_
      refine AWP.seq ?_
      refine AWP.block ?_
      refine AWP.seq ?_
      obtain ⟨a19, ha19, h⟩ := bind_some h
      obtain ⟨a23, ha23, h⟩ := bind_some h
      refine AWP.drawI mixed rfl ?_
      apply DrawSeq.consF; exact rfl; intro E
      refine AOps.move rfl rfl ?_
      exact AOps.nil ⟨rfl, rfl⟩
      exact rfl
      apply DrawSeq.consF; exact rfl; intro E
      refine AOps.move rfl rfl ?_
      exact AOps.nil ⟨rfl, rfl⟩
      exact rfl
      apply DrawSeq.consF; exact rfl; intro E
      refine S.idx ha19 rfl rfl rfl rfl ?_
      exact AOps.nil ⟨rfl, rfl⟩
      exact rfl
      apply DrawSeq.consF; exact rfl; intro E
      refine AOps.loadI rfl rfl rfl rfl ?_
      exact AOps.nil ⟨rfl, rfl⟩
      exact rfl
      apply DrawSeq.consF; exact rfl; intro E
      refine AOps.move rfl rfl ?_
      exact AOps.nil ⟨rfl, rfl⟩
      exact rfl
      apply DrawSeq.consF; exact rfl; intro E
      refine AOps.move rfl rfl ?_
      exact AOps.nil ⟨rfl, rfl⟩
      exact rfl
      apply DrawSeq.consF; exact rfl; intro E
      refine S.idx ha23 rfl rfl rfl rfl ?_
      exact AOps.nil ⟨rfl, rfl⟩
      exact rfl
      apply DrawSeq.consF; exact rfl; intro E
      refine AOps.loadI rfl rfl rfl rfl ?_
      exact AOps.nil ⟨rfl, rfl⟩
      exact rfl
      apply DrawSeq.consF; exact rfl; intro E
      refine AOps.neq rfl rfl rfl ?_
      exact AOps.nil ⟨rfl, rfl⟩
      exact rfl
      refine DrawSeq.done ?_
      dsimp only [envEnd]
      refine thn_normal ?_
      refine AWP.iteN rfl h (fun hc5 h => ?_) (fun hc5 h => ?_)
      · refine AWP.seq ?_
        refine AWP.region ?_
        refine AOps.assign rfl rfl ?_
        refine AOps.nil ?_
        refine thn_normal ?_
        refine AWP.ret ?_
        refine inB_ret ?_
        refine thn_ret ?_
        have ej := Option.some.inj h
        subst ej
        refine thn_ret ⟨_, rfl, rfl, ?_⟩
        exact Done.ret rfl rfl
      · refine AWP.skip ?_
        refine inB_normal ?_
        refine thn_normal ?_
        refine AWP.region ?_
        refine AOps.move rfl rfl ?_
        refine AOps.add rfl rfl rfl (by omega) ?_
        refine AOps.assign rfl rfl ?_
        refine AOps.nil ?_
        have ej := Option.some.inj h
        subst ej
        refine thn_normal ⟨_, rfl, ?_⟩
        exact Sub.env ⟨rfl, rfl, rfl, trivial⟩
    · intro e s hq
      rcases oo with u | x
      · try dsimp only at h hq
        obtain ⟨rfl, hs⟩ := hq
        refine ⟨_, hs, ?_⟩
        refine inB_exit ?_
        refine thn_normal ?_
        refine AWP.seq ?_
        refine AWP.region ?_
        refine AOps.assign rfl rfl ?_
        refine AOps.nil ?_
        refine thn_normal ?_
        refine AWP.ret ?_
        have ej := Option.some.inj h
        subst ej
        exact Done.ret rfl rfl
      · try dsimp only at h hq
        obtain ⟨rfl, hs⟩ := hq
        refine ⟨_, Sub.refl _ _, ?_⟩
        refine inB_ret ?_
        refine thn_ret ?_
        have ej := Option.some.inj h
        subst ej
        exact hs
theorem law8_merged_ok {r : Bool} (h : law8_merged = some r) : PureOk Tryd.prog 10 [] (.c (bool r)) := by
  unfold PureOk
  refine FnOk.enter (rs := [.t 0]) Tryd.func10 rfl Tryd.ntmps10 Tryd.results10 rfl ⟨trivial, trivial⟩ (by kernel_rfl) rfl ?_
  unfold law8_merged at h
  refine AWP.seq ?_
  refine AWP.region ?_
  refine AOps.assign rfl rfl ?_
  refine AOps.nil ?_
  refine thn_normal ?_
  refine AWP.seq ?_
  obtain ⟨a7, ha7, h⟩ := bind_some h
  obtain ⟨a12, ha12, h⟩ := bind_some h
  refine AWP.region ?_
  refine AOps.callR rfl rfl rfl rfl (law8_step_ok ha7) rfl ?_
  refine S.lit (f := intI) (l := [1]) (ess := [[int 1]]) rfl rfl rfl rfl rfl rfl rfl ⟨⟨.inl rfl, trivial⟩, trivial⟩ rfl rfl rfl ?_
  refine AOps.frzV (id := 0) (l := [1]) (env2 := [(7, .agg [int a7.facts, row 1 intI a7.init, row 1 intI a7.goal, row 4 eTOperator a7.operators]), (8, .c (row 1 intI [1]))]) (σ2 := [.dead]) rfl rfl (by exact ⟨⟨_, rfl, ⟨.inl ⟨rfl, rfl⟩, .inl ⟨rfl, rfl⟩, .inl ⟨rfl, rfl⟩, .inl ⟨rfl, rfl⟩, trivial⟩⟩, ⟨_, rfl, .inr ⟨_, rfl, rfl, rfl⟩⟩, trivial⟩) rfl (by exact ⟨trivial, trivial⟩) ?_; refine S.lit (f := eLi64) (l := [[1]]) (ess := [[row 1 intI [1]]]) rfl rfl rfl rfl rfl rfl rfl ⟨⟨.inl rfl, trivial⟩, trivial⟩ rfl rfl rfl ?_
  refine S.lit (f := intI) (l := [1, 0]) (ess := [[int 1], [int 0]]) rfl rfl rfl rfl rfl rfl rfl ⟨⟨.inl rfl, trivial⟩, ⟨.inl rfl, trivial⟩, trivial⟩ rfl rfl rfl ?_
  refine AOps.frzV (id := 2) (l := [1, 0]) (env2 := [(7, .agg [int a7.facts, row 1 intI a7.init, row 1 intI a7.goal, row 4 eTOperator a7.operators]), (9, .c (.own 1 0 (([[1]]).length))), (10, .c (row 1 intI [1, 0]))]) (σ2 := [.dead, .one (vec 1 eLi64 ([[1]])), .dead]) rfl rfl (by exact ⟨⟨_, rfl, ⟨.inl ⟨rfl, rfl⟩, .inl ⟨rfl, rfl⟩, .inl ⟨rfl, rfl⟩, .inl ⟨rfl, rfl⟩, trivial⟩⟩, ⟨_, rfl, .inl ⟨rfl, rfl⟩⟩, ⟨_, rfl, .inr ⟨_, rfl, rfl, rfl⟩⟩, trivial⟩) rfl (by exact ⟨trivial, FrzB.vec, trivial, trivial⟩) ?_; refine S.lit (f := eLi64) (l := [[1, 0]]) (ess := [[row 1 intI [1, 0]]]) rfl rfl rfl rfl rfl rfl rfl ⟨⟨.inl rfl, trivial⟩, trivial⟩ rfl rfl rfl ?_
  refine AOps.frzV (id := 1) (l := [[1]]) (env2 := [(7, .agg [int a7.facts, row 1 intI a7.init, row 1 intI a7.goal, row 4 eTOperator a7.operators]), (9, .c (row 1 eLi64 ([[1]]))), (11, .c (.own 3 0 (([[1, 0]]).length)))]) (σ2 := [.dead, .dead, .dead, .one (vec 1 eLi64 ([[1, 0]]))]) rfl rfl (by exact ⟨⟨_, rfl, ⟨.inl ⟨rfl, rfl⟩, .inl ⟨rfl, rfl⟩, .inl ⟨rfl, rfl⟩, .inl ⟨rfl, rfl⟩, trivial⟩⟩, ⟨_, rfl, .inr ⟨_, rfl, rfl, rfl⟩⟩, ⟨_, rfl, .inl ⟨rfl, rfl⟩⟩, trivial⟩) rfl (by exact ⟨trivial, trivial, trivial, FrzB.vec, trivial⟩) ?_; refine AOps.frzV (id := 3) (l := [[1, 0]]) (env2 := [(7, .agg [int a7.facts, row 1 intI a7.init, row 1 intI a7.goal, row 4 eTOperator a7.operators]), (9, .c (row 1 eLi64 ([[1]]))), (11, .c (row 1 eLi64 ([[1, 0]])))]) (σ2 := [.dead, .dead, .dead, .dead]) rfl rfl (by exact ⟨⟨_, rfl, ⟨.inl ⟨rfl, rfl⟩, .inl ⟨rfl, rfl⟩, .inl ⟨rfl, rfl⟩, .inl ⟨rfl, rfl⟩, trivial⟩⟩, ⟨_, rfl, .inl ⟨rfl, rfl⟩⟩, ⟨_, rfl, .inr ⟨_, rfl, rfl, rfl⟩⟩, trivial⟩) rfl (by exact ⟨trivial, trivial, trivial, trivial, trivial⟩) ?_; refine AOps.callR rfl rfl rfl rfl (merging_Merge_ok ha12) rfl ?_
  refine AOps.move rfl rfl ?_
  refine AOps.extract rfl rfl rfl ?_
  refine AOps.extract rfl rfl rfl ?_
  refine AOps.extract rfl rfl rfl ?_
  refine W.alloc rfl rfl rfl rfl ?_
  refine AOps.assign rfl rfl ?_
  refine AOps.assign rfl rfl ?_
  refine W.storeAgg rfl rfl rfl rfl rfl rfl rfl ?_
  refine AOps.nil ?_
  refine thn_normal ?_
  refine AWP.seq ?_
  obtain ⟨a17, ha17, h⟩ := bind_some h
  obtain ⟨a23, ha23, h⟩ := bind_some h
  refine AWP.region ?_
  refine AOps.callR rfl rfl rfl rfl (law8_step_ok ha17) rfl ?_
  refine S.lit (f := intI) (l := [1]) (ess := [[int 1]]) rfl rfl rfl rfl rfl rfl rfl ⟨⟨.inl rfl, trivial⟩, trivial⟩ rfl rfl rfl ?_
  refine AOps.frzV (id := 5) (l := [1]) (env2 := [(1, .c (row 1 intI a12.1)), (2, .c (bool a12.2.1)), (3, .c (.ptr 4 0 0)), (17, .agg [int a17.facts, row 1 intI a17.init, row 1 intI a17.goal, row 4 eTOperator a17.operators]), (18, .c (row 1 intI [1]))]) (σ2 := [.dead, .dead, .dead, .dead, .one (.cells 2 [[int a12.2.2.code, int a12.2.2.index]]), .dead]) rfl rfl (by exact ⟨⟨_, rfl, .inl ⟨rfl, rfl⟩⟩, ⟨_, rfl, .inl ⟨rfl, rfl⟩⟩, ⟨_, rfl, .inl ⟨rfl, rfl⟩⟩, ⟨_, rfl, ⟨.inl ⟨rfl, rfl⟩, .inl ⟨rfl, rfl⟩, .inl ⟨rfl, rfl⟩, .inl ⟨rfl, rfl⟩, trivial⟩⟩, ⟨_, rfl, .inr ⟨_, rfl, rfl, rfl⟩⟩, trivial⟩) rfl (by exact ⟨trivial, trivial, trivial, trivial, ⟨rfl, .inl ⟨rfl, rfl⟩, .inl ⟨rfl, rfl⟩, trivial⟩, trivial, trivial⟩) ?_; refine S.lit (f := eLi64) (l := [[1]]) (ess := [[row 1 intI [1]]]) rfl rfl rfl rfl rfl rfl rfl ⟨⟨.inl rfl, trivial⟩, trivial⟩ rfl rfl rfl ?_
  refine S.lit (f := intI) (l := [1, 0]) (ess := [[int 1], [int 0]]) rfl rfl rfl rfl rfl rfl rfl ⟨⟨.inl rfl, trivial⟩, ⟨.inl rfl, trivial⟩, trivial⟩ rfl rfl rfl ?_
  refine AOps.frzV (id := 7) (l := [1, 0]) (env2 := [(1, .c (row 1 intI a12.1)), (2, .c (bool a12.2.1)), (3, .c (.ptr 4 0 0)), (17, .agg [int a17.facts, row 1 intI a17.init, row 1 intI a17.goal, row 4 eTOperator a17.operators]), (19, .c (.own 6 0 (([[1]]).length))), (20, .c (row 1 intI [1, 0]))]) (σ2 := [.dead, .dead, .dead, .dead, .one (.cells 2 [[int a12.2.2.code, int a12.2.2.index]]), .dead, .one (vec 1 eLi64 ([[1]])), .dead]) rfl rfl (by exact ⟨⟨_, rfl, .inl ⟨rfl, rfl⟩⟩, ⟨_, rfl, .inl ⟨rfl, rfl⟩⟩, ⟨_, rfl, .inl ⟨rfl, rfl⟩⟩, ⟨_, rfl, ⟨.inl ⟨rfl, rfl⟩, .inl ⟨rfl, rfl⟩, .inl ⟨rfl, rfl⟩, .inl ⟨rfl, rfl⟩, trivial⟩⟩, ⟨_, rfl, .inl ⟨rfl, rfl⟩⟩, ⟨_, rfl, .inr ⟨_, rfl, rfl, rfl⟩⟩, trivial⟩) rfl (by exact ⟨trivial, trivial, trivial, trivial, ⟨rfl, .inl ⟨rfl, rfl⟩, .inl ⟨rfl, rfl⟩, trivial⟩, trivial, FrzB.vec, trivial, trivial⟩) ?_; refine S.lit (f := eLi64) (l := [[1, 0]]) (ess := [[row 1 intI [1, 0]]]) rfl rfl rfl rfl rfl rfl rfl ⟨⟨.inl rfl, trivial⟩, trivial⟩ rfl rfl rfl ?_
  refine AOps.move rfl rfl ?_
  refine AOps.callL rfl rfl (.cons (.agg (.cons .imm (.cons .imm (.cons .imm (.cons .imm .nil))))) (.cons (.c (.own rfl rfl)) (.cons (.c (.own rfl rfl)) (.cons (.c .imm) .nil)))) rfl (merging_Check_ok ha23) rfl ?_
  refine AOps.move rfl rfl ?_
  refine AOps.extract rfl rfl rfl ?_
  refine AOps.extract rfl rfl rfl ?_
  refine W.alloc rfl rfl rfl rfl ?_
  refine AOps.assign rfl rfl ?_
  refine W.storeAgg rfl rfl rfl rfl rfl rfl rfl ?_
  refine AOps.nil ?_
  refine thn_normal ?_
  obtain ⟨t1, hx2, h⟩ := bind_some h
  refine AWP.seqJ (⟨[(0, .c (bool t1))], []⟩) ?_ ?_
  · rcases Bool.eq_false_or_eq_true (decide (a12.2.2.code = 0)) with hb3 | hb3
    · replace hx2 := iteDT hb3 hx2
      rcases Bool.eq_false_or_eq_true (decide (a23.2.code = 0)) with hb4 | hb4
      · replace hx2 := iteDT hb4 hx2
        rcases Bool.eq_false_or_eq_true (a12.2.1) with hb5 | hb5
        · replace hx2 := iteBT hb5 hx2
          rcases Bool.eq_false_or_eq_true (a23.1) with hb6 | hb6
          · replace hx2 := iteBT hb6 hx2
            obtain ⟨a43, ha43, hx2⟩ := bind_some hx2
            refine AWP.region ?_
            refine W.fieldAddr rfl rfl rfl rfl ?_
            refine AOps.load rfl rfl rfl rfl rfl rfl ?_
            refine AOps.eql rfl rfl rfl ?_
            refine AOps.move rfl rfl ?_
            refine AOps.guardT rfl rfl rfl hb3 ?_; refine W.fieldAddr rfl rfl rfl rfl ?_
            refine AOps.guardT rfl rfl rfl hb3 ?_; refine AOps.load rfl rfl rfl rfl rfl rfl ?_
            refine AOps.guardT rfl rfl rfl hb3 ?_; refine AOps.eql rfl rfl rfl ?_
            refine AOps.pickT rfl hb3 rfl rfl ?_
            refine AOps.move rfl rfl ?_
            refine AOps.guardT rfl rfl rfl hb4 ?_; refine AOps.move rfl rfl ?_
            refine AOps.pickT rfl hb4 rfl rfl ?_
            refine AOps.move rfl rfl ?_
            refine AOps.guardT rfl rfl rfl hb5 ?_; refine AOps.move rfl rfl ?_
            refine AOps.pickT rfl hb5 rfl rfl ?_
            refine AOps.move rfl rfl ?_
            refine AOps.guardT rfl rfl rfl hb6 ?_; refine AOps.move rfl rfl ?_
            refine AOps.guardT rfl rfl rfl hb6 ?_; refine S.lit (f := intI) (l := [0, 0]) (ess := [[int 0], [int 0]]) rfl rfl rfl rfl rfl rfl rfl ⟨⟨.inl rfl, trivial⟩, ⟨.inl rfl, trivial⟩, trivial⟩ rfl rfl rfl ?_
            refine AOps.guardT rfl rfl rfl hb6 ?_; refine AOps.callL rfl rfl (.cons (.c .imm) (.cons (.c (.own rfl rfl)) .nil)) rfl (equal_Numbers_ok ha43) rfl ?_
            refine AOps.pickT rfl hb6 rfl rfl ?_
            refine AOps.assign rfl rfl ?_
            refine AOps.nil ?_
            have ej := Option.some.inj hx2
            subst ej
            refine thn_normal ?_
            exact Sub.cut ⟨rfl, trivial⟩ rfl trivial rfl
          · replace hx2 := iteBF hb6 hx2
            refine AWP.region ?_
            refine W.fieldAddr rfl rfl rfl rfl ?_
            refine AOps.load rfl rfl rfl rfl rfl rfl ?_
            refine AOps.eql rfl rfl rfl ?_
            refine AOps.move rfl rfl ?_
            refine AOps.guardT rfl rfl rfl hb3 ?_; refine W.fieldAddr rfl rfl rfl rfl ?_
            refine AOps.guardT rfl rfl rfl hb3 ?_; refine AOps.load rfl rfl rfl rfl rfl rfl ?_
            refine AOps.guardT rfl rfl rfl hb3 ?_; refine AOps.eql rfl rfl rfl ?_
            refine AOps.pickT rfl hb3 rfl rfl ?_
            refine AOps.move rfl rfl ?_
            refine AOps.guardT rfl rfl rfl hb4 ?_; refine AOps.move rfl rfl ?_
            refine AOps.pickT rfl hb4 rfl rfl ?_
            refine AOps.move rfl rfl ?_
            refine AOps.guardT rfl rfl rfl hb5 ?_; refine AOps.move rfl rfl ?_
            refine AOps.pickT rfl hb5 rfl rfl ?_
            refine AOps.move rfl rfl ?_
            refine AOps.guardF rfl rfl rfl hb6 ?_
            refine AOps.guardF rfl rfl rfl hb6 ?_
            refine AOps.guardF rfl rfl rfl hb6 ?_
            refine AOps.pickF rfl hb6 rfl rfl ?_
            refine AOps.assign rfl rfl ?_
            refine AOps.nil ?_
            have ej := Option.some.inj hx2
            subst ej
            refine thn_normal ?_
            exact Sub.cut ⟨rfl, trivial⟩ rfl trivial rfl
        · replace hx2 := iteBF hb5 hx2
          refine AWP.region ?_
          refine W.fieldAddr rfl rfl rfl rfl ?_
          refine AOps.load rfl rfl rfl rfl rfl rfl ?_
          refine AOps.eql rfl rfl rfl ?_
          refine AOps.move rfl rfl ?_
          refine AOps.guardT rfl rfl rfl hb3 ?_; refine W.fieldAddr rfl rfl rfl rfl ?_
          refine AOps.guardT rfl rfl rfl hb3 ?_; refine AOps.load rfl rfl rfl rfl rfl rfl ?_
          refine AOps.guardT rfl rfl rfl hb3 ?_; refine AOps.eql rfl rfl rfl ?_
          refine AOps.pickT rfl hb3 rfl rfl ?_
          refine AOps.move rfl rfl ?_
          refine AOps.guardT rfl rfl rfl hb4 ?_; refine AOps.move rfl rfl ?_
          refine AOps.pickT rfl hb4 rfl rfl ?_
          refine AOps.move rfl rfl ?_
          refine AOps.guardF rfl rfl rfl hb5 ?_
          refine AOps.pickF rfl hb5 rfl rfl ?_
          refine AOps.move rfl rfl ?_
          refine AOps.guardF rfl rfl rfl rfl ?_
          refine AOps.guardF rfl rfl rfl rfl ?_
          refine AOps.guardF rfl rfl rfl rfl ?_
          refine AOps.pickF rfl rfl rfl rfl ?_
          refine AOps.assign rfl rfl ?_
          refine AOps.nil ?_
          have ej := Option.some.inj hx2
          subst ej
          refine thn_normal ?_
          exact Sub.cut ⟨rfl, trivial⟩ rfl trivial rfl
      · replace hx2 := iteDF hb4 hx2
        refine AWP.region ?_
        refine W.fieldAddr rfl rfl rfl rfl ?_
        refine AOps.load rfl rfl rfl rfl rfl rfl ?_
        refine AOps.eql rfl rfl rfl ?_
        refine AOps.move rfl rfl ?_
        refine AOps.guardT rfl rfl rfl hb3 ?_; refine W.fieldAddr rfl rfl rfl rfl ?_
        refine AOps.guardT rfl rfl rfl hb3 ?_; refine AOps.load rfl rfl rfl rfl rfl rfl ?_
        refine AOps.guardT rfl rfl rfl hb3 ?_; refine AOps.eql rfl rfl rfl ?_
        refine AOps.pickT rfl hb3 rfl rfl ?_
        refine AOps.move rfl rfl ?_
        refine AOps.guardF rfl rfl rfl hb4 ?_
        refine AOps.pickF rfl hb4 rfl rfl ?_
        refine AOps.move rfl rfl ?_
        refine AOps.guardF rfl rfl rfl rfl ?_
        refine AOps.pickF rfl rfl rfl rfl ?_
        refine AOps.move rfl rfl ?_
        refine AOps.guardF rfl rfl rfl rfl ?_
        refine AOps.guardF rfl rfl rfl rfl ?_
        refine AOps.guardF rfl rfl rfl rfl ?_
        refine AOps.pickF rfl rfl rfl rfl ?_
        refine AOps.assign rfl rfl ?_
        refine AOps.nil ?_
        have ej := Option.some.inj hx2
        subst ej
        refine thn_normal ?_
        exact Sub.cut ⟨rfl, trivial⟩ rfl trivial rfl
    · replace hx2 := iteDF hb3 hx2
      refine AWP.region ?_
      refine W.fieldAddr rfl rfl rfl rfl ?_
      refine AOps.load rfl rfl rfl rfl rfl rfl ?_
      refine AOps.eql rfl rfl rfl ?_
      refine AOps.move rfl rfl ?_
      refine AOps.guardF rfl rfl rfl hb3 ?_
      refine AOps.guardF rfl rfl rfl hb3 ?_
      refine AOps.guardF rfl rfl rfl hb3 ?_
      refine AOps.pickF rfl hb3 rfl rfl ?_
      refine AOps.move rfl rfl ?_
      refine AOps.guardF rfl rfl rfl rfl ?_
      refine AOps.pickF rfl rfl rfl rfl ?_
      refine AOps.move rfl rfl ?_
      refine AOps.guardF rfl rfl rfl rfl ?_
      refine AOps.pickF rfl rfl rfl rfl ?_
      refine AOps.move rfl rfl ?_
      refine AOps.guardF rfl rfl rfl rfl ?_
      refine AOps.guardF rfl rfl rfl rfl ?_
      refine AOps.guardF rfl rfl rfl rfl ?_
      refine AOps.pickF rfl rfl rfl rfl ?_
      refine AOps.assign rfl rfl ?_
      refine AOps.nil ?_
      have ej := Option.some.inj hx2
      subst ej
      refine thn_normal ?_
      exact Sub.cut ⟨rfl, trivial⟩ rfl trivial rfl
  · refine AWP.ret ?_
    have ej := Option.some.inj h
    subst ej
    exact Done.ret rfl rfl
theorem ref1_Subset_ok {part : List Int} {l : List Int} {r : Bool} (h : ref1_Subset part l = some r) : PureOk Tryd.prog 36 [.c (row 1 intI part), .c (row 1 intI l)] (.c (bool r)) := by
  unfold PureOk
  refine FnOk.enter (rs := [.t 4]) Tryd.func36 rfl Tryd.ntmps36 Tryd.results36 rfl ⟨trivial, trivial⟩ (by kernel_rfl) rfl ?_
  unfold ref1_Subset at h
  refine AWP.seq ?_
  refine AWP.region ?_
  refine AOps.assign rfl rfl ?_
  refine AOps.nil ?_
  refine thn_normal ?_
  refine AWP.seq ?_
  refine AWP.seq ?_
  refine AWP.region ?_
  refine AOps.assign rfl rfl ?_
  refine AOps.nil ?_
  refine thn_normal ?_
  refine AWP.block ?_
  obtain ⟨oo, ho1, h⟩ := bind_some h
  refine AWP.rngS ho1 (fun iv3 _ => ⟨[(0, .c (row 1 intI part)), (1, .c (row 1 intI l)), (5, .c (int iv3))], []⟩) (fun o e st => match o with | .inl _ => e = .exit 0 ∧ Sub [] st ⟨[], []⟩ | .inr x => e = .ret ∧ Done [.t 4] (fun t _ => t = .c (bool x)) .ret st) ?_ ?_ ?_ ?_
  · try dsimp only
    exact Sub.env ⟨rfl, rfl, rfl, trivial⟩
  · intro iv3 s hloiv3 hltiv3 _
    try dsimp only
    refine AWP.seq ?_
    refine AWP.seq ?_
    refine AWP.region ?_
    refine AOps.move rfl rfl ?_
    refine AOps.move rfl rfl ?_
    refine S.len rfl rfl (fun hl8 => ?_)
    refine AOps.lss rfl rfl rfl ?_
    refine AOps.nil ?_
    refine thn_normal ?_
    refine AWP.condNP rfl hltiv3 ?_
    refine AWP.exit ?_
    refine thn_exit ?_
    refine thn_exit ⟨rfl, ?_⟩
    exact Sub.env trivial
  · intro iv3 s o hloiv3 hltiv3 h
    unfold ref1_Subset_l1 at h
    try dsimp only at h ⊢
    refine AWP.seq ?_
    refine AWP.seq ?_
    refine AWP.region ?_
    refine AOps.move rfl rfl ?_
    refine AOps.move rfl rfl ?_
    refine S.len rfl rfl (fun hl8 => ?_)
    refine AOps.lss rfl rfl rfl ?_
    refine AOps.nil ?_
    refine thn_normal ?_
    refine AWP.condP rfl hltiv3 ?_
    refine AWP.skip ?_
    refine thn_normal ?_
    refine AWP.seq ?_
    refine AWP.block ?_
    refine AWP.seq ?_
    obtain ⟨a15, ha15, h⟩ := bind_some h
    obtain ⟨a17, ha17, h⟩ := bind_some h
    refine AWP.region ?_
    refine AOps.move rfl rfl ?_
    refine AOps.move rfl rfl ?_
    refine AOps.move rfl rfl ?_
    refine S.idx ha15 rfl rfl rfl rfl ?_
    refine AOps.loadI rfl rfl rfl rfl ?_
    refine AOps.callR rfl rfl rfl rfl (ref1_Has_ok ha17) rfl ?_
    refine AOps.not rfl rfl ?_
    refine AOps.nil ?_
    refine thn_normal ?_
    refine AWP.iteB rfl h (fun hc4 h => ?_) (fun hc4 h => ?_)
    · refine AWP.seq ?_
      refine AWP.region ?_
      refine AOps.assign rfl rfl ?_
      refine AOps.nil ?_
      refine thn_normal ?_
      refine AWP.ret ?_
      refine inB_ret ?_
      refine thn_ret ?_
      have ej := Option.some.inj h
      subst ej
      refine thn_ret ⟨_, rfl, rfl, ?_⟩
      exact Done.ret rfl rfl
    · refine AWP.skip ?_
      refine inB_normal ?_
      refine thn_normal ?_
      refine AWP.region ?_
      refine AOps.move rfl rfl ?_
      refine AOps.add rfl rfl rfl (by omega) ?_
      refine AOps.assign rfl rfl ?_
      refine AOps.nil ?_
      have ej := Option.some.inj h
      subst ej
      refine thn_normal ⟨_, rfl, ?_⟩
      exact Sub.env ⟨rfl, rfl, rfl, trivial⟩
  · intro e s hq
    rcases oo with u | x
    · try dsimp only at h hq
      obtain ⟨rfl, hs⟩ := hq
      refine ⟨_, hs, ?_⟩
      refine inB_exit ?_
      refine thn_normal ?_
      refine AWP.seq ?_
      refine AWP.region ?_
      refine AOps.assign rfl rfl ?_
      refine AOps.nil ?_
      refine thn_normal ?_
      refine AWP.ret ?_
      have ej := Option.some.inj h
      subst ej
      exact Done.ret rfl rfl
    · try dsimp only at h hq
      obtain ⟨rfl, hs⟩ := hq
      refine ⟨_, Sub.refl _ _, ?_⟩
      refine inB_ret ?_
      refine thn_ret ?_
      have ej := Option.some.inj h
      subst ej
      exact hs
theorem ref1_Applies_ok {t : TTask} {sv : List Int} {op : Int} {r : Bool} (h : ref1_Applies t sv op = some r) : PureOk Tryd.prog 46 [.agg [int t.facts, row 1 intI t.init, row 1 intI t.goal, row 4 eTOperator t.operators], .c (row 1 intI sv), .c (int op)] (.c (bool r)) := by
  unfold PureOk
  refine FnOk.enter (rs := [.t 6]) Tryd.func46 rfl Tryd.ntmps46 Tryd.results46 rfl ⟨trivial, trivial⟩ (by kernel_rfl) rfl ?_
  unfold ref1_Applies at h
  refine AWP.seq ?_
  refine AWP.region ?_
  refine W.box rfl rfl rfl rfl rfl rfl ?_
  refine AOps.assign rfl rfl ?_
  refine AOps.nil ?_
  refine thn_normal ?_
  refine AWP.seq ?_
  obtain ⟨a10, ha10, h⟩ := bind_some h
  obtain ⟨a14, ha14, h⟩ := bind_some h
  refine AWP.region ?_
  refine W.fieldAddr rfl rfl rfl rfl ?_
  refine AOps.load rfl rfl rfl rfl rfl rfl ?_
  refine AOps.move rfl rfl ?_
  refine S.idx ha10 rfl rfl rfl rfl ?_
  refine W.fieldAddrI rfl rfl rfl rfl ?_
  refine AOps.loadI rfl rfl rfl rfl ?_
  refine AOps.move rfl rfl ?_
  refine AOps.callR rfl rfl rfl rfl (ref1_Subset_ok ha14) rfl ?_
  refine AOps.assign rfl rfl ?_
  refine AOps.nil ?_
  refine thn_normal ?_
  refine AWP.ret ?_
  have ej := Option.some.inj h
  subst ej
  exact Done.ret rfl rfl
theorem ref1_After_ok {t : TTask} {sv : List Int} {op : Int} {r : (List Int)} (h : ref1_After t sv op = some r) : FreshOk Tryd.prog 47 [.agg [int t.facts, row 1 intI t.init, row 1 intI t.goal, row 4 eTOperator t.operators], .c (row 1 intI sv), .c (int op)] 1 (List.map intI r) := by
  unfold FreshOk
  refine FnOk.enter (rs := [.t 6]) Tryd.func47 rfl Tryd.ntmps47 Tryd.results47 rfl ⟨trivial, trivial⟩ (by kernel_rfl) rfl ?_
  unfold ref1_After at h
  refine AWP.seq ?_
  refine AWP.region ?_
  refine W.box rfl rfl rfl rfl rfl rfl ?_
  refine AOps.assign rfl rfl ?_
  refine AOps.nil ?_
  refine thn_normal ?_
  refine AWP.seq ?_
  refine AWP.region ?_
  refine AOps.assign rfl rfl ?_
  refine AOps.nil ?_
  refine thn_normal ?_
  refine AWP.seq ?_
  refine AWP.seq ?_
  refine AWP.region ?_
  refine AOps.assign rfl rfl ?_
  refine AOps.nil ?_
  refine thn_normal ?_
  refine AWP.block ?_
  refine AWP.virtV 1 intI 7 rfl rfl rfl ?_
  obtain ⟨hnp5, h⟩ := ite_none h
  obtain ⟨c4, ho1, h⟩ := bind_some h
  refine AWP.forS ho1 (fun p5 c4 => ⟨[(1, .c (row 1 intI sv)), (2, .c (int op)), (3, .c (.ptr 0 0 0)), (7, .c (.own 1 0 c4.length)), (8, .c (int p5))], [.one (.cells 4 [[int t.facts, row 1 intI t.init, row 1 intI t.goal, row 4 eTOperator t.operators]]), .one (vec 1 intI c4)]⟩) (fun c4 e st => e = .exit 0 ∧ Sub [] st ⟨[(7, .c (.own 1 0 c4.length))], [.one (.cells 4 [[int t.facts, row 1 intI t.init, row 1 intI t.goal, row 4 eTOperator t.operators]]), .one (vec 1 intI c4)]⟩) ?_ ?_ ?_ ?_
  · try dsimp only
    exact Sub.env ⟨rfl, rfl, rfl, (own_len (by first | rfl | simp only [List.length_set])), rfl, trivial⟩
  · intro p5 c4 hlop5 hltp5 _
    try dsimp only
    refine AWP.seq ?_
    refine AWP.seq ?_
    refine AWP.region ?_
    refine AOps.move rfl rfl ?_
    refine W.fieldAddr rfl rfl rfl rfl ?_
    refine AOps.load rfl rfl rfl rfl rfl rfl ?_
    refine AOps.lss rfl rfl rfl ?_
    refine AOps.nil ?_
    refine thn_normal ?_
    refine AWP.condNP rfl hltp5 ?_
    refine AWP.exit ?_
    refine thn_exit ?_
    refine thn_exit ⟨rfl, ?_⟩
    exact Sub.env ⟨rfl, trivial⟩
  · intro p5 c4 o hlop5 hltp5 h
    unfold ref1_After_l1 at h
    try dsimp only at h ⊢
    refine AWP.seq ?_
    refine AWP.seq ?_
    refine AWP.region ?_
    refine AOps.move rfl rfl ?_
    refine W.fieldAddr rfl rfl rfl rfl ?_
    refine AOps.load rfl rfl rfl rfl rfl rfl ?_
    refine AOps.lss rfl rfl rfl ?_
    refine AOps.nil ?_
    refine thn_normal ?_
    refine AWP.condP rfl hltp5 ?_
    refine AWP.skip ?_
    refine thn_normal ?_
    obtain ⟨c6, hx7, h⟩ := bind_some h
    refine AWP.seqJ (⟨[(1, .c (row 1 intI sv)), (2, .c (int op)), (3, .c (.ptr 0 0 0)), (7, .c (.own 3 0 c6.length)), (8, .c (int p5))], [.one (.cells 4 [[int t.facts, row 1 intI t.init, row 1 intI t.goal, row 4 eTOperator t.operators]]), .dead, .dead, .one (vec 1 intI c6)]⟩) ?_ ?_
    · refine AWP.block ?_
      obtain ⟨t8, hx9, hx7⟩ := bind_some hx7
      refine AWP.seqJ (⟨[(1, .c (row 1 intI sv)), (2, .c (int op)), (3, .c (.ptr 0 0 0)), (7, .c (.own 1 0 c4.length)), (8, .c (int p5)), (38, .c (bool t8))], [.one (.cells 4 [[int t.facts, row 1 intI t.init, row 1 intI t.goal, row 4 eTOperator t.operators]]), .one (vec 1 intI c4)]⟩) ?_ ?_
      · obtain ⟨a18, ha18, hx9⟩ := bind_some hx9
        obtain ⟨a22, ha22, hx9⟩ := bind_some hx9
        rcases Bool.eq_false_or_eq_true (a22) with hb10 | hb10
        · replace hx9 := iteBT hb10 hx9
          refine AWP.region ?_
          refine W.fieldAddr rfl rfl rfl rfl ?_
          refine AOps.load rfl rfl rfl rfl rfl rfl ?_
          refine AOps.move rfl rfl ?_
          refine S.idx ha18 rfl rfl rfl rfl ?_
          refine W.fieldAddrI rfl rfl rfl rfl ?_
          refine AOps.loadI rfl rfl rfl rfl ?_
          refine AOps.move rfl rfl ?_
          refine AOps.callR rfl rfl rfl rfl (ref1_Has_ok ha22) rfl ?_
          refine AOps.move rfl rfl ?_
          refine AOps.guardF rfl rfl rfl hb10 ?_
          refine AOps.guardF rfl rfl rfl hb10 ?_
          refine AOps.guardF rfl rfl rfl hb10 ?_
          refine AOps.guardF rfl rfl rfl hb10 ?_
          refine AOps.guardSkip rfl rfl rfl ?_
          refine AOps.guardSkip rfl rfl rfl ?_
          refine AOps.guardSkip rfl rfl rfl ?_
          refine AOps.guardSkip rfl rfl rfl ?_
          refine AOps.guardSkip rfl rfl rfl ?_
          refine AOps.guardSkip rfl rfl rfl ?_
          refine AOps.guardSkip rfl rfl rfl ?_
          refine AOps.guardSkip rfl rfl rfl ?_
          refine AOps.guardSkip rfl rfl rfl ?_
          refine AOps.guardF rfl rfl rfl hb10 ?_
          refine AOps.pickT rfl hb10 rfl rfl ?_
          refine AOps.nil ?_
          have ej := Option.some.inj hx9
          subst ej
          refine thn_normal ?_
          exact Sub.env ⟨rfl, rfl, rfl, rfl, rfl, rfl, trivial⟩
        · replace hx9 := iteBF hb10 hx9
          obtain ⟨a26, ha26, hx9⟩ := bind_some hx9
          rcases Bool.eq_false_or_eq_true (a26) with hb11 | hb11
          · replace hx9 := iteBT hb11 hx9
            obtain ⟨a31, ha31, hx9⟩ := bind_some hx9
            obtain ⟨a35, ha35, hx9⟩ := bind_some hx9
            refine AWP.region ?_
            refine W.fieldAddr rfl rfl rfl rfl ?_
            refine AOps.load rfl rfl rfl rfl rfl rfl ?_
            refine AOps.move rfl rfl ?_
            refine S.idx ha18 rfl rfl rfl rfl ?_
            refine W.fieldAddrI rfl rfl rfl rfl ?_
            refine AOps.loadI rfl rfl rfl rfl ?_
            refine AOps.move rfl rfl ?_
            refine AOps.callR rfl rfl rfl rfl (ref1_Has_ok ha22) rfl ?_
            refine AOps.move rfl rfl ?_
            refine AOps.guardT rfl rfl rfl hb10 ?_; refine AOps.move rfl rfl ?_
            refine AOps.guardT rfl rfl rfl hb10 ?_; refine AOps.move rfl rfl ?_
            refine AOps.guardT rfl rfl rfl hb10 ?_; refine AOps.callR rfl rfl rfl rfl (ref1_Has_ok ha26) rfl ?_
            refine AOps.guardT rfl rfl rfl hb10 ?_; refine AOps.move rfl rfl ?_
            refine AOps.guardT rfl rfl rfl hb11 ?_; refine W.fieldAddr rfl rfl rfl rfl ?_
            refine AOps.guardT rfl rfl rfl hb11 ?_; refine AOps.load rfl rfl rfl rfl rfl rfl ?_
            refine AOps.guardT rfl rfl rfl hb11 ?_; refine AOps.move rfl rfl ?_
            refine AOps.guardT rfl rfl rfl hb11 ?_; refine S.idx ha31 rfl rfl rfl rfl ?_
            refine AOps.guardT rfl rfl rfl hb11 ?_; refine W.fieldAddrI rfl rfl rfl rfl ?_
            refine AOps.guardT rfl rfl rfl hb11 ?_; refine AOps.loadI rfl rfl rfl rfl ?_
            refine AOps.guardT rfl rfl rfl hb11 ?_; refine AOps.move rfl rfl ?_
            refine AOps.guardT rfl rfl rfl hb11 ?_; refine AOps.callR rfl rfl rfl rfl (ref1_Has_ok ha35) rfl ?_
            refine AOps.guardT rfl rfl rfl hb11 ?_; refine AOps.not rfl rfl ?_
            refine AOps.guardT rfl rfl rfl hb10 ?_; refine AOps.pickT rfl hb11 rfl rfl ?_
            refine AOps.pickF rfl hb10 rfl rfl ?_
            refine AOps.nil ?_
            have ej := Option.some.inj hx9
            subst ej
            refine thn_normal ?_
            exact Sub.env ⟨rfl, rfl, rfl, rfl, rfl, rfl, trivial⟩
          · replace hx9 := iteBF hb11 hx9
            refine AWP.region ?_
            refine W.fieldAddr rfl rfl rfl rfl ?_
            refine AOps.load rfl rfl rfl rfl rfl rfl ?_
            refine AOps.move rfl rfl ?_
            refine S.idx ha18 rfl rfl rfl rfl ?_
            refine W.fieldAddrI rfl rfl rfl rfl ?_
            refine AOps.loadI rfl rfl rfl rfl ?_
            refine AOps.move rfl rfl ?_
            refine AOps.callR rfl rfl rfl rfl (ref1_Has_ok ha22) rfl ?_
            refine AOps.move rfl rfl ?_
            refine AOps.guardT rfl rfl rfl hb10 ?_; refine AOps.move rfl rfl ?_
            refine AOps.guardT rfl rfl rfl hb10 ?_; refine AOps.move rfl rfl ?_
            refine AOps.guardT rfl rfl rfl hb10 ?_; refine AOps.callR rfl rfl rfl rfl (ref1_Has_ok ha26) rfl ?_
            refine AOps.guardT rfl rfl rfl hb10 ?_; refine AOps.move rfl rfl ?_
            refine AOps.guardF rfl rfl rfl hb11 ?_
            refine AOps.guardF rfl rfl rfl hb11 ?_
            refine AOps.guardF rfl rfl rfl hb11 ?_
            refine AOps.guardF rfl rfl rfl hb11 ?_
            refine AOps.guardF rfl rfl rfl hb11 ?_
            refine AOps.guardF rfl rfl rfl hb11 ?_
            refine AOps.guardF rfl rfl rfl hb11 ?_
            refine AOps.guardF rfl rfl rfl hb11 ?_
            refine AOps.guardF rfl rfl rfl hb11 ?_
            refine AOps.guardT rfl rfl rfl hb10 ?_; refine AOps.pickF rfl hb11 rfl rfl ?_
            refine AOps.pickF rfl hb10 rfl rfl ?_
            refine AOps.nil ?_
            have ej := Option.some.inj hx9
            subst ej
            refine thn_normal ?_
            exact Sub.env ⟨rfl, rfl, rfl, rfl, rfl, rfl, trivial⟩
      · refine AWP.iteB rfl hx7 (fun hc12 hx7 => ?_) (fun hc12 hx7 => ?_)
        · obtain ⟨a42, ha42, hx7⟩ := bind_some hx7
          refine AWP.region ?_
          refine AOps.move rfl rfl ?_
          refine AOps.move rfl rfl ?_
          refine S.lit (f := intI) (l := [p5]) (ess := [[int p5]]) rfl rfl rfl rfl rfl rfl rfl ⟨⟨.inl rfl, trivial⟩, trivial⟩ rfl rfl rfl ?_
          refine S.append (f := intI) ha42 rfl rfl rfl rfl rfl rfl (.own rfl rfl) rfl rfl rfl rfl ?_
          refine AOps.assign rfl rfl ?_
          refine AOps.nil ?_
          refine inB_normal ?_
          have ej := Option.some.inj hx7
          subst ej
          refine thn_normal ?_
          exact Sub.cut ⟨rfl, rfl, rfl, rfl, rfl, trivial⟩ rfl ⟨.one rfl, .dead, .dead, .vec, trivial⟩ rfl
        · refine AWP.skip ?_
          refine inB_normal ?_
          have ej := Option.some.inj hx7
          subst ej
          refine thn_normal ?_
          exact (Sub.move (env' := [(1, .c (row 1 intI sv)), (2, .c (int op)), (3, .c (.ptr 0 0 0)), (7, .c (.own 3 0 c4.length)), (8, .c (int p5))]) (σ' := [.one (.cells 4 [[int t.facts, row 1 intI t.init, row 1 intI t.goal, row 4 eTOperator t.operators]]), .dead, .dead, .one (vec 1 intI c4)]) 3 1 rfl rfl rfl ⟨rfl, rfl, rfl, rfl, rfl, trivial⟩ rfl ⟨⟨rfl, rfl⟩, trivial, trivial, ⟨Blk.im_ok _ _ _, vec_mv rfl⟩, trivial⟩).trans (Sub.env ⟨rfl, rfl, rfl, rfl, rfl, trivial⟩)
    · refine AWP.region ?_
      refine AOps.move rfl rfl ?_
      refine AOps.add rfl rfl rfl (by omega) ?_
      refine AOps.assign rfl rfl ?_
      refine AOps.nil ?_
      have ej := Option.some.inj h
      subst ej
      refine thn_normal ?_
      exact (Sub.move (env' := [(1, .c (row 1 intI sv)), (2, .c (int op)), (3, .c (.ptr 0 0 0)), (7, .c (.own 1 0 c6.length)), (8, .c (int (p5 + 1)))]) (σ' := [.one (.cells 4 [[int t.facts, row 1 intI t.init, row 1 intI t.goal, row 4 eTOperator t.operators]]), .one (vec 1 intI c6), .dead]) 1 3 rfl rfl rfl ⟨rfl, rfl, rfl, rfl, rfl, trivial⟩ rfl ⟨⟨rfl, rfl⟩, ⟨Blk.im_ok _ _ _, vec_mv rfl⟩, trivial, trivial⟩).trans (Sub.cut ⟨rfl, rfl, rfl, rfl, rfl, trivial⟩ rfl ⟨.one rfl, .vec, trivial⟩ rfl)
  · intro e s hq
    obtain ⟨rfl, hs⟩ := hq
    refine ⟨_, hs, ?_⟩
    refine inB_exit ?_
    refine thn_normal ?_
    refine AWP.seq ?_
    refine AWP.region ?_
    refine AOps.move rfl rfl ?_
    refine AOps.assign rfl rfl ?_
    refine AOps.nil ?_
    refine thn_normal ?_
    refine AWP.ret ?_
    have ej := Option.some.inj h
    subst ej
    exact Done.ret rfl (Fresh.mk rfl rfl)
theorem ref1_Ends_ok {t : TTask} {sv : List Int} {plan : List Int} {r : (List Int) × Bool} (h : ref1_Ends t sv plan = some r) : PureOk Tryd.prog 35 [.agg [int t.facts, row 1 intI t.init, row 1 intI t.goal, row 4 eTOperator t.operators], .c (row 1 intI sv), .c (row 1 intI plan)] (.tup [.c (row 1 intI r.1), .c (bool r.2)]) := by
  unfold PureOk
  refine FnOk.enter (rs := [.t 6, .t 7]) Tryd.func35 rfl Tryd.ntmps35 Tryd.results35 rfl ⟨trivial, trivial, trivial⟩ (by kernel_rfl) rfl ?_
  unfold ref1_Ends at h
  refine AWP.seq ?_
  refine AWP.region ?_
  refine W.box rfl rfl rfl rfl rfl rfl ?_
  refine AOps.assign rfl rfl ?_
  refine AOps.assign rfl rfl ?_
  refine AOps.nil ?_
  refine thn_normal ?_
  refine AWP.seq ?_
  refine AWP.seq ?_
  refine AWP.region ?_
  refine AOps.assign rfl rfl ?_
  refine AOps.nil ?_
  refine thn_normal ?_
  refine AWP.block ?_
  obtain ⟨oo, ho1, h⟩ := bind_some h
  refine AWP.rngS ho1 (fun iv5 sv4 => ⟨[(1, .c (row 1 intI sv4)), (2, .c (row 1 intI plan)), (3, .c (.ptr 0 0 0)), (8, .c (int iv5))], [.one (.cells 4 [[int t.facts, row 1 intI t.init, row 1 intI t.goal, row 4 eTOperator t.operators]])]⟩) (fun o e st => match o with | .inl sv4 => e = .exit 0 ∧ Sub [] st ⟨[(1, .c (row 1 intI sv4))], [.one (.cells 4 [[int t.facts, row 1 intI t.init, row 1 intI t.goal, row 4 eTOperator t.operators]])]⟩ | .inr x => e = .ret ∧ Done [.t 6, .t 7] (fun t _ => t = .tup [.c (row 1 intI x.1), .c (bool x.2)]) .ret st) ?_ ?_ ?_ ?_
  · try dsimp only
    exact Sub.env ⟨rfl, rfl, rfl, rfl, trivial⟩
  · intro iv5 sv4 hloiv5 hltiv5 _
    try dsimp only
    refine AWP.seq ?_
    refine AWP.seq ?_
    refine AWP.region ?_
    refine AOps.move rfl rfl ?_
    refine AOps.move rfl rfl ?_
    refine S.len rfl rfl (fun hl11 => ?_)
    refine AOps.lss rfl rfl rfl ?_
    refine AOps.nil ?_
    refine thn_normal ?_
    refine AWP.condNP rfl hltiv5 ?_
    refine AWP.exit ?_
    refine thn_exit ?_
    refine thn_exit ⟨rfl, ?_⟩
    exact Sub.env ⟨rfl, trivial⟩
  · intro iv5 sv4 o hloiv5 hltiv5 h
    unfold ref1_Ends_l1 at h
    try dsimp only at h ⊢
    refine AWP.seq ?_
    refine AWP.seq ?_
    refine AWP.region ?_
    refine AOps.move rfl rfl ?_
    refine AOps.move rfl rfl ?_
    refine S.len rfl rfl (fun hl11 => ?_)
    refine AOps.lss rfl rfl rfl ?_
    refine AOps.nil ?_
    refine thn_normal ?_
    refine AWP.condP rfl hltiv5 ?_
    refine AWP.skip ?_
    refine thn_normal ?_
    refine AWP.seq ?_
    refine AWP.block ?_
    refine AWP.seq ?_
    refine AWP.seq ?_
    obtain ⟨a19, ha19, h⟩ := bind_some h
    obtain ⟨a21, ha21, h⟩ := bind_some h
    refine AWP.drawI mixed rfl ?_
    apply DrawSeq.consF; exact rfl; intro E
    refine W.loadAgg rfl rfl rfl rfl rfl rfl rfl ?_
    exact AOps.nil ⟨rfl, rfl⟩
    exact rfl
    apply DrawSeq.consF; exact rfl; intro E
    refine AOps.move rfl rfl ?_
    exact AOps.nil ⟨rfl, rfl⟩
    exact rfl
    apply DrawSeq.consF; exact rfl; intro E
    refine AOps.move rfl rfl ?_
    exact AOps.nil ⟨rfl, rfl⟩
    exact rfl
    apply DrawSeq.consF; exact rfl; intro E
    refine AOps.move rfl rfl ?_
    exact AOps.nil ⟨rfl, rfl⟩
    exact rfl
    apply DrawSeq.consF; exact rfl; intro E
    refine S.idx ha19 rfl rfl rfl rfl ?_
    exact AOps.nil ⟨rfl, rfl⟩
    exact rfl
    apply DrawSeq.consF; exact rfl; intro E
    refine AOps.loadI rfl rfl rfl rfl ?_
    exact AOps.nil ⟨rfl, rfl⟩
    exact rfl
    apply DrawSeq.consF; exact rfl; intro E
    refine AOps.callR rfl rfl rfl rfl (ref1_Applies_ok ha21) rfl ?_
    exact AOps.nil ⟨rfl, rfl⟩
    exact rfl
    apply DrawSeq.consF; exact rfl; intro E
    refine AOps.not rfl rfl ?_
    exact AOps.nil ⟨rfl, rfl⟩
    exact rfl
    refine DrawSeq.done ?_
    dsimp only [envEnd]
    refine thn_normal ?_
    refine AWP.iteB rfl h (fun hc6 h => ?_) (fun hc6 h => ?_)
    · refine AWP.seq ?_
      refine AWP.region ?_
      refine AOps.assign rfl rfl ?_
      refine AOps.assign rfl rfl ?_
      refine AOps.nil ?_
      refine thn_normal ?_
      refine AWP.nilrow 1 6 rfl ?_
      refine AWP.ret ?_
      refine thn_ret ?_
      refine inB_ret ?_
      refine thn_ret ?_
      have ej := Option.some.inj h
      subst ej
      refine thn_ret ⟨_, rfl, rfl, ?_⟩
      exact Done.ret rfl rfl
    · refine AWP.skip ?_
      refine thn_normal ?_
      obtain ⟨a27, ha27, h⟩ := bind_some h
      obtain ⟨a29, ha29, h⟩ := bind_some h
      refine AWP.drawEI [6] mixed rfl rfl rfl ?_
      apply DrawSeqE.consN; exact rfl; exact rfl; intro E
      refine W.loadAgg rfl rfl rfl rfl rfl rfl rfl ?_
      exact AOps.nil ⟨rfl, rfl⟩
      exact rfl
      apply DrawSeqE.consN; exact rfl; exact rfl; intro E
      refine AOps.move rfl rfl ?_
      exact AOps.nil ⟨rfl, rfl⟩
      exact rfl
      apply DrawSeqE.consN; exact rfl; exact rfl; intro E
      refine AOps.move rfl rfl ?_
      exact AOps.nil ⟨rfl, rfl⟩
      exact rfl
      apply DrawSeqE.consN; exact rfl; exact rfl; intro E
      refine AOps.move rfl rfl ?_
      exact AOps.nil ⟨rfl, rfl⟩
      exact rfl
      apply DrawSeqE.consN; exact rfl; exact rfl; intro E
      refine S.idx ha27 rfl rfl rfl rfl ?_
      exact AOps.nil ⟨rfl, rfl⟩
      exact rfl
      apply DrawSeqE.consN; exact rfl; exact rfl; intro E
      refine AOps.loadI rfl rfl rfl rfl ?_
      exact AOps.nil ⟨rfl, rfl⟩
      exact rfl
      apply DrawSeqE.consE; exact rfl; exact rfl; intro E
      refine S.fresh rfl rfl rfl rfl (ref1_After_ok ha29) rfl rfl ?_
      exact AOps.nil ⟨rfl, rfl⟩
      exact rfl
      exact rfl
      apply DrawSeqE.consN; exact rfl; exact rfl; intro E
      refine AOps.assign rfl rfl ?_
      exact AOps.nil ⟨rfl, rfl⟩
      exact rfl
      refine DrawSeqE.done rfl ?_ ?_
      · apply RestI.cons; exact rfl; exact rfl
        first | refine RestK.skip rfl ?_ | (apply RestK.go; exact rfl; exact rfl; intro E; (refine W.loadAgg rfl rfl rfl rfl rfl rfl rfl ?_); exact AOps.nil ⟨rfl, rfl⟩)
        first | refine RestK.skip rfl ?_ | (apply RestK.go; exact rfl; exact rfl; intro E; (refine W.loadAgg rfl rfl rfl rfl rfl rfl rfl ?_); exact AOps.nil ⟨rfl, rfl⟩)
        exact RestK.nil
        apply RestI.cons; exact rfl; exact rfl
        first | refine RestK.skip rfl ?_ | (apply RestK.go; exact rfl; exact rfl; intro E; (refine AOps.move rfl rfl ?_); exact AOps.nil ⟨rfl, rfl⟩)
        first | refine RestK.skip rfl ?_ | (apply RestK.go; exact rfl; exact rfl; intro E; (refine AOps.move rfl rfl ?_); exact AOps.nil ⟨rfl, rfl⟩)
        exact RestK.nil
        apply RestI.cons; exact rfl; exact rfl
        first | refine RestK.skip rfl ?_ | (apply RestK.go; exact rfl; exact rfl; intro E; (refine AOps.move rfl rfl ?_); exact AOps.nil ⟨rfl, rfl⟩)
        first | refine RestK.skip rfl ?_ | (apply RestK.go; exact rfl; exact rfl; intro E; (refine AOps.move rfl rfl ?_); exact AOps.nil ⟨rfl, rfl⟩)
        exact RestK.nil
        apply RestI.cons; exact rfl; exact rfl
        first | refine RestK.skip rfl ?_ | (apply RestK.go; exact rfl; exact rfl; intro E; (refine AOps.move rfl rfl ?_); exact AOps.nil ⟨rfl, rfl⟩)
        first | refine RestK.skip rfl ?_ | (apply RestK.go; exact rfl; exact rfl; intro E; (refine AOps.move rfl rfl ?_); exact AOps.nil ⟨rfl, rfl⟩)
        exact RestK.nil
        apply RestI.cons; exact rfl; exact rfl
        first | refine RestK.skip rfl ?_ | (apply RestK.go; exact rfl; exact rfl; intro E; (refine S.idx ha27 rfl rfl rfl rfl ?_); exact AOps.nil ⟨rfl, rfl⟩)
        first | refine RestK.skip rfl ?_ | (apply RestK.go; exact rfl; exact rfl; intro E; (refine S.idx ha27 rfl rfl rfl rfl ?_); exact AOps.nil ⟨rfl, rfl⟩)
        exact RestK.nil
        apply RestI.cons; exact rfl; exact rfl
        first | refine RestK.skip rfl ?_ | (apply RestK.go; exact rfl; exact rfl; intro E; (refine AOps.loadI rfl rfl rfl rfl ?_); exact AOps.nil ⟨rfl, rfl⟩)
        first | refine RestK.skip rfl ?_ | (apply RestK.go; exact rfl; exact rfl; intro E; (refine AOps.loadI rfl rfl rfl rfl ?_); exact AOps.nil ⟨rfl, rfl⟩)
        exact RestK.nil
        refine RestI.skip rfl ?_
        apply RestI.cons; exact rfl; exact rfl
        first | refine RestK.skip rfl ?_ | (apply RestK.go; exact rfl; exact rfl; intro E; (refine AOps.assign rfl rfl ?_); exact AOps.nil ⟨rfl, rfl⟩)
        first | refine RestK.skip rfl ?_ | (apply RestK.go; exact rfl; exact rfl; intro E; (refine AOps.assign rfl rfl ?_); exact AOps.nil ⟨rfl, rfl⟩)
        exact RestK.nil
        exact RestI.nil
      dsimp only [envEnd]
      refine inB_normal ?_
      refine thn_normal ?_
      refine AWP.region ?_
      refine AOps.move rfl rfl ?_
      refine AOps.add rfl rfl rfl (by omega) ?_
      refine AOps.assign rfl rfl ?_
      refine AOps.nil ?_
      have ej := Option.some.inj h
      subst ej
      refine thn_normal ⟨_, rfl, ?_⟩
      exact (Sub.frzV (id := 1) (l := a29) (env2 := [(1, .c (row 1 intI a29)), (2, .c (row 1 intI plan)), (3, .c (.ptr 0 0 0)), (8, .c (int (iv5 + 1)))]) (σ2 := [.one (.cells 4 [[int t.facts, row 1 intI t.init, row 1 intI t.goal, row 4 eTOperator t.operators]]), .dead]) rfl rfl (by exact ⟨⟨_, rfl, .inr ⟨_, rfl, rfl, rfl⟩⟩, ⟨_, rfl, .inl ⟨rfl, rfl⟩⟩, ⟨_, rfl, .inl ⟨rfl, rfl⟩⟩, ⟨_, rfl, .inl ⟨rfl, rfl⟩⟩, trivial⟩) rfl (by exact ⟨⟨rfl, .inl ⟨rfl, rfl⟩, .inl ⟨rfl, rfl⟩, .inl ⟨rfl, rfl⟩, .inl ⟨rfl, rfl⟩, trivial⟩, trivial, trivial⟩)).trans (Sub.cut ⟨rfl, rfl, rfl, rfl, trivial⟩ rfl ⟨.one rfl, trivial⟩ rfl)
  · intro e s hq
    rcases oo with sv4 | x
    · try dsimp only at h hq
      obtain ⟨rfl, hs⟩ := hq
      refine ⟨_, hs, ?_⟩
      refine inB_exit ?_
      refine thn_normal ?_
      refine AWP.seq ?_
      refine AWP.region ?_
      refine AOps.move rfl rfl ?_
      refine AOps.assign rfl rfl ?_
      refine AOps.assign rfl rfl ?_
      refine AOps.nil ?_
      refine thn_normal ?_
      refine AWP.ret ?_
      have ej := Option.some.inj h
      subst ej
      exact Done.ret rfl rfl
    · try dsimp only at h hq
      obtain ⟨rfl, hs⟩ := hq
      refine ⟨_, Sub.refl _ _, ?_⟩
      refine inB_ret ?_
      refine thn_ret ?_
      have ej := Option.some.inj h
      subst ej
      exact hs
end Ab
end
section
namespace Ab
open Go Go.Proofs
set_option maxHeartbeats 4000000
set_option linter.all false
attribute [local irreducible] AWP AOps thn inB Done PureOk FreshOk Sub
theorem partialorder_Interfere_ok {t : TTask} {av : Int} {bv : Int} {r : Bool} (h : partialorder_Interfere t av bv = some r) : PureOk Tryd.prog 33 [.agg [int t.facts, row 1 intI t.init, row 1 intI t.goal, row 4 eTOperator t.operators], .c (int av), .c (int bv)] (.c (bool r)) := by
  unfold PureOk
  refine FnOk.enter (rs := [.t 6]) Tryd.func33 rfl Tryd.ntmps33 Tryd.results33 rfl ⟨trivial, trivial⟩ (by kernel_rfl) rfl ?_
  unfold partialorder_Interfere at h
  refine AWP.seq ?_
  refine AWP.region ?_
  refine W.box rfl rfl rfl rfl rfl rfl ?_
  refine AOps.assign rfl rfl ?_
  refine AOps.nil ?_
  refine thn_normal ?_
  refine AWP.seq ?_
  obtain ⟨a12, ha12, h⟩ := bind_some h
  obtain ⟨a17, ha17, h⟩ := bind_some h
  refine AWP.sub (s' := ⟨[(0, .agg [int t.facts, row 1 intI t.init, row 1 intI t.goal, row 4 eTOperator t.operators]), (1, .c (int av)), (2, .c (int bv)), (3, .c (.ptr 0 0 0)), (6, .c (bool false))], [.one (.cells 4 [[int t.facts, row 1 intI t.init, row 1 intI t.goal, row 4 eTOperator t.operators]]), .dead, .dead]⟩) (Sub.cut ⟨rfl, rfl, rfl, rfl, rfl, trivial⟩ rfl ⟨.one rfl, .dead, .dead, trivial⟩ rfl) ?_
  refine AWP.drawTI [.c (.ptr 0 0 3), .c (row 4 eTOperator t.operators), .c (int av), .c (.imm (.ipt [.sl 1 (List.map intI a12.pre), .sl 1 (List.map intI a12.add), .sl 1 (List.map intI a12.del), .val (.int .i64 a12.cost)])), .agg [row 1 intI a12.pre, row 1 intI a12.add, row 1 intI a12.del, int a12.cost], .c (.ptr 0 0 3), .c (row 4 eTOperator t.operators), .c (int bv), .c (.imm (.ipt [.sl 1 (List.map intI a17.pre), .sl 1 (List.map intI a17.add), .sl 1 (List.map intI a17.del), .val (.int .i64 a17.cost)])), .agg [row 1 intI a17.pre, row 1 intI a17.add, row 1 intI a17.del, int a17.cost], .c (.ptr 1 0 0), .c (.ptr 2 0 0), .undef, .undef] [10, 11, 12, 13] [([], [.one (.cells 4 [[int t.facts, row 1 intI t.init, row 1 intI t.goal, row 4 eTOperator t.operators]]), .dead, .dead]), ([10], [.one (.cells 4 [[int t.facts, row 1 intI t.init, row 1 intI t.goal, row 4 eTOperator t.operators]]), .one (.cells 4 [[.imm (.val (.slice none 0 0)), .imm (.val (.slice none 0 0)), .imm (.val (.slice none 0 0)), int 0]]), .dead]), ([11], [.one (.cells 4 [[int t.facts, row 1 intI t.init, row 1 intI t.goal, row 4 eTOperator t.operators]]), .dead, .one (.cells 4 [[.imm (.val (.slice none 0 0)), .imm (.val (.slice none 0 0)), .imm (.val (.slice none 0 0)), int 0]])]), ([10, 11], [.one (.cells 4 [[int t.facts, row 1 intI t.init, row 1 intI t.goal, row 4 eTOperator t.operators]]), .one (.cells 4 [[.imm (.val (.slice none 0 0)), .imm (.val (.slice none 0 0)), .imm (.val (.slice none 0 0)), int 0]]), .one (.cells 4 [[.imm (.val (.slice none 0 0)), .imm (.val (.slice none 0 0)), .imm (.val (.slice none 0 0)), int 0]])]), ([10, 11, 12], [.one (.cells 4 [[int t.facts, row 1 intI t.init, row 1 intI t.goal, row 4 eTOperator t.operators]]), .one (.cells 4 [[row 1 intI a12.pre, row 1 intI a12.add, row 1 intI a12.del, int a12.cost]]), .one (.cells 4 [[.imm (.val (.slice none 0 0)), .imm (.val (.slice none 0 0)), .imm (.val (.slice none 0 0)), int 0]])]), ([10, 11, 12, 13], [.one (.cells 4 [[int t.facts, row 1 intI t.init, row 1 intI t.goal, row 4 eTOperator t.operators]]), .one (.cells 4 [[row 1 intI a12.pre, row 1 intI a12.add, row 1 intI a12.del, int a12.cost]]), .one (.cells 4 [[row 1 intI a17.pre, row 1 intI a17.add, row 1 intI a17.del, int a17.cost]])])] [.one (.cells 4 [[int t.facts, row 1 intI t.init, row 1 intI t.goal, row 4 eTOperator t.operators]]), .one (.cells 4 [[row 1 intI a12.pre, row 1 intI a12.add, row 1 intI a12.del, int a12.cost]]), .one (.cells 4 [[row 1 intI a17.pre, row 1 intI a17.add, row 1 intI a17.del, int a17.cost]])] mixed rfl rfl rfl rfl rfl ?_ ?_
  · refine TabOk.cons ?_ ?_
    · apply EntOps.go; exact rfl; exact rfl; exact rfl; intro E hE; (refine W.fieldAddr rfl rfl rfl rfl ?_); exact AOps.nil ⟨rfl, rfl⟩
      apply EntOps.go; exact rfl; exact rfl; exact rfl; intro E hE; (refine AOps.load rfl rfl rfl rfl rfl rfl ?_); exact AOps.nil ⟨rfl, rfl⟩
      apply EntOps.go; exact rfl; exact rfl; exact rfl; intro E hE; (refine AOps.move rfl rfl ?_); exact AOps.nil ⟨rfl, rfl⟩
      apply EntOps.go; exact rfl; exact rfl; exact rfl; intro E hE; (refine S.idx ha12 rfl rfl rfl rfl ?_); exact AOps.nil ⟨rfl, rfl⟩
      apply EntOps.go; exact rfl; exact rfl; exact rfl; intro E hE; (refine W.loadIAgg rfl rfl rfl rfl rfl ?_); exact AOps.nil ⟨rfl, rfl⟩
      apply EntOps.go; exact rfl; exact rfl; exact rfl; intro E hE; (refine W.fieldAddr rfl rfl rfl rfl ?_); exact AOps.nil ⟨rfl, rfl⟩
      apply EntOps.go; exact rfl; exact rfl; exact rfl; intro E hE; (refine AOps.load rfl rfl rfl rfl rfl rfl ?_); exact AOps.nil ⟨rfl, rfl⟩
      apply EntOps.go; exact rfl; exact rfl; exact rfl; intro E hE; (refine AOps.move rfl rfl ?_); exact AOps.nil ⟨rfl, rfl⟩
      apply EntOps.go; exact rfl; exact rfl; exact rfl; intro E hE; (refine S.idx ha17 rfl rfl rfl rfl ?_); exact AOps.nil ⟨rfl, rfl⟩
      apply EntOps.go; exact rfl; exact rfl; exact rfl; intro E hE; (refine W.loadIAgg rfl rfl rfl rfl rfl ?_); exact AOps.nil ⟨rfl, rfl⟩
      apply EntOps.eff; exact rfl; exact rfl; exact rfl; exact rfl; intro E hE; (refine AOps.allocAt 1 hE rfl rfl rfl rfl rfl rfl rfl ⟨.one rfl, .dead, .dead, trivial⟩ rfl ?_); exact AOps.nil ⟨rfl, rfl⟩
      apply EntOps.eff; exact rfl; exact rfl; exact rfl; exact rfl; intro E hE; (refine AOps.allocAt 2 hE rfl rfl rfl rfl rfl rfl rfl ⟨.one rfl, .dead, .dead, trivial⟩ rfl ?_); exact AOps.nil ⟨rfl, rfl⟩
      refine EntOps.no rfl ?_
      refine EntOps.no rfl ?_
      exact EntOps.nil
    refine TabOk.cons ?_ ?_
    · apply EntOps.go; exact rfl; exact rfl; exact rfl; intro E hE; (refine W.fieldAddr rfl rfl rfl rfl ?_); exact AOps.nil ⟨rfl, rfl⟩
      apply EntOps.go; exact rfl; exact rfl; exact rfl; intro E hE; (refine AOps.load rfl rfl rfl rfl rfl rfl ?_); exact AOps.nil ⟨rfl, rfl⟩
      apply EntOps.go; exact rfl; exact rfl; exact rfl; intro E hE; (refine AOps.move rfl rfl ?_); exact AOps.nil ⟨rfl, rfl⟩
      apply EntOps.go; exact rfl; exact rfl; exact rfl; intro E hE; (refine S.idx ha12 rfl rfl rfl rfl ?_); exact AOps.nil ⟨rfl, rfl⟩
      apply EntOps.go; exact rfl; exact rfl; exact rfl; intro E hE; (refine W.loadIAgg rfl rfl rfl rfl rfl ?_); exact AOps.nil ⟨rfl, rfl⟩
      apply EntOps.go; exact rfl; exact rfl; exact rfl; intro E hE; (refine W.fieldAddr rfl rfl rfl rfl ?_); exact AOps.nil ⟨rfl, rfl⟩
      apply EntOps.go; exact rfl; exact rfl; exact rfl; intro E hE; (refine AOps.load rfl rfl rfl rfl rfl rfl ?_); exact AOps.nil ⟨rfl, rfl⟩
      apply EntOps.go; exact rfl; exact rfl; exact rfl; intro E hE; (refine AOps.move rfl rfl ?_); exact AOps.nil ⟨rfl, rfl⟩
      apply EntOps.go; exact rfl; exact rfl; exact rfl; intro E hE; (refine S.idx ha17 rfl rfl rfl rfl ?_); exact AOps.nil ⟨rfl, rfl⟩
      apply EntOps.go; exact rfl; exact rfl; exact rfl; intro E hE; (refine W.loadIAgg rfl rfl rfl rfl rfl ?_); exact AOps.nil ⟨rfl, rfl⟩
      refine EntOps.no rfl ?_
      apply EntOps.eff; exact rfl; exact rfl; exact rfl; exact rfl; intro E hE; (refine AOps.allocAt 2 hE rfl rfl rfl rfl rfl rfl rfl ⟨.one rfl, .one rfl, .dead, trivial⟩ rfl ?_); exact AOps.nil ⟨rfl, rfl⟩
      refine EntOps.no rfl ?_
      refine EntOps.no rfl ?_
      exact EntOps.nil
    refine TabOk.cons ?_ ?_
    · apply EntOps.go; exact rfl; exact rfl; exact rfl; intro E hE; (refine W.fieldAddr rfl rfl rfl rfl ?_); exact AOps.nil ⟨rfl, rfl⟩
      apply EntOps.go; exact rfl; exact rfl; exact rfl; intro E hE; (refine AOps.load rfl rfl rfl rfl rfl rfl ?_); exact AOps.nil ⟨rfl, rfl⟩
      apply EntOps.go; exact rfl; exact rfl; exact rfl; intro E hE; (refine AOps.move rfl rfl ?_); exact AOps.nil ⟨rfl, rfl⟩
      apply EntOps.go; exact rfl; exact rfl; exact rfl; intro E hE; (refine S.idx ha12 rfl rfl rfl rfl ?_); exact AOps.nil ⟨rfl, rfl⟩
      apply EntOps.go; exact rfl; exact rfl; exact rfl; intro E hE; (refine W.loadIAgg rfl rfl rfl rfl rfl ?_); exact AOps.nil ⟨rfl, rfl⟩
      apply EntOps.go; exact rfl; exact rfl; exact rfl; intro E hE; (refine W.fieldAddr rfl rfl rfl rfl ?_); exact AOps.nil ⟨rfl, rfl⟩
      apply EntOps.go; exact rfl; exact rfl; exact rfl; intro E hE; (refine AOps.load rfl rfl rfl rfl rfl rfl ?_); exact AOps.nil ⟨rfl, rfl⟩
      apply EntOps.go; exact rfl; exact rfl; exact rfl; intro E hE; (refine AOps.move rfl rfl ?_); exact AOps.nil ⟨rfl, rfl⟩
      apply EntOps.go; exact rfl; exact rfl; exact rfl; intro E hE; (refine S.idx ha17 rfl rfl rfl rfl ?_); exact AOps.nil ⟨rfl, rfl⟩
      apply EntOps.go; exact rfl; exact rfl; exact rfl; intro E hE; (refine W.loadIAgg rfl rfl rfl rfl rfl ?_); exact AOps.nil ⟨rfl, rfl⟩
      apply EntOps.eff; exact rfl; exact rfl; exact rfl; exact rfl; intro E hE; (refine AOps.allocAt 1 hE rfl rfl rfl rfl rfl rfl rfl ⟨.one rfl, .dead, .one rfl, trivial⟩ rfl ?_); exact AOps.nil ⟨rfl, rfl⟩
      refine EntOps.no rfl ?_
      refine EntOps.no rfl ?_
      refine EntOps.no rfl ?_
      exact EntOps.nil
    refine TabOk.cons ?_ ?_
    · apply EntOps.go; exact rfl; exact rfl; exact rfl; intro E hE; (refine W.fieldAddr rfl rfl rfl rfl ?_); exact AOps.nil ⟨rfl, rfl⟩
      apply EntOps.go; exact rfl; exact rfl; exact rfl; intro E hE; (refine AOps.load rfl rfl rfl rfl rfl rfl ?_); exact AOps.nil ⟨rfl, rfl⟩
      apply EntOps.go; exact rfl; exact rfl; exact rfl; intro E hE; (refine AOps.move rfl rfl ?_); exact AOps.nil ⟨rfl, rfl⟩
      apply EntOps.go; exact rfl; exact rfl; exact rfl; intro E hE; (refine S.idx ha12 rfl rfl rfl rfl ?_); exact AOps.nil ⟨rfl, rfl⟩
      apply EntOps.go; exact rfl; exact rfl; exact rfl; intro E hE; (refine W.loadIAgg rfl rfl rfl rfl rfl ?_); exact AOps.nil ⟨rfl, rfl⟩
      apply EntOps.go; exact rfl; exact rfl; exact rfl; intro E hE; (refine W.fieldAddr rfl rfl rfl rfl ?_); exact AOps.nil ⟨rfl, rfl⟩
      apply EntOps.go; exact rfl; exact rfl; exact rfl; intro E hE; (refine AOps.load rfl rfl rfl rfl rfl rfl ?_); exact AOps.nil ⟨rfl, rfl⟩
      apply EntOps.go; exact rfl; exact rfl; exact rfl; intro E hE; (refine AOps.move rfl rfl ?_); exact AOps.nil ⟨rfl, rfl⟩
      apply EntOps.go; exact rfl; exact rfl; exact rfl; intro E hE; (refine S.idx ha17 rfl rfl rfl rfl ?_); exact AOps.nil ⟨rfl, rfl⟩
      apply EntOps.go; exact rfl; exact rfl; exact rfl; intro E hE; (refine W.loadIAgg rfl rfl rfl rfl rfl ?_); exact AOps.nil ⟨rfl, rfl⟩
      refine EntOps.no rfl ?_
      refine EntOps.no rfl ?_
      apply EntOps.eff; exact rfl; exact rfl; exact rfl; exact rfl; intro E hE; (refine W.storeAgg rfl rfl rfl rfl rfl rfl rfl ?_); exact AOps.nil ⟨rfl, rfl⟩
      refine EntOps.no rfl ?_
      exact EntOps.nil
    refine TabOk.cons ?_ ?_
    · refine EntOps.no rfl ?_
      refine EntOps.no rfl ?_
      refine EntOps.no rfl ?_
      refine EntOps.no rfl ?_
      refine EntOps.no rfl ?_
      apply EntOps.go; exact rfl; exact rfl; exact rfl; intro E hE; (refine W.fieldAddr rfl rfl rfl rfl ?_); exact AOps.nil ⟨rfl, rfl⟩
      apply EntOps.go; exact rfl; exact rfl; exact rfl; intro E hE; (refine AOps.load rfl rfl rfl rfl rfl rfl ?_); exact AOps.nil ⟨rfl, rfl⟩
      apply EntOps.go; exact rfl; exact rfl; exact rfl; intro E hE; (refine AOps.move rfl rfl ?_); exact AOps.nil ⟨rfl, rfl⟩
      apply EntOps.go; exact rfl; exact rfl; exact rfl; intro E hE; (refine S.idx ha17 rfl rfl rfl rfl ?_); exact AOps.nil ⟨rfl, rfl⟩
      apply EntOps.go; exact rfl; exact rfl; exact rfl; intro E hE; (refine W.loadIAgg rfl rfl rfl rfl rfl ?_); exact AOps.nil ⟨rfl, rfl⟩
      refine EntOps.no rfl ?_
      refine EntOps.no rfl ?_
      refine EntOps.no rfl ?_
      apply EntOps.eff; exact rfl; exact rfl; exact rfl; exact rfl; intro E hE; (refine W.storeAgg rfl rfl rfl rfl rfl rfl rfl ?_); exact AOps.nil ⟨rfl, rfl⟩
      exact EntOps.nil
    refine TabOk.cons ?_ ?_
    · refine EntOps.no rfl ?_
      refine EntOps.no rfl ?_
      refine EntOps.no rfl ?_
      refine EntOps.no rfl ?_
      refine EntOps.no rfl ?_
      refine EntOps.no rfl ?_
      refine EntOps.no rfl ?_
      refine EntOps.no rfl ?_
      refine EntOps.no rfl ?_
      refine EntOps.no rfl ?_
      refine EntOps.no rfl ?_
      refine EntOps.no rfl ?_
      refine EntOps.no rfl ?_
      refine EntOps.no rfl ?_
      exact EntOps.nil
    exact TabOk.nil
  dsimp only [envEnd]
  refine thn_normal ?_
  obtain ⟨t4, hx5, h⟩ := bind_some h
  refine AWP.seqJ (⟨[(6, .c (bool t4))], []⟩) ?_ ?_
  · obtain ⟨a23, ha23, hx5⟩ := bind_some hx5
    rcases Bool.eq_false_or_eq_true (a23) with hb6 | hb6
    · replace hx5 := iteBT hb6 hx5
      refine AWP.region ?_
      refine W.fieldAddr rfl rfl rfl rfl ?_
      refine AOps.load rfl rfl rfl rfl rfl rfl ?_
      refine W.fieldAddr rfl rfl rfl rfl ?_
      refine AOps.load rfl rfl rfl rfl rfl rfl ?_
      refine AOps.callR rfl rfl rfl rfl (strips_Meets_ok ha23) rfl ?_
      refine AOps.move rfl rfl ?_
      refine AOps.guardF rfl rfl rfl hb6 ?_
      refine AOps.guardF rfl rfl rfl hb6 ?_
      refine AOps.guardF rfl rfl rfl hb6 ?_
      refine AOps.guardF rfl rfl rfl hb6 ?_
      refine AOps.guardF rfl rfl rfl hb6 ?_
      refine AOps.pickT rfl hb6 rfl rfl ?_
      refine AOps.move rfl rfl ?_
      refine AOps.guardF rfl rfl rfl rfl ?_
      refine AOps.guardF rfl rfl rfl rfl ?_
      refine AOps.guardF rfl rfl rfl rfl ?_
      refine AOps.guardF rfl rfl rfl rfl ?_
      refine AOps.guardF rfl rfl rfl rfl ?_
      refine AOps.pickT rfl rfl rfl rfl ?_
      refine AOps.move rfl rfl ?_
      refine AOps.guardF rfl rfl rfl rfl ?_
      refine AOps.guardF rfl rfl rfl rfl ?_
      refine AOps.guardF rfl rfl rfl rfl ?_
      refine AOps.guardF rfl rfl rfl rfl ?_
      refine AOps.guardF rfl rfl rfl rfl ?_
      refine AOps.pickT rfl rfl rfl rfl ?_
      refine AOps.move rfl rfl ?_
      refine AOps.guardF rfl rfl rfl rfl ?_
      refine AOps.guardF rfl rfl rfl rfl ?_
      refine AOps.guardF rfl rfl rfl rfl ?_
      refine AOps.guardF rfl rfl rfl rfl ?_
      refine AOps.guardF rfl rfl rfl rfl ?_
      refine AOps.pickT rfl rfl rfl rfl ?_
      refine AOps.move rfl rfl ?_
      refine AOps.guardF rfl rfl rfl rfl ?_
      refine AOps.guardF rfl rfl rfl rfl ?_
      refine AOps.guardF rfl rfl rfl rfl ?_
      refine AOps.guardF rfl rfl rfl rfl ?_
      refine AOps.guardF rfl rfl rfl rfl ?_
      refine AOps.pickT rfl rfl rfl rfl ?_
      refine AOps.assign rfl rfl ?_
      refine AOps.nil ?_
      have ej := Option.some.inj hx5
      subst ej
      refine thn_normal ?_
      exact Sub.cut ⟨rfl, trivial⟩ rfl trivial rfl
    · replace hx5 := iteBF hb6 hx5
      obtain ⟨a29, ha29, hx5⟩ := bind_some hx5
      rcases Bool.eq_false_or_eq_true (a29) with hb7 | hb7
      · replace hx5 := iteBT hb7 hx5
        refine AWP.region ?_
        refine W.fieldAddr rfl rfl rfl rfl ?_
        refine AOps.load rfl rfl rfl rfl rfl rfl ?_
        refine W.fieldAddr rfl rfl rfl rfl ?_
        refine AOps.load rfl rfl rfl rfl rfl rfl ?_
        refine AOps.callR rfl rfl rfl rfl (strips_Meets_ok ha23) rfl ?_
        refine AOps.move rfl rfl ?_
        refine AOps.guardT rfl rfl rfl hb6 ?_; refine W.fieldAddr rfl rfl rfl rfl ?_
        refine AOps.guardT rfl rfl rfl hb6 ?_; refine AOps.load rfl rfl rfl rfl rfl rfl ?_
        refine AOps.guardT rfl rfl rfl hb6 ?_; refine W.fieldAddr rfl rfl rfl rfl ?_
        refine AOps.guardT rfl rfl rfl hb6 ?_; refine AOps.load rfl rfl rfl rfl rfl rfl ?_
        refine AOps.guardT rfl rfl rfl hb6 ?_; refine AOps.callR rfl rfl rfl rfl (strips_Meets_ok ha29) rfl ?_
        refine AOps.pickF rfl hb6 rfl rfl ?_
        refine AOps.move rfl rfl ?_
        refine AOps.guardF rfl rfl rfl hb7 ?_
        refine AOps.guardF rfl rfl rfl hb7 ?_
        refine AOps.guardF rfl rfl rfl hb7 ?_
        refine AOps.guardF rfl rfl rfl hb7 ?_
        refine AOps.guardF rfl rfl rfl hb7 ?_
        refine AOps.pickT rfl hb7 rfl rfl ?_
        refine AOps.move rfl rfl ?_
        refine AOps.guardF rfl rfl rfl rfl ?_
        refine AOps.guardF rfl rfl rfl rfl ?_
        refine AOps.guardF rfl rfl rfl rfl ?_
        refine AOps.guardF rfl rfl rfl rfl ?_
        refine AOps.guardF rfl rfl rfl rfl ?_
        refine AOps.pickT rfl rfl rfl rfl ?_
        refine AOps.move rfl rfl ?_
        refine AOps.guardF rfl rfl rfl rfl ?_
        refine AOps.guardF rfl rfl rfl rfl ?_
        refine AOps.guardF rfl rfl rfl rfl ?_
        refine AOps.guardF rfl rfl rfl rfl ?_
        refine AOps.guardF rfl rfl rfl rfl ?_
        refine AOps.pickT rfl rfl rfl rfl ?_
        refine AOps.move rfl rfl ?_
        refine AOps.guardF rfl rfl rfl rfl ?_
        refine AOps.guardF rfl rfl rfl rfl ?_
        refine AOps.guardF rfl rfl rfl rfl ?_
        refine AOps.guardF rfl rfl rfl rfl ?_
        refine AOps.guardF rfl rfl rfl rfl ?_
        refine AOps.pickT rfl rfl rfl rfl ?_
        refine AOps.assign rfl rfl ?_
        refine AOps.nil ?_
        have ej := Option.some.inj hx5
        subst ej
        refine thn_normal ?_
        exact Sub.cut ⟨rfl, trivial⟩ rfl trivial rfl
      · replace hx5 := iteBF hb7 hx5
        obtain ⟨a36, ha36, hx5⟩ := bind_some hx5
        rcases Bool.eq_false_or_eq_true (a36) with hb8 | hb8
        · replace hx5 := iteBT hb8 hx5
          refine AWP.region ?_
          refine W.fieldAddr rfl rfl rfl rfl ?_
          refine AOps.load rfl rfl rfl rfl rfl rfl ?_
          refine W.fieldAddr rfl rfl rfl rfl ?_
          refine AOps.load rfl rfl rfl rfl rfl rfl ?_
          refine AOps.callR rfl rfl rfl rfl (strips_Meets_ok ha23) rfl ?_
          refine AOps.move rfl rfl ?_
          refine AOps.guardT rfl rfl rfl hb6 ?_; refine W.fieldAddr rfl rfl rfl rfl ?_
          refine AOps.guardT rfl rfl rfl hb6 ?_; refine AOps.load rfl rfl rfl rfl rfl rfl ?_
          refine AOps.guardT rfl rfl rfl hb6 ?_; refine W.fieldAddr rfl rfl rfl rfl ?_
          refine AOps.guardT rfl rfl rfl hb6 ?_; refine AOps.load rfl rfl rfl rfl rfl rfl ?_
          refine AOps.guardT rfl rfl rfl hb6 ?_; refine AOps.callR rfl rfl rfl rfl (strips_Meets_ok ha29) rfl ?_
          refine AOps.pickF rfl hb6 rfl rfl ?_
          refine AOps.move rfl rfl ?_
          refine AOps.guardT rfl rfl rfl hb7 ?_; refine W.fieldAddr rfl rfl rfl rfl ?_
          refine AOps.guardT rfl rfl rfl hb7 ?_; refine AOps.load rfl rfl rfl rfl rfl rfl ?_
          refine AOps.guardT rfl rfl rfl hb7 ?_; refine W.fieldAddr rfl rfl rfl rfl ?_
          refine AOps.guardT rfl rfl rfl hb7 ?_; refine AOps.load rfl rfl rfl rfl rfl rfl ?_
          refine AOps.guardT rfl rfl rfl hb7 ?_; refine AOps.callR rfl rfl rfl rfl (strips_Meets_ok ha36) rfl ?_
          refine AOps.pickF rfl hb7 rfl rfl ?_
          refine AOps.move rfl rfl ?_
          refine AOps.guardF rfl rfl rfl hb8 ?_
          refine AOps.guardF rfl rfl rfl hb8 ?_
          refine AOps.guardF rfl rfl rfl hb8 ?_
          refine AOps.guardF rfl rfl rfl hb8 ?_
          refine AOps.guardF rfl rfl rfl hb8 ?_
          refine AOps.pickT rfl hb8 rfl rfl ?_
          refine AOps.move rfl rfl ?_
          refine AOps.guardF rfl rfl rfl rfl ?_
          refine AOps.guardF rfl rfl rfl rfl ?_
          refine AOps.guardF rfl rfl rfl rfl ?_
          refine AOps.guardF rfl rfl rfl rfl ?_
          refine AOps.guardF rfl rfl rfl rfl ?_
          refine AOps.pickT rfl rfl rfl rfl ?_
          refine AOps.move rfl rfl ?_
          refine AOps.guardF rfl rfl rfl rfl ?_
          refine AOps.guardF rfl rfl rfl rfl ?_
          refine AOps.guardF rfl rfl rfl rfl ?_
          refine AOps.guardF rfl rfl rfl rfl ?_
          refine AOps.guardF rfl rfl rfl rfl ?_
          refine AOps.pickT rfl rfl rfl rfl ?_
          refine AOps.assign rfl rfl ?_
          refine AOps.nil ?_
          have ej := Option.some.inj hx5
          subst ej
          refine thn_normal ?_
          exact Sub.cut ⟨rfl, trivial⟩ rfl trivial rfl
        · replace hx5 := iteBF hb8 hx5
          obtain ⟨a43, ha43, hx5⟩ := bind_some hx5
          rcases Bool.eq_false_or_eq_true (a43) with hb9 | hb9
          · replace hx5 := iteBT hb9 hx5
            refine AWP.region ?_
            refine W.fieldAddr rfl rfl rfl rfl ?_
            refine AOps.load rfl rfl rfl rfl rfl rfl ?_
            refine W.fieldAddr rfl rfl rfl rfl ?_
            refine AOps.load rfl rfl rfl rfl rfl rfl ?_
            refine AOps.callR rfl rfl rfl rfl (strips_Meets_ok ha23) rfl ?_
            refine AOps.move rfl rfl ?_
            refine AOps.guardT rfl rfl rfl hb6 ?_; refine W.fieldAddr rfl rfl rfl rfl ?_
            refine AOps.guardT rfl rfl rfl hb6 ?_; refine AOps.load rfl rfl rfl rfl rfl rfl ?_
            refine AOps.guardT rfl rfl rfl hb6 ?_; refine W.fieldAddr rfl rfl rfl rfl ?_
            refine AOps.guardT rfl rfl rfl hb6 ?_; refine AOps.load rfl rfl rfl rfl rfl rfl ?_
            refine AOps.guardT rfl rfl rfl hb6 ?_; refine AOps.callR rfl rfl rfl rfl (strips_Meets_ok ha29) rfl ?_
            refine AOps.pickF rfl hb6 rfl rfl ?_
            refine AOps.move rfl rfl ?_
            refine AOps.guardT rfl rfl rfl hb7 ?_; refine W.fieldAddr rfl rfl rfl rfl ?_
            refine AOps.guardT rfl rfl rfl hb7 ?_; refine AOps.load rfl rfl rfl rfl rfl rfl ?_
            refine AOps.guardT rfl rfl rfl hb7 ?_; refine W.fieldAddr rfl rfl rfl rfl ?_
            refine AOps.guardT rfl rfl rfl hb7 ?_; refine AOps.load rfl rfl rfl rfl rfl rfl ?_
            refine AOps.guardT rfl rfl rfl hb7 ?_; refine AOps.callR rfl rfl rfl rfl (strips_Meets_ok ha36) rfl ?_
            refine AOps.pickF rfl hb7 rfl rfl ?_
            refine AOps.move rfl rfl ?_
            refine AOps.guardT rfl rfl rfl hb8 ?_; refine W.fieldAddr rfl rfl rfl rfl ?_
            refine AOps.guardT rfl rfl rfl hb8 ?_; refine AOps.load rfl rfl rfl rfl rfl rfl ?_
            refine AOps.guardT rfl rfl rfl hb8 ?_; refine W.fieldAddr rfl rfl rfl rfl ?_
            refine AOps.guardT rfl rfl rfl hb8 ?_; refine AOps.load rfl rfl rfl rfl rfl rfl ?_
            refine AOps.guardT rfl rfl rfl hb8 ?_; refine AOps.callR rfl rfl rfl rfl (strips_Meets_ok ha43) rfl ?_
            refine AOps.pickF rfl hb8 rfl rfl ?_
            refine AOps.move rfl rfl ?_
            refine AOps.guardF rfl rfl rfl hb9 ?_
            refine AOps.guardF rfl rfl rfl hb9 ?_
            refine AOps.guardF rfl rfl rfl hb9 ?_
            refine AOps.guardF rfl rfl rfl hb9 ?_
            refine AOps.guardF rfl rfl rfl hb9 ?_
            refine AOps.pickT rfl hb9 rfl rfl ?_
            refine AOps.move rfl rfl ?_
            refine AOps.guardF rfl rfl rfl rfl ?_
            refine AOps.guardF rfl rfl rfl rfl ?_
            refine AOps.guardF rfl rfl rfl rfl ?_
            refine AOps.guardF rfl rfl rfl rfl ?_
            refine AOps.guardF rfl rfl rfl rfl ?_
            refine AOps.pickT rfl rfl rfl rfl ?_
            refine AOps.assign rfl rfl ?_
            refine AOps.nil ?_
            have ej := Option.some.inj hx5
            subst ej
            refine thn_normal ?_
            exact Sub.cut ⟨rfl, trivial⟩ rfl trivial rfl
          · replace hx5 := iteBF hb9 hx5
            obtain ⟨a50, ha50, hx5⟩ := bind_some hx5
            rcases Bool.eq_false_or_eq_true (a50) with hb10 | hb10
            · replace hx5 := iteBT hb10 hx5
              refine AWP.region ?_
              refine W.fieldAddr rfl rfl rfl rfl ?_
              refine AOps.load rfl rfl rfl rfl rfl rfl ?_
              refine W.fieldAddr rfl rfl rfl rfl ?_
              refine AOps.load rfl rfl rfl rfl rfl rfl ?_
              refine AOps.callR rfl rfl rfl rfl (strips_Meets_ok ha23) rfl ?_
              refine AOps.move rfl rfl ?_
              refine AOps.guardT rfl rfl rfl hb6 ?_; refine W.fieldAddr rfl rfl rfl rfl ?_
              refine AOps.guardT rfl rfl rfl hb6 ?_; refine AOps.load rfl rfl rfl rfl rfl rfl ?_
              refine AOps.guardT rfl rfl rfl hb6 ?_; refine W.fieldAddr rfl rfl rfl rfl ?_
              refine AOps.guardT rfl rfl rfl hb6 ?_; refine AOps.load rfl rfl rfl rfl rfl rfl ?_
              refine AOps.guardT rfl rfl rfl hb6 ?_; refine AOps.callR rfl rfl rfl rfl (strips_Meets_ok ha29) rfl ?_
              refine AOps.pickF rfl hb6 rfl rfl ?_
              refine AOps.move rfl rfl ?_
              refine AOps.guardT rfl rfl rfl hb7 ?_; refine W.fieldAddr rfl rfl rfl rfl ?_
              refine AOps.guardT rfl rfl rfl hb7 ?_; refine AOps.load rfl rfl rfl rfl rfl rfl ?_
              refine AOps.guardT rfl rfl rfl hb7 ?_; refine W.fieldAddr rfl rfl rfl rfl ?_
              refine AOps.guardT rfl rfl rfl hb7 ?_; refine AOps.load rfl rfl rfl rfl rfl rfl ?_
              refine AOps.guardT rfl rfl rfl hb7 ?_; refine AOps.callR rfl rfl rfl rfl (strips_Meets_ok ha36) rfl ?_
              refine AOps.pickF rfl hb7 rfl rfl ?_
              refine AOps.move rfl rfl ?_
              refine AOps.guardT rfl rfl rfl hb8 ?_; refine W.fieldAddr rfl rfl rfl rfl ?_
              refine AOps.guardT rfl rfl rfl hb8 ?_; refine AOps.load rfl rfl rfl rfl rfl rfl ?_
              refine AOps.guardT rfl rfl rfl hb8 ?_; refine W.fieldAddr rfl rfl rfl rfl ?_
              refine AOps.guardT rfl rfl rfl hb8 ?_; refine AOps.load rfl rfl rfl rfl rfl rfl ?_
              refine AOps.guardT rfl rfl rfl hb8 ?_; refine AOps.callR rfl rfl rfl rfl (strips_Meets_ok ha43) rfl ?_
              refine AOps.pickF rfl hb8 rfl rfl ?_
              refine AOps.move rfl rfl ?_
              refine AOps.guardT rfl rfl rfl hb9 ?_; refine W.fieldAddr rfl rfl rfl rfl ?_
              refine AOps.guardT rfl rfl rfl hb9 ?_; refine AOps.load rfl rfl rfl rfl rfl rfl ?_
              refine AOps.guardT rfl rfl rfl hb9 ?_; refine W.fieldAddr rfl rfl rfl rfl ?_
              refine AOps.guardT rfl rfl rfl hb9 ?_; refine AOps.load rfl rfl rfl rfl rfl rfl ?_
              refine AOps.guardT rfl rfl rfl hb9 ?_; refine AOps.callR rfl rfl rfl rfl (strips_Meets_ok ha50) rfl ?_
              refine AOps.pickF rfl hb9 rfl rfl ?_
              refine AOps.move rfl rfl ?_
              refine AOps.guardF rfl rfl rfl hb10 ?_
              refine AOps.guardF rfl rfl rfl hb10 ?_
              refine AOps.guardF rfl rfl rfl hb10 ?_
              refine AOps.guardF rfl rfl rfl hb10 ?_
              refine AOps.guardF rfl rfl rfl hb10 ?_
              refine AOps.pickT rfl hb10 rfl rfl ?_
              refine AOps.assign rfl rfl ?_
              refine AOps.nil ?_
              have ej := Option.some.inj hx5
              subst ej
              refine thn_normal ?_
              exact Sub.cut ⟨rfl, trivial⟩ rfl trivial rfl
            · replace hx5 := iteBF hb10 hx5
              obtain ⟨a57, ha57, hx5⟩ := bind_some hx5
              refine AWP.region ?_
              refine W.fieldAddr rfl rfl rfl rfl ?_
              refine AOps.load rfl rfl rfl rfl rfl rfl ?_
              refine W.fieldAddr rfl rfl rfl rfl ?_
              refine AOps.load rfl rfl rfl rfl rfl rfl ?_
              refine AOps.callR rfl rfl rfl rfl (strips_Meets_ok ha23) rfl ?_
              refine AOps.move rfl rfl ?_
              refine AOps.guardT rfl rfl rfl hb6 ?_; refine W.fieldAddr rfl rfl rfl rfl ?_
              refine AOps.guardT rfl rfl rfl hb6 ?_; refine AOps.load rfl rfl rfl rfl rfl rfl ?_
              refine AOps.guardT rfl rfl rfl hb6 ?_; refine W.fieldAddr rfl rfl rfl rfl ?_
              refine AOps.guardT rfl rfl rfl hb6 ?_; refine AOps.load rfl rfl rfl rfl rfl rfl ?_
              refine AOps.guardT rfl rfl rfl hb6 ?_; refine AOps.callR rfl rfl rfl rfl (strips_Meets_ok ha29) rfl ?_
              refine AOps.pickF rfl hb6 rfl rfl ?_
              refine AOps.move rfl rfl ?_
              refine AOps.guardT rfl rfl rfl hb7 ?_; refine W.fieldAddr rfl rfl rfl rfl ?_
              refine AOps.guardT rfl rfl rfl hb7 ?_; refine AOps.load rfl rfl rfl rfl rfl rfl ?_
              refine AOps.guardT rfl rfl rfl hb7 ?_; refine W.fieldAddr rfl rfl rfl rfl ?_
              refine AOps.guardT rfl rfl rfl hb7 ?_; refine AOps.load rfl rfl rfl rfl rfl rfl ?_
              refine AOps.guardT rfl rfl rfl hb7 ?_; refine AOps.callR rfl rfl rfl rfl (strips_Meets_ok ha36) rfl ?_
              refine AOps.pickF rfl hb7 rfl rfl ?_
              refine AOps.move rfl rfl ?_
              refine AOps.guardT rfl rfl rfl hb8 ?_; refine W.fieldAddr rfl rfl rfl rfl ?_
              refine AOps.guardT rfl rfl rfl hb8 ?_; refine AOps.load rfl rfl rfl rfl rfl rfl ?_
              refine AOps.guardT rfl rfl rfl hb8 ?_; refine W.fieldAddr rfl rfl rfl rfl ?_
              refine AOps.guardT rfl rfl rfl hb8 ?_; refine AOps.load rfl rfl rfl rfl rfl rfl ?_
              refine AOps.guardT rfl rfl rfl hb8 ?_; refine AOps.callR rfl rfl rfl rfl (strips_Meets_ok ha43) rfl ?_
              refine AOps.pickF rfl hb8 rfl rfl ?_
              refine AOps.move rfl rfl ?_
              refine AOps.guardT rfl rfl rfl hb9 ?_; refine W.fieldAddr rfl rfl rfl rfl ?_
              refine AOps.guardT rfl rfl rfl hb9 ?_; refine AOps.load rfl rfl rfl rfl rfl rfl ?_
              refine AOps.guardT rfl rfl rfl hb9 ?_; refine W.fieldAddr rfl rfl rfl rfl ?_
              refine AOps.guardT rfl rfl rfl hb9 ?_; refine AOps.load rfl rfl rfl rfl rfl rfl ?_
              refine AOps.guardT rfl rfl rfl hb9 ?_; refine AOps.callR rfl rfl rfl rfl (strips_Meets_ok ha50) rfl ?_
              refine AOps.pickF rfl hb9 rfl rfl ?_
              refine AOps.move rfl rfl ?_
              refine AOps.guardT rfl rfl rfl hb10 ?_; refine W.fieldAddr rfl rfl rfl rfl ?_
              refine AOps.guardT rfl rfl rfl hb10 ?_; refine AOps.load rfl rfl rfl rfl rfl rfl ?_
              refine AOps.guardT rfl rfl rfl hb10 ?_; refine W.fieldAddr rfl rfl rfl rfl ?_
              refine AOps.guardT rfl rfl rfl hb10 ?_; refine AOps.load rfl rfl rfl rfl rfl rfl ?_
              refine AOps.guardT rfl rfl rfl hb10 ?_; refine AOps.callR rfl rfl rfl rfl (strips_Meets_ok ha57) rfl ?_
              refine AOps.pickF rfl hb10 rfl rfl ?_
              refine AOps.assign rfl rfl ?_
              refine AOps.nil ?_
              have ej := Option.some.inj hx5
              subst ej
              refine thn_normal ?_
              exact Sub.cut ⟨rfl, trivial⟩ rfl trivial rfl
  · refine AWP.ret ?_
    have ej := Option.some.inj h
    subst ej
    exact Done.ret rfl rfl
theorem merging_Conflicts_ok {t : TTask} {plans : List (List Int)} {r : (List (Int × Int × Int × Int)) × TFault} (h : merging_Conflicts t plans = some r) : PureOk Tryd.prog 15 [.agg [int t.facts, row 1 intI t.init, row 1 intI t.goal, row 4 eTOperator t.operators], .c (row 1 eLi64 plans)] (.tup [.c (row 4 eA4i64 r.1), .agg [int r.2.code, int r.2.index]]) := by
  unfold PureOk
  refine FnOk.enter (rs := [.t 4, .cell 5 28 2]) Tryd.func15 rfl Tryd.ntmps15 Tryd.results15 rfl ⟨trivial, rv _ rfl, trivial⟩ (by kernel_rfl) rfl ?_
  unfold merging_Conflicts at h
  refine AWP.seq ?_
  refine AWP.region ?_
  refine W.box rfl rfl rfl rfl rfl rfl ?_
  refine AOps.assign rfl rfl ?_
  refine W.alloc rfl rfl rfl rfl ?_
  refine AOps.nil ?_
  refine thn_normal ?_
  refine AWP.seq ?_
  refine AWP.seq ?_
  obtain ⟨a17, ha17, h⟩ := bind_some h
  obtain ⟨a19, ha19, h⟩ := bind_some h
  refine AWP.sub (s' := ⟨[(0, .agg [int t.facts, row 1 intI t.init, row 1 intI t.goal, row 4 eTOperator t.operators]), (1, .c (row 1 eLi64 plans)), (2, .c (.ptr 0 0 0)), (4, .c (.imm (.val (.slice none 0 0)))), (5, .c (.ptr 1 0 0))], [.one (.cells 4 [[int t.facts, row 1 intI t.init, row 1 intI t.goal, row 4 eTOperator t.operators]]), .one (.cells 2 [[int 0, int 0]]), .dead, .dead]⟩) (Sub.cut ⟨rfl, rfl, rfl, rfl, rfl, trivial⟩ rfl ⟨.one rfl, .one rfl, .dead, .dead, trivial⟩ rfl) ?_
  refine AWP.drawTI [.agg [int t.facts, row 1 intI t.init, row 1 intI t.goal, row 4 eTOperator t.operators], .c (row 1 eLi64 plans), .c (int (plans.length : Int)), .c (.own 2 0 a17.length), .c (row 1 eLi64 plans), .agg [int a19.code, int a19.index], .c (.ptr 3 0 0), .undef] [3, 6, 7] [([], [.one (.cells 4 [[int t.facts, row 1 intI t.init, row 1 intI t.goal, row 4 eTOperator t.operators]]), .one (.cells 2 [[int 0, int 0]]), .dead, .dead]), ([3], [.one (.cells 4 [[int t.facts, row 1 intI t.init, row 1 intI t.goal, row 4 eTOperator t.operators]]), .one (.cells 2 [[int 0, int 0]]), .one (vec 1 eLi64 a17), .dead]), ([6], [.one (.cells 4 [[int t.facts, row 1 intI t.init, row 1 intI t.goal, row 4 eTOperator t.operators]]), .one (.cells 2 [[int 0, int 0]]), .dead, .one (.cells 2 [[int 0, int 0]])]), ([3, 6], [.one (.cells 4 [[int t.facts, row 1 intI t.init, row 1 intI t.goal, row 4 eTOperator t.operators]]), .one (.cells 2 [[int 0, int 0]]), .one (vec 1 eLi64 a17), .one (.cells 2 [[int 0, int 0]])]), ([3, 6, 7], [.one (.cells 4 [[int t.facts, row 1 intI t.init, row 1 intI t.goal, row 4 eTOperator t.operators]]), .one (.cells 2 [[int 0, int 0]]), .one (vec 1 eLi64 a17), .one (.cells 2 [[int a19.code, int a19.index]])])] [.one (.cells 4 [[int t.facts, row 1 intI t.init, row 1 intI t.goal, row 4 eTOperator t.operators]]), .one (.cells 2 [[int 0, int 0]]), .one (vec 1 eLi64 a17), .one (.cells 2 [[int a19.code, int a19.index]])] mixed rfl rfl rfl rfl rfl ?_ ?_
  · refine TabOk.cons ?_ ?_
    · apply EntOps.go; exact rfl; exact rfl; exact rfl; intro E hE; (refine W.loadAgg rfl rfl rfl rfl rfl rfl rfl ?_); exact AOps.nil ⟨rfl, rfl⟩
      apply EntOps.go; exact rfl; exact rfl; exact rfl; intro E hE; (refine AOps.move rfl rfl ?_); exact AOps.nil ⟨rfl, rfl⟩
      apply EntOps.go; exact rfl; exact rfl; exact rfl; intro E hE; (refine S.len rfl rfl (fun hl16 => ?_)); exact AOps.nil ⟨rfl, rfl⟩
      apply EntOps.eff; exact rfl; exact rfl; exact rfl; exact rfl; intro E hE; (refine AOps.newAt 2 (.c (.own 2 0 a17.length)) (vec 1 eLi64 a17) (.inl rfl) rfl hE rfl rfl rfl rfl (.vec) (.vec) rfl rfl rfl ⟨.one rfl, .one rfl, .dead, .dead, trivial⟩ (fun hh => by (refine S.make (f := eLi64) ha17 (.row .nil) rfl rfl rfl rfl rfl rfl ?_; exact hh)) ?_); exact AOps.nil ⟨rfl, rfl⟩
      apply EntOps.go; exact rfl; exact rfl; exact rfl; intro E hE; (refine AOps.move rfl rfl ?_); exact AOps.nil ⟨rfl, rfl⟩
      refine EntOps.no rfl ?_
      apply EntOps.eff; exact rfl; exact rfl; exact rfl; exact rfl; intro E hE; (refine AOps.allocAt 3 hE rfl rfl rfl rfl rfl rfl rfl ⟨.one rfl, .one rfl, .dead, .dead, trivial⟩ rfl ?_); exact AOps.nil ⟨rfl, rfl⟩
      refine EntOps.no rfl ?_
      exact EntOps.nil
    refine TabOk.cons ?_ ?_
    · apply EntOps.go; exact rfl; exact rfl; exact rfl; intro E hE; (refine W.loadAgg rfl rfl rfl rfl rfl rfl rfl ?_); exact AOps.nil ⟨rfl, rfl⟩
      refine EntOps.no rfl ?_
      refine EntOps.no rfl ?_
      refine EntOps.no rfl ?_
      apply EntOps.go; exact rfl; exact rfl; exact rfl; intro E hE; (refine AOps.move rfl rfl ?_); exact AOps.nil ⟨rfl, rfl⟩
      apply EntOps.go; exact rfl; exact rfl; exact rfl; intro E hE; (refine AOps.callL rfl rfl (.cons (.agg (.cons .imm (.cons .imm (.cons .imm (.cons .imm .nil))))) (.cons (.c (.own rfl rfl)) (.cons (.c .imm) .nil))) rfl (merging_check_ok ha19) rfl ?_); exact AOps.nil ⟨rfl, rfl⟩
      apply EntOps.eff; exact rfl; exact rfl; exact rfl; exact rfl; intro E hE; (refine AOps.allocAt 3 hE rfl rfl rfl rfl rfl rfl rfl ⟨.one rfl, .one rfl, .vec, .dead, trivial⟩ rfl ?_); exact AOps.nil ⟨rfl, rfl⟩
      refine EntOps.no rfl ?_
      exact EntOps.nil
    refine TabOk.cons ?_ ?_
    · apply EntOps.go; exact rfl; exact rfl; exact rfl; intro E hE; (refine W.loadAgg rfl rfl rfl rfl rfl rfl rfl ?_); exact AOps.nil ⟨rfl, rfl⟩
      apply EntOps.go; exact rfl; exact rfl; exact rfl; intro E hE; (refine AOps.move rfl rfl ?_); exact AOps.nil ⟨rfl, rfl⟩
      apply EntOps.go; exact rfl; exact rfl; exact rfl; intro E hE; (refine S.len rfl rfl (fun hl16 => ?_)); exact AOps.nil ⟨rfl, rfl⟩
      apply EntOps.eff; exact rfl; exact rfl; exact rfl; exact rfl; intro E hE; (refine AOps.newAt 2 (.c (.own 2 0 a17.length)) (vec 1 eLi64 a17) (.inl rfl) rfl hE rfl rfl rfl rfl (.vec) (.vec) rfl rfl rfl ⟨.one rfl, .one rfl, .dead, .one rfl, trivial⟩ (fun hh => by (refine S.make (f := eLi64) ha17 (.row .nil) rfl rfl rfl rfl rfl rfl ?_; exact hh)) ?_); exact AOps.nil ⟨rfl, rfl⟩
      apply EntOps.go; exact rfl; exact rfl; exact rfl; intro E hE; (refine AOps.move rfl rfl ?_); exact AOps.nil ⟨rfl, rfl⟩
      refine EntOps.no rfl ?_
      refine EntOps.no rfl ?_
      refine EntOps.no rfl ?_
      exact EntOps.nil
    refine TabOk.cons ?_ ?_
    · apply EntOps.go; exact rfl; exact rfl; exact rfl; intro E hE; (refine W.loadAgg rfl rfl rfl rfl rfl rfl rfl ?_); exact AOps.nil ⟨rfl, rfl⟩
      refine EntOps.no rfl ?_
      refine EntOps.no rfl ?_
      refine EntOps.no rfl ?_
      apply EntOps.go; exact rfl; exact rfl; exact rfl; intro E hE; (refine AOps.move rfl rfl ?_); exact AOps.nil ⟨rfl, rfl⟩
      apply EntOps.go; exact rfl; exact rfl; exact rfl; intro E hE; (refine AOps.callL rfl rfl (.cons (.agg (.cons .imm (.cons .imm (.cons .imm (.cons .imm .nil))))) (.cons (.c (.own rfl rfl)) (.cons (.c .imm) .nil))) rfl (merging_check_ok ha19) rfl ?_); exact AOps.nil ⟨rfl, rfl⟩
      refine EntOps.no rfl ?_
      apply EntOps.eff; exact rfl; exact rfl; exact rfl; exact rfl; intro E hE; (refine W.storeAgg rfl rfl rfl rfl rfl rfl rfl ?_); exact AOps.nil ⟨rfl, rfl⟩
      exact EntOps.nil
    refine TabOk.cons ?_ ?_
    · refine EntOps.no rfl ?_
      refine EntOps.no rfl ?_
      refine EntOps.no rfl ?_
      refine EntOps.no rfl ?_
      refine EntOps.no rfl ?_
      refine EntOps.no rfl ?_
      refine EntOps.no rfl ?_
      refine EntOps.no rfl ?_
      exact EntOps.nil
    exact TabOk.nil
  dsimp only [envEnd]
  refine thn_normal ?_
  refine AWP.seq ?_
  refine AWP.region ?_
  refine W.loadAgg rfl rfl rfl rfl rfl rfl rfl ?_
  refine W.build rfl rfl rfl rfl ?_
  refine AOps.neqP rfl rfl rfl rfl rfl rfl rfl ?_
  refine AOps.nil ?_
  refine thn_normal ?_
  refine AWP.iteB rfl h (fun hc3 h => ?_) (fun hc3 h => ?_)
  · refine AWP.seq ?_
    refine AWP.drawEI [2] mixed rfl rfl rfl ?_
    apply DrawSeqE.consN; exact rfl; exact rfl; intro E
    refine W.loadAgg rfl rfl rfl rfl rfl rfl rfl ?_
    exact AOps.nil ⟨rfl, rfl⟩
    exact rfl
    apply DrawSeqE.consN; exact rfl; exact rfl; intro E
    refine AOps.assign rfl rfl ?_
    exact AOps.nil ⟨rfl, rfl⟩
    exact rfl
    apply DrawSeqE.consE (v := .undef); exact rfl; exact rfl; intro E
    refine W.storeAgg rfl rfl rfl rfl rfl rfl rfl ?_
    exact AOps.nil ⟨rfl, rfl⟩
    exact rfl
    exact rfl
    refine DrawSeqE.done rfl ?_ ?_
    · apply RestI.cons; exact rfl; exact rfl
      first | refine RestK.skip rfl ?_ | (apply RestK.go; exact rfl; exact rfl; intro E; (refine W.loadAgg rfl rfl rfl rfl rfl rfl rfl ?_); exact AOps.nil ⟨rfl, rfl⟩)
      first | refine RestK.skip rfl ?_ | (apply RestK.go; exact rfl; exact rfl; intro E; (refine W.loadAgg rfl rfl rfl rfl rfl rfl rfl ?_); exact AOps.nil ⟨rfl, rfl⟩)
      exact RestK.nil
      apply RestI.cons; exact rfl; exact rfl
      first | refine RestK.skip rfl ?_ | (apply RestK.go; exact rfl; exact rfl; intro E; (refine AOps.assign rfl rfl ?_); exact AOps.nil ⟨rfl, rfl⟩)
      first | refine RestK.skip rfl ?_ | (apply RestK.go; exact rfl; exact rfl; intro E; (refine AOps.assign rfl rfl ?_); exact AOps.nil ⟨rfl, rfl⟩)
      exact RestK.nil
      refine RestI.skip rfl ?_
      exact RestI.nil
    dsimp only [envEnd]
    refine thn_normal ?_
    refine AWP.nilrow 4 4 rfl ?_
    refine AWP.ret ?_
    refine thn_ret ?_
    have ej := Option.some.inj h
    subst ej
    exact Done.ret rfl rfl
  · refine AWP.skip ?_
    refine thn_normal ?_
    refine AWP.seq ?_
    refine AWP.region ?_
    refine AOps.assign rfl rfl ?_
    refine AOps.nil ?_
    refine thn_normal ?_
    refine AWP.seq ?_
    refine AWP.seq ?_
    refine AWP.region ?_
    refine AOps.move rfl rfl ?_
    refine S.len rfl rfl (fun hl25 => ?_)
    refine AOps.move rfl rfl ?_
    refine AOps.nil ?_
    refine thn_normal ?_
    refine AWP.block ?_
    refine AWP.virtV 4 eA4i64 7 rfl rfl rfl ?_
    obtain ⟨c4, ho1, h⟩ := bind_some h
    refine AWP.forS ho1 (fun t5 c4 => ⟨[(1, .c (row 1 eLi64 plans)), (2, .c (.ptr 0 0 0)), (5, .c (.ptr 1 0 0)), (7, .c (.own 4 0 c4.length)), (25, .c (int (plans.length : Int))), (26, .c (int t5))], [.one (.cells 4 [[int t.facts, row 1 intI t.init, row 1 intI t.goal, row 4 eTOperator t.operators]]), .one (.cells 2 [[int 0, int 0]]), .dead, .dead, .one (vec 4 eA4i64 c4)]⟩) (fun c4 e st => e = .exit 0 ∧ Sub [] st ⟨[(5, .c (.ptr 1 0 0)), (7, .c (.own 4 0 c4.length))], [.one (.cells 4 [[int t.facts, row 1 intI t.init, row 1 intI t.goal, row 4 eTOperator t.operators]]), .one (.cells 2 [[int 0, int 0]]), .dead, .dead, .one (vec 4 eA4i64 c4)]⟩) ?_ ?_ ?_ ?_
    · try dsimp only
      exact Sub.cut ⟨rfl, rfl, rfl, (own_len (by first | rfl | simp only [List.length_set])), rfl, rfl, trivial⟩ rfl ⟨.one rfl, .one rfl, .dead, .dead, .vec, trivial⟩ rfl
    · intro t5 c4 hlot5 hltt5 _
      try dsimp only
      refine AWP.seq ?_
      refine AWP.region ?_
      refine AOps.lss rfl rfl rfl ?_
      refine AOps.nil ?_
      refine thn_normal ?_
      refine AWP.seq ?_
      refine AWP.condNP rfl hltt5 ?_
      refine AWP.exit ?_
      refine thn_exit ?_
      refine thn_exit ⟨rfl, ?_⟩
      exact Sub.env ⟨rfl, rfl, trivial⟩
    · intro t5 c4 o hlot5 hltt5 h
      unfold merging_Conflicts_l1 at h
      try dsimp only at h ⊢
      refine AWP.seq ?_
      refine AWP.region ?_
      refine AOps.lss rfl rfl rfl ?_
      refine AOps.nil ?_
      refine thn_normal ?_
      refine AWP.seq ?_
      refine AWP.condP rfl hltt5 ?_
      refine AWP.skip ?_
      refine thn_normal ?_
      refine AWP.seq ?_
      refine AWP.block ?_
      refine AWP.seq ?_
      refine AWP.region ?_
      refine AOps.move rfl rfl ?_
      refine AOps.assign rfl rfl ?_
      refine AOps.nil ?_
      refine thn_normal ?_
      refine AWP.seq ?_
      refine AWP.region ?_
      refine AOps.move rfl rfl ?_
      refine AOps.add rfl rfl rfl (by omega) ?_
      refine AOps.assign rfl rfl ?_
      refine AOps.nil ?_
      refine thn_normal ?_
      refine AWP.block ?_
      obtain ⟨c6, ho2, h⟩ := bind_some h
      refine AWP.forS ho2 (fun bv7 c6 => ⟨[(1, .c (row 1 eLi64 plans)), (2, .c (.ptr 0 0 0)), (5, .c (.ptr 1 0 0)), (7, .c (.own 4 0 c6.length)), (8, .c (int t5)), (9, .c (int bv7)), (25, .c (int (plans.length : Int))), (26, .c (int t5))], [.one (.cells 4 [[int t.facts, row 1 intI t.init, row 1 intI t.goal, row 4 eTOperator t.operators]]), .one (.cells 2 [[int 0, int 0]]), .dead, .dead, .one (vec 4 eA4i64 c6)]⟩) (fun c6 e st => e = .exit 2 ∧ Sub [] st ⟨[(1, .c (row 1 eLi64 plans)), (2, .c (.ptr 0 0 0)), (5, .c (.ptr 1 0 0)), (7, .c (.own 4 0 c6.length)), (25, .c (int (plans.length : Int))), (26, .c (int t5))], [.one (.cells 4 [[int t.facts, row 1 intI t.init, row 1 intI t.goal, row 4 eTOperator t.operators]]), .one (.cells 2 [[int 0, int 0]]), .dead, .dead, .one (vec 4 eA4i64 c6)]⟩) ?_ ?_ ?_ ?_
      · try dsimp only
        exact Sub.env ⟨rfl, rfl, rfl, rfl, rfl, rfl, rfl, rfl, trivial⟩
      · intro bv7 c6 hlobv7 hltbv7 _
        try dsimp only
        refine AWP.seq ?_
        refine AWP.seq ?_
        refine AWP.region ?_
        refine AOps.move rfl rfl ?_
        refine AOps.move rfl rfl ?_
        refine S.len rfl rfl (fun hl33 => ?_)
        refine AOps.lss rfl rfl rfl ?_
        refine AOps.nil ?_
        refine thn_normal ?_
        refine AWP.condNP rfl hltbv7 ?_
        refine AWP.exit ?_
        refine thn_exit ?_
        refine thn_exit ⟨rfl, ?_⟩
        exact Sub.env ⟨rfl, rfl, rfl, rfl, rfl, rfl, trivial⟩
      · intro bv7 c6 o hlobv7 hltbv7 h
        unfold merging_Conflicts_l2 at h
        try dsimp only at h ⊢
        refine AWP.seq ?_
        refine AWP.seq ?_
        refine AWP.region ?_
        refine AOps.move rfl rfl ?_
        refine AOps.move rfl rfl ?_
        refine S.len rfl rfl (fun hl33 => ?_)
        refine AOps.lss rfl rfl rfl ?_
        refine AOps.nil ?_
        refine thn_normal ?_
        refine AWP.condP rfl hltbv7 ?_
        refine AWP.skip ?_
        refine thn_normal ?_
        refine AWP.seq ?_
        refine AWP.block ?_
        refine AWP.seq ?_
        obtain ⟨a39, ha39, h⟩ := bind_some h
        refine AWP.region ?_
        refine AOps.move rfl rfl ?_
        refine AOps.move rfl rfl ?_
        refine S.idx ha39 rfl rfl rfl rfl ?_
        refine AOps.loadI rfl rfl rfl rfl ?_
        refine S.len rfl rfl (fun hl41 => ?_)
        refine AOps.move rfl rfl ?_
        refine AOps.nil ?_
        refine thn_normal ?_
        refine AWP.block ?_
        obtain ⟨c8, ho3, h⟩ := bind_some h
        refine AWP.forS ho3 (fun t9 c8 => ⟨[(1, .c (row 1 eLi64 plans)), (2, .c (.ptr 0 0 0)), (5, .c (.ptr 1 0 0)), (7, .c (.own 4 0 c8.length)), (8, .c (int t5)), (9, .c (int bv7)), (25, .c (int (plans.length : Int))), (26, .c (int t5)), (40, .c (row 1 intI a39)), (41, .c (int (a39.length : Int))), (42, .c (int t9))], [.one (.cells 4 [[int t.facts, row 1 intI t.init, row 1 intI t.goal, row 4 eTOperator t.operators]]), .one (.cells 2 [[int 0, int 0]]), .dead, .dead, .one (vec 4 eA4i64 c8)]⟩) (fun c8 e st => e = .exit 4 ∧ Sub [] st ⟨[(1, .c (row 1 eLi64 plans)), (2, .c (.ptr 0 0 0)), (5, .c (.ptr 1 0 0)), (7, .c (.own 4 0 c8.length)), (8, .c (int t5)), (9, .c (int bv7)), (25, .c (int (plans.length : Int))), (26, .c (int t5))], [.one (.cells 4 [[int t.facts, row 1 intI t.init, row 1 intI t.goal, row 4 eTOperator t.operators]]), .one (.cells 2 [[int 0, int 0]]), .dead, .dead, .one (vec 4 eA4i64 c8)]⟩) ?_ ?_ ?_ ?_
        · try dsimp only
          exact Sub.env ⟨rfl, rfl, rfl, rfl, rfl, rfl, rfl, rfl, rfl, rfl, rfl, trivial⟩
        · intro t9 c8 hlot9 hltt9 _
          try dsimp only
          refine AWP.seq ?_
          refine AWP.region ?_
          refine AOps.lss rfl rfl rfl ?_
          refine AOps.nil ?_
          refine thn_normal ?_
          refine AWP.seq ?_
          refine AWP.condNP rfl hltt9 ?_
          refine AWP.exit ?_
          refine thn_exit ?_
          refine thn_exit ⟨rfl, ?_⟩
          exact Sub.env ⟨rfl, rfl, rfl, rfl, rfl, rfl, rfl, rfl, trivial⟩
        · intro t9 c8 o hlot9 hltt9 h
          unfold merging_Conflicts_l3 at h
          try dsimp only at h ⊢
          refine AWP.seq ?_
          refine AWP.region ?_
          refine AOps.lss rfl rfl rfl ?_
          refine AOps.nil ?_
          refine thn_normal ?_
          refine AWP.seq ?_
          refine AWP.condP rfl hltt9 ?_
          refine AWP.skip ?_
          refine thn_normal ?_
          refine AWP.seq ?_
          refine AWP.block ?_
          refine AWP.seq ?_
          obtain ⟨a45, ha45, h⟩ := bind_some h
          refine AWP.region ?_
          refine AOps.move rfl rfl ?_
          refine S.idx ha45 rfl rfl rfl rfl ?_
          refine AOps.loadI rfl rfl rfl rfl ?_
          refine AOps.assign rfl rfl ?_
          refine AOps.assign rfl rfl ?_
          refine AOps.nil ?_
          refine thn_normal ?_
          refine AWP.seq ?_
          obtain ⟨a49, ha49, h⟩ := bind_some h
          refine AWP.region ?_
          refine AOps.move rfl rfl ?_
          refine AOps.move rfl rfl ?_
          refine S.idx ha49 rfl rfl rfl rfl ?_
          refine AOps.loadI rfl rfl rfl rfl ?_
          refine S.len rfl rfl (fun hl51 => ?_)
          refine AOps.move rfl rfl ?_
          refine AOps.nil ?_
          refine thn_normal ?_
          refine AWP.block ?_
          obtain ⟨c10, ho4, h⟩ := bind_some h
          refine AWP.forS ho4 (fun t11 c10 => ⟨[(1, .c (row 1 eLi64 plans)), (2, .c (.ptr 0 0 0)), (5, .c (.ptr 1 0 0)), (7, .c (.own 4 0 c10.length)), (8, .c (int t5)), (9, .c (int bv7)), (10, .c (int t9)), (11, .c (int a45)), (25, .c (int (plans.length : Int))), (26, .c (int t5)), (40, .c (row 1 intI a39)), (41, .c (int (a39.length : Int))), (42, .c (int t9)), (50, .c (row 1 intI a49)), (51, .c (int (a49.length : Int))), (52, .c (int t11))], [.one (.cells 4 [[int t.facts, row 1 intI t.init, row 1 intI t.goal, row 4 eTOperator t.operators]]), .one (.cells 2 [[int 0, int 0]]), .dead, .dead, .one (vec 4 eA4i64 c10)]⟩) (fun c10 e st => e = .exit 6 ∧ Sub [] st ⟨[(1, .c (row 1 eLi64 plans)), (2, .c (.ptr 0 0 0)), (5, .c (.ptr 1 0 0)), (7, .c (.own 4 0 c10.length)), (8, .c (int t5)), (9, .c (int bv7)), (25, .c (int (plans.length : Int))), (26, .c (int t5)), (40, .c (row 1 intI a39)), (41, .c (int (a39.length : Int))), (42, .c (int t9))], [.one (.cells 4 [[int t.facts, row 1 intI t.init, row 1 intI t.goal, row 4 eTOperator t.operators]]), .one (.cells 2 [[int 0, int 0]]), .dead, .dead, .one (vec 4 eA4i64 c10)]⟩) ?_ ?_ ?_ ?_
          · try dsimp only
            exact Sub.env ⟨rfl, rfl, rfl, rfl, rfl, rfl, rfl, rfl, rfl, rfl, rfl, rfl, rfl, rfl, rfl, rfl, trivial⟩
          · intro t11 c10 hlot11 hltt11 _
            try dsimp only
            refine AWP.seq ?_
            refine AWP.region ?_
            refine AOps.lss rfl rfl rfl ?_
            refine AOps.nil ?_
            refine thn_normal ?_
            refine AWP.seq ?_
            refine AWP.condNP rfl hltt11 ?_
            refine AWP.exit ?_
            refine thn_exit ?_
            refine thn_exit ⟨rfl, ?_⟩
            exact Sub.env ⟨rfl, rfl, rfl, rfl, rfl, rfl, rfl, rfl, rfl, rfl, rfl, trivial⟩
          · intro t11 c10 o hlot11 hltt11 h
            unfold merging_Conflicts_l4 at h
            try dsimp only at h ⊢
            refine AWP.seq ?_
            refine AWP.region ?_
            refine AOps.lss rfl rfl rfl ?_
            refine AOps.nil ?_
            refine thn_normal ?_
            refine AWP.seq ?_
            refine AWP.condP rfl hltt11 ?_
            refine AWP.skip ?_
            refine thn_normal ?_
            obtain ⟨c12, hx13, h⟩ := bind_some h
            refine AWP.seqJ (⟨[(1, .c (row 1 eLi64 plans)), (2, .c (.ptr 0 0 0)), (5, .c (.ptr 1 0 0)), (7, .c (.own 6 0 c12.length)), (8, .c (int t5)), (9, .c (int bv7)), (10, .c (int t9)), (11, .c (int a45)), (25, .c (int (plans.length : Int))), (26, .c (int t5)), (40, .c (row 1 intI a39)), (41, .c (int (a39.length : Int))), (42, .c (int t9)), (50, .c (row 1 intI a49)), (51, .c (int (a49.length : Int))), (52, .c (int t11))], [.one (.cells 4 [[int t.facts, row 1 intI t.init, row 1 intI t.goal, row 4 eTOperator t.operators]]), .one (.cells 2 [[int 0, int 0]]), .dead, .dead, .dead, .dead, .one (vec 4 eA4i64 c12)]⟩) ?_ ?_
            · refine AWP.block ?_
              refine AWP.seq ?_
              obtain ⟨a55, ha55, hx13⟩ := bind_some hx13
              refine AWP.region ?_
              refine AOps.move rfl rfl ?_
              refine S.idx ha55 rfl rfl rfl rfl ?_
              refine AOps.loadI rfl rfl rfl rfl ?_
              refine AOps.assign rfl rfl ?_
              refine AOps.assign rfl rfl ?_
              refine AOps.nil ?_
              refine thn_normal ?_
              refine AWP.seq ?_
              obtain ⟨a60, ha60, hx13⟩ := bind_some hx13
              refine AWP.region ?_
              refine W.loadAgg rfl rfl rfl rfl rfl rfl rfl ?_
              refine AOps.move rfl rfl ?_
              refine AOps.move rfl rfl ?_
              refine AOps.callR rfl rfl rfl rfl (partialorder_Interfere_ok ha60) rfl ?_
              refine AOps.nil ?_
              refine thn_normal ?_
              refine AWP.iteB rfl hx13 (fun hc14 hx13 => ?_) (fun hc14 hx13 => ?_)
              · obtain ⟨a68, ha68, hx13⟩ := bind_some hx13
                refine AWP.region ?_
                refine AOps.move rfl rfl ?_
                refine AOps.move rfl rfl ?_
                refine AOps.move rfl rfl ?_
                refine AOps.move rfl rfl ?_
                refine AOps.move rfl rfl ?_
                refine AOps.buildA rfl rfl rfl rfl ?_
                refine S.lit (f := eA4i64) (l := [(t5, t9, bv7, t11)]) (ess := [[int t5, int t9, int bv7, int t11]]) rfl rfl rfl rfl rfl rfl rfl ⟨⟨.inl rfl, .inl rfl, .inl rfl, .inl rfl, trivial⟩, trivial⟩ rfl rfl rfl ?_
                refine S.append (f := eA4i64) ha68 rfl rfl rfl rfl rfl rfl (.own rfl rfl) rfl rfl rfl rfl ?_
                refine AOps.assign rfl rfl ?_
                refine AOps.nil ?_
                refine inB_normal ?_
                have ej := Option.some.inj hx13
                subst ej
                refine thn_normal ?_
                exact Sub.cut ⟨rfl, rfl, rfl, rfl, rfl, rfl, rfl, rfl, rfl, rfl, rfl, rfl, rfl, rfl, rfl, rfl, trivial⟩ rfl ⟨.one rfl, .one rfl, .dead, .dead, .dead, .dead, .vec, trivial⟩ rfl
              · refine AWP.skip ?_
                refine inB_normal ?_
                have ej := Option.some.inj hx13
                subst ej
                refine thn_normal ?_
                exact (Sub.move (env' := [(1, .c (row 1 eLi64 plans)), (2, .c (.ptr 0 0 0)), (5, .c (.ptr 1 0 0)), (7, .c (.own 6 0 c10.length)), (8, .c (int t5)), (9, .c (int bv7)), (10, .c (int t9)), (11, .c (int a45)), (25, .c (int (plans.length : Int))), (26, .c (int t5)), (40, .c (row 1 intI a39)), (41, .c (int (a39.length : Int))), (42, .c (int t9)), (50, .c (row 1 intI a49)), (51, .c (int (a49.length : Int))), (52, .c (int t11))]) (σ' := [.one (.cells 4 [[int t.facts, row 1 intI t.init, row 1 intI t.goal, row 4 eTOperator t.operators]]), .one (.cells 2 [[int 0, int 0]]), .dead, .dead, .dead, .dead, .one (vec 4 eA4i64 c10)]) 6 4 rfl rfl rfl ⟨rfl, rfl, rfl, rfl, rfl, rfl, rfl, rfl, rfl, rfl, rfl, rfl, rfl, rfl, rfl, rfl, trivial⟩ rfl ⟨⟨rfl, rfl⟩, ⟨rfl, rfl⟩, trivial, trivial, trivial, trivial, ⟨Blk.im_ok _ _ _, vec_mv rfl⟩, trivial⟩).trans (Sub.env ⟨rfl, rfl, rfl, rfl, rfl, rfl, rfl, rfl, rfl, rfl, rfl, rfl, rfl, rfl, rfl, rfl, trivial⟩)
            · refine AWP.region ?_
              refine AOps.add rfl rfl rfl (by omega) ?_
              refine AOps.move rfl rfl ?_
              refine AOps.nil ?_
              have ej := Option.some.inj h
              subst ej
              refine thn_normal ?_
              exact (Sub.move (env' := [(1, .c (row 1 eLi64 plans)), (2, .c (.ptr 0 0 0)), (5, .c (.ptr 1 0 0)), (7, .c (.own 4 0 c12.length)), (8, .c (int t5)), (9, .c (int bv7)), (10, .c (int t9)), (11, .c (int a45)), (25, .c (int (plans.length : Int))), (26, .c (int t5)), (40, .c (row 1 intI a39)), (41, .c (int (a39.length : Int))), (42, .c (int t9)), (50, .c (row 1 intI a49)), (51, .c (int (a49.length : Int))), (52, .c (int (t11 + 1)))]) (σ' := [.one (.cells 4 [[int t.facts, row 1 intI t.init, row 1 intI t.goal, row 4 eTOperator t.operators]]), .one (.cells 2 [[int 0, int 0]]), .dead, .dead, .one (vec 4 eA4i64 c12), .dead]) 4 6 rfl rfl rfl ⟨rfl, rfl, rfl, rfl, rfl, rfl, rfl, rfl, rfl, rfl, rfl, rfl, rfl, rfl, rfl, rfl, trivial⟩ rfl ⟨⟨rfl, rfl⟩, ⟨rfl, rfl⟩, trivial, trivial, ⟨Blk.im_ok _ _ _, vec_mv rfl⟩, trivial, trivial⟩).trans (Sub.cut ⟨rfl, rfl, rfl, rfl, rfl, rfl, rfl, rfl, rfl, rfl, rfl, rfl, rfl, rfl, rfl, rfl, trivial⟩ rfl ⟨.one rfl, .one rfl, .dead, .dead, .vec, trivial⟩ rfl)
          · intro e s hq
            obtain ⟨rfl, hs⟩ := hq
            refine ⟨_, hs, ?_⟩
            refine inB_exit ?_
            refine inB_normal ?_
            refine thn_normal ?_
            refine AWP.region ?_
            refine AOps.add rfl rfl rfl (by omega) ?_
            refine AOps.move rfl rfl ?_
            refine AOps.nil ?_
            have ej := Option.some.inj h
            subst ej
            refine thn_normal ?_
            exact Sub.env ⟨rfl, rfl, rfl, rfl, rfl, rfl, rfl, rfl, rfl, rfl, rfl, trivial⟩
        · intro e s hq
          obtain ⟨rfl, hs⟩ := hq
          refine ⟨_, hs, ?_⟩
          refine inB_exit ?_
          refine inB_normal ?_
          refine thn_normal ?_
          refine AWP.region ?_
          refine AOps.move rfl rfl ?_
          refine AOps.add rfl rfl rfl (by omega) ?_
          refine AOps.assign rfl rfl ?_
          refine AOps.nil ?_
          have ej := Option.some.inj h
          subst ej
          refine thn_normal ?_
          exact Sub.env ⟨rfl, rfl, rfl, rfl, rfl, rfl, rfl, rfl, trivial⟩
      · intro e s hq
        obtain ⟨rfl, hs⟩ := hq
        refine ⟨_, hs, ?_⟩
        refine inB_exit ?_
        refine inB_normal ?_
        refine thn_normal ?_
        refine AWP.region ?_
        refine AOps.add rfl rfl rfl (by omega) ?_
        refine AOps.move rfl rfl ?_
        refine AOps.nil ?_
        have ej := Option.some.inj h
        subst ej
        refine thn_normal ?_
        exact Sub.env ⟨rfl, rfl, rfl, rfl, rfl, rfl, trivial⟩
    · intro e s hq
      obtain ⟨rfl, hs⟩ := hq
      refine ⟨_, hs, ?_⟩
      refine inB_exit ?_
      refine thn_normal ?_
      refine AWP.seq ?_
      refine AWP.region ?_
      refine AOps.move rfl rfl ?_
      refine W.build rfl rfl rfl rfl ?_
      refine AOps.assign rfl rfl ?_
      refine W.storeAgg rfl rfl rfl rfl rfl rfl rfl ?_
      refine AOps.nil ?_
      refine thn_normal ?_
      refine AWP.frzV (id := 4) (l := c4) (env2 := [(4, .c (row 4 eA4i64 c4)), (5, .c (.ptr 1 0 0))]) (σ2 := [.one (.cells 4 [[int t.facts, row 1 intI t.init, row 1 intI t.goal, row 4 eTOperator t.operators]]), .one (.cells 2 [[int 0, int 0]]), .dead, .dead, .dead]) rfl rfl (by exact ⟨⟨_, rfl, .inr ⟨_, rfl, rfl, rfl⟩⟩, ⟨_, rfl, .inl ⟨rfl, rfl⟩⟩, trivial⟩) rfl (by exact ⟨⟨rfl, .inl ⟨rfl, rfl⟩, .inl ⟨rfl, rfl⟩, .inl ⟨rfl, rfl⟩, .inl ⟨rfl, rfl⟩, trivial⟩, ⟨rfl, .inl ⟨rfl, rfl⟩, .inl ⟨rfl, rfl⟩, trivial⟩, trivial, trivial, trivial, trivial⟩) ?_
      refine AWP.ret ?_
      have ej := Option.some.inj h
      subst ej
      exact Done.ret rfl rfl
theorem ref1_Works_ok {t : TTask} {sv : List Int} {plan : List Int} {r : Bool} (h : ref1_Works t sv plan = some r) : PureOk Tryd.prog 37 [.agg [int t.facts, row 1 intI t.init, row 1 intI t.goal, row 4 eTOperator t.operators], .c (row 1 intI sv), .c (row 1 intI plan)] (.c (bool r)) := by
  unfold PureOk
  refine FnOk.enter (rs := [.t 6]) Tryd.func37 rfl Tryd.ntmps37 Tryd.results37 rfl ⟨trivial, trivial⟩ (by kernel_rfl) rfl ?_
  unfold ref1_Works at h
  refine AWP.seq ?_
  refine AWP.region ?_
  refine W.box rfl rfl rfl rfl rfl rfl ?_
  refine AOps.assign rfl rfl ?_
  refine AOps.nil ?_
  refine thn_normal ?_
  refine AWP.seq ?_
  obtain ⟨a13, ha13, h⟩ := bind_some h
  refine AWP.region ?_
  refine W.loadAgg rfl rfl rfl rfl rfl rfl rfl ?_
  refine AOps.move rfl rfl ?_
  refine AOps.move rfl rfl ?_
  refine AOps.callR rfl rfl rfl rfl (ref1_Ends_ok ha13) rfl ?_
  refine AOps.move rfl rfl ?_
  refine AOps.extract rfl rfl rfl ?_
  refine AOps.extract rfl rfl rfl ?_
  refine AOps.assign rfl rfl ?_
  refine AOps.assign rfl rfl ?_
  refine AOps.nil ?_
  refine thn_normal ?_
  obtain ⟨t4, hx5, h⟩ := bind_some h
  refine AWP.seqJ (⟨[(6, .c (bool t4))], []⟩) ?_ ?_
  · rcases Bool.eq_false_or_eq_true (a13.2) with hb6 | hb6
    · replace hx5 := iteBT hb6 hx5
      obtain ⟨a21, ha21, hx5⟩ := bind_some hx5
      refine AWP.region ?_
      refine AOps.move rfl rfl ?_
      refine AOps.move rfl rfl ?_
      refine AOps.guardT rfl rfl rfl hb6 ?_; refine W.fieldAddr rfl rfl rfl rfl ?_
      refine AOps.guardT rfl rfl rfl hb6 ?_; refine AOps.load rfl rfl rfl rfl rfl rfl ?_
      refine AOps.guardT rfl rfl rfl hb6 ?_; refine AOps.move rfl rfl ?_
      refine AOps.guardT rfl rfl rfl hb6 ?_; refine AOps.callR rfl rfl rfl rfl (ref1_Subset_ok ha21) rfl ?_
      refine AOps.pickT rfl hb6 rfl rfl ?_
      refine AOps.assign rfl rfl ?_
      refine AOps.nil ?_
      have ej := Option.some.inj hx5
      subst ej
      refine thn_normal ?_
      exact Sub.cut ⟨rfl, trivial⟩ rfl trivial rfl
    · replace hx5 := iteBF hb6 hx5
      refine AWP.region ?_
      refine AOps.move rfl rfl ?_
      refine AOps.move rfl rfl ?_
      refine AOps.guardF rfl rfl rfl hb6 ?_
      refine AOps.guardF rfl rfl rfl hb6 ?_
      refine AOps.guardF rfl rfl rfl hb6 ?_
      refine AOps.guardF rfl rfl rfl hb6 ?_
      refine AOps.pickF rfl hb6 rfl rfl ?_
      refine AOps.assign rfl rfl ?_
      refine AOps.nil ?_
      have ej := Option.some.inj hx5
      subst ej
      refine thn_normal ?_
      exact Sub.cut ⟨rfl, trivial⟩ rfl trivial rfl
  · refine AWP.ret ?_
    have ej := Option.some.inj h
    subst ej
    exact Done.ret rfl rfl
theorem ref1_Solves_ok {t : TTask} {plan : List Int} {r : Bool} (h : ref1_Solves t plan = some r) : PureOk Tryd.prog 21 [.agg [int t.facts, row 1 intI t.init, row 1 intI t.goal, row 4 eTOperator t.operators], .c (row 1 intI plan)] (.c (bool r)) := by
  unfold PureOk
  refine FnOk.enter (rs := [.t 4]) Tryd.func21 rfl Tryd.ntmps21 Tryd.results21 rfl ⟨trivial, trivial⟩ (by kernel_rfl) rfl ?_
  unfold ref1_Solves at h
  refine AWP.seq ?_
  refine AWP.region ?_
  refine W.box rfl rfl rfl rfl rfl rfl ?_
  refine AOps.assign rfl rfl ?_
  refine AOps.nil ?_
  refine thn_normal ?_
  refine AWP.seq ?_
  obtain ⟨a9, ha9, h⟩ := bind_some h
  refine AWP.region ?_
  refine W.loadAgg rfl rfl rfl rfl rfl rfl rfl ?_
  refine W.fieldAddr rfl rfl rfl rfl ?_
  refine AOps.load rfl rfl rfl rfl rfl rfl ?_
  refine AOps.move rfl rfl ?_
  refine AOps.callR rfl rfl rfl rfl (ref1_Works_ok ha9) rfl ?_
  refine AOps.assign rfl rfl ?_
  refine AOps.nil ?_
  refine thn_normal ?_
  refine AWP.ret ?_
  have ej := Option.some.inj h
  subst ej
  exact Done.ret rfl rfl
theorem law8_MergingWithoutConflicts_ok {t : TTask} {goals : List (List Int)} {plans : List (List Int)} {r : Bool} (h : law8_MergingWithoutConflicts t goals plans = some r) : PureOk Tryd.prog 7 [.agg [int t.facts, row 1 intI t.init, row 1 intI t.goal, row 4 eTOperator t.operators], .c (row 1 eLi64 goals), .c (row 1 eLi64 plans)] (.c (bool r)) := by
  unfold PureOk
  refine FnOk.enter (rs := [.t 6]) Tryd.func7 rfl Tryd.ntmps7 Tryd.results7 rfl ⟨trivial, trivial⟩ (by kernel_rfl) rfl ?_
  unfold law8_MergingWithoutConflicts at h
  refine AWP.seq ?_
  refine AWP.region ?_
  refine W.box rfl rfl rfl rfl rfl rfl ?_
  refine AOps.assign rfl rfl ?_
  refine AOps.nil ?_
  refine thn_normal ?_
  refine AWP.seq ?_
  obtain ⟨a19, ha19, h⟩ := bind_some h
  refine AWP.region ?_
  refine W.loadAgg rfl rfl rfl rfl rfl rfl rfl ?_
  refine AOps.move rfl rfl ?_
  refine AOps.callR rfl rfl rfl rfl (merging_Conflicts_ok ha19) rfl ?_
  refine AOps.move rfl rfl ?_
  refine AOps.extract rfl rfl rfl ?_
  refine AOps.extract rfl rfl rfl ?_
  refine W.alloc rfl rfl rfl rfl ?_
  refine AOps.assign rfl rfl ?_
  refine W.storeAgg rfl rfl rfl rfl rfl rfl rfl ?_
  refine AOps.nil ?_
  refine thn_normal ?_
  refine AWP.seq ?_
  obtain ⟨a26, ha26, h⟩ := bind_some h
  refine AWP.region ?_
  refine W.loadAgg rfl rfl rfl rfl rfl rfl rfl ?_
  refine AOps.move rfl rfl ?_
  refine AOps.move rfl rfl ?_
  refine AOps.callR rfl rfl rfl rfl (merging_Merge_ok ha26) rfl ?_
  refine AOps.move rfl rfl ?_
  refine AOps.extract rfl rfl rfl ?_
  refine AOps.extract rfl rfl rfl ?_
  refine AOps.extract rfl rfl rfl ?_
  refine W.alloc rfl rfl rfl rfl ?_
  refine AOps.assign rfl rfl ?_
  refine AOps.assign rfl rfl ?_
  refine W.storeAgg rfl rfl rfl rfl rfl rfl rfl ?_
  refine AOps.nil ?_
  refine thn_normal ?_
  refine AWP.seq ?_
  refine AWP.seqJ (⟨[(1, .c (row 1 eLi64 goals)), (2, .c (row 1 eLi64 plans)), (3, .c (.ptr 0 0 0)), (10, .c (bool a26.2.1)), (49, .c (bool ((((!(decide (a19.2.code = 0))) || (!(decide (a26.2.2.code = 0)))) || (decide (0 < (a19.1.length : Int)))) || (!(decide ((goals.length : Int) = (plans.length : Int)))))))], [.one (.cells 4 [[int t.facts, row 1 intI t.init, row 1 intI t.goal, row 4 eTOperator t.operators]]), .one (.cells 2 [[int a19.2.code, int a19.2.index]]), .one (.cells 2 [[int a26.2.2.code, int a26.2.2.index]])]⟩) ?_ ?_
  · rcases Bool.eq_false_or_eq_true (!(decide (a19.2.code = 0))) with hb1 | hb1
    · refine AWP.region ?_
      refine W.fieldAddr rfl rfl rfl rfl ?_
      refine AOps.load rfl rfl rfl rfl rfl rfl ?_
      refine AOps.neq rfl rfl rfl ?_
      refine AOps.move rfl rfl ?_
      refine AOps.guardF rfl rfl rfl hb1 ?_
      refine AOps.guardF rfl rfl rfl hb1 ?_
      refine AOps.guardF rfl rfl rfl hb1 ?_
      refine AOps.pickT rfl hb1 rfl rfl ?_
      refine AOps.move rfl rfl ?_
      refine AOps.guardF rfl rfl rfl rfl ?_
      refine AOps.guardF rfl rfl rfl rfl ?_
      refine AOps.guardF rfl rfl rfl rfl ?_
      refine AOps.pickT rfl rfl rfl rfl ?_
      refine AOps.move rfl rfl ?_
      refine AOps.guardF rfl rfl rfl rfl ?_
      refine AOps.guardF rfl rfl rfl rfl ?_
      refine AOps.guardF rfl rfl rfl rfl ?_
      refine AOps.guardF rfl rfl rfl rfl ?_
      refine AOps.guardF rfl rfl rfl rfl ?_
      refine AOps.pickT rfl rfl rfl rfl ?_
      refine AOps.nil ?_
      refine thn_normal ?_
      simp only [and_t hb1, or_t hb1, Bool.false_or, Bool.true_or, Bool.false_and, Bool.true_and]
      exact Sub.env ⟨rfl, rfl, rfl, rfl, rfl, trivial⟩
    · rcases Bool.eq_false_or_eq_true (!(decide (a26.2.2.code = 0))) with hb2 | hb2
      · refine AWP.region ?_
        refine W.fieldAddr rfl rfl rfl rfl ?_
        refine AOps.load rfl rfl rfl rfl rfl rfl ?_
        refine AOps.neq rfl rfl rfl ?_
        refine AOps.move rfl rfl ?_
        refine AOps.guardT rfl rfl rfl hb1 ?_; refine W.fieldAddr rfl rfl rfl rfl ?_
        refine AOps.guardT rfl rfl rfl hb1 ?_; refine AOps.load rfl rfl rfl rfl rfl rfl ?_
        refine AOps.guardT rfl rfl rfl hb1 ?_; refine AOps.neq rfl rfl rfl ?_
        refine AOps.pickF rfl hb1 rfl rfl ?_
        refine AOps.move rfl rfl ?_
        refine AOps.guardF rfl rfl rfl hb2 ?_
        refine AOps.guardF rfl rfl rfl hb2 ?_
        refine AOps.guardF rfl rfl rfl hb2 ?_
        refine AOps.pickT rfl hb2 rfl rfl ?_
        refine AOps.move rfl rfl ?_
        refine AOps.guardF rfl rfl rfl rfl ?_
        refine AOps.guardF rfl rfl rfl rfl ?_
        refine AOps.guardF rfl rfl rfl rfl ?_
        refine AOps.guardF rfl rfl rfl rfl ?_
        refine AOps.guardF rfl rfl rfl rfl ?_
        refine AOps.pickT rfl rfl rfl rfl ?_
        refine AOps.nil ?_
        refine thn_normal ?_
        simp only [and_f hb1, or_f hb1, and_t hb2, or_t hb2, Bool.false_or, Bool.true_or, Bool.false_and, Bool.true_and]
        exact Sub.env ⟨rfl, rfl, rfl, rfl, rfl, trivial⟩
      · rcases Bool.eq_false_or_eq_true (decide (0 < (a19.1.length : Int))) with hb3 | hb3
        · refine AWP.region ?_
          refine W.fieldAddr rfl rfl rfl rfl ?_
          refine AOps.load rfl rfl rfl rfl rfl rfl ?_
          refine AOps.neq rfl rfl rfl ?_
          refine AOps.move rfl rfl ?_
          refine AOps.guardT rfl rfl rfl hb1 ?_; refine W.fieldAddr rfl rfl rfl rfl ?_
          refine AOps.guardT rfl rfl rfl hb1 ?_; refine AOps.load rfl rfl rfl rfl rfl rfl ?_
          refine AOps.guardT rfl rfl rfl hb1 ?_; refine AOps.neq rfl rfl rfl ?_
          refine AOps.pickF rfl hb1 rfl rfl ?_
          refine AOps.move rfl rfl ?_
          refine AOps.guardT rfl rfl rfl hb2 ?_; refine AOps.move rfl rfl ?_
          refine AOps.guardT rfl rfl rfl hb2 ?_; refine S.len rfl rfl (fun hl40 => ?_)
          refine AOps.guardT rfl rfl rfl hb2 ?_; refine AOps.gtr rfl rfl rfl ?_
          refine AOps.pickF rfl hb2 rfl rfl ?_
          refine AOps.move rfl rfl ?_
          refine AOps.guardF rfl rfl rfl hb3 ?_
          refine AOps.guardF rfl rfl rfl hb3 ?_
          refine AOps.guardF rfl rfl rfl hb3 ?_
          refine AOps.guardF rfl rfl rfl hb3 ?_
          refine AOps.guardF rfl rfl rfl hb3 ?_
          refine AOps.pickT rfl hb3 rfl rfl ?_
          refine AOps.nil ?_
          refine thn_normal ?_
          simp only [and_f hb1, or_f hb1, and_f hb2, or_f hb2, and_t hb3, or_t hb3, Bool.false_or, Bool.true_or, Bool.false_and, Bool.true_and]
          exact Sub.env ⟨rfl, rfl, rfl, rfl, rfl, trivial⟩
        · refine AWP.region ?_
          refine W.fieldAddr rfl rfl rfl rfl ?_
          refine AOps.load rfl rfl rfl rfl rfl rfl ?_
          refine AOps.neq rfl rfl rfl ?_
          refine AOps.move rfl rfl ?_
          refine AOps.guardT rfl rfl rfl hb1 ?_; refine W.fieldAddr rfl rfl rfl rfl ?_
          refine AOps.guardT rfl rfl rfl hb1 ?_; refine AOps.load rfl rfl rfl rfl rfl rfl ?_
          refine AOps.guardT rfl rfl rfl hb1 ?_; refine AOps.neq rfl rfl rfl ?_
          refine AOps.pickF rfl hb1 rfl rfl ?_
          refine AOps.move rfl rfl ?_
          refine AOps.guardT rfl rfl rfl hb2 ?_; refine AOps.move rfl rfl ?_
          refine AOps.guardT rfl rfl rfl hb2 ?_; refine S.len rfl rfl (fun hl40 => ?_)
          refine AOps.guardT rfl rfl rfl hb2 ?_; refine AOps.gtr rfl rfl rfl ?_
          refine AOps.pickF rfl hb2 rfl rfl ?_
          refine AOps.move rfl rfl ?_
          refine AOps.guardT rfl rfl rfl hb3 ?_; refine AOps.move rfl rfl ?_
          refine AOps.guardT rfl rfl rfl hb3 ?_; refine S.len rfl rfl (fun hl45 => ?_)
          refine AOps.guardT rfl rfl rfl hb3 ?_; refine AOps.move rfl rfl ?_
          refine AOps.guardT rfl rfl rfl hb3 ?_; refine S.len rfl rfl (fun hl47 => ?_)
          refine AOps.guardT rfl rfl rfl hb3 ?_; refine AOps.neq rfl rfl rfl ?_
          refine AOps.pickF rfl hb3 rfl rfl ?_
          refine AOps.nil ?_
          refine thn_normal ?_
          simp only [and_f hb1, or_f hb1, and_f hb2, or_f hb2, and_f hb3, or_f hb3, Bool.false_or, Bool.true_or, Bool.false_and, Bool.true_and]
          exact Sub.env ⟨rfl, rfl, rfl, rfl, rfl, trivial⟩
  · refine AWP.iteB rfl h (fun hc4 h => ?_) (fun hc4 h => ?_)
    · refine AWP.seq ?_
      obtain ⟨a50, ha50, h⟩ := bind_some h
      refine AWP.region ?_
      refine AOps.callR rfl rfl rfl rfl (law8_merged_ok ha50) rfl ?_
      refine AOps.assign rfl rfl ?_
      refine AOps.nil ?_
      refine thn_normal ?_
      refine AWP.ret ?_
      refine thn_ret ?_
      have ej := Option.some.inj h
      subst ej
      exact Done.ret rfl rfl
    · refine AWP.skip ?_
      refine thn_normal ?_
      refine AWP.seq ?_
      refine AWP.seq ?_
      refine AWP.region ?_
      refine AOps.assign rfl rfl ?_
      refine AOps.nil ?_
      refine thn_normal ?_
      refine AWP.block ?_
      obtain ⟨oo, ho1, h⟩ := bind_some h
      refine AWP.rngS ho1 (fun p5 _ => ⟨[(1, .c (row 1 eLi64 goals)), (2, .c (row 1 eLi64 plans)), (3, .c (.ptr 0 0 0)), (10, .c (bool a26.2.1)), (12, .c (int p5))], [.one (.cells 4 [[int t.facts, row 1 intI t.init, row 1 intI t.goal, row 4 eTOperator t.operators]])]⟩) (fun o e st => match o with | .inl _ => e = .exit 0 ∧ Sub [] st ⟨[(10, .c (bool a26.2.1))], [.one (.cells 4 [[int t.facts, row 1 intI t.init, row 1 intI t.goal, row 4 eTOperator t.operators]])]⟩ | .inr x => e = .ret ∧ Done [.t 6] (fun t _ => t = .c (bool x)) .ret st) ?_ ?_ ?_ ?_
      · try dsimp only
        exact Sub.cut ⟨rfl, rfl, rfl, rfl, rfl, trivial⟩ rfl ⟨.one rfl, trivial⟩ rfl
      · intro p5 s hlop5 hltp5 _
        try dsimp only
        refine AWP.seq ?_
        refine AWP.seq ?_
        refine AWP.region ?_
        refine AOps.move rfl rfl ?_
        refine AOps.move rfl rfl ?_
        refine S.len rfl rfl (fun hl53 => ?_)
        refine AOps.lss rfl rfl rfl ?_
        refine AOps.nil ?_
        refine thn_normal ?_
        refine AWP.condNP rfl hltp5 ?_
        refine AWP.exit ?_
        refine thn_exit ?_
        refine thn_exit ⟨rfl, ?_⟩
        exact Sub.env ⟨rfl, trivial⟩
      · intro p5 s o hlop5 hltp5 h
        unfold law8_MergingWithoutConflicts_l1 at h
        try dsimp only at h ⊢
        refine AWP.seq ?_
        refine AWP.seq ?_
        refine AWP.region ?_
        refine AOps.move rfl rfl ?_
        refine AOps.move rfl rfl ?_
        refine S.len rfl rfl (fun hl53 => ?_)
        refine AOps.lss rfl rfl rfl ?_
        refine AOps.nil ?_
        refine thn_normal ?_
        refine AWP.condP rfl hltp5 ?_
        refine AWP.skip ?_
        refine thn_normal ?_
        refine AWP.seq ?_
        refine AWP.block ?_
        refine AWP.seq ?_
        refine AWP.region ?_
        refine W.loadAgg rfl rfl rfl rfl rfl rfl rfl ?_
        refine W.alloc rfl rfl rfl rfl ?_
        refine W.storeAgg rfl rfl rfl rfl rfl rfl rfl ?_
        refine AOps.nil ?_
        refine thn_normal ?_
        refine AWP.seq ?_
        obtain ⟨a60, ha60, h⟩ := bind_some h
        refine AWP.region ?_
        refine AOps.move rfl rfl ?_
        refine AOps.move rfl rfl ?_
        refine S.idx ha60 rfl rfl rfl rfl ?_
        refine AOps.loadI rfl rfl rfl rfl ?_
        refine W.fieldAddr rfl rfl rfl rfl ?_
        refine W.store rfl rfl rfl rfl rfl ?_
        refine AOps.nil ?_
        refine thn_normal ?_
        refine AWP.seq ?_
        refine AWP.seq ?_
        obtain ⟨a66, ha66, h⟩ := bind_some h
        obtain ⟨a68, ha68, h⟩ := bind_some h
        refine AWP.drawI mixed rfl ?_
        apply DrawSeq.consF; exact rfl; intro E
        refine W.loadAgg rfl rfl rfl rfl rfl rfl rfl ?_
        exact AOps.nil ⟨rfl, rfl⟩
        exact rfl
        apply DrawSeq.consF; exact rfl; intro E
        refine AOps.move rfl rfl ?_
        exact AOps.nil ⟨rfl, rfl⟩
        exact rfl
        apply DrawSeq.consF; exact rfl; intro E
        refine AOps.move rfl rfl ?_
        exact AOps.nil ⟨rfl, rfl⟩
        exact rfl
        apply DrawSeq.consF; exact rfl; intro E
        refine S.idx ha66 rfl rfl rfl rfl ?_
        exact AOps.nil ⟨rfl, rfl⟩
        exact rfl
        apply DrawSeq.consF; exact rfl; intro E
        refine AOps.loadI rfl rfl rfl rfl ?_
        exact AOps.nil ⟨rfl, rfl⟩
        exact rfl
        apply DrawSeq.consF; exact rfl; intro E
        refine AOps.callR rfl rfl rfl rfl (ref1_Solves_ok ha68) rfl ?_
        exact AOps.nil ⟨rfl, rfl⟩
        exact rfl
        apply DrawSeq.consF; exact rfl; intro E
        refine AOps.not rfl rfl ?_
        exact AOps.nil ⟨rfl, rfl⟩
        exact rfl
        refine DrawSeq.done ?_
        dsimp only [envEnd]
        refine thn_normal ?_
        refine AWP.iteB rfl h (fun hc6 h => ?_) (fun hc6 h => ?_)
        · refine AWP.seq ?_
          obtain ⟨a70, ha70, h⟩ := bind_some h
          refine AWP.region ?_
          refine AOps.callR rfl rfl rfl rfl (law8_merged_ok ha70) rfl ?_
          refine AOps.assign rfl rfl ?_
          refine AOps.nil ?_
          refine thn_normal ?_
          refine AWP.ret ?_
          refine thn_ret ?_
          refine inB_ret ?_
          refine thn_ret ?_
          have ej := Option.some.inj h
          subst ej
          refine thn_ret ⟨_, rfl, rfl, ?_⟩
          exact Done.ret rfl rfl
        · refine AWP.skip ?_
          refine thn_normal ?_
          refine AWP.seq ?_
          refine AWP.region ?_
          refine AOps.assign rfl rfl ?_
          refine AOps.nil ?_
          refine thn_normal ?_
          refine AWP.block ?_
          obtain ⟨oo, ho2, h⟩ := bind_some h
          refine AWP.rngS ho2 (fun q7 _ => ⟨[(1, .c (row 1 eLi64 goals)), (2, .c (row 1 eLi64 plans)), (3, .c (.ptr 0 0 0)), (10, .c (bool a26.2.1)), (12, .c (int p5)), (14, .c (int q7))], [.one (.cells 4 [[int t.facts, row 1 intI t.init, row 1 intI t.goal, row 4 eTOperator t.operators]])]⟩) (fun o e st => match o with | .inl _ => e = .exit 2 ∧ Sub [] st ⟨[(1, .c (row 1 eLi64 goals)), (2, .c (row 1 eLi64 plans)), (3, .c (.ptr 0 0 0)), (10, .c (bool a26.2.1)), (12, .c (int p5))], [.one (.cells 4 [[int t.facts, row 1 intI t.init, row 1 intI t.goal, row 4 eTOperator t.operators]])]⟩ | .inr x => e = .ret ∧ Done [.t 6] (fun t _ => t = .c (bool x)) .ret st) ?_ ?_ ?_ ?_
          · try dsimp only
            exact Sub.cut ⟨rfl, rfl, rfl, rfl, rfl, rfl, trivial⟩ rfl ⟨.one rfl, trivial⟩ rfl
          · intro q7 s hloq7 hltq7 _
            try dsimp only
            refine AWP.seq ?_
            refine AWP.seq ?_
            refine AWP.region ?_
            refine AOps.move rfl rfl ?_
            refine AOps.move rfl rfl ?_
            refine S.len rfl rfl (fun hl73 => ?_)
            refine AOps.lss rfl rfl rfl ?_
            refine AOps.nil ?_
            refine thn_normal ?_
            refine AWP.condNP rfl hltq7 ?_
            refine AWP.exit ?_
            refine thn_exit ?_
            refine thn_exit ⟨rfl, ?_⟩
            exact Sub.env ⟨rfl, rfl, rfl, rfl, rfl, trivial⟩
          · intro q7 s o hloq7 hltq7 h
            unfold law8_MergingWithoutConflicts_l2 at h
            try dsimp only at h ⊢
            refine AWP.seq ?_
            refine AWP.seq ?_
            refine AWP.region ?_
            refine AOps.move rfl rfl ?_
            refine AOps.move rfl rfl ?_
            refine S.len rfl rfl (fun hl73 => ?_)
            refine AOps.lss rfl rfl rfl ?_
            refine AOps.nil ?_
            refine thn_normal ?_
            refine AWP.condP rfl hltq7 ?_
            refine AWP.skip ?_
            refine thn_normal ?_
            refine AWP.seq ?_
            refine AWP.block ?_
            refine AWP.seq ?_
            refine AWP.region ?_
            refine AOps.assign rfl rfl ?_
            refine AOps.nil ?_
            refine thn_normal ?_
            refine AWP.block ?_
            obtain ⟨oo, ho3, h⟩ := bind_some h
            refine AWP.loopS ho3 (fun iv8 => ⟨[(1, .c (row 1 eLi64 goals)), (2, .c (row 1 eLi64 plans)), (3, .c (.ptr 0 0 0)), (10, .c (bool a26.2.1)), (12, .c (int p5)), (14, .c (int q7)), (15, .c (int iv8))], [.one (.cells 4 [[int t.facts, row 1 intI t.init, row 1 intI t.goal, row 4 eTOperator t.operators]])]⟩) (fun o e st => match o with | .inl _ => e = .exit 4 ∧ Sub [] st ⟨[(1, .c (row 1 eLi64 goals)), (2, .c (row 1 eLi64 plans)), (3, .c (.ptr 0 0 0)), (10, .c (bool a26.2.1)), (12, .c (int p5)), (14, .c (int q7))], [.one (.cells 4 [[int t.facts, row 1 intI t.init, row 1 intI t.goal, row 4 eTOperator t.operators]])]⟩ | .inr x => e = .ret ∧ Done [.t 6] (fun t _ => t = .c (bool x)) .ret st) ?_ ?_ ?_
            · try dsimp only
              exact Sub.env ⟨rfl, rfl, rfl, rfl, rfl, rfl, rfl, trivial⟩
            · intro iv8 o h
              unfold law8_MergingWithoutConflicts_l3 at h
              try dsimp only at h ⊢
              refine AWP.seq ?_
              refine AWP.seq ?_
              obtain ⟨a80, ha80, h⟩ := bind_some h
              refine AWP.region ?_
              refine AOps.move rfl rfl ?_
              refine AOps.move rfl rfl ?_
              refine AOps.move rfl rfl ?_
              refine S.idx ha80 rfl rfl rfl rfl ?_
              refine AOps.loadI rfl rfl rfl rfl ?_
              refine S.len rfl rfl (fun hl82 => ?_)
              refine AOps.lss rfl rfl rfl ?_
              refine AOps.nil ?_
              refine thn_normal ?_
              refine AWP.ite rfl h (fun hc9 h => ?_) (fun hc9 h => ?_)
              · refine AWP.skip ?_
                refine thn_normal ?_
                refine AWP.seq ?_
                refine AWP.block ?_
                obtain ⟨t10, hx11, h⟩ := bind_some h
                refine AWP.seqJ (⟨[(1, .c (row 1 eLi64 goals)), (2, .c (row 1 eLi64 plans)), (3, .c (.ptr 0 0 0)), (10, .c (bool a26.2.1)), (12, .c (int p5)), (14, .c (int q7)), (15, .c (int iv8)), (108, .c (bool t10))], [.one (.cells 4 [[int t.facts, row 1 intI t.init, row 1 intI t.goal, row 4 eTOperator t.operators]])]⟩) ?_ ?_
                · rcases Bool.eq_false_or_eq_true (!(decide (q7 = p5))) with hb12 | hb12
                  · replace hx11 := iteBT hb12 hx11
                    obtain ⟨a94, ha94, hx11⟩ := bind_some hx11
                    obtain ⟨a97, ha97, hx11⟩ := bind_some hx11
                    obtain ⟨a99, ha99, hx11⟩ := bind_some hx11
                    obtain ⟨a104, ha104, hx11⟩ := bind_some hx11
                    obtain ⟨a106, ha106, hx11⟩ := bind_some hx11
                    refine AWP.drawI mixed rfl ?_
                    apply DrawSeq.consF; exact rfl; intro E
                    refine AOps.move rfl rfl ?_
                    exact AOps.nil ⟨rfl, rfl⟩
                    exact rfl
                    apply DrawSeq.consF; exact rfl; intro E
                    refine AOps.move rfl rfl ?_
                    exact AOps.nil ⟨rfl, rfl⟩
                    exact rfl
                    apply DrawSeq.consF; exact rfl; intro E
                    refine AOps.neq rfl rfl rfl ?_
                    exact AOps.nil ⟨rfl, rfl⟩
                    exact rfl
                    apply DrawSeq.consF; exact rfl; intro E
                    refine AOps.move rfl rfl ?_
                    exact AOps.nil ⟨rfl, rfl⟩
                    exact rfl
                    apply DrawSeq.consF; exact rfl; intro E
                    refine AOps.guardT rfl rfl rfl hb12 ?_; refine W.fieldAddr rfl rfl rfl rfl ?_
                    exact AOps.nil ⟨rfl, rfl⟩
                    exact rfl
                    apply DrawSeq.consF; exact rfl; intro E
                    refine AOps.guardT rfl rfl rfl hb12 ?_; refine AOps.load rfl rfl rfl rfl rfl rfl ?_
                    exact AOps.nil ⟨rfl, rfl⟩
                    exact rfl
                    apply DrawSeq.consF; exact rfl; intro E
                    refine AOps.guardT rfl rfl rfl hb12 ?_; refine AOps.move rfl rfl ?_
                    exact AOps.nil ⟨rfl, rfl⟩
                    exact rfl
                    apply DrawSeq.consF; exact rfl; intro E
                    refine AOps.guardT rfl rfl rfl hb12 ?_; refine AOps.move rfl rfl ?_
                    exact AOps.nil ⟨rfl, rfl⟩
                    exact rfl
                    apply DrawSeq.consF; exact rfl; intro E
                    refine AOps.guardT rfl rfl rfl hb12 ?_; refine S.idx ha94 rfl rfl rfl rfl ?_
                    exact AOps.nil ⟨rfl, rfl⟩
                    exact rfl
                    apply DrawSeq.consF; exact rfl; intro E
                    refine AOps.guardT rfl rfl rfl hb12 ?_; refine AOps.loadI rfl rfl rfl rfl ?_
                    exact AOps.nil ⟨rfl, rfl⟩
                    exact rfl
                    apply DrawSeq.consF; exact rfl; intro E
                    refine AOps.guardT rfl rfl rfl hb12 ?_; refine AOps.move rfl rfl ?_
                    exact AOps.nil ⟨rfl, rfl⟩
                    exact rfl
                    apply DrawSeq.consF; exact rfl; intro E
                    refine AOps.guardT rfl rfl rfl hb12 ?_; refine S.idx ha97 rfl rfl rfl rfl ?_
                    exact AOps.nil ⟨rfl, rfl⟩
                    exact rfl
                    apply DrawSeq.consF; exact rfl; intro E
                    refine AOps.guardT rfl rfl rfl hb12 ?_; refine AOps.loadI rfl rfl rfl rfl ?_
                    exact AOps.nil ⟨rfl, rfl⟩
                    exact rfl
                    apply DrawSeq.consF; exact rfl; intro E
                    refine AOps.guardT rfl rfl rfl hb12 ?_; refine S.idx ha99 rfl rfl rfl rfl ?_
                    exact AOps.nil ⟨rfl, rfl⟩
                    exact rfl
                    apply DrawSeq.consF; exact rfl; intro E
                    refine AOps.guardT rfl rfl rfl hb12 ?_; refine W.fieldAddrI rfl rfl rfl rfl ?_
                    exact AOps.nil ⟨rfl, rfl⟩
                    exact rfl
                    apply DrawSeq.consF; exact rfl; intro E
                    refine AOps.guardT rfl rfl rfl hb12 ?_; refine AOps.loadI rfl rfl rfl rfl ?_
                    exact AOps.nil ⟨rfl, rfl⟩
                    exact rfl
                    apply DrawSeq.consF; exact rfl; intro E
                    refine AOps.guardT rfl rfl rfl hb12 ?_; refine AOps.move rfl rfl ?_
                    exact AOps.nil ⟨rfl, rfl⟩
                    exact rfl
                    apply DrawSeq.consF; exact rfl; intro E
                    refine AOps.guardT rfl rfl rfl hb12 ?_; refine AOps.move rfl rfl ?_
                    exact AOps.nil ⟨rfl, rfl⟩
                    exact rfl
                    apply DrawSeq.consF; exact rfl; intro E
                    refine AOps.guardT rfl rfl rfl hb12 ?_; refine S.idx ha104 rfl rfl rfl rfl ?_
                    exact AOps.nil ⟨rfl, rfl⟩
                    exact rfl
                    apply DrawSeq.consF; exact rfl; intro E
                    refine AOps.guardT rfl rfl rfl hb12 ?_; refine AOps.loadI rfl rfl rfl rfl ?_
                    exact AOps.nil ⟨rfl, rfl⟩
                    exact rfl
                    apply DrawSeq.consF; exact rfl; intro E
                    refine AOps.guardT rfl rfl rfl hb12 ?_; refine AOps.callR rfl rfl rfl rfl (ref1_Disjoint_ok ha106) rfl ?_
                    exact AOps.nil ⟨rfl, rfl⟩
                    exact rfl
                    apply DrawSeq.consF; exact rfl; intro E
                    refine AOps.guardT rfl rfl rfl hb12 ?_; refine AOps.not rfl rfl ?_
                    exact AOps.nil ⟨rfl, rfl⟩
                    exact rfl
                    apply DrawSeq.consF; exact rfl; intro E
                    refine AOps.pickT rfl hb12 rfl rfl ?_
                    exact AOps.nil ⟨rfl, rfl⟩
                    exact rfl
                    refine DrawSeq.done ?_
                    dsimp only [envEnd]
                    have ej := Option.some.inj hx11
                    subst ej
                    refine thn_normal ?_
                    exact Sub.env ⟨rfl, rfl, rfl, rfl, rfl, rfl, rfl, rfl, trivial⟩
                  · replace hx11 := iteBF hb12 hx11
                    refine AWP.drawI mixed rfl ?_
                    apply DrawSeq.consF; exact rfl; intro E
                    refine AOps.move rfl rfl ?_
                    exact AOps.nil ⟨rfl, rfl⟩
                    exact rfl
                    apply DrawSeq.consF; exact rfl; intro E
                    refine AOps.move rfl rfl ?_
                    exact AOps.nil ⟨rfl, rfl⟩
                    exact rfl
                    apply DrawSeq.consF; exact rfl; intro E
                    refine AOps.neq rfl rfl rfl ?_
                    exact AOps.nil ⟨rfl, rfl⟩
                    exact rfl
                    apply DrawSeq.consF; exact rfl; intro E
                    refine AOps.move rfl rfl ?_
                    exact AOps.nil ⟨rfl, rfl⟩
                    exact rfl
                    apply DrawSeq.consF; exact rfl; intro E
                    refine AOps.guardF rfl rfl rfl hb12 ?_
                    exact AOps.nil ⟨rfl, rfl⟩
                    exact rfl
                    apply DrawSeq.consF; exact rfl; intro E
                    refine AOps.guardF rfl rfl rfl hb12 ?_
                    exact AOps.nil ⟨rfl, rfl⟩
                    exact rfl
                    apply DrawSeq.consF; exact rfl; intro E
                    refine AOps.guardF rfl rfl rfl hb12 ?_
                    exact AOps.nil ⟨rfl, rfl⟩
                    exact rfl
                    apply DrawSeq.consF; exact rfl; intro E
                    refine AOps.guardF rfl rfl rfl hb12 ?_
                    exact AOps.nil ⟨rfl, rfl⟩
                    exact rfl
                    apply DrawSeq.consF; exact rfl; intro E
                    refine AOps.guardF rfl rfl rfl hb12 ?_
                    exact AOps.nil ⟨rfl, rfl⟩
                    exact rfl
                    apply DrawSeq.consF; exact rfl; intro E
                    refine AOps.guardF rfl rfl rfl hb12 ?_
                    exact AOps.nil ⟨rfl, rfl⟩
                    exact rfl
                    apply DrawSeq.consF; exact rfl; intro E
                    refine AOps.guardF rfl rfl rfl hb12 ?_
                    exact AOps.nil ⟨rfl, rfl⟩
                    exact rfl
                    apply DrawSeq.consF; exact rfl; intro E
                    refine AOps.guardF rfl rfl rfl hb12 ?_
                    exact AOps.nil ⟨rfl, rfl⟩
                    exact rfl
                    apply DrawSeq.consF; exact rfl; intro E
                    refine AOps.guardF rfl rfl rfl hb12 ?_
                    exact AOps.nil ⟨rfl, rfl⟩
                    exact rfl
                    apply DrawSeq.consF; exact rfl; intro E
                    refine AOps.guardF rfl rfl rfl hb12 ?_
                    exact AOps.nil ⟨rfl, rfl⟩
                    exact rfl
                    apply DrawSeq.consF; exact rfl; intro E
                    refine AOps.guardF rfl rfl rfl hb12 ?_
                    exact AOps.nil ⟨rfl, rfl⟩
                    exact rfl
                    apply DrawSeq.consF; exact rfl; intro E
                    refine AOps.guardF rfl rfl rfl hb12 ?_
                    exact AOps.nil ⟨rfl, rfl⟩
                    exact rfl
                    apply DrawSeq.consF; exact rfl; intro E
                    refine AOps.guardF rfl rfl rfl hb12 ?_
                    exact AOps.nil ⟨rfl, rfl⟩
                    exact rfl
                    apply DrawSeq.consF; exact rfl; intro E
                    refine AOps.guardF rfl rfl rfl hb12 ?_
                    exact AOps.nil ⟨rfl, rfl⟩
                    exact rfl
                    apply DrawSeq.consF; exact rfl; intro E
                    refine AOps.guardF rfl rfl rfl hb12 ?_
                    exact AOps.nil ⟨rfl, rfl⟩
                    exact rfl
                    apply DrawSeq.consF; exact rfl; intro E
                    refine AOps.guardF rfl rfl rfl hb12 ?_
                    exact AOps.nil ⟨rfl, rfl⟩
                    exact rfl
                    apply DrawSeq.consF; exact rfl; intro E
                    refine AOps.guardF rfl rfl rfl hb12 ?_
                    exact AOps.nil ⟨rfl, rfl⟩
                    exact rfl
                    apply DrawSeq.consF; exact rfl; intro E
                    refine AOps.guardF rfl rfl rfl hb12 ?_
                    exact AOps.nil ⟨rfl, rfl⟩
                    exact rfl
                    apply DrawSeq.consF; exact rfl; intro E
                    refine AOps.pickF rfl hb12 rfl rfl ?_
                    exact AOps.nil ⟨rfl, rfl⟩
                    exact rfl
                    refine DrawSeq.done ?_
                    dsimp only [envEnd]
                    have ej := Option.some.inj hx11
                    subst ej
                    refine thn_normal ?_
                    exact Sub.env ⟨rfl, rfl, rfl, rfl, rfl, rfl, rfl, rfl, trivial⟩
                · refine AWP.iteB rfl h (fun hc13 h => ?_) (fun hc13 h => ?_)
                  · refine AWP.seq ?_
                    obtain ⟨a109, ha109, h⟩ := bind_some h
                    refine AWP.region ?_
                    refine AOps.callR rfl rfl rfl rfl (law8_merged_ok ha109) rfl ?_
                    refine AOps.assign rfl rfl ?_
                    refine AOps.nil ?_
                    refine thn_normal ?_
                    refine AWP.ret ?_
                    refine inB_ret ?_
                    refine thn_ret ?_
                    have ej := Option.some.inj h
                    subst ej
                    refine thn_ret ⟨_, rfl, rfl, ?_⟩
                    exact Done.ret rfl rfl
                  · refine AWP.skip ?_
                    refine inB_normal ?_
                    refine thn_normal ?_
                    refine AWP.region ?_
                    refine AOps.move rfl rfl ?_
                    refine S.add rfl rfl rfl ?_
                    refine AOps.assign rfl rfl ?_
                    refine AOps.nil ?_
                    have ej := Option.some.inj h
                    subst ej
                    refine thn_normal ⟨_, rfl, ?_⟩
                    exact Sub.env ⟨rfl, rfl, rfl, rfl, rfl, rfl, rfl, trivial⟩
              · refine AWP.exit ?_
                refine thn_exit ?_
                have ej := Option.some.inj h
                subst ej
                refine thn_exit ⟨_, rfl, rfl, ?_⟩
                exact Sub.env ⟨rfl, rfl, rfl, rfl, rfl, rfl, trivial⟩
            · intro e s hq
              rcases oo with u | x
              · try dsimp only at h hq
                obtain ⟨rfl, hs⟩ := hq
                refine ⟨_, hs, ?_⟩
                refine inB_exit ?_
                refine inB_normal ?_
                refine thn_normal ?_
                refine AWP.region ?_
                refine AOps.move rfl rfl ?_
                refine AOps.add rfl rfl rfl (by omega) ?_
                refine AOps.assign rfl rfl ?_
                refine AOps.nil ?_
                have ej := Option.some.inj h
                subst ej
                refine thn_normal ⟨_, rfl, ?_⟩
                exact Sub.env ⟨rfl, rfl, rfl, rfl, rfl, rfl, trivial⟩
              · try dsimp only at h hq
                obtain ⟨rfl, hs⟩ := hq
                refine ⟨_, Sub.refl _ _, ?_⟩
                refine inB_ret ?_
                refine inB_ret ?_
                refine thn_ret ?_
                have ej := Option.some.inj h
                subst ej
                refine thn_ret ⟨_, rfl, rfl, ?_⟩
                exact hs
          · intro e s hq
            rcases oo with u | x
            · try dsimp only at h hq
              obtain ⟨rfl, hs⟩ := hq
              refine ⟨_, hs, ?_⟩
              refine inB_exit ?_
              refine inB_normal ?_
              refine thn_normal ?_
              refine AWP.region ?_
              refine AOps.move rfl rfl ?_
              refine AOps.add rfl rfl rfl (by omega) ?_
              refine AOps.assign rfl rfl ?_
              refine AOps.nil ?_
              have ej := Option.some.inj h
              subst ej
              refine thn_normal ⟨_, rfl, ?_⟩
              exact Sub.env ⟨rfl, rfl, rfl, rfl, rfl, trivial⟩
            · try dsimp only at h hq
              obtain ⟨rfl, hs⟩ := hq
              refine ⟨_, Sub.refl _ _, ?_⟩
              refine inB_ret ?_
              refine inB_ret ?_
              refine thn_ret ?_
              have ej := Option.some.inj h
              subst ej
              refine thn_ret ⟨_, rfl, rfl, ?_⟩
              exact hs
      · intro e s hq
        rcases oo with u | x
        · try dsimp only at h hq
          obtain ⟨rfl, hs⟩ := hq
          refine ⟨_, hs, ?_⟩
          refine inB_exit ?_
          refine thn_normal ?_
          obtain ⟨t14, hx15, h⟩ := bind_some h
          refine AWP.seqJ (⟨[(6, .c (bool t14))], []⟩) ?_ ?_
          · rcases Bool.eq_false_or_eq_true (a26.2.1) with hb16 | hb16
            · replace hx15 := iteBT hb16 hx15
              obtain ⟨a112, ha112, hx15⟩ := bind_some hx15
              refine AWP.region ?_
              refine AOps.move rfl rfl ?_
              refine AOps.move rfl rfl ?_
              refine AOps.guardT rfl rfl rfl hb16 ?_; refine AOps.callR rfl rfl rfl rfl (law8_merged_ok ha112) rfl ?_
              refine AOps.pickT rfl hb16 rfl rfl ?_
              refine AOps.assign rfl rfl ?_
              refine AOps.nil ?_
              have ej := Option.some.inj hx15
              subst ej
              refine thn_normal ?_
              exact Sub.cut ⟨rfl, trivial⟩ rfl trivial rfl
            · replace hx15 := iteBF hb16 hx15
              refine AWP.region ?_
              refine AOps.move rfl rfl ?_
              refine AOps.move rfl rfl ?_
              refine AOps.guardF rfl rfl rfl hb16 ?_
              refine AOps.pickF rfl hb16 rfl rfl ?_
              refine AOps.assign rfl rfl ?_
              refine AOps.nil ?_
              have ej := Option.some.inj hx15
              subst ej
              refine thn_normal ?_
              exact Sub.cut ⟨rfl, trivial⟩ rfl trivial rfl
          · refine AWP.ret ?_
            have ej := Option.some.inj h
            subst ej
            exact Done.ret rfl rfl
        · try dsimp only at h hq
          obtain ⟨rfl, hs⟩ := hq
          refine ⟨_, Sub.refl _ _, ?_⟩
          refine inB_ret ?_
          refine thn_ret ?_
          have ej := Option.some.inj h
          subst ej
          exact hs
end Ab
end
section
namespace Ab
open Go
theorem ix_nat {α : Type} {l : List α} {k : Nat} : ix l (k : Int) = l[k]? := by simp [ix]
theorem ix_of {α : Type} {l : List α} {i : Int} (h0 : 0 ≤ i) (h1 : i < l.length) : ∃ a, ix l i = some a ∧ l[i.toNat]? = some a := by
  have h : i.toNat < l.length := by omega
  exact ⟨l[i.toNat], by simp [ix, h0, h], by simp [h]⟩
theorem ix_lo {α : Type} {l : List α} {i : Int} {a : α} (h : ix l i = some a) : 0 ≤ i ∧ i < l.length ∧ l[i.toNat]? = some a := by
  unfold ix at h
  split at h
  · have := (List.getElem?_eq_some_iff.1 h).1
    exact ⟨by assumption, by omega, h⟩
  · cases h
theorem w64_of {n : Int} (h1 : -9223372036854775808 ≤ n) (h2 : n ≤ 9223372036854775807) : w64 n = n := w64_eq ⟨h1, h2⟩
theorem forN_inv {S : Type} {body : Int → S → Option S} (P : Int → S → Prop) : ∀ (k : Nat) (i : Int) (s : S), P i s →
    (∀ j s, i ≤ j → j < i + k → P j s → ∃ s', body j s = some s' ∧ P (j + 1) s') → ∃ s', forN body k i s = some s' ∧ P (i + k) s'
  | 0, i, s, h, _ => ⟨s, rfl, by simpa using h⟩
  | k + 1, i, s, h, hb => by
    obtain ⟨s1, h1, h2⟩ := hb i s (Int.le_refl _) (by omega) h
    obtain ⟨s2, h3, h4⟩ := forN_inv P k (i + 1) s1 h2 (fun j s g1 g2 => hb j s (by omega) (by omega))
    exact ⟨s2, by simp only [forN, h1]; exact h3, by rw [show i + ((k + 1 : Nat) : Int) = i + 1 + k by omega]; exact h4⟩
/-- A loop over numbers, from what it keeps. -/
theorem forR_inv {S : Type} {body : Int → S → Option S} {n : Int} (P : Int → S → Prop) {s : S} (hn : 0 ≤ n) (h0 : P 0 s)
    (hb : ∀ j s, 0 ≤ j → j < n → P j s → ∃ s', body j s = some s' ∧ P (j + 1) s') : ∃ s', forR 0 n body s = some s' ∧ P n s' := by
  obtain ⟨s', h1, h2⟩ := forN_inv P (n - 0).toNat 0 s h0 (fun j s g1 g2 => hb j s g1 (by omega))
  exact ⟨s', h1, by rwa [show (0 : Int) + ((n - 0).toNat : Int) = n by omega] at h2⟩
theorem rngN_inv {S O : Type} {body : Int → S → Option (S ⊕ O)} (P : Int → S → Prop) (Q : O → Prop) : ∀ (k : Nat) (i : Int) (s : S), P i s →
    (∀ j s, i ≤ j → j < i + k → P j s → (∃ s', body j s = some (.inl s') ∧ P (j + 1) s') ∨ ∃ o, body j s = some (.inr o) ∧ Q o) →
    (∃ s', rngN body k i s = some (.inl s') ∧ P (i + k) s') ∨ ∃ o, rngN body k i s = some (.inr o) ∧ Q o
  | 0, i, s, h, _ => .inl ⟨s, rfl, by simpa using h⟩
  | k + 1, i, s, h, hb => by
    rcases hb i s (Int.le_refl _) (by omega) h with ⟨s1, h1, h2⟩ | ⟨o, h1, h2⟩
    · rcases rngN_inv P Q k (i + 1) s1 h2 (fun j s g1 g2 => hb j s (by omega) (by omega)) with ⟨s2, h3, h4⟩ | ⟨o, h3, h4⟩
      · exact .inl ⟨s2, by simp only [rngN, h1]; exact h3, by rw [show i + ((k + 1 : Nat) : Int) = i + 1 + k by omega]; exact h4⟩
      · exact .inr ⟨o, by simp only [rngN, h1]; exact h3, h4⟩
    · exact .inr ⟨o, by simp only [rngN, h1], h2⟩
/-- A loop over numbers with ways out, from what it keeps. -/
theorem rngX_inv {S O : Type} {body : Int → S → Option (S ⊕ O)} {n : Int} (P : Int → S → Prop) (Q : O → Prop) {s : S} (hn : 0 ≤ n) (h0 : P 0 s)
    (hb : ∀ j s, 0 ≤ j → j < n → P j s → (∃ s', body j s = some (.inl s') ∧ P (j + 1) s') ∨ ∃ o, body j s = some (.inr o) ∧ Q o) :
    (∃ s', rngX 0 n body s = some (.inl s') ∧ P n s') ∨ ∃ o, rngX 0 n body s = some (.inr o) ∧ Q o := by
  rcases rngN_inv P Q (n - 0).toNat 0 s h0 (fun j s g1 g2 => hb j s g1 (by omega)) with ⟨s', h1, h2⟩ | h
  · exact .inl ⟨s', h1, by rwa [show (0 : Int) + ((n - 0).toNat : Int) = n by omega] at h2⟩
  · exact .inr h
theorem LoopN_inv {S O : Type} {body : S → Option (S ⊕ O)} (P : S → Prop) (Q : O → Prop) (μ : S → Nat) (hb : ∀ s, P s → (∃ s', body s = some (.inl s') ∧ P s' ∧ μ s' < μ s) ∨ ∃ o, body s = some (.inr o) ∧ Q o) :
    ∀ (k : Nat) (s : S), μ s < k → P s → ∃ o, LoopN body k s = some o ∧ Q o
  | 0, s, h, _ => by omega
  | k + 1, s, h, hs => by
    rcases hb s hs with ⟨s', h1, h2, h3⟩ | ⟨o, h1, h2⟩
    · obtain ⟨o, g1, g2⟩ := LoopN_inv P Q μ hb k s' (by omega) h2
      exact ⟨o, by simp only [LoopN, h1]; exact g1, g2⟩
    · exact ⟨o, by simp only [LoopN, h1], h2⟩
/-- A loop, from what it keeps and a measure that sinks. -/
theorem Loop_inv {S O : Type} {body : S → Option (S ⊕ O)} (P : S → Prop) (Q : O → Prop) (μ : S → Nat) {s : S} (hs : P s)
    (hb : ∀ s, P s → (∃ s', body s = some (.inl s') ∧ P s' ∧ μ s' < μ s) ∨ ∃ o, body s = some (.inr o) ∧ Q o) : ∃ o, Loop body s = some o ∧ Q o := by
  obtain ⟨o, h1, h2⟩ := LoopN_inv P Q μ hb (μ s + 1) s (by omega) hs
  exact ⟨o, Loop_iff.2 ⟨_, h1⟩, h2⟩
/-! ### Two loops that do the same -/
theorem rngN_eq {S O : Type} {b1 b2 : Int → S → Option (S ⊕ O)} (P : Int → S → Prop) : ∀ (k : Nat) (i : Int) (s : S), P i s →
    (∀ j s, i ≤ j → j < i + k → P j s → b1 j s = b2 j s ∧ b1 j s ≠ none ∧ ∀ s', b1 j s = some (.inl s') → P (j + 1) s') →
    rngN b1 k i s = rngN b2 k i s ∧ rngN b1 k i s ≠ none ∧ ∀ s', rngN b1 k i s = some (.inl s') → P (i + k) s'
  | 0, i, s, h, _ => ⟨rfl, by simp [rngN], fun s' hs => by simp only [rngN, Option.some.injEq, Sum.inl.injEq] at hs; subst hs; simpa using h⟩
  | k + 1, i, s, h, hb => by
    obtain ⟨h1, h2, h3⟩ := hb i s (Int.le_refl _) (by omega) h
    simp only [rngN]
    rw [← h1]
    cases hc : b1 i s with
    | none => exact absurd hc h2
    | some x =>
      cases x with
      | inr o => exact ⟨rfl, by simp, fun s' hs => by simp at hs⟩
      | inl s1 =>
        dsimp only
        have := rngN_eq (b1 := b1) (b2 := b2) P k (i + 1) s1 (h3 s1 hc) (fun j s g1 g2 => hb j s (by omega) (by omega))
        rwa [show i + 1 + (k : Int) = i + ((k + 1 : Nat) : Int) by omega] at this
theorem rngX_eq {S O : Type} {b1 b2 : Int → S → Option (S ⊕ O)} {n : Int} (P : Int → S → Prop) {s : S} (hn : 0 ≤ n) (h0 : P 0 s)
    (hb : ∀ j s, 0 ≤ j → j < n → P j s → b1 j s = b2 j s ∧ b1 j s ≠ none ∧ ∀ s', b1 j s = some (.inl s') → P (j + 1) s') :
    rngX 0 n b1 s = rngX 0 n b2 s ∧ rngX 0 n b1 s ≠ none ∧ ∀ s', rngX 0 n b1 s = some (.inl s') → P n s' := by
  have := rngN_eq P (n - 0).toNat 0 s h0 (fun j s g1 g2 => hb j s g1 (by omega))
  rwa [show (0 : Int) + ((n - 0).toNat : Int) = n by omega] at this
end Ab
end
section
namespace Ab
open Go
/-- A proposition as' a truth value. -/
noncomputable def dec (p : Prop) : Bool := @decide p (Classical.propDecidable p)
@[simp] theorem dec_true {p : Prop} : dec p = true ↔ p := by simp [dec]
@[simp] theorem dec_false {p : Prop} : dec p = false ↔ ¬ p := by simp [dec]
@[simp] theorem dec_not {p : Prop} : (!dec p) = dec (¬ p) := by by_cases h : p <;> simp [dec, h]
theorem decide_dec {p : Prop} [Decidable p] : decide p = dec p := by by_cases h : p <;> simp [dec, h]
theorem dec_of {p : Prop} (h : p) : dec p = true := dec_true.2 h
theorem dec_no {p : Prop} (h : ¬ p) : dec p = false := dec_false.2 h
theorem dec_congr {p q : Prop} (h : p ↔ q) : dec p = dec q := by rw [propext h]
theorem dec_and {p q : Prop} : (dec p && dec q) = dec (p ∧ q) := by by_cases h : p <;> by_cases g : q <;> simp [dec, h, g]
theorem ifP {α : Type} {p : Prop} {a b : α} (h : p) : (if dec p = true then a else b) = a := if_pos (dec_of h)
theorem ifN {α : Type} {p : Prop} {a b : α} (h : ¬ p) : (if dec p = true then a else b) = b := if_neg fun g => h (dec_true.1 g)
theorem ifNN {α : Type} {p : Prop} {a b : α} (h : p) : (if dec (¬ p) = true then a else b) = b := ifN (not_not_intro h)
theorem ix_mem {α : Type} {l : List α} {i : Int} {a : α} (h : ix l i = some a) : a ∈ l := List.mem_of_getElem? (ix_lo h).2.2
theorem mem_ix {α : Type} {l : List α} {a : α} (h : a ∈ l) : ∃ i : Int, 0 ≤ i ∧ i < l.length ∧ ix l i = some a := by
  obtain ⟨k, hk⟩ := List.getElem?_of_mem h
  exact ⟨k, by omega, by have := (List.getElem?_eq_some_iff.1 hk).1; omega, by rw [ix_nat, hk]⟩
theorem ix_put {α : Type} {l : List α} {i j : Int} {x : α} (h0 : 0 ≤ i) (h1 : i < l.length) (hj : 0 ≤ j) : ix (l.set i.toNat x) j = if j = i then some x else ix l j := by
  simp only [ix, hj, if_true, List.getElem?_set]
  by_cases h : j = i
  · subst h; rw [if_pos rfl, if_pos rfl, if_pos (by omega)]
  · rw [if_neg h, if_neg (by omega)]
/-- A loop that tests: the first number that fails ends it. -/
theorem rngX_test {O : Type} {body : Int → Unit → Option (Unit ⊕ O)} {n : Int} (g : Int → Option O) (hn : 0 ≤ n)
    (hb : ∀ j, 0 ≤ j → j < n → (∀ i, 0 ≤ i → i < j → g i = none) → body j () = some (match g j with | none => .inl () | some o => .inr o)) :
    (rngX 0 n body () = some (.inl ()) ∧ ∀ j, 0 ≤ j → j < n → g j = none) ∨ ∃ j o, 0 ≤ j ∧ j < n ∧ g j = some o ∧ (∀ i, 0 ≤ i → i < j → g i = none) ∧ rngX 0 n body () = some (.inr o) := by
  rcases rngX_inv (body := body) (n := n) (fun j _ => ∀ i, 0 ≤ i → i < j → g i = none) (fun o => ∃ j, 0 ≤ j ∧ j < n ∧ g j = some o ∧ ∀ i, 0 ≤ i → i < j → g i = none) (s := ()) hn (fun i h1 h2 => by omega) (fun j s h0 h1 hP => by
    have := hb j h0 h1 hP
    cases hg : g j with
    | none => rw [hg] at this; exact .inl ⟨(), this, fun i h2 h3 => by
        rcases Int.lt_or_eq_of_le (Int.le_of_lt_add_one h3) with h | h
        · exact hP i h2 h
        · rw [h, hg]⟩
    | some o => rw [hg] at this; exact .inr ⟨o, this, j, h0, h1, hg, hP⟩) with ⟨s', h1, h2⟩ | ⟨o, h1, j, h2, h3, h4, h5⟩
  · exact .inl ⟨h1, h2⟩
  · exact .inr ⟨j, o, h2, h3, h4, h5, h1⟩
/-- A loop over a list that tests its elements. -/
theorem rng_list {α O : Type} {l : List α} {body : Int → Unit → Option (Unit ⊕ O)} (q : α → Prop) (b : O)
    (hb : ∀ j a, ix l j = some a → (q a ∧ body j () = some (.inl ())) ∨ (¬ q a ∧ body j () = some (.inr b))) :
    rngX 0 (l.length : Int) body () = some (if dec (∀ a ∈ l, q a) = true then .inl () else .inr b) := by
  rcases rngX_test (body := body) (n := (l.length : Int)) (fun j => match ix l j with | some a => if dec (q a) = true then none else some b | none => none) (by omega) (fun j h0 h1 _ => by
    obtain ⟨a, h2, _⟩ := ix_of h0 h1
    rw [h2]
    rcases hb j a h2 with ⟨h3, h4⟩ | ⟨h3, h4⟩
    · rw [h4]; simp [h3]
    · rw [h4]; simp [h3]) with ⟨h1, h2⟩ | ⟨j, o, h0, h1, h2, _, h4⟩
  · rw [h1, if_pos]
    rw [dec_true]
    intro a ha
    obtain ⟨i, g1, g2, g3⟩ := mem_ix ha
    have := h2 i g1 g2
    rw [g3] at this
    simpa using this
  · rw [h4]
    obtain ⟨a, g1, _⟩ := ix_of h0 h1
    rw [g1] at h2
    simp only [dec_true] at h2
    split at h2
    · cases h2
    · rename_i hq
      cases h2
      rw [if_neg]
      rw [dec_true]
      exact fun h => hq (dec_of (h a (ix_mem g1)))
/-- Rising lists. -/
abbrev Inc (l : List Int) : Prop := l.Pairwise (· < ·)
theorem inc_of_adj : ∀ {l : List Int}, (∀ (k : Nat) a b, l[k]? = some a → l[k + 1]? = some b → a < b) → Inc l
  | [], _ => .nil
  | [_], _ => by simp
  | a :: b :: l, h => by
    have ih : Inc (b :: l) := inc_of_adj fun k x y h1 h2 => h (k + 1) x y (by simpa using h1) (by simpa using h2)
    have hab : a < b := h 0 a b rfl rfl
    refine List.pairwise_cons.2 ⟨fun c hc => ?_, ih⟩
    rcases List.mem_cons.1 hc with rfl | hc
    · exact hab
    · exact Int.lt_trans hab ((List.pairwise_cons.1 ih).1 c hc)
theorem Inc.get {l : List Int} (h : Inc l) {i j : Nat} {a b : Int} (hi : l[i]? = some a) (hj : l[j]? = some b) (hij : i < j) : a < b := by
  obtain ⟨h1, rfl⟩ := List.getElem?_eq_some_iff.1 hi
  obtain ⟨h2, rfl⟩ := List.getElem?_eq_some_iff.1 hj
  exact List.pairwise_iff_getElem.1 h i j h1 h2 hij
theorem Inc.ext : ∀ {l m : List Int}, Inc l → Inc m → (∀ x, x ∈ l ↔ x ∈ m) → l = m
  | [], [], _, _, _ => rfl
  | [], b :: m, _, _, h => absurd ((h b).2 (by simp)) (by simp)
  | a :: l, [], _, _, h => absurd ((h a).1 (by simp)) (by simp)
  | a :: l, b :: m, hl, hm, h => by
    obtain ⟨l1, l2⟩ := List.pairwise_cons.1 hl
    obtain ⟨m1, m2⟩ := List.pairwise_cons.1 hm
    have hab : a = b := by
      rcases List.mem_cons.1 ((h a).1 (by simp)) with e | e
      · exact e
      · rcases List.mem_cons.1 ((h b).2 (by simp)) with e' | e'
        · exact e'.symm
        · have := l1 b e'; have := m1 a e; omega
    subst hab
    rw [Inc.ext l2 m2 fun x => ⟨fun hx => ?_, fun hx => ?_⟩]
    · rcases List.mem_cons.1 ((h x).1 (by simp [hx])) with e | e
      · have := l1 x hx; omega
      · exact e
    · rcases List.mem_cons.1 ((h x).2 (by simp [hx])) with e | e
      · have := m1 x hx; omega
      · exact e
theorem Inc.filter {l : List Int} (h : Inc l) (p : Int → Bool) : Inc (l.filter p) := List.Pairwise.filter p h
/-- Numbers from lo on. -/
def nums (lo : Int) : Nat → List Int
  | 0 => []
  | k + 1 => lo :: nums (lo + 1) k
theorem mem_nums {x : Int} : ∀ {k : Nat} {lo : Int}, x ∈ nums lo k ↔ lo ≤ x ∧ x < lo + k
  | 0, lo => by simp [nums]
  | k + 1, lo => by
    rw [nums, List.mem_cons, mem_nums (k := k)]
    omega
theorem inc_nums : ∀ (k : Nat) (lo : Int), Inc (nums lo k)
  | 0, _ => .nil
  | k + 1, lo => List.pairwise_cons.2 ⟨fun x hx => by have := mem_nums.1 hx; omega, inc_nums k (lo + 1)⟩
theorem len_nums : ∀ (k : Nat) (lo : Int), (nums lo k).length = k
  | 0, _ => rfl
  | k + 1, lo => by simp [nums, len_nums k]
/-- The set of the numbers below n of which p holds. -/
noncomputable def setOf (p : Int → Prop) (n : Int) : List Int := (nums 0 n.toNat).filter fun x => dec (p x)
theorem mem_setOf {p : Int → Prop} {n x : Int} : x ∈ setOf p n ↔ 0 ≤ x ∧ x < n ∧ p x := by
  rw [setOf, List.mem_filter, mem_nums, dec_true]
  constructor
  · rintro ⟨⟨h1, h2⟩, h3⟩; exact ⟨h1, by omega, h3⟩
  · rintro ⟨h1, h2, h3⟩; exact ⟨⟨h1, by omega⟩, h3⟩
theorem inc_setOf (p : Int → Prop) (n : Int) : Inc (setOf p n) := (inc_nums _ _).filter _
theorem setOf_congr {p q : Int → Prop} {n : Int} (h : ∀ x, 0 ≤ x → x < n → (p x ↔ q x)) : setOf p n = setOf q n := by
  refine List.filter_congr fun x hx => dec_congr ?_
  have := mem_nums.1 hx
  exact h x (by omega) (by omega)
/-- A rising list of numbers below n. -/
def SetN (l : List Int) (n : Int) : Prop := Inc l ∧ ∀ x ∈ l, 0 ≤ x ∧ x < n
theorem setN_setOf (p : Int → Prop) (n : Int) : SetN (setOf p n) n := ⟨inc_setOf p n, fun x hx => by have := mem_setOf.1 hx; exact ⟨this.1, this.2.1⟩⟩
theorem SetN.eq {l : List Int} {n : Int} (h : SetN l n) : l = setOf (· ∈ l) n :=
  h.1.ext (inc_setOf _ _) fun x => ⟨fun hx => mem_setOf.2 ⟨(h.2 x hx).1, (h.2 x hx).2, hx⟩, fun hx => (mem_setOf.1 hx).2.2⟩
theorem SetN.eq_of {l : List Int} {n : Int} (h : SetN l n) {p : Int → Prop} (hp : ∀ x, 0 ≤ x → x < n → (x ∈ l ↔ p x)) : l = setOf p n :=
  h.eq.trans (setOf_congr hp)
theorem SetN.len {l : List Int} {n : Int} (h : SetN l n) : l.length ≤ n.toNat := by
  rw [h.eq, setOf]
  exact Nat.le_trans (List.length_filter_le _ _) (Nat.le_of_eq (len_nums _ _))
theorem setN_nil (n : Int) : SetN [] n := ⟨.nil, by simp⟩
/-- A list of the elements that pass, made by appending. -/
theorem forR_filter {α : Type} {l : List α} {b : Nat} {body : Int → List α → Option (List α)} (q : α → Prop)
    (hb : ∀ j a c, ix l j = some a → (q a → body j c = app b c [a]) ∧ (¬ q a → body j c = some c)) (c0 : List α) (hl : (c0.length + l.length) * b ≤ 140737488355328) :
    forR 0 (l.length : Int) body c0 = some (c0 ++ l.filter fun a => dec (q a)) := by
  obtain ⟨s', h1, h2⟩ := forR_inv (body := body) (n := (l.length : Int)) (s := c0) (fun j c => c = c0 ++ (l.take j.toNat).filter fun a => dec (q a)) (by omega) (by simp) (fun j c h0 h1 hP => by
    obtain ⟨a, g1, g2⟩ := ix_of h0 h1
    have e : (j + 1).toNat = j.toNat + 1 := by omega
    have ht : l.take (j + 1).toNat = l.take j.toNat ++ [a] := by rw [e, List.take_add_one, g2]; rfl
    by_cases hq : q a
    · have happ : app b c [a] = some (c ++ [a]) := by
        rw [app, if_pos]
        have h3 : ((l.take j.toNat).filter fun a => dec (q a)).length ≤ (l.take j.toNat).length := List.length_filter_le _ _
        rw [List.length_take] at h3
        have h5 : c.length + 1 ≤ c0.length + l.length := by rw [hP, List.length_append]; omega
        refine Nat.le_trans (Nat.mul_le_mul_right b ?_) hl
        simpa using h5
      refine ⟨c ++ [a], by rw [(hb j a c g1).1 hq, happ], ?_⟩
      rw [ht, List.filter_append, hP]
      simp [hq]
    · refine ⟨c, (hb j a c g1).2 hq, ?_⟩
      rw [ht, List.filter_append, hP]
      simp [hq])
  rw [h1, h2]
  simp
/-- The same over numbers. -/
theorem forR_setOf {b : Nat} {n : Int} {body : Int → List Int → Option (List Int)} (q : Int → Prop) (hn : 0 ≤ n) (hl : n.toNat * b ≤ 140737488355328)
    (hb : ∀ j c, 0 ≤ j → j < n → (q j → body j c = app b c [j]) ∧ (¬ q j → body j c = some c)) : forR 0 n body [] = some (setOf q n) := by
  obtain ⟨s', h1, h2⟩ := forR_inv (body := body) (n := n) (s := []) (fun j c => c = setOf q j) hn (by simp [setOf, nums]) (fun j c h0 h1 hP => by
    have hs : setOf q (j + 1) = setOf q j ++ if dec (q j) = true then [j] else [] := by
      refine (inc_setOf q (j + 1)).ext ?_ fun x => ?_
      · refine List.pairwise_append.2 ⟨inc_setOf _ _, by split <;> simp, fun a ha b hb => ?_⟩
        have := mem_setOf.1 ha
        split at hb
        · simp at hb; omega
        · cases hb
      · rw [List.mem_append, mem_setOf, mem_setOf]
        by_cases hq : q j
        · rw [if_pos (dec_of hq)]
          simp only [List.mem_singleton]
          refine ⟨fun h => ?_, fun h => ?_⟩
          · by_cases e : x = j
            · exact .inr e
            · exact .inl ⟨h.1, by omega, h.2.2⟩
          · rcases h with h | rfl
            · exact ⟨h.1, by omega, h.2.2⟩
            · exact ⟨h0, by omega, hq⟩
        · rw [if_neg (by simpa using hq)]
          simp only [List.not_mem_nil, or_false]
          refine ⟨fun h => ⟨h.1, ?_, h.2.2⟩, fun h => ⟨h.1, by omega, h.2.2⟩⟩
          rcases Int.lt_or_eq_of_le (Int.le_of_lt_add_one h.2.1) with e | e
          · exact e
          · rw [e] at h; exact absurd h.2.2 hq
    by_cases hq : q j
    · refine ⟨c ++ [j], ?_, by rw [hs, hP, if_pos (dec_of hq)]⟩
      rw [(hb j c h0 h1).1 hq, app, if_pos]
      have h3 : c.length ≤ j.toNat := by rw [hP]; exact (setN_setOf q j).len
      refine Nat.le_trans (Nat.mul_le_mul_right b ?_) hl
      simp; omega
    · refine ⟨c, (hb j c h0 h1).2 hq, ?_⟩
      rw [hs, hP, if_neg (by simpa using hq), List.append_nil])
  rw [h1, h2]
end Ab
end
section
namespace Ab
open Go
theorem has_eq (l : List Int) (n : Int) : ref1_Has l n = some (dec (n ∈ l)) := by
  unfold ref1_Has
  rw [rng_list (l := l) (fun a => a ≠ n) true (fun j a h => by
    unfold ref1_Has_l1
    rw [h]
    by_cases e : a = n <;> simp [e])]
  by_cases h : n ∈ l
  · rw [if_neg (by simp only [dec_true]; exact fun g => g n h rfl)]
    simp [h]
  · rw [if_pos (by simp only [dec_true]; exact fun a ha e => h (e ▸ ha))]
    simp [h]
theorem subset_eq (part l : List Int) : ref1_Subset part l = some (dec (∀ x ∈ part, x ∈ l)) := by
  unfold ref1_Subset
  rw [rng_list (l := part) (fun a => a ∈ l) false (fun j a h => by
    unfold ref1_Subset_l1
    rw [h]
    by_cases e : a ∈ l <;> simp [e, has_eq])]
  by_cases h : ∀ x ∈ part, x ∈ l
  · rw [if_pos (dec_of h), dec_of h]; rfl
  · rw [if_neg (by rw [dec_no h]; simp), dec_no h]; rfl
theorem disjoint_eq (a b : List Int) : ref1_Disjoint a b = some (dec (∀ x ∈ a, x ∉ b)) := by
  unfold ref1_Disjoint
  rw [rng_list (l := a) (fun x => x ∉ b) false (fun j x h => by
    unfold ref1_Disjoint_l1
    rw [h]
    by_cases e : x ∈ b <;> simp [e, has_eq])]
  by_cases h : ∀ x ∈ a, x ∉ b
  · rw [if_pos (dec_of h), dec_of h]; rfl
  · rw [if_neg (by rw [dec_no h]; simp), dec_no h]; rfl
theorem in_eq (n lo hi : Int) : ref1_In n lo hi = some (dec (lo ≤ n ∧ n ≤ hi)) := by
  unfold ref1_In; rw [decide_dec, decide_dec, dec_and]
theorem at_eq (c i : Int) : ref1_At c i = some ⟨c, i⟩ := rfl
/-- What a test of a rising list asks at a place. -/
def stepOk (l : List Int) (n j : Int) : Prop := ∀ a, ix l j = some a → (0 ≤ a ∧ a < n) ∧ ∀ b, 0 < j → ix l (j - 1) = some b → b < a
theorem stepOk_iff {l : List Int} {n : Int} : (∀ j : Int, 0 ≤ j → j < l.length → stepOk l n j) ↔ SetN l n := by
  constructor
  · intro h
    refine ⟨inc_of_adj fun k a b h1 h2 => ?_, fun x hx => ?_⟩
    · have hk := (List.getElem?_eq_some_iff.1 h2).1
      have := (h ((k + 1 : Nat) : Int) (by omega) (by omega) b (by rw [ix_nat]; exact h2)).2 a (by omega)
      rw [show ((k + 1 : Nat) : Int) - 1 = (k : Nat) by omega] at this
      exact this (by rw [ix_nat]; exact h1)
    · obtain ⟨i, h1, h2, h3⟩ := mem_ix hx
      exact (h i h1 h2 x h3).1
  · intro h j h0 h1 a ha
    refine ⟨h.2 a (ix_mem ha), fun b hj hb => ?_⟩
    obtain ⟨_, _, ga⟩ := ix_lo ha
    obtain ⟨_, _, gb⟩ := ix_lo hb
    exact h.1.get gb ga (by omega)
theorem isSet_eq (l : List Int) (n : Int) : strips_IsSet l n = some (dec (SetN l n)) := by
  unfold strips_IsSet
  rcases rngX_test (body := strips_IsSet_l1 l n) (n := (l.length : Int)) (fun j => if dec (stepOk l n j) = true then none else some false) (by omega) (fun j h0 h1 _ => by
    obtain ⟨a, ha, _⟩ := ix_of (l := l) h0 h1
    unfold strips_IsSet_l1
    rw [ha]
    simp only [Option.bind_some]
    by_cases c1 : a < 0
    · rw [if_pos c1, if_neg]
      · rfl
      · rw [dec_true]; intro h; have := (h a ha).1; omega
    · rw [if_neg c1]
      by_cases c2 : n ≤ a
      · rw [if_pos c2, if_neg]
        · rfl
        · rw [dec_true]; intro h; have := (h a ha).1; omega
      · rw [if_neg c2]
        by_cases c3 : 0 < j
        · obtain ⟨b, hb, _⟩ := ix_of (l := l) (i := j - 1) (by omega) (by omega)
          rw [if_pos c3, hb]
          simp only [Option.bind_some]
          by_cases c4 : a ≤ b
          · rw [if_pos (by simpa using c4), if_neg]
            rw [dec_true]; intro h; have := (h a ha).2 b c3 hb; omega
          · rw [if_neg (by simpa using c4), if_pos]
            rw [dec_true]; intro x hx
            rw [ha] at hx; cases hx
            exact ⟨by omega, fun y _ hy => by rw [hb] at hy; cases hy; omega⟩
        · rw [if_neg c3]
          simp only [Option.bind_some]
          rw [if_neg (by simp), if_pos]
          rw [dec_true]; intro x hx
          rw [ha] at hx; cases hx
          exact ⟨by omega, fun y hy => absurd hy c3⟩) with ⟨h1, h2⟩ | ⟨j, o, h0, h1, h2, _, h4⟩
  · rw [h1, dec_of]
    · rfl
    · exact stepOk_iff.1 fun j g1 g2 => by have := h2 j g1 g2; simpa using this
  · rw [h4]
    split at h2
    · cases h2
    · rename_i hs
      cases h2
      rw [dec_no]
      · rfl
      · exact fun h => hs (dec_of (stepOk_iff.2 h j h0 h1))
theorem rIsSet_eq (l : List Int) {n : Int} (hn : -9223372036854775808 < n) (hn' : n ≤ 9223372036854775807) : ref1_IsSet l n = some (dec (SetN l n)) := by
  unfold ref1_IsSet
  rcases rngX_test (body := ref1_IsSet_l1 l n) (n := (l.length : Int)) (fun j => if dec (stepOk l n j) = true then none else some false) (by omega) (fun j h0 h1 _ => by
    obtain ⟨a, ha, _⟩ := ix_of (l := l) h0 h1
    unfold ref1_IsSet_l1
    rw [ha]
    simp only [Option.bind_some, in_eq, w64_of (n := n - 1) (by omega) (by omega), dec_not]
    by_cases c1 : 0 ≤ a ∧ a ≤ n - 1
    · rw [if_neg (by simpa using c1)]
      by_cases c3 : 0 < j
      · obtain ⟨b, hb, _⟩ := ix_of (l := l) (i := j - 1) (by omega) (by omega)
        rw [if_pos c3, hb]
        simp only [Option.bind_some]
        by_cases c4 : a ≤ b
        · rw [if_pos (by simpa using c4), if_neg]
          rw [dec_true]; intro h; have := (h a ha).2 b c3 hb; omega
        · rw [if_neg (by simpa using c4), if_pos]
          rw [dec_true]; intro x hx
          rw [ha] at hx; cases hx
          exact ⟨by omega, fun y _ hy => by rw [hb] at hy; cases hy; omega⟩
      · rw [if_neg c3]
        simp only [Option.bind_some]
        rw [if_neg (by simp), if_pos]
        rw [dec_true]; intro x hx
        rw [ha] at hx; cases hx
        exact ⟨by omega, fun y hy => absurd hy c3⟩
    · rw [if_pos (by simpa using c1), if_neg]
      · rfl
      · rw [dec_true]; intro h; have := (h a ha).1; omega) with ⟨h1, h2⟩ | ⟨j, o, h0, h1, h2, _, h4⟩
  · rw [h1, dec_of]
    · rfl
    · exact stepOk_iff.1 fun j g1 g2 => by have := h2 j g1 g2; simpa using this
  · rw [h4]
    split at h2
    · cases h2
    · rename_i hs
      cases h2
      rw [dec_no]
      · rfl
      · exact fun h => hs (dec_of (stepOk_iff.2 h j h0 h1))
theorem containsLoop {s : List Int} (hs : Inc s) (hl : s.length ≤ 1000000) (x : Int) {i : Int} (h0 : 0 ≤ i) (h1 : i ≤ s.length) (hlt : ∀ k a, 0 ≤ k → k < i → ix s k = some a → a < x) :
    ∃ i', Loop (strips_Contains_l2 s x) i = some i' ∧ i ≤ i' ∧ i' ≤ s.length ∧ (∀ k a, 0 ≤ k → k < i' → ix s k = some a → a < x) ∧ (∀ a, ix s i' = some a → x ≤ a) := by
  obtain ⟨o, h2, h3⟩ := Loop_inv (body := strips_Contains_l2 s x) (fun j => i ≤ j ∧ j ≤ s.length ∧ ∀ k a, 0 ≤ k → k < j → ix s k = some a → a < x) (fun i' => i ≤ i' ∧ i' ≤ s.length ∧ (∀ k a, 0 ≤ k → k < i' → ix s k = some a → a < x) ∧ (∀ a, ix s i' = some a → x ≤ a)) (fun j => (s.length - j).toNat) (s := i) ⟨Int.le_refl _, h1, hlt⟩ (fun j ⟨g1, g2, g3⟩ => by
    unfold strips_Contains_l2
    by_cases c : j < s.length
    · obtain ⟨a, ha, _⟩ := ix_of (l := s) (i := j) (by omega) c
      rw [if_pos c, ha]
      simp only [Option.bind_some, decide_eq_true_eq]
      by_cases c2 : a < x
      · rw [if_pos c2]
        rw [w64_of (by omega) (by omega)]
        refine .inl ⟨j + 1, rfl, ⟨by omega, by omega, fun k b k0 k1 hb => ?_⟩, by omega⟩
        by_cases e : k = j
        · subst e; rw [ha] at hb; cases hb; exact c2
        · exact g3 k b k0 (by omega) hb
      · rw [if_neg c2]
        exact .inr ⟨j, rfl, g1, g2, g3, fun b hb => by rw [ha] at hb; cases hb; omega⟩
    · rw [if_neg c]
      exact .inr ⟨j, rfl, g1, g2, g3, fun b hb => by have := (ix_lo hb).2.1; omega⟩)
  exact ⟨o, h2, h3⟩
theorem contains_eq {s part : List Int} (hs : Inc s) (hp : Inc part) (hl : s.length ≤ 1000000) : strips_Contains s part = some (dec (∀ x ∈ part, x ∈ s)) := by
  unfold strips_Contains
  rcases rngX_inv (body := strips_Contains_l1 s part) (n := (part.length : Int)) (fun j i => (0 ≤ i ∧ i ≤ s.length ∧ ∀ k a, 0 ≤ k → k < i → ix s k = some a → ∀ m x, j ≤ m → ix part m = some x → a < x) ∧ ∀ m x, 0 ≤ m → m < j → ix part m = some x → x ∈ s) (fun o => o = false ∧ ¬ ∀ x ∈ part, x ∈ s) (s := 0) (by omega) ⟨⟨by omega, by omega, fun k a h1 h2 => by omega⟩, fun m x h1 h2 => by omega⟩ (fun j i h0 h1 ⟨⟨g1, g2, g3⟩, g4⟩ => by
    obtain ⟨x, hx, gx⟩ := ix_of (l := part) h0 h1
    unfold strips_Contains_l1
    obtain ⟨i', e1, e2, e3, e4, e5⟩ := containsLoop hs hl x g1 g2 (fun k a k0 k1 ha => g3 k a k0 k1 ha j x (Int.le_refl _) hx)
    rw [hx]
    simp only [Option.bind_some, e1]
    have nin : (∀ a, ix s i' = some a → x < a) → x ∉ s := fun hgt hin => by
      obtain ⟨k, k0, k1, hk⟩ := mem_ix hin
      rcases Int.lt_trichotomy k i' with c | c | c
      · have := e4 k x k0 c hk; omega
      · subst c; have := hgt x hk; omega
      · obtain ⟨b, hb, gb⟩ := ix_of (l := s) (i := i') (by omega) (by omega)
        obtain ⟨_, _, gk⟩ := ix_lo hk
        have := hs.get gb gk (by omega)
        have := e5 b hb
        omega
    by_cases c : i' = s.length
    · rw [if_pos c]
      refine .inr ⟨false, rfl, rfl, fun h => ?_⟩
      exact nin (fun a ha => by have := (ix_lo ha).2.1; omega) (h x (ix_mem hx))
    · rw [if_neg c]
      obtain ⟨b, hb, gb⟩ := ix_of (l := s) (i := i') (by omega) (by omega)
      rw [hb]
      simp only [Option.bind_some]
      have hxb := e5 b hb
      by_cases c2 : b = x
      · subst c2
        rw [if_neg (by simp)]
        refine .inl ⟨i', rfl, ⟨by omega, e3, fun k a k0 k1 ha m y hm hy => ?_⟩, fun m y m0 m1 hy => ?_⟩
        · obtain ⟨_, _, gy⟩ := ix_lo hy
          have := hp.get gx gy (by omega)
          have := e4 k a k0 k1 ha
          omega
        · by_cases e : m = j
          · subst e; rw [hx] at hy; cases hy; exact ix_mem hb
          · exact g4 m y m0 (by omega) hy
      · rw [if_pos (by simpa using c2)]
        refine .inr ⟨false, rfl, rfl, fun h => ?_⟩
        exact nin (fun a ha => by rw [hb] at ha; cases ha; omega) (h x (ix_mem hx))) with ⟨s', h1, _, h2⟩ | ⟨o, h1, rfl, h2⟩
  · rw [h1, dec_of]
    · rfl
    · intro x hx
      obtain ⟨m, m0, m1, hm⟩ := mem_ix hx
      exact h2 m x m0 m1 hm
  · rw [h1, dec_no h2]; rfl
end Ab
end
section
namespace Ab
open Go
theorem half_eq {i j : Int} (h0 : 0 ≤ i) (h1 : i ≤ j) (h2 : j ≤ 1000000) : w64 (shrW .u64 ((IntKind.u64).wrap (w64 (i + j))) 1) = (i + j) / 2 := by
  rw [w64_of (n := i + j) (by omega) (by omega), IntKind.wrap_u64, Int.emod_eq_of_lt (by omega) (by omega)]
  have : shrW .u64 (i + j) 1 = (i + j) / 2 := by
    simp only [shrW, IntKind.bits]
    rw [show min (1 : Int).toNat 64 = 1 by rfl, Int.fdiv_eq_ediv_of_nonneg _ (by decide)]
    rfl
  rw [this]
  exact w64_of (by omega) (by omega)
theorem less_eq (a b : Int) : cmp_Less_int a b = some (decide (a < b)) := by simp [cmp_Less_int, cmp_isNaN_int]
theorem bsearch_eq {xs : List Int} (hs : Inc xs) (hl : xs.length ≤ 500000) (t : Int) : ∃ i, slices_BinarySearch_int_int xs t = some (i, dec (t ∈ xs)) ∧ 0 ≤ i ∧ i ≤ xs.length ∧ (∀ k a, 0 ≤ k → k < i → ix xs k = some a → a < t) ∧ (∀ k a, i ≤ k → ix xs k = some a → t ≤ a) := by
  unfold slices_BinarySearch_int_int
  obtain ⟨i, h1, h2, h3, h4, h5⟩ := Loop_inv (body := slices_BinarySearch_int_int_l1 xs t) (fun p => (0 ≤ p.1 ∧ p.1 ≤ p.2 ∧ p.2 ≤ xs.length) ∧ (∀ k a, 0 ≤ k → k < p.1 → ix xs k = some a → a < t) ∧ (∀ k a, p.2 ≤ k → ix xs k = some a → t ≤ a))
    (fun i => 0 ≤ i ∧ i ≤ xs.length ∧ (∀ k a, 0 ≤ k → k < i → ix xs k = some a → a < t) ∧ (∀ k a, i ≤ k → ix xs k = some a → t ≤ a)) (fun p => (p.2 - p.1).toNat) (s := (0, (xs.length : Int)))
    ⟨⟨by simp, by simp, by simp⟩, fun k a h1 h2 => by simp at h2; omega, fun k a h1 h2 => by have := (ix_lo h2).2.1; simp at h1; omega⟩ (fun ⟨i, j⟩ ⟨⟨g1, g2, g3⟩, g4, g5⟩ => by
    dsimp only at g1 g2 g3 g4 g5 ⊢
    unfold slices_BinarySearch_int_int_l1
    dsimp only
    by_cases c : i < j
    · rw [if_pos c, half_eq g1 g2 (by omega)]
      obtain ⟨a, ha, ga⟩ := ix_of (l := xs) (i := (i + j) / 2) (by omega) (by omega)
      rw [ha]
      simp only [Option.bind_some, less_eq, decide_eq_true_eq]
      by_cases c2 : a < t
      · rw [if_pos c2, w64_of (by omega) (by omega)]
        refine .inl ⟨_, rfl, ⟨⟨by dsimp only; omega, by dsimp only; omega, g3⟩, fun k b k0 k1 hb => ?_, g5⟩, by dsimp only; omega⟩
        dsimp only at k1
        obtain ⟨_, _, gb⟩ := ix_lo hb
        by_cases e : k = (i + j) / 2
        · subst e; rw [ha] at hb; cases hb; exact c2
        · have := hs.get gb ga (by omega); omega
      · rw [if_neg c2]
        refine .inl ⟨_, rfl, ⟨⟨g1, by dsimp only; omega, by dsimp only; omega⟩, g4, fun k b k0 hb => ?_⟩, by dsimp only; omega⟩
        dsimp only at k0
        obtain ⟨_, _, gb⟩ := ix_lo hb
        by_cases e : k = (i + j) / 2
        · subst e; rw [ha] at hb; cases hb; omega
        · have := hs.get ga gb (by omega); omega
    · rw [if_neg c]
      have : i = j := by omega
      subst this
      exact .inr ⟨i, rfl, g1, g3, g4, g5⟩)
  rw [h1]
  simp only [Option.bind_some]
  refine ⟨i, ?_, h2, h3, h4, h5⟩
  have nin : (∀ a, ix xs i = some a → a ≠ t) → t ∉ xs := fun hne hin => by
    obtain ⟨k, k0, k1, hk⟩ := mem_ix hin
    rcases Int.lt_trichotomy k i with c | c | c
    · have := h4 k t k0 c hk; omega
    · subst c; exact hne t hk rfl
    · obtain ⟨b, hb, gb⟩ := ix_of (l := xs) (i := i) (by omega) (by omega)
      obtain ⟨_, _, gk⟩ := ix_lo hk
      have := hs.get gb gk (by omega)
      have := h5 i b (Int.le_refl _) hb
      omega
  by_cases c : i < xs.length
  · obtain ⟨a, ha, ga⟩ := ix_of (l := xs) (i := i) (by omega) c
    rw [if_pos c, ha]
    simp only [Option.bind_some]
    by_cases c2 : a = t
    · subst c2
      rw [if_pos rfl, dec_of (ix_mem ha)]
      rfl
    · rw [if_neg c2]
      simp only [slices_isNaN_int, decide_true, Bool.not_true, Bool.false_eq_true, if_false, Option.bind_some]
      rw [dec_no (nin fun b hb => by rw [ha] at hb; cases hb; exact c2)]
  · rw [if_neg c]
    simp only [Option.bind_some]
    rw [dec_no (nin fun b hb => by have := (ix_lo hb).2.1; omega)]
theorem bsearch2 {xs : List Int} (hs : Inc xs) (hl : xs.length ≤ 500000) (t : Int) : ∃ i, slices_BinarySearch_int_int xs t = some (i, dec (t ∈ xs)) :=
  let ⟨i, h, _⟩ := bsearch_eq hs hl t
  ⟨i, h⟩
theorem containsFunc_eq {l : List Int} {f : Int → Option Bool} (p : Int → Prop) (hf : ∀ x ∈ l, f x = some (dec (p x))) : slices_ContainsFunc_int_int l f = some (dec (∃ x ∈ l, p x)) := by
  unfold slices_ContainsFunc_int_int slices_IndexFunc_int_int
  rcases rngX_test (body := slices_IndexFunc_int_int_l1 l f) (n := (l.length : Int)) (fun j => if dec (∀ a, ix l j = some a → ¬ p a) = true then none else some j) (by omega) (fun j h0 h1 _ => by
    obtain ⟨a, ha, _⟩ := ix_of (l := l) h0 h1
    unfold slices_IndexFunc_int_int_l1
    rw [ha]
    simp only [Option.bind_some, hf a (ix_mem ha)]
    by_cases c : p a
    · rw [if_pos (dec_of c), if_neg (by rw [dec_true]; exact fun h => h a rfl c)]
    · rw [if_neg (by rw [dec_no c]; simp), if_pos (dec_of fun b hb => by cases hb; exact c)]) with ⟨h1, h2⟩ | ⟨j, o, h0, h1, h2, _, h4⟩
  · rw [h1]
    simp only [Option.bind_some]
    rw [dec_no]
    · rfl
    · rintro ⟨x, hx, hp⟩
      obtain ⟨i, g1, g2, g3⟩ := mem_ix hx
      have := h2 i g1 g2
      split at this
      · rename_i h; exact dec_true.1 h x g3 hp
      · cases this
  · rw [h4]
    split at h2
    · cases h2
    · rename_i h
      cases h2
      simp only [Option.bind_some]
      rw [dec_of]
      · simp [h0]
      · simp only [dec_true] at h
        obtain ⟨a, g1, _⟩ := ix_of (l := l) h0 h1
        refine ⟨a, ix_mem g1, ?_⟩
        rcases Classical.em (p a) with c | c
        · exact c
        · exact absurd (fun b hb => by rw [g1] at hb; cases hb; exact c) h
theorem meets_eq {a b : List Int} (hb : Inc b) (hl : b.length ≤ 500000) : strips_Meets a b = some (dec (∃ x ∈ a, x ∈ b)) := by
  unfold strips_Meets
  rw [containsFunc_eq (fun x => x ∈ b) (fun x _ => by
    unfold strips_Meets_1
    obtain ⟨i, h⟩ := bsearch2 hb hl x
    rw [h]; rfl)]
  rfl
/-! ### Sorted, and equal neighbours made one -/
theorem compact_spec {l : List Int} (hs : l.Pairwise (· ≤ ·)) : Inc (compactL l) ∧ ∀ x, x ∈ compactL l ↔ x ∈ l := by
  have key : ∀ m, m ≤ l.length → Inc (Go.Lib.compactUpTo l.toArray m) ∧ (∀ x, x ∈ Go.Lib.compactUpTo l.toArray m ↔ x ∈ l.take m) := by
    intro m
    induction m with
    | zero => intro _; simp [Go.Lib.compactUpTo]
    | succ m ih =>
      intro hm
      obtain ⟨h1, h2⟩ := ih (by omega)
      have hlt : m < l.length := by omega
      have hd : l.toArray[m]! = l[m] := by simp [hlt]
      have ht : l.take (m + 1) = l.take m ++ [l[m]] := by rw [List.take_add_one]; simp [hlt]
      rw [Go.Lib.compactUpTo_succ, ht]
      by_cases hk : Go.Lib.keeps l.toArray m = true
      · rw [if_pos hk, hd]
        refine ⟨List.pairwise_append.2 ⟨h1, by simp, fun a ha b hb => ?_⟩, fun x => by rw [List.mem_append, List.mem_append, h2]⟩
        simp only [List.mem_singleton] at hb
        subst hb
        have ha' := (h2 a).1 ha
        obtain ⟨i, hi, rfl⟩ := List.mem_iff_getElem.1 ha'
        rw [List.length_take] at hi
        rw [List.getElem_take]
        simp only [Go.Lib.keeps, decide_eq_true_eq] at hk
        rcases hk with hk | hk
        · omega
        · have hm1 : l.toArray[m - 1]! = l[m - 1] := by simp [show m - 1 < l.length by omega]
          rw [hd, hm1] at hk
          have e1 : l[m - 1] ≤ l[m] := List.pairwise_iff_getElem.1 hs (m - 1) m (by omega) hlt (by omega)
          have e2 : l[i] ≤ l[m - 1] := by
            rcases Nat.lt_or_ge i (m - 1) with c | c
            · exact List.pairwise_iff_getElem.1 hs i (m - 1) (by omega) (by omega) c
            · have : i = m - 1 := by omega
              subst this; exact Int.le_refl _
          omega
      · rw [if_neg hk, List.append_nil]
        refine ⟨h1, fun x => ?_⟩
        rw [h2, List.mem_append]
        refine ⟨.inl, fun h => ?_⟩
        rcases h with h | h
        · exact h
        · simp only [List.mem_singleton] at h
          subst h
          have hm0 : m ≠ 0 := fun e => hk (by simp [Go.Lib.keeps, e])
          have hm1 : l.toArray[m - 1]! = l[m - 1] := by simp [show m - 1 < l.length by omega]
          have he : l[m] = l[m - 1] := by
            simp only [Go.Lib.keeps, decide_eq_true_eq, not_or] at hk
            have h3 : l.toArray[m]! = l.toArray[m - 1]! := Classical.not_not.1 (fun h => hk.2 h)
            rw [hd, hm1] at h3; exact h3
          rw [he, List.mem_take_iff_getElem]
          exact ⟨m - 1, by omega, rfl⟩
  obtain ⟨h1, h2⟩ := key l.length (Nat.le_refl _)
  refine ⟨?_, fun x => ?_⟩
  · simpa [compactL, Go.Lib.compact] using h1
  · have := h2 x
    rw [List.take_length] at this
    simpa [compactL, Go.Lib.compact] using this
theorem srt_spec (l : List Int) : (srt l).Pairwise (· ≤ ·) ∧ ∀ x, x ∈ srt l ↔ x ∈ l := by
  refine ⟨?_, fun x => by simp [srt]⟩
  have := List.pairwise_mergeSort (le := fun x y : Int => decide (x ≤ y)) (fun a b c h1 h2 => by simp at h1 h2 ⊢; omega) (fun a b => by simp; omega) l
  refine this.imp fun h => by simpa using h
theorem sortL_eq {l : List Int} (h : l.length < 4611686018427387904) : sortL l = some (srt l) := by rw [sortL, if_pos h]
theorem update_inc {s add del : List Int} (hd : Inc del) (hl : del.length ≤ 500000) (h1 : s.length ≤ 500000) (h2 : add.length ≤ 500000) :
    ∃ r, strips_Update s add del = some r ∧ Inc r ∧ ∀ x, x ∈ r ↔ (x ∈ s ∧ x ∉ del) ∨ x ∈ add := by
  unfold strips_Update
  rw [forR_filter (l := s) (b := 8) (fun a => a ∉ del) (fun j a c h => by
    obtain ⟨i, hi⟩ := bsearch2 hd hl a
    unfold strips_Update_l1
    rw [h]
    simp only [Option.bind_some, hi, dec_not]
    refine ⟨fun hq => ?_, fun hq => ?_⟩
    · rw [if_pos (dec_of hq)]
      cases app 8 c [a] <;> rfl
    · rw [if_neg (by simpa using hq)]; rfl) [] (by simp; omega)]
  simp only [Option.bind_some, List.nil_append]
  have hle : (s.filter fun a => dec (a ∉ del)).length ≤ s.length := List.length_filter_le _ _
  rw [show app 8 (s.filter fun a => dec (a ∉ del)) add = some ((s.filter fun a => dec (a ∉ del)) ++ add) by rw [app, if_pos]; omega]
  simp only [Option.bind_some]
  rw [sortL_eq (by rw [List.length_append]; omega)]
  simp only [Option.bind_some]
  obtain ⟨e1, e2⟩ := srt_spec ((s.filter fun a => dec (a ∉ del)) ++ add)
  obtain ⟨e3, e4⟩ := compact_spec e1
  refine ⟨_, rfl, e3, fun x => ?_⟩
  rw [e4, e2, List.mem_append, List.mem_filter, dec_true]
theorem update_eq {s add del : List Int} {n : Int} (hn : n ≤ 1000) (hd : Inc del) (hl : del.length ≤ 500000) (hs : SetN s n) (ha : SetN add n) :
    strips_Update s add del = some (setOf (fun x => (x ∈ s ∧ x ∉ del) ∨ x ∈ add) n) := by
  have h1 := hs.len; have h2 := ha.len
  obtain ⟨r, e1, e2, e3⟩ := update_inc (s := s) (add := add) hd hl (by omega) (by omega)
  rw [e1, SetN.eq_of (n := n) ⟨e2, fun x hx => ?_⟩ (fun x _ _ => e3 x)]
  rcases (e3 x).1 hx with h | h
  · exact hs.2 x h.1
  · exact ha.2 x h
theorem union_eq {a b : List Int} {n : Int} (hn : n ≤ 1000) (ha : SetN a n) (hb : SetN b n) : strips_Union a b = some (setOf (fun x => x ∈ a ∨ x ∈ b) n) := by
  unfold strips_Union
  rw [update_eq hn .nil (by simp) ha hb]
  simp
end Ab
end
section
namespace Ab
open Go
def opSets (o : TOperator) (n : Int) : Prop := SetN o.pre n ∧ SetN o.add n ∧ SetN o.del n ∧ ∀ x ∈ o.add, x ∉ o.del
def opCost (o : TOperator) : Prop := 0 ≤ o.cost ∧ o.cost ≤ 100
noncomputable def opCode (o : TOperator) (n : Int) : Int := if dec (opSets o n) = true then if dec (opCost o) = true then 0 else 3 else 5
structure TaskOk (t : TTask) : Prop where
  n0 : 0 ≤ t.facts
  n1 : t.facts ≤ 24
  init : SetN t.init t.facts
  goal : SetN t.goal t.facts
  ops : t.operators.length ≤ 40
  op : ∀ o ∈ t.operators, opSets o t.facts ∧ opCost o
theorem opCode_zero {o : TOperator} {n : Int} : opCode o n = 0 ↔ opSets o n ∧ opCost o := by
  unfold opCode
  by_cases h : opSets o n
  · rw [if_pos (dec_of h)]
    by_cases g : opCost o
    · rw [if_pos (dec_of g)]; simp [h, g]
    · rw [if_neg (by rw [dec_no g]; simp)]; simp [g]
  · rw [if_neg (by rw [dec_no h]; simp)]; simp [h]
theorem operator_eq {o : TOperator} {n : Int} (h0 : 0 ≤ n) (h1 : n ≤ 24) : strips_operator o n = some (opCode o n) := by
  unfold strips_operator opCode
  simp only [isSet_eq, Option.bind_some, dec_not]
  have bad : ¬ opSets o n → dec (opSets o n) = true → False := fun h g => h (dec_true.1 g)
  by_cases c1 : SetN o.pre n
  · rw [if_neg (by simpa using c1)]
    by_cases c2 : SetN o.add n
    · rw [if_neg (by simpa using c2)]
      by_cases c3 : SetN o.del n
      · rw [if_neg (by simpa using c3)]
        have hl := c3.len
        rw [meets_eq c3.1 (by omega)]
        simp only [Option.bind_some]
        by_cases c4 : ∃ x ∈ o.add, x ∈ o.del
        · rw [if_pos (dec_of c4), if_neg]
          rw [dec_true]
          obtain ⟨x, g1, g2⟩ := c4
          exact fun h => h.2.2.2 x g1 g2
        · have hs : opSets o n := ⟨c1, c2, c3, fun x g1 g2 => c4 ⟨x, g1, g2⟩⟩
          rw [if_neg (by rw [dec_no c4]; simp), if_pos (dec_of hs)]
          by_cases c5 : opCost o
          · rw [if_pos (dec_of c5), if_neg]
            have := c5.1; have := c5.2
            simp; omega
          · rw [if_neg (fun h => c5 (dec_true.1 h)), if_pos]
            unfold opCost at c5
            simp; omega
      · rw [if_pos (by simpa using c3)]
        simp only [Option.bind_some, if_true]
        rw [if_neg fun h => c3 (dec_true.1 h).2.2.1]
    · rw [if_pos (by simpa using c2)]
      simp only [Option.bind_some, if_true]
      rw [if_neg fun h => c2 (dec_true.1 h).2.1]
  · rw [if_pos (by simpa using c1)]
    simp only [Option.bind_some, if_true]
    rw [if_neg fun h => c1 (dec_true.1 h).1]
theorem validate_eq (t : TTask) : ∃ f, strips_Validate t = some f ∧ ref1_TaskFault t = some f ∧ ((f = ⟨0, 0⟩ ∧ TaskOk t) ∨ (f.code ≠ 0 ∧ ¬ TaskOk t)) := by
  unfold strips_Validate ref1_TaskFault
  simp only [in_eq, at_eq, Option.bind_some, dec_not]
  by_cases c1 : 0 ≤ t.facts ∧ t.facts ≤ 24
  · rw [if_neg (by simp; omega), ifNN c1]
    simp only [isSet_eq, rIsSet_eq (n := t.facts) _ (by omega) (by omega), Option.bind_some, dec_not]
    by_cases c2 : SetN t.init t.facts
    · rw [ifNN c2, ifNN c2]
      by_cases c3 : SetN t.goal t.facts
      · rw [ifNN c3, ifNN c3]
        by_cases c4 : 40 < (t.operators.length : Int)
        · rw [if_pos c4, if_pos c4]
          exact ⟨_, rfl, rfl, .inr ⟨by simp, fun h => by have := h.ops; omega⟩⟩
        · rw [if_neg c4, if_neg c4]
          have hb : ∀ j : Int, 0 ≤ j → j < t.operators.length → ∃ o, ix t.operators j = some o ∧ strips_Validate_l1 t j () = some (if opCode o t.facts = 0 then .inl () else .inr ⟨opCode o t.facts, j⟩) ∧ ref1_TaskFault_l1 t j () = some (if opCode o t.facts = 0 then .inl () else .inr ⟨opCode o t.facts, j⟩) := fun j h0 h1 => by
            obtain ⟨o, ho, _⟩ := ix_of (l := t.operators) h0 h1
            refine ⟨o, ho, ?_, ?_⟩
            · unfold strips_Validate_l1
              rw [ho]
              simp only [Option.bind_some, operator_eq c1.1 c1.2]
              by_cases e : opCode o t.facts = 0
              · rw [if_pos e, if_pos e]
              · rw [if_neg e, if_neg e]
            · unfold ref1_TaskFault_l1
              rw [ho]
              simp only [Option.bind_some, rIsSet_eq (n := t.facts) _ (show -9223372036854775808 < t.facts by omega) (show t.facts ≤ 9223372036854775807 by omega), disjoint_eq, in_eq, at_eq, dec_not]
              have hp : (if dec (¬ SetN o.pre t.facts) = true then some true else if dec (¬ SetN o.add t.facts) = true then some true else if dec (¬ SetN o.del t.facts) = true then some true else some (dec (¬ ∀ x ∈ o.add, x ∉ o.del))) = some (dec (¬ opSets o t.facts)) := by
                unfold opSets
                by_cases g1 : SetN o.pre t.facts
                · rw [if_neg (by simpa using g1)]
                  by_cases g2 : SetN o.add t.facts
                  · rw [if_neg (by simpa using g2)]
                    by_cases g3 : SetN o.del t.facts
                    · rw [if_neg (by simpa using g3)]
                      exact congrArg some (dec_congr ⟨fun h g => h g.2.2.2, fun h g => h ⟨g1, g2, g3, g⟩⟩)
                    · rw [if_pos (by simpa using g3), dec_of (fun g => g3 g.2.2.1)]
                  · rw [if_pos (by simpa using g2), dec_of (fun g => g2 g.2.1)]
                · rw [if_pos (by simpa using g1), dec_of (fun g => g1 g.1)]
              rw [hp]
              simp only [Option.bind_some]
              unfold opCode
              by_cases g1 : opSets o t.facts
              · rw [if_neg (by simpa using g1), if_pos (dec_of g1)]
                by_cases g2 : opCost o
                · rw [ifP g2, ifNN (p := 0 ≤ o.cost ∧ o.cost ≤ 100) g2]; rfl
                · rw [ifN g2, ifP (p := ¬ (0 ≤ o.cost ∧ o.cost ≤ 100)) g2]; rfl
              · rw [if_pos (dec_of g1), if_neg (fun h => g1 (dec_true.1 h))]; rfl
          have heq : rngX 0 (t.operators.length : Int) (strips_Validate_l1 t) () = rngX 0 (t.operators.length : Int) (ref1_TaskFault_l1 t) () :=
            (rngX_eq (fun _ _ => True) (by omega) trivial (fun j s h0 h1 _ => by
              obtain ⟨o, _, e1, e2⟩ := hb j h0 h1
              exact ⟨by rw [e1, e2], by rw [e1]; simp, fun _ _ => trivial⟩)).1
          rcases rngX_test (body := ref1_TaskFault_l1 t) (n := (t.operators.length : Int)) (fun j => match ix t.operators j with | some o => if opCode o t.facts = 0 then none else some (⟨opCode o t.facts, j⟩ : TFault) | none => none) (by omega) (fun j h0 h1 _ => by
            obtain ⟨o, e0, _, e2⟩ := hb j h0 h1
            rw [e2, e0]
            dsimp only
            split <;> rfl) with ⟨h1, h2⟩ | ⟨j, f, h0, h1, h2, _, h4⟩
          · rw [heq, h1]
            refine ⟨⟨0, 0⟩, rfl, rfl, .inl ⟨rfl, c1.1, c1.2, c2, c3, by omega, fun o ho => ?_⟩⟩
            obtain ⟨j, g0, g1, g2⟩ := mem_ix ho
            have := h2 j g0 g1
            rw [g2] at this
            dsimp only at this
            split at this
            · rename_i e; exact opCode_zero.1 e
            · cases this
          · rw [heq, h4]
            obtain ⟨o, e0, _, _⟩ := hb j h0 h1
            rw [e0] at h2
            dsimp only at h2
            split at h2
            · cases h2
            · rename_i e
              cases h2
              exact ⟨_, rfl, rfl, .inr ⟨e, fun h => e (opCode_zero.2 (h.op o (ix_mem e0)))⟩⟩
      · rw [ifP c3, ifP c3]
        exact ⟨_, rfl, rfl, .inr ⟨by simp, fun h => c3 h.goal⟩⟩
    · rw [ifP c2, ifP c2]
      exact ⟨_, rfl, rfl, .inr ⟨by simp, fun h => c2 h.init⟩⟩
  · rw [if_pos (by simp; omega), if_pos (dec_of c1)]
    exact ⟨_, rfl, rfl, .inr ⟨by simp, fun h => c1 ⟨h.n0, h.n1⟩⟩⟩
theorem fault_no {f : TFault} (h : f.code ≠ 0) : (!((decide (f.code = 0)) && (decide (f.index = 0)))) = true := by simp [h]
theorem rSteps_eq {n : Int} (h0 : 0 ≤ n) (h1 : n ≤ 9223372036854775807) (plan : List Int) : ∃ f, ref1_StepsFault n plan = some f ∧ ((f = ⟨0, 0⟩ ∧ plan.length ≤ 60 ∧ ∀ x ∈ plan, 0 ≤ x ∧ x < n) ∨ (f.code ≠ 0 ∧ ¬ (plan.length ≤ 60 ∧ ∀ x ∈ plan, 0 ≤ x ∧ x < n))) := by
  unfold ref1_StepsFault
  by_cases c : 60 < (plan.length : Int)
  · rw [if_pos c]
    exact ⟨⟨2, -5⟩, rfl, .inr ⟨by simp, fun h => by omega⟩⟩
  · rw [if_neg c]
    rw [rng_list (l := plan) (fun x => 0 ≤ x ∧ x < n) (⟨3, -6⟩ : TFault) (fun j a h => by
      unfold ref1_StepsFault_l1
      rw [h]
      simp only [Option.bind_some, in_eq, at_eq, w64_of (n := n - 1) (by omega) (by omega), dec_not]
      by_cases g : 0 ≤ a ∧ a < n
      · rw [if_neg (by simp; omega)]; exact .inl ⟨g, rfl⟩
      · rw [if_pos (by rw [dec_true]; omega)]; exact .inr ⟨g, rfl⟩)]
    by_cases g : ∀ x ∈ plan, 0 ≤ x ∧ x < n
    · rw [if_pos (dec_of g)]
      exact ⟨_, rfl, .inl ⟨rfl, by omega, g⟩⟩
    · rw [if_neg (fun h => g (dec_true.1 h))]
      exact ⟨_, rfl, .inr ⟨by simp, fun h => g h.2⟩⟩
/-! ### What operators and plans do -/
def noOp : TOperator := ⟨[], [], [], 0⟩
def opAt (t : TTask) (op : Int) : TOperator := (t.operators[op.toNat]?).getD noOp
theorem ix_op {t : TTask} {op : Int} (h0 : 0 ≤ op) (h1 : op < t.operators.length) : ix t.operators op = some (opAt t op) := by
  obtain ⟨a, h2, h3⟩ := ix_of h0 h1
  rw [h2, opAt, h3]; rfl
theorem TaskOk.at {t : TTask} (h : TaskOk t) {op : Int} (h0 : 0 ≤ op) (h1 : op < t.operators.length) : opSets (opAt t op) t.facts ∧ opCost (opAt t op) := h.op _ (ix_mem (ix_op h0 h1))
def can (t : TTask) (s : List Int) (op : Int) : Prop := ∀ x ∈ (opAt t op).pre, x ∈ s
noncomputable def aft (t : TTask) (s : List Int) (op : Int) : List Int := setOf (fun x => x ∈ (opAt t op).add ∨ x ∈ s ∧ x ∉ (opAt t op).del) t.facts
theorem setN_aft (t : TTask) (s : List Int) (op : Int) : SetN (aft t s op) t.facts := setN_setOf _ _
theorem applies_eq {t : TTask} {op : Int} (h0 : 0 ≤ op) (h1 : op < t.operators.length) (s : List Int) : ref1_Applies t s op = some (dec (can t s op)) := by
  unfold ref1_Applies
  rw [ix_op h0 h1]
  simp only [Option.bind_some, subset_eq]
  rfl
theorem after_eq {t : TTask} (ht : TaskOk t) {op : Int} (h0 : 0 ≤ op) (h1 : op < t.operators.length) (s : List Int) : ref1_After t s op = some (aft t s op) := by
  have := ht.n1
  unfold ref1_After
  rw [if_pos (by omega)]
  rw [forR_setOf (b := 8) (fun x => x ∈ (opAt t op).add ∨ x ∈ s ∧ x ∉ (opAt t op).del) ht.n0 (by omega) (fun j c g0 g1 => by
    unfold ref1_After_l1
    simp only [ix_op h0 h1, Option.bind_some, has_eq, dec_not]
    have e : (if dec (j ∈ (opAt t op).add) = true then some true else if dec (j ∈ s) = true then some (dec (j ∉ (opAt t op).del)) else some false) = some (dec (j ∈ (opAt t op).add ∨ j ∈ s ∧ j ∉ (opAt t op).del)) := by
      by_cases c1 : j ∈ (opAt t op).add
      · rw [if_pos (dec_of c1), dec_of (.inl c1)]
      · rw [if_neg (fun h => c1 (dec_true.1 h))]
        by_cases c2 : j ∈ s
        · rw [if_pos (dec_of c2)]
          exact congrArg some (dec_congr ⟨fun h => .inr ⟨c2, h⟩, fun h => (h.resolve_left c1).2⟩)
        · rw [if_neg (fun h => c2 (dec_true.1 h)), dec_no (fun h => c2 (h.resolve_left c1).1)]
    rw [e]
    simp only [Option.bind_some]
    refine ⟨fun hq => ?_, fun hq => ?_⟩
    · rw [if_pos (dec_of hq)]
      cases app 8 c [j] <;> rfl
    · rw [if_neg (fun h => hq (dec_true.1 h))]; rfl)]
  rfl
theorem can_eq {t : TTask} (ht : TaskOk t) {op : Int} (h0 : 0 ≤ op) (h1 : op < t.operators.length) {s : List Int} (hs : SetN s t.facts) : strips_Can t s op = some (dec (can t s op)) := by
  have := ht.n1; have := hs.len
  unfold strips_Can
  rw [ix_op h0 h1]
  simp only [Option.bind_some]
  rw [contains_eq hs.1 (ht.at h0 h1).1.1.1 (by omega)]
  rfl
theorem next_eq {t : TTask} (ht : TaskOk t) {op : Int} (h0 : 0 ≤ op) (h1 : op < t.operators.length) {s : List Int} (hs : SetN s t.facts) : strips_Next t s op = some (aft t s op) := by
  have := ht.n1
  obtain ⟨⟨_, k2, k3, _⟩, _⟩ := ht.at h0 h1
  have hl := k3.len
  unfold strips_Next
  rw [ix_op h0 h1]
  simp only [Option.bind_some]
  rw [update_eq (n := t.facts) (by omega) k3.1 (by omega) hs k2]
  simp only [Option.bind_some, aft]
  exact congrArg some (setOf_congr fun x _ _ => Or.comm)
/-- The state in which a plan ends, if its steps are applicable. -/
noncomputable def ends (t : TTask) : List Int → List Int → Option (List Int)
  | s, [] => some s
  | s, op :: r => if dec (can t s op) = true then ends t (aft t s op) r else none
/-- The plan leads to a goal state. -/
def works (t : TTask) (s plan : List Int) : Prop := ∃ e, ends t s plan = some e ∧ ∀ x ∈ t.goal, x ∈ e
theorem rEnds_eq {t : TTask} (ht : TaskOk t) {plan : List Int} (hp : ∀ x ∈ plan, 0 ≤ x ∧ x < t.operators.length) (s : List Int) : ref1_Ends t s plan = some (match ends t s plan with | some e => (e, true) | none => ([], false)) := by
  unfold ref1_Ends
  rcases rngX_inv (body := ref1_Ends_l1 t plan) (n := (plan.length : Int)) (fun j c => ends t s plan = ends t c (plan.drop j.toNat)) (fun o => o = ([], false) ∧ ends t s plan = none) (s := s) (by omega) (by simp) (fun j c g0 g1 hP => by
    obtain ⟨a, ha, ga⟩ := ix_of (l := plan) g0 g1
    have hm := hp a (ix_mem ha)
    have hd : plan.drop j.toNat = a :: plan.drop (j.toNat + 1) := by
      obtain ⟨hlt, rfl⟩ := List.getElem?_eq_some_iff.1 ga
      exact List.drop_eq_getElem_cons hlt
    rw [hd] at hP
    unfold ref1_Ends_l1
    rw [ha]
    simp only [Option.bind_some, applies_eq hm.1 hm.2, dec_not, after_eq ht hm.1 hm.2]
    by_cases c1 : can t c a
    · rw [if_neg (by simpa using c1)]
      refine .inl ⟨_, rfl, ?_⟩
      rw [hP, ends, if_pos (dec_of c1), show (j + 1).toNat = j.toNat + 1 by omega]
    · rw [if_pos (dec_of c1)]
      refine .inr ⟨_, rfl, rfl, ?_⟩
      rw [hP, ends, if_neg (fun h => c1 (dec_true.1 h))]) with ⟨e, h1, h2⟩ | ⟨o, h1, rfl, h2⟩
  · rw [h1, h2]
    simp [ends]
  · rw [h1, h2]; rfl
theorem rWorks_eq {t : TTask} (ht : TaskOk t) {plan : List Int} (hp : ∀ x ∈ plan, 0 ≤ x ∧ x < t.operators.length) (s : List Int) : ref1_Works t s plan = some (dec (works t s plan)) := by
  unfold ref1_Works
  rw [rEnds_eq ht hp]
  unfold works
  cases h : ends t s plan with
  | none => simp only [Option.bind_some, Bool.false_eq_true, if_false]; rw [dec_no]; rintro ⟨e, h1, _⟩; cases h1
  | some e =>
    simp only [Option.bind_some, if_true, subset_eq]
    refine congrArg some (dec_congr ⟨fun g => ⟨e, rfl, g⟩, fun ⟨e', g1, g2⟩ => by cases g1; exact g2⟩)
theorem clone_eq {s : List Int} (h : s.length ≤ 1000000) : slices_Clone_int_int s = some s := by
  rw [slices_Clone_int_int, app, if_pos (by simp; omega)]; rfl
end Ab
end
section
namespace Ab
open Go
/-- A number under 100 in decimal digits. -/
def dg (x : Int) : List Int := if x < 10 then [48 + x] else [48 + x / 10, 48 + x % 10]
def encS (s : List Int) : List Int := s.flatMap (fun x => dg x ++ [44]) ++ [59]
def encK (l : List (List Int)) : List Int := l.flatMap encS
def small (s : List Int) : Prop := ∀ x ∈ s, 0 ≤ x ∧ x < 100
theorem dg_split {x y : Int} (hx : 0 ≤ x ∧ x < 100) (hy : 0 ≤ y ∧ y < 100) {r r' : List Int} (h : dg x ++ 44 :: r = dg y ++ 44 :: r') : x = y ∧ r = r' := by
  unfold dg at h
  split at h <;> split at h <;> simp only [List.cons_append, List.nil_append, List.cons.injEq] at h
  · exact ⟨by omega, h.2.2⟩
  · exfalso; omega
  · exfalso; omega
  · exact ⟨by omega, h.2.2.2⟩
theorem dg_head {x : Int} (hx : 0 ≤ x ∧ x < 100) : ∃ a l, dg x = a :: l ∧ 48 ≤ a ∧ a < 58 := by
  unfold dg
  split
  · exact ⟨_, _, rfl, by omega, by omega⟩
  · exact ⟨_, _, rfl, by omega, by omega⟩
theorem encS_cons (x : Int) (s : List Int) : encS (x :: s) = dg x ++ 44 :: encS s := by simp [encS]
theorem encS_inj : ∀ {s s' r r' : List Int}, small s → small s' → encS s ++ r = encS s' ++ r' → s = s' ∧ r = r'
  | [], [], r, r', _, _, h => by simp [encS] at h; exact ⟨rfl, h⟩
  | [], y :: s', r, r', _, h2, h => by
    obtain ⟨a, l, ha, h3, h4⟩ := dg_head (h2 y (by simp))
    rw [encS_cons, ha] at h
    simp only [encS, List.flatMap_nil, List.nil_append, List.cons_append, List.cons.injEq] at h
    omega
  | x :: s, [], r, r', h1, _, h => by
    obtain ⟨a, l, ha, h3, h4⟩ := dg_head (h1 x (by simp))
    rw [encS_cons, ha] at h
    simp only [encS, List.flatMap_nil, List.nil_append, List.cons_append, List.cons.injEq] at h
    omega
  | x :: s, y :: s', r, r', h1, h2, h => by
    rw [encS_cons, encS_cons, List.append_assoc, List.append_assoc, List.cons_append, List.cons_append] at h
    obtain ⟨rfl, g⟩ := dg_split (h1 x (by simp)) (h2 y (by simp)) h
    obtain ⟨e1, e2⟩ := encS_inj (s := s) (s' := s') (fun z hz => h1 z (List.mem_cons_of_mem _ hz)) (fun z hz => h2 z (List.mem_cons_of_mem _ hz)) g
    exact ⟨by rw [e1], e2⟩
theorem encK_inj : ∀ {l l' : List (List Int)}, (∀ s ∈ l, small s) → (∀ s ∈ l', small s) → encK l = encK l' → l = l'
  | [], [], _, _, _ => rfl
  | [], s :: l', _, _, h => by
    have h := congrArg List.length h
    simp only [encK, encS, List.flatMap_nil, List.flatMap_cons, List.length_append, List.length_nil, List.length_cons] at h
    omega
  | s :: l, [], _, _, h => by
    have h := congrArg List.length h
    simp only [encK, encS, List.flatMap_nil, List.flatMap_cons, List.length_append, List.length_nil, List.length_cons] at h
    omega
  | s :: l, s' :: l', h1, h2, h => by
    have h : encS s ++ encK l = encS s' ++ encK l' := h
    obtain ⟨e1, e2⟩ := encS_inj (h1 s (List.mem_cons_self ..)) (h2 s' (List.mem_cons_self ..)) h
    have e3 := encK_inj (l := l) (l' := l') (fun z hz => h1 z (List.mem_cons_of_mem _ hz)) (fun z hz => h2 z (List.mem_cons_of_mem _ hz)) e2
    rw [e1, e3]
theorem dg_byte {x : Int} (hx : 0 ≤ x ∧ x < 100) : ∀ a ∈ dg x, 0 ≤ a ∧ a < 256 := by
  intro a ha
  unfold dg at ha
  split at ha <;> simp at ha <;> omega
theorem encS_byte {s : List Int} (h : small s) : ∀ a ∈ encS s, 0 ≤ a ∧ a < 256 := by
  intro a ha
  simp only [encS, List.mem_append, List.mem_flatMap, List.mem_singleton] at ha
  rcases ha with ⟨x, hx, h1 | h1⟩ | h1
  · exact dg_byte (h x hx) a h1
  · omega
  · omega
theorem encK_byte {l : List (List Int)} (h : ∀ s ∈ l, small s) : ∀ a ∈ encK l, 0 ≤ a ∧ a < 256 := by
  intro a ha
  simp only [encK, List.mem_flatMap] at ha
  obtain ⟨s, hs, h1⟩ := ha
  exact encS_byte (h s hs) a h1
theorem strB_inj {l l' : List Int} (h1 : ∀ a ∈ l, 0 ≤ a ∧ a < 256) (h2 : ∀ a ∈ l', 0 ≤ a ∧ a < 256) (h : strB l = strB l') : l = l' := by
  have h3 : l.map (fun n => UInt8.ofNat n.toNat) = l'.map (fun n => UInt8.ofNat n.toNat) := by
    have := congrArg ByteArray.data h
    simpa [strB] using this
  have back : ∀ {m : List Int}, (∀ a ∈ m, 0 ≤ a ∧ a < 256) → (m.map (fun n => UInt8.ofNat n.toNat)).map (fun b => (b.toNat : Int)) = m := by
    intro m hm
    rw [List.map_map]
    conv => rhs; rw [← List.map_id m]
    apply List.map_congr_left
    intro a ha
    have := hm a ha
    simp only [Function.comp_apply, id_eq, UInt8.toNat_ofNat']
    omega
  rw [← back h1, ← back h2, h3]
/-- The key of a list of sets. -/
def keyK (l : List (List Int)) : ByteArray := strB (encK l)
theorem keyK_inj {l l' : List (List Int)} (h1 : ∀ s ∈ l, small s) (h2 : ∀ s ∈ l', small s) (h : keyK l = keyK l') : l = l' := encK_inj h1 h2 (strB_inj (encK_byte h1) (encK_byte h2) h)
/-! ### Maps -/
theorem mget_mset {K V : Type} [DecidableEq K] (k k' : K) (v : V) : ∀ m : List (K × V), mget (mset m k v) k' = if k' = k then some v else mget m k'
  | [] => by
    simp only [mset, mget]
  | p :: r => by
    simp only [mset]
    by_cases h : k = p.1
    · rw [if_pos h]
      simp only [mget]
      by_cases h2 : k' = k
      · rw [if_pos h2, if_pos h2]
      · rw [if_neg h2, if_neg h2, if_neg (by rw [← h]; exact h2)]
    · rw [if_neg h]
      simp only [mget]
      rw [mget_mset k k' v r]
      by_cases h2 : k' = p.1
      · rw [if_pos h2, if_pos h2, if_neg (fun e => h (e.symm.trans h2))]
      · rw [if_neg h2, if_neg h2]
end Ab
end
section
namespace Ab
open Go
def lexLe : List Int → List Int → Prop
  | [], _ => True
  | _ :: _, [] => False
  | a :: l, b :: m => a < b ∨ a = b ∧ lexLe l m
theorem lexLe.refl : ∀ l : List Int, lexLe l l
  | [] => trivial
  | a :: l => .inr ⟨rfl, lexLe.refl l⟩
/-- The step of party p that comes next. -/
def nxt (plans : List (List Int)) (at_ : List Int) (p : Int) : Option Int := (ix plans p).bind fun l => (ix at_ p).bind fun a => ix l a
def bump (at_ : List Int) (p : Int) : List Int := at_.set p.toNat ((ix at_ p).getD 0 + 1)
/-- How far each party is. -/
structure AtOk (plans : List (List Int)) (at_ : List Int) : Prop where
  len : at_.length = plans.length
  rng : ∀ p l a, ix plans p = some l → ix at_ p = some a → 0 ≤ a ∧ a ≤ l.length
def allDone (plans : List (List Int)) (at_ : List Int) : Prop := ∀ p l a, ix plans p = some l → ix at_ p = some a → a = l.length
def good (t : TTask) (plans : List (List Int)) (gs : List Int) : List Int → List Int → List Int → Prop
  | s, at_, [] => allDone plans at_ ∧ ∀ x ∈ gs, x ∈ s
  | s, at_, p :: l => ∃ op, nxt plans at_ p = some op ∧ can t s op ∧ good t plans gs (aft t s op) (bump at_ p) l
def Least (t : TTask) (plans : List (List Int)) (gs : List Int) (s at_ l : List Int) : Prop := good t plans gs s at_ l ∧ ∀ m, good t plans gs s at_ m → lexLe l m
theorem AtOk.get {plans : List (List Int)} {at_ : List Int} (h : AtOk plans at_) {p : Int} {l : List Int} (hp : ix plans p = some l) : ∃ a, ix at_ p = some a ∧ 0 ≤ a ∧ a ≤ l.length := by
  obtain ⟨h0, h1, _⟩ := ix_lo hp
  obtain ⟨a, ha, _⟩ := ix_of (l := at_) h0 (by rw [h.len]; exact h1)
  exact ⟨a, ha, h.rng p l a hp ha⟩
theorem nxt_some {plans : List (List Int)} {at_ : List Int} {p op : Int} (h : nxt plans at_ p = some op) : ∃ l a, ix plans p = some l ∧ ix at_ p = some a ∧ ix l a = some op := by
  unfold nxt at h
  cases h1 : ix plans p with
  | none => rw [h1] at h; cases h
  | some l =>
    cases h2 : ix at_ p with
    | none => rw [h1, h2] at h; cases h
    | some a => rw [h1, h2] at h; exact ⟨l, a, rfl, rfl, h⟩
theorem nxt_of {plans : List (List Int)} {at_ : List Int} {p op a : Int} {l : List Int} (h1 : ix plans p = some l) (h2 : ix at_ p = some a) (h3 : ix l a = some op) : nxt plans at_ p = some op := by
  unfold nxt
  rw [h1, h2]
  exact h3
theorem bump_eq {at_ : List Int} {p a : Int} (h : ix at_ p = some a) : bump at_ p = at_.set p.toNat (a + 1) := by
  unfold bump
  rw [h]; rfl
theorem ix_bump {at_ : List Int} {p a q : Int} (h : ix at_ p = some a) (hq : 0 ≤ q) : ix (bump at_ p) q = if q = p then some (a + 1) else ix at_ q := by
  obtain ⟨h0, h1, _⟩ := ix_lo h
  rw [bump_eq h, ix_put h0 h1 hq]
theorem AtOk.bump {plans : List (List Int)} {at_ : List Int} (h : AtOk plans at_) {p op : Int} (hn : nxt plans at_ p = some op) : AtOk plans (bump at_ p) := by
  obtain ⟨l, a, h1, h2, h3⟩ := nxt_some hn
  refine ⟨by rw [bump_eq h2, List.length_set]; exact h.len, fun q m b hq hb => ?_⟩
  obtain ⟨q0, _, _⟩ := ix_lo hq
  rw [ix_bump h2 q0] at hb
  split at hb
  · rename_i e
    subst e
    rw [h1] at hq
    cases hq; cases hb
    obtain ⟨a0, a1, _⟩ := ix_lo h3
    omega
  · exact h.rng q m b hq hb
/-- The steps that are left. -/
def left (plans : List (List Int)) (at_ : List Int) : Nat := ((List.zip plans at_).map fun x => x.1.length - x.2.toNat).sum
theorem left_bump : ∀ {plans : List (List Int)} {at_ : List Int} {p : Nat} {l : List Int} {a : Int}, plans[p]? = some l → at_[p]? = some a → 0 ≤ a → a < l.length → left plans (at_.set p (a + 1)) + 1 = left plans at_
  | l0 :: plans, a0 :: at_, 0, l, a, h1, h2, h3, h4 => by
    simp only [List.getElem?_cons_zero, Option.some.injEq] at h1 h2
    subst h1 h2
    simp only [List.set_cons_zero, left, List.zip_cons_cons, List.map_cons, List.sum_cons]
    omega
  | l0 :: plans, a0 :: at_, p + 1, l, a, h1, h2, h3, h4 => by
    have := left_bump (plans := plans) (at_ := at_) (p := p) (by simpa using h1) (by simpa using h2) h3 h4
    simp only [List.set_cons_succ, left, List.zip_cons_cons, List.map_cons, List.sum_cons] at this ⊢
    omega
  | [], _, _, _, _, h, _, _, _ => by simp at h
  | _ :: _, [], _, _, _, _, h, _, _ => by simp at h
theorem nxt_left {plans : List (List Int)} {at_ : List Int} {p op : Int} (hn : nxt plans at_ p = some op) : left plans (bump at_ p) + 1 = left plans at_ := by
  obtain ⟨l, a, h1, h2, h3⟩ := nxt_some hn
  obtain ⟨p0, p1, p2⟩ := ix_lo h1
  obtain ⟨_, _, q2⟩ := ix_lo h2
  obtain ⟨a0, a1, _⟩ := ix_lo h3
  rw [bump_eq h2]
  exact left_bump p2 q2 a0 a1
theorem good_len {t : TTask} {plans : List (List Int)} {gs : List Int} : ∀ {l s at_ : List Int}, AtOk plans at_ → good t plans gs s at_ l → l.length = left plans at_
  | [], s, at_, ha, h => by
    have : ∀ (plans : List (List Int)) (at_ : List Int), (∀ (k : Nat) (l : List Int) (a : Int), plans[k]? = some l → at_[k]? = some a → a = (l.length : Int)) → left plans at_ = 0 := by
      intro plans
      induction plans with
      | nil => intro at_ _; simp [left]
      | cons l plans ih =>
        intro at_ h
        cases at_ with
        | nil => simp [left]
        | cons a at_ =>
          have h0 := h 0 l a rfl rfl
          have h1 := ih at_ fun k l a h1 h2 => h (k + 1) l a (by simpa using h1) (by simpa using h2)
          simp only [left, List.zip_cons_cons, List.map_cons, List.sum_cons] at h1 ⊢
          omega
    rw [this plans at_ fun k l a h1 h2 => h.1 k l a (by rw [ix_nat]; exact h1) (by rw [ix_nat]; exact h2)]
    rfl
  | p :: l, s, at_, ha, h => by
    obtain ⟨op, h1, _, h3⟩ := h
    have := good_len (ha.bump h1) h3
    have := nxt_left h1
    simp only [List.length_cons]
    omega
end Ab
end
section
namespace Ab
open Go
theorem numbers_eq (a b : List Int) : equal_Numbers a b = some (dec (a = b)) := by
  unfold equal_Numbers
  by_cases hl : (a.length : Int) = b.length
  · rw [if_pos hl]
    rcases rngX_test (body := equal_Numbers_l1 a b) (n := (a.length : Int)) (fun j => if dec (ix a j = ix b j) = true then none else some false) (by omega) (fun j h0 h1 _ => by
      obtain ⟨x, hx, _⟩ := ix_of (l := a) h0 h1
      obtain ⟨y, hy, _⟩ := ix_of (l := b) (i := j) h0 (by omega)
      unfold equal_Numbers_l1
      rw [hx, hy]
      simp only [Option.bind_some]
      by_cases e : x = y
      · rw [if_pos e, ifP (by rw [e])]
      · rw [if_neg e, ifN (by simpa using e)]) with ⟨h1, h2⟩ | ⟨j, o, h0, h1, h2, _, h4⟩
    · rw [h1, dec_of]
      · rfl
      · refine List.ext_getElem? fun k => ?_
        by_cases hk : k < a.length
        · have := h2 k (by omega) (by omega)
          split at this
          · rename_i e
            have := dec_true.1 e
            rwa [ix_nat, ix_nat] at this
          · cases this
        · rw [List.getElem?_eq_none (by omega), List.getElem?_eq_none (by omega)]
    · rw [h4]
      split at h2
      · cases h2
      · rename_i e
        cases h2
        rw [dec_no (fun h => e (dec_of (by rw [h])))]; rfl
  · rw [if_neg hl, dec_no (fun h => hl (by rw [h]))]
def stepT : TTask := ⟨2, [0], [1], [⟨[0], [1], [0], 1⟩, ⟨[], [1], [], 3⟩]⟩
theorem setN1 (a : Int) {n : Int} (h0 : 0 ≤ a) (h1 : a < n) : SetN [a] n := ⟨by simp, by simp [h0, h1]⟩
theorem step_ok : TaskOk stepT where
  n0 := by decide
  n1 := by decide
  init := setN1 0 (by decide) (by decide)
  goal := setN1 1 (by decide) (by decide)
  ops := by decide
  op o ho := by
    simp only [stepT, List.mem_cons, List.not_mem_nil, or_false] at ho
    rcases ho with rfl | rfl
    · exact ⟨⟨setN1 0 (by decide) (by decide), setN1 1 (by decide) (by decide), setN1 0 (by decide) (by decide), by simp⟩, by decide, by decide⟩
    · exact ⟨⟨setN_nil _, setN1 1 (by decide) (by decide), setN_nil _, by simp⟩, by decide, by decide⟩
end Ab
end
section
namespace Ab
open Go
/-- A list made by appending a piece for each element. -/
theorem forR_flatMap {α β : Type} {l : List α} {body : Int → List β → Option (List β)} (g : α → List β) (N : Nat) (c0 : List β)
    (hb : ∀ j a c, ix l j = some a → c.length + (g a).length ≤ N → body j c = some (c ++ g a)) (hN : c0.length + (l.flatMap g).length ≤ N) :
    forR 0 (l.length : Int) body c0 = some (c0 ++ l.flatMap g) := by
  obtain ⟨s', h1, h2⟩ := forR_inv (body := body) (n := (l.length : Int)) (s := c0) (fun j c => c = c0 ++ (l.take j.toNat).flatMap g) (by omega) (by simp) (fun j c h0 h1 hP => by
    obtain ⟨a, g1, g2⟩ := ix_of h0 h1
    have e : (j + 1).toNat = j.toNat + 1 := by omega
    have ht : l.take (j + 1).toNat = l.take j.toNat ++ [a] := by rw [e, List.take_add_one, g2]; rfl
    refine ⟨c ++ g a, hb j a c g1 ?_, ?_⟩
    · have hs : l = l.take j.toNat ++ [a] ++ l.drop (j + 1).toNat := by rw [← ht, List.take_append_drop]
      have hl : (l.flatMap g).length = ((l.take j.toNat).flatMap g).length + (g a).length + ((l.drop (j + 1).toNat).flatMap g).length := by
        conv => lhs; rw [hs]
        simp [List.flatMap_append]; omega
      rw [hP, List.length_append]; omega
    · rw [ht, List.flatMap_append, hP]; simp)
  rw [h1, h2]
  simp
theorem small_eq : ∀ n : Fin 100, (internal_strconv_small (n : Nat)).map strL = some (dg (n : Nat)) := by decide +kernel
theorem appendInt_eq {x : Int} (hx : 0 ≤ x ∧ x < 100) {l : List Int} (hl : l.length ≤ 1000000) : strconv_AppendInt_w1 x 10 l = some (l ++ dg x) := by
  have h := small_eq ⟨x.toNat, by omega⟩
  rw [show (((⟨x.toNat, by omega⟩ : Fin 100) : Nat) : Int) = x by simp; omega] at h
  obtain ⟨b, h1, h2⟩ := Option.map_eq_some_iff.1 h
  unfold strconv_AppendInt_w1 internal_strconv_AppendInt_w2 internal_strconv_AppendUint_w3
  rw [if_neg (by omega), IntKind.wrap_u64, Int.emod_eq_of_lt (by omega) (by omega)]
  simp only [Option.bind_some, if_true]
  rw [if_pos hx.2, w64_of (by omega) (by omega), h1]
  simp only [Option.bind_some, h2]
  have : (dg x).length ≤ 2 := by unfold dg; split <;> simp
  rw [app, if_pos (by omega)]
  rfl
theorem dg_len (x : Int) : (dg x).length ≤ 2 := by unfold dg; split <;> simp
theorem key_eq {l : List (List Int)} (hs : ∀ s ∈ l, small s) (hN : (encK l).length ≤ 900000) : belief_Key l = some (keyK l) := by
  unfold belief_Key
  rw [forR_flatMap encS 900000 [] (fun j s c hj hc => by
    unfold belief_Key_l1
    rw [hj]
    simp only [Option.bind_some]
    have hlen : (encS s).length = (s.flatMap fun x => dg x ++ [44]).length + 1 := by simp [encS]
    rw [forR_flatMap (fun x => dg x ++ [44]) 900000 c (fun i x c' hi hc' => by
      unfold belief_Key_l2
      rw [hi]
      simp only [List.length_append, List.length_singleton] at hc'
      simp only [Option.bind_some, appendInt_eq (hs s (ix_mem hj) x (ix_mem hi)) (l := c') (by omega)]
      rw [app, if_pos (by simp; omega)]
      simp) (by omega)]
    simp only [Option.bind_some]
    rw [app, if_pos (by rw [List.length_append]; simp only [List.length_singleton]; omega)]
    simp [encS]) (by simpa [encK] using hN)]
  rfl
theorem encS_len : ∀ s : List Int, (encS s).length ≤ 3 * s.length + 1
  | [] => by simp [encS]
  | x :: s => by
    have := encS_len s
    have := dg_len x
    rw [encS_cons]
    simp only [List.length_append, List.length_cons]
    omega
theorem key2_eq {s a : List Int} (hs : small s) (ha : small a) (h1 : s.length ≤ 1000) (h2 : a.length ≤ 1000) : belief_Key [s, a] = some (keyK [s, a]) := by
  refine key_eq (by simp [hs, ha]) ?_
  have := encS_len s; have := encS_len a
  simp only [encK, List.flatMap_cons, List.flatMap_nil, List.length_append, List.append_nil]
  omega
end Ab
end
