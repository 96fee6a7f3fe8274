/-
  Texts that the proof stands on.
-/
import Derived.Test.YtiooehonogebkaaDoorKRwMergingSpec4
set_option linter.all false
section
namespace Ab
open Go Go.Proofs
set_option maxHeartbeats 4000000
set_option linter.all false
attribute [local irreducible] AWP AOps thn inB Done PureOk FreshOk Sub
theorem ref8_PartiesFault_ok {t : TTask} {goals : List (List Int)} {plans : List (List Int)} {r : TFault} (h : ref8_PartiesFault t goals plans = some r) : PureOk Tryd.prog 9 [.agg [int t.facts, row 1 intI t.init, row 1 intI t.goal, row 4 eTOperator t.operators], .c (row 1 eLi64 goals), .c (row 1 eLi64 plans)] (.agg [int r.code, int r.index]) := by
  unfold PureOk
  refine FnOk.enter (rs := [.cell 6 28 2]) Tryd.func9 rfl Tryd.ntmps9 Tryd.results9 rfl ⟨rv _ rfl, trivial⟩ (by kernel_rfl) rfl ?_
  unfold ref8_PartiesFault at h
  refine AWP.seq ?_
  refine AWP.region ?_
  refine W.box rfl rfl rfl rfl rfl rfl ?_
  refine W.alloc rfl rfl rfl rfl ?_
  refine AOps.nil ?_
  refine thn_normal ?_
  refine AWP.seq ?_
  refine AWP.seq ?_
  obtain ⟨a11, ha11, h⟩ := bind_some h
  refine AWP.region ?_
  refine W.loadAgg rfl rfl rfl rfl rfl rfl rfl ?_
  refine AOps.callR rfl rfl rfl rfl (ref1_TaskFault_ok ha11) rfl ?_
  refine W.alloc rfl rfl rfl rfl ?_
  refine W.storeAgg rfl rfl rfl rfl rfl rfl rfl ?_
  refine AOps.nil ?_
  refine thn_normal ?_
  refine AWP.seq ?_
  refine AWP.region ?_
  refine W.fieldAddr rfl rfl rfl rfl ?_
  refine AOps.load rfl rfl rfl rfl rfl rfl ?_
  refine AOps.neq rfl rfl rfl ?_
  refine AOps.nil ?_
  refine thn_normal ?_
  refine AWP.iteN rfl h (fun hc4 h => ?_) (fun hc4 h => ?_)
  · refine AWP.seq ?_
    refine AWP.region ?_
    refine W.loadAgg rfl rfl rfl rfl rfl rfl rfl ?_
    refine W.storeAgg rfl rfl rfl rfl rfl rfl rfl ?_
    refine AOps.nil ?_
    refine thn_normal ?_
    refine AWP.ret ?_
    refine thn_ret ?_
    have ej := Option.some.inj h
    subst ej
    exact Done.ret rfl rfl
  · refine AWP.skip ?_
    refine thn_normal ?_
    refine AWP.seq ?_
    refine AWP.seq ?_
    obtain ⟨a18, ha18, h⟩ := bind_some h
    refine AWP.region ?_
    refine AOps.move rfl rfl ?_
    refine S.len rfl rfl (fun hl17 => ?_)
    refine AOps.callR rfl rfl rfl rfl (ref1_In_ok ha18) rfl ?_
    refine AOps.not rfl rfl ?_
    refine AOps.nil ?_
    refine thn_normal ?_
    refine AWP.iteB rfl h (fun hc5 h => ?_) (fun hc5 h => ?_)
    · refine AWP.seq ?_
      obtain ⟨a20, ha20, h⟩ := bind_some h
      refine AWP.region ?_
      refine AOps.callR rfl rfl rfl rfl (ref1_At_ok ha20) rfl ?_
      refine W.storeAgg rfl rfl rfl rfl rfl rfl rfl ?_
      refine AOps.nil ?_
      refine thn_normal ?_
      refine AWP.ret ?_
      refine thn_ret ?_
      have ej := Option.some.inj h
      subst ej
      exact Done.ret rfl rfl
    · refine AWP.skip ?_
      refine thn_normal ?_
      refine AWP.seq ?_
      refine AWP.seq ?_
      refine AWP.region ?_
      refine AOps.move rfl rfl ?_
      refine S.len rfl rfl (fun hl22 => ?_)
      refine AOps.move rfl rfl ?_
      refine S.len rfl rfl (fun hl24 => ?_)
      refine AOps.neq rfl rfl rfl ?_
      refine AOps.nil ?_
      refine thn_normal ?_
      refine AWP.iteN rfl h (fun hc6 h => ?_) (fun hc6 h => ?_)
      · refine AWP.seq ?_
        obtain ⟨a26, ha26, h⟩ := bind_some h
        refine AWP.region ?_
        refine AOps.callR rfl rfl rfl rfl (ref1_At_ok ha26) rfl ?_
        refine W.storeAgg rfl rfl rfl rfl rfl rfl rfl ?_
        refine AOps.nil ?_
        refine thn_normal ?_
        refine AWP.ret ?_
        refine thn_ret ?_
        have ej := Option.some.inj h
        subst ej
        exact Done.ret rfl rfl
      · refine AWP.skip ?_
        refine thn_normal ?_
        refine AWP.seq ?_
        refine AWP.seq ?_
        refine AWP.region ?_
        refine AOps.assign rfl rfl ?_
        refine AOps.nil ?_
        refine thn_normal ?_
        refine AWP.block ?_
        obtain ⟨oo, ho1, h⟩ := bind_some h
        refine AWP.rngS ho1 (fun p7 _ => ⟨[(1, .c (row 1 eLi64 goals)), (2, .c (row 1 eLi64 plans)), (3, .c (.ptr 0 0 0)), (6, .c (.ptr 1 0 0)), (8, .c (int p7))], [.one (.cells 4 [[int t.facts, row 1 intI t.init, row 1 intI t.goal, row 4 eTOperator t.operators]]), .one (.cells 2 [[int 0, int 0]])]⟩) (fun o e st => match o with | .inl _ => e = .exit 0 ∧ Sub [] st ⟨[(2, .c (row 1 eLi64 plans)), (3, .c (.ptr 0 0 0)), (6, .c (.ptr 1 0 0))], [.one (.cells 4 [[int t.facts, row 1 intI t.init, row 1 intI t.goal, row 4 eTOperator t.operators]]), .one (.cells 2 [[int 0, int 0]])]⟩ | .inr x => e = .ret ∧ Done [.cell 6 28 2] (fun t _ => t = .agg [int x.code, int x.index]) .ret st) ?_ ?_ ?_ ?_
        · try dsimp only
          exact Sub.cut ⟨rfl, rfl, rfl, rfl, rfl, trivial⟩ rfl ⟨.one rfl, .one rfl, trivial⟩ rfl
        · intro p7 s hlop7 hltp7 _
          try dsimp only
          refine AWP.seq ?_
          refine AWP.seq ?_
          refine AWP.region ?_
          refine AOps.move rfl rfl ?_
          refine AOps.move rfl rfl ?_
          refine S.len rfl rfl (fun hl29 => ?_)
          refine AOps.lss rfl rfl rfl ?_
          refine AOps.nil ?_
          refine thn_normal ?_
          refine AWP.condNP rfl hltp7 ?_
          refine AWP.exit ?_
          refine thn_exit ?_
          refine thn_exit ⟨rfl, ?_⟩
          exact Sub.env ⟨rfl, rfl, rfl, trivial⟩
        · intro p7 s o hlop7 hltp7 h
          unfold ref8_PartiesFault_l1 at h
          try dsimp only at h ⊢
          refine AWP.seq ?_
          refine AWP.seq ?_
          refine AWP.region ?_
          refine AOps.move rfl rfl ?_
          refine AOps.move rfl rfl ?_
          refine S.len rfl rfl (fun hl29 => ?_)
          refine AOps.lss rfl rfl rfl ?_
          refine AOps.nil ?_
          refine thn_normal ?_
          refine AWP.condP rfl hltp7 ?_
          refine AWP.skip ?_
          refine thn_normal ?_
          refine AWP.seq ?_
          refine AWP.block ?_
          refine AWP.seq ?_
          obtain ⟨a35, ha35, h⟩ := bind_some h
          obtain ⟨a39, ha39, h⟩ := bind_some h
          refine AWP.drawI mixed rfl ?_
          apply DrawSeq.consF; exact rfl; intro E
          refine AOps.move rfl rfl ?_
          exact AOps.nil ⟨rfl, rfl⟩
          exact rfl
          apply DrawSeq.consF; exact rfl; intro E
          refine AOps.move rfl rfl ?_
          exact AOps.nil ⟨rfl, rfl⟩
          exact rfl
          apply DrawSeq.consF; exact rfl; intro E
          refine S.idx ha35 rfl rfl rfl rfl ?_
          exact AOps.nil ⟨rfl, rfl⟩
          exact rfl
          apply DrawSeq.consF; exact rfl; intro E
          refine AOps.loadI rfl rfl rfl rfl ?_
          exact AOps.nil ⟨rfl, rfl⟩
          exact rfl
          apply DrawSeq.consF; exact rfl; intro E
          refine W.fieldAddr rfl rfl rfl rfl ?_
          exact AOps.nil ⟨rfl, rfl⟩
          exact rfl
          apply DrawSeq.consF; exact rfl; intro E
          refine AOps.load rfl rfl rfl rfl rfl rfl ?_
          exact AOps.nil ⟨rfl, rfl⟩
          exact rfl
          apply DrawSeq.consF; exact rfl; intro E
          refine AOps.callR rfl rfl rfl rfl (ref1_IsSet_ok ha39) rfl ?_
          exact AOps.nil ⟨rfl, rfl⟩
          exact rfl
          apply DrawSeq.consF; exact rfl; intro E
          refine AOps.not rfl rfl ?_
          exact AOps.nil ⟨rfl, rfl⟩
          exact rfl
          refine DrawSeq.done ?_
          dsimp only [envEnd]
          refine thn_normal ?_
          refine AWP.iteB rfl h (fun hc8 h => ?_) (fun hc8 h => ?_)
          · refine AWP.seq ?_
            obtain ⟨a43, ha43, h⟩ := bind_some h
            refine AWP.region ?_
            refine AOps.move rfl rfl ?_
            refine S.sub rfl rfl rfl ?_
            refine AOps.callR rfl rfl rfl rfl (ref1_At_ok ha43) rfl ?_
            refine W.storeAgg rfl rfl rfl rfl rfl rfl rfl ?_
            refine AOps.nil ?_
            refine thn_normal ?_
            refine AWP.ret ?_
            refine inB_ret ?_
            refine thn_ret ?_
            have ej := Option.some.inj h
            subst ej
            refine thn_ret ⟨_, rfl, rfl, ?_⟩
            exact Done.ret rfl rfl
          · refine AWP.skip ?_
            refine inB_normal ?_
            refine thn_normal ?_
            refine AWP.region ?_
            refine AOps.move rfl rfl ?_
            refine AOps.add rfl rfl rfl (by omega) ?_
            refine AOps.assign rfl rfl ?_
            refine AOps.nil ?_
            have ej := Option.some.inj h
            subst ej
            refine thn_normal ⟨_, rfl, ?_⟩
            exact Sub.env ⟨rfl, rfl, rfl, rfl, rfl, trivial⟩
        · intro e s hq
          rcases oo with u | x
          · try dsimp only at h hq
            obtain ⟨rfl, hs⟩ := hq
            refine ⟨_, hs, ?_⟩
            refine inB_exit ?_
            refine thn_normal ?_
            refine AWP.seq ?_
            refine AWP.seq ?_
            refine AWP.region ?_
            refine AOps.assign rfl rfl ?_
            refine AOps.nil ?_
            refine thn_normal ?_
            refine AWP.block ?_
            obtain ⟨oo, ho2, h⟩ := bind_some h
            refine AWP.rngS ho2 (fun p9 _ => ⟨[(2, .c (row 1 eLi64 plans)), (3, .c (.ptr 0 0 0)), (6, .c (.ptr 1 0 0)), (9, .c (int p9))], [.one (.cells 4 [[int t.facts, row 1 intI t.init, row 1 intI t.goal, row 4 eTOperator t.operators]]), .one (.cells 2 [[int 0, int 0]])]⟩) (fun o e st => match o with | .inl _ => e = .exit 2 ∧ Sub [] st ⟨[(6, .c (.ptr 1 0 0))], [.one (.cells 4 [[int t.facts, row 1 intI t.init, row 1 intI t.goal, row 4 eTOperator t.operators]]), .one (.cells 2 [[int 0, int 0]])]⟩ | .inr x => e = .ret ∧ Done [.cell 6 28 2] (fun t _ => t = .agg [int x.code, int x.index]) .ret st) ?_ ?_ ?_ ?_
            · try dsimp only
              exact Sub.env ⟨rfl, rfl, rfl, rfl, trivial⟩
            · intro p9 s hlop9 hltp9 _
              try dsimp only
              refine AWP.seq ?_
              refine AWP.seq ?_
              refine AWP.region ?_
              refine AOps.move rfl rfl ?_
              refine AOps.move rfl rfl ?_
              refine S.len rfl rfl (fun hl46 => ?_)
              refine AOps.lss rfl rfl rfl ?_
              refine AOps.nil ?_
              refine thn_normal ?_
              refine AWP.condNP rfl hltp9 ?_
              refine AWP.exit ?_
              refine thn_exit ?_
              refine thn_exit ⟨rfl, ?_⟩
              exact Sub.env ⟨rfl, trivial⟩
            · intro p9 s o hlop9 hltp9 h
              unfold ref8_PartiesFault_l2 at h
              try dsimp only at h ⊢
              refine AWP.seq ?_
              refine AWP.seq ?_
              refine AWP.region ?_
              refine AOps.move rfl rfl ?_
              refine AOps.move rfl rfl ?_
              refine S.len rfl rfl (fun hl46 => ?_)
              refine AOps.lss rfl rfl rfl ?_
              refine AOps.nil ?_
              refine thn_normal ?_
              refine AWP.condP rfl hltp9 ?_
              refine AWP.skip ?_
              refine thn_normal ?_
              refine AWP.seq ?_
              refine AWP.block ?_
              refine AWP.seq ?_
              refine AWP.seq ?_
              obtain ⟨a52, ha52, h⟩ := bind_some h
              refine AWP.region ?_
              refine AOps.move rfl rfl ?_
              refine AOps.move rfl rfl ?_
              refine S.idx ha52 rfl rfl rfl rfl ?_
              refine AOps.loadI rfl rfl rfl rfl ?_
              refine S.len rfl rfl (fun hl54 => ?_)
              refine AOps.gtr rfl rfl rfl ?_
              refine AOps.nil ?_
              refine thn_normal ?_
              refine AWP.ite rfl h (fun hc10 h => ?_) (fun hc10 h => ?_)
              · refine AWP.seq ?_
                obtain ⟨a58, ha58, h⟩ := bind_some h
                refine AWP.region ?_
                refine AOps.move rfl rfl ?_
                refine S.sub rfl rfl rfl ?_
                refine AOps.callR rfl rfl rfl rfl (ref1_At_ok ha58) rfl ?_
                refine W.storeAgg rfl rfl rfl rfl rfl rfl rfl ?_
                refine AOps.nil ?_
                refine thn_normal ?_
                refine AWP.ret ?_
                refine thn_ret ?_
                refine inB_ret ?_
                refine thn_ret ?_
                have ej := Option.some.inj h
                subst ej
                refine thn_ret ⟨_, rfl, rfl, ?_⟩
                exact Done.ret rfl rfl
              · refine AWP.skip ?_
                refine thn_normal ?_
                refine AWP.seq ?_
                obtain ⟨a64, ha64, h⟩ := bind_some h
                obtain ⟨a66, ha66, h⟩ := bind_some h
                refine AWP.drawI mixed rfl ?_
                apply DrawSeq.consF; exact rfl; intro E
                refine W.fieldAddr rfl rfl rfl rfl ?_
                exact AOps.nil ⟨rfl, rfl⟩
                exact rfl
                apply DrawSeq.consF; exact rfl; intro E
                refine AOps.load rfl rfl rfl rfl rfl rfl ?_
                exact AOps.nil ⟨rfl, rfl⟩
                exact rfl
                apply DrawSeq.consF; exact rfl; intro E
                refine S.len rfl rfl (fun hl61 => ?_)
                exact AOps.nil ⟨rfl, rfl⟩
                exact rfl
                apply DrawSeq.consF; exact rfl; intro E
                refine AOps.move rfl rfl ?_
                exact AOps.nil ⟨rfl, rfl⟩
                exact rfl
                apply DrawSeq.consF; exact rfl; intro E
                refine AOps.move rfl rfl ?_
                exact AOps.nil ⟨rfl, rfl⟩
                exact rfl
                apply DrawSeq.consF; exact rfl; intro E
                refine S.idx ha64 rfl rfl rfl rfl ?_
                exact AOps.nil ⟨rfl, rfl⟩
                exact rfl
                apply DrawSeq.consF; exact rfl; intro E
                refine AOps.loadI rfl rfl rfl rfl ?_
                exact AOps.nil ⟨rfl, rfl⟩
                exact rfl
                apply DrawSeq.consF; exact rfl; intro E
                refine AOps.callR rfl rfl rfl rfl (ref1_StepsFault_ok ha66) rfl ?_
                exact AOps.nil ⟨rfl, rfl⟩
                exact rfl
                apply DrawSeq.consF; exact rfl; intro E
                refine W.field rfl rfl rfl rfl ?_
                exact AOps.nil ⟨rfl, rfl⟩
                exact rfl
                apply DrawSeq.consF; exact rfl; intro E
                refine AOps.neq rfl rfl rfl ?_
                exact AOps.nil ⟨rfl, rfl⟩
                exact rfl
                refine DrawSeq.done ?_
                dsimp only [envEnd]
                refine thn_normal ?_
                refine AWP.iteN rfl h (fun hc11 h => ?_) (fun hc11 h => ?_)
                · refine AWP.seq ?_
                  obtain ⟨a71, ha71, h⟩ := bind_some h
                  refine AWP.region ?_
                  refine AOps.move rfl rfl ?_
                  refine S.sub rfl rfl rfl ?_
                  refine AOps.callR rfl rfl rfl rfl (ref1_At_ok ha71) rfl ?_
                  refine W.storeAgg rfl rfl rfl rfl rfl rfl rfl ?_
                  refine AOps.nil ?_
                  refine thn_normal ?_
                  refine AWP.ret ?_
                  refine inB_ret ?_
                  refine thn_ret ?_
                  have ej := Option.some.inj h
                  subst ej
                  refine thn_ret ⟨_, rfl, rfl, ?_⟩
                  exact Done.ret rfl rfl
                · refine AWP.skip ?_
                  refine inB_normal ?_
                  refine thn_normal ?_
                  refine AWP.region ?_
                  refine AOps.move rfl rfl ?_
                  refine AOps.add rfl rfl rfl (by omega) ?_
                  refine AOps.assign rfl rfl ?_
                  refine AOps.nil ?_
                  have ej := Option.some.inj h
                  subst ej
                  refine thn_normal ⟨_, rfl, ?_⟩
                  exact Sub.env ⟨rfl, rfl, rfl, rfl, trivial⟩
            · intro e s hq
              rcases oo with u | x
              · try dsimp only at h hq
                obtain ⟨rfl, hs⟩ := hq
                refine ⟨_, hs, ?_⟩
                refine inB_exit ?_
                refine thn_normal ?_
                refine AWP.seq ?_
                refine AWP.region ?_
                refine W.build rfl rfl rfl rfl ?_
                refine W.storeAgg rfl rfl rfl rfl rfl rfl rfl ?_
                refine AOps.nil ?_
                refine thn_normal ?_
                refine AWP.ret ?_
                have ej := Option.some.inj h
                subst ej
                exact Done.ret rfl rfl
              · try dsimp only at h hq
                obtain ⟨rfl, hs⟩ := hq
                refine ⟨_, Sub.refl _ _, ?_⟩
                refine inB_ret ?_
                refine thn_ret ?_
                have ej := Option.some.inj h
                subst ej
                exact hs
          · try dsimp only at h hq
            obtain ⟨rfl, hs⟩ := hq
            refine ⟨_, Sub.refl _ _, ?_⟩
            refine inB_ret ?_
            refine thn_ret ?_
            have ej := Option.some.inj h
            subst ej
            exact hs
theorem law8_step_ok {r : TTask} (h : law8_step = some r) : PureOk Tryd.prog 29 [] (.agg [int r.facts, row 1 intI r.init, row 1 intI r.goal, row 4 eTOperator r.operators]) := by
  unfold PureOk
  refine FnOk.enter (rs := [.cell 0 25 4]) Tryd.func29 rfl Tryd.ntmps29 Tryd.results29 rfl ⟨rv _ rfl, trivial⟩ (by kernel_rfl) rfl ?_
  unfold law8_step at h
  refine AWP.seq ?_
  refine AWP.region ?_
  refine W.alloc rfl rfl rfl rfl ?_
  refine AOps.nil ?_
  refine thn_normal ?_
  refine AWP.seq ?_
  refine AWP.region ?_
  refine S.lit (f := intI) (l := [0]) (ess := [[int 0]]) rfl rfl rfl rfl rfl rfl rfl ⟨⟨.inl rfl, trivial⟩, trivial⟩ rfl rfl rfl ?_
  refine S.lit (f := intI) (l := [1]) (ess := [[int 1]]) rfl rfl rfl rfl rfl rfl rfl ⟨⟨.inl rfl, trivial⟩, trivial⟩ rfl rfl rfl ?_
  refine S.lit (f := intI) (l := [0]) (ess := [[int 0]]) rfl rfl rfl rfl rfl rfl rfl ⟨⟨.inl rfl, trivial⟩, trivial⟩ rfl rfl rfl ?_
  refine S.lit (f := intI) (l := [1]) (ess := [[int 1]]) rfl rfl rfl rfl rfl rfl rfl ⟨⟨.inl rfl, trivial⟩, trivial⟩ rfl rfl rfl ?_
  refine S.lit (f := intI) (l := [0]) (ess := [[int 0]]) rfl rfl rfl rfl rfl rfl rfl ⟨⟨.inl rfl, trivial⟩, trivial⟩ rfl rfl rfl ?_
  refine W.build rfl rfl rfl rfl ?_
  refine S.lit (f := intI) (l := [1]) (ess := [[int 1]]) rfl rfl rfl rfl rfl rfl rfl ⟨⟨.inl rfl, trivial⟩, trivial⟩ rfl rfl rfl ?_
  refine W.build rfl rfl rfl rfl ?_
  refine AOps.frzV (id := 3) (l := [0]) (env2 := [(0, .c (.ptr 0 0 0)), (1, .c (.own 1 0 ([0].length))), (2, .c (.own 2 0 ([1].length))), (6, .agg [row 1 intI [0], .own 4 0 ([1].length), .own 5 0 ([0].length), int 1]), (8, .agg [.imm (.val (.slice none 0 0)), .own 6 0 ([1].length), .imm (.val (.slice none 0 0)), int 3])]) (σ2 := [.one (.cells 4 [[int 0, .imm (.val (.slice none 0 0)), .imm (.val (.slice none 0 0)), .imm (.val (.slice none 0 0))]]), .one (vec 1 intI [0]), .one (vec 1 intI [1]), .dead, .one (vec 1 intI [1]), .one (vec 1 intI [0]), .one (vec 1 intI [1])]) rfl rfl (by exact ⟨⟨_, rfl, .inl ⟨rfl, rfl⟩⟩, ⟨_, rfl, .inl ⟨rfl, rfl⟩⟩, ⟨_, rfl, .inl ⟨rfl, rfl⟩⟩, ⟨_, rfl, ⟨.inr ⟨_, rfl, rfl, rfl⟩, .inl ⟨rfl, rfl⟩, .inl ⟨rfl, rfl⟩, .inl ⟨rfl, rfl⟩, trivial⟩⟩, ⟨_, rfl, ⟨.inl ⟨rfl, rfl⟩, .inl ⟨rfl, rfl⟩, .inl ⟨rfl, rfl⟩, .inl ⟨rfl, rfl⟩, trivial⟩⟩, trivial⟩) rfl (by exact ⟨⟨rfl, .inl ⟨rfl, rfl⟩, .inl ⟨rfl, rfl⟩, .inl ⟨rfl, rfl⟩, .inl ⟨rfl, rfl⟩, trivial⟩, FrzB.vec, FrzB.vec, trivial, FrzB.vec, FrzB.vec, FrzB.vec, trivial⟩) ?_; refine AOps.frzV (id := 4) (l := [1]) (env2 := [(0, .c (.ptr 0 0 0)), (1, .c (.own 1 0 ([0].length))), (2, .c (.own 2 0 ([1].length))), (6, .agg [row 1 intI [0], row 1 intI [1], .own 5 0 ([0].length), int 1]), (8, .agg [.imm (.val (.slice none 0 0)), .own 6 0 ([1].length), .imm (.val (.slice none 0 0)), int 3])]) (σ2 := [.one (.cells 4 [[int 0, .imm (.val (.slice none 0 0)), .imm (.val (.slice none 0 0)), .imm (.val (.slice none 0 0))]]), .one (vec 1 intI [0]), .one (vec 1 intI [1]), .dead, .dead, .one (vec 1 intI [0]), .one (vec 1 intI [1])]) rfl rfl (by exact ⟨⟨_, rfl, .inl ⟨rfl, rfl⟩⟩, ⟨_, rfl, .inl ⟨rfl, rfl⟩⟩, ⟨_, rfl, .inl ⟨rfl, rfl⟩⟩, ⟨_, rfl, ⟨.inl ⟨rfl, rfl⟩, .inr ⟨_, rfl, rfl, rfl⟩, .inl ⟨rfl, rfl⟩, .inl ⟨rfl, rfl⟩, trivial⟩⟩, ⟨_, rfl, ⟨.inl ⟨rfl, rfl⟩, .inl ⟨rfl, rfl⟩, .inl ⟨rfl, rfl⟩, .inl ⟨rfl, rfl⟩, trivial⟩⟩, trivial⟩) rfl (by exact ⟨⟨rfl, .inl ⟨rfl, rfl⟩, .inl ⟨rfl, rfl⟩, .inl ⟨rfl, rfl⟩, .inl ⟨rfl, rfl⟩, trivial⟩, FrzB.vec, FrzB.vec, trivial, trivial, FrzB.vec, FrzB.vec, trivial⟩) ?_; refine AOps.frzV (id := 5) (l := [0]) (env2 := [(0, .c (.ptr 0 0 0)), (1, .c (.own 1 0 ([0].length))), (2, .c (.own 2 0 ([1].length))), (6, .agg [row 1 intI [0], row 1 intI [1], row 1 intI [0], int 1]), (8, .agg [.imm (.val (.slice none 0 0)), .own 6 0 ([1].length), .imm (.val (.slice none 0 0)), int 3])]) (σ2 := [.one (.cells 4 [[int 0, .imm (.val (.slice none 0 0)), .imm (.val (.slice none 0 0)), .imm (.val (.slice none 0 0))]]), .one (vec 1 intI [0]), .one (vec 1 intI [1]), .dead, .dead, .dead, .one (vec 1 intI [1])]) rfl rfl (by exact ⟨⟨_, rfl, .inl ⟨rfl, rfl⟩⟩, ⟨_, rfl, .inl ⟨rfl, rfl⟩⟩, ⟨_, rfl, .inl ⟨rfl, rfl⟩⟩, ⟨_, rfl, ⟨.inl ⟨rfl, rfl⟩, .inl ⟨rfl, rfl⟩, .inr ⟨_, rfl, rfl, rfl⟩, .inl ⟨rfl, rfl⟩, trivial⟩⟩, ⟨_, rfl, ⟨.inl ⟨rfl, rfl⟩, .inl ⟨rfl, rfl⟩, .inl ⟨rfl, rfl⟩, .inl ⟨rfl, rfl⟩, trivial⟩⟩, trivial⟩) rfl (by exact ⟨⟨rfl, .inl ⟨rfl, rfl⟩, .inl ⟨rfl, rfl⟩, .inl ⟨rfl, rfl⟩, .inl ⟨rfl, rfl⟩, trivial⟩, FrzB.vec, FrzB.vec, trivial, trivial, trivial, FrzB.vec, trivial⟩) ?_; refine AOps.frzV (id := 6) (l := [1]) (env2 := [(0, .c (.ptr 0 0 0)), (1, .c (.own 1 0 ([0].length))), (2, .c (.own 2 0 ([1].length))), (6, .agg [row 1 intI [0], row 1 intI [1], row 1 intI [0], int 1]), (8, .agg [.imm (.val (.slice none 0 0)), row 1 intI [1], .imm (.val (.slice none 0 0)), int 3])]) (σ2 := [.one (.cells 4 [[int 0, .imm (.val (.slice none 0 0)), .imm (.val (.slice none 0 0)), .imm (.val (.slice none 0 0))]]), .one (vec 1 intI [0]), .one (vec 1 intI [1]), .dead, .dead, .dead, .dead]) rfl rfl (by exact ⟨⟨_, rfl, .inl ⟨rfl, rfl⟩⟩, ⟨_, rfl, .inl ⟨rfl, rfl⟩⟩, ⟨_, rfl, .inl ⟨rfl, rfl⟩⟩, ⟨_, rfl, ⟨.inl ⟨rfl, rfl⟩, .inl ⟨rfl, rfl⟩, .inl ⟨rfl, rfl⟩, .inl ⟨rfl, rfl⟩, trivial⟩⟩, ⟨_, rfl, ⟨.inl ⟨rfl, rfl⟩, .inr ⟨_, rfl, rfl, rfl⟩, .inl ⟨rfl, rfl⟩, .inl ⟨rfl, rfl⟩, trivial⟩⟩, trivial⟩) rfl (by exact ⟨⟨rfl, .inl ⟨rfl, rfl⟩, .inl ⟨rfl, rfl⟩, .inl ⟨rfl, rfl⟩, .inl ⟨rfl, rfl⟩, trivial⟩, FrzB.vec, FrzB.vec, trivial, trivial, trivial, trivial, trivial⟩) ?_; refine S.lit (f := eTOperator) (l := [(⟨[0], [1], [0], 1⟩ : TOperator), (⟨[], [1], [], 3⟩ : TOperator)]) (ess := [[row 1 intI [0], row 1 intI [1], row 1 intI [0], int 1], [.imm (.val (.slice none 0 0)), row 1 intI [1], .imm (.val (.slice none 0 0)), int 3]]) rfl rfl rfl rfl rfl rfl rfl ⟨⟨.inl rfl, .inl rfl, .inl rfl, .inl rfl, trivial⟩, ⟨.inr ⟨rfl, _, rfl⟩, .inl rfl, .inr ⟨rfl, _, rfl⟩, .inl rfl, trivial⟩, trivial⟩ rfl rfl rfl ?_
  refine W.build rfl rfl rfl rfl ?_
  refine W.storeAgg rfl rfl rfl rfl rfl rfl rfl ?_
  refine AOps.nil ?_
  refine thn_normal ?_
  refine AWP.frzV (id := 1) (l := [0]) (env2 := [(0, .c (.ptr 0 0 0))]) (σ2 := [.one (.cells 4 [[int 2, row 1 intI [0], .own 2 0 ([1].length), .own 7 0 (([(⟨[0], [1], [0], 1⟩ : TOperator), (⟨[], [1], [], 3⟩ : TOperator)]).length)]]), .dead, .one (vec 1 intI [1]), .dead, .dead, .dead, .dead, .one (vec 4 eTOperator ([(⟨[0], [1], [0], 1⟩ : TOperator), (⟨[], [1], [], 3⟩ : TOperator)]))]) rfl rfl (by exact ⟨⟨_, rfl, .inl ⟨rfl, rfl⟩⟩, trivial⟩) rfl (by exact ⟨⟨rfl, .inl ⟨rfl, rfl⟩, .inr ⟨_, rfl, rfl, rfl⟩, .inl ⟨rfl, rfl⟩, .inl ⟨rfl, rfl⟩, trivial⟩, trivial, FrzB.vec, trivial, trivial, trivial, trivial, FrzB.vec, trivial⟩) ?_
  refine AWP.frzV (id := 2) (l := [1]) (env2 := [(0, .c (.ptr 0 0 0))]) (σ2 := [.one (.cells 4 [[int 2, row 1 intI [0], row 1 intI [1], .own 7 0 (([(⟨[0], [1], [0], 1⟩ : TOperator), (⟨[], [1], [], 3⟩ : TOperator)]).length)]]), .dead, .dead, .dead, .dead, .dead, .dead, .one (vec 4 eTOperator ([(⟨[0], [1], [0], 1⟩ : TOperator), (⟨[], [1], [], 3⟩ : TOperator)]))]) rfl rfl (by exact ⟨⟨_, rfl, .inl ⟨rfl, rfl⟩⟩, trivial⟩) rfl (by exact ⟨⟨rfl, .inl ⟨rfl, rfl⟩, .inl ⟨rfl, rfl⟩, .inr ⟨_, rfl, rfl, rfl⟩, .inl ⟨rfl, rfl⟩, trivial⟩, trivial, trivial, trivial, trivial, trivial, trivial, FrzB.vec, trivial⟩) ?_
  refine AWP.frzV (id := 7) (l := [(⟨[0], [1], [0], 1⟩ : TOperator), (⟨[], [1], [], 3⟩ : TOperator)]) (env2 := [(0, .c (.ptr 0 0 0))]) (σ2 := [.one (.cells 4 [[int 2, row 1 intI [0], row 1 intI [1], row 4 eTOperator ([(⟨[0], [1], [0], 1⟩ : TOperator), (⟨[], [1], [], 3⟩ : TOperator)])]]), .dead, .dead, .dead, .dead, .dead, .dead, .dead]) rfl rfl (by exact ⟨⟨_, rfl, .inl ⟨rfl, rfl⟩⟩, trivial⟩) rfl (by exact ⟨⟨rfl, .inl ⟨rfl, rfl⟩, .inl ⟨rfl, rfl⟩, .inl ⟨rfl, rfl⟩, .inr ⟨_, rfl, rfl, rfl⟩, trivial⟩, trivial, trivial, trivial, trivial, trivial, trivial, trivial, trivial⟩) ?_
  refine AWP.ret ?_
  have ej := Option.some.inj h
  subst ej
  exact Done.ret rfl rfl
theorem merging_Check_ok {t : TTask} {goals : List (List Int)} {plans : List (List Int)} {turns : List Int} {r : Bool × TFault} (h : merging_Check t goals plans turns = some r) : PureOk Tryd.prog 14 [.agg [int t.facts, row 1 intI t.init, row 1 intI t.goal, row 4 eTOperator t.operators], .c (row 1 eLi64 goals), .c (row 1 eLi64 plans), .c (row 1 intI turns)] (.tup [.c (bool r.1), .agg [int r.2.code, int r.2.index]]) := by
  unfold PureOk
  refine FnOk.enter (rs := [.t 8, .cell 9 28 2]) Tryd.func14 rfl Tryd.ntmps14 Tryd.results14 rfl ⟨trivial, rv _ rfl, trivial⟩ (by kernel_rfl) rfl ?_
  unfold merging_Check at h
  refine AWP.seq ?_
  refine AWP.region ?_
  refine W.box rfl rfl rfl rfl rfl rfl ?_
  refine AOps.assign rfl rfl ?_
  refine W.alloc rfl rfl rfl rfl ?_
  refine AOps.nil ?_
  refine thn_normal ?_
  refine AWP.seq ?_
  refine AWP.seq ?_
  obtain ⟨a21, ha21, h⟩ := bind_some h
  refine AWP.region ?_
  refine W.loadAgg rfl rfl rfl rfl rfl rfl rfl ?_
  refine AOps.move rfl rfl ?_
  refine AOps.move rfl rfl ?_
  refine AOps.callR rfl rfl rfl rfl (merging_check_ok ha21) rfl ?_
  refine W.alloc rfl rfl rfl rfl ?_
  refine W.storeAgg rfl rfl rfl rfl rfl rfl rfl ?_
  refine AOps.nil ?_
  refine thn_normal ?_
  refine AWP.seq ?_
  refine AWP.region ?_
  refine W.loadAgg rfl rfl rfl rfl rfl rfl rfl ?_
  refine W.build rfl rfl rfl rfl ?_
  refine AOps.neqP rfl rfl rfl rfl rfl rfl rfl ?_
  refine AOps.nil ?_
  refine thn_normal ?_
  refine AWP.iteB rfl h (fun hc5 h => ?_) (fun hc5 h => ?_)
  · refine AWP.seq ?_
    refine AWP.drawEI [2] mixed rfl rfl rfl ?_
    apply DrawSeqE.consN; exact rfl; exact rfl; intro E
    refine W.loadAgg rfl rfl rfl rfl rfl rfl rfl ?_
    exact AOps.nil ⟨rfl, rfl⟩
    exact rfl
    apply DrawSeqE.consN; exact rfl; exact rfl; intro E
    refine AOps.assign rfl rfl ?_
    exact AOps.nil ⟨rfl, rfl⟩
    exact rfl
    apply DrawSeqE.consE (v := .undef); exact rfl; exact rfl; intro E
    refine W.storeAgg rfl rfl rfl rfl rfl rfl rfl ?_
    exact AOps.nil ⟨rfl, rfl⟩
    exact rfl
    exact rfl
    refine DrawSeqE.done rfl ?_ ?_
    · apply RestI.cons; exact rfl; exact rfl
      first | refine RestK.skip rfl ?_ | (apply RestK.go; exact rfl; exact rfl; intro E; (refine W.loadAgg rfl rfl rfl rfl rfl rfl rfl ?_); exact AOps.nil ⟨rfl, rfl⟩)
      first | refine RestK.skip rfl ?_ | (apply RestK.go; exact rfl; exact rfl; intro E; (refine W.loadAgg rfl rfl rfl rfl rfl rfl rfl ?_); exact AOps.nil ⟨rfl, rfl⟩)
      exact RestK.nil
      apply RestI.cons; exact rfl; exact rfl
      first | refine RestK.skip rfl ?_ | (apply RestK.go; exact rfl; exact rfl; intro E; (refine AOps.assign rfl rfl ?_); exact AOps.nil ⟨rfl, rfl⟩)
      first | refine RestK.skip rfl ?_ | (apply RestK.go; exact rfl; exact rfl; intro E; (refine AOps.assign rfl rfl ?_); exact AOps.nil ⟨rfl, rfl⟩)
      exact RestK.nil
      refine RestI.skip rfl ?_
      exact RestI.nil
    dsimp only [envEnd]
    refine thn_normal ?_
    refine AWP.ret ?_
    refine thn_ret ?_
    have ej := Option.some.inj h
    subst ej
    exact Done.ret rfl rfl
  · refine AWP.skip ?_
    refine thn_normal ?_
    refine AWP.seq ?_
    refine AWP.seq ?_
    refine AWP.region ?_
    refine AOps.move rfl rfl ?_
    refine S.len rfl rfl (fun hl27 => ?_)
    refine AOps.gtr rfl rfl rfl ?_
    refine AOps.nil ?_
    refine thn_normal ?_
    refine AWP.ite rfl h (fun hc6 h => ?_) (fun hc6 h => ?_)
    · refine AWP.seq ?_
      refine AWP.region ?_
      refine W.build rfl rfl rfl rfl ?_
      refine AOps.assign rfl rfl ?_
      refine W.storeAgg rfl rfl rfl rfl rfl rfl rfl ?_
      refine AOps.nil ?_
      refine thn_normal ?_
      refine AWP.ret ?_
      refine thn_ret ?_
      have ej := Option.some.inj h
      subst ej
      exact Done.ret rfl rfl
    · refine AWP.skip ?_
      refine thn_normal ?_
      refine AWP.seq ?_
      refine AWP.seq ?_
      refine AWP.region ?_
      refine AOps.move rfl rfl ?_
      refine S.len rfl rfl (fun hl31 => ?_)
      refine AOps.move rfl rfl ?_
      refine AOps.nil ?_
      refine thn_normal ?_
      refine AWP.block ?_
      obtain ⟨oo, ho1, h⟩ := bind_some h
      refine AWP.rngS ho1 (fun t7 _ => ⟨[(1, .c (row 1 eLi64 goals)), (2, .c (row 1 eLi64 plans)), (3, .c (row 1 intI turns)), (4, .c (.ptr 0 0 0)), (9, .c (.ptr 1 0 0)), (30, .c (row 1 intI turns)), (31, .c (int (turns.length : Int))), (32, .c (int t7))], [.one (.cells 4 [[int t.facts, row 1 intI t.init, row 1 intI t.goal, row 4 eTOperator t.operators]]), .one (.cells 2 [[int 0, int 0]])]⟩) (fun o e st => match o with | .inl _ => e = .exit 0 ∧ Sub [] st ⟨[(1, .c (row 1 eLi64 goals)), (2, .c (row 1 eLi64 plans)), (3, .c (row 1 intI turns)), (4, .c (.ptr 0 0 0)), (9, .c (.ptr 1 0 0))], [.one (.cells 4 [[int t.facts, row 1 intI t.init, row 1 intI t.goal, row 4 eTOperator t.operators]]), .one (.cells 2 [[int 0, int 0]])]⟩ | .inr x => e = .ret ∧ Done [.t 8, .cell 9 28 2] (fun t _ => t = .tup [.c (bool x.1), .agg [int x.2.code, int x.2.index]]) .ret st) ?_ ?_ ?_ ?_
      · try dsimp only
        exact Sub.cut ⟨rfl, rfl, rfl, rfl, rfl, rfl, rfl, rfl, trivial⟩ rfl ⟨.one rfl, .one rfl, trivial⟩ rfl
      · intro t7 s hlot7 hltt7 _
        try dsimp only
        refine AWP.seq ?_
        refine AWP.region ?_
        refine AOps.lss rfl rfl rfl ?_
        refine AOps.nil ?_
        refine thn_normal ?_
        refine AWP.seq ?_
        refine AWP.condNP rfl hltt7 ?_
        refine AWP.exit ?_
        refine thn_exit ?_
        refine thn_exit ⟨rfl, ?_⟩
        exact Sub.env ⟨rfl, rfl, rfl, rfl, rfl, trivial⟩
      · intro t7 s o hlot7 hltt7 h
        unfold merging_Check_l1 at h
        try dsimp only at h ⊢
        refine AWP.seq ?_
        refine AWP.region ?_
        refine AOps.lss rfl rfl rfl ?_
        refine AOps.nil ?_
        refine thn_normal ?_
        refine AWP.seq ?_
        refine AWP.condP rfl hltt7 ?_
        refine AWP.skip ?_
        refine thn_normal ?_
        refine AWP.seq ?_
        refine AWP.block ?_
        refine AWP.seq ?_
        obtain ⟨a34, ha34, h⟩ := bind_some h
        refine AWP.region ?_
        refine S.idx ha34 rfl rfl rfl rfl ?_
        refine AOps.loadI rfl rfl rfl rfl ?_
        refine AOps.assign rfl rfl ?_
        refine AOps.nil ?_
        refine thn_normal ?_
        refine AWP.seqJ (⟨[(1, .c (row 1 eLi64 goals)), (2, .c (row 1 eLi64 plans)), (3, .c (row 1 intI turns)), (4, .c (.ptr 0 0 0)), (9, .c (.ptr 1 0 0)), (30, .c (row 1 intI turns)), (31, .c (int (turns.length : Int))), (32, .c (int t7)), (43, .c (bool ((decide (a34 < 0)) || (decide ((plans.length : Int) ≤ a34)))))], [.one (.cells 4 [[int t.facts, row 1 intI t.init, row 1 intI t.goal, row 4 eTOperator t.operators]]), .one (.cells 2 [[int 0, int 0]])]⟩) ?_ ?_
        · rcases Bool.eq_false_or_eq_true (decide (a34 < 0)) with hb1 | hb1
          · refine AWP.region ?_
            refine AOps.move rfl rfl ?_
            refine AOps.lss rfl rfl rfl ?_
            refine AOps.move rfl rfl ?_
            refine AOps.guardF rfl rfl rfl hb1 ?_
            refine AOps.guardF rfl rfl rfl hb1 ?_
            refine AOps.guardF rfl rfl rfl hb1 ?_
            refine AOps.guardF rfl rfl rfl hb1 ?_
            refine AOps.pickT rfl hb1 rfl rfl ?_
            refine AOps.nil ?_
            refine thn_normal ?_
            simp only [and_t hb1, or_t hb1, Bool.false_or, Bool.true_or, Bool.false_and, Bool.true_and]
            exact Sub.env ⟨rfl, rfl, rfl, rfl, rfl, rfl, rfl, rfl, rfl, trivial⟩
          · refine AWP.region ?_
            refine AOps.move rfl rfl ?_
            refine AOps.lss rfl rfl rfl ?_
            refine AOps.move rfl rfl ?_
            refine AOps.guardT rfl rfl rfl hb1 ?_; refine AOps.move rfl rfl ?_
            refine AOps.guardT rfl rfl rfl hb1 ?_; refine AOps.move rfl rfl ?_
            refine AOps.guardT rfl rfl rfl hb1 ?_; refine S.len rfl rfl (fun hl41 => ?_)
            refine AOps.guardT rfl rfl rfl hb1 ?_; refine AOps.geq rfl rfl rfl ?_
            refine AOps.pickF rfl hb1 rfl rfl ?_
            refine AOps.nil ?_
            refine thn_normal ?_
            simp only [and_f hb1, or_f hb1, Bool.false_or, Bool.true_or, Bool.false_and, Bool.true_and]
            exact Sub.env ⟨rfl, rfl, rfl, rfl, rfl, rfl, rfl, rfl, rfl, trivial⟩
        · refine AWP.iteB rfl h (fun hc8 h => ?_) (fun hc8 h => ?_)
          · refine AWP.seq ?_
            refine AWP.region ?_
            refine W.build rfl rfl rfl rfl ?_
            refine AOps.assign rfl rfl ?_
            refine W.storeAgg rfl rfl rfl rfl rfl rfl rfl ?_
            refine AOps.nil ?_
            refine thn_normal ?_
            refine AWP.ret ?_
            refine inB_ret ?_
            refine thn_ret ?_
            have ej := Option.some.inj h
            subst ej
            refine thn_ret ⟨_, rfl, rfl, ?_⟩
            exact Done.ret rfl rfl
          · refine AWP.skip ?_
            refine inB_normal ?_
            refine thn_normal ?_
            refine AWP.region ?_
            refine AOps.add rfl rfl rfl (by omega) ?_
            refine AOps.move rfl rfl ?_
            refine AOps.nil ?_
            have ej := Option.some.inj h
            subst ej
            refine thn_normal ⟨_, rfl, ?_⟩
            exact Sub.env ⟨rfl, rfl, rfl, rfl, rfl, rfl, rfl, rfl, trivial⟩
      · intro e s hq
        rcases oo with u | x
        · try dsimp only at h hq
          obtain ⟨rfl, hs⟩ := hq
          refine ⟨_, hs, ?_⟩
          refine inB_exit ?_
          refine thn_normal ?_
          refine AWP.seq ?_
          obtain ⟨a48, ha48, h⟩ := bind_some h
          refine AWP.region ?_
          refine AOps.move rfl rfl ?_
          refine S.len rfl rfl (fun hl47 => ?_)
          refine S.make (f := intI) ha48 (.val .nil) rfl rfl rfl rfl rfl rfl ?_
          refine AOps.assign rfl rfl ?_
          refine AOps.nil ?_
          refine thn_normal ?_
          refine AWP.seq ?_
          refine AWP.region ?_
          refine W.fieldAddr rfl rfl rfl rfl ?_
          refine AOps.load rfl rfl rfl rfl rfl rfl ?_
          refine AOps.assign rfl rfl ?_
          refine AOps.nil ?_
          refine thn_normal ?_
          refine AWP.seq ?_
          refine AWP.seq ?_
          refine AWP.region ?_
          refine AOps.move rfl rfl ?_
          refine S.len rfl rfl (fun hl52 => ?_)
          refine AOps.move rfl rfl ?_
          refine AOps.nil ?_
          refine thn_normal ?_
          refine AWP.block ?_
          obtain ⟨oo, ho2, h⟩ := bind_some h
          refine AWP.rngS ho2 (fun t11 (c9, sv10) => ⟨[(1, .c (row 1 eLi64 goals)), (2, .c (row 1 eLi64 plans)), (4, .c (.ptr 0 0 0)), (9, .c (.ptr 1 0 0)), (13, .c (.own 2 0 c9.length)), (14, .c (row 1 intI sv10)), (51, .c (row 1 intI turns)), (52, .c (int (turns.length : Int))), (53, .c (int t11))], [.one (.cells 4 [[int t.facts, row 1 intI t.init, row 1 intI t.goal, row 4 eTOperator t.operators]]), .one (.cells 2 [[int 0, int 0]]), .one (vec 1 intI c9)]⟩) (fun o e st => match o with | .inl (c9, sv10) => e = .exit 2 ∧ Sub [] st ⟨[(1, .c (row 1 eLi64 goals)), (2, .c (row 1 eLi64 plans)), (9, .c (.ptr 1 0 0)), (13, .c (.own 2 0 c9.length)), (14, .c (row 1 intI sv10))], [.one (.cells 4 [[int t.facts, row 1 intI t.init, row 1 intI t.goal, row 4 eTOperator t.operators]]), .one (.cells 2 [[int 0, int 0]]), .one (vec 1 intI c9)]⟩ | .inr x => e = .ret ∧ Done [.t 8, .cell 9 28 2] (fun t _ => t = .tup [.c (bool x.1), .agg [int x.2.code, int x.2.index]]) .ret st) ?_ ?_ ?_ ?_
          · try dsimp only
            exact Sub.env ⟨rfl, rfl, rfl, rfl, rfl, rfl, rfl, rfl, rfl, trivial⟩
          · intro t11 s hlot11 hltt11 _
            obtain ⟨c9, sv10⟩ := s
            try dsimp only
            refine AWP.seq ?_
            refine AWP.region ?_
            refine AOps.lss rfl rfl rfl ?_
            refine AOps.nil ?_
            refine thn_normal ?_
            refine AWP.seq ?_
            refine AWP.condNP rfl hltt11 ?_
            refine AWP.exit ?_
            refine thn_exit ?_
            refine thn_exit ⟨rfl, ?_⟩
            exact Sub.env ⟨rfl, rfl, rfl, rfl, rfl, trivial⟩
          · intro t11 s o hlot11 hltt11 h
            obtain ⟨c9, sv10⟩ := s
            unfold merging_Check_l2 at h
            try dsimp only at h ⊢
            refine AWP.seq ?_
            refine AWP.region ?_
            refine AOps.lss rfl rfl rfl ?_
            refine AOps.nil ?_
            refine thn_normal ?_
            refine AWP.seq ?_
            refine AWP.condP rfl hltt11 ?_
            refine AWP.skip ?_
            refine thn_normal ?_
            refine AWP.seq ?_
            refine AWP.block ?_
            refine AWP.seq ?_
            obtain ⟨a55, ha55, h⟩ := bind_some h
            refine AWP.region ?_
            refine S.idx ha55 rfl rfl rfl rfl ?_
            refine AOps.loadI rfl rfl rfl rfl ?_
            refine AOps.assign rfl rfl ?_
            refine AOps.nil ?_
            refine thn_normal ?_
            refine AWP.seq ?_
            obtain ⟨t12, hx13, h⟩ := bind_some h
            refine AWP.seqJ (⟨[(1, .c (row 1 eLi64 goals)), (2, .c (row 1 eLi64 plans)), (4, .c (.ptr 0 0 0)), (9, .c (.ptr 1 0 0)), (13, .c (.own 2 0 c9.length)), (14, .c (row 1 intI sv10)), (16, .c (int a55)), (51, .c (row 1 intI turns)), (52, .c (int (turns.length : Int))), (53, .c (int t11)), (82, .c (bool t12))], [.one (.cells 4 [[int t.facts, row 1 intI t.init, row 1 intI t.goal, row 4 eTOperator t.operators]]), .one (.cells 2 [[int 0, int 0]]), .one (vec 1 intI c9)]⟩) ?_ ?_
            · obtain ⟨a59, ha59, hx13⟩ := bind_some hx13
              obtain ⟨a63, ha63, hx13⟩ := bind_some hx13
              rcases Bool.eq_false_or_eq_true (decide (a59 = (a63.length : Int))) with hb14 | hb14
              · replace hx13 := iteDT hb14 hx13
                refine AWP.drawI mixed rfl ?_
                apply DrawSeq.consF; exact rfl; intro E
                refine AOps.move rfl rfl ?_
                exact AOps.nil ⟨rfl, rfl⟩
                exact rfl
                apply DrawSeq.consF; exact rfl; intro E
                refine AOps.move rfl rfl ?_
                exact AOps.nil ⟨rfl, rfl⟩
                exact rfl
                apply DrawSeq.consF; exact rfl; intro E
                refine S.idxO ha59 rfl rfl rfl rfl rfl ?_
                exact AOps.nil ⟨rfl, rfl⟩
                exact rfl
                apply DrawSeq.consF; exact rfl; intro E
                refine S.loadO ha59 rfl rfl rfl rfl rfl ?_
                exact AOps.nil ⟨rfl, rfl⟩
                exact rfl
                apply DrawSeq.consF; exact rfl; intro E
                refine AOps.move rfl rfl ?_
                exact AOps.nil ⟨rfl, rfl⟩
                exact rfl
                apply DrawSeq.consF; exact rfl; intro E
                refine AOps.move rfl rfl ?_
                exact AOps.nil ⟨rfl, rfl⟩
                exact rfl
                apply DrawSeq.consF; exact rfl; intro E
                refine S.idx ha63 rfl rfl rfl rfl ?_
                exact AOps.nil ⟨rfl, rfl⟩
                exact rfl
                apply DrawSeq.consF; exact rfl; intro E
                refine AOps.loadI rfl rfl rfl rfl ?_
                exact AOps.nil ⟨rfl, rfl⟩
                exact rfl
                apply DrawSeq.consF; exact rfl; intro E
                refine S.len rfl rfl (fun hl65 => ?_)
                exact AOps.nil ⟨rfl, rfl⟩
                exact rfl
                apply DrawSeq.consF; exact rfl; intro E
                refine AOps.eql rfl rfl rfl ?_
                exact AOps.nil ⟨rfl, rfl⟩
                exact rfl
                apply DrawSeq.consF; exact rfl; intro E
                refine AOps.move rfl rfl ?_
                exact AOps.nil ⟨rfl, rfl⟩
                exact rfl
                apply DrawSeq.consF; exact rfl; intro E
                refine AOps.guardF rfl rfl rfl hb14 ?_
                exact AOps.nil ⟨rfl, rfl⟩
                exact rfl
                apply DrawSeq.consF; exact rfl; intro E
                refine AOps.guardF rfl rfl rfl hb14 ?_
                exact AOps.nil ⟨rfl, rfl⟩
                exact rfl
                apply DrawSeq.consF; exact rfl; intro E
                refine AOps.guardF rfl rfl rfl hb14 ?_
                exact AOps.nil ⟨rfl, rfl⟩
                exact rfl
                apply DrawSeq.consF; exact rfl; intro E
                refine AOps.guardF rfl rfl rfl hb14 ?_
                exact AOps.nil ⟨rfl, rfl⟩
                exact rfl
                apply DrawSeq.consF; exact rfl; intro E
                refine AOps.guardF rfl rfl rfl hb14 ?_
                exact AOps.nil ⟨rfl, rfl⟩
                exact rfl
                apply DrawSeq.consF; exact rfl; intro E
                refine AOps.guardF rfl rfl rfl hb14 ?_
                exact AOps.nil ⟨rfl, rfl⟩
                exact rfl
                apply DrawSeq.consF; exact rfl; intro E
                refine AOps.guardF rfl rfl rfl hb14 ?_
                exact AOps.nil ⟨rfl, rfl⟩
                exact rfl
                apply DrawSeq.consF; exact rfl; intro E
                refine AOps.guardF rfl rfl rfl hb14 ?_
                exact AOps.nil ⟨rfl, rfl⟩
                exact rfl
                apply DrawSeq.consF; exact rfl; intro E
                refine AOps.guardF rfl rfl rfl hb14 ?_
                exact AOps.nil ⟨rfl, rfl⟩
                exact rfl
                apply DrawSeq.consF; exact rfl; intro E
                refine AOps.guardF rfl rfl rfl hb14 ?_
                exact AOps.nil ⟨rfl, rfl⟩
                exact rfl
                apply DrawSeq.consF; exact rfl; intro E
                refine AOps.guardF rfl rfl rfl hb14 ?_
                exact AOps.nil ⟨rfl, rfl⟩
                exact rfl
                apply DrawSeq.consF; exact rfl; intro E
                refine AOps.guardF rfl rfl rfl hb14 ?_
                exact AOps.nil ⟨rfl, rfl⟩
                exact rfl
                apply DrawSeq.consF; exact rfl; intro E
                refine AOps.guardF rfl rfl rfl hb14 ?_
                exact AOps.nil ⟨rfl, rfl⟩
                exact rfl
                apply DrawSeq.consF; exact rfl; intro E
                refine AOps.guardF rfl rfl rfl hb14 ?_
                exact AOps.nil ⟨rfl, rfl⟩
                exact rfl
                apply DrawSeq.consF; exact rfl; intro E
                refine AOps.pickT rfl hb14 rfl rfl ?_
                exact AOps.nil ⟨rfl, rfl⟩
                exact rfl
                refine DrawSeq.done ?_
                dsimp only [envEnd]
                have ej := Option.some.inj hx13
                subst ej
                refine thn_normal ?_
                exact Sub.env ⟨rfl, rfl, rfl, rfl, rfl, rfl, rfl, rfl, rfl, rfl, rfl, trivial⟩
              · replace hx13 := iteDF hb14 hx13
                obtain ⟨a72, ha72, hx13⟩ := bind_some hx13
                obtain ⟨a76, ha76, hx13⟩ := bind_some hx13
                obtain ⟨a78, ha78, hx13⟩ := bind_some hx13
                obtain ⟨a80, ha80, hx13⟩ := bind_some hx13
                refine AWP.drawI mixed rfl ?_
                apply DrawSeq.consF; exact rfl; intro E
                refine AOps.move rfl rfl ?_
                exact AOps.nil ⟨rfl, rfl⟩
                exact rfl
                apply DrawSeq.consF; exact rfl; intro E
                refine AOps.move rfl rfl ?_
                exact AOps.nil ⟨rfl, rfl⟩
                exact rfl
                apply DrawSeq.consF; exact rfl; intro E
                refine S.idxO ha59 rfl rfl rfl rfl rfl ?_
                exact AOps.nil ⟨rfl, rfl⟩
                exact rfl
                apply DrawSeq.consF; exact rfl; intro E
                refine S.loadO ha59 rfl rfl rfl rfl rfl ?_
                exact AOps.nil ⟨rfl, rfl⟩
                exact rfl
                apply DrawSeq.consF; exact rfl; intro E
                refine AOps.move rfl rfl ?_
                exact AOps.nil ⟨rfl, rfl⟩
                exact rfl
                apply DrawSeq.consF; exact rfl; intro E
                refine AOps.move rfl rfl ?_
                exact AOps.nil ⟨rfl, rfl⟩
                exact rfl
                apply DrawSeq.consF; exact rfl; intro E
                refine S.idx ha63 rfl rfl rfl rfl ?_
                exact AOps.nil ⟨rfl, rfl⟩
                exact rfl
                apply DrawSeq.consF; exact rfl; intro E
                refine AOps.loadI rfl rfl rfl rfl ?_
                exact AOps.nil ⟨rfl, rfl⟩
                exact rfl
                apply DrawSeq.consF; exact rfl; intro E
                refine S.len rfl rfl (fun hl65 => ?_)
                exact AOps.nil ⟨rfl, rfl⟩
                exact rfl
                apply DrawSeq.consF; exact rfl; intro E
                refine AOps.eql rfl rfl rfl ?_
                exact AOps.nil ⟨rfl, rfl⟩
                exact rfl
                apply DrawSeq.consF; exact rfl; intro E
                refine AOps.move rfl rfl ?_
                exact AOps.nil ⟨rfl, rfl⟩
                exact rfl
                apply DrawSeq.consF; exact rfl; intro E
                refine AOps.guardT rfl rfl rfl hb14 ?_; refine W.loadAgg rfl rfl rfl rfl rfl rfl rfl ?_
                exact AOps.nil ⟨rfl, rfl⟩
                exact rfl
                apply DrawSeq.consF; exact rfl; intro E
                refine AOps.guardT rfl rfl rfl hb14 ?_; refine AOps.move rfl rfl ?_
                exact AOps.nil ⟨rfl, rfl⟩
                exact rfl
                apply DrawSeq.consF; exact rfl; intro E
                refine AOps.guardT rfl rfl rfl hb14 ?_; refine AOps.move rfl rfl ?_
                exact AOps.nil ⟨rfl, rfl⟩
                exact rfl
                apply DrawSeq.consF; exact rfl; intro E
                refine AOps.guardT rfl rfl rfl hb14 ?_; refine AOps.move rfl rfl ?_
                exact AOps.nil ⟨rfl, rfl⟩
                exact rfl
                apply DrawSeq.consF; exact rfl; intro E
                refine AOps.guardT rfl rfl rfl hb14 ?_; refine S.idx ha72 rfl rfl rfl rfl ?_
                exact AOps.nil ⟨rfl, rfl⟩
                exact rfl
                apply DrawSeq.consF; exact rfl; intro E
                refine AOps.guardT rfl rfl rfl hb14 ?_; refine AOps.loadI rfl rfl rfl rfl ?_
                exact AOps.nil ⟨rfl, rfl⟩
                exact rfl
                apply DrawSeq.consF; exact rfl; intro E
                refine AOps.guardT rfl rfl rfl hb14 ?_; refine AOps.move rfl rfl ?_
                exact AOps.nil ⟨rfl, rfl⟩
                exact rfl
                apply DrawSeq.consF; exact rfl; intro E
                refine AOps.guardT rfl rfl rfl hb14 ?_; refine AOps.move rfl rfl ?_
                exact AOps.nil ⟨rfl, rfl⟩
                exact rfl
                apply DrawSeq.consF; exact rfl; intro E
                refine AOps.guardT rfl rfl rfl hb14 ?_; refine S.idxO ha76 rfl rfl rfl rfl rfl ?_
                exact AOps.nil ⟨rfl, rfl⟩
                exact rfl
                apply DrawSeq.consF; exact rfl; intro E
                refine AOps.guardT rfl rfl rfl hb14 ?_; refine S.loadO ha76 rfl rfl rfl rfl rfl ?_
                exact AOps.nil ⟨rfl, rfl⟩
                exact rfl
                apply DrawSeq.consF; exact rfl; intro E
                refine AOps.guardT rfl rfl rfl hb14 ?_; refine S.idx ha78 rfl rfl rfl rfl ?_
                exact AOps.nil ⟨rfl, rfl⟩
                exact rfl
                apply DrawSeq.consF; exact rfl; intro E
                refine AOps.guardT rfl rfl rfl hb14 ?_; refine AOps.loadI rfl rfl rfl rfl ?_
                exact AOps.nil ⟨rfl, rfl⟩
                exact rfl
                apply DrawSeq.consF; exact rfl; intro E
                refine AOps.guardT rfl rfl rfl hb14 ?_; refine AOps.callR rfl rfl rfl rfl (strips_Can_ok ha80) rfl ?_
                exact AOps.nil ⟨rfl, rfl⟩
                exact rfl
                apply DrawSeq.consF; exact rfl; intro E
                refine AOps.guardT rfl rfl rfl hb14 ?_; refine AOps.not rfl rfl ?_
                exact AOps.nil ⟨rfl, rfl⟩
                exact rfl
                apply DrawSeq.consF; exact rfl; intro E
                refine AOps.pickF rfl hb14 rfl rfl ?_
                exact AOps.nil ⟨rfl, rfl⟩
                exact rfl
                refine DrawSeq.done ?_
                dsimp only [envEnd]
                have ej := Option.some.inj hx13
                subst ej
                refine thn_normal ?_
                exact Sub.env ⟨rfl, rfl, rfl, rfl, rfl, rfl, rfl, rfl, rfl, rfl, rfl, trivial⟩
            · refine AWP.iteB rfl h (fun hc15 h => ?_) (fun hc15 h => ?_)
              · refine AWP.seq ?_
                refine AWP.region ?_
                refine W.build rfl rfl rfl rfl ?_
                refine AOps.assign rfl rfl ?_
                refine W.storeAgg rfl rfl rfl rfl rfl rfl rfl ?_
                refine AOps.nil ?_
                refine thn_normal ?_
                refine AWP.ret ?_
                refine thn_ret ?_
                refine inB_ret ?_
                refine thn_ret ?_
                have ej := Option.some.inj h
                subst ej
                refine thn_ret ⟨_, rfl, rfl, ?_⟩
                exact Done.ret rfl rfl
              · refine AWP.skip ?_
                refine thn_normal ?_
                refine AWP.seq ?_
                obtain ⟨a88, ha88, h⟩ := bind_some h
                obtain ⟨a92, ha92, h⟩ := bind_some h
                obtain ⟨a94, ha94, h⟩ := bind_some h
                obtain ⟨a96, ha96, h⟩ := bind_some h
                refine AWP.drawEI [12] mixed rfl rfl rfl ?_
                apply DrawSeqE.consN; exact rfl; exact rfl; intro E
                refine W.loadAgg rfl rfl rfl rfl rfl rfl rfl ?_
                exact AOps.nil ⟨rfl, rfl⟩
                exact rfl
                apply DrawSeqE.consN; exact rfl; exact rfl; intro E
                refine AOps.move rfl rfl ?_
                exact AOps.nil ⟨rfl, rfl⟩
                exact rfl
                apply DrawSeqE.consN; exact rfl; exact rfl; intro E
                refine AOps.move rfl rfl ?_
                exact AOps.nil ⟨rfl, rfl⟩
                exact rfl
                apply DrawSeqE.consN; exact rfl; exact rfl; intro E
                refine AOps.move rfl rfl ?_
                exact AOps.nil ⟨rfl, rfl⟩
                exact rfl
                apply DrawSeqE.consN; exact rfl; exact rfl; intro E
                refine S.idx ha88 rfl rfl rfl rfl ?_
                exact AOps.nil ⟨rfl, rfl⟩
                exact rfl
                apply DrawSeqE.consN; exact rfl; exact rfl; intro E
                refine AOps.loadI rfl rfl rfl rfl ?_
                exact AOps.nil ⟨rfl, rfl⟩
                exact rfl
                apply DrawSeqE.consN; exact rfl; exact rfl; intro E
                refine AOps.move rfl rfl ?_
                exact AOps.nil ⟨rfl, rfl⟩
                exact rfl
                apply DrawSeqE.consN; exact rfl; exact rfl; intro E
                refine AOps.move rfl rfl ?_
                exact AOps.nil ⟨rfl, rfl⟩
                exact rfl
                apply DrawSeqE.consN; exact rfl; exact rfl; intro E
                refine S.idxO ha92 rfl rfl rfl rfl rfl ?_
                exact AOps.nil ⟨rfl, rfl⟩
                exact rfl
                apply DrawSeqE.consN; exact rfl; exact rfl; intro E
                refine S.loadO ha92 rfl rfl rfl rfl rfl ?_
                exact AOps.nil ⟨rfl, rfl⟩
                exact rfl
                apply DrawSeqE.consN; exact rfl; exact rfl; intro E
                refine S.idx ha94 rfl rfl rfl rfl ?_
                exact AOps.nil ⟨rfl, rfl⟩
                exact rfl
                apply DrawSeqE.consN; exact rfl; exact rfl; intro E
                refine AOps.loadI rfl rfl rfl rfl ?_
                exact AOps.nil ⟨rfl, rfl⟩
                exact rfl
                apply DrawSeqE.consE; exact rfl; exact rfl; intro E
                refine S.fresh rfl rfl rfl rfl (strips_Next_ok ha96) rfl rfl ?_
                exact AOps.nil ⟨rfl, rfl⟩
                exact rfl
                exact rfl
                apply DrawSeqE.consN; exact rfl; exact rfl; intro E
                refine AOps.assign rfl rfl ?_
                exact AOps.nil ⟨rfl, rfl⟩
                exact rfl
                refine DrawSeqE.done rfl ?_ ?_
                · apply RestI.cons; exact rfl; exact rfl
                  first | refine RestK.skip rfl ?_ | (apply RestK.go; exact rfl; exact rfl; intro E; (refine W.loadAgg rfl rfl rfl rfl rfl rfl rfl ?_); exact AOps.nil ⟨rfl, rfl⟩)
                  first | refine RestK.skip rfl ?_ | (apply RestK.go; exact rfl; exact rfl; intro E; (refine W.loadAgg rfl rfl rfl rfl rfl rfl rfl ?_); exact AOps.nil ⟨rfl, rfl⟩)
                  exact RestK.nil
                  apply RestI.cons; exact rfl; exact rfl
                  first | refine RestK.skip rfl ?_ | (apply RestK.go; exact rfl; exact rfl; intro E; (refine AOps.move rfl rfl ?_); exact AOps.nil ⟨rfl, rfl⟩)
                  first | refine RestK.skip rfl ?_ | (apply RestK.go; exact rfl; exact rfl; intro E; (refine AOps.move rfl rfl ?_); exact AOps.nil ⟨rfl, rfl⟩)
                  exact RestK.nil
                  apply RestI.cons; exact rfl; exact rfl
                  first | refine RestK.skip rfl ?_ | (apply RestK.go; exact rfl; exact rfl; intro E; (refine AOps.move rfl rfl ?_); exact AOps.nil ⟨rfl, rfl⟩)
                  first | refine RestK.skip rfl ?_ | (apply RestK.go; exact rfl; exact rfl; intro E; (refine AOps.move rfl rfl ?_); exact AOps.nil ⟨rfl, rfl⟩)
                  exact RestK.nil
                  apply RestI.cons; exact rfl; exact rfl
                  first | refine RestK.skip rfl ?_ | (apply RestK.go; exact rfl; exact rfl; intro E; (refine AOps.move rfl rfl ?_); exact AOps.nil ⟨rfl, rfl⟩)
                  first | refine RestK.skip rfl ?_ | (apply RestK.go; exact rfl; exact rfl; intro E; (refine AOps.move rfl rfl ?_); exact AOps.nil ⟨rfl, rfl⟩)
                  exact RestK.nil
                  apply RestI.cons; exact rfl; exact rfl
                  first | refine RestK.skip rfl ?_ | (apply RestK.go; exact rfl; exact rfl; intro E; (refine S.idx ha88 rfl rfl rfl rfl ?_); exact AOps.nil ⟨rfl, rfl⟩)
                  first | refine RestK.skip rfl ?_ | (apply RestK.go; exact rfl; exact rfl; intro E; (refine S.idx ha88 rfl rfl rfl rfl ?_); exact AOps.nil ⟨rfl, rfl⟩)
                  exact RestK.nil
                  apply RestI.cons; exact rfl; exact rfl
                  first | refine RestK.skip rfl ?_ | (apply RestK.go; exact rfl; exact rfl; intro E; (refine AOps.loadI rfl rfl rfl rfl ?_); exact AOps.nil ⟨rfl, rfl⟩)
                  first | refine RestK.skip rfl ?_ | (apply RestK.go; exact rfl; exact rfl; intro E; (refine AOps.loadI rfl rfl rfl rfl ?_); exact AOps.nil ⟨rfl, rfl⟩)
                  exact RestK.nil
                  apply RestI.cons; exact rfl; exact rfl
                  first | refine RestK.skip rfl ?_ | (apply RestK.go; exact rfl; exact rfl; intro E; (refine AOps.move rfl rfl ?_); exact AOps.nil ⟨rfl, rfl⟩)
                  first | refine RestK.skip rfl ?_ | (apply RestK.go; exact rfl; exact rfl; intro E; (refine AOps.move rfl rfl ?_); exact AOps.nil ⟨rfl, rfl⟩)
                  exact RestK.nil
                  apply RestI.cons; exact rfl; exact rfl
                  first | refine RestK.skip rfl ?_ | (apply RestK.go; exact rfl; exact rfl; intro E; (refine AOps.move rfl rfl ?_); exact AOps.nil ⟨rfl, rfl⟩)
                  first | refine RestK.skip rfl ?_ | (apply RestK.go; exact rfl; exact rfl; intro E; (refine AOps.move rfl rfl ?_); exact AOps.nil ⟨rfl, rfl⟩)
                  exact RestK.nil
                  apply RestI.cons; exact rfl; exact rfl
                  first | refine RestK.skip rfl ?_ | (apply RestK.go; exact rfl; exact rfl; intro E; (refine S.idxO ha92 rfl rfl rfl rfl rfl ?_); exact AOps.nil ⟨rfl, rfl⟩)
                  first | refine RestK.skip rfl ?_ | (apply RestK.go; exact rfl; exact rfl; intro E; (refine S.idxO ha92 rfl rfl rfl rfl rfl ?_); exact AOps.nil ⟨rfl, rfl⟩)
                  exact RestK.nil
                  apply RestI.cons; exact rfl; exact rfl
                  first | refine RestK.skip rfl ?_ | (apply RestK.go; exact rfl; exact rfl; intro E; (refine S.loadO ha92 rfl rfl rfl rfl rfl ?_); exact AOps.nil ⟨rfl, rfl⟩)
                  first | refine RestK.skip rfl ?_ | (apply RestK.go; exact rfl; exact rfl; intro E; (refine S.loadO ha92 rfl rfl rfl rfl rfl ?_); exact AOps.nil ⟨rfl, rfl⟩)
                  exact RestK.nil
                  apply RestI.cons; exact rfl; exact rfl
                  first | refine RestK.skip rfl ?_ | (apply RestK.go; exact rfl; exact rfl; intro E; (refine S.idx ha94 rfl rfl rfl rfl ?_); exact AOps.nil ⟨rfl, rfl⟩)
                  first | refine RestK.skip rfl ?_ | (apply RestK.go; exact rfl; exact rfl; intro E; (refine S.idx ha94 rfl rfl rfl rfl ?_); exact AOps.nil ⟨rfl, rfl⟩)
                  exact RestK.nil
                  apply RestI.cons; exact rfl; exact rfl
                  first | refine RestK.skip rfl ?_ | (apply RestK.go; exact rfl; exact rfl; intro E; (refine AOps.loadI rfl rfl rfl rfl ?_); exact AOps.nil ⟨rfl, rfl⟩)
                  first | refine RestK.skip rfl ?_ | (apply RestK.go; exact rfl; exact rfl; intro E; (refine AOps.loadI rfl rfl rfl rfl ?_); exact AOps.nil ⟨rfl, rfl⟩)
                  exact RestK.nil
                  refine RestI.skip rfl ?_
                  apply RestI.cons; exact rfl; exact rfl
                  first | refine RestK.skip rfl ?_ | (apply RestK.go; exact rfl; exact rfl; intro E; (refine AOps.assign rfl rfl ?_); exact AOps.nil ⟨rfl, rfl⟩)
                  first | refine RestK.skip rfl ?_ | (apply RestK.go; exact rfl; exact rfl; intro E; (refine AOps.assign rfl rfl ?_); exact AOps.nil ⟨rfl, rfl⟩)
                  exact RestK.nil
                  exact RestI.nil
                dsimp only [envEnd]
                refine thn_normal ?_
                obtain ⟨a99, ha99, h⟩ := bind_some h
                obtain ⟨a102, ha102, h⟩ := bind_some h
                refine AWP.region ?_
                refine AOps.move rfl rfl ?_
                refine AOps.move rfl rfl ?_
                refine S.idxO ha99 rfl rfl rfl rfl rfl ?_
                refine S.loadO ha99 rfl rfl rfl rfl rfl ?_
                refine S.add rfl rfl rfl ?_
                refine S.idxO ha102 rfl rfl rfl rfl rfl ?_
                refine S.storeO1 (f := intI) (a' := w64 (a99 + 1)) (ix_lt ha102) (fun _ => ⟨_, rfl⟩) rfl rfl rfl rfl rfl ?_
                refine AOps.nil ?_
                refine inB_normal ?_
                refine thn_normal ?_
                refine AWP.region ?_
                refine AOps.add rfl rfl rfl (by omega) ?_
                refine AOps.move rfl rfl ?_
                refine AOps.nil ?_
                have ej := Option.some.inj h
                subst ej
                refine thn_normal ⟨_, rfl, ?_⟩
                exact (Sub.frzV (id := 3) (l := a96) (env2 := [(1, .c (row 1 eLi64 goals)), (2, .c (row 1 eLi64 plans)), (4, .c (.ptr 0 0 0)), (9, .c (.ptr 1 0 0)), (13, .c (.own 2 0 c9.length)), (14, .c (row 1 intI a96)), (51, .c (row 1 intI turns)), (52, .c (int (turns.length : Int))), (53, .c (int (t11 + 1)))]) (σ2 := [.one (.cells 4 [[int t.facts, row 1 intI t.init, row 1 intI t.goal, row 4 eTOperator t.operators]]), .one (.cells 2 [[int 0, int 0]]), .one (vec 1 intI (c9.set a55.toNat (w64 (a99 + 1)))), .dead]) rfl rfl (by exact ⟨⟨_, rfl, .inl ⟨rfl, rfl⟩⟩, ⟨_, rfl, .inl ⟨rfl, rfl⟩⟩, ⟨_, rfl, .inl ⟨rfl, rfl⟩⟩, ⟨_, rfl, .inl ⟨rfl, rfl⟩⟩, ⟨_, rfl, .inl ⟨rfl, rfl⟩⟩, ⟨_, rfl, .inr ⟨_, rfl, rfl, rfl⟩⟩, ⟨_, rfl, .inl ⟨rfl, rfl⟩⟩, ⟨_, rfl, .inl ⟨rfl, rfl⟩⟩, ⟨_, rfl, .inl ⟨rfl, rfl⟩⟩, trivial⟩) rfl (by exact ⟨⟨rfl, .inl ⟨rfl, rfl⟩, .inl ⟨rfl, rfl⟩, .inl ⟨rfl, rfl⟩, .inl ⟨rfl, rfl⟩, trivial⟩, ⟨rfl, .inl ⟨rfl, rfl⟩, .inl ⟨rfl, rfl⟩, trivial⟩, FrzB.vec, trivial, trivial⟩)).trans (Sub.cut ⟨rfl, rfl, rfl, rfl, (own_len (by first | rfl | simp only [List.length_set])), rfl, rfl, rfl, rfl, trivial⟩ rfl ⟨.one rfl, .one rfl, .vec, trivial⟩ rfl)
          · intro e s hq
            rcases oo with ⟨c9, sv10⟩ | x
            · try dsimp only at h hq
              obtain ⟨rfl, hs⟩ := hq
              refine ⟨_, hs, ?_⟩
              refine inB_exit ?_
              refine thn_normal ?_
              refine AWP.seq ?_
              refine AWP.seq ?_
              refine AWP.region ?_
              refine AOps.move rfl rfl ?_
              refine S.len rfl rfl (fun hl105 => ?_)
              refine AOps.move rfl rfl ?_
              refine AOps.nil ?_
              refine thn_normal ?_
              refine AWP.block ?_
              obtain ⟨oo, ho3, h⟩ := bind_some h
              refine AWP.rngS ho3 (fun t16 _ => ⟨[(1, .c (row 1 eLi64 goals)), (2, .c (row 1 eLi64 plans)), (9, .c (.ptr 1 0 0)), (13, .c (.own 2 0 c9.length)), (14, .c (row 1 intI sv10)), (105, .c (int (plans.length : Int))), (106, .c (int t16))], [.dead, .one (.cells 2 [[int 0, int 0]]), .one (vec 1 intI c9)]⟩) (fun o e st => match o with | .inl _ => e = .exit 4 ∧ Sub [] st ⟨[(1, .c (row 1 eLi64 goals)), (9, .c (.ptr 1 0 0)), (14, .c (row 1 intI sv10))], [.dead, .one (.cells 2 [[int 0, int 0]]), .one (vec 1 intI c9)]⟩ | .inr x => e = .ret ∧ Done [.t 8, .cell 9 28 2] (fun t _ => t = .tup [.c (bool x.1), .agg [int x.2.code, int x.2.index]]) .ret st) ?_ ?_ ?_ ?_
              · try dsimp only
                exact Sub.cut ⟨rfl, rfl, rfl, rfl, rfl, rfl, rfl, trivial⟩ rfl ⟨.dead, .one rfl, .vec, trivial⟩ rfl
              · intro t16 s hlot16 hltt16 _
                try dsimp only
                refine AWP.seq ?_
                refine AWP.region ?_
                refine AOps.lss rfl rfl rfl ?_
                refine AOps.nil ?_
                refine thn_normal ?_
                refine AWP.seq ?_
                refine AWP.condNP rfl hltt16 ?_
                refine AWP.exit ?_
                refine thn_exit ?_
                refine thn_exit ⟨rfl, ?_⟩
                exact Sub.env ⟨rfl, rfl, rfl, trivial⟩
              · intro t16 s o hlot16 hltt16 h
                unfold merging_Check_l3 at h
                try dsimp only at h ⊢
                refine AWP.seq ?_
                refine AWP.region ?_
                refine AOps.lss rfl rfl rfl ?_
                refine AOps.nil ?_
                refine thn_normal ?_
                refine AWP.seq ?_
                refine AWP.condP rfl hltt16 ?_
                refine AWP.skip ?_
                refine thn_normal ?_
                refine AWP.seq ?_
                refine AWP.block ?_
                refine AWP.seq ?_
                refine AWP.region ?_
                refine AOps.move rfl rfl ?_
                refine AOps.assign rfl rfl ?_
                refine AOps.nil ?_
                refine thn_normal ?_
                refine AWP.seq ?_
                obtain ⟨a111, ha111, h⟩ := bind_some h
                obtain ⟨a115, ha115, h⟩ := bind_some h
                refine AWP.drawI mixed rfl ?_
                apply DrawSeq.consF; exact rfl; intro E
                refine AOps.move rfl rfl ?_
                exact AOps.nil ⟨rfl, rfl⟩
                exact rfl
                apply DrawSeq.consF; exact rfl; intro E
                refine AOps.move rfl rfl ?_
                exact AOps.nil ⟨rfl, rfl⟩
                exact rfl
                apply DrawSeq.consF; exact rfl; intro E
                refine S.idxO ha111 rfl rfl rfl rfl rfl ?_
                exact AOps.nil ⟨rfl, rfl⟩
                exact rfl
                apply DrawSeq.consF; exact rfl; intro E
                refine S.loadO ha111 rfl rfl rfl rfl rfl ?_
                exact AOps.nil ⟨rfl, rfl⟩
                exact rfl
                apply DrawSeq.consF; exact rfl; intro E
                refine AOps.move rfl rfl ?_
                exact AOps.nil ⟨rfl, rfl⟩
                exact rfl
                apply DrawSeq.consF; exact rfl; intro E
                refine AOps.move rfl rfl ?_
                exact AOps.nil ⟨rfl, rfl⟩
                exact rfl
                apply DrawSeq.consF; exact rfl; intro E
                refine S.idx ha115 rfl rfl rfl rfl ?_
                exact AOps.nil ⟨rfl, rfl⟩
                exact rfl
                apply DrawSeq.consF; exact rfl; intro E
                refine AOps.loadI rfl rfl rfl rfl ?_
                exact AOps.nil ⟨rfl, rfl⟩
                exact rfl
                apply DrawSeq.consF; exact rfl; intro E
                refine S.len rfl rfl (fun hl117 => ?_)
                exact AOps.nil ⟨rfl, rfl⟩
                exact rfl
                apply DrawSeq.consF; exact rfl; intro E
                refine AOps.lss rfl rfl rfl ?_
                exact AOps.nil ⟨rfl, rfl⟩
                exact rfl
                refine DrawSeq.done ?_
                dsimp only [envEnd]
                refine thn_normal ?_
                refine AWP.ite rfl h (fun hc17 h => ?_) (fun hc17 h => ?_)
                · refine AWP.seq ?_
                  refine AWP.region ?_
                  refine W.build rfl rfl rfl rfl ?_
                  refine AOps.assign rfl rfl ?_
                  refine W.storeAgg rfl rfl rfl rfl rfl rfl rfl ?_
                  refine AOps.nil ?_
                  refine thn_normal ?_
                  refine AWP.ret ?_
                  refine inB_ret ?_
                  refine thn_ret ?_
                  have ej := Option.some.inj h
                  subst ej
                  refine thn_ret ⟨_, rfl, rfl, ?_⟩
                  exact Done.ret rfl rfl
                · refine AWP.skip ?_
                  refine inB_normal ?_
                  refine thn_normal ?_
                  refine AWP.region ?_
                  refine AOps.add rfl rfl rfl (by omega) ?_
                  refine AOps.move rfl rfl ?_
                  refine AOps.nil ?_
                  have ej := Option.some.inj h
                  subst ej
                  refine thn_normal ⟨_, rfl, ?_⟩
                  exact Sub.env ⟨rfl, rfl, rfl, rfl, rfl, rfl, rfl, trivial⟩
              · intro e s hq
                rcases oo with u | x
                · try dsimp only at h hq
                  obtain ⟨rfl, hs⟩ := hq
                  refine ⟨_, hs, ?_⟩
                  refine inB_exit ?_
                  refine thn_normal ?_
                  refine AWP.seq ?_
                  obtain ⟨a123, ha123, h⟩ := bind_some h
                  obtain ⟨a124, ha124, h⟩ := bind_some h
                  refine AWP.region ?_
                  refine AOps.move rfl rfl ?_
                  refine AOps.move rfl rfl ?_
                  refine S.fresh rfl rfl rfl rfl (merging_union_ok ha123) rfl rfl ?_
                  refine AOps.callL rfl rfl (.cons (.c .imm) (.cons (.c (.own rfl rfl)) .nil)) rfl (strips_Contains_ok ha124) rfl ?_
                  refine W.build rfl rfl rfl rfl ?_
                  refine AOps.assign rfl rfl ?_
                  refine W.storeAgg rfl rfl rfl rfl rfl rfl rfl ?_
                  refine AOps.nil ?_
                  refine thn_normal ?_
                  refine AWP.ret ?_
                  have ej := Option.some.inj h
                  subst ej
                  exact Done.ret rfl rfl
                · try dsimp only at h hq
                  obtain ⟨rfl, hs⟩ := hq
                  refine ⟨_, Sub.refl _ _, ?_⟩
                  refine inB_ret ?_
                  refine thn_ret ?_
                  have ej := Option.some.inj h
                  subst ej
                  exact hs
            · try dsimp only at h hq
              obtain ⟨rfl, hs⟩ := hq
              refine ⟨_, Sub.refl _ _, ?_⟩
              refine inB_ret ?_
              refine thn_ret ?_
              have ej := Option.some.inj h
              subst ej
              exact hs
        · try dsimp only at h hq
          obtain ⟨rfl, hs⟩ := hq
          refine ⟨_, Sub.refl _ _, ?_⟩
          refine inB_ret ?_
          refine thn_ret ?_
          have ej := Option.some.inj h
          subst ej
          exact hs
theorem equal_Numbers_ok {av : List Int} {bv : List Int} {r : Bool} (h : equal_Numbers av bv = some r) : PureOk Tryd.prog 13 [.c (row 1 intI av), .c (row 1 intI bv)] (.c (bool r)) := by
  unfold PureOk
  refine FnOk.enter (rs := [.t 4]) Tryd.func13 rfl Tryd.ntmps13 Tryd.results13 rfl ⟨trivial, trivial⟩ (by kernel_rfl) rfl ?_
  unfold equal_Numbers at h
  refine AWP.seq ?_
  refine AWP.region ?_
  refine AOps.assign rfl rfl ?_
  refine AOps.nil ?_
  refine thn_normal ?_
  refine AWP.seq ?_
  refine AWP.seq ?_
  refine AWP.region ?_
  refine AOps.move rfl rfl ?_
  refine S.len rfl rfl (fun hl7 => ?_)
  refine AOps.move rfl rfl ?_
  refine S.len rfl rfl (fun hl9 => ?_)
  refine AOps.neq rfl rfl rfl ?_
  refine AOps.nil ?_
  refine thn_normal ?_
  refine AWP.iteN rfl h (fun hc3 h => ?_) (fun hc3 h => ?_)
  · refine AWP.seq ?_
    refine AWP.region ?_
    refine AOps.assign rfl rfl ?_
    refine AOps.nil ?_
    refine thn_normal ?_
    refine AWP.ret ?_
    refine thn_ret ?_
    have ej := Option.some.inj h
    subst ej
    exact Done.ret rfl rfl
  · refine AWP.skip ?_
    refine thn_normal ?_
    refine AWP.seq ?_
    refine AWP.seq ?_
    refine AWP.region ?_
    refine AOps.assign rfl rfl ?_
    refine AOps.nil ?_
    refine thn_normal ?_
    refine AWP.block ?_
    obtain ⟨oo, ho1, h⟩ := bind_some h
    refine AWP.rngS ho1 (fun iv4 _ => ⟨[(0, .c (row 1 intI av)), (1, .c (row 1 intI bv)), (5, .c (int iv4))], []⟩) (fun o e st => match o with | .inl _ => e = .exit 0 ∧ Sub [] st ⟨[], []⟩ | .inr x => e = .ret ∧ Done [.t 4] (fun t _ => t = .c (bool x)) .ret st) ?_ ?_ ?_ ?_
    · try dsimp only
      exact Sub.env ⟨rfl, rfl, rfl, trivial⟩
    · intro iv4 s hloiv4 hltiv4 _
      try dsimp only
      refine AWP.seq ?_
      refine AWP.seq ?_
      refine AWP.region ?_
      refine AOps.move rfl rfl ?_
      refine AOps.move rfl rfl ?_
      refine S.len rfl rfl (fun hl13 => ?_)
      refine AOps.lss rfl rfl rfl ?_
      refine AOps.nil ?_
      refine thn_normal ?_
      refine AWP.condNP rfl hltiv4 ?_
      refine AWP.exit ?_
      refine thn_exit ?_
      refine thn_exit ⟨rfl, ?_⟩
      exact Sub.env trivial
    · intro iv4 s o hloiv4 hltiv4 h
      unfold equal_Numbers_l1 at h
      try dsimp only at h ⊢
      refine AWP.seq ?_
      refine AWP.seq ?_
      refine AWP.region ?_
      refine AOps.move rfl rfl ?_
      refine AOps.move rfl rfl ?_
      refine S.len rfl rfl (fun hl13 => ?_)
      refine AOps.lss rfl rfl rfl ?_
      refine AOps.nil ?_
      refine thn_normal ?_
      refine AWP.condP rfl hltiv4 ?_
      refine AWP.skip ?_
      refine thn_normal ?_
      refine AWP.seq ?_
      refine AWP.block ?_
      refine AWP.seq ?_
      obtain ⟨a19, ha19, h⟩ := bind_some h
      obtain ⟨a23, ha23, h⟩ := bind_some h
      refine AWP.drawI mixed rfl ?_
      apply DrawSeq.consF; exact rfl; intro E
      refine AOps.move rfl rfl ?_
      exact AOps.nil ⟨rfl, rfl⟩
      exact rfl
      apply DrawSeq.consF; exact rfl; intro E
      refine AOps.move rfl rfl ?_
      exact AOps.nil ⟨rfl, rfl⟩
      exact rfl
      apply DrawSeq.consF; exact rfl; intro E
      refine S.idx ha19 rfl rfl rfl rfl ?_
      exact AOps.nil ⟨rfl, rfl⟩
      exact rfl
      apply DrawSeq.consF; exact rfl; intro E
      refine AOps.loadI rfl rfl rfl rfl ?_
      exact AOps.nil ⟨rfl, rfl⟩
      exact rfl
      apply DrawSeq.consF; exact rfl; intro E
      refine AOps.move rfl rfl ?_
      exact AOps.nil ⟨rfl, rfl⟩
      exact rfl
      apply DrawSeq.consF; exact rfl; intro E
      refine AOps.move rfl rfl ?_
      exact AOps.nil ⟨rfl, rfl⟩
      exact rfl
      apply DrawSeq.consF; exact rfl; intro E
      refine S.idx ha23 rfl rfl rfl rfl ?_
      exact AOps.nil ⟨rfl, rfl⟩
      exact rfl
      apply DrawSeq.consF; exact rfl; intro E
      refine AOps.loadI rfl rfl rfl rfl ?_
      exact AOps.nil ⟨rfl, rfl⟩
      exact rfl
      apply DrawSeq.consF; exact rfl; intro E
      refine AOps.neq rfl rfl rfl ?_
      exact AOps.nil ⟨rfl, rfl⟩
      exact rfl
      refine DrawSeq.done ?_
      dsimp only [envEnd]
      refine thn_normal ?_
      refine AWP.iteN rfl h (fun hc5 h => ?_) (fun hc5 h => ?_)
      · refine AWP.seq ?_
        refine AWP.region ?_
        refine AOps.assign rfl rfl ?_
        refine AOps.nil ?_
        refine thn_normal ?_
        refine AWP.ret ?_
        refine inB_ret ?_
        refine thn_ret ?_
        have ej := Option.some.inj h
        subst ej
        refine thn_ret ⟨_, rfl, rfl, ?_⟩
        exact Done.ret rfl rfl
      · refine AWP.skip ?_
        refine inB_normal ?_
        refine thn_normal ?_
        refine AWP.region ?_
        refine AOps.move rfl rfl ?_
        refine AOps.add rfl rfl rfl (by omega) ?_
        refine AOps.assign rfl rfl ?_
        refine AOps.nil ?_
        have ej := Option.some.inj h
        subst ej
        refine thn_normal ⟨_, rfl, ?_⟩
        exact Sub.env ⟨rfl, rfl, rfl, trivial⟩
    · intro e s hq
      rcases oo with u | x
      · try dsimp only at h hq
        obtain ⟨rfl, hs⟩ := hq
        refine ⟨_, hs, ?_⟩
        refine inB_exit ?_
        refine thn_normal ?_
        refine AWP.seq ?_
        refine AWP.region ?_
        refine AOps.assign rfl rfl ?_
        refine AOps.nil ?_
        refine thn_normal ?_
        refine AWP.ret ?_
        have ej := Option.some.inj h
        subst ej
        exact Done.ret rfl rfl
      · try dsimp only at h hq
        obtain ⟨rfl, hs⟩ := hq
        refine ⟨_, Sub.refl _ _, ?_⟩
        refine inB_ret ?_
        refine thn_ret ?_
        have ej := Option.some.inj h
        subst ej
        exact hs
theorem law8_merged_ok {r : Bool} (h : law8_merged = some r) : PureOk Tryd.prog 10 [] (.c (bool r)) := by
  unfold PureOk
  refine FnOk.enter (rs := [.t 0]) Tryd.func10 rfl Tryd.ntmps10 Tryd.results10 rfl ⟨trivial, trivial⟩ (by kernel_rfl) rfl ?_
  unfold law8_merged at h
  refine AWP.seq ?_
  refine AWP.region ?_
  refine AOps.assign rfl rfl ?_
  refine AOps.nil ?_
  refine thn_normal ?_
  refine AWP.seq ?_
  obtain ⟨a7, ha7, h⟩ := bind_some h
  obtain ⟨a12, ha12, h⟩ := bind_some h
  refine AWP.region ?_
  refine AOps.callR rfl rfl rfl rfl (law8_step_ok ha7) rfl ?_
  refine S.lit (f := intI) (l := [1]) (ess := [[int 1]]) rfl rfl rfl rfl rfl rfl rfl ⟨⟨.inl rfl, trivial⟩, trivial⟩ rfl rfl rfl ?_
  refine AOps.frzV (id := 0) (l := [1]) (env2 := [(7, .agg [int a7.facts, row 1 intI a7.init, row 1 intI a7.goal, row 4 eTOperator a7.operators]), (8, .c (row 1 intI [1]))]) (σ2 := [.dead]) rfl rfl (by exact ⟨⟨_, rfl, ⟨.inl ⟨rfl, rfl⟩, .inl ⟨rfl, rfl⟩, .inl ⟨rfl, rfl⟩, .inl ⟨rfl, rfl⟩, trivial⟩⟩, ⟨_, rfl, .inr ⟨_, rfl, rfl, rfl⟩⟩, trivial⟩) rfl (by exact ⟨trivial, trivial⟩) ?_; refine S.lit (f := eLi64) (l := [[1]]) (ess := [[row 1 intI [1]]]) rfl rfl rfl rfl rfl rfl rfl ⟨⟨.inl rfl, trivial⟩, trivial⟩ rfl rfl rfl ?_
  refine S.lit (f := intI) (l := [1, 0]) (ess := [[int 1], [int 0]]) rfl rfl rfl rfl rfl rfl rfl ⟨⟨.inl rfl, trivial⟩, ⟨.inl rfl, trivial⟩, trivial⟩ rfl rfl rfl ?_
  refine AOps.frzV (id := 2) (l := [1, 0]) (env2 := [(7, .agg [int a7.facts, row 1 intI a7.init, row 1 intI a7.goal, row 4 eTOperator a7.operators]), (9, .c (.own 1 0 (([[1]]).length))), (10, .c (row 1 intI [1, 0]))]) (σ2 := [.dead, .one (vec 1 eLi64 ([[1]])), .dead]) rfl rfl (by exact ⟨⟨_, rfl, ⟨.inl ⟨rfl, rfl⟩, .inl ⟨rfl, rfl⟩, .inl ⟨rfl, rfl⟩, .inl ⟨rfl, rfl⟩, trivial⟩⟩, ⟨_, rfl, .inl ⟨rfl, rfl⟩⟩, ⟨_, rfl, .inr ⟨_, rfl, rfl, rfl⟩⟩, trivial⟩) rfl (by exact ⟨trivial, FrzB.vec, trivial, trivial⟩) ?_; refine S.lit (f := eLi64) (l := [[1, 0]]) (ess := [[row 1 intI [1, 0]]]) rfl rfl rfl rfl rfl rfl rfl ⟨⟨.inl rfl, trivial⟩, trivial⟩ rfl rfl rfl ?_
  refine AOps.frzV (id := 1) (l := [[1]]) (env2 := [(7, .agg [int a7.facts, row 1 intI a7.init, row 1 intI a7.goal, row 4 eTOperator a7.operators]), (9, .c (row 1 eLi64 ([[1]]))), (11, .c (.own 3 0 (([[1, 0]]).length)))]) (σ2 := [.dead, .dead, .dead, .one (vec 1 eLi64 ([[1, 0]]))]) rfl rfl (by exact ⟨⟨_, rfl, ⟨.inl ⟨rfl, rfl⟩, .inl ⟨rfl, rfl⟩, .inl ⟨rfl, rfl⟩, .inl ⟨rfl, rfl⟩, trivial⟩⟩, ⟨_, rfl, .inr ⟨_, rfl, rfl, rfl⟩⟩, ⟨_, rfl, .inl ⟨rfl, rfl⟩⟩, trivial⟩) rfl (by exact ⟨trivial, trivial, trivial, FrzB.vec, trivial⟩) ?_; refine AOps.frzV (id := 3) (l := [[1, 0]]) (env2 := [(7, .agg [int a7.facts, row 1 intI a7.init, row 1 intI a7.goal, row 4 eTOperator a7.operators]), (9, .c (row 1 eLi64 ([[1]]))), (11, .c (row 1 eLi64 ([[1, 0]])))]) (σ2 := [.dead, .dead, .dead, .dead]) rfl rfl (by exact ⟨⟨_, rfl, ⟨.inl ⟨rfl, rfl⟩, .inl ⟨rfl, rfl⟩, .inl ⟨rfl, rfl⟩, .inl ⟨rfl, rfl⟩, trivial⟩⟩, ⟨_, rfl, .inl ⟨rfl, rfl⟩⟩, ⟨_, rfl, .inr ⟨_, rfl, rfl, rfl⟩⟩, trivial⟩) rfl (by exact ⟨trivial, trivial, trivial, trivial, trivial⟩) ?_; refine AOps.callR rfl rfl rfl rfl (merging_Merge_ok ha12) rfl ?_
  refine AOps.move rfl rfl ?_
  refine AOps.extract rfl rfl rfl ?_
  refine AOps.extract rfl rfl rfl ?_
  refine AOps.extract rfl rfl rfl ?_
  refine W.alloc rfl rfl rfl rfl ?_
  refine AOps.assign rfl rfl ?_
  refine AOps.assign rfl rfl ?_
  refine W.storeAgg rfl rfl rfl rfl rfl rfl rfl ?_
  refine AOps.nil ?_
  refine thn_normal ?_
  refine AWP.seq ?_
  obtain ⟨a17, ha17, h⟩ := bind_some h
  obtain ⟨a23, ha23, h⟩ := bind_some h
  refine AWP.region ?_
  refine AOps.callR rfl rfl rfl rfl (law8_step_ok ha17) rfl ?_
  refine S.lit (f := intI) (l := [1]) (ess := [[int 1]]) rfl rfl rfl rfl rfl rfl rfl ⟨⟨.inl rfl, trivial⟩, trivial⟩ rfl rfl rfl ?_
  refine AOps.frzV (id := 5) (l := [1]) (env2 := [(1, .c (row 1 intI a12.1)), (2, .c (bool a12.2.1)), (3, .c (.ptr 4 0 0)), (17, .agg [int a17.facts, row 1 intI a17.init, row 1 intI a17.goal, row 4 eTOperator a17.operators]), (18, .c (row 1 intI [1]))]) (σ2 := [.dead, .dead, .dead, .dead, .one (.cells 2 [[int a12.2.2.code, int a12.2.2.index]]), .dead]) rfl rfl (by exact ⟨⟨_, rfl, .inl ⟨rfl, rfl⟩⟩, ⟨_, rfl, .inl ⟨rfl, rfl⟩⟩, ⟨_, rfl, .inl ⟨rfl, rfl⟩⟩, ⟨_, rfl, ⟨.inl ⟨rfl, rfl⟩, .inl ⟨rfl, rfl⟩, .inl ⟨rfl, rfl⟩, .inl ⟨rfl, rfl⟩, trivial⟩⟩, ⟨_, rfl, .inr ⟨_, rfl, rfl, rfl⟩⟩, trivial⟩) rfl (by exact ⟨trivial, trivial, trivial, trivial, ⟨rfl, .inl ⟨rfl, rfl⟩, .inl ⟨rfl, rfl⟩, trivial⟩, trivial, trivial⟩) ?_; refine S.lit (f := eLi64) (l := [[1]]) (ess := [[row 1 intI [1]]]) rfl rfl rfl rfl rfl rfl rfl ⟨⟨.inl rfl, trivial⟩, trivial⟩ rfl rfl rfl ?_
  refine S.lit (f := intI) (l := [1, 0]) (ess := [[int 1], [int 0]]) rfl rfl rfl rfl rfl rfl rfl ⟨⟨.inl rfl, trivial⟩, ⟨.inl rfl, trivial⟩, trivial⟩ rfl rfl rfl ?_
  refine AOps.frzV (id := 7) (l := [1, 0]) (env2 := [(1, .c (row 1 intI a12.1)), (2, .c (bool a12.2.1)), (3, .c (.ptr 4 0 0)), (17, .agg [int a17.facts, row 1 intI a17.init, row 1 intI a17.goal, row 4 eTOperator a17.operators]), (19, .c (.own 6 0 (([[1]]).length))), (20, .c (row 1 intI [1, 0]))]) (σ2 := [.dead, .dead, .dead, .dead, .one (.cells 2 [[int a12.2.2.code, int a12.2.2.index]]), .dead, .one (vec 1 eLi64 ([[1]])), .dead]) rfl rfl (by exact ⟨⟨_, rfl, .inl ⟨rfl, rfl⟩⟩, ⟨_, rfl, .inl ⟨rfl, rfl⟩⟩, ⟨_, rfl, .inl ⟨rfl, rfl⟩⟩, ⟨_, rfl, ⟨.inl ⟨rfl, rfl⟩, .inl ⟨rfl, rfl⟩, .inl ⟨rfl, rfl⟩, .inl ⟨rfl, rfl⟩, trivial⟩⟩, ⟨_, rfl, .inl ⟨rfl, rfl⟩⟩, ⟨_, rfl, .inr ⟨_, rfl, rfl, rfl⟩⟩, trivial⟩) rfl (by exact ⟨trivial, trivial, trivial, trivial, ⟨rfl, .inl ⟨rfl, rfl⟩, .inl ⟨rfl, rfl⟩, trivial⟩, trivial, FrzB.vec, trivial, trivial⟩) ?_; refine S.lit (f := eLi64) (l := [[1, 0]]) (ess := [[row 1 intI [1, 0]]]) rfl rfl rfl rfl rfl rfl rfl ⟨⟨.inl rfl, trivial⟩, trivial⟩ rfl rfl rfl ?_
  refine AOps.move rfl rfl ?_
  refine AOps.callL rfl rfl (.cons (.agg (.cons .imm (.cons .imm (.cons .imm (.cons .imm .nil))))) (.cons (.c (.own rfl rfl)) (.cons (.c (.own rfl rfl)) (.cons (.c .imm) .nil)))) rfl (merging_Check_ok ha23) rfl ?_
  refine AOps.move rfl rfl ?_
  refine AOps.extract rfl rfl rfl ?_
  refine AOps.extract rfl rfl rfl ?_
  refine W.alloc rfl rfl rfl rfl ?_
  refine AOps.assign rfl rfl ?_
  refine W.storeAgg rfl rfl rfl rfl rfl rfl rfl ?_
  refine AOps.nil ?_
  refine thn_normal ?_
  obtain ⟨t1, hx2, h⟩ := bind_some h
  refine AWP.seqJ (⟨[(0, .c (bool t1))], []⟩) ?_ ?_
  · rcases Bool.eq_false_or_eq_true (decide (a12.2.2.code = 0)) with hb3 | hb3
    · replace hx2 := iteDT hb3 hx2
      rcases Bool.eq_false_or_eq_true (decide (a23.2.code = 0)) with hb4 | hb4
      · replace hx2 := iteDT hb4 hx2
        rcases Bool.eq_false_or_eq_true (a12.2.1) with hb5 | hb5
        · replace hx2 := iteBT hb5 hx2
          rcases Bool.eq_false_or_eq_true (a23.1) with hb6 | hb6
          · replace hx2 := iteBT hb6 hx2
            obtain ⟨a43, ha43, hx2⟩ := bind_some hx2
            refine AWP.region ?_
            refine W.fieldAddr rfl rfl rfl rfl ?_
            refine AOps.load rfl rfl rfl rfl rfl rfl ?_
            refine AOps.eql rfl rfl rfl ?_
            refine AOps.move rfl rfl ?_
            refine AOps.guardT rfl rfl rfl hb3 ?_; refine W.fieldAddr rfl rfl rfl rfl ?_
            refine AOps.guardT rfl rfl rfl hb3 ?_; refine AOps.load rfl rfl rfl rfl rfl rfl ?_
            refine AOps.guardT rfl rfl rfl hb3 ?_; refine AOps.eql rfl rfl rfl ?_
            refine AOps.pickT rfl hb3 rfl rfl ?_
            refine AOps.move rfl rfl ?_
            refine AOps.guardT rfl rfl rfl hb4 ?_; refine AOps.move rfl rfl ?_
            refine AOps.pickT rfl hb4 rfl rfl ?_
            refine AOps.move rfl rfl ?_
            refine AOps.guardT rfl rfl rfl hb5 ?_; refine AOps.move rfl rfl ?_
            refine AOps.pickT rfl hb5 rfl rfl ?_
            refine AOps.move rfl rfl ?_
            refine AOps.guardT rfl rfl rfl hb6 ?_; refine AOps.move rfl rfl ?_
            refine AOps.guardT rfl rfl rfl hb6 ?_; refine S.lit (f := intI) (l := [0, 0]) (ess := [[int 0], [int 0]]) rfl rfl rfl rfl rfl rfl rfl ⟨⟨.inl rfl, trivial⟩, ⟨.inl rfl, trivial⟩, trivial⟩ rfl rfl rfl ?_
            refine AOps.guardT rfl rfl rfl hb6 ?_; refine AOps.callL rfl rfl (.cons (.c .imm) (.cons (.c (.own rfl rfl)) .nil)) rfl (equal_Numbers_ok ha43) rfl ?_
            refine AOps.pickT rfl hb6 rfl rfl ?_
            refine AOps.assign rfl rfl ?_
            refine AOps.nil ?_
            have ej := Option.some.inj hx2
            subst ej
            refine thn_normal ?_
            exact Sub.cut ⟨rfl, trivial⟩ rfl trivial rfl
          · replace hx2 := iteBF hb6 hx2
            refine AWP.region ?_
            refine W.fieldAddr rfl rfl rfl rfl ?_
            refine AOps.load rfl rfl rfl rfl rfl rfl ?_
            refine AOps.eql rfl rfl rfl ?_
            refine AOps.move rfl rfl ?_
            refine AOps.guardT rfl rfl rfl hb3 ?_; refine W.fieldAddr rfl rfl rfl rfl ?_
            refine AOps.guardT rfl rfl rfl hb3 ?_; refine AOps.load rfl rfl rfl rfl rfl rfl ?_
            refine AOps.guardT rfl rfl rfl hb3 ?_; refine AOps.eql rfl rfl rfl ?_
            refine AOps.pickT rfl hb3 rfl rfl ?_
            refine AOps.move rfl rfl ?_
            refine AOps.guardT rfl rfl rfl hb4 ?_; refine AOps.move rfl rfl ?_
            refine AOps.pickT rfl hb4 rfl rfl ?_
            refine AOps.move rfl rfl ?_
            refine AOps.guardT rfl rfl rfl hb5 ?_; refine AOps.move rfl rfl ?_
            refine AOps.pickT rfl hb5 rfl rfl ?_
            refine AOps.move rfl rfl ?_
            refine AOps.guardF rfl rfl rfl hb6 ?_
            refine AOps.guardF rfl rfl rfl hb6 ?_
            refine AOps.guardF rfl rfl rfl hb6 ?_
            refine AOps.pickF rfl hb6 rfl rfl ?_
            refine AOps.assign rfl rfl ?_
            refine AOps.nil ?_
            have ej := Option.some.inj hx2
            subst ej
            refine thn_normal ?_
            exact Sub.cut ⟨rfl, trivial⟩ rfl trivial rfl
        · replace hx2 := iteBF hb5 hx2
          refine AWP.region ?_
          refine W.fieldAddr rfl rfl rfl rfl ?_
          refine AOps.load rfl rfl rfl rfl rfl rfl ?_
          refine AOps.eql rfl rfl rfl ?_
          refine AOps.move rfl rfl ?_
          refine AOps.guardT rfl rfl rfl hb3 ?_; refine W.fieldAddr rfl rfl rfl rfl ?_
          refine AOps.guardT rfl rfl rfl hb3 ?_; refine AOps.load rfl rfl rfl rfl rfl rfl ?_
          refine AOps.guardT rfl rfl rfl hb3 ?_; refine AOps.eql rfl rfl rfl ?_
          refine AOps.pickT rfl hb3 rfl rfl ?_
          refine AOps.move rfl rfl ?_
          refine AOps.guardT rfl rfl rfl hb4 ?_; refine AOps.move rfl rfl ?_
          refine AOps.pickT rfl hb4 rfl rfl ?_
          refine AOps.move rfl rfl ?_
          refine AOps.guardF rfl rfl rfl hb5 ?_
          refine AOps.pickF rfl hb5 rfl rfl ?_
          refine AOps.move rfl rfl ?_
          refine AOps.guardF rfl rfl rfl rfl ?_
          refine AOps.guardF rfl rfl rfl rfl ?_
          refine AOps.guardF rfl rfl rfl rfl ?_
          refine AOps.pickF rfl rfl rfl rfl ?_
          refine AOps.assign rfl rfl ?_
          refine AOps.nil ?_
          have ej := Option.some.inj hx2
          subst ej
          refine thn_normal ?_
          exact Sub.cut ⟨rfl, trivial⟩ rfl trivial rfl
      · replace hx2 := iteDF hb4 hx2
        refine AWP.region ?_
        refine W.fieldAddr rfl rfl rfl rfl ?_
        refine AOps.load rfl rfl rfl rfl rfl rfl ?_
        refine AOps.eql rfl rfl rfl ?_
        refine AOps.move rfl rfl ?_
        refine AOps.guardT rfl rfl rfl hb3 ?_; refine W.fieldAddr rfl rfl rfl rfl ?_
        refine AOps.guardT rfl rfl rfl hb3 ?_; refine AOps.load rfl rfl rfl rfl rfl rfl ?_
        refine AOps.guardT rfl rfl rfl hb3 ?_; refine AOps.eql rfl rfl rfl ?_
        refine AOps.pickT rfl hb3 rfl rfl ?_
        refine AOps.move rfl rfl ?_
        refine AOps.guardF rfl rfl rfl hb4 ?_
        refine AOps.pickF rfl hb4 rfl rfl ?_
        refine AOps.move rfl rfl ?_
        refine AOps.guardF rfl rfl rfl rfl ?_
        refine AOps.pickF rfl rfl rfl rfl ?_
        refine AOps.move rfl rfl ?_
        refine AOps.guardF rfl rfl rfl rfl ?_
        refine AOps.guardF rfl rfl rfl rfl ?_
        refine AOps.guardF rfl rfl rfl rfl ?_
        refine AOps.pickF rfl rfl rfl rfl ?_
        refine AOps.assign rfl rfl ?_
        refine AOps.nil ?_
        have ej := Option.some.inj hx2
        subst ej
        refine thn_normal ?_
        exact Sub.cut ⟨rfl, trivial⟩ rfl trivial rfl
    · replace hx2 := iteDF hb3 hx2
      refine AWP.region ?_
      refine W.fieldAddr rfl rfl rfl rfl ?_
      refine AOps.load rfl rfl rfl rfl rfl rfl ?_
      refine AOps.eql rfl rfl rfl ?_
      refine AOps.move rfl rfl ?_
      refine AOps.guardF rfl rfl rfl hb3 ?_
      refine AOps.guardF rfl rfl rfl hb3 ?_
      refine AOps.guardF rfl rfl rfl hb3 ?_
      refine AOps.pickF rfl hb3 rfl rfl ?_
      refine AOps.move rfl rfl ?_
      refine AOps.guardF rfl rfl rfl rfl ?_
      refine AOps.pickF rfl rfl rfl rfl ?_
      refine AOps.move rfl rfl ?_
      refine AOps.guardF rfl rfl rfl rfl ?_
      refine AOps.pickF rfl rfl rfl rfl ?_
      refine AOps.move rfl rfl ?_
      refine AOps.guardF rfl rfl rfl rfl ?_
      refine AOps.guardF rfl rfl rfl rfl ?_
      refine AOps.guardF rfl rfl rfl rfl ?_
      refine AOps.pickF rfl rfl rfl rfl ?_
      refine AOps.assign rfl rfl ?_
      refine AOps.nil ?_
      have ej := Option.some.inj hx2
      subst ej
      refine thn_normal ?_
      exact Sub.cut ⟨rfl, trivial⟩ rfl trivial rfl
  · refine AWP.ret ?_
    have ej := Option.some.inj h
    subst ej
    exact Done.ret rfl rfl
theorem ref1_Subset_ok {part : List Int} {l : List Int} {r : Bool} (h : ref1_Subset part l = some r) : PureOk Tryd.prog 36 [.c (row 1 intI part), .c (row 1 intI l)] (.c (bool r)) := by
  unfold PureOk
  refine FnOk.enter (rs := [.t 4]) Tryd.func36 rfl Tryd.ntmps36 Tryd.results36 rfl ⟨trivial, trivial⟩ (by kernel_rfl) rfl ?_
  unfold ref1_Subset at h
  refine AWP.seq ?_
  refine AWP.region ?_
  refine AOps.assign rfl rfl ?_
  refine AOps.nil ?_
  refine thn_normal ?_
  refine AWP.seq ?_
  refine AWP.seq ?_
  refine AWP.region ?_
  refine AOps.assign rfl rfl ?_
  refine AOps.nil ?_
  refine thn_normal ?_
  refine AWP.block ?_
  obtain ⟨oo, ho1, h⟩ := bind_some h
  refine AWP.rngS ho1 (fun iv3 _ => ⟨[(0, .c (row 1 intI part)), (1, .c (row 1 intI l)), (5, .c (int iv3))], []⟩) (fun o e st => match o with | .inl _ => e = .exit 0 ∧ Sub [] st ⟨[], []⟩ | .inr x => e = .ret ∧ Done [.t 4] (fun t _ => t = .c (bool x)) .ret st) ?_ ?_ ?_ ?_
  · try dsimp only
    exact Sub.env ⟨rfl, rfl, rfl, trivial⟩
  · intro iv3 s hloiv3 hltiv3 _
    try dsimp only
    refine AWP.seq ?_
    refine AWP.seq ?_
    refine AWP.region ?_
    refine AOps.move rfl rfl ?_
    refine AOps.move rfl rfl ?_
    refine S.len rfl rfl (fun hl8 => ?_)
    refine AOps.lss rfl rfl rfl ?_
    refine AOps.nil ?_
    refine thn_normal ?_
    refine AWP.condNP rfl hltiv3 ?_
    refine AWP.exit ?_
    refine thn_exit ?_
    refine thn_exit ⟨rfl, ?_⟩
    exact Sub.env trivial
  · intro iv3 s o hloiv3 hltiv3 h
    unfold ref1_Subset_l1 at h
    try dsimp only at h ⊢
    refine AWP.seq ?_
    refine AWP.seq ?_
    refine AWP.region ?_
    refine AOps.move rfl rfl ?_
    refine AOps.move rfl rfl ?_
    refine S.len rfl rfl (fun hl8 => ?_)
    refine AOps.lss rfl rfl rfl ?_
    refine AOps.nil ?_
    refine thn_normal ?_
    refine AWP.condP rfl hltiv3 ?_
    refine AWP.skip ?_
    refine thn_normal ?_
    refine AWP.seq ?_
    refine AWP.block ?_
    refine AWP.seq ?_
    obtain ⟨a15, ha15, h⟩ := bind_some h
    obtain ⟨a17, ha17, h⟩ := bind_some h
    refine AWP.region ?_
    refine AOps.move rfl rfl ?_
    refine AOps.move rfl rfl ?_
    refine AOps.move rfl rfl ?_
    refine S.idx ha15 rfl rfl rfl rfl ?_
    refine AOps.loadI rfl rfl rfl rfl ?_
    refine AOps.callR rfl rfl rfl rfl (ref1_Has_ok ha17) rfl ?_
    refine AOps.not rfl rfl ?_
    refine AOps.nil ?_
    refine thn_normal ?_
    refine AWP.iteB rfl h (fun hc4 h => ?_) (fun hc4 h => ?_)
    · refine AWP.seq ?_
      refine AWP.region ?_
      refine AOps.assign rfl rfl ?_
      refine AOps.nil ?_
      refine thn_normal ?_
      refine AWP.ret ?_
      refine inB_ret ?_
      refine thn_ret ?_
      have ej := Option.some.inj h
      subst ej
      refine thn_ret ⟨_, rfl, rfl, ?_⟩
      exact Done.ret rfl rfl
    · refine AWP.skip ?_
      refine inB_normal ?_
      refine thn_normal ?_
      refine AWP.region ?_
      refine AOps.move rfl rfl ?_
      refine AOps.add rfl rfl rfl (by omega) ?_
      refine AOps.assign rfl rfl ?_
      refine AOps.nil ?_
      have ej := Option.some.inj h
      subst ej
      refine thn_normal ⟨_, rfl, ?_⟩
      exact Sub.env ⟨rfl, rfl, rfl, trivial⟩
  · intro e s hq
    rcases oo with u | x
    · try dsimp only at h hq
      obtain ⟨rfl, hs⟩ := hq
      refine ⟨_, hs, ?_⟩
      refine inB_exit ?_
      refine thn_normal ?_
      refine AWP.seq ?_
      refine AWP.region ?_
      refine AOps.assign rfl rfl ?_
      refine AOps.nil ?_
      refine thn_normal ?_
      refine AWP.ret ?_
      have ej := Option.some.inj h
      subst ej
      exact Done.ret rfl rfl
    · try dsimp only at h hq
      obtain ⟨rfl, hs⟩ := hq
      refine ⟨_, Sub.refl _ _, ?_⟩
      refine inB_ret ?_
      refine thn_ret ?_
      have ej := Option.some.inj h
      subst ej
      exact hs
theorem ref1_Applies_ok {t : TTask} {sv : List Int} {op : Int} {r : Bool} (h : ref1_Applies t sv op = some r) : PureOk Tryd.prog 46 [.agg [int t.facts, row 1 intI t.init, row 1 intI t.goal, row 4 eTOperator t.operators], .c (row 1 intI sv), .c (int op)] (.c (bool r)) := by
  unfold PureOk
  refine FnOk.enter (rs := [.t 6]) Tryd.func46 rfl Tryd.ntmps46 Tryd.results46 rfl ⟨trivial, trivial⟩ (by kernel_rfl) rfl ?_
  unfold ref1_Applies at h
  refine AWP.seq ?_
  refine AWP.region ?_
  refine W.box rfl rfl rfl rfl rfl rfl ?_
  refine AOps.assign rfl rfl ?_
  refine AOps.nil ?_
  refine thn_normal ?_
  refine AWP.seq ?_
  obtain ⟨a10, ha10, h⟩ := bind_some h
  obtain ⟨a14, ha14, h⟩ := bind_some h
  refine AWP.region ?_
  refine W.fieldAddr rfl rfl rfl rfl ?_
  refine AOps.load rfl rfl rfl rfl rfl rfl ?_
  refine AOps.move rfl rfl ?_
  refine S.idx ha10 rfl rfl rfl rfl ?_
  refine W.fieldAddrI rfl rfl rfl rfl ?_
  refine AOps.loadI rfl rfl rfl rfl ?_
  refine AOps.move rfl rfl ?_
  refine AOps.callR rfl rfl rfl rfl (ref1_Subset_ok ha14) rfl ?_
  refine AOps.assign rfl rfl ?_
  refine AOps.nil ?_
  refine thn_normal ?_
  refine AWP.ret ?_
  have ej := Option.some.inj h
  subst ej
  exact Done.ret rfl rfl
theorem ref1_After_ok {t : TTask} {sv : List Int} {op : Int} {r : (List Int)} (h : ref1_After t sv op = some r) : FreshOk Tryd.prog 47 [.agg [int t.facts, row 1 intI t.init, row 1 intI t.goal, row 4 eTOperator t.operators], .c (row 1 intI sv), .c (int op)] 1 (List.map intI r) := by
  unfold FreshOk
  refine FnOk.enter (rs := [.t 6]) Tryd.func47 rfl Tryd.ntmps47 Tryd.results47 rfl ⟨trivial, trivial⟩ (by kernel_rfl) rfl ?_
  unfold ref1_After at h
  refine AWP.seq ?_
  refine AWP.region ?_
  refine W.box rfl rfl rfl rfl rfl rfl ?_
  refine AOps.assign rfl rfl ?_
  refine AOps.nil ?_
  refine thn_normal ?_
  refine AWP.seq ?_
  refine AWP.region ?_
  refine AOps.assign rfl rfl ?_
  refine AOps.nil ?_
  refine thn_normal ?_
  refine AWP.seq ?_
  refine AWP.seq ?_
  refine AWP.region ?_
  refine AOps.assign rfl rfl ?_
  refine AOps.nil ?_
  refine thn_normal ?_
  refine AWP.block ?_
  refine AWP.virtV 1 intI 7 rfl rfl rfl ?_
  obtain ⟨hnp5, h⟩ := ite_none h
  obtain ⟨c4, ho1, h⟩ := bind_some h
  refine AWP.forS ho1 (fun p5 c4 => ⟨[(1, .c (row 1 intI sv)), (2, .c (int op)), (3, .c (.ptr 0 0 0)), (7, .c (.own 1 0 c4.length)), (8, .c (int p5))], [.one (.cells 4 [[int t.facts, row 1 intI t.init, row 1 intI t.goal, row 4 eTOperator t.operators]]), .one (vec 1 intI c4)]⟩) (fun c4 e st => e = .exit 0 ∧ Sub [] st ⟨[(7, .c (.own 1 0 c4.length))], [.one (.cells 4 [[int t.facts, row 1 intI t.init, row 1 intI t.goal, row 4 eTOperator t.operators]]), .one (vec 1 intI c4)]⟩) ?_ ?_ ?_ ?_
  · try dsimp only
    exact Sub.env ⟨rfl, rfl, rfl, (own_len (by first | rfl | simp only [List.length_set])), rfl, trivial⟩
  · intro p5 c4 hlop5 hltp5 _
    try dsimp only
    refine AWP.seq ?_
    refine AWP.seq ?_
    refine AWP.region ?_
    refine AOps.move rfl rfl ?_
    refine W.fieldAddr rfl rfl rfl rfl ?_
    refine AOps.load rfl rfl rfl rfl rfl rfl ?_
    refine AOps.lss rfl rfl rfl ?_
    refine AOps.nil ?_
    refine thn_normal ?_
    refine AWP.condNP rfl hltp5 ?_
    refine AWP.exit ?_
    refine thn_exit ?_
    refine thn_exit ⟨rfl, ?_⟩
    exact Sub.env ⟨rfl, trivial⟩
  · intro p5 c4 o hlop5 hltp5 h
    unfold ref1_After_l1 at h
    try dsimp only at h ⊢
    refine AWP.seq ?_
    refine AWP.seq ?_
    refine AWP.region ?_
    refine AOps.move rfl rfl ?_
    refine W.fieldAddr rfl rfl rfl rfl ?_
    refine AOps.load rfl rfl rfl rfl rfl rfl ?_
    refine AOps.lss rfl rfl rfl ?_
    refine AOps.nil ?_
    refine thn_normal ?_
    refine AWP.condP rfl hltp5 ?_
    refine AWP.skip ?_
    refine thn_normal ?_
    obtain ⟨c6, hx7, h⟩ := bind_some h
    refine AWP.seqJ (⟨[(1, .c (row 1 intI sv)), (2, .c (int op)), (3, .c (.ptr 0 0 0)), (7, .c (.own 3 0 c6.length)), (8, .c (int p5))], [.one (.cells 4 [[int t.facts, row 1 intI t.init, row 1 intI t.goal, row 4 eTOperator t.operators]]), .dead, .dead, .one (vec 1 intI c6)]⟩) ?_ ?_
    · refine AWP.block ?_
      obtain ⟨t8, hx9, hx7⟩ := bind_some hx7
      refine AWP.seqJ (⟨[(1, .c (row 1 intI sv)), (2, .c (int op)), (3, .c (.ptr 0 0 0)), (7, .c (.own 1 0 c4.length)), (8, .c (int p5)), (38, .c (bool t8))], [.one (.cells 4 [[int t.facts, row 1 intI t.init, row 1 intI t.goal, row 4 eTOperator t.operators]]), .one (vec 1 intI c4)]⟩) ?_ ?_
      · obtain ⟨a18, ha18, hx9⟩ := bind_some hx9
        obtain ⟨a22, ha22, hx9⟩ := bind_some hx9
        rcases Bool.eq_false_or_eq_true (a22) with hb10 | hb10
        · replace hx9 := iteBT hb10 hx9
          refine AWP.region ?_
          refine W.fieldAddr rfl rfl rfl rfl ?_
          refine AOps.load rfl rfl rfl rfl rfl rfl ?_
          refine AOps.move rfl rfl ?_
          refine S.idx ha18 rfl rfl rfl rfl ?_
          refine W.fieldAddrI rfl rfl rfl rfl ?_
          refine AOps.loadI rfl rfl rfl rfl ?_
          refine AOps.move rfl rfl ?_
          refine AOps.callR rfl rfl rfl rfl (ref1_Has_ok ha22) rfl ?_
          refine AOps.move rfl rfl ?_
          refine AOps.guardF rfl rfl rfl hb10 ?_
          refine AOps.guardF rfl rfl rfl hb10 ?_
          refine AOps.guardF rfl rfl rfl hb10 ?_
          refine AOps.guardF rfl rfl rfl hb10 ?_
          refine AOps.guardSkip rfl rfl rfl ?_
          refine AOps.guardSkip rfl rfl rfl ?_
          refine AOps.guardSkip rfl rfl rfl ?_
          refine AOps.guardSkip rfl rfl rfl ?_
          refine AOps.guardSkip rfl rfl rfl ?_
          refine AOps.guardSkip rfl rfl rfl ?_
          refine AOps.guardSkip rfl rfl rfl ?_
          refine AOps.guardSkip rfl rfl rfl ?_
          refine AOps.guardSkip rfl rfl rfl ?_
          refine AOps.guardF rfl rfl rfl hb10 ?_
          refine AOps.pickT rfl hb10 rfl rfl ?_
          refine AOps.nil ?_
          have ej := Option.some.inj hx9
          subst ej
          refine thn_normal ?_
          exact Sub.env ⟨rfl, rfl, rfl, rfl, rfl, rfl, trivial⟩
        · replace hx9 := iteBF hb10 hx9
          obtain ⟨a26, ha26, hx9⟩ := bind_some hx9
          rcases Bool.eq_false_or_eq_true (a26) with hb11 | hb11
          · replace hx9 := iteBT hb11 hx9
            obtain ⟨a31, ha31, hx9⟩ := bind_some hx9
            obtain ⟨a35, ha35, hx9⟩ := bind_some hx9
            refine AWP.region ?_
            refine W.fieldAddr rfl rfl rfl rfl ?_
            refine AOps.load rfl rfl rfl rfl rfl rfl ?_
            refine AOps.move rfl rfl ?_
            refine S.idx ha18 rfl rfl rfl rfl ?_
            refine W.fieldAddrI rfl rfl rfl rfl ?_
            refine AOps.loadI rfl rfl rfl rfl ?_
            refine AOps.move rfl rfl ?_
            refine AOps.callR rfl rfl rfl rfl (ref1_Has_ok ha22) rfl ?_
            refine AOps.move rfl rfl ?_
            refine AOps.guardT rfl rfl rfl hb10 ?_; refine AOps.move rfl rfl ?_
            refine AOps.guardT rfl rfl rfl hb10 ?_; refine AOps.move rfl rfl ?_
            refine AOps.guardT rfl rfl rfl hb10 ?_; refine AOps.callR rfl rfl rfl rfl (ref1_Has_ok ha26) rfl ?_
            refine AOps.guardT rfl rfl rfl hb10 ?_; refine AOps.move rfl rfl ?_
            refine AOps.guardT rfl rfl rfl hb11 ?_; refine W.fieldAddr rfl rfl rfl rfl ?_
            refine AOps.guardT rfl rfl rfl hb11 ?_; refine AOps.load rfl rfl rfl rfl rfl rfl ?_
            refine AOps.guardT rfl rfl rfl hb11 ?_; refine AOps.move rfl rfl ?_
            refine AOps.guardT rfl rfl rfl hb11 ?_; refine S.idx ha31 rfl rfl rfl rfl ?_
            refine AOps.guardT rfl rfl rfl hb11 ?_; refine W.fieldAddrI rfl rfl rfl rfl ?_
            refine AOps.guardT rfl rfl rfl hb11 ?_; refine AOps.loadI rfl rfl rfl rfl ?_
            refine AOps.guardT rfl rfl rfl hb11 ?_; refine AOps.move rfl rfl ?_
            refine AOps.guardT rfl rfl rfl hb11 ?_; refine AOps.callR rfl rfl rfl rfl (ref1_Has_ok ha35) rfl ?_
            refine AOps.guardT rfl rfl rfl hb11 ?_; refine AOps.not rfl rfl ?_
            refine AOps.guardT rfl rfl rfl hb10 ?_; refine AOps.pickT rfl hb11 rfl rfl ?_
            refine AOps.pickF rfl hb10 rfl rfl ?_
            refine AOps.nil ?_
            have ej := Option.some.inj hx9
            subst ej
            refine thn_normal ?_
            exact Sub.env ⟨rfl, rfl, rfl, rfl, rfl, rfl, trivial⟩
          · replace hx9 := iteBF hb11 hx9
            refine AWP.region ?_
            refine W.fieldAddr rfl rfl rfl rfl ?_
            refine AOps.load rfl rfl rfl rfl rfl rfl ?_
            refine AOps.move rfl rfl ?_
            refine S.idx ha18 rfl rfl rfl rfl ?_
            refine W.fieldAddrI rfl rfl rfl rfl ?_
            refine AOps.loadI rfl rfl rfl rfl ?_
            refine AOps.move rfl rfl ?_
            refine AOps.callR rfl rfl rfl rfl (ref1_Has_ok ha22) rfl ?_
            refine AOps.move rfl rfl ?_
            refine AOps.guardT rfl rfl rfl hb10 ?_; refine AOps.move rfl rfl ?_
            refine AOps.guardT rfl rfl rfl hb10 ?_; refine AOps.move rfl rfl ?_
            refine AOps.guardT rfl rfl rfl hb10 ?_; refine AOps.callR rfl rfl rfl rfl (ref1_Has_ok ha26) rfl ?_
            refine AOps.guardT rfl rfl rfl hb10 ?_; refine AOps.move rfl rfl ?_
            refine AOps.guardF rfl rfl rfl hb11 ?_
            refine AOps.guardF rfl rfl rfl hb11 ?_
            refine AOps.guardF rfl rfl rfl hb11 ?_
            refine AOps.guardF rfl rfl rfl hb11 ?_
            refine AOps.guardF rfl rfl rfl hb11 ?_
            refine AOps.guardF rfl rfl rfl hb11 ?_
            refine AOps.guardF rfl rfl rfl hb11 ?_
            refine AOps.guardF rfl rfl rfl hb11 ?_
            refine AOps.guardF rfl rfl rfl hb11 ?_
            refine AOps.guardT rfl rfl rfl hb10 ?_; refine AOps.pickF rfl hb11 rfl rfl ?_
            refine AOps.pickF rfl hb10 rfl rfl ?_
            refine AOps.nil ?_
            have ej := Option.some.inj hx9
            subst ej
            refine thn_normal ?_
            exact Sub.env ⟨rfl, rfl, rfl, rfl, rfl, rfl, trivial⟩
      · refine AWP.iteB rfl hx7 (fun hc12 hx7 => ?_) (fun hc12 hx7 => ?_)
        · obtain ⟨a42, ha42, hx7⟩ := bind_some hx7
          refine AWP.region ?_
          refine AOps.move rfl rfl ?_
          refine AOps.move rfl rfl ?_
          refine S.lit (f := intI) (l := [p5]) (ess := [[int p5]]) rfl rfl rfl rfl rfl rfl rfl ⟨⟨.inl rfl, trivial⟩, trivial⟩ rfl rfl rfl ?_
          refine S.append (f := intI) ha42 rfl rfl rfl rfl rfl rfl (.own rfl rfl) rfl rfl rfl rfl ?_
          refine AOps.assign rfl rfl ?_
          refine AOps.nil ?_
          refine inB_normal ?_
          have ej := Option.some.inj hx7
          subst ej
          refine thn_normal ?_
          exact Sub.cut ⟨rfl, rfl, rfl, rfl, rfl, trivial⟩ rfl ⟨.one rfl, .dead, .dead, .vec, trivial⟩ rfl
        · refine AWP.skip ?_
          refine inB_normal ?_
          have ej := Option.some.inj hx7
          subst ej
          refine thn_normal ?_
          exact (Sub.move (env' := [(1, .c (row 1 intI sv)), (2, .c (int op)), (3, .c (.ptr 0 0 0)), (7, .c (.own 3 0 c4.length)), (8, .c (int p5))]) (σ' := [.one (.cells 4 [[int t.facts, row 1 intI t.init, row 1 intI t.goal, row 4 eTOperator t.operators]]), .dead, .dead, .one (vec 1 intI c4)]) 3 1 rfl rfl rfl ⟨rfl, rfl, rfl, rfl, rfl, trivial⟩ rfl ⟨⟨rfl, rfl⟩, trivial, trivial, ⟨Blk.im_ok _ _ _, vec_mv rfl⟩, trivial⟩).trans (Sub.env ⟨rfl, rfl, rfl, rfl, rfl, trivial⟩)
    · refine AWP.region ?_
      refine AOps.move rfl rfl ?_
      refine AOps.add rfl rfl rfl (by omega) ?_
      refine AOps.assign rfl rfl ?_
      refine AOps.nil ?_
      have ej := Option.some.inj h
      subst ej
      refine thn_normal ?_
      exact (Sub.move (env' := [(1, .c (row 1 intI sv)), (2, .c (int op)), (3, .c (.ptr 0 0 0)), (7, .c (.own 1 0 c6.length)), (8, .c (int (p5 + 1)))]) (σ' := [.one (.cells 4 [[int t.facts, row 1 intI t.init, row 1 intI t.goal, row 4 eTOperator t.operators]]), .one (vec 1 intI c6), .dead]) 1 3 rfl rfl rfl ⟨rfl, rfl, rfl, rfl, rfl, trivial⟩ rfl ⟨⟨rfl, rfl⟩, ⟨Blk.im_ok _ _ _, vec_mv rfl⟩, trivial, trivial⟩).trans (Sub.cut ⟨rfl, rfl, rfl, rfl, rfl, trivial⟩ rfl ⟨.one rfl, .vec, trivial⟩ rfl)
  · intro e s hq
    obtain ⟨rfl, hs⟩ := hq
    refine ⟨_, hs, ?_⟩
    refine inB_exit ?_
    refine thn_normal ?_
    refine AWP.seq ?_
    refine AWP.region ?_
    refine AOps.move rfl rfl ?_
    refine AOps.assign rfl rfl ?_
    refine AOps.nil ?_
    refine thn_normal ?_
    refine AWP.ret ?_
    have ej := Option.some.inj h
    subst ej
    exact Done.ret rfl (Fresh.mk rfl rfl)
theorem ref1_Ends_ok {t : TTask} {sv : List Int} {plan : List Int} {r : (List Int) × Bool} (h : ref1_Ends t sv plan = some r) : PureOk Tryd.prog 35 [.agg [int t.facts, row 1 intI t.init, row 1 intI t.goal, row 4 eTOperator t.operators], .c (row 1 intI sv), .c (row 1 intI plan)] (.tup [.c (row 1 intI r.1), .c (bool r.2)]) := by
  unfold PureOk
  refine FnOk.enter (rs := [.t 6, .t 7]) Tryd.func35 rfl Tryd.ntmps35 Tryd.results35 rfl ⟨trivial, trivial, trivial⟩ (by kernel_rfl) rfl ?_
  unfold ref1_Ends at h
  refine AWP.seq ?_
  refine AWP.region ?_
  refine W.box rfl rfl rfl rfl rfl rfl ?_
  refine AOps.assign rfl rfl ?_
  refine AOps.assign rfl rfl ?_
  refine AOps.nil ?_
  refine thn_normal ?_
  refine AWP.seq ?_
  refine AWP.seq ?_
  refine AWP.region ?_
  refine AOps.assign rfl rfl ?_
  refine AOps.nil ?_
  refine thn_normal ?_
  refine AWP.block ?_
  obtain ⟨oo, ho1, h⟩ := bind_some h
  refine AWP.rngS ho1 (fun iv5 sv4 => ⟨[(1, .c (row 1 intI sv4)), (2, .c (row 1 intI plan)), (3, .c (.ptr 0 0 0)), (8, .c (int iv5))], [.one (.cells 4 [[int t.facts, row 1 intI t.init, row 1 intI t.goal, row 4 eTOperator t.operators]])]⟩) (fun o e st => match o with | .inl sv4 => e = .exit 0 ∧ Sub [] st ⟨[(1, .c (row 1 intI sv4))], [.one (.cells 4 [[int t.facts, row 1 intI t.init, row 1 intI t.goal, row 4 eTOperator t.operators]])]⟩ | .inr x => e = .ret ∧ Done [.t 6, .t 7] (fun t _ => t = .tup [.c (row 1 intI x.1), .c (bool x.2)]) .ret st) ?_ ?_ ?_ ?_
  · try dsimp only
    exact Sub.env ⟨rfl, rfl, rfl, rfl, trivial⟩
  · intro iv5 sv4 hloiv5 hltiv5 _
    try dsimp only
    refine AWP.seq ?_
    refine AWP.seq ?_
    refine AWP.region ?_
    refine AOps.move rfl rfl ?_
    refine AOps.move rfl rfl ?_
    refine S.len rfl rfl (fun hl11 => ?_)
    refine AOps.lss rfl rfl rfl ?_
    refine AOps.nil ?_
    refine thn_normal ?_
    refine AWP.condNP rfl hltiv5 ?_
    refine AWP.exit ?_
    refine thn_exit ?_
    refine thn_exit ⟨rfl, ?_⟩
    exact Sub.env ⟨rfl, trivial⟩
  · intro iv5 sv4 o hloiv5 hltiv5 h
    unfold ref1_Ends_l1 at h
    try dsimp only at h ⊢
    refine AWP.seq ?_
    refine AWP.seq ?_
    refine AWP.region ?_
    refine AOps.move rfl rfl ?_
    refine AOps.move rfl rfl ?_
    refine S.len rfl rfl (fun hl11 => ?_)
    refine AOps.lss rfl rfl rfl ?_
    refine AOps.nil ?_
    refine thn_normal ?_
    refine AWP.condP rfl hltiv5 ?_
    refine AWP.skip ?_
    refine thn_normal ?_
    refine AWP.seq ?_
    refine AWP.block ?_
    refine AWP.seq ?_
    refine AWP.seq ?_
    obtain ⟨a19, ha19, h⟩ := bind_some h
    obtain ⟨a21, ha21, h⟩ := bind_some h
    refine AWP.drawI mixed rfl ?_
    apply DrawSeq.consF; exact rfl; intro E
    refine W.loadAgg rfl rfl rfl rfl rfl rfl rfl ?_
    exact AOps.nil ⟨rfl, rfl⟩
    exact rfl
    apply DrawSeq.consF; exact rfl; intro E
    refine AOps.move rfl rfl ?_
    exact AOps.nil ⟨rfl, rfl⟩
    exact rfl
    apply DrawSeq.consF; exact rfl; intro E
    refine AOps.move rfl rfl ?_
    exact AOps.nil ⟨rfl, rfl⟩
    exact rfl
    apply DrawSeq.consF; exact rfl; intro E
    refine AOps.move rfl rfl ?_
    exact AOps.nil ⟨rfl, rfl⟩
    exact rfl
    apply DrawSeq.consF; exact rfl; intro E
    refine S.idx ha19 rfl rfl rfl rfl ?_
    exact AOps.nil ⟨rfl, rfl⟩
    exact rfl
    apply DrawSeq.consF; exact rfl; intro E
    refine AOps.loadI rfl rfl rfl rfl ?_
    exact AOps.nil ⟨rfl, rfl⟩
    exact rfl
    apply DrawSeq.consF; exact rfl; intro E
    refine AOps.callR rfl rfl rfl rfl (ref1_Applies_ok ha21) rfl ?_
    exact AOps.nil ⟨rfl, rfl⟩
    exact rfl
    apply DrawSeq.consF; exact rfl; intro E
    refine AOps.not rfl rfl ?_
    exact AOps.nil ⟨rfl, rfl⟩
    exact rfl
    refine DrawSeq.done ?_
    dsimp only [envEnd]
    refine thn_normal ?_
    refine AWP.iteB rfl h (fun hc6 h => ?_) (fun hc6 h => ?_)
    · refine AWP.seq ?_
      refine AWP.region ?_
      refine AOps.assign rfl rfl ?_
      refine AOps.assign rfl rfl ?_
      refine AOps.nil ?_
      refine thn_normal ?_
      refine AWP.nilrow 1 6 rfl ?_
      refine AWP.ret ?_
      refine thn_ret ?_
      refine inB_ret ?_
      refine thn_ret ?_
      have ej := Option.some.inj h
      subst ej
      refine thn_ret ⟨_, rfl, rfl, ?_⟩
      exact Done.ret rfl rfl
    · refine AWP.skip ?_
      refine thn_normal ?_
      obtain ⟨a27, ha27, h⟩ := bind_some h
      obtain ⟨a29, ha29, h⟩ := bind_some h
      refine AWP.drawEI [6] mixed rfl rfl rfl ?_
      apply DrawSeqE.consN; exact rfl; exact rfl; intro E
      refine W.loadAgg rfl rfl rfl rfl rfl rfl rfl ?_
      exact AOps.nil ⟨rfl, rfl⟩
      exact rfl
      apply DrawSeqE.consN; exact rfl; exact rfl; intro E
      refine AOps.move rfl rfl ?_
      exact AOps.nil ⟨rfl, rfl⟩
      exact rfl
      apply DrawSeqE.consN; exact rfl; exact rfl; intro E
      refine AOps.move rfl rfl ?_
      exact AOps.nil ⟨rfl, rfl⟩
      exact rfl
      apply DrawSeqE.consN; exact rfl; exact rfl; intro E
      refine AOps.move rfl rfl ?_
      exact AOps.nil ⟨rfl, rfl⟩
      exact rfl
      apply DrawSeqE.consN; exact rfl; exact rfl; intro E
      refine S.idx ha27 rfl rfl rfl rfl ?_
      exact AOps.nil ⟨rfl, rfl⟩
      exact rfl
      apply DrawSeqE.consN; exact rfl; exact rfl; intro E
      refine AOps.loadI rfl rfl rfl rfl ?_
      exact AOps.nil ⟨rfl, rfl⟩
      exact rfl
      apply DrawSeqE.consE; exact rfl; exact rfl; intro E
      refine S.fresh rfl rfl rfl rfl (ref1_After_ok ha29) rfl rfl ?_
      exact AOps.nil ⟨rfl, rfl⟩
      exact rfl
      exact rfl
      apply DrawSeqE.consN; exact rfl; exact rfl; intro E
      refine AOps.assign rfl rfl ?_
      exact AOps.nil ⟨rfl, rfl⟩
      exact rfl
      refine DrawSeqE.done rfl ?_ ?_
      · apply RestI.cons; exact rfl; exact rfl
        first | refine RestK.skip rfl ?_ | (apply RestK.go; exact rfl; exact rfl; intro E; (refine W.loadAgg rfl rfl rfl rfl rfl rfl rfl ?_); exact AOps.nil ⟨rfl, rfl⟩)
        first | refine RestK.skip rfl ?_ | (apply RestK.go; exact rfl; exact rfl; intro E; (refine W.loadAgg rfl rfl rfl rfl rfl rfl rfl ?_); exact AOps.nil ⟨rfl, rfl⟩)
        exact RestK.nil
        apply RestI.cons; exact rfl; exact rfl
        first | refine RestK.skip rfl ?_ | (apply RestK.go; exact rfl; exact rfl; intro E; (refine AOps.move rfl rfl ?_); exact AOps.nil ⟨rfl, rfl⟩)
        first | refine RestK.skip rfl ?_ | (apply RestK.go; exact rfl; exact rfl; intro E; (refine AOps.move rfl rfl ?_); exact AOps.nil ⟨rfl, rfl⟩)
        exact RestK.nil
        apply RestI.cons; exact rfl; exact rfl
        first | refine RestK.skip rfl ?_ | (apply RestK.go; exact rfl; exact rfl; intro E; (refine AOps.move rfl rfl ?_); exact AOps.nil ⟨rfl, rfl⟩)
        first | refine RestK.skip rfl ?_ | (apply RestK.go; exact rfl; exact rfl; intro E; (refine AOps.move rfl rfl ?_); exact AOps.nil ⟨rfl, rfl⟩)
        exact RestK.nil
        apply RestI.cons; exact rfl; exact rfl
        first | refine RestK.skip rfl ?_ | (apply RestK.go; exact rfl; exact rfl; intro E; (refine AOps.move rfl rfl ?_); exact AOps.nil ⟨rfl, rfl⟩)
        first | refine RestK.skip rfl ?_ | (apply RestK.go; exact rfl; exact rfl; intro E; (refine AOps.move rfl rfl ?_); exact AOps.nil ⟨rfl, rfl⟩)
        exact RestK.nil
        apply RestI.cons; exact rfl; exact rfl
        first | refine RestK.skip rfl ?_ | (apply RestK.go; exact rfl; exact rfl; intro E; (refine S.idx ha27 rfl rfl rfl rfl ?_); exact AOps.nil ⟨rfl, rfl⟩)
        first | refine RestK.skip rfl ?_ | (apply RestK.go; exact rfl; exact rfl; intro E; (refine S.idx ha27 rfl rfl rfl rfl ?_); exact AOps.nil ⟨rfl, rfl⟩)
        exact RestK.nil
        apply RestI.cons; exact rfl; exact rfl
        first | refine RestK.skip rfl ?_ | (apply RestK.go; exact rfl; exact rfl; intro E; (refine AOps.loadI rfl rfl rfl rfl ?_); exact AOps.nil ⟨rfl, rfl⟩)
        first | refine RestK.skip rfl ?_ | (apply RestK.go; exact rfl; exact rfl; intro E; (refine AOps.loadI rfl rfl rfl rfl ?_); exact AOps.nil ⟨rfl, rfl⟩)
        exact RestK.nil
        refine RestI.skip rfl ?_
        apply RestI.cons; exact rfl; exact rfl
        first | refine RestK.skip rfl ?_ | (apply RestK.go; exact rfl; exact rfl; intro E; (refine AOps.assign rfl rfl ?_); exact AOps.nil ⟨rfl, rfl⟩)
        first | refine RestK.skip rfl ?_ | (apply RestK.go; exact rfl; exact rfl; intro E; (refine AOps.assign rfl rfl ?_); exact AOps.nil ⟨rfl, rfl⟩)
        exact RestK.nil
        exact RestI.nil
      dsimp only [envEnd]
      refine inB_normal ?_
      refine thn_normal ?_
      refine AWP.region ?_
      refine AOps.move rfl rfl ?_
      refine AOps.add rfl rfl rfl (by omega) ?_
      refine AOps.assign rfl rfl ?_
      refine AOps.nil ?_
      have ej := Option.some.inj h
      subst ej
      refine thn_normal ⟨_, rfl, ?_⟩
      exact (Sub.frzV (id := 1) (l := a29) (env2 := [(1, .c (row 1 intI a29)), (2, .c (row 1 intI plan)), (3, .c (.ptr 0 0 0)), (8, .c (int (iv5 + 1)))]) (σ2 := [.one (.cells 4 [[int t.facts, row 1 intI t.init, row 1 intI t.goal, row 4 eTOperator t.operators]]), .dead]) rfl rfl (by exact ⟨⟨_, rfl, .inr ⟨_, rfl, rfl, rfl⟩⟩, ⟨_, rfl, .inl ⟨rfl, rfl⟩⟩, ⟨_, rfl, .inl ⟨rfl, rfl⟩⟩, ⟨_, rfl, .inl ⟨rfl, rfl⟩⟩, trivial⟩) rfl (by exact ⟨⟨rfl, .inl ⟨rfl, rfl⟩, .inl ⟨rfl, rfl⟩, .inl ⟨rfl, rfl⟩, .inl ⟨rfl, rfl⟩, trivial⟩, trivial, trivial⟩)).trans (Sub.cut ⟨rfl, rfl, rfl, rfl, trivial⟩ rfl ⟨.one rfl, trivial⟩ rfl)
  · intro e s hq
    rcases oo with sv4 | x
    · try dsimp only at h hq
      obtain ⟨rfl, hs⟩ := hq
      refine ⟨_, hs, ?_⟩
      refine inB_exit ?_
      refine thn_normal ?_
      refine AWP.seq ?_
      refine AWP.region ?_
      refine AOps.move rfl rfl ?_
      refine AOps.assign rfl rfl ?_
      refine AOps.assign rfl rfl ?_
      refine AOps.nil ?_
      refine thn_normal ?_
      refine AWP.ret ?_
      have ej := Option.some.inj h
      subst ej
      exact Done.ret rfl rfl
    · try dsimp only at h hq
      obtain ⟨rfl, hs⟩ := hq
      refine ⟨_, Sub.refl _ _, ?_⟩
      refine inB_ret ?_
      refine thn_ret ?_
      have ej := Option.some.inj h
      subst ej
      exact hs
theorem ref8_TurnsWork_ok {t : TTask} {goals : List (List Int)} {plans : List (List Int)} {turns : List Int} {r : Bool} (h : ref8_TurnsWork t goals plans turns = some r) : PureOk Tryd.prog 20 [.agg [int t.facts, row 1 intI t.init, row 1 intI t.goal, row 4 eTOperator t.operators], .c (row 1 eLi64 goals), .c (row 1 eLi64 plans), .c (row 1 intI turns)] (.c (bool r)) := by
  unfold PureOk
  refine FnOk.enter (rs := [.t 8]) Tryd.func20 rfl Tryd.ntmps20 Tryd.results20 rfl ⟨trivial, trivial⟩ (by kernel_rfl) rfl ?_
  unfold ref8_TurnsWork at h
  refine AWP.seq ?_
  refine AWP.region ?_
  refine W.box rfl rfl rfl rfl rfl rfl ?_
  refine AOps.assign rfl rfl ?_
  refine AOps.nil ?_
  refine thn_normal ?_
  refine AWP.seq ?_
  obtain ⟨a19, ha19, h⟩ := bind_some h
  refine AWP.region ?_
  refine AOps.move rfl rfl ?_
  refine S.len rfl rfl (fun hl18 => ?_)
  refine S.make (f := intI) ha19 (.val .nil) rfl rfl rfl rfl rfl rfl ?_
  refine AOps.assign rfl rfl ?_
  refine AOps.nil ?_
  refine thn_normal ?_
  refine AWP.seq ?_
  refine AWP.region ?_
  refine AOps.assign rfl rfl ?_
  refine AOps.nil ?_
  refine thn_normal ?_
  refine AWP.seq ?_
  refine AWP.seq ?_
  refine AWP.region ?_
  refine AOps.assign rfl rfl ?_
  refine AOps.nil ?_
  refine thn_normal ?_
  refine AWP.block ?_
  refine AWP.virtV 1 intI 10 rfl rfl rfl ?_
  obtain ⟨oo, ho1, h⟩ := bind_some h
  refine AWP.rngS ho1 (fun iv7 (c5, c6) => ⟨[(1, .c (row 1 eLi64 goals)), (2, .c (row 1 eLi64 plans)), (3, .c (row 1 intI turns)), (4, .c (.ptr 0 0 0)), (9, .c (.own 1 0 c5.length)), (10, .c (.own 2 0 c6.length)), (11, .c (int iv7))], [.one (.cells 4 [[int t.facts, row 1 intI t.init, row 1 intI t.goal, row 4 eTOperator t.operators]]), .one (vec 1 intI c5), .one (vec 1 intI c6)]⟩) (fun o e st => match o with | .inl (c5, c6) => e = .exit 0 ∧ Sub [] st ⟨[(1, .c (row 1 eLi64 goals)), (2, .c (row 1 eLi64 plans)), (4, .c (.ptr 0 0 0)), (9, .c (.own 1 0 c5.length)), (10, .c (.own 2 0 c6.length))], [.one (.cells 4 [[int t.facts, row 1 intI t.init, row 1 intI t.goal, row 4 eTOperator t.operators]]), .one (vec 1 intI c5), .one (vec 1 intI c6)]⟩ | .inr x => e = .ret ∧ Done [.t 8] (fun t _ => t = .c (bool x)) .ret st) ?_ ?_ ?_ ?_
  · try dsimp only
    exact Sub.env ⟨rfl, rfl, rfl, rfl, rfl, (own_len (by first | rfl | simp only [List.length_set])), rfl, trivial⟩
  · intro iv7 s hloiv7 hltiv7 _
    obtain ⟨c5, c6⟩ := s
    try dsimp only
    refine AWP.seq ?_
    refine AWP.seq ?_
    refine AWP.region ?_
    refine AOps.move rfl rfl ?_
    refine AOps.move rfl rfl ?_
    refine S.len rfl rfl (fun hl22 => ?_)
    refine AOps.lss rfl rfl rfl ?_
    refine AOps.nil ?_
    refine thn_normal ?_
    refine AWP.condNP rfl hltiv7 ?_
    refine AWP.exit ?_
    refine thn_exit ?_
    refine thn_exit ⟨rfl, ?_⟩
    exact Sub.env ⟨rfl, rfl, rfl, rfl, rfl, trivial⟩
  · intro iv7 s o hloiv7 hltiv7 h
    obtain ⟨c5, c6⟩ := s
    unfold ref8_TurnsWork_l1 at h
    try dsimp only at h ⊢
    refine AWP.seq ?_
    refine AWP.seq ?_
    refine AWP.region ?_
    refine AOps.move rfl rfl ?_
    refine AOps.move rfl rfl ?_
    refine S.len rfl rfl (fun hl22 => ?_)
    refine AOps.lss rfl rfl rfl ?_
    refine AOps.nil ?_
    refine thn_normal ?_
    refine AWP.condP rfl hltiv7 ?_
    refine AWP.skip ?_
    refine thn_normal ?_
    refine AWP.seq ?_
    refine AWP.block ?_
    refine AWP.seq ?_
    obtain ⟨a28, ha28, h⟩ := bind_some h
    refine AWP.region ?_
    refine AOps.move rfl rfl ?_
    refine AOps.move rfl rfl ?_
    refine S.idx ha28 rfl rfl rfl rfl ?_
    refine AOps.loadI rfl rfl rfl rfl ?_
    refine AOps.assign rfl rfl ?_
    refine AOps.nil ?_
    refine thn_normal ?_
    refine AWP.seq ?_
    refine AWP.seq ?_
    obtain ⟨a32, ha32, h⟩ := bind_some h
    obtain ⟨a36, ha36, h⟩ := bind_some h
    refine AWP.drawI mixed rfl ?_
    apply DrawSeq.consF; exact rfl; intro E
    refine AOps.move rfl rfl ?_
    exact AOps.nil ⟨rfl, rfl⟩
    exact rfl
    apply DrawSeq.consF; exact rfl; intro E
    refine AOps.move rfl rfl ?_
    exact AOps.nil ⟨rfl, rfl⟩
    exact rfl
    apply DrawSeq.consF; exact rfl; intro E
    refine S.idxO ha32 rfl rfl rfl rfl rfl ?_
    exact AOps.nil ⟨rfl, rfl⟩
    exact rfl
    apply DrawSeq.consF; exact rfl; intro E
    refine S.loadO ha32 rfl rfl rfl rfl rfl ?_
    exact AOps.nil ⟨rfl, rfl⟩
    exact rfl
    apply DrawSeq.consF; exact rfl; intro E
    refine AOps.move rfl rfl ?_
    exact AOps.nil ⟨rfl, rfl⟩
    exact rfl
    apply DrawSeq.consF; exact rfl; intro E
    refine AOps.move rfl rfl ?_
    exact AOps.nil ⟨rfl, rfl⟩
    exact rfl
    apply DrawSeq.consF; exact rfl; intro E
    refine S.idx ha36 rfl rfl rfl rfl ?_
    exact AOps.nil ⟨rfl, rfl⟩
    exact rfl
    apply DrawSeq.consF; exact rfl; intro E
    refine AOps.loadI rfl rfl rfl rfl ?_
    exact AOps.nil ⟨rfl, rfl⟩
    exact rfl
    apply DrawSeq.consF; exact rfl; intro E
    refine S.len rfl rfl (fun hl38 => ?_)
    exact AOps.nil ⟨rfl, rfl⟩
    exact rfl
    apply DrawSeq.consF; exact rfl; intro E
    refine AOps.geq rfl rfl rfl ?_
    exact AOps.nil ⟨rfl, rfl⟩
    exact rfl
    refine DrawSeq.done ?_
    dsimp only [envEnd]
    refine thn_normal ?_
    refine AWP.ite rfl h (fun hc8 h => ?_) (fun hc8 h => ?_)
    · refine AWP.seq ?_
      refine AWP.region ?_
      refine AOps.assign rfl rfl ?_
      refine AOps.nil ?_
      refine thn_normal ?_
      refine AWP.ret ?_
      refine thn_ret ?_
      refine inB_ret ?_
      refine thn_ret ?_
      have ej := Option.some.inj h
      subst ej
      refine thn_ret ⟨_, rfl, rfl, ?_⟩
      exact Done.ret rfl rfl
    · refine AWP.skip ?_
      refine thn_normal ?_
      refine AWP.seq ?_
      obtain ⟨a43, ha43, h⟩ := bind_some h
      obtain ⟨a47, ha47, h⟩ := bind_some h
      obtain ⟨a49, ha49, h⟩ := bind_some h
      obtain ⟨a52, ha52, h⟩ := bind_some h
      refine AWP.drawEI [11, 12] mixed rfl rfl rfl ?_
      apply DrawSeqE.consN; exact rfl; exact rfl; intro E
      refine AOps.move rfl rfl ?_
      exact AOps.nil ⟨rfl, rfl⟩
      exact rfl
      apply DrawSeqE.consN; exact rfl; exact rfl; intro E
      refine AOps.move rfl rfl ?_
      exact AOps.nil ⟨rfl, rfl⟩
      exact rfl
      apply DrawSeqE.consN; exact rfl; exact rfl; intro E
      refine AOps.move rfl rfl ?_
      exact AOps.nil ⟨rfl, rfl⟩
      exact rfl
      apply DrawSeqE.consN; exact rfl; exact rfl; intro E
      refine S.idx ha43 rfl rfl rfl rfl ?_
      exact AOps.nil ⟨rfl, rfl⟩
      exact rfl
      apply DrawSeqE.consN; exact rfl; exact rfl; intro E
      refine AOps.loadI rfl rfl rfl rfl ?_
      exact AOps.nil ⟨rfl, rfl⟩
      exact rfl
      apply DrawSeqE.consN; exact rfl; exact rfl; intro E
      refine AOps.move rfl rfl ?_
      exact AOps.nil ⟨rfl, rfl⟩
      exact rfl
      apply DrawSeqE.consN; exact rfl; exact rfl; intro E
      refine AOps.move rfl rfl ?_
      exact AOps.nil ⟨rfl, rfl⟩
      exact rfl
      apply DrawSeqE.consN; exact rfl; exact rfl; intro E
      refine S.idxO ha47 rfl rfl rfl rfl rfl ?_
      exact AOps.nil ⟨rfl, rfl⟩
      exact rfl
      apply DrawSeqE.consN; exact rfl; exact rfl; intro E
      refine S.loadO ha47 rfl rfl rfl rfl rfl ?_
      exact AOps.nil ⟨rfl, rfl⟩
      exact rfl
      apply DrawSeqE.consN; exact rfl; exact rfl; intro E
      refine S.idx ha49 rfl rfl rfl rfl ?_
      exact AOps.nil ⟨rfl, rfl⟩
      exact rfl
      apply DrawSeqE.consN; exact rfl; exact rfl; intro E
      refine AOps.loadI rfl rfl rfl rfl ?_
      exact AOps.nil ⟨rfl, rfl⟩
      exact rfl
      apply DrawSeqE.consE; exact rfl; exact rfl; intro E
      refine S.lit (f := intI) (l := [a49]) (ess := [[int a49]]) rfl rfl rfl rfl rfl rfl rfl ⟨⟨.inl rfl, trivial⟩, trivial⟩ rfl rfl rfl ?_
      exact AOps.nil ⟨rfl, rfl⟩
      exact rfl
      exact rfl
      apply DrawSeqE.consE; exact rfl; exact rfl; intro E
      refine S.append (f := intI) ha52 rfl rfl rfl rfl rfl rfl (.own rfl rfl) rfl rfl rfl rfl ?_
      exact AOps.nil ⟨rfl, rfl⟩
      exact rfl
      exact rfl
      apply DrawSeqE.consN; exact rfl; exact rfl; intro E
      refine AOps.assign rfl rfl ?_
      exact AOps.nil ⟨rfl, rfl⟩
      exact rfl
      refine DrawSeqE.done rfl ?_ ?_
      · apply RestI.cons; exact rfl; exact rfl
        first | refine RestK.skip rfl ?_ | (apply RestK.go; exact rfl; exact rfl; intro E; (refine AOps.move rfl rfl ?_); exact AOps.nil ⟨rfl, rfl⟩)
        first | refine RestK.skip rfl ?_ | (apply RestK.go; exact rfl; exact rfl; intro E; (refine AOps.move rfl rfl ?_); exact AOps.nil ⟨rfl, rfl⟩)
        first | refine RestK.skip rfl ?_ | (apply RestK.go; exact rfl; exact rfl; intro E; (refine AOps.move rfl rfl ?_); exact AOps.nil ⟨rfl, rfl⟩)
        exact RestK.nil
        apply RestI.cons; exact rfl; exact rfl
        first | refine RestK.skip rfl ?_ | (apply RestK.go; exact rfl; exact rfl; intro E; (refine AOps.move rfl rfl ?_); exact AOps.nil ⟨rfl, rfl⟩)
        first | refine RestK.skip rfl ?_ | (apply RestK.go; exact rfl; exact rfl; intro E; (refine AOps.move rfl rfl ?_); exact AOps.nil ⟨rfl, rfl⟩)
        first | refine RestK.skip rfl ?_ | (apply RestK.go; exact rfl; exact rfl; intro E; (refine AOps.move rfl rfl ?_); exact AOps.nil ⟨rfl, rfl⟩)
        exact RestK.nil
        apply RestI.cons; exact rfl; exact rfl
        first | refine RestK.skip rfl ?_ | (apply RestK.go; exact rfl; exact rfl; intro E; (refine AOps.move rfl rfl ?_); exact AOps.nil ⟨rfl, rfl⟩)
        first | refine RestK.skip rfl ?_ | (apply RestK.go; exact rfl; exact rfl; intro E; (refine AOps.move rfl rfl ?_); exact AOps.nil ⟨rfl, rfl⟩)
        first | refine RestK.skip rfl ?_ | (apply RestK.go; exact rfl; exact rfl; intro E; (refine AOps.move rfl rfl ?_); exact AOps.nil ⟨rfl, rfl⟩)
        exact RestK.nil
        apply RestI.cons; exact rfl; exact rfl
        first | refine RestK.skip rfl ?_ | (apply RestK.go; exact rfl; exact rfl; intro E; (refine S.idx ha43 rfl rfl rfl rfl ?_); exact AOps.nil ⟨rfl, rfl⟩)
        first | refine RestK.skip rfl ?_ | (apply RestK.go; exact rfl; exact rfl; intro E; (refine S.idx ha43 rfl rfl rfl rfl ?_); exact AOps.nil ⟨rfl, rfl⟩)
        first | refine RestK.skip rfl ?_ | (apply RestK.go; exact rfl; exact rfl; intro E; (refine S.idx ha43 rfl rfl rfl rfl ?_); exact AOps.nil ⟨rfl, rfl⟩)
        exact RestK.nil
        apply RestI.cons; exact rfl; exact rfl
        first | refine RestK.skip rfl ?_ | (apply RestK.go; exact rfl; exact rfl; intro E; (refine AOps.loadI rfl rfl rfl rfl ?_); exact AOps.nil ⟨rfl, rfl⟩)
        first | refine RestK.skip rfl ?_ | (apply RestK.go; exact rfl; exact rfl; intro E; (refine AOps.loadI rfl rfl rfl rfl ?_); exact AOps.nil ⟨rfl, rfl⟩)
        first | refine RestK.skip rfl ?_ | (apply RestK.go; exact rfl; exact rfl; intro E; (refine AOps.loadI rfl rfl rfl rfl ?_); exact AOps.nil ⟨rfl, rfl⟩)
        exact RestK.nil
        apply RestI.cons; exact rfl; exact rfl
        first | refine RestK.skip rfl ?_ | (apply RestK.go; exact rfl; exact rfl; intro E; (refine AOps.move rfl rfl ?_); exact AOps.nil ⟨rfl, rfl⟩)
        first | refine RestK.skip rfl ?_ | (apply RestK.go; exact rfl; exact rfl; intro E; (refine AOps.move rfl rfl ?_); exact AOps.nil ⟨rfl, rfl⟩)
        first | refine RestK.skip rfl ?_ | (apply RestK.go; exact rfl; exact rfl; intro E; (refine AOps.move rfl rfl ?_); exact AOps.nil ⟨rfl, rfl⟩)
        exact RestK.nil
        apply RestI.cons; exact rfl; exact rfl
        first | refine RestK.skip rfl ?_ | (apply RestK.go; exact rfl; exact rfl; intro E; (refine AOps.move rfl rfl ?_); exact AOps.nil ⟨rfl, rfl⟩)
        first | refine RestK.skip rfl ?_ | (apply RestK.go; exact rfl; exact rfl; intro E; (refine AOps.move rfl rfl ?_); exact AOps.nil ⟨rfl, rfl⟩)
        first | refine RestK.skip rfl ?_ | (apply RestK.go; exact rfl; exact rfl; intro E; (refine AOps.move rfl rfl ?_); exact AOps.nil ⟨rfl, rfl⟩)
        exact RestK.nil
        apply RestI.cons; exact rfl; exact rfl
        first | refine RestK.skip rfl ?_ | (apply RestK.go; exact rfl; exact rfl; intro E; (refine S.idxO ha47 rfl rfl rfl rfl rfl ?_); exact AOps.nil ⟨rfl, rfl⟩)
        first | refine RestK.skip rfl ?_ | (apply RestK.go; exact rfl; exact rfl; intro E; (refine S.idxO ha47 rfl rfl rfl rfl rfl ?_); exact AOps.nil ⟨rfl, rfl⟩)
        first | refine RestK.skip rfl ?_ | (apply RestK.go; exact rfl; exact rfl; intro E; (refine S.idxO ha47 rfl rfl rfl rfl rfl ?_); exact AOps.nil ⟨rfl, rfl⟩)
        exact RestK.nil
        apply RestI.cons; exact rfl; exact rfl
        first | refine RestK.skip rfl ?_ | (apply RestK.go; exact rfl; exact rfl; intro E; (refine S.loadO ha47 rfl rfl rfl rfl rfl ?_); exact AOps.nil ⟨rfl, rfl⟩)
        first | refine RestK.skip rfl ?_ | (apply RestK.go; exact rfl; exact rfl; intro E; (refine S.loadO ha47 rfl rfl rfl rfl rfl ?_); exact AOps.nil ⟨rfl, rfl⟩)
        first | refine RestK.skip rfl ?_ | (apply RestK.go; exact rfl; exact rfl; intro E; (refine S.loadO ha47 rfl rfl rfl rfl rfl ?_); exact AOps.nil ⟨rfl, rfl⟩)
        exact RestK.nil
        apply RestI.cons; exact rfl; exact rfl
        first | refine RestK.skip rfl ?_ | (apply RestK.go; exact rfl; exact rfl; intro E; (refine S.idx ha49 rfl rfl rfl rfl ?_); exact AOps.nil ⟨rfl, rfl⟩)
        first | refine RestK.skip rfl ?_ | (apply RestK.go; exact rfl; exact rfl; intro E; (refine S.idx ha49 rfl rfl rfl rfl ?_); exact AOps.nil ⟨rfl, rfl⟩)
        first | refine RestK.skip rfl ?_ | (apply RestK.go; exact rfl; exact rfl; intro E; (refine S.idx ha49 rfl rfl rfl rfl ?_); exact AOps.nil ⟨rfl, rfl⟩)
        exact RestK.nil
        apply RestI.cons; exact rfl; exact rfl
        first | refine RestK.skip rfl ?_ | (apply RestK.go; exact rfl; exact rfl; intro E; (refine AOps.loadI rfl rfl rfl rfl ?_); exact AOps.nil ⟨rfl, rfl⟩)
        first | refine RestK.skip rfl ?_ | (apply RestK.go; exact rfl; exact rfl; intro E; (refine AOps.loadI rfl rfl rfl rfl ?_); exact AOps.nil ⟨rfl, rfl⟩)
        first | refine RestK.skip rfl ?_ | (apply RestK.go; exact rfl; exact rfl; intro E; (refine AOps.loadI rfl rfl rfl rfl ?_); exact AOps.nil ⟨rfl, rfl⟩)
        exact RestK.nil
        refine RestI.skip rfl ?_
        refine RestI.skip rfl ?_
        apply RestI.cons; exact rfl; exact rfl
        first | refine RestK.skip rfl ?_ | (apply RestK.go; exact rfl; exact rfl; intro E; (refine AOps.assign rfl rfl ?_); exact AOps.nil ⟨rfl, rfl⟩)
        first | refine RestK.skip rfl ?_ | (apply RestK.go; exact rfl; exact rfl; intro E; (refine AOps.assign rfl rfl ?_); exact AOps.nil ⟨rfl, rfl⟩)
        first | refine RestK.skip rfl ?_ | (apply RestK.go; exact rfl; exact rfl; intro E; (refine AOps.assign rfl rfl ?_); exact AOps.nil ⟨rfl, rfl⟩)
        exact RestK.nil
        exact RestI.nil
      dsimp only [envEnd]
      refine thn_normal ?_
      refine AWP.move (env' := [(1, .c (row 1 eLi64 goals)), (2, .c (row 1 eLi64 plans)), (3, .c (row 1 intI turns)), (4, .c (.ptr 0 0 0)), (9, .c (.own 1 0 c5.length)), (10, .c (.own 2 0 a52.length)), (11, .c (int iv7)), (12, .c (int a28))]) (σ' := [.one (.cells 4 [[int t.facts, row 1 intI t.init, row 1 intI t.goal, row 4 eTOperator t.operators]]), .one (vec 1 intI c5), .one (vec 1 intI a52), .one (vec 1 intI [a49])]) 2 4 rfl rfl rfl ⟨rfl, rfl, rfl, rfl, rfl, rfl, rfl, rfl, trivial⟩ rfl ⟨⟨rfl, rfl⟩, ⟨Blk.im_ok _ _ _, vec_mv rfl⟩, ⟨Blk.im_ok _ _ _, vec_mv rfl⟩, ⟨Blk.im_ok _ _ _, vec_mv rfl⟩, trivial⟩ ?_
      obtain ⟨a55, ha55, h⟩ := bind_some h
      obtain ⟨a58, ha58, h⟩ := bind_some h
      refine AWP.region ?_
      refine AOps.move rfl rfl ?_
      refine AOps.move rfl rfl ?_
      refine S.idxO ha55 rfl rfl rfl rfl rfl ?_
      refine S.loadO ha55 rfl rfl rfl rfl rfl ?_
      refine S.add rfl rfl rfl ?_
      refine S.idxO ha58 rfl rfl rfl rfl rfl ?_
      refine S.storeO1 (f := intI) (a' := w64 (a55 + 1)) (ix_lt ha58) (fun _ => ⟨_, rfl⟩) rfl rfl rfl rfl rfl ?_
      refine AOps.nil ?_
      refine inB_normal ?_
      refine thn_normal ?_
      refine AWP.region ?_
      refine AOps.move rfl rfl ?_
      refine AOps.add rfl rfl rfl (by omega) ?_
      refine AOps.assign rfl rfl ?_
      refine AOps.nil ?_
      have ej := Option.some.inj h
      subst ej
      refine thn_normal ⟨_, rfl, ?_⟩
      exact Sub.cut ⟨rfl, rfl, rfl, rfl, (own_len (by first | rfl | simp only [List.length_set])), rfl, rfl, trivial⟩ rfl ⟨.one rfl, .vec, .vec, trivial⟩ rfl
  · intro e s hq
    rcases oo with ⟨c5, c6⟩ | x
    · try dsimp only at h hq
      obtain ⟨rfl, hs⟩ := hq
      refine ⟨_, hs, ?_⟩
      refine inB_exit ?_
      refine thn_normal ?_
      refine AWP.seq ?_
      refine AWP.seq ?_
      refine AWP.region ?_
      refine AOps.assign rfl rfl ?_
      refine AOps.nil ?_
      refine thn_normal ?_
      refine AWP.block ?_
      obtain ⟨oo, ho2, h⟩ := bind_some h
      refine AWP.rngS ho2 (fun p9 _ => ⟨[(1, .c (row 1 eLi64 goals)), (2, .c (row 1 eLi64 plans)), (4, .c (.ptr 0 0 0)), (9, .c (.own 1 0 c5.length)), (10, .c (.own 2 0 c6.length)), (13, .c (int p9))], [.one (.cells 4 [[int t.facts, row 1 intI t.init, row 1 intI t.goal, row 4 eTOperator t.operators]]), .one (vec 1 intI c5), .one (vec 1 intI c6)]⟩) (fun o e st => match o with | .inl _ => e = .exit 2 ∧ Sub [] st ⟨[(1, .c (row 1 eLi64 goals)), (4, .c (.ptr 0 0 0)), (10, .c (.own 2 0 c6.length))], [.one (.cells 4 [[int t.facts, row 1 intI t.init, row 1 intI t.goal, row 4 eTOperator t.operators]]), .one (vec 1 intI c5), .one (vec 1 intI c6)]⟩ | .inr x => e = .ret ∧ Done [.t 8] (fun t _ => t = .c (bool x)) .ret st) ?_ ?_ ?_ ?_
      · try dsimp only
        exact Sub.env ⟨rfl, rfl, rfl, rfl, rfl, rfl, trivial⟩
      · intro p9 s hlop9 hltp9 _
        try dsimp only
        refine AWP.seq ?_
        refine AWP.seq ?_
        refine AWP.region ?_
        refine AOps.move rfl rfl ?_
        refine AOps.move rfl rfl ?_
        refine S.len rfl rfl (fun hl61 => ?_)
        refine AOps.lss rfl rfl rfl ?_
        refine AOps.nil ?_
        refine thn_normal ?_
        refine AWP.condNP rfl hltp9 ?_
        refine AWP.exit ?_
        refine thn_exit ?_
        refine thn_exit ⟨rfl, ?_⟩
        exact Sub.env ⟨rfl, rfl, rfl, trivial⟩
      · intro p9 s o hlop9 hltp9 h
        unfold ref8_TurnsWork_l2 at h
        try dsimp only at h ⊢
        refine AWP.seq ?_
        refine AWP.seq ?_
        refine AWP.region ?_
        refine AOps.move rfl rfl ?_
        refine AOps.move rfl rfl ?_
        refine S.len rfl rfl (fun hl61 => ?_)
        refine AOps.lss rfl rfl rfl ?_
        refine AOps.nil ?_
        refine thn_normal ?_
        refine AWP.condP rfl hltp9 ?_
        refine AWP.skip ?_
        refine thn_normal ?_
        refine AWP.seq ?_
        refine AWP.block ?_
        refine AWP.seq ?_
        obtain ⟨a67, ha67, h⟩ := bind_some h
        obtain ⟨a71, ha71, h⟩ := bind_some h
        refine AWP.drawI mixed rfl ?_
        apply DrawSeq.consF; exact rfl; intro E
        refine AOps.move rfl rfl ?_
        exact AOps.nil ⟨rfl, rfl⟩
        exact rfl
        apply DrawSeq.consF; exact rfl; intro E
        refine AOps.move rfl rfl ?_
        exact AOps.nil ⟨rfl, rfl⟩
        exact rfl
        apply DrawSeq.consF; exact rfl; intro E
        refine S.idxO ha67 rfl rfl rfl rfl rfl ?_
        exact AOps.nil ⟨rfl, rfl⟩
        exact rfl
        apply DrawSeq.consF; exact rfl; intro E
        refine S.loadO ha67 rfl rfl rfl rfl rfl ?_
        exact AOps.nil ⟨rfl, rfl⟩
        exact rfl
        apply DrawSeq.consF; exact rfl; intro E
        refine AOps.move rfl rfl ?_
        exact AOps.nil ⟨rfl, rfl⟩
        exact rfl
        apply DrawSeq.consF; exact rfl; intro E
        refine AOps.move rfl rfl ?_
        exact AOps.nil ⟨rfl, rfl⟩
        exact rfl
        apply DrawSeq.consF; exact rfl; intro E
        refine S.idx ha71 rfl rfl rfl rfl ?_
        exact AOps.nil ⟨rfl, rfl⟩
        exact rfl
        apply DrawSeq.consF; exact rfl; intro E
        refine AOps.loadI rfl rfl rfl rfl ?_
        exact AOps.nil ⟨rfl, rfl⟩
        exact rfl
        apply DrawSeq.consF; exact rfl; intro E
        refine S.len rfl rfl (fun hl73 => ?_)
        exact AOps.nil ⟨rfl, rfl⟩
        exact rfl
        apply DrawSeq.consF; exact rfl; intro E
        refine AOps.lss rfl rfl rfl ?_
        exact AOps.nil ⟨rfl, rfl⟩
        exact rfl
        refine DrawSeq.done ?_
        dsimp only [envEnd]
        refine thn_normal ?_
        refine AWP.ite rfl h (fun hc10 h => ?_) (fun hc10 h => ?_)
        · refine AWP.seq ?_
          refine AWP.region ?_
          refine AOps.assign rfl rfl ?_
          refine AOps.nil ?_
          refine thn_normal ?_
          refine AWP.ret ?_
          refine inB_ret ?_
          refine thn_ret ?_
          have ej := Option.some.inj h
          subst ej
          refine thn_ret ⟨_, rfl, rfl, ?_⟩
          exact Done.ret rfl rfl
        · refine AWP.skip ?_
          refine inB_normal ?_
          refine thn_normal ?_
          refine AWP.region ?_
          refine AOps.move rfl rfl ?_
          refine AOps.add rfl rfl rfl (by omega) ?_
          refine AOps.assign rfl rfl ?_
          refine AOps.nil ?_
          have ej := Option.some.inj h
          subst ej
          refine thn_normal ⟨_, rfl, ?_⟩
          exact Sub.env ⟨rfl, rfl, rfl, rfl, rfl, rfl, trivial⟩
      · intro e s hq
        rcases oo with u | x
        · try dsimp only at h hq
          obtain ⟨rfl, hs⟩ := hq
          refine ⟨_, hs, ?_⟩
          refine inB_exit ?_
          refine thn_normal ?_
          refine AWP.seq ?_
          obtain ⟨a80, ha80, h⟩ := bind_some h
          refine AWP.region ?_
          refine W.loadAgg rfl rfl rfl rfl rfl rfl rfl ?_
          refine W.fieldAddr rfl rfl rfl rfl ?_
          refine AOps.load rfl rfl rfl rfl rfl rfl ?_
          refine AOps.move rfl rfl ?_
          refine AOps.frzV (id := 2) (l := c6) (env2 := [(1, .c (row 1 eLi64 goals)), (76, .agg [int t.facts, row 1 intI t.init, row 1 intI t.goal, row 4 eTOperator t.operators]), (78, .c (row 1 intI t.init)), (79, .c (row 1 intI c6))]) (σ2 := [.one (.cells 4 [[int t.facts, row 1 intI t.init, row 1 intI t.goal, row 4 eTOperator t.operators]]), .one (vec 1 intI c5), .dead]) rfl rfl (by exact ⟨⟨_, rfl, .inl ⟨rfl, rfl⟩⟩, ⟨_, rfl, ⟨.inl ⟨rfl, rfl⟩, .inl ⟨rfl, rfl⟩, .inl ⟨rfl, rfl⟩, .inl ⟨rfl, rfl⟩, trivial⟩⟩, ⟨_, rfl, .inl ⟨rfl, rfl⟩⟩, ⟨_, rfl, .inr ⟨_, rfl, rfl, rfl⟩⟩, trivial⟩) rfl (by exact ⟨⟨rfl, .inl ⟨rfl, rfl⟩, .inl ⟨rfl, rfl⟩, .inl ⟨rfl, rfl⟩, .inl ⟨rfl, rfl⟩, trivial⟩, FrzB.vec, trivial, trivial⟩) ?_; refine AOps.callR rfl rfl rfl rfl (ref1_Ends_ok ha80) rfl ?_
          refine AOps.move rfl rfl ?_
          refine AOps.extract rfl rfl rfl ?_
          refine AOps.extract rfl rfl rfl ?_
          refine AOps.assign rfl rfl ?_
          refine AOps.assign rfl rfl ?_
          refine AOps.nil ?_
          refine thn_normal ?_
          refine AWP.seq ?_
          refine AWP.seq ?_
          refine AWP.region ?_
          refine AOps.assign rfl rfl ?_
          refine AOps.nil ?_
          refine thn_normal ?_
          refine AWP.block ?_
          obtain ⟨ok11, ho3, h⟩ := bind_some h
          refine AWP.forS ho3 (fun p12 ok11 => ⟨[(1, .c (row 1 eLi64 goals)), (14, .c (row 1 intI a80.1)), (15, .c (bool ok11)), (16, .c (int p12))], []⟩) (fun ok11 e st => e = .exit 4 ∧ Sub [] st ⟨[(15, .c (bool ok11))], []⟩) ?_ ?_ ?_ ?_
          · try dsimp only
            exact Sub.cut ⟨rfl, rfl, rfl, rfl, trivial⟩ rfl trivial rfl
          · intro p12 ok11 hlop12 hltp12 _
            try dsimp only
            refine AWP.seq ?_
            refine AWP.seq ?_
            refine AWP.region ?_
            refine AOps.move rfl rfl ?_
            refine AOps.move rfl rfl ?_
            refine S.len rfl rfl (fun hl85 => ?_)
            refine AOps.lss rfl rfl rfl ?_
            refine AOps.nil ?_
            refine thn_normal ?_
            refine AWP.condNP rfl hltp12 ?_
            refine AWP.exit ?_
            refine thn_exit ?_
            refine thn_exit ⟨rfl, ?_⟩
            exact Sub.env ⟨rfl, trivial⟩
          · intro p12 ok11 o hlop12 hltp12 h
            unfold ref8_TurnsWork_l3 at h
            try dsimp only at h ⊢
            refine AWP.seq ?_
            refine AWP.seq ?_
            refine AWP.region ?_
            refine AOps.move rfl rfl ?_
            refine AOps.move rfl rfl ?_
            refine S.len rfl rfl (fun hl85 => ?_)
            refine AOps.lss rfl rfl rfl ?_
            refine AOps.nil ?_
            refine thn_normal ?_
            refine AWP.condP rfl hltp12 ?_
            refine AWP.skip ?_
            refine thn_normal ?_
            obtain ⟨ok13, hx14, h⟩ := bind_some h
            refine AWP.seqJ (⟨[(1, .c (row 1 eLi64 goals)), (14, .c (row 1 intI a80.1)), (15, .c (bool ok13)), (16, .c (int p12))], []⟩) ?_ ?_
            · refine AWP.block ?_
              rcases Bool.eq_false_or_eq_true (ok11) with hb15 | hb15
              · replace hx14 := iteBT hb15 hx14
                obtain ⟨a93, ha93, hx14⟩ := bind_some hx14
                obtain ⟨a96, ha96, hx14⟩ := bind_some hx14
                refine AWP.region ?_
                refine AOps.move rfl rfl ?_
                refine AOps.move rfl rfl ?_
                refine AOps.guardT rfl rfl rfl hb15 ?_; refine AOps.move rfl rfl ?_
                refine AOps.guardT rfl rfl rfl hb15 ?_; refine AOps.move rfl rfl ?_
                refine AOps.guardT rfl rfl rfl hb15 ?_; refine S.idx ha93 rfl rfl rfl rfl ?_
                refine AOps.guardT rfl rfl rfl hb15 ?_; refine AOps.loadI rfl rfl rfl rfl ?_
                refine AOps.guardT rfl rfl rfl hb15 ?_; refine AOps.move rfl rfl ?_
                refine AOps.guardT rfl rfl rfl hb15 ?_; refine AOps.callR rfl rfl rfl rfl (ref1_Subset_ok ha96) rfl ?_
                refine AOps.pickT rfl hb15 rfl rfl ?_
                refine AOps.assign rfl rfl ?_
                refine AOps.nil ?_
                refine inB_normal ?_
                have ej := Option.some.inj hx14
                subst ej
                refine thn_normal ?_
                exact Sub.env ⟨rfl, rfl, rfl, rfl, trivial⟩
              · replace hx14 := iteBF hb15 hx14
                refine AWP.region ?_
                refine AOps.move rfl rfl ?_
                refine AOps.move rfl rfl ?_
                refine AOps.guardF rfl rfl rfl hb15 ?_
                refine AOps.guardF rfl rfl rfl hb15 ?_
                refine AOps.guardF rfl rfl rfl hb15 ?_
                refine AOps.guardF rfl rfl rfl hb15 ?_
                refine AOps.guardF rfl rfl rfl hb15 ?_
                refine AOps.guardF rfl rfl rfl hb15 ?_
                refine AOps.pickF rfl hb15 rfl rfl ?_
                refine AOps.assign rfl rfl ?_
                refine AOps.nil ?_
                refine inB_normal ?_
                have ej := Option.some.inj hx14
                subst ej
                refine thn_normal ?_
                exact Sub.env ⟨rfl, rfl, rfl, rfl, trivial⟩
            · refine AWP.region ?_
              refine AOps.move rfl rfl ?_
              refine AOps.add rfl rfl rfl (by omega) ?_
              refine AOps.assign rfl rfl ?_
              refine AOps.nil ?_
              have ej := Option.some.inj h
              subst ej
              refine thn_normal ?_
              exact Sub.env ⟨rfl, rfl, rfl, rfl, trivial⟩
          · intro e s hq
            obtain ⟨rfl, hs⟩ := hq
            refine ⟨_, hs, ?_⟩
            refine inB_exit ?_
            refine thn_normal ?_
            refine AWP.seq ?_
            refine AWP.region ?_
            refine AOps.move rfl rfl ?_
            refine AOps.assign rfl rfl ?_
            refine AOps.nil ?_
            refine thn_normal ?_
            refine AWP.ret ?_
            have ej := Option.some.inj h
            subst ej
            exact Done.ret rfl rfl
        · try dsimp only at h hq
          obtain ⟨rfl, hs⟩ := hq
          refine ⟨_, Sub.refl _ _, ?_⟩
          refine inB_ret ?_
          refine thn_ret ?_
          have ej := Option.some.inj h
          subst ej
          exact hs
    · try dsimp only at h hq
      obtain ⟨rfl, hs⟩ := hq
      refine ⟨_, Sub.refl _ _, ?_⟩
      refine inB_ret ?_
      refine thn_ret ?_
      have ej := Option.some.inj h
      subst ej
      exact hs
end Ab
end
