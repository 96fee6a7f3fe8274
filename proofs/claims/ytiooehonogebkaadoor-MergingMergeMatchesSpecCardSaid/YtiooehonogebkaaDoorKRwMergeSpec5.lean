/-
  Texts that the proof stands on.
-/
import Derived.Test.YtiooehonogebkaaDoorKRwMergeSpec4
set_option linter.all false
section
namespace Ab
open Go Go.Proofs
set_option maxHeartbeats 4000000
set_option linter.all false
attribute [local irreducible] AWP AOps thn inB Done PureOk FreshOk Sub
theorem ref8_PartiesFault_ok {t : TTask} {goals : List (List Int)} {plans : List (List Int)} {r : TFault} (h : ref8_PartiesFault t goals plans = some r) : PureOk Tryd.prog 9 [.agg [int t.facts, row 1 intI t.init, row 1 intI t.goal, row 4 eTOperator t.operators], .c (row 1 eLi64 goals), .c (row 1 eLi64 plans)] (.agg [int r.code, int r.index]) := by
  unfold PureOk
  refine FnOk.enter (rs := [.cell 6 28 2]) Tryd.func9 rfl Tryd.ntmps9 Tryd.results9 rfl ⟨rv _ rfl, trivial⟩ (by kernel_rfl) rfl ?_
  unfold ref8_PartiesFault at h
  refine AWP.seq ?_
  refine AWP.region ?_
  refine W.box rfl rfl rfl rfl rfl rfl ?_
  refine W.alloc rfl rfl rfl rfl ?_
  refine AOps.nil ?_
  refine thn_normal ?_
  refine AWP.seq ?_
  refine AWP.seq ?_
  obtain ⟨a11, ha11, h⟩ := bind_some h
  refine AWP.region ?_
  refine W.loadAgg rfl rfl rfl rfl rfl rfl rfl ?_
  refine AOps.callR rfl rfl rfl rfl (ref1_TaskFault_ok ha11) rfl ?_
  refine W.alloc rfl rfl rfl rfl ?_
  refine W.storeAgg rfl rfl rfl rfl rfl rfl rfl ?_
  refine AOps.nil ?_
  refine thn_normal ?_
  refine AWP.seq ?_
  refine AWP.region ?_
  refine W.fieldAddr rfl rfl rfl rfl ?_
  refine AOps.load rfl rfl rfl rfl rfl rfl ?_
  refine AOps.neq rfl rfl rfl ?_
  refine AOps.nil ?_
  refine thn_normal ?_
  refine AWP.iteN rfl h (fun hc4 h => ?_) (fun hc4 h => ?_)
  · refine AWP.seq ?_
    refine AWP.region ?_
    refine W.loadAgg rfl rfl rfl rfl rfl rfl rfl ?_
    refine W.storeAgg rfl rfl rfl rfl rfl rfl rfl ?_
    refine AOps.nil ?_
    refine thn_normal ?_
    refine AWP.ret ?_
    refine thn_ret ?_
    have ej := Option.some.inj h
    subst ej
    exact Done.ret rfl rfl
  · refine AWP.skip ?_
    refine thn_normal ?_
    refine AWP.seq ?_
    refine AWP.seq ?_
    obtain ⟨a18, ha18, h⟩ := bind_some h
    refine AWP.region ?_
    refine AOps.move rfl rfl ?_
    refine S.len rfl rfl (fun hl17 => ?_)
    refine AOps.callR rfl rfl rfl rfl (ref1_In_ok ha18) rfl ?_
    refine AOps.not rfl rfl ?_
    refine AOps.nil ?_
    refine thn_normal ?_
    refine AWP.iteB rfl h (fun hc5 h => ?_) (fun hc5 h => ?_)
    · refine AWP.seq ?_
      obtain ⟨a20, ha20, h⟩ := bind_some h
      refine AWP.region ?_
      refine AOps.callR rfl rfl rfl rfl (ref1_At_ok ha20) rfl ?_
      refine W.storeAgg rfl rfl rfl rfl rfl rfl rfl ?_
      refine AOps.nil ?_
      refine thn_normal ?_
      refine AWP.ret ?_
      refine thn_ret ?_
      have ej := Option.some.inj h
      subst ej
      exact Done.ret rfl rfl
    · refine AWP.skip ?_
      refine thn_normal ?_
      refine AWP.seq ?_
      refine AWP.seq ?_
      refine AWP.region ?_
      refine AOps.move rfl rfl ?_
      refine S.len rfl rfl (fun hl22 => ?_)
      refine AOps.move rfl rfl ?_
      refine S.len rfl rfl (fun hl24 => ?_)
      refine AOps.neq rfl rfl rfl ?_
      refine AOps.nil ?_
      refine thn_normal ?_
      refine AWP.iteN rfl h (fun hc6 h => ?_) (fun hc6 h => ?_)
      · refine AWP.seq ?_
        obtain ⟨a26, ha26, h⟩ := bind_some h
        refine AWP.region ?_
        refine AOps.callR rfl rfl rfl rfl (ref1_At_ok ha26) rfl ?_
        refine W.storeAgg rfl rfl rfl rfl rfl rfl rfl ?_
        refine AOps.nil ?_
        refine thn_normal ?_
        refine AWP.ret ?_
        refine thn_ret ?_
        have ej := Option.some.inj h
        subst ej
        exact Done.ret rfl rfl
      · refine AWP.skip ?_
        refine thn_normal ?_
        refine AWP.seq ?_
        refine AWP.seq ?_
        refine AWP.region ?_
        refine AOps.assign rfl rfl ?_
        refine AOps.nil ?_
        refine thn_normal ?_
        refine AWP.block ?_
        obtain ⟨oo, ho1, h⟩ := bind_some h
        refine AWP.rngS ho1 (fun p7 _ => ⟨[(1, .c (row 1 eLi64 goals)), (2, .c (row 1 eLi64 plans)), (3, .c (.ptr 0 0 0)), (6, .c (.ptr 1 0 0)), (8, .c (int p7))], [.one (.cells 4 [[int t.facts, row 1 intI t.init, row 1 intI t.goal, row 4 eTOperator t.operators]]), .one (.cells 2 [[int 0, int 0]])]⟩) (fun o e st => match o with | .inl _ => e = .exit 0 ∧ Sub [] st ⟨[(2, .c (row 1 eLi64 plans)), (3, .c (.ptr 0 0 0)), (6, .c (.ptr 1 0 0))], [.one (.cells 4 [[int t.facts, row 1 intI t.init, row 1 intI t.goal, row 4 eTOperator t.operators]]), .one (.cells 2 [[int 0, int 0]])]⟩ | .inr x => e = .ret ∧ Done [.cell 6 28 2] (fun t _ => t = .agg [int x.code, int x.index]) .ret st) ?_ ?_ ?_ ?_
        · try dsimp only
          exact Sub.cut ⟨rfl, rfl, rfl, rfl, rfl, trivial⟩ rfl ⟨.one rfl, .one rfl, trivial⟩ rfl
        · intro p7 s hlop7 hltp7 _
          try dsimp only
          refine AWP.seq ?_
          refine AWP.seq ?_
          refine AWP.region ?_
          refine AOps.move rfl rfl ?_
          refine AOps.move rfl rfl ?_
          refine S.len rfl rfl (fun hl29 => ?_)
          refine AOps.lss rfl rfl rfl ?_
          refine AOps.nil ?_
          refine thn_normal ?_
          refine AWP.condNP rfl hltp7 ?_
          refine AWP.exit ?_
          refine thn_exit ?_
          refine thn_exit ⟨rfl, ?_⟩
          exact Sub.env ⟨rfl, rfl, rfl, trivial⟩
        · intro p7 s o hlop7 hltp7 h
          unfold ref8_PartiesFault_l1 at h
          try dsimp only at h ⊢
          refine AWP.seq ?_
          refine AWP.seq ?_
          refine AWP.region ?_
          refine AOps.move rfl rfl ?_
          refine AOps.move rfl rfl ?_
          refine S.len rfl rfl (fun hl29 => ?_)
          refine AOps.lss rfl rfl rfl ?_
          refine AOps.nil ?_
          refine thn_normal ?_
          refine AWP.condP rfl hltp7 ?_
          refine AWP.skip ?_
          refine thn_normal ?_
          refine AWP.seq ?_
          refine AWP.block ?_
          refine AWP.seq ?_
          obtain ⟨a35, ha35, h⟩ := bind_some h
          obtain ⟨a39, ha39, h⟩ := bind_some h
          refine AWP.drawI mixed rfl ?_
          apply DrawSeq.consF; exact rfl; intro E
          refine AOps.move rfl rfl ?_
          exact AOps.nil ⟨rfl, rfl⟩
          exact rfl
          apply DrawSeq.consF; exact rfl; intro E
          refine AOps.move rfl rfl ?_
          exact AOps.nil ⟨rfl, rfl⟩
          exact rfl
          apply DrawSeq.consF; exact rfl; intro E
          refine S.idx ha35 rfl rfl rfl rfl ?_
          exact AOps.nil ⟨rfl, rfl⟩
          exact rfl
          apply DrawSeq.consF; exact rfl; intro E
          refine AOps.loadI rfl rfl rfl rfl ?_
          exact AOps.nil ⟨rfl, rfl⟩
          exact rfl
          apply DrawSeq.consF; exact rfl; intro E
          refine W.fieldAddr rfl rfl rfl rfl ?_
          exact AOps.nil ⟨rfl, rfl⟩
          exact rfl
          apply DrawSeq.consF; exact rfl; intro E
          refine AOps.load rfl rfl rfl rfl rfl rfl ?_
          exact AOps.nil ⟨rfl, rfl⟩
          exact rfl
          apply DrawSeq.consF; exact rfl; intro E
          refine AOps.callR rfl rfl rfl rfl (ref1_IsSet_ok ha39) rfl ?_
          exact AOps.nil ⟨rfl, rfl⟩
          exact rfl
          apply DrawSeq.consF; exact rfl; intro E
          refine AOps.not rfl rfl ?_
          exact AOps.nil ⟨rfl, rfl⟩
          exact rfl
          refine DrawSeq.done ?_
          dsimp only [envEnd]
          refine thn_normal ?_
          refine AWP.iteB rfl h (fun hc8 h => ?_) (fun hc8 h => ?_)
          · refine AWP.seq ?_
            obtain ⟨a43, ha43, h⟩ := bind_some h
            refine AWP.region ?_
            refine AOps.move rfl rfl ?_
            refine S.sub rfl rfl rfl ?_
            refine AOps.callR rfl rfl rfl rfl (ref1_At_ok ha43) rfl ?_
            refine W.storeAgg rfl rfl rfl rfl rfl rfl rfl ?_
            refine AOps.nil ?_
            refine thn_normal ?_
            refine AWP.ret ?_
            refine inB_ret ?_
            refine thn_ret ?_
            have ej := Option.some.inj h
            subst ej
            refine thn_ret ⟨_, rfl, rfl, ?_⟩
            exact Done.ret rfl rfl
          · refine AWP.skip ?_
            refine inB_normal ?_
            refine thn_normal ?_
            refine AWP.region ?_
            refine AOps.move rfl rfl ?_
            refine AOps.add rfl rfl rfl (by omega) ?_
            refine AOps.assign rfl rfl ?_
            refine AOps.nil ?_
            have ej := Option.some.inj h
            subst ej
            refine thn_normal ⟨_, rfl, ?_⟩
            exact Sub.env ⟨rfl, rfl, rfl, rfl, rfl, trivial⟩
        · intro e s hq
          rcases oo with u | x
          · try dsimp only at h hq
            obtain ⟨rfl, hs⟩ := hq
            refine ⟨_, hs, ?_⟩
            refine inB_exit ?_
            refine thn_normal ?_
            refine AWP.seq ?_
            refine AWP.seq ?_
            refine AWP.region ?_
            refine AOps.assign rfl rfl ?_
            refine AOps.nil ?_
            refine thn_normal ?_
            refine AWP.block ?_
            obtain ⟨oo, ho2, h⟩ := bind_some h
            refine AWP.rngS ho2 (fun p9 _ => ⟨[(2, .c (row 1 eLi64 plans)), (3, .c (.ptr 0 0 0)), (6, .c (.ptr 1 0 0)), (9, .c (int p9))], [.one (.cells 4 [[int t.facts, row 1 intI t.init, row 1 intI t.goal, row 4 eTOperator t.operators]]), .one (.cells 2 [[int 0, int 0]])]⟩) (fun o e st => match o with | .inl _ => e = .exit 2 ∧ Sub [] st ⟨[(6, .c (.ptr 1 0 0))], [.one (.cells 4 [[int t.facts, row 1 intI t.init, row 1 intI t.goal, row 4 eTOperator t.operators]]), .one (.cells 2 [[int 0, int 0]])]⟩ | .inr x => e = .ret ∧ Done [.cell 6 28 2] (fun t _ => t = .agg [int x.code, int x.index]) .ret st) ?_ ?_ ?_ ?_
            · try dsimp only
              exact Sub.env ⟨rfl, rfl, rfl, rfl, trivial⟩
            · intro p9 s hlop9 hltp9 _
              try dsimp only
              refine AWP.seq ?_
              refine AWP.seq ?_
              refine AWP.region ?_
              refine AOps.move rfl rfl ?_
              refine AOps.move rfl rfl ?_
              refine S.len rfl rfl (fun hl46 => ?_)
              refine AOps.lss rfl rfl rfl ?_
              refine AOps.nil ?_
              refine thn_normal ?_
              refine AWP.condNP rfl hltp9 ?_
              refine AWP.exit ?_
              refine thn_exit ?_
              refine thn_exit ⟨rfl, ?_⟩
              exact Sub.env ⟨rfl, trivial⟩
            · intro p9 s o hlop9 hltp9 h
              unfold ref8_PartiesFault_l2 at h
              try dsimp only at h ⊢
              refine AWP.seq ?_
              refine AWP.seq ?_
              refine AWP.region ?_
              refine AOps.move rfl rfl ?_
              refine AOps.move rfl rfl ?_
              refine S.len rfl rfl (fun hl46 => ?_)
              refine AOps.lss rfl rfl rfl ?_
              refine AOps.nil ?_
              refine thn_normal ?_
              refine AWP.condP rfl hltp9 ?_
              refine AWP.skip ?_
              refine thn_normal ?_
              refine AWP.seq ?_
              refine AWP.block ?_
              refine AWP.seq ?_
              refine AWP.seq ?_
              obtain ⟨a52, ha52, h⟩ := bind_some h
              refine AWP.region ?_
              refine AOps.move rfl rfl ?_
              refine AOps.move rfl rfl ?_
              refine S.idx ha52 rfl rfl rfl rfl ?_
              refine AOps.loadI rfl rfl rfl rfl ?_
              refine S.len rfl rfl (fun hl54 => ?_)
              refine AOps.gtr rfl rfl rfl ?_
              refine AOps.nil ?_
              refine thn_normal ?_
              refine AWP.ite rfl h (fun hc10 h => ?_) (fun hc10 h => ?_)
              · refine AWP.seq ?_
                obtain ⟨a58, ha58, h⟩ := bind_some h
                refine AWP.region ?_
                refine AOps.move rfl rfl ?_
                refine S.sub rfl rfl rfl ?_
                refine AOps.callR rfl rfl rfl rfl (ref1_At_ok ha58) rfl ?_
                refine W.storeAgg rfl rfl rfl rfl rfl rfl rfl ?_
                refine AOps.nil ?_
                refine thn_normal ?_
                refine AWP.ret ?_
                refine thn_ret ?_
                refine inB_ret ?_
                refine thn_ret ?_
                have ej := Option.some.inj h
                subst ej
                refine thn_ret ⟨_, rfl, rfl, ?_⟩
                exact Done.ret rfl rfl
              · refine AWP.skip ?_
                refine thn_normal ?_
                refine AWP.seq ?_
                obtain ⟨a64, ha64, h⟩ := bind_some h
                obtain ⟨a66, ha66, h⟩ := bind_some h
                refine AWP.drawI mixed rfl ?_
                apply DrawSeq.consF; exact rfl; intro E
                refine W.fieldAddr rfl rfl rfl rfl ?_
                exact AOps.nil ⟨rfl, rfl⟩
                exact rfl
                apply DrawSeq.consF; exact rfl; intro E
                refine AOps.load rfl rfl rfl rfl rfl rfl ?_
                exact AOps.nil ⟨rfl, rfl⟩
                exact rfl
                apply DrawSeq.consF; exact rfl; intro E
                refine S.len rfl rfl (fun hl61 => ?_)
                exact AOps.nil ⟨rfl, rfl⟩
                exact rfl
                apply DrawSeq.consF; exact rfl; intro E
                refine AOps.move rfl rfl ?_
                exact AOps.nil ⟨rfl, rfl⟩
                exact rfl
                apply DrawSeq.consF; exact rfl; intro E
                refine AOps.move rfl rfl ?_
                exact AOps.nil ⟨rfl, rfl⟩
                exact rfl
                apply DrawSeq.consF; exact rfl; intro E
                refine S.idx ha64 rfl rfl rfl rfl ?_
                exact AOps.nil ⟨rfl, rfl⟩
                exact rfl
                apply DrawSeq.consF; exact rfl; intro E
                refine AOps.loadI rfl rfl rfl rfl ?_
                exact AOps.nil ⟨rfl, rfl⟩
                exact rfl
                apply DrawSeq.consF; exact rfl; intro E
                refine AOps.callR rfl rfl rfl rfl (ref1_StepsFault_ok ha66) rfl ?_
                exact AOps.nil ⟨rfl, rfl⟩
                exact rfl
                apply DrawSeq.consF; exact rfl; intro E
                refine W.field rfl rfl rfl rfl ?_
                exact AOps.nil ⟨rfl, rfl⟩
                exact rfl
                apply DrawSeq.consF; exact rfl; intro E
                refine AOps.neq rfl rfl rfl ?_
                exact AOps.nil ⟨rfl, rfl⟩
                exact rfl
                refine DrawSeq.done ?_
                dsimp only [envEnd]
                refine thn_normal ?_
                refine AWP.iteN rfl h (fun hc11 h => ?_) (fun hc11 h => ?_)
                · refine AWP.seq ?_
                  obtain ⟨a71, ha71, h⟩ := bind_some h
                  refine AWP.region ?_
                  refine AOps.move rfl rfl ?_
                  refine S.sub rfl rfl rfl ?_
                  refine AOps.callR rfl rfl rfl rfl (ref1_At_ok ha71) rfl ?_
                  refine W.storeAgg rfl rfl rfl rfl rfl rfl rfl ?_
                  refine AOps.nil ?_
                  refine thn_normal ?_
                  refine AWP.ret ?_
                  refine inB_ret ?_
                  refine thn_ret ?_
                  have ej := Option.some.inj h
                  subst ej
                  refine thn_ret ⟨_, rfl, rfl, ?_⟩
                  exact Done.ret rfl rfl
                · refine AWP.skip ?_
                  refine inB_normal ?_
                  refine thn_normal ?_
                  refine AWP.region ?_
                  refine AOps.move rfl rfl ?_
                  refine AOps.add rfl rfl rfl (by omega) ?_
                  refine AOps.assign rfl rfl ?_
                  refine AOps.nil ?_
                  have ej := Option.some.inj h
                  subst ej
                  refine thn_normal ⟨_, rfl, ?_⟩
                  exact Sub.env ⟨rfl, rfl, rfl, rfl, trivial⟩
            · intro e s hq
              rcases oo with u | x
              · try dsimp only at h hq
                obtain ⟨rfl, hs⟩ := hq
                refine ⟨_, hs, ?_⟩
                refine inB_exit ?_
                refine thn_normal ?_
                refine AWP.seq ?_
                refine AWP.region ?_
                refine W.build rfl rfl rfl rfl ?_
                refine W.storeAgg rfl rfl rfl rfl rfl rfl rfl ?_
                refine AOps.nil ?_
                refine thn_normal ?_
                refine AWP.ret ?_
                have ej := Option.some.inj h
                subst ej
                exact Done.ret rfl rfl
              · try dsimp only at h hq
                obtain ⟨rfl, hs⟩ := hq
                refine ⟨_, Sub.refl _ _, ?_⟩
                refine inB_ret ?_
                refine thn_ret ?_
                have ej := Option.some.inj h
                subst ej
                exact hs
          · try dsimp only at h hq
            obtain ⟨rfl, hs⟩ := hq
            refine ⟨_, Sub.refl _ _, ?_⟩
            refine inB_ret ?_
            refine thn_ret ?_
            have ej := Option.some.inj h
            subst ej
            exact hs
theorem law8_step_ok {r : TTask} (h : law8_step = some r) : PureOk Tryd.prog 29 [] (.agg [int r.facts, row 1 intI r.init, row 1 intI r.goal, row 4 eTOperator r.operators]) := by
  unfold PureOk
  refine FnOk.enter (rs := [.cell 0 25 4]) Tryd.func29 rfl Tryd.ntmps29 Tryd.results29 rfl ⟨rv _ rfl, trivial⟩ (by kernel_rfl) rfl ?_
  unfold law8_step at h
  refine AWP.seq ?_
  refine AWP.region ?_
  refine W.alloc rfl rfl rfl rfl ?_
  refine AOps.nil ?_
  refine thn_normal ?_
  refine AWP.seq ?_
  refine AWP.region ?_
  refine S.lit (f := intI) (l := [0]) (ess := [[int 0]]) rfl rfl rfl rfl rfl rfl rfl ⟨⟨.inl rfl, trivial⟩, trivial⟩ rfl rfl rfl ?_
  refine S.lit (f := intI) (l := [1]) (ess := [[int 1]]) rfl rfl rfl rfl rfl rfl rfl ⟨⟨.inl rfl, trivial⟩, trivial⟩ rfl rfl rfl ?_
  refine S.lit (f := intI) (l := [0]) (ess := [[int 0]]) rfl rfl rfl rfl rfl rfl rfl ⟨⟨.inl rfl, trivial⟩, trivial⟩ rfl rfl rfl ?_
  refine S.lit (f := intI) (l := [1]) (ess := [[int 1]]) rfl rfl rfl rfl rfl rfl rfl ⟨⟨.inl rfl, trivial⟩, trivial⟩ rfl rfl rfl ?_
  refine S.lit (f := intI) (l := [0]) (ess := [[int 0]]) rfl rfl rfl rfl rfl rfl rfl ⟨⟨.inl rfl, trivial⟩, trivial⟩ rfl rfl rfl ?_
  refine W.build rfl rfl rfl rfl ?_
  refine S.lit (f := intI) (l := [1]) (ess := [[int 1]]) rfl rfl rfl rfl rfl rfl rfl ⟨⟨.inl rfl, trivial⟩, trivial⟩ rfl rfl rfl ?_
  refine W.build rfl rfl rfl rfl ?_
  refine AOps.frzV (id := 3) (l := [0]) (env2 := [(0, .c (.ptr 0 0 0)), (1, .c (.own 1 0 ([0].length))), (2, .c (.own 2 0 ([1].length))), (6, .agg [row 1 intI [0], .own 4 0 ([1].length), .own 5 0 ([0].length), int 1]), (8, .agg [.imm (.val (.slice none 0 0)), .own 6 0 ([1].length), .imm (.val (.slice none 0 0)), int 3])]) (σ2 := [.one (.cells 4 [[int 0, .imm (.val (.slice none 0 0)), .imm (.val (.slice none 0 0)), .imm (.val (.slice none 0 0))]]), .one (vec 1 intI [0]), .one (vec 1 intI [1]), .dead, .one (vec 1 intI [1]), .one (vec 1 intI [0]), .one (vec 1 intI [1])]) rfl rfl (by exact ⟨⟨_, rfl, .inl ⟨rfl, rfl⟩⟩, ⟨_, rfl, .inl ⟨rfl, rfl⟩⟩, ⟨_, rfl, .inl ⟨rfl, rfl⟩⟩, ⟨_, rfl, ⟨.inr ⟨_, rfl, rfl, rfl⟩, .inl ⟨rfl, rfl⟩, .inl ⟨rfl, rfl⟩, .inl ⟨rfl, rfl⟩, trivial⟩⟩, ⟨_, rfl, ⟨.inl ⟨rfl, rfl⟩, .inl ⟨rfl, rfl⟩, .inl ⟨rfl, rfl⟩, .inl ⟨rfl, rfl⟩, trivial⟩⟩, trivial⟩) rfl (by exact ⟨⟨rfl, .inl ⟨rfl, rfl⟩, .inl ⟨rfl, rfl⟩, .inl ⟨rfl, rfl⟩, .inl ⟨rfl, rfl⟩, trivial⟩, FrzB.vec, FrzB.vec, trivial, FrzB.vec, FrzB.vec, FrzB.vec, trivial⟩) ?_; refine AOps.frzV (id := 4) (l := [1]) (env2 := [(0, .c (.ptr 0 0 0)), (1, .c (.own 1 0 ([0].length))), (2, .c (.own 2 0 ([1].length))), (6, .agg [row 1 intI [0], row 1 intI [1], .own 5 0 ([0].length), int 1]), (8, .agg [.imm (.val (.slice none 0 0)), .own 6 0 ([1].length), .imm (.val (.slice none 0 0)), int 3])]) (σ2 := [.one (.cells 4 [[int 0, .imm (.val (.slice none 0 0)), .imm (.val (.slice none 0 0)), .imm (.val (.slice none 0 0))]]), .one (vec 1 intI [0]), .one (vec 1 intI [1]), .dead, .dead, .one (vec 1 intI [0]), .one (vec 1 intI [1])]) rfl rfl (by exact ⟨⟨_, rfl, .inl ⟨rfl, rfl⟩⟩, ⟨_, rfl, .inl ⟨rfl, rfl⟩⟩, ⟨_, rfl, .inl ⟨rfl, rfl⟩⟩, ⟨_, rfl, ⟨.inl ⟨rfl, rfl⟩, .inr ⟨_, rfl, rfl, rfl⟩, .inl ⟨rfl, rfl⟩, .inl ⟨rfl, rfl⟩, trivial⟩⟩, ⟨_, rfl, ⟨.inl ⟨rfl, rfl⟩, .inl ⟨rfl, rfl⟩, .inl ⟨rfl, rfl⟩, .inl ⟨rfl, rfl⟩, trivial⟩⟩, trivial⟩) rfl (by exact ⟨⟨rfl, .inl ⟨rfl, rfl⟩, .inl ⟨rfl, rfl⟩, .inl ⟨rfl, rfl⟩, .inl ⟨rfl, rfl⟩, trivial⟩, FrzB.vec, FrzB.vec, trivial, trivial, FrzB.vec, FrzB.vec, trivial⟩) ?_; refine AOps.frzV (id := 5) (l := [0]) (env2 := [(0, .c (.ptr 0 0 0)), (1, .c (.own 1 0 ([0].length))), (2, .c (.own 2 0 ([1].length))), (6, .agg [row 1 intI [0], row 1 intI [1], row 1 intI [0], int 1]), (8, .agg [.imm (.val (.slice none 0 0)), .own 6 0 ([1].length), .imm (.val (.slice none 0 0)), int 3])]) (σ2 := [.one (.cells 4 [[int 0, .imm (.val (.slice none 0 0)), .imm (.val (.slice none 0 0)), .imm (.val (.slice none 0 0))]]), .one (vec 1 intI [0]), .one (vec 1 intI [1]), .dead, .dead, .dead, .one (vec 1 intI [1])]) rfl rfl (by exact ⟨⟨_, rfl, .inl ⟨rfl, rfl⟩⟩, ⟨_, rfl, .inl ⟨rfl, rfl⟩⟩, ⟨_, rfl, .inl ⟨rfl, rfl⟩⟩, ⟨_, rfl, ⟨.inl ⟨rfl, rfl⟩, .inl ⟨rfl, rfl⟩, .inr ⟨_, rfl, rfl, rfl⟩, .inl ⟨rfl, rfl⟩, trivial⟩⟩, ⟨_, rfl, ⟨.inl ⟨rfl, rfl⟩, .inl ⟨rfl, rfl⟩, .inl ⟨rfl, rfl⟩, .inl ⟨rfl, rfl⟩, trivial⟩⟩, trivial⟩) rfl (by exact ⟨⟨rfl, .inl ⟨rfl, rfl⟩, .inl ⟨rfl, rfl⟩, .inl ⟨rfl, rfl⟩, .inl ⟨rfl, rfl⟩, trivial⟩, FrzB.vec, FrzB.vec, trivial, trivial, trivial, FrzB.vec, trivial⟩) ?_; refine AOps.frzV (id := 6) (l := [1]) (env2 := [(0, .c (.ptr 0 0 0)), (1, .c (.own 1 0 ([0].length))), (2, .c (.own 2 0 ([1].length))), (6, .agg [row 1 intI [0], row 1 intI [1], row 1 intI [0], int 1]), (8, .agg [.imm (.val (.slice none 0 0)), row 1 intI [1], .imm (.val (.slice none 0 0)), int 3])]) (σ2 := [.one (.cells 4 [[int 0, .imm (.val (.slice none 0 0)), .imm (.val (.slice none 0 0)), .imm (.val (.slice none 0 0))]]), .one (vec 1 intI [0]), .one (vec 1 intI [1]), .dead, .dead, .dead, .dead]) rfl rfl (by exact ⟨⟨_, rfl, .inl ⟨rfl, rfl⟩⟩, ⟨_, rfl, .inl ⟨rfl, rfl⟩⟩, ⟨_, rfl, .inl ⟨rfl, rfl⟩⟩, ⟨_, rfl, ⟨.inl ⟨rfl, rfl⟩, .inl ⟨rfl, rfl⟩, .inl ⟨rfl, rfl⟩, .inl ⟨rfl, rfl⟩, trivial⟩⟩, ⟨_, rfl, ⟨.inl ⟨rfl, rfl⟩, .inr ⟨_, rfl, rfl, rfl⟩, .inl ⟨rfl, rfl⟩, .inl ⟨rfl, rfl⟩, trivial⟩⟩, trivial⟩) rfl (by exact ⟨⟨rfl, .inl ⟨rfl, rfl⟩, .inl ⟨rfl, rfl⟩, .inl ⟨rfl, rfl⟩, .inl ⟨rfl, rfl⟩, trivial⟩, FrzB.vec, FrzB.vec, trivial, trivial, trivial, trivial, trivial⟩) ?_; refine S.lit (f := eTOperator) (l := [(⟨[0], [1], [0], 1⟩ : TOperator), (⟨[], [1], [], 3⟩ : TOperator)]) (ess := [[row 1 intI [0], row 1 intI [1], row 1 intI [0], int 1], [.imm (.val (.slice none 0 0)), row 1 intI [1], .imm (.val (.slice none 0 0)), int 3]]) rfl rfl rfl rfl rfl rfl rfl ⟨⟨.inl rfl, .inl rfl, .inl rfl, .inl rfl, trivial⟩, ⟨.inr ⟨rfl, _, rfl⟩, .inl rfl, .inr ⟨rfl, _, rfl⟩, .inl rfl, trivial⟩, trivial⟩ rfl rfl rfl ?_
  refine W.build rfl rfl rfl rfl ?_
  refine W.storeAgg rfl rfl rfl rfl rfl rfl rfl ?_
  refine AOps.nil ?_
  refine thn_normal ?_
  refine AWP.frzV (id := 1) (l := [0]) (env2 := [(0, .c (.ptr 0 0 0))]) (σ2 := [.one (.cells 4 [[int 2, row 1 intI [0], .own 2 0 ([1].length), .own 7 0 (([(⟨[0], [1], [0], 1⟩ : TOperator), (⟨[], [1], [], 3⟩ : TOperator)]).length)]]), .dead, .one (vec 1 intI [1]), .dead, .dead, .dead, .dead, .one (vec 4 eTOperator ([(⟨[0], [1], [0], 1⟩ : TOperator), (⟨[], [1], [], 3⟩ : TOperator)]))]) rfl rfl (by exact ⟨⟨_, rfl, .inl ⟨rfl, rfl⟩⟩, trivial⟩) rfl (by exact ⟨⟨rfl, .inl ⟨rfl, rfl⟩, .inr ⟨_, rfl, rfl, rfl⟩, .inl ⟨rfl, rfl⟩, .inl ⟨rfl, rfl⟩, trivial⟩, trivial, FrzB.vec, trivial, trivial, trivial, trivial, FrzB.vec, trivial⟩) ?_
  refine AWP.frzV (id := 2) (l := [1]) (env2 := [(0, .c (.ptr 0 0 0))]) (σ2 := [.one (.cells 4 [[int 2, row 1 intI [0], row 1 intI [1], .own 7 0 (([(⟨[0], [1], [0], 1⟩ : TOperator), (⟨[], [1], [], 3⟩ : TOperator)]).length)]]), .dead, .dead, .dead, .dead, .dead, .dead, .one (vec 4 eTOperator ([(⟨[0], [1], [0], 1⟩ : TOperator), (⟨[], [1], [], 3⟩ : TOperator)]))]) rfl rfl (by exact ⟨⟨_, rfl, .inl ⟨rfl, rfl⟩⟩, trivial⟩) rfl (by exact ⟨⟨rfl, .inl ⟨rfl, rfl⟩, .inl ⟨rfl, rfl⟩, .inr ⟨_, rfl, rfl, rfl⟩, .inl ⟨rfl, rfl⟩, trivial⟩, trivial, trivial, trivial, trivial, trivial, trivial, FrzB.vec, trivial⟩) ?_
  refine AWP.frzV (id := 7) (l := [(⟨[0], [1], [0], 1⟩ : TOperator), (⟨[], [1], [], 3⟩ : TOperator)]) (env2 := [(0, .c (.ptr 0 0 0))]) (σ2 := [.one (.cells 4 [[int 2, row 1 intI [0], row 1 intI [1], row 4 eTOperator ([(⟨[0], [1], [0], 1⟩ : TOperator), (⟨[], [1], [], 3⟩ : TOperator)])]]), .dead, .dead, .dead, .dead, .dead, .dead, .dead]) rfl rfl (by exact ⟨⟨_, rfl, .inl ⟨rfl, rfl⟩⟩, trivial⟩) rfl (by exact ⟨⟨rfl, .inl ⟨rfl, rfl⟩, .inl ⟨rfl, rfl⟩, .inl ⟨rfl, rfl⟩, .inr ⟨_, rfl, rfl, rfl⟩, trivial⟩, trivial, trivial, trivial, trivial, trivial, trivial, trivial, trivial⟩) ?_
  refine AWP.ret ?_
  have ej := Option.some.inj h
  subst ej
  exact Done.ret rfl rfl
theorem merging_Check_ok {t : TTask} {goals : List (List Int)} {plans : List (List Int)} {turns : List Int} {r : Bool × TFault} (h : merging_Check t goals plans turns = some r) : PureOk Tryd.prog 14 [.agg [int t.facts, row 1 intI t.init, row 1 intI t.goal, row 4 eTOperator t.operators], .c (row 1 eLi64 goals), .c (row 1 eLi64 plans), .c (row 1 intI turns)] (.tup [.c (bool r.1), .agg [int r.2.code, int r.2.index]]) := by
  unfold PureOk
  refine FnOk.enter (rs := [.t 8, .cell 9 28 2]) Tryd.func14 rfl Tryd.ntmps14 Tryd.results14 rfl ⟨trivial, rv _ rfl, trivial⟩ (by kernel_rfl) rfl ?_
  unfold merging_Check at h
  refine AWP.seq ?_
  refine AWP.region ?_
  refine W.box rfl rfl rfl rfl rfl rfl ?_
  refine AOps.assign rfl rfl ?_
  refine W.alloc rfl rfl rfl rfl ?_
  refine AOps.nil ?_
  refine thn_normal ?_
  refine AWP.seq ?_
  refine AWP.seq ?_
  obtain ⟨a21, ha21, h⟩ := bind_some h
  refine AWP.region ?_
  refine W.loadAgg rfl rfl rfl rfl rfl rfl rfl ?_
  refine AOps.move rfl rfl ?_
  refine AOps.move rfl rfl ?_
  refine AOps.callR rfl rfl rfl rfl (merging_check_ok ha21) rfl ?_
  refine W.alloc rfl rfl rfl rfl ?_
  refine W.storeAgg rfl rfl rfl rfl rfl rfl rfl ?_
  refine AOps.nil ?_
  refine thn_normal ?_
  refine AWP.seq ?_
  refine AWP.region ?_
  refine W.loadAgg rfl rfl rfl rfl rfl rfl rfl ?_
  refine W.build rfl rfl rfl rfl ?_
  refine AOps.neqP rfl rfl rfl rfl rfl rfl rfl ?_
  refine AOps.nil ?_
  refine thn_normal ?_
  refine AWP.iteB rfl h (fun hc5 h => ?_) (fun hc5 h => ?_)
  · refine AWP.seq ?_
    refine AWP.drawEI [2] mixed rfl rfl rfl ?_
    apply DrawSeqE.consN; exact rfl; exact rfl; intro E
    refine W.loadAgg rfl rfl rfl rfl rfl rfl rfl ?_
    exact AOps.nil ⟨rfl, rfl⟩
    exact rfl
    apply DrawSeqE.consN; exact rfl; exact rfl; intro E
    refine AOps.assign rfl rfl ?_
    exact AOps.nil ⟨rfl, rfl⟩
    exact rfl
    apply DrawSeqE.consE (v := .undef); exact rfl; exact rfl; intro E
    refine W.storeAgg rfl rfl rfl rfl rfl rfl rfl ?_
    exact AOps.nil ⟨rfl, rfl⟩
    exact rfl
    exact rfl
    refine DrawSeqE.done rfl ?_ ?_
    · apply RestI.cons; exact rfl; exact rfl
      first | refine RestK.skip rfl ?_ | (apply RestK.go; exact rfl; exact rfl; intro E; (refine W.loadAgg rfl rfl rfl rfl rfl rfl rfl ?_); exact AOps.nil ⟨rfl, rfl⟩)
      first | refine RestK.skip rfl ?_ | (apply RestK.go; exact rfl; exact rfl; intro E; (refine W.loadAgg rfl rfl rfl rfl rfl rfl rfl ?_); exact AOps.nil ⟨rfl, rfl⟩)
      exact RestK.nil
      apply RestI.cons; exact rfl; exact rfl
      first | refine RestK.skip rfl ?_ | (apply RestK.go; exact rfl; exact rfl; intro E; (refine AOps.assign rfl rfl ?_); exact AOps.nil ⟨rfl, rfl⟩)
      first | refine RestK.skip rfl ?_ | (apply RestK.go; exact rfl; exact rfl; intro E; (refine AOps.assign rfl rfl ?_); exact AOps.nil ⟨rfl, rfl⟩)
      exact RestK.nil
      refine RestI.skip rfl ?_
      exact RestI.nil
    dsimp only [envEnd]
    refine thn_normal ?_
    refine AWP.ret ?_
    refine thn_ret ?_
    have ej := Option.some.inj h
    subst ej
    exact Done.ret rfl rfl
  · refine AWP.skip ?_
    refine thn_normal ?_
    refine AWP.seq ?_
    refine AWP.seq ?_
    refine AWP.region ?_
    refine AOps.move rfl rfl ?_
    refine S.len rfl rfl (fun hl27 => ?_)
    refine AOps.gtr rfl rfl rfl ?_
    refine AOps.nil ?_
    refine thn_normal ?_
    refine AWP.ite rfl h (fun hc6 h => ?_) (fun hc6 h => ?_)
    · refine AWP.seq ?_
      refine AWP.region ?_
      refine W.build rfl rfl rfl rfl ?_
      refine AOps.assign rfl rfl ?_
      refine W.storeAgg rfl rfl rfl rfl rfl rfl rfl ?_
      refine AOps.nil ?_
      refine thn_normal ?_
      refine AWP.ret ?_
      refine thn_ret ?_
      have ej := Option.some.inj h
      subst ej
      exact Done.ret rfl rfl
    · refine AWP.skip ?_
      refine thn_normal ?_
      refine AWP.seq ?_
      refine AWP.seq ?_
      refine AWP.region ?_
      refine AOps.move rfl rfl ?_
      refine S.len rfl rfl (fun hl31 => ?_)
      refine AOps.move rfl rfl ?_
      refine AOps.nil ?_
      refine thn_normal ?_
      refine AWP.block ?_
      obtain ⟨oo, ho1, h⟩ := bind_some h
      refine AWP.rngS ho1 (fun t7 _ => ⟨[(1, .c (row 1 eLi64 goals)), (2, .c (row 1 eLi64 plans)), (3, .c (row 1 intI turns)), (4, .c (.ptr 0 0 0)), (9, .c (.ptr 1 0 0)), (30, .c (row 1 intI turns)), (31, .c (int (turns.length : Int))), (32, .c (int t7))], [.one (.cells 4 [[int t.facts, row 1 intI t.init, row 1 intI t.goal, row 4 eTOperator t.operators]]), .one (.cells 2 [[int 0, int 0]])]⟩) (fun o e st => match o with | .inl _ => e = .exit 0 ∧ Sub [] st ⟨[(1, .c (row 1 eLi64 goals)), (2, .c (row 1 eLi64 plans)), (3, .c (row 1 intI turns)), (4, .c (.ptr 0 0 0)), (9, .c (.ptr 1 0 0))], [.one (.cells 4 [[int t.facts, row 1 intI t.init, row 1 intI t.goal, row 4 eTOperator t.operators]]), .one (.cells 2 [[int 0, int 0]])]⟩ | .inr x => e = .ret ∧ Done [.t 8, .cell 9 28 2] (fun t _ => t = .tup [.c (bool x.1), .agg [int x.2.code, int x.2.index]]) .ret st) ?_ ?_ ?_ ?_
      · try dsimp only
        exact Sub.cut ⟨rfl, rfl, rfl, rfl, rfl, rfl, rfl, rfl, trivial⟩ rfl ⟨.one rfl, .one rfl, trivial⟩ rfl
      · intro t7 s hlot7 hltt7 _
        try dsimp only
        refine AWP.seq ?_
        refine AWP.region ?_
        refine AOps.lss rfl rfl rfl ?_
        refine AOps.nil ?_
        refine thn_normal ?_
        refine AWP.seq ?_
        refine AWP.condNP rfl hltt7 ?_
        refine AWP.exit ?_
        refine thn_exit ?_
        refine thn_exit ⟨rfl, ?_⟩
        exact Sub.env ⟨rfl, rfl, rfl, rfl, rfl, trivial⟩
      · intro t7 s o hlot7 hltt7 h
        unfold merging_Check_l1 at h
        try dsimp only at h ⊢
        refine AWP.seq ?_
        refine AWP.region ?_
        refine AOps.lss rfl rfl rfl ?_
        refine AOps.nil ?_
        refine thn_normal ?_
        refine AWP.seq ?_
        refine AWP.condP rfl hltt7 ?_
        refine AWP.skip ?_
        refine thn_normal ?_
        refine AWP.seq ?_
        refine AWP.block ?_
        refine AWP.seq ?_
        obtain ⟨a34, ha34, h⟩ := bind_some h
        refine AWP.region ?_
        refine S.idx ha34 rfl rfl rfl rfl ?_
        refine AOps.loadI rfl rfl rfl rfl ?_
        refine AOps.assign rfl rfl ?_
        refine AOps.nil ?_
        refine thn_normal ?_
        refine AWP.seqJ (⟨[(1, .c (row 1 eLi64 goals)), (2, .c (row 1 eLi64 plans)), (3, .c (row 1 intI turns)), (4, .c (.ptr 0 0 0)), (9, .c (.ptr 1 0 0)), (30, .c (row 1 intI turns)), (31, .c (int (turns.length : Int))), (32, .c (int t7)), (43, .c (bool ((decide (a34 < 0)) || (decide ((plans.length : Int) ≤ a34)))))], [.one (.cells 4 [[int t.facts, row 1 intI t.init, row 1 intI t.goal, row 4 eTOperator t.operators]]), .one (.cells 2 [[int 0, int 0]])]⟩) ?_ ?_
        · rcases Bool.eq_false_or_eq_true (decide (a34 < 0)) with hb1 | hb1
          · refine AWP.region ?_
            refine AOps.move rfl rfl ?_
            refine AOps.lss rfl rfl rfl ?_
            refine AOps.move rfl rfl ?_
            refine AOps.guardF rfl rfl rfl hb1 ?_
            refine AOps.guardF rfl rfl rfl hb1 ?_
            refine AOps.guardF rfl rfl rfl hb1 ?_
            refine AOps.guardF rfl rfl rfl hb1 ?_
            refine AOps.pickT rfl hb1 rfl rfl ?_
            refine AOps.nil ?_
            refine thn_normal ?_
            simp only [and_t hb1, or_t hb1, Bool.false_or, Bool.true_or, Bool.false_and, Bool.true_and]
            exact Sub.env ⟨rfl, rfl, rfl, rfl, rfl, rfl, rfl, rfl, rfl, trivial⟩
          · refine AWP.region ?_
            refine AOps.move rfl rfl ?_
            refine AOps.lss rfl rfl rfl ?_
            refine AOps.move rfl rfl ?_
            refine AOps.guardT rfl rfl rfl hb1 ?_; refine AOps.move rfl rfl ?_
            refine AOps.guardT rfl rfl rfl hb1 ?_; refine AOps.move rfl rfl ?_
            refine AOps.guardT rfl rfl rfl hb1 ?_; refine S.len rfl rfl (fun hl41 => ?_)
            refine AOps.guardT rfl rfl rfl hb1 ?_; refine AOps.geq rfl rfl rfl ?_
            refine AOps.pickF rfl hb1 rfl rfl ?_
            refine AOps.nil ?_
            refine thn_normal ?_
            simp only [and_f hb1, or_f hb1, Bool.false_or, Bool.true_or, Bool.false_and, Bool.true_and]
            exact Sub.env ⟨rfl, rfl, rfl, rfl, rfl, rfl, rfl, rfl, rfl, trivial⟩
        · refine AWP.iteB rfl h (fun hc8 h => ?_) (fun hc8 h => ?_)
          · refine AWP.seq ?_
            refine AWP.region ?_
            refine W.build rfl rfl rfl rfl ?_
            refine AOps.assign rfl rfl ?_
            refine W.storeAgg rfl rfl rfl rfl rfl rfl rfl ?_
            refine AOps.nil ?_
            refine thn_normal ?_
            refine AWP.ret ?_
            refine inB_ret ?_
            refine thn_ret ?_
            have ej := Option.some.inj h
            subst ej
            refine thn_ret ⟨_, rfl, rfl, ?_⟩
            exact Done.ret rfl rfl
          · refine AWP.skip ?_
            refine inB_normal ?_
            refine thn_normal ?_
            refine AWP.region ?_
            refine AOps.add rfl rfl rfl (by omega) ?_
            refine AOps.move rfl rfl ?_
            refine AOps.nil ?_
            have ej := Option.some.inj h
            subst ej
            refine thn_normal ⟨_, rfl, ?_⟩
            exact Sub.env ⟨rfl, rfl, rfl, rfl, rfl, rfl, rfl, rfl, trivial⟩
      · intro e s hq
        rcases oo with u | x
        · try dsimp only at h hq
          obtain ⟨rfl, hs⟩ := hq
          refine ⟨_, hs, ?_⟩
          refine inB_exit ?_
          refine thn_normal ?_
          refine AWP.seq ?_
          obtain ⟨a48, ha48, h⟩ := bind_some h
          refine AWP.region ?_
          refine AOps.move rfl rfl ?_
          refine S.len rfl rfl (fun hl47 => ?_)
          refine S.make (f := intI) ha48 (.val .nil) rfl rfl rfl rfl rfl rfl ?_
          refine AOps.assign rfl rfl ?_
          refine AOps.nil ?_
          refine thn_normal ?_
          refine AWP.seq ?_
          refine AWP.region ?_
          refine W.fieldAddr rfl rfl rfl rfl ?_
          refine AOps.load rfl rfl rfl rfl rfl rfl ?_
          refine AOps.assign rfl rfl ?_
          refine AOps.nil ?_
          refine thn_normal ?_
          refine AWP.seq ?_
          refine AWP.seq ?_
          refine AWP.region ?_
          refine AOps.move rfl rfl ?_
          refine S.len rfl rfl (fun hl52 => ?_)
          refine AOps.move rfl rfl ?_
          refine AOps.nil ?_
          refine thn_normal ?_
          refine AWP.block ?_
          obtain ⟨oo, ho2, h⟩ := bind_some h
          refine AWP.rngS ho2 (fun t11 (c9, sv10) => ⟨[(1, .c (row 1 eLi64 goals)), (2, .c (row 1 eLi64 plans)), (4, .c (.ptr 0 0 0)), (9, .c (.ptr 1 0 0)), (13, .c (.own 2 0 c9.length)), (14, .c (row 1 intI sv10)), (51, .c (row 1 intI turns)), (52, .c (int (turns.length : Int))), (53, .c (int t11))], [.one (.cells 4 [[int t.facts, row 1 intI t.init, row 1 intI t.goal, row 4 eTOperator t.operators]]), .one (.cells 2 [[int 0, int 0]]), .one (vec 1 intI c9)]⟩) (fun o e st => match o with | .inl (c9, sv10) => e = .exit 2 ∧ Sub [] st ⟨[(1, .c (row 1 eLi64 goals)), (2, .c (row 1 eLi64 plans)), (9, .c (.ptr 1 0 0)), (13, .c (.own 2 0 c9.length)), (14, .c (row 1 intI sv10))], [.one (.cells 4 [[int t.facts, row 1 intI t.init, row 1 intI t.goal, row 4 eTOperator t.operators]]), .one (.cells 2 [[int 0, int 0]]), .one (vec 1 intI c9)]⟩ | .inr x => e = .ret ∧ Done [.t 8, .cell 9 28 2] (fun t _ => t = .tup [.c (bool x.1), .agg [int x.2.code, int x.2.index]]) .ret st) ?_ ?_ ?_ ?_
          · try dsimp only
            exact Sub.env ⟨rfl, rfl, rfl, rfl, rfl, rfl, rfl, rfl, rfl, trivial⟩
          · intro t11 s hlot11 hltt11 _
            obtain ⟨c9, sv10⟩ := s
            try dsimp only
            refine AWP.seq ?_
            refine AWP.region ?_
            refine AOps.lss rfl rfl rfl ?_
            refine AOps.nil ?_
            refine thn_normal ?_
            refine AWP.seq ?_
            refine AWP.condNP rfl hltt11 ?_
            refine AWP.exit ?_
            refine thn_exit ?_
            refine thn_exit ⟨rfl, ?_⟩
            exact Sub.env ⟨rfl, rfl, rfl, rfl, rfl, trivial⟩
          · intro t11 s o hlot11 hltt11 h
            obtain ⟨c9, sv10⟩ := s
            unfold merging_Check_l2 at h
            try dsimp only at h ⊢
            refine AWP.seq ?_
            refine AWP.region ?_
            refine AOps.lss rfl rfl rfl ?_
            refine AOps.nil ?_
            refine thn_normal ?_
            refine AWP.seq ?_
            refine AWP.condP rfl hltt11 ?_
            refine AWP.skip ?_
            refine thn_normal ?_
            refine AWP.seq ?_
            refine AWP.block ?_
            refine AWP.seq ?_
            obtain ⟨a55, ha55, h⟩ := bind_some h
            refine AWP.region ?_
            refine S.idx ha55 rfl rfl rfl rfl ?_
            refine AOps.loadI rfl rfl rfl rfl ?_
            refine AOps.assign rfl rfl ?_
            refine AOps.nil ?_
            refine thn_normal ?_
            refine AWP.seq ?_
            obtain ⟨t12, hx13, h⟩ := bind_some h
            refine AWP.seqJ (⟨[(1, .c (row 1 eLi64 goals)), (2, .c (row 1 eLi64 plans)), (4, .c (.ptr 0 0 0)), (9, .c (.ptr 1 0 0)), (13, .c (.own 2 0 c9.length)), (14, .c (row 1 intI sv10)), (16, .c (int a55)), (51, .c (row 1 intI turns)), (52, .c (int (turns.length : Int))), (53, .c (int t11)), (82, .c (bool t12))], [.one (.cells 4 [[int t.facts, row 1 intI t.init, row 1 intI t.goal, row 4 eTOperator t.operators]]), .one (.cells 2 [[int 0, int 0]]), .one (vec 1 intI c9)]⟩) ?_ ?_
            · obtain ⟨a59, ha59, hx13⟩ := bind_some hx13
              obtain ⟨a63, ha63, hx13⟩ := bind_some hx13
              rcases Bool.eq_false_or_eq_true (decide (a59 = (a63.length : Int))) with hb14 | hb14
              · replace hx13 := iteDT hb14 hx13
                refine AWP.drawI mixed rfl ?_
                apply DrawSeq.consF; exact rfl; intro E
                refine AOps.move rfl rfl ?_
                exact AOps.nil ⟨rfl, rfl⟩
                exact rfl
                apply DrawSeq.consF; exact rfl; intro E
                refine AOps.move rfl rfl ?_
                exact AOps.nil ⟨rfl, rfl⟩
                exact rfl
                apply DrawSeq.consF; exact rfl; intro E
                refine S.idxO ha59 rfl rfl rfl rfl rfl ?_
                exact AOps.nil ⟨rfl, rfl⟩
                exact rfl
                apply DrawSeq.consF; exact rfl; intro E
                refine S.loadO ha59 rfl rfl rfl rfl rfl ?_
                exact AOps.nil ⟨rfl, rfl⟩
                exact rfl
                apply DrawSeq.consF; exact rfl; intro E
                refine AOps.move rfl rfl ?_
                exact AOps.nil ⟨rfl, rfl⟩
                exact rfl
                apply DrawSeq.consF; exact rfl; intro E
                refine AOps.move rfl rfl ?_
                exact AOps.nil ⟨rfl, rfl⟩
                exact rfl
                apply DrawSeq.consF; exact rfl; intro E
                refine S.idx ha63 rfl rfl rfl rfl ?_
                exact AOps.nil ⟨rfl, rfl⟩
                exact rfl
                apply DrawSeq.consF; exact rfl; intro E
                refine AOps.loadI rfl rfl rfl rfl ?_
                exact AOps.nil ⟨rfl, rfl⟩
                exact rfl
                apply DrawSeq.consF; exact rfl; intro E
                refine S.len rfl rfl (fun hl65 => ?_)
                exact AOps.nil ⟨rfl, rfl⟩
                exact rfl
                apply DrawSeq.consF; exact rfl; intro E
                refine AOps.eql rfl rfl rfl ?_
                exact AOps.nil ⟨rfl, rfl⟩
                exact rfl
                apply DrawSeq.consF; exact rfl; intro E
                refine AOps.move rfl rfl ?_
                exact AOps.nil ⟨rfl, rfl⟩
                exact rfl
                apply DrawSeq.consF; exact rfl; intro E
                refine AOps.guardF rfl rfl rfl hb14 ?_
                exact AOps.nil ⟨rfl, rfl⟩
                exact rfl
                apply DrawSeq.consF; exact rfl; intro E
                refine AOps.guardF rfl rfl rfl hb14 ?_
                exact AOps.nil ⟨rfl, rfl⟩
                exact rfl
                apply DrawSeq.consF; exact rfl; intro E
                refine AOps.guardF rfl rfl rfl hb14 ?_
                exact AOps.nil ⟨rfl, rfl⟩
                exact rfl
                apply DrawSeq.consF; exact rfl; intro E
                refine AOps.guardF rfl rfl rfl hb14 ?_
                exact AOps.nil ⟨rfl, rfl⟩
                exact rfl
                apply DrawSeq.consF; exact rfl; intro E
                refine AOps.guardF rfl rfl rfl hb14 ?_
                exact AOps.nil ⟨rfl, rfl⟩
                exact rfl
                apply DrawSeq.consF; exact rfl; intro E
                refine AOps.guardF rfl rfl rfl hb14 ?_
                exact AOps.nil ⟨rfl, rfl⟩
                exact rfl
                apply DrawSeq.consF; exact rfl; intro E
                refine AOps.guardF rfl rfl rfl hb14 ?_
                exact AOps.nil ⟨rfl, rfl⟩
                exact rfl
                apply DrawSeq.consF; exact rfl; intro E
                refine AOps.guardF rfl rfl rfl hb14 ?_
                exact AOps.nil ⟨rfl, rfl⟩
                exact rfl
                apply DrawSeq.consF; exact rfl; intro E
                refine AOps.guardF rfl rfl rfl hb14 ?_
                exact AOps.nil ⟨rfl, rfl⟩
                exact rfl
                apply DrawSeq.consF; exact rfl; intro E
                refine AOps.guardF rfl rfl rfl hb14 ?_
                exact AOps.nil ⟨rfl, rfl⟩
                exact rfl
                apply DrawSeq.consF; exact rfl; intro E
                refine AOps.guardF rfl rfl rfl hb14 ?_
                exact AOps.nil ⟨rfl, rfl⟩
                exact rfl
                apply DrawSeq.consF; exact rfl; intro E
                refine AOps.guardF rfl rfl rfl hb14 ?_
                exact AOps.nil ⟨rfl, rfl⟩
                exact rfl
                apply DrawSeq.consF; exact rfl; intro E
                refine AOps.guardF rfl rfl rfl hb14 ?_
                exact AOps.nil ⟨rfl, rfl⟩
                exact rfl
                apply DrawSeq.consF; exact rfl; intro E
                refine AOps.guardF rfl rfl rfl hb14 ?_
                exact AOps.nil ⟨rfl, rfl⟩
                exact rfl
                apply DrawSeq.consF; exact rfl; intro E
                refine AOps.pickT rfl hb14 rfl rfl ?_
                exact AOps.nil ⟨rfl, rfl⟩
                exact rfl
                refine DrawSeq.done ?_
                dsimp only [envEnd]
                have ej := Option.some.inj hx13
                subst ej
                refine thn_normal ?_
                exact Sub.env ⟨rfl, rfl, rfl, rfl, rfl, rfl, rfl, rfl, rfl, rfl, rfl, trivial⟩
              · replace hx13 := iteDF hb14 hx13
                obtain ⟨a72, ha72, hx13⟩ := bind_some hx13
                obtain ⟨a76, ha76, hx13⟩ := bind_some hx13
                obtain ⟨a78, ha78, hx13⟩ := bind_some hx13
                obtain ⟨a80, ha80, hx13⟩ := bind_some hx13
                refine AWP.drawI mixed rfl ?_
                apply DrawSeq.consF; exact rfl; intro E
                refine AOps.move rfl rfl ?_
                exact AOps.nil ⟨rfl, rfl⟩
                exact rfl
                apply DrawSeq.consF; exact rfl; intro E
                refine AOps.move rfl rfl ?_
                exact AOps.nil ⟨rfl, rfl⟩
                exact rfl
                apply DrawSeq.consF; exact rfl; intro E
                refine S.idxO ha59 rfl rfl rfl rfl rfl ?_
                exact AOps.nil ⟨rfl, rfl⟩
                exact rfl
                apply DrawSeq.consF; exact rfl; intro E
                refine S.loadO ha59 rfl rfl rfl rfl rfl ?_
                exact AOps.nil ⟨rfl, rfl⟩
                exact rfl
                apply DrawSeq.consF; exact rfl; intro E
                refine AOps.move rfl rfl ?_
                exact AOps.nil ⟨rfl, rfl⟩
                exact rfl
                apply DrawSeq.consF; exact rfl; intro E
                refine AOps.move rfl rfl ?_
                exact AOps.nil ⟨rfl, rfl⟩
                exact rfl
                apply DrawSeq.consF; exact rfl; intro E
                refine S.idx ha63 rfl rfl rfl rfl ?_
                exact AOps.nil ⟨rfl, rfl⟩
                exact rfl
                apply DrawSeq.consF; exact rfl; intro E
                refine AOps.loadI rfl rfl rfl rfl ?_
                exact AOps.nil ⟨rfl, rfl⟩
                exact rfl
                apply DrawSeq.consF; exact rfl; intro E
                refine S.len rfl rfl (fun hl65 => ?_)
                exact AOps.nil ⟨rfl, rfl⟩
                exact rfl
                apply DrawSeq.consF; exact rfl; intro E
                refine AOps.eql rfl rfl rfl ?_
                exact AOps.nil ⟨rfl, rfl⟩
                exact rfl
                apply DrawSeq.consF; exact rfl; intro E
                refine AOps.move rfl rfl ?_
                exact AOps.nil ⟨rfl, rfl⟩
                exact rfl
                apply DrawSeq.consF; exact rfl; intro E
                refine AOps.guardT rfl rfl rfl hb14 ?_; refine W.loadAgg rfl rfl rfl rfl rfl rfl rfl ?_
                exact AOps.nil ⟨rfl, rfl⟩
                exact rfl
                apply DrawSeq.consF; exact rfl; intro E
                refine AOps.guardT rfl rfl rfl hb14 ?_; refine AOps.move rfl rfl ?_
                exact AOps.nil ⟨rfl, rfl⟩
                exact rfl
                apply DrawSeq.consF; exact rfl; intro E
                refine AOps.guardT rfl rfl rfl hb14 ?_; refine AOps.move rfl rfl ?_
                exact AOps.nil ⟨rfl, rfl⟩
                exact rfl
                apply DrawSeq.consF; exact rfl; intro E
                refine AOps.guardT rfl rfl rfl hb14 ?_; refine AOps.move rfl rfl ?_
                exact AOps.nil ⟨rfl, rfl⟩
                exact rfl
                apply DrawSeq.consF; exact rfl; intro E
                refine AOps.guardT rfl rfl rfl hb14 ?_; refine S.idx ha72 rfl rfl rfl rfl ?_
                exact AOps.nil ⟨rfl, rfl⟩
                exact rfl
                apply DrawSeq.consF; exact rfl; intro E
                refine AOps.guardT rfl rfl rfl hb14 ?_; refine AOps.loadI rfl rfl rfl rfl ?_
                exact AOps.nil ⟨rfl, rfl⟩
                exact rfl
                apply DrawSeq.consF; exact rfl; intro E
                refine AOps.guardT rfl rfl rfl hb14 ?_; refine AOps.move rfl rfl ?_
                exact AOps.nil ⟨rfl, rfl⟩
                exact rfl
                apply DrawSeq.consF; exact rfl; intro E
                refine AOps.guardT rfl rfl rfl hb14 ?_; refine AOps.move rfl rfl ?_
                exact AOps.nil ⟨rfl, rfl⟩
                exact rfl
                apply DrawSeq.consF; exact rfl; intro E
                refine AOps.guardT rfl rfl rfl hb14 ?_; refine S.idxO ha76 rfl rfl rfl rfl rfl ?_
                exact AOps.nil ⟨rfl, rfl⟩
                exact rfl
                apply DrawSeq.consF; exact rfl; intro E
                refine AOps.guardT rfl rfl rfl hb14 ?_; refine S.loadO ha76 rfl rfl rfl rfl rfl ?_
                exact AOps.nil ⟨rfl, rfl⟩
                exact rfl
                apply DrawSeq.consF; exact rfl; intro E
                refine AOps.guardT rfl rfl rfl hb14 ?_; refine S.idx ha78 rfl rfl rfl rfl ?_
                exact AOps.nil ⟨rfl, rfl⟩
                exact rfl
                apply DrawSeq.consF; exact rfl; intro E
                refine AOps.guardT rfl rfl rfl hb14 ?_; refine AOps.loadI rfl rfl rfl rfl ?_
                exact AOps.nil ⟨rfl, rfl⟩
                exact rfl
                apply DrawSeq.consF; exact rfl; intro E
                refine AOps.guardT rfl rfl rfl hb14 ?_; refine AOps.callR rfl rfl rfl rfl (strips_Can_ok ha80) rfl ?_
                exact AOps.nil ⟨rfl, rfl⟩
                exact rfl
                apply DrawSeq.consF; exact rfl; intro E
                refine AOps.guardT rfl rfl rfl hb14 ?_; refine AOps.not rfl rfl ?_
                exact AOps.nil ⟨rfl, rfl⟩
                exact rfl
                apply DrawSeq.consF; exact rfl; intro E
                refine AOps.pickF rfl hb14 rfl rfl ?_
                exact AOps.nil ⟨rfl, rfl⟩
                exact rfl
                refine DrawSeq.done ?_
                dsimp only [envEnd]
                have ej := Option.some.inj hx13
                subst ej
                refine thn_normal ?_
                exact Sub.env ⟨rfl, rfl, rfl, rfl, rfl, rfl, rfl, rfl, rfl, rfl, rfl, trivial⟩
            · refine AWP.iteB rfl h (fun hc15 h => ?_) (fun hc15 h => ?_)
              · refine AWP.seq ?_
                refine AWP.region ?_
                refine W.build rfl rfl rfl rfl ?_
                refine AOps.assign rfl rfl ?_
                refine W.storeAgg rfl rfl rfl rfl rfl rfl rfl ?_
                refine AOps.nil ?_
                refine thn_normal ?_
                refine AWP.ret ?_
                refine thn_ret ?_
                refine inB_ret ?_
                refine thn_ret ?_
                have ej := Option.some.inj h
                subst ej
                refine thn_ret ⟨_, rfl, rfl, ?_⟩
                exact Done.ret rfl rfl
              · refine AWP.skip ?_
                refine thn_normal ?_
                refine AWP.seq ?_
                obtain ⟨a88, ha88, h⟩ := bind_some h
                obtain ⟨a92, ha92, h⟩ := bind_some h
                obtain ⟨a94, ha94, h⟩ := bind_some h
                obtain ⟨a96, ha96, h⟩ := bind_some h
                refine AWP.drawEI [12] mixed rfl rfl rfl ?_
                apply DrawSeqE.consN; exact rfl; exact rfl; intro E
                refine W.loadAgg rfl rfl rfl rfl rfl rfl rfl ?_
                exact AOps.nil ⟨rfl, rfl⟩
                exact rfl
                apply DrawSeqE.consN; exact rfl; exact rfl; intro E
                refine AOps.move rfl rfl ?_
                exact AOps.nil ⟨rfl, rfl⟩
                exact rfl
                apply DrawSeqE.consN; exact rfl; exact rfl; intro E
                refine AOps.move rfl rfl ?_
                exact AOps.nil ⟨rfl, rfl⟩
                exact rfl
                apply DrawSeqE.consN; exact rfl; exact rfl; intro E
                refine AOps.move rfl rfl ?_
                exact AOps.nil ⟨rfl, rfl⟩
                exact rfl
                apply DrawSeqE.consN; exact rfl; exact rfl; intro E
                refine S.idx ha88 rfl rfl rfl rfl ?_
                exact AOps.nil ⟨rfl, rfl⟩
                exact rfl
                apply DrawSeqE.consN; exact rfl; exact rfl; intro E
                refine AOps.loadI rfl rfl rfl rfl ?_
                exact AOps.nil ⟨rfl, rfl⟩
                exact rfl
                apply DrawSeqE.consN; exact rfl; exact rfl; intro E
                refine AOps.move rfl rfl ?_
                exact AOps.nil ⟨rfl, rfl⟩
                exact rfl
                apply DrawSeqE.consN; exact rfl; exact rfl; intro E
                refine AOps.move rfl rfl ?_
                exact AOps.nil ⟨rfl, rfl⟩
                exact rfl
                apply DrawSeqE.consN; exact rfl; exact rfl; intro E
                refine S.idxO ha92 rfl rfl rfl rfl rfl ?_
                exact AOps.nil ⟨rfl, rfl⟩
                exact rfl
                apply DrawSeqE.consN; exact rfl; exact rfl; intro E
                refine S.loadO ha92 rfl rfl rfl rfl rfl ?_
                exact AOps.nil ⟨rfl, rfl⟩
                exact rfl
                apply DrawSeqE.consN; exact rfl; exact rfl; intro E
                refine S.idx ha94 rfl rfl rfl rfl ?_
                exact AOps.nil ⟨rfl, rfl⟩
                exact rfl
                apply DrawSeqE.consN; exact rfl; exact rfl; intro E
                refine AOps.loadI rfl rfl rfl rfl ?_
                exact AOps.nil ⟨rfl, rfl⟩
                exact rfl
                apply DrawSeqE.consE; exact rfl; exact rfl; intro E
                refine S.fresh rfl rfl rfl rfl (strips_Next_ok ha96) rfl rfl ?_
                exact AOps.nil ⟨rfl, rfl⟩
                exact rfl
                exact rfl
                apply DrawSeqE.consN; exact rfl; exact rfl; intro E
                refine AOps.assign rfl rfl ?_
                exact AOps.nil ⟨rfl, rfl⟩
                exact rfl
                refine DrawSeqE.done rfl ?_ ?_
                · apply RestI.cons; exact rfl; exact rfl
                  first | refine RestK.skip rfl ?_ | (apply RestK.go; exact rfl; exact rfl; intro E; (refine W.loadAgg rfl rfl rfl rfl rfl rfl rfl ?_); exact AOps.nil ⟨rfl, rfl⟩)
                  first | refine RestK.skip rfl ?_ | (apply RestK.go; exact rfl; exact rfl; intro E; (refine W.loadAgg rfl rfl rfl rfl rfl rfl rfl ?_); exact AOps.nil ⟨rfl, rfl⟩)
                  exact RestK.nil
                  apply RestI.cons; exact rfl; exact rfl
                  first | refine RestK.skip rfl ?_ | (apply RestK.go; exact rfl; exact rfl; intro E; (refine AOps.move rfl rfl ?_); exact AOps.nil ⟨rfl, rfl⟩)
                  first | refine RestK.skip rfl ?_ | (apply RestK.go; exact rfl; exact rfl; intro E; (refine AOps.move rfl rfl ?_); exact AOps.nil ⟨rfl, rfl⟩)
                  exact RestK.nil
                  apply RestI.cons; exact rfl; exact rfl
                  first | refine RestK.skip rfl ?_ | (apply RestK.go; exact rfl; exact rfl; intro E; (refine AOps.move rfl rfl ?_); exact AOps.nil ⟨rfl, rfl⟩)
                  first | refine RestK.skip rfl ?_ | (apply RestK.go; exact rfl; exact rfl; intro E; (refine AOps.move rfl rfl ?_); exact AOps.nil ⟨rfl, rfl⟩)
                  exact RestK.nil
                  apply RestI.cons; exact rfl; exact rfl
                  first | refine RestK.skip rfl ?_ | (apply RestK.go; exact rfl; exact rfl; intro E; (refine AOps.move rfl rfl ?_); exact AOps.nil ⟨rfl, rfl⟩)
                  first | refine RestK.skip rfl ?_ | (apply RestK.go; exact rfl; exact rfl; intro E; (refine AOps.move rfl rfl ?_); exact AOps.nil ⟨rfl, rfl⟩)
                  exact RestK.nil
                  apply RestI.cons; exact rfl; exact rfl
                  first | refine RestK.skip rfl ?_ | (apply RestK.go; exact rfl; exact rfl; intro E; (refine S.idx ha88 rfl rfl rfl rfl ?_); exact AOps.nil ⟨rfl, rfl⟩)
                  first | refine RestK.skip rfl ?_ | (apply RestK.go; exact rfl; exact rfl; intro E; (refine S.idx ha88 rfl rfl rfl rfl ?_); exact AOps.nil ⟨rfl, rfl⟩)
                  exact RestK.nil
                  apply RestI.cons; exact rfl; exact rfl
                  first | refine RestK.skip rfl ?_ | (apply RestK.go; exact rfl; exact rfl; intro E; (refine AOps.loadI rfl rfl rfl rfl ?_); exact AOps.nil ⟨rfl, rfl⟩)
                  first | refine RestK.skip rfl ?_ | (apply RestK.go; exact rfl; exact rfl; intro E; (refine AOps.loadI rfl rfl rfl rfl ?_); exact AOps.nil ⟨rfl, rfl⟩)
                  exact RestK.nil
                  apply RestI.cons; exact rfl; exact rfl
                  first | refine RestK.skip rfl ?_ | (apply RestK.go; exact rfl; exact rfl; intro E; (refine AOps.move rfl rfl ?_); exact AOps.nil ⟨rfl, rfl⟩)
                  first | refine RestK.skip rfl ?_ | (apply RestK.go; exact rfl; exact rfl; intro E; (refine AOps.move rfl rfl ?_); exact AOps.nil ⟨rfl, rfl⟩)
                  exact RestK.nil
                  apply RestI.cons; exact rfl; exact rfl
                  first | refine RestK.skip rfl ?_ | (apply RestK.go; exact rfl; exact rfl; intro E; (refine AOps.move rfl rfl ?_); exact AOps.nil ⟨rfl, rfl⟩)
                  first | refine RestK.skip rfl ?_ | (apply RestK.go; exact rfl; exact rfl; intro E; (refine AOps.move rfl rfl ?_); exact AOps.nil ⟨rfl, rfl⟩)
                  exact RestK.nil
                  apply RestI.cons; exact rfl; exact rfl
                  first | refine RestK.skip rfl ?_ | (apply RestK.go; exact rfl; exact rfl; intro E; (refine S.idxO ha92 rfl rfl rfl rfl rfl ?_); exact AOps.nil ⟨rfl, rfl⟩)
                  first | refine RestK.skip rfl ?_ | (apply RestK.go; exact rfl; exact rfl; intro E; (refine S.idxO ha92 rfl rfl rfl rfl rfl ?_); exact AOps.nil ⟨rfl, rfl⟩)
                  exact RestK.nil
                  apply RestI.cons; exact rfl; exact rfl
                  first | refine RestK.skip rfl ?_ | (apply RestK.go; exact rfl; exact rfl; intro E; (refine S.loadO ha92 rfl rfl rfl rfl rfl ?_); exact AOps.nil ⟨rfl, rfl⟩)
                  first | refine RestK.skip rfl ?_ | (apply RestK.go; exact rfl; exact rfl; intro E; (refine S.loadO ha92 rfl rfl rfl rfl rfl ?_); exact AOps.nil ⟨rfl, rfl⟩)
                  exact RestK.nil
                  apply RestI.cons; exact rfl; exact rfl
                  first | refine RestK.skip rfl ?_ | (apply RestK.go; exact rfl; exact rfl; intro E; (refine S.idx ha94 rfl rfl rfl rfl ?_); exact AOps.nil ⟨rfl, rfl⟩)
                  first | refine RestK.skip rfl ?_ | (apply RestK.go; exact rfl; exact rfl; intro E; (refine S.idx ha94 rfl rfl rfl rfl ?_); exact AOps.nil ⟨rfl, rfl⟩)
                  exact RestK.nil
                  apply RestI.cons; exact rfl; exact rfl
                  first | refine RestK.skip rfl ?_ | (apply RestK.go; exact rfl; exact rfl; intro E; (refine AOps.loadI rfl rfl rfl rfl ?_); exact AOps.nil ⟨rfl, rfl⟩)
                  first | refine RestK.skip rfl ?_ | (apply RestK.go; exact rfl; exact rfl; intro E; (refine AOps.loadI rfl rfl rfl rfl ?_); exact AOps.nil ⟨rfl, rfl⟩)
                  exact RestK.nil
                  refine RestI.skip rfl ?_
                  apply RestI.cons; exact rfl; exact rfl
                  first | refine RestK.skip rfl ?_ | (apply RestK.go; exact rfl; exact rfl; intro E; (refine AOps.assign rfl rfl ?_); exact AOps.nil ⟨rfl, rfl⟩)
                  first | refine RestK.skip rfl ?_ | (apply RestK.go; exact rfl; exact rfl; intro E; (refine AOps.assign rfl rfl ?_); exact AOps.nil ⟨rfl, rfl⟩)
                  exact RestK.nil
                  exact RestI.nil
                dsimp only [envEnd]
                refine thn_normal ?_
                obtain ⟨a99, ha99, h⟩ := bind_some h
                obtain ⟨a102, ha102, h⟩ := bind_some h
                refine AWP.region ?_
                refine AOps.move rfl rfl ?_
                refine AOps.move rfl rfl ?_
                refine S.idxO ha99 rfl rfl rfl rfl rfl ?_
                refine S.loadO ha99 rfl rfl rfl rfl rfl ?_
                refine S.add rfl rfl rfl ?_
                refine S.idxO ha102 rfl rfl rfl rfl rfl ?_
                refine S.storeO1 (f := intI) (a' := w64 (a99 + 1)) (ix_lt ha102) (fun _ => ⟨_, rfl⟩) rfl rfl rfl rfl rfl ?_
                refine AOps.nil ?_
                refine inB_normal ?_
                refine thn_normal ?_
                refine AWP.region ?_
                refine AOps.add rfl rfl rfl (by omega) ?_
                refine AOps.move rfl rfl ?_
                refine AOps.nil ?_
                have ej := Option.some.inj h
                subst ej
                refine thn_normal ⟨_, rfl, ?_⟩
                exact (Sub.frzV (id := 3) (l := a96) (env2 := [(1, .c (row 1 eLi64 goals)), (2, .c (row 1 eLi64 plans)), (4, .c (.ptr 0 0 0)), (9, .c (.ptr 1 0 0)), (13, .c (.own 2 0 c9.length)), (14, .c (row 1 intI a96)), (51, .c (row 1 intI turns)), (52, .c (int (turns.length : Int))), (53, .c (int (t11 + 1)))]) (σ2 := [.one (.cells 4 [[int t.facts, row 1 intI t.init, row 1 intI t.goal, row 4 eTOperator t.operators]]), .one (.cells 2 [[int 0, int 0]]), .one (vec 1 intI (c9.set a55.toNat (w64 (a99 + 1)))), .dead]) rfl rfl (by exact ⟨⟨_, rfl, .inl ⟨rfl, rfl⟩⟩, ⟨_, rfl, .inl ⟨rfl, rfl⟩⟩, ⟨_, rfl, .inl ⟨rfl, rfl⟩⟩, ⟨_, rfl, .inl ⟨rfl, rfl⟩⟩, ⟨_, rfl, .inl ⟨rfl, rfl⟩⟩, ⟨_, rfl, .inr ⟨_, rfl, rfl, rfl⟩⟩, ⟨_, rfl, .inl ⟨rfl, rfl⟩⟩, ⟨_, rfl, .inl ⟨rfl, rfl⟩⟩, ⟨_, rfl, .inl ⟨rfl, rfl⟩⟩, trivial⟩) rfl (by exact ⟨⟨rfl, .inl ⟨rfl, rfl⟩, .inl ⟨rfl, rfl⟩, .inl ⟨rfl, rfl⟩, .inl ⟨rfl, rfl⟩, trivial⟩, ⟨rfl, .inl ⟨rfl, rfl⟩, .inl ⟨rfl, rfl⟩, trivial⟩, FrzB.vec, trivial, trivial⟩)).trans (Sub.cut ⟨rfl, rfl, rfl, rfl, (own_len (by first | rfl | simp only [List.length_set])), rfl, rfl, rfl, rfl, trivial⟩ rfl ⟨.one rfl, .one rfl, .vec, trivial⟩ rfl)
          · intro e s hq
            rcases oo with ⟨c9, sv10⟩ | x
            · try dsimp only at h hq
              obtain ⟨rfl, hs⟩ := hq
              refine ⟨_, hs, ?_⟩
              refine inB_exit ?_
              refine thn_normal ?_
              refine AWP.seq ?_
              refine AWP.seq ?_
              refine AWP.region ?_
              refine AOps.move rfl rfl ?_
              refine S.len rfl rfl (fun hl105 => ?_)
              refine AOps.move rfl rfl ?_
              refine AOps.nil ?_
              refine thn_normal ?_
              refine AWP.block ?_
              obtain ⟨oo, ho3, h⟩ := bind_some h
              refine AWP.rngS ho3 (fun t16 _ => ⟨[(1, .c (row 1 eLi64 goals)), (2, .c (row 1 eLi64 plans)), (9, .c (.ptr 1 0 0)), (13, .c (.own 2 0 c9.length)), (14, .c (row 1 intI sv10)), (105, .c (int (plans.length : Int))), (106, .c (int t16))], [.dead, .one (.cells 2 [[int 0, int 0]]), .one (vec 1 intI c9)]⟩) (fun o e st => match o with | .inl _ => e = .exit 4 ∧ Sub [] st ⟨[(1, .c (row 1 eLi64 goals)), (9, .c (.ptr 1 0 0)), (14, .c (row 1 intI sv10))], [.dead, .one (.cells 2 [[int 0, int 0]]), .one (vec 1 intI c9)]⟩ | .inr x => e = .ret ∧ Done [.t 8, .cell 9 28 2] (fun t _ => t = .tup [.c (bool x.1), .agg [int x.2.code, int x.2.index]]) .ret st) ?_ ?_ ?_ ?_
              · try dsimp only
                exact Sub.cut ⟨rfl, rfl, rfl, rfl, rfl, rfl, rfl, trivial⟩ rfl ⟨.dead, .one rfl, .vec, trivial⟩ rfl
              · intro t16 s hlot16 hltt16 _
                try dsimp only
                refine AWP.seq ?_
                refine AWP.region ?_
                refine AOps.lss rfl rfl rfl ?_
                refine AOps.nil ?_
                refine thn_normal ?_
                refine AWP.seq ?_
                refine AWP.condNP rfl hltt16 ?_
                refine AWP.exit ?_
                refine thn_exit ?_
                refine thn_exit ⟨rfl, ?_⟩
                exact Sub.env ⟨rfl, rfl, rfl, trivial⟩
              · intro t16 s o hlot16 hltt16 h
                unfold merging_Check_l3 at h
                try dsimp only at h ⊢
                refine AWP.seq ?_
                refine AWP.region ?_
                refine AOps.lss rfl rfl rfl ?_
                refine AOps.nil ?_
                refine thn_normal ?_
                refine AWP.seq ?_
                refine AWP.condP rfl hltt16 ?_
                refine AWP.skip ?_
                refine thn_normal ?_
                refine AWP.seq ?_
                refine AWP.block ?_
                refine AWP.seq ?_
                refine AWP.region ?_
                refine AOps.move rfl rfl ?_
                refine AOps.assign rfl rfl ?_
                refine AOps.nil ?_
                refine thn_normal ?_
                refine AWP.seq ?_
                obtain ⟨a111, ha111, h⟩ := bind_some h
                obtain ⟨a115, ha115, h⟩ := bind_some h
                refine AWP.drawI mixed rfl ?_
                apply DrawSeq.consF; exact rfl; intro E
                refine AOps.move rfl rfl ?_
                exact AOps.nil ⟨rfl, rfl⟩
                exact rfl
                apply DrawSeq.consF; exact rfl; intro E
                refine AOps.move rfl rfl ?_
                exact AOps.nil ⟨rfl, rfl⟩
                exact rfl
                apply DrawSeq.consF; exact rfl; intro E
                refine S.idxO ha111 rfl rfl rfl rfl rfl ?_
                exact AOps.nil ⟨rfl, rfl⟩
                exact rfl
                apply DrawSeq.consF; exact rfl; intro E
                refine S.loadO ha111 rfl rfl rfl rfl rfl ?_
                exact AOps.nil ⟨rfl, rfl⟩
                exact rfl
                apply DrawSeq.consF; exact rfl; intro E
                refine AOps.move rfl rfl ?_
                exact AOps.nil ⟨rfl, rfl⟩
                exact rfl
                apply DrawSeq.consF; exact rfl; intro E
                refine AOps.move rfl rfl ?_
                exact AOps.nil ⟨rfl, rfl⟩
                exact rfl
                apply DrawSeq.consF; exact rfl; intro E
                refine S.idx ha115 rfl rfl rfl rfl ?_
                exact AOps.nil ⟨rfl, rfl⟩
                exact rfl
                apply DrawSeq.consF; exact rfl; intro E
                refine AOps.loadI rfl rfl rfl rfl ?_
                exact AOps.nil ⟨rfl, rfl⟩
                exact rfl
                apply DrawSeq.consF; exact rfl; intro E
                refine S.len rfl rfl (fun hl117 => ?_)
                exact AOps.nil ⟨rfl, rfl⟩
                exact rfl
                apply DrawSeq.consF; exact rfl; intro E
                refine AOps.lss rfl rfl rfl ?_
                exact AOps.nil ⟨rfl, rfl⟩
                exact rfl
                refine DrawSeq.done ?_
                dsimp only [envEnd]
                refine thn_normal ?_
                refine AWP.ite rfl h (fun hc17 h => ?_) (fun hc17 h => ?_)
                · refine AWP.seq ?_
                  refine AWP.region ?_
                  refine W.build rfl rfl rfl rfl ?_
                  refine AOps.assign rfl rfl ?_
                  refine W.storeAgg rfl rfl rfl rfl rfl rfl rfl ?_
                  refine AOps.nil ?_
                  refine thn_normal ?_
                  refine AWP.ret ?_
                  refine inB_ret ?_
                  refine thn_ret ?_
                  have ej := Option.some.inj h
                  subst ej
                  refine thn_ret ⟨_, rfl, rfl, ?_⟩
                  exact Done.ret rfl rfl
                · refine AWP.skip ?_
                  refine inB_normal ?_
                  refine thn_normal ?_
                  refine AWP.region ?_
                  refine AOps.add rfl rfl rfl (by omega) ?_
                  refine AOps.move rfl rfl ?_
                  refine AOps.nil ?_
                  have ej := Option.some.inj h
                  subst ej
                  refine thn_normal ⟨_, rfl, ?_⟩
                  exact Sub.env ⟨rfl, rfl, rfl, rfl, rfl, rfl, rfl, trivial⟩
              · intro e s hq
                rcases oo with u | x
                · try dsimp only at h hq
                  obtain ⟨rfl, hs⟩ := hq
                  refine ⟨_, hs, ?_⟩
                  refine inB_exit ?_
                  refine thn_normal ?_
                  refine AWP.seq ?_
                  obtain ⟨a123, ha123, h⟩ := bind_some h
                  obtain ⟨a124, ha124, h⟩ := bind_some h
                  refine AWP.region ?_
                  refine AOps.move rfl rfl ?_
                  refine AOps.move rfl rfl ?_
                  refine S.fresh rfl rfl rfl rfl (merging_union_ok ha123) rfl rfl ?_
                  refine AOps.callL rfl rfl (.cons (.c .imm) (.cons (.c (.own rfl rfl)) .nil)) rfl (strips_Contains_ok ha124) rfl ?_
                  refine W.build rfl rfl rfl rfl ?_
                  refine AOps.assign rfl rfl ?_
                  refine W.storeAgg rfl rfl rfl rfl rfl rfl rfl ?_
                  refine AOps.nil ?_
                  refine thn_normal ?_
                  refine AWP.ret ?_
                  have ej := Option.some.inj h
                  subst ej
                  exact Done.ret rfl rfl
                · try dsimp only at h hq
                  obtain ⟨rfl, hs⟩ := hq
                  refine ⟨_, Sub.refl _ _, ?_⟩
                  refine inB_ret ?_
                  refine thn_ret ?_
                  have ej := Option.some.inj h
                  subst ej
                  exact hs
            · try dsimp only at h hq
              obtain ⟨rfl, hs⟩ := hq
              refine ⟨_, Sub.refl _ _, ?_⟩
              refine inB_ret ?_
              refine thn_ret ?_
              have ej := Option.some.inj h
              subst ej
              exact hs
        · try dsimp only at h hq
          obtain ⟨rfl, hs⟩ := hq
          refine ⟨_, Sub.refl _ _, ?_⟩
          refine inB_ret ?_
          refine thn_ret ?_
          have ej := Option.some.inj h
          subst ej
          exact hs
theorem equal_Numbers_ok {av : List Int} {bv : List Int} {r : Bool} (h : equal_Numbers av bv = some r) : PureOk Tryd.prog 13 [.c (row 1 intI av), .c (row 1 intI bv)] (.c (bool r)) := by
  unfold PureOk
  refine FnOk.enter (rs := [.t 4]) Tryd.func13 rfl Tryd.ntmps13 Tryd.results13 rfl ⟨trivial, trivial⟩ (by kernel_rfl) rfl ?_
  unfold equal_Numbers at h
  refine AWP.seq ?_
  refine AWP.region ?_
  refine AOps.assign rfl rfl ?_
  refine AOps.nil ?_
  refine thn_normal ?_
  refine AWP.seq ?_
  refine AWP.seq ?_
  refine AWP.region ?_
  refine AOps.move rfl rfl ?_
  refine S.len rfl rfl (fun hl7 => ?_)
  refine AOps.move rfl rfl ?_
  refine S.len rfl rfl (fun hl9 => ?_)
  refine AOps.neq rfl rfl rfl ?_
  refine AOps.nil ?_
  refine thn_normal ?_
  refine AWP.iteN rfl h (fun hc3 h => ?_) (fun hc3 h => ?_)
  · refine AWP.seq ?_
    refine AWP.region ?_
    refine AOps.assign rfl rfl ?_
    refine AOps.nil ?_
    refine thn_normal ?_
    refine AWP.ret ?_
    refine thn_ret ?_
    have ej := Option.some.inj h
    subst ej
    exact Done.ret rfl rfl
  · refine AWP.skip ?_
    refine thn_normal ?_
    refine AWP.seq ?_
    refine AWP.seq ?_
    refine AWP.region ?_
    refine AOps.assign rfl rfl ?_
    refine AOps.nil ?_
    refine thn_normal ?_
    refine AWP.block ?_
    obtain ⟨oo, ho1, h⟩ := bind_some h
    refine AWP.rngS ho1 (fun iv4 _ => ⟨[(0, .c (row 1 intI av)), (1, .c (row 1 intI bv)), (5, .c (int iv4))], []⟩) (fun o e st => match o with | .inl _ => e = .exit 0 ∧ Sub [] st ⟨[], []⟩ | .inr x => e = .ret ∧ Done [.t 4] (fun t _ => t = .c (bool x)) .ret st) ?_ ?_ ?_ ?_
    · try dsimp only
      exact Sub.env ⟨rfl, rfl, rfl, trivial⟩
    · intro iv4 s hloiv4 hltiv4 _
      try dsimp only
      refine AWP.seq ?_
      refine AWP.seq ?_
      refine AWP.region ?_
      refine AOps.move rfl rfl ?_
      refine AOps.move rfl rfl ?_
      refine S.len rfl rfl (fun hl13 => ?_)
      refine AOps.lss rfl rfl rfl ?_
      refine AOps.nil ?_
      refine thn_normal ?_
      refine AWP.condNP rfl hltiv4 ?_
      refine AWP.exit ?_
      refine thn_exit ?_
      refine thn_exit ⟨rfl, ?_⟩
      exact Sub.env trivial
    · intro iv4 s o hloiv4 hltiv4 h
      unfold equal_Numbers_l1 at h
      try dsimp only at h ⊢
      refine AWP.seq ?_
      refine AWP.seq ?_
      refine AWP.region ?_
      refine AOps.move rfl rfl ?_
      refine AOps.move rfl rfl ?_
      refine S.len rfl rfl (fun hl13 => ?_)
      refine AOps.lss rfl rfl rfl ?_
      refine AOps.nil ?_
      refine thn_normal ?_
      refine AWP.condP rfl hltiv4 ?_
      refine AWP.skip ?_
      refine thn_normal ?_
      refine AWP.seq ?_
      refine AWP.block ?_
      refine AWP.seq ?_
      obtain ⟨a19, ha19, h⟩ := bind_some h
      obtain ⟨a23, ha23, h⟩ := bind_some h
      refine AWP.drawI mixed rfl ?_
      apply DrawSeq.consF; exact rfl; intro E
      refine AOps.move rfl rfl ?_
      exact AOps.nil ⟨rfl, rfl⟩
      exact rfl
      apply DrawSeq.consF; exact rfl; intro E
      refine AOps.move rfl rfl ?_
      exact AOps.nil ⟨rfl, rfl⟩
      exact rfl
      apply DrawSeq.consF; exact rfl; intro E
      refine S.idx ha19 rfl rfl rfl rfl ?_
      exact AOps.nil ⟨rfl, rfl⟩
      exact rfl
      apply DrawSeq.consF; exact rfl; intro E
      refine AOps.loadI rfl rfl rfl rfl ?_
      exact AOps.nil ⟨rfl, rfl⟩
      exact rfl
      apply DrawSeq.consF; exact rfl; intro E
      refine AOps.move rfl rfl ?_
      exact AOps.nil ⟨rfl, rfl⟩
      exact rfl
      apply DrawSeq.consF; exact rfl; intro E
      refine AOps.move rfl rfl ?_
      exact AOps.nil ⟨rfl, rfl⟩
      exact rfl
      apply DrawSeq.consF; exact rfl; intro E
      refine S.idx ha23 rfl rfl rfl rfl ?_
      exact AOps.nil ⟨rfl, rfl⟩
      exact rfl
      apply DrawSeq.consF; exact rfl; intro E
      refine AOps.loadI rfl rfl rfl rfl ?_
      exact AOps.nil ⟨rfl, rfl⟩
      exact rfl
      apply DrawSeq.consF; exact rfl; intro E
      refine AOps.neq rfl rfl rfl ?_
      exact AOps.nil ⟨rfl, rfl⟩
      exact rfl
      refine DrawSeq.done ?_
      dsimp only [envEnd]
      refine thn_normal ?_
      refine AWP.iteN rfl h (fun hc5 h => ?_) (fun hc5 h => ?_)
      · refine AWP.seq ?_
        refine AWP.region ?_
        refine AOps.assign rfl rfl ?_
        refine AOps.nil ?_
        refine thn_normal ?_
        refine AWP.ret ?_
        refine inB_ret ?_
        refine thn_ret ?_
        have ej := Option.some.inj h
        subst ej
        refine thn_ret ⟨_, rfl, rfl, ?_⟩
        exact Done.ret rfl rfl
      · refine AWP.skip ?_
        refine inB_normal ?_
        refine thn_normal ?_
        refine AWP.region ?_
        refine AOps.move rfl rfl ?_
        refine AOps.add rfl rfl rfl (by omega) ?_
        refine AOps.assign rfl rfl ?_
        refine AOps.nil ?_
        have ej := Option.some.inj h
        subst ej
        refine thn_normal ⟨_, rfl, ?_⟩
        exact Sub.env ⟨rfl, rfl, rfl, trivial⟩
    · intro e s hq
      rcases oo with u | x
      · try dsimp only at h hq
        obtain ⟨rfl, hs⟩ := hq
        refine ⟨_, hs, ?_⟩
        refine inB_exit ?_
        refine thn_normal ?_
        refine AWP.seq ?_
        refine AWP.region ?_
        refine AOps.assign rfl rfl ?_
        refine AOps.nil ?_
        refine thn_normal ?_
        refine AWP.ret ?_
        have ej := Option.some.inj h
        subst ej
        exact Done.ret rfl rfl
      · try dsimp only at h hq
        obtain ⟨rfl, hs⟩ := hq
        refine ⟨_, Sub.refl _ _, ?_⟩
        refine inB_ret ?_
        refine thn_ret ?_
        have ej := Option.some.inj h
        subst ej
        exact hs
theorem law8_merged_ok {r : Bool} (h : law8_merged = some r) : PureOk Tryd.prog 10 [] (.c (bool r)) := by
  unfold PureOk
  refine FnOk.enter (rs := [.t 0]) Tryd.func10 rfl Tryd.ntmps10 Tryd.results10 rfl ⟨trivial, trivial⟩ (by kernel_rfl) rfl ?_
  unfold law8_merged at h
  refine AWP.seq ?_
  refine AWP.region ?_
  refine AOps.assign rfl rfl ?_
  refine AOps.nil ?_
  refine thn_normal ?_
  refine AWP.seq ?_
  obtain ⟨a7, ha7, h⟩ := bind_some h
  obtain ⟨a12, ha12, h⟩ := bind_some h
  refine AWP.region ?_
  refine AOps.callR rfl rfl rfl rfl (law8_step_ok ha7) rfl ?_
  refine S.lit (f := intI) (l := [1]) (ess := [[int 1]]) rfl rfl rfl rfl rfl rfl rfl ⟨⟨.inl rfl, trivial⟩, trivial⟩ rfl rfl rfl ?_
  refine AOps.frzV (id := 0) (l := [1]) (env2 := [(7, .agg [int a7.facts, row 1 intI a7.init, row 1 intI a7.goal, row 4 eTOperator a7.operators]), (8, .c (row 1 intI [1]))]) (σ2 := [.dead]) rfl rfl (by exact ⟨⟨_, rfl, ⟨.inl ⟨rfl, rfl⟩, .inl ⟨rfl, rfl⟩, .inl ⟨rfl, rfl⟩, .inl ⟨rfl, rfl⟩, trivial⟩⟩, ⟨_, rfl, .inr ⟨_, rfl, rfl, rfl⟩⟩, trivial⟩) rfl (by exact ⟨trivial, trivial⟩) ?_; refine S.lit (f := eLi64) (l := [[1]]) (ess := [[row 1 intI [1]]]) rfl rfl rfl rfl rfl rfl rfl ⟨⟨.inl rfl, trivial⟩, trivial⟩ rfl rfl rfl ?_
  refine S.lit (f := intI) (l := [1, 0]) (ess := [[int 1], [int 0]]) rfl rfl rfl rfl rfl rfl rfl ⟨⟨.inl rfl, trivial⟩, ⟨.inl rfl, trivial⟩, trivial⟩ rfl rfl rfl ?_
  refine AOps.frzV (id := 2) (l := [1, 0]) (env2 := [(7, .agg [int a7.facts, row 1 intI a7.init, row 1 intI a7.goal, row 4 eTOperator a7.operators]), (9, .c (.own 1 0 (([[1]]).length))), (10, .c (row 1 intI [1, 0]))]) (σ2 := [.dead, .one (vec 1 eLi64 ([[1]])), .dead]) rfl rfl (by exact ⟨⟨_, rfl, ⟨.inl ⟨rfl, rfl⟩, .inl ⟨rfl, rfl⟩, .inl ⟨rfl, rfl⟩, .inl ⟨rfl, rfl⟩, trivial⟩⟩, ⟨_, rfl, .inl ⟨rfl, rfl⟩⟩, ⟨_, rfl, .inr ⟨_, rfl, rfl, rfl⟩⟩, trivial⟩) rfl (by exact ⟨trivial, FrzB.vec, trivial, trivial⟩) ?_; refine S.lit (f := eLi64) (l := [[1, 0]]) (ess := [[row 1 intI [1, 0]]]) rfl rfl rfl rfl rfl rfl rfl ⟨⟨.inl rfl, trivial⟩, trivial⟩ rfl rfl rfl ?_
  refine AOps.frzV (id := 1) (l := [[1]]) (env2 := [(7, .agg [int a7.facts, row 1 intI a7.init, row 1 intI a7.goal, row 4 eTOperator a7.operators]), (9, .c (row 1 eLi64 ([[1]]))), (11, .c (.own 3 0 (([[1, 0]]).length)))]) (σ2 := [.dead, .dead, .dead, .one (vec 1 eLi64 ([[1, 0]]))]) rfl rfl (by exact ⟨⟨_, rfl, ⟨.inl ⟨rfl, rfl⟩, .inl ⟨rfl, rfl⟩, .inl ⟨rfl, rfl⟩, .inl ⟨rfl, rfl⟩, trivial⟩⟩, ⟨_, rfl, .inr ⟨_, rfl, rfl, rfl⟩⟩, ⟨_, rfl, .inl ⟨rfl, rfl⟩⟩, trivial⟩) rfl (by exact ⟨trivial, trivial, trivial, FrzB.vec, trivial⟩) ?_; refine AOps.frzV (id := 3) (l := [[1, 0]]) (env2 := [(7, .agg [int a7.facts, row 1 intI a7.init, row 1 intI a7.goal, row 4 eTOperator a7.operators]), (9, .c (row 1 eLi64 ([[1]]))), (11, .c (row 1 eLi64 ([[1, 0]])))]) (σ2 := [.dead, .dead, .dead, .dead]) rfl rfl (by exact ⟨⟨_, rfl, ⟨.inl ⟨rfl, rfl⟩, .inl ⟨rfl, rfl⟩, .inl ⟨rfl, rfl⟩, .inl ⟨rfl, rfl⟩, trivial⟩⟩, ⟨_, rfl, .inl ⟨rfl, rfl⟩⟩, ⟨_, rfl, .inr ⟨_, rfl, rfl, rfl⟩⟩, trivial⟩) rfl (by exact ⟨trivial, trivial, trivial, trivial, trivial⟩) ?_; refine AOps.callR rfl rfl rfl rfl (merging_Merge_ok ha12) rfl ?_
  refine AOps.move rfl rfl ?_
  refine AOps.extract rfl rfl rfl ?_
  refine AOps.extract rfl rfl rfl ?_
  refine AOps.extract rfl rfl rfl ?_
  refine W.alloc rfl rfl rfl rfl ?_
  refine AOps.assign rfl rfl ?_
  refine AOps.assign rfl rfl ?_
  refine W.storeAgg rfl rfl rfl rfl rfl rfl rfl ?_
  refine AOps.nil ?_
  refine thn_normal ?_
  refine AWP.seq ?_
  obtain ⟨a17, ha17, h⟩ := bind_some h
  obtain ⟨a23, ha23, h⟩ := bind_some h
  refine AWP.region ?_
  refine AOps.callR rfl rfl rfl rfl (law8_step_ok ha17) rfl ?_
  refine S.lit (f := intI) (l := [1]) (ess := [[int 1]]) rfl rfl rfl rfl rfl rfl rfl ⟨⟨.inl rfl, trivial⟩, trivial⟩ rfl rfl rfl ?_
  refine AOps.frzV (id := 5) (l := [1]) (env2 := [(1, .c (row 1 intI a12.1)), (2, .c (bool a12.2.1)), (3, .c (.ptr 4 0 0)), (17, .agg [int a17.facts, row 1 intI a17.init, row 1 intI a17.goal, row 4 eTOperator a17.operators]), (18, .c (row 1 intI [1]))]) (σ2 := [.dead, .dead, .dead, .dead, .one (.cells 2 [[int a12.2.2.code, int a12.2.2.index]]), .dead]) rfl rfl (by exact ⟨⟨_, rfl, .inl ⟨rfl, rfl⟩⟩, ⟨_, rfl, .inl ⟨rfl, rfl⟩⟩, ⟨_, rfl, .inl ⟨rfl, rfl⟩⟩, ⟨_, rfl, ⟨.inl ⟨rfl, rfl⟩, .inl ⟨rfl, rfl⟩, .inl ⟨rfl, rfl⟩, .inl ⟨rfl, rfl⟩, trivial⟩⟩, ⟨_, rfl, .inr ⟨_, rfl, rfl, rfl⟩⟩, trivial⟩) rfl (by exact ⟨trivial, trivial, trivial, trivial, ⟨rfl, .inl ⟨rfl, rfl⟩, .inl ⟨rfl, rfl⟩, trivial⟩, trivial, trivial⟩) ?_; refine S.lit (f := eLi64) (l := [[1]]) (ess := [[row 1 intI [1]]]) rfl rfl rfl rfl rfl rfl rfl ⟨⟨.inl rfl, trivial⟩, trivial⟩ rfl rfl rfl ?_
  refine S.lit (f := intI) (l := [1, 0]) (ess := [[int 1], [int 0]]) rfl rfl rfl rfl rfl rfl rfl ⟨⟨.inl rfl, trivial⟩, ⟨.inl rfl, trivial⟩, trivial⟩ rfl rfl rfl ?_
  refine AOps.frzV (id := 7) (l := [1, 0]) (env2 := [(1, .c (row 1 intI a12.1)), (2, .c (bool a12.2.1)), (3, .c (.ptr 4 0 0)), (17, .agg [int a17.facts, row 1 intI a17.init, row 1 intI a17.goal, row 4 eTOperator a17.operators]), (19, .c (.own 6 0 (([[1]]).length))), (20, .c (row 1 intI [1, 0]))]) (σ2 := [.dead, .dead, .dead, .dead, .one (.cells 2 [[int a12.2.2.code, int a12.2.2.index]]), .dead, .one (vec 1 eLi64 ([[1]])), .dead]) rfl rfl (by exact ⟨⟨_, rfl, .inl ⟨rfl, rfl⟩⟩, ⟨_, rfl, .inl ⟨rfl, rfl⟩⟩, ⟨_, rfl, .inl ⟨rfl, rfl⟩⟩, ⟨_, rfl, ⟨.inl ⟨rfl, rfl⟩, .inl ⟨rfl, rfl⟩, .inl ⟨rfl, rfl⟩, .inl ⟨rfl, rfl⟩, trivial⟩⟩, ⟨_, rfl, .inl ⟨rfl, rfl⟩⟩, ⟨_, rfl, .inr ⟨_, rfl, rfl, rfl⟩⟩, trivial⟩) rfl (by exact ⟨trivial, trivial, trivial, trivial, ⟨rfl, .inl ⟨rfl, rfl⟩, .inl ⟨rfl, rfl⟩, trivial⟩, trivial, FrzB.vec, trivial, trivial⟩) ?_; refine S.lit (f := eLi64) (l := [[1, 0]]) (ess := [[row 1 intI [1, 0]]]) rfl rfl rfl rfl rfl rfl rfl ⟨⟨.inl rfl, trivial⟩, trivial⟩ rfl rfl rfl ?_
  refine AOps.move rfl rfl ?_
  refine AOps.callL rfl rfl (.cons (.agg (.cons .imm (.cons .imm (.cons .imm (.cons .imm .nil))))) (.cons (.c (.own rfl rfl)) (.cons (.c (.own rfl rfl)) (.cons (.c .imm) .nil)))) rfl (merging_Check_ok ha23) rfl ?_
  refine AOps.move rfl rfl ?_
  refine AOps.extract rfl rfl rfl ?_
  refine AOps.extract rfl rfl rfl ?_
  refine W.alloc rfl rfl rfl rfl ?_
  refine AOps.assign rfl rfl ?_
  refine W.storeAgg rfl rfl rfl rfl rfl rfl rfl ?_
  refine AOps.nil ?_
  refine thn_normal ?_
  obtain ⟨t1, hx2, h⟩ := bind_some h
  refine AWP.seqJ (⟨[(0, .c (bool t1))], []⟩) ?_ ?_
  · rcases Bool.eq_false_or_eq_true (decide (a12.2.2.code = 0)) with hb3 | hb3
    · replace hx2 := iteDT hb3 hx2
      rcases Bool.eq_false_or_eq_true (decide (a23.2.code = 0)) with hb4 | hb4
      · replace hx2 := iteDT hb4 hx2
        rcases Bool.eq_false_or_eq_true (a12.2.1) with hb5 | hb5
        · replace hx2 := iteBT hb5 hx2
          rcases Bool.eq_false_or_eq_true (a23.1) with hb6 | hb6
          · replace hx2 := iteBT hb6 hx2
            obtain ⟨a43, ha43, hx2⟩ := bind_some hx2
            refine AWP.region ?_
            refine W.fieldAddr rfl rfl rfl rfl ?_
            refine AOps.load rfl rfl rfl rfl rfl rfl ?_
            refine AOps.eql rfl rfl rfl ?_
            refine AOps.move rfl rfl ?_
            refine AOps.guardT rfl rfl rfl hb3 ?_; refine W.fieldAddr rfl rfl rfl rfl ?_
            refine AOps.guardT rfl rfl rfl hb3 ?_; refine AOps.load rfl rfl rfl rfl rfl rfl ?_
            refine AOps.guardT rfl rfl rfl hb3 ?_; refine AOps.eql rfl rfl rfl ?_
            refine AOps.pickT rfl hb3 rfl rfl ?_
            refine AOps.move rfl rfl ?_
            refine AOps.guardT rfl rfl rfl hb4 ?_; refine AOps.move rfl rfl ?_
            refine AOps.pickT rfl hb4 rfl rfl ?_
            refine AOps.move rfl rfl ?_
            refine AOps.guardT rfl rfl rfl hb5 ?_; refine AOps.move rfl rfl ?_
            refine AOps.pickT rfl hb5 rfl rfl ?_
            refine AOps.move rfl rfl ?_
            refine AOps.guardT rfl rfl rfl hb6 ?_; refine AOps.move rfl rfl ?_
            refine AOps.guardT rfl rfl rfl hb6 ?_; refine S.lit (f := intI) (l := [0, 0]) (ess := [[int 0], [int 0]]) rfl rfl rfl rfl rfl rfl rfl ⟨⟨.inl rfl, trivial⟩, ⟨.inl rfl, trivial⟩, trivial⟩ rfl rfl rfl ?_
            refine AOps.guardT rfl rfl rfl hb6 ?_; refine AOps.callL rfl rfl (.cons (.c .imm) (.cons (.c (.own rfl rfl)) .nil)) rfl (equal_Numbers_ok ha43) rfl ?_
            refine AOps.pickT rfl hb6 rfl rfl ?_
            refine AOps.assign rfl rfl ?_
            refine AOps.nil ?_
            have ej := Option.some.inj hx2
            subst ej
            refine thn_normal ?_
            exact Sub.cut ⟨rfl, trivial⟩ rfl trivial rfl
          · replace hx2 := iteBF hb6 hx2
            refine AWP.region ?_
            refine W.fieldAddr rfl rfl rfl rfl ?_
            refine AOps.load rfl rfl rfl rfl rfl rfl ?_
            refine AOps.eql rfl rfl rfl ?_
            refine AOps.move rfl rfl ?_
            refine AOps.guardT rfl rfl rfl hb3 ?_; refine W.fieldAddr rfl rfl rfl rfl ?_
            refine AOps.guardT rfl rfl rfl hb3 ?_; refine AOps.load rfl rfl rfl rfl rfl rfl ?_
            refine AOps.guardT rfl rfl rfl hb3 ?_; refine AOps.eql rfl rfl rfl ?_
            refine AOps.pickT rfl hb3 rfl rfl ?_
            refine AOps.move rfl rfl ?_
            refine AOps.guardT rfl rfl rfl hb4 ?_; refine AOps.move rfl rfl ?_
            refine AOps.pickT rfl hb4 rfl rfl ?_
            refine AOps.move rfl rfl ?_
            refine AOps.guardT rfl rfl rfl hb5 ?_; refine AOps.move rfl rfl ?_
            refine AOps.pickT rfl hb5 rfl rfl ?_
            refine AOps.move rfl rfl ?_
            refine AOps.guardF rfl rfl rfl hb6 ?_
            refine AOps.guardF rfl rfl rfl hb6 ?_
            refine AOps.guardF rfl rfl rfl hb6 ?_
            refine AOps.pickF rfl hb6 rfl rfl ?_
            refine AOps.assign rfl rfl ?_
            refine AOps.nil ?_
            have ej := Option.some.inj hx2
            subst ej
            refine thn_normal ?_
            exact Sub.cut ⟨rfl, trivial⟩ rfl trivial rfl
        · replace hx2 := iteBF hb5 hx2
          refine AWP.region ?_
          refine W.fieldAddr rfl rfl rfl rfl ?_
          refine AOps.load rfl rfl rfl rfl rfl rfl ?_
          refine AOps.eql rfl rfl rfl ?_
          refine AOps.move rfl rfl ?_
          refine AOps.guardT rfl rfl rfl hb3 ?_; refine W.fieldAddr rfl rfl rfl rfl ?_
          refine AOps.guardT rfl rfl rfl hb3 ?_; refine AOps.load rfl rfl rfl rfl rfl rfl ?_
          refine AOps.guardT rfl rfl rfl hb3 ?_; refine AOps.eql rfl rfl rfl ?_
          refine AOps.pickT rfl hb3 rfl rfl ?_
          refine AOps.move rfl rfl ?_
          refine AOps.guardT rfl rfl rfl hb4 ?_; refine AOps.move rfl rfl ?_
          refine AOps.pickT rfl hb4 rfl rfl ?_
          refine AOps.move rfl rfl ?_
          refine AOps.guardF rfl rfl rfl hb5 ?_
          refine AOps.pickF rfl hb5 rfl rfl ?_
          refine AOps.move rfl rfl ?_
          refine AOps.guardF rfl rfl rfl rfl ?_
          refine AOps.guardF rfl rfl rfl rfl ?_
          refine AOps.guardF rfl rfl rfl rfl ?_
          refine AOps.pickF rfl rfl rfl rfl ?_
          refine AOps.assign rfl rfl ?_
          refine AOps.nil ?_
          have ej := Option.some.inj hx2
          subst ej
          refine thn_normal ?_
          exact Sub.cut ⟨rfl, trivial⟩ rfl trivial rfl
      · replace hx2 := iteDF hb4 hx2
        refine AWP.region ?_
        refine W.fieldAddr rfl rfl rfl rfl ?_
        refine AOps.load rfl rfl rfl rfl rfl rfl ?_
        refine AOps.eql rfl rfl rfl ?_
        refine AOps.move rfl rfl ?_
        refine AOps.guardT rfl rfl rfl hb3 ?_; refine W.fieldAddr rfl rfl rfl rfl ?_
        refine AOps.guardT rfl rfl rfl hb3 ?_; refine AOps.load rfl rfl rfl rfl rfl rfl ?_
        refine AOps.guardT rfl rfl rfl hb3 ?_; refine AOps.eql rfl rfl rfl ?_
        refine AOps.pickT rfl hb3 rfl rfl ?_
        refine AOps.move rfl rfl ?_
        refine AOps.guardF rfl rfl rfl hb4 ?_
        refine AOps.pickF rfl hb4 rfl rfl ?_
        refine AOps.move rfl rfl ?_
        refine AOps.guardF rfl rfl rfl rfl ?_
        refine AOps.pickF rfl rfl rfl rfl ?_
        refine AOps.move rfl rfl ?_
        refine AOps.guardF rfl rfl rfl rfl ?_
        refine AOps.guardF rfl rfl rfl rfl ?_
        refine AOps.guardF rfl rfl rfl rfl ?_
        refine AOps.pickF rfl rfl rfl rfl ?_
        refine AOps.assign rfl rfl ?_
        refine AOps.nil ?_
        have ej := Option.some.inj hx2
        subst ej
        refine thn_normal ?_
        exact Sub.cut ⟨rfl, trivial⟩ rfl trivial rfl
    · replace hx2 := iteDF hb3 hx2
      refine AWP.region ?_
      refine W.fieldAddr rfl rfl rfl rfl ?_
      refine AOps.load rfl rfl rfl rfl rfl rfl ?_
      refine AOps.eql rfl rfl rfl ?_
      refine AOps.move rfl rfl ?_
      refine AOps.guardF rfl rfl rfl hb3 ?_
      refine AOps.guardF rfl rfl rfl hb3 ?_
      refine AOps.guardF rfl rfl rfl hb3 ?_
      refine AOps.pickF rfl hb3 rfl rfl ?_
      refine AOps.move rfl rfl ?_
      refine AOps.guardF rfl rfl rfl rfl ?_
      refine AOps.pickF rfl rfl rfl rfl ?_
      refine AOps.move rfl rfl ?_
      refine AOps.guardF rfl rfl rfl rfl ?_
      refine AOps.pickF rfl rfl rfl rfl ?_
      refine AOps.move rfl rfl ?_
      refine AOps.guardF rfl rfl rfl rfl ?_
      refine AOps.guardF rfl rfl rfl rfl ?_
      refine AOps.guardF rfl rfl rfl rfl ?_
      refine AOps.pickF rfl rfl rfl rfl ?_
      refine AOps.assign rfl rfl ?_
      refine AOps.nil ?_
      have ej := Option.some.inj hx2
      subst ej
      refine thn_normal ?_
      exact Sub.cut ⟨rfl, trivial⟩ rfl trivial rfl
  · refine AWP.ret ?_
    have ej := Option.some.inj h
    subst ej
    exact Done.ret rfl rfl
theorem ref8_Steps_ok {plans : List (List Int)} {r : Int} (h : ref8_Steps plans = some r) : PureOk Tryd.prog 11 [.c (row 1 eLi64 plans)] (.c (int r)) := by
  unfold PureOk
  refine FnOk.enter (rs := [.t 2]) Tryd.func11 rfl Tryd.ntmps11 Tryd.results11 rfl ⟨trivial, trivial⟩ (by kernel_rfl) rfl ?_
  unfold ref8_Steps at h
  refine AWP.seq ?_
  refine AWP.region ?_
  refine AOps.assign rfl rfl ?_
  refine AOps.nil ?_
  refine thn_normal ?_
  refine AWP.seq ?_
  refine AWP.region ?_
  refine AOps.assign rfl rfl ?_
  refine AOps.nil ?_
  refine thn_normal ?_
  refine AWP.seq ?_
  refine AWP.seq ?_
  refine AWP.region ?_
  refine AOps.assign rfl rfl ?_
  refine AOps.nil ?_
  refine thn_normal ?_
  refine AWP.block ?_
  obtain ⟨nv2, ho1, h⟩ := bind_some h
  refine AWP.forS ho1 (fun p3 nv2 => ⟨[(0, .c (row 1 eLi64 plans)), (3, .c (int nv2)), (4, .c (int p3))], []⟩) (fun nv2 e st => e = .exit 0 ∧ Sub [] st ⟨[(3, .c (int nv2))], []⟩) ?_ ?_ ?_ ?_
  · try dsimp only
    exact Sub.env ⟨rfl, rfl, rfl, trivial⟩
  · intro p3 nv2 hlop3 hltp3 _
    try dsimp only
    refine AWP.seq ?_
    refine AWP.seq ?_
    refine AWP.region ?_
    refine AOps.move rfl rfl ?_
    refine AOps.move rfl rfl ?_
    refine S.len rfl rfl (fun hl7 => ?_)
    refine AOps.lss rfl rfl rfl ?_
    refine AOps.nil ?_
    refine thn_normal ?_
    refine AWP.condNP rfl hltp3 ?_
    refine AWP.exit ?_
    refine thn_exit ?_
    refine thn_exit ⟨rfl, ?_⟩
    exact Sub.env ⟨rfl, trivial⟩
  · intro p3 nv2 o hlop3 hltp3 h
    unfold ref8_Steps_l1 at h
    try dsimp only at h ⊢
    refine AWP.seq ?_
    refine AWP.seq ?_
    refine AWP.region ?_
    refine AOps.move rfl rfl ?_
    refine AOps.move rfl rfl ?_
    refine S.len rfl rfl (fun hl7 => ?_)
    refine AOps.lss rfl rfl rfl ?_
    refine AOps.nil ?_
    refine thn_normal ?_
    refine AWP.condP rfl hltp3 ?_
    refine AWP.skip ?_
    refine thn_normal ?_
    refine AWP.seq ?_
    refine AWP.block ?_
    obtain ⟨a14, ha14, h⟩ := bind_some h
    refine AWP.region ?_
    refine AOps.move rfl rfl ?_
    refine AOps.move rfl rfl ?_
    refine AOps.move rfl rfl ?_
    refine S.idx ha14 rfl rfl rfl rfl ?_
    refine AOps.loadI rfl rfl rfl rfl ?_
    refine S.len rfl rfl (fun hl16 => ?_)
    refine S.add rfl rfl rfl ?_
    refine AOps.assign rfl rfl ?_
    refine AOps.nil ?_
    refine inB_normal ?_
    refine thn_normal ?_
    refine AWP.region ?_
    refine AOps.move rfl rfl ?_
    refine AOps.add rfl rfl rfl (by omega) ?_
    refine AOps.assign rfl rfl ?_
    refine AOps.nil ?_
    have ej := Option.some.inj h
    subst ej
    refine thn_normal ?_
    exact Sub.env ⟨rfl, rfl, rfl, trivial⟩
  · intro e s hq
    obtain ⟨rfl, hs⟩ := hq
    refine ⟨_, hs, ?_⟩
    refine inB_exit ?_
    refine thn_normal ?_
    refine AWP.seq ?_
    refine AWP.region ?_
    refine AOps.move rfl rfl ?_
    refine AOps.assign rfl rfl ?_
    refine AOps.nil ?_
    refine thn_normal ?_
    refine AWP.ret ?_
    have ej := Option.some.inj h
    subst ej
    exact Done.ret rfl rfl
theorem ref1_Subset_ok {part : List Int} {l : List Int} {r : Bool} (h : ref1_Subset part l = some r) : PureOk Tryd.prog 36 [.c (row 1 intI part), .c (row 1 intI l)] (.c (bool r)) := by
  unfold PureOk
  refine FnOk.enter (rs := [.t 4]) Tryd.func36 rfl Tryd.ntmps36 Tryd.results36 rfl ⟨trivial, trivial⟩ (by kernel_rfl) rfl ?_
  unfold ref1_Subset at h
  refine AWP.seq ?_
  refine AWP.region ?_
  refine AOps.assign rfl rfl ?_
  refine AOps.nil ?_
  refine thn_normal ?_
  refine AWP.seq ?_
  refine AWP.seq ?_
  refine AWP.region ?_
  refine AOps.assign rfl rfl ?_
  refine AOps.nil ?_
  refine thn_normal ?_
  refine AWP.block ?_
  obtain ⟨oo, ho1, h⟩ := bind_some h
  refine AWP.rngS ho1 (fun iv3 _ => ⟨[(0, .c (row 1 intI part)), (1, .c (row 1 intI l)), (5, .c (int iv3))], []⟩) (fun o e st => match o with | .inl _ => e = .exit 0 ∧ Sub [] st ⟨[], []⟩ | .inr x => e = .ret ∧ Done [.t 4] (fun t _ => t = .c (bool x)) .ret st) ?_ ?_ ?_ ?_
  · try dsimp only
    exact Sub.env ⟨rfl, rfl, rfl, trivial⟩
  · intro iv3 s hloiv3 hltiv3 _
    try dsimp only
    refine AWP.seq ?_
    refine AWP.seq ?_
    refine AWP.region ?_
    refine AOps.move rfl rfl ?_
    refine AOps.move rfl rfl ?_
    refine S.len rfl rfl (fun hl8 => ?_)
    refine AOps.lss rfl rfl rfl ?_
    refine AOps.nil ?_
    refine thn_normal ?_
    refine AWP.condNP rfl hltiv3 ?_
    refine AWP.exit ?_
    refine thn_exit ?_
    refine thn_exit ⟨rfl, ?_⟩
    exact Sub.env trivial
  · intro iv3 s o hloiv3 hltiv3 h
    unfold ref1_Subset_l1 at h
    try dsimp only at h ⊢
    refine AWP.seq ?_
    refine AWP.seq ?_
    refine AWP.region ?_
    refine AOps.move rfl rfl ?_
    refine AOps.move rfl rfl ?_
    refine S.len rfl rfl (fun hl8 => ?_)
    refine AOps.lss rfl rfl rfl ?_
    refine AOps.nil ?_
    refine thn_normal ?_
    refine AWP.condP rfl hltiv3 ?_
    refine AWP.skip ?_
    refine thn_normal ?_
    refine AWP.seq ?_
    refine AWP.block ?_
    refine AWP.seq ?_
    obtain ⟨a15, ha15, h⟩ := bind_some h
    obtain ⟨a17, ha17, h⟩ := bind_some h
    refine AWP.region ?_
    refine AOps.move rfl rfl ?_
    refine AOps.move rfl rfl ?_
    refine AOps.move rfl rfl ?_
    refine S.idx ha15 rfl rfl rfl rfl ?_
    refine AOps.loadI rfl rfl rfl rfl ?_
    refine AOps.callR rfl rfl rfl rfl (ref1_Has_ok ha17) rfl ?_
    refine AOps.not rfl rfl ?_
    refine AOps.nil ?_
    refine thn_normal ?_
    refine AWP.iteB rfl h (fun hc4 h => ?_) (fun hc4 h => ?_)
    · refine AWP.seq ?_
      refine AWP.region ?_
      refine AOps.assign rfl rfl ?_
      refine AOps.nil ?_
      refine thn_normal ?_
      refine AWP.ret ?_
      refine inB_ret ?_
      refine thn_ret ?_
      have ej := Option.some.inj h
      subst ej
      refine thn_ret ⟨_, rfl, rfl, ?_⟩
      exact Done.ret rfl rfl
    · refine AWP.skip ?_
      refine inB_normal ?_
      refine thn_normal ?_
      refine AWP.region ?_
      refine AOps.move rfl rfl ?_
      refine AOps.add rfl rfl rfl (by omega) ?_
      refine AOps.assign rfl rfl ?_
      refine AOps.nil ?_
      have ej := Option.some.inj h
      subst ej
      refine thn_normal ⟨_, rfl, ?_⟩
      exact Sub.env ⟨rfl, rfl, rfl, trivial⟩
  · intro e s hq
    rcases oo with u | x
    · try dsimp only at h hq
      obtain ⟨rfl, hs⟩ := hq
      refine ⟨_, hs, ?_⟩
      refine inB_exit ?_
      refine thn_normal ?_
      refine AWP.seq ?_
      refine AWP.region ?_
      refine AOps.assign rfl rfl ?_
      refine AOps.nil ?_
      refine thn_normal ?_
      refine AWP.ret ?_
      have ej := Option.some.inj h
      subst ej
      exact Done.ret rfl rfl
    · try dsimp only at h hq
      obtain ⟨rfl, hs⟩ := hq
      refine ⟨_, Sub.refl _ _, ?_⟩
      refine inB_ret ?_
      refine thn_ret ?_
      have ej := Option.some.inj h
      subst ej
      exact hs
theorem ref1_Applies_ok {t : TTask} {sv : List Int} {op : Int} {r : Bool} (h : ref1_Applies t sv op = some r) : PureOk Tryd.prog 46 [.agg [int t.facts, row 1 intI t.init, row 1 intI t.goal, row 4 eTOperator t.operators], .c (row 1 intI sv), .c (int op)] (.c (bool r)) := by
  unfold PureOk
  refine FnOk.enter (rs := [.t 6]) Tryd.func46 rfl Tryd.ntmps46 Tryd.results46 rfl ⟨trivial, trivial⟩ (by kernel_rfl) rfl ?_
  unfold ref1_Applies at h
  refine AWP.seq ?_
  refine AWP.region ?_
  refine W.box rfl rfl rfl rfl rfl rfl ?_
  refine AOps.assign rfl rfl ?_
  refine AOps.nil ?_
  refine thn_normal ?_
  refine AWP.seq ?_
  obtain ⟨a10, ha10, h⟩ := bind_some h
  obtain ⟨a14, ha14, h⟩ := bind_some h
  refine AWP.region ?_
  refine W.fieldAddr rfl rfl rfl rfl ?_
  refine AOps.load rfl rfl rfl rfl rfl rfl ?_
  refine AOps.move rfl rfl ?_
  refine S.idx ha10 rfl rfl rfl rfl ?_
  refine W.fieldAddrI rfl rfl rfl rfl ?_
  refine AOps.loadI rfl rfl rfl rfl ?_
  refine AOps.move rfl rfl ?_
  refine AOps.callR rfl rfl rfl rfl (ref1_Subset_ok ha14) rfl ?_
  refine AOps.assign rfl rfl ?_
  refine AOps.nil ?_
  refine thn_normal ?_
  refine AWP.ret ?_
  have ej := Option.some.inj h
  subst ej
  exact Done.ret rfl rfl
theorem ref1_After_ok {t : TTask} {sv : List Int} {op : Int} {r : (List Int)} (h : ref1_After t sv op = some r) : FreshOk Tryd.prog 47 [.agg [int t.facts, row 1 intI t.init, row 1 intI t.goal, row 4 eTOperator t.operators], .c (row 1 intI sv), .c (int op)] 1 (List.map intI r) := by
  unfold FreshOk
  refine FnOk.enter (rs := [.t 6]) Tryd.func47 rfl Tryd.ntmps47 Tryd.results47 rfl ⟨trivial, trivial⟩ (by kernel_rfl) rfl ?_
  unfold ref1_After at h
  refine AWP.seq ?_
  refine AWP.region ?_
  refine W.box rfl rfl rfl rfl rfl rfl ?_
  refine AOps.assign rfl rfl ?_
  refine AOps.nil ?_
  refine thn_normal ?_
  refine AWP.seq ?_
  refine AWP.region ?_
  refine AOps.assign rfl rfl ?_
  refine AOps.nil ?_
  refine thn_normal ?_
  refine AWP.seq ?_
  refine AWP.seq ?_
  refine AWP.region ?_
  refine AOps.assign rfl rfl ?_
  refine AOps.nil ?_
  refine thn_normal ?_
  refine AWP.block ?_
  refine AWP.virtV 1 intI 7 rfl rfl rfl ?_
  obtain ⟨hnp5, h⟩ := ite_none h
  obtain ⟨c4, ho1, h⟩ := bind_some h
  refine AWP.forS ho1 (fun p5 c4 => ⟨[(1, .c (row 1 intI sv)), (2, .c (int op)), (3, .c (.ptr 0 0 0)), (7, .c (.own 1 0 c4.length)), (8, .c (int p5))], [.one (.cells 4 [[int t.facts, row 1 intI t.init, row 1 intI t.goal, row 4 eTOperator t.operators]]), .one (vec 1 intI c4)]⟩) (fun c4 e st => e = .exit 0 ∧ Sub [] st ⟨[(7, .c (.own 1 0 c4.length))], [.one (.cells 4 [[int t.facts, row 1 intI t.init, row 1 intI t.goal, row 4 eTOperator t.operators]]), .one (vec 1 intI c4)]⟩) ?_ ?_ ?_ ?_
  · try dsimp only
    exact Sub.env ⟨rfl, rfl, rfl, (own_len (by first | rfl | simp only [List.length_set])), rfl, trivial⟩
  · intro p5 c4 hlop5 hltp5 _
    try dsimp only
    refine AWP.seq ?_
    refine AWP.seq ?_
    refine AWP.region ?_
    refine AOps.move rfl rfl ?_
    refine W.fieldAddr rfl rfl rfl rfl ?_
    refine AOps.load rfl rfl rfl rfl rfl rfl ?_
    refine AOps.lss rfl rfl rfl ?_
    refine AOps.nil ?_
    refine thn_normal ?_
    refine AWP.condNP rfl hltp5 ?_
    refine AWP.exit ?_
    refine thn_exit ?_
    refine thn_exit ⟨rfl, ?_⟩
    exact Sub.env ⟨rfl, trivial⟩
  · intro p5 c4 o hlop5 hltp5 h
    unfold ref1_After_l1 at h
    try dsimp only at h ⊢
    refine AWP.seq ?_
    refine AWP.seq ?_
    refine AWP.region ?_
    refine AOps.move rfl rfl ?_
    refine W.fieldAddr rfl rfl rfl rfl ?_
    refine AOps.load rfl rfl rfl rfl rfl rfl ?_
    refine AOps.lss rfl rfl rfl ?_
    refine AOps.nil ?_
    refine thn_normal ?_
    refine AWP.condP rfl hltp5 ?_
    refine AWP.skip ?_
    refine thn_normal ?_
    obtain ⟨c6, hx7, h⟩ := bind_some h
    refine AWP.seqJ (⟨[(1, .c (row 1 intI sv)), (2, .c (int op)), (3, .c (.ptr 0 0 0)), (7, .c (.own 3 0 c6.length)), (8, .c (int p5))], [.one (.cells 4 [[int t.facts, row 1 intI t.init, row 1 intI t.goal, row 4 eTOperator t.operators]]), .dead, .dead, .one (vec 1 intI c6)]⟩) ?_ ?_
    · refine AWP.block ?_
      obtain ⟨t8, hx9, hx7⟩ := bind_some hx7
      refine AWP.seqJ (⟨[(1, .c (row 1 intI sv)), (2, .c (int op)), (3, .c (.ptr 0 0 0)), (7, .c (.own 1 0 c4.length)), (8, .c (int p5)), (38, .c (bool t8))], [.one (.cells 4 [[int t.facts, row 1 intI t.init, row 1 intI t.goal, row 4 eTOperator t.operators]]), .one (vec 1 intI c4)]⟩) ?_ ?_
      · obtain ⟨a18, ha18, hx9⟩ := bind_some hx9
        obtain ⟨a22, ha22, hx9⟩ := bind_some hx9
        rcases Bool.eq_false_or_eq_true (a22) with hb10 | hb10
        · replace hx9 := iteBT hb10 hx9
          refine AWP.region ?_
          refine W.fieldAddr rfl rfl rfl rfl ?_
          refine AOps.load rfl rfl rfl rfl rfl rfl ?_
          refine AOps.move rfl rfl ?_
          refine S.idx ha18 rfl rfl rfl rfl ?_
          refine W.fieldAddrI rfl rfl rfl rfl ?_
          refine AOps.loadI rfl rfl rfl rfl ?_
          refine AOps.move rfl rfl ?_
          refine AOps.callR rfl rfl rfl rfl (ref1_Has_ok ha22) rfl ?_
          refine AOps.move rfl rfl ?_
          refine AOps.guardF rfl rfl rfl hb10 ?_
          refine AOps.guardF rfl rfl rfl hb10 ?_
          refine AOps.guardF rfl rfl rfl hb10 ?_
          refine AOps.guardF rfl rfl rfl hb10 ?_
          refine AOps.guardSkip rfl rfl rfl ?_
          refine AOps.guardSkip rfl rfl rfl ?_
          refine AOps.guardSkip rfl rfl rfl ?_
          refine AOps.guardSkip rfl rfl rfl ?_
          refine AOps.guardSkip rfl rfl rfl ?_
          refine AOps.guardSkip rfl rfl rfl ?_
          refine AOps.guardSkip rfl rfl rfl ?_
          refine AOps.guardSkip rfl rfl rfl ?_
          refine AOps.guardSkip rfl rfl rfl ?_
          refine AOps.guardF rfl rfl rfl hb10 ?_
          refine AOps.pickT rfl hb10 rfl rfl ?_
          refine AOps.nil ?_
          have ej := Option.some.inj hx9
          subst ej
          refine thn_normal ?_
          exact Sub.env ⟨rfl, rfl, rfl, rfl, rfl, rfl, trivial⟩
        · replace hx9 := iteBF hb10 hx9
          obtain ⟨a26, ha26, hx9⟩ := bind_some hx9
          rcases Bool.eq_false_or_eq_true (a26) with hb11 | hb11
          · replace hx9 := iteBT hb11 hx9
            obtain ⟨a31, ha31, hx9⟩ := bind_some hx9
            obtain ⟨a35, ha35, hx9⟩ := bind_some hx9
            refine AWP.region ?_
            refine W.fieldAddr rfl rfl rfl rfl ?_
            refine AOps.load rfl rfl rfl rfl rfl rfl ?_
            refine AOps.move rfl rfl ?_
            refine S.idx ha18 rfl rfl rfl rfl ?_
            refine W.fieldAddrI rfl rfl rfl rfl ?_
            refine AOps.loadI rfl rfl rfl rfl ?_
            refine AOps.move rfl rfl ?_
            refine AOps.callR rfl rfl rfl rfl (ref1_Has_ok ha22) rfl ?_
            refine AOps.move rfl rfl ?_
            refine AOps.guardT rfl rfl rfl hb10 ?_; refine AOps.move rfl rfl ?_
            refine AOps.guardT rfl rfl rfl hb10 ?_; refine AOps.move rfl rfl ?_
            refine AOps.guardT rfl rfl rfl hb10 ?_; refine AOps.callR rfl rfl rfl rfl (ref1_Has_ok ha26) rfl ?_
            refine AOps.guardT rfl rfl rfl hb10 ?_; refine AOps.move rfl rfl ?_
            refine AOps.guardT rfl rfl rfl hb11 ?_; refine W.fieldAddr rfl rfl rfl rfl ?_
            refine AOps.guardT rfl rfl rfl hb11 ?_; refine AOps.load rfl rfl rfl rfl rfl rfl ?_
            refine AOps.guardT rfl rfl rfl hb11 ?_; refine AOps.move rfl rfl ?_
            refine AOps.guardT rfl rfl rfl hb11 ?_; refine S.idx ha31 rfl rfl rfl rfl ?_
            refine AOps.guardT rfl rfl rfl hb11 ?_; refine W.fieldAddrI rfl rfl rfl rfl ?_
            refine AOps.guardT rfl rfl rfl hb11 ?_; refine AOps.loadI rfl rfl rfl rfl ?_
            refine AOps.guardT rfl rfl rfl hb11 ?_; refine AOps.move rfl rfl ?_
            refine AOps.guardT rfl rfl rfl hb11 ?_; refine AOps.callR rfl rfl rfl rfl (ref1_Has_ok ha35) rfl ?_
            refine AOps.guardT rfl rfl rfl hb11 ?_; refine AOps.not rfl rfl ?_
            refine AOps.guardT rfl rfl rfl hb10 ?_; refine AOps.pickT rfl hb11 rfl rfl ?_
            refine AOps.pickF rfl hb10 rfl rfl ?_
            refine AOps.nil ?_
            have ej := Option.some.inj hx9
            subst ej
            refine thn_normal ?_
            exact Sub.env ⟨rfl, rfl, rfl, rfl, rfl, rfl, trivial⟩
          · replace hx9 := iteBF hb11 hx9
            refine AWP.region ?_
            refine W.fieldAddr rfl rfl rfl rfl ?_
            refine AOps.load rfl rfl rfl rfl rfl rfl ?_
            refine AOps.move rfl rfl ?_
            refine S.idx ha18 rfl rfl rfl rfl ?_
            refine W.fieldAddrI rfl rfl rfl rfl ?_
            refine AOps.loadI rfl rfl rfl rfl ?_
            refine AOps.move rfl rfl ?_
            refine AOps.callR rfl rfl rfl rfl (ref1_Has_ok ha22) rfl ?_
            refine AOps.move rfl rfl ?_
            refine AOps.guardT rfl rfl rfl hb10 ?_; refine AOps.move rfl rfl ?_
            refine AOps.guardT rfl rfl rfl hb10 ?_; refine AOps.move rfl rfl ?_
            refine AOps.guardT rfl rfl rfl hb10 ?_; refine AOps.callR rfl rfl rfl rfl (ref1_Has_ok ha26) rfl ?_
            refine AOps.guardT rfl rfl rfl hb10 ?_; refine AOps.move rfl rfl ?_
            refine AOps.guardF rfl rfl rfl hb11 ?_
            refine AOps.guardF rfl rfl rfl hb11 ?_
            refine AOps.guardF rfl rfl rfl hb11 ?_
            refine AOps.guardF rfl rfl rfl hb11 ?_
            refine AOps.guardF rfl rfl rfl hb11 ?_
            refine AOps.guardF rfl rfl rfl hb11 ?_
            refine AOps.guardF rfl rfl rfl hb11 ?_
            refine AOps.guardF rfl rfl rfl hb11 ?_
            refine AOps.guardF rfl rfl rfl hb11 ?_
            refine AOps.guardT rfl rfl rfl hb10 ?_; refine AOps.pickF rfl hb11 rfl rfl ?_
            refine AOps.pickF rfl hb10 rfl rfl ?_
            refine AOps.nil ?_
            have ej := Option.some.inj hx9
            subst ej
            refine thn_normal ?_
            exact Sub.env ⟨rfl, rfl, rfl, rfl, rfl, rfl, trivial⟩
      · refine AWP.iteB rfl hx7 (fun hc12 hx7 => ?_) (fun hc12 hx7 => ?_)
        · obtain ⟨a42, ha42, hx7⟩ := bind_some hx7
          refine AWP.region ?_
          refine AOps.move rfl rfl ?_
          refine AOps.move rfl rfl ?_
          refine S.lit (f := intI) (l := [p5]) (ess := [[int p5]]) rfl rfl rfl rfl rfl rfl rfl ⟨⟨.inl rfl, trivial⟩, trivial⟩ rfl rfl rfl ?_
          refine S.append (f := intI) ha42 rfl rfl rfl rfl rfl rfl (.own rfl rfl) rfl rfl rfl rfl ?_
          refine AOps.assign rfl rfl ?_
          refine AOps.nil ?_
          refine inB_normal ?_
          have ej := Option.some.inj hx7
          subst ej
          refine thn_normal ?_
          exact Sub.cut ⟨rfl, rfl, rfl, rfl, rfl, trivial⟩ rfl ⟨.one rfl, .dead, .dead, .vec, trivial⟩ rfl
        · refine AWP.skip ?_
          refine inB_normal ?_
          have ej := Option.some.inj hx7
          subst ej
          refine thn_normal ?_
          exact (Sub.move (env' := [(1, .c (row 1 intI sv)), (2, .c (int op)), (3, .c (.ptr 0 0 0)), (7, .c (.own 3 0 c4.length)), (8, .c (int p5))]) (σ' := [.one (.cells 4 [[int t.facts, row 1 intI t.init, row 1 intI t.goal, row 4 eTOperator t.operators]]), .dead, .dead, .one (vec 1 intI c4)]) 3 1 rfl rfl rfl ⟨rfl, rfl, rfl, rfl, rfl, trivial⟩ rfl ⟨⟨rfl, rfl⟩, trivial, trivial, ⟨Blk.im_ok _ _ _, vec_mv rfl⟩, trivial⟩).trans (Sub.env ⟨rfl, rfl, rfl, rfl, rfl, trivial⟩)
    · refine AWP.region ?_
      refine AOps.move rfl rfl ?_
      refine AOps.add rfl rfl rfl (by omega) ?_
      refine AOps.assign rfl rfl ?_
      refine AOps.nil ?_
      have ej := Option.some.inj h
      subst ej
      refine thn_normal ?_
      exact (Sub.move (env' := [(1, .c (row 1 intI sv)), (2, .c (int op)), (3, .c (.ptr 0 0 0)), (7, .c (.own 1 0 c6.length)), (8, .c (int (p5 + 1)))]) (σ' := [.one (.cells 4 [[int t.facts, row 1 intI t.init, row 1 intI t.goal, row 4 eTOperator t.operators]]), .one (vec 1 intI c6), .dead]) 1 3 rfl rfl rfl ⟨rfl, rfl, rfl, rfl, rfl, trivial⟩ rfl ⟨⟨rfl, rfl⟩, ⟨Blk.im_ok _ _ _, vec_mv rfl⟩, trivial, trivial⟩).trans (Sub.cut ⟨rfl, rfl, rfl, rfl, rfl, trivial⟩ rfl ⟨.one rfl, .vec, trivial⟩ rfl)
  · intro e s hq
    obtain ⟨rfl, hs⟩ := hq
    refine ⟨_, hs, ?_⟩
    refine inB_exit ?_
    refine thn_normal ?_
    refine AWP.seq ?_
    refine AWP.region ?_
    refine AOps.move rfl rfl ?_
    refine AOps.assign rfl rfl ?_
    refine AOps.nil ?_
    refine thn_normal ?_
    refine AWP.ret ?_
    have ej := Option.some.inj h
    subst ej
    exact Done.ret rfl (Fresh.mk rfl rfl)
theorem ref1_Ends_ok {t : TTask} {sv : List Int} {plan : List Int} {r : (List Int) × Bool} (h : ref1_Ends t sv plan = some r) : PureOk Tryd.prog 35 [.agg [int t.facts, row 1 intI t.init, row 1 intI t.goal, row 4 eTOperator t.operators], .c (row 1 intI sv), .c (row 1 intI plan)] (.tup [.c (row 1 intI r.1), .c (bool r.2)]) := by
  unfold PureOk
  refine FnOk.enter (rs := [.t 6, .t 7]) Tryd.func35 rfl Tryd.ntmps35 Tryd.results35 rfl ⟨trivial, trivial, trivial⟩ (by kernel_rfl) rfl ?_
  unfold ref1_Ends at h
  refine AWP.seq ?_
  refine AWP.region ?_
  refine W.box rfl rfl rfl rfl rfl rfl ?_
  refine AOps.assign rfl rfl ?_
  refine AOps.assign rfl rfl ?_
  refine AOps.nil ?_
  refine thn_normal ?_
  refine AWP.seq ?_
  refine AWP.seq ?_
  refine AWP.region ?_
  refine AOps.assign rfl rfl ?_
  refine AOps.nil ?_
  refine thn_normal ?_
  refine AWP.block ?_
  obtain ⟨oo, ho1, h⟩ := bind_some h
  refine AWP.rngS ho1 (fun iv5 sv4 => ⟨[(1, .c (row 1 intI sv4)), (2, .c (row 1 intI plan)), (3, .c (.ptr 0 0 0)), (8, .c (int iv5))], [.one (.cells 4 [[int t.facts, row 1 intI t.init, row 1 intI t.goal, row 4 eTOperator t.operators]])]⟩) (fun o e st => match o with | .inl sv4 => e = .exit 0 ∧ Sub [] st ⟨[(1, .c (row 1 intI sv4))], [.one (.cells 4 [[int t.facts, row 1 intI t.init, row 1 intI t.goal, row 4 eTOperator t.operators]])]⟩ | .inr x => e = .ret ∧ Done [.t 6, .t 7] (fun t _ => t = .tup [.c (row 1 intI x.1), .c (bool x.2)]) .ret st) ?_ ?_ ?_ ?_
  · try dsimp only
    exact Sub.env ⟨rfl, rfl, rfl, rfl, trivial⟩
  · intro iv5 sv4 hloiv5 hltiv5 _
    try dsimp only
    refine AWP.seq ?_
    refine AWP.seq ?_
    refine AWP.region ?_
    refine AOps.move rfl rfl ?_
    refine AOps.move rfl rfl ?_
    refine S.len rfl rfl (fun hl11 => ?_)
    refine AOps.lss rfl rfl rfl ?_
    refine AOps.nil ?_
    refine thn_normal ?_
    refine AWP.condNP rfl hltiv5 ?_
    refine AWP.exit ?_
    refine thn_exit ?_
    refine thn_exit ⟨rfl, ?_⟩
    exact Sub.env ⟨rfl, trivial⟩
  · intro iv5 sv4 o hloiv5 hltiv5 h
    unfold ref1_Ends_l1 at h
    try dsimp only at h ⊢
    refine AWP.seq ?_
    refine AWP.seq ?_
    refine AWP.region ?_
    refine AOps.move rfl rfl ?_
    refine AOps.move rfl rfl ?_
    refine S.len rfl rfl (fun hl11 => ?_)
    refine AOps.lss rfl rfl rfl ?_
    refine AOps.nil ?_
    refine thn_normal ?_
    refine AWP.condP rfl hltiv5 ?_
    refine AWP.skip ?_
    refine thn_normal ?_
    refine AWP.seq ?_
    refine AWP.block ?_
    refine AWP.seq ?_
    refine AWP.seq ?_
    obtain ⟨a19, ha19, h⟩ := bind_some h
    obtain ⟨a21, ha21, h⟩ := bind_some h
    refine AWP.drawI mixed rfl ?_
    apply DrawSeq.consF; exact rfl; intro E
    refine W.loadAgg rfl rfl rfl rfl rfl rfl rfl ?_
    exact AOps.nil ⟨rfl, rfl⟩
    exact rfl
    apply DrawSeq.consF; exact rfl; intro E
    refine AOps.move rfl rfl ?_
    exact AOps.nil ⟨rfl, rfl⟩
    exact rfl
    apply DrawSeq.consF; exact rfl; intro E
    refine AOps.move rfl rfl ?_
    exact AOps.nil ⟨rfl, rfl⟩
    exact rfl
    apply DrawSeq.consF; exact rfl; intro E
    refine AOps.move rfl rfl ?_
    exact AOps.nil ⟨rfl, rfl⟩
    exact rfl
    apply DrawSeq.consF; exact rfl; intro E
    refine S.idx ha19 rfl rfl rfl rfl ?_
    exact AOps.nil ⟨rfl, rfl⟩
    exact rfl
    apply DrawSeq.consF; exact rfl; intro E
    refine AOps.loadI rfl rfl rfl rfl ?_
    exact AOps.nil ⟨rfl, rfl⟩
    exact rfl
    apply DrawSeq.consF; exact rfl; intro E
    refine AOps.callR rfl rfl rfl rfl (ref1_Applies_ok ha21) rfl ?_
    exact AOps.nil ⟨rfl, rfl⟩
    exact rfl
    apply DrawSeq.consF; exact rfl; intro E
    refine AOps.not rfl rfl ?_
    exact AOps.nil ⟨rfl, rfl⟩
    exact rfl
    refine DrawSeq.done ?_
    dsimp only [envEnd]
    refine thn_normal ?_
    refine AWP.iteB rfl h (fun hc6 h => ?_) (fun hc6 h => ?_)
    · refine AWP.seq ?_
      refine AWP.region ?_
      refine AOps.assign rfl rfl ?_
      refine AOps.assign rfl rfl ?_
      refine AOps.nil ?_
      refine thn_normal ?_
      refine AWP.nilrow 1 6 rfl ?_
      refine AWP.ret ?_
      refine thn_ret ?_
      refine inB_ret ?_
      refine thn_ret ?_
      have ej := Option.some.inj h
      subst ej
      refine thn_ret ⟨_, rfl, rfl, ?_⟩
      exact Done.ret rfl rfl
    · refine AWP.skip ?_
      refine thn_normal ?_
      obtain ⟨a27, ha27, h⟩ := bind_some h
      obtain ⟨a29, ha29, h⟩ := bind_some h
      refine AWP.drawEI [6] mixed rfl rfl rfl ?_
      apply DrawSeqE.consN; exact rfl; exact rfl; intro E
      refine W.loadAgg rfl rfl rfl rfl rfl rfl rfl ?_
      exact AOps.nil ⟨rfl, rfl⟩
      exact rfl
      apply DrawSeqE.consN; exact rfl; exact rfl; intro E
      refine AOps.move rfl rfl ?_
      exact AOps.nil ⟨rfl, rfl⟩
      exact rfl
      apply DrawSeqE.consN; exact rfl; exact rfl; intro E
      refine AOps.move rfl rfl ?_
      exact AOps.nil ⟨rfl, rfl⟩
      exact rfl
      apply DrawSeqE.consN; exact rfl; exact rfl; intro E
      refine AOps.move rfl rfl ?_
      exact AOps.nil ⟨rfl, rfl⟩
      exact rfl
      apply DrawSeqE.consN; exact rfl; exact rfl; intro E
      refine S.idx ha27 rfl rfl rfl rfl ?_
      exact AOps.nil ⟨rfl, rfl⟩
      exact rfl
      apply DrawSeqE.consN; exact rfl; exact rfl; intro E
      refine AOps.loadI rfl rfl rfl rfl ?_
      exact AOps.nil ⟨rfl, rfl⟩
      exact rfl
      apply DrawSeqE.consE; exact rfl; exact rfl; intro E
      refine S.fresh rfl rfl rfl rfl (ref1_After_ok ha29) rfl rfl ?_
      exact AOps.nil ⟨rfl, rfl⟩
      exact rfl
      exact rfl
      apply DrawSeqE.consN; exact rfl; exact rfl; intro E
      refine AOps.assign rfl rfl ?_
      exact AOps.nil ⟨rfl, rfl⟩
      exact rfl
      refine DrawSeqE.done rfl ?_ ?_
      · apply RestI.cons; exact rfl; exact rfl
        first | refine RestK.skip rfl ?_ | (apply RestK.go; exact rfl; exact rfl; intro E; (refine W.loadAgg rfl rfl rfl rfl rfl rfl rfl ?_); exact AOps.nil ⟨rfl, rfl⟩)
        first | refine RestK.skip rfl ?_ | (apply RestK.go; exact rfl; exact rfl; intro E; (refine W.loadAgg rfl rfl rfl rfl rfl rfl rfl ?_); exact AOps.nil ⟨rfl, rfl⟩)
        exact RestK.nil
        apply RestI.cons; exact rfl; exact rfl
        first | refine RestK.skip rfl ?_ | (apply RestK.go; exact rfl; exact rfl; intro E; (refine AOps.move rfl rfl ?_); exact AOps.nil ⟨rfl, rfl⟩)
        first | refine RestK.skip rfl ?_ | (apply RestK.go; exact rfl; exact rfl; intro E; (refine AOps.move rfl rfl ?_); exact AOps.nil ⟨rfl, rfl⟩)
        exact RestK.nil
        apply RestI.cons; exact rfl; exact rfl
        first | refine RestK.skip rfl ?_ | (apply RestK.go; exact rfl; exact rfl; intro E; (refine AOps.move rfl rfl ?_); exact AOps.nil ⟨rfl, rfl⟩)
        first | refine RestK.skip rfl ?_ | (apply RestK.go; exact rfl; exact rfl; intro E; (refine AOps.move rfl rfl ?_); exact AOps.nil ⟨rfl, rfl⟩)
        exact RestK.nil
        apply RestI.cons; exact rfl; exact rfl
        first | refine RestK.skip rfl ?_ | (apply RestK.go; exact rfl; exact rfl; intro E; (refine AOps.move rfl rfl ?_); exact AOps.nil ⟨rfl, rfl⟩)
        first | refine RestK.skip rfl ?_ | (apply RestK.go; exact rfl; exact rfl; intro E; (refine AOps.move rfl rfl ?_); exact AOps.nil ⟨rfl, rfl⟩)
        exact RestK.nil
        apply RestI.cons; exact rfl; exact rfl
        first | refine RestK.skip rfl ?_ | (apply RestK.go; exact rfl; exact rfl; intro E; (refine S.idx ha27 rfl rfl rfl rfl ?_); exact AOps.nil ⟨rfl, rfl⟩)
        first | refine RestK.skip rfl ?_ | (apply RestK.go; exact rfl; exact rfl; intro E; (refine S.idx ha27 rfl rfl rfl rfl ?_); exact AOps.nil ⟨rfl, rfl⟩)
        exact RestK.nil
        apply RestI.cons; exact rfl; exact rfl
        first | refine RestK.skip rfl ?_ | (apply RestK.go; exact rfl; exact rfl; intro E; (refine AOps.loadI rfl rfl rfl rfl ?_); exact AOps.nil ⟨rfl, rfl⟩)
        first | refine RestK.skip rfl ?_ | (apply RestK.go; exact rfl; exact rfl; intro E; (refine AOps.loadI rfl rfl rfl rfl ?_); exact AOps.nil ⟨rfl, rfl⟩)
        exact RestK.nil
        refine RestI.skip rfl ?_
        apply RestI.cons; exact rfl; exact rfl
        first | refine RestK.skip rfl ?_ | (apply RestK.go; exact rfl; exact rfl; intro E; (refine AOps.assign rfl rfl ?_); exact AOps.nil ⟨rfl, rfl⟩)
        first | refine RestK.skip rfl ?_ | (apply RestK.go; exact rfl; exact rfl; intro E; (refine AOps.assign rfl rfl ?_); exact AOps.nil ⟨rfl, rfl⟩)
        exact RestK.nil
        exact RestI.nil
      dsimp only [envEnd]
      refine inB_normal ?_
      refine thn_normal ?_
      refine AWP.region ?_
      refine AOps.move rfl rfl ?_
      refine AOps.add rfl rfl rfl (by omega) ?_
      refine AOps.assign rfl rfl ?_
      refine AOps.nil ?_
      have ej := Option.some.inj h
      subst ej
      refine thn_normal ⟨_, rfl, ?_⟩
      exact (Sub.frzV (id := 1) (l := a29) (env2 := [(1, .c (row 1 intI a29)), (2, .c (row 1 intI plan)), (3, .c (.ptr 0 0 0)), (8, .c (int (iv5 + 1)))]) (σ2 := [.one (.cells 4 [[int t.facts, row 1 intI t.init, row 1 intI t.goal, row 4 eTOperator t.operators]]), .dead]) rfl rfl (by exact ⟨⟨_, rfl, .inr ⟨_, rfl, rfl, rfl⟩⟩, ⟨_, rfl, .inl ⟨rfl, rfl⟩⟩, ⟨_, rfl, .inl ⟨rfl, rfl⟩⟩, ⟨_, rfl, .inl ⟨rfl, rfl⟩⟩, trivial⟩) rfl (by exact ⟨⟨rfl, .inl ⟨rfl, rfl⟩, .inl ⟨rfl, rfl⟩, .inl ⟨rfl, rfl⟩, .inl ⟨rfl, rfl⟩, trivial⟩, trivial, trivial⟩)).trans (Sub.cut ⟨rfl, rfl, rfl, rfl, trivial⟩ rfl ⟨.one rfl, trivial⟩ rfl)
  · intro e s hq
    rcases oo with sv4 | x
    · try dsimp only at h hq
      obtain ⟨rfl, hs⟩ := hq
      refine ⟨_, hs, ?_⟩
      refine inB_exit ?_
      refine thn_normal ?_
      refine AWP.seq ?_
      refine AWP.region ?_
      refine AOps.move rfl rfl ?_
      refine AOps.assign rfl rfl ?_
      refine AOps.assign rfl rfl ?_
      refine AOps.nil ?_
      refine thn_normal ?_
      refine AWP.ret ?_
      have ej := Option.some.inj h
      subst ej
      exact Done.ret rfl rfl
    · try dsimp only at h hq
      obtain ⟨rfl, hs⟩ := hq
      refine ⟨_, Sub.refl _ _, ?_⟩
      refine inB_ret ?_
      refine thn_ret ?_
      have ej := Option.some.inj h
      subst ej
      exact hs
theorem ref8_TurnsWork_ok {t : TTask} {goals : List (List Int)} {plans : List (List Int)} {turns : List Int} {r : Bool} (h : ref8_TurnsWork t goals plans turns = some r) : PureOk Tryd.prog 20 [.agg [int t.facts, row 1 intI t.init, row 1 intI t.goal, row 4 eTOperator t.operators], .c (row 1 eLi64 goals), .c (row 1 eLi64 plans), .c (row 1 intI turns)] (.c (bool r)) := by
  unfold PureOk
  refine FnOk.enter (rs := [.t 8]) Tryd.func20 rfl Tryd.ntmps20 Tryd.results20 rfl ⟨trivial, trivial⟩ (by kernel_rfl) rfl ?_
  unfold ref8_TurnsWork at h
  refine AWP.seq ?_
  refine AWP.region ?_
  refine W.box rfl rfl rfl rfl rfl rfl ?_
  refine AOps.assign rfl rfl ?_
  refine AOps.nil ?_
  refine thn_normal ?_
  refine AWP.seq ?_
  obtain ⟨a19, ha19, h⟩ := bind_some h
  refine AWP.region ?_
  refine AOps.move rfl rfl ?_
  refine S.len rfl rfl (fun hl18 => ?_)
  refine S.make (f := intI) ha19 (.val .nil) rfl rfl rfl rfl rfl rfl ?_
  refine AOps.assign rfl rfl ?_
  refine AOps.nil ?_
  refine thn_normal ?_
  refine AWP.seq ?_
  refine AWP.region ?_
  refine AOps.assign rfl rfl ?_
  refine AOps.nil ?_
  refine thn_normal ?_
  refine AWP.seq ?_
  refine AWP.seq ?_
  refine AWP.region ?_
  refine AOps.assign rfl rfl ?_
  refine AOps.nil ?_
  refine thn_normal ?_
  refine AWP.block ?_
  refine AWP.virtV 1 intI 10 rfl rfl rfl ?_
  obtain ⟨oo, ho1, h⟩ := bind_some h
  refine AWP.rngS ho1 (fun iv7 (c5, c6) => ⟨[(1, .c (row 1 eLi64 goals)), (2, .c (row 1 eLi64 plans)), (3, .c (row 1 intI turns)), (4, .c (.ptr 0 0 0)), (9, .c (.own 1 0 c5.length)), (10, .c (.own 2 0 c6.length)), (11, .c (int iv7))], [.one (.cells 4 [[int t.facts, row 1 intI t.init, row 1 intI t.goal, row 4 eTOperator t.operators]]), .one (vec 1 intI c5), .one (vec 1 intI c6)]⟩) (fun o e st => match o with | .inl (c5, c6) => e = .exit 0 ∧ Sub [] st ⟨[(1, .c (row 1 eLi64 goals)), (2, .c (row 1 eLi64 plans)), (4, .c (.ptr 0 0 0)), (9, .c (.own 1 0 c5.length)), (10, .c (.own 2 0 c6.length))], [.one (.cells 4 [[int t.facts, row 1 intI t.init, row 1 intI t.goal, row 4 eTOperator t.operators]]), .one (vec 1 intI c5), .one (vec 1 intI c6)]⟩ | .inr x => e = .ret ∧ Done [.t 8] (fun t _ => t = .c (bool x)) .ret st) ?_ ?_ ?_ ?_
  · try dsimp only
    exact Sub.env ⟨rfl, rfl, rfl, rfl, rfl, (own_len (by first | rfl | simp only [List.length_set])), rfl, trivial⟩
  · intro iv7 s hloiv7 hltiv7 _
    obtain ⟨c5, c6⟩ := s
    try dsimp only
    refine AWP.seq ?_
    refine AWP.seq ?_
    refine AWP.region ?_
    refine AOps.move rfl rfl ?_
    refine AOps.move rfl rfl ?_
    refine S.len rfl rfl (fun hl22 => ?_)
    refine AOps.lss rfl rfl rfl ?_
    refine AOps.nil ?_
    refine thn_normal ?_
    refine AWP.condNP rfl hltiv7 ?_
    refine AWP.exit ?_
    refine thn_exit ?_
    refine thn_exit ⟨rfl, ?_⟩
    exact Sub.env ⟨rfl, rfl, rfl, rfl, rfl, trivial⟩
  · intro iv7 s o hloiv7 hltiv7 h
    obtain ⟨c5, c6⟩ := s
    unfold ref8_TurnsWork_l1 at h
    try dsimp only at h ⊢
    refine AWP.seq ?_
    refine AWP.seq ?_
    refine AWP.region ?_
    refine AOps.move rfl rfl ?_
    refine AOps.move rfl rfl ?_
    refine S.len rfl rfl (fun hl22 => ?_)
    refine AOps.lss rfl rfl rfl ?_
    refine AOps.nil ?_
    refine thn_normal ?_
    refine AWP.condP rfl hltiv7 ?_
    refine AWP.skip ?_
    refine thn_normal ?_
    refine AWP.seq ?_
    refine AWP.block ?_
    refine AWP.seq ?_
    obtain ⟨a28, ha28, h⟩ := bind_some h
    refine AWP.region ?_
    refine AOps.move rfl rfl ?_
    refine AOps.move rfl rfl ?_
    refine S.idx ha28 rfl rfl rfl rfl ?_
    refine AOps.loadI rfl rfl rfl rfl ?_
    refine AOps.assign rfl rfl ?_
    refine AOps.nil ?_
    refine thn_normal ?_
    refine AWP.seq ?_
    refine AWP.seq ?_
    obtain ⟨a32, ha32, h⟩ := bind_some h
    obtain ⟨a36, ha36, h⟩ := bind_some h
    refine AWP.drawI mixed rfl ?_
    apply DrawSeq.consF; exact rfl; intro E
    refine AOps.move rfl rfl ?_
    exact AOps.nil ⟨rfl, rfl⟩
    exact rfl
    apply DrawSeq.consF; exact rfl; intro E
    refine AOps.move rfl rfl ?_
    exact AOps.nil ⟨rfl, rfl⟩
    exact rfl
    apply DrawSeq.consF; exact rfl; intro E
    refine S.idxO ha32 rfl rfl rfl rfl rfl ?_
    exact AOps.nil ⟨rfl, rfl⟩
    exact rfl
    apply DrawSeq.consF; exact rfl; intro E
    refine S.loadO ha32 rfl rfl rfl rfl rfl ?_
    exact AOps.nil ⟨rfl, rfl⟩
    exact rfl
    apply DrawSeq.consF; exact rfl; intro E
    refine AOps.move rfl rfl ?_
    exact AOps.nil ⟨rfl, rfl⟩
    exact rfl
    apply DrawSeq.consF; exact rfl; intro E
    refine AOps.move rfl rfl ?_
    exact AOps.nil ⟨rfl, rfl⟩
    exact rfl
    apply DrawSeq.consF; exact rfl; intro E
    refine S.idx ha36 rfl rfl rfl rfl ?_
    exact AOps.nil ⟨rfl, rfl⟩
    exact rfl
    apply DrawSeq.consF; exact rfl; intro E
    refine AOps.loadI rfl rfl rfl rfl ?_
    exact AOps.nil ⟨rfl, rfl⟩
    exact rfl
    apply DrawSeq.consF; exact rfl; intro E
    refine S.len rfl rfl (fun hl38 => ?_)
    exact AOps.nil ⟨rfl, rfl⟩
    exact rfl
    apply DrawSeq.consF; exact rfl; intro E
    refine AOps.geq rfl rfl rfl ?_
    exact AOps.nil ⟨rfl, rfl⟩
    exact rfl
    refine DrawSeq.done ?_
    dsimp only [envEnd]
    refine thn_normal ?_
    refine AWP.ite rfl h (fun hc8 h => ?_) (fun hc8 h => ?_)
    · refine AWP.seq ?_
      refine AWP.region ?_
      refine AOps.assign rfl rfl ?_
      refine AOps.nil ?_
      refine thn_normal ?_
      refine AWP.ret ?_
      refine thn_ret ?_
      refine inB_ret ?_
      refine thn_ret ?_
      have ej := Option.some.inj h
      subst ej
      refine thn_ret ⟨_, rfl, rfl, ?_⟩
      exact Done.ret rfl rfl
    · refine AWP.skip ?_
      refine thn_normal ?_
      refine AWP.seq ?_
      obtain ⟨a43, ha43, h⟩ := bind_some h
      obtain ⟨a47, ha47, h⟩ := bind_some h
      obtain ⟨a49, ha49, h⟩ := bind_some h
      obtain ⟨a52, ha52, h⟩ := bind_some h
      refine AWP.drawEI [11, 12] mixed rfl rfl rfl ?_
      apply DrawSeqE.consN; exact rfl; exact rfl; intro E
      refine AOps.move rfl rfl ?_
      exact AOps.nil ⟨rfl, rfl⟩
      exact rfl
      apply DrawSeqE.consN; exact rfl; exact rfl; intro E
      refine AOps.move rfl rfl ?_
      exact AOps.nil ⟨rfl, rfl⟩
      exact rfl
      apply DrawSeqE.consN; exact rfl; exact rfl; intro E
      refine AOps.move rfl rfl ?_
      exact AOps.nil ⟨rfl, rfl⟩
      exact rfl
      apply DrawSeqE.consN; exact rfl; exact rfl; intro E
      refine S.idx ha43 rfl rfl rfl rfl ?_
      exact AOps.nil ⟨rfl, rfl⟩
      exact rfl
      apply DrawSeqE.consN; exact rfl; exact rfl; intro E
      refine AOps.loadI rfl rfl rfl rfl ?_
      exact AOps.nil ⟨rfl, rfl⟩
      exact rfl
      apply DrawSeqE.consN; exact rfl; exact rfl; intro E
      refine AOps.move rfl rfl ?_
      exact AOps.nil ⟨rfl, rfl⟩
      exact rfl
      apply DrawSeqE.consN; exact rfl; exact rfl; intro E
      refine AOps.move rfl rfl ?_
      exact AOps.nil ⟨rfl, rfl⟩
      exact rfl
      apply DrawSeqE.consN; exact rfl; exact rfl; intro E
      refine S.idxO ha47 rfl rfl rfl rfl rfl ?_
      exact AOps.nil ⟨rfl, rfl⟩
      exact rfl
      apply DrawSeqE.consN; exact rfl; exact rfl; intro E
      refine S.loadO ha47 rfl rfl rfl rfl rfl ?_
      exact AOps.nil ⟨rfl, rfl⟩
      exact rfl
      apply DrawSeqE.consN; exact rfl; exact rfl; intro E
      refine S.idx ha49 rfl rfl rfl rfl ?_
      exact AOps.nil ⟨rfl, rfl⟩
      exact rfl
      apply DrawSeqE.consN; exact rfl; exact rfl; intro E
      refine AOps.loadI rfl rfl rfl rfl ?_
      exact AOps.nil ⟨rfl, rfl⟩
      exact rfl
      apply DrawSeqE.consE; exact rfl; exact rfl; intro E
      refine S.lit (f := intI) (l := [a49]) (ess := [[int a49]]) rfl rfl rfl rfl rfl rfl rfl ⟨⟨.inl rfl, trivial⟩, trivial⟩ rfl rfl rfl ?_
      exact AOps.nil ⟨rfl, rfl⟩
      exact rfl
      exact rfl
      apply DrawSeqE.consE; exact rfl; exact rfl; intro E
      refine S.append (f := intI) ha52 rfl rfl rfl rfl rfl rfl (.own rfl rfl) rfl rfl rfl rfl ?_
      exact AOps.nil ⟨rfl, rfl⟩
      exact rfl
      exact rfl
      apply DrawSeqE.consN; exact rfl; exact rfl; intro E
      refine AOps.assign rfl rfl ?_
      exact AOps.nil ⟨rfl, rfl⟩
      exact rfl
      refine DrawSeqE.done rfl ?_ ?_
      · apply RestI.cons; exact rfl; exact rfl
        first | refine RestK.skip rfl ?_ | (apply RestK.go; exact rfl; exact rfl; intro E; (refine AOps.move rfl rfl ?_); exact AOps.nil ⟨rfl, rfl⟩)
        first | refine RestK.skip rfl ?_ | (apply RestK.go; exact rfl; exact rfl; intro E; (refine AOps.move rfl rfl ?_); exact AOps.nil ⟨rfl, rfl⟩)
        first | refine RestK.skip rfl ?_ | (apply RestK.go; exact rfl; exact rfl; intro E; (refine AOps.move rfl rfl ?_); exact AOps.nil ⟨rfl, rfl⟩)
        exact RestK.nil
        apply RestI.cons; exact rfl; exact rfl
        first | refine RestK.skip rfl ?_ | (apply RestK.go; exact rfl; exact rfl; intro E; (refine AOps.move rfl rfl ?_); exact AOps.nil ⟨rfl, rfl⟩)
        first | refine RestK.skip rfl ?_ | (apply RestK.go; exact rfl; exact rfl; intro E; (refine AOps.move rfl rfl ?_); exact AOps.nil ⟨rfl, rfl⟩)
        first | refine RestK.skip rfl ?_ | (apply RestK.go; exact rfl; exact rfl; intro E; (refine AOps.move rfl rfl ?_); exact AOps.nil ⟨rfl, rfl⟩)
        exact RestK.nil
        apply RestI.cons; exact rfl; exact rfl
        first | refine RestK.skip rfl ?_ | (apply RestK.go; exact rfl; exact rfl; intro E; (refine AOps.move rfl rfl ?_); exact AOps.nil ⟨rfl, rfl⟩)
        first | refine RestK.skip rfl ?_ | (apply RestK.go; exact rfl; exact rfl; intro E; (refine AOps.move rfl rfl ?_); exact AOps.nil ⟨rfl, rfl⟩)
        first | refine RestK.skip rfl ?_ | (apply RestK.go; exact rfl; exact rfl; intro E; (refine AOps.move rfl rfl ?_); exact AOps.nil ⟨rfl, rfl⟩)
        exact RestK.nil
        apply RestI.cons; exact rfl; exact rfl
        first | refine RestK.skip rfl ?_ | (apply RestK.go; exact rfl; exact rfl; intro E; (refine S.idx ha43 rfl rfl rfl rfl ?_); exact AOps.nil ⟨rfl, rfl⟩)
        first | refine RestK.skip rfl ?_ | (apply RestK.go; exact rfl; exact rfl; intro E; (refine S.idx ha43 rfl rfl rfl rfl ?_); exact AOps.nil ⟨rfl, rfl⟩)
        first | refine RestK.skip rfl ?_ | (apply RestK.go; exact rfl; exact rfl; intro E; (refine S.idx ha43 rfl rfl rfl rfl ?_); exact AOps.nil ⟨rfl, rfl⟩)
        exact RestK.nil
        apply RestI.cons; exact rfl; exact rfl
        first | refine RestK.skip rfl ?_ | (apply RestK.go; exact rfl; exact rfl; intro E; (refine AOps.loadI rfl rfl rfl rfl ?_); exact AOps.nil ⟨rfl, rfl⟩)
        first | refine RestK.skip rfl ?_ | (apply RestK.go; exact rfl; exact rfl; intro E; (refine AOps.loadI rfl rfl rfl rfl ?_); exact AOps.nil ⟨rfl, rfl⟩)
        first | refine RestK.skip rfl ?_ | (apply RestK.go; exact rfl; exact rfl; intro E; (refine AOps.loadI rfl rfl rfl rfl ?_); exact AOps.nil ⟨rfl, rfl⟩)
        exact RestK.nil
        apply RestI.cons; exact rfl; exact rfl
        first | refine RestK.skip rfl ?_ | (apply RestK.go; exact rfl; exact rfl; intro E; (refine AOps.move rfl rfl ?_); exact AOps.nil ⟨rfl, rfl⟩)
        first | refine RestK.skip rfl ?_ | (apply RestK.go; exact rfl; exact rfl; intro E; (refine AOps.move rfl rfl ?_); exact AOps.nil ⟨rfl, rfl⟩)
        first | refine RestK.skip rfl ?_ | (apply RestK.go; exact rfl; exact rfl; intro E; (refine AOps.move rfl rfl ?_); exact AOps.nil ⟨rfl, rfl⟩)
        exact RestK.nil
        apply RestI.cons; exact rfl; exact rfl
        first | refine RestK.skip rfl ?_ | (apply RestK.go; exact rfl; exact rfl; intro E; (refine AOps.move rfl rfl ?_); exact AOps.nil ⟨rfl, rfl⟩)
        first | refine RestK.skip rfl ?_ | (apply RestK.go; exact rfl; exact rfl; intro E; (refine AOps.move rfl rfl ?_); exact AOps.nil ⟨rfl, rfl⟩)
        first | refine RestK.skip rfl ?_ | (apply RestK.go; exact rfl; exact rfl; intro E; (refine AOps.move rfl rfl ?_); exact AOps.nil ⟨rfl, rfl⟩)
        exact RestK.nil
        apply RestI.cons; exact rfl; exact rfl
        first | refine RestK.skip rfl ?_ | (apply RestK.go; exact rfl; exact rfl; intro E; (refine S.idxO ha47 rfl rfl rfl rfl rfl ?_); exact AOps.nil ⟨rfl, rfl⟩)
        first | refine RestK.skip rfl ?_ | (apply RestK.go; exact rfl; exact rfl; intro E; (refine S.idxO ha47 rfl rfl rfl rfl rfl ?_); exact AOps.nil ⟨rfl, rfl⟩)
        first | refine RestK.skip rfl ?_ | (apply RestK.go; exact rfl; exact rfl; intro E; (refine S.idxO ha47 rfl rfl rfl rfl rfl ?_); exact AOps.nil ⟨rfl, rfl⟩)
        exact RestK.nil
        apply RestI.cons; exact rfl; exact rfl
        first | refine RestK.skip rfl ?_ | (apply RestK.go; exact rfl; exact rfl; intro E; (refine S.loadO ha47 rfl rfl rfl rfl rfl ?_); exact AOps.nil ⟨rfl, rfl⟩)
        first | refine RestK.skip rfl ?_ | (apply RestK.go; exact rfl; exact rfl; intro E; (refine S.loadO ha47 rfl rfl rfl rfl rfl ?_); exact AOps.nil ⟨rfl, rfl⟩)
        first | refine RestK.skip rfl ?_ | (apply RestK.go; exact rfl; exact rfl; intro E; (refine S.loadO ha47 rfl rfl rfl rfl rfl ?_); exact AOps.nil ⟨rfl, rfl⟩)
        exact RestK.nil
        apply RestI.cons; exact rfl; exact rfl
        first | refine RestK.skip rfl ?_ | (apply RestK.go; exact rfl; exact rfl; intro E; (refine S.idx ha49 rfl rfl rfl rfl ?_); exact AOps.nil ⟨rfl, rfl⟩)
        first | refine RestK.skip rfl ?_ | (apply RestK.go; exact rfl; exact rfl; intro E; (refine S.idx ha49 rfl rfl rfl rfl ?_); exact AOps.nil ⟨rfl, rfl⟩)
        first | refine RestK.skip rfl ?_ | (apply RestK.go; exact rfl; exact rfl; intro E; (refine S.idx ha49 rfl rfl rfl rfl ?_); exact AOps.nil ⟨rfl, rfl⟩)
        exact RestK.nil
        apply RestI.cons; exact rfl; exact rfl
        first | refine RestK.skip rfl ?_ | (apply RestK.go; exact rfl; exact rfl; intro E; (refine AOps.loadI rfl rfl rfl rfl ?_); exact AOps.nil ⟨rfl, rfl⟩)
        first | refine RestK.skip rfl ?_ | (apply RestK.go; exact rfl; exact rfl; intro E; (refine AOps.loadI rfl rfl rfl rfl ?_); exact AOps.nil ⟨rfl, rfl⟩)
        first | refine RestK.skip rfl ?_ | (apply RestK.go; exact rfl; exact rfl; intro E; (refine AOps.loadI rfl rfl rfl rfl ?_); exact AOps.nil ⟨rfl, rfl⟩)
        exact RestK.nil
        refine RestI.skip rfl ?_
        refine RestI.skip rfl ?_
        apply RestI.cons; exact rfl; exact rfl
        first | refine RestK.skip rfl ?_ | (apply RestK.go; exact rfl; exact rfl; intro E; (refine AOps.assign rfl rfl ?_); exact AOps.nil ⟨rfl, rfl⟩)
        first | refine RestK.skip rfl ?_ | (apply RestK.go; exact rfl; exact rfl; intro E; (refine AOps.assign rfl rfl ?_); exact AOps.nil ⟨rfl, rfl⟩)
        first | refine RestK.skip rfl ?_ | (apply RestK.go; exact rfl; exact rfl; intro E; (refine AOps.assign rfl rfl ?_); exact AOps.nil ⟨rfl, rfl⟩)
        exact RestK.nil
        exact RestI.nil
      dsimp only [envEnd]
      refine thn_normal ?_
      refine AWP.move (env' := [(1, .c (row 1 eLi64 goals)), (2, .c (row 1 eLi64 plans)), (3, .c (row 1 intI turns)), (4, .c (.ptr 0 0 0)), (9, .c (.own 1 0 c5.length)), (10, .c (.own 2 0 a52.length)), (11, .c (int iv7)), (12, .c (int a28))]) (σ' := [.one (.cells 4 [[int t.facts, row 1 intI t.init, row 1 intI t.goal, row 4 eTOperator t.operators]]), .one (vec 1 intI c5), .one (vec 1 intI a52), .one (vec 1 intI [a49])]) 2 4 rfl rfl rfl ⟨rfl, rfl, rfl, rfl, rfl, rfl, rfl, rfl, trivial⟩ rfl ⟨⟨rfl, rfl⟩, ⟨Blk.im_ok _ _ _, vec_mv rfl⟩, ⟨Blk.im_ok _ _ _, vec_mv rfl⟩, ⟨Blk.im_ok _ _ _, vec_mv rfl⟩, trivial⟩ ?_
      obtain ⟨a55, ha55, h⟩ := bind_some h
      obtain ⟨a58, ha58, h⟩ := bind_some h
      refine AWP.region ?_
      refine AOps.move rfl rfl ?_
      refine AOps.move rfl rfl ?_
      refine S.idxO ha55 rfl rfl rfl rfl rfl ?_
      refine S.loadO ha55 rfl rfl rfl rfl rfl ?_
      refine S.add rfl rfl rfl ?_
      refine S.idxO ha58 rfl rfl rfl rfl rfl ?_
      refine S.storeO1 (f := intI) (a' := w64 (a55 + 1)) (ix_lt ha58) (fun _ => ⟨_, rfl⟩) rfl rfl rfl rfl rfl ?_
      refine AOps.nil ?_
      refine inB_normal ?_
      refine thn_normal ?_
      refine AWP.region ?_
      refine AOps.move rfl rfl ?_
      refine AOps.add rfl rfl rfl (by omega) ?_
      refine AOps.assign rfl rfl ?_
      refine AOps.nil ?_
      have ej := Option.some.inj h
      subst ej
      refine thn_normal ⟨_, rfl, ?_⟩
      exact Sub.cut ⟨rfl, rfl, rfl, rfl, (own_len (by first | rfl | simp only [List.length_set])), rfl, rfl, trivial⟩ rfl ⟨.one rfl, .vec, .vec, trivial⟩ rfl
  · intro e s hq
    rcases oo with ⟨c5, c6⟩ | x
    · try dsimp only at h hq
      obtain ⟨rfl, hs⟩ := hq
      refine ⟨_, hs, ?_⟩
      refine inB_exit ?_
      refine thn_normal ?_
      refine AWP.seq ?_
      refine AWP.seq ?_
      refine AWP.region ?_
      refine AOps.assign rfl rfl ?_
      refine AOps.nil ?_
      refine thn_normal ?_
      refine AWP.block ?_
      obtain ⟨oo, ho2, h⟩ := bind_some h
      refine AWP.rngS ho2 (fun p9 _ => ⟨[(1, .c (row 1 eLi64 goals)), (2, .c (row 1 eLi64 plans)), (4, .c (.ptr 0 0 0)), (9, .c (.own 1 0 c5.length)), (10, .c (.own 2 0 c6.length)), (13, .c (int p9))], [.one (.cells 4 [[int t.facts, row 1 intI t.init, row 1 intI t.goal, row 4 eTOperator t.operators]]), .one (vec 1 intI c5), .one (vec 1 intI c6)]⟩) (fun o e st => match o with | .inl _ => e = .exit 2 ∧ Sub [] st ⟨[(1, .c (row 1 eLi64 goals)), (4, .c (.ptr 0 0 0)), (10, .c (.own 2 0 c6.length))], [.one (.cells 4 [[int t.facts, row 1 intI t.init, row 1 intI t.goal, row 4 eTOperator t.operators]]), .one (vec 1 intI c5), .one (vec 1 intI c6)]⟩ | .inr x => e = .ret ∧ Done [.t 8] (fun t _ => t = .c (bool x)) .ret st) ?_ ?_ ?_ ?_
      · try dsimp only
        exact Sub.env ⟨rfl, rfl, rfl, rfl, rfl, rfl, trivial⟩
      · intro p9 s hlop9 hltp9 _
        try dsimp only
        refine AWP.seq ?_
        refine AWP.seq ?_
        refine AWP.region ?_
        refine AOps.move rfl rfl ?_
        refine AOps.move rfl rfl ?_
        refine S.len rfl rfl (fun hl61 => ?_)
        refine AOps.lss rfl rfl rfl ?_
        refine AOps.nil ?_
        refine thn_normal ?_
        refine AWP.condNP rfl hltp9 ?_
        refine AWP.exit ?_
        refine thn_exit ?_
        refine thn_exit ⟨rfl, ?_⟩
        exact Sub.env ⟨rfl, rfl, rfl, trivial⟩
      · intro p9 s o hlop9 hltp9 h
        unfold ref8_TurnsWork_l2 at h
        try dsimp only at h ⊢
        refine AWP.seq ?_
        refine AWP.seq ?_
        refine AWP.region ?_
        refine AOps.move rfl rfl ?_
        refine AOps.move rfl rfl ?_
        refine S.len rfl rfl (fun hl61 => ?_)
        refine AOps.lss rfl rfl rfl ?_
        refine AOps.nil ?_
        refine thn_normal ?_
        refine AWP.condP rfl hltp9 ?_
        refine AWP.skip ?_
        refine thn_normal ?_
        refine AWP.seq ?_
        refine AWP.block ?_
        refine AWP.seq ?_
        obtain ⟨a67, ha67, h⟩ := bind_some h
        obtain ⟨a71, ha71, h⟩ := bind_some h
        refine AWP.drawI mixed rfl ?_
        apply DrawSeq.consF; exact rfl; intro E
        refine AOps.move rfl rfl ?_
        exact AOps.nil ⟨rfl, rfl⟩
        exact rfl
        apply DrawSeq.consF; exact rfl; intro E
        refine AOps.move rfl rfl ?_
        exact AOps.nil ⟨rfl, rfl⟩
        exact rfl
        apply DrawSeq.consF; exact rfl; intro E
        refine S.idxO ha67 rfl rfl rfl rfl rfl ?_
        exact AOps.nil ⟨rfl, rfl⟩
        exact rfl
        apply DrawSeq.consF; exact rfl; intro E
        refine S.loadO ha67 rfl rfl rfl rfl rfl ?_
        exact AOps.nil ⟨rfl, rfl⟩
        exact rfl
        apply DrawSeq.consF; exact rfl; intro E
        refine AOps.move rfl rfl ?_
        exact AOps.nil ⟨rfl, rfl⟩
        exact rfl
        apply DrawSeq.consF; exact rfl; intro E
        refine AOps.move rfl rfl ?_
        exact AOps.nil ⟨rfl, rfl⟩
        exact rfl
        apply DrawSeq.consF; exact rfl; intro E
        refine S.idx ha71 rfl rfl rfl rfl ?_
        exact AOps.nil ⟨rfl, rfl⟩
        exact rfl
        apply DrawSeq.consF; exact rfl; intro E
        refine AOps.loadI rfl rfl rfl rfl ?_
        exact AOps.nil ⟨rfl, rfl⟩
        exact rfl
        apply DrawSeq.consF; exact rfl; intro E
        refine S.len rfl rfl (fun hl73 => ?_)
        exact AOps.nil ⟨rfl, rfl⟩
        exact rfl
        apply DrawSeq.consF; exact rfl; intro E
        refine AOps.lss rfl rfl rfl ?_
        exact AOps.nil ⟨rfl, rfl⟩
        exact rfl
        refine DrawSeq.done ?_
        dsimp only [envEnd]
        refine thn_normal ?_
        refine AWP.ite rfl h (fun hc10 h => ?_) (fun hc10 h => ?_)
        · refine AWP.seq ?_
          refine AWP.region ?_
          refine AOps.assign rfl rfl ?_
          refine AOps.nil ?_
          refine thn_normal ?_
          refine AWP.ret ?_
          refine inB_ret ?_
          refine thn_ret ?_
          have ej := Option.some.inj h
          subst ej
          refine thn_ret ⟨_, rfl, rfl, ?_⟩
          exact Done.ret rfl rfl
        · refine AWP.skip ?_
          refine inB_normal ?_
          refine thn_normal ?_
          refine AWP.region ?_
          refine AOps.move rfl rfl ?_
          refine AOps.add rfl rfl rfl (by omega) ?_
          refine AOps.assign rfl rfl ?_
          refine AOps.nil ?_
          have ej := Option.some.inj h
          subst ej
          refine thn_normal ⟨_, rfl, ?_⟩
          exact Sub.env ⟨rfl, rfl, rfl, rfl, rfl, rfl, trivial⟩
      · intro e s hq
        rcases oo with u | x
        · try dsimp only at h hq
          obtain ⟨rfl, hs⟩ := hq
          refine ⟨_, hs, ?_⟩
          refine inB_exit ?_
          refine thn_normal ?_
          refine AWP.seq ?_
          obtain ⟨a80, ha80, h⟩ := bind_some h
          refine AWP.region ?_
          refine W.loadAgg rfl rfl rfl rfl rfl rfl rfl ?_
          refine W.fieldAddr rfl rfl rfl rfl ?_
          refine AOps.load rfl rfl rfl rfl rfl rfl ?_
          refine AOps.move rfl rfl ?_
          refine AOps.frzV (id := 2) (l := c6) (env2 := [(1, .c (row 1 eLi64 goals)), (76, .agg [int t.facts, row 1 intI t.init, row 1 intI t.goal, row 4 eTOperator t.operators]), (78, .c (row 1 intI t.init)), (79, .c (row 1 intI c6))]) (σ2 := [.one (.cells 4 [[int t.facts, row 1 intI t.init, row 1 intI t.goal, row 4 eTOperator t.operators]]), .one (vec 1 intI c5), .dead]) rfl rfl (by exact ⟨⟨_, rfl, .inl ⟨rfl, rfl⟩⟩, ⟨_, rfl, ⟨.inl ⟨rfl, rfl⟩, .inl ⟨rfl, rfl⟩, .inl ⟨rfl, rfl⟩, .inl ⟨rfl, rfl⟩, trivial⟩⟩, ⟨_, rfl, .inl ⟨rfl, rfl⟩⟩, ⟨_, rfl, .inr ⟨_, rfl, rfl, rfl⟩⟩, trivial⟩) rfl (by exact ⟨⟨rfl, .inl ⟨rfl, rfl⟩, .inl ⟨rfl, rfl⟩, .inl ⟨rfl, rfl⟩, .inl ⟨rfl, rfl⟩, trivial⟩, FrzB.vec, trivial, trivial⟩) ?_; refine AOps.callR rfl rfl rfl rfl (ref1_Ends_ok ha80) rfl ?_
          refine AOps.move rfl rfl ?_
          refine AOps.extract rfl rfl rfl ?_
          refine AOps.extract rfl rfl rfl ?_
          refine AOps.assign rfl rfl ?_
          refine AOps.assign rfl rfl ?_
          refine AOps.nil ?_
          refine thn_normal ?_
          refine AWP.seq ?_
          refine AWP.seq ?_
          refine AWP.region ?_
          refine AOps.assign rfl rfl ?_
          refine AOps.nil ?_
          refine thn_normal ?_
          refine AWP.block ?_
          obtain ⟨ok11, ho3, h⟩ := bind_some h
          refine AWP.forS ho3 (fun p12 ok11 => ⟨[(1, .c (row 1 eLi64 goals)), (14, .c (row 1 intI a80.1)), (15, .c (bool ok11)), (16, .c (int p12))], []⟩) (fun ok11 e st => e = .exit 4 ∧ Sub [] st ⟨[(15, .c (bool ok11))], []⟩) ?_ ?_ ?_ ?_
          · try dsimp only
            exact Sub.cut ⟨rfl, rfl, rfl, rfl, trivial⟩ rfl trivial rfl
          · intro p12 ok11 hlop12 hltp12 _
            try dsimp only
            refine AWP.seq ?_
            refine AWP.seq ?_
            refine AWP.region ?_
            refine AOps.move rfl rfl ?_
            refine AOps.move rfl rfl ?_
            refine S.len rfl rfl (fun hl85 => ?_)
            refine AOps.lss rfl rfl rfl ?_
            refine AOps.nil ?_
            refine thn_normal ?_
            refine AWP.condNP rfl hltp12 ?_
            refine AWP.exit ?_
            refine thn_exit ?_
            refine thn_exit ⟨rfl, ?_⟩
            exact Sub.env ⟨rfl, trivial⟩
          · intro p12 ok11 o hlop12 hltp12 h
            unfold ref8_TurnsWork_l3 at h
            try dsimp only at h ⊢
            refine AWP.seq ?_
            refine AWP.seq ?_
            refine AWP.region ?_
            refine AOps.move rfl rfl ?_
            refine AOps.move rfl rfl ?_
            refine S.len rfl rfl (fun hl85 => ?_)
            refine AOps.lss rfl rfl rfl ?_
            refine AOps.nil ?_
            refine thn_normal ?_
            refine AWP.condP rfl hltp12 ?_
            refine AWP.skip ?_
            refine thn_normal ?_
            obtain ⟨ok13, hx14, h⟩ := bind_some h
            refine AWP.seqJ (⟨[(1, .c (row 1 eLi64 goals)), (14, .c (row 1 intI a80.1)), (15, .c (bool ok13)), (16, .c (int p12))], []⟩) ?_ ?_
            · refine AWP.block ?_
              rcases Bool.eq_false_or_eq_true (ok11) with hb15 | hb15
              · replace hx14 := iteBT hb15 hx14
                obtain ⟨a93, ha93, hx14⟩ := bind_some hx14
                obtain ⟨a96, ha96, hx14⟩ := bind_some hx14
                refine AWP.region ?_
                refine AOps.move rfl rfl ?_
                refine AOps.move rfl rfl ?_
                refine AOps.guardT rfl rfl rfl hb15 ?_; refine AOps.move rfl rfl ?_
                refine AOps.guardT rfl rfl rfl hb15 ?_; refine AOps.move rfl rfl ?_
                refine AOps.guardT rfl rfl rfl hb15 ?_; refine S.idx ha93 rfl rfl rfl rfl ?_
                refine AOps.guardT rfl rfl rfl hb15 ?_; refine AOps.loadI rfl rfl rfl rfl ?_
                refine AOps.guardT rfl rfl rfl hb15 ?_; refine AOps.move rfl rfl ?_
                refine AOps.guardT rfl rfl rfl hb15 ?_; refine AOps.callR rfl rfl rfl rfl (ref1_Subset_ok ha96) rfl ?_
                refine AOps.pickT rfl hb15 rfl rfl ?_
                refine AOps.assign rfl rfl ?_
                refine AOps.nil ?_
                refine inB_normal ?_
                have ej := Option.some.inj hx14
                subst ej
                refine thn_normal ?_
                exact Sub.env ⟨rfl, rfl, rfl, rfl, trivial⟩
              · replace hx14 := iteBF hb15 hx14
                refine AWP.region ?_
                refine AOps.move rfl rfl ?_
                refine AOps.move rfl rfl ?_
                refine AOps.guardF rfl rfl rfl hb15 ?_
                refine AOps.guardF rfl rfl rfl hb15 ?_
                refine AOps.guardF rfl rfl rfl hb15 ?_
                refine AOps.guardF rfl rfl rfl hb15 ?_
                refine AOps.guardF rfl rfl rfl hb15 ?_
                refine AOps.guardF rfl rfl rfl hb15 ?_
                refine AOps.pickF rfl hb15 rfl rfl ?_
                refine AOps.assign rfl rfl ?_
                refine AOps.nil ?_
                refine inB_normal ?_
                have ej := Option.some.inj hx14
                subst ej
                refine thn_normal ?_
                exact Sub.env ⟨rfl, rfl, rfl, rfl, trivial⟩
            · refine AWP.region ?_
              refine AOps.move rfl rfl ?_
              refine AOps.add rfl rfl rfl (by omega) ?_
              refine AOps.assign rfl rfl ?_
              refine AOps.nil ?_
              have ej := Option.some.inj h
              subst ej
              refine thn_normal ?_
              exact Sub.env ⟨rfl, rfl, rfl, rfl, trivial⟩
          · intro e s hq
            obtain ⟨rfl, hs⟩ := hq
            refine ⟨_, hs, ?_⟩
            refine inB_exit ?_
            refine thn_normal ?_
            refine AWP.seq ?_
            refine AWP.region ?_
            refine AOps.move rfl rfl ?_
            refine AOps.assign rfl rfl ?_
            refine AOps.nil ?_
            refine thn_normal ?_
            refine AWP.ret ?_
            have ej := Option.some.inj h
            subst ej
            exact Done.ret rfl rfl
        · try dsimp only at h hq
          obtain ⟨rfl, hs⟩ := hq
          refine ⟨_, Sub.refl _ _, ?_⟩
          refine inB_ret ?_
          refine thn_ret ?_
          have ej := Option.some.inj h
          subst ej
          exact hs
    · try dsimp only at h hq
      obtain ⟨rfl, hs⟩ := hq
      refine ⟨_, Sub.refl _ _, ?_⟩
      refine inB_ret ?_
      refine thn_ret ?_
      have ej := Option.some.inj h
      subst ej
      exact hs
theorem ref8_Turns_w_okN {t : TTask} {goals : List (List Int)} {plans : List (List Int)} : ∀ (n : Nat) (xs : (List Int)) (r : (List Int) × Bool), recN (ref8_Turns_w_b t goals plans) n xs = some r → FnOk Tryd.prog 12 [.agg [int t.facts, row 1 intI t.init, row 1 intI t.goal, row 4 eTOperator t.operators], .c (row 1 eLi64 goals), .c (row 1 eLi64 plans), .c (.own 0 0 xs.length)] (ref8_Turns_w_s0 t goals plans xs) (fun tt ss => tt = .tup [.c (row 1 intI r.1), .c (bool r.2)] ∧ ss = [.dead]) := by
  intro n
  induction n with
  | zero => intro xs r h; cases h
  | succ n ih =>
    intro l r h
    have h : ref8_Turns_w_b t goals plans (recN (ref8_Turns_w_b t goals plans) n) l = some r := h
    revert ih h
    generalize recN (ref8_Turns_w_b t goals plans) n = slf
    intro hslf h
    try dsimp only
    refine FnOk.enter (rs := [.t 8, .t 9]) Tryd.func12 rfl Tryd.ntmps12 Tryd.results12 rfl ⟨trivial, trivial, trivial⟩ (by kernel_rfl) rfl ?_
    refine AWP.weak ?_
    unfold ref8_Turns_w_b at h
    try dsimp only at h
    refine AWP.move (env' := [(0, .agg [int t.facts, row 1 intI t.init, row 1 intI t.goal, row 4 eTOperator t.operators]), (1, .c (row 1 eLi64 goals)), (2, .c (row 1 eLi64 plans)), (3, .c (.own 1 0 l.length))]) (σ' := [.dead, .one (vec 1 intI l)]) 1 0 rfl rfl rfl ⟨rfl, rfl, rfl, rfl, trivial⟩ rfl ⟨trivial, ⟨Blk.im_ok _ _ _, vec_mv rfl⟩, trivial⟩ ?_
    refine AWP.seq ?_
    refine AWP.region ?_
    refine W.box rfl rfl rfl rfl rfl rfl ?_
    refine AOps.assign rfl rfl ?_
    refine AOps.assign rfl rfl ?_
    refine AOps.nil ?_
    refine thn_normal ?_
    refine AWP.seq ?_
    refine AWP.seq ?_
    obtain ⟨a18, ha18, h⟩ := bind_some h
    refine AWP.region ?_
    refine AOps.move rfl rfl ?_
    refine S.lenO rfl rfl rfl (fun hl16 => ?_)
    refine AOps.move rfl rfl ?_
    refine AOps.callR rfl rfl rfl rfl (ref8_Steps_ok ha18) rfl ?_
    refine AOps.eql rfl rfl rfl ?_
    refine AOps.nil ?_
    refine thn_normal ?_
    refine AWP.ite rfl h (fun hc7 h => ?_) (fun hc7 h => ?_)
    · refine AWP.seq ?_
      obtain ⟨a25, ha25, h⟩ := bind_some h
      refine AWP.region ?_
      refine AOps.move rfl rfl ?_
      refine W.loadAgg rfl rfl rfl rfl rfl rfl rfl ?_
      refine AOps.move rfl rfl ?_
      refine AOps.move rfl rfl ?_
      refine AOps.move rfl rfl ?_
      refine AOps.callL rfl rfl (.cons (.agg (.cons .imm (.cons .imm (.cons .imm (.cons .imm .nil))))) (.cons (.c .imm) (.cons (.c .imm) (.cons (.c (.own rfl rfl)) .nil)))) rfl (ref8_TurnsWork_ok ha25) rfl ?_
      refine AOps.assign rfl rfl ?_
      refine AOps.assign rfl rfl ?_
      refine AOps.nil ?_
      refine thn_normal ?_
      refine AWP.frzV (id := 1) (l := l) (env2 := [(8, .c (row 1 intI l)), (9, .c (bool a25))]) (σ2 := [.dead, .dead, .one (.cells 4 [[int t.facts, row 1 intI t.init, row 1 intI t.goal, row 4 eTOperator t.operators]])]) rfl rfl (by exact ⟨⟨_, rfl, .inr ⟨_, rfl, rfl, rfl⟩⟩, ⟨_, rfl, .inl ⟨rfl, rfl⟩⟩, trivial⟩) rfl (by exact ⟨trivial, trivial, ⟨rfl, .inl ⟨rfl, rfl⟩, .inl ⟨rfl, rfl⟩, .inl ⟨rfl, rfl⟩, .inl ⟨rfl, rfl⟩, trivial⟩, trivial⟩) ?_
      refine AWP.ret ?_
      refine thn_ret ?_
      have ej := Option.some.inj h
      subst ej
      exact ⟨⟨[(8, .c (row 1 intI l)), (9, .c (bool a25))], [.dead]⟩, Sub.cut ⟨rfl, rfl, trivial⟩ rfl ⟨.dead, trivial⟩ rfl, Done.ret rfl ⟨rfl, rfl⟩⟩
    · refine AWP.skip ?_
      refine thn_normal ?_
      refine AWP.seq ?_
      refine AWP.seq ?_
      refine AWP.region ?_
      refine AOps.assign rfl rfl ?_
      refine AOps.nil ?_
      refine thn_normal ?_
      refine AWP.block ?_
      obtain ⟨oo, ho1, h⟩ := bind_some h
      refine AWP.rngS ho1 (fun p8 _ => ⟨[(1, .c (row 1 eLi64 goals)), (2, .c (row 1 eLi64 plans)), (3, .c (.own 1 0 l.length)), (4, .c (.ptr 2 0 0)), (10, .c (int p8))], [.dead, .one (vec 1 intI l), .one (.cells 4 [[int t.facts, row 1 intI t.init, row 1 intI t.goal, row 4 eTOperator t.operators]])]⟩) (fun o e st => match o with | .inl _ => e = .exit 0 ∧ Sub (ref8_Turns_w_s0 t goals plans l) st ⟨[], [.dead, .one (vec 1 intI l), .one (.cells 4 [[int t.facts, row 1 intI t.init, row 1 intI t.goal, row 4 eTOperator t.operators]])]⟩ | .inr x => e = .ret ∧ ∃ J, Sub (ref8_Turns_w_s0 t goals plans l) st J ∧ Done [.t 8, .t 9] (fun tt ss => tt = .tup [.c (row 1 intI x.1), .c (bool x.2)] ∧ ss = [.dead]) .ret J) ?_ ?_ ?_ ?_
      · try dsimp only
        exact Sub.env ⟨rfl, rfl, rfl, rfl, rfl, trivial⟩
      · intro p8 s hlop8 hltp8 _
        try dsimp only
        refine AWP.seq ?_
        refine AWP.seq ?_
        refine AWP.region ?_
        refine AOps.move rfl rfl ?_
        refine AOps.move rfl rfl ?_
        refine S.len rfl rfl (fun hl28 => ?_)
        refine AOps.lss rfl rfl rfl ?_
        refine AOps.nil ?_
        refine thn_normal ?_
        refine AWP.condNP rfl hltp8 ?_
        refine AWP.exit ?_
        refine thn_exit ?_
        refine thn_exit ⟨rfl, ?_⟩
        exact Sub.env trivial
      · intro p8 s o hlop8 hltp8 h
        unfold ref8_Turns_w_l1 at h
        try dsimp only at h ⊢
        refine AWP.seq ?_
        refine AWP.seq ?_
        refine AWP.region ?_
        refine AOps.move rfl rfl ?_
        refine AOps.move rfl rfl ?_
        refine S.len rfl rfl (fun hl28 => ?_)
        refine AOps.lss rfl rfl rfl ?_
        refine AOps.nil ?_
        refine thn_normal ?_
        refine AWP.condP rfl hltp8 ?_
        refine AWP.skip ?_
        refine thn_normal ?_
        refine AWP.seqF (ref8_Turns_w_j2) o (fun () => ⟨[(1, .c (row 1 eLi64 goals)), (2, .c (row 1 eLi64 plans)), (3, .c (.own 1 0 l.length)), (4, .c (.ptr 2 0 0)), (10, .c (int p8))], [.dead, .one (vec 1 intI l), .one (.cells 4 [[int t.facts, row 1 intI t.init, row 1 intI t.goal, row 4 eTOperator t.operators]])]⟩) (fun x h => ?_) ?_
        · unfold ref8_Turns_w_j2 at h
          try dsimp only at h ⊢
          refine AWP.region ?_
          refine AOps.move rfl rfl ?_
          refine AOps.add rfl rfl rfl (by omega) ?_
          refine AOps.assign rfl rfl ?_
          refine AOps.nil ?_
          have ej := Option.some.inj h
          subst ej
          refine thn_normal ⟨_, rfl, ?_⟩
          exact Sub.env ⟨rfl, rfl, rfl, rfl, rfl, trivial⟩
        · refine AWP.block ?_
          refine AWP.seq ?_
          refine AWP.region ?_
          refine AOps.assign rfl rfl ?_
          refine AOps.nil ?_
          refine thn_normal ?_
          refine AWP.seq ?_
          refine AWP.seq ?_
          refine AWP.region ?_
          refine AOps.assign rfl rfl ?_
          refine AOps.nil ?_
          refine thn_normal ?_
          refine AWP.block ?_
          obtain ⟨nv9, ho3, h⟩ := bind_some h
          refine AWP.forS ho3 (fun iv10 nv9 => ⟨[(1, .c (row 1 eLi64 goals)), (2, .c (row 1 eLi64 plans)), (3, .c (.own 1 0 l.length)), (4, .c (.ptr 2 0 0)), (10, .c (int p8)), (11, .c (int nv9)), (12, .c (int iv10))], [.dead, .one (vec 1 intI l), .one (.cells 4 [[int t.facts, row 1 intI t.init, row 1 intI t.goal, row 4 eTOperator t.operators]])]⟩) (fun nv9 e st => e = .exit 2 ∧ Sub (ref8_Turns_w_s0 t goals plans l) st ⟨[(1, .c (row 1 eLi64 goals)), (2, .c (row 1 eLi64 plans)), (3, .c (.own 1 0 l.length)), (4, .c (.ptr 2 0 0)), (10, .c (int p8)), (11, .c (int nv9))], [.dead, .one (vec 1 intI l), .one (.cells 4 [[int t.facts, row 1 intI t.init, row 1 intI t.goal, row 4 eTOperator t.operators]])]⟩) ?_ ?_ ?_ ?_
          · try dsimp only
            exact Sub.env ⟨rfl, rfl, rfl, rfl, rfl, rfl, rfl, trivial⟩
          · intro iv10 nv9 hloiv10 hltiv10 _
            try dsimp only
            refine AWP.seq ?_
            refine AWP.seq ?_
            refine AWP.region ?_
            refine AOps.move rfl rfl ?_
            refine AOps.move rfl rfl ?_
            refine S.lenO rfl rfl rfl (fun hl34 => ?_)
            refine AOps.lss rfl rfl rfl ?_
            refine AOps.nil ?_
            refine thn_normal ?_
            refine AWP.condNP rfl hltiv10 ?_
            refine AWP.exit ?_
            refine thn_exit ?_
            refine thn_exit ⟨rfl, ?_⟩
            exact Sub.env ⟨rfl, rfl, rfl, rfl, rfl, rfl, trivial⟩
          · intro iv10 nv9 o hloiv10 hltiv10 h
            unfold ref8_Turns_w_l3 at h
            try dsimp only at h ⊢
            refine AWP.seq ?_
            refine AWP.seq ?_
            refine AWP.region ?_
            refine AOps.move rfl rfl ?_
            refine AOps.move rfl rfl ?_
            refine S.lenO rfl rfl rfl (fun hl34 => ?_)
            refine AOps.lss rfl rfl rfl ?_
            refine AOps.nil ?_
            refine thn_normal ?_
            refine AWP.condP rfl hltiv10 ?_
            refine AWP.skip ?_
            refine thn_normal ?_
            obtain ⟨nv11, hx12, h⟩ := bind_some h
            refine AWP.seqJ (⟨[(1, .c (row 1 eLi64 goals)), (2, .c (row 1 eLi64 plans)), (3, .c (.own 1 0 l.length)), (4, .c (.ptr 2 0 0)), (10, .c (int p8)), (11, .c (int nv11)), (12, .c (int iv10))], [.dead, .one (vec 1 intI l), .one (.cells 4 [[int t.facts, row 1 intI t.init, row 1 intI t.goal, row 4 eTOperator t.operators]])]⟩) ?_ ?_
            · refine AWP.block ?_
              refine AWP.seq ?_
              obtain ⟨a40, ha40, hx12⟩ := bind_some hx12
              refine AWP.region ?_
              refine AOps.move rfl rfl ?_
              refine AOps.move rfl rfl ?_
              refine S.idxO ha40 rfl rfl rfl rfl rfl ?_
              refine S.loadO ha40 rfl rfl rfl rfl rfl ?_
              refine AOps.move rfl rfl ?_
              refine AOps.eql rfl rfl rfl ?_
              refine AOps.nil ?_
              refine thn_normal ?_
              refine AWP.ite rfl hx12 (fun hc13 hx12 => ?_) (fun hc13 hx12 => ?_)
              · refine AWP.region ?_
                refine AOps.move rfl rfl ?_
                refine S.add rfl rfl rfl ?_
                refine AOps.assign rfl rfl ?_
                refine AOps.nil ?_
                refine inB_normal ?_
                have ej := Option.some.inj hx12
                subst ej
                refine thn_normal ?_
                exact Sub.env ⟨rfl, rfl, rfl, rfl, rfl, rfl, rfl, trivial⟩
              · refine AWP.skip ?_
                refine inB_normal ?_
                have ej := Option.some.inj hx12
                subst ej
                refine thn_normal ?_
                exact Sub.env ⟨rfl, rfl, rfl, rfl, rfl, rfl, rfl, trivial⟩
            · refine AWP.region ?_
              refine AOps.move rfl rfl ?_
              refine AOps.add rfl rfl rfl (by omega) ?_
              refine AOps.assign rfl rfl ?_
              refine AOps.nil ?_
              have ej := Option.some.inj h
              subst ej
              refine thn_normal ?_
              exact Sub.env ⟨rfl, rfl, rfl, rfl, rfl, rfl, rfl, trivial⟩
          · intro e s hq
            obtain ⟨rfl, hs⟩ := hq
            refine ⟨_, hs, ?_⟩
            refine inB_exit ?_
            refine thn_normal ?_
            refine AWP.seq ?_
            refine AWP.seq ?_
            obtain ⟨a49, ha49, h⟩ := bind_some h
            refine AWP.region ?_
            refine AOps.move rfl rfl ?_
            refine AOps.move rfl rfl ?_
            refine AOps.move rfl rfl ?_
            refine S.idx ha49 rfl rfl rfl rfl ?_
            refine AOps.loadI rfl rfl rfl rfl ?_
            refine S.len rfl rfl (fun hl51 => ?_)
            refine AOps.eql rfl rfl rfl ?_
            refine AOps.nil ?_
            refine thn_normal ?_
            refine AWP.ite rfl h (fun hc14 h => ?_) (fun hc14 h => ?_)
            · refine AWP.exit ?_
              refine thn_exit ?_
              refine inB_exit ?_
              refine thn_normal ⟨_, h, ?_⟩
              exact Sub.env ⟨rfl, rfl, rfl, rfl, rfl, trivial⟩
            · refine AWP.skip ?_
              refine thn_normal ?_
              refine AWP.seq ?_
              obtain ⟨a59, ha59, h⟩ := bind_some h
              obtain ⟨a62, ha62, h⟩ := bind_some h
              obtain ⟨a63, ha63, h⟩ := bind_some h
              refine AWP.sub (s' := ⟨[(1, .c (row 1 eLi64 goals)), (2, .c (row 1 eLi64 plans)), (3, .c (.own 1 0 l.length)), (4, .c (.ptr 2 0 0)), (10, .c (int p8)), (11, .c (int nv9)), (46, .c (int nv9)), (47, .c (row 1 eLi64 plans)), (48, .c (int p8)), (49, .c (.imm (.ipt [.sl 1 (List.map intI a49)]))), (50, .c (row 1 intI a49)), (51, .c (int (a49.length : Int))), (52, .c (bool (decide (nv9 = (a49.length : Int)))))], [.dead, .one (vec 1 intI l), .one (.cells 4 [[int t.facts, row 1 intI t.init, row 1 intI t.goal, row 4 eTOperator t.operators]]), .dead, .dead, .dead, .dead]⟩) (Sub.cut ⟨rfl, rfl, rfl, rfl, rfl, rfl, rfl, rfl, rfl, rfl, rfl, rfl, rfl, trivial⟩ rfl ⟨.dead, .vec, .one rfl, .dead, .dead, .dead, .dead, trivial⟩ rfl) ?_
              refine AWP.drawTI [.agg [int t.facts, row 1 intI t.init, row 1 intI t.goal, row 4 eTOperator t.operators], .c (row 1 eLi64 goals), .c (row 1 eLi64 plans), .c (.own 3 0 (([] : List Int).length)), .c (.own 1 0 l.length), .c (.own 4 0 a59.length), .c (int p8), .c (.own 5 0 ([p8].length)), .c (.own 6 0 a62.length), .tup [.c (row 1 intI a63.1), .c (bool a63.2)], .tup [.c (row 1 intI a63.1), .c (bool a63.2)], .c (row 1 intI a63.1), .c (bool a63.2), .c (row 1 intI a63.1), .c (bool a63.2)] [3, 5, 7, 8, 9] [([], [.dead, .one (vec 1 intI l), .one (.cells 4 [[int t.facts, row 1 intI t.init, row 1 intI t.goal, row 4 eTOperator t.operators]]), .dead, .dead, .dead, .dead]), ([3], [.dead, .one (vec 1 intI l), .one (.cells 4 [[int t.facts, row 1 intI t.init, row 1 intI t.goal, row 4 eTOperator t.operators]]), .one (vec 1 intI ([] : List Int)), .dead, .dead, .dead]), ([3, 5], [.dead, .one (vec 1 intI l), .one (.cells 4 [[int t.facts, row 1 intI t.init, row 1 intI t.goal, row 4 eTOperator t.operators]]), .dead, .one (vec 1 intI a59), .dead, .dead]), ([7], [.dead, .one (vec 1 intI l), .one (.cells 4 [[int t.facts, row 1 intI t.init, row 1 intI t.goal, row 4 eTOperator t.operators]]), .dead, .dead, .one (vec 1 intI [p8]), .dead]), ([3, 7], [.dead, .one (vec 1 intI l), .one (.cells 4 [[int t.facts, row 1 intI t.init, row 1 intI t.goal, row 4 eTOperator t.operators]]), .one (vec 1 intI ([] : List Int)), .dead, .one (vec 1 intI [p8]), .dead]), ([3, 5, 7], [.dead, .one (vec 1 intI l), .one (.cells 4 [[int t.facts, row 1 intI t.init, row 1 intI t.goal, row 4 eTOperator t.operators]]), .dead, .one (vec 1 intI a59), .one (vec 1 intI [p8]), .dead]), ([3, 5, 7, 8], [.dead, .one (vec 1 intI l), .one (.cells 4 [[int t.facts, row 1 intI t.init, row 1 intI t.goal, row 4 eTOperator t.operators]]), .dead, .dead, .one (vec 1 intI [p8]), .one (vec 1 intI a62)]), ([3, 5, 7, 8, 9], [.dead, .one (vec 1 intI l), .one (.cells 4 [[int t.facts, row 1 intI t.init, row 1 intI t.goal, row 4 eTOperator t.operators]]), .dead, .dead, .one (vec 1 intI [p8]), .dead])] [.dead, .one (vec 1 intI l), .one (.cells 4 [[int t.facts, row 1 intI t.init, row 1 intI t.goal, row 4 eTOperator t.operators]]), .dead, .dead, .one (vec 1 intI [p8]), .dead] mixed rfl rfl rfl rfl rfl ?_ ?_
              · refine TabOk.cons ?_ ?_
                · apply EntOps.go; exact rfl; exact rfl; exact rfl; intro E hE; (refine W.loadAgg rfl rfl rfl rfl rfl rfl rfl ?_); exact AOps.nil ⟨rfl, rfl⟩
                  apply EntOps.go; exact rfl; exact rfl; exact rfl; intro E hE; (refine AOps.move rfl rfl ?_); exact AOps.nil ⟨rfl, rfl⟩
                  apply EntOps.go; exact rfl; exact rfl; exact rfl; intro E hE; (refine AOps.move rfl rfl ?_); exact AOps.nil ⟨rfl, rfl⟩
                  apply EntOps.eff; exact rfl; exact rfl; exact rfl; exact rfl; intro E hE; (refine AOps.newAt 3 (.c (.own 3 0 (([] : List Int).length))) (vec 1 intI ([] : List Int)) (.inl rfl) rfl hE rfl rfl rfl rfl (.vec) (.vec) rfl rfl rfl ⟨.dead, .vec, .one rfl, .dead, .dead, .dead, .dead, trivial⟩ (fun hh => by (refine S.lit (f := intI) (l := []) (ess := []) rfl rfl rfl rfl rfl rfl rfl trivial rfl rfl rfl ?_; exact hh)) ?_); exact AOps.nil ⟨rfl, rfl⟩
                  apply EntOps.go; exact rfl; exact rfl; exact rfl; intro E hE; (refine AOps.move rfl rfl ?_); exact AOps.nil ⟨rfl, rfl⟩
                  refine EntOps.no rfl ?_
                  apply EntOps.go; exact rfl; exact rfl; exact rfl; intro E hE; (refine AOps.move rfl rfl ?_); exact AOps.nil ⟨rfl, rfl⟩
                  apply EntOps.eff; exact rfl; exact rfl; exact rfl; exact rfl; intro E hE; (refine AOps.newAt 5 (.c (.own 5 0 ([p8].length))) (vec 1 intI [p8]) (.inl rfl) rfl hE rfl rfl rfl rfl (.vec) (.vec) rfl rfl rfl ⟨.dead, .vec, .one rfl, .dead, .dead, .dead, .dead, trivial⟩ (fun hh => by (refine S.lit (f := intI) (l := [p8]) (ess := [[int p8]]) rfl rfl rfl rfl rfl rfl rfl ⟨⟨.inl rfl, trivial⟩, trivial⟩ rfl rfl rfl ?_; exact hh)) ?_); exact AOps.nil ⟨rfl, rfl⟩
                  refine EntOps.no rfl ?_
                  refine EntOps.no rfl ?_
                  refine EntOps.no rfl ?_
                  refine EntOps.no rfl ?_
                  refine EntOps.no rfl ?_
                  refine EntOps.no rfl ?_
                  refine EntOps.no rfl ?_
                  exact EntOps.nil
                refine TabOk.cons ?_ ?_
                · apply EntOps.go; exact rfl; exact rfl; exact rfl; intro E hE; (refine W.loadAgg rfl rfl rfl rfl rfl rfl rfl ?_); exact AOps.nil ⟨rfl, rfl⟩
                  apply EntOps.go; exact rfl; exact rfl; exact rfl; intro E hE; (refine AOps.move rfl rfl ?_); exact AOps.nil ⟨rfl, rfl⟩
                  apply EntOps.go; exact rfl; exact rfl; exact rfl; intro E hE; (refine AOps.move rfl rfl ?_); exact AOps.nil ⟨rfl, rfl⟩
                  refine EntOps.no rfl ?_
                  apply EntOps.go; exact rfl; exact rfl; exact rfl; intro E hE; (refine AOps.move rfl rfl ?_); exact AOps.nil ⟨rfl, rfl⟩
                  apply EntOps.eff; exact rfl; exact rfl; exact rfl; exact rfl; intro E hE; (refine AOps.newAt 4 (.c (.own 4 0 a59.length)) (vec 1 intI a59) (.inr ⟨3, rfl⟩) rfl hE rfl rfl rfl rfl (.vec) (.vec) rfl rfl rfl ⟨.dead, .vec, .one rfl, .dead, .dead, .dead, .dead, trivial⟩ (fun hh => by (refine S.append (f := intI) ha59 rfl rfl rfl rfl rfl rfl (.own rfl rfl) rfl rfl rfl rfl ?_; exact hh)) ?_); exact AOps.nil ⟨rfl, rfl⟩
                  apply EntOps.go; exact rfl; exact rfl; exact rfl; intro E hE; (refine AOps.move rfl rfl ?_); exact AOps.nil ⟨rfl, rfl⟩
                  apply EntOps.eff; exact rfl; exact rfl; exact rfl; exact rfl; intro E hE; (refine AOps.newAt 5 (.c (.own 5 0 ([p8].length))) (vec 1 intI [p8]) (.inl rfl) rfl hE rfl rfl rfl rfl (.vec) (.vec) rfl rfl rfl ⟨.dead, .vec, .one rfl, .vec, .dead, .dead, .dead, trivial⟩ (fun hh => by (refine S.lit (f := intI) (l := [p8]) (ess := [[int p8]]) rfl rfl rfl rfl rfl rfl rfl ⟨⟨.inl rfl, trivial⟩, trivial⟩ rfl rfl rfl ?_; exact hh)) ?_); exact AOps.nil ⟨rfl, rfl⟩
                  refine EntOps.no rfl ?_
                  refine EntOps.no rfl ?_
                  refine EntOps.no rfl ?_
                  refine EntOps.no rfl ?_
                  refine EntOps.no rfl ?_
                  refine EntOps.no rfl ?_
                  refine EntOps.no rfl ?_
                  exact EntOps.nil
                refine TabOk.cons ?_ ?_
                · apply EntOps.go; exact rfl; exact rfl; exact rfl; intro E hE; (refine W.loadAgg rfl rfl rfl rfl rfl rfl rfl ?_); exact AOps.nil ⟨rfl, rfl⟩
                  apply EntOps.go; exact rfl; exact rfl; exact rfl; intro E hE; (refine AOps.move rfl rfl ?_); exact AOps.nil ⟨rfl, rfl⟩
                  apply EntOps.go; exact rfl; exact rfl; exact rfl; intro E hE; (refine AOps.move rfl rfl ?_); exact AOps.nil ⟨rfl, rfl⟩
                  refine EntOps.no rfl ?_
                  refine EntOps.no rfl ?_
                  refine EntOps.no rfl ?_
                  apply EntOps.go; exact rfl; exact rfl; exact rfl; intro E hE; (refine AOps.move rfl rfl ?_); exact AOps.nil ⟨rfl, rfl⟩
                  apply EntOps.eff; exact rfl; exact rfl; exact rfl; exact rfl; intro E hE; (refine AOps.newAt 5 (.c (.own 5 0 ([p8].length))) (vec 1 intI [p8]) (.inl rfl) rfl hE rfl rfl rfl rfl (.vec) (.vec) rfl rfl rfl ⟨.dead, .vec, .one rfl, .dead, .vec, .dead, .dead, trivial⟩ (fun hh => by (refine S.lit (f := intI) (l := [p8]) (ess := [[int p8]]) rfl rfl rfl rfl rfl rfl rfl ⟨⟨.inl rfl, trivial⟩, trivial⟩ rfl rfl rfl ?_; exact hh)) ?_); exact AOps.nil ⟨rfl, rfl⟩
                  refine EntOps.no rfl ?_
                  refine EntOps.no rfl ?_
                  refine EntOps.no rfl ?_
                  refine EntOps.no rfl ?_
                  refine EntOps.no rfl ?_
                  refine EntOps.no rfl ?_
                  refine EntOps.no rfl ?_
                  exact EntOps.nil
                refine TabOk.cons ?_ ?_
                · apply EntOps.go; exact rfl; exact rfl; exact rfl; intro E hE; (refine W.loadAgg rfl rfl rfl rfl rfl rfl rfl ?_); exact AOps.nil ⟨rfl, rfl⟩
                  apply EntOps.go; exact rfl; exact rfl; exact rfl; intro E hE; (refine AOps.move rfl rfl ?_); exact AOps.nil ⟨rfl, rfl⟩
                  apply EntOps.go; exact rfl; exact rfl; exact rfl; intro E hE; (refine AOps.move rfl rfl ?_); exact AOps.nil ⟨rfl, rfl⟩
                  apply EntOps.eff; exact rfl; exact rfl; exact rfl; exact rfl; intro E hE; (refine AOps.newAt 3 (.c (.own 3 0 (([] : List Int).length))) (vec 1 intI ([] : List Int)) (.inl rfl) rfl hE rfl rfl rfl rfl (.vec) (.vec) rfl rfl rfl ⟨.dead, .vec, .one rfl, .dead, .dead, .vec, .dead, trivial⟩ (fun hh => by (refine S.lit (f := intI) (l := []) (ess := []) rfl rfl rfl rfl rfl rfl rfl trivial rfl rfl rfl ?_; exact hh)) ?_); exact AOps.nil ⟨rfl, rfl⟩
                  apply EntOps.go; exact rfl; exact rfl; exact rfl; intro E hE; (refine AOps.move rfl rfl ?_); exact AOps.nil ⟨rfl, rfl⟩
                  refine EntOps.no rfl ?_
                  refine EntOps.no rfl ?_
                  refine EntOps.no rfl ?_
                  refine EntOps.no rfl ?_
                  refine EntOps.no rfl ?_
                  refine EntOps.no rfl ?_
                  refine EntOps.no rfl ?_
                  refine EntOps.no rfl ?_
                  refine EntOps.no rfl ?_
                  refine EntOps.no rfl ?_
                  exact EntOps.nil
                refine TabOk.cons ?_ ?_
                · apply EntOps.go; exact rfl; exact rfl; exact rfl; intro E hE; (refine W.loadAgg rfl rfl rfl rfl rfl rfl rfl ?_); exact AOps.nil ⟨rfl, rfl⟩
                  apply EntOps.go; exact rfl; exact rfl; exact rfl; intro E hE; (refine AOps.move rfl rfl ?_); exact AOps.nil ⟨rfl, rfl⟩
                  apply EntOps.go; exact rfl; exact rfl; exact rfl; intro E hE; (refine AOps.move rfl rfl ?_); exact AOps.nil ⟨rfl, rfl⟩
                  refine EntOps.no rfl ?_
                  apply EntOps.go; exact rfl; exact rfl; exact rfl; intro E hE; (refine AOps.move rfl rfl ?_); exact AOps.nil ⟨rfl, rfl⟩
                  apply EntOps.eff; exact rfl; exact rfl; exact rfl; exact rfl; intro E hE; (refine AOps.newAt 4 (.c (.own 4 0 a59.length)) (vec 1 intI a59) (.inr ⟨3, rfl⟩) rfl hE rfl rfl rfl rfl (.vec) (.vec) rfl rfl rfl ⟨.dead, .vec, .one rfl, .dead, .dead, .vec, .dead, trivial⟩ (fun hh => by (refine S.append (f := intI) ha59 rfl rfl rfl rfl rfl rfl (.own rfl rfl) rfl rfl rfl rfl ?_; exact hh)) ?_); exact AOps.nil ⟨rfl, rfl⟩
                  refine EntOps.no rfl ?_
                  refine EntOps.no rfl ?_
                  refine EntOps.no rfl ?_
                  refine EntOps.no rfl ?_
                  refine EntOps.no rfl ?_
                  refine EntOps.no rfl ?_
                  refine EntOps.no rfl ?_
                  refine EntOps.no rfl ?_
                  refine EntOps.no rfl ?_
                  exact EntOps.nil
                refine TabOk.cons ?_ ?_
                · apply EntOps.go; exact rfl; exact rfl; exact rfl; intro E hE; (refine W.loadAgg rfl rfl rfl rfl rfl rfl rfl ?_); exact AOps.nil ⟨rfl, rfl⟩
                  apply EntOps.go; exact rfl; exact rfl; exact rfl; intro E hE; (refine AOps.move rfl rfl ?_); exact AOps.nil ⟨rfl, rfl⟩
                  apply EntOps.go; exact rfl; exact rfl; exact rfl; intro E hE; (refine AOps.move rfl rfl ?_); exact AOps.nil ⟨rfl, rfl⟩
                  refine EntOps.no rfl ?_
                  refine EntOps.no rfl ?_
                  refine EntOps.no rfl ?_
                  refine EntOps.no rfl ?_
                  refine EntOps.no rfl ?_
                  apply EntOps.eff; exact rfl; exact rfl; exact rfl; exact rfl; intro E hE; (refine AOps.newAt 6 (.c (.own 6 0 a62.length)) (vec 1 intI a62) (.inr ⟨4, rfl⟩) rfl hE rfl rfl rfl rfl (.vec) (.vec) rfl rfl rfl ⟨.dead, .vec, .one rfl, .dead, .dead, .vec, .dead, trivial⟩ (fun hh => by (refine S.append (f := intI) ha62 rfl rfl rfl rfl rfl rfl (.own rfl rfl) rfl rfl rfl rfl ?_; exact hh)) ?_); exact AOps.nil ⟨rfl, rfl⟩
                  refine EntOps.no rfl ?_
                  refine EntOps.no rfl ?_
                  refine EntOps.no rfl ?_
                  refine EntOps.no rfl ?_
                  refine EntOps.no rfl ?_
                  refine EntOps.no rfl ?_
                  exact EntOps.nil
                refine TabOk.cons ?_ ?_
                · apply EntOps.go; exact rfl; exact rfl; exact rfl; intro E hE; (refine W.loadAgg rfl rfl rfl rfl rfl rfl rfl ?_); exact AOps.nil ⟨rfl, rfl⟩
                  apply EntOps.go; exact rfl; exact rfl; exact rfl; intro E hE; (refine AOps.move rfl rfl ?_); exact AOps.nil ⟨rfl, rfl⟩
                  apply EntOps.go; exact rfl; exact rfl; exact rfl; intro E hE; (refine AOps.move rfl rfl ?_); exact AOps.nil ⟨rfl, rfl⟩
                  refine EntOps.no rfl ?_
                  refine EntOps.no rfl ?_
                  refine EntOps.no rfl ?_
                  refine EntOps.no rfl ?_
                  refine EntOps.no rfl ?_
                  refine EntOps.no rfl ?_
                  apply EntOps.eff; exact rfl; exact rfl; exact rfl; exact rfl; intro E hE; (refine AOps.callF (r2 := .tup [.c (row 1 intI a63.1), .c (bool a63.2)]) (σ'' := [.dead, .one (vec 1 intI l), .one (.cells 4 [[int t.facts, row 1 intI t.init, row 1 intI t.goal, row 4 eTOperator t.operators]]), .dead, .dead, .one (vec 1 intI [p8]), .dead]) rfl rfl rfl (FnOk.lend [6] (hslf _ _ ha63) rfl rfl rfl rfl rfl rfl (by exact ⟨.vec, trivial⟩) rfl (by exact ⟨(.live rfl .vec), trivial⟩) rfl rfl (by exact ⟨.dead, (.old rfl rfl rfl), (.old rfl rfl rfl), .dead, .dead, (.old rfl rfl rfl), .dead, trivial⟩)) ?_); exact AOps.nil ⟨rfl, rfl⟩
                  refine EntOps.no rfl ?_
                  refine EntOps.no rfl ?_
                  refine EntOps.no rfl ?_
                  refine EntOps.no rfl ?_
                  refine EntOps.no rfl ?_
                  exact EntOps.nil
                refine TabOk.cons ?_ ?_
                · refine EntOps.no rfl ?_
                  refine EntOps.no rfl ?_
                  refine EntOps.no rfl ?_
                  refine EntOps.no rfl ?_
                  refine EntOps.no rfl ?_
                  refine EntOps.no rfl ?_
                  refine EntOps.no rfl ?_
                  refine EntOps.no rfl ?_
                  refine EntOps.no rfl ?_
                  refine EntOps.no rfl ?_
                  apply EntOps.go; exact rfl; exact rfl; exact rfl; intro E hE; (refine AOps.move rfl rfl ?_); exact AOps.nil ⟨rfl, rfl⟩
                  apply EntOps.go; exact rfl; exact rfl; exact rfl; intro E hE; (refine AOps.extract rfl rfl rfl ?_); exact AOps.nil ⟨rfl, rfl⟩
                  apply EntOps.go; exact rfl; exact rfl; exact rfl; intro E hE; (refine AOps.extract rfl rfl rfl ?_); exact AOps.nil ⟨rfl, rfl⟩
                  apply EntOps.go; exact rfl; exact rfl; exact rfl; intro E hE; (refine AOps.assign rfl rfl ?_); exact AOps.nil ⟨rfl, rfl⟩
                  apply EntOps.go; exact rfl; exact rfl; exact rfl; intro E hE; (refine AOps.assign rfl rfl ?_); exact AOps.nil ⟨rfl, rfl⟩
                  exact EntOps.nil
                exact TabOk.nil
              dsimp only [envEnd]
              refine thn_normal ?_
              refine AWP.seq ?_
              refine AWP.move (env' := [(1, .c (row 1 eLi64 goals)), (2, .c (row 1 eLi64 plans)), (3, .c (.own 1 0 l.length)), (4, .c (.ptr 2 0 0)), (10, .c (int p8)), (13, .c (row 1 intI a63.1)), (14, .c (bool a63.2))]) (σ' := [.dead, .one (vec 1 intI l), .one (.cells 4 [[int t.facts, row 1 intI t.init, row 1 intI t.goal, row 4 eTOperator t.operators]]), .dead, .dead, .one (vec 1 intI [p8]), .dead]) 3 4 rfl rfl rfl ⟨rfl, rfl, rfl, rfl, rfl, rfl, rfl, trivial⟩ rfl ⟨trivial, ⟨Blk.im_ok _ _ _, vec_mv rfl⟩, ⟨rfl, rfl⟩, trivial, trivial, ⟨Blk.im_ok _ _ _, vec_mv rfl⟩, trivial, trivial⟩ ?_
              refine AWP.move (env' := [(1, .c (row 1 eLi64 goals)), (2, .c (row 1 eLi64 plans)), (3, .c (.own 1 0 l.length)), (4, .c (.ptr 2 0 0)), (10, .c (int p8)), (13, .c (row 1 intI a63.1)), (14, .c (bool a63.2))]) (σ' := [.dead, .one (vec 1 intI l), .one (.cells 4 [[int t.facts, row 1 intI t.init, row 1 intI t.goal, row 4 eTOperator t.operators]]), .dead, .dead, .one (vec 1 intI [p8])]) 4 6 rfl rfl rfl ⟨rfl, rfl, rfl, rfl, rfl, rfl, rfl, trivial⟩ rfl ⟨trivial, ⟨Blk.im_ok _ _ _, vec_mv rfl⟩, ⟨rfl, rfl⟩, trivial, trivial, ⟨Blk.im_ok _ _ _, vec_mv rfl⟩, trivial⟩ ?_
              refine AWP.region ?_
              refine AOps.move rfl rfl ?_
              refine AOps.nil ?_
              refine thn_normal ?_
              refine AWP.iteB rfl h (fun hc15 h => ?_) (fun hc15 h => ?_)
              · refine AWP.seq ?_
                refine AWP.region ?_
                refine AOps.move rfl rfl ?_
                refine AOps.assign rfl rfl ?_
                refine AOps.assign rfl rfl ?_
                refine AOps.nil ?_
                refine thn_normal ?_
                refine AWP.ret ?_
                refine inB_ret ?_
                refine thn_ret ?_
                have ej := Option.some.inj h
                subst ej
                refine thn_ret ⟨_, rfl, rfl, ?_⟩
                exact ⟨⟨[(8, .c (row 1 intI a63.1)), (9, .c (bool true))], [.dead]⟩, Sub.cut ⟨rfl, rfl, trivial⟩ rfl ⟨.dead, trivial⟩ rfl, Done.ret rfl ⟨rfl, rfl⟩⟩
              · refine AWP.skip ?_
                refine inB_normal ?_
                refine thn_normal ⟨_, h, ?_⟩
                exact Sub.cut ⟨rfl, rfl, rfl, rfl, rfl, trivial⟩ rfl ⟨.dead, .vec, .one rfl, trivial⟩ rfl
      · intro e s hq
        rcases oo with u | x
        · try dsimp only at h hq
          obtain ⟨rfl, hs⟩ := hq
          refine ⟨_, hs, ?_⟩
          refine inB_exit ?_
          refine thn_normal ?_
          refine AWP.seq ?_
          refine AWP.region ?_
          refine AOps.assign rfl rfl ?_
          refine AOps.assign rfl rfl ?_
          refine AOps.nil ?_
          refine thn_normal ?_
          refine AWP.nilrow 1 8 rfl ?_
          refine AWP.ret ?_
          have ej := Option.some.inj h
          subst ej
          exact ⟨⟨[(8, .c (row 1 intI [])), (9, .c (bool false))], [.dead]⟩, Sub.cut ⟨rfl, rfl, trivial⟩ rfl ⟨.dead, trivial⟩ rfl, Done.ret rfl ⟨rfl, rfl⟩⟩
        · try dsimp only at h hq
          obtain ⟨rfl, hs⟩ := hq
          refine ⟨_, Sub.refl _ _, ?_⟩
          refine inB_ret ?_
          refine thn_ret ?_
          have ej := Option.some.inj h
          subst ej
          exact hs
theorem ref8_Turns_w_ok {t : TTask} {goals : List (List Int)} {plans : List (List Int)} {l : List Int} {r : (List Int) × Bool} (h : ref8_Turns_w t goals plans l = some r) : FnOk Tryd.prog 12 [.agg [int t.facts, row 1 intI t.init, row 1 intI t.goal, row 4 eTOperator t.operators], .c (row 1 eLi64 goals), .c (row 1 eLi64 plans), .c (.own 0 0 l.length)] (ref8_Turns_w_s0 t goals plans l) (fun tt ss => tt = .tup [.c (row 1 intI r.1), .c (bool r.2)] ∧ ss = [.dead]) := by
  obtain ⟨n, hn⟩ := Rec_some h
  exact ref8_Turns_w_okN n _ r hn
theorem ref8_Turns_ok {t : TTask} {goals : List (List Int)} {plans : List (List Int)} {begun : List Int} {r : (List Int) × Bool} (h : ref8_Turns t goals plans begun = some r) : PureOk Tryd.prog 12 [.agg [int t.facts, row 1 intI t.init, row 1 intI t.goal, row 4 eTOperator t.operators], .c (row 1 eLi64 goals), .c (row 1 eLi64 plans), .c (row 1 intI begun)] (.tup [.c (row 1 intI r.1), .c (bool r.2)]) := by
  unfold PureOk
  refine FnOk.enter (rs := [.t 8, .t 9]) Tryd.func12 rfl Tryd.ntmps12 Tryd.results12 rfl ⟨trivial, trivial, trivial⟩ (by kernel_rfl) rfl ?_
  unfold ref8_Turns at h
  refine AWP.seq ?_
  refine AWP.region ?_
  refine W.box rfl rfl rfl rfl rfl rfl ?_
  refine AOps.assign rfl rfl ?_
  refine AOps.assign rfl rfl ?_
  refine AOps.nil ?_
  refine thn_normal ?_
  refine AWP.seq ?_
  refine AWP.seq ?_
  obtain ⟨a18, ha18, h⟩ := bind_some h
  refine AWP.region ?_
  refine AOps.move rfl rfl ?_
  refine S.len rfl rfl (fun hl16 => ?_)
  refine AOps.move rfl rfl ?_
  refine AOps.callR rfl rfl rfl rfl (ref8_Steps_ok ha18) rfl ?_
  refine AOps.eql rfl rfl rfl ?_
  refine AOps.nil ?_
  refine thn_normal ?_
  refine AWP.ite rfl h (fun hc5 h => ?_) (fun hc5 h => ?_)
  · refine AWP.seq ?_
    obtain ⟨a25, ha25, h⟩ := bind_some h
    refine AWP.region ?_
    refine AOps.move rfl rfl ?_
    refine W.loadAgg rfl rfl rfl rfl rfl rfl rfl ?_
    refine AOps.move rfl rfl ?_
    refine AOps.move rfl rfl ?_
    refine AOps.move rfl rfl ?_
    refine AOps.callR rfl rfl rfl rfl (ref8_TurnsWork_ok ha25) rfl ?_
    refine AOps.assign rfl rfl ?_
    refine AOps.assign rfl rfl ?_
    refine AOps.nil ?_
    refine thn_normal ?_
    refine AWP.ret ?_
    refine thn_ret ?_
    have ej := Option.some.inj h
    subst ej
    exact Done.ret rfl rfl
  · refine AWP.skip ?_
    refine thn_normal ?_
    refine AWP.seq ?_
    refine AWP.seq ?_
    refine AWP.region ?_
    refine AOps.assign rfl rfl ?_
    refine AOps.nil ?_
    refine thn_normal ?_
    refine AWP.block ?_
    obtain ⟨oo, ho1, h⟩ := bind_some h
    refine AWP.rngS ho1 (fun p6 _ => ⟨[(1, .c (row 1 eLi64 goals)), (2, .c (row 1 eLi64 plans)), (3, .c (row 1 intI begun)), (4, .c (.ptr 0 0 0)), (10, .c (int p6))], [.one (.cells 4 [[int t.facts, row 1 intI t.init, row 1 intI t.goal, row 4 eTOperator t.operators]])]⟩) (fun o e st => match o with | .inl _ => e = .exit 0 ∧ Sub [] st ⟨[], [.one (.cells 4 [[int t.facts, row 1 intI t.init, row 1 intI t.goal, row 4 eTOperator t.operators]])]⟩ | .inr x => e = .ret ∧ Done [.t 8, .t 9] (fun t _ => t = .tup [.c (row 1 intI x.1), .c (bool x.2)]) .ret st) ?_ ?_ ?_ ?_
    · try dsimp only
      exact Sub.env ⟨rfl, rfl, rfl, rfl, rfl, trivial⟩
    · intro p6 s hlop6 hltp6 _
      try dsimp only
      refine AWP.seq ?_
      refine AWP.seq ?_
      refine AWP.region ?_
      refine AOps.move rfl rfl ?_
      refine AOps.move rfl rfl ?_
      refine S.len rfl rfl (fun hl28 => ?_)
      refine AOps.lss rfl rfl rfl ?_
      refine AOps.nil ?_
      refine thn_normal ?_
      refine AWP.condNP rfl hltp6 ?_
      refine AWP.exit ?_
      refine thn_exit ?_
      refine thn_exit ⟨rfl, ?_⟩
      exact Sub.env trivial
    · intro p6 s o hlop6 hltp6 h
      unfold ref8_Turns_l1 at h
      try dsimp only at h ⊢
      refine AWP.seq ?_
      refine AWP.seq ?_
      refine AWP.region ?_
      refine AOps.move rfl rfl ?_
      refine AOps.move rfl rfl ?_
      refine S.len rfl rfl (fun hl28 => ?_)
      refine AOps.lss rfl rfl rfl ?_
      refine AOps.nil ?_
      refine thn_normal ?_
      refine AWP.condP rfl hltp6 ?_
      refine AWP.skip ?_
      refine thn_normal ?_
      refine AWP.seqF (ref8_Turns_j2) o (fun () => ⟨[(1, .c (row 1 eLi64 goals)), (2, .c (row 1 eLi64 plans)), (3, .c (row 1 intI begun)), (4, .c (.ptr 0 0 0)), (10, .c (int p6))], [.one (.cells 4 [[int t.facts, row 1 intI t.init, row 1 intI t.goal, row 4 eTOperator t.operators]])]⟩) (fun x h => ?_) ?_
      · unfold ref8_Turns_j2 at h
        try dsimp only at h ⊢
        refine AWP.region ?_
        refine AOps.move rfl rfl ?_
        refine AOps.add rfl rfl rfl (by omega) ?_
        refine AOps.assign rfl rfl ?_
        refine AOps.nil ?_
        have ej := Option.some.inj h
        subst ej
        refine thn_normal ⟨_, rfl, ?_⟩
        exact Sub.env ⟨rfl, rfl, rfl, rfl, rfl, trivial⟩
      · refine AWP.block ?_
        refine AWP.seq ?_
        refine AWP.region ?_
        refine AOps.assign rfl rfl ?_
        refine AOps.nil ?_
        refine thn_normal ?_
        refine AWP.seq ?_
        refine AWP.seq ?_
        refine AWP.region ?_
        refine AOps.assign rfl rfl ?_
        refine AOps.nil ?_
        refine thn_normal ?_
        refine AWP.block ?_
        obtain ⟨nv7, ho3, h⟩ := bind_some h
        refine AWP.forS ho3 (fun iv8 nv7 => ⟨[(1, .c (row 1 eLi64 goals)), (2, .c (row 1 eLi64 plans)), (3, .c (row 1 intI begun)), (4, .c (.ptr 0 0 0)), (10, .c (int p6)), (11, .c (int nv7)), (12, .c (int iv8))], [.one (.cells 4 [[int t.facts, row 1 intI t.init, row 1 intI t.goal, row 4 eTOperator t.operators]])]⟩) (fun nv7 e st => e = .exit 2 ∧ Sub [] st ⟨[(1, .c (row 1 eLi64 goals)), (2, .c (row 1 eLi64 plans)), (3, .c (row 1 intI begun)), (4, .c (.ptr 0 0 0)), (10, .c (int p6)), (11, .c (int nv7))], [.one (.cells 4 [[int t.facts, row 1 intI t.init, row 1 intI t.goal, row 4 eTOperator t.operators]])]⟩) ?_ ?_ ?_ ?_
        · try dsimp only
          exact Sub.env ⟨rfl, rfl, rfl, rfl, rfl, rfl, rfl, trivial⟩
        · intro iv8 nv7 hloiv8 hltiv8 _
          try dsimp only
          refine AWP.seq ?_
          refine AWP.seq ?_
          refine AWP.region ?_
          refine AOps.move rfl rfl ?_
          refine AOps.move rfl rfl ?_
          refine S.len rfl rfl (fun hl34 => ?_)
          refine AOps.lss rfl rfl rfl ?_
          refine AOps.nil ?_
          refine thn_normal ?_
          refine AWP.condNP rfl hltiv8 ?_
          refine AWP.exit ?_
          refine thn_exit ?_
          refine thn_exit ⟨rfl, ?_⟩
          exact Sub.env ⟨rfl, rfl, rfl, rfl, rfl, rfl, trivial⟩
        · intro iv8 nv7 o hloiv8 hltiv8 h
          unfold ref8_Turns_l3 at h
          try dsimp only at h ⊢
          refine AWP.seq ?_
          refine AWP.seq ?_
          refine AWP.region ?_
          refine AOps.move rfl rfl ?_
          refine AOps.move rfl rfl ?_
          refine S.len rfl rfl (fun hl34 => ?_)
          refine AOps.lss rfl rfl rfl ?_
          refine AOps.nil ?_
          refine thn_normal ?_
          refine AWP.condP rfl hltiv8 ?_
          refine AWP.skip ?_
          refine thn_normal ?_
          obtain ⟨nv9, hx10, h⟩ := bind_some h
          refine AWP.seqJ (⟨[(1, .c (row 1 eLi64 goals)), (2, .c (row 1 eLi64 plans)), (3, .c (row 1 intI begun)), (4, .c (.ptr 0 0 0)), (10, .c (int p6)), (11, .c (int nv9)), (12, .c (int iv8))], [.one (.cells 4 [[int t.facts, row 1 intI t.init, row 1 intI t.goal, row 4 eTOperator t.operators]])]⟩) ?_ ?_
          · refine AWP.block ?_
            refine AWP.seq ?_
            obtain ⟨a40, ha40, hx10⟩ := bind_some hx10
            refine AWP.region ?_
            refine AOps.move rfl rfl ?_
            refine AOps.move rfl rfl ?_
            refine S.idx ha40 rfl rfl rfl rfl ?_
            refine AOps.loadI rfl rfl rfl rfl ?_
            refine AOps.move rfl rfl ?_
            refine AOps.eql rfl rfl rfl ?_
            refine AOps.nil ?_
            refine thn_normal ?_
            refine AWP.ite rfl hx10 (fun hc11 hx10 => ?_) (fun hc11 hx10 => ?_)
            · refine AWP.region ?_
              refine AOps.move rfl rfl ?_
              refine S.add rfl rfl rfl ?_
              refine AOps.assign rfl rfl ?_
              refine AOps.nil ?_
              refine inB_normal ?_
              have ej := Option.some.inj hx10
              subst ej
              refine thn_normal ?_
              exact Sub.env ⟨rfl, rfl, rfl, rfl, rfl, rfl, rfl, trivial⟩
            · refine AWP.skip ?_
              refine inB_normal ?_
              have ej := Option.some.inj hx10
              subst ej
              refine thn_normal ?_
              exact Sub.env ⟨rfl, rfl, rfl, rfl, rfl, rfl, rfl, trivial⟩
          · refine AWP.region ?_
            refine AOps.move rfl rfl ?_
            refine AOps.add rfl rfl rfl (by omega) ?_
            refine AOps.assign rfl rfl ?_
            refine AOps.nil ?_
            have ej := Option.some.inj h
            subst ej
            refine thn_normal ?_
            exact Sub.env ⟨rfl, rfl, rfl, rfl, rfl, rfl, rfl, trivial⟩
        · intro e s hq
          obtain ⟨rfl, hs⟩ := hq
          refine ⟨_, hs, ?_⟩
          refine inB_exit ?_
          refine thn_normal ?_
          refine AWP.seq ?_
          refine AWP.seq ?_
          obtain ⟨a49, ha49, h⟩ := bind_some h
          refine AWP.region ?_
          refine AOps.move rfl rfl ?_
          refine AOps.move rfl rfl ?_
          refine AOps.move rfl rfl ?_
          refine S.idx ha49 rfl rfl rfl rfl ?_
          refine AOps.loadI rfl rfl rfl rfl ?_
          refine S.len rfl rfl (fun hl51 => ?_)
          refine AOps.eql rfl rfl rfl ?_
          refine AOps.nil ?_
          refine thn_normal ?_
          refine AWP.ite rfl h (fun hc12 h => ?_) (fun hc12 h => ?_)
          · refine AWP.exit ?_
            refine thn_exit ?_
            refine inB_exit ?_
            refine thn_normal ⟨_, h, ?_⟩
            exact Sub.env ⟨rfl, rfl, rfl, rfl, rfl, trivial⟩
          · refine AWP.skip ?_
            refine thn_normal ?_
            refine AWP.seq ?_
            obtain ⟨a59, ha59, h⟩ := bind_some h
            obtain ⟨a62, ha62, h⟩ := bind_some h
            obtain ⟨a63, ha63, h⟩ := bind_some h
            refine AWP.sub (s' := ⟨[(1, .c (row 1 eLi64 goals)), (2, .c (row 1 eLi64 plans)), (3, .c (row 1 intI begun)), (4, .c (.ptr 0 0 0)), (10, .c (int p6)), (11, .c (int nv7)), (46, .c (int nv7)), (47, .c (row 1 eLi64 plans)), (48, .c (int p6)), (49, .c (.imm (.ipt [.sl 1 (List.map intI a49)]))), (50, .c (row 1 intI a49)), (51, .c (int (a49.length : Int))), (52, .c (bool (decide (nv7 = (a49.length : Int)))))], [.one (.cells 4 [[int t.facts, row 1 intI t.init, row 1 intI t.goal, row 4 eTOperator t.operators]]), .dead, .dead, .dead, .dead]⟩) (Sub.cut ⟨rfl, rfl, rfl, rfl, rfl, rfl, rfl, rfl, rfl, rfl, rfl, rfl, rfl, trivial⟩ rfl ⟨.one rfl, .dead, .dead, .dead, .dead, trivial⟩ rfl) ?_
            refine AWP.drawTI [.agg [int t.facts, row 1 intI t.init, row 1 intI t.goal, row 4 eTOperator t.operators], .c (row 1 eLi64 goals), .c (row 1 eLi64 plans), .c (.own 1 0 (([] : List Int).length)), .c (row 1 intI begun), .c (.own 2 0 a59.length), .c (int p6), .c (.own 3 0 ([p6].length)), .c (.own 4 0 a62.length), .tup [.c (row 1 intI a63.1), .c (bool a63.2)], .tup [.c (row 1 intI a63.1), .c (bool a63.2)], .c (row 1 intI a63.1), .c (bool a63.2), .c (row 1 intI a63.1), .c (bool a63.2)] [3, 5, 7, 8, 9] [([], [.one (.cells 4 [[int t.facts, row 1 intI t.init, row 1 intI t.goal, row 4 eTOperator t.operators]]), .dead, .dead, .dead, .dead]), ([3], [.one (.cells 4 [[int t.facts, row 1 intI t.init, row 1 intI t.goal, row 4 eTOperator t.operators]]), .one (vec 1 intI ([] : List Int)), .dead, .dead, .dead]), ([3, 5], [.one (.cells 4 [[int t.facts, row 1 intI t.init, row 1 intI t.goal, row 4 eTOperator t.operators]]), .dead, .one (vec 1 intI a59), .dead, .dead]), ([7], [.one (.cells 4 [[int t.facts, row 1 intI t.init, row 1 intI t.goal, row 4 eTOperator t.operators]]), .dead, .dead, .one (vec 1 intI [p6]), .dead]), ([3, 7], [.one (.cells 4 [[int t.facts, row 1 intI t.init, row 1 intI t.goal, row 4 eTOperator t.operators]]), .one (vec 1 intI ([] : List Int)), .dead, .one (vec 1 intI [p6]), .dead]), ([3, 5, 7], [.one (.cells 4 [[int t.facts, row 1 intI t.init, row 1 intI t.goal, row 4 eTOperator t.operators]]), .dead, .one (vec 1 intI a59), .one (vec 1 intI [p6]), .dead]), ([3, 5, 7, 8], [.one (.cells 4 [[int t.facts, row 1 intI t.init, row 1 intI t.goal, row 4 eTOperator t.operators]]), .dead, .dead, .one (vec 1 intI [p6]), .one (vec 1 intI a62)]), ([3, 5, 7, 8, 9], [.one (.cells 4 [[int t.facts, row 1 intI t.init, row 1 intI t.goal, row 4 eTOperator t.operators]]), .dead, .dead, .one (vec 1 intI [p6]), .dead])] [.one (.cells 4 [[int t.facts, row 1 intI t.init, row 1 intI t.goal, row 4 eTOperator t.operators]]), .dead, .dead, .one (vec 1 intI [p6]), .dead] mixed rfl rfl rfl rfl rfl ?_ ?_
            · refine TabOk.cons ?_ ?_
              · apply EntOps.go; exact rfl; exact rfl; exact rfl; intro E hE; (refine W.loadAgg rfl rfl rfl rfl rfl rfl rfl ?_); exact AOps.nil ⟨rfl, rfl⟩
                apply EntOps.go; exact rfl; exact rfl; exact rfl; intro E hE; (refine AOps.move rfl rfl ?_); exact AOps.nil ⟨rfl, rfl⟩
                apply EntOps.go; exact rfl; exact rfl; exact rfl; intro E hE; (refine AOps.move rfl rfl ?_); exact AOps.nil ⟨rfl, rfl⟩
                apply EntOps.eff; exact rfl; exact rfl; exact rfl; exact rfl; intro E hE; (refine AOps.newAt 1 (.c (.own 1 0 (([] : List Int).length))) (vec 1 intI ([] : List Int)) (.inl rfl) rfl hE rfl rfl rfl rfl (.vec) (.vec) rfl rfl rfl ⟨.one rfl, .dead, .dead, .dead, .dead, trivial⟩ (fun hh => by (refine S.lit (f := intI) (l := []) (ess := []) rfl rfl rfl rfl rfl rfl rfl trivial rfl rfl rfl ?_; exact hh)) ?_); exact AOps.nil ⟨rfl, rfl⟩
                apply EntOps.go; exact rfl; exact rfl; exact rfl; intro E hE; (refine AOps.move rfl rfl ?_); exact AOps.nil ⟨rfl, rfl⟩
                refine EntOps.no rfl ?_
                apply EntOps.go; exact rfl; exact rfl; exact rfl; intro E hE; (refine AOps.move rfl rfl ?_); exact AOps.nil ⟨rfl, rfl⟩
                apply EntOps.eff; exact rfl; exact rfl; exact rfl; exact rfl; intro E hE; (refine AOps.newAt 3 (.c (.own 3 0 ([p6].length))) (vec 1 intI [p6]) (.inl rfl) rfl hE rfl rfl rfl rfl (.vec) (.vec) rfl rfl rfl ⟨.one rfl, .dead, .dead, .dead, .dead, trivial⟩ (fun hh => by (refine S.lit (f := intI) (l := [p6]) (ess := [[int p6]]) rfl rfl rfl rfl rfl rfl rfl ⟨⟨.inl rfl, trivial⟩, trivial⟩ rfl rfl rfl ?_; exact hh)) ?_); exact AOps.nil ⟨rfl, rfl⟩
                refine EntOps.no rfl ?_
                refine EntOps.no rfl ?_
                refine EntOps.no rfl ?_
                refine EntOps.no rfl ?_
                refine EntOps.no rfl ?_
                refine EntOps.no rfl ?_
                refine EntOps.no rfl ?_
                exact EntOps.nil
              refine TabOk.cons ?_ ?_
              · apply EntOps.go; exact rfl; exact rfl; exact rfl; intro E hE; (refine W.loadAgg rfl rfl rfl rfl rfl rfl rfl ?_); exact AOps.nil ⟨rfl, rfl⟩
                apply EntOps.go; exact rfl; exact rfl; exact rfl; intro E hE; (refine AOps.move rfl rfl ?_); exact AOps.nil ⟨rfl, rfl⟩
                apply EntOps.go; exact rfl; exact rfl; exact rfl; intro E hE; (refine AOps.move rfl rfl ?_); exact AOps.nil ⟨rfl, rfl⟩
                refine EntOps.no rfl ?_
                apply EntOps.go; exact rfl; exact rfl; exact rfl; intro E hE; (refine AOps.move rfl rfl ?_); exact AOps.nil ⟨rfl, rfl⟩
                apply EntOps.eff; exact rfl; exact rfl; exact rfl; exact rfl; intro E hE; (refine AOps.newAt 2 (.c (.own 2 0 a59.length)) (vec 1 intI a59) (.inr ⟨1, rfl⟩) rfl hE rfl rfl rfl rfl (.vec) (.vec) rfl rfl rfl ⟨.one rfl, .dead, .dead, .dead, .dead, trivial⟩ (fun hh => by (refine S.append (f := intI) ha59 rfl rfl rfl rfl rfl rfl .row rfl rfl rfl rfl ?_; exact hh)) ?_); exact AOps.nil ⟨rfl, rfl⟩
                apply EntOps.go; exact rfl; exact rfl; exact rfl; intro E hE; (refine AOps.move rfl rfl ?_); exact AOps.nil ⟨rfl, rfl⟩
                apply EntOps.eff; exact rfl; exact rfl; exact rfl; exact rfl; intro E hE; (refine AOps.newAt 3 (.c (.own 3 0 ([p6].length))) (vec 1 intI [p6]) (.inl rfl) rfl hE rfl rfl rfl rfl (.vec) (.vec) rfl rfl rfl ⟨.one rfl, .vec, .dead, .dead, .dead, trivial⟩ (fun hh => by (refine S.lit (f := intI) (l := [p6]) (ess := [[int p6]]) rfl rfl rfl rfl rfl rfl rfl ⟨⟨.inl rfl, trivial⟩, trivial⟩ rfl rfl rfl ?_; exact hh)) ?_); exact AOps.nil ⟨rfl, rfl⟩
                refine EntOps.no rfl ?_
                refine EntOps.no rfl ?_
                refine EntOps.no rfl ?_
                refine EntOps.no rfl ?_
                refine EntOps.no rfl ?_
                refine EntOps.no rfl ?_
                refine EntOps.no rfl ?_
                exact EntOps.nil
              refine TabOk.cons ?_ ?_
              · apply EntOps.go; exact rfl; exact rfl; exact rfl; intro E hE; (refine W.loadAgg rfl rfl rfl rfl rfl rfl rfl ?_); exact AOps.nil ⟨rfl, rfl⟩
                apply EntOps.go; exact rfl; exact rfl; exact rfl; intro E hE; (refine AOps.move rfl rfl ?_); exact AOps.nil ⟨rfl, rfl⟩
                apply EntOps.go; exact rfl; exact rfl; exact rfl; intro E hE; (refine AOps.move rfl rfl ?_); exact AOps.nil ⟨rfl, rfl⟩
                refine EntOps.no rfl ?_
                refine EntOps.no rfl ?_
                refine EntOps.no rfl ?_
                apply EntOps.go; exact rfl; exact rfl; exact rfl; intro E hE; (refine AOps.move rfl rfl ?_); exact AOps.nil ⟨rfl, rfl⟩
                apply EntOps.eff; exact rfl; exact rfl; exact rfl; exact rfl; intro E hE; (refine AOps.newAt 3 (.c (.own 3 0 ([p6].length))) (vec 1 intI [p6]) (.inl rfl) rfl hE rfl rfl rfl rfl (.vec) (.vec) rfl rfl rfl ⟨.one rfl, .dead, .vec, .dead, .dead, trivial⟩ (fun hh => by (refine S.lit (f := intI) (l := [p6]) (ess := [[int p6]]) rfl rfl rfl rfl rfl rfl rfl ⟨⟨.inl rfl, trivial⟩, trivial⟩ rfl rfl rfl ?_; exact hh)) ?_); exact AOps.nil ⟨rfl, rfl⟩
                refine EntOps.no rfl ?_
                refine EntOps.no rfl ?_
                refine EntOps.no rfl ?_
                refine EntOps.no rfl ?_
                refine EntOps.no rfl ?_
                refine EntOps.no rfl ?_
                refine EntOps.no rfl ?_
                exact EntOps.nil
              refine TabOk.cons ?_ ?_
              · apply EntOps.go; exact rfl; exact rfl; exact rfl; intro E hE; (refine W.loadAgg rfl rfl rfl rfl rfl rfl rfl ?_); exact AOps.nil ⟨rfl, rfl⟩
                apply EntOps.go; exact rfl; exact rfl; exact rfl; intro E hE; (refine AOps.move rfl rfl ?_); exact AOps.nil ⟨rfl, rfl⟩
                apply EntOps.go; exact rfl; exact rfl; exact rfl; intro E hE; (refine AOps.move rfl rfl ?_); exact AOps.nil ⟨rfl, rfl⟩
                apply EntOps.eff; exact rfl; exact rfl; exact rfl; exact rfl; intro E hE; (refine AOps.newAt 1 (.c (.own 1 0 (([] : List Int).length))) (vec 1 intI ([] : List Int)) (.inl rfl) rfl hE rfl rfl rfl rfl (.vec) (.vec) rfl rfl rfl ⟨.one rfl, .dead, .dead, .vec, .dead, trivial⟩ (fun hh => by (refine S.lit (f := intI) (l := []) (ess := []) rfl rfl rfl rfl rfl rfl rfl trivial rfl rfl rfl ?_; exact hh)) ?_); exact AOps.nil ⟨rfl, rfl⟩
                apply EntOps.go; exact rfl; exact rfl; exact rfl; intro E hE; (refine AOps.move rfl rfl ?_); exact AOps.nil ⟨rfl, rfl⟩
                refine EntOps.no rfl ?_
                refine EntOps.no rfl ?_
                refine EntOps.no rfl ?_
                refine EntOps.no rfl ?_
                refine EntOps.no rfl ?_
                refine EntOps.no rfl ?_
                refine EntOps.no rfl ?_
                refine EntOps.no rfl ?_
                refine EntOps.no rfl ?_
                refine EntOps.no rfl ?_
                exact EntOps.nil
              refine TabOk.cons ?_ ?_
              · apply EntOps.go; exact rfl; exact rfl; exact rfl; intro E hE; (refine W.loadAgg rfl rfl rfl rfl rfl rfl rfl ?_); exact AOps.nil ⟨rfl, rfl⟩
                apply EntOps.go; exact rfl; exact rfl; exact rfl; intro E hE; (refine AOps.move rfl rfl ?_); exact AOps.nil ⟨rfl, rfl⟩
                apply EntOps.go; exact rfl; exact rfl; exact rfl; intro E hE; (refine AOps.move rfl rfl ?_); exact AOps.nil ⟨rfl, rfl⟩
                refine EntOps.no rfl ?_
                apply EntOps.go; exact rfl; exact rfl; exact rfl; intro E hE; (refine AOps.move rfl rfl ?_); exact AOps.nil ⟨rfl, rfl⟩
                apply EntOps.eff; exact rfl; exact rfl; exact rfl; exact rfl; intro E hE; (refine AOps.newAt 2 (.c (.own 2 0 a59.length)) (vec 1 intI a59) (.inr ⟨1, rfl⟩) rfl hE rfl rfl rfl rfl (.vec) (.vec) rfl rfl rfl ⟨.one rfl, .dead, .dead, .vec, .dead, trivial⟩ (fun hh => by (refine S.append (f := intI) ha59 rfl rfl rfl rfl rfl rfl .row rfl rfl rfl rfl ?_; exact hh)) ?_); exact AOps.nil ⟨rfl, rfl⟩
                refine EntOps.no rfl ?_
                refine EntOps.no rfl ?_
                refine EntOps.no rfl ?_
                refine EntOps.no rfl ?_
                refine EntOps.no rfl ?_
                refine EntOps.no rfl ?_
                refine EntOps.no rfl ?_
                refine EntOps.no rfl ?_
                refine EntOps.no rfl ?_
                exact EntOps.nil
              refine TabOk.cons ?_ ?_
              · apply EntOps.go; exact rfl; exact rfl; exact rfl; intro E hE; (refine W.loadAgg rfl rfl rfl rfl rfl rfl rfl ?_); exact AOps.nil ⟨rfl, rfl⟩
                apply EntOps.go; exact rfl; exact rfl; exact rfl; intro E hE; (refine AOps.move rfl rfl ?_); exact AOps.nil ⟨rfl, rfl⟩
                apply EntOps.go; exact rfl; exact rfl; exact rfl; intro E hE; (refine AOps.move rfl rfl ?_); exact AOps.nil ⟨rfl, rfl⟩
                refine EntOps.no rfl ?_
                refine EntOps.no rfl ?_
                refine EntOps.no rfl ?_
                refine EntOps.no rfl ?_
                refine EntOps.no rfl ?_
                apply EntOps.eff; exact rfl; exact rfl; exact rfl; exact rfl; intro E hE; (refine AOps.newAt 4 (.c (.own 4 0 a62.length)) (vec 1 intI a62) (.inr ⟨2, rfl⟩) rfl hE rfl rfl rfl rfl (.vec) (.vec) rfl rfl rfl ⟨.one rfl, .dead, .dead, .vec, .dead, trivial⟩ (fun hh => by (refine S.append (f := intI) ha62 rfl rfl rfl rfl rfl rfl (.own rfl rfl) rfl rfl rfl rfl ?_; exact hh)) ?_); exact AOps.nil ⟨rfl, rfl⟩
                refine EntOps.no rfl ?_
                refine EntOps.no rfl ?_
                refine EntOps.no rfl ?_
                refine EntOps.no rfl ?_
                refine EntOps.no rfl ?_
                refine EntOps.no rfl ?_
                exact EntOps.nil
              refine TabOk.cons ?_ ?_
              · apply EntOps.go; exact rfl; exact rfl; exact rfl; intro E hE; (refine W.loadAgg rfl rfl rfl rfl rfl rfl rfl ?_); exact AOps.nil ⟨rfl, rfl⟩
                apply EntOps.go; exact rfl; exact rfl; exact rfl; intro E hE; (refine AOps.move rfl rfl ?_); exact AOps.nil ⟨rfl, rfl⟩
                apply EntOps.go; exact rfl; exact rfl; exact rfl; intro E hE; (refine AOps.move rfl rfl ?_); exact AOps.nil ⟨rfl, rfl⟩
                refine EntOps.no rfl ?_
                refine EntOps.no rfl ?_
                refine EntOps.no rfl ?_
                refine EntOps.no rfl ?_
                refine EntOps.no rfl ?_
                refine EntOps.no rfl ?_
                apply EntOps.eff; exact rfl; exact rfl; exact rfl; exact rfl; intro E hE; (refine AOps.callF (r2 := .tup [.c (row 1 intI a63.1), .c (bool a63.2)]) (σ'' := [.one (.cells 4 [[int t.facts, row 1 intI t.init, row 1 intI t.goal, row 4 eTOperator t.operators]]), .dead, .dead, .one (vec 1 intI [p6]), .dead]) rfl rfl rfl (FnOk.lend [4] (ref8_Turns_w_ok ha63) rfl rfl rfl rfl rfl rfl (by exact ⟨.vec, trivial⟩) rfl (by exact ⟨(.live rfl .vec), trivial⟩) rfl rfl (by exact ⟨(.old rfl rfl rfl), .dead, .dead, (.old rfl rfl rfl), .dead, trivial⟩)) ?_); exact AOps.nil ⟨rfl, rfl⟩
                refine EntOps.no rfl ?_
                refine EntOps.no rfl ?_
                refine EntOps.no rfl ?_
                refine EntOps.no rfl ?_
                refine EntOps.no rfl ?_
                exact EntOps.nil
              refine TabOk.cons ?_ ?_
              · refine EntOps.no rfl ?_
                refine EntOps.no rfl ?_
                refine EntOps.no rfl ?_
                refine EntOps.no rfl ?_
                refine EntOps.no rfl ?_
                refine EntOps.no rfl ?_
                refine EntOps.no rfl ?_
                refine EntOps.no rfl ?_
                refine EntOps.no rfl ?_
                refine EntOps.no rfl ?_
                apply EntOps.go; exact rfl; exact rfl; exact rfl; intro E hE; (refine AOps.move rfl rfl ?_); exact AOps.nil ⟨rfl, rfl⟩
                apply EntOps.go; exact rfl; exact rfl; exact rfl; intro E hE; (refine AOps.extract rfl rfl rfl ?_); exact AOps.nil ⟨rfl, rfl⟩
                apply EntOps.go; exact rfl; exact rfl; exact rfl; intro E hE; (refine AOps.extract rfl rfl rfl ?_); exact AOps.nil ⟨rfl, rfl⟩
                apply EntOps.go; exact rfl; exact rfl; exact rfl; intro E hE; (refine AOps.assign rfl rfl ?_); exact AOps.nil ⟨rfl, rfl⟩
                apply EntOps.go; exact rfl; exact rfl; exact rfl; intro E hE; (refine AOps.assign rfl rfl ?_); exact AOps.nil ⟨rfl, rfl⟩
                exact EntOps.nil
              exact TabOk.nil
            dsimp only [envEnd]
            refine thn_normal ?_
            refine AWP.seq ?_
            refine AWP.move (env' := [(1, .c (row 1 eLi64 goals)), (2, .c (row 1 eLi64 plans)), (3, .c (row 1 intI begun)), (4, .c (.ptr 0 0 0)), (10, .c (int p6)), (13, .c (row 1 intI a63.1)), (14, .c (bool a63.2))]) (σ' := [.one (.cells 4 [[int t.facts, row 1 intI t.init, row 1 intI t.goal, row 4 eTOperator t.operators]]), .dead, .dead, .one (vec 1 intI [p6]), .dead]) 1 2 rfl rfl rfl ⟨rfl, rfl, rfl, rfl, rfl, rfl, rfl, trivial⟩ rfl ⟨⟨rfl, rfl⟩, trivial, trivial, ⟨Blk.im_ok _ _ _, vec_mv rfl⟩, trivial, trivial⟩ ?_
            refine AWP.move (env' := [(1, .c (row 1 eLi64 goals)), (2, .c (row 1 eLi64 plans)), (3, .c (row 1 intI begun)), (4, .c (.ptr 0 0 0)), (10, .c (int p6)), (13, .c (row 1 intI a63.1)), (14, .c (bool a63.2))]) (σ' := [.one (.cells 4 [[int t.facts, row 1 intI t.init, row 1 intI t.goal, row 4 eTOperator t.operators]]), .dead, .dead, .one (vec 1 intI [p6])]) 2 4 rfl rfl rfl ⟨rfl, rfl, rfl, rfl, rfl, rfl, rfl, trivial⟩ rfl ⟨⟨rfl, rfl⟩, trivial, trivial, ⟨Blk.im_ok _ _ _, vec_mv rfl⟩, trivial⟩ ?_
            refine AWP.region ?_
            refine AOps.move rfl rfl ?_
            refine AOps.nil ?_
            refine thn_normal ?_
            refine AWP.iteB rfl h (fun hc13 h => ?_) (fun hc13 h => ?_)
            · refine AWP.seq ?_
              refine AWP.region ?_
              refine AOps.move rfl rfl ?_
              refine AOps.assign rfl rfl ?_
              refine AOps.assign rfl rfl ?_
              refine AOps.nil ?_
              refine thn_normal ?_
              refine AWP.ret ?_
              refine inB_ret ?_
              refine thn_ret ?_
              have ej := Option.some.inj h
              subst ej
              refine thn_ret ⟨_, rfl, rfl, ?_⟩
              exact Done.ret rfl rfl
            · refine AWP.skip ?_
              refine inB_normal ?_
              refine thn_normal ⟨_, h, ?_⟩
              exact Sub.cut ⟨rfl, rfl, rfl, rfl, rfl, trivial⟩ rfl ⟨.one rfl, trivial⟩ rfl
    · intro e s hq
      rcases oo with u | x
      · try dsimp only at h hq
        obtain ⟨rfl, hs⟩ := hq
        refine ⟨_, hs, ?_⟩
        refine inB_exit ?_
        refine thn_normal ?_
        refine AWP.seq ?_
        refine AWP.region ?_
        refine AOps.assign rfl rfl ?_
        refine AOps.assign rfl rfl ?_
        refine AOps.nil ?_
        refine thn_normal ?_
        refine AWP.nilrow 1 8 rfl ?_
        refine AWP.ret ?_
        have ej := Option.some.inj h
        subst ej
        exact Done.ret rfl rfl
      · try dsimp only at h hq
        obtain ⟨rfl, hs⟩ := hq
        refine ⟨_, Sub.refl _ _, ?_⟩
        refine inB_ret ?_
        refine thn_ret ?_
        have ej := Option.some.inj h
        subst ej
        exact hs
theorem law8_MergingMergeMatchesSpec_ok {t : TTask} {goals : List (List Int)} {plans : List (List Int)} {r : Bool} (h : law8_MergingMergeMatchesSpec t goals plans = some r) : PureOk Tryd.prog 3 [.agg [int t.facts, row 1 intI t.init, row 1 intI t.goal, row 4 eTOperator t.operators], .c (row 1 eLi64 goals), .c (row 1 eLi64 plans)] (.c (bool r)) := by
  unfold PureOk
  refine FnOk.enter (rs := [.t 6]) Tryd.func3 rfl Tryd.ntmps3 Tryd.results3 rfl ⟨trivial, trivial⟩ (by kernel_rfl) rfl ?_
  unfold law8_MergingMergeMatchesSpec at h
  refine AWP.seq ?_
  refine AWP.region ?_
  refine W.box rfl rfl rfl rfl rfl rfl ?_
  refine AOps.assign rfl rfl ?_
  refine AOps.nil ?_
  refine thn_normal ?_
  refine AWP.seq ?_
  obtain ⟨a17, ha17, h⟩ := bind_some h
  refine AWP.region ?_
  refine W.loadAgg rfl rfl rfl rfl rfl rfl rfl ?_
  refine AOps.move rfl rfl ?_
  refine AOps.move rfl rfl ?_
  refine AOps.callR rfl rfl rfl rfl (merging_Merge_ok ha17) rfl ?_
  refine AOps.move rfl rfl ?_
  refine AOps.extract rfl rfl rfl ?_
  refine AOps.extract rfl rfl rfl ?_
  refine AOps.extract rfl rfl rfl ?_
  refine W.alloc rfl rfl rfl rfl ?_
  refine AOps.assign rfl rfl ?_
  refine AOps.assign rfl rfl ?_
  refine W.storeAgg rfl rfl rfl rfl rfl rfl rfl ?_
  refine AOps.nil ?_
  refine thn_normal ?_
  refine AWP.seq ?_
  obtain ⟨a24, ha24, h⟩ := bind_some h
  refine AWP.region ?_
  refine W.loadAgg rfl rfl rfl rfl rfl rfl rfl ?_
  refine AOps.move rfl rfl ?_
  refine AOps.move rfl rfl ?_
  refine AOps.callR rfl rfl rfl rfl (ref8_PartiesFault_ok ha24) rfl ?_
  refine W.alloc rfl rfl rfl rfl ?_
  refine W.storeAgg rfl rfl rfl rfl rfl rfl rfl ?_
  refine AOps.nil ?_
  refine thn_normal ?_
  refine AWP.seq ?_
  refine AWP.seq ?_
  refine AWP.region ?_
  refine W.fieldAddr rfl rfl rfl rfl ?_
  refine AOps.load rfl rfl rfl rfl rfl rfl ?_
  refine AOps.neq rfl rfl rfl ?_
  refine AOps.nil ?_
  refine thn_normal ?_
  refine AWP.iteN rfl h (fun hc4 h => ?_) (fun hc4 h => ?_)
  · obtain ⟨t5, hx6, h⟩ := bind_some h
    refine AWP.seqJ (⟨[(6, .c (bool t5))], []⟩) ?_ ?_
    · rcases Bool.eq_false_or_eq_true ((decide (a17.2.2.code = a24.code)) && (decide (a17.2.2.index = a24.index))) with hb7 | hb7
      · replace hx6 := iteBT hb7 hx6
        rcases Bool.eq_false_or_eq_true (!a17.2.1) with hb8 | hb8
        · replace hx6 := iteBT hb8 hx6
          rcases Bool.eq_false_or_eq_true (decide ((a17.1.length : Int) = 0)) with hb9 | hb9
          · replace hx6 := iteDT hb9 hx6
            obtain ⟨a41, ha41, hx6⟩ := bind_some hx6
            refine AWP.region ?_
            refine W.loadAgg rfl rfl rfl rfl rfl rfl rfl ?_
            refine W.loadAgg rfl rfl rfl rfl rfl rfl rfl ?_
            refine AOps.eqlP rfl rfl rfl rfl rfl rfl rfl ?_
            refine AOps.move rfl rfl ?_
            refine AOps.guardT rfl rfl rfl hb7 ?_; refine AOps.move rfl rfl ?_
            refine AOps.guardT rfl rfl rfl hb7 ?_; refine AOps.not rfl rfl ?_
            refine AOps.pickT rfl hb7 rfl rfl ?_
            refine AOps.move rfl rfl ?_
            refine AOps.guardT rfl rfl rfl hb8 ?_; refine AOps.move rfl rfl ?_
            refine AOps.guardT rfl rfl rfl hb8 ?_; refine S.len rfl rfl (fun hl37 => ?_)
            refine AOps.guardT rfl rfl rfl hb8 ?_; refine AOps.eql rfl rfl rfl ?_
            refine AOps.pickT rfl hb8 rfl rfl ?_
            refine AOps.move rfl rfl ?_
            refine AOps.guardT rfl rfl rfl hb9 ?_; refine AOps.callR rfl rfl rfl rfl (law8_merged_ok ha41) rfl ?_
            refine AOps.pickT rfl hb9 rfl rfl ?_
            refine AOps.assign rfl rfl ?_
            refine AOps.nil ?_
            have ej := Option.some.inj hx6
            subst ej
            refine thn_normal ?_
            exact Sub.cut ⟨rfl, trivial⟩ rfl trivial rfl
          · replace hx6 := iteDF hb9 hx6
            refine AWP.region ?_
            refine W.loadAgg rfl rfl rfl rfl rfl rfl rfl ?_
            refine W.loadAgg rfl rfl rfl rfl rfl rfl rfl ?_
            refine AOps.eqlP rfl rfl rfl rfl rfl rfl rfl ?_
            refine AOps.move rfl rfl ?_
            refine AOps.guardT rfl rfl rfl hb7 ?_; refine AOps.move rfl rfl ?_
            refine AOps.guardT rfl rfl rfl hb7 ?_; refine AOps.not rfl rfl ?_
            refine AOps.pickT rfl hb7 rfl rfl ?_
            refine AOps.move rfl rfl ?_
            refine AOps.guardT rfl rfl rfl hb8 ?_; refine AOps.move rfl rfl ?_
            refine AOps.guardT rfl rfl rfl hb8 ?_; refine S.len rfl rfl (fun hl37 => ?_)
            refine AOps.guardT rfl rfl rfl hb8 ?_; refine AOps.eql rfl rfl rfl ?_
            refine AOps.pickT rfl hb8 rfl rfl ?_
            refine AOps.move rfl rfl ?_
            refine AOps.guardF rfl rfl rfl hb9 ?_
            refine AOps.pickF rfl hb9 rfl rfl ?_
            refine AOps.assign rfl rfl ?_
            refine AOps.nil ?_
            have ej := Option.some.inj hx6
            subst ej
            refine thn_normal ?_
            exact Sub.cut ⟨rfl, trivial⟩ rfl trivial rfl
        · replace hx6 := iteBF hb8 hx6
          refine AWP.region ?_
          refine W.loadAgg rfl rfl rfl rfl rfl rfl rfl ?_
          refine W.loadAgg rfl rfl rfl rfl rfl rfl rfl ?_
          refine AOps.eqlP rfl rfl rfl rfl rfl rfl rfl ?_
          refine AOps.move rfl rfl ?_
          refine AOps.guardT rfl rfl rfl hb7 ?_; refine AOps.move rfl rfl ?_
          refine AOps.guardT rfl rfl rfl hb7 ?_; refine AOps.not rfl rfl ?_
          refine AOps.pickT rfl hb7 rfl rfl ?_
          refine AOps.move rfl rfl ?_
          refine AOps.guardF rfl rfl rfl hb8 ?_
          refine AOps.guardF rfl rfl rfl hb8 ?_
          refine AOps.guardF rfl rfl rfl hb8 ?_
          refine AOps.pickF rfl hb8 rfl rfl ?_
          refine AOps.move rfl rfl ?_
          refine AOps.guardF rfl rfl rfl rfl ?_
          refine AOps.pickF rfl rfl rfl rfl ?_
          refine AOps.assign rfl rfl ?_
          refine AOps.nil ?_
          have ej := Option.some.inj hx6
          subst ej
          refine thn_normal ?_
          exact Sub.cut ⟨rfl, trivial⟩ rfl trivial rfl
      · replace hx6 := iteBF hb7 hx6
        refine AWP.region ?_
        refine W.loadAgg rfl rfl rfl rfl rfl rfl rfl ?_
        refine W.loadAgg rfl rfl rfl rfl rfl rfl rfl ?_
        refine AOps.eqlP rfl rfl rfl rfl rfl rfl rfl ?_
        refine AOps.move rfl rfl ?_
        refine AOps.guardF rfl rfl rfl hb7 ?_
        refine AOps.guardF rfl rfl rfl hb7 ?_
        refine AOps.pickF rfl hb7 rfl rfl ?_
        refine AOps.move rfl rfl ?_
        refine AOps.guardF rfl rfl rfl rfl ?_
        refine AOps.guardF rfl rfl rfl rfl ?_
        refine AOps.guardF rfl rfl rfl rfl ?_
        refine AOps.pickF rfl rfl rfl rfl ?_
        refine AOps.move rfl rfl ?_
        refine AOps.guardF rfl rfl rfl rfl ?_
        refine AOps.pickF rfl rfl rfl rfl ?_
        refine AOps.assign rfl rfl ?_
        refine AOps.nil ?_
        have ej := Option.some.inj hx6
        subst ej
        refine thn_normal ?_
        exact Sub.cut ⟨rfl, trivial⟩ rfl trivial rfl
    · refine AWP.ret ?_
      refine thn_ret ?_
      have ej := Option.some.inj h
      subst ej
      exact Done.ret rfl rfl
  · refine AWP.skip ?_
    refine thn_normal ?_
    refine AWP.seq ?_
    refine AWP.seq ?_
    obtain ⟨a44, ha44, h⟩ := bind_some h
    refine AWP.region ?_
    refine AOps.move rfl rfl ?_
    refine AOps.callR rfl rfl rfl rfl (ref8_Steps_ok ha44) rfl ?_
    refine AOps.gtr rfl rfl rfl ?_
    refine AOps.nil ?_
    refine thn_normal ?_
    refine AWP.ite rfl h (fun hc10 h => ?_) (fun hc10 h => ?_)
    · refine AWP.seq ?_
      obtain ⟨a46, ha46, h⟩ := bind_some h
      refine AWP.region ?_
      refine AOps.callR rfl rfl rfl rfl (law8_merged_ok ha46) rfl ?_
      refine AOps.assign rfl rfl ?_
      refine AOps.nil ?_
      refine thn_normal ?_
      refine AWP.ret ?_
      refine thn_ret ?_
      have ej := Option.some.inj h
      subst ej
      exact Done.ret rfl rfl
    · refine AWP.skip ?_
      refine thn_normal ?_
      refine AWP.seq ?_
      obtain ⟨a51, ha51, h⟩ := bind_some h
      refine AWP.region ?_
      refine W.loadAgg rfl rfl rfl rfl rfl rfl rfl ?_
      refine AOps.move rfl rfl ?_
      refine AOps.move rfl rfl ?_
      refine AOps.callR rfl rfl rfl rfl (PureOk.nil (by exact ⟨⟨(.inl rfl), (.inl rfl), (.inl rfl), (.inl rfl), trivial⟩, (.inl rfl), (.inl rfl), (.inr ⟨rfl, _, rfl⟩), trivial⟩) (ref8_Turns_ok ha51)) rfl ?_
      refine AOps.move rfl rfl ?_
      refine AOps.extract rfl rfl rfl ?_
      refine AOps.extract rfl rfl rfl ?_
      refine AOps.assign rfl rfl ?_
      refine AOps.assign rfl rfl ?_
      refine AOps.nil ?_
      refine thn_normal ?_
      obtain ⟨t11, hx12, h⟩ := bind_some h
      refine AWP.seqJ (⟨[(6, .c (bool t11))], []⟩) ?_ ?_
      · rcases Bool.eq_false_or_eq_true (decide (a17.2.2.code = 0)) with hb13 | hb13
        · replace hx12 := iteDT hb13 hx12
          rcases Bool.eq_false_or_eq_true (decide (a17.2.1 = a51.2)) with hb14 | hb14
          · replace hx12 := iteDT hb14 hx12
            rcases Bool.eq_false_or_eq_true (a17.2.1) with hb15 | hb15
            · replace hx12 := iteBT hb15 hx12
              obtain ⟨a67, ha67, hx12⟩ := bind_some hx12
              rcases Bool.eq_false_or_eq_true (a67) with hb16 | hb16
              · replace hx12 := iteBT hb16 hx12
                obtain ⟨a80, ha80, hx12⟩ := bind_some hx12
                refine AWP.region ?_
                refine W.fieldAddr rfl rfl rfl rfl ?_
                refine AOps.load rfl rfl rfl rfl rfl rfl ?_
                refine AOps.eql rfl rfl rfl ?_
                refine AOps.move rfl rfl ?_
                refine AOps.guardT rfl rfl rfl hb13 ?_; refine AOps.move rfl rfl ?_
                refine AOps.guardT rfl rfl rfl hb13 ?_; refine AOps.move rfl rfl ?_
                refine AOps.guardT rfl rfl rfl hb13 ?_; refine AOps.eqlB rfl rfl rfl ?_
                refine AOps.pickT rfl hb13 rfl rfl ?_
                refine AOps.move rfl rfl ?_
                refine AOps.guardT rfl rfl rfl hb14 ?_; refine AOps.move rfl rfl ?_
                refine AOps.guardT rfl rfl rfl hb14 ?_; refine AOps.move rfl rfl ?_
                refine AOps.guardT rfl rfl rfl hb15 ?_; refine AOps.move rfl rfl ?_
                refine AOps.guardT rfl rfl rfl hb15 ?_; refine AOps.move rfl rfl ?_
                refine AOps.guardT rfl rfl rfl hb15 ?_; refine AOps.callR rfl rfl rfl rfl (equal_Numbers_ok ha67) rfl ?_
                refine AOps.guardT rfl rfl rfl hb14 ?_; refine AOps.pickT rfl hb15 rfl rfl ?_
                refine AOps.guardT rfl rfl rfl hb14 ?_; refine AOps.move rfl rfl ?_
                refine AOps.guardF rfl rfl rfl hb16 ?_
                refine AOps.guardF rfl rfl rfl hb16 ?_
                refine AOps.guardF rfl rfl rfl hb16 ?_
                refine AOps.guardSkip rfl rfl rfl ?_
                refine AOps.guardSkip rfl rfl rfl ?_
                refine AOps.guardSkip rfl rfl rfl ?_
                refine AOps.guardF rfl rfl rfl hb16 ?_
                refine AOps.guardT rfl rfl rfl hb14 ?_; refine AOps.pickT rfl hb16 rfl rfl ?_
                refine AOps.pickT rfl hb14 rfl rfl ?_
                refine AOps.move rfl rfl ?_
                refine AOps.guardT rfl rfl rfl rfl ?_; refine AOps.callR rfl rfl rfl rfl (law8_merged_ok ha80) rfl ?_
                refine AOps.pickT rfl rfl rfl rfl ?_
                refine AOps.assign rfl rfl ?_
                refine AOps.nil ?_
                have ej := Option.some.inj hx12
                subst ej
                refine thn_normal ?_
                exact Sub.cut ⟨rfl, trivial⟩ rfl trivial rfl
              · replace hx12 := iteBF hb16 hx12
                rcases Bool.eq_false_or_eq_true (!a17.2.1) with hb17 | hb17
                · replace hx12 := iteBT hb17 hx12
                  rcases Bool.eq_false_or_eq_true (decide ((a17.1.length : Int) = 0)) with hb18 | hb18
                  · replace hx12 := iteDT hb18 hx12
                    obtain ⟨a80, ha80, hx12⟩ := bind_some hx12
                    refine AWP.region ?_
                    refine W.fieldAddr rfl rfl rfl rfl ?_
                    refine AOps.load rfl rfl rfl rfl rfl rfl ?_
                    refine AOps.eql rfl rfl rfl ?_
                    refine AOps.move rfl rfl ?_
                    refine AOps.guardT rfl rfl rfl hb13 ?_; refine AOps.move rfl rfl ?_
                    refine AOps.guardT rfl rfl rfl hb13 ?_; refine AOps.move rfl rfl ?_
                    refine AOps.guardT rfl rfl rfl hb13 ?_; refine AOps.eqlB rfl rfl rfl ?_
                    refine AOps.pickT rfl hb13 rfl rfl ?_
                    refine AOps.move rfl rfl ?_
                    refine AOps.guardT rfl rfl rfl hb14 ?_; refine AOps.move rfl rfl ?_
                    refine AOps.guardT rfl rfl rfl hb14 ?_; refine AOps.move rfl rfl ?_
                    refine AOps.guardT rfl rfl rfl hb15 ?_; refine AOps.move rfl rfl ?_
                    refine AOps.guardT rfl rfl rfl hb15 ?_; refine AOps.move rfl rfl ?_
                    refine AOps.guardT rfl rfl rfl hb15 ?_; refine AOps.callR rfl rfl rfl rfl (equal_Numbers_ok ha67) rfl ?_
                    refine AOps.guardT rfl rfl rfl hb14 ?_; refine AOps.pickT rfl hb15 rfl rfl ?_
                    refine AOps.guardT rfl rfl rfl hb14 ?_; refine AOps.move rfl rfl ?_
                    refine AOps.guardT rfl rfl rfl hb16 ?_; refine AOps.move rfl rfl ?_
                    refine AOps.guardT rfl rfl rfl hb16 ?_; refine AOps.not rfl rfl ?_
                    refine AOps.guardT rfl rfl rfl hb16 ?_; refine AOps.move rfl rfl ?_
                    refine AOps.guardT rfl rfl rfl hb17 ?_; refine AOps.move rfl rfl ?_
                    refine AOps.guardT rfl rfl rfl hb17 ?_; refine S.len rfl rfl (fun hl74 => ?_)
                    refine AOps.guardT rfl rfl rfl hb17 ?_; refine AOps.eql rfl rfl rfl ?_
                    refine AOps.guardT rfl rfl rfl hb16 ?_; refine AOps.pickT rfl hb17 rfl rfl ?_
                    refine AOps.guardT rfl rfl rfl hb14 ?_; refine AOps.pickF rfl hb16 rfl rfl ?_
                    refine AOps.pickT rfl hb14 rfl rfl ?_
                    refine AOps.move rfl rfl ?_
                    refine AOps.guardT rfl rfl rfl hb18 ?_; refine AOps.callR rfl rfl rfl rfl (law8_merged_ok ha80) rfl ?_
                    refine AOps.pickT rfl hb18 rfl rfl ?_
                    refine AOps.assign rfl rfl ?_
                    refine AOps.nil ?_
                    have ej := Option.some.inj hx12
                    subst ej
                    refine thn_normal ?_
                    exact Sub.cut ⟨rfl, trivial⟩ rfl trivial rfl
                  · replace hx12 := iteDF hb18 hx12
                    refine AWP.region ?_
                    refine W.fieldAddr rfl rfl rfl rfl ?_
                    refine AOps.load rfl rfl rfl rfl rfl rfl ?_
                    refine AOps.eql rfl rfl rfl ?_
                    refine AOps.move rfl rfl ?_
                    refine AOps.guardT rfl rfl rfl hb13 ?_; refine AOps.move rfl rfl ?_
                    refine AOps.guardT rfl rfl rfl hb13 ?_; refine AOps.move rfl rfl ?_
                    refine AOps.guardT rfl rfl rfl hb13 ?_; refine AOps.eqlB rfl rfl rfl ?_
                    refine AOps.pickT rfl hb13 rfl rfl ?_
                    refine AOps.move rfl rfl ?_
                    refine AOps.guardT rfl rfl rfl hb14 ?_; refine AOps.move rfl rfl ?_
                    refine AOps.guardT rfl rfl rfl hb14 ?_; refine AOps.move rfl rfl ?_
                    refine AOps.guardT rfl rfl rfl hb15 ?_; refine AOps.move rfl rfl ?_
                    refine AOps.guardT rfl rfl rfl hb15 ?_; refine AOps.move rfl rfl ?_
                    refine AOps.guardT rfl rfl rfl hb15 ?_; refine AOps.callR rfl rfl rfl rfl (equal_Numbers_ok ha67) rfl ?_
                    refine AOps.guardT rfl rfl rfl hb14 ?_; refine AOps.pickT rfl hb15 rfl rfl ?_
                    refine AOps.guardT rfl rfl rfl hb14 ?_; refine AOps.move rfl rfl ?_
                    refine AOps.guardT rfl rfl rfl hb16 ?_; refine AOps.move rfl rfl ?_
                    refine AOps.guardT rfl rfl rfl hb16 ?_; refine AOps.not rfl rfl ?_
                    refine AOps.guardT rfl rfl rfl hb16 ?_; refine AOps.move rfl rfl ?_
                    refine AOps.guardT rfl rfl rfl hb17 ?_; refine AOps.move rfl rfl ?_
                    refine AOps.guardT rfl rfl rfl hb17 ?_; refine S.len rfl rfl (fun hl74 => ?_)
                    refine AOps.guardT rfl rfl rfl hb17 ?_; refine AOps.eql rfl rfl rfl ?_
                    refine AOps.guardT rfl rfl rfl hb16 ?_; refine AOps.pickT rfl hb17 rfl rfl ?_
                    refine AOps.guardT rfl rfl rfl hb14 ?_; refine AOps.pickF rfl hb16 rfl rfl ?_
                    refine AOps.pickT rfl hb14 rfl rfl ?_
                    refine AOps.move rfl rfl ?_
                    refine AOps.guardF rfl rfl rfl hb18 ?_
                    refine AOps.pickF rfl hb18 rfl rfl ?_
                    refine AOps.assign rfl rfl ?_
                    refine AOps.nil ?_
                    have ej := Option.some.inj hx12
                    subst ej
                    refine thn_normal ?_
                    exact Sub.cut ⟨rfl, trivial⟩ rfl trivial rfl
                · replace hx12 := iteBF hb17 hx12
                  refine AWP.region ?_
                  refine W.fieldAddr rfl rfl rfl rfl ?_
                  refine AOps.load rfl rfl rfl rfl rfl rfl ?_
                  refine AOps.eql rfl rfl rfl ?_
                  refine AOps.move rfl rfl ?_
                  refine AOps.guardT rfl rfl rfl hb13 ?_; refine AOps.move rfl rfl ?_
                  refine AOps.guardT rfl rfl rfl hb13 ?_; refine AOps.move rfl rfl ?_
                  refine AOps.guardT rfl rfl rfl hb13 ?_; refine AOps.eqlB rfl rfl rfl ?_
                  refine AOps.pickT rfl hb13 rfl rfl ?_
                  refine AOps.move rfl rfl ?_
                  refine AOps.guardT rfl rfl rfl hb14 ?_; refine AOps.move rfl rfl ?_
                  refine AOps.guardT rfl rfl rfl hb14 ?_; refine AOps.move rfl rfl ?_
                  refine AOps.guardT rfl rfl rfl hb15 ?_; refine AOps.move rfl rfl ?_
                  refine AOps.guardT rfl rfl rfl hb15 ?_; refine AOps.move rfl rfl ?_
                  refine AOps.guardT rfl rfl rfl hb15 ?_; refine AOps.callR rfl rfl rfl rfl (equal_Numbers_ok ha67) rfl ?_
                  refine AOps.guardT rfl rfl rfl hb14 ?_; refine AOps.pickT rfl hb15 rfl rfl ?_
                  refine AOps.guardT rfl rfl rfl hb14 ?_; refine AOps.move rfl rfl ?_
                  refine AOps.guardT rfl rfl rfl hb16 ?_; refine AOps.move rfl rfl ?_
                  refine AOps.guardT rfl rfl rfl hb16 ?_; refine AOps.not rfl rfl ?_
                  refine AOps.guardT rfl rfl rfl hb16 ?_; refine AOps.move rfl rfl ?_
                  refine AOps.guardF rfl rfl rfl hb17 ?_
                  refine AOps.guardF rfl rfl rfl hb17 ?_
                  refine AOps.guardF rfl rfl rfl hb17 ?_
                  refine AOps.guardT rfl rfl rfl hb16 ?_; refine AOps.pickF rfl hb17 rfl rfl ?_
                  refine AOps.guardT rfl rfl rfl hb14 ?_; refine AOps.pickF rfl hb16 rfl rfl ?_
                  refine AOps.pickT rfl hb14 rfl rfl ?_
                  refine AOps.move rfl rfl ?_
                  refine AOps.guardF rfl rfl rfl rfl ?_
                  refine AOps.pickF rfl rfl rfl rfl ?_
                  refine AOps.assign rfl rfl ?_
                  refine AOps.nil ?_
                  have ej := Option.some.inj hx12
                  subst ej
                  refine thn_normal ?_
                  exact Sub.cut ⟨rfl, trivial⟩ rfl trivial rfl
            · replace hx12 := iteBF hb15 hx12
              rcases Bool.eq_false_or_eq_true (!a17.2.1) with hb19 | hb19
              · replace hx12 := iteBT hb19 hx12
                rcases Bool.eq_false_or_eq_true (decide ((a17.1.length : Int) = 0)) with hb20 | hb20
                · replace hx12 := iteDT hb20 hx12
                  obtain ⟨a80, ha80, hx12⟩ := bind_some hx12
                  refine AWP.region ?_
                  refine W.fieldAddr rfl rfl rfl rfl ?_
                  refine AOps.load rfl rfl rfl rfl rfl rfl ?_
                  refine AOps.eql rfl rfl rfl ?_
                  refine AOps.move rfl rfl ?_
                  refine AOps.guardT rfl rfl rfl hb13 ?_; refine AOps.move rfl rfl ?_
                  refine AOps.guardT rfl rfl rfl hb13 ?_; refine AOps.move rfl rfl ?_
                  refine AOps.guardT rfl rfl rfl hb13 ?_; refine AOps.eqlB rfl rfl rfl ?_
                  refine AOps.pickT rfl hb13 rfl rfl ?_
                  refine AOps.move rfl rfl ?_
                  refine AOps.guardT rfl rfl rfl hb14 ?_; refine AOps.move rfl rfl ?_
                  refine AOps.guardT rfl rfl rfl hb14 ?_; refine AOps.move rfl rfl ?_
                  refine AOps.guardF rfl rfl rfl hb15 ?_
                  refine AOps.guardF rfl rfl rfl hb15 ?_
                  refine AOps.guardF rfl rfl rfl hb15 ?_
                  refine AOps.guardT rfl rfl rfl hb14 ?_; refine AOps.pickF rfl hb15 rfl rfl ?_
                  refine AOps.guardT rfl rfl rfl hb14 ?_; refine AOps.move rfl rfl ?_
                  refine AOps.guardT rfl rfl rfl rfl ?_; refine AOps.move rfl rfl ?_
                  refine AOps.guardT rfl rfl rfl rfl ?_; refine AOps.not rfl rfl ?_
                  refine AOps.guardT rfl rfl rfl rfl ?_; refine AOps.move rfl rfl ?_
                  refine AOps.guardT rfl rfl rfl hb19 ?_; refine AOps.move rfl rfl ?_
                  refine AOps.guardT rfl rfl rfl hb19 ?_; refine S.len rfl rfl (fun hl74 => ?_)
                  refine AOps.guardT rfl rfl rfl hb19 ?_; refine AOps.eql rfl rfl rfl ?_
                  refine AOps.guardT rfl rfl rfl rfl ?_; refine AOps.pickT rfl hb19 rfl rfl ?_
                  refine AOps.guardT rfl rfl rfl hb14 ?_; refine AOps.pickF rfl rfl rfl rfl ?_
                  refine AOps.pickT rfl hb14 rfl rfl ?_
                  refine AOps.move rfl rfl ?_
                  refine AOps.guardT rfl rfl rfl hb20 ?_; refine AOps.callR rfl rfl rfl rfl (law8_merged_ok ha80) rfl ?_
                  refine AOps.pickT rfl hb20 rfl rfl ?_
                  refine AOps.assign rfl rfl ?_
                  refine AOps.nil ?_
                  have ej := Option.some.inj hx12
                  subst ej
                  refine thn_normal ?_
                  exact Sub.cut ⟨rfl, trivial⟩ rfl trivial rfl
                · replace hx12 := iteDF hb20 hx12
                  refine AWP.region ?_
                  refine W.fieldAddr rfl rfl rfl rfl ?_
                  refine AOps.load rfl rfl rfl rfl rfl rfl ?_
                  refine AOps.eql rfl rfl rfl ?_
                  refine AOps.move rfl rfl ?_
                  refine AOps.guardT rfl rfl rfl hb13 ?_; refine AOps.move rfl rfl ?_
                  refine AOps.guardT rfl rfl rfl hb13 ?_; refine AOps.move rfl rfl ?_
                  refine AOps.guardT rfl rfl rfl hb13 ?_; refine AOps.eqlB rfl rfl rfl ?_
                  refine AOps.pickT rfl hb13 rfl rfl ?_
                  refine AOps.move rfl rfl ?_
                  refine AOps.guardT rfl rfl rfl hb14 ?_; refine AOps.move rfl rfl ?_
                  refine AOps.guardT rfl rfl rfl hb14 ?_; refine AOps.move rfl rfl ?_
                  refine AOps.guardF rfl rfl rfl hb15 ?_
                  refine AOps.guardF rfl rfl rfl hb15 ?_
                  refine AOps.guardF rfl rfl rfl hb15 ?_
                  refine AOps.guardT rfl rfl rfl hb14 ?_; refine AOps.pickF rfl hb15 rfl rfl ?_
                  refine AOps.guardT rfl rfl rfl hb14 ?_; refine AOps.move rfl rfl ?_
                  refine AOps.guardT rfl rfl rfl rfl ?_; refine AOps.move rfl rfl ?_
                  refine AOps.guardT rfl rfl rfl rfl ?_; refine AOps.not rfl rfl ?_
                  refine AOps.guardT rfl rfl rfl rfl ?_; refine AOps.move rfl rfl ?_
                  refine AOps.guardT rfl rfl rfl hb19 ?_; refine AOps.move rfl rfl ?_
                  refine AOps.guardT rfl rfl rfl hb19 ?_; refine S.len rfl rfl (fun hl74 => ?_)
                  refine AOps.guardT rfl rfl rfl hb19 ?_; refine AOps.eql rfl rfl rfl ?_
                  refine AOps.guardT rfl rfl rfl rfl ?_; refine AOps.pickT rfl hb19 rfl rfl ?_
                  refine AOps.guardT rfl rfl rfl hb14 ?_; refine AOps.pickF rfl rfl rfl rfl ?_
                  refine AOps.pickT rfl hb14 rfl rfl ?_
                  refine AOps.move rfl rfl ?_
                  refine AOps.guardF rfl rfl rfl hb20 ?_
                  refine AOps.pickF rfl hb20 rfl rfl ?_
                  refine AOps.assign rfl rfl ?_
                  refine AOps.nil ?_
                  have ej := Option.some.inj hx12
                  subst ej
                  refine thn_normal ?_
                  exact Sub.cut ⟨rfl, trivial⟩ rfl trivial rfl
              · replace hx12 := iteBF hb19 hx12
                refine AWP.region ?_
                refine W.fieldAddr rfl rfl rfl rfl ?_
                refine AOps.load rfl rfl rfl rfl rfl rfl ?_
                refine AOps.eql rfl rfl rfl ?_
                refine AOps.move rfl rfl ?_
                refine AOps.guardT rfl rfl rfl hb13 ?_; refine AOps.move rfl rfl ?_
                refine AOps.guardT rfl rfl rfl hb13 ?_; refine AOps.move rfl rfl ?_
                refine AOps.guardT rfl rfl rfl hb13 ?_; refine AOps.eqlB rfl rfl rfl ?_
                refine AOps.pickT rfl hb13 rfl rfl ?_
                refine AOps.move rfl rfl ?_
                refine AOps.guardT rfl rfl rfl hb14 ?_; refine AOps.move rfl rfl ?_
                refine AOps.guardT rfl rfl rfl hb14 ?_; refine AOps.move rfl rfl ?_
                refine AOps.guardF rfl rfl rfl hb15 ?_
                refine AOps.guardF rfl rfl rfl hb15 ?_
                refine AOps.guardF rfl rfl rfl hb15 ?_
                refine AOps.guardT rfl rfl rfl hb14 ?_; refine AOps.pickF rfl hb15 rfl rfl ?_
                refine AOps.guardT rfl rfl rfl hb14 ?_; refine AOps.move rfl rfl ?_
                refine AOps.guardT rfl rfl rfl rfl ?_; refine AOps.move rfl rfl ?_
                refine AOps.guardT rfl rfl rfl rfl ?_; refine AOps.not rfl rfl ?_
                refine AOps.guardT rfl rfl rfl rfl ?_; refine AOps.move rfl rfl ?_
                refine AOps.guardF rfl rfl rfl hb19 ?_
                refine AOps.guardF rfl rfl rfl hb19 ?_
                refine AOps.guardF rfl rfl rfl hb19 ?_
                refine AOps.guardT rfl rfl rfl rfl ?_; refine AOps.pickF rfl hb19 rfl rfl ?_
                refine AOps.guardT rfl rfl rfl hb14 ?_; refine AOps.pickF rfl rfl rfl rfl ?_
                refine AOps.pickT rfl hb14 rfl rfl ?_
                refine AOps.move rfl rfl ?_
                refine AOps.guardF rfl rfl rfl rfl ?_
                refine AOps.pickF rfl rfl rfl rfl ?_
                refine AOps.assign rfl rfl ?_
                refine AOps.nil ?_
                have ej := Option.some.inj hx12
                subst ej
                refine thn_normal ?_
                exact Sub.cut ⟨rfl, trivial⟩ rfl trivial rfl
          · replace hx12 := iteDF hb14 hx12
            refine AWP.region ?_
            refine W.fieldAddr rfl rfl rfl rfl ?_
            refine AOps.load rfl rfl rfl rfl rfl rfl ?_
            refine AOps.eql rfl rfl rfl ?_
            refine AOps.move rfl rfl ?_
            refine AOps.guardT rfl rfl rfl hb13 ?_; refine AOps.move rfl rfl ?_
            refine AOps.guardT rfl rfl rfl hb13 ?_; refine AOps.move rfl rfl ?_
            refine AOps.guardT rfl rfl rfl hb13 ?_; refine AOps.eqlB rfl rfl rfl ?_
            refine AOps.pickT rfl hb13 rfl rfl ?_
            refine AOps.move rfl rfl ?_
            refine AOps.guardF rfl rfl rfl hb14 ?_
            refine AOps.guardF rfl rfl rfl hb14 ?_
            refine AOps.guardSkip rfl rfl rfl ?_
            refine AOps.guardSkip rfl rfl rfl ?_
            refine AOps.guardSkip rfl rfl rfl ?_
            refine AOps.guardF rfl rfl rfl hb14 ?_
            refine AOps.guardF rfl rfl rfl hb14 ?_
            refine AOps.guardSkip rfl rfl rfl ?_
            refine AOps.guardSkip rfl rfl rfl ?_
            refine AOps.guardSkip rfl rfl rfl ?_
            refine AOps.guardSkip rfl rfl rfl ?_
            refine AOps.guardSkip rfl rfl rfl ?_
            refine AOps.guardSkip rfl rfl rfl ?_
            refine AOps.guardSkip rfl rfl rfl ?_
            refine AOps.guardF rfl rfl rfl hb14 ?_
            refine AOps.pickF rfl hb14 rfl rfl ?_
            refine AOps.move rfl rfl ?_
            refine AOps.guardF rfl rfl rfl rfl ?_
            refine AOps.pickF rfl rfl rfl rfl ?_
            refine AOps.assign rfl rfl ?_
            refine AOps.nil ?_
            have ej := Option.some.inj hx12
            subst ej
            refine thn_normal ?_
            exact Sub.cut ⟨rfl, trivial⟩ rfl trivial rfl
        · replace hx12 := iteDF hb13 hx12
          refine AWP.region ?_
          refine W.fieldAddr rfl rfl rfl rfl ?_
          refine AOps.load rfl rfl rfl rfl rfl rfl ?_
          refine AOps.eql rfl rfl rfl ?_
          refine AOps.move rfl rfl ?_
          refine AOps.guardF rfl rfl rfl hb13 ?_
          refine AOps.guardF rfl rfl rfl hb13 ?_
          refine AOps.guardF rfl rfl rfl hb13 ?_
          refine AOps.pickF rfl hb13 rfl rfl ?_
          refine AOps.move rfl rfl ?_
          refine AOps.guardF rfl rfl rfl rfl ?_
          refine AOps.guardF rfl rfl rfl rfl ?_
          refine AOps.guardSkip rfl rfl rfl ?_
          refine AOps.guardSkip rfl rfl rfl ?_
          refine AOps.guardSkip rfl rfl rfl ?_
          refine AOps.guardF rfl rfl rfl rfl ?_
          refine AOps.guardF rfl rfl rfl rfl ?_
          refine AOps.guardSkip rfl rfl rfl ?_
          refine AOps.guardSkip rfl rfl rfl ?_
          refine AOps.guardSkip rfl rfl rfl ?_
          refine AOps.guardSkip rfl rfl rfl ?_
          refine AOps.guardSkip rfl rfl rfl ?_
          refine AOps.guardSkip rfl rfl rfl ?_
          refine AOps.guardSkip rfl rfl rfl ?_
          refine AOps.guardF rfl rfl rfl rfl ?_
          refine AOps.pickF rfl rfl rfl rfl ?_
          refine AOps.move rfl rfl ?_
          refine AOps.guardF rfl rfl rfl rfl ?_
          refine AOps.pickF rfl rfl rfl rfl ?_
          refine AOps.assign rfl rfl ?_
          refine AOps.nil ?_
          have ej := Option.some.inj hx12
          subst ej
          refine thn_normal ?_
          exact Sub.cut ⟨rfl, trivial⟩ rfl trivial rfl
      · refine AWP.ret ?_
        have ej := Option.some.inj h
        subst ej
        exact Done.ret rfl rfl
end Ab
end
section
namespace Ab
open Go Go.Proofs
set_option maxHeartbeats 4000000
set_option linter.all false
attribute [local irreducible] AWP AOps thn inB Done PureOk FreshOk Sub
end Ab
end
section
namespace Ab
open Go
theorem ix_nat {α : Type} {l : List α} {k : Nat} : ix l (k : Int) = l[k]? := by simp [ix]
theorem ix_of {α : Type} {l : List α} {i : Int} (h0 : 0 ≤ i) (h1 : i < l.length) : ∃ a, ix l i = some a ∧ l[i.toNat]? = some a := by
  have h : i.toNat < l.length := by omega
  exact ⟨l[i.toNat], by simp [ix, h0, h], by simp [h]⟩
theorem ix_lo {α : Type} {l : List α} {i : Int} {a : α} (h : ix l i = some a) : 0 ≤ i ∧ i < l.length ∧ l[i.toNat]? = some a := by
  unfold ix at h
  split at h
  · have := (List.getElem?_eq_some_iff.1 h).1
    exact ⟨by assumption, by omega, h⟩
  · cases h
theorem w64_of {n : Int} (h1 : -9223372036854775808 ≤ n) (h2 : n ≤ 9223372036854775807) : w64 n = n := w64_eq ⟨h1, h2⟩
theorem forN_inv {S : Type} {body : Int → S → Option S} (P : Int → S → Prop) : ∀ (k : Nat) (i : Int) (s : S), P i s →
    (∀ j s, i ≤ j → j < i + k → P j s → ∃ s', body j s = some s' ∧ P (j + 1) s') → ∃ s', forN body k i s = some s' ∧ P (i + k) s'
  | 0, i, s, h, _ => ⟨s, rfl, by simpa using h⟩
  | k + 1, i, s, h, hb => by
    obtain ⟨s1, h1, h2⟩ := hb i s (Int.le_refl _) (by omega) h
    obtain ⟨s2, h3, h4⟩ := forN_inv P k (i + 1) s1 h2 (fun j s g1 g2 => hb j s (by omega) (by omega))
    exact ⟨s2, by simp only [forN, h1]; exact h3, by rw [show i + ((k + 1 : Nat) : Int) = i + 1 + k by omega]; exact h4⟩
/-- A loop over numbers, from what it keeps. -/
theorem forR_inv {S : Type} {body : Int → S → Option S} {n : Int} (P : Int → S → Prop) {s : S} (hn : 0 ≤ n) (h0 : P 0 s)
    (hb : ∀ j s, 0 ≤ j → j < n → P j s → ∃ s', body j s = some s' ∧ P (j + 1) s') : ∃ s', forR 0 n body s = some s' ∧ P n s' := by
  obtain ⟨s', h1, h2⟩ := forN_inv P (n - 0).toNat 0 s h0 (fun j s g1 g2 => hb j s g1 (by omega))
  exact ⟨s', h1, by rwa [show (0 : Int) + ((n - 0).toNat : Int) = n by omega] at h2⟩
theorem rngN_inv {S O : Type} {body : Int → S → Option (S ⊕ O)} (P : Int → S → Prop) (Q : O → Prop) : ∀ (k : Nat) (i : Int) (s : S), P i s →
    (∀ j s, i ≤ j → j < i + k → P j s → (∃ s', body j s = some (.inl s') ∧ P (j + 1) s') ∨ ∃ o, body j s = some (.inr o) ∧ Q o) →
    (∃ s', rngN body k i s = some (.inl s') ∧ P (i + k) s') ∨ ∃ o, rngN body k i s = some (.inr o) ∧ Q o
  | 0, i, s, h, _ => .inl ⟨s, rfl, by simpa using h⟩
  | k + 1, i, s, h, hb => by
    rcases hb i s (Int.le_refl _) (by omega) h with ⟨s1, h1, h2⟩ | ⟨o, h1, h2⟩
    · rcases rngN_inv P Q k (i + 1) s1 h2 (fun j s g1 g2 => hb j s (by omega) (by omega)) with ⟨s2, h3, h4⟩ | ⟨o, h3, h4⟩
      · exact .inl ⟨s2, by simp only [rngN, h1]; exact h3, by rw [show i + ((k + 1 : Nat) : Int) = i + 1 + k by omega]; exact h4⟩
      · exact .inr ⟨o, by simp only [rngN, h1]; exact h3, h4⟩
    · exact .inr ⟨o, by simp only [rngN, h1], h2⟩
/-- A loop over numbers with ways out, from what it keeps. -/
theorem rngX_inv {S O : Type} {body : Int → S → Option (S ⊕ O)} {n : Int} (P : Int → S → Prop) (Q : O → Prop) {s : S} (hn : 0 ≤ n) (h0 : P 0 s)
    (hb : ∀ j s, 0 ≤ j → j < n → P j s → (∃ s', body j s = some (.inl s') ∧ P (j + 1) s') ∨ ∃ o, body j s = some (.inr o) ∧ Q o) :
    (∃ s', rngX 0 n body s = some (.inl s') ∧ P n s') ∨ ∃ o, rngX 0 n body s = some (.inr o) ∧ Q o := by
  rcases rngN_inv P Q (n - 0).toNat 0 s h0 (fun j s g1 g2 => hb j s g1 (by omega)) with ⟨s', h1, h2⟩ | h
  · exact .inl ⟨s', h1, by rwa [show (0 : Int) + ((n - 0).toNat : Int) = n by omega] at h2⟩
  · exact .inr h
theorem LoopN_inv {S O : Type} {body : S → Option (S ⊕ O)} (P : S → Prop) (Q : O → Prop) (μ : S → Nat) (hb : ∀ s, P s → (∃ s', body s = some (.inl s') ∧ P s' ∧ μ s' < μ s) ∨ ∃ o, body s = some (.inr o) ∧ Q o) :
    ∀ (k : Nat) (s : S), μ s < k → P s → ∃ o, LoopN body k s = some o ∧ Q o
  | 0, s, h, _ => by omega
  | k + 1, s, h, hs => by
    rcases hb s hs with ⟨s', h1, h2, h3⟩ | ⟨o, h1, h2⟩
    · obtain ⟨o, g1, g2⟩ := LoopN_inv P Q μ hb k s' (by omega) h2
      exact ⟨o, by simp only [LoopN, h1]; exact g1, g2⟩
    · exact ⟨o, by simp only [LoopN, h1], h2⟩
/-- A loop, from what it keeps and a measure that sinks. -/
theorem Loop_inv {S O : Type} {body : S → Option (S ⊕ O)} (P : S → Prop) (Q : O → Prop) (μ : S → Nat) {s : S} (hs : P s)
    (hb : ∀ s, P s → (∃ s', body s = some (.inl s') ∧ P s' ∧ μ s' < μ s) ∨ ∃ o, body s = some (.inr o) ∧ Q o) : ∃ o, Loop body s = some o ∧ Q o := by
  obtain ⟨o, h1, h2⟩ := LoopN_inv P Q μ hb (μ s + 1) s (by omega) hs
  exact ⟨o, Loop_iff.2 ⟨_, h1⟩, h2⟩
/-! ### Two loops that do the same -/
theorem rngN_eq {S O : Type} {b1 b2 : Int → S → Option (S ⊕ O)} (P : Int → S → Prop) : ∀ (k : Nat) (i : Int) (s : S), P i s →
    (∀ j s, i ≤ j → j < i + k → P j s → b1 j s = b2 j s ∧ b1 j s ≠ none ∧ ∀ s', b1 j s = some (.inl s') → P (j + 1) s') →
    rngN b1 k i s = rngN b2 k i s ∧ rngN b1 k i s ≠ none ∧ ∀ s', rngN b1 k i s = some (.inl s') → P (i + k) s'
  | 0, i, s, h, _ => ⟨rfl, by simp [rngN], fun s' hs => by simp only [rngN, Option.some.injEq, Sum.inl.injEq] at hs; subst hs; simpa using h⟩
  | k + 1, i, s, h, hb => by
    obtain ⟨h1, h2, h3⟩ := hb i s (Int.le_refl _) (by omega) h
    simp only [rngN]
    rw [← h1]
    cases hc : b1 i s with
    | none => exact absurd hc h2
    | some x =>
      cases x with
      | inr o => exact ⟨rfl, by simp, fun s' hs => by simp at hs⟩
      | inl s1 =>
        dsimp only
        have := rngN_eq (b1 := b1) (b2 := b2) P k (i + 1) s1 (h3 s1 hc) (fun j s g1 g2 => hb j s (by omega) (by omega))
        rwa [show i + 1 + (k : Int) = i + ((k + 1 : Nat) : Int) by omega] at this
theorem rngX_eq {S O : Type} {b1 b2 : Int → S → Option (S ⊕ O)} {n : Int} (P : Int → S → Prop) {s : S} (hn : 0 ≤ n) (h0 : P 0 s)
    (hb : ∀ j s, 0 ≤ j → j < n → P j s → b1 j s = b2 j s ∧ b1 j s ≠ none ∧ ∀ s', b1 j s = some (.inl s') → P (j + 1) s') :
    rngX 0 n b1 s = rngX 0 n b2 s ∧ rngX 0 n b1 s ≠ none ∧ ∀ s', rngX 0 n b1 s = some (.inl s') → P n s' := by
  have := rngN_eq P (n - 0).toNat 0 s h0 (fun j s g1 g2 => hb j s g1 (by omega))
  rwa [show (0 : Int) + ((n - 0).toNat : Int) = n by omega] at this
end Ab
end
section
namespace Ab
open Go
/-- A proposition as' a truth value. -/
noncomputable def dec (p : Prop) : Bool := @decide p (Classical.propDecidable p)
@[simp] theorem dec_true {p : Prop} : dec p = true ↔ p := by simp [dec]
@[simp] theorem dec_false {p : Prop} : dec p = false ↔ ¬ p := by simp [dec]
@[simp] theorem dec_not {p : Prop} : (!dec p) = dec (¬ p) := by by_cases h : p <;> simp [dec, h]
theorem decide_dec {p : Prop} [Decidable p] : decide p = dec p := by by_cases h : p <;> simp [dec, h]
theorem dec_of {p : Prop} (h : p) : dec p = true := dec_true.2 h
theorem dec_no {p : Prop} (h : ¬ p) : dec p = false := dec_false.2 h
theorem dec_congr {p q : Prop} (h : p ↔ q) : dec p = dec q := by rw [propext h]
theorem dec_and {p q : Prop} : (dec p && dec q) = dec (p ∧ q) := by by_cases h : p <;> by_cases g : q <;> simp [dec, h, g]
theorem ifP {α : Type} {p : Prop} {a b : α} (h : p) : (if dec p = true then a else b) = a := if_pos (dec_of h)
theorem ifN {α : Type} {p : Prop} {a b : α} (h : ¬ p) : (if dec p = true then a else b) = b := if_neg fun g => h (dec_true.1 g)
theorem ifNN {α : Type} {p : Prop} {a b : α} (h : p) : (if dec (¬ p) = true then a else b) = b := ifN (not_not_intro h)
theorem ix_mem {α : Type} {l : List α} {i : Int} {a : α} (h : ix l i = some a) : a ∈ l := List.mem_of_getElem? (ix_lo h).2.2
theorem mem_ix {α : Type} {l : List α} {a : α} (h : a ∈ l) : ∃ i : Int, 0 ≤ i ∧ i < l.length ∧ ix l i = some a := by
  obtain ⟨k, hk⟩ := List.getElem?_of_mem h
  exact ⟨k, by omega, by have := (List.getElem?_eq_some_iff.1 hk).1; omega, by rw [ix_nat, hk]⟩
theorem ix_put {α : Type} {l : List α} {i j : Int} {x : α} (h0 : 0 ≤ i) (h1 : i < l.length) (hj : 0 ≤ j) : ix (l.set i.toNat x) j = if j = i then some x else ix l j := by
  simp only [ix, hj, if_true, List.getElem?_set]
  by_cases h : j = i
  · subst h; rw [if_pos rfl, if_pos rfl, if_pos (by omega)]
  · rw [if_neg h, if_neg (by omega)]
/-- A loop that tests: the first number that fails ends it. -/
theorem rngX_test {O : Type} {body : Int → Unit → Option (Unit ⊕ O)} {n : Int} (g : Int → Option O) (hn : 0 ≤ n)
    (hb : ∀ j, 0 ≤ j → j < n → (∀ i, 0 ≤ i → i < j → g i = none) → body j () = some (match g j with | none => .inl () | some o => .inr o)) :
    (rngX 0 n body () = some (.inl ()) ∧ ∀ j, 0 ≤ j → j < n → g j = none) ∨ ∃ j o, 0 ≤ j ∧ j < n ∧ g j = some o ∧ (∀ i, 0 ≤ i → i < j → g i = none) ∧ rngX 0 n body () = some (.inr o) := by
  rcases rngX_inv (body := body) (n := n) (fun j _ => ∀ i, 0 ≤ i → i < j → g i = none) (fun o => ∃ j, 0 ≤ j ∧ j < n ∧ g j = some o ∧ ∀ i, 0 ≤ i → i < j → g i = none) (s := ()) hn (fun i h1 h2 => by omega) (fun j s h0 h1 hP => by
    have := hb j h0 h1 hP
    cases hg : g j with
    | none => rw [hg] at this; exact .inl ⟨(), this, fun i h2 h3 => by
        rcases Int.lt_or_eq_of_le (Int.le_of_lt_add_one h3) with h | h
        · exact hP i h2 h
        · rw [h, hg]⟩
    | some o => rw [hg] at this; exact .inr ⟨o, this, j, h0, h1, hg, hP⟩) with ⟨s', h1, h2⟩ | ⟨o, h1, j, h2, h3, h4, h5⟩
  · exact .inl ⟨h1, h2⟩
  · exact .inr ⟨j, o, h2, h3, h4, h5, h1⟩
/-- A loop over a list that tests its elements. -/
theorem rng_list {α O : Type} {l : List α} {body : Int → Unit → Option (Unit ⊕ O)} (q : α → Prop) (b : O)
    (hb : ∀ j a, ix l j = some a → (q a ∧ body j () = some (.inl ())) ∨ (¬ q a ∧ body j () = some (.inr b))) :
    rngX 0 (l.length : Int) body () = some (if dec (∀ a ∈ l, q a) = true then .inl () else .inr b) := by
  rcases rngX_test (body := body) (n := (l.length : Int)) (fun j => match ix l j with | some a => if dec (q a) = true then none else some b | none => none) (by omega) (fun j h0 h1 _ => by
    obtain ⟨a, h2, _⟩ := ix_of h0 h1
    rw [h2]
    rcases hb j a h2 with ⟨h3, h4⟩ | ⟨h3, h4⟩
    · rw [h4]; simp [h3]
    · rw [h4]; simp [h3]) with ⟨h1, h2⟩ | ⟨j, o, h0, h1, h2, _, h4⟩
  · rw [h1, if_pos]
    rw [dec_true]
    intro a ha
    obtain ⟨i, g1, g2, g3⟩ := mem_ix ha
    have := h2 i g1 g2
    rw [g3] at this
    simpa using this
  · rw [h4]
    obtain ⟨a, g1, _⟩ := ix_of h0 h1
    rw [g1] at h2
    simp only [dec_true] at h2
    split at h2
    · cases h2
    · rename_i hq
      cases h2
      rw [if_neg]
      rw [dec_true]
      exact fun h => hq (dec_of (h a (ix_mem g1)))
/-- Rising lists. -/
abbrev Inc (l : List Int) : Prop := l.Pairwise (· < ·)
theorem inc_of_adj : ∀ {l : List Int}, (∀ (k : Nat) a b, l[k]? = some a → l[k + 1]? = some b → a < b) → Inc l
  | [], _ => .nil
  | [_], _ => by simp
  | a :: b :: l, h => by
    have ih : Inc (b :: l) := inc_of_adj fun k x y h1 h2 => h (k + 1) x y (by simpa using h1) (by simpa using h2)
    have hab : a < b := h 0 a b rfl rfl
    refine List.pairwise_cons.2 ⟨fun c hc => ?_, ih⟩
    rcases List.mem_cons.1 hc with rfl | hc
    · exact hab
    · exact Int.lt_trans hab ((List.pairwise_cons.1 ih).1 c hc)
theorem Inc.get {l : List Int} (h : Inc l) {i j : Nat} {a b : Int} (hi : l[i]? = some a) (hj : l[j]? = some b) (hij : i < j) : a < b := by
  obtain ⟨h1, rfl⟩ := List.getElem?_eq_some_iff.1 hi
  obtain ⟨h2, rfl⟩ := List.getElem?_eq_some_iff.1 hj
  exact List.pairwise_iff_getElem.1 h i j h1 h2 hij
theorem Inc.ext : ∀ {l m : List Int}, Inc l → Inc m → (∀ x, x ∈ l ↔ x ∈ m) → l = m
  | [], [], _, _, _ => rfl
  | [], b :: m, _, _, h => absurd ((h b).2 (by simp)) (by simp)
  | a :: l, [], _, _, h => absurd ((h a).1 (by simp)) (by simp)
  | a :: l, b :: m, hl, hm, h => by
    obtain ⟨l1, l2⟩ := List.pairwise_cons.1 hl
    obtain ⟨m1, m2⟩ := List.pairwise_cons.1 hm
    have hab : a = b := by
      rcases List.mem_cons.1 ((h a).1 (by simp)) with e | e
      · exact e
      · rcases List.mem_cons.1 ((h b).2 (by simp)) with e' | e'
        · exact e'.symm
        · have := l1 b e'; have := m1 a e; omega
    subst hab
    rw [Inc.ext l2 m2 fun x => ⟨fun hx => ?_, fun hx => ?_⟩]
    · rcases List.mem_cons.1 ((h x).1 (by simp [hx])) with e | e
      · have := l1 x hx; omega
      · exact e
    · rcases List.mem_cons.1 ((h x).2 (by simp [hx])) with e | e
      · have := m1 x hx; omega
      · exact e
theorem Inc.filter {l : List Int} (h : Inc l) (p : Int → Bool) : Inc (l.filter p) := List.Pairwise.filter p h
/-- Numbers from lo on. -/
def nums (lo : Int) : Nat → List Int
  | 0 => []
  | k + 1 => lo :: nums (lo + 1) k
theorem mem_nums {x : Int} : ∀ {k : Nat} {lo : Int}, x ∈ nums lo k ↔ lo ≤ x ∧ x < lo + k
  | 0, lo => by simp [nums]
  | k + 1, lo => by
    rw [nums, List.mem_cons, mem_nums (k := k)]
    omega
theorem inc_nums : ∀ (k : Nat) (lo : Int), Inc (nums lo k)
  | 0, _ => .nil
  | k + 1, lo => List.pairwise_cons.2 ⟨fun x hx => by have := mem_nums.1 hx; omega, inc_nums k (lo + 1)⟩
theorem len_nums : ∀ (k : Nat) (lo : Int), (nums lo k).length = k
  | 0, _ => rfl
  | k + 1, lo => by simp [nums, len_nums k]
/-- The set of the numbers below n of which p holds. -/
noncomputable def setOf (p : Int → Prop) (n : Int) : List Int := (nums 0 n.toNat).filter fun x => dec (p x)
theorem mem_setOf {p : Int → Prop} {n x : Int} : x ∈ setOf p n ↔ 0 ≤ x ∧ x < n ∧ p x := by
  rw [setOf, List.mem_filter, mem_nums, dec_true]
  constructor
  · rintro ⟨⟨h1, h2⟩, h3⟩; exact ⟨h1, by omega, h3⟩
  · rintro ⟨h1, h2, h3⟩; exact ⟨⟨h1, by omega⟩, h3⟩
theorem inc_setOf (p : Int → Prop) (n : Int) : Inc (setOf p n) := (inc_nums _ _).filter _
theorem setOf_congr {p q : Int → Prop} {n : Int} (h : ∀ x, 0 ≤ x → x < n → (p x ↔ q x)) : setOf p n = setOf q n := by
  refine List.filter_congr fun x hx => dec_congr ?_
  have := mem_nums.1 hx
  exact h x (by omega) (by omega)
/-- A rising list of numbers below n. -/
def SetN (l : List Int) (n : Int) : Prop := Inc l ∧ ∀ x ∈ l, 0 ≤ x ∧ x < n
theorem setN_setOf (p : Int → Prop) (n : Int) : SetN (setOf p n) n := ⟨inc_setOf p n, fun x hx => by have := mem_setOf.1 hx; exact ⟨this.1, this.2.1⟩⟩
theorem SetN.eq {l : List Int} {n : Int} (h : SetN l n) : l = setOf (· ∈ l) n :=
  h.1.ext (inc_setOf _ _) fun x => ⟨fun hx => mem_setOf.2 ⟨(h.2 x hx).1, (h.2 x hx).2, hx⟩, fun hx => (mem_setOf.1 hx).2.2⟩
theorem SetN.eq_of {l : List Int} {n : Int} (h : SetN l n) {p : Int → Prop} (hp : ∀ x, 0 ≤ x → x < n → (x ∈ l ↔ p x)) : l = setOf p n :=
  h.eq.trans (setOf_congr hp)
theorem SetN.len {l : List Int} {n : Int} (h : SetN l n) : l.length ≤ n.toNat := by
  rw [h.eq, setOf]
  exact Nat.le_trans (List.length_filter_le _ _) (Nat.le_of_eq (len_nums _ _))
theorem setN_nil (n : Int) : SetN [] n := ⟨.nil, by simp⟩
/-- A list of the elements that pass, made by appending. -/
theorem forR_filter {α : Type} {l : List α} {b : Nat} {body : Int → List α → Option (List α)} (q : α → Prop)
    (hb : ∀ j a c, ix l j = some a → (q a → body j c = app b c [a]) ∧ (¬ q a → body j c = some c)) (c0 : List α) (hl : (c0.length + l.length) * b ≤ 140737488355328) :
    forR 0 (l.length : Int) body c0 = some (c0 ++ l.filter fun a => dec (q a)) := by
  obtain ⟨s', h1, h2⟩ := forR_inv (body := body) (n := (l.length : Int)) (s := c0) (fun j c => c = c0 ++ (l.take j.toNat).filter fun a => dec (q a)) (by omega) (by simp) (fun j c h0 h1 hP => by
    obtain ⟨a, g1, g2⟩ := ix_of h0 h1
    have e : (j + 1).toNat = j.toNat + 1 := by omega
    have ht : l.take (j + 1).toNat = l.take j.toNat ++ [a] := by rw [e, List.take_add_one, g2]; rfl
    by_cases hq : q a
    · have happ : app b c [a] = some (c ++ [a]) := by
        rw [app, if_pos]
        have h3 : ((l.take j.toNat).filter fun a => dec (q a)).length ≤ (l.take j.toNat).length := List.length_filter_le _ _
        rw [List.length_take] at h3
        have h5 : c.length + 1 ≤ c0.length + l.length := by rw [hP, List.length_append]; omega
        refine Nat.le_trans (Nat.mul_le_mul_right b ?_) hl
        simpa using h5
      refine ⟨c ++ [a], by rw [(hb j a c g1).1 hq, happ], ?_⟩
      rw [ht, List.filter_append, hP]
      simp [hq]
    · refine ⟨c, (hb j a c g1).2 hq, ?_⟩
      rw [ht, List.filter_append, hP]
      simp [hq])
  rw [h1, h2]
  simp
/-- The same over numbers. -/
theorem forR_setOf {b : Nat} {n : Int} {body : Int → List Int → Option (List Int)} (q : Int → Prop) (hn : 0 ≤ n) (hl : n.toNat * b ≤ 140737488355328)
    (hb : ∀ j c, 0 ≤ j → j < n → (q j → body j c = app b c [j]) ∧ (¬ q j → body j c = some c)) : forR 0 n body [] = some (setOf q n) := by
  obtain ⟨s', h1, h2⟩ := forR_inv (body := body) (n := n) (s := []) (fun j c => c = setOf q j) hn (by simp [setOf, nums]) (fun j c h0 h1 hP => by
    have hs : setOf q (j + 1) = setOf q j ++ if dec (q j) = true then [j] else [] := by
      refine (inc_setOf q (j + 1)).ext ?_ fun x => ?_
      · refine List.pairwise_append.2 ⟨inc_setOf _ _, by split <;> simp, fun a ha b hb => ?_⟩
        have := mem_setOf.1 ha
        split at hb
        · simp at hb; omega
        · cases hb
      · rw [List.mem_append, mem_setOf, mem_setOf]
        by_cases hq : q j
        · rw [if_pos (dec_of hq)]
          simp only [List.mem_singleton]
          refine ⟨fun h => ?_, fun h => ?_⟩
          · by_cases e : x = j
            · exact .inr e
            · exact .inl ⟨h.1, by omega, h.2.2⟩
          · rcases h with h | rfl
            · exact ⟨h.1, by omega, h.2.2⟩
            · exact ⟨h0, by omega, hq⟩
        · rw [if_neg (by simpa using hq)]
          simp only [List.not_mem_nil, or_false]
          refine ⟨fun h => ⟨h.1, ?_, h.2.2⟩, fun h => ⟨h.1, by omega, h.2.2⟩⟩
          rcases Int.lt_or_eq_of_le (Int.le_of_lt_add_one h.2.1) with e | e
          · exact e
          · rw [e] at h; exact absurd h.2.2 hq
    by_cases hq : q j
    · refine ⟨c ++ [j], ?_, by rw [hs, hP, if_pos (dec_of hq)]⟩
      rw [(hb j c h0 h1).1 hq, app, if_pos]
      have h3 : c.length ≤ j.toNat := by rw [hP]; exact (setN_setOf q j).len
      refine Nat.le_trans (Nat.mul_le_mul_right b ?_) hl
      simp; omega
    · refine ⟨c, (hb j c h0 h1).2 hq, ?_⟩
      rw [hs, hP, if_neg (by simpa using hq), List.append_nil])
  rw [h1, h2]
end Ab
end
section
namespace Ab
open Go
theorem has_eq (l : List Int) (n : Int) : ref1_Has l n = some (dec (n ∈ l)) := by
  unfold ref1_Has
  rw [rng_list (l := l) (fun a => a ≠ n) true (fun j a h => by
    unfold ref1_Has_l1
    rw [h]
    by_cases e : a = n <;> simp [e])]
  by_cases h : n ∈ l
  · rw [if_neg (by simp only [dec_true]; exact fun g => g n h rfl)]
    simp [h]
  · rw [if_pos (by simp only [dec_true]; exact fun a ha e => h (e ▸ ha))]
    simp [h]
theorem subset_eq (part l : List Int) : ref1_Subset part l = some (dec (∀ x ∈ part, x ∈ l)) := by
  unfold ref1_Subset
  rw [rng_list (l := part) (fun a => a ∈ l) false (fun j a h => by
    unfold ref1_Subset_l1
    rw [h]
    by_cases e : a ∈ l <;> simp [e, has_eq])]
  by_cases h : ∀ x ∈ part, x ∈ l
  · rw [if_pos (dec_of h), dec_of h]; rfl
  · rw [if_neg (by rw [dec_no h]; simp), dec_no h]; rfl
theorem disjoint_eq (a b : List Int) : ref1_Disjoint a b = some (dec (∀ x ∈ a, x ∉ b)) := by
  unfold ref1_Disjoint
  rw [rng_list (l := a) (fun x => x ∉ b) false (fun j x h => by
    unfold ref1_Disjoint_l1
    rw [h]
    by_cases e : x ∈ b <;> simp [e, has_eq])]
  by_cases h : ∀ x ∈ a, x ∉ b
  · rw [if_pos (dec_of h), dec_of h]; rfl
  · rw [if_neg (by rw [dec_no h]; simp), dec_no h]; rfl
theorem in_eq (n lo hi : Int) : ref1_In n lo hi = some (dec (lo ≤ n ∧ n ≤ hi)) := by
  unfold ref1_In; rw [decide_dec, decide_dec, dec_and]
theorem at_eq (c i : Int) : ref1_At c i = some ⟨c, i⟩ := rfl
/-- What a test of a rising list asks at a place. -/
def stepOk (l : List Int) (n j : Int) : Prop := ∀ a, ix l j = some a → (0 ≤ a ∧ a < n) ∧ ∀ b, 0 < j → ix l (j - 1) = some b → b < a
theorem stepOk_iff {l : List Int} {n : Int} : (∀ j : Int, 0 ≤ j → j < l.length → stepOk l n j) ↔ SetN l n := by
  constructor
  · intro h
    refine ⟨inc_of_adj fun k a b h1 h2 => ?_, fun x hx => ?_⟩
    · have hk := (List.getElem?_eq_some_iff.1 h2).1
      have := (h ((k + 1 : Nat) : Int) (by omega) (by omega) b (by rw [ix_nat]; exact h2)).2 a (by omega)
      rw [show ((k + 1 : Nat) : Int) - 1 = (k : Nat) by omega] at this
      exact this (by rw [ix_nat]; exact h1)
    · obtain ⟨i, h1, h2, h3⟩ := mem_ix hx
      exact (h i h1 h2 x h3).1
  · intro h j h0 h1 a ha
    refine ⟨h.2 a (ix_mem ha), fun b hj hb => ?_⟩
    obtain ⟨_, _, ga⟩ := ix_lo ha
    obtain ⟨_, _, gb⟩ := ix_lo hb
    exact h.1.get gb ga (by omega)
theorem isSet_eq (l : List Int) (n : Int) : strips_IsSet l n = some (dec (SetN l n)) := by
  unfold strips_IsSet
  rcases rngX_test (body := strips_IsSet_l1 l n) (n := (l.length : Int)) (fun j => if dec (stepOk l n j) = true then none else some false) (by omega) (fun j h0 h1 _ => by
    obtain ⟨a, ha, _⟩ := ix_of (l := l) h0 h1
    unfold strips_IsSet_l1
    rw [ha]
    simp only [Option.bind_some]
    by_cases c1 : a < 0
    · rw [if_pos c1, if_neg]
      · rfl
      · rw [dec_true]; intro h; have := (h a ha).1; omega
    · rw [if_neg c1]
      by_cases c2 : n ≤ a
      · rw [if_pos c2, if_neg]
        · rfl
        · rw [dec_true]; intro h; have := (h a ha).1; omega
      · rw [if_neg c2]
        by_cases c3 : 0 < j
        · obtain ⟨b, hb, _⟩ := ix_of (l := l) (i := j - 1) (by omega) (by omega)
          rw [if_pos c3, hb]
          simp only [Option.bind_some]
          by_cases c4 : a ≤ b
          · rw [if_pos (by simpa using c4), if_neg]
            rw [dec_true]; intro h; have := (h a ha).2 b c3 hb; omega
          · rw [if_neg (by simpa using c4), if_pos]
            rw [dec_true]; intro x hx
            rw [ha] at hx; cases hx
            exact ⟨by omega, fun y _ hy => by rw [hb] at hy; cases hy; omega⟩
        · rw [if_neg c3]
          simp only [Option.bind_some]
          rw [if_neg (by simp), if_pos]
          rw [dec_true]; intro x hx
          rw [ha] at hx; cases hx
          exact ⟨by omega, fun y hy => absurd hy c3⟩) with ⟨h1, h2⟩ | ⟨j, o, h0, h1, h2, _, h4⟩
  · rw [h1, dec_of]
    · rfl
    · exact stepOk_iff.1 fun j g1 g2 => by have := h2 j g1 g2; simpa using this
  · rw [h4]
    split at h2
    · cases h2
    · rename_i hs
      cases h2
      rw [dec_no]
      · rfl
      · exact fun h => hs (dec_of (stepOk_iff.2 h j h0 h1))
theorem rIsSet_eq (l : List Int) {n : Int} (hn : -9223372036854775808 < n) (hn' : n ≤ 9223372036854775807) : ref1_IsSet l n = some (dec (SetN l n)) := by
  unfold ref1_IsSet
  rcases rngX_test (body := ref1_IsSet_l1 l n) (n := (l.length : Int)) (fun j => if dec (stepOk l n j) = true then none else some false) (by omega) (fun j h0 h1 _ => by
    obtain ⟨a, ha, _⟩ := ix_of (l := l) h0 h1
    unfold ref1_IsSet_l1
    rw [ha]
    simp only [Option.bind_some, in_eq, w64_of (n := n - 1) (by omega) (by omega), dec_not]
    by_cases c1 : 0 ≤ a ∧ a ≤ n - 1
    · rw [if_neg (by simpa using c1)]
      by_cases c3 : 0 < j
      · obtain ⟨b, hb, _⟩ := ix_of (l := l) (i := j - 1) (by omega) (by omega)
        rw [if_pos c3, hb]
        simp only [Option.bind_some]
        by_cases c4 : a ≤ b
        · rw [if_pos (by simpa using c4), if_neg]
          rw [dec_true]; intro h; have := (h a ha).2 b c3 hb; omega
        · rw [if_neg (by simpa using c4), if_pos]
          rw [dec_true]; intro x hx
          rw [ha] at hx; cases hx
          exact ⟨by omega, fun y _ hy => by rw [hb] at hy; cases hy; omega⟩
      · rw [if_neg c3]
        simp only [Option.bind_some]
        rw [if_neg (by simp), if_pos]
        rw [dec_true]; intro x hx
        rw [ha] at hx; cases hx
        exact ⟨by omega, fun y hy => absurd hy c3⟩
    · rw [if_pos (by simpa using c1), if_neg]
      · rfl
      · rw [dec_true]; intro h; have := (h a ha).1; omega) with ⟨h1, h2⟩ | ⟨j, o, h0, h1, h2, _, h4⟩
  · rw [h1, dec_of]
    · rfl
    · exact stepOk_iff.1 fun j g1 g2 => by have := h2 j g1 g2; simpa using this
  · rw [h4]
    split at h2
    · cases h2
    · rename_i hs
      cases h2
      rw [dec_no]
      · rfl
      · exact fun h => hs (dec_of (stepOk_iff.2 h j h0 h1))
theorem containsLoop {s : List Int} (hs : Inc s) (hl : s.length ≤ 1000000) (x : Int) {i : Int} (h0 : 0 ≤ i) (h1 : i ≤ s.length) (hlt : ∀ k a, 0 ≤ k → k < i → ix s k = some a → a < x) :
    ∃ i', Loop (strips_Contains_l2 s x) i = some i' ∧ i ≤ i' ∧ i' ≤ s.length ∧ (∀ k a, 0 ≤ k → k < i' → ix s k = some a → a < x) ∧ (∀ a, ix s i' = some a → x ≤ a) := by
  obtain ⟨o, h2, h3⟩ := Loop_inv (body := strips_Contains_l2 s x) (fun j => i ≤ j ∧ j ≤ s.length ∧ ∀ k a, 0 ≤ k → k < j → ix s k = some a → a < x) (fun i' => i ≤ i' ∧ i' ≤ s.length ∧ (∀ k a, 0 ≤ k → k < i' → ix s k = some a → a < x) ∧ (∀ a, ix s i' = some a → x ≤ a)) (fun j => (s.length - j).toNat) (s := i) ⟨Int.le_refl _, h1, hlt⟩ (fun j ⟨g1, g2, g3⟩ => by
    unfold strips_Contains_l2
    by_cases c : j < s.length
    · obtain ⟨a, ha, _⟩ := ix_of (l := s) (i := j) (by omega) c
      rw [if_pos c, ha]
      simp only [Option.bind_some, decide_eq_true_eq]
      by_cases c2 : a < x
      · rw [if_pos c2]
        rw [w64_of (by omega) (by omega)]
        refine .inl ⟨j + 1, rfl, ⟨by omega, by omega, fun k b k0 k1 hb => ?_⟩, by omega⟩
        by_cases e : k = j
        · subst e; rw [ha] at hb; cases hb; exact c2
        · exact g3 k b k0 (by omega) hb
      · rw [if_neg c2]
        exact .inr ⟨j, rfl, g1, g2, g3, fun b hb => by rw [ha] at hb; cases hb; omega⟩
    · rw [if_neg c]
      exact .inr ⟨j, rfl, g1, g2, g3, fun b hb => by have := (ix_lo hb).2.1; omega⟩)
  exact ⟨o, h2, h3⟩
theorem contains_eq {s part : List Int} (hs : Inc s) (hp : Inc part) (hl : s.length ≤ 1000000) : strips_Contains s part = some (dec (∀ x ∈ part, x ∈ s)) := by
  unfold strips_Contains
  rcases rngX_inv (body := strips_Contains_l1 s part) (n := (part.length : Int)) (fun j i => (0 ≤ i ∧ i ≤ s.length ∧ ∀ k a, 0 ≤ k → k < i → ix s k = some a → ∀ m x, j ≤ m → ix part m = some x → a < x) ∧ ∀ m x, 0 ≤ m → m < j → ix part m = some x → x ∈ s) (fun o => o = false ∧ ¬ ∀ x ∈ part, x ∈ s) (s := 0) (by omega) ⟨⟨by omega, by omega, fun k a h1 h2 => by omega⟩, fun m x h1 h2 => by omega⟩ (fun j i h0 h1 ⟨⟨g1, g2, g3⟩, g4⟩ => by
    obtain ⟨x, hx, gx⟩ := ix_of (l := part) h0 h1
    unfold strips_Contains_l1
    obtain ⟨i', e1, e2, e3, e4, e5⟩ := containsLoop hs hl x g1 g2 (fun k a k0 k1 ha => g3 k a k0 k1 ha j x (Int.le_refl _) hx)
    rw [hx]
    simp only [Option.bind_some, e1]
    have nin : (∀ a, ix s i' = some a → x < a) → x ∉ s := fun hgt hin => by
      obtain ⟨k, k0, k1, hk⟩ := mem_ix hin
      rcases Int.lt_trichotomy k i' with c | c | c
      · have := e4 k x k0 c hk; omega
      · subst c; have := hgt x hk; omega
      · obtain ⟨b, hb, gb⟩ := ix_of (l := s) (i := i') (by omega) (by omega)
        obtain ⟨_, _, gk⟩ := ix_lo hk
        have := hs.get gb gk (by omega)
        have := e5 b hb
        omega
    by_cases c : i' = s.length
    · rw [if_pos c]
      refine .inr ⟨false, rfl, rfl, fun h => ?_⟩
      exact nin (fun a ha => by have := (ix_lo ha).2.1; omega) (h x (ix_mem hx))
    · rw [if_neg c]
      obtain ⟨b, hb, gb⟩ := ix_of (l := s) (i := i') (by omega) (by omega)
      rw [hb]
      simp only [Option.bind_some]
      have hxb := e5 b hb
      by_cases c2 : b = x
      · subst c2
        rw [if_neg (by simp)]
        refine .inl ⟨i', rfl, ⟨by omega, e3, fun k a k0 k1 ha m y hm hy => ?_⟩, fun m y m0 m1 hy => ?_⟩
        · obtain ⟨_, _, gy⟩ := ix_lo hy
          have := hp.get gx gy (by omega)
          have := e4 k a k0 k1 ha
          omega
        · by_cases e : m = j
          · subst e; rw [hx] at hy; cases hy; exact ix_mem hb
          · exact g4 m y m0 (by omega) hy
      · rw [if_pos (by simpa using c2)]
        refine .inr ⟨false, rfl, rfl, fun h => ?_⟩
        exact nin (fun a ha => by rw [hb] at ha; cases ha; omega) (h x (ix_mem hx))) with ⟨s', h1, _, h2⟩ | ⟨o, h1, rfl, h2⟩
  · rw [h1, dec_of]
    · rfl
    · intro x hx
      obtain ⟨m, m0, m1, hm⟩ := mem_ix hx
      exact h2 m x m0 m1 hm
  · rw [h1, dec_no h2]; rfl
end Ab
end
section
namespace Ab
open Go
theorem half_eq {i j : Int} (h0 : 0 ≤ i) (h1 : i ≤ j) (h2 : j ≤ 1000000) : w64 (shrW .u64 ((IntKind.u64).wrap (w64 (i + j))) 1) = (i + j) / 2 := by
  rw [w64_of (n := i + j) (by omega) (by omega), IntKind.wrap_u64, Int.emod_eq_of_lt (by omega) (by omega)]
  have : shrW .u64 (i + j) 1 = (i + j) / 2 := by
    simp only [shrW, IntKind.bits]
    rw [show min (1 : Int).toNat 64 = 1 by rfl, Int.fdiv_eq_ediv_of_nonneg _ (by decide)]
    rfl
  rw [this]
  exact w64_of (by omega) (by omega)
theorem less_eq (a b : Int) : cmp_Less_int a b = some (decide (a < b)) := by simp [cmp_Less_int, cmp_isNaN_int]
theorem bsearch_eq {xs : List Int} (hs : Inc xs) (hl : xs.length ≤ 500000) (t : Int) : ∃ i, slices_BinarySearch_int_int xs t = some (i, dec (t ∈ xs)) ∧ 0 ≤ i ∧ i ≤ xs.length ∧ (∀ k a, 0 ≤ k → k < i → ix xs k = some a → a < t) ∧ (∀ k a, i ≤ k → ix xs k = some a → t ≤ a) := by
  unfold slices_BinarySearch_int_int
  obtain ⟨i, h1, h2, h3, h4, h5⟩ := Loop_inv (body := slices_BinarySearch_int_int_l1 xs t) (fun p => (0 ≤ p.1 ∧ p.1 ≤ p.2 ∧ p.2 ≤ xs.length) ∧ (∀ k a, 0 ≤ k → k < p.1 → ix xs k = some a → a < t) ∧ (∀ k a, p.2 ≤ k → ix xs k = some a → t ≤ a))
    (fun i => 0 ≤ i ∧ i ≤ xs.length ∧ (∀ k a, 0 ≤ k → k < i → ix xs k = some a → a < t) ∧ (∀ k a, i ≤ k → ix xs k = some a → t ≤ a)) (fun p => (p.2 - p.1).toNat) (s := (0, (xs.length : Int)))
    ⟨⟨by simp, by simp, by simp⟩, fun k a h1 h2 => by simp at h2; omega, fun k a h1 h2 => by have := (ix_lo h2).2.1; simp at h1; omega⟩ (fun ⟨i, j⟩ ⟨⟨g1, g2, g3⟩, g4, g5⟩ => by
    dsimp only at g1 g2 g3 g4 g5 ⊢
    unfold slices_BinarySearch_int_int_l1
    dsimp only
    by_cases c : i < j
    · rw [if_pos c, half_eq g1 g2 (by omega)]
      obtain ⟨a, ha, ga⟩ := ix_of (l := xs) (i := (i + j) / 2) (by omega) (by omega)
      rw [ha]
      simp only [Option.bind_some, less_eq, decide_eq_true_eq]
      by_cases c2 : a < t
      · rw [if_pos c2, w64_of (by omega) (by omega)]
        refine .inl ⟨_, rfl, ⟨⟨by dsimp only; omega, by dsimp only; omega, g3⟩, fun k b k0 k1 hb => ?_, g5⟩, by dsimp only; omega⟩
        dsimp only at k1
        obtain ⟨_, _, gb⟩ := ix_lo hb
        by_cases e : k = (i + j) / 2
        · subst e; rw [ha] at hb; cases hb; exact c2
        · have := hs.get gb ga (by omega); omega
      · rw [if_neg c2]
        refine .inl ⟨_, rfl, ⟨⟨g1, by dsimp only; omega, by dsimp only; omega⟩, g4, fun k b k0 hb => ?_⟩, by dsimp only; omega⟩
        dsimp only at k0
        obtain ⟨_, _, gb⟩ := ix_lo hb
        by_cases e : k = (i + j) / 2
        · subst e; rw [ha] at hb; cases hb; omega
        · have := hs.get ga gb (by omega); omega
    · rw [if_neg c]
      have : i = j := by omega
      subst this
      exact .inr ⟨i, rfl, g1, g3, g4, g5⟩)
  rw [h1]
  simp only [Option.bind_some]
  refine ⟨i, ?_, h2, h3, h4, h5⟩
  have nin : (∀ a, ix xs i = some a → a ≠ t) → t ∉ xs := fun hne hin => by
    obtain ⟨k, k0, k1, hk⟩ := mem_ix hin
    rcases Int.lt_trichotomy k i with c | c | c
    · have := h4 k t k0 c hk; omega
    · subst c; exact hne t hk rfl
    · obtain ⟨b, hb, gb⟩ := ix_of (l := xs) (i := i) (by omega) (by omega)
      obtain ⟨_, _, gk⟩ := ix_lo hk
      have := hs.get gb gk (by omega)
      have := h5 i b (Int.le_refl _) hb
      omega
  by_cases c : i < xs.length
  · obtain ⟨a, ha, ga⟩ := ix_of (l := xs) (i := i) (by omega) c
    rw [if_pos c, ha]
    simp only [Option.bind_some]
    by_cases c2 : a = t
    · subst c2
      rw [if_pos rfl, dec_of (ix_mem ha)]
      rfl
    · rw [if_neg c2]
      simp only [slices_isNaN_int, decide_true, Bool.not_true, Bool.false_eq_true, if_false, Option.bind_some]
      rw [dec_no (nin fun b hb => by rw [ha] at hb; cases hb; exact c2)]
  · rw [if_neg c]
    simp only [Option.bind_some]
    rw [dec_no (nin fun b hb => by have := (ix_lo hb).2.1; omega)]
theorem bsearch2 {xs : List Int} (hs : Inc xs) (hl : xs.length ≤ 500000) (t : Int) : ∃ i, slices_BinarySearch_int_int xs t = some (i, dec (t ∈ xs)) :=
  let ⟨i, h, _⟩ := bsearch_eq hs hl t
  ⟨i, h⟩
theorem containsFunc_eq {l : List Int} {f : Int → Option Bool} (p : Int → Prop) (hf : ∀ x ∈ l, f x = some (dec (p x))) : slices_ContainsFunc_int_int l f = some (dec (∃ x ∈ l, p x)) := by
  unfold slices_ContainsFunc_int_int slices_IndexFunc_int_int
  rcases rngX_test (body := slices_IndexFunc_int_int_l1 l f) (n := (l.length : Int)) (fun j => if dec (∀ a, ix l j = some a → ¬ p a) = true then none else some j) (by omega) (fun j h0 h1 _ => by
    obtain ⟨a, ha, _⟩ := ix_of (l := l) h0 h1
    unfold slices_IndexFunc_int_int_l1
    rw [ha]
    simp only [Option.bind_some, hf a (ix_mem ha)]
    by_cases c : p a
    · rw [if_pos (dec_of c), if_neg (by rw [dec_true]; exact fun h => h a rfl c)]
    · rw [if_neg (by rw [dec_no c]; simp), if_pos (dec_of fun b hb => by cases hb; exact c)]) with ⟨h1, h2⟩ | ⟨j, o, h0, h1, h2, _, h4⟩
  · rw [h1]
    simp only [Option.bind_some]
    rw [dec_no]
    · rfl
    · rintro ⟨x, hx, hp⟩
      obtain ⟨i, g1, g2, g3⟩ := mem_ix hx
      have := h2 i g1 g2
      split at this
      · rename_i h; exact dec_true.1 h x g3 hp
      · cases this
  · rw [h4]
    split at h2
    · cases h2
    · rename_i h
      cases h2
      simp only [Option.bind_some]
      rw [dec_of]
      · simp [h0]
      · simp only [dec_true] at h
        obtain ⟨a, g1, _⟩ := ix_of (l := l) h0 h1
        refine ⟨a, ix_mem g1, ?_⟩
        rcases Classical.em (p a) with c | c
        · exact c
        · exact absurd (fun b hb => by rw [g1] at hb; cases hb; exact c) h
theorem meets_eq {a b : List Int} (hb : Inc b) (hl : b.length ≤ 500000) : strips_Meets a b = some (dec (∃ x ∈ a, x ∈ b)) := by
  unfold strips_Meets
  rw [containsFunc_eq (fun x => x ∈ b) (fun x _ => by
    unfold strips_Meets_1
    obtain ⟨i, h⟩ := bsearch2 hb hl x
    rw [h]; rfl)]
  rfl
/-! ### Sorted, and equal neighbours made one -/
theorem compact_spec {l : List Int} (hs : l.Pairwise (· ≤ ·)) : Inc (compactL l) ∧ ∀ x, x ∈ compactL l ↔ x ∈ l := by
  have key : ∀ m, m ≤ l.length → Inc (Go.Lib.compactUpTo l.toArray m) ∧ (∀ x, x ∈ Go.Lib.compactUpTo l.toArray m ↔ x ∈ l.take m) := by
    intro m
    induction m with
    | zero => intro _; simp [Go.Lib.compactUpTo]
    | succ m ih =>
      intro hm
      obtain ⟨h1, h2⟩ := ih (by omega)
      have hlt : m < l.length := by omega
      have hd : l.toArray[m]! = l[m] := by simp [hlt]
      have ht : l.take (m + 1) = l.take m ++ [l[m]] := by rw [List.take_add_one]; simp [hlt]
      rw [Go.Lib.compactUpTo_succ, ht]
      by_cases hk : Go.Lib.keeps l.toArray m = true
      · rw [if_pos hk, hd]
        refine ⟨List.pairwise_append.2 ⟨h1, by simp, fun a ha b hb => ?_⟩, fun x => by rw [List.mem_append, List.mem_append, h2]⟩
        simp only [List.mem_singleton] at hb
        subst hb
        have ha' := (h2 a).1 ha
        obtain ⟨i, hi, rfl⟩ := List.mem_iff_getElem.1 ha'
        rw [List.length_take] at hi
        rw [List.getElem_take]
        simp only [Go.Lib.keeps, decide_eq_true_eq] at hk
        rcases hk with hk | hk
        · omega
        · have hm1 : l.toArray[m - 1]! = l[m - 1] := by simp [show m - 1 < l.length by omega]
          rw [hd, hm1] at hk
          have e1 : l[m - 1] ≤ l[m] := List.pairwise_iff_getElem.1 hs (m - 1) m (by omega) hlt (by omega)
          have e2 : l[i] ≤ l[m - 1] := by
            rcases Nat.lt_or_ge i (m - 1) with c | c
            · exact List.pairwise_iff_getElem.1 hs i (m - 1) (by omega) (by omega) c
            · have : i = m - 1 := by omega
              subst this; exact Int.le_refl _
          omega
      · rw [if_neg hk, List.append_nil]
        refine ⟨h1, fun x => ?_⟩
        rw [h2, List.mem_append]
        refine ⟨.inl, fun h => ?_⟩
        rcases h with h | h
        · exact h
        · simp only [List.mem_singleton] at h
          subst h
          have hm0 : m ≠ 0 := fun e => hk (by simp [Go.Lib.keeps, e])
          have hm1 : l.toArray[m - 1]! = l[m - 1] := by simp [show m - 1 < l.length by omega]
          have he : l[m] = l[m - 1] := by
            simp only [Go.Lib.keeps, decide_eq_true_eq, not_or] at hk
            have h3 : l.toArray[m]! = l.toArray[m - 1]! := Classical.not_not.1 (fun h => hk.2 h)
            rw [hd, hm1] at h3; exact h3
          rw [he, List.mem_take_iff_getElem]
          exact ⟨m - 1, by omega, rfl⟩
  obtain ⟨h1, h2⟩ := key l.length (Nat.le_refl _)
  refine ⟨?_, fun x => ?_⟩
  · simpa [compactL, Go.Lib.compact] using h1
  · have := h2 x
    rw [List.take_length] at this
    simpa [compactL, Go.Lib.compact] using this
theorem srt_spec (l : List Int) : (srt l).Pairwise (· ≤ ·) ∧ ∀ x, x ∈ srt l ↔ x ∈ l := by
  refine ⟨?_, fun x => by simp [srt]⟩
  have := List.pairwise_mergeSort (le := fun x y : Int => decide (x ≤ y)) (fun a b c h1 h2 => by simp at h1 h2 ⊢; omega) (fun a b => by simp; omega) l
  refine this.imp fun h => by simpa using h
theorem sortL_eq {l : List Int} (h : l.length < 4611686018427387904) : sortL l = some (srt l) := by rw [sortL, if_pos h]
theorem update_inc {s add del : List Int} (hd : Inc del) (hl : del.length ≤ 500000) (h1 : s.length ≤ 500000) (h2 : add.length ≤ 500000) :
    ∃ r, strips_Update s add del = some r ∧ Inc r ∧ ∀ x, x ∈ r ↔ (x ∈ s ∧ x ∉ del) ∨ x ∈ add := by
  unfold strips_Update
  rw [forR_filter (l := s) (b := 8) (fun a => a ∉ del) (fun j a c h => by
    obtain ⟨i, hi⟩ := bsearch2 hd hl a
    unfold strips_Update_l1
    rw [h]
    simp only [Option.bind_some, hi, dec_not]
    refine ⟨fun hq => ?_, fun hq => ?_⟩
    · rw [if_pos (dec_of hq)]
      cases app 8 c [a] <;> rfl
    · rw [if_neg (by simpa using hq)]; rfl) [] (by simp; omega)]
  simp only [Option.bind_some, List.nil_append]
  have hle : (s.filter fun a => dec (a ∉ del)).length ≤ s.length := List.length_filter_le _ _
  rw [show app 8 (s.filter fun a => dec (a ∉ del)) add = some ((s.filter fun a => dec (a ∉ del)) ++ add) by rw [app, if_pos]; omega]
  simp only [Option.bind_some]
  rw [sortL_eq (by rw [List.length_append]; omega)]
  simp only [Option.bind_some]
  obtain ⟨e1, e2⟩ := srt_spec ((s.filter fun a => dec (a ∉ del)) ++ add)
  obtain ⟨e3, e4⟩ := compact_spec e1
  refine ⟨_, rfl, e3, fun x => ?_⟩
  rw [e4, e2, List.mem_append, List.mem_filter, dec_true]
theorem update_eq {s add del : List Int} {n : Int} (hn : n ≤ 1000) (hd : Inc del) (hl : del.length ≤ 500000) (hs : SetN s n) (ha : SetN add n) :
    strips_Update s add del = some (setOf (fun x => (x ∈ s ∧ x ∉ del) ∨ x ∈ add) n) := by
  have h1 := hs.len; have h2 := ha.len
  obtain ⟨r, e1, e2, e3⟩ := update_inc (s := s) (add := add) hd hl (by omega) (by omega)
  rw [e1, SetN.eq_of (n := n) ⟨e2, fun x hx => ?_⟩ (fun x _ _ => e3 x)]
  rcases (e3 x).1 hx with h | h
  · exact hs.2 x h.1
  · exact ha.2 x h
theorem union_eq {a b : List Int} {n : Int} (hn : n ≤ 1000) (ha : SetN a n) (hb : SetN b n) : strips_Union a b = some (setOf (fun x => x ∈ a ∨ x ∈ b) n) := by
  unfold strips_Union
  rw [update_eq hn .nil (by simp) ha hb]
  simp
end Ab
end
