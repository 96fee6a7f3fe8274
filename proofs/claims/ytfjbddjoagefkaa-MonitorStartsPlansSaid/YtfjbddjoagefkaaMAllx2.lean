/-
  The program's functions compute what the plain texts say.
-/
import Derived.Test.YtfjbddjoagefkaaMAllx1
namespace Ab
open Go Go.Proofs
set_option maxHeartbeats 4000000
set_option linter.all false
attribute [local irreducible] AWP AOps thn inB Done PureOk FreshOk Sub

theorem monitor_Missing_ok {t : TTask} {plan : List Int} {sv : List Int} {iv : Int} {r : (List Int) × Bool × TFault} (h : monitor_Missing t plan sv iv = some r) : PureOk Try.prog 15 [.agg [int t.facts, row 1 intI t.init, row 1 intI t.goal, row 4 eTOperator t.operators], .c (row 1 intI plan), .c (row 1 intI sv), .c (int iv)] (.tup [.c (row 1 intI r.1), .c (bool r.2.1), .agg [int r.2.2.code, int r.2.2.index]]) := by
  unfold PureOk
  refine FnOk.enter (rs := [.t 8, .t 9, .cell 10 29 2]) Try.func15 rfl Try.ntmps15 Try.results15 rfl ⟨trivial, trivial, rv _ rfl, trivial⟩ (by kernel_rfl) rfl ?_
  unfold monitor_Missing at h
  refine AWP.seq ?_
  refine AWP.region ?_
  refine W.box rfl rfl rfl rfl rfl rfl ?_
  refine AOps.assign rfl rfl ?_
  refine AOps.assign rfl rfl ?_
  refine W.alloc rfl rfl rfl rfl ?_
  refine AOps.nil ?_
  refine thn_normal ?_
  refine AWP.seq ?_
  refine AWP.seq ?_
  obtain ⟨a16, ha16, h⟩ := bind_some h
  refine AWP.region ?_
  refine W.loadAgg rfl rfl rfl rfl rfl rfl rfl ?_
  refine AOps.move rfl rfl ?_
  refine AOps.move rfl rfl ?_
  refine AOps.callR rfl rfl rfl rfl (monitor_check_ok ha16) rfl ?_
  refine W.alloc rfl rfl rfl rfl ?_
  refine W.storeAgg rfl rfl rfl rfl rfl rfl rfl ?_
  refine AOps.nil ?_
  refine thn_normal ?_
  refine AWP.seq ?_
  refine AWP.region ?_
  refine W.loadAgg rfl rfl rfl rfl rfl rfl rfl ?_
  refine W.build rfl rfl rfl rfl ?_
  refine AOps.neqP rfl rfl rfl rfl rfl rfl rfl ?_
  refine AOps.nil ?_
  refine thn_normal ?_
  refine AWP.iteB rfl h (fun hc5 h => ?_) (fun hc5 h => ?_)
  · refine AWP.seq ?_
    refine AWP.drawEI [3] mixed rfl rfl rfl ?_
    apply DrawSeqE.consN; exact rfl; exact rfl; intro E
    refine W.loadAgg rfl rfl rfl rfl rfl rfl rfl ?_
    exact AOps.nil ⟨rfl, rfl⟩
    exact rfl
    apply DrawSeqE.consN; exact rfl; exact rfl; intro E
    refine AOps.assign rfl rfl ?_
    exact AOps.nil ⟨rfl, rfl⟩
    exact rfl
    apply DrawSeqE.consN; exact rfl; exact rfl; intro E
    refine AOps.assign rfl rfl ?_
    exact AOps.nil ⟨rfl, rfl⟩
    exact rfl
    apply DrawSeqE.consE (v := .undef); exact rfl; exact rfl; intro E
    refine W.storeAgg rfl rfl rfl rfl rfl rfl rfl ?_
    exact AOps.nil ⟨rfl, rfl⟩
    exact rfl
    exact rfl
    refine DrawSeqE.done rfl ?_ ?_
    · apply RestI.cons; exact rfl; exact rfl
      first | refine RestK.skip rfl ?_ | (apply RestK.go; exact rfl; exact rfl; intro E; (refine W.loadAgg rfl rfl rfl rfl rfl rfl rfl ?_); exact AOps.nil ⟨rfl, rfl⟩)
      first | refine RestK.skip rfl ?_ | (apply RestK.go; exact rfl; exact rfl; intro E; (refine W.loadAgg rfl rfl rfl rfl rfl rfl rfl ?_); exact AOps.nil ⟨rfl, rfl⟩)
      exact RestK.nil
      apply RestI.cons; exact rfl; exact rfl
      first | refine RestK.skip rfl ?_ | (apply RestK.go; exact rfl; exact rfl; intro E; (refine AOps.assign rfl rfl ?_); exact AOps.nil ⟨rfl, rfl⟩)
      first | refine RestK.skip rfl ?_ | (apply RestK.go; exact rfl; exact rfl; intro E; (refine AOps.assign rfl rfl ?_); exact AOps.nil ⟨rfl, rfl⟩)
      exact RestK.nil
      apply RestI.cons; exact rfl; exact rfl
      first | refine RestK.skip rfl ?_ | (apply RestK.go; exact rfl; exact rfl; intro E; (refine AOps.assign rfl rfl ?_); exact AOps.nil ⟨rfl, rfl⟩)
      first | refine RestK.skip rfl ?_ | (apply RestK.go; exact rfl; exact rfl; intro E; (refine AOps.assign rfl rfl ?_); exact AOps.nil ⟨rfl, rfl⟩)
      exact RestK.nil
      refine RestI.skip rfl ?_
      exact RestI.nil
    dsimp only [envEnd]
    refine thn_normal ?_
    refine AWP.nilrow 1 8 rfl ?_
    refine AWP.ret ?_
    refine thn_ret ?_
    have ej := Option.some.inj h
    subst ej
    exact Done.ret rfl rfl
  · refine AWP.skip ?_
    refine thn_normal ?_
    refine AWP.seq ?_
    refine AWP.seqJ (⟨[(1, .c (row 1 intI plan)), (2, .c (row 1 intI sv)), (3, .c (int iv)), (4, .c (.ptr 0 0 0)), (10, .c (.ptr 1 0 0)), (28, .c (bool ((decide (iv < 0)) || (decide ((plan.length : Int) < iv)))))], [.one (.cells 4 [[int t.facts, row 1 intI t.init, row 1 intI t.goal, row 4 eTOperator t.operators]]), .one (.cells 2 [[int 0, int 0]]), .one (.cells 2 [[int a16.code, int a16.index]])]⟩) ?_ ?_
    · rcases Bool.eq_false_or_eq_true (decide (iv < 0)) with hb1 | hb1
      · refine AWP.region ?_
        refine AOps.move rfl rfl ?_
        refine AOps.lss rfl rfl rfl ?_
        refine AOps.move rfl rfl ?_
        refine AOps.guardF rfl rfl rfl hb1 ?_
        refine AOps.guardF rfl rfl rfl hb1 ?_
        refine AOps.guardF rfl rfl rfl hb1 ?_
        refine AOps.guardF rfl rfl rfl hb1 ?_
        refine AOps.pickT rfl hb1 rfl rfl ?_
        refine AOps.nil ?_
        refine thn_normal ?_
        simp only [and_t hb1, or_t hb1, Bool.false_or, Bool.true_or, Bool.false_and, Bool.true_and]
        exact Sub.env ⟨rfl, rfl, rfl, rfl, rfl, rfl, trivial⟩
      · refine AWP.region ?_
        refine AOps.move rfl rfl ?_
        refine AOps.lss rfl rfl rfl ?_
        refine AOps.move rfl rfl ?_
        refine AOps.guardT rfl rfl rfl hb1 ?_; refine AOps.move rfl rfl ?_
        refine AOps.guardT rfl rfl rfl hb1 ?_; refine AOps.move rfl rfl ?_
        refine AOps.guardT rfl rfl rfl hb1 ?_; refine S.len rfl rfl (fun hl26 => ?_)
        refine AOps.guardT rfl rfl rfl hb1 ?_; refine AOps.gtr rfl rfl rfl ?_
        refine AOps.pickF rfl hb1 rfl rfl ?_
        refine AOps.nil ?_
        refine thn_normal ?_
        simp only [and_f hb1, or_f hb1, Bool.false_or, Bool.true_or, Bool.false_and, Bool.true_and]
        exact Sub.env ⟨rfl, rfl, rfl, rfl, rfl, rfl, trivial⟩
    · refine AWP.iteB rfl h (fun hc6 h => ?_) (fun hc6 h => ?_)
      · refine AWP.seq ?_
        refine AWP.region ?_
        refine W.build rfl rfl rfl rfl ?_
        refine AOps.assign rfl rfl ?_
        refine AOps.assign rfl rfl ?_
        refine W.storeAgg rfl rfl rfl rfl rfl rfl rfl ?_
        refine AOps.nil ?_
        refine thn_normal ?_
        refine AWP.nilrow 1 8 rfl ?_
        refine AWP.ret ?_
        refine thn_ret ?_
        have ej := Option.some.inj h
        subst ej
        exact Done.ret rfl rfl
      · refine AWP.skip ?_
        refine thn_normal ?_
        refine AWP.seq ?_
        obtain ⟨a32, ha32, h⟩ := bind_some h
        obtain ⟨a34, ha34, h⟩ := bind_some h
        refine AWP.region ?_
        refine W.loadAgg rfl rfl rfl rfl rfl rfl rfl ?_
        refine AOps.move rfl rfl ?_
        refine S.fresh rfl rfl rfl rfl (monitor_needs_ok ha32) rfl rfl ?_
        refine AOps.move rfl rfl ?_
        refine S.idxO ha34 rfl rfl rfl rfl rfl ?_
        refine S.loadOAgg ha34 rfl rfl rfl rfl rfl rfl rfl ?_
        refine W.alloc rfl rfl rfl rfl ?_
        refine W.storeAgg rfl rfl rfl rfl rfl rfl rfl ?_
        refine AOps.nil ?_
        refine thn_normal ?_
        refine AWP.seq ?_
        refine AWP.seq ?_
        refine AWP.region ?_
        refine W.fieldAddr rfl rfl rfl rfl ?_
        refine AOps.load rfl rfl rfl rfl rfl rfl ?_
        refine AOps.nil ?_
        refine thn_normal ?_
        refine AWP.iteB rfl h (fun hc7 h => ?_) (fun hc7 h => ?_)
        · refine AWP.seq ?_
          refine AWP.region ?_
          refine W.build rfl rfl rfl rfl ?_
          refine AOps.assign rfl rfl ?_
          refine AOps.assign rfl rfl ?_
          refine W.storeAgg rfl rfl rfl rfl rfl rfl rfl ?_
          refine AOps.nil ?_
          refine thn_normal ?_
          refine AWP.nilrow 1 8 rfl ?_
          refine AWP.ret ?_
          refine thn_ret ?_
          have ej := Option.some.inj h
          subst ej
          exact Done.ret rfl rfl
        · refine AWP.skip ?_
          refine thn_normal ?_
          refine AWP.seq ?_
          obtain ⟨a42, ha42, h⟩ := bind_some h
          refine AWP.region ?_
          refine W.fieldAddr rfl rfl rfl rfl ?_
          refine AOps.load rfl rfl rfl rfl rfl rfl ?_
          refine AOps.move rfl rfl ?_
          refine S.fresh rfl rfl rfl rfl (FreshOk.nil (by exact ⟨(.inl rfl), (.inr ⟨rfl, _, rfl⟩), (.inl rfl), trivial⟩) (strips_Update_ok ha42)) rfl rfl ?_
          refine W.build rfl rfl rfl rfl ?_
          refine AOps.assign rfl rfl ?_
          refine AOps.assign rfl rfl ?_
          refine W.storeAgg rfl rfl rfl rfl rfl rfl rfl ?_
          refine AOps.nil ?_
          refine thn_normal ?_
          refine AWP.frzV (id := 5) (l := a42) (env2 := [(8, .c (row 1 intI a42)), (9, .c (bool true)), (10, .c (.ptr 1 0 0))]) (σ2 := [.one (.cells 4 [[int t.facts, row 1 intI t.init, row 1 intI t.goal, row 4 eTOperator t.operators]]), .one (.cells 2 [[int 0, int 0]]), .one (.cells 2 [[int a16.code, int a16.index]]), .one (vec 2 eTmonitor_need a32), .one (.cells 2 [[row 1 intI a34.facts, bool a34.never]]), .dead]) rfl rfl (by exact ⟨⟨_, rfl, .inr ⟨_, rfl, rfl, rfl⟩⟩, ⟨_, rfl, .inl ⟨rfl, rfl⟩⟩, ⟨_, rfl, .inl ⟨rfl, rfl⟩⟩, trivial⟩) rfl (by exact ⟨⟨rfl, .inl ⟨rfl, rfl⟩, .inl ⟨rfl, rfl⟩, .inl ⟨rfl, rfl⟩, .inl ⟨rfl, rfl⟩, trivial⟩, ⟨rfl, .inl ⟨rfl, rfl⟩, .inl ⟨rfl, rfl⟩, trivial⟩, ⟨rfl, .inl ⟨rfl, rfl⟩, .inl ⟨rfl, rfl⟩, trivial⟩, FrzB.vec, ⟨rfl, .inl ⟨rfl, rfl⟩, .inl ⟨rfl, rfl⟩, trivial⟩, trivial, trivial⟩) ?_
          refine AWP.ret ?_
          have ej := Option.some.inj h
          subst ej
          exact Done.ret rfl rfl

theorem ref1_At_ok {code : Int} {index : Int} {r : TFault} (h : ref1_At code index = some r) : PureOk Try.prog 18 [.c (int code), .c (int index)] (.agg [int r.code, int r.index]) := by
  unfold PureOk
  refine FnOk.enter (rs := [.cell 4 29 2]) Try.func18 rfl Try.ntmps18 Try.results18 rfl ⟨rv _ rfl, trivial⟩ (by kernel_rfl) rfl ?_
  unfold ref1_At at h
  refine AWP.seq ?_
  refine AWP.region ?_
  refine W.alloc rfl rfl rfl rfl ?_
  refine AOps.nil ?_
  refine thn_normal ?_
  refine AWP.seq ?_
  refine AWP.region ?_
  refine AOps.move rfl rfl ?_
  refine AOps.move rfl rfl ?_
  refine W.build rfl rfl rfl rfl ?_
  refine W.storeAgg rfl rfl rfl rfl rfl rfl rfl ?_
  refine AOps.nil ?_
  refine thn_normal ?_
  refine AWP.ret ?_
  have ej := Option.some.inj h
  subst ej
  exact Done.ret rfl rfl

theorem ref1_Disjoint_ok {av : List Int} {bv : List Int} {r : Bool} (h : ref1_Disjoint av bv = some r) : PureOk Try.prog 48 [.c (row 1 intI av), .c (row 1 intI bv)] (.c (bool r)) := by
  unfold PureOk
  refine FnOk.enter (rs := [.t 4]) Try.func48 rfl Try.ntmps48 Try.results48 rfl ⟨trivial, trivial⟩ (by kernel_rfl) rfl ?_
  unfold ref1_Disjoint at h
  refine AWP.seq ?_
  refine AWP.region ?_
  refine AOps.assign rfl rfl ?_
  refine AOps.nil ?_
  refine thn_normal ?_
  refine AWP.seq ?_
  refine AWP.seq ?_
  refine AWP.region ?_
  refine AOps.assign rfl rfl ?_
  refine AOps.nil ?_
  refine thn_normal ?_
  refine AWP.block ?_
  obtain ⟨oo, ho1, h⟩ := bind_some h
  refine AWP.rngS ho1 (fun iv3 _ => ⟨[(0, .c (row 1 intI av)), (1, .c (row 1 intI bv)), (5, .c (int iv3))], []⟩) (fun o e st => match o with | .inl _ => e = .exit 0 ∧ Sub [] st ⟨[], []⟩ | .inr x => e = .ret ∧ Done [.t 4] (fun t _ => t = .c (bool x)) .ret st) ?_ ?_ ?_ ?_
  · try dsimp only
    exact Sub.env ⟨rfl, rfl, rfl, trivial⟩
  · intro iv3 s hloiv3 hltiv3 _
    try dsimp only
    refine AWP.seq ?_
    refine AWP.seq ?_
    refine AWP.region ?_
    refine AOps.move rfl rfl ?_
    refine AOps.move rfl rfl ?_
    refine S.len rfl rfl (fun hl8 => ?_)
    refine AOps.lss rfl rfl rfl ?_
    refine AOps.nil ?_
    refine thn_normal ?_
    refine AWP.condNP rfl hltiv3 ?_
    refine AWP.exit ?_
    refine thn_exit ?_
    refine thn_exit ⟨rfl, ?_⟩
    exact Sub.env trivial
  · intro iv3 s o hloiv3 hltiv3 h
    unfold ref1_Disjoint_l1 at h
    try dsimp only at h ⊢
    refine AWP.seq ?_
    refine AWP.seq ?_
    refine AWP.region ?_
    refine AOps.move rfl rfl ?_
    refine AOps.move rfl rfl ?_
    refine S.len rfl rfl (fun hl8 => ?_)
    refine AOps.lss rfl rfl rfl ?_
    refine AOps.nil ?_
    refine thn_normal ?_
    refine AWP.condP rfl hltiv3 ?_
    refine AWP.skip ?_
    refine thn_normal ?_
    refine AWP.seq ?_
    refine AWP.block ?_
    refine AWP.seq ?_
    obtain ⟨a15, ha15, h⟩ := bind_some h
    obtain ⟨a17, ha17, h⟩ := bind_some h
    refine AWP.region ?_
    refine AOps.move rfl rfl ?_
    refine AOps.move rfl rfl ?_
    refine AOps.move rfl rfl ?_
    refine S.idx ha15 rfl rfl rfl rfl ?_
    refine AOps.loadI rfl rfl rfl rfl ?_
    refine AOps.callR rfl rfl rfl rfl (ref1_Has_ok ha17) rfl ?_
    refine AOps.nil ?_
    refine thn_normal ?_
    refine AWP.iteB rfl h (fun hc4 h => ?_) (fun hc4 h => ?_)
    · refine AWP.seq ?_
      refine AWP.region ?_
      refine AOps.assign rfl rfl ?_
      refine AOps.nil ?_
      refine thn_normal ?_
      refine AWP.ret ?_
      refine inB_ret ?_
      refine thn_ret ?_
      have ej := Option.some.inj h
      subst ej
      refine thn_ret ⟨_, rfl, rfl, ?_⟩
      exact Done.ret rfl rfl
    · refine AWP.skip ?_
      refine inB_normal ?_
      refine thn_normal ?_
      refine AWP.region ?_
      refine AOps.move rfl rfl ?_
      refine AOps.add rfl rfl rfl (by omega) ?_
      refine AOps.assign rfl rfl ?_
      refine AOps.nil ?_
      have ej := Option.some.inj h
      subst ej
      refine thn_normal ⟨_, rfl, ?_⟩
      exact Sub.env ⟨rfl, rfl, rfl, trivial⟩
  · intro e s hq
    rcases oo with u | x
    · try dsimp only at h hq
      obtain ⟨rfl, hs⟩ := hq
      refine ⟨_, hs, ?_⟩
      refine inB_exit ?_
      refine thn_normal ?_
      refine AWP.seq ?_
      refine AWP.region ?_
      refine AOps.assign rfl rfl ?_
      refine AOps.nil ?_
      refine thn_normal ?_
      refine AWP.ret ?_
      have ej := Option.some.inj h
      subst ej
      exact Done.ret rfl rfl
    · try dsimp only at h hq
      obtain ⟨rfl, hs⟩ := hq
      refine ⟨_, Sub.refl _ _, ?_⟩
      refine inB_ret ?_
      refine thn_ret ?_
      have ej := Option.some.inj h
      subst ej
      exact hs

theorem ref1_TaskFault_ok {t : TTask} {r : TFault} (h : ref1_TaskFault t = some r) : PureOk Try.prog 33 [.agg [int t.facts, row 1 intI t.init, row 1 intI t.goal, row 4 eTOperator t.operators]] (.agg [int r.code, int r.index]) := by
  unfold PureOk
  refine FnOk.enter (rs := [.cell 2 29 2]) Try.func33 rfl Try.ntmps33 Try.results33 rfl ⟨rv _ rfl, trivial⟩ (by kernel_rfl) rfl ?_
  unfold ref1_TaskFault at h
  refine AWP.seq ?_
  refine AWP.region ?_
  refine W.box rfl rfl rfl rfl rfl rfl ?_
  refine W.alloc rfl rfl rfl rfl ?_
  refine AOps.nil ?_
  refine thn_normal ?_
  refine AWP.seq ?_
  refine AWP.seq ?_
  obtain ⟨a7, ha7, h⟩ := bind_some h
  refine AWP.region ?_
  refine W.fieldAddr rfl rfl rfl rfl ?_
  refine AOps.load rfl rfl rfl rfl rfl rfl ?_
  refine AOps.callR rfl rfl rfl rfl (ref1_In_ok ha7) rfl ?_
  refine AOps.not rfl rfl ?_
  refine AOps.nil ?_
  refine thn_normal ?_
  refine AWP.iteB rfl h (fun hc2 h => ?_) (fun hc2 h => ?_)
  · refine AWP.seq ?_
    obtain ⟨a9, ha9, h⟩ := bind_some h
    refine AWP.region ?_
    refine AOps.callR rfl rfl rfl rfl (ref1_At_ok ha9) rfl ?_
    refine W.storeAgg rfl rfl rfl rfl rfl rfl rfl ?_
    refine AOps.nil ?_
    refine thn_normal ?_
    refine AWP.ret ?_
    refine thn_ret ?_
    have ej := Option.some.inj h
    subst ej
    exact Done.ret rfl rfl
  · refine AWP.skip ?_
    refine thn_normal ?_
    refine AWP.seq ?_
    refine AWP.seq ?_
    obtain ⟨a14, ha14, h⟩ := bind_some h
    refine AWP.region ?_
    refine W.fieldAddr rfl rfl rfl rfl ?_
    refine AOps.load rfl rfl rfl rfl rfl rfl ?_
    refine W.fieldAddr rfl rfl rfl rfl ?_
    refine AOps.load rfl rfl rfl rfl rfl rfl ?_
    refine AOps.callR rfl rfl rfl rfl (ref1_IsSet_ok ha14) rfl ?_
    refine AOps.not rfl rfl ?_
    refine AOps.nil ?_
    refine thn_normal ?_
    refine AWP.iteB rfl h (fun hc3 h => ?_) (fun hc3 h => ?_)
    · refine AWP.seq ?_
      obtain ⟨a16, ha16, h⟩ := bind_some h
      refine AWP.region ?_
      refine AOps.callR rfl rfl rfl rfl (ref1_At_ok ha16) rfl ?_
      refine W.storeAgg rfl rfl rfl rfl rfl rfl rfl ?_
      refine AOps.nil ?_
      refine thn_normal ?_
      refine AWP.ret ?_
      refine thn_ret ?_
      have ej := Option.some.inj h
      subst ej
      exact Done.ret rfl rfl
    · refine AWP.skip ?_
      refine thn_normal ?_
      refine AWP.seq ?_
      refine AWP.seq ?_
      obtain ⟨a21, ha21, h⟩ := bind_some h
      refine AWP.region ?_
      refine W.fieldAddr rfl rfl rfl rfl ?_
      refine AOps.load rfl rfl rfl rfl rfl rfl ?_
      refine W.fieldAddr rfl rfl rfl rfl ?_
      refine AOps.load rfl rfl rfl rfl rfl rfl ?_
      refine AOps.callR rfl rfl rfl rfl (ref1_IsSet_ok ha21) rfl ?_
      refine AOps.not rfl rfl ?_
      refine AOps.nil ?_
      refine thn_normal ?_
      refine AWP.iteB rfl h (fun hc4 h => ?_) (fun hc4 h => ?_)
      · refine AWP.seq ?_
        obtain ⟨a23, ha23, h⟩ := bind_some h
        refine AWP.region ?_
        refine AOps.callR rfl rfl rfl rfl (ref1_At_ok ha23) rfl ?_
        refine W.storeAgg rfl rfl rfl rfl rfl rfl rfl ?_
        refine AOps.nil ?_
        refine thn_normal ?_
        refine AWP.ret ?_
        refine thn_ret ?_
        have ej := Option.some.inj h
        subst ej
        exact Done.ret rfl rfl
      · refine AWP.skip ?_
        refine thn_normal ?_
        refine AWP.seq ?_
        refine AWP.seq ?_
        refine AWP.region ?_
        refine W.fieldAddr rfl rfl rfl rfl ?_
        refine AOps.load rfl rfl rfl rfl rfl rfl ?_
        refine S.len rfl rfl (fun hl26 => ?_)
        refine AOps.gtr rfl rfl rfl ?_
        refine AOps.nil ?_
        refine thn_normal ?_
        refine AWP.ite rfl h (fun hc5 h => ?_) (fun hc5 h => ?_)
        · refine AWP.seq ?_
          obtain ⟨a28, ha28, h⟩ := bind_some h
          refine AWP.region ?_
          refine AOps.callR rfl rfl rfl rfl (ref1_At_ok ha28) rfl ?_
          refine W.storeAgg rfl rfl rfl rfl rfl rfl rfl ?_
          refine AOps.nil ?_
          refine thn_normal ?_
          refine AWP.ret ?_
          refine thn_ret ?_
          have ej := Option.some.inj h
          subst ej
          exact Done.ret rfl rfl
        · refine AWP.skip ?_
          refine thn_normal ?_
          refine AWP.seq ?_
          refine AWP.seq ?_
          refine AWP.region ?_
          refine AOps.assign rfl rfl ?_
          refine AOps.nil ?_
          refine thn_normal ?_
          refine AWP.block ?_
          obtain ⟨oo, ho1, h⟩ := bind_some h
          refine AWP.rngS ho1 (fun iv6 _ => ⟨[(1, .c (.ptr 0 0 0)), (2, .c (.ptr 1 0 0)), (3, .c (int iv6))], [.one (.cells 4 [[int t.facts, row 1 intI t.init, row 1 intI t.goal, row 4 eTOperator t.operators]]), .one (.cells 2 [[int 0, int 0]])]⟩) (fun o e st => match o with | .inl _ => e = .exit 0 ∧ Sub [] st ⟨[(2, .c (.ptr 1 0 0))], [.one (.cells 4 [[int t.facts, row 1 intI t.init, row 1 intI t.goal, row 4 eTOperator t.operators]]), .one (.cells 2 [[int 0, int 0]])]⟩ | .inr x => e = .ret ∧ Done [.cell 2 29 2] (fun t _ => t = .agg [int x.code, int x.index]) .ret st) ?_ ?_ ?_ ?_
          · try dsimp only
            exact Sub.env ⟨rfl, rfl, rfl, trivial⟩
          · intro iv6 s hloiv6 hltiv6 _
            try dsimp only
            refine AWP.seq ?_
            refine AWP.seq ?_
            refine AWP.region ?_
            refine AOps.move rfl rfl ?_
            refine W.fieldAddr rfl rfl rfl rfl ?_
            refine AOps.load rfl rfl rfl rfl rfl rfl ?_
            refine S.len rfl rfl (fun hl32 => ?_)
            refine AOps.lss rfl rfl rfl ?_
            refine AOps.nil ?_
            refine thn_normal ?_
            refine AWP.condNP rfl hltiv6 ?_
            refine AWP.exit ?_
            refine thn_exit ?_
            refine thn_exit ⟨rfl, ?_⟩
            exact Sub.env ⟨rfl, trivial⟩
          · intro iv6 s o hloiv6 hltiv6 h
            unfold ref1_TaskFault_l1 at h
            try dsimp only at h ⊢
            refine AWP.seq ?_
            refine AWP.seq ?_
            refine AWP.region ?_
            refine AOps.move rfl rfl ?_
            refine W.fieldAddr rfl rfl rfl rfl ?_
            refine AOps.load rfl rfl rfl rfl rfl rfl ?_
            refine S.len rfl rfl (fun hl32 => ?_)
            refine AOps.lss rfl rfl rfl ?_
            refine AOps.nil ?_
            refine thn_normal ?_
            refine AWP.condP rfl hltiv6 ?_
            refine AWP.skip ?_
            refine thn_normal ?_
            refine AWP.seq ?_
            refine AWP.block ?_
            refine AWP.seq ?_
            obtain ⟨a39, ha39, h⟩ := bind_some h
            refine AWP.region ?_
            refine W.fieldAddr rfl rfl rfl rfl ?_
            refine AOps.load rfl rfl rfl rfl rfl rfl ?_
            refine AOps.move rfl rfl ?_
            refine S.idx ha39 rfl rfl rfl rfl ?_
            refine W.loadIAgg rfl rfl rfl rfl rfl ?_
            refine W.alloc rfl rfl rfl rfl ?_
            refine W.storeAgg rfl rfl rfl rfl rfl rfl rfl ?_
            refine AOps.nil ?_
            refine thn_normal ?_
            refine AWP.seq ?_
            obtain ⟨t7, hx8, h⟩ := bind_some h
            refine AWP.seqJ (⟨[(1, .c (.ptr 0 0 0)), (2, .c (.ptr 1 0 0)), (3, .c (int iv6)), (4, .c (.ptr 2 0 0)), (70, .c (bool t7))], [.one (.cells 4 [[int t.facts, row 1 intI t.init, row 1 intI t.goal, row 4 eTOperator t.operators]]), .one (.cells 2 [[int 0, int 0]]), .one (.cells 4 [[row 1 intI a39.pre, row 1 intI a39.add, row 1 intI a39.del, int a39.cost]])]⟩) ?_ ?_
            · obtain ⟨a45, ha45, hx8⟩ := bind_some hx8
              rcases Bool.eq_false_or_eq_true (!a45) with hb9 | hb9
              · replace hx8 := iteBT hb9 hx8
                refine AWP.region ?_
                refine W.fieldAddr rfl rfl rfl rfl ?_
                refine AOps.load rfl rfl rfl rfl rfl rfl ?_
                refine W.fieldAddr rfl rfl rfl rfl ?_
                refine AOps.load rfl rfl rfl rfl rfl rfl ?_
                refine AOps.callR rfl rfl rfl rfl (ref1_IsSet_ok ha45) rfl ?_
                refine AOps.not rfl rfl ?_
                refine AOps.move rfl rfl ?_
                refine AOps.guardF rfl rfl rfl hb9 ?_
                refine AOps.guardF rfl rfl rfl hb9 ?_
                refine AOps.guardF rfl rfl rfl hb9 ?_
                refine AOps.guardF rfl rfl rfl hb9 ?_
                refine AOps.guardF rfl rfl rfl hb9 ?_
                refine AOps.guardF rfl rfl rfl hb9 ?_
                refine AOps.pickT rfl hb9 rfl rfl ?_
                refine AOps.move rfl rfl ?_
                refine AOps.guardF rfl rfl rfl rfl ?_
                refine AOps.guardF rfl rfl rfl rfl ?_
                refine AOps.guardF rfl rfl rfl rfl ?_
                refine AOps.guardF rfl rfl rfl rfl ?_
                refine AOps.guardF rfl rfl rfl rfl ?_
                refine AOps.guardF rfl rfl rfl rfl ?_
                refine AOps.pickT rfl rfl rfl rfl ?_
                refine AOps.move rfl rfl ?_
                refine AOps.guardF rfl rfl rfl rfl ?_
                refine AOps.guardF rfl rfl rfl rfl ?_
                refine AOps.guardF rfl rfl rfl rfl ?_
                refine AOps.guardF rfl rfl rfl rfl ?_
                refine AOps.guardF rfl rfl rfl rfl ?_
                refine AOps.guardF rfl rfl rfl rfl ?_
                refine AOps.pickT rfl rfl rfl rfl ?_
                refine AOps.nil ?_
                have ej := Option.some.inj hx8
                subst ej
                refine thn_normal ?_
                exact Sub.env ⟨rfl, rfl, rfl, rfl, rfl, trivial⟩
              · replace hx8 := iteBF hb9 hx8
                obtain ⟨a52, ha52, hx8⟩ := bind_some hx8
                rcases Bool.eq_false_or_eq_true (!a52) with hb10 | hb10
                · replace hx8 := iteBT hb10 hx8
                  refine AWP.region ?_
                  refine W.fieldAddr rfl rfl rfl rfl ?_
                  refine AOps.load rfl rfl rfl rfl rfl rfl ?_
                  refine W.fieldAddr rfl rfl rfl rfl ?_
                  refine AOps.load rfl rfl rfl rfl rfl rfl ?_
                  refine AOps.callR rfl rfl rfl rfl (ref1_IsSet_ok ha45) rfl ?_
                  refine AOps.not rfl rfl ?_
                  refine AOps.move rfl rfl ?_
                  refine AOps.guardT rfl rfl rfl hb9 ?_; refine W.fieldAddr rfl rfl rfl rfl ?_
                  refine AOps.guardT rfl rfl rfl hb9 ?_; refine AOps.load rfl rfl rfl rfl rfl rfl ?_
                  refine AOps.guardT rfl rfl rfl hb9 ?_; refine W.fieldAddr rfl rfl rfl rfl ?_
                  refine AOps.guardT rfl rfl rfl hb9 ?_; refine AOps.load rfl rfl rfl rfl rfl rfl ?_
                  refine AOps.guardT rfl rfl rfl hb9 ?_; refine AOps.callR rfl rfl rfl rfl (ref1_IsSet_ok ha52) rfl ?_
                  refine AOps.guardT rfl rfl rfl hb9 ?_; refine AOps.not rfl rfl ?_
                  refine AOps.pickF rfl hb9 rfl rfl ?_
                  refine AOps.move rfl rfl ?_
                  refine AOps.guardF rfl rfl rfl hb10 ?_
                  refine AOps.guardF rfl rfl rfl hb10 ?_
                  refine AOps.guardF rfl rfl rfl hb10 ?_
                  refine AOps.guardF rfl rfl rfl hb10 ?_
                  refine AOps.guardF rfl rfl rfl hb10 ?_
                  refine AOps.guardF rfl rfl rfl hb10 ?_
                  refine AOps.pickT rfl hb10 rfl rfl ?_
                  refine AOps.move rfl rfl ?_
                  refine AOps.guardF rfl rfl rfl rfl ?_
                  refine AOps.guardF rfl rfl rfl rfl ?_
                  refine AOps.guardF rfl rfl rfl rfl ?_
                  refine AOps.guardF rfl rfl rfl rfl ?_
                  refine AOps.guardF rfl rfl rfl rfl ?_
                  refine AOps.guardF rfl rfl rfl rfl ?_
                  refine AOps.pickT rfl rfl rfl rfl ?_
                  refine AOps.nil ?_
                  have ej := Option.some.inj hx8
                  subst ej
                  refine thn_normal ?_
                  exact Sub.env ⟨rfl, rfl, rfl, rfl, rfl, trivial⟩
                · replace hx8 := iteBF hb10 hx8
                  obtain ⟨a60, ha60, hx8⟩ := bind_some hx8
                  rcases Bool.eq_false_or_eq_true (!a60) with hb11 | hb11
                  · replace hx8 := iteBT hb11 hx8
                    refine AWP.region ?_
                    refine W.fieldAddr rfl rfl rfl rfl ?_
                    refine AOps.load rfl rfl rfl rfl rfl rfl ?_
                    refine W.fieldAddr rfl rfl rfl rfl ?_
                    refine AOps.load rfl rfl rfl rfl rfl rfl ?_
                    refine AOps.callR rfl rfl rfl rfl (ref1_IsSet_ok ha45) rfl ?_
                    refine AOps.not rfl rfl ?_
                    refine AOps.move rfl rfl ?_
                    refine AOps.guardT rfl rfl rfl hb9 ?_; refine W.fieldAddr rfl rfl rfl rfl ?_
                    refine AOps.guardT rfl rfl rfl hb9 ?_; refine AOps.load rfl rfl rfl rfl rfl rfl ?_
                    refine AOps.guardT rfl rfl rfl hb9 ?_; refine W.fieldAddr rfl rfl rfl rfl ?_
                    refine AOps.guardT rfl rfl rfl hb9 ?_; refine AOps.load rfl rfl rfl rfl rfl rfl ?_
                    refine AOps.guardT rfl rfl rfl hb9 ?_; refine AOps.callR rfl rfl rfl rfl (ref1_IsSet_ok ha52) rfl ?_
                    refine AOps.guardT rfl rfl rfl hb9 ?_; refine AOps.not rfl rfl ?_
                    refine AOps.pickF rfl hb9 rfl rfl ?_
                    refine AOps.move rfl rfl ?_
                    refine AOps.guardT rfl rfl rfl hb10 ?_; refine W.fieldAddr rfl rfl rfl rfl ?_
                    refine AOps.guardT rfl rfl rfl hb10 ?_; refine AOps.load rfl rfl rfl rfl rfl rfl ?_
                    refine AOps.guardT rfl rfl rfl hb10 ?_; refine W.fieldAddr rfl rfl rfl rfl ?_
                    refine AOps.guardT rfl rfl rfl hb10 ?_; refine AOps.load rfl rfl rfl rfl rfl rfl ?_
                    refine AOps.guardT rfl rfl rfl hb10 ?_; refine AOps.callR rfl rfl rfl rfl (ref1_IsSet_ok ha60) rfl ?_
                    refine AOps.guardT rfl rfl rfl hb10 ?_; refine AOps.not rfl rfl ?_
                    refine AOps.pickF rfl hb10 rfl rfl ?_
                    refine AOps.move rfl rfl ?_
                    refine AOps.guardF rfl rfl rfl hb11 ?_
                    refine AOps.guardF rfl rfl rfl hb11 ?_
                    refine AOps.guardF rfl rfl rfl hb11 ?_
                    refine AOps.guardF rfl rfl rfl hb11 ?_
                    refine AOps.guardF rfl rfl rfl hb11 ?_
                    refine AOps.guardF rfl rfl rfl hb11 ?_
                    refine AOps.pickT rfl hb11 rfl rfl ?_
                    refine AOps.nil ?_
                    have ej := Option.some.inj hx8
                    subst ej
                    refine thn_normal ?_
                    exact Sub.env ⟨rfl, rfl, rfl, rfl, rfl, trivial⟩
                  · replace hx8 := iteBF hb11 hx8
                    obtain ⟨a68, ha68, hx8⟩ := bind_some hx8
                    refine AWP.region ?_
                    refine W.fieldAddr rfl rfl rfl rfl ?_
                    refine AOps.load rfl rfl rfl rfl rfl rfl ?_
                    refine W.fieldAddr rfl rfl rfl rfl ?_
                    refine AOps.load rfl rfl rfl rfl rfl rfl ?_
                    refine AOps.callR rfl rfl rfl rfl (ref1_IsSet_ok ha45) rfl ?_
                    refine AOps.not rfl rfl ?_
                    refine AOps.move rfl rfl ?_
                    refine AOps.guardT rfl rfl rfl hb9 ?_; refine W.fieldAddr rfl rfl rfl rfl ?_
                    refine AOps.guardT rfl rfl rfl hb9 ?_; refine AOps.load rfl rfl rfl rfl rfl rfl ?_
                    refine AOps.guardT rfl rfl rfl hb9 ?_; refine W.fieldAddr rfl rfl rfl rfl ?_
                    refine AOps.guardT rfl rfl rfl hb9 ?_; refine AOps.load rfl rfl rfl rfl rfl rfl ?_
                    refine AOps.guardT rfl rfl rfl hb9 ?_; refine AOps.callR rfl rfl rfl rfl (ref1_IsSet_ok ha52) rfl ?_
                    refine AOps.guardT rfl rfl rfl hb9 ?_; refine AOps.not rfl rfl ?_
                    refine AOps.pickF rfl hb9 rfl rfl ?_
                    refine AOps.move rfl rfl ?_
                    refine AOps.guardT rfl rfl rfl hb10 ?_; refine W.fieldAddr rfl rfl rfl rfl ?_
                    refine AOps.guardT rfl rfl rfl hb10 ?_; refine AOps.load rfl rfl rfl rfl rfl rfl ?_
                    refine AOps.guardT rfl rfl rfl hb10 ?_; refine W.fieldAddr rfl rfl rfl rfl ?_
                    refine AOps.guardT rfl rfl rfl hb10 ?_; refine AOps.load rfl rfl rfl rfl rfl rfl ?_
                    refine AOps.guardT rfl rfl rfl hb10 ?_; refine AOps.callR rfl rfl rfl rfl (ref1_IsSet_ok ha60) rfl ?_
                    refine AOps.guardT rfl rfl rfl hb10 ?_; refine AOps.not rfl rfl ?_
                    refine AOps.pickF rfl hb10 rfl rfl ?_
                    refine AOps.move rfl rfl ?_
                    refine AOps.guardT rfl rfl rfl hb11 ?_; refine W.fieldAddr rfl rfl rfl rfl ?_
                    refine AOps.guardT rfl rfl rfl hb11 ?_; refine AOps.load rfl rfl rfl rfl rfl rfl ?_
                    refine AOps.guardT rfl rfl rfl hb11 ?_; refine W.fieldAddr rfl rfl rfl rfl ?_
                    refine AOps.guardT rfl rfl rfl hb11 ?_; refine AOps.load rfl rfl rfl rfl rfl rfl ?_
                    refine AOps.guardT rfl rfl rfl hb11 ?_; refine AOps.callR rfl rfl rfl rfl (ref1_Disjoint_ok ha68) rfl ?_
                    refine AOps.guardT rfl rfl rfl hb11 ?_; refine AOps.not rfl rfl ?_
                    refine AOps.pickF rfl hb11 rfl rfl ?_
                    refine AOps.nil ?_
                    have ej := Option.some.inj hx8
                    subst ej
                    refine thn_normal ?_
                    exact Sub.env ⟨rfl, rfl, rfl, rfl, rfl, trivial⟩
            · refine AWP.iteB rfl h (fun hc12 h => ?_) (fun hc12 h => ?_)
              · refine AWP.seq ?_
                obtain ⟨a72, ha72, h⟩ := bind_some h
                refine AWP.region ?_
                refine AOps.move rfl rfl ?_
                refine AOps.callR rfl rfl rfl rfl (ref1_At_ok ha72) rfl ?_
                refine W.storeAgg rfl rfl rfl rfl rfl rfl rfl ?_
                refine AOps.nil ?_
                refine thn_normal ?_
                refine AWP.ret ?_
                refine thn_ret ?_
                refine inB_ret ?_
                refine thn_ret ?_
                have ej := Option.some.inj h
                subst ej
                refine thn_ret ⟨_, rfl, rfl, ?_⟩
                exact Done.ret rfl rfl
              · refine AWP.skip ?_
                refine thn_normal ?_
                refine AWP.seq ?_
                obtain ⟨a75, ha75, h⟩ := bind_some h
                refine AWP.region ?_
                refine W.fieldAddr rfl rfl rfl rfl ?_
                refine AOps.load rfl rfl rfl rfl rfl rfl ?_
                refine AOps.callR rfl rfl rfl rfl (ref1_In_ok ha75) rfl ?_
                refine AOps.not rfl rfl ?_
                refine AOps.nil ?_
                refine thn_normal ?_
                refine AWP.iteB rfl h (fun hc13 h => ?_) (fun hc13 h => ?_)
                · refine AWP.seq ?_
                  obtain ⟨a78, ha78, h⟩ := bind_some h
                  refine AWP.region ?_
                  refine AOps.move rfl rfl ?_
                  refine AOps.callR rfl rfl rfl rfl (ref1_At_ok ha78) rfl ?_
                  refine W.storeAgg rfl rfl rfl rfl rfl rfl rfl ?_
                  refine AOps.nil ?_
                  refine thn_normal ?_
                  refine AWP.ret ?_
                  refine inB_ret ?_
                  refine thn_ret ?_
                  have ej := Option.some.inj h
                  subst ej
                  refine thn_ret ⟨_, rfl, rfl, ?_⟩
                  exact Done.ret rfl rfl
                · refine AWP.skip ?_
                  refine inB_normal ?_
                  refine thn_normal ?_
                  refine AWP.region ?_
                  refine AOps.move rfl rfl ?_
                  refine AOps.add rfl rfl rfl (by omega) ?_
                  refine AOps.assign rfl rfl ?_
                  refine AOps.nil ?_
                  have ej := Option.some.inj h
                  subst ej
                  refine thn_normal ⟨_, rfl, ?_⟩
                  exact Sub.cut ⟨rfl, rfl, rfl, trivial⟩ rfl ⟨.one rfl, .one rfl, trivial⟩ rfl
          · intro e s hq
            rcases oo with u | x
            · try dsimp only at h hq
              obtain ⟨rfl, hs⟩ := hq
              refine ⟨_, hs, ?_⟩
              refine inB_exit ?_
              refine thn_normal ?_
              refine AWP.seq ?_
              refine AWP.region ?_
              refine W.build rfl rfl rfl rfl ?_
              refine W.storeAgg rfl rfl rfl rfl rfl rfl rfl ?_
              refine AOps.nil ?_
              refine thn_normal ?_
              refine AWP.ret ?_
              have ej := Option.some.inj h
              subst ej
              exact Done.ret rfl rfl
            · try dsimp only at h hq
              obtain ⟨rfl, hs⟩ := hq
              refine ⟨_, Sub.refl _ _, ?_⟩
              refine inB_ret ?_
              refine thn_ret ?_
              have ej := Option.some.inj h
              subst ej
              exact hs

theorem ref1_StepsFault_ok {operators : Int} {plan : List Int} {r : TFault} (h : ref1_StepsFault operators plan = some r) : PureOk Try.prog 34 [.c (int operators), .c (row 1 intI plan)] (.agg [int r.code, int r.index]) := by
  unfold PureOk
  refine FnOk.enter (rs := [.cell 4 29 2]) Try.func34 rfl Try.ntmps34 Try.results34 rfl ⟨rv _ rfl, trivial⟩ (by kernel_rfl) rfl ?_
  unfold ref1_StepsFault at h
  refine AWP.seq ?_
  refine AWP.region ?_
  refine W.alloc rfl rfl rfl rfl ?_
  refine AOps.nil ?_
  refine thn_normal ?_
  refine AWP.seq ?_
  refine AWP.seq ?_
  refine AWP.region ?_
  refine AOps.move rfl rfl ?_
  refine S.len rfl rfl (fun hl7 => ?_)
  refine AOps.gtr rfl rfl rfl ?_
  refine AOps.nil ?_
  refine thn_normal ?_
  refine AWP.ite rfl h (fun hc3 h => ?_) (fun hc3 h => ?_)
  · refine AWP.seq ?_
    obtain ⟨a9, ha9, h⟩ := bind_some h
    refine AWP.region ?_
    refine AOps.callR rfl rfl rfl rfl (ref1_At_ok ha9) rfl ?_
    refine W.storeAgg rfl rfl rfl rfl rfl rfl rfl ?_
    refine AOps.nil ?_
    refine thn_normal ?_
    refine AWP.ret ?_
    refine thn_ret ?_
    have ej := Option.some.inj h
    subst ej
    exact Done.ret rfl rfl
  · refine AWP.skip ?_
    refine thn_normal ?_
    refine AWP.seq ?_
    refine AWP.seq ?_
    refine AWP.region ?_
    refine AOps.assign rfl rfl ?_
    refine AOps.nil ?_
    refine thn_normal ?_
    refine AWP.block ?_
    obtain ⟨oo, ho1, h⟩ := bind_some h
    refine AWP.rngS ho1 (fun iv4 _ => ⟨[(0, .c (int operators)), (1, .c (row 1 intI plan)), (4, .c (.ptr 0 0 0)), (5, .c (int iv4))], [.one (.cells 2 [[int 0, int 0]])]⟩) (fun o e st => match o with | .inl _ => e = .exit 0 ∧ Sub [] st ⟨[(4, .c (.ptr 0 0 0))], [.one (.cells 2 [[int 0, int 0]])]⟩ | .inr x => e = .ret ∧ Done [.cell 4 29 2] (fun t _ => t = .agg [int x.code, int x.index]) .ret st) ?_ ?_ ?_ ?_
    · try dsimp only
      exact Sub.env ⟨rfl, rfl, rfl, rfl, trivial⟩
    · intro iv4 s hloiv4 hltiv4 _
      try dsimp only
      refine AWP.seq ?_
      refine AWP.seq ?_
      refine AWP.region ?_
      refine AOps.move rfl rfl ?_
      refine AOps.move rfl rfl ?_
      refine S.len rfl rfl (fun hl12 => ?_)
      refine AOps.lss rfl rfl rfl ?_
      refine AOps.nil ?_
      refine thn_normal ?_
      refine AWP.condNP rfl hltiv4 ?_
      refine AWP.exit ?_
      refine thn_exit ?_
      refine thn_exit ⟨rfl, ?_⟩
      exact Sub.env ⟨rfl, trivial⟩
    · intro iv4 s o hloiv4 hltiv4 h
      unfold ref1_StepsFault_l1 at h
      try dsimp only at h ⊢
      refine AWP.seq ?_
      refine AWP.seq ?_
      refine AWP.region ?_
      refine AOps.move rfl rfl ?_
      refine AOps.move rfl rfl ?_
      refine S.len rfl rfl (fun hl12 => ?_)
      refine AOps.lss rfl rfl rfl ?_
      refine AOps.nil ?_
      refine thn_normal ?_
      refine AWP.condP rfl hltiv4 ?_
      refine AWP.skip ?_
      refine thn_normal ?_
      refine AWP.seq ?_
      refine AWP.block ?_
      refine AWP.seq ?_
      obtain ⟨a18, ha18, h⟩ := bind_some h
      obtain ⟨a22, ha22, h⟩ := bind_some h
      refine AWP.region ?_
      refine AOps.move rfl rfl ?_
      refine AOps.move rfl rfl ?_
      refine S.idx ha18 rfl rfl rfl rfl ?_
      refine AOps.loadI rfl rfl rfl rfl ?_
      refine AOps.move rfl rfl ?_
      refine S.sub rfl rfl rfl ?_
      refine AOps.callR rfl rfl rfl rfl (ref1_In_ok ha22) rfl ?_
      refine AOps.not rfl rfl ?_
      refine AOps.nil ?_
      refine thn_normal ?_
      refine AWP.iteB rfl h (fun hc5 h => ?_) (fun hc5 h => ?_)
      · refine AWP.seq ?_
        obtain ⟨a24, ha24, h⟩ := bind_some h
        refine AWP.region ?_
        refine AOps.callR rfl rfl rfl rfl (ref1_At_ok ha24) rfl ?_
        refine W.storeAgg rfl rfl rfl rfl rfl rfl rfl ?_
        refine AOps.nil ?_
        refine thn_normal ?_
        refine AWP.ret ?_
        refine inB_ret ?_
        refine thn_ret ?_
        have ej := Option.some.inj h
        subst ej
        refine thn_ret ⟨_, rfl, rfl, ?_⟩
        exact Done.ret rfl rfl
      · refine AWP.skip ?_
        refine inB_normal ?_
        refine thn_normal ?_
        refine AWP.region ?_
        refine AOps.move rfl rfl ?_
        refine AOps.add rfl rfl rfl (by omega) ?_
        refine AOps.assign rfl rfl ?_
        refine AOps.nil ?_
        have ej := Option.some.inj h
        subst ej
        refine thn_normal ⟨_, rfl, ?_⟩
        exact Sub.env ⟨rfl, rfl, rfl, rfl, trivial⟩
    · intro e s hq
      rcases oo with u | x
      · try dsimp only at h hq
        obtain ⟨rfl, hs⟩ := hq
        refine ⟨_, hs, ?_⟩
        refine inB_exit ?_
        refine thn_normal ?_
        refine AWP.seq ?_
        refine AWP.region ?_
        refine W.build rfl rfl rfl rfl ?_
        refine W.storeAgg rfl rfl rfl rfl rfl rfl rfl ?_
        refine AOps.nil ?_
        refine thn_normal ?_
        refine AWP.ret ?_
        have ej := Option.some.inj h
        subst ej
        exact Done.ret rfl rfl
      · try dsimp only at h hq
        obtain ⟨rfl, hs⟩ := hq
        refine ⟨_, Sub.refl _ _, ?_⟩
        refine inB_ret ?_
        refine thn_ret ?_
        have ej := Option.some.inj h
        subst ej
        exact hs

theorem ref1_PlanFault_ok {t : TTask} {plan : List Int} {r : TFault} (h : ref1_PlanFault t plan = some r) : PureOk Try.prog 16 [.agg [int t.facts, row 1 intI t.init, row 1 intI t.goal, row 4 eTOperator t.operators], .c (row 1 intI plan)] (.agg [int r.code, int r.index]) := by
  unfold PureOk
  refine FnOk.enter (rs := [.cell 4 29 2]) Try.func16 rfl Try.ntmps16 Try.results16 rfl ⟨rv _ rfl, trivial⟩ (by kernel_rfl) rfl ?_
  unfold ref1_PlanFault at h
  refine AWP.seq ?_
  refine AWP.region ?_
  refine W.box rfl rfl rfl rfl rfl rfl ?_
  refine W.alloc rfl rfl rfl rfl ?_
  refine AOps.nil ?_
  refine thn_normal ?_
  refine AWP.seq ?_
  obtain ⟨a7, ha7, h⟩ := bind_some h
  refine AWP.region ?_
  refine W.loadAgg rfl rfl rfl rfl rfl rfl rfl ?_
  refine AOps.callR rfl rfl rfl rfl (ref1_TaskFault_ok ha7) rfl ?_
  refine W.alloc rfl rfl rfl rfl ?_
  refine W.storeAgg rfl rfl rfl rfl rfl rfl rfl ?_
  refine AOps.nil ?_
  refine thn_normal ?_
  obtain ⟨⟨c3, c4⟩, hx5, h⟩ := bind_some h
  refine AWP.seqJ (⟨[(4, .c (.ptr 1 0 0)), (5, .c (.ptr 2 0 0))], [.dead, .one (.cells 2 [[int 0, int 0]]), .one (.cells 2 [[int c3, int c4]])]⟩) ?_ ?_
  · refine AWP.seq ?_
    refine AWP.region ?_
    refine W.fieldAddr rfl rfl rfl rfl ?_
    refine AOps.load rfl rfl rfl rfl rfl rfl ?_
    refine AOps.eql rfl rfl rfl ?_
    refine AOps.nil ?_
    refine thn_normal ?_
    refine AWP.ite rfl hx5 (fun hc6 hx5 => ?_) (fun hc6 hx5 => ?_)
    · obtain ⟨a15, ha15, hx5⟩ := bind_some hx5
      refine AWP.region ?_
      refine W.fieldAddr rfl rfl rfl rfl ?_
      refine AOps.load rfl rfl rfl rfl rfl rfl ?_
      refine S.len rfl rfl (fun hl13 => ?_)
      refine AOps.move rfl rfl ?_
      refine AOps.callR rfl rfl rfl rfl (ref1_StepsFault_ok ha15) rfl ?_
      refine W.storeAgg rfl rfl rfl rfl rfl rfl rfl ?_
      refine AOps.nil ?_
      have ej := Option.some.inj hx5
      simp only [Prod.mk.injEq] at ej
      obtain ⟨ej0, ej1⟩ := ej
      subst ej0
      subst ej1
      refine thn_normal ?_
      exact Sub.cut ⟨rfl, rfl, trivial⟩ rfl ⟨.dead, .one rfl, .one rfl, trivial⟩ rfl
    · refine AWP.skip ?_
      have ej := Option.some.inj hx5
      simp only [Prod.mk.injEq] at ej
      obtain ⟨ej0, ej1⟩ := ej
      subst ej0
      subst ej1
      refine thn_normal ?_
      exact Sub.cut ⟨rfl, rfl, trivial⟩ rfl ⟨.dead, .one rfl, .one rfl, trivial⟩ rfl
  · try dsimp only at h
    refine AWP.seq ?_
    refine AWP.region ?_
    refine W.loadAgg rfl rfl rfl rfl rfl rfl rfl ?_
    refine W.storeAgg rfl rfl rfl rfl rfl rfl rfl ?_
    refine AOps.nil ?_
    refine thn_normal ?_
    refine AWP.ret ?_
    have ej := Option.some.inj h
    subst ej
    exact Done.ret rfl rfl

theorem ref1_StateFault_ok {t : TTask} {sv : List Int} {r : TFault} (h : ref1_StateFault t sv = some r) : PureOk Try.prog 17 [.agg [int t.facts, row 1 intI t.init, row 1 intI t.goal, row 4 eTOperator t.operators], .c (row 1 intI sv)] (.agg [int r.code, int r.index]) := by
  unfold PureOk
  refine FnOk.enter (rs := [.cell 4 29 2]) Try.func17 rfl Try.ntmps17 Try.results17 rfl ⟨rv _ rfl, trivial⟩ (by kernel_rfl) rfl ?_
  unfold ref1_StateFault at h
  refine AWP.seq ?_
  refine AWP.region ?_
  refine W.box rfl rfl rfl rfl rfl rfl ?_
  refine W.alloc rfl rfl rfl rfl ?_
  refine AOps.nil ?_
  refine thn_normal ?_
  refine AWP.seq ?_
  obtain ⟨a7, ha7, h⟩ := bind_some h
  refine AWP.region ?_
  refine W.loadAgg rfl rfl rfl rfl rfl rfl rfl ?_
  refine AOps.callR rfl rfl rfl rfl (ref1_TaskFault_ok ha7) rfl ?_
  refine W.alloc rfl rfl rfl rfl ?_
  refine W.storeAgg rfl rfl rfl rfl rfl rfl rfl ?_
  refine AOps.nil ?_
  refine thn_normal ?_
  obtain ⟨⟨c3, c4⟩, hx5, h⟩ := bind_some h
  refine AWP.seqJ (⟨[(4, .c (.ptr 1 0 0)), (5, .c (.ptr 2 0 0))], [.dead, .one (.cells 2 [[int 0, int 0]]), .one (.cells 2 [[int c3, int c4]])]⟩) ?_ ?_
  · obtain ⟨t6, hx7, hx5⟩ := bind_some hx5
    refine AWP.seqJ (⟨[(4, .c (.ptr 1 0 0)), (5, .c (.ptr 2 0 0)), (16, .c (bool t6))], [.dead, .one (.cells 2 [[int 0, int 0]]), .one (.cells 2 [[int a7.code, int a7.index]])]⟩) ?_ ?_
    · rcases Bool.eq_false_or_eq_true (decide (a7.code = 0)) with hb8 | hb8
      · replace hx7 := iteDT hb8 hx7
        obtain ⟨a14, ha14, hx7⟩ := bind_some hx7
        refine AWP.region ?_
        refine W.fieldAddr rfl rfl rfl rfl ?_
        refine AOps.load rfl rfl rfl rfl rfl rfl ?_
        refine AOps.eql rfl rfl rfl ?_
        refine AOps.move rfl rfl ?_
        refine AOps.guardT rfl rfl rfl hb8 ?_; refine W.loadAgg rfl rfl rfl rfl rfl rfl rfl ?_
        refine AOps.guardT rfl rfl rfl hb8 ?_; refine AOps.move rfl rfl ?_
        refine AOps.guardT rfl rfl rfl hb8 ?_; refine AOps.callR rfl rfl rfl rfl (ref1_StateOk_ok ha14) rfl ?_
        refine AOps.guardT rfl rfl rfl hb8 ?_; refine AOps.not rfl rfl ?_
        refine AOps.pickT rfl hb8 rfl rfl ?_
        refine AOps.nil ?_
        have ej := Option.some.inj hx7
        subst ej
        refine thn_normal ?_
        exact Sub.cut ⟨rfl, rfl, rfl, trivial⟩ rfl ⟨.dead, .one rfl, .one rfl, trivial⟩ rfl
      · replace hx7 := iteDF hb8 hx7
        refine AWP.region ?_
        refine W.fieldAddr rfl rfl rfl rfl ?_
        refine AOps.load rfl rfl rfl rfl rfl rfl ?_
        refine AOps.eql rfl rfl rfl ?_
        refine AOps.move rfl rfl ?_
        refine AOps.guardF rfl rfl rfl hb8 ?_
        refine AOps.guardF rfl rfl rfl hb8 ?_
        refine AOps.guardF rfl rfl rfl hb8 ?_
        refine AOps.guardF rfl rfl rfl hb8 ?_
        refine AOps.pickF rfl hb8 rfl rfl ?_
        refine AOps.nil ?_
        have ej := Option.some.inj hx7
        subst ej
        refine thn_normal ?_
        exact Sub.cut ⟨rfl, rfl, rfl, trivial⟩ rfl ⟨.dead, .one rfl, .one rfl, trivial⟩ rfl
    · refine AWP.iteB rfl hx5 (fun hc9 hx5 => ?_) (fun hc9 hx5 => ?_)
      · obtain ⟨a17, ha17, hx5⟩ := bind_some hx5
        refine AWP.region ?_
        refine AOps.callR rfl rfl rfl rfl (ref1_At_ok ha17) rfl ?_
        refine W.storeAgg rfl rfl rfl rfl rfl rfl rfl ?_
        refine AOps.nil ?_
        have ej := Option.some.inj hx5
        simp only [Prod.mk.injEq] at ej
        obtain ⟨ej0, ej1⟩ := ej
        subst ej0
        subst ej1
        refine thn_normal ?_
        exact Sub.env ⟨rfl, rfl, trivial⟩
      · refine AWP.skip ?_
        have ej := Option.some.inj hx5
        simp only [Prod.mk.injEq] at ej
        obtain ⟨ej0, ej1⟩ := ej
        subst ej0
        subst ej1
        refine thn_normal ?_
        exact Sub.env ⟨rfl, rfl, trivial⟩
  · try dsimp only at h
    refine AWP.seq ?_
    refine AWP.region ?_
    refine W.loadAgg rfl rfl rfl rfl rfl rfl rfl ?_
    refine W.storeAgg rfl rfl rfl rfl rfl rfl rfl ?_
    refine AOps.nil ?_
    refine thn_normal ?_
    refine AWP.ret ?_
    have ej := Option.some.inj h
    subst ej
    exact Done.ret rfl rfl

theorem ref8_Full_ok {nv : Int} {r : (List Int)} (h : ref8_Full nv = some r) : FreshOk Try.prog 35 [.c (int nv)] 1 (List.map intI r) := by
  unfold FreshOk
  refine FnOk.enter (rs := [.t 2]) Try.func35 rfl Try.ntmps35 Try.results35 rfl ⟨trivial, trivial⟩ (by kernel_rfl) rfl ?_
  unfold ref8_Full at h
  refine AWP.seq ?_
  refine AWP.region ?_
  refine AOps.assign rfl rfl ?_
  refine AOps.nil ?_
  refine thn_normal ?_
  refine AWP.seq ?_
  refine AWP.region ?_
  refine AOps.assign rfl rfl ?_
  refine AOps.nil ?_
  refine thn_normal ?_
  refine AWP.seq ?_
  refine AWP.seq ?_
  refine AWP.region ?_
  refine AOps.assign rfl rfl ?_
  refine AOps.nil ?_
  refine thn_normal ?_
  refine AWP.block ?_
  refine AWP.virtV 1 intI 3 rfl rfl rfl ?_
  obtain ⟨hnp3, h⟩ := ite_none h
  obtain ⟨c2, ho1, h⟩ := bind_some h
  refine AWP.forS ho1 (fun p3 c2 => ⟨[(0, .c (int nv)), (3, .c (.own 0 0 c2.length)), (4, .c (int p3))], [.one (vec 1 intI c2)]⟩) (fun c2 e st => e = .exit 0 ∧ Sub [] st ⟨[(3, .c (.own 0 0 c2.length))], [.one (vec 1 intI c2)]⟩) ?_ ?_ ?_ ?_
  · try dsimp only
    exact Sub.env ⟨rfl, (own_len (by first | rfl | simp only [List.length_set])), rfl, trivial⟩
  · intro p3 c2 hlop3 hltp3 _
    try dsimp only
    refine AWP.seq ?_
    refine AWP.seq ?_
    refine AWP.region ?_
    refine AOps.move rfl rfl ?_
    refine AOps.move rfl rfl ?_
    refine AOps.lss rfl rfl rfl ?_
    refine AOps.nil ?_
    refine thn_normal ?_
    refine AWP.condNP rfl hltp3 ?_
    refine AWP.exit ?_
    refine thn_exit ?_
    refine thn_exit ⟨rfl, ?_⟩
    exact Sub.env ⟨rfl, trivial⟩
  · intro p3 c2 o hlop3 hltp3 h
    unfold ref8_Full_l1 at h
    try dsimp only at h ⊢
    refine AWP.seq ?_
    refine AWP.seq ?_
    refine AWP.region ?_
    refine AOps.move rfl rfl ?_
    refine AOps.move rfl rfl ?_
    refine AOps.lss rfl rfl rfl ?_
    refine AOps.nil ?_
    refine thn_normal ?_
    refine AWP.condP rfl hltp3 ?_
    refine AWP.skip ?_
    refine thn_normal ?_
    refine AWP.seq ?_
    refine AWP.block ?_
    obtain ⟨a13, ha13, h⟩ := bind_some h
    refine AWP.region ?_
    refine AOps.move rfl rfl ?_
    refine AOps.move rfl rfl ?_
    refine S.lit (f := intI) (l := [p3]) (ess := [[int p3]]) rfl rfl rfl rfl rfl rfl rfl ⟨⟨.inl rfl, trivial⟩, trivial⟩ rfl rfl rfl ?_
    refine S.append (f := intI) ha13 rfl rfl rfl rfl rfl rfl (.own rfl rfl) rfl rfl rfl rfl ?_
    refine AOps.assign rfl rfl ?_
    refine AOps.nil ?_
    refine inB_normal ?_
    refine thn_normal ?_
    refine AWP.move (env' := [(0, .c (int nv)), (3, .c (.own 0 0 a13.length)), (4, .c (int p3))]) (σ' := [.one (vec 1 intI a13), .one (vec 1 intI [p3])]) 0 2 rfl rfl rfl ⟨rfl, rfl, rfl, trivial⟩ rfl ⟨⟨Blk.im_ok _ _ _, vec_mv rfl⟩, ⟨Blk.im_ok _ _ _, vec_mv rfl⟩, trivial⟩ ?_
    refine AWP.region ?_
    refine AOps.move rfl rfl ?_
    refine AOps.add rfl rfl rfl (by omega) ?_
    refine AOps.assign rfl rfl ?_
    refine AOps.nil ?_
    have ej := Option.some.inj h
    subst ej
    refine thn_normal ?_
    exact Sub.cut ⟨rfl, rfl, rfl, trivial⟩ rfl ⟨.vec, trivial⟩ rfl
  · intro e s hq
    obtain ⟨rfl, hs⟩ := hq
    refine ⟨_, hs, ?_⟩
    refine inB_exit ?_
    refine thn_normal ?_
    refine AWP.seq ?_
    refine AWP.region ?_
    refine AOps.move rfl rfl ?_
    refine AOps.assign rfl rfl ?_
    refine AOps.nil ?_
    refine thn_normal ?_
    refine AWP.ret ?_
    have ej := Option.some.inj h
    subst ej
    exact Done.ret rfl (Fresh.mk rfl rfl)

theorem ref8_without_ok {l : List Int} {nv : Int} {r : (List Int)} (h : ref8_without l nv = some r) : FreshOk Try.prog 36 [.c (row 1 intI l), .c (int nv)] 1 (List.map intI r) := by
  unfold FreshOk
  refine FnOk.enter (rs := [.t 4]) Try.func36 rfl Try.ntmps36 Try.results36 rfl ⟨trivial, trivial⟩ (by kernel_rfl) rfl ?_
  unfold ref8_without at h
  refine AWP.seq ?_
  refine AWP.region ?_
  refine AOps.assign rfl rfl ?_
  refine AOps.nil ?_
  refine thn_normal ?_
  refine AWP.seq ?_
  refine AWP.region ?_
  refine AOps.assign rfl rfl ?_
  refine AOps.nil ?_
  refine thn_normal ?_
  refine AWP.seq ?_
  refine AWP.seq ?_
  refine AWP.region ?_
  refine AOps.assign rfl rfl ?_
  refine AOps.nil ?_
  refine thn_normal ?_
  refine AWP.block ?_
  refine AWP.virtV 1 intI 5 rfl rfl rfl ?_
  obtain ⟨c3, ho1, h⟩ := bind_some h
  refine AWP.forS ho1 (fun iv4 c3 => ⟨[(0, .c (row 1 intI l)), (1, .c (int nv)), (5, .c (.own 0 0 c3.length)), (6, .c (int iv4))], [.one (vec 1 intI c3)]⟩) (fun c3 e st => e = .exit 0 ∧ Sub [] st ⟨[(5, .c (.own 0 0 c3.length))], [.one (vec 1 intI c3)]⟩) ?_ ?_ ?_ ?_
  · try dsimp only
    exact Sub.env ⟨rfl, rfl, (own_len (by first | rfl | simp only [List.length_set])), rfl, trivial⟩
  · intro iv4 c3 hloiv4 hltiv4 _
    try dsimp only
    refine AWP.seq ?_
    refine AWP.seq ?_
    refine AWP.region ?_
    refine AOps.move rfl rfl ?_
    refine AOps.move rfl rfl ?_
    refine S.len rfl rfl (fun hl9 => ?_)
    refine AOps.lss rfl rfl rfl ?_
    refine AOps.nil ?_
    refine thn_normal ?_
    refine AWP.condNP rfl hltiv4 ?_
    refine AWP.exit ?_
    refine thn_exit ?_
    refine thn_exit ⟨rfl, ?_⟩
    exact Sub.env ⟨rfl, trivial⟩
  · intro iv4 c3 o hloiv4 hltiv4 h
    unfold ref8_without_l1 at h
    try dsimp only at h ⊢
    refine AWP.seq ?_
    refine AWP.seq ?_
    refine AWP.region ?_
    refine AOps.move rfl rfl ?_
    refine AOps.move rfl rfl ?_
    refine S.len rfl rfl (fun hl9 => ?_)
    refine AOps.lss rfl rfl rfl ?_
    refine AOps.nil ?_
    refine thn_normal ?_
    refine AWP.condP rfl hltiv4 ?_
    refine AWP.skip ?_
    refine thn_normal ?_
    obtain ⟨c5, hx6, h⟩ := bind_some h
    refine AWP.seqJ (⟨[(0, .c (row 1 intI l)), (1, .c (int nv)), (5, .c (.own 2 0 c5.length)), (6, .c (int iv4))], [.dead, .dead, .one (vec 1 intI c5)]⟩) ?_ ?_
    · refine AWP.block ?_
      refine AWP.seq ?_
      obtain ⟨a15, ha15, hx6⟩ := bind_some hx6
      refine AWP.region ?_
      refine AOps.move rfl rfl ?_
      refine AOps.move rfl rfl ?_
      refine S.idx ha15 rfl rfl rfl rfl ?_
      refine AOps.loadI rfl rfl rfl rfl ?_
      refine AOps.move rfl rfl ?_
      refine AOps.neq rfl rfl rfl ?_
      refine AOps.nil ?_
      refine thn_normal ?_
      refine AWP.iteN rfl hx6 (fun hc7 hx6 => ?_) (fun hc7 hx6 => ?_)
      · obtain ⟨a22, ha22, hx6⟩ := bind_some hx6
        obtain ⟨a25, ha25, hx6⟩ := bind_some hx6
        refine AWP.region ?_
        refine AOps.move rfl rfl ?_
        refine AOps.move rfl rfl ?_
        refine AOps.move rfl rfl ?_
        refine S.idx ha22 rfl rfl rfl rfl ?_
        refine AOps.loadI rfl rfl rfl rfl ?_
        refine S.lit (f := intI) (l := [a22]) (ess := [[int a22]]) rfl rfl rfl rfl rfl rfl rfl ⟨⟨.inl rfl, trivial⟩, trivial⟩ rfl rfl rfl ?_
        refine S.append (f := intI) ha25 rfl rfl rfl rfl rfl rfl (.own rfl rfl) rfl rfl rfl rfl ?_
        refine AOps.assign rfl rfl ?_
        refine AOps.nil ?_
        refine inB_normal ?_
        have ej := Option.some.inj hx6
        subst ej
        refine thn_normal ?_
        exact Sub.cut ⟨rfl, rfl, rfl, rfl, trivial⟩ rfl ⟨.dead, .dead, .vec, trivial⟩ rfl
      · refine AWP.skip ?_
        refine inB_normal ?_
        have ej := Option.some.inj hx6
        subst ej
        refine thn_normal ?_
        exact (Sub.move (env' := [(0, .c (row 1 intI l)), (1, .c (int nv)), (5, .c (.own 2 0 c3.length)), (6, .c (int iv4))]) (σ' := [.dead, .dead, .one (vec 1 intI c3)]) 2 0 rfl rfl rfl ⟨rfl, rfl, rfl, rfl, trivial⟩ rfl ⟨trivial, trivial, ⟨Blk.im_ok _ _ _, vec_mv rfl⟩, trivial⟩).trans (Sub.env ⟨rfl, rfl, rfl, rfl, trivial⟩)
    · refine AWP.region ?_
      refine AOps.move rfl rfl ?_
      refine AOps.add rfl rfl rfl (by omega) ?_
      refine AOps.assign rfl rfl ?_
      refine AOps.nil ?_
      have ej := Option.some.inj h
      subst ej
      refine thn_normal ?_
      exact (Sub.move (env' := [(0, .c (row 1 intI l)), (1, .c (int nv)), (5, .c (.own 0 0 c5.length)), (6, .c (int (iv4 + 1)))]) (σ' := [.one (vec 1 intI c5), .dead]) 0 2 rfl rfl rfl ⟨rfl, rfl, rfl, rfl, trivial⟩ rfl ⟨⟨Blk.im_ok _ _ _, vec_mv rfl⟩, trivial, trivial⟩).trans (Sub.cut ⟨rfl, rfl, rfl, rfl, trivial⟩ rfl ⟨.vec, trivial⟩ rfl)
  · intro e s hq
    obtain ⟨rfl, hs⟩ := hq
    refine ⟨_, hs, ?_⟩
    refine inB_exit ?_
    refine thn_normal ?_
    refine AWP.seq ?_
    refine AWP.region ?_
    refine AOps.move rfl rfl ?_
    refine AOps.assign rfl rfl ?_
    refine AOps.nil ?_
    refine thn_normal ?_
    refine AWP.ret ?_
    have ej := Option.some.inj h
    subst ej
    exact Done.ret rfl (Fresh.mk rfl rfl)

theorem ref8_Condition_ok {t : TTask} {rest : List Int} {r : (List Int) × Bool} (h : ref8_Condition t rest = some r) : PureOk Try.prog 19 [.agg [int t.facts, row 1 intI t.init, row 1 intI t.goal, row 4 eTOperator t.operators], .c (row 1 intI rest)] (.tup [.c (row 1 intI r.1), .c (bool r.2)]) := by
  unfold PureOk
  refine FnOk.enter (rs := [.t 4, .t 5]) Try.func19 rfl Try.ntmps19 Try.results19 rfl ⟨trivial, trivial, trivial⟩ (by kernel_rfl) rfl ?_
  unfold ref8_Condition at h
  refine AWP.seq ?_
  refine AWP.region ?_
  refine W.box rfl rfl rfl rfl rfl rfl ?_
  refine AOps.assign rfl rfl ?_
  refine AOps.assign rfl rfl ?_
  refine AOps.nil ?_
  refine thn_normal ?_
  refine AWP.seq ?_
  obtain ⟨a11, ha11, h⟩ := bind_some h
  refine AWP.region ?_
  refine W.fieldAddr rfl rfl rfl rfl ?_
  refine AOps.load rfl rfl rfl rfl rfl rfl ?_
  refine S.fresh rfl rfl rfl rfl (ref8_Full_ok ha11) rfl rfl ?_
  refine AOps.assign rfl rfl ?_
  refine AOps.nil ?_
  refine thn_normal ?_
  refine AWP.seq ?_
  refine AWP.seq ?_
  obtain ⟨a15, ha15, h⟩ := bind_some h
  refine AWP.region ?_
  refine W.loadAgg rfl rfl rfl rfl rfl rfl rfl ?_
  refine AOps.move rfl rfl ?_
  refine AOps.move rfl rfl ?_
  refine AOps.callL rfl rfl (.cons (.agg (.cons .imm (.cons .imm (.cons .imm (.cons .imm .nil))))) (.cons (.c (.own rfl rfl)) (.cons (.c .imm) .nil))) rfl (ref1_Works_ok ha15) rfl ?_
  refine AOps.not rfl rfl ?_
  refine AOps.nil ?_
  refine thn_normal ?_
  refine AWP.iteB rfl h (fun hc3 h => ?_) (fun hc3 h => ?_)
  · refine AWP.seq ?_
    refine AWP.region ?_
    refine AOps.assign rfl rfl ?_
    refine AOps.assign rfl rfl ?_
    refine AOps.nil ?_
    refine thn_normal ?_
    refine AWP.nilrow 1 4 rfl ?_
    refine AWP.ret ?_
    refine thn_ret ?_
    have ej := Option.some.inj h
    subst ej
    exact Done.ret rfl rfl
  · refine AWP.skip ?_
    refine thn_normal ?_
    refine AWP.seq ?_
    refine AWP.region ?_
    refine AOps.assign rfl rfl ?_
    refine AOps.nil ?_
    refine thn_normal ?_
    refine AWP.seq ?_
    refine AWP.seq ?_
    refine AWP.region ?_
    refine AOps.assign rfl rfl ?_
    refine AOps.nil ?_
    refine thn_normal ?_
    refine AWP.block ?_
    refine AWP.frzV (id := 1) (l := a11) (env2 := [(1, .c (row 1 intI rest)), (2, .c (.ptr 0 0 0)), (6, .c (row 1 intI a11)), (7, .c (.imm (.val (.slice none 0 0)))), (8, .c (int 0))]) (σ2 := [.one (.cells 4 [[int t.facts, row 1 intI t.init, row 1 intI t.goal, row 4 eTOperator t.operators]]), .dead]) rfl rfl (by exact ⟨⟨_, rfl, .inl ⟨rfl, rfl⟩⟩, ⟨_, rfl, .inl ⟨rfl, rfl⟩⟩, ⟨_, rfl, .inr ⟨_, rfl, rfl, rfl⟩⟩, ⟨_, rfl, .inl ⟨rfl, rfl⟩⟩, ⟨_, rfl, .inl ⟨rfl, rfl⟩⟩, trivial⟩) rfl (by exact ⟨⟨rfl, .inl ⟨rfl, rfl⟩, .inl ⟨rfl, rfl⟩, .inl ⟨rfl, rfl⟩, .inl ⟨rfl, rfl⟩, trivial⟩, trivial, trivial⟩) ?_
    refine AWP.virtV 1 intI 7 rfl rfl rfl ?_
    obtain ⟨hnp5, h⟩ := ite_none h
    obtain ⟨c4, ho1, h⟩ := bind_some h
    refine AWP.forS ho1 (fun p5 c4 => ⟨[(1, .c (row 1 intI rest)), (2, .c (.ptr 0 0 0)), (6, .c (row 1 intI a11)), (7, .c (.own 2 0 c4.length)), (8, .c (int p5))], [.one (.cells 4 [[int t.facts, row 1 intI t.init, row 1 intI t.goal, row 4 eTOperator t.operators]]), .dead, .one (vec 1 intI c4)]⟩) (fun c4 e st => e = .exit 0 ∧ Sub [] st ⟨[(7, .c (.own 2 0 c4.length))], [.one (.cells 4 [[int t.facts, row 1 intI t.init, row 1 intI t.goal, row 4 eTOperator t.operators]]), .dead, .one (vec 1 intI c4)]⟩) ?_ ?_ ?_ ?_
    · try dsimp only
      exact Sub.env ⟨rfl, rfl, rfl, (own_len (by first | rfl | simp only [List.length_set])), rfl, trivial⟩
    · intro p5 c4 hlop5 hltp5 _
      try dsimp only
      refine AWP.seq ?_
      refine AWP.seq ?_
      refine AWP.region ?_
      refine AOps.move rfl rfl ?_
      refine W.fieldAddr rfl rfl rfl rfl ?_
      refine AOps.load rfl rfl rfl rfl rfl rfl ?_
      refine AOps.lss rfl rfl rfl ?_
      refine AOps.nil ?_
      refine thn_normal ?_
      refine AWP.condNP rfl hltp5 ?_
      refine AWP.exit ?_
      refine thn_exit ?_
      refine thn_exit ⟨rfl, ?_⟩
      exact Sub.env ⟨rfl, trivial⟩
    · intro p5 c4 o hlop5 hltp5 h
      unfold ref8_Condition_l1 at h
      try dsimp only at h ⊢
      refine AWP.seq ?_
      refine AWP.seq ?_
      refine AWP.region ?_
      refine AOps.move rfl rfl ?_
      refine W.fieldAddr rfl rfl rfl rfl ?_
      refine AOps.load rfl rfl rfl rfl rfl rfl ?_
      refine AOps.lss rfl rfl rfl ?_
      refine AOps.nil ?_
      refine thn_normal ?_
      refine AWP.condP rfl hltp5 ?_
      refine AWP.skip ?_
      refine thn_normal ?_
      obtain ⟨c6, hx7, h⟩ := bind_some h
      refine AWP.seqJ (⟨[(1, .c (row 1 intI rest)), (2, .c (.ptr 0 0 0)), (6, .c (row 1 intI a11)), (7, .c (.own 5 0 c6.length)), (8, .c (int p5))], [.one (.cells 4 [[int t.facts, row 1 intI t.init, row 1 intI t.goal, row 4 eTOperator t.operators]]), .dead, .dead, .dead, .dead, .one (vec 1 intI c6)]⟩) ?_ ?_
      · refine AWP.block ?_
        refine AWP.seq ?_
        obtain ⟨a26, ha26, hx7⟩ := bind_some hx7
        obtain ⟨a28, ha28, hx7⟩ := bind_some hx7
        refine AWP.drawEI [3] mixed rfl rfl rfl ?_
        apply DrawSeqE.consN; exact rfl; exact rfl; intro E
        refine W.loadAgg rfl rfl rfl rfl rfl rfl rfl ?_
        exact AOps.nil ⟨rfl, rfl⟩
        exact rfl
        apply DrawSeqE.consN; exact rfl; exact rfl; intro E
        refine AOps.move rfl rfl ?_
        exact AOps.nil ⟨rfl, rfl⟩
        exact rfl
        apply DrawSeqE.consN; exact rfl; exact rfl; intro E
        refine AOps.move rfl rfl ?_
        exact AOps.nil ⟨rfl, rfl⟩
        exact rfl
        apply DrawSeqE.consE; exact rfl; exact rfl; intro E
        refine S.fresh rfl rfl rfl rfl (ref8_without_ok ha26) rfl rfl ?_
        exact AOps.nil ⟨rfl, rfl⟩
        exact rfl
        exact rfl
        apply DrawSeqE.consN; exact rfl; exact rfl; intro E
        refine AOps.move rfl rfl ?_
        exact AOps.nil ⟨rfl, rfl⟩
        exact rfl
        apply DrawSeqE.consN; exact rfl; exact rfl; intro E
        refine AOps.callL rfl rfl (.cons (.agg (.cons .imm (.cons .imm (.cons .imm (.cons .imm .nil))))) (.cons (.c (.own rfl rfl)) (.cons (.c .imm) .nil))) rfl (ref1_Works_ok ha28) rfl ?_
        exact AOps.nil ⟨rfl, rfl⟩
        exact rfl
        apply DrawSeqE.consN; exact rfl; exact rfl; intro E
        refine AOps.not rfl rfl ?_
        exact AOps.nil ⟨rfl, rfl⟩
        exact rfl
        refine DrawSeqE.done rfl ?_ ?_
        · apply RestI.cons; exact rfl; exact rfl
          first | refine RestK.skip rfl ?_ | (apply RestK.go; exact rfl; exact rfl; intro E; (refine W.loadAgg rfl rfl rfl rfl rfl rfl rfl ?_); exact AOps.nil ⟨rfl, rfl⟩)
          first | refine RestK.skip rfl ?_ | (apply RestK.go; exact rfl; exact rfl; intro E; (refine W.loadAgg rfl rfl rfl rfl rfl rfl rfl ?_); exact AOps.nil ⟨rfl, rfl⟩)
          exact RestK.nil
          apply RestI.cons; exact rfl; exact rfl
          first | refine RestK.skip rfl ?_ | (apply RestK.go; exact rfl; exact rfl; intro E; (refine AOps.move rfl rfl ?_); exact AOps.nil ⟨rfl, rfl⟩)
          first | refine RestK.skip rfl ?_ | (apply RestK.go; exact rfl; exact rfl; intro E; (refine AOps.move rfl rfl ?_); exact AOps.nil ⟨rfl, rfl⟩)
          exact RestK.nil
          apply RestI.cons; exact rfl; exact rfl
          first | refine RestK.skip rfl ?_ | (apply RestK.go; exact rfl; exact rfl; intro E; (refine AOps.move rfl rfl ?_); exact AOps.nil ⟨rfl, rfl⟩)
          first | refine RestK.skip rfl ?_ | (apply RestK.go; exact rfl; exact rfl; intro E; (refine AOps.move rfl rfl ?_); exact AOps.nil ⟨rfl, rfl⟩)
          exact RestK.nil
          refine RestI.skip rfl ?_
          apply RestI.cons; exact rfl; exact rfl
          first | refine RestK.skip rfl ?_ | (apply RestK.go; exact rfl; exact rfl; intro E; (refine AOps.move rfl rfl ?_); exact AOps.nil ⟨rfl, rfl⟩)
          first | refine RestK.skip rfl ?_ | (apply RestK.go; exact rfl; exact rfl; intro E; (refine AOps.move rfl rfl ?_); exact AOps.nil ⟨rfl, rfl⟩)
          exact RestK.nil
          apply RestI.cons; exact rfl; exact rfl
          first | refine RestK.skip rfl ?_ | (apply RestK.go; exact rfl; exact rfl; intro E; (refine AOps.callL rfl rfl (.cons (.agg (.cons .imm (.cons .imm (.cons .imm (.cons .imm .nil))))) (.cons (.c (.own rfl rfl)) (.cons (.c .imm) .nil))) rfl (ref1_Works_ok ha28) rfl ?_); exact AOps.nil ⟨rfl, rfl⟩)
          first | refine RestK.skip rfl ?_ | (apply RestK.go; exact rfl; exact rfl; intro E; (refine AOps.callL rfl rfl (.cons (.agg (.cons .imm (.cons .imm (.cons .imm (.cons .imm .nil))))) (.cons (.c (.own rfl rfl)) (.cons (.c .imm) .nil))) rfl (ref1_Works_ok ha28) rfl ?_); exact AOps.nil ⟨rfl, rfl⟩)
          exact RestK.nil
          apply RestI.cons; exact rfl; exact rfl
          first | refine RestK.skip rfl ?_ | (apply RestK.go; exact rfl; exact rfl; intro E; (refine AOps.not rfl rfl ?_); exact AOps.nil ⟨rfl, rfl⟩)
          first | refine RestK.skip rfl ?_ | (apply RestK.go; exact rfl; exact rfl; intro E; (refine AOps.not rfl rfl ?_); exact AOps.nil ⟨rfl, rfl⟩)
          exact RestK.nil
          exact RestI.nil
        dsimp only [envEnd]
        refine thn_normal ?_
        refine AWP.iteB rfl hx7 (fun hc8 hx7 => ?_) (fun hc8 hx7 => ?_)
        · obtain ⟨a33, ha33, hx7⟩ := bind_some hx7
          refine AWP.region ?_
          refine AOps.move rfl rfl ?_
          refine AOps.move rfl rfl ?_
          refine S.lit (f := intI) (l := [p5]) (ess := [[int p5]]) rfl rfl rfl rfl rfl rfl rfl ⟨⟨.inl rfl, trivial⟩, trivial⟩ rfl rfl rfl ?_
          refine S.append (f := intI) ha33 rfl rfl rfl rfl rfl rfl (.own rfl rfl) rfl rfl rfl rfl ?_
          refine AOps.assign rfl rfl ?_
          refine AOps.nil ?_
          refine inB_normal ?_
          have ej := Option.some.inj hx7
          subst ej
          refine thn_normal ?_
          exact Sub.cut ⟨rfl, rfl, rfl, rfl, rfl, trivial⟩ rfl ⟨.one rfl, .dead, .dead, .dead, .dead, .vec, trivial⟩ rfl
        · refine AWP.skip ?_
          refine inB_normal ?_
          have ej := Option.some.inj hx7
          subst ej
          refine thn_normal ?_
          exact (Sub.move (env' := [(1, .c (row 1 intI rest)), (2, .c (.ptr 0 0 0)), (6, .c (row 1 intI a11)), (7, .c (.own 5 0 c4.length)), (8, .c (int p5))]) (σ' := [.one (.cells 4 [[int t.facts, row 1 intI t.init, row 1 intI t.goal, row 4 eTOperator t.operators]]), .dead, .dead, .one (vec 1 intI a26), .dead, .one (vec 1 intI c4)]) 5 2 rfl rfl rfl ⟨rfl, rfl, rfl, rfl, rfl, trivial⟩ rfl ⟨⟨rfl, rfl⟩, trivial, trivial, ⟨Blk.im_ok _ _ _, vec_mv rfl⟩, trivial, ⟨Blk.im_ok _ _ _, vec_mv rfl⟩, trivial⟩).trans (Sub.cut ⟨rfl, rfl, rfl, rfl, rfl, trivial⟩ rfl ⟨.one rfl, .dead, .dead, .dead, .dead, .vec, trivial⟩ rfl)
      · refine AWP.region ?_
        refine AOps.move rfl rfl ?_
        refine AOps.add rfl rfl rfl (by omega) ?_
        refine AOps.assign rfl rfl ?_
        refine AOps.nil ?_
        have ej := Option.some.inj h
        subst ej
        refine thn_normal ?_
        exact (Sub.move (env' := [(1, .c (row 1 intI rest)), (2, .c (.ptr 0 0 0)), (6, .c (row 1 intI a11)), (7, .c (.own 2 0 c6.length)), (8, .c (int (p5 + 1)))]) (σ' := [.one (.cells 4 [[int t.facts, row 1 intI t.init, row 1 intI t.goal, row 4 eTOperator t.operators]]), .dead, .one (vec 1 intI c6), .dead, .dead]) 2 5 rfl rfl rfl ⟨rfl, rfl, rfl, rfl, rfl, trivial⟩ rfl ⟨⟨rfl, rfl⟩, trivial, ⟨Blk.im_ok _ _ _, vec_mv rfl⟩, trivial, trivial, trivial⟩).trans (Sub.cut ⟨rfl, rfl, rfl, rfl, rfl, trivial⟩ rfl ⟨.one rfl, .dead, .vec, trivial⟩ rfl)
    · intro e s hq
      obtain ⟨rfl, hs⟩ := hq
      refine ⟨_, hs, ?_⟩
      refine inB_exit ?_
      refine thn_normal ?_
      refine AWP.seq ?_
      refine AWP.region ?_
      refine AOps.move rfl rfl ?_
      refine AOps.assign rfl rfl ?_
      refine AOps.assign rfl rfl ?_
      refine AOps.nil ?_
      refine thn_normal ?_
      refine AWP.frzV (id := 2) (l := c4) (env2 := [(4, .c (row 1 intI c4)), (5, .c (bool true))]) (σ2 := [.one (.cells 4 [[int t.facts, row 1 intI t.init, row 1 intI t.goal, row 4 eTOperator t.operators]]), .dead, .dead]) rfl rfl (by exact ⟨⟨_, rfl, .inr ⟨_, rfl, rfl, rfl⟩⟩, ⟨_, rfl, .inl ⟨rfl, rfl⟩⟩, trivial⟩) rfl (by exact ⟨⟨rfl, .inl ⟨rfl, rfl⟩, .inl ⟨rfl, rfl⟩, .inl ⟨rfl, rfl⟩, .inl ⟨rfl, rfl⟩, trivial⟩, trivial, trivial, trivial⟩) ?_
      refine AWP.ret ?_
      have ej := Option.some.inj h
      subst ej
      exact Done.ret rfl rfl

theorem law8_MonitorMatchesSpec_ok {t : TTask} {plan : List Int} {sv : List Int} {iv : Int} {r : Bool} (h : law8_MonitorMatchesSpec t plan sv iv = some r) : PureOk Try.prog 4 [.agg [int t.facts, row 1 intI t.init, row 1 intI t.goal, row 4 eTOperator t.operators], .c (row 1 intI plan), .c (row 1 intI sv), .c (int iv)] (.c (bool r)) := by
  unfold PureOk
  refine FnOk.enter (rs := [.t 8]) Try.func4 rfl Try.ntmps4 Try.results4 rfl ⟨trivial, trivial⟩ (by kernel_rfl) rfl ?_
  unfold law8_MonitorMatchesSpec at h
  refine AWP.seq ?_
  refine AWP.region ?_
  refine W.box rfl rfl rfl rfl rfl rfl ?_
  refine AOps.assign rfl rfl ?_
  refine AOps.nil ?_
  refine thn_normal ?_
  refine AWP.seq ?_
  obtain ⟨a30, ha30, h⟩ := bind_some h
  refine AWP.region ?_
  refine W.loadAgg rfl rfl rfl rfl rfl rfl rfl ?_
  refine AOps.move rfl rfl ?_
  refine AOps.callR rfl rfl rfl rfl (monitor_Conditions_ok ha30) rfl ?_
  refine AOps.move rfl rfl ?_
  refine AOps.extract rfl rfl rfl ?_
  refine AOps.extract rfl rfl rfl ?_
  refine AOps.extract rfl rfl rfl ?_
  refine W.alloc rfl rfl rfl rfl ?_
  refine AOps.assign rfl rfl ?_
  refine AOps.assign rfl rfl ?_
  refine W.storeAgg rfl rfl rfl rfl rfl rfl rfl ?_
  refine AOps.nil ?_
  refine thn_normal ?_
  refine AWP.seq ?_
  obtain ⟨a38, ha38, h⟩ := bind_some h
  refine AWP.region ?_
  refine W.loadAgg rfl rfl rfl rfl rfl rfl rfl ?_
  refine AOps.move rfl rfl ?_
  refine AOps.move rfl rfl ?_
  refine AOps.callR rfl rfl rfl rfl (monitor_Resume_ok ha38) rfl ?_
  refine AOps.move rfl rfl ?_
  refine AOps.extract rfl rfl rfl ?_
  refine AOps.extract rfl rfl rfl ?_
  refine AOps.extract rfl rfl rfl ?_
  refine W.alloc rfl rfl rfl rfl ?_
  refine AOps.assign rfl rfl ?_
  refine AOps.assign rfl rfl ?_
  refine W.storeAgg rfl rfl rfl rfl rfl rfl rfl ?_
  refine AOps.nil ?_
  refine thn_normal ?_
  refine AWP.seq ?_
  obtain ⟨a47, ha47, h⟩ := bind_some h
  refine AWP.region ?_
  refine W.loadAgg rfl rfl rfl rfl rfl rfl rfl ?_
  refine AOps.move rfl rfl ?_
  refine AOps.move rfl rfl ?_
  refine AOps.move rfl rfl ?_
  refine AOps.callR rfl rfl rfl rfl (monitor_Missing_ok ha47) rfl ?_
  refine AOps.move rfl rfl ?_
  refine AOps.extract rfl rfl rfl ?_
  refine AOps.extract rfl rfl rfl ?_
  refine AOps.extract rfl rfl rfl ?_
  refine W.alloc rfl rfl rfl rfl ?_
  refine AOps.assign rfl rfl ?_
  refine AOps.assign rfl rfl ?_
  refine W.storeAgg rfl rfl rfl rfl rfl rfl rfl ?_
  refine AOps.nil ?_
  refine thn_normal ?_
  refine AWP.seq ?_
  obtain ⟨a53, ha53, h⟩ := bind_some h
  refine AWP.region ?_
  refine W.loadAgg rfl rfl rfl rfl rfl rfl rfl ?_
  refine AOps.move rfl rfl ?_
  refine AOps.callR rfl rfl rfl rfl (ref1_PlanFault_ok ha53) rfl ?_
  refine W.alloc rfl rfl rfl rfl ?_
  refine W.storeAgg rfl rfl rfl rfl rfl rfl rfl ?_
  refine AOps.nil ?_
  refine thn_normal ?_
  refine AWP.seq ?_
  refine AWP.seq ?_
  refine AWP.region ?_
  refine W.loadAgg rfl rfl rfl rfl rfl rfl rfl ?_
  refine W.loadAgg rfl rfl rfl rfl rfl rfl rfl ?_
  refine AOps.neqP rfl rfl rfl rfl rfl rfl rfl ?_
  refine AOps.nil ?_
  refine thn_normal ?_
  refine AWP.iteB rfl h (fun hc5 h => ?_) (fun hc5 h => ?_)
  · refine AWP.seq ?_
    refine AWP.region ?_
    refine AOps.assign rfl rfl ?_
    refine AOps.nil ?_
    refine thn_normal ?_
    refine AWP.ret ?_
    refine thn_ret ?_
    have ej := Option.some.inj h
    subst ej
    exact Done.ret rfl rfl
  · refine AWP.skip ?_
    refine thn_normal ?_
    refine AWP.seq ?_
    obtain ⟨a59, ha59, h⟩ := bind_some h
    refine AWP.region ?_
    refine W.loadAgg rfl rfl rfl rfl rfl rfl rfl ?_
    refine AOps.move rfl rfl ?_
    refine AOps.callR rfl rfl rfl rfl (ref1_StateFault_ok ha59) rfl ?_
    refine W.alloc rfl rfl rfl rfl ?_
    refine W.storeAgg rfl rfl rfl rfl rfl rfl rfl ?_
    refine AOps.nil ?_
    refine thn_normal ?_
    obtain ⟨⟨c6, c7⟩, hx8, h⟩ := bind_some h
    refine AWP.seqJ (⟨[(1, .c (row 1 intI plan)), (2, .c (row 1 intI sv)), (3, .c (int iv)), (4, .c (.ptr 0 0 0)), (9, .c (row 1 eLi64 a30.1)), (10, .c (row 1 eBool a30.2.1)), (12, .c (int a38.1)), (13, .c (bool a38.2.1)), (14, .c (.ptr 2 0 0)), (15, .c (row 1 intI a47.1)), (16, .c (bool a47.2.1)), (17, .c (.ptr 3 0 0)), (18, .c (.ptr 4 0 0)), (19, .c (.ptr 5 0 0))], [.one (.cells 4 [[int t.facts, row 1 intI t.init, row 1 intI t.goal, row 4 eTOperator t.operators]]), .dead, .one (.cells 2 [[int a38.2.2.code, int a38.2.2.index]]), .one (.cells 2 [[int a47.2.2.code, int a47.2.2.index]]), .one (.cells 2 [[int a53.code, int a53.index]]), .one (.cells 2 [[int c6, int c7]])]⟩) ?_ ?_
    · refine AWP.seq ?_
      refine AWP.region ?_
      refine W.fieldAddr rfl rfl rfl rfl ?_
      refine AOps.load rfl rfl rfl rfl rfl rfl ?_
      refine AOps.eql rfl rfl rfl ?_
      refine AOps.nil ?_
      refine thn_normal ?_
      refine AWP.ite rfl hx8 (fun hc9 hx8 => ?_) (fun hc9 hx8 => ?_)
      · refine AWP.region ?_
        refine W.loadAgg rfl rfl rfl rfl rfl rfl rfl ?_
        refine W.storeAgg rfl rfl rfl rfl rfl rfl rfl ?_
        refine AOps.nil ?_
        have ej := Option.some.inj hx8
        simp only [Prod.mk.injEq] at ej
        obtain ⟨ej0, ej1⟩ := ej
        subst ej0
        subst ej1
        refine thn_normal ?_
        exact Sub.cut ⟨rfl, rfl, rfl, rfl, rfl, rfl, rfl, rfl, rfl, rfl, rfl, rfl, rfl, rfl, trivial⟩ rfl ⟨.one rfl, .dead, .one rfl, .one rfl, .one rfl, .one rfl, trivial⟩ rfl
      · refine AWP.skip ?_
        have ej := Option.some.inj hx8
        simp only [Prod.mk.injEq] at ej
        obtain ⟨ej0, ej1⟩ := ej
        subst ej0
        subst ej1
        refine thn_normal ?_
        exact Sub.cut ⟨rfl, rfl, rfl, rfl, rfl, rfl, rfl, rfl, rfl, rfl, rfl, rfl, rfl, rfl, trivial⟩ rfl ⟨.one rfl, .dead, .one rfl, .one rfl, .one rfl, .one rfl, trivial⟩ rfl
    · try dsimp only at h
      refine AWP.seq ?_
      refine AWP.region ?_
      refine W.loadAgg rfl rfl rfl rfl rfl rfl rfl ?_
      refine W.alloc rfl rfl rfl rfl ?_
      refine W.storeAgg rfl rfl rfl rfl rfl rfl rfl ?_
      refine AOps.nil ?_
      refine thn_normal ?_
      obtain ⟨⟨c10, c11⟩, hx12, h⟩ := bind_some h
      refine AWP.seqJ (⟨[(1, .c (row 1 intI plan)), (2, .c (row 1 intI sv)), (3, .c (int iv)), (4, .c (.ptr 0 0 0)), (9, .c (row 1 eLi64 a30.1)), (10, .c (row 1 eBool a30.2.1)), (12, .c (int a38.1)), (13, .c (bool a38.2.1)), (14, .c (.ptr 2 0 0)), (15, .c (row 1 intI a47.1)), (16, .c (bool a47.2.1)), (17, .c (.ptr 3 0 0)), (18, .c (.ptr 4 0 0)), (19, .c (.ptr 5 0 0)), (20, .c (.ptr 6 0 0))], [.one (.cells 4 [[int t.facts, row 1 intI t.init, row 1 intI t.goal, row 4 eTOperator t.operators]]), .dead, .one (.cells 2 [[int a38.2.2.code, int a38.2.2.index]]), .one (.cells 2 [[int a47.2.2.code, int a47.2.2.index]]), .one (.cells 2 [[int a53.code, int a53.index]]), .one (.cells 2 [[int c6, int c7]]), .one (.cells 2 [[int c10, int c11]])]⟩) ?_ ?_
      · obtain ⟨t13, hx14, hx12⟩ := bind_some hx12
        refine AWP.seqJ (⟨[(1, .c (row 1 intI plan)), (2, .c (row 1 intI sv)), (3, .c (int iv)), (4, .c (.ptr 0 0 0)), (9, .c (row 1 eLi64 a30.1)), (10, .c (row 1 eBool a30.2.1)), (12, .c (int a38.1)), (13, .c (bool a38.2.1)), (14, .c (.ptr 2 0 0)), (15, .c (row 1 intI a47.1)), (16, .c (bool a47.2.1)), (17, .c (.ptr 3 0 0)), (18, .c (.ptr 4 0 0)), (19, .c (.ptr 5 0 0)), (20, .c (.ptr 6 0 0)), (74, .c (bool t13))], [.one (.cells 4 [[int t.facts, row 1 intI t.init, row 1 intI t.goal, row 4 eTOperator t.operators]]), .dead, .one (.cells 2 [[int a38.2.2.code, int a38.2.2.index]]), .one (.cells 2 [[int a47.2.2.code, int a47.2.2.index]]), .one (.cells 2 [[int a53.code, int a53.index]]), .one (.cells 2 [[int c6, int c7]]), .one (.cells 2 [[int c6, int c7]])]⟩) ?_ ?_
        · rcases Bool.eq_false_or_eq_true (decide (c6 = 0)) with hb15 | hb15
          · replace hx14 := iteDT hb15 hx14
            obtain ⟨a72, ha72, hx14⟩ := bind_some hx14
            refine AWP.region ?_
            refine W.fieldAddr rfl rfl rfl rfl ?_
            refine AOps.load rfl rfl rfl rfl rfl rfl ?_
            refine AOps.eql rfl rfl rfl ?_
            refine AOps.move rfl rfl ?_
            refine AOps.guardT rfl rfl rfl hb15 ?_; refine AOps.move rfl rfl ?_
            refine AOps.guardT rfl rfl rfl hb15 ?_; refine AOps.move rfl rfl ?_
            refine AOps.guardT rfl rfl rfl hb15 ?_; refine S.len rfl rfl (fun hl71 => ?_)
            refine AOps.guardT rfl rfl rfl hb15 ?_; refine AOps.callR rfl rfl rfl rfl (ref1_In_ok ha72) rfl ?_
            refine AOps.guardT rfl rfl rfl hb15 ?_; refine AOps.not rfl rfl ?_
            refine AOps.pickT rfl hb15 rfl rfl ?_
            refine AOps.nil ?_
            have ej := Option.some.inj hx14
            subst ej
            refine thn_normal ?_
            exact Sub.env ⟨rfl, rfl, rfl, rfl, rfl, rfl, rfl, rfl, rfl, rfl, rfl, rfl, rfl, rfl, rfl, rfl, trivial⟩
          · replace hx14 := iteDF hb15 hx14
            refine AWP.region ?_
            refine W.fieldAddr rfl rfl rfl rfl ?_
            refine AOps.load rfl rfl rfl rfl rfl rfl ?_
            refine AOps.eql rfl rfl rfl ?_
            refine AOps.move rfl rfl ?_
            refine AOps.guardF rfl rfl rfl hb15 ?_
            refine AOps.guardF rfl rfl rfl hb15 ?_
            refine AOps.guardF rfl rfl rfl hb15 ?_
            refine AOps.guardF rfl rfl rfl hb15 ?_
            refine AOps.guardF rfl rfl rfl hb15 ?_
            refine AOps.pickF rfl hb15 rfl rfl ?_
            refine AOps.nil ?_
            have ej := Option.some.inj hx14
            subst ej
            refine thn_normal ?_
            exact Sub.env ⟨rfl, rfl, rfl, rfl, rfl, rfl, rfl, rfl, rfl, rfl, rfl, rfl, rfl, rfl, rfl, rfl, trivial⟩
        · refine AWP.iteB rfl hx12 (fun hc16 hx12 => ?_) (fun hc16 hx12 => ?_)
          · obtain ⟨a75, ha75, hx12⟩ := bind_some hx12
            refine AWP.region ?_
            refine AOps.callR rfl rfl rfl rfl (ref1_At_ok ha75) rfl ?_
            refine W.storeAgg rfl rfl rfl rfl rfl rfl rfl ?_
            refine AOps.nil ?_
            have ej := Option.some.inj hx12
            simp only [Prod.mk.injEq] at ej
            obtain ⟨ej0, ej1⟩ := ej
            subst ej0
            subst ej1
            refine thn_normal ?_
            exact Sub.env ⟨rfl, rfl, rfl, rfl, rfl, rfl, rfl, rfl, rfl, rfl, rfl, rfl, rfl, rfl, rfl, trivial⟩
          · refine AWP.skip ?_
            have ej := Option.some.inj hx12
            simp only [Prod.mk.injEq] at ej
            obtain ⟨ej0, ej1⟩ := ej
            subst ej0
            subst ej1
            refine thn_normal ?_
            exact Sub.env ⟨rfl, rfl, rfl, rfl, rfl, rfl, rfl, rfl, rfl, rfl, rfl, rfl, rfl, rfl, rfl, trivial⟩
      · try dsimp only at h
        refine AWP.seq ?_
        refine AWP.seqJ (⟨[(1, .c (row 1 intI plan)), (2, .c (row 1 intI sv)), (3, .c (int iv)), (4, .c (.ptr 0 0 0)), (9, .c (row 1 eLi64 a30.1)), (10, .c (row 1 eBool a30.2.1)), (12, .c (int a38.1)), (13, .c (bool a38.2.1)), (15, .c (row 1 intI a47.1)), (16, .c (bool a47.2.1)), (18, .c (.ptr 4 0 0)), (19, .c (.ptr 5 0 0)), (20, .c (.ptr 6 0 0)), (121, .c (bool (((((!((decide (a38.2.2.code = c6)) && (decide (a38.2.2.index = c7)))) || (!((decide (a47.2.2.code = c10)) && (decide (a47.2.2.index = c11))))) || ((!(decide (a53.code = 0))) && (decide (0 < w64 ((a30.1.length : Int) + (a30.2.1.length : Int)))))) || ((!(decide (c6 = 0))) && (a38.2.1 || (!(decide (a38.1 = 0)))))) || ((!(decide (c10 = 0))) && (a47.2.1 || (decide (0 < (a47.1.length : Int))))))))], [.one (.cells 4 [[int t.facts, row 1 intI t.init, row 1 intI t.goal, row 4 eTOperator t.operators]]), .dead, .one (.cells 2 [[int a38.2.2.code, int a38.2.2.index]]), .one (.cells 2 [[int a47.2.2.code, int a47.2.2.index]]), .one (.cells 2 [[int a53.code, int a53.index]]), .one (.cells 2 [[int c6, int c7]]), .one (.cells 2 [[int c10, int c11]])]⟩) ?_ ?_
        · rcases Bool.eq_false_or_eq_true (!((decide (a38.2.2.code = c6)) && (decide (a38.2.2.index = c7)))) with hb1 | hb1
          · refine AWP.region ?_
            refine W.loadAgg rfl rfl rfl rfl rfl rfl rfl ?_
            refine W.loadAgg rfl rfl rfl rfl rfl rfl rfl ?_
            refine AOps.neqP rfl rfl rfl rfl rfl rfl rfl ?_
            refine AOps.move rfl rfl ?_
            refine AOps.guardF rfl rfl rfl hb1 ?_
            refine AOps.guardF rfl rfl rfl hb1 ?_
            refine AOps.guardF rfl rfl rfl hb1 ?_
            refine AOps.pickT rfl hb1 rfl rfl ?_
            refine AOps.move rfl rfl ?_
            refine AOps.guardF rfl rfl rfl rfl ?_
            refine AOps.guardF rfl rfl rfl rfl ?_
            refine AOps.guardF rfl rfl rfl rfl ?_
            refine AOps.guardF rfl rfl rfl rfl ?_
            refine AOps.guardSkip rfl rfl rfl ?_
            refine AOps.guardSkip rfl rfl rfl ?_
            refine AOps.guardSkip rfl rfl rfl ?_
            refine AOps.guardSkip rfl rfl rfl ?_
            refine AOps.guardSkip rfl rfl rfl ?_
            refine AOps.guardSkip rfl rfl rfl ?_
            refine AOps.guardF rfl rfl rfl rfl ?_
            refine AOps.pickT rfl rfl rfl rfl ?_
            refine AOps.move rfl rfl ?_
            refine AOps.guardF rfl rfl rfl rfl ?_
            refine AOps.guardF rfl rfl rfl rfl ?_
            refine AOps.guardF rfl rfl rfl rfl ?_
            refine AOps.guardF rfl rfl rfl rfl ?_
            refine AOps.guardSkip rfl rfl rfl ?_
            refine AOps.guardSkip rfl rfl rfl ?_
            refine AOps.guardSkip rfl rfl rfl ?_
            refine AOps.guardSkip rfl rfl rfl ?_
            refine AOps.guardSkip rfl rfl rfl ?_
            refine AOps.guardF rfl rfl rfl rfl ?_
            refine AOps.pickT rfl rfl rfl rfl ?_
            refine AOps.move rfl rfl ?_
            refine AOps.guardF rfl rfl rfl rfl ?_
            refine AOps.guardF rfl rfl rfl rfl ?_
            refine AOps.guardF rfl rfl rfl rfl ?_
            refine AOps.guardF rfl rfl rfl rfl ?_
            refine AOps.guardSkip rfl rfl rfl ?_
            refine AOps.guardSkip rfl rfl rfl ?_
            refine AOps.guardSkip rfl rfl rfl ?_
            refine AOps.guardSkip rfl rfl rfl ?_
            refine AOps.guardSkip rfl rfl rfl ?_
            refine AOps.guardSkip rfl rfl rfl ?_
            refine AOps.guardF rfl rfl rfl rfl ?_
            refine AOps.pickT rfl rfl rfl rfl ?_
            refine AOps.nil ?_
            refine thn_normal ?_
            simp only [and_t hb1, or_t hb1, Bool.false_or, Bool.true_or, Bool.false_and, Bool.true_and]
            exact Sub.env ⟨rfl, rfl, rfl, rfl, rfl, rfl, rfl, rfl, rfl, rfl, rfl, rfl, rfl, rfl, trivial⟩
          · rcases Bool.eq_false_or_eq_true (!((decide (a47.2.2.code = c10)) && (decide (a47.2.2.index = c11)))) with hb2 | hb2
            · refine AWP.region ?_
              refine W.loadAgg rfl rfl rfl rfl rfl rfl rfl ?_
              refine W.loadAgg rfl rfl rfl rfl rfl rfl rfl ?_
              refine AOps.neqP rfl rfl rfl rfl rfl rfl rfl ?_
              refine AOps.move rfl rfl ?_
              refine AOps.guardT rfl rfl rfl hb1 ?_; refine W.loadAgg rfl rfl rfl rfl rfl rfl rfl ?_
              refine AOps.guardT rfl rfl rfl hb1 ?_; refine W.loadAgg rfl rfl rfl rfl rfl rfl rfl ?_
              refine AOps.guardT rfl rfl rfl hb1 ?_; refine AOps.neqP rfl rfl rfl rfl rfl rfl rfl ?_
              refine AOps.pickF rfl hb1 rfl rfl ?_
              refine AOps.move rfl rfl ?_
              refine AOps.guardF rfl rfl rfl hb2 ?_
              refine AOps.guardF rfl rfl rfl hb2 ?_
              refine AOps.guardF rfl rfl rfl hb2 ?_
              refine AOps.guardF rfl rfl rfl hb2 ?_
              refine AOps.guardSkip rfl rfl rfl ?_
              refine AOps.guardSkip rfl rfl rfl ?_
              refine AOps.guardSkip rfl rfl rfl ?_
              refine AOps.guardSkip rfl rfl rfl ?_
              refine AOps.guardSkip rfl rfl rfl ?_
              refine AOps.guardSkip rfl rfl rfl ?_
              refine AOps.guardF rfl rfl rfl hb2 ?_
              refine AOps.pickT rfl hb2 rfl rfl ?_
              refine AOps.move rfl rfl ?_
              refine AOps.guardF rfl rfl rfl rfl ?_
              refine AOps.guardF rfl rfl rfl rfl ?_
              refine AOps.guardF rfl rfl rfl rfl ?_
              refine AOps.guardF rfl rfl rfl rfl ?_
              refine AOps.guardSkip rfl rfl rfl ?_
              refine AOps.guardSkip rfl rfl rfl ?_
              refine AOps.guardSkip rfl rfl rfl ?_
              refine AOps.guardSkip rfl rfl rfl ?_
              refine AOps.guardSkip rfl rfl rfl ?_
              refine AOps.guardF rfl rfl rfl rfl ?_
              refine AOps.pickT rfl rfl rfl rfl ?_
              refine AOps.move rfl rfl ?_
              refine AOps.guardF rfl rfl rfl rfl ?_
              refine AOps.guardF rfl rfl rfl rfl ?_
              refine AOps.guardF rfl rfl rfl rfl ?_
              refine AOps.guardF rfl rfl rfl rfl ?_
              refine AOps.guardSkip rfl rfl rfl ?_
              refine AOps.guardSkip rfl rfl rfl ?_
              refine AOps.guardSkip rfl rfl rfl ?_
              refine AOps.guardSkip rfl rfl rfl ?_
              refine AOps.guardSkip rfl rfl rfl ?_
              refine AOps.guardSkip rfl rfl rfl ?_
              refine AOps.guardF rfl rfl rfl rfl ?_
              refine AOps.pickT rfl rfl rfl rfl ?_
              refine AOps.nil ?_
              refine thn_normal ?_
              simp only [and_f hb1, or_f hb1, and_t hb2, or_t hb2, Bool.false_or, Bool.true_or, Bool.false_and, Bool.true_and]
              exact Sub.env ⟨rfl, rfl, rfl, rfl, rfl, rfl, rfl, rfl, rfl, rfl, rfl, rfl, rfl, rfl, trivial⟩
            · rcases Bool.eq_false_or_eq_true (!(decide (a53.code = 0))) with hb3 | hb3
              · rcases Bool.eq_false_or_eq_true (decide (0 < w64 ((a30.1.length : Int) + (a30.2.1.length : Int)))) with hb4 | hb4
                · refine AWP.region ?_
                  refine W.loadAgg rfl rfl rfl rfl rfl rfl rfl ?_
                  refine W.loadAgg rfl rfl rfl rfl rfl rfl rfl ?_
                  refine AOps.neqP rfl rfl rfl rfl rfl rfl rfl ?_
                  refine AOps.move rfl rfl ?_
                  refine AOps.guardT rfl rfl rfl hb1 ?_; refine W.loadAgg rfl rfl rfl rfl rfl rfl rfl ?_
                  refine AOps.guardT rfl rfl rfl hb1 ?_; refine W.loadAgg rfl rfl rfl rfl rfl rfl rfl ?_
                  refine AOps.guardT rfl rfl rfl hb1 ?_; refine AOps.neqP rfl rfl rfl rfl rfl rfl rfl ?_
                  refine AOps.pickF rfl hb1 rfl rfl ?_
                  refine AOps.move rfl rfl ?_
                  refine AOps.guardT rfl rfl rfl hb2 ?_; refine W.fieldAddr rfl rfl rfl rfl ?_
                  refine AOps.guardT rfl rfl rfl hb2 ?_; refine AOps.load rfl rfl rfl rfl rfl rfl ?_
                  refine AOps.guardT rfl rfl rfl hb2 ?_; refine AOps.neq rfl rfl rfl ?_
                  refine AOps.guardT rfl rfl rfl hb2 ?_; refine AOps.move rfl rfl ?_
                  refine AOps.guardT rfl rfl rfl hb3 ?_; refine AOps.move rfl rfl ?_
                  refine AOps.guardT rfl rfl rfl hb3 ?_; refine S.len rfl rfl (fun hl90 => ?_)
                  refine AOps.guardT rfl rfl rfl hb3 ?_; refine AOps.move rfl rfl ?_
                  refine AOps.guardT rfl rfl rfl hb3 ?_; refine S.len rfl rfl (fun hl92 => ?_)
                  refine AOps.guardT rfl rfl rfl hb3 ?_; refine S.add rfl rfl rfl ?_
                  refine AOps.guardT rfl rfl rfl hb3 ?_; refine AOps.gtr rfl rfl rfl ?_
                  refine AOps.guardT rfl rfl rfl hb2 ?_; refine AOps.pickT rfl hb3 rfl rfl ?_
                  refine AOps.pickF rfl hb2 rfl rfl ?_
                  refine AOps.move rfl rfl ?_
                  refine AOps.guardF rfl rfl rfl hb4 ?_
                  refine AOps.guardF rfl rfl rfl hb4 ?_
                  refine AOps.guardF rfl rfl rfl hb4 ?_
                  refine AOps.guardF rfl rfl rfl hb4 ?_
                  refine AOps.guardSkip rfl rfl rfl ?_
                  refine AOps.guardSkip rfl rfl rfl ?_
                  refine AOps.guardSkip rfl rfl rfl ?_
                  refine AOps.guardSkip rfl rfl rfl ?_
                  refine AOps.guardSkip rfl rfl rfl ?_
                  refine AOps.guardF rfl rfl rfl hb4 ?_
                  refine AOps.pickT rfl hb4 rfl rfl ?_
                  refine AOps.move rfl rfl ?_
                  refine AOps.guardF rfl rfl rfl rfl ?_
                  refine AOps.guardF rfl rfl rfl rfl ?_
                  refine AOps.guardF rfl rfl rfl rfl ?_
                  refine AOps.guardF rfl rfl rfl rfl ?_
                  refine AOps.guardSkip rfl rfl rfl ?_
                  refine AOps.guardSkip rfl rfl rfl ?_
                  refine AOps.guardSkip rfl rfl rfl ?_
                  refine AOps.guardSkip rfl rfl rfl ?_
                  refine AOps.guardSkip rfl rfl rfl ?_
                  refine AOps.guardSkip rfl rfl rfl ?_
                  refine AOps.guardF rfl rfl rfl rfl ?_
                  refine AOps.pickT rfl rfl rfl rfl ?_
                  refine AOps.nil ?_
                  refine thn_normal ?_
                  simp only [and_f hb1, or_f hb1, and_f hb2, or_f hb2, and_t hb3, or_t hb3, and_t hb4, or_t hb4, Bool.false_or, Bool.true_or, Bool.false_and, Bool.true_and]
                  exact Sub.env ⟨rfl, rfl, rfl, rfl, rfl, rfl, rfl, rfl, rfl, rfl, rfl, rfl, rfl, rfl, trivial⟩
                · rcases Bool.eq_false_or_eq_true (!(decide (c6 = 0))) with hb5 | hb5
                  · rcases Bool.eq_false_or_eq_true (a38.2.1) with hb6 | hb6
                    · refine AWP.region ?_
                      refine W.loadAgg rfl rfl rfl rfl rfl rfl rfl ?_
                      refine W.loadAgg rfl rfl rfl rfl rfl rfl rfl ?_
                      refine AOps.neqP rfl rfl rfl rfl rfl rfl rfl ?_
                      refine AOps.move rfl rfl ?_
                      refine AOps.guardT rfl rfl rfl hb1 ?_; refine W.loadAgg rfl rfl rfl rfl rfl rfl rfl ?_
                      refine AOps.guardT rfl rfl rfl hb1 ?_; refine W.loadAgg rfl rfl rfl rfl rfl rfl rfl ?_
                      refine AOps.guardT rfl rfl rfl hb1 ?_; refine AOps.neqP rfl rfl rfl rfl rfl rfl rfl ?_
                      refine AOps.pickF rfl hb1 rfl rfl ?_
                      refine AOps.move rfl rfl ?_
                      refine AOps.guardT rfl rfl rfl hb2 ?_; refine W.fieldAddr rfl rfl rfl rfl ?_
                      refine AOps.guardT rfl rfl rfl hb2 ?_; refine AOps.load rfl rfl rfl rfl rfl rfl ?_
                      refine AOps.guardT rfl rfl rfl hb2 ?_; refine AOps.neq rfl rfl rfl ?_
                      refine AOps.guardT rfl rfl rfl hb2 ?_; refine AOps.move rfl rfl ?_
                      refine AOps.guardT rfl rfl rfl hb3 ?_; refine AOps.move rfl rfl ?_
                      refine AOps.guardT rfl rfl rfl hb3 ?_; refine S.len rfl rfl (fun hl90 => ?_)
                      refine AOps.guardT rfl rfl rfl hb3 ?_; refine AOps.move rfl rfl ?_
                      refine AOps.guardT rfl rfl rfl hb3 ?_; refine S.len rfl rfl (fun hl92 => ?_)
                      refine AOps.guardT rfl rfl rfl hb3 ?_; refine S.add rfl rfl rfl ?_
                      refine AOps.guardT rfl rfl rfl hb3 ?_; refine AOps.gtr rfl rfl rfl ?_
                      refine AOps.guardT rfl rfl rfl hb2 ?_; refine AOps.pickT rfl hb3 rfl rfl ?_
                      refine AOps.pickF rfl hb2 rfl rfl ?_
                      refine AOps.move rfl rfl ?_
                      refine AOps.guardT rfl rfl rfl hb4 ?_; refine W.fieldAddr rfl rfl rfl rfl ?_
                      refine AOps.guardT rfl rfl rfl hb4 ?_; refine AOps.load rfl rfl rfl rfl rfl rfl ?_
                      refine AOps.guardT rfl rfl rfl hb4 ?_; refine AOps.neq rfl rfl rfl ?_
                      refine AOps.guardT rfl rfl rfl hb4 ?_; refine AOps.move rfl rfl ?_
                      refine AOps.guardT rfl rfl rfl hb5 ?_; refine AOps.move rfl rfl ?_
                      refine AOps.guardT rfl rfl rfl hb5 ?_; refine AOps.move rfl rfl ?_
                      refine AOps.guardF rfl rfl rfl hb6 ?_
                      refine AOps.guardF rfl rfl rfl hb6 ?_
                      refine AOps.guardT rfl rfl rfl hb5 ?_; refine AOps.pickT rfl hb6 rfl rfl ?_
                      refine AOps.guardT rfl rfl rfl hb4 ?_; refine AOps.pickT rfl hb5 rfl rfl ?_
                      refine AOps.pickF rfl hb4 rfl rfl ?_
                      refine AOps.move rfl rfl ?_
                      refine AOps.guardF rfl rfl rfl rfl ?_
                      refine AOps.guardF rfl rfl rfl rfl ?_
                      refine AOps.guardF rfl rfl rfl rfl ?_
                      refine AOps.guardF rfl rfl rfl rfl ?_
                      refine AOps.guardSkip rfl rfl rfl ?_
                      refine AOps.guardSkip rfl rfl rfl ?_
                      refine AOps.guardSkip rfl rfl rfl ?_
                      refine AOps.guardSkip rfl rfl rfl ?_
                      refine AOps.guardSkip rfl rfl rfl ?_
                      refine AOps.guardSkip rfl rfl rfl ?_
                      refine AOps.guardF rfl rfl rfl rfl ?_
                      refine AOps.pickT rfl rfl rfl rfl ?_
                      refine AOps.nil ?_
                      refine thn_normal ?_
                      simp only [and_f hb1, or_f hb1, and_f hb2, or_f hb2, and_t hb3, or_t hb3, and_f hb4, or_f hb4, and_t hb5, or_t hb5, and_t hb6, or_t hb6, Bool.false_or, Bool.true_or, Bool.false_and, Bool.true_and]
                      exact Sub.env ⟨rfl, rfl, rfl, rfl, rfl, rfl, rfl, rfl, rfl, rfl, rfl, rfl, rfl, rfl, trivial⟩
                    · rcases Bool.eq_false_or_eq_true (!(decide (a38.1 = 0))) with hb7 | hb7
                      · refine AWP.region ?_
                        refine W.loadAgg rfl rfl rfl rfl rfl rfl rfl ?_
                        refine W.loadAgg rfl rfl rfl rfl rfl rfl rfl ?_
                        refine AOps.neqP rfl rfl rfl rfl rfl rfl rfl ?_
                        refine AOps.move rfl rfl ?_
                        refine AOps.guardT rfl rfl rfl hb1 ?_; refine W.loadAgg rfl rfl rfl rfl rfl rfl rfl ?_
                        refine AOps.guardT rfl rfl rfl hb1 ?_; refine W.loadAgg rfl rfl rfl rfl rfl rfl rfl ?_
                        refine AOps.guardT rfl rfl rfl hb1 ?_; refine AOps.neqP rfl rfl rfl rfl rfl rfl rfl ?_
                        refine AOps.pickF rfl hb1 rfl rfl ?_
                        refine AOps.move rfl rfl ?_
                        refine AOps.guardT rfl rfl rfl hb2 ?_; refine W.fieldAddr rfl rfl rfl rfl ?_
                        refine AOps.guardT rfl rfl rfl hb2 ?_; refine AOps.load rfl rfl rfl rfl rfl rfl ?_
                        refine AOps.guardT rfl rfl rfl hb2 ?_; refine AOps.neq rfl rfl rfl ?_
                        refine AOps.guardT rfl rfl rfl hb2 ?_; refine AOps.move rfl rfl ?_
                        refine AOps.guardT rfl rfl rfl hb3 ?_; refine AOps.move rfl rfl ?_
                        refine AOps.guardT rfl rfl rfl hb3 ?_; refine S.len rfl rfl (fun hl90 => ?_)
                        refine AOps.guardT rfl rfl rfl hb3 ?_; refine AOps.move rfl rfl ?_
                        refine AOps.guardT rfl rfl rfl hb3 ?_; refine S.len rfl rfl (fun hl92 => ?_)
                        refine AOps.guardT rfl rfl rfl hb3 ?_; refine S.add rfl rfl rfl ?_
                        refine AOps.guardT rfl rfl rfl hb3 ?_; refine AOps.gtr rfl rfl rfl ?_
                        refine AOps.guardT rfl rfl rfl hb2 ?_; refine AOps.pickT rfl hb3 rfl rfl ?_
                        refine AOps.pickF rfl hb2 rfl rfl ?_
                        refine AOps.move rfl rfl ?_
                        refine AOps.guardT rfl rfl rfl hb4 ?_; refine W.fieldAddr rfl rfl rfl rfl ?_
                        refine AOps.guardT rfl rfl rfl hb4 ?_; refine AOps.load rfl rfl rfl rfl rfl rfl ?_
                        refine AOps.guardT rfl rfl rfl hb4 ?_; refine AOps.neq rfl rfl rfl ?_
                        refine AOps.guardT rfl rfl rfl hb4 ?_; refine AOps.move rfl rfl ?_
                        refine AOps.guardT rfl rfl rfl hb5 ?_; refine AOps.move rfl rfl ?_
                        refine AOps.guardT rfl rfl rfl hb5 ?_; refine AOps.move rfl rfl ?_
                        refine AOps.guardT rfl rfl rfl hb6 ?_; refine AOps.move rfl rfl ?_
                        refine AOps.guardT rfl rfl rfl hb6 ?_; refine AOps.neq rfl rfl rfl ?_
                        refine AOps.guardT rfl rfl rfl hb5 ?_; refine AOps.pickF rfl hb6 rfl rfl ?_
                        refine AOps.guardT rfl rfl rfl hb4 ?_; refine AOps.pickT rfl hb5 rfl rfl ?_
                        refine AOps.pickF rfl hb4 rfl rfl ?_
                        refine AOps.move rfl rfl ?_
                        refine AOps.guardF rfl rfl rfl hb7 ?_
                        refine AOps.guardF rfl rfl rfl hb7 ?_
                        refine AOps.guardF rfl rfl rfl hb7 ?_
                        refine AOps.guardF rfl rfl rfl hb7 ?_
                        refine AOps.guardSkip rfl rfl rfl ?_
                        refine AOps.guardSkip rfl rfl rfl ?_
                        refine AOps.guardSkip rfl rfl rfl ?_
                        refine AOps.guardSkip rfl rfl rfl ?_
                        refine AOps.guardSkip rfl rfl rfl ?_
                        refine AOps.guardSkip rfl rfl rfl ?_
                        refine AOps.guardF rfl rfl rfl hb7 ?_
                        refine AOps.pickT rfl hb7 rfl rfl ?_
                        refine AOps.nil ?_
                        refine thn_normal ?_
                        simp only [and_f hb1, or_f hb1, and_f hb2, or_f hb2, and_t hb3, or_t hb3, and_f hb4, or_f hb4, and_t hb5, or_t hb5, and_f hb6, or_f hb6, and_t hb7, or_t hb7, Bool.false_or, Bool.true_or, Bool.false_and, Bool.true_and]
                        exact Sub.env ⟨rfl, rfl, rfl, rfl, rfl, rfl, rfl, rfl, rfl, rfl, rfl, rfl, rfl, rfl, trivial⟩
                      · rcases Bool.eq_false_or_eq_true (!(decide (c10 = 0))) with hb8 | hb8
                        · rcases Bool.eq_false_or_eq_true (a47.2.1) with hb9 | hb9
                          · refine AWP.region ?_
                            refine W.loadAgg rfl rfl rfl rfl rfl rfl rfl ?_
                            refine W.loadAgg rfl rfl rfl rfl rfl rfl rfl ?_
                            refine AOps.neqP rfl rfl rfl rfl rfl rfl rfl ?_
                            refine AOps.move rfl rfl ?_
                            refine AOps.guardT rfl rfl rfl hb1 ?_; refine W.loadAgg rfl rfl rfl rfl rfl rfl rfl ?_
                            refine AOps.guardT rfl rfl rfl hb1 ?_; refine W.loadAgg rfl rfl rfl rfl rfl rfl rfl ?_
                            refine AOps.guardT rfl rfl rfl hb1 ?_; refine AOps.neqP rfl rfl rfl rfl rfl rfl rfl ?_
                            refine AOps.pickF rfl hb1 rfl rfl ?_
                            refine AOps.move rfl rfl ?_
                            refine AOps.guardT rfl rfl rfl hb2 ?_; refine W.fieldAddr rfl rfl rfl rfl ?_
                            refine AOps.guardT rfl rfl rfl hb2 ?_; refine AOps.load rfl rfl rfl rfl rfl rfl ?_
                            refine AOps.guardT rfl rfl rfl hb2 ?_; refine AOps.neq rfl rfl rfl ?_
                            refine AOps.guardT rfl rfl rfl hb2 ?_; refine AOps.move rfl rfl ?_
                            refine AOps.guardT rfl rfl rfl hb3 ?_; refine AOps.move rfl rfl ?_
                            refine AOps.guardT rfl rfl rfl hb3 ?_; refine S.len rfl rfl (fun hl90 => ?_)
                            refine AOps.guardT rfl rfl rfl hb3 ?_; refine AOps.move rfl rfl ?_
                            refine AOps.guardT rfl rfl rfl hb3 ?_; refine S.len rfl rfl (fun hl92 => ?_)
                            refine AOps.guardT rfl rfl rfl hb3 ?_; refine S.add rfl rfl rfl ?_
                            refine AOps.guardT rfl rfl rfl hb3 ?_; refine AOps.gtr rfl rfl rfl ?_
                            refine AOps.guardT rfl rfl rfl hb2 ?_; refine AOps.pickT rfl hb3 rfl rfl ?_
                            refine AOps.pickF rfl hb2 rfl rfl ?_
                            refine AOps.move rfl rfl ?_
                            refine AOps.guardT rfl rfl rfl hb4 ?_; refine W.fieldAddr rfl rfl rfl rfl ?_
                            refine AOps.guardT rfl rfl rfl hb4 ?_; refine AOps.load rfl rfl rfl rfl rfl rfl ?_
                            refine AOps.guardT rfl rfl rfl hb4 ?_; refine AOps.neq rfl rfl rfl ?_
                            refine AOps.guardT rfl rfl rfl hb4 ?_; refine AOps.move rfl rfl ?_
                            refine AOps.guardT rfl rfl rfl hb5 ?_; refine AOps.move rfl rfl ?_
                            refine AOps.guardT rfl rfl rfl hb5 ?_; refine AOps.move rfl rfl ?_
                            refine AOps.guardT rfl rfl rfl hb6 ?_; refine AOps.move rfl rfl ?_
                            refine AOps.guardT rfl rfl rfl hb6 ?_; refine AOps.neq rfl rfl rfl ?_
                            refine AOps.guardT rfl rfl rfl hb5 ?_; refine AOps.pickF rfl hb6 rfl rfl ?_
                            refine AOps.guardT rfl rfl rfl hb4 ?_; refine AOps.pickT rfl hb5 rfl rfl ?_
                            refine AOps.pickF rfl hb4 rfl rfl ?_
                            refine AOps.move rfl rfl ?_
                            refine AOps.guardT rfl rfl rfl hb7 ?_; refine W.fieldAddr rfl rfl rfl rfl ?_
                            refine AOps.guardT rfl rfl rfl hb7 ?_; refine AOps.load rfl rfl rfl rfl rfl rfl ?_
                            refine AOps.guardT rfl rfl rfl hb7 ?_; refine AOps.neq rfl rfl rfl ?_
                            refine AOps.guardT rfl rfl rfl hb7 ?_; refine AOps.move rfl rfl ?_
                            refine AOps.guardT rfl rfl rfl hb8 ?_; refine AOps.move rfl rfl ?_
                            refine AOps.guardT rfl rfl rfl hb8 ?_; refine AOps.move rfl rfl ?_
                            refine AOps.guardF rfl rfl rfl hb9 ?_
                            refine AOps.guardF rfl rfl rfl hb9 ?_
                            refine AOps.guardF rfl rfl rfl hb9 ?_
                            refine AOps.guardT rfl rfl rfl hb8 ?_; refine AOps.pickT rfl hb9 rfl rfl ?_
                            refine AOps.guardT rfl rfl rfl hb7 ?_; refine AOps.pickT rfl hb8 rfl rfl ?_
                            refine AOps.pickF rfl hb7 rfl rfl ?_
                            refine AOps.nil ?_
                            refine thn_normal ?_
                            simp only [and_f hb1, or_f hb1, and_f hb2, or_f hb2, and_t hb3, or_t hb3, and_f hb4, or_f hb4, and_t hb5, or_t hb5, and_f hb6, or_f hb6, and_f hb7, or_f hb7, and_t hb8, or_t hb8, and_t hb9, or_t hb9, Bool.false_or, Bool.true_or, Bool.false_and, Bool.true_and]
                            exact Sub.env ⟨rfl, rfl, rfl, rfl, rfl, rfl, rfl, rfl, rfl, rfl, rfl, rfl, rfl, rfl, trivial⟩
                          · refine AWP.region ?_
                            refine W.loadAgg rfl rfl rfl rfl rfl rfl rfl ?_
                            refine W.loadAgg rfl rfl rfl rfl rfl rfl rfl ?_
                            refine AOps.neqP rfl rfl rfl rfl rfl rfl rfl ?_
                            refine AOps.move rfl rfl ?_
                            refine AOps.guardT rfl rfl rfl hb1 ?_; refine W.loadAgg rfl rfl rfl rfl rfl rfl rfl ?_
                            refine AOps.guardT rfl rfl rfl hb1 ?_; refine W.loadAgg rfl rfl rfl rfl rfl rfl rfl ?_
                            refine AOps.guardT rfl rfl rfl hb1 ?_; refine AOps.neqP rfl rfl rfl rfl rfl rfl rfl ?_
                            refine AOps.pickF rfl hb1 rfl rfl ?_
                            refine AOps.move rfl rfl ?_
                            refine AOps.guardT rfl rfl rfl hb2 ?_; refine W.fieldAddr rfl rfl rfl rfl ?_
                            refine AOps.guardT rfl rfl rfl hb2 ?_; refine AOps.load rfl rfl rfl rfl rfl rfl ?_
                            refine AOps.guardT rfl rfl rfl hb2 ?_; refine AOps.neq rfl rfl rfl ?_
                            refine AOps.guardT rfl rfl rfl hb2 ?_; refine AOps.move rfl rfl ?_
                            refine AOps.guardT rfl rfl rfl hb3 ?_; refine AOps.move rfl rfl ?_
                            refine AOps.guardT rfl rfl rfl hb3 ?_; refine S.len rfl rfl (fun hl90 => ?_)
                            refine AOps.guardT rfl rfl rfl hb3 ?_; refine AOps.move rfl rfl ?_
                            refine AOps.guardT rfl rfl rfl hb3 ?_; refine S.len rfl rfl (fun hl92 => ?_)
                            refine AOps.guardT rfl rfl rfl hb3 ?_; refine S.add rfl rfl rfl ?_
                            refine AOps.guardT rfl rfl rfl hb3 ?_; refine AOps.gtr rfl rfl rfl ?_
                            refine AOps.guardT rfl rfl rfl hb2 ?_; refine AOps.pickT rfl hb3 rfl rfl ?_
                            refine AOps.pickF rfl hb2 rfl rfl ?_
                            refine AOps.move rfl rfl ?_
                            refine AOps.guardT rfl rfl rfl hb4 ?_; refine W.fieldAddr rfl rfl rfl rfl ?_
                            refine AOps.guardT rfl rfl rfl hb4 ?_; refine AOps.load rfl rfl rfl rfl rfl rfl ?_
                            refine AOps.guardT rfl rfl rfl hb4 ?_; refine AOps.neq rfl rfl rfl ?_
                            refine AOps.guardT rfl rfl rfl hb4 ?_; refine AOps.move rfl rfl ?_
                            refine AOps.guardT rfl rfl rfl hb5 ?_; refine AOps.move rfl rfl ?_
                            refine AOps.guardT rfl rfl rfl hb5 ?_; refine AOps.move rfl rfl ?_
                            refine AOps.guardT rfl rfl rfl hb6 ?_; refine AOps.move rfl rfl ?_
                            refine AOps.guardT rfl rfl rfl hb6 ?_; refine AOps.neq rfl rfl rfl ?_
                            refine AOps.guardT rfl rfl rfl hb5 ?_; refine AOps.pickF rfl hb6 rfl rfl ?_
                            refine AOps.guardT rfl rfl rfl hb4 ?_; refine AOps.pickT rfl hb5 rfl rfl ?_
                            refine AOps.pickF rfl hb4 rfl rfl ?_
                            refine AOps.move rfl rfl ?_
                            refine AOps.guardT rfl rfl rfl hb7 ?_; refine W.fieldAddr rfl rfl rfl rfl ?_
                            refine AOps.guardT rfl rfl rfl hb7 ?_; refine AOps.load rfl rfl rfl rfl rfl rfl ?_
                            refine AOps.guardT rfl rfl rfl hb7 ?_; refine AOps.neq rfl rfl rfl ?_
                            refine AOps.guardT rfl rfl rfl hb7 ?_; refine AOps.move rfl rfl ?_
                            refine AOps.guardT rfl rfl rfl hb8 ?_; refine AOps.move rfl rfl ?_
                            refine AOps.guardT rfl rfl rfl hb8 ?_; refine AOps.move rfl rfl ?_
                            refine AOps.guardT rfl rfl rfl hb9 ?_; refine AOps.move rfl rfl ?_
                            refine AOps.guardT rfl rfl rfl hb9 ?_; refine S.len rfl rfl (fun hl117 => ?_)
                            refine AOps.guardT rfl rfl rfl hb9 ?_; refine AOps.gtr rfl rfl rfl ?_
                            refine AOps.guardT rfl rfl rfl hb8 ?_; refine AOps.pickF rfl hb9 rfl rfl ?_
                            refine AOps.guardT rfl rfl rfl hb7 ?_; refine AOps.pickT rfl hb8 rfl rfl ?_
                            refine AOps.pickF rfl hb7 rfl rfl ?_
                            refine AOps.nil ?_
                            refine thn_normal ?_
                            simp only [and_f hb1, or_f hb1, and_f hb2, or_f hb2, and_t hb3, or_t hb3, and_f hb4, or_f hb4, and_t hb5, or_t hb5, and_f hb6, or_f hb6, and_f hb7, or_f hb7, and_t hb8, or_t hb8, and_f hb9, or_f hb9, Bool.false_or, Bool.true_or, Bool.false_and, Bool.true_and]
                            exact Sub.env ⟨rfl, rfl, rfl, rfl, rfl, rfl, rfl, rfl, rfl, rfl, rfl, rfl, rfl, rfl, trivial⟩
                        · refine AWP.region ?_
                          refine W.loadAgg rfl rfl rfl rfl rfl rfl rfl ?_
                          refine W.loadAgg rfl rfl rfl rfl rfl rfl rfl ?_
                          refine AOps.neqP rfl rfl rfl rfl rfl rfl rfl ?_
                          refine AOps.move rfl rfl ?_
                          refine AOps.guardT rfl rfl rfl hb1 ?_; refine W.loadAgg rfl rfl rfl rfl rfl rfl rfl ?_
                          refine AOps.guardT rfl rfl rfl hb1 ?_; refine W.loadAgg rfl rfl rfl rfl rfl rfl rfl ?_
                          refine AOps.guardT rfl rfl rfl hb1 ?_; refine AOps.neqP rfl rfl rfl rfl rfl rfl rfl ?_
                          refine AOps.pickF rfl hb1 rfl rfl ?_
                          refine AOps.move rfl rfl ?_
                          refine AOps.guardT rfl rfl rfl hb2 ?_; refine W.fieldAddr rfl rfl rfl rfl ?_
                          refine AOps.guardT rfl rfl rfl hb2 ?_; refine AOps.load rfl rfl rfl rfl rfl rfl ?_
                          refine AOps.guardT rfl rfl rfl hb2 ?_; refine AOps.neq rfl rfl rfl ?_
                          refine AOps.guardT rfl rfl rfl hb2 ?_; refine AOps.move rfl rfl ?_
                          refine AOps.guardT rfl rfl rfl hb3 ?_; refine AOps.move rfl rfl ?_
                          refine AOps.guardT rfl rfl rfl hb3 ?_; refine S.len rfl rfl (fun hl90 => ?_)
                          refine AOps.guardT rfl rfl rfl hb3 ?_; refine AOps.move rfl rfl ?_
                          refine AOps.guardT rfl rfl rfl hb3 ?_; refine S.len rfl rfl (fun hl92 => ?_)
                          refine AOps.guardT rfl rfl rfl hb3 ?_; refine S.add rfl rfl rfl ?_
                          refine AOps.guardT rfl rfl rfl hb3 ?_; refine AOps.gtr rfl rfl rfl ?_
                          refine AOps.guardT rfl rfl rfl hb2 ?_; refine AOps.pickT rfl hb3 rfl rfl ?_
                          refine AOps.pickF rfl hb2 rfl rfl ?_
                          refine AOps.move rfl rfl ?_
                          refine AOps.guardT rfl rfl rfl hb4 ?_; refine W.fieldAddr rfl rfl rfl rfl ?_
                          refine AOps.guardT rfl rfl rfl hb4 ?_; refine AOps.load rfl rfl rfl rfl rfl rfl ?_
                          refine AOps.guardT rfl rfl rfl hb4 ?_; refine AOps.neq rfl rfl rfl ?_
                          refine AOps.guardT rfl rfl rfl hb4 ?_; refine AOps.move rfl rfl ?_
                          refine AOps.guardT rfl rfl rfl hb5 ?_; refine AOps.move rfl rfl ?_
                          refine AOps.guardT rfl rfl rfl hb5 ?_; refine AOps.move rfl rfl ?_
                          refine AOps.guardT rfl rfl rfl hb6 ?_; refine AOps.move rfl rfl ?_
                          refine AOps.guardT rfl rfl rfl hb6 ?_; refine AOps.neq rfl rfl rfl ?_
                          refine AOps.guardT rfl rfl rfl hb5 ?_; refine AOps.pickF rfl hb6 rfl rfl ?_
                          refine AOps.guardT rfl rfl rfl hb4 ?_; refine AOps.pickT rfl hb5 rfl rfl ?_
                          refine AOps.pickF rfl hb4 rfl rfl ?_
                          refine AOps.move rfl rfl ?_
                          refine AOps.guardT rfl rfl rfl hb7 ?_; refine W.fieldAddr rfl rfl rfl rfl ?_
                          refine AOps.guardT rfl rfl rfl hb7 ?_; refine AOps.load rfl rfl rfl rfl rfl rfl ?_
                          refine AOps.guardT rfl rfl rfl hb7 ?_; refine AOps.neq rfl rfl rfl ?_
                          refine AOps.guardT rfl rfl rfl hb7 ?_; refine AOps.move rfl rfl ?_
                          refine AOps.guardF rfl rfl rfl hb8 ?_
                          refine AOps.guardF rfl rfl rfl hb8 ?_
                          refine AOps.guardSkip rfl rfl rfl ?_
                          refine AOps.guardSkip rfl rfl rfl ?_
                          refine AOps.guardSkip rfl rfl rfl ?_
                          refine AOps.guardF rfl rfl rfl hb8 ?_
                          refine AOps.guardT rfl rfl rfl hb7 ?_; refine AOps.pickF rfl hb8 rfl rfl ?_
                          refine AOps.pickF rfl hb7 rfl rfl ?_
                          refine AOps.nil ?_
                          refine thn_normal ?_
                          simp only [and_f hb1, or_f hb1, and_f hb2, or_f hb2, and_t hb3, or_t hb3, and_f hb4, or_f hb4, and_t hb5, or_t hb5, and_f hb6, or_f hb6, and_f hb7, or_f hb7, and_f hb8, or_f hb8, Bool.false_or, Bool.true_or, Bool.false_and, Bool.true_and]
                          exact Sub.env ⟨rfl, rfl, rfl, rfl, rfl, rfl, rfl, rfl, rfl, rfl, rfl, rfl, rfl, rfl, trivial⟩
                  · rcases Bool.eq_false_or_eq_true (!(decide (c10 = 0))) with hb6 | hb6
                    · rcases Bool.eq_false_or_eq_true (a47.2.1) with hb7 | hb7
                      · refine AWP.region ?_
                        refine W.loadAgg rfl rfl rfl rfl rfl rfl rfl ?_
                        refine W.loadAgg rfl rfl rfl rfl rfl rfl rfl ?_
                        refine AOps.neqP rfl rfl rfl rfl rfl rfl rfl ?_
                        refine AOps.move rfl rfl ?_
                        refine AOps.guardT rfl rfl rfl hb1 ?_; refine W.loadAgg rfl rfl rfl rfl rfl rfl rfl ?_
                        refine AOps.guardT rfl rfl rfl hb1 ?_; refine W.loadAgg rfl rfl rfl rfl rfl rfl rfl ?_
                        refine AOps.guardT rfl rfl rfl hb1 ?_; refine AOps.neqP rfl rfl rfl rfl rfl rfl rfl ?_
                        refine AOps.pickF rfl hb1 rfl rfl ?_
                        refine AOps.move rfl rfl ?_
                        refine AOps.guardT rfl rfl rfl hb2 ?_; refine W.fieldAddr rfl rfl rfl rfl ?_
                        refine AOps.guardT rfl rfl rfl hb2 ?_; refine AOps.load rfl rfl rfl rfl rfl rfl ?_
                        refine AOps.guardT rfl rfl rfl hb2 ?_; refine AOps.neq rfl rfl rfl ?_
                        refine AOps.guardT rfl rfl rfl hb2 ?_; refine AOps.move rfl rfl ?_
                        refine AOps.guardT rfl rfl rfl hb3 ?_; refine AOps.move rfl rfl ?_
                        refine AOps.guardT rfl rfl rfl hb3 ?_; refine S.len rfl rfl (fun hl90 => ?_)
                        refine AOps.guardT rfl rfl rfl hb3 ?_; refine AOps.move rfl rfl ?_
                        refine AOps.guardT rfl rfl rfl hb3 ?_; refine S.len rfl rfl (fun hl92 => ?_)
                        refine AOps.guardT rfl rfl rfl hb3 ?_; refine S.add rfl rfl rfl ?_
                        refine AOps.guardT rfl rfl rfl hb3 ?_; refine AOps.gtr rfl rfl rfl ?_
                        refine AOps.guardT rfl rfl rfl hb2 ?_; refine AOps.pickT rfl hb3 rfl rfl ?_
                        refine AOps.pickF rfl hb2 rfl rfl ?_
                        refine AOps.move rfl rfl ?_
                        refine AOps.guardT rfl rfl rfl hb4 ?_; refine W.fieldAddr rfl rfl rfl rfl ?_
                        refine AOps.guardT rfl rfl rfl hb4 ?_; refine AOps.load rfl rfl rfl rfl rfl rfl ?_
                        refine AOps.guardT rfl rfl rfl hb4 ?_; refine AOps.neq rfl rfl rfl ?_
                        refine AOps.guardT rfl rfl rfl hb4 ?_; refine AOps.move rfl rfl ?_
                        refine AOps.guardF rfl rfl rfl hb5 ?_
                        refine AOps.guardF rfl rfl rfl hb5 ?_
                        refine AOps.guardSkip rfl rfl rfl ?_
                        refine AOps.guardSkip rfl rfl rfl ?_
                        refine AOps.guardF rfl rfl rfl hb5 ?_
                        refine AOps.guardT rfl rfl rfl hb4 ?_; refine AOps.pickF rfl hb5 rfl rfl ?_
                        refine AOps.pickF rfl hb4 rfl rfl ?_
                        refine AOps.move rfl rfl ?_
                        refine AOps.guardT rfl rfl rfl rfl ?_; refine W.fieldAddr rfl rfl rfl rfl ?_
                        refine AOps.guardT rfl rfl rfl rfl ?_; refine AOps.load rfl rfl rfl rfl rfl rfl ?_
                        refine AOps.guardT rfl rfl rfl rfl ?_; refine AOps.neq rfl rfl rfl ?_
                        refine AOps.guardT rfl rfl rfl rfl ?_; refine AOps.move rfl rfl ?_
                        refine AOps.guardT rfl rfl rfl hb6 ?_; refine AOps.move rfl rfl ?_
                        refine AOps.guardT rfl rfl rfl hb6 ?_; refine AOps.move rfl rfl ?_
                        refine AOps.guardF rfl rfl rfl hb7 ?_
                        refine AOps.guardF rfl rfl rfl hb7 ?_
                        refine AOps.guardF rfl rfl rfl hb7 ?_
                        refine AOps.guardT rfl rfl rfl hb6 ?_; refine AOps.pickT rfl hb7 rfl rfl ?_
                        refine AOps.guardT rfl rfl rfl rfl ?_; refine AOps.pickT rfl hb6 rfl rfl ?_
                        refine AOps.pickF rfl rfl rfl rfl ?_
                        refine AOps.nil ?_
                        refine thn_normal ?_
                        simp only [and_f hb1, or_f hb1, and_f hb2, or_f hb2, and_t hb3, or_t hb3, and_f hb4, or_f hb4, and_f hb5, or_f hb5, and_t hb6, or_t hb6, and_t hb7, or_t hb7, Bool.false_or, Bool.true_or, Bool.false_and, Bool.true_and]
                        exact Sub.env ⟨rfl, rfl, rfl, rfl, rfl, rfl, rfl, rfl, rfl, rfl, rfl, rfl, rfl, rfl, trivial⟩
                      · refine AWP.region ?_
                        refine W.loadAgg rfl rfl rfl rfl rfl rfl rfl ?_
                        refine W.loadAgg rfl rfl rfl rfl rfl rfl rfl ?_
                        refine AOps.neqP rfl rfl rfl rfl rfl rfl rfl ?_
                        refine AOps.move rfl rfl ?_
                        refine AOps.guardT rfl rfl rfl hb1 ?_; refine W.loadAgg rfl rfl rfl rfl rfl rfl rfl ?_
                        refine AOps.guardT rfl rfl rfl hb1 ?_; refine W.loadAgg rfl rfl rfl rfl rfl rfl rfl ?_
                        refine AOps.guardT rfl rfl rfl hb1 ?_; refine AOps.neqP rfl rfl rfl rfl rfl rfl rfl ?_
                        refine AOps.pickF rfl hb1 rfl rfl ?_
                        refine AOps.move rfl rfl ?_
                        refine AOps.guardT rfl rfl rfl hb2 ?_; refine W.fieldAddr rfl rfl rfl rfl ?_
                        refine AOps.guardT rfl rfl rfl hb2 ?_; refine AOps.load rfl rfl rfl rfl rfl rfl ?_
                        refine AOps.guardT rfl rfl rfl hb2 ?_; refine AOps.neq rfl rfl rfl ?_
                        refine AOps.guardT rfl rfl rfl hb2 ?_; refine AOps.move rfl rfl ?_
                        refine AOps.guardT rfl rfl rfl hb3 ?_; refine AOps.move rfl rfl ?_
                        refine AOps.guardT rfl rfl rfl hb3 ?_; refine S.len rfl rfl (fun hl90 => ?_)
                        refine AOps.guardT rfl rfl rfl hb3 ?_; refine AOps.move rfl rfl ?_
                        refine AOps.guardT rfl rfl rfl hb3 ?_; refine S.len rfl rfl (fun hl92 => ?_)
                        refine AOps.guardT rfl rfl rfl hb3 ?_; refine S.add rfl rfl rfl ?_
                        refine AOps.guardT rfl rfl rfl hb3 ?_; refine AOps.gtr rfl rfl rfl ?_
                        refine AOps.guardT rfl rfl rfl hb2 ?_; refine AOps.pickT rfl hb3 rfl rfl ?_
                        refine AOps.pickF rfl hb2 rfl rfl ?_
                        refine AOps.move rfl rfl ?_
                        refine AOps.guardT rfl rfl rfl hb4 ?_; refine W.fieldAddr rfl rfl rfl rfl ?_
                        refine AOps.guardT rfl rfl rfl hb4 ?_; refine AOps.load rfl rfl rfl rfl rfl rfl ?_
                        refine AOps.guardT rfl rfl rfl hb4 ?_; refine AOps.neq rfl rfl rfl ?_
                        refine AOps.guardT rfl rfl rfl hb4 ?_; refine AOps.move rfl rfl ?_
                        refine AOps.guardF rfl rfl rfl hb5 ?_
                        refine AOps.guardF rfl rfl rfl hb5 ?_
                        refine AOps.guardSkip rfl rfl rfl ?_
                        refine AOps.guardSkip rfl rfl rfl ?_
                        refine AOps.guardF rfl rfl rfl hb5 ?_
                        refine AOps.guardT rfl rfl rfl hb4 ?_; refine AOps.pickF rfl hb5 rfl rfl ?_
                        refine AOps.pickF rfl hb4 rfl rfl ?_
                        refine AOps.move rfl rfl ?_
                        refine AOps.guardT rfl rfl rfl rfl ?_; refine W.fieldAddr rfl rfl rfl rfl ?_
                        refine AOps.guardT rfl rfl rfl rfl ?_; refine AOps.load rfl rfl rfl rfl rfl rfl ?_
                        refine AOps.guardT rfl rfl rfl rfl ?_; refine AOps.neq rfl rfl rfl ?_
                        refine AOps.guardT rfl rfl rfl rfl ?_; refine AOps.move rfl rfl ?_
                        refine AOps.guardT rfl rfl rfl hb6 ?_; refine AOps.move rfl rfl ?_
                        refine AOps.guardT rfl rfl rfl hb6 ?_; refine AOps.move rfl rfl ?_
                        refine AOps.guardT rfl rfl rfl hb7 ?_; refine AOps.move rfl rfl ?_
                        refine AOps.guardT rfl rfl rfl hb7 ?_; refine S.len rfl rfl (fun hl117 => ?_)
                        refine AOps.guardT rfl rfl rfl hb7 ?_; refine AOps.gtr rfl rfl rfl ?_
                        refine AOps.guardT rfl rfl rfl hb6 ?_; refine AOps.pickF rfl hb7 rfl rfl ?_
                        refine AOps.guardT rfl rfl rfl rfl ?_; refine AOps.pickT rfl hb6 rfl rfl ?_
                        refine AOps.pickF rfl rfl rfl rfl ?_
                        refine AOps.nil ?_
                        refine thn_normal ?_
                        simp only [and_f hb1, or_f hb1, and_f hb2, or_f hb2, and_t hb3, or_t hb3, and_f hb4, or_f hb4, and_f hb5, or_f hb5, and_t hb6, or_t hb6, and_f hb7, or_f hb7, Bool.false_or, Bool.true_or, Bool.false_and, Bool.true_and]
                        exact Sub.env ⟨rfl, rfl, rfl, rfl, rfl, rfl, rfl, rfl, rfl, rfl, rfl, rfl, rfl, rfl, trivial⟩
                    · refine AWP.region ?_
                      refine W.loadAgg rfl rfl rfl rfl rfl rfl rfl ?_
                      refine W.loadAgg rfl rfl rfl rfl rfl rfl rfl ?_
                      refine AOps.neqP rfl rfl rfl rfl rfl rfl rfl ?_
                      refine AOps.move rfl rfl ?_
                      refine AOps.guardT rfl rfl rfl hb1 ?_; refine W.loadAgg rfl rfl rfl rfl rfl rfl rfl ?_
                      refine AOps.guardT rfl rfl rfl hb1 ?_; refine W.loadAgg rfl rfl rfl rfl rfl rfl rfl ?_
                      refine AOps.guardT rfl rfl rfl hb1 ?_; refine AOps.neqP rfl rfl rfl rfl rfl rfl rfl ?_
                      refine AOps.pickF rfl hb1 rfl rfl ?_
                      refine AOps.move rfl rfl ?_
                      refine AOps.guardT rfl rfl rfl hb2 ?_; refine W.fieldAddr rfl rfl rfl rfl ?_
                      refine AOps.guardT rfl rfl rfl hb2 ?_; refine AOps.load rfl rfl rfl rfl rfl rfl ?_
                      refine AOps.guardT rfl rfl rfl hb2 ?_; refine AOps.neq rfl rfl rfl ?_
                      refine AOps.guardT rfl rfl rfl hb2 ?_; refine AOps.move rfl rfl ?_
                      refine AOps.guardT rfl rfl rfl hb3 ?_; refine AOps.move rfl rfl ?_
                      refine AOps.guardT rfl rfl rfl hb3 ?_; refine S.len rfl rfl (fun hl90 => ?_)
                      refine AOps.guardT rfl rfl rfl hb3 ?_; refine AOps.move rfl rfl ?_
                      refine AOps.guardT rfl rfl rfl hb3 ?_; refine S.len rfl rfl (fun hl92 => ?_)
                      refine AOps.guardT rfl rfl rfl hb3 ?_; refine S.add rfl rfl rfl ?_
                      refine AOps.guardT rfl rfl rfl hb3 ?_; refine AOps.gtr rfl rfl rfl ?_
                      refine AOps.guardT rfl rfl rfl hb2 ?_; refine AOps.pickT rfl hb3 rfl rfl ?_
                      refine AOps.pickF rfl hb2 rfl rfl ?_
                      refine AOps.move rfl rfl ?_
                      refine AOps.guardT rfl rfl rfl hb4 ?_; refine W.fieldAddr rfl rfl rfl rfl ?_
                      refine AOps.guardT rfl rfl rfl hb4 ?_; refine AOps.load rfl rfl rfl rfl rfl rfl ?_
                      refine AOps.guardT rfl rfl rfl hb4 ?_; refine AOps.neq rfl rfl rfl ?_
                      refine AOps.guardT rfl rfl rfl hb4 ?_; refine AOps.move rfl rfl ?_
                      refine AOps.guardF rfl rfl rfl hb5 ?_
                      refine AOps.guardF rfl rfl rfl hb5 ?_
                      refine AOps.guardSkip rfl rfl rfl ?_
                      refine AOps.guardSkip rfl rfl rfl ?_
                      refine AOps.guardF rfl rfl rfl hb5 ?_
                      refine AOps.guardT rfl rfl rfl hb4 ?_; refine AOps.pickF rfl hb5 rfl rfl ?_
                      refine AOps.pickF rfl hb4 rfl rfl ?_
                      refine AOps.move rfl rfl ?_
                      refine AOps.guardT rfl rfl rfl rfl ?_; refine W.fieldAddr rfl rfl rfl rfl ?_
                      refine AOps.guardT rfl rfl rfl rfl ?_; refine AOps.load rfl rfl rfl rfl rfl rfl ?_
                      refine AOps.guardT rfl rfl rfl rfl ?_; refine AOps.neq rfl rfl rfl ?_
                      refine AOps.guardT rfl rfl rfl rfl ?_; refine AOps.move rfl rfl ?_
                      refine AOps.guardF rfl rfl rfl hb6 ?_
                      refine AOps.guardF rfl rfl rfl hb6 ?_
                      refine AOps.guardSkip rfl rfl rfl ?_
                      refine AOps.guardSkip rfl rfl rfl ?_
                      refine AOps.guardSkip rfl rfl rfl ?_
                      refine AOps.guardF rfl rfl rfl hb6 ?_
                      refine AOps.guardT rfl rfl rfl rfl ?_; refine AOps.pickF rfl hb6 rfl rfl ?_
                      refine AOps.pickF rfl rfl rfl rfl ?_
                      refine AOps.nil ?_
                      refine thn_normal ?_
                      simp only [and_f hb1, or_f hb1, and_f hb2, or_f hb2, and_t hb3, or_t hb3, and_f hb4, or_f hb4, and_f hb5, or_f hb5, and_f hb6, or_f hb6, Bool.false_or, Bool.true_or, Bool.false_and, Bool.true_and]
                      exact Sub.env ⟨rfl, rfl, rfl, rfl, rfl, rfl, rfl, rfl, rfl, rfl, rfl, rfl, rfl, rfl, trivial⟩
              · rcases Bool.eq_false_or_eq_true (!(decide (c6 = 0))) with hb4 | hb4
                · rcases Bool.eq_false_or_eq_true (a38.2.1) with hb5 | hb5
                  · refine AWP.region ?_
                    refine W.loadAgg rfl rfl rfl rfl rfl rfl rfl ?_
                    refine W.loadAgg rfl rfl rfl rfl rfl rfl rfl ?_
                    refine AOps.neqP rfl rfl rfl rfl rfl rfl rfl ?_
                    refine AOps.move rfl rfl ?_
                    refine AOps.guardT rfl rfl rfl hb1 ?_; refine W.loadAgg rfl rfl rfl rfl rfl rfl rfl ?_
                    refine AOps.guardT rfl rfl rfl hb1 ?_; refine W.loadAgg rfl rfl rfl rfl rfl rfl rfl ?_
                    refine AOps.guardT rfl rfl rfl hb1 ?_; refine AOps.neqP rfl rfl rfl rfl rfl rfl rfl ?_
                    refine AOps.pickF rfl hb1 rfl rfl ?_
                    refine AOps.move rfl rfl ?_
                    refine AOps.guardT rfl rfl rfl hb2 ?_; refine W.fieldAddr rfl rfl rfl rfl ?_
                    refine AOps.guardT rfl rfl rfl hb2 ?_; refine AOps.load rfl rfl rfl rfl rfl rfl ?_
                    refine AOps.guardT rfl rfl rfl hb2 ?_; refine AOps.neq rfl rfl rfl ?_
                    refine AOps.guardT rfl rfl rfl hb2 ?_; refine AOps.move rfl rfl ?_
                    refine AOps.guardF rfl rfl rfl hb3 ?_
                    refine AOps.guardF rfl rfl rfl hb3 ?_
                    refine AOps.guardF rfl rfl rfl hb3 ?_
                    refine AOps.guardF rfl rfl rfl hb3 ?_
                    refine AOps.guardF rfl rfl rfl hb3 ?_
                    refine AOps.guardF rfl rfl rfl hb3 ?_
                    refine AOps.guardT rfl rfl rfl hb2 ?_; refine AOps.pickF rfl hb3 rfl rfl ?_
                    refine AOps.pickF rfl hb2 rfl rfl ?_
                    refine AOps.move rfl rfl ?_
                    refine AOps.guardT rfl rfl rfl rfl ?_; refine W.fieldAddr rfl rfl rfl rfl ?_
                    refine AOps.guardT rfl rfl rfl rfl ?_; refine AOps.load rfl rfl rfl rfl rfl rfl ?_
                    refine AOps.guardT rfl rfl rfl rfl ?_; refine AOps.neq rfl rfl rfl ?_
                    refine AOps.guardT rfl rfl rfl rfl ?_; refine AOps.move rfl rfl ?_
                    refine AOps.guardT rfl rfl rfl hb4 ?_; refine AOps.move rfl rfl ?_
                    refine AOps.guardT rfl rfl rfl hb4 ?_; refine AOps.move rfl rfl ?_
                    refine AOps.guardF rfl rfl rfl hb5 ?_
                    refine AOps.guardF rfl rfl rfl hb5 ?_
                    refine AOps.guardT rfl rfl rfl hb4 ?_; refine AOps.pickT rfl hb5 rfl rfl ?_
                    refine AOps.guardT rfl rfl rfl rfl ?_; refine AOps.pickT rfl hb4 rfl rfl ?_
                    refine AOps.pickF rfl rfl rfl rfl ?_
                    refine AOps.move rfl rfl ?_
                    refine AOps.guardF rfl rfl rfl rfl ?_
                    refine AOps.guardF rfl rfl rfl rfl ?_
                    refine AOps.guardF rfl rfl rfl rfl ?_
                    refine AOps.guardF rfl rfl rfl rfl ?_
                    refine AOps.guardSkip rfl rfl rfl ?_
                    refine AOps.guardSkip rfl rfl rfl ?_
                    refine AOps.guardSkip rfl rfl rfl ?_
                    refine AOps.guardSkip rfl rfl rfl ?_
                    refine AOps.guardSkip rfl rfl rfl ?_
                    refine AOps.guardSkip rfl rfl rfl ?_
                    refine AOps.guardF rfl rfl rfl rfl ?_
                    refine AOps.pickT rfl rfl rfl rfl ?_
                    refine AOps.nil ?_
                    refine thn_normal ?_
                    simp only [and_f hb1, or_f hb1, and_f hb2, or_f hb2, and_f hb3, or_f hb3, and_t hb4, or_t hb4, and_t hb5, or_t hb5, Bool.false_or, Bool.true_or, Bool.false_and, Bool.true_and]
                    exact Sub.env ⟨rfl, rfl, rfl, rfl, rfl, rfl, rfl, rfl, rfl, rfl, rfl, rfl, rfl, rfl, trivial⟩
                  · rcases Bool.eq_false_or_eq_true (!(decide (a38.1 = 0))) with hb6 | hb6
                    · refine AWP.region ?_
                      refine W.loadAgg rfl rfl rfl rfl rfl rfl rfl ?_
                      refine W.loadAgg rfl rfl rfl rfl rfl rfl rfl ?_
                      refine AOps.neqP rfl rfl rfl rfl rfl rfl rfl ?_
                      refine AOps.move rfl rfl ?_
                      refine AOps.guardT rfl rfl rfl hb1 ?_; refine W.loadAgg rfl rfl rfl rfl rfl rfl rfl ?_
                      refine AOps.guardT rfl rfl rfl hb1 ?_; refine W.loadAgg rfl rfl rfl rfl rfl rfl rfl ?_
                      refine AOps.guardT rfl rfl rfl hb1 ?_; refine AOps.neqP rfl rfl rfl rfl rfl rfl rfl ?_
                      refine AOps.pickF rfl hb1 rfl rfl ?_
                      refine AOps.move rfl rfl ?_
                      refine AOps.guardT rfl rfl rfl hb2 ?_; refine W.fieldAddr rfl rfl rfl rfl ?_
                      refine AOps.guardT rfl rfl rfl hb2 ?_; refine AOps.load rfl rfl rfl rfl rfl rfl ?_
                      refine AOps.guardT rfl rfl rfl hb2 ?_; refine AOps.neq rfl rfl rfl ?_
                      refine AOps.guardT rfl rfl rfl hb2 ?_; refine AOps.move rfl rfl ?_
                      refine AOps.guardF rfl rfl rfl hb3 ?_
                      refine AOps.guardF rfl rfl rfl hb3 ?_
                      refine AOps.guardF rfl rfl rfl hb3 ?_
                      refine AOps.guardF rfl rfl rfl hb3 ?_
                      refine AOps.guardF rfl rfl rfl hb3 ?_
                      refine AOps.guardF rfl rfl rfl hb3 ?_
                      refine AOps.guardT rfl rfl rfl hb2 ?_; refine AOps.pickF rfl hb3 rfl rfl ?_
                      refine AOps.pickF rfl hb2 rfl rfl ?_
                      refine AOps.move rfl rfl ?_
                      refine AOps.guardT rfl rfl rfl rfl ?_; refine W.fieldAddr rfl rfl rfl rfl ?_
                      refine AOps.guardT rfl rfl rfl rfl ?_; refine AOps.load rfl rfl rfl rfl rfl rfl ?_
                      refine AOps.guardT rfl rfl rfl rfl ?_; refine AOps.neq rfl rfl rfl ?_
                      refine AOps.guardT rfl rfl rfl rfl ?_; refine AOps.move rfl rfl ?_
                      refine AOps.guardT rfl rfl rfl hb4 ?_; refine AOps.move rfl rfl ?_
                      refine AOps.guardT rfl rfl rfl hb4 ?_; refine AOps.move rfl rfl ?_
                      refine AOps.guardT rfl rfl rfl hb5 ?_; refine AOps.move rfl rfl ?_
                      refine AOps.guardT rfl rfl rfl hb5 ?_; refine AOps.neq rfl rfl rfl ?_
                      refine AOps.guardT rfl rfl rfl hb4 ?_; refine AOps.pickF rfl hb5 rfl rfl ?_
                      refine AOps.guardT rfl rfl rfl rfl ?_; refine AOps.pickT rfl hb4 rfl rfl ?_
                      refine AOps.pickF rfl rfl rfl rfl ?_
                      refine AOps.move rfl rfl ?_
                      refine AOps.guardF rfl rfl rfl hb6 ?_
                      refine AOps.guardF rfl rfl rfl hb6 ?_
                      refine AOps.guardF rfl rfl rfl hb6 ?_
                      refine AOps.guardF rfl rfl rfl hb6 ?_
                      refine AOps.guardSkip rfl rfl rfl ?_
                      refine AOps.guardSkip rfl rfl rfl ?_
                      refine AOps.guardSkip rfl rfl rfl ?_
                      refine AOps.guardSkip rfl rfl rfl ?_
                      refine AOps.guardSkip rfl rfl rfl ?_
                      refine AOps.guardSkip rfl rfl rfl ?_
                      refine AOps.guardF rfl rfl rfl hb6 ?_
                      refine AOps.pickT rfl hb6 rfl rfl ?_
                      refine AOps.nil ?_
                      refine thn_normal ?_
                      simp only [and_f hb1, or_f hb1, and_f hb2, or_f hb2, and_f hb3, or_f hb3, and_t hb4, or_t hb4, and_f hb5, or_f hb5, and_t hb6, or_t hb6, Bool.false_or, Bool.true_or, Bool.false_and, Bool.true_and]
                      exact Sub.env ⟨rfl, rfl, rfl, rfl, rfl, rfl, rfl, rfl, rfl, rfl, rfl, rfl, rfl, rfl, trivial⟩
                    · rcases Bool.eq_false_or_eq_true (!(decide (c10 = 0))) with hb7 | hb7
                      · rcases Bool.eq_false_or_eq_true (a47.2.1) with hb8 | hb8
                        · refine AWP.region ?_
                          refine W.loadAgg rfl rfl rfl rfl rfl rfl rfl ?_
                          refine W.loadAgg rfl rfl rfl rfl rfl rfl rfl ?_
                          refine AOps.neqP rfl rfl rfl rfl rfl rfl rfl ?_
                          refine AOps.move rfl rfl ?_
                          refine AOps.guardT rfl rfl rfl hb1 ?_; refine W.loadAgg rfl rfl rfl rfl rfl rfl rfl ?_
                          refine AOps.guardT rfl rfl rfl hb1 ?_; refine W.loadAgg rfl rfl rfl rfl rfl rfl rfl ?_
                          refine AOps.guardT rfl rfl rfl hb1 ?_; refine AOps.neqP rfl rfl rfl rfl rfl rfl rfl ?_
                          refine AOps.pickF rfl hb1 rfl rfl ?_
                          refine AOps.move rfl rfl ?_
                          refine AOps.guardT rfl rfl rfl hb2 ?_; refine W.fieldAddr rfl rfl rfl rfl ?_
                          refine AOps.guardT rfl rfl rfl hb2 ?_; refine AOps.load rfl rfl rfl rfl rfl rfl ?_
                          refine AOps.guardT rfl rfl rfl hb2 ?_; refine AOps.neq rfl rfl rfl ?_
                          refine AOps.guardT rfl rfl rfl hb2 ?_; refine AOps.move rfl rfl ?_
                          refine AOps.guardF rfl rfl rfl hb3 ?_
                          refine AOps.guardF rfl rfl rfl hb3 ?_
                          refine AOps.guardF rfl rfl rfl hb3 ?_
                          refine AOps.guardF rfl rfl rfl hb3 ?_
                          refine AOps.guardF rfl rfl rfl hb3 ?_
                          refine AOps.guardF rfl rfl rfl hb3 ?_
                          refine AOps.guardT rfl rfl rfl hb2 ?_; refine AOps.pickF rfl hb3 rfl rfl ?_
                          refine AOps.pickF rfl hb2 rfl rfl ?_
                          refine AOps.move rfl rfl ?_
                          refine AOps.guardT rfl rfl rfl rfl ?_; refine W.fieldAddr rfl rfl rfl rfl ?_
                          refine AOps.guardT rfl rfl rfl rfl ?_; refine AOps.load rfl rfl rfl rfl rfl rfl ?_
                          refine AOps.guardT rfl rfl rfl rfl ?_; refine AOps.neq rfl rfl rfl ?_
                          refine AOps.guardT rfl rfl rfl rfl ?_; refine AOps.move rfl rfl ?_
                          refine AOps.guardT rfl rfl rfl hb4 ?_; refine AOps.move rfl rfl ?_
                          refine AOps.guardT rfl rfl rfl hb4 ?_; refine AOps.move rfl rfl ?_
                          refine AOps.guardT rfl rfl rfl hb5 ?_; refine AOps.move rfl rfl ?_
                          refine AOps.guardT rfl rfl rfl hb5 ?_; refine AOps.neq rfl rfl rfl ?_
                          refine AOps.guardT rfl rfl rfl hb4 ?_; refine AOps.pickF rfl hb5 rfl rfl ?_
                          refine AOps.guardT rfl rfl rfl rfl ?_; refine AOps.pickT rfl hb4 rfl rfl ?_
                          refine AOps.pickF rfl rfl rfl rfl ?_
                          refine AOps.move rfl rfl ?_
                          refine AOps.guardT rfl rfl rfl hb6 ?_; refine W.fieldAddr rfl rfl rfl rfl ?_
                          refine AOps.guardT rfl rfl rfl hb6 ?_; refine AOps.load rfl rfl rfl rfl rfl rfl ?_
                          refine AOps.guardT rfl rfl rfl hb6 ?_; refine AOps.neq rfl rfl rfl ?_
                          refine AOps.guardT rfl rfl rfl hb6 ?_; refine AOps.move rfl rfl ?_
                          refine AOps.guardT rfl rfl rfl hb7 ?_; refine AOps.move rfl rfl ?_
                          refine AOps.guardT rfl rfl rfl hb7 ?_; refine AOps.move rfl rfl ?_
                          refine AOps.guardF rfl rfl rfl hb8 ?_
                          refine AOps.guardF rfl rfl rfl hb8 ?_
                          refine AOps.guardF rfl rfl rfl hb8 ?_
                          refine AOps.guardT rfl rfl rfl hb7 ?_; refine AOps.pickT rfl hb8 rfl rfl ?_
                          refine AOps.guardT rfl rfl rfl hb6 ?_; refine AOps.pickT rfl hb7 rfl rfl ?_
                          refine AOps.pickF rfl hb6 rfl rfl ?_
                          refine AOps.nil ?_
                          refine thn_normal ?_
                          simp only [and_f hb1, or_f hb1, and_f hb2, or_f hb2, and_f hb3, or_f hb3, and_t hb4, or_t hb4, and_f hb5, or_f hb5, and_f hb6, or_f hb6, and_t hb7, or_t hb7, and_t hb8, or_t hb8, Bool.false_or, Bool.true_or, Bool.false_and, Bool.true_and]
                          exact Sub.env ⟨rfl, rfl, rfl, rfl, rfl, rfl, rfl, rfl, rfl, rfl, rfl, rfl, rfl, rfl, trivial⟩
                        · refine AWP.region ?_
                          refine W.loadAgg rfl rfl rfl rfl rfl rfl rfl ?_
                          refine W.loadAgg rfl rfl rfl rfl rfl rfl rfl ?_
                          refine AOps.neqP rfl rfl rfl rfl rfl rfl rfl ?_
                          refine AOps.move rfl rfl ?_
                          refine AOps.guardT rfl rfl rfl hb1 ?_; refine W.loadAgg rfl rfl rfl rfl rfl rfl rfl ?_
                          refine AOps.guardT rfl rfl rfl hb1 ?_; refine W.loadAgg rfl rfl rfl rfl rfl rfl rfl ?_
                          refine AOps.guardT rfl rfl rfl hb1 ?_; refine AOps.neqP rfl rfl rfl rfl rfl rfl rfl ?_
                          refine AOps.pickF rfl hb1 rfl rfl ?_
                          refine AOps.move rfl rfl ?_
                          refine AOps.guardT rfl rfl rfl hb2 ?_; refine W.fieldAddr rfl rfl rfl rfl ?_
                          refine AOps.guardT rfl rfl rfl hb2 ?_; refine AOps.load rfl rfl rfl rfl rfl rfl ?_
                          refine AOps.guardT rfl rfl rfl hb2 ?_; refine AOps.neq rfl rfl rfl ?_
                          refine AOps.guardT rfl rfl rfl hb2 ?_; refine AOps.move rfl rfl ?_
                          refine AOps.guardF rfl rfl rfl hb3 ?_
                          refine AOps.guardF rfl rfl rfl hb3 ?_
                          refine AOps.guardF rfl rfl rfl hb3 ?_
                          refine AOps.guardF rfl rfl rfl hb3 ?_
                          refine AOps.guardF rfl rfl rfl hb3 ?_
                          refine AOps.guardF rfl rfl rfl hb3 ?_
                          refine AOps.guardT rfl rfl rfl hb2 ?_; refine AOps.pickF rfl hb3 rfl rfl ?_
                          refine AOps.pickF rfl hb2 rfl rfl ?_
                          refine AOps.move rfl rfl ?_
                          refine AOps.guardT rfl rfl rfl rfl ?_; refine W.fieldAddr rfl rfl rfl rfl ?_
                          refine AOps.guardT rfl rfl rfl rfl ?_; refine AOps.load rfl rfl rfl rfl rfl rfl ?_
                          refine AOps.guardT rfl rfl rfl rfl ?_; refine AOps.neq rfl rfl rfl ?_
                          refine AOps.guardT rfl rfl rfl rfl ?_; refine AOps.move rfl rfl ?_
                          refine AOps.guardT rfl rfl rfl hb4 ?_; refine AOps.move rfl rfl ?_
                          refine AOps.guardT rfl rfl rfl hb4 ?_; refine AOps.move rfl rfl ?_
                          refine AOps.guardT rfl rfl rfl hb5 ?_; refine AOps.move rfl rfl ?_
                          refine AOps.guardT rfl rfl rfl hb5 ?_; refine AOps.neq rfl rfl rfl ?_
                          refine AOps.guardT rfl rfl rfl hb4 ?_; refine AOps.pickF rfl hb5 rfl rfl ?_
                          refine AOps.guardT rfl rfl rfl rfl ?_; refine AOps.pickT rfl hb4 rfl rfl ?_
                          refine AOps.pickF rfl rfl rfl rfl ?_
                          refine AOps.move rfl rfl ?_
                          refine AOps.guardT rfl rfl rfl hb6 ?_; refine W.fieldAddr rfl rfl rfl rfl ?_
                          refine AOps.guardT rfl rfl rfl hb6 ?_; refine AOps.load rfl rfl rfl rfl rfl rfl ?_
                          refine AOps.guardT rfl rfl rfl hb6 ?_; refine AOps.neq rfl rfl rfl ?_
                          refine AOps.guardT rfl rfl rfl hb6 ?_; refine AOps.move rfl rfl ?_
                          refine AOps.guardT rfl rfl rfl hb7 ?_; refine AOps.move rfl rfl ?_
                          refine AOps.guardT rfl rfl rfl hb7 ?_; refine AOps.move rfl rfl ?_
                          refine AOps.guardT rfl rfl rfl hb8 ?_; refine AOps.move rfl rfl ?_
                          refine AOps.guardT rfl rfl rfl hb8 ?_; refine S.len rfl rfl (fun hl117 => ?_)
                          refine AOps.guardT rfl rfl rfl hb8 ?_; refine AOps.gtr rfl rfl rfl ?_
                          refine AOps.guardT rfl rfl rfl hb7 ?_; refine AOps.pickF rfl hb8 rfl rfl ?_
                          refine AOps.guardT rfl rfl rfl hb6 ?_; refine AOps.pickT rfl hb7 rfl rfl ?_
                          refine AOps.pickF rfl hb6 rfl rfl ?_
                          refine AOps.nil ?_
                          refine thn_normal ?_
                          simp only [and_f hb1, or_f hb1, and_f hb2, or_f hb2, and_f hb3, or_f hb3, and_t hb4, or_t hb4, and_f hb5, or_f hb5, and_f hb6, or_f hb6, and_t hb7, or_t hb7, and_f hb8, or_f hb8, Bool.false_or, Bool.true_or, Bool.false_and, Bool.true_and]
                          exact Sub.env ⟨rfl, rfl, rfl, rfl, rfl, rfl, rfl, rfl, rfl, rfl, rfl, rfl, rfl, rfl, trivial⟩
                      · refine AWP.region ?_
                        refine W.loadAgg rfl rfl rfl rfl rfl rfl rfl ?_
                        refine W.loadAgg rfl rfl rfl rfl rfl rfl rfl ?_
                        refine AOps.neqP rfl rfl rfl rfl rfl rfl rfl ?_
                        refine AOps.move rfl rfl ?_
                        refine AOps.guardT rfl rfl rfl hb1 ?_; refine W.loadAgg rfl rfl rfl rfl rfl rfl rfl ?_
                        refine AOps.guardT rfl rfl rfl hb1 ?_; refine W.loadAgg rfl rfl rfl rfl rfl rfl rfl ?_
                        refine AOps.guardT rfl rfl rfl hb1 ?_; refine AOps.neqP rfl rfl rfl rfl rfl rfl rfl ?_
                        refine AOps.pickF rfl hb1 rfl rfl ?_
                        refine AOps.move rfl rfl ?_
                        refine AOps.guardT rfl rfl rfl hb2 ?_; refine W.fieldAddr rfl rfl rfl rfl ?_
                        refine AOps.guardT rfl rfl rfl hb2 ?_; refine AOps.load rfl rfl rfl rfl rfl rfl ?_
                        refine AOps.guardT rfl rfl rfl hb2 ?_; refine AOps.neq rfl rfl rfl ?_
                        refine AOps.guardT rfl rfl rfl hb2 ?_; refine AOps.move rfl rfl ?_
                        refine AOps.guardF rfl rfl rfl hb3 ?_
                        refine AOps.guardF rfl rfl rfl hb3 ?_
                        refine AOps.guardF rfl rfl rfl hb3 ?_
                        refine AOps.guardF rfl rfl rfl hb3 ?_
                        refine AOps.guardF rfl rfl rfl hb3 ?_
                        refine AOps.guardF rfl rfl rfl hb3 ?_
                        refine AOps.guardT rfl rfl rfl hb2 ?_; refine AOps.pickF rfl hb3 rfl rfl ?_
                        refine AOps.pickF rfl hb2 rfl rfl ?_
                        refine AOps.move rfl rfl ?_
                        refine AOps.guardT rfl rfl rfl rfl ?_; refine W.fieldAddr rfl rfl rfl rfl ?_
                        refine AOps.guardT rfl rfl rfl rfl ?_; refine AOps.load rfl rfl rfl rfl rfl rfl ?_
                        refine AOps.guardT rfl rfl rfl rfl ?_; refine AOps.neq rfl rfl rfl ?_
                        refine AOps.guardT rfl rfl rfl rfl ?_; refine AOps.move rfl rfl ?_
                        refine AOps.guardT rfl rfl rfl hb4 ?_; refine AOps.move rfl rfl ?_
                        refine AOps.guardT rfl rfl rfl hb4 ?_; refine AOps.move rfl rfl ?_
                        refine AOps.guardT rfl rfl rfl hb5 ?_; refine AOps.move rfl rfl ?_
                        refine AOps.guardT rfl rfl rfl hb5 ?_; refine AOps.neq rfl rfl rfl ?_
                        refine AOps.guardT rfl rfl rfl hb4 ?_; refine AOps.pickF rfl hb5 rfl rfl ?_
                        refine AOps.guardT rfl rfl rfl rfl ?_; refine AOps.pickT rfl hb4 rfl rfl ?_
                        refine AOps.pickF rfl rfl rfl rfl ?_
                        refine AOps.move rfl rfl ?_
                        refine AOps.guardT rfl rfl rfl hb6 ?_; refine W.fieldAddr rfl rfl rfl rfl ?_
                        refine AOps.guardT rfl rfl rfl hb6 ?_; refine AOps.load rfl rfl rfl rfl rfl rfl ?_
                        refine AOps.guardT rfl rfl rfl hb6 ?_; refine AOps.neq rfl rfl rfl ?_
                        refine AOps.guardT rfl rfl rfl hb6 ?_; refine AOps.move rfl rfl ?_
                        refine AOps.guardF rfl rfl rfl hb7 ?_
                        refine AOps.guardF rfl rfl rfl hb7 ?_
                        refine AOps.guardSkip rfl rfl rfl ?_
                        refine AOps.guardSkip rfl rfl rfl ?_
                        refine AOps.guardSkip rfl rfl rfl ?_
                        refine AOps.guardF rfl rfl rfl hb7 ?_
                        refine AOps.guardT rfl rfl rfl hb6 ?_; refine AOps.pickF rfl hb7 rfl rfl ?_
                        refine AOps.pickF rfl hb6 rfl rfl ?_
                        refine AOps.nil ?_
                        refine thn_normal ?_
                        simp only [and_f hb1, or_f hb1, and_f hb2, or_f hb2, and_f hb3, or_f hb3, and_t hb4, or_t hb4, and_f hb5, or_f hb5, and_f hb6, or_f hb6, and_f hb7, or_f hb7, Bool.false_or, Bool.true_or, Bool.false_and, Bool.true_and]
                        exact Sub.env ⟨rfl, rfl, rfl, rfl, rfl, rfl, rfl, rfl, rfl, rfl, rfl, rfl, rfl, rfl, trivial⟩
                · rcases Bool.eq_false_or_eq_true (!(decide (c10 = 0))) with hb5 | hb5
                  · rcases Bool.eq_false_or_eq_true (a47.2.1) with hb6 | hb6
                    · refine AWP.region ?_
                      refine W.loadAgg rfl rfl rfl rfl rfl rfl rfl ?_
                      refine W.loadAgg rfl rfl rfl rfl rfl rfl rfl ?_
                      refine AOps.neqP rfl rfl rfl rfl rfl rfl rfl ?_
                      refine AOps.move rfl rfl ?_
                      refine AOps.guardT rfl rfl rfl hb1 ?_; refine W.loadAgg rfl rfl rfl rfl rfl rfl rfl ?_
                      refine AOps.guardT rfl rfl rfl hb1 ?_; refine W.loadAgg rfl rfl rfl rfl rfl rfl rfl ?_
                      refine AOps.guardT rfl rfl rfl hb1 ?_; refine AOps.neqP rfl rfl rfl rfl rfl rfl rfl ?_
                      refine AOps.pickF rfl hb1 rfl rfl ?_
                      refine AOps.move rfl rfl ?_
                      refine AOps.guardT rfl rfl rfl hb2 ?_; refine W.fieldAddr rfl rfl rfl rfl ?_
                      refine AOps.guardT rfl rfl rfl hb2 ?_; refine AOps.load rfl rfl rfl rfl rfl rfl ?_
                      refine AOps.guardT rfl rfl rfl hb2 ?_; refine AOps.neq rfl rfl rfl ?_
                      refine AOps.guardT rfl rfl rfl hb2 ?_; refine AOps.move rfl rfl ?_
                      refine AOps.guardF rfl rfl rfl hb3 ?_
                      refine AOps.guardF rfl rfl rfl hb3 ?_
                      refine AOps.guardF rfl rfl rfl hb3 ?_
                      refine AOps.guardF rfl rfl rfl hb3 ?_
                      refine AOps.guardF rfl rfl rfl hb3 ?_
                      refine AOps.guardF rfl rfl rfl hb3 ?_
                      refine AOps.guardT rfl rfl rfl hb2 ?_; refine AOps.pickF rfl hb3 rfl rfl ?_
                      refine AOps.pickF rfl hb2 rfl rfl ?_
                      refine AOps.move rfl rfl ?_
                      refine AOps.guardT rfl rfl rfl rfl ?_; refine W.fieldAddr rfl rfl rfl rfl ?_
                      refine AOps.guardT rfl rfl rfl rfl ?_; refine AOps.load rfl rfl rfl rfl rfl rfl ?_
                      refine AOps.guardT rfl rfl rfl rfl ?_; refine AOps.neq rfl rfl rfl ?_
                      refine AOps.guardT rfl rfl rfl rfl ?_; refine AOps.move rfl rfl ?_
                      refine AOps.guardF rfl rfl rfl hb4 ?_
                      refine AOps.guardF rfl rfl rfl hb4 ?_
                      refine AOps.guardSkip rfl rfl rfl ?_
                      refine AOps.guardSkip rfl rfl rfl ?_
                      refine AOps.guardF rfl rfl rfl hb4 ?_
                      refine AOps.guardT rfl rfl rfl rfl ?_; refine AOps.pickF rfl hb4 rfl rfl ?_
                      refine AOps.pickF rfl rfl rfl rfl ?_
                      refine AOps.move rfl rfl ?_
                      refine AOps.guardT rfl rfl rfl rfl ?_; refine W.fieldAddr rfl rfl rfl rfl ?_
                      refine AOps.guardT rfl rfl rfl rfl ?_; refine AOps.load rfl rfl rfl rfl rfl rfl ?_
                      refine AOps.guardT rfl rfl rfl rfl ?_; refine AOps.neq rfl rfl rfl ?_
                      refine AOps.guardT rfl rfl rfl rfl ?_; refine AOps.move rfl rfl ?_
                      refine AOps.guardT rfl rfl rfl hb5 ?_; refine AOps.move rfl rfl ?_
                      refine AOps.guardT rfl rfl rfl hb5 ?_; refine AOps.move rfl rfl ?_
                      refine AOps.guardF rfl rfl rfl hb6 ?_
                      refine AOps.guardF rfl rfl rfl hb6 ?_
                      refine AOps.guardF rfl rfl rfl hb6 ?_
                      refine AOps.guardT rfl rfl rfl hb5 ?_; refine AOps.pickT rfl hb6 rfl rfl ?_
                      refine AOps.guardT rfl rfl rfl rfl ?_; refine AOps.pickT rfl hb5 rfl rfl ?_
                      refine AOps.pickF rfl rfl rfl rfl ?_
                      refine AOps.nil ?_
                      refine thn_normal ?_
                      simp only [and_f hb1, or_f hb1, and_f hb2, or_f hb2, and_f hb3, or_f hb3, and_f hb4, or_f hb4, and_t hb5, or_t hb5, and_t hb6, or_t hb6, Bool.false_or, Bool.true_or, Bool.false_and, Bool.true_and]
                      exact Sub.env ⟨rfl, rfl, rfl, rfl, rfl, rfl, rfl, rfl, rfl, rfl, rfl, rfl, rfl, rfl, trivial⟩
                    · refine AWP.region ?_
                      refine W.loadAgg rfl rfl rfl rfl rfl rfl rfl ?_
                      refine W.loadAgg rfl rfl rfl rfl rfl rfl rfl ?_
                      refine AOps.neqP rfl rfl rfl rfl rfl rfl rfl ?_
                      refine AOps.move rfl rfl ?_
                      refine AOps.guardT rfl rfl rfl hb1 ?_; refine W.loadAgg rfl rfl rfl rfl rfl rfl rfl ?_
                      refine AOps.guardT rfl rfl rfl hb1 ?_; refine W.loadAgg rfl rfl rfl rfl rfl rfl rfl ?_
                      refine AOps.guardT rfl rfl rfl hb1 ?_; refine AOps.neqP rfl rfl rfl rfl rfl rfl rfl ?_
                      refine AOps.pickF rfl hb1 rfl rfl ?_
                      refine AOps.move rfl rfl ?_
                      refine AOps.guardT rfl rfl rfl hb2 ?_; refine W.fieldAddr rfl rfl rfl rfl ?_
                      refine AOps.guardT rfl rfl rfl hb2 ?_; refine AOps.load rfl rfl rfl rfl rfl rfl ?_
                      refine AOps.guardT rfl rfl rfl hb2 ?_; refine AOps.neq rfl rfl rfl ?_
                      refine AOps.guardT rfl rfl rfl hb2 ?_; refine AOps.move rfl rfl ?_
                      refine AOps.guardF rfl rfl rfl hb3 ?_
                      refine AOps.guardF rfl rfl rfl hb3 ?_
                      refine AOps.guardF rfl rfl rfl hb3 ?_
                      refine AOps.guardF rfl rfl rfl hb3 ?_
                      refine AOps.guardF rfl rfl rfl hb3 ?_
                      refine AOps.guardF rfl rfl rfl hb3 ?_
                      refine AOps.guardT rfl rfl rfl hb2 ?_; refine AOps.pickF rfl hb3 rfl rfl ?_
                      refine AOps.pickF rfl hb2 rfl rfl ?_
                      refine AOps.move rfl rfl ?_
                      refine AOps.guardT rfl rfl rfl rfl ?_; refine W.fieldAddr rfl rfl rfl rfl ?_
                      refine AOps.guardT rfl rfl rfl rfl ?_; refine AOps.load rfl rfl rfl rfl rfl rfl ?_
                      refine AOps.guardT rfl rfl rfl rfl ?_; refine AOps.neq rfl rfl rfl ?_
                      refine AOps.guardT rfl rfl rfl rfl ?_; refine AOps.move rfl rfl ?_
                      refine AOps.guardF rfl rfl rfl hb4 ?_
                      refine AOps.guardF rfl rfl rfl hb4 ?_
                      refine AOps.guardSkip rfl rfl rfl ?_
                      refine AOps.guardSkip rfl rfl rfl ?_
                      refine AOps.guardF rfl rfl rfl hb4 ?_
                      refine AOps.guardT rfl rfl rfl rfl ?_; refine AOps.pickF rfl hb4 rfl rfl ?_
                      refine AOps.pickF rfl rfl rfl rfl ?_
                      refine AOps.move rfl rfl ?_
                      refine AOps.guardT rfl rfl rfl rfl ?_; refine W.fieldAddr rfl rfl rfl rfl ?_
                      refine AOps.guardT rfl rfl rfl rfl ?_; refine AOps.load rfl rfl rfl rfl rfl rfl ?_
                      refine AOps.guardT rfl rfl rfl rfl ?_; refine AOps.neq rfl rfl rfl ?_
                      refine AOps.guardT rfl rfl rfl rfl ?_; refine AOps.move rfl rfl ?_
                      refine AOps.guardT rfl rfl rfl hb5 ?_; refine AOps.move rfl rfl ?_
                      refine AOps.guardT rfl rfl rfl hb5 ?_; refine AOps.move rfl rfl ?_
                      refine AOps.guardT rfl rfl rfl hb6 ?_; refine AOps.move rfl rfl ?_
                      refine AOps.guardT rfl rfl rfl hb6 ?_; refine S.len rfl rfl (fun hl117 => ?_)
                      refine AOps.guardT rfl rfl rfl hb6 ?_; refine AOps.gtr rfl rfl rfl ?_
                      refine AOps.guardT rfl rfl rfl hb5 ?_; refine AOps.pickF rfl hb6 rfl rfl ?_
                      refine AOps.guardT rfl rfl rfl rfl ?_; refine AOps.pickT rfl hb5 rfl rfl ?_
                      refine AOps.pickF rfl rfl rfl rfl ?_
                      refine AOps.nil ?_
                      refine thn_normal ?_
                      simp only [and_f hb1, or_f hb1, and_f hb2, or_f hb2, and_f hb3, or_f hb3, and_f hb4, or_f hb4, and_t hb5, or_t hb5, and_f hb6, or_f hb6, Bool.false_or, Bool.true_or, Bool.false_and, Bool.true_and]
                      exact Sub.env ⟨rfl, rfl, rfl, rfl, rfl, rfl, rfl, rfl, rfl, rfl, rfl, rfl, rfl, rfl, trivial⟩
                  · refine AWP.region ?_
                    refine W.loadAgg rfl rfl rfl rfl rfl rfl rfl ?_
                    refine W.loadAgg rfl rfl rfl rfl rfl rfl rfl ?_
                    refine AOps.neqP rfl rfl rfl rfl rfl rfl rfl ?_
                    refine AOps.move rfl rfl ?_
                    refine AOps.guardT rfl rfl rfl hb1 ?_; refine W.loadAgg rfl rfl rfl rfl rfl rfl rfl ?_
                    refine AOps.guardT rfl rfl rfl hb1 ?_; refine W.loadAgg rfl rfl rfl rfl rfl rfl rfl ?_
                    refine AOps.guardT rfl rfl rfl hb1 ?_; refine AOps.neqP rfl rfl rfl rfl rfl rfl rfl ?_
                    refine AOps.pickF rfl hb1 rfl rfl ?_
                    refine AOps.move rfl rfl ?_
                    refine AOps.guardT rfl rfl rfl hb2 ?_; refine W.fieldAddr rfl rfl rfl rfl ?_
                    refine AOps.guardT rfl rfl rfl hb2 ?_; refine AOps.load rfl rfl rfl rfl rfl rfl ?_
                    refine AOps.guardT rfl rfl rfl hb2 ?_; refine AOps.neq rfl rfl rfl ?_
                    refine AOps.guardT rfl rfl rfl hb2 ?_; refine AOps.move rfl rfl ?_
                    refine AOps.guardF rfl rfl rfl hb3 ?_
                    refine AOps.guardF rfl rfl rfl hb3 ?_
                    refine AOps.guardF rfl rfl rfl hb3 ?_
                    refine AOps.guardF rfl rfl rfl hb3 ?_
                    refine AOps.guardF rfl rfl rfl hb3 ?_
                    refine AOps.guardF rfl rfl rfl hb3 ?_
                    refine AOps.guardT rfl rfl rfl hb2 ?_; refine AOps.pickF rfl hb3 rfl rfl ?_
                    refine AOps.pickF rfl hb2 rfl rfl ?_
                    refine AOps.move rfl rfl ?_
                    refine AOps.guardT rfl rfl rfl rfl ?_; refine W.fieldAddr rfl rfl rfl rfl ?_
                    refine AOps.guardT rfl rfl rfl rfl ?_; refine AOps.load rfl rfl rfl rfl rfl rfl ?_
                    refine AOps.guardT rfl rfl rfl rfl ?_; refine AOps.neq rfl rfl rfl ?_
                    refine AOps.guardT rfl rfl rfl rfl ?_; refine AOps.move rfl rfl ?_
                    refine AOps.guardF rfl rfl rfl hb4 ?_
                    refine AOps.guardF rfl rfl rfl hb4 ?_
                    refine AOps.guardSkip rfl rfl rfl ?_
                    refine AOps.guardSkip rfl rfl rfl ?_
                    refine AOps.guardF rfl rfl rfl hb4 ?_
                    refine AOps.guardT rfl rfl rfl rfl ?_; refine AOps.pickF rfl hb4 rfl rfl ?_
                    refine AOps.pickF rfl rfl rfl rfl ?_
                    refine AOps.move rfl rfl ?_
                    refine AOps.guardT rfl rfl rfl rfl ?_; refine W.fieldAddr rfl rfl rfl rfl ?_
                    refine AOps.guardT rfl rfl rfl rfl ?_; refine AOps.load rfl rfl rfl rfl rfl rfl ?_
                    refine AOps.guardT rfl rfl rfl rfl ?_; refine AOps.neq rfl rfl rfl ?_
                    refine AOps.guardT rfl rfl rfl rfl ?_; refine AOps.move rfl rfl ?_
                    refine AOps.guardF rfl rfl rfl hb5 ?_
                    refine AOps.guardF rfl rfl rfl hb5 ?_
                    refine AOps.guardSkip rfl rfl rfl ?_
                    refine AOps.guardSkip rfl rfl rfl ?_
                    refine AOps.guardSkip rfl rfl rfl ?_
                    refine AOps.guardF rfl rfl rfl hb5 ?_
                    refine AOps.guardT rfl rfl rfl rfl ?_; refine AOps.pickF rfl hb5 rfl rfl ?_
                    refine AOps.pickF rfl rfl rfl rfl ?_
                    refine AOps.nil ?_
                    refine thn_normal ?_
                    simp only [and_f hb1, or_f hb1, and_f hb2, or_f hb2, and_f hb3, or_f hb3, and_f hb4, or_f hb4, and_f hb5, or_f hb5, Bool.false_or, Bool.true_or, Bool.false_and, Bool.true_and]
                    exact Sub.env ⟨rfl, rfl, rfl, rfl, rfl, rfl, rfl, rfl, rfl, rfl, rfl, rfl, rfl, rfl, trivial⟩
        · refine AWP.iteB rfl h (fun hc17 h => ?_) (fun hc17 h => ?_)
          · refine AWP.seq ?_
            refine AWP.region ?_
            refine AOps.assign rfl rfl ?_
            refine AOps.nil ?_
            refine thn_normal ?_
            refine AWP.ret ?_
            refine thn_ret ?_
            have ej := Option.some.inj h
            subst ej
            exact Done.ret rfl rfl
          · refine AWP.skip ?_
            refine thn_normal ?_
            refine AWP.seq ?_
            refine AWP.seq ?_
            refine AWP.region ?_
            refine W.fieldAddr rfl rfl rfl rfl ?_
            refine AOps.load rfl rfl rfl rfl rfl rfl ?_
            refine AOps.neq rfl rfl rfl ?_
            refine AOps.nil ?_
            refine thn_normal ?_
            refine AWP.iteN rfl h (fun hc18 h => ?_) (fun hc18 h => ?_)
            · refine AWP.seq ?_
              obtain ⟨a125, ha125, h⟩ := bind_some h
              refine AWP.region ?_
              refine AOps.callR rfl rfl rfl rfl (law8_watched_ok ha125) rfl ?_
              refine AOps.assign rfl rfl ?_
              refine AOps.nil ?_
              refine thn_normal ?_
              refine AWP.ret ?_
              refine thn_ret ?_
              have ej := Option.some.inj h
              subst ej
              exact Done.ret rfl rfl
            · refine AWP.skip ?_
              refine thn_normal ?_
              refine AWP.seq ?_
              refine AWP.seqJ (⟨[(1, .c (row 1 intI plan)), (2, .c (row 1 intI sv)), (3, .c (int iv)), (4, .c (.ptr 0 0 0)), (9, .c (row 1 eLi64 a30.1)), (10, .c (row 1 eBool a30.2.1)), (12, .c (int a38.1)), (13, .c (bool a38.2.1)), (15, .c (row 1 intI a47.1)), (16, .c (bool a47.2.1)), (19, .c (.ptr 5 0 0)), (20, .c (.ptr 6 0 0)), (139, .c (bool ((!(decide ((a30.1.length : Int) = w64 ((plan.length : Int) + 1)))) || (!(decide ((a30.2.1.length : Int) = w64 ((plan.length : Int) + 1)))))))], [.one (.cells 4 [[int t.facts, row 1 intI t.init, row 1 intI t.goal, row 4 eTOperator t.operators]]), .dead, .one (.cells 2 [[int a38.2.2.code, int a38.2.2.index]]), .one (.cells 2 [[int a47.2.2.code, int a47.2.2.index]]), .one (.cells 2 [[int a53.code, int a53.index]]), .one (.cells 2 [[int c6, int c7]]), .one (.cells 2 [[int c10, int c11]])]⟩) ?_ ?_
              · rcases Bool.eq_false_or_eq_true (!(decide ((a30.1.length : Int) = w64 ((plan.length : Int) + 1)))) with hb1 | hb1
                · refine AWP.region ?_
                  refine AOps.move rfl rfl ?_
                  refine S.len rfl rfl (fun hl127 => ?_)
                  refine AOps.move rfl rfl ?_
                  refine S.len rfl rfl (fun hl129 => ?_)
                  refine S.add rfl rfl rfl ?_
                  refine AOps.neq rfl rfl rfl ?_
                  refine AOps.move rfl rfl ?_
                  refine AOps.guardF rfl rfl rfl hb1 ?_
                  refine AOps.guardF rfl rfl rfl hb1 ?_
                  refine AOps.guardF rfl rfl rfl hb1 ?_
                  refine AOps.guardF rfl rfl rfl hb1 ?_
                  refine AOps.guardF rfl rfl rfl hb1 ?_
                  refine AOps.guardF rfl rfl rfl hb1 ?_
                  refine AOps.pickT rfl hb1 rfl rfl ?_
                  refine AOps.nil ?_
                  refine thn_normal ?_
                  simp only [and_t hb1, or_t hb1, Bool.false_or, Bool.true_or, Bool.false_and, Bool.true_and]
                  exact Sub.env ⟨rfl, rfl, rfl, rfl, rfl, rfl, rfl, rfl, rfl, rfl, rfl, rfl, rfl, trivial⟩
                · refine AWP.region ?_
                  refine AOps.move rfl rfl ?_
                  refine S.len rfl rfl (fun hl127 => ?_)
                  refine AOps.move rfl rfl ?_
                  refine S.len rfl rfl (fun hl129 => ?_)
                  refine S.add rfl rfl rfl ?_
                  refine AOps.neq rfl rfl rfl ?_
                  refine AOps.move rfl rfl ?_
                  refine AOps.guardT rfl rfl rfl hb1 ?_; refine AOps.move rfl rfl ?_
                  refine AOps.guardT rfl rfl rfl hb1 ?_; refine S.len rfl rfl (fun hl134 => ?_)
                  refine AOps.guardT rfl rfl rfl hb1 ?_; refine AOps.move rfl rfl ?_
                  refine AOps.guardT rfl rfl rfl hb1 ?_; refine S.len rfl rfl (fun hl136 => ?_)
                  refine AOps.guardT rfl rfl rfl hb1 ?_; refine S.add rfl rfl rfl ?_
                  refine AOps.guardT rfl rfl rfl hb1 ?_; refine AOps.neq rfl rfl rfl ?_
                  refine AOps.pickF rfl hb1 rfl rfl ?_
                  refine AOps.nil ?_
                  refine thn_normal ?_
                  simp only [and_f hb1, or_f hb1, Bool.false_or, Bool.true_or, Bool.false_and, Bool.true_and]
                  exact Sub.env ⟨rfl, rfl, rfl, rfl, rfl, rfl, rfl, rfl, rfl, rfl, rfl, rfl, rfl, trivial⟩
              · refine AWP.iteB rfl h (fun hc19 h => ?_) (fun hc19 h => ?_)
                · refine AWP.seq ?_
                  refine AWP.region ?_
                  refine AOps.assign rfl rfl ?_
                  refine AOps.nil ?_
                  refine thn_normal ?_
                  refine AWP.ret ?_
                  refine thn_ret ?_
                  have ej := Option.some.inj h
                  subst ej
                  exact Done.ret rfl rfl
                · refine AWP.skip ?_
                  refine thn_normal ?_
                  refine AWP.seq ?_
                  refine AWP.region ?_
                  refine AOps.assign rfl rfl ?_
                  refine AOps.nil ?_
                  refine thn_normal ?_
                  refine AWP.seq ?_
                  refine AWP.seq ?_
                  refine AWP.region ?_
                  refine AOps.assign rfl rfl ?_
                  refine AOps.nil ?_
                  refine thn_normal ?_
                  refine AWP.block ?_
                  obtain ⟨oo, ho1, h⟩ := bind_some h
                  refine AWP.loopS ho1 (fun (last20, kv21) => ⟨[(1, .c (row 1 intI plan)), (2, .c (row 1 intI sv)), (3, .c (int iv)), (4, .c (.ptr 0 0 0)), (9, .c (row 1 eLi64 a30.1)), (10, .c (row 1 eBool a30.2.1)), (12, .c (int a38.1)), (13, .c (bool a38.2.1)), (15, .c (row 1 intI a47.1)), (16, .c (bool a47.2.1)), (19, .c (.ptr 5 0 0)), (20, .c (.ptr 6 0 0)), (21, .c (int last20)), (22, .c (int kv21))], [.one (.cells 4 [[int t.facts, row 1 intI t.init, row 1 intI t.goal, row 4 eTOperator t.operators]]), .dead, .dead, .dead, .dead, .one (.cells 2 [[int c6, int c7]]), .one (.cells 2 [[int c10, int c11]])]⟩) (fun o e st => match o with | .inl last22 => e = .exit 0 ∧ Sub [] st ⟨[(12, .c (int a38.1)), (13, .c (bool a38.2.1)), (19, .c (.ptr 5 0 0)), (21, .c (int last22))], [.dead, .dead, .dead, .dead, .dead, .one (.cells 2 [[int c6, int c7]])]⟩ | .inr x => e = .ret ∧ Done [.t 8] (fun t _ => t = .c (bool x)) .ret st) ?_ ?_ ?_
                  · try dsimp only
                    exact Sub.cut ⟨rfl, rfl, rfl, rfl, rfl, rfl, rfl, rfl, rfl, rfl, rfl, rfl, rfl, rfl, trivial⟩ rfl ⟨.one rfl, .dead, .dead, .dead, .dead, .one rfl, .one rfl, trivial⟩ rfl
                  · intro s o h
                    obtain ⟨last20, kv21⟩ := s
                    unfold law8_MonitorMatchesSpec_l1 at h
                    try dsimp only at h ⊢
                    refine AWP.seq ?_
                    refine AWP.seq ?_
                    refine AWP.region ?_
                    refine AOps.move rfl rfl ?_
                    refine AOps.move rfl rfl ?_
                    refine S.len rfl rfl (fun hl142 => ?_)
                    refine AOps.leq rfl rfl rfl ?_
                    refine AOps.nil ?_
                    refine thn_normal ?_
                    refine AWP.ite rfl h (fun hc23 h => ?_) (fun hc23 h => ?_)
                    · refine AWP.skip ?_
                      refine thn_normal ?_
                      refine AWP.seqF ((law8_MonitorMatchesSpec_j2 kv21)) o (fun last24 => ⟨[(1, .c (row 1 intI plan)), (2, .c (row 1 intI sv)), (3, .c (int iv)), (4, .c (.ptr 0 0 0)), (9, .c (row 1 eLi64 a30.1)), (10, .c (row 1 eBool a30.2.1)), (12, .c (int a38.1)), (13, .c (bool a38.2.1)), (15, .c (row 1 intI a47.1)), (16, .c (bool a47.2.1)), (19, .c (.ptr 5 0 0)), (20, .c (.ptr 6 0 0)), (21, .c (int last24)), (22, .c (int kv21))], [.one (.cells 4 [[int t.facts, row 1 intI t.init, row 1 intI t.goal, row 4 eTOperator t.operators]]), .dead, .dead, .dead, .dead, .one (.cells 2 [[int c6, int c7]]), .one (.cells 2 [[int c10, int c11]])]⟩) (fun last24 h => ?_) ?_
                      · unfold law8_MonitorMatchesSpec_j2 at h
                        try dsimp only at h ⊢
                        refine AWP.region ?_
                        refine AOps.move rfl rfl ?_
                        refine S.add rfl rfl rfl ?_
                        refine AOps.assign rfl rfl ?_
                        refine AOps.nil ?_
                        have ej := Option.some.inj h
                        subst ej
                        refine thn_normal ⟨_, rfl, ?_⟩
                        exact Sub.env ⟨rfl, rfl, rfl, rfl, rfl, rfl, rfl, rfl, rfl, rfl, rfl, rfl, rfl, rfl, trivial⟩
                      · refine AWP.block ?_
                        refine AWP.seq ?_
                        obtain ⟨a150, ha150, h⟩ := bind_some h
                        obtain ⟨a151, ha151, h⟩ := bind_some h
                        refine AWP.drawI mixed rfl ?_
                        apply DrawSeq.consF; exact rfl; intro E
                        refine W.loadAgg rfl rfl rfl rfl rfl rfl rfl ?_
                        exact AOps.nil ⟨rfl, rfl⟩
                        exact rfl
                        apply DrawSeq.consF; exact rfl; intro E
                        refine AOps.move rfl rfl ?_
                        exact AOps.nil ⟨rfl, rfl⟩
                        exact rfl
                        apply DrawSeq.consF; exact rfl; intro E
                        refine AOps.move rfl rfl ?_
                        exact AOps.nil ⟨rfl, rfl⟩
                        exact rfl
                        apply DrawSeq.consF; exact rfl; intro E
                        refine S.subFrom ha150 rfl rfl rfl ?_
                        exact AOps.nil ⟨rfl, rfl⟩
                        exact rfl
                        apply DrawSeq.consF; exact rfl; intro E
                        refine AOps.callR rfl rfl rfl rfl (ref8_Condition_ok ha151) rfl ?_
                        exact AOps.nil ⟨rfl, rfl⟩
                        exact rfl
                        apply DrawSeq.consF; exact rfl; intro E
                        refine AOps.move rfl rfl ?_
                        exact AOps.nil ⟨rfl, rfl⟩
                        exact rfl
                        apply DrawSeq.consF; exact rfl; intro E
                        refine AOps.extract rfl rfl rfl ?_
                        exact AOps.nil ⟨rfl, rfl⟩
                        exact rfl
                        apply DrawSeq.consF; exact rfl; intro E
                        refine AOps.extract rfl rfl rfl ?_
                        exact AOps.nil ⟨rfl, rfl⟩
                        exact rfl
                        apply DrawSeq.consF; exact rfl; intro E
                        refine AOps.assign rfl rfl ?_
                        exact AOps.nil ⟨rfl, rfl⟩
                        exact rfl
                        apply DrawSeq.consF; exact rfl; intro E
                        refine AOps.assign rfl rfl ?_
                        exact AOps.nil ⟨rfl, rfl⟩
                        exact rfl
                        refine DrawSeq.done ?_
                        dsimp only [envEnd]
                        refine thn_normal ?_
                        refine AWP.seq ?_
                        obtain ⟨t25, hx26, h⟩ := bind_some h
                        refine AWP.seqJ (⟨[(1, .c (row 1 intI plan)), (2, .c (row 1 intI sv)), (3, .c (int iv)), (4, .c (.ptr 0 0 0)), (9, .c (row 1 eLi64 a30.1)), (10, .c (row 1 eBool a30.2.1)), (12, .c (int a38.1)), (13, .c (bool a38.2.1)), (15, .c (row 1 intI a47.1)), (16, .c (bool a47.2.1)), (19, .c (.ptr 5 0 0)), (20, .c (.ptr 6 0 0)), (21, .c (int last20)), (22, .c (int kv21)), (23, .c (row 1 intI a151.1)), (24, .c (bool a151.2)), (168, .c (bool t25))], [.one (.cells 4 [[int t.facts, row 1 intI t.init, row 1 intI t.goal, row 4 eTOperator t.operators]]), .dead, .dead, .dead, .dead, .one (.cells 2 [[int c6, int c7]]), .one (.cells 2 [[int c10, int c11]])]⟩) ?_ ?_
                        · obtain ⟨a156, ha156, hx26⟩ := bind_some hx26
                          rcases Bool.eq_false_or_eq_true (!(decide (a156 = a151.2))) with hb27 | hb27
                          · replace hx26 := iteBT hb27 hx26
                            refine AWP.region ?_
                            refine AOps.move rfl rfl ?_
                            refine AOps.move rfl rfl ?_
                            refine S.idx ha156 rfl rfl rfl rfl ?_
                            refine AOps.loadI rfl rfl rfl rfl ?_
                            refine AOps.move rfl rfl ?_
                            refine AOps.neqB rfl rfl rfl ?_
                            refine AOps.move rfl rfl ?_
                            refine AOps.guardF rfl rfl rfl hb27 ?_
                            refine AOps.guardF rfl rfl rfl hb27 ?_
                            refine AOps.guardF rfl rfl rfl hb27 ?_
                            refine AOps.guardF rfl rfl rfl hb27 ?_
                            refine AOps.guardF rfl rfl rfl hb27 ?_
                            refine AOps.guardF rfl rfl rfl hb27 ?_
                            refine AOps.guardF rfl rfl rfl hb27 ?_
                            refine AOps.pickT rfl hb27 rfl rfl ?_
                            refine AOps.nil ?_
                            have ej := Option.some.inj hx26
                            subst ej
                            refine thn_normal ?_
                            exact Sub.env ⟨rfl, rfl, rfl, rfl, rfl, rfl, rfl, rfl, rfl, rfl, rfl, rfl, rfl, rfl, rfl, rfl, rfl, trivial⟩
                          · replace hx26 := iteBF hb27 hx26
                            obtain ⟨a163, ha163, hx26⟩ := bind_some hx26
                            obtain ⟨a166, ha166, hx26⟩ := bind_some hx26
                            refine AWP.region ?_
                            refine AOps.move rfl rfl ?_
                            refine AOps.move rfl rfl ?_
                            refine S.idx ha156 rfl rfl rfl rfl ?_
                            refine AOps.loadI rfl rfl rfl rfl ?_
                            refine AOps.move rfl rfl ?_
                            refine AOps.neqB rfl rfl rfl ?_
                            refine AOps.move rfl rfl ?_
                            refine AOps.guardT rfl rfl rfl hb27 ?_; refine AOps.move rfl rfl ?_
                            refine AOps.guardT rfl rfl rfl hb27 ?_; refine AOps.move rfl rfl ?_
                            refine AOps.guardT rfl rfl rfl hb27 ?_; refine S.idx ha163 rfl rfl rfl rfl ?_
                            refine AOps.guardT rfl rfl rfl hb27 ?_; refine AOps.loadI rfl rfl rfl rfl ?_
                            refine AOps.guardT rfl rfl rfl hb27 ?_; refine AOps.move rfl rfl ?_
                            refine AOps.guardT rfl rfl rfl hb27 ?_; refine AOps.callR rfl rfl rfl rfl (equal_Numbers_ok ha166) rfl ?_
                            refine AOps.guardT rfl rfl rfl hb27 ?_; refine AOps.not rfl rfl ?_
                            refine AOps.pickF rfl hb27 rfl rfl ?_
                            refine AOps.nil ?_
                            have ej := Option.some.inj hx26
                            subst ej
                            refine thn_normal ?_
                            exact Sub.env ⟨rfl, rfl, rfl, rfl, rfl, rfl, rfl, rfl, rfl, rfl, rfl, rfl, rfl, rfl, rfl, rfl, rfl, trivial⟩
                        · refine AWP.iteB rfl h (fun hc28 h => ?_) (fun hc28 h => ?_)
                          · refine AWP.seq ?_
                            refine AWP.region ?_
                            refine AOps.assign rfl rfl ?_
                            refine AOps.nil ?_
                            refine thn_normal ?_
                            refine AWP.ret ?_
                            refine thn_ret ?_
                            refine inB_ret ?_
                            refine thn_ret ?_
                            have ej := Option.some.inj h
                            subst ej
                            refine thn_ret ⟨_, rfl, rfl, ?_⟩
                            exact Done.ret rfl rfl
                          · refine AWP.skip ?_
                            refine thn_normal ?_
                            obtain ⟨last29, hx30, h⟩ := bind_some h
                            refine AWP.seqJ (⟨[(1, .c (row 1 intI plan)), (2, .c (row 1 intI sv)), (3, .c (int iv)), (4, .c (.ptr 0 0 0)), (9, .c (row 1 eLi64 a30.1)), (10, .c (row 1 eBool a30.2.1)), (12, .c (int a38.1)), (13, .c (bool a38.2.1)), (15, .c (row 1 intI a47.1)), (16, .c (bool a47.2.1)), (19, .c (.ptr 5 0 0)), (20, .c (.ptr 6 0 0)), (21, .c (int last29)), (22, .c (int kv21)), (23, .c (row 1 intI a151.1)), (24, .c (bool a151.2))], [.one (.cells 4 [[int t.facts, row 1 intI t.init, row 1 intI t.goal, row 4 eTOperator t.operators]]), .dead, .dead, .dead, .dead, .one (.cells 2 [[int c6, int c7]]), .one (.cells 2 [[int c10, int c11]])]⟩) ?_ ?_
                            · obtain ⟨t31, hx32, hx30⟩ := bind_some hx30
                              refine AWP.seqJ (⟨[(1, .c (row 1 intI plan)), (2, .c (row 1 intI sv)), (3, .c (int iv)), (4, .c (.ptr 0 0 0)), (9, .c (row 1 eLi64 a30.1)), (10, .c (row 1 eBool a30.2.1)), (12, .c (int a38.1)), (13, .c (bool a38.2.1)), (15, .c (row 1 intI a47.1)), (16, .c (bool a47.2.1)), (19, .c (.ptr 5 0 0)), (20, .c (.ptr 6 0 0)), (21, .c (int last20)), (22, .c (int kv21)), (23, .c (row 1 intI a151.1)), (24, .c (bool a151.2)), (179, .c (bool t31))], [.one (.cells 4 [[int t.facts, row 1 intI t.init, row 1 intI t.goal, row 4 eTOperator t.operators]]), .dead, .dead, .dead, .dead, .one (.cells 2 [[int c6, int c7]]), .one (.cells 2 [[int c10, int c11]])]⟩) ?_ ?_
                              · rcases Bool.eq_false_or_eq_true (decide (c6 = 0)) with hb33 | hb33
                                · replace hx32 := iteDT hb33 hx32
                                  obtain ⟨a177, ha177, hx32⟩ := bind_some hx32
                                  obtain ⟨a178, ha178, hx32⟩ := bind_some hx32
                                  refine AWP.drawI mixed rfl ?_
                                  apply DrawSeq.consF; exact rfl; intro E
                                  refine W.fieldAddr rfl rfl rfl rfl ?_
                                  exact AOps.nil ⟨rfl, rfl⟩
                                  exact rfl
                                  apply DrawSeq.consF; exact rfl; intro E
                                  refine AOps.load rfl rfl rfl rfl rfl rfl ?_
                                  exact AOps.nil ⟨rfl, rfl⟩
                                  exact rfl
                                  apply DrawSeq.consF; exact rfl; intro E
                                  refine AOps.eql rfl rfl rfl ?_
                                  exact AOps.nil ⟨rfl, rfl⟩
                                  exact rfl
                                  apply DrawSeq.consF; exact rfl; intro E
                                  refine AOps.move rfl rfl ?_
                                  exact AOps.nil ⟨rfl, rfl⟩
                                  exact rfl
                                  apply DrawSeq.consF; exact rfl; intro E
                                  refine AOps.guardT rfl rfl rfl hb33 ?_; refine W.loadAgg rfl rfl rfl rfl rfl rfl rfl ?_
                                  exact AOps.nil ⟨rfl, rfl⟩
                                  exact rfl
                                  apply DrawSeq.consF; exact rfl; intro E
                                  refine AOps.guardT rfl rfl rfl hb33 ?_; refine AOps.move rfl rfl ?_
                                  exact AOps.nil ⟨rfl, rfl⟩
                                  exact rfl
                                  apply DrawSeq.consF; exact rfl; intro E
                                  refine AOps.guardT rfl rfl rfl hb33 ?_; refine AOps.move rfl rfl ?_
                                  exact AOps.nil ⟨rfl, rfl⟩
                                  exact rfl
                                  apply DrawSeq.consF; exact rfl; intro E
                                  refine AOps.guardT rfl rfl rfl hb33 ?_; refine AOps.move rfl rfl ?_
                                  exact AOps.nil ⟨rfl, rfl⟩
                                  exact rfl
                                  apply DrawSeq.consF; exact rfl; intro E
                                  refine AOps.guardT rfl rfl rfl hb33 ?_; refine S.subFrom ha177 rfl rfl rfl ?_
                                  exact AOps.nil ⟨rfl, rfl⟩
                                  exact rfl
                                  apply DrawSeq.consF; exact rfl; intro E
                                  refine AOps.guardT rfl rfl rfl hb33 ?_; refine AOps.callR rfl rfl rfl rfl (ref1_Works_ok ha178) rfl ?_
                                  exact AOps.nil ⟨rfl, rfl⟩
                                  exact rfl
                                  apply DrawSeq.consF; exact rfl; intro E
                                  refine AOps.pickT rfl hb33 rfl rfl ?_
                                  exact AOps.nil ⟨rfl, rfl⟩
                                  exact rfl
                                  refine DrawSeq.done ?_
                                  dsimp only [envEnd]
                                  have ej := Option.some.inj hx32
                                  subst ej
                                  refine thn_normal ?_
                                  exact Sub.env ⟨rfl, rfl, rfl, rfl, rfl, rfl, rfl, rfl, rfl, rfl, rfl, rfl, rfl, rfl, rfl, rfl, rfl, trivial⟩
                                · replace hx32 := iteDF hb33 hx32
                                  refine AWP.drawI mixed rfl ?_
                                  apply DrawSeq.consF; exact rfl; intro E
                                  refine W.fieldAddr rfl rfl rfl rfl ?_
                                  exact AOps.nil ⟨rfl, rfl⟩
                                  exact rfl
                                  apply DrawSeq.consF; exact rfl; intro E
                                  refine AOps.load rfl rfl rfl rfl rfl rfl ?_
                                  exact AOps.nil ⟨rfl, rfl⟩
                                  exact rfl
                                  apply DrawSeq.consF; exact rfl; intro E
                                  refine AOps.eql rfl rfl rfl ?_
                                  exact AOps.nil ⟨rfl, rfl⟩
                                  exact rfl
                                  apply DrawSeq.consF; exact rfl; intro E
                                  refine AOps.move rfl rfl ?_
                                  exact AOps.nil ⟨rfl, rfl⟩
                                  exact rfl
                                  apply DrawSeq.consF; exact rfl; intro E
                                  refine AOps.guardF rfl rfl rfl hb33 ?_
                                  exact AOps.nil ⟨rfl, rfl⟩
                                  exact rfl
                                  apply DrawSeq.consF; exact rfl; intro E
                                  refine AOps.guardF rfl rfl rfl hb33 ?_
                                  exact AOps.nil ⟨rfl, rfl⟩
                                  exact rfl
                                  apply DrawSeq.consF; exact rfl; intro E
                                  refine AOps.guardF rfl rfl rfl hb33 ?_
                                  exact AOps.nil ⟨rfl, rfl⟩
                                  exact rfl
                                  apply DrawSeq.consF; exact rfl; intro E
                                  refine AOps.guardF rfl rfl rfl hb33 ?_
                                  exact AOps.nil ⟨rfl, rfl⟩
                                  exact rfl
                                  apply DrawSeq.consF; exact rfl; intro E
                                  refine AOps.guardF rfl rfl rfl hb33 ?_
                                  exact AOps.nil ⟨rfl, rfl⟩
                                  exact rfl
                                  apply DrawSeq.consF; exact rfl; intro E
                                  refine AOps.guardF rfl rfl rfl hb33 ?_
                                  exact AOps.nil ⟨rfl, rfl⟩
                                  exact rfl
                                  apply DrawSeq.consF; exact rfl; intro E
                                  refine AOps.pickF rfl hb33 rfl rfl ?_
                                  exact AOps.nil ⟨rfl, rfl⟩
                                  exact rfl
                                  refine DrawSeq.done ?_
                                  dsimp only [envEnd]
                                  have ej := Option.some.inj hx32
                                  subst ej
                                  refine thn_normal ?_
                                  exact Sub.env ⟨rfl, rfl, rfl, rfl, rfl, rfl, rfl, rfl, rfl, rfl, rfl, rfl, rfl, rfl, rfl, rfl, rfl, trivial⟩
                              · refine AWP.iteB rfl hx30 (fun hc34 hx30 => ?_) (fun hc34 hx30 => ?_)
                                · refine AWP.region ?_
                                  refine AOps.move rfl rfl ?_
                                  refine AOps.assign rfl rfl ?_
                                  refine AOps.nil ?_
                                  have ej := Option.some.inj hx30
                                  subst ej
                                  refine thn_normal ?_
                                  exact Sub.env ⟨rfl, rfl, rfl, rfl, rfl, rfl, rfl, rfl, rfl, rfl, rfl, rfl, rfl, rfl, rfl, rfl, trivial⟩
                                · refine AWP.skip ?_
                                  have ej := Option.some.inj hx30
                                  subst ej
                                  refine thn_normal ?_
                                  exact Sub.env ⟨rfl, rfl, rfl, rfl, rfl, rfl, rfl, rfl, rfl, rfl, rfl, rfl, rfl, rfl, rfl, rfl, trivial⟩
                            · refine AWP.seqJ (⟨[(1, .c (row 1 intI plan)), (2, .c (row 1 intI sv)), (3, .c (int iv)), (4, .c (.ptr 0 0 0)), (9, .c (row 1 eLi64 a30.1)), (10, .c (row 1 eBool a30.2.1)), (12, .c (int a38.1)), (13, .c (bool a38.2.1)), (15, .c (row 1 intI a47.1)), (16, .c (bool a47.2.1)), (19, .c (.ptr 5 0 0)), (20, .c (.ptr 6 0 0)), (21, .c (int last29)), (22, .c (int kv21)), (23, .c (row 1 intI a151.1)), (24, .c (bool a151.2)), (188, .c (bool ((decide (c10 = 0)) && (decide (kv21 = iv)))))], [.one (.cells 4 [[int t.facts, row 1 intI t.init, row 1 intI t.goal, row 4 eTOperator t.operators]]), .dead, .dead, .dead, .dead, .one (.cells 2 [[int c6, int c7]]), .one (.cells 2 [[int c10, int c11]])]⟩) ?_ ?_
                              · rcases Bool.eq_false_or_eq_true (decide (c10 = 0)) with hb1 | hb1
                                · refine AWP.region ?_
                                  refine W.fieldAddr rfl rfl rfl rfl ?_
                                  refine AOps.load rfl rfl rfl rfl rfl rfl ?_
                                  refine AOps.eql rfl rfl rfl ?_
                                  refine AOps.move rfl rfl ?_
                                  refine AOps.guardT rfl rfl rfl hb1 ?_; refine AOps.move rfl rfl ?_
                                  refine AOps.guardT rfl rfl rfl hb1 ?_; refine AOps.move rfl rfl ?_
                                  refine AOps.guardT rfl rfl rfl hb1 ?_; refine AOps.eql rfl rfl rfl ?_
                                  refine AOps.pickT rfl hb1 rfl rfl ?_
                                  refine AOps.nil ?_
                                  refine thn_normal ?_
                                  simp only [and_t hb1, or_t hb1, Bool.false_or, Bool.true_or, Bool.false_and, Bool.true_and]
                                  exact Sub.env ⟨rfl, rfl, rfl, rfl, rfl, rfl, rfl, rfl, rfl, rfl, rfl, rfl, rfl, rfl, rfl, rfl, rfl, trivial⟩
                                · refine AWP.region ?_
                                  refine W.fieldAddr rfl rfl rfl rfl ?_
                                  refine AOps.load rfl rfl rfl rfl rfl rfl ?_
                                  refine AOps.eql rfl rfl rfl ?_
                                  refine AOps.move rfl rfl ?_
                                  refine AOps.guardF rfl rfl rfl hb1 ?_
                                  refine AOps.guardF rfl rfl rfl hb1 ?_
                                  refine AOps.guardF rfl rfl rfl hb1 ?_
                                  refine AOps.pickF rfl hb1 rfl rfl ?_
                                  refine AOps.nil ?_
                                  refine thn_normal ?_
                                  simp only [and_f hb1, or_f hb1, Bool.false_or, Bool.true_or, Bool.false_and, Bool.true_and]
                                  exact Sub.env ⟨rfl, rfl, rfl, rfl, rfl, rfl, rfl, rfl, rfl, rfl, rfl, rfl, rfl, rfl, rfl, rfl, rfl, trivial⟩
                              · refine AWP.iteB rfl h (fun hc35 h => ?_) (fun hc35 h => ?_)
                                · refine AWP.seq ?_
                                  refine AWP.region ?_
                                  refine AOps.assign rfl rfl ?_
                                  refine AOps.nil ?_
                                  refine thn_normal ?_
                                  refine AWP.seq ?_
                                  refine AWP.seq ?_
                                  refine AWP.region ?_
                                  refine AOps.assign rfl rfl ?_
                                  refine AOps.nil ?_
                                  refine thn_normal ?_
                                  refine AWP.block ?_
                                  refine AWP.virtV 1 intI 25 rfl rfl rfl ?_
                                  obtain ⟨c36, ho3, h⟩ := bind_some h
                                  refine AWP.forS ho3 (fun j37 c36 => ⟨[(1, .c (row 1 intI plan)), (2, .c (row 1 intI sv)), (3, .c (int iv)), (4, .c (.ptr 0 0 0)), (9, .c (row 1 eLi64 a30.1)), (10, .c (row 1 eBool a30.2.1)), (12, .c (int a38.1)), (13, .c (bool a38.2.1)), (15, .c (row 1 intI a47.1)), (16, .c (bool a47.2.1)), (19, .c (.ptr 5 0 0)), (20, .c (.ptr 6 0 0)), (21, .c (int last29)), (22, .c (int kv21)), (23, .c (row 1 intI a151.1)), (24, .c (bool a151.2)), (25, .c (.own 7 0 c36.length)), (26, .c (int j37))], [.one (.cells 4 [[int t.facts, row 1 intI t.init, row 1 intI t.goal, row 4 eTOperator t.operators]]), .dead, .dead, .dead, .dead, .one (.cells 2 [[int c6, int c7]]), .one (.cells 2 [[int c10, int c11]]), .one (vec 1 intI c36)]⟩) (fun c36 e st => e = .exit 2 ∧ Sub [] st ⟨[(1, .c (row 1 intI plan)), (2, .c (row 1 intI sv)), (3, .c (int iv)), (4, .c (.ptr 0 0 0)), (9, .c (row 1 eLi64 a30.1)), (10, .c (row 1 eBool a30.2.1)), (12, .c (int a38.1)), (13, .c (bool a38.2.1)), (15, .c (row 1 intI a47.1)), (16, .c (bool a47.2.1)), (19, .c (.ptr 5 0 0)), (20, .c (.ptr 6 0 0)), (21, .c (int last29)), (22, .c (int kv21)), (24, .c (bool a151.2)), (25, .c (.own 7 0 c36.length))], [.one (.cells 4 [[int t.facts, row 1 intI t.init, row 1 intI t.goal, row 4 eTOperator t.operators]]), .dead, .dead, .dead, .dead, .one (.cells 2 [[int c6, int c7]]), .one (.cells 2 [[int c10, int c11]]), .one (vec 1 intI c36)]⟩) ?_ ?_ ?_ ?_
                                  · try dsimp only
                                    exact Sub.env ⟨rfl, rfl, rfl, rfl, rfl, rfl, rfl, rfl, rfl, rfl, rfl, rfl, rfl, rfl, rfl, rfl, (own_len (by first | rfl | simp only [List.length_set])), rfl, trivial⟩
                                  · intro j37 c36 hloj37 hltj37 _
                                    try dsimp only
                                    refine AWP.seq ?_
                                    refine AWP.seq ?_
                                    refine AWP.region ?_
                                    refine AOps.move rfl rfl ?_
                                    refine AOps.move rfl rfl ?_
                                    refine S.len rfl rfl (fun hl191 => ?_)
                                    refine AOps.lss rfl rfl rfl ?_
                                    refine AOps.nil ?_
                                    refine thn_normal ?_
                                    refine AWP.condNP rfl hltj37 ?_
                                    refine AWP.exit ?_
                                    refine thn_exit ?_
                                    refine thn_exit ⟨rfl, ?_⟩
                                    exact Sub.env ⟨rfl, rfl, rfl, rfl, rfl, rfl, rfl, rfl, rfl, rfl, rfl, rfl, rfl, rfl, rfl, rfl, trivial⟩
                                  · intro j37 c36 o hloj37 hltj37 h
                                    unfold law8_MonitorMatchesSpec_l3 at h
                                    try dsimp only at h ⊢
                                    refine AWP.seq ?_
                                    refine AWP.seq ?_
                                    refine AWP.region ?_
                                    refine AOps.move rfl rfl ?_
                                    refine AOps.move rfl rfl ?_
                                    refine S.len rfl rfl (fun hl191 => ?_)
                                    refine AOps.lss rfl rfl rfl ?_
                                    refine AOps.nil ?_
                                    refine thn_normal ?_
                                    refine AWP.condP rfl hltj37 ?_
                                    refine AWP.skip ?_
                                    refine thn_normal ?_
                                    obtain ⟨c38, hx39, h⟩ := bind_some h
                                    refine AWP.seqJ (⟨[(1, .c (row 1 intI plan)), (2, .c (row 1 intI sv)), (3, .c (int iv)), (4, .c (.ptr 0 0 0)), (9, .c (row 1 eLi64 a30.1)), (10, .c (row 1 eBool a30.2.1)), (12, .c (int a38.1)), (13, .c (bool a38.2.1)), (15, .c (row 1 intI a47.1)), (16, .c (bool a47.2.1)), (19, .c (.ptr 5 0 0)), (20, .c (.ptr 6 0 0)), (21, .c (int last29)), (22, .c (int kv21)), (23, .c (row 1 intI a151.1)), (24, .c (bool a151.2)), (25, .c (.own 9 0 c38.length)), (26, .c (int j37))], [.one (.cells 4 [[int t.facts, row 1 intI t.init, row 1 intI t.goal, row 4 eTOperator t.operators]]), .dead, .dead, .dead, .dead, .one (.cells 2 [[int c6, int c7]]), .one (.cells 2 [[int c10, int c11]]), .dead, .dead, .one (vec 1 intI c38)]⟩) ?_ ?_
                                    · refine AWP.block ?_
                                      refine AWP.seq ?_
                                      obtain ⟨a198, ha198, hx39⟩ := bind_some hx39
                                      obtain ⟨a200, ha200, hx39⟩ := bind_some hx39
                                      refine AWP.region ?_
                                      refine AOps.move rfl rfl ?_
                                      refine AOps.move rfl rfl ?_
                                      refine AOps.move rfl rfl ?_
                                      refine S.idx ha198 rfl rfl rfl rfl ?_
                                      refine AOps.loadI rfl rfl rfl rfl ?_
                                      refine AOps.callR rfl rfl rfl rfl (ref1_Has_ok ha200) rfl ?_
                                      refine AOps.not rfl rfl ?_
                                      refine AOps.nil ?_
                                      refine thn_normal ?_
                                      refine AWP.iteB rfl hx39 (fun hc40 hx39 => ?_) (fun hc40 hx39 => ?_)
                                      · obtain ⟨a205, ha205, hx39⟩ := bind_some hx39
                                        obtain ⟨a208, ha208, hx39⟩ := bind_some hx39
                                        refine AWP.region ?_
                                        refine AOps.move rfl rfl ?_
                                        refine AOps.move rfl rfl ?_
                                        refine AOps.move rfl rfl ?_
                                        refine S.idx ha205 rfl rfl rfl rfl ?_
                                        refine AOps.loadI rfl rfl rfl rfl ?_
                                        refine S.lit (f := intI) (l := [a205]) (ess := [[int a205]]) rfl rfl rfl rfl rfl rfl rfl ⟨⟨.inl rfl, trivial⟩, trivial⟩ rfl rfl rfl ?_
                                        refine S.append (f := intI) ha208 rfl rfl rfl rfl rfl rfl (.own rfl rfl) rfl rfl rfl rfl ?_
                                        refine AOps.assign rfl rfl ?_
                                        refine AOps.nil ?_
                                        refine inB_normal ?_
                                        have ej := Option.some.inj hx39
                                        subst ej
                                        refine thn_normal ?_
                                        exact Sub.cut ⟨rfl, rfl, rfl, rfl, rfl, rfl, rfl, rfl, rfl, rfl, rfl, rfl, rfl, rfl, rfl, rfl, rfl, rfl, trivial⟩ rfl ⟨.one rfl, .dead, .dead, .dead, .dead, .one rfl, .one rfl, .dead, .dead, .vec, trivial⟩ rfl
                                      · refine AWP.skip ?_
                                        refine inB_normal ?_
                                        have ej := Option.some.inj hx39
                                        subst ej
                                        refine thn_normal ?_
                                        exact (Sub.move (env' := [(1, .c (row 1 intI plan)), (2, .c (row 1 intI sv)), (3, .c (int iv)), (4, .c (.ptr 0 0 0)), (9, .c (row 1 eLi64 a30.1)), (10, .c (row 1 eBool a30.2.1)), (12, .c (int a38.1)), (13, .c (bool a38.2.1)), (15, .c (row 1 intI a47.1)), (16, .c (bool a47.2.1)), (19, .c (.ptr 5 0 0)), (20, .c (.ptr 6 0 0)), (21, .c (int last29)), (22, .c (int kv21)), (23, .c (row 1 intI a151.1)), (24, .c (bool a151.2)), (25, .c (.own 9 0 c36.length)), (26, .c (int j37))]) (σ' := [.one (.cells 4 [[int t.facts, row 1 intI t.init, row 1 intI t.goal, row 4 eTOperator t.operators]]), .dead, .dead, .dead, .dead, .one (.cells 2 [[int c6, int c7]]), .one (.cells 2 [[int c10, int c11]]), .dead, .dead, .one (vec 1 intI c36)]) 9 7 rfl rfl rfl ⟨rfl, rfl, rfl, rfl, rfl, rfl, rfl, rfl, rfl, rfl, rfl, rfl, rfl, rfl, rfl, rfl, rfl, rfl, trivial⟩ rfl ⟨⟨rfl, rfl⟩, trivial, trivial, trivial, trivial, ⟨rfl, rfl⟩, ⟨rfl, rfl⟩, trivial, trivial, ⟨Blk.im_ok _ _ _, vec_mv rfl⟩, trivial⟩).trans (Sub.env ⟨rfl, rfl, rfl, rfl, rfl, rfl, rfl, rfl, rfl, rfl, rfl, rfl, rfl, rfl, rfl, rfl, rfl, rfl, trivial⟩)
                                    · refine AWP.region ?_
                                      refine AOps.move rfl rfl ?_
                                      refine AOps.add rfl rfl rfl (by omega) ?_
                                      refine AOps.assign rfl rfl ?_
                                      refine AOps.nil ?_
                                      have ej := Option.some.inj h
                                      subst ej
                                      refine thn_normal ?_
                                      exact (Sub.move (env' := [(1, .c (row 1 intI plan)), (2, .c (row 1 intI sv)), (3, .c (int iv)), (4, .c (.ptr 0 0 0)), (9, .c (row 1 eLi64 a30.1)), (10, .c (row 1 eBool a30.2.1)), (12, .c (int a38.1)), (13, .c (bool a38.2.1)), (15, .c (row 1 intI a47.1)), (16, .c (bool a47.2.1)), (19, .c (.ptr 5 0 0)), (20, .c (.ptr 6 0 0)), (21, .c (int last29)), (22, .c (int kv21)), (23, .c (row 1 intI a151.1)), (24, .c (bool a151.2)), (25, .c (.own 7 0 c38.length)), (26, .c (int (j37 + 1)))]) (σ' := [.one (.cells 4 [[int t.facts, row 1 intI t.init, row 1 intI t.goal, row 4 eTOperator t.operators]]), .dead, .dead, .dead, .dead, .one (.cells 2 [[int c6, int c7]]), .one (.cells 2 [[int c10, int c11]]), .one (vec 1 intI c38), .dead]) 7 9 rfl rfl rfl ⟨rfl, rfl, rfl, rfl, rfl, rfl, rfl, rfl, rfl, rfl, rfl, rfl, rfl, rfl, rfl, rfl, rfl, rfl, trivial⟩ rfl ⟨⟨rfl, rfl⟩, trivial, trivial, trivial, trivial, ⟨rfl, rfl⟩, ⟨rfl, rfl⟩, ⟨Blk.im_ok _ _ _, vec_mv rfl⟩, trivial, trivial⟩).trans (Sub.cut ⟨rfl, rfl, rfl, rfl, rfl, rfl, rfl, rfl, rfl, rfl, rfl, rfl, rfl, rfl, rfl, rfl, rfl, rfl, trivial⟩ rfl ⟨.one rfl, .dead, .dead, .dead, .dead, .one rfl, .one rfl, .vec, trivial⟩ rfl)
                                  · intro e s hq
                                    obtain ⟨rfl, hs⟩ := hq
                                    refine ⟨_, hs, ?_⟩
                                    refine inB_exit ?_
                                    refine thn_normal ?_
                                    obtain ⟨t41, hx42, h⟩ := bind_some h
                                    refine AWP.seqJ (⟨[(1, .c (row 1 intI plan)), (2, .c (row 1 intI sv)), (3, .c (int iv)), (4, .c (.ptr 0 0 0)), (9, .c (row 1 eLi64 a30.1)), (10, .c (row 1 eBool a30.2.1)), (12, .c (int a38.1)), (13, .c (bool a38.2.1)), (15, .c (row 1 intI a47.1)), (16, .c (bool a47.2.1)), (19, .c (.ptr 5 0 0)), (20, .c (.ptr 6 0 0)), (21, .c (int last29)), (22, .c (int kv21)), (217, .c (bool t41))], [.one (.cells 4 [[int t.facts, row 1 intI t.init, row 1 intI t.goal, row 4 eTOperator t.operators]]), .dead, .dead, .dead, .dead, .one (.cells 2 [[int c6, int c7]]), .one (.cells 2 [[int c10, int c11]])]⟩) ?_ ?_
                                    · rcases Bool.eq_false_or_eq_true (!(decide (a47.2.1 = a151.2))) with hb43 | hb43
                                      · replace hx42 := iteBT hb43 hx42
                                        refine AWP.region ?_
                                        refine AOps.move rfl rfl ?_
                                        refine AOps.move rfl rfl ?_
                                        refine AOps.neqB rfl rfl rfl ?_
                                        refine AOps.move rfl rfl ?_
                                        refine AOps.guardF rfl rfl rfl hb43 ?_
                                        refine AOps.guardF rfl rfl rfl hb43 ?_
                                        refine AOps.guardF rfl rfl rfl hb43 ?_
                                        refine AOps.guardF rfl rfl rfl hb43 ?_
                                        refine AOps.pickT rfl hb43 rfl rfl ?_
                                        refine AOps.nil ?_
                                        have ej := Option.some.inj hx42
                                        subst ej
                                        refine thn_normal ?_
                                        exact Sub.cut ⟨rfl, rfl, rfl, rfl, rfl, rfl, rfl, rfl, rfl, rfl, rfl, rfl, rfl, rfl, rfl, trivial⟩ rfl ⟨.one rfl, .dead, .dead, .dead, .dead, .one rfl, .one rfl, trivial⟩ rfl
                                      · replace hx42 := iteBF hb43 hx42
                                        obtain ⟨a215, ha215, hx42⟩ := bind_some hx42
                                        refine AWP.region ?_
                                        refine AOps.move rfl rfl ?_
                                        refine AOps.move rfl rfl ?_
                                        refine AOps.neqB rfl rfl rfl ?_
                                        refine AOps.move rfl rfl ?_
                                        refine AOps.guardT rfl rfl rfl hb43 ?_; refine AOps.move rfl rfl ?_
                                        refine AOps.guardT rfl rfl rfl hb43 ?_; refine AOps.move rfl rfl ?_
                                        refine AOps.guardT rfl rfl rfl hb43 ?_; refine AOps.callL rfl rfl (.cons (.c .imm) (.cons (.c (.own rfl rfl)) .nil)) rfl (equal_Numbers_ok ha215) rfl ?_
                                        refine AOps.guardT rfl rfl rfl hb43 ?_; refine AOps.not rfl rfl ?_
                                        refine AOps.pickF rfl hb43 rfl rfl ?_
                                        refine AOps.nil ?_
                                        have ej := Option.some.inj hx42
                                        subst ej
                                        refine thn_normal ?_
                                        exact Sub.cut ⟨rfl, rfl, rfl, rfl, rfl, rfl, rfl, rfl, rfl, rfl, rfl, rfl, rfl, rfl, rfl, trivial⟩ rfl ⟨.one rfl, .dead, .dead, .dead, .dead, .one rfl, .one rfl, trivial⟩ rfl
                                    · refine AWP.iteB rfl h (fun hc44 h => ?_) (fun hc44 h => ?_)
                                      · refine AWP.seq ?_
                                        refine AWP.region ?_
                                        refine AOps.assign rfl rfl ?_
                                        refine AOps.nil ?_
                                        refine thn_normal ?_
                                        refine AWP.ret ?_
                                        refine inB_ret ?_
                                        refine thn_ret ?_
                                        have ej := Option.some.inj h
                                        subst ej
                                        refine thn_ret ⟨_, rfl, rfl, ?_⟩
                                        exact Done.ret rfl rfl
                                      · refine AWP.skip ?_
                                        refine inB_normal ?_
                                        refine thn_normal ⟨_, h, ?_⟩
                                        exact Sub.env ⟨rfl, rfl, rfl, rfl, rfl, rfl, rfl, rfl, rfl, rfl, rfl, rfl, rfl, rfl, trivial⟩
                                · refine AWP.skip ?_
                                  refine inB_normal ?_
                                  refine thn_normal ⟨_, h, ?_⟩
                                  exact Sub.env ⟨rfl, rfl, rfl, rfl, rfl, rfl, rfl, rfl, rfl, rfl, rfl, rfl, rfl, rfl, trivial⟩
                    · refine AWP.exit ?_
                      refine thn_exit ?_
                      have ej := Option.some.inj h
                      subst ej
                      refine thn_exit ⟨_, rfl, rfl, ?_⟩
                      exact Sub.cut ⟨rfl, rfl, rfl, rfl, trivial⟩ rfl ⟨.dead, .dead, .dead, .dead, .dead, .one rfl, trivial⟩ rfl
                  · intro e s hq
                    rcases oo with last22 | x
                    · try dsimp only at h hq
                      obtain ⟨rfl, hs⟩ := hq
                      refine ⟨_, hs, ?_⟩
                      refine inB_exit ?_
                      refine thn_normal ?_
                      refine AWP.seq ?_
                      refine AWP.seq ?_
                      refine AWP.region ?_
                      refine W.fieldAddr rfl rfl rfl rfl ?_
                      refine AOps.load rfl rfl rfl rfl rfl rfl ?_
                      refine AOps.neq rfl rfl rfl ?_
                      refine AOps.nil ?_
                      refine thn_normal ?_
                      refine AWP.iteN rfl h (fun hc45 h => ?_) (fun hc45 h => ?_)
                      · refine AWP.seq ?_
                        obtain ⟨a221, ha221, h⟩ := bind_some h
                        refine AWP.region ?_
                        refine AOps.callR rfl rfl rfl rfl (law8_watched_ok ha221) rfl ?_
                        refine AOps.assign rfl rfl ?_
                        refine AOps.nil ?_
                        refine thn_normal ?_
                        refine AWP.ret ?_
                        refine thn_ret ?_
                        have ej := Option.some.inj h
                        subst ej
                        exact Done.ret rfl rfl
                      · refine AWP.skip ?_
                        refine thn_normal ?_
                        obtain ⟨t46, hx47, h⟩ := bind_some h
                        refine AWP.seqJ (⟨[(8, .c (bool t46))], []⟩) ?_ ?_
                        · rcases Bool.eq_false_or_eq_true (decide (a38.2.1 = (decide (0 ≤ last22)))) with hb48 | hb48
                          · replace hx47 := iteDT hb48 hx47
                            rcases Bool.eq_false_or_eq_true (a38.2.1) with hb49 | hb49
                            · replace hx47 := iteBT hb49 hx47
                              rcases Bool.eq_false_or_eq_true (decide (a38.1 = last22)) with hb50 | hb50
                              · replace hx47 := iteDT hb50 hx47
                                obtain ⟨a243, ha243, hx47⟩ := bind_some hx47
                                refine AWP.region ?_
                                refine AOps.move rfl rfl ?_
                                refine AOps.move rfl rfl ?_
                                refine AOps.geq rfl rfl rfl ?_
                                refine AOps.eqlB rfl rfl rfl ?_
                                refine AOps.move rfl rfl ?_
                                refine AOps.guardT rfl rfl rfl hb48 ?_; refine AOps.move rfl rfl ?_
                                refine AOps.guardT rfl rfl rfl hb48 ?_; refine AOps.move rfl rfl ?_
                                refine AOps.guardT rfl rfl rfl hb49 ?_; refine AOps.move rfl rfl ?_
                                refine AOps.guardT rfl rfl rfl hb49 ?_; refine AOps.move rfl rfl ?_
                                refine AOps.guardT rfl rfl rfl hb49 ?_; refine AOps.eql rfl rfl rfl ?_
                                refine AOps.guardT rfl rfl rfl hb48 ?_; refine AOps.pickT rfl hb49 rfl rfl ?_
                                refine AOps.guardT rfl rfl rfl hb48 ?_; refine AOps.move rfl rfl ?_
                                refine AOps.guardF rfl rfl rfl hb50 ?_
                                refine AOps.guardF rfl rfl rfl hb50 ?_
                                refine AOps.guardF rfl rfl rfl hb50 ?_
                                refine AOps.guardSkip rfl rfl rfl ?_
                                refine AOps.guardSkip rfl rfl rfl ?_
                                refine AOps.guardF rfl rfl rfl hb50 ?_
                                refine AOps.guardT rfl rfl rfl hb48 ?_; refine AOps.pickT rfl hb50 rfl rfl ?_
                                refine AOps.pickT rfl hb48 rfl rfl ?_
                                refine AOps.move rfl rfl ?_
                                refine AOps.guardT rfl rfl rfl rfl ?_; refine AOps.callR rfl rfl rfl rfl (law8_watched_ok ha243) rfl ?_
                                refine AOps.pickT rfl rfl rfl rfl ?_
                                refine AOps.assign rfl rfl ?_
                                refine AOps.nil ?_
                                have ej := Option.some.inj hx47
                                subst ej
                                refine thn_normal ?_
                                exact Sub.cut ⟨rfl, trivial⟩ rfl trivial rfl
                              · replace hx47 := iteDF hb50 hx47
                                rcases Bool.eq_false_or_eq_true (!a38.2.1) with hb51 | hb51
                                · replace hx47 := iteBT hb51 hx47
                                  rcases Bool.eq_false_or_eq_true (decide (a38.1 = 0)) with hb52 | hb52
                                  · replace hx47 := iteDT hb52 hx47
                                    obtain ⟨a243, ha243, hx47⟩ := bind_some hx47
                                    refine AWP.region ?_
                                    refine AOps.move rfl rfl ?_
                                    refine AOps.move rfl rfl ?_
                                    refine AOps.geq rfl rfl rfl ?_
                                    refine AOps.eqlB rfl rfl rfl ?_
                                    refine AOps.move rfl rfl ?_
                                    refine AOps.guardT rfl rfl rfl hb48 ?_; refine AOps.move rfl rfl ?_
                                    refine AOps.guardT rfl rfl rfl hb48 ?_; refine AOps.move rfl rfl ?_
                                    refine AOps.guardT rfl rfl rfl hb49 ?_; refine AOps.move rfl rfl ?_
                                    refine AOps.guardT rfl rfl rfl hb49 ?_; refine AOps.move rfl rfl ?_
                                    refine AOps.guardT rfl rfl rfl hb49 ?_; refine AOps.eql rfl rfl rfl ?_
                                    refine AOps.guardT rfl rfl rfl hb48 ?_; refine AOps.pickT rfl hb49 rfl rfl ?_
                                    refine AOps.guardT rfl rfl rfl hb48 ?_; refine AOps.move rfl rfl ?_
                                    refine AOps.guardT rfl rfl rfl hb50 ?_; refine AOps.move rfl rfl ?_
                                    refine AOps.guardT rfl rfl rfl hb50 ?_; refine AOps.not rfl rfl ?_
                                    refine AOps.guardT rfl rfl rfl hb50 ?_; refine AOps.move rfl rfl ?_
                                    refine AOps.guardT rfl rfl rfl hb51 ?_; refine AOps.move rfl rfl ?_
                                    refine AOps.guardT rfl rfl rfl hb51 ?_; refine AOps.eql rfl rfl rfl ?_
                                    refine AOps.guardT rfl rfl rfl hb50 ?_; refine AOps.pickT rfl hb51 rfl rfl ?_
                                    refine AOps.guardT rfl rfl rfl hb48 ?_; refine AOps.pickF rfl hb50 rfl rfl ?_
                                    refine AOps.pickT rfl hb48 rfl rfl ?_
                                    refine AOps.move rfl rfl ?_
                                    refine AOps.guardT rfl rfl rfl hb52 ?_; refine AOps.callR rfl rfl rfl rfl (law8_watched_ok ha243) rfl ?_
                                    refine AOps.pickT rfl hb52 rfl rfl ?_
                                    refine AOps.assign rfl rfl ?_
                                    refine AOps.nil ?_
                                    have ej := Option.some.inj hx47
                                    subst ej
                                    refine thn_normal ?_
                                    exact Sub.cut ⟨rfl, trivial⟩ rfl trivial rfl
                                  · replace hx47 := iteDF hb52 hx47
                                    refine AWP.region ?_
                                    refine AOps.move rfl rfl ?_
                                    refine AOps.move rfl rfl ?_
                                    refine AOps.geq rfl rfl rfl ?_
                                    refine AOps.eqlB rfl rfl rfl ?_
                                    refine AOps.move rfl rfl ?_
                                    refine AOps.guardT rfl rfl rfl hb48 ?_; refine AOps.move rfl rfl ?_
                                    refine AOps.guardT rfl rfl rfl hb48 ?_; refine AOps.move rfl rfl ?_
                                    refine AOps.guardT rfl rfl rfl hb49 ?_; refine AOps.move rfl rfl ?_
                                    refine AOps.guardT rfl rfl rfl hb49 ?_; refine AOps.move rfl rfl ?_
                                    refine AOps.guardT rfl rfl rfl hb49 ?_; refine AOps.eql rfl rfl rfl ?_
                                    refine AOps.guardT rfl rfl rfl hb48 ?_; refine AOps.pickT rfl hb49 rfl rfl ?_
                                    refine AOps.guardT rfl rfl rfl hb48 ?_; refine AOps.move rfl rfl ?_
                                    refine AOps.guardT rfl rfl rfl hb50 ?_; refine AOps.move rfl rfl ?_
                                    refine AOps.guardT rfl rfl rfl hb50 ?_; refine AOps.not rfl rfl ?_
                                    refine AOps.guardT rfl rfl rfl hb50 ?_; refine AOps.move rfl rfl ?_
                                    refine AOps.guardT rfl rfl rfl hb51 ?_; refine AOps.move rfl rfl ?_
                                    refine AOps.guardT rfl rfl rfl hb51 ?_; refine AOps.eql rfl rfl rfl ?_
                                    refine AOps.guardT rfl rfl rfl hb50 ?_; refine AOps.pickT rfl hb51 rfl rfl ?_
                                    refine AOps.guardT rfl rfl rfl hb48 ?_; refine AOps.pickF rfl hb50 rfl rfl ?_
                                    refine AOps.pickT rfl hb48 rfl rfl ?_
                                    refine AOps.move rfl rfl ?_
                                    refine AOps.guardF rfl rfl rfl hb52 ?_
                                    refine AOps.pickF rfl hb52 rfl rfl ?_
                                    refine AOps.assign rfl rfl ?_
                                    refine AOps.nil ?_
                                    have ej := Option.some.inj hx47
                                    subst ej
                                    refine thn_normal ?_
                                    exact Sub.cut ⟨rfl, trivial⟩ rfl trivial rfl
                                · replace hx47 := iteBF hb51 hx47
                                  refine AWP.region ?_
                                  refine AOps.move rfl rfl ?_
                                  refine AOps.move rfl rfl ?_
                                  refine AOps.geq rfl rfl rfl ?_
                                  refine AOps.eqlB rfl rfl rfl ?_
                                  refine AOps.move rfl rfl ?_
                                  refine AOps.guardT rfl rfl rfl hb48 ?_; refine AOps.move rfl rfl ?_
                                  refine AOps.guardT rfl rfl rfl hb48 ?_; refine AOps.move rfl rfl ?_
                                  refine AOps.guardT rfl rfl rfl hb49 ?_; refine AOps.move rfl rfl ?_
                                  refine AOps.guardT rfl rfl rfl hb49 ?_; refine AOps.move rfl rfl ?_
                                  refine AOps.guardT rfl rfl rfl hb49 ?_; refine AOps.eql rfl rfl rfl ?_
                                  refine AOps.guardT rfl rfl rfl hb48 ?_; refine AOps.pickT rfl hb49 rfl rfl ?_
                                  refine AOps.guardT rfl rfl rfl hb48 ?_; refine AOps.move rfl rfl ?_
                                  refine AOps.guardT rfl rfl rfl hb50 ?_; refine AOps.move rfl rfl ?_
                                  refine AOps.guardT rfl rfl rfl hb50 ?_; refine AOps.not rfl rfl ?_
                                  refine AOps.guardT rfl rfl rfl hb50 ?_; refine AOps.move rfl rfl ?_
                                  refine AOps.guardF rfl rfl rfl hb51 ?_
                                  refine AOps.guardF rfl rfl rfl hb51 ?_
                                  refine AOps.guardT rfl rfl rfl hb50 ?_; refine AOps.pickF rfl hb51 rfl rfl ?_
                                  refine AOps.guardT rfl rfl rfl hb48 ?_; refine AOps.pickF rfl hb50 rfl rfl ?_
                                  refine AOps.pickT rfl hb48 rfl rfl ?_
                                  refine AOps.move rfl rfl ?_
                                  refine AOps.guardF rfl rfl rfl rfl ?_
                                  refine AOps.pickF rfl rfl rfl rfl ?_
                                  refine AOps.assign rfl rfl ?_
                                  refine AOps.nil ?_
                                  have ej := Option.some.inj hx47
                                  subst ej
                                  refine thn_normal ?_
                                  exact Sub.cut ⟨rfl, trivial⟩ rfl trivial rfl
                            · replace hx47 := iteBF hb49 hx47
                              rcases Bool.eq_false_or_eq_true (!a38.2.1) with hb53 | hb53
                              · replace hx47 := iteBT hb53 hx47
                                rcases Bool.eq_false_or_eq_true (decide (a38.1 = 0)) with hb54 | hb54
                                · replace hx47 := iteDT hb54 hx47
                                  obtain ⟨a243, ha243, hx47⟩ := bind_some hx47
                                  refine AWP.region ?_
                                  refine AOps.move rfl rfl ?_
                                  refine AOps.move rfl rfl ?_
                                  refine AOps.geq rfl rfl rfl ?_
                                  refine AOps.eqlB rfl rfl rfl ?_
                                  refine AOps.move rfl rfl ?_
                                  refine AOps.guardT rfl rfl rfl hb48 ?_; refine AOps.move rfl rfl ?_
                                  refine AOps.guardT rfl rfl rfl hb48 ?_; refine AOps.move rfl rfl ?_
                                  refine AOps.guardF rfl rfl rfl hb49 ?_
                                  refine AOps.guardF rfl rfl rfl hb49 ?_
                                  refine AOps.guardF rfl rfl rfl hb49 ?_
                                  refine AOps.guardT rfl rfl rfl hb48 ?_; refine AOps.pickF rfl hb49 rfl rfl ?_
                                  refine AOps.guardT rfl rfl rfl hb48 ?_; refine AOps.move rfl rfl ?_
                                  refine AOps.guardT rfl rfl rfl rfl ?_; refine AOps.move rfl rfl ?_
                                  refine AOps.guardT rfl rfl rfl rfl ?_; refine AOps.not rfl rfl ?_
                                  refine AOps.guardT rfl rfl rfl rfl ?_; refine AOps.move rfl rfl ?_
                                  refine AOps.guardT rfl rfl rfl hb53 ?_; refine AOps.move rfl rfl ?_
                                  refine AOps.guardT rfl rfl rfl hb53 ?_; refine AOps.eql rfl rfl rfl ?_
                                  refine AOps.guardT rfl rfl rfl rfl ?_; refine AOps.pickT rfl hb53 rfl rfl ?_
                                  refine AOps.guardT rfl rfl rfl hb48 ?_; refine AOps.pickF rfl rfl rfl rfl ?_
                                  refine AOps.pickT rfl hb48 rfl rfl ?_
                                  refine AOps.move rfl rfl ?_
                                  refine AOps.guardT rfl rfl rfl hb54 ?_; refine AOps.callR rfl rfl rfl rfl (law8_watched_ok ha243) rfl ?_
                                  refine AOps.pickT rfl hb54 rfl rfl ?_
                                  refine AOps.assign rfl rfl ?_
                                  refine AOps.nil ?_
                                  have ej := Option.some.inj hx47
                                  subst ej
                                  refine thn_normal ?_
                                  exact Sub.cut ⟨rfl, trivial⟩ rfl trivial rfl
                                · replace hx47 := iteDF hb54 hx47
                                  refine AWP.region ?_
                                  refine AOps.move rfl rfl ?_
                                  refine AOps.move rfl rfl ?_
                                  refine AOps.geq rfl rfl rfl ?_
                                  refine AOps.eqlB rfl rfl rfl ?_
                                  refine AOps.move rfl rfl ?_
                                  refine AOps.guardT rfl rfl rfl hb48 ?_; refine AOps.move rfl rfl ?_
                                  refine AOps.guardT rfl rfl rfl hb48 ?_; refine AOps.move rfl rfl ?_
                                  refine AOps.guardF rfl rfl rfl hb49 ?_
                                  refine AOps.guardF rfl rfl rfl hb49 ?_
                                  refine AOps.guardF rfl rfl rfl hb49 ?_
                                  refine AOps.guardT rfl rfl rfl hb48 ?_; refine AOps.pickF rfl hb49 rfl rfl ?_
                                  refine AOps.guardT rfl rfl rfl hb48 ?_; refine AOps.move rfl rfl ?_
                                  refine AOps.guardT rfl rfl rfl rfl ?_; refine AOps.move rfl rfl ?_
                                  refine AOps.guardT rfl rfl rfl rfl ?_; refine AOps.not rfl rfl ?_
                                  refine AOps.guardT rfl rfl rfl rfl ?_; refine AOps.move rfl rfl ?_
                                  refine AOps.guardT rfl rfl rfl hb53 ?_; refine AOps.move rfl rfl ?_
                                  refine AOps.guardT rfl rfl rfl hb53 ?_; refine AOps.eql rfl rfl rfl ?_
                                  refine AOps.guardT rfl rfl rfl rfl ?_; refine AOps.pickT rfl hb53 rfl rfl ?_
                                  refine AOps.guardT rfl rfl rfl hb48 ?_; refine AOps.pickF rfl rfl rfl rfl ?_
                                  refine AOps.pickT rfl hb48 rfl rfl ?_
                                  refine AOps.move rfl rfl ?_
                                  refine AOps.guardF rfl rfl rfl hb54 ?_
                                  refine AOps.pickF rfl hb54 rfl rfl ?_
                                  refine AOps.assign rfl rfl ?_
                                  refine AOps.nil ?_
                                  have ej := Option.some.inj hx47
                                  subst ej
                                  refine thn_normal ?_
                                  exact Sub.cut ⟨rfl, trivial⟩ rfl trivial rfl
                              · replace hx47 := iteBF hb53 hx47
                                refine AWP.region ?_
                                refine AOps.move rfl rfl ?_
                                refine AOps.move rfl rfl ?_
                                refine AOps.geq rfl rfl rfl ?_
                                refine AOps.eqlB rfl rfl rfl ?_
                                refine AOps.move rfl rfl ?_
                                refine AOps.guardT rfl rfl rfl hb48 ?_; refine AOps.move rfl rfl ?_
                                refine AOps.guardT rfl rfl rfl hb48 ?_; refine AOps.move rfl rfl ?_
                                refine AOps.guardF rfl rfl rfl hb49 ?_
                                refine AOps.guardF rfl rfl rfl hb49 ?_
                                refine AOps.guardF rfl rfl rfl hb49 ?_
                                refine AOps.guardT rfl rfl rfl hb48 ?_; refine AOps.pickF rfl hb49 rfl rfl ?_
                                refine AOps.guardT rfl rfl rfl hb48 ?_; refine AOps.move rfl rfl ?_
                                refine AOps.guardT rfl rfl rfl rfl ?_; refine AOps.move rfl rfl ?_
                                refine AOps.guardT rfl rfl rfl rfl ?_; refine AOps.not rfl rfl ?_
                                refine AOps.guardT rfl rfl rfl rfl ?_; refine AOps.move rfl rfl ?_
                                refine AOps.guardF rfl rfl rfl hb53 ?_
                                refine AOps.guardF rfl rfl rfl hb53 ?_
                                refine AOps.guardT rfl rfl rfl rfl ?_; refine AOps.pickF rfl hb53 rfl rfl ?_
                                refine AOps.guardT rfl rfl rfl hb48 ?_; refine AOps.pickF rfl rfl rfl rfl ?_
                                refine AOps.pickT rfl hb48 rfl rfl ?_
                                refine AOps.move rfl rfl ?_
                                refine AOps.guardF rfl rfl rfl rfl ?_
                                refine AOps.pickF rfl rfl rfl rfl ?_
                                refine AOps.assign rfl rfl ?_
                                refine AOps.nil ?_
                                have ej := Option.some.inj hx47
                                subst ej
                                refine thn_normal ?_
                                exact Sub.cut ⟨rfl, trivial⟩ rfl trivial rfl
                          · replace hx47 := iteDF hb48 hx47
                            refine AWP.region ?_
                            refine AOps.move rfl rfl ?_
                            refine AOps.move rfl rfl ?_
                            refine AOps.geq rfl rfl rfl ?_
                            refine AOps.eqlB rfl rfl rfl ?_
                            refine AOps.move rfl rfl ?_
                            refine AOps.guardF rfl rfl rfl hb48 ?_
                            refine AOps.guardF rfl rfl rfl hb48 ?_
                            refine AOps.guardSkip rfl rfl rfl ?_
                            refine AOps.guardSkip rfl rfl rfl ?_
                            refine AOps.guardSkip rfl rfl rfl ?_
                            refine AOps.guardF rfl rfl rfl hb48 ?_
                            refine AOps.guardF rfl rfl rfl hb48 ?_
                            refine AOps.guardSkip rfl rfl rfl ?_
                            refine AOps.guardSkip rfl rfl rfl ?_
                            refine AOps.guardSkip rfl rfl rfl ?_
                            refine AOps.guardSkip rfl rfl rfl ?_
                            refine AOps.guardSkip rfl rfl rfl ?_
                            refine AOps.guardSkip rfl rfl rfl ?_
                            refine AOps.guardF rfl rfl rfl hb48 ?_
                            refine AOps.pickF rfl hb48 rfl rfl ?_
                            refine AOps.move rfl rfl ?_
                            refine AOps.guardF rfl rfl rfl rfl ?_
                            refine AOps.pickF rfl rfl rfl rfl ?_
                            refine AOps.assign rfl rfl ?_
                            refine AOps.nil ?_
                            have ej := Option.some.inj hx47
                            subst ej
                            refine thn_normal ?_
                            exact Sub.cut ⟨rfl, trivial⟩ rfl trivial rfl
                        · refine AWP.ret ?_
                          have ej := Option.some.inj h
                          subst ej
                          exact Done.ret rfl rfl
                    · try dsimp only at h hq
                      obtain ⟨rfl, hs⟩ := hq
                      refine ⟨_, Sub.refl _ _, ?_⟩
                      refine inB_ret ?_
                      refine thn_ret ?_
                      have ej := Option.some.inj h
                      subst ej
                      exact hs

theorem law8_MonitorMissingSuffices_ok {t : TTask} {plan : List Int} {sv : List Int} {iv : Int} {r : Bool} (h : law8_MonitorMissingSuffices t plan sv iv = some r) : PureOk Try.prog 5 [.agg [int t.facts, row 1 intI t.init, row 1 intI t.goal, row 4 eTOperator t.operators], .c (row 1 intI plan), .c (row 1 intI sv), .c (int iv)] (.c (bool r)) := by
  unfold PureOk
  refine FnOk.enter (rs := [.t 8]) Try.func5 rfl Try.ntmps5 Try.results5 rfl ⟨trivial, trivial⟩ (by kernel_rfl) rfl ?_
  unfold law8_MonitorMissingSuffices at h
  refine AWP.seq ?_
  refine AWP.region ?_
  refine W.box rfl rfl rfl rfl rfl rfl ?_
  refine AOps.assign rfl rfl ?_
  refine AOps.nil ?_
  refine thn_normal ?_
  refine AWP.seq ?_
  obtain ⟨a19, ha19, h⟩ := bind_some h
  refine AWP.region ?_
  refine W.loadAgg rfl rfl rfl rfl rfl rfl rfl ?_
  refine AOps.move rfl rfl ?_
  refine AOps.move rfl rfl ?_
  refine AOps.move rfl rfl ?_
  refine AOps.callR rfl rfl rfl rfl (monitor_Missing_ok ha19) rfl ?_
  refine AOps.move rfl rfl ?_
  refine AOps.extract rfl rfl rfl ?_
  refine AOps.extract rfl rfl rfl ?_
  refine AOps.extract rfl rfl rfl ?_
  refine W.alloc rfl rfl rfl rfl ?_
  refine AOps.assign rfl rfl ?_
  refine AOps.assign rfl rfl ?_
  refine W.storeAgg rfl rfl rfl rfl rfl rfl rfl ?_
  refine AOps.nil ?_
  refine thn_normal ?_
  refine AWP.seq ?_
  refine AWP.seqJ (⟨[(1, .c (row 1 intI plan)), (2, .c (row 1 intI sv)), (3, .c (int iv)), (4, .c (.ptr 0 0 0)), (9, .c (row 1 intI a19.1)), (29, .c (bool ((!(decide (a19.2.2.code = 0))) || (!a19.2.1))))], [.one (.cells 4 [[int t.facts, row 1 intI t.init, row 1 intI t.goal, row 4 eTOperator t.operators]]), .one (.cells 2 [[int a19.2.2.code, int a19.2.2.index]])]⟩) ?_ ?_
  · rcases Bool.eq_false_or_eq_true (!(decide (a19.2.2.code = 0))) with hb1 | hb1
    · refine AWP.region ?_
      refine W.fieldAddr rfl rfl rfl rfl ?_
      refine AOps.load rfl rfl rfl rfl rfl rfl ?_
      refine AOps.neq rfl rfl rfl ?_
      refine AOps.move rfl rfl ?_
      refine AOps.guardF rfl rfl rfl hb1 ?_
      refine AOps.guardF rfl rfl rfl hb1 ?_
      refine AOps.pickT rfl hb1 rfl rfl ?_
      refine AOps.nil ?_
      refine thn_normal ?_
      simp only [and_t hb1, or_t hb1, Bool.false_or, Bool.true_or, Bool.false_and, Bool.true_and]
      exact Sub.env ⟨rfl, rfl, rfl, rfl, rfl, rfl, trivial⟩
    · refine AWP.region ?_
      refine W.fieldAddr rfl rfl rfl rfl ?_
      refine AOps.load rfl rfl rfl rfl rfl rfl ?_
      refine AOps.neq rfl rfl rfl ?_
      refine AOps.move rfl rfl ?_
      refine AOps.guardT rfl rfl rfl hb1 ?_; refine AOps.move rfl rfl ?_
      refine AOps.guardT rfl rfl rfl hb1 ?_; refine AOps.not rfl rfl ?_
      refine AOps.pickF rfl hb1 rfl rfl ?_
      refine AOps.nil ?_
      refine thn_normal ?_
      simp only [and_f hb1, or_f hb1, Bool.false_or, Bool.true_or, Bool.false_and, Bool.true_and]
      exact Sub.env ⟨rfl, rfl, rfl, rfl, rfl, rfl, trivial⟩
  · refine AWP.iteB rfl h (fun hc5 h => ?_) (fun hc5 h => ?_)
    · refine AWP.seq ?_
      obtain ⟨a30, ha30, h⟩ := bind_some h
      refine AWP.region ?_
      refine AOps.callR rfl rfl rfl rfl (law8_watched_ok ha30) rfl ?_
      refine AOps.assign rfl rfl ?_
      refine AOps.nil ?_
      refine thn_normal ?_
      refine AWP.ret ?_
      refine thn_ret ?_
      have ej := Option.some.inj h
      subst ej
      exact Done.ret rfl rfl
    · refine AWP.skip ?_
      refine thn_normal ?_
      refine AWP.seq ?_
      refine AWP.region ?_
      refine AOps.assign rfl rfl ?_
      refine AOps.nil ?_
      refine thn_normal ?_
      refine AWP.seq ?_
      refine AWP.seq ?_
      refine AWP.region ?_
      refine AOps.assign rfl rfl ?_
      refine AOps.nil ?_
      refine thn_normal ?_
      refine AWP.block ?_
      refine AWP.virtV 1 intI 12 rfl rfl rfl ?_
      obtain ⟨hnp7, h⟩ := ite_none h
      obtain ⟨c6, ho1, h⟩ := bind_some h
      refine AWP.forS ho1 (fun p7 c6 => ⟨[(1, .c (row 1 intI plan)), (2, .c (row 1 intI sv)), (3, .c (int iv)), (4, .c (.ptr 0 0 0)), (9, .c (row 1 intI a19.1)), (12, .c (.own 2 0 c6.length)), (13, .c (int p7))], [.one (.cells 4 [[int t.facts, row 1 intI t.init, row 1 intI t.goal, row 4 eTOperator t.operators]]), .dead, .one (vec 1 intI c6)]⟩) (fun c6 e st => e = .exit 0 ∧ Sub [] st ⟨[(1, .c (row 1 intI plan)), (3, .c (int iv)), (4, .c (.ptr 0 0 0)), (12, .c (.own 2 0 c6.length))], [.one (.cells 4 [[int t.facts, row 1 intI t.init, row 1 intI t.goal, row 4 eTOperator t.operators]]), .dead, .one (vec 1 intI c6)]⟩) ?_ ?_ ?_ ?_
      · try dsimp only
        exact Sub.cut ⟨rfl, rfl, rfl, rfl, rfl, (own_len (by first | rfl | simp only [List.length_set])), rfl, trivial⟩ rfl ⟨.one rfl, .dead, .vec, trivial⟩ rfl
      · intro p7 c6 hlop7 hltp7 _
        try dsimp only
        refine AWP.seq ?_
        refine AWP.seq ?_
        refine AWP.region ?_
        refine AOps.move rfl rfl ?_
        refine W.fieldAddr rfl rfl rfl rfl ?_
        refine AOps.load rfl rfl rfl rfl rfl rfl ?_
        refine AOps.lss rfl rfl rfl ?_
        refine AOps.nil ?_
        refine thn_normal ?_
        refine AWP.condNP rfl hltp7 ?_
        refine AWP.exit ?_
        refine thn_exit ?_
        refine thn_exit ⟨rfl, ?_⟩
        exact Sub.env ⟨rfl, rfl, rfl, rfl, trivial⟩
      · intro p7 c6 o hlop7 hltp7 h
        unfold law8_MonitorMissingSuffices_l1 at h
        try dsimp only at h ⊢
        refine AWP.seq ?_
        refine AWP.seq ?_
        refine AWP.region ?_
        refine AOps.move rfl rfl ?_
        refine W.fieldAddr rfl rfl rfl rfl ?_
        refine AOps.load rfl rfl rfl rfl rfl rfl ?_
        refine AOps.lss rfl rfl rfl ?_
        refine AOps.nil ?_
        refine thn_normal ?_
        refine AWP.condP rfl hltp7 ?_
        refine AWP.skip ?_
        refine thn_normal ?_
        obtain ⟨c8, hx9, h⟩ := bind_some h
        refine AWP.seqJ (⟨[(1, .c (row 1 intI plan)), (2, .c (row 1 intI sv)), (3, .c (int iv)), (4, .c (.ptr 0 0 0)), (9, .c (row 1 intI a19.1)), (12, .c (.own 4 0 c8.length)), (13, .c (int p7))], [.one (.cells 4 [[int t.facts, row 1 intI t.init, row 1 intI t.goal, row 4 eTOperator t.operators]]), .dead, .dead, .dead, .one (vec 1 intI c8)]⟩) ?_ ?_
        · refine AWP.block ?_
          obtain ⟨t10, hx11, hx9⟩ := bind_some hx9
          refine AWP.seqJ (⟨[(1, .c (row 1 intI plan)), (2, .c (row 1 intI sv)), (3, .c (int iv)), (4, .c (.ptr 0 0 0)), (9, .c (row 1 intI a19.1)), (12, .c (.own 2 0 c6.length)), (13, .c (int p7)), (44, .c (bool t10))], [.one (.cells 4 [[int t.facts, row 1 intI t.init, row 1 intI t.goal, row 4 eTOperator t.operators]]), .dead, .one (vec 1 intI c6)]⟩) ?_ ?_
          · obtain ⟨a39, ha39, hx11⟩ := bind_some hx11
            rcases Bool.eq_false_or_eq_true (a39) with hb12 | hb12
            · replace hx11 := iteBT hb12 hx11
              refine AWP.region ?_
              refine AOps.move rfl rfl ?_
              refine AOps.move rfl rfl ?_
              refine AOps.callR rfl rfl rfl rfl (ref1_Has_ok ha39) rfl ?_
              refine AOps.move rfl rfl ?_
              refine AOps.guardF rfl rfl rfl hb12 ?_
              refine AOps.guardF rfl rfl rfl hb12 ?_
              refine AOps.guardF rfl rfl rfl hb12 ?_
              refine AOps.pickT rfl hb12 rfl rfl ?_
              refine AOps.nil ?_
              have ej := Option.some.inj hx11
              subst ej
              refine thn_normal ?_
              exact Sub.env ⟨rfl, rfl, rfl, rfl, rfl, rfl, rfl, rfl, trivial⟩
            · replace hx11 := iteBF hb12 hx11
              obtain ⟨a43, ha43, hx11⟩ := bind_some hx11
              refine AWP.region ?_
              refine AOps.move rfl rfl ?_
              refine AOps.move rfl rfl ?_
              refine AOps.callR rfl rfl rfl rfl (ref1_Has_ok ha39) rfl ?_
              refine AOps.move rfl rfl ?_
              refine AOps.guardT rfl rfl rfl hb12 ?_; refine AOps.move rfl rfl ?_
              refine AOps.guardT rfl rfl rfl hb12 ?_; refine AOps.move rfl rfl ?_
              refine AOps.guardT rfl rfl rfl hb12 ?_; refine AOps.callR rfl rfl rfl rfl (ref1_Has_ok ha43) rfl ?_
              refine AOps.pickF rfl hb12 rfl rfl ?_
              refine AOps.nil ?_
              have ej := Option.some.inj hx11
              subst ej
              refine thn_normal ?_
              exact Sub.env ⟨rfl, rfl, rfl, rfl, rfl, rfl, rfl, rfl, trivial⟩
          · refine AWP.iteB rfl hx9 (fun hc13 hx9 => ?_) (fun hc13 hx9 => ?_)
            · obtain ⟨a48, ha48, hx9⟩ := bind_some hx9
              refine AWP.region ?_
              refine AOps.move rfl rfl ?_
              refine AOps.move rfl rfl ?_
              refine S.lit (f := intI) (l := [p7]) (ess := [[int p7]]) rfl rfl rfl rfl rfl rfl rfl ⟨⟨.inl rfl, trivial⟩, trivial⟩ rfl rfl rfl ?_
              refine S.append (f := intI) ha48 rfl rfl rfl rfl rfl rfl (.own rfl rfl) rfl rfl rfl rfl ?_
              refine AOps.assign rfl rfl ?_
              refine AOps.nil ?_
              refine inB_normal ?_
              have ej := Option.some.inj hx9
              subst ej
              refine thn_normal ?_
              exact Sub.cut ⟨rfl, rfl, rfl, rfl, rfl, rfl, rfl, trivial⟩ rfl ⟨.one rfl, .dead, .dead, .dead, .vec, trivial⟩ rfl
            · refine AWP.skip ?_
              refine inB_normal ?_
              have ej := Option.some.inj hx9
              subst ej
              refine thn_normal ?_
              exact (Sub.move (env' := [(1, .c (row 1 intI plan)), (2, .c (row 1 intI sv)), (3, .c (int iv)), (4, .c (.ptr 0 0 0)), (9, .c (row 1 intI a19.1)), (12, .c (.own 4 0 c6.length)), (13, .c (int p7))]) (σ' := [.one (.cells 4 [[int t.facts, row 1 intI t.init, row 1 intI t.goal, row 4 eTOperator t.operators]]), .dead, .dead, .dead, .one (vec 1 intI c6)]) 4 2 rfl rfl rfl ⟨rfl, rfl, rfl, rfl, rfl, rfl, rfl, trivial⟩ rfl ⟨⟨rfl, rfl⟩, trivial, trivial, trivial, ⟨Blk.im_ok _ _ _, vec_mv rfl⟩, trivial⟩).trans (Sub.env ⟨rfl, rfl, rfl, rfl, rfl, rfl, rfl, trivial⟩)
        · refine AWP.region ?_
          refine AOps.move rfl rfl ?_
          refine AOps.add rfl rfl rfl (by omega) ?_
          refine AOps.assign rfl rfl ?_
          refine AOps.nil ?_
          have ej := Option.some.inj h
          subst ej
          refine thn_normal ?_
          exact (Sub.move (env' := [(1, .c (row 1 intI plan)), (2, .c (row 1 intI sv)), (3, .c (int iv)), (4, .c (.ptr 0 0 0)), (9, .c (row 1 intI a19.1)), (12, .c (.own 2 0 c8.length)), (13, .c (int (p7 + 1)))]) (σ' := [.one (.cells 4 [[int t.facts, row 1 intI t.init, row 1 intI t.goal, row 4 eTOperator t.operators]]), .dead, .one (vec 1 intI c8), .dead]) 2 4 rfl rfl rfl ⟨rfl, rfl, rfl, rfl, rfl, rfl, rfl, trivial⟩ rfl ⟨⟨rfl, rfl⟩, trivial, ⟨Blk.im_ok _ _ _, vec_mv rfl⟩, trivial, trivial⟩).trans (Sub.cut ⟨rfl, rfl, rfl, rfl, rfl, rfl, rfl, trivial⟩ rfl ⟨.one rfl, .dead, .vec, trivial⟩ rfl)
      · intro e s hq
        obtain ⟨rfl, hs⟩ := hq
        refine ⟨_, hs, ?_⟩
        refine inB_exit ?_
        refine thn_normal ?_
        obtain ⟨t14, hx15, h⟩ := bind_some h
        refine AWP.seqJ (⟨[(8, .c (bool t14))], []⟩) ?_ ?_
        · obtain ⟨a53, ha53, hx15⟩ := bind_some hx15
          obtain ⟨a54, ha54, hx15⟩ := bind_some hx15
          rcases Bool.eq_false_or_eq_true (a54) with hb16 | hb16
          · replace hx15 := iteBT hb16 hx15
            obtain ⟨a56, ha56, hx15⟩ := bind_some hx15
            refine AWP.drawI mixed rfl ?_
            apply DrawSeq.consF; exact rfl; intro E
            refine W.loadAgg rfl rfl rfl rfl rfl rfl rfl ?_
            exact AOps.nil ⟨rfl, rfl⟩
            exact rfl
            apply DrawSeq.consF; exact rfl; intro E
            refine AOps.move rfl rfl ?_
            exact AOps.nil ⟨rfl, rfl⟩
            exact rfl
            apply DrawSeq.consF; exact rfl; intro E
            refine AOps.move rfl rfl ?_
            exact AOps.nil ⟨rfl, rfl⟩
            exact rfl
            apply DrawSeq.consF; exact rfl; intro E
            refine AOps.move rfl rfl ?_
            exact AOps.nil ⟨rfl, rfl⟩
            exact rfl
            apply DrawSeq.consF; exact rfl; intro E
            refine S.subFrom ha53 rfl rfl rfl ?_
            exact AOps.nil ⟨rfl, rfl⟩
            exact rfl
            apply DrawSeq.consF; exact rfl; intro E
            refine AOps.callL rfl rfl (.cons (.agg (.cons .imm (.cons .imm (.cons .imm (.cons .imm .nil))))) (.cons (.c (.own rfl rfl)) (.cons (.c .imm) .nil))) rfl (ref1_Works_ok ha54) rfl ?_
            exact AOps.nil ⟨rfl, rfl⟩
            exact rfl
            apply DrawSeq.consF; exact rfl; intro E
            refine AOps.move rfl rfl ?_
            exact AOps.nil ⟨rfl, rfl⟩
            exact rfl
            apply DrawSeq.consF; exact rfl; intro E
            refine AOps.guardT rfl rfl rfl hb16 ?_; refine AOps.callR rfl rfl rfl rfl (law8_watched_ok ha56) rfl ?_
            exact AOps.nil ⟨rfl, rfl⟩
            exact rfl
            apply DrawSeq.consF; exact rfl; intro E
            refine AOps.pickT rfl hb16 rfl rfl ?_
            exact AOps.nil ⟨rfl, rfl⟩
            exact rfl
            apply DrawSeq.consF; exact rfl; intro E
            refine AOps.assign rfl rfl ?_
            exact AOps.nil ⟨rfl, rfl⟩
            exact rfl
            refine DrawSeq.done ?_
            dsimp only [envEnd]
            have ej := Option.some.inj hx15
            subst ej
            refine thn_normal ?_
            exact Sub.cut ⟨rfl, trivial⟩ rfl trivial rfl
          · replace hx15 := iteBF hb16 hx15
            refine AWP.drawI mixed rfl ?_
            apply DrawSeq.consF; exact rfl; intro E
            refine W.loadAgg rfl rfl rfl rfl rfl rfl rfl ?_
            exact AOps.nil ⟨rfl, rfl⟩
            exact rfl
            apply DrawSeq.consF; exact rfl; intro E
            refine AOps.move rfl rfl ?_
            exact AOps.nil ⟨rfl, rfl⟩
            exact rfl
            apply DrawSeq.consF; exact rfl; intro E
            refine AOps.move rfl rfl ?_
            exact AOps.nil ⟨rfl, rfl⟩
            exact rfl
            apply DrawSeq.consF; exact rfl; intro E
            refine AOps.move rfl rfl ?_
            exact AOps.nil ⟨rfl, rfl⟩
            exact rfl
            apply DrawSeq.consF; exact rfl; intro E
            refine S.subFrom ha53 rfl rfl rfl ?_
            exact AOps.nil ⟨rfl, rfl⟩
            exact rfl
            apply DrawSeq.consF; exact rfl; intro E
            refine AOps.callL rfl rfl (.cons (.agg (.cons .imm (.cons .imm (.cons .imm (.cons .imm .nil))))) (.cons (.c (.own rfl rfl)) (.cons (.c .imm) .nil))) rfl (ref1_Works_ok ha54) rfl ?_
            exact AOps.nil ⟨rfl, rfl⟩
            exact rfl
            apply DrawSeq.consF; exact rfl; intro E
            refine AOps.move rfl rfl ?_
            exact AOps.nil ⟨rfl, rfl⟩
            exact rfl
            apply DrawSeq.consF; exact rfl; intro E
            refine AOps.guardF rfl rfl rfl hb16 ?_
            exact AOps.nil ⟨rfl, rfl⟩
            exact rfl
            apply DrawSeq.consF; exact rfl; intro E
            refine AOps.pickF rfl hb16 rfl rfl ?_
            exact AOps.nil ⟨rfl, rfl⟩
            exact rfl
            apply DrawSeq.consF; exact rfl; intro E
            refine AOps.assign rfl rfl ?_
            exact AOps.nil ⟨rfl, rfl⟩
            exact rfl
            refine DrawSeq.done ?_
            dsimp only [envEnd]
            have ej := Option.some.inj hx15
            subst ej
            refine thn_normal ?_
            exact Sub.cut ⟨rfl, trivial⟩ rfl trivial rfl
        · refine AWP.ret ?_
          have ej := Option.some.inj h
          subst ej
          exact Done.ret rfl rfl

theorem strips_Can_ok {t : TTask} {sv : List Int} {op : Int} {r : Bool} (h : strips_Can t sv op = some r) : PureOk Try.prog 59 [.agg [int t.facts, row 1 intI t.init, row 1 intI t.goal, row 4 eTOperator t.operators], .c (row 1 intI sv), .c (int op)] (.c (bool r)) := by
  unfold PureOk
  refine FnOk.enter (rs := [.t 6]) Try.func59 rfl Try.ntmps59 Try.results59 rfl ⟨trivial, trivial⟩ (by kernel_rfl) rfl ?_
  unfold strips_Can at h
  refine AWP.seq ?_
  refine AWP.region ?_
  refine W.box rfl rfl rfl rfl rfl rfl ?_
  refine AOps.assign rfl rfl ?_
  refine AOps.nil ?_
  refine thn_normal ?_
  refine AWP.seq ?_
  obtain ⟨a11, ha11, h⟩ := bind_some h
  obtain ⟨a14, ha14, h⟩ := bind_some h
  refine AWP.region ?_
  refine AOps.move rfl rfl ?_
  refine W.fieldAddr rfl rfl rfl rfl ?_
  refine AOps.load rfl rfl rfl rfl rfl rfl ?_
  refine AOps.move rfl rfl ?_
  refine S.idx ha11 rfl rfl rfl rfl ?_
  refine W.fieldAddrI rfl rfl rfl rfl ?_
  refine AOps.loadI rfl rfl rfl rfl ?_
  refine AOps.callR rfl rfl rfl rfl (strips_Contains_ok ha14) rfl ?_
  refine AOps.assign rfl rfl ?_
  refine AOps.nil ?_
  refine thn_normal ?_
  refine AWP.ret ?_
  have ej := Option.some.inj h
  subst ej
  exact Done.ret rfl rfl

theorem strips_Next_ok {t : TTask} {sv : List Int} {op : Int} {r : (List Int)} (h : strips_Next t sv op = some r) : FreshOk Try.prog 60 [.agg [int t.facts, row 1 intI t.init, row 1 intI t.goal, row 4 eTOperator t.operators], .c (row 1 intI sv), .c (int op)] 1 (List.map intI r) := by
  unfold FreshOk
  refine FnOk.enter (rs := [.t 6]) Try.func60 rfl Try.ntmps60 Try.results60 rfl ⟨trivial, trivial⟩ (by kernel_rfl) rfl ?_
  unfold strips_Next at h
  refine AWP.seq ?_
  refine AWP.region ?_
  refine W.box rfl rfl rfl rfl rfl rfl ?_
  refine AOps.assign rfl rfl ?_
  refine AOps.nil ?_
  refine thn_normal ?_
  refine AWP.seq ?_
  obtain ⟨a11, ha11, h⟩ := bind_some h
  refine AWP.region ?_
  refine W.fieldAddr rfl rfl rfl rfl ?_
  refine AOps.load rfl rfl rfl rfl rfl rfl ?_
  refine AOps.move rfl rfl ?_
  refine S.idx ha11 rfl rfl rfl rfl ?_
  refine W.loadIAgg rfl rfl rfl rfl rfl ?_
  refine W.alloc rfl rfl rfl rfl ?_
  refine W.storeAgg rfl rfl rfl rfl rfl rfl rfl ?_
  refine AOps.nil ?_
  refine thn_normal ?_
  refine AWP.seq ?_
  obtain ⟨a18, ha18, h⟩ := bind_some h
  refine AWP.region ?_
  refine AOps.move rfl rfl ?_
  refine W.fieldAddr rfl rfl rfl rfl ?_
  refine AOps.load rfl rfl rfl rfl rfl rfl ?_
  refine W.fieldAddr rfl rfl rfl rfl ?_
  refine AOps.load rfl rfl rfl rfl rfl rfl ?_
  refine S.fresh rfl rfl rfl rfl (strips_Update_ok ha18) rfl rfl ?_
  refine AOps.assign rfl rfl ?_
  refine AOps.nil ?_
  refine thn_normal ?_
  refine AWP.ret ?_
  have ej := Option.some.inj h
  subst ej
  exact Done.ret rfl (Fresh.mk rfl rfl)

theorem strips_Run_ok {t : TTask} {sv : List Int} {plan : List Int} {r : (List (List Int))} (h : strips_Run t sv plan = some r) : FreshOk Try.prog 49 [.agg [int t.facts, row 1 intI t.init, row 1 intI t.goal, row 4 eTOperator t.operators], .c (row 1 intI sv), .c (row 1 intI plan)] 1 (List.map eLi64 r) := by
  unfold FreshOk
  refine FnOk.enter (rs := [.t 6]) Try.func49 rfl Try.ntmps49 Try.results49 rfl ⟨trivial, trivial⟩ (by kernel_rfl) rfl ?_
  unfold strips_Run at h
  refine AWP.seq ?_
  refine AWP.region ?_
  refine W.box rfl rfl rfl rfl rfl rfl ?_
  refine AOps.assign rfl rfl ?_
  refine AOps.nil ?_
  refine thn_normal ?_
  refine AWP.seq ?_
  obtain ⟨a11, ha11, h⟩ := bind_some h
  refine AWP.region ?_
  refine AOps.move rfl rfl ?_
  refine S.fresh rfl rfl rfl rfl (slices_Clone_int_int_ok ha11) rfl rfl ?_
  refine AOps.frzV (id := 1) (l := a11) (env2 := [(1, .c (row 1 intI sv)), (2, .c (row 1 intI plan)), (3, .c (.ptr 0 0 0)), (11, .c (row 1 intI a11))]) (σ2 := [.one (.cells 4 [[int t.facts, row 1 intI t.init, row 1 intI t.goal, row 4 eTOperator t.operators]]), .dead]) rfl rfl (by exact ⟨⟨_, rfl, .inl ⟨rfl, rfl⟩⟩, ⟨_, rfl, .inl ⟨rfl, rfl⟩⟩, ⟨_, rfl, .inl ⟨rfl, rfl⟩⟩, ⟨_, rfl, .inr ⟨_, rfl, rfl, rfl⟩⟩, trivial⟩) rfl (by exact ⟨⟨rfl, .inl ⟨rfl, rfl⟩, .inl ⟨rfl, rfl⟩, .inl ⟨rfl, rfl⟩, .inl ⟨rfl, rfl⟩, trivial⟩, trivial, trivial⟩) ?_; refine S.lit (f := eLi64) (l := [a11]) (ess := [[row 1 intI a11]]) rfl rfl rfl rfl rfl rfl rfl ⟨⟨.inl rfl, trivial⟩, trivial⟩ rfl rfl rfl ?_
  refine AOps.assign rfl rfl ?_
  refine AOps.nil ?_
  refine thn_normal ?_
  refine AWP.seq ?_
  refine AWP.seq ?_
  refine AWP.region ?_
  refine AOps.move rfl rfl ?_
  refine S.len rfl rfl (fun hl14 => ?_)
  refine AOps.move rfl rfl ?_
  refine AOps.nil ?_
  refine thn_normal ?_
  refine AWP.block ?_
  obtain ⟨c7, ho1, h⟩ := bind_some h
  refine AWP.loopS ho1 (fun (c4, sv5, t6) => ⟨[(1, .c (row 1 intI sv5)), (3, .c (.ptr 0 0 0)), (7, .c (.own 2 0 c4.length)), (13, .c (row 1 intI plan)), (14, .c (int (plan.length : Int))), (15, .c (int t6))], [.one (.cells 4 [[int t.facts, row 1 intI t.init, row 1 intI t.goal, row 4 eTOperator t.operators]]), .dead, .one (vec 1 eLi64 c4)]⟩) (fun c7 e st => e = .exit 0 ∧ Sub [] st ⟨[(7, .c (.own 2 0 c7.length))], [.dead, .dead, .one (vec 1 eLi64 c7)]⟩) ?_ ?_ ?_
  · try dsimp only
    exact Sub.env ⟨rfl, rfl, rfl, rfl, rfl, rfl, trivial⟩
  · intro s o h
    obtain ⟨c4, sv5, t6⟩ := s
    unfold strips_Run_l1 at h
    try dsimp only at h ⊢
    refine AWP.seq ?_
    refine AWP.region ?_
    refine AOps.lss rfl rfl rfl ?_
    refine AOps.nil ?_
    refine thn_normal ?_
    refine AWP.seq ?_
    refine AWP.ite rfl h (fun hc8 h => ?_) (fun hc8 h => ?_)
    · refine AWP.skip ?_
      refine thn_normal ?_
      refine AWP.seq ?_
      refine AWP.block ?_
      refine AWP.seq ?_
      obtain ⟨a17, ha17, h⟩ := bind_some h
      refine AWP.region ?_
      refine S.idx ha17 rfl rfl rfl rfl ?_
      refine AOps.loadI rfl rfl rfl rfl ?_
      refine AOps.assign rfl rfl ?_
      refine AOps.nil ?_
      refine thn_normal ?_
      refine AWP.seq ?_
      refine AWP.seq ?_
      obtain ⟨a22, ha22, h⟩ := bind_some h
      refine AWP.region ?_
      refine W.loadAgg rfl rfl rfl rfl rfl rfl rfl ?_
      refine AOps.move rfl rfl ?_
      refine AOps.move rfl rfl ?_
      refine AOps.callR rfl rfl rfl rfl (strips_Can_ok ha22) rfl ?_
      refine AOps.not rfl rfl ?_
      refine AOps.nil ?_
      refine thn_normal ?_
      refine AWP.iteB rfl h (fun hc9 h => ?_) (fun hc9 h => ?_)
      · refine AWP.exit ?_
        refine thn_exit ?_
        refine inB_exit_ne rfl ?_
        refine thn_exit ?_
        have ej := Option.some.inj h
        subst ej
        refine thn_exit ⟨_, rfl, rfl, ?_⟩
        exact Sub.cut ⟨rfl, trivial⟩ rfl ⟨.dead, .dead, .vec, trivial⟩ rfl
      · refine AWP.skip ?_
        refine thn_normal ?_
        refine AWP.seq ?_
        obtain ⟨a27, ha27, h⟩ := bind_some h
        refine AWP.region ?_
        refine W.loadAgg rfl rfl rfl rfl rfl rfl rfl ?_
        refine AOps.move rfl rfl ?_
        refine AOps.move rfl rfl ?_
        refine S.fresh rfl rfl rfl rfl (strips_Next_ok ha27) rfl rfl ?_
        refine AOps.assign rfl rfl ?_
        refine AOps.nil ?_
        refine thn_normal ?_
        obtain ⟨a31, ha31, h⟩ := bind_some h
        refine AWP.region ?_
        refine AOps.move rfl rfl ?_
        refine AOps.move rfl rfl ?_
        refine AOps.frzV (id := 3) (l := a27) (env2 := [(1, .c (row 1 intI a27)), (3, .c (.ptr 0 0 0)), (13, .c (row 1 intI plan)), (14, .c (int (plan.length : Int))), (15, .c (int t6)), (28, .c (.own 2 0 c4.length)), (29, .c (row 1 intI a27))]) (σ2 := [.one (.cells 4 [[int t.facts, row 1 intI t.init, row 1 intI t.goal, row 4 eTOperator t.operators]]), .dead, .one (vec 1 eLi64 c4), .dead]) rfl rfl (by exact ⟨⟨_, rfl, .inr ⟨_, rfl, rfl, rfl⟩⟩, ⟨_, rfl, .inl ⟨rfl, rfl⟩⟩, ⟨_, rfl, .inl ⟨rfl, rfl⟩⟩, ⟨_, rfl, .inl ⟨rfl, rfl⟩⟩, ⟨_, rfl, .inl ⟨rfl, rfl⟩⟩, ⟨_, rfl, .inl ⟨rfl, rfl⟩⟩, ⟨_, rfl, .inr ⟨_, rfl, rfl, rfl⟩⟩, trivial⟩) rfl (by exact ⟨⟨rfl, .inl ⟨rfl, rfl⟩, .inl ⟨rfl, rfl⟩, .inl ⟨rfl, rfl⟩, .inl ⟨rfl, rfl⟩, trivial⟩, trivial, FrzB.vec, trivial, trivial⟩) ?_; refine S.lit (f := eLi64) (l := [a27]) (ess := [[row 1 intI a27]]) rfl rfl rfl rfl rfl rfl rfl ⟨⟨.inl rfl, trivial⟩, trivial⟩ rfl rfl rfl ?_
        refine S.append (f := eLi64) ha31 rfl rfl rfl rfl rfl rfl (.own rfl rfl) rfl rfl rfl rfl ?_
        refine AOps.assign rfl rfl ?_
        refine AOps.nil ?_
        refine inB_normal ?_
        refine thn_normal ?_
        refine AWP.move (env' := [(1, .c (row 1 intI a27)), (3, .c (.ptr 0 0 0)), (7, .c (.own 2 0 a31.length)), (13, .c (row 1 intI plan)), (14, .c (int (plan.length : Int))), (15, .c (int t6))]) (σ' := [.one (.cells 4 [[int t.facts, row 1 intI t.init, row 1 intI t.goal, row 4 eTOperator t.operators]]), .dead, .one (vec 1 eLi64 a31), .dead, .one (vec 1 eLi64 [a27])]) 2 5 rfl rfl rfl ⟨rfl, rfl, rfl, rfl, rfl, rfl, trivial⟩ rfl ⟨⟨rfl, rfl⟩, trivial, ⟨Blk.im_ok _ _ _, vec_mv rfl⟩, trivial, ⟨Blk.im_ok _ _ _, vec_mv rfl⟩, trivial⟩ ?_
        refine AWP.region ?_
        refine S.add rfl rfl rfl ?_
        refine AOps.move rfl rfl ?_
        refine AOps.nil ?_
        have ej := Option.some.inj h
        subst ej
        refine thn_normal ⟨_, rfl, ?_⟩
        exact Sub.cut ⟨rfl, rfl, rfl, rfl, rfl, rfl, trivial⟩ rfl ⟨.one rfl, .dead, .vec, trivial⟩ rfl
    · refine AWP.exit ?_
      refine thn_exit ?_
      have ej := Option.some.inj h
      subst ej
      refine thn_exit ⟨_, rfl, rfl, ?_⟩
      exact Sub.cut ⟨rfl, trivial⟩ rfl ⟨.dead, .dead, .vec, trivial⟩ rfl
  · intro e s hq
    obtain ⟨rfl, hs⟩ := hq
    refine ⟨_, hs, ?_⟩
    refine inB_exit ?_
    refine thn_normal ?_
    refine AWP.seq ?_
    refine AWP.region ?_
    refine AOps.move rfl rfl ?_
    refine AOps.assign rfl rfl ?_
    refine AOps.nil ?_
    refine thn_normal ?_
    refine AWP.ret ?_
    have ej := Option.some.inj h
    subst ej
    exact Done.ret rfl (Fresh.mk rfl rfl)

theorem strips_Works_ok {t : TTask} {sv : List Int} {plan : List Int} {r : Bool} (h : strips_Works t sv plan = some r) : PureOk Try.prog 37 [.agg [int t.facts, row 1 intI t.init, row 1 intI t.goal, row 4 eTOperator t.operators], .c (row 1 intI sv), .c (row 1 intI plan)] (.c (bool r)) := by
  unfold PureOk
  refine FnOk.enter (rs := [.t 6]) Try.func37 rfl Try.ntmps37 Try.results37 rfl ⟨trivial, trivial⟩ (by kernel_rfl) rfl ?_
  unfold strips_Works at h
  refine AWP.seq ?_
  refine AWP.region ?_
  refine W.box rfl rfl rfl rfl rfl rfl ?_
  refine AOps.assign rfl rfl ?_
  refine AOps.nil ?_
  refine thn_normal ?_
  refine AWP.seq ?_
  obtain ⟨a11, ha11, h⟩ := bind_some h
  refine AWP.region ?_
  refine W.loadAgg rfl rfl rfl rfl rfl rfl rfl ?_
  refine AOps.move rfl rfl ?_
  refine AOps.move rfl rfl ?_
  refine S.fresh rfl rfl rfl rfl (strips_Run_ok ha11) rfl rfl ?_
  refine AOps.assign rfl rfl ?_
  refine AOps.nil ?_
  refine thn_normal ?_
  obtain ⟨t4, hx5, h⟩ := bind_some h
  refine AWP.seqJ (⟨[(6, .c (bool t4))], []⟩) ?_ ?_
  · rcases Bool.eq_false_or_eq_true (decide ((a11.length : Int) = w64 ((plan.length : Int) + 1))) with hb6 | hb6
    · replace hx5 := iteDT hb6 hx5
      obtain ⟨a22, ha22, hx5⟩ := bind_some hx5
      obtain ⟨a26, ha26, hx5⟩ := bind_some hx5
      refine AWP.drawI mixed rfl ?_
      apply DrawSeq.consF; exact rfl; intro E
      refine AOps.move rfl rfl ?_
      exact AOps.nil ⟨rfl, rfl⟩
      exact rfl
      apply DrawSeq.consF; exact rfl; intro E
      refine S.lenO rfl rfl rfl (fun hl13 => ?_)
      exact AOps.nil ⟨rfl, rfl⟩
      exact rfl
      apply DrawSeq.consF; exact rfl; intro E
      refine AOps.move rfl rfl ?_
      exact AOps.nil ⟨rfl, rfl⟩
      exact rfl
      apply DrawSeq.consF; exact rfl; intro E
      refine S.len rfl rfl (fun hl15 => ?_)
      exact AOps.nil ⟨rfl, rfl⟩
      exact rfl
      apply DrawSeq.consF; exact rfl; intro E
      refine S.add rfl rfl rfl ?_
      exact AOps.nil ⟨rfl, rfl⟩
      exact rfl
      apply DrawSeq.consF; exact rfl; intro E
      refine AOps.eql rfl rfl rfl ?_
      exact AOps.nil ⟨rfl, rfl⟩
      exact rfl
      apply DrawSeq.consF; exact rfl; intro E
      refine AOps.move rfl rfl ?_
      exact AOps.nil ⟨rfl, rfl⟩
      exact rfl
      apply DrawSeq.consF; exact rfl; intro E
      refine AOps.guardT rfl rfl rfl hb6 ?_; refine AOps.move rfl rfl ?_
      exact AOps.nil ⟨rfl, rfl⟩
      exact rfl
      apply DrawSeq.consF; exact rfl; intro E
      refine AOps.guardT rfl rfl rfl hb6 ?_; refine AOps.move rfl rfl ?_
      exact AOps.nil ⟨rfl, rfl⟩
      exact rfl
      apply DrawSeq.consF; exact rfl; intro E
      refine AOps.guardT rfl rfl rfl hb6 ?_; refine S.len rfl rfl (fun hl21 => ?_)
      exact AOps.nil ⟨rfl, rfl⟩
      exact rfl
      apply DrawSeq.consF; exact rfl; intro E
      refine AOps.guardT rfl rfl rfl hb6 ?_; refine S.idxO ha22 rfl rfl rfl rfl rfl ?_
      exact AOps.nil ⟨rfl, rfl⟩
      exact rfl
      apply DrawSeq.consF; exact rfl; intro E
      refine AOps.guardT rfl rfl rfl hb6 ?_; refine S.loadO ha22 rfl rfl rfl rfl rfl ?_
      exact AOps.nil ⟨rfl, rfl⟩
      exact rfl
      apply DrawSeq.consF; exact rfl; intro E
      refine AOps.guardT rfl rfl rfl hb6 ?_; refine W.fieldAddr rfl rfl rfl rfl ?_
      exact AOps.nil ⟨rfl, rfl⟩
      exact rfl
      apply DrawSeq.consF; exact rfl; intro E
      refine AOps.guardT rfl rfl rfl hb6 ?_; refine AOps.load rfl rfl rfl rfl rfl rfl ?_
      exact AOps.nil ⟨rfl, rfl⟩
      exact rfl
      apply DrawSeq.consF; exact rfl; intro E
      refine AOps.guardT rfl rfl rfl hb6 ?_; refine AOps.callR rfl rfl rfl rfl (strips_Contains_ok ha26) rfl ?_
      exact AOps.nil ⟨rfl, rfl⟩
      exact rfl
      apply DrawSeq.consF; exact rfl; intro E
      refine AOps.pickT rfl hb6 rfl rfl ?_
      exact AOps.nil ⟨rfl, rfl⟩
      exact rfl
      apply DrawSeq.consF; exact rfl; intro E
      refine AOps.assign rfl rfl ?_
      exact AOps.nil ⟨rfl, rfl⟩
      exact rfl
      refine DrawSeq.done ?_
      dsimp only [envEnd]
      have ej := Option.some.inj hx5
      subst ej
      refine thn_normal ?_
      exact Sub.cut ⟨rfl, trivial⟩ rfl trivial rfl
    · replace hx5 := iteDF hb6 hx5
      refine AWP.drawI mixed rfl ?_
      apply DrawSeq.consF; exact rfl; intro E
      refine AOps.move rfl rfl ?_
      exact AOps.nil ⟨rfl, rfl⟩
      exact rfl
      apply DrawSeq.consF; exact rfl; intro E
      refine S.lenO rfl rfl rfl (fun hl13 => ?_)
      exact AOps.nil ⟨rfl, rfl⟩
      exact rfl
      apply DrawSeq.consF; exact rfl; intro E
      refine AOps.move rfl rfl ?_
      exact AOps.nil ⟨rfl, rfl⟩
      exact rfl
      apply DrawSeq.consF; exact rfl; intro E
      refine S.len rfl rfl (fun hl15 => ?_)
      exact AOps.nil ⟨rfl, rfl⟩
      exact rfl
      apply DrawSeq.consF; exact rfl; intro E
      refine S.add rfl rfl rfl ?_
      exact AOps.nil ⟨rfl, rfl⟩
      exact rfl
      apply DrawSeq.consF; exact rfl; intro E
      refine AOps.eql rfl rfl rfl ?_
      exact AOps.nil ⟨rfl, rfl⟩
      exact rfl
      apply DrawSeq.consF; exact rfl; intro E
      refine AOps.move rfl rfl ?_
      exact AOps.nil ⟨rfl, rfl⟩
      exact rfl
      apply DrawSeq.consF; exact rfl; intro E
      refine AOps.guardF rfl rfl rfl hb6 ?_
      exact AOps.nil ⟨rfl, rfl⟩
      exact rfl
      apply DrawSeq.consF; exact rfl; intro E
      refine AOps.guardF rfl rfl rfl hb6 ?_
      exact AOps.nil ⟨rfl, rfl⟩
      exact rfl
      apply DrawSeq.consF; exact rfl; intro E
      refine AOps.guardF rfl rfl rfl hb6 ?_
      exact AOps.nil ⟨rfl, rfl⟩
      exact rfl
      apply DrawSeq.consF; exact rfl; intro E
      refine AOps.guardF rfl rfl rfl hb6 ?_
      exact AOps.nil ⟨rfl, rfl⟩
      exact rfl
      apply DrawSeq.consF; exact rfl; intro E
      refine AOps.guardF rfl rfl rfl hb6 ?_
      exact AOps.nil ⟨rfl, rfl⟩
      exact rfl
      apply DrawSeq.consF; exact rfl; intro E
      refine AOps.guardF rfl rfl rfl hb6 ?_
      exact AOps.nil ⟨rfl, rfl⟩
      exact rfl
      apply DrawSeq.consF; exact rfl; intro E
      refine AOps.guardF rfl rfl rfl hb6 ?_
      exact AOps.nil ⟨rfl, rfl⟩
      exact rfl
      apply DrawSeq.consF; exact rfl; intro E
      refine AOps.guardF rfl rfl rfl hb6 ?_
      exact AOps.nil ⟨rfl, rfl⟩
      exact rfl
      apply DrawSeq.consF; exact rfl; intro E
      refine AOps.pickF rfl hb6 rfl rfl ?_
      exact AOps.nil ⟨rfl, rfl⟩
      exact rfl
      apply DrawSeq.consF; exact rfl; intro E
      refine AOps.assign rfl rfl ?_
      exact AOps.nil ⟨rfl, rfl⟩
      exact rfl
      refine DrawSeq.done ?_
      dsimp only [envEnd]
      have ej := Option.some.inj hx5
      subst ej
      refine thn_normal ?_
      exact Sub.cut ⟨rfl, trivial⟩ rfl trivial rfl
  · refine AWP.ret ?_
    have ej := Option.some.inj h
    subst ej
    exact Done.ret rfl rfl

theorem strips_Solves_ok {t : TTask} {plan : List Int} {r : Bool × TFault} (h : strips_Solves t plan = some r) : PureOk Try.prog 22 [.agg [int t.facts, row 1 intI t.init, row 1 intI t.goal, row 4 eTOperator t.operators], .c (row 1 intI plan)] (.tup [.c (bool r.1), .agg [int r.2.code, int r.2.index]]) := by
  unfold PureOk
  refine FnOk.enter (rs := [.t 4, .cell 5 29 2]) Try.func22 rfl Try.ntmps22 Try.results22 rfl ⟨trivial, rv _ rfl, trivial⟩ (by kernel_rfl) rfl ?_
  unfold strips_Solves at h
  refine AWP.seq ?_
  refine AWP.region ?_
  refine W.box rfl rfl rfl rfl rfl rfl ?_
  refine AOps.assign rfl rfl ?_
  refine W.alloc rfl rfl rfl rfl ?_
  refine AOps.nil ?_
  refine thn_normal ?_
  refine AWP.seq ?_
  refine AWP.seq ?_
  obtain ⟨a9, ha9, h⟩ := bind_some h
  refine AWP.region ?_
  refine W.loadAgg rfl rfl rfl rfl rfl rfl rfl ?_
  refine AOps.move rfl rfl ?_
  refine AOps.callR rfl rfl rfl rfl (strips_PlanFault_ok ha9) rfl ?_
  refine W.alloc rfl rfl rfl rfl ?_
  refine W.storeAgg rfl rfl rfl rfl rfl rfl rfl ?_
  refine AOps.nil ?_
  refine thn_normal ?_
  refine AWP.seq ?_
  refine AWP.region ?_
  refine W.loadAgg rfl rfl rfl rfl rfl rfl rfl ?_
  refine W.build rfl rfl rfl rfl ?_
  refine AOps.neqP rfl rfl rfl rfl rfl rfl rfl ?_
  refine AOps.nil ?_
  refine thn_normal ?_
  refine AWP.iteB rfl h (fun hc3 h => ?_) (fun hc3 h => ?_)
  · refine AWP.seq ?_
    refine AWP.drawEI [2] mixed rfl rfl rfl ?_
    apply DrawSeqE.consN; exact rfl; exact rfl; intro E
    refine W.loadAgg rfl rfl rfl rfl rfl rfl rfl ?_
    exact AOps.nil ⟨rfl, rfl⟩
    exact rfl
    apply DrawSeqE.consN; exact rfl; exact rfl; intro E
    refine AOps.assign rfl rfl ?_
    exact AOps.nil ⟨rfl, rfl⟩
    exact rfl
    apply DrawSeqE.consE (v := .undef); exact rfl; exact rfl; intro E
    refine W.storeAgg rfl rfl rfl rfl rfl rfl rfl ?_
    exact AOps.nil ⟨rfl, rfl⟩
    exact rfl
    exact rfl
    refine DrawSeqE.done rfl ?_ ?_
    · apply RestI.cons; exact rfl; exact rfl
      first | refine RestK.skip rfl ?_ | (apply RestK.go; exact rfl; exact rfl; intro E; (refine W.loadAgg rfl rfl rfl rfl rfl rfl rfl ?_); exact AOps.nil ⟨rfl, rfl⟩)
      first | refine RestK.skip rfl ?_ | (apply RestK.go; exact rfl; exact rfl; intro E; (refine W.loadAgg rfl rfl rfl rfl rfl rfl rfl ?_); exact AOps.nil ⟨rfl, rfl⟩)
      exact RestK.nil
      apply RestI.cons; exact rfl; exact rfl
      first | refine RestK.skip rfl ?_ | (apply RestK.go; exact rfl; exact rfl; intro E; (refine AOps.assign rfl rfl ?_); exact AOps.nil ⟨rfl, rfl⟩)
      first | refine RestK.skip rfl ?_ | (apply RestK.go; exact rfl; exact rfl; intro E; (refine AOps.assign rfl rfl ?_); exact AOps.nil ⟨rfl, rfl⟩)
      exact RestK.nil
      refine RestI.skip rfl ?_
      exact RestI.nil
    dsimp only [envEnd]
    refine thn_normal ?_
    refine AWP.ret ?_
    refine thn_ret ?_
    have ej := Option.some.inj h
    subst ej
    exact Done.ret rfl rfl
  · refine AWP.skip ?_
    refine thn_normal ?_
    refine AWP.seq ?_
    obtain ⟨a18, ha18, h⟩ := bind_some h
    refine AWP.region ?_
    refine W.loadAgg rfl rfl rfl rfl rfl rfl rfl ?_
    refine W.fieldAddr rfl rfl rfl rfl ?_
    refine AOps.load rfl rfl rfl rfl rfl rfl ?_
    refine AOps.move rfl rfl ?_
    refine AOps.callR rfl rfl rfl rfl (strips_Works_ok ha18) rfl ?_
    refine W.build rfl rfl rfl rfl ?_
    refine AOps.assign rfl rfl ?_
    refine W.storeAgg rfl rfl rfl rfl rfl rfl rfl ?_
    refine AOps.nil ?_
    refine thn_normal ?_
    refine AWP.ret ?_
    have ej := Option.some.inj h
    subst ej
    exact Done.ret rfl rfl

end Ab
