/-
  The program's functions compute what the plain texts say.
-/
import Derived.Test.YtfjbddjoagefkaaMAllx2
namespace Ab
open Go Go.Proofs
set_option maxHeartbeats 4000000
set_option linter.all false
attribute [local irreducible] AWP AOps thn inB Done PureOk FreshOk Sub

theorem law8_MonitorResumes_ok {t : TTask} {plan : List Int} {sv : List Int} {r : Bool} (h : law8_MonitorResumes t plan sv = some r) : PureOk Try.prog 6 [.agg [int t.facts, row 1 intI t.init, row 1 intI t.goal, row 4 eTOperator t.operators], .c (row 1 intI plan), .c (row 1 intI sv)] (.c (bool r)) := by
  unfold PureOk
  refine FnOk.enter (rs := [.t 6]) Try.func6 rfl Try.ntmps6 Try.results6 rfl ⟨trivial, trivial⟩ (by kernel_rfl) rfl ?_
  unfold law8_MonitorResumes at h
  refine AWP.seq ?_
  refine AWP.region ?_
  refine W.box rfl rfl rfl rfl rfl rfl ?_
  refine AOps.assign rfl rfl ?_
  refine AOps.nil ?_
  refine thn_normal ?_
  refine AWP.seq ?_
  obtain ⟨a17, ha17, h⟩ := bind_some h
  refine AWP.region ?_
  refine W.loadAgg rfl rfl rfl rfl rfl rfl rfl ?_
  refine AOps.move rfl rfl ?_
  refine AOps.move rfl rfl ?_
  refine AOps.callR rfl rfl rfl rfl (monitor_Resume_ok ha17) rfl ?_
  refine AOps.move rfl rfl ?_
  refine AOps.extract rfl rfl rfl ?_
  refine AOps.extract rfl rfl rfl ?_
  refine AOps.extract rfl rfl rfl ?_
  refine W.alloc rfl rfl rfl rfl ?_
  refine AOps.assign rfl rfl ?_
  refine AOps.assign rfl rfl ?_
  refine W.storeAgg rfl rfl rfl rfl rfl rfl rfl ?_
  refine AOps.nil ?_
  refine thn_normal ?_
  refine AWP.seq ?_
  refine AWP.seqJ (⟨[(1, .c (row 1 intI plan)), (2, .c (row 1 intI sv)), (3, .c (.ptr 0 0 0)), (7, .c (int a17.1)), (27, .c (bool ((!(decide (a17.2.2.code = 0))) || (!a17.2.1))))], [.one (.cells 4 [[int t.facts, row 1 intI t.init, row 1 intI t.goal, row 4 eTOperator t.operators]]), .one (.cells 2 [[int a17.2.2.code, int a17.2.2.index]])]⟩) ?_ ?_
  · rcases Bool.eq_false_or_eq_true (!(decide (a17.2.2.code = 0))) with hb1 | hb1
    · refine AWP.region ?_
      refine W.fieldAddr rfl rfl rfl rfl ?_
      refine AOps.load rfl rfl rfl rfl rfl rfl ?_
      refine AOps.neq rfl rfl rfl ?_
      refine AOps.move rfl rfl ?_
      refine AOps.guardF rfl rfl rfl hb1 ?_
      refine AOps.guardF rfl rfl rfl hb1 ?_
      refine AOps.pickT rfl hb1 rfl rfl ?_
      refine AOps.nil ?_
      refine thn_normal ?_
      simp only [and_t hb1, or_t hb1, Bool.false_or, Bool.true_or, Bool.false_and, Bool.true_and]
      exact Sub.env ⟨rfl, rfl, rfl, rfl, rfl, trivial⟩
    · refine AWP.region ?_
      refine W.fieldAddr rfl rfl rfl rfl ?_
      refine AOps.load rfl rfl rfl rfl rfl rfl ?_
      refine AOps.neq rfl rfl rfl ?_
      refine AOps.move rfl rfl ?_
      refine AOps.guardT rfl rfl rfl hb1 ?_; refine AOps.move rfl rfl ?_
      refine AOps.guardT rfl rfl rfl hb1 ?_; refine AOps.not rfl rfl ?_
      refine AOps.pickF rfl hb1 rfl rfl ?_
      refine AOps.nil ?_
      refine thn_normal ?_
      simp only [and_f hb1, or_f hb1, Bool.false_or, Bool.true_or, Bool.false_and, Bool.true_and]
      exact Sub.env ⟨rfl, rfl, rfl, rfl, rfl, trivial⟩
  · refine AWP.iteB rfl h (fun hc4 h => ?_) (fun hc4 h => ?_)
    · refine AWP.seq ?_
      obtain ⟨a28, ha28, h⟩ := bind_some h
      refine AWP.region ?_
      refine AOps.callR rfl rfl rfl rfl (law8_watched_ok ha28) rfl ?_
      refine AOps.assign rfl rfl ?_
      refine AOps.nil ?_
      refine thn_normal ?_
      refine AWP.ret ?_
      refine thn_ret ?_
      have ej := Option.some.inj h
      subst ej
      exact Done.ret rfl rfl
    · refine AWP.skip ?_
      refine thn_normal ?_
      refine AWP.seq ?_
      refine AWP.seq ?_
      obtain ⟨a32, ha32, h⟩ := bind_some h
      refine AWP.region ?_
      refine AOps.move rfl rfl ?_
      refine AOps.move rfl rfl ?_
      refine S.len rfl rfl (fun hl31 => ?_)
      refine AOps.callR rfl rfl rfl rfl (ref1_In_ok ha32) rfl ?_
      refine AOps.not rfl rfl ?_
      refine AOps.nil ?_
      refine thn_normal ?_
      refine AWP.iteB rfl h (fun hc5 h => ?_) (fun hc5 h => ?_)
      · refine AWP.seq ?_
        refine AWP.region ?_
        refine AOps.assign rfl rfl ?_
        refine AOps.nil ?_
        refine thn_normal ?_
        refine AWP.ret ?_
        refine thn_ret ?_
        have ej := Option.some.inj h
        subst ej
        exact Done.ret rfl rfl
      · refine AWP.skip ?_
        refine thn_normal ?_
        refine AWP.seq ?_
        refine AWP.region ?_
        refine W.loadAgg rfl rfl rfl rfl rfl rfl rfl ?_
        refine W.alloc rfl rfl rfl rfl ?_
        refine W.storeAgg rfl rfl rfl rfl rfl rfl rfl ?_
        refine AOps.nil ?_
        refine thn_normal ?_
        refine AWP.seq ?_
        refine AWP.region ?_
        refine AOps.move rfl rfl ?_
        refine W.fieldAddr rfl rfl rfl rfl ?_
        refine W.store rfl rfl rfl rfl rfl ?_
        refine AOps.nil ?_
        refine thn_normal ?_
        refine AWP.seq ?_
        obtain ⟨a41, ha41, h⟩ := bind_some h
        obtain ⟨a42, ha42, h⟩ := bind_some h
        refine AWP.drawEI [8, 10] mixed rfl rfl rfl ?_
        apply DrawSeqE.consN; exact rfl; exact rfl; intro E
        refine W.loadAgg rfl rfl rfl rfl rfl rfl rfl ?_
        exact AOps.nil ⟨rfl, rfl⟩
        exact rfl
        apply DrawSeqE.consN; exact rfl; exact rfl; intro E
        refine AOps.move rfl rfl ?_
        exact AOps.nil ⟨rfl, rfl⟩
        exact rfl
        apply DrawSeqE.consN; exact rfl; exact rfl; intro E
        refine AOps.move rfl rfl ?_
        exact AOps.nil ⟨rfl, rfl⟩
        exact rfl
        apply DrawSeqE.consN; exact rfl; exact rfl; intro E
        refine S.subFrom ha41 rfl rfl rfl ?_
        exact AOps.nil ⟨rfl, rfl⟩
        exact rfl
        apply DrawSeqE.consN; exact rfl; exact rfl; intro E
        refine AOps.callR rfl rfl rfl rfl (strips_Solves_ok ha42) rfl ?_
        exact AOps.nil ⟨rfl, rfl⟩
        exact rfl
        apply DrawSeqE.consN; exact rfl; exact rfl; intro E
        refine AOps.move rfl rfl ?_
        exact AOps.nil ⟨rfl, rfl⟩
        exact rfl
        apply DrawSeqE.consN; exact rfl; exact rfl; intro E
        refine AOps.extract rfl rfl rfl ?_
        exact AOps.nil ⟨rfl, rfl⟩
        exact rfl
        apply DrawSeqE.consN; exact rfl; exact rfl; intro E
        refine AOps.extract rfl rfl rfl ?_
        exact AOps.nil ⟨rfl, rfl⟩
        exact rfl
        apply DrawSeqE.consE; exact rfl; exact rfl; intro E
        refine W.alloc rfl rfl rfl rfl ?_
        exact AOps.nil ⟨rfl, rfl⟩
        exact rfl
        exact rfl
        apply DrawSeqE.consN; exact rfl; exact rfl; intro E
        refine AOps.assign rfl rfl ?_
        exact AOps.nil ⟨rfl, rfl⟩
        exact rfl
        apply DrawSeqE.consE (v := .undef); exact rfl; exact rfl; intro E
        refine W.storeAgg rfl rfl rfl rfl rfl rfl rfl ?_
        exact AOps.nil ⟨rfl, rfl⟩
        exact rfl
        exact rfl
        refine DrawSeqE.done rfl ?_ ?_
        · apply RestI.cons; exact rfl; exact rfl
          first | refine RestK.skip rfl ?_ | (apply RestK.go; exact rfl; exact rfl; intro E; (refine W.loadAgg rfl rfl rfl rfl rfl rfl rfl ?_); exact AOps.nil ⟨rfl, rfl⟩)
          first | refine RestK.skip rfl ?_ | (apply RestK.go; exact rfl; exact rfl; intro E; (refine W.loadAgg rfl rfl rfl rfl rfl rfl rfl ?_); exact AOps.nil ⟨rfl, rfl⟩)
          first | refine RestK.skip rfl ?_ | (apply RestK.go; exact rfl; exact rfl; intro E; (refine W.loadAgg rfl rfl rfl rfl rfl rfl rfl ?_); exact AOps.nil ⟨rfl, rfl⟩)
          exact RestK.nil
          apply RestI.cons; exact rfl; exact rfl
          first | refine RestK.skip rfl ?_ | (apply RestK.go; exact rfl; exact rfl; intro E; (refine AOps.move rfl rfl ?_); exact AOps.nil ⟨rfl, rfl⟩)
          first | refine RestK.skip rfl ?_ | (apply RestK.go; exact rfl; exact rfl; intro E; (refine AOps.move rfl rfl ?_); exact AOps.nil ⟨rfl, rfl⟩)
          first | refine RestK.skip rfl ?_ | (apply RestK.go; exact rfl; exact rfl; intro E; (refine AOps.move rfl rfl ?_); exact AOps.nil ⟨rfl, rfl⟩)
          exact RestK.nil
          apply RestI.cons; exact rfl; exact rfl
          first | refine RestK.skip rfl ?_ | (apply RestK.go; exact rfl; exact rfl; intro E; (refine AOps.move rfl rfl ?_); exact AOps.nil ⟨rfl, rfl⟩)
          first | refine RestK.skip rfl ?_ | (apply RestK.go; exact rfl; exact rfl; intro E; (refine AOps.move rfl rfl ?_); exact AOps.nil ⟨rfl, rfl⟩)
          first | refine RestK.skip rfl ?_ | (apply RestK.go; exact rfl; exact rfl; intro E; (refine AOps.move rfl rfl ?_); exact AOps.nil ⟨rfl, rfl⟩)
          exact RestK.nil
          apply RestI.cons; exact rfl; exact rfl
          first | refine RestK.skip rfl ?_ | (apply RestK.go; exact rfl; exact rfl; intro E; (refine S.subFrom ha41 rfl rfl rfl ?_); exact AOps.nil ⟨rfl, rfl⟩)
          first | refine RestK.skip rfl ?_ | (apply RestK.go; exact rfl; exact rfl; intro E; (refine S.subFrom ha41 rfl rfl rfl ?_); exact AOps.nil ⟨rfl, rfl⟩)
          first | refine RestK.skip rfl ?_ | (apply RestK.go; exact rfl; exact rfl; intro E; (refine S.subFrom ha41 rfl rfl rfl ?_); exact AOps.nil ⟨rfl, rfl⟩)
          exact RestK.nil
          apply RestI.cons; exact rfl; exact rfl
          first | refine RestK.skip rfl ?_ | (apply RestK.go; exact rfl; exact rfl; intro E; (refine AOps.callR rfl rfl rfl rfl (strips_Solves_ok ha42) rfl ?_); exact AOps.nil ⟨rfl, rfl⟩)
          first | refine RestK.skip rfl ?_ | (apply RestK.go; exact rfl; exact rfl; intro E; (refine AOps.callR rfl rfl rfl rfl (strips_Solves_ok ha42) rfl ?_); exact AOps.nil ⟨rfl, rfl⟩)
          first | refine RestK.skip rfl ?_ | (apply RestK.go; exact rfl; exact rfl; intro E; (refine AOps.callR rfl rfl rfl rfl (strips_Solves_ok ha42) rfl ?_); exact AOps.nil ⟨rfl, rfl⟩)
          exact RestK.nil
          apply RestI.cons; exact rfl; exact rfl
          first | refine RestK.skip rfl ?_ | (apply RestK.go; exact rfl; exact rfl; intro E; (refine AOps.move rfl rfl ?_); exact AOps.nil ⟨rfl, rfl⟩)
          first | refine RestK.skip rfl ?_ | (apply RestK.go; exact rfl; exact rfl; intro E; (refine AOps.move rfl rfl ?_); exact AOps.nil ⟨rfl, rfl⟩)
          first | refine RestK.skip rfl ?_ | (apply RestK.go; exact rfl; exact rfl; intro E; (refine AOps.move rfl rfl ?_); exact AOps.nil ⟨rfl, rfl⟩)
          exact RestK.nil
          apply RestI.cons; exact rfl; exact rfl
          first | refine RestK.skip rfl ?_ | (apply RestK.go; exact rfl; exact rfl; intro E; (refine AOps.extract rfl rfl rfl ?_); exact AOps.nil ⟨rfl, rfl⟩)
          first | refine RestK.skip rfl ?_ | (apply RestK.go; exact rfl; exact rfl; intro E; (refine AOps.extract rfl rfl rfl ?_); exact AOps.nil ⟨rfl, rfl⟩)
          first | refine RestK.skip rfl ?_ | (apply RestK.go; exact rfl; exact rfl; intro E; (refine AOps.extract rfl rfl rfl ?_); exact AOps.nil ⟨rfl, rfl⟩)
          exact RestK.nil
          apply RestI.cons; exact rfl; exact rfl
          first | refine RestK.skip rfl ?_ | (apply RestK.go; exact rfl; exact rfl; intro E; (refine AOps.extract rfl rfl rfl ?_); exact AOps.nil ⟨rfl, rfl⟩)
          first | refine RestK.skip rfl ?_ | (apply RestK.go; exact rfl; exact rfl; intro E; (refine AOps.extract rfl rfl rfl ?_); exact AOps.nil ⟨rfl, rfl⟩)
          first | refine RestK.skip rfl ?_ | (apply RestK.go; exact rfl; exact rfl; intro E; (refine AOps.extract rfl rfl rfl ?_); exact AOps.nil ⟨rfl, rfl⟩)
          exact RestK.nil
          refine RestI.skip rfl ?_
          apply RestI.cons; exact rfl; exact rfl
          first | refine RestK.skip rfl ?_ | (apply RestK.go; exact rfl; exact rfl; intro E; (refine AOps.assign rfl rfl ?_); exact AOps.nil ⟨rfl, rfl⟩)
          first | refine RestK.skip rfl ?_ | (apply RestK.go; exact rfl; exact rfl; intro E; (refine AOps.assign rfl rfl ?_); exact AOps.nil ⟨rfl, rfl⟩)
          first | refine RestK.skip rfl ?_ | (apply RestK.go; exact rfl; exact rfl; intro E; (refine AOps.assign rfl rfl ?_); exact AOps.nil ⟨rfl, rfl⟩)
          exact RestK.nil
          refine RestI.skip rfl ?_
          exact RestI.nil
        dsimp only [envEnd]
        refine thn_normal ?_
        obtain ⟨t6, hx7, h⟩ := bind_some h
        refine AWP.seqJ (⟨[(6, .c (bool t6))], []⟩) ?_ ?_
        · rcases Bool.eq_false_or_eq_true (decide (a42.2.code = 0)) with hb8 | hb8
          · replace hx7 := iteDT hb8 hx7
            rcases Bool.eq_false_or_eq_true (a42.1) with hb9 | hb9
            · replace hx7 := iteBT hb9 hx7
              obtain ⟨a52, ha52, hx7⟩ := bind_some hx7
              refine AWP.region ?_
              refine W.fieldAddr rfl rfl rfl rfl ?_
              refine AOps.load rfl rfl rfl rfl rfl rfl ?_
              refine AOps.eql rfl rfl rfl ?_
              refine AOps.move rfl rfl ?_
              refine AOps.guardT rfl rfl rfl hb8 ?_; refine AOps.move rfl rfl ?_
              refine AOps.pickT rfl hb8 rfl rfl ?_
              refine AOps.move rfl rfl ?_
              refine AOps.guardT rfl rfl rfl hb9 ?_; refine AOps.callR rfl rfl rfl rfl (law8_watched_ok ha52) rfl ?_
              refine AOps.pickT rfl hb9 rfl rfl ?_
              refine AOps.assign rfl rfl ?_
              refine AOps.nil ?_
              have ej := Option.some.inj hx7
              subst ej
              refine thn_normal ?_
              exact Sub.cut ⟨rfl, trivial⟩ rfl trivial rfl
            · replace hx7 := iteBF hb9 hx7
              refine AWP.region ?_
              refine W.fieldAddr rfl rfl rfl rfl ?_
              refine AOps.load rfl rfl rfl rfl rfl rfl ?_
              refine AOps.eql rfl rfl rfl ?_
              refine AOps.move rfl rfl ?_
              refine AOps.guardT rfl rfl rfl hb8 ?_; refine AOps.move rfl rfl ?_
              refine AOps.pickT rfl hb8 rfl rfl ?_
              refine AOps.move rfl rfl ?_
              refine AOps.guardF rfl rfl rfl hb9 ?_
              refine AOps.pickF rfl hb9 rfl rfl ?_
              refine AOps.assign rfl rfl ?_
              refine AOps.nil ?_
              have ej := Option.some.inj hx7
              subst ej
              refine thn_normal ?_
              exact Sub.cut ⟨rfl, trivial⟩ rfl trivial rfl
          · replace hx7 := iteDF hb8 hx7
            refine AWP.region ?_
            refine W.fieldAddr rfl rfl rfl rfl ?_
            refine AOps.load rfl rfl rfl rfl rfl rfl ?_
            refine AOps.eql rfl rfl rfl ?_
            refine AOps.move rfl rfl ?_
            refine AOps.guardF rfl rfl rfl hb8 ?_
            refine AOps.pickF rfl hb8 rfl rfl ?_
            refine AOps.move rfl rfl ?_
            refine AOps.guardF rfl rfl rfl rfl ?_
            refine AOps.pickF rfl rfl rfl rfl ?_
            refine AOps.assign rfl rfl ?_
            refine AOps.nil ?_
            have ej := Option.some.inj hx7
            subst ej
            refine thn_normal ?_
            exact Sub.cut ⟨rfl, trivial⟩ rfl trivial rfl
        · refine AWP.ret ?_
          have ej := Option.some.inj h
          subst ej
          exact Done.ret rfl rfl

theorem law8_MonitorStartsPlans_ok {t : TTask} {plan : List Int} {iv : Int} {r : Bool} (h : law8_MonitorStartsPlans t plan iv = some r) : PureOk Try.prog 7 [.agg [int t.facts, row 1 intI t.init, row 1 intI t.goal, row 4 eTOperator t.operators], .c (row 1 intI plan), .c (int iv)] (.c (bool r)) := by
  unfold PureOk
  refine FnOk.enter (rs := [.t 6]) Try.func7 rfl Try.ntmps7 Try.results7 rfl ⟨trivial, trivial⟩ (by kernel_rfl) rfl ?_
  unfold law8_MonitorStartsPlans at h
  refine AWP.seq ?_
  refine AWP.region ?_
  refine W.box rfl rfl rfl rfl rfl rfl ?_
  refine AOps.assign rfl rfl ?_
  refine AOps.nil ?_
  refine thn_normal ?_
  refine AWP.seq ?_
  obtain ⟨a17, ha17, h⟩ := bind_some h
  refine AWP.region ?_
  refine W.loadAgg rfl rfl rfl rfl rfl rfl rfl ?_
  refine AOps.move rfl rfl ?_
  refine AOps.callR rfl rfl rfl rfl (strips_Solves_ok ha17) rfl ?_
  refine AOps.move rfl rfl ?_
  refine AOps.extract rfl rfl rfl ?_
  refine AOps.extract rfl rfl rfl ?_
  refine W.alloc rfl rfl rfl rfl ?_
  refine AOps.assign rfl rfl ?_
  refine W.storeAgg rfl rfl rfl rfl rfl rfl rfl ?_
  refine AOps.nil ?_
  refine thn_normal ?_
  refine AWP.seq ?_
  obtain ⟨t4, hx5, h⟩ := bind_some h
  refine AWP.seqJ (⟨[(1, .c (row 1 intI plan)), (2, .c (int iv)), (3, .c (.ptr 0 0 0)), (33, .c (bool t4))], [.one (.cells 4 [[int t.facts, row 1 intI t.init, row 1 intI t.goal, row 4 eTOperator t.operators]])]⟩) ?_ ?_
  · rcases Bool.eq_false_or_eq_true (!(decide (a17.2.code = 0))) with hb6 | hb6
    · replace hx5 := iteBT hb6 hx5
      refine AWP.region ?_
      refine W.fieldAddr rfl rfl rfl rfl ?_
      refine AOps.load rfl rfl rfl rfl rfl rfl ?_
      refine AOps.neq rfl rfl rfl ?_
      refine AOps.move rfl rfl ?_
      refine AOps.guardF rfl rfl rfl hb6 ?_
      refine AOps.guardF rfl rfl rfl hb6 ?_
      refine AOps.pickT rfl hb6 rfl rfl ?_
      refine AOps.move rfl rfl ?_
      refine AOps.guardF rfl rfl rfl rfl ?_
      refine AOps.guardF rfl rfl rfl rfl ?_
      refine AOps.guardF rfl rfl rfl rfl ?_
      refine AOps.guardF rfl rfl rfl rfl ?_
      refine AOps.guardF rfl rfl rfl rfl ?_
      refine AOps.pickT rfl rfl rfl rfl ?_
      refine AOps.nil ?_
      have ej := Option.some.inj hx5
      subst ej
      refine thn_normal ?_
      exact Sub.cut ⟨rfl, rfl, rfl, rfl, trivial⟩ rfl ⟨.one rfl, trivial⟩ rfl
    · replace hx5 := iteBF hb6 hx5
      rcases Bool.eq_false_or_eq_true (!a17.1) with hb7 | hb7
      · replace hx5 := iteBT hb7 hx5
        refine AWP.region ?_
        refine W.fieldAddr rfl rfl rfl rfl ?_
        refine AOps.load rfl rfl rfl rfl rfl rfl ?_
        refine AOps.neq rfl rfl rfl ?_
        refine AOps.move rfl rfl ?_
        refine AOps.guardT rfl rfl rfl hb6 ?_; refine AOps.move rfl rfl ?_
        refine AOps.guardT rfl rfl rfl hb6 ?_; refine AOps.not rfl rfl ?_
        refine AOps.pickF rfl hb6 rfl rfl ?_
        refine AOps.move rfl rfl ?_
        refine AOps.guardF rfl rfl rfl hb7 ?_
        refine AOps.guardF rfl rfl rfl hb7 ?_
        refine AOps.guardF rfl rfl rfl hb7 ?_
        refine AOps.guardF rfl rfl rfl hb7 ?_
        refine AOps.guardF rfl rfl rfl hb7 ?_
        refine AOps.pickT rfl hb7 rfl rfl ?_
        refine AOps.nil ?_
        have ej := Option.some.inj hx5
        subst ej
        refine thn_normal ?_
        exact Sub.cut ⟨rfl, rfl, rfl, rfl, trivial⟩ rfl ⟨.one rfl, trivial⟩ rfl
      · replace hx5 := iteBF hb7 hx5
        obtain ⟨a31, ha31, hx5⟩ := bind_some hx5
        refine AWP.region ?_
        refine W.fieldAddr rfl rfl rfl rfl ?_
        refine AOps.load rfl rfl rfl rfl rfl rfl ?_
        refine AOps.neq rfl rfl rfl ?_
        refine AOps.move rfl rfl ?_
        refine AOps.guardT rfl rfl rfl hb6 ?_; refine AOps.move rfl rfl ?_
        refine AOps.guardT rfl rfl rfl hb6 ?_; refine AOps.not rfl rfl ?_
        refine AOps.pickF rfl hb6 rfl rfl ?_
        refine AOps.move rfl rfl ?_
        refine AOps.guardT rfl rfl rfl hb7 ?_; refine AOps.move rfl rfl ?_
        refine AOps.guardT rfl rfl rfl hb7 ?_; refine AOps.move rfl rfl ?_
        refine AOps.guardT rfl rfl rfl hb7 ?_; refine S.len rfl rfl (fun hl30 => ?_)
        refine AOps.guardT rfl rfl rfl hb7 ?_; refine AOps.callR rfl rfl rfl rfl (ref1_In_ok ha31) rfl ?_
        refine AOps.guardT rfl rfl rfl hb7 ?_; refine AOps.not rfl rfl ?_
        refine AOps.pickF rfl hb7 rfl rfl ?_
        refine AOps.nil ?_
        have ej := Option.some.inj hx5
        subst ej
        refine thn_normal ?_
        exact Sub.cut ⟨rfl, rfl, rfl, rfl, trivial⟩ rfl ⟨.one rfl, trivial⟩ rfl
  · refine AWP.iteB rfl h (fun hc8 h => ?_) (fun hc8 h => ?_)
    · refine AWP.seq ?_
      obtain ⟨a34, ha34, h⟩ := bind_some h
      refine AWP.region ?_
      refine AOps.callR rfl rfl rfl rfl (law8_watched_ok ha34) rfl ?_
      refine AOps.assign rfl rfl ?_
      refine AOps.nil ?_
      refine thn_normal ?_
      refine AWP.ret ?_
      refine thn_ret ?_
      have ej := Option.some.inj h
      subst ej
      exact Done.ret rfl rfl
    · refine AWP.skip ?_
      refine thn_normal ?_
      refine AWP.seq ?_
      obtain ⟨a41, ha41, h⟩ := bind_some h
      obtain ⟨a42, ha42, h⟩ := bind_some h
      refine AWP.drawI mixed rfl ?_
      apply DrawSeq.consF; exact rfl; intro E
      refine W.loadAgg rfl rfl rfl rfl rfl rfl rfl ?_
      exact AOps.nil ⟨rfl, rfl⟩
      exact rfl
      apply DrawSeq.consF; exact rfl; intro E
      refine W.fieldAddr rfl rfl rfl rfl ?_
      exact AOps.nil ⟨rfl, rfl⟩
      exact rfl
      apply DrawSeq.consF; exact rfl; intro E
      refine AOps.load rfl rfl rfl rfl rfl rfl ?_
      exact AOps.nil ⟨rfl, rfl⟩
      exact rfl
      apply DrawSeq.consF; exact rfl; intro E
      refine AOps.move rfl rfl ?_
      exact AOps.nil ⟨rfl, rfl⟩
      exact rfl
      apply DrawSeq.consF; exact rfl; intro E
      refine AOps.move rfl rfl ?_
      exact AOps.nil ⟨rfl, rfl⟩
      exact rfl
      apply DrawSeq.consF; exact rfl; intro E
      refine S.subTo ha41 rfl rfl rfl ?_
      exact AOps.nil ⟨rfl, rfl⟩
      exact rfl
      apply DrawSeq.consF; exact rfl; intro E
      refine AOps.callR rfl rfl rfl rfl (ref1_Ends_ok ha42) rfl ?_
      exact AOps.nil ⟨rfl, rfl⟩
      exact rfl
      apply DrawSeq.consF; exact rfl; intro E
      refine AOps.move rfl rfl ?_
      exact AOps.nil ⟨rfl, rfl⟩
      exact rfl
      apply DrawSeq.consF; exact rfl; intro E
      refine AOps.extract rfl rfl rfl ?_
      exact AOps.nil ⟨rfl, rfl⟩
      exact rfl
      apply DrawSeq.consF; exact rfl; intro E
      refine AOps.extract rfl rfl rfl ?_
      exact AOps.nil ⟨rfl, rfl⟩
      exact rfl
      apply DrawSeq.consF; exact rfl; intro E
      refine AOps.assign rfl rfl ?_
      exact AOps.nil ⟨rfl, rfl⟩
      exact rfl
      apply DrawSeq.consF; exact rfl; intro E
      refine AOps.assign rfl rfl ?_
      exact AOps.nil ⟨rfl, rfl⟩
      exact rfl
      refine DrawSeq.done ?_
      dsimp only [envEnd]
      refine thn_normal ?_
      refine AWP.seq ?_
      obtain ⟨a49, ha49, h⟩ := bind_some h
      refine AWP.region ?_
      refine W.loadAgg rfl rfl rfl rfl rfl rfl rfl ?_
      refine AOps.move rfl rfl ?_
      refine AOps.move rfl rfl ?_
      refine AOps.callR rfl rfl rfl rfl (monitor_Resume_ok ha49) rfl ?_
      refine AOps.move rfl rfl ?_
      refine AOps.extract rfl rfl rfl ?_
      refine AOps.extract rfl rfl rfl ?_
      refine AOps.extract rfl rfl rfl ?_
      refine W.alloc rfl rfl rfl rfl ?_
      refine AOps.assign rfl rfl ?_
      refine AOps.assign rfl rfl ?_
      refine W.storeAgg rfl rfl rfl rfl rfl rfl rfl ?_
      refine AOps.nil ?_
      refine thn_normal ?_
      obtain ⟨t9, hx10, h⟩ := bind_some h
      refine AWP.seqJ (⟨[(6, .c (bool t9))], []⟩) ?_ ?_
      · rcases Bool.eq_false_or_eq_true (a42.2) with hb11 | hb11
        · replace hx10 := iteBT hb11 hx10
          rcases Bool.eq_false_or_eq_true (decide (a49.2.2.code = 0)) with hb12 | hb12
          · replace hx10 := iteDT hb12 hx10
            rcases Bool.eq_false_or_eq_true (a49.2.1) with hb13 | hb13
            · replace hx10 := iteBT hb13 hx10
              rcases Bool.eq_false_or_eq_true (decide (iv ≤ a49.1)) with hb14 | hb14
              · replace hx10 := iteDT hb14 hx10
                obtain ⟨a68, ha68, hx10⟩ := bind_some hx10
                refine AWP.region ?_
                refine AOps.move rfl rfl ?_
                refine AOps.move rfl rfl ?_
                refine AOps.guardT rfl rfl rfl hb11 ?_; refine W.fieldAddr rfl rfl rfl rfl ?_
                refine AOps.guardT rfl rfl rfl hb11 ?_; refine AOps.load rfl rfl rfl rfl rfl rfl ?_
                refine AOps.guardT rfl rfl rfl hb11 ?_; refine AOps.eql rfl rfl rfl ?_
                refine AOps.pickT rfl hb11 rfl rfl ?_
                refine AOps.move rfl rfl ?_
                refine AOps.guardT rfl rfl rfl hb12 ?_; refine AOps.move rfl rfl ?_
                refine AOps.pickT rfl hb12 rfl rfl ?_
                refine AOps.move rfl rfl ?_
                refine AOps.guardT rfl rfl rfl hb13 ?_; refine AOps.move rfl rfl ?_
                refine AOps.guardT rfl rfl rfl hb13 ?_; refine AOps.move rfl rfl ?_
                refine AOps.guardT rfl rfl rfl hb13 ?_; refine AOps.geq rfl rfl rfl ?_
                refine AOps.pickT rfl hb13 rfl rfl ?_
                refine AOps.move rfl rfl ?_
                refine AOps.guardT rfl rfl rfl hb14 ?_; refine AOps.callR rfl rfl rfl rfl (law8_watched_ok ha68) rfl ?_
                refine AOps.pickT rfl hb14 rfl rfl ?_
                refine AOps.assign rfl rfl ?_
                refine AOps.nil ?_
                have ej := Option.some.inj hx10
                subst ej
                refine thn_normal ?_
                exact Sub.cut ⟨rfl, trivial⟩ rfl trivial rfl
              · replace hx10 := iteDF hb14 hx10
                refine AWP.region ?_
                refine AOps.move rfl rfl ?_
                refine AOps.move rfl rfl ?_
                refine AOps.guardT rfl rfl rfl hb11 ?_; refine W.fieldAddr rfl rfl rfl rfl ?_
                refine AOps.guardT rfl rfl rfl hb11 ?_; refine AOps.load rfl rfl rfl rfl rfl rfl ?_
                refine AOps.guardT rfl rfl rfl hb11 ?_; refine AOps.eql rfl rfl rfl ?_
                refine AOps.pickT rfl hb11 rfl rfl ?_
                refine AOps.move rfl rfl ?_
                refine AOps.guardT rfl rfl rfl hb12 ?_; refine AOps.move rfl rfl ?_
                refine AOps.pickT rfl hb12 rfl rfl ?_
                refine AOps.move rfl rfl ?_
                refine AOps.guardT rfl rfl rfl hb13 ?_; refine AOps.move rfl rfl ?_
                refine AOps.guardT rfl rfl rfl hb13 ?_; refine AOps.move rfl rfl ?_
                refine AOps.guardT rfl rfl rfl hb13 ?_; refine AOps.geq rfl rfl rfl ?_
                refine AOps.pickT rfl hb13 rfl rfl ?_
                refine AOps.move rfl rfl ?_
                refine AOps.guardF rfl rfl rfl hb14 ?_
                refine AOps.pickF rfl hb14 rfl rfl ?_
                refine AOps.assign rfl rfl ?_
                refine AOps.nil ?_
                have ej := Option.some.inj hx10
                subst ej
                refine thn_normal ?_
                exact Sub.cut ⟨rfl, trivial⟩ rfl trivial rfl
            · replace hx10 := iteBF hb13 hx10
              refine AWP.region ?_
              refine AOps.move rfl rfl ?_
              refine AOps.move rfl rfl ?_
              refine AOps.guardT rfl rfl rfl hb11 ?_; refine W.fieldAddr rfl rfl rfl rfl ?_
              refine AOps.guardT rfl rfl rfl hb11 ?_; refine AOps.load rfl rfl rfl rfl rfl rfl ?_
              refine AOps.guardT rfl rfl rfl hb11 ?_; refine AOps.eql rfl rfl rfl ?_
              refine AOps.pickT rfl hb11 rfl rfl ?_
              refine AOps.move rfl rfl ?_
              refine AOps.guardT rfl rfl rfl hb12 ?_; refine AOps.move rfl rfl ?_
              refine AOps.pickT rfl hb12 rfl rfl ?_
              refine AOps.move rfl rfl ?_
              refine AOps.guardF rfl rfl rfl hb13 ?_
              refine AOps.guardF rfl rfl rfl hb13 ?_
              refine AOps.guardF rfl rfl rfl hb13 ?_
              refine AOps.pickF rfl hb13 rfl rfl ?_
              refine AOps.move rfl rfl ?_
              refine AOps.guardF rfl rfl rfl rfl ?_
              refine AOps.pickF rfl rfl rfl rfl ?_
              refine AOps.assign rfl rfl ?_
              refine AOps.nil ?_
              have ej := Option.some.inj hx10
              subst ej
              refine thn_normal ?_
              exact Sub.cut ⟨rfl, trivial⟩ rfl trivial rfl
          · replace hx10 := iteDF hb12 hx10
            refine AWP.region ?_
            refine AOps.move rfl rfl ?_
            refine AOps.move rfl rfl ?_
            refine AOps.guardT rfl rfl rfl hb11 ?_; refine W.fieldAddr rfl rfl rfl rfl ?_
            refine AOps.guardT rfl rfl rfl hb11 ?_; refine AOps.load rfl rfl rfl rfl rfl rfl ?_
            refine AOps.guardT rfl rfl rfl hb11 ?_; refine AOps.eql rfl rfl rfl ?_
            refine AOps.pickT rfl hb11 rfl rfl ?_
            refine AOps.move rfl rfl ?_
            refine AOps.guardF rfl rfl rfl hb12 ?_
            refine AOps.pickF rfl hb12 rfl rfl ?_
            refine AOps.move rfl rfl ?_
            refine AOps.guardF rfl rfl rfl rfl ?_
            refine AOps.guardF rfl rfl rfl rfl ?_
            refine AOps.guardF rfl rfl rfl rfl ?_
            refine AOps.pickF rfl rfl rfl rfl ?_
            refine AOps.move rfl rfl ?_
            refine AOps.guardF rfl rfl rfl rfl ?_
            refine AOps.pickF rfl rfl rfl rfl ?_
            refine AOps.assign rfl rfl ?_
            refine AOps.nil ?_
            have ej := Option.some.inj hx10
            subst ej
            refine thn_normal ?_
            exact Sub.cut ⟨rfl, trivial⟩ rfl trivial rfl
        · replace hx10 := iteBF hb11 hx10
          refine AWP.region ?_
          refine AOps.move rfl rfl ?_
          refine AOps.move rfl rfl ?_
          refine AOps.guardF rfl rfl rfl hb11 ?_
          refine AOps.guardF rfl rfl rfl hb11 ?_
          refine AOps.guardF rfl rfl rfl hb11 ?_
          refine AOps.pickF rfl hb11 rfl rfl ?_
          refine AOps.move rfl rfl ?_
          refine AOps.guardF rfl rfl rfl rfl ?_
          refine AOps.pickF rfl rfl rfl rfl ?_
          refine AOps.move rfl rfl ?_
          refine AOps.guardF rfl rfl rfl rfl ?_
          refine AOps.guardF rfl rfl rfl rfl ?_
          refine AOps.guardF rfl rfl rfl rfl ?_
          refine AOps.pickF rfl rfl rfl rfl ?_
          refine AOps.move rfl rfl ?_
          refine AOps.guardF rfl rfl rfl rfl ?_
          refine AOps.pickF rfl rfl rfl rfl ?_
          refine AOps.assign rfl rfl ?_
          refine AOps.nil ?_
          have ej := Option.some.inj hx10
          subst ej
          refine thn_normal ?_
          exact Sub.cut ⟨rfl, trivial⟩ rfl trivial rfl
      · refine AWP.ret ?_
        have ej := Option.some.inj h
        subst ej
        exact Done.ret rfl rfl

end Ab
